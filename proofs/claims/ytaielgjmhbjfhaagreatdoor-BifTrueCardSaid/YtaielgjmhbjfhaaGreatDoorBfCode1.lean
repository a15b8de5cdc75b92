/-
  THE ABSTRACT MACHINE's code of the functions that the statements of package bif reach (part 1): printed by a program of this session's own; BfTie shows that it is what the translation gives.
-/
import Derived.Test.YtaielgjmhbjfhaaGreatDoorAmCore
set_option linter.unusedVariables false
namespace Go.Bf
open Go.AM
/-! ### 3: heddle/heddlelaw13.BifNames (57 slots) -/
def a3_0 : List AOper := [
 ⟨some 4, .mv (.c (.bool false)), none⟩]
def a3_1 : List AOper := [
 ⟨some 12, .call 11 [], none⟩,
 ⟨some 13, .call 12 [], none⟩,
 ⟨some 5, .mv (.t 12), none⟩,
 ⟨some 6, .mv (.t 13), none⟩]
def a3_2 : List AOper := [
 ⟨some 14, .mv (.t 5), none⟩,
 ⟨some 15, .len false (.t 14), none⟩,
 ⟨some 16, .mv (.t 6), none⟩,
 ⟨some 17, .len false (.t 16), none⟩,
 ⟨some 18, .bin .neq (.t 15) (.t 17), none⟩]
def a3_3 : List AOper := [
 ⟨some 4, .mv (.c (.bool false)), none⟩]
def a3_4 : List AOper := [
 ⟨some 7, .mv (.c (.int .i64 0)), none⟩]
def a3_5 : List AOper := [
 ⟨some 19, .mv (.t 7), none⟩,
 ⟨some 20, .mv (.t 5), none⟩,
 ⟨some 21, .len false (.t 20), none⟩,
 ⟨some 22, .bin .lss (.t 19) (.t 21), none⟩]
def a3_6 : List AOper := [
 ⟨some 25, .mv (.t 5), none⟩,
 ⟨some 26, .mv (.t 7), none⟩,
 ⟨some 27, .idxAddr 4 (.t 25) (.t 26), none⟩,
 ⟨some 28, .load true 4 (.t 27), none⟩,
 ⟨some 29, .mv (.t 6), none⟩,
 ⟨some 30, .mv (.t 7), none⟩,
 ⟨some 31, .idxAddr 4 (.t 29) (.t 30), none⟩,
 ⟨some 32, .load true 4 (.t 31), none⟩,
 ⟨some 33, .eq true (.struct [(0, 1, false, .str), (1, 1, false, .int), (2, 1, false, .int), (3, 1, false, .bool)]) (.t 28) (.t 32), none⟩]
def a3_6b : List Nat := [0, 0, 3, 7, 0, 0, 48, 112, 255]
def a3_7 : List AOper := [
 ⟨some 4, .mv (.c (.bool false)), none⟩]
def a3_8 : List AOper := [
 ⟨some 23, .mv (.t 7), none⟩,
 ⟨some 24, .bin .add (.t 23) (.c (.int .i64 1)), none⟩,
 ⟨some 7, .mv (.t 24), none⟩]
def a3_l9 : AC := (.seq (.seq (.ops a3_5) (.cond (.t 22) .skip (.exit 0))) (.seq (.block 1 (.seq (.draw a3_6 a3_6b) (.cond (.t 33) (.seq (.ops a3_7) .ret) .skip))) (.ops a3_8)))
def a3_10 : List AOper := [
 ⟨some 35, .mv (.t 0), none⟩,
 ⟨some 36, .mv (.t 1), none⟩,
 ⟨some 37, .call 13 [(.t 35), (.t 36)], none⟩,
 ⟨some 34, .mv (.t 37), none⟩,
 ⟨some 38, .extract (.t 34) 0, none⟩,
 ⟨some 39, .extract (.t 34) 1, none⟩,
 ⟨some 8, .alloc [(.str []), (.int .i64 0), (.int .i64 0), (.bool false)], none⟩,
 ⟨none, .store 4 (.t 8) (.t 38), none⟩,
 ⟨some 9, .mv (.t 39), none⟩]
def a3_11 : List AOper := [
 ⟨some 41, .mv (.t 0), none⟩,
 ⟨some 42, .mv (.t 1), none⟩,
 ⟨some 43, .call 14 [(.t 41), (.t 42)], none⟩,
 ⟨some 40, .mv (.t 43), none⟩,
 ⟨some 44, .extract (.t 40) 0, none⟩,
 ⟨some 45, .extract (.t 40) 1, none⟩,
 ⟨some 10, .alloc [(.str []), (.int .i64 0), (.int .i64 0), (.bool false)], none⟩,
 ⟨none, .store 4 (.t 10) (.t 44), none⟩,
 ⟨some 11, .mv (.t 45), none⟩]
def a3_12 : List AOper := [
 ⟨some 46, .load true 4 (.t 8), none⟩,
 ⟨some 47, .load true 4 (.t 10), none⟩,
 ⟨some 48, .eq false (.struct [(0, 1, false, .str), (1, 1, false, .int), (2, 1, false, .int), (3, 1, false, .bool)]) (.t 46) (.t 47), none⟩,
 ⟨some 49, .mv (.t 48), none⟩,
 ⟨some 50, .mv (.t 9), some (49, true)⟩,
 ⟨some 51, .mv (.t 11), some (49, true)⟩,
 ⟨some 52, .eq false .bool (.t 50) (.t 51), some (49, true)⟩,
 ⟨some 53, .pick (.t 49) (.t 52) (.c (.bool false)), none⟩,
 ⟨some 54, .mv (.t 53), none⟩,
 ⟨some 55, .call 15 [], some (54, true)⟩,
 ⟨some 56, .pick (.t 54) (.t 55) (.c (.bool false)), none⟩,
 ⟨some 4, .mv (.t 56), none⟩]
def a3 : AFunc := ⟨[.tmp 4], (.seq (.ops a3_0) (.seq (.ops a3_1) (.seq (.seq (.ops a3_2) (.cond (.t 18) (.seq (.ops a3_3) .ret) .skip)) (.seq (.seq (.ops a3_4) (.block 0 (.loop a3_l9))) (.seq (.ops a3_10) (.seq (.ops a3_11) (.seq (.ops a3_12) .ret)))))))⟩
/-! ### 4: heddle/heddlelaw13.BifOrders (115 slots) -/
def a4_0 : List AOper := [
 ⟨some 2, .box false 6 (.t 0), none⟩,
 ⟨some 3, .box false 6 (.t 1), none⟩,
 ⟨some 4, .mv (.c (.bool false)), none⟩]
def a4_1 : List AOper := [
 ⟨some 15, .load true 6 (.t 2), none⟩,
 ⟨some 16, .call 16 [(.t 15)], none⟩,
 ⟨some 17, .len false (.t 16), none⟩,
 ⟨some 18, .bin .gtr (.t 17) (.c (.int .i64 0)), none⟩,
 ⟨some 19, .mv (.t 18), none⟩,
 ⟨some 20, .load true 6 (.t 3), some (19, false)⟩,
 ⟨some 21, .call 16 [(.t 20)], some (19, false)⟩,
 ⟨some 22, .len false (.t 21), some (19, false)⟩,
 ⟨some 23, .bin .gtr (.t 22) (.c (.int .i64 0)), some (19, false)⟩,
 ⟨some 24, .pick (.t 19) (.c (.bool true)) (.t 23), none⟩]
def a4_2 : List AOper := [
 ⟨some 25, .load true 6 (.t 2), none⟩,
 ⟨some 26, .call 17 [(.t 25)], none⟩,
 ⟨some 27, .un .not (.t 26), none⟩,
 ⟨some 28, .mv (.t 27), none⟩,
 ⟨some 29, .load true 6 (.t 2), some (28, false)⟩,
 ⟨some 30, .call 16 [(.t 29)], some (28, false)⟩,
 ⟨some 31, .len false (.t 30), some (28, false)⟩,
 ⟨some 32, .bin .eql (.t 31) (.c (.int .i64 0)), some (28, false)⟩,
 ⟨some 33, .pick (.t 28) (.c (.bool true)) (.t 32), none⟩,
 ⟨some 4, .mv (.t 33), none⟩]
def a4_3 : List AOper := [
 ⟨some 5, .mv (.c (.int .i64 0)), none⟩]
def a4_4 : List AOper := [
 ⟨some 34, .lit true 1 3 [(.str []), (.str []), (.str [])] [(0, 1, (.c (.str [60]))), (1, 1, (.c (.str [61, 61]))), (2, 1, (.c (.str [62])))], none⟩,
 ⟨some 6, .mv (.t 34), none⟩]
def a4_5 : List AOper := [
 ⟨some 7, .mv (.c (.int .i64 0)), none⟩]
def a4_6 : List AOper := [
 ⟨some 35, .mv (.t 7), none⟩,
 ⟨some 36, .mv (.t 6), none⟩,
 ⟨some 37, .len false (.t 36), none⟩,
 ⟨some 38, .bin .lss (.t 35) (.t 37), none⟩]
def a4_7 : List AOper := [
 ⟨some 42, .mv (.t 6), none⟩,
 ⟨some 43, .mv (.t 7), none⟩,
 ⟨some 44, .idxAddr 1 (.t 42) (.t 43), none⟩,
 ⟨some 45, .load false 1 (.t 44), none⟩,
 ⟨some 46, .load true 6 (.t 2), none⟩,
 ⟨some 47, .load true 6 (.t 3), none⟩,
 ⟨some 48, .lit true 6 2 [(.int .i64 0), (.int .i64 0), (.str []), (.int .u32 0), .nils, .nils, (.int .i64 0), (.int .i64 0), (.str []), (.int .u32 0), .nils, .nils] [(0, 6, (.t 46)), (6, 6, (.t 47))], none⟩,
 ⟨some 49, .call 18 [(.t 45), (.t 48)], none⟩,
 ⟨some 41, .mv (.t 49), none⟩,
 ⟨some 50, .extract (.t 41) 0, none⟩,
 ⟨some 51, .extract (.t 41) 1, none⟩,
 ⟨some 8, .alloc [(.int .i64 0), (.int .i64 0), (.str []), (.int .u32 0), .nils, .nils], none⟩,
 ⟨none, .store 6 (.t 8) (.t 50), none⟩,
 ⟨some 9, .mv (.t 51), none⟩]
def a4_7b : List Nat := [0, 0, 3, 7, 0, 0, 48, 127, 255, 511, 511, 0, 3071, 8191]
def a4_8 : List AOper := [
 ⟨some 52, .mv (.t 9), none⟩,
 ⟨some 53, .eq true (.iface true) (.t 52) (.c .nili), none⟩]
def a4_9 : List AOper := [
 ⟨some 4, .mv (.c (.bool false)), none⟩]
def a4_10 : List AOper := [
 ⟨some 54, .load true 6 (.t 8), none⟩,
 ⟨some 55, .call 17 [(.t 54)], none⟩]
def a4_11 : List AOper := [
 ⟨some 56, .mv (.t 5), none⟩,
 ⟨some 57, .bin .add (.t 56) (.c (.int .i64 1)), none⟩,
 ⟨some 5, .mv (.t 57), none⟩]
def a4_12 : List AOper := [
 ⟨some 39, .mv (.t 7), none⟩,
 ⟨some 40, .bin .add (.t 39) (.c (.int .i64 1)), none⟩,
 ⟨some 7, .mv (.t 40), none⟩]
def a4_l13 : AC := (.seq (.seq (.ops a4_6) (.cond (.t 38) .skip (.exit 0))) (.seq (.block 1 (.seq (.draw a4_7 a4_7b) (.seq (.seq (.ops a4_8) (.cond (.t 53) (.seq (.ops a4_9) .ret) .skip)) (.seq (.ops a4_10) (.cond (.t 55) (.ops a4_11) .skip))))) (.ops a4_12)))
def a4_14 : List AOper := [
 ⟨some 59, .load true 6 (.t 2), none⟩,
 ⟨some 60, .load true 6 (.t 3), none⟩,
 ⟨some 61, .lit true 6 2 [(.int .i64 0), (.int .i64 0), (.str []), (.int .u32 0), .nils, .nils, (.int .i64 0), (.int .i64 0), (.str []), (.int .u32 0), .nils, .nils] [(0, 6, (.t 59)), (6, 6, (.t 60))], none⟩,
 ⟨some 62, .call 18 [(.c (.str [109, 97, 120])), (.t 61)], none⟩,
 ⟨some 58, .mv (.t 62), none⟩,
 ⟨some 63, .extract (.t 58) 0, none⟩,
 ⟨some 64, .extract (.t 58) 1, none⟩,
 ⟨some 10, .alloc [(.int .i64 0), (.int .i64 0), (.str []), (.int .u32 0), .nils, .nils], none⟩,
 ⟨none, .store 6 (.t 10) (.t 63), none⟩,
 ⟨some 11, .mv (.t 64), none⟩]
def a4_15 : List AOper := [
 ⟨some 66, .load true 6 (.t 2), none⟩,
 ⟨some 67, .load true 6 (.t 3), none⟩,
 ⟨some 68, .lit true 6 2 [(.int .i64 0), (.int .i64 0), (.str []), (.int .u32 0), .nils, .nils, (.int .i64 0), (.int .i64 0), (.str []), (.int .u32 0), .nils, .nils] [(0, 6, (.t 66)), (6, 6, (.t 67))], none⟩,
 ⟨some 69, .call 18 [(.c (.str [109, 105, 110])), (.t 68)], none⟩,
 ⟨some 65, .mv (.t 69), none⟩,
 ⟨some 70, .extract (.t 65) 0, none⟩,
 ⟨some 71, .extract (.t 65) 1, none⟩,
 ⟨some 12, .alloc [(.int .i64 0), (.int .i64 0), (.str []), (.int .u32 0), .nils, .nils], none⟩,
 ⟨none, .store 6 (.t 12) (.t 70), none⟩,
 ⟨some 13, .mv (.t 71), none⟩]
def a4_16 : List AOper := [
 ⟨some 72, .mv (.t 11), none⟩,
 ⟨some 73, .eq true (.iface true) (.t 72) (.c .nili), none⟩,
 ⟨some 74, .mv (.t 73), none⟩,
 ⟨some 75, .mv (.t 13), some (74, false)⟩,
 ⟨some 76, .eq true (.iface true) (.t 75) (.c .nili), some (74, false)⟩,
 ⟨some 77, .pick (.t 74) (.c (.bool true)) (.t 76), none⟩,
 ⟨some 78, .mv (.t 77), none⟩,
 ⟨some 79, .mv (.t 5), some (78, false)⟩,
 ⟨some 80, .bin .neq (.t 79) (.c (.int .i64 1)), some (78, false)⟩,
 ⟨some 81, .pick (.t 78) (.c (.bool true)) (.t 80), none⟩]
def a4_17 : List AOper := [
 ⟨some 4, .mv (.c (.bool false)), none⟩]
def a4_18 : List AOper := [
 ⟨some 82, .load true 6 (.t 10), none⟩,
 ⟨some 83, .load true 6 (.t 2), none⟩,
 ⟨some 84, .call 19 [(.t 82), (.t 83)], none⟩,
 ⟨some 85, .mv (.t 84), none⟩,
 ⟨some 86, .load true 6 (.t 12), some (85, true)⟩,
 ⟨some 87, .load true 6 (.t 3), some (85, true)⟩,
 ⟨some 88, .call 19 [(.t 86), (.t 87)], some (85, true)⟩,
 ⟨some 89, .pick (.t 85) (.t 88) (.c (.bool false)), none⟩,
 ⟨some 90, .mv (.t 89), none⟩,
 ⟨some 91, .load true 6 (.t 10), some (90, false)⟩,
 ⟨some 92, .load true 6 (.t 3), some (90, false)⟩,
 ⟨some 93, .call 19 [(.t 91), (.t 92)], some (90, false)⟩,
 ⟨some 94, .mv (.t 93), some (90, false)⟩,
 ⟨some 95, .load true 6 (.t 12), some (94, true)⟩,
 ⟨some 96, .load true 6 (.t 2), some (94, true)⟩,
 ⟨some 97, .call 19 [(.t 95), (.t 96)], some (94, true)⟩,
 ⟨some 98, .pick (.t 94) (.t 97) (.c (.bool false)), some (90, false)⟩,
 ⟨some 99, .pick (.t 90) (.c (.bool true)) (.t 98), none⟩,
 ⟨some 14, .mv (.t 99), none⟩]
def a4_19 : List AOper := [
 ⟨some 100, .mv (.t 14), none⟩,
 ⟨some 101, .mv (.t 100), none⟩,
 ⟨some 102, .load true 6 (.t 2), some (101, false)⟩,
 ⟨some 103, .load true 6 (.t 3), some (101, false)⟩,
 ⟨some 104, .call 19 [(.t 102), (.t 103)], some (101, false)⟩,
 ⟨some 105, .pick (.t 101) (.c (.bool true)) (.t 104), none⟩,
 ⟨some 106, .mv (.t 105), none⟩,
 ⟨some 107, .load true 6 (.t 10), some (106, true)⟩,
 ⟨some 108, .load true 6 (.t 12), some (106, true)⟩,
 ⟨some 109, .call 20 [(.t 107), (.t 108)], some (106, true)⟩,
 ⟨some 110, .bin .geq (.t 109) (.c (.int .i64 0)), some (106, true)⟩,
 ⟨some 111, .pick (.t 106) (.t 110) (.c (.bool false)), none⟩,
 ⟨some 112, .mv (.t 111), none⟩,
 ⟨some 113, .call 15 [], some (112, true)⟩,
 ⟨some 114, .pick (.t 112) (.t 113) (.c (.bool false)), none⟩,
 ⟨some 4, .mv (.t 114), none⟩]
def a4 : AFunc := ⟨[.tmp 4], (.seq (.ops a4_0) (.seq (.seq (.ops a4_1) (.cond (.t 24) (.seq (.ops a4_2) .ret) .skip)) (.seq (.ops a4_3) (.seq (.ops a4_4) (.seq (.seq (.ops a4_5) (.block 0 (.loop a4_l13))) (.seq (.ops a4_14) (.seq (.ops a4_15) (.seq (.seq (.ops a4_16) (.cond (.t 81) (.seq (.ops a4_17) .ret) .skip)) (.seq (.ops a4_18) (.seq (.ops a4_19) .ret))))))))))⟩
/-! ### 5: heddle/heddlelaw13.BifLists (87 slots) -/
def a5_0 : List AOper := [
 ⟨some 4, .mv (.c (.bool false)), none⟩]
def a5_1 : List AOper := [
 ⟨some 16, .mv (.t 0), none⟩,
 ⟨some 17, .call 21 [(.t 16)], none⟩,
 ⟨some 15, .mv (.t 17), none⟩,
 ⟨some 18, .extract (.t 15) 0, none⟩,
 ⟨some 19, .extract (.t 15) 1, none⟩,
 ⟨some 5, .alloc [(.int .i64 0), (.int .i64 0), (.str []), (.int .u32 0), .nils, .nils], none⟩,
 ⟨none, .store 6 (.t 5) (.t 18), none⟩,
 ⟨some 6, .mv (.t 19), none⟩]
def a5_2 : List AOper := [
 ⟨some 21, .mv (.t 1), none⟩,
 ⟨some 22, .call 21 [(.t 21)], none⟩,
 ⟨some 20, .mv (.t 22), none⟩,
 ⟨some 23, .extract (.t 20) 0, none⟩,
 ⟨some 24, .extract (.t 20) 1, none⟩,
 ⟨some 7, .alloc [(.int .i64 0), (.int .i64 0), (.str []), (.int .u32 0), .nils, .nils], none⟩,
 ⟨none, .store 6 (.t 7) (.t 23), none⟩,
 ⟨some 8, .mv (.t 24), none⟩]
def a5_3 : List AOper := [
 ⟨some 25, .mv (.t 6), none⟩,
 ⟨some 26, .un .not (.t 25), none⟩,
 ⟨some 27, .mv (.t 26), none⟩,
 ⟨some 28, .mv (.t 8), some (27, false)⟩,
 ⟨some 29, .un .not (.t 28), some (27, false)⟩,
 ⟨some 30, .pick (.t 27) (.c (.bool true)) (.t 29), none⟩]
def a5_4 : List AOper := [
 ⟨some 31, .call 15 [], none⟩,
 ⟨some 4, .mv (.t 31), none⟩]
def a5_5 : List AOper := [
 ⟨some 33, .load true 6 (.t 5), none⟩,
 ⟨some 34, .load true 6 (.t 7), none⟩,
 ⟨some 35, .lit true 6 2 [(.int .i64 0), (.int .i64 0), (.str []), (.int .u32 0), .nils, .nils, (.int .i64 0), (.int .i64 0), (.str []), (.int .u32 0), .nils, .nils] [(0, 6, (.t 33)), (6, 6, (.t 34))], none⟩,
 ⟨some 36, .call 18 [(.c (.str [43, 43])), (.t 35)], none⟩,
 ⟨some 32, .mv (.t 36), none⟩,
 ⟨some 37, .extract (.t 32) 0, none⟩,
 ⟨some 38, .extract (.t 32) 1, none⟩,
 ⟨some 9, .alloc [(.int .i64 0), (.int .i64 0), (.str []), (.int .u32 0), .nils, .nils], none⟩,
 ⟨none, .store 6 (.t 9) (.t 37), none⟩,
 ⟨some 10, .mv (.t 38), none⟩]
def a5_6 : List AOper := [
 ⟨some 39, .mv (.t 10), none⟩,
 ⟨some 40, .eq true (.iface true) (.t 39) (.c .nili), none⟩]
def a5_7 : List AOper := [
 ⟨some 41, .mv (.t 0), none⟩,
 ⟨some 42, .len false (.t 41), none⟩,
 ⟨some 43, .mv (.t 1), none⟩,
 ⟨some 44, .len false (.t 43), none⟩,
 ⟨some 45, .bin .add (.t 42) (.t 44), none⟩,
 ⟨some 46, .bin .gtr (.t 45) (.c (.int .i64 0)), none⟩,
 ⟨some 47, .mv (.t 46), none⟩,
 ⟨some 48, .call 15 [], some (47, true)⟩,
 ⟨some 49, .pick (.t 47) (.t 48) (.c (.bool false)), none⟩,
 ⟨some 4, .mv (.t 49), none⟩]
def a5_8 : List AOper := [
 ⟨some 51, .load true 6 (.t 9), none⟩,
 ⟨some 52, .lit true 6 1 [(.int .i64 0), (.int .i64 0), (.str []), (.int .u32 0), .nils, .nils] [(0, 6, (.t 51))], none⟩,
 ⟨some 53, .call 18 [(.c (.str [108, 101, 110, 103, 116, 104])), (.t 52)], none⟩,
 ⟨some 50, .mv (.t 53), none⟩,
 ⟨some 54, .extract (.t 50) 0, none⟩,
 ⟨some 55, .extract (.t 50) 1, none⟩,
 ⟨some 11, .alloc [(.int .i64 0), (.int .i64 0), (.str []), (.int .u32 0), .nils, .nils], none⟩,
 ⟨none, .store 6 (.t 11) (.t 54), none⟩,
 ⟨some 12, .mv (.t 55), none⟩]
def a5_9 : List AOper := [
 ⟨some 57, .load true 6 (.t 9), none⟩,
 ⟨some 58, .load true 6 (.t 5), none⟩,
 ⟨some 59, .lit true 6 2 [(.int .i64 0), (.int .i64 0), (.str []), (.int .u32 0), .nils, .nils, (.int .i64 0), (.int .i64 0), (.str []), (.int .u32 0), .nils, .nils] [(0, 6, (.t 57)), (6, 6, (.t 58))], none⟩,
 ⟨some 60, .call 18 [(.c (.str [45, 45])), (.t 59)], none⟩,
 ⟨some 56, .mv (.t 60), none⟩,
 ⟨some 61, .extract (.t 56) 0, none⟩,
 ⟨some 62, .extract (.t 56) 1, none⟩,
 ⟨some 13, .alloc [(.int .i64 0), (.int .i64 0), (.str []), (.int .u32 0), .nils, .nils], none⟩,
 ⟨none, .store 6 (.t 13) (.t 61), none⟩,
 ⟨some 14, .mv (.t 62), none⟩]
def a5_10 : List AOper := [
 ⟨some 63, .mv (.t 12), none⟩,
 ⟨some 64, .eq false (.iface true) (.t 63) (.c .nili), none⟩,
 ⟨some 65, .mv (.t 64), none⟩,
 ⟨some 66, .mv (.t 14), some (65, true)⟩,
 ⟨some 67, .eq false (.iface true) (.t 66) (.c .nili), some (65, true)⟩,
 ⟨some 68, .pick (.t 65) (.t 67) (.c (.bool false)), none⟩,
 ⟨some 69, .mv (.t 68), none⟩,
 ⟨some 70, .fieldAddr 1 (.t 11), some (69, true)⟩,
 ⟨some 71, .load false 1 (.t 70), some (69, true)⟩,
 ⟨some 72, .mv (.t 0), some (69, true)⟩,
 ⟨some 73, .len false (.t 72), some (69, true)⟩,
 ⟨some 74, .mv (.t 1), some (69, true)⟩,
 ⟨some 75, .len false (.t 74), some (69, true)⟩,
 ⟨some 76, .bin .add (.t 73) (.t 75), some (69, true)⟩,
 ⟨some 77, .bin .eql (.t 71) (.t 76), some (69, true)⟩,
 ⟨some 78, .pick (.t 69) (.t 77) (.c (.bool false)), none⟩,
 ⟨some 79, .mv (.t 78), none⟩,
 ⟨some 80, .load true 6 (.t 13), some (79, true)⟩,
 ⟨some 81, .load true 6 (.t 7), some (79, true)⟩,
 ⟨some 82, .call 19 [(.t 80), (.t 81)], some (79, true)⟩,
 ⟨some 83, .pick (.t 79) (.t 82) (.c (.bool false)), none⟩,
 ⟨some 84, .mv (.t 83), none⟩,
 ⟨some 85, .call 15 [], some (84, true)⟩,
 ⟨some 86, .pick (.t 84) (.t 85) (.c (.bool false)), none⟩,
 ⟨some 4, .mv (.t 86), none⟩]
def a5 : AFunc := ⟨[.tmp 4], (.seq (.ops a5_0) (.seq (.ops a5_1) (.seq (.ops a5_2) (.seq (.seq (.ops a5_3) (.cond (.t 30) (.seq (.ops a5_4) .ret) .skip)) (.seq (.ops a5_5) (.seq (.seq (.ops a5_6) (.cond (.t 40) (.seq (.ops a5_7) .ret) .skip)) (.seq (.ops a5_8) (.seq (.ops a5_9) (.seq (.ops a5_10) .ret)))))))))⟩
/-! ### 6: heddle/heddlelaw13.BifInts (100 slots) -/
def a6_0 : List AOper := [
 ⟨some 4, .mv (.c (.bool false)), none⟩]
def a6_1 : List AOper := [
 ⟨some 15, .mv (.t 0), none⟩,
 ⟨some 16, .call 22 [(.t 15)], none⟩,
 ⟨some 17, .mv (.t 1), none⟩,
 ⟨some 18, .call 22 [(.t 17)], none⟩,
 ⟨some 5, .alloc [(.int .i64 0), (.int .i64 0), (.str []), (.int .u32 0), .nils, .nils], none⟩,
 ⟨some 6, .alloc [(.int .i64 0), (.int .i64 0), (.str []), (.int .u32 0), .nils, .nils], none⟩,
 ⟨none, .store 6 (.t 5) (.t 16), none⟩,
 ⟨none, .store 6 (.t 6) (.t 18), none⟩]
def a6_2 : List AOper := [
 ⟨some 19, .mv (.t 0), none⟩,
 ⟨some 20, .bin .lss (.t 19) (.c (.int .i64 (-576460752303423488))), none⟩,
 ⟨some 21, .mv (.t 20), none⟩,
 ⟨some 22, .mv (.t 0), some (21, false)⟩,
 ⟨some 23, .bin .gtr (.t 22) (.c (.int .i64 576460752303423487)), some (21, false)⟩,
 ⟨some 24, .pick (.t 21) (.c (.bool true)) (.t 23), none⟩,
 ⟨some 25, .mv (.t 24), none⟩,
 ⟨some 26, .mv (.t 1), some (25, false)⟩,
 ⟨some 27, .bin .lss (.t 26) (.c (.int .i64 (-576460752303423488))), some (25, false)⟩,
 ⟨some 28, .pick (.t 25) (.c (.bool true)) (.t 27), none⟩,
 ⟨some 29, .mv (.t 28), none⟩,
 ⟨some 30, .mv (.t 1), some (29, false)⟩,
 ⟨some 31, .bin .gtr (.t 30) (.c (.int .i64 576460752303423487)), some (29, false)⟩,
 ⟨some 32, .pick (.t 29) (.c (.bool true)) (.t 31), none⟩,
 ⟨some 33, .mv (.t 32), none⟩,
 ⟨some 34, .mv (.t 1), some (33, false)⟩,
 ⟨some 35, .bin .eql (.t 34) (.c (.int .i64 0)), some (33, false)⟩,
 ⟨some 36, .pick (.t 33) (.c (.bool true)) (.t 35), none⟩]
def a6_3 : List AOper := [
 ⟨some 37, .call 15 [], none⟩,
 ⟨some 4, .mv (.t 37), none⟩]
def a6_4 : List AOper := [
 ⟨some 39, .load true 6 (.t 5), none⟩,
 ⟨some 40, .load true 6 (.t 6), none⟩,
 ⟨some 41, .lit true 6 2 [(.int .i64 0), (.int .i64 0), (.str []), (.int .u32 0), .nils, .nils, (.int .i64 0), (.int .i64 0), (.str []), (.int .u32 0), .nils, .nils] [(0, 6, (.t 39)), (6, 6, (.t 40))], none⟩,
 ⟨some 42, .call 18 [(.c (.str [114, 101, 109])), (.t 41)], none⟩,
 ⟨some 38, .mv (.t 42), none⟩,
 ⟨some 43, .extract (.t 38) 0, none⟩,
 ⟨some 44, .extract (.t 38) 1, none⟩,
 ⟨some 7, .alloc [(.int .i64 0), (.int .i64 0), (.str []), (.int .u32 0), .nils, .nils], none⟩,
 ⟨none, .store 6 (.t 7) (.t 43), none⟩,
 ⟨some 8, .mv (.t 44), none⟩]
def a6_5 : List AOper := [
 ⟨some 46, .load true 6 (.t 5), none⟩,
 ⟨some 47, .load true 6 (.t 6), none⟩,
 ⟨some 48, .lit true 6 2 [(.int .i64 0), (.int .i64 0), (.str []), (.int .u32 0), .nils, .nils, (.int .i64 0), (.int .i64 0), (.str []), (.int .u32 0), .nils, .nils] [(0, 6, (.t 46)), (6, 6, (.t 47))], none⟩,
 ⟨some 49, .call 18 [(.c (.str [100, 105, 118])), (.t 48)], none⟩,
 ⟨some 45, .mv (.t 49), none⟩,
 ⟨some 50, .extract (.t 45) 0, none⟩,
 ⟨some 51, .extract (.t 45) 1, none⟩,
 ⟨some 9, .alloc [(.int .i64 0), (.int .i64 0), (.str []), (.int .u32 0), .nils, .nils], none⟩,
 ⟨none, .store 6 (.t 9) (.t 50), none⟩,
 ⟨some 10, .mv (.t 51), none⟩]
def a6_6 : List AOper := [
 ⟨some 52, .mv (.t 8), none⟩,
 ⟨some 53, .eq true (.iface true) (.t 52) (.c .nili), none⟩,
 ⟨some 54, .mv (.t 53), none⟩,
 ⟨some 55, .mv (.t 10), some (54, false)⟩,
 ⟨some 56, .eq true (.iface true) (.t 55) (.c .nili), some (54, false)⟩,
 ⟨some 57, .pick (.t 54) (.c (.bool true)) (.t 56), none⟩]
def a6_7 : List AOper := [
 ⟨some 58, .mv (.t 8), none⟩,
 ⟨some 59, .eq false (.iface true) (.t 58) (.c .nili), none⟩,
 ⟨some 60, .mv (.t 59), none⟩,
 ⟨some 61, .mv (.t 0), some (60, true)⟩,
 ⟨some 62, .bin .eql (.t 61) (.c (.int .i64 (-576460752303423488))), some (60, true)⟩,
 ⟨some 63, .pick (.t 60) (.t 62) (.c (.bool false)), none⟩,
 ⟨some 64, .mv (.t 63), none⟩,
 ⟨some 65, .mv (.t 1), some (64, true)⟩,
 ⟨some 66, .bin .eql (.t 65) (.c (.int .i64 (-1))), some (64, true)⟩,
 ⟨some 67, .pick (.t 64) (.t 66) (.c (.bool false)), none⟩,
 ⟨some 68, .mv (.t 67), none⟩,
 ⟨some 69, .call 15 [], some (68, true)⟩,
 ⟨some 70, .pick (.t 68) (.t 69) (.c (.bool false)), none⟩,
 ⟨some 4, .mv (.t 70), none⟩]
def a6_8 : List AOper := [
 ⟨some 72, .load true 6 (.t 9), none⟩,
 ⟨some 73, .load true 6 (.t 6), none⟩,
 ⟨some 74, .lit true 6 2 [(.int .i64 0), (.int .i64 0), (.str []), (.int .u32 0), .nils, .nils, (.int .i64 0), (.int .i64 0), (.str []), (.int .u32 0), .nils, .nils] [(0, 6, (.t 72)), (6, 6, (.t 73))], none⟩,
 ⟨some 75, .call 18 [(.c (.str [42])), (.t 74)], none⟩,
 ⟨some 71, .mv (.t 75), none⟩,
 ⟨some 76, .extract (.t 71) 0, none⟩,
 ⟨some 77, .extract (.t 71) 1, none⟩,
 ⟨some 11, .alloc [(.int .i64 0), (.int .i64 0), (.str []), (.int .u32 0), .nils, .nils], none⟩,
 ⟨none, .store 6 (.t 11) (.t 76), none⟩,
 ⟨some 12, .mv (.t 77), none⟩]
def a6_9 : List AOper := [
 ⟨some 79, .load true 6 (.t 11), none⟩,
 ⟨some 80, .load true 6 (.t 7), none⟩,
 ⟨some 81, .lit true 6 2 [(.int .i64 0), (.int .i64 0), (.str []), (.int .u32 0), .nils, .nils, (.int .i64 0), (.int .i64 0), (.str []), (.int .u32 0), .nils, .nils] [(0, 6, (.t 79)), (6, 6, (.t 80))], none⟩,
 ⟨some 82, .call 18 [(.c (.str [43])), (.t 81)], none⟩,
 ⟨some 78, .mv (.t 82), none⟩,
 ⟨some 83, .extract (.t 78) 0, none⟩,
 ⟨some 84, .extract (.t 78) 1, none⟩,
 ⟨some 13, .alloc [(.int .i64 0), (.int .i64 0), (.str []), (.int .u32 0), .nils, .nils], none⟩,
 ⟨none, .store 6 (.t 13) (.t 83), none⟩,
 ⟨some 14, .mv (.t 84), none⟩]
def a6_10 : List AOper := [
 ⟨some 85, .mv (.t 12), none⟩,
 ⟨some 86, .eq false (.iface true) (.t 85) (.c .nili), none⟩,
 ⟨some 87, .mv (.t 86), none⟩,
 ⟨some 88, .mv (.t 14), some (87, true)⟩,
 ⟨some 89, .eq false (.iface true) (.t 88) (.c .nili), some (87, true)⟩,
 ⟨some 90, .pick (.t 87) (.t 89) (.c (.bool false)), none⟩,
 ⟨some 91, .mv (.t 90), none⟩,
 ⟨some 92, .fieldAddr 1 (.t 13), some (91, true)⟩,
 ⟨some 93, .load false 1 (.t 92), some (91, true)⟩,
 ⟨some 94, .mv (.t 0), some (91, true)⟩,
 ⟨some 95, .bin .eql (.t 93) (.t 94), some (91, true)⟩,
 ⟨some 96, .pick (.t 91) (.t 95) (.c (.bool false)), none⟩,
 ⟨some 97, .mv (.t 96), none⟩,
 ⟨some 98, .call 15 [], some (97, true)⟩,
 ⟨some 99, .pick (.t 97) (.t 98) (.c (.bool false)), none⟩,
 ⟨some 4, .mv (.t 99), none⟩]
def a6 : AFunc := ⟨[.tmp 4], (.seq (.ops a6_0) (.seq (.ops a6_1) (.seq (.seq (.ops a6_2) (.cond (.t 36) (.seq (.ops a6_3) .ret) .skip)) (.seq (.ops a6_4) (.seq (.ops a6_5) (.seq (.seq (.ops a6_6) (.cond (.t 57) (.seq (.ops a6_7) .ret) .skip)) (.seq (.ops a6_8) (.seq (.ops a6_9) (.seq (.ops a6_10) .ret)))))))))⟩
/-! ### 7: heddle/heddlelaw13.BifTrue (11 slots) -/
def a7_0 : List AOper := [
 ⟨some 1, .box false 6 (.t 0), none⟩,
 ⟨some 2, .mv (.c (.bool false)), none⟩]
def a7_1 : List AOper := [
 ⟨some 3, .load true 6 (.t 1), none⟩,
 ⟨some 4, .call 17 [(.t 3)], none⟩,
 ⟨some 5, .load true 6 (.t 1), none⟩,
 ⟨some 6, .call 23 [(.t 5)], none⟩,
 ⟨some 7, .eq false .bool (.t 4) (.t 6), none⟩,
 ⟨some 8, .mv (.t 7), none⟩,
 ⟨some 9, .call 15 [], some (8, true)⟩,
 ⟨some 10, .pick (.t 8) (.t 9) (.c (.bool false)), none⟩,
 ⟨some 2, .mv (.t 10), none⟩]
def a7_1b : List Nat := [0, 1, 0, 7, 15, 31, 63, 127, 255]
def a7 : AFunc := ⟨[.tmp 2], (.seq (.ops a7_0) (.seq (.draw a7_1 a7_1b) .ret))⟩
/-! ### 8: heddle/heddlelaw13.BifOwn (89 slots) -/
def a8_0 : List AOper := [
 ⟨some 2, .mv (.c (.bool false)), none⟩]
def a8_1 : List AOper := [
 ⟨some 14, .mv (.t 0), none⟩,
 ⟨some 15, .call 21 [(.t 14)], none⟩,
 ⟨some 13, .mv (.t 15), none⟩,
 ⟨some 16, .extract (.t 13) 0, none⟩,
 ⟨some 17, .extract (.t 13) 1, none⟩,
 ⟨some 3, .alloc [(.int .i64 0), (.int .i64 0), (.str []), (.int .u32 0), .nils, .nils], none⟩,
 ⟨none, .store 6 (.t 3) (.t 16), none⟩,
 ⟨some 4, .mv (.t 17), none⟩]
def a8_2 : List AOper := [
 ⟨some 18, .mv (.t 4), none⟩,
 ⟨some 19, .un .not (.t 18), none⟩]
def a8_3 : List AOper := [
 ⟨some 20, .call 15 [], none⟩,
 ⟨some 2, .mv (.t 20), none⟩]
def a8_4 : List AOper := [
 ⟨some 21, .load true 6 (.t 3), none⟩,
 ⟨some 22, .call 24 [(.t 21)], none⟩,
 ⟨some 5, .alloc [(.int .i64 0), (.int .i64 0), (.str []), (.int .u32 0), .nils, .nils], none⟩,
 ⟨none, .store 6 (.t 5) (.t 22), none⟩]
def a8_5 : List AOper := [
 ⟨some 24, .load true 6 (.t 5), none⟩,
 ⟨some 25, .load true 6 (.t 5), none⟩,
 ⟨some 26, .lit true 6 2 [(.int .i64 0), (.int .i64 0), (.str []), (.int .u32 0), .nils, .nils, (.int .i64 0), (.int .i64 0), (.str []), (.int .u32 0), .nils, .nils] [(0, 6, (.t 24)), (6, 6, (.t 25))], none⟩,
 ⟨some 27, .call 18 [(.c (.str [43, 43])), (.t 26)], none⟩,
 ⟨some 23, .mv (.t 27), none⟩,
 ⟨some 28, .extract (.t 23) 0, none⟩,
 ⟨some 29, .extract (.t 23) 1, none⟩,
 ⟨some 6, .alloc [(.int .i64 0), (.int .i64 0), (.str []), (.int .u32 0), .nils, .nils], none⟩,
 ⟨none, .store 6 (.t 6) (.t 28), none⟩,
 ⟨some 7, .mv (.t 29), none⟩]
def a8_6 : List AOper := [
 ⟨some 30, .load true 6 (.t 5), none⟩,
 ⟨some 31, .load true 6 (.t 3), none⟩,
 ⟨some 32, .call 19 [(.t 30), (.t 31)], none⟩,
 ⟨some 33, .un .not (.t 32), none⟩]
def a8_7 : List AOper := [
 ⟨some 2, .mv (.c (.bool false)), none⟩]
def a8_8 : List AOper := [
 ⟨some 34, .mv (.t 7), none⟩,
 ⟨some 35, .eq true (.iface true) (.t 34) (.c .nili), none⟩]
def a8_9 : List AOper := [
 ⟨some 36, .call 15 [], none⟩,
 ⟨some 2, .mv (.t 36), none⟩]
def a8_10 : List AOper := [
 ⟨some 37, .alloc [(.bool false)], none⟩,
 ⟨none, .store 1 (.t 37) (.c (.bool true)), none⟩,
 ⟨none, .store 1 (.t 37) (.c (.bool false)), none⟩,
 ⟨some 38, .load false 1 (.t 37), none⟩]
def a8_10b : List Nat := [0, 1, 1, 7]
def a8_11 : List AOper := [
 ⟨some 39, .fieldAddr 5 (.t 6), none⟩,
 ⟨some 40, .load false 1 (.t 39), none⟩,
 ⟨some 41, .len false (.t 40), none⟩,
 ⟨some 42, .bin .neq (.t 41) (.c (.int .i64 0)), none⟩]
def a8_12 : List AOper := [
 ⟨some 43, .mv (.c (.int .i64 0)), none⟩]
def a8_13 : List AOper := [
 ⟨some 44, .bin .lss (.t 43) (.t 41), none⟩]
def a8_14 : List AOper := [
 ⟨some 45, .idxAddr 6 (.t 40) (.t 43), none⟩,
 ⟨none, .store 6 (.t 45) (.c (.agg [(.int .i64 0), (.int .i64 0), (.str []), (.int .u32 0), .nils, .nils])), none⟩]
def a8_15 : List AOper := [
 ⟨some 46, .bin .add (.t 43) (.c (.int .i64 1)), none⟩,
 ⟨some 43, .mv (.t 46), none⟩]
def a8_l16 : AC := (.seq (.ops a8_13) (.seq (.cond (.t 44) .skip (.exit 0)) (.seq (.ops a8_14) (.ops a8_15))))
def a8_17 : List AOper := [
 ⟨some 47, .bin .sub (.t 41) (.c (.int .i64 1)), none⟩,
 ⟨some 8, .mv (.t 47), none⟩]
def a8_18 : List AOper := [
 ⟨some 48, .fieldAddr 5 (.t 6), none⟩,
 ⟨some 49, .load false 1 (.t 48), none⟩,
 ⟨some 50, .len false (.t 49), none⟩,
 ⟨some 51, .mv (.c (.int .i64 0)), none⟩]
def a8_19 : List AOper := [
 ⟨some 52, .bin .lss (.t 51) (.t 50), none⟩]
def a8_20 : List AOper := [
 ⟨some 53, .mv (.t 51), none⟩,
 ⟨some 8, .mv (.t 53), none⟩]
def a8_21 : List AOper := [
 ⟨some 54, .fieldAddr 5 (.t 6), none⟩,
 ⟨some 55, .load false 1 (.t 54), none⟩,
 ⟨some 56, .mv (.t 8), none⟩,
 ⟨some 57, .build [(.int .i64 0), (.int .i64 0), (.str []), (.int .u32 0), .nils, .nils] [], none⟩,
 ⟨some 58, .idxAddr 6 (.t 55) (.t 56), none⟩,
 ⟨none, .store 6 (.t 58) (.t 57), none⟩]
def a8_22 : List AOper := [
 ⟨some 59, .bin .add (.t 51) (.c (.int .i64 1)), none⟩,
 ⟨some 51, .mv (.t 59), none⟩]
def a8_l23 : AC := (.seq (.ops a8_19) (.seq (.cond (.t 52) .skip (.exit 1)) (.seq (.block 2 (.seq (.ops a8_20) (.ops a8_21))) (.ops a8_22))))
def a8_24 : List AOper := [
 ⟨some 61, .load true 6 (.t 5), none⟩,
 ⟨some 62, .load true 6 (.t 5), none⟩,
 ⟨some 63, .lit true 6 2 [(.int .i64 0), (.int .i64 0), (.str []), (.int .u32 0), .nils, .nils, (.int .i64 0), (.int .i64 0), (.str []), (.int .u32 0), .nils, .nils] [(0, 6, (.t 61)), (6, 6, (.t 62))], none⟩,
 ⟨some 64, .call 18 [(.c (.str [43, 43])), (.t 63)], none⟩,
 ⟨some 60, .mv (.t 64), none⟩,
 ⟨some 65, .extract (.t 60) 0, none⟩,
 ⟨some 66, .extract (.t 60) 1, none⟩,
 ⟨some 9, .alloc [(.int .i64 0), (.int .i64 0), (.str []), (.int .u32 0), .nils, .nils], none⟩,
 ⟨none, .store 6 (.t 9) (.t 65), none⟩,
 ⟨some 10, .mv (.t 66), none⟩]
def a8_25 : List AOper := [
 ⟨some 68, .load true 6 (.t 3), none⟩,
 ⟨some 69, .load true 6 (.t 3), none⟩,
 ⟨some 70, .lit true 6 2 [(.int .i64 0), (.int .i64 0), (.str []), (.int .u32 0), .nils, .nils, (.int .i64 0), (.int .i64 0), (.str []), (.int .u32 0), .nils, .nils] [(0, 6, (.t 68)), (6, 6, (.t 69))], none⟩,
 ⟨some 71, .call 25 [(.c (.str [43, 43])), (.t 70)], none⟩,
 ⟨some 67, .mv (.t 71), none⟩,
 ⟨some 72, .extract (.t 67) 0, none⟩,
 ⟨some 73, .extract (.t 67) 1, none⟩,
 ⟨some 11, .alloc [(.int .i64 0), (.int .i64 0), (.str []), (.int .u32 0), .nils, .nils], none⟩,
 ⟨none, .store 6 (.t 11) (.t 72), none⟩,
 ⟨some 12, .mv (.t 73), none⟩]
def a8_26 : List AOper := [
 ⟨some 74, .mv (.t 10), none⟩,
 ⟨some 75, .eq false (.iface true) (.t 74) (.c .nili), none⟩,
 ⟨some 76, .mv (.t 75), none⟩,
 ⟨some 77, .load true 6 (.t 9), some (76, true)⟩,
 ⟨some 78, .load true 6 (.t 11), some (76, true)⟩,
 ⟨some 79, .call 19 [(.t 77), (.t 78)], some (76, true)⟩,
 ⟨some 80, .pick (.t 76) (.t 79) (.c (.bool false)), none⟩,
 ⟨some 81, .mv (.t 80), none⟩,
 ⟨some 82, .load true 6 (.t 5), some (81, true)⟩,
 ⟨some 83, .load true 6 (.t 3), some (81, true)⟩,
 ⟨some 84, .call 19 [(.t 82), (.t 83)], some (81, true)⟩,
 ⟨some 85, .pick (.t 81) (.t 84) (.c (.bool false)), none⟩,
 ⟨some 86, .mv (.t 85), none⟩,
 ⟨some 87, .call 15 [], some (86, true)⟩,
 ⟨some 88, .pick (.t 86) (.t 87) (.c (.bool false)), none⟩,
 ⟨some 2, .mv (.t 88), none⟩]
def a8 : AFunc := ⟨[.tmp 2], (.seq (.ops a8_0) (.seq (.ops a8_1) (.seq (.seq (.ops a8_2) (.cond (.t 19) (.seq (.ops a8_3) .ret) .skip)) (.seq (.ops a8_4) (.seq (.ops a8_5) (.seq (.seq (.ops a8_6) (.cond (.t 33) (.seq (.ops a8_7) .ret) .skip)) (.seq (.seq (.ops a8_8) (.cond (.t 35) (.seq (.ops a8_9) .ret) .skip)) (.seq (.seq (.draw a8_10 a8_10b) (.cond (.t 38) (.seq (.ops a8_11) (.cond (.t 42) (.seq (.seq (.ops a8_12) (.block 0 (.loop a8_l16))) (.ops a8_17)) .skip)) (.seq (.ops a8_18) (.block 1 (.loop a8_l23))))) (.seq (.ops a8_24) (.seq (.ops a8_25) (.seq (.ops a8_26) .ret)))))))))))⟩
/-! ### 9: heddle/heddlelaw13.BifCalls (77 slots) -/
def a9_0 : List AOper := [
 ⟨some 4, .mv (.c (.bool false)), none⟩]
def a9_1 : List AOper := [
 ⟨some 14, .mv (.t 0), none⟩,
 ⟨some 15, .mv (.t 1), none⟩,
 ⟨some 16, .call 18 [(.t 14), (.t 15)], none⟩,
 ⟨some 13, .mv (.t 16), none⟩,
 ⟨some 17, .extract (.t 13) 0, none⟩,
 ⟨some 18, .extract (.t 13) 1, none⟩,
 ⟨some 5, .alloc [(.int .i64 0), (.int .i64 0), (.str []), (.int .u32 0), .nils, .nils], none⟩,
 ⟨none, .store 6 (.t 5) (.t 17), none⟩,
 ⟨some 6, .mv (.t 18), none⟩]
def a9_2 : List AOper := [
 ⟨some 20, .mv (.t 0), none⟩,
 ⟨some 21, .mv (.t 1), none⟩,
 ⟨some 22, .call 25 [(.t 20), (.t 21)], none⟩,
 ⟨some 19, .mv (.t 22), none⟩,
 ⟨some 23, .extract (.t 19) 0, none⟩,
 ⟨some 24, .extract (.t 19) 1, none⟩,
 ⟨some 7, .alloc [(.int .i64 0), (.int .i64 0), (.str []), (.int .u32 0), .nils, .nils], none⟩,
 ⟨none, .store 6 (.t 7) (.t 23), none⟩,
 ⟨some 8, .mv (.t 24), none⟩]
def a9_3 : List AOper := [
 ⟨some 25, .mv (.t 6), none⟩,
 ⟨some 26, .mv (.t 8), none⟩,
 ⟨some 27, .call 26 [(.t 25), (.t 26)], none⟩,
 ⟨some 28, .un .not (.t 27), none⟩]
def a9_4 : List AOper := [
 ⟨some 4, .mv (.c (.bool false)), none⟩]
def a9_5 : List AOper := [
 ⟨some 30, .mv (.t 6), none⟩,
 ⟨some 31, .call 27 [(.t 30)], none⟩,
 ⟨some 29, .mv (.t 31), none⟩,
 ⟨some 32, .extract (.t 29) 0, none⟩,
 ⟨some 33, .extract (.t 29) 1, none⟩,
 ⟨some 9, .alloc [(.int .i64 0), (.int .i64 0), (.str []), (.int .u32 0), .nils, .nils], none⟩,
 ⟨none, .store 6 (.t 9) (.t 32), none⟩,
 ⟨some 10, .mv (.t 33), none⟩]
def a9_6 : List AOper := [
 ⟨some 35, .mv (.t 8), none⟩,
 ⟨some 36, .call 28 [(.t 35)], none⟩,
 ⟨some 34, .mv (.t 36), none⟩,
 ⟨some 37, .extract (.t 34) 0, none⟩,
 ⟨some 38, .extract (.t 34) 1, none⟩,
 ⟨some 11, .alloc [(.int .i64 0), (.int .i64 0), (.str []), (.int .u32 0), .nils, .nils], none⟩,
 ⟨none, .store 6 (.t 11) (.t 37), none⟩,
 ⟨some 12, .mv (.t 38), none⟩]
def a9_7 : List AOper := [
 ⟨some 39, .mv (.t 10), none⟩,
 ⟨some 40, .mv (.t 12), none⟩,
 ⟨some 41, .eq true .bool (.t 39) (.t 40), none⟩,
 ⟨some 42, .mv (.t 41), none⟩,
 ⟨some 43, .fieldAddr 0 (.t 9), some (42, false)⟩,
 ⟨some 44, .load false 1 (.t 43), some (42, false)⟩,
 ⟨some 45, .fieldAddr 0 (.t 11), some (42, false)⟩,
 ⟨some 46, .load false 1 (.t 45), some (42, false)⟩,
 ⟨some 47, .bin .neq (.t 44) (.t 46), some (42, false)⟩,
 ⟨some 48, .pick (.t 42) (.c (.bool true)) (.t 47), none⟩,
 ⟨some 49, .mv (.t 48), none⟩,
 ⟨some 50, .fieldAddr 2 (.t 9), some (49, false)⟩,
 ⟨some 51, .load false 1 (.t 50), some (49, false)⟩,
 ⟨some 52, .fieldAddr 2 (.t 11), some (49, false)⟩,
 ⟨some 53, .load false 1 (.t 52), some (49, false)⟩,
 ⟨some 54, .bin .neq (.t 51) (.t 53), some (49, false)⟩,
 ⟨some 55, .pick (.t 49) (.c (.bool true)) (.t 54), none⟩]
def a9_8 : List AOper := [
 ⟨some 4, .mv (.c (.bool false)), none⟩]
def a9_9 : List AOper := [
 ⟨some 56, .mv (.t 8), none⟩,
 ⟨some 57, .len false (.t 56), none⟩,
 ⟨some 58, .bin .gtr (.t 57) (.c (.int .i64 0)), none⟩,
 ⟨some 59, .mv (.t 58), none⟩,
 ⟨some 60, .fieldAddr 0 (.t 5), some (59, true)⟩,
 ⟨some 61, .load false 1 (.t 60), some (59, true)⟩,
 ⟨some 62, .bin .eql (.t 61) (.c (.int .i64 0)), some (59, true)⟩,
 ⟨some 63, .pick (.t 59) (.t 62) (.c (.bool false)), none⟩,
 ⟨some 64, .mv (.t 63), none⟩,
 ⟨some 65, .mv (.t 8), some (64, false)⟩,
 ⟨some 66, .len false (.t 65), some (64, false)⟩,
 ⟨some 67, .bin .eql (.t 66) (.c (.int .i64 0)), some (64, false)⟩,
 ⟨some 68, .mv (.t 67), some (64, false)⟩,
 ⟨some 69, .load true 6 (.t 5), some (68, true)⟩,
 ⟨some 70, .load true 6 (.t 7), some (68, true)⟩,
 ⟨some 71, .call 19 [(.t 69), (.t 70)], some (68, true)⟩,
 ⟨some 72, .pick (.t 68) (.t 71) (.c (.bool false)), some (64, false)⟩,
 ⟨some 73, .pick (.t 64) (.c (.bool true)) (.t 72), none⟩,
 ⟨some 74, .mv (.t 73), none⟩,
 ⟨some 75, .call 15 [], some (74, true)⟩,
 ⟨some 76, .pick (.t 74) (.t 75) (.c (.bool false)), none⟩,
 ⟨some 4, .mv (.t 76), none⟩]
def a9 : AFunc := ⟨[.tmp 4], (.seq (.ops a9_0) (.seq (.ops a9_1) (.seq (.ops a9_2) (.seq (.seq (.ops a9_3) (.cond (.t 28) (.seq (.ops a9_4) .ret) .skip)) (.seq (.ops a9_5) (.seq (.ops a9_6) (.seq (.seq (.ops a9_7) (.cond (.t 55) (.seq (.ops a9_8) .ret) .skip)) (.seq (.ops a9_9) .ret))))))))⟩
/-! ### 10: heddle/heddlelaw13.BifTuples (110 slots) -/
def a10_0 : List AOper := [
 ⟨some 5, .box false 6 (.t 2), none⟩,
 ⟨some 6, .mv (.c (.bool false)), none⟩]
def a10_1 : List AOper := [
 ⟨some 22, .mv (.t 0), none⟩,
 ⟨some 23, .call 21 [(.t 22)], none⟩,
 ⟨some 21, .mv (.t 23), none⟩,
 ⟨some 24, .extract (.t 21) 0, none⟩,
 ⟨some 25, .extract (.t 21) 1, none⟩,
 ⟨some 7, .alloc [(.int .i64 0), (.int .i64 0), (.str []), (.int .u32 0), .nils, .nils], none⟩,
 ⟨none, .store 6 (.t 7) (.t 24), none⟩,
 ⟨some 8, .mv (.t 25), none⟩]
def a10_2 : List AOper := [
 ⟨some 26, .mv (.t 8), none⟩,
 ⟨some 27, .un .not (.t 26), none⟩]
def a10_3 : List AOper := [
 ⟨some 28, .call 15 [], none⟩,
 ⟨some 6, .mv (.t 28), none⟩]
def a10_4 : List AOper := [
 ⟨some 30, .load true 6 (.t 7), none⟩,
 ⟨some 31, .lit true 6 1 [(.int .i64 0), (.int .i64 0), (.str []), (.int .u32 0), .nils, .nils] [(0, 6, (.t 30))], none⟩,
 ⟨some 32, .call 18 [(.c (.str [108, 105, 115, 116, 95, 116, 111, 95, 116, 117, 112, 108, 101])), (.t 31)], none⟩,
 ⟨some 29, .mv (.t 32), none⟩,
 ⟨some 33, .extract (.t 29) 0, none⟩,
 ⟨some 34, .extract (.t 29) 1, none⟩,
 ⟨some 9, .alloc [(.int .i64 0), (.int .i64 0), (.str []), (.int .u32 0), .nils, .nils], none⟩,
 ⟨none, .store 6 (.t 9) (.t 33), none⟩,
 ⟨some 10, .mv (.t 34), none⟩]
def a10_5 : List AOper := [
 ⟨some 35, .mv (.t 10), none⟩,
 ⟨some 36, .eq true (.iface true) (.t 35) (.c .nili), none⟩]
def a10_6 : List AOper := [
 ⟨some 6, .mv (.c (.bool false)), none⟩]
def a10_7 : List AOper := [
 ⟨some 38, .load true 6 (.t 9), none⟩,
 ⟨some 39, .lit true 6 1 [(.int .i64 0), (.int .i64 0), (.str []), (.int .u32 0), .nils, .nils] [(0, 6, (.t 38))], none⟩,
 ⟨some 40, .call 18 [(.c (.str [116, 117, 112, 108, 101, 95, 116, 111, 95, 108, 105, 115, 116])), (.t 39)], none⟩,
 ⟨some 37, .mv (.t 40), none⟩,
 ⟨some 41, .extract (.t 37) 0, none⟩,
 ⟨some 42, .extract (.t 37) 1, none⟩,
 ⟨some 11, .alloc [(.int .i64 0), (.int .i64 0), (.str []), (.int .u32 0), .nils, .nils], none⟩,
 ⟨none, .store 6 (.t 11) (.t 41), none⟩,
 ⟨some 12, .mv (.t 42), none⟩]
def a10_8 : List AOper := [
 ⟨some 43, .mv (.t 12), none⟩,
 ⟨some 44, .eq true (.iface true) (.t 43) (.c .nili), none⟩,
 ⟨some 45, .mv (.t 44), none⟩,
 ⟨some 46, .load true 6 (.t 7), some (45, false)⟩,
 ⟨some 47, .load true 6 (.t 11), some (45, false)⟩,
 ⟨some 48, .call 19 [(.t 46), (.t 47)], some (45, false)⟩,
 ⟨some 49, .un .not (.t 48), some (45, false)⟩,
 ⟨some 50, .pick (.t 45) (.c (.bool true)) (.t 49), none⟩]
def a10_9 : List AOper := [
 ⟨some 6, .mv (.c (.bool false)), none⟩]
def a10_10 : List AOper := [
 ⟨some 52, .mv (.t 1), none⟩,
 ⟨some 53, .call 22 [(.t 52)], none⟩,
 ⟨some 54, .load true 6 (.t 9), none⟩,
 ⟨some 55, .load true 6 (.t 5), none⟩,
 ⟨some 56, .lit true 6 3 [(.int .i64 0), (.int .i64 0), (.str []), (.int .u32 0), .nils, .nils, (.int .i64 0), (.int .i64 0), (.str []), (.int .u32 0), .nils, .nils, (.int .i64 0), (.int .i64 0), (.str []), (.int .u32 0), .nils, .nils] [(0, 6, (.t 53)), (6, 6, (.t 54)), (12, 6, (.t 55))], none⟩,
 ⟨some 57, .call 18 [(.c (.str [115, 101, 116, 101, 108, 101, 109, 101, 110, 116])), (.t 56)], none⟩,
 ⟨some 51, .mv (.t 57), none⟩,
 ⟨some 58, .extract (.t 51) 0, none⟩,
 ⟨some 59, .extract (.t 51) 1, none⟩,
 ⟨some 13, .alloc [(.int .i64 0), (.int .i64 0), (.str []), (.int .u32 0), .nils, .nils], none⟩,
 ⟨none, .store 6 (.t 13) (.t 58), none⟩,
 ⟨some 14, .mv (.t 59), none⟩]
def a10_10b : List Nat := [0, 1, 0, 0, 15, 31, 63, 127, 127, 0, 767, 2047]
def a10_11 : List AOper := [
 ⟨some 60, .mv (.t 14), none⟩,
 ⟨some 61, .eq true (.iface true) (.t 60) (.c .nili), none⟩]
def a10_12 : List AOper := [
 ⟨some 63, .mv (.t 1), none⟩,
 ⟨some 64, .call 22 [(.t 63)], none⟩,
 ⟨some 65, .load true 6 (.t 9), none⟩,
 ⟨some 66, .load true 6 (.t 5), none⟩,
 ⟨some 67, .lit true 6 3 [(.int .i64 0), (.int .i64 0), (.str []), (.int .u32 0), .nils, .nils, (.int .i64 0), (.int .i64 0), (.str []), (.int .u32 0), .nils, .nils, (.int .i64 0), (.int .i64 0), (.str []), (.int .u32 0), .nils, .nils] [(0, 6, (.t 64)), (6, 6, (.t 65)), (12, 6, (.t 66))], none⟩,
 ⟨some 68, .call 25 [(.c (.str [115, 101, 116, 101, 108, 101, 109, 101, 110, 116])), (.t 67)], none⟩,
 ⟨some 62, .mv (.t 68), none⟩,
 ⟨some 69, .extract (.t 62) 0, none⟩,
 ⟨some 70, .extract (.t 62) 1, none⟩,
 ⟨some 15, .alloc [(.int .i64 0), (.int .i64 0), (.str []), (.int .u32 0), .nils, .nils], none⟩,
 ⟨none, .store 6 (.t 15) (.t 69), none⟩,
 ⟨some 16, .mv (.t 70), none⟩]
def a10_12b : List Nat := [0, 1, 0, 0, 15, 31, 63, 127, 127, 0, 767, 2047]
def a10_13 : List AOper := [
 ⟨some 71, .mv (.t 14), none⟩,
 ⟨some 72, .mv (.t 16), none⟩,
 ⟨some 73, .call 26 [(.t 71), (.t 72)], none⟩,
 ⟨some 74, .mv (.t 73), none⟩,
 ⟨some 75, .call 15 [], some (74, true)⟩,
 ⟨some 76, .pick (.t 74) (.t 75) (.c (.bool false)), none⟩,
 ⟨some 6, .mv (.t 76), none⟩]
def a10_14 : List AOper := [
 ⟨some 17, .mv (.c (.int .i64 0)), none⟩]
def a10_15 : List AOper := [
 ⟨some 77, .mv (.t 17), none⟩,
 ⟨some 78, .mv (.t 0), none⟩,
 ⟨some 79, .len false (.t 78), none⟩,
 ⟨some 80, .bin .lss (.t 77) (.t 79), none⟩]
def a10_16 : List AOper := [
 ⟨some 84, .mv (.t 17), none⟩,
 ⟨some 85, .bin .add (.t 84) (.c (.int .i64 1)), none⟩,
 ⟨some 86, .call 22 [(.t 85)], none⟩,
 ⟨some 87, .load true 6 (.t 13), none⟩,
 ⟨some 88, .lit true 6 2 [(.int .i64 0), (.int .i64 0), (.str []), (.int .u32 0), .nils, .nils, (.int .i64 0), (.int .i64 0), (.str []), (.int .u32 0), .nils, .nils] [(0, 6, (.t 86)), (6, 6, (.t 87))], none⟩,
 ⟨some 89, .call 18 [(.c (.str [101, 108, 101, 109, 101, 110, 116])), (.t 88)], none⟩,
 ⟨some 83, .mv (.t 89), none⟩,
 ⟨some 90, .extract (.t 83) 0, none⟩,
 ⟨some 91, .extract (.t 83) 1, none⟩,
 ⟨some 18, .alloc [(.int .i64 0), (.int .i64 0), (.str []), (.int .u32 0), .nils, .nils], none⟩,
 ⟨none, .store 6 (.t 18) (.t 90), none⟩,
 ⟨some 19, .mv (.t 91), none⟩]
def a10_16b : List Nat := [0, 1, 3, 0, 15, 31, 63, 127, 127, 0, 767, 2047]
def a10_17 : List AOper := [
 ⟨some 92, .mv (.t 0), none⟩,
 ⟨some 93, .mv (.t 17), none⟩,
 ⟨some 94, .idxAddr 6 (.t 92) (.t 93), none⟩,
 ⟨some 95, .load true 6 (.t 94), none⟩,
 ⟨some 20, .alloc [(.int .i64 0), (.int .i64 0), (.str []), (.int .u32 0), .nils, .nils], none⟩,
 ⟨none, .store 6 (.t 20) (.t 95), none⟩]
def a10_18 : List AOper := [
 ⟨some 96, .mv (.t 17), none⟩,
 ⟨some 97, .bin .add (.t 96) (.c (.int .i64 1)), none⟩,
 ⟨some 98, .mv (.t 1), none⟩,
 ⟨some 99, .bin .eql (.t 97) (.t 98), none⟩]
def a10_19 : List AOper := [
 ⟨some 100, .load true 6 (.t 5), none⟩,
 ⟨none, .store 6 (.t 20) (.t 100), none⟩]
def a10_20 : List AOper := [
 ⟨some 101, .mv (.t 19), none⟩,
 ⟨some 102, .eq true (.iface true) (.t 101) (.c .nili), none⟩,
 ⟨some 103, .mv (.t 102), none⟩,
 ⟨some 104, .load true 6 (.t 18), some (103, false)⟩,
 ⟨some 105, .load true 6 (.t 20), some (103, false)⟩,
 ⟨some 106, .call 19 [(.t 104), (.t 105)], some (103, false)⟩,
 ⟨some 107, .un .not (.t 106), some (103, false)⟩,
 ⟨some 108, .pick (.t 103) (.c (.bool true)) (.t 107), none⟩]
def a10_21 : List AOper := [
 ⟨some 6, .mv (.c (.bool false)), none⟩]
def a10_22 : List AOper := [
 ⟨some 81, .mv (.t 17), none⟩,
 ⟨some 82, .bin .add (.t 81) (.c (.int .i64 1)), none⟩,
 ⟨some 17, .mv (.t 82), none⟩]
def a10_l23 : AC := (.seq (.seq (.ops a10_15) (.cond (.t 80) .skip (.exit 0))) (.seq (.block 1 (.seq (.draw a10_16 a10_16b) (.seq (.ops a10_17) (.seq (.seq (.ops a10_18) (.cond (.t 99) (.ops a10_19) .skip)) (.seq (.ops a10_20) (.cond (.t 108) (.seq (.ops a10_21) .ret) .skip)))))) (.ops a10_22)))
def a10_24 : List AOper := [
 ⟨some 109, .call 15 [], none⟩,
 ⟨some 6, .mv (.t 109), none⟩]
def a10 : AFunc := ⟨[.tmp 6], (.seq (.ops a10_0) (.seq (.ops a10_1) (.seq (.seq (.ops a10_2) (.cond (.t 27) (.seq (.ops a10_3) .ret) .skip)) (.seq (.ops a10_4) (.seq (.seq (.ops a10_5) (.cond (.t 36) (.seq (.ops a10_6) .ret) .skip)) (.seq (.ops a10_7) (.seq (.seq (.ops a10_8) (.cond (.t 50) (.seq (.ops a10_9) .ret) .skip)) (.seq (.draw a10_10 a10_10b) (.seq (.seq (.ops a10_11) (.cond (.t 61) (.seq (.draw a10_12 a10_12b) (.seq (.ops a10_13) .ret)) .skip)) (.seq (.seq (.ops a10_14) (.block 0 (.loop a10_l23))) (.seq (.ops a10_24) .ret)))))))))))⟩
/-! ### 11: heddle/bif.All (20 slots) -/
def a11_0 : List AOper := [
 ⟨some 0, .mv (.c .nils), none⟩]
def a11_1 : List AOper := [
 ⟨some 4, .call 29 [], none⟩,
 ⟨some 1, .mv (.t 4), none⟩]
def a11_2 : List AOper := [
 ⟨some 5, .call 30 [], none⟩,
 ⟨some 6, .len false (.t 5), none⟩,
 ⟨some 7, .mv (.c (.int .i64 0)), none⟩]
def a11_3 : List AOper := [
 ⟨some 8, .bin .lss (.t 7) (.t 6), none⟩]
def a11_4 : List AOper := [
 ⟨some 9, .idxAddr 4 (.t 5) (.t 7), none⟩,
 ⟨some 10, .load true 4 (.t 9), none⟩,
 ⟨some 3, .alloc [(.str []), (.int .i64 0), (.int .i64 0), (.bool false)], none⟩,
 ⟨none, .store 4 (.t 3) (.t 10), none⟩]
def a11_5 : List AOper := [
 ⟨some 11, .fieldAddr 2 (.t 3), none⟩,
 ⟨some 12, .load false 1 (.t 11), none⟩,
 ⟨some 13, .bin .eql (.t 12) (.c (.int .i64 1)), none⟩]
def a11_6 : List AOper := [
 ⟨some 14, .mv (.t 1), none⟩,
 ⟨some 15, .load true 4 (.t 3), none⟩,
 ⟨some 16, .lit true 4 1 [(.str []), (.int .i64 0), (.int .i64 0), (.bool false)] [(0, 4, (.t 15))], none⟩,
 ⟨some 17, .append 4 40 (.t 14) (.t 16), none⟩,
 ⟨some 1, .mv (.t 17), none⟩]
def a11_7 : List AOper := [
 ⟨some 18, .bin .add (.t 7) (.c (.int .i64 1)), none⟩,
 ⟨some 7, .mv (.t 18), none⟩]
def a11_l8 : AC := (.seq (.ops a11_3) (.seq (.cond (.t 8) .skip (.exit 0)) (.seq (.block 1 (.seq (.ops a11_4) (.seq (.ops a11_5) (.cond (.t 13) (.ops a11_6) .skip)))) (.ops a11_7))))
def a11_9 : List AOper := [
 ⟨some 19, .mv (.t 1), none⟩,
 ⟨some 0, .mv (.t 19), none⟩]
def a11 : AFunc := ⟨[.tmp 0], (.seq (.ops a11_0) (.seq (.ops a11_1) (.seq (.seq (.ops a11_2) (.block 0 (.loop a11_l8))) (.seq (.ops a11_9) .ret))))⟩
/-! ### 12: heddle/heddleref13.All (71 slots) -/
def a12_0 : List AOper := [
 ⟨some 0, .mv (.c .nils), none⟩]
def a12_1 : List AOper := [
 ⟨some 1, .mv (.c .nils), none⟩]
def a12_2 : List AOper := [
 ⟨some 8, .lit true 1 3 [(.str []), (.str []), (.str [])] [(0, 1, (.c (.str [43]))), (1, 1, (.c (.str [45]))), (2, 1, (.c (.str [110, 111, 116])))], none⟩,
 ⟨some 2, .mv (.t 8), none⟩]
def a12_3 : List AOper := [
 ⟨some 3, .mv (.c (.int .i64 0)), none⟩]
def a12_4 : List AOper := [
 ⟨some 9, .mv (.t 3), none⟩,
 ⟨some 10, .mv (.t 2), none⟩,
 ⟨some 11, .len false (.t 10), none⟩,
 ⟨some 12, .bin .lss (.t 9) (.t 11), none⟩]
def a12_5 : List AOper := [
 ⟨some 15, .mv (.t 1), none⟩,
 ⟨some 16, .mv (.t 2), none⟩,
 ⟨some 17, .mv (.t 3), none⟩,
 ⟨some 18, .idxAddr 1 (.t 16) (.t 17), none⟩,
 ⟨some 19, .load false 1 (.t 18), none⟩,
 ⟨some 20, .build [(.str []), (.int .i64 0), (.int .i64 0), (.bool false)] [(0, 1, (.t 19)), (1, 1, (.c (.int .i64 1))), (2, 1, (.c (.int .i64 1))), (3, 1, (.c (.bool true)))], none⟩,
 ⟨some 21, .lit true 4 1 [(.str []), (.int .i64 0), (.int .i64 0), (.bool false)] [(0, 4, (.t 20))], none⟩,
 ⟨some 22, .append 4 40 (.t 15) (.t 21), none⟩,
 ⟨some 1, .mv (.t 22), none⟩]
def a12_6 : List AOper := [
 ⟨some 13, .mv (.t 3), none⟩,
 ⟨some 14, .bin .add (.t 13) (.c (.int .i64 1)), none⟩,
 ⟨some 3, .mv (.t 14), none⟩]
def a12_l7 : AC := (.seq (.seq (.ops a12_4) (.cond (.t 12) .skip (.exit 0))) (.seq (.block 1 (.ops a12_5)) (.ops a12_6)))
def a12_8 : List AOper := [
 ⟨some 23, .lit true 1 18 [(.str []), (.str []), (.str []), (.str []), (.str []), (.str []), (.str []), (.str []), (.str []), (.str []), (.str []), (.str []), (.str []), (.str []), (.str []), (.str []), (.str []), (.str [])] [(0, 1, (.c (.str [43]))), (1, 1, (.c (.str [45]))), (2, 1, (.c (.str [42]))), (3, 1, (.c (.str [100, 105, 118]))), (4, 1, (.c (.str [114, 101, 109]))), (5, 1, (.c (.str [97, 110, 100]))), (6, 1, (.c (.str [111, 114]))), (7, 1, (.c (.str [120, 111, 114]))), (8, 1, (.c (.str [43, 43]))), (9, 1, (.c (.str [45, 45]))), (10, 1, (.c (.str [61, 61]))), (11, 1, (.c (.str [47, 61]))), (12, 1, (.c (.str [61, 60]))), (13, 1, (.c (.str [60]))), (14, 1, (.c (.str [62, 61]))), (15, 1, (.c (.str [62]))), (16, 1, (.c (.str [61, 58, 61]))), (17, 1, (.c (.str [61, 47, 61])))], none⟩,
 ⟨some 4, .mv (.t 23), none⟩]
def a12_9 : List AOper := [
 ⟨some 5, .mv (.c (.int .i64 0)), none⟩]
def a12_10 : List AOper := [
 ⟨some 24, .mv (.t 5), none⟩,
 ⟨some 25, .mv (.t 4), none⟩,
 ⟨some 26, .len false (.t 25), none⟩,
 ⟨some 27, .bin .lss (.t 24) (.t 26), none⟩]
def a12_11 : List AOper := [
 ⟨some 30, .mv (.t 1), none⟩,
 ⟨some 31, .mv (.t 4), none⟩,
 ⟨some 32, .mv (.t 5), none⟩,
 ⟨some 33, .idxAddr 1 (.t 31) (.t 32), none⟩,
 ⟨some 34, .load false 1 (.t 33), none⟩,
 ⟨some 35, .mv (.t 4), none⟩,
 ⟨some 36, .mv (.t 5), none⟩,
 ⟨some 37, .idxAddr 1 (.t 35) (.t 36), none⟩,
 ⟨some 38, .load false 1 (.t 37), none⟩,
 ⟨some 39, .bin .neq (.t 38) (.c (.str [43, 43])), none⟩,
 ⟨some 40, .mv (.t 39), none⟩,
 ⟨some 41, .mv (.t 4), some (40, true)⟩,
 ⟨some 42, .mv (.t 5), some (40, true)⟩,
 ⟨some 43, .idxAddr 1 (.t 41) (.t 42), some (40, true)⟩,
 ⟨some 44, .load false 1 (.t 43), some (40, true)⟩,
 ⟨some 45, .bin .neq (.t 44) (.c (.str [45, 45])), some (40, true)⟩,
 ⟨some 46, .pick (.t 40) (.t 45) (.c (.bool false)), none⟩,
 ⟨some 47, .build [(.str []), (.int .i64 0), (.int .i64 0), (.bool false)] [(0, 1, (.t 34)), (1, 1, (.c (.int .i64 2))), (2, 1, (.c (.int .i64 1))), (3, 1, (.t 46))], none⟩,
 ⟨some 48, .lit true 4 1 [(.str []), (.int .i64 0), (.int .i64 0), (.bool false)] [(0, 4, (.t 47))], none⟩,
 ⟨some 49, .append 4 40 (.t 30) (.t 48), none⟩,
 ⟨some 1, .mv (.t 49), none⟩]
def a12_11b : List Nat := [0, 0, 0, 6, 14, 0, 0, 96, 224, 480, 992, 2016, 2016, 8160, 16352, 32736, 65504, 131070, 262142, 524287, 1048575]
def a12_12 : List AOper := [
 ⟨some 28, .mv (.t 5), none⟩,
 ⟨some 29, .bin .add (.t 28) (.c (.int .i64 1)), none⟩,
 ⟨some 5, .mv (.t 29), none⟩]
def a12_l13 : AC := (.seq (.seq (.ops a12_10) (.cond (.t 27) .skip (.exit 2))) (.seq (.block 3 (.draw a12_11 a12_11b)) (.ops a12_12)))
def a12_14 : List AOper := [
 ⟨some 50, .call 30 [], none⟩,
 ⟨some 6, .mv (.t 50), none⟩]
def a12_15 : List AOper := [
 ⟨some 7, .mv (.c (.int .i64 0)), none⟩]
def a12_16 : List AOper := [
 ⟨some 51, .mv (.t 7), none⟩,
 ⟨some 52, .mv (.t 6), none⟩,
 ⟨some 53, .len false (.t 52), none⟩,
 ⟨some 54, .bin .lss (.t 51) (.t 53), none⟩]
def a12_17 : List AOper := [
 ⟨some 57, .mv (.t 6), none⟩,
 ⟨some 58, .mv (.t 7), none⟩,
 ⟨some 59, .idxAddr 4 (.t 57) (.t 58), none⟩,
 ⟨some 60, .fieldAddr 2 (.t 59), none⟩,
 ⟨some 61, .load false 1 (.t 60), none⟩,
 ⟨some 62, .bin .eql (.t 61) (.c (.int .i64 1)), none⟩]
def a12_18 : List AOper := [
 ⟨some 63, .mv (.t 1), none⟩,
 ⟨some 64, .mv (.t 6), none⟩,
 ⟨some 65, .mv (.t 7), none⟩,
 ⟨some 66, .idxAddr 4 (.t 64) (.t 65), none⟩,
 ⟨some 67, .load true 4 (.t 66), none⟩,
 ⟨some 68, .lit true 4 1 [(.str []), (.int .i64 0), (.int .i64 0), (.bool false)] [(0, 4, (.t 67))], none⟩,
 ⟨some 69, .append 4 40 (.t 63) (.t 68), none⟩,
 ⟨some 1, .mv (.t 69), none⟩]
def a12_19 : List AOper := [
 ⟨some 55, .mv (.t 7), none⟩,
 ⟨some 56, .bin .add (.t 55) (.c (.int .i64 1)), none⟩,
 ⟨some 7, .mv (.t 56), none⟩]
def a12_l20 : AC := (.seq (.seq (.ops a12_16) (.cond (.t 54) .skip (.exit 4))) (.seq (.block 5 (.seq (.ops a12_17) (.cond (.t 62) (.ops a12_18) .skip))) (.ops a12_19)))
def a12_21 : List AOper := [
 ⟨some 70, .mv (.t 1), none⟩,
 ⟨some 0, .mv (.t 70), none⟩]
def a12 : AFunc := ⟨[.tmp 0], (.seq (.ops a12_0) (.seq (.ops a12_1) (.seq (.ops a12_2) (.seq (.seq (.ops a12_3) (.block 0 (.loop a12_l7))) (.seq (.ops a12_8) (.seq (.seq (.ops a12_9) (.block 2 (.loop a12_l13))) (.seq (.ops a12_14) (.seq (.seq (.ops a12_15) (.block 4 (.loop a12_l20))) (.seq (.ops a12_21) .ret)))))))))⟩
/-! ### 13: heddle/bif.Find (27 slots) -/
def a13_0 : List AOper := [
 ⟨some 4, .alloc [(.str []), (.int .i64 0), (.int .i64 0), (.bool false)], none⟩,
 ⟨some 5, .mv (.c (.bool false)), none⟩]
def a13_1 : List AOper := [
 ⟨some 8, .call 11 [], none⟩,
 ⟨some 9, .len false (.t 8), none⟩,
 ⟨some 10, .mv (.c (.int .i64 0)), none⟩]
def a13_2 : List AOper := [
 ⟨some 11, .bin .lss (.t 10) (.t 9), none⟩]
def a13_3 : List AOper := [
 ⟨some 12, .idxAddr 4 (.t 8) (.t 10), none⟩,
 ⟨some 13, .load true 4 (.t 12), none⟩,
 ⟨some 7, .alloc [(.str []), (.int .i64 0), (.int .i64 0), (.bool false)], none⟩,
 ⟨none, .store 4 (.t 7) (.t 13), none⟩]
def a13_4 : List AOper := [
 ⟨some 14, .fieldAddr 0 (.t 7), none⟩,
 ⟨some 15, .load false 1 (.t 14), none⟩,
 ⟨some 16, .mv (.t 0), none⟩,
 ⟨some 17, .bin .eql (.t 15) (.t 16), none⟩,
 ⟨some 18, .mv (.t 17), none⟩,
 ⟨some 19, .fieldAddr 1 (.t 7), some (18, true)⟩,
 ⟨some 20, .load false 1 (.t 19), some (18, true)⟩,
 ⟨some 21, .mv (.t 1), some (18, true)⟩,
 ⟨some 22, .bin .eql (.t 20) (.t 21), some (18, true)⟩,
 ⟨some 23, .pick (.t 18) (.t 22) (.c (.bool false)), none⟩]
def a13_5 : List AOper := [
 ⟨some 24, .load true 4 (.t 7), none⟩,
 ⟨none, .store 4 (.t 4) (.t 24), none⟩,
 ⟨some 5, .mv (.c (.bool true)), none⟩]
def a13_6 : List AOper := [
 ⟨some 25, .bin .add (.t 10) (.c (.int .i64 1)), none⟩,
 ⟨some 10, .mv (.t 25), none⟩]
def a13_l7 : AC := (.seq (.ops a13_2) (.seq (.cond (.t 11) .skip (.exit 0)) (.seq (.block 1 (.seq (.ops a13_3) (.seq (.ops a13_4) (.cond (.t 23) (.seq (.ops a13_5) .ret) .skip)))) (.ops a13_6))))
def a13_8 : List AOper := [
 ⟨some 26, .build [(.str []), (.int .i64 0), (.int .i64 0), (.bool false)] [], none⟩,
 ⟨none, .store 4 (.t 4) (.t 26), none⟩,
 ⟨some 5, .mv (.c (.bool false)), none⟩]
def a13 : AFunc := ⟨[.cell 4 true 4, .tmp 5], (.seq (.ops a13_0) (.seq (.seq (.ops a13_1) (.block 0 (.loop a13_l7))) (.seq (.ops a13_8) .ret)))⟩
/-! ### 14: heddle/heddleref13.Find (36 slots) -/
def a14_0 : List AOper := [
 ⟨some 4, .alloc [(.str []), (.int .i64 0), (.int .i64 0), (.bool false)], none⟩,
 ⟨some 5, .mv (.c (.bool false)), none⟩]
def a14_1 : List AOper := [
 ⟨some 8, .call 12 [], none⟩,
 ⟨some 6, .mv (.t 8), none⟩]
def a14_2 : List AOper := [
 ⟨some 7, .mv (.c (.int .i64 0)), none⟩]
def a14_3 : List AOper := [
 ⟨some 9, .mv (.t 7), none⟩,
 ⟨some 10, .mv (.t 6), none⟩,
 ⟨some 11, .len false (.t 10), none⟩,
 ⟨some 12, .bin .lss (.t 9) (.t 11), none⟩]
def a14_4 : List AOper := [
 ⟨some 15, .mv (.t 6), none⟩,
 ⟨some 16, .mv (.t 7), none⟩,
 ⟨some 17, .idxAddr 4 (.t 15) (.t 16), none⟩,
 ⟨some 18, .fieldAddr 0 (.t 17), none⟩,
 ⟨some 19, .load false 1 (.t 18), none⟩,
 ⟨some 20, .mv (.t 0), none⟩,
 ⟨some 21, .bin .eql (.t 19) (.t 20), none⟩,
 ⟨some 22, .mv (.t 21), none⟩,
 ⟨some 23, .mv (.t 6), some (22, true)⟩,
 ⟨some 24, .mv (.t 7), some (22, true)⟩,
 ⟨some 25, .idxAddr 4 (.t 23) (.t 24), some (22, true)⟩,
 ⟨some 26, .fieldAddr 1 (.t 25), some (22, true)⟩,
 ⟨some 27, .load false 1 (.t 26), some (22, true)⟩,
 ⟨some 28, .mv (.t 1), some (22, true)⟩,
 ⟨some 29, .bin .eql (.t 27) (.t 28), some (22, true)⟩,
 ⟨some 30, .pick (.t 22) (.t 29) (.c (.bool false)), none⟩]
def a14_5 : List AOper := [
 ⟨some 31, .mv (.t 6), none⟩,
 ⟨some 32, .mv (.t 7), none⟩,
 ⟨some 33, .idxAddr 4 (.t 31) (.t 32), none⟩,
 ⟨some 34, .load true 4 (.t 33), none⟩,
 ⟨none, .store 4 (.t 4) (.t 34), none⟩,
 ⟨some 5, .mv (.c (.bool true)), none⟩]
def a14_6 : List AOper := [
 ⟨some 13, .mv (.t 7), none⟩,
 ⟨some 14, .bin .add (.t 13) (.c (.int .i64 1)), none⟩,
 ⟨some 7, .mv (.t 14), none⟩]
def a14_l7 : AC := (.seq (.seq (.ops a14_3) (.cond (.t 12) .skip (.exit 0))) (.seq (.block 1 (.seq (.ops a14_4) (.cond (.t 30) (.seq (.ops a14_5) .ret) .skip))) (.ops a14_6)))
def a14_8 : List AOper := [
 ⟨some 35, .build [(.str []), (.int .i64 0), (.int .i64 0), (.bool false)] [], none⟩,
 ⟨none, .store 4 (.t 4) (.t 35), none⟩,
 ⟨some 5, .mv (.c (.bool false)), none⟩]
def a14 : AFunc := ⟨[.cell 4 true 4, .tmp 5], (.seq (.ops a14_0) (.seq (.ops a14_1) (.seq (.seq (.ops a14_2) (.block 0 (.loop a14_l7))) (.seq (.ops a14_8) .ret))))⟩
/-! ### 15: heddle/heddlelaw13.alive (50 slots) -/
def a15_0 : List AOper := [
 ⟨some 0, .mv (.c (.bool false)), none⟩]
def a15_1 : List AOper := [
 ⟨some 8, .call 22 [(.c (.int .i64 1))], none⟩,
 ⟨some 9, .call 22 [(.c (.int .i64 2))], none⟩,
 ⟨some 10, .lit true 6 2 [(.int .i64 0), (.int .i64 0), (.str []), (.int .u32 0), .nils, .nils, (.int .i64 0), (.int .i64 0), (.str []), (.int .u32 0), .nils, .nils] [(0, 6, (.t 8)), (6, 6, (.t 9))], none⟩,
 ⟨some 11, .call 18 [(.c (.str [43])), (.t 10)], none⟩,
 ⟨some 7, .mv (.t 11), none⟩,
 ⟨some 12, .extract (.t 7) 0, none⟩,
 ⟨some 13, .extract (.t 7) 1, none⟩,
 ⟨some 1, .alloc [(.int .i64 0), (.int .i64 0), (.str []), (.int .u32 0), .nils, .nils], none⟩,
 ⟨none, .store 6 (.t 1) (.t 12), none⟩,
 ⟨some 2, .mv (.t 13), none⟩]
def a15_2 : List AOper := [
 ⟨some 15, .call 22 [(.c (.int .i64 1))], none⟩,
 ⟨some 16, .call 31 [(.c (.str [97]))], none⟩,
 ⟨some 17, .lit true 6 2 [(.int .i64 0), (.int .i64 0), (.str []), (.int .u32 0), .nils, .nils, (.int .i64 0), (.int .i64 0), (.str []), (.int .u32 0), .nils, .nils] [(0, 6, (.t 15)), (6, 6, (.t 16))], none⟩,
 ⟨some 18, .call 18 [(.c (.str [43])), (.t 17)], none⟩,
 ⟨some 14, .mv (.t 18), none⟩,
 ⟨some 19, .extract (.t 14) 0, none⟩,
 ⟨some 20, .extract (.t 14) 1, none⟩,
 ⟨some 3, .alloc [(.int .i64 0), (.int .i64 0), (.str []), (.int .u32 0), .nils, .nils], none⟩,
 ⟨none, .store 6 (.t 3) (.t 19), none⟩,
 ⟨some 4, .mv (.t 20), none⟩]
def a15_3 : List AOper := [
 ⟨some 22, .mv (.t 4), none⟩,
 ⟨some 23, .call 27 [(.t 22)], none⟩,
 ⟨some 21, .mv (.t 23), none⟩,
 ⟨some 24, .extract (.t 21) 0, none⟩,
 ⟨some 25, .extract (.t 21) 1, none⟩,
 ⟨some 5, .alloc [(.int .i64 0), (.int .i64 0), (.str []), (.int .u32 0), .nils, .nils], none⟩,
 ⟨none, .store 6 (.t 5) (.t 24), none⟩,
 ⟨some 6, .mv (.t 25), none⟩]
def a15_4 : List AOper := [
 ⟨some 26, .mv (.t 2), none⟩,
 ⟨some 27, .eq false (.iface true) (.t 26) (.c .nili), none⟩,
 ⟨some 28, .mv (.t 27), none⟩,
 ⟨some 29, .fieldAddr 0 (.t 1), some (28, true)⟩,
 ⟨some 30, .load false 1 (.t 29), some (28, true)⟩,
 ⟨some 31, .bin .eql (.t 30) (.c (.int .i64 1)), some (28, true)⟩,
 ⟨some 32, .pick (.t 28) (.t 31) (.c (.bool false)), none⟩,
 ⟨some 33, .mv (.t 32), none⟩,
 ⟨some 34, .fieldAddr 1 (.t 1), some (33, true)⟩,
 ⟨some 35, .load false 1 (.t 34), some (33, true)⟩,
 ⟨some 36, .bin .eql (.t 35) (.c (.int .i64 3)), some (33, true)⟩,
 ⟨some 37, .pick (.t 33) (.t 36) (.c (.bool false)), none⟩,
 ⟨some 38, .mv (.t 37), none⟩,
 ⟨some 39, .mv (.t 6), some (38, true)⟩,
 ⟨some 40, .pick (.t 38) (.t 39) (.c (.bool false)), none⟩,
 ⟨some 41, .mv (.t 40), none⟩,
 ⟨some 42, .fieldAddr 2 (.t 5), some (41, true)⟩,
 ⟨some 43, .load false 1 (.t 42), some (41, true)⟩,
 ⟨some 44, .bin .eql (.t 43) (.c (.str [98, 97, 100, 97, 114, 105, 116, 104])), some (41, true)⟩,
 ⟨some 45, .pick (.t 41) (.t 44) (.c (.bool false)), none⟩,
 ⟨some 46, .mv (.t 45), none⟩,
 ⟨some 47, .call 31 [(.c (.str [116, 114, 117, 101]))], some (46, true)⟩,
 ⟨some 48, .call 17 [(.t 47)], some (46, true)⟩,
 ⟨some 49, .pick (.t 46) (.t 48) (.c (.bool false)), none⟩,
 ⟨some 0, .mv (.t 49), none⟩]
def a15 : AFunc := ⟨[.tmp 0], (.seq (.ops a15_0) (.seq (.ops a15_1) (.seq (.ops a15_2) (.seq (.ops a15_3) (.seq (.ops a15_4) .ret)))))⟩
/-! ### 16: heddle/heddleref02.Check (13 slots) -/
def a16_0 : List AOper := [
 ⟨some 1, .box false 6 (.t 0), none⟩,
 ⟨some 2, .mv (.c .nils), none⟩]
def a16_1 : List AOper := [
 ⟨some 4, .build [(.int .i64 0), (.int .i64 0), .nils] [], none⟩,
 ⟨some 5, .box false 3 (.t 4), none⟩,
 ⟨some 3, .mv (.t 5), none⟩]
def a16_2 : List AOper := [
 ⟨some 6, .mv (.t 3), none⟩,
 ⟨some 7, .load true 6 (.t 1), none⟩,
 ⟨some 8, .call 32 [(.t 6), (.t 7), (.c (.int .i64 1))], none⟩]
def a16_3 : List AOper := [
 ⟨some 9, .mv (.t 3), none⟩,
 ⟨some 10, .nilCheck (.t 9), none⟩,
 ⟨some 11, .fieldAddr 2 (.t 10), none⟩,
 ⟨some 12, .load false 1 (.t 11), none⟩,
 ⟨some 2, .mv (.t 12), none⟩]
def a16 : AFunc := ⟨[.tmp 2], (.seq (.ops a16_0) (.seq (.ops a16_1) (.seq (.ops a16_2) (.seq (.ops a16_3) .ret))))⟩
/-! ### 17: heddle/bif.True (6 slots) -/
def a17_0 : List AOper := [
 ⟨some 1, .box false 6 (.t 0), none⟩,
 ⟨some 2, .mv (.c (.bool false)), none⟩]
def a17_1 : List AOper := [
 ⟨some 3, .load true 6 (.t 1), none⟩,
 ⟨some 4, .call 34 [(.c (.str [116, 114, 117, 101]))], none⟩,
 ⟨some 5, .call 33 [(.t 3), (.t 4)], none⟩,
 ⟨some 2, .mv (.t 5), none⟩]
def a17_1b : List Nat := [0, 0, 3, 7]
def a17 : AFunc := ⟨[.tmp 2], (.seq (.ops a17_0) (.seq (.draw a17_1 a17_1b) .ret))⟩
/-! ### 18: heddle/bif.Call (70 slots) -/
def a18_0 : List AOper := [
 ⟨some 4, .alloc [(.int .i64 0), (.int .i64 0), (.str []), (.int .u32 0), .nils, .nils], none⟩,
 ⟨some 5, .mv (.c .nili), none⟩]
def a18_1 : List AOper := [
 ⟨some 15, .mv (.t 0), none⟩,
 ⟨some 16, .mv (.t 1), none⟩,
 ⟨some 17, .len false (.t 16), none⟩,
 ⟨some 18, .call 13 [(.t 15), (.t 17)], none⟩,
 ⟨some 14, .mv (.t 18), none⟩,
 ⟨some 19, .extract (.t 14) 0, none⟩,
 ⟨some 20, .extract (.t 14) 1, none⟩,
 ⟨some 6, .alloc [(.str []), (.int .i64 0), (.int .i64 0), (.bool false)], none⟩,
 ⟨none, .store 4 (.t 6) (.t 19), none⟩,
 ⟨some 7, .mv (.t 20), none⟩]
def a18_2 : List AOper := [
 ⟨some 21, .mv (.t 7), none⟩,
 ⟨some 22, .un .not (.t 21), none⟩]
def a18_3 : List AOper := [
 ⟨some 23, .build [(.int .i64 0), (.int .i64 0), (.str []), (.int .u32 0), .nils, .nils] [], none⟩,
 ⟨some 24, .call 35 [(.c (.int .i64 0)), (.c (.int .i64 263))], none⟩,
 ⟨none, .store 6 (.t 4) (.t 23), none⟩,
 ⟨some 5, .mv (.t 24), none⟩]
def a18_4 : List AOper := [
 ⟨some 25, .mv (.t 1), none⟩,
 ⟨some 26, .len false (.t 25), none⟩,
 ⟨some 27, .mv (.c (.int .i64 0)), none⟩]
def a18_5 : List AOper := [
 ⟨some 28, .bin .lss (.t 27) (.t 26), none⟩]
def a18_6 : List AOper := [
 ⟨some 29, .mv (.t 27), none⟩,
 ⟨some 30, .idxAddr 6 (.t 25) (.t 27), none⟩,
 ⟨some 31, .load true 6 (.t 30), none⟩,
 ⟨some 9, .alloc [(.int .i64 0), (.int .i64 0), (.str []), (.int .u32 0), .nils, .nils], none⟩,
 ⟨some 8, .mv (.t 29), none⟩,
 ⟨none, .store 6 (.t 9) (.t 31), none⟩]
def a18_7 : List AOper := [
 ⟨some 32, .load true 6 (.t 9), none⟩,
 ⟨some 33, .call 36 [(.t 32)], none⟩,
 ⟨some 10, .mv (.t 33), none⟩]
def a18_8 : List AOper := [
 ⟨some 34, .mv (.t 10), none⟩,
 ⟨some 35, .eq true (.iface true) (.t 34) (.c .nili), none⟩]
def a18_9 : List AOper := [
 ⟨some 11, .alloc [.nilp], none⟩]
def a18_10 : List AOper := [
 ⟨some 36, .mv (.t 10), none⟩,
 ⟨some 37, .mkIface 71 (.t 11), none⟩,
 ⟨some 38, .call 37 [(.t 36), (.t 37)], none⟩]
def a18_11 : List AOper := [
 ⟨some 39, .build [(.int .i64 0), (.int .i64 0), (.str []), (.int .u32 0), .nils, .nils] [], none⟩,
 ⟨some 40, .mv (.t 8), none⟩,
 ⟨some 41, .load false 1 (.t 11), none⟩,
 ⟨some 42, .nilCheck (.t 41), none⟩,
 ⟨some 43, .fieldAddr 2 (.t 42), none⟩,
 ⟨some 44, .load false 1 (.t 43), none⟩,
 ⟨some 45, .mv (.t 10), none⟩,
 ⟨some 46, .build [(.str []), (.int .i64 0), (.int .i64 0), .nili] [(0, 1, (.c (.str [98, 105, 102]))), (1, 1, (.t 40)), (2, 1, (.t 44)), (3, 1, (.t 45))], none⟩,
 ⟨some 47, .box true 4 (.t 46), none⟩,
 ⟨some 48, .mkIface 69 (.t 47), none⟩,
 ⟨none, .store 6 (.t 4) (.t 39), none⟩,
 ⟨some 5, .mv (.t 48), none⟩]
def a18_11b : List Nat := [0, 0, 0, 4, 12, 28, 0, 126, 254, 510, 1, 2047]
def a18_12 : List AOper := [
 ⟨some 49, .bin .add (.t 27) (.c (.int .i64 1)), none⟩,
 ⟨some 27, .mv (.t 49), none⟩]
def a18_l13 : AC := (.seq (.ops a18_5) (.seq (.cond (.t 28) .skip (.exit 0)) (.seq (.block 1 (.seq (.ops a18_6) (.seq (.ops a18_7) (.seq (.ops a18_8) (.cond (.t 35) (.seq (.ops a18_9) (.seq (.ops a18_10) (.seq (.draw a18_11 a18_11b) .ret))) .skip))))) (.ops a18_12))))
def a18_14 : List AOper := [
 ⟨some 51, .mv (.t 0), none⟩,
 ⟨some 52, .mv (.t 1), none⟩,
 ⟨some 53, .call 38 [(.t 51), (.t 52)], none⟩,
 ⟨some 50, .mv (.t 53), none⟩,
 ⟨some 54, .extract (.t 50) 0, none⟩,
 ⟨some 55, .extract (.t 50) 1, none⟩,
 ⟨some 12, .alloc [(.int .i64 0), (.int .i64 0), (.str []), (.int .u32 0), .nils, .nils], none⟩,
 ⟨none, .store 6 (.t 12) (.t 54), none⟩,
 ⟨some 13, .mv (.t 55), none⟩]
def a18_15 : List AOper := [
 ⟨some 56, .mv (.t 13), none⟩,
 ⟨some 57, .bin .eql (.t 56) (.c (.int .i64 0)), none⟩,
 ⟨some 58, .mv (.t 57), none⟩,
 ⟨some 59, .load true 6 (.t 12), some (58, true)⟩,
 ⟨some 60, .call 36 [(.t 59)], some (58, true)⟩,
 ⟨some 61, .eq true (.iface true) (.t 60) (.c .nili), some (58, true)⟩,
 ⟨some 62, .pick (.t 58) (.t 61) (.c (.bool false)), none⟩]
def a18_16 : List AOper := [
 ⟨some 13, .mv (.c (.int .i64 262)), none⟩]
def a18_17 : List AOper := [
 ⟨some 63, .mv (.t 13), none⟩,
 ⟨some 64, .bin .neq (.t 63) (.c (.int .i64 0)), none⟩]
def a18_18 : List AOper := [
 ⟨some 65, .build [(.int .i64 0), (.int .i64 0), (.str []), (.int .u32 0), .nils, .nils] [], none⟩,
 ⟨some 66, .mv (.t 13), none⟩,
 ⟨some 67, .call 35 [(.c (.int .i64 0)), (.t 66)], none⟩,
 ⟨none, .store 6 (.t 4) (.t 65), none⟩,
 ⟨some 5, .mv (.t 67), none⟩]
def a18_19 : List AOper := [
 ⟨some 68, .load true 6 (.t 12), none⟩,
 ⟨some 69, .call 39 [(.t 68)], none⟩,
 ⟨none, .store 6 (.t 4) (.t 69), none⟩,
 ⟨some 5, .mv (.c .nili), none⟩]
def a18 : AFunc := ⟨[.cell 4 true 6, .tmp 5], (.seq (.ops a18_0) (.seq (.seq (.ops a18_1) (.seq (.ops a18_2) (.cond (.t 22) (.seq (.ops a18_3) .ret) .skip))) (.seq (.seq (.ops a18_4) (.block 0 (.loop a18_l13))) (.seq (.ops a18_14) (.seq (.seq (.ops a18_15) (.cond (.t 62) (.ops a18_16) .skip)) (.seq (.seq (.ops a18_17) (.cond (.t 64) (.seq (.ops a18_18) .ret) .skip)) (.seq (.ops a18_19) .ret)))))))⟩
/-! ### 19: heddle/heddleref02.Same (88 slots) -/
def a19_0 : List AOper := [
 ⟨some 2, .box false 6 (.t 0), none⟩,
 ⟨some 3, .box false 6 (.t 1), none⟩,
 ⟨some 4, .mv (.c (.bool false)), none⟩]
def a19_1 : List AOper := [
 ⟨some 7, .fieldAddr 0 (.t 2), none⟩,
 ⟨some 8, .load false 1 (.t 7), none⟩,
 ⟨some 9, .fieldAddr 0 (.t 3), none⟩,
 ⟨some 10, .load false 1 (.t 9), none⟩,
 ⟨some 11, .bin .neq (.t 8) (.t 10), none⟩,
 ⟨some 12, .mv (.t 11), none⟩,
 ⟨some 13, .fieldAddr 1 (.t 2), some (12, false)⟩,
 ⟨some 14, .load false 1 (.t 13), some (12, false)⟩,
 ⟨some 15, .fieldAddr 1 (.t 3), some (12, false)⟩,
 ⟨some 16, .load false 1 (.t 15), some (12, false)⟩,
 ⟨some 17, .bin .neq (.t 14) (.t 16), some (12, false)⟩,
 ⟨some 18, .pick (.t 12) (.c (.bool true)) (.t 17), none⟩,
 ⟨some 19, .mv (.t 18), none⟩,
 ⟨some 20, .fieldAddr 2 (.t 2), some (19, false)⟩,
 ⟨some 21, .load false 1 (.t 20), some (19, false)⟩,
 ⟨some 22, .fieldAddr 2 (.t 3), some (19, false)⟩,
 ⟨some 23, .load false 1 (.t 22), some (19, false)⟩,
 ⟨some 24, .bin .neq (.t 21) (.t 23), some (19, false)⟩,
 ⟨some 25, .pick (.t 19) (.c (.bool true)) (.t 24), none⟩,
 ⟨some 26, .mv (.t 25), none⟩,
 ⟨some 27, .fieldAddr 3 (.t 2), some (26, false)⟩,
 ⟨some 28, .load false 1 (.t 27), some (26, false)⟩,
 ⟨some 29, .fieldAddr 3 (.t 3), some (26, false)⟩,
 ⟨some 30, .load false 1 (.t 29), some (26, false)⟩,
 ⟨some 31, .bin .neq (.t 28) (.t 30), some (26, false)⟩,
 ⟨some 32, .pick (.t 26) (.c (.bool true)) (.t 31), none⟩,
 ⟨some 33, .mv (.t 32), none⟩,
 ⟨some 34, .fieldAddr 4 (.t 2), some (33, false)⟩,
 ⟨some 35, .load false 1 (.t 34), some (33, false)⟩,
 ⟨some 36, .len false (.t 35), some (33, false)⟩,
 ⟨some 37, .fieldAddr 4 (.t 3), some (33, false)⟩,
 ⟨some 38, .load false 1 (.t 37), some (33, false)⟩,
 ⟨some 39, .len false (.t 38), some (33, false)⟩,
 ⟨some 40, .bin .neq (.t 36) (.t 39), some (33, false)⟩,
 ⟨some 41, .pick (.t 33) (.c (.bool true)) (.t 40), none⟩,
 ⟨some 42, .mv (.t 41), none⟩,
 ⟨some 43, .fieldAddr 5 (.t 2), some (42, false)⟩,
 ⟨some 44, .load false 1 (.t 43), some (42, false)⟩,
 ⟨some 45, .len false (.t 44), some (42, false)⟩,
 ⟨some 46, .fieldAddr 5 (.t 3), some (42, false)⟩,
 ⟨some 47, .load false 1 (.t 46), some (42, false)⟩,
 ⟨some 48, .len false (.t 47), some (42, false)⟩,
 ⟨some 49, .bin .neq (.t 45) (.t 48), some (42, false)⟩,
 ⟨some 50, .pick (.t 42) (.c (.bool true)) (.t 49), none⟩]
def a19_2 : List AOper := [
 ⟨some 4, .mv (.c (.bool false)), none⟩]
def a19_3 : List AOper := [
 ⟨some 5, .mv (.c (.int .i64 0)), none⟩]
def a19_4 : List AOper := [
 ⟨some 51, .mv (.t 5), none⟩,
 ⟨some 52, .fieldAddr 4 (.t 2), none⟩,
 ⟨some 53, .load false 1 (.t 52), none⟩,
 ⟨some 54, .len false (.t 53), none⟩,
 ⟨some 55, .bin .lss (.t 51) (.t 54), none⟩]
def a19_5 : List AOper := [
 ⟨some 58, .fieldAddr 4 (.t 2), none⟩,
 ⟨some 59, .load false 1 (.t 58), none⟩,
 ⟨some 60, .mv (.t 5), none⟩,
 ⟨some 61, .idxAddr 1 (.t 59) (.t 60), none⟩,
 ⟨some 62, .load false 1 (.t 61), none⟩,
 ⟨some 63, .fieldAddr 4 (.t 3), none⟩,
 ⟨some 64, .load false 1 (.t 63), none⟩,
 ⟨some 65, .mv (.t 5), none⟩,
 ⟨some 66, .idxAddr 1 (.t 64) (.t 65), none⟩,
 ⟨some 67, .load false 1 (.t 66), none⟩,
 ⟨some 68, .bin .neq (.t 62) (.t 67), none⟩]
def a19_5b : List Nat := [0, 1, 0, 7, 15, 0, 32, 0, 224, 480, 1023]
def a19_6 : List AOper := [
 ⟨some 4, .mv (.c (.bool false)), none⟩]
def a19_7 : List AOper := [
 ⟨some 56, .mv (.t 5), none⟩,
 ⟨some 57, .bin .add (.t 56) (.c (.int .i64 1)), none⟩,
 ⟨some 5, .mv (.t 57), none⟩]
def a19_l8 : AC := (.seq (.seq (.ops a19_4) (.cond (.t 55) .skip (.exit 0))) (.seq (.block 1 (.seq (.draw a19_5 a19_5b) (.cond (.t 68) (.seq (.ops a19_6) .ret) .skip))) (.ops a19_7)))
def a19_9 : List AOper := [
 ⟨some 6, .mv (.c (.int .i64 0)), none⟩]
def a19_10 : List AOper := [
 ⟨some 69, .mv (.t 6), none⟩,
 ⟨some 70, .fieldAddr 5 (.t 2), none⟩,
 ⟨some 71, .load false 1 (.t 70), none⟩,
 ⟨some 72, .len false (.t 71), none⟩,
 ⟨some 73, .bin .lss (.t 69) (.t 72), none⟩]
def a19_11 : List AOper := [
 ⟨some 76, .fieldAddr 5 (.t 2), none⟩,
 ⟨some 77, .load false 1 (.t 76), none⟩,
 ⟨some 78, .mv (.t 6), none⟩,
 ⟨some 79, .idxAddr 6 (.t 77) (.t 78), none⟩,
 ⟨some 80, .load true 6 (.t 79), none⟩,
 ⟨some 81, .fieldAddr 5 (.t 3), none⟩,
 ⟨some 82, .load false 1 (.t 81), none⟩,
 ⟨some 83, .mv (.t 6), none⟩,
 ⟨some 84, .idxAddr 6 (.t 82) (.t 83), none⟩,
 ⟨some 85, .load true 6 (.t 84), none⟩,
 ⟨some 86, .call 19 [(.t 80), (.t 85)], none⟩,
 ⟨some 87, .un .not (.t 86), none⟩]
def a19_11b : List Nat := [0, 1, 0, 7, 15, 0, 32, 0, 224, 480, 1023, 2047]
def a19_12 : List AOper := [
 ⟨some 4, .mv (.c (.bool false)), none⟩]
def a19_13 : List AOper := [
 ⟨some 74, .mv (.t 6), none⟩,
 ⟨some 75, .bin .add (.t 74) (.c (.int .i64 1)), none⟩,
 ⟨some 6, .mv (.t 75), none⟩]
def a19_l14 : AC := (.seq (.seq (.ops a19_10) (.cond (.t 73) .skip (.exit 2))) (.seq (.block 3 (.seq (.draw a19_11 a19_11b) (.cond (.t 87) (.seq (.ops a19_12) .ret) .skip))) (.ops a19_13)))
def a19_15 : List AOper := [
 ⟨some 4, .mv (.c (.bool true)), none⟩]
def a19 : AFunc := ⟨[.tmp 4], (.seq (.ops a19_0) (.seq (.seq (.ops a19_1) (.cond (.t 50) (.seq (.ops a19_2) .ret) .skip)) (.seq (.seq (.ops a19_3) (.block 0 (.loop a19_l8))) (.seq (.seq (.ops a19_9) (.block 2 (.loop a19_l14))) (.seq (.ops a19_15) .ret)))))⟩
/-! ### 20: heddle/heddleref02.Compare (16 slots) -/
def a20_0 : List AOper := [
 ⟨some 2, .box false 6 (.t 0), none⟩,
 ⟨some 3, .box false 6 (.t 1), none⟩,
 ⟨some 4, .mv (.c (.int .i64 0)), none⟩]
def a20_1 : List AOper := [
 ⟨some 5, .load true 6 (.t 2), none⟩,
 ⟨some 6, .call 16 [(.t 5)], none⟩,
 ⟨some 7, .eq true .slice (.t 6) (.c .nils), none⟩,
 ⟨some 8, .mv (.t 7), none⟩,
 ⟨some 9, .load true 6 (.t 3), some (8, false)⟩,
 ⟨some 10, .call 16 [(.t 9)], some (8, false)⟩,
 ⟨some 11, .eq true .slice (.t 10) (.c .nils), some (8, false)⟩,
 ⟨some 12, .pick (.t 8) (.c (.bool true)) (.t 11), none⟩]
def a20_2 : List AOper := [
 ⟨some 4, .mv (.c (.int .i64 0)), none⟩]
def a20_3 : List AOper := [
 ⟨some 13, .load true 6 (.t 2), none⟩,
 ⟨some 14, .load true 6 (.t 3), none⟩,
 ⟨some 15, .call 40 [(.t 13), (.t 14)], none⟩,
 ⟨some 4, .mv (.t 15), none⟩]
def a20 : AFunc := ⟨[.tmp 4], (.seq (.ops a20_0) (.seq (.seq (.ops a20_1) (.cond (.t 12) (.seq (.ops a20_2) .ret) .skip)) (.seq (.ops a20_3) .ret)))⟩
/-! ### 21: heddle/heddlelaw13.proper (13 slots) -/
def a21_0 : List AOper := [
 ⟨some 2, .alloc [(.int .i64 0), (.int .i64 0), (.str []), (.int .u32 0), .nils, .nils], none⟩,
 ⟨some 3, .mv (.c (.bool false)), none⟩]
def a21_1 : List AOper := [
 ⟨some 5, .mv (.t 0), none⟩,
 ⟨some 6, .build [(.int .i64 0), (.int .i64 0), (.str []), (.int .u32 0), .nils, .nils] [(0, 1, (.c (.int .i64 6)))], none⟩,
 ⟨some 7, .call 41 [(.t 5), (.t 6)], none⟩,
 ⟨some 4, .alloc [(.int .i64 0), (.int .i64 0), (.str []), (.int .u32 0), .nils, .nils], none⟩,
 ⟨none, .store 6 (.t 4) (.t 7), none⟩]
def a21_2 : List AOper := [
 ⟨some 8, .load true 6 (.t 4), none⟩,
 ⟨some 9, .load true 6 (.t 4), none⟩,
 ⟨some 10, .call 16 [(.t 9)], none⟩,
 ⟨some 11, .len false (.t 10), none⟩,
 ⟨some 12, .bin .eql (.t 11) (.c (.int .i64 0)), none⟩,
 ⟨none, .store 6 (.t 2) (.t 8), none⟩,
 ⟨some 3, .mv (.t 12), none⟩]
def a21_2b : List Nat := [0, 0, 2, 6, 14, 7, 63]
def a21 : AFunc := ⟨[.cell 2 true 6, .tmp 3], (.seq (.ops a21_0) (.seq (.ops a21_1) (.seq (.draw a21_2 a21_2b) .ret)))⟩
/-! ### 22: heddle/heddleref13.Int (5 slots) -/
def a22_0 : List AOper := [
 ⟨some 2, .alloc [(.int .i64 0), (.int .i64 0), (.str []), (.int .u32 0), .nils, .nils], none⟩]
def a22_1 : List AOper := [
 ⟨some 3, .mv (.t 0), none⟩,
 ⟨some 4, .build [(.int .i64 0), (.int .i64 0), (.str []), (.int .u32 0), .nils, .nils] [(0, 1, (.c (.int .i64 1))), (1, 1, (.t 3))], none⟩,
 ⟨none, .store 6 (.t 2) (.t 4), none⟩]
def a22 : AFunc := ⟨[.cell 2 true 6], (.seq (.ops a22_0) (.seq (.ops a22_1) .ret))⟩
/-! ### 23: heddle/heddleref13.True (6 slots) -/
def a23_0 : List AOper := [
 ⟨some 1, .box false 6 (.t 0), none⟩,
 ⟨some 2, .mv (.c (.bool false)), none⟩]
def a23_1 : List AOper := [
 ⟨some 3, .load true 6 (.t 1), none⟩,
 ⟨some 4, .call 31 [(.c (.str [116, 114, 117, 101]))], none⟩,
 ⟨some 5, .call 19 [(.t 3), (.t 4)], none⟩,
 ⟨some 2, .mv (.t 5), none⟩]
def a23_1b : List Nat := [0, 0, 3, 7]
def a23 : AFunc := ⟨[.tmp 2], (.seq (.ops a23_0) (.seq (.draw a23_1 a23_1b) .ret))⟩
/-! ### 24: heddle/heddleref02.Own (31 slots) -/
def a24_0 : List AOper := [
 ⟨some 1, .box false 6 (.t 0), none⟩,
 ⟨some 2, .alloc [(.int .i64 0), (.int .i64 0), (.str []), (.int .u32 0), .nils, .nils], none⟩]
def a24_1 : List AOper := [
 ⟨some 3, .mv (.c .nils), none⟩]
def a24_2 : List AOper := [
 ⟨some 6, .mv (.t 3), none⟩,
 ⟨some 7, .fieldAddr 4 (.t 1), none⟩,
 ⟨some 8, .load false 1 (.t 7), none⟩,
 ⟨some 9, .append 1 4 (.t 6) (.t 8), none⟩,
 ⟨some 3, .mv (.t 9), none⟩]
def a24_3 : List AOper := [
 ⟨some 10, .mv (.t 3), none⟩,
 ⟨some 11, .fieldAddr 4 (.t 1), none⟩,
 ⟨none, .store 1 (.t 11) (.t 10), none⟩]
def a24_4 : List AOper := [
 ⟨some 4, .mv (.c .nils), none⟩]
def a24_5 : List AOper := [
 ⟨some 5, .mv (.c (.int .i64 0)), none⟩]
def a24_6 : List AOper := [
 ⟨some 12, .mv (.t 5), none⟩,
 ⟨some 13, .fieldAddr 5 (.t 1), none⟩,
 ⟨some 14, .load false 1 (.t 13), none⟩,
 ⟨some 15, .len false (.t 14), none⟩,
 ⟨some 16, .bin .lss (.t 12) (.t 15), none⟩]
def a24_7 : List AOper := [
 ⟨some 19, .mv (.t 4), none⟩,
 ⟨some 20, .fieldAddr 5 (.t 1), none⟩,
 ⟨some 21, .load false 1 (.t 20), none⟩,
 ⟨some 22, .mv (.t 5), none⟩,
 ⟨some 23, .idxAddr 6 (.t 21) (.t 22), none⟩,
 ⟨some 24, .load true 6 (.t 23), none⟩,
 ⟨some 25, .call 24 [(.t 24)], none⟩,
 ⟨some 26, .lit true 6 1 [(.int .i64 0), (.int .i64 0), (.str []), (.int .u32 0), .nils, .nils] [(0, 6, (.t 25))], none⟩,
 ⟨some 27, .append 6 88 (.t 19) (.t 26), none⟩,
 ⟨some 4, .mv (.t 27), none⟩]
def a24_8 : List AOper := [
 ⟨some 17, .mv (.t 5), none⟩,
 ⟨some 18, .bin .add (.t 17) (.c (.int .i64 1)), none⟩,
 ⟨some 5, .mv (.t 18), none⟩]
def a24_l9 : AC := (.seq (.seq (.ops a24_6) (.cond (.t 16) .skip (.exit 0))) (.seq (.block 1 (.ops a24_7)) (.ops a24_8)))
def a24_10 : List AOper := [
 ⟨some 28, .mv (.t 4), none⟩,
 ⟨some 29, .fieldAddr 5 (.t 1), none⟩,
 ⟨none, .store 1 (.t 29) (.t 28), none⟩]
def a24_11 : List AOper := [
 ⟨some 30, .load true 6 (.t 1), none⟩,
 ⟨none, .store 6 (.t 2) (.t 30), none⟩]
def a24 : AFunc := ⟨[.cell 2 true 6], (.seq (.ops a24_0) (.seq (.ops a24_1) (.seq (.ops a24_2) (.seq (.ops a24_3) (.seq (.ops a24_4) (.seq (.seq (.ops a24_5) (.block 0 (.loop a24_l9))) (.seq (.ops a24_10) (.seq (.ops a24_11) .ret))))))))⟩
/-! ### 25: heddle/heddleref13.Call (63 slots) -/
def a25_0 : List AOper := [
 ⟨some 4, .alloc [(.int .i64 0), (.int .i64 0), (.str []), (.int .u32 0), .nils, .nils], none⟩,
 ⟨some 5, .mv (.c .nils), none⟩]
def a25_1 : List AOper := [
 ⟨some 13, .mv (.t 0), none⟩,
 ⟨some 14, .mv (.t 1), none⟩,
 ⟨some 15, .len false (.t 14), none⟩,
 ⟨some 16, .call 14 [(.t 13), (.t 15)], none⟩,
 ⟨some 12, .mv (.t 16), none⟩,
 ⟨some 17, .extract (.t 12) 0, none⟩,
 ⟨some 18, .extract (.t 12) 1, none⟩,
 ⟨some 6, .alloc [(.str []), (.int .i64 0), (.int .i64 0), (.bool false)], none⟩,
 ⟨none, .store 4 (.t 6) (.t 17), none⟩,
 ⟨some 7, .mv (.t 18), none⟩]
def a25_2 : List AOper := [
 ⟨some 19, .mv (.t 7), none⟩,
 ⟨some 20, .un .not (.t 19), none⟩]
def a25_3 : List AOper := [
 ⟨some 21, .build [(.int .i64 0), (.int .i64 0), (.str []), (.int .u32 0), .nils, .nils] [], none⟩,
 ⟨some 22, .call 42 [(.c (.int .i64 0)), (.c (.int .i64 263))], none⟩,
 ⟨none, .store 6 (.t 4) (.t 21), none⟩,
 ⟨some 5, .mv (.t 22), none⟩]
def a25_4 : List AOper := [
 ⟨some 8, .mv (.c (.int .i64 0)), none⟩]
def a25_5 : List AOper := [
 ⟨some 23, .mv (.t 8), none⟩,
 ⟨some 24, .mv (.t 1), none⟩,
 ⟨some 25, .len false (.t 24), none⟩,
 ⟨some 26, .bin .lss (.t 23) (.t 25), none⟩]
def a25_6 : List AOper := [
 ⟨some 29, .mv (.t 1), none⟩,
 ⟨some 30, .mv (.t 8), none⟩,
 ⟨some 31, .idxAddr 6 (.t 29) (.t 30), none⟩,
 ⟨some 32, .load true 6 (.t 31), none⟩,
 ⟨some 33, .call 16 [(.t 32)], none⟩,
 ⟨some 9, .mv (.t 33), none⟩]
def a25_7 : List AOper := [
 ⟨some 34, .mv (.t 9), none⟩,
 ⟨some 35, .len false (.t 34), none⟩,
 ⟨some 36, .bin .gtr (.t 35) (.c (.int .i64 0)), none⟩]
def a25_8 : List AOper := [
 ⟨some 37, .build [(.int .i64 0), (.int .i64 0), (.str []), (.int .u32 0), .nils, .nils] [], none⟩,
 ⟨some 38, .mv (.t 8), none⟩,
 ⟨some 39, .mv (.t 9), none⟩,
 ⟨some 40, .idxAddr 3 (.t 39) (.c (.int .i64 0)), none⟩,
 ⟨some 41, .fieldAddr 2 (.t 40), none⟩,
 ⟨some 42, .load false 1 (.t 41), none⟩,
 ⟨some 43, .mv (.t 9), none⟩,
 ⟨some 44, .call 43 [(.c (.str [98, 105, 102])), (.t 38), (.t 42), (.t 43)], none⟩,
 ⟨none, .store 6 (.t 4) (.t 37), none⟩,
 ⟨some 5, .mv (.t 44), none⟩]
def a25_9 : List AOper := [
 ⟨some 27, .mv (.t 8), none⟩,
 ⟨some 28, .bin .add (.t 27) (.c (.int .i64 1)), none⟩,
 ⟨some 8, .mv (.t 28), none⟩]
def a25_l10 : AC := (.seq (.seq (.ops a25_5) (.cond (.t 26) .skip (.exit 0))) (.seq (.block 1 (.seq (.ops a25_6) (.seq (.ops a25_7) (.cond (.t 36) (.seq (.ops a25_8) .ret) .skip)))) (.ops a25_9)))
def a25_11 : List AOper := [
 ⟨some 46, .mv (.t 0), none⟩,
 ⟨some 47, .mv (.t 1), none⟩,
 ⟨some 48, .call 44 [(.t 46), (.t 47)], none⟩,
 ⟨some 45, .mv (.t 48), none⟩,
 ⟨some 49, .extract (.t 45) 0, none⟩,
 ⟨some 50, .extract (.t 45) 1, none⟩,
 ⟨some 10, .alloc [(.int .i64 0), (.int .i64 0), (.str []), (.int .u32 0), .nils, .nils], none⟩,
 ⟨none, .store 6 (.t 10) (.t 49), none⟩,
 ⟨some 11, .mv (.t 50), none⟩]
def a25_12 : List AOper := [
 ⟨some 51, .mv (.t 11), none⟩,
 ⟨some 52, .bin .neq (.t 51) (.c (.int .i64 0)), none⟩]
def a25_13 : List AOper := [
 ⟨some 53, .build [(.int .i64 0), (.int .i64 0), (.str []), (.int .u32 0), .nils, .nils] [], none⟩,
 ⟨some 54, .mv (.t 11), none⟩,
 ⟨some 55, .call 42 [(.c (.int .i64 0)), (.t 54)], none⟩,
 ⟨none, .store 6 (.t 4) (.t 53), none⟩,
 ⟨some 5, .mv (.t 55), none⟩]
def a25_14 : List AOper := [
 ⟨some 56, .load true 6 (.t 10), none⟩,
 ⟨some 57, .call 16 [(.t 56)], none⟩,
 ⟨some 58, .len false (.t 57), none⟩,
 ⟨some 59, .bin .gtr (.t 58) (.c (.int .i64 0)), none⟩]
def a25_15 : List AOper := [
 ⟨some 60, .build [(.int .i64 0), (.int .i64 0), (.str []), (.int .u32 0), .nils, .nils] [], none⟩,
 ⟨some 61, .call 42 [(.c (.int .i64 0)), (.c (.int .i64 262))], none⟩,
 ⟨none, .store 6 (.t 4) (.t 60), none⟩,
 ⟨some 5, .mv (.t 61), none⟩]
def a25_16 : List AOper := [
 ⟨some 62, .load true 6 (.t 10), none⟩,
 ⟨none, .store 6 (.t 4) (.t 62), none⟩,
 ⟨some 5, .mv (.c .nils), none⟩]
def a25 : AFunc := ⟨[.cell 4 true 6, .tmp 5], (.seq (.ops a25_0) (.seq (.ops a25_1) (.seq (.seq (.ops a25_2) (.cond (.t 20) (.seq (.ops a25_3) .ret) .skip)) (.seq (.seq (.ops a25_4) (.block 0 (.loop a25_l10))) (.seq (.ops a25_11) (.seq (.seq (.ops a25_12) (.cond (.t 52) (.seq (.ops a25_13) .ret) .skip)) (.seq (.seq (.ops a25_14) (.cond (.t 59) (.seq (.ops a25_15) .ret) .skip)) (.seq (.ops a25_16) .ret))))))))⟩
/-! ### 26: heddle/heddlemem.Refused (44 slots) -/
def a26_0 : List AOper := [
 ⟨some 4, .mv (.c (.bool false)), none⟩]
def a26_1 : List AOper := [
 ⟨some 7, .mv (.t 1), none⟩,
 ⟨some 8, .len false (.t 7), none⟩,
 ⟨some 9, .bin .eql (.t 8) (.c (.int .i64 0)), none⟩]
def a26_2 : List AOper := [
 ⟨some 10, .mv (.t 0), none⟩,
 ⟨some 11, .eq false (.iface true) (.t 10) (.c .nili), none⟩,
 ⟨some 4, .mv (.t 11), none⟩]
def a26_3 : List AOper := [
 ⟨some 12, .mv (.t 0), none⟩,
 ⟨some 13, .call 45 [(.t 12)], none⟩,
 ⟨some 5, .mv (.t 13), none⟩]
def a26_4 : List AOper := [
 ⟨some 14, .mv (.t 5), none⟩,
 ⟨some 15, .len false (.t 14), none⟩,
 ⟨some 16, .mv (.t 1), none⟩,
 ⟨some 17, .len false (.t 16), none⟩,
 ⟨some 18, .bin .neq (.t 15) (.t 17), none⟩]
def a26_5 : List AOper := [
 ⟨some 4, .mv (.c (.bool false)), none⟩]
def a26_6 : List AOper := [
 ⟨some 6, .mv (.c (.int .i64 0)), none⟩]
def a26_7 : List AOper := [
 ⟨some 19, .mv (.t 6), none⟩,
 ⟨some 20, .mv (.t 1), none⟩,
 ⟨some 21, .len false (.t 20), none⟩,
 ⟨some 22, .bin .lss (.t 19) (.t 21), none⟩]
def a26_8 : List AOper := [
 ⟨some 25, .mv (.t 5), none⟩,
 ⟨some 26, .mv (.t 6), none⟩,
 ⟨some 27, .idxAddr 3 (.t 25) (.t 26), none⟩,
 ⟨some 28, .load true 3 (.t 27), none⟩,
 ⟨some 29, .mv (.t 1), none⟩,
 ⟨some 30, .mv (.t 6), none⟩,
 ⟨some 31, .idxAddr 3 (.t 29) (.t 30), none⟩,
 ⟨some 32, .load true 3 (.t 31), none⟩,
 ⟨some 33, .eq true (.struct [(0, 1, false, .str), (1, 1, false, .int), (2, 1, false, .int)]) (.t 28) (.t 32), none⟩]
def a26_8b : List Nat := [0, 0, 3, 7, 0, 0, 48, 112, 255]
def a26_9 : List AOper := [
 ⟨some 4, .mv (.c (.bool false)), none⟩]
def a26_10 : List AOper := [
 ⟨some 23, .mv (.t 6), none⟩,
 ⟨some 24, .bin .add (.t 23) (.c (.int .i64 1)), none⟩,
 ⟨some 6, .mv (.t 24), none⟩]
def a26_l11 : AC := (.seq (.seq (.ops a26_7) (.cond (.t 22) .skip (.exit 0))) (.seq (.block 1 (.seq (.draw a26_8 a26_8b) (.cond (.t 33) (.seq (.ops a26_9) .ret) .skip))) (.ops a26_10)))
def a26_12 : List AOper := [
 ⟨some 34, .mv (.t 0), none⟩,
 ⟨some 35, .mv (.t 1), none⟩,
 ⟨some 36, .mv (.t 1), none⟩,
 ⟨some 37, .len false (.t 36), none⟩,
 ⟨some 38, .bin .sub (.t 37) (.c (.int .i64 1)), none⟩,
 ⟨some 39, .idxAddr 3 (.t 35) (.t 38), none⟩,
 ⟨some 40, .fieldAddr 2 (.t 39), none⟩,
 ⟨some 41, .load false 1 (.t 40), none⟩,
 ⟨some 42, .mkIface 67 (.t 41), none⟩,
 ⟨some 43, .call 46 [(.t 34), (.t 42)], none⟩,
 ⟨some 4, .mv (.t 43), none⟩]
def a26 : AFunc := ⟨[.tmp 4], (.seq (.ops a26_0) (.seq (.seq (.ops a26_1) (.cond (.t 9) (.seq (.ops a26_2) .ret) .skip)) (.seq (.ops a26_3) (.seq (.seq (.ops a26_4) (.cond (.t 18) (.seq (.ops a26_5) .ret) .skip)) (.seq (.seq (.ops a26_6) (.block 0 (.loop a26_l11))) (.seq (.ops a26_12) .ret))))))⟩
/-! ### 27: heddle/bif.Reason (31 slots) -/
def a27_0 : List AOper := [
 ⟨some 2, .alloc [(.int .i64 0), (.int .i64 0), (.str []), (.int .u32 0), .nils, .nils], none⟩,
 ⟨some 3, .mv (.c (.bool false)), none⟩]
def a27_1 : List AOper := [
 ⟨some 4, .alloc [.nilp], none⟩]
def a27_2 : List AOper := [
 ⟨some 5, .mv (.t 0), none⟩,
 ⟨some 6, .mkIface 71 (.t 4), none⟩,
 ⟨some 7, .call 37 [(.t 5), (.t 6)], none⟩,
 ⟨some 8, .un .not (.t 7), none⟩,
 ⟨some 9, .mv (.t 8), none⟩,
 ⟨some 10, .load false 1 (.t 4), some (9, false)⟩,
 ⟨some 11, .eq false .ptr (.t 10) (.c .nilp), some (9, false)⟩,
 ⟨some 12, .pick (.t 9) (.c (.bool true)) (.t 11), none⟩]
def a27_3 : List AOper := [
 ⟨some 13, .build [(.int .i64 0), (.int .i64 0), (.str []), (.int .u32 0), .nils, .nils] [], none⟩,
 ⟨none, .store 6 (.t 2) (.t 13), none⟩,
 ⟨some 3, .mv (.c (.bool false)), none⟩]
def a27_4 : List AOper := [
 ⟨some 14, .load false 1 (.t 4), none⟩,
 ⟨some 15, .nilCheck (.t 14), none⟩,
 ⟨some 16, .fieldAddr 2 (.t 15), none⟩,
 ⟨some 17, .load false 1 (.t 16), none⟩]
def a27_5 : List AOper := [
 ⟨some 19, .bin .eql (.t 17) (.c (.int .i64 260)), none⟩,
 ⟨some 18, .mv (.t 19), none⟩]
def a27_6 : List AOper := [
 ⟨some 20, .call 34 [(.c (.str [98, 97, 100, 97, 114, 105, 116, 104]))], none⟩,
 ⟨none, .store 6 (.t 2) (.t 20), none⟩,
 ⟨some 3, .mv (.c (.bool true)), none⟩]
def a27_7 : List AOper := [
 ⟨some 22, .bin .eql (.t 17) (.c (.int .i64 261)), none⟩,
 ⟨some 21, .mv (.t 22), none⟩]
def a27_8 : List AOper := [
 ⟨some 23, .call 34 [(.c (.str [98, 97, 100, 97, 114, 103]))], none⟩,
 ⟨none, .store 6 (.t 2) (.t 23), none⟩,
 ⟨some 3, .mv (.c (.bool true)), none⟩]
def a27_9 : List AOper := [
 ⟨some 25, .bin .eql (.t 17) (.c (.int .i64 262)), none⟩,
 ⟨some 24, .mv (.t 25), none⟩]
def a27_10 : List AOper := [
 ⟨some 26, .call 34 [(.c (.str [115, 121, 115, 116, 101, 109, 95, 108, 105, 109, 105, 116]))], none⟩,
 ⟨none, .store 6 (.t 2) (.t 26), none⟩,
 ⟨some 3, .mv (.c (.bool true)), none⟩]
def a27_11 : List AOper := [
 ⟨some 28, .bin .eql (.t 17) (.c (.int .i64 263)), none⟩,
 ⟨some 27, .mv (.t 28), none⟩]
def a27_12 : List AOper := [
 ⟨some 29, .call 34 [(.c (.str [117, 110, 100, 101, 102]))], none⟩,
 ⟨none, .store 6 (.t 2) (.t 29), none⟩,
 ⟨some 3, .mv (.c (.bool true)), none⟩]
def a27_13 : List AOper := [
 ⟨some 30, .build [(.int .i64 0), (.int .i64 0), (.str []), (.int .u32 0), .nils, .nils] [], none⟩,
 ⟨none, .store 6 (.t 2) (.t 30), none⟩,
 ⟨some 3, .mv (.c (.bool false)), none⟩]
def a27 : AFunc := ⟨[.cell 2 true 6, .tmp 3], (.seq (.ops a27_0) (.seq (.ops a27_1) (.seq (.seq (.ops a27_2) (.cond (.t 12) (.seq (.ops a27_3) .ret) .skip)) (.seq (.seq (.ops a27_4) (.block 0 (.seq (.ops a27_5) (.cond (.t 18) (.seq (.ops a27_6) .ret) (.seq (.ops a27_7) (.cond (.t 21) (.seq (.ops a27_8) .ret) (.seq (.ops a27_9) (.cond (.t 24) (.seq (.ops a27_10) .ret) (.seq (.ops a27_11) (.cond (.t 27) (.seq (.ops a27_12) .ret) .skip)))))))))) (.seq (.ops a27_13) .ret)))))⟩
/-! ### 28: heddle/heddleref13.Reason (25 slots) -/
def a28_0 : List AOper := [
 ⟨some 2, .alloc [(.int .i64 0), (.int .i64 0), (.str []), (.int .u32 0), .nils, .nils], none⟩,
 ⟨some 3, .mv (.c (.bool false)), none⟩]
def a28_1 : List AOper := [
 ⟨some 4, .mv (.t 0), none⟩,
 ⟨some 5, .len false (.t 4), none⟩,
 ⟨some 6, .bin .eql (.t 5) (.c (.int .i64 0)), none⟩]
def a28_2 : List AOper := [
 ⟨some 7, .build [(.int .i64 0), (.int .i64 0), (.str []), (.int .u32 0), .nils, .nils] [], none⟩,
 ⟨none, .store 6 (.t 2) (.t 7), none⟩,
 ⟨some 3, .mv (.c (.bool false)), none⟩]
def a28_3 : List AOper := [
 ⟨some 8, .mv (.t 0), none⟩,
 ⟨some 9, .idxAddr 3 (.t 8) (.c (.int .i64 0)), none⟩,
 ⟨some 10, .fieldAddr 2 (.t 9), none⟩,
 ⟨some 11, .load false 1 (.t 10), none⟩]
def a28_4 : List AOper := [
 ⟨some 13, .bin .eql (.t 11) (.c (.int .i64 260)), none⟩,
 ⟨some 12, .mv (.t 13), none⟩]
def a28_5 : List AOper := [
 ⟨some 14, .call 31 [(.c (.str [98, 97, 100, 97, 114, 105, 116, 104]))], none⟩,
 ⟨none, .store 6 (.t 2) (.t 14), none⟩,
 ⟨some 3, .mv (.c (.bool true)), none⟩]
def a28_6 : List AOper := [
 ⟨some 16, .bin .eql (.t 11) (.c (.int .i64 261)), none⟩,
 ⟨some 15, .mv (.t 16), none⟩]
def a28_7 : List AOper := [
 ⟨some 17, .call 31 [(.c (.str [98, 97, 100, 97, 114, 103]))], none⟩,
 ⟨none, .store 6 (.t 2) (.t 17), none⟩,
 ⟨some 3, .mv (.c (.bool true)), none⟩]
def a28_8 : List AOper := [
 ⟨some 19, .bin .eql (.t 11) (.c (.int .i64 262)), none⟩,
 ⟨some 18, .mv (.t 19), none⟩]
def a28_9 : List AOper := [
 ⟨some 20, .call 31 [(.c (.str [115, 121, 115, 116, 101, 109, 95, 108, 105, 109, 105, 116]))], none⟩,
 ⟨none, .store 6 (.t 2) (.t 20), none⟩,
 ⟨some 3, .mv (.c (.bool true)), none⟩]
def a28_10 : List AOper := [
 ⟨some 22, .bin .eql (.t 11) (.c (.int .i64 263)), none⟩,
 ⟨some 21, .mv (.t 22), none⟩]
def a28_11 : List AOper := [
 ⟨some 23, .call 31 [(.c (.str [117, 110, 100, 101, 102]))], none⟩,
 ⟨none, .store 6 (.t 2) (.t 23), none⟩,
 ⟨some 3, .mv (.c (.bool true)), none⟩]
def a28_12 : List AOper := [
 ⟨some 24, .build [(.int .i64 0), (.int .i64 0), (.str []), (.int .u32 0), .nils, .nils] [], none⟩,
 ⟨none, .store 6 (.t 2) (.t 24), none⟩,
 ⟨some 3, .mv (.c (.bool false)), none⟩]
def a28 : AFunc := ⟨[.cell 2 true 6, .tmp 3], (.seq (.ops a28_0) (.seq (.seq (.ops a28_1) (.cond (.t 6) (.seq (.ops a28_2) .ret) .skip)) (.seq (.seq (.ops a28_3) (.block 0 (.seq (.ops a28_4) (.cond (.t 12) (.seq (.ops a28_5) .ret) (.seq (.ops a28_6) (.cond (.t 15) (.seq (.ops a28_7) .ret) (.seq (.ops a28_8) (.cond (.t 18) (.seq (.ops a28_9) .ret) (.seq (.ops a28_10) (.cond (.t 21) (.seq (.ops a28_11) .ret) .skip)))))))))) (.seq (.ops a28_12) .ret))))⟩
/-! ### 29: heddle/bif.operators (37 slots) -/
def a29_0 : List AOper := [
 ⟨some 0, .mv (.c .nils), none⟩]
def a29_1 : List AOper := [
 ⟨some 1, .mv (.c .nils), none⟩]
def a29_2 : List AOper := [
 ⟨some 6, .call 47 [(.c (.str [43, 32, 45, 32, 110, 111, 116]))], none⟩,
 ⟨some 7, .len false (.t 6), none⟩,
 ⟨some 8, .mv (.c (.int .i64 0)), none⟩]
def a29_3 : List AOper := [
 ⟨some 9, .bin .lss (.t 8) (.t 7), none⟩]
def a29_4 : List AOper := [
 ⟨some 10, .idxAddr 1 (.t 6) (.t 8), none⟩,
 ⟨some 11, .load false 1 (.t 10), none⟩,
 ⟨some 3, .mv (.t 11), none⟩]
def a29_5 : List AOper := [
 ⟨some 12, .mv (.t 1), none⟩,
 ⟨some 13, .mv (.t 3), none⟩,
 ⟨some 14, .build [(.str []), (.int .i64 0), (.int .i64 0), (.bool false)] [(0, 1, (.t 13)), (1, 1, (.c (.int .i64 1))), (2, 1, (.c (.int .i64 1))), (3, 1, (.c (.bool true)))], none⟩,
 ⟨some 15, .lit true 4 1 [(.str []), (.int .i64 0), (.int .i64 0), (.bool false)] [(0, 4, (.t 14))], none⟩,
 ⟨some 16, .append 4 40 (.t 12) (.t 15), none⟩,
 ⟨some 1, .mv (.t 16), none⟩]
def a29_6 : List AOper := [
 ⟨some 17, .bin .add (.t 8) (.c (.int .i64 1)), none⟩,
 ⟨some 8, .mv (.t 17), none⟩]
def a29_l7 : AC := (.seq (.ops a29_3) (.seq (.cond (.t 9) .skip (.exit 0)) (.seq (.block 1 (.seq (.ops a29_4) (.ops a29_5))) (.ops a29_6))))
def a29_8 : List AOper := [
 ⟨some 18, .call 47 [(.c (.str [43, 32, 45, 32, 42, 32, 100, 105, 118, 32, 114, 101, 109, 32, 97, 110, 100, 32, 111, 114, 32, 120, 111, 114, 32, 43, 43, 32, 45, 45, 32, 61, 61, 32, 47, 61, 32, 61, 60, 32, 60, 32, 62, 61, 32, 62, 32, 61, 58, 61, 32, 61, 47, 61]))], none⟩,
 ⟨some 19, .len false (.t 18), none⟩,
 ⟨some 20, .mv (.c (.int .i64 0)), none⟩]
def a29_9 : List AOper := [
 ⟨some 21, .bin .lss (.t 20) (.t 19), none⟩]
def a29_10 : List AOper := [
 ⟨some 22, .idxAddr 1 (.t 18) (.t 20), none⟩,
 ⟨some 23, .load false 1 (.t 22), none⟩,
 ⟨some 5, .mv (.t 23), none⟩]
def a29_11 : List AOper := [
 ⟨some 24, .mv (.t 1), none⟩,
 ⟨some 25, .mv (.t 5), none⟩,
 ⟨some 26, .mv (.t 5), none⟩,
 ⟨some 27, .bin .neq (.t 26) (.c (.str [43, 43])), none⟩,
 ⟨some 28, .mv (.t 27), none⟩,
 ⟨some 29, .mv (.t 5), some (28, true)⟩,
 ⟨some 30, .bin .neq (.t 29) (.c (.str [45, 45])), some (28, true)⟩,
 ⟨some 31, .pick (.t 28) (.t 30) (.c (.bool false)), none⟩,
 ⟨some 32, .build [(.str []), (.int .i64 0), (.int .i64 0), (.bool false)] [(0, 1, (.t 25)), (1, 1, (.c (.int .i64 2))), (2, 1, (.c (.int .i64 1))), (3, 1, (.t 31))], none⟩,
 ⟨some 33, .lit true 4 1 [(.str []), (.int .i64 0), (.int .i64 0), (.bool false)] [(0, 4, (.t 32))], none⟩,
 ⟨some 34, .append 4 40 (.t 24) (.t 33), none⟩,
 ⟨some 1, .mv (.t 34), none⟩]
def a29_12 : List AOper := [
 ⟨some 35, .bin .add (.t 20) (.c (.int .i64 1)), none⟩,
 ⟨some 20, .mv (.t 35), none⟩]
def a29_l13 : AC := (.seq (.ops a29_9) (.seq (.cond (.t 21) .skip (.exit 2)) (.seq (.block 3 (.seq (.ops a29_10) (.ops a29_11))) (.ops a29_12))))
def a29_14 : List AOper := [
 ⟨some 36, .mv (.t 1), none⟩,
 ⟨some 0, .mv (.t 36), none⟩]
def a29 : AFunc := ⟨[.tmp 0], (.seq (.ops a29_0) (.seq (.ops a29_1) (.seq (.seq (.ops a29_2) (.block 0 (.loop a29_l7))) (.seq (.seq (.ops a29_8) (.block 2 (.loop a29_l13))) (.seq (.ops a29_14) .ret)))))⟩
/-! ### 30: heddle/api.Bifs (45 slots) -/
def a30_0 : List AOper := [
 ⟨some 0, .mv (.c .nils), none⟩]
def a30_1 : List AOper := [
 ⟨some 1, .build [(.str []), (.int .i64 0), (.int .i64 0), (.bool false)] [(0, 1, (.c (.str [97, 98, 115]))), (1, 1, (.c (.int .i64 1))), (2, 1, (.c (.int .i64 1))), (3, 1, (.c (.bool true)))], none⟩,
 ⟨some 2, .build [(.str []), (.int .i64 0), (.int .i64 0), (.bool false)] [(0, 1, (.c (.str [101, 108, 101, 109, 101, 110, 116]))), (1, 1, (.c (.int .i64 2))), (2, 1, (.c (.int .i64 1))), (3, 1, (.c (.bool true)))], none⟩,
 ⟨some 3, .build [(.str []), (.int .i64 0), (.int .i64 0), (.bool false)] [(0, 1, (.c (.str [116, 117, 112, 108, 101, 95, 115, 105, 122, 101]))), (1, 1, (.c (.int .i64 1))), (2, 1, (.c (.int .i64 1))), (3, 1, (.c (.bool true)))], none⟩,
 ⟨some 4, .build [(.str []), (.int .i64 0), (.int .i64 0), (.bool false)] [(0, 1, (.c (.str [108, 101, 110, 103, 116, 104]))), (1, 1, (.c (.int .i64 1))), (2, 1, (.c (.int .i64 1))), (3, 1, (.c (.bool true)))], none⟩,
 ⟨some 5, .build [(.str []), (.int .i64 0), (.int .i64 0), (.bool false)] [(0, 1, (.c (.str [104, 100]))), (1, 1, (.c (.int .i64 1))), (2, 1, (.c (.int .i64 1))), (3, 1, (.c (.bool true)))], none⟩,
 ⟨some 6, .build [(.str []), (.int .i64 0), (.int .i64 0), (.bool false)] [(0, 1, (.c (.str [116, 108]))), (1, 1, (.c (.int .i64 1))), (2, 1, (.c (.int .i64 1))), (3, 1, (.c (.bool true)))], none⟩,
 ⟨some 7, .build [(.str []), (.int .i64 0), (.int .i64 0), (.bool false)] [(0, 1, (.c (.str [105, 115, 95, 97, 116, 111, 109]))), (1, 1, (.c (.int .i64 1))), (2, 1, (.c (.int .i64 1))), (3, 1, (.c (.bool true)))], none⟩,
 ⟨some 8, .build [(.str []), (.int .i64 0), (.int .i64 0), (.bool false)] [(0, 1, (.c (.str [105, 115, 95, 98, 111, 111, 108, 101, 97, 110]))), (1, 1, (.c (.int .i64 1))), (2, 1, (.c (.int .i64 1))), (3, 1, (.c (.bool true)))], none⟩,
 ⟨some 9, .build [(.str []), (.int .i64 0), (.int .i64 0), (.bool false)] [(0, 1, (.c (.str [105, 115, 95, 105, 110, 116, 101, 103, 101, 114]))), (1, 1, (.c (.int .i64 1))), (2, 1, (.c (.int .i64 1))), (3, 1, (.c (.bool true)))], none⟩,
 ⟨some 10, .build [(.str []), (.int .i64 0), (.int .i64 0), (.bool false)] [(0, 1, (.c (.str [105, 115, 95, 108, 105, 115, 116]))), (1, 1, (.c (.int .i64 1))), (2, 1, (.c (.int .i64 1))), (3, 1, (.c (.bool true)))], none⟩,
 ⟨some 11, .build [(.str []), (.int .i64 0), (.int .i64 0), (.bool false)] [(0, 1, (.c (.str [105, 115, 95, 112, 105, 100]))), (1, 1, (.c (.int .i64 1))), (2, 1, (.c (.int .i64 1))), (3, 1, (.c (.bool true)))], none⟩,
 ⟨some 12, .build [(.str []), (.int .i64 0), (.int .i64 0), (.bool false)] [(0, 1, (.c (.str [105, 115, 95, 114, 101, 102, 101, 114, 101, 110, 99, 101]))), (1, 1, (.c (.int .i64 1))), (2, 1, (.c (.int .i64 1))), (3, 1, (.c (.bool true)))], none⟩,
 ⟨some 13, .build [(.str []), (.int .i64 0), (.int .i64 0), (.bool false)] [(0, 1, (.c (.str [105, 115, 95, 116, 117, 112, 108, 101]))), (1, 1, (.c (.int .i64 1))), (2, 1, (.c (.int .i64 1))), (3, 1, (.c (.bool true)))], none⟩,
 ⟨some 14, .build [(.str []), (.int .i64 0), (.int .i64 0), (.bool false)] [(0, 1, (.c (.str [110, 111, 100, 101]))), (1, 1, (.c (.int .i64 1))), (2, 1, (.c (.int .i64 1))), (3, 1, (.c (.bool true)))], none⟩,
 ⟨some 15, .build [(.str []), (.int .i64 0), (.int .i64 0), (.bool false)] [(0, 1, (.c (.str [115, 101, 116, 101, 108, 101, 109, 101, 110, 116]))), (1, 1, (.c (.int .i64 3))), (2, 1, (.c (.int .i64 1))), (3, 1, (.c (.bool false)))], none⟩,
 ⟨some 16, .build [(.str []), (.int .i64 0), (.int .i64 0), (.bool false)] [(0, 1, (.c (.str [109, 97, 120]))), (1, 1, (.c (.int .i64 2))), (2, 1, (.c (.int .i64 1))), (3, 1, (.c (.bool false)))], none⟩,
 ⟨some 17, .build [(.str []), (.int .i64 0), (.int .i64 0), (.bool false)] [(0, 1, (.c (.str [109, 105, 110]))), (1, 1, (.c (.int .i64 2))), (2, 1, (.c (.int .i64 1))), (3, 1, (.c (.bool false)))], none⟩,
 ⟨some 18, .build [(.str []), (.int .i64 0), (.int .i64 0), (.bool false)] [(0, 1, (.c (.str [108, 105, 115, 116, 95, 116, 111, 95, 116, 117, 112, 108, 101]))), (1, 1, (.c (.int .i64 1))), (2, 1, (.c (.int .i64 1))), (3, 1, (.c (.bool false)))], none⟩,
 ⟨some 19, .build [(.str []), (.int .i64 0), (.int .i64 0), (.bool false)] [(0, 1, (.c (.str [116, 117, 112, 108, 101, 95, 116, 111, 95, 108, 105, 115, 116]))), (1, 1, (.c (.int .i64 1))), (2, 1, (.c (.int .i64 1))), (3, 1, (.c (.bool false)))], none⟩,
 ⟨some 20, .build [(.str []), (.int .i64 0), (.int .i64 0), (.bool false)] [(0, 1, (.c (.str [105, 110, 116, 101, 103, 101, 114, 95, 116, 111, 95, 108, 105, 115, 116]))), (1, 1, (.c (.int .i64 1))), (2, 1, (.c (.int .i64 1))), (3, 1, (.c (.bool false)))], none⟩,
 ⟨some 21, .build [(.str []), (.int .i64 0), (.int .i64 0), (.bool false)] [(0, 1, (.c (.str [108, 105, 115, 116, 95, 116, 111, 95, 105, 110, 116, 101, 103, 101, 114]))), (1, 1, (.c (.int .i64 1))), (2, 1, (.c (.int .i64 1))), (3, 1, (.c (.bool false)))], none⟩,
 ⟨some 22, .build [(.str []), (.int .i64 0), (.int .i64 0), (.bool false)] [(0, 1, (.c (.str [97, 116, 111, 109, 95, 116, 111, 95, 108, 105, 115, 116]))), (1, 1, (.c (.int .i64 1))), (2, 1, (.c (.int .i64 1))), (3, 1, (.c (.bool false)))], none⟩,
 ⟨some 23, .build [(.str []), (.int .i64 0), (.int .i64 0), (.bool false)] [(0, 1, (.c (.str [108, 105, 115, 116, 95, 116, 111, 95, 97, 116, 111, 109]))), (1, 1, (.c (.int .i64 1))), (2, 1, (.c (.int .i64 1))), (3, 1, (.c (.bool false)))], none⟩,
 ⟨some 24, .build [(.str []), (.int .i64 0), (.int .i64 0), (.bool false)] [(0, 1, (.c (.str [116, 104, 114, 111, 119]))), (1, 1, (.c (.int .i64 1))), (2, 1, (.c (.int .i64 2))), (3, 1, (.c (.bool false)))], none⟩,
 ⟨some 25, .build [(.str []), (.int .i64 0), (.int .i64 0), (.bool false)] [(0, 1, (.c (.str [101, 114, 114, 111, 114]))), (1, 1, (.c (.int .i64 1))), (2, 1, (.c (.int .i64 2))), (3, 1, (.c (.bool false)))], none⟩,
 ⟨some 26, .build [(.str []), (.int .i64 0), (.int .i64 0), (.bool false)] [(0, 1, (.c (.str [101, 120, 105, 116]))), (1, 1, (.c (.int .i64 1))), (2, 1, (.c (.int .i64 2))), (3, 1, (.c (.bool false)))], none⟩,
 ⟨some 27, .build [(.str []), (.int .i64 0), (.int .i64 0), (.bool false)] [(0, 1, (.c (.str [115, 101, 108, 102]))), (1, 1, (.c (.int .i64 0))), (2, 1, (.c (.int .i64 3))), (3, 1, (.c (.bool true)))], none⟩,
 ⟨some 28, .build [(.str []), (.int .i64 0), (.int .i64 0), (.bool false)] [(0, 1, (.c (.str [110, 111, 100, 101]))), (1, 1, (.c (.int .i64 0))), (2, 1, (.c (.int .i64 3))), (3, 1, (.c (.bool true)))], none⟩,
 ⟨some 29, .build [(.str []), (.int .i64 0), (.int .i64 0), (.bool false)] [(0, 1, (.c (.str [115, 112, 97, 119, 110]))), (1, 1, (.c (.int .i64 3))), (2, 1, (.c (.int .i64 4))), (3, 1, (.c (.bool false)))], none⟩,
 ⟨some 30, .build [(.str []), (.int .i64 0), (.int .i64 0), (.bool false)] [(0, 1, (.c (.str [115, 112, 97, 119, 110]))), (1, 1, (.c (.int .i64 4))), (2, 1, (.c (.int .i64 4))), (3, 1, (.c (.bool false)))], none⟩,
 ⟨some 31, .build [(.str []), (.int .i64 0), (.int .i64 0), (.bool false)] [(0, 1, (.c (.str [108, 105, 110, 107]))), (1, 1, (.c (.int .i64 1))), (2, 1, (.c (.int .i64 4))), (3, 1, (.c (.bool false)))], none⟩,
 ⟨some 32, .build [(.str []), (.int .i64 0), (.int .i64 0), (.bool false)] [(0, 1, (.c (.str [117, 110, 108, 105, 110, 107]))), (1, 1, (.c (.int .i64 1))), (2, 1, (.c (.int .i64 4))), (3, 1, (.c (.bool false)))], none⟩,
 ⟨some 33, .build [(.str []), (.int .i64 0), (.int .i64 0), (.bool false)] [(0, 1, (.c (.str [109, 111, 110, 105, 116, 111, 114]))), (1, 1, (.c (.int .i64 2))), (2, 1, (.c (.int .i64 4))), (3, 1, (.c (.bool false)))], none⟩,
 ⟨some 34, .build [(.str []), (.int .i64 0), (.int .i64 0), (.bool false)] [(0, 1, (.c (.str [100, 101, 109, 111, 110, 105, 116, 111, 114]))), (1, 1, (.c (.int .i64 1))), (2, 1, (.c (.int .i64 4))), (3, 1, (.c (.bool false)))], none⟩,
 ⟨some 35, .build [(.str []), (.int .i64 0), (.int .i64 0), (.bool false)] [(0, 1, (.c (.str [101, 120, 105, 116]))), (1, 1, (.c (.int .i64 2))), (2, 1, (.c (.int .i64 4))), (3, 1, (.c (.bool false)))], none⟩,
 ⟨some 36, .build [(.str []), (.int .i64 0), (.int .i64 0), (.bool false)] [(0, 1, (.c (.str [112, 114, 111, 99, 101, 115, 115, 95, 102, 108, 97, 103]))), (1, 1, (.c (.int .i64 2))), (2, 1, (.c (.int .i64 4))), (3, 1, (.c (.bool false)))], none⟩,
 ⟨some 37, .build [(.str []), (.int .i64 0), (.int .i64 0), (.bool false)] [(0, 1, (.c (.str [114, 101, 103, 105, 115, 116, 101, 114]))), (1, 1, (.c (.int .i64 2))), (2, 1, (.c (.int .i64 4))), (3, 1, (.c (.bool false)))], none⟩,
 ⟨some 38, .build [(.str []), (.int .i64 0), (.int .i64 0), (.bool false)] [(0, 1, (.c (.str [117, 110, 114, 101, 103, 105, 115, 116, 101, 114]))), (1, 1, (.c (.int .i64 1))), (2, 1, (.c (.int .i64 4))), (3, 1, (.c (.bool false)))], none⟩,
 ⟨some 39, .build [(.str []), (.int .i64 0), (.int .i64 0), (.bool false)] [(0, 1, (.c (.str [119, 104, 101, 114, 101, 105, 115]))), (1, 1, (.c (.int .i64 1))), (2, 1, (.c (.int .i64 4))), (3, 1, (.c (.bool false)))], none⟩,
 ⟨some 40, .build [(.str []), (.int .i64 0), (.int .i64 0), (.bool false)] [(0, 1, (.c (.str [109, 111, 110, 105, 116, 111, 114, 95, 110, 111, 100, 101]))), (1, 1, (.c (.int .i64 2))), (2, 1, (.c (.int .i64 4))), (3, 1, (.c (.bool false)))], none⟩,
 ⟨some 41, .build [(.str []), (.int .i64 0), (.int .i64 0), (.bool false)] [(0, 1, (.c (.str [110, 111, 100, 101, 115]))), (1, 1, (.c (.int .i64 0))), (2, 1, (.c (.int .i64 4))), (3, 1, (.c (.bool false)))], none⟩,
 ⟨some 42, .build [(.str []), (.int .i64 0), (.int .i64 0), (.bool false)] [(0, 1, (.c (.str [109, 97, 107, 101, 95, 114, 101, 102]))), (1, 1, (.c (.int .i64 0))), (2, 1, (.c (.int .i64 4))), (3, 1, (.c (.bool false)))], none⟩,
 ⟨some 43, .build [(.str []), (.int .i64 0), (.int .i64 0), (.bool false)] [(0, 1, (.c (.str [100, 105, 115, 112, 108, 97, 121]))), (1, 1, (.c (.int .i64 1))), (2, 1, (.c (.int .i64 4))), (3, 1, (.c (.bool false)))], none⟩,
 ⟨some 44, .lit true 4 43 [(.str []), (.int .i64 0), (.int .i64 0), (.bool false), (.str []), (.int .i64 0), (.int .i64 0), (.bool false), (.str []), (.int .i64 0), (.int .i64 0), (.bool false), (.str []), (.int .i64 0), (.int .i64 0), (.bool false), (.str []), (.int .i64 0), (.int .i64 0), (.bool false), (.str []), (.int .i64 0), (.int .i64 0), (.bool false), (.str []), (.int .i64 0), (.int .i64 0), (.bool false), (.str []), (.int .i64 0), (.int .i64 0), (.bool false), (.str []), (.int .i64 0), (.int .i64 0), (.bool false), (.str []), (.int .i64 0), (.int .i64 0), (.bool false), (.str []), (.int .i64 0), (.int .i64 0), (.bool false), (.str []), (.int .i64 0), (.int .i64 0), (.bool false), (.str []), (.int .i64 0), (.int .i64 0), (.bool false), (.str []), (.int .i64 0), (.int .i64 0), (.bool false), (.str []), (.int .i64 0), (.int .i64 0), (.bool false), (.str []), (.int .i64 0), (.int .i64 0), (.bool false), (.str []), (.int .i64 0), (.int .i64 0), (.bool false), (.str []), (.int .i64 0), (.int .i64 0), (.bool false), (.str []), (.int .i64 0), (.int .i64 0), (.bool false), (.str []), (.int .i64 0), (.int .i64 0), (.bool false), (.str []), (.int .i64 0), (.int .i64 0), (.bool false), (.str []), (.int .i64 0), (.int .i64 0), (.bool false), (.str []), (.int .i64 0), (.int .i64 0), (.bool false), (.str []), (.int .i64 0), (.int .i64 0), (.bool false), (.str []), (.int .i64 0), (.int .i64 0), (.bool false), (.str []), (.int .i64 0), (.int .i64 0), (.bool false), (.str []), (.int .i64 0), (.int .i64 0), (.bool false), (.str []), (.int .i64 0), (.int .i64 0), (.bool false), (.str []), (.int .i64 0), (.int .i64 0), (.bool false), (.str []), (.int .i64 0), (.int .i64 0), (.bool false), (.str []), (.int .i64 0), (.int .i64 0), (.bool false), (.str []), (.int .i64 0), (.int .i64 0), (.bool false), (.str []), (.int .i64 0), (.int .i64 0), (.bool false), (.str []), (.int .i64 0), (.int .i64 0), (.bool false), (.str []), (.int .i64 0), (.int .i64 0), (.bool false), (.str []), (.int .i64 0), (.int .i64 0), (.bool false), (.str []), (.int .i64 0), (.int .i64 0), (.bool false), (.str []), (.int .i64 0), (.int .i64 0), (.bool false), (.str []), (.int .i64 0), (.int .i64 0), (.bool false), (.str []), (.int .i64 0), (.int .i64 0), (.bool false), (.str []), (.int .i64 0), (.int .i64 0), (.bool false), (.str []), (.int .i64 0), (.int .i64 0), (.bool false), (.str []), (.int .i64 0), (.int .i64 0), (.bool false)] [(0, 4, (.t 1)), (4, 4, (.t 2)), (8, 4, (.t 3)), (12, 4, (.t 4)), (16, 4, (.t 5)), (20, 4, (.t 6)), (24, 4, (.t 7)), (28, 4, (.t 8)), (32, 4, (.t 9)), (36, 4, (.t 10)), (40, 4, (.t 11)), (44, 4, (.t 12)), (48, 4, (.t 13)), (52, 4, (.t 14)), (56, 4, (.t 15)), (60, 4, (.t 16)), (64, 4, (.t 17)), (68, 4, (.t 18)), (72, 4, (.t 19)), (76, 4, (.t 20)), (80, 4, (.t 21)), (84, 4, (.t 22)), (88, 4, (.t 23)), (92, 4, (.t 24)), (96, 4, (.t 25)), (100, 4, (.t 26)), (104, 4, (.t 27)), (108, 4, (.t 28)), (112, 4, (.t 29)), (116, 4, (.t 30)), (120, 4, (.t 31)), (124, 4, (.t 32)), (128, 4, (.t 33)), (132, 4, (.t 34)), (136, 4, (.t 35)), (140, 4, (.t 36)), (144, 4, (.t 37)), (148, 4, (.t 38)), (152, 4, (.t 39)), (156, 4, (.t 40)), (160, 4, (.t 41)), (164, 4, (.t 42)), (168, 4, (.t 43))], none⟩,
 ⟨some 0, .mv (.t 44), none⟩]
def a30 : AFunc := ⟨[.tmp 0], (.seq (.ops a30_0) (.seq (.ops a30_1) .ret))⟩
/-! ### 31: heddle/heddleref13.Atom (5 slots) -/
def a31_0 : List AOper := [
 ⟨some 2, .alloc [(.int .i64 0), (.int .i64 0), (.str []), (.int .u32 0), .nils, .nils], none⟩]
def a31_1 : List AOper := [
 ⟨some 3, .mv (.t 0), none⟩,
 ⟨some 4, .build [(.int .i64 0), (.int .i64 0), (.str []), (.int .u32 0), .nils, .nils] [(0, 1, (.c (.int .i64 2))), (2, 1, (.t 3))], none⟩,
 ⟨none, .store 6 (.t 2) (.t 4), none⟩]
def a31 : AFunc := ⟨[.cell 2 true 6], (.seq (.ops a31_0) (.seq (.ops a31_1) .ret))⟩
/-! ### 32: (*heddle/heddleref02.Walker).part (147 slots) -/
def a32_0 : List AOper := [
 ⟨some 4, .box false 6 (.t 1), none⟩]
def a32_1 : List AOper := [
 ⟨some 13, .mv (.t 0), none⟩,
 ⟨some 14, .nilCheck (.t 13), none⟩,
 ⟨some 15, .fieldAddr 2 (.t 14), none⟩,
 ⟨some 16, .load false 1 (.t 15), none⟩,
 ⟨some 17, .eq true .slice (.t 16) (.c .nils), none⟩]
def a32_2 : List AOper := [
 ⟨some 18, .mv (.t 0), none⟩,
 ⟨some 19, .nilCheck (.t 18), none⟩,
 ⟨some 20, .fieldAddr 0 (.t 19), none⟩,
 ⟨some 21, .load false 1 (.t 20), none⟩,
 ⟨some 6, .mv (.t 21), none⟩]
def a32_3 : List AOper := [
 ⟨some 22, .mv (.t 0), none⟩,
 ⟨some 23, .nilCheck (.t 22), none⟩,
 ⟨some 24, .fieldAddr 0 (.t 23), none⟩,
 ⟨some 25, .load false 1 (.t 24), none⟩,
 ⟨some 26, .bin .add (.t 25) (.c (.int .i64 1)), none⟩,
 ⟨some 27, .nilCheck (.t 22), none⟩,
 ⟨some 28, .fieldAddr 0 (.t 27), none⟩,
 ⟨none, .store 1 (.t 28) (.t 26), none⟩]
def a32_4 : List AOper := [
 ⟨some 29, .mv (.t 0), none⟩,
 ⟨some 30, .mv (.t 0), none⟩,
 ⟨some 31, .nilCheck (.t 30), none⟩,
 ⟨some 32, .fieldAddr 1 (.t 31), none⟩,
 ⟨some 33, .load false 1 (.t 32), none⟩,
 ⟨some 34, .mv (.t 2), none⟩,
 ⟨some 35, .minmax true (.t 33) (.t 34), none⟩,
 ⟨some 36, .nilCheck (.t 29), none⟩,
 ⟨some 37, .fieldAddr 1 (.t 36), none⟩,
 ⟨none, .store 1 (.t 37) (.t 35), none⟩]
def a32_5 : List AOper := [
 ⟨some 39, .mv (.t 6), none⟩,
 ⟨some 40, .bin .geq (.t 39) (.c (.int .i64 4096)), none⟩,
 ⟨some 38, .mv (.t 40), none⟩]
def a32_6 : List AOper := [
 ⟨some 41, .mv (.t 0), none⟩,
 ⟨some 42, .mv (.t 6), none⟩,
 ⟨some 43, .call 48 [(.t 42), (.c (.int .i64 5))], none⟩,
 ⟨some 44, .nilCheck (.t 41), none⟩,
 ⟨some 45, .fieldAddr 2 (.t 44), none⟩,
 ⟨none, .store 1 (.t 45) (.t 43), none⟩]
def a32_7 : List AOper := [
 ⟨some 47, .mv (.t 2), none⟩,
 ⟨some 48, .bin .gtr (.t 47) (.c (.int .i64 256)), none⟩,
 ⟨some 46, .mv (.t 48), none⟩]
def a32_8 : List AOper := [
 ⟨some 49, .mv (.t 0), none⟩,
 ⟨some 50, .mv (.t 6), none⟩,
 ⟨some 51, .call 48 [(.t 50), (.c (.int .i64 9))], none⟩,
 ⟨some 52, .nilCheck (.t 49), none⟩,
 ⟨some 53, .fieldAddr 2 (.t 52), none⟩,
 ⟨none, .store 1 (.t 53) (.t 51), none⟩]
def a32_9 : List AOper := [
 ⟨some 55, .load true 6 (.t 4), none⟩,
 ⟨some 56, .call 49 [(.t 55)], none⟩,
 ⟨some 57, .un .not (.t 56), none⟩,
 ⟨some 54, .mv (.t 57), none⟩]
def a32_10 : List AOper := [
 ⟨some 58, .mv (.t 0), none⟩,
 ⟨some 59, .mv (.t 6), none⟩,
 ⟨some 60, .call 48 [(.t 59), (.c (.int .i64 40))], none⟩,
 ⟨some 61, .nilCheck (.t 58), none⟩,
 ⟨some 62, .fieldAddr 2 (.t 61), none⟩,
 ⟨none, .store 1 (.t 62) (.t 60), none⟩]
def a32_11 : List AOper := [
 ⟨some 64, .fieldAddr 0 (.t 4), none⟩,
 ⟨some 65, .load false 1 (.t 64), none⟩,
 ⟨some 66, .bin .eql (.t 65) (.c (.int .i64 1)), none⟩,
 ⟨some 67, .mv (.t 66), none⟩,
 ⟨some 68, .fieldAddr 1 (.t 4), some (67, true)⟩,
 ⟨some 69, .load false 1 (.t 68), some (67, true)⟩,
 ⟨some 70, .bin .lss (.t 69) (.c (.int .i64 (-576460752303423488))), some (67, true)⟩,
 ⟨some 71, .mv (.t 70), some (67, true)⟩,
 ⟨some 72, .fieldAddr 1 (.t 4), some (71, false)⟩,
 ⟨some 73, .load false 1 (.t 72), some (71, false)⟩,
 ⟨some 74, .bin .gtr (.t 73) (.c (.int .i64 576460752303423487)), some (71, false)⟩,
 ⟨some 75, .pick (.t 71) (.c (.bool true)) (.t 74), some (67, true)⟩,
 ⟨some 76, .pick (.t 67) (.t 75) (.c (.bool false)), none⟩,
 ⟨some 63, .mv (.t 76), none⟩]
def a32_12 : List AOper := [
 ⟨some 77, .mv (.t 0), none⟩,
 ⟨some 78, .mv (.t 6), none⟩,
 ⟨some 79, .call 48 [(.t 78), (.c (.int .i64 2))], none⟩,
 ⟨some 80, .nilCheck (.t 77), none⟩,
 ⟨some 81, .fieldAddr 2 (.t 80), none⟩,
 ⟨none, .store 1 (.t 81) (.t 79), none⟩]
def a32_13 : List AOper := [
 ⟨some 83, .fieldAddr 0 (.t 4), none⟩,
 ⟨some 84, .load false 1 (.t 83), none⟩,
 ⟨some 85, .bin .eql (.t 84) (.c (.int .i64 2)), none⟩,
 ⟨some 82, .mv (.t 85), none⟩]
def a32_14 : List AOper := [
 ⟨some 87, .fieldAddr 2 (.t 4), none⟩,
 ⟨some 88, .load false 1 (.t 87), none⟩,
 ⟨some 89, .call 50 [(.t 88)], none⟩,
 ⟨some 86, .mv (.t 89), none⟩,
 ⟨some 90, .extract (.t 86) 0, none⟩,
 ⟨some 91, .extract (.t 86) 1, none⟩,
 ⟨some 7, .mv (.t 90), none⟩,
 ⟨some 8, .mv (.t 91), none⟩]
def a32_15 : List AOper := [
 ⟨some 92, .mv (.t 8), none⟩,
 ⟨some 93, .eq true .slice (.t 92) (.c .nils), none⟩]
def a32_16 : List AOper := [
 ⟨some 94, .mv (.t 0), none⟩,
 ⟨some 95, .mv (.t 6), none⟩,
 ⟨some 96, .mv (.t 8), none⟩,
 ⟨some 97, .call 51 [(.t 95), (.t 96)], none⟩,
 ⟨some 98, .nilCheck (.t 94), none⟩,
 ⟨some 99, .fieldAddr 2 (.t 98), none⟩,
 ⟨none, .store 1 (.t 99) (.t 97), none⟩]
def a32_17 : List AOper := [
 ⟨some 101, .fieldAddr 0 (.t 4), none⟩,
 ⟨some 102, .load false 1 (.t 101), none⟩,
 ⟨some 103, .bin .eql (.t 102) (.c (.int .i64 3)), none⟩,
 ⟨some 104, .mv (.t 103), none⟩,
 ⟨some 105, .fieldAddr 0 (.t 4), some (104, false)⟩,
 ⟨some 106, .load false 1 (.t 105), some (104, false)⟩,
 ⟨some 107, .bin .eql (.t 106) (.c (.int .i64 4)), some (104, false)⟩,
 ⟨some 108, .pick (.t 104) (.c (.bool true)) (.t 107), none⟩,
 ⟨some 100, .mv (.t 108), none⟩]
def a32_18 : List AOper := [
 ⟨some 110, .fieldAddr 2 (.t 4), none⟩,
 ⟨some 111, .load false 1 (.t 110), none⟩,
 ⟨some 112, .call 52 [(.t 111)], none⟩,
 ⟨some 109, .mv (.t 112), none⟩,
 ⟨some 113, .extract (.t 109) 0, none⟩,
 ⟨some 114, .extract (.t 109) 1, none⟩,
 ⟨some 115, .extract (.t 109) 2, none⟩,
 ⟨some 9, .mv (.t 113), none⟩,
 ⟨some 10, .mv (.t 114), none⟩,
 ⟨some 11, .mv (.t 115), none⟩]
def a32_19 : List AOper := [
 ⟨some 116, .mv (.t 11), none⟩,
 ⟨some 117, .eq true .slice (.t 116) (.c .nils), none⟩]
def a32_20 : List AOper := [
 ⟨some 118, .mv (.t 0), none⟩,
 ⟨some 119, .mv (.t 6), none⟩,
 ⟨some 120, .mv (.t 11), none⟩,
 ⟨some 121, .call 51 [(.t 119), (.t 120)], none⟩,
 ⟨some 122, .nilCheck (.t 118), none⟩,
 ⟨some 123, .fieldAddr 2 (.t 122), none⟩,
 ⟨none, .store 1 (.t 123) (.t 121), none⟩]
def a32_21 : List AOper := [
 ⟨some 12, .mv (.c (.int .i64 0)), none⟩]
def a32_22 : List AOper := [
 ⟨some 124, .mv (.t 12), none⟩,
 ⟨some 125, .fieldAddr 5 (.t 4), none⟩,
 ⟨some 126, .load false 1 (.t 125), none⟩,
 ⟨some 127, .len false (.t 126), none⟩,
 ⟨some 128, .bin .lss (.t 124) (.t 127), none⟩,
 ⟨some 129, .mv (.t 128), none⟩,
 ⟨some 130, .mv (.t 0), some (129, true)⟩,
 ⟨some 131, .nilCheck (.t 130), some (129, true)⟩,
 ⟨some 132, .fieldAddr 2 (.t 131), some (129, true)⟩,
 ⟨some 133, .load false 1 (.t 132), some (129, true)⟩,
 ⟨some 134, .eq false .slice (.t 133) (.c .nils), some (129, true)⟩,
 ⟨some 135, .pick (.t 129) (.t 134) (.c (.bool false)), none⟩]
def a32_23 : List AOper := [
 ⟨some 138, .mv (.t 0), none⟩,
 ⟨some 139, .fieldAddr 5 (.t 4), none⟩,
 ⟨some 140, .load false 1 (.t 139), none⟩,
 ⟨some 141, .mv (.t 12), none⟩,
 ⟨some 142, .idxAddr 6 (.t 140) (.t 141), none⟩,
 ⟨some 143, .load true 6 (.t 142), none⟩,
 ⟨some 144, .mv (.t 2), none⟩,
 ⟨some 145, .bin .add (.t 144) (.c (.int .i64 1)), none⟩,
 ⟨some 146, .call 32 [(.t 138), (.t 143), (.t 145)], none⟩]
def a32_24 : List AOper := [
 ⟨some 136, .mv (.t 12), none⟩,
 ⟨some 137, .bin .add (.t 136) (.c (.int .i64 1)), none⟩,
 ⟨some 12, .mv (.t 137), none⟩]
def a32_l25 : AC := (.seq (.seq (.ops a32_22) (.cond (.t 135) .skip (.exit 1))) (.seq (.block 2 (.ops a32_23)) (.ops a32_24)))
def a32 : AFunc := ⟨[], (.seq (.ops a32_0) (.seq (.seq (.ops a32_1) (.cond (.t 17) .ret .skip)) (.seq (.ops a32_2) (.seq (.ops a32_3) (.seq (.ops a32_4) (.seq (.block 0 (.seq (.ops a32_5) (.cond (.t 38) (.ops a32_6) (.seq (.ops a32_7) (.cond (.t 46) (.ops a32_8) (.seq (.ops a32_9) (.cond (.t 54) (.ops a32_10) (.seq (.ops a32_11) (.cond (.t 63) (.ops a32_12) (.seq (.ops a32_13) (.cond (.t 82) (.seq (.ops a32_14) (.seq (.ops a32_15) (.cond (.t 93) (.ops a32_16) .skip))) (.seq (.ops a32_17) (.cond (.t 100) (.seq (.ops a32_18) (.seq (.ops a32_19) (.cond (.t 117) (.ops a32_20) .skip))) .skip))))))))))))) (.seq (.ops a32_21) (.block 1 (.loop a32_l25)))))))))⟩
/-! ### 33: heddle/term.Equal (19 slots) -/
def a33_0 : List AOper := [
 ⟨some 2, .box false 6 (.t 0), none⟩,
 ⟨some 3, .box false 6 (.t 1), none⟩,
 ⟨some 4, .mv (.c (.bool false)), none⟩]
def a33_1 : List AOper := [
 ⟨some 5, .load true 6 (.t 2), none⟩,
 ⟨some 6, .call 36 [(.t 5)], none⟩,
 ⟨some 7, .eq false (.iface true) (.t 6) (.c .nili), none⟩,
 ⟨some 8, .mv (.t 7), none⟩,
 ⟨some 9, .load true 6 (.t 3), some (8, true)⟩,
 ⟨some 10, .call 36 [(.t 9)], some (8, true)⟩,
 ⟨some 11, .eq false (.iface true) (.t 10) (.c .nili), some (8, true)⟩,
 ⟨some 12, .pick (.t 8) (.t 11) (.c (.bool false)), none⟩,
 ⟨some 13, .mv (.t 12), none⟩,
 ⟨some 14, .load true 6 (.t 2), some (13, true)⟩,
 ⟨some 15, .load true 6 (.t 3), some (13, true)⟩,
 ⟨some 16, .call 53 [(.t 14), (.t 15)], some (13, true)⟩,
 ⟨some 17, .bin .eql (.t 16) (.c (.int .i64 0)), some (13, true)⟩,
 ⟨some 18, .pick (.t 13) (.t 17) (.c (.bool false)), none⟩,
 ⟨some 4, .mv (.t 18), none⟩]
def a33 : AFunc := ⟨[.tmp 4], (.seq (.ops a33_0) (.seq (.ops a33_1) .ret))⟩
/-! ### 34: heddle/bif.atom (5 slots) -/
def a34_0 : List AOper := [
 ⟨some 2, .alloc [(.int .i64 0), (.int .i64 0), (.str []), (.int .u32 0), .nils, .nils], none⟩]
def a34_1 : List AOper := [
 ⟨some 3, .mv (.t 0), none⟩,
 ⟨some 4, .build [(.int .i64 0), (.int .i64 0), (.str []), (.int .u32 0), .nils, .nils] [(0, 1, (.c (.int .i64 2))), (2, 1, (.t 3))], none⟩,
 ⟨none, .store 6 (.t 2) (.t 4), none⟩]
def a34 : AFunc := ⟨[.cell 2 true 6], (.seq (.ops a34_0) (.seq (.ops a34_1) .ret))⟩
/-! ### 35: heddle/bif.refused (10 slots) -/
def a35_0 : List AOper := [
 ⟨some 4, .mv (.c .nili), none⟩]
def a35_1 : List AOper := [
 ⟨some 5, .mv (.t 0), none⟩,
 ⟨some 6, .mv (.t 1), none⟩,
 ⟨some 7, .build [(.str []), (.int .i64 0), (.int .i64 0), .nili] [(0, 1, (.c (.str [98, 105, 102]))), (1, 1, (.t 5)), (2, 1, (.t 6))], none⟩,
 ⟨some 8, .box true 4 (.t 7), none⟩,
 ⟨some 9, .mkIface 69 (.t 8), none⟩,
 ⟨some 4, .mv (.t 9), none⟩]
def a35 : AFunc := ⟨[.tmp 4], (.seq (.ops a35_0) (.seq (.ops a35_1) .ret))⟩
/-! ### 36: heddle/term.Check (13 slots) -/
def a36_0 : List AOper := [
 ⟨some 1, .box false 6 (.t 0), none⟩,
 ⟨some 2, .mv (.c .nili), none⟩]
def a36_1 : List AOper := [
 ⟨some 7, .load true 6 (.t 1), none⟩,
 ⟨some 8, .call 54 [(.t 7)], none⟩,
 ⟨some 6, .mv (.t 8), none⟩,
 ⟨some 9, .extract (.t 6) 0, none⟩,
 ⟨some 10, .extract (.t 6) 1, none⟩,
 ⟨some 11, .extract (.t 6) 2, none⟩,
 ⟨some 3, .mv (.t 9), none⟩,
 ⟨some 4, .mv (.t 10), none⟩,
 ⟨some 5, .mv (.t 11), none⟩]
def a36_2 : List AOper := [
 ⟨some 12, .mv (.t 5), none⟩,
 ⟨some 2, .mv (.t 12), none⟩]
def a36 : AFunc := ⟨[.tmp 2], (.seq (.ops a36_0) (.seq (.ops a36_1) (.seq (.ops a36_2) .ret)))⟩
/-! ### 38: heddle/bif.call (130 slots) -/
def a38_0 : List AOper := [
 ⟨some 4, .alloc [(.int .i64 0), (.int .i64 0), (.str []), (.int .u32 0), .nils, .nils], none⟩,
 ⟨some 5, .mv (.c (.int .i64 0)), none⟩]
def a38_1 : List AOper := [
 ⟨some 7, .mv (.t 0), none⟩]
def a38_2 : List AOper := [
 ⟨some 9, .bin .eql (.t 7) (.c (.str [43])), none⟩,
 ⟨some 8, .mv (.t 9), none⟩]
def a38_3 : List AOper := [
 ⟨some 10, .bin .eql (.t 7) (.c (.str [45])), none⟩,
 ⟨some 8, .mv (.t 10), none⟩]
def a38_4 : List AOper := [
 ⟨some 11, .bin .eql (.t 7) (.c (.str [42])), none⟩,
 ⟨some 8, .mv (.t 11), none⟩]
def a38_5 : List AOper := [
 ⟨some 12, .bin .eql (.t 7) (.c (.str [100, 105, 118])), none⟩,
 ⟨some 8, .mv (.t 12), none⟩]
def a38_6 : List AOper := [
 ⟨some 13, .bin .eql (.t 7) (.c (.str [114, 101, 109])), none⟩,
 ⟨some 8, .mv (.t 13), none⟩]
def a38_7 : List AOper := [
 ⟨some 14, .mv (.t 1), none⟩,
 ⟨some 15, .len false (.t 14), none⟩,
 ⟨some 16, .bin .eql (.t 15) (.c (.int .i64 1)), none⟩]
def a38_8 : List AOper := [
 ⟨some 17, .call 59 [(.c (.int .i64 0))], none⟩,
 ⟨some 18, .mv (.t 1), none⟩,
 ⟨some 19, .idxAddr 6 (.t 18) (.c (.int .i64 0)), none⟩,
 ⟨some 20, .load true 6 (.t 19), none⟩,
 ⟨some 21, .lit true 6 2 [(.int .i64 0), (.int .i64 0), (.str []), (.int .u32 0), .nils, .nils, (.int .i64 0), (.int .i64 0), (.str []), (.int .u32 0), .nils, .nils] [(0, 6, (.t 17)), (6, 6, (.t 20))], none⟩,
 ⟨some 1, .mv (.t 21), none⟩]
def a38_8b : List Nat := [0, 0, 2, 6, 15, 31]
def a38_9 : List AOper := [
 ⟨some 22, .mv (.t 0), none⟩,
 ⟨some 23, .mv (.t 1), none⟩,
 ⟨some 24, .idxAddr 6 (.t 23) (.c (.int .i64 0)), none⟩,
 ⟨some 25, .load true 6 (.t 24), none⟩,
 ⟨some 26, .mv (.t 1), none⟩,
 ⟨some 27, .idxAddr 6 (.t 26) (.c (.int .i64 1)), none⟩,
 ⟨some 28, .load true 6 (.t 27), none⟩,
 ⟨some 29, .call 60 [(.t 22), (.t 25), (.t 28)], none⟩,
 ⟨some 30, .extract (.t 29) 0, none⟩,
 ⟨some 31, .extract (.t 29) 1, none⟩,
 ⟨none, .store 6 (.t 4) (.t 30), none⟩,
 ⟨some 5, .mv (.t 31), none⟩]
def a38_9b : List Nat := [0, 0, 2, 6, 0, 16, 48, 127, 255, 255, 1023, 2047]
def a38_10 : List AOper := [
 ⟨some 33, .bin .eql (.t 7) (.c (.str [97, 110, 100])), none⟩,
 ⟨some 32, .mv (.t 33), none⟩]
def a38_11 : List AOper := [
 ⟨some 34, .bin .eql (.t 7) (.c (.str [111, 114])), none⟩,
 ⟨some 32, .mv (.t 34), none⟩]
def a38_12 : List AOper := [
 ⟨some 35, .bin .eql (.t 7) (.c (.str [120, 111, 114])), none⟩,
 ⟨some 32, .mv (.t 35), none⟩]
def a38_13 : List AOper := [
 ⟨some 36, .mv (.t 0), none⟩,
 ⟨some 37, .mv (.t 1), none⟩,
 ⟨some 38, .idxAddr 6 (.t 37) (.c (.int .i64 0)), none⟩,
 ⟨some 39, .load true 6 (.t 38), none⟩,
 ⟨some 40, .mv (.t 1), none⟩,
 ⟨some 41, .idxAddr 6 (.t 40) (.c (.int .i64 1)), none⟩,
 ⟨some 42, .load true 6 (.t 41), none⟩,
 ⟨some 43, .call 61 [(.t 36), (.t 39), (.t 42)], none⟩,
 ⟨some 44, .extract (.t 43) 0, none⟩,
 ⟨some 45, .extract (.t 43) 1, none⟩,
 ⟨none, .store 6 (.t 4) (.t 44), none⟩,
 ⟨some 5, .mv (.t 45), none⟩]
def a38_13b : List Nat := [0, 0, 2, 6, 0, 16, 48, 127, 255, 255, 1023, 2047]
def a38_14 : List AOper := [
 ⟨some 47, .bin .eql (.t 7) (.c (.str [110, 111, 116])), none⟩,
 ⟨some 46, .mv (.t 47), none⟩]
def a38_15 : List AOper := [
 ⟨some 48, .mv (.t 1), none⟩,
 ⟨some 49, .idxAddr 6 (.t 48) (.c (.int .i64 0)), none⟩,
 ⟨some 50, .load true 6 (.t 49), none⟩,
 ⟨some 51, .call 34 [(.c (.str [116, 114, 117, 101]))], none⟩,
 ⟨some 52, .call 61 [(.c (.str [120, 111, 114])), (.t 50), (.t 51)], none⟩,
 ⟨some 53, .extract (.t 52) 0, none⟩,
 ⟨some 54, .extract (.t 52) 1, none⟩,
 ⟨none, .store 6 (.t 4) (.t 53), none⟩,
 ⟨some 5, .mv (.t 54), none⟩]
def a38_15b : List Nat := [0, 1, 3, 0, 15, 31, 31, 127, 255]
def a38_16 : List AOper := [
 ⟨some 56, .bin .eql (.t 7) (.c (.str [61, 61])), none⟩,
 ⟨some 55, .mv (.t 56), none⟩]
def a38_17 : List AOper := [
 ⟨some 57, .bin .eql (.t 7) (.c (.str [47, 61])), none⟩,
 ⟨some 55, .mv (.t 57), none⟩]
def a38_18 : List AOper := [
 ⟨some 58, .bin .eql (.t 7) (.c (.str [61, 60])), none⟩,
 ⟨some 55, .mv (.t 58), none⟩]
def a38_19 : List AOper := [
 ⟨some 59, .bin .eql (.t 7) (.c (.str [60])), none⟩,
 ⟨some 55, .mv (.t 59), none⟩]
def a38_20 : List AOper := [
 ⟨some 60, .bin .eql (.t 7) (.c (.str [62, 61])), none⟩,
 ⟨some 55, .mv (.t 60), none⟩]
def a38_21 : List AOper := [
 ⟨some 61, .bin .eql (.t 7) (.c (.str [62])), none⟩,
 ⟨some 55, .mv (.t 61), none⟩]
def a38_22 : List AOper := [
 ⟨some 62, .bin .eql (.t 7) (.c (.str [61, 58, 61])), none⟩,
 ⟨some 55, .mv (.t 62), none⟩]
def a38_23 : List AOper := [
 ⟨some 63, .bin .eql (.t 7) (.c (.str [61, 47, 61])), none⟩,
 ⟨some 55, .mv (.t 63), none⟩]
def a38_24 : List AOper := [
 ⟨some 64, .mv (.t 0), none⟩,
 ⟨some 65, .mv (.t 1), none⟩,
 ⟨some 66, .idxAddr 6 (.t 65) (.c (.int .i64 0)), none⟩,
 ⟨some 67, .load true 6 (.t 66), none⟩,
 ⟨some 68, .mv (.t 1), none⟩,
 ⟨some 69, .idxAddr 6 (.t 68) (.c (.int .i64 1)), none⟩,
 ⟨some 70, .load true 6 (.t 69), none⟩,
 ⟨some 71, .call 64 [(.t 67), (.t 70)], none⟩,
 ⟨some 72, .call 63 [(.t 64), (.t 71)], none⟩,
 ⟨some 73, .call 62 [(.t 72)], none⟩,
 ⟨none, .store 6 (.t 4) (.t 73), none⟩,
 ⟨some 5, .mv (.c (.int .i64 0)), none⟩]
def a38_24b : List Nat := [0, 0, 2, 6, 0, 16, 48, 126, 255, 511, 1023, 2047]
def a38_25 : List AOper := [
 ⟨some 75, .bin .eql (.t 7) (.c (.str [109, 97, 120])), none⟩,
 ⟨some 74, .mv (.t 75), none⟩]
def a38_26 : List AOper := [
 ⟨some 76, .bin .eql (.t 7) (.c (.str [109, 105, 110])), none⟩,
 ⟨some 74, .mv (.t 76), none⟩]
def a38_27 : List AOper := [
 ⟨some 77, .mv (.t 1), none⟩,
 ⟨some 78, .idxAddr 6 (.t 77) (.c (.int .i64 0)), none⟩,
 ⟨some 79, .load true 6 (.t 78), none⟩,
 ⟨some 80, .mv (.t 1), none⟩,
 ⟨some 81, .idxAddr 6 (.t 80) (.c (.int .i64 1)), none⟩,
 ⟨some 82, .load true 6 (.t 81), none⟩,
 ⟨some 83, .call 64 [(.t 79), (.t 82)], none⟩,
 ⟨some 6, .mv (.t 83), none⟩]
def a38_27b : List Nat := [0, 1, 3, 0, 8, 24, 63, 127]
def a38_28 : List AOper := [
 ⟨some 84, .mv (.t 0), none⟩,
 ⟨some 85, .bin .eql (.t 84) (.c (.str [109, 97, 120])), none⟩,
 ⟨some 86, .mv (.t 85), none⟩,
 ⟨some 87, .mv (.t 6), some (86, true)⟩,
 ⟨some 88, .bin .lss (.t 87) (.c (.int .i64 0)), some (86, true)⟩,
 ⟨some 89, .pick (.t 86) (.t 88) (.c (.bool false)), none⟩,
 ⟨some 90, .mv (.t 89), none⟩,
 ⟨some 91, .mv (.t 0), some (90, false)⟩,
 ⟨some 92, .bin .eql (.t 91) (.c (.str [109, 105, 110])), some (90, false)⟩,
 ⟨some 93, .mv (.t 92), some (90, false)⟩,
 ⟨some 94, .mv (.t 6), some (93, true)⟩,
 ⟨some 95, .bin .gtr (.t 94) (.c (.int .i64 0)), some (93, true)⟩,
 ⟨some 96, .pick (.t 93) (.t 95) (.c (.bool false)), some (90, false)⟩,
 ⟨some 97, .pick (.t 90) (.c (.bool true)) (.t 96), none⟩]
def a38_29 : List AOper := [
 ⟨some 98, .mv (.t 1), none⟩,
 ⟨some 99, .idxAddr 6 (.t 98) (.c (.int .i64 1)), none⟩,
 ⟨some 100, .load true 6 (.t 99), none⟩,
 ⟨none, .store 6 (.t 4) (.t 100), none⟩,
 ⟨some 5, .mv (.c (.int .i64 0)), none⟩]
def a38_30 : List AOper := [
 ⟨some 101, .mv (.t 1), none⟩,
 ⟨some 102, .idxAddr 6 (.t 101) (.c (.int .i64 0)), none⟩,
 ⟨some 103, .load true 6 (.t 102), none⟩,
 ⟨none, .store 6 (.t 4) (.t 103), none⟩,
 ⟨some 5, .mv (.c (.int .i64 0)), none⟩]
def a38_31 : List AOper := [
 ⟨some 105, .bin .eql (.t 7) (.c (.str [43, 43])), none⟩,
 ⟨some 104, .mv (.t 105), none⟩]
def a38_32 : List AOper := [
 ⟨some 106, .bin .eql (.t 7) (.c (.str [45, 45])), none⟩,
 ⟨some 104, .mv (.t 106), none⟩]
def a38_33 : List AOper := [
 ⟨some 107, .mv (.t 0), none⟩,
 ⟨some 108, .mv (.t 1), none⟩,
 ⟨some 109, .idxAddr 6 (.t 108) (.c (.int .i64 0)), none⟩,
 ⟨some 110, .load true 6 (.t 109), none⟩,
 ⟨some 111, .mv (.t 1), none⟩,
 ⟨some 112, .idxAddr 6 (.t 111) (.c (.int .i64 1)), none⟩,
 ⟨some 113, .load true 6 (.t 112), none⟩,
 ⟨some 114, .call 65 [(.t 107), (.t 110), (.t 113)], none⟩,
 ⟨some 115, .extract (.t 114) 0, none⟩,
 ⟨some 116, .extract (.t 114) 1, none⟩,
 ⟨none, .store 6 (.t 4) (.t 115), none⟩,
 ⟨some 5, .mv (.t 116), none⟩]
def a38_33b : List Nat := [0, 0, 2, 6, 0, 16, 48, 127, 255, 255, 1023, 2047]
def a38_34 : List AOper := [
 ⟨some 117, .mv (.t 0), none⟩,
 ⟨some 118, .call 66 [(.t 117), (.c (.str [105, 115, 95]))], none⟩]
def a38_35 : List AOper := [
 ⟨some 119, .mv (.t 0), none⟩,
 ⟨some 120, .mv (.t 1), none⟩,
 ⟨some 121, .idxAddr 6 (.t 120) (.c (.int .i64 0)), none⟩,
 ⟨some 122, .load true 6 (.t 121), none⟩,
 ⟨some 123, .call 67 [(.t 119), (.t 122)], none⟩,
 ⟨some 124, .call 62 [(.t 123)], none⟩,
 ⟨none, .store 6 (.t 4) (.t 124), none⟩,
 ⟨some 5, .mv (.c (.int .i64 0)), none⟩]
def a38_36 : List AOper := [
 ⟨some 125, .mv (.t 0), none⟩,
 ⟨some 126, .mv (.t 1), none⟩,
 ⟨some 127, .call 68 [(.t 125), (.t 126)], none⟩,
 ⟨some 128, .extract (.t 127) 0, none⟩,
 ⟨some 129, .extract (.t 127) 1, none⟩,
 ⟨none, .store 6 (.t 4) (.t 128), none⟩,
 ⟨some 5, .mv (.t 129), none⟩]
def a38 : AFunc := ⟨[.cell 4 true 6, .tmp 5], (.seq (.ops a38_0) (.seq (.seq (.ops a38_1) (.block 0 (.seq (.seq (.ops a38_2) (.cond (.t 8) .skip (.seq (.ops a38_3) (.cond (.t 8) .skip (.seq (.ops a38_4) (.cond (.t 8) .skip (.seq (.ops a38_5) (.cond (.t 8) .skip (.ops a38_6))))))))) (.cond (.t 8) (.seq (.seq (.ops a38_7) (.cond (.t 16) (.draw a38_8 a38_8b) .skip)) (.seq (.draw a38_9 a38_9b) .ret)) (.seq (.seq (.ops a38_10) (.cond (.t 32) .skip (.seq (.ops a38_11) (.cond (.t 32) .skip (.ops a38_12))))) (.cond (.t 32) (.seq (.draw a38_13 a38_13b) .ret) (.seq (.ops a38_14) (.cond (.t 46) (.seq (.draw a38_15 a38_15b) .ret) (.seq (.seq (.ops a38_16) (.cond (.t 55) .skip (.seq (.ops a38_17) (.cond (.t 55) .skip (.seq (.ops a38_18) (.cond (.t 55) .skip (.seq (.ops a38_19) (.cond (.t 55) .skip (.seq (.ops a38_20) (.cond (.t 55) .skip (.seq (.ops a38_21) (.cond (.t 55) .skip (.seq (.ops a38_22) (.cond (.t 55) .skip (.ops a38_23))))))))))))))) (.cond (.t 55) (.seq (.draw a38_24 a38_24b) .ret) (.seq (.seq (.ops a38_25) (.cond (.t 74) .skip (.ops a38_26))) (.cond (.t 74) (.seq (.draw a38_27 a38_27b) (.seq (.seq (.ops a38_28) (.cond (.t 97) (.seq (.ops a38_29) .ret) .skip)) (.seq (.ops a38_30) .ret))) (.seq (.seq (.ops a38_31) (.cond (.t 104) .skip (.ops a38_32))) (.cond (.t 104) (.seq (.draw a38_33 a38_33b) .ret) .skip)))))))))))))) (.seq (.seq (.ops a38_34) (.cond (.t 118) (.seq (.ops a38_35) .ret) .skip)) (.seq (.ops a38_36) .ret))))⟩
/-! ### 39: heddle/term.Copy (26 slots) -/
def a39_0 : List AOper := [
 ⟨some 1, .box false 6 (.t 0), none⟩,
 ⟨some 2, .alloc [(.int .i64 0), (.int .i64 0), (.str []), (.int .u32 0), .nils, .nils], none⟩]
def a39_1 : List AOper := [
 ⟨some 6, .fieldAddr 4 (.t 1), none⟩,
 ⟨some 7, .load false 1 (.t 6), none⟩,
 ⟨some 8, .call 69 [(.t 7)], none⟩,
 ⟨some 9, .fieldAddr 4 (.t 1), none⟩,
 ⟨none, .store 1 (.t 9) (.t 8), none⟩]
def a39_2 : List AOper := [
 ⟨some 3, .mv (.c .nils), none⟩]
def a39_3 : List AOper := [
 ⟨some 10, .fieldAddr 5 (.t 1), none⟩,
 ⟨some 11, .load false 1 (.t 10), none⟩,
 ⟨some 12, .len false (.t 11), none⟩,
 ⟨some 13, .mv (.c (.int .i64 0)), none⟩]
def a39_4 : List AOper := [
 ⟨some 14, .bin .lss (.t 13) (.t 12), none⟩]
def a39_5 : List AOper := [
 ⟨some 15, .idxAddr 6 (.t 11) (.t 13), none⟩,
 ⟨some 16, .load true 6 (.t 15), none⟩,
 ⟨some 5, .alloc [(.int .i64 0), (.int .i64 0), (.str []), (.int .u32 0), .nils, .nils], none⟩,
 ⟨none, .store 6 (.t 5) (.t 16), none⟩]
def a39_6 : List AOper := [
 ⟨some 17, .mv (.t 3), none⟩,
 ⟨some 18, .load true 6 (.t 5), none⟩,
 ⟨some 19, .call 39 [(.t 18)], none⟩,
 ⟨some 20, .lit true 6 1 [(.int .i64 0), (.int .i64 0), (.str []), (.int .u32 0), .nils, .nils] [(0, 6, (.t 19))], none⟩,
 ⟨some 21, .append 6 88 (.t 17) (.t 20), none⟩,
 ⟨some 3, .mv (.t 21), none⟩]
def a39_7 : List AOper := [
 ⟨some 22, .bin .add (.t 13) (.c (.int .i64 1)), none⟩,
 ⟨some 13, .mv (.t 22), none⟩]
def a39_l8 : AC := (.seq (.ops a39_4) (.seq (.cond (.t 14) .skip (.exit 0)) (.seq (.block 1 (.seq (.ops a39_5) (.ops a39_6))) (.ops a39_7))))
def a39_9 : List AOper := [
 ⟨some 23, .mv (.t 3), none⟩,
 ⟨some 24, .fieldAddr 5 (.t 1), none⟩,
 ⟨none, .store 1 (.t 24) (.t 23), none⟩]
def a39_10 : List AOper := [
 ⟨some 25, .load true 6 (.t 1), none⟩,
 ⟨none, .store 6 (.t 2) (.t 25), none⟩]
def a39 : AFunc := ⟨[.cell 2 true 6], (.seq (.ops a39_0) (.seq (.ops a39_1) (.seq (.ops a39_2) (.seq (.seq (.ops a39_3) (.block 0 (.loop a39_l8))) (.seq (.ops a39_9) (.seq (.ops a39_10) .ret))))))⟩
/-! ### 40: heddle/heddleref02.Order (114 slots) -/
def a40_0 : List AOper := [
 ⟨some 2, .box false 6 (.t 0), none⟩,
 ⟨some 3, .box false 6 (.t 1), none⟩,
 ⟨some 4, .mv (.c (.int .i64 0)), none⟩]
def a40_1 : List AOper := [
 ⟨some 9, .fieldAddr 0 (.t 2), none⟩,
 ⟨some 10, .load false 1 (.t 9), none⟩,
 ⟨some 11, .fieldAddr 0 (.t 3), none⟩,
 ⟨some 12, .load false 1 (.t 11), none⟩,
 ⟨some 13, .bin .neq (.t 10) (.t 12), none⟩]
def a40_2 : List AOper := [
 ⟨some 14, .fieldAddr 0 (.t 2), none⟩,
 ⟨some 15, .load false 1 (.t 14), none⟩,
 ⟨some 16, .fieldAddr 0 (.t 3), none⟩,
 ⟨some 17, .load false 1 (.t 16), none⟩,
 ⟨some 18, .call 70 [(.t 15), (.t 17)], none⟩,
 ⟨some 4, .mv (.t 18), none⟩]
def a40_3 : List AOper := [
 ⟨some 19, .fieldAddr 0 (.t 2), none⟩,
 ⟨some 20, .load false 1 (.t 19), none⟩]
def a40_4 : List AOper := [
 ⟨some 22, .bin .eql (.t 20) (.c (.int .i64 1)), none⟩,
 ⟨some 21, .mv (.t 22), none⟩]
def a40_5 : List AOper := [
 ⟨some 23, .fieldAddr 1 (.t 2), none⟩,
 ⟨some 24, .load false 1 (.t 23), none⟩,
 ⟨some 25, .fieldAddr 1 (.t 3), none⟩,
 ⟨some 26, .load false 1 (.t 25), none⟩,
 ⟨some 27, .call 70 [(.t 24), (.t 26)], none⟩,
 ⟨some 4, .mv (.t 27), none⟩]
def a40_6 : List AOper := [
 ⟨some 29, .bin .eql (.t 20) (.c (.int .i64 2)), none⟩,
 ⟨some 28, .mv (.t 29), none⟩]
def a40_7 : List AOper := [
 ⟨some 30, .fieldAddr 2 (.t 2), none⟩,
 ⟨some 31, .load false 1 (.t 30), none⟩,
 ⟨some 32, .fieldAddr 2 (.t 3), none⟩,
 ⟨some 33, .load false 1 (.t 32), none⟩,
 ⟨some 34, .call 71 [(.t 31), (.t 33)], none⟩,
 ⟨some 4, .mv (.t 34), none⟩]
def a40_8 : List AOper := [
 ⟨some 36, .bin .eql (.t 20) (.c (.int .i64 3)), none⟩,
 ⟨some 35, .mv (.t 36), none⟩]
def a40_9 : List AOper := [
 ⟨some 37, .bin .eql (.t 20) (.c (.int .i64 4)), none⟩,
 ⟨some 35, .mv (.t 37), none⟩]
def a40_10 : List AOper := [
 ⟨some 38, .fieldAddr 2 (.t 2), none⟩,
 ⟨some 39, .load false 1 (.t 38), none⟩,
 ⟨some 40, .fieldAddr 2 (.t 3), none⟩,
 ⟨some 41, .load false 1 (.t 40), none⟩,
 ⟨some 42, .call 71 [(.t 39), (.t 41)], none⟩,
 ⟨some 5, .mv (.t 42), none⟩]
def a40_11 : List AOper := [
 ⟨some 43, .mv (.t 5), none⟩,
 ⟨some 44, .bin .eql (.t 43) (.c (.int .i64 0)), none⟩]
def a40_12 : List AOper := [
 ⟨some 45, .fieldAddr 3 (.t 2), none⟩,
 ⟨some 46, .load false 1 (.t 45), none⟩,
 ⟨some 47, .conv (.int .i64) (.t 46), none⟩,
 ⟨some 48, .fieldAddr 3 (.t 3), none⟩,
 ⟨some 49, .load false 1 (.t 48), none⟩,
 ⟨some 50, .conv (.int .i64) (.t 49), none⟩,
 ⟨some 51, .call 70 [(.t 47), (.t 50)], none⟩,
 ⟨some 5, .mv (.t 51), none⟩]
def a40_13 : List AOper := [
 ⟨some 6, .mv (.c (.int .i64 0)), none⟩]
def a40_14 : List AOper := [
 ⟨some 52, .mv (.t 6), none⟩,
 ⟨some 53, .fieldAddr 4 (.t 2), none⟩,
 ⟨some 54, .load false 1 (.t 53), none⟩,
 ⟨some 55, .len false (.t 54), none⟩,
 ⟨some 56, .bin .lss (.t 52) (.t 55), none⟩,
 ⟨some 57, .mv (.t 56), none⟩,
 ⟨some 58, .mv (.t 5), some (57, true)⟩,
 ⟨some 59, .bin .eql (.t 58) (.c (.int .i64 0)), some (57, true)⟩,
 ⟨some 60, .pick (.t 57) (.t 59) (.c (.bool false)), none⟩]
def a40_15 : List AOper := [
 ⟨some 63, .fieldAddr 4 (.t 2), none⟩,
 ⟨some 64, .load false 1 (.t 63), none⟩,
 ⟨some 65, .mv (.t 6), none⟩,
 ⟨some 66, .idxAddr 1 (.t 64) (.t 65), none⟩,
 ⟨some 67, .load false 1 (.t 66), none⟩,
 ⟨some 68, .conv (.int .i64) (.t 67), none⟩,
 ⟨some 69, .fieldAddr 4 (.t 3), none⟩,
 ⟨some 70, .load false 1 (.t 69), none⟩,
 ⟨some 71, .mv (.t 6), none⟩,
 ⟨some 72, .idxAddr 1 (.t 70) (.t 71), none⟩,
 ⟨some 73, .load false 1 (.t 72), none⟩,
 ⟨some 74, .conv (.int .i64) (.t 73), none⟩,
 ⟨some 75, .call 70 [(.t 68), (.t 74)], none⟩,
 ⟨some 5, .mv (.t 75), none⟩]
def a40_15b : List Nat := [0, 1, 0, 7, 15, 31, 0, 64, 0, 448, 960, 1984, 4095, 8191]
def a40_16 : List AOper := [
 ⟨some 61, .mv (.t 6), none⟩,
 ⟨some 62, .bin .add (.t 61) (.c (.int .i64 1)), none⟩,
 ⟨some 6, .mv (.t 62), none⟩]
def a40_l17 : AC := (.seq (.seq (.ops a40_14) (.cond (.t 60) .skip (.exit 1))) (.seq (.block 2 (.draw a40_15 a40_15b)) (.ops a40_16)))
def a40_18 : List AOper := [
 ⟨some 76, .mv (.t 5), none⟩,
 ⟨some 4, .mv (.t 76), none⟩]
def a40_19 : List AOper := [
 ⟨some 78, .bin .eql (.t 20) (.c (.int .i64 5)), none⟩,
 ⟨some 77, .mv (.t 78), none⟩]
def a40_20 : List AOper := [
 ⟨some 79, .fieldAddr 5 (.t 2), none⟩,
 ⟨some 80, .load false 1 (.t 79), none⟩,
 ⟨some 81, .len false (.t 80), none⟩,
 ⟨some 82, .fieldAddr 5 (.t 3), none⟩,
 ⟨some 83, .load false 1 (.t 82), none⟩,
 ⟨some 84, .len false (.t 83), none⟩,
 ⟨some 85, .call 70 [(.t 81), (.t 84)], none⟩,
 ⟨some 7, .mv (.t 85), none⟩]
def a40_21 : List AOper := [
 ⟨some 8, .mv (.c (.int .i64 0)), none⟩]
def a40_22 : List AOper := [
 ⟨some 86, .mv (.t 8), none⟩,
 ⟨some 87, .fieldAddr 5 (.t 2), none⟩,
 ⟨some 88, .load false 1 (.t 87), none⟩,
 ⟨some 89, .len false (.t 88), none⟩,
 ⟨some 90, .bin .lss (.t 86) (.t 89), none⟩,
 ⟨some 91, .mv (.t 90), none⟩,
 ⟨some 92, .mv (.t 7), some (91, true)⟩,
 ⟨some 93, .bin .eql (.t 92) (.c (.int .i64 0)), some (91, true)⟩,
 ⟨some 94, .pick (.t 91) (.t 93) (.c (.bool false)), none⟩]
def a40_23 : List AOper := [
 ⟨some 97, .fieldAddr 5 (.t 2), none⟩,
 ⟨some 98, .load false 1 (.t 97), none⟩,
 ⟨some 99, .mv (.t 8), none⟩,
 ⟨some 100, .idxAddr 6 (.t 98) (.t 99), none⟩,
 ⟨some 101, .load true 6 (.t 100), none⟩,
 ⟨some 102, .fieldAddr 5 (.t 3), none⟩,
 ⟨some 103, .load false 1 (.t 102), none⟩,
 ⟨some 104, .mv (.t 8), none⟩,
 ⟨some 105, .idxAddr 6 (.t 103) (.t 104), none⟩,
 ⟨some 106, .load true 6 (.t 105), none⟩,
 ⟨some 107, .call 40 [(.t 101), (.t 106)], none⟩,
 ⟨some 7, .mv (.t 107), none⟩]
def a40_23b : List Nat := [0, 1, 0, 7, 15, 0, 32, 0, 224, 480, 1023, 2047]
def a40_24 : List AOper := [
 ⟨some 95, .mv (.t 8), none⟩,
 ⟨some 96, .bin .add (.t 95) (.c (.int .i64 1)), none⟩,
 ⟨some 8, .mv (.t 96), none⟩]
def a40_l25 : AC := (.seq (.seq (.ops a40_22) (.cond (.t 94) .skip (.exit 3))) (.seq (.block 4 (.draw a40_23 a40_23b)) (.ops a40_24)))
def a40_26 : List AOper := [
 ⟨some 108, .mv (.t 7), none⟩,
 ⟨some 4, .mv (.t 108), none⟩]
def a40_27 : List AOper := [
 ⟨some 110, .bin .eql (.t 20) (.c (.int .i64 7)), none⟩,
 ⟨some 109, .mv (.t 110), none⟩]
def a40_28 : List AOper := [
 ⟨some 111, .load true 6 (.t 2), none⟩,
 ⟨some 112, .load true 6 (.t 3), none⟩,
 ⟨some 113, .call 72 [(.t 111), (.t 112)], none⟩,
 ⟨some 4, .mv (.t 113), none⟩]
def a40_29 : List AOper := [
 ⟨some 4, .mv (.c (.int .i64 0)), none⟩]
def a40 : AFunc := ⟨[.tmp 4], (.seq (.ops a40_0) (.seq (.seq (.ops a40_1) (.cond (.t 13) (.seq (.ops a40_2) .ret) .skip)) (.seq (.seq (.ops a40_3) (.block 0 (.seq (.ops a40_4) (.cond (.t 21) (.seq (.ops a40_5) .ret) (.seq (.ops a40_6) (.cond (.t 28) (.seq (.ops a40_7) .ret) (.seq (.seq (.ops a40_8) (.cond (.t 35) .skip (.ops a40_9))) (.cond (.t 35) (.seq (.ops a40_10) (.seq (.seq (.ops a40_11) (.cond (.t 44) (.ops a40_12) .skip)) (.seq (.seq (.ops a40_13) (.block 1 (.loop a40_l17))) (.seq (.ops a40_18) .ret)))) (.seq (.ops a40_19) (.cond (.t 77) (.seq (.ops a40_20) (.seq (.seq (.ops a40_21) (.block 3 (.loop a40_l25))) (.seq (.ops a40_26) .ret))) (.seq (.ops a40_27) (.cond (.t 109) (.seq (.ops a40_28) .ret) .skip)))))))))))) (.seq (.ops a40_29) .ret))))⟩
/-! ### 41: heddle/heddleref13.List (26 slots) -/
def a41_0 : List AOper := [
 ⟨some 3, .box false 6 (.t 1), none⟩,
 ⟨some 4, .alloc [(.int .i64 0), (.int .i64 0), (.str []), (.int .u32 0), .nils, .nils], none⟩]
def a41_1 : List AOper := [
 ⟨some 6, .mv (.t 0), none⟩,
 ⟨some 7, .len false (.t 6), none⟩,
 ⟨some 8, .bin .eql (.t 7) (.c (.int .i64 0)), none⟩]
def a41_2 : List AOper := [
 ⟨some 9, .load true 6 (.t 3), none⟩,
 ⟨none, .store 6 (.t 4) (.t 9), none⟩]
def a41_3 : List AOper := [
 ⟨some 10, .lit true 6 0 [] [], none⟩,
 ⟨some 11, .mv (.t 0), none⟩,
 ⟨some 12, .append 6 88 (.t 10) (.t 11), none⟩,
 ⟨some 5, .mv (.t 12), none⟩]
def a41_4 : List AOper := [
 ⟨some 13, .fieldAddr 0 (.t 3), none⟩,
 ⟨some 14, .load false 1 (.t 13), none⟩,
 ⟨some 15, .bin .eql (.t 14) (.c (.int .i64 7)), none⟩]
def a41_5 : List AOper := [
 ⟨some 16, .mv (.t 5), none⟩,
 ⟨some 17, .fieldAddr 5 (.t 3), none⟩,
 ⟨some 18, .load false 1 (.t 17), none⟩,
 ⟨some 19, .append 6 88 (.t 16) (.t 18), none⟩,
 ⟨some 20, .build [(.int .i64 0), (.int .i64 0), (.str []), (.int .u32 0), .nils, .nils] [(0, 1, (.c (.int .i64 7))), (5, 1, (.t 19))], none⟩,
 ⟨none, .store 6 (.t 4) (.t 20), none⟩]
def a41_6 : List AOper := [
 ⟨some 21, .mv (.t 5), none⟩,
 ⟨some 22, .load true 6 (.t 3), none⟩,
 ⟨some 23, .lit true 6 1 [(.int .i64 0), (.int .i64 0), (.str []), (.int .u32 0), .nils, .nils] [(0, 6, (.t 22))], none⟩,
 ⟨some 24, .append 6 88 (.t 21) (.t 23), none⟩,
 ⟨some 25, .build [(.int .i64 0), (.int .i64 0), (.str []), (.int .u32 0), .nils, .nils] [(0, 1, (.c (.int .i64 7))), (5, 1, (.t 24))], none⟩,
 ⟨none, .store 6 (.t 4) (.t 25), none⟩]
def a41 : AFunc := ⟨[.cell 4 true 6], (.seq (.ops a41_0) (.seq (.seq (.ops a41_1) (.cond (.t 8) (.seq (.ops a41_2) .ret) .skip)) (.seq (.ops a41_3) (.seq (.seq (.ops a41_4) (.cond (.t 15) (.seq (.ops a41_5) .ret) .skip)) (.seq (.ops a41_6) .ret)))))⟩
/-! ### 42: heddle/heddleref13.no (8 slots) -/
def a42_0 : List AOper := [
 ⟨some 4, .mv (.c .nils), none⟩]
def a42_1 : List AOper := [
 ⟨some 5, .mv (.t 0), none⟩,
 ⟨some 6, .mv (.t 1), none⟩,
 ⟨some 7, .call 73 [(.c (.str [98, 105, 102])), (.t 5), (.t 6)], none⟩,
 ⟨some 4, .mv (.t 7), none⟩]
def a42 : AFunc := ⟨[.tmp 4], (.seq (.ops a42_0) (.seq (.ops a42_1) .ret))⟩
/-! ### 43: heddle/heddlemem.Over (20 slots) -/
def a43_0 : List AOper := [
 ⟨some 8, .mv (.c .nils), none⟩]
def a43_1 : List AOper := [
 ⟨some 9, .mv (.c .nils), none⟩]
def a43_2 : List AOper := [
 ⟨some 10, .mv (.t 9), none⟩,
 ⟨some 11, .mv (.t 0), none⟩,
 ⟨some 12, .mv (.t 1), none⟩,
 ⟨some 13, .mv (.t 2), none⟩,
 ⟨some 14, .build [(.str []), (.int .i64 0), (.int .i64 0)] [(0, 1, (.t 11)), (1, 1, (.t 12)), (2, 1, (.t 13))], none⟩,
 ⟨some 15, .lit true 3 1 [(.str []), (.int .i64 0), (.int .i64 0)] [(0, 3, (.t 14))], none⟩,
 ⟨some 16, .append 3 32 (.t 10) (.t 15), none⟩,
 ⟨some 9, .mv (.t 16), none⟩]
def a43_3 : List AOper := [
 ⟨some 17, .mv (.t 9), none⟩,
 ⟨some 18, .mv (.t 3), none⟩,
 ⟨some 19, .append 3 32 (.t 17) (.t 18), none⟩,
 ⟨some 8, .mv (.t 19), none⟩]
def a43 : AFunc := ⟨[.tmp 8], (.seq (.ops a43_0) (.seq (.ops a43_1) (.seq (.ops a43_2) (.seq (.ops a43_3) .ret))))⟩
/-! ### 44: heddle/heddleref13.call (146 slots) -/
def a44_0 : List AOper := [
 ⟨some 4, .alloc [(.int .i64 0), (.int .i64 0), (.str []), (.int .u32 0), .nils, .nils], none⟩,
 ⟨some 5, .mv (.c (.int .i64 0)), none⟩]
def a44_1 : List AOper := [
 ⟨some 6, .mv (.t 0), none⟩]
def a44_2 : List AOper := [
 ⟨some 8, .bin .eql (.t 6) (.c (.str [43])), none⟩,
 ⟨some 7, .mv (.t 8), none⟩]
def a44_3 : List AOper := [
 ⟨some 9, .bin .eql (.t 6) (.c (.str [45])), none⟩,
 ⟨some 7, .mv (.t 9), none⟩]
def a44_4 : List AOper := [
 ⟨some 10, .bin .eql (.t 6) (.c (.str [42])), none⟩,
 ⟨some 7, .mv (.t 10), none⟩]
def a44_5 : List AOper := [
 ⟨some 11, .bin .eql (.t 6) (.c (.str [100, 105, 118])), none⟩,
 ⟨some 7, .mv (.t 11), none⟩]
def a44_6 : List AOper := [
 ⟨some 12, .bin .eql (.t 6) (.c (.str [114, 101, 109])), none⟩,
 ⟨some 7, .mv (.t 12), none⟩]
def a44_7 : List AOper := [
 ⟨some 13, .mv (.t 0), none⟩,
 ⟨some 14, .mv (.t 1), none⟩,
 ⟨some 15, .call 74 [(.t 13), (.t 14)], none⟩,
 ⟨some 16, .extract (.t 15) 0, none⟩,
 ⟨some 17, .extract (.t 15) 1, none⟩,
 ⟨none, .store 6 (.t 4) (.t 16), none⟩,
 ⟨some 5, .mv (.t 17), none⟩]
def a44_8 : List AOper := [
 ⟨some 19, .bin .eql (.t 6) (.c (.str [110, 111, 116])), none⟩,
 ⟨some 18, .mv (.t 19), none⟩]
def a44_9 : List AOper := [
 ⟨some 20, .bin .eql (.t 6) (.c (.str [97, 110, 100])), none⟩,
 ⟨some 18, .mv (.t 20), none⟩]
def a44_10 : List AOper := [
 ⟨some 21, .bin .eql (.t 6) (.c (.str [111, 114])), none⟩,
 ⟨some 18, .mv (.t 21), none⟩]
def a44_11 : List AOper := [
 ⟨some 22, .bin .eql (.t 6) (.c (.str [120, 111, 114])), none⟩,
 ⟨some 18, .mv (.t 22), none⟩]
def a44_12 : List AOper := [
 ⟨some 23, .mv (.t 0), none⟩,
 ⟨some 24, .mv (.t 1), none⟩,
 ⟨some 25, .call 75 [(.t 23), (.t 24)], none⟩,
 ⟨some 26, .extract (.t 25) 0, none⟩,
 ⟨some 27, .extract (.t 25) 1, none⟩,
 ⟨none, .store 6 (.t 4) (.t 26), none⟩,
 ⟨some 5, .mv (.t 27), none⟩]
def a44_13 : List AOper := [
 ⟨some 29, .bin .eql (.t 6) (.c (.str [43, 43])), none⟩,
 ⟨some 28, .mv (.t 29), none⟩]
def a44_14 : List AOper := [
 ⟨some 30, .bin .eql (.t 6) (.c (.str [45, 45])), none⟩,
 ⟨some 28, .mv (.t 30), none⟩]
def a44_15 : List AOper := [
 ⟨some 31, .mv (.t 0), none⟩,
 ⟨some 32, .mv (.t 1), none⟩,
 ⟨some 33, .idxAddr 6 (.t 32) (.c (.int .i64 0)), none⟩,
 ⟨some 34, .load true 6 (.t 33), none⟩,
 ⟨some 35, .mv (.t 1), none⟩,
 ⟨some 36, .idxAddr 6 (.t 35) (.c (.int .i64 1)), none⟩,
 ⟨some 37, .load true 6 (.t 36), none⟩,
 ⟨some 38, .call 76 [(.t 31), (.t 34), (.t 37)], none⟩,
 ⟨some 39, .extract (.t 38) 0, none⟩,
 ⟨some 40, .extract (.t 38) 1, none⟩,
 ⟨none, .store 6 (.t 4) (.t 39), none⟩,
 ⟨some 5, .mv (.t 40), none⟩]
def a44_15b : List Nat := [0, 0, 2, 6, 0, 16, 48, 127, 255, 255, 1023, 2047]
def a44_16 : List AOper := [
 ⟨some 42, .bin .eql (.t 6) (.c (.str [61, 61])), none⟩,
 ⟨some 41, .mv (.t 42), none⟩]
def a44_17 : List AOper := [
 ⟨some 43, .bin .eql (.t 6) (.c (.str [61, 58, 61])), none⟩,
 ⟨some 41, .mv (.t 43), none⟩]
def a44_18 : List AOper := [
 ⟨some 44, .mv (.t 1), none⟩,
 ⟨some 45, .idxAddr 6 (.t 44) (.c (.int .i64 0)), none⟩,
 ⟨some 46, .load true 6 (.t 45), none⟩,
 ⟨some 47, .mv (.t 1), none⟩,
 ⟨some 48, .idxAddr 6 (.t 47) (.c (.int .i64 1)), none⟩,
 ⟨some 49, .load true 6 (.t 48), none⟩,
 ⟨some 50, .call 20 [(.t 46), (.t 49)], none⟩,
 ⟨some 51, .bin .eql (.t 50) (.c (.int .i64 0)), none⟩,
 ⟨some 52, .call 77 [(.t 51)], none⟩,
 ⟨none, .store 6 (.t 4) (.t 52), none⟩,
 ⟨some 5, .mv (.c (.int .i64 0)), none⟩]
def a44_18b : List Nat := [0, 1, 3, 0, 8, 24, 63, 127, 255, 511, 1023]
def a44_19 : List AOper := [
 ⟨some 54, .bin .eql (.t 6) (.c (.str [47, 61])), none⟩,
 ⟨some 53, .mv (.t 54), none⟩]
def a44_20 : List AOper := [
 ⟨some 55, .bin .eql (.t 6) (.c (.str [61, 47, 61])), none⟩,
 ⟨some 53, .mv (.t 55), none⟩]
def a44_21 : List AOper := [
 ⟨some 56, .mv (.t 1), none⟩,
 ⟨some 57, .idxAddr 6 (.t 56) (.c (.int .i64 0)), none⟩,
 ⟨some 58, .load true 6 (.t 57), none⟩,
 ⟨some 59, .mv (.t 1), none⟩,
 ⟨some 60, .idxAddr 6 (.t 59) (.c (.int .i64 1)), none⟩,
 ⟨some 61, .load true 6 (.t 60), none⟩,
 ⟨some 62, .call 20 [(.t 58), (.t 61)], none⟩,
 ⟨some 63, .bin .neq (.t 62) (.c (.int .i64 0)), none⟩,
 ⟨some 64, .call 77 [(.t 63)], none⟩,
 ⟨none, .store 6 (.t 4) (.t 64), none⟩,
 ⟨some 5, .mv (.c (.int .i64 0)), none⟩]
def a44_21b : List Nat := [0, 1, 3, 0, 8, 24, 63, 127, 255, 511, 1023]
def a44_22 : List AOper := [
 ⟨some 66, .bin .eql (.t 6) (.c (.str [61, 60])), none⟩,
 ⟨some 65, .mv (.t 66), none⟩]
def a44_23 : List AOper := [
 ⟨some 67, .mv (.t 1), none⟩,
 ⟨some 68, .idxAddr 6 (.t 67) (.c (.int .i64 0)), none⟩,
 ⟨some 69, .load true 6 (.t 68), none⟩,
 ⟨some 70, .mv (.t 1), none⟩,
 ⟨some 71, .idxAddr 6 (.t 70) (.c (.int .i64 1)), none⟩,
 ⟨some 72, .load true 6 (.t 71), none⟩,
 ⟨some 73, .call 20 [(.t 69), (.t 72)], none⟩,
 ⟨some 74, .bin .leq (.t 73) (.c (.int .i64 0)), none⟩,
 ⟨some 75, .call 77 [(.t 74)], none⟩,
 ⟨none, .store 6 (.t 4) (.t 75), none⟩,
 ⟨some 5, .mv (.c (.int .i64 0)), none⟩]
def a44_23b : List Nat := [0, 1, 3, 0, 8, 24, 63, 127, 255, 511, 1023]
def a44_24 : List AOper := [
 ⟨some 77, .bin .eql (.t 6) (.c (.str [60])), none⟩,
 ⟨some 76, .mv (.t 77), none⟩]
def a44_25 : List AOper := [
 ⟨some 78, .mv (.t 1), none⟩,
 ⟨some 79, .idxAddr 6 (.t 78) (.c (.int .i64 0)), none⟩,
 ⟨some 80, .load true 6 (.t 79), none⟩,
 ⟨some 81, .mv (.t 1), none⟩,
 ⟨some 82, .idxAddr 6 (.t 81) (.c (.int .i64 1)), none⟩,
 ⟨some 83, .load true 6 (.t 82), none⟩,
 ⟨some 84, .call 20 [(.t 80), (.t 83)], none⟩,
 ⟨some 85, .bin .lss (.t 84) (.c (.int .i64 0)), none⟩,
 ⟨some 86, .call 77 [(.t 85)], none⟩,
 ⟨none, .store 6 (.t 4) (.t 86), none⟩,
 ⟨some 5, .mv (.c (.int .i64 0)), none⟩]
def a44_25b : List Nat := [0, 1, 3, 0, 8, 24, 63, 127, 255, 511, 1023]
def a44_26 : List AOper := [
 ⟨some 88, .bin .eql (.t 6) (.c (.str [62, 61])), none⟩,
 ⟨some 87, .mv (.t 88), none⟩]
def a44_27 : List AOper := [
 ⟨some 89, .mv (.t 1), none⟩,
 ⟨some 90, .idxAddr 6 (.t 89) (.c (.int .i64 0)), none⟩,
 ⟨some 91, .load true 6 (.t 90), none⟩,
 ⟨some 92, .mv (.t 1), none⟩,
 ⟨some 93, .idxAddr 6 (.t 92) (.c (.int .i64 1)), none⟩,
 ⟨some 94, .load true 6 (.t 93), none⟩,
 ⟨some 95, .call 20 [(.t 91), (.t 94)], none⟩,
 ⟨some 96, .bin .geq (.t 95) (.c (.int .i64 0)), none⟩,
 ⟨some 97, .call 77 [(.t 96)], none⟩,
 ⟨none, .store 6 (.t 4) (.t 97), none⟩,
 ⟨some 5, .mv (.c (.int .i64 0)), none⟩]
def a44_27b : List Nat := [0, 1, 3, 0, 8, 24, 63, 127, 255, 511, 1023]
def a44_28 : List AOper := [
 ⟨some 99, .bin .eql (.t 6) (.c (.str [62])), none⟩,
 ⟨some 98, .mv (.t 99), none⟩]
def a44_29 : List AOper := [
 ⟨some 100, .mv (.t 1), none⟩,
 ⟨some 101, .idxAddr 6 (.t 100) (.c (.int .i64 0)), none⟩,
 ⟨some 102, .load true 6 (.t 101), none⟩,
 ⟨some 103, .mv (.t 1), none⟩,
 ⟨some 104, .idxAddr 6 (.t 103) (.c (.int .i64 1)), none⟩,
 ⟨some 105, .load true 6 (.t 104), none⟩,
 ⟨some 106, .call 20 [(.t 102), (.t 105)], none⟩,
 ⟨some 107, .bin .gtr (.t 106) (.c (.int .i64 0)), none⟩,
 ⟨some 108, .call 77 [(.t 107)], none⟩,
 ⟨none, .store 6 (.t 4) (.t 108), none⟩,
 ⟨some 5, .mv (.c (.int .i64 0)), none⟩]
def a44_29b : List Nat := [0, 1, 3, 0, 8, 24, 63, 127, 255, 511, 1023]
def a44_30 : List AOper := [
 ⟨some 110, .bin .eql (.t 6) (.c (.str [109, 97, 120])), none⟩,
 ⟨some 109, .mv (.t 110), none⟩]
def a44_31 : List AOper := [
 ⟨some 111, .mv (.t 1), none⟩,
 ⟨some 112, .idxAddr 6 (.t 111) (.c (.int .i64 0)), none⟩,
 ⟨some 113, .load true 6 (.t 112), none⟩,
 ⟨some 114, .mv (.t 1), none⟩,
 ⟨some 115, .idxAddr 6 (.t 114) (.c (.int .i64 1)), none⟩,
 ⟨some 116, .load true 6 (.t 115), none⟩,
 ⟨some 117, .call 20 [(.t 113), (.t 116)], none⟩,
 ⟨some 118, .bin .lss (.t 117) (.c (.int .i64 0)), none⟩]
def a44_31b : List Nat := [0, 1, 3, 0, 8, 24, 63, 127]
def a44_32 : List AOper := [
 ⟨some 119, .mv (.t 1), none⟩,
 ⟨some 120, .idxAddr 6 (.t 119) (.c (.int .i64 1)), none⟩,
 ⟨some 121, .load true 6 (.t 120), none⟩,
 ⟨none, .store 6 (.t 4) (.t 121), none⟩,
 ⟨some 5, .mv (.c (.int .i64 0)), none⟩]
def a44_33 : List AOper := [
 ⟨some 122, .mv (.t 1), none⟩,
 ⟨some 123, .idxAddr 6 (.t 122) (.c (.int .i64 0)), none⟩,
 ⟨some 124, .load true 6 (.t 123), none⟩,
 ⟨none, .store 6 (.t 4) (.t 124), none⟩,
 ⟨some 5, .mv (.c (.int .i64 0)), none⟩]
def a44_34 : List AOper := [
 ⟨some 126, .bin .eql (.t 6) (.c (.str [109, 105, 110])), none⟩,
 ⟨some 125, .mv (.t 126), none⟩]
def a44_35 : List AOper := [
 ⟨some 127, .mv (.t 1), none⟩,
 ⟨some 128, .idxAddr 6 (.t 127) (.c (.int .i64 0)), none⟩,
 ⟨some 129, .load true 6 (.t 128), none⟩,
 ⟨some 130, .mv (.t 1), none⟩,
 ⟨some 131, .idxAddr 6 (.t 130) (.c (.int .i64 1)), none⟩,
 ⟨some 132, .load true 6 (.t 131), none⟩,
 ⟨some 133, .call 20 [(.t 129), (.t 132)], none⟩,
 ⟨some 134, .bin .gtr (.t 133) (.c (.int .i64 0)), none⟩]
def a44_35b : List Nat := [0, 1, 3, 0, 8, 24, 63, 127]
def a44_36 : List AOper := [
 ⟨some 135, .mv (.t 1), none⟩,
 ⟨some 136, .idxAddr 6 (.t 135) (.c (.int .i64 1)), none⟩,
 ⟨some 137, .load true 6 (.t 136), none⟩,
 ⟨none, .store 6 (.t 4) (.t 137), none⟩,
 ⟨some 5, .mv (.c (.int .i64 0)), none⟩]
def a44_37 : List AOper := [
 ⟨some 138, .mv (.t 1), none⟩,
 ⟨some 139, .idxAddr 6 (.t 138) (.c (.int .i64 0)), none⟩,
 ⟨some 140, .load true 6 (.t 139), none⟩,
 ⟨none, .store 6 (.t 4) (.t 140), none⟩,
 ⟨some 5, .mv (.c (.int .i64 0)), none⟩]
def a44_38 : List AOper := [
 ⟨some 141, .mv (.t 0), none⟩,
 ⟨some 142, .mv (.t 1), none⟩,
 ⟨some 143, .call 78 [(.t 141), (.t 142)], none⟩,
 ⟨some 144, .extract (.t 143) 0, none⟩,
 ⟨some 145, .extract (.t 143) 1, none⟩,
 ⟨none, .store 6 (.t 4) (.t 144), none⟩,
 ⟨some 5, .mv (.t 145), none⟩]
def a44 : AFunc := ⟨[.cell 4 true 6, .tmp 5], (.seq (.ops a44_0) (.seq (.seq (.ops a44_1) (.block 0 (.seq (.seq (.ops a44_2) (.cond (.t 7) .skip (.seq (.ops a44_3) (.cond (.t 7) .skip (.seq (.ops a44_4) (.cond (.t 7) .skip (.seq (.ops a44_5) (.cond (.t 7) .skip (.ops a44_6))))))))) (.cond (.t 7) (.seq (.ops a44_7) .ret) (.seq (.seq (.ops a44_8) (.cond (.t 18) .skip (.seq (.ops a44_9) (.cond (.t 18) .skip (.seq (.ops a44_10) (.cond (.t 18) .skip (.ops a44_11))))))) (.cond (.t 18) (.seq (.ops a44_12) .ret) (.seq (.seq (.ops a44_13) (.cond (.t 28) .skip (.ops a44_14))) (.cond (.t 28) (.seq (.draw a44_15 a44_15b) .ret) (.seq (.seq (.ops a44_16) (.cond (.t 41) .skip (.ops a44_17))) (.cond (.t 41) (.seq (.draw a44_18 a44_18b) .ret) (.seq (.seq (.ops a44_19) (.cond (.t 53) .skip (.ops a44_20))) (.cond (.t 53) (.seq (.draw a44_21 a44_21b) .ret) (.seq (.ops a44_22) (.cond (.t 65) (.seq (.draw a44_23 a44_23b) .ret) (.seq (.ops a44_24) (.cond (.t 76) (.seq (.draw a44_25 a44_25b) .ret) (.seq (.ops a44_26) (.cond (.t 87) (.seq (.draw a44_27 a44_27b) .ret) (.seq (.ops a44_28) (.cond (.t 98) (.seq (.draw a44_29 a44_29b) .ret) (.seq (.ops a44_30) (.cond (.t 109) (.seq (.seq (.draw a44_31 a44_31b) (.cond (.t 118) (.seq (.ops a44_32) .ret) .skip)) (.seq (.ops a44_33) .ret)) (.seq (.ops a44_34) (.cond (.t 125) (.seq (.seq (.draw a44_35 a44_35b) (.cond (.t 134) (.seq (.ops a44_36) .ret) .skip)) (.seq (.ops a44_37) .ret)) .skip)))))))))))))))))))))))) (.seq (.ops a44_38) .ret)))⟩
/-! ### 45: heddle/heddlemem.Chain (44 slots) -/
def a45_0 : List AOper := [
 ⟨some 2, .mv (.c .nils), none⟩]
def a45_1 : List AOper := [
 ⟨some 3, .mv (.c .nils), none⟩]
def a45_2 : List AOper := [
 ⟨some 4, .mv (.c (.int .i64 0)), none⟩]
def a45_3 : List AOper := [
 ⟨some 6, .mv (.t 4), none⟩,
 ⟨some 7, .bin .lss (.t 6) (.c (.int .i64 16)), none⟩,
 ⟨some 8, .mv (.t 7), none⟩,
 ⟨some 9, .mv (.t 0), some (8, true)⟩,
 ⟨some 10, .eq true (.iface true) (.t 9) (.c .nili), some (8, true)⟩,
 ⟨some 11, .pick (.t 8) (.t 10) (.c (.bool false)), none⟩]
def a45_4 : List AOper := [
 ⟨some 5, .alloc [.nilp], none⟩]
def a45_5 : List AOper := [
 ⟨some 14, .mv (.t 0), none⟩,
 ⟨some 15, .mkIface 71 (.t 5), none⟩,
 ⟨some 16, .call 37 [(.t 14), (.t 15)], none⟩,
 ⟨some 17, .un .not (.t 16), none⟩,
 ⟨some 18, .mv (.t 17), none⟩,
 ⟨some 19, .load false 1 (.t 5), some (18, false)⟩,
 ⟨some 20, .eq false .ptr (.t 19) (.c .nilp), some (18, false)⟩,
 ⟨some 21, .pick (.t 18) (.c (.bool true)) (.t 20), none⟩]
def a45_6 : List AOper := [
 ⟨some 22, .mv (.t 3), none⟩,
 ⟨some 2, .mv (.t 22), none⟩]
def a45_7 : List AOper := [
 ⟨some 23, .mv (.t 3), none⟩,
 ⟨some 24, .load false 1 (.t 5), none⟩,
 ⟨some 25, .nilCheck (.t 24), none⟩,
 ⟨some 26, .fieldAddr 0 (.t 25), none⟩,
 ⟨some 27, .load false 1 (.t 26), none⟩,
 ⟨some 28, .load false 1 (.t 5), none⟩,
 ⟨some 29, .nilCheck (.t 28), none⟩,
 ⟨some 30, .fieldAddr 1 (.t 29), none⟩,
 ⟨some 31, .load false 1 (.t 30), none⟩,
 ⟨some 32, .load false 1 (.t 5), none⟩,
 ⟨some 33, .nilCheck (.t 32), none⟩,
 ⟨some 34, .fieldAddr 2 (.t 33), none⟩,
 ⟨some 35, .load false 1 (.t 34), none⟩,
 ⟨some 36, .build [(.str []), (.int .i64 0), (.int .i64 0)] [(0, 1, (.t 27)), (1, 1, (.t 31)), (2, 1, (.t 35))], none⟩,
 ⟨some 37, .lit true 3 1 [(.str []), (.int .i64 0), (.int .i64 0)] [(0, 3, (.t 36))], none⟩,
 ⟨some 38, .append 3 32 (.t 23) (.t 37), none⟩,
 ⟨some 3, .mv (.t 38), none⟩]
def a45_7b : List Nat := [0, 0, 2, 6, 14, 0, 32, 96, 224, 0, 512, 1536, 3584, 8190, 16382, 32767, 65535]
def a45_8 : List AOper := [
 ⟨some 39, .load false 1 (.t 5), none⟩,
 ⟨some 40, .nilCheck (.t 39), none⟩,
 ⟨some 41, .fieldAddr 3 (.t 40), none⟩,
 ⟨some 42, .load false 1 (.t 41), none⟩,
 ⟨some 0, .mv (.t 42), none⟩]
def a45_9 : List AOper := [
 ⟨some 12, .mv (.t 4), none⟩,
 ⟨some 13, .bin .add (.t 12) (.c (.int .i64 1)), none⟩,
 ⟨some 4, .mv (.t 13), none⟩]
def a45_l10 : AC := (.seq (.seq (.ops a45_3) (.cond (.t 11) .skip (.exit 0))) (.seq (.block 1 (.seq (.ops a45_4) (.seq (.seq (.ops a45_5) (.cond (.t 21) (.seq (.ops a45_6) .ret) .skip)) (.seq (.draw a45_7 a45_7b) (.ops a45_8))))) (.ops a45_9)))
def a45_11 : List AOper := [
 ⟨some 43, .mv (.t 3), none⟩,
 ⟨some 2, .mv (.t 43), none⟩]
def a45 : AFunc := ⟨[.tmp 2], (.seq (.ops a45_0) (.seq (.ops a45_1) (.seq (.seq (.ops a45_2) (.block 0 (.loop a45_l10))) (.seq (.ops a45_11) .ret))))⟩
/-! ### 47: strings.Fields (106 slots) -/
def a47_0 : List AOper := [
 ⟨some 2, .mv (.c .nils), none⟩]
def a47_1 : List AOper := [
 ⟨some 3, .mv (.c (.int .i64 0)), none⟩]
def a47_2 : List AOper := [
 ⟨some 4, .mv (.c (.int .i64 1)), none⟩]
def a47_3 : List AOper := [
 ⟨some 5, .mv (.c (.int .u8 0)), none⟩]
def a47_4 : List AOper := [
 ⟨some 6, .mv (.c (.int .i64 0)), none⟩]
def a47_5 : List AOper := [
 ⟨some 13, .mv (.t 6), none⟩,
 ⟨some 14, .mv (.t 0), none⟩,
 ⟨some 15, .len true (.t 14), none⟩,
 ⟨some 16, .bin .lss (.t 13) (.t 15), none⟩]
def a47_6 : List AOper := [
 ⟨some 19, .mv (.t 0), none⟩,
 ⟨some 20, .mv (.t 6), none⟩,
 ⟨some 21, .idxStr (.t 19) (.t 20), none⟩,
 ⟨some 7, .mv (.t 21), none⟩]
def a47_7 : List AOper := [
 ⟨some 22, .mv (.t 5), none⟩,
 ⟨some 23, .mv (.t 7), none⟩,
 ⟨some 24, .bin .or (.t 22) (.t 23), none⟩,
 ⟨some 5, .mv (.t 24), none⟩]
def a47_8 : List AOper := [
 ⟨some 25, .mv (.t 7), none⟩,
 ⟨some 26, .idxAddrArr 1 256 (.g 1) (.t 25), none⟩,
 ⟨some 27, .load false 1 (.t 26), none⟩,
 ⟨some 28, .conv (.int .i64) (.t 27), none⟩,
 ⟨some 8, .mv (.t 28), none⟩]
def a47_9 : List AOper := [
 ⟨some 29, .mv (.t 3), none⟩,
 ⟨some 30, .mv (.t 4), none⟩,
 ⟨some 31, .mv (.t 8), none⟩,
 ⟨some 32, .un .xor (.t 31), none⟩,
 ⟨some 33, .bin .and (.t 30) (.t 32), none⟩,
 ⟨some 34, .bin .add (.t 29) (.t 33), none⟩,
 ⟨some 3, .mv (.t 34), none⟩]
def a47_10 : List AOper := [
 ⟨some 35, .mv (.t 8), none⟩,
 ⟨some 4, .mv (.t 35), none⟩]
def a47_11 : List AOper := [
 ⟨some 17, .mv (.t 6), none⟩,
 ⟨some 18, .bin .add (.t 17) (.c (.int .i64 1)), none⟩,
 ⟨some 6, .mv (.t 18), none⟩]
def a47_l12 : AC := (.seq (.seq (.ops a47_5) (.cond (.t 16) .skip (.exit 0))) (.seq (.block 1 (.seq (.ops a47_6) (.seq (.ops a47_7) (.seq (.ops a47_8) (.seq (.ops a47_9) (.ops a47_10)))))) (.ops a47_11)))
def a47_13 : List AOper := [
 ⟨some 36, .mv (.t 5), none⟩,
 ⟨some 37, .bin .geq (.t 36) (.c (.int .u8 128)), none⟩]
def a47_14 : List AOper := [
 ⟨some 38, .mv (.t 0), none⟩,
 ⟨some 39, .call 81 [(.t 38), (.c (.fn (.func 82) [] []))], none⟩,
 ⟨some 2, .mv (.t 39), none⟩]
def a47_15 : List AOper := [
 ⟨some 40, .mv (.t 3), none⟩,
 ⟨some 41, .makeSlice 1 16 [(.str [])] (.t 40) (.t 40), none⟩,
 ⟨some 9, .mv (.t 41), none⟩]
def a47_16 : List AOper := [
 ⟨some 10, .mv (.c (.int .i64 0)), none⟩]
def a47_17 : List AOper := [
 ⟨some 11, .mv (.c (.int .i64 0)), none⟩]
def a47_18 : List AOper := [
 ⟨some 12, .mv (.c (.int .i64 0)), none⟩]
def a47_19 : List AOper := [
 ⟨some 42, .mv (.t 12), none⟩,
 ⟨some 43, .mv (.t 0), none⟩,
 ⟨some 44, .len true (.t 43), none⟩,
 ⟨some 45, .bin .lss (.t 42) (.t 44), none⟩,
 ⟨some 46, .mv (.t 45), none⟩,
 ⟨some 47, .mv (.t 0), some (46, true)⟩,
 ⟨some 48, .mv (.t 12), some (46, true)⟩,
 ⟨some 49, .idxStr (.t 47) (.t 48), some (46, true)⟩,
 ⟨some 50, .idxAddrArr 1 256 (.g 1) (.t 49), some (46, true)⟩,
 ⟨some 51, .load false 1 (.t 50), some (46, true)⟩,
 ⟨some 52, .bin .neq (.t 51) (.c (.int .u8 0)), some (46, true)⟩,
 ⟨some 53, .pick (.t 46) (.t 52) (.c (.bool false)), none⟩]
def a47_20 : List AOper := [
 ⟨some 54, .mv (.t 12), none⟩,
 ⟨some 55, .bin .add (.t 54) (.c (.int .i64 1)), none⟩,
 ⟨some 12, .mv (.t 55), none⟩]
def a47_l21 : AC := (.seq (.seq (.ops a47_19) (.cond (.t 53) .skip (.exit 2))) (.block 3 (.ops a47_20)))
def a47_22 : List AOper := [
 ⟨some 56, .mv (.t 12), none⟩,
 ⟨some 11, .mv (.t 56), none⟩]
def a47_23 : List AOper := [
 ⟨some 57, .mv (.t 12), none⟩,
 ⟨some 58, .mv (.t 0), none⟩,
 ⟨some 59, .len true (.t 58), none⟩,
 ⟨some 60, .bin .lss (.t 57) (.t 59), none⟩]
def a47_24 : List AOper := [
 ⟨some 61, .mv (.t 0), none⟩,
 ⟨some 62, .mv (.t 12), none⟩,
 ⟨some 63, .idxStr (.t 61) (.t 62), none⟩,
 ⟨some 64, .idxAddrArr 1 256 (.g 1) (.t 63), none⟩,
 ⟨some 65, .load false 1 (.t 64), none⟩,
 ⟨some 66, .bin .eql (.t 65) (.c (.int .u8 0)), none⟩]
def a47_25 : List AOper := [
 ⟨some 67, .mv (.t 12), none⟩,
 ⟨some 68, .bin .add (.t 67) (.c (.int .i64 1)), none⟩,
 ⟨some 12, .mv (.t 68), none⟩]
def a47_26 : List AOper := [
 ⟨some 69, .mv (.t 9), none⟩,
 ⟨some 70, .mv (.t 10), none⟩,
 ⟨some 71, .mv (.t 0), none⟩,
 ⟨some 72, .mv (.t 11), none⟩,
 ⟨some 73, .mv (.t 12), none⟩,
 ⟨some 74, .sliceStr (.t 71) (some (.t 72)) (some (.t 73)), none⟩,
 ⟨some 75, .idxAddr 1 (.t 69) (.t 70), none⟩,
 ⟨none, .store 1 (.t 75) (.t 74), none⟩]
def a47_27 : List AOper := [
 ⟨some 76, .mv (.t 10), none⟩,
 ⟨some 77, .bin .add (.t 76) (.c (.int .i64 1)), none⟩,
 ⟨some 10, .mv (.t 77), none⟩]
def a47_28 : List AOper := [
 ⟨some 78, .mv (.t 12), none⟩,
 ⟨some 79, .bin .add (.t 78) (.c (.int .i64 1)), none⟩,
 ⟨some 12, .mv (.t 79), none⟩]
def a47_29 : List AOper := [
 ⟨some 80, .mv (.t 12), none⟩,
 ⟨some 81, .mv (.t 0), none⟩,
 ⟨some 82, .len true (.t 81), none⟩,
 ⟨some 83, .bin .lss (.t 80) (.t 82), none⟩,
 ⟨some 84, .mv (.t 83), none⟩,
 ⟨some 85, .mv (.t 0), some (84, true)⟩,
 ⟨some 86, .mv (.t 12), some (84, true)⟩,
 ⟨some 87, .idxStr (.t 85) (.t 86), some (84, true)⟩,
 ⟨some 88, .idxAddrArr 1 256 (.g 1) (.t 87), some (84, true)⟩,
 ⟨some 89, .load false 1 (.t 88), some (84, true)⟩,
 ⟨some 90, .bin .neq (.t 89) (.c (.int .u8 0)), some (84, true)⟩,
 ⟨some 91, .pick (.t 84) (.t 90) (.c (.bool false)), none⟩]
def a47_30 : List AOper := [
 ⟨some 92, .mv (.t 12), none⟩,
 ⟨some 93, .bin .add (.t 92) (.c (.int .i64 1)), none⟩,
 ⟨some 12, .mv (.t 93), none⟩]
def a47_l31 : AC := (.seq (.seq (.ops a47_29) (.cond (.t 91) .skip (.exit 6))) (.block 7 (.ops a47_30)))
def a47_32 : List AOper := [
 ⟨some 94, .mv (.t 12), none⟩,
 ⟨some 11, .mv (.t 94), none⟩]
def a47_l33 : AC := (.seq (.seq (.ops a47_23) (.cond (.t 60) .skip (.exit 4))) (.block 5 (.seq (.seq (.ops a47_24) (.cond (.t 66) (.seq (.ops a47_25) (.exit 5)) .skip)) (.seq (.ops a47_26) (.seq (.ops a47_27) (.seq (.ops a47_28) (.seq (.block 6 (.loop a47_l31)) (.ops a47_32))))))))
def a47_34 : List AOper := [
 ⟨some 95, .mv (.t 11), none⟩,
 ⟨some 96, .mv (.t 0), none⟩,
 ⟨some 97, .len true (.t 96), none⟩,
 ⟨some 98, .bin .lss (.t 95) (.t 97), none⟩]
def a47_35 : List AOper := [
 ⟨some 99, .mv (.t 9), none⟩,
 ⟨some 100, .mv (.t 10), none⟩,
 ⟨some 101, .mv (.t 0), none⟩,
 ⟨some 102, .mv (.t 11), none⟩,
 ⟨some 103, .sliceStr (.t 101) (some (.t 102)) none, none⟩,
 ⟨some 104, .idxAddr 1 (.t 99) (.t 100), none⟩,
 ⟨none, .store 1 (.t 104) (.t 103), none⟩]
def a47_36 : List AOper := [
 ⟨some 105, .mv (.t 9), none⟩,
 ⟨some 2, .mv (.t 105), none⟩]
def a47 : AFunc := ⟨[.tmp 2], (.seq (.ops a47_0) (.seq (.ops a47_1) (.seq (.ops a47_2) (.seq (.ops a47_3) (.seq (.seq (.ops a47_4) (.block 0 (.loop a47_l12))) (.seq (.seq (.ops a47_13) (.cond (.t 37) (.seq (.ops a47_14) .ret) .skip)) (.seq (.ops a47_15) (.seq (.ops a47_16) (.seq (.ops a47_17) (.seq (.ops a47_18) (.seq (.block 2 (.loop a47_l21)) (.seq (.ops a47_22) (.seq (.block 4 (.loop a47_l33)) (.seq (.seq (.ops a47_34) (.cond (.t 98) (.ops a47_35) .skip)) (.seq (.ops a47_36) .ret)))))))))))))))⟩
/-! ### 48: heddle/heddleref02.no (8 slots) -/
def a48_0 : List AOper := [
 ⟨some 4, .mv (.c .nils), none⟩]
def a48_1 : List AOper := [
 ⟨some 5, .mv (.t 0), none⟩,
 ⟨some 6, .mv (.t 1), none⟩,
 ⟨some 7, .call 73 [(.c (.str [116, 101, 114, 109])), (.t 5), (.t 6)], none⟩,
 ⟨some 4, .mv (.t 7), none⟩]
def a48 : AFunc := ⟨[.tmp 4], (.seq (.ops a48_0) (.seq (.ops a48_1) .ret))⟩
/-! ### 49: heddle/heddleref02.form (63 slots) -/
def a49_0 : List AOper := [
 ⟨some 1, .box false 6 (.t 0), none⟩,
 ⟨some 2, .mv (.c (.bool false)), none⟩]
def a49_1 : List AOper := [
 ⟨some 4, .fieldAddr 0 (.t 1), none⟩,
 ⟨some 5, .load false 1 (.t 4), none⟩]
def a49_2 : List AOper := [
 ⟨some 7, .bin .eql (.t 5) (.c (.int .i64 1)), none⟩,
 ⟨some 6, .mv (.t 7), none⟩]
def a49_3 : List AOper := [
 ⟨some 8, .load true 6 (.t 1), none⟩,
 ⟨some 9, .call 83 [(.t 8), (.c (.str [105]))], none⟩,
 ⟨some 2, .mv (.t 9), none⟩]
def a49_4 : List AOper := [
 ⟨some 11, .bin .eql (.t 5) (.c (.int .i64 2)), none⟩,
 ⟨some 10, .mv (.t 11), none⟩]
def a49_5 : List AOper := [
 ⟨some 12, .load true 6 (.t 1), none⟩,
 ⟨some 13, .call 83 [(.t 12), (.c (.str [115]))], none⟩,
 ⟨some 2, .mv (.t 13), none⟩]
def a49_6 : List AOper := [
 ⟨some 15, .bin .eql (.t 5) (.c (.int .i64 3)), none⟩,
 ⟨some 14, .mv (.t 15), none⟩]
def a49_7 : List AOper := [
 ⟨some 16, .load true 6 (.t 1), none⟩,
 ⟨some 17, .call 83 [(.t 16), (.c (.str [115, 99, 110]))], none⟩,
 ⟨some 18, .mv (.t 17), none⟩,
 ⟨some 19, .fieldAddr 4 (.t 1), some (18, true)⟩,
 ⟨some 20, .load false 1 (.t 19), some (18, true)⟩,
 ⟨some 21, .len false (.t 20), some (18, true)⟩,
 ⟨some 22, .bin .eql (.t 21) (.c (.int .i64 3)), some (18, true)⟩,
 ⟨some 23, .pick (.t 18) (.t 22) (.c (.bool false)), none⟩,
 ⟨some 2, .mv (.t 23), none⟩]
def a49_8 : List AOper := [
 ⟨some 25, .bin .eql (.t 5) (.c (.int .i64 4)), none⟩,
 ⟨some 24, .mv (.t 25), none⟩]
def a49_9 : List AOper := [
 ⟨some 26, .load true 6 (.t 1), none⟩,
 ⟨some 27, .call 83 [(.t 26), (.c (.str [115, 99, 110]))], none⟩,
 ⟨some 28, .mv (.t 27), none⟩,
 ⟨some 29, .fieldAddr 4 (.t 1), some (28, true)⟩,
 ⟨some 30, .load false 1 (.t 29), some (28, true)⟩,
 ⟨some 31, .len false (.t 30), some (28, true)⟩,
 ⟨some 32, .bin .eql (.t 31) (.c (.int .i64 2)), some (28, true)⟩,
 ⟨some 33, .pick (.t 28) (.t 32) (.c (.bool false)), none⟩,
 ⟨some 2, .mv (.t 33), none⟩]
def a49_10 : List AOper := [
 ⟨some 35, .bin .eql (.t 5) (.c (.int .i64 5)), none⟩,
 ⟨some 34, .mv (.t 35), none⟩]
def a49_11 : List AOper := [
 ⟨some 36, .load true 6 (.t 1), none⟩,
 ⟨some 37, .call 83 [(.t 36), (.c (.str [97]))], none⟩,
 ⟨some 2, .mv (.t 37), none⟩]
def a49_12 : List AOper := [
 ⟨some 39, .bin .eql (.t 5) (.c (.int .i64 6)), none⟩,
 ⟨some 38, .mv (.t 39), none⟩]
def a49_13 : List AOper := [
 ⟨some 40, .load true 6 (.t 1), none⟩,
 ⟨some 41, .call 83 [(.t 40), (.c (.str []))], none⟩,
 ⟨some 2, .mv (.t 41), none⟩]
def a49_14 : List AOper := [
 ⟨some 43, .bin .eql (.t 5) (.c (.int .i64 7)), none⟩,
 ⟨some 42, .mv (.t 43), none⟩]
def a49_15 : List AOper := [
 ⟨some 44, .fieldAddr 5 (.t 1), none⟩,
 ⟨some 45, .load false 1 (.t 44), none⟩,
 ⟨some 46, .len false (.t 45), none⟩,
 ⟨some 3, .mv (.t 46), none⟩]
def a49_16 : List AOper := [
 ⟨some 47, .load true 6 (.t 1), none⟩,
 ⟨some 48, .call 83 [(.t 47), (.c (.str [97]))], none⟩,
 ⟨some 49, .mv (.t 48), none⟩,
 ⟨some 50, .mv (.t 3), some (49, true)⟩,
 ⟨some 51, .bin .geq (.t 50) (.c (.int .i64 2)), some (49, true)⟩,
 ⟨some 52, .pick (.t 49) (.t 51) (.c (.bool false)), none⟩,
 ⟨some 53, .mv (.t 52), none⟩,
 ⟨some 54, .fieldAddr 5 (.t 1), some (53, true)⟩,
 ⟨some 55, .load false 1 (.t 54), some (53, true)⟩,
 ⟨some 56, .mv (.t 3), some (53, true)⟩,
 ⟨some 57, .bin .sub (.t 56) (.c (.int .i64 1)), some (53, true)⟩,
 ⟨some 58, .idxAddr 6 (.t 55) (.t 57), some (53, true)⟩,
 ⟨some 59, .fieldAddr 0 (.t 58), some (53, true)⟩,
 ⟨some 60, .load false 1 (.t 59), some (53, true)⟩,
 ⟨some 61, .bin .neq (.t 60) (.c (.int .i64 7)), some (53, true)⟩,
 ⟨some 62, .pick (.t 53) (.t 61) (.c (.bool false)), none⟩,
 ⟨some 2, .mv (.t 62), none⟩]
def a49_17 : List AOper := [
 ⟨some 2, .mv (.c (.bool false)), none⟩]
def a49 : AFunc := ⟨[.tmp 2], (.seq (.ops a49_0) (.seq (.seq (.ops a49_1) (.block 0 (.seq (.ops a49_2) (.cond (.t 6) (.seq (.ops a49_3) .ret) (.seq (.ops a49_4) (.cond (.t 10) (.seq (.ops a49_5) .ret) (.seq (.ops a49_6) (.cond (.t 14) (.seq (.ops a49_7) .ret) (.seq (.ops a49_8) (.cond (.t 24) (.seq (.ops a49_9) .ret) (.seq (.ops a49_10) (.cond (.t 34) (.seq (.ops a49_11) .ret) (.seq (.ops a49_12) (.cond (.t 38) (.seq (.ops a49_13) .ret) (.seq (.ops a49_14) (.cond (.t 42) (.seq (.ops a49_15) (.seq (.ops a49_16) .ret)) .skip)))))))))))))))) (.seq (.ops a49_17) .ret)))⟩
/-! ### 50: heddle/heddleref01.Quote (84 slots) -/
def a50_0 : List AOper := [
 ⟨some 2, .mv (.c (.str [])), none⟩,
 ⟨some 3, .mv (.c .nils), none⟩]
def a50_1 : List AOper := [
 ⟨some 8, .mv (.t 0), none⟩,
 ⟨some 9, .len true (.t 8), none⟩,
 ⟨some 10, .bin .gtr (.t 9) (.c (.int .i64 255)), none⟩]
def a50_2 : List AOper := [
 ⟨some 11, .call 84 [(.c (.int .i64 0)), (.c (.int .i64 4))], none⟩,
 ⟨some 2, .mv (.c (.str [])), none⟩,
 ⟨some 3, .mv (.t 11), none⟩]
def a50_3 : List AOper := [
 ⟨some 12, .mv (.t 0), none⟩,
 ⟨some 13, .call 85 [(.t 12)], none⟩,
 ⟨some 4, .mv (.t 13), none⟩]
def a50_4 : List AOper := [
 ⟨some 14, .mv (.t 4), none⟩,
 ⟨some 15, .bin .geq (.t 14) (.c (.int .i64 0)), none⟩]
def a50_5 : List AOper := [
 ⟨some 16, .mv (.t 4), none⟩,
 ⟨some 17, .call 84 [(.t 16), (.c (.int .i64 23))], none⟩,
 ⟨some 2, .mv (.c (.str [])), none⟩,
 ⟨some 3, .mv (.t 17), none⟩]
def a50_6 : List AOper := [
 ⟨some 18, .mv (.t 0), none⟩,
 ⟨some 19, .call 86 [(.t 18)], none⟩]
def a50_7 : List AOper := [
 ⟨some 20, .mv (.t 0), none⟩,
 ⟨some 2, .mv (.t 20), none⟩,
 ⟨some 3, .mv (.c .nils), none⟩]
def a50_8 : List AOper := [
 ⟨some 21, .lit true 1 1 [(.int .u8 0)] [(0, 1, (.c (.int .u8 39)))], none⟩,
 ⟨some 5, .mv (.t 21), none⟩]
def a50_9 : List AOper := [
 ⟨some 6, .mv (.c (.int .i64 0)), none⟩]
def a50_10 : List AOper := [
 ⟨some 22, .mv (.t 6), none⟩,
 ⟨some 23, .mv (.t 0), none⟩,
 ⟨some 24, .len true (.t 23), none⟩,
 ⟨some 25, .bin .lss (.t 22) (.t 24), none⟩]
def a50_11 : List AOper := [
 ⟨some 28, .mv (.t 0), none⟩,
 ⟨some 29, .mv (.t 6), none⟩,
 ⟨some 30, .idxStr (.t 28) (.t 29), none⟩,
 ⟨some 7, .mv (.t 30), none⟩]
def a50_12 : List AOper := [
 ⟨some 36, .mv (.t 7), none⟩,
 ⟨some 37, .bin .eql (.t 36) (.c (.int .u8 39)), none⟩,
 ⟨some 38, .mv (.t 37), none⟩,
 ⟨some 39, .mv (.t 7), some (38, false)⟩,
 ⟨some 40, .bin .eql (.t 39) (.c (.int .u8 92)), some (38, false)⟩,
 ⟨some 41, .pick (.t 38) (.c (.bool true)) (.t 40), none⟩,
 ⟨some 35, .mv (.t 41), none⟩]
def a50_13 : List AOper := [
 ⟨some 42, .mv (.t 5), none⟩,
 ⟨some 43, .mv (.t 7), none⟩,
 ⟨some 44, .lit true 1 2 [(.int .u8 0), (.int .u8 0)] [(0, 1, (.c (.int .u8 92))), (1, 1, (.t 43))], none⟩,
 ⟨some 45, .append 1 1 (.t 42) (.t 44), none⟩,
 ⟨some 5, .mv (.t 45), none⟩]
def a50_14 : List AOper := [
 ⟨some 47, .mv (.t 7), none⟩,
 ⟨some 48, .bin .eql (.t 47) (.c (.int .u8 10)), none⟩,
 ⟨some 46, .mv (.t 48), none⟩]
def a50_15 : List AOper := [
 ⟨some 49, .mv (.t 5), none⟩,
 ⟨some 50, .lit true 1 2 [(.int .u8 0), (.int .u8 0)] [(0, 1, (.c (.int .u8 92))), (1, 1, (.c (.int .u8 110)))], none⟩,
 ⟨some 51, .append 1 1 (.t 49) (.t 50), none⟩,
 ⟨some 5, .mv (.t 51), none⟩]
def a50_16 : List AOper := [
 ⟨some 53, .mv (.t 7), none⟩,
 ⟨some 54, .bin .eql (.t 53) (.c (.int .u8 9)), none⟩,
 ⟨some 52, .mv (.t 54), none⟩]
def a50_17 : List AOper := [
 ⟨some 55, .mv (.t 5), none⟩,
 ⟨some 56, .lit true 1 2 [(.int .u8 0), (.int .u8 0)] [(0, 1, (.c (.int .u8 92))), (1, 1, (.c (.int .u8 116)))], none⟩,
 ⟨some 57, .append 1 1 (.t 55) (.t 56), none⟩,
 ⟨some 5, .mv (.t 57), none⟩]
def a50_18 : List AOper := [
 ⟨some 59, .mv (.t 7), none⟩,
 ⟨some 60, .bin .eql (.t 59) (.c (.int .u8 13)), none⟩,
 ⟨some 58, .mv (.t 60), none⟩]
def a50_19 : List AOper := [
 ⟨some 61, .mv (.t 5), none⟩,
 ⟨some 62, .lit true 1 2 [(.int .u8 0), (.int .u8 0)] [(0, 1, (.c (.int .u8 92))), (1, 1, (.c (.int .u8 114)))], none⟩,
 ⟨some 63, .append 1 1 (.t 61) (.t 62), none⟩,
 ⟨some 5, .mv (.t 63), none⟩]
def a50_20 : List AOper := [
 ⟨some 65, .mv (.t 7), none⟩,
 ⟨some 66, .bin .lss (.t 65) (.c (.int .u8 32)), none⟩,
 ⟨some 67, .mv (.t 66), none⟩,
 ⟨some 68, .mv (.t 7), some (67, false)⟩,
 ⟨some 69, .bin .eql (.t 68) (.c (.int .u8 127)), some (67, false)⟩,
 ⟨some 70, .pick (.t 67) (.c (.bool true)) (.t 69), none⟩,
 ⟨some 64, .mv (.t 70), none⟩]
def a50_21 : List AOper := [
 ⟨some 71, .mv (.t 5), none⟩,
 ⟨some 72, .mv (.t 7), none⟩,
 ⟨some 73, .bin .quo (.t 72) (.c (.int .u8 16)), none⟩,
 ⟨some 74, .idxStr (.c (.str [48, 49, 50, 51, 52, 53, 54, 55, 56, 57, 97, 98, 99, 100, 101, 102])) (.t 73), none⟩,
 ⟨some 75, .mv (.t 7), none⟩,
 ⟨some 76, .bin .rem (.t 75) (.c (.int .u8 16)), none⟩,
 ⟨some 77, .idxStr (.c (.str [48, 49, 50, 51, 52, 53, 54, 55, 56, 57, 97, 98, 99, 100, 101, 102])) (.t 76), none⟩,
 ⟨some 78, .lit true 1 4 [(.int .u8 0), (.int .u8 0), (.int .u8 0), (.int .u8 0)] [(0, 1, (.c (.int .u8 92))), (1, 1, (.c (.int .u8 120))), (2, 1, (.t 74)), (3, 1, (.t 77))], none⟩,
 ⟨some 79, .append 1 1 (.t 71) (.t 78), none⟩,
 ⟨some 5, .mv (.t 79), none⟩]
def a50_21b : List Nat := [0, 0, 2, 6, 0, 16, 48, 126, 255, 511]
def a50_22 : List AOper := [
 ⟨some 31, .mv (.t 5), none⟩,
 ⟨some 32, .mv (.t 7), none⟩,
 ⟨some 33, .lit true 1 1 [(.int .u8 0)] [(0, 1, (.t 32))], none⟩,
 ⟨some 34, .append 1 1 (.t 31) (.t 33), none⟩,
 ⟨some 5, .mv (.t 34), none⟩]
def a50_23 : List AOper := [
 ⟨some 26, .mv (.t 6), none⟩,
 ⟨some 27, .bin .add (.t 26) (.c (.int .i64 1)), none⟩,
 ⟨some 6, .mv (.t 27), none⟩]
def a50_l24 : AC := (.seq (.seq (.ops a50_10) (.cond (.t 25) .skip (.exit 0))) (.seq (.block 1 (.seq (.ops a50_11) (.block 2 (.seq (.ops a50_12) (.cond (.t 35) (.ops a50_13) (.seq (.ops a50_14) (.cond (.t 46) (.ops a50_15) (.seq (.ops a50_16) (.cond (.t 52) (.ops a50_17) (.seq (.ops a50_18) (.cond (.t 58) (.ops a50_19) (.seq (.ops a50_20) (.cond (.t 64) (.draw a50_21 a50_21b) (.ops a50_22)))))))))))))) (.ops a50_23)))
def a50_25 : List AOper := [
 ⟨some 80, .mv (.t 5), none⟩,
 ⟨some 81, .lit true 1 1 [(.int .u8 0)] [(0, 1, (.c (.int .u8 39)))], none⟩,
 ⟨some 82, .append 1 1 (.t 80) (.t 81), none⟩,
 ⟨some 83, .conv .b2s (.t 82), none⟩,
 ⟨some 2, .mv (.t 83), none⟩,
 ⟨some 3, .mv (.c .nils), none⟩]
def a50 : AFunc := ⟨[.tmp 2, .tmp 3], (.seq (.ops a50_0) (.seq (.seq (.ops a50_1) (.cond (.t 10) (.seq (.ops a50_2) .ret) .skip)) (.seq (.ops a50_3) (.seq (.seq (.ops a50_4) (.cond (.t 15) (.seq (.ops a50_5) .ret) .skip)) (.seq (.seq (.ops a50_6) (.cond (.t 19) (.seq (.ops a50_7) .ret) .skip)) (.seq (.ops a50_8) (.seq (.seq (.ops a50_9) (.block 0 (.loop a50_l24))) (.seq (.ops a50_25) .ret))))))))⟩
/-! ### 51: heddle/heddleref02.over (12 slots) -/
def a51_0 : List AOper := [
 ⟨some 4, .mv (.c .nils), none⟩]
def a51_1 : List AOper := [
 ⟨some 5, .mv (.t 0), none⟩,
 ⟨some 6, .mv (.t 1), none⟩,
 ⟨some 7, .idxAddr 3 (.t 6) (.c (.int .i64 0)), none⟩,
 ⟨some 8, .fieldAddr 2 (.t 7), none⟩,
 ⟨some 9, .load false 1 (.t 8), none⟩,
 ⟨some 10, .mv (.t 1), none⟩,
 ⟨some 11, .call 43 [(.c (.str [116, 101, 114, 109])), (.t 5), (.t 9), (.t 10)], none⟩,
 ⟨some 4, .mv (.t 11), none⟩]
def a51 : AFunc := ⟨[.tmp 4], (.seq (.ops a51_0) (.seq (.ops a51_1) .ret))⟩
/-! ### 52: heddle/heddleref01.Node (72 slots) -/
def a52_0 : List AOper := [
 ⟨some 2, .mv (.c (.str [])), none⟩,
 ⟨some 3, .mv (.c (.str [])), none⟩,
 ⟨some 4, .mv (.c .nils), none⟩]
def a52_1 : List AOper := [
 ⟨some 5, .mv (.c (.int .i64 (-1))), none⟩]
def a52_2 : List AOper := [
 ⟨some 9, .mv (.t 0), none⟩,
 ⟨some 10, .len true (.t 9), none⟩,
 ⟨some 11, .bin .geq (.t 10) (.c (.int .i64 3)), none⟩,
 ⟨some 12, .mv (.t 11), none⟩,
 ⟨some 13, .mv (.t 0), some (12, true)⟩,
 ⟨some 14, .len true (.t 13), some (12, true)⟩,
 ⟨some 15, .bin .leq (.t 14) (.c (.int .i64 64)), some (12, true)⟩,
 ⟨some 16, .pick (.t 12) (.t 15) (.c (.bool false)), none⟩,
 ⟨some 6, .mv (.t 16), none⟩]
def a52_3 : List AOper := [
 ⟨some 7, .mv (.c (.int .i64 0)), none⟩]
def a52_4 : List AOper := [
 ⟨some 17, .mv (.t 7), none⟩,
 ⟨some 18, .mv (.t 0), none⟩,
 ⟨some 19, .len true (.t 18), none⟩,
 ⟨some 20, .bin .lss (.t 17) (.t 19), none⟩]
def a52_5 : List AOper := [
 ⟨some 23, .mv (.t 0), none⟩,
 ⟨some 24, .mv (.t 7), none⟩,
 ⟨some 25, .idxStr (.t 23) (.t 24), none⟩,
 ⟨some 8, .mv (.t 25), none⟩]
def a52_6 : List AOper := [
 ⟨some 26, .mv (.t 8), none⟩,
 ⟨some 27, .bin .eql (.t 26) (.c (.int .u8 64)), none⟩]
def a52_7 : List AOper := [
 ⟨some 28, .mv (.t 6), none⟩,
 ⟨some 29, .mv (.t 28), none⟩,
 ⟨some 30, .mv (.t 5), some (29, true)⟩,
 ⟨some 31, .bin .lss (.t 30) (.c (.int .i64 0)), some (29, true)⟩,
 ⟨some 32, .pick (.t 29) (.t 31) (.c (.bool false)), none⟩,
 ⟨some 6, .mv (.t 32), none⟩]
def a52_8 : List AOper := [
 ⟨some 33, .mv (.t 7), none⟩,
 ⟨some 5, .mv (.t 33), none⟩]
def a52_9 : List AOper := [
 ⟨some 34, .mv (.t 6), none⟩,
 ⟨some 35, .mv (.t 34), none⟩,
 ⟨some 36, .mv (.t 8), some (35, true)⟩,
 ⟨some 37, .call 87 [(.t 36)], some (35, true)⟩,
 ⟨some 38, .mv (.t 37), some (35, true)⟩,
 ⟨some 39, .mv (.t 8), some (38, false)⟩,
 ⟨some 40, .bin .eql (.t 39) (.c (.int .u8 45)), some (38, false)⟩,
 ⟨some 41, .pick (.t 38) (.c (.bool true)) (.t 40), some (35, true)⟩,
 ⟨some 42, .mv (.t 41), some (35, true)⟩,
 ⟨some 43, .mv (.t 8), some (42, false)⟩,
 ⟨some 44, .bin .eql (.t 43) (.c (.int .u8 46)), some (42, false)⟩,
 ⟨some 45, .mv (.t 44), some (42, false)⟩,
 ⟨some 46, .mv (.t 5), some (45, true)⟩,
 ⟨some 47, .bin .geq (.t 46) (.c (.int .i64 0)), some (45, true)⟩,
 ⟨some 48, .pick (.t 45) (.t 47) (.c (.bool false)), some (42, false)⟩,
 ⟨some 49, .pick (.t 42) (.c (.bool true)) (.t 48), some (35, true)⟩,
 ⟨some 50, .pick (.t 35) (.t 49) (.c (.bool false)), none⟩,
 ⟨some 6, .mv (.t 50), none⟩]
def a52_10 : List AOper := [
 ⟨some 21, .mv (.t 7), none⟩,
 ⟨some 22, .bin .add (.t 21) (.c (.int .i64 1)), none⟩,
 ⟨some 7, .mv (.t 22), none⟩]
def a52_l11 : AC := (.seq (.seq (.ops a52_4) (.cond (.t 20) .skip (.exit 0))) (.seq (.block 1 (.seq (.ops a52_5) (.seq (.seq (.ops a52_6) (.cond (.t 27) (.seq (.ops a52_7) (.seq (.ops a52_8) (.exit 1))) .skip)) (.ops a52_9)))) (.ops a52_10)))
def a52_12 : List AOper := [
 ⟨some 51, .mv (.t 6), none⟩,
 ⟨some 52, .un .not (.t 51), none⟩,
 ⟨some 53, .mv (.t 52), none⟩,
 ⟨some 54, .mv (.t 5), some (53, false)⟩,
 ⟨some 55, .bin .lss (.t 54) (.c (.int .i64 1)), some (53, false)⟩,
 ⟨some 56, .pick (.t 53) (.c (.bool true)) (.t 55), none⟩,
 ⟨some 57, .mv (.t 56), none⟩,
 ⟨some 58, .mv (.t 5), some (57, false)⟩,
 ⟨some 59, .mv (.t 0), some (57, false)⟩,
 ⟨some 60, .len true (.t 59), some (57, false)⟩,
 ⟨some 61, .bin .sub (.t 60) (.c (.int .i64 1)), some (57, false)⟩,
 ⟨some 62, .bin .eql (.t 58) (.t 61), some (57, false)⟩,
 ⟨some 63, .pick (.t 57) (.c (.bool true)) (.t 62), none⟩]
def a52_13 : List AOper := [
 ⟨some 64, .call 84 [(.c (.int .i64 0)), (.c (.int .i64 24))], none⟩,
 ⟨some 2, .mv (.c (.str [])), none⟩,
 ⟨some 3, .mv (.c (.str [])), none⟩,
 ⟨some 4, .mv (.t 64), none⟩]
def a52_14 : List AOper := [
 ⟨some 65, .mv (.t 0), none⟩,
 ⟨some 66, .mv (.t 5), none⟩,
 ⟨some 67, .sliceStr (.t 65) none (some (.t 66)), none⟩,
 ⟨some 68, .mv (.t 0), none⟩,
 ⟨some 69, .mv (.t 5), none⟩,
 ⟨some 70, .bin .add (.t 69) (.c (.int .i64 1)), none⟩,
 ⟨some 71, .sliceStr (.t 68) (some (.t 70)) none, none⟩,
 ⟨some 2, .mv (.t 67), none⟩,
 ⟨some 3, .mv (.t 71), none⟩,
 ⟨some 4, .mv (.c .nils), none⟩]
def a52_14b : List Nat := [0, 0, 3, 0, 0, 16, 56, 7, 255, 511]
def a52 : AFunc := ⟨[.tmp 2, .tmp 3, .tmp 4], (.seq (.ops a52_0) (.seq (.ops a52_1) (.seq (.ops a52_2) (.seq (.seq (.ops a52_3) (.block 0 (.loop a52_l11))) (.seq (.seq (.ops a52_12) (.cond (.t 63) (.seq (.ops a52_13) .ret) .skip)) (.seq (.draw a52_14 a52_14b) .ret))))))⟩
/-! ### 53: heddle/term.order (75 slots) -/
def a53_0 : List AOper := [
 ⟨some 2, .box false 6 (.t 0), none⟩,
 ⟨some 3, .box false 6 (.t 1), none⟩,
 ⟨some 4, .mv (.c (.int .i64 0)), none⟩]
def a53_1 : List AOper := [
 ⟨some 5, .fieldAddr 0 (.t 2), none⟩,
 ⟨some 6, .load false 1 (.t 5), none⟩,
 ⟨some 7, .fieldAddr 0 (.t 3), none⟩,
 ⟨some 8, .load false 1 (.t 7), none⟩,
 ⟨some 9, .bin .neq (.t 6) (.t 8), none⟩]
def a53_2 : List AOper := [
 ⟨some 10, .fieldAddr 0 (.t 2), none⟩,
 ⟨some 11, .load false 1 (.t 10), none⟩,
 ⟨some 12, .fieldAddr 0 (.t 3), none⟩,
 ⟨some 13, .load false 1 (.t 12), none⟩,
 ⟨some 14, .call 88 [(.t 11), (.t 13)], none⟩,
 ⟨some 4, .mv (.t 14), none⟩]
def a53_3 : List AOper := [
 ⟨some 15, .fieldAddr 0 (.t 2), none⟩,
 ⟨some 16, .load false 1 (.t 15), none⟩]
def a53_4 : List AOper := [
 ⟨some 18, .bin .eql (.t 16) (.c (.int .i64 1)), none⟩,
 ⟨some 17, .mv (.t 18), none⟩]
def a53_5 : List AOper := [
 ⟨some 20, .bin .eql (.t 16) (.c (.int .i64 2)), none⟩,
 ⟨some 19, .mv (.t 20), none⟩]
def a53_6 : List AOper := [
 ⟨some 22, .bin .eql (.t 16) (.c (.int .i64 3)), none⟩,
 ⟨some 21, .mv (.t 22), none⟩]
def a53_7 : List AOper := [
 ⟨some 24, .bin .eql (.t 16) (.c (.int .i64 4)), none⟩,
 ⟨some 23, .mv (.t 24), none⟩]
def a53_8 : List AOper := [
 ⟨some 26, .bin .eql (.t 16) (.c (.int .i64 5)), none⟩,
 ⟨some 25, .mv (.t 26), none⟩]
def a53_9 : List AOper := [
 ⟨some 28, .bin .eql (.t 16) (.c (.int .i64 7)), none⟩,
 ⟨some 27, .mv (.t 28), none⟩]
def a53_10 : List AOper := [
 ⟨some 29, .fieldAddr 1 (.t 2), none⟩,
 ⟨some 30, .load false 1 (.t 29), none⟩,
 ⟨some 31, .fieldAddr 1 (.t 3), none⟩,
 ⟨some 32, .load false 1 (.t 31), none⟩,
 ⟨some 33, .call 89 [(.t 30), (.t 32)], none⟩,
 ⟨some 4, .mv (.t 33), none⟩]
def a53_11 : List AOper := [
 ⟨some 34, .fieldAddr 2 (.t 2), none⟩,
 ⟨some 35, .load false 1 (.t 34), none⟩,
 ⟨some 36, .fieldAddr 2 (.t 3), none⟩,
 ⟨some 37, .load false 1 (.t 36), none⟩,
 ⟨some 38, .call 90 [(.t 35), (.t 37)], none⟩,
 ⟨some 4, .mv (.t 38), none⟩]
def a53_12 : List AOper := [
 ⟨some 39, .fieldAddr 2 (.t 2), none⟩,
 ⟨some 40, .load false 1 (.t 39), none⟩,
 ⟨some 41, .fieldAddr 2 (.t 3), none⟩,
 ⟨some 42, .load false 1 (.t 41), none⟩,
 ⟨some 43, .call 90 [(.t 40), (.t 42)], none⟩,
 ⟨some 44, .fieldAddr 3 (.t 2), none⟩,
 ⟨some 45, .load false 1 (.t 44), none⟩,
 ⟨some 46, .fieldAddr 3 (.t 3), none⟩,
 ⟨some 47, .load false 1 (.t 46), none⟩,
 ⟨some 48, .call 92 [(.t 45), (.t 47)], none⟩,
 ⟨some 49, .fieldAddr 4 (.t 2), none⟩,
 ⟨some 50, .load false 1 (.t 49), none⟩,
 ⟨some 51, .fieldAddr 4 (.t 3), none⟩,
 ⟨some 52, .load false 1 (.t 51), none⟩,
 ⟨some 53, .call 93 [(.t 50), (.t 52)], none⟩,
 ⟨some 54, .lit true 1 3 [(.int .i64 0), (.int .i64 0), (.int .i64 0)] [(0, 1, (.t 43)), (1, 1, (.t 48)), (2, 1, (.t 53))], none⟩,
 ⟨some 55, .call 91 [(.t 54)], none⟩,
 ⟨some 4, .mv (.t 55), none⟩]
def a53_12b : List Nat := [0, 1, 0, 4, 15, 0, 32, 0, 128, 511, 0, 1024, 0, 4096, 16383, 32767, 65535, 131071]
def a53_13 : List AOper := [
 ⟨some 56, .fieldAddr 5 (.t 2), none⟩,
 ⟨some 57, .load false 1 (.t 56), none⟩,
 ⟨some 58, .len false (.t 57), none⟩,
 ⟨some 59, .fieldAddr 5 (.t 3), none⟩,
 ⟨some 60, .load false 1 (.t 59), none⟩,
 ⟨some 61, .len false (.t 60), none⟩,
 ⟨some 62, .call 94 [(.t 58), (.t 61)], none⟩,
 ⟨some 63, .fieldAddr 5 (.t 2), none⟩,
 ⟨some 64, .load false 1 (.t 63), none⟩,
 ⟨some 65, .fieldAddr 5 (.t 3), none⟩,
 ⟨some 66, .load false 1 (.t 65), none⟩,
 ⟨some 67, .call 95 [(.t 64), (.t 66), (.c (.fn (.func 53) [] []))], none⟩,
 ⟨some 68, .lit true 1 2 [(.int .i64 0), (.int .i64 0)] [(0, 1, (.t 62)), (1, 1, (.t 67))], none⟩,
 ⟨some 69, .call 91 [(.t 68)], none⟩,
 ⟨some 4, .mv (.t 69), none⟩]
def a53_13b : List Nat := [0, 1, 3, 0, 8, 24, 63, 0, 128, 0, 512, 2047, 4095, 8191, 16383]
def a53_14 : List AOper := [
 ⟨some 70, .fieldAddr 5 (.t 2), none⟩,
 ⟨some 71, .load false 1 (.t 70), none⟩,
 ⟨some 72, .fieldAddr 5 (.t 3), none⟩,
 ⟨some 73, .load false 1 (.t 72), none⟩,
 ⟨some 74, .call 96 [(.t 71), (.t 73)], none⟩,
 ⟨some 4, .mv (.t 74), none⟩]
def a53_15 : List AOper := [
 ⟨some 4, .mv (.c (.int .i64 0)), none⟩]
def a53 : AFunc := ⟨[.tmp 4], (.seq (.ops a53_0) (.seq (.seq (.ops a53_1) (.cond (.t 9) (.seq (.ops a53_2) .ret) .skip)) (.seq (.seq (.ops a53_3) (.block 0 (.seq (.block 6 (.seq (.block 5 (.seq (.block 4 (.block 3 (.seq (.block 2 (.seq (.block 1 (.seq (.seq (.seq (.ops a53_4) (.cond (.t 17) (.exit 1) .skip)) (.seq (.seq (.ops a53_5) (.cond (.t 19) (.exit 2) .skip)) (.seq (.seq (.ops a53_6) (.cond (.t 21) (.exit 3) .skip)) (.seq (.seq (.ops a53_7) (.cond (.t 23) (.exit 4) .skip)) (.seq (.seq (.ops a53_8) (.cond (.t 25) (.exit 5) .skip)) (.seq (.ops a53_9) (.cond (.t 27) (.exit 6) .skip))))))) (.exit 0))) (.seq (.seq (.ops a53_10) .ret) (.exit 0)))) (.seq (.seq (.ops a53_11) .ret) (.exit 0))))) (.seq (.seq (.draw a53_12 a53_12b) .ret) (.exit 0)))) (.seq (.seq (.draw a53_13 a53_13b) .ret) (.exit 0)))) (.seq (.seq (.ops a53_14) .ret) (.exit 0))))) (.seq (.ops a53_15) .ret))))⟩
/-! ### 54: heddle/term.Measure (16 slots) -/
def a54_0 : List AOper := [
 ⟨some 1, .box false 6 (.t 0), none⟩,
 ⟨some 2, .mv (.c (.int .i64 0)), none⟩,
 ⟨some 3, .mv (.c (.int .i64 0)), none⟩,
 ⟨some 4, .mv (.c .nili), none⟩]
def a54_1 : List AOper := [
 ⟨some 5, .alloc [(.int .i64 0), (.int .i64 0)], none⟩]
def a54_2 : List AOper := [
 ⟨some 7, .load true 6 (.t 1), none⟩,
 ⟨some 8, .call 97 [(.t 5), (.t 7), (.c (.int .i64 1))], none⟩,
 ⟨some 6, .mv (.t 8), none⟩]
def a54_3 : List AOper := [
 ⟨some 9, .mv (.t 6), none⟩,
 ⟨some 10, .eq true (.iface true) (.t 9) (.c .nili), none⟩]
def a54_4 : List AOper := [
 ⟨some 11, .mv (.t 6), none⟩,
 ⟨some 2, .mv (.c (.int .i64 0)), none⟩,
 ⟨some 3, .mv (.c (.int .i64 0)), none⟩,
 ⟨some 4, .mv (.t 11), none⟩]
def a54_5 : List AOper := [
 ⟨some 12, .fieldAddr 0 (.t 5), none⟩,
 ⟨some 13, .load false 1 (.t 12), none⟩,
 ⟨some 14, .fieldAddr 1 (.t 5), none⟩,
 ⟨some 15, .load false 1 (.t 14), none⟩,
 ⟨some 2, .mv (.t 13), none⟩,
 ⟨some 3, .mv (.t 15), none⟩,
 ⟨some 4, .mv (.c .nili), none⟩]
def a54_5b : List Nat := [0, 1, 0, 4, 3, 31, 63]
def a54 : AFunc := ⟨[.tmp 2, .tmp 3, .tmp 4], (.seq (.ops a54_0) (.seq (.ops a54_1) (.seq (.seq (.ops a54_2) (.seq (.ops a54_3) (.cond (.t 10) (.seq (.ops a54_4) .ret) .skip))) (.seq (.draw a54_5 a54_5b) .ret))))⟩
end Go.Bf
