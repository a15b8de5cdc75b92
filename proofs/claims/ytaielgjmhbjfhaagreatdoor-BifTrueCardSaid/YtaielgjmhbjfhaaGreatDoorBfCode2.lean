/-
  THE ABSTRACT MACHINE's code of the functions that the statements of package bif reach (part 2): printed by a program of this session's own; BfTie shows that it is what the translation gives.
-/
import Derived.Test.YtaielgjmhbjfhaaGreatDoorAmCore
set_option linter.unusedVariables false
namespace Go.Bf
open Go.AM
/-! ### 59: heddle/bif.number (5 slots) -/
def a59_0 : List AOper := [
 ⟨some 2, .alloc [(.int .i64 0), (.int .i64 0), (.str []), (.int .u32 0), .nils, .nils], none⟩]
def a59_1 : List AOper := [
 ⟨some 3, .mv (.t 0), none⟩,
 ⟨some 4, .build [(.int .i64 0), (.int .i64 0), (.str []), (.int .u32 0), .nils, .nils] [(0, 1, (.c (.int .i64 1))), (1, 1, (.t 3))], none⟩,
 ⟨none, .store 6 (.t 2) (.t 4), none⟩]
def a59 : AFunc := ⟨[.cell 2 true 6], (.seq (.ops a59_0) (.seq (.ops a59_1) .ret))⟩
/-! ### 60: heddle/bif.reckon (67 slots) -/
def a60_0 : List AOper := [
 ⟨some 4, .box false 6 (.t 1), none⟩,
 ⟨some 5, .box false 6 (.t 2), none⟩,
 ⟨some 6, .alloc [(.int .i64 0), (.int .i64 0), (.str []), (.int .u32 0), .nils, .nils], none⟩,
 ⟨some 7, .mv (.c (.int .i64 0)), none⟩]
def a60_1 : List AOper := [
 ⟨some 11, .fieldAddr 0 (.t 4), none⟩,
 ⟨some 12, .load false 1 (.t 11), none⟩,
 ⟨some 13, .bin .neq (.t 12) (.c (.int .i64 1)), none⟩,
 ⟨some 14, .mv (.t 13), none⟩,
 ⟨some 15, .fieldAddr 0 (.t 5), some (14, false)⟩,
 ⟨some 16, .load false 1 (.t 15), some (14, false)⟩,
 ⟨some 17, .bin .neq (.t 16) (.c (.int .i64 1)), some (14, false)⟩,
 ⟨some 18, .pick (.t 14) (.c (.bool true)) (.t 17), none⟩]
def a60_2 : List AOper := [
 ⟨some 19, .build [(.int .i64 0), (.int .i64 0), (.str []), (.int .u32 0), .nils, .nils] [], none⟩,
 ⟨none, .store 6 (.t 6) (.t 19), none⟩,
 ⟨some 7, .mv (.c (.int .i64 260)), none⟩]
def a60_3 : List AOper := [
 ⟨some 20, .fieldAddr 1 (.t 4), none⟩,
 ⟨some 21, .load false 1 (.t 20), none⟩,
 ⟨some 22, .fieldAddr 1 (.t 5), none⟩,
 ⟨some 23, .load false 1 (.t 22), none⟩,
 ⟨some 8, .mv (.t 21), none⟩,
 ⟨some 9, .mv (.t 23), none⟩,
 ⟨some 10, .mv (.c (.bool true)), none⟩]
def a60_3b : List Nat := [0, 1, 0, 4, 3, 31, 63]
def a60_4 : List AOper := [
 ⟨some 24, .mv (.t 0), none⟩]
def a60_5 : List AOper := [
 ⟨some 37, .bin .eql (.t 24) (.c (.str [43])), none⟩,
 ⟨some 36, .mv (.t 37), none⟩]
def a60_6 : List AOper := [
 ⟨some 38, .mv (.t 8), none⟩,
 ⟨some 39, .mv (.t 9), none⟩,
 ⟨some 40, .bin .add (.t 38) (.t 39), none⟩,
 ⟨some 8, .mv (.t 40), none⟩]
def a60_7 : List AOper := [
 ⟨some 42, .bin .eql (.t 24) (.c (.str [45])), none⟩,
 ⟨some 41, .mv (.t 42), none⟩]
def a60_8 : List AOper := [
 ⟨some 43, .mv (.t 8), none⟩,
 ⟨some 44, .mv (.t 9), none⟩,
 ⟨some 45, .bin .sub (.t 43) (.t 44), none⟩,
 ⟨some 8, .mv (.t 45), none⟩]
def a60_9 : List AOper := [
 ⟨some 47, .bin .eql (.t 24) (.c (.str [42])), none⟩,
 ⟨some 46, .mv (.t 47), none⟩]
def a60_10 : List AOper := [
 ⟨some 49, .mv (.t 8), none⟩,
 ⟨some 50, .mv (.t 9), none⟩,
 ⟨some 51, .call 100 [(.t 49), (.t 50)], none⟩,
 ⟨some 48, .mv (.t 51), none⟩,
 ⟨some 52, .extract (.t 48) 0, none⟩,
 ⟨some 53, .extract (.t 48) 1, none⟩,
 ⟨some 8, .mv (.t 52), none⟩,
 ⟨some 10, .mv (.t 53), none⟩]
def a60_11 : List AOper := [
 ⟨some 25, .mv (.t 9), none⟩,
 ⟨some 26, .bin .eql (.t 25) (.c (.int .i64 0)), none⟩]
def a60_12 : List AOper := [
 ⟨some 27, .build [(.int .i64 0), (.int .i64 0), (.str []), (.int .u32 0), .nils, .nils] [], none⟩,
 ⟨none, .store 6 (.t 6) (.t 27), none⟩,
 ⟨some 7, .mv (.c (.int .i64 260)), none⟩]
def a60_13 : List AOper := [
 ⟨some 28, .mv (.t 0), none⟩,
 ⟨some 29, .bin .eql (.t 28) (.c (.str [114, 101, 109])), none⟩]
def a60_14 : List AOper := [
 ⟨some 30, .mv (.t 8), none⟩,
 ⟨some 31, .mv (.t 9), none⟩,
 ⟨some 32, .bin .rem (.t 30) (.t 31), none⟩,
 ⟨some 8, .mv (.t 32), none⟩]
def a60_15 : List AOper := [
 ⟨some 33, .mv (.t 8), none⟩,
 ⟨some 34, .mv (.t 9), none⟩,
 ⟨some 35, .bin .quo (.t 33) (.t 34), none⟩,
 ⟨some 8, .mv (.t 35), none⟩]
def a60_16 : List AOper := [
 ⟨some 54, .mv (.t 10), none⟩,
 ⟨some 55, .un .not (.t 54), none⟩,
 ⟨some 56, .mv (.t 55), none⟩,
 ⟨some 57, .mv (.t 8), some (56, false)⟩,
 ⟨some 58, .bin .lss (.t 57) (.c (.int .i64 (-576460752303423488))), some (56, false)⟩,
 ⟨some 59, .pick (.t 56) (.c (.bool true)) (.t 58), none⟩,
 ⟨some 60, .mv (.t 59), none⟩,
 ⟨some 61, .mv (.t 8), some (60, false)⟩,
 ⟨some 62, .bin .gtr (.t 61) (.c (.int .i64 576460752303423487)), some (60, false)⟩,
 ⟨some 63, .pick (.t 60) (.c (.bool true)) (.t 62), none⟩]
def a60_17 : List AOper := [
 ⟨some 64, .build [(.int .i64 0), (.int .i64 0), (.str []), (.int .u32 0), .nils, .nils] [], none⟩,
 ⟨none, .store 6 (.t 6) (.t 64), none⟩,
 ⟨some 7, .mv (.c (.int .i64 262)), none⟩]
def a60_18 : List AOper := [
 ⟨some 65, .mv (.t 8), none⟩,
 ⟨some 66, .call 59 [(.t 65)], none⟩,
 ⟨none, .store 6 (.t 6) (.t 66), none⟩,
 ⟨some 7, .mv (.c (.int .i64 0)), none⟩]
def a60 : AFunc := ⟨[.cell 6 true 6, .tmp 7], (.seq (.ops a60_0) (.seq (.seq (.ops a60_1) (.cond (.t 18) (.seq (.ops a60_2) .ret) .skip)) (.seq (.draw a60_3 a60_3b) (.seq (.seq (.ops a60_4) (.block 0 (.seq (.ops a60_5) (.cond (.t 36) (.ops a60_6) (.seq (.ops a60_7) (.cond (.t 41) (.ops a60_8) (.seq (.ops a60_9) (.cond (.t 46) (.ops a60_10) (.seq (.seq (.ops a60_11) (.cond (.t 26) (.seq (.ops a60_12) .ret) .skip)) (.seq (.ops a60_13) (.cond (.t 29) (.ops a60_14) (.ops a60_15)))))))))))) (.seq (.seq (.ops a60_16) (.cond (.t 63) (.seq (.ops a60_17) .ret) .skip)) (.seq (.ops a60_18) .ret))))))⟩
/-! ### 61: heddle/bif.logic (48 slots) -/
def a61_0 : List AOper := [
 ⟨some 4, .box false 6 (.t 1), none⟩,
 ⟨some 5, .box false 6 (.t 2), none⟩,
 ⟨some 6, .alloc [(.int .i64 0), (.int .i64 0), (.str []), (.int .u32 0), .nils, .nils], none⟩,
 ⟨some 7, .mv (.c (.int .i64 0)), none⟩]
def a61_1 : List AOper := [
 ⟨some 13, .load true 6 (.t 4), none⟩,
 ⟨some 14, .call 101 [(.t 13)], none⟩,
 ⟨some 12, .mv (.t 14), none⟩,
 ⟨some 15, .extract (.t 12) 0, none⟩,
 ⟨some 16, .extract (.t 12) 1, none⟩,
 ⟨some 8, .mv (.t 15), none⟩,
 ⟨some 9, .mv (.t 16), none⟩]
def a61_2 : List AOper := [
 ⟨some 18, .load true 6 (.t 5), none⟩,
 ⟨some 19, .call 101 [(.t 18)], none⟩,
 ⟨some 17, .mv (.t 19), none⟩,
 ⟨some 20, .extract (.t 17) 0, none⟩,
 ⟨some 21, .extract (.t 17) 1, none⟩,
 ⟨some 10, .mv (.t 20), none⟩,
 ⟨some 11, .mv (.t 21), none⟩]
def a61_3 : List AOper := [
 ⟨some 22, .mv (.t 9), none⟩,
 ⟨some 23, .un .not (.t 22), none⟩,
 ⟨some 24, .mv (.t 23), none⟩,
 ⟨some 25, .mv (.t 11), some (24, false)⟩,
 ⟨some 26, .un .not (.t 25), some (24, false)⟩,
 ⟨some 27, .pick (.t 24) (.c (.bool true)) (.t 26), none⟩]
def a61_4 : List AOper := [
 ⟨some 28, .build [(.int .i64 0), (.int .i64 0), (.str []), (.int .u32 0), .nils, .nils] [], none⟩,
 ⟨none, .store 6 (.t 6) (.t 28), none⟩,
 ⟨some 7, .mv (.c (.int .i64 261)), none⟩]
def a61_5 : List AOper := [
 ⟨some 29, .mv (.t 0), none⟩]
def a61_6 : List AOper := [
 ⟨some 31, .bin .eql (.t 29) (.c (.str [97, 110, 100])), none⟩,
 ⟨some 30, .mv (.t 31), none⟩]
def a61_7 : List AOper := [
 ⟨some 32, .mv (.t 8), none⟩,
 ⟨some 33, .mv (.t 32), none⟩,
 ⟨some 34, .mv (.t 10), some (33, true)⟩,
 ⟨some 35, .pick (.t 33) (.t 34) (.c (.bool false)), none⟩,
 ⟨some 36, .call 62 [(.t 35)], none⟩,
 ⟨none, .store 6 (.t 6) (.t 36), none⟩,
 ⟨some 7, .mv (.c (.int .i64 0)), none⟩]
def a61_8 : List AOper := [
 ⟨some 38, .bin .eql (.t 29) (.c (.str [111, 114])), none⟩,
 ⟨some 37, .mv (.t 38), none⟩]
def a61_9 : List AOper := [
 ⟨some 39, .mv (.t 8), none⟩,
 ⟨some 40, .mv (.t 39), none⟩,
 ⟨some 41, .mv (.t 10), some (40, false)⟩,
 ⟨some 42, .pick (.t 40) (.c (.bool true)) (.t 41), none⟩,
 ⟨some 43, .call 62 [(.t 42)], none⟩,
 ⟨none, .store 6 (.t 6) (.t 43), none⟩,
 ⟨some 7, .mv (.c (.int .i64 0)), none⟩]
def a61_10 : List AOper := [
 ⟨some 44, .mv (.t 8), none⟩,
 ⟨some 45, .mv (.t 10), none⟩,
 ⟨some 46, .eq true .bool (.t 44) (.t 45), none⟩,
 ⟨some 47, .call 62 [(.t 46)], none⟩,
 ⟨none, .store 6 (.t 6) (.t 47), none⟩,
 ⟨some 7, .mv (.c (.int .i64 0)), none⟩]
def a61 : AFunc := ⟨[.cell 6 true 6, .tmp 7], (.seq (.ops a61_0) (.seq (.ops a61_1) (.seq (.ops a61_2) (.seq (.seq (.ops a61_3) (.cond (.t 27) (.seq (.ops a61_4) .ret) .skip)) (.seq (.seq (.ops a61_5) (.block 0 (.seq (.ops a61_6) (.cond (.t 30) (.seq (.ops a61_7) .ret) (.seq (.ops a61_8) (.cond (.t 37) (.seq (.ops a61_9) .ret) .skip)))))) (.seq (.ops a61_10) .ret))))))⟩
/-! ### 62: heddle/bif.truth (6 slots) -/
def a62_0 : List AOper := [
 ⟨some 2, .alloc [(.int .i64 0), (.int .i64 0), (.str []), (.int .u32 0), .nils, .nils], none⟩]
def a62_1 : List AOper := [
 ⟨some 3, .mv (.t 0), none⟩]
def a62_2 : List AOper := [
 ⟨some 4, .call 34 [(.c (.str [116, 114, 117, 101]))], none⟩,
 ⟨none, .store 6 (.t 2) (.t 4), none⟩]
def a62_3 : List AOper := [
 ⟨some 5, .call 34 [(.c (.str [102, 97, 108, 115, 101]))], none⟩,
 ⟨none, .store 6 (.t 2) (.t 5), none⟩]
def a62 : AFunc := ⟨[.cell 2 true 6], (.seq (.ops a62_0) (.seq (.seq (.ops a62_1) (.cond (.t 3) (.seq (.ops a62_2) .ret) .skip)) (.seq (.ops a62_3) .ret)))⟩
/-! ### 63: heddle/bif.compared (30 slots) -/
def a63_0 : List AOper := [
 ⟨some 4, .mv (.c (.bool false)), none⟩]
def a63_1 : List AOper := [
 ⟨some 5, .mv (.t 0), none⟩]
def a63_2 : List AOper := [
 ⟨some 7, .bin .eql (.t 5) (.c (.str [61, 61])), none⟩,
 ⟨some 6, .mv (.t 7), none⟩]
def a63_3 : List AOper := [
 ⟨some 8, .bin .eql (.t 5) (.c (.str [61, 58, 61])), none⟩,
 ⟨some 6, .mv (.t 8), none⟩]
def a63_4 : List AOper := [
 ⟨some 9, .mv (.t 1), none⟩,
 ⟨some 10, .bin .eql (.t 9) (.c (.int .i64 0)), none⟩,
 ⟨some 4, .mv (.t 10), none⟩]
def a63_5 : List AOper := [
 ⟨some 12, .bin .eql (.t 5) (.c (.str [47, 61])), none⟩,
 ⟨some 11, .mv (.t 12), none⟩]
def a63_6 : List AOper := [
 ⟨some 13, .bin .eql (.t 5) (.c (.str [61, 47, 61])), none⟩,
 ⟨some 11, .mv (.t 13), none⟩]
def a63_7 : List AOper := [
 ⟨some 14, .mv (.t 1), none⟩,
 ⟨some 15, .bin .neq (.t 14) (.c (.int .i64 0)), none⟩,
 ⟨some 4, .mv (.t 15), none⟩]
def a63_8 : List AOper := [
 ⟨some 17, .bin .eql (.t 5) (.c (.str [61, 60])), none⟩,
 ⟨some 16, .mv (.t 17), none⟩]
def a63_9 : List AOper := [
 ⟨some 18, .mv (.t 1), none⟩,
 ⟨some 19, .bin .leq (.t 18) (.c (.int .i64 0)), none⟩,
 ⟨some 4, .mv (.t 19), none⟩]
def a63_10 : List AOper := [
 ⟨some 21, .bin .eql (.t 5) (.c (.str [60])), none⟩,
 ⟨some 20, .mv (.t 21), none⟩]
def a63_11 : List AOper := [
 ⟨some 22, .mv (.t 1), none⟩,
 ⟨some 23, .bin .lss (.t 22) (.c (.int .i64 0)), none⟩,
 ⟨some 4, .mv (.t 23), none⟩]
def a63_12 : List AOper := [
 ⟨some 25, .bin .eql (.t 5) (.c (.str [62, 61])), none⟩,
 ⟨some 24, .mv (.t 25), none⟩]
def a63_13 : List AOper := [
 ⟨some 26, .mv (.t 1), none⟩,
 ⟨some 27, .bin .geq (.t 26) (.c (.int .i64 0)), none⟩,
 ⟨some 4, .mv (.t 27), none⟩]
def a63_14 : List AOper := [
 ⟨some 28, .mv (.t 1), none⟩,
 ⟨some 29, .bin .gtr (.t 28) (.c (.int .i64 0)), none⟩,
 ⟨some 4, .mv (.t 29), none⟩]
def a63 : AFunc := ⟨[.tmp 4], (.seq (.ops a63_0) (.seq (.seq (.ops a63_1) (.block 0 (.seq (.seq (.ops a63_2) (.cond (.t 6) .skip (.ops a63_3))) (.cond (.t 6) (.seq (.ops a63_4) .ret) (.seq (.seq (.ops a63_5) (.cond (.t 11) .skip (.ops a63_6))) (.cond (.t 11) (.seq (.ops a63_7) .ret) (.seq (.ops a63_8) (.cond (.t 16) (.seq (.ops a63_9) .ret) (.seq (.ops a63_10) (.cond (.t 20) (.seq (.ops a63_11) .ret) (.seq (.ops a63_12) (.cond (.t 24) (.seq (.ops a63_13) .ret) .skip)))))))))))) (.seq (.ops a63_14) .ret)))⟩
/-! ### 64: heddle/term.Compare (16 slots) -/
def a64_0 : List AOper := [
 ⟨some 2, .box false 6 (.t 0), none⟩,
 ⟨some 3, .box false 6 (.t 1), none⟩,
 ⟨some 4, .mv (.c (.int .i64 0)), none⟩]
def a64_1 : List AOper := [
 ⟨some 5, .load true 6 (.t 2), none⟩,
 ⟨some 6, .call 36 [(.t 5)], none⟩,
 ⟨some 7, .eq true (.iface true) (.t 6) (.c .nili), none⟩,
 ⟨some 8, .mv (.t 7), none⟩,
 ⟨some 9, .load true 6 (.t 3), some (8, false)⟩,
 ⟨some 10, .call 36 [(.t 9)], some (8, false)⟩,
 ⟨some 11, .eq true (.iface true) (.t 10) (.c .nili), some (8, false)⟩,
 ⟨some 12, .pick (.t 8) (.c (.bool true)) (.t 11), none⟩]
def a64_2 : List AOper := [
 ⟨some 4, .mv (.c (.int .i64 0)), none⟩]
def a64_3 : List AOper := [
 ⟨some 13, .load true 6 (.t 2), none⟩,
 ⟨some 14, .load true 6 (.t 3), none⟩,
 ⟨some 15, .call 53 [(.t 13), (.t 14)], none⟩,
 ⟨some 4, .mv (.t 15), none⟩]
def a64 : AFunc := ⟨[.tmp 4], (.seq (.ops a64_0) (.seq (.seq (.ops a64_1) (.cond (.t 12) (.seq (.ops a64_2) .ret) .skip)) (.seq (.ops a64_3) .ret)))⟩
/-! ### 65: heddle/bif.joined (63 slots) -/
def a65_0 : List AOper := [
 ⟨some 4, .box false 6 (.t 1), none⟩,
 ⟨some 5, .box false 6 (.t 2), none⟩,
 ⟨some 6, .alloc [(.int .i64 0), (.int .i64 0), (.str []), (.int .u32 0), .nils, .nils], none⟩,
 ⟨some 7, .mv (.c (.int .i64 0)), none⟩]
def a65_1 : List AOper := [
 ⟨some 16, .load true 6 (.t 4), none⟩,
 ⟨some 17, .call 102 [(.t 16)], none⟩,
 ⟨some 15, .mv (.t 17), none⟩,
 ⟨some 18, .extract (.t 15) 0, none⟩,
 ⟨some 19, .extract (.t 15) 1, none⟩,
 ⟨some 8, .mv (.t 18), none⟩,
 ⟨some 9, .mv (.t 19), none⟩]
def a65_2 : List AOper := [
 ⟨some 21, .load true 6 (.t 5), none⟩,
 ⟨some 22, .call 102 [(.t 21)], none⟩,
 ⟨some 20, .mv (.t 22), none⟩,
 ⟨some 23, .extract (.t 20) 0, none⟩,
 ⟨some 24, .extract (.t 20) 1, none⟩,
 ⟨some 10, .mv (.t 23), none⟩,
 ⟨some 11, .mv (.t 24), none⟩]
def a65_3 : List AOper := [
 ⟨some 25, .mv (.t 9), none⟩,
 ⟨some 26, .un .not (.t 25), none⟩,
 ⟨some 27, .mv (.t 26), none⟩,
 ⟨some 28, .mv (.t 0), some (27, false)⟩,
 ⟨some 29, .bin .eql (.t 28) (.c (.str [45, 45])), some (27, false)⟩,
 ⟨some 30, .mv (.t 29), some (27, false)⟩,
 ⟨some 31, .mv (.t 11), some (30, true)⟩,
 ⟨some 32, .un .not (.t 31), some (30, true)⟩,
 ⟨some 33, .pick (.t 30) (.t 32) (.c (.bool false)), some (27, false)⟩,
 ⟨some 34, .pick (.t 27) (.c (.bool true)) (.t 33), none⟩]
def a65_4 : List AOper := [
 ⟨some 35, .build [(.int .i64 0), (.int .i64 0), (.str []), (.int .u32 0), .nils, .nils] [], none⟩,
 ⟨none, .store 6 (.t 6) (.t 35), none⟩,
 ⟨some 7, .mv (.c (.int .i64 261)), none⟩]
def a65_5 : List AOper := [
 ⟨some 36, .mv (.t 0), none⟩,
 ⟨some 37, .bin .eql (.t 36) (.c (.str [43, 43])), none⟩]
def a65_6 : List AOper := [
 ⟨some 38, .mv (.t 8), none⟩,
 ⟨some 39, .load true 6 (.t 5), none⟩,
 ⟨some 40, .call 103 [(.t 38), (.t 39)], none⟩,
 ⟨none, .store 6 (.t 6) (.t 40), none⟩,
 ⟨some 7, .mv (.c (.int .i64 0)), none⟩]
def a65_7 : List AOper := [
 ⟨some 41, .mv (.t 8), none⟩,
 ⟨some 42, .call 104 [(.t 41)], none⟩,
 ⟨some 8, .mv (.t 42), none⟩]
def a65_8 : List AOper := [
 ⟨some 43, .mv (.t 10), none⟩,
 ⟨some 44, .len false (.t 43), none⟩,
 ⟨some 45, .mv (.c (.int .i64 0)), none⟩]
def a65_9 : List AOper := [
 ⟨some 46, .bin .lss (.t 45) (.t 44), none⟩]
def a65_10 : List AOper := [
 ⟨some 47, .idxAddr 6 (.t 43) (.t 45), none⟩,
 ⟨some 48, .load true 6 (.t 47), none⟩,
 ⟨some 13, .alloc [(.int .i64 0), (.int .i64 0), (.str []), (.int .u32 0), .nils, .nils], none⟩,
 ⟨none, .store 6 (.t 13) (.t 48), none⟩]
def a65_11 : List AOper := [
 ⟨some 49, .mv (.t 8), none⟩,
 ⟨some 50, .mkFunc (.func 106) [] [(.t 13)], none⟩,
 ⟨some 51, .call 105 [(.t 49), (.t 50)], none⟩,
 ⟨some 14, .mv (.t 51), none⟩]
def a65_12 : List AOper := [
 ⟨some 52, .mv (.t 14), none⟩,
 ⟨some 53, .bin .geq (.t 52) (.c (.int .i64 0)), none⟩]
def a65_13 : List AOper := [
 ⟨some 54, .mv (.t 8), none⟩,
 ⟨some 55, .mv (.t 14), none⟩,
 ⟨some 56, .mv (.t 14), none⟩,
 ⟨some 57, .bin .add (.t 56) (.c (.int .i64 1)), none⟩,
 ⟨some 58, .call 107 [(.t 54), (.t 55), (.t 57)], none⟩,
 ⟨some 8, .mv (.t 58), none⟩]
def a65_14 : List AOper := [
 ⟨some 59, .bin .add (.t 45) (.c (.int .i64 1)), none⟩,
 ⟨some 45, .mv (.t 59), none⟩]
def a65_l15 : AC := (.seq (.ops a65_9) (.seq (.cond (.t 46) .skip (.exit 0)) (.seq (.block 1 (.seq (.ops a65_10) (.seq (.ops a65_11) (.seq (.ops a65_12) (.cond (.t 53) (.ops a65_13) .skip))))) (.ops a65_14))))
def a65_16 : List AOper := [
 ⟨some 60, .mv (.t 8), none⟩,
 ⟨some 61, .call 108 [], none⟩,
 ⟨some 62, .call 103 [(.t 60), (.t 61)], none⟩,
 ⟨none, .store 6 (.t 6) (.t 62), none⟩,
 ⟨some 7, .mv (.c (.int .i64 0)), none⟩]
def a65 : AFunc := ⟨[.cell 6 true 6, .tmp 7], (.seq (.ops a65_0) (.seq (.ops a65_1) (.seq (.ops a65_2) (.seq (.seq (.ops a65_3) (.cond (.t 34) (.seq (.ops a65_4) .ret) .skip)) (.seq (.seq (.ops a65_5) (.cond (.t 37) (.seq (.ops a65_6) .ret) .skip)) (.seq (.ops a65_7) (.seq (.seq (.ops a65_8) (.block 0 (.loop a65_l15))) (.seq (.ops a65_16) .ret))))))))⟩
/-! ### 66: strings.HasPrefix (8 slots) -/
def a66_0 : List AOper := [
 ⟨some 4, .mv (.c (.bool false)), none⟩]
def a66_1 : List AOper := [
 ⟨some 5, .mv (.t 0), none⟩,
 ⟨some 6, .mv (.t 1), none⟩,
 ⟨some 7, .call 109 [(.t 5), (.t 6)], none⟩,
 ⟨some 4, .mv (.t 7), none⟩]
def a66 : AFunc := ⟨[.tmp 4], (.seq (.ops a66_0) (.seq (.ops a66_1) .ret))⟩
/-! ### 67: heddle/bif.is (49 slots) -/
def a67_0 : List AOper := [
 ⟨some 3, .box false 6 (.t 1), none⟩,
 ⟨some 4, .mv (.c (.bool false)), none⟩]
def a67_1 : List AOper := [
 ⟨some 7, .mv (.t 0), none⟩]
def a67_2 : List AOper := [
 ⟨some 9, .bin .eql (.t 7) (.c (.str [105, 115, 95, 97, 116, 111, 109])), none⟩,
 ⟨some 8, .mv (.t 9), none⟩]
def a67_3 : List AOper := [
 ⟨some 10, .fieldAddr 0 (.t 3), none⟩,
 ⟨some 11, .load false 1 (.t 10), none⟩,
 ⟨some 12, .bin .eql (.t 11) (.c (.int .i64 2)), none⟩,
 ⟨some 4, .mv (.t 12), none⟩]
def a67_4 : List AOper := [
 ⟨some 14, .bin .eql (.t 7) (.c (.str [105, 115, 95, 98, 111, 111, 108, 101, 97, 110])), none⟩,
 ⟨some 13, .mv (.t 14), none⟩]
def a67_5 : List AOper := [
 ⟨some 16, .load true 6 (.t 3), none⟩,
 ⟨some 17, .call 101 [(.t 16)], none⟩,
 ⟨some 15, .mv (.t 17), none⟩,
 ⟨some 18, .extract (.t 15) 0, none⟩,
 ⟨some 19, .extract (.t 15) 1, none⟩,
 ⟨some 5, .mv (.t 18), none⟩,
 ⟨some 6, .mv (.t 19), none⟩]
def a67_6 : List AOper := [
 ⟨some 20, .mv (.t 6), none⟩,
 ⟨some 4, .mv (.t 20), none⟩]
def a67_7 : List AOper := [
 ⟨some 22, .bin .eql (.t 7) (.c (.str [105, 115, 95, 105, 110, 116, 101, 103, 101, 114])), none⟩,
 ⟨some 21, .mv (.t 22), none⟩]
def a67_8 : List AOper := [
 ⟨some 23, .fieldAddr 0 (.t 3), none⟩,
 ⟨some 24, .load false 1 (.t 23), none⟩,
 ⟨some 25, .bin .eql (.t 24) (.c (.int .i64 1)), none⟩,
 ⟨some 4, .mv (.t 25), none⟩]
def a67_9 : List AOper := [
 ⟨some 27, .bin .eql (.t 7) (.c (.str [105, 115, 95, 108, 105, 115, 116])), none⟩,
 ⟨some 26, .mv (.t 27), none⟩]
def a67_10 : List AOper := [
 ⟨some 28, .fieldAddr 0 (.t 3), none⟩,
 ⟨some 29, .load false 1 (.t 28), none⟩,
 ⟨some 30, .bin .eql (.t 29) (.c (.int .i64 7)), none⟩,
 ⟨some 31, .mv (.t 30), none⟩,
 ⟨some 32, .fieldAddr 0 (.t 3), some (31, false)⟩,
 ⟨some 33, .load false 1 (.t 32), some (31, false)⟩,
 ⟨some 34, .bin .eql (.t 33) (.c (.int .i64 6)), some (31, false)⟩,
 ⟨some 35, .pick (.t 31) (.c (.bool true)) (.t 34), none⟩,
 ⟨some 4, .mv (.t 35), none⟩]
def a67_11 : List AOper := [
 ⟨some 37, .bin .eql (.t 7) (.c (.str [105, 115, 95, 112, 105, 100])), none⟩,
 ⟨some 36, .mv (.t 37), none⟩]
def a67_12 : List AOper := [
 ⟨some 38, .fieldAddr 0 (.t 3), none⟩,
 ⟨some 39, .load false 1 (.t 38), none⟩,
 ⟨some 40, .bin .eql (.t 39) (.c (.int .i64 4)), none⟩,
 ⟨some 4, .mv (.t 40), none⟩]
def a67_13 : List AOper := [
 ⟨some 42, .bin .eql (.t 7) (.c (.str [105, 115, 95, 114, 101, 102, 101, 114, 101, 110, 99, 101])), none⟩,
 ⟨some 41, .mv (.t 42), none⟩]
def a67_14 : List AOper := [
 ⟨some 43, .fieldAddr 0 (.t 3), none⟩,
 ⟨some 44, .load false 1 (.t 43), none⟩,
 ⟨some 45, .bin .eql (.t 44) (.c (.int .i64 3)), none⟩,
 ⟨some 4, .mv (.t 45), none⟩]
def a67_15 : List AOper := [
 ⟨some 46, .fieldAddr 0 (.t 3), none⟩,
 ⟨some 47, .load false 1 (.t 46), none⟩,
 ⟨some 48, .bin .eql (.t 47) (.c (.int .i64 5)), none⟩,
 ⟨some 4, .mv (.t 48), none⟩]
def a67 : AFunc := ⟨[.tmp 4], (.seq (.ops a67_0) (.seq (.seq (.ops a67_1) (.block 0 (.seq (.ops a67_2) (.cond (.t 8) (.seq (.ops a67_3) .ret) (.seq (.ops a67_4) (.cond (.t 13) (.seq (.ops a67_5) (.seq (.ops a67_6) .ret)) (.seq (.ops a67_7) (.cond (.t 21) (.seq (.ops a67_8) .ret) (.seq (.ops a67_9) (.cond (.t 26) (.seq (.ops a67_10) .ret) (.seq (.ops a67_11) (.cond (.t 36) (.seq (.ops a67_12) .ret) (.seq (.ops a67_13) (.cond (.t 41) (.seq (.ops a67_14) .ret) .skip)))))))))))))) (.seq (.ops a67_15) .ret)))⟩
/-! ### 68: heddle/bif.part (144 slots) -/
def a68_0 : List AOper := [
 ⟨some 4, .alloc [(.int .i64 0), (.int .i64 0), (.str []), (.int .u32 0), .nils, .nils], none⟩,
 ⟨some 5, .mv (.c (.int .i64 0)), none⟩]
def a68_1 : List AOper := [
 ⟨some 17, .mv (.t 1), none⟩,
 ⟨some 18, .idxAddr 6 (.t 17) (.c (.int .i64 0)), none⟩,
 ⟨some 19, .load true 6 (.t 18), none⟩,
 ⟨some 6, .alloc [(.int .i64 0), (.int .i64 0), (.str []), (.int .u32 0), .nils, .nils], none⟩,
 ⟨none, .store 6 (.t 6) (.t 19), none⟩]
def a68_2 : List AOper := [
 ⟨some 20, .mv (.t 0), none⟩]
def a68_3 : List AOper := [
 ⟨some 27, .bin .eql (.t 20) (.c (.str [97, 98, 115])), none⟩,
 ⟨some 26, .mv (.t 27), none⟩]
def a68_4 : List AOper := [
 ⟨some 28, .fieldAddr 0 (.t 6), none⟩,
 ⟨some 29, .load false 1 (.t 28), none⟩,
 ⟨some 30, .bin .eql (.t 29) (.c (.int .i64 1)), none⟩]
def a68_5 : List AOper := [
 ⟨some 31, .fieldAddr 1 (.t 6), none⟩,
 ⟨some 32, .load false 1 (.t 31), none⟩,
 ⟨some 33, .fieldAddr 1 (.t 6), none⟩,
 ⟨some 34, .load false 1 (.t 33), none⟩,
 ⟨some 35, .un .neg (.t 34), none⟩,
 ⟨some 36, .minmax true (.t 32) (.t 35), none⟩,
 ⟨some 37, .call 59 [(.t 36)], none⟩,
 ⟨none, .store 6 (.t 4) (.t 37), none⟩,
 ⟨some 5, .mv (.c (.int .i64 0)), none⟩]
def a68_6 : List AOper := [
 ⟨some 39, .bin .eql (.t 20) (.c (.str [101, 108, 101, 109, 101, 110, 116])), none⟩,
 ⟨some 38, .mv (.t 39), none⟩]
def a68_7 : List AOper := [
 ⟨some 40, .load true 6 (.t 6), none⟩,
 ⟨some 41, .mv (.t 1), none⟩,
 ⟨some 42, .idxAddr 6 (.t 41) (.c (.int .i64 1)), none⟩,
 ⟨some 43, .load true 6 (.t 42), none⟩,
 ⟨some 44, .call 110 [(.t 40), (.t 43)], none⟩,
 ⟨some 7, .mv (.t 44), none⟩]
def a68_7b : List Nat := [0, 0, 2, 6, 15, 31]
def a68_8 : List AOper := [
 ⟨some 45, .mv (.t 7), none⟩,
 ⟨some 46, .bin .geq (.t 45) (.c (.int .i64 0)), none⟩]
def a68_9 : List AOper := [
 ⟨some 47, .mv (.t 1), none⟩,
 ⟨some 48, .idxAddr 6 (.t 47) (.c (.int .i64 1)), none⟩,
 ⟨some 49, .fieldAddr 5 (.t 48), none⟩,
 ⟨some 50, .load false 1 (.t 49), none⟩,
 ⟨some 51, .mv (.t 7), none⟩,
 ⟨some 52, .idxAddr 6 (.t 50) (.t 51), none⟩,
 ⟨some 53, .load true 6 (.t 52), none⟩,
 ⟨none, .store 6 (.t 4) (.t 53), none⟩,
 ⟨some 5, .mv (.c (.int .i64 0)), none⟩]
def a68_10 : List AOper := [
 ⟨some 55, .bin .eql (.t 20) (.c (.str [115, 101, 116, 101, 108, 101, 109, 101, 110, 116])), none⟩,
 ⟨some 54, .mv (.t 55), none⟩]
def a68_11 : List AOper := [
 ⟨some 56, .load true 6 (.t 6), none⟩,
 ⟨some 57, .mv (.t 1), none⟩,
 ⟨some 58, .idxAddr 6 (.t 57) (.c (.int .i64 1)), none⟩,
 ⟨some 59, .load true 6 (.t 58), none⟩,
 ⟨some 60, .call 110 [(.t 56), (.t 59)], none⟩,
 ⟨some 8, .mv (.t 60), none⟩]
def a68_11b : List Nat := [0, 0, 2, 6, 15, 31]
def a68_12 : List AOper := [
 ⟨some 61, .mv (.t 8), none⟩,
 ⟨some 62, .bin .geq (.t 61) (.c (.int .i64 0)), none⟩]
def a68_13 : List AOper := [
 ⟨some 63, .mv (.t 1), none⟩,
 ⟨some 64, .idxAddr 6 (.t 63) (.c (.int .i64 1)), none⟩,
 ⟨some 65, .fieldAddr 5 (.t 64), none⟩,
 ⟨some 66, .load false 1 (.t 65), none⟩,
 ⟨some 67, .call 104 [(.t 66)], none⟩,
 ⟨some 68, .build [(.int .i64 0), (.int .i64 0), (.str []), (.int .u32 0), .nils, .nils] [(0, 1, (.c (.int .i64 5))), (5, 1, (.t 67))], none⟩,
 ⟨some 9, .alloc [(.int .i64 0), (.int .i64 0), (.str []), (.int .u32 0), .nils, .nils], none⟩,
 ⟨none, .store 6 (.t 9) (.t 68), none⟩]
def a68_14 : List AOper := [
 ⟨some 69, .fieldAddr 5 (.t 9), none⟩,
 ⟨some 70, .load false 1 (.t 69), none⟩,
 ⟨some 71, .mv (.t 8), none⟩,
 ⟨some 72, .mv (.t 1), none⟩,
 ⟨some 73, .idxAddr 6 (.t 72) (.c (.int .i64 2)), none⟩,
 ⟨some 74, .load true 6 (.t 73), none⟩,
 ⟨some 75, .idxAddr 6 (.t 70) (.t 71), none⟩,
 ⟨none, .store 6 (.t 75) (.t 74), none⟩]
def a68_14b : List Nat := [0, 1, 0, 0, 8, 24, 63, 127]
def a68_15 : List AOper := [
 ⟨some 76, .load true 6 (.t 9), none⟩,
 ⟨none, .store 6 (.t 4) (.t 76), none⟩,
 ⟨some 5, .mv (.c (.int .i64 0)), none⟩]
def a68_16 : List AOper := [
 ⟨some 78, .bin .eql (.t 20) (.c (.str [104, 100])), none⟩,
 ⟨some 77, .mv (.t 78), none⟩]
def a68_17 : List AOper := [
 ⟨some 79, .bin .eql (.t 20) (.c (.str [116, 108])), none⟩,
 ⟨some 77, .mv (.t 79), none⟩]
def a68_18 : List AOper := [
 ⟨some 81, .load true 6 (.t 6), none⟩,
 ⟨some 82, .call 111 [(.t 81)], none⟩,
 ⟨some 80, .mv (.t 82), none⟩,
 ⟨some 83, .extract (.t 80) 0, none⟩,
 ⟨some 84, .extract (.t 80) 1, none⟩,
 ⟨some 85, .extract (.t 80) 2, none⟩,
 ⟨some 10, .alloc [(.int .i64 0), (.int .i64 0), (.str []), (.int .u32 0), .nils, .nils], none⟩,
 ⟨some 11, .alloc [(.int .i64 0), (.int .i64 0), (.str []), (.int .u32 0), .nils, .nils], none⟩,
 ⟨none, .store 6 (.t 10) (.t 83), none⟩,
 ⟨none, .store 6 (.t 11) (.t 84), none⟩,
 ⟨some 12, .mv (.t 85), none⟩]
def a68_19 : List AOper := [
 ⟨some 86, .mv (.t 12), none⟩]
def a68_20 : List AOper := [
 ⟨some 87, .mv (.t 0), none⟩,
 ⟨some 88, .bin .eql (.t 87) (.c (.str [104, 100])), none⟩]
def a68_21 : List AOper := [
 ⟨some 89, .load true 6 (.t 10), none⟩,
 ⟨none, .store 6 (.t 4) (.t 89), none⟩,
 ⟨some 5, .mv (.c (.int .i64 0)), none⟩]
def a68_22 : List AOper := [
 ⟨some 90, .load true 6 (.t 11), none⟩,
 ⟨none, .store 6 (.t 4) (.t 90), none⟩,
 ⟨some 5, .mv (.c (.int .i64 0)), none⟩]
def a68_23 : List AOper := [
 ⟨some 92, .bin .eql (.t 20) (.c (.str [110, 111, 100, 101])), none⟩,
 ⟨some 91, .mv (.t 92), none⟩]
def a68_24 : List AOper := [
 ⟨some 93, .fieldAddr 0 (.t 6), none⟩,
 ⟨some 94, .load false 1 (.t 93), none⟩,
 ⟨some 95, .bin .eql (.t 94) (.c (.int .i64 4)), none⟩,
 ⟨some 96, .mv (.t 95), none⟩,
 ⟨some 97, .fieldAddr 0 (.t 6), some (96, false)⟩,
 ⟨some 98, .load false 1 (.t 97), some (96, false)⟩,
 ⟨some 99, .bin .eql (.t 98) (.c (.int .i64 3)), some (96, false)⟩,
 ⟨some 100, .pick (.t 96) (.c (.bool true)) (.t 99), none⟩]
def a68_25 : List AOper := [
 ⟨some 101, .fieldAddr 2 (.t 6), none⟩,
 ⟨some 102, .load false 1 (.t 101), none⟩,
 ⟨some 103, .call 34 [(.t 102)], none⟩,
 ⟨none, .store 6 (.t 4) (.t 103), none⟩,
 ⟨some 5, .mv (.c (.int .i64 0)), none⟩]
def a68_26 : List AOper := [
 ⟨some 105, .bin .eql (.t 20) (.c (.str [116, 117, 112, 108, 101, 95, 115, 105, 122, 101])), none⟩,
 ⟨some 104, .mv (.t 105), none⟩]
def a68_27 : List AOper := [
 ⟨some 106, .fieldAddr 0 (.t 6), none⟩,
 ⟨some 107, .load false 1 (.t 106), none⟩,
 ⟨some 108, .bin .eql (.t 107) (.c (.int .i64 5)), none⟩]
def a68_28 : List AOper := [
 ⟨some 109, .fieldAddr 5 (.t 6), none⟩,
 ⟨some 110, .load false 1 (.t 109), none⟩,
 ⟨some 111, .len false (.t 110), none⟩,
 ⟨some 112, .call 59 [(.t 111)], none⟩,
 ⟨none, .store 6 (.t 4) (.t 112), none⟩,
 ⟨some 5, .mv (.c (.int .i64 0)), none⟩]
def a68_29 : List AOper := [
 ⟨some 114, .bin .eql (.t 20) (.c (.str [116, 117, 112, 108, 101, 95, 116, 111, 95, 108, 105, 115, 116])), none⟩,
 ⟨some 113, .mv (.t 114), none⟩]
def a68_30 : List AOper := [
 ⟨some 115, .fieldAddr 0 (.t 6), none⟩,
 ⟨some 116, .load false 1 (.t 115), none⟩,
 ⟨some 117, .bin .eql (.t 116) (.c (.int .i64 5)), none⟩]
def a68_31 : List AOper := [
 ⟨some 118, .fieldAddr 5 (.t 6), none⟩,
 ⟨some 119, .load false 1 (.t 118), none⟩,
 ⟨some 120, .call 108 [], none⟩,
 ⟨some 121, .call 103 [(.t 119), (.t 120)], none⟩,
 ⟨none, .store 6 (.t 4) (.t 121), none⟩,
 ⟨some 5, .mv (.c (.int .i64 0)), none⟩]
def a68_31b : List Nat := [0, 1, 0, 7, 15, 31]
def a68_32 : List AOper := [
 ⟨some 123, .bin .eql (.t 20) (.c (.str [108, 101, 110, 103, 116, 104])), none⟩,
 ⟨some 122, .mv (.t 123), none⟩]
def a68_33 : List AOper := [
 ⟨some 125, .load true 6 (.t 6), none⟩,
 ⟨some 126, .call 102 [(.t 125)], none⟩,
 ⟨some 124, .mv (.t 126), none⟩,
 ⟨some 127, .extract (.t 124) 0, none⟩,
 ⟨some 128, .extract (.t 124) 1, none⟩,
 ⟨some 13, .mv (.t 127), none⟩,
 ⟨some 14, .mv (.t 128), none⟩]
def a68_34 : List AOper := [
 ⟨some 129, .mv (.t 14), none⟩]
def a68_35 : List AOper := [
 ⟨some 130, .mv (.t 13), none⟩,
 ⟨some 131, .len false (.t 130), none⟩,
 ⟨some 132, .call 59 [(.t 131)], none⟩,
 ⟨none, .store 6 (.t 4) (.t 132), none⟩,
 ⟨some 5, .mv (.c (.int .i64 0)), none⟩]
def a68_36 : List AOper := [
 ⟨some 134, .bin .eql (.t 20) (.c (.str [108, 105, 115, 116, 95, 116, 111, 95, 116, 117, 112, 108, 101])), none⟩,
 ⟨some 133, .mv (.t 134), none⟩]
def a68_37 : List AOper := [
 ⟨some 136, .load true 6 (.t 6), none⟩,
 ⟨some 137, .call 102 [(.t 136)], none⟩,
 ⟨some 135, .mv (.t 137), none⟩,
 ⟨some 138, .extract (.t 135) 0, none⟩,
 ⟨some 139, .extract (.t 135) 1, none⟩,
 ⟨some 15, .mv (.t 138), none⟩,
 ⟨some 16, .mv (.t 139), none⟩]
def a68_38 : List AOper := [
 ⟨some 140, .mv (.t 16), none⟩]
def a68_39 : List AOper := [
 ⟨some 141, .mv (.t 15), none⟩,
 ⟨some 142, .build [(.int .i64 0), (.int .i64 0), (.str []), (.int .u32 0), .nils, .nils] [(0, 1, (.c (.int .i64 5))), (5, 1, (.t 141))], none⟩,
 ⟨none, .store 6 (.t 4) (.t 142), none⟩,
 ⟨some 5, .mv (.c (.int .i64 0)), none⟩]
def a68_40 : List AOper := [
 ⟨some 21, .mv (.t 0), none⟩,
 ⟨some 22, .load true 6 (.t 6), none⟩,
 ⟨some 23, .call 112 [(.t 21), (.t 22)], none⟩,
 ⟨some 24, .extract (.t 23) 0, none⟩,
 ⟨some 25, .extract (.t 23) 1, none⟩,
 ⟨none, .store 6 (.t 4) (.t 24), none⟩,
 ⟨some 5, .mv (.t 25), none⟩]
def a68_41 : List AOper := [
 ⟨some 143, .build [(.int .i64 0), (.int .i64 0), (.str []), (.int .u32 0), .nils, .nils] [], none⟩,
 ⟨none, .store 6 (.t 4) (.t 143), none⟩,
 ⟨some 5, .mv (.c (.int .i64 261)), none⟩]
def a68 : AFunc := ⟨[.cell 4 true 6, .tmp 5], (.seq (.ops a68_0) (.seq (.ops a68_1) (.seq (.seq (.ops a68_2) (.block 0 (.seq (.ops a68_3) (.cond (.t 26) (.seq (.ops a68_4) (.cond (.t 30) (.seq (.ops a68_5) .ret) .skip)) (.seq (.ops a68_6) (.cond (.t 38) (.seq (.draw a68_7 a68_7b) (.seq (.ops a68_8) (.cond (.t 46) (.seq (.ops a68_9) .ret) .skip))) (.seq (.ops a68_10) (.cond (.t 54) (.seq (.draw a68_11 a68_11b) (.seq (.ops a68_12) (.cond (.t 62) (.seq (.ops a68_13) (.seq (.draw a68_14 a68_14b) (.seq (.ops a68_15) .ret))) .skip))) (.seq (.seq (.ops a68_16) (.cond (.t 77) .skip (.ops a68_17))) (.cond (.t 77) (.seq (.ops a68_18) (.seq (.ops a68_19) (.cond (.t 86) (.seq (.seq (.ops a68_20) (.cond (.t 88) (.seq (.ops a68_21) .ret) .skip)) (.seq (.ops a68_22) .ret)) .skip))) (.seq (.ops a68_23) (.cond (.t 91) (.seq (.ops a68_24) (.cond (.t 100) (.seq (.ops a68_25) .ret) .skip)) (.seq (.ops a68_26) (.cond (.t 104) (.seq (.ops a68_27) (.cond (.t 108) (.seq (.ops a68_28) .ret) .skip)) (.seq (.ops a68_29) (.cond (.t 113) (.seq (.ops a68_30) (.cond (.t 117) (.seq (.draw a68_31 a68_31b) .ret) .skip)) (.seq (.ops a68_32) (.cond (.t 122) (.seq (.ops a68_33) (.seq (.ops a68_34) (.cond (.t 129) (.seq (.ops a68_35) .ret) .skip))) (.seq (.ops a68_36) (.cond (.t 133) (.seq (.ops a68_37) (.seq (.ops a68_38) (.cond (.t 140) (.seq (.ops a68_39) .ret) .skip))) (.seq (.ops a68_40) .ret))))))))))))))))))))) (.seq (.ops a68_41) .ret))))⟩
/-! ### 69: slices.Clone[[]uint32,uint32] (8 slots) -/
def a69_0 : List AOper := [
 ⟨some 2, .mv (.c .nils), none⟩]
def a69_1 : List AOper := [
 ⟨some 3, .mv (.t 0), none⟩,
 ⟨some 4, .eq false .slice (.t 3) (.c .nils), none⟩]
def a69_2 : List AOper := [
 ⟨some 2, .mv (.c .nils), none⟩]
def a69_3 : List AOper := [
 ⟨some 5, .lit true 1 0 [] [], none⟩,
 ⟨some 6, .mv (.t 0), none⟩,
 ⟨some 7, .append 1 4 (.t 5) (.t 6), none⟩,
 ⟨some 2, .mv (.t 7), none⟩]
def a69 : AFunc := ⟨[.tmp 2], (.seq (.ops a69_0) (.seq (.seq (.ops a69_1) (.cond (.t 4) (.seq (.ops a69_2) .ret) .skip)) (.seq (.ops a69_3) .ret)))⟩
/-! ### 70: heddle/heddleref02.cmp (11 slots) -/
def a70_0 : List AOper := [
 ⟨some 4, .mv (.c (.int .i64 0)), none⟩]
def a70_1 : List AOper := [
 ⟨some 5, .mv (.t 0), none⟩,
 ⟨some 6, .mv (.t 1), none⟩,
 ⟨some 7, .bin .lss (.t 5) (.t 6), none⟩]
def a70_2 : List AOper := [
 ⟨some 4, .mv (.c (.int .i64 (-1))), none⟩]
def a70_3 : List AOper := [
 ⟨some 8, .mv (.t 0), none⟩,
 ⟨some 9, .mv (.t 1), none⟩,
 ⟨some 10, .bin .gtr (.t 8) (.t 9), none⟩]
def a70_4 : List AOper := [
 ⟨some 4, .mv (.c (.int .i64 1)), none⟩]
def a70_5 : List AOper := [
 ⟨some 4, .mv (.c (.int .i64 0)), none⟩]
def a70 : AFunc := ⟨[.tmp 4], (.seq (.ops a70_0) (.seq (.seq (.ops a70_1) (.cond (.t 7) (.seq (.ops a70_2) .ret) .skip)) (.seq (.seq (.ops a70_3) (.cond (.t 10) (.seq (.ops a70_4) .ret) .skip)) (.seq (.ops a70_5) .ret))))⟩
/-! ### 71: heddle/heddleref01.Compare (42 slots) -/
def a71_0 : List AOper := [
 ⟨some 4, .mv (.c (.int .i64 0)), none⟩]
def a71_1 : List AOper := [
 ⟨some 5, .mv (.c (.int .i64 0)), none⟩]
def a71_2 : List AOper := [
 ⟨some 6, .mv (.t 5), none⟩,
 ⟨some 7, .mv (.t 0), none⟩,
 ⟨some 8, .len true (.t 7), none⟩,
 ⟨some 9, .bin .lss (.t 6) (.t 8), none⟩,
 ⟨some 10, .mv (.t 9), none⟩,
 ⟨some 11, .mv (.t 5), some (10, true)⟩,
 ⟨some 12, .mv (.t 1), some (10, true)⟩,
 ⟨some 13, .len true (.t 12), some (10, true)⟩,
 ⟨some 14, .bin .lss (.t 11) (.t 13), some (10, true)⟩,
 ⟨some 15, .pick (.t 10) (.t 14) (.c (.bool false)), none⟩]
def a71_3 : List AOper := [
 ⟨some 18, .mv (.t 0), none⟩,
 ⟨some 19, .mv (.t 5), none⟩,
 ⟨some 20, .idxStr (.t 18) (.t 19), none⟩,
 ⟨some 21, .mv (.t 1), none⟩,
 ⟨some 22, .mv (.t 5), none⟩,
 ⟨some 23, .idxStr (.t 21) (.t 22), none⟩,
 ⟨some 24, .bin .lss (.t 20) (.t 23), none⟩]
def a71_3b : List Nat := [0, 0, 3, 0, 0, 24, 63]
def a71_4 : List AOper := [
 ⟨some 4, .mv (.c (.int .i64 (-1))), none⟩]
def a71_5 : List AOper := [
 ⟨some 25, .mv (.t 0), none⟩,
 ⟨some 26, .mv (.t 5), none⟩,
 ⟨some 27, .idxStr (.t 25) (.t 26), none⟩,
 ⟨some 28, .mv (.t 1), none⟩,
 ⟨some 29, .mv (.t 5), none⟩,
 ⟨some 30, .idxStr (.t 28) (.t 29), none⟩,
 ⟨some 31, .bin .gtr (.t 27) (.t 30), none⟩]
def a71_5b : List Nat := [0, 0, 3, 0, 0, 24, 63]
def a71_6 : List AOper := [
 ⟨some 4, .mv (.c (.int .i64 1)), none⟩]
def a71_7 : List AOper := [
 ⟨some 16, .mv (.t 5), none⟩,
 ⟨some 17, .bin .add (.t 16) (.c (.int .i64 1)), none⟩,
 ⟨some 5, .mv (.t 17), none⟩]
def a71_l8 : AC := (.seq (.seq (.ops a71_2) (.cond (.t 15) .skip (.exit 0))) (.seq (.block 1 (.seq (.seq (.draw a71_3 a71_3b) (.cond (.t 24) (.seq (.ops a71_4) .ret) .skip)) (.seq (.draw a71_5 a71_5b) (.cond (.t 31) (.seq (.ops a71_6) .ret) .skip)))) (.ops a71_7)))
def a71_9 : List AOper := [
 ⟨some 32, .mv (.t 0), none⟩,
 ⟨some 33, .len true (.t 32), none⟩,
 ⟨some 34, .mv (.t 1), none⟩,
 ⟨some 35, .len true (.t 34), none⟩,
 ⟨some 36, .bin .lss (.t 33) (.t 35), none⟩]
def a71_10 : List AOper := [
 ⟨some 4, .mv (.c (.int .i64 (-1))), none⟩]
def a71_11 : List AOper := [
 ⟨some 37, .mv (.t 0), none⟩,
 ⟨some 38, .len true (.t 37), none⟩,
 ⟨some 39, .mv (.t 1), none⟩,
 ⟨some 40, .len true (.t 39), none⟩,
 ⟨some 41, .bin .gtr (.t 38) (.t 40), none⟩]
def a71_12 : List AOper := [
 ⟨some 4, .mv (.c (.int .i64 1)), none⟩]
def a71_13 : List AOper := [
 ⟨some 4, .mv (.c (.int .i64 0)), none⟩]
def a71 : AFunc := ⟨[.tmp 4], (.seq (.ops a71_0) (.seq (.seq (.ops a71_1) (.block 0 (.loop a71_l8))) (.seq (.seq (.ops a71_9) (.cond (.t 36) (.seq (.ops a71_10) .ret) .skip)) (.seq (.seq (.ops a71_11) (.cond (.t 41) (.seq (.ops a71_12) .ret) .skip)) (.seq (.ops a71_13) .ret)))))⟩
/-! ### 72: heddle/heddleref02.lists (33 slots) -/
def a72_0 : List AOper := [
 ⟨some 2, .box false 6 (.t 0), none⟩,
 ⟨some 3, .box false 6 (.t 1), none⟩,
 ⟨some 4, .mv (.c (.int .i64 0)), none⟩]
def a72_1 : List AOper := [
 ⟨some 6, .fieldAddr 0 (.t 2), none⟩,
 ⟨some 7, .load false 1 (.t 6), none⟩,
 ⟨some 8, .bin .eql (.t 7) (.c (.int .i64 7)), none⟩,
 ⟨some 9, .mv (.t 8), none⟩,
 ⟨some 10, .fieldAddr 0 (.t 3), some (9, true)⟩,
 ⟨some 11, .load false 1 (.t 10), some (9, true)⟩,
 ⟨some 12, .bin .eql (.t 11) (.c (.int .i64 7)), some (9, true)⟩,
 ⟨some 13, .pick (.t 9) (.t 12) (.c (.bool false)), none⟩]
def a72_2 : List AOper := [
 ⟨some 14, .fieldAddr 5 (.t 2), none⟩,
 ⟨some 15, .load false 1 (.t 14), none⟩,
 ⟨some 16, .idxAddr 6 (.t 15) (.c (.int .i64 0)), none⟩,
 ⟨some 17, .load true 6 (.t 16), none⟩,
 ⟨some 18, .fieldAddr 5 (.t 3), none⟩,
 ⟨some 19, .load false 1 (.t 18), none⟩,
 ⟨some 20, .idxAddr 6 (.t 19) (.c (.int .i64 0)), none⟩,
 ⟨some 21, .load true 6 (.t 20), none⟩,
 ⟨some 22, .call 40 [(.t 17), (.t 21)], none⟩,
 ⟨some 5, .mv (.t 22), none⟩]
def a72_2b : List Nat := [0, 1, 3, 7, 0, 16, 48, 112, 255, 511]
def a72_3 : List AOper := [
 ⟨some 23, .mv (.t 5), none⟩,
 ⟨some 24, .bin .neq (.t 23) (.c (.int .i64 0)), none⟩]
def a72_4 : List AOper := [
 ⟨some 25, .mv (.t 5), none⟩,
 ⟨some 4, .mv (.t 25), none⟩]
def a72_5 : List AOper := [
 ⟨some 26, .load true 6 (.t 2), none⟩,
 ⟨some 27, .call 113 [(.t 26)], none⟩,
 ⟨none, .store 6 (.t 2) (.t 27), none⟩]
def a72_6 : List AOper := [
 ⟨some 28, .load true 6 (.t 3), none⟩,
 ⟨some 29, .call 113 [(.t 28)], none⟩,
 ⟨none, .store 6 (.t 3) (.t 29), none⟩]
def a72_l7 : AC := (.seq (.seq (.ops a72_1) (.cond (.t 13) .skip (.exit 0))) (.block 1 (.seq (.draw a72_2 a72_2b) (.seq (.seq (.ops a72_3) (.cond (.t 24) (.seq (.ops a72_4) .ret) .skip)) (.seq (.ops a72_5) (.ops a72_6))))))
def a72_8 : List AOper := [
 ⟨some 30, .load true 6 (.t 2), none⟩,
 ⟨some 31, .load true 6 (.t 3), none⟩,
 ⟨some 32, .call 40 [(.t 30), (.t 31)], none⟩,
 ⟨some 4, .mv (.t 32), none⟩]
def a72 : AFunc := ⟨[.tmp 4], (.seq (.ops a72_0) (.seq (.block 0 (.loop a72_l7)) (.seq (.ops a72_8) .ret)))⟩
/-! ### 73: heddle/heddlemem.One (12 slots) -/
def a73_0 : List AOper := [
 ⟨some 6, .mv (.c .nils), none⟩]
def a73_1 : List AOper := [
 ⟨some 7, .mv (.t 0), none⟩,
 ⟨some 8, .mv (.t 1), none⟩,
 ⟨some 9, .mv (.t 2), none⟩,
 ⟨some 10, .build [(.str []), (.int .i64 0), (.int .i64 0)] [(0, 1, (.t 7)), (1, 1, (.t 8)), (2, 1, (.t 9))], none⟩,
 ⟨some 11, .lit true 3 1 [(.str []), (.int .i64 0), (.int .i64 0)] [(0, 3, (.t 10))], none⟩,
 ⟨some 6, .mv (.t 11), none⟩]
def a73 : AFunc := ⟨[.tmp 6], (.seq (.ops a73_0) (.seq (.ops a73_1) .ret))⟩
/-! ### 74: heddle/heddleref13.ints (72 slots) -/
def a74_0 : List AOper := [
 ⟨some 4, .alloc [(.int .i64 0), (.int .i64 0), (.str []), (.int .u32 0), .nils, .nils], none⟩,
 ⟨some 5, .mv (.c (.int .i64 0)), none⟩]
def a74_1 : List AOper := [
 ⟨some 6, .mv (.c (.int .i64 0)), none⟩]
def a74_2 : List AOper := [
 ⟨some 9, .mv (.t 6), none⟩,
 ⟨some 10, .mv (.t 1), none⟩,
 ⟨some 11, .len false (.t 10), none⟩,
 ⟨some 12, .bin .lss (.t 9) (.t 11), none⟩]
def a74_3 : List AOper := [
 ⟨some 15, .mv (.t 1), none⟩,
 ⟨some 16, .mv (.t 6), none⟩,
 ⟨some 17, .idxAddr 6 (.t 15) (.t 16), none⟩,
 ⟨some 18, .fieldAddr 0 (.t 17), none⟩,
 ⟨some 19, .load false 1 (.t 18), none⟩,
 ⟨some 20, .bin .neq (.t 19) (.c (.int .i64 1)), none⟩]
def a74_4 : List AOper := [
 ⟨some 21, .build [(.int .i64 0), (.int .i64 0), (.str []), (.int .u32 0), .nils, .nils] [], none⟩,
 ⟨none, .store 6 (.t 4) (.t 21), none⟩,
 ⟨some 5, .mv (.c (.int .i64 260)), none⟩]
def a74_5 : List AOper := [
 ⟨some 13, .mv (.t 6), none⟩,
 ⟨some 14, .bin .add (.t 13) (.c (.int .i64 1)), none⟩,
 ⟨some 6, .mv (.t 14), none⟩]
def a74_l6 : AC := (.seq (.seq (.ops a74_2) (.cond (.t 12) .skip (.exit 0))) (.seq (.block 1 (.seq (.ops a74_3) (.cond (.t 20) (.seq (.ops a74_4) .ret) .skip))) (.ops a74_5)))
def a74_7 : List AOper := [
 ⟨some 22, .mv (.t 1), none⟩,
 ⟨some 23, .idxAddr 6 (.t 22) (.c (.int .i64 0)), none⟩,
 ⟨some 24, .fieldAddr 1 (.t 23), none⟩,
 ⟨some 25, .load false 1 (.t 24), none⟩,
 ⟨some 7, .mv (.t 25), none⟩]
def a74_8 : List AOper := [
 ⟨some 26, .mv (.t 1), none⟩,
 ⟨some 27, .len false (.t 26), none⟩,
 ⟨some 28, .bin .eql (.t 27) (.c (.int .i64 1)), none⟩]
def a74_9 : List AOper := [
 ⟨some 29, .mv (.t 0), none⟩,
 ⟨some 30, .bin .eql (.t 29) (.c (.str [45])), none⟩]
def a74_10 : List AOper := [
 ⟨some 31, .mv (.t 7), none⟩,
 ⟨some 32, .un .neg (.t 31), none⟩,
 ⟨some 7, .mv (.t 32), none⟩]
def a74_11 : List AOper := [
 ⟨some 33, .mv (.t 7), none⟩,
 ⟨some 34, .call 22 [(.t 33)], none⟩,
 ⟨none, .store 6 (.t 4) (.t 34), none⟩,
 ⟨some 5, .mv (.c (.int .i64 0)), none⟩]
def a74_12 : List AOper := [
 ⟨some 35, .mv (.t 1), none⟩,
 ⟨some 36, .idxAddr 6 (.t 35) (.c (.int .i64 1)), none⟩,
 ⟨some 37, .fieldAddr 1 (.t 36), none⟩,
 ⟨some 38, .load false 1 (.t 37), none⟩,
 ⟨some 8, .mv (.t 38), none⟩]
def a74_13 : List AOper := [
 ⟨some 39, .mv (.t 0), none⟩]
def a74_14 : List AOper := [
 ⟨some 41, .bin .eql (.t 39) (.c (.str [43])), none⟩,
 ⟨some 40, .mv (.t 41), none⟩]
def a74_15 : List AOper := [
 ⟨some 42, .mv (.t 7), none⟩,
 ⟨some 43, .mv (.t 8), none⟩,
 ⟨some 44, .bin .add (.t 42) (.t 43), none⟩,
 ⟨some 45, .call 22 [(.t 44)], none⟩,
 ⟨none, .store 6 (.t 4) (.t 45), none⟩,
 ⟨some 5, .mv (.c (.int .i64 0)), none⟩]
def a74_16 : List AOper := [
 ⟨some 47, .bin .eql (.t 39) (.c (.str [45])), none⟩,
 ⟨some 46, .mv (.t 47), none⟩]
def a74_17 : List AOper := [
 ⟨some 48, .mv (.t 7), none⟩,
 ⟨some 49, .mv (.t 8), none⟩,
 ⟨some 50, .bin .sub (.t 48) (.t 49), none⟩,
 ⟨some 51, .call 22 [(.t 50)], none⟩,
 ⟨none, .store 6 (.t 4) (.t 51), none⟩,
 ⟨some 5, .mv (.c (.int .i64 0)), none⟩]
def a74_18 : List AOper := [
 ⟨some 53, .bin .eql (.t 39) (.c (.str [42])), none⟩,
 ⟨some 52, .mv (.t 53), none⟩]
def a74_19 : List AOper := [
 ⟨some 54, .mv (.t 7), none⟩,
 ⟨some 55, .mv (.t 8), none⟩,
 ⟨some 56, .call 114 [(.t 54), (.t 55)], none⟩,
 ⟨some 57, .extract (.t 56) 0, none⟩,
 ⟨some 58, .extract (.t 56) 1, none⟩,
 ⟨none, .store 6 (.t 4) (.t 57), none⟩,
 ⟨some 5, .mv (.t 58), none⟩]
def a74_20 : List AOper := [
 ⟨some 59, .mv (.t 8), none⟩,
 ⟨some 60, .bin .eql (.t 59) (.c (.int .i64 0)), none⟩]
def a74_21 : List AOper := [
 ⟨some 61, .build [(.int .i64 0), (.int .i64 0), (.str []), (.int .u32 0), .nils, .nils] [], none⟩,
 ⟨none, .store 6 (.t 4) (.t 61), none⟩,
 ⟨some 5, .mv (.c (.int .i64 260)), none⟩]
def a74_22 : List AOper := [
 ⟨some 62, .mv (.t 0), none⟩,
 ⟨some 63, .bin .eql (.t 62) (.c (.str [100, 105, 118])), none⟩]
def a74_23 : List AOper := [
 ⟨some 64, .mv (.t 7), none⟩,
 ⟨some 65, .mv (.t 8), none⟩,
 ⟨some 66, .bin .quo (.t 64) (.t 65), none⟩,
 ⟨some 67, .call 22 [(.t 66)], none⟩,
 ⟨none, .store 6 (.t 4) (.t 67), none⟩,
 ⟨some 5, .mv (.c (.int .i64 0)), none⟩]
def a74_24 : List AOper := [
 ⟨some 68, .mv (.t 7), none⟩,
 ⟨some 69, .mv (.t 8), none⟩,
 ⟨some 70, .bin .rem (.t 68) (.t 69), none⟩,
 ⟨some 71, .call 22 [(.t 70)], none⟩,
 ⟨none, .store 6 (.t 4) (.t 71), none⟩,
 ⟨some 5, .mv (.c (.int .i64 0)), none⟩]
def a74 : AFunc := ⟨[.cell 4 true 6, .tmp 5], (.seq (.ops a74_0) (.seq (.seq (.ops a74_1) (.block 0 (.loop a74_l6))) (.seq (.ops a74_7) (.seq (.seq (.ops a74_8) (.cond (.t 28) (.seq (.seq (.ops a74_9) (.cond (.t 30) (.ops a74_10) .skip)) (.seq (.ops a74_11) .ret)) .skip)) (.seq (.ops a74_12) (.seq (.seq (.ops a74_13) (.block 2 (.seq (.ops a74_14) (.cond (.t 40) (.seq (.ops a74_15) .ret) (.seq (.ops a74_16) (.cond (.t 46) (.seq (.ops a74_17) .ret) (.seq (.ops a74_18) (.cond (.t 52) (.seq (.ops a74_19) .ret) .skip)))))))) (.seq (.seq (.ops a74_20) (.cond (.t 60) (.seq (.ops a74_21) .ret) .skip)) (.seq (.seq (.ops a74_22) (.cond (.t 63) (.seq (.ops a74_23) .ret) .skip)) (.seq (.ops a74_24) .ret)))))))))⟩
/-! ### 75: heddle/heddleref13.truths (61 slots) -/
def a75_0 : List AOper := [
 ⟨some 4, .alloc [(.int .i64 0), (.int .i64 0), (.str []), (.int .u32 0), .nils, .nils], none⟩,
 ⟨some 5, .mv (.c (.int .i64 0)), none⟩]
def a75_1 : List AOper := [
 ⟨some 12, .mv (.t 1), none⟩,
 ⟨some 13, .idxAddr 6 (.t 12) (.c (.int .i64 0)), none⟩,
 ⟨some 14, .load true 6 (.t 13), none⟩,
 ⟨some 15, .call 115 [(.t 14)], none⟩,
 ⟨some 11, .mv (.t 15), none⟩,
 ⟨some 16, .extract (.t 11) 0, none⟩,
 ⟨some 17, .extract (.t 11) 1, none⟩,
 ⟨some 6, .mv (.t 16), none⟩,
 ⟨some 7, .mv (.t 17), none⟩]
def a75_2 : List AOper := [
 ⟨some 18, .mv (.t 6), none⟩,
 ⟨some 8, .mv (.t 18), none⟩]
def a75_3 : List AOper := [
 ⟨some 19, .mv (.t 1), none⟩,
 ⟨some 20, .len false (.t 19), none⟩,
 ⟨some 21, .bin .eql (.t 20) (.c (.int .i64 2)), none⟩]
def a75_4 : List AOper := [
 ⟨some 23, .mv (.t 1), none⟩,
 ⟨some 24, .idxAddr 6 (.t 23) (.c (.int .i64 1)), none⟩,
 ⟨some 25, .load true 6 (.t 24), none⟩,
 ⟨some 26, .call 115 [(.t 25)], none⟩,
 ⟨some 22, .mv (.t 26), none⟩,
 ⟨some 27, .extract (.t 22) 0, none⟩,
 ⟨some 28, .extract (.t 22) 1, none⟩,
 ⟨some 9, .mv (.t 27), none⟩,
 ⟨some 10, .mv (.t 28), none⟩]
def a75_5 : List AOper := [
 ⟨some 29, .mv (.t 9), none⟩,
 ⟨some 8, .mv (.t 29), none⟩]
def a75_6 : List AOper := [
 ⟨some 30, .mv (.t 7), none⟩,
 ⟨some 31, .mv (.t 30), none⟩,
 ⟨some 32, .mv (.t 10), some (31, true)⟩,
 ⟨some 33, .pick (.t 31) (.t 32) (.c (.bool false)), none⟩,
 ⟨some 7, .mv (.t 33), none⟩]
def a75_7 : List AOper := [
 ⟨some 34, .mv (.t 7), none⟩,
 ⟨some 35, .un .not (.t 34), none⟩]
def a75_8 : List AOper := [
 ⟨some 36, .build [(.int .i64 0), (.int .i64 0), (.str []), (.int .u32 0), .nils, .nils] [], none⟩,
 ⟨none, .store 6 (.t 4) (.t 36), none⟩,
 ⟨some 5, .mv (.c (.int .i64 261)), none⟩]
def a75_9 : List AOper := [
 ⟨some 37, .mv (.t 0), none⟩]
def a75_10 : List AOper := [
 ⟨some 39, .bin .eql (.t 37) (.c (.str [110, 111, 116])), none⟩,
 ⟨some 38, .mv (.t 39), none⟩]
def a75_11 : List AOper := [
 ⟨some 40, .mv (.t 6), none⟩,
 ⟨some 41, .un .not (.t 40), none⟩,
 ⟨some 42, .call 77 [(.t 41)], none⟩,
 ⟨none, .store 6 (.t 4) (.t 42), none⟩,
 ⟨some 5, .mv (.c (.int .i64 0)), none⟩]
def a75_12 : List AOper := [
 ⟨some 44, .bin .eql (.t 37) (.c (.str [97, 110, 100])), none⟩,
 ⟨some 43, .mv (.t 44), none⟩]
def a75_13 : List AOper := [
 ⟨some 45, .mv (.t 6), none⟩,
 ⟨some 46, .mv (.t 45), none⟩,
 ⟨some 47, .mv (.t 8), some (46, true)⟩,
 ⟨some 48, .pick (.t 46) (.t 47) (.c (.bool false)), none⟩,
 ⟨some 49, .call 77 [(.t 48)], none⟩,
 ⟨none, .store 6 (.t 4) (.t 49), none⟩,
 ⟨some 5, .mv (.c (.int .i64 0)), none⟩]
def a75_14 : List AOper := [
 ⟨some 51, .bin .eql (.t 37) (.c (.str [111, 114])), none⟩,
 ⟨some 50, .mv (.t 51), none⟩]
def a75_15 : List AOper := [
 ⟨some 52, .mv (.t 6), none⟩,
 ⟨some 53, .mv (.t 52), none⟩,
 ⟨some 54, .mv (.t 8), some (53, false)⟩,
 ⟨some 55, .pick (.t 53) (.c (.bool true)) (.t 54), none⟩,
 ⟨some 56, .call 77 [(.t 55)], none⟩,
 ⟨none, .store 6 (.t 4) (.t 56), none⟩,
 ⟨some 5, .mv (.c (.int .i64 0)), none⟩]
def a75_16 : List AOper := [
 ⟨some 57, .mv (.t 6), none⟩,
 ⟨some 58, .mv (.t 8), none⟩,
 ⟨some 59, .eq true .bool (.t 57) (.t 58), none⟩,
 ⟨some 60, .call 77 [(.t 59)], none⟩,
 ⟨none, .store 6 (.t 4) (.t 60), none⟩,
 ⟨some 5, .mv (.c (.int .i64 0)), none⟩]
def a75 : AFunc := ⟨[.cell 4 true 6, .tmp 5], (.seq (.ops a75_0) (.seq (.ops a75_1) (.seq (.ops a75_2) (.seq (.seq (.ops a75_3) (.cond (.t 21) (.seq (.ops a75_4) (.seq (.ops a75_5) (.ops a75_6))) .skip)) (.seq (.seq (.ops a75_7) (.cond (.t 35) (.seq (.ops a75_8) .ret) .skip)) (.seq (.seq (.ops a75_9) (.block 0 (.seq (.ops a75_10) (.cond (.t 38) (.seq (.ops a75_11) .ret) (.seq (.ops a75_12) (.cond (.t 43) (.seq (.ops a75_13) .ret) (.seq (.ops a75_14) (.cond (.t 50) (.seq (.ops a75_15) .ret) .skip)))))))) (.seq (.ops a75_16) .ret)))))))⟩
/-! ### 76: heddle/heddleref13.joined (74 slots) -/
def a76_0 : List AOper := [
 ⟨some 4, .box false 6 (.t 1), none⟩,
 ⟨some 5, .box false 6 (.t 2), none⟩,
 ⟨some 6, .alloc [(.int .i64 0), (.int .i64 0), (.str []), (.int .u32 0), .nils, .nils], none⟩,
 ⟨some 7, .mv (.c (.int .i64 0)), none⟩]
def a76_1 : List AOper := [
 ⟨some 16, .load true 6 (.t 4), none⟩,
 ⟨some 17, .call 116 [(.t 16)], none⟩,
 ⟨some 15, .mv (.t 17), none⟩,
 ⟨some 18, .extract (.t 15) 0, none⟩,
 ⟨some 19, .extract (.t 15) 1, none⟩,
 ⟨some 8, .mv (.t 18), none⟩,
 ⟨some 9, .mv (.t 19), none⟩]
def a76_2 : List AOper := [
 ⟨some 20, .mv (.t 9), none⟩,
 ⟨some 21, .un .not (.t 20), none⟩]
def a76_3 : List AOper := [
 ⟨some 22, .build [(.int .i64 0), (.int .i64 0), (.str []), (.int .u32 0), .nils, .nils] [], none⟩,
 ⟨none, .store 6 (.t 6) (.t 22), none⟩,
 ⟨some 7, .mv (.c (.int .i64 261)), none⟩]
def a76_4 : List AOper := [
 ⟨some 23, .mv (.t 0), none⟩,
 ⟨some 24, .bin .eql (.t 23) (.c (.str [43, 43])), none⟩]
def a76_5 : List AOper := [
 ⟨some 25, .mv (.t 8), none⟩,
 ⟨some 26, .load true 6 (.t 5), none⟩,
 ⟨some 27, .call 41 [(.t 25), (.t 26)], none⟩,
 ⟨none, .store 6 (.t 6) (.t 27), none⟩,
 ⟨some 7, .mv (.c (.int .i64 0)), none⟩]
def a76_6 : List AOper := [
 ⟨some 29, .load true 6 (.t 5), none⟩,
 ⟨some 30, .call 116 [(.t 29)], none⟩,
 ⟨some 28, .mv (.t 30), none⟩,
 ⟨some 31, .extract (.t 28) 0, none⟩,
 ⟨some 32, .extract (.t 28) 1, none⟩,
 ⟨some 10, .mv (.t 31), none⟩,
 ⟨some 11, .mv (.t 32), none⟩]
def a76_7 : List AOper := [
 ⟨some 33, .mv (.t 11), none⟩,
 ⟨some 34, .un .not (.t 33), none⟩]
def a76_8 : List AOper := [
 ⟨some 35, .build [(.int .i64 0), (.int .i64 0), (.str []), (.int .u32 0), .nils, .nils] [], none⟩,
 ⟨none, .store 6 (.t 6) (.t 35), none⟩,
 ⟨some 7, .mv (.c (.int .i64 261)), none⟩]
def a76_9 : List AOper := [
 ⟨some 36, .lit true 6 0 [] [], none⟩,
 ⟨some 37, .mv (.t 8), none⟩,
 ⟨some 38, .append 6 88 (.t 36) (.t 37), none⟩,
 ⟨some 12, .mv (.t 38), none⟩]
def a76_10 : List AOper := [
 ⟨some 13, .mv (.c (.int .i64 0)), none⟩]
def a76_11 : List AOper := [
 ⟨some 39, .mv (.t 13), none⟩,
 ⟨some 40, .mv (.t 10), none⟩,
 ⟨some 41, .len false (.t 40), none⟩,
 ⟨some 42, .bin .lss (.t 39) (.t 41), none⟩]
def a76_12 : List AOper := [
 ⟨some 14, .mv (.c (.int .i64 0)), none⟩]
def a76_13 : List AOper := [
 ⟨some 45, .mv (.t 14), none⟩,
 ⟨some 46, .mv (.t 12), none⟩,
 ⟨some 47, .len false (.t 46), none⟩,
 ⟨some 48, .bin .lss (.t 45) (.t 47), none⟩]
def a76_14 : List AOper := [
 ⟨some 51, .mv (.t 12), none⟩,
 ⟨some 52, .mv (.t 14), none⟩,
 ⟨some 53, .idxAddr 6 (.t 51) (.t 52), none⟩,
 ⟨some 54, .load true 6 (.t 53), none⟩,
 ⟨some 55, .mv (.t 10), none⟩,
 ⟨some 56, .mv (.t 13), none⟩,
 ⟨some 57, .idxAddr 6 (.t 55) (.t 56), none⟩,
 ⟨some 58, .load true 6 (.t 57), none⟩,
 ⟨some 59, .call 20 [(.t 54), (.t 58)], none⟩,
 ⟨some 60, .bin .eql (.t 59) (.c (.int .i64 0)), none⟩]
def a76_14b : List Nat := [0, 0, 3, 7, 0, 0, 48, 112, 255, 511]
def a76_15 : List AOper := [
 ⟨some 61, .lit true 6 0 [] [], none⟩,
 ⟨some 62, .mv (.t 12), none⟩,
 ⟨some 63, .mv (.t 14), none⟩,
 ⟨some 64, .slice 6 (.t 62) none (some (.t 63)) none, none⟩,
 ⟨some 65, .append 6 88 (.t 61) (.t 64), none⟩,
 ⟨some 66, .mv (.t 12), none⟩,
 ⟨some 67, .mv (.t 14), none⟩,
 ⟨some 68, .bin .add (.t 67) (.c (.int .i64 1)), none⟩,
 ⟨some 69, .slice 6 (.t 66) (some (.t 68)) none none, none⟩,
 ⟨some 70, .append 6 88 (.t 65) (.t 69), none⟩,
 ⟨some 12, .mv (.t 70), none⟩]
def a76_15b : List Nat := [0, 0, 0, 6, 15, 0, 0, 64, 224, 511, 1023]
def a76_16 : List AOper := [
 ⟨some 49, .mv (.t 14), none⟩,
 ⟨some 50, .bin .add (.t 49) (.c (.int .i64 1)), none⟩,
 ⟨some 14, .mv (.t 50), none⟩]
def a76_l17 : AC := (.seq (.seq (.ops a76_13) (.cond (.t 48) .skip (.exit 2))) (.seq (.block 3 (.seq (.draw a76_14 a76_14b) (.cond (.t 60) (.seq (.draw a76_15 a76_15b) (.exit 2)) .skip))) (.ops a76_16)))
def a76_18 : List AOper := [
 ⟨some 43, .mv (.t 13), none⟩,
 ⟨some 44, .bin .add (.t 43) (.c (.int .i64 1)), none⟩,
 ⟨some 13, .mv (.t 44), none⟩]
def a76_l19 : AC := (.seq (.seq (.ops a76_11) (.cond (.t 42) .skip (.exit 0))) (.seq (.block 1 (.seq (.ops a76_12) (.block 2 (.loop a76_l17)))) (.ops a76_18)))
def a76_20 : List AOper := [
 ⟨some 71, .mv (.t 12), none⟩,
 ⟨some 72, .build [(.int .i64 0), (.int .i64 0), (.str []), (.int .u32 0), .nils, .nils] [(0, 1, (.c (.int .i64 6)))], none⟩,
 ⟨some 73, .call 41 [(.t 71), (.t 72)], none⟩,
 ⟨none, .store 6 (.t 6) (.t 73), none⟩,
 ⟨some 7, .mv (.c (.int .i64 0)), none⟩]
def a76 : AFunc := ⟨[.cell 6 true 6, .tmp 7], (.seq (.ops a76_0) (.seq (.ops a76_1) (.seq (.seq (.ops a76_2) (.cond (.t 21) (.seq (.ops a76_3) .ret) .skip)) (.seq (.seq (.ops a76_4) (.cond (.t 24) (.seq (.ops a76_5) .ret) .skip)) (.seq (.ops a76_6) (.seq (.seq (.ops a76_7) (.cond (.t 34) (.seq (.ops a76_8) .ret) .skip)) (.seq (.ops a76_9) (.seq (.seq (.ops a76_10) (.block 0 (.loop a76_l19))) (.seq (.ops a76_20) .ret)))))))))⟩
/-! ### 77: heddle/heddleref13.Bool (6 slots) -/
def a77_0 : List AOper := [
 ⟨some 2, .alloc [(.int .i64 0), (.int .i64 0), (.str []), (.int .u32 0), .nils, .nils], none⟩]
def a77_1 : List AOper := [
 ⟨some 3, .mv (.t 0), none⟩]
def a77_2 : List AOper := [
 ⟨some 4, .call 31 [(.c (.str [116, 114, 117, 101]))], none⟩,
 ⟨none, .store 6 (.t 2) (.t 4), none⟩]
def a77_3 : List AOper := [
 ⟨some 5, .call 31 [(.c (.str [102, 97, 108, 115, 101]))], none⟩,
 ⟨none, .store 6 (.t 2) (.t 5), none⟩]
def a77 : AFunc := ⟨[.cell 2 true 6], (.seq (.ops a77_0) (.seq (.seq (.ops a77_1) (.cond (.t 3) (.seq (.ops a77_2) .ret) .skip)) (.seq (.ops a77_3) .ret)))⟩
/-! ### 78: heddle/heddleref13.named (96 slots) -/
def a78_0 : List AOper := [
 ⟨some 4, .alloc [(.int .i64 0), (.int .i64 0), (.str []), (.int .u32 0), .nils, .nils], none⟩,
 ⟨some 5, .mv (.c (.int .i64 0)), none⟩]
def a78_1 : List AOper := [
 ⟨some 9, .mv (.t 1), none⟩,
 ⟨some 10, .idxAddr 6 (.t 9) (.c (.int .i64 0)), none⟩,
 ⟨some 11, .load true 6 (.t 10), none⟩,
 ⟨some 6, .alloc [(.int .i64 0), (.int .i64 0), (.str []), (.int .u32 0), .nils, .nils], none⟩,
 ⟨none, .store 6 (.t 6) (.t 11), none⟩]
def a78_2 : List AOper := [
 ⟨some 12, .mv (.t 0), none⟩]
def a78_3 : List AOper := [
 ⟨some 14, .bin .eql (.t 12) (.c (.str [97, 98, 115])), none⟩,
 ⟨some 13, .mv (.t 14), none⟩]
def a78_4 : List AOper := [
 ⟨some 15, .fieldAddr 0 (.t 6), none⟩,
 ⟨some 16, .load false 1 (.t 15), none⟩,
 ⟨some 17, .bin .neq (.t 16) (.c (.int .i64 1)), none⟩]
def a78_5 : List AOper := [
 ⟨some 18, .build [(.int .i64 0), (.int .i64 0), (.str []), (.int .u32 0), .nils, .nils] [], none⟩,
 ⟨none, .store 6 (.t 4) (.t 18), none⟩,
 ⟨some 5, .mv (.c (.int .i64 261)), none⟩]
def a78_6 : List AOper := [
 ⟨some 19, .fieldAddr 1 (.t 6), none⟩,
 ⟨some 20, .load false 1 (.t 19), none⟩,
 ⟨some 21, .bin .lss (.t 20) (.c (.int .i64 0)), none⟩]
def a78_7 : List AOper := [
 ⟨some 22, .fieldAddr 1 (.t 6), none⟩,
 ⟨some 23, .load false 1 (.t 22), none⟩,
 ⟨some 24, .un .neg (.t 23), none⟩,
 ⟨some 25, .call 22 [(.t 24)], none⟩,
 ⟨none, .store 6 (.t 4) (.t 25), none⟩,
 ⟨some 5, .mv (.c (.int .i64 0)), none⟩]
def a78_8 : List AOper := [
 ⟨some 26, .load true 6 (.t 6), none⟩,
 ⟨none, .store 6 (.t 4) (.t 26), none⟩,
 ⟨some 5, .mv (.c (.int .i64 0)), none⟩]
def a78_9 : List AOper := [
 ⟨some 28, .bin .eql (.t 12) (.c (.str [105, 115, 95, 97, 116, 111, 109])), none⟩,
 ⟨some 27, .mv (.t 28), none⟩]
def a78_10 : List AOper := [
 ⟨some 29, .fieldAddr 0 (.t 6), none⟩,
 ⟨some 30, .load false 1 (.t 29), none⟩,
 ⟨some 31, .bin .eql (.t 30) (.c (.int .i64 2)), none⟩,
 ⟨some 32, .call 77 [(.t 31)], none⟩,
 ⟨none, .store 6 (.t 4) (.t 32), none⟩,
 ⟨some 5, .mv (.c (.int .i64 0)), none⟩]
def a78_11 : List AOper := [
 ⟨some 34, .bin .eql (.t 12) (.c (.str [105, 115, 95, 98, 111, 111, 108, 101, 97, 110])), none⟩,
 ⟨some 33, .mv (.t 34), none⟩]
def a78_12 : List AOper := [
 ⟨some 36, .load true 6 (.t 6), none⟩,
 ⟨some 37, .call 115 [(.t 36)], none⟩,
 ⟨some 35, .mv (.t 37), none⟩,
 ⟨some 38, .extract (.t 35) 0, none⟩,
 ⟨some 39, .extract (.t 35) 1, none⟩,
 ⟨some 7, .mv (.t 38), none⟩,
 ⟨some 8, .mv (.t 39), none⟩]
def a78_13 : List AOper := [
 ⟨some 40, .mv (.t 8), none⟩,
 ⟨some 41, .call 77 [(.t 40)], none⟩,
 ⟨none, .store 6 (.t 4) (.t 41), none⟩,
 ⟨some 5, .mv (.c (.int .i64 0)), none⟩]
def a78_14 : List AOper := [
 ⟨some 43, .bin .eql (.t 12) (.c (.str [105, 115, 95, 105, 110, 116, 101, 103, 101, 114])), none⟩,
 ⟨some 42, .mv (.t 43), none⟩]
def a78_15 : List AOper := [
 ⟨some 44, .fieldAddr 0 (.t 6), none⟩,
 ⟨some 45, .load false 1 (.t 44), none⟩,
 ⟨some 46, .bin .eql (.t 45) (.c (.int .i64 1)), none⟩,
 ⟨some 47, .call 77 [(.t 46)], none⟩,
 ⟨none, .store 6 (.t 4) (.t 47), none⟩,
 ⟨some 5, .mv (.c (.int .i64 0)), none⟩]
def a78_16 : List AOper := [
 ⟨some 49, .bin .eql (.t 12) (.c (.str [105, 115, 95, 108, 105, 115, 116])), none⟩,
 ⟨some 48, .mv (.t 49), none⟩]
def a78_17 : List AOper := [
 ⟨some 50, .fieldAddr 0 (.t 6), none⟩,
 ⟨some 51, .load false 1 (.t 50), none⟩,
 ⟨some 52, .bin .eql (.t 51) (.c (.int .i64 6)), none⟩,
 ⟨some 53, .mv (.t 52), none⟩,
 ⟨some 54, .fieldAddr 0 (.t 6), some (53, false)⟩,
 ⟨some 55, .load false 1 (.t 54), some (53, false)⟩,
 ⟨some 56, .bin .eql (.t 55) (.c (.int .i64 7)), some (53, false)⟩,
 ⟨some 57, .pick (.t 53) (.c (.bool true)) (.t 56), none⟩,
 ⟨some 58, .call 77 [(.t 57)], none⟩,
 ⟨none, .store 6 (.t 4) (.t 58), none⟩,
 ⟨some 5, .mv (.c (.int .i64 0)), none⟩]
def a78_18 : List AOper := [
 ⟨some 60, .bin .eql (.t 12) (.c (.str [105, 115, 95, 112, 105, 100])), none⟩,
 ⟨some 59, .mv (.t 60), none⟩]
def a78_19 : List AOper := [
 ⟨some 61, .fieldAddr 0 (.t 6), none⟩,
 ⟨some 62, .load false 1 (.t 61), none⟩,
 ⟨some 63, .bin .eql (.t 62) (.c (.int .i64 4)), none⟩,
 ⟨some 64, .call 77 [(.t 63)], none⟩,
 ⟨none, .store 6 (.t 4) (.t 64), none⟩,
 ⟨some 5, .mv (.c (.int .i64 0)), none⟩]
def a78_20 : List AOper := [
 ⟨some 66, .bin .eql (.t 12) (.c (.str [105, 115, 95, 114, 101, 102, 101, 114, 101, 110, 99, 101])), none⟩,
 ⟨some 65, .mv (.t 66), none⟩]
def a78_21 : List AOper := [
 ⟨some 67, .fieldAddr 0 (.t 6), none⟩,
 ⟨some 68, .load false 1 (.t 67), none⟩,
 ⟨some 69, .bin .eql (.t 68) (.c (.int .i64 3)), none⟩,
 ⟨some 70, .call 77 [(.t 69)], none⟩,
 ⟨none, .store 6 (.t 4) (.t 70), none⟩,
 ⟨some 5, .mv (.c (.int .i64 0)), none⟩]
def a78_22 : List AOper := [
 ⟨some 72, .bin .eql (.t 12) (.c (.str [105, 115, 95, 116, 117, 112, 108, 101])), none⟩,
 ⟨some 71, .mv (.t 72), none⟩]
def a78_23 : List AOper := [
 ⟨some 73, .fieldAddr 0 (.t 6), none⟩,
 ⟨some 74, .load false 1 (.t 73), none⟩,
 ⟨some 75, .bin .eql (.t 74) (.c (.int .i64 5)), none⟩,
 ⟨some 76, .call 77 [(.t 75)], none⟩,
 ⟨none, .store 6 (.t 4) (.t 76), none⟩,
 ⟨some 5, .mv (.c (.int .i64 0)), none⟩]
def a78_24 : List AOper := [
 ⟨some 78, .bin .eql (.t 12) (.c (.str [110, 111, 100, 101])), none⟩,
 ⟨some 77, .mv (.t 78), none⟩]
def a78_25 : List AOper := [
 ⟨some 79, .fieldAddr 0 (.t 6), none⟩,
 ⟨some 80, .load false 1 (.t 79), none⟩,
 ⟨some 81, .bin .neq (.t 80) (.c (.int .i64 4)), none⟩,
 ⟨some 82, .mv (.t 81), none⟩,
 ⟨some 83, .fieldAddr 0 (.t 6), some (82, true)⟩,
 ⟨some 84, .load false 1 (.t 83), some (82, true)⟩,
 ⟨some 85, .bin .neq (.t 84) (.c (.int .i64 3)), some (82, true)⟩,
 ⟨some 86, .pick (.t 82) (.t 85) (.c (.bool false)), none⟩]
def a78_26 : List AOper := [
 ⟨some 87, .build [(.int .i64 0), (.int .i64 0), (.str []), (.int .u32 0), .nils, .nils] [], none⟩,
 ⟨none, .store 6 (.t 4) (.t 87), none⟩,
 ⟨some 5, .mv (.c (.int .i64 261)), none⟩]
def a78_27 : List AOper := [
 ⟨some 88, .fieldAddr 2 (.t 6), none⟩,
 ⟨some 89, .load false 1 (.t 88), none⟩,
 ⟨some 90, .call 31 [(.t 89)], none⟩,
 ⟨none, .store 6 (.t 4) (.t 90), none⟩,
 ⟨some 5, .mv (.c (.int .i64 0)), none⟩]
def a78_28 : List AOper := [
 ⟨some 91, .mv (.t 0), none⟩,
 ⟨some 92, .mv (.t 1), none⟩,
 ⟨some 93, .call 117 [(.t 91), (.t 92)], none⟩,
 ⟨some 94, .extract (.t 93) 0, none⟩,
 ⟨some 95, .extract (.t 93) 1, none⟩,
 ⟨none, .store 6 (.t 4) (.t 94), none⟩,
 ⟨some 5, .mv (.t 95), none⟩]
def a78 : AFunc := ⟨[.cell 4 true 6, .tmp 5], (.seq (.ops a78_0) (.seq (.ops a78_1) (.seq (.seq (.ops a78_2) (.block 0 (.seq (.ops a78_3) (.cond (.t 13) (.seq (.seq (.ops a78_4) (.cond (.t 17) (.seq (.ops a78_5) .ret) .skip)) (.seq (.seq (.ops a78_6) (.cond (.t 21) (.seq (.ops a78_7) .ret) .skip)) (.seq (.ops a78_8) .ret))) (.seq (.ops a78_9) (.cond (.t 27) (.seq (.ops a78_10) .ret) (.seq (.ops a78_11) (.cond (.t 33) (.seq (.ops a78_12) (.seq (.ops a78_13) .ret)) (.seq (.ops a78_14) (.cond (.t 42) (.seq (.ops a78_15) .ret) (.seq (.ops a78_16) (.cond (.t 48) (.seq (.ops a78_17) .ret) (.seq (.ops a78_18) (.cond (.t 59) (.seq (.ops a78_19) .ret) (.seq (.ops a78_20) (.cond (.t 65) (.seq (.ops a78_21) .ret) (.seq (.ops a78_22) (.cond (.t 71) (.seq (.ops a78_23) .ret) (.seq (.ops a78_24) (.cond (.t 77) (.seq (.seq (.ops a78_25) (.cond (.t 86) (.seq (.ops a78_26) .ret) .skip)) (.seq (.ops a78_27) .ret)) .skip)))))))))))))))))))) (.seq (.ops a78_28) .ret))))⟩
/-! ### 83: heddle/heddleref02.bare (58 slots) -/
def a83_0 : List AOper := [
 ⟨some 2, .box false 6 (.t 0), none⟩,
 ⟨some 4, .mv (.c (.bool false)), none⟩]
def a83_1 : List AOper := [
 ⟨some 6, .mv (.t 1), none⟩,
 ⟨some 7, .call 119 [(.t 6)], none⟩,
 ⟨some 5, .mv (.t 7), none⟩]
def a83_2 : List AOper := [
 ⟨some 8, .mv (.t 5), none⟩,
 ⟨some 9, .idxAddr 1 (.t 8) (.c (.int .i64 0)), none⟩,
 ⟨some 10, .load false 1 (.t 9), none⟩,
 ⟨some 11, .mv (.t 10), none⟩,
 ⟨some 12, .fieldAddr 1 (.t 2), some (11, false)⟩,
 ⟨some 13, .load false 1 (.t 12), some (11, false)⟩,
 ⟨some 14, .bin .eql (.t 13) (.c (.int .i64 0)), some (11, false)⟩,
 ⟨some 15, .pick (.t 11) (.c (.bool true)) (.t 14), none⟩,
 ⟨some 16, .mv (.t 15), none⟩,
 ⟨some 17, .mv (.t 5), some (16, true)⟩,
 ⟨some 18, .idxAddr 1 (.t 17) (.c (.int .i64 1)), some (16, true)⟩,
 ⟨some 19, .load false 1 (.t 18), some (16, true)⟩,
 ⟨some 20, .mv (.t 19), some (16, true)⟩,
 ⟨some 21, .fieldAddr 2 (.t 2), some (20, false)⟩,
 ⟨some 22, .load false 1 (.t 21), some (20, false)⟩,
 ⟨some 23, .bin .eql (.t 22) (.c (.str [])), some (20, false)⟩,
 ⟨some 24, .pick (.t 20) (.c (.bool true)) (.t 23), some (16, true)⟩,
 ⟨some 25, .pick (.t 16) (.t 24) (.c (.bool false)), none⟩,
 ⟨some 26, .mv (.t 25), none⟩,
 ⟨some 27, .mv (.t 5), some (26, true)⟩,
 ⟨some 28, .idxAddr 1 (.t 27) (.c (.int .i64 2)), some (26, true)⟩,
 ⟨some 29, .load false 1 (.t 28), some (26, true)⟩,
 ⟨some 30, .mv (.t 29), some (26, true)⟩,
 ⟨some 31, .fieldAddr 3 (.t 2), some (30, false)⟩,
 ⟨some 32, .load false 1 (.t 31), some (30, false)⟩,
 ⟨some 33, .bin .eql (.t 32) (.c (.int .u32 0)), some (30, false)⟩,
 ⟨some 34, .pick (.t 30) (.c (.bool true)) (.t 33), some (26, true)⟩,
 ⟨some 35, .pick (.t 26) (.t 34) (.c (.bool false)), none⟩,
 ⟨some 36, .mv (.t 35), none⟩,
 ⟨some 37, .mv (.t 5), some (36, true)⟩,
 ⟨some 38, .idxAddr 1 (.t 37) (.c (.int .i64 3)), some (36, true)⟩,
 ⟨some 39, .load false 1 (.t 38), some (36, true)⟩,
 ⟨some 40, .mv (.t 39), some (36, true)⟩,
 ⟨some 41, .fieldAddr 4 (.t 2), some (40, false)⟩,
 ⟨some 42, .load false 1 (.t 41), some (40, false)⟩,
 ⟨some 43, .len false (.t 42), some (40, false)⟩,
 ⟨some 44, .bin .eql (.t 43) (.c (.int .i64 0)), some (40, false)⟩,
 ⟨some 45, .pick (.t 40) (.c (.bool true)) (.t 44), some (36, true)⟩,
 ⟨some 46, .pick (.t 36) (.t 45) (.c (.bool false)), none⟩,
 ⟨some 47, .mv (.t 46), none⟩,
 ⟨some 48, .mv (.t 5), some (47, true)⟩,
 ⟨some 49, .idxAddr 1 (.t 48) (.c (.int .i64 4)), some (47, true)⟩,
 ⟨some 50, .load false 1 (.t 49), some (47, true)⟩,
 ⟨some 51, .mv (.t 50), some (47, true)⟩,
 ⟨some 52, .fieldAddr 5 (.t 2), some (51, false)⟩,
 ⟨some 53, .load false 1 (.t 52), some (51, false)⟩,
 ⟨some 54, .len false (.t 53), some (51, false)⟩,
 ⟨some 55, .bin .eql (.t 54) (.c (.int .i64 0)), some (51, false)⟩,
 ⟨some 56, .pick (.t 51) (.c (.bool true)) (.t 55), some (47, true)⟩,
 ⟨some 57, .pick (.t 47) (.t 56) (.c (.bool false)), none⟩,
 ⟨some 4, .mv (.t 57), none⟩]
def a83 : AFunc := ⟨[.tmp 4], (.seq (.ops a83_0) (.seq (.ops a83_1) (.seq (.ops a83_2) .ret)))⟩
/-! ### 84: heddle/heddleref01.no (8 slots) -/
def a84_0 : List AOper := [
 ⟨some 4, .mv (.c .nils), none⟩]
def a84_1 : List AOper := [
 ⟨some 5, .mv (.t 0), none⟩,
 ⟨some 6, .mv (.t 1), none⟩,
 ⟨some 7, .call 73 [(.c (.str [97, 116, 111, 109])), (.t 5), (.t 6)], none⟩,
 ⟨some 4, .mv (.t 7), none⟩]
def a84 : AFunc := ⟨[.tmp 4], (.seq (.ops a84_0) (.seq (.ops a84_1) .ret))⟩
/-! ### 85: heddle/heddleref01.UTF (18 slots) -/
def a85_0 : List AOper := [
 ⟨some 2, .mv (.c (.int .i64 0)), none⟩]
def a85_1 : List AOper := [
 ⟨some 3, .mv (.c (.int .i64 0)), none⟩]
def a85_2 : List AOper := [
 ⟨some 5, .mv (.t 3), none⟩,
 ⟨some 6, .mv (.t 0), none⟩,
 ⟨some 7, .len true (.t 6), none⟩,
 ⟨some 8, .bin .lss (.t 5) (.t 7), none⟩]
def a85_3 : List AOper := [
 ⟨some 9, .mv (.t 0), none⟩,
 ⟨some 10, .mv (.t 3), none⟩,
 ⟨some 11, .call 120 [(.t 9), (.t 10)], none⟩,
 ⟨some 4, .mv (.t 11), none⟩]
def a85_4 : List AOper := [
 ⟨some 12, .mv (.t 4), none⟩,
 ⟨some 13, .bin .eql (.t 12) (.c (.int .i64 0)), none⟩]
def a85_5 : List AOper := [
 ⟨some 14, .mv (.t 3), none⟩,
 ⟨some 2, .mv (.t 14), none⟩]
def a85_6 : List AOper := [
 ⟨some 15, .mv (.t 3), none⟩,
 ⟨some 16, .mv (.t 4), none⟩,
 ⟨some 17, .bin .add (.t 15) (.t 16), none⟩,
 ⟨some 3, .mv (.t 17), none⟩]
def a85_l7 : AC := (.seq (.seq (.ops a85_2) (.cond (.t 8) .skip (.exit 0))) (.block 1 (.seq (.ops a85_3) (.seq (.seq (.ops a85_4) (.cond (.t 13) (.seq (.ops a85_5) .ret) .skip)) (.ops a85_6)))))
def a85_8 : List AOper := [
 ⟨some 2, .mv (.c (.int .i64 (-1))), none⟩]
def a85 : AFunc := ⟨[.tmp 2], (.seq (.ops a85_0) (.seq (.ops a85_1) (.seq (.block 0 (.loop a85_l7)) (.seq (.ops a85_8) .ret))))⟩
/-! ### 86: heddle/heddleref01.plain (27 slots) -/
def a86_0 : List AOper := [
 ⟨some 2, .mv (.c (.bool false)), none⟩]
def a86_1 : List AOper := [
 ⟨some 4, .mv (.t 0), none⟩,
 ⟨some 5, .bin .eql (.t 4) (.c (.str [])), none⟩,
 ⟨some 6, .mv (.t 5), none⟩,
 ⟨some 7, .mv (.t 0), some (6, false)⟩,
 ⟨some 8, .idxStr (.t 7) (.c (.int .i64 0)), some (6, false)⟩,
 ⟨some 9, .call 121 [(.t 8)], some (6, false)⟩,
 ⟨some 10, .un .not (.t 9), some (6, false)⟩,
 ⟨some 11, .pick (.t 6) (.c (.bool true)) (.t 10), none⟩,
 ⟨some 12, .mv (.t 11), none⟩,
 ⟨some 13, .mv (.t 0), some (12, false)⟩,
 ⟨some 14, .call 122 [(.t 13)], some (12, false)⟩,
 ⟨some 15, .pick (.t 12) (.c (.bool true)) (.t 14), none⟩]
def a86_2 : List AOper := [
 ⟨some 2, .mv (.c (.bool false)), none⟩]
def a86_3 : List AOper := [
 ⟨some 3, .mv (.c (.int .i64 0)), none⟩]
def a86_4 : List AOper := [
 ⟨some 16, .mv (.t 3), none⟩,
 ⟨some 17, .mv (.t 0), none⟩,
 ⟨some 18, .len true (.t 17), none⟩,
 ⟨some 19, .bin .lss (.t 16) (.t 18), none⟩]
def a86_5 : List AOper := [
 ⟨some 22, .mv (.t 0), none⟩,
 ⟨some 23, .mv (.t 3), none⟩,
 ⟨some 24, .idxStr (.t 22) (.t 23), none⟩,
 ⟨some 25, .call 87 [(.t 24)], none⟩,
 ⟨some 26, .un .not (.t 25), none⟩]
def a86_6 : List AOper := [
 ⟨some 2, .mv (.c (.bool false)), none⟩]
def a86_7 : List AOper := [
 ⟨some 20, .mv (.t 3), none⟩,
 ⟨some 21, .bin .add (.t 20) (.c (.int .i64 1)), none⟩,
 ⟨some 3, .mv (.t 21), none⟩]
def a86_l8 : AC := (.seq (.seq (.ops a86_4) (.cond (.t 19) .skip (.exit 0))) (.seq (.block 1 (.seq (.ops a86_5) (.cond (.t 26) (.seq (.ops a86_6) .ret) .skip))) (.ops a86_7)))
def a86_9 : List AOper := [
 ⟨some 2, .mv (.c (.bool true)), none⟩]
def a86 : AFunc := ⟨[.tmp 2], (.seq (.ops a86_0) (.seq (.seq (.ops a86_1) (.cond (.t 15) (.seq (.ops a86_2) .ret) .skip)) (.seq (.seq (.ops a86_3) (.block 0 (.loop a86_l8))) (.seq (.ops a86_9) .ret))))⟩
/-! ### 87: heddle/heddleref01.InWord (29 slots) -/
def a87_0 : List AOper := [
 ⟨some 2, .mv (.c (.bool false)), none⟩]
def a87_1 : List AOper := [
 ⟨some 3, .mv (.t 0), none⟩,
 ⟨some 4, .call 121 [(.t 3)], none⟩,
 ⟨some 5, .mv (.t 4), none⟩,
 ⟨some 6, .mv (.t 0), some (5, false)⟩,
 ⟨some 7, .bin .geq (.t 6) (.c (.int .u8 65)), some (5, false)⟩,
 ⟨some 8, .mv (.t 7), some (5, false)⟩,
 ⟨some 9, .mv (.t 0), some (8, true)⟩,
 ⟨some 10, .bin .leq (.t 9) (.c (.int .u8 90)), some (8, true)⟩,
 ⟨some 11, .pick (.t 8) (.t 10) (.c (.bool false)), some (5, false)⟩,
 ⟨some 12, .pick (.t 5) (.c (.bool true)) (.t 11), none⟩,
 ⟨some 13, .mv (.t 12), none⟩,
 ⟨some 14, .mv (.t 0), some (13, false)⟩,
 ⟨some 15, .bin .geq (.t 14) (.c (.int .u8 48)), some (13, false)⟩,
 ⟨some 16, .mv (.t 15), some (13, false)⟩,
 ⟨some 17, .mv (.t 0), some (16, true)⟩,
 ⟨some 18, .bin .leq (.t 17) (.c (.int .u8 57)), some (16, true)⟩,
 ⟨some 19, .pick (.t 16) (.t 18) (.c (.bool false)), some (13, false)⟩,
 ⟨some 20, .pick (.t 13) (.c (.bool true)) (.t 19), none⟩,
 ⟨some 21, .mv (.t 20), none⟩,
 ⟨some 22, .mv (.t 0), some (21, false)⟩,
 ⟨some 23, .bin .eql (.t 22) (.c (.int .u8 95)), some (21, false)⟩,
 ⟨some 24, .pick (.t 21) (.c (.bool true)) (.t 23), none⟩,
 ⟨some 25, .mv (.t 24), none⟩,
 ⟨some 26, .mv (.t 0), some (25, false)⟩,
 ⟨some 27, .bin .eql (.t 26) (.c (.int .u8 64)), some (25, false)⟩,
 ⟨some 28, .pick (.t 25) (.c (.bool true)) (.t 27), none⟩,
 ⟨some 2, .mv (.t 28), none⟩]
def a87 : AFunc := ⟨[.tmp 2], (.seq (.ops a87_0) (.seq (.ops a87_1) .ret))⟩
/-! ### 88: cmp.Compare[heddle/api.Kind] (20 slots) -/
def a88_0 : List AOper := [
 ⟨some 4, .mv (.c (.int .i64 0)), none⟩]
def a88_1 : List AOper := [
 ⟨some 7, .mv (.t 0), none⟩,
 ⟨some 8, .call 123 [(.t 7)], none⟩,
 ⟨some 5, .mv (.t 8), none⟩]
def a88_2 : List AOper := [
 ⟨some 9, .mv (.t 1), none⟩,
 ⟨some 10, .call 123 [(.t 9)], none⟩,
 ⟨some 6, .mv (.t 10), none⟩]
def a88_3 : List AOper := [
 ⟨some 11, .mv (.t 5), none⟩]
def a88_4 : List AOper := [
 ⟨some 12, .mv (.t 6), none⟩]
def a88_5 : List AOper := [
 ⟨some 4, .mv (.c (.int .i64 0)), none⟩]
def a88_6 : List AOper := [
 ⟨some 4, .mv (.c (.int .i64 (-1))), none⟩]
def a88_7 : List AOper := [
 ⟨some 13, .mv (.t 6), none⟩]
def a88_8 : List AOper := [
 ⟨some 4, .mv (.c (.int .i64 1)), none⟩]
def a88_9 : List AOper := [
 ⟨some 14, .mv (.t 0), none⟩,
 ⟨some 15, .mv (.t 1), none⟩,
 ⟨some 16, .bin .lss (.t 14) (.t 15), none⟩]
def a88_10 : List AOper := [
 ⟨some 4, .mv (.c (.int .i64 (-1))), none⟩]
def a88_11 : List AOper := [
 ⟨some 17, .mv (.t 0), none⟩,
 ⟨some 18, .mv (.t 1), none⟩,
 ⟨some 19, .bin .gtr (.t 17) (.t 18), none⟩]
def a88_12 : List AOper := [
 ⟨some 4, .mv (.c (.int .i64 1)), none⟩]
def a88_13 : List AOper := [
 ⟨some 4, .mv (.c (.int .i64 0)), none⟩]
def a88 : AFunc := ⟨[.tmp 4], (.seq (.ops a88_0) (.seq (.ops a88_1) (.seq (.ops a88_2) (.seq (.seq (.ops a88_3) (.cond (.t 11) (.seq (.seq (.ops a88_4) (.cond (.t 12) (.seq (.ops a88_5) .ret) .skip)) (.seq (.ops a88_6) .ret)) .skip)) (.seq (.seq (.ops a88_7) (.cond (.t 13) (.seq (.ops a88_8) .ret) .skip)) (.seq (.seq (.ops a88_9) (.cond (.t 16) (.seq (.ops a88_10) .ret) .skip)) (.seq (.seq (.ops a88_11) (.cond (.t 19) (.seq (.ops a88_12) .ret) .skip)) (.seq (.ops a88_13) .ret))))))))⟩
/-! ### 89: cmp.Compare[int64] (20 slots) -/
def a89_0 : List AOper := [
 ⟨some 4, .mv (.c (.int .i64 0)), none⟩]
def a89_1 : List AOper := [
 ⟨some 7, .mv (.t 0), none⟩,
 ⟨some 8, .call 124 [(.t 7)], none⟩,
 ⟨some 5, .mv (.t 8), none⟩]
def a89_2 : List AOper := [
 ⟨some 9, .mv (.t 1), none⟩,
 ⟨some 10, .call 124 [(.t 9)], none⟩,
 ⟨some 6, .mv (.t 10), none⟩]
def a89_3 : List AOper := [
 ⟨some 11, .mv (.t 5), none⟩]
def a89_4 : List AOper := [
 ⟨some 12, .mv (.t 6), none⟩]
def a89_5 : List AOper := [
 ⟨some 4, .mv (.c (.int .i64 0)), none⟩]
def a89_6 : List AOper := [
 ⟨some 4, .mv (.c (.int .i64 (-1))), none⟩]
def a89_7 : List AOper := [
 ⟨some 13, .mv (.t 6), none⟩]
def a89_8 : List AOper := [
 ⟨some 4, .mv (.c (.int .i64 1)), none⟩]
def a89_9 : List AOper := [
 ⟨some 14, .mv (.t 0), none⟩,
 ⟨some 15, .mv (.t 1), none⟩,
 ⟨some 16, .bin .lss (.t 14) (.t 15), none⟩]
def a89_10 : List AOper := [
 ⟨some 4, .mv (.c (.int .i64 (-1))), none⟩]
def a89_11 : List AOper := [
 ⟨some 17, .mv (.t 0), none⟩,
 ⟨some 18, .mv (.t 1), none⟩,
 ⟨some 19, .bin .gtr (.t 17) (.t 18), none⟩]
def a89_12 : List AOper := [
 ⟨some 4, .mv (.c (.int .i64 1)), none⟩]
def a89_13 : List AOper := [
 ⟨some 4, .mv (.c (.int .i64 0)), none⟩]
def a89 : AFunc := ⟨[.tmp 4], (.seq (.ops a89_0) (.seq (.ops a89_1) (.seq (.ops a89_2) (.seq (.seq (.ops a89_3) (.cond (.t 11) (.seq (.seq (.ops a89_4) (.cond (.t 12) (.seq (.ops a89_5) .ret) .skip)) (.seq (.ops a89_6) .ret)) .skip)) (.seq (.seq (.ops a89_7) (.cond (.t 13) (.seq (.ops a89_8) .ret) .skip)) (.seq (.seq (.ops a89_9) (.cond (.t 16) (.seq (.ops a89_10) .ret) .skip)) (.seq (.seq (.ops a89_11) (.cond (.t 19) (.seq (.ops a89_12) .ret) .skip)) (.seq (.ops a89_13) .ret))))))))⟩
/-! ### 90: cmp.Compare[string] (20 slots) -/
def a90_0 : List AOper := [
 ⟨some 4, .mv (.c (.int .i64 0)), none⟩]
def a90_1 : List AOper := [
 ⟨some 7, .mv (.t 0), none⟩,
 ⟨some 8, .call 125 [(.t 7)], none⟩,
 ⟨some 5, .mv (.t 8), none⟩]
def a90_2 : List AOper := [
 ⟨some 9, .mv (.t 1), none⟩,
 ⟨some 10, .call 125 [(.t 9)], none⟩,
 ⟨some 6, .mv (.t 10), none⟩]
def a90_3 : List AOper := [
 ⟨some 11, .mv (.t 5), none⟩]
def a90_4 : List AOper := [
 ⟨some 12, .mv (.t 6), none⟩]
def a90_5 : List AOper := [
 ⟨some 4, .mv (.c (.int .i64 0)), none⟩]
def a90_6 : List AOper := [
 ⟨some 4, .mv (.c (.int .i64 (-1))), none⟩]
def a90_7 : List AOper := [
 ⟨some 13, .mv (.t 6), none⟩]
def a90_8 : List AOper := [
 ⟨some 4, .mv (.c (.int .i64 1)), none⟩]
def a90_9 : List AOper := [
 ⟨some 14, .mv (.t 0), none⟩,
 ⟨some 15, .mv (.t 1), none⟩,
 ⟨some 16, .bin .lss (.t 14) (.t 15), none⟩]
def a90_10 : List AOper := [
 ⟨some 4, .mv (.c (.int .i64 (-1))), none⟩]
def a90_11 : List AOper := [
 ⟨some 17, .mv (.t 0), none⟩,
 ⟨some 18, .mv (.t 1), none⟩,
 ⟨some 19, .bin .gtr (.t 17) (.t 18), none⟩]
def a90_12 : List AOper := [
 ⟨some 4, .mv (.c (.int .i64 1)), none⟩]
def a90_13 : List AOper := [
 ⟨some 4, .mv (.c (.int .i64 0)), none⟩]
def a90 : AFunc := ⟨[.tmp 4], (.seq (.ops a90_0) (.seq (.ops a90_1) (.seq (.ops a90_2) (.seq (.seq (.ops a90_3) (.cond (.t 11) (.seq (.seq (.ops a90_4) (.cond (.t 12) (.seq (.ops a90_5) .ret) .skip)) (.seq (.ops a90_6) .ret)) .skip)) (.seq (.seq (.ops a90_7) (.cond (.t 13) (.seq (.ops a90_8) .ret) .skip)) (.seq (.seq (.ops a90_9) (.cond (.t 16) (.seq (.ops a90_10) .ret) .skip)) (.seq (.seq (.ops a90_11) (.cond (.t 19) (.seq (.ops a90_12) .ret) .skip)) (.seq (.ops a90_13) .ret))))))))⟩
/-! ### 91: cmp.Or[int] (18 slots) -/
def a91_0 : List AOper := [
 ⟨some 2, .mv (.c (.int .i64 0)), none⟩]
def a91_1 : List AOper := [
 ⟨some 3, .mv (.c (.int .i64 0)), none⟩]
def a91_2 : List AOper := [
 ⟨some 6, .mv (.t 0), none⟩,
 ⟨some 7, .len false (.t 6), none⟩,
 ⟨some 8, .mv (.c (.int .i64 0)), none⟩]
def a91_3 : List AOper := [
 ⟨some 9, .bin .lss (.t 8) (.t 7), none⟩]
def a91_4 : List AOper := [
 ⟨some 10, .idxAddr 1 (.t 6) (.t 8), none⟩,
 ⟨some 11, .load false 1 (.t 10), none⟩,
 ⟨some 5, .mv (.t 11), none⟩]
def a91_5 : List AOper := [
 ⟨some 12, .mv (.t 5), none⟩,
 ⟨some 13, .mv (.t 3), none⟩,
 ⟨some 14, .bin .neq (.t 12) (.t 13), none⟩]
def a91_6 : List AOper := [
 ⟨some 15, .mv (.t 5), none⟩,
 ⟨some 2, .mv (.t 15), none⟩]
def a91_7 : List AOper := [
 ⟨some 16, .bin .add (.t 8) (.c (.int .i64 1)), none⟩,
 ⟨some 8, .mv (.t 16), none⟩]
def a91_l8 : AC := (.seq (.ops a91_3) (.seq (.cond (.t 9) .skip (.exit 0)) (.seq (.block 1 (.seq (.ops a91_4) (.seq (.ops a91_5) (.cond (.t 14) (.seq (.ops a91_6) .ret) .skip)))) (.ops a91_7))))
def a91_9 : List AOper := [
 ⟨some 17, .mv (.t 3), none⟩,
 ⟨some 2, .mv (.t 17), none⟩]
def a91 : AFunc := ⟨[.tmp 2], (.seq (.ops a91_0) (.seq (.ops a91_1) (.seq (.seq (.ops a91_2) (.block 0 (.loop a91_l8))) (.seq (.ops a91_9) .ret))))⟩
/-! ### 92: cmp.Compare[uint32] (20 slots) -/
def a92_0 : List AOper := [
 ⟨some 4, .mv (.c (.int .i64 0)), none⟩]
def a92_1 : List AOper := [
 ⟨some 7, .mv (.t 0), none⟩,
 ⟨some 8, .call 126 [(.t 7)], none⟩,
 ⟨some 5, .mv (.t 8), none⟩]
def a92_2 : List AOper := [
 ⟨some 9, .mv (.t 1), none⟩,
 ⟨some 10, .call 126 [(.t 9)], none⟩,
 ⟨some 6, .mv (.t 10), none⟩]
def a92_3 : List AOper := [
 ⟨some 11, .mv (.t 5), none⟩]
def a92_4 : List AOper := [
 ⟨some 12, .mv (.t 6), none⟩]
def a92_5 : List AOper := [
 ⟨some 4, .mv (.c (.int .i64 0)), none⟩]
def a92_6 : List AOper := [
 ⟨some 4, .mv (.c (.int .i64 (-1))), none⟩]
def a92_7 : List AOper := [
 ⟨some 13, .mv (.t 6), none⟩]
def a92_8 : List AOper := [
 ⟨some 4, .mv (.c (.int .i64 1)), none⟩]
def a92_9 : List AOper := [
 ⟨some 14, .mv (.t 0), none⟩,
 ⟨some 15, .mv (.t 1), none⟩,
 ⟨some 16, .bin .lss (.t 14) (.t 15), none⟩]
def a92_10 : List AOper := [
 ⟨some 4, .mv (.c (.int .i64 (-1))), none⟩]
def a92_11 : List AOper := [
 ⟨some 17, .mv (.t 0), none⟩,
 ⟨some 18, .mv (.t 1), none⟩,
 ⟨some 19, .bin .gtr (.t 17) (.t 18), none⟩]
def a92_12 : List AOper := [
 ⟨some 4, .mv (.c (.int .i64 1)), none⟩]
def a92_13 : List AOper := [
 ⟨some 4, .mv (.c (.int .i64 0)), none⟩]
def a92 : AFunc := ⟨[.tmp 4], (.seq (.ops a92_0) (.seq (.ops a92_1) (.seq (.ops a92_2) (.seq (.seq (.ops a92_3) (.cond (.t 11) (.seq (.seq (.ops a92_4) (.cond (.t 12) (.seq (.ops a92_5) .ret) .skip)) (.seq (.ops a92_6) .ret)) .skip)) (.seq (.seq (.ops a92_7) (.cond (.t 13) (.seq (.ops a92_8) .ret) .skip)) (.seq (.seq (.ops a92_9) (.cond (.t 16) (.seq (.ops a92_10) .ret) .skip)) (.seq (.seq (.ops a92_11) (.cond (.t 19) (.seq (.ops a92_12) .ret) .skip)) (.seq (.ops a92_13) .ret))))))))⟩
/-! ### 93: slices.Compare[[]uint32,uint32] (36 slots) -/
def a93_0 : List AOper := [
 ⟨some 4, .mv (.c (.int .i64 0)), none⟩]
def a93_1 : List AOper := [
 ⟨some 9, .mv (.t 0), none⟩,
 ⟨some 10, .len false (.t 9), none⟩,
 ⟨some 11, .mv (.c (.int .i64 0)), none⟩]
def a93_2 : List AOper := [
 ⟨some 12, .bin .lss (.t 11) (.t 10), none⟩]
def a93_3 : List AOper := [
 ⟨some 13, .mv (.t 11), none⟩,
 ⟨some 14, .idxAddr 1 (.t 9) (.t 11), none⟩,
 ⟨some 15, .load false 1 (.t 14), none⟩,
 ⟨some 5, .mv (.t 13), none⟩,
 ⟨some 6, .mv (.t 15), none⟩]
def a93_4 : List AOper := [
 ⟨some 16, .mv (.t 5), none⟩,
 ⟨some 17, .mv (.t 1), none⟩,
 ⟨some 18, .len false (.t 17), none⟩,
 ⟨some 19, .bin .geq (.t 16) (.t 18), none⟩]
def a93_5 : List AOper := [
 ⟨some 4, .mv (.c (.int .i64 1)), none⟩]
def a93_6 : List AOper := [
 ⟨some 20, .mv (.t 1), none⟩,
 ⟨some 21, .mv (.t 5), none⟩,
 ⟨some 22, .idxAddr 1 (.t 20) (.t 21), none⟩,
 ⟨some 23, .load false 1 (.t 22), none⟩,
 ⟨some 7, .mv (.t 23), none⟩]
def a93_7 : List AOper := [
 ⟨some 24, .mv (.t 6), none⟩,
 ⟨some 25, .mv (.t 7), none⟩,
 ⟨some 26, .call 92 [(.t 24), (.t 25)], none⟩,
 ⟨some 8, .mv (.t 26), none⟩]
def a93_8 : List AOper := [
 ⟨some 27, .mv (.t 8), none⟩,
 ⟨some 28, .bin .neq (.t 27) (.c (.int .i64 0)), none⟩]
def a93_9 : List AOper := [
 ⟨some 29, .mv (.t 8), none⟩,
 ⟨some 4, .mv (.t 29), none⟩]
def a93_10 : List AOper := [
 ⟨some 30, .bin .add (.t 11) (.c (.int .i64 1)), none⟩,
 ⟨some 11, .mv (.t 30), none⟩]
def a93_l11 : AC := (.seq (.ops a93_2) (.seq (.cond (.t 12) .skip (.exit 0)) (.seq (.block 1 (.seq (.ops a93_3) (.seq (.seq (.ops a93_4) (.cond (.t 19) (.seq (.ops a93_5) .ret) .skip)) (.seq (.ops a93_6) (.seq (.ops a93_7) (.seq (.ops a93_8) (.cond (.t 28) (.seq (.ops a93_9) .ret) .skip))))))) (.ops a93_10))))
def a93_12 : List AOper := [
 ⟨some 31, .mv (.t 0), none⟩,
 ⟨some 32, .len false (.t 31), none⟩,
 ⟨some 33, .mv (.t 1), none⟩,
 ⟨some 34, .len false (.t 33), none⟩,
 ⟨some 35, .bin .lss (.t 32) (.t 34), none⟩]
def a93_13 : List AOper := [
 ⟨some 4, .mv (.c (.int .i64 (-1))), none⟩]
def a93_14 : List AOper := [
 ⟨some 4, .mv (.c (.int .i64 0)), none⟩]
def a93 : AFunc := ⟨[.tmp 4], (.seq (.ops a93_0) (.seq (.seq (.ops a93_1) (.block 0 (.loop a93_l11))) (.seq (.seq (.ops a93_12) (.cond (.t 35) (.seq (.ops a93_13) .ret) .skip)) (.seq (.ops a93_14) .ret))))⟩
/-! ### 94: cmp.Compare[int] (20 slots) -/
def a94_0 : List AOper := [
 ⟨some 4, .mv (.c (.int .i64 0)), none⟩]
def a94_1 : List AOper := [
 ⟨some 7, .mv (.t 0), none⟩,
 ⟨some 8, .call 127 [(.t 7)], none⟩,
 ⟨some 5, .mv (.t 8), none⟩]
def a94_2 : List AOper := [
 ⟨some 9, .mv (.t 1), none⟩,
 ⟨some 10, .call 127 [(.t 9)], none⟩,
 ⟨some 6, .mv (.t 10), none⟩]
def a94_3 : List AOper := [
 ⟨some 11, .mv (.t 5), none⟩]
def a94_4 : List AOper := [
 ⟨some 12, .mv (.t 6), none⟩]
def a94_5 : List AOper := [
 ⟨some 4, .mv (.c (.int .i64 0)), none⟩]
def a94_6 : List AOper := [
 ⟨some 4, .mv (.c (.int .i64 (-1))), none⟩]
def a94_7 : List AOper := [
 ⟨some 13, .mv (.t 6), none⟩]
def a94_8 : List AOper := [
 ⟨some 4, .mv (.c (.int .i64 1)), none⟩]
def a94_9 : List AOper := [
 ⟨some 14, .mv (.t 0), none⟩,
 ⟨some 15, .mv (.t 1), none⟩,
 ⟨some 16, .bin .lss (.t 14) (.t 15), none⟩]
def a94_10 : List AOper := [
 ⟨some 4, .mv (.c (.int .i64 (-1))), none⟩]
def a94_11 : List AOper := [
 ⟨some 17, .mv (.t 0), none⟩,
 ⟨some 18, .mv (.t 1), none⟩,
 ⟨some 19, .bin .gtr (.t 17) (.t 18), none⟩]
def a94_12 : List AOper := [
 ⟨some 4, .mv (.c (.int .i64 1)), none⟩]
def a94_13 : List AOper := [
 ⟨some 4, .mv (.c (.int .i64 0)), none⟩]
def a94 : AFunc := ⟨[.tmp 4], (.seq (.ops a94_0) (.seq (.ops a94_1) (.seq (.ops a94_2) (.seq (.seq (.ops a94_3) (.cond (.t 11) (.seq (.seq (.ops a94_4) (.cond (.t 12) (.seq (.ops a94_5) .ret) .skip)) (.seq (.ops a94_6) .ret)) .skip)) (.seq (.seq (.ops a94_7) (.cond (.t 13) (.seq (.ops a94_8) .ret) .skip)) (.seq (.seq (.ops a94_9) (.cond (.t 16) (.seq (.ops a94_10) .ret) .skip)) (.seq (.seq (.ops a94_11) (.cond (.t 19) (.seq (.ops a94_12) .ret) .skip)) (.seq (.ops a94_13) .ret))))))))⟩
/-! ### 95: slices.CompareFunc[[]heddle/api.Term,[]heddle/api.Term,heddle/api.Term,heddle/api.Term] (39 slots) -/
def a95_0 : List AOper := [
 ⟨some 6, .mv (.c (.int .i64 0)), none⟩]
def a95_1 : List AOper := [
 ⟨some 11, .mv (.t 0), none⟩,
 ⟨some 12, .len false (.t 11), none⟩,
 ⟨some 13, .mv (.c (.int .i64 0)), none⟩]
def a95_2 : List AOper := [
 ⟨some 14, .bin .lss (.t 13) (.t 12), none⟩]
def a95_3 : List AOper := [
 ⟨some 15, .mv (.t 13), none⟩,
 ⟨some 16, .idxAddr 6 (.t 11) (.t 13), none⟩,
 ⟨some 17, .load true 6 (.t 16), none⟩,
 ⟨some 8, .alloc [(.int .i64 0), (.int .i64 0), (.str []), (.int .u32 0), .nils, .nils], none⟩,
 ⟨some 7, .mv (.t 15), none⟩,
 ⟨none, .store 6 (.t 8) (.t 17), none⟩]
def a95_4 : List AOper := [
 ⟨some 18, .mv (.t 7), none⟩,
 ⟨some 19, .mv (.t 1), none⟩,
 ⟨some 20, .len false (.t 19), none⟩,
 ⟨some 21, .bin .geq (.t 18) (.t 20), none⟩]
def a95_5 : List AOper := [
 ⟨some 6, .mv (.c (.int .i64 1)), none⟩]
def a95_6 : List AOper := [
 ⟨some 22, .mv (.t 1), none⟩,
 ⟨some 23, .mv (.t 7), none⟩,
 ⟨some 24, .idxAddr 6 (.t 22) (.t 23), none⟩,
 ⟨some 25, .load true 6 (.t 24), none⟩,
 ⟨some 9, .alloc [(.int .i64 0), (.int .i64 0), (.str []), (.int .u32 0), .nils, .nils], none⟩,
 ⟨none, .store 6 (.t 9) (.t 25), none⟩]
def a95_7 : List AOper := [
 ⟨some 26, .mv (.t 2), none⟩,
 ⟨some 27, .load true 6 (.t 8), none⟩,
 ⟨some 28, .load true 6 (.t 9), none⟩,
 ⟨some 29, .callv (.t 26) [(.t 27), (.t 28)], none⟩,
 ⟨some 10, .mv (.t 29), none⟩]
def a95_8 : List AOper := [
 ⟨some 30, .mv (.t 10), none⟩,
 ⟨some 31, .bin .neq (.t 30) (.c (.int .i64 0)), none⟩]
def a95_9 : List AOper := [
 ⟨some 32, .mv (.t 10), none⟩,
 ⟨some 6, .mv (.t 32), none⟩]
def a95_10 : List AOper := [
 ⟨some 33, .bin .add (.t 13) (.c (.int .i64 1)), none⟩,
 ⟨some 13, .mv (.t 33), none⟩]
def a95_l11 : AC := (.seq (.ops a95_2) (.seq (.cond (.t 14) .skip (.exit 0)) (.seq (.block 1 (.seq (.ops a95_3) (.seq (.seq (.ops a95_4) (.cond (.t 21) (.seq (.ops a95_5) .ret) .skip)) (.seq (.ops a95_6) (.seq (.ops a95_7) (.seq (.ops a95_8) (.cond (.t 31) (.seq (.ops a95_9) .ret) .skip))))))) (.ops a95_10))))
def a95_12 : List AOper := [
 ⟨some 34, .mv (.t 0), none⟩,
 ⟨some 35, .len false (.t 34), none⟩,
 ⟨some 36, .mv (.t 1), none⟩,
 ⟨some 37, .len false (.t 36), none⟩,
 ⟨some 38, .bin .lss (.t 35) (.t 37), none⟩]
def a95_13 : List AOper := [
 ⟨some 6, .mv (.c (.int .i64 (-1))), none⟩]
def a95_14 : List AOper := [
 ⟨some 6, .mv (.c (.int .i64 0)), none⟩]
def a95 : AFunc := ⟨[.tmp 6], (.seq (.ops a95_0) (.seq (.seq (.ops a95_1) (.block 0 (.loop a95_l11))) (.seq (.seq (.ops a95_12) (.cond (.t 38) (.seq (.ops a95_13) .ret) .skip)) (.seq (.ops a95_14) .ret))))⟩
/-! ### 96: heddle/term.lists (36 slots) -/
def a96_0 : List AOper := [
 ⟨some 4, .mv (.c (.int .i64 0)), none⟩]
def a96_1 : List AOper := [
 ⟨some 7, .mv (.t 0), none⟩,
 ⟨some 8, .len false (.t 7), none⟩,
 ⟨some 9, .bin .gtr (.t 8) (.c (.int .i64 1)), none⟩,
 ⟨some 10, .mv (.t 9), none⟩,
 ⟨some 11, .mv (.t 1), some (10, true)⟩,
 ⟨some 12, .len false (.t 11), some (10, true)⟩,
 ⟨some 13, .bin .gtr (.t 12) (.c (.int .i64 1)), some (10, true)⟩,
 ⟨some 14, .pick (.t 10) (.t 13) (.c (.bool false)), none⟩]
def a96_2 : List AOper := [
 ⟨some 15, .mv (.t 0), none⟩,
 ⟨some 16, .idxAddr 6 (.t 15) (.c (.int .i64 0)), none⟩,
 ⟨some 17, .load true 6 (.t 16), none⟩,
 ⟨some 18, .mv (.t 1), none⟩,
 ⟨some 19, .idxAddr 6 (.t 18) (.c (.int .i64 0)), none⟩,
 ⟨some 20, .load true 6 (.t 19), none⟩,
 ⟨some 21, .call 53 [(.t 17), (.t 20)], none⟩,
 ⟨some 5, .mv (.t 21), none⟩]
def a96_2b : List Nat := [0, 1, 3, 0, 8, 24, 63, 127]
def a96_3 : List AOper := [
 ⟨some 22, .mv (.t 5), none⟩,
 ⟨some 23, .bin .neq (.t 22) (.c (.int .i64 0)), none⟩]
def a96_4 : List AOper := [
 ⟨some 24, .mv (.t 5), none⟩,
 ⟨some 4, .mv (.t 24), none⟩]
def a96_5 : List AOper := [
 ⟨some 25, .mv (.t 0), none⟩,
 ⟨some 26, .slice 6 (.t 25) (some (.c (.int .i64 1))) none none, none⟩,
 ⟨some 27, .mv (.t 1), none⟩,
 ⟨some 28, .slice 6 (.t 27) (some (.c (.int .i64 1))) none none, none⟩,
 ⟨some 0, .mv (.t 26), none⟩,
 ⟨some 1, .mv (.t 28), none⟩]
def a96_5b : List Nat := [0, 1, 0, 4, 3, 31]
def a96_l6 : AC := (.seq (.seq (.ops a96_1) (.cond (.t 14) .skip (.exit 0))) (.block 1 (.seq (.seq (.draw a96_2 a96_2b) (.seq (.ops a96_3) (.cond (.t 23) (.seq (.ops a96_4) .ret) .skip))) (.draw a96_5 a96_5b))))
def a96_7 : List AOper := [
 ⟨some 6, .mv (.c (.fn (.func 128) [] [])), none⟩]
def a96_8 : List AOper := [
 ⟨some 29, .mv (.t 6), none⟩,
 ⟨some 30, .mv (.t 0), none⟩,
 ⟨some 31, .callv (.t 29) [(.t 30)], none⟩,
 ⟨some 32, .mv (.t 6), none⟩,
 ⟨some 33, .mv (.t 1), none⟩,
 ⟨some 34, .callv (.t 32) [(.t 33)], none⟩,
 ⟨some 35, .call 53 [(.t 31), (.t 34)], none⟩,
 ⟨some 4, .mv (.t 35), none⟩]
def a96 : AFunc := ⟨[.tmp 4], (.seq (.ops a96_0) (.seq (.block 0 (.loop a96_l6)) (.seq (.ops a96_7) (.seq (.ops a96_8) .ret))))⟩
/-! ### 97: (*heddle/term.walker).walk (64 slots) -/
def a97_0 : List AOper := [
 ⟨some 4, .box false 6 (.t 1), none⟩,
 ⟨some 6, .mv (.c .nili), none⟩]
def a97_1 : List AOper := [
 ⟨some 12, .mv (.t 0), none⟩,
 ⟨some 13, .nilCheck (.t 12), none⟩,
 ⟨some 14, .fieldAddr 0 (.t 13), none⟩,
 ⟨some 15, .load false 1 (.t 14), none⟩,
 ⟨some 7, .mv (.t 15), none⟩]
def a97_2 : List AOper := [
 ⟨some 17, .mv (.t 7), none⟩,
 ⟨some 18, .bin .eql (.t 17) (.c (.int .i64 4096)), none⟩,
 ⟨some 16, .mv (.t 18), none⟩]
def a97_3 : List AOper := [
 ⟨some 19, .mv (.t 7), none⟩,
 ⟨some 20, .call 129 [(.t 19), (.c (.int .i64 5)), (.c .nili)], none⟩,
 ⟨some 6, .mv (.t 20), none⟩]
def a97_4 : List AOper := [
 ⟨some 22, .mv (.t 2), none⟩,
 ⟨some 23, .bin .gtr (.t 22) (.c (.int .i64 256)), none⟩,
 ⟨some 21, .mv (.t 23), none⟩]
def a97_5 : List AOper := [
 ⟨some 24, .mv (.t 7), none⟩,
 ⟨some 25, .call 129 [(.t 24), (.c (.int .i64 9)), (.c .nili)], none⟩,
 ⟨some 6, .mv (.t 25), none⟩]
def a97_6 : List AOper := [
 ⟨some 26, .load true 6 (.t 4), none⟩,
 ⟨some 27, .mv (.t 7), none⟩,
 ⟨some 28, .call 130 [(.t 26), (.t 27)], none⟩,
 ⟨some 8, .mv (.t 28), none⟩]
def a97_7 : List AOper := [
 ⟨some 29, .mv (.t 8), none⟩,
 ⟨some 30, .eq true (.iface true) (.t 29) (.c .nili), none⟩]
def a97_8 : List AOper := [
 ⟨some 31, .mv (.t 8), none⟩,
 ⟨some 6, .mv (.t 31), none⟩]
def a97_9 : List AOper := [
 ⟨some 32, .mv (.t 0), none⟩,
 ⟨some 33, .nilCheck (.t 32), none⟩,
 ⟨some 34, .fieldAddr 0 (.t 33), none⟩,
 ⟨some 35, .load false 1 (.t 34), none⟩,
 ⟨some 36, .bin .add (.t 35) (.c (.int .i64 1)), none⟩,
 ⟨some 37, .nilCheck (.t 32), none⟩,
 ⟨some 38, .fieldAddr 0 (.t 37), none⟩,
 ⟨none, .store 1 (.t 38) (.t 36), none⟩]
def a97_10 : List AOper := [
 ⟨some 39, .mv (.t 0), none⟩,
 ⟨some 40, .mv (.t 0), none⟩,
 ⟨some 41, .nilCheck (.t 40), none⟩,
 ⟨some 42, .fieldAddr 1 (.t 41), none⟩,
 ⟨some 43, .load false 1 (.t 42), none⟩,
 ⟨some 44, .mv (.t 2), none⟩,
 ⟨some 45, .minmax true (.t 43) (.t 44), none⟩,
 ⟨some 46, .nilCheck (.t 39), none⟩,
 ⟨some 47, .fieldAddr 1 (.t 46), none⟩,
 ⟨none, .store 1 (.t 47) (.t 45), none⟩]
def a97_11 : List AOper := [
 ⟨some 48, .fieldAddr 5 (.t 4), none⟩,
 ⟨some 49, .load false 1 (.t 48), none⟩,
 ⟨some 50, .len false (.t 49), none⟩,
 ⟨some 51, .mv (.c (.int .i64 0)), none⟩]
def a97_12 : List AOper := [
 ⟨some 52, .bin .lss (.t 51) (.t 50), none⟩]
def a97_13 : List AOper := [
 ⟨some 53, .idxAddr 6 (.t 49) (.t 51), none⟩,
 ⟨some 54, .load true 6 (.t 53), none⟩,
 ⟨some 10, .alloc [(.int .i64 0), (.int .i64 0), (.str []), (.int .u32 0), .nils, .nils], none⟩,
 ⟨none, .store 6 (.t 10) (.t 54), none⟩]
def a97_14 : List AOper := [
 ⟨some 55, .mv (.t 0), none⟩,
 ⟨some 56, .load true 6 (.t 10), none⟩,
 ⟨some 57, .mv (.t 2), none⟩,
 ⟨some 58, .bin .add (.t 57) (.c (.int .i64 1)), none⟩,
 ⟨some 59, .call 97 [(.t 55), (.t 56), (.t 58)], none⟩,
 ⟨some 11, .mv (.t 59), none⟩]
def a97_15 : List AOper := [
 ⟨some 60, .mv (.t 11), none⟩,
 ⟨some 61, .eq true (.iface true) (.t 60) (.c .nili), none⟩]
def a97_16 : List AOper := [
 ⟨some 62, .mv (.t 11), none⟩,
 ⟨some 6, .mv (.t 62), none⟩]
def a97_17 : List AOper := [
 ⟨some 63, .bin .add (.t 51) (.c (.int .i64 1)), none⟩,
 ⟨some 51, .mv (.t 63), none⟩]
def a97_l18 : AC := (.seq (.ops a97_12) (.seq (.cond (.t 52) .skip (.exit 1)) (.seq (.block 2 (.seq (.ops a97_13) (.seq (.ops a97_14) (.seq (.ops a97_15) (.cond (.t 61) (.seq (.ops a97_16) .ret) .skip))))) (.ops a97_17))))
def a97_19 : List AOper := [
 ⟨some 6, .mv (.c .nili), none⟩]
def a97 : AFunc := ⟨[.tmp 6], (.seq (.ops a97_0) (.seq (.ops a97_1) (.seq (.block 0 (.seq (.ops a97_2) (.cond (.t 16) (.seq (.ops a97_3) .ret) (.seq (.ops a97_4) (.cond (.t 21) (.seq (.ops a97_5) .ret) .skip))))) (.seq (.seq (.ops a97_6) (.seq (.ops a97_7) (.cond (.t 30) (.seq (.ops a97_8) .ret) .skip))) (.seq (.ops a97_9) (.seq (.ops a97_10) (.seq (.seq (.ops a97_11) (.block 1 (.loop a97_l18))) (.seq (.ops a97_19) .ret))))))))⟩
/-! ### 100: heddle/bif.product (28 slots) -/
def a100_0 : List AOper := [
 ⟨some 4, .mv (.c (.int .i64 0)), none⟩,
 ⟨some 5, .mv (.c (.bool false)), none⟩]
def a100_1 : List AOper := [
 ⟨some 7, .mv (.t 0), none⟩,
 ⟨some 8, .bin .eql (.t 7) (.c (.int .i64 0)), none⟩,
 ⟨some 9, .mv (.t 8), none⟩,
 ⟨some 10, .mv (.t 1), some (9, false)⟩,
 ⟨some 11, .bin .eql (.t 10) (.c (.int .i64 0)), some (9, false)⟩,
 ⟨some 12, .pick (.t 9) (.c (.bool true)) (.t 11), none⟩]
def a100_2 : List AOper := [
 ⟨some 4, .mv (.c (.int .i64 0)), none⟩,
 ⟨some 5, .mv (.c (.bool true)), none⟩]
def a100_3 : List AOper := [
 ⟨some 13, .mv (.t 0), none⟩,
 ⟨some 14, .mv (.t 1), none⟩,
 ⟨some 15, .bin .mul (.t 13) (.t 14), none⟩,
 ⟨some 6, .mv (.t 15), none⟩]
def a100_4 : List AOper := [
 ⟨some 16, .mv (.t 6), none⟩,
 ⟨some 17, .mv (.t 6), none⟩,
 ⟨some 18, .mv (.t 1), none⟩,
 ⟨some 19, .bin .quo (.t 17) (.t 18), none⟩,
 ⟨some 20, .mv (.t 0), none⟩,
 ⟨some 21, .bin .eql (.t 19) (.t 20), none⟩,
 ⟨some 22, .mv (.t 21), none⟩,
 ⟨some 23, .mv (.t 6), some (22, true)⟩,
 ⟨some 24, .mv (.t 1), some (22, true)⟩,
 ⟨some 25, .bin .rem (.t 23) (.t 24), some (22, true)⟩,
 ⟨some 26, .bin .eql (.t 25) (.c (.int .i64 0)), some (22, true)⟩,
 ⟨some 27, .pick (.t 22) (.t 26) (.c (.bool false)), none⟩,
 ⟨some 4, .mv (.t 16), none⟩,
 ⟨some 5, .mv (.t 27), none⟩]
def a100_4b : List Nat := [0, 0, 0, 6, 0, 30, 62, 126, 126, 510, 1022, 2046, 127, 8191]
def a100 : AFunc := ⟨[.tmp 4, .tmp 5], (.seq (.ops a100_0) (.seq (.seq (.ops a100_1) (.cond (.t 12) (.seq (.ops a100_2) .ret) .skip)) (.seq (.ops a100_3) (.seq (.draw a100_4 a100_4b) .ret))))⟩
/-! ### 101: heddle/bif.boolean (18 slots) -/
def a101_0 : List AOper := [
 ⟨some 1, .box false 6 (.t 0), none⟩,
 ⟨some 2, .mv (.c (.bool false)), none⟩,
 ⟨some 3, .mv (.c (.bool false)), none⟩]
def a101_1 : List AOper := [
 ⟨some 4, .fieldAddr 0 (.t 1), none⟩,
 ⟨some 5, .load false 1 (.t 4), none⟩,
 ⟨some 6, .bin .neq (.t 5) (.c (.int .i64 2)), none⟩]
def a101_2 : List AOper := [
 ⟨some 2, .mv (.c (.bool false)), none⟩,
 ⟨some 3, .mv (.c (.bool false)), none⟩]
def a101_3 : List AOper := [
 ⟨some 7, .fieldAddr 2 (.t 1), none⟩,
 ⟨some 8, .load false 1 (.t 7), none⟩,
 ⟨some 9, .bin .eql (.t 8) (.c (.str [116, 114, 117, 101])), none⟩,
 ⟨some 10, .fieldAddr 2 (.t 1), none⟩,
 ⟨some 11, .load false 1 (.t 10), none⟩,
 ⟨some 12, .bin .eql (.t 11) (.c (.str [116, 114, 117, 101])), none⟩,
 ⟨some 13, .mv (.t 12), none⟩,
 ⟨some 14, .fieldAddr 2 (.t 1), some (13, false)⟩,
 ⟨some 15, .load false 1 (.t 14), some (13, false)⟩,
 ⟨some 16, .bin .eql (.t 15) (.c (.str [102, 97, 108, 115, 101])), some (13, false)⟩,
 ⟨some 17, .pick (.t 13) (.c (.bool true)) (.t 16), none⟩,
 ⟨some 2, .mv (.t 9), none⟩,
 ⟨some 3, .mv (.t 17), none⟩]
def a101_3b : List Nat := [0, 1, 3, 0, 8, 24, 56, 120, 248, 504, 1016, 127, 4095]
def a101 : AFunc := ⟨[.tmp 2, .tmp 3], (.seq (.ops a101_0) (.seq (.seq (.ops a101_1) (.cond (.t 6) (.seq (.ops a101_2) .ret) .skip)) (.seq (.draw a101_3 a101_3b) .ret)))⟩
/-! ### 102: heddle/bif.elements (31 slots) -/
def a102_0 : List AOper := [
 ⟨some 1, .box false 6 (.t 0), none⟩,
 ⟨some 2, .mv (.c .nils), none⟩,
 ⟨some 3, .mv (.c (.bool false)), none⟩]
def a102_1 : List AOper := [
 ⟨some 5, .fieldAddr 5 (.t 1), none⟩,
 ⟨some 6, .load false 1 (.t 5), none⟩,
 ⟨some 7, .len false (.t 6), none⟩,
 ⟨some 8, .bin .sub (.t 7) (.c (.int .i64 1)), none⟩,
 ⟨some 4, .mv (.t 8), none⟩]
def a102_2 : List AOper := [
 ⟨some 10, .fieldAddr 0 (.t 1), none⟩,
 ⟨some 11, .load false 1 (.t 10), none⟩,
 ⟨some 12, .bin .eql (.t 11) (.c (.int .i64 6)), none⟩,
 ⟨some 9, .mv (.t 12), none⟩]
def a102_3 : List AOper := [
 ⟨some 2, .mv (.c .nils), none⟩,
 ⟨some 3, .mv (.c (.bool true)), none⟩]
def a102_4 : List AOper := [
 ⟨some 14, .fieldAddr 0 (.t 1), none⟩,
 ⟨some 15, .load false 1 (.t 14), none⟩,
 ⟨some 16, .bin .eql (.t 15) (.c (.int .i64 7)), none⟩,
 ⟨some 17, .mv (.t 16), none⟩,
 ⟨some 18, .fieldAddr 5 (.t 1), some (17, true)⟩,
 ⟨some 19, .load false 1 (.t 18), some (17, true)⟩,
 ⟨some 20, .mv (.t 4), some (17, true)⟩,
 ⟨some 21, .idxAddr 6 (.t 19) (.t 20), some (17, true)⟩,
 ⟨some 22, .fieldAddr 0 (.t 21), some (17, true)⟩,
 ⟨some 23, .load false 1 (.t 22), some (17, true)⟩,
 ⟨some 24, .bin .eql (.t 23) (.c (.int .i64 6)), some (17, true)⟩,
 ⟨some 25, .pick (.t 17) (.t 24) (.c (.bool false)), none⟩,
 ⟨some 13, .mv (.t 25), none⟩]
def a102_5 : List AOper := [
 ⟨some 26, .fieldAddr 5 (.t 1), none⟩,
 ⟨some 27, .load false 1 (.t 26), none⟩,
 ⟨some 28, .mv (.t 4), none⟩,
 ⟨some 29, .mv (.t 4), none⟩,
 ⟨some 30, .slice 6 (.t 27) none (some (.t 28)) (some (.t 29)), none⟩,
 ⟨some 2, .mv (.t 30), none⟩,
 ⟨some 3, .mv (.c (.bool true)), none⟩]
def a102_6 : List AOper := [
 ⟨some 2, .mv (.c .nils), none⟩,
 ⟨some 3, .mv (.c (.bool false)), none⟩]
def a102 : AFunc := ⟨[.tmp 2, .tmp 3], (.seq (.ops a102_0) (.seq (.seq (.ops a102_1) (.block 0 (.seq (.ops a102_2) (.cond (.t 9) (.seq (.ops a102_3) .ret) (.seq (.ops a102_4) (.cond (.t 13) (.seq (.ops a102_5) .ret) .skip)))))) (.seq (.ops a102_6) .ret)))⟩
/-! ### 103: heddle/bif.list (26 slots) -/
def a103_0 : List AOper := [
 ⟨some 3, .box false 6 (.t 1), none⟩,
 ⟨some 4, .alloc [(.int .i64 0), (.int .i64 0), (.str []), (.int .u32 0), .nils, .nils], none⟩]
def a103_1 : List AOper := [
 ⟨some 6, .mv (.t 0), none⟩,
 ⟨some 7, .len false (.t 6), none⟩,
 ⟨some 8, .bin .eql (.t 7) (.c (.int .i64 0)), none⟩,
 ⟨some 5, .mv (.t 8), none⟩]
def a103_2 : List AOper := [
 ⟨some 9, .load true 6 (.t 3), none⟩,
 ⟨none, .store 6 (.t 4) (.t 9), none⟩]
def a103_3 : List AOper := [
 ⟨some 11, .fieldAddr 0 (.t 3), none⟩,
 ⟨some 12, .load false 1 (.t 11), none⟩,
 ⟨some 13, .bin .eql (.t 12) (.c (.int .i64 7)), none⟩,
 ⟨some 10, .mv (.t 13), none⟩]
def a103_4 : List AOper := [
 ⟨some 14, .mv (.t 0), none⟩,
 ⟨some 15, .fieldAddr 5 (.t 3), none⟩,
 ⟨some 16, .load false 1 (.t 15), none⟩,
 ⟨some 17, .lit true 1 2 [.nils, .nils] [(0, 1, (.t 14)), (1, 1, (.t 16))], none⟩,
 ⟨some 18, .call 131 [(.t 17)], none⟩,
 ⟨some 19, .build [(.int .i64 0), (.int .i64 0), (.str []), (.int .u32 0), .nils, .nils] [(0, 1, (.c (.int .i64 7))), (5, 1, (.t 18))], none⟩,
 ⟨none, .store 6 (.t 4) (.t 19), none⟩]
def a103_5 : List AOper := [
 ⟨some 20, .mv (.t 0), none⟩,
 ⟨some 21, .call 104 [(.t 20)], none⟩,
 ⟨some 22, .load true 6 (.t 3), none⟩,
 ⟨some 23, .lit true 6 1 [(.int .i64 0), (.int .i64 0), (.str []), (.int .u32 0), .nils, .nils] [(0, 6, (.t 22))], none⟩,
 ⟨some 24, .append 6 88 (.t 21) (.t 23), none⟩,
 ⟨some 25, .build [(.int .i64 0), (.int .i64 0), (.str []), (.int .u32 0), .nils, .nils] [(0, 1, (.c (.int .i64 7))), (5, 1, (.t 24))], none⟩,
 ⟨none, .store 6 (.t 4) (.t 25), none⟩]
def a103_5b : List Nat := [0, 1, 0, 4, 15, 31, 63]
def a103 : AFunc := ⟨[.cell 4 true 6], (.seq (.ops a103_0) (.seq (.block 0 (.seq (.ops a103_1) (.cond (.t 5) (.seq (.ops a103_2) .ret) (.seq (.ops a103_3) (.cond (.t 10) (.seq (.ops a103_4) .ret) .skip))))) (.seq (.draw a103_5 a103_5b) .ret)))⟩
/-! ### 104: slices.Clone[[]heddle/api.Term,heddle/api.Term] (8 slots) -/
def a104_0 : List AOper := [
 ⟨some 2, .mv (.c .nils), none⟩]
def a104_1 : List AOper := [
 ⟨some 3, .mv (.t 0), none⟩,
 ⟨some 4, .eq false .slice (.t 3) (.c .nils), none⟩]
def a104_2 : List AOper := [
 ⟨some 2, .mv (.c .nils), none⟩]
def a104_3 : List AOper := [
 ⟨some 5, .lit true 6 0 [] [], none⟩,
 ⟨some 6, .mv (.t 0), none⟩,
 ⟨some 7, .append 6 88 (.t 5) (.t 6), none⟩,
 ⟨some 2, .mv (.t 7), none⟩]
def a104 : AFunc := ⟨[.tmp 2], (.seq (.ops a104_0) (.seq (.seq (.ops a104_1) (.cond (.t 4) (.seq (.ops a104_2) .ret) .skip)) (.seq (.ops a104_3) .ret)))⟩
/-! ### 105: slices.IndexFunc[[]heddle/api.Term,heddle/api.Term] (19 slots) -/
def a105_0 : List AOper := [
 ⟨some 4, .mv (.c (.int .i64 0)), none⟩]
def a105_1 : List AOper := [
 ⟨some 6, .mv (.t 0), none⟩,
 ⟨some 7, .len false (.t 6), none⟩,
 ⟨some 8, .mv (.c (.int .i64 0)), none⟩]
def a105_2 : List AOper := [
 ⟨some 9, .bin .lss (.t 8) (.t 7), none⟩]
def a105_3 : List AOper := [
 ⟨some 10, .mv (.t 8), none⟩,
 ⟨some 5, .mv (.t 10), none⟩]
def a105_4 : List AOper := [
 ⟨some 11, .mv (.t 1), none⟩,
 ⟨some 12, .mv (.t 0), none⟩,
 ⟨some 13, .mv (.t 5), none⟩,
 ⟨some 14, .idxAddr 6 (.t 12) (.t 13), none⟩,
 ⟨some 15, .load true 6 (.t 14), none⟩,
 ⟨some 16, .callv (.t 11) [(.t 15)], none⟩]
def a105_5 : List AOper := [
 ⟨some 17, .mv (.t 5), none⟩,
 ⟨some 4, .mv (.t 17), none⟩]
def a105_6 : List AOper := [
 ⟨some 18, .bin .add (.t 8) (.c (.int .i64 1)), none⟩,
 ⟨some 8, .mv (.t 18), none⟩]
def a105_l7 : AC := (.seq (.ops a105_2) (.seq (.cond (.t 9) .skip (.exit 0)) (.seq (.block 1 (.seq (.ops a105_3) (.seq (.ops a105_4) (.cond (.t 16) (.seq (.ops a105_5) .ret) .skip)))) (.ops a105_6))))
def a105_8 : List AOper := [
 ⟨some 4, .mv (.c (.int .i64 (-1))), none⟩]
def a105 : AFunc := ⟨[.tmp 4], (.seq (.ops a105_0) (.seq (.seq (.ops a105_1) (.block 0 (.loop a105_l7))) (.seq (.ops a105_8) .ret)))⟩
/-! ### 106: heddle/bif.joined$1 (7 slots) -/
def a106_0 : List AOper := [
 ⟨some 2, .box false 6 (.t 0), none⟩,
 ⟨some 3, .mv (.c (.bool false)), none⟩]
def a106_1 : List AOper := [
 ⟨some 4, .load true 6 (.t 1), none⟩,
 ⟨some 5, .load true 6 (.t 2), none⟩,
 ⟨some 6, .call 33 [(.t 4), (.t 5)], none⟩,
 ⟨some 3, .mv (.t 6), none⟩]
def a106 : AFunc := ⟨[.tmp 3], (.seq (.ops a106_0) (.seq (.ops a106_1) .ret))⟩
/-! ### 107: slices.Delete[[]heddle/api.Term,heddle/api.Term] (33 slots) -/
def a107_0 : List AOper := [
 ⟨some 6, .mv (.c .nils), none⟩]
def a107_1 : List AOper := [
 ⟨some 8, .mv (.t 0), none⟩,
 ⟨some 9, .mv (.t 1), none⟩,
 ⟨some 10, .mv (.t 2), none⟩,
 ⟨some 11, .mv (.t 0), none⟩,
 ⟨some 12, .len false (.t 11), none⟩,
 ⟨some 13, .slice 6 (.t 8) (some (.t 9)) (some (.t 10)) (some (.t 12)), none⟩]
def a107_2 : List AOper := [
 ⟨some 14, .mv (.t 1), none⟩,
 ⟨some 15, .mv (.t 2), none⟩,
 ⟨some 16, .bin .eql (.t 14) (.t 15), none⟩]
def a107_3 : List AOper := [
 ⟨some 17, .mv (.t 0), none⟩,
 ⟨some 6, .mv (.t 17), none⟩]
def a107_4 : List AOper := [
 ⟨some 18, .mv (.t 0), none⟩,
 ⟨some 19, .len false (.t 18), none⟩,
 ⟨some 7, .mv (.t 19), none⟩]
def a107_5 : List AOper := [
 ⟨some 20, .mv (.t 0), none⟩,
 ⟨some 21, .mv (.t 1), none⟩,
 ⟨some 22, .slice 6 (.t 20) none (some (.t 21)) none, none⟩,
 ⟨some 23, .mv (.t 0), none⟩,
 ⟨some 24, .mv (.t 2), none⟩,
 ⟨some 25, .slice 6 (.t 23) (some (.t 24)) none none, none⟩,
 ⟨some 26, .append 6 88 (.t 22) (.t 25), none⟩,
 ⟨some 0, .mv (.t 26), none⟩]
def a107_5b : List Nat := [0, 0, 3, 0, 0, 24, 63, 127]
def a107_6 : List AOper := [
 ⟨some 27, .mv (.t 0), none⟩,
 ⟨some 28, .mv (.t 0), none⟩,
 ⟨some 29, .len false (.t 28), none⟩,
 ⟨some 30, .mv (.t 7), none⟩,
 ⟨some 31, .slice 6 (.t 27) (some (.t 29)) (some (.t 30)) none, none⟩,
  ⟨none, .bad, none⟩]
def a107_7 : List AOper := [
 ⟨some 32, .mv (.t 0), none⟩,
 ⟨some 6, .mv (.t 32), none⟩]
def a107 : AFunc := ⟨[.tmp 6], (.seq (.ops a107_0) (.seq (.ops a107_1) (.seq (.seq (.ops a107_2) (.cond (.t 16) (.seq (.ops a107_3) .ret) .skip)) (.seq (.ops a107_4) (.seq (.draw a107_5 a107_5b) (.seq (.ops a107_6) (.seq (.ops a107_7) .ret)))))))⟩
/-! ### 108: heddle/bif.null (2 slots) -/
def a108_0 : List AOper := [
 ⟨some 0, .alloc [(.int .i64 0), (.int .i64 0), (.str []), (.int .u32 0), .nils, .nils], none⟩]
def a108_1 : List AOper := [
 ⟨some 1, .build [(.int .i64 0), (.int .i64 0), (.str []), (.int .u32 0), .nils, .nils] [(0, 1, (.c (.int .i64 6)))], none⟩,
 ⟨none, .store 6 (.t 0) (.t 1), none⟩]
def a108 : AFunc := ⟨[.cell 0 true 6], (.seq (.ops a108_0) (.seq (.ops a108_1) .ret))⟩
/-! ### 109: internal/stringslite.HasPrefix (18 slots) -/
def a109_0 : List AOper := [
 ⟨some 4, .mv (.c (.bool false)), none⟩]
def a109_1 : List AOper := [
 ⟨some 5, .mv (.t 0), none⟩,
 ⟨some 6, .len true (.t 5), none⟩,
 ⟨some 7, .mv (.t 1), none⟩,
 ⟨some 8, .len true (.t 7), none⟩,
 ⟨some 9, .bin .geq (.t 6) (.t 8), none⟩,
 ⟨some 10, .mv (.t 9), none⟩,
 ⟨some 11, .mv (.t 0), some (10, true)⟩,
 ⟨some 12, .mv (.t 1), some (10, true)⟩,
 ⟨some 13, .len true (.t 12), some (10, true)⟩,
 ⟨some 14, .sliceStr (.t 11) none (some (.t 13)), some (10, true)⟩,
 ⟨some 15, .mv (.t 1), some (10, true)⟩,
 ⟨some 16, .bin .eql (.t 14) (.t 15), some (10, true)⟩,
 ⟨some 17, .pick (.t 10) (.t 16) (.c (.bool false)), none⟩,
 ⟨some 4, .mv (.t 17), none⟩]
def a109 : AFunc := ⟨[.tmp 4], (.seq (.ops a109_0) (.seq (.ops a109_1) .ret))⟩
/-! ### 110: heddle/bif.element (29 slots) -/
def a110_0 : List AOper := [
 ⟨some 2, .box false 6 (.t 0), none⟩,
 ⟨some 3, .box false 6 (.t 1), none⟩,
 ⟨some 4, .mv (.c (.int .i64 0)), none⟩]
def a110_1 : List AOper := [
 ⟨some 5, .fieldAddr 0 (.t 2), none⟩,
 ⟨some 6, .load false 1 (.t 5), none⟩,
 ⟨some 7, .bin .neq (.t 6) (.c (.int .i64 1)), none⟩,
 ⟨some 8, .mv (.t 7), none⟩,
 ⟨some 9, .fieldAddr 0 (.t 3), some (8, false)⟩,
 ⟨some 10, .load false 1 (.t 9), some (8, false)⟩,
 ⟨some 11, .bin .neq (.t 10) (.c (.int .i64 5)), some (8, false)⟩,
 ⟨some 12, .pick (.t 8) (.c (.bool true)) (.t 11), none⟩,
 ⟨some 13, .mv (.t 12), none⟩,
 ⟨some 14, .fieldAddr 1 (.t 2), some (13, false)⟩,
 ⟨some 15, .load false 1 (.t 14), some (13, false)⟩,
 ⟨some 16, .bin .lss (.t 15) (.c (.int .i64 1)), some (13, false)⟩,
 ⟨some 17, .pick (.t 13) (.c (.bool true)) (.t 16), none⟩,
 ⟨some 18, .mv (.t 17), none⟩,
 ⟨some 19, .fieldAddr 1 (.t 2), some (18, false)⟩,
 ⟨some 20, .load false 1 (.t 19), some (18, false)⟩,
 ⟨some 21, .fieldAddr 5 (.t 3), some (18, false)⟩,
 ⟨some 22, .load false 1 (.t 21), some (18, false)⟩,
 ⟨some 23, .len false (.t 22), some (18, false)⟩,
 ⟨some 24, .bin .gtr (.t 20) (.t 23), some (18, false)⟩,
 ⟨some 25, .pick (.t 18) (.c (.bool true)) (.t 24), none⟩]
def a110_2 : List AOper := [
 ⟨some 4, .mv (.c (.int .i64 (-1))), none⟩]
def a110_3 : List AOper := [
 ⟨some 26, .fieldAddr 1 (.t 2), none⟩,
 ⟨some 27, .load false 1 (.t 26), none⟩,
 ⟨some 28, .bin .sub (.t 27) (.c (.int .i64 1)), none⟩,
 ⟨some 4, .mv (.t 28), none⟩]
def a110 : AFunc := ⟨[.tmp 4], (.seq (.ops a110_0) (.seq (.seq (.ops a110_1) (.cond (.t 25) (.seq (.ops a110_2) .ret) .skip)) (.seq (.ops a110_3) .ret)))⟩
/-! ### 111: heddle/term.Split (39 slots) -/
def a111_0 : List AOper := [
 ⟨some 1, .box false 6 (.t 0), none⟩,
 ⟨some 2, .alloc [(.int .i64 0), (.int .i64 0), (.str []), (.int .u32 0), .nils, .nils], none⟩,
 ⟨some 3, .alloc [(.int .i64 0), (.int .i64 0), (.str []), (.int .u32 0), .nils, .nils], none⟩,
 ⟨some 4, .mv (.c (.bool false)), none⟩]
def a111_1 : List AOper := [
 ⟨some 6, .fieldAddr 0 (.t 1), none⟩,
 ⟨some 7, .load false 1 (.t 6), none⟩,
 ⟨some 8, .bin .neq (.t 7) (.c (.int .i64 7)), none⟩,
 ⟨some 9, .mv (.t 8), none⟩,
 ⟨some 10, .fieldAddr 5 (.t 1), some (9, false)⟩,
 ⟨some 11, .load false 1 (.t 10), some (9, false)⟩,
 ⟨some 12, .len false (.t 11), some (9, false)⟩,
 ⟨some 13, .bin .lss (.t 12) (.c (.int .i64 2)), some (9, false)⟩,
 ⟨some 14, .pick (.t 9) (.c (.bool true)) (.t 13), none⟩]
def a111_2 : List AOper := [
 ⟨some 15, .build [(.int .i64 0), (.int .i64 0), (.str []), (.int .u32 0), .nils, .nils] [], none⟩,
 ⟨some 16, .build [(.int .i64 0), (.int .i64 0), (.str []), (.int .u32 0), .nils, .nils] [], none⟩,
 ⟨none, .store 6 (.t 2) (.t 15), none⟩,
 ⟨none, .store 6 (.t 3) (.t 16), none⟩,
 ⟨some 4, .mv (.c (.bool false)), none⟩]
def a111_3 : List AOper := [
 ⟨some 17, .load true 6 (.t 1), none⟩,
 ⟨some 18, .call 39 [(.t 17)], none⟩,
 ⟨some 5, .alloc [(.int .i64 0), (.int .i64 0), (.str []), (.int .u32 0), .nils, .nils], none⟩,
 ⟨none, .store 6 (.t 5) (.t 18), none⟩]
def a111_4 : List AOper := [
 ⟨some 19, .fieldAddr 5 (.t 5), none⟩,
 ⟨some 20, .load false 1 (.t 19), none⟩,
 ⟨some 21, .len false (.t 20), none⟩,
 ⟨some 22, .bin .eql (.t 21) (.c (.int .i64 2)), none⟩]
def a111_5 : List AOper := [
 ⟨some 23, .fieldAddr 5 (.t 5), none⟩,
 ⟨some 24, .load false 1 (.t 23), none⟩,
 ⟨some 25, .idxAddr 6 (.t 24) (.c (.int .i64 0)), none⟩,
 ⟨some 26, .load true 6 (.t 25), none⟩,
 ⟨some 27, .fieldAddr 5 (.t 5), none⟩,
 ⟨some 28, .load false 1 (.t 27), none⟩,
 ⟨some 29, .idxAddr 6 (.t 28) (.c (.int .i64 1)), none⟩,
 ⟨some 30, .load true 6 (.t 29), none⟩,
 ⟨none, .store 6 (.t 2) (.t 26), none⟩,
 ⟨none, .store 6 (.t 3) (.t 30), none⟩,
 ⟨some 4, .mv (.c (.bool true)), none⟩]
def a111_5b : List Nat := [0, 1, 3, 7, 0, 16, 48, 112, 15, 511, 1023]
def a111_6 : List AOper := [
 ⟨some 31, .fieldAddr 5 (.t 5), none⟩,
 ⟨some 32, .load false 1 (.t 31), none⟩,
 ⟨some 33, .idxAddr 6 (.t 32) (.c (.int .i64 0)), none⟩,
 ⟨some 34, .load true 6 (.t 33), none⟩,
 ⟨some 35, .fieldAddr 5 (.t 5), none⟩,
 ⟨some 36, .load false 1 (.t 35), none⟩,
 ⟨some 37, .slice 6 (.t 36) (some (.c (.int .i64 1))) none none, none⟩,
 ⟨some 38, .build [(.int .i64 0), (.int .i64 0), (.str []), (.int .u32 0), .nils, .nils] [(0, 1, (.c (.int .i64 7))), (5, 1, (.t 37))], none⟩,
 ⟨none, .store 6 (.t 2) (.t 34), none⟩,
 ⟨none, .store 6 (.t 3) (.t 38), none⟩,
 ⟨some 4, .mv (.c (.bool true)), none⟩]
def a111_6b : List Nat := [0, 1, 3, 7, 0, 16, 48, 112, 15, 511, 1023]
def a111 : AFunc := ⟨[.cell 2 true 6, .cell 3 true 6, .tmp 4], (.seq (.ops a111_0) (.seq (.seq (.ops a111_1) (.cond (.t 14) (.seq (.ops a111_2) .ret) .skip)) (.seq (.ops a111_3) (.seq (.seq (.ops a111_4) (.cond (.t 22) (.seq (.draw a111_5 a111_5b) .ret) .skip)) (.seq (.draw a111_6 a111_6b) .ret)))))⟩
/-! ### 113: heddle/heddleref02.rest (15 slots) -/
def a113_0 : List AOper := [
 ⟨some 1, .box false 6 (.t 0), none⟩,
 ⟨some 2, .alloc [(.int .i64 0), (.int .i64 0), (.str []), (.int .u32 0), .nils, .nils], none⟩]
def a113_1 : List AOper := [
 ⟨some 3, .fieldAddr 5 (.t 1), none⟩,
 ⟨some 4, .load false 1 (.t 3), none⟩,
 ⟨some 5, .len false (.t 4), none⟩,
 ⟨some 6, .bin .eql (.t 5) (.c (.int .i64 2)), none⟩]
def a113_2 : List AOper := [
 ⟨some 7, .fieldAddr 5 (.t 1), none⟩,
 ⟨some 8, .load false 1 (.t 7), none⟩,
 ⟨some 9, .idxAddr 6 (.t 8) (.c (.int .i64 1)), none⟩,
 ⟨some 10, .load true 6 (.t 9), none⟩,
 ⟨none, .store 6 (.t 2) (.t 10), none⟩]
def a113_3 : List AOper := [
 ⟨some 11, .fieldAddr 5 (.t 1), none⟩,
 ⟨some 12, .load false 1 (.t 11), none⟩,
 ⟨some 13, .slice 6 (.t 12) (some (.c (.int .i64 1))) none none, none⟩,
 ⟨some 14, .build [(.int .i64 0), (.int .i64 0), (.str []), (.int .u32 0), .nils, .nils] [(0, 1, (.c (.int .i64 7))), (5, 1, (.t 13))], none⟩,
 ⟨none, .store 6 (.t 2) (.t 14), none⟩]
def a113 : AFunc := ⟨[.cell 2 true 6], (.seq (.ops a113_0) (.seq (.seq (.ops a113_1) (.cond (.t 6) (.seq (.ops a113_2) .ret) .skip)) (.seq (.ops a113_3) .ret)))⟩
/-! ### 114: heddle/heddleref13.times (33 slots) -/
def a114_0 : List AOper := [
 ⟨some 4, .alloc [(.int .i64 0), (.int .i64 0), (.str []), (.int .u32 0), .nils, .nils], none⟩,
 ⟨some 5, .mv (.c (.int .i64 0)), none⟩]
def a114_1 : List AOper := [
 ⟨some 7, .mv (.t 0), none⟩,
 ⟨some 8, .bin .eql (.t 7) (.c (.int .i64 0)), none⟩,
 ⟨some 9, .mv (.t 8), none⟩,
 ⟨some 10, .mv (.t 1), some (9, false)⟩,
 ⟨some 11, .bin .eql (.t 10) (.c (.int .i64 0)), some (9, false)⟩,
 ⟨some 12, .pick (.t 9) (.c (.bool true)) (.t 11), none⟩]
def a114_2 : List AOper := [
 ⟨some 13, .call 22 [(.c (.int .i64 0))], none⟩,
 ⟨none, .store 6 (.t 4) (.t 13), none⟩,
 ⟨some 5, .mv (.c (.int .i64 0)), none⟩]
def a114_3 : List AOper := [
 ⟨some 14, .mv (.t 0), none⟩,
 ⟨some 15, .mv (.t 1), none⟩,
 ⟨some 16, .bin .mul (.t 14) (.t 15), none⟩,
 ⟨some 6, .mv (.t 16), none⟩]
def a114_4 : List AOper := [
 ⟨some 17, .mv (.t 6), none⟩,
 ⟨some 18, .mv (.t 1), none⟩,
 ⟨some 19, .bin .quo (.t 17) (.t 18), none⟩,
 ⟨some 20, .mv (.t 0), none⟩,
 ⟨some 21, .bin .neq (.t 19) (.t 20), none⟩,
 ⟨some 22, .mv (.t 21), none⟩,
 ⟨some 23, .mv (.t 6), some (22, false)⟩,
 ⟨some 24, .bin .lss (.t 23) (.c (.int .i64 (-576460752303423488))), some (22, false)⟩,
 ⟨some 25, .pick (.t 22) (.c (.bool true)) (.t 24), none⟩,
 ⟨some 26, .mv (.t 25), none⟩,
 ⟨some 27, .mv (.t 6), some (26, false)⟩,
 ⟨some 28, .bin .gtr (.t 27) (.c (.int .i64 576460752303423487)), some (26, false)⟩,
 ⟨some 29, .pick (.t 26) (.c (.bool true)) (.t 28), none⟩]
def a114_5 : List AOper := [
 ⟨some 30, .build [(.int .i64 0), (.int .i64 0), (.str []), (.int .u32 0), .nils, .nils] [], none⟩,
 ⟨none, .store 6 (.t 4) (.t 30), none⟩,
 ⟨some 5, .mv (.c (.int .i64 262)), none⟩]
def a114_6 : List AOper := [
 ⟨some 31, .mv (.t 6), none⟩,
 ⟨some 32, .call 22 [(.t 31)], none⟩,
 ⟨none, .store 6 (.t 4) (.t 32), none⟩,
 ⟨some 5, .mv (.c (.int .i64 0)), none⟩]
def a114 : AFunc := ⟨[.cell 4 true 6, .tmp 5], (.seq (.ops a114_0) (.seq (.seq (.ops a114_1) (.cond (.t 12) (.seq (.ops a114_2) .ret) .skip)) (.seq (.ops a114_3) (.seq (.seq (.ops a114_4) (.cond (.t 29) (.seq (.ops a114_5) .ret) .skip)) (.seq (.ops a114_6) .ret)))))⟩
/-! ### 115: heddle/heddleref13.truth (20 slots) -/
def a115_0 : List AOper := [
 ⟨some 1, .box false 6 (.t 0), none⟩,
 ⟨some 2, .mv (.c (.bool false)), none⟩,
 ⟨some 3, .mv (.c (.bool false)), none⟩]
def a115_1 : List AOper := [
 ⟨some 4, .fieldAddr 2 (.t 1), none⟩,
 ⟨some 5, .load false 1 (.t 4), none⟩,
 ⟨some 6, .bin .eql (.t 5) (.c (.str [116, 114, 117, 101])), none⟩,
 ⟨some 7, .fieldAddr 0 (.t 1), none⟩,
 ⟨some 8, .load false 1 (.t 7), none⟩,
 ⟨some 9, .bin .eql (.t 8) (.c (.int .i64 2)), none⟩,
 ⟨some 10, .mv (.t 9), none⟩,
 ⟨some 11, .fieldAddr 2 (.t 1), some (10, true)⟩,
 ⟨some 12, .load false 1 (.t 11), some (10, true)⟩,
 ⟨some 13, .bin .eql (.t 12) (.c (.str [116, 114, 117, 101])), some (10, true)⟩,
 ⟨some 14, .mv (.t 13), some (10, true)⟩,
 ⟨some 15, .fieldAddr 2 (.t 1), some (14, false)⟩,
 ⟨some 16, .load false 1 (.t 15), some (14, false)⟩,
 ⟨some 17, .bin .eql (.t 16) (.c (.str [102, 97, 108, 115, 101])), some (14, false)⟩,
 ⟨some 18, .pick (.t 14) (.c (.bool true)) (.t 17), some (10, true)⟩,
 ⟨some 19, .pick (.t 10) (.t 18) (.c (.bool false)), none⟩,
 ⟨some 2, .mv (.t 6), none⟩,
 ⟨some 3, .mv (.t 19), none⟩]
def a115_1b : List Nat := [0, 1, 3, 0, 8, 24, 56, 120, 248, 504, 1016, 2040, 4088, 8184, 16376, 32760, 2047, 131071]
def a115 : AFunc := ⟨[.tmp 2, .tmp 3], (.seq (.ops a115_0) (.seq (.draw a115_1 a115_1b) .ret))⟩
/-! ### 116: heddle/heddleref13.Proper (29 slots) -/
def a116_0 : List AOper := [
 ⟨some 1, .box false 6 (.t 0), none⟩,
 ⟨some 2, .mv (.c .nils), none⟩,
 ⟨some 3, .mv (.c (.bool false)), none⟩]
def a116_1 : List AOper := [
 ⟨some 4, .fieldAddr 0 (.t 1), none⟩,
 ⟨some 5, .load false 1 (.t 4), none⟩,
 ⟨some 6, .bin .eql (.t 5) (.c (.int .i64 6)), none⟩]
def a116_2 : List AOper := [
 ⟨some 2, .mv (.c .nils), none⟩,
 ⟨some 3, .mv (.c (.bool true)), none⟩]
def a116_3 : List AOper := [
 ⟨some 7, .fieldAddr 0 (.t 1), none⟩,
 ⟨some 8, .load false 1 (.t 7), none⟩,
 ⟨some 9, .bin .neq (.t 8) (.c (.int .i64 7)), none⟩,
 ⟨some 10, .mv (.t 9), none⟩,
 ⟨some 11, .fieldAddr 5 (.t 1), some (10, false)⟩,
 ⟨some 12, .load false 1 (.t 11), some (10, false)⟩,
 ⟨some 13, .fieldAddr 5 (.t 1), some (10, false)⟩,
 ⟨some 14, .load false 1 (.t 13), some (10, false)⟩,
 ⟨some 15, .len false (.t 14), some (10, false)⟩,
 ⟨some 16, .bin .sub (.t 15) (.c (.int .i64 1)), some (10, false)⟩,
 ⟨some 17, .idxAddr 6 (.t 12) (.t 16), some (10, false)⟩,
 ⟨some 18, .fieldAddr 0 (.t 17), some (10, false)⟩,
 ⟨some 19, .load false 1 (.t 18), some (10, false)⟩,
 ⟨some 20, .bin .neq (.t 19) (.c (.int .i64 6)), some (10, false)⟩,
 ⟨some 21, .pick (.t 10) (.c (.bool true)) (.t 20), none⟩]
def a116_4 : List AOper := [
 ⟨some 2, .mv (.c .nils), none⟩,
 ⟨some 3, .mv (.c (.bool false)), none⟩]
def a116_5 : List AOper := [
 ⟨some 22, .fieldAddr 5 (.t 1), none⟩,
 ⟨some 23, .load false 1 (.t 22), none⟩,
 ⟨some 24, .fieldAddr 5 (.t 1), none⟩,
 ⟨some 25, .load false 1 (.t 24), none⟩,
 ⟨some 26, .len false (.t 25), none⟩,
 ⟨some 27, .bin .sub (.t 26) (.c (.int .i64 1)), none⟩,
 ⟨some 28, .slice 6 (.t 23) none (some (.t 27)) none, none⟩,
 ⟨some 2, .mv (.t 28), none⟩,
 ⟨some 3, .mv (.c (.bool true)), none⟩]
def a116 : AFunc := ⟨[.tmp 2, .tmp 3], (.seq (.ops a116_0) (.seq (.seq (.ops a116_1) (.cond (.t 6) (.seq (.ops a116_2) .ret) .skip)) (.seq (.seq (.ops a116_3) (.cond (.t 21) (.seq (.ops a116_4) .ret) .skip)) (.seq (.ops a116_5) .ret))))⟩
/-! ### 117: heddle/heddleref13.parts (135 slots) -/
def a117_0 : List AOper := [
 ⟨some 4, .alloc [(.int .i64 0), (.int .i64 0), (.str []), (.int .u32 0), .nils, .nils], none⟩,
 ⟨some 5, .mv (.c (.int .i64 0)), none⟩]
def a117_1 : List AOper := [
 ⟨some 11, .mv (.t 1), none⟩,
 ⟨some 12, .idxAddr 6 (.t 11) (.c (.int .i64 0)), none⟩,
 ⟨some 13, .load true 6 (.t 12), none⟩,
 ⟨some 6, .alloc [(.int .i64 0), (.int .i64 0), (.str []), (.int .u32 0), .nils, .nils], none⟩,
 ⟨none, .store 6 (.t 6) (.t 13), none⟩]
def a117_2 : List AOper := [
 ⟨some 15, .load true 6 (.t 6), none⟩,
 ⟨some 16, .call 116 [(.t 15)], none⟩,
 ⟨some 14, .mv (.t 16), none⟩,
 ⟨some 17, .extract (.t 14) 0, none⟩,
 ⟨some 18, .extract (.t 14) 1, none⟩,
 ⟨some 7, .mv (.t 17), none⟩,
 ⟨some 8, .mv (.t 18), none⟩]
def a117_3 : List AOper := [
 ⟨some 19, .mv (.t 0), none⟩]
def a117_4 : List AOper := [
 ⟨some 21, .bin .eql (.t 19) (.c (.str [104, 100])), none⟩,
 ⟨some 20, .mv (.t 21), none⟩]
def a117_5 : List AOper := [
 ⟨some 22, .bin .eql (.t 19) (.c (.str [116, 108])), none⟩,
 ⟨some 20, .mv (.t 22), none⟩]
def a117_6 : List AOper := [
 ⟨some 23, .fieldAddr 0 (.t 6), none⟩,
 ⟨some 24, .load false 1 (.t 23), none⟩,
 ⟨some 25, .bin .neq (.t 24) (.c (.int .i64 7)), none⟩]
def a117_7 : List AOper := [
 ⟨some 26, .build [(.int .i64 0), (.int .i64 0), (.str []), (.int .u32 0), .nils, .nils] [], none⟩,
 ⟨none, .store 6 (.t 4) (.t 26), none⟩,
 ⟨some 5, .mv (.c (.int .i64 261)), none⟩]
def a117_8 : List AOper := [
 ⟨some 27, .mv (.t 0), none⟩,
 ⟨some 28, .bin .eql (.t 27) (.c (.str [104, 100])), none⟩]
def a117_9 : List AOper := [
 ⟨some 29, .fieldAddr 5 (.t 6), none⟩,
 ⟨some 30, .load false 1 (.t 29), none⟩,
 ⟨some 31, .idxAddr 6 (.t 30) (.c (.int .i64 0)), none⟩,
 ⟨some 32, .load true 6 (.t 31), none⟩,
 ⟨none, .store 6 (.t 4) (.t 32), none⟩,
 ⟨some 5, .mv (.c (.int .i64 0)), none⟩]
def a117_10 : List AOper := [
 ⟨some 33, .fieldAddr 5 (.t 6), none⟩,
 ⟨some 34, .load false 1 (.t 33), none⟩,
 ⟨some 35, .len false (.t 34), none⟩,
 ⟨some 36, .bin .eql (.t 35) (.c (.int .i64 2)), none⟩]
def a117_11 : List AOper := [
 ⟨some 37, .fieldAddr 5 (.t 6), none⟩,
 ⟨some 38, .load false 1 (.t 37), none⟩,
 ⟨some 39, .idxAddr 6 (.t 38) (.c (.int .i64 1)), none⟩,
 ⟨some 40, .load true 6 (.t 39), none⟩,
 ⟨none, .store 6 (.t 4) (.t 40), none⟩,
 ⟨some 5, .mv (.c (.int .i64 0)), none⟩]
def a117_12 : List AOper := [
 ⟨some 41, .fieldAddr 5 (.t 6), none⟩,
 ⟨some 42, .load false 1 (.t 41), none⟩,
 ⟨some 43, .slice 6 (.t 42) (some (.c (.int .i64 1))) none none, none⟩,
 ⟨some 44, .build [(.int .i64 0), (.int .i64 0), (.str []), (.int .u32 0), .nils, .nils] [(0, 1, (.c (.int .i64 7))), (5, 1, (.t 43))], none⟩,
 ⟨none, .store 6 (.t 4) (.t 44), none⟩,
 ⟨some 5, .mv (.c (.int .i64 0)), none⟩]
def a117_13 : List AOper := [
 ⟨some 46, .bin .eql (.t 19) (.c (.str [108, 101, 110, 103, 116, 104])), none⟩,
 ⟨some 45, .mv (.t 46), none⟩]
def a117_14 : List AOper := [
 ⟨some 47, .mv (.t 8), none⟩,
 ⟨some 48, .un .not (.t 47), none⟩]
def a117_15 : List AOper := [
 ⟨some 49, .build [(.int .i64 0), (.int .i64 0), (.str []), (.int .u32 0), .nils, .nils] [], none⟩,
 ⟨none, .store 6 (.t 4) (.t 49), none⟩,
 ⟨some 5, .mv (.c (.int .i64 261)), none⟩]
def a117_16 : List AOper := [
 ⟨some 50, .mv (.t 7), none⟩,
 ⟨some 51, .len false (.t 50), none⟩,
 ⟨some 52, .call 22 [(.t 51)], none⟩,
 ⟨none, .store 6 (.t 4) (.t 52), none⟩,
 ⟨some 5, .mv (.c (.int .i64 0)), none⟩]
def a117_17 : List AOper := [
 ⟨some 54, .bin .eql (.t 19) (.c (.str [108, 105, 115, 116, 95, 116, 111, 95, 116, 117, 112, 108, 101])), none⟩,
 ⟨some 53, .mv (.t 54), none⟩]
def a117_18 : List AOper := [
 ⟨some 55, .mv (.t 8), none⟩,
 ⟨some 56, .un .not (.t 55), none⟩]
def a117_19 : List AOper := [
 ⟨some 57, .build [(.int .i64 0), (.int .i64 0), (.str []), (.int .u32 0), .nils, .nils] [], none⟩,
 ⟨none, .store 6 (.t 4) (.t 57), none⟩,
 ⟨some 5, .mv (.c (.int .i64 261)), none⟩]
def a117_20 : List AOper := [
 ⟨some 58, .mv (.t 7), none⟩,
 ⟨some 59, .build [(.int .i64 0), (.int .i64 0), (.str []), (.int .u32 0), .nils, .nils] [(0, 1, (.c (.int .i64 5))), (5, 1, (.t 58))], none⟩,
 ⟨none, .store 6 (.t 4) (.t 59), none⟩,
 ⟨some 5, .mv (.c (.int .i64 0)), none⟩]
def a117_21 : List AOper := [
 ⟨some 61, .bin .eql (.t 19) (.c (.str [116, 117, 112, 108, 101, 95, 115, 105, 122, 101])), none⟩,
 ⟨some 60, .mv (.t 61), none⟩]
def a117_22 : List AOper := [
 ⟨some 62, .bin .eql (.t 19) (.c (.str [116, 117, 112, 108, 101, 95, 116, 111, 95, 108, 105, 115, 116])), none⟩,
 ⟨some 60, .mv (.t 62), none⟩]
def a117_23 : List AOper := [
 ⟨some 63, .fieldAddr 0 (.t 6), none⟩,
 ⟨some 64, .load false 1 (.t 63), none⟩,
 ⟨some 65, .bin .neq (.t 64) (.c (.int .i64 5)), none⟩]
def a117_24 : List AOper := [
 ⟨some 66, .build [(.int .i64 0), (.int .i64 0), (.str []), (.int .u32 0), .nils, .nils] [], none⟩,
 ⟨none, .store 6 (.t 4) (.t 66), none⟩,
 ⟨some 5, .mv (.c (.int .i64 261)), none⟩]
def a117_25 : List AOper := [
 ⟨some 67, .mv (.t 0), none⟩,
 ⟨some 68, .bin .eql (.t 67) (.c (.str [116, 117, 112, 108, 101, 95, 115, 105, 122, 101])), none⟩]
def a117_26 : List AOper := [
 ⟨some 69, .fieldAddr 5 (.t 6), none⟩,
 ⟨some 70, .load false 1 (.t 69), none⟩,
 ⟨some 71, .len false (.t 70), none⟩,
 ⟨some 72, .call 22 [(.t 71)], none⟩,
 ⟨none, .store 6 (.t 4) (.t 72), none⟩,
 ⟨some 5, .mv (.c (.int .i64 0)), none⟩]
def a117_27 : List AOper := [
 ⟨some 73, .fieldAddr 5 (.t 6), none⟩,
 ⟨some 74, .load false 1 (.t 73), none⟩,
 ⟨some 75, .build [(.int .i64 0), (.int .i64 0), (.str []), (.int .u32 0), .nils, .nils] [(0, 1, (.c (.int .i64 6)))], none⟩,
 ⟨some 76, .call 41 [(.t 74), (.t 75)], none⟩,
 ⟨none, .store 6 (.t 4) (.t 76), none⟩,
 ⟨some 5, .mv (.c (.int .i64 0)), none⟩]
def a117_28 : List AOper := [
 ⟨some 77, .mv (.t 1), none⟩,
 ⟨some 78, .len false (.t 77), none⟩,
 ⟨some 79, .bin .eql (.t 78) (.c (.int .i64 1)), none⟩]
def a117_29 : List AOper := [
 ⟨some 80, .mv (.t 0), none⟩,
 ⟨some 81, .load true 6 (.t 6), none⟩,
 ⟨some 82, .mv (.t 7), none⟩,
 ⟨some 83, .mv (.t 8), none⟩,
 ⟨some 84, .call 136 [(.t 80), (.t 81), (.t 82), (.t 83)], none⟩,
 ⟨some 85, .extract (.t 84) 0, none⟩,
 ⟨some 86, .extract (.t 84) 1, none⟩,
 ⟨none, .store 6 (.t 4) (.t 85), none⟩,
 ⟨some 5, .mv (.t 86), none⟩]
def a117_30 : List AOper := [
 ⟨some 87, .mv (.t 1), none⟩,
 ⟨some 88, .idxAddr 6 (.t 87) (.c (.int .i64 1)), none⟩,
 ⟨some 89, .load true 6 (.t 88), none⟩,
 ⟨some 9, .alloc [(.int .i64 0), (.int .i64 0), (.str []), (.int .u32 0), .nils, .nils], none⟩,
 ⟨none, .store 6 (.t 9) (.t 89), none⟩]
def a117_31 : List AOper := [
 ⟨some 90, .fieldAddr 0 (.t 6), none⟩,
 ⟨some 91, .load false 1 (.t 90), none⟩,
 ⟨some 92, .bin .neq (.t 91) (.c (.int .i64 1)), none⟩,
 ⟨some 93, .mv (.t 92), none⟩,
 ⟨some 94, .fieldAddr 0 (.t 9), some (93, false)⟩,
 ⟨some 95, .load false 1 (.t 94), some (93, false)⟩,
 ⟨some 96, .bin .neq (.t 95) (.c (.int .i64 5)), some (93, false)⟩,
 ⟨some 97, .pick (.t 93) (.c (.bool true)) (.t 96), none⟩,
 ⟨some 98, .mv (.t 97), none⟩,
 ⟨some 99, .fieldAddr 1 (.t 6), some (98, false)⟩,
 ⟨some 100, .load false 1 (.t 99), some (98, false)⟩,
 ⟨some 101, .bin .lss (.t 100) (.c (.int .i64 1)), some (98, false)⟩,
 ⟨some 102, .pick (.t 98) (.c (.bool true)) (.t 101), none⟩,
 ⟨some 103, .mv (.t 102), none⟩,
 ⟨some 104, .fieldAddr 1 (.t 6), some (103, false)⟩,
 ⟨some 105, .load false 1 (.t 104), some (103, false)⟩,
 ⟨some 106, .fieldAddr 5 (.t 9), some (103, false)⟩,
 ⟨some 107, .load false 1 (.t 106), some (103, false)⟩,
 ⟨some 108, .len false (.t 107), some (103, false)⟩,
 ⟨some 109, .bin .gtr (.t 105) (.t 108), some (103, false)⟩,
 ⟨some 110, .pick (.t 103) (.c (.bool true)) (.t 109), none⟩]
def a117_32 : List AOper := [
 ⟨some 111, .build [(.int .i64 0), (.int .i64 0), (.str []), (.int .u32 0), .nils, .nils] [], none⟩,
 ⟨none, .store 6 (.t 4) (.t 111), none⟩,
 ⟨some 5, .mv (.c (.int .i64 261)), none⟩]
def a117_33 : List AOper := [
 ⟨some 112, .mv (.t 0), none⟩,
 ⟨some 113, .bin .eql (.t 112) (.c (.str [101, 108, 101, 109, 101, 110, 116])), none⟩]
def a117_34 : List AOper := [
 ⟨some 114, .fieldAddr 5 (.t 9), none⟩,
 ⟨some 115, .load false 1 (.t 114), none⟩,
 ⟨some 116, .fieldAddr 1 (.t 6), none⟩,
 ⟨some 117, .load false 1 (.t 116), none⟩,
 ⟨some 118, .bin .sub (.t 117) (.c (.int .i64 1)), none⟩,
 ⟨some 119, .idxAddr 6 (.t 115) (.t 118), none⟩,
 ⟨some 120, .load true 6 (.t 119), none⟩,
 ⟨none, .store 6 (.t 4) (.t 120), none⟩,
 ⟨some 5, .mv (.c (.int .i64 0)), none⟩]
def a117_35 : List AOper := [
 ⟨some 121, .lit true 6 0 [] [], none⟩,
 ⟨some 122, .fieldAddr 5 (.t 9), none⟩,
 ⟨some 123, .load false 1 (.t 122), none⟩,
 ⟨some 124, .append 6 88 (.t 121) (.t 123), none⟩,
 ⟨some 10, .mv (.t 124), none⟩]
def a117_36 : List AOper := [
 ⟨some 125, .mv (.t 10), none⟩,
 ⟨some 126, .fieldAddr 1 (.t 6), none⟩,
 ⟨some 127, .load false 1 (.t 126), none⟩,
 ⟨some 128, .bin .sub (.t 127) (.c (.int .i64 1)), none⟩,
 ⟨some 129, .mv (.t 1), none⟩,
 ⟨some 130, .idxAddr 6 (.t 129) (.c (.int .i64 2)), none⟩,
 ⟨some 131, .load true 6 (.t 130), none⟩,
 ⟨some 132, .idxAddr 6 (.t 125) (.t 128), none⟩,
 ⟨none, .store 6 (.t 132) (.t 131), none⟩]
def a117_36b : List Nat := [0, 0, 2, 6, 0, 16, 48, 127, 255]
def a117_37 : List AOper := [
 ⟨some 133, .mv (.t 10), none⟩,
 ⟨some 134, .build [(.int .i64 0), (.int .i64 0), (.str []), (.int .u32 0), .nils, .nils] [(0, 1, (.c (.int .i64 5))), (5, 1, (.t 133))], none⟩,
 ⟨none, .store 6 (.t 4) (.t 134), none⟩,
 ⟨some 5, .mv (.c (.int .i64 0)), none⟩]
def a117 : AFunc := ⟨[.cell 4 true 6, .tmp 5], (.seq (.ops a117_0) (.seq (.ops a117_1) (.seq (.ops a117_2) (.seq (.seq (.ops a117_3) (.block 0 (.seq (.seq (.ops a117_4) (.cond (.t 20) .skip (.ops a117_5))) (.cond (.t 20) (.seq (.seq (.ops a117_6) (.cond (.t 25) (.seq (.ops a117_7) .ret) .skip)) (.seq (.seq (.ops a117_8) (.cond (.t 28) (.seq (.ops a117_9) .ret) .skip)) (.seq (.seq (.ops a117_10) (.cond (.t 36) (.seq (.ops a117_11) .ret) .skip)) (.seq (.ops a117_12) .ret)))) (.seq (.ops a117_13) (.cond (.t 45) (.seq (.seq (.ops a117_14) (.cond (.t 48) (.seq (.ops a117_15) .ret) .skip)) (.seq (.ops a117_16) .ret)) (.seq (.ops a117_17) (.cond (.t 53) (.seq (.seq (.ops a117_18) (.cond (.t 56) (.seq (.ops a117_19) .ret) .skip)) (.seq (.ops a117_20) .ret)) (.seq (.seq (.ops a117_21) (.cond (.t 60) .skip (.ops a117_22))) (.cond (.t 60) (.seq (.seq (.ops a117_23) (.cond (.t 65) (.seq (.ops a117_24) .ret) .skip)) (.seq (.seq (.ops a117_25) (.cond (.t 68) (.seq (.ops a117_26) .ret) .skip)) (.seq (.ops a117_27) .ret))) .skip)))))))))) (.seq (.seq (.ops a117_28) (.cond (.t 79) (.seq (.ops a117_29) .ret) .skip)) (.seq (.ops a117_30) (.seq (.seq (.ops a117_31) (.cond (.t 110) (.seq (.ops a117_32) .ret) .skip)) (.seq (.seq (.ops a117_33) (.cond (.t 113) (.seq (.ops a117_34) .ret) .skip)) (.seq (.ops a117_35) (.seq (.draw a117_36 a117_36b) (.seq (.ops a117_37) .ret)))))))))))⟩
/-! ### 119: heddle/heddleref02.func0 (35 slots) -/
def a119_0 : List AOper := [
 ⟨some 2, .mv (.c .nils), none⟩]
def a119_1 : List AOper := [
 ⟨some 3, .mv (.c (.str [105, 115, 99, 110, 97])), none⟩]
def a119_2 : List AOper := [
 ⟨some 7, .makeSlice 1 1 [(.bool false)] (.c (.int .i64 5)) (.c (.int .i64 5)), none⟩,
 ⟨some 4, .mv (.t 7), none⟩]
def a119_3 : List AOper := [
 ⟨some 5, .mv (.c (.int .i64 0)), none⟩]
def a119_4 : List AOper := [
 ⟨some 8, .mv (.t 5), none⟩,
 ⟨some 9, .bin .lss (.t 8) (.c (.int .i64 5)), none⟩]
def a119_5 : List AOper := [
 ⟨some 6, .mv (.c (.int .i64 0)), none⟩]
def a119_6 : List AOper := [
 ⟨some 12, .mv (.t 6), none⟩,
 ⟨some 13, .mv (.t 0), none⟩,
 ⟨some 14, .len true (.t 13), none⟩,
 ⟨some 15, .bin .lss (.t 12) (.t 14), none⟩]
def a119_7 : List AOper := [
 ⟨some 18, .mv (.t 4), none⟩,
 ⟨some 19, .mv (.t 5), none⟩,
 ⟨some 20, .mv (.t 4), none⟩,
 ⟨some 21, .mv (.t 5), none⟩,
 ⟨some 22, .idxAddr 1 (.t 20) (.t 21), none⟩,
 ⟨some 23, .load false 1 (.t 22), none⟩,
 ⟨some 24, .mv (.t 23), none⟩,
 ⟨some 25, .mv (.t 3), some (24, false)⟩,
 ⟨some 26, .mv (.t 5), some (24, false)⟩,
 ⟨some 27, .idxStr (.t 25) (.t 26), some (24, false)⟩,
 ⟨some 28, .mv (.t 0), some (24, false)⟩,
 ⟨some 29, .mv (.t 6), some (24, false)⟩,
 ⟨some 30, .idxStr (.t 28) (.t 29), some (24, false)⟩,
 ⟨some 31, .bin .eql (.t 27) (.t 30), some (24, false)⟩,
 ⟨some 32, .pick (.t 24) (.c (.bool true)) (.t 31), none⟩,
 ⟨some 33, .idxAddr 1 (.t 18) (.t 19), none⟩,
 ⟨none, .store 1 (.t 33) (.t 32), none⟩]
def a119_7b : List Nat := [0, 0, 0, 0, 12, 28, 60, 124, 124, 508, 124, 124, 3196, 8188, 16380, 32767, 65535]
def a119_8 : List AOper := [
 ⟨some 16, .mv (.t 6), none⟩,
 ⟨some 17, .bin .add (.t 16) (.c (.int .i64 1)), none⟩,
 ⟨some 6, .mv (.t 17), none⟩]
def a119_l9 : AC := (.seq (.seq (.ops a119_6) (.cond (.t 15) .skip (.exit 2))) (.seq (.block 3 (.draw a119_7 a119_7b)) (.ops a119_8)))
def a119_10 : List AOper := [
 ⟨some 10, .mv (.t 5), none⟩,
 ⟨some 11, .bin .add (.t 10) (.c (.int .i64 1)), none⟩,
 ⟨some 5, .mv (.t 11), none⟩]
def a119_l11 : AC := (.seq (.seq (.ops a119_4) (.cond (.t 9) .skip (.exit 0))) (.seq (.block 1 (.seq (.ops a119_5) (.block 2 (.loop a119_l9)))) (.ops a119_10)))
def a119_12 : List AOper := [
 ⟨some 34, .mv (.t 4), none⟩,
 ⟨some 2, .mv (.t 34), none⟩]
def a119 : AFunc := ⟨[.tmp 2], (.seq (.ops a119_0) (.seq (.ops a119_1) (.seq (.ops a119_2) (.seq (.seq (.ops a119_3) (.block 0 (.loop a119_l11))) (.seq (.ops a119_12) .ret)))))⟩
/-! ### 120: heddle/heddleref01.point (101 slots) -/
def a120_0 : List AOper := [
 ⟨some 4, .mv (.c (.int .i64 0)), none⟩]
def a120_1 : List AOper := [
 ⟨some 10, .mv (.t 0), none⟩,
 ⟨some 11, .mv (.t 1), none⟩,
 ⟨some 12, .idxStr (.t 10) (.t 11), none⟩,
 ⟨some 5, .mv (.t 12), none⟩]
def a120_2 : List AOper := [
 ⟨some 6, .mv (.c (.int .i64 0)), none⟩]
def a120_3 : List AOper := [
 ⟨some 7, .mv (.c (.int .i64 0)), none⟩]
def a120_4 : List AOper := [
 ⟨some 14, .mv (.t 5), none⟩,
 ⟨some 15, .bin .lss (.t 14) (.c (.int .u8 128)), none⟩,
 ⟨some 13, .mv (.t 15), none⟩]
def a120_5 : List AOper := [
 ⟨some 4, .mv (.c (.int .i64 1)), none⟩]
def a120_6 : List AOper := [
 ⟨some 17, .mv (.t 5), none⟩,
 ⟨some 18, .bin .geq (.t 17) (.c (.int .u8 194)), none⟩,
 ⟨some 19, .mv (.t 18), none⟩,
 ⟨some 20, .mv (.t 5), some (19, true)⟩,
 ⟨some 21, .bin .leq (.t 20) (.c (.int .u8 223)), some (19, true)⟩,
 ⟨some 22, .pick (.t 19) (.t 21) (.c (.bool false)), none⟩,
 ⟨some 16, .mv (.t 22), none⟩]
def a120_7 : List AOper := [
 ⟨some 23, .mv (.t 5), none⟩,
 ⟨some 24, .conv (.int .i64) (.t 23), none⟩,
 ⟨some 25, .bin .sub (.t 24) (.c (.int .i64 192)), none⟩,
 ⟨some 6, .mv (.c (.int .i64 2)), none⟩,
 ⟨some 7, .mv (.t 25), none⟩]
def a120_8 : List AOper := [
 ⟨some 27, .mv (.t 5), none⟩,
 ⟨some 28, .bin .geq (.t 27) (.c (.int .u8 224)), none⟩,
 ⟨some 29, .mv (.t 28), none⟩,
 ⟨some 30, .mv (.t 5), some (29, true)⟩,
 ⟨some 31, .bin .leq (.t 30) (.c (.int .u8 239)), some (29, true)⟩,
 ⟨some 32, .pick (.t 29) (.t 31) (.c (.bool false)), none⟩,
 ⟨some 26, .mv (.t 32), none⟩]
def a120_9 : List AOper := [
 ⟨some 33, .mv (.t 5), none⟩,
 ⟨some 34, .conv (.int .i64) (.t 33), none⟩,
 ⟨some 35, .bin .sub (.t 34) (.c (.int .i64 224)), none⟩,
 ⟨some 6, .mv (.c (.int .i64 3)), none⟩,
 ⟨some 7, .mv (.t 35), none⟩]
def a120_10 : List AOper := [
 ⟨some 37, .mv (.t 5), none⟩,
 ⟨some 38, .bin .geq (.t 37) (.c (.int .u8 240)), none⟩,
 ⟨some 39, .mv (.t 38), none⟩,
 ⟨some 40, .mv (.t 5), some (39, true)⟩,
 ⟨some 41, .bin .leq (.t 40) (.c (.int .u8 244)), some (39, true)⟩,
 ⟨some 42, .pick (.t 39) (.t 41) (.c (.bool false)), none⟩,
 ⟨some 36, .mv (.t 42), none⟩]
def a120_11 : List AOper := [
 ⟨some 43, .mv (.t 5), none⟩,
 ⟨some 44, .conv (.int .i64) (.t 43), none⟩,
 ⟨some 45, .bin .sub (.t 44) (.c (.int .i64 240)), none⟩,
 ⟨some 6, .mv (.c (.int .i64 4)), none⟩,
 ⟨some 7, .mv (.t 45), none⟩]
def a120_12 : List AOper := [
 ⟨some 4, .mv (.c (.int .i64 0)), none⟩]
def a120_13 : List AOper := [
 ⟨some 46, .mv (.t 1), none⟩,
 ⟨some 47, .mv (.t 6), none⟩,
 ⟨some 48, .bin .add (.t 46) (.t 47), none⟩,
 ⟨some 49, .mv (.t 0), none⟩,
 ⟨some 50, .len true (.t 49), none⟩,
 ⟨some 51, .bin .gtr (.t 48) (.t 50), none⟩]
def a120_14 : List AOper := [
 ⟨some 4, .mv (.c (.int .i64 0)), none⟩]
def a120_15 : List AOper := [
 ⟨some 8, .mv (.c (.int .i64 1)), none⟩]
def a120_16 : List AOper := [
 ⟨some 52, .mv (.t 8), none⟩,
 ⟨some 53, .mv (.t 6), none⟩,
 ⟨some 54, .bin .lss (.t 52) (.t 53), none⟩]
def a120_17 : List AOper := [
 ⟨some 57, .mv (.t 0), none⟩,
 ⟨some 58, .mv (.t 1), none⟩,
 ⟨some 59, .mv (.t 8), none⟩,
 ⟨some 60, .bin .add (.t 58) (.t 59), none⟩,
 ⟨some 61, .idxStr (.t 57) (.t 60), none⟩,
 ⟨some 9, .mv (.t 61), none⟩]
def a120_18 : List AOper := [
 ⟨some 62, .mv (.t 9), none⟩,
 ⟨some 63, .bin .lss (.t 62) (.c (.int .u8 128)), none⟩,
 ⟨some 64, .mv (.t 63), none⟩,
 ⟨some 65, .mv (.t 9), some (64, false)⟩,
 ⟨some 66, .bin .gtr (.t 65) (.c (.int .u8 191)), some (64, false)⟩,
 ⟨some 67, .pick (.t 64) (.c (.bool true)) (.t 66), none⟩]
def a120_19 : List AOper := [
 ⟨some 4, .mv (.c (.int .i64 0)), none⟩]
def a120_20 : List AOper := [
 ⟨some 68, .mv (.t 7), none⟩,
 ⟨some 69, .bin .mul (.t 68) (.c (.int .i64 64)), none⟩,
 ⟨some 70, .mv (.t 9), none⟩,
 ⟨some 71, .conv (.int .i64) (.t 70), none⟩,
 ⟨some 72, .bin .add (.t 69) (.t 71), none⟩,
 ⟨some 73, .bin .sub (.t 72) (.c (.int .i64 128)), none⟩,
 ⟨some 7, .mv (.t 73), none⟩]
def a120_21 : List AOper := [
 ⟨some 55, .mv (.t 8), none⟩,
 ⟨some 56, .bin .add (.t 55) (.c (.int .i64 1)), none⟩,
 ⟨some 8, .mv (.t 56), none⟩]
def a120_l22 : AC := (.seq (.seq (.ops a120_16) (.cond (.t 54) .skip (.exit 1))) (.seq (.block 2 (.seq (.ops a120_17) (.seq (.seq (.ops a120_18) (.cond (.t 67) (.seq (.ops a120_19) .ret) .skip)) (.ops a120_20)))) (.ops a120_21)))
def a120_23 : List AOper := [
 ⟨some 74, .mv (.t 6), none⟩,
 ⟨some 75, .bin .eql (.t 74) (.c (.int .i64 3)), none⟩,
 ⟨some 76, .mv (.t 75), none⟩,
 ⟨some 77, .mv (.t 7), some (76, true)⟩,
 ⟨some 78, .bin .lss (.t 77) (.c (.int .i64 2048)), some (76, true)⟩,
 ⟨some 79, .mv (.t 78), some (76, true)⟩,
 ⟨some 80, .mv (.t 7), some (79, false)⟩,
 ⟨some 81, .bin .geq (.t 80) (.c (.int .i64 55296)), some (79, false)⟩,
 ⟨some 82, .mv (.t 81), some (79, false)⟩,
 ⟨some 83, .mv (.t 7), some (82, true)⟩,
 ⟨some 84, .bin .leq (.t 83) (.c (.int .i64 57343)), some (82, true)⟩,
 ⟨some 85, .pick (.t 82) (.t 84) (.c (.bool false)), some (79, false)⟩,
 ⟨some 86, .pick (.t 79) (.c (.bool true)) (.t 85), some (76, true)⟩,
 ⟨some 87, .pick (.t 76) (.t 86) (.c (.bool false)), none⟩,
 ⟨some 88, .mv (.t 87), none⟩,
 ⟨some 89, .mv (.t 6), some (88, false)⟩,
 ⟨some 90, .bin .eql (.t 89) (.c (.int .i64 4)), some (88, false)⟩,
 ⟨some 91, .mv (.t 90), some (88, false)⟩,
 ⟨some 92, .mv (.t 7), some (91, true)⟩,
 ⟨some 93, .bin .lss (.t 92) (.c (.int .i64 65536)), some (91, true)⟩,
 ⟨some 94, .mv (.t 93), some (91, true)⟩,
 ⟨some 95, .mv (.t 7), some (94, false)⟩,
 ⟨some 96, .bin .gtr (.t 95) (.c (.int .i64 1114111)), some (94, false)⟩,
 ⟨some 97, .pick (.t 94) (.c (.bool true)) (.t 96), some (91, true)⟩,
 ⟨some 98, .pick (.t 91) (.t 97) (.c (.bool false)), some (88, false)⟩,
 ⟨some 99, .pick (.t 88) (.c (.bool true)) (.t 98), none⟩]
def a120_24 : List AOper := [
 ⟨some 4, .mv (.c (.int .i64 0)), none⟩]
def a120_25 : List AOper := [
 ⟨some 100, .mv (.t 6), none⟩,
 ⟨some 4, .mv (.t 100), none⟩]
def a120 : AFunc := ⟨[.tmp 4], (.seq (.ops a120_0) (.seq (.ops a120_1) (.seq (.ops a120_2) (.seq (.ops a120_3) (.seq (.block 0 (.seq (.ops a120_4) (.cond (.t 13) (.seq (.ops a120_5) .ret) (.seq (.ops a120_6) (.cond (.t 16) (.ops a120_7) (.seq (.ops a120_8) (.cond (.t 26) (.ops a120_9) (.seq (.ops a120_10) (.cond (.t 36) (.ops a120_11) (.seq (.ops a120_12) .ret)))))))))) (.seq (.seq (.ops a120_13) (.cond (.t 51) (.seq (.ops a120_14) .ret) .skip)) (.seq (.seq (.ops a120_15) (.block 1 (.loop a120_l22))) (.seq (.seq (.ops a120_23) (.cond (.t 99) (.seq (.ops a120_24) .ret) .skip)) (.seq (.ops a120_25) .ret)))))))))⟩
/-! ### 121: heddle/heddleref01.Small (9 slots) -/
def a121_0 : List AOper := [
 ⟨some 2, .mv (.c (.bool false)), none⟩]
def a121_1 : List AOper := [
 ⟨some 3, .mv (.t 0), none⟩,
 ⟨some 4, .bin .geq (.t 3) (.c (.int .u8 97)), none⟩,
 ⟨some 5, .mv (.t 4), none⟩,
 ⟨some 6, .mv (.t 0), some (5, true)⟩,
 ⟨some 7, .bin .leq (.t 6) (.c (.int .u8 122)), some (5, true)⟩,
 ⟨some 8, .pick (.t 5) (.t 7) (.c (.bool false)), none⟩,
 ⟨some 2, .mv (.t 8), none⟩]
def a121 : AFunc := ⟨[.tmp 2], (.seq (.ops a121_0) (.seq (.ops a121_1) .ret))⟩
/-! ### 122: heddle/heddleref01.Reserved (18 slots) -/
def a122_0 : List AOper := [
 ⟨some 2, .mv (.c (.bool false)), none⟩]
def a122_1 : List AOper := [
 ⟨some 5, .lit true 1 19 [(.str []), (.str []), (.str []), (.str []), (.str []), (.str []), (.str []), (.str []), (.str []), (.str []), (.str []), (.str []), (.str []), (.str []), (.str []), (.str []), (.str []), (.str []), (.str [])] [(0, 1, (.c (.str [97, 102, 116, 101, 114]))), (1, 1, (.c (.str [97, 110, 100]))), (2, 1, (.c (.str [97, 110, 100, 97, 108, 115, 111]))), (3, 1, (.c (.str [98, 101, 103, 105, 110]))), (4, 1, (.c (.str [99, 97, 115, 101]))), (5, 1, (.c (.str [99, 97, 116, 99, 104]))), (6, 1, (.c (.str [100, 105, 118]))), (7, 1, (.c (.str [101, 110, 100]))), (8, 1, (.c (.str [102, 117, 110]))), (9, 1, (.c (.str [105, 102]))), (10, 1, (.c (.str [110, 111, 116]))), (11, 1, (.c (.str [111, 102]))), (12, 1, (.c (.str [111, 114]))), (13, 1, (.c (.str [111, 114, 101, 108, 115, 101]))), (14, 1, (.c (.str [114, 101, 99, 101, 105, 118, 101]))), (15, 1, (.c (.str [114, 101, 109]))), (16, 1, (.c (.str [116, 114, 121]))), (17, 1, (.c (.str [119, 104, 101, 110]))), (18, 1, (.c (.str [120, 111, 114])))], none⟩,
 ⟨some 3, .mv (.t 5), none⟩]
def a122_2 : List AOper := [
 ⟨some 4, .mv (.c (.int .i64 0)), none⟩]
def a122_3 : List AOper := [
 ⟨some 6, .mv (.t 4), none⟩,
 ⟨some 7, .mv (.t 3), none⟩,
 ⟨some 8, .len false (.t 7), none⟩,
 ⟨some 9, .bin .lss (.t 6) (.t 8), none⟩]
def a122_4 : List AOper := [
 ⟨some 12, .mv (.t 3), none⟩,
 ⟨some 13, .mv (.t 4), none⟩,
 ⟨some 14, .idxAddr 1 (.t 12) (.t 13), none⟩,
 ⟨some 15, .load false 1 (.t 14), none⟩,
 ⟨some 16, .mv (.t 0), none⟩,
 ⟨some 17, .bin .eql (.t 15) (.t 16), none⟩]
def a122_5 : List AOper := [
 ⟨some 2, .mv (.c (.bool true)), none⟩]
def a122_6 : List AOper := [
 ⟨some 10, .mv (.t 4), none⟩,
 ⟨some 11, .bin .add (.t 10) (.c (.int .i64 1)), none⟩,
 ⟨some 4, .mv (.t 11), none⟩]
def a122_l7 : AC := (.seq (.seq (.ops a122_3) (.cond (.t 9) .skip (.exit 0))) (.seq (.block 1 (.seq (.ops a122_4) (.cond (.t 17) (.seq (.ops a122_5) .ret) .skip))) (.ops a122_6)))
def a122_8 : List AOper := [
 ⟨some 2, .mv (.c (.bool false)), none⟩]
def a122 : AFunc := ⟨[.tmp 2], (.seq (.ops a122_0) (.seq (.ops a122_1) (.seq (.seq (.ops a122_2) (.block 0 (.loop a122_l7))) (.seq (.ops a122_8) .ret))))⟩
/-! ### 123: cmp.isNaN[heddle/api.Kind] (6 slots) -/
def a123_0 : List AOper := [
 ⟨some 2, .mv (.c (.bool false)), none⟩]
def a123_1 : List AOper := [
 ⟨some 3, .mv (.t 0), none⟩,
 ⟨some 4, .mv (.t 0), none⟩,
 ⟨some 5, .bin .neq (.t 3) (.t 4), none⟩,
 ⟨some 2, .mv (.t 5), none⟩]
def a123 : AFunc := ⟨[.tmp 2], (.seq (.ops a123_0) (.seq (.ops a123_1) .ret))⟩
/-! ### 124: cmp.isNaN[int64] (6 slots) -/
def a124_0 : List AOper := [
 ⟨some 2, .mv (.c (.bool false)), none⟩]
def a124_1 : List AOper := [
 ⟨some 3, .mv (.t 0), none⟩,
 ⟨some 4, .mv (.t 0), none⟩,
 ⟨some 5, .bin .neq (.t 3) (.t 4), none⟩,
 ⟨some 2, .mv (.t 5), none⟩]
def a124 : AFunc := ⟨[.tmp 2], (.seq (.ops a124_0) (.seq (.ops a124_1) .ret))⟩
/-! ### 125: cmp.isNaN[string] (6 slots) -/
def a125_0 : List AOper := [
 ⟨some 2, .mv (.c (.bool false)), none⟩]
def a125_1 : List AOper := [
 ⟨some 3, .mv (.t 0), none⟩,
 ⟨some 4, .mv (.t 0), none⟩,
 ⟨some 5, .bin .neq (.t 3) (.t 4), none⟩,
 ⟨some 2, .mv (.t 5), none⟩]
def a125 : AFunc := ⟨[.tmp 2], (.seq (.ops a125_0) (.seq (.ops a125_1) .ret))⟩
/-! ### 126: cmp.isNaN[uint32] (6 slots) -/
def a126_0 : List AOper := [
 ⟨some 2, .mv (.c (.bool false)), none⟩]
def a126_1 : List AOper := [
 ⟨some 3, .mv (.t 0), none⟩,
 ⟨some 4, .mv (.t 0), none⟩,
 ⟨some 5, .bin .neq (.t 3) (.t 4), none⟩,
 ⟨some 2, .mv (.t 5), none⟩]
def a126 : AFunc := ⟨[.tmp 2], (.seq (.ops a126_0) (.seq (.ops a126_1) .ret))⟩
/-! ### 127: cmp.isNaN[int] (6 slots) -/
def a127_0 : List AOper := [
 ⟨some 2, .mv (.c (.bool false)), none⟩]
def a127_1 : List AOper := [
 ⟨some 3, .mv (.t 0), none⟩,
 ⟨some 4, .mv (.t 0), none⟩,
 ⟨some 5, .bin .neq (.t 3) (.t 4), none⟩,
 ⟨some 2, .mv (.t 5), none⟩]
def a127 : AFunc := ⟨[.tmp 2], (.seq (.ops a127_0) (.seq (.ops a127_1) .ret))⟩
/-! ### 128: heddle/term.lists$1 (11 slots) -/
def a128_0 : List AOper := [
 ⟨some 2, .alloc [(.int .i64 0), (.int .i64 0), (.str []), (.int .u32 0), .nils, .nils], none⟩]
def a128_1 : List AOper := [
 ⟨some 3, .mv (.t 0), none⟩,
 ⟨some 4, .len false (.t 3), none⟩,
 ⟨some 5, .bin .eql (.t 4) (.c (.int .i64 1)), none⟩]
def a128_2 : List AOper := [
 ⟨some 6, .mv (.t 0), none⟩,
 ⟨some 7, .idxAddr 6 (.t 6) (.c (.int .i64 0)), none⟩,
 ⟨some 8, .load true 6 (.t 7), none⟩,
 ⟨none, .store 6 (.t 2) (.t 8), none⟩]
def a128_3 : List AOper := [
 ⟨some 9, .mv (.t 0), none⟩,
 ⟨some 10, .build [(.int .i64 0), (.int .i64 0), (.str []), (.int .u32 0), .nils, .nils] [(0, 1, (.c (.int .i64 7))), (5, 1, (.t 9))], none⟩,
 ⟨none, .store 6 (.t 2) (.t 10), none⟩]
def a128 : AFunc := ⟨[.cell 2 true 6], (.seq (.ops a128_0) (.seq (.seq (.ops a128_1) (.cond (.t 5) (.seq (.ops a128_2) .ret) .skip)) (.seq (.ops a128_3) .ret)))⟩
/-! ### 129: heddle/term.fault (13 slots) -/
def a129_0 : List AOper := [
 ⟨some 6, .mv (.c .nili), none⟩]
def a129_1 : List AOper := [
 ⟨some 7, .mv (.t 0), none⟩,
 ⟨some 8, .mv (.t 1), none⟩,
 ⟨some 9, .mv (.t 2), none⟩,
 ⟨some 10, .build [(.str []), (.int .i64 0), (.int .i64 0), .nili] [(0, 1, (.c (.str [116, 101, 114, 109]))), (1, 1, (.t 7)), (2, 1, (.t 8)), (3, 1, (.t 9))], none⟩,
 ⟨some 11, .box true 4 (.t 10), none⟩,
 ⟨some 12, .mkIface 69 (.t 11), none⟩,
 ⟨some 6, .mv (.t 12), none⟩]
def a129 : AFunc := ⟨[.tmp 6], (.seq (.ops a129_0) (.seq (.ops a129_1) .ret))⟩
/-! ### 130: heddle/term.form (110 slots) -/
def a130_0 : List AOper := [
 ⟨some 2, .box false 6 (.t 0), none⟩,
 ⟨some 4, .mv (.c .nili), none⟩]
def a130_1 : List AOper := [
 ⟨some 5, .mv (.c (.bool false)), none⟩]
def a130_2 : List AOper := [
 ⟨some 7, .fieldAddr 0 (.t 2), none⟩,
 ⟨some 8, .load false 1 (.t 7), none⟩]
def a130_3 : List AOper := [
 ⟨some 10, .bin .eql (.t 8) (.c (.int .i64 1)), none⟩,
 ⟨some 9, .mv (.t 10), none⟩]
def a130_4 : List AOper := [
 ⟨some 11, .load true 6 (.t 2), none⟩,
 ⟨some 12, .call 139 [(.t 11), (.c (.bool false)), (.c (.bool false)), (.c (.bool false))], none⟩,
 ⟨some 5, .mv (.t 12), none⟩]
def a130_5 : List AOper := [
 ⟨some 14, .bin .eql (.t 8) (.c (.int .i64 2)), none⟩,
 ⟨some 13, .mv (.t 14), none⟩]
def a130_6 : List AOper := [
 ⟨some 15, .load true 6 (.t 2), none⟩,
 ⟨some 16, .call 139 [(.t 15), (.c (.bool true)), (.c (.bool false)), (.c (.bool false))], none⟩,
 ⟨some 5, .mv (.t 16), none⟩]
def a130_7 : List AOper := [
 ⟨some 18, .bin .eql (.t 8) (.c (.int .i64 3)), none⟩,
 ⟨some 17, .mv (.t 18), none⟩]
def a130_8 : List AOper := [
 ⟨some 19, .load true 6 (.t 2), none⟩,
 ⟨some 20, .call 139 [(.t 19), (.c (.bool true)), (.c (.bool true)), (.c (.bool false))], none⟩,
 ⟨some 21, .mv (.t 20), none⟩,
 ⟨some 22, .fieldAddr 4 (.t 2), some (21, true)⟩,
 ⟨some 23, .load false 1 (.t 22), some (21, true)⟩,
 ⟨some 24, .len false (.t 23), some (21, true)⟩,
 ⟨some 25, .bin .eql (.t 24) (.c (.int .i64 3)), some (21, true)⟩,
 ⟨some 26, .pick (.t 21) (.t 25) (.c (.bool false)), none⟩,
 ⟨some 5, .mv (.t 26), none⟩]
def a130_9 : List AOper := [
 ⟨some 28, .bin .eql (.t 8) (.c (.int .i64 4)), none⟩,
 ⟨some 27, .mv (.t 28), none⟩]
def a130_10 : List AOper := [
 ⟨some 29, .load true 6 (.t 2), none⟩,
 ⟨some 30, .call 139 [(.t 29), (.c (.bool true)), (.c (.bool true)), (.c (.bool false))], none⟩,
 ⟨some 31, .mv (.t 30), none⟩,
 ⟨some 32, .fieldAddr 4 (.t 2), some (31, true)⟩,
 ⟨some 33, .load false 1 (.t 32), some (31, true)⟩,
 ⟨some 34, .len false (.t 33), some (31, true)⟩,
 ⟨some 35, .bin .eql (.t 34) (.c (.int .i64 2)), some (31, true)⟩,
 ⟨some 36, .pick (.t 31) (.t 35) (.c (.bool false)), none⟩,
 ⟨some 5, .mv (.t 36), none⟩]
def a130_11 : List AOper := [
 ⟨some 38, .bin .eql (.t 8) (.c (.int .i64 5)), none⟩,
 ⟨some 37, .mv (.t 38), none⟩]
def a130_12 : List AOper := [
 ⟨some 39, .load true 6 (.t 2), none⟩,
 ⟨some 40, .call 139 [(.t 39), (.c (.bool false)), (.c (.bool false)), (.c (.bool true))], none⟩,
 ⟨some 5, .mv (.t 40), none⟩]
def a130_13 : List AOper := [
 ⟨some 42, .bin .eql (.t 8) (.c (.int .i64 6)), none⟩,
 ⟨some 41, .mv (.t 42), none⟩]
def a130_14 : List AOper := [
 ⟨some 43, .load true 6 (.t 2), none⟩,
 ⟨some 44, .call 139 [(.t 43), (.c (.bool false)), (.c (.bool false)), (.c (.bool false))], none⟩,
 ⟨some 5, .mv (.t 44), none⟩]
def a130_15 : List AOper := [
 ⟨some 46, .bin .eql (.t 8) (.c (.int .i64 7)), none⟩,
 ⟨some 45, .mv (.t 46), none⟩]
def a130_16 : List AOper := [
 ⟨some 47, .load true 6 (.t 2), none⟩,
 ⟨some 48, .call 139 [(.t 47), (.c (.bool false)), (.c (.bool false)), (.c (.bool true))], none⟩,
 ⟨some 49, .mv (.t 48), none⟩,
 ⟨some 50, .fieldAddr 5 (.t 2), some (49, true)⟩,
 ⟨some 51, .load false 1 (.t 50), some (49, true)⟩,
 ⟨some 52, .len false (.t 51), some (49, true)⟩,
 ⟨some 53, .bin .geq (.t 52) (.c (.int .i64 2)), some (49, true)⟩,
 ⟨some 54, .pick (.t 49) (.t 53) (.c (.bool false)), none⟩,
 ⟨some 55, .mv (.t 54), none⟩,
 ⟨some 56, .fieldAddr 5 (.t 2), some (55, true)⟩,
 ⟨some 57, .load false 1 (.t 56), some (55, true)⟩,
 ⟨some 58, .fieldAddr 5 (.t 2), some (55, true)⟩,
 ⟨some 59, .load false 1 (.t 58), some (55, true)⟩,
 ⟨some 60, .len false (.t 59), some (55, true)⟩,
 ⟨some 61, .bin .sub (.t 60) (.c (.int .i64 1)), some (55, true)⟩,
 ⟨some 62, .idxAddr 6 (.t 57) (.t 61), some (55, true)⟩,
 ⟨some 63, .fieldAddr 0 (.t 62), some (55, true)⟩,
 ⟨some 64, .load false 1 (.t 63), some (55, true)⟩,
 ⟨some 65, .bin .neq (.t 64) (.c (.int .i64 7)), some (55, true)⟩,
 ⟨some 66, .pick (.t 55) (.t 65) (.c (.bool false)), none⟩,
 ⟨some 5, .mv (.t 66), none⟩]
def a130_17 : List AOper := [
 ⟨some 67, .mv (.t 5), none⟩,
 ⟨some 68, .un .not (.t 67), none⟩]
def a130_18 : List AOper := [
 ⟨some 69, .mv (.t 1), none⟩,
 ⟨some 70, .call 129 [(.t 69), (.c (.int .i64 40)), (.c .nili)], none⟩,
 ⟨some 4, .mv (.t 70), none⟩]
def a130_19 : List AOper := [
 ⟨some 6, .mv (.c .nili), none⟩]
def a130_20 : List AOper := [
 ⟨some 71, .fieldAddr 0 (.t 2), none⟩,
 ⟨some 72, .load false 1 (.t 71), none⟩]
def a130_21 : List AOper := [
 ⟨some 74, .bin .eql (.t 72) (.c (.int .i64 1)), none⟩,
 ⟨some 73, .mv (.t 74), none⟩]
def a130_22 : List AOper := [
 ⟨some 75, .fieldAddr 1 (.t 2), none⟩,
 ⟨some 76, .load false 1 (.t 75), none⟩,
 ⟨some 77, .bin .lss (.t 76) (.c (.int .i64 (-576460752303423488))), none⟩,
 ⟨some 78, .mv (.t 77), none⟩,
 ⟨some 79, .fieldAddr 1 (.t 2), some (78, false)⟩,
 ⟨some 80, .load false 1 (.t 79), some (78, false)⟩,
 ⟨some 81, .bin .gtr (.t 80) (.c (.int .i64 576460752303423487)), some (78, false)⟩,
 ⟨some 82, .pick (.t 78) (.c (.bool true)) (.t 81), none⟩]
def a130_23 : List AOper := [
 ⟨some 83, .mv (.t 1), none⟩,
 ⟨some 84, .call 129 [(.t 83), (.c (.int .i64 2)), (.c .nili)], none⟩,
 ⟨some 4, .mv (.t 84), none⟩]
def a130_24 : List AOper := [
 ⟨some 86, .bin .eql (.t 72) (.c (.int .i64 2)), none⟩,
 ⟨some 85, .mv (.t 86), none⟩]
def a130_25 : List AOper := [
 ⟨some 88, .fieldAddr 2 (.t 2), none⟩,
 ⟨some 89, .load false 1 (.t 88), none⟩,
 ⟨some 90, .call 140 [(.t 89)], none⟩,
 ⟨some 87, .mv (.t 90), none⟩,
 ⟨some 91, .extract (.t 87) 0, none⟩,
 ⟨some 92, .extract (.t 87) 1, none⟩,
 ⟨some 6, .mv (.t 92), none⟩]
def a130_26 : List AOper := [
 ⟨some 94, .bin .eql (.t 72) (.c (.int .i64 3)), none⟩,
 ⟨some 93, .mv (.t 94), none⟩]
def a130_27 : List AOper := [
 ⟨some 95, .bin .eql (.t 72) (.c (.int .i64 4)), none⟩,
 ⟨some 93, .mv (.t 95), none⟩]
def a130_28 : List AOper := [
 ⟨some 97, .fieldAddr 2 (.t 2), none⟩,
 ⟨some 98, .load false 1 (.t 97), none⟩,
 ⟨some 99, .call 141 [(.t 98)], none⟩,
 ⟨some 96, .mv (.t 99), none⟩,
 ⟨some 100, .extract (.t 96) 0, none⟩,
 ⟨some 101, .extract (.t 96) 1, none⟩,
 ⟨some 102, .extract (.t 96) 2, none⟩,
 ⟨some 6, .mv (.t 102), none⟩]
def a130_29 : List AOper := [
 ⟨some 103, .mv (.t 6), none⟩,
 ⟨some 104, .eq true (.iface true) (.t 103) (.c .nili), none⟩]
def a130_30 : List AOper := [
 ⟨some 105, .mv (.t 1), none⟩,
 ⟨some 106, .mv (.t 6), none⟩,
 ⟨some 107, .call 142 [(.t 106)], none⟩,
 ⟨some 108, .mv (.t 6), none⟩,
 ⟨some 109, .call 129 [(.t 105), (.t 107), (.t 108)], none⟩,
 ⟨some 4, .mv (.t 109), none⟩]
def a130_31 : List AOper := [
 ⟨some 4, .mv (.c .nili), none⟩]
def a130 : AFunc := ⟨[.tmp 4], (.seq (.ops a130_0) (.seq (.ops a130_1) (.seq (.seq (.ops a130_2) (.block 0 (.seq (.ops a130_3) (.cond (.t 9) (.ops a130_4) (.seq (.ops a130_5) (.cond (.t 13) (.ops a130_6) (.seq (.ops a130_7) (.cond (.t 17) (.ops a130_8) (.seq (.ops a130_9) (.cond (.t 27) (.ops a130_10) (.seq (.ops a130_11) (.cond (.t 37) (.ops a130_12) (.seq (.ops a130_13) (.cond (.t 41) (.ops a130_14) (.seq (.ops a130_15) (.cond (.t 45) (.ops a130_16) .skip)))))))))))))))) (.seq (.seq (.ops a130_17) (.cond (.t 68) (.seq (.ops a130_18) .ret) .skip)) (.seq (.ops a130_19) (.seq (.seq (.ops a130_20) (.block 1 (.seq (.ops a130_21) (.cond (.t 73) (.seq (.ops a130_22) (.cond (.t 82) (.seq (.ops a130_23) .ret) .skip)) (.seq (.ops a130_24) (.cond (.t 85) (.ops a130_25) (.seq (.seq (.ops a130_26) (.cond (.t 93) .skip (.ops a130_27))) (.cond (.t 93) (.ops a130_28) .skip)))))))) (.seq (.seq (.ops a130_29) (.cond (.t 104) (.seq (.ops a130_30) .ret) .skip)) (.seq (.ops a130_31) .ret))))))))⟩
/-! ### 131: slices.Concat[[]heddle/api.Term,heddle/api.Term] (36 slots) -/
def a131_0 : List AOper := [
 ⟨some 2, .mv (.c .nils), none⟩]
def a131_1 : List AOper := [
 ⟨some 3, .mv (.c (.int .i64 0)), none⟩]
def a131_2 : List AOper := [
 ⟨some 9, .mv (.t 0), none⟩,
 ⟨some 10, .len false (.t 9), none⟩,
 ⟨some 11, .mv (.c (.int .i64 0)), none⟩]
def a131_3 : List AOper := [
 ⟨some 12, .bin .lss (.t 11) (.t 10), none⟩]
def a131_4 : List AOper := [
 ⟨some 13, .idxAddr 1 (.t 9) (.t 11), none⟩,
 ⟨some 14, .load false 1 (.t 13), none⟩,
 ⟨some 5, .mv (.t 14), none⟩]
def a131_5 : List AOper := [
 ⟨some 15, .mv (.t 3), none⟩,
 ⟨some 16, .mv (.t 5), none⟩,
 ⟨some 17, .len false (.t 16), none⟩,
 ⟨some 18, .bin .add (.t 15) (.t 17), none⟩,
 ⟨some 3, .mv (.t 18), none⟩]
def a131_6 : List AOper := [
 ⟨some 19, .mv (.t 3), none⟩,
 ⟨some 20, .bin .lss (.t 19) (.c (.int .i64 0)), none⟩]
def a131_7 : List AOper := [
 ⟨some 21, .mkIface 9 (.c (.str [108, 101, 110, 32, 111, 117, 116, 32, 111, 102, 32, 114, 97, 110, 103, 101])), none⟩,
 ⟨none, .panic (.t 21), none⟩]
def a131_8 : List AOper := [
 ⟨some 22, .bin .add (.t 11) (.c (.int .i64 1)), none⟩,
 ⟨some 11, .mv (.t 22), none⟩]
def a131_l9 : AC := (.seq (.ops a131_3) (.seq (.cond (.t 12) .skip (.exit 0)) (.seq (.block 1 (.seq (.ops a131_4) (.seq (.ops a131_5) (.seq (.ops a131_6) (.cond (.t 20) (.ops a131_7) .skip))))) (.ops a131_8))))
def a131_10 : List AOper := [
 ⟨some 23, .mv (.t 3), none⟩,
 ⟨some 24, .call 143 [(.c .nils), (.t 23)], none⟩,
 ⟨some 6, .mv (.t 24), none⟩]
def a131_11 : List AOper := [
 ⟨some 25, .mv (.t 0), none⟩,
 ⟨some 26, .len false (.t 25), none⟩,
 ⟨some 27, .mv (.c (.int .i64 0)), none⟩]
def a131_12 : List AOper := [
 ⟨some 28, .bin .lss (.t 27) (.t 26), none⟩]
def a131_13 : List AOper := [
 ⟨some 29, .idxAddr 1 (.t 25) (.t 27), none⟩,
 ⟨some 30, .load false 1 (.t 29), none⟩,
 ⟨some 8, .mv (.t 30), none⟩]
def a131_14 : List AOper := [
 ⟨some 31, .mv (.t 6), none⟩,
 ⟨some 32, .mv (.t 8), none⟩,
 ⟨some 33, .append 6 88 (.t 31) (.t 32), none⟩,
 ⟨some 6, .mv (.t 33), none⟩]
def a131_15 : List AOper := [
 ⟨some 34, .bin .add (.t 27) (.c (.int .i64 1)), none⟩,
 ⟨some 27, .mv (.t 34), none⟩]
def a131_l16 : AC := (.seq (.ops a131_12) (.seq (.cond (.t 28) .skip (.exit 2)) (.seq (.block 3 (.seq (.ops a131_13) (.ops a131_14))) (.ops a131_15))))
def a131_17 : List AOper := [
 ⟨some 35, .mv (.t 6), none⟩,
 ⟨some 2, .mv (.t 35), none⟩]
def a131 : AFunc := ⟨[.tmp 2], (.seq (.ops a131_0) (.seq (.ops a131_1) (.seq (.seq (.ops a131_2) (.block 0 (.loop a131_l9))) (.seq (.ops a131_10) (.seq (.seq (.ops a131_11) (.block 2 (.loop a131_l16))) (.seq (.ops a131_17) .ret))))))⟩
/-! ### 139: heddle/term.empty (48 slots) -/
def a139_0 : List AOper := [
 ⟨some 4, .box false 6 (.t 0), none⟩,
 ⟨some 8, .mv (.c (.bool false)), none⟩]
def a139_1 : List AOper := [
 ⟨some 9, .mv (.t 1), none⟩,
 ⟨some 10, .mv (.t 9), none⟩,
 ⟨some 11, .fieldAddr 2 (.t 4), some (10, false)⟩,
 ⟨some 12, .load false 1 (.t 11), some (10, false)⟩,
 ⟨some 13, .bin .eql (.t 12) (.c (.str [])), some (10, false)⟩,
 ⟨some 14, .pick (.t 10) (.c (.bool true)) (.t 13), none⟩,
 ⟨some 15, .mv (.t 14), none⟩,
 ⟨some 16, .mv (.t 2), some (15, true)⟩,
 ⟨some 17, .mv (.t 16), some (15, true)⟩,
 ⟨some 18, .fieldAddr 4 (.t 4), some (17, false)⟩,
 ⟨some 19, .load false 1 (.t 18), some (17, false)⟩,
 ⟨some 20, .len false (.t 19), some (17, false)⟩,
 ⟨some 21, .bin .eql (.t 20) (.c (.int .i64 0)), some (17, false)⟩,
 ⟨some 22, .mv (.t 21), some (17, false)⟩,
 ⟨some 23, .fieldAddr 3 (.t 4), some (22, true)⟩,
 ⟨some 24, .load false 1 (.t 23), some (22, true)⟩,
 ⟨some 25, .bin .eql (.t 24) (.c (.int .u32 0)), some (22, true)⟩,
 ⟨some 26, .pick (.t 22) (.t 25) (.c (.bool false)), some (17, false)⟩,
 ⟨some 27, .pick (.t 17) (.c (.bool true)) (.t 26), some (15, true)⟩,
 ⟨some 28, .pick (.t 15) (.t 27) (.c (.bool false)), none⟩,
 ⟨some 29, .mv (.t 28), none⟩,
 ⟨some 30, .mv (.t 3), some (29, true)⟩,
 ⟨some 31, .mv (.t 30), some (29, true)⟩,
 ⟨some 32, .fieldAddr 5 (.t 4), some (31, false)⟩,
 ⟨some 33, .load false 1 (.t 32), some (31, false)⟩,
 ⟨some 34, .len false (.t 33), some (31, false)⟩,
 ⟨some 35, .bin .eql (.t 34) (.c (.int .i64 0)), some (31, false)⟩,
 ⟨some 36, .pick (.t 31) (.c (.bool true)) (.t 35), some (29, true)⟩,
 ⟨some 37, .pick (.t 29) (.t 36) (.c (.bool false)), none⟩,
 ⟨some 38, .mv (.t 37), none⟩,
 ⟨some 39, .fieldAddr 0 (.t 4), some (38, true)⟩,
 ⟨some 40, .load false 1 (.t 39), some (38, true)⟩,
 ⟨some 41, .bin .eql (.t 40) (.c (.int .i64 1)), some (38, true)⟩,
 ⟨some 42, .mv (.t 41), some (38, true)⟩,
 ⟨some 43, .fieldAddr 1 (.t 4), some (42, false)⟩,
 ⟨some 44, .load false 1 (.t 43), some (42, false)⟩,
 ⟨some 45, .bin .eql (.t 44) (.c (.int .i64 0)), some (42, false)⟩,
 ⟨some 46, .pick (.t 42) (.c (.bool true)) (.t 45), some (38, true)⟩,
 ⟨some 47, .pick (.t 38) (.t 46) (.c (.bool false)), none⟩,
 ⟨some 8, .mv (.t 47), none⟩]
def a139 : AFunc := ⟨[.tmp 8], (.seq (.ops a139_0) (.seq (.ops a139_1) .ret))⟩
/-! ### 140: heddle/atom.Quote (73 slots) -/
def a140_0 : List AOper := [
 ⟨some 2, .mv (.c (.str [])), none⟩,
 ⟨some 3, .mv (.c .nili), none⟩]
def a140_1 : List AOper := [
 ⟨some 8, .mv (.t 0), none⟩,
 ⟨some 9, .len true (.t 8), none⟩,
 ⟨some 10, .bin .gtr (.t 9) (.c (.int .i64 255)), none⟩]
def a140_2 : List AOper := [
 ⟨some 11, .call 148 [(.c (.int .i64 0)), (.c (.int .i64 4))], none⟩,
 ⟨some 2, .mv (.c (.str [])), none⟩,
 ⟨some 3, .mv (.t 11), none⟩]
def a140_3 : List AOper := [
 ⟨some 12, .mv (.t 0), none⟩,
 ⟨some 13, .call 149 [(.t 12)], none⟩,
 ⟨some 4, .mv (.t 13), none⟩]
def a140_4 : List AOper := [
 ⟨some 14, .mv (.t 4), none⟩,
 ⟨some 15, .bin .geq (.t 14) (.c (.int .i64 0)), none⟩]
def a140_5 : List AOper := [
 ⟨some 16, .mv (.t 4), none⟩,
 ⟨some 17, .call 148 [(.t 16), (.c (.int .i64 23))], none⟩,
 ⟨some 2, .mv (.c (.str [])), none⟩,
 ⟨some 3, .mv (.t 17), none⟩]
def a140_6 : List AOper := [
 ⟨some 18, .mv (.t 0), none⟩,
 ⟨some 19, .call 150 [(.t 18)], none⟩]
def a140_7 : List AOper := [
 ⟨some 20, .mv (.t 0), none⟩,
 ⟨some 2, .mv (.t 20), none⟩,
 ⟨some 3, .mv (.c .nili), none⟩]
def a140_8 : List AOper := [
 ⟨some 21, .lit true 1 1 [(.int .u8 0)] [(0, 1, (.c (.int .u8 39)))], none⟩,
 ⟨some 5, .mv (.t 21), none⟩]
def a140_9 : List AOper := [
 ⟨some 22, .mv (.t 0), none⟩,
 ⟨some 23, .conv .s2b (.t 22), none⟩,
 ⟨some 24, .len false (.t 23), none⟩,
 ⟨some 25, .mv (.c (.int .i64 0)), none⟩]
def a140_10 : List AOper := [
 ⟨some 26, .bin .lss (.t 25) (.t 24), none⟩]
def a140_11 : List AOper := [
 ⟨some 27, .idxAddr 1 (.t 23) (.t 25), none⟩,
 ⟨some 28, .load false 1 (.t 27), none⟩,
 ⟨some 7, .mv (.t 28), none⟩]
def a140_12 : List AOper := [
 ⟨some 29, .mv (.t 7), none⟩]
def a140_13 : List AOper := [
 ⟨some 50, .bin .eql (.t 29) (.c (.int .u8 39)), none⟩,
 ⟨some 49, .mv (.t 50), none⟩]
def a140_14 : List AOper := [
 ⟨some 51, .bin .eql (.t 29) (.c (.int .u8 92)), none⟩,
 ⟨some 49, .mv (.t 51), none⟩]
def a140_15 : List AOper := [
 ⟨some 52, .mv (.t 5), none⟩,
 ⟨some 53, .mv (.t 7), none⟩,
 ⟨some 54, .lit true 1 2 [(.int .u8 0), (.int .u8 0)] [(0, 1, (.c (.int .u8 92))), (1, 1, (.t 53))], none⟩,
 ⟨some 55, .append 1 1 (.t 52) (.t 54), none⟩,
 ⟨some 5, .mv (.t 55), none⟩]
def a140_16 : List AOper := [
 ⟨some 57, .bin .eql (.t 29) (.c (.int .u8 10)), none⟩,
 ⟨some 56, .mv (.t 57), none⟩]
def a140_17 : List AOper := [
 ⟨some 58, .mv (.t 5), none⟩,
 ⟨some 59, .append 1 1 (.t 58) (.c (.str [92, 110])), none⟩,
 ⟨some 5, .mv (.t 59), none⟩]
def a140_18 : List AOper := [
 ⟨some 61, .bin .eql (.t 29) (.c (.int .u8 9)), none⟩,
 ⟨some 60, .mv (.t 61), none⟩]
def a140_19 : List AOper := [
 ⟨some 62, .mv (.t 5), none⟩,
 ⟨some 63, .append 1 1 (.t 62) (.c (.str [92, 116])), none⟩,
 ⟨some 5, .mv (.t 63), none⟩]
def a140_20 : List AOper := [
 ⟨some 65, .bin .eql (.t 29) (.c (.int .u8 13)), none⟩,
 ⟨some 64, .mv (.t 65), none⟩]
def a140_21 : List AOper := [
 ⟨some 66, .mv (.t 5), none⟩,
 ⟨some 67, .append 1 1 (.t 66) (.c (.str [92, 114])), none⟩,
 ⟨some 5, .mv (.t 67), none⟩]
def a140_22 : List AOper := [
 ⟨some 30, .mv (.t 7), none⟩,
 ⟨some 31, .bin .lss (.t 30) (.c (.int .u8 32)), none⟩,
 ⟨some 32, .mv (.t 31), none⟩,
 ⟨some 33, .mv (.t 7), some (32, false)⟩,
 ⟨some 34, .bin .eql (.t 33) (.c (.int .u8 127)), some (32, false)⟩,
 ⟨some 35, .pick (.t 32) (.c (.bool true)) (.t 34), none⟩]
def a140_23 : List AOper := [
 ⟨some 36, .mv (.t 5), none⟩,
 ⟨some 37, .mv (.t 7), none⟩,
 ⟨some 38, .bin .shr (.t 37) (.c (.int .u64 4)), none⟩,
 ⟨some 39, .idxStr (.c (.str [48, 49, 50, 51, 52, 53, 54, 55, 56, 57, 97, 98, 99, 100, 101, 102])) (.t 38), none⟩,
 ⟨some 40, .mv (.t 7), none⟩,
 ⟨some 41, .bin .and (.t 40) (.c (.int .u8 15)), none⟩,
 ⟨some 42, .idxStr (.c (.str [48, 49, 50, 51, 52, 53, 54, 55, 56, 57, 97, 98, 99, 100, 101, 102])) (.t 41), none⟩,
 ⟨some 43, .lit true 1 4 [(.int .u8 0), (.int .u8 0), (.int .u8 0), (.int .u8 0)] [(0, 1, (.c (.int .u8 92))), (1, 1, (.c (.int .u8 120))), (2, 1, (.t 39)), (3, 1, (.t 42))], none⟩,
 ⟨some 44, .append 1 1 (.t 36) (.t 43), none⟩,
 ⟨some 5, .mv (.t 44), none⟩]
def a140_23b : List Nat := [0, 0, 2, 6, 0, 16, 48, 126, 255, 511]
def a140_24 : List AOper := [
 ⟨some 45, .mv (.t 5), none⟩,
 ⟨some 46, .mv (.t 7), none⟩,
 ⟨some 47, .lit true 1 1 [(.int .u8 0)] [(0, 1, (.t 46))], none⟩,
 ⟨some 48, .append 1 1 (.t 45) (.t 47), none⟩,
 ⟨some 5, .mv (.t 48), none⟩]
def a140_25 : List AOper := [
 ⟨some 68, .bin .add (.t 25) (.c (.int .i64 1)), none⟩,
 ⟨some 25, .mv (.t 68), none⟩]
def a140_l26 : AC := (.seq (.ops a140_10) (.seq (.cond (.t 26) .skip (.exit 0)) (.seq (.block 1 (.seq (.ops a140_11) (.seq (.ops a140_12) (.block 2 (.seq (.seq (.ops a140_13) (.cond (.t 49) .skip (.ops a140_14))) (.cond (.t 49) (.ops a140_15) (.seq (.ops a140_16) (.cond (.t 56) (.ops a140_17) (.seq (.ops a140_18) (.cond (.t 60) (.ops a140_19) (.seq (.ops a140_20) (.cond (.t 64) (.ops a140_21) (.seq (.ops a140_22) (.cond (.t 35) (.draw a140_23 a140_23b) (.ops a140_24))))))))))))))) (.ops a140_25))))
def a140_27 : List AOper := [
 ⟨some 69, .mv (.t 5), none⟩,
 ⟨some 70, .lit true 1 1 [(.int .u8 0)] [(0, 1, (.c (.int .u8 39)))], none⟩,
 ⟨some 71, .append 1 1 (.t 69) (.t 70), none⟩,
 ⟨some 72, .conv .b2s (.t 71), none⟩,
 ⟨some 2, .mv (.t 72), none⟩,
 ⟨some 3, .mv (.c .nili), none⟩]
def a140 : AFunc := ⟨[.tmp 2, .tmp 3], (.seq (.ops a140_0) (.seq (.seq (.ops a140_1) (.cond (.t 10) (.seq (.ops a140_2) .ret) .skip)) (.seq (.seq (.ops a140_3) (.seq (.ops a140_4) (.cond (.t 15) (.seq (.ops a140_5) .ret) .skip))) (.seq (.seq (.ops a140_6) (.cond (.t 19) (.seq (.ops a140_7) .ret) .skip)) (.seq (.ops a140_8) (.seq (.seq (.ops a140_9) (.block 0 (.loop a140_l26))) (.seq (.ops a140_27) .ret)))))))⟩
/-! ### 141: heddle/atom.Node (83 slots) -/
def a141_0 : List AOper := [
 ⟨some 2, .mv (.c (.str [])), none⟩,
 ⟨some 3, .mv (.c (.str [])), none⟩,
 ⟨some 4, .mv (.c .nili), none⟩]
def a141_1 : List AOper := [
 ⟨some 14, .mv (.t 0), none⟩,
 ⟨some 15, .call 151 [(.t 14), (.c (.str [64]))], none⟩,
 ⟨some 13, .mv (.t 15), none⟩,
 ⟨some 16, .extract (.t 13) 0, none⟩,
 ⟨some 17, .extract (.t 13) 1, none⟩,
 ⟨some 18, .extract (.t 13) 2, none⟩,
 ⟨some 5, .mv (.t 16), none⟩,
 ⟨some 6, .mv (.t 17), none⟩,
 ⟨some 7, .mv (.t 18), none⟩]
def a141_2 : List AOper := [
 ⟨some 19, .mv (.t 7), none⟩,
 ⟨some 20, .mv (.t 19), none⟩,
 ⟨some 21, .mv (.t 5), some (20, true)⟩,
 ⟨some 22, .bin .neq (.t 21) (.c (.str [])), some (20, true)⟩,
 ⟨some 23, .pick (.t 20) (.t 22) (.c (.bool false)), none⟩,
 ⟨some 24, .mv (.t 23), none⟩,
 ⟨some 25, .mv (.t 6), some (24, true)⟩,
 ⟨some 26, .bin .neq (.t 25) (.c (.str [])), some (24, true)⟩,
 ⟨some 27, .pick (.t 24) (.t 26) (.c (.bool false)), none⟩,
 ⟨some 28, .mv (.t 27), none⟩,
 ⟨some 29, .mv (.t 0), some (28, true)⟩,
 ⟨some 30, .len true (.t 29), some (28, true)⟩,
 ⟨some 31, .bin .leq (.t 30) (.c (.int .i64 64)), some (28, true)⟩,
 ⟨some 32, .pick (.t 28) (.t 31) (.c (.bool false)), none⟩,
 ⟨some 33, .mv (.t 32), none⟩,
 ⟨some 34, .mv (.t 6), some (33, true)⟩,
 ⟨some 35, .call 152 [(.t 34), (.c (.str [64]))], some (33, true)⟩,
 ⟨some 36, .un .not (.t 35), some (33, true)⟩,
 ⟨some 37, .pick (.t 33) (.t 36) (.c (.bool false)), none⟩,
 ⟨some 8, .mv (.t 37), none⟩]
def a141_3 : List AOper := [
 ⟨some 38, .mv (.t 5), none⟩,
 ⟨some 39, .conv .s2b (.t 38), none⟩,
 ⟨some 40, .len false (.t 39), none⟩,
 ⟨some 41, .mv (.c (.int .i64 0)), none⟩]
def a141_4 : List AOper := [
 ⟨some 42, .bin .lss (.t 41) (.t 40), none⟩]
def a141_5 : List AOper := [
 ⟨some 43, .idxAddr 1 (.t 39) (.t 41), none⟩,
 ⟨some 44, .load false 1 (.t 43), none⟩,
 ⟨some 10, .mv (.t 44), none⟩]
def a141_6 : List AOper := [
 ⟨some 45, .mv (.t 8), none⟩,
 ⟨some 46, .mv (.t 45), none⟩,
 ⟨some 47, .mv (.t 10), some (46, true)⟩,
 ⟨some 48, .call 153 [(.t 47)], some (46, true)⟩,
 ⟨some 49, .bin .neq (.t 48) (.c (.int .i64 0)), some (46, true)⟩,
 ⟨some 50, .mv (.t 49), some (46, true)⟩,
 ⟨some 51, .mv (.t 10), some (50, false)⟩,
 ⟨some 52, .bin .eql (.t 51) (.c (.int .u8 45)), some (50, false)⟩,
 ⟨some 53, .pick (.t 50) (.c (.bool true)) (.t 52), some (46, true)⟩,
 ⟨some 54, .pick (.t 46) (.t 53) (.c (.bool false)), none⟩,
 ⟨some 8, .mv (.t 54), none⟩]
def a141_7 : List AOper := [
 ⟨some 55, .bin .add (.t 41) (.c (.int .i64 1)), none⟩,
 ⟨some 41, .mv (.t 55), none⟩]
def a141_l8 : AC := (.seq (.ops a141_4) (.seq (.cond (.t 42) .skip (.exit 0)) (.seq (.block 1 (.seq (.ops a141_5) (.ops a141_6))) (.ops a141_7))))
def a141_9 : List AOper := [
 ⟨some 56, .mv (.t 6), none⟩,
 ⟨some 57, .conv .s2b (.t 56), none⟩,
 ⟨some 58, .len false (.t 57), none⟩,
 ⟨some 59, .mv (.c (.int .i64 0)), none⟩]
def a141_10 : List AOper := [
 ⟨some 60, .bin .lss (.t 59) (.t 58), none⟩]
def a141_11 : List AOper := [
 ⟨some 61, .idxAddr 1 (.t 57) (.t 59), none⟩,
 ⟨some 62, .load false 1 (.t 61), none⟩,
 ⟨some 12, .mv (.t 62), none⟩]
def a141_12 : List AOper := [
 ⟨some 63, .mv (.t 8), none⟩,
 ⟨some 64, .mv (.t 63), none⟩,
 ⟨some 65, .mv (.t 12), some (64, true)⟩,
 ⟨some 66, .call 153 [(.t 65)], some (64, true)⟩,
 ⟨some 67, .bin .neq (.t 66) (.c (.int .i64 0)), some (64, true)⟩,
 ⟨some 68, .mv (.t 67), some (64, true)⟩,
 ⟨some 69, .mv (.t 12), some (68, false)⟩,
 ⟨some 70, .bin .eql (.t 69) (.c (.int .u8 45)), some (68, false)⟩,
 ⟨some 71, .pick (.t 68) (.c (.bool true)) (.t 70), some (64, true)⟩,
 ⟨some 72, .mv (.t 71), some (64, true)⟩,
 ⟨some 73, .mv (.t 12), some (72, false)⟩,
 ⟨some 74, .bin .eql (.t 73) (.c (.int .u8 46)), some (72, false)⟩,
 ⟨some 75, .pick (.t 72) (.c (.bool true)) (.t 74), some (64, true)⟩,
 ⟨some 76, .pick (.t 64) (.t 75) (.c (.bool false)), none⟩,
 ⟨some 8, .mv (.t 76), none⟩]
def a141_13 : List AOper := [
 ⟨some 77, .bin .add (.t 59) (.c (.int .i64 1)), none⟩,
 ⟨some 59, .mv (.t 77), none⟩]
def a141_l14 : AC := (.seq (.ops a141_10) (.seq (.cond (.t 60) .skip (.exit 2)) (.seq (.block 3 (.seq (.ops a141_11) (.ops a141_12))) (.ops a141_13))))
def a141_15 : List AOper := [
 ⟨some 78, .mv (.t 8), none⟩,
 ⟨some 79, .un .not (.t 78), none⟩]
def a141_16 : List AOper := [
 ⟨some 80, .call 148 [(.c (.int .i64 0)), (.c (.int .i64 24))], none⟩,
 ⟨some 2, .mv (.c (.str [])), none⟩,
 ⟨some 3, .mv (.c (.str [])), none⟩,
 ⟨some 4, .mv (.t 80), none⟩]
def a141_17 : List AOper := [
 ⟨some 81, .mv (.t 5), none⟩,
 ⟨some 82, .mv (.t 6), none⟩,
 ⟨some 2, .mv (.t 81), none⟩,
 ⟨some 3, .mv (.t 82), none⟩,
 ⟨some 4, .mv (.c .nili), none⟩]
def a141 : AFunc := ⟨[.tmp 2, .tmp 3, .tmp 4], (.seq (.ops a141_0) (.seq (.ops a141_1) (.seq (.ops a141_2) (.seq (.seq (.ops a141_3) (.block 0 (.loop a141_l8))) (.seq (.seq (.ops a141_9) (.block 2 (.loop a141_l14))) (.seq (.seq (.ops a141_15) (.cond (.t 79) (.seq (.ops a141_16) .ret) .skip)) (.seq (.ops a141_17) .ret)))))))⟩
/-! ### 142: heddle/term.code (11 slots) -/
def a142_0 : List AOper := [
 ⟨some 2, .mv (.c (.int .i64 0)), none⟩]
def a142_1 : List AOper := [
 ⟨some 3, .alloc [.nilp], none⟩]
def a142_2 : List AOper := [
 ⟨some 4, .mv (.t 0), none⟩,
 ⟨some 5, .mkIface 71 (.t 3), none⟩,
 ⟨some 6, .call 37 [(.t 4), (.t 5)], none⟩]
def a142_3 : List AOper := [
 ⟨some 7, .load false 1 (.t 3), none⟩,
 ⟨some 8, .nilCheck (.t 7), none⟩,
 ⟨some 9, .fieldAddr 2 (.t 8), none⟩,
 ⟨some 10, .load false 1 (.t 9), none⟩,
 ⟨some 2, .mv (.t 10), none⟩]
def a142_4 : List AOper := [
 ⟨some 2, .mv (.c (.int .i64 0)), none⟩]
def a142 : AFunc := ⟨[.tmp 2], (.seq (.ops a142_0) (.seq (.ops a142_1) (.seq (.seq (.ops a142_2) (.cond (.t 6) (.seq (.ops a142_3) .ret) .skip)) (.seq (.ops a142_4) .ret))))⟩
/-! ### 143: slices.Grow[[]heddle/api.Term,heddle/api.Term] (27 slots) -/
def a143_0 : List AOper := [
 ⟨some 4, .mv (.c .nils), none⟩]
def a143_1 : List AOper := [
 ⟨some 5, .mv (.t 1), none⟩,
 ⟨some 6, .bin .lss (.t 5) (.c (.int .i64 0)), none⟩]
def a143_2 : List AOper := [
 ⟨some 7, .mkIface 9 (.c (.str [99, 97, 110, 110, 111, 116, 32, 98, 101, 32, 110, 101, 103, 97, 116, 105, 118, 101])), none⟩,
 ⟨none, .panic (.t 7), none⟩]
def a143_3 : List AOper := [
 ⟨some 8, .mv (.t 1), none⟩,
 ⟨some 9, .mv (.t 0), none⟩,
  ⟨(some 10), .bad, none⟩,
 ⟨some 11, .mv (.t 0), none⟩,
 ⟨some 12, .len false (.t 11), none⟩,
 ⟨some 13, .bin .sub (.t 10) (.t 12), none⟩,
 ⟨some 14, .bin .sub (.t 8) (.t 13), none⟩,
 ⟨some 1, .mv (.t 14), none⟩]
def a143_4 : List AOper := [
 ⟨some 15, .mv (.t 1), none⟩,
 ⟨some 16, .bin .gtr (.t 15) (.c (.int .i64 0)), none⟩]
def a143_5 : List AOper := [
 ⟨some 17, .mv (.t 0), none⟩,
 ⟨some 18, .mv (.t 0), none⟩,
  ⟨(some 19), .bad, none⟩,
 ⟨some 20, .slice 6 (.t 17) none (some (.t 19)) none, none⟩,
 ⟨some 21, .mv (.t 1), none⟩,
  ⟨(some 22), .bad, none⟩,
 ⟨some 23, .mv (.t 0), none⟩,
 ⟨some 24, .len false (.t 23), none⟩,
 ⟨some 25, .slice 6 (.t 22) none (some (.t 24)) none, none⟩,
 ⟨some 0, .mv (.t 25), none⟩]
def a143_6 : List AOper := [
 ⟨some 26, .mv (.t 0), none⟩,
 ⟨some 4, .mv (.t 26), none⟩]
def a143 : AFunc := ⟨[.tmp 4], (.seq (.ops a143_0) (.seq (.seq (.ops a143_1) (.cond (.t 6) (.ops a143_2) .skip)) (.seq (.seq (.ops a143_3) (.seq (.ops a143_4) (.cond (.t 16) (.ops a143_5) .skip))) (.seq (.ops a143_6) .ret))))⟩
/-! ### 148: heddle/atom.refused (10 slots) -/
def a148_0 : List AOper := [
 ⟨some 4, .mv (.c .nili), none⟩]
def a148_1 : List AOper := [
 ⟨some 5, .mv (.t 0), none⟩,
 ⟨some 6, .mv (.t 1), none⟩,
 ⟨some 7, .build [(.str []), (.int .i64 0), (.int .i64 0), .nili] [(0, 1, (.c (.str [97, 116, 111, 109]))), (1, 1, (.t 5)), (2, 1, (.t 6))], none⟩,
 ⟨some 8, .box true 4 (.t 7), none⟩,
 ⟨some 9, .mkIface 69 (.t 8), none⟩,
 ⟨some 4, .mv (.t 9), none⟩]
def a148 : AFunc := ⟨[.tmp 4], (.seq (.ops a148_0) (.seq (.ops a148_1) .ret))⟩
/-! ### 150: heddle/atom.plain (23 slots) -/
def a150_0 : List AOper := [
 ⟨some 2, .mv (.c (.bool false)), none⟩]
def a150_1 : List AOper := [
 ⟨some 3, .mv (.t 0), none⟩,
 ⟨some 4, .bin .neq (.t 3) (.c (.str [])), none⟩,
 ⟨some 5, .mv (.t 4), none⟩,
 ⟨some 6, .mv (.t 0), some (5, true)⟩,
 ⟨some 7, .idxStr (.t 6) (.c (.int .i64 0)), some (5, true)⟩,
 ⟨some 8, .call 153 [(.t 7)], some (5, true)⟩,
 ⟨some 9, .bin .eql (.t 8) (.c (.int .i64 1)), some (5, true)⟩,
 ⟨some 10, .pick (.t 5) (.t 9) (.c (.bool false)), none⟩,
 ⟨some 11, .mv (.t 10), none⟩,
 ⟨some 12, .mv (.t 0), some (11, true)⟩,
 ⟨some 13, .call 159 [(.t 12), (.c (.int .i64 0))], some (11, true)⟩,
 ⟨some 14, .mv (.t 0), some (11, true)⟩,
 ⟨some 15, .len true (.t 14), some (11, true)⟩,
 ⟨some 16, .bin .eql (.t 13) (.t 15), some (11, true)⟩,
 ⟨some 17, .pick (.t 11) (.t 16) (.c (.bool false)), none⟩,
 ⟨some 18, .mv (.t 17), none⟩,
 ⟨some 19, .mv (.t 0), some (18, true)⟩,
 ⟨some 20, .call 160 [(.t 19)], some (18, true)⟩,
 ⟨some 21, .un .not (.t 20), some (18, true)⟩,
 ⟨some 22, .pick (.t 18) (.t 21) (.c (.bool false)), none⟩,
 ⟨some 2, .mv (.t 22), none⟩]
def a150 : AFunc := ⟨[.tmp 2], (.seq (.ops a150_0) (.seq (.ops a150_1) .ret))⟩
/-! ### 151: strings.Cut (13 slots) -/
def a151_0 : List AOper := [
 ⟨some 4, .mv (.c (.str [])), none⟩,
 ⟨some 5, .mv (.c (.str [])), none⟩,
 ⟨some 6, .mv (.c (.bool false)), none⟩]
def a151_1 : List AOper := [
 ⟨some 7, .mv (.t 0), none⟩,
 ⟨some 8, .mv (.t 1), none⟩,
 ⟨some 9, .call 161 [(.t 7), (.t 8)], none⟩,
 ⟨some 10, .extract (.t 9) 0, none⟩,
 ⟨some 11, .extract (.t 9) 1, none⟩,
 ⟨some 12, .extract (.t 9) 2, none⟩,
 ⟨some 4, .mv (.t 10), none⟩,
 ⟨some 5, .mv (.t 11), none⟩,
 ⟨some 6, .mv (.t 12), none⟩]
def a151 : AFunc := ⟨[.tmp 4, .tmp 5, .tmp 6], (.seq (.ops a151_0) (.seq (.ops a151_1) .ret))⟩
/-! ### 152: strings.Contains (9 slots) -/
def a152_0 : List AOper := [
 ⟨some 4, .mv (.c (.bool false)), none⟩]
def a152_1 : List AOper := [
 ⟨some 5, .mv (.t 0), none⟩,
 ⟨some 6, .mv (.t 1), none⟩,
 ⟨some 7, .call 162 [(.t 5), (.t 6)], none⟩,
 ⟨some 8, .bin .geq (.t 7) (.c (.int .i64 0)), none⟩,
 ⟨some 4, .mv (.t 8), none⟩]
def a152 : AFunc := ⟨[.tmp 4], (.seq (.ops a152_0) (.seq (.ops a152_1) .ret))⟩
/-! ### 153: heddle/atom.kind (31 slots) -/
def a153_0 : List AOper := [
 ⟨some 2, .mv (.c (.int .i64 0)), none⟩]
def a153_1 : List AOper := [
 ⟨some 4, .mv (.t 0), none⟩,
 ⟨some 5, .bin .geq (.t 4) (.c (.int .u8 97)), none⟩,
 ⟨some 6, .mv (.t 5), none⟩,
 ⟨some 7, .mv (.t 0), some (6, true)⟩,
 ⟨some 8, .bin .leq (.t 7) (.c (.int .u8 122)), some (6, true)⟩,
 ⟨some 9, .pick (.t 6) (.t 8) (.c (.bool false)), none⟩,
 ⟨some 3, .mv (.t 9), none⟩]
def a153_2 : List AOper := [
 ⟨some 2, .mv (.c (.int .i64 1)), none⟩]
def a153_3 : List AOper := [
 ⟨some 11, .mv (.t 0), none⟩,
 ⟨some 12, .bin .geq (.t 11) (.c (.int .u8 65)), none⟩,
 ⟨some 13, .mv (.t 12), none⟩,
 ⟨some 14, .mv (.t 0), some (13, true)⟩,
 ⟨some 15, .bin .leq (.t 14) (.c (.int .u8 90)), some (13, true)⟩,
 ⟨some 16, .pick (.t 13) (.t 15) (.c (.bool false)), none⟩,
 ⟨some 10, .mv (.t 16), none⟩]
def a153_4 : List AOper := [
 ⟨some 2, .mv (.c (.int .i64 2)), none⟩]
def a153_5 : List AOper := [
 ⟨some 18, .mv (.t 0), none⟩,
 ⟨some 19, .bin .geq (.t 18) (.c (.int .u8 48)), none⟩,
 ⟨some 20, .mv (.t 19), none⟩,
 ⟨some 21, .mv (.t 0), some (20, true)⟩,
 ⟨some 22, .bin .leq (.t 21) (.c (.int .u8 57)), some (20, true)⟩,
 ⟨some 23, .pick (.t 20) (.t 22) (.c (.bool false)), none⟩,
 ⟨some 17, .mv (.t 23), none⟩]
def a153_6 : List AOper := [
 ⟨some 2, .mv (.c (.int .i64 3)), none⟩]
def a153_7 : List AOper := [
 ⟨some 25, .mv (.t 0), none⟩,
 ⟨some 26, .bin .eql (.t 25) (.c (.int .u8 95)), none⟩,
 ⟨some 27, .mv (.t 26), none⟩,
 ⟨some 28, .mv (.t 0), some (27, false)⟩,
 ⟨some 29, .bin .eql (.t 28) (.c (.int .u8 64)), some (27, false)⟩,
 ⟨some 30, .pick (.t 27) (.c (.bool true)) (.t 29), none⟩,
 ⟨some 24, .mv (.t 30), none⟩]
def a153_8 : List AOper := [
 ⟨some 2, .mv (.c (.int .i64 4)), none⟩]
def a153_9 : List AOper := [
 ⟨some 2, .mv (.c (.int .i64 0)), none⟩]
def a153 : AFunc := ⟨[.tmp 2], (.seq (.ops a153_0) (.seq (.block 0 (.seq (.ops a153_1) (.cond (.t 3) (.seq (.ops a153_2) .ret) (.seq (.ops a153_3) (.cond (.t 10) (.seq (.ops a153_4) .ret) (.seq (.ops a153_5) (.cond (.t 17) (.seq (.ops a153_6) .ret) (.seq (.ops a153_7) (.cond (.t 24) (.seq (.ops a153_8) .ret) .skip))))))))) (.seq (.ops a153_9) .ret)))⟩
/-! ### 158: unicode/utf8.DecodeRuneInString (19 slots) -/
def a158_0 : List AOper := [
 ⟨some 2, .mv (.c (.int .i32 0)), none⟩,
 ⟨some 3, .mv (.c (.int .i64 0)), none⟩]
def a158_1 : List AOper := [
 ⟨some 4, .mv (.t 0), none⟩,
 ⟨some 5, .bin .neq (.t 4) (.c (.str [])), none⟩,
 ⟨some 6, .mv (.t 5), none⟩,
 ⟨some 7, .mv (.t 0), some (6, true)⟩,
 ⟨some 8, .idxStr (.t 7) (.c (.int .i64 0)), some (6, true)⟩,
 ⟨some 9, .bin .lss (.t 8) (.c (.int .u8 128)), some (6, true)⟩,
 ⟨some 10, .pick (.t 6) (.t 9) (.c (.bool false)), none⟩]
def a158_2 : List AOper := [
 ⟨some 11, .mv (.t 0), none⟩,
 ⟨some 12, .idxStr (.t 11) (.c (.int .i64 0)), none⟩,
 ⟨some 13, .conv (.int .i32) (.t 12), none⟩,
 ⟨some 2, .mv (.t 13), none⟩,
 ⟨some 3, .mv (.c (.int .i64 1)), none⟩]
def a158_3 : List AOper := [
 ⟨some 15, .mv (.t 0), none⟩,
 ⟨some 16, .call 168 [(.t 15)], none⟩,
 ⟨some 14, .mv (.t 16), none⟩,
 ⟨some 17, .extract (.t 14) 0, none⟩,
 ⟨some 18, .extract (.t 14) 1, none⟩,
 ⟨some 2, .mv (.t 17), none⟩,
 ⟨some 3, .mv (.t 18), none⟩]
def a158 : AFunc := ⟨[.tmp 2, .tmp 3], (.seq (.ops a158_0) (.seq (.seq (.ops a158_1) (.cond (.t 10) (.seq (.ops a158_2) .ret) (.ops a158_3))) .ret))⟩
/-! ### 159: heddle/atom.word (19 slots) -/
def a159_0 : List AOper := [
 ⟨some 4, .mv (.c (.int .i64 0)), none⟩]
def a159_1 : List AOper := [
 ⟨some 5, .mv (.t 1), none⟩,
 ⟨some 6, .mv (.t 0), none⟩,
 ⟨some 7, .len true (.t 6), none⟩,
 ⟨some 8, .bin .lss (.t 5) (.t 7), none⟩,
 ⟨some 9, .mv (.t 8), none⟩,
 ⟨some 10, .mv (.t 0), some (9, true)⟩,
 ⟨some 11, .mv (.t 1), some (9, true)⟩,
 ⟨some 12, .idxStr (.t 10) (.t 11), some (9, true)⟩,
 ⟨some 13, .call 153 [(.t 12)], some (9, true)⟩,
 ⟨some 14, .bin .neq (.t 13) (.c (.int .i64 0)), some (9, true)⟩,
 ⟨some 15, .pick (.t 9) (.t 14) (.c (.bool false)), none⟩]
def a159_2 : List AOper := [
 ⟨some 16, .mv (.t 1), none⟩,
 ⟨some 17, .bin .add (.t 16) (.c (.int .i64 1)), none⟩,
 ⟨some 1, .mv (.t 17), none⟩]
def a159_l3 : AC := (.seq (.seq (.ops a159_1) (.cond (.t 15) .skip (.exit 0))) (.block 1 (.ops a159_2)))
def a159_4 : List AOper := [
 ⟨some 18, .mv (.t 1), none⟩,
 ⟨some 4, .mv (.t 18), none⟩]
def a159 : AFunc := ⟨[.tmp 4], (.seq (.ops a159_0) (.seq (.block 0 (.loop a159_l3)) (.seq (.ops a159_4) .ret)))⟩
/-! ### 160: heddle/atom.reserved (25 slots) -/
def a160_0 : List AOper := [
 ⟨some 2, .mv (.c (.bool false)), none⟩]
def a160_1 : List AOper := [
 ⟨some 3, .mv (.t 0), none⟩]
def a160_2 : List AOper := [
 ⟨some 5, .bin .eql (.t 3) (.c (.str [97, 102, 116, 101, 114])), none⟩,
 ⟨some 4, .mv (.t 5), none⟩]
def a160_3 : List AOper := [
 ⟨some 6, .bin .eql (.t 3) (.c (.str [97, 110, 100])), none⟩,
 ⟨some 4, .mv (.t 6), none⟩]
def a160_4 : List AOper := [
 ⟨some 7, .bin .eql (.t 3) (.c (.str [97, 110, 100, 97, 108, 115, 111])), none⟩,
 ⟨some 4, .mv (.t 7), none⟩]
def a160_5 : List AOper := [
 ⟨some 8, .bin .eql (.t 3) (.c (.str [98, 101, 103, 105, 110])), none⟩,
 ⟨some 4, .mv (.t 8), none⟩]
def a160_6 : List AOper := [
 ⟨some 9, .bin .eql (.t 3) (.c (.str [99, 97, 115, 101])), none⟩,
 ⟨some 4, .mv (.t 9), none⟩]
def a160_7 : List AOper := [
 ⟨some 10, .bin .eql (.t 3) (.c (.str [99, 97, 116, 99, 104])), none⟩,
 ⟨some 4, .mv (.t 10), none⟩]
def a160_8 : List AOper := [
 ⟨some 11, .bin .eql (.t 3) (.c (.str [100, 105, 118])), none⟩,
 ⟨some 4, .mv (.t 11), none⟩]
def a160_9 : List AOper := [
 ⟨some 12, .bin .eql (.t 3) (.c (.str [101, 110, 100])), none⟩,
 ⟨some 4, .mv (.t 12), none⟩]
def a160_10 : List AOper := [
 ⟨some 13, .bin .eql (.t 3) (.c (.str [102, 117, 110])), none⟩,
 ⟨some 4, .mv (.t 13), none⟩]
def a160_11 : List AOper := [
 ⟨some 14, .bin .eql (.t 3) (.c (.str [105, 102])), none⟩,
 ⟨some 4, .mv (.t 14), none⟩]
def a160_12 : List AOper := [
 ⟨some 16, .bin .eql (.t 3) (.c (.str [110, 111, 116])), none⟩,
 ⟨some 15, .mv (.t 16), none⟩]
def a160_13 : List AOper := [
 ⟨some 17, .bin .eql (.t 3) (.c (.str [111, 102])), none⟩,
 ⟨some 15, .mv (.t 17), none⟩]
def a160_14 : List AOper := [
 ⟨some 18, .bin .eql (.t 3) (.c (.str [111, 114])), none⟩,
 ⟨some 15, .mv (.t 18), none⟩]
def a160_15 : List AOper := [
 ⟨some 19, .bin .eql (.t 3) (.c (.str [111, 114, 101, 108, 115, 101])), none⟩,
 ⟨some 15, .mv (.t 19), none⟩]
def a160_16 : List AOper := [
 ⟨some 20, .bin .eql (.t 3) (.c (.str [114, 101, 99, 101, 105, 118, 101])), none⟩,
 ⟨some 15, .mv (.t 20), none⟩]
def a160_17 : List AOper := [
 ⟨some 21, .bin .eql (.t 3) (.c (.str [114, 101, 109])), none⟩,
 ⟨some 15, .mv (.t 21), none⟩]
def a160_18 : List AOper := [
 ⟨some 22, .bin .eql (.t 3) (.c (.str [116, 114, 121])), none⟩,
 ⟨some 15, .mv (.t 22), none⟩]
def a160_19 : List AOper := [
 ⟨some 23, .bin .eql (.t 3) (.c (.str [119, 104, 101, 110])), none⟩,
 ⟨some 15, .mv (.t 23), none⟩]
def a160_20 : List AOper := [
 ⟨some 24, .bin .eql (.t 3) (.c (.str [120, 111, 114])), none⟩,
 ⟨some 15, .mv (.t 24), none⟩]
def a160_21 : List AOper := [
 ⟨some 2, .mv (.c (.bool true)), none⟩]
def a160_22 : List AOper := [
 ⟨some 2, .mv (.c (.bool false)), none⟩]
def a160 : AFunc := ⟨[.tmp 2], (.seq (.ops a160_0) (.seq (.seq (.ops a160_1) (.block 0 (.seq (.block 2 (.block 1 (.seq (.seq (.seq (.seq (.ops a160_2) (.cond (.t 4) .skip (.seq (.ops a160_3) (.cond (.t 4) .skip (.seq (.ops a160_4) (.cond (.t 4) .skip (.seq (.ops a160_5) (.cond (.t 4) .skip (.seq (.ops a160_6) (.cond (.t 4) .skip (.seq (.ops a160_7) (.cond (.t 4) .skip (.seq (.ops a160_8) (.cond (.t 4) .skip (.seq (.ops a160_9) (.cond (.t 4) .skip (.seq (.ops a160_10) (.cond (.t 4) .skip (.ops a160_11))))))))))))))))))) (.cond (.t 4) (.exit 1) .skip)) (.seq (.seq (.ops a160_12) (.cond (.t 15) .skip (.seq (.ops a160_13) (.cond (.t 15) .skip (.seq (.ops a160_14) (.cond (.t 15) .skip (.seq (.ops a160_15) (.cond (.t 15) .skip (.seq (.ops a160_16) (.cond (.t 15) .skip (.seq (.ops a160_17) (.cond (.t 15) .skip (.seq (.ops a160_18) (.cond (.t 15) .skip (.seq (.ops a160_19) (.cond (.t 15) .skip (.ops a160_20))))))))))))))))) (.cond (.t 15) (.exit 2) .skip))) (.exit 0)))) (.seq (.seq (.ops a160_21) .ret) (.exit 0))))) (.seq (.ops a160_22) .ret)))⟩
/-! ### 161: internal/stringslite.Cut (23 slots) -/
def a161_0 : List AOper := [
 ⟨some 4, .mv (.c (.str [])), none⟩,
 ⟨some 5, .mv (.c (.str [])), none⟩,
 ⟨some 6, .mv (.c (.bool false)), none⟩]
def a161_1 : List AOper := [
 ⟨some 8, .mv (.t 0), none⟩,
 ⟨some 9, .mv (.t 1), none⟩,
 ⟨some 10, .call 169 [(.t 8), (.t 9)], none⟩,
 ⟨some 7, .mv (.t 10), none⟩]
def a161_2 : List AOper := [
 ⟨some 11, .mv (.t 7), none⟩,
 ⟨some 12, .bin .geq (.t 11) (.c (.int .i64 0)), none⟩]
def a161_3 : List AOper := [
 ⟨some 13, .mv (.t 0), none⟩,
 ⟨some 14, .mv (.t 7), none⟩,
 ⟨some 15, .sliceStr (.t 13) none (some (.t 14)), none⟩,
 ⟨some 16, .mv (.t 0), none⟩,
 ⟨some 17, .mv (.t 7), none⟩,
 ⟨some 18, .mv (.t 1), none⟩,
 ⟨some 19, .len true (.t 18), none⟩,
 ⟨some 20, .bin .add (.t 17) (.t 19), none⟩,
 ⟨some 21, .sliceStr (.t 16) (some (.t 20)) none, none⟩,
 ⟨some 4, .mv (.t 15), none⟩,
 ⟨some 5, .mv (.t 21), none⟩,
 ⟨some 6, .mv (.c (.bool true)), none⟩]
def a161_3b : List Nat := [0, 0, 3, 0, 0, 0, 32, 112, 248, 7, 1023, 2047]
def a161_4 : List AOper := [
 ⟨some 22, .mv (.t 0), none⟩,
 ⟨some 4, .mv (.t 22), none⟩,
 ⟨some 5, .mv (.c (.str [])), none⟩,
 ⟨some 6, .mv (.c (.bool false)), none⟩]
def a161 : AFunc := ⟨[.tmp 4, .tmp 5, .tmp 6], (.seq (.ops a161_0) (.seq (.seq (.ops a161_1) (.seq (.ops a161_2) (.cond (.t 12) (.seq (.draw a161_3 a161_3b) .ret) .skip))) (.seq (.ops a161_4) .ret)))⟩
/-! ### 162: strings.Index (8 slots) -/
def a162_0 : List AOper := [
 ⟨some 4, .mv (.c (.int .i64 0)), none⟩]
def a162_1 : List AOper := [
 ⟨some 5, .mv (.t 0), none⟩,
 ⟨some 6, .mv (.t 1), none⟩,
 ⟨some 7, .call 169 [(.t 5), (.t 6)], none⟩,
 ⟨some 4, .mv (.t 7), none⟩]
def a162 : AFunc := ⟨[.tmp 4], (.seq (.ops a162_0) (.seq (.ops a162_1) .ret))⟩
end Go.Bf
