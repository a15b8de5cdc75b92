/-
  THE ABSTRACT MACHINE's code of the functions that the statements of package bif reach (part 2): printed by a program of this session's own; BfTie shows that it is what the translation gives.
-/
import Derived.Test.YtaielgjmhbjfhaaGreatDoorAmCore
set_option linter.unusedVariables false
namespace Go.Bf
open Go.AM
def a54_0 : List AOper := [
 oP 1 (.box false 6 (.t 0)),
 oP 2 (.mv (.c (.int .i64 0))),
 oP 3 (.mv (.c (.int .i64 0))),
 oP 4 (.mv (.c .nili))]
def a54_1 : List AOper := [
 oP 5 (.alloc [(.int .i64 0), (.int .i64 0)])]
def a54_2 : List AOper := [
 oP 7 (.load true 6 (.t 1)),
 oP 8 (.call 97 [(.t 5), (.t 7), (.c (.int .i64 1))]),
 mV 6 8]
def a54_3 : List AOper := [
 mV 9 6,
 oP 10 (.eq true (.iface true) (.t 9) (.c .nili))]
def a54_4 : List AOper := [
 mV 11 6,
 oP 2 (.mv (.c (.int .i64 0))),
 oP 3 (.mv (.c (.int .i64 0))),
 mV 4 11]
def a54_5 : List AOper := [
 oP 12 (.fieldAddr 0 (.t 5)),
 oP 13 (.load false 1 (.t 12)),
 oP 14 (.fieldAddr 1 (.t 5)),
 oP 15 (.load false 1 (.t 14)),
 mV 2 13,
 mV 3 15,
 oP 4 (.mv (.c .nili))]
def a54_5b : List Nat := [0, 1, 0, 4, 3, 31, 63]
def a54 : AFunc := ⟨[.tmp 2, .tmp 3, .tmp 4], (.seq (.ops a54_0) (.seq (.ops a54_1) (.seq (.seq (.ops a54_2) (.seq (.ops a54_3) (.cond (.t 10) (.seq (.ops a54_4) .ret) .skip))) (.seq (.draw a54_5 a54_5b) .ret))))⟩
def a59_0 : List AOper := [
 oP 2 (.alloc [(.int .i64 0), (.int .i64 0), (.str []), (.int .u32 0), .nils, .nils])]
def a59_1 : List AOper := [
 mV 3 0,
 oP 4 (.build [(.int .i64 0), (.int .i64 0), (.str []), (.int .u32 0), .nils, .nils] [(0, 1, (.c (.int .i64 1))), (1, 1, (.t 3))]),
 oN (.store 6 (.t 2) (.t 4))]
def a59 : AFunc := ⟨[.cell 2 true 6], (.seq (.ops a59_0) (.seq (.ops a59_1) .ret))⟩
def a60_0 : List AOper := [
 oP 4 (.box false 6 (.t 1)),
 oP 5 (.box false 6 (.t 2)),
 oP 6 (.alloc [(.int .i64 0), (.int .i64 0), (.str []), (.int .u32 0), .nils, .nils]),
 oP 7 (.mv (.c (.int .i64 0)))]
def a60_1 : List AOper := [
 oP 11 (.fieldAddr 0 (.t 4)),
 oP 12 (.load false 1 (.t 11)),
 oP 13 (.bin .neq (.t 12) (.c (.int .i64 1))),
 mV 14 13,
 oG 15 (.fieldAddr 0 (.t 5)) 14 false,
 oG 16 (.load false 1 (.t 15)) 14 false,
 oG 17 (.bin .neq (.t 16) (.c (.int .i64 1))) 14 false,
 oP 18 (.pick (.t 14) (.c (.bool true)) (.t 17))]
def a60_2 : List AOper := [
 oP 19 (.build [(.int .i64 0), (.int .i64 0), (.str []), (.int .u32 0), .nils, .nils] []),
 oN (.store 6 (.t 6) (.t 19)),
 oP 7 (.mv (.c (.int .i64 260)))]
def a60_3 : List AOper := [
 oP 20 (.fieldAddr 1 (.t 4)),
 oP 21 (.load false 1 (.t 20)),
 oP 22 (.fieldAddr 1 (.t 5)),
 oP 23 (.load false 1 (.t 22)),
 mV 8 21,
 mV 9 23,
 oP 10 (.mv (.c (.bool true)))]
def a60_3b : List Nat := [0, 1, 0, 4, 3, 31, 63]
def a60_4 : List AOper := [
 mV 24 0]
def a60_5 : List AOper := [
 oP 37 (.bin .eql (.t 24) (.c (.str [43]))),
 mV 36 37]
def a60_6 : List AOper := [
 mV 38 8,
 mV 39 9,
 oP 40 (.bin .add (.t 38) (.t 39)),
 mV 8 40]
def a60_7 : List AOper := [
 oP 42 (.bin .eql (.t 24) (.c (.str [45]))),
 mV 41 42]
def a60_8 : List AOper := [
 mV 43 8,
 mV 44 9,
 oP 45 (.bin .sub (.t 43) (.t 44)),
 mV 8 45]
def a60_9 : List AOper := [
 oP 47 (.bin .eql (.t 24) (.c (.str [42]))),
 mV 46 47]
def a60_10 : List AOper := [
 mV 49 8,
 mV 50 9,
 oP 51 (.call 100 [(.t 49), (.t 50)]),
 mV 48 51,
 oP 52 (.extract (.t 48) 0),
 oP 53 (.extract (.t 48) 1),
 mV 8 52,
 mV 10 53]
def a60_11 : List AOper := [
 mV 25 9,
 oP 26 (.bin .eql (.t 25) (.c (.int .i64 0)))]
def a60_12 : List AOper := [
 oP 27 (.build [(.int .i64 0), (.int .i64 0), (.str []), (.int .u32 0), .nils, .nils] []),
 oN (.store 6 (.t 6) (.t 27)),
 oP 7 (.mv (.c (.int .i64 260)))]
def a60_13 : List AOper := [
 mV 28 0,
 oP 29 (.bin .eql (.t 28) (.c (.str [114, 101, 109])))]
def a60_14 : List AOper := [
 mV 30 8,
 mV 31 9,
 oP 32 (.bin .rem (.t 30) (.t 31)),
 mV 8 32]
def a60_15 : List AOper := [
 mV 33 8,
 mV 34 9,
 oP 35 (.bin .quo (.t 33) (.t 34)),
 mV 8 35]
def a60_16 : List AOper := [
 mV 54 10,
 oP 55 (.un .not (.t 54)),
 mV 56 55,
 oG 57 (.mv (.t 8)) 56 false,
 oG 58 (.bin .lss (.t 57) (.c (.int .i64 (-576460752303423488)))) 56 false,
 oP 59 (.pick (.t 56) (.c (.bool true)) (.t 58)),
 mV 60 59,
 oG 61 (.mv (.t 8)) 60 false,
 oG 62 (.bin .gtr (.t 61) (.c (.int .i64 576460752303423487))) 60 false,
 oP 63 (.pick (.t 60) (.c (.bool true)) (.t 62))]
def a60_17 : List AOper := [
 oP 64 (.build [(.int .i64 0), (.int .i64 0), (.str []), (.int .u32 0), .nils, .nils] []),
 oN (.store 6 (.t 6) (.t 64)),
 oP 7 (.mv (.c (.int .i64 262)))]
def a60_18 : List AOper := [
 mV 65 8,
 oP 66 (.call 59 [(.t 65)]),
 oN (.store 6 (.t 6) (.t 66)),
 oP 7 (.mv (.c (.int .i64 0)))]
def a60 : AFunc := ⟨[.cell 6 true 6, .tmp 7], (.seq (.ops a60_0) (.seq (.seq (.ops a60_1) (.cond (.t 18) (.seq (.ops a60_2) .ret) .skip)) (.seq (.draw a60_3 a60_3b) (.seq (.seq (.ops a60_4) (.block 0 (.seq (.ops a60_5) (.cond (.t 36) (.ops a60_6) (.seq (.ops a60_7) (.cond (.t 41) (.ops a60_8) (.seq (.ops a60_9) (.cond (.t 46) (.ops a60_10) (.seq (.seq (.ops a60_11) (.cond (.t 26) (.seq (.ops a60_12) .ret) .skip)) (.seq (.ops a60_13) (.cond (.t 29) (.ops a60_14) (.ops a60_15)))))))))))) (.seq (.seq (.ops a60_16) (.cond (.t 63) (.seq (.ops a60_17) .ret) .skip)) (.seq (.ops a60_18) .ret))))))⟩
def a66_0 : List AOper := [
 oP 4 (.mv (.c (.bool false)))]
def a66_1 : List AOper := [
 mV 5 0,
 mV 6 1,
 oP 7 (.call 109 [(.t 5), (.t 6)]),
 mV 4 7]
def a66 : AFunc := ⟨[.tmp 4], (.seq (.ops a66_0) (.seq (.ops a66_1) .ret))⟩
def a68_0 : List AOper := [
 oP 4 (.alloc [(.int .i64 0), (.int .i64 0), (.str []), (.int .u32 0), .nils, .nils]),
 oP 5 (.mv (.c (.int .i64 0)))]
def a68_1 : List AOper := [
 mV 17 1,
 oP 18 (.idxAddr 6 (.t 17) (.c (.int .i64 0))),
 oP 19 (.load true 6 (.t 18)),
 oP 6 (.alloc [(.int .i64 0), (.int .i64 0), (.str []), (.int .u32 0), .nils, .nils]),
 oN (.store 6 (.t 6) (.t 19))]
def a68_2 : List AOper := [
 mV 20 0]
def a68_3 : List AOper := [
 oP 27 (.bin .eql (.t 20) (.c (.str [97, 98, 115]))),
 mV 26 27]
def a68_4 : List AOper := [
 oP 28 (.fieldAddr 0 (.t 6)),
 oP 29 (.load false 1 (.t 28)),
 oP 30 (.bin .eql (.t 29) (.c (.int .i64 1)))]
def a68_5 : List AOper := [
 oP 31 (.fieldAddr 1 (.t 6)),
 oP 32 (.load false 1 (.t 31)),
 oP 33 (.fieldAddr 1 (.t 6)),
 oP 34 (.load false 1 (.t 33)),
 oP 35 (.un .neg (.t 34)),
 oP 36 (.minmax true (.t 32) (.t 35)),
 oP 37 (.call 59 [(.t 36)]),
 oN (.store 6 (.t 4) (.t 37)),
 oP 5 (.mv (.c (.int .i64 0)))]
def a68_6 : List AOper := [
 oP 39 (.bin .eql (.t 20) (.c (.str [101, 108, 101, 109, 101, 110, 116]))),
 mV 38 39]
def a68_7 : List AOper := [
 oP 40 (.load true 6 (.t 6)),
 mV 41 1,
 oP 42 (.idxAddr 6 (.t 41) (.c (.int .i64 1))),
 oP 43 (.load true 6 (.t 42)),
 oP 44 (.call 110 [(.t 40), (.t 43)]),
 mV 7 44]
def a68_7b : List Nat := [0, 0, 2, 6, 15, 31]
def a68_8 : List AOper := [
 mV 45 7,
 oP 46 (.bin .geq (.t 45) (.c (.int .i64 0)))]
def a68_9 : List AOper := [
 mV 47 1,
 oP 48 (.idxAddr 6 (.t 47) (.c (.int .i64 1))),
 oP 49 (.fieldAddr 5 (.t 48)),
 oP 50 (.load false 1 (.t 49)),
 mV 51 7,
 oP 52 (.idxAddr 6 (.t 50) (.t 51)),
 oP 53 (.load true 6 (.t 52)),
 oN (.store 6 (.t 4) (.t 53)),
 oP 5 (.mv (.c (.int .i64 0)))]
def a68_10 : List AOper := [
 oP 55 (.bin .eql (.t 20) (.c (.str [115, 101, 116, 101, 108, 101, 109, 101, 110, 116]))),
 mV 54 55]
def a68_11 : List AOper := [
 oP 56 (.load true 6 (.t 6)),
 mV 57 1,
 oP 58 (.idxAddr 6 (.t 57) (.c (.int .i64 1))),
 oP 59 (.load true 6 (.t 58)),
 oP 60 (.call 110 [(.t 56), (.t 59)]),
 mV 8 60]
def a68_11b : List Nat := [0, 0, 2, 6, 15, 31]
def a68_12 : List AOper := [
 mV 61 8,
 oP 62 (.bin .geq (.t 61) (.c (.int .i64 0)))]
def a68_13 : List AOper := [
 mV 63 1,
 oP 64 (.idxAddr 6 (.t 63) (.c (.int .i64 1))),
 oP 65 (.fieldAddr 5 (.t 64)),
 oP 66 (.load false 1 (.t 65)),
 oP 67 (.call 104 [(.t 66)]),
 oP 68 (.build [(.int .i64 0), (.int .i64 0), (.str []), (.int .u32 0), .nils, .nils] [(0, 1, (.c (.int .i64 5))), (5, 1, (.t 67))]),
 oP 9 (.alloc [(.int .i64 0), (.int .i64 0), (.str []), (.int .u32 0), .nils, .nils]),
 oN (.store 6 (.t 9) (.t 68))]
def a68_14 : List AOper := [
 oP 69 (.fieldAddr 5 (.t 9)),
 oP 70 (.load false 1 (.t 69)),
 mV 71 8,
 mV 72 1,
 oP 73 (.idxAddr 6 (.t 72) (.c (.int .i64 2))),
 oP 74 (.load true 6 (.t 73)),
 oP 75 (.idxAddr 6 (.t 70) (.t 71)),
 oN (.store 6 (.t 75) (.t 74))]
def a68_14b : List Nat := [0, 1, 0, 0, 8, 24, 63, 127]
def a68_15 : List AOper := [
 oP 76 (.load true 6 (.t 9)),
 oN (.store 6 (.t 4) (.t 76)),
 oP 5 (.mv (.c (.int .i64 0)))]
def a68_16 : List AOper := [
 oP 78 (.bin .eql (.t 20) (.c (.str [104, 100]))),
 mV 77 78]
def a68_17 : List AOper := [
 oP 79 (.bin .eql (.t 20) (.c (.str [116, 108]))),
 mV 77 79]
def a68_18 : List AOper := [
 oP 81 (.load true 6 (.t 6)),
 oP 82 (.call 111 [(.t 81)]),
 mV 80 82,
 oP 83 (.extract (.t 80) 0),
 oP 84 (.extract (.t 80) 1),
 oP 85 (.extract (.t 80) 2),
 oP 10 (.alloc [(.int .i64 0), (.int .i64 0), (.str []), (.int .u32 0), .nils, .nils]),
 oP 11 (.alloc [(.int .i64 0), (.int .i64 0), (.str []), (.int .u32 0), .nils, .nils]),
 oN (.store 6 (.t 10) (.t 83)),
 oN (.store 6 (.t 11) (.t 84)),
 mV 12 85]
def a68_19 : List AOper := [
 mV 86 12]
def a68_20 : List AOper := [
 mV 87 0,
 oP 88 (.bin .eql (.t 87) (.c (.str [104, 100])))]
def a68_21 : List AOper := [
 oP 89 (.load true 6 (.t 10)),
 oN (.store 6 (.t 4) (.t 89)),
 oP 5 (.mv (.c (.int .i64 0)))]
def a68_22 : List AOper := [
 oP 90 (.load true 6 (.t 11)),
 oN (.store 6 (.t 4) (.t 90)),
 oP 5 (.mv (.c (.int .i64 0)))]
def a68_23 : List AOper := [
 oP 92 (.bin .eql (.t 20) (.c (.str [110, 111, 100, 101]))),
 mV 91 92]
def a68_24 : List AOper := [
 oP 93 (.fieldAddr 0 (.t 6)),
 oP 94 (.load false 1 (.t 93)),
 oP 95 (.bin .eql (.t 94) (.c (.int .i64 4))),
 mV 96 95,
 oG 97 (.fieldAddr 0 (.t 6)) 96 false,
 oG 98 (.load false 1 (.t 97)) 96 false,
 oG 99 (.bin .eql (.t 98) (.c (.int .i64 3))) 96 false,
 oP 100 (.pick (.t 96) (.c (.bool true)) (.t 99))]
def a68_25 : List AOper := [
 oP 101 (.fieldAddr 2 (.t 6)),
 oP 102 (.load false 1 (.t 101)),
 oP 103 (.call 34 [(.t 102)]),
 oN (.store 6 (.t 4) (.t 103)),
 oP 5 (.mv (.c (.int .i64 0)))]
def a68_26 : List AOper := [
 oP 105 (.bin .eql (.t 20) (.c (.str [116, 117, 112, 108, 101, 95, 115, 105, 122, 101]))),
 mV 104 105]
def a68_27 : List AOper := [
 oP 106 (.fieldAddr 0 (.t 6)),
 oP 107 (.load false 1 (.t 106)),
 oP 108 (.bin .eql (.t 107) (.c (.int .i64 5)))]
def a68_28 : List AOper := [
 oP 109 (.fieldAddr 5 (.t 6)),
 oP 110 (.load false 1 (.t 109)),
 oP 111 (.len false (.t 110)),
 oP 112 (.call 59 [(.t 111)]),
 oN (.store 6 (.t 4) (.t 112)),
 oP 5 (.mv (.c (.int .i64 0)))]
def a68_29 : List AOper := [
 oP 114 (.bin .eql (.t 20) (.c (.str [116, 117, 112, 108, 101, 95, 116, 111, 95, 108, 105, 115, 116]))),
 mV 113 114]
def a68_30 : List AOper := [
 oP 115 (.fieldAddr 0 (.t 6)),
 oP 116 (.load false 1 (.t 115)),
 oP 117 (.bin .eql (.t 116) (.c (.int .i64 5)))]
def a68_31 : List AOper := [
 oP 118 (.fieldAddr 5 (.t 6)),
 oP 119 (.load false 1 (.t 118)),
 oP 120 (.call 108 []),
 oP 121 (.call 103 [(.t 119), (.t 120)]),
 oN (.store 6 (.t 4) (.t 121)),
 oP 5 (.mv (.c (.int .i64 0)))]
def a68_31b : List Nat := [0, 1, 0, 7, 15, 31]
def a68_32 : List AOper := [
 oP 123 (.bin .eql (.t 20) (.c (.str [108, 101, 110, 103, 116, 104]))),
 mV 122 123]
def a68_33 : List AOper := [
 oP 125 (.load true 6 (.t 6)),
 oP 126 (.call 102 [(.t 125)]),
 mV 124 126,
 oP 127 (.extract (.t 124) 0),
 oP 128 (.extract (.t 124) 1),
 mV 13 127,
 mV 14 128]
def a68_34 : List AOper := [
 mV 129 14]
def a68_35 : List AOper := [
 mV 130 13,
 oP 131 (.len false (.t 130)),
 oP 132 (.call 59 [(.t 131)]),
 oN (.store 6 (.t 4) (.t 132)),
 oP 5 (.mv (.c (.int .i64 0)))]
def a68_36 : List AOper := [
 oP 134 (.bin .eql (.t 20) (.c (.str [108, 105, 115, 116, 95, 116, 111, 95, 116, 117, 112, 108, 101]))),
 mV 133 134]
def a68_37 : List AOper := [
 oP 136 (.load true 6 (.t 6)),
 oP 137 (.call 102 [(.t 136)]),
 mV 135 137,
 oP 138 (.extract (.t 135) 0),
 oP 139 (.extract (.t 135) 1),
 mV 15 138,
 mV 16 139]
def a68_38 : List AOper := [
 mV 140 16]
def a68_39 : List AOper := [
 mV 141 15,
 oP 142 (.build [(.int .i64 0), (.int .i64 0), (.str []), (.int .u32 0), .nils, .nils] [(0, 1, (.c (.int .i64 5))), (5, 1, (.t 141))]),
 oN (.store 6 (.t 4) (.t 142)),
 oP 5 (.mv (.c (.int .i64 0)))]
def a68_40 : List AOper := [
 mV 21 0,
 oP 22 (.load true 6 (.t 6)),
 oP 23 (.call 112 [(.t 21), (.t 22)]),
 oP 24 (.extract (.t 23) 0),
 oP 25 (.extract (.t 23) 1),
 oN (.store 6 (.t 4) (.t 24)),
 mV 5 25]
def a68_41 : List AOper := [
 oP 143 (.build [(.int .i64 0), (.int .i64 0), (.str []), (.int .u32 0), .nils, .nils] []),
 oN (.store 6 (.t 4) (.t 143)),
 oP 5 (.mv (.c (.int .i64 261)))]
def a68 : AFunc := ⟨[.cell 4 true 6, .tmp 5], (.seq (.ops a68_0) (.seq (.ops a68_1) (.seq (.seq (.ops a68_2) (.block 0 (.seq (.ops a68_3) (.cond (.t 26) (.seq (.ops a68_4) (.cond (.t 30) (.seq (.ops a68_5) .ret) .skip)) (.seq (.ops a68_6) (.cond (.t 38) (.seq (.draw a68_7 a68_7b) (.seq (.ops a68_8) (.cond (.t 46) (.seq (.ops a68_9) .ret) .skip))) (.seq (.ops a68_10) (.cond (.t 54) (.seq (.draw a68_11 a68_11b) (.seq (.ops a68_12) (.cond (.t 62) (.seq (.ops a68_13) (.seq (.draw a68_14 a68_14b) (.seq (.ops a68_15) .ret))) .skip))) (.seq (.seq (.ops a68_16) (.cond (.t 77) .skip (.ops a68_17))) (.cond (.t 77) (.seq (.ops a68_18) (.seq (.ops a68_19) (.cond (.t 86) (.seq (.seq (.ops a68_20) (.cond (.t 88) (.seq (.ops a68_21) .ret) .skip)) (.seq (.ops a68_22) .ret)) .skip))) (.seq (.ops a68_23) (.cond (.t 91) (.seq (.ops a68_24) (.cond (.t 100) (.seq (.ops a68_25) .ret) .skip)) (.seq (.ops a68_26) (.cond (.t 104) (.seq (.ops a68_27) (.cond (.t 108) (.seq (.ops a68_28) .ret) .skip)) (.seq (.ops a68_29) (.cond (.t 113) (.seq (.ops a68_30) (.cond (.t 117) (.seq (.draw a68_31 a68_31b) .ret) .skip)) (.seq (.ops a68_32) (.cond (.t 122) (.seq (.ops a68_33) (.seq (.ops a68_34) (.cond (.t 129) (.seq (.ops a68_35) .ret) .skip))) (.seq (.ops a68_36) (.cond (.t 133) (.seq (.ops a68_37) (.seq (.ops a68_38) (.cond (.t 140) (.seq (.ops a68_39) .ret) .skip))) (.seq (.ops a68_40) .ret))))))))))))))))))))) (.seq (.ops a68_41) .ret))))⟩
def a69_0 : List AOper := [
 oP 2 (.mv (.c .nils))]
def a69_1 : List AOper := [
 mV 3 0,
 oP 4 (.eq false .slice (.t 3) (.c .nils))]
def a69_2 : List AOper := [
 oP 2 (.mv (.c .nils))]
def a69_3 : List AOper := [
 oP 5 (.lit true 1 0 [] []),
 mV 6 0,
 oP 7 (.append 1 4 (.t 5) (.t 6)),
 mV 2 7]
def a69 : AFunc := ⟨[.tmp 2], (.seq (.ops a69_0) (.seq (.seq (.ops a69_1) (.cond (.t 4) (.seq (.ops a69_2) .ret) .skip)) (.seq (.ops a69_3) .ret)))⟩
def a73_0 : List AOper := [
 oP 6 (.mv (.c .nils))]
def a73_1 : List AOper := [
 mV 7 0,
 mV 8 1,
 mV 9 2,
 oP 10 (.build [(.str []), (.int .i64 0), (.int .i64 0)] [(0, 1, (.t 7)), (1, 1, (.t 8)), (2, 1, (.t 9))]),
 oP 11 (.lit true 3 1 [(.str []), (.int .i64 0), (.int .i64 0)] [(0, 3, (.t 10))]),
 mV 6 11]
def a73 : AFunc := ⟨[.tmp 6], (.seq (.ops a73_0) (.seq (.ops a73_1) .ret))⟩
def a78_0 : List AOper := [
 oP 4 (.alloc [(.int .i64 0), (.int .i64 0), (.str []), (.int .u32 0), .nils, .nils]),
 oP 5 (.mv (.c (.int .i64 0)))]
def a78_1 : List AOper := [
 mV 9 1,
 oP 10 (.idxAddr 6 (.t 9) (.c (.int .i64 0))),
 oP 11 (.load true 6 (.t 10)),
 oP 6 (.alloc [(.int .i64 0), (.int .i64 0), (.str []), (.int .u32 0), .nils, .nils]),
 oN (.store 6 (.t 6) (.t 11))]
def a78_2 : List AOper := [
 mV 12 0]
def a78_3 : List AOper := [
 oP 14 (.bin .eql (.t 12) (.c (.str [97, 98, 115]))),
 mV 13 14]
def a78_4 : List AOper := [
 oP 15 (.fieldAddr 0 (.t 6)),
 oP 16 (.load false 1 (.t 15)),
 oP 17 (.bin .neq (.t 16) (.c (.int .i64 1)))]
def a78_5 : List AOper := [
 oP 18 (.build [(.int .i64 0), (.int .i64 0), (.str []), (.int .u32 0), .nils, .nils] []),
 oN (.store 6 (.t 4) (.t 18)),
 oP 5 (.mv (.c (.int .i64 261)))]
def a78_6 : List AOper := [
 oP 19 (.fieldAddr 1 (.t 6)),
 oP 20 (.load false 1 (.t 19)),
 oP 21 (.bin .lss (.t 20) (.c (.int .i64 0)))]
def a78_7 : List AOper := [
 oP 22 (.fieldAddr 1 (.t 6)),
 oP 23 (.load false 1 (.t 22)),
 oP 24 (.un .neg (.t 23)),
 oP 25 (.call 22 [(.t 24)]),
 oN (.store 6 (.t 4) (.t 25)),
 oP 5 (.mv (.c (.int .i64 0)))]
def a78_8 : List AOper := [
 oP 26 (.load true 6 (.t 6)),
 oN (.store 6 (.t 4) (.t 26)),
 oP 5 (.mv (.c (.int .i64 0)))]
def a78_9 : List AOper := [
 oP 28 (.bin .eql (.t 12) (.c (.str [105, 115, 95, 97, 116, 111, 109]))),
 mV 27 28]
def a78_10 : List AOper := [
 oP 29 (.fieldAddr 0 (.t 6)),
 oP 30 (.load false 1 (.t 29)),
 oP 31 (.bin .eql (.t 30) (.c (.int .i64 2))),
 oP 32 (.call 77 [(.t 31)]),
 oN (.store 6 (.t 4) (.t 32)),
 oP 5 (.mv (.c (.int .i64 0)))]
def a78_11 : List AOper := [
 oP 34 (.bin .eql (.t 12) (.c (.str [105, 115, 95, 98, 111, 111, 108, 101, 97, 110]))),
 mV 33 34]
def a78_12 : List AOper := [
 oP 36 (.load true 6 (.t 6)),
 oP 37 (.call 115 [(.t 36)]),
 mV 35 37,
 oP 38 (.extract (.t 35) 0),
 oP 39 (.extract (.t 35) 1),
 mV 7 38,
 mV 8 39]
def a78_13 : List AOper := [
 mV 40 8,
 oP 41 (.call 77 [(.t 40)]),
 oN (.store 6 (.t 4) (.t 41)),
 oP 5 (.mv (.c (.int .i64 0)))]
def a78_14 : List AOper := [
 oP 43 (.bin .eql (.t 12) (.c (.str [105, 115, 95, 105, 110, 116, 101, 103, 101, 114]))),
 mV 42 43]
def a78_15 : List AOper := [
 oP 44 (.fieldAddr 0 (.t 6)),
 oP 45 (.load false 1 (.t 44)),
 oP 46 (.bin .eql (.t 45) (.c (.int .i64 1))),
 oP 47 (.call 77 [(.t 46)]),
 oN (.store 6 (.t 4) (.t 47)),
 oP 5 (.mv (.c (.int .i64 0)))]
def a78_16 : List AOper := [
 oP 49 (.bin .eql (.t 12) (.c (.str [105, 115, 95, 108, 105, 115, 116]))),
 mV 48 49]
def a78_17 : List AOper := [
 oP 50 (.fieldAddr 0 (.t 6)),
 oP 51 (.load false 1 (.t 50)),
 oP 52 (.bin .eql (.t 51) (.c (.int .i64 6))),
 mV 53 52,
 oG 54 (.fieldAddr 0 (.t 6)) 53 false,
 oG 55 (.load false 1 (.t 54)) 53 false,
 oG 56 (.bin .eql (.t 55) (.c (.int .i64 7))) 53 false,
 oP 57 (.pick (.t 53) (.c (.bool true)) (.t 56)),
 oP 58 (.call 77 [(.t 57)]),
 oN (.store 6 (.t 4) (.t 58)),
 oP 5 (.mv (.c (.int .i64 0)))]
def a78_18 : List AOper := [
 oP 60 (.bin .eql (.t 12) (.c (.str [105, 115, 95, 112, 105, 100]))),
 mV 59 60]
def a78_19 : List AOper := [
 oP 61 (.fieldAddr 0 (.t 6)),
 oP 62 (.load false 1 (.t 61)),
 oP 63 (.bin .eql (.t 62) (.c (.int .i64 4))),
 oP 64 (.call 77 [(.t 63)]),
 oN (.store 6 (.t 4) (.t 64)),
 oP 5 (.mv (.c (.int .i64 0)))]
def a78_20 : List AOper := [
 oP 66 (.bin .eql (.t 12) (.c (.str [105, 115, 95, 114, 101, 102, 101, 114, 101, 110, 99, 101]))),
 mV 65 66]
def a78_21 : List AOper := [
 oP 67 (.fieldAddr 0 (.t 6)),
 oP 68 (.load false 1 (.t 67)),
 oP 69 (.bin .eql (.t 68) (.c (.int .i64 3))),
 oP 70 (.call 77 [(.t 69)]),
 oN (.store 6 (.t 4) (.t 70)),
 oP 5 (.mv (.c (.int .i64 0)))]
def a78_22 : List AOper := [
 oP 72 (.bin .eql (.t 12) (.c (.str [105, 115, 95, 116, 117, 112, 108, 101]))),
 mV 71 72]
def a78_23 : List AOper := [
 oP 73 (.fieldAddr 0 (.t 6)),
 oP 74 (.load false 1 (.t 73)),
 oP 75 (.bin .eql (.t 74) (.c (.int .i64 5))),
 oP 76 (.call 77 [(.t 75)]),
 oN (.store 6 (.t 4) (.t 76)),
 oP 5 (.mv (.c (.int .i64 0)))]
def a78_24 : List AOper := [
 oP 78 (.bin .eql (.t 12) (.c (.str [110, 111, 100, 101]))),
 mV 77 78]
def a78_25 : List AOper := [
 oP 79 (.fieldAddr 0 (.t 6)),
 oP 80 (.load false 1 (.t 79)),
 oP 81 (.bin .neq (.t 80) (.c (.int .i64 4))),
 mV 82 81,
 oG 83 (.fieldAddr 0 (.t 6)) 82 true,
 oG 84 (.load false 1 (.t 83)) 82 true,
 oG 85 (.bin .neq (.t 84) (.c (.int .i64 3))) 82 true,
 oP 86 (.pick (.t 82) (.t 85) (.c (.bool false)))]
def a78_26 : List AOper := [
 oP 87 (.build [(.int .i64 0), (.int .i64 0), (.str []), (.int .u32 0), .nils, .nils] []),
 oN (.store 6 (.t 4) (.t 87)),
 oP 5 (.mv (.c (.int .i64 261)))]
def a78_27 : List AOper := [
 oP 88 (.fieldAddr 2 (.t 6)),
 oP 89 (.load false 1 (.t 88)),
 oP 90 (.call 31 [(.t 89)]),
 oN (.store 6 (.t 4) (.t 90)),
 oP 5 (.mv (.c (.int .i64 0)))]
def a78_28 : List AOper := [
 mV 91 0,
 mV 92 1,
 oP 93 (.call 117 [(.t 91), (.t 92)]),
 oP 94 (.extract (.t 93) 0),
 oP 95 (.extract (.t 93) 1),
 oN (.store 6 (.t 4) (.t 94)),
 mV 5 95]
def a78 : AFunc := ⟨[.cell 4 true 6, .tmp 5], (.seq (.ops a78_0) (.seq (.ops a78_1) (.seq (.seq (.ops a78_2) (.block 0 (.seq (.ops a78_3) (.cond (.t 13) (.seq (.seq (.ops a78_4) (.cond (.t 17) (.seq (.ops a78_5) .ret) .skip)) (.seq (.seq (.ops a78_6) (.cond (.t 21) (.seq (.ops a78_7) .ret) .skip)) (.seq (.ops a78_8) .ret))) (.seq (.ops a78_9) (.cond (.t 27) (.seq (.ops a78_10) .ret) (.seq (.ops a78_11) (.cond (.t 33) (.seq (.ops a78_12) (.seq (.ops a78_13) .ret)) (.seq (.ops a78_14) (.cond (.t 42) (.seq (.ops a78_15) .ret) (.seq (.ops a78_16) (.cond (.t 48) (.seq (.ops a78_17) .ret) (.seq (.ops a78_18) (.cond (.t 59) (.seq (.ops a78_19) .ret) (.seq (.ops a78_20) (.cond (.t 65) (.seq (.ops a78_21) .ret) (.seq (.ops a78_22) (.cond (.t 71) (.seq (.ops a78_23) .ret) (.seq (.ops a78_24) (.cond (.t 77) (.seq (.seq (.ops a78_25) (.cond (.t 86) (.seq (.ops a78_26) .ret) .skip)) (.seq (.ops a78_27) .ret)) .skip)))))))))))))))))))) (.seq (.ops a78_28) .ret))))⟩
def a83_0 : List AOper := [
 oP 2 (.box false 6 (.t 0)),
 oP 4 (.mv (.c (.bool false)))]
def a83_1 : List AOper := [
 mV 6 1,
 oP 7 (.call 119 [(.t 6)]),
 mV 5 7]
def a83_2 : List AOper := [
 mV 8 5,
 oP 9 (.idxAddr 1 (.t 8) (.c (.int .i64 0))),
 oP 10 (.load false 1 (.t 9)),
 mV 11 10,
 oG 12 (.fieldAddr 1 (.t 2)) 11 false,
 oG 13 (.load false 1 (.t 12)) 11 false,
 oG 14 (.bin .eql (.t 13) (.c (.int .i64 0))) 11 false,
 oP 15 (.pick (.t 11) (.c (.bool true)) (.t 14)),
 mV 16 15,
 oG 17 (.mv (.t 5)) 16 true,
 oG 18 (.idxAddr 1 (.t 17) (.c (.int .i64 1))) 16 true,
 oG 19 (.load false 1 (.t 18)) 16 true,
 oG 20 (.mv (.t 19)) 16 true,
 oG 21 (.fieldAddr 2 (.t 2)) 20 false,
 oG 22 (.load false 1 (.t 21)) 20 false,
 oG 23 (.bin .eql (.t 22) (.c (.str []))) 20 false,
 oG 24 (.pick (.t 20) (.c (.bool true)) (.t 23)) 16 true,
 oP 25 (.pick (.t 16) (.t 24) (.c (.bool false))),
 mV 26 25,
 oG 27 (.mv (.t 5)) 26 true,
 oG 28 (.idxAddr 1 (.t 27) (.c (.int .i64 2))) 26 true,
 oG 29 (.load false 1 (.t 28)) 26 true,
 oG 30 (.mv (.t 29)) 26 true,
 oG 31 (.fieldAddr 3 (.t 2)) 30 false,
 oG 32 (.load false 1 (.t 31)) 30 false,
 oG 33 (.bin .eql (.t 32) (.c (.int .u32 0))) 30 false,
 oG 34 (.pick (.t 30) (.c (.bool true)) (.t 33)) 26 true,
 oP 35 (.pick (.t 26) (.t 34) (.c (.bool false))),
 mV 36 35,
 oG 37 (.mv (.t 5)) 36 true,
 oG 38 (.idxAddr 1 (.t 37) (.c (.int .i64 3))) 36 true,
 oG 39 (.load false 1 (.t 38)) 36 true,
 oG 40 (.mv (.t 39)) 36 true,
 oG 41 (.fieldAddr 4 (.t 2)) 40 false,
 oG 42 (.load false 1 (.t 41)) 40 false,
 oG 43 (.len false (.t 42)) 40 false,
 oG 44 (.bin .eql (.t 43) (.c (.int .i64 0))) 40 false,
 oG 45 (.pick (.t 40) (.c (.bool true)) (.t 44)) 36 true,
 oP 46 (.pick (.t 36) (.t 45) (.c (.bool false))),
 mV 47 46,
 oG 48 (.mv (.t 5)) 47 true,
 oG 49 (.idxAddr 1 (.t 48) (.c (.int .i64 4))) 47 true,
 oG 50 (.load false 1 (.t 49)) 47 true,
 oG 51 (.mv (.t 50)) 47 true,
 oG 52 (.fieldAddr 5 (.t 2)) 51 false,
 oG 53 (.load false 1 (.t 52)) 51 false,
 oG 54 (.len false (.t 53)) 51 false,
 oG 55 (.bin .eql (.t 54) (.c (.int .i64 0))) 51 false,
 oG 56 (.pick (.t 51) (.c (.bool true)) (.t 55)) 47 true,
 oP 57 (.pick (.t 47) (.t 56) (.c (.bool false))),
 mV 4 57]
def a83 : AFunc := ⟨[.tmp 4], (.seq (.ops a83_0) (.seq (.ops a83_1) (.seq (.ops a83_2) .ret)))⟩
def a84_0 : List AOper := [
 oP 4 (.mv (.c .nils))]
def a84_1 : List AOper := [
 mV 5 0,
 mV 6 1,
 oP 7 (.call 73 [(.c (.str [97, 116, 111, 109])), (.t 5), (.t 6)]),
 mV 4 7]
def a84 : AFunc := ⟨[.tmp 4], (.seq (.ops a84_0) (.seq (.ops a84_1) .ret))⟩
def a85_0 : List AOper := [
 oP 2 (.mv (.c (.int .i64 0)))]
def a85_1 : List AOper := [
 oP 3 (.mv (.c (.int .i64 0)))]
def a85_2 : List AOper := [
 mV 5 3,
 mV 6 0,
 oP 7 (.len true (.t 6)),
 oP 8 (.bin .lss (.t 5) (.t 7))]
def a85_3 : List AOper := [
 mV 9 0,
 mV 10 3,
 oP 11 (.call 120 [(.t 9), (.t 10)]),
 mV 4 11]
def a85_4 : List AOper := [
 mV 12 4,
 oP 13 (.bin .eql (.t 12) (.c (.int .i64 0)))]
def a85_5 : List AOper := [
 mV 14 3,
 mV 2 14]
def a85_6 : List AOper := [
 mV 15 3,
 mV 16 4,
 oP 17 (.bin .add (.t 15) (.t 16)),
 mV 3 17]
def a85_l7 : AC := (.seq (.seq (.ops a85_2) (.cond (.t 8) .skip (.exit 0))) (.block 1 (.seq (.ops a85_3) (.seq (.seq (.ops a85_4) (.cond (.t 13) (.seq (.ops a85_5) .ret) .skip)) (.ops a85_6)))))
def a85_8 : List AOper := [
 oP 2 (.mv (.c (.int .i64 (-1))))]
def a85 : AFunc := ⟨[.tmp 2], (.seq (.ops a85_0) (.seq (.ops a85_1) (.seq (.block 0 (.loop a85_l7)) (.seq (.ops a85_8) .ret))))⟩
def a86_0 : List AOper := [
 oP 2 (.mv (.c (.bool false)))]
def a86_1 : List AOper := [
 mV 4 0,
 oP 5 (.bin .eql (.t 4) (.c (.str []))),
 mV 6 5,
 oG 7 (.mv (.t 0)) 6 false,
 oG 8 (.idxStr (.t 7) (.c (.int .i64 0))) 6 false,
 oG 9 (.call 121 [(.t 8)]) 6 false,
 oG 10 (.un .not (.t 9)) 6 false,
 oP 11 (.pick (.t 6) (.c (.bool true)) (.t 10)),
 mV 12 11,
 oG 13 (.mv (.t 0)) 12 false,
 oG 14 (.call 122 [(.t 13)]) 12 false,
 oP 15 (.pick (.t 12) (.c (.bool true)) (.t 14))]
def a86_2 : List AOper := [
 oP 2 (.mv (.c (.bool false)))]
def a86_3 : List AOper := [
 oP 3 (.mv (.c (.int .i64 0)))]
def a86_4 : List AOper := [
 mV 16 3,
 mV 17 0,
 oP 18 (.len true (.t 17)),
 oP 19 (.bin .lss (.t 16) (.t 18))]
def a86_5 : List AOper := [
 mV 22 0,
 mV 23 3,
 oP 24 (.idxStr (.t 22) (.t 23)),
 oP 25 (.call 87 [(.t 24)]),
 oP 26 (.un .not (.t 25))]
def a86_6 : List AOper := [
 oP 2 (.mv (.c (.bool false)))]
def a86_7 : List AOper := [
 mV 20 3,
 oP 21 (.bin .add (.t 20) (.c (.int .i64 1))),
 mV 3 21]
def a86_l8 : AC := (.seq (.seq (.ops a86_4) (.cond (.t 19) .skip (.exit 0))) (.seq (.block 1 (.seq (.ops a86_5) (.cond (.t 26) (.seq (.ops a86_6) .ret) .skip))) (.ops a86_7)))
def a86_9 : List AOper := [
 oP 2 (.mv (.c (.bool true)))]
def a86 : AFunc := ⟨[.tmp 2], (.seq (.ops a86_0) (.seq (.seq (.ops a86_1) (.cond (.t 15) (.seq (.ops a86_2) .ret) .skip)) (.seq (.seq (.ops a86_3) (.block 0 (.loop a86_l8))) (.seq (.ops a86_9) .ret))))⟩
def a87_0 : List AOper := [
 oP 2 (.mv (.c (.bool false)))]
def a87_1 : List AOper := [
 mV 3 0,
 oP 4 (.call 121 [(.t 3)]),
 mV 5 4,
 oG 6 (.mv (.t 0)) 5 false,
 oG 7 (.bin .geq (.t 6) (.c (.int .u8 65))) 5 false,
 oG 8 (.mv (.t 7)) 5 false,
 oG 9 (.mv (.t 0)) 8 true,
 oG 10 (.bin .leq (.t 9) (.c (.int .u8 90))) 8 true,
 oG 11 (.pick (.t 8) (.t 10) (.c (.bool false))) 5 false,
 oP 12 (.pick (.t 5) (.c (.bool true)) (.t 11)),
 mV 13 12,
 oG 14 (.mv (.t 0)) 13 false,
 oG 15 (.bin .geq (.t 14) (.c (.int .u8 48))) 13 false,
 oG 16 (.mv (.t 15)) 13 false,
 oG 17 (.mv (.t 0)) 16 true,
 oG 18 (.bin .leq (.t 17) (.c (.int .u8 57))) 16 true,
 oG 19 (.pick (.t 16) (.t 18) (.c (.bool false))) 13 false,
 oP 20 (.pick (.t 13) (.c (.bool true)) (.t 19)),
 mV 21 20,
 oG 22 (.mv (.t 0)) 21 false,
 oG 23 (.bin .eql (.t 22) (.c (.int .u8 95))) 21 false,
 oP 24 (.pick (.t 21) (.c (.bool true)) (.t 23)),
 mV 25 24,
 oG 26 (.mv (.t 0)) 25 false,
 oG 27 (.bin .eql (.t 26) (.c (.int .u8 64))) 25 false,
 oP 28 (.pick (.t 25) (.c (.bool true)) (.t 27)),
 mV 2 28]
def a87 : AFunc := ⟨[.tmp 2], (.seq (.ops a87_0) (.seq (.ops a87_1) .ret))⟩
def a90_0 : List AOper := [
 oP 4 (.mv (.c (.int .i64 0)))]
def a90_1 : List AOper := [
 mV 7 0,
 oP 8 (.call 125 [(.t 7)]),
 mV 5 8]
def a90_2 : List AOper := [
 mV 9 1,
 oP 10 (.call 125 [(.t 9)]),
 mV 6 10]
def a90_3 : List AOper := [
 mV 11 5]
def a90_4 : List AOper := [
 mV 12 6]
def a90_5 : List AOper := [
 oP 4 (.mv (.c (.int .i64 0)))]
def a90_6 : List AOper := [
 oP 4 (.mv (.c (.int .i64 (-1))))]
def a90_7 : List AOper := [
 mV 13 6]
def a90_8 : List AOper := [
 oP 4 (.mv (.c (.int .i64 1)))]
def a90_9 : List AOper := [
 mV 14 0,
 mV 15 1,
 oP 16 (.bin .lss (.t 14) (.t 15))]
def a90_10 : List AOper := [
 oP 4 (.mv (.c (.int .i64 (-1))))]
def a90_11 : List AOper := [
 mV 17 0,
 mV 18 1,
 oP 19 (.bin .gtr (.t 17) (.t 18))]
def a90_12 : List AOper := [
 oP 4 (.mv (.c (.int .i64 1)))]
def a90_13 : List AOper := [
 oP 4 (.mv (.c (.int .i64 0)))]
def a90 : AFunc := ⟨[.tmp 4], (.seq (.ops a90_0) (.seq (.ops a90_1) (.seq (.ops a90_2) (.seq (.seq (.ops a90_3) (.cond (.t 11) (.seq (.seq (.ops a90_4) (.cond (.t 12) (.seq (.ops a90_5) .ret) .skip)) (.seq (.ops a90_6) .ret)) .skip)) (.seq (.seq (.ops a90_7) (.cond (.t 13) (.seq (.ops a90_8) .ret) .skip)) (.seq (.seq (.ops a90_9) (.cond (.t 16) (.seq (.ops a90_10) .ret) .skip)) (.seq (.seq (.ops a90_11) (.cond (.t 19) (.seq (.ops a90_12) .ret) .skip)) (.seq (.ops a90_13) .ret))))))))⟩
def a97_0 : List AOper := [
 oP 4 (.box false 6 (.t 1)),
 oP 6 (.mv (.c .nili))]
def a97_1 : List AOper := [
 mV 12 0,
 oP 13 (.nilCheck (.t 12)),
 oP 14 (.fieldAddr 0 (.t 13)),
 oP 15 (.load false 1 (.t 14)),
 mV 7 15]
def a97_2 : List AOper := [
 mV 17 7,
 oP 18 (.bin .eql (.t 17) (.c (.int .i64 4096))),
 mV 16 18]
def a97_3 : List AOper := [
 mV 19 7,
 oP 20 (.call 129 [(.t 19), (.c (.int .i64 5)), (.c .nili)]),
 mV 6 20]
def a97_4 : List AOper := [
 mV 22 2,
 oP 23 (.bin .gtr (.t 22) (.c (.int .i64 256))),
 mV 21 23]
def a97_5 : List AOper := [
 mV 24 7,
 oP 25 (.call 129 [(.t 24), (.c (.int .i64 9)), (.c .nili)]),
 mV 6 25]
def a97_6 : List AOper := [
 oP 26 (.load true 6 (.t 4)),
 mV 27 7,
 oP 28 (.call 130 [(.t 26), (.t 27)]),
 mV 8 28]
def a97_7 : List AOper := [
 mV 29 8,
 oP 30 (.eq true (.iface true) (.t 29) (.c .nili))]
def a97_8 : List AOper := [
 mV 31 8,
 mV 6 31]
def a97_9 : List AOper := [
 mV 32 0,
 oP 33 (.nilCheck (.t 32)),
 oP 34 (.fieldAddr 0 (.t 33)),
 oP 35 (.load false 1 (.t 34)),
 oP 36 (.bin .add (.t 35) (.c (.int .i64 1))),
 oP 37 (.nilCheck (.t 32)),
 oP 38 (.fieldAddr 0 (.t 37)),
 oN (.store 1 (.t 38) (.t 36))]
def a97_10 : List AOper := [
 mV 39 0,
 mV 40 0,
 oP 41 (.nilCheck (.t 40)),
 oP 42 (.fieldAddr 1 (.t 41)),
 oP 43 (.load false 1 (.t 42)),
 mV 44 2,
 oP 45 (.minmax true (.t 43) (.t 44)),
 oP 46 (.nilCheck (.t 39)),
 oP 47 (.fieldAddr 1 (.t 46)),
 oN (.store 1 (.t 47) (.t 45))]
def a97_11 : List AOper := [
 oP 48 (.fieldAddr 5 (.t 4)),
 oP 49 (.load false 1 (.t 48)),
 oP 50 (.len false (.t 49)),
 oP 51 (.mv (.c (.int .i64 0)))]
def a97_12 : List AOper := [
 oP 52 (.bin .lss (.t 51) (.t 50))]
def a97_13 : List AOper := [
 oP 53 (.idxAddr 6 (.t 49) (.t 51)),
 oP 54 (.load true 6 (.t 53)),
 oP 10 (.alloc [(.int .i64 0), (.int .i64 0), (.str []), (.int .u32 0), .nils, .nils]),
 oN (.store 6 (.t 10) (.t 54))]
def a97_14 : List AOper := [
 mV 55 0,
 oP 56 (.load true 6 (.t 10)),
 mV 57 2,
 oP 58 (.bin .add (.t 57) (.c (.int .i64 1))),
 oP 59 (.call 97 [(.t 55), (.t 56), (.t 58)]),
 mV 11 59]
def a97_15 : List AOper := [
 mV 60 11,
 oP 61 (.eq true (.iface true) (.t 60) (.c .nili))]
def a97_16 : List AOper := [
 mV 62 11,
 mV 6 62]
def a97_17 : List AOper := [
 oP 63 (.bin .add (.t 51) (.c (.int .i64 1))),
 mV 51 63]
def a97_l18 : AC := (.seq (.ops a97_12) (.seq (.cond (.t 52) .skip (.exit 1)) (.seq (.block 2 (.seq (.ops a97_13) (.seq (.ops a97_14) (.seq (.ops a97_15) (.cond (.t 61) (.seq (.ops a97_16) .ret) .skip))))) (.ops a97_17))))
def a97_19 : List AOper := [
 oP 6 (.mv (.c .nili))]
def a97 : AFunc := ⟨[.tmp 6], (.seq (.ops a97_0) (.seq (.ops a97_1) (.seq (.block 0 (.seq (.ops a97_2) (.cond (.t 16) (.seq (.ops a97_3) .ret) (.seq (.ops a97_4) (.cond (.t 21) (.seq (.ops a97_5) .ret) .skip))))) (.seq (.seq (.ops a97_6) (.seq (.ops a97_7) (.cond (.t 30) (.seq (.ops a97_8) .ret) .skip))) (.seq (.ops a97_9) (.seq (.ops a97_10) (.seq (.seq (.ops a97_11) (.block 1 (.loop a97_l18))) (.seq (.ops a97_19) .ret))))))))⟩
def a102_0 : List AOper := [
 oP 1 (.box false 6 (.t 0)),
 oP 2 (.mv (.c .nils)),
 oP 3 (.mv (.c (.bool false)))]
def a102_1 : List AOper := [
 oP 5 (.fieldAddr 5 (.t 1)),
 oP 6 (.load false 1 (.t 5)),
 oP 7 (.len false (.t 6)),
 oP 8 (.bin .sub (.t 7) (.c (.int .i64 1))),
 mV 4 8]
def a102_2 : List AOper := [
 oP 10 (.fieldAddr 0 (.t 1)),
 oP 11 (.load false 1 (.t 10)),
 oP 12 (.bin .eql (.t 11) (.c (.int .i64 6))),
 mV 9 12]
def a102_3 : List AOper := [
 oP 2 (.mv (.c .nils)),
 oP 3 (.mv (.c (.bool true)))]
def a102_4 : List AOper := [
 oP 14 (.fieldAddr 0 (.t 1)),
 oP 15 (.load false 1 (.t 14)),
 oP 16 (.bin .eql (.t 15) (.c (.int .i64 7))),
 mV 17 16,
 oG 18 (.fieldAddr 5 (.t 1)) 17 true,
 oG 19 (.load false 1 (.t 18)) 17 true,
 oG 20 (.mv (.t 4)) 17 true,
 oG 21 (.idxAddr 6 (.t 19) (.t 20)) 17 true,
 oG 22 (.fieldAddr 0 (.t 21)) 17 true,
 oG 23 (.load false 1 (.t 22)) 17 true,
 oG 24 (.bin .eql (.t 23) (.c (.int .i64 6))) 17 true,
 oP 25 (.pick (.t 17) (.t 24) (.c (.bool false))),
 mV 13 25]
def a102_5 : List AOper := [
 oP 26 (.fieldAddr 5 (.t 1)),
 oP 27 (.load false 1 (.t 26)),
 mV 28 4,
 mV 29 4,
 oP 30 (.slice 6 (.t 27) none (some (.t 28)) (some (.t 29))),
 mV 2 30,
 oP 3 (.mv (.c (.bool true)))]
def a102_6 : List AOper := [
 oP 2 (.mv (.c .nils)),
 oP 3 (.mv (.c (.bool false)))]
def a102 : AFunc := ⟨[.tmp 2, .tmp 3], (.seq (.ops a102_0) (.seq (.seq (.ops a102_1) (.block 0 (.seq (.ops a102_2) (.cond (.t 9) (.seq (.ops a102_3) .ret) (.seq (.ops a102_4) (.cond (.t 13) (.seq (.ops a102_5) .ret) .skip)))))) (.seq (.ops a102_6) .ret)))⟩
def a103_0 : List AOper := [
 oP 3 (.box false 6 (.t 1)),
 oP 4 (.alloc [(.int .i64 0), (.int .i64 0), (.str []), (.int .u32 0), .nils, .nils])]
def a103_1 : List AOper := [
 mV 6 0,
 oP 7 (.len false (.t 6)),
 oP 8 (.bin .eql (.t 7) (.c (.int .i64 0))),
 mV 5 8]
def a103_2 : List AOper := [
 oP 9 (.load true 6 (.t 3)),
 oN (.store 6 (.t 4) (.t 9))]
def a103_3 : List AOper := [
 oP 11 (.fieldAddr 0 (.t 3)),
 oP 12 (.load false 1 (.t 11)),
 oP 13 (.bin .eql (.t 12) (.c (.int .i64 7))),
 mV 10 13]
def a103_4 : List AOper := [
 mV 14 0,
 oP 15 (.fieldAddr 5 (.t 3)),
 oP 16 (.load false 1 (.t 15)),
 oP 17 (.lit true 1 2 [.nils, .nils] [(0, 1, (.t 14)), (1, 1, (.t 16))]),
 oP 18 (.call 131 [(.t 17)]),
 oP 19 (.build [(.int .i64 0), (.int .i64 0), (.str []), (.int .u32 0), .nils, .nils] [(0, 1, (.c (.int .i64 7))), (5, 1, (.t 18))]),
 oN (.store 6 (.t 4) (.t 19))]
def a103_5 : List AOper := [
 mV 20 0,
 oP 21 (.call 104 [(.t 20)]),
 oP 22 (.load true 6 (.t 3)),
 oP 23 (.lit true 6 1 [(.int .i64 0), (.int .i64 0), (.str []), (.int .u32 0), .nils, .nils] [(0, 6, (.t 22))]),
 oP 24 (.append 6 88 (.t 21) (.t 23)),
 oP 25 (.build [(.int .i64 0), (.int .i64 0), (.str []), (.int .u32 0), .nils, .nils] [(0, 1, (.c (.int .i64 7))), (5, 1, (.t 24))]),
 oN (.store 6 (.t 4) (.t 25))]
def a103_5b : List Nat := [0, 1, 0, 4, 15, 31, 63]
def a103 : AFunc := ⟨[.cell 4 true 6], (.seq (.ops a103_0) (.seq (.block 0 (.seq (.ops a103_1) (.cond (.t 5) (.seq (.ops a103_2) .ret) (.seq (.ops a103_3) (.cond (.t 10) (.seq (.ops a103_4) .ret) .skip))))) (.seq (.draw a103_5 a103_5b) .ret)))⟩
def a104_0 : List AOper := [
 oP 2 (.mv (.c .nils))]
def a104_1 : List AOper := [
 mV 3 0,
 oP 4 (.eq false .slice (.t 3) (.c .nils))]
def a104_2 : List AOper := [
 oP 2 (.mv (.c .nils))]
def a104_3 : List AOper := [
 oP 5 (.lit true 6 0 [] []),
 mV 6 0,
 oP 7 (.append 6 88 (.t 5) (.t 6)),
 mV 2 7]
def a104 : AFunc := ⟨[.tmp 2], (.seq (.ops a104_0) (.seq (.seq (.ops a104_1) (.cond (.t 4) (.seq (.ops a104_2) .ret) .skip)) (.seq (.ops a104_3) .ret)))⟩
def a108_0 : List AOper := [
 oP 0 (.alloc [(.int .i64 0), (.int .i64 0), (.str []), (.int .u32 0), .nils, .nils])]
def a108_1 : List AOper := [
 oP 1 (.build [(.int .i64 0), (.int .i64 0), (.str []), (.int .u32 0), .nils, .nils] [(0, 1, (.c (.int .i64 6)))]),
 oN (.store 6 (.t 0) (.t 1))]
def a108 : AFunc := ⟨[.cell 0 true 6], (.seq (.ops a108_0) (.seq (.ops a108_1) .ret))⟩
def a109_0 : List AOper := [
 oP 4 (.mv (.c (.bool false)))]
def a109_1 : List AOper := [
 mV 5 0,
 oP 6 (.len true (.t 5)),
 mV 7 1,
 oP 8 (.len true (.t 7)),
 oP 9 (.bin .geq (.t 6) (.t 8)),
 mV 10 9,
 oG 11 (.mv (.t 0)) 10 true,
 oG 12 (.mv (.t 1)) 10 true,
 oG 13 (.len true (.t 12)) 10 true,
 oG 14 (.sliceStr (.t 11) none (some (.t 13))) 10 true,
 oG 15 (.mv (.t 1)) 10 true,
 oG 16 (.bin .eql (.t 14) (.t 15)) 10 true,
 oP 17 (.pick (.t 10) (.t 16) (.c (.bool false))),
 mV 4 17]
def a109 : AFunc := ⟨[.tmp 4], (.seq (.ops a109_0) (.seq (.ops a109_1) .ret))⟩
def a110_0 : List AOper := [
 oP 2 (.box false 6 (.t 0)),
 oP 3 (.box false 6 (.t 1)),
 oP 4 (.mv (.c (.int .i64 0)))]
def a110_1 : List AOper := [
 oP 5 (.fieldAddr 0 (.t 2)),
 oP 6 (.load false 1 (.t 5)),
 oP 7 (.bin .neq (.t 6) (.c (.int .i64 1))),
 mV 8 7,
 oG 9 (.fieldAddr 0 (.t 3)) 8 false,
 oG 10 (.load false 1 (.t 9)) 8 false,
 oG 11 (.bin .neq (.t 10) (.c (.int .i64 5))) 8 false,
 oP 12 (.pick (.t 8) (.c (.bool true)) (.t 11)),
 mV 13 12,
 oG 14 (.fieldAddr 1 (.t 2)) 13 false,
 oG 15 (.load false 1 (.t 14)) 13 false,
 oG 16 (.bin .lss (.t 15) (.c (.int .i64 1))) 13 false,
 oP 17 (.pick (.t 13) (.c (.bool true)) (.t 16)),
 mV 18 17,
 oG 19 (.fieldAddr 1 (.t 2)) 18 false,
 oG 20 (.load false 1 (.t 19)) 18 false,
 oG 21 (.fieldAddr 5 (.t 3)) 18 false,
 oG 22 (.load false 1 (.t 21)) 18 false,
 oG 23 (.len false (.t 22)) 18 false,
 oG 24 (.bin .gtr (.t 20) (.t 23)) 18 false,
 oP 25 (.pick (.t 18) (.c (.bool true)) (.t 24))]
def a110_2 : List AOper := [
 oP 4 (.mv (.c (.int .i64 (-1))))]
def a110_3 : List AOper := [
 oP 26 (.fieldAddr 1 (.t 2)),
 oP 27 (.load false 1 (.t 26)),
 oP 28 (.bin .sub (.t 27) (.c (.int .i64 1))),
 mV 4 28]
def a110 : AFunc := ⟨[.tmp 4], (.seq (.ops a110_0) (.seq (.seq (.ops a110_1) (.cond (.t 25) (.seq (.ops a110_2) .ret) .skip)) (.seq (.ops a110_3) .ret)))⟩
def a111_0 : List AOper := [
 oP 1 (.box false 6 (.t 0)),
 oP 2 (.alloc [(.int .i64 0), (.int .i64 0), (.str []), (.int .u32 0), .nils, .nils]),
 oP 3 (.alloc [(.int .i64 0), (.int .i64 0), (.str []), (.int .u32 0), .nils, .nils]),
 oP 4 (.mv (.c (.bool false)))]
def a111_1 : List AOper := [
 oP 6 (.fieldAddr 0 (.t 1)),
 oP 7 (.load false 1 (.t 6)),
 oP 8 (.bin .neq (.t 7) (.c (.int .i64 7))),
 mV 9 8,
 oG 10 (.fieldAddr 5 (.t 1)) 9 false,
 oG 11 (.load false 1 (.t 10)) 9 false,
 oG 12 (.len false (.t 11)) 9 false,
 oG 13 (.bin .lss (.t 12) (.c (.int .i64 2))) 9 false,
 oP 14 (.pick (.t 9) (.c (.bool true)) (.t 13))]
def a111_2 : List AOper := [
 oP 15 (.build [(.int .i64 0), (.int .i64 0), (.str []), (.int .u32 0), .nils, .nils] []),
 oP 16 (.build [(.int .i64 0), (.int .i64 0), (.str []), (.int .u32 0), .nils, .nils] []),
 oN (.store 6 (.t 2) (.t 15)),
 oN (.store 6 (.t 3) (.t 16)),
 oP 4 (.mv (.c (.bool false)))]
def a111_3 : List AOper := [
 oP 17 (.load true 6 (.t 1)),
 oP 18 (.call 39 [(.t 17)]),
 oP 5 (.alloc [(.int .i64 0), (.int .i64 0), (.str []), (.int .u32 0), .nils, .nils]),
 oN (.store 6 (.t 5) (.t 18))]
def a111_4 : List AOper := [
 oP 19 (.fieldAddr 5 (.t 5)),
 oP 20 (.load false 1 (.t 19)),
 oP 21 (.len false (.t 20)),
 oP 22 (.bin .eql (.t 21) (.c (.int .i64 2)))]
def a111_5 : List AOper := [
 oP 23 (.fieldAddr 5 (.t 5)),
 oP 24 (.load false 1 (.t 23)),
 oP 25 (.idxAddr 6 (.t 24) (.c (.int .i64 0))),
 oP 26 (.load true 6 (.t 25)),
 oP 27 (.fieldAddr 5 (.t 5)),
 oP 28 (.load false 1 (.t 27)),
 oP 29 (.idxAddr 6 (.t 28) (.c (.int .i64 1))),
 oP 30 (.load true 6 (.t 29)),
 oN (.store 6 (.t 2) (.t 26)),
 oN (.store 6 (.t 3) (.t 30)),
 oP 4 (.mv (.c (.bool true)))]
def a111_5b : List Nat := [0, 1, 3, 7, 0, 16, 48, 112, 15, 511, 1023]
def a111_6 : List AOper := [
 oP 31 (.fieldAddr 5 (.t 5)),
 oP 32 (.load false 1 (.t 31)),
 oP 33 (.idxAddr 6 (.t 32) (.c (.int .i64 0))),
 oP 34 (.load true 6 (.t 33)),
 oP 35 (.fieldAddr 5 (.t 5)),
 oP 36 (.load false 1 (.t 35)),
 oP 37 (.slice 6 (.t 36) (some (.c (.int .i64 1))) none none),
 oP 38 (.build [(.int .i64 0), (.int .i64 0), (.str []), (.int .u32 0), .nils, .nils] [(0, 1, (.c (.int .i64 7))), (5, 1, (.t 37))]),
 oN (.store 6 (.t 2) (.t 34)),
 oN (.store 6 (.t 3) (.t 38)),
 oP 4 (.mv (.c (.bool true)))]
def a111_6b : List Nat := [0, 1, 3, 7, 0, 16, 48, 112, 15, 511, 1023]
def a111 : AFunc := ⟨[.cell 2 true 6, .cell 3 true 6, .tmp 4], (.seq (.ops a111_0) (.seq (.seq (.ops a111_1) (.cond (.t 14) (.seq (.ops a111_2) .ret) .skip)) (.seq (.ops a111_3) (.seq (.seq (.ops a111_4) (.cond (.t 22) (.seq (.draw a111_5 a111_5b) .ret) .skip)) (.seq (.draw a111_6 a111_6b) .ret)))))⟩
def a116_0 : List AOper := [
 oP 1 (.box false 6 (.t 0)),
 oP 2 (.mv (.c .nils)),
 oP 3 (.mv (.c (.bool false)))]
def a116_1 : List AOper := [
 oP 4 (.fieldAddr 0 (.t 1)),
 oP 5 (.load false 1 (.t 4)),
 oP 6 (.bin .eql (.t 5) (.c (.int .i64 6)))]
def a116_2 : List AOper := [
 oP 2 (.mv (.c .nils)),
 oP 3 (.mv (.c (.bool true)))]
def a116_3 : List AOper := [
 oP 7 (.fieldAddr 0 (.t 1)),
 oP 8 (.load false 1 (.t 7)),
 oP 9 (.bin .neq (.t 8) (.c (.int .i64 7))),
 mV 10 9,
 oG 11 (.fieldAddr 5 (.t 1)) 10 false,
 oG 12 (.load false 1 (.t 11)) 10 false,
 oG 13 (.fieldAddr 5 (.t 1)) 10 false,
 oG 14 (.load false 1 (.t 13)) 10 false,
 oG 15 (.len false (.t 14)) 10 false,
 oG 16 (.bin .sub (.t 15) (.c (.int .i64 1))) 10 false,
 oG 17 (.idxAddr 6 (.t 12) (.t 16)) 10 false,
 oG 18 (.fieldAddr 0 (.t 17)) 10 false,
 oG 19 (.load false 1 (.t 18)) 10 false,
 oG 20 (.bin .neq (.t 19) (.c (.int .i64 6))) 10 false,
 oP 21 (.pick (.t 10) (.c (.bool true)) (.t 20))]
def a116_4 : List AOper := [
 oP 2 (.mv (.c .nils)),
 oP 3 (.mv (.c (.bool false)))]
def a116_5 : List AOper := [
 oP 22 (.fieldAddr 5 (.t 1)),
 oP 23 (.load false 1 (.t 22)),
 oP 24 (.fieldAddr 5 (.t 1)),
 oP 25 (.load false 1 (.t 24)),
 oP 26 (.len false (.t 25)),
 oP 27 (.bin .sub (.t 26) (.c (.int .i64 1))),
 oP 28 (.slice 6 (.t 23) none (some (.t 27)) none),
 mV 2 28,
 oP 3 (.mv (.c (.bool true)))]
def a116 : AFunc := ⟨[.tmp 2, .tmp 3], (.seq (.ops a116_0) (.seq (.seq (.ops a116_1) (.cond (.t 6) (.seq (.ops a116_2) .ret) .skip)) (.seq (.seq (.ops a116_3) (.cond (.t 21) (.seq (.ops a116_4) .ret) .skip)) (.seq (.ops a116_5) .ret))))⟩
def a117_0 : List AOper := [
 oP 4 (.alloc [(.int .i64 0), (.int .i64 0), (.str []), (.int .u32 0), .nils, .nils]),
 oP 5 (.mv (.c (.int .i64 0)))]
def a117_1 : List AOper := [
 mV 11 1,
 oP 12 (.idxAddr 6 (.t 11) (.c (.int .i64 0))),
 oP 13 (.load true 6 (.t 12)),
 oP 6 (.alloc [(.int .i64 0), (.int .i64 0), (.str []), (.int .u32 0), .nils, .nils]),
 oN (.store 6 (.t 6) (.t 13))]
def a117_2 : List AOper := [
 oP 15 (.load true 6 (.t 6)),
 oP 16 (.call 116 [(.t 15)]),
 mV 14 16,
 oP 17 (.extract (.t 14) 0),
 oP 18 (.extract (.t 14) 1),
 mV 7 17,
 mV 8 18]
def a117_3 : List AOper := [
 mV 19 0]
def a117_4 : List AOper := [
 oP 21 (.bin .eql (.t 19) (.c (.str [104, 100]))),
 mV 20 21]
def a117_5 : List AOper := [
 oP 22 (.bin .eql (.t 19) (.c (.str [116, 108]))),
 mV 20 22]
def a117_6 : List AOper := [
 oP 23 (.fieldAddr 0 (.t 6)),
 oP 24 (.load false 1 (.t 23)),
 oP 25 (.bin .neq (.t 24) (.c (.int .i64 7)))]
def a117_7 : List AOper := [
 oP 26 (.build [(.int .i64 0), (.int .i64 0), (.str []), (.int .u32 0), .nils, .nils] []),
 oN (.store 6 (.t 4) (.t 26)),
 oP 5 (.mv (.c (.int .i64 261)))]
def a117_8 : List AOper := [
 mV 27 0,
 oP 28 (.bin .eql (.t 27) (.c (.str [104, 100])))]
def a117_9 : List AOper := [
 oP 29 (.fieldAddr 5 (.t 6)),
 oP 30 (.load false 1 (.t 29)),
 oP 31 (.idxAddr 6 (.t 30) (.c (.int .i64 0))),
 oP 32 (.load true 6 (.t 31)),
 oN (.store 6 (.t 4) (.t 32)),
 oP 5 (.mv (.c (.int .i64 0)))]
def a117_10 : List AOper := [
 oP 33 (.fieldAddr 5 (.t 6)),
 oP 34 (.load false 1 (.t 33)),
 oP 35 (.len false (.t 34)),
 oP 36 (.bin .eql (.t 35) (.c (.int .i64 2)))]
def a117_11 : List AOper := [
 oP 37 (.fieldAddr 5 (.t 6)),
 oP 38 (.load false 1 (.t 37)),
 oP 39 (.idxAddr 6 (.t 38) (.c (.int .i64 1))),
 oP 40 (.load true 6 (.t 39)),
 oN (.store 6 (.t 4) (.t 40)),
 oP 5 (.mv (.c (.int .i64 0)))]
def a117_12 : List AOper := [
 oP 41 (.fieldAddr 5 (.t 6)),
 oP 42 (.load false 1 (.t 41)),
 oP 43 (.slice 6 (.t 42) (some (.c (.int .i64 1))) none none),
 oP 44 (.build [(.int .i64 0), (.int .i64 0), (.str []), (.int .u32 0), .nils, .nils] [(0, 1, (.c (.int .i64 7))), (5, 1, (.t 43))]),
 oN (.store 6 (.t 4) (.t 44)),
 oP 5 (.mv (.c (.int .i64 0)))]
def a117_13 : List AOper := [
 oP 46 (.bin .eql (.t 19) (.c (.str [108, 101, 110, 103, 116, 104]))),
 mV 45 46]
def a117_14 : List AOper := [
 mV 47 8,
 oP 48 (.un .not (.t 47))]
def a117_15 : List AOper := [
 oP 49 (.build [(.int .i64 0), (.int .i64 0), (.str []), (.int .u32 0), .nils, .nils] []),
 oN (.store 6 (.t 4) (.t 49)),
 oP 5 (.mv (.c (.int .i64 261)))]
def a117_16 : List AOper := [
 mV 50 7,
 oP 51 (.len false (.t 50)),
 oP 52 (.call 22 [(.t 51)]),
 oN (.store 6 (.t 4) (.t 52)),
 oP 5 (.mv (.c (.int .i64 0)))]
def a117_17 : List AOper := [
 oP 54 (.bin .eql (.t 19) (.c (.str [108, 105, 115, 116, 95, 116, 111, 95, 116, 117, 112, 108, 101]))),
 mV 53 54]
def a117_18 : List AOper := [
 mV 55 8,
 oP 56 (.un .not (.t 55))]
def a117_19 : List AOper := [
 oP 57 (.build [(.int .i64 0), (.int .i64 0), (.str []), (.int .u32 0), .nils, .nils] []),
 oN (.store 6 (.t 4) (.t 57)),
 oP 5 (.mv (.c (.int .i64 261)))]
def a117_20 : List AOper := [
 mV 58 7,
 oP 59 (.build [(.int .i64 0), (.int .i64 0), (.str []), (.int .u32 0), .nils, .nils] [(0, 1, (.c (.int .i64 5))), (5, 1, (.t 58))]),
 oN (.store 6 (.t 4) (.t 59)),
 oP 5 (.mv (.c (.int .i64 0)))]
def a117_21 : List AOper := [
 oP 61 (.bin .eql (.t 19) (.c (.str [116, 117, 112, 108, 101, 95, 115, 105, 122, 101]))),
 mV 60 61]
def a117_22 : List AOper := [
 oP 62 (.bin .eql (.t 19) (.c (.str [116, 117, 112, 108, 101, 95, 116, 111, 95, 108, 105, 115, 116]))),
 mV 60 62]
def a117_23 : List AOper := [
 oP 63 (.fieldAddr 0 (.t 6)),
 oP 64 (.load false 1 (.t 63)),
 oP 65 (.bin .neq (.t 64) (.c (.int .i64 5)))]
def a117_24 : List AOper := [
 oP 66 (.build [(.int .i64 0), (.int .i64 0), (.str []), (.int .u32 0), .nils, .nils] []),
 oN (.store 6 (.t 4) (.t 66)),
 oP 5 (.mv (.c (.int .i64 261)))]
def a117_25 : List AOper := [
 mV 67 0,
 oP 68 (.bin .eql (.t 67) (.c (.str [116, 117, 112, 108, 101, 95, 115, 105, 122, 101])))]
def a117_26 : List AOper := [
 oP 69 (.fieldAddr 5 (.t 6)),
 oP 70 (.load false 1 (.t 69)),
 oP 71 (.len false (.t 70)),
 oP 72 (.call 22 [(.t 71)]),
 oN (.store 6 (.t 4) (.t 72)),
 oP 5 (.mv (.c (.int .i64 0)))]
def a117_27 : List AOper := [
 oP 73 (.fieldAddr 5 (.t 6)),
 oP 74 (.load false 1 (.t 73)),
 oP 75 (.build [(.int .i64 0), (.int .i64 0), (.str []), (.int .u32 0), .nils, .nils] [(0, 1, (.c (.int .i64 6)))]),
 oP 76 (.call 41 [(.t 74), (.t 75)]),
 oN (.store 6 (.t 4) (.t 76)),
 oP 5 (.mv (.c (.int .i64 0)))]
def a117_28 : List AOper := [
 mV 77 1,
 oP 78 (.len false (.t 77)),
 oP 79 (.bin .eql (.t 78) (.c (.int .i64 1)))]
def a117_29 : List AOper := [
 mV 80 0,
 oP 81 (.load true 6 (.t 6)),
 mV 82 7,
 mV 83 8,
 oP 84 (.call 136 [(.t 80), (.t 81), (.t 82), (.t 83)]),
 oP 85 (.extract (.t 84) 0),
 oP 86 (.extract (.t 84) 1),
 oN (.store 6 (.t 4) (.t 85)),
 mV 5 86]
def a117_30 : List AOper := [
 mV 87 1,
 oP 88 (.idxAddr 6 (.t 87) (.c (.int .i64 1))),
 oP 89 (.load true 6 (.t 88)),
 oP 9 (.alloc [(.int .i64 0), (.int .i64 0), (.str []), (.int .u32 0), .nils, .nils]),
 oN (.store 6 (.t 9) (.t 89))]
def a117_31 : List AOper := [
 oP 90 (.fieldAddr 0 (.t 6)),
 oP 91 (.load false 1 (.t 90)),
 oP 92 (.bin .neq (.t 91) (.c (.int .i64 1))),
 mV 93 92,
 oG 94 (.fieldAddr 0 (.t 9)) 93 false,
 oG 95 (.load false 1 (.t 94)) 93 false,
 oG 96 (.bin .neq (.t 95) (.c (.int .i64 5))) 93 false,
 oP 97 (.pick (.t 93) (.c (.bool true)) (.t 96)),
 mV 98 97,
 oG 99 (.fieldAddr 1 (.t 6)) 98 false,
 oG 100 (.load false 1 (.t 99)) 98 false,
 oG 101 (.bin .lss (.t 100) (.c (.int .i64 1))) 98 false,
 oP 102 (.pick (.t 98) (.c (.bool true)) (.t 101)),
 mV 103 102,
 oG 104 (.fieldAddr 1 (.t 6)) 103 false,
 oG 105 (.load false 1 (.t 104)) 103 false,
 oG 106 (.fieldAddr 5 (.t 9)) 103 false,
 oG 107 (.load false 1 (.t 106)) 103 false,
 oG 108 (.len false (.t 107)) 103 false,
 oG 109 (.bin .gtr (.t 105) (.t 108)) 103 false,
 oP 110 (.pick (.t 103) (.c (.bool true)) (.t 109))]
def a117_32 : List AOper := [
 oP 111 (.build [(.int .i64 0), (.int .i64 0), (.str []), (.int .u32 0), .nils, .nils] []),
 oN (.store 6 (.t 4) (.t 111)),
 oP 5 (.mv (.c (.int .i64 261)))]
def a117_33 : List AOper := [
 mV 112 0,
 oP 113 (.bin .eql (.t 112) (.c (.str [101, 108, 101, 109, 101, 110, 116])))]
def a117_34 : List AOper := [
 oP 114 (.fieldAddr 5 (.t 9)),
 oP 115 (.load false 1 (.t 114)),
 oP 116 (.fieldAddr 1 (.t 6)),
 oP 117 (.load false 1 (.t 116)),
 oP 118 (.bin .sub (.t 117) (.c (.int .i64 1))),
 oP 119 (.idxAddr 6 (.t 115) (.t 118)),
 oP 120 (.load true 6 (.t 119)),
 oN (.store 6 (.t 4) (.t 120)),
 oP 5 (.mv (.c (.int .i64 0)))]
def a117_35 : List AOper := [
 oP 121 (.lit true 6 0 [] []),
 oP 122 (.fieldAddr 5 (.t 9)),
 oP 123 (.load false 1 (.t 122)),
 oP 124 (.append 6 88 (.t 121) (.t 123)),
 mV 10 124]
def a117_36 : List AOper := [
 mV 125 10,
 oP 126 (.fieldAddr 1 (.t 6)),
 oP 127 (.load false 1 (.t 126)),
 oP 128 (.bin .sub (.t 127) (.c (.int .i64 1))),
 mV 129 1,
 oP 130 (.idxAddr 6 (.t 129) (.c (.int .i64 2))),
 oP 131 (.load true 6 (.t 130)),
 oP 132 (.idxAddr 6 (.t 125) (.t 128)),
 oN (.store 6 (.t 132) (.t 131))]
def a117_36b : List Nat := [0, 0, 2, 6, 0, 16, 48, 127, 255]
def a117_37 : List AOper := [
 mV 133 10,
 oP 134 (.build [(.int .i64 0), (.int .i64 0), (.str []), (.int .u32 0), .nils, .nils] [(0, 1, (.c (.int .i64 5))), (5, 1, (.t 133))]),
 oN (.store 6 (.t 4) (.t 134)),
 oP 5 (.mv (.c (.int .i64 0)))]
def a117 : AFunc := ⟨[.cell 4 true 6, .tmp 5], (.seq (.ops a117_0) (.seq (.ops a117_1) (.seq (.ops a117_2) (.seq (.seq (.ops a117_3) (.block 0 (.seq (.seq (.ops a117_4) (.cond (.t 20) .skip (.ops a117_5))) (.cond (.t 20) (.seq (.seq (.ops a117_6) (.cond (.t 25) (.seq (.ops a117_7) .ret) .skip)) (.seq (.seq (.ops a117_8) (.cond (.t 28) (.seq (.ops a117_9) .ret) .skip)) (.seq (.seq (.ops a117_10) (.cond (.t 36) (.seq (.ops a117_11) .ret) .skip)) (.seq (.ops a117_12) .ret)))) (.seq (.ops a117_13) (.cond (.t 45) (.seq (.seq (.ops a117_14) (.cond (.t 48) (.seq (.ops a117_15) .ret) .skip)) (.seq (.ops a117_16) .ret)) (.seq (.ops a117_17) (.cond (.t 53) (.seq (.seq (.ops a117_18) (.cond (.t 56) (.seq (.ops a117_19) .ret) .skip)) (.seq (.ops a117_20) .ret)) (.seq (.seq (.ops a117_21) (.cond (.t 60) .skip (.ops a117_22))) (.cond (.t 60) (.seq (.seq (.ops a117_23) (.cond (.t 65) (.seq (.ops a117_24) .ret) .skip)) (.seq (.seq (.ops a117_25) (.cond (.t 68) (.seq (.ops a117_26) .ret) .skip)) (.seq (.ops a117_27) .ret))) .skip)))))))))) (.seq (.seq (.ops a117_28) (.cond (.t 79) (.seq (.ops a117_29) .ret) .skip)) (.seq (.ops a117_30) (.seq (.seq (.ops a117_31) (.cond (.t 110) (.seq (.ops a117_32) .ret) .skip)) (.seq (.seq (.ops a117_33) (.cond (.t 113) (.seq (.ops a117_34) .ret) .skip)) (.seq (.ops a117_35) (.seq (.draw a117_36 a117_36b) (.seq (.ops a117_37) .ret)))))))))))⟩
def a119_0 : List AOper := [
 oP 2 (.mv (.c .nils))]
def a119_1 : List AOper := [
 oP 3 (.mv (.c (.str [105, 115, 99, 110, 97])))]
def a119_2 : List AOper := [
 oP 7 (.makeSlice 1 1 [(.bool false)] (.c (.int .i64 5)) (.c (.int .i64 5))),
 mV 4 7]
def a119_3 : List AOper := [
 oP 5 (.mv (.c (.int .i64 0)))]
def a119_4 : List AOper := [
 mV 8 5,
 oP 9 (.bin .lss (.t 8) (.c (.int .i64 5)))]
def a119_5 : List AOper := [
 oP 6 (.mv (.c (.int .i64 0)))]
def a119_6 : List AOper := [
 mV 12 6,
 mV 13 0,
 oP 14 (.len true (.t 13)),
 oP 15 (.bin .lss (.t 12) (.t 14))]
def a119_7 : List AOper := [
 mV 18 4,
 mV 19 5,
 mV 20 4,
 mV 21 5,
 oP 22 (.idxAddr 1 (.t 20) (.t 21)),
 oP 23 (.load false 1 (.t 22)),
 mV 24 23,
 oG 25 (.mv (.t 3)) 24 false,
 oG 26 (.mv (.t 5)) 24 false,
 oG 27 (.idxStr (.t 25) (.t 26)) 24 false,
 oG 28 (.mv (.t 0)) 24 false,
 oG 29 (.mv (.t 6)) 24 false,
 oG 30 (.idxStr (.t 28) (.t 29)) 24 false,
 oG 31 (.bin .eql (.t 27) (.t 30)) 24 false,
 oP 32 (.pick (.t 24) (.c (.bool true)) (.t 31)),
 oP 33 (.idxAddr 1 (.t 18) (.t 19)),
 oN (.store 1 (.t 33) (.t 32))]
def a119_7b : List Nat := [0, 0, 0, 0, 12, 28, 60, 124, 124, 508, 124, 124, 3196, 8188, 16380, 32767, 65535]
def a119_8 : List AOper := [
 mV 16 6,
 oP 17 (.bin .add (.t 16) (.c (.int .i64 1))),
 mV 6 17]
def a119_l9 : AC := (.seq (.seq (.ops a119_6) (.cond (.t 15) .skip (.exit 2))) (.seq (.block 3 (.draw a119_7 a119_7b)) (.ops a119_8)))
def a119_10 : List AOper := [
 mV 10 5,
 oP 11 (.bin .add (.t 10) (.c (.int .i64 1))),
 mV 5 11]
def a119_l11 : AC := (.seq (.seq (.ops a119_4) (.cond (.t 9) .skip (.exit 0))) (.seq (.block 1 (.seq (.ops a119_5) (.block 2 (.loop a119_l9)))) (.ops a119_10)))
def a119_12 : List AOper := [
 mV 34 4,
 mV 2 34]
def a119 : AFunc := ⟨[.tmp 2], (.seq (.ops a119_0) (.seq (.ops a119_1) (.seq (.ops a119_2) (.seq (.seq (.ops a119_3) (.block 0 (.loop a119_l11))) (.seq (.ops a119_12) .ret)))))⟩
def a120_0 : List AOper := [
 oP 4 (.mv (.c (.int .i64 0)))]
def a120_1 : List AOper := [
 mV 10 0,
 mV 11 1,
 oP 12 (.idxStr (.t 10) (.t 11)),
 mV 5 12]
def a120_2 : List AOper := [
 oP 6 (.mv (.c (.int .i64 0)))]
def a120_3 : List AOper := [
 oP 7 (.mv (.c (.int .i64 0)))]
def a120_4 : List AOper := [
 mV 14 5,
 oP 15 (.bin .lss (.t 14) (.c (.int .u8 128))),
 mV 13 15]
def a120_5 : List AOper := [
 oP 4 (.mv (.c (.int .i64 1)))]
def a120_6 : List AOper := [
 mV 17 5,
 oP 18 (.bin .geq (.t 17) (.c (.int .u8 194))),
 mV 19 18,
 oG 20 (.mv (.t 5)) 19 true,
 oG 21 (.bin .leq (.t 20) (.c (.int .u8 223))) 19 true,
 oP 22 (.pick (.t 19) (.t 21) (.c (.bool false))),
 mV 16 22]
def a120_7 : List AOper := [
 mV 23 5,
 oP 24 (.conv (.int .i64) (.t 23)),
 oP 25 (.bin .sub (.t 24) (.c (.int .i64 192))),
 oP 6 (.mv (.c (.int .i64 2))),
 mV 7 25]
def a120_8 : List AOper := [
 mV 27 5,
 oP 28 (.bin .geq (.t 27) (.c (.int .u8 224))),
 mV 29 28,
 oG 30 (.mv (.t 5)) 29 true,
 oG 31 (.bin .leq (.t 30) (.c (.int .u8 239))) 29 true,
 oP 32 (.pick (.t 29) (.t 31) (.c (.bool false))),
 mV 26 32]
def a120_9 : List AOper := [
 mV 33 5,
 oP 34 (.conv (.int .i64) (.t 33)),
 oP 35 (.bin .sub (.t 34) (.c (.int .i64 224))),
 oP 6 (.mv (.c (.int .i64 3))),
 mV 7 35]
def a120_10 : List AOper := [
 mV 37 5,
 oP 38 (.bin .geq (.t 37) (.c (.int .u8 240))),
 mV 39 38,
 oG 40 (.mv (.t 5)) 39 true,
 oG 41 (.bin .leq (.t 40) (.c (.int .u8 244))) 39 true,
 oP 42 (.pick (.t 39) (.t 41) (.c (.bool false))),
 mV 36 42]
def a120_11 : List AOper := [
 mV 43 5,
 oP 44 (.conv (.int .i64) (.t 43)),
 oP 45 (.bin .sub (.t 44) (.c (.int .i64 240))),
 oP 6 (.mv (.c (.int .i64 4))),
 mV 7 45]
def a120_12 : List AOper := [
 oP 4 (.mv (.c (.int .i64 0)))]
def a120_13 : List AOper := [
 mV 46 1,
 mV 47 6,
 oP 48 (.bin .add (.t 46) (.t 47)),
 mV 49 0,
 oP 50 (.len true (.t 49)),
 oP 51 (.bin .gtr (.t 48) (.t 50))]
def a120_14 : List AOper := [
 oP 4 (.mv (.c (.int .i64 0)))]
def a120_15 : List AOper := [
 oP 8 (.mv (.c (.int .i64 1)))]
def a120_16 : List AOper := [
 mV 52 8,
 mV 53 6,
 oP 54 (.bin .lss (.t 52) (.t 53))]
def a120_17 : List AOper := [
 mV 57 0,
 mV 58 1,
 mV 59 8,
 oP 60 (.bin .add (.t 58) (.t 59)),
 oP 61 (.idxStr (.t 57) (.t 60)),
 mV 9 61]
def a120_18 : List AOper := [
 mV 62 9,
 oP 63 (.bin .lss (.t 62) (.c (.int .u8 128))),
 mV 64 63,
 oG 65 (.mv (.t 9)) 64 false,
 oG 66 (.bin .gtr (.t 65) (.c (.int .u8 191))) 64 false,
 oP 67 (.pick (.t 64) (.c (.bool true)) (.t 66))]
def a120_19 : List AOper := [
 oP 4 (.mv (.c (.int .i64 0)))]
def a120_20 : List AOper := [
 mV 68 7,
 oP 69 (.bin .mul (.t 68) (.c (.int .i64 64))),
 mV 70 9,
 oP 71 (.conv (.int .i64) (.t 70)),
 oP 72 (.bin .add (.t 69) (.t 71)),
 oP 73 (.bin .sub (.t 72) (.c (.int .i64 128))),
 mV 7 73]
def a120_21 : List AOper := [
 mV 55 8,
 oP 56 (.bin .add (.t 55) (.c (.int .i64 1))),
 mV 8 56]
def a120_l22 : AC := (.seq (.seq (.ops a120_16) (.cond (.t 54) .skip (.exit 1))) (.seq (.block 2 (.seq (.ops a120_17) (.seq (.seq (.ops a120_18) (.cond (.t 67) (.seq (.ops a120_19) .ret) .skip)) (.ops a120_20)))) (.ops a120_21)))
def a120_23 : List AOper := [
 mV 74 6,
 oP 75 (.bin .eql (.t 74) (.c (.int .i64 3))),
 mV 76 75,
 oG 77 (.mv (.t 7)) 76 true,
 oG 78 (.bin .lss (.t 77) (.c (.int .i64 2048))) 76 true,
 oG 79 (.mv (.t 78)) 76 true,
 oG 80 (.mv (.t 7)) 79 false,
 oG 81 (.bin .geq (.t 80) (.c (.int .i64 55296))) 79 false,
 oG 82 (.mv (.t 81)) 79 false,
 oG 83 (.mv (.t 7)) 82 true,
 oG 84 (.bin .leq (.t 83) (.c (.int .i64 57343))) 82 true,
 oG 85 (.pick (.t 82) (.t 84) (.c (.bool false))) 79 false,
 oG 86 (.pick (.t 79) (.c (.bool true)) (.t 85)) 76 true,
 oP 87 (.pick (.t 76) (.t 86) (.c (.bool false))),
 mV 88 87,
 oG 89 (.mv (.t 6)) 88 false,
 oG 90 (.bin .eql (.t 89) (.c (.int .i64 4))) 88 false,
 oG 91 (.mv (.t 90)) 88 false,
 oG 92 (.mv (.t 7)) 91 true,
 oG 93 (.bin .lss (.t 92) (.c (.int .i64 65536))) 91 true,
 oG 94 (.mv (.t 93)) 91 true,
 oG 95 (.mv (.t 7)) 94 false,
 oG 96 (.bin .gtr (.t 95) (.c (.int .i64 1114111))) 94 false,
 oG 97 (.pick (.t 94) (.c (.bool true)) (.t 96)) 91 true,
 oG 98 (.pick (.t 91) (.t 97) (.c (.bool false))) 88 false,
 oP 99 (.pick (.t 88) (.c (.bool true)) (.t 98))]
def a120_24 : List AOper := [
 oP 4 (.mv (.c (.int .i64 0)))]
def a120_25 : List AOper := [
 mV 100 6,
 mV 4 100]
def a120 : AFunc := ⟨[.tmp 4], (.seq (.ops a120_0) (.seq (.ops a120_1) (.seq (.ops a120_2) (.seq (.ops a120_3) (.seq (.block 0 (.seq (.ops a120_4) (.cond (.t 13) (.seq (.ops a120_5) .ret) (.seq (.ops a120_6) (.cond (.t 16) (.ops a120_7) (.seq (.ops a120_8) (.cond (.t 26) (.ops a120_9) (.seq (.ops a120_10) (.cond (.t 36) (.ops a120_11) (.seq (.ops a120_12) .ret)))))))))) (.seq (.seq (.ops a120_13) (.cond (.t 51) (.seq (.ops a120_14) .ret) .skip)) (.seq (.seq (.ops a120_15) (.block 1 (.loop a120_l22))) (.seq (.seq (.ops a120_23) (.cond (.t 99) (.seq (.ops a120_24) .ret) .skip)) (.seq (.ops a120_25) .ret)))))))))⟩
def a121_0 : List AOper := [
 oP 2 (.mv (.c (.bool false)))]
def a121_1 : List AOper := [
 mV 3 0,
 oP 4 (.bin .geq (.t 3) (.c (.int .u8 97))),
 mV 5 4,
 oG 6 (.mv (.t 0)) 5 true,
 oG 7 (.bin .leq (.t 6) (.c (.int .u8 122))) 5 true,
 oP 8 (.pick (.t 5) (.t 7) (.c (.bool false))),
 mV 2 8]
def a121 : AFunc := ⟨[.tmp 2], (.seq (.ops a121_0) (.seq (.ops a121_1) .ret))⟩
def a122_0 : List AOper := [
 oP 2 (.mv (.c (.bool false)))]
def a122_1 : List AOper := [
 oP 5 (.lit true 1 19 [(.str []), (.str []), (.str []), (.str []), (.str []), (.str []), (.str []), (.str []), (.str []), (.str []), (.str []), (.str []), (.str []), (.str []), (.str []), (.str []), (.str []), (.str []), (.str [])] [(0, 1, (.c (.str [97, 102, 116, 101, 114]))), (1, 1, (.c (.str [97, 110, 100]))), (2, 1, (.c (.str [97, 110, 100, 97, 108, 115, 111]))), (3, 1, (.c (.str [98, 101, 103, 105, 110]))), (4, 1, (.c (.str [99, 97, 115, 101]))), (5, 1, (.c (.str [99, 97, 116, 99, 104]))), (6, 1, (.c (.str [100, 105, 118]))), (7, 1, (.c (.str [101, 110, 100]))), (8, 1, (.c (.str [102, 117, 110]))), (9, 1, (.c (.str [105, 102]))), (10, 1, (.c (.str [110, 111, 116]))), (11, 1, (.c (.str [111, 102]))), (12, 1, (.c (.str [111, 114]))), (13, 1, (.c (.str [111, 114, 101, 108, 115, 101]))), (14, 1, (.c (.str [114, 101, 99, 101, 105, 118, 101]))), (15, 1, (.c (.str [114, 101, 109]))), (16, 1, (.c (.str [116, 114, 121]))), (17, 1, (.c (.str [119, 104, 101, 110]))), (18, 1, (.c (.str [120, 111, 114])))]),
 mV 3 5]
def a122_2 : List AOper := [
 oP 4 (.mv (.c (.int .i64 0)))]
def a122_3 : List AOper := [
 mV 6 4,
 mV 7 3,
 oP 8 (.len false (.t 7)),
 oP 9 (.bin .lss (.t 6) (.t 8))]
def a122_4 : List AOper := [
 mV 12 3,
 mV 13 4,
 oP 14 (.idxAddr 1 (.t 12) (.t 13)),
 oP 15 (.load false 1 (.t 14)),
 mV 16 0,
 oP 17 (.bin .eql (.t 15) (.t 16))]
def a122_5 : List AOper := [
 oP 2 (.mv (.c (.bool true)))]
def a122_6 : List AOper := [
 mV 10 4,
 oP 11 (.bin .add (.t 10) (.c (.int .i64 1))),
 mV 4 11]
def a122_l7 : AC := (.seq (.seq (.ops a122_3) (.cond (.t 9) .skip (.exit 0))) (.seq (.block 1 (.seq (.ops a122_4) (.cond (.t 17) (.seq (.ops a122_5) .ret) .skip))) (.ops a122_6)))
def a122_8 : List AOper := [
 oP 2 (.mv (.c (.bool false)))]
def a122 : AFunc := ⟨[.tmp 2], (.seq (.ops a122_0) (.seq (.ops a122_1) (.seq (.seq (.ops a122_2) (.block 0 (.loop a122_l7))) (.seq (.ops a122_8) .ret))))⟩
def a125_0 : List AOper := [
 oP 2 (.mv (.c (.bool false)))]
def a125_1 : List AOper := [
 mV 3 0,
 mV 4 0,
 oP 5 (.bin .neq (.t 3) (.t 4)),
 mV 2 5]
def a125 : AFunc := ⟨[.tmp 2], (.seq (.ops a125_0) (.seq (.ops a125_1) .ret))⟩
def a129_0 : List AOper := [
 oP 6 (.mv (.c .nili))]
def a129_1 : List AOper := [
 mV 7 0,
 mV 8 1,
 mV 9 2,
 oP 10 (.build [(.str []), (.int .i64 0), (.int .i64 0), .nili] [(0, 1, (.c (.str [116, 101, 114, 109]))), (1, 1, (.t 7)), (2, 1, (.t 8)), (3, 1, (.t 9))]),
 oP 11 (.box true 4 (.t 10)),
 oP 12 (.mkIface 69 (.t 11)),
 mV 6 12]
def a129 : AFunc := ⟨[.tmp 6], (.seq (.ops a129_0) (.seq (.ops a129_1) .ret))⟩
def a130_0 : List AOper := [
 oP 2 (.box false 6 (.t 0)),
 oP 4 (.mv (.c .nili))]
def a130_1 : List AOper := [
 oP 5 (.mv (.c (.bool false)))]
def a130_2 : List AOper := [
 oP 7 (.fieldAddr 0 (.t 2)),
 oP 8 (.load false 1 (.t 7))]
def a130_3 : List AOper := [
 oP 10 (.bin .eql (.t 8) (.c (.int .i64 1))),
 mV 9 10]
def a130_4 : List AOper := [
 oP 11 (.load true 6 (.t 2)),
 oP 12 (.call 139 [(.t 11), (.c (.bool false)), (.c (.bool false)), (.c (.bool false))]),
 mV 5 12]
def a130_5 : List AOper := [
 oP 14 (.bin .eql (.t 8) (.c (.int .i64 2))),
 mV 13 14]
def a130_6 : List AOper := [
 oP 15 (.load true 6 (.t 2)),
 oP 16 (.call 139 [(.t 15), (.c (.bool true)), (.c (.bool false)), (.c (.bool false))]),
 mV 5 16]
def a130_7 : List AOper := [
 oP 18 (.bin .eql (.t 8) (.c (.int .i64 3))),
 mV 17 18]
def a130_8 : List AOper := [
 oP 19 (.load true 6 (.t 2)),
 oP 20 (.call 139 [(.t 19), (.c (.bool true)), (.c (.bool true)), (.c (.bool false))]),
 mV 21 20,
 oG 22 (.fieldAddr 4 (.t 2)) 21 true,
 oG 23 (.load false 1 (.t 22)) 21 true,
 oG 24 (.len false (.t 23)) 21 true,
 oG 25 (.bin .eql (.t 24) (.c (.int .i64 3))) 21 true,
 oP 26 (.pick (.t 21) (.t 25) (.c (.bool false))),
 mV 5 26]
def a130_9 : List AOper := [
 oP 28 (.bin .eql (.t 8) (.c (.int .i64 4))),
 mV 27 28]
def a130_10 : List AOper := [
 oP 29 (.load true 6 (.t 2)),
 oP 30 (.call 139 [(.t 29), (.c (.bool true)), (.c (.bool true)), (.c (.bool false))]),
 mV 31 30,
 oG 32 (.fieldAddr 4 (.t 2)) 31 true,
 oG 33 (.load false 1 (.t 32)) 31 true,
 oG 34 (.len false (.t 33)) 31 true,
 oG 35 (.bin .eql (.t 34) (.c (.int .i64 2))) 31 true,
 oP 36 (.pick (.t 31) (.t 35) (.c (.bool false))),
 mV 5 36]
def a130_11 : List AOper := [
 oP 38 (.bin .eql (.t 8) (.c (.int .i64 5))),
 mV 37 38]
def a130_12 : List AOper := [
 oP 39 (.load true 6 (.t 2)),
 oP 40 (.call 139 [(.t 39), (.c (.bool false)), (.c (.bool false)), (.c (.bool true))]),
 mV 5 40]
def a130_13 : List AOper := [
 oP 42 (.bin .eql (.t 8) (.c (.int .i64 6))),
 mV 41 42]
def a130_14 : List AOper := [
 oP 43 (.load true 6 (.t 2)),
 oP 44 (.call 139 [(.t 43), (.c (.bool false)), (.c (.bool false)), (.c (.bool false))]),
 mV 5 44]
def a130_15 : List AOper := [
 oP 46 (.bin .eql (.t 8) (.c (.int .i64 7))),
 mV 45 46]
def a130_16 : List AOper := [
 oP 47 (.load true 6 (.t 2)),
 oP 48 (.call 139 [(.t 47), (.c (.bool false)), (.c (.bool false)), (.c (.bool true))]),
 mV 49 48,
 oG 50 (.fieldAddr 5 (.t 2)) 49 true,
 oG 51 (.load false 1 (.t 50)) 49 true,
 oG 52 (.len false (.t 51)) 49 true,
 oG 53 (.bin .geq (.t 52) (.c (.int .i64 2))) 49 true,
 oP 54 (.pick (.t 49) (.t 53) (.c (.bool false))),
 mV 55 54,
 oG 56 (.fieldAddr 5 (.t 2)) 55 true,
 oG 57 (.load false 1 (.t 56)) 55 true,
 oG 58 (.fieldAddr 5 (.t 2)) 55 true,
 oG 59 (.load false 1 (.t 58)) 55 true,
 oG 60 (.len false (.t 59)) 55 true,
 oG 61 (.bin .sub (.t 60) (.c (.int .i64 1))) 55 true,
 oG 62 (.idxAddr 6 (.t 57) (.t 61)) 55 true,
 oG 63 (.fieldAddr 0 (.t 62)) 55 true,
 oG 64 (.load false 1 (.t 63)) 55 true,
 oG 65 (.bin .neq (.t 64) (.c (.int .i64 7))) 55 true,
 oP 66 (.pick (.t 55) (.t 65) (.c (.bool false))),
 mV 5 66]
def a130_17 : List AOper := [
 mV 67 5,
 oP 68 (.un .not (.t 67))]
def a130_18 : List AOper := [
 mV 69 1,
 oP 70 (.call 129 [(.t 69), (.c (.int .i64 40)), (.c .nili)]),
 mV 4 70]
def a130_19 : List AOper := [
 oP 6 (.mv (.c .nili))]
def a130_20 : List AOper := [
 oP 71 (.fieldAddr 0 (.t 2)),
 oP 72 (.load false 1 (.t 71))]
def a130_21 : List AOper := [
 oP 74 (.bin .eql (.t 72) (.c (.int .i64 1))),
 mV 73 74]
def a130_22 : List AOper := [
 oP 75 (.fieldAddr 1 (.t 2)),
 oP 76 (.load false 1 (.t 75)),
 oP 77 (.bin .lss (.t 76) (.c (.int .i64 (-576460752303423488)))),
 mV 78 77,
 oG 79 (.fieldAddr 1 (.t 2)) 78 false,
 oG 80 (.load false 1 (.t 79)) 78 false,
 oG 81 (.bin .gtr (.t 80) (.c (.int .i64 576460752303423487))) 78 false,
 oP 82 (.pick (.t 78) (.c (.bool true)) (.t 81))]
def a130_23 : List AOper := [
 mV 83 1,
 oP 84 (.call 129 [(.t 83), (.c (.int .i64 2)), (.c .nili)]),
 mV 4 84]
def a130_24 : List AOper := [
 oP 86 (.bin .eql (.t 72) (.c (.int .i64 2))),
 mV 85 86]
def a130_25 : List AOper := [
 oP 88 (.fieldAddr 2 (.t 2)),
 oP 89 (.load false 1 (.t 88)),
 oP 90 (.call 140 [(.t 89)]),
 mV 87 90,
 oP 91 (.extract (.t 87) 0),
 oP 92 (.extract (.t 87) 1),
 mV 6 92]
def a130_26 : List AOper := [
 oP 94 (.bin .eql (.t 72) (.c (.int .i64 3))),
 mV 93 94]
def a130_27 : List AOper := [
 oP 95 (.bin .eql (.t 72) (.c (.int .i64 4))),
 mV 93 95]
def a130_28 : List AOper := [
 oP 97 (.fieldAddr 2 (.t 2)),
 oP 98 (.load false 1 (.t 97)),
 oP 99 (.call 141 [(.t 98)]),
 mV 96 99,
 oP 100 (.extract (.t 96) 0),
 oP 101 (.extract (.t 96) 1),
 oP 102 (.extract (.t 96) 2),
 mV 6 102]
def a130_29 : List AOper := [
 mV 103 6,
 oP 104 (.eq true (.iface true) (.t 103) (.c .nili))]
def a130_30 : List AOper := [
 mV 105 1,
 mV 106 6,
 oP 107 (.call 142 [(.t 106)]),
 mV 108 6,
 oP 109 (.call 129 [(.t 105), (.t 107), (.t 108)]),
 mV 4 109]
def a130_31 : List AOper := [
 oP 4 (.mv (.c .nili))]
def a130 : AFunc := ⟨[.tmp 4], (.seq (.ops a130_0) (.seq (.ops a130_1) (.seq (.seq (.ops a130_2) (.block 0 (.seq (.ops a130_3) (.cond (.t 9) (.ops a130_4) (.seq (.ops a130_5) (.cond (.t 13) (.ops a130_6) (.seq (.ops a130_7) (.cond (.t 17) (.ops a130_8) (.seq (.ops a130_9) (.cond (.t 27) (.ops a130_10) (.seq (.ops a130_11) (.cond (.t 37) (.ops a130_12) (.seq (.ops a130_13) (.cond (.t 41) (.ops a130_14) (.seq (.ops a130_15) (.cond (.t 45) (.ops a130_16) .skip)))))))))))))))) (.seq (.seq (.ops a130_17) (.cond (.t 68) (.seq (.ops a130_18) .ret) .skip)) (.seq (.ops a130_19) (.seq (.seq (.ops a130_20) (.block 1 (.seq (.ops a130_21) (.cond (.t 73) (.seq (.ops a130_22) (.cond (.t 82) (.seq (.ops a130_23) .ret) .skip)) (.seq (.ops a130_24) (.cond (.t 85) (.ops a130_25) (.seq (.seq (.ops a130_26) (.cond (.t 93) .skip (.ops a130_27))) (.cond (.t 93) (.ops a130_28) .skip)))))))) (.seq (.seq (.ops a130_29) (.cond (.t 104) (.seq (.ops a130_30) .ret) .skip)) (.seq (.ops a130_31) .ret))))))))⟩
def a131_0 : List AOper := [
 oP 2 (.mv (.c .nils))]
def a131_1 : List AOper := [
 oP 3 (.mv (.c (.int .i64 0)))]
def a131_2 : List AOper := [
 mV 9 0,
 oP 10 (.len false (.t 9)),
 oP 11 (.mv (.c (.int .i64 0)))]
def a131_3 : List AOper := [
 oP 12 (.bin .lss (.t 11) (.t 10))]
def a131_4 : List AOper := [
 oP 13 (.idxAddr 1 (.t 9) (.t 11)),
 oP 14 (.load false 1 (.t 13)),
 mV 5 14]
def a131_5 : List AOper := [
 mV 15 3,
 mV 16 5,
 oP 17 (.len false (.t 16)),
 oP 18 (.bin .add (.t 15) (.t 17)),
 mV 3 18]
def a131_6 : List AOper := [
 mV 19 3,
 oP 20 (.bin .lss (.t 19) (.c (.int .i64 0)))]
def a131_7 : List AOper := [
 oP 21 (.mkIface 9 (.c (.str [108, 101, 110, 32, 111, 117, 116, 32, 111, 102, 32, 114, 97, 110, 103, 101]))),
 oN (.panic (.t 21))]
def a131_8 : List AOper := [
 oP 22 (.bin .add (.t 11) (.c (.int .i64 1))),
 mV 11 22]
def a131_l9 : AC := (.seq (.ops a131_3) (.seq (.cond (.t 12) .skip (.exit 0)) (.seq (.block 1 (.seq (.ops a131_4) (.seq (.ops a131_5) (.seq (.ops a131_6) (.cond (.t 20) (.ops a131_7) .skip))))) (.ops a131_8))))
def a131_10 : List AOper := [
 mV 23 3,
 oP 24 (.call 143 [(.c .nils), (.t 23)]),
 mV 6 24]
def a131_11 : List AOper := [
 mV 25 0,
 oP 26 (.len false (.t 25)),
 oP 27 (.mv (.c (.int .i64 0)))]
def a131_12 : List AOper := [
 oP 28 (.bin .lss (.t 27) (.t 26))]
def a131_13 : List AOper := [
 oP 29 (.idxAddr 1 (.t 25) (.t 27)),
 oP 30 (.load false 1 (.t 29)),
 mV 8 30]
def a131_14 : List AOper := [
 mV 31 6,
 mV 32 8,
 oP 33 (.append 6 88 (.t 31) (.t 32)),
 mV 6 33]
def a131_15 : List AOper := [
 oP 34 (.bin .add (.t 27) (.c (.int .i64 1))),
 mV 27 34]
def a131_l16 : AC := (.seq (.ops a131_12) (.seq (.cond (.t 28) .skip (.exit 2)) (.seq (.block 3 (.seq (.ops a131_13) (.ops a131_14))) (.ops a131_15))))
def a131_17 : List AOper := [
 mV 35 6,
 mV 2 35]
def a131 : AFunc := ⟨[.tmp 2], (.seq (.ops a131_0) (.seq (.ops a131_1) (.seq (.seq (.ops a131_2) (.block 0 (.loop a131_l9))) (.seq (.ops a131_10) (.seq (.seq (.ops a131_11) (.block 2 (.loop a131_l16))) (.seq (.ops a131_17) .ret))))))⟩
def a139_0 : List AOper := [
 oP 4 (.box false 6 (.t 0)),
 oP 8 (.mv (.c (.bool false)))]
def a139_1 : List AOper := [
 mV 9 1,
 mV 10 9,
 oG 11 (.fieldAddr 2 (.t 4)) 10 false,
 oG 12 (.load false 1 (.t 11)) 10 false,
 oG 13 (.bin .eql (.t 12) (.c (.str []))) 10 false,
 oP 14 (.pick (.t 10) (.c (.bool true)) (.t 13)),
 mV 15 14,
 oG 16 (.mv (.t 2)) 15 true,
 oG 17 (.mv (.t 16)) 15 true,
 oG 18 (.fieldAddr 4 (.t 4)) 17 false,
 oG 19 (.load false 1 (.t 18)) 17 false,
 oG 20 (.len false (.t 19)) 17 false,
 oG 21 (.bin .eql (.t 20) (.c (.int .i64 0))) 17 false,
 oG 22 (.mv (.t 21)) 17 false,
 oG 23 (.fieldAddr 3 (.t 4)) 22 true,
 oG 24 (.load false 1 (.t 23)) 22 true,
 oG 25 (.bin .eql (.t 24) (.c (.int .u32 0))) 22 true,
 oG 26 (.pick (.t 22) (.t 25) (.c (.bool false))) 17 false,
 oG 27 (.pick (.t 17) (.c (.bool true)) (.t 26)) 15 true,
 oP 28 (.pick (.t 15) (.t 27) (.c (.bool false))),
 mV 29 28,
 oG 30 (.mv (.t 3)) 29 true,
 oG 31 (.mv (.t 30)) 29 true,
 oG 32 (.fieldAddr 5 (.t 4)) 31 false,
 oG 33 (.load false 1 (.t 32)) 31 false,
 oG 34 (.len false (.t 33)) 31 false,
 oG 35 (.bin .eql (.t 34) (.c (.int .i64 0))) 31 false,
 oG 36 (.pick (.t 31) (.c (.bool true)) (.t 35)) 29 true,
 oP 37 (.pick (.t 29) (.t 36) (.c (.bool false))),
 mV 38 37,
 oG 39 (.fieldAddr 0 (.t 4)) 38 true,
 oG 40 (.load false 1 (.t 39)) 38 true,
 oG 41 (.bin .eql (.t 40) (.c (.int .i64 1))) 38 true,
 oG 42 (.mv (.t 41)) 38 true,
 oG 43 (.fieldAddr 1 (.t 4)) 42 false,
 oG 44 (.load false 1 (.t 43)) 42 false,
 oG 45 (.bin .eql (.t 44) (.c (.int .i64 0))) 42 false,
 oG 46 (.pick (.t 42) (.c (.bool true)) (.t 45)) 38 true,
 oP 47 (.pick (.t 38) (.t 46) (.c (.bool false))),
 mV 8 47]
def a139 : AFunc := ⟨[.tmp 8], (.seq (.ops a139_0) (.seq (.ops a139_1) .ret))⟩
def a140_0 : List AOper := [
 oP 2 (.mv (.c (.str []))),
 oP 3 (.mv (.c .nili))]
def a140_1 : List AOper := [
 mV 8 0,
 oP 9 (.len true (.t 8)),
 oP 10 (.bin .gtr (.t 9) (.c (.int .i64 255)))]
def a140_2 : List AOper := [
 oP 11 (.call 148 [(.c (.int .i64 0)), (.c (.int .i64 4))]),
 oP 2 (.mv (.c (.str []))),
 mV 3 11]
def a140_3 : List AOper := [
 mV 12 0,
 oP 13 (.call 149 [(.t 12)]),
 mV 4 13]
def a140_4 : List AOper := [
 mV 14 4,
 oP 15 (.bin .geq (.t 14) (.c (.int .i64 0)))]
def a140_5 : List AOper := [
 mV 16 4,
 oP 17 (.call 148 [(.t 16), (.c (.int .i64 23))]),
 oP 2 (.mv (.c (.str []))),
 mV 3 17]
def a140_6 : List AOper := [
 mV 18 0,
 oP 19 (.call 150 [(.t 18)])]
def a140_7 : List AOper := [
 mV 20 0,
 mV 2 20,
 oP 3 (.mv (.c .nili))]
def a140_8 : List AOper := [
 oP 21 (.lit true 1 1 [(.int .u8 0)] [(0, 1, (.c (.int .u8 39)))]),
 mV 5 21]
def a140_9 : List AOper := [
 mV 22 0,
 oP 23 (.conv .s2b (.t 22)),
 oP 24 (.len false (.t 23)),
 oP 25 (.mv (.c (.int .i64 0)))]
def a140_10 : List AOper := [
 oP 26 (.bin .lss (.t 25) (.t 24))]
def a140_11 : List AOper := [
 oP 27 (.idxAddr 1 (.t 23) (.t 25)),
 oP 28 (.load false 1 (.t 27)),
 mV 7 28]
def a140_12 : List AOper := [
 mV 29 7]
def a140_13 : List AOper := [
 oP 50 (.bin .eql (.t 29) (.c (.int .u8 39))),
 mV 49 50]
def a140_14 : List AOper := [
 oP 51 (.bin .eql (.t 29) (.c (.int .u8 92))),
 mV 49 51]
def a140_15 : List AOper := [
 mV 52 5,
 mV 53 7,
 oP 54 (.lit true 1 2 [(.int .u8 0), (.int .u8 0)] [(0, 1, (.c (.int .u8 92))), (1, 1, (.t 53))]),
 oP 55 (.append 1 1 (.t 52) (.t 54)),
 mV 5 55]
def a140_16 : List AOper := [
 oP 57 (.bin .eql (.t 29) (.c (.int .u8 10))),
 mV 56 57]
def a140_17 : List AOper := [
 mV 58 5,
 oP 59 (.append 1 1 (.t 58) (.c (.str [92, 110]))),
 mV 5 59]
def a140_18 : List AOper := [
 oP 61 (.bin .eql (.t 29) (.c (.int .u8 9))),
 mV 60 61]
def a140_19 : List AOper := [
 mV 62 5,
 oP 63 (.append 1 1 (.t 62) (.c (.str [92, 116]))),
 mV 5 63]
def a140_20 : List AOper := [
 oP 65 (.bin .eql (.t 29) (.c (.int .u8 13))),
 mV 64 65]
def a140_21 : List AOper := [
 mV 66 5,
 oP 67 (.append 1 1 (.t 66) (.c (.str [92, 114]))),
 mV 5 67]
def a140_22 : List AOper := [
 mV 30 7,
 oP 31 (.bin .lss (.t 30) (.c (.int .u8 32))),
 mV 32 31,
 oG 33 (.mv (.t 7)) 32 false,
 oG 34 (.bin .eql (.t 33) (.c (.int .u8 127))) 32 false,
 oP 35 (.pick (.t 32) (.c (.bool true)) (.t 34))]
def a140_23 : List AOper := [
 mV 36 5,
 mV 37 7,
 oP 38 (.bin .shr (.t 37) (.c (.int .u64 4))),
 oP 39 (.idxStr (.c (.str [48, 49, 50, 51, 52, 53, 54, 55, 56, 57, 97, 98, 99, 100, 101, 102])) (.t 38)),
 mV 40 7,
 oP 41 (.bin .and (.t 40) (.c (.int .u8 15))),
 oP 42 (.idxStr (.c (.str [48, 49, 50, 51, 52, 53, 54, 55, 56, 57, 97, 98, 99, 100, 101, 102])) (.t 41)),
 oP 43 (.lit true 1 4 [(.int .u8 0), (.int .u8 0), (.int .u8 0), (.int .u8 0)] [(0, 1, (.c (.int .u8 92))), (1, 1, (.c (.int .u8 120))), (2, 1, (.t 39)), (3, 1, (.t 42))]),
 oP 44 (.append 1 1 (.t 36) (.t 43)),
 mV 5 44]
def a140_23b : List Nat := [0, 0, 2, 6, 0, 16, 48, 126, 255, 511]
def a140_24 : List AOper := [
 mV 45 5,
 mV 46 7,
 oP 47 (.lit true 1 1 [(.int .u8 0)] [(0, 1, (.t 46))]),
 oP 48 (.append 1 1 (.t 45) (.t 47)),
 mV 5 48]
def a140_25 : List AOper := [
 oP 68 (.bin .add (.t 25) (.c (.int .i64 1))),
 mV 25 68]
def a140_l26 : AC := (.seq (.ops a140_10) (.seq (.cond (.t 26) .skip (.exit 0)) (.seq (.block 1 (.seq (.ops a140_11) (.seq (.ops a140_12) (.block 2 (.seq (.seq (.ops a140_13) (.cond (.t 49) .skip (.ops a140_14))) (.cond (.t 49) (.ops a140_15) (.seq (.ops a140_16) (.cond (.t 56) (.ops a140_17) (.seq (.ops a140_18) (.cond (.t 60) (.ops a140_19) (.seq (.ops a140_20) (.cond (.t 64) (.ops a140_21) (.seq (.ops a140_22) (.cond (.t 35) (.draw a140_23 a140_23b) (.ops a140_24))))))))))))))) (.ops a140_25))))
def a140_27 : List AOper := [
 mV 69 5,
 oP 70 (.lit true 1 1 [(.int .u8 0)] [(0, 1, (.c (.int .u8 39)))]),
 oP 71 (.append 1 1 (.t 69) (.t 70)),
 oP 72 (.conv .b2s (.t 71)),
 mV 2 72,
 oP 3 (.mv (.c .nili))]
def a140 : AFunc := ⟨[.tmp 2, .tmp 3], (.seq (.ops a140_0) (.seq (.seq (.ops a140_1) (.cond (.t 10) (.seq (.ops a140_2) .ret) .skip)) (.seq (.seq (.ops a140_3) (.seq (.ops a140_4) (.cond (.t 15) (.seq (.ops a140_5) .ret) .skip))) (.seq (.seq (.ops a140_6) (.cond (.t 19) (.seq (.ops a140_7) .ret) .skip)) (.seq (.ops a140_8) (.seq (.seq (.ops a140_9) (.block 0 (.loop a140_l26))) (.seq (.ops a140_27) .ret)))))))⟩
def a141_0 : List AOper := [
 oP 2 (.mv (.c (.str []))),
 oP 3 (.mv (.c (.str []))),
 oP 4 (.mv (.c .nili))]
def a141_1 : List AOper := [
 mV 14 0,
 oP 15 (.call 151 [(.t 14), (.c (.str [64]))]),
 mV 13 15,
 oP 16 (.extract (.t 13) 0),
 oP 17 (.extract (.t 13) 1),
 oP 18 (.extract (.t 13) 2),
 mV 5 16,
 mV 6 17,
 mV 7 18]
def a141_2 : List AOper := [
 mV 19 7,
 mV 20 19,
 oG 21 (.mv (.t 5)) 20 true,
 oG 22 (.bin .neq (.t 21) (.c (.str []))) 20 true,
 oP 23 (.pick (.t 20) (.t 22) (.c (.bool false))),
 mV 24 23,
 oG 25 (.mv (.t 6)) 24 true,
 oG 26 (.bin .neq (.t 25) (.c (.str []))) 24 true,
 oP 27 (.pick (.t 24) (.t 26) (.c (.bool false))),
 mV 28 27,
 oG 29 (.mv (.t 0)) 28 true,
 oG 30 (.len true (.t 29)) 28 true,
 oG 31 (.bin .leq (.t 30) (.c (.int .i64 64))) 28 true,
 oP 32 (.pick (.t 28) (.t 31) (.c (.bool false))),
 mV 33 32,
 oG 34 (.mv (.t 6)) 33 true,
 oG 35 (.call 152 [(.t 34), (.c (.str [64]))]) 33 true,
 oG 36 (.un .not (.t 35)) 33 true,
 oP 37 (.pick (.t 33) (.t 36) (.c (.bool false))),
 mV 8 37]
def a141_3 : List AOper := [
 mV 38 5,
 oP 39 (.conv .s2b (.t 38)),
 oP 40 (.len false (.t 39)),
 oP 41 (.mv (.c (.int .i64 0)))]
def a141_4 : List AOper := [
 oP 42 (.bin .lss (.t 41) (.t 40))]
def a141_5 : List AOper := [
 oP 43 (.idxAddr 1 (.t 39) (.t 41)),
 oP 44 (.load false 1 (.t 43)),
 mV 10 44]
def a141_6 : List AOper := [
 mV 45 8,
 mV 46 45,
 oG 47 (.mv (.t 10)) 46 true,
 oG 48 (.call 153 [(.t 47)]) 46 true,
 oG 49 (.bin .neq (.t 48) (.c (.int .i64 0))) 46 true,
 oG 50 (.mv (.t 49)) 46 true,
 oG 51 (.mv (.t 10)) 50 false,
 oG 52 (.bin .eql (.t 51) (.c (.int .u8 45))) 50 false,
 oG 53 (.pick (.t 50) (.c (.bool true)) (.t 52)) 46 true,
 oP 54 (.pick (.t 46) (.t 53) (.c (.bool false))),
 mV 8 54]
def a141_7 : List AOper := [
 oP 55 (.bin .add (.t 41) (.c (.int .i64 1))),
 mV 41 55]
def a141_l8 : AC := (.seq (.ops a141_4) (.seq (.cond (.t 42) .skip (.exit 0)) (.seq (.block 1 (.seq (.ops a141_5) (.ops a141_6))) (.ops a141_7))))
def a141_9 : List AOper := [
 mV 56 6,
 oP 57 (.conv .s2b (.t 56)),
 oP 58 (.len false (.t 57)),
 oP 59 (.mv (.c (.int .i64 0)))]
def a141_10 : List AOper := [
 oP 60 (.bin .lss (.t 59) (.t 58))]
def a141_11 : List AOper := [
 oP 61 (.idxAddr 1 (.t 57) (.t 59)),
 oP 62 (.load false 1 (.t 61)),
 mV 12 62]
def a141_12 : List AOper := [
 mV 63 8,
 mV 64 63,
 oG 65 (.mv (.t 12)) 64 true,
 oG 66 (.call 153 [(.t 65)]) 64 true,
 oG 67 (.bin .neq (.t 66) (.c (.int .i64 0))) 64 true,
 oG 68 (.mv (.t 67)) 64 true,
 oG 69 (.mv (.t 12)) 68 false,
 oG 70 (.bin .eql (.t 69) (.c (.int .u8 45))) 68 false,
 oG 71 (.pick (.t 68) (.c (.bool true)) (.t 70)) 64 true,
 oG 72 (.mv (.t 71)) 64 true,
 oG 73 (.mv (.t 12)) 72 false,
 oG 74 (.bin .eql (.t 73) (.c (.int .u8 46))) 72 false,
 oG 75 (.pick (.t 72) (.c (.bool true)) (.t 74)) 64 true,
 oP 76 (.pick (.t 64) (.t 75) (.c (.bool false))),
 mV 8 76]
def a141_13 : List AOper := [
 oP 77 (.bin .add (.t 59) (.c (.int .i64 1))),
 mV 59 77]
def a141_l14 : AC := (.seq (.ops a141_10) (.seq (.cond (.t 60) .skip (.exit 2)) (.seq (.block 3 (.seq (.ops a141_11) (.ops a141_12))) (.ops a141_13))))
def a141_15 : List AOper := [
 mV 78 8,
 oP 79 (.un .not (.t 78))]
def a141_16 : List AOper := [
 oP 80 (.call 148 [(.c (.int .i64 0)), (.c (.int .i64 24))]),
 oP 2 (.mv (.c (.str []))),
 oP 3 (.mv (.c (.str []))),
 mV 4 80]
def a141_17 : List AOper := [
 mV 81 5,
 mV 82 6,
 mV 2 81,
 mV 3 82,
 oP 4 (.mv (.c .nili))]
def a141 : AFunc := ⟨[.tmp 2, .tmp 3, .tmp 4], (.seq (.ops a141_0) (.seq (.ops a141_1) (.seq (.ops a141_2) (.seq (.seq (.ops a141_3) (.block 0 (.loop a141_l8))) (.seq (.seq (.ops a141_9) (.block 2 (.loop a141_l14))) (.seq (.seq (.ops a141_15) (.cond (.t 79) (.seq (.ops a141_16) .ret) .skip)) (.seq (.ops a141_17) .ret)))))))⟩
def a142_0 : List AOper := [
 oP 2 (.mv (.c (.int .i64 0)))]
def a142_1 : List AOper := [
 oP 3 (.alloc [.nilp])]
def a142_2 : List AOper := [
 mV 4 0,
 oP 5 (.mkIface 71 (.t 3)),
 oP 6 (.call 37 [(.t 4), (.t 5)])]
def a142_3 : List AOper := [
 oP 7 (.load false 1 (.t 3)),
 oP 8 (.nilCheck (.t 7)),
 oP 9 (.fieldAddr 2 (.t 8)),
 oP 10 (.load false 1 (.t 9)),
 mV 2 10]
def a142_4 : List AOper := [
 oP 2 (.mv (.c (.int .i64 0)))]
def a142 : AFunc := ⟨[.tmp 2], (.seq (.ops a142_0) (.seq (.ops a142_1) (.seq (.seq (.ops a142_2) (.cond (.t 6) (.seq (.ops a142_3) .ret) .skip)) (.seq (.ops a142_4) .ret))))⟩
def a143_0 : List AOper := [
 oP 4 (.mv (.c .nils))]
def a143_1 : List AOper := [
 mV 5 1,
 oP 6 (.bin .lss (.t 5) (.c (.int .i64 0)))]
def a143_2 : List AOper := [
 oP 7 (.mkIface 9 (.c (.str [99, 97, 110, 110, 111, 116, 32, 98, 101, 32, 110, 101, 103, 97, 116, 105, 118, 101]))),
 oN (.panic (.t 7))]
def a143_3 : List AOper := [
 mV 8 1,
 mV 9 0,
 oP 10 (.cap (.t 9)),
 mV 11 0,
 oP 12 (.len false (.t 11)),
 oP 13 (.bin .sub (.t 10) (.t 12)),
 oP 14 (.bin .sub (.t 8) (.t 13)),
 mV 1 14]
def a143_4 : List AOper := [
 mV 15 1,
 oP 16 (.bin .gtr (.t 15) (.c (.int .i64 0)))]
def a143_5 : List AOper := [
 mV 17 0,
 mV 18 0,
 oP 19 (.cap (.t 18)),
 oP 20 (.slice 6 (.t 17) none (some (.t 19)) none),
 mV 21 1,
 oP 22 (.appendZ 6 88 [(.int .i64 0), (.int .i64 0), (.str []), (.int .u32 0), .nils, .nils] (.t 20) (.t 21)),
 mV 23 0,
 oP 24 (.len false (.t 23)),
 oP 25 (.slice 6 (.t 22) none (some (.t 24)) none),
 mV 0 25]
def a143_6 : List AOper := [
 mV 26 0,
 mV 4 26]
def a143 : AFunc := ⟨[.tmp 4], (.seq (.ops a143_0) (.seq (.seq (.ops a143_1) (.cond (.t 6) (.ops a143_2) .skip)) (.seq (.seq (.ops a143_3) (.seq (.ops a143_4) (.cond (.t 16) (.ops a143_5) .skip))) (.seq (.ops a143_6) .ret))))⟩
def a148_0 : List AOper := [
 oP 4 (.mv (.c .nili))]
def a148_1 : List AOper := [
 mV 5 0,
 mV 6 1,
 oP 7 (.build [(.str []), (.int .i64 0), (.int .i64 0), .nili] [(0, 1, (.c (.str [97, 116, 111, 109]))), (1, 1, (.t 5)), (2, 1, (.t 6))]),
 oP 8 (.box true 4 (.t 7)),
 oP 9 (.mkIface 69 (.t 8)),
 mV 4 9]
def a148 : AFunc := ⟨[.tmp 4], (.seq (.ops a148_0) (.seq (.ops a148_1) .ret))⟩
def a150_0 : List AOper := [
 oP 2 (.mv (.c (.bool false)))]
def a150_1 : List AOper := [
 mV 3 0,
 oP 4 (.bin .neq (.t 3) (.c (.str []))),
 mV 5 4,
 oG 6 (.mv (.t 0)) 5 true,
 oG 7 (.idxStr (.t 6) (.c (.int .i64 0))) 5 true,
 oG 8 (.call 153 [(.t 7)]) 5 true,
 oG 9 (.bin .eql (.t 8) (.c (.int .i64 1))) 5 true,
 oP 10 (.pick (.t 5) (.t 9) (.c (.bool false))),
 mV 11 10,
 oG 12 (.mv (.t 0)) 11 true,
 oG 13 (.call 159 [(.t 12), (.c (.int .i64 0))]) 11 true,
 oG 14 (.mv (.t 0)) 11 true,
 oG 15 (.len true (.t 14)) 11 true,
 oG 16 (.bin .eql (.t 13) (.t 15)) 11 true,
 oP 17 (.pick (.t 11) (.t 16) (.c (.bool false))),
 mV 18 17,
 oG 19 (.mv (.t 0)) 18 true,
 oG 20 (.call 160 [(.t 19)]) 18 true,
 oG 21 (.un .not (.t 20)) 18 true,
 oP 22 (.pick (.t 18) (.t 21) (.c (.bool false))),
 mV 2 22]
def a150 : AFunc := ⟨[.tmp 2], (.seq (.ops a150_0) (.seq (.ops a150_1) .ret))⟩
def a151_0 : List AOper := [
 oP 4 (.mv (.c (.str []))),
 oP 5 (.mv (.c (.str []))),
 oP 6 (.mv (.c (.bool false)))]
def a151_1 : List AOper := [
 mV 7 0,
 mV 8 1,
 oP 9 (.call 161 [(.t 7), (.t 8)]),
 oP 10 (.extract (.t 9) 0),
 oP 11 (.extract (.t 9) 1),
 oP 12 (.extract (.t 9) 2),
 mV 4 10,
 mV 5 11,
 mV 6 12]
def a151 : AFunc := ⟨[.tmp 4, .tmp 5, .tmp 6], (.seq (.ops a151_0) (.seq (.ops a151_1) .ret))⟩
def a152_0 : List AOper := [
 oP 4 (.mv (.c (.bool false)))]
def a152_1 : List AOper := [
 mV 5 0,
 mV 6 1,
 oP 7 (.call 162 [(.t 5), (.t 6)]),
 oP 8 (.bin .geq (.t 7) (.c (.int .i64 0))),
 mV 4 8]
def a152 : AFunc := ⟨[.tmp 4], (.seq (.ops a152_0) (.seq (.ops a152_1) .ret))⟩
def a153_0 : List AOper := [
 oP 2 (.mv (.c (.int .i64 0)))]
def a153_1 : List AOper := [
 mV 4 0,
 oP 5 (.bin .geq (.t 4) (.c (.int .u8 97))),
 mV 6 5,
 oG 7 (.mv (.t 0)) 6 true,
 oG 8 (.bin .leq (.t 7) (.c (.int .u8 122))) 6 true,
 oP 9 (.pick (.t 6) (.t 8) (.c (.bool false))),
 mV 3 9]
def a153_2 : List AOper := [
 oP 2 (.mv (.c (.int .i64 1)))]
def a153_3 : List AOper := [
 mV 11 0,
 oP 12 (.bin .geq (.t 11) (.c (.int .u8 65))),
 mV 13 12,
 oG 14 (.mv (.t 0)) 13 true,
 oG 15 (.bin .leq (.t 14) (.c (.int .u8 90))) 13 true,
 oP 16 (.pick (.t 13) (.t 15) (.c (.bool false))),
 mV 10 16]
def a153_4 : List AOper := [
 oP 2 (.mv (.c (.int .i64 2)))]
def a153_5 : List AOper := [
 mV 18 0,
 oP 19 (.bin .geq (.t 18) (.c (.int .u8 48))),
 mV 20 19,
 oG 21 (.mv (.t 0)) 20 true,
 oG 22 (.bin .leq (.t 21) (.c (.int .u8 57))) 20 true,
 oP 23 (.pick (.t 20) (.t 22) (.c (.bool false))),
 mV 17 23]
def a153_6 : List AOper := [
 oP 2 (.mv (.c (.int .i64 3)))]
def a153_7 : List AOper := [
 mV 25 0,
 oP 26 (.bin .eql (.t 25) (.c (.int .u8 95))),
 mV 27 26,
 oG 28 (.mv (.t 0)) 27 false,
 oG 29 (.bin .eql (.t 28) (.c (.int .u8 64))) 27 false,
 oP 30 (.pick (.t 27) (.c (.bool true)) (.t 29)),
 mV 24 30]
def a153_8 : List AOper := [
 oP 2 (.mv (.c (.int .i64 4)))]
def a153_9 : List AOper := [
 oP 2 (.mv (.c (.int .i64 0)))]
def a153 : AFunc := ⟨[.tmp 2], (.seq (.ops a153_0) (.seq (.block 0 (.seq (.ops a153_1) (.cond (.t 3) (.seq (.ops a153_2) .ret) (.seq (.ops a153_3) (.cond (.t 10) (.seq (.ops a153_4) .ret) (.seq (.ops a153_5) (.cond (.t 17) (.seq (.ops a153_6) .ret) (.seq (.ops a153_7) (.cond (.t 24) (.seq (.ops a153_8) .ret) .skip))))))))) (.seq (.ops a153_9) .ret)))⟩
def a159_0 : List AOper := [
 oP 4 (.mv (.c (.int .i64 0)))]
def a159_1 : List AOper := [
 mV 5 1,
 mV 6 0,
 oP 7 (.len true (.t 6)),
 oP 8 (.bin .lss (.t 5) (.t 7)),
 mV 9 8,
 oG 10 (.mv (.t 0)) 9 true,
 oG 11 (.mv (.t 1)) 9 true,
 oG 12 (.idxStr (.t 10) (.t 11)) 9 true,
 oG 13 (.call 153 [(.t 12)]) 9 true,
 oG 14 (.bin .neq (.t 13) (.c (.int .i64 0))) 9 true,
 oP 15 (.pick (.t 9) (.t 14) (.c (.bool false)))]
def a159_2 : List AOper := [
 mV 16 1,
 oP 17 (.bin .add (.t 16) (.c (.int .i64 1))),
 mV 1 17]
def a159_l3 : AC := (.seq (.seq (.ops a159_1) (.cond (.t 15) .skip (.exit 0))) (.block 1 (.ops a159_2)))
def a159_4 : List AOper := [
 mV 18 1,
 mV 4 18]
def a159 : AFunc := ⟨[.tmp 4], (.seq (.ops a159_0) (.seq (.block 0 (.loop a159_l3)) (.seq (.ops a159_4) .ret)))⟩
def a160_0 : List AOper := [
 oP 2 (.mv (.c (.bool false)))]
def a160_1 : List AOper := [
 mV 3 0]
def a160_2 : List AOper := [
 oP 5 (.bin .eql (.t 3) (.c (.str [97, 102, 116, 101, 114]))),
 mV 4 5]
def a160_3 : List AOper := [
 oP 6 (.bin .eql (.t 3) (.c (.str [97, 110, 100]))),
 mV 4 6]
def a160_4 : List AOper := [
 oP 7 (.bin .eql (.t 3) (.c (.str [97, 110, 100, 97, 108, 115, 111]))),
 mV 4 7]
def a160_5 : List AOper := [
 oP 8 (.bin .eql (.t 3) (.c (.str [98, 101, 103, 105, 110]))),
 mV 4 8]
def a160_6 : List AOper := [
 oP 9 (.bin .eql (.t 3) (.c (.str [99, 97, 115, 101]))),
 mV 4 9]
def a160_7 : List AOper := [
 oP 10 (.bin .eql (.t 3) (.c (.str [99, 97, 116, 99, 104]))),
 mV 4 10]
def a160_8 : List AOper := [
 oP 11 (.bin .eql (.t 3) (.c (.str [100, 105, 118]))),
 mV 4 11]
def a160_9 : List AOper := [
 oP 12 (.bin .eql (.t 3) (.c (.str [101, 110, 100]))),
 mV 4 12]
def a160_10 : List AOper := [
 oP 13 (.bin .eql (.t 3) (.c (.str [102, 117, 110]))),
 mV 4 13]
def a160_11 : List AOper := [
 oP 14 (.bin .eql (.t 3) (.c (.str [105, 102]))),
 mV 4 14]
def a160_12 : List AOper := [
 oP 16 (.bin .eql (.t 3) (.c (.str [110, 111, 116]))),
 mV 15 16]
def a160_13 : List AOper := [
 oP 17 (.bin .eql (.t 3) (.c (.str [111, 102]))),
 mV 15 17]
def a160_14 : List AOper := [
 oP 18 (.bin .eql (.t 3) (.c (.str [111, 114]))),
 mV 15 18]
def a160_15 : List AOper := [
 oP 19 (.bin .eql (.t 3) (.c (.str [111, 114, 101, 108, 115, 101]))),
 mV 15 19]
def a160_16 : List AOper := [
 oP 20 (.bin .eql (.t 3) (.c (.str [114, 101, 99, 101, 105, 118, 101]))),
 mV 15 20]
def a160_17 : List AOper := [
 oP 21 (.bin .eql (.t 3) (.c (.str [114, 101, 109]))),
 mV 15 21]
def a160_18 : List AOper := [
 oP 22 (.bin .eql (.t 3) (.c (.str [116, 114, 121]))),
 mV 15 22]
def a160_19 : List AOper := [
 oP 23 (.bin .eql (.t 3) (.c (.str [119, 104, 101, 110]))),
 mV 15 23]
def a160_20 : List AOper := [
 oP 24 (.bin .eql (.t 3) (.c (.str [120, 111, 114]))),
 mV 15 24]
def a160_21 : List AOper := [
 oP 2 (.mv (.c (.bool true)))]
def a160_22 : List AOper := [
 oP 2 (.mv (.c (.bool false)))]
def a160 : AFunc := ⟨[.tmp 2], (.seq (.ops a160_0) (.seq (.seq (.ops a160_1) (.block 0 (.seq (.block 2 (.block 1 (.seq (.seq (.seq (.seq (.ops a160_2) (.cond (.t 4) .skip (.seq (.ops a160_3) (.cond (.t 4) .skip (.seq (.ops a160_4) (.cond (.t 4) .skip (.seq (.ops a160_5) (.cond (.t 4) .skip (.seq (.ops a160_6) (.cond (.t 4) .skip (.seq (.ops a160_7) (.cond (.t 4) .skip (.seq (.ops a160_8) (.cond (.t 4) .skip (.seq (.ops a160_9) (.cond (.t 4) .skip (.seq (.ops a160_10) (.cond (.t 4) .skip (.ops a160_11))))))))))))))))))) (.cond (.t 4) (.exit 1) .skip)) (.seq (.seq (.ops a160_12) (.cond (.t 15) .skip (.seq (.ops a160_13) (.cond (.t 15) .skip (.seq (.ops a160_14) (.cond (.t 15) .skip (.seq (.ops a160_15) (.cond (.t 15) .skip (.seq (.ops a160_16) (.cond (.t 15) .skip (.seq (.ops a160_17) (.cond (.t 15) .skip (.seq (.ops a160_18) (.cond (.t 15) .skip (.seq (.ops a160_19) (.cond (.t 15) .skip (.ops a160_20))))))))))))))))) (.cond (.t 15) (.exit 2) .skip))) (.exit 0)))) (.seq (.seq (.ops a160_21) .ret) (.exit 0))))) (.seq (.ops a160_22) .ret)))⟩
def a161_0 : List AOper := [
 oP 4 (.mv (.c (.str []))),
 oP 5 (.mv (.c (.str []))),
 oP 6 (.mv (.c (.bool false)))]
def a161_1 : List AOper := [
 mV 8 0,
 mV 9 1,
 oP 10 (.call 169 [(.t 8), (.t 9)]),
 mV 7 10]
def a161_2 : List AOper := [
 mV 11 7,
 oP 12 (.bin .geq (.t 11) (.c (.int .i64 0)))]
def a161_3 : List AOper := [
 mV 13 0,
 mV 14 7,
 oP 15 (.sliceStr (.t 13) none (some (.t 14))),
 mV 16 0,
 mV 17 7,
 mV 18 1,
 oP 19 (.len true (.t 18)),
 oP 20 (.bin .add (.t 17) (.t 19)),
 oP 21 (.sliceStr (.t 16) (some (.t 20)) none),
 mV 4 15,
 mV 5 21,
 oP 6 (.mv (.c (.bool true)))]
def a161_3b : List Nat := [0, 0, 3, 0, 0, 0, 32, 112, 248, 7, 1023, 2047]
def a161_4 : List AOper := [
 mV 22 0,
 mV 4 22,
 oP 5 (.mv (.c (.str []))),
 oP 6 (.mv (.c (.bool false)))]
def a161 : AFunc := ⟨[.tmp 4, .tmp 5, .tmp 6], (.seq (.ops a161_0) (.seq (.seq (.ops a161_1) (.seq (.ops a161_2) (.cond (.t 12) (.seq (.draw a161_3 a161_3b) .ret) .skip))) (.seq (.ops a161_4) .ret)))⟩
def a162_0 : List AOper := [
 oP 4 (.mv (.c (.int .i64 0)))]
def a162_1 : List AOper := [
 mV 5 0,
 mV 6 1,
 oP 7 (.call 169 [(.t 5), (.t 6)]),
 mV 4 7]
def a162 : AFunc := ⟨[.tmp 4], (.seq (.ops a162_0) (.seq (.ops a162_1) .ret))⟩
end Go.Bf
