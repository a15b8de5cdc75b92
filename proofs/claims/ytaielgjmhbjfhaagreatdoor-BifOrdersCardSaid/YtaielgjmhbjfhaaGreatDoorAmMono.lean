/-
  THE ABSTRACT MACHINE: more fuel changes no answer.
-/
import Derived.Test.YtaielgjmhbjfhaaGreatDoorBfCode1
set_option linter.unusedVariables false
namespace Go.Bf
open Go.AM
def a54_0 : List AOper := [
 oP 1 (.box false 6 (.t 0)),
 oP 2 (.mv (.c (.int .i64 0))),
 oP 3 (.mv (.c (.int .i64 0))),
 oP 4 (.mv (.c .nili))]
def a54_1 : List AOper := [
 oP 5 (.alloc [(.int .i64 0), (.int .i64 0)])]
def a54_2 : List AOper := [
 oP 7 (.load true 6 (.t 1)),
 oP 8 (.call 97 [(.t 5), (.t 7), (.c (.int .i64 1))]),
 mV 6 8]
def a54_3 : List AOper := [
 mV 9 6,
 oP 10 (.eq true (.iface true) (.t 9) (.c .nili))]
def a54_4 : List AOper := [
 mV 11 6,
 oP 2 (.mv (.c (.int .i64 0))),
 oP 3 (.mv (.c (.int .i64 0))),
 mV 4 11]
def a54_5 : List AOper := [
 oP 12 (.fieldAddr 0 (.t 5)),
 oP 13 (.load false 1 (.t 12)),
 oP 14 (.fieldAddr 1 (.t 5)),
 oP 15 (.load false 1 (.t 14)),
 mV 2 13,
 mV 3 15,
 oP 4 (.mv (.c .nili))]
def a54_5b : List Nat := [0, 1, 0, 4, 3, 31, 63]
def a54 : AFunc := ⟨[.tmp 2, .tmp 3, .tmp 4], (.seq (.ops a54_0) (.seq (.ops a54_1) (.seq (.seq (.ops a54_2) (.seq (.ops a54_3) (.cond (.t 10) (.seq (.ops a54_4) .ret) .skip))) (.seq (.draw a54_5 a54_5b) .ret))))⟩
def a59_0 : List AOper := [
 oP 2 (.alloc [(.int .i64 0), (.int .i64 0), (.str []), (.int .u32 0), .nils, .nils])]
def a59_1 : List AOper := [
 mV 3 0,
 oP 4 (.build [(.int .i64 0), (.int .i64 0), (.str []), (.int .u32 0), .nils, .nils] [(0, 1, (.c (.int .i64 1))), (1, 1, (.t 3))]),
 oN (.store 6 (.t 2) (.t 4))]
def a59 : AFunc := ⟨[.cell 2 true 6], (.seq (.ops a59_0) (.seq (.ops a59_1) .ret))⟩
def a60_0 : List AOper := [
 oP 4 (.box false 6 (.t 1)),
 oP 5 (.box false 6 (.t 2)),
 oP 6 (.alloc [(.int .i64 0), (.int .i64 0), (.str []), (.int .u32 0), .nils, .nils]),
 oP 7 (.mv (.c (.int .i64 0)))]
def a60_1 : List AOper := [
 oP 11 (.fieldAddr 0 (.t 4)),
 oP 12 (.load false 1 (.t 11)),
 oP 13 (.bin .neq (.t 12) (.c (.int .i64 1))),
 mV 14 13,
 oG 15 (.fieldAddr 0 (.t 5)) 14 false,
 oG 16 (.load false 1 (.t 15)) 14 false,
 oG 17 (.bin .neq (.t 16) (.c (.int .i64 1))) 14 false,
 oP 18 (.pick (.t 14) (.c (.bool true)) (.t 17))]
def a60_2 : List AOper := [
 oP 19 (.build [(.int .i64 0), (.int .i64 0), (.str []), (.int .u32 0), .nils, .nils] []),
 oN (.store 6 (.t 6) (.t 19)),
 oP 7 (.mv (.c (.int .i64 260)))]
def a60_3 : List AOper := [
 oP 20 (.fieldAddr 1 (.t 4)),
 oP 21 (.load false 1 (.t 20)),
 oP 22 (.fieldAddr 1 (.t 5)),
 oP 23 (.load false 1 (.t 22)),
 mV 8 21,
 mV 9 23,
 oP 10 (.mv (.c (.bool true)))]
def a60_3b : List Nat := [0, 1, 0, 4, 3, 31, 63]
def a60_4 : List AOper := [
 mV 24 0]
def a60_5 : List AOper := [
 oP 37 (.bin .eql (.t 24) (.c (.str [43]))),
 mV 36 37]
def a60_6 : List AOper := [
 mV 38 8,
 mV 39 9,
 oP 40 (.bin .add (.t 38) (.t 39)),
 mV 8 40]
def a60_7 : List AOper := [
 oP 42 (.bin .eql (.t 24) (.c (.str [45]))),
 mV 41 42]
def a60_8 : List AOper := [
 mV 43 8,
 mV 44 9,
 oP 45 (.bin .sub (.t 43) (.t 44)),
 mV 8 45]
def a60_9 : List AOper := [
 oP 47 (.bin .eql (.t 24) (.c (.str [42]))),
 mV 46 47]
def a60_10 : List AOper := [
 mV 49 8,
 mV 50 9,
 oP 51 (.call 100 [(.t 49), (.t 50)]),
 mV 48 51,
 oP 52 (.extract (.t 48) 0),
 oP 53 (.extract (.t 48) 1),
 mV 8 52,
 mV 10 53]
def a60_11 : List AOper := [
 mV 25 9,
 oP 26 (.bin .eql (.t 25) (.c (.int .i64 0)))]
def a60_12 : List AOper := [
 oP 27 (.build [(.int .i64 0), (.int .i64 0), (.str []), (.int .u32 0), .nils, .nils] []),
 oN (.store 6 (.t 6) (.t 27)),
 oP 7 (.mv (.c (.int .i64 260)))]
def a60_13 : List AOper := [
 mV 28 0,
 oP 29 (.bin .eql (.t 28) (.c (.str [114, 101, 109])))]
def a60_14 : List AOper := [
 mV 30 8,
 mV 31 9,
 oP 32 (.bin .rem (.t 30) (.t 31)),
 mV 8 32]
def a60_15 : List AOper := [
 mV 33 8,
 mV 34 9,
 oP 35 (.bin .quo (.t 33) (.t 34)),
 mV 8 35]
def a60_16 : List AOper := [
 mV 54 10,
 oP 55 (.un .not (.t 54)),
 mV 56 55,
 oG 57 (.mv (.t 8)) 56 false,
 oG 58 (.bin .lss (.t 57) (.c (.int .i64 (-576460752303423488)))) 56 false,
 oP 59 (.pick (.t 56) (.c (.bool true)) (.t 58)),
 mV 60 59,
 oG 61 (.mv (.t 8)) 60 false,
 oG 62 (.bin .gtr (.t 61) (.c (.int .i64 576460752303423487))) 60 false,
 oP 63 (.pick (.t 60) (.c (.bool true)) (.t 62))]
def a60_17 : List AOper := [
 oP 64 (.build [(.int .i64 0), (.int .i64 0), (.str []), (.int .u32 0), .nils, .nils] []),
 oN (.store 6 (.t 6) (.t 64)),
 oP 7 (.mv (.c (.int .i64 262)))]
def a60_18 : List AOper := [
 mV 65 8,
 oP 66 (.call 59 [(.t 65)]),
 oN (.store 6 (.t 6) (.t 66)),
 oP 7 (.mv (.c (.int .i64 0)))]
def a60 : AFunc := ⟨[.cell 6 true 6, .tmp 7], (.seq (.ops a60_0) (.seq (.seq (.ops a60_1) (.cond (.t 18) (.seq (.ops a60_2) .ret) .skip)) (.seq (.draw a60_3 a60_3b) (.seq (.seq (.ops a60_4) (.block 0 (.seq (.ops a60_5) (.cond (.t 36) (.ops a60_6) (.seq (.ops a60_7) (.cond (.t 41) (.ops a60_8) (.seq (.ops a60_9) (.cond (.t 46) (.ops a60_10) (.seq (.seq (.ops a60_11) (.cond (.t 26) (.seq (.ops a60_12) .ret) .skip)) (.seq (.ops a60_13) (.cond (.t 29) (.ops a60_14) (.ops a60_15)))))))))))) (.seq (.seq (.ops a60_16) (.cond (.t 63) (.seq (.ops a60_17) .ret) .skip)) (.seq (.ops a60_18) .ret))))))⟩
def a62_0 : List AOper := [
 oP 2 (.alloc [(.int .i64 0), (.int .i64 0), (.str []), (.int .u32 0), .nils, .nils])]
def a62_1 : List AOper := [
 mV 3 0]
def a62_2 : List AOper := [
 oP 4 (.call 34 [(.c (.str [116, 114, 117, 101]))]),
 oN (.store 6 (.t 2) (.t 4))]
def a62_3 : List AOper := [
 oP 5 (.call 34 [(.c (.str [102, 97, 108, 115, 101]))]),
 oN (.store 6 (.t 2) (.t 5))]
def a62 : AFunc := ⟨[.cell 2 true 6], (.seq (.ops a62_0) (.seq (.seq (.ops a62_1) (.cond (.t 3) (.seq (.ops a62_2) .ret) .skip)) (.seq (.ops a62_3) .ret)))⟩
def a63_0 : List AOper := [
 oP 4 (.mv (.c (.bool false)))]
def a63_1 : List AOper := [
 mV 5 0]
def a63_2 : List AOper := [
 oP 7 (.bin .eql (.t 5) (.c (.str [61, 61]))),
 mV 6 7]
def a63_3 : List AOper := [
 oP 8 (.bin .eql (.t 5) (.c (.str [61, 58, 61]))),
 mV 6 8]
def a63_4 : List AOper := [
 mV 9 1,
 oP 10 (.bin .eql (.t 9) (.c (.int .i64 0))),
 mV 4 10]
def a63_5 : List AOper := [
 oP 12 (.bin .eql (.t 5) (.c (.str [47, 61]))),
 mV 11 12]
def a63_6 : List AOper := [
 oP 13 (.bin .eql (.t 5) (.c (.str [61, 47, 61]))),
 mV 11 13]
def a63_7 : List AOper := [
 mV 14 1,
 oP 15 (.bin .neq (.t 14) (.c (.int .i64 0))),
 mV 4 15]
def a63_8 : List AOper := [
 oP 17 (.bin .eql (.t 5) (.c (.str [61, 60]))),
 mV 16 17]
def a63_9 : List AOper := [
 mV 18 1,
 oP 19 (.bin .leq (.t 18) (.c (.int .i64 0))),
 mV 4 19]
def a63_10 : List AOper := [
 oP 21 (.bin .eql (.t 5) (.c (.str [60]))),
 mV 20 21]
def a63_11 : List AOper := [
 mV 22 1,
 oP 23 (.bin .lss (.t 22) (.c (.int .i64 0))),
 mV 4 23]
def a63_12 : List AOper := [
 oP 25 (.bin .eql (.t 5) (.c (.str [62, 61]))),
 mV 24 25]
def a63_13 : List AOper := [
 mV 26 1,
 oP 27 (.bin .geq (.t 26) (.c (.int .i64 0))),
 mV 4 27]
def a63_14 : List AOper := [
 mV 28 1,
 oP 29 (.bin .gtr (.t 28) (.c (.int .i64 0))),
 mV 4 29]
def a63 : AFunc := ⟨[.tmp 4], (.seq (.ops a63_0) (.seq (.seq (.ops a63_1) (.block 0 (.seq (.seq (.ops a63_2) (.cond (.t 6) .skip (.ops a63_3))) (.cond (.t 6) (.seq (.ops a63_4) .ret) (.seq (.seq (.ops a63_5) (.cond (.t 11) .skip (.ops a63_6))) (.cond (.t 11) (.seq (.ops a63_7) .ret) (.seq (.ops a63_8) (.cond (.t 16) (.seq (.ops a63_9) .ret) (.seq (.ops a63_10) (.cond (.t 20) (.seq (.ops a63_11) .ret) (.seq (.ops a63_12) (.cond (.t 24) (.seq (.ops a63_13) .ret) .skip)))))))))))) (.seq (.ops a63_14) .ret)))⟩
def a64_0 : List AOper := [
 oP 2 (.box false 6 (.t 0)),
 oP 3 (.box false 6 (.t 1)),
 oP 4 (.mv (.c (.int .i64 0)))]
def a64_1 : List AOper := [
 oP 5 (.load true 6 (.t 2)),
 oP 6 (.call 36 [(.t 5)]),
 oP 7 (.eq true (.iface true) (.t 6) (.c .nili)),
 mV 8 7,
 oG 9 (.load true 6 (.t 3)) 8 false,
 oG 10 (.call 36 [(.t 9)]) 8 false,
 oG 11 (.eq true (.iface true) (.t 10) (.c .nili)) 8 false,
 oP 12 (.pick (.t 8) (.c (.bool true)) (.t 11))]
def a64_2 : List AOper := [
 oP 4 (.mv (.c (.int .i64 0)))]
def a64_3 : List AOper := [
 oP 13 (.load true 6 (.t 2)),
 oP 14 (.load true 6 (.t 3)),
 oP 15 (.call 53 [(.t 13), (.t 14)]),
 mV 4 15]
def a64 : AFunc := ⟨[.tmp 4], (.seq (.ops a64_0) (.seq (.seq (.ops a64_1) (.cond (.t 12) (.seq (.ops a64_2) .ret) .skip)) (.seq (.ops a64_3) .ret)))⟩
def a69_0 : List AOper := [
 oP 2 (.mv (.c .nils))]
def a69_1 : List AOper := [
 mV 3 0,
 oP 4 (.eq false .slice (.t 3) (.c .nils))]
def a69_2 : List AOper := [
 oP 2 (.mv (.c .nils))]
def a69_3 : List AOper := [
 oP 5 (.lit true 1 0 [] []),
 mV 6 0,
 oP 7 (.append 1 4 (.t 5) (.t 6)),
 mV 2 7]
def a69 : AFunc := ⟨[.tmp 2], (.seq (.ops a69_0) (.seq (.seq (.ops a69_1) (.cond (.t 4) (.seq (.ops a69_2) .ret) .skip)) (.seq (.ops a69_3) .ret)))⟩
def a70_0 : List AOper := [
 oP 4 (.mv (.c (.int .i64 0)))]
def a70_1 : List AOper := [
 mV 5 0,
 mV 6 1,
 oP 7 (.bin .lss (.t 5) (.t 6))]
def a70_2 : List AOper := [
 oP 4 (.mv (.c (.int .i64 (-1))))]
def a70_3 : List AOper := [
 mV 8 0,
 mV 9 1,
 oP 10 (.bin .gtr (.t 8) (.t 9))]
def a70_4 : List AOper := [
 oP 4 (.mv (.c (.int .i64 1)))]
def a70_5 : List AOper := [
 oP 4 (.mv (.c (.int .i64 0)))]
def a70 : AFunc := ⟨[.tmp 4], (.seq (.ops a70_0) (.seq (.seq (.ops a70_1) (.cond (.t 7) (.seq (.ops a70_2) .ret) .skip)) (.seq (.seq (.ops a70_3) (.cond (.t 10) (.seq (.ops a70_4) .ret) .skip)) (.seq (.ops a70_5) .ret))))⟩
def a71_0 : List AOper := [
 oP 4 (.mv (.c (.int .i64 0)))]
def a71_1 : List AOper := [
 oP 5 (.mv (.c (.int .i64 0)))]
def a71_2 : List AOper := [
 mV 6 5,
 mV 7 0,
 oP 8 (.len true (.t 7)),
 oP 9 (.bin .lss (.t 6) (.t 8)),
 mV 10 9,
 oG 11 (.mv (.t 5)) 10 true,
 oG 12 (.mv (.t 1)) 10 true,
 oG 13 (.len true (.t 12)) 10 true,
 oG 14 (.bin .lss (.t 11) (.t 13)) 10 true,
 oP 15 (.pick (.t 10) (.t 14) (.c (.bool false)))]
def a71_3 : List AOper := [
 mV 18 0,
 mV 19 5,
 oP 20 (.idxStr (.t 18) (.t 19)),
 mV 21 1,
 mV 22 5,
 oP 23 (.idxStr (.t 21) (.t 22)),
 oP 24 (.bin .lss (.t 20) (.t 23))]
def a71_3b : List Nat := [0, 0, 3, 0, 0, 24, 63]
def a71_4 : List AOper := [
 oP 4 (.mv (.c (.int .i64 (-1))))]
def a71_5 : List AOper := [
 mV 25 0,
 mV 26 5,
 oP 27 (.idxStr (.t 25) (.t 26)),
 mV 28 1,
 mV 29 5,
 oP 30 (.idxStr (.t 28) (.t 29)),
 oP 31 (.bin .gtr (.t 27) (.t 30))]
def a71_5b : List Nat := [0, 0, 3, 0, 0, 24, 63]
def a71_6 : List AOper := [
 oP 4 (.mv (.c (.int .i64 1)))]
def a71_7 : List AOper := [
 mV 16 5,
 oP 17 (.bin .add (.t 16) (.c (.int .i64 1))),
 mV 5 17]
def a71_l8 : AC := (.seq (.seq (.ops a71_2) (.cond (.t 15) .skip (.exit 0))) (.seq (.block 1 (.seq (.seq (.draw a71_3 a71_3b) (.cond (.t 24) (.seq (.ops a71_4) .ret) .skip)) (.seq (.draw a71_5 a71_5b) (.cond (.t 31) (.seq (.ops a71_6) .ret) .skip)))) (.ops a71_7)))
def a71_9 : List AOper := [
 mV 32 0,
 oP 33 (.len true (.t 32)),
 mV 34 1,
 oP 35 (.len true (.t 34)),
 oP 36 (.bin .lss (.t 33) (.t 35))]
def a71_10 : List AOper := [
 oP 4 (.mv (.c (.int .i64 (-1))))]
def a71_11 : List AOper := [
 mV 37 0,
 oP 38 (.len true (.t 37)),
 mV 39 1,
 oP 40 (.len true (.t 39)),
 oP 41 (.bin .gtr (.t 38) (.t 40))]
def a71_12 : List AOper := [
 oP 4 (.mv (.c (.int .i64 1)))]
def a71_13 : List AOper := [
 oP 4 (.mv (.c (.int .i64 0)))]
def a71 : AFunc := ⟨[.tmp 4], (.seq (.ops a71_0) (.seq (.seq (.ops a71_1) (.block 0 (.loop a71_l8))) (.seq (.seq (.ops a71_9) (.cond (.t 36) (.seq (.ops a71_10) .ret) .skip)) (.seq (.seq (.ops a71_11) (.cond (.t 41) (.seq (.ops a71_12) .ret) .skip)) (.seq (.ops a71_13) .ret)))))⟩
def a72_0 : List AOper := [
 oP 2 (.box false 6 (.t 0)),
 oP 3 (.box false 6 (.t 1)),
 oP 4 (.mv (.c (.int .i64 0)))]
def a72_1 : List AOper := [
 oP 6 (.fieldAddr 0 (.t 2)),
 oP 7 (.load false 1 (.t 6)),
 oP 8 (.bin .eql (.t 7) (.c (.int .i64 7))),
 mV 9 8,
 oG 10 (.fieldAddr 0 (.t 3)) 9 true,
 oG 11 (.load false 1 (.t 10)) 9 true,
 oG 12 (.bin .eql (.t 11) (.c (.int .i64 7))) 9 true,
 oP 13 (.pick (.t 9) (.t 12) (.c (.bool false)))]
def a72_2 : List AOper := [
 oP 14 (.fieldAddr 5 (.t 2)),
 oP 15 (.load false 1 (.t 14)),
 oP 16 (.idxAddr 6 (.t 15) (.c (.int .i64 0))),
 oP 17 (.load true 6 (.t 16)),
 oP 18 (.fieldAddr 5 (.t 3)),
 oP 19 (.load false 1 (.t 18)),
 oP 20 (.idxAddr 6 (.t 19) (.c (.int .i64 0))),
 oP 21 (.load true 6 (.t 20)),
 oP 22 (.call 40 [(.t 17), (.t 21)]),
 mV 5 22]
def a72_2b : List Nat := [0, 1, 3, 7, 0, 16, 48, 112, 255, 511]
def a72_3 : List AOper := [
 mV 23 5,
 oP 24 (.bin .neq (.t 23) (.c (.int .i64 0)))]
def a72_4 : List AOper := [
 mV 25 5,
 mV 4 25]
def a72_5 : List AOper := [
 oP 26 (.load true 6 (.t 2)),
 oP 27 (.call 113 [(.t 26)]),
 oN (.store 6 (.t 2) (.t 27))]
def a72_6 : List AOper := [
 oP 28 (.load true 6 (.t 3)),
 oP 29 (.call 113 [(.t 28)]),
 oN (.store 6 (.t 3) (.t 29))]
def a72_l7 : AC := (.seq (.seq (.ops a72_1) (.cond (.t 13) .skip (.exit 0))) (.block 1 (.seq (.draw a72_2 a72_2b) (.seq (.seq (.ops a72_3) (.cond (.t 24) (.seq (.ops a72_4) .ret) .skip)) (.seq (.ops a72_5) (.ops a72_6))))))
def a72_8 : List AOper := [
 oP 30 (.load true 6 (.t 2)),
 oP 31 (.load true 6 (.t 3)),
 oP 32 (.call 40 [(.t 30), (.t 31)]),
 mV 4 32]
def a72 : AFunc := ⟨[.tmp 4], (.seq (.ops a72_0) (.seq (.block 0 (.loop a72_l7)) (.seq (.ops a72_8) .ret)))⟩
def a73_0 : List AOper := [
 oP 6 (.mv (.c .nils))]
def a73_1 : List AOper := [
 mV 7 0,
 mV 8 1,
 mV 9 2,
 oP 10 (.build [(.str []), (.int .i64 0), (.int .i64 0)] [(0, 1, (.t 7)), (1, 1, (.t 8)), (2, 1, (.t 9))]),
 oP 11 (.lit true 3 1 [(.str []), (.int .i64 0), (.int .i64 0)] [(0, 3, (.t 10))]),
 mV 6 11]
def a73 : AFunc := ⟨[.tmp 6], (.seq (.ops a73_0) (.seq (.ops a73_1) .ret))⟩
def a83_0 : List AOper := [
 oP 2 (.box false 6 (.t 0)),
 oP 4 (.mv (.c (.bool false)))]
def a83_1 : List AOper := [
 mV 6 1,
 oP 7 (.call 119 [(.t 6)]),
 mV 5 7]
def a83_2 : List AOper := [
 mV 8 5,
 oP 9 (.idxAddr 1 (.t 8) (.c (.int .i64 0))),
 oP 10 (.load false 1 (.t 9)),
 mV 11 10,
 oG 12 (.fieldAddr 1 (.t 2)) 11 false,
 oG 13 (.load false 1 (.t 12)) 11 false,
 oG 14 (.bin .eql (.t 13) (.c (.int .i64 0))) 11 false,
 oP 15 (.pick (.t 11) (.c (.bool true)) (.t 14)),
 mV 16 15,
 oG 17 (.mv (.t 5)) 16 true,
 oG 18 (.idxAddr 1 (.t 17) (.c (.int .i64 1))) 16 true,
 oG 19 (.load false 1 (.t 18)) 16 true,
 oG 20 (.mv (.t 19)) 16 true,
 oG 21 (.fieldAddr 2 (.t 2)) 20 false,
 oG 22 (.load false 1 (.t 21)) 20 false,
 oG 23 (.bin .eql (.t 22) (.c (.str []))) 20 false,
 oG 24 (.pick (.t 20) (.c (.bool true)) (.t 23)) 16 true,
 oP 25 (.pick (.t 16) (.t 24) (.c (.bool false))),
 mV 26 25,
 oG 27 (.mv (.t 5)) 26 true,
 oG 28 (.idxAddr 1 (.t 27) (.c (.int .i64 2))) 26 true,
 oG 29 (.load false 1 (.t 28)) 26 true,
 oG 30 (.mv (.t 29)) 26 true,
 oG 31 (.fieldAddr 3 (.t 2)) 30 false,
 oG 32 (.load false 1 (.t 31)) 30 false,
 oG 33 (.bin .eql (.t 32) (.c (.int .u32 0))) 30 false,
 oG 34 (.pick (.t 30) (.c (.bool true)) (.t 33)) 26 true,
 oP 35 (.pick (.t 26) (.t 34) (.c (.bool false))),
 mV 36 35,
 oG 37 (.mv (.t 5)) 36 true,
 oG 38 (.idxAddr 1 (.t 37) (.c (.int .i64 3))) 36 true,
 oG 39 (.load false 1 (.t 38)) 36 true,
 oG 40 (.mv (.t 39)) 36 true,
 oG 41 (.fieldAddr 4 (.t 2)) 40 false,
 oG 42 (.load false 1 (.t 41)) 40 false,
 oG 43 (.len false (.t 42)) 40 false,
 oG 44 (.bin .eql (.t 43) (.c (.int .i64 0))) 40 false,
 oG 45 (.pick (.t 40) (.c (.bool true)) (.t 44)) 36 true,
 oP 46 (.pick (.t 36) (.t 45) (.c (.bool false))),
 mV 47 46,
 oG 48 (.mv (.t 5)) 47 true,
 oG 49 (.idxAddr 1 (.t 48) (.c (.int .i64 4))) 47 true,
 oG 50 (.load false 1 (.t 49)) 47 true,
 oG 51 (.mv (.t 50)) 47 true,
 oG 52 (.fieldAddr 5 (.t 2)) 51 false,
 oG 53 (.load false 1 (.t 52)) 51 false,
 oG 54 (.len false (.t 53)) 51 false,
 oG 55 (.bin .eql (.t 54) (.c (.int .i64 0))) 51 false,
 oG 56 (.pick (.t 51) (.c (.bool true)) (.t 55)) 47 true,
 oP 57 (.pick (.t 47) (.t 56) (.c (.bool false))),
 mV 4 57]
def a83 : AFunc := ⟨[.tmp 4], (.seq (.ops a83_0) (.seq (.ops a83_1) (.seq (.ops a83_2) .ret)))⟩
def a84_0 : List AOper := [
 oP 4 (.mv (.c .nils))]
def a84_1 : List AOper := [
 mV 5 0,
 mV 6 1,
 oP 7 (.call 73 [(.c (.str [97, 116, 111, 109])), (.t 5), (.t 6)]),
 mV 4 7]
def a84 : AFunc := ⟨[.tmp 4], (.seq (.ops a84_0) (.seq (.ops a84_1) .ret))⟩
def a85_0 : List AOper := [
 oP 2 (.mv (.c (.int .i64 0)))]
def a85_1 : List AOper := [
 oP 3 (.mv (.c (.int .i64 0)))]
def a85_2 : List AOper := [
 mV 5 3,
 mV 6 0,
 oP 7 (.len true (.t 6)),
 oP 8 (.bin .lss (.t 5) (.t 7))]
def a85_3 : List AOper := [
 mV 9 0,
 mV 10 3,
 oP 11 (.call 120 [(.t 9), (.t 10)]),
 mV 4 11]
def a85_4 : List AOper := [
 mV 12 4,
 oP 13 (.bin .eql (.t 12) (.c (.int .i64 0)))]
def a85_5 : List AOper := [
 mV 14 3,
 mV 2 14]
def a85_6 : List AOper := [
 mV 15 3,
 mV 16 4,
 oP 17 (.bin .add (.t 15) (.t 16)),
 mV 3 17]
def a85_l7 : AC := (.seq (.seq (.ops a85_2) (.cond (.t 8) .skip (.exit 0))) (.block 1 (.seq (.ops a85_3) (.seq (.seq (.ops a85_4) (.cond (.t 13) (.seq (.ops a85_5) .ret) .skip)) (.ops a85_6)))))
def a85_8 : List AOper := [
 oP 2 (.mv (.c (.int .i64 (-1))))]
def a85 : AFunc := ⟨[.tmp 2], (.seq (.ops a85_0) (.seq (.ops a85_1) (.seq (.block 0 (.loop a85_l7)) (.seq (.ops a85_8) .ret))))⟩
def a86_0 : List AOper := [
 oP 2 (.mv (.c (.bool false)))]
def a86_1 : List AOper := [
 mV 4 0,
 oP 5 (.bin .eql (.t 4) (.c (.str []))),
 mV 6 5,
 oG 7 (.mv (.t 0)) 6 false,
 oG 8 (.idxStr (.t 7) (.c (.int .i64 0))) 6 false,
 oG 9 (.call 121 [(.t 8)]) 6 false,
 oG 10 (.un .not (.t 9)) 6 false,
 oP 11 (.pick (.t 6) (.c (.bool true)) (.t 10)),
 mV 12 11,
 oG 13 (.mv (.t 0)) 12 false,
 oG 14 (.call 122 [(.t 13)]) 12 false,
 oP 15 (.pick (.t 12) (.c (.bool true)) (.t 14))]
def a86_2 : List AOper := [
 oP 2 (.mv (.c (.bool false)))]
def a86_3 : List AOper := [
 oP 3 (.mv (.c (.int .i64 0)))]
def a86_4 : List AOper := [
 mV 16 3,
 mV 17 0,
 oP 18 (.len true (.t 17)),
 oP 19 (.bin .lss (.t 16) (.t 18))]
def a86_5 : List AOper := [
 mV 22 0,
 mV 23 3,
 oP 24 (.idxStr (.t 22) (.t 23)),
 oP 25 (.call 87 [(.t 24)]),
 oP 26 (.un .not (.t 25))]
def a86_6 : List AOper := [
 oP 2 (.mv (.c (.bool false)))]
def a86_7 : List AOper := [
 mV 20 3,
 oP 21 (.bin .add (.t 20) (.c (.int .i64 1))),
 mV 3 21]
def a86_l8 : AC := (.seq (.seq (.ops a86_4) (.cond (.t 19) .skip (.exit 0))) (.seq (.block 1 (.seq (.ops a86_5) (.cond (.t 26) (.seq (.ops a86_6) .ret) .skip))) (.ops a86_7)))
def a86_9 : List AOper := [
 oP 2 (.mv (.c (.bool true)))]
def a86 : AFunc := ⟨[.tmp 2], (.seq (.ops a86_0) (.seq (.seq (.ops a86_1) (.cond (.t 15) (.seq (.ops a86_2) .ret) .skip)) (.seq (.seq (.ops a86_3) (.block 0 (.loop a86_l8))) (.seq (.ops a86_9) .ret))))⟩
def a87_0 : List AOper := [
 oP 2 (.mv (.c (.bool false)))]
def a87_1 : List AOper := [
 mV 3 0,
 oP 4 (.call 121 [(.t 3)]),
 mV 5 4,
 oG 6 (.mv (.t 0)) 5 false,
 oG 7 (.bin .geq (.t 6) (.c (.int .u8 65))) 5 false,
 oG 8 (.mv (.t 7)) 5 false,
 oG 9 (.mv (.t 0)) 8 true,
 oG 10 (.bin .leq (.t 9) (.c (.int .u8 90))) 8 true,
 oG 11 (.pick (.t 8) (.t 10) (.c (.bool false))) 5 false,
 oP 12 (.pick (.t 5) (.c (.bool true)) (.t 11)),
 mV 13 12,
 oG 14 (.mv (.t 0)) 13 false,
 oG 15 (.bin .geq (.t 14) (.c (.int .u8 48))) 13 false,
 oG 16 (.mv (.t 15)) 13 false,
 oG 17 (.mv (.t 0)) 16 true,
 oG 18 (.bin .leq (.t 17) (.c (.int .u8 57))) 16 true,
 oG 19 (.pick (.t 16) (.t 18) (.c (.bool false))) 13 false,
 oP 20 (.pick (.t 13) (.c (.bool true)) (.t 19)),
 mV 21 20,
 oG 22 (.mv (.t 0)) 21 false,
 oG 23 (.bin .eql (.t 22) (.c (.int .u8 95))) 21 false,
 oP 24 (.pick (.t 21) (.c (.bool true)) (.t 23)),
 mV 25 24,
 oG 26 (.mv (.t 0)) 25 false,
 oG 27 (.bin .eql (.t 26) (.c (.int .u8 64))) 25 false,
 oP 28 (.pick (.t 25) (.c (.bool true)) (.t 27)),
 mV 2 28]
def a87 : AFunc := ⟨[.tmp 2], (.seq (.ops a87_0) (.seq (.ops a87_1) .ret))⟩
def a88_0 : List AOper := [
 oP 4 (.mv (.c (.int .i64 0)))]
def a88_1 : List AOper := [
 mV 7 0,
 oP 8 (.call 123 [(.t 7)]),
 mV 5 8]
def a88_2 : List AOper := [
 mV 9 1,
 oP 10 (.call 123 [(.t 9)]),
 mV 6 10]
def a88_3 : List AOper := [
 mV 11 5]
def a88_4 : List AOper := [
 mV 12 6]
def a88_5 : List AOper := [
 oP 4 (.mv (.c (.int .i64 0)))]
def a88_6 : List AOper := [
 oP 4 (.mv (.c (.int .i64 (-1))))]
def a88_7 : List AOper := [
 mV 13 6]
def a88_8 : List AOper := [
 oP 4 (.mv (.c (.int .i64 1)))]
def a88_9 : List AOper := [
 mV 14 0,
 mV 15 1,
 oP 16 (.bin .lss (.t 14) (.t 15))]
def a88_10 : List AOper := [
 oP 4 (.mv (.c (.int .i64 (-1))))]
def a88_11 : List AOper := [
 mV 17 0,
 mV 18 1,
 oP 19 (.bin .gtr (.t 17) (.t 18))]
def a88_12 : List AOper := [
 oP 4 (.mv (.c (.int .i64 1)))]
def a88_13 : List AOper := [
 oP 4 (.mv (.c (.int .i64 0)))]
def a88 : AFunc := ⟨[.tmp 4], (.seq (.ops a88_0) (.seq (.ops a88_1) (.seq (.ops a88_2) (.seq (.seq (.ops a88_3) (.cond (.t 11) (.seq (.seq (.ops a88_4) (.cond (.t 12) (.seq (.ops a88_5) .ret) .skip)) (.seq (.ops a88_6) .ret)) .skip)) (.seq (.seq (.ops a88_7) (.cond (.t 13) (.seq (.ops a88_8) .ret) .skip)) (.seq (.seq (.ops a88_9) (.cond (.t 16) (.seq (.ops a88_10) .ret) .skip)) (.seq (.seq (.ops a88_11) (.cond (.t 19) (.seq (.ops a88_12) .ret) .skip)) (.seq (.ops a88_13) .ret))))))))⟩
def a89_0 : List AOper := [
 oP 4 (.mv (.c (.int .i64 0)))]
def a89_1 : List AOper := [
 mV 7 0,
 oP 8 (.call 124 [(.t 7)]),
 mV 5 8]
def a89_2 : List AOper := [
 mV 9 1,
 oP 10 (.call 124 [(.t 9)]),
 mV 6 10]
def a89_3 : List AOper := [
 mV 11 5]
def a89_4 : List AOper := [
 mV 12 6]
def a89_5 : List AOper := [
 oP 4 (.mv (.c (.int .i64 0)))]
def a89_6 : List AOper := [
 oP 4 (.mv (.c (.int .i64 (-1))))]
def a89_7 : List AOper := [
 mV 13 6]
def a89_8 : List AOper := [
 oP 4 (.mv (.c (.int .i64 1)))]
def a89_9 : List AOper := [
 mV 14 0,
 mV 15 1,
 oP 16 (.bin .lss (.t 14) (.t 15))]
def a89_10 : List AOper := [
 oP 4 (.mv (.c (.int .i64 (-1))))]
def a89_11 : List AOper := [
 mV 17 0,
 mV 18 1,
 oP 19 (.bin .gtr (.t 17) (.t 18))]
def a89_12 : List AOper := [
 oP 4 (.mv (.c (.int .i64 1)))]
def a89_13 : List AOper := [
 oP 4 (.mv (.c (.int .i64 0)))]
def a89 : AFunc := ⟨[.tmp 4], (.seq (.ops a89_0) (.seq (.ops a89_1) (.seq (.ops a89_2) (.seq (.seq (.ops a89_3) (.cond (.t 11) (.seq (.seq (.ops a89_4) (.cond (.t 12) (.seq (.ops a89_5) .ret) .skip)) (.seq (.ops a89_6) .ret)) .skip)) (.seq (.seq (.ops a89_7) (.cond (.t 13) (.seq (.ops a89_8) .ret) .skip)) (.seq (.seq (.ops a89_9) (.cond (.t 16) (.seq (.ops a89_10) .ret) .skip)) (.seq (.seq (.ops a89_11) (.cond (.t 19) (.seq (.ops a89_12) .ret) .skip)) (.seq (.ops a89_13) .ret))))))))⟩
def a90_0 : List AOper := [
 oP 4 (.mv (.c (.int .i64 0)))]
def a90_1 : List AOper := [
 mV 7 0,
 oP 8 (.call 125 [(.t 7)]),
 mV 5 8]
def a90_2 : List AOper := [
 mV 9 1,
 oP 10 (.call 125 [(.t 9)]),
 mV 6 10]
def a90_3 : List AOper := [
 mV 11 5]
def a90_4 : List AOper := [
 mV 12 6]
def a90_5 : List AOper := [
 oP 4 (.mv (.c (.int .i64 0)))]
def a90_6 : List AOper := [
 oP 4 (.mv (.c (.int .i64 (-1))))]
def a90_7 : List AOper := [
 mV 13 6]
def a90_8 : List AOper := [
 oP 4 (.mv (.c (.int .i64 1)))]
def a90_9 : List AOper := [
 mV 14 0,
 mV 15 1,
 oP 16 (.bin .lss (.t 14) (.t 15))]
def a90_10 : List AOper := [
 oP 4 (.mv (.c (.int .i64 (-1))))]
def a90_11 : List AOper := [
 mV 17 0,
 mV 18 1,
 oP 19 (.bin .gtr (.t 17) (.t 18))]
def a90_12 : List AOper := [
 oP 4 (.mv (.c (.int .i64 1)))]
def a90_13 : List AOper := [
 oP 4 (.mv (.c (.int .i64 0)))]
def a90 : AFunc := ⟨[.tmp 4], (.seq (.ops a90_0) (.seq (.ops a90_1) (.seq (.ops a90_2) (.seq (.seq (.ops a90_3) (.cond (.t 11) (.seq (.seq (.ops a90_4) (.cond (.t 12) (.seq (.ops a90_5) .ret) .skip)) (.seq (.ops a90_6) .ret)) .skip)) (.seq (.seq (.ops a90_7) (.cond (.t 13) (.seq (.ops a90_8) .ret) .skip)) (.seq (.seq (.ops a90_9) (.cond (.t 16) (.seq (.ops a90_10) .ret) .skip)) (.seq (.seq (.ops a90_11) (.cond (.t 19) (.seq (.ops a90_12) .ret) .skip)) (.seq (.ops a90_13) .ret))))))))⟩
def a91_0 : List AOper := [
 oP 2 (.mv (.c (.int .i64 0)))]
def a91_1 : List AOper := [
 oP 3 (.mv (.c (.int .i64 0)))]
def a91_2 : List AOper := [
 mV 6 0,
 oP 7 (.len false (.t 6)),
 oP 8 (.mv (.c (.int .i64 0)))]
def a91_3 : List AOper := [
 oP 9 (.bin .lss (.t 8) (.t 7))]
def a91_4 : List AOper := [
 oP 10 (.idxAddr 1 (.t 6) (.t 8)),
 oP 11 (.load false 1 (.t 10)),
 mV 5 11]
def a91_5 : List AOper := [
 mV 12 5,
 mV 13 3,
 oP 14 (.bin .neq (.t 12) (.t 13))]
def a91_6 : List AOper := [
 mV 15 5,
 mV 2 15]
def a91_7 : List AOper := [
 oP 16 (.bin .add (.t 8) (.c (.int .i64 1))),
 mV 8 16]
def a91_l8 : AC := (.seq (.ops a91_3) (.seq (.cond (.t 9) .skip (.exit 0)) (.seq (.block 1 (.seq (.ops a91_4) (.seq (.ops a91_5) (.cond (.t 14) (.seq (.ops a91_6) .ret) .skip)))) (.ops a91_7))))
def a91_9 : List AOper := [
 mV 17 3,
 mV 2 17]
def a91 : AFunc := ⟨[.tmp 2], (.seq (.ops a91_0) (.seq (.ops a91_1) (.seq (.seq (.ops a91_2) (.block 0 (.loop a91_l8))) (.seq (.ops a91_9) .ret))))⟩
def a92_0 : List AOper := [
 oP 4 (.mv (.c (.int .i64 0)))]
def a92_1 : List AOper := [
 mV 7 0,
 oP 8 (.call 126 [(.t 7)]),
 mV 5 8]
def a92_2 : List AOper := [
 mV 9 1,
 oP 10 (.call 126 [(.t 9)]),
 mV 6 10]
def a92_3 : List AOper := [
 mV 11 5]
def a92_4 : List AOper := [
 mV 12 6]
def a92_5 : List AOper := [
 oP 4 (.mv (.c (.int .i64 0)))]
def a92_6 : List AOper := [
 oP 4 (.mv (.c (.int .i64 (-1))))]
def a92_7 : List AOper := [
 mV 13 6]
def a92_8 : List AOper := [
 oP 4 (.mv (.c (.int .i64 1)))]
def a92_9 : List AOper := [
 mV 14 0,
 mV 15 1,
 oP 16 (.bin .lss (.t 14) (.t 15))]
def a92_10 : List AOper := [
 oP 4 (.mv (.c (.int .i64 (-1))))]
def a92_11 : List AOper := [
 mV 17 0,
 mV 18 1,
 oP 19 (.bin .gtr (.t 17) (.t 18))]
def a92_12 : List AOper := [
 oP 4 (.mv (.c (.int .i64 1)))]
def a92_13 : List AOper := [
 oP 4 (.mv (.c (.int .i64 0)))]
def a92 : AFunc := ⟨[.tmp 4], (.seq (.ops a92_0) (.seq (.ops a92_1) (.seq (.ops a92_2) (.seq (.seq (.ops a92_3) (.cond (.t 11) (.seq (.seq (.ops a92_4) (.cond (.t 12) (.seq (.ops a92_5) .ret) .skip)) (.seq (.ops a92_6) .ret)) .skip)) (.seq (.seq (.ops a92_7) (.cond (.t 13) (.seq (.ops a92_8) .ret) .skip)) (.seq (.seq (.ops a92_9) (.cond (.t 16) (.seq (.ops a92_10) .ret) .skip)) (.seq (.seq (.ops a92_11) (.cond (.t 19) (.seq (.ops a92_12) .ret) .skip)) (.seq (.ops a92_13) .ret))))))))⟩
def a93_0 : List AOper := [
 oP 4 (.mv (.c (.int .i64 0)))]
def a93_1 : List AOper := [
 mV 9 0,
 oP 10 (.len false (.t 9)),
 oP 11 (.mv (.c (.int .i64 0)))]
def a93_2 : List AOper := [
 oP 12 (.bin .lss (.t 11) (.t 10))]
def a93_3 : List AOper := [
 mV 13 11,
 oP 14 (.idxAddr 1 (.t 9) (.t 11)),
 oP 15 (.load false 1 (.t 14)),
 mV 5 13,
 mV 6 15]
def a93_4 : List AOper := [
 mV 16 5,
 mV 17 1,
 oP 18 (.len false (.t 17)),
 oP 19 (.bin .geq (.t 16) (.t 18))]
def a93_5 : List AOper := [
 oP 4 (.mv (.c (.int .i64 1)))]
def a93_6 : List AOper := [
 mV 20 1,
 mV 21 5,
 oP 22 (.idxAddr 1 (.t 20) (.t 21)),
 oP 23 (.load false 1 (.t 22)),
 mV 7 23]
def a93_7 : List AOper := [
 mV 24 6,
 mV 25 7,
 oP 26 (.call 92 [(.t 24), (.t 25)]),
 mV 8 26]
def a93_8 : List AOper := [
 mV 27 8,
 oP 28 (.bin .neq (.t 27) (.c (.int .i64 0)))]
def a93_9 : List AOper := [
 mV 29 8,
 mV 4 29]
def a93_10 : List AOper := [
 oP 30 (.bin .add (.t 11) (.c (.int .i64 1))),
 mV 11 30]
def a93_l11 : AC := (.seq (.ops a93_2) (.seq (.cond (.t 12) .skip (.exit 0)) (.seq (.block 1 (.seq (.ops a93_3) (.seq (.seq (.ops a93_4) (.cond (.t 19) (.seq (.ops a93_5) .ret) .skip)) (.seq (.ops a93_6) (.seq (.ops a93_7) (.seq (.ops a93_8) (.cond (.t 28) (.seq (.ops a93_9) .ret) .skip))))))) (.ops a93_10))))
def a93_12 : List AOper := [
 mV 31 0,
 oP 32 (.len false (.t 31)),
 mV 33 1,
 oP 34 (.len false (.t 33)),
 oP 35 (.bin .lss (.t 32) (.t 34))]
def a93_13 : List AOper := [
 oP 4 (.mv (.c (.int .i64 (-1))))]
def a93_14 : List AOper := [
 oP 4 (.mv (.c (.int .i64 0)))]
def a93 : AFunc := ⟨[.tmp 4], (.seq (.ops a93_0) (.seq (.seq (.ops a93_1) (.block 0 (.loop a93_l11))) (.seq (.seq (.ops a93_12) (.cond (.t 35) (.seq (.ops a93_13) .ret) .skip)) (.seq (.ops a93_14) .ret))))⟩
def a94_0 : List AOper := [
 oP 4 (.mv (.c (.int .i64 0)))]
def a94_1 : List AOper := [
 mV 7 0,
 oP 8 (.call 127 [(.t 7)]),
 mV 5 8]
def a94_2 : List AOper := [
 mV 9 1,
 oP 10 (.call 127 [(.t 9)]),
 mV 6 10]
def a94_3 : List AOper := [
 mV 11 5]
def a94_4 : List AOper := [
 mV 12 6]
def a94_5 : List AOper := [
 oP 4 (.mv (.c (.int .i64 0)))]
def a94_6 : List AOper := [
 oP 4 (.mv (.c (.int .i64 (-1))))]
def a94_7 : List AOper := [
 mV 13 6]
def a94_8 : List AOper := [
 oP 4 (.mv (.c (.int .i64 1)))]
def a94_9 : List AOper := [
 mV 14 0,
 mV 15 1,
 oP 16 (.bin .lss (.t 14) (.t 15))]
def a94_10 : List AOper := [
 oP 4 (.mv (.c (.int .i64 (-1))))]
def a94_11 : List AOper := [
 mV 17 0,
 mV 18 1,
 oP 19 (.bin .gtr (.t 17) (.t 18))]
def a94_12 : List AOper := [
 oP 4 (.mv (.c (.int .i64 1)))]
def a94_13 : List AOper := [
 oP 4 (.mv (.c (.int .i64 0)))]
def a94 : AFunc := ⟨[.tmp 4], (.seq (.ops a94_0) (.seq (.ops a94_1) (.seq (.ops a94_2) (.seq (.seq (.ops a94_3) (.cond (.t 11) (.seq (.seq (.ops a94_4) (.cond (.t 12) (.seq (.ops a94_5) .ret) .skip)) (.seq (.ops a94_6) .ret)) .skip)) (.seq (.seq (.ops a94_7) (.cond (.t 13) (.seq (.ops a94_8) .ret) .skip)) (.seq (.seq (.ops a94_9) (.cond (.t 16) (.seq (.ops a94_10) .ret) .skip)) (.seq (.seq (.ops a94_11) (.cond (.t 19) (.seq (.ops a94_12) .ret) .skip)) (.seq (.ops a94_13) .ret))))))))⟩
def a95_0 : List AOper := [
 oP 6 (.mv (.c (.int .i64 0)))]
def a95_1 : List AOper := [
 mV 11 0,
 oP 12 (.len false (.t 11)),
 oP 13 (.mv (.c (.int .i64 0)))]
def a95_2 : List AOper := [
 oP 14 (.bin .lss (.t 13) (.t 12))]
def a95_3 : List AOper := [
 mV 15 13,
 oP 16 (.idxAddr 6 (.t 11) (.t 13)),
 oP 17 (.load true 6 (.t 16)),
 oP 8 (.alloc [(.int .i64 0), (.int .i64 0), (.str []), (.int .u32 0), .nils, .nils]),
 mV 7 15,
 oN (.store 6 (.t 8) (.t 17))]
def a95_4 : List AOper := [
 mV 18 7,
 mV 19 1,
 oP 20 (.len false (.t 19)),
 oP 21 (.bin .geq (.t 18) (.t 20))]
def a95_5 : List AOper := [
 oP 6 (.mv (.c (.int .i64 1)))]
def a95_6 : List AOper := [
 mV 22 1,
 mV 23 7,
 oP 24 (.idxAddr 6 (.t 22) (.t 23)),
 oP 25 (.load true 6 (.t 24)),
 oP 9 (.alloc [(.int .i64 0), (.int .i64 0), (.str []), (.int .u32 0), .nils, .nils]),
 oN (.store 6 (.t 9) (.t 25))]
def a95_7 : List AOper := [
 mV 26 2,
 oP 27 (.load true 6 (.t 8)),
 oP 28 (.load true 6 (.t 9)),
 oP 29 (.callv (.t 26) [(.t 27), (.t 28)]),
 mV 10 29]
def a95_8 : List AOper := [
 mV 30 10,
 oP 31 (.bin .neq (.t 30) (.c (.int .i64 0)))]
def a95_9 : List AOper := [
 mV 32 10,
 mV 6 32]
def a95_10 : List AOper := [
 oP 33 (.bin .add (.t 13) (.c (.int .i64 1))),
 mV 13 33]
def a95_l11 : AC := (.seq (.ops a95_2) (.seq (.cond (.t 14) .skip (.exit 0)) (.seq (.block 1 (.seq (.ops a95_3) (.seq (.seq (.ops a95_4) (.cond (.t 21) (.seq (.ops a95_5) .ret) .skip)) (.seq (.ops a95_6) (.seq (.ops a95_7) (.seq (.ops a95_8) (.cond (.t 31) (.seq (.ops a95_9) .ret) .skip))))))) (.ops a95_10))))
def a95_12 : List AOper := [
 mV 34 0,
 oP 35 (.len false (.t 34)),
 mV 36 1,
 oP 37 (.len false (.t 36)),
 oP 38 (.bin .lss (.t 35) (.t 37))]
def a95_13 : List AOper := [
 oP 6 (.mv (.c (.int .i64 (-1))))]
def a95_14 : List AOper := [
 oP 6 (.mv (.c (.int .i64 0)))]
def a95 : AFunc := ⟨[.tmp 6], (.seq (.ops a95_0) (.seq (.seq (.ops a95_1) (.block 0 (.loop a95_l11))) (.seq (.seq (.ops a95_12) (.cond (.t 38) (.seq (.ops a95_13) .ret) .skip)) (.seq (.ops a95_14) .ret))))⟩
def a96_0 : List AOper := [
 oP 4 (.mv (.c (.int .i64 0)))]
def a96_1 : List AOper := [
 mV 7 0,
 oP 8 (.len false (.t 7)),
 oP 9 (.bin .gtr (.t 8) (.c (.int .i64 1))),
 mV 10 9,
 oG 11 (.mv (.t 1)) 10 true,
 oG 12 (.len false (.t 11)) 10 true,
 oG 13 (.bin .gtr (.t 12) (.c (.int .i64 1))) 10 true,
 oP 14 (.pick (.t 10) (.t 13) (.c (.bool false)))]
def a96_2 : List AOper := [
 mV 15 0,
 oP 16 (.idxAddr 6 (.t 15) (.c (.int .i64 0))),
 oP 17 (.load true 6 (.t 16)),
 mV 18 1,
 oP 19 (.idxAddr 6 (.t 18) (.c (.int .i64 0))),
 oP 20 (.load true 6 (.t 19)),
 oP 21 (.call 53 [(.t 17), (.t 20)]),
 mV 5 21]
def a96_2b : List Nat := [0, 1, 3, 0, 8, 24, 63, 127]
def a96_3 : List AOper := [
 mV 22 5,
 oP 23 (.bin .neq (.t 22) (.c (.int .i64 0)))]
def a96_4 : List AOper := [
 mV 24 5,
 mV 4 24]
def a96_5 : List AOper := [
 mV 25 0,
 oP 26 (.slice 6 (.t 25) (some (.c (.int .i64 1))) none none),
 mV 27 1,
 oP 28 (.slice 6 (.t 27) (some (.c (.int .i64 1))) none none),
 mV 0 26,
 mV 1 28]
def a96_5b : List Nat := [0, 1, 0, 4, 3, 31]
def a96_l6 : AC := (.seq (.seq (.ops a96_1) (.cond (.t 14) .skip (.exit 0))) (.block 1 (.seq (.seq (.draw a96_2 a96_2b) (.seq (.ops a96_3) (.cond (.t 23) (.seq (.ops a96_4) .ret) .skip))) (.draw a96_5 a96_5b))))
def a96_7 : List AOper := [
 oP 6 (.mv (.c (.fn (.func 128) [] [])))]
def a96_8 : List AOper := [
 mV 29 6,
 mV 30 0,
 oP 31 (.callv (.t 29) [(.t 30)]),
 mV 32 6,
 mV 33 1,
 oP 34 (.callv (.t 32) [(.t 33)]),
 oP 35 (.call 53 [(.t 31), (.t 34)]),
 mV 4 35]
def a96 : AFunc := ⟨[.tmp 4], (.seq (.ops a96_0) (.seq (.block 0 (.loop a96_l6)) (.seq (.ops a96_7) (.seq (.ops a96_8) .ret))))⟩
def a97_0 : List AOper := [
 oP 4 (.box false 6 (.t 1)),
 oP 6 (.mv (.c .nili))]
def a97_1 : List AOper := [
 mV 12 0,
 oP 13 (.nilCheck (.t 12)),
 oP 14 (.fieldAddr 0 (.t 13)),
 oP 15 (.load false 1 (.t 14)),
 mV 7 15]
def a97_2 : List AOper := [
 mV 17 7,
 oP 18 (.bin .eql (.t 17) (.c (.int .i64 4096))),
 mV 16 18]
def a97_3 : List AOper := [
 mV 19 7,
 oP 20 (.call 129 [(.t 19), (.c (.int .i64 5)), (.c .nili)]),
 mV 6 20]
def a97_4 : List AOper := [
 mV 22 2,
 oP 23 (.bin .gtr (.t 22) (.c (.int .i64 256))),
 mV 21 23]
def a97_5 : List AOper := [
 mV 24 7,
 oP 25 (.call 129 [(.t 24), (.c (.int .i64 9)), (.c .nili)]),
 mV 6 25]
def a97_6 : List AOper := [
 oP 26 (.load true 6 (.t 4)),
 mV 27 7,
 oP 28 (.call 130 [(.t 26), (.t 27)]),
 mV 8 28]
def a97_7 : List AOper := [
 mV 29 8,
 oP 30 (.eq true (.iface true) (.t 29) (.c .nili))]
def a97_8 : List AOper := [
 mV 31 8,
 mV 6 31]
def a97_9 : List AOper := [
 mV 32 0,
 oP 33 (.nilCheck (.t 32)),
 oP 34 (.fieldAddr 0 (.t 33)),
 oP 35 (.load false 1 (.t 34)),
 oP 36 (.bin .add (.t 35) (.c (.int .i64 1))),
 oP 37 (.nilCheck (.t 32)),
 oP 38 (.fieldAddr 0 (.t 37)),
 oN (.store 1 (.t 38) (.t 36))]
def a97_10 : List AOper := [
 mV 39 0,
 mV 40 0,
 oP 41 (.nilCheck (.t 40)),
 oP 42 (.fieldAddr 1 (.t 41)),
 oP 43 (.load false 1 (.t 42)),
 mV 44 2,
 oP 45 (.minmax true (.t 43) (.t 44)),
 oP 46 (.nilCheck (.t 39)),
 oP 47 (.fieldAddr 1 (.t 46)),
 oN (.store 1 (.t 47) (.t 45))]
def a97_11 : List AOper := [
 oP 48 (.fieldAddr 5 (.t 4)),
 oP 49 (.load false 1 (.t 48)),
 oP 50 (.len false (.t 49)),
 oP 51 (.mv (.c (.int .i64 0)))]
def a97_12 : List AOper := [
 oP 52 (.bin .lss (.t 51) (.t 50))]
def a97_13 : List AOper := [
 oP 53 (.idxAddr 6 (.t 49) (.t 51)),
 oP 54 (.load true 6 (.t 53)),
 oP 10 (.alloc [(.int .i64 0), (.int .i64 0), (.str []), (.int .u32 0), .nils, .nils]),
 oN (.store 6 (.t 10) (.t 54))]
def a97_14 : List AOper := [
 mV 55 0,
 oP 56 (.load true 6 (.t 10)),
 mV 57 2,
 oP 58 (.bin .add (.t 57) (.c (.int .i64 1))),
 oP 59 (.call 97 [(.t 55), (.t 56), (.t 58)]),
 mV 11 59]
def a97_15 : List AOper := [
 mV 60 11,
 oP 61 (.eq true (.iface true) (.t 60) (.c .nili))]
def a97_16 : List AOper := [
 mV 62 11,
 mV 6 62]
def a97_17 : List AOper := [
 oP 63 (.bin .add (.t 51) (.c (.int .i64 1))),
 mV 51 63]
def a97_l18 : AC := (.seq (.ops a97_12) (.seq (.cond (.t 52) .skip (.exit 1)) (.seq (.block 2 (.seq (.ops a97_13) (.seq (.ops a97_14) (.seq (.ops a97_15) (.cond (.t 61) (.seq (.ops a97_16) .ret) .skip))))) (.ops a97_17))))
def a97_19 : List AOper := [
 oP 6 (.mv (.c .nili))]
def a97 : AFunc := ⟨[.tmp 6], (.seq (.ops a97_0) (.seq (.ops a97_1) (.seq (.block 0 (.seq (.ops a97_2) (.cond (.t 16) (.seq (.ops a97_3) .ret) (.seq (.ops a97_4) (.cond (.t 21) (.seq (.ops a97_5) .ret) .skip))))) (.seq (.seq (.ops a97_6) (.seq (.ops a97_7) (.cond (.t 30) (.seq (.ops a97_8) .ret) .skip))) (.seq (.ops a97_9) (.seq (.ops a97_10) (.seq (.seq (.ops a97_11) (.block 1 (.loop a97_l18))) (.seq (.ops a97_19) .ret))))))))⟩
def a113_0 : List AOper := [
 oP 1 (.box false 6 (.t 0)),
 oP 2 (.alloc [(.int .i64 0), (.int .i64 0), (.str []), (.int .u32 0), .nils, .nils])]
def a113_1 : List AOper := [
 oP 3 (.fieldAddr 5 (.t 1)),
 oP 4 (.load false 1 (.t 3)),
 oP 5 (.len false (.t 4)),
 oP 6 (.bin .eql (.t 5) (.c (.int .i64 2)))]
def a113_2 : List AOper := [
 oP 7 (.fieldAddr 5 (.t 1)),
 oP 8 (.load false 1 (.t 7)),
 oP 9 (.idxAddr 6 (.t 8) (.c (.int .i64 1))),
 oP 10 (.load true 6 (.t 9)),
 oN (.store 6 (.t 2) (.t 10))]
def a113_3 : List AOper := [
 oP 11 (.fieldAddr 5 (.t 1)),
 oP 12 (.load false 1 (.t 11)),
 oP 13 (.slice 6 (.t 12) (some (.c (.int .i64 1))) none none),
 oP 14 (.build [(.int .i64 0), (.int .i64 0), (.str []), (.int .u32 0), .nils, .nils] [(0, 1, (.c (.int .i64 7))), (5, 1, (.t 13))]),
 oN (.store 6 (.t 2) (.t 14))]
def a113 : AFunc := ⟨[.cell 2 true 6], (.seq (.ops a113_0) (.seq (.seq (.ops a113_1) (.cond (.t 6) (.seq (.ops a113_2) .ret) .skip)) (.seq (.ops a113_3) .ret)))⟩
def a119_0 : List AOper := [
 oP 2 (.mv (.c .nils))]
def a119_1 : List AOper := [
 oP 3 (.mv (.c (.str [105, 115, 99, 110, 97])))]
def a119_2 : List AOper := [
 oP 7 (.makeSlice 1 1 [(.bool false)] (.c (.int .i64 5)) (.c (.int .i64 5))),
 mV 4 7]
def a119_3 : List AOper := [
 oP 5 (.mv (.c (.int .i64 0)))]
def a119_4 : List AOper := [
 mV 8 5,
 oP 9 (.bin .lss (.t 8) (.c (.int .i64 5)))]
def a119_5 : List AOper := [
 oP 6 (.mv (.c (.int .i64 0)))]
def a119_6 : List AOper := [
 mV 12 6,
 mV 13 0,
 oP 14 (.len true (.t 13)),
 oP 15 (.bin .lss (.t 12) (.t 14))]
def a119_7 : List AOper := [
 mV 18 4,
 mV 19 5,
 mV 20 4,
 mV 21 5,
 oP 22 (.idxAddr 1 (.t 20) (.t 21)),
 oP 23 (.load false 1 (.t 22)),
 mV 24 23,
 oG 25 (.mv (.t 3)) 24 false,
 oG 26 (.mv (.t 5)) 24 false,
 oG 27 (.idxStr (.t 25) (.t 26)) 24 false,
 oG 28 (.mv (.t 0)) 24 false,
 oG 29 (.mv (.t 6)) 24 false,
 oG 30 (.idxStr (.t 28) (.t 29)) 24 false,
 oG 31 (.bin .eql (.t 27) (.t 30)) 24 false,
 oP 32 (.pick (.t 24) (.c (.bool true)) (.t 31)),
 oP 33 (.idxAddr 1 (.t 18) (.t 19)),
 oN (.store 1 (.t 33) (.t 32))]
def a119_7b : List Nat := [0, 0, 0, 0, 12, 28, 60, 124, 124, 508, 124, 124, 3196, 8188, 16380, 32767, 65535]
def a119_8 : List AOper := [
 mV 16 6,
 oP 17 (.bin .add (.t 16) (.c (.int .i64 1))),
 mV 6 17]
def a119_l9 : AC := (.seq (.seq (.ops a119_6) (.cond (.t 15) .skip (.exit 2))) (.seq (.block 3 (.draw a119_7 a119_7b)) (.ops a119_8)))
def a119_10 : List AOper := [
 mV 10 5,
 oP 11 (.bin .add (.t 10) (.c (.int .i64 1))),
 mV 5 11]
def a119_l11 : AC := (.seq (.seq (.ops a119_4) (.cond (.t 9) .skip (.exit 0))) (.seq (.block 1 (.seq (.ops a119_5) (.block 2 (.loop a119_l9)))) (.ops a119_10)))
def a119_12 : List AOper := [
 mV 34 4,
 mV 2 34]
def a119 : AFunc := ⟨[.tmp 2], (.seq (.ops a119_0) (.seq (.ops a119_1) (.seq (.ops a119_2) (.seq (.seq (.ops a119_3) (.block 0 (.loop a119_l11))) (.seq (.ops a119_12) .ret)))))⟩
def a120_0 : List AOper := [
 oP 4 (.mv (.c (.int .i64 0)))]
def a120_1 : List AOper := [
 mV 10 0,
 mV 11 1,
 oP 12 (.idxStr (.t 10) (.t 11)),
 mV 5 12]
def a120_2 : List AOper := [
 oP 6 (.mv (.c (.int .i64 0)))]
def a120_3 : List AOper := [
 oP 7 (.mv (.c (.int .i64 0)))]
def a120_4 : List AOper := [
 mV 14 5,
 oP 15 (.bin .lss (.t 14) (.c (.int .u8 128))),
 mV 13 15]
def a120_5 : List AOper := [
 oP 4 (.mv (.c (.int .i64 1)))]
def a120_6 : List AOper := [
 mV 17 5,
 oP 18 (.bin .geq (.t 17) (.c (.int .u8 194))),
 mV 19 18,
 oG 20 (.mv (.t 5)) 19 true,
 oG 21 (.bin .leq (.t 20) (.c (.int .u8 223))) 19 true,
 oP 22 (.pick (.t 19) (.t 21) (.c (.bool false))),
 mV 16 22]
def a120_7 : List AOper := [
 mV 23 5,
 oP 24 (.conv (.int .i64) (.t 23)),
 oP 25 (.bin .sub (.t 24) (.c (.int .i64 192))),
 oP 6 (.mv (.c (.int .i64 2))),
 mV 7 25]
def a120_8 : List AOper := [
 mV 27 5,
 oP 28 (.bin .geq (.t 27) (.c (.int .u8 224))),
 mV 29 28,
 oG 30 (.mv (.t 5)) 29 true,
 oG 31 (.bin .leq (.t 30) (.c (.int .u8 239))) 29 true,
 oP 32 (.pick (.t 29) (.t 31) (.c (.bool false))),
 mV 26 32]
def a120_9 : List AOper := [
 mV 33 5,
 oP 34 (.conv (.int .i64) (.t 33)),
 oP 35 (.bin .sub (.t 34) (.c (.int .i64 224))),
 oP 6 (.mv (.c (.int .i64 3))),
 mV 7 35]
def a120_10 : List AOper := [
 mV 37 5,
 oP 38 (.bin .geq (.t 37) (.c (.int .u8 240))),
 mV 39 38,
 oG 40 (.mv (.t 5)) 39 true,
 oG 41 (.bin .leq (.t 40) (.c (.int .u8 244))) 39 true,
 oP 42 (.pick (.t 39) (.t 41) (.c (.bool false))),
 mV 36 42]
def a120_11 : List AOper := [
 mV 43 5,
 oP 44 (.conv (.int .i64) (.t 43)),
 oP 45 (.bin .sub (.t 44) (.c (.int .i64 240))),
 oP 6 (.mv (.c (.int .i64 4))),
 mV 7 45]
def a120_12 : List AOper := [
 oP 4 (.mv (.c (.int .i64 0)))]
def a120_13 : List AOper := [
 mV 46 1,
 mV 47 6,
 oP 48 (.bin .add (.t 46) (.t 47)),
 mV 49 0,
 oP 50 (.len true (.t 49)),
 oP 51 (.bin .gtr (.t 48) (.t 50))]
def a120_14 : List AOper := [
 oP 4 (.mv (.c (.int .i64 0)))]
def a120_15 : List AOper := [
 oP 8 (.mv (.c (.int .i64 1)))]
def a120_16 : List AOper := [
 mV 52 8,
 mV 53 6,
 oP 54 (.bin .lss (.t 52) (.t 53))]
def a120_17 : List AOper := [
 mV 57 0,
 mV 58 1,
 mV 59 8,
 oP 60 (.bin .add (.t 58) (.t 59)),
 oP 61 (.idxStr (.t 57) (.t 60)),
 mV 9 61]
def a120_18 : List AOper := [
 mV 62 9,
 oP 63 (.bin .lss (.t 62) (.c (.int .u8 128))),
 mV 64 63,
 oG 65 (.mv (.t 9)) 64 false,
 oG 66 (.bin .gtr (.t 65) (.c (.int .u8 191))) 64 false,
 oP 67 (.pick (.t 64) (.c (.bool true)) (.t 66))]
def a120_19 : List AOper := [
 oP 4 (.mv (.c (.int .i64 0)))]
def a120_20 : List AOper := [
 mV 68 7,
 oP 69 (.bin .mul (.t 68) (.c (.int .i64 64))),
 mV 70 9,
 oP 71 (.conv (.int .i64) (.t 70)),
 oP 72 (.bin .add (.t 69) (.t 71)),
 oP 73 (.bin .sub (.t 72) (.c (.int .i64 128))),
 mV 7 73]
def a120_21 : List AOper := [
 mV 55 8,
 oP 56 (.bin .add (.t 55) (.c (.int .i64 1))),
 mV 8 56]
def a120_l22 : AC := (.seq (.seq (.ops a120_16) (.cond (.t 54) .skip (.exit 1))) (.seq (.block 2 (.seq (.ops a120_17) (.seq (.seq (.ops a120_18) (.cond (.t 67) (.seq (.ops a120_19) .ret) .skip)) (.ops a120_20)))) (.ops a120_21)))
def a120_23 : List AOper := [
 mV 74 6,
 oP 75 (.bin .eql (.t 74) (.c (.int .i64 3))),
 mV 76 75,
 oG 77 (.mv (.t 7)) 76 true,
 oG 78 (.bin .lss (.t 77) (.c (.int .i64 2048))) 76 true,
 oG 79 (.mv (.t 78)) 76 true,
 oG 80 (.mv (.t 7)) 79 false,
 oG 81 (.bin .geq (.t 80) (.c (.int .i64 55296))) 79 false,
 oG 82 (.mv (.t 81)) 79 false,
 oG 83 (.mv (.t 7)) 82 true,
 oG 84 (.bin .leq (.t 83) (.c (.int .i64 57343))) 82 true,
 oG 85 (.pick (.t 82) (.t 84) (.c (.bool false))) 79 false,
 oG 86 (.pick (.t 79) (.c (.bool true)) (.t 85)) 76 true,
 oP 87 (.pick (.t 76) (.t 86) (.c (.bool false))),
 mV 88 87,
 oG 89 (.mv (.t 6)) 88 false,
 oG 90 (.bin .eql (.t 89) (.c (.int .i64 4))) 88 false,
 oG 91 (.mv (.t 90)) 88 false,
 oG 92 (.mv (.t 7)) 91 true,
 oG 93 (.bin .lss (.t 92) (.c (.int .i64 65536))) 91 true,
 oG 94 (.mv (.t 93)) 91 true,
 oG 95 (.mv (.t 7)) 94 false,
 oG 96 (.bin .gtr (.t 95) (.c (.int .i64 1114111))) 94 false,
 oG 97 (.pick (.t 94) (.c (.bool true)) (.t 96)) 91 true,
 oG 98 (.pick (.t 91) (.t 97) (.c (.bool false))) 88 false,
 oP 99 (.pick (.t 88) (.c (.bool true)) (.t 98))]
def a120_24 : List AOper := [
 oP 4 (.mv (.c (.int .i64 0)))]
def a120_25 : List AOper := [
 mV 100 6,
 mV 4 100]
def a120 : AFunc := ⟨[.tmp 4], (.seq (.ops a120_0) (.seq (.ops a120_1) (.seq (.ops a120_2) (.seq (.ops a120_3) (.seq (.block 0 (.seq (.ops a120_4) (.cond (.t 13) (.seq (.ops a120_5) .ret) (.seq (.ops a120_6) (.cond (.t 16) (.ops a120_7) (.seq (.ops a120_8) (.cond (.t 26) (.ops a120_9) (.seq (.ops a120_10) (.cond (.t 36) (.ops a120_11) (.seq (.ops a120_12) .ret)))))))))) (.seq (.seq (.ops a120_13) (.cond (.t 51) (.seq (.ops a120_14) .ret) .skip)) (.seq (.seq (.ops a120_15) (.block 1 (.loop a120_l22))) (.seq (.seq (.ops a120_23) (.cond (.t 99) (.seq (.ops a120_24) .ret) .skip)) (.seq (.ops a120_25) .ret)))))))))⟩
def a121_0 : List AOper := [
 oP 2 (.mv (.c (.bool false)))]
def a121_1 : List AOper := [
 mV 3 0,
 oP 4 (.bin .geq (.t 3) (.c (.int .u8 97))),
 mV 5 4,
 oG 6 (.mv (.t 0)) 5 true,
 oG 7 (.bin .leq (.t 6) (.c (.int .u8 122))) 5 true,
 oP 8 (.pick (.t 5) (.t 7) (.c (.bool false))),
 mV 2 8]
def a121 : AFunc := ⟨[.tmp 2], (.seq (.ops a121_0) (.seq (.ops a121_1) .ret))⟩
def a122_0 : List AOper := [
 oP 2 (.mv (.c (.bool false)))]
def a122_1 : List AOper := [
 oP 5 (.lit true 1 19 [(.str []), (.str []), (.str []), (.str []), (.str []), (.str []), (.str []), (.str []), (.str []), (.str []), (.str []), (.str []), (.str []), (.str []), (.str []), (.str []), (.str []), (.str []), (.str [])] [(0, 1, (.c (.str [97, 102, 116, 101, 114]))), (1, 1, (.c (.str [97, 110, 100]))), (2, 1, (.c (.str [97, 110, 100, 97, 108, 115, 111]))), (3, 1, (.c (.str [98, 101, 103, 105, 110]))), (4, 1, (.c (.str [99, 97, 115, 101]))), (5, 1, (.c (.str [99, 97, 116, 99, 104]))), (6, 1, (.c (.str [100, 105, 118]))), (7, 1, (.c (.str [101, 110, 100]))), (8, 1, (.c (.str [102, 117, 110]))), (9, 1, (.c (.str [105, 102]))), (10, 1, (.c (.str [110, 111, 116]))), (11, 1, (.c (.str [111, 102]))), (12, 1, (.c (.str [111, 114]))), (13, 1, (.c (.str [111, 114, 101, 108, 115, 101]))), (14, 1, (.c (.str [114, 101, 99, 101, 105, 118, 101]))), (15, 1, (.c (.str [114, 101, 109]))), (16, 1, (.c (.str [116, 114, 121]))), (17, 1, (.c (.str [119, 104, 101, 110]))), (18, 1, (.c (.str [120, 111, 114])))]),
 mV 3 5]
def a122_2 : List AOper := [
 oP 4 (.mv (.c (.int .i64 0)))]
def a122_3 : List AOper := [
 mV 6 4,
 mV 7 3,
 oP 8 (.len false (.t 7)),
 oP 9 (.bin .lss (.t 6) (.t 8))]
def a122_4 : List AOper := [
 mV 12 3,
 mV 13 4,
 oP 14 (.idxAddr 1 (.t 12) (.t 13)),
 oP 15 (.load false 1 (.t 14)),
 mV 16 0,
 oP 17 (.bin .eql (.t 15) (.t 16))]
def a122_5 : List AOper := [
 oP 2 (.mv (.c (.bool true)))]
def a122_6 : List AOper := [
 mV 10 4,
 oP 11 (.bin .add (.t 10) (.c (.int .i64 1))),
 mV 4 11]
def a122_l7 : AC := (.seq (.seq (.ops a122_3) (.cond (.t 9) .skip (.exit 0))) (.seq (.block 1 (.seq (.ops a122_4) (.cond (.t 17) (.seq (.ops a122_5) .ret) .skip))) (.ops a122_6)))
def a122_8 : List AOper := [
 oP 2 (.mv (.c (.bool false)))]
def a122 : AFunc := ⟨[.tmp 2], (.seq (.ops a122_0) (.seq (.ops a122_1) (.seq (.seq (.ops a122_2) (.block 0 (.loop a122_l7))) (.seq (.ops a122_8) .ret))))⟩
def a123_0 : List AOper := [
 oP 2 (.mv (.c (.bool false)))]
def a123_1 : List AOper := [
 mV 3 0,
 mV 4 0,
 oP 5 (.bin .neq (.t 3) (.t 4)),
 mV 2 5]
def a123 : AFunc := ⟨[.tmp 2], (.seq (.ops a123_0) (.seq (.ops a123_1) .ret))⟩
def a124_0 : List AOper := [
 oP 2 (.mv (.c (.bool false)))]
def a124_1 : List AOper := [
 mV 3 0,
 mV 4 0,
 oP 5 (.bin .neq (.t 3) (.t 4)),
 mV 2 5]
def a124 : AFunc := ⟨[.tmp 2], (.seq (.ops a124_0) (.seq (.ops a124_1) .ret))⟩
def a125_0 : List AOper := [
 oP 2 (.mv (.c (.bool false)))]
def a125_1 : List AOper := [
 mV 3 0,
 mV 4 0,
 oP 5 (.bin .neq (.t 3) (.t 4)),
 mV 2 5]
def a125 : AFunc := ⟨[.tmp 2], (.seq (.ops a125_0) (.seq (.ops a125_1) .ret))⟩
def a126_0 : List AOper := [
 oP 2 (.mv (.c (.bool false)))]
def a126_1 : List AOper := [
 mV 3 0,
 mV 4 0,
 oP 5 (.bin .neq (.t 3) (.t 4)),
 mV 2 5]
def a126 : AFunc := ⟨[.tmp 2], (.seq (.ops a126_0) (.seq (.ops a126_1) .ret))⟩
def a127_0 : List AOper := [
 oP 2 (.mv (.c (.bool false)))]
def a127_1 : List AOper := [
 mV 3 0,
 mV 4 0,
 oP 5 (.bin .neq (.t 3) (.t 4)),
 mV 2 5]
def a127 : AFunc := ⟨[.tmp 2], (.seq (.ops a127_0) (.seq (.ops a127_1) .ret))⟩
def a128_0 : List AOper := [
 oP 2 (.alloc [(.int .i64 0), (.int .i64 0), (.str []), (.int .u32 0), .nils, .nils])]
def a128_1 : List AOper := [
 mV 3 0,
 oP 4 (.len false (.t 3)),
 oP 5 (.bin .eql (.t 4) (.c (.int .i64 1)))]
def a128_2 : List AOper := [
 mV 6 0,
 oP 7 (.idxAddr 6 (.t 6) (.c (.int .i64 0))),
 oP 8 (.load true 6 (.t 7)),
 oN (.store 6 (.t 2) (.t 8))]
def a128_3 : List AOper := [
 mV 9 0,
 oP 10 (.build [(.int .i64 0), (.int .i64 0), (.str []), (.int .u32 0), .nils, .nils] [(0, 1, (.c (.int .i64 7))), (5, 1, (.t 9))]),
 oN (.store 6 (.t 2) (.t 10))]
def a128 : AFunc := ⟨[.cell 2 true 6], (.seq (.ops a128_0) (.seq (.seq (.ops a128_1) (.cond (.t 5) (.seq (.ops a128_2) .ret) .skip)) (.seq (.ops a128_3) .ret)))⟩
def a129_0 : List AOper := [
 oP 6 (.mv (.c .nili))]
def a129_1 : List AOper := [
 mV 7 0,
 mV 8 1,
 mV 9 2,
 oP 10 (.build [(.str []), (.int .i64 0), (.int .i64 0), .nili] [(0, 1, (.c (.str [116, 101, 114, 109]))), (1, 1, (.t 7)), (2, 1, (.t 8)), (3, 1, (.t 9))]),
 oP 11 (.box true 4 (.t 10)),
 oP 12 (.mkIface 69 (.t 11)),
 mV 6 12]
def a129 : AFunc := ⟨[.tmp 6], (.seq (.ops a129_0) (.seq (.ops a129_1) .ret))⟩
def a130_0 : List AOper := [
 oP 2 (.box false 6 (.t 0)),
 oP 4 (.mv (.c .nili))]
def a130_1 : List AOper := [
 oP 5 (.mv (.c (.bool false)))]
def a130_2 : List AOper := [
 oP 7 (.fieldAddr 0 (.t 2)),
 oP 8 (.load false 1 (.t 7))]
def a130_3 : List AOper := [
 oP 10 (.bin .eql (.t 8) (.c (.int .i64 1))),
 mV 9 10]
def a130_4 : List AOper := [
 oP 11 (.load true 6 (.t 2)),
 oP 12 (.call 139 [(.t 11), (.c (.bool false)), (.c (.bool false)), (.c (.bool false))]),
 mV 5 12]
def a130_5 : List AOper := [
 oP 14 (.bin .eql (.t 8) (.c (.int .i64 2))),
 mV 13 14]
def a130_6 : List AOper := [
 oP 15 (.load true 6 (.t 2)),
 oP 16 (.call 139 [(.t 15), (.c (.bool true)), (.c (.bool false)), (.c (.bool false))]),
 mV 5 16]
def a130_7 : List AOper := [
 oP 18 (.bin .eql (.t 8) (.c (.int .i64 3))),
 mV 17 18]
def a130_8 : List AOper := [
 oP 19 (.load true 6 (.t 2)),
 oP 20 (.call 139 [(.t 19), (.c (.bool true)), (.c (.bool true)), (.c (.bool false))]),
 mV 21 20,
 oG 22 (.fieldAddr 4 (.t 2)) 21 true,
 oG 23 (.load false 1 (.t 22)) 21 true,
 oG 24 (.len false (.t 23)) 21 true,
 oG 25 (.bin .eql (.t 24) (.c (.int .i64 3))) 21 true,
 oP 26 (.pick (.t 21) (.t 25) (.c (.bool false))),
 mV 5 26]
def a130_9 : List AOper := [
 oP 28 (.bin .eql (.t 8) (.c (.int .i64 4))),
 mV 27 28]
def a130_10 : List AOper := [
 oP 29 (.load true 6 (.t 2)),
 oP 30 (.call 139 [(.t 29), (.c (.bool true)), (.c (.bool true)), (.c (.bool false))]),
 mV 31 30,
 oG 32 (.fieldAddr 4 (.t 2)) 31 true,
 oG 33 (.load false 1 (.t 32)) 31 true,
 oG 34 (.len false (.t 33)) 31 true,
 oG 35 (.bin .eql (.t 34) (.c (.int .i64 2))) 31 true,
 oP 36 (.pick (.t 31) (.t 35) (.c (.bool false))),
 mV 5 36]
def a130_11 : List AOper := [
 oP 38 (.bin .eql (.t 8) (.c (.int .i64 5))),
 mV 37 38]
def a130_12 : List AOper := [
 oP 39 (.load true 6 (.t 2)),
 oP 40 (.call 139 [(.t 39), (.c (.bool false)), (.c (.bool false)), (.c (.bool true))]),
 mV 5 40]
def a130_13 : List AOper := [
 oP 42 (.bin .eql (.t 8) (.c (.int .i64 6))),
 mV 41 42]
def a130_14 : List AOper := [
 oP 43 (.load true 6 (.t 2)),
 oP 44 (.call 139 [(.t 43), (.c (.bool false)), (.c (.bool false)), (.c (.bool false))]),
 mV 5 44]
def a130_15 : List AOper := [
 oP 46 (.bin .eql (.t 8) (.c (.int .i64 7))),
 mV 45 46]
def a130_16 : List AOper := [
 oP 47 (.load true 6 (.t 2)),
 oP 48 (.call 139 [(.t 47), (.c (.bool false)), (.c (.bool false)), (.c (.bool true))]),
 mV 49 48,
 oG 50 (.fieldAddr 5 (.t 2)) 49 true,
 oG 51 (.load false 1 (.t 50)) 49 true,
 oG 52 (.len false (.t 51)) 49 true,
 oG 53 (.bin .geq (.t 52) (.c (.int .i64 2))) 49 true,
 oP 54 (.pick (.t 49) (.t 53) (.c (.bool false))),
 mV 55 54,
 oG 56 (.fieldAddr 5 (.t 2)) 55 true,
 oG 57 (.load false 1 (.t 56)) 55 true,
 oG 58 (.fieldAddr 5 (.t 2)) 55 true,
 oG 59 (.load false 1 (.t 58)) 55 true,
 oG 60 (.len false (.t 59)) 55 true,
 oG 61 (.bin .sub (.t 60) (.c (.int .i64 1))) 55 true,
 oG 62 (.idxAddr 6 (.t 57) (.t 61)) 55 true,
 oG 63 (.fieldAddr 0 (.t 62)) 55 true,
 oG 64 (.load false 1 (.t 63)) 55 true,
 oG 65 (.bin .neq (.t 64) (.c (.int .i64 7))) 55 true,
 oP 66 (.pick (.t 55) (.t 65) (.c (.bool false))),
 mV 5 66]
def a130_17 : List AOper := [
 mV 67 5,
 oP 68 (.un .not (.t 67))]
def a130_18 : List AOper := [
 mV 69 1,
 oP 70 (.call 129 [(.t 69), (.c (.int .i64 40)), (.c .nili)]),
 mV 4 70]
def a130_19 : List AOper := [
 oP 6 (.mv (.c .nili))]
def a130_20 : List AOper := [
 oP 71 (.fieldAddr 0 (.t 2)),
 oP 72 (.load false 1 (.t 71))]
def a130_21 : List AOper := [
 oP 74 (.bin .eql (.t 72) (.c (.int .i64 1))),
 mV 73 74]
def a130_22 : List AOper := [
 oP 75 (.fieldAddr 1 (.t 2)),
 oP 76 (.load false 1 (.t 75)),
 oP 77 (.bin .lss (.t 76) (.c (.int .i64 (-576460752303423488)))),
 mV 78 77,
 oG 79 (.fieldAddr 1 (.t 2)) 78 false,
 oG 80 (.load false 1 (.t 79)) 78 false,
 oG 81 (.bin .gtr (.t 80) (.c (.int .i64 576460752303423487))) 78 false,
 oP 82 (.pick (.t 78) (.c (.bool true)) (.t 81))]
def a130_23 : List AOper := [
 mV 83 1,
 oP 84 (.call 129 [(.t 83), (.c (.int .i64 2)), (.c .nili)]),
 mV 4 84]
def a130_24 : List AOper := [
 oP 86 (.bin .eql (.t 72) (.c (.int .i64 2))),
 mV 85 86]
def a130_25 : List AOper := [
 oP 88 (.fieldAddr 2 (.t 2)),
 oP 89 (.load false 1 (.t 88)),
 oP 90 (.call 140 [(.t 89)]),
 mV 87 90,
 oP 91 (.extract (.t 87) 0),
 oP 92 (.extract (.t 87) 1),
 mV 6 92]
def a130_26 : List AOper := [
 oP 94 (.bin .eql (.t 72) (.c (.int .i64 3))),
 mV 93 94]
def a130_27 : List AOper := [
 oP 95 (.bin .eql (.t 72) (.c (.int .i64 4))),
 mV 93 95]
def a130_28 : List AOper := [
 oP 97 (.fieldAddr 2 (.t 2)),
 oP 98 (.load false 1 (.t 97)),
 oP 99 (.call 141 [(.t 98)]),
 mV 96 99,
 oP 100 (.extract (.t 96) 0),
 oP 101 (.extract (.t 96) 1),
 oP 102 (.extract (.t 96) 2),
 mV 6 102]
def a130_29 : List AOper := [
 mV 103 6,
 oP 104 (.eq true (.iface true) (.t 103) (.c .nili))]
def a130_30 : List AOper := [
 mV 105 1,
 mV 106 6,
 oP 107 (.call 142 [(.t 106)]),
 mV 108 6,
 oP 109 (.call 129 [(.t 105), (.t 107), (.t 108)]),
 mV 4 109]
def a130_31 : List AOper := [
 oP 4 (.mv (.c .nili))]
def a130 : AFunc := ⟨[.tmp 4], (.seq (.ops a130_0) (.seq (.ops a130_1) (.seq (.seq (.ops a130_2) (.block 0 (.seq (.ops a130_3) (.cond (.t 9) (.ops a130_4) (.seq (.ops a130_5) (.cond (.t 13) (.ops a130_6) (.seq (.ops a130_7) (.cond (.t 17) (.ops a130_8) (.seq (.ops a130_9) (.cond (.t 27) (.ops a130_10) (.seq (.ops a130_11) (.cond (.t 37) (.ops a130_12) (.seq (.ops a130_13) (.cond (.t 41) (.ops a130_14) (.seq (.ops a130_15) (.cond (.t 45) (.ops a130_16) .skip)))))))))))))))) (.seq (.seq (.ops a130_17) (.cond (.t 68) (.seq (.ops a130_18) .ret) .skip)) (.seq (.ops a130_19) (.seq (.seq (.ops a130_20) (.block 1 (.seq (.ops a130_21) (.cond (.t 73) (.seq (.ops a130_22) (.cond (.t 82) (.seq (.ops a130_23) .ret) .skip)) (.seq (.ops a130_24) (.cond (.t 85) (.ops a130_25) (.seq (.seq (.ops a130_26) (.cond (.t 93) .skip (.ops a130_27))) (.cond (.t 93) (.ops a130_28) .skip)))))))) (.seq (.seq (.ops a130_29) (.cond (.t 104) (.seq (.ops a130_30) .ret) .skip)) (.seq (.ops a130_31) .ret))))))))⟩
def a139_0 : List AOper := [
 oP 4 (.box false 6 (.t 0)),
 oP 8 (.mv (.c (.bool false)))]
def a139_1 : List AOper := [
 mV 9 1,
 mV 10 9,
 oG 11 (.fieldAddr 2 (.t 4)) 10 false,
 oG 12 (.load false 1 (.t 11)) 10 false,
 oG 13 (.bin .eql (.t 12) (.c (.str []))) 10 false,
 oP 14 (.pick (.t 10) (.c (.bool true)) (.t 13)),
 mV 15 14,
 oG 16 (.mv (.t 2)) 15 true,
 oG 17 (.mv (.t 16)) 15 true,
 oG 18 (.fieldAddr 4 (.t 4)) 17 false,
 oG 19 (.load false 1 (.t 18)) 17 false,
 oG 20 (.len false (.t 19)) 17 false,
 oG 21 (.bin .eql (.t 20) (.c (.int .i64 0))) 17 false,
 oG 22 (.mv (.t 21)) 17 false,
 oG 23 (.fieldAddr 3 (.t 4)) 22 true,
 oG 24 (.load false 1 (.t 23)) 22 true,
 oG 25 (.bin .eql (.t 24) (.c (.int .u32 0))) 22 true,
 oG 26 (.pick (.t 22) (.t 25) (.c (.bool false))) 17 false,
 oG 27 (.pick (.t 17) (.c (.bool true)) (.t 26)) 15 true,
 oP 28 (.pick (.t 15) (.t 27) (.c (.bool false))),
 mV 29 28,
 oG 30 (.mv (.t 3)) 29 true,
 oG 31 (.mv (.t 30)) 29 true,
 oG 32 (.fieldAddr 5 (.t 4)) 31 false,
 oG 33 (.load false 1 (.t 32)) 31 false,
 oG 34 (.len false (.t 33)) 31 false,
 oG 35 (.bin .eql (.t 34) (.c (.int .i64 0))) 31 false,
 oG 36 (.pick (.t 31) (.c (.bool true)) (.t 35)) 29 true,
 oP 37 (.pick (.t 29) (.t 36) (.c (.bool false))),
 mV 38 37,
 oG 39 (.fieldAddr 0 (.t 4)) 38 true,
 oG 40 (.load false 1 (.t 39)) 38 true,
 oG 41 (.bin .eql (.t 40) (.c (.int .i64 1))) 38 true,
 oG 42 (.mv (.t 41)) 38 true,
 oG 43 (.fieldAddr 1 (.t 4)) 42 false,
 oG 44 (.load false 1 (.t 43)) 42 false,
 oG 45 (.bin .eql (.t 44) (.c (.int .i64 0))) 42 false,
 oG 46 (.pick (.t 42) (.c (.bool true)) (.t 45)) 38 true,
 oP 47 (.pick (.t 38) (.t 46) (.c (.bool false))),
 mV 8 47]
def a139 : AFunc := ⟨[.tmp 8], (.seq (.ops a139_0) (.seq (.ops a139_1) .ret))⟩
def a140_0 : List AOper := [
 oP 2 (.mv (.c (.str []))),
 oP 3 (.mv (.c .nili))]
def a140_1 : List AOper := [
 mV 8 0,
 oP 9 (.len true (.t 8)),
 oP 10 (.bin .gtr (.t 9) (.c (.int .i64 255)))]
def a140_2 : List AOper := [
 oP 11 (.call 148 [(.c (.int .i64 0)), (.c (.int .i64 4))]),
 oP 2 (.mv (.c (.str []))),
 mV 3 11]
def a140_3 : List AOper := [
 mV 12 0,
 oP 13 (.call 149 [(.t 12)]),
 mV 4 13]
def a140_4 : List AOper := [
 mV 14 4,
 oP 15 (.bin .geq (.t 14) (.c (.int .i64 0)))]
def a140_5 : List AOper := [
 mV 16 4,
 oP 17 (.call 148 [(.t 16), (.c (.int .i64 23))]),
 oP 2 (.mv (.c (.str []))),
 mV 3 17]
def a140_6 : List AOper := [
 mV 18 0,
 oP 19 (.call 150 [(.t 18)])]
def a140_7 : List AOper := [
 mV 20 0,
 mV 2 20,
 oP 3 (.mv (.c .nili))]
def a140_8 : List AOper := [
 oP 21 (.lit true 1 1 [(.int .u8 0)] [(0, 1, (.c (.int .u8 39)))]),
 mV 5 21]
def a140_9 : List AOper := [
 mV 22 0,
 oP 23 (.conv .s2b (.t 22)),
 oP 24 (.len false (.t 23)),
 oP 25 (.mv (.c (.int .i64 0)))]
def a140_10 : List AOper := [
 oP 26 (.bin .lss (.t 25) (.t 24))]
def a140_11 : List AOper := [
 oP 27 (.idxAddr 1 (.t 23) (.t 25)),
 oP 28 (.load false 1 (.t 27)),
 mV 7 28]
def a140_12 : List AOper := [
 mV 29 7]
def a140_13 : List AOper := [
 oP 50 (.bin .eql (.t 29) (.c (.int .u8 39))),
 mV 49 50]
def a140_14 : List AOper := [
 oP 51 (.bin .eql (.t 29) (.c (.int .u8 92))),
 mV 49 51]
def a140_15 : List AOper := [
 mV 52 5,
 mV 53 7,
 oP 54 (.lit true 1 2 [(.int .u8 0), (.int .u8 0)] [(0, 1, (.c (.int .u8 92))), (1, 1, (.t 53))]),
 oP 55 (.append 1 1 (.t 52) (.t 54)),
 mV 5 55]
def a140_16 : List AOper := [
 oP 57 (.bin .eql (.t 29) (.c (.int .u8 10))),
 mV 56 57]
def a140_17 : List AOper := [
 mV 58 5,
 oP 59 (.append 1 1 (.t 58) (.c (.str [92, 110]))),
 mV 5 59]
def a140_18 : List AOper := [
 oP 61 (.bin .eql (.t 29) (.c (.int .u8 9))),
 mV 60 61]
def a140_19 : List AOper := [
 mV 62 5,
 oP 63 (.append 1 1 (.t 62) (.c (.str [92, 116]))),
 mV 5 63]
def a140_20 : List AOper := [
 oP 65 (.bin .eql (.t 29) (.c (.int .u8 13))),
 mV 64 65]
def a140_21 : List AOper := [
 mV 66 5,
 oP 67 (.append 1 1 (.t 66) (.c (.str [92, 114]))),
 mV 5 67]
def a140_22 : List AOper := [
 mV 30 7,
 oP 31 (.bin .lss (.t 30) (.c (.int .u8 32))),
 mV 32 31,
 oG 33 (.mv (.t 7)) 32 false,
 oG 34 (.bin .eql (.t 33) (.c (.int .u8 127))) 32 false,
 oP 35 (.pick (.t 32) (.c (.bool true)) (.t 34))]
def a140_23 : List AOper := [
 mV 36 5,
 mV 37 7,
 oP 38 (.bin .shr (.t 37) (.c (.int .u64 4))),
 oP 39 (.idxStr (.c (.str [48, 49, 50, 51, 52, 53, 54, 55, 56, 57, 97, 98, 99, 100, 101, 102])) (.t 38)),
 mV 40 7,
 oP 41 (.bin .and (.t 40) (.c (.int .u8 15))),
 oP 42 (.idxStr (.c (.str [48, 49, 50, 51, 52, 53, 54, 55, 56, 57, 97, 98, 99, 100, 101, 102])) (.t 41)),
 oP 43 (.lit true 1 4 [(.int .u8 0), (.int .u8 0), (.int .u8 0), (.int .u8 0)] [(0, 1, (.c (.int .u8 92))), (1, 1, (.c (.int .u8 120))), (2, 1, (.t 39)), (3, 1, (.t 42))]),
 oP 44 (.append 1 1 (.t 36) (.t 43)),
 mV 5 44]
def a140_23b : List Nat := [0, 0, 2, 6, 0, 16, 48, 126, 255, 511]
def a140_24 : List AOper := [
 mV 45 5,
 mV 46 7,
 oP 47 (.lit true 1 1 [(.int .u8 0)] [(0, 1, (.t 46))]),
 oP 48 (.append 1 1 (.t 45) (.t 47)),
 mV 5 48]
def a140_25 : List AOper := [
 oP 68 (.bin .add (.t 25) (.c (.int .i64 1))),
 mV 25 68]
def a140_l26 : AC := (.seq (.ops a140_10) (.seq (.cond (.t 26) .skip (.exit 0)) (.seq (.block 1 (.seq (.ops a140_11) (.seq (.ops a140_12) (.block 2 (.seq (.seq (.ops a140_13) (.cond (.t 49) .skip (.ops a140_14))) (.cond (.t 49) (.ops a140_15) (.seq (.ops a140_16) (.cond (.t 56) (.ops a140_17) (.seq (.ops a140_18) (.cond (.t 60) (.ops a140_19) (.seq (.ops a140_20) (.cond (.t 64) (.ops a140_21) (.seq (.ops a140_22) (.cond (.t 35) (.draw a140_23 a140_23b) (.ops a140_24))))))))))))))) (.ops a140_25))))
def a140_27 : List AOper := [
 mV 69 5,
 oP 70 (.lit true 1 1 [(.int .u8 0)] [(0, 1, (.c (.int .u8 39)))]),
 oP 71 (.append 1 1 (.t 69) (.t 70)),
 oP 72 (.conv .b2s (.t 71)),
 mV 2 72,
 oP 3 (.mv (.c .nili))]
def a140 : AFunc := ⟨[.tmp 2, .tmp 3], (.seq (.ops a140_0) (.seq (.seq (.ops a140_1) (.cond (.t 10) (.seq (.ops a140_2) .ret) .skip)) (.seq (.seq (.ops a140_3) (.seq (.ops a140_4) (.cond (.t 15) (.seq (.ops a140_5) .ret) .skip))) (.seq (.seq (.ops a140_6) (.cond (.t 19) (.seq (.ops a140_7) .ret) .skip)) (.seq (.ops a140_8) (.seq (.seq (.ops a140_9) (.block 0 (.loop a140_l26))) (.seq (.ops a140_27) .ret)))))))⟩
def a141_0 : List AOper := [
 oP 2 (.mv (.c (.str []))),
 oP 3 (.mv (.c (.str []))),
 oP 4 (.mv (.c .nili))]
def a141_1 : List AOper := [
 mV 14 0,
 oP 15 (.call 151 [(.t 14), (.c (.str [64]))]),
 mV 13 15,
 oP 16 (.extract (.t 13) 0),
 oP 17 (.extract (.t 13) 1),
 oP 18 (.extract (.t 13) 2),
 mV 5 16,
 mV 6 17,
 mV 7 18]
def a141_2 : List AOper := [
 mV 19 7,
 mV 20 19,
 oG 21 (.mv (.t 5)) 20 true,
 oG 22 (.bin .neq (.t 21) (.c (.str []))) 20 true,
 oP 23 (.pick (.t 20) (.t 22) (.c (.bool false))),
 mV 24 23,
 oG 25 (.mv (.t 6)) 24 true,
 oG 26 (.bin .neq (.t 25) (.c (.str []))) 24 true,
 oP 27 (.pick (.t 24) (.t 26) (.c (.bool false))),
 mV 28 27,
 oG 29 (.mv (.t 0)) 28 true,
 oG 30 (.len true (.t 29)) 28 true,
 oG 31 (.bin .leq (.t 30) (.c (.int .i64 64))) 28 true,
 oP 32 (.pick (.t 28) (.t 31) (.c (.bool false))),
 mV 33 32,
 oG 34 (.mv (.t 6)) 33 true,
 oG 35 (.call 152 [(.t 34), (.c (.str [64]))]) 33 true,
 oG 36 (.un .not (.t 35)) 33 true,
 oP 37 (.pick (.t 33) (.t 36) (.c (.bool false))),
 mV 8 37]
def a141_3 : List AOper := [
 mV 38 5,
 oP 39 (.conv .s2b (.t 38)),
 oP 40 (.len false (.t 39)),
 oP 41 (.mv (.c (.int .i64 0)))]
def a141_4 : List AOper := [
 oP 42 (.bin .lss (.t 41) (.t 40))]
def a141_5 : List AOper := [
 oP 43 (.idxAddr 1 (.t 39) (.t 41)),
 oP 44 (.load false 1 (.t 43)),
 mV 10 44]
def a141_6 : List AOper := [
 mV 45 8,
 mV 46 45,
 oG 47 (.mv (.t 10)) 46 true,
 oG 48 (.call 153 [(.t 47)]) 46 true,
 oG 49 (.bin .neq (.t 48) (.c (.int .i64 0))) 46 true,
 oG 50 (.mv (.t 49)) 46 true,
 oG 51 (.mv (.t 10)) 50 false,
 oG 52 (.bin .eql (.t 51) (.c (.int .u8 45))) 50 false,
 oG 53 (.pick (.t 50) (.c (.bool true)) (.t 52)) 46 true,
 oP 54 (.pick (.t 46) (.t 53) (.c (.bool false))),
 mV 8 54]
def a141_7 : List AOper := [
 oP 55 (.bin .add (.t 41) (.c (.int .i64 1))),
 mV 41 55]
def a141_l8 : AC := (.seq (.ops a141_4) (.seq (.cond (.t 42) .skip (.exit 0)) (.seq (.block 1 (.seq (.ops a141_5) (.ops a141_6))) (.ops a141_7))))
def a141_9 : List AOper := [
 mV 56 6,
 oP 57 (.conv .s2b (.t 56)),
 oP 58 (.len false (.t 57)),
 oP 59 (.mv (.c (.int .i64 0)))]
def a141_10 : List AOper := [
 oP 60 (.bin .lss (.t 59) (.t 58))]
def a141_11 : List AOper := [
 oP 61 (.idxAddr 1 (.t 57) (.t 59)),
 oP 62 (.load false 1 (.t 61)),
 mV 12 62]
def a141_12 : List AOper := [
 mV 63 8,
 mV 64 63,
 oG 65 (.mv (.t 12)) 64 true,
 oG 66 (.call 153 [(.t 65)]) 64 true,
 oG 67 (.bin .neq (.t 66) (.c (.int .i64 0))) 64 true,
 oG 68 (.mv (.t 67)) 64 true,
 oG 69 (.mv (.t 12)) 68 false,
 oG 70 (.bin .eql (.t 69) (.c (.int .u8 45))) 68 false,
 oG 71 (.pick (.t 68) (.c (.bool true)) (.t 70)) 64 true,
 oG 72 (.mv (.t 71)) 64 true,
 oG 73 (.mv (.t 12)) 72 false,
 oG 74 (.bin .eql (.t 73) (.c (.int .u8 46))) 72 false,
 oG 75 (.pick (.t 72) (.c (.bool true)) (.t 74)) 64 true,
 oP 76 (.pick (.t 64) (.t 75) (.c (.bool false))),
 mV 8 76]
def a141_13 : List AOper := [
 oP 77 (.bin .add (.t 59) (.c (.int .i64 1))),
 mV 59 77]
def a141_l14 : AC := (.seq (.ops a141_10) (.seq (.cond (.t 60) .skip (.exit 2)) (.seq (.block 3 (.seq (.ops a141_11) (.ops a141_12))) (.ops a141_13))))
def a141_15 : List AOper := [
 mV 78 8,
 oP 79 (.un .not (.t 78))]
def a141_16 : List AOper := [
 oP 80 (.call 148 [(.c (.int .i64 0)), (.c (.int .i64 24))]),
 oP 2 (.mv (.c (.str []))),
 oP 3 (.mv (.c (.str []))),
 mV 4 80]
def a141_17 : List AOper := [
 mV 81 5,
 mV 82 6,
 mV 2 81,
 mV 3 82,
 oP 4 (.mv (.c .nili))]
def a141 : AFunc := ⟨[.tmp 2, .tmp 3, .tmp 4], (.seq (.ops a141_0) (.seq (.ops a141_1) (.seq (.ops a141_2) (.seq (.seq (.ops a141_3) (.block 0 (.loop a141_l8))) (.seq (.seq (.ops a141_9) (.block 2 (.loop a141_l14))) (.seq (.seq (.ops a141_15) (.cond (.t 79) (.seq (.ops a141_16) .ret) .skip)) (.seq (.ops a141_17) .ret)))))))⟩
def a142_0 : List AOper := [
 oP 2 (.mv (.c (.int .i64 0)))]
def a142_1 : List AOper := [
 oP 3 (.alloc [.nilp])]
def a142_2 : List AOper := [
 mV 4 0,
 oP 5 (.mkIface 71 (.t 3)),
 oP 6 (.call 37 [(.t 4), (.t 5)])]
def a142_3 : List AOper := [
 oP 7 (.load false 1 (.t 3)),
 oP 8 (.nilCheck (.t 7)),
 oP 9 (.fieldAddr 2 (.t 8)),
 oP 10 (.load false 1 (.t 9)),
 mV 2 10]
def a142_4 : List AOper := [
 oP 2 (.mv (.c (.int .i64 0)))]
def a142 : AFunc := ⟨[.tmp 2], (.seq (.ops a142_0) (.seq (.ops a142_1) (.seq (.seq (.ops a142_2) (.cond (.t 6) (.seq (.ops a142_3) .ret) .skip)) (.seq (.ops a142_4) .ret))))⟩
def a148_0 : List AOper := [
 oP 4 (.mv (.c .nili))]
def a148_1 : List AOper := [
 mV 5 0,
 mV 6 1,
 oP 7 (.build [(.str []), (.int .i64 0), (.int .i64 0), .nili] [(0, 1, (.c (.str [97, 116, 111, 109]))), (1, 1, (.t 5)), (2, 1, (.t 6))]),
 oP 8 (.box true 4 (.t 7)),
 oP 9 (.mkIface 69 (.t 8)),
 mV 4 9]
def a148 : AFunc := ⟨[.tmp 4], (.seq (.ops a148_0) (.seq (.ops a148_1) .ret))⟩
def a150_0 : List AOper := [
 oP 2 (.mv (.c (.bool false)))]
def a150_1 : List AOper := [
 mV 3 0,
 oP 4 (.bin .neq (.t 3) (.c (.str []))),
 mV 5 4,
 oG 6 (.mv (.t 0)) 5 true,
 oG 7 (.idxStr (.t 6) (.c (.int .i64 0))) 5 true,
 oG 8 (.call 153 [(.t 7)]) 5 true,
 oG 9 (.bin .eql (.t 8) (.c (.int .i64 1))) 5 true,
 oP 10 (.pick (.t 5) (.t 9) (.c (.bool false))),
 mV 11 10,
 oG 12 (.mv (.t 0)) 11 true,
 oG 13 (.call 159 [(.t 12), (.c (.int .i64 0))]) 11 true,
 oG 14 (.mv (.t 0)) 11 true,
 oG 15 (.len true (.t 14)) 11 true,
 oG 16 (.bin .eql (.t 13) (.t 15)) 11 true,
 oP 17 (.pick (.t 11) (.t 16) (.c (.bool false))),
 mV 18 17,
 oG 19 (.mv (.t 0)) 18 true,
 oG 20 (.call 160 [(.t 19)]) 18 true,
 oG 21 (.un .not (.t 20)) 18 true,
 oP 22 (.pick (.t 18) (.t 21) (.c (.bool false))),
 mV 2 22]
def a150 : AFunc := ⟨[.tmp 2], (.seq (.ops a150_0) (.seq (.ops a150_1) .ret))⟩
def a151_0 : List AOper := [
 oP 4 (.mv (.c (.str []))),
 oP 5 (.mv (.c (.str []))),
 oP 6 (.mv (.c (.bool false)))]
def a151_1 : List AOper := [
 mV 7 0,
 mV 8 1,
 oP 9 (.call 161 [(.t 7), (.t 8)]),
 oP 10 (.extract (.t 9) 0),
 oP 11 (.extract (.t 9) 1),
 oP 12 (.extract (.t 9) 2),
 mV 4 10,
 mV 5 11,
 mV 6 12]
def a151 : AFunc := ⟨[.tmp 4, .tmp 5, .tmp 6], (.seq (.ops a151_0) (.seq (.ops a151_1) .ret))⟩
def a152_0 : List AOper := [
 oP 4 (.mv (.c (.bool false)))]
def a152_1 : List AOper := [
 mV 5 0,
 mV 6 1,
 oP 7 (.call 162 [(.t 5), (.t 6)]),
 oP 8 (.bin .geq (.t 7) (.c (.int .i64 0))),
 mV 4 8]
def a152 : AFunc := ⟨[.tmp 4], (.seq (.ops a152_0) (.seq (.ops a152_1) .ret))⟩
def a153_0 : List AOper := [
 oP 2 (.mv (.c (.int .i64 0)))]
def a153_1 : List AOper := [
 mV 4 0,
 oP 5 (.bin .geq (.t 4) (.c (.int .u8 97))),
 mV 6 5,
 oG 7 (.mv (.t 0)) 6 true,
 oG 8 (.bin .leq (.t 7) (.c (.int .u8 122))) 6 true,
 oP 9 (.pick (.t 6) (.t 8) (.c (.bool false))),
 mV 3 9]
def a153_2 : List AOper := [
 oP 2 (.mv (.c (.int .i64 1)))]
def a153_3 : List AOper := [
 mV 11 0,
 oP 12 (.bin .geq (.t 11) (.c (.int .u8 65))),
 mV 13 12,
 oG 14 (.mv (.t 0)) 13 true,
 oG 15 (.bin .leq (.t 14) (.c (.int .u8 90))) 13 true,
 oP 16 (.pick (.t 13) (.t 15) (.c (.bool false))),
 mV 10 16]
def a153_4 : List AOper := [
 oP 2 (.mv (.c (.int .i64 2)))]
def a153_5 : List AOper := [
 mV 18 0,
 oP 19 (.bin .geq (.t 18) (.c (.int .u8 48))),
 mV 20 19,
 oG 21 (.mv (.t 0)) 20 true,
 oG 22 (.bin .leq (.t 21) (.c (.int .u8 57))) 20 true,
 oP 23 (.pick (.t 20) (.t 22) (.c (.bool false))),
 mV 17 23]
def a153_6 : List AOper := [
 oP 2 (.mv (.c (.int .i64 3)))]
def a153_7 : List AOper := [
 mV 25 0,
 oP 26 (.bin .eql (.t 25) (.c (.int .u8 95))),
 mV 27 26,
 oG 28 (.mv (.t 0)) 27 false,
 oG 29 (.bin .eql (.t 28) (.c (.int .u8 64))) 27 false,
 oP 30 (.pick (.t 27) (.c (.bool true)) (.t 29)),
 mV 24 30]
def a153_8 : List AOper := [
 oP 2 (.mv (.c (.int .i64 4)))]
def a153_9 : List AOper := [
 oP 2 (.mv (.c (.int .i64 0)))]
def a153 : AFunc := ⟨[.tmp 2], (.seq (.ops a153_0) (.seq (.block 0 (.seq (.ops a153_1) (.cond (.t 3) (.seq (.ops a153_2) .ret) (.seq (.ops a153_3) (.cond (.t 10) (.seq (.ops a153_4) .ret) (.seq (.ops a153_5) (.cond (.t 17) (.seq (.ops a153_6) .ret) (.seq (.ops a153_7) (.cond (.t 24) (.seq (.ops a153_8) .ret) .skip))))))))) (.seq (.ops a153_9) .ret)))⟩
def a159_0 : List AOper := [
 oP 4 (.mv (.c (.int .i64 0)))]
def a159_1 : List AOper := [
 mV 5 1,
 mV 6 0,
 oP 7 (.len true (.t 6)),
 oP 8 (.bin .lss (.t 5) (.t 7)),
 mV 9 8,
 oG 10 (.mv (.t 0)) 9 true,
 oG 11 (.mv (.t 1)) 9 true,
 oG 12 (.idxStr (.t 10) (.t 11)) 9 true,
 oG 13 (.call 153 [(.t 12)]) 9 true,
 oG 14 (.bin .neq (.t 13) (.c (.int .i64 0))) 9 true,
 oP 15 (.pick (.t 9) (.t 14) (.c (.bool false)))]
def a159_2 : List AOper := [
 mV 16 1,
 oP 17 (.bin .add (.t 16) (.c (.int .i64 1))),
 mV 1 17]
def a159_l3 : AC := (.seq (.seq (.ops a159_1) (.cond (.t 15) .skip (.exit 0))) (.block 1 (.ops a159_2)))
def a159_4 : List AOper := [
 mV 18 1,
 mV 4 18]
def a159 : AFunc := ⟨[.tmp 4], (.seq (.ops a159_0) (.seq (.block 0 (.loop a159_l3)) (.seq (.ops a159_4) .ret)))⟩
def a160_0 : List AOper := [
 oP 2 (.mv (.c (.bool false)))]
def a160_1 : List AOper := [
 mV 3 0]
def a160_2 : List AOper := [
 oP 5 (.bin .eql (.t 3) (.c (.str [97, 102, 116, 101, 114]))),
 mV 4 5]
def a160_3 : List AOper := [
 oP 6 (.bin .eql (.t 3) (.c (.str [97, 110, 100]))),
 mV 4 6]
def a160_4 : List AOper := [
 oP 7 (.bin .eql (.t 3) (.c (.str [97, 110, 100, 97, 108, 115, 111]))),
 mV 4 7]
def a160_5 : List AOper := [
 oP 8 (.bin .eql (.t 3) (.c (.str [98, 101, 103, 105, 110]))),
 mV 4 8]
def a160_6 : List AOper := [
 oP 9 (.bin .eql (.t 3) (.c (.str [99, 97, 115, 101]))),
 mV 4 9]
def a160_7 : List AOper := [
 oP 10 (.bin .eql (.t 3) (.c (.str [99, 97, 116, 99, 104]))),
 mV 4 10]
def a160_8 : List AOper := [
 oP 11 (.bin .eql (.t 3) (.c (.str [100, 105, 118]))),
 mV 4 11]
def a160_9 : List AOper := [
 oP 12 (.bin .eql (.t 3) (.c (.str [101, 110, 100]))),
 mV 4 12]
def a160_10 : List AOper := [
 oP 13 (.bin .eql (.t 3) (.c (.str [102, 117, 110]))),
 mV 4 13]
def a160_11 : List AOper := [
 oP 14 (.bin .eql (.t 3) (.c (.str [105, 102]))),
 mV 4 14]
def a160_12 : List AOper := [
 oP 16 (.bin .eql (.t 3) (.c (.str [110, 111, 116]))),
 mV 15 16]
def a160_13 : List AOper := [
 oP 17 (.bin .eql (.t 3) (.c (.str [111, 102]))),
 mV 15 17]
def a160_14 : List AOper := [
 oP 18 (.bin .eql (.t 3) (.c (.str [111, 114]))),
 mV 15 18]
def a160_15 : List AOper := [
 oP 19 (.bin .eql (.t 3) (.c (.str [111, 114, 101, 108, 115, 101]))),
 mV 15 19]
def a160_16 : List AOper := [
 oP 20 (.bin .eql (.t 3) (.c (.str [114, 101, 99, 101, 105, 118, 101]))),
 mV 15 20]
def a160_17 : List AOper := [
 oP 21 (.bin .eql (.t 3) (.c (.str [114, 101, 109]))),
 mV 15 21]
def a160_18 : List AOper := [
 oP 22 (.bin .eql (.t 3) (.c (.str [116, 114, 121]))),
 mV 15 22]
def a160_19 : List AOper := [
 oP 23 (.bin .eql (.t 3) (.c (.str [119, 104, 101, 110]))),
 mV 15 23]
def a160_20 : List AOper := [
 oP 24 (.bin .eql (.t 3) (.c (.str [120, 111, 114]))),
 mV 15 24]
def a160_21 : List AOper := [
 oP 2 (.mv (.c (.bool true)))]
def a160_22 : List AOper := [
 oP 2 (.mv (.c (.bool false)))]
def a160 : AFunc := ⟨[.tmp 2], (.seq (.ops a160_0) (.seq (.seq (.ops a160_1) (.block 0 (.seq (.block 2 (.block 1 (.seq (.seq (.seq (.seq (.ops a160_2) (.cond (.t 4) .skip (.seq (.ops a160_3) (.cond (.t 4) .skip (.seq (.ops a160_4) (.cond (.t 4) .skip (.seq (.ops a160_5) (.cond (.t 4) .skip (.seq (.ops a160_6) (.cond (.t 4) .skip (.seq (.ops a160_7) (.cond (.t 4) .skip (.seq (.ops a160_8) (.cond (.t 4) .skip (.seq (.ops a160_9) (.cond (.t 4) .skip (.seq (.ops a160_10) (.cond (.t 4) .skip (.ops a160_11))))))))))))))))))) (.cond (.t 4) (.exit 1) .skip)) (.seq (.seq (.ops a160_12) (.cond (.t 15) .skip (.seq (.ops a160_13) (.cond (.t 15) .skip (.seq (.ops a160_14) (.cond (.t 15) .skip (.seq (.ops a160_15) (.cond (.t 15) .skip (.seq (.ops a160_16) (.cond (.t 15) .skip (.seq (.ops a160_17) (.cond (.t 15) .skip (.seq (.ops a160_18) (.cond (.t 15) .skip (.seq (.ops a160_19) (.cond (.t 15) .skip (.ops a160_20))))))))))))))))) (.cond (.t 15) (.exit 2) .skip))) (.exit 0)))) (.seq (.seq (.ops a160_21) .ret) (.exit 0))))) (.seq (.ops a160_22) .ret)))⟩
def a161_0 : List AOper := [
 oP 4 (.mv (.c (.str []))),
 oP 5 (.mv (.c (.str []))),
 oP 6 (.mv (.c (.bool false)))]
def a161_1 : List AOper := [
 mV 8 0,
 mV 9 1,
 oP 10 (.call 169 [(.t 8), (.t 9)]),
 mV 7 10]
def a161_2 : List AOper := [
 mV 11 7,
 oP 12 (.bin .geq (.t 11) (.c (.int .i64 0)))]
def a161_3 : List AOper := [
 mV 13 0,
 mV 14 7,
 oP 15 (.sliceStr (.t 13) none (some (.t 14))),
 mV 16 0,
 mV 17 7,
 mV 18 1,
 oP 19 (.len true (.t 18)),
 oP 20 (.bin .add (.t 17) (.t 19)),
 oP 21 (.sliceStr (.t 16) (some (.t 20)) none),
 mV 4 15,
 mV 5 21,
 oP 6 (.mv (.c (.bool true)))]
def a161_3b : List Nat := [0, 0, 3, 0, 0, 0, 32, 112, 248, 7, 1023, 2047]
def a161_4 : List AOper := [
 mV 22 0,
 mV 4 22,
 oP 5 (.mv (.c (.str []))),
 oP 6 (.mv (.c (.bool false)))]
def a161 : AFunc := ⟨[.tmp 4, .tmp 5, .tmp 6], (.seq (.ops a161_0) (.seq (.seq (.ops a161_1) (.seq (.ops a161_2) (.cond (.t 12) (.seq (.draw a161_3 a161_3b) .ret) .skip))) (.seq (.ops a161_4) .ret)))⟩
def a162_0 : List AOper := [
 oP 4 (.mv (.c (.int .i64 0)))]
def a162_1 : List AOper := [
 mV 5 0,
 mV 6 1,
 oP 7 (.call 169 [(.t 5), (.t 6)]),
 mV 4 7]
def a162 : AFunc := ⟨[.tmp 4], (.seq (.ops a162_0) (.seq (.ops a162_1) .ret))⟩
end Go.Bf

set_option linter.unusedSimpArgs false
set_option linter.unusedVariables false
namespace Go.AM
def cellAV : Value → Option AV
  | .bool b => some (.bool b)
  | .int k n => some (.int k n)
  | .string s => some (.str s.data.toList)
  | .pointer none => some .nilp
  | .slice none 0 0 => some .nils
  | .map none => some .nilm
  | .nilFunc => some .nilf
  | .nilIface => some .nili
  | _ => none
def constAV : Value → Option AV
  | .agg cs => (cs.toList.mapM cellAV).map .agg
  | v => cellAV v
def trOpd : Operand → Option Opd
  | .tmp t => some (.t t)
  | .const v => (constAV v).map .c
  | .global g => some (.g g)
  | .func f => some (.c (.fn (.func f) [] []))
def trOpds (l : Array Operand) : Option (List Opd) := l.toList.mapM trOpd
def trOpdo : Option Operand → Option (Option Opd)
  | none => some none
  | some x => (trOpd x).map some
section
variable (P : Program)
def tSize (t : TypeId) : Option Nat := (P.info? t).map (·.size)
def tBytes (t : TypeId) : Option Nat := (P.info? t).map (·.bytes)
def tAgg (t : TypeId) : Option Bool :=
  match P.underlying t with
  | some (.struct _) | some (.array ..) => some true
  | some _ => some false
  | none => none
def tZero (t : TypeId) : Option (List AV) := do
  let i ← P.info? t
  let z ← i.zero
  z.cells.toList.mapM cellAV
def eqScalar (lit : Bool) : TypeDesc → Option EqT
  | .bool => some .bool
  | .int _ => some .int
  | .string => some .str
  | .pointer _ => some .ptr
  | .slice _ => some .slice
  | .map .. => some .map
  | .func .. => some .func
  | .interface _ => some (.iface lit)
  | _ => none
def eqFields : List Field → Option (List (Nat × Nat × Bool × EqT))
  | [] => some []
  | f :: fs => do
    if f.name = "_" then none else
    let d ← P.underlying f.type
    let e ← eqScalar false d
    let rest ← eqFields fs
    pure ((f.offset, 1, false, e) :: rest)
def trEq (t : TypeId) (lit : Bool) : Option EqT := do
  match ← P.underlying t with
  | .struct fs => if P.stoodInHeld t || P.eqGuardType P.depth t then none else (eqFields P fs.toList).map .struct
  | d => eqScalar lit d
def isLit : Operand → Bool
  | .const _ => true
  | _ => false
def isNeq : BinOp → Bool
  | .neq => true
  | _ => false
def isMax : Builtin → Bool
  | .max => true
  | _ => false
def trBin (op : BinOp) (t : TypeId) (x y : Operand) : Option AOp := do
  let a ← trOpd x
  let b ← trOpd y
  match op with
  | .eql | .neq =>
    match ← P.underlying t with
    | .int _ | .string => pure (.bin op a b)
    | _ => pure (.eq (isNeq op) (← trEq P t (isLit x || isLit y)) a b)
  | _ => pure (.bin op a b)
def trConv (src dst : TypeId) : Option CvT := do
  match ← P.underlying src, ← P.underlying dst with
  | .int _, .int k => pure (.int k)
  | .int _, .string => pure .rune
  | .string, .string => pure .same
  | .string, .slice e =>
    match ← P.underlying e with
    | .int .u8 => pure .s2b
    | .int .i32 => pure .s2r
    | _ => none
  | .slice e, .string =>
    match ← P.underlying e with
    | .int .u8 => pure .b2s
    | .int .i32 => pure .r2s
    | _ => none
  | .slice _, .slice e =>
    match ← P.underlying e with
    | .int .u8 => if src = dst then pure .b2b else none
    | _ => none
  | _, _ => none
def trParts (place : Nat → Option (Nat × Nat)) : List (Nat × Operand) → Option (List (Nat × Nat × Opd))
  | [] => some []
  | (i, x) :: r => do
    let (off, sz) ← place i
    let a ← trOpd x
    let l ← trParts place r
    pure ((off, sz, a) :: l)
def fieldPlaces : List Field → Option (List (Nat × Nat))
  | [] => some []
  | f :: fs => do
    let s ← tSize P f.type
    let r ← fieldPlaces fs
    pure ((f.offset, s) :: r)
def trBuild (t : TypeId) (parts : Array (Nat × Operand)) : Option AOp := do
  let zero ← tZero P t
  match ← P.underlying t with
  | .struct fields =>
    let places ← fieldPlaces P fields.toList
    pure (.build zero (← trParts (places[·]?) parts.toList))
  | .array _ e =>
    let s ← tSize P e
    pure (.build zero (← trParts (fun i => some (i * s, s)) parts.toList))
  | _ => none
def trLit (fr : Bool) (t : TypeId) (len : Nat) (parts : Array (Nat × Operand)) : Option AOp :=
  match P.underlying t with
  | some (.slice e) => (tSize P e).bind fun s =>
    if len * s > 2 ^ 24 then none else
    (if len * s = 0 then some [] else tZero P e).bind fun zero =>
    if len * s ≠ 0 ∧ zero.length ≠ s then none else
    (trParts (fun i => some (i * s, s)) parts.toList).map fun ps => .lit fr s len (List.replicate len zero).flatten ps
  | _ => none
def trSlice (t : TypeId) (x : Operand) (lo hi mx : Option Operand) : Option AOp := do
  let a ← trOpd x
  let l ← trOpdo lo
  let h ← trOpdo hi
  let m ← trOpdo mx
  match ← P.underlying t with
  | .string => match m with | none => pure (.sliceStr a l h) | some _ => none
  | .slice e => pure (.slice (← tSize P e) a l h m)
  | .array n e => pure (.sliceArr (← tSize P e) n a l h m)
  | .pointer arr =>
    match ← P.underlying arr with
    | .array n e => pure (.sliceArr (← tSize P e) n a l h m)
    | _ => none
  | _ => none
def trField (t : TypeId) (f : Nat) : Option Field := do
  match ← P.underlying t with
  | .struct fields => fields[f]?
  | _ => none
def trBuiltin (b : Builtin) (types : Array TypeId) (args : Array Operand) : Option AOp := do
  match b with
  | .len =>
    let x ← args[0]?
    let a ← trOpd x
    match ← P.underlying (← types[0]?) with
    | .string => if args.size = 1 then pure (.len true a) else none
    | .slice _ => if args.size = 1 then pure (.len false a) else none
    | .array n _ => if args.size = 1 then pure (.mv (.c (.int .i64 n))) else none
    | _ => none
  | .append =>
    if args.size ≠ 2 ∨ types.size ≠ 2 then none else
    let a ← trOpd (← args[0]?)
    let b ← trOpd (← args[1]?)
    match ← P.underlying (← types[0]?), ← P.underlying (← types[1]?) with
    | .slice e, .slice e' => if e = e' ∧ (tZero P e).map List.length = tSize P e then pure (.append (← tSize P e) (← tBytes P e) a b) else none
    | .slice e, .string => if (tZero P e).map List.length = tSize P e then pure (.append (← tSize P e) (← tBytes P e) a b) else none
    | .slice e, .int .i64 => pure (.appendZ (← tSize P e) (← tBytes P e) (← tZero P e) a b)
    | _, _ => none
  | .cap =>
    if args.size ≠ 1 then none else
    let a ← trOpd (← args[0]?)
    match ← P.underlying (← types[0]?) with
    | .slice _ => pure (.cap a)
    | _ => none
  | .clear =>
    if args.size ≠ 1 then none else
    let a ← trOpd (← args[0]?)
    match ← P.underlying (← types[0]?) with
    | .slice e => pure (.clear (← tSize P e) (← tZero P e) a)
    | _ => none
  | .copy =>
    if args.size ≠ 2 then none else
    let a ← trOpd (← args[0]?)
    let b ← trOpd (← args[1]?)
    match ← P.underlying (← types[0]?) with
    | .slice e => pure (.copy (← tSize P e) a b)
    | _ => none
  | .max | .min =>
    if args.size ≠ 2 then none else
    pure (.minmax (isMax b) (← trOpd (← args[0]?)) (← trOpd (← args[1]?)))
  | .panic => if args.size ≠ 1 then none else pure (.panic (← trOpd (← args[0]?)))
  | _ => none
def trCall (c : Call) : Option AOp := do
  match c.callee with
  | .builtin b => trBuiltin P b c.argTypes c.args
  | .value (.func f) => pure (.call f (← trOpds c.args))
  | .value v => pure (.callv (← trOpd v) (← trOpds c.args))
  | .invoke .. => none
/-- 'fr': is what this operation lays in memory never written? -/
def trOp (fr : Bool) (o : Op) : Option AOp := do
  match o with
  | .move x | .assign x => pure (.mv (← trOpd x))
  | .pick c a b => pure (.pick (← trOpd c) (← trOpd a) (← trOpd b))
  | .alloc e => pure (.alloc (← tZero P e))
  | .box e x => pure (.box fr (← tSize P e) (← trOpd x))
  | .build t parts => trBuild P t parts
  | .buildSlice t len parts => trLit P fr t len parts
  | .load t a => pure (.load (← tAgg P t) (← tSize P t) (← trOpd a))
  | .store t a x => pure (.store (← tSize P t) (← trOpd a) (← trOpd x))
  | .nilCheck x => pure (.nilCheck (← trOpd x))
  | .binOp op t x y _ => trBin P op t x y
  | .unOp op _ x => pure (.un op (← trOpd x))
  | .convert s d x => pure (.conv (← trConv P s d) (← trOpd x))
  | .makeInterface t x =>
    match ← P.underlying t with
    | .interface _ => none
    | _ => pure (.mkIface t (← trOpd x))
  | .makeFunc f a b => pure (.mkFunc f (← trOpds a) (← trOpds b))
  | .makeSlice t l c =>
    match ← P.underlying t with
    | .slice e => pure (.makeSlice (← tSize P e) (← tBytes P e) (← tZero P e) (← trOpd l) (← trOpd c))
    | _ => none
  | .slice t x lo hi mx => trSlice P t x lo hi mx
  | .fieldAddr t x f =>
    let f ← trField P t f
    if (← tSize P f.type) = 0 then none else pure (.fieldAddr f.offset (← trOpd x))
  | .field t x f =>
    let f ← trField P t f
    pure (.field (← tAgg P f.type) (← tSize P f.type) f.offset (← trOpd x))
  | .indexAddr t x i =>
    match ← P.underlying t with
    | .slice e => pure (.idxAddr (← tSize P e) (← trOpd x) (← trOpd i))
    | .array n e => pure (.idxAddrArr (← tSize P e) n (← trOpd x) (← trOpd i))
    | _ => none
  | .index t x i =>
    match ← P.underlying t with
    | .string => pure (.idxStr (← trOpd x) (← trOpd i))
    | .array n e => pure (.idxArr (← tAgg P e) (← tSize P e) n (← trOpd x) (← trOpd i))
    | _ => none
  | .extract x i => pure (.extract (← trOpd x) i)
  | .call c => trCall P c
  | .panic x => pure (.panic (← trOpd x))
  | _ => none
def trGuard (ops : Array Oper) : Option (Nat × Bool) → Option (Option (Nat × Bool))
  | none => some none
  | some (j, want) => ((ops[j]?).bind (·.dst)).map fun d => some (d, want)
/-- Is this slot's slice turned into a slice of bytes by the same statement? -/
def turned (ops : Array Oper) (d : Nat) : Bool :=
  ops.toList.any fun o => match o.op with
    | .convert s t (.tmp u) => s == t && u == d
    | _ => false
/-- What is laid by this operation: is it never written later? 'fz': the types of such boxes; 'thaw': the slots of literals that are written. -/
def still (fz : TypeId → Bool) (thaw : Nat → Bool) (ops : Array Oper) (o : Oper) : Bool :=
  match o.op with
  | .box e _ => fz e && (match o.dst with
    | some d => !(thaw d)
    | none => true)
  | .buildSlice .. => match o.dst with
    | some d => !(turned ops d) && !(thaw d)
    | none => true
  | _ => false
/-- 'n': how many slots there are. -/
def trOper (n : Nat) (fz : TypeId → Bool) (thaw : Nat → Bool) (ops : Array Oper) (o : Oper) : AOper :=
  match trGuard ops o.guard, (match o.dst with | some d => Nat.blt d n | none => true) with
  | some g, true => { dst := o.dst, op := (trOp P (still fz thaw ops o) o.op).getD .bad, guard := g }
  | _, _ => { dst := none, op := .bad, guard := none }
/-- What the order of a region's operations must leave alone: each names what was written ahead of it; each edge leads back. -/
def drawStatic (ops : Array Oper) (l : List AOper) (before : List Nat) : Bool :=
  staticAll 0 l before && (ops.toList.zipIdx.all fun (o, i) => o.after.toList.all fun e => !Region.binds .any e || Nat.blt e.on i)
def trCode (n : Nat) (fz : TypeId → Bool) (thaw : Nat → Bool) : Code → AC
  | .skip => .skip
  | .region _ ops false => .ops (ops.toList.map (trOper P n fz thaw ops))
  | .region _ ops true =>
    match drawStatic ops (ops.toList.map (trOper P n fz thaw ops)) (Region.before ops).toList with
    | true => .draw (ops.toList.map (trOper P n fz thaw ops)) (Region.before ops).toList
    | false => .bad
  | .seq a b => .seq (trCode n fz thaw a) (trCode n fz thaw b)
  | .cond c x y => match trOpd c with
    | some c => .cond c (trCode n fz thaw x) (trCode n fz thaw y)
    | none => .bad
  | .block id b => .block id (trCode n fz thaw b)
  | .loop b => .loop (trCode n fz thaw b)
  | .exit id => .exit id
  | .scope b => .scope (trCode n fz thaw b)
  | .label _ => .skip
  | .ret => .ret
  | _ => .bad
def trRes : ResultVar → Option ARes
  | .tmp t => some (.tmp t)
  | .cell a t => do pure (.cell a (← tAgg P t) (← tSize P t))
def trFunc (fz : TypeId → Bool) (thaw : Nat → Bool) (fn : Func) : Option AFunc := do
  let body ← fn.body
  if fn.name = "runtime.NumGoroutine" then none else
  pure { results := ← fn.results.toList.mapM (trRes P), body := trCode P fn.ntmps fz thaw body }
end
end Go.AM

set_option linter.unusedSimpArgs false
set_option linter.unusedVariables false
namespace Go.AM
section
variable (E : Env)
/-- The code ends, so. -/
def WP (c : AC) (s : St) (Q : AExit → St → Prop) : Prop := ∃ e s', (∃ n, ∀ m, n ≤ m → E.code (E.call m) m c s = some (e, s')) ∧ Q e s'
def WPo (l : List AOper) (s : St) (Q : AExit → St → Prop) : Prop := ∃ e s', (∃ n, ∀ m, n ≤ m → E.ops (E.call m) l s = some (e, s')) ∧ Q e s'
def WC (f : Nat) (args : List AV) (h : Heap) (Q : COut → Prop) : Prop := ∃ o, (∃ n, ∀ m, n ≤ m → E.call m f args h = some o) ∧ Q o
/-- in the order of the text, with the log -/
def WPl (l : List AOper) (s : St) (Q : St → List (AOper × St × Cls) → Prop) : Prop := ∃ s' log, (∃ n, ∀ m, n ≤ m → E.opsLog (E.call m) l s = some (s', log)) ∧ Q s' log
end
section
variable {E : Env}
theorem WP.mono {c : AC} {s : St} {Q R : AExit → St → Prop} (h : WP E c s Q) (hr : ∀ e s', Q e s' → R e s') : WP E c s R := by
  obtain ⟨e, s', h1, h2⟩ := h; exact ⟨e, s', h1, hr _ _ h2⟩
theorem WC.mono {f : Nat} {args : List AV} {h : Heap} {Q R : COut → Prop} (k : WC E f args h Q) (hr : ∀ o, Q o → R o) : WC E f args h R := by
  obtain ⟨o, h1, h2⟩ := k; exact ⟨o, h1, hr _ h2⟩
theorem wp_skip {s : St} {Q : AExit → St → Prop} (h : Q .norm s) : WP E .skip s Q := ⟨_, _, ⟨0, fun m _ => rfl⟩, h⟩
theorem wp_ret {s : St} {Q : AExit → St → Prop} (h : Q .ret s) : WP E .ret s Q := ⟨_, _, ⟨0, fun m _ => rfl⟩, h⟩
theorem wp_exit {id : Nat} {s : St} {Q : AExit → St → Prop} (h : Q (.exit id) s) : WP E (.exit id) s Q := ⟨_, _, ⟨0, fun m _ => rfl⟩, h⟩
theorem wp_scope {b : AC} {s : St} {Q : AExit → St → Prop} (h : WP E b s Q) : WP E (.scope b) s Q := h
theorem wp_ops {l : List AOper} {s : St} {Q : AExit → St → Prop} (h : WPo E l s Q) : WP E (.ops l) s Q := h
/-- behind a piece that ends as usual -/
def thenQ (E : Env) (b : AC) (Q : AExit → St → Prop) : AExit → St → Prop
  | .norm, s => WP E b s Q
  | e, s => Q e s
theorem wp_seq {a b : AC} {s : St} {Q : AExit → St → Prop} (h : WP E a s (thenQ E b Q)) : WP E (.seq a b) s Q := by
  obtain ⟨e, s1, ⟨n, hn⟩, hq⟩ := h
  have other : (∀ m, n ≤ m → E.code (E.call m) m (.seq a b) s = some (e, s1)) → Q e s1 → WP E (.seq a b) s Q := fun h1 h2 => ⟨e, s1, ⟨n, h1⟩, h2⟩
  cases e with
  | norm =>
    obtain ⟨e2, s2, ⟨k, hk⟩, hq2⟩ := hq
    refine ⟨e2, s2, ⟨max n k, fun m hm => ?_⟩, hq2⟩
    simp only [Env.code]
    rw [hn m (by omega)]
    exact hk m (by omega)
  | ret => exact other (fun m hm => by simp only [Env.code]; rw [hn m hm]; rfl) hq
  | exit id => exact other (fun m hm => by simp only [Env.code]; rw [hn m hm]; rfl) hq
  | panic v => exact other (fun m hm => by simp only [Env.code]; rw [hn m hm]; rfl) hq
theorem wp_cond {c : Opd} {x y : AC} {s : St} {Q : AExit → St → Prop} {b : Bool} (hb : E.opd s.σ c = some (.bool b)) (ht : b = true → WP E x s Q) (hf : b = false → WP E y s Q) : WP E (.cond c x y) s Q := by
  cases b with
  | true =>
    obtain ⟨e, s1, ⟨n, hn⟩, hq⟩ := ht rfl
    exact ⟨e, s1, ⟨n, fun m hm => by simp only [Env.code]; rw [hb]; exact hn m hm⟩, hq⟩
  | false =>
    obtain ⟨e, s1, ⟨n, hn⟩, hq⟩ := hf rfl
    exact ⟨e, s1, ⟨n, fun m hm => by simp only [Env.code]; rw [hb]; exact hn m hm⟩, hq⟩
def blockQ (id : Nat) (Q : AExit → St → Prop) : AExit → St → Prop
  | .exit id', s => if id' = id then Q .norm s else Q (.exit id') s
  | e, s => Q e s
theorem wp_block {id : Nat} {b : AC} {s : St} {Q : AExit → St → Prop} (h : WP E b s (blockQ id Q)) : WP E (.block id b) s Q := by
  obtain ⟨e, s1, ⟨n, hn⟩, hq⟩ := h
  cases e with
  | exit id' =>
    simp only [blockQ] at hq
    by_cases hid : id' = id
    · rw [if_pos hid] at hq
      exact ⟨.norm, s1, ⟨n, fun m hm => by simp only [Env.code]; rw [hn m hm]; simp [hid]⟩, hq⟩
    · rw [if_neg hid] at hq
      exact ⟨.exit id', s1, ⟨n, fun m hm => by simp only [Env.code]; rw [hn m hm]; simp [hid]⟩, hq⟩
  | norm => exact ⟨_, s1, ⟨n, fun m hm => by simp only [Env.code]; rw [hn m hm]; rfl⟩, hq⟩
  | ret => exact ⟨_, s1, ⟨n, fun m hm => by simp only [Env.code]; rw [hn m hm]; rfl⟩, hq⟩
  | panic v => exact ⟨_, s1, ⟨n, fun m hm => by simp only [Env.code]; rw [hn m hm]; rfl⟩, hq⟩
theorem loopN_more {f : St → Option (AExit × St)} : ∀ (n : Nat) (s : St) (r : AExit × St), loopN f n s = some r → ∀ m, n ≤ m → loopN f m s = some r
  | 0, _, _, h, _, _ => by cases h
  | n + 1, s, r, h, m, hm => by
    cases m with
    | zero => omega
    | succ m =>
      simp only [loopN, Option.bind_eq_some_iff] at h ⊢
      obtain ⟨⟨e, s1⟩, h1, h2⟩ := h
      refine ⟨(e, s1), h1, ?_⟩
      cases e with
      | norm => exact loopN_more n s1 r h2 m (by omega)
      | _ => exact h2
/-- The rounds of a loop. -/
def WPr (E : Env) (b : AC) (s : St) (Q : AExit → St → Prop) : Prop := ∃ e s', (∃ n k, ∀ m, n ≤ m → loopN (E.code (E.call m) m b) k s = some (e, s')) ∧ Q e s'
theorem wp_loop {b : AC} {s : St} {Q : AExit → St → Prop} (h : WPr E b s Q) : WP E (.loop b) s Q := by
  obtain ⟨e, s1, ⟨n, k, hn⟩, hq⟩ := h
  exact ⟨e, s1, ⟨max n k, fun m hm => loopN_more k s _ (hn m (by omega)) m (by omega)⟩, hq⟩
def roundQ (E : Env) (b : AC) (Q : AExit → St → Prop) : AExit → St → Prop
  | .norm, s => WPr E b s Q
  | e, s => Q e s
theorem wp_round {b : AC} {s : St} {Q : AExit → St → Prop} (h : WP E b s (roundQ E b Q)) : WPr E b s Q := by
  obtain ⟨e, s1, ⟨n, hn⟩, hq⟩ := h
  have other : e ≠ .norm → (Q e s1) → WPr E b s Q := by
    intro hne hq
    refine ⟨e, s1, ⟨n, 1, fun m hm => ?_⟩, hq⟩
    simp only [loopN]
    rw [hn m hm]
    cases e <;> first | exact absurd rfl hne | rfl
  cases e with
  | norm =>
    obtain ⟨e2, s2, ⟨n2, k, hk⟩, hq2⟩ := hq
    refine ⟨e2, s2, ⟨max n n2, k + 1, fun m hm => ?_⟩, hq2⟩
    simp only [loopN]
    rw [hn m (by omega)]
    exact hk m (by omega)
  | ret => exact other (by simp) hq
  | exit id => exact other (by simp) hq
  | panic v => exact other (by simp) hq
@[simp] theorem wpo_nil {s : St} {Q : AExit → St → Prop} : WPo E [] s Q ↔ Q .norm s := by
  constructor
  · rintro ⟨e, s', ⟨n, hn⟩, hq⟩
    have := hn n (Nat.le_refl _)
    simp only [Env.ops, Option.some.injEq, Prod.mk.injEq] at this
    obtain ⟨rfl, rfl⟩ := this
    exact hq
  · intro h; exact ⟨_, _, ⟨0, fun m _ => rfl⟩, h⟩
def AOp.calls : AOp → Bool
  | .call .. | .callv .. | .panic _ => true
  | _ => false
theorem act_plain {C : CallF} {σ : Slots} {h : Heap} {op : AOp} (hp : op.calls = false) : E.act C σ h op = (E.op σ h op).map COut.ret := by
  cases op <;> first | rfl | simp [AOp.calls] at hp
theorem wpo_cons {o : AOper} {l : List AOper} {s s1 : St} {c : Cls} {Q : AExit → St → Prop} (h : ∃ n, ∀ m, n ≤ m → E.one (E.call m) o s = some (s1, c, none)) (hl : WPo E l s1 Q) : WPo E (o :: l) s Q := by
  obtain ⟨n, hn⟩ := h
  obtain ⟨e, s2, ⟨k, hk⟩, hq⟩ := hl
  refine ⟨e, s2, ⟨max n k, fun m hm => ?_⟩, hq⟩
  simp only [Env.ops]
  rw [hn m (by omega)]
  exact hk m (by omega)
/-- an operation that calls nothing -/
theorem wpo_op {d : Option Nat} {op : AOp} (hp : op.calls = false) {l : List AOper} {σ : Slots} {h : Heap} {Q : AExit → St → Prop} :
    (∃ r, E.op σ h op = some r ∧ WPo E l (St.put ⟨σ, h⟩ d r.v r.h) Q) → WPo E (⟨d, op, none⟩ :: l) ⟨σ, h⟩ Q := by
  rintro ⟨r, hr, hl⟩
  exact wpo_cons (c := r.c) ⟨0, fun m _ => by simp [Env.one, AOper.wanted, act_plain hp, hr]⟩ hl
theorem wpo_op_iff {d : Option Nat} {op : AOp} (hp : op.calls = false) {l : List AOper} {σ : Slots} {h : Heap} {Q : AExit → St → Prop} :
    WPo E (⟨d, op, none⟩ :: l) ⟨σ, h⟩ Q ↔ ∃ r, E.op σ h op = some r ∧ WPo E l (St.put ⟨σ, h⟩ d r.v r.h) Q := by
  refine ⟨?_, wpo_op hp⟩
  rintro ⟨e, s', ⟨n, hn⟩, hq⟩
  cases hr : E.op σ h op with
  | none =>
    have := hn n (Nat.le_refl _)
    simp [Env.ops, Env.one, AOper.wanted, act_plain hp, hr] at this
  | some r =>
    refine ⟨r, rfl, e, s', ⟨n, fun m hm => ?_⟩, hq⟩
    have := hn m hm
    simpa [Env.ops, Env.one, AOper.wanted, act_plain hp, hr] using this
end
section
variable {E : Env} {d : Option Nat} {l : List AOper} {σ : Slots} {h : Heap} {Q : AExit → St → Prop}
@[simp] theorem wpo_mv {x} : WPo E (⟨d, .mv x, none⟩ :: l) ⟨σ, h⟩ Q ↔ ∃ r, E.op σ h (.mv x) = some r ∧ WPo E l (St.put ⟨σ, h⟩ d r.v r.h) Q := wpo_op_iff rfl
@[simp] theorem wpo_pick {c a b} : WPo E (⟨d, .pick c a b, none⟩ :: l) ⟨σ, h⟩ Q ↔ ∃ r, E.op σ h (.pick c a b) = some r ∧ WPo E l (St.put ⟨σ, h⟩ d r.v r.h) Q := wpo_op_iff rfl
@[simp] theorem wpo_alloc {z} : WPo E (⟨d, .alloc z, none⟩ :: l) ⟨σ, h⟩ Q ↔ ∃ r, E.op σ h (.alloc z) = some r ∧ WPo E l (St.put ⟨σ, h⟩ d r.v r.h) Q := wpo_op_iff rfl
@[simp] theorem wpo_box {fr sz x} : WPo E (⟨d, .box fr sz x, none⟩ :: l) ⟨σ, h⟩ Q ↔ ∃ r, E.op σ h (.box fr sz x) = some r ∧ WPo E l (St.put ⟨σ, h⟩ d r.v r.h) Q := wpo_op_iff rfl
@[simp] theorem wpo_build {z ps} : WPo E (⟨d, .build z ps, none⟩ :: l) ⟨σ, h⟩ Q ↔ ∃ r, E.op σ h (.build z ps) = some r ∧ WPo E l (St.put ⟨σ, h⟩ d r.v r.h) Q := wpo_op_iff rfl
@[simp] theorem wpo_lit {fr sz n cs ps} : WPo E (⟨d, .lit fr sz n cs ps, none⟩ :: l) ⟨σ, h⟩ Q ↔ ∃ r, E.op σ h (.lit fr sz n cs ps) = some r ∧ WPo E l (St.put ⟨σ, h⟩ d r.v r.h) Q := wpo_op_iff rfl
@[simp] theorem wpo_load {ag sz x} : WPo E (⟨d, .load ag sz x, none⟩ :: l) ⟨σ, h⟩ Q ↔ ∃ r, E.op σ h (.load ag sz x) = some r ∧ WPo E l (St.put ⟨σ, h⟩ d r.v r.h) Q := wpo_op_iff rfl
@[simp] theorem wpo_store {sz x y} : WPo E (⟨d, .store sz x y, none⟩ :: l) ⟨σ, h⟩ Q ↔ ∃ r, E.op σ h (.store sz x y) = some r ∧ WPo E l (St.put ⟨σ, h⟩ d r.v r.h) Q := wpo_op_iff rfl
@[simp] theorem wpo_nilCheck {x} : WPo E (⟨d, .nilCheck x, none⟩ :: l) ⟨σ, h⟩ Q ↔ ∃ r, E.op σ h (.nilCheck x) = some r ∧ WPo E l (St.put ⟨σ, h⟩ d r.v r.h) Q := wpo_op_iff rfl
@[simp] theorem wpo_bin {o x y} : WPo E (⟨d, .bin o x y, none⟩ :: l) ⟨σ, h⟩ Q ↔ ∃ r, E.op σ h (.bin o x y) = some r ∧ WPo E l (St.put ⟨σ, h⟩ d r.v r.h) Q := wpo_op_iff rfl
@[simp] theorem wpo_eq {ng e x y} : WPo E (⟨d, .eq ng e x y, none⟩ :: l) ⟨σ, h⟩ Q ↔ ∃ r, E.op σ h (.eq ng e x y) = some r ∧ WPo E l (St.put ⟨σ, h⟩ d r.v r.h) Q := wpo_op_iff rfl
@[simp] theorem wpo_un {o x} : WPo E (⟨d, .un o x, none⟩ :: l) ⟨σ, h⟩ Q ↔ ∃ r, E.op σ h (.un o x) = some r ∧ WPo E l (St.put ⟨σ, h⟩ d r.v r.h) Q := wpo_op_iff rfl
@[simp] theorem wpo_conv {c x} : WPo E (⟨d, .conv c x, none⟩ :: l) ⟨σ, h⟩ Q ↔ ∃ r, E.op σ h (.conv c x) = some r ∧ WPo E l (St.put ⟨σ, h⟩ d r.v r.h) Q := wpo_op_iff rfl
@[simp] theorem wpo_mkIface {t x} : WPo E (⟨d, .mkIface t x, none⟩ :: l) ⟨σ, h⟩ Q ↔ ∃ r, E.op σ h (.mkIface t x) = some r ∧ WPo E l (St.put ⟨σ, h⟩ d r.v r.h) Q := wpo_op_iff rfl
@[simp] theorem wpo_mkFunc {f a b} : WPo E (⟨d, .mkFunc f a b, none⟩ :: l) ⟨σ, h⟩ Q ↔ ∃ r, E.op σ h (.mkFunc f a b) = some r ∧ WPo E l (St.put ⟨σ, h⟩ d r.v r.h) Q := wpo_op_iff rfl
@[simp] theorem wpo_makeSlice {sz by_ z a b} : WPo E (⟨d, .makeSlice sz by_ z a b, none⟩ :: l) ⟨σ, h⟩ Q ↔ ∃ r, E.op σ h (.makeSlice sz by_ z a b) = some r ∧ WPo E l (St.put ⟨σ, h⟩ d r.v r.h) Q := wpo_op_iff rfl
@[simp] theorem wpo_slice {sz x lo hi mx} : WPo E (⟨d, .slice sz x lo hi mx, none⟩ :: l) ⟨σ, h⟩ Q ↔ ∃ r, E.op σ h (.slice sz x lo hi mx) = some r ∧ WPo E l (St.put ⟨σ, h⟩ d r.v r.h) Q := wpo_op_iff rfl
@[simp] theorem wpo_sliceStr {x lo hi} : WPo E (⟨d, .sliceStr x lo hi, none⟩ :: l) ⟨σ, h⟩ Q ↔ ∃ r, E.op σ h (.sliceStr x lo hi) = some r ∧ WPo E l (St.put ⟨σ, h⟩ d r.v r.h) Q := wpo_op_iff rfl
@[simp] theorem wpo_sliceArr {sz n x lo hi mx} : WPo E (⟨d, .sliceArr sz n x lo hi mx, none⟩ :: l) ⟨σ, h⟩ Q ↔ ∃ r, E.op σ h (.sliceArr sz n x lo hi mx) = some r ∧ WPo E l (St.put ⟨σ, h⟩ d r.v r.h) Q := wpo_op_iff rfl
@[simp] theorem wpo_fieldAddr {o x} : WPo E (⟨d, .fieldAddr o x, none⟩ :: l) ⟨σ, h⟩ Q ↔ ∃ r, E.op σ h (.fieldAddr o x) = some r ∧ WPo E l (St.put ⟨σ, h⟩ d r.v r.h) Q := wpo_op_iff rfl
@[simp] theorem wpo_field {ag sz o x} : WPo E (⟨d, .field ag sz o x, none⟩ :: l) ⟨σ, h⟩ Q ↔ ∃ r, E.op σ h (.field ag sz o x) = some r ∧ WPo E l (St.put ⟨σ, h⟩ d r.v r.h) Q := wpo_op_iff rfl
@[simp] theorem wpo_idxAddr {sz x i} : WPo E (⟨d, .idxAddr sz x i, none⟩ :: l) ⟨σ, h⟩ Q ↔ ∃ r, E.op σ h (.idxAddr sz x i) = some r ∧ WPo E l (St.put ⟨σ, h⟩ d r.v r.h) Q := wpo_op_iff rfl
@[simp] theorem wpo_idxAddrArr {sz n x i} : WPo E (⟨d, .idxAddrArr sz n x i, none⟩ :: l) ⟨σ, h⟩ Q ↔ ∃ r, E.op σ h (.idxAddrArr sz n x i) = some r ∧ WPo E l (St.put ⟨σ, h⟩ d r.v r.h) Q := wpo_op_iff rfl
@[simp] theorem wpo_idxStr {x i} : WPo E (⟨d, .idxStr x i, none⟩ :: l) ⟨σ, h⟩ Q ↔ ∃ r, E.op σ h (.idxStr x i) = some r ∧ WPo E l (St.put ⟨σ, h⟩ d r.v r.h) Q := wpo_op_iff rfl
@[simp] theorem wpo_idxArr {ag sz n x i} : WPo E (⟨d, .idxArr ag sz n x i, none⟩ :: l) ⟨σ, h⟩ Q ↔ ∃ r, E.op σ h (.idxArr ag sz n x i) = some r ∧ WPo E l (St.put ⟨σ, h⟩ d r.v r.h) Q := wpo_op_iff rfl
@[simp] theorem wpo_extract {x i} : WPo E (⟨d, .extract x i, none⟩ :: l) ⟨σ, h⟩ Q ↔ ∃ r, E.op σ h (.extract x i) = some r ∧ WPo E l (St.put ⟨σ, h⟩ d r.v r.h) Q := wpo_op_iff rfl
@[simp] theorem wpo_len {b x} : WPo E (⟨d, .len b x, none⟩ :: l) ⟨σ, h⟩ Q ↔ ∃ r, E.op σ h (.len b x) = some r ∧ WPo E l (St.put ⟨σ, h⟩ d r.v r.h) Q := wpo_op_iff rfl
@[simp] theorem wpo_append {sz by_ x y} : WPo E (⟨d, .append sz by_ x y, none⟩ :: l) ⟨σ, h⟩ Q ↔ ∃ r, E.op σ h (.append sz by_ x y) = some r ∧ WPo E l (St.put ⟨σ, h⟩ d r.v r.h) Q := wpo_op_iff rfl
@[simp] theorem wpo_minmax {m x y} : WPo E (⟨d, .minmax m x y, none⟩ :: l) ⟨σ, h⟩ Q ↔ ∃ r, E.op σ h (.minmax m x y) = some r ∧ WPo E l (St.put ⟨σ, h⟩ d r.v r.h) Q := wpo_op_iff rfl
@[simp] theorem put_some {d : Nat} {v : AV} {h' : Heap} : St.put ⟨σ, h⟩ (some d) v h' = ⟨σ.put d v, h'⟩ := rfl
@[simp] theorem put_none {v : AV} {h' : Heap} : St.put ⟨σ, h⟩ none v h' = ⟨σ, h'⟩ := rfl
theorem get_put (σ : Slots) (d : Nat) (v : AV) (t : Nat) : (σ.put d v).get t = if t = d then v else σ.get t := by
  have h := Tr.get_set (α := AV) σ d t (some v)
  unfold Slots.get Slots.put
  rw [h]
  by_cases ht : t = d
  · rw [if_pos ht, if_pos ht]
  · rw [if_neg ht, if_neg ht]
@[simp] theorem opd_t {t : Nat} : E.opd σ (.t t) = some (σ.get t) := rfl
@[simp] theorem opd_c {v : AV} : E.opd σ (.c v) = some v := rfl
@[simp] theorem thenQ_norm {b : AC} {s : St} : thenQ E b Q .norm s = WP E b s Q := rfl
@[simp] theorem thenQ_ret {b : AC} {s : St} : thenQ E b Q .ret s = Q .ret s := rfl
@[simp] theorem thenQ_exit {b : AC} {s : St} {id : Nat} : thenQ E b Q (.exit id) s = Q (.exit id) s := rfl
@[simp] theorem thenQ_panic {b : AC} {s : St} {v : AV} : thenQ E b Q (.panic v) s = Q (.panic v) s := rfl
@[simp] theorem roundQ_norm {b : AC} {s : St} : roundQ E b Q .norm s = WPr E b s Q := rfl
@[simp] theorem roundQ_ret {b : AC} {s : St} : roundQ E b Q .ret s = Q .ret s := rfl
@[simp] theorem roundQ_exit {b : AC} {s : St} {id : Nat} : roundQ E b Q (.exit id) s = Q (.exit id) s := rfl
@[simp] theorem blockQ_norm {id : Nat} {s : St} : blockQ id Q .norm s = Q .norm s := rfl
@[simp] theorem blockQ_ret {id : Nat} {s : St} : blockQ id Q .ret s = Q .ret s := rfl
@[simp] theorem blockQ_exit {id id' : Nat} {s : St} : blockQ id Q (.exit id') s = if id' = id then Q .norm s else Q (.exit id') s := rfl
end
section
variable {E : Env}
theorem wc_body {f : Nat} {af : AFunc} (hp : E.prim f = none) (hf : E.func f = some af) {args : List AV} {h : Heap} (hu : E.pure_ f = false ∨ AV.noRefs args = false) {Q : COut → Prop}
    (hb : WP E af.body ⟨Slots.ofList 0 args .empty, h⟩ (fun e s => match e with
      | .norm | .ret => ∃ vs, E.results s af.results = some vs ∧ Q (.ret ⟨oneOrTup vs, s.h, .write⟩)
      | .panic v => Q (.panic v s.h)
      | .exit _ => False)) : WC E f args h Q := by
  obtain ⟨e, s1, ⟨n, hn⟩, hq⟩ := hb
  have key : ∀ o, Q o → (∀ m, n ≤ m → E.body (E.call m) m af args h = some o) → WC E f args h Q := by
    intro o ho hall
    refine ⟨o, ⟨n + 1, fun m hm => ?_⟩, ho⟩
    cases m with
    | zero => omega
    | succ m =>
      simp only [Env.call, hp, hf, Option.bind_some]
      rcases hu with hu | hu
      · rw [hu]; exact hall m (by omega)
      · cases hpf : E.pure_ f with
        | false => exact hall m (by omega)
        | true => rw [hu]; exact hall m (by omega)
  cases e with
  | norm =>
    obtain ⟨vs, hvs, hq⟩ := hq
    exact key _ hq fun m hm => by simp only [Env.body]; rw [hn m hm]; simp [hvs]
  | ret =>
    obtain ⟨vs, hvs, hq⟩ := hq
    exact key _ hq fun m hm => by simp only [Env.body]; rw [hn m hm]; simp [hvs]
  | panic v => exact key _ hq fun m hm => by simp only [Env.body]; rw [hn m hm]; rfl
  | exit id => exact hq.elim
/-- a call that does not look at the caller's heap -/
theorem wc_pure {f : Nat} {af : AFunc} (hp : E.prim f = none) (hf : E.func f = some af) {args : List AV} {h : Heap} (hu : E.pure_ f = true) (hr : AV.noRefs args = true) {Q : COut → Prop}
    (hb : WP E af.body ⟨Slots.ofList 0 args .empty, .empty⟩ (fun e s => match e with
      | .norm | .ret => ∃ vs v n, E.results s af.results = some vs ∧ freeze s.h n (oneOrTup vs) = some v ∧ (∀ m, n ≤ m → freeze s.h m (oneOrTup vs) = some v) ∧ Q (.ret ⟨v, h, .none⟩)
      | _ => False)) : WC E f args h Q := by
  obtain ⟨e, s1, ⟨n, hn⟩, hq⟩ := hb
  have key : ∀ vs v k, freeze s1.h k (oneOrTup vs) = some v → (∀ m, k ≤ m → freeze s1.h m (oneOrTup vs) = some v) → Q (.ret ⟨v, h, .none⟩) → (∀ m, n ≤ m → E.body (E.call m) m af args .empty = some (.ret ⟨oneOrTup vs, s1.h, .write⟩)) → WC E f args h Q := by
    intro vs v k hk hkm ho hall
    refine ⟨_, ⟨n + k + 1, fun m hm => ?_⟩, ho⟩
    cases m with
    | zero => omega
    | succ m =>
      simp only [Env.call, hp, hf, Option.bind_some, hu, hr]
      rw [hall m (by omega)]
      simp [hkm m (by omega)]
  cases e with
  | norm =>
    obtain ⟨vs, v, k, hvs, hk, hkm, hq⟩ := hq
    exact key _ _ _ hk hkm hq fun m hm => by simp only [Env.body]; rw [hn m hm]; simp [hvs]
  | ret =>
    obtain ⟨vs, v, k, hvs, hk, hkm, hq⟩ := hq
    exact key _ _ _ hk hkm hq fun m hm => by simp only [Env.body]; rw [hn m hm]; simp [hvs]
  | panic v => exact hq.elim
  | exit id => exact hq.elim
theorem wpl_nil {s : St} {Q : St → List (AOper × St × Cls) → Prop} (h : Q s []) : WPl E [] s Q := ⟨_, _, ⟨0, fun m _ => rfl⟩, h⟩
theorem wpl_cons {o : AOper} {l : List AOper} {s s1 : St} {c : Cls} {Q : St → List (AOper × St × Cls) → Prop} (h : ∃ n, ∀ m, n ≤ m → E.one (E.call m) o s = some (s1, c, none)) (hl : WPl E l s1 (fun s' log => Q s' ((o, s, c) :: log))) : WPl E (o :: l) s Q := by
  obtain ⟨n, hn⟩ := h
  obtain ⟨s2, log, ⟨k, hk⟩, hq⟩ := hl
  refine ⟨s2, _, ⟨max n k, fun m hm => ?_⟩, hq⟩
  simp only [Env.opsLog]
  rw [hn m (by omega)]
  simp [hk m (by omega)]
theorem wp_draw {l : List AOper} {b : List Nat} {s : St} {Q : AExit → St → Prop} (h : WPl E l s (fun s' log => E.drawOk (s'.h :: log.map (fun x => x.2.1.h)) 0 log b = true ∧ Q .norm s')) : WP E (.draw l b) s Q := by
  obtain ⟨s1, log, ⟨n, hn⟩, h1, h2⟩ := h
  refine ⟨_, s1, ⟨n, fun m hm => ?_⟩, h2⟩
  simp only [Env.code, Env.draws]
  rw [hn m hm]
  simp [h1]
end
end Go.AM

set_option linter.unusedSimpArgs false
set_option linter.unusedVariables false
namespace Go.AM
/-- what a guard comes to: of an operation that was itself passed over: passed over -/
def gval (w : Bool) : AV → AV
  | .undef => .bool (!w)
  | v => v
@[simp] theorem gval_bool {w b : Bool} : gval w (.bool b) = .bool b := id rfl
section
variable (E : Env)
/-- one operation, without its guard -/
def wp1 (op : AOp) (d : Option Nat) (s : St) (K : St → Cls → Prop) (Q : AExit → St → Prop) : Prop :=
  match op with
  | .call f args => ∃ vs, E.opds s.σ args = some vs ∧ WC E f vs s.h (fun o => match o with | .ret r => K (s.put d r.v r.h) r.c | .panic v h => Q (.panic v) ⟨s.σ, h⟩)
  | .callv f args => ∃ g first cap vs, E.opd s.σ f = some (.fn (.func g) first cap) ∧ E.opds s.σ args = some vs ∧ WC E g (first ++ vs ++ cap) s.h (fun o => match o with | .ret r => K (s.put d r.v r.h) r.c | .panic v h => Q (.panic v) ⟨s.σ, h⟩)
  | .panic x => ∃ t v, E.opd s.σ x = some (.ifc t v) ∧ Q (.panic (.ifc t v)) s
  | op => ∃ r, E.op s.σ s.h op = some r ∧ K (s.put d r.v r.h) r.c
def wpo : List AOper → St → (AExit → St → Prop) → Prop
  | [], s, Q => Q .norm s
  | o :: l, s, Q =>
    match o.guard with
    | none => wp1 E o.op o.dst s (fun s' _ => wpo l s' Q) Q
    | some (t, w) => ∃ b, gval w (s.σ.get t) = .bool b ∧ (if b = w then wp1 E o.op o.dst s (fun s' _ => wpo l s' Q) Q else wpo l (s.put o.dst .undef s.h) Q)
def wpl : List AOper → St → (St → List (AOper × St × Cls) → Prop) → Prop
  | [], s, Q => Q s []
  | o :: l, s, Q =>
    match o.guard with
    | none => wp1 E o.op o.dst s (fun s' c => wpl l s' (fun s2 log => Q s2 ((o, s, c) :: log))) (fun _ _ => False)
    | some (t, w) => ∃ b, gval w (s.σ.get t) = .bool b ∧ (if b = w then wp1 E o.op o.dst s (fun s' c => wpl l s' (fun s2 log => Q s2 ((o, s, c) :: log))) (fun _ _ => False)
        else wpl l (s.put o.dst .undef s.h) (fun s2 log => Q s2 ((o, s, .none) :: log)))
def wpc : AC → St → (AExit → St → Prop) → Prop
  | .skip, s, Q => Q .norm s
  | .ops l, s, Q => wpo E l s Q
  | .draw l b, s, Q => wpl E l s (fun s' log => E.drawOk (s'.h :: log.map (fun x => x.2.1.h)) 0 log b = true ∧ Q .norm s')
  | .seq a b, s, Q => wpc a s (fun e s' => match e with | .norm => wpc b s' Q | e => Q e s')
  | .cond c x y, s, Q => ∃ b, E.opd s.σ c = some (.bool b) ∧ (if b = true then wpc x s Q else wpc y s Q)
  | .block id b, s, Q => wpc b s (fun e s' => match e with | .exit id' => if id' = id then Q .norm s' else Q (.exit id') s' | e => Q e s')
  | .loop b, s, Q => WPr E b s Q
  | .exit id, s, Q => Q (.exit id) s
  | .scope b, s, Q => wpc b s Q
  | .ret, s, Q => Q .ret s
  | .bad, _, _ => False
end
section
variable {E : Env}
theorem wp1_one {op : AOp} {d : Option Nat} {s : St} {K : St → Cls → Prop} {Q : AExit → St → Prop} (h : wp1 E op d s K Q) :
    (∃ s' c, (∃ n, ∀ m, n ≤ m → E.one (E.call m) ⟨d, op, none⟩ s = some (s', c, none)) ∧ K s' c) ∨
    (∃ v h', (∃ n, ∀ m, n ≤ m → E.one (E.call m) ⟨d, op, none⟩ s = some (⟨s.σ, h'⟩, .write, some v)) ∧ Q (.panic v) ⟨s.σ, h'⟩) := by
  have plain : op.calls = false → (∃ r, E.op s.σ s.h op = some r ∧ K (s.put d r.v r.h) r.c) → (∃ s' c, (∃ n, ∀ m, n ≤ m → E.one (E.call m) ⟨d, op, none⟩ s = some (s', c, none)) ∧ K s' c) := by
    rintro hp ⟨r, hr, hk⟩
    exact ⟨_, _, ⟨0, fun m _ => by simp [Env.one, AOper.wanted, act_plain hp, hr]⟩, hk⟩
  cases op
  case call f args =>
    obtain ⟨vs, hvs, o, ⟨n, hn⟩, hq⟩ := h
    cases o with
    | ret r => exact .inl ⟨_, _, ⟨n, fun m hm => by simp [Env.one, AOper.wanted, Env.act, hvs, hn m hm]⟩, hq⟩
    | panic v h' => exact .inr ⟨v, h', ⟨n, fun m hm => by simp [Env.one, AOper.wanted, Env.act, hvs, hn m hm]⟩, hq⟩
  case callv f args =>
    obtain ⟨g, a, b, vs, hf, hvs, o, ⟨n, hn⟩, hq⟩ := h
    have hn' : ∀ m, n ≤ m → E.call m g (a ++ (vs ++ b)) s.h = some o := fun m hm => by rw [← List.append_assoc]; exact hn m hm
    cases o with
    | ret r => exact .inl ⟨_, _, ⟨n, fun m hm => by simp [Env.one, AOper.wanted, Env.act, hvs, hf, hn' m hm]⟩, hq⟩
    | panic v h' => exact .inr ⟨v, h', ⟨n, fun m hm => by simp [Env.one, AOper.wanted, Env.act, hvs, hf, hn' m hm]⟩, hq⟩
  case panic x =>
    obtain ⟨t, v, hx, hq⟩ := h
    exact .inr ⟨_, s.h, ⟨0, fun m hm => by simp [Env.one, AOper.wanted, Env.act, hx]⟩, hq⟩
  all_goals exact .inl (plain rfl h)
theorem one_guard_on {d : Option Nat} {op : AOp} {t : Nat} {w : Bool} {s : St} (hb : s.σ.get t = .bool w) (C : CallF) : E.one C ⟨d, op, some (t, w)⟩ s = E.one C ⟨d, op, none⟩ s := by
  simp only [Env.one, AOper.wanted, hb, beq_self_eq_true]
theorem one_guard_off {d : Option Nat} {op : AOp} {t : Nat} {w b : Bool} {s : St} (hb : s.σ.get t = .bool b) (he : ¬ b = w) (C : CallF) : E.one C ⟨d, op, some (t, w)⟩ s = some (s.put d .undef s.h, .none, none) := by
  have hbw : (b == w) = false := by simp [he]
  simp only [Env.one, AOper.wanted, hb, hbw]
theorem gval_on {w : Bool} {v : AV} (h : gval w v = .bool w) : v = .bool w := by
  unfold gval at h
  split at h
  · cases w <;> cases h
  · exact h
theorem one_guard_off' {d : Option Nat} {op : AOp} {t : Nat} {w b : Bool} {s : St} (hb : gval w (s.σ.get t) = .bool b) (he : ¬ b = w) (C : CallF) : E.one C ⟨d, op, some (t, w)⟩ s = some (s.put d .undef s.h, .none, none) := by
  by_cases hu : s.σ.get t = .undef
  · have hw : AOper.wanted ⟨d, op, some (t, w)⟩ s.σ = false := by simp only [AOper.wanted, hu]; rfl
    simp only [Env.one, hw]
  · have : s.σ.get t = .bool b := by
      unfold gval at hb
      split at hb
      · rename_i hv; exact absurd hv hu
      · exact hb
    exact one_guard_off this he C
theorem wpo_panic {o : AOper} {l : List AOper} {s s1 : St} {c : Cls} {v : AV} {Q : AExit → St → Prop} (h : ∃ n, ∀ m, n ≤ m → E.one (E.call m) o s = some (s1, c, some v)) (hq : Q (.panic v) s1) : WPo E (o :: l) s Q := by
  obtain ⟨n, hn⟩ := h
  exact ⟨_, _, ⟨n, fun m hm => by simp [Env.ops, hn m hm]⟩, hq⟩
theorem wpo_sound : ∀ (l : List AOper) (s : St) (Q : AExit → St → Prop), wpo E l s Q → WPo E l s Q
  | [], s, Q, h => ⟨_, _, ⟨0, fun m _ => rfl⟩, h⟩
  | ⟨d, op, none⟩ :: l, s, Q, h => by
    have h : wp1 E op d s (fun s' _ => wpo E l s' Q) Q := h
    rcases wp1_one h with ⟨s', c, h1, h2⟩ | ⟨v, h', h1, h2⟩
    · exact wpo_cons h1 (wpo_sound l s' Q h2)
    · exact wpo_panic h1 h2
  | ⟨d, op, some (t, w)⟩ :: l, s, Q, h => by
    obtain ⟨b, hb, h⟩ := h
    by_cases he : b = w
    · subst he
      rw [if_pos rfl] at h
      have h : wp1 E op d s (fun s' _ => wpo E l s' Q) Q := h
      rcases wp1_one h with ⟨s', c, ⟨n, h1⟩, h2⟩ | ⟨v, h', ⟨n, h1⟩, h2⟩
      · exact wpo_cons ⟨n, fun m hm => by rw [one_guard_on (gval_on hb)]; exact h1 m hm⟩ (wpo_sound l s' Q h2)
      · exact wpo_panic ⟨n, fun m hm => by rw [one_guard_on (gval_on hb)]; exact h1 m hm⟩ h2
    · rw [if_neg he] at h
      exact wpo_cons ⟨0, fun m _ => one_guard_off' hb he _⟩ (wpo_sound l _ Q h)
theorem wpl_sound : ∀ (l : List AOper) (s : St) (Q : St → List (AOper × St × Cls) → Prop), wpl E l s Q → WPl E l s Q
  | [], s, Q, h => wpl_nil h
  | ⟨d, op, none⟩ :: l, s, Q, h => by
    have h : wp1 E op d s (fun s' c => wpl E l s' (fun s2 log => Q s2 ((⟨d, op, none⟩, s, c) :: log))) (fun _ _ => False) := h
    rcases wp1_one h with ⟨s', c, h1, h2⟩ | ⟨v, h', h1, h2⟩
    · exact wpl_cons h1 (wpl_sound l s' _ h2)
    · exact h2.elim
  | ⟨d, op, some (t, w)⟩ :: l, s, Q, h => by
    obtain ⟨b, hb, h⟩ := h
    by_cases he : b = w
    · subst he
      rw [if_pos rfl] at h
      have h : wp1 E op d s (fun s' c => wpl E l s' (fun s2 log => Q s2 ((⟨d, op, some (t, b)⟩, s, c) :: log))) (fun _ _ => False) := h
      rcases wp1_one h with ⟨s', c, ⟨n, h1⟩, h2⟩ | ⟨v, h', ⟨n, h1⟩, h2⟩
      · exact wpl_cons ⟨n, fun m hm => by rw [one_guard_on (gval_on hb)]; exact h1 m hm⟩ (wpl_sound l s' _ h2)
      · exact h2.elim
    · rw [if_neg he] at h
      exact wpl_cons ⟨0, fun m _ => one_guard_off' hb he _⟩ (wpl_sound l _ _ h)
theorem wpc_sound : ∀ (c : AC) (s : St) (Q : AExit → St → Prop), wpc E c s Q → WP E c s Q
  | .skip, s, Q, h => wp_skip h
  | .ops l, s, Q, h => wp_ops (wpo_sound l s Q h)
  | .draw l b, s, Q, h => wp_draw (wpl_sound l s _ h)
  | .seq a b, s, Q, h => by
    refine wp_seq ((wpc_sound a s _ h).mono fun e s' hq => ?_)
    cases e with
    | norm => exact wpc_sound b s' Q hq
    | _ => exact hq
  | .cond c x y, s, Q, h => by
    obtain ⟨b, hb, h⟩ := h
    refine wp_cond hb (fun e => ?_) (fun e => ?_)
    · subst e; exact wpc_sound x s Q h
    · subst e; exact wpc_sound y s Q h
  | .block id b, s, Q, h => by
    refine wp_block ((wpc_sound b s _ h).mono fun e s' hq => ?_)
    cases e <;> exact hq
  | .loop b, s, Q, h => wp_loop h
  | .exit id, s, Q, h => wp_exit h
  | .scope b, s, Q, h => wp_scope (wpc_sound b s Q h)
  | .ret, s, Q, h => wp_ret h
  | .bad, s, Q, h => h.elim
def seqQ (E : Env) (b : AC) (Q : AExit → St → Prop) : AExit → St → Prop := fun e s' => match e with | .norm => wpc E b s' Q | e => Q e s'
def opsK (E : Env) (l : List AOper) (Q : AExit → St → Prop) : St → Cls → Prop := fun s' _ => wpo E l s' Q
def condK (E : Env) (x y : AC) (s : St) (Q : AExit → St → Prop) : Bool → Prop := fun b => if b = true then wpc E x s Q else wpc E y s Q
def guardK (E : Env) (op : AOp) (d : Option Nat) (l : List AOper) (s : St) (Q : AExit → St → Prop) (w : Bool) : Bool → Prop := fun b =>
  if b = w then wp1 E op d s (opsK E l Q) Q else wpo E l (s.put d .undef s.h) Q
def callK (s : St) (d : Option Nat) (K : St → Cls → Prop) (Q : AExit → St → Prop) : COut → Prop := fun o => match o with | .ret r => K (s.put d r.v r.h) r.c | .panic v h => Q (.panic v) ⟨s.σ, h⟩
def logQ (o : AOper) (s : St) (c : Cls) (Q : St → List (AOper × St × Cls) → Prop) : St → List (AOper × St × Cls) → Prop := fun s2 log => Q s2 ((o, s, c) :: log)
def logK (E : Env) (o : AOper) (l : List AOper) (s : St) (Q : St → List (AOper × St × Cls) → Prop) : St → Cls → Prop := fun s' c => wpl E l s' (logQ o s c Q)
def noQ : AExit → St → Prop := fun _ _ => False
def guardL (E : Env) (o : AOper) (l : List AOper) (s : St) (Q : St → List (AOper × St × Cls) → Prop) (w : Bool) : Bool → Prop := fun b =>
  if b = w then wp1 E o.op o.dst s (logK E o l s Q) noQ else wpl E l (s.put o.dst .undef s.h) (logQ o s .none Q)
def drawQ (E : Env) (b : List Nat) (Q : AExit → St → Prop) : St → List (AOper × St × Cls) → Prop := fun s' log => E.drawOk (s'.h :: log.map (fun x => x.2.1.h)) 0 log b = true ∧ Q .norm s'
def blockQ' (id : Nat) (Q : AExit → St → Prop) : AExit → St → Prop := fun e s' => match e with | .exit id' => if id' = id then Q .norm s' else Q (.exit id') s' | e => Q e s'
section
variable {a b x y : AC} {s : St} {Q : AExit → St → Prop} {id : Nat} {l : List AOper} {d : Option Nat} {op : AOp} {K : St → Cls → Prop}
@[simp] theorem wpc_skip : wpc E .skip s Q = Q .norm s := rfl
@[simp] theorem wpc_ops : wpc E (.ops l) s Q = wpo E l s Q := rfl
@[simp] theorem wpc_draw {bf : List Nat} : wpc E (.draw l bf) s Q = wpl E l s (drawQ E bf Q) := rfl
@[simp] theorem wpc_seq : wpc E (.seq a b) s Q = wpc E a s (seqQ E b Q) := rfl
@[simp] theorem wpc_cond {c : Opd} : wpc E (.cond c x y) s Q = ∃ b, E.opd s.σ c = some (.bool b) ∧ condK E x y s Q b := rfl
@[simp] theorem wpc_block : wpc E (.block id b) s Q = wpc E b s (blockQ' id Q) := rfl
@[simp] theorem wpc_loop : wpc E (.loop b) s Q = WPr E b s Q := rfl
@[simp] theorem wpc_exit : wpc E (.exit id) s Q = Q (.exit id) s := rfl
@[simp] theorem wpc_scope : wpc E (.scope b) s Q = wpc E b s Q := rfl
@[simp] theorem wpc_ret : wpc E .ret s Q = Q .ret s := rfl
@[simp] theorem seqQ_norm : seqQ E b Q .norm s = wpc E b s Q := rfl
@[simp] theorem seqQ_ret : seqQ E b Q .ret s = Q .ret s := rfl
@[simp] theorem seqQ_exit : seqQ E b Q (.exit id) s = Q (.exit id) s := rfl
@[simp] theorem seqQ_panic {v : AV} : seqQ E b Q (.panic v) s = Q (.panic v) s := rfl
@[simp] theorem blockQ'_norm : blockQ' id Q .norm s = Q .norm s := rfl
@[simp] theorem blockQ'_ret : blockQ' id Q .ret s = Q .ret s := rfl
@[simp] theorem blockQ'_exit {id' : Nat} : blockQ' id Q (.exit id') s = if id' = id then Q .norm s else Q (.exit id') s := rfl
@[simp] theorem blockQ'_panic {v : AV} : blockQ' id Q (.panic v) s = Q (.panic v) s := rfl
@[simp] theorem condK_true : condK E x y s Q true = wpc E x s Q := rfl
@[simp] theorem condK_false : condK E x y s Q false = wpc E y s Q := rfl
@[simp] theorem wpo_nil' : wpo E [] s Q = Q .norm s := rfl
@[simp] theorem wpo_none : wpo E (⟨d, op, none⟩ :: l) s Q = wp1 E op d s (opsK E l Q) Q := rfl
@[simp] theorem wpo_some {t : Nat} {w : Bool} : wpo E (⟨d, op, some (t, w)⟩ :: l) s Q = ∃ b, gval w (s.σ.get t) = .bool b ∧ guardK E op d l s Q w b := rfl
@[simp] theorem opsK_apply {c : Cls} : opsK E l Q s c = wpo E l s Q := rfl
@[simp] theorem guardK_tt : guardK E op d l s Q true true = wp1 E op d s (opsK E l Q) Q := rfl
@[simp] theorem guardK_ff : guardK E op d l s Q false false = wp1 E op d s (opsK E l Q) Q := rfl
@[simp] theorem guardK_tf : guardK E op d l s Q true false = wpo E l (s.put d .undef s.h) Q := rfl
@[simp] theorem guardK_ft : guardK E op d l s Q false true = wpo E l (s.put d .undef s.h) Q := rfl
@[simp] theorem wpl_nil' {Q : St → List (AOper × St × Cls) → Prop} : wpl E [] s Q = Q s [] := rfl
@[simp] theorem wpl_none {Q : St → List (AOper × St × Cls) → Prop} : wpl E (⟨d, op, none⟩ :: l) s Q = wp1 E op d s (logK E ⟨d, op, none⟩ l s Q) noQ := rfl
@[simp] theorem wpl_some {Q : St → List (AOper × St × Cls) → Prop} {t : Nat} {w : Bool} : wpl E (⟨d, op, some (t, w)⟩ :: l) s Q = ∃ b, gval w (s.σ.get t) = .bool b ∧ guardL E ⟨d, op, some (t, w)⟩ l s Q w b := rfl
@[simp] theorem logK_apply {Q : St → List (AOper × St × Cls) → Prop} {o : AOper} {s' : St} {c : Cls} : logK E o l s Q s' c = wpl E l s' (logQ o s c Q) := rfl
@[simp] theorem logQ_apply {Q : St → List (AOper × St × Cls) → Prop} {o : AOper} {s' : St} {c : Cls} {log : List (AOper × St × Cls)} : logQ o s c Q s' log = Q s' ((o, s, c) :: log) := rfl
@[simp] theorem guardL_tt {Q : St → List (AOper × St × Cls) → Prop} {o : AOper} : guardL E o l s Q true true = wp1 E o.op o.dst s (logK E o l s Q) noQ := rfl
@[simp] theorem guardL_ff {Q : St → List (AOper × St × Cls) → Prop} {o : AOper} : guardL E o l s Q false false = wp1 E o.op o.dst s (logK E o l s Q) noQ := rfl
@[simp] theorem guardL_tf {Q : St → List (AOper × St × Cls) → Prop} {o : AOper} : guardL E o l s Q true false = wpl E l (s.put o.dst .undef s.h) (logQ o s .none Q) := rfl
@[simp] theorem guardL_ft {Q : St → List (AOper × St × Cls) → Prop} {o : AOper} : guardL E o l s Q false true = wpl E l (s.put o.dst .undef s.h) (logQ o s .none Q) := rfl
@[simp] theorem drawQ_apply {bf : List Nat} {log : List (AOper × St × Cls)} : drawQ E bf Q s log = (E.drawOk (s.h :: log.map (fun x => x.2.1.h)) 0 log bf = true ∧ Q .norm s) := rfl
@[simp] theorem wp1_call {f : Nat} {args : List Opd} : wp1 E (.call f args) d s K Q = ∃ vs, E.opds s.σ args = some vs ∧ WC E f vs s.h (callK s d K Q) := rfl
@[simp] theorem callK_ret {r : OpRes} : callK s d K Q (.ret r) = K (s.put d r.v r.h) r.c := rfl
@[simp] theorem callK_panic {v : AV} {h : Heap} : callK s d K Q (.panic v h) = Q (.panic v) ⟨s.σ, h⟩ := rfl
theorem wp1_mv {x} : wp1 E (.mv x) d s K Q = ∃ r, E.op s.σ s.h (.mv x) = some r ∧ K (s.put d r.v r.h) r.c := rfl
theorem wp1_pick {c a b} : wp1 E (.pick c a b) d s K Q = ∃ r, E.op s.σ s.h (.pick c a b) = some r ∧ K (s.put d r.v r.h) r.c := rfl
theorem wp1_alloc {z} : wp1 E (.alloc z) d s K Q = ∃ r, E.op s.σ s.h (.alloc z) = some r ∧ K (s.put d r.v r.h) r.c := rfl
@[simp] theorem wp1_box {fr sz x} : wp1 E (.box fr sz x) d s K Q = ∃ r, E.op s.σ s.h (.box fr sz x) = some r ∧ K (s.put d r.v r.h) r.c := rfl
@[simp] theorem wp1_build {z ps} : wp1 E (.build z ps) d s K Q = ∃ r, E.op s.σ s.h (.build z ps) = some r ∧ K (s.put d r.v r.h) r.c := rfl
@[simp] theorem wp1_lit {fr sz n cs ps} : wp1 E (.lit fr sz n cs ps) d s K Q = ∃ r, E.op s.σ s.h (.lit fr sz n cs ps) = some r ∧ K (s.put d r.v r.h) r.c := rfl
theorem wp1_load {ag sz x} : wp1 E (.load ag sz x) d s K Q = ∃ r, E.op s.σ s.h (.load ag sz x) = some r ∧ K (s.put d r.v r.h) r.c := rfl
theorem wp1_store {sz x y} : wp1 E (.store sz x y) d s K Q = ∃ r, E.op s.σ s.h (.store sz x y) = some r ∧ K (s.put d r.v r.h) r.c := rfl
theorem wp1_nilCheck {x} : wp1 E (.nilCheck x) d s K Q = ∃ r, E.op s.σ s.h (.nilCheck x) = some r ∧ K (s.put d r.v r.h) r.c := rfl
theorem wp1_bin {o x y} : wp1 E (.bin o x y) d s K Q = ∃ r, E.op s.σ s.h (.bin o x y) = some r ∧ K (s.put d r.v r.h) r.c := rfl
theorem wp1_eq {ng e x y} : wp1 E (.eq ng e x y) d s K Q = ∃ r, E.op s.σ s.h (.eq ng e x y) = some r ∧ K (s.put d r.v r.h) r.c := rfl
theorem wp1_un {o x} : wp1 E (.un o x) d s K Q = ∃ r, E.op s.σ s.h (.un o x) = some r ∧ K (s.put d r.v r.h) r.c := rfl
theorem wp1_conv {c x} : wp1 E (.conv c x) d s K Q = ∃ r, E.op s.σ s.h (.conv c x) = some r ∧ K (s.put d r.v r.h) r.c := rfl
theorem wp1_mkIface {t x} : wp1 E (.mkIface t x) d s K Q = ∃ r, E.op s.σ s.h (.mkIface t x) = some r ∧ K (s.put d r.v r.h) r.c := rfl
@[simp] theorem wp1_mkFunc {f a b} : wp1 E (.mkFunc f a b) d s K Q = ∃ r, E.op s.σ s.h (.mkFunc f a b) = some r ∧ K (s.put d r.v r.h) r.c := rfl
@[simp] theorem wp1_makeSlice {sz by_ z a b} : wp1 E (.makeSlice sz by_ z a b) d s K Q = ∃ r, E.op s.σ s.h (.makeSlice sz by_ z a b) = some r ∧ K (s.put d r.v r.h) r.c := rfl
@[simp] theorem wp1_slice {sz x lo hi mx} : wp1 E (.slice sz x lo hi mx) d s K Q = ∃ r, E.op s.σ s.h (.slice sz x lo hi mx) = some r ∧ K (s.put d r.v r.h) r.c := rfl
@[simp] theorem wp1_sliceStr {x lo hi} : wp1 E (.sliceStr x lo hi) d s K Q = ∃ r, E.op s.σ s.h (.sliceStr x lo hi) = some r ∧ K (s.put d r.v r.h) r.c := rfl
@[simp] theorem wp1_sliceArr {sz n x lo hi mx} : wp1 E (.sliceArr sz n x lo hi mx) d s K Q = ∃ r, E.op s.σ s.h (.sliceArr sz n x lo hi mx) = some r ∧ K (s.put d r.v r.h) r.c := rfl
theorem wp1_fieldAddr {o x} : wp1 E (.fieldAddr o x) d s K Q = ∃ r, E.op s.σ s.h (.fieldAddr o x) = some r ∧ K (s.put d r.v r.h) r.c := rfl
@[simp] theorem wp1_field {ag sz o x} : wp1 E (.field ag sz o x) d s K Q = ∃ r, E.op s.σ s.h (.field ag sz o x) = some r ∧ K (s.put d r.v r.h) r.c := rfl
theorem wp1_idxAddr {sz x i} : wp1 E (.idxAddr sz x i) d s K Q = ∃ r, E.op s.σ s.h (.idxAddr sz x i) = some r ∧ K (s.put d r.v r.h) r.c := rfl
@[simp] theorem wp1_idxAddrArr {sz n x i} : wp1 E (.idxAddrArr sz n x i) d s K Q = ∃ r, E.op s.σ s.h (.idxAddrArr sz n x i) = some r ∧ K (s.put d r.v r.h) r.c := rfl
@[simp] theorem wp1_idxStr {x i} : wp1 E (.idxStr x i) d s K Q = ∃ r, E.op s.σ s.h (.idxStr x i) = some r ∧ K (s.put d r.v r.h) r.c := rfl
@[simp] theorem wp1_idxArr {ag sz n x i} : wp1 E (.idxArr ag sz n x i) d s K Q = ∃ r, E.op s.σ s.h (.idxArr ag sz n x i) = some r ∧ K (s.put d r.v r.h) r.c := rfl
theorem wp1_extract {x i} : wp1 E (.extract x i) d s K Q = ∃ r, E.op s.σ s.h (.extract x i) = some r ∧ K (s.put d r.v r.h) r.c := rfl
theorem wp1_len {b x} : wp1 E (.len b x) d s K Q = ∃ r, E.op s.σ s.h (.len b x) = some r ∧ K (s.put d r.v r.h) r.c := rfl
theorem wp1_append {sz by_ x y} : wp1 E (.append sz by_ x y) d s K Q = ∃ r, E.op s.σ s.h (.append sz by_ x y) = some r ∧ K (s.put d r.v r.h) r.c := rfl
@[simp] theorem wp1_minmax {m x y} : wp1 E (.minmax m x y) d s K Q = ∃ r, E.op s.σ s.h (.minmax m x y) = some r ∧ K (s.put d r.v r.h) r.c := rfl
end
def aLenOp (str : Bool) (h : Heap) (v : AV) : Option OpRes := match str, v with
  | true, .str s => some ⟨.int .i64 s.length, h, .none⟩
  | false, .nils => some ⟨.int .i64 0, h, .none⟩
  | false, .fs _ n _ => some ⟨.int .i64 n, h, .none⟩
  | false, .sl _ _ _ _ n _ => some ⟨.int .i64 n, h, .none⟩
  | _, _ => none
def aExtract (i : Nat) : AV → Option AV
  | .tup vs => vs[i]?
  | _ => none
def aPick (c a b : AV) : Option AV := match c with
  | .bool true => some a
  | .bool false => some b
  | _ => none
def aNil : AV → Option AV
  | .ptr a b c => some (.ptr a b c)
  | .fp cs => some (.fp cs)
  | .ifc t v => some (.ifc t v)
  | .fn (.func f) a b => some (.fn (.func f) a b)
  | _ => none
def aFieldAddr (off : Nat) : AV → Option AV
  | .ptr id gen o => some (.ptr id gen (o + off))
  | .fp cs => some (.fp (cs.drop off))
  | _ => none
/-- what an operand is -/
def Env.rd (E : Env) (σ : Slots) : Opd → AV
  | .t n => σ.get n
  | .c v => v
  | .g n => match E.glob n with | some cs => .fp cs | none => .undef
def Opd.ok : Opd → Bool
  | .g _ => false
  | _ => true
section
variable {s : St} {Q : AExit → St → Prop} {d : Option Nat} {K : St → Cls → Prop} {x y z : Opd}
@[simp] theorem rd_t {σ : Slots} {n : Nat} : E.rd σ (.t n) = σ.get n := rfl
@[simp] theorem rd_c {σ : Slots} {v : AV} : E.rd σ (.c v) = v := rfl
@[simp] theorem ok_t {n : Nat} : (Opd.t n).ok = true := id rfl
@[simp] theorem ok_c {v : AV} : (Opd.c v).ok = true := id rfl
theorem opd_rd {σ : Slots} (h : x.ok = true) : E.opd σ x = some (E.rd σ x) := by
  cases x <;> first | rfl | cases h
@[simp] theorem wp1_mv' (hx : x.ok = true) : wp1 E (.mv x) d s K Q ↔ K (s.put d (E.rd s.σ x) s.h) .none := by
  rw [wp1_mv]; simp [Env.op, opd_rd hx]
@[simp] theorem wp1_bin' {o : BinOp} (hx : x.ok = true) (hy : y.ok = true) : wp1 E (.bin o x y) d s K Q ↔ ∃ v, aBin o (E.rd s.σ x) (E.rd s.σ y) = some v ∧ K (s.put d v s.h) .none := by
  rw [wp1_bin]; simp [Env.op, opd_rd hx, opd_rd hy]
  constructor
  · rintro ⟨r, ⟨a, h1, rfl⟩, h2⟩; exact ⟨a, h1, h2⟩
  · rintro ⟨a, h1, h2⟩; exact ⟨_, ⟨a, h1, rfl⟩, h2⟩
@[simp] theorem wp1_un' {o : UnOp} (hx : x.ok = true) : wp1 E (.un o x) d s K Q ↔ ∃ v, aUn o (E.rd s.σ x) = some v ∧ K (s.put d v s.h) .none := by
  rw [wp1_un]; simp [Env.op, opd_rd hx]
  constructor
  · rintro ⟨r, ⟨a, h1, rfl⟩, h2⟩; exact ⟨a, h1, h2⟩
  · rintro ⟨a, h1, h2⟩; exact ⟨_, ⟨a, h1, rfl⟩, h2⟩
@[simp] theorem wp1_eq' {ng : Bool} {e : EqT} (hx : x.ok = true) (hy : y.ok = true) : wp1 E (.eq ng e x y) d s K Q ↔ ∃ v, aEq e (E.rd s.σ x) (E.rd s.σ y) = some v ∧ K (s.put d (.bool (negIf ng v)) s.h) .none := by
  rw [wp1_eq]; simp only [Env.op, opd_rd hx, opd_rd hy, Option.bind_some, Option.map_eq_some_iff]
  constructor
  · rintro ⟨r, ⟨a, h1, rfl⟩, h2⟩; exact ⟨a, h1, h2⟩
  · rintro ⟨a, h1, h2⟩; exact ⟨_, ⟨a, h1, rfl⟩, h2⟩
@[simp] theorem wp1_extract' {i : Nat} (hx : x.ok = true) : wp1 E (.extract x i) d s K Q ↔ ∃ v, aExtract i (E.rd s.σ x) = some v ∧ K (s.put d v s.h) .none := by
  rw [wp1_extract]
  simp only [Env.op, opd_rd hx, Option.bind_some]
  cases E.rd s.σ x <;> simp [aExtract]
  constructor
  · rintro ⟨r, ⟨a, h1, rfl⟩, h2⟩; exact ⟨a, h1, h2⟩
  · rintro ⟨a, h1, h2⟩; exact ⟨_, ⟨a, h1, rfl⟩, h2⟩
@[simp] theorem wp1_pick' (hx : x.ok = true) (hy : y.ok = true) (hz : z.ok = true) : wp1 E (.pick x y z) d s K Q ↔ ∃ v, aPick (E.rd s.σ x) (E.rd s.σ y) (E.rd s.σ z) = some v ∧ K (s.put d v s.h) .none := by
  rw [wp1_pick]
  simp only [Env.op, opd_rd hx, opd_rd hy, opd_rd hz, Option.bind_some]
  cases E.rd s.σ x <;> simp [aPick]
  rename_i b
  cases b <;> simp
@[simp] theorem wp1_len' {b : Bool} (hx : x.ok = true) : wp1 E (.len b x) d s K Q ↔ ∃ r, aLenOp b s.h (E.rd s.σ x) = some r ∧ K (s.put d r.v r.h) r.c := by
  rw [wp1_len]
  have : E.op s.σ s.h (.len b x) = (E.opd s.σ x).bind (aLenOp b s.h) := rfl
  rw [this, opd_rd hx]; rfl
@[simp] theorem wp1_load' {ag : Bool} {sz : Nat} (hx : x.ok = true) : wp1 E (.load ag sz x) d s K Q ↔ ∃ r, aLoad s.h ag sz (E.rd s.σ x) = some r ∧ K (s.put d r.v r.h) r.c := by
  rw [wp1_load]; simp [Env.op, opd_rd hx]
@[simp] theorem wp1_conv' {c : CvT} (hx : x.ok = true) : wp1 E (.conv c x) d s K Q ↔ ∃ r, aConv s.h c (E.rd s.σ x) = some r ∧ K (s.put d r.v r.h) r.c := by
  rw [wp1_conv]; simp [Env.op, opd_rd hx]
@[simp] theorem wp1_store' {sz : Nat} (hx : x.ok = true) (hy : y.ok = true) : wp1 E (.store sz x y) d s K Q ↔ ∃ r, aStore s.h sz (E.rd s.σ x) (E.rd s.σ y) = some r ∧ K (s.put d r.v r.h) r.c := by
  rw [wp1_store]; simp [Env.op, opd_rd hx, opd_rd hy]
@[simp] theorem wp1_idxAddr' {sz : Nat} (hx : x.ok = true) (hy : y.ok = true) : wp1 E (.idxAddr sz x y) d s K Q ↔ ∃ v, aIdxAddr sz (E.rd s.σ x) (E.rd s.σ y) = some v ∧ K (s.put d v s.h) .none := by
  rw [wp1_idxAddr]; simp [Env.op, opd_rd hx, opd_rd hy]
  constructor
  · rintro ⟨r, ⟨a, h1, rfl⟩, h2⟩; exact ⟨a, h1, h2⟩
  · rintro ⟨a, h1, h2⟩; exact ⟨_, ⟨a, h1, rfl⟩, h2⟩
@[simp] theorem wp1_append' {sz bt : Nat} (hx : x.ok = true) (hy : y.ok = true) : wp1 E (.append sz bt x y) d s K Q ↔ ∃ r, aAppend s.h sz bt (E.rd s.σ x) (E.rd s.σ y) = some r ∧ K (s.put d r.v r.h) r.c := by
  rw [wp1_append]; simp [Env.op, opd_rd hx, opd_rd hy]
@[simp] theorem wp1_mkIface' {t : TypeId} (hx : x.ok = true) : wp1 E (.mkIface t x) d s K Q ↔ K (s.put d (.ifc t (E.rd s.σ x)) s.h) .none := by
  rw [wp1_mkIface]; simp [Env.op, opd_rd hx]
@[simp] theorem wp1_nilCheck' (hx : x.ok = true) : wp1 E (.nilCheck x) d s K Q ↔ ∃ v, aNil (E.rd s.σ x) = some v ∧ K (s.put d v s.h) .none := by
  rw [wp1_nilCheck]
  simp only [Env.op, opd_rd hx, Option.bind_some]
  cases E.rd s.σ x <;> simp [aNil]
  rename_i f _ _
  cases f <;> simp
@[simp] theorem wp1_fieldAddr' {o : Nat} (hx : x.ok = true) : wp1 E (.fieldAddr o x) d s K Q ↔ ∃ v, aFieldAddr o (E.rd s.σ x) = some v ∧ K (s.put d v s.h) .none := by
  rw [wp1_fieldAddr]
  simp only [Env.op, opd_rd hx, Option.bind_some]
  cases E.rd s.σ x <;> simp [aFieldAddr]
theorem wp1_cap' (hx : x.ok = true) : wp1 E (.cap x) d s K Q ↔ ∃ v, aCap (E.rd s.σ x) = some v ∧ K (s.put d v s.h) .none := by
  have e : wp1 E (.cap x) d s K Q = ∃ r, E.op s.σ s.h (.cap x) = some r ∧ K (s.put d r.v r.h) r.c := rfl
  rw [e]; simp only [Env.op, opd_rd hx, Option.bind_some, Option.map_eq_some_iff]
  constructor
  · rintro ⟨r, ⟨a, h1, rfl⟩, h2⟩; exact ⟨a, h1, h2⟩
  · rintro ⟨a, h1, h2⟩; exact ⟨_, ⟨a, h1, rfl⟩, h2⟩
theorem wp1_clear' {sz : Nat} {z : List AV} (hx : x.ok = true) : wp1 E (.clear sz z x) d s K Q ↔ ∃ r, aClear s.h sz z (E.rd s.σ x) = some r ∧ K (s.put d r.v r.h) r.c := by
  have e : wp1 E (.clear sz z x) d s K Q = ∃ r, E.op s.σ s.h (.clear sz z x) = some r ∧ K (s.put d r.v r.h) r.c := rfl
  rw [e]; simp only [Env.op, opd_rd hx, Option.bind_some]
theorem wp1_copy' {sz : Nat} (hx : x.ok = true) (hy : y.ok = true) : wp1 E (.copy sz x y) d s K Q ↔ ∃ r, aCopy s.h sz (E.rd s.σ x) (E.rd s.σ y) = some r ∧ K (s.put d r.v r.h) r.c := by
  have e : wp1 E (.copy sz x y) d s K Q = ∃ r, E.op s.σ s.h (.copy sz x y) = some r ∧ K (s.put d r.v r.h) r.c := rfl
  rw [e]; simp only [Env.op, opd_rd hx, opd_rd hy, Option.bind_some]
theorem wp1_appendZ' {sz bt : Nat} {z : List AV} (hx : x.ok = true) (hy : y.ok = true) : wp1 E (.appendZ sz bt z x y) d s K Q ↔ ∃ r, aAppendZ s.h sz bt z (E.rd s.σ x) (E.rd s.σ y) = some r ∧ K (s.put d r.v r.h) r.c := by
  have e : wp1 E (.appendZ sz bt z x y) d s K Q = ∃ r, E.op s.σ s.h (.appendZ sz bt z x y) = some r ∧ K (s.put d r.v r.h) r.c := rfl
  rw [e]; simp only [Env.op, opd_rd hx, opd_rd hy, Option.bind_some]
@[simp] theorem wp1_alloc' {z : List AV} : wp1 E (.alloc z) d s K Q ↔ K (s.put d (.ptr s.h.next 0 0) (s.h.new z)) .write := by
  rw [wp1_alloc]; simp [Env.op]
end
/-- a call whose answer is known -/
theorem wc_eq {f : Nat} {args : List AV} {h : Heap} {o : COut} (hs : WC E f args h (fun x => x = o)) (K : COut → Prop) : WC E f args h K ↔ K o := by
  obtain ⟨o', ⟨n, hn⟩, rfl⟩ := hs
  constructor
  · rintro ⟨o2, ⟨k, hk⟩, hq⟩
    have h1 := hn (max n k) (by omega)
    have h2 := hk (max n k) (by omega)
    rw [h1] at h2
    cases h2
    exact hq
  · intro hq; exact ⟨o', ⟨n, hn⟩, hq⟩
/-- a round of a loop -/
theorem wpr_round {b : AC} {s : St} {Q : AExit → St → Prop} (h : wpc E b s (roundQ E b Q)) : WPr E b s Q := wp_round (wpc_sound b s _ h)
/-- the same, the loop's own name kept -/
theorem wpr_round' {b : AC} {s : St} {Q : AExit → St → Prop} (h : ∀ b', b' = b → wpc E b s (roundQ E b' Q)) : WPr E b s Q := wpr_round (h b rfl)
/-- what a function's end hands over -/
def retQ (E : Env) (rs : List ARes) (Q : COut → Prop) : AExit → St → Prop
  | .norm, s | .ret, s => ∃ vs, E.results s rs = some vs ∧ Q (.ret ⟨oneOrTup vs, s.h, .write⟩)
  | .panic v, s => Q (.panic v s.h)
  | .exit _, _ => False
/-- its content in the place of its addresses -/
def Frz (h : Heap) (v v' : AV) : Prop := ∃ n, ∀ m, n ≤ m → freeze h m v = some v'
def pureQ (E : Env) (rs : List ARes) (h : Heap) (Q : COut → Prop) : AExit → St → Prop
  | .norm, s | .ret, s => ∃ vs v, E.results s rs = some vs ∧ Frz s.h (oneOrTup vs) v ∧ Q (.ret ⟨v, h, .none⟩)
  | _, _ => False
theorem call_body {f : Nat} {af : AFunc} (hp : E.prim f = none) (hf : E.func f = some af) {args : List AV} {h : Heap} (hu : E.pure_ f = false ∨ AV.noRefs args = false) {Q : COut → Prop}
    (hb : wpc E af.body ⟨Slots.ofList 0 args .empty, h⟩ (retQ E af.results Q)) : WC E f args h Q := by
  refine wc_body hp hf hu ((wpc_sound _ _ _ hb).mono fun e s hq => ?_)
  cases e <;> exact hq
theorem call_pure {f : Nat} {af : AFunc} (hp : E.prim f = none) (hf : E.func f = some af) {args : List AV} {h : Heap} (hu : E.pure_ f = true) (hr : AV.noRefs args = true) {Q : COut → Prop}
    (hb : wpc E af.body ⟨Slots.ofList 0 args .empty, .empty⟩ (pureQ E af.results h Q)) : WC E f args h Q := by
  refine wc_pure hp hf hu hr ((wpc_sound _ _ _ hb).mono fun e s hq => ?_)
  cases e with
  | norm => obtain ⟨vs, v, h1, ⟨n, h2⟩, h3⟩ := hq; exact ⟨vs, v, n, h1, h2 n (Nat.le_refl _), h2, h3⟩
  | ret => obtain ⟨vs, v, h1, ⟨n, h2⟩, h3⟩ := hq; exact ⟨vs, v, n, h1, h2 n (Nat.le_refl _), h2, h3⟩
  | panic v => exact hq.elim
  | exit id => exact hq.elim
@[simp] theorem noRef_bool {b : Bool} : (AV.bool b).noRef = true := id rfl
@[simp] theorem noRef_int {k : IntKind} {n : Int} : (AV.int k n).noRef = true := id rfl
@[simp] theorem noRef_str {s : List UInt8} : (AV.str s).noRef = true := id rfl
@[simp] theorem noRef_nilp : (AV.nilp).noRef = true := id rfl
@[simp] theorem noRef_nils : (AV.nils).noRef = true := id rfl
@[simp] theorem noRef_nilm : (AV.nilm).noRef = true := id rfl
@[simp] theorem noRef_nilf : (AV.nilf).noRef = true := id rfl
@[simp] theorem noRef_nili : (AV.nili).noRef = true := id rfl
@[simp] theorem noRef_fp {cs : List AV} : (AV.fp cs).noRef = AV.noRefs cs := id rfl
@[simp] theorem noRef_fs {f : Bool} {n : Nat} {cs : List AV} : (AV.fs f n cs).noRef = AV.noRefs cs := id rfl
@[simp] theorem noRef_ifc {t : TypeId} {v : AV} : (AV.ifc t v).noRef = v.noRef := id rfl
@[simp] theorem noRef_agg {cs : List AV} : (AV.agg cs).noRef = AV.noRefs cs := id rfl
@[simp] theorem noRef_tup {cs : List AV} : (AV.tup cs).noRef = AV.noRefs cs := id rfl
@[simp] theorem noRefs_nil : AV.noRefs [] = true := id rfl
@[simp] theorem noRefs_cons {v : AV} {vs : List AV} : AV.noRefs (v :: vs) = (v.noRef && AV.noRefs vs) := id rfl
@[simp] theorem row_bool {b : Bool} : (AV.bool b).row = some [.bool b] := id rfl
@[simp] theorem row_int {k : IntKind} {n : Int} : (AV.int k n).row = some [.int k n] := id rfl
@[simp] theorem row_str {s : List UInt8} : (AV.str s).row = some [.str s] := id rfl
@[simp] theorem row_nilp : (AV.nilp).row = some [.nilp] := id rfl
@[simp] theorem row_nils : (AV.nils).row = some [.nils] := id rfl
@[simp] theorem row_nilm : (AV.nilm).row = some [.nilm] := id rfl
@[simp] theorem row_nilf : (AV.nilf).row = some [.nilf] := id rfl
@[simp] theorem row_nili : (AV.nili).row = some [.nili] := id rfl
@[simp] theorem row_fp {cs : List AV} : (AV.fp cs).row = some [.fp cs] := id rfl
@[simp] theorem row_fs {f : Bool} {n : Nat} {cs : List AV} : (AV.fs f n cs).row = some [.fs f n cs] := id rfl
@[simp] theorem row_sl {a b c d e : Nat} {f : Option Nat} : (AV.sl a b c d e f).row = some [.sl a b c d e f] := id rfl
@[simp] theorem row_ptr {a b c : Nat} : (AV.ptr a b c).row = some [.ptr a b c] := id rfl
@[simp] theorem row_ifc {t : TypeId} {v : AV} : (AV.ifc t v).row = some [.ifc t v] := id rfl
@[simp] theorem row_fn {f : Fn} {a b : List AV} : (AV.fn f a b).row = some [.fn f a b] := id rfl
@[simp] theorem row_agg {cs : List AV} : (AV.agg cs).row = some cs := id rfl
theorem frz_noRef {hp : Heap} {v v' : AV} (h : v.noRef = true) : Frz hp v v' ↔ v = v' := by
  constructor
  · rintro ⟨n, hn⟩
    have := hn (n + 1) (by omega)
    simp only [freeze, h, Option.some.injEq] at this
    exact this
  · rintro rfl
    refine ⟨1, fun m hm => ?_⟩
    cases m with
    | zero => omega
    | succ m => simp only [freeze, h]
theorem mapM_noRefs {h : Heap} {m : Nat} : ∀ (l : List AV), AV.noRefs l = true → l.mapM (freeze h (m + 1)) = some l
  | [], _ => rfl
  | v :: l, hl => by
    simp only [AV.noRefs, Bool.and_eq_true] at hl
    rw [List.mapM_cons, mapM_noRefs l hl.2]
    simp only [freeze, hl.1]
    rfl
theorem freeze_sl {h : Heap} {n id gen off sz len : Nat} {cap : Option Nat} : freeze h (n + 1) (.sl id gen off sz len cap) = (h.at_ id gen).bind fun cs =>
    if off + len * sz ≤ cs.length then (((cs.drop off).take (len * sz)).mapM (freeze h n)).map (.fs (cap == some len) len) else none := rfl
/-- a slice whose cells are plain -/
theorem frz_sl {hp : Heap} {id gen off sz len : Nat} {cap : Option Nat} {cs : List AV} (hat : hp.at_ id gen = some cs) (hle : off + len * sz ≤ cs.length) (hn : AV.noRefs ((cs.drop off).take (len * sz)) = true) {v : AV} :
    Frz hp (.sl id gen off sz len cap) v ↔ v = .fs (cap == some len) len ((cs.drop off).take (len * sz)) := by
  have key : ∀ m, 2 ≤ m → freeze hp m (.sl id gen off sz len cap) = some (.fs (cap == some len) len ((cs.drop off).take (len * sz))) := by
    intro m hm
    obtain ⟨m, rfl⟩ : ∃ k, m = k + 2 := ⟨m - 2, by omega⟩
    rw [freeze_sl, hat, Option.bind_some, if_pos hle, mapM_noRefs _ hn]
    rfl
  constructor
  · rintro ⟨n, hn'⟩
    have := hn' (n + 2) (by omega)
    rw [key _ (by omega)] at this
    exact (Option.some.inj this).symm
  · rintro rfl; exact ⟨2, key⟩
/-- a tuple's parts -/
def FrzAll (h : Heap) : List AV → List AV → Prop
  | [], vs => vs = []
  | v :: l, vs => ∃ a b, vs = a :: b ∧ Frz h v a ∧ FrzAll h l b
theorem frzAll_mapM {h : Heap} : ∀ {l l' : List AV}, FrzAll h l l' → ∃ n, ∀ m, n ≤ m → l.mapM (freeze h m) = some l'
  | [], _, e => by cases e; exact ⟨0, fun m _ => rfl⟩
  | v :: l, _, ⟨a, b, e, ⟨n, hn⟩, h2⟩ => by
    subst e
    obtain ⟨k, hk⟩ := frzAll_mapM h2
    refine ⟨max n k, fun m hm => ?_⟩
    rw [List.mapM_cons, hn m (by omega), hk m (by omega)]
    rfl
end
end Go.AM

set_option linter.unusedVariables false
set_option linter.unusedSimpArgs false
namespace Go.AM
/-- two classes of operations that may change places, or are ordered -/
def clsApart (ordered : Bool) (x y : Cls) : Bool := ordered || match x, y with
  | .none, _ | _, .none | .read, .read => true
  | _, _ => false
def clsAll (x : Cls) (i : Nat) : List Cls → List Nat → Bool
  | y :: ys, m :: ms => clsApart (Nat.testBit m i) x y && clsAll x i ys ms
  | _, _ => true
def clsDraw : Nat → List Cls → List Nat → Bool
  | i, x :: xs, _ :: ms => clsAll x i xs ms && clsDraw (i + 1) xs ms
  | _, _, _ => true
theorem apart_of_cls {E : Env} {o : Bool} {hs : List Heap} {x y : AOper × St × Cls} (h : clsApart o x.2.2 y.2.2 = true) : E.apart o hs x y = true := by
  unfold clsApart at h
  unfold Env.apart
  cases o
  · simp only [Bool.false_or] at h ⊢
    cases hx : x.2.2 <;> cases hy : y.2.2 <;> simp [hx, hy] at h ⊢
  · rfl
theorem all_of_cls {E : Env} {hs : List Heap} {x : AOper × St × Cls} {i : Nat} : ∀ {l : List (AOper × St × Cls)} {ms : List Nat}, clsAll x.2.2 i (l.map fun y => y.2.2) ms = true → E.apartAll hs x i l ms = true
  | [], _, _ => by simp [Env.apartAll]
  | _ :: _, [], _ => by simp [Env.apartAll]
  | y :: l, m :: ms, h => by
    simp only [List.map_cons, clsAll, Bool.and_eq_true] at h
    simp only [Env.apartAll, Bool.and_eq_true]
    exact ⟨apart_of_cls h.1, all_of_cls h.2⟩
theorem draw_of_cls {E : Env} {hs : List Heap} : ∀ {l : List (AOper × St × Cls)} {ms : List Nat} {i : Nat}, clsDraw i (l.map fun y => y.2.2) ms = true → E.drawOk hs i l ms = true
  | [], _, _, _ => by simp [Env.drawOk]
  | _ :: _, [], _, _ => by simp [Env.drawOk]
  | y :: l, m :: ms, i, h => by
    simp only [List.map_cons, clsDraw, Bool.and_eq_true] at h
    simp only [Env.drawOk, Bool.and_eq_true]
    exact ⟨all_of_cls h.1, draw_of_cls h.2⟩
end Go.AM

set_option linter.unusedVariables false
set_option linter.unusedSimpArgs false
namespace Go.AM
section
variable (E : Env)
def wpk : List AOper → St → (St → List Cls → Prop) → Prop
  | [], s, Q => Q s []
  | o :: l, s, Q =>
    match o.guard with
    | none => wp1 E o.op o.dst s (fun s' c => wpk l s' (fun s2 cs => Q s2 (c :: cs))) noQ
    | some (t, w) => ∃ b, gval w (s.σ.get t) = .bool b ∧ (if b = w then wp1 E o.op o.dst s (fun s' c => wpk l s' (fun s2 cs => Q s2 (c :: cs))) noQ
        else wpk l (s.put o.dst .undef s.h) (fun s2 cs => Q s2 (.none :: cs)))
end
theorem wp1_mono {E : Env} {op : AOp} {d : Option Nat} {s : St} {K K' : St → Cls → Prop} {Q : AExit → St → Prop} (h : wp1 E op d s K Q) (hk : ∀ s c, K s c → K' s c) : wp1 E op d s K' Q := by
  cases op
  case call f args =>
    obtain ⟨vs, h1, h2⟩ := h
    refine ⟨vs, h1, h2.mono fun o => ?_⟩
    cases o with
    | ret r => exact hk _ _
    | panic v h => exact fun x => x
  case callv f args =>
    obtain ⟨g, a, b, vs, h1, h2, h3⟩ := h
    refine ⟨g, a, b, vs, h1, h2, h3.mono fun o => ?_⟩
    cases o with
    | ret r => exact hk _ _
    | panic v h => exact fun x => x
  case panic x => exact h
  all_goals (obtain ⟨r, h1, h2⟩ := h; exact ⟨r, h1, hk _ _ h2⟩)
theorem wpk_wpl {E : Env} : ∀ (l : List AOper) (s : St) (Q : St → List Cls → Prop), wpk E l s Q → wpl E l s (fun s' log => Q s' (log.map fun y => y.2.2))
  | [], s, Q, h => h
  | ⟨d, op, none⟩ :: l, s, Q, h => by
    have h : wp1 E op d s (fun s' c => wpk E l s' (fun s2 cs => Q s2 (c :: cs))) noQ := h
    exact wp1_mono (K' := fun s' c => wpl E l s' (fun s2 log => Q s2 (((⟨d, op, none⟩, s, c) :: log).map fun (y : AOper × St × Cls) => y.2.2))) h fun s' c x => wpk_wpl l s' _ x
  | ⟨d, op, some (t, w)⟩ :: l, s, Q, h => by
    obtain ⟨b, hb, h⟩ := h
    refine ⟨b, hb, ?_⟩
    by_cases he : b = w
    · rw [if_pos he] at h ⊢
      exact wp1_mono (K' := fun s' c => wpl E l s' (fun s2 log => Q s2 (((⟨d, op, some (t, w)⟩, s, c) :: log).map fun (y : AOper × St × Cls) => y.2.2))) h fun s' c x => wpk_wpl l s' _ x
    · rw [if_neg he] at h ⊢
      exact wpk_wpl l _ _ h
def logC (c : Cls) (Q : St → List Cls → Prop) : St → List Cls → Prop := fun s2 cs => Q s2 (c :: cs)
def clsK (E : Env) (l : List AOper) (Q : St → List Cls → Prop) : St → Cls → Prop := fun s' c => wpk E l s' (logC c Q)
def guardC (E : Env) (op : AOp) (d : Option Nat) (l : List AOper) (s : St) (Q : St → List Cls → Prop) (w : Bool) : Bool → Prop := fun b =>
  if b = w then wp1 E op d s (clsK E l Q) noQ else wpk E l (s.put d .undef s.h) (logC .none Q)
def drawC (b : List Nat) (Q : AExit → St → Prop) : St → List Cls → Prop := fun s' cs => clsDraw 0 cs b = true ∧ Q .norm s'
section
variable {E : Env} {s : St} {l : List AOper} {d : Option Nat} {op : AOp} {Q : St → List Cls → Prop}
theorem wpk_nil : wpk E [] s Q = Q s [] := rfl
theorem wpk_none : wpk E (⟨d, op, none⟩ :: l) s Q = wp1 E op d s (clsK E l Q) noQ := rfl
theorem wpk_some {t : Nat} {w : Bool} : wpk E (⟨d, op, some (t, w)⟩ :: l) s Q = ∃ b, gval w (s.σ.get t) = .bool b ∧ guardC E op d l s Q w b := rfl
theorem logC_apply {c : Cls} {s' : St} {cs : List Cls} : logC c Q s' cs = Q s' (c :: cs) := rfl
theorem drawC_apply {b : List Nat} {Q : AExit → St → Prop} {cs : List Cls} : drawC b Q s cs = (clsDraw 0 cs b = true ∧ Q .norm s) := rfl
end
section
variable {E : Env} {s : St} {l : List AOper} {d : Option Nat} {op : AOp} {t : Nat}
theorem wpk_tt {Q : St → List Cls → Prop} (h : s.σ.get t = .bool true) : wpk E (⟨d, op, some (t, true)⟩ :: l) s Q = wp1 E op d s (clsK E l Q) noQ := by
  rw [wpk_some, h, gval_bool]; exact propext ⟨fun ⟨b, e, x⟩ => by cases e; exact x, fun x => ⟨true, rfl, x⟩⟩
theorem wpk_ff {Q : St → List Cls → Prop} (h : s.σ.get t = .bool false) : wpk E (⟨d, op, some (t, false)⟩ :: l) s Q = wp1 E op d s (clsK E l Q) noQ := by
  rw [wpk_some, h, gval_bool]; exact propext ⟨fun ⟨b, e, x⟩ => by cases e; exact x, fun x => ⟨false, rfl, x⟩⟩
theorem wpk_tf {Q : St → List Cls → Prop} (h : s.σ.get t = .bool false) : wpk E (⟨d, op, some (t, true)⟩ :: l) s Q = wpk E l (s.put d .undef s.h) (logC .none Q) := by
  rw [wpk_some, h, gval_bool]; exact propext ⟨fun ⟨b, e, x⟩ => by cases e; exact x, fun x => ⟨false, rfl, x⟩⟩
theorem wpk_ft {Q : St → List Cls → Prop} (h : s.σ.get t = .bool true) : wpk E (⟨d, op, some (t, false)⟩ :: l) s Q = wpk E l (s.put d .undef s.h) (logC .none Q) := by
  rw [wpk_some, h, gval_bool]; exact propext ⟨fun ⟨b, e, x⟩ => by cases e; exact x, fun x => ⟨true, rfl, x⟩⟩
theorem wpo_tt {Q : AExit → St → Prop} (h : s.σ.get t = .bool true) : wpo E (⟨d, op, some (t, true)⟩ :: l) s Q = wp1 E op d s (opsK E l Q) Q := by
  rw [wpo_some, h, gval_bool]; exact propext ⟨fun ⟨b, e, x⟩ => by cases e; exact x, fun x => ⟨true, rfl, x⟩⟩
theorem wpo_ff {Q : AExit → St → Prop} (h : s.σ.get t = .bool false) : wpo E (⟨d, op, some (t, false)⟩ :: l) s Q = wp1 E op d s (opsK E l Q) Q := by
  rw [wpo_some, h, gval_bool]; exact propext ⟨fun ⟨b, e, x⟩ => by cases e; exact x, fun x => ⟨false, rfl, x⟩⟩
theorem wpo_tf {Q : AExit → St → Prop} (h : s.σ.get t = .bool false) : wpo E (⟨d, op, some (t, true)⟩ :: l) s Q = wpo E l (s.put d .undef s.h) Q := by
  rw [wpo_some, h, gval_bool]; exact propext ⟨fun ⟨b, e, x⟩ => by cases e; exact x, fun x => ⟨false, rfl, x⟩⟩
theorem wpo_ft {Q : AExit → St → Prop} (h : s.σ.get t = .bool true) : wpo E (⟨d, op, some (t, false)⟩ :: l) s Q = wpo E l (s.put d .undef s.h) Q := by
  rw [wpo_some, h, gval_bool]; exact propext ⟨fun ⟨b, e, x⟩ => by cases e; exact x, fun x => ⟨true, rfl, x⟩⟩
end
section
variable {E : Env} {s : St} {l : List AOper} {d : Option Nat} {op : AOp} {t : Nat} {w : Bool}
theorem wpk_u {Q : St → List Cls → Prop} (h : s.σ.get t = .undef) : wpk E (⟨d, op, some (t, w)⟩ :: l) s Q = wpk E l (s.put d .undef s.h) (logC .none Q) := by
  rw [wpk_some, h]; cases w <;> exact propext ⟨fun ⟨b, e, x⟩ => by cases e; exact x, fun x => ⟨_, rfl, x⟩⟩
theorem wpo_u {Q : AExit → St → Prop} (h : s.σ.get t = .undef) : wpo E (⟨d, op, some (t, w)⟩ :: l) s Q = wpo E l (s.put d .undef s.h) Q := by
  rw [wpo_some, h]; cases w <;> exact propext ⟨fun ⟨b, e, x⟩ => by cases e; exact x, fun x => ⟨_, rfl, x⟩⟩
end
/-- a class that stands there as such: the walk goes on only where the step before it is known (under a binder it would be walked again and again) -/
def IsC (c : Cls) : Prop := True
theorem isC (c : Cls) : IsC c = True := id rfl
theorem isC_none : IsC .none = True := id rfl
theorem isC_read : IsC .read = True := id rfl
theorem isC_write : IsC .write = True := id rfl
theorem opsK_c {E : Env} {l : List AOper} {Q : AExit → St → Prop} {s : St} {c : Cls} (h : IsC c) : opsK E l Q s c = wpo E l s Q := id rfl
theorem logK_c {E : Env} {o : AOper} {l : List AOper} {s s' : St} {Q : St → List (AOper × St × Cls) → Prop} {c : Cls} (h : IsC c) : logK E o l s Q s' c = wpl E l s' (logQ o s c Q) := id rfl
theorem clsK_c {E : Env} {l : List AOper} {Q : St → List Cls → Prop} {s' : St} {c : Cls} (h : IsC c) : clsK E l Q s' c = wpk E l s' (logC c Q) := id rfl
/-- a region whose classes alone show that every order comes to the same -/
theorem wpc_draw_k {E : Env} {l : List AOper} {bf : List Nat} {s : St} {Q : AExit → St → Prop} (h : wpk E l s (drawC bf Q)) : wpc E (.draw l bf) s Q := by
  have x := wpk_wpl l s _ h
  have e : (fun (s' : St) (log : List (AOper × St × Cls)) => drawC bf Q s' (log.map fun y => y.2.2)) = (fun s' log => clsDraw 0 (log.map fun y => y.2.2) bf = true ∧ Q .norm s') := rfl
  rw [e] at x
  have mono : ∀ (l : List AOper) (s : St) (P R : St → List (AOper × St × Cls) → Prop), (∀ s log, P s log → R s log) → wpl E l s P → wpl E l s R := by
    intro l
    induction l with
    | nil => intro s P R hr h; exact hr _ _ h
    | cons o l ih =>
      obtain ⟨d, op, g⟩ := o
      intro s P R hr h
      cases g with
      | none =>
        have h : wp1 E op d s (fun s' c => wpl E l s' (fun s2 log => P s2 ((⟨d, op, none⟩, s, c) :: log))) noQ := h
        exact wp1_mono (K' := fun s' c => wpl E l s' (fun s2 log => R s2 ((⟨d, op, none⟩, s, c) :: log))) h fun s' c x => ih s' _ _ (fun s2 log y => hr _ _ y) x
      | some g =>
        obtain ⟨t, w⟩ := g
        obtain ⟨b, hb, h⟩ := h
        refine ⟨b, hb, ?_⟩
        by_cases he : b = w
        · rw [if_pos he] at h ⊢
          exact wp1_mono (K' := fun s' c => wpl E l s' (fun s2 log => R s2 ((⟨d, op, some (t, w)⟩, s, c) :: log))) h fun s' c x => ih s' _ _ (fun s2 log y => hr _ _ y) x
        · rw [if_neg he] at h ⊢
          exact ih _ _ _ (fun s2 log y => hr _ _ y) h
  exact mono l s _ _ (fun s' log h => ⟨draw_of_cls h.1, h.2⟩) x
end Go.AM

set_option linter.unusedSimpArgs false
set_option linter.unusedVariables false
namespace Go.AM
def CLe (C C' : CallF) : Prop := ∀ f a h o, C f a h = some o → C' f a h = some o
section
variable {E : Env} {C C' : CallF}
theorem act_le (hc : CLe C C') {σ : Slots} {h : Heap} {op : AOp} {o : COut} (e : E.act C σ h op = some o) : E.act C' σ h op = some o := by
  by_cases hp : op.calls = false
  · rw [act_plain hp] at e ⊢; exact e
  · cases op <;> simp only [AOp.calls, not_true_eq_false] at hp
    case call f args =>
      simp only [Env.act, Option.bind_eq_some_iff] at e ⊢
      obtain ⟨l, h1, h2⟩ := e
      exact ⟨l, h1, hc _ _ _ _ h2⟩
    case callv f args =>
      simp only [Env.act, Option.bind_eq_some_iff] at e ⊢
      obtain ⟨fv, h1, h2⟩ := e
      refine ⟨fv, h1, ?_⟩
      cases fv with
      | fn g a b =>
        cases g with
        | func g =>
          simp only [Option.bind_eq_some_iff] at h2 ⊢
          obtain ⟨l, h3, h4⟩ := h2
          exact ⟨l, h3, hc _ _ _ _ h4⟩
        | _ => cases h2
      | _ => cases h2
    case panic x => exact e
theorem one_le (hc : CLe C C') {o : AOper} {s : St} {r : St × Cls × Option AV} (e : E.one C o s = some r) : E.one C' o s = some r := by
  unfold Env.one at e ⊢
  cases hw : o.wanted s.σ with
  | true =>
    rw [hw] at e
    simp only [Option.map_eq_some_iff] at e ⊢
    obtain ⟨a, h1, h2⟩ := e
    exact ⟨a, act_le hc h1, h2⟩
  | false => rw [hw] at e; exact e
theorem ops_le (hc : CLe C C') : ∀ {l : List AOper} {s : St} {r : AExit × St}, E.ops C l s = some r → E.ops C' l s = some r
  | [], _, _, e => e
  | o :: l, s, r, e => by
    simp only [Env.ops, Option.bind_eq_some_iff] at e ⊢
    obtain ⟨⟨s1, c, p⟩, h1, h2⟩ := e
    refine ⟨_, one_le hc h1, ?_⟩
    cases p with
    | none => exact ops_le hc h2
    | some v => exact h2
theorem opsLog_le (hc : CLe C C') : ∀ {l : List AOper} {s : St} {r : St × List (AOper × St × Cls)}, E.opsLog C l s = some r → E.opsLog C' l s = some r
  | [], _, _, e => e
  | o :: l, s, r, e => by
    simp only [Env.opsLog, Option.bind_eq_some_iff] at e ⊢
    obtain ⟨⟨s1, c, p⟩, h1, h2⟩ := e
    refine ⟨_, one_le hc h1, ?_⟩
    cases p with
    | none =>
      simp only [Option.map_eq_some_iff] at h2 ⊢
      obtain ⟨x, h3, h4⟩ := h2
      exact ⟨x, opsLog_le hc h3, h4⟩
    | some v => exact h2
theorem loop_le {f g : St → Option (AExit × St)} (hf : ∀ s r, f s = some r → g s = some r) : ∀ (n m : Nat), n ≤ m → ∀ {s : St} {r : AExit × St}, loopN f n s = some r → loopN g m s = some r
  | 0, _, _, _, _, e => by cases e
  | n + 1, 0, h, _, _, _ => by omega
  | n + 1, m + 1, h, s, r, e => by
    simp only [loopN, Option.bind_eq_some_iff] at e ⊢
    obtain ⟨⟨x, s1⟩, h1, h2⟩ := e
    refine ⟨_, hf _ _ h1, ?_⟩
    cases x with
    | norm => exact loop_le hf n m (by omega) h2
    | _ => exact h2
theorem code_le (hc : CLe C C') {n m : Nat} (hn : n ≤ m) : ∀ {c : AC} {s : St} {r : AExit × St}, E.code C n c s = some r → E.code C' m c s = some r
  | .skip, _, _, e => e
  | .ops l, _, _, e => ops_le hc e
  | .draw l b, s, r, e => by
    simp only [Env.code, Env.draws, Option.bind_eq_some_iff] at e ⊢
    obtain ⟨x, h1, h2⟩ := e
    exact ⟨x, opsLog_le hc h1, h2⟩
  | .seq a b, s, r, e => by
    simp only [Env.code, Option.bind_eq_some_iff] at e ⊢
    obtain ⟨⟨x, s1⟩, h1, h2⟩ := e
    refine ⟨_, code_le hc hn h1, ?_⟩
    cases x with
    | norm => exact code_le hc hn h2
    | _ => exact h2
  | .cond c x y, s, r, e => by
    simp only [Env.code, Option.bind_eq_some_iff] at e ⊢
    obtain ⟨v, h1, h2⟩ := e
    refine ⟨v, h1, ?_⟩
    cases v with
    | bool b => cases b <;> exact code_le hc hn h2
    | _ => cases h2
  | .block id b, s, r, e => by
    simp only [Env.code, Option.map_eq_some_iff] at e ⊢
    obtain ⟨x, h1, h2⟩ := e
    exact ⟨x, code_le hc hn h1, h2⟩
  | .loop b, s, r, e => by
    simp only [Env.code] at e ⊢
    exact loop_le (fun s r h => code_le (c := b) hc hn h) n m hn e
  | .exit id, _, _, e => e
  | .scope b, s, r, e => by
    simp only [Env.code] at e ⊢
    exact code_le hc hn e
  | .ret, _, _, e => e
  | .bad, _, _, e => by cases e
theorem mapM_le {α β : Type} {f g : α → Option β} (h : ∀ a b, f a = some b → g a = some b) : ∀ {l : List α} {r : List β}, l.mapM f = some r → l.mapM g = some r
  | [], _, e => e
  | a :: l, r, e => by
    rw [List.mapM_cons] at e ⊢
    simp only [Option.bind_eq_bind, Option.bind_eq_some_iff, Option.pure_def, Option.some.injEq] at e ⊢
    obtain ⟨b, h1, bs, h2, h3⟩ := e
    exact ⟨b, h a b h1, bs, mapM_le h h2, h3⟩
theorem freeze_le {h : Heap} : ∀ (n m : Nat), n ≤ m → ∀ {v u : AV}, freeze h n v = some u → freeze h m v = some u
  | 0, _, _, _, _, e => by cases e
  | n + 1, 0, hn, _, _, _ => by omega
  | n + 1, m + 1, hn, v, u, e => by
    have ih : ∀ a b, freeze h n a = some b → freeze h m a = some b := fun a b e => freeze_le n m (by omega) e
    unfold freeze at e ⊢
    cases hr : v.noRef with
    | true => rw [hr] at e; exact e
    | false =>
      rw [hr] at e
      dsimp only at e ⊢
      cases v <;> simp only [Option.bind_eq_some_iff, Option.map_eq_some_iff, reduceCtorEq] at e ⊢
      case ptr => obtain ⟨cs, h1, x, h2, h3⟩ := e; exact ⟨cs, h1, x, mapM_le ih h2, h3⟩
      case sl =>
        obtain ⟨cs, h1, h2⟩ := e
        refine ⟨cs, h1, ?_⟩
        split at h2
        · rename_i hle
          rw [if_pos hle]
          simp only [Option.map_eq_some_iff] at h2 ⊢
          obtain ⟨x, h3, h4⟩ := h2
          exact ⟨x, mapM_le ih h3, h4⟩
        · cases h2
      case fp => obtain ⟨x, h2, h3⟩ := e; exact ⟨x, mapM_le ih h2, h3⟩
      case fs => obtain ⟨x, h2, h3⟩ := e; exact ⟨x, mapM_le ih h2, h3⟩
      case ifc => obtain ⟨x, h2, h3⟩ := e; exact ⟨x, ih _ _ h2, h3⟩
      case agg => obtain ⟨x, h2, h3⟩ := e; exact ⟨x, mapM_le ih h2, h3⟩
      case tup => obtain ⟨x, h2, h3⟩ := e; exact ⟨x, mapM_le ih h2, h3⟩
theorem body_le (hc : CLe C C') {n m : Nat} (hn : n ≤ m) {fn : AFunc} {args : List AV} {h : Heap} {o : COut} (e : E.body C n fn args h = some o) : E.body C' m fn args h = some o := by
  simp only [Env.body, Option.bind_eq_some_iff] at e ⊢
  obtain ⟨x, h1, h2⟩ := e
  exact ⟨x, code_le hc hn h1, h2⟩
theorem call_le : ∀ (n m : Nat), n ≤ m → CLe (E.call n) (E.call m)
  | 0, _, _ => fun f a h o e => by cases e
  | n + 1, 0, hn => by omega
  | n + 1, m + 1, hn => by
    have ih := call_le n m (by omega)
    intro f a h o e
    simp only [Env.call] at e ⊢
    cases hp : E.prim f with
    | some p => rw [hp] at e; exact e
    | none =>
      rw [hp] at e
      simp only [Option.bind_eq_some_iff] at e ⊢
      obtain ⟨fn, h1, h2⟩ := e
      refine ⟨fn, h1, ?_⟩
      cases hu : E.pure_ f with
      | false => rw [hu] at h2; exact body_le ih (by omega) h2
      | true =>
        rw [hu] at h2
        cases hr : AV.noRefs a with
        | false => rw [hr] at h2; exact body_le ih (by omega) h2
        | true =>
          rw [hr] at h2
          simp only [Option.bind_eq_some_iff] at h2 ⊢
          obtain ⟨x, h3, h4⟩ := h2
          refine ⟨x, body_le ih (by omega) h3, ?_⟩
          cases x with
          | panic v h' => cases h4
          | ret r =>
            simp only [Option.map_eq_some_iff] at h4 ⊢
            obtain ⟨u, h5, h6⟩ := h4
            exact ⟨u, freeze_le n m (by omega) h5, h6⟩
/-- one run is enough -/
theorem wc_run {n f : Nat} {args : List AV} {h : Heap} {o : COut} (e : E.call n f args h = some o) : WC E f args h (fun x => x = o) :=
  ⟨o, ⟨n, fun m hm => call_le n m hm _ _ _ _ e⟩, rfl⟩
/-- and a call that ends so has a run -/
theorem run_of_wc {f : Nat} {args : List AV} {h : Heap} {Q : COut → Prop} (k : WC E f args h Q) : ∃ n o, E.call n f args h = some o ∧ Q o := by
  obtain ⟨o, ⟨n, hn⟩, hq⟩ := k
  exact ⟨n, o, hn n (Nat.le_refl _), hq⟩
end
end Go.AM
