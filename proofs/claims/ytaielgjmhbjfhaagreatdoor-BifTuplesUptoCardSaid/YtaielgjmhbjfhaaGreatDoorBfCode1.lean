/-
  THE ABSTRACT MACHINE's code of the functions that the statements of package bif reach (part 1): printed by a program of this session's own; BfTie shows that it is what the translation gives.
-/
import Derived.Test.YtaielgjmhbjfhaaGreatDoorAmCore
set_option linter.unusedVariables false
namespace Go.Bf
open Go.AM
def a10_0 : List AOper := [
 oP 5 (.box false 6 (.t 2)),
 oP 6 (.mv (.c (.bool false)))]
def a10_1 : List AOper := [
 mV 22 0,
 oP 23 (.call 21 [(.t 22)]),
 mV 21 23,
 oP 24 (.extract (.t 21) 0),
 oP 25 (.extract (.t 21) 1),
 oP 7 (.alloc [(.int .i64 0), (.int .i64 0), (.str []), (.int .u32 0), .nils, .nils]),
 oN (.store 6 (.t 7) (.t 24)),
 mV 8 25]
def a10_2 : List AOper := [
 mV 26 8,
 oP 27 (.un .not (.t 26))]
def a10_3 : List AOper := [
 oP 28 (.call 15 []),
 mV 6 28]
def a10_4 : List AOper := [
 oP 30 (.load true 6 (.t 7)),
 oP 31 (.lit true 6 1 [(.int .i64 0), (.int .i64 0), (.str []), (.int .u32 0), .nils, .nils] [(0, 6, (.t 30))]),
 oP 32 (.call 18 [(.c (.str [108, 105, 115, 116, 95, 116, 111, 95, 116, 117, 112, 108, 101])), (.t 31)]),
 mV 29 32,
 oP 33 (.extract (.t 29) 0),
 oP 34 (.extract (.t 29) 1),
 oP 9 (.alloc [(.int .i64 0), (.int .i64 0), (.str []), (.int .u32 0), .nils, .nils]),
 oN (.store 6 (.t 9) (.t 33)),
 mV 10 34]
def a10_5 : List AOper := [
 mV 35 10,
 oP 36 (.eq true (.iface true) (.t 35) (.c .nili))]
def a10_6 : List AOper := [
 oP 6 (.mv (.c (.bool false)))]
def a10_7 : List AOper := [
 oP 38 (.load true 6 (.t 9)),
 oP 39 (.lit true 6 1 [(.int .i64 0), (.int .i64 0), (.str []), (.int .u32 0), .nils, .nils] [(0, 6, (.t 38))]),
 oP 40 (.call 18 [(.c (.str [116, 117, 112, 108, 101, 95, 116, 111, 95, 108, 105, 115, 116])), (.t 39)]),
 mV 37 40,
 oP 41 (.extract (.t 37) 0),
 oP 42 (.extract (.t 37) 1),
 oP 11 (.alloc [(.int .i64 0), (.int .i64 0), (.str []), (.int .u32 0), .nils, .nils]),
 oN (.store 6 (.t 11) (.t 41)),
 mV 12 42]
def a10_8 : List AOper := [
 mV 43 12,
 oP 44 (.eq true (.iface true) (.t 43) (.c .nili)),
 mV 45 44,
 oG 46 (.load true 6 (.t 7)) 45 false,
 oG 47 (.load true 6 (.t 11)) 45 false,
 oG 48 (.call 19 [(.t 46), (.t 47)]) 45 false,
 oG 49 (.un .not (.t 48)) 45 false,
 oP 50 (.pick (.t 45) (.c (.bool true)) (.t 49))]
def a10_9 : List AOper := [
 oP 6 (.mv (.c (.bool false)))]
def a10_10 : List AOper := [
 mV 52 1,
 oP 53 (.call 22 [(.t 52)]),
 oP 54 (.load true 6 (.t 9)),
 oP 55 (.load true 6 (.t 5)),
 oP 56 (.lit true 6 3 [(.int .i64 0), (.int .i64 0), (.str []), (.int .u32 0), .nils, .nils, (.int .i64 0), (.int .i64 0), (.str []), (.int .u32 0), .nils, .nils, (.int .i64 0), (.int .i64 0), (.str []), (.int .u32 0), .nils, .nils] [(0, 6, (.t 53)), (6, 6, (.t 54)), (12, 6, (.t 55))]),
 oP 57 (.call 18 [(.c (.str [115, 101, 116, 101, 108, 101, 109, 101, 110, 116])), (.t 56)]),
 mV 51 57,
 oP 58 (.extract (.t 51) 0),
 oP 59 (.extract (.t 51) 1),
 oP 13 (.alloc [(.int .i64 0), (.int .i64 0), (.str []), (.int .u32 0), .nils, .nils]),
 oN (.store 6 (.t 13) (.t 58)),
 mV 14 59]
def a10_10b : List Nat := [0, 1, 0, 0, 15, 31, 63, 127, 127, 0, 767, 2047]
def a10_11 : List AOper := [
 mV 60 14,
 oP 61 (.eq true (.iface true) (.t 60) (.c .nili))]
def a10_12 : List AOper := [
 mV 63 1,
 oP 64 (.call 22 [(.t 63)]),
 oP 65 (.load true 6 (.t 9)),
 oP 66 (.load true 6 (.t 5)),
 oP 67 (.lit true 6 3 [(.int .i64 0), (.int .i64 0), (.str []), (.int .u32 0), .nils, .nils, (.int .i64 0), (.int .i64 0), (.str []), (.int .u32 0), .nils, .nils, (.int .i64 0), (.int .i64 0), (.str []), (.int .u32 0), .nils, .nils] [(0, 6, (.t 64)), (6, 6, (.t 65)), (12, 6, (.t 66))]),
 oP 68 (.call 25 [(.c (.str [115, 101, 116, 101, 108, 101, 109, 101, 110, 116])), (.t 67)]),
 mV 62 68,
 oP 69 (.extract (.t 62) 0),
 oP 70 (.extract (.t 62) 1),
 oP 15 (.alloc [(.int .i64 0), (.int .i64 0), (.str []), (.int .u32 0), .nils, .nils]),
 oN (.store 6 (.t 15) (.t 69)),
 mV 16 70]
def a10_12b : List Nat := [0, 1, 0, 0, 15, 31, 63, 127, 127, 0, 767, 2047]
def a10_13 : List AOper := [
 mV 71 14,
 mV 72 16,
 oP 73 (.call 26 [(.t 71), (.t 72)]),
 mV 74 73,
 oG 75 (.call 15 []) 74 true,
 oP 76 (.pick (.t 74) (.t 75) (.c (.bool false))),
 mV 6 76]
def a10_14 : List AOper := [
 oP 17 (.mv (.c (.int .i64 0)))]
def a10_15 : List AOper := [
 mV 77 17,
 mV 78 0,
 oP 79 (.len false (.t 78)),
 oP 80 (.bin .lss (.t 77) (.t 79))]
def a10_16 : List AOper := [
 mV 84 17,
 oP 85 (.bin .add (.t 84) (.c (.int .i64 1))),
 oP 86 (.call 22 [(.t 85)]),
 oP 87 (.load true 6 (.t 13)),
 oP 88 (.lit true 6 2 [(.int .i64 0), (.int .i64 0), (.str []), (.int .u32 0), .nils, .nils, (.int .i64 0), (.int .i64 0), (.str []), (.int .u32 0), .nils, .nils] [(0, 6, (.t 86)), (6, 6, (.t 87))]),
 oP 89 (.call 18 [(.c (.str [101, 108, 101, 109, 101, 110, 116])), (.t 88)]),
 mV 83 89,
 oP 90 (.extract (.t 83) 0),
 oP 91 (.extract (.t 83) 1),
 oP 18 (.alloc [(.int .i64 0), (.int .i64 0), (.str []), (.int .u32 0), .nils, .nils]),
 oN (.store 6 (.t 18) (.t 90)),
 mV 19 91]
def a10_16b : List Nat := [0, 1, 3, 0, 15, 31, 63, 127, 127, 0, 767, 2047]
def a10_17 : List AOper := [
 mV 92 0,
 mV 93 17,
 oP 94 (.idxAddr 6 (.t 92) (.t 93)),
 oP 95 (.load true 6 (.t 94)),
 oP 20 (.alloc [(.int .i64 0), (.int .i64 0), (.str []), (.int .u32 0), .nils, .nils]),
 oN (.store 6 (.t 20) (.t 95))]
def a10_18 : List AOper := [
 mV 96 17,
 oP 97 (.bin .add (.t 96) (.c (.int .i64 1))),
 mV 98 1,
 oP 99 (.bin .eql (.t 97) (.t 98))]
def a10_19 : List AOper := [
 oP 100 (.load true 6 (.t 5)),
 oN (.store 6 (.t 20) (.t 100))]
def a10_20 : List AOper := [
 mV 101 19,
 oP 102 (.eq true (.iface true) (.t 101) (.c .nili)),
 mV 103 102,
 oG 104 (.load true 6 (.t 18)) 103 false,
 oG 105 (.load true 6 (.t 20)) 103 false,
 oG 106 (.call 19 [(.t 104), (.t 105)]) 103 false,
 oG 107 (.un .not (.t 106)) 103 false,
 oP 108 (.pick (.t 103) (.c (.bool true)) (.t 107))]
def a10_21 : List AOper := [
 oP 6 (.mv (.c (.bool false)))]
def a10_22 : List AOper := [
 mV 81 17,
 oP 82 (.bin .add (.t 81) (.c (.int .i64 1))),
 mV 17 82]
def a10_l23 : AC := (.seq (.seq (.ops a10_15) (.cond (.t 80) .skip (.exit 0))) (.seq (.block 1 (.seq (.draw a10_16 a10_16b) (.seq (.ops a10_17) (.seq (.seq (.ops a10_18) (.cond (.t 99) (.ops a10_19) .skip)) (.seq (.ops a10_20) (.cond (.t 108) (.seq (.ops a10_21) .ret) .skip)))))) (.ops a10_22)))
def a10_24 : List AOper := [
 oP 109 (.call 15 []),
 mV 6 109]
def a10 : AFunc := ⟨[.tmp 6], (.seq (.ops a10_0) (.seq (.ops a10_1) (.seq (.seq (.ops a10_2) (.cond (.t 27) (.seq (.ops a10_3) .ret) .skip)) (.seq (.ops a10_4) (.seq (.seq (.ops a10_5) (.cond (.t 36) (.seq (.ops a10_6) .ret) .skip)) (.seq (.ops a10_7) (.seq (.seq (.ops a10_8) (.cond (.t 50) (.seq (.ops a10_9) .ret) .skip)) (.seq (.draw a10_10 a10_10b) (.seq (.seq (.ops a10_11) (.cond (.t 61) (.seq (.draw a10_12 a10_12b) (.seq (.ops a10_13) .ret)) .skip)) (.seq (.seq (.ops a10_14) (.block 0 (.loop a10_l23))) (.seq (.ops a10_24) .ret)))))))))))⟩
def a11_0 : List AOper := [
 oP 0 (.mv (.c .nils))]
def a11_1 : List AOper := [
 oP 4 (.call 29 []),
 mV 1 4]
def a11_2 : List AOper := [
 oP 5 (.call 30 []),
 oP 6 (.len false (.t 5)),
 oP 7 (.mv (.c (.int .i64 0)))]
def a11_3 : List AOper := [
 oP 8 (.bin .lss (.t 7) (.t 6))]
def a11_4 : List AOper := [
 oP 9 (.idxAddr 4 (.t 5) (.t 7)),
 oP 10 (.load true 4 (.t 9)),
 oP 3 (.alloc [(.str []), (.int .i64 0), (.int .i64 0), (.bool false)]),
 oN (.store 4 (.t 3) (.t 10))]
def a11_5 : List AOper := [
 oP 11 (.fieldAddr 2 (.t 3)),
 oP 12 (.load false 1 (.t 11)),
 oP 13 (.bin .eql (.t 12) (.c (.int .i64 1)))]
def a11_6 : List AOper := [
 mV 14 1,
 oP 15 (.load true 4 (.t 3)),
 oP 16 (.lit true 4 1 [(.str []), (.int .i64 0), (.int .i64 0), (.bool false)] [(0, 4, (.t 15))]),
 oP 17 (.append 4 40 (.t 14) (.t 16)),
 mV 1 17]
def a11_7 : List AOper := [
 oP 18 (.bin .add (.t 7) (.c (.int .i64 1))),
 mV 7 18]
def a11_l8 : AC := (.seq (.ops a11_3) (.seq (.cond (.t 8) .skip (.exit 0)) (.seq (.block 1 (.seq (.ops a11_4) (.seq (.ops a11_5) (.cond (.t 13) (.ops a11_6) .skip)))) (.ops a11_7))))
def a11_9 : List AOper := [
 mV 19 1,
 mV 0 19]
def a11 : AFunc := ⟨[.tmp 0], (.seq (.ops a11_0) (.seq (.ops a11_1) (.seq (.seq (.ops a11_2) (.block 0 (.loop a11_l8))) (.seq (.ops a11_9) .ret))))⟩
def a12_0 : List AOper := [
 oP 0 (.mv (.c .nils))]
def a12_1 : List AOper := [
 oP 1 (.mv (.c .nils))]
def a12_2 : List AOper := [
 oP 8 (.lit true 1 3 [(.str []), (.str []), (.str [])] [(0, 1, (.c (.str [43]))), (1, 1, (.c (.str [45]))), (2, 1, (.c (.str [110, 111, 116])))]),
 mV 2 8]
def a12_3 : List AOper := [
 oP 3 (.mv (.c (.int .i64 0)))]
def a12_4 : List AOper := [
 mV 9 3,
 mV 10 2,
 oP 11 (.len false (.t 10)),
 oP 12 (.bin .lss (.t 9) (.t 11))]
def a12_5 : List AOper := [
 mV 15 1,
 mV 16 2,
 mV 17 3,
 oP 18 (.idxAddr 1 (.t 16) (.t 17)),
 oP 19 (.load false 1 (.t 18)),
 oP 20 (.build [(.str []), (.int .i64 0), (.int .i64 0), (.bool false)] [(0, 1, (.t 19)), (1, 1, (.c (.int .i64 1))), (2, 1, (.c (.int .i64 1))), (3, 1, (.c (.bool true)))]),
 oP 21 (.lit true 4 1 [(.str []), (.int .i64 0), (.int .i64 0), (.bool false)] [(0, 4, (.t 20))]),
 oP 22 (.append 4 40 (.t 15) (.t 21)),
 mV 1 22]
def a12_6 : List AOper := [
 mV 13 3,
 oP 14 (.bin .add (.t 13) (.c (.int .i64 1))),
 mV 3 14]
def a12_l7 : AC := (.seq (.seq (.ops a12_4) (.cond (.t 12) .skip (.exit 0))) (.seq (.block 1 (.ops a12_5)) (.ops a12_6)))
def a12_8 : List AOper := [
 oP 23 (.lit true 1 18 [(.str []), (.str []), (.str []), (.str []), (.str []), (.str []), (.str []), (.str []), (.str []), (.str []), (.str []), (.str []), (.str []), (.str []), (.str []), (.str []), (.str []), (.str [])] [(0, 1, (.c (.str [43]))), (1, 1, (.c (.str [45]))), (2, 1, (.c (.str [42]))), (3, 1, (.c (.str [100, 105, 118]))), (4, 1, (.c (.str [114, 101, 109]))), (5, 1, (.c (.str [97, 110, 100]))), (6, 1, (.c (.str [111, 114]))), (7, 1, (.c (.str [120, 111, 114]))), (8, 1, (.c (.str [43, 43]))), (9, 1, (.c (.str [45, 45]))), (10, 1, (.c (.str [61, 61]))), (11, 1, (.c (.str [47, 61]))), (12, 1, (.c (.str [61, 60]))), (13, 1, (.c (.str [60]))), (14, 1, (.c (.str [62, 61]))), (15, 1, (.c (.str [62]))), (16, 1, (.c (.str [61, 58, 61]))), (17, 1, (.c (.str [61, 47, 61])))]),
 mV 4 23]
def a12_9 : List AOper := [
 oP 5 (.mv (.c (.int .i64 0)))]
def a12_10 : List AOper := [
 mV 24 5,
 mV 25 4,
 oP 26 (.len false (.t 25)),
 oP 27 (.bin .lss (.t 24) (.t 26))]
def a12_11 : List AOper := [
 mV 30 1,
 mV 31 4,
 mV 32 5,
 oP 33 (.idxAddr 1 (.t 31) (.t 32)),
 oP 34 (.load false 1 (.t 33)),
 mV 35 4,
 mV 36 5,
 oP 37 (.idxAddr 1 (.t 35) (.t 36)),
 oP 38 (.load false 1 (.t 37)),
 oP 39 (.bin .neq (.t 38) (.c (.str [43, 43]))),
 mV 40 39,
 oG 41 (.mv (.t 4)) 40 true,
 oG 42 (.mv (.t 5)) 40 true,
 oG 43 (.idxAddr 1 (.t 41) (.t 42)) 40 true,
 oG 44 (.load false 1 (.t 43)) 40 true,
 oG 45 (.bin .neq (.t 44) (.c (.str [45, 45]))) 40 true,
 oP 46 (.pick (.t 40) (.t 45) (.c (.bool false))),
 oP 47 (.build [(.str []), (.int .i64 0), (.int .i64 0), (.bool false)] [(0, 1, (.t 34)), (1, 1, (.c (.int .i64 2))), (2, 1, (.c (.int .i64 1))), (3, 1, (.t 46))]),
 oP 48 (.lit true 4 1 [(.str []), (.int .i64 0), (.int .i64 0), (.bool false)] [(0, 4, (.t 47))]),
 oP 49 (.append 4 40 (.t 30) (.t 48)),
 mV 1 49]
def a12_11b : List Nat := [0, 0, 0, 6, 14, 0, 0, 96, 224, 480, 992, 2016, 2016, 8160, 16352, 32736, 65504, 131070, 262142, 524287, 1048575]
def a12_12 : List AOper := [
 mV 28 5,
 oP 29 (.bin .add (.t 28) (.c (.int .i64 1))),
 mV 5 29]
def a12_l13 : AC := (.seq (.seq (.ops a12_10) (.cond (.t 27) .skip (.exit 2))) (.seq (.block 3 (.draw a12_11 a12_11b)) (.ops a12_12)))
def a12_14 : List AOper := [
 oP 50 (.call 30 []),
 mV 6 50]
def a12_15 : List AOper := [
 oP 7 (.mv (.c (.int .i64 0)))]
def a12_16 : List AOper := [
 mV 51 7,
 mV 52 6,
 oP 53 (.len false (.t 52)),
 oP 54 (.bin .lss (.t 51) (.t 53))]
def a12_17 : List AOper := [
 mV 57 6,
 mV 58 7,
 oP 59 (.idxAddr 4 (.t 57) (.t 58)),
 oP 60 (.fieldAddr 2 (.t 59)),
 oP 61 (.load false 1 (.t 60)),
 oP 62 (.bin .eql (.t 61) (.c (.int .i64 1)))]
def a12_18 : List AOper := [
 mV 63 1,
 mV 64 6,
 mV 65 7,
 oP 66 (.idxAddr 4 (.t 64) (.t 65)),
 oP 67 (.load true 4 (.t 66)),
 oP 68 (.lit true 4 1 [(.str []), (.int .i64 0), (.int .i64 0), (.bool false)] [(0, 4, (.t 67))]),
 oP 69 (.append 4 40 (.t 63) (.t 68)),
 mV 1 69]
def a12_19 : List AOper := [
 mV 55 7,
 oP 56 (.bin .add (.t 55) (.c (.int .i64 1))),
 mV 7 56]
def a12_l20 : AC := (.seq (.seq (.ops a12_16) (.cond (.t 54) .skip (.exit 4))) (.seq (.block 5 (.seq (.ops a12_17) (.cond (.t 62) (.ops a12_18) .skip))) (.ops a12_19)))
def a12_21 : List AOper := [
 mV 70 1,
 mV 0 70]
def a12 : AFunc := ⟨[.tmp 0], (.seq (.ops a12_0) (.seq (.ops a12_1) (.seq (.ops a12_2) (.seq (.seq (.ops a12_3) (.block 0 (.loop a12_l7))) (.seq (.ops a12_8) (.seq (.seq (.ops a12_9) (.block 2 (.loop a12_l13))) (.seq (.ops a12_14) (.seq (.seq (.ops a12_15) (.block 4 (.loop a12_l20))) (.seq (.ops a12_21) .ret)))))))))⟩
def a13_0 : List AOper := [
 oP 4 (.alloc [(.str []), (.int .i64 0), (.int .i64 0), (.bool false)]),
 oP 5 (.mv (.c (.bool false)))]
def a13_1 : List AOper := [
 oP 8 (.call 11 []),
 oP 9 (.len false (.t 8)),
 oP 10 (.mv (.c (.int .i64 0)))]
def a13_2 : List AOper := [
 oP 11 (.bin .lss (.t 10) (.t 9))]
def a13_3 : List AOper := [
 oP 12 (.idxAddr 4 (.t 8) (.t 10)),
 oP 13 (.load true 4 (.t 12)),
 oP 7 (.alloc [(.str []), (.int .i64 0), (.int .i64 0), (.bool false)]),
 oN (.store 4 (.t 7) (.t 13))]
def a13_4 : List AOper := [
 oP 14 (.fieldAddr 0 (.t 7)),
 oP 15 (.load false 1 (.t 14)),
 mV 16 0,
 oP 17 (.bin .eql (.t 15) (.t 16)),
 mV 18 17,
 oG 19 (.fieldAddr 1 (.t 7)) 18 true,
 oG 20 (.load false 1 (.t 19)) 18 true,
 oG 21 (.mv (.t 1)) 18 true,
 oG 22 (.bin .eql (.t 20) (.t 21)) 18 true,
 oP 23 (.pick (.t 18) (.t 22) (.c (.bool false)))]
def a13_5 : List AOper := [
 oP 24 (.load true 4 (.t 7)),
 oN (.store 4 (.t 4) (.t 24)),
 oP 5 (.mv (.c (.bool true)))]
def a13_6 : List AOper := [
 oP 25 (.bin .add (.t 10) (.c (.int .i64 1))),
 mV 10 25]
def a13_l7 : AC := (.seq (.ops a13_2) (.seq (.cond (.t 11) .skip (.exit 0)) (.seq (.block 1 (.seq (.ops a13_3) (.seq (.ops a13_4) (.cond (.t 23) (.seq (.ops a13_5) .ret) .skip)))) (.ops a13_6))))
def a13_8 : List AOper := [
 oP 26 (.build [(.str []), (.int .i64 0), (.int .i64 0), (.bool false)] []),
 oN (.store 4 (.t 4) (.t 26)),
 oP 5 (.mv (.c (.bool false)))]
def a13 : AFunc := ⟨[.cell 4 true 4, .tmp 5], (.seq (.ops a13_0) (.seq (.seq (.ops a13_1) (.block 0 (.loop a13_l7))) (.seq (.ops a13_8) .ret)))⟩
def a14_0 : List AOper := [
 oP 4 (.alloc [(.str []), (.int .i64 0), (.int .i64 0), (.bool false)]),
 oP 5 (.mv (.c (.bool false)))]
def a14_1 : List AOper := [
 oP 8 (.call 12 []),
 mV 6 8]
def a14_2 : List AOper := [
 oP 7 (.mv (.c (.int .i64 0)))]
def a14_3 : List AOper := [
 mV 9 7,
 mV 10 6,
 oP 11 (.len false (.t 10)),
 oP 12 (.bin .lss (.t 9) (.t 11))]
def a14_4 : List AOper := [
 mV 15 6,
 mV 16 7,
 oP 17 (.idxAddr 4 (.t 15) (.t 16)),
 oP 18 (.fieldAddr 0 (.t 17)),
 oP 19 (.load false 1 (.t 18)),
 mV 20 0,
 oP 21 (.bin .eql (.t 19) (.t 20)),
 mV 22 21,
 oG 23 (.mv (.t 6)) 22 true,
 oG 24 (.mv (.t 7)) 22 true,
 oG 25 (.idxAddr 4 (.t 23) (.t 24)) 22 true,
 oG 26 (.fieldAddr 1 (.t 25)) 22 true,
 oG 27 (.load false 1 (.t 26)) 22 true,
 oG 28 (.mv (.t 1)) 22 true,
 oG 29 (.bin .eql (.t 27) (.t 28)) 22 true,
 oP 30 (.pick (.t 22) (.t 29) (.c (.bool false)))]
def a14_5 : List AOper := [
 mV 31 6,
 mV 32 7,
 oP 33 (.idxAddr 4 (.t 31) (.t 32)),
 oP 34 (.load true 4 (.t 33)),
 oN (.store 4 (.t 4) (.t 34)),
 oP 5 (.mv (.c (.bool true)))]
def a14_6 : List AOper := [
 mV 13 7,
 oP 14 (.bin .add (.t 13) (.c (.int .i64 1))),
 mV 7 14]
def a14_l7 : AC := (.seq (.seq (.ops a14_3) (.cond (.t 12) .skip (.exit 0))) (.seq (.block 1 (.seq (.ops a14_4) (.cond (.t 30) (.seq (.ops a14_5) .ret) .skip))) (.ops a14_6)))
def a14_8 : List AOper := [
 oP 35 (.build [(.str []), (.int .i64 0), (.int .i64 0), (.bool false)] []),
 oN (.store 4 (.t 4) (.t 35)),
 oP 5 (.mv (.c (.bool false)))]
def a14 : AFunc := ⟨[.cell 4 true 4, .tmp 5], (.seq (.ops a14_0) (.seq (.ops a14_1) (.seq (.seq (.ops a14_2) (.block 0 (.loop a14_l7))) (.seq (.ops a14_8) .ret))))⟩
def a15_0 : List AOper := [
 oP 0 (.mv (.c (.bool false)))]
def a15_1 : List AOper := [
 oP 8 (.call 22 [(.c (.int .i64 1))]),
 oP 9 (.call 22 [(.c (.int .i64 2))]),
 oP 10 (.lit true 6 2 [(.int .i64 0), (.int .i64 0), (.str []), (.int .u32 0), .nils, .nils, (.int .i64 0), (.int .i64 0), (.str []), (.int .u32 0), .nils, .nils] [(0, 6, (.t 8)), (6, 6, (.t 9))]),
 oP 11 (.call 18 [(.c (.str [43])), (.t 10)]),
 mV 7 11,
 oP 12 (.extract (.t 7) 0),
 oP 13 (.extract (.t 7) 1),
 oP 1 (.alloc [(.int .i64 0), (.int .i64 0), (.str []), (.int .u32 0), .nils, .nils]),
 oN (.store 6 (.t 1) (.t 12)),
 mV 2 13]
def a15_2 : List AOper := [
 oP 15 (.call 22 [(.c (.int .i64 1))]),
 oP 16 (.call 31 [(.c (.str [97]))]),
 oP 17 (.lit true 6 2 [(.int .i64 0), (.int .i64 0), (.str []), (.int .u32 0), .nils, .nils, (.int .i64 0), (.int .i64 0), (.str []), (.int .u32 0), .nils, .nils] [(0, 6, (.t 15)), (6, 6, (.t 16))]),
 oP 18 (.call 18 [(.c (.str [43])), (.t 17)]),
 mV 14 18,
 oP 19 (.extract (.t 14) 0),
 oP 20 (.extract (.t 14) 1),
 oP 3 (.alloc [(.int .i64 0), (.int .i64 0), (.str []), (.int .u32 0), .nils, .nils]),
 oN (.store 6 (.t 3) (.t 19)),
 mV 4 20]
def a15_3 : List AOper := [
 mV 22 4,
 oP 23 (.call 27 [(.t 22)]),
 mV 21 23,
 oP 24 (.extract (.t 21) 0),
 oP 25 (.extract (.t 21) 1),
 oP 5 (.alloc [(.int .i64 0), (.int .i64 0), (.str []), (.int .u32 0), .nils, .nils]),
 oN (.store 6 (.t 5) (.t 24)),
 mV 6 25]
def a15_4 : List AOper := [
 mV 26 2,
 oP 27 (.eq false (.iface true) (.t 26) (.c .nili)),
 mV 28 27,
 oG 29 (.fieldAddr 0 (.t 1)) 28 true,
 oG 30 (.load false 1 (.t 29)) 28 true,
 oG 31 (.bin .eql (.t 30) (.c (.int .i64 1))) 28 true,
 oP 32 (.pick (.t 28) (.t 31) (.c (.bool false))),
 mV 33 32,
 oG 34 (.fieldAddr 1 (.t 1)) 33 true,
 oG 35 (.load false 1 (.t 34)) 33 true,
 oG 36 (.bin .eql (.t 35) (.c (.int .i64 3))) 33 true,
 oP 37 (.pick (.t 33) (.t 36) (.c (.bool false))),
 mV 38 37,
 oG 39 (.mv (.t 6)) 38 true,
 oP 40 (.pick (.t 38) (.t 39) (.c (.bool false))),
 mV 41 40,
 oG 42 (.fieldAddr 2 (.t 5)) 41 true,
 oG 43 (.load false 1 (.t 42)) 41 true,
 oG 44 (.bin .eql (.t 43) (.c (.str [98, 97, 100, 97, 114, 105, 116, 104]))) 41 true,
 oP 45 (.pick (.t 41) (.t 44) (.c (.bool false))),
 mV 46 45,
 oG 47 (.call 31 [(.c (.str [116, 114, 117, 101]))]) 46 true,
 oG 48 (.call 17 [(.t 47)]) 46 true,
 oP 49 (.pick (.t 46) (.t 48) (.c (.bool false))),
 mV 0 49]
def a15 : AFunc := ⟨[.tmp 0], (.seq (.ops a15_0) (.seq (.ops a15_1) (.seq (.ops a15_2) (.seq (.ops a15_3) (.seq (.ops a15_4) .ret)))))⟩
def a16_0 : List AOper := [
 oP 1 (.box false 6 (.t 0)),
 oP 2 (.mv (.c .nils))]
def a16_1 : List AOper := [
 oP 4 (.build [(.int .i64 0), (.int .i64 0), .nils] []),
 oP 5 (.box false 3 (.t 4)),
 mV 3 5]
def a16_2 : List AOper := [
 mV 6 3,
 oP 7 (.load true 6 (.t 1)),
 oP 8 (.call 32 [(.t 6), (.t 7), (.c (.int .i64 1))])]
def a16_3 : List AOper := [
 mV 9 3,
 oP 10 (.nilCheck (.t 9)),
 oP 11 (.fieldAddr 2 (.t 10)),
 oP 12 (.load false 1 (.t 11)),
 mV 2 12]
def a16 : AFunc := ⟨[.tmp 2], (.seq (.ops a16_0) (.seq (.ops a16_1) (.seq (.ops a16_2) (.seq (.ops a16_3) .ret))))⟩
def a17_0 : List AOper := [
 oP 1 (.box false 6 (.t 0)),
 oP 2 (.mv (.c (.bool false)))]
def a17_1 : List AOper := [
 oP 3 (.load true 6 (.t 1)),
 oP 4 (.call 34 [(.c (.str [116, 114, 117, 101]))]),
 oP 5 (.call 33 [(.t 3), (.t 4)]),
 mV 2 5]
def a17_1b : List Nat := [0, 0, 3, 7]
def a17 : AFunc := ⟨[.tmp 2], (.seq (.ops a17_0) (.seq (.draw a17_1 a17_1b) .ret))⟩
def a18_0 : List AOper := [
 oP 4 (.alloc [(.int .i64 0), (.int .i64 0), (.str []), (.int .u32 0), .nils, .nils]),
 oP 5 (.mv (.c .nili))]
def a18_1 : List AOper := [
 mV 15 0,
 mV 16 1,
 oP 17 (.len false (.t 16)),
 oP 18 (.call 13 [(.t 15), (.t 17)]),
 mV 14 18,
 oP 19 (.extract (.t 14) 0),
 oP 20 (.extract (.t 14) 1),
 oP 6 (.alloc [(.str []), (.int .i64 0), (.int .i64 0), (.bool false)]),
 oN (.store 4 (.t 6) (.t 19)),
 mV 7 20]
def a18_2 : List AOper := [
 mV 21 7,
 oP 22 (.un .not (.t 21))]
def a18_3 : List AOper := [
 oP 23 (.build [(.int .i64 0), (.int .i64 0), (.str []), (.int .u32 0), .nils, .nils] []),
 oP 24 (.call 35 [(.c (.int .i64 0)), (.c (.int .i64 263))]),
 oN (.store 6 (.t 4) (.t 23)),
 mV 5 24]
def a18_4 : List AOper := [
 mV 25 1,
 oP 26 (.len false (.t 25)),
 oP 27 (.mv (.c (.int .i64 0)))]
def a18_5 : List AOper := [
 oP 28 (.bin .lss (.t 27) (.t 26))]
def a18_6 : List AOper := [
 mV 29 27,
 oP 30 (.idxAddr 6 (.t 25) (.t 27)),
 oP 31 (.load true 6 (.t 30)),
 oP 9 (.alloc [(.int .i64 0), (.int .i64 0), (.str []), (.int .u32 0), .nils, .nils]),
 mV 8 29,
 oN (.store 6 (.t 9) (.t 31))]
def a18_7 : List AOper := [
 oP 32 (.load true 6 (.t 9)),
 oP 33 (.call 36 [(.t 32)]),
 mV 10 33]
def a18_8 : List AOper := [
 mV 34 10,
 oP 35 (.eq true (.iface true) (.t 34) (.c .nili))]
def a18_9 : List AOper := [
 oP 11 (.alloc [.nilp])]
def a18_10 : List AOper := [
 mV 36 10,
 oP 37 (.mkIface 71 (.t 11)),
 oP 38 (.call 37 [(.t 36), (.t 37)])]
def a18_11 : List AOper := [
 oP 39 (.build [(.int .i64 0), (.int .i64 0), (.str []), (.int .u32 0), .nils, .nils] []),
 mV 40 8,
 oP 41 (.load false 1 (.t 11)),
 oP 42 (.nilCheck (.t 41)),
 oP 43 (.fieldAddr 2 (.t 42)),
 oP 44 (.load false 1 (.t 43)),
 mV 45 10,
 oP 46 (.build [(.str []), (.int .i64 0), (.int .i64 0), .nili] [(0, 1, (.c (.str [98, 105, 102]))), (1, 1, (.t 40)), (2, 1, (.t 44)), (3, 1, (.t 45))]),
 oP 47 (.box true 4 (.t 46)),
 oP 48 (.mkIface 69 (.t 47)),
 oN (.store 6 (.t 4) (.t 39)),
 mV 5 48]
def a18_11b : List Nat := [0, 0, 0, 4, 12, 28, 0, 126, 254, 510, 1, 2047]
def a18_12 : List AOper := [
 oP 49 (.bin .add (.t 27) (.c (.int .i64 1))),
 mV 27 49]
def a18_l13 : AC := (.seq (.ops a18_5) (.seq (.cond (.t 28) .skip (.exit 0)) (.seq (.block 1 (.seq (.ops a18_6) (.seq (.ops a18_7) (.seq (.ops a18_8) (.cond (.t 35) (.seq (.ops a18_9) (.seq (.ops a18_10) (.seq (.draw a18_11 a18_11b) .ret))) .skip))))) (.ops a18_12))))
def a18_14 : List AOper := [
 mV 51 0,
 mV 52 1,
 oP 53 (.call 38 [(.t 51), (.t 52)]),
 mV 50 53,
 oP 54 (.extract (.t 50) 0),
 oP 55 (.extract (.t 50) 1),
 oP 12 (.alloc [(.int .i64 0), (.int .i64 0), (.str []), (.int .u32 0), .nils, .nils]),
 oN (.store 6 (.t 12) (.t 54)),
 mV 13 55]
def a18_15 : List AOper := [
 mV 56 13,
 oP 57 (.bin .eql (.t 56) (.c (.int .i64 0))),
 mV 58 57,
 oG 59 (.load true 6 (.t 12)) 58 true,
 oG 60 (.call 36 [(.t 59)]) 58 true,
 oG 61 (.eq true (.iface true) (.t 60) (.c .nili)) 58 true,
 oP 62 (.pick (.t 58) (.t 61) (.c (.bool false)))]
def a18_16 : List AOper := [
 oP 13 (.mv (.c (.int .i64 262)))]
def a18_17 : List AOper := [
 mV 63 13,
 oP 64 (.bin .neq (.t 63) (.c (.int .i64 0)))]
def a18_18 : List AOper := [
 oP 65 (.build [(.int .i64 0), (.int .i64 0), (.str []), (.int .u32 0), .nils, .nils] []),
 mV 66 13,
 oP 67 (.call 35 [(.c (.int .i64 0)), (.t 66)]),
 oN (.store 6 (.t 4) (.t 65)),
 mV 5 67]
def a18_19 : List AOper := [
 oP 68 (.load true 6 (.t 12)),
 oP 69 (.call 39 [(.t 68)]),
 oN (.store 6 (.t 4) (.t 69)),
 oP 5 (.mv (.c .nili))]
def a18 : AFunc := ⟨[.cell 4 true 6, .tmp 5], (.seq (.ops a18_0) (.seq (.seq (.ops a18_1) (.seq (.ops a18_2) (.cond (.t 22) (.seq (.ops a18_3) .ret) .skip))) (.seq (.seq (.ops a18_4) (.block 0 (.loop a18_l13))) (.seq (.ops a18_14) (.seq (.seq (.ops a18_15) (.cond (.t 62) (.ops a18_16) .skip)) (.seq (.seq (.ops a18_17) (.cond (.t 64) (.seq (.ops a18_18) .ret) .skip)) (.seq (.ops a18_19) .ret)))))))⟩
def a19_0 : List AOper := [
 oP 2 (.box false 6 (.t 0)),
 oP 3 (.box false 6 (.t 1)),
 oP 4 (.mv (.c (.bool false)))]
def a19_1 : List AOper := [
 oP 7 (.fieldAddr 0 (.t 2)),
 oP 8 (.load false 1 (.t 7)),
 oP 9 (.fieldAddr 0 (.t 3)),
 oP 10 (.load false 1 (.t 9)),
 oP 11 (.bin .neq (.t 8) (.t 10)),
 mV 12 11,
 oG 13 (.fieldAddr 1 (.t 2)) 12 false,
 oG 14 (.load false 1 (.t 13)) 12 false,
 oG 15 (.fieldAddr 1 (.t 3)) 12 false,
 oG 16 (.load false 1 (.t 15)) 12 false,
 oG 17 (.bin .neq (.t 14) (.t 16)) 12 false,
 oP 18 (.pick (.t 12) (.c (.bool true)) (.t 17)),
 mV 19 18,
 oG 20 (.fieldAddr 2 (.t 2)) 19 false,
 oG 21 (.load false 1 (.t 20)) 19 false,
 oG 22 (.fieldAddr 2 (.t 3)) 19 false,
 oG 23 (.load false 1 (.t 22)) 19 false,
 oG 24 (.bin .neq (.t 21) (.t 23)) 19 false,
 oP 25 (.pick (.t 19) (.c (.bool true)) (.t 24)),
 mV 26 25,
 oG 27 (.fieldAddr 3 (.t 2)) 26 false,
 oG 28 (.load false 1 (.t 27)) 26 false,
 oG 29 (.fieldAddr 3 (.t 3)) 26 false,
 oG 30 (.load false 1 (.t 29)) 26 false,
 oG 31 (.bin .neq (.t 28) (.t 30)) 26 false,
 oP 32 (.pick (.t 26) (.c (.bool true)) (.t 31)),
 mV 33 32,
 oG 34 (.fieldAddr 4 (.t 2)) 33 false,
 oG 35 (.load false 1 (.t 34)) 33 false,
 oG 36 (.len false (.t 35)) 33 false,
 oG 37 (.fieldAddr 4 (.t 3)) 33 false,
 oG 38 (.load false 1 (.t 37)) 33 false,
 oG 39 (.len false (.t 38)) 33 false,
 oG 40 (.bin .neq (.t 36) (.t 39)) 33 false,
 oP 41 (.pick (.t 33) (.c (.bool true)) (.t 40)),
 mV 42 41,
 oG 43 (.fieldAddr 5 (.t 2)) 42 false,
 oG 44 (.load false 1 (.t 43)) 42 false,
 oG 45 (.len false (.t 44)) 42 false,
 oG 46 (.fieldAddr 5 (.t 3)) 42 false,
 oG 47 (.load false 1 (.t 46)) 42 false,
 oG 48 (.len false (.t 47)) 42 false,
 oG 49 (.bin .neq (.t 45) (.t 48)) 42 false,
 oP 50 (.pick (.t 42) (.c (.bool true)) (.t 49))]
def a19_2 : List AOper := [
 oP 4 (.mv (.c (.bool false)))]
def a19_3 : List AOper := [
 oP 5 (.mv (.c (.int .i64 0)))]
def a19_4 : List AOper := [
 mV 51 5,
 oP 52 (.fieldAddr 4 (.t 2)),
 oP 53 (.load false 1 (.t 52)),
 oP 54 (.len false (.t 53)),
 oP 55 (.bin .lss (.t 51) (.t 54))]
def a19_5 : List AOper := [
 oP 58 (.fieldAddr 4 (.t 2)),
 oP 59 (.load false 1 (.t 58)),
 mV 60 5,
 oP 61 (.idxAddr 1 (.t 59) (.t 60)),
 oP 62 (.load false 1 (.t 61)),
 oP 63 (.fieldAddr 4 (.t 3)),
 oP 64 (.load false 1 (.t 63)),
 mV 65 5,
 oP 66 (.idxAddr 1 (.t 64) (.t 65)),
 oP 67 (.load false 1 (.t 66)),
 oP 68 (.bin .neq (.t 62) (.t 67))]
def a19_5b : List Nat := [0, 1, 0, 7, 15, 0, 32, 0, 224, 480, 1023]
def a19_6 : List AOper := [
 oP 4 (.mv (.c (.bool false)))]
def a19_7 : List AOper := [
 mV 56 5,
 oP 57 (.bin .add (.t 56) (.c (.int .i64 1))),
 mV 5 57]
def a19_l8 : AC := (.seq (.seq (.ops a19_4) (.cond (.t 55) .skip (.exit 0))) (.seq (.block 1 (.seq (.draw a19_5 a19_5b) (.cond (.t 68) (.seq (.ops a19_6) .ret) .skip))) (.ops a19_7)))
def a19_9 : List AOper := [
 oP 6 (.mv (.c (.int .i64 0)))]
def a19_10 : List AOper := [
 mV 69 6,
 oP 70 (.fieldAddr 5 (.t 2)),
 oP 71 (.load false 1 (.t 70)),
 oP 72 (.len false (.t 71)),
 oP 73 (.bin .lss (.t 69) (.t 72))]
def a19_11 : List AOper := [
 oP 76 (.fieldAddr 5 (.t 2)),
 oP 77 (.load false 1 (.t 76)),
 mV 78 6,
 oP 79 (.idxAddr 6 (.t 77) (.t 78)),
 oP 80 (.load true 6 (.t 79)),
 oP 81 (.fieldAddr 5 (.t 3)),
 oP 82 (.load false 1 (.t 81)),
 mV 83 6,
 oP 84 (.idxAddr 6 (.t 82) (.t 83)),
 oP 85 (.load true 6 (.t 84)),
 oP 86 (.call 19 [(.t 80), (.t 85)]),
 oP 87 (.un .not (.t 86))]
def a19_11b : List Nat := [0, 1, 0, 7, 15, 0, 32, 0, 224, 480, 1023, 2047]
def a19_12 : List AOper := [
 oP 4 (.mv (.c (.bool false)))]
def a19_13 : List AOper := [
 mV 74 6,
 oP 75 (.bin .add (.t 74) (.c (.int .i64 1))),
 mV 6 75]
def a19_l14 : AC := (.seq (.seq (.ops a19_10) (.cond (.t 73) .skip (.exit 2))) (.seq (.block 3 (.seq (.draw a19_11 a19_11b) (.cond (.t 87) (.seq (.ops a19_12) .ret) .skip))) (.ops a19_13)))
def a19_15 : List AOper := [
 oP 4 (.mv (.c (.bool true)))]
def a19 : AFunc := ⟨[.tmp 4], (.seq (.ops a19_0) (.seq (.seq (.ops a19_1) (.cond (.t 50) (.seq (.ops a19_2) .ret) .skip)) (.seq (.seq (.ops a19_3) (.block 0 (.loop a19_l8))) (.seq (.seq (.ops a19_9) (.block 2 (.loop a19_l14))) (.seq (.ops a19_15) .ret)))))⟩
def a21_0 : List AOper := [
 oP 2 (.alloc [(.int .i64 0), (.int .i64 0), (.str []), (.int .u32 0), .nils, .nils]),
 oP 3 (.mv (.c (.bool false)))]
def a21_1 : List AOper := [
 mV 5 0,
 oP 6 (.build [(.int .i64 0), (.int .i64 0), (.str []), (.int .u32 0), .nils, .nils] [(0, 1, (.c (.int .i64 6)))]),
 oP 7 (.call 41 [(.t 5), (.t 6)]),
 oP 4 (.alloc [(.int .i64 0), (.int .i64 0), (.str []), (.int .u32 0), .nils, .nils]),
 oN (.store 6 (.t 4) (.t 7))]
def a21_2 : List AOper := [
 oP 8 (.load true 6 (.t 4)),
 oP 9 (.load true 6 (.t 4)),
 oP 10 (.call 16 [(.t 9)]),
 oP 11 (.len false (.t 10)),
 oP 12 (.bin .eql (.t 11) (.c (.int .i64 0))),
 oN (.store 6 (.t 2) (.t 8)),
 mV 3 12]
def a21_2b : List Nat := [0, 0, 2, 6, 14, 7, 63]
def a21 : AFunc := ⟨[.cell 2 true 6, .tmp 3], (.seq (.ops a21_0) (.seq (.ops a21_1) (.seq (.draw a21_2 a21_2b) .ret)))⟩
def a22_0 : List AOper := [
 oP 2 (.alloc [(.int .i64 0), (.int .i64 0), (.str []), (.int .u32 0), .nils, .nils])]
def a22_1 : List AOper := [
 mV 3 0,
 oP 4 (.build [(.int .i64 0), (.int .i64 0), (.str []), (.int .u32 0), .nils, .nils] [(0, 1, (.c (.int .i64 1))), (1, 1, (.t 3))]),
 oN (.store 6 (.t 2) (.t 4))]
def a22 : AFunc := ⟨[.cell 2 true 6], (.seq (.ops a22_0) (.seq (.ops a22_1) .ret))⟩
def a25_0 : List AOper := [
 oP 4 (.alloc [(.int .i64 0), (.int .i64 0), (.str []), (.int .u32 0), .nils, .nils]),
 oP 5 (.mv (.c .nils))]
def a25_1 : List AOper := [
 mV 13 0,
 mV 14 1,
 oP 15 (.len false (.t 14)),
 oP 16 (.call 14 [(.t 13), (.t 15)]),
 mV 12 16,
 oP 17 (.extract (.t 12) 0),
 oP 18 (.extract (.t 12) 1),
 oP 6 (.alloc [(.str []), (.int .i64 0), (.int .i64 0), (.bool false)]),
 oN (.store 4 (.t 6) (.t 17)),
 mV 7 18]
def a25_2 : List AOper := [
 mV 19 7,
 oP 20 (.un .not (.t 19))]
def a25_3 : List AOper := [
 oP 21 (.build [(.int .i64 0), (.int .i64 0), (.str []), (.int .u32 0), .nils, .nils] []),
 oP 22 (.call 42 [(.c (.int .i64 0)), (.c (.int .i64 263))]),
 oN (.store 6 (.t 4) (.t 21)),
 mV 5 22]
def a25_4 : List AOper := [
 oP 8 (.mv (.c (.int .i64 0)))]
def a25_5 : List AOper := [
 mV 23 8,
 mV 24 1,
 oP 25 (.len false (.t 24)),
 oP 26 (.bin .lss (.t 23) (.t 25))]
def a25_6 : List AOper := [
 mV 29 1,
 mV 30 8,
 oP 31 (.idxAddr 6 (.t 29) (.t 30)),
 oP 32 (.load true 6 (.t 31)),
 oP 33 (.call 16 [(.t 32)]),
 mV 9 33]
def a25_7 : List AOper := [
 mV 34 9,
 oP 35 (.len false (.t 34)),
 oP 36 (.bin .gtr (.t 35) (.c (.int .i64 0)))]
def a25_8 : List AOper := [
 oP 37 (.build [(.int .i64 0), (.int .i64 0), (.str []), (.int .u32 0), .nils, .nils] []),
 mV 38 8,
 mV 39 9,
 oP 40 (.idxAddr 3 (.t 39) (.c (.int .i64 0))),
 oP 41 (.fieldAddr 2 (.t 40)),
 oP 42 (.load false 1 (.t 41)),
 mV 43 9,
 oP 44 (.call 43 [(.c (.str [98, 105, 102])), (.t 38), (.t 42), (.t 43)]),
 oN (.store 6 (.t 4) (.t 37)),
 mV 5 44]
def a25_9 : List AOper := [
 mV 27 8,
 oP 28 (.bin .add (.t 27) (.c (.int .i64 1))),
 mV 8 28]
def a25_l10 : AC := (.seq (.seq (.ops a25_5) (.cond (.t 26) .skip (.exit 0))) (.seq (.block 1 (.seq (.ops a25_6) (.seq (.ops a25_7) (.cond (.t 36) (.seq (.ops a25_8) .ret) .skip)))) (.ops a25_9)))
def a25_11 : List AOper := [
 mV 46 0,
 mV 47 1,
 oP 48 (.call 44 [(.t 46), (.t 47)]),
 mV 45 48,
 oP 49 (.extract (.t 45) 0),
 oP 50 (.extract (.t 45) 1),
 oP 10 (.alloc [(.int .i64 0), (.int .i64 0), (.str []), (.int .u32 0), .nils, .nils]),
 oN (.store 6 (.t 10) (.t 49)),
 mV 11 50]
def a25_12 : List AOper := [
 mV 51 11,
 oP 52 (.bin .neq (.t 51) (.c (.int .i64 0)))]
def a25_13 : List AOper := [
 oP 53 (.build [(.int .i64 0), (.int .i64 0), (.str []), (.int .u32 0), .nils, .nils] []),
 mV 54 11,
 oP 55 (.call 42 [(.c (.int .i64 0)), (.t 54)]),
 oN (.store 6 (.t 4) (.t 53)),
 mV 5 55]
def a25_14 : List AOper := [
 oP 56 (.load true 6 (.t 10)),
 oP 57 (.call 16 [(.t 56)]),
 oP 58 (.len false (.t 57)),
 oP 59 (.bin .gtr (.t 58) (.c (.int .i64 0)))]
def a25_15 : List AOper := [
 oP 60 (.build [(.int .i64 0), (.int .i64 0), (.str []), (.int .u32 0), .nils, .nils] []),
 oP 61 (.call 42 [(.c (.int .i64 0)), (.c (.int .i64 262))]),
 oN (.store 6 (.t 4) (.t 60)),
 mV 5 61]
def a25_16 : List AOper := [
 oP 62 (.load true 6 (.t 10)),
 oN (.store 6 (.t 4) (.t 62)),
 oP 5 (.mv (.c .nils))]
def a25 : AFunc := ⟨[.cell 4 true 6, .tmp 5], (.seq (.ops a25_0) (.seq (.ops a25_1) (.seq (.seq (.ops a25_2) (.cond (.t 20) (.seq (.ops a25_3) .ret) .skip)) (.seq (.seq (.ops a25_4) (.block 0 (.loop a25_l10))) (.seq (.ops a25_11) (.seq (.seq (.ops a25_12) (.cond (.t 52) (.seq (.ops a25_13) .ret) .skip)) (.seq (.seq (.ops a25_14) (.cond (.t 59) (.seq (.ops a25_15) .ret) .skip)) (.seq (.ops a25_16) .ret))))))))⟩
def a26_0 : List AOper := [
 oP 4 (.mv (.c (.bool false)))]
def a26_1 : List AOper := [
 mV 7 1,
 oP 8 (.len false (.t 7)),
 oP 9 (.bin .eql (.t 8) (.c (.int .i64 0)))]
def a26_2 : List AOper := [
 mV 10 0,
 oP 11 (.eq false (.iface true) (.t 10) (.c .nili)),
 mV 4 11]
def a26_3 : List AOper := [
 mV 12 0,
 oP 13 (.call 45 [(.t 12)]),
 mV 5 13]
def a26_4 : List AOper := [
 mV 14 5,
 oP 15 (.len false (.t 14)),
 mV 16 1,
 oP 17 (.len false (.t 16)),
 oP 18 (.bin .neq (.t 15) (.t 17))]
def a26_5 : List AOper := [
 oP 4 (.mv (.c (.bool false)))]
def a26_6 : List AOper := [
 oP 6 (.mv (.c (.int .i64 0)))]
def a26_7 : List AOper := [
 mV 19 6,
 mV 20 1,
 oP 21 (.len false (.t 20)),
 oP 22 (.bin .lss (.t 19) (.t 21))]
def a26_8 : List AOper := [
 mV 25 5,
 mV 26 6,
 oP 27 (.idxAddr 3 (.t 25) (.t 26)),
 oP 28 (.load true 3 (.t 27)),
 mV 29 1,
 mV 30 6,
 oP 31 (.idxAddr 3 (.t 29) (.t 30)),
 oP 32 (.load true 3 (.t 31)),
 oP 33 (.eq true (.struct [(0, 1, false, .str), (1, 1, false, .int), (2, 1, false, .int)]) (.t 28) (.t 32))]
def a26_8b : List Nat := [0, 0, 3, 7, 0, 0, 48, 112, 255]
def a26_9 : List AOper := [
 oP 4 (.mv (.c (.bool false)))]
def a26_10 : List AOper := [
 mV 23 6,
 oP 24 (.bin .add (.t 23) (.c (.int .i64 1))),
 mV 6 24]
def a26_l11 : AC := (.seq (.seq (.ops a26_7) (.cond (.t 22) .skip (.exit 0))) (.seq (.block 1 (.seq (.draw a26_8 a26_8b) (.cond (.t 33) (.seq (.ops a26_9) .ret) .skip))) (.ops a26_10)))
def a26_12 : List AOper := [
 mV 34 0,
 mV 35 1,
 mV 36 1,
 oP 37 (.len false (.t 36)),
 oP 38 (.bin .sub (.t 37) (.c (.int .i64 1))),
 oP 39 (.idxAddr 3 (.t 35) (.t 38)),
 oP 40 (.fieldAddr 2 (.t 39)),
 oP 41 (.load false 1 (.t 40)),
 oP 42 (.mkIface 67 (.t 41)),
 oP 43 (.call 46 [(.t 34), (.t 42)]),
 mV 4 43]
def a26 : AFunc := ⟨[.tmp 4], (.seq (.ops a26_0) (.seq (.seq (.ops a26_1) (.cond (.t 9) (.seq (.ops a26_2) .ret) .skip)) (.seq (.ops a26_3) (.seq (.seq (.ops a26_4) (.cond (.t 18) (.seq (.ops a26_5) .ret) .skip)) (.seq (.seq (.ops a26_6) (.block 0 (.loop a26_l11))) (.seq (.ops a26_12) .ret))))))⟩
def a27_0 : List AOper := [
 oP 2 (.alloc [(.int .i64 0), (.int .i64 0), (.str []), (.int .u32 0), .nils, .nils]),
 oP 3 (.mv (.c (.bool false)))]
def a27_1 : List AOper := [
 oP 4 (.alloc [.nilp])]
def a27_2 : List AOper := [
 mV 5 0,
 oP 6 (.mkIface 71 (.t 4)),
 oP 7 (.call 37 [(.t 5), (.t 6)]),
 oP 8 (.un .not (.t 7)),
 mV 9 8,
 oG 10 (.load false 1 (.t 4)) 9 false,
 oG 11 (.eq false .ptr (.t 10) (.c .nilp)) 9 false,
 oP 12 (.pick (.t 9) (.c (.bool true)) (.t 11))]
def a27_3 : List AOper := [
 oP 13 (.build [(.int .i64 0), (.int .i64 0), (.str []), (.int .u32 0), .nils, .nils] []),
 oN (.store 6 (.t 2) (.t 13)),
 oP 3 (.mv (.c (.bool false)))]
def a27_4 : List AOper := [
 oP 14 (.load false 1 (.t 4)),
 oP 15 (.nilCheck (.t 14)),
 oP 16 (.fieldAddr 2 (.t 15)),
 oP 17 (.load false 1 (.t 16))]
def a27_5 : List AOper := [
 oP 19 (.bin .eql (.t 17) (.c (.int .i64 260))),
 mV 18 19]
def a27_6 : List AOper := [
 oP 20 (.call 34 [(.c (.str [98, 97, 100, 97, 114, 105, 116, 104]))]),
 oN (.store 6 (.t 2) (.t 20)),
 oP 3 (.mv (.c (.bool true)))]
def a27_7 : List AOper := [
 oP 22 (.bin .eql (.t 17) (.c (.int .i64 261))),
 mV 21 22]
def a27_8 : List AOper := [
 oP 23 (.call 34 [(.c (.str [98, 97, 100, 97, 114, 103]))]),
 oN (.store 6 (.t 2) (.t 23)),
 oP 3 (.mv (.c (.bool true)))]
def a27_9 : List AOper := [
 oP 25 (.bin .eql (.t 17) (.c (.int .i64 262))),
 mV 24 25]
def a27_10 : List AOper := [
 oP 26 (.call 34 [(.c (.str [115, 121, 115, 116, 101, 109, 95, 108, 105, 109, 105, 116]))]),
 oN (.store 6 (.t 2) (.t 26)),
 oP 3 (.mv (.c (.bool true)))]
def a27_11 : List AOper := [
 oP 28 (.bin .eql (.t 17) (.c (.int .i64 263))),
 mV 27 28]
def a27_12 : List AOper := [
 oP 29 (.call 34 [(.c (.str [117, 110, 100, 101, 102]))]),
 oN (.store 6 (.t 2) (.t 29)),
 oP 3 (.mv (.c (.bool true)))]
def a27_13 : List AOper := [
 oP 30 (.build [(.int .i64 0), (.int .i64 0), (.str []), (.int .u32 0), .nils, .nils] []),
 oN (.store 6 (.t 2) (.t 30)),
 oP 3 (.mv (.c (.bool false)))]
def a27 : AFunc := ⟨[.cell 2 true 6, .tmp 3], (.seq (.ops a27_0) (.seq (.ops a27_1) (.seq (.seq (.ops a27_2) (.cond (.t 12) (.seq (.ops a27_3) .ret) .skip)) (.seq (.seq (.ops a27_4) (.block 0 (.seq (.ops a27_5) (.cond (.t 18) (.seq (.ops a27_6) .ret) (.seq (.ops a27_7) (.cond (.t 21) (.seq (.ops a27_8) .ret) (.seq (.ops a27_9) (.cond (.t 24) (.seq (.ops a27_10) .ret) (.seq (.ops a27_11) (.cond (.t 27) (.seq (.ops a27_12) .ret) .skip)))))))))) (.seq (.ops a27_13) .ret)))))⟩
def a29_0 : List AOper := [
 oP 0 (.mv (.c .nils))]
def a29_1 : List AOper := [
 oP 1 (.mv (.c .nils))]
def a29_2 : List AOper := [
 oP 6 (.call 47 [(.c (.str [43, 32, 45, 32, 110, 111, 116]))]),
 oP 7 (.len false (.t 6)),
 oP 8 (.mv (.c (.int .i64 0)))]
def a29_3 : List AOper := [
 oP 9 (.bin .lss (.t 8) (.t 7))]
def a29_4 : List AOper := [
 oP 10 (.idxAddr 1 (.t 6) (.t 8)),
 oP 11 (.load false 1 (.t 10)),
 mV 3 11]
def a29_5 : List AOper := [
 mV 12 1,
 mV 13 3,
 oP 14 (.build [(.str []), (.int .i64 0), (.int .i64 0), (.bool false)] [(0, 1, (.t 13)), (1, 1, (.c (.int .i64 1))), (2, 1, (.c (.int .i64 1))), (3, 1, (.c (.bool true)))]),
 oP 15 (.lit true 4 1 [(.str []), (.int .i64 0), (.int .i64 0), (.bool false)] [(0, 4, (.t 14))]),
 oP 16 (.append 4 40 (.t 12) (.t 15)),
 mV 1 16]
def a29_6 : List AOper := [
 oP 17 (.bin .add (.t 8) (.c (.int .i64 1))),
 mV 8 17]
def a29_l7 : AC := (.seq (.ops a29_3) (.seq (.cond (.t 9) .skip (.exit 0)) (.seq (.block 1 (.seq (.ops a29_4) (.ops a29_5))) (.ops a29_6))))
def a29_8 : List AOper := [
 oP 18 (.call 47 [(.c (.str [43, 32, 45, 32, 42, 32, 100, 105, 118, 32, 114, 101, 109, 32, 97, 110, 100, 32, 111, 114, 32, 120, 111, 114, 32, 43, 43, 32, 45, 45, 32, 61, 61, 32, 47, 61, 32, 61, 60, 32, 60, 32, 62, 61, 32, 62, 32, 61, 58, 61, 32, 61, 47, 61]))]),
 oP 19 (.len false (.t 18)),
 oP 20 (.mv (.c (.int .i64 0)))]
def a29_9 : List AOper := [
 oP 21 (.bin .lss (.t 20) (.t 19))]
def a29_10 : List AOper := [
 oP 22 (.idxAddr 1 (.t 18) (.t 20)),
 oP 23 (.load false 1 (.t 22)),
 mV 5 23]
def a29_11 : List AOper := [
 mV 24 1,
 mV 25 5,
 mV 26 5,
 oP 27 (.bin .neq (.t 26) (.c (.str [43, 43]))),
 mV 28 27,
 oG 29 (.mv (.t 5)) 28 true,
 oG 30 (.bin .neq (.t 29) (.c (.str [45, 45]))) 28 true,
 oP 31 (.pick (.t 28) (.t 30) (.c (.bool false))),
 oP 32 (.build [(.str []), (.int .i64 0), (.int .i64 0), (.bool false)] [(0, 1, (.t 25)), (1, 1, (.c (.int .i64 2))), (2, 1, (.c (.int .i64 1))), (3, 1, (.t 31))]),
 oP 33 (.lit true 4 1 [(.str []), (.int .i64 0), (.int .i64 0), (.bool false)] [(0, 4, (.t 32))]),
 oP 34 (.append 4 40 (.t 24) (.t 33)),
 mV 1 34]
def a29_12 : List AOper := [
 oP 35 (.bin .add (.t 20) (.c (.int .i64 1))),
 mV 20 35]
def a29_l13 : AC := (.seq (.ops a29_9) (.seq (.cond (.t 21) .skip (.exit 2)) (.seq (.block 3 (.seq (.ops a29_10) (.ops a29_11))) (.ops a29_12))))
def a29_14 : List AOper := [
 mV 36 1,
 mV 0 36]
def a29 : AFunc := ⟨[.tmp 0], (.seq (.ops a29_0) (.seq (.ops a29_1) (.seq (.seq (.ops a29_2) (.block 0 (.loop a29_l7))) (.seq (.seq (.ops a29_8) (.block 2 (.loop a29_l13))) (.seq (.ops a29_14) .ret)))))⟩
def a30_0 : List AOper := [
 oP 0 (.mv (.c .nils))]
def a30_1 : List AOper := [
 oP 1 (.build [(.str []), (.int .i64 0), (.int .i64 0), (.bool false)] [(0, 1, (.c (.str [97, 98, 115]))), (1, 1, (.c (.int .i64 1))), (2, 1, (.c (.int .i64 1))), (3, 1, (.c (.bool true)))]),
 oP 2 (.build [(.str []), (.int .i64 0), (.int .i64 0), (.bool false)] [(0, 1, (.c (.str [101, 108, 101, 109, 101, 110, 116]))), (1, 1, (.c (.int .i64 2))), (2, 1, (.c (.int .i64 1))), (3, 1, (.c (.bool true)))]),
 oP 3 (.build [(.str []), (.int .i64 0), (.int .i64 0), (.bool false)] [(0, 1, (.c (.str [116, 117, 112, 108, 101, 95, 115, 105, 122, 101]))), (1, 1, (.c (.int .i64 1))), (2, 1, (.c (.int .i64 1))), (3, 1, (.c (.bool true)))]),
 oP 4 (.build [(.str []), (.int .i64 0), (.int .i64 0), (.bool false)] [(0, 1, (.c (.str [108, 101, 110, 103, 116, 104]))), (1, 1, (.c (.int .i64 1))), (2, 1, (.c (.int .i64 1))), (3, 1, (.c (.bool true)))]),
 oP 5 (.build [(.str []), (.int .i64 0), (.int .i64 0), (.bool false)] [(0, 1, (.c (.str [104, 100]))), (1, 1, (.c (.int .i64 1))), (2, 1, (.c (.int .i64 1))), (3, 1, (.c (.bool true)))]),
 oP 6 (.build [(.str []), (.int .i64 0), (.int .i64 0), (.bool false)] [(0, 1, (.c (.str [116, 108]))), (1, 1, (.c (.int .i64 1))), (2, 1, (.c (.int .i64 1))), (3, 1, (.c (.bool true)))]),
 oP 7 (.build [(.str []), (.int .i64 0), (.int .i64 0), (.bool false)] [(0, 1, (.c (.str [105, 115, 95, 97, 116, 111, 109]))), (1, 1, (.c (.int .i64 1))), (2, 1, (.c (.int .i64 1))), (3, 1, (.c (.bool true)))]),
 oP 8 (.build [(.str []), (.int .i64 0), (.int .i64 0), (.bool false)] [(0, 1, (.c (.str [105, 115, 95, 98, 111, 111, 108, 101, 97, 110]))), (1, 1, (.c (.int .i64 1))), (2, 1, (.c (.int .i64 1))), (3, 1, (.c (.bool true)))]),
 oP 9 (.build [(.str []), (.int .i64 0), (.int .i64 0), (.bool false)] [(0, 1, (.c (.str [105, 115, 95, 105, 110, 116, 101, 103, 101, 114]))), (1, 1, (.c (.int .i64 1))), (2, 1, (.c (.int .i64 1))), (3, 1, (.c (.bool true)))]),
 oP 10 (.build [(.str []), (.int .i64 0), (.int .i64 0), (.bool false)] [(0, 1, (.c (.str [105, 115, 95, 108, 105, 115, 116]))), (1, 1, (.c (.int .i64 1))), (2, 1, (.c (.int .i64 1))), (3, 1, (.c (.bool true)))]),
 oP 11 (.build [(.str []), (.int .i64 0), (.int .i64 0), (.bool false)] [(0, 1, (.c (.str [105, 115, 95, 112, 105, 100]))), (1, 1, (.c (.int .i64 1))), (2, 1, (.c (.int .i64 1))), (3, 1, (.c (.bool true)))]),
 oP 12 (.build [(.str []), (.int .i64 0), (.int .i64 0), (.bool false)] [(0, 1, (.c (.str [105, 115, 95, 114, 101, 102, 101, 114, 101, 110, 99, 101]))), (1, 1, (.c (.int .i64 1))), (2, 1, (.c (.int .i64 1))), (3, 1, (.c (.bool true)))]),
 oP 13 (.build [(.str []), (.int .i64 0), (.int .i64 0), (.bool false)] [(0, 1, (.c (.str [105, 115, 95, 116, 117, 112, 108, 101]))), (1, 1, (.c (.int .i64 1))), (2, 1, (.c (.int .i64 1))), (3, 1, (.c (.bool true)))]),
 oP 14 (.build [(.str []), (.int .i64 0), (.int .i64 0), (.bool false)] [(0, 1, (.c (.str [110, 111, 100, 101]))), (1, 1, (.c (.int .i64 1))), (2, 1, (.c (.int .i64 1))), (3, 1, (.c (.bool true)))]),
 oP 15 (.build [(.str []), (.int .i64 0), (.int .i64 0), (.bool false)] [(0, 1, (.c (.str [115, 101, 116, 101, 108, 101, 109, 101, 110, 116]))), (1, 1, (.c (.int .i64 3))), (2, 1, (.c (.int .i64 1))), (3, 1, (.c (.bool false)))]),
 oP 16 (.build [(.str []), (.int .i64 0), (.int .i64 0), (.bool false)] [(0, 1, (.c (.str [109, 97, 120]))), (1, 1, (.c (.int .i64 2))), (2, 1, (.c (.int .i64 1))), (3, 1, (.c (.bool false)))]),
 oP 17 (.build [(.str []), (.int .i64 0), (.int .i64 0), (.bool false)] [(0, 1, (.c (.str [109, 105, 110]))), (1, 1, (.c (.int .i64 2))), (2, 1, (.c (.int .i64 1))), (3, 1, (.c (.bool false)))]),
 oP 18 (.build [(.str []), (.int .i64 0), (.int .i64 0), (.bool false)] [(0, 1, (.c (.str [108, 105, 115, 116, 95, 116, 111, 95, 116, 117, 112, 108, 101]))), (1, 1, (.c (.int .i64 1))), (2, 1, (.c (.int .i64 1))), (3, 1, (.c (.bool false)))]),
 oP 19 (.build [(.str []), (.int .i64 0), (.int .i64 0), (.bool false)] [(0, 1, (.c (.str [116, 117, 112, 108, 101, 95, 116, 111, 95, 108, 105, 115, 116]))), (1, 1, (.c (.int .i64 1))), (2, 1, (.c (.int .i64 1))), (3, 1, (.c (.bool false)))]),
 oP 20 (.build [(.str []), (.int .i64 0), (.int .i64 0), (.bool false)] [(0, 1, (.c (.str [105, 110, 116, 101, 103, 101, 114, 95, 116, 111, 95, 108, 105, 115, 116]))), (1, 1, (.c (.int .i64 1))), (2, 1, (.c (.int .i64 1))), (3, 1, (.c (.bool false)))]),
 oP 21 (.build [(.str []), (.int .i64 0), (.int .i64 0), (.bool false)] [(0, 1, (.c (.str [108, 105, 115, 116, 95, 116, 111, 95, 105, 110, 116, 101, 103, 101, 114]))), (1, 1, (.c (.int .i64 1))), (2, 1, (.c (.int .i64 1))), (3, 1, (.c (.bool false)))]),
 oP 22 (.build [(.str []), (.int .i64 0), (.int .i64 0), (.bool false)] [(0, 1, (.c (.str [97, 116, 111, 109, 95, 116, 111, 95, 108, 105, 115, 116]))), (1, 1, (.c (.int .i64 1))), (2, 1, (.c (.int .i64 1))), (3, 1, (.c (.bool false)))]),
 oP 23 (.build [(.str []), (.int .i64 0), (.int .i64 0), (.bool false)] [(0, 1, (.c (.str [108, 105, 115, 116, 95, 116, 111, 95, 97, 116, 111, 109]))), (1, 1, (.c (.int .i64 1))), (2, 1, (.c (.int .i64 1))), (3, 1, (.c (.bool false)))]),
 oP 24 (.build [(.str []), (.int .i64 0), (.int .i64 0), (.bool false)] [(0, 1, (.c (.str [116, 104, 114, 111, 119]))), (1, 1, (.c (.int .i64 1))), (2, 1, (.c (.int .i64 2))), (3, 1, (.c (.bool false)))]),
 oP 25 (.build [(.str []), (.int .i64 0), (.int .i64 0), (.bool false)] [(0, 1, (.c (.str [101, 114, 114, 111, 114]))), (1, 1, (.c (.int .i64 1))), (2, 1, (.c (.int .i64 2))), (3, 1, (.c (.bool false)))]),
 oP 26 (.build [(.str []), (.int .i64 0), (.int .i64 0), (.bool false)] [(0, 1, (.c (.str [101, 120, 105, 116]))), (1, 1, (.c (.int .i64 1))), (2, 1, (.c (.int .i64 2))), (3, 1, (.c (.bool false)))]),
 oP 27 (.build [(.str []), (.int .i64 0), (.int .i64 0), (.bool false)] [(0, 1, (.c (.str [115, 101, 108, 102]))), (1, 1, (.c (.int .i64 0))), (2, 1, (.c (.int .i64 3))), (3, 1, (.c (.bool true)))]),
 oP 28 (.build [(.str []), (.int .i64 0), (.int .i64 0), (.bool false)] [(0, 1, (.c (.str [110, 111, 100, 101]))), (1, 1, (.c (.int .i64 0))), (2, 1, (.c (.int .i64 3))), (3, 1, (.c (.bool true)))]),
 oP 29 (.build [(.str []), (.int .i64 0), (.int .i64 0), (.bool false)] [(0, 1, (.c (.str [115, 112, 97, 119, 110]))), (1, 1, (.c (.int .i64 3))), (2, 1, (.c (.int .i64 4))), (3, 1, (.c (.bool false)))]),
 oP 30 (.build [(.str []), (.int .i64 0), (.int .i64 0), (.bool false)] [(0, 1, (.c (.str [115, 112, 97, 119, 110]))), (1, 1, (.c (.int .i64 4))), (2, 1, (.c (.int .i64 4))), (3, 1, (.c (.bool false)))]),
 oP 31 (.build [(.str []), (.int .i64 0), (.int .i64 0), (.bool false)] [(0, 1, (.c (.str [108, 105, 110, 107]))), (1, 1, (.c (.int .i64 1))), (2, 1, (.c (.int .i64 4))), (3, 1, (.c (.bool false)))]),
 oP 32 (.build [(.str []), (.int .i64 0), (.int .i64 0), (.bool false)] [(0, 1, (.c (.str [117, 110, 108, 105, 110, 107]))), (1, 1, (.c (.int .i64 1))), (2, 1, (.c (.int .i64 4))), (3, 1, (.c (.bool false)))]),
 oP 33 (.build [(.str []), (.int .i64 0), (.int .i64 0), (.bool false)] [(0, 1, (.c (.str [109, 111, 110, 105, 116, 111, 114]))), (1, 1, (.c (.int .i64 2))), (2, 1, (.c (.int .i64 4))), (3, 1, (.c (.bool false)))]),
 oP 34 (.build [(.str []), (.int .i64 0), (.int .i64 0), (.bool false)] [(0, 1, (.c (.str [100, 101, 109, 111, 110, 105, 116, 111, 114]))), (1, 1, (.c (.int .i64 1))), (2, 1, (.c (.int .i64 4))), (3, 1, (.c (.bool false)))]),
 oP 35 (.build [(.str []), (.int .i64 0), (.int .i64 0), (.bool false)] [(0, 1, (.c (.str [101, 120, 105, 116]))), (1, 1, (.c (.int .i64 2))), (2, 1, (.c (.int .i64 4))), (3, 1, (.c (.bool false)))]),
 oP 36 (.build [(.str []), (.int .i64 0), (.int .i64 0), (.bool false)] [(0, 1, (.c (.str [112, 114, 111, 99, 101, 115, 115, 95, 102, 108, 97, 103]))), (1, 1, (.c (.int .i64 2))), (2, 1, (.c (.int .i64 4))), (3, 1, (.c (.bool false)))]),
 oP 37 (.build [(.str []), (.int .i64 0), (.int .i64 0), (.bool false)] [(0, 1, (.c (.str [114, 101, 103, 105, 115, 116, 101, 114]))), (1, 1, (.c (.int .i64 2))), (2, 1, (.c (.int .i64 4))), (3, 1, (.c (.bool false)))]),
 oP 38 (.build [(.str []), (.int .i64 0), (.int .i64 0), (.bool false)] [(0, 1, (.c (.str [117, 110, 114, 101, 103, 105, 115, 116, 101, 114]))), (1, 1, (.c (.int .i64 1))), (2, 1, (.c (.int .i64 4))), (3, 1, (.c (.bool false)))]),
 oP 39 (.build [(.str []), (.int .i64 0), (.int .i64 0), (.bool false)] [(0, 1, (.c (.str [119, 104, 101, 114, 101, 105, 115]))), (1, 1, (.c (.int .i64 1))), (2, 1, (.c (.int .i64 4))), (3, 1, (.c (.bool false)))]),
 oP 40 (.build [(.str []), (.int .i64 0), (.int .i64 0), (.bool false)] [(0, 1, (.c (.str [109, 111, 110, 105, 116, 111, 114, 95, 110, 111, 100, 101]))), (1, 1, (.c (.int .i64 2))), (2, 1, (.c (.int .i64 4))), (3, 1, (.c (.bool false)))]),
 oP 41 (.build [(.str []), (.int .i64 0), (.int .i64 0), (.bool false)] [(0, 1, (.c (.str [110, 111, 100, 101, 115]))), (1, 1, (.c (.int .i64 0))), (2, 1, (.c (.int .i64 4))), (3, 1, (.c (.bool false)))]),
 oP 42 (.build [(.str []), (.int .i64 0), (.int .i64 0), (.bool false)] [(0, 1, (.c (.str [109, 97, 107, 101, 95, 114, 101, 102]))), (1, 1, (.c (.int .i64 0))), (2, 1, (.c (.int .i64 4))), (3, 1, (.c (.bool false)))]),
 oP 43 (.build [(.str []), (.int .i64 0), (.int .i64 0), (.bool false)] [(0, 1, (.c (.str [100, 105, 115, 112, 108, 97, 121]))), (1, 1, (.c (.int .i64 1))), (2, 1, (.c (.int .i64 4))), (3, 1, (.c (.bool false)))]),
 oP 44 (.lit true 4 43 [(.str []), (.int .i64 0), (.int .i64 0), (.bool false), (.str []), (.int .i64 0), (.int .i64 0), (.bool false), (.str []), (.int .i64 0), (.int .i64 0), (.bool false), (.str []), (.int .i64 0), (.int .i64 0), (.bool false), (.str []), (.int .i64 0), (.int .i64 0), (.bool false), (.str []), (.int .i64 0), (.int .i64 0), (.bool false), (.str []), (.int .i64 0), (.int .i64 0), (.bool false), (.str []), (.int .i64 0), (.int .i64 0), (.bool false), (.str []), (.int .i64 0), (.int .i64 0), (.bool false), (.str []), (.int .i64 0), (.int .i64 0), (.bool false), (.str []), (.int .i64 0), (.int .i64 0), (.bool false), (.str []), (.int .i64 0), (.int .i64 0), (.bool false), (.str []), (.int .i64 0), (.int .i64 0), (.bool false), (.str []), (.int .i64 0), (.int .i64 0), (.bool false), (.str []), (.int .i64 0), (.int .i64 0), (.bool false), (.str []), (.int .i64 0), (.int .i64 0), (.bool false), (.str []), (.int .i64 0), (.int .i64 0), (.bool false), (.str []), (.int .i64 0), (.int .i64 0), (.bool false), (.str []), (.int .i64 0), (.int .i64 0), (.bool false), (.str []), (.int .i64 0), (.int .i64 0), (.bool false), (.str []), (.int .i64 0), (.int .i64 0), (.bool false), (.str []), (.int .i64 0), (.int .i64 0), (.bool false), (.str []), (.int .i64 0), (.int .i64 0), (.bool false), (.str []), (.int .i64 0), (.int .i64 0), (.bool false), (.str []), (.int .i64 0), (.int .i64 0), (.bool false), (.str []), (.int .i64 0), (.int .i64 0), (.bool false), (.str []), (.int .i64 0), (.int .i64 0), (.bool false), (.str []), (.int .i64 0), (.int .i64 0), (.bool false), (.str []), (.int .i64 0), (.int .i64 0), (.bool false), (.str []), (.int .i64 0), (.int .i64 0), (.bool false), (.str []), (.int .i64 0), (.int .i64 0), (.bool false), (.str []), (.int .i64 0), (.int .i64 0), (.bool false), (.str []), (.int .i64 0), (.int .i64 0), (.bool false), (.str []), (.int .i64 0), (.int .i64 0), (.bool false), (.str []), (.int .i64 0), (.int .i64 0), (.bool false), (.str []), (.int .i64 0), (.int .i64 0), (.bool false), (.str []), (.int .i64 0), (.int .i64 0), (.bool false), (.str []), (.int .i64 0), (.int .i64 0), (.bool false), (.str []), (.int .i64 0), (.int .i64 0), (.bool false), (.str []), (.int .i64 0), (.int .i64 0), (.bool false), (.str []), (.int .i64 0), (.int .i64 0), (.bool false), (.str []), (.int .i64 0), (.int .i64 0), (.bool false), (.str []), (.int .i64 0), (.int .i64 0), (.bool false)] [(0, 4, (.t 1)), (4, 4, (.t 2)), (8, 4, (.t 3)), (12, 4, (.t 4)), (16, 4, (.t 5)), (20, 4, (.t 6)), (24, 4, (.t 7)), (28, 4, (.t 8)), (32, 4, (.t 9)), (36, 4, (.t 10)), (40, 4, (.t 11)), (44, 4, (.t 12)), (48, 4, (.t 13)), (52, 4, (.t 14)), (56, 4, (.t 15)), (60, 4, (.t 16)), (64, 4, (.t 17)), (68, 4, (.t 18)), (72, 4, (.t 19)), (76, 4, (.t 20)), (80, 4, (.t 21)), (84, 4, (.t 22)), (88, 4, (.t 23)), (92, 4, (.t 24)), (96, 4, (.t 25)), (100, 4, (.t 26)), (104, 4, (.t 27)), (108, 4, (.t 28)), (112, 4, (.t 29)), (116, 4, (.t 30)), (120, 4, (.t 31)), (124, 4, (.t 32)), (128, 4, (.t 33)), (132, 4, (.t 34)), (136, 4, (.t 35)), (140, 4, (.t 36)), (144, 4, (.t 37)), (148, 4, (.t 38)), (152, 4, (.t 39)), (156, 4, (.t 40)), (160, 4, (.t 41)), (164, 4, (.t 42)), (168, 4, (.t 43))]),
 mV 0 44]
def a30 : AFunc := ⟨[.tmp 0], (.seq (.ops a30_0) (.seq (.ops a30_1) .ret))⟩
def a31_0 : List AOper := [
 oP 2 (.alloc [(.int .i64 0), (.int .i64 0), (.str []), (.int .u32 0), .nils, .nils])]
def a31_1 : List AOper := [
 mV 3 0,
 oP 4 (.build [(.int .i64 0), (.int .i64 0), (.str []), (.int .u32 0), .nils, .nils] [(0, 1, (.c (.int .i64 2))), (2, 1, (.t 3))]),
 oN (.store 6 (.t 2) (.t 4))]
def a31 : AFunc := ⟨[.cell 2 true 6], (.seq (.ops a31_0) (.seq (.ops a31_1) .ret))⟩
def a32_0 : List AOper := [
 oP 4 (.box false 6 (.t 1))]
def a32_1 : List AOper := [
 mV 13 0,
 oP 14 (.nilCheck (.t 13)),
 oP 15 (.fieldAddr 2 (.t 14)),
 oP 16 (.load false 1 (.t 15)),
 oP 17 (.eq true .slice (.t 16) (.c .nils))]
def a32_2 : List AOper := [
 mV 18 0,
 oP 19 (.nilCheck (.t 18)),
 oP 20 (.fieldAddr 0 (.t 19)),
 oP 21 (.load false 1 (.t 20)),
 mV 6 21]
def a32_3 : List AOper := [
 mV 22 0,
 oP 23 (.nilCheck (.t 22)),
 oP 24 (.fieldAddr 0 (.t 23)),
 oP 25 (.load false 1 (.t 24)),
 oP 26 (.bin .add (.t 25) (.c (.int .i64 1))),
 oP 27 (.nilCheck (.t 22)),
 oP 28 (.fieldAddr 0 (.t 27)),
 oN (.store 1 (.t 28) (.t 26))]
def a32_4 : List AOper := [
 mV 29 0,
 mV 30 0,
 oP 31 (.nilCheck (.t 30)),
 oP 32 (.fieldAddr 1 (.t 31)),
 oP 33 (.load false 1 (.t 32)),
 mV 34 2,
 oP 35 (.minmax true (.t 33) (.t 34)),
 oP 36 (.nilCheck (.t 29)),
 oP 37 (.fieldAddr 1 (.t 36)),
 oN (.store 1 (.t 37) (.t 35))]
def a32_5 : List AOper := [
 mV 39 6,
 oP 40 (.bin .geq (.t 39) (.c (.int .i64 4096))),
 mV 38 40]
def a32_6 : List AOper := [
 mV 41 0,
 mV 42 6,
 oP 43 (.call 48 [(.t 42), (.c (.int .i64 5))]),
 oP 44 (.nilCheck (.t 41)),
 oP 45 (.fieldAddr 2 (.t 44)),
 oN (.store 1 (.t 45) (.t 43))]
def a32_7 : List AOper := [
 mV 47 2,
 oP 48 (.bin .gtr (.t 47) (.c (.int .i64 256))),
 mV 46 48]
def a32_8 : List AOper := [
 mV 49 0,
 mV 50 6,
 oP 51 (.call 48 [(.t 50), (.c (.int .i64 9))]),
 oP 52 (.nilCheck (.t 49)),
 oP 53 (.fieldAddr 2 (.t 52)),
 oN (.store 1 (.t 53) (.t 51))]
def a32_9 : List AOper := [
 oP 55 (.load true 6 (.t 4)),
 oP 56 (.call 49 [(.t 55)]),
 oP 57 (.un .not (.t 56)),
 mV 54 57]
def a32_10 : List AOper := [
 mV 58 0,
 mV 59 6,
 oP 60 (.call 48 [(.t 59), (.c (.int .i64 40))]),
 oP 61 (.nilCheck (.t 58)),
 oP 62 (.fieldAddr 2 (.t 61)),
 oN (.store 1 (.t 62) (.t 60))]
def a32_11 : List AOper := [
 oP 64 (.fieldAddr 0 (.t 4)),
 oP 65 (.load false 1 (.t 64)),
 oP 66 (.bin .eql (.t 65) (.c (.int .i64 1))),
 mV 67 66,
 oG 68 (.fieldAddr 1 (.t 4)) 67 true,
 oG 69 (.load false 1 (.t 68)) 67 true,
 oG 70 (.bin .lss (.t 69) (.c (.int .i64 (-576460752303423488)))) 67 true,
 oG 71 (.mv (.t 70)) 67 true,
 oG 72 (.fieldAddr 1 (.t 4)) 71 false,
 oG 73 (.load false 1 (.t 72)) 71 false,
 oG 74 (.bin .gtr (.t 73) (.c (.int .i64 576460752303423487))) 71 false,
 oG 75 (.pick (.t 71) (.c (.bool true)) (.t 74)) 67 true,
 oP 76 (.pick (.t 67) (.t 75) (.c (.bool false))),
 mV 63 76]
def a32_12 : List AOper := [
 mV 77 0,
 mV 78 6,
 oP 79 (.call 48 [(.t 78), (.c (.int .i64 2))]),
 oP 80 (.nilCheck (.t 77)),
 oP 81 (.fieldAddr 2 (.t 80)),
 oN (.store 1 (.t 81) (.t 79))]
def a32_13 : List AOper := [
 oP 83 (.fieldAddr 0 (.t 4)),
 oP 84 (.load false 1 (.t 83)),
 oP 85 (.bin .eql (.t 84) (.c (.int .i64 2))),
 mV 82 85]
def a32_14 : List AOper := [
 oP 87 (.fieldAddr 2 (.t 4)),
 oP 88 (.load false 1 (.t 87)),
 oP 89 (.call 50 [(.t 88)]),
 mV 86 89,
 oP 90 (.extract (.t 86) 0),
 oP 91 (.extract (.t 86) 1),
 mV 7 90,
 mV 8 91]
def a32_15 : List AOper := [
 mV 92 8,
 oP 93 (.eq true .slice (.t 92) (.c .nils))]
def a32_16 : List AOper := [
 mV 94 0,
 mV 95 6,
 mV 96 8,
 oP 97 (.call 51 [(.t 95), (.t 96)]),
 oP 98 (.nilCheck (.t 94)),
 oP 99 (.fieldAddr 2 (.t 98)),
 oN (.store 1 (.t 99) (.t 97))]
def a32_17 : List AOper := [
 oP 101 (.fieldAddr 0 (.t 4)),
 oP 102 (.load false 1 (.t 101)),
 oP 103 (.bin .eql (.t 102) (.c (.int .i64 3))),
 mV 104 103,
 oG 105 (.fieldAddr 0 (.t 4)) 104 false,
 oG 106 (.load false 1 (.t 105)) 104 false,
 oG 107 (.bin .eql (.t 106) (.c (.int .i64 4))) 104 false,
 oP 108 (.pick (.t 104) (.c (.bool true)) (.t 107)),
 mV 100 108]
def a32_18 : List AOper := [
 oP 110 (.fieldAddr 2 (.t 4)),
 oP 111 (.load false 1 (.t 110)),
 oP 112 (.call 52 [(.t 111)]),
 mV 109 112,
 oP 113 (.extract (.t 109) 0),
 oP 114 (.extract (.t 109) 1),
 oP 115 (.extract (.t 109) 2),
 mV 9 113,
 mV 10 114,
 mV 11 115]
def a32_19 : List AOper := [
 mV 116 11,
 oP 117 (.eq true .slice (.t 116) (.c .nils))]
def a32_20 : List AOper := [
 mV 118 0,
 mV 119 6,
 mV 120 11,
 oP 121 (.call 51 [(.t 119), (.t 120)]),
 oP 122 (.nilCheck (.t 118)),
 oP 123 (.fieldAddr 2 (.t 122)),
 oN (.store 1 (.t 123) (.t 121))]
def a32_21 : List AOper := [
 oP 12 (.mv (.c (.int .i64 0)))]
def a32_22 : List AOper := [
 mV 124 12,
 oP 125 (.fieldAddr 5 (.t 4)),
 oP 126 (.load false 1 (.t 125)),
 oP 127 (.len false (.t 126)),
 oP 128 (.bin .lss (.t 124) (.t 127)),
 mV 129 128,
 oG 130 (.mv (.t 0)) 129 true,
 oG 131 (.nilCheck (.t 130)) 129 true,
 oG 132 (.fieldAddr 2 (.t 131)) 129 true,
 oG 133 (.load false 1 (.t 132)) 129 true,
 oG 134 (.eq false .slice (.t 133) (.c .nils)) 129 true,
 oP 135 (.pick (.t 129) (.t 134) (.c (.bool false)))]
def a32_23 : List AOper := [
 mV 138 0,
 oP 139 (.fieldAddr 5 (.t 4)),
 oP 140 (.load false 1 (.t 139)),
 mV 141 12,
 oP 142 (.idxAddr 6 (.t 140) (.t 141)),
 oP 143 (.load true 6 (.t 142)),
 mV 144 2,
 oP 145 (.bin .add (.t 144) (.c (.int .i64 1))),
 oP 146 (.call 32 [(.t 138), (.t 143), (.t 145)])]
def a32_24 : List AOper := [
 mV 136 12,
 oP 137 (.bin .add (.t 136) (.c (.int .i64 1))),
 mV 12 137]
def a32_l25 : AC := (.seq (.seq (.ops a32_22) (.cond (.t 135) .skip (.exit 1))) (.seq (.block 2 (.ops a32_23)) (.ops a32_24)))
def a32 : AFunc := ⟨[], (.seq (.ops a32_0) (.seq (.seq (.ops a32_1) (.cond (.t 17) .ret .skip)) (.seq (.ops a32_2) (.seq (.ops a32_3) (.seq (.ops a32_4) (.seq (.block 0 (.seq (.ops a32_5) (.cond (.t 38) (.ops a32_6) (.seq (.ops a32_7) (.cond (.t 46) (.ops a32_8) (.seq (.ops a32_9) (.cond (.t 54) (.ops a32_10) (.seq (.ops a32_11) (.cond (.t 63) (.ops a32_12) (.seq (.ops a32_13) (.cond (.t 82) (.seq (.ops a32_14) (.seq (.ops a32_15) (.cond (.t 93) (.ops a32_16) .skip))) (.seq (.ops a32_17) (.cond (.t 100) (.seq (.ops a32_18) (.seq (.ops a32_19) (.cond (.t 117) (.ops a32_20) .skip))) .skip))))))))))))) (.seq (.ops a32_21) (.block 1 (.loop a32_l25)))))))))⟩
def a33_0 : List AOper := [
 oP 2 (.box false 6 (.t 0)),
 oP 3 (.box false 6 (.t 1)),
 oP 4 (.mv (.c (.bool false)))]
def a33_1 : List AOper := [
 oP 5 (.load true 6 (.t 2)),
 oP 6 (.call 36 [(.t 5)]),
 oP 7 (.eq false (.iface true) (.t 6) (.c .nili)),
 mV 8 7,
 oG 9 (.load true 6 (.t 3)) 8 true,
 oG 10 (.call 36 [(.t 9)]) 8 true,
 oG 11 (.eq false (.iface true) (.t 10) (.c .nili)) 8 true,
 oP 12 (.pick (.t 8) (.t 11) (.c (.bool false))),
 mV 13 12,
 oG 14 (.load true 6 (.t 2)) 13 true,
 oG 15 (.load true 6 (.t 3)) 13 true,
 oG 16 (.call 53 [(.t 14), (.t 15)]) 13 true,
 oG 17 (.bin .eql (.t 16) (.c (.int .i64 0))) 13 true,
 oP 18 (.pick (.t 13) (.t 17) (.c (.bool false))),
 mV 4 18]
def a33 : AFunc := ⟨[.tmp 4], (.seq (.ops a33_0) (.seq (.ops a33_1) .ret))⟩
def a34_0 : List AOper := [
 oP 2 (.alloc [(.int .i64 0), (.int .i64 0), (.str []), (.int .u32 0), .nils, .nils])]
def a34_1 : List AOper := [
 mV 3 0,
 oP 4 (.build [(.int .i64 0), (.int .i64 0), (.str []), (.int .u32 0), .nils, .nils] [(0, 1, (.c (.int .i64 2))), (2, 1, (.t 3))]),
 oN (.store 6 (.t 2) (.t 4))]
def a34 : AFunc := ⟨[.cell 2 true 6], (.seq (.ops a34_0) (.seq (.ops a34_1) .ret))⟩
def a35_0 : List AOper := [
 oP 4 (.mv (.c .nili))]
def a35_1 : List AOper := [
 mV 5 0,
 mV 6 1,
 oP 7 (.build [(.str []), (.int .i64 0), (.int .i64 0), .nili] [(0, 1, (.c (.str [98, 105, 102]))), (1, 1, (.t 5)), (2, 1, (.t 6))]),
 oP 8 (.box true 4 (.t 7)),
 oP 9 (.mkIface 69 (.t 8)),
 mV 4 9]
def a35 : AFunc := ⟨[.tmp 4], (.seq (.ops a35_0) (.seq (.ops a35_1) .ret))⟩
def a36_0 : List AOper := [
 oP 1 (.box false 6 (.t 0)),
 oP 2 (.mv (.c .nili))]
def a36_1 : List AOper := [
 oP 7 (.load true 6 (.t 1)),
 oP 8 (.call 54 [(.t 7)]),
 mV 6 8,
 oP 9 (.extract (.t 6) 0),
 oP 10 (.extract (.t 6) 1),
 oP 11 (.extract (.t 6) 2),
 mV 3 9,
 mV 4 10,
 mV 5 11]
def a36_2 : List AOper := [
 mV 12 5,
 mV 2 12]
def a36 : AFunc := ⟨[.tmp 2], (.seq (.ops a36_0) (.seq (.ops a36_1) (.seq (.ops a36_2) .ret)))⟩
def a38_0 : List AOper := [
 oP 4 (.alloc [(.int .i64 0), (.int .i64 0), (.str []), (.int .u32 0), .nils, .nils]),
 oP 5 (.mv (.c (.int .i64 0)))]
def a38_1 : List AOper := [
 mV 7 0]
def a38_2 : List AOper := [
 oP 9 (.bin .eql (.t 7) (.c (.str [43]))),
 mV 8 9]
def a38_3 : List AOper := [
 oP 10 (.bin .eql (.t 7) (.c (.str [45]))),
 mV 8 10]
def a38_4 : List AOper := [
 oP 11 (.bin .eql (.t 7) (.c (.str [42]))),
 mV 8 11]
def a38_5 : List AOper := [
 oP 12 (.bin .eql (.t 7) (.c (.str [100, 105, 118]))),
 mV 8 12]
def a38_6 : List AOper := [
 oP 13 (.bin .eql (.t 7) (.c (.str [114, 101, 109]))),
 mV 8 13]
def a38_7 : List AOper := [
 mV 14 1,
 oP 15 (.len false (.t 14)),
 oP 16 (.bin .eql (.t 15) (.c (.int .i64 1)))]
def a38_8 : List AOper := [
 oP 17 (.call 59 [(.c (.int .i64 0))]),
 mV 18 1,
 oP 19 (.idxAddr 6 (.t 18) (.c (.int .i64 0))),
 oP 20 (.load true 6 (.t 19)),
 oP 21 (.lit true 6 2 [(.int .i64 0), (.int .i64 0), (.str []), (.int .u32 0), .nils, .nils, (.int .i64 0), (.int .i64 0), (.str []), (.int .u32 0), .nils, .nils] [(0, 6, (.t 17)), (6, 6, (.t 20))]),
 mV 1 21]
def a38_8b : List Nat := [0, 0, 2, 6, 15, 31]
def a38_9 : List AOper := [
 mV 22 0,
 mV 23 1,
 oP 24 (.idxAddr 6 (.t 23) (.c (.int .i64 0))),
 oP 25 (.load true 6 (.t 24)),
 mV 26 1,
 oP 27 (.idxAddr 6 (.t 26) (.c (.int .i64 1))),
 oP 28 (.load true 6 (.t 27)),
 oP 29 (.call 60 [(.t 22), (.t 25), (.t 28)]),
 oP 30 (.extract (.t 29) 0),
 oP 31 (.extract (.t 29) 1),
 oN (.store 6 (.t 4) (.t 30)),
 mV 5 31]
def a38_9b : List Nat := [0, 0, 2, 6, 0, 16, 48, 127, 255, 255, 1023, 2047]
def a38_10 : List AOper := [
 oP 33 (.bin .eql (.t 7) (.c (.str [97, 110, 100]))),
 mV 32 33]
def a38_11 : List AOper := [
 oP 34 (.bin .eql (.t 7) (.c (.str [111, 114]))),
 mV 32 34]
def a38_12 : List AOper := [
 oP 35 (.bin .eql (.t 7) (.c (.str [120, 111, 114]))),
 mV 32 35]
def a38_13 : List AOper := [
 mV 36 0,
 mV 37 1,
 oP 38 (.idxAddr 6 (.t 37) (.c (.int .i64 0))),
 oP 39 (.load true 6 (.t 38)),
 mV 40 1,
 oP 41 (.idxAddr 6 (.t 40) (.c (.int .i64 1))),
 oP 42 (.load true 6 (.t 41)),
 oP 43 (.call 61 [(.t 36), (.t 39), (.t 42)]),
 oP 44 (.extract (.t 43) 0),
 oP 45 (.extract (.t 43) 1),
 oN (.store 6 (.t 4) (.t 44)),
 mV 5 45]
def a38_13b : List Nat := [0, 0, 2, 6, 0, 16, 48, 127, 255, 255, 1023, 2047]
def a38_14 : List AOper := [
 oP 47 (.bin .eql (.t 7) (.c (.str [110, 111, 116]))),
 mV 46 47]
def a38_15 : List AOper := [
 mV 48 1,
 oP 49 (.idxAddr 6 (.t 48) (.c (.int .i64 0))),
 oP 50 (.load true 6 (.t 49)),
 oP 51 (.call 34 [(.c (.str [116, 114, 117, 101]))]),
 oP 52 (.call 61 [(.c (.str [120, 111, 114])), (.t 50), (.t 51)]),
 oP 53 (.extract (.t 52) 0),
 oP 54 (.extract (.t 52) 1),
 oN (.store 6 (.t 4) (.t 53)),
 mV 5 54]
def a38_15b : List Nat := [0, 1, 3, 0, 15, 31, 31, 127, 255]
def a38_16 : List AOper := [
 oP 56 (.bin .eql (.t 7) (.c (.str [61, 61]))),
 mV 55 56]
def a38_17 : List AOper := [
 oP 57 (.bin .eql (.t 7) (.c (.str [47, 61]))),
 mV 55 57]
def a38_18 : List AOper := [
 oP 58 (.bin .eql (.t 7) (.c (.str [61, 60]))),
 mV 55 58]
def a38_19 : List AOper := [
 oP 59 (.bin .eql (.t 7) (.c (.str [60]))),
 mV 55 59]
def a38_20 : List AOper := [
 oP 60 (.bin .eql (.t 7) (.c (.str [62, 61]))),
 mV 55 60]
def a38_21 : List AOper := [
 oP 61 (.bin .eql (.t 7) (.c (.str [62]))),
 mV 55 61]
def a38_22 : List AOper := [
 oP 62 (.bin .eql (.t 7) (.c (.str [61, 58, 61]))),
 mV 55 62]
def a38_23 : List AOper := [
 oP 63 (.bin .eql (.t 7) (.c (.str [61, 47, 61]))),
 mV 55 63]
def a38_24 : List AOper := [
 mV 64 0,
 mV 65 1,
 oP 66 (.idxAddr 6 (.t 65) (.c (.int .i64 0))),
 oP 67 (.load true 6 (.t 66)),
 mV 68 1,
 oP 69 (.idxAddr 6 (.t 68) (.c (.int .i64 1))),
 oP 70 (.load true 6 (.t 69)),
 oP 71 (.call 64 [(.t 67), (.t 70)]),
 oP 72 (.call 63 [(.t 64), (.t 71)]),
 oP 73 (.call 62 [(.t 72)]),
 oN (.store 6 (.t 4) (.t 73)),
 oP 5 (.mv (.c (.int .i64 0)))]
def a38_24b : List Nat := [0, 0, 2, 6, 0, 16, 48, 126, 255, 511, 1023, 2047]
def a38_25 : List AOper := [
 oP 75 (.bin .eql (.t 7) (.c (.str [109, 97, 120]))),
 mV 74 75]
def a38_26 : List AOper := [
 oP 76 (.bin .eql (.t 7) (.c (.str [109, 105, 110]))),
 mV 74 76]
def a38_27 : List AOper := [
 mV 77 1,
 oP 78 (.idxAddr 6 (.t 77) (.c (.int .i64 0))),
 oP 79 (.load true 6 (.t 78)),
 mV 80 1,
 oP 81 (.idxAddr 6 (.t 80) (.c (.int .i64 1))),
 oP 82 (.load true 6 (.t 81)),
 oP 83 (.call 64 [(.t 79), (.t 82)]),
 mV 6 83]
def a38_27b : List Nat := [0, 1, 3, 0, 8, 24, 63, 127]
def a38_28 : List AOper := [
 mV 84 0,
 oP 85 (.bin .eql (.t 84) (.c (.str [109, 97, 120]))),
 mV 86 85,
 oG 87 (.mv (.t 6)) 86 true,
 oG 88 (.bin .lss (.t 87) (.c (.int .i64 0))) 86 true,
 oP 89 (.pick (.t 86) (.t 88) (.c (.bool false))),
 mV 90 89,
 oG 91 (.mv (.t 0)) 90 false,
 oG 92 (.bin .eql (.t 91) (.c (.str [109, 105, 110]))) 90 false,
 oG 93 (.mv (.t 92)) 90 false,
 oG 94 (.mv (.t 6)) 93 true,
 oG 95 (.bin .gtr (.t 94) (.c (.int .i64 0))) 93 true,
 oG 96 (.pick (.t 93) (.t 95) (.c (.bool false))) 90 false,
 oP 97 (.pick (.t 90) (.c (.bool true)) (.t 96))]
def a38_29 : List AOper := [
 mV 98 1,
 oP 99 (.idxAddr 6 (.t 98) (.c (.int .i64 1))),
 oP 100 (.load true 6 (.t 99)),
 oN (.store 6 (.t 4) (.t 100)),
 oP 5 (.mv (.c (.int .i64 0)))]
def a38_30 : List AOper := [
 mV 101 1,
 oP 102 (.idxAddr 6 (.t 101) (.c (.int .i64 0))),
 oP 103 (.load true 6 (.t 102)),
 oN (.store 6 (.t 4) (.t 103)),
 oP 5 (.mv (.c (.int .i64 0)))]
def a38_31 : List AOper := [
 oP 105 (.bin .eql (.t 7) (.c (.str [43, 43]))),
 mV 104 105]
def a38_32 : List AOper := [
 oP 106 (.bin .eql (.t 7) (.c (.str [45, 45]))),
 mV 104 106]
def a38_33 : List AOper := [
 mV 107 0,
 mV 108 1,
 oP 109 (.idxAddr 6 (.t 108) (.c (.int .i64 0))),
 oP 110 (.load true 6 (.t 109)),
 mV 111 1,
 oP 112 (.idxAddr 6 (.t 111) (.c (.int .i64 1))),
 oP 113 (.load true 6 (.t 112)),
 oP 114 (.call 65 [(.t 107), (.t 110), (.t 113)]),
 oP 115 (.extract (.t 114) 0),
 oP 116 (.extract (.t 114) 1),
 oN (.store 6 (.t 4) (.t 115)),
 mV 5 116]
def a38_33b : List Nat := [0, 0, 2, 6, 0, 16, 48, 127, 255, 255, 1023, 2047]
def a38_34 : List AOper := [
 mV 117 0,
 oP 118 (.call 66 [(.t 117), (.c (.str [105, 115, 95]))])]
def a38_35 : List AOper := [
 mV 119 0,
 mV 120 1,
 oP 121 (.idxAddr 6 (.t 120) (.c (.int .i64 0))),
 oP 122 (.load true 6 (.t 121)),
 oP 123 (.call 67 [(.t 119), (.t 122)]),
 oP 124 (.call 62 [(.t 123)]),
 oN (.store 6 (.t 4) (.t 124)),
 oP 5 (.mv (.c (.int .i64 0)))]
def a38_36 : List AOper := [
 mV 125 0,
 mV 126 1,
 oP 127 (.call 68 [(.t 125), (.t 126)]),
 oP 128 (.extract (.t 127) 0),
 oP 129 (.extract (.t 127) 1),
 oN (.store 6 (.t 4) (.t 128)),
 mV 5 129]
def a38 : AFunc := ⟨[.cell 4 true 6, .tmp 5], (.seq (.ops a38_0) (.seq (.seq (.ops a38_1) (.block 0 (.seq (.seq (.ops a38_2) (.cond (.t 8) .skip (.seq (.ops a38_3) (.cond (.t 8) .skip (.seq (.ops a38_4) (.cond (.t 8) .skip (.seq (.ops a38_5) (.cond (.t 8) .skip (.ops a38_6))))))))) (.cond (.t 8) (.seq (.seq (.ops a38_7) (.cond (.t 16) (.draw a38_8 a38_8b) .skip)) (.seq (.draw a38_9 a38_9b) .ret)) (.seq (.seq (.ops a38_10) (.cond (.t 32) .skip (.seq (.ops a38_11) (.cond (.t 32) .skip (.ops a38_12))))) (.cond (.t 32) (.seq (.draw a38_13 a38_13b) .ret) (.seq (.ops a38_14) (.cond (.t 46) (.seq (.draw a38_15 a38_15b) .ret) (.seq (.seq (.ops a38_16) (.cond (.t 55) .skip (.seq (.ops a38_17) (.cond (.t 55) .skip (.seq (.ops a38_18) (.cond (.t 55) .skip (.seq (.ops a38_19) (.cond (.t 55) .skip (.seq (.ops a38_20) (.cond (.t 55) .skip (.seq (.ops a38_21) (.cond (.t 55) .skip (.seq (.ops a38_22) (.cond (.t 55) .skip (.ops a38_23))))))))))))))) (.cond (.t 55) (.seq (.draw a38_24 a38_24b) .ret) (.seq (.seq (.ops a38_25) (.cond (.t 74) .skip (.ops a38_26))) (.cond (.t 74) (.seq (.draw a38_27 a38_27b) (.seq (.seq (.ops a38_28) (.cond (.t 97) (.seq (.ops a38_29) .ret) .skip)) (.seq (.ops a38_30) .ret))) (.seq (.seq (.ops a38_31) (.cond (.t 104) .skip (.ops a38_32))) (.cond (.t 104) (.seq (.draw a38_33 a38_33b) .ret) .skip)))))))))))))) (.seq (.seq (.ops a38_34) (.cond (.t 118) (.seq (.ops a38_35) .ret) .skip)) (.seq (.ops a38_36) .ret))))⟩
def a39_0 : List AOper := [
 oP 1 (.box false 6 (.t 0)),
 oP 2 (.alloc [(.int .i64 0), (.int .i64 0), (.str []), (.int .u32 0), .nils, .nils])]
def a39_1 : List AOper := [
 oP 6 (.fieldAddr 4 (.t 1)),
 oP 7 (.load false 1 (.t 6)),
 oP 8 (.call 69 [(.t 7)]),
 oP 9 (.fieldAddr 4 (.t 1)),
 oN (.store 1 (.t 9) (.t 8))]
def a39_2 : List AOper := [
 oP 3 (.mv (.c .nils))]
def a39_3 : List AOper := [
 oP 10 (.fieldAddr 5 (.t 1)),
 oP 11 (.load false 1 (.t 10)),
 oP 12 (.len false (.t 11)),
 oP 13 (.mv (.c (.int .i64 0)))]
def a39_4 : List AOper := [
 oP 14 (.bin .lss (.t 13) (.t 12))]
def a39_5 : List AOper := [
 oP 15 (.idxAddr 6 (.t 11) (.t 13)),
 oP 16 (.load true 6 (.t 15)),
 oP 5 (.alloc [(.int .i64 0), (.int .i64 0), (.str []), (.int .u32 0), .nils, .nils]),
 oN (.store 6 (.t 5) (.t 16))]
def a39_6 : List AOper := [
 mV 17 3,
 oP 18 (.load true 6 (.t 5)),
 oP 19 (.call 39 [(.t 18)]),
 oP 20 (.lit true 6 1 [(.int .i64 0), (.int .i64 0), (.str []), (.int .u32 0), .nils, .nils] [(0, 6, (.t 19))]),
 oP 21 (.append 6 88 (.t 17) (.t 20)),
 mV 3 21]
def a39_7 : List AOper := [
 oP 22 (.bin .add (.t 13) (.c (.int .i64 1))),
 mV 13 22]
def a39_l8 : AC := (.seq (.ops a39_4) (.seq (.cond (.t 14) .skip (.exit 0)) (.seq (.block 1 (.seq (.ops a39_5) (.ops a39_6))) (.ops a39_7))))
def a39_9 : List AOper := [
 mV 23 3,
 oP 24 (.fieldAddr 5 (.t 1)),
 oN (.store 1 (.t 24) (.t 23))]
def a39_10 : List AOper := [
 oP 25 (.load true 6 (.t 1)),
 oN (.store 6 (.t 2) (.t 25))]
def a39 : AFunc := ⟨[.cell 2 true 6], (.seq (.ops a39_0) (.seq (.ops a39_1) (.seq (.ops a39_2) (.seq (.seq (.ops a39_3) (.block 0 (.loop a39_l8))) (.seq (.ops a39_9) (.seq (.ops a39_10) .ret))))))⟩
def a41_0 : List AOper := [
 oP 3 (.box false 6 (.t 1)),
 oP 4 (.alloc [(.int .i64 0), (.int .i64 0), (.str []), (.int .u32 0), .nils, .nils])]
def a41_1 : List AOper := [
 mV 6 0,
 oP 7 (.len false (.t 6)),
 oP 8 (.bin .eql (.t 7) (.c (.int .i64 0)))]
def a41_2 : List AOper := [
 oP 9 (.load true 6 (.t 3)),
 oN (.store 6 (.t 4) (.t 9))]
def a41_3 : List AOper := [
 oP 10 (.lit true 6 0 [] []),
 mV 11 0,
 oP 12 (.append 6 88 (.t 10) (.t 11)),
 mV 5 12]
def a41_4 : List AOper := [
 oP 13 (.fieldAddr 0 (.t 3)),
 oP 14 (.load false 1 (.t 13)),
 oP 15 (.bin .eql (.t 14) (.c (.int .i64 7)))]
def a41_5 : List AOper := [
 mV 16 5,
 oP 17 (.fieldAddr 5 (.t 3)),
 oP 18 (.load false 1 (.t 17)),
 oP 19 (.append 6 88 (.t 16) (.t 18)),
 oP 20 (.build [(.int .i64 0), (.int .i64 0), (.str []), (.int .u32 0), .nils, .nils] [(0, 1, (.c (.int .i64 7))), (5, 1, (.t 19))]),
 oN (.store 6 (.t 4) (.t 20))]
def a41_6 : List AOper := [
 mV 21 5,
 oP 22 (.load true 6 (.t 3)),
 oP 23 (.lit true 6 1 [(.int .i64 0), (.int .i64 0), (.str []), (.int .u32 0), .nils, .nils] [(0, 6, (.t 22))]),
 oP 24 (.append 6 88 (.t 21) (.t 23)),
 oP 25 (.build [(.int .i64 0), (.int .i64 0), (.str []), (.int .u32 0), .nils, .nils] [(0, 1, (.c (.int .i64 7))), (5, 1, (.t 24))]),
 oN (.store 6 (.t 4) (.t 25))]
def a41 : AFunc := ⟨[.cell 4 true 6], (.seq (.ops a41_0) (.seq (.seq (.ops a41_1) (.cond (.t 8) (.seq (.ops a41_2) .ret) .skip)) (.seq (.ops a41_3) (.seq (.seq (.ops a41_4) (.cond (.t 15) (.seq (.ops a41_5) .ret) .skip)) (.seq (.ops a41_6) .ret)))))⟩
def a42_0 : List AOper := [
 oP 4 (.mv (.c .nils))]
def a42_1 : List AOper := [
 mV 5 0,
 mV 6 1,
 oP 7 (.call 73 [(.c (.str [98, 105, 102])), (.t 5), (.t 6)]),
 mV 4 7]
def a42 : AFunc := ⟨[.tmp 4], (.seq (.ops a42_0) (.seq (.ops a42_1) .ret))⟩
def a43_0 : List AOper := [
 oP 8 (.mv (.c .nils))]
def a43_1 : List AOper := [
 oP 9 (.mv (.c .nils))]
def a43_2 : List AOper := [
 mV 10 9,
 mV 11 0,
 mV 12 1,
 mV 13 2,
 oP 14 (.build [(.str []), (.int .i64 0), (.int .i64 0)] [(0, 1, (.t 11)), (1, 1, (.t 12)), (2, 1, (.t 13))]),
 oP 15 (.lit true 3 1 [(.str []), (.int .i64 0), (.int .i64 0)] [(0, 3, (.t 14))]),
 oP 16 (.append 3 32 (.t 10) (.t 15)),
 mV 9 16]
def a43_3 : List AOper := [
 mV 17 9,
 mV 18 3,
 oP 19 (.append 3 32 (.t 17) (.t 18)),
 mV 8 19]
def a43 : AFunc := ⟨[.tmp 8], (.seq (.ops a43_0) (.seq (.ops a43_1) (.seq (.ops a43_2) (.seq (.ops a43_3) .ret))))⟩
def a44_0 : List AOper := [
 oP 4 (.alloc [(.int .i64 0), (.int .i64 0), (.str []), (.int .u32 0), .nils, .nils]),
 oP 5 (.mv (.c (.int .i64 0)))]
def a44_1 : List AOper := [
 mV 6 0]
def a44_2 : List AOper := [
 oP 8 (.bin .eql (.t 6) (.c (.str [43]))),
 mV 7 8]
def a44_3 : List AOper := [
 oP 9 (.bin .eql (.t 6) (.c (.str [45]))),
 mV 7 9]
def a44_4 : List AOper := [
 oP 10 (.bin .eql (.t 6) (.c (.str [42]))),
 mV 7 10]
def a44_5 : List AOper := [
 oP 11 (.bin .eql (.t 6) (.c (.str [100, 105, 118]))),
 mV 7 11]
def a44_6 : List AOper := [
 oP 12 (.bin .eql (.t 6) (.c (.str [114, 101, 109]))),
 mV 7 12]
def a44_7 : List AOper := [
 mV 13 0,
 mV 14 1,
 oP 15 (.call 74 [(.t 13), (.t 14)]),
 oP 16 (.extract (.t 15) 0),
 oP 17 (.extract (.t 15) 1),
 oN (.store 6 (.t 4) (.t 16)),
 mV 5 17]
def a44_8 : List AOper := [
 oP 19 (.bin .eql (.t 6) (.c (.str [110, 111, 116]))),
 mV 18 19]
def a44_9 : List AOper := [
 oP 20 (.bin .eql (.t 6) (.c (.str [97, 110, 100]))),
 mV 18 20]
def a44_10 : List AOper := [
 oP 21 (.bin .eql (.t 6) (.c (.str [111, 114]))),
 mV 18 21]
def a44_11 : List AOper := [
 oP 22 (.bin .eql (.t 6) (.c (.str [120, 111, 114]))),
 mV 18 22]
def a44_12 : List AOper := [
 mV 23 0,
 mV 24 1,
 oP 25 (.call 75 [(.t 23), (.t 24)]),
 oP 26 (.extract (.t 25) 0),
 oP 27 (.extract (.t 25) 1),
 oN (.store 6 (.t 4) (.t 26)),
 mV 5 27]
def a44_13 : List AOper := [
 oP 29 (.bin .eql (.t 6) (.c (.str [43, 43]))),
 mV 28 29]
def a44_14 : List AOper := [
 oP 30 (.bin .eql (.t 6) (.c (.str [45, 45]))),
 mV 28 30]
def a44_15 : List AOper := [
 mV 31 0,
 mV 32 1,
 oP 33 (.idxAddr 6 (.t 32) (.c (.int .i64 0))),
 oP 34 (.load true 6 (.t 33)),
 mV 35 1,
 oP 36 (.idxAddr 6 (.t 35) (.c (.int .i64 1))),
 oP 37 (.load true 6 (.t 36)),
 oP 38 (.call 76 [(.t 31), (.t 34), (.t 37)]),
 oP 39 (.extract (.t 38) 0),
 oP 40 (.extract (.t 38) 1),
 oN (.store 6 (.t 4) (.t 39)),
 mV 5 40]
def a44_15b : List Nat := [0, 0, 2, 6, 0, 16, 48, 127, 255, 255, 1023, 2047]
def a44_16 : List AOper := [
 oP 42 (.bin .eql (.t 6) (.c (.str [61, 61]))),
 mV 41 42]
def a44_17 : List AOper := [
 oP 43 (.bin .eql (.t 6) (.c (.str [61, 58, 61]))),
 mV 41 43]
def a44_18 : List AOper := [
 mV 44 1,
 oP 45 (.idxAddr 6 (.t 44) (.c (.int .i64 0))),
 oP 46 (.load true 6 (.t 45)),
 mV 47 1,
 oP 48 (.idxAddr 6 (.t 47) (.c (.int .i64 1))),
 oP 49 (.load true 6 (.t 48)),
 oP 50 (.call 20 [(.t 46), (.t 49)]),
 oP 51 (.bin .eql (.t 50) (.c (.int .i64 0))),
 oP 52 (.call 77 [(.t 51)]),
 oN (.store 6 (.t 4) (.t 52)),
 oP 5 (.mv (.c (.int .i64 0)))]
def a44_18b : List Nat := [0, 1, 3, 0, 8, 24, 63, 127, 255, 511, 1023]
def a44_19 : List AOper := [
 oP 54 (.bin .eql (.t 6) (.c (.str [47, 61]))),
 mV 53 54]
def a44_20 : List AOper := [
 oP 55 (.bin .eql (.t 6) (.c (.str [61, 47, 61]))),
 mV 53 55]
def a44_21 : List AOper := [
 mV 56 1,
 oP 57 (.idxAddr 6 (.t 56) (.c (.int .i64 0))),
 oP 58 (.load true 6 (.t 57)),
 mV 59 1,
 oP 60 (.idxAddr 6 (.t 59) (.c (.int .i64 1))),
 oP 61 (.load true 6 (.t 60)),
 oP 62 (.call 20 [(.t 58), (.t 61)]),
 oP 63 (.bin .neq (.t 62) (.c (.int .i64 0))),
 oP 64 (.call 77 [(.t 63)]),
 oN (.store 6 (.t 4) (.t 64)),
 oP 5 (.mv (.c (.int .i64 0)))]
def a44_21b : List Nat := [0, 1, 3, 0, 8, 24, 63, 127, 255, 511, 1023]
def a44_22 : List AOper := [
 oP 66 (.bin .eql (.t 6) (.c (.str [61, 60]))),
 mV 65 66]
def a44_23 : List AOper := [
 mV 67 1,
 oP 68 (.idxAddr 6 (.t 67) (.c (.int .i64 0))),
 oP 69 (.load true 6 (.t 68)),
 mV 70 1,
 oP 71 (.idxAddr 6 (.t 70) (.c (.int .i64 1))),
 oP 72 (.load true 6 (.t 71)),
 oP 73 (.call 20 [(.t 69), (.t 72)]),
 oP 74 (.bin .leq (.t 73) (.c (.int .i64 0))),
 oP 75 (.call 77 [(.t 74)]),
 oN (.store 6 (.t 4) (.t 75)),
 oP 5 (.mv (.c (.int .i64 0)))]
def a44_23b : List Nat := [0, 1, 3, 0, 8, 24, 63, 127, 255, 511, 1023]
def a44_24 : List AOper := [
 oP 77 (.bin .eql (.t 6) (.c (.str [60]))),
 mV 76 77]
def a44_25 : List AOper := [
 mV 78 1,
 oP 79 (.idxAddr 6 (.t 78) (.c (.int .i64 0))),
 oP 80 (.load true 6 (.t 79)),
 mV 81 1,
 oP 82 (.idxAddr 6 (.t 81) (.c (.int .i64 1))),
 oP 83 (.load true 6 (.t 82)),
 oP 84 (.call 20 [(.t 80), (.t 83)]),
 oP 85 (.bin .lss (.t 84) (.c (.int .i64 0))),
 oP 86 (.call 77 [(.t 85)]),
 oN (.store 6 (.t 4) (.t 86)),
 oP 5 (.mv (.c (.int .i64 0)))]
def a44_25b : List Nat := [0, 1, 3, 0, 8, 24, 63, 127, 255, 511, 1023]
def a44_26 : List AOper := [
 oP 88 (.bin .eql (.t 6) (.c (.str [62, 61]))),
 mV 87 88]
def a44_27 : List AOper := [
 mV 89 1,
 oP 90 (.idxAddr 6 (.t 89) (.c (.int .i64 0))),
 oP 91 (.load true 6 (.t 90)),
 mV 92 1,
 oP 93 (.idxAddr 6 (.t 92) (.c (.int .i64 1))),
 oP 94 (.load true 6 (.t 93)),
 oP 95 (.call 20 [(.t 91), (.t 94)]),
 oP 96 (.bin .geq (.t 95) (.c (.int .i64 0))),
 oP 97 (.call 77 [(.t 96)]),
 oN (.store 6 (.t 4) (.t 97)),
 oP 5 (.mv (.c (.int .i64 0)))]
def a44_27b : List Nat := [0, 1, 3, 0, 8, 24, 63, 127, 255, 511, 1023]
def a44_28 : List AOper := [
 oP 99 (.bin .eql (.t 6) (.c (.str [62]))),
 mV 98 99]
def a44_29 : List AOper := [
 mV 100 1,
 oP 101 (.idxAddr 6 (.t 100) (.c (.int .i64 0))),
 oP 102 (.load true 6 (.t 101)),
 mV 103 1,
 oP 104 (.idxAddr 6 (.t 103) (.c (.int .i64 1))),
 oP 105 (.load true 6 (.t 104)),
 oP 106 (.call 20 [(.t 102), (.t 105)]),
 oP 107 (.bin .gtr (.t 106) (.c (.int .i64 0))),
 oP 108 (.call 77 [(.t 107)]),
 oN (.store 6 (.t 4) (.t 108)),
 oP 5 (.mv (.c (.int .i64 0)))]
def a44_29b : List Nat := [0, 1, 3, 0, 8, 24, 63, 127, 255, 511, 1023]
def a44_30 : List AOper := [
 oP 110 (.bin .eql (.t 6) (.c (.str [109, 97, 120]))),
 mV 109 110]
def a44_31 : List AOper := [
 mV 111 1,
 oP 112 (.idxAddr 6 (.t 111) (.c (.int .i64 0))),
 oP 113 (.load true 6 (.t 112)),
 mV 114 1,
 oP 115 (.idxAddr 6 (.t 114) (.c (.int .i64 1))),
 oP 116 (.load true 6 (.t 115)),
 oP 117 (.call 20 [(.t 113), (.t 116)]),
 oP 118 (.bin .lss (.t 117) (.c (.int .i64 0)))]
def a44_31b : List Nat := [0, 1, 3, 0, 8, 24, 63, 127]
def a44_32 : List AOper := [
 mV 119 1,
 oP 120 (.idxAddr 6 (.t 119) (.c (.int .i64 1))),
 oP 121 (.load true 6 (.t 120)),
 oN (.store 6 (.t 4) (.t 121)),
 oP 5 (.mv (.c (.int .i64 0)))]
def a44_33 : List AOper := [
 mV 122 1,
 oP 123 (.idxAddr 6 (.t 122) (.c (.int .i64 0))),
 oP 124 (.load true 6 (.t 123)),
 oN (.store 6 (.t 4) (.t 124)),
 oP 5 (.mv (.c (.int .i64 0)))]
def a44_34 : List AOper := [
 oP 126 (.bin .eql (.t 6) (.c (.str [109, 105, 110]))),
 mV 125 126]
def a44_35 : List AOper := [
 mV 127 1,
 oP 128 (.idxAddr 6 (.t 127) (.c (.int .i64 0))),
 oP 129 (.load true 6 (.t 128)),
 mV 130 1,
 oP 131 (.idxAddr 6 (.t 130) (.c (.int .i64 1))),
 oP 132 (.load true 6 (.t 131)),
 oP 133 (.call 20 [(.t 129), (.t 132)]),
 oP 134 (.bin .gtr (.t 133) (.c (.int .i64 0)))]
def a44_35b : List Nat := [0, 1, 3, 0, 8, 24, 63, 127]
def a44_36 : List AOper := [
 mV 135 1,
 oP 136 (.idxAddr 6 (.t 135) (.c (.int .i64 1))),
 oP 137 (.load true 6 (.t 136)),
 oN (.store 6 (.t 4) (.t 137)),
 oP 5 (.mv (.c (.int .i64 0)))]
def a44_37 : List AOper := [
 mV 138 1,
 oP 139 (.idxAddr 6 (.t 138) (.c (.int .i64 0))),
 oP 140 (.load true 6 (.t 139)),
 oN (.store 6 (.t 4) (.t 140)),
 oP 5 (.mv (.c (.int .i64 0)))]
def a44_38 : List AOper := [
 mV 141 0,
 mV 142 1,
 oP 143 (.call 78 [(.t 141), (.t 142)]),
 oP 144 (.extract (.t 143) 0),
 oP 145 (.extract (.t 143) 1),
 oN (.store 6 (.t 4) (.t 144)),
 mV 5 145]
def a44 : AFunc := ⟨[.cell 4 true 6, .tmp 5], (.seq (.ops a44_0) (.seq (.seq (.ops a44_1) (.block 0 (.seq (.seq (.ops a44_2) (.cond (.t 7) .skip (.seq (.ops a44_3) (.cond (.t 7) .skip (.seq (.ops a44_4) (.cond (.t 7) .skip (.seq (.ops a44_5) (.cond (.t 7) .skip (.ops a44_6))))))))) (.cond (.t 7) (.seq (.ops a44_7) .ret) (.seq (.seq (.ops a44_8) (.cond (.t 18) .skip (.seq (.ops a44_9) (.cond (.t 18) .skip (.seq (.ops a44_10) (.cond (.t 18) .skip (.ops a44_11))))))) (.cond (.t 18) (.seq (.ops a44_12) .ret) (.seq (.seq (.ops a44_13) (.cond (.t 28) .skip (.ops a44_14))) (.cond (.t 28) (.seq (.draw a44_15 a44_15b) .ret) (.seq (.seq (.ops a44_16) (.cond (.t 41) .skip (.ops a44_17))) (.cond (.t 41) (.seq (.draw a44_18 a44_18b) .ret) (.seq (.seq (.ops a44_19) (.cond (.t 53) .skip (.ops a44_20))) (.cond (.t 53) (.seq (.draw a44_21 a44_21b) .ret) (.seq (.ops a44_22) (.cond (.t 65) (.seq (.draw a44_23 a44_23b) .ret) (.seq (.ops a44_24) (.cond (.t 76) (.seq (.draw a44_25 a44_25b) .ret) (.seq (.ops a44_26) (.cond (.t 87) (.seq (.draw a44_27 a44_27b) .ret) (.seq (.ops a44_28) (.cond (.t 98) (.seq (.draw a44_29 a44_29b) .ret) (.seq (.ops a44_30) (.cond (.t 109) (.seq (.seq (.draw a44_31 a44_31b) (.cond (.t 118) (.seq (.ops a44_32) .ret) .skip)) (.seq (.ops a44_33) .ret)) (.seq (.ops a44_34) (.cond (.t 125) (.seq (.seq (.draw a44_35 a44_35b) (.cond (.t 134) (.seq (.ops a44_36) .ret) .skip)) (.seq (.ops a44_37) .ret)) .skip)))))))))))))))))))))))) (.seq (.ops a44_38) .ret)))⟩
def a45_0 : List AOper := [
 oP 2 (.mv (.c .nils))]
def a45_1 : List AOper := [
 oP 3 (.mv (.c .nils))]
def a45_2 : List AOper := [
 oP 4 (.mv (.c (.int .i64 0)))]
def a45_3 : List AOper := [
 mV 6 4,
 oP 7 (.bin .lss (.t 6) (.c (.int .i64 16))),
 mV 8 7,
 oG 9 (.mv (.t 0)) 8 true,
 oG 10 (.eq true (.iface true) (.t 9) (.c .nili)) 8 true,
 oP 11 (.pick (.t 8) (.t 10) (.c (.bool false)))]
def a45_4 : List AOper := [
 oP 5 (.alloc [.nilp])]
def a45_5 : List AOper := [
 mV 14 0,
 oP 15 (.mkIface 71 (.t 5)),
 oP 16 (.call 37 [(.t 14), (.t 15)]),
 oP 17 (.un .not (.t 16)),
 mV 18 17,
 oG 19 (.load false 1 (.t 5)) 18 false,
 oG 20 (.eq false .ptr (.t 19) (.c .nilp)) 18 false,
 oP 21 (.pick (.t 18) (.c (.bool true)) (.t 20))]
def a45_6 : List AOper := [
 mV 22 3,
 mV 2 22]
def a45_7 : List AOper := [
 mV 23 3,
 oP 24 (.load false 1 (.t 5)),
 oP 25 (.nilCheck (.t 24)),
 oP 26 (.fieldAddr 0 (.t 25)),
 oP 27 (.load false 1 (.t 26)),
 oP 28 (.load false 1 (.t 5)),
 oP 29 (.nilCheck (.t 28)),
 oP 30 (.fieldAddr 1 (.t 29)),
 oP 31 (.load false 1 (.t 30)),
 oP 32 (.load false 1 (.t 5)),
 oP 33 (.nilCheck (.t 32)),
 oP 34 (.fieldAddr 2 (.t 33)),
 oP 35 (.load false 1 (.t 34)),
 oP 36 (.build [(.str []), (.int .i64 0), (.int .i64 0)] [(0, 1, (.t 27)), (1, 1, (.t 31)), (2, 1, (.t 35))]),
 oP 37 (.lit true 3 1 [(.str []), (.int .i64 0), (.int .i64 0)] [(0, 3, (.t 36))]),
 oP 38 (.append 3 32 (.t 23) (.t 37)),
 mV 3 38]
def a45_7b : List Nat := [0, 0, 2, 6, 14, 0, 32, 96, 224, 0, 512, 1536, 3584, 8190, 16382, 32767, 65535]
def a45_8 : List AOper := [
 oP 39 (.load false 1 (.t 5)),
 oP 40 (.nilCheck (.t 39)),
 oP 41 (.fieldAddr 3 (.t 40)),
 oP 42 (.load false 1 (.t 41)),
 mV 0 42]
def a45_9 : List AOper := [
 mV 12 4,
 oP 13 (.bin .add (.t 12) (.c (.int .i64 1))),
 mV 4 13]
def a45_l10 : AC := (.seq (.seq (.ops a45_3) (.cond (.t 11) .skip (.exit 0))) (.seq (.block 1 (.seq (.ops a45_4) (.seq (.seq (.ops a45_5) (.cond (.t 21) (.seq (.ops a45_6) .ret) .skip)) (.seq (.draw a45_7 a45_7b) (.ops a45_8))))) (.ops a45_9)))
def a45_11 : List AOper := [
 mV 43 3,
 mV 2 43]
def a45 : AFunc := ⟨[.tmp 2], (.seq (.ops a45_0) (.seq (.ops a45_1) (.seq (.seq (.ops a45_2) (.block 0 (.loop a45_l10))) (.seq (.ops a45_11) .ret))))⟩
def a47_0 : List AOper := [
 oP 2 (.mv (.c .nils))]
def a47_1 : List AOper := [
 oP 3 (.mv (.c (.int .i64 0)))]
def a47_2 : List AOper := [
 oP 4 (.mv (.c (.int .i64 1)))]
def a47_3 : List AOper := [
 oP 5 (.mv (.c (.int .u8 0)))]
def a47_4 : List AOper := [
 oP 6 (.mv (.c (.int .i64 0)))]
def a47_5 : List AOper := [
 mV 13 6,
 mV 14 0,
 oP 15 (.len true (.t 14)),
 oP 16 (.bin .lss (.t 13) (.t 15))]
def a47_6 : List AOper := [
 mV 19 0,
 mV 20 6,
 oP 21 (.idxStr (.t 19) (.t 20)),
 mV 7 21]
def a47_7 : List AOper := [
 mV 22 5,
 mV 23 7,
 oP 24 (.bin .or (.t 22) (.t 23)),
 mV 5 24]
def a47_8 : List AOper := [
 mV 25 7,
 oP 26 (.idxAddrArr 1 256 (.g 1) (.t 25)),
 oP 27 (.load false 1 (.t 26)),
 oP 28 (.conv (.int .i64) (.t 27)),
 mV 8 28]
def a47_9 : List AOper := [
 mV 29 3,
 mV 30 4,
 mV 31 8,
 oP 32 (.un .xor (.t 31)),
 oP 33 (.bin .and (.t 30) (.t 32)),
 oP 34 (.bin .add (.t 29) (.t 33)),
 mV 3 34]
def a47_10 : List AOper := [
 mV 35 8,
 mV 4 35]
def a47_11 : List AOper := [
 mV 17 6,
 oP 18 (.bin .add (.t 17) (.c (.int .i64 1))),
 mV 6 18]
def a47_l12 : AC := (.seq (.seq (.ops a47_5) (.cond (.t 16) .skip (.exit 0))) (.seq (.block 1 (.seq (.ops a47_6) (.seq (.ops a47_7) (.seq (.ops a47_8) (.seq (.ops a47_9) (.ops a47_10)))))) (.ops a47_11)))
def a47_13 : List AOper := [
 mV 36 5,
 oP 37 (.bin .geq (.t 36) (.c (.int .u8 128)))]
def a47_14 : List AOper := [
 mV 38 0,
 oP 39 (.call 81 [(.t 38), (.c (.fn (.func 82) [] []))]),
 mV 2 39]
def a47_15 : List AOper := [
 mV 40 3,
 oP 41 (.makeSlice 1 16 [(.str [])] (.t 40) (.t 40)),
 mV 9 41]
def a47_16 : List AOper := [
 oP 10 (.mv (.c (.int .i64 0)))]
def a47_17 : List AOper := [
 oP 11 (.mv (.c (.int .i64 0)))]
def a47_18 : List AOper := [
 oP 12 (.mv (.c (.int .i64 0)))]
def a47_19 : List AOper := [
 mV 42 12,
 mV 43 0,
 oP 44 (.len true (.t 43)),
 oP 45 (.bin .lss (.t 42) (.t 44)),
 mV 46 45,
 oG 47 (.mv (.t 0)) 46 true,
 oG 48 (.mv (.t 12)) 46 true,
 oG 49 (.idxStr (.t 47) (.t 48)) 46 true,
 oG 50 (.idxAddrArr 1 256 (.g 1) (.t 49)) 46 true,
 oG 51 (.load false 1 (.t 50)) 46 true,
 oG 52 (.bin .neq (.t 51) (.c (.int .u8 0))) 46 true,
 oP 53 (.pick (.t 46) (.t 52) (.c (.bool false)))]
def a47_20 : List AOper := [
 mV 54 12,
 oP 55 (.bin .add (.t 54) (.c (.int .i64 1))),
 mV 12 55]
def a47_l21 : AC := (.seq (.seq (.ops a47_19) (.cond (.t 53) .skip (.exit 2))) (.block 3 (.ops a47_20)))
def a47_22 : List AOper := [
 mV 56 12,
 mV 11 56]
def a47_23 : List AOper := [
 mV 57 12,
 mV 58 0,
 oP 59 (.len true (.t 58)),
 oP 60 (.bin .lss (.t 57) (.t 59))]
def a47_24 : List AOper := [
 mV 61 0,
 mV 62 12,
 oP 63 (.idxStr (.t 61) (.t 62)),
 oP 64 (.idxAddrArr 1 256 (.g 1) (.t 63)),
 oP 65 (.load false 1 (.t 64)),
 oP 66 (.bin .eql (.t 65) (.c (.int .u8 0)))]
def a47_25 : List AOper := [
 mV 67 12,
 oP 68 (.bin .add (.t 67) (.c (.int .i64 1))),
 mV 12 68]
def a47_26 : List AOper := [
 mV 69 9,
 mV 70 10,
 mV 71 0,
 mV 72 11,
 mV 73 12,
 oP 74 (.sliceStr (.t 71) (some (.t 72)) (some (.t 73))),
 oP 75 (.idxAddr 1 (.t 69) (.t 70)),
 oN (.store 1 (.t 75) (.t 74))]
def a47_27 : List AOper := [
 mV 76 10,
 oP 77 (.bin .add (.t 76) (.c (.int .i64 1))),
 mV 10 77]
def a47_28 : List AOper := [
 mV 78 12,
 oP 79 (.bin .add (.t 78) (.c (.int .i64 1))),
 mV 12 79]
def a47_29 : List AOper := [
 mV 80 12,
 mV 81 0,
 oP 82 (.len true (.t 81)),
 oP 83 (.bin .lss (.t 80) (.t 82)),
 mV 84 83,
 oG 85 (.mv (.t 0)) 84 true,
 oG 86 (.mv (.t 12)) 84 true,
 oG 87 (.idxStr (.t 85) (.t 86)) 84 true,
 oG 88 (.idxAddrArr 1 256 (.g 1) (.t 87)) 84 true,
 oG 89 (.load false 1 (.t 88)) 84 true,
 oG 90 (.bin .neq (.t 89) (.c (.int .u8 0))) 84 true,
 oP 91 (.pick (.t 84) (.t 90) (.c (.bool false)))]
def a47_30 : List AOper := [
 mV 92 12,
 oP 93 (.bin .add (.t 92) (.c (.int .i64 1))),
 mV 12 93]
def a47_l31 : AC := (.seq (.seq (.ops a47_29) (.cond (.t 91) .skip (.exit 6))) (.block 7 (.ops a47_30)))
def a47_32 : List AOper := [
 mV 94 12,
 mV 11 94]
def a47_l33 : AC := (.seq (.seq (.ops a47_23) (.cond (.t 60) .skip (.exit 4))) (.block 5 (.seq (.seq (.ops a47_24) (.cond (.t 66) (.seq (.ops a47_25) (.exit 5)) .skip)) (.seq (.ops a47_26) (.seq (.ops a47_27) (.seq (.ops a47_28) (.seq (.block 6 (.loop a47_l31)) (.ops a47_32))))))))
def a47_34 : List AOper := [
 mV 95 11,
 mV 96 0,
 oP 97 (.len true (.t 96)),
 oP 98 (.bin .lss (.t 95) (.t 97))]
def a47_35 : List AOper := [
 mV 99 9,
 mV 100 10,
 mV 101 0,
 mV 102 11,
 oP 103 (.sliceStr (.t 101) (some (.t 102)) none),
 oP 104 (.idxAddr 1 (.t 99) (.t 100)),
 oN (.store 1 (.t 104) (.t 103))]
def a47_36 : List AOper := [
 mV 105 9,
 mV 2 105]
def a47 : AFunc := ⟨[.tmp 2], (.seq (.ops a47_0) (.seq (.ops a47_1) (.seq (.ops a47_2) (.seq (.ops a47_3) (.seq (.seq (.ops a47_4) (.block 0 (.loop a47_l12))) (.seq (.seq (.ops a47_13) (.cond (.t 37) (.seq (.ops a47_14) .ret) .skip)) (.seq (.ops a47_15) (.seq (.ops a47_16) (.seq (.ops a47_17) (.seq (.ops a47_18) (.seq (.block 2 (.loop a47_l21)) (.seq (.ops a47_22) (.seq (.block 4 (.loop a47_l33)) (.seq (.seq (.ops a47_34) (.cond (.t 98) (.ops a47_35) .skip)) (.seq (.ops a47_36) .ret)))))))))))))))⟩
def a48_0 : List AOper := [
 oP 4 (.mv (.c .nils))]
def a48_1 : List AOper := [
 mV 5 0,
 mV 6 1,
 oP 7 (.call 73 [(.c (.str [116, 101, 114, 109])), (.t 5), (.t 6)]),
 mV 4 7]
def a48 : AFunc := ⟨[.tmp 4], (.seq (.ops a48_0) (.seq (.ops a48_1) .ret))⟩
def a49_0 : List AOper := [
 oP 1 (.box false 6 (.t 0)),
 oP 2 (.mv (.c (.bool false)))]
def a49_1 : List AOper := [
 oP 4 (.fieldAddr 0 (.t 1)),
 oP 5 (.load false 1 (.t 4))]
def a49_2 : List AOper := [
 oP 7 (.bin .eql (.t 5) (.c (.int .i64 1))),
 mV 6 7]
def a49_3 : List AOper := [
 oP 8 (.load true 6 (.t 1)),
 oP 9 (.call 83 [(.t 8), (.c (.str [105]))]),
 mV 2 9]
def a49_4 : List AOper := [
 oP 11 (.bin .eql (.t 5) (.c (.int .i64 2))),
 mV 10 11]
def a49_5 : List AOper := [
 oP 12 (.load true 6 (.t 1)),
 oP 13 (.call 83 [(.t 12), (.c (.str [115]))]),
 mV 2 13]
def a49_6 : List AOper := [
 oP 15 (.bin .eql (.t 5) (.c (.int .i64 3))),
 mV 14 15]
def a49_7 : List AOper := [
 oP 16 (.load true 6 (.t 1)),
 oP 17 (.call 83 [(.t 16), (.c (.str [115, 99, 110]))]),
 mV 18 17,
 oG 19 (.fieldAddr 4 (.t 1)) 18 true,
 oG 20 (.load false 1 (.t 19)) 18 true,
 oG 21 (.len false (.t 20)) 18 true,
 oG 22 (.bin .eql (.t 21) (.c (.int .i64 3))) 18 true,
 oP 23 (.pick (.t 18) (.t 22) (.c (.bool false))),
 mV 2 23]
def a49_8 : List AOper := [
 oP 25 (.bin .eql (.t 5) (.c (.int .i64 4))),
 mV 24 25]
def a49_9 : List AOper := [
 oP 26 (.load true 6 (.t 1)),
 oP 27 (.call 83 [(.t 26), (.c (.str [115, 99, 110]))]),
 mV 28 27,
 oG 29 (.fieldAddr 4 (.t 1)) 28 true,
 oG 30 (.load false 1 (.t 29)) 28 true,
 oG 31 (.len false (.t 30)) 28 true,
 oG 32 (.bin .eql (.t 31) (.c (.int .i64 2))) 28 true,
 oP 33 (.pick (.t 28) (.t 32) (.c (.bool false))),
 mV 2 33]
def a49_10 : List AOper := [
 oP 35 (.bin .eql (.t 5) (.c (.int .i64 5))),
 mV 34 35]
def a49_11 : List AOper := [
 oP 36 (.load true 6 (.t 1)),
 oP 37 (.call 83 [(.t 36), (.c (.str [97]))]),
 mV 2 37]
def a49_12 : List AOper := [
 oP 39 (.bin .eql (.t 5) (.c (.int .i64 6))),
 mV 38 39]
def a49_13 : List AOper := [
 oP 40 (.load true 6 (.t 1)),
 oP 41 (.call 83 [(.t 40), (.c (.str []))]),
 mV 2 41]
def a49_14 : List AOper := [
 oP 43 (.bin .eql (.t 5) (.c (.int .i64 7))),
 mV 42 43]
def a49_15 : List AOper := [
 oP 44 (.fieldAddr 5 (.t 1)),
 oP 45 (.load false 1 (.t 44)),
 oP 46 (.len false (.t 45)),
 mV 3 46]
def a49_16 : List AOper := [
 oP 47 (.load true 6 (.t 1)),
 oP 48 (.call 83 [(.t 47), (.c (.str [97]))]),
 mV 49 48,
 oG 50 (.mv (.t 3)) 49 true,
 oG 51 (.bin .geq (.t 50) (.c (.int .i64 2))) 49 true,
 oP 52 (.pick (.t 49) (.t 51) (.c (.bool false))),
 mV 53 52,
 oG 54 (.fieldAddr 5 (.t 1)) 53 true,
 oG 55 (.load false 1 (.t 54)) 53 true,
 oG 56 (.mv (.t 3)) 53 true,
 oG 57 (.bin .sub (.t 56) (.c (.int .i64 1))) 53 true,
 oG 58 (.idxAddr 6 (.t 55) (.t 57)) 53 true,
 oG 59 (.fieldAddr 0 (.t 58)) 53 true,
 oG 60 (.load false 1 (.t 59)) 53 true,
 oG 61 (.bin .neq (.t 60) (.c (.int .i64 7))) 53 true,
 oP 62 (.pick (.t 53) (.t 61) (.c (.bool false))),
 mV 2 62]
def a49_17 : List AOper := [
 oP 2 (.mv (.c (.bool false)))]
def a49 : AFunc := ⟨[.tmp 2], (.seq (.ops a49_0) (.seq (.seq (.ops a49_1) (.block 0 (.seq (.ops a49_2) (.cond (.t 6) (.seq (.ops a49_3) .ret) (.seq (.ops a49_4) (.cond (.t 10) (.seq (.ops a49_5) .ret) (.seq (.ops a49_6) (.cond (.t 14) (.seq (.ops a49_7) .ret) (.seq (.ops a49_8) (.cond (.t 24) (.seq (.ops a49_9) .ret) (.seq (.ops a49_10) (.cond (.t 34) (.seq (.ops a49_11) .ret) (.seq (.ops a49_12) (.cond (.t 38) (.seq (.ops a49_13) .ret) (.seq (.ops a49_14) (.cond (.t 42) (.seq (.ops a49_15) (.seq (.ops a49_16) .ret)) .skip)))))))))))))))) (.seq (.ops a49_17) .ret)))⟩
def a50_0 : List AOper := [
 oP 2 (.mv (.c (.str []))),
 oP 3 (.mv (.c .nils))]
def a50_1 : List AOper := [
 mV 8 0,
 oP 9 (.len true (.t 8)),
 oP 10 (.bin .gtr (.t 9) (.c (.int .i64 255)))]
def a50_2 : List AOper := [
 oP 11 (.call 84 [(.c (.int .i64 0)), (.c (.int .i64 4))]),
 oP 2 (.mv (.c (.str []))),
 mV 3 11]
def a50_3 : List AOper := [
 mV 12 0,
 oP 13 (.call 85 [(.t 12)]),
 mV 4 13]
def a50_4 : List AOper := [
 mV 14 4,
 oP 15 (.bin .geq (.t 14) (.c (.int .i64 0)))]
def a50_5 : List AOper := [
 mV 16 4,
 oP 17 (.call 84 [(.t 16), (.c (.int .i64 23))]),
 oP 2 (.mv (.c (.str []))),
 mV 3 17]
def a50_6 : List AOper := [
 mV 18 0,
 oP 19 (.call 86 [(.t 18)])]
def a50_7 : List AOper := [
 mV 20 0,
 mV 2 20,
 oP 3 (.mv (.c .nils))]
def a50_8 : List AOper := [
 oP 21 (.lit true 1 1 [(.int .u8 0)] [(0, 1, (.c (.int .u8 39)))]),
 mV 5 21]
def a50_9 : List AOper := [
 oP 6 (.mv (.c (.int .i64 0)))]
def a50_10 : List AOper := [
 mV 22 6,
 mV 23 0,
 oP 24 (.len true (.t 23)),
 oP 25 (.bin .lss (.t 22) (.t 24))]
def a50_11 : List AOper := [
 mV 28 0,
 mV 29 6,
 oP 30 (.idxStr (.t 28) (.t 29)),
 mV 7 30]
def a50_12 : List AOper := [
 mV 36 7,
 oP 37 (.bin .eql (.t 36) (.c (.int .u8 39))),
 mV 38 37,
 oG 39 (.mv (.t 7)) 38 false,
 oG 40 (.bin .eql (.t 39) (.c (.int .u8 92))) 38 false,
 oP 41 (.pick (.t 38) (.c (.bool true)) (.t 40)),
 mV 35 41]
def a50_13 : List AOper := [
 mV 42 5,
 mV 43 7,
 oP 44 (.lit true 1 2 [(.int .u8 0), (.int .u8 0)] [(0, 1, (.c (.int .u8 92))), (1, 1, (.t 43))]),
 oP 45 (.append 1 1 (.t 42) (.t 44)),
 mV 5 45]
def a50_14 : List AOper := [
 mV 47 7,
 oP 48 (.bin .eql (.t 47) (.c (.int .u8 10))),
 mV 46 48]
def a50_15 : List AOper := [
 mV 49 5,
 oP 50 (.lit true 1 2 [(.int .u8 0), (.int .u8 0)] [(0, 1, (.c (.int .u8 92))), (1, 1, (.c (.int .u8 110)))]),
 oP 51 (.append 1 1 (.t 49) (.t 50)),
 mV 5 51]
def a50_16 : List AOper := [
 mV 53 7,
 oP 54 (.bin .eql (.t 53) (.c (.int .u8 9))),
 mV 52 54]
def a50_17 : List AOper := [
 mV 55 5,
 oP 56 (.lit true 1 2 [(.int .u8 0), (.int .u8 0)] [(0, 1, (.c (.int .u8 92))), (1, 1, (.c (.int .u8 116)))]),
 oP 57 (.append 1 1 (.t 55) (.t 56)),
 mV 5 57]
def a50_18 : List AOper := [
 mV 59 7,
 oP 60 (.bin .eql (.t 59) (.c (.int .u8 13))),
 mV 58 60]
def a50_19 : List AOper := [
 mV 61 5,
 oP 62 (.lit true 1 2 [(.int .u8 0), (.int .u8 0)] [(0, 1, (.c (.int .u8 92))), (1, 1, (.c (.int .u8 114)))]),
 oP 63 (.append 1 1 (.t 61) (.t 62)),
 mV 5 63]
def a50_20 : List AOper := [
 mV 65 7,
 oP 66 (.bin .lss (.t 65) (.c (.int .u8 32))),
 mV 67 66,
 oG 68 (.mv (.t 7)) 67 false,
 oG 69 (.bin .eql (.t 68) (.c (.int .u8 127))) 67 false,
 oP 70 (.pick (.t 67) (.c (.bool true)) (.t 69)),
 mV 64 70]
def a50_21 : List AOper := [
 mV 71 5,
 mV 72 7,
 oP 73 (.bin .quo (.t 72) (.c (.int .u8 16))),
 oP 74 (.idxStr (.c (.str [48, 49, 50, 51, 52, 53, 54, 55, 56, 57, 97, 98, 99, 100, 101, 102])) (.t 73)),
 mV 75 7,
 oP 76 (.bin .rem (.t 75) (.c (.int .u8 16))),
 oP 77 (.idxStr (.c (.str [48, 49, 50, 51, 52, 53, 54, 55, 56, 57, 97, 98, 99, 100, 101, 102])) (.t 76)),
 oP 78 (.lit true 1 4 [(.int .u8 0), (.int .u8 0), (.int .u8 0), (.int .u8 0)] [(0, 1, (.c (.int .u8 92))), (1, 1, (.c (.int .u8 120))), (2, 1, (.t 74)), (3, 1, (.t 77))]),
 oP 79 (.append 1 1 (.t 71) (.t 78)),
 mV 5 79]
def a50_21b : List Nat := [0, 0, 2, 6, 0, 16, 48, 126, 255, 511]
def a50_22 : List AOper := [
 mV 31 5,
 mV 32 7,
 oP 33 (.lit true 1 1 [(.int .u8 0)] [(0, 1, (.t 32))]),
 oP 34 (.append 1 1 (.t 31) (.t 33)),
 mV 5 34]
def a50_23 : List AOper := [
 mV 26 6,
 oP 27 (.bin .add (.t 26) (.c (.int .i64 1))),
 mV 6 27]
def a50_l24 : AC := (.seq (.seq (.ops a50_10) (.cond (.t 25) .skip (.exit 0))) (.seq (.block 1 (.seq (.ops a50_11) (.block 2 (.seq (.ops a50_12) (.cond (.t 35) (.ops a50_13) (.seq (.ops a50_14) (.cond (.t 46) (.ops a50_15) (.seq (.ops a50_16) (.cond (.t 52) (.ops a50_17) (.seq (.ops a50_18) (.cond (.t 58) (.ops a50_19) (.seq (.ops a50_20) (.cond (.t 64) (.draw a50_21 a50_21b) (.ops a50_22)))))))))))))) (.ops a50_23)))
def a50_25 : List AOper := [
 mV 80 5,
 oP 81 (.lit true 1 1 [(.int .u8 0)] [(0, 1, (.c (.int .u8 39)))]),
 oP 82 (.append 1 1 (.t 80) (.t 81)),
 oP 83 (.conv .b2s (.t 82)),
 mV 2 83,
 oP 3 (.mv (.c .nils))]
def a50 : AFunc := ⟨[.tmp 2, .tmp 3], (.seq (.ops a50_0) (.seq (.seq (.ops a50_1) (.cond (.t 10) (.seq (.ops a50_2) .ret) .skip)) (.seq (.ops a50_3) (.seq (.seq (.ops a50_4) (.cond (.t 15) (.seq (.ops a50_5) .ret) .skip)) (.seq (.seq (.ops a50_6) (.cond (.t 19) (.seq (.ops a50_7) .ret) .skip)) (.seq (.ops a50_8) (.seq (.seq (.ops a50_9) (.block 0 (.loop a50_l24))) (.seq (.ops a50_25) .ret))))))))⟩
def a51_0 : List AOper := [
 oP 4 (.mv (.c .nils))]
def a51_1 : List AOper := [
 mV 5 0,
 mV 6 1,
 oP 7 (.idxAddr 3 (.t 6) (.c (.int .i64 0))),
 oP 8 (.fieldAddr 2 (.t 7)),
 oP 9 (.load false 1 (.t 8)),
 mV 10 1,
 oP 11 (.call 43 [(.c (.str [116, 101, 114, 109])), (.t 5), (.t 9), (.t 10)]),
 mV 4 11]
def a51 : AFunc := ⟨[.tmp 4], (.seq (.ops a51_0) (.seq (.ops a51_1) .ret))⟩
def a52_0 : List AOper := [
 oP 2 (.mv (.c (.str []))),
 oP 3 (.mv (.c (.str []))),
 oP 4 (.mv (.c .nils))]
def a52_1 : List AOper := [
 oP 5 (.mv (.c (.int .i64 (-1))))]
def a52_2 : List AOper := [
 mV 9 0,
 oP 10 (.len true (.t 9)),
 oP 11 (.bin .geq (.t 10) (.c (.int .i64 3))),
 mV 12 11,
 oG 13 (.mv (.t 0)) 12 true,
 oG 14 (.len true (.t 13)) 12 true,
 oG 15 (.bin .leq (.t 14) (.c (.int .i64 64))) 12 true,
 oP 16 (.pick (.t 12) (.t 15) (.c (.bool false))),
 mV 6 16]
def a52_3 : List AOper := [
 oP 7 (.mv (.c (.int .i64 0)))]
def a52_4 : List AOper := [
 mV 17 7,
 mV 18 0,
 oP 19 (.len true (.t 18)),
 oP 20 (.bin .lss (.t 17) (.t 19))]
def a52_5 : List AOper := [
 mV 23 0,
 mV 24 7,
 oP 25 (.idxStr (.t 23) (.t 24)),
 mV 8 25]
def a52_6 : List AOper := [
 mV 26 8,
 oP 27 (.bin .eql (.t 26) (.c (.int .u8 64)))]
def a52_7 : List AOper := [
 mV 28 6,
 mV 29 28,
 oG 30 (.mv (.t 5)) 29 true,
 oG 31 (.bin .lss (.t 30) (.c (.int .i64 0))) 29 true,
 oP 32 (.pick (.t 29) (.t 31) (.c (.bool false))),
 mV 6 32]
def a52_8 : List AOper := [
 mV 33 7,
 mV 5 33]
def a52_9 : List AOper := [
 mV 34 6,
 mV 35 34,
 oG 36 (.mv (.t 8)) 35 true,
 oG 37 (.call 87 [(.t 36)]) 35 true,
 oG 38 (.mv (.t 37)) 35 true,
 oG 39 (.mv (.t 8)) 38 false,
 oG 40 (.bin .eql (.t 39) (.c (.int .u8 45))) 38 false,
 oG 41 (.pick (.t 38) (.c (.bool true)) (.t 40)) 35 true,
 oG 42 (.mv (.t 41)) 35 true,
 oG 43 (.mv (.t 8)) 42 false,
 oG 44 (.bin .eql (.t 43) (.c (.int .u8 46))) 42 false,
 oG 45 (.mv (.t 44)) 42 false,
 oG 46 (.mv (.t 5)) 45 true,
 oG 47 (.bin .geq (.t 46) (.c (.int .i64 0))) 45 true,
 oG 48 (.pick (.t 45) (.t 47) (.c (.bool false))) 42 false,
 oG 49 (.pick (.t 42) (.c (.bool true)) (.t 48)) 35 true,
 oP 50 (.pick (.t 35) (.t 49) (.c (.bool false))),
 mV 6 50]
def a52_10 : List AOper := [
 mV 21 7,
 oP 22 (.bin .add (.t 21) (.c (.int .i64 1))),
 mV 7 22]
def a52_l11 : AC := (.seq (.seq (.ops a52_4) (.cond (.t 20) .skip (.exit 0))) (.seq (.block 1 (.seq (.ops a52_5) (.seq (.seq (.ops a52_6) (.cond (.t 27) (.seq (.ops a52_7) (.seq (.ops a52_8) (.exit 1))) .skip)) (.ops a52_9)))) (.ops a52_10)))
def a52_12 : List AOper := [
 mV 51 6,
 oP 52 (.un .not (.t 51)),
 mV 53 52,
 oG 54 (.mv (.t 5)) 53 false,
 oG 55 (.bin .lss (.t 54) (.c (.int .i64 1))) 53 false,
 oP 56 (.pick (.t 53) (.c (.bool true)) (.t 55)),
 mV 57 56,
 oG 58 (.mv (.t 5)) 57 false,
 oG 59 (.mv (.t 0)) 57 false,
 oG 60 (.len true (.t 59)) 57 false,
 oG 61 (.bin .sub (.t 60) (.c (.int .i64 1))) 57 false,
 oG 62 (.bin .eql (.t 58) (.t 61)) 57 false,
 oP 63 (.pick (.t 57) (.c (.bool true)) (.t 62))]
def a52_13 : List AOper := [
 oP 64 (.call 84 [(.c (.int .i64 0)), (.c (.int .i64 24))]),
 oP 2 (.mv (.c (.str []))),
 oP 3 (.mv (.c (.str []))),
 mV 4 64]
def a52_14 : List AOper := [
 mV 65 0,
 mV 66 5,
 oP 67 (.sliceStr (.t 65) none (some (.t 66))),
 mV 68 0,
 mV 69 5,
 oP 70 (.bin .add (.t 69) (.c (.int .i64 1))),
 oP 71 (.sliceStr (.t 68) (some (.t 70)) none),
 mV 2 67,
 mV 3 71,
 oP 4 (.mv (.c .nils))]
def a52_14b : List Nat := [0, 0, 3, 0, 0, 16, 56, 7, 255, 511]
def a52 : AFunc := ⟨[.tmp 2, .tmp 3, .tmp 4], (.seq (.ops a52_0) (.seq (.ops a52_1) (.seq (.ops a52_2) (.seq (.seq (.ops a52_3) (.block 0 (.loop a52_l11))) (.seq (.seq (.ops a52_12) (.cond (.t 63) (.seq (.ops a52_13) .ret) .skip)) (.seq (.draw a52_14 a52_14b) .ret))))))⟩
def a53_0 : List AOper := [
 oP 2 (.box false 6 (.t 0)),
 oP 3 (.box false 6 (.t 1)),
 oP 4 (.mv (.c (.int .i64 0)))]
def a53_1 : List AOper := [
 oP 5 (.fieldAddr 0 (.t 2)),
 oP 6 (.load false 1 (.t 5)),
 oP 7 (.fieldAddr 0 (.t 3)),
 oP 8 (.load false 1 (.t 7)),
 oP 9 (.bin .neq (.t 6) (.t 8))]
def a53_2 : List AOper := [
 oP 10 (.fieldAddr 0 (.t 2)),
 oP 11 (.load false 1 (.t 10)),
 oP 12 (.fieldAddr 0 (.t 3)),
 oP 13 (.load false 1 (.t 12)),
 oP 14 (.call 88 [(.t 11), (.t 13)]),
 mV 4 14]
def a53_3 : List AOper := [
 oP 15 (.fieldAddr 0 (.t 2)),
 oP 16 (.load false 1 (.t 15))]
def a53_4 : List AOper := [
 oP 18 (.bin .eql (.t 16) (.c (.int .i64 1))),
 mV 17 18]
def a53_5 : List AOper := [
 oP 20 (.bin .eql (.t 16) (.c (.int .i64 2))),
 mV 19 20]
def a53_6 : List AOper := [
 oP 22 (.bin .eql (.t 16) (.c (.int .i64 3))),
 mV 21 22]
def a53_7 : List AOper := [
 oP 24 (.bin .eql (.t 16) (.c (.int .i64 4))),
 mV 23 24]
def a53_8 : List AOper := [
 oP 26 (.bin .eql (.t 16) (.c (.int .i64 5))),
 mV 25 26]
def a53_9 : List AOper := [
 oP 28 (.bin .eql (.t 16) (.c (.int .i64 7))),
 mV 27 28]
def a53_10 : List AOper := [
 oP 29 (.fieldAddr 1 (.t 2)),
 oP 30 (.load false 1 (.t 29)),
 oP 31 (.fieldAddr 1 (.t 3)),
 oP 32 (.load false 1 (.t 31)),
 oP 33 (.call 89 [(.t 30), (.t 32)]),
 mV 4 33]
def a53_11 : List AOper := [
 oP 34 (.fieldAddr 2 (.t 2)),
 oP 35 (.load false 1 (.t 34)),
 oP 36 (.fieldAddr 2 (.t 3)),
 oP 37 (.load false 1 (.t 36)),
 oP 38 (.call 90 [(.t 35), (.t 37)]),
 mV 4 38]
def a53_12 : List AOper := [
 oP 39 (.fieldAddr 2 (.t 2)),
 oP 40 (.load false 1 (.t 39)),
 oP 41 (.fieldAddr 2 (.t 3)),
 oP 42 (.load false 1 (.t 41)),
 oP 43 (.call 90 [(.t 40), (.t 42)]),
 oP 44 (.fieldAddr 3 (.t 2)),
 oP 45 (.load false 1 (.t 44)),
 oP 46 (.fieldAddr 3 (.t 3)),
 oP 47 (.load false 1 (.t 46)),
 oP 48 (.call 92 [(.t 45), (.t 47)]),
 oP 49 (.fieldAddr 4 (.t 2)),
 oP 50 (.load false 1 (.t 49)),
 oP 51 (.fieldAddr 4 (.t 3)),
 oP 52 (.load false 1 (.t 51)),
 oP 53 (.call 93 [(.t 50), (.t 52)]),
 oP 54 (.lit true 1 3 [(.int .i64 0), (.int .i64 0), (.int .i64 0)] [(0, 1, (.t 43)), (1, 1, (.t 48)), (2, 1, (.t 53))]),
 oP 55 (.call 91 [(.t 54)]),
 mV 4 55]
def a53_12b : List Nat := [0, 1, 0, 4, 15, 0, 32, 0, 128, 511, 0, 1024, 0, 4096, 16383, 32767, 65535, 131071]
def a53_13 : List AOper := [
 oP 56 (.fieldAddr 5 (.t 2)),
 oP 57 (.load false 1 (.t 56)),
 oP 58 (.len false (.t 57)),
 oP 59 (.fieldAddr 5 (.t 3)),
 oP 60 (.load false 1 (.t 59)),
 oP 61 (.len false (.t 60)),
 oP 62 (.call 94 [(.t 58), (.t 61)]),
 oP 63 (.fieldAddr 5 (.t 2)),
 oP 64 (.load false 1 (.t 63)),
 oP 65 (.fieldAddr 5 (.t 3)),
 oP 66 (.load false 1 (.t 65)),
 oP 67 (.call 95 [(.t 64), (.t 66), (.c (.fn (.func 53) [] []))]),
 oP 68 (.lit true 1 2 [(.int .i64 0), (.int .i64 0)] [(0, 1, (.t 62)), (1, 1, (.t 67))]),
 oP 69 (.call 91 [(.t 68)]),
 mV 4 69]
def a53_13b : List Nat := [0, 1, 3, 0, 8, 24, 63, 0, 128, 0, 512, 2047, 4095, 8191, 16383]
def a53_14 : List AOper := [
 oP 70 (.fieldAddr 5 (.t 2)),
 oP 71 (.load false 1 (.t 70)),
 oP 72 (.fieldAddr 5 (.t 3)),
 oP 73 (.load false 1 (.t 72)),
 oP 74 (.call 96 [(.t 71), (.t 73)]),
 mV 4 74]
def a53_15 : List AOper := [
 oP 4 (.mv (.c (.int .i64 0)))]
def a53 : AFunc := ⟨[.tmp 4], (.seq (.ops a53_0) (.seq (.seq (.ops a53_1) (.cond (.t 9) (.seq (.ops a53_2) .ret) .skip)) (.seq (.seq (.ops a53_3) (.block 0 (.seq (.block 6 (.seq (.block 5 (.seq (.block 4 (.block 3 (.seq (.block 2 (.seq (.block 1 (.seq (.seq (.seq (.ops a53_4) (.cond (.t 17) (.exit 1) .skip)) (.seq (.seq (.ops a53_5) (.cond (.t 19) (.exit 2) .skip)) (.seq (.seq (.ops a53_6) (.cond (.t 21) (.exit 3) .skip)) (.seq (.seq (.ops a53_7) (.cond (.t 23) (.exit 4) .skip)) (.seq (.seq (.ops a53_8) (.cond (.t 25) (.exit 5) .skip)) (.seq (.ops a53_9) (.cond (.t 27) (.exit 6) .skip))))))) (.exit 0))) (.seq (.seq (.ops a53_10) .ret) (.exit 0)))) (.seq (.seq (.ops a53_11) .ret) (.exit 0))))) (.seq (.seq (.draw a53_12 a53_12b) .ret) (.exit 0)))) (.seq (.seq (.draw a53_13 a53_13b) .ret) (.exit 0)))) (.seq (.seq (.ops a53_14) .ret) (.exit 0))))) (.seq (.ops a53_15) .ret))))⟩
end Go.Bf
