/-
  THE ABSTRACT MACHINE AND THE MODEL: one operation.
-/
import Derived.Test.YtaielgjmhbjfhaaGreatDoorBfCode1
import GoSem.Core.Utf8
import Derived.Shelf.Unicode.DecodeSlow
import Derived.Lib.Bytealg
import Derived.Test.YtaielgjmhbjfhaaGreatDoorChecked
import Derived.Test.YtaielgjmhbjfhaaGreatDoorRows
import Derived.KernelRfl
import Derived.WalkKit
import Derived.LaidEql
import Derived.Stop.Asserts
import Derived.RowKitTokens
import Derived.Shelf.Strings.Search2
import Derived.Shelf.Strings.Search3
import Derived.Shelf.Unicode.DecodeAny
import Derived.Test.YtaielgjmhbjfhaaGreatDoorProg
import Derived.BigCall
import Derived.Lib.OthersKept
import Derived.Stop.FmtQuoteTie
import Derived.Defers
import Derived.Below
import Derived.Laws.Append
import Derived.Laws.CopyRow
import Derived.Deep.MidRow
set_option linter.unusedVariables false
namespace Go.Bf
open Go.AM
def a54_0 : List AOper := [
 oP 1 (.box false 6 (.t 0)),
 oP 2 (.mv (.c (.int .i64 0))),
 oP 3 (.mv (.c (.int .i64 0))),
 oP 4 (.mv (.c .nili))]
def a54_1 : List AOper := [
 oP 5 (.alloc [(.int .i64 0), (.int .i64 0)])]
def a54_2 : List AOper := [
 oP 7 (.load true 6 (.t 1)),
 oP 8 (.call 97 [(.t 5), (.t 7), (.c (.int .i64 1))]),
 mV 6 8]
def a54_3 : List AOper := [
 mV 9 6,
 oP 10 (.eq true (.iface true) (.t 9) (.c .nili))]
def a54_4 : List AOper := [
 mV 11 6,
 oP 2 (.mv (.c (.int .i64 0))),
 oP 3 (.mv (.c (.int .i64 0))),
 mV 4 11]
def a54_5 : List AOper := [
 oP 12 (.fieldAddr 0 (.t 5)),
 oP 13 (.load false 1 (.t 12)),
 oP 14 (.fieldAddr 1 (.t 5)),
 oP 15 (.load false 1 (.t 14)),
 mV 2 13,
 mV 3 15,
 oP 4 (.mv (.c .nili))]
def a54_5b : List Nat := [0, 1, 0, 4, 3, 31, 63]
def a54 : AFunc := ⟨[.tmp 2, .tmp 3, .tmp 4], (.seq (.ops a54_0) (.seq (.ops a54_1) (.seq (.seq (.ops a54_2) (.seq (.ops a54_3) (.cond (.t 10) (.seq (.ops a54_4) .ret) .skip))) (.seq (.draw a54_5 a54_5b) .ret))))⟩
def a59_0 : List AOper := [
 oP 2 (.alloc [(.int .i64 0), (.int .i64 0), (.str []), (.int .u32 0), .nils, .nils])]
def a59_1 : List AOper := [
 mV 3 0,
 oP 4 (.build [(.int .i64 0), (.int .i64 0), (.str []), (.int .u32 0), .nils, .nils] [(0, 1, (.c (.int .i64 1))), (1, 1, (.t 3))]),
 oN (.store 6 (.t 2) (.t 4))]
def a59 : AFunc := ⟨[.cell 2 true 6], (.seq (.ops a59_0) (.seq (.ops a59_1) .ret))⟩
def a60_0 : List AOper := [
 oP 4 (.box false 6 (.t 1)),
 oP 5 (.box false 6 (.t 2)),
 oP 6 (.alloc [(.int .i64 0), (.int .i64 0), (.str []), (.int .u32 0), .nils, .nils]),
 oP 7 (.mv (.c (.int .i64 0)))]
def a60_1 : List AOper := [
 oP 11 (.fieldAddr 0 (.t 4)),
 oP 12 (.load false 1 (.t 11)),
 oP 13 (.bin .neq (.t 12) (.c (.int .i64 1))),
 mV 14 13,
 oG 15 (.fieldAddr 0 (.t 5)) 14 false,
 oG 16 (.load false 1 (.t 15)) 14 false,
 oG 17 (.bin .neq (.t 16) (.c (.int .i64 1))) 14 false,
 oP 18 (.pick (.t 14) (.c (.bool true)) (.t 17))]
def a60_2 : List AOper := [
 oP 19 (.build [(.int .i64 0), (.int .i64 0), (.str []), (.int .u32 0), .nils, .nils] []),
 oN (.store 6 (.t 6) (.t 19)),
 oP 7 (.mv (.c (.int .i64 260)))]
def a60_3 : List AOper := [
 oP 20 (.fieldAddr 1 (.t 4)),
 oP 21 (.load false 1 (.t 20)),
 oP 22 (.fieldAddr 1 (.t 5)),
 oP 23 (.load false 1 (.t 22)),
 mV 8 21,
 mV 9 23,
 oP 10 (.mv (.c (.bool true)))]
def a60_3b : List Nat := [0, 1, 0, 4, 3, 31, 63]
def a60_4 : List AOper := [
 mV 24 0]
def a60_5 : List AOper := [
 oP 37 (.bin .eql (.t 24) (.c (.str [43]))),
 mV 36 37]
def a60_6 : List AOper := [
 mV 38 8,
 mV 39 9,
 oP 40 (.bin .add (.t 38) (.t 39)),
 mV 8 40]
def a60_7 : List AOper := [
 oP 42 (.bin .eql (.t 24) (.c (.str [45]))),
 mV 41 42]
def a60_8 : List AOper := [
 mV 43 8,
 mV 44 9,
 oP 45 (.bin .sub (.t 43) (.t 44)),
 mV 8 45]
def a60_9 : List AOper := [
 oP 47 (.bin .eql (.t 24) (.c (.str [42]))),
 mV 46 47]
def a60_10 : List AOper := [
 mV 49 8,
 mV 50 9,
 oP 51 (.call 100 [(.t 49), (.t 50)]),
 mV 48 51,
 oP 52 (.extract (.t 48) 0),
 oP 53 (.extract (.t 48) 1),
 mV 8 52,
 mV 10 53]
def a60_11 : List AOper := [
 mV 25 9,
 oP 26 (.bin .eql (.t 25) (.c (.int .i64 0)))]
def a60_12 : List AOper := [
 oP 27 (.build [(.int .i64 0), (.int .i64 0), (.str []), (.int .u32 0), .nils, .nils] []),
 oN (.store 6 (.t 6) (.t 27)),
 oP 7 (.mv (.c (.int .i64 260)))]
def a60_13 : List AOper := [
 mV 28 0,
 oP 29 (.bin .eql (.t 28) (.c (.str [114, 101, 109])))]
def a60_14 : List AOper := [
 mV 30 8,
 mV 31 9,
 oP 32 (.bin .rem (.t 30) (.t 31)),
 mV 8 32]
def a60_15 : List AOper := [
 mV 33 8,
 mV 34 9,
 oP 35 (.bin .quo (.t 33) (.t 34)),
 mV 8 35]
def a60_16 : List AOper := [
 mV 54 10,
 oP 55 (.un .not (.t 54)),
 mV 56 55,
 oG 57 (.mv (.t 8)) 56 false,
 oG 58 (.bin .lss (.t 57) (.c (.int .i64 (-576460752303423488)))) 56 false,
 oP 59 (.pick (.t 56) (.c (.bool true)) (.t 58)),
 mV 60 59,
 oG 61 (.mv (.t 8)) 60 false,
 oG 62 (.bin .gtr (.t 61) (.c (.int .i64 576460752303423487))) 60 false,
 oP 63 (.pick (.t 60) (.c (.bool true)) (.t 62))]
def a60_17 : List AOper := [
 oP 64 (.build [(.int .i64 0), (.int .i64 0), (.str []), (.int .u32 0), .nils, .nils] []),
 oN (.store 6 (.t 6) (.t 64)),
 oP 7 (.mv (.c (.int .i64 262)))]
def a60_18 : List AOper := [
 mV 65 8,
 oP 66 (.call 59 [(.t 65)]),
 oN (.store 6 (.t 6) (.t 66)),
 oP 7 (.mv (.c (.int .i64 0)))]
def a60 : AFunc := ⟨[.cell 6 true 6, .tmp 7], (.seq (.ops a60_0) (.seq (.seq (.ops a60_1) (.cond (.t 18) (.seq (.ops a60_2) .ret) .skip)) (.seq (.draw a60_3 a60_3b) (.seq (.seq (.ops a60_4) (.block 0 (.seq (.ops a60_5) (.cond (.t 36) (.ops a60_6) (.seq (.ops a60_7) (.cond (.t 41) (.ops a60_8) (.seq (.ops a60_9) (.cond (.t 46) (.ops a60_10) (.seq (.seq (.ops a60_11) (.cond (.t 26) (.seq (.ops a60_12) .ret) .skip)) (.seq (.ops a60_13) (.cond (.t 29) (.ops a60_14) (.ops a60_15)))))))))))) (.seq (.seq (.ops a60_16) (.cond (.t 63) (.seq (.ops a60_17) .ret) .skip)) (.seq (.ops a60_18) .ret))))))⟩
def a62_0 : List AOper := [
 oP 2 (.alloc [(.int .i64 0), (.int .i64 0), (.str []), (.int .u32 0), .nils, .nils])]
def a62_1 : List AOper := [
 mV 3 0]
def a62_2 : List AOper := [
 oP 4 (.call 34 [(.c (.str [116, 114, 117, 101]))]),
 oN (.store 6 (.t 2) (.t 4))]
def a62_3 : List AOper := [
 oP 5 (.call 34 [(.c (.str [102, 97, 108, 115, 101]))]),
 oN (.store 6 (.t 2) (.t 5))]
def a62 : AFunc := ⟨[.cell 2 true 6], (.seq (.ops a62_0) (.seq (.seq (.ops a62_1) (.cond (.t 3) (.seq (.ops a62_2) .ret) .skip)) (.seq (.ops a62_3) .ret)))⟩
def a63_0 : List AOper := [
 oP 4 (.mv (.c (.bool false)))]
def a63_1 : List AOper := [
 mV 5 0]
def a63_2 : List AOper := [
 oP 7 (.bin .eql (.t 5) (.c (.str [61, 61]))),
 mV 6 7]
def a63_3 : List AOper := [
 oP 8 (.bin .eql (.t 5) (.c (.str [61, 58, 61]))),
 mV 6 8]
def a63_4 : List AOper := [
 mV 9 1,
 oP 10 (.bin .eql (.t 9) (.c (.int .i64 0))),
 mV 4 10]
def a63_5 : List AOper := [
 oP 12 (.bin .eql (.t 5) (.c (.str [47, 61]))),
 mV 11 12]
def a63_6 : List AOper := [
 oP 13 (.bin .eql (.t 5) (.c (.str [61, 47, 61]))),
 mV 11 13]
def a63_7 : List AOper := [
 mV 14 1,
 oP 15 (.bin .neq (.t 14) (.c (.int .i64 0))),
 mV 4 15]
def a63_8 : List AOper := [
 oP 17 (.bin .eql (.t 5) (.c (.str [61, 60]))),
 mV 16 17]
def a63_9 : List AOper := [
 mV 18 1,
 oP 19 (.bin .leq (.t 18) (.c (.int .i64 0))),
 mV 4 19]
def a63_10 : List AOper := [
 oP 21 (.bin .eql (.t 5) (.c (.str [60]))),
 mV 20 21]
def a63_11 : List AOper := [
 mV 22 1,
 oP 23 (.bin .lss (.t 22) (.c (.int .i64 0))),
 mV 4 23]
def a63_12 : List AOper := [
 oP 25 (.bin .eql (.t 5) (.c (.str [62, 61]))),
 mV 24 25]
def a63_13 : List AOper := [
 mV 26 1,
 oP 27 (.bin .geq (.t 26) (.c (.int .i64 0))),
 mV 4 27]
def a63_14 : List AOper := [
 mV 28 1,
 oP 29 (.bin .gtr (.t 28) (.c (.int .i64 0))),
 mV 4 29]
def a63 : AFunc := ⟨[.tmp 4], (.seq (.ops a63_0) (.seq (.seq (.ops a63_1) (.block 0 (.seq (.seq (.ops a63_2) (.cond (.t 6) .skip (.ops a63_3))) (.cond (.t 6) (.seq (.ops a63_4) .ret) (.seq (.seq (.ops a63_5) (.cond (.t 11) .skip (.ops a63_6))) (.cond (.t 11) (.seq (.ops a63_7) .ret) (.seq (.ops a63_8) (.cond (.t 16) (.seq (.ops a63_9) .ret) (.seq (.ops a63_10) (.cond (.t 20) (.seq (.ops a63_11) .ret) (.seq (.ops a63_12) (.cond (.t 24) (.seq (.ops a63_13) .ret) .skip)))))))))))) (.seq (.ops a63_14) .ret)))⟩
def a64_0 : List AOper := [
 oP 2 (.box false 6 (.t 0)),
 oP 3 (.box false 6 (.t 1)),
 oP 4 (.mv (.c (.int .i64 0)))]
def a64_1 : List AOper := [
 oP 5 (.load true 6 (.t 2)),
 oP 6 (.call 36 [(.t 5)]),
 oP 7 (.eq true (.iface true) (.t 6) (.c .nili)),
 mV 8 7,
 oG 9 (.load true 6 (.t 3)) 8 false,
 oG 10 (.call 36 [(.t 9)]) 8 false,
 oG 11 (.eq true (.iface true) (.t 10) (.c .nili)) 8 false,
 oP 12 (.pick (.t 8) (.c (.bool true)) (.t 11))]
def a64_2 : List AOper := [
 oP 4 (.mv (.c (.int .i64 0)))]
def a64_3 : List AOper := [
 oP 13 (.load true 6 (.t 2)),
 oP 14 (.load true 6 (.t 3)),
 oP 15 (.call 53 [(.t 13), (.t 14)]),
 mV 4 15]
def a64 : AFunc := ⟨[.tmp 4], (.seq (.ops a64_0) (.seq (.seq (.ops a64_1) (.cond (.t 12) (.seq (.ops a64_2) .ret) .skip)) (.seq (.ops a64_3) .ret)))⟩
def a69_0 : List AOper := [
 oP 2 (.mv (.c .nils))]
def a69_1 : List AOper := [
 mV 3 0,
 oP 4 (.eq false .slice (.t 3) (.c .nils))]
def a69_2 : List AOper := [
 oP 2 (.mv (.c .nils))]
def a69_3 : List AOper := [
 oP 5 (.lit true 1 0 [] []),
 mV 6 0,
 oP 7 (.append 1 4 (.t 5) (.t 6)),
 mV 2 7]
def a69 : AFunc := ⟨[.tmp 2], (.seq (.ops a69_0) (.seq (.seq (.ops a69_1) (.cond (.t 4) (.seq (.ops a69_2) .ret) .skip)) (.seq (.ops a69_3) .ret)))⟩
def a70_0 : List AOper := [
 oP 4 (.mv (.c (.int .i64 0)))]
def a70_1 : List AOper := [
 mV 5 0,
 mV 6 1,
 oP 7 (.bin .lss (.t 5) (.t 6))]
def a70_2 : List AOper := [
 oP 4 (.mv (.c (.int .i64 (-1))))]
def a70_3 : List AOper := [
 mV 8 0,
 mV 9 1,
 oP 10 (.bin .gtr (.t 8) (.t 9))]
def a70_4 : List AOper := [
 oP 4 (.mv (.c (.int .i64 1)))]
def a70_5 : List AOper := [
 oP 4 (.mv (.c (.int .i64 0)))]
def a70 : AFunc := ⟨[.tmp 4], (.seq (.ops a70_0) (.seq (.seq (.ops a70_1) (.cond (.t 7) (.seq (.ops a70_2) .ret) .skip)) (.seq (.seq (.ops a70_3) (.cond (.t 10) (.seq (.ops a70_4) .ret) .skip)) (.seq (.ops a70_5) .ret))))⟩
def a71_0 : List AOper := [
 oP 4 (.mv (.c (.int .i64 0)))]
def a71_1 : List AOper := [
 oP 5 (.mv (.c (.int .i64 0)))]
def a71_2 : List AOper := [
 mV 6 5,
 mV 7 0,
 oP 8 (.len true (.t 7)),
 oP 9 (.bin .lss (.t 6) (.t 8)),
 mV 10 9,
 oG 11 (.mv (.t 5)) 10 true,
 oG 12 (.mv (.t 1)) 10 true,
 oG 13 (.len true (.t 12)) 10 true,
 oG 14 (.bin .lss (.t 11) (.t 13)) 10 true,
 oP 15 (.pick (.t 10) (.t 14) (.c (.bool false)))]
def a71_3 : List AOper := [
 mV 18 0,
 mV 19 5,
 oP 20 (.idxStr (.t 18) (.t 19)),
 mV 21 1,
 mV 22 5,
 oP 23 (.idxStr (.t 21) (.t 22)),
 oP 24 (.bin .lss (.t 20) (.t 23))]
def a71_3b : List Nat := [0, 0, 3, 0, 0, 24, 63]
def a71_4 : List AOper := [
 oP 4 (.mv (.c (.int .i64 (-1))))]
def a71_5 : List AOper := [
 mV 25 0,
 mV 26 5,
 oP 27 (.idxStr (.t 25) (.t 26)),
 mV 28 1,
 mV 29 5,
 oP 30 (.idxStr (.t 28) (.t 29)),
 oP 31 (.bin .gtr (.t 27) (.t 30))]
def a71_5b : List Nat := [0, 0, 3, 0, 0, 24, 63]
def a71_6 : List AOper := [
 oP 4 (.mv (.c (.int .i64 1)))]
def a71_7 : List AOper := [
 mV 16 5,
 oP 17 (.bin .add (.t 16) (.c (.int .i64 1))),
 mV 5 17]
def a71_l8 : AC := (.seq (.seq (.ops a71_2) (.cond (.t 15) .skip (.exit 0))) (.seq (.block 1 (.seq (.seq (.draw a71_3 a71_3b) (.cond (.t 24) (.seq (.ops a71_4) .ret) .skip)) (.seq (.draw a71_5 a71_5b) (.cond (.t 31) (.seq (.ops a71_6) .ret) .skip)))) (.ops a71_7)))
def a71_9 : List AOper := [
 mV 32 0,
 oP 33 (.len true (.t 32)),
 mV 34 1,
 oP 35 (.len true (.t 34)),
 oP 36 (.bin .lss (.t 33) (.t 35))]
def a71_10 : List AOper := [
 oP 4 (.mv (.c (.int .i64 (-1))))]
def a71_11 : List AOper := [
 mV 37 0,
 oP 38 (.len true (.t 37)),
 mV 39 1,
 oP 40 (.len true (.t 39)),
 oP 41 (.bin .gtr (.t 38) (.t 40))]
def a71_12 : List AOper := [
 oP 4 (.mv (.c (.int .i64 1)))]
def a71_13 : List AOper := [
 oP 4 (.mv (.c (.int .i64 0)))]
def a71 : AFunc := ⟨[.tmp 4], (.seq (.ops a71_0) (.seq (.seq (.ops a71_1) (.block 0 (.loop a71_l8))) (.seq (.seq (.ops a71_9) (.cond (.t 36) (.seq (.ops a71_10) .ret) .skip)) (.seq (.seq (.ops a71_11) (.cond (.t 41) (.seq (.ops a71_12) .ret) .skip)) (.seq (.ops a71_13) .ret)))))⟩
def a72_0 : List AOper := [
 oP 2 (.box false 6 (.t 0)),
 oP 3 (.box false 6 (.t 1)),
 oP 4 (.mv (.c (.int .i64 0)))]
def a72_1 : List AOper := [
 oP 6 (.fieldAddr 0 (.t 2)),
 oP 7 (.load false 1 (.t 6)),
 oP 8 (.bin .eql (.t 7) (.c (.int .i64 7))),
 mV 9 8,
 oG 10 (.fieldAddr 0 (.t 3)) 9 true,
 oG 11 (.load false 1 (.t 10)) 9 true,
 oG 12 (.bin .eql (.t 11) (.c (.int .i64 7))) 9 true,
 oP 13 (.pick (.t 9) (.t 12) (.c (.bool false)))]
def a72_2 : List AOper := [
 oP 14 (.fieldAddr 5 (.t 2)),
 oP 15 (.load false 1 (.t 14)),
 oP 16 (.idxAddr 6 (.t 15) (.c (.int .i64 0))),
 oP 17 (.load true 6 (.t 16)),
 oP 18 (.fieldAddr 5 (.t 3)),
 oP 19 (.load false 1 (.t 18)),
 oP 20 (.idxAddr 6 (.t 19) (.c (.int .i64 0))),
 oP 21 (.load true 6 (.t 20)),
 oP 22 (.call 40 [(.t 17), (.t 21)]),
 mV 5 22]
def a72_2b : List Nat := [0, 1, 3, 7, 0, 16, 48, 112, 255, 511]
def a72_3 : List AOper := [
 mV 23 5,
 oP 24 (.bin .neq (.t 23) (.c (.int .i64 0)))]
def a72_4 : List AOper := [
 mV 25 5,
 mV 4 25]
def a72_5 : List AOper := [
 oP 26 (.load true 6 (.t 2)),
 oP 27 (.call 113 [(.t 26)]),
 oN (.store 6 (.t 2) (.t 27))]
def a72_6 : List AOper := [
 oP 28 (.load true 6 (.t 3)),
 oP 29 (.call 113 [(.t 28)]),
 oN (.store 6 (.t 3) (.t 29))]
def a72_l7 : AC := (.seq (.seq (.ops a72_1) (.cond (.t 13) .skip (.exit 0))) (.block 1 (.seq (.draw a72_2 a72_2b) (.seq (.seq (.ops a72_3) (.cond (.t 24) (.seq (.ops a72_4) .ret) .skip)) (.seq (.ops a72_5) (.ops a72_6))))))
def a72_8 : List AOper := [
 oP 30 (.load true 6 (.t 2)),
 oP 31 (.load true 6 (.t 3)),
 oP 32 (.call 40 [(.t 30), (.t 31)]),
 mV 4 32]
def a72 : AFunc := ⟨[.tmp 4], (.seq (.ops a72_0) (.seq (.block 0 (.loop a72_l7)) (.seq (.ops a72_8) .ret)))⟩
def a73_0 : List AOper := [
 oP 6 (.mv (.c .nils))]
def a73_1 : List AOper := [
 mV 7 0,
 mV 8 1,
 mV 9 2,
 oP 10 (.build [(.str []), (.int .i64 0), (.int .i64 0)] [(0, 1, (.t 7)), (1, 1, (.t 8)), (2, 1, (.t 9))]),
 oP 11 (.lit true 3 1 [(.str []), (.int .i64 0), (.int .i64 0)] [(0, 3, (.t 10))]),
 mV 6 11]
def a73 : AFunc := ⟨[.tmp 6], (.seq (.ops a73_0) (.seq (.ops a73_1) .ret))⟩
def a83_0 : List AOper := [
 oP 2 (.box false 6 (.t 0)),
 oP 4 (.mv (.c (.bool false)))]
def a83_1 : List AOper := [
 mV 6 1,
 oP 7 (.call 119 [(.t 6)]),
 mV 5 7]
def a83_2 : List AOper := [
 mV 8 5,
 oP 9 (.idxAddr 1 (.t 8) (.c (.int .i64 0))),
 oP 10 (.load false 1 (.t 9)),
 mV 11 10,
 oG 12 (.fieldAddr 1 (.t 2)) 11 false,
 oG 13 (.load false 1 (.t 12)) 11 false,
 oG 14 (.bin .eql (.t 13) (.c (.int .i64 0))) 11 false,
 oP 15 (.pick (.t 11) (.c (.bool true)) (.t 14)),
 mV 16 15,
 oG 17 (.mv (.t 5)) 16 true,
 oG 18 (.idxAddr 1 (.t 17) (.c (.int .i64 1))) 16 true,
 oG 19 (.load false 1 (.t 18)) 16 true,
 oG 20 (.mv (.t 19)) 16 true,
 oG 21 (.fieldAddr 2 (.t 2)) 20 false,
 oG 22 (.load false 1 (.t 21)) 20 false,
 oG 23 (.bin .eql (.t 22) (.c (.str []))) 20 false,
 oG 24 (.pick (.t 20) (.c (.bool true)) (.t 23)) 16 true,
 oP 25 (.pick (.t 16) (.t 24) (.c (.bool false))),
 mV 26 25,
 oG 27 (.mv (.t 5)) 26 true,
 oG 28 (.idxAddr 1 (.t 27) (.c (.int .i64 2))) 26 true,
 oG 29 (.load false 1 (.t 28)) 26 true,
 oG 30 (.mv (.t 29)) 26 true,
 oG 31 (.fieldAddr 3 (.t 2)) 30 false,
 oG 32 (.load false 1 (.t 31)) 30 false,
 oG 33 (.bin .eql (.t 32) (.c (.int .u32 0))) 30 false,
 oG 34 (.pick (.t 30) (.c (.bool true)) (.t 33)) 26 true,
 oP 35 (.pick (.t 26) (.t 34) (.c (.bool false))),
 mV 36 35,
 oG 37 (.mv (.t 5)) 36 true,
 oG 38 (.idxAddr 1 (.t 37) (.c (.int .i64 3))) 36 true,
 oG 39 (.load false 1 (.t 38)) 36 true,
 oG 40 (.mv (.t 39)) 36 true,
 oG 41 (.fieldAddr 4 (.t 2)) 40 false,
 oG 42 (.load false 1 (.t 41)) 40 false,
 oG 43 (.len false (.t 42)) 40 false,
 oG 44 (.bin .eql (.t 43) (.c (.int .i64 0))) 40 false,
 oG 45 (.pick (.t 40) (.c (.bool true)) (.t 44)) 36 true,
 oP 46 (.pick (.t 36) (.t 45) (.c (.bool false))),
 mV 47 46,
 oG 48 (.mv (.t 5)) 47 true,
 oG 49 (.idxAddr 1 (.t 48) (.c (.int .i64 4))) 47 true,
 oG 50 (.load false 1 (.t 49)) 47 true,
 oG 51 (.mv (.t 50)) 47 true,
 oG 52 (.fieldAddr 5 (.t 2)) 51 false,
 oG 53 (.load false 1 (.t 52)) 51 false,
 oG 54 (.len false (.t 53)) 51 false,
 oG 55 (.bin .eql (.t 54) (.c (.int .i64 0))) 51 false,
 oG 56 (.pick (.t 51) (.c (.bool true)) (.t 55)) 47 true,
 oP 57 (.pick (.t 47) (.t 56) (.c (.bool false))),
 mV 4 57]
def a83 : AFunc := ⟨[.tmp 4], (.seq (.ops a83_0) (.seq (.ops a83_1) (.seq (.ops a83_2) .ret)))⟩
def a84_0 : List AOper := [
 oP 4 (.mv (.c .nils))]
def a84_1 : List AOper := [
 mV 5 0,
 mV 6 1,
 oP 7 (.call 73 [(.c (.str [97, 116, 111, 109])), (.t 5), (.t 6)]),
 mV 4 7]
def a84 : AFunc := ⟨[.tmp 4], (.seq (.ops a84_0) (.seq (.ops a84_1) .ret))⟩
def a85_0 : List AOper := [
 oP 2 (.mv (.c (.int .i64 0)))]
def a85_1 : List AOper := [
 oP 3 (.mv (.c (.int .i64 0)))]
def a85_2 : List AOper := [
 mV 5 3,
 mV 6 0,
 oP 7 (.len true (.t 6)),
 oP 8 (.bin .lss (.t 5) (.t 7))]
def a85_3 : List AOper := [
 mV 9 0,
 mV 10 3,
 oP 11 (.call 120 [(.t 9), (.t 10)]),
 mV 4 11]
def a85_4 : List AOper := [
 mV 12 4,
 oP 13 (.bin .eql (.t 12) (.c (.int .i64 0)))]
def a85_5 : List AOper := [
 mV 14 3,
 mV 2 14]
def a85_6 : List AOper := [
 mV 15 3,
 mV 16 4,
 oP 17 (.bin .add (.t 15) (.t 16)),
 mV 3 17]
def a85_l7 : AC := (.seq (.seq (.ops a85_2) (.cond (.t 8) .skip (.exit 0))) (.block 1 (.seq (.ops a85_3) (.seq (.seq (.ops a85_4) (.cond (.t 13) (.seq (.ops a85_5) .ret) .skip)) (.ops a85_6)))))
def a85_8 : List AOper := [
 oP 2 (.mv (.c (.int .i64 (-1))))]
def a85 : AFunc := ⟨[.tmp 2], (.seq (.ops a85_0) (.seq (.ops a85_1) (.seq (.block 0 (.loop a85_l7)) (.seq (.ops a85_8) .ret))))⟩
def a86_0 : List AOper := [
 oP 2 (.mv (.c (.bool false)))]
def a86_1 : List AOper := [
 mV 4 0,
 oP 5 (.bin .eql (.t 4) (.c (.str []))),
 mV 6 5,
 oG 7 (.mv (.t 0)) 6 false,
 oG 8 (.idxStr (.t 7) (.c (.int .i64 0))) 6 false,
 oG 9 (.call 121 [(.t 8)]) 6 false,
 oG 10 (.un .not (.t 9)) 6 false,
 oP 11 (.pick (.t 6) (.c (.bool true)) (.t 10)),
 mV 12 11,
 oG 13 (.mv (.t 0)) 12 false,
 oG 14 (.call 122 [(.t 13)]) 12 false,
 oP 15 (.pick (.t 12) (.c (.bool true)) (.t 14))]
def a86_2 : List AOper := [
 oP 2 (.mv (.c (.bool false)))]
def a86_3 : List AOper := [
 oP 3 (.mv (.c (.int .i64 0)))]
def a86_4 : List AOper := [
 mV 16 3,
 mV 17 0,
 oP 18 (.len true (.t 17)),
 oP 19 (.bin .lss (.t 16) (.t 18))]
def a86_5 : List AOper := [
 mV 22 0,
 mV 23 3,
 oP 24 (.idxStr (.t 22) (.t 23)),
 oP 25 (.call 87 [(.t 24)]),
 oP 26 (.un .not (.t 25))]
def a86_6 : List AOper := [
 oP 2 (.mv (.c (.bool false)))]
def a86_7 : List AOper := [
 mV 20 3,
 oP 21 (.bin .add (.t 20) (.c (.int .i64 1))),
 mV 3 21]
def a86_l8 : AC := (.seq (.seq (.ops a86_4) (.cond (.t 19) .skip (.exit 0))) (.seq (.block 1 (.seq (.ops a86_5) (.cond (.t 26) (.seq (.ops a86_6) .ret) .skip))) (.ops a86_7)))
def a86_9 : List AOper := [
 oP 2 (.mv (.c (.bool true)))]
def a86 : AFunc := ⟨[.tmp 2], (.seq (.ops a86_0) (.seq (.seq (.ops a86_1) (.cond (.t 15) (.seq (.ops a86_2) .ret) .skip)) (.seq (.seq (.ops a86_3) (.block 0 (.loop a86_l8))) (.seq (.ops a86_9) .ret))))⟩
def a87_0 : List AOper := [
 oP 2 (.mv (.c (.bool false)))]
def a87_1 : List AOper := [
 mV 3 0,
 oP 4 (.call 121 [(.t 3)]),
 mV 5 4,
 oG 6 (.mv (.t 0)) 5 false,
 oG 7 (.bin .geq (.t 6) (.c (.int .u8 65))) 5 false,
 oG 8 (.mv (.t 7)) 5 false,
 oG 9 (.mv (.t 0)) 8 true,
 oG 10 (.bin .leq (.t 9) (.c (.int .u8 90))) 8 true,
 oG 11 (.pick (.t 8) (.t 10) (.c (.bool false))) 5 false,
 oP 12 (.pick (.t 5) (.c (.bool true)) (.t 11)),
 mV 13 12,
 oG 14 (.mv (.t 0)) 13 false,
 oG 15 (.bin .geq (.t 14) (.c (.int .u8 48))) 13 false,
 oG 16 (.mv (.t 15)) 13 false,
 oG 17 (.mv (.t 0)) 16 true,
 oG 18 (.bin .leq (.t 17) (.c (.int .u8 57))) 16 true,
 oG 19 (.pick (.t 16) (.t 18) (.c (.bool false))) 13 false,
 oP 20 (.pick (.t 13) (.c (.bool true)) (.t 19)),
 mV 21 20,
 oG 22 (.mv (.t 0)) 21 false,
 oG 23 (.bin .eql (.t 22) (.c (.int .u8 95))) 21 false,
 oP 24 (.pick (.t 21) (.c (.bool true)) (.t 23)),
 mV 25 24,
 oG 26 (.mv (.t 0)) 25 false,
 oG 27 (.bin .eql (.t 26) (.c (.int .u8 64))) 25 false,
 oP 28 (.pick (.t 25) (.c (.bool true)) (.t 27)),
 mV 2 28]
def a87 : AFunc := ⟨[.tmp 2], (.seq (.ops a87_0) (.seq (.ops a87_1) .ret))⟩
def a88_0 : List AOper := [
 oP 4 (.mv (.c (.int .i64 0)))]
def a88_1 : List AOper := [
 mV 7 0,
 oP 8 (.call 123 [(.t 7)]),
 mV 5 8]
def a88_2 : List AOper := [
 mV 9 1,
 oP 10 (.call 123 [(.t 9)]),
 mV 6 10]
def a88_3 : List AOper := [
 mV 11 5]
def a88_4 : List AOper := [
 mV 12 6]
def a88_5 : List AOper := [
 oP 4 (.mv (.c (.int .i64 0)))]
def a88_6 : List AOper := [
 oP 4 (.mv (.c (.int .i64 (-1))))]
def a88_7 : List AOper := [
 mV 13 6]
def a88_8 : List AOper := [
 oP 4 (.mv (.c (.int .i64 1)))]
def a88_9 : List AOper := [
 mV 14 0,
 mV 15 1,
 oP 16 (.bin .lss (.t 14) (.t 15))]
def a88_10 : List AOper := [
 oP 4 (.mv (.c (.int .i64 (-1))))]
def a88_11 : List AOper := [
 mV 17 0,
 mV 18 1,
 oP 19 (.bin .gtr (.t 17) (.t 18))]
def a88_12 : List AOper := [
 oP 4 (.mv (.c (.int .i64 1)))]
def a88_13 : List AOper := [
 oP 4 (.mv (.c (.int .i64 0)))]
def a88 : AFunc := ⟨[.tmp 4], (.seq (.ops a88_0) (.seq (.ops a88_1) (.seq (.ops a88_2) (.seq (.seq (.ops a88_3) (.cond (.t 11) (.seq (.seq (.ops a88_4) (.cond (.t 12) (.seq (.ops a88_5) .ret) .skip)) (.seq (.ops a88_6) .ret)) .skip)) (.seq (.seq (.ops a88_7) (.cond (.t 13) (.seq (.ops a88_8) .ret) .skip)) (.seq (.seq (.ops a88_9) (.cond (.t 16) (.seq (.ops a88_10) .ret) .skip)) (.seq (.seq (.ops a88_11) (.cond (.t 19) (.seq (.ops a88_12) .ret) .skip)) (.seq (.ops a88_13) .ret))))))))⟩
def a89_0 : List AOper := [
 oP 4 (.mv (.c (.int .i64 0)))]
def a89_1 : List AOper := [
 mV 7 0,
 oP 8 (.call 124 [(.t 7)]),
 mV 5 8]
def a89_2 : List AOper := [
 mV 9 1,
 oP 10 (.call 124 [(.t 9)]),
 mV 6 10]
def a89_3 : List AOper := [
 mV 11 5]
def a89_4 : List AOper := [
 mV 12 6]
def a89_5 : List AOper := [
 oP 4 (.mv (.c (.int .i64 0)))]
def a89_6 : List AOper := [
 oP 4 (.mv (.c (.int .i64 (-1))))]
def a89_7 : List AOper := [
 mV 13 6]
def a89_8 : List AOper := [
 oP 4 (.mv (.c (.int .i64 1)))]
def a89_9 : List AOper := [
 mV 14 0,
 mV 15 1,
 oP 16 (.bin .lss (.t 14) (.t 15))]
def a89_10 : List AOper := [
 oP 4 (.mv (.c (.int .i64 (-1))))]
def a89_11 : List AOper := [
 mV 17 0,
 mV 18 1,
 oP 19 (.bin .gtr (.t 17) (.t 18))]
def a89_12 : List AOper := [
 oP 4 (.mv (.c (.int .i64 1)))]
def a89_13 : List AOper := [
 oP 4 (.mv (.c (.int .i64 0)))]
def a89 : AFunc := ⟨[.tmp 4], (.seq (.ops a89_0) (.seq (.ops a89_1) (.seq (.ops a89_2) (.seq (.seq (.ops a89_3) (.cond (.t 11) (.seq (.seq (.ops a89_4) (.cond (.t 12) (.seq (.ops a89_5) .ret) .skip)) (.seq (.ops a89_6) .ret)) .skip)) (.seq (.seq (.ops a89_7) (.cond (.t 13) (.seq (.ops a89_8) .ret) .skip)) (.seq (.seq (.ops a89_9) (.cond (.t 16) (.seq (.ops a89_10) .ret) .skip)) (.seq (.seq (.ops a89_11) (.cond (.t 19) (.seq (.ops a89_12) .ret) .skip)) (.seq (.ops a89_13) .ret))))))))⟩
def a90_0 : List AOper := [
 oP 4 (.mv (.c (.int .i64 0)))]
def a90_1 : List AOper := [
 mV 7 0,
 oP 8 (.call 125 [(.t 7)]),
 mV 5 8]
def a90_2 : List AOper := [
 mV 9 1,
 oP 10 (.call 125 [(.t 9)]),
 mV 6 10]
def a90_3 : List AOper := [
 mV 11 5]
def a90_4 : List AOper := [
 mV 12 6]
def a90_5 : List AOper := [
 oP 4 (.mv (.c (.int .i64 0)))]
def a90_6 : List AOper := [
 oP 4 (.mv (.c (.int .i64 (-1))))]
def a90_7 : List AOper := [
 mV 13 6]
def a90_8 : List AOper := [
 oP 4 (.mv (.c (.int .i64 1)))]
def a90_9 : List AOper := [
 mV 14 0,
 mV 15 1,
 oP 16 (.bin .lss (.t 14) (.t 15))]
def a90_10 : List AOper := [
 oP 4 (.mv (.c (.int .i64 (-1))))]
def a90_11 : List AOper := [
 mV 17 0,
 mV 18 1,
 oP 19 (.bin .gtr (.t 17) (.t 18))]
def a90_12 : List AOper := [
 oP 4 (.mv (.c (.int .i64 1)))]
def a90_13 : List AOper := [
 oP 4 (.mv (.c (.int .i64 0)))]
def a90 : AFunc := ⟨[.tmp 4], (.seq (.ops a90_0) (.seq (.ops a90_1) (.seq (.ops a90_2) (.seq (.seq (.ops a90_3) (.cond (.t 11) (.seq (.seq (.ops a90_4) (.cond (.t 12) (.seq (.ops a90_5) .ret) .skip)) (.seq (.ops a90_6) .ret)) .skip)) (.seq (.seq (.ops a90_7) (.cond (.t 13) (.seq (.ops a90_8) .ret) .skip)) (.seq (.seq (.ops a90_9) (.cond (.t 16) (.seq (.ops a90_10) .ret) .skip)) (.seq (.seq (.ops a90_11) (.cond (.t 19) (.seq (.ops a90_12) .ret) .skip)) (.seq (.ops a90_13) .ret))))))))⟩
def a91_0 : List AOper := [
 oP 2 (.mv (.c (.int .i64 0)))]
def a91_1 : List AOper := [
 oP 3 (.mv (.c (.int .i64 0)))]
def a91_2 : List AOper := [
 mV 6 0,
 oP 7 (.len false (.t 6)),
 oP 8 (.mv (.c (.int .i64 0)))]
def a91_3 : List AOper := [
 oP 9 (.bin .lss (.t 8) (.t 7))]
def a91_4 : List AOper := [
 oP 10 (.idxAddr 1 (.t 6) (.t 8)),
 oP 11 (.load false 1 (.t 10)),
 mV 5 11]
def a91_5 : List AOper := [
 mV 12 5,
 mV 13 3,
 oP 14 (.bin .neq (.t 12) (.t 13))]
def a91_6 : List AOper := [
 mV 15 5,
 mV 2 15]
def a91_7 : List AOper := [
 oP 16 (.bin .add (.t 8) (.c (.int .i64 1))),
 mV 8 16]
def a91_l8 : AC := (.seq (.ops a91_3) (.seq (.cond (.t 9) .skip (.exit 0)) (.seq (.block 1 (.seq (.ops a91_4) (.seq (.ops a91_5) (.cond (.t 14) (.seq (.ops a91_6) .ret) .skip)))) (.ops a91_7))))
def a91_9 : List AOper := [
 mV 17 3,
 mV 2 17]
def a91 : AFunc := ⟨[.tmp 2], (.seq (.ops a91_0) (.seq (.ops a91_1) (.seq (.seq (.ops a91_2) (.block 0 (.loop a91_l8))) (.seq (.ops a91_9) .ret))))⟩
def a92_0 : List AOper := [
 oP 4 (.mv (.c (.int .i64 0)))]
def a92_1 : List AOper := [
 mV 7 0,
 oP 8 (.call 126 [(.t 7)]),
 mV 5 8]
def a92_2 : List AOper := [
 mV 9 1,
 oP 10 (.call 126 [(.t 9)]),
 mV 6 10]
def a92_3 : List AOper := [
 mV 11 5]
def a92_4 : List AOper := [
 mV 12 6]
def a92_5 : List AOper := [
 oP 4 (.mv (.c (.int .i64 0)))]
def a92_6 : List AOper := [
 oP 4 (.mv (.c (.int .i64 (-1))))]
def a92_7 : List AOper := [
 mV 13 6]
def a92_8 : List AOper := [
 oP 4 (.mv (.c (.int .i64 1)))]
def a92_9 : List AOper := [
 mV 14 0,
 mV 15 1,
 oP 16 (.bin .lss (.t 14) (.t 15))]
def a92_10 : List AOper := [
 oP 4 (.mv (.c (.int .i64 (-1))))]
def a92_11 : List AOper := [
 mV 17 0,
 mV 18 1,
 oP 19 (.bin .gtr (.t 17) (.t 18))]
def a92_12 : List AOper := [
 oP 4 (.mv (.c (.int .i64 1)))]
def a92_13 : List AOper := [
 oP 4 (.mv (.c (.int .i64 0)))]
def a92 : AFunc := ⟨[.tmp 4], (.seq (.ops a92_0) (.seq (.ops a92_1) (.seq (.ops a92_2) (.seq (.seq (.ops a92_3) (.cond (.t 11) (.seq (.seq (.ops a92_4) (.cond (.t 12) (.seq (.ops a92_5) .ret) .skip)) (.seq (.ops a92_6) .ret)) .skip)) (.seq (.seq (.ops a92_7) (.cond (.t 13) (.seq (.ops a92_8) .ret) .skip)) (.seq (.seq (.ops a92_9) (.cond (.t 16) (.seq (.ops a92_10) .ret) .skip)) (.seq (.seq (.ops a92_11) (.cond (.t 19) (.seq (.ops a92_12) .ret) .skip)) (.seq (.ops a92_13) .ret))))))))⟩
def a93_0 : List AOper := [
 oP 4 (.mv (.c (.int .i64 0)))]
def a93_1 : List AOper := [
 mV 9 0,
 oP 10 (.len false (.t 9)),
 oP 11 (.mv (.c (.int .i64 0)))]
def a93_2 : List AOper := [
 oP 12 (.bin .lss (.t 11) (.t 10))]
def a93_3 : List AOper := [
 mV 13 11,
 oP 14 (.idxAddr 1 (.t 9) (.t 11)),
 oP 15 (.load false 1 (.t 14)),
 mV 5 13,
 mV 6 15]
def a93_4 : List AOper := [
 mV 16 5,
 mV 17 1,
 oP 18 (.len false (.t 17)),
 oP 19 (.bin .geq (.t 16) (.t 18))]
def a93_5 : List AOper := [
 oP 4 (.mv (.c (.int .i64 1)))]
def a93_6 : List AOper := [
 mV 20 1,
 mV 21 5,
 oP 22 (.idxAddr 1 (.t 20) (.t 21)),
 oP 23 (.load false 1 (.t 22)),
 mV 7 23]
def a93_7 : List AOper := [
 mV 24 6,
 mV 25 7,
 oP 26 (.call 92 [(.t 24), (.t 25)]),
 mV 8 26]
def a93_8 : List AOper := [
 mV 27 8,
 oP 28 (.bin .neq (.t 27) (.c (.int .i64 0)))]
def a93_9 : List AOper := [
 mV 29 8,
 mV 4 29]
def a93_10 : List AOper := [
 oP 30 (.bin .add (.t 11) (.c (.int .i64 1))),
 mV 11 30]
def a93_l11 : AC := (.seq (.ops a93_2) (.seq (.cond (.t 12) .skip (.exit 0)) (.seq (.block 1 (.seq (.ops a93_3) (.seq (.seq (.ops a93_4) (.cond (.t 19) (.seq (.ops a93_5) .ret) .skip)) (.seq (.ops a93_6) (.seq (.ops a93_7) (.seq (.ops a93_8) (.cond (.t 28) (.seq (.ops a93_9) .ret) .skip))))))) (.ops a93_10))))
def a93_12 : List AOper := [
 mV 31 0,
 oP 32 (.len false (.t 31)),
 mV 33 1,
 oP 34 (.len false (.t 33)),
 oP 35 (.bin .lss (.t 32) (.t 34))]
def a93_13 : List AOper := [
 oP 4 (.mv (.c (.int .i64 (-1))))]
def a93_14 : List AOper := [
 oP 4 (.mv (.c (.int .i64 0)))]
def a93 : AFunc := ⟨[.tmp 4], (.seq (.ops a93_0) (.seq (.seq (.ops a93_1) (.block 0 (.loop a93_l11))) (.seq (.seq (.ops a93_12) (.cond (.t 35) (.seq (.ops a93_13) .ret) .skip)) (.seq (.ops a93_14) .ret))))⟩
def a94_0 : List AOper := [
 oP 4 (.mv (.c (.int .i64 0)))]
def a94_1 : List AOper := [
 mV 7 0,
 oP 8 (.call 127 [(.t 7)]),
 mV 5 8]
def a94_2 : List AOper := [
 mV 9 1,
 oP 10 (.call 127 [(.t 9)]),
 mV 6 10]
def a94_3 : List AOper := [
 mV 11 5]
def a94_4 : List AOper := [
 mV 12 6]
def a94_5 : List AOper := [
 oP 4 (.mv (.c (.int .i64 0)))]
def a94_6 : List AOper := [
 oP 4 (.mv (.c (.int .i64 (-1))))]
def a94_7 : List AOper := [
 mV 13 6]
def a94_8 : List AOper := [
 oP 4 (.mv (.c (.int .i64 1)))]
def a94_9 : List AOper := [
 mV 14 0,
 mV 15 1,
 oP 16 (.bin .lss (.t 14) (.t 15))]
def a94_10 : List AOper := [
 oP 4 (.mv (.c (.int .i64 (-1))))]
def a94_11 : List AOper := [
 mV 17 0,
 mV 18 1,
 oP 19 (.bin .gtr (.t 17) (.t 18))]
def a94_12 : List AOper := [
 oP 4 (.mv (.c (.int .i64 1)))]
def a94_13 : List AOper := [
 oP 4 (.mv (.c (.int .i64 0)))]
def a94 : AFunc := ⟨[.tmp 4], (.seq (.ops a94_0) (.seq (.ops a94_1) (.seq (.ops a94_2) (.seq (.seq (.ops a94_3) (.cond (.t 11) (.seq (.seq (.ops a94_4) (.cond (.t 12) (.seq (.ops a94_5) .ret) .skip)) (.seq (.ops a94_6) .ret)) .skip)) (.seq (.seq (.ops a94_7) (.cond (.t 13) (.seq (.ops a94_8) .ret) .skip)) (.seq (.seq (.ops a94_9) (.cond (.t 16) (.seq (.ops a94_10) .ret) .skip)) (.seq (.seq (.ops a94_11) (.cond (.t 19) (.seq (.ops a94_12) .ret) .skip)) (.seq (.ops a94_13) .ret))))))))⟩
def a95_0 : List AOper := [
 oP 6 (.mv (.c (.int .i64 0)))]
def a95_1 : List AOper := [
 mV 11 0,
 oP 12 (.len false (.t 11)),
 oP 13 (.mv (.c (.int .i64 0)))]
def a95_2 : List AOper := [
 oP 14 (.bin .lss (.t 13) (.t 12))]
def a95_3 : List AOper := [
 mV 15 13,
 oP 16 (.idxAddr 6 (.t 11) (.t 13)),
 oP 17 (.load true 6 (.t 16)),
 oP 8 (.alloc [(.int .i64 0), (.int .i64 0), (.str []), (.int .u32 0), .nils, .nils]),
 mV 7 15,
 oN (.store 6 (.t 8) (.t 17))]
def a95_4 : List AOper := [
 mV 18 7,
 mV 19 1,
 oP 20 (.len false (.t 19)),
 oP 21 (.bin .geq (.t 18) (.t 20))]
def a95_5 : List AOper := [
 oP 6 (.mv (.c (.int .i64 1)))]
def a95_6 : List AOper := [
 mV 22 1,
 mV 23 7,
 oP 24 (.idxAddr 6 (.t 22) (.t 23)),
 oP 25 (.load true 6 (.t 24)),
 oP 9 (.alloc [(.int .i64 0), (.int .i64 0), (.str []), (.int .u32 0), .nils, .nils]),
 oN (.store 6 (.t 9) (.t 25))]
def a95_7 : List AOper := [
 mV 26 2,
 oP 27 (.load true 6 (.t 8)),
 oP 28 (.load true 6 (.t 9)),
 oP 29 (.callv (.t 26) [(.t 27), (.t 28)]),
 mV 10 29]
def a95_8 : List AOper := [
 mV 30 10,
 oP 31 (.bin .neq (.t 30) (.c (.int .i64 0)))]
def a95_9 : List AOper := [
 mV 32 10,
 mV 6 32]
def a95_10 : List AOper := [
 oP 33 (.bin .add (.t 13) (.c (.int .i64 1))),
 mV 13 33]
def a95_l11 : AC := (.seq (.ops a95_2) (.seq (.cond (.t 14) .skip (.exit 0)) (.seq (.block 1 (.seq (.ops a95_3) (.seq (.seq (.ops a95_4) (.cond (.t 21) (.seq (.ops a95_5) .ret) .skip)) (.seq (.ops a95_6) (.seq (.ops a95_7) (.seq (.ops a95_8) (.cond (.t 31) (.seq (.ops a95_9) .ret) .skip))))))) (.ops a95_10))))
def a95_12 : List AOper := [
 mV 34 0,
 oP 35 (.len false (.t 34)),
 mV 36 1,
 oP 37 (.len false (.t 36)),
 oP 38 (.bin .lss (.t 35) (.t 37))]
def a95_13 : List AOper := [
 oP 6 (.mv (.c (.int .i64 (-1))))]
def a95_14 : List AOper := [
 oP 6 (.mv (.c (.int .i64 0)))]
def a95 : AFunc := ⟨[.tmp 6], (.seq (.ops a95_0) (.seq (.seq (.ops a95_1) (.block 0 (.loop a95_l11))) (.seq (.seq (.ops a95_12) (.cond (.t 38) (.seq (.ops a95_13) .ret) .skip)) (.seq (.ops a95_14) .ret))))⟩
def a96_0 : List AOper := [
 oP 4 (.mv (.c (.int .i64 0)))]
def a96_1 : List AOper := [
 mV 7 0,
 oP 8 (.len false (.t 7)),
 oP 9 (.bin .gtr (.t 8) (.c (.int .i64 1))),
 mV 10 9,
 oG 11 (.mv (.t 1)) 10 true,
 oG 12 (.len false (.t 11)) 10 true,
 oG 13 (.bin .gtr (.t 12) (.c (.int .i64 1))) 10 true,
 oP 14 (.pick (.t 10) (.t 13) (.c (.bool false)))]
def a96_2 : List AOper := [
 mV 15 0,
 oP 16 (.idxAddr 6 (.t 15) (.c (.int .i64 0))),
 oP 17 (.load true 6 (.t 16)),
 mV 18 1,
 oP 19 (.idxAddr 6 (.t 18) (.c (.int .i64 0))),
 oP 20 (.load true 6 (.t 19)),
 oP 21 (.call 53 [(.t 17), (.t 20)]),
 mV 5 21]
def a96_2b : List Nat := [0, 1, 3, 0, 8, 24, 63, 127]
def a96_3 : List AOper := [
 mV 22 5,
 oP 23 (.bin .neq (.t 22) (.c (.int .i64 0)))]
def a96_4 : List AOper := [
 mV 24 5,
 mV 4 24]
def a96_5 : List AOper := [
 mV 25 0,
 oP 26 (.slice 6 (.t 25) (some (.c (.int .i64 1))) none none),
 mV 27 1,
 oP 28 (.slice 6 (.t 27) (some (.c (.int .i64 1))) none none),
 mV 0 26,
 mV 1 28]
def a96_5b : List Nat := [0, 1, 0, 4, 3, 31]
def a96_l6 : AC := (.seq (.seq (.ops a96_1) (.cond (.t 14) .skip (.exit 0))) (.block 1 (.seq (.seq (.draw a96_2 a96_2b) (.seq (.ops a96_3) (.cond (.t 23) (.seq (.ops a96_4) .ret) .skip))) (.draw a96_5 a96_5b))))
def a96_7 : List AOper := [
 oP 6 (.mv (.c (.fn (.func 128) [] [])))]
def a96_8 : List AOper := [
 mV 29 6,
 mV 30 0,
 oP 31 (.callv (.t 29) [(.t 30)]),
 mV 32 6,
 mV 33 1,
 oP 34 (.callv (.t 32) [(.t 33)]),
 oP 35 (.call 53 [(.t 31), (.t 34)]),
 mV 4 35]
def a96 : AFunc := ⟨[.tmp 4], (.seq (.ops a96_0) (.seq (.block 0 (.loop a96_l6)) (.seq (.ops a96_7) (.seq (.ops a96_8) .ret))))⟩
def a97_0 : List AOper := [
 oP 4 (.box false 6 (.t 1)),
 oP 6 (.mv (.c .nili))]
def a97_1 : List AOper := [
 mV 12 0,
 oP 13 (.nilCheck (.t 12)),
 oP 14 (.fieldAddr 0 (.t 13)),
 oP 15 (.load false 1 (.t 14)),
 mV 7 15]
def a97_2 : List AOper := [
 mV 17 7,
 oP 18 (.bin .eql (.t 17) (.c (.int .i64 4096))),
 mV 16 18]
def a97_3 : List AOper := [
 mV 19 7,
 oP 20 (.call 129 [(.t 19), (.c (.int .i64 5)), (.c .nili)]),
 mV 6 20]
def a97_4 : List AOper := [
 mV 22 2,
 oP 23 (.bin .gtr (.t 22) (.c (.int .i64 256))),
 mV 21 23]
def a97_5 : List AOper := [
 mV 24 7,
 oP 25 (.call 129 [(.t 24), (.c (.int .i64 9)), (.c .nili)]),
 mV 6 25]
def a97_6 : List AOper := [
 oP 26 (.load true 6 (.t 4)),
 mV 27 7,
 oP 28 (.call 130 [(.t 26), (.t 27)]),
 mV 8 28]
def a97_7 : List AOper := [
 mV 29 8,
 oP 30 (.eq true (.iface true) (.t 29) (.c .nili))]
def a97_8 : List AOper := [
 mV 31 8,
 mV 6 31]
def a97_9 : List AOper := [
 mV 32 0,
 oP 33 (.nilCheck (.t 32)),
 oP 34 (.fieldAddr 0 (.t 33)),
 oP 35 (.load false 1 (.t 34)),
 oP 36 (.bin .add (.t 35) (.c (.int .i64 1))),
 oP 37 (.nilCheck (.t 32)),
 oP 38 (.fieldAddr 0 (.t 37)),
 oN (.store 1 (.t 38) (.t 36))]
def a97_10 : List AOper := [
 mV 39 0,
 mV 40 0,
 oP 41 (.nilCheck (.t 40)),
 oP 42 (.fieldAddr 1 (.t 41)),
 oP 43 (.load false 1 (.t 42)),
 mV 44 2,
 oP 45 (.minmax true (.t 43) (.t 44)),
 oP 46 (.nilCheck (.t 39)),
 oP 47 (.fieldAddr 1 (.t 46)),
 oN (.store 1 (.t 47) (.t 45))]
def a97_11 : List AOper := [
 oP 48 (.fieldAddr 5 (.t 4)),
 oP 49 (.load false 1 (.t 48)),
 oP 50 (.len false (.t 49)),
 oP 51 (.mv (.c (.int .i64 0)))]
def a97_12 : List AOper := [
 oP 52 (.bin .lss (.t 51) (.t 50))]
def a97_13 : List AOper := [
 oP 53 (.idxAddr 6 (.t 49) (.t 51)),
 oP 54 (.load true 6 (.t 53)),
 oP 10 (.alloc [(.int .i64 0), (.int .i64 0), (.str []), (.int .u32 0), .nils, .nils]),
 oN (.store 6 (.t 10) (.t 54))]
def a97_14 : List AOper := [
 mV 55 0,
 oP 56 (.load true 6 (.t 10)),
 mV 57 2,
 oP 58 (.bin .add (.t 57) (.c (.int .i64 1))),
 oP 59 (.call 97 [(.t 55), (.t 56), (.t 58)]),
 mV 11 59]
def a97_15 : List AOper := [
 mV 60 11,
 oP 61 (.eq true (.iface true) (.t 60) (.c .nili))]
def a97_16 : List AOper := [
 mV 62 11,
 mV 6 62]
def a97_17 : List AOper := [
 oP 63 (.bin .add (.t 51) (.c (.int .i64 1))),
 mV 51 63]
def a97_l18 : AC := (.seq (.ops a97_12) (.seq (.cond (.t 52) .skip (.exit 1)) (.seq (.block 2 (.seq (.ops a97_13) (.seq (.ops a97_14) (.seq (.ops a97_15) (.cond (.t 61) (.seq (.ops a97_16) .ret) .skip))))) (.ops a97_17))))
def a97_19 : List AOper := [
 oP 6 (.mv (.c .nili))]
def a97 : AFunc := ⟨[.tmp 6], (.seq (.ops a97_0) (.seq (.ops a97_1) (.seq (.block 0 (.seq (.ops a97_2) (.cond (.t 16) (.seq (.ops a97_3) .ret) (.seq (.ops a97_4) (.cond (.t 21) (.seq (.ops a97_5) .ret) .skip))))) (.seq (.seq (.ops a97_6) (.seq (.ops a97_7) (.cond (.t 30) (.seq (.ops a97_8) .ret) .skip))) (.seq (.ops a97_9) (.seq (.ops a97_10) (.seq (.seq (.ops a97_11) (.block 1 (.loop a97_l18))) (.seq (.ops a97_19) .ret))))))))⟩
def a113_0 : List AOper := [
 oP 1 (.box false 6 (.t 0)),
 oP 2 (.alloc [(.int .i64 0), (.int .i64 0), (.str []), (.int .u32 0), .nils, .nils])]
def a113_1 : List AOper := [
 oP 3 (.fieldAddr 5 (.t 1)),
 oP 4 (.load false 1 (.t 3)),
 oP 5 (.len false (.t 4)),
 oP 6 (.bin .eql (.t 5) (.c (.int .i64 2)))]
def a113_2 : List AOper := [
 oP 7 (.fieldAddr 5 (.t 1)),
 oP 8 (.load false 1 (.t 7)),
 oP 9 (.idxAddr 6 (.t 8) (.c (.int .i64 1))),
 oP 10 (.load true 6 (.t 9)),
 oN (.store 6 (.t 2) (.t 10))]
def a113_3 : List AOper := [
 oP 11 (.fieldAddr 5 (.t 1)),
 oP 12 (.load false 1 (.t 11)),
 oP 13 (.slice 6 (.t 12) (some (.c (.int .i64 1))) none none),
 oP 14 (.build [(.int .i64 0), (.int .i64 0), (.str []), (.int .u32 0), .nils, .nils] [(0, 1, (.c (.int .i64 7))), (5, 1, (.t 13))]),
 oN (.store 6 (.t 2) (.t 14))]
def a113 : AFunc := ⟨[.cell 2 true 6], (.seq (.ops a113_0) (.seq (.seq (.ops a113_1) (.cond (.t 6) (.seq (.ops a113_2) .ret) .skip)) (.seq (.ops a113_3) .ret)))⟩
def a119_0 : List AOper := [
 oP 2 (.mv (.c .nils))]
def a119_1 : List AOper := [
 oP 3 (.mv (.c (.str [105, 115, 99, 110, 97])))]
def a119_2 : List AOper := [
 oP 7 (.makeSlice 1 1 [(.bool false)] (.c (.int .i64 5)) (.c (.int .i64 5))),
 mV 4 7]
def a119_3 : List AOper := [
 oP 5 (.mv (.c (.int .i64 0)))]
def a119_4 : List AOper := [
 mV 8 5,
 oP 9 (.bin .lss (.t 8) (.c (.int .i64 5)))]
def a119_5 : List AOper := [
 oP 6 (.mv (.c (.int .i64 0)))]
def a119_6 : List AOper := [
 mV 12 6,
 mV 13 0,
 oP 14 (.len true (.t 13)),
 oP 15 (.bin .lss (.t 12) (.t 14))]
def a119_7 : List AOper := [
 mV 18 4,
 mV 19 5,
 mV 20 4,
 mV 21 5,
 oP 22 (.idxAddr 1 (.t 20) (.t 21)),
 oP 23 (.load false 1 (.t 22)),
 mV 24 23,
 oG 25 (.mv (.t 3)) 24 false,
 oG 26 (.mv (.t 5)) 24 false,
 oG 27 (.idxStr (.t 25) (.t 26)) 24 false,
 oG 28 (.mv (.t 0)) 24 false,
 oG 29 (.mv (.t 6)) 24 false,
 oG 30 (.idxStr (.t 28) (.t 29)) 24 false,
 oG 31 (.bin .eql (.t 27) (.t 30)) 24 false,
 oP 32 (.pick (.t 24) (.c (.bool true)) (.t 31)),
 oP 33 (.idxAddr 1 (.t 18) (.t 19)),
 oN (.store 1 (.t 33) (.t 32))]
def a119_7b : List Nat := [0, 0, 0, 0, 12, 28, 60, 124, 124, 508, 124, 124, 3196, 8188, 16380, 32767, 65535]
def a119_8 : List AOper := [
 mV 16 6,
 oP 17 (.bin .add (.t 16) (.c (.int .i64 1))),
 mV 6 17]
def a119_l9 : AC := (.seq (.seq (.ops a119_6) (.cond (.t 15) .skip (.exit 2))) (.seq (.block 3 (.draw a119_7 a119_7b)) (.ops a119_8)))
def a119_10 : List AOper := [
 mV 10 5,
 oP 11 (.bin .add (.t 10) (.c (.int .i64 1))),
 mV 5 11]
def a119_l11 : AC := (.seq (.seq (.ops a119_4) (.cond (.t 9) .skip (.exit 0))) (.seq (.block 1 (.seq (.ops a119_5) (.block 2 (.loop a119_l9)))) (.ops a119_10)))
def a119_12 : List AOper := [
 mV 34 4,
 mV 2 34]
def a119 : AFunc := ⟨[.tmp 2], (.seq (.ops a119_0) (.seq (.ops a119_1) (.seq (.ops a119_2) (.seq (.seq (.ops a119_3) (.block 0 (.loop a119_l11))) (.seq (.ops a119_12) .ret)))))⟩
def a120_0 : List AOper := [
 oP 4 (.mv (.c (.int .i64 0)))]
def a120_1 : List AOper := [
 mV 10 0,
 mV 11 1,
 oP 12 (.idxStr (.t 10) (.t 11)),
 mV 5 12]
def a120_2 : List AOper := [
 oP 6 (.mv (.c (.int .i64 0)))]
def a120_3 : List AOper := [
 oP 7 (.mv (.c (.int .i64 0)))]
def a120_4 : List AOper := [
 mV 14 5,
 oP 15 (.bin .lss (.t 14) (.c (.int .u8 128))),
 mV 13 15]
def a120_5 : List AOper := [
 oP 4 (.mv (.c (.int .i64 1)))]
def a120_6 : List AOper := [
 mV 17 5,
 oP 18 (.bin .geq (.t 17) (.c (.int .u8 194))),
 mV 19 18,
 oG 20 (.mv (.t 5)) 19 true,
 oG 21 (.bin .leq (.t 20) (.c (.int .u8 223))) 19 true,
 oP 22 (.pick (.t 19) (.t 21) (.c (.bool false))),
 mV 16 22]
def a120_7 : List AOper := [
 mV 23 5,
 oP 24 (.conv (.int .i64) (.t 23)),
 oP 25 (.bin .sub (.t 24) (.c (.int .i64 192))),
 oP 6 (.mv (.c (.int .i64 2))),
 mV 7 25]
def a120_8 : List AOper := [
 mV 27 5,
 oP 28 (.bin .geq (.t 27) (.c (.int .u8 224))),
 mV 29 28,
 oG 30 (.mv (.t 5)) 29 true,
 oG 31 (.bin .leq (.t 30) (.c (.int .u8 239))) 29 true,
 oP 32 (.pick (.t 29) (.t 31) (.c (.bool false))),
 mV 26 32]
def a120_9 : List AOper := [
 mV 33 5,
 oP 34 (.conv (.int .i64) (.t 33)),
 oP 35 (.bin .sub (.t 34) (.c (.int .i64 224))),
 oP 6 (.mv (.c (.int .i64 3))),
 mV 7 35]
def a120_10 : List AOper := [
 mV 37 5,
 oP 38 (.bin .geq (.t 37) (.c (.int .u8 240))),
 mV 39 38,
 oG 40 (.mv (.t 5)) 39 true,
 oG 41 (.bin .leq (.t 40) (.c (.int .u8 244))) 39 true,
 oP 42 (.pick (.t 39) (.t 41) (.c (.bool false))),
 mV 36 42]
def a120_11 : List AOper := [
 mV 43 5,
 oP 44 (.conv (.int .i64) (.t 43)),
 oP 45 (.bin .sub (.t 44) (.c (.int .i64 240))),
 oP 6 (.mv (.c (.int .i64 4))),
 mV 7 45]
def a120_12 : List AOper := [
 oP 4 (.mv (.c (.int .i64 0)))]
def a120_13 : List AOper := [
 mV 46 1,
 mV 47 6,
 oP 48 (.bin .add (.t 46) (.t 47)),
 mV 49 0,
 oP 50 (.len true (.t 49)),
 oP 51 (.bin .gtr (.t 48) (.t 50))]
def a120_14 : List AOper := [
 oP 4 (.mv (.c (.int .i64 0)))]
def a120_15 : List AOper := [
 oP 8 (.mv (.c (.int .i64 1)))]
def a120_16 : List AOper := [
 mV 52 8,
 mV 53 6,
 oP 54 (.bin .lss (.t 52) (.t 53))]
def a120_17 : List AOper := [
 mV 57 0,
 mV 58 1,
 mV 59 8,
 oP 60 (.bin .add (.t 58) (.t 59)),
 oP 61 (.idxStr (.t 57) (.t 60)),
 mV 9 61]
def a120_18 : List AOper := [
 mV 62 9,
 oP 63 (.bin .lss (.t 62) (.c (.int .u8 128))),
 mV 64 63,
 oG 65 (.mv (.t 9)) 64 false,
 oG 66 (.bin .gtr (.t 65) (.c (.int .u8 191))) 64 false,
 oP 67 (.pick (.t 64) (.c (.bool true)) (.t 66))]
def a120_19 : List AOper := [
 oP 4 (.mv (.c (.int .i64 0)))]
def a120_20 : List AOper := [
 mV 68 7,
 oP 69 (.bin .mul (.t 68) (.c (.int .i64 64))),
 mV 70 9,
 oP 71 (.conv (.int .i64) (.t 70)),
 oP 72 (.bin .add (.t 69) (.t 71)),
 oP 73 (.bin .sub (.t 72) (.c (.int .i64 128))),
 mV 7 73]
def a120_21 : List AOper := [
 mV 55 8,
 oP 56 (.bin .add (.t 55) (.c (.int .i64 1))),
 mV 8 56]
def a120_l22 : AC := (.seq (.seq (.ops a120_16) (.cond (.t 54) .skip (.exit 1))) (.seq (.block 2 (.seq (.ops a120_17) (.seq (.seq (.ops a120_18) (.cond (.t 67) (.seq (.ops a120_19) .ret) .skip)) (.ops a120_20)))) (.ops a120_21)))
def a120_23 : List AOper := [
 mV 74 6,
 oP 75 (.bin .eql (.t 74) (.c (.int .i64 3))),
 mV 76 75,
 oG 77 (.mv (.t 7)) 76 true,
 oG 78 (.bin .lss (.t 77) (.c (.int .i64 2048))) 76 true,
 oG 79 (.mv (.t 78)) 76 true,
 oG 80 (.mv (.t 7)) 79 false,
 oG 81 (.bin .geq (.t 80) (.c (.int .i64 55296))) 79 false,
 oG 82 (.mv (.t 81)) 79 false,
 oG 83 (.mv (.t 7)) 82 true,
 oG 84 (.bin .leq (.t 83) (.c (.int .i64 57343))) 82 true,
 oG 85 (.pick (.t 82) (.t 84) (.c (.bool false))) 79 false,
 oG 86 (.pick (.t 79) (.c (.bool true)) (.t 85)) 76 true,
 oP 87 (.pick (.t 76) (.t 86) (.c (.bool false))),
 mV 88 87,
 oG 89 (.mv (.t 6)) 88 false,
 oG 90 (.bin .eql (.t 89) (.c (.int .i64 4))) 88 false,
 oG 91 (.mv (.t 90)) 88 false,
 oG 92 (.mv (.t 7)) 91 true,
 oG 93 (.bin .lss (.t 92) (.c (.int .i64 65536))) 91 true,
 oG 94 (.mv (.t 93)) 91 true,
 oG 95 (.mv (.t 7)) 94 false,
 oG 96 (.bin .gtr (.t 95) (.c (.int .i64 1114111))) 94 false,
 oG 97 (.pick (.t 94) (.c (.bool true)) (.t 96)) 91 true,
 oG 98 (.pick (.t 91) (.t 97) (.c (.bool false))) 88 false,
 oP 99 (.pick (.t 88) (.c (.bool true)) (.t 98))]
def a120_24 : List AOper := [
 oP 4 (.mv (.c (.int .i64 0)))]
def a120_25 : List AOper := [
 mV 100 6,
 mV 4 100]
def a120 : AFunc := ⟨[.tmp 4], (.seq (.ops a120_0) (.seq (.ops a120_1) (.seq (.ops a120_2) (.seq (.ops a120_3) (.seq (.block 0 (.seq (.ops a120_4) (.cond (.t 13) (.seq (.ops a120_5) .ret) (.seq (.ops a120_6) (.cond (.t 16) (.ops a120_7) (.seq (.ops a120_8) (.cond (.t 26) (.ops a120_9) (.seq (.ops a120_10) (.cond (.t 36) (.ops a120_11) (.seq (.ops a120_12) .ret)))))))))) (.seq (.seq (.ops a120_13) (.cond (.t 51) (.seq (.ops a120_14) .ret) .skip)) (.seq (.seq (.ops a120_15) (.block 1 (.loop a120_l22))) (.seq (.seq (.ops a120_23) (.cond (.t 99) (.seq (.ops a120_24) .ret) .skip)) (.seq (.ops a120_25) .ret)))))))))⟩
def a121_0 : List AOper := [
 oP 2 (.mv (.c (.bool false)))]
def a121_1 : List AOper := [
 mV 3 0,
 oP 4 (.bin .geq (.t 3) (.c (.int .u8 97))),
 mV 5 4,
 oG 6 (.mv (.t 0)) 5 true,
 oG 7 (.bin .leq (.t 6) (.c (.int .u8 122))) 5 true,
 oP 8 (.pick (.t 5) (.t 7) (.c (.bool false))),
 mV 2 8]
def a121 : AFunc := ⟨[.tmp 2], (.seq (.ops a121_0) (.seq (.ops a121_1) .ret))⟩
def a122_0 : List AOper := [
 oP 2 (.mv (.c (.bool false)))]
def a122_1 : List AOper := [
 oP 5 (.lit true 1 19 [(.str []), (.str []), (.str []), (.str []), (.str []), (.str []), (.str []), (.str []), (.str []), (.str []), (.str []), (.str []), (.str []), (.str []), (.str []), (.str []), (.str []), (.str []), (.str [])] [(0, 1, (.c (.str [97, 102, 116, 101, 114]))), (1, 1, (.c (.str [97, 110, 100]))), (2, 1, (.c (.str [97, 110, 100, 97, 108, 115, 111]))), (3, 1, (.c (.str [98, 101, 103, 105, 110]))), (4, 1, (.c (.str [99, 97, 115, 101]))), (5, 1, (.c (.str [99, 97, 116, 99, 104]))), (6, 1, (.c (.str [100, 105, 118]))), (7, 1, (.c (.str [101, 110, 100]))), (8, 1, (.c (.str [102, 117, 110]))), (9, 1, (.c (.str [105, 102]))), (10, 1, (.c (.str [110, 111, 116]))), (11, 1, (.c (.str [111, 102]))), (12, 1, (.c (.str [111, 114]))), (13, 1, (.c (.str [111, 114, 101, 108, 115, 101]))), (14, 1, (.c (.str [114, 101, 99, 101, 105, 118, 101]))), (15, 1, (.c (.str [114, 101, 109]))), (16, 1, (.c (.str [116, 114, 121]))), (17, 1, (.c (.str [119, 104, 101, 110]))), (18, 1, (.c (.str [120, 111, 114])))]),
 mV 3 5]
def a122_2 : List AOper := [
 oP 4 (.mv (.c (.int .i64 0)))]
def a122_3 : List AOper := [
 mV 6 4,
 mV 7 3,
 oP 8 (.len false (.t 7)),
 oP 9 (.bin .lss (.t 6) (.t 8))]
def a122_4 : List AOper := [
 mV 12 3,
 mV 13 4,
 oP 14 (.idxAddr 1 (.t 12) (.t 13)),
 oP 15 (.load false 1 (.t 14)),
 mV 16 0,
 oP 17 (.bin .eql (.t 15) (.t 16))]
def a122_5 : List AOper := [
 oP 2 (.mv (.c (.bool true)))]
def a122_6 : List AOper := [
 mV 10 4,
 oP 11 (.bin .add (.t 10) (.c (.int .i64 1))),
 mV 4 11]
def a122_l7 : AC := (.seq (.seq (.ops a122_3) (.cond (.t 9) .skip (.exit 0))) (.seq (.block 1 (.seq (.ops a122_4) (.cond (.t 17) (.seq (.ops a122_5) .ret) .skip))) (.ops a122_6)))
def a122_8 : List AOper := [
 oP 2 (.mv (.c (.bool false)))]
def a122 : AFunc := ⟨[.tmp 2], (.seq (.ops a122_0) (.seq (.ops a122_1) (.seq (.seq (.ops a122_2) (.block 0 (.loop a122_l7))) (.seq (.ops a122_8) .ret))))⟩
def a123_0 : List AOper := [
 oP 2 (.mv (.c (.bool false)))]
def a123_1 : List AOper := [
 mV 3 0,
 mV 4 0,
 oP 5 (.bin .neq (.t 3) (.t 4)),
 mV 2 5]
def a123 : AFunc := ⟨[.tmp 2], (.seq (.ops a123_0) (.seq (.ops a123_1) .ret))⟩
def a124_0 : List AOper := [
 oP 2 (.mv (.c (.bool false)))]
def a124_1 : List AOper := [
 mV 3 0,
 mV 4 0,
 oP 5 (.bin .neq (.t 3) (.t 4)),
 mV 2 5]
def a124 : AFunc := ⟨[.tmp 2], (.seq (.ops a124_0) (.seq (.ops a124_1) .ret))⟩
def a125_0 : List AOper := [
 oP 2 (.mv (.c (.bool false)))]
def a125_1 : List AOper := [
 mV 3 0,
 mV 4 0,
 oP 5 (.bin .neq (.t 3) (.t 4)),
 mV 2 5]
def a125 : AFunc := ⟨[.tmp 2], (.seq (.ops a125_0) (.seq (.ops a125_1) .ret))⟩
def a126_0 : List AOper := [
 oP 2 (.mv (.c (.bool false)))]
def a126_1 : List AOper := [
 mV 3 0,
 mV 4 0,
 oP 5 (.bin .neq (.t 3) (.t 4)),
 mV 2 5]
def a126 : AFunc := ⟨[.tmp 2], (.seq (.ops a126_0) (.seq (.ops a126_1) .ret))⟩
def a127_0 : List AOper := [
 oP 2 (.mv (.c (.bool false)))]
def a127_1 : List AOper := [
 mV 3 0,
 mV 4 0,
 oP 5 (.bin .neq (.t 3) (.t 4)),
 mV 2 5]
def a127 : AFunc := ⟨[.tmp 2], (.seq (.ops a127_0) (.seq (.ops a127_1) .ret))⟩
def a128_0 : List AOper := [
 oP 2 (.alloc [(.int .i64 0), (.int .i64 0), (.str []), (.int .u32 0), .nils, .nils])]
def a128_1 : List AOper := [
 mV 3 0,
 oP 4 (.len false (.t 3)),
 oP 5 (.bin .eql (.t 4) (.c (.int .i64 1)))]
def a128_2 : List AOper := [
 mV 6 0,
 oP 7 (.idxAddr 6 (.t 6) (.c (.int .i64 0))),
 oP 8 (.load true 6 (.t 7)),
 oN (.store 6 (.t 2) (.t 8))]
def a128_3 : List AOper := [
 mV 9 0,
 oP 10 (.build [(.int .i64 0), (.int .i64 0), (.str []), (.int .u32 0), .nils, .nils] [(0, 1, (.c (.int .i64 7))), (5, 1, (.t 9))]),
 oN (.store 6 (.t 2) (.t 10))]
def a128 : AFunc := ⟨[.cell 2 true 6], (.seq (.ops a128_0) (.seq (.seq (.ops a128_1) (.cond (.t 5) (.seq (.ops a128_2) .ret) .skip)) (.seq (.ops a128_3) .ret)))⟩
def a129_0 : List AOper := [
 oP 6 (.mv (.c .nili))]
def a129_1 : List AOper := [
 mV 7 0,
 mV 8 1,
 mV 9 2,
 oP 10 (.build [(.str []), (.int .i64 0), (.int .i64 0), .nili] [(0, 1, (.c (.str [116, 101, 114, 109]))), (1, 1, (.t 7)), (2, 1, (.t 8)), (3, 1, (.t 9))]),
 oP 11 (.box true 4 (.t 10)),
 oP 12 (.mkIface 69 (.t 11)),
 mV 6 12]
def a129 : AFunc := ⟨[.tmp 6], (.seq (.ops a129_0) (.seq (.ops a129_1) .ret))⟩
def a130_0 : List AOper := [
 oP 2 (.box false 6 (.t 0)),
 oP 4 (.mv (.c .nili))]
def a130_1 : List AOper := [
 oP 5 (.mv (.c (.bool false)))]
def a130_2 : List AOper := [
 oP 7 (.fieldAddr 0 (.t 2)),
 oP 8 (.load false 1 (.t 7))]
def a130_3 : List AOper := [
 oP 10 (.bin .eql (.t 8) (.c (.int .i64 1))),
 mV 9 10]
def a130_4 : List AOper := [
 oP 11 (.load true 6 (.t 2)),
 oP 12 (.call 139 [(.t 11), (.c (.bool false)), (.c (.bool false)), (.c (.bool false))]),
 mV 5 12]
def a130_5 : List AOper := [
 oP 14 (.bin .eql (.t 8) (.c (.int .i64 2))),
 mV 13 14]
def a130_6 : List AOper := [
 oP 15 (.load true 6 (.t 2)),
 oP 16 (.call 139 [(.t 15), (.c (.bool true)), (.c (.bool false)), (.c (.bool false))]),
 mV 5 16]
def a130_7 : List AOper := [
 oP 18 (.bin .eql (.t 8) (.c (.int .i64 3))),
 mV 17 18]
def a130_8 : List AOper := [
 oP 19 (.load true 6 (.t 2)),
 oP 20 (.call 139 [(.t 19), (.c (.bool true)), (.c (.bool true)), (.c (.bool false))]),
 mV 21 20,
 oG 22 (.fieldAddr 4 (.t 2)) 21 true,
 oG 23 (.load false 1 (.t 22)) 21 true,
 oG 24 (.len false (.t 23)) 21 true,
 oG 25 (.bin .eql (.t 24) (.c (.int .i64 3))) 21 true,
 oP 26 (.pick (.t 21) (.t 25) (.c (.bool false))),
 mV 5 26]
def a130_9 : List AOper := [
 oP 28 (.bin .eql (.t 8) (.c (.int .i64 4))),
 mV 27 28]
def a130_10 : List AOper := [
 oP 29 (.load true 6 (.t 2)),
 oP 30 (.call 139 [(.t 29), (.c (.bool true)), (.c (.bool true)), (.c (.bool false))]),
 mV 31 30,
 oG 32 (.fieldAddr 4 (.t 2)) 31 true,
 oG 33 (.load false 1 (.t 32)) 31 true,
 oG 34 (.len false (.t 33)) 31 true,
 oG 35 (.bin .eql (.t 34) (.c (.int .i64 2))) 31 true,
 oP 36 (.pick (.t 31) (.t 35) (.c (.bool false))),
 mV 5 36]
def a130_11 : List AOper := [
 oP 38 (.bin .eql (.t 8) (.c (.int .i64 5))),
 mV 37 38]
def a130_12 : List AOper := [
 oP 39 (.load true 6 (.t 2)),
 oP 40 (.call 139 [(.t 39), (.c (.bool false)), (.c (.bool false)), (.c (.bool true))]),
 mV 5 40]
def a130_13 : List AOper := [
 oP 42 (.bin .eql (.t 8) (.c (.int .i64 6))),
 mV 41 42]
def a130_14 : List AOper := [
 oP 43 (.load true 6 (.t 2)),
 oP 44 (.call 139 [(.t 43), (.c (.bool false)), (.c (.bool false)), (.c (.bool false))]),
 mV 5 44]
def a130_15 : List AOper := [
 oP 46 (.bin .eql (.t 8) (.c (.int .i64 7))),
 mV 45 46]
def a130_16 : List AOper := [
 oP 47 (.load true 6 (.t 2)),
 oP 48 (.call 139 [(.t 47), (.c (.bool false)), (.c (.bool false)), (.c (.bool true))]),
 mV 49 48,
 oG 50 (.fieldAddr 5 (.t 2)) 49 true,
 oG 51 (.load false 1 (.t 50)) 49 true,
 oG 52 (.len false (.t 51)) 49 true,
 oG 53 (.bin .geq (.t 52) (.c (.int .i64 2))) 49 true,
 oP 54 (.pick (.t 49) (.t 53) (.c (.bool false))),
 mV 55 54,
 oG 56 (.fieldAddr 5 (.t 2)) 55 true,
 oG 57 (.load false 1 (.t 56)) 55 true,
 oG 58 (.fieldAddr 5 (.t 2)) 55 true,
 oG 59 (.load false 1 (.t 58)) 55 true,
 oG 60 (.len false (.t 59)) 55 true,
 oG 61 (.bin .sub (.t 60) (.c (.int .i64 1))) 55 true,
 oG 62 (.idxAddr 6 (.t 57) (.t 61)) 55 true,
 oG 63 (.fieldAddr 0 (.t 62)) 55 true,
 oG 64 (.load false 1 (.t 63)) 55 true,
 oG 65 (.bin .neq (.t 64) (.c (.int .i64 7))) 55 true,
 oP 66 (.pick (.t 55) (.t 65) (.c (.bool false))),
 mV 5 66]
def a130_17 : List AOper := [
 mV 67 5,
 oP 68 (.un .not (.t 67))]
def a130_18 : List AOper := [
 mV 69 1,
 oP 70 (.call 129 [(.t 69), (.c (.int .i64 40)), (.c .nili)]),
 mV 4 70]
def a130_19 : List AOper := [
 oP 6 (.mv (.c .nili))]
def a130_20 : List AOper := [
 oP 71 (.fieldAddr 0 (.t 2)),
 oP 72 (.load false 1 (.t 71))]
def a130_21 : List AOper := [
 oP 74 (.bin .eql (.t 72) (.c (.int .i64 1))),
 mV 73 74]
def a130_22 : List AOper := [
 oP 75 (.fieldAddr 1 (.t 2)),
 oP 76 (.load false 1 (.t 75)),
 oP 77 (.bin .lss (.t 76) (.c (.int .i64 (-576460752303423488)))),
 mV 78 77,
 oG 79 (.fieldAddr 1 (.t 2)) 78 false,
 oG 80 (.load false 1 (.t 79)) 78 false,
 oG 81 (.bin .gtr (.t 80) (.c (.int .i64 576460752303423487))) 78 false,
 oP 82 (.pick (.t 78) (.c (.bool true)) (.t 81))]
def a130_23 : List AOper := [
 mV 83 1,
 oP 84 (.call 129 [(.t 83), (.c (.int .i64 2)), (.c .nili)]),
 mV 4 84]
def a130_24 : List AOper := [
 oP 86 (.bin .eql (.t 72) (.c (.int .i64 2))),
 mV 85 86]
def a130_25 : List AOper := [
 oP 88 (.fieldAddr 2 (.t 2)),
 oP 89 (.load false 1 (.t 88)),
 oP 90 (.call 140 [(.t 89)]),
 mV 87 90,
 oP 91 (.extract (.t 87) 0),
 oP 92 (.extract (.t 87) 1),
 mV 6 92]
def a130_26 : List AOper := [
 oP 94 (.bin .eql (.t 72) (.c (.int .i64 3))),
 mV 93 94]
def a130_27 : List AOper := [
 oP 95 (.bin .eql (.t 72) (.c (.int .i64 4))),
 mV 93 95]
def a130_28 : List AOper := [
 oP 97 (.fieldAddr 2 (.t 2)),
 oP 98 (.load false 1 (.t 97)),
 oP 99 (.call 141 [(.t 98)]),
 mV 96 99,
 oP 100 (.extract (.t 96) 0),
 oP 101 (.extract (.t 96) 1),
 oP 102 (.extract (.t 96) 2),
 mV 6 102]
def a130_29 : List AOper := [
 mV 103 6,
 oP 104 (.eq true (.iface true) (.t 103) (.c .nili))]
def a130_30 : List AOper := [
 mV 105 1,
 mV 106 6,
 oP 107 (.call 142 [(.t 106)]),
 mV 108 6,
 oP 109 (.call 129 [(.t 105), (.t 107), (.t 108)]),
 mV 4 109]
def a130_31 : List AOper := [
 oP 4 (.mv (.c .nili))]
def a130 : AFunc := ⟨[.tmp 4], (.seq (.ops a130_0) (.seq (.ops a130_1) (.seq (.seq (.ops a130_2) (.block 0 (.seq (.ops a130_3) (.cond (.t 9) (.ops a130_4) (.seq (.ops a130_5) (.cond (.t 13) (.ops a130_6) (.seq (.ops a130_7) (.cond (.t 17) (.ops a130_8) (.seq (.ops a130_9) (.cond (.t 27) (.ops a130_10) (.seq (.ops a130_11) (.cond (.t 37) (.ops a130_12) (.seq (.ops a130_13) (.cond (.t 41) (.ops a130_14) (.seq (.ops a130_15) (.cond (.t 45) (.ops a130_16) .skip)))))))))))))))) (.seq (.seq (.ops a130_17) (.cond (.t 68) (.seq (.ops a130_18) .ret) .skip)) (.seq (.ops a130_19) (.seq (.seq (.ops a130_20) (.block 1 (.seq (.ops a130_21) (.cond (.t 73) (.seq (.ops a130_22) (.cond (.t 82) (.seq (.ops a130_23) .ret) .skip)) (.seq (.ops a130_24) (.cond (.t 85) (.ops a130_25) (.seq (.seq (.ops a130_26) (.cond (.t 93) .skip (.ops a130_27))) (.cond (.t 93) (.ops a130_28) .skip)))))))) (.seq (.seq (.ops a130_29) (.cond (.t 104) (.seq (.ops a130_30) .ret) .skip)) (.seq (.ops a130_31) .ret))))))))⟩
def a139_0 : List AOper := [
 oP 4 (.box false 6 (.t 0)),
 oP 8 (.mv (.c (.bool false)))]
def a139_1 : List AOper := [
 mV 9 1,
 mV 10 9,
 oG 11 (.fieldAddr 2 (.t 4)) 10 false,
 oG 12 (.load false 1 (.t 11)) 10 false,
 oG 13 (.bin .eql (.t 12) (.c (.str []))) 10 false,
 oP 14 (.pick (.t 10) (.c (.bool true)) (.t 13)),
 mV 15 14,
 oG 16 (.mv (.t 2)) 15 true,
 oG 17 (.mv (.t 16)) 15 true,
 oG 18 (.fieldAddr 4 (.t 4)) 17 false,
 oG 19 (.load false 1 (.t 18)) 17 false,
 oG 20 (.len false (.t 19)) 17 false,
 oG 21 (.bin .eql (.t 20) (.c (.int .i64 0))) 17 false,
 oG 22 (.mv (.t 21)) 17 false,
 oG 23 (.fieldAddr 3 (.t 4)) 22 true,
 oG 24 (.load false 1 (.t 23)) 22 true,
 oG 25 (.bin .eql (.t 24) (.c (.int .u32 0))) 22 true,
 oG 26 (.pick (.t 22) (.t 25) (.c (.bool false))) 17 false,
 oG 27 (.pick (.t 17) (.c (.bool true)) (.t 26)) 15 true,
 oP 28 (.pick (.t 15) (.t 27) (.c (.bool false))),
 mV 29 28,
 oG 30 (.mv (.t 3)) 29 true,
 oG 31 (.mv (.t 30)) 29 true,
 oG 32 (.fieldAddr 5 (.t 4)) 31 false,
 oG 33 (.load false 1 (.t 32)) 31 false,
 oG 34 (.len false (.t 33)) 31 false,
 oG 35 (.bin .eql (.t 34) (.c (.int .i64 0))) 31 false,
 oG 36 (.pick (.t 31) (.c (.bool true)) (.t 35)) 29 true,
 oP 37 (.pick (.t 29) (.t 36) (.c (.bool false))),
 mV 38 37,
 oG 39 (.fieldAddr 0 (.t 4)) 38 true,
 oG 40 (.load false 1 (.t 39)) 38 true,
 oG 41 (.bin .eql (.t 40) (.c (.int .i64 1))) 38 true,
 oG 42 (.mv (.t 41)) 38 true,
 oG 43 (.fieldAddr 1 (.t 4)) 42 false,
 oG 44 (.load false 1 (.t 43)) 42 false,
 oG 45 (.bin .eql (.t 44) (.c (.int .i64 0))) 42 false,
 oG 46 (.pick (.t 42) (.c (.bool true)) (.t 45)) 38 true,
 oP 47 (.pick (.t 38) (.t 46) (.c (.bool false))),
 mV 8 47]
def a139 : AFunc := ⟨[.tmp 8], (.seq (.ops a139_0) (.seq (.ops a139_1) .ret))⟩
def a140_0 : List AOper := [
 oP 2 (.mv (.c (.str []))),
 oP 3 (.mv (.c .nili))]
def a140_1 : List AOper := [
 mV 8 0,
 oP 9 (.len true (.t 8)),
 oP 10 (.bin .gtr (.t 9) (.c (.int .i64 255)))]
def a140_2 : List AOper := [
 oP 11 (.call 148 [(.c (.int .i64 0)), (.c (.int .i64 4))]),
 oP 2 (.mv (.c (.str []))),
 mV 3 11]
def a140_3 : List AOper := [
 mV 12 0,
 oP 13 (.call 149 [(.t 12)]),
 mV 4 13]
def a140_4 : List AOper := [
 mV 14 4,
 oP 15 (.bin .geq (.t 14) (.c (.int .i64 0)))]
def a140_5 : List AOper := [
 mV 16 4,
 oP 17 (.call 148 [(.t 16), (.c (.int .i64 23))]),
 oP 2 (.mv (.c (.str []))),
 mV 3 17]
def a140_6 : List AOper := [
 mV 18 0,
 oP 19 (.call 150 [(.t 18)])]
def a140_7 : List AOper := [
 mV 20 0,
 mV 2 20,
 oP 3 (.mv (.c .nili))]
def a140_8 : List AOper := [
 oP 21 (.lit true 1 1 [(.int .u8 0)] [(0, 1, (.c (.int .u8 39)))]),
 mV 5 21]
def a140_9 : List AOper := [
 mV 22 0,
 oP 23 (.conv .s2b (.t 22)),
 oP 24 (.len false (.t 23)),
 oP 25 (.mv (.c (.int .i64 0)))]
def a140_10 : List AOper := [
 oP 26 (.bin .lss (.t 25) (.t 24))]
def a140_11 : List AOper := [
 oP 27 (.idxAddr 1 (.t 23) (.t 25)),
 oP 28 (.load false 1 (.t 27)),
 mV 7 28]
def a140_12 : List AOper := [
 mV 29 7]
def a140_13 : List AOper := [
 oP 50 (.bin .eql (.t 29) (.c (.int .u8 39))),
 mV 49 50]
def a140_14 : List AOper := [
 oP 51 (.bin .eql (.t 29) (.c (.int .u8 92))),
 mV 49 51]
def a140_15 : List AOper := [
 mV 52 5,
 mV 53 7,
 oP 54 (.lit true 1 2 [(.int .u8 0), (.int .u8 0)] [(0, 1, (.c (.int .u8 92))), (1, 1, (.t 53))]),
 oP 55 (.append 1 1 (.t 52) (.t 54)),
 mV 5 55]
def a140_16 : List AOper := [
 oP 57 (.bin .eql (.t 29) (.c (.int .u8 10))),
 mV 56 57]
def a140_17 : List AOper := [
 mV 58 5,
 oP 59 (.append 1 1 (.t 58) (.c (.str [92, 110]))),
 mV 5 59]
def a140_18 : List AOper := [
 oP 61 (.bin .eql (.t 29) (.c (.int .u8 9))),
 mV 60 61]
def a140_19 : List AOper := [
 mV 62 5,
 oP 63 (.append 1 1 (.t 62) (.c (.str [92, 116]))),
 mV 5 63]
def a140_20 : List AOper := [
 oP 65 (.bin .eql (.t 29) (.c (.int .u8 13))),
 mV 64 65]
def a140_21 : List AOper := [
 mV 66 5,
 oP 67 (.append 1 1 (.t 66) (.c (.str [92, 114]))),
 mV 5 67]
def a140_22 : List AOper := [
 mV 30 7,
 oP 31 (.bin .lss (.t 30) (.c (.int .u8 32))),
 mV 32 31,
 oG 33 (.mv (.t 7)) 32 false,
 oG 34 (.bin .eql (.t 33) (.c (.int .u8 127))) 32 false,
 oP 35 (.pick (.t 32) (.c (.bool true)) (.t 34))]
def a140_23 : List AOper := [
 mV 36 5,
 mV 37 7,
 oP 38 (.bin .shr (.t 37) (.c (.int .u64 4))),
 oP 39 (.idxStr (.c (.str [48, 49, 50, 51, 52, 53, 54, 55, 56, 57, 97, 98, 99, 100, 101, 102])) (.t 38)),
 mV 40 7,
 oP 41 (.bin .and (.t 40) (.c (.int .u8 15))),
 oP 42 (.idxStr (.c (.str [48, 49, 50, 51, 52, 53, 54, 55, 56, 57, 97, 98, 99, 100, 101, 102])) (.t 41)),
 oP 43 (.lit true 1 4 [(.int .u8 0), (.int .u8 0), (.int .u8 0), (.int .u8 0)] [(0, 1, (.c (.int .u8 92))), (1, 1, (.c (.int .u8 120))), (2, 1, (.t 39)), (3, 1, (.t 42))]),
 oP 44 (.append 1 1 (.t 36) (.t 43)),
 mV 5 44]
def a140_23b : List Nat := [0, 0, 2, 6, 0, 16, 48, 126, 255, 511]
def a140_24 : List AOper := [
 mV 45 5,
 mV 46 7,
 oP 47 (.lit true 1 1 [(.int .u8 0)] [(0, 1, (.t 46))]),
 oP 48 (.append 1 1 (.t 45) (.t 47)),
 mV 5 48]
def a140_25 : List AOper := [
 oP 68 (.bin .add (.t 25) (.c (.int .i64 1))),
 mV 25 68]
def a140_l26 : AC := (.seq (.ops a140_10) (.seq (.cond (.t 26) .skip (.exit 0)) (.seq (.block 1 (.seq (.ops a140_11) (.seq (.ops a140_12) (.block 2 (.seq (.seq (.ops a140_13) (.cond (.t 49) .skip (.ops a140_14))) (.cond (.t 49) (.ops a140_15) (.seq (.ops a140_16) (.cond (.t 56) (.ops a140_17) (.seq (.ops a140_18) (.cond (.t 60) (.ops a140_19) (.seq (.ops a140_20) (.cond (.t 64) (.ops a140_21) (.seq (.ops a140_22) (.cond (.t 35) (.draw a140_23 a140_23b) (.ops a140_24))))))))))))))) (.ops a140_25))))
def a140_27 : List AOper := [
 mV 69 5,
 oP 70 (.lit true 1 1 [(.int .u8 0)] [(0, 1, (.c (.int .u8 39)))]),
 oP 71 (.append 1 1 (.t 69) (.t 70)),
 oP 72 (.conv .b2s (.t 71)),
 mV 2 72,
 oP 3 (.mv (.c .nili))]
def a140 : AFunc := ⟨[.tmp 2, .tmp 3], (.seq (.ops a140_0) (.seq (.seq (.ops a140_1) (.cond (.t 10) (.seq (.ops a140_2) .ret) .skip)) (.seq (.seq (.ops a140_3) (.seq (.ops a140_4) (.cond (.t 15) (.seq (.ops a140_5) .ret) .skip))) (.seq (.seq (.ops a140_6) (.cond (.t 19) (.seq (.ops a140_7) .ret) .skip)) (.seq (.ops a140_8) (.seq (.seq (.ops a140_9) (.block 0 (.loop a140_l26))) (.seq (.ops a140_27) .ret)))))))⟩
def a141_0 : List AOper := [
 oP 2 (.mv (.c (.str []))),
 oP 3 (.mv (.c (.str []))),
 oP 4 (.mv (.c .nili))]
def a141_1 : List AOper := [
 mV 14 0,
 oP 15 (.call 151 [(.t 14), (.c (.str [64]))]),
 mV 13 15,
 oP 16 (.extract (.t 13) 0),
 oP 17 (.extract (.t 13) 1),
 oP 18 (.extract (.t 13) 2),
 mV 5 16,
 mV 6 17,
 mV 7 18]
def a141_2 : List AOper := [
 mV 19 7,
 mV 20 19,
 oG 21 (.mv (.t 5)) 20 true,
 oG 22 (.bin .neq (.t 21) (.c (.str []))) 20 true,
 oP 23 (.pick (.t 20) (.t 22) (.c (.bool false))),
 mV 24 23,
 oG 25 (.mv (.t 6)) 24 true,
 oG 26 (.bin .neq (.t 25) (.c (.str []))) 24 true,
 oP 27 (.pick (.t 24) (.t 26) (.c (.bool false))),
 mV 28 27,
 oG 29 (.mv (.t 0)) 28 true,
 oG 30 (.len true (.t 29)) 28 true,
 oG 31 (.bin .leq (.t 30) (.c (.int .i64 64))) 28 true,
 oP 32 (.pick (.t 28) (.t 31) (.c (.bool false))),
 mV 33 32,
 oG 34 (.mv (.t 6)) 33 true,
 oG 35 (.call 152 [(.t 34), (.c (.str [64]))]) 33 true,
 oG 36 (.un .not (.t 35)) 33 true,
 oP 37 (.pick (.t 33) (.t 36) (.c (.bool false))),
 mV 8 37]
def a141_3 : List AOper := [
 mV 38 5,
 oP 39 (.conv .s2b (.t 38)),
 oP 40 (.len false (.t 39)),
 oP 41 (.mv (.c (.int .i64 0)))]
def a141_4 : List AOper := [
 oP 42 (.bin .lss (.t 41) (.t 40))]
def a141_5 : List AOper := [
 oP 43 (.idxAddr 1 (.t 39) (.t 41)),
 oP 44 (.load false 1 (.t 43)),
 mV 10 44]
def a141_6 : List AOper := [
 mV 45 8,
 mV 46 45,
 oG 47 (.mv (.t 10)) 46 true,
 oG 48 (.call 153 [(.t 47)]) 46 true,
 oG 49 (.bin .neq (.t 48) (.c (.int .i64 0))) 46 true,
 oG 50 (.mv (.t 49)) 46 true,
 oG 51 (.mv (.t 10)) 50 false,
 oG 52 (.bin .eql (.t 51) (.c (.int .u8 45))) 50 false,
 oG 53 (.pick (.t 50) (.c (.bool true)) (.t 52)) 46 true,
 oP 54 (.pick (.t 46) (.t 53) (.c (.bool false))),
 mV 8 54]
def a141_7 : List AOper := [
 oP 55 (.bin .add (.t 41) (.c (.int .i64 1))),
 mV 41 55]
def a141_l8 : AC := (.seq (.ops a141_4) (.seq (.cond (.t 42) .skip (.exit 0)) (.seq (.block 1 (.seq (.ops a141_5) (.ops a141_6))) (.ops a141_7))))
def a141_9 : List AOper := [
 mV 56 6,
 oP 57 (.conv .s2b (.t 56)),
 oP 58 (.len false (.t 57)),
 oP 59 (.mv (.c (.int .i64 0)))]
def a141_10 : List AOper := [
 oP 60 (.bin .lss (.t 59) (.t 58))]
def a141_11 : List AOper := [
 oP 61 (.idxAddr 1 (.t 57) (.t 59)),
 oP 62 (.load false 1 (.t 61)),
 mV 12 62]
def a141_12 : List AOper := [
 mV 63 8,
 mV 64 63,
 oG 65 (.mv (.t 12)) 64 true,
 oG 66 (.call 153 [(.t 65)]) 64 true,
 oG 67 (.bin .neq (.t 66) (.c (.int .i64 0))) 64 true,
 oG 68 (.mv (.t 67)) 64 true,
 oG 69 (.mv (.t 12)) 68 false,
 oG 70 (.bin .eql (.t 69) (.c (.int .u8 45))) 68 false,
 oG 71 (.pick (.t 68) (.c (.bool true)) (.t 70)) 64 true,
 oG 72 (.mv (.t 71)) 64 true,
 oG 73 (.mv (.t 12)) 72 false,
 oG 74 (.bin .eql (.t 73) (.c (.int .u8 46))) 72 false,
 oG 75 (.pick (.t 72) (.c (.bool true)) (.t 74)) 64 true,
 oP 76 (.pick (.t 64) (.t 75) (.c (.bool false))),
 mV 8 76]
def a141_13 : List AOper := [
 oP 77 (.bin .add (.t 59) (.c (.int .i64 1))),
 mV 59 77]
def a141_l14 : AC := (.seq (.ops a141_10) (.seq (.cond (.t 60) .skip (.exit 2)) (.seq (.block 3 (.seq (.ops a141_11) (.ops a141_12))) (.ops a141_13))))
def a141_15 : List AOper := [
 mV 78 8,
 oP 79 (.un .not (.t 78))]
def a141_16 : List AOper := [
 oP 80 (.call 148 [(.c (.int .i64 0)), (.c (.int .i64 24))]),
 oP 2 (.mv (.c (.str []))),
 oP 3 (.mv (.c (.str []))),
 mV 4 80]
def a141_17 : List AOper := [
 mV 81 5,
 mV 82 6,
 mV 2 81,
 mV 3 82,
 oP 4 (.mv (.c .nili))]
def a141 : AFunc := ⟨[.tmp 2, .tmp 3, .tmp 4], (.seq (.ops a141_0) (.seq (.ops a141_1) (.seq (.ops a141_2) (.seq (.seq (.ops a141_3) (.block 0 (.loop a141_l8))) (.seq (.seq (.ops a141_9) (.block 2 (.loop a141_l14))) (.seq (.seq (.ops a141_15) (.cond (.t 79) (.seq (.ops a141_16) .ret) .skip)) (.seq (.ops a141_17) .ret)))))))⟩
def a142_0 : List AOper := [
 oP 2 (.mv (.c (.int .i64 0)))]
def a142_1 : List AOper := [
 oP 3 (.alloc [.nilp])]
def a142_2 : List AOper := [
 mV 4 0,
 oP 5 (.mkIface 71 (.t 3)),
 oP 6 (.call 37 [(.t 4), (.t 5)])]
def a142_3 : List AOper := [
 oP 7 (.load false 1 (.t 3)),
 oP 8 (.nilCheck (.t 7)),
 oP 9 (.fieldAddr 2 (.t 8)),
 oP 10 (.load false 1 (.t 9)),
 mV 2 10]
def a142_4 : List AOper := [
 oP 2 (.mv (.c (.int .i64 0)))]
def a142 : AFunc := ⟨[.tmp 2], (.seq (.ops a142_0) (.seq (.ops a142_1) (.seq (.seq (.ops a142_2) (.cond (.t 6) (.seq (.ops a142_3) .ret) .skip)) (.seq (.ops a142_4) .ret))))⟩
def a148_0 : List AOper := [
 oP 4 (.mv (.c .nili))]
def a148_1 : List AOper := [
 mV 5 0,
 mV 6 1,
 oP 7 (.build [(.str []), (.int .i64 0), (.int .i64 0), .nili] [(0, 1, (.c (.str [97, 116, 111, 109]))), (1, 1, (.t 5)), (2, 1, (.t 6))]),
 oP 8 (.box true 4 (.t 7)),
 oP 9 (.mkIface 69 (.t 8)),
 mV 4 9]
def a148 : AFunc := ⟨[.tmp 4], (.seq (.ops a148_0) (.seq (.ops a148_1) .ret))⟩
def a150_0 : List AOper := [
 oP 2 (.mv (.c (.bool false)))]
def a150_1 : List AOper := [
 mV 3 0,
 oP 4 (.bin .neq (.t 3) (.c (.str []))),
 mV 5 4,
 oG 6 (.mv (.t 0)) 5 true,
 oG 7 (.idxStr (.t 6) (.c (.int .i64 0))) 5 true,
 oG 8 (.call 153 [(.t 7)]) 5 true,
 oG 9 (.bin .eql (.t 8) (.c (.int .i64 1))) 5 true,
 oP 10 (.pick (.t 5) (.t 9) (.c (.bool false))),
 mV 11 10,
 oG 12 (.mv (.t 0)) 11 true,
 oG 13 (.call 159 [(.t 12), (.c (.int .i64 0))]) 11 true,
 oG 14 (.mv (.t 0)) 11 true,
 oG 15 (.len true (.t 14)) 11 true,
 oG 16 (.bin .eql (.t 13) (.t 15)) 11 true,
 oP 17 (.pick (.t 11) (.t 16) (.c (.bool false))),
 mV 18 17,
 oG 19 (.mv (.t 0)) 18 true,
 oG 20 (.call 160 [(.t 19)]) 18 true,
 oG 21 (.un .not (.t 20)) 18 true,
 oP 22 (.pick (.t 18) (.t 21) (.c (.bool false))),
 mV 2 22]
def a150 : AFunc := ⟨[.tmp 2], (.seq (.ops a150_0) (.seq (.ops a150_1) .ret))⟩
def a151_0 : List AOper := [
 oP 4 (.mv (.c (.str []))),
 oP 5 (.mv (.c (.str []))),
 oP 6 (.mv (.c (.bool false)))]
def a151_1 : List AOper := [
 mV 7 0,
 mV 8 1,
 oP 9 (.call 161 [(.t 7), (.t 8)]),
 oP 10 (.extract (.t 9) 0),
 oP 11 (.extract (.t 9) 1),
 oP 12 (.extract (.t 9) 2),
 mV 4 10,
 mV 5 11,
 mV 6 12]
def a151 : AFunc := ⟨[.tmp 4, .tmp 5, .tmp 6], (.seq (.ops a151_0) (.seq (.ops a151_1) .ret))⟩
def a152_0 : List AOper := [
 oP 4 (.mv (.c (.bool false)))]
def a152_1 : List AOper := [
 mV 5 0,
 mV 6 1,
 oP 7 (.call 162 [(.t 5), (.t 6)]),
 oP 8 (.bin .geq (.t 7) (.c (.int .i64 0))),
 mV 4 8]
def a152 : AFunc := ⟨[.tmp 4], (.seq (.ops a152_0) (.seq (.ops a152_1) .ret))⟩
def a153_0 : List AOper := [
 oP 2 (.mv (.c (.int .i64 0)))]
def a153_1 : List AOper := [
 mV 4 0,
 oP 5 (.bin .geq (.t 4) (.c (.int .u8 97))),
 mV 6 5,
 oG 7 (.mv (.t 0)) 6 true,
 oG 8 (.bin .leq (.t 7) (.c (.int .u8 122))) 6 true,
 oP 9 (.pick (.t 6) (.t 8) (.c (.bool false))),
 mV 3 9]
def a153_2 : List AOper := [
 oP 2 (.mv (.c (.int .i64 1)))]
def a153_3 : List AOper := [
 mV 11 0,
 oP 12 (.bin .geq (.t 11) (.c (.int .u8 65))),
 mV 13 12,
 oG 14 (.mv (.t 0)) 13 true,
 oG 15 (.bin .leq (.t 14) (.c (.int .u8 90))) 13 true,
 oP 16 (.pick (.t 13) (.t 15) (.c (.bool false))),
 mV 10 16]
def a153_4 : List AOper := [
 oP 2 (.mv (.c (.int .i64 2)))]
def a153_5 : List AOper := [
 mV 18 0,
 oP 19 (.bin .geq (.t 18) (.c (.int .u8 48))),
 mV 20 19,
 oG 21 (.mv (.t 0)) 20 true,
 oG 22 (.bin .leq (.t 21) (.c (.int .u8 57))) 20 true,
 oP 23 (.pick (.t 20) (.t 22) (.c (.bool false))),
 mV 17 23]
def a153_6 : List AOper := [
 oP 2 (.mv (.c (.int .i64 3)))]
def a153_7 : List AOper := [
 mV 25 0,
 oP 26 (.bin .eql (.t 25) (.c (.int .u8 95))),
 mV 27 26,
 oG 28 (.mv (.t 0)) 27 false,
 oG 29 (.bin .eql (.t 28) (.c (.int .u8 64))) 27 false,
 oP 30 (.pick (.t 27) (.c (.bool true)) (.t 29)),
 mV 24 30]
def a153_8 : List AOper := [
 oP 2 (.mv (.c (.int .i64 4)))]
def a153_9 : List AOper := [
 oP 2 (.mv (.c (.int .i64 0)))]
def a153 : AFunc := ⟨[.tmp 2], (.seq (.ops a153_0) (.seq (.block 0 (.seq (.ops a153_1) (.cond (.t 3) (.seq (.ops a153_2) .ret) (.seq (.ops a153_3) (.cond (.t 10) (.seq (.ops a153_4) .ret) (.seq (.ops a153_5) (.cond (.t 17) (.seq (.ops a153_6) .ret) (.seq (.ops a153_7) (.cond (.t 24) (.seq (.ops a153_8) .ret) .skip))))))))) (.seq (.ops a153_9) .ret)))⟩
def a159_0 : List AOper := [
 oP 4 (.mv (.c (.int .i64 0)))]
def a159_1 : List AOper := [
 mV 5 1,
 mV 6 0,
 oP 7 (.len true (.t 6)),
 oP 8 (.bin .lss (.t 5) (.t 7)),
 mV 9 8,
 oG 10 (.mv (.t 0)) 9 true,
 oG 11 (.mv (.t 1)) 9 true,
 oG 12 (.idxStr (.t 10) (.t 11)) 9 true,
 oG 13 (.call 153 [(.t 12)]) 9 true,
 oG 14 (.bin .neq (.t 13) (.c (.int .i64 0))) 9 true,
 oP 15 (.pick (.t 9) (.t 14) (.c (.bool false)))]
def a159_2 : List AOper := [
 mV 16 1,
 oP 17 (.bin .add (.t 16) (.c (.int .i64 1))),
 mV 1 17]
def a159_l3 : AC := (.seq (.seq (.ops a159_1) (.cond (.t 15) .skip (.exit 0))) (.block 1 (.ops a159_2)))
def a159_4 : List AOper := [
 mV 18 1,
 mV 4 18]
def a159 : AFunc := ⟨[.tmp 4], (.seq (.ops a159_0) (.seq (.block 0 (.loop a159_l3)) (.seq (.ops a159_4) .ret)))⟩
def a160_0 : List AOper := [
 oP 2 (.mv (.c (.bool false)))]
def a160_1 : List AOper := [
 mV 3 0]
def a160_2 : List AOper := [
 oP 5 (.bin .eql (.t 3) (.c (.str [97, 102, 116, 101, 114]))),
 mV 4 5]
def a160_3 : List AOper := [
 oP 6 (.bin .eql (.t 3) (.c (.str [97, 110, 100]))),
 mV 4 6]
def a160_4 : List AOper := [
 oP 7 (.bin .eql (.t 3) (.c (.str [97, 110, 100, 97, 108, 115, 111]))),
 mV 4 7]
def a160_5 : List AOper := [
 oP 8 (.bin .eql (.t 3) (.c (.str [98, 101, 103, 105, 110]))),
 mV 4 8]
def a160_6 : List AOper := [
 oP 9 (.bin .eql (.t 3) (.c (.str [99, 97, 115, 101]))),
 mV 4 9]
def a160_7 : List AOper := [
 oP 10 (.bin .eql (.t 3) (.c (.str [99, 97, 116, 99, 104]))),
 mV 4 10]
def a160_8 : List AOper := [
 oP 11 (.bin .eql (.t 3) (.c (.str [100, 105, 118]))),
 mV 4 11]
def a160_9 : List AOper := [
 oP 12 (.bin .eql (.t 3) (.c (.str [101, 110, 100]))),
 mV 4 12]
def a160_10 : List AOper := [
 oP 13 (.bin .eql (.t 3) (.c (.str [102, 117, 110]))),
 mV 4 13]
def a160_11 : List AOper := [
 oP 14 (.bin .eql (.t 3) (.c (.str [105, 102]))),
 mV 4 14]
def a160_12 : List AOper := [
 oP 16 (.bin .eql (.t 3) (.c (.str [110, 111, 116]))),
 mV 15 16]
def a160_13 : List AOper := [
 oP 17 (.bin .eql (.t 3) (.c (.str [111, 102]))),
 mV 15 17]
def a160_14 : List AOper := [
 oP 18 (.bin .eql (.t 3) (.c (.str [111, 114]))),
 mV 15 18]
def a160_15 : List AOper := [
 oP 19 (.bin .eql (.t 3) (.c (.str [111, 114, 101, 108, 115, 101]))),
 mV 15 19]
def a160_16 : List AOper := [
 oP 20 (.bin .eql (.t 3) (.c (.str [114, 101, 99, 101, 105, 118, 101]))),
 mV 15 20]
def a160_17 : List AOper := [
 oP 21 (.bin .eql (.t 3) (.c (.str [114, 101, 109]))),
 mV 15 21]
def a160_18 : List AOper := [
 oP 22 (.bin .eql (.t 3) (.c (.str [116, 114, 121]))),
 mV 15 22]
def a160_19 : List AOper := [
 oP 23 (.bin .eql (.t 3) (.c (.str [119, 104, 101, 110]))),
 mV 15 23]
def a160_20 : List AOper := [
 oP 24 (.bin .eql (.t 3) (.c (.str [120, 111, 114]))),
 mV 15 24]
def a160_21 : List AOper := [
 oP 2 (.mv (.c (.bool true)))]
def a160_22 : List AOper := [
 oP 2 (.mv (.c (.bool false)))]
def a160 : AFunc := ⟨[.tmp 2], (.seq (.ops a160_0) (.seq (.seq (.ops a160_1) (.block 0 (.seq (.block 2 (.block 1 (.seq (.seq (.seq (.seq (.ops a160_2) (.cond (.t 4) .skip (.seq (.ops a160_3) (.cond (.t 4) .skip (.seq (.ops a160_4) (.cond (.t 4) .skip (.seq (.ops a160_5) (.cond (.t 4) .skip (.seq (.ops a160_6) (.cond (.t 4) .skip (.seq (.ops a160_7) (.cond (.t 4) .skip (.seq (.ops a160_8) (.cond (.t 4) .skip (.seq (.ops a160_9) (.cond (.t 4) .skip (.seq (.ops a160_10) (.cond (.t 4) .skip (.ops a160_11))))))))))))))))))) (.cond (.t 4) (.exit 1) .skip)) (.seq (.seq (.ops a160_12) (.cond (.t 15) .skip (.seq (.ops a160_13) (.cond (.t 15) .skip (.seq (.ops a160_14) (.cond (.t 15) .skip (.seq (.ops a160_15) (.cond (.t 15) .skip (.seq (.ops a160_16) (.cond (.t 15) .skip (.seq (.ops a160_17) (.cond (.t 15) .skip (.seq (.ops a160_18) (.cond (.t 15) .skip (.seq (.ops a160_19) (.cond (.t 15) .skip (.ops a160_20))))))))))))))))) (.cond (.t 15) (.exit 2) .skip))) (.exit 0)))) (.seq (.seq (.ops a160_21) .ret) (.exit 0))))) (.seq (.ops a160_22) .ret)))⟩
def a161_0 : List AOper := [
 oP 4 (.mv (.c (.str []))),
 oP 5 (.mv (.c (.str []))),
 oP 6 (.mv (.c (.bool false)))]
def a161_1 : List AOper := [
 mV 8 0,
 mV 9 1,
 oP 10 (.call 169 [(.t 8), (.t 9)]),
 mV 7 10]
def a161_2 : List AOper := [
 mV 11 7,
 oP 12 (.bin .geq (.t 11) (.c (.int .i64 0)))]
def a161_3 : List AOper := [
 mV 13 0,
 mV 14 7,
 oP 15 (.sliceStr (.t 13) none (some (.t 14))),
 mV 16 0,
 mV 17 7,
 mV 18 1,
 oP 19 (.len true (.t 18)),
 oP 20 (.bin .add (.t 17) (.t 19)),
 oP 21 (.sliceStr (.t 16) (some (.t 20)) none),
 mV 4 15,
 mV 5 21,
 oP 6 (.mv (.c (.bool true)))]
def a161_3b : List Nat := [0, 0, 3, 0, 0, 0, 32, 112, 248, 7, 1023, 2047]
def a161_4 : List AOper := [
 mV 22 0,
 mV 4 22,
 oP 5 (.mv (.c (.str []))),
 oP 6 (.mv (.c (.bool false)))]
def a161 : AFunc := ⟨[.tmp 4, .tmp 5, .tmp 6], (.seq (.ops a161_0) (.seq (.seq (.ops a161_1) (.seq (.ops a161_2) (.cond (.t 12) (.seq (.draw a161_3 a161_3b) .ret) .skip))) (.seq (.ops a161_4) .ret)))⟩
def a162_0 : List AOper := [
 oP 4 (.mv (.c (.int .i64 0)))]
def a162_1 : List AOper := [
 mV 5 0,
 mV 6 1,
 oP 7 (.call 169 [(.t 5), (.t 6)]),
 mV 4 7]
def a162 : AFunc := ⟨[.tmp 4], (.seq (.ops a162_0) (.seq (.ops a162_1) .ret))⟩
end Go.Bf

set_option linter.unusedVariables false
namespace Go.Bf
open Go.AM
def func : Nat → Option AFunc
  | 4 => some a4
  | 11 => some a11
  | 12 => some a12
  | 13 => some a13
  | 15 => some a15
  | 16 => some a16
  | 17 => some a17
  | 18 => some a18
  | 19 => some a19
  | 20 => some a20
  | 22 => some a22
  | 27 => some a27
  | 29 => some a29
  | 30 => some a30
  | 31 => some a31
  | 32 => some a32
  | 33 => some a33
  | 34 => some a34
  | 35 => some a35
  | 36 => some a36
  | 38 => some a38
  | 39 => some a39
  | 40 => some a40
  | 43 => some a43
  | 47 => some a47
  | 48 => some a48
  | 49 => some a49
  | 50 => some a50
  | 51 => some a51
  | 52 => some a52
  | 53 => some a53
  | 54 => some a54
  | 59 => some a59
  | 60 => some a60
  | 62 => some a62
  | 63 => some a63
  | 64 => some a64
  | 69 => some a69
  | 70 => some a70
  | 71 => some a71
  | 72 => some a72
  | 73 => some a73
  | 83 => some a83
  | 84 => some a84
  | 85 => some a85
  | 86 => some a86
  | 87 => some a87
  | 88 => some a88
  | 89 => some a89
  | 90 => some a90
  | 91 => some a91
  | 92 => some a92
  | 93 => some a93
  | 94 => some a94
  | 95 => some a95
  | 96 => some a96
  | 97 => some a97
  | 113 => some a113
  | 119 => some a119
  | 120 => some a120
  | 121 => some a121
  | 122 => some a122
  | 123 => some a123
  | 124 => some a124
  | 125 => some a125
  | 126 => some a126
  | 127 => some a127
  | 128 => some a128
  | 129 => some a129
  | 130 => some a130
  | 139 => some a139
  | 140 => some a140
  | 141 => some a141
  | 142 => some a142
  | 148 => some a148
  | 150 => some a150
  | 151 => some a151
  | 152 => some a152
  | 153 => some a153
  | 159 => some a159
  | 160 => some a160
  | 161 => some a161
  | 162 => some a162
  | _ => none
def asciiSpace : List AV := [.int .u8 0, .int .u8 0, .int .u8 0, .int .u8 0, .int .u8 0, .int .u8 0, .int .u8 0, .int .u8 0, .int .u8 0, .int .u8 1, .int .u8 1, .int .u8 1, .int .u8 1, .int .u8 1, .int .u8 0, .int .u8 0, .int .u8 0, .int .u8 0, .int .u8 0, .int .u8 0, .int .u8 0, .int .u8 0, .int .u8 0, .int .u8 0, .int .u8 0, .int .u8 0, .int .u8 0, .int .u8 0, .int .u8 0, .int .u8 0, .int .u8 0, .int .u8 0, .int .u8 1, .int .u8 0, .int .u8 0, .int .u8 0, .int .u8 0, .int .u8 0, .int .u8 0, .int .u8 0, .int .u8 0, .int .u8 0, .int .u8 0, .int .u8 0, .int .u8 0, .int .u8 0, .int .u8 0, .int .u8 0, .int .u8 0, .int .u8 0, .int .u8 0, .int .u8 0, .int .u8 0, .int .u8 0, .int .u8 0, .int .u8 0, .int .u8 0, .int .u8 0, .int .u8 0, .int .u8 0, .int .u8 0, .int .u8 0, .int .u8 0, .int .u8 0, .int .u8 0, .int .u8 0, .int .u8 0, .int .u8 0, .int .u8 0, .int .u8 0, .int .u8 0, .int .u8 0, .int .u8 0, .int .u8 0, .int .u8 0, .int .u8 0, .int .u8 0, .int .u8 0, .int .u8 0, .int .u8 0, .int .u8 0, .int .u8 0, .int .u8 0, .int .u8 0, .int .u8 0, .int .u8 0, .int .u8 0, .int .u8 0, .int .u8 0, .int .u8 0, .int .u8 0, .int .u8 0, .int .u8 0, .int .u8 0, .int .u8 0, .int .u8 0, .int .u8 0, .int .u8 0, .int .u8 0, .int .u8 0, .int .u8 0, .int .u8 0, .int .u8 0, .int .u8 0, .int .u8 0, .int .u8 0, .int .u8 0, .int .u8 0, .int .u8 0, .int .u8 0, .int .u8 0, .int .u8 0, .int .u8 0, .int .u8 0, .int .u8 0, .int .u8 0, .int .u8 0, .int .u8 0, .int .u8 0, .int .u8 0, .int .u8 0, .int .u8 0, .int .u8 0, .int .u8 0, .int .u8 0, .int .u8 0, .int .u8 0, .int .u8 0, .int .u8 0, .int .u8 0, .int .u8 0, .int .u8 0, .int .u8 0, .int .u8 0, .int .u8 0, .int .u8 0, .int .u8 0, .int .u8 0, .int .u8 0, .int .u8 0, .int .u8 0, .int .u8 0, .int .u8 0, .int .u8 0, .int .u8 0, .int .u8 0, .int .u8 0, .int .u8 0, .int .u8 0, .int .u8 0, .int .u8 0, .int .u8 0, .int .u8 0, .int .u8 0, .int .u8 0, .int .u8 0, .int .u8 0, .int .u8 0, .int .u8 0, .int .u8 0, .int .u8 0, .int .u8 0, .int .u8 0, .int .u8 0, .int .u8 0, .int .u8 0, .int .u8 0, .int .u8 0, .int .u8 0, .int .u8 0, .int .u8 0, .int .u8 0, .int .u8 0, .int .u8 0, .int .u8 0, .int .u8 0, .int .u8 0, .int .u8 0, .int .u8 0, .int .u8 0, .int .u8 0, .int .u8 0, .int .u8 0, .int .u8 0, .int .u8 0, .int .u8 0, .int .u8 0, .int .u8 0, .int .u8 0, .int .u8 0, .int .u8 0, .int .u8 0, .int .u8 0, .int .u8 0, .int .u8 0, .int .u8 0, .int .u8 0, .int .u8 0, .int .u8 0, .int .u8 0, .int .u8 0, .int .u8 0, .int .u8 0, .int .u8 0, .int .u8 0, .int .u8 0, .int .u8 0, .int .u8 0, .int .u8 0, .int .u8 0, .int .u8 0, .int .u8 0, .int .u8 0, .int .u8 0, .int .u8 0, .int .u8 0, .int .u8 0, .int .u8 0, .int .u8 0, .int .u8 0, .int .u8 0, .int .u8 0, .int .u8 0, .int .u8 0, .int .u8 0, .int .u8 0, .int .u8 0, .int .u8 0, .int .u8 0, .int .u8 0, .int .u8 0, .int .u8 0, .int .u8 0, .int .u8 0, .int .u8 0, .int .u8 0, .int .u8 0, .int .u8 0, .int .u8 0, .int .u8 0, .int .u8 0, .int .u8 0, .int .u8 0, .int .u8 0, .int .u8 0, .int .u8 0, .int .u8 0, .int .u8 0, .int .u8 0, .int .u8 0, .int .u8 0, .int .u8 0, .int .u8 0, .int .u8 0, .int .u8 0, .int .u8 0]
def glob : Nat → Option (List AV)
  | 1 => some asciiSpace
  | _ => none
/-- errors.As of a Fault, into a variable of Faults -/
def asP : List AV → Heap → Option (AV × Heap)
  | [.ifc 69 (.fp cs), .ifc 71 (.ptr id gen off)], h => (h.at_ id gen).bind fun os => if off < os.length then some (.bool true, h.upd id gen (splice os off [.fp cs])) else none
  | _, _ => none
/-- errors.Is of no error, or of a Fault without another below, and a number -/
def isP : List AV → Heap → Option (AV × Heap)
  | [.ifc 69 (.fp [_, _, .int .i64 c, .nili]), .ifc 67 (.int .i64 c')], h => some (.bool (c == c'), h)
  | [.nili, .ifc 67 (.int .i64 c')], h => some (.bool false, h)
  | _, _ => none
/-- the place of the first code point that is none -/
def strangeF (s : List UInt8) : Nat → Nat → Int
  | 0, _ => -1
  | f + 1, i => if i < s.length then (if (Utf8.decode ⟨s.toArray⟩ i).1 = 65533 ∧ (Utf8.decode ⟨s.toArray⟩ i).2 < 2 then (i : Int) else strangeF s f (i + (Utf8.decode ⟨s.toArray⟩ i).2)) else -1
def strangeP : List AV → Heap → Option (AV × Heap)
  | [.str s], h => some (.int .i64 (strangeF s (s.length + 1) 0), h)
  | _, _ => none
/-- the place of the first sign that is a byte -/
def indexP : List AV → Heap → Option (AV × Heap)
  | [.str s, .str [c]], h => some (.int .i64 (Lib.indexByte s c), h)
  | _, _ => none
def prims : Nat → Option (List AV → Heap → Option (AV × Heap))
  | 37 => some asP
  | 46 => some isP
  | 149 => some strangeP
  | 169 => some indexP
  | _ => none
/-- what the world must be like: the library's variables are laid -/
def start (B : Nat) (w : World) : Prop := 5 < B ∧ w.cell? ⟨0, 0, none⟩ = some (.iface 132 (.agg #[.pointer (some ⟨10, 42, none⟩)])) ∧ Lib.Utf8Tabs 4 5 w
def pures : List Nat := [93, 95, 128, 11, 12, 13, 14, 15, 16, 17, 18, 19, 20, 21, 22, 23, 24, 25, 26, 27, 28, 30, 31, 33, 34, 35, 36, 38, 39, 40, 41, 42, 43, 44, 45, 47, 48, 49, 50, 51, 52, 53, 54, 59, 60, 61, 62, 63, 64, 65, 66, 67, 68, 70, 71, 72, 73, 74, 75, 76, 77, 78, 83, 84, 85, 86, 87, 88, 89, 90, 91, 92, 94, 96, 100, 101, 102, 103, 108, 109, 110, 111, 113, 114, 115, 116, 117, 119, 120, 121, 122, 123, 124, 125, 126, 127, 129, 130, 139, 140, 141, 142, 148, 150, 151, 152, 153, 159, 160, 162]
def env : Env := { func := func, glob := glob, pure_ := fun n => pures.elem n, prim := prims, ok := start }
end Go.Bf

set_option linter.unusedSimpArgs false
set_option linter.unusedVariables false
namespace Go.AM
def cellAV : Value → Option AV
  | .bool b => some (.bool b)
  | .int k n => some (.int k n)
  | .string s => some (.str s.data.toList)
  | .pointer none => some .nilp
  | .slice none 0 0 => some .nils
  | .map none => some .nilm
  | .nilFunc => some .nilf
  | .nilIface => some .nili
  | _ => none
def constAV : Value → Option AV
  | .agg cs => (cs.toList.mapM cellAV).map .agg
  | v => cellAV v
def trOpd : Operand → Option Opd
  | .tmp t => some (.t t)
  | .const v => (constAV v).map .c
  | .global g => some (.g g)
  | .func f => some (.c (.fn (.func f) [] []))
def trOpds (l : Array Operand) : Option (List Opd) := l.toList.mapM trOpd
def trOpdo : Option Operand → Option (Option Opd)
  | none => some none
  | some x => (trOpd x).map some
section
variable (P : Program)
def tSize (t : TypeId) : Option Nat := (P.info? t).map (·.size)
def tBytes (t : TypeId) : Option Nat := (P.info? t).map (·.bytes)
def tAgg (t : TypeId) : Option Bool :=
  match P.underlying t with
  | some (.struct _) | some (.array ..) => some true
  | some _ => some false
  | none => none
def tZero (t : TypeId) : Option (List AV) := do
  let i ← P.info? t
  let z ← i.zero
  z.cells.toList.mapM cellAV
def eqScalar (lit : Bool) : TypeDesc → Option EqT
  | .bool => some .bool
  | .int _ => some .int
  | .string => some .str
  | .pointer _ => some .ptr
  | .slice _ => some .slice
  | .map .. => some .map
  | .func .. => some .func
  | .interface _ => some (.iface lit)
  | _ => none
def eqFields : List Field → Option (List (Nat × Nat × Bool × EqT))
  | [] => some []
  | f :: fs => do
    if f.name = "_" then none else
    let d ← P.underlying f.type
    let e ← eqScalar false d
    let rest ← eqFields fs
    pure ((f.offset, 1, false, e) :: rest)
def trEq (t : TypeId) (lit : Bool) : Option EqT := do
  match ← P.underlying t with
  | .struct fs => if P.stoodInHeld t || P.eqGuardType P.depth t then none else (eqFields P fs.toList).map .struct
  | d => eqScalar lit d
def isLit : Operand → Bool
  | .const _ => true
  | _ => false
def isNeq : BinOp → Bool
  | .neq => true
  | _ => false
def isMax : Builtin → Bool
  | .max => true
  | _ => false
def trBin (op : BinOp) (t : TypeId) (x y : Operand) : Option AOp := do
  let a ← trOpd x
  let b ← trOpd y
  match op with
  | .eql | .neq =>
    match ← P.underlying t with
    | .int _ | .string => pure (.bin op a b)
    | _ => pure (.eq (isNeq op) (← trEq P t (isLit x || isLit y)) a b)
  | _ => pure (.bin op a b)
def trConv (src dst : TypeId) : Option CvT := do
  match ← P.underlying src, ← P.underlying dst with
  | .int _, .int k => pure (.int k)
  | .int _, .string => pure .rune
  | .string, .string => pure .same
  | .string, .slice e =>
    match ← P.underlying e with
    | .int .u8 => pure .s2b
    | .int .i32 => pure .s2r
    | _ => none
  | .slice e, .string =>
    match ← P.underlying e with
    | .int .u8 => pure .b2s
    | .int .i32 => pure .r2s
    | _ => none
  | .slice _, .slice e =>
    match ← P.underlying e with
    | .int .u8 => if src = dst then pure .b2b else none
    | _ => none
  | _, _ => none
def trParts (place : Nat → Option (Nat × Nat)) : List (Nat × Operand) → Option (List (Nat × Nat × Opd))
  | [] => some []
  | (i, x) :: r => do
    let (off, sz) ← place i
    let a ← trOpd x
    let l ← trParts place r
    pure ((off, sz, a) :: l)
def fieldPlaces : List Field → Option (List (Nat × Nat))
  | [] => some []
  | f :: fs => do
    let s ← tSize P f.type
    let r ← fieldPlaces fs
    pure ((f.offset, s) :: r)
def trBuild (t : TypeId) (parts : Array (Nat × Operand)) : Option AOp := do
  let zero ← tZero P t
  match ← P.underlying t with
  | .struct fields =>
    let places ← fieldPlaces P fields.toList
    pure (.build zero (← trParts (places[·]?) parts.toList))
  | .array _ e =>
    let s ← tSize P e
    pure (.build zero (← trParts (fun i => some (i * s, s)) parts.toList))
  | _ => none
def trLit (fr : Bool) (t : TypeId) (len : Nat) (parts : Array (Nat × Operand)) : Option AOp :=
  match P.underlying t with
  | some (.slice e) => (tSize P e).bind fun s =>
    if len * s > 2 ^ 24 then none else
    (if len * s = 0 then some [] else tZero P e).bind fun zero =>
    if len * s ≠ 0 ∧ zero.length ≠ s then none else
    (trParts (fun i => some (i * s, s)) parts.toList).map fun ps => .lit fr s len (List.replicate len zero).flatten ps
  | _ => none
def trSlice (t : TypeId) (x : Operand) (lo hi mx : Option Operand) : Option AOp := do
  let a ← trOpd x
  let l ← trOpdo lo
  let h ← trOpdo hi
  let m ← trOpdo mx
  match ← P.underlying t with
  | .string => match m with | none => pure (.sliceStr a l h) | some _ => none
  | .slice e => pure (.slice (← tSize P e) a l h m)
  | .array n e => pure (.sliceArr (← tSize P e) n a l h m)
  | .pointer arr =>
    match ← P.underlying arr with
    | .array n e => pure (.sliceArr (← tSize P e) n a l h m)
    | _ => none
  | _ => none
def trField (t : TypeId) (f : Nat) : Option Field := do
  match ← P.underlying t with
  | .struct fields => fields[f]?
  | _ => none
def trBuiltin (b : Builtin) (types : Array TypeId) (args : Array Operand) : Option AOp := do
  match b with
  | .len =>
    let x ← args[0]?
    let a ← trOpd x
    match ← P.underlying (← types[0]?) with
    | .string => if args.size = 1 then pure (.len true a) else none
    | .slice _ => if args.size = 1 then pure (.len false a) else none
    | .array n _ => if args.size = 1 then pure (.mv (.c (.int .i64 n))) else none
    | _ => none
  | .append =>
    if args.size ≠ 2 ∨ types.size ≠ 2 then none else
    let a ← trOpd (← args[0]?)
    let b ← trOpd (← args[1]?)
    match ← P.underlying (← types[0]?), ← P.underlying (← types[1]?) with
    | .slice e, .slice e' => if e = e' ∧ (tZero P e).map List.length = tSize P e then pure (.append (← tSize P e) (← tBytes P e) a b) else none
    | .slice e, .string => if (tZero P e).map List.length = tSize P e then pure (.append (← tSize P e) (← tBytes P e) a b) else none
    | .slice e, .int .i64 => pure (.appendZ (← tSize P e) (← tBytes P e) (← tZero P e) a b)
    | _, _ => none
  | .cap =>
    if args.size ≠ 1 then none else
    let a ← trOpd (← args[0]?)
    match ← P.underlying (← types[0]?) with
    | .slice _ => pure (.cap a)
    | _ => none
  | .clear =>
    if args.size ≠ 1 then none else
    let a ← trOpd (← args[0]?)
    match ← P.underlying (← types[0]?) with
    | .slice e => pure (.clear (← tSize P e) (← tZero P e) a)
    | _ => none
  | .copy =>
    if args.size ≠ 2 then none else
    let a ← trOpd (← args[0]?)
    let b ← trOpd (← args[1]?)
    match ← P.underlying (← types[0]?) with
    | .slice e => pure (.copy (← tSize P e) a b)
    | _ => none
  | .max | .min =>
    if args.size ≠ 2 then none else
    pure (.minmax (isMax b) (← trOpd (← args[0]?)) (← trOpd (← args[1]?)))
  | .panic => if args.size ≠ 1 then none else pure (.panic (← trOpd (← args[0]?)))
  | _ => none
def trCall (c : Call) : Option AOp := do
  match c.callee with
  | .builtin b => trBuiltin P b c.argTypes c.args
  | .value (.func f) => pure (.call f (← trOpds c.args))
  | .value v => pure (.callv (← trOpd v) (← trOpds c.args))
  | .invoke .. => none
/-- 'fr': is what this operation lays in memory never written? -/
def trOp (fr : Bool) (o : Op) : Option AOp := do
  match o with
  | .move x | .assign x => pure (.mv (← trOpd x))
  | .pick c a b => pure (.pick (← trOpd c) (← trOpd a) (← trOpd b))
  | .alloc e => pure (.alloc (← tZero P e))
  | .box e x => pure (.box fr (← tSize P e) (← trOpd x))
  | .build t parts => trBuild P t parts
  | .buildSlice t len parts => trLit P fr t len parts
  | .load t a => pure (.load (← tAgg P t) (← tSize P t) (← trOpd a))
  | .store t a x => pure (.store (← tSize P t) (← trOpd a) (← trOpd x))
  | .nilCheck x => pure (.nilCheck (← trOpd x))
  | .binOp op t x y _ => trBin P op t x y
  | .unOp op _ x => pure (.un op (← trOpd x))
  | .convert s d x => pure (.conv (← trConv P s d) (← trOpd x))
  | .makeInterface t x =>
    match ← P.underlying t with
    | .interface _ => none
    | _ => pure (.mkIface t (← trOpd x))
  | .makeFunc f a b => pure (.mkFunc f (← trOpds a) (← trOpds b))
  | .makeSlice t l c =>
    match ← P.underlying t with
    | .slice e => pure (.makeSlice (← tSize P e) (← tBytes P e) (← tZero P e) (← trOpd l) (← trOpd c))
    | _ => none
  | .slice t x lo hi mx => trSlice P t x lo hi mx
  | .fieldAddr t x f =>
    let f ← trField P t f
    if (← tSize P f.type) = 0 then none else pure (.fieldAddr f.offset (← trOpd x))
  | .field t x f =>
    let f ← trField P t f
    pure (.field (← tAgg P f.type) (← tSize P f.type) f.offset (← trOpd x))
  | .indexAddr t x i =>
    match ← P.underlying t with
    | .slice e => pure (.idxAddr (← tSize P e) (← trOpd x) (← trOpd i))
    | .array n e => pure (.idxAddrArr (← tSize P e) n (← trOpd x) (← trOpd i))
    | _ => none
  | .index t x i =>
    match ← P.underlying t with
    | .string => pure (.idxStr (← trOpd x) (← trOpd i))
    | .array n e => pure (.idxArr (← tAgg P e) (← tSize P e) n (← trOpd x) (← trOpd i))
    | _ => none
  | .extract x i => pure (.extract (← trOpd x) i)
  | .call c => trCall P c
  | .panic x => pure (.panic (← trOpd x))
  | _ => none
def trGuard (ops : Array Oper) : Option (Nat × Bool) → Option (Option (Nat × Bool))
  | none => some none
  | some (j, want) => ((ops[j]?).bind (·.dst)).map fun d => some (d, want)
/-- Is this slot's slice turned into a slice of bytes by the same statement? -/
def turned (ops : Array Oper) (d : Nat) : Bool :=
  ops.toList.any fun o => match o.op with
    | .convert s t (.tmp u) => s == t && u == d
    | _ => false
/-- What is laid by this operation: is it never written later? 'fz': the types of such boxes; 'thaw': the slots of literals that are written. -/
def still (fz : TypeId → Bool) (thaw : Nat → Bool) (ops : Array Oper) (o : Oper) : Bool :=
  match o.op with
  | .box e _ => fz e && (match o.dst with
    | some d => !(thaw d)
    | none => true)
  | .buildSlice .. => match o.dst with
    | some d => !(turned ops d) && !(thaw d)
    | none => true
  | _ => false
/-- 'n': how many slots there are. -/
def trOper (n : Nat) (fz : TypeId → Bool) (thaw : Nat → Bool) (ops : Array Oper) (o : Oper) : AOper :=
  match trGuard ops o.guard, (match o.dst with | some d => Nat.blt d n | none => true) with
  | some g, true => { dst := o.dst, op := (trOp P (still fz thaw ops o) o.op).getD .bad, guard := g }
  | _, _ => { dst := none, op := .bad, guard := none }
/-- What the order of a region's operations must leave alone: each names what was written ahead of it; each edge leads back. -/
def drawStatic (ops : Array Oper) (l : List AOper) (before : List Nat) : Bool :=
  staticAll 0 l before && (ops.toList.zipIdx.all fun (o, i) => o.after.toList.all fun e => !Region.binds .any e || Nat.blt e.on i)
def trCode (n : Nat) (fz : TypeId → Bool) (thaw : Nat → Bool) : Code → AC
  | .skip => .skip
  | .region _ ops false => .ops (ops.toList.map (trOper P n fz thaw ops))
  | .region _ ops true =>
    match drawStatic ops (ops.toList.map (trOper P n fz thaw ops)) (Region.before ops).toList with
    | true => .draw (ops.toList.map (trOper P n fz thaw ops)) (Region.before ops).toList
    | false => .bad
  | .seq a b => .seq (trCode n fz thaw a) (trCode n fz thaw b)
  | .cond c x y => match trOpd c with
    | some c => .cond c (trCode n fz thaw x) (trCode n fz thaw y)
    | none => .bad
  | .block id b => .block id (trCode n fz thaw b)
  | .loop b => .loop (trCode n fz thaw b)
  | .exit id => .exit id
  | .scope b => .scope (trCode n fz thaw b)
  | .label _ => .skip
  | .ret => .ret
  | _ => .bad
def trRes : ResultVar → Option ARes
  | .tmp t => some (.tmp t)
  | .cell a t => do pure (.cell a (← tAgg P t) (← tSize P t))
def trFunc (fz : TypeId → Bool) (thaw : Nat → Bool) (fn : Func) : Option AFunc := do
  let body ← fn.body
  if fn.name = "runtime.NumGoroutine" then none else
  pure { results := ← fn.results.toList.mapM (trRes P), body := trCode P fn.ntmps fz thaw body }
end
end Go.AM

set_option linter.unusedVariables false
namespace Go.Bf
open Go.AM Go.Proofs Go.Proofs.YtaielgjmhbjfhaaGreatDoor
def fz : TypeId → Bool := fun t => t == 73
def thaw : Nat → Bool := fun _ => false
theorem tie4 : trFunc Tryz.prog fz thaw Tryz.f4 = some a4 := by kernel_rfl
theorem tie11 : trFunc Tryz.prog fz thaw Tryz.f11 = some a11 := by kernel_rfl
theorem tie12 : trFunc Tryz.prog fz thaw Tryz.f12 = some a12 := by kernel_rfl
theorem tie13 : trFunc Tryz.prog fz thaw Tryz.f13 = some a13 := by kernel_rfl
theorem tie15 : trFunc Tryz.prog fz thaw Tryz.f15 = some a15 := by kernel_rfl
theorem tie16 : trFunc Tryz.prog fz thaw Tryz.f16 = some a16 := by kernel_rfl
theorem tie17 : trFunc Tryz.prog fz thaw Tryz.f17 = some a17 := by kernel_rfl
theorem tie18 : trFunc Tryz.prog fz thaw Tryz.f18 = some a18 := by kernel_rfl
theorem tie19 : trFunc Tryz.prog fz thaw Tryz.f19 = some a19 := by kernel_rfl
theorem tie20 : trFunc Tryz.prog fz thaw Tryz.f20 = some a20 := by kernel_rfl
theorem tie22 : trFunc Tryz.prog fz thaw Tryz.f22 = some a22 := by kernel_rfl
theorem tie27 : trFunc Tryz.prog fz thaw Tryz.f27 = some a27 := by kernel_rfl
theorem tie29 : trFunc Tryz.prog fz thaw Tryz.f29 = some a29 := by kernel_rfl
theorem tie30 : trFunc Tryz.prog fz thaw Tryz.f30 = some a30 := by kernel_rfl
theorem tie31 : trFunc Tryz.prog fz thaw Tryz.f31 = some a31 := by kernel_rfl
theorem tie32 : trFunc Tryz.prog fz thaw Tryz.f32 = some a32 := by kernel_rfl
theorem tie33 : trFunc Tryz.prog fz thaw Tryz.f33 = some a33 := by kernel_rfl
theorem tie34 : trFunc Tryz.prog fz thaw Tryz.f34 = some a34 := by kernel_rfl
theorem tie35 : trFunc Tryz.prog fz thaw Tryz.f35 = some a35 := by kernel_rfl
theorem tie36 : trFunc Tryz.prog fz thaw Tryz.f36 = some a36 := by kernel_rfl
theorem tie38 : trFunc Tryz.prog fz thaw Tryz.f38 = some a38 := by kernel_rfl
theorem tie39 : trFunc Tryz.prog fz thaw Tryz.f39 = some a39 := by kernel_rfl
theorem tie40 : trFunc Tryz.prog fz thaw Tryz.f40 = some a40 := by kernel_rfl
theorem tie43 : trFunc Tryz.prog fz thaw Tryz.f43 = some a43 := by kernel_rfl
theorem tie47 : trFunc Tryz.prog fz thaw Tryz.f47 = some a47 := by kernel_rfl
theorem tie48 : trFunc Tryz.prog fz thaw Tryz.f48 = some a48 := by kernel_rfl
theorem tie49 : trFunc Tryz.prog fz thaw Tryz.f49 = some a49 := by kernel_rfl
theorem tie50 : trFunc Tryz.prog fz thaw Tryz.f50 = some a50 := by kernel_rfl
theorem tie51 : trFunc Tryz.prog fz thaw Tryz.f51 = some a51 := by kernel_rfl
theorem tie52 : trFunc Tryz.prog fz thaw Tryz.f52 = some a52 := by kernel_rfl
theorem tie53 : trFunc Tryz.prog fz thaw Tryz.f53 = some a53 := by kernel_rfl
theorem tie54 : trFunc Tryz.prog fz thaw Tryz.f54 = some a54 := by kernel_rfl
theorem tie59 : trFunc Tryz.prog fz thaw Tryz.f59 = some a59 := by kernel_rfl
theorem tie60 : trFunc Tryz.prog fz thaw Tryz.f60 = some a60 := by kernel_rfl
theorem tie62 : trFunc Tryz.prog fz thaw Tryz.f62 = some a62 := by kernel_rfl
theorem tie63 : trFunc Tryz.prog fz thaw Tryz.f63 = some a63 := by kernel_rfl
theorem tie64 : trFunc Tryz.prog fz thaw Tryz.f64 = some a64 := by kernel_rfl
theorem tie69 : trFunc Tryz.prog fz thaw Tryz.f69 = some a69 := by kernel_rfl
theorem tie70 : trFunc Tryz.prog fz thaw Tryz.f70 = some a70 := by kernel_rfl
theorem tie71 : trFunc Tryz.prog fz thaw Tryz.f71 = some a71 := by kernel_rfl
theorem tie72 : trFunc Tryz.prog fz thaw Tryz.f72 = some a72 := by kernel_rfl
theorem tie73 : trFunc Tryz.prog fz thaw Tryz.f73 = some a73 := by kernel_rfl
end Go.Bf

namespace Go.Proofs.YtaielgjmhbjfhaaGreatDoor
open Go.RowKit Go.Extern.Stop Go.Stop Go.Extern
theorem Tryz.valueOfPP (t : Addr) (w : World) : (ReflectliteValue.unpack (.iface 71 (.pointer (some t)))).run Tryz.prog w
    = .ok (.agg #[.pointer (some ⟨10, 71, none⟩), .pointer (some ⟨w.heap.size, 0, none⟩), .int .u64 150]) (w.alloc (.cells #[.pointer (some t)] 71)) := by kernel_rfl
theorem Tryz.typePP (a : Addr) (w : World) : (ReflectliteValue.methodAny (ReflectliteValue.valueError "reflectlite.Value.Type" 0) (fun t _ _ _ => ReflectliteType.toType t) #[.agg #[.pointer (some ⟨10, 71, none⟩), .pointer (some a), .int .u64 150]]).run Tryz.prog w
    = .ok (.iface 132 (.agg #[.pointer (some ⟨10, 71, none⟩)])) w := by kernel_rfl
theorem Tryz.methodKind (h : Value) (w : World) : (Go.method 361 132 (.agg #[h]) "Kind").run Tryz.prog w = .ok (192, h) w := by kernel_rfl
theorem Tryz.kindPP (w : World) : ((ReflectliteType.abiMethod fun t => (fun a : Nat => Value.int IntKind.u8 (a : Int)) <$> Rtype.kind t) #[.pointer (some ⟨10, 71, none⟩)]).run Tryz.prog w = .ok (.int .u8 22) w := by kernel_rfl
theorem Tryz.kindP (w : World) : ((ReflectliteType.abiMethod fun t => (fun a : Nat => Value.int IntKind.u8 (a : Int)) <$> Rtype.kind t) #[.pointer (some ⟨10, 69, none⟩)]).run Tryz.prog w = .ok (.int .u8 22) w := by kernel_rfl
theorem rlm (z : Sem Value) (f : TypeId → Addr → Nat → Nat → Sem Value) (v : Value) :
    ReflectliteValue.method z f #[v] = (do match ← ReflectliteValue.parts v with | none => z | some (t, a, fl) => f t a fl (fl % 32)) := rfl
theorem Tryz.partsPP (a : Addr) (w : World) : (ReflectliteValue.parts (.agg #[.pointer (some ⟨10, 71, none⟩), .pointer (some a), .int .u64 150])).run Tryz.prog w = .ok (some (71, a, 150)) w := by kernel_rfl
theorem Tryz.isNilPP (a p : Addr) (W : World) (ha : W.cell? a = some (.pointer (some p))) :
    (ReflectliteValue.method (ReflectliteValue.valueError "reflectlite.Value.IsNil" 0) ReflectliteValue.isNil #[.agg #[.pointer (some ⟨10, 71, none⟩), .pointer (some a), .int .u64 150]]).run Tryz.prog W = .ok (.bool false) W := by
  rw [rlm]
  simp only [Sem.run_bind, Tryz.partsPP, Result.andThen]
  simp [ReflectliteValue.isNil, loadVar, isAgg, underlying, Tryz.underlying71, ha, Result.andThen]
theorem Tryz.methodElem (h : Value) (w : World) : (Go.method 361 132 (.agg #[h]) "Elem").run Tryz.prog w = .ok (204, .agg #[h]) w := by kernel_rfl
theorem Tryz.methodImplements (h : Value) (w : World) : (Go.method 361 132 (.agg #[h]) "Implements").run Tryz.prog w = .ok (205, .agg #[h]) w := by kernel_rfl
theorem Tryz.methodAssignableTo (h : Value) (w : World) : (Go.method 361 132 (.agg #[h]) "AssignableTo").run Tryz.prog w = .ok (202, .agg #[h]) w := by kernel_rfl
theorem Tryz.elemPP (w : World) : (ReflectliteType.method ReflectliteType.elem #[.agg #[.pointer (some ⟨10, 71, none⟩)]]).run Tryz.prog w = .ok (.iface 132 (.agg #[.pointer (some ⟨10, 69, none⟩)])) w := by kernel_rfl
theorem Tryz.implementsP (w : World) : (ReflectliteType.relation "Implements" ReflectliteType.implements_ #[.agg #[.pointer (some ⟨10, 69, none⟩)], .iface 132 (.agg #[.pointer (some ⟨10, 42, none⟩)])]).run Tryz.prog w = .ok (.bool true) w := by kernel_rfl
theorem Tryz.typeOfP (v : Value) (w : World) : (ReflectliteType.typeOf #[.iface 69 v]).run Tryz.prog w = .ok (.iface 132 (.agg #[.pointer (some ⟨10, 69, none⟩)])) w := by kernel_rfl
theorem Tryz.assignableP (w : World) : (ReflectliteType.relation "AssignableTo" ReflectliteType.assignableTo #[.agg #[.pointer (some ⟨10, 69, none⟩)], .iface 132 (.agg #[.pointer (some ⟨10, 69, none⟩)])]).run Tryz.prog w = .ok (.bool true) w := by kernel_rfl
theorem Tryz.valueOfP (e : Addr) (w : World) : (ReflectliteValue.unpack (.iface 69 (.pointer (some e)))).run Tryz.prog w
    = .ok (.agg #[.pointer (some ⟨10, 69, none⟩), .pointer (some ⟨w.heap.size, 0, none⟩), .int .u64 150]) (w.alloc (.cells #[.pointer (some e)] 69)) := by kernel_rfl
theorem Tryz.elemOfPP (w : World) : (Rtype.elem? 71).run Tryz.prog w = .ok (some 69) w := by kernel_rfl
theorem Tryz.mkP (p : Addr) (w : World) : (ReflectliteValue.mk 69 p ReflectliteValue.flagAddr).run Tryz.prog w = .ok (.agg #[.pointer (some ⟨10, 69, none⟩), .pointer (some p), .int .u64 406]) w := by kernel_rfl
theorem Tryz.elemVPP (a p : Addr) (W : World) (ha : W.cell? a = some (.pointer (some p))) :
    (ReflectliteValue.method (ReflectliteValue.valueError "reflectlite.Value.Elem" 0) ReflectliteValue.elem #[.agg #[.pointer (some ⟨10, 71, none⟩), .pointer (some a), .int .u64 150]]).run Tryz.prog W
      = .ok (.agg #[.pointer (some ⟨10, 69, none⟩), .pointer (some p), .int .u64 406]) W := by
  rw [rlm]
  simp only [Sem.run_bind, Tryz.partsPP, Result.andThen]
  simp [ReflectliteValue.elem, loadVar, isAgg, underlying, Tryz.underlying71, ha, Result.andThen, Tryz.elemOfPP, Tryz.mkP]
theorem rls (v x : Value) : ReflectliteValue.set #[v, x] = (do
    let (some (dst, a, fl), some (src, b, _)) := (← ReflectliteValue.parts v, ← ReflectliteValue.parts x)
      | unsupported (.noEntry "extern/(internal/reflectlite.Value).Set.zeroValue")
    if fl / ReflectliteValue.flagAddr % 2 == 0 then unsupported (.noEntry "extern/(internal/reflectlite.Value).Set.unaddressable")
    let val ← loadVar src b
    if ← Rtype.directlyAssignable dst src then storeVar dst a val
    else if ← Rtype.implements dst src then
      if (← Rtype.kind src) == 20 then
        match val with
        | .nilIface => unsupported (.noEntry "extern/reflectlite: a nil value of one interface type handed on as a value of another")
        | _ => storeVar dst a val
      else storeVar dst a (.iface src val)
    else panicString ("reflectlite.Set: value of type " ++ (← Rtype.spelt src) ++ " is not assignable to type " ++ (← Rtype.spelt dst))
    pure (.tuple #[])) := rfl
theorem Tryz.partsPa (a : Addr) (w : World) : (ReflectliteValue.parts (.agg #[.pointer (some ⟨10, 69, none⟩), .pointer (some a), .int .u64 406])).run Tryz.prog w = .ok (some (69, a, 406)) w := by kernel_rfl
theorem Tryz.partsP (a : Addr) (w : World) : (ReflectliteValue.parts (.agg #[.pointer (some ⟨10, 69, none⟩), .pointer (some a), .int .u64 150])).run Tryz.prog w = .ok (some (69, a, 150)) w := by kernel_rfl
theorem Tryz.directP (w : World) : (Rtype.directlyAssignable 69 69).run Tryz.prog w = .ok true w := by kernel_rfl
theorem Tryz.setP (ta b e : Addr) (old : Value) (W : World) (hb : W.cell? b = some (.pointer (some e))) (ht : W.cell? ta = some old) (hf : W.frozen? ta = false) :
    (ReflectliteValue.set #[.agg #[.pointer (some ⟨10, 69, none⟩), .pointer (some ta), .int .u64 406], .agg #[.pointer (some ⟨10, 69, none⟩), .pointer (some b), .int .u64 150]]).run Tryz.prog W
      = .ok (.tuple #[]) (W.setCell ta (.pointer (some e))) := by
  rw [rls]
  simp only [Sem.run_bind, Tryz.partsPa, Tryz.partsP, Result.andThen]
  simp [ReflectliteValue.flagAddr, loadVar, isAgg, underlying, Tryz.underlying69, hb, Result.andThen, Tryz.directP, storeVar, Value.cells, storeCells, Addr.add]
  rw [run_store Tryz.prog W ta _ _ (by rfl)]
  simp [ht, hf]
set_option maxHeartbeats 4000000 in
/-- errors.As(a Fault, a variable of Faults) -/
theorem as_hit (e t : Addr) (old : Value) (w : World) (hg : w.cell? ⟨0, 0, none⟩ = some (.iface 132 (.agg #[.pointer (some ⟨10, 42, none⟩)]))) (ht0 : w.cell? t = some old) (hf0 : w.frozen? t = false) :
    Calls Tryz.prog 37 #[.iface 69 (.pointer (some e)), .iface 71 (.pointer (some t))] w fun ev w' => ev = .returned (.bool true) ∧ w' = ((((w.alloc (.cells #[.pointer (some t)] 71)).alloc (.cells #[.pointer (some ⟨10, 71, none⟩), .pointer (some ⟨w.heap.size, 0, none⟩), .int .u64 150] 94)).alloc (.cells #[.pointer (some ⟨10, 71, none⟩), .pointer (some ⟨w.heap.size, 0, none⟩), .int .u64 150] 94)).alloc (.cells #[.pointer (some e)] 69)).setCell t (.pointer (some e)) := by
  have h6 := @run_callFunc_extern Tryz.prog 55 _ (fun args => ReflectliteValue.unpack (args.getD 0 (.tuple #[]))) Tryz.func55 (by kernel_rfl) (by kernel_rfl) (by kernel_rfl) (by kernel_rfl)
  have h7 := @run_callFunc_extern Tryz.prog 56 _ (ReflectliteValue.methodAny (ReflectliteValue.valueError "reflectlite.Value.Type" 0) (fun t _ _ _ => ReflectliteType.toType t)) Tryz.func56 (by kernel_rfl) (by kernel_rfl) (by kernel_rfl) (by kernel_rfl)
  have h8 := @run_callFunc_extern Tryz.prog 57 _ (ReflectliteValue.method (ReflectliteValue.valueError "reflectlite.Value.IsNil" 0) ReflectliteValue.isNil) Tryz.func57 (by kernel_rfl) (by kernel_rfl) (by kernel_rfl) (by kernel_rfl)
  have h27 := @run_callFunc_extern Tryz.prog 192 _ (ReflectliteType.abiMethod fun t => do pure (.int .u8 (← Rtype.kind t))) Tryz.func192 (by kernel_rfl) (by kernel_rfl) (by kernel_rfl) (by kernel_rfl)
  have h37 := @run_callFunc_extern Tryz.prog 204 _ (ReflectliteType.method ReflectliteType.elem) Tryz.func204 (by kernel_rfl) (by kernel_rfl) (by kernel_rfl) (by kernel_rfl)
  have h38 := @run_callFunc_extern Tryz.prog 205 _ (ReflectliteType.relation "Implements" ReflectliteType.implements_) Tryz.func205 (by kernel_rfl) (by kernel_rfl) (by kernel_rfl) (by kernel_rfl)
  have h10 := @run_callFunc_extern Tryz.prog 79 _ ReflectliteType.typeOf Tryz.func79 (by kernel_rfl) (by kernel_rfl) (by kernel_rfl) (by kernel_rfl)
  have h35 := @run_callFunc_extern Tryz.prog 202 _ (ReflectliteType.relation "AssignableTo" ReflectliteType.assignableTo) Tryz.func202 (by kernel_rfl) (by kernel_rfl) (by kernel_rfl) (by kernel_rfl)
  have h11 := @run_callFunc_extern Tryz.prog 98 _ (ReflectliteValue.method (ReflectliteValue.valueError "reflectlite.Value.Elem" 0) ReflectliteValue.elem) Tryz.func98 (by kernel_rfl) (by kernel_rfl) (by kernel_rfl) (by kernel_rfl)
  have h12 := @run_callFunc_extern Tryz.prog 99 _ ReflectliteValue.set Tryz.func99 (by kernel_rfl) (by kernel_rfl) (by kernel_rfl) (by kernel_rfl)
  have tO := Tryz.typeOfP
  have mA := Tryz.methodAssignableTo
  have a25 := Tryz.assignableP
  have v25 := Tryz.valueOfP
  have f6 := Tryz.valueOfPP
  have f7 := Tryz.typePP
  have mK := Tryz.methodKind
  have mE := Tryz.methodElem
  have mI := Tryz.methodImplements
  have k27 := Tryz.kindPP
  have k25 := Tryz.kindP
  have e27 := Tryz.elemPP
  have i25 := Tryz.implementsP
  have n8 := Tryz.isNilPP ⟨w.heap.size, 0, none⟩ t ((w.alloc (.cells #[.pointer (some t)] 71)).alloc (.cells #[.pointer (some ⟨10, 71, none⟩), .pointer (some ⟨w.heap.size, 0, none⟩), .int .u64 150] 94)) (by simp)
  have hlt : 0 < w.heap.size := by
    rcases Nat.eq_zero_or_pos w.heap.size with h0 | h
    · simp [World.cell?, h0] at hg
    · exact h
  have hg2 : ((w.alloc (.cells #[.pointer (some t)] 71)).alloc (.cells #[.pointer (some ⟨10, 71, none⟩), .pointer (some ⟨w.heap.size, 0, none⟩), .int .u64 150] 94)).cell? ⟨0, 0, none⟩ = some (.iface 132 (.agg #[.pointer (some ⟨10, 42, none⟩)])) := by
    rw [World.cell?_alloc_lt _ _ ⟨0, 0, none⟩ (by simp), World.cell?_alloc_lt _ _ ⟨0, 0, none⟩ hlt]; exact hg
  have htl : t.block < w.heap.size := by
    rcases Nat.lt_or_ge t.block w.heap.size with h | h
    · exact h
    · simp [World.cell?, Array.getElem?_eq_none h] at ht0
  have el := Tryz.elemVPP ⟨w.heap.size, 0, none⟩ t (((w.alloc (.cells #[.pointer (some t)] 71)).alloc (.cells #[.pointer (some ⟨10, 71, none⟩), .pointer (some ⟨w.heap.size, 0, none⟩), .int .u64 150] 94)).alloc (.cells #[.pointer (some ⟨10, 71, none⟩), .pointer (some ⟨w.heap.size, 0, none⟩), .int .u64 150] 94)) (by rw [World.cell?_alloc_lt _ _ ⟨w.heap.size, 0, none⟩ (by simp; omega)]; simp)
  have st := Tryz.setP t ⟨w.heap.size + 1 + 1 + 1, 0, none⟩ e old ((((w.alloc (.cells #[.pointer (some t)] 71)).alloc (.cells #[.pointer (some ⟨10, 71, none⟩), .pointer (some ⟨w.heap.size, 0, none⟩), .int .u64 150] 94)).alloc (.cells #[.pointer (some ⟨10, 71, none⟩), .pointer (some ⟨w.heap.size, 0, none⟩), .int .u64 150] 94)).alloc (.cells #[.pointer (some e)] 69))
    (by rw [World.cell?_alloc_at _ _ _ _ (by simp)]; rfl)
    (by rw [World.cell?_alloc_lt _ _ t (by simp; omega), World.cell?_alloc_lt _ _ t (by simp; omega), World.cell?_alloc_lt _ _ t (by simp; omega), World.cell?_alloc_lt _ _ t htl]; exact ht0)
    (by rw [World.frozen?_alloc_old _ _ t (by simp; omega), World.frozen?_alloc_old _ _ t (by simp; omega), World.frozen?_alloc_old _ _ t (by simp; omega), World.frozen?_alloc_old _ _ t (Nat.ne_of_lt htl)]; exact hf0)
  go_enter Tryz.func37, Tryz.ntmps37
  go_wp2
  refine wp_loop_rounds 1 ?_
  rw [rounds_succ]
  go_wp2
  go_ret
  exact ⟨rfl, rfl⟩
end Go.Proofs.YtaielgjmhbjfhaaGreatDoor

namespace Go.Proofs.YtaielgjmhbjfhaaGreatDoor
open Go.RowKit Go.Extern.Stop Go.Stop Go.Extern
theorem Tryz.isTypeOf (v : Value) (w : World) : (Extern.ReflectliteType.typeOf #[.iface 67 v]).run Tryz.prog w = .ok (.iface 132 (.agg #[.pointer (some ⟨10, 67, none⟩)])) w := by kernel_rfl
def comparableF : TypeId → Sem Value := fun t => do Rtype.noPackHeld "Comparable" t; pure (.bool (← typeInfo t).comparable)
theorem Tryz.isComparable (w : World) : (Extern.ReflectliteType.method comparableF #[.agg #[.pointer (some ⟨10, 67, none⟩)]]).run Tryz.prog w = .ok (.bool true) w := by kernel_rfl
theorem Tryz.isMethodComparable (v : Value) (w : World) : (Go.method 361 132 v "Comparable").run Tryz.prog w = .ok (203, v) w := by kernel_rfl
theorem Tryz.noIsE (v : Value) (xT : TypeId) (w : World) : (Instr.typeAssert (.iface 67 v) xT 158 true).run Tryz.prog w = .ok (.tuple #[.nilIface, .bool false]) w := run_typeAssert_lacksB Tryz.underlying158 (by kernel_rfl) (by kernel_rfl) v xT w
theorem Tryz.noUnwrapE (v : Value) (xT : TypeId) (w : World) : (Instr.typeAssert (.iface 67 v) xT 139 true).run Tryz.prog w = .ok (.tuple #[.nilIface, .bool false]) w := run_typeAssert_lacksB Tryz.underlying139 (by kernel_rfl) (by kernel_rfl) v xT w
theorem Tryz.noUnwrapsE (v : Value) (xT : TypeId) (w : World) : (Instr.typeAssert (.iface 67 v) xT 141 true).run Tryz.prog w = .ok (.tuple #[.nilIface, .bool false]) w := run_typeAssert_lacksB Tryz.underlying141 (by kernel_rfl) (by kernel_rfl) v xT w
theorem Tryz.noIsF (v : Value) (xT : TypeId) (w : World) : (Instr.typeAssert (.iface 69 v) xT 158 true).run Tryz.prog w = .ok (.tuple #[.nilIface, .bool false]) w := run_typeAssert_lacksB Tryz.underlying158 (by kernel_rfl) (by kernel_rfl) v xT w
theorem Tryz.hasUnwrapF (v : Value) (xT : TypeId) (w : World) : (Instr.typeAssert (.iface 69 v) xT 139 true).run Tryz.prog w = .ok (.tuple #[.iface 69 v, .bool true]) w := run_typeAssert_hasB Tryz.underlying139 (by kernel_rfl) v xT w
theorem Tryz.methodUnwrap (v : Value) (w : World) : (Go.method 361 69 v "Unwrap").run Tryz.prog w = .ok (197, v) w := by kernel_rfl
theorem Tryz.eqErr (c c' : Int) (w : World) : (binOp .eql 42 (.iface 67 (.int .i64 c)) (.iface 67 (.int .i64 c'))).run Tryz.prog w = .ok (.bool (c == c')) w := by kernel_rfl
set_option maxHeartbeats 4000000 in
theorem is_hit (b o : Nat) (c c' : Int) (w : World) (h2 : w.cell? ⟨b, o + 2, none⟩ = some (.int .i64 c)) (h3 : w.cell? ⟨b, o + 3, none⟩ = some .nilIface) :
    Calls Tryz.prog 46 #[.iface 69 (.pointer (some ⟨b, o, none⟩)), .iface 67 (.int .i64 c')] w fun e w' => e = .returned (.bool (c == c')) ∧ w' = w := by
  have h8 := @run_callFunc_extern Tryz.prog 79 _ Extern.ReflectliteType.typeOf Tryz.func79 (by kernel_rfl) (by kernel_rfl) (by kernel_rfl) (by kernel_rfl)
  have h32 := @run_callFunc_extern Tryz.prog 203 _ (Extern.ReflectliteType.method comparableF) Tryz.func203 (by kernel_rfl) (by kernel_rfl) (by kernel_rfl) (by kernel_rfl)
  have tT := Tryz.isTypeOf
  have cT := Tryz.isComparable
  have mR := Tryz.isMethodComparable
  have nE := Tryz.noIsE
  have uE := Tryz.noUnwrapE
  have vE := Tryz.noUnwrapsE
  have nW := Tryz.noIsF
  have uW := Tryz.hasUnwrapF
  have mU := Tryz.methodUnwrap
  have hty := run_eql_iface_types (P := Tryz.prog) 69 67 (.pointer (some ⟨b, o, none⟩)) (.int .i64 c') Tryz.underlying42 (by decide) w
  by_cases hcc : c = c'
  · subst hcc
    have hee := Tryz.eqErr c c w
    rw [show (c == c) = true by simp] at hee ⊢
    go_enter Tryz.func46, Tryz.ntmps46
    go_wp2
    refine wp_loop_rounds 2 ?_
    rw [rounds_succ]
    go_wp2
    rw [rounds_succ]
    go_wp2
    go_ret
    exact ⟨rfl, rfl⟩
  · have hee := Tryz.eqErr c c' w
    rw [show (c == c') = false by simpa using hcc] at hee ⊢
    go_enter Tryz.func46, Tryz.ntmps46
    go_wp2
    refine wp_loop_rounds 2 ?_
    rw [rounds_succ]
    go_wp2
    rw [rounds_succ]
    go_wp2
    go_ret
    exact ⟨rfl, rfl⟩
theorem is_nil (c : Int) (w : World) : Calls Tryz.prog 46 #[.nilIface, .iface 67 (.int .i64 c)] w fun e w' => e = .returned (.bool false) ∧ w' = w := by
  have hn := run_eql_iface_nil_left (P := Tryz.prog) w 67 (.int .i64 c) Tryz.underlying42
  go_enter Tryz.func46, Tryz.ntmps46
  go_wp2
  go_ret
  exact ⟨rfl, rfl⟩
end Go.Proofs.YtaielgjmhbjfhaaGreatDoor

namespace Go.Proofs
open Go.Shelf
def Tryz.lays219_ren : Go.Shelf.Ren := ⟨fun | 219 => 169 | 217 => 172 | 225 => 173 | 224 => 174 | 267 => 175 | 266 => 176 | 314 => 177 | n => n, fun | 9 => 9 | 3 => 3 | 4 => 4 | 5 => 5 | 46 => 205 | 146 => 231 | 51 => 32 | n => n, fun | 1 => 6 | n => n⟩
theorem Tryz.lays219 : Go.Proofs.Lays.n219 Tryz.prog Tryz.lays219_ren := {
  mixed := by kernel_rfl
  f217 := Tryz.func172.trans (congrArg some (by kernel_rfl))
  f219 := Tryz.func169.trans (congrArg some (by kernel_rfl))
  f224 := Tryz.func174.trans (congrArg some (by kernel_rfl))
  f225 := Tryz.func173.trans (congrArg some (by kernel_rfl))
  f266 := Tryz.func176.trans (congrArg some (by kernel_rfl))
  f267 := Tryz.func175.trans (congrArg some (by kernel_rfl))
  f314 := Tryz.func177.trans (congrArg some (by kernel_rfl))
  t3 := Tryz.underlying3
  a3 := Tryz.isAgg3
  z3 := Tryz.sizeOf3
  v3 := Tryz.zeroValue3
  t4 := Tryz.underlying4
  a4 := Tryz.isAgg4
  z4 := Tryz.sizeOf4
  v4 := Tryz.zeroValue4
  t5 := Tryz.underlying5
  a5 := Tryz.isAgg5
  z5 := Tryz.sizeOf5
  v5 := Tryz.zeroValue5
  t9 := Tryz.underlying9
  a9 := Tryz.isAgg9
  z9 := Tryz.sizeOf9
  v9 := Tryz.zeroValue9
  t46 := Tryz.underlying205
  a46 := Tryz.isAgg205
  z46 := Tryz.sizeOf205
  v46 := Tryz.zeroValue205
  t51 := Tryz.underlying32
  a51 := Tryz.isAgg32
  z51 := Tryz.sizeOf32
  v51 := Tryz.zeroValue32
  t146 := Tryz.underlying231
  a146 := Tryz.isAgg231
  z146 := Tryz.sizeOf231
  v146 := Tryz.zeroValue231
  g1 := by kernel_rfl }
open Go.RowKit Go.Lib in
theorem Tryz.stringslite_Index_one (s : ByteArray) (c : UInt8) (w : World) :
    Calls Tryz.prog 169 #[.string s, .string ⟨#[c]⟩] w fun e w' => e = .returned (.int .i64 (Lib.indexByte s.data.toList c)) ∧ w' = w := Any.stringslite_Index_one Tryz.lays219 s c w
open Go.RowKit Go.Lib in
def Tryz.lays260_ren : Go.Shelf.Ren := ⟨fun | 260 => 168 | n => n, fun | 9 => 9 | 21 => 21 | 3 => 3 | 4 => 4 | 5 => 5 | 119 => 113 | 0 => 0 | 46 => 205 | 139 => 227 | 138 => 226 | n => n, fun | 3 => 4 | 4 => 5 | n => n⟩
theorem Tryz.lays260 : Go.Proofs.Lays.n260 Tryz.prog Tryz.lays260_ren := {
  mixed := by kernel_rfl
  f260 := Tryz.func168.trans (congrArg some (by kernel_rfl))
  t0 := Tryz.underlying0
  a0 := Tryz.isAgg0
  z0 := Tryz.sizeOf0
  v0 := Tryz.zeroValue0
  t3 := Tryz.underlying3
  a3 := Tryz.isAgg3
  z3 := Tryz.sizeOf3
  v3 := Tryz.zeroValue3
  t4 := Tryz.underlying4
  a4 := Tryz.isAgg4
  z4 := Tryz.sizeOf4
  v4 := Tryz.zeroValue4
  t5 := Tryz.underlying5
  a5 := Tryz.isAgg5
  z5 := Tryz.sizeOf5
  v5 := Tryz.zeroValue5
  t9 := Tryz.underlying9
  a9 := Tryz.isAgg9
  z9 := Tryz.sizeOf9
  v9 := Tryz.zeroValue9
  t21 := Tryz.underlying21
  a21 := Tryz.isAgg21
  z21 := Tryz.sizeOf21
  v21 := Tryz.zeroValue21
  t46 := Tryz.underlying205
  a46 := Tryz.isAgg205
  z46 := Tryz.sizeOf205
  v46 := Tryz.zeroValue205
  t119 := Tryz.underlying113
  a119 := Tryz.isAgg113
  z119 := Tryz.sizeOf113
  t138 := Tryz.underlying226
  a138 := Tryz.isAgg226
  z138 := Tryz.sizeOf226
  v138 := Tryz.zeroValue226
  t139 := Tryz.underlying227
  a139 := Tryz.isAgg227
  z139 := Tryz.sizeOf227
  v139 := Tryz.zeroValue227
  g3 := by kernel_rfl
  g4 := by kernel_rfl }
open Go.RowKit Go.Lib in
def Tryz.lays197_ren : Go.Shelf.Ren := ⟨fun | 197 => 158 | 260 => 168 | n => n, fun | 9 => 9 | 21 => 21 | 3 => 3 | 4 => 4 | 5 => 5 | 105 => 217 | 119 => 113 | 0 => 0 | 46 => 205 | 139 => 227 | 138 => 226 | n => n, fun | 3 => 4 | 4 => 5 | n => n⟩
theorem Tryz.lays197 : Go.Proofs.Lays.n197 Tryz.prog Tryz.lays197_ren := {
  mixed := by kernel_rfl
  f197 := Tryz.func158.trans (congrArg some (by kernel_rfl))
  f260 := Tryz.func168.trans (congrArg some (by kernel_rfl))
  t0 := Tryz.underlying0
  a0 := Tryz.isAgg0
  z0 := Tryz.sizeOf0
  v0 := Tryz.zeroValue0
  t3 := Tryz.underlying3
  a3 := Tryz.isAgg3
  z3 := Tryz.sizeOf3
  v3 := Tryz.zeroValue3
  t4 := Tryz.underlying4
  a4 := Tryz.isAgg4
  z4 := Tryz.sizeOf4
  v4 := Tryz.zeroValue4
  t5 := Tryz.underlying5
  a5 := Tryz.isAgg5
  z5 := Tryz.sizeOf5
  v5 := Tryz.zeroValue5
  t9 := Tryz.underlying9
  a9 := Tryz.isAgg9
  z9 := Tryz.sizeOf9
  v9 := Tryz.zeroValue9
  t21 := Tryz.underlying21
  a21 := Tryz.isAgg21
  z21 := Tryz.sizeOf21
  v21 := Tryz.zeroValue21
  t46 := Tryz.underlying205
  a46 := Tryz.isAgg205
  z46 := Tryz.sizeOf205
  v46 := Tryz.zeroValue205
  t105 := Tryz.underlying217
  a105 := Tryz.isAgg217
  z105 := Tryz.sizeOf217
  v105 := Tryz.zeroValue217
  t119 := Tryz.underlying113
  a119 := Tryz.isAgg113
  z119 := Tryz.sizeOf113
  t138 := Tryz.underlying226
  a138 := Tryz.isAgg226
  z138 := Tryz.sizeOf226
  v138 := Tryz.zeroValue226
  t139 := Tryz.underlying227
  a139 := Tryz.isAgg227
  z139 := Tryz.sizeOf227
  v139 := Tryz.zeroValue227
  g3 := by kernel_rfl
  g4 := by kernel_rfl }
open Go.RowKit Go.Lib in
theorem Tryz.utf8_DecodeRuneInString (s : ByteArray) (w : World) (hT : Lib.Utf8Tabs 4 5 w) :
    Calls Tryz.prog 158 #[.string s] w fun e w' => e = .returned (.tuple #[.int .i32 (Lib.decodeGo s).1, .int .i64 (Lib.decodeGo s).2]) ∧ Below w.heap.size w w' := Any.utf8_DecodeRuneInString Tryz.lays197 s w hT
end Go.Proofs

set_option linter.unusedVariables false
namespace Go.Proofs.YtaielgjmhbjfhaaGreatDoor
open Go Go.RowKit
theorem width_pos (s : ByteArray) (pos : Nat) (h : pos < s.size) : 1 ≤ (Utf8.decode s pos).2 := by
  by_cases ha : (s[pos]'h).toNat < 128
  · rw [decode_ascii s pos h ha]
    exact Nat.le_refl _
  · exact (decode_high s pos h (by omega)).2
theorem decodeGo_rest (s : ByteArray) (pos : Nat) (h : pos < s.size) : Lib.decodeGo (s.extract pos s.size) = Utf8.decode s pos := by
  have : (s.extract pos s.size).size ≠ 0 := by simp; omega
  rw [Lib.decodeGo, if_neg this, Go.Extern.FmtText.decode_extract]
theorem tabs_below {w w' : World} (hT : Lib.Utf8Tabs 4 5 w) (hb : Below w.heap.size w w') : Lib.Utf8Tabs 4 5 w' := by
  have key : ∀ {a : Addr} {v : Value}, w.cell? a = some v → w'.cell? a = some v := fun {a v} e => by
    have := block_lt_of_cell e
    rw [← e]
    simp only [World.cell?, hb.block _ this]
  exact ⟨fun c hc => key (hT.1 c hc), fun i hi => ⟨key (hT.2 i hi).1, key (hT.2 i hi).2⟩⟩
theorem strangeF_end (l : List UInt8) (f pos : Nat) (h : ¬ pos < l.length) : Bf.strangeF l f pos = -1 := by
  cases f with
  | zero => rfl
  | succ f => simp [Bf.strangeF, h]
set_option maxHeartbeats 4000000 in
set_option maxRecDepth 1000000 in
theorem strange_call (s : ByteArray) (w : World) (hT : Lib.Utf8Tabs 4 5 w) :
    Calls Tryz.prog 149 #[.string s] w fun e w' => e = .returned (.int .i64 (Bf.strangeF s.data.toList (s.data.toList.length + 1) 0)) ∧ Below w.heap.size w w' := by
  have hlen : s.data.toList.length = s.size := by simp
  go_enter Tryz.func149, Tryz.ntmps149
  go_wp2
  go_loopw [] (fun wr => ∃ (pos fuel : Nat), wr.heap[w.heap.size]? = some (.stringIter s pos) ∧ Below w.heap.size w wr ∧ Bf.strangeF s.data.toList fuel pos = Bf.strangeF s.data.toList (s.data.toList.length + 1) 0 ∧ s.size < pos + fuel) (fun wr => s.size - World.iterPos wr w.heap.size)
  case atStart =>
    exact ⟨0, s.data.toList.length + 1, World.iter_heap w s 0, (Below.refl _ w).alloc (Nat.le_refl _) _, rfl, by omega⟩
  case round =>
    obtain ⟨pos, fuel, hit, hbw, hacc, hfu⟩ := hrel
    have hsz : w.heap.size < wr.heap.size := (Array.getElem?_eq_some_iff.1 hit).1
    by_cases hp : pos < s.size
    · have hnx : ∀ ty, (Instr.next (.pointer (some ⟨w.heap.size, 0, none⟩)) true ty).run Tryz.prog wr = _ := fun ty => Lib.run_next_any_at wr w.heap.size s pos ty hit hp
      have hwd := width_pos s pos hp
      have hit2 := Lib.iterAt_heap wr w.heap.size s pos (pos + (Utf8.decode s pos).2) hit
      have hbw2 := Lib.below_iterAt hbw (k := w.heap.size) (Nat.le_refl _) s (pos + (Utf8.decode s pos).2)
      obtain ⟨f, rfl⟩ : ∃ f, fuel = f + 1 := ⟨fuel - 1, by omega⟩
      have hstep : Bf.strangeF s.data.toList (f + 1) pos = if (Utf8.decode s pos).1 = 65533 ∧ (Utf8.decode s pos).2 < 2 then (pos : Int) else Bf.strangeF s.data.toList f (pos + (Utf8.decode s pos).2) := by
        rw [Bf.strangeF, if_pos (by rw [hlen]; exact hp)]
      by_cases h1 : (Utf8.decode s pos).1 = 65533
      · have hT2 := tabs_below hT hbw2
        go_wp2_with (go_at_call 158; refine (Tryz.utf8_DecodeRuneInString _ _ hT2).mono ?_)
        rintro e W1 ⟨rfl, b1⟩
        rw [decodeGo_rest s pos hp, h1]
        have hlt : w.heap.size < (wr.iterAt w.heap.size s (pos + (Utf8.decode s pos).2)).heap.size := by rw [Lib.iterAt_size]; exact hsz
        have hit3 : W1.heap[w.heap.size]? = some (.stringIter s (pos + (Utf8.decode s pos).2)) := by rw [b1.block _ hlt]; exact hit2
        have hbw3 : Below w.heap.size w W1 := hbw2.trans (b1.mono (by rw [Lib.iterAt_size]; omega))
        by_cases h2 : (Utf8.decode s pos).2 < 2
        · have h2' : ((Utf8.decode s pos).2 : Int) < 2 := by omega
          go_wp2
          go_ret
          rw [hstep, if_pos ⟨h1, h2⟩] at hacc
          exact ⟨congrArg (fun x => Ending.returned (Value.int IntKind.i64 x)) hacc, hbw3⟩
        · rw [hstep, if_neg (fun x => h2 x.2)] at hacc
          have h2' : ¬ ((Utf8.decode s pos).2 : Int) < 2 := by omega
          go_wp2
          go_roundw
          case rel =>
            exact ⟨pos + (Utf8.decode s pos).2, f, hit3, hbw3, hacc, by omega⟩
          case measure =>
            simp only [World.iterPos, hit3, hit]
            omega
      · rw [hstep, if_neg (fun x => h1 x.1)] at hacc
        have h1' : ¬ ((Utf8.decode s pos).1 : Int) = 65533 := by omega
        go_wp2
        go_roundw
        case rel =>
          exact ⟨pos + (Utf8.decode s pos).2, f, hit2, hbw2, hacc, by omega⟩
        case measure =>
          simp only [World.iterPos, hit2, hit]
          omega
    · have hnx : ∀ ty, (Instr.next (.pointer (some ⟨w.heap.size, 0, none⟩)) true ty).run Tryz.prog wr = _ := fun ty => Lib.run_next_end_at wr w.heap.size s pos ty hit hp
      go_wp2
      go_ret
      rw [strangeF_end _ _ _ (by rw [hlen]; exact hp)] at hacc
      rw [← hacc]
      exact ⟨rfl, hbw⟩
end Go.Proofs.YtaielgjmhbjfhaaGreatDoor

set_option linter.unusedSimpArgs false
set_option linter.unusedVariables false
namespace Go.AM
open Go.RowKit
/-- Where an object lies: the block, the place in it, the block's size. -/
structure Place where
  b : Nat
  o : Nat
  n : Nat
structure RX where
  w : World
  h : Heap
  ρ : Nat → Place
  F : Nat → Prop      -- blocks that are another's
def RX.Own (X : RX) (b : Nat) : Prop := ∃ id o, X.h.look id = some o ∧ (X.ρ id).b = b
def RX.Still (X : RX) (b : Nat) : Prop := b < X.w.heap.size ∧ ¬ X.F b ∧ ¬ X.Own b
def CellsAt (w : World) (b o : Nat) (vs : List Value) : Prop := ∀ i v, vs[i]? = some v → w.cell? ⟨b, o + i, none⟩ = some v
def allOne (cs : List AV) : Prop := ∀ v ∈ cs, v.one = true
mutual
inductive VRel (X : RX) : AV → Value → Prop
  | bool (b : Bool) : VRel X (.bool b) (.bool b)
  | int (k : IntKind) (n : Int) : VRel X (.int k n) (.int k n)
  | str (s : List UInt8) : VRel X (.str s) (.string ⟨s.toArray⟩)
  | nilp : VRel X .nilp (.pointer none)
  | nils : VRel X .nils (.slice none 0 0)
  | nilm : VRel X .nilm (.map none)
  | nilf : VRel X .nilf .nilFunc
  | nili : VRel X .nili .nilIface
  | ptr (id gen off : Nat) (a : Addr) (hid : id < X.h.next)
      (hlive : ∀ o, X.h.look id = some o → gen ≤ o.gen ∧ (gen = o.gen → a = ⟨(X.ρ id).b, (X.ρ id).o + off, none⟩)) :
      VRel X (.ptr id gen off) (.pointer (some a))
  | sl (id gen off sz len : Nat) (cap : Option Nat) (a : Addr) (n : Nat) (hid : id < X.h.next) (hlen : len ≤ n)
      (hcap : ∀ c, cap = some c → n = c)
      (hlive : ∀ o, X.h.look id = some o → gen ≤ o.gen ∧
        (gen = o.gen → (0 < n → a = ⟨(X.ρ id).b, (X.ρ id).o + off, none⟩) ∧ (X.ρ id).o + off + n * sz ≤ (X.ρ id).n ∧ (cap = none → (X.ρ id).o + off + n * sz = (X.ρ id).n))) :
      VRel X (.sl id gen off sz len cap) (.slice (some a) len n)
  | fp (cells : List AV) (b o : Nat) (vs : List Value) (hst : X.Still b) (hat : CellsAt X.w b o vs) (h1 : allOne cells) (hvs : VRels X cells vs) :
      VRel X (.fp cells) (.pointer (some ⟨b, o, none⟩))
  | fs (full : Bool) (len : Nat) (cells : List AV) (a : Addr) (n : Nat) (vs : List Value) (hlen : len ≤ n) (hfull : full = true → n = len)
      (hat : cells ≠ [] → ∃ b o, a = ⟨b, o, none⟩ ∧ X.Still b ∧ CellsAt X.w b o vs) (h1 : allOne cells) (hvs : VRels X cells vs) :
      VRel X (.fs full len cells) (.slice (some a) len n)
  | fn (f : Fn) (a b : List AV) (a' b' : List Value) (ha : VRels X a a') (hb : VRels X b b') : VRel X (.fn f a b) (.func f a'.toArray b'.toArray)
  | ifc (t : TypeId) (v : AV) (v' : Value) (hv : VRel X v v') : VRel X (.ifc t v) (.iface t v')
  | agg (cs : List AV) (cs' : List Value) (h1 : allOne cs) (hv : VRels X cs cs') : VRel X (.agg cs) (.agg cs'.toArray)
  | tup (vs : List AV) (vs' : List Value) (hv : VRels X vs vs') : VRel X (.tup vs) (.tuple vs'.toArray)
inductive VRels (X : RX) : List AV → List Value → Prop
  | nil : VRels X [] []
  | cons (v : AV) (v' : Value) (vs : List AV) (vs' : List Value) (hv : VRel X v v') (hvs : VRels X vs vs') : VRels X (v :: vs) (v' :: vs')
end
structure Ext (X X' : RX) : Prop where
  F : X'.F = X.F
  next : X.h.next ≤ X'.h.next
  size : X.w.heap.size ≤ X'.w.heap.size
  other : ∀ b, b < X.w.heap.size → ¬ X.Own b → X'.w.heap[b]? = X.w.heap[b]? ∧ ¬ X'.Own b
  obj : ∀ id o', id < X.h.next → X'.h.look id = some o' → ∃ o, X.h.look id = some o ∧ o.gen ≤ o'.gen ∧ (o.gen = o'.gen → X'.ρ id = X.ρ id)
theorem Ext.refl (X : RX) : Ext X X := ⟨rfl, Nat.le_refl _, Nat.le_refl _, fun _ _ h => ⟨rfl, h⟩, fun _ o' _ h => ⟨o', h, Nat.le_refl _, fun _ => rfl⟩⟩
theorem Ext.trans {X Y Z : RX} (h : Ext X Y) (k : Ext Y Z) : Ext X Z where
  F := k.F.trans h.F
  next := Nat.le_trans h.next k.next
  size := Nat.le_trans h.size k.size
  other b hb ho :=
    let ⟨e, n⟩ := h.other b hb ho
    let ⟨e', n'⟩ := k.other b (Nat.lt_of_lt_of_le hb h.size) n
    ⟨e'.trans e, n'⟩
  obj id o' hid hl := by
    obtain ⟨o1, h1, g1, r1⟩ := k.obj id o' (Nat.lt_of_lt_of_le hid h.next) hl
    obtain ⟨o2, h2, g2, r2⟩ := h.obj id o1 hid h1
    exact ⟨o2, h2, Nat.le_trans g2 g1, fun e => (r1 (Nat.le_antisymm g1 (e ▸ g2))).trans (r2 (Nat.le_antisymm g2 (e ▸ g1)))⟩
theorem Ext.still {X X' : RX} (h : Ext X X') {b : Nat} (hs : X.Still b) : X'.Still b :=
  ⟨Nat.lt_of_lt_of_le hs.1 h.size, by rw [h.F]; exact hs.2.1, (h.other b hs.1 hs.2.2).2⟩
theorem Ext.cellsAt {X X' : RX} (h : Ext X X') {b o : Nat} {vs : List Value} (hs : X.Still b) (hc : CellsAt X.w b o vs) : CellsAt X'.w b o vs :=
  fun i v hv => by
    rw [← hc i v hv]
    have := (h.other b hs.1 hs.2.2).1
    simp only [World.cell?, this]
mutual
theorem VRel.ext {X X' : RX} (h : Ext X X') : ∀ {v : AV} {c : Value}, VRel X v c → VRel X' v c
  | _, _, .bool b => .bool b
  | _, _, .int k n => .int k n
  | _, _, .str s => .str s
  | _, _, .nilp => .nilp
  | _, _, .nils => .nils
  | _, _, .nilm => .nilm
  | _, _, .nilf => .nilf
  | _, _, .nili => .nili
  | _, _, .ptr id gen off a hid hlive => .ptr id gen off a (Nat.lt_of_lt_of_le hid h.next) fun o' ho' => by
      obtain ⟨o, ho, hg, hr⟩ := h.obj id o' hid ho'
      obtain ⟨l1, l2⟩ := hlive o ho
      refine ⟨Nat.le_trans l1 hg, fun e => ?_⟩
      have e1 : gen = o.gen := Nat.le_antisymm l1 (e ▸ hg)
      rw [hr (e1 ▸ e)]
      exact l2 e1
  | _, _, .sl id gen off sz len cap a n hid hlen hcap hlive => .sl id gen off sz len cap a n (Nat.lt_of_lt_of_le hid h.next) hlen hcap fun o' ho' => by
      obtain ⟨o, ho, hg, hr⟩ := h.obj id o' hid ho'
      obtain ⟨l1, l2⟩ := hlive o ho
      refine ⟨Nat.le_trans l1 hg, fun e => ?_⟩
      have e1 : gen = o.gen := Nat.le_antisymm l1 (e ▸ hg)
      rw [hr (e1 ▸ e)]
      exact l2 e1
  | _, _, .fp cells b o vs hst hat h1 hvs => .fp cells b o vs (h.still hst) (h.cellsAt hst hat) h1 (hvs.ext h)
  | _, _, .fs full len cells a n vs hlen hfull hat h1 hvs => .fs full len cells a n vs hlen hfull (fun hne => by
      obtain ⟨b, o, e, hst, hc⟩ := hat hne
      exact ⟨b, o, e, h.still hst, h.cellsAt hst hc⟩) h1 (hvs.ext h)
  | _, _, .fn f a b a' b' ha hb => .fn f a b a' b' (ha.ext h) (hb.ext h)
  | _, _, .ifc t v v' hv => .ifc t v v' (hv.ext h)
  | _, _, .agg cs cs' h1 hv => .agg cs cs' h1 (hv.ext h)
  | _, _, .tup vs vs' hv => .tup vs vs' (hv.ext h)
theorem VRels.ext {X X' : RX} (h : Ext X X') : ∀ {v : List AV} {c : List Value}, VRels X v c → VRels X' v c
  | _, _, .nil => .nil
  | _, _, .cons v v' vs vs' hv hvs => .cons v v' vs vs' (hv.ext h) (hvs.ext h)
end
section
variable {X : RX}
theorem VRels.length : ∀ {vs : List AV} {cs : List Value}, VRels X vs cs → vs.length = cs.length
  | _, _, .nil => rfl
  | _, _, .cons _ _ _ _ _ h => by simp [h.length]
theorem VRels.get : ∀ {vs : List AV} {cs : List Value}, VRels X vs cs → ∀ {i : Nat} {v : AV}, vs[i]? = some v → ∃ c, cs[i]? = some c ∧ VRel X v c
  | _, _, .nil, i, v, h => by simp at h
  | _, _, .cons v v' vs vs' hv hvs, 0, u, h => by simp at h; exact ⟨v', rfl, h ▸ hv⟩
  | _, _, .cons v v' vs vs' hv hvs, i + 1, u, h => by simp at h; simpa using hvs.get h
theorem VRels.append : ∀ {a b : List AV} {a' b' : List Value}, VRels X a a' → VRels X b b' → VRels X (a ++ b) (a' ++ b')
  | _, _, _, _, .nil, h => h
  | _, _, _, _, .cons v v' vs vs' hv hvs, h => .cons v v' _ _ hv (hvs.append h)
theorem VRels.drop : ∀ {a : List AV} {a' : List Value}, VRels X a a' → ∀ n, VRels X (a.drop n) (a'.drop n)
  | _, _, .nil, n => by simp; exact .nil
  | _, _, .cons v v' vs vs' hv hvs, 0 => .cons v v' vs vs' hv hvs
  | _, _, .cons v v' vs vs' hv hvs, n + 1 => hvs.drop n
theorem VRels.take : ∀ {a : List AV} {a' : List Value}, VRels X a a' → ∀ n, VRels X (a.take n) (a'.take n)
  | _, _, .nil, n => by simp; exact .nil
  | _, _, .cons v v' vs vs' hv hvs, 0 => .nil
  | _, _, .cons v v' vs vs' hv hvs, n + 1 => .cons v v' _ _ hv (hvs.take n)
theorem VRels.one {v : AV} {c : Value} (h : VRel X v c) : VRels X [v] [c] := .cons _ _ _ _ h .nil
theorem VRels.replicate {v : AV} {c : Value} (h : VRel X v c) : ∀ n, VRels X (List.replicate n v) (List.replicate n c)
  | 0 => .nil
  | n + 1 => .cons _ _ _ _ h (VRels.replicate h n)
theorem VRels.flatten_replicate {v : List AV} {c : List Value} (h : VRels X v c) : ∀ n, VRels X (List.replicate n v).flatten (List.replicate n c).flatten
  | 0 => .nil
  | n + 1 => by simp only [List.replicate_succ, List.flatten_cons]; exact h.append (VRels.flatten_replicate h n)
theorem VRels.splice {a b : List AV} {a' b' : List Value} (h : VRels X a a') (k : VRels X b b') (off : Nat) :
    VRels X (AM.splice a off b) (a'.take off ++ b' ++ a'.drop (off + b'.length)) := by
  unfold AM.splice
  rw [← k.length]
  exact ((h.take off).append k).append (h.drop _)
end
theorem allOne.append {a b : List AV} (h : allOne a) (k : allOne b) : allOne (a ++ b) := fun v hv => by
  rcases List.mem_append.1 hv with hv | hv
  · exact h v hv
  · exact k v hv
theorem allOne.drop {a : List AV} (h : allOne a) (n : Nat) : allOne (a.drop n) := fun v hv => h v (List.mem_of_mem_drop hv)
theorem allOne.take {a : List AV} (h : allOne a) (n : Nat) : allOne (a.take n) := fun v hv => h v (List.mem_of_mem_take hv)
theorem allOne.splice {a b : List AV} (h : allOne a) (k : allOne b) (off : Nat) : allOne (AM.splice a off b) :=
  ((h.take off).append k).append (h.drop _)
/-- no cell of the block is one that a string shares -/
def Bare (n : Nat) (fz : Nat × Nat) : Prop := fz = (0, 0) ∨ n ≤ fz.1
structure ObjAt (X : RX) (p : Place) (cs : List AV) : Prop where
  cells : ∃ (arr : Array Value) (T : TypeId) (fz : Nat × Nat), X.w.heap[p.b]? = some (.cells arr T fz) ∧ arr.size = p.n ∧ p.o + cs.length ≤ p.n ∧ Bare p.n fz ∧
    VRels X cs ((arr.toList.drop p.o).take cs.length)
  one : allOne cs
structure Rel (B : Nat) (w0 : World) (E : Env) (X : RX) : Prop where
  below : Below B w0 X.w
  base : B ≤ X.w.heap.size
  lt : ∀ id o, X.h.look id = some o → id < X.h.next
  obj : ∀ id o, X.h.look id = some o → ObjAt X (X.ρ id) o.cells
  inj : ∀ id id' o o', X.h.look id = some o → X.h.look id' = some o' → (X.ρ id).b = (X.ρ id').b → id = id'
  fresh : ∀ id o, X.h.look id = some o → B ≤ (X.ρ id).b ∧ ¬ X.F (X.ρ id).b
  Flt : ∀ b, X.F b → b < X.w.heap.size
  glob : ∀ g cs, E.glob g = some cs → VRel X (.fp cs) (.pointer (some ⟨g, 0, none⟩))
  start : E.ok B w0
theorem ObjAt.ext {X X' : RX} (h : Ext X X') {p : Place} {cs : List AV} (hb : X'.w.heap[p.b]? = X.w.heap[p.b]?) (k : ObjAt X p cs) : ObjAt X' p cs := by
  obtain ⟨⟨arr, T, fz, h1, h2, h3, h4, h5⟩, k2⟩ := k
  exact ⟨⟨arr, T, fz, by rw [hb]; exact h1, h2, h3, h4, h5.ext h⟩, k2⟩
theorem ObjAt.lt {X : RX} {p : Place} {cs : List AV} (k : ObjAt X p cs) : p.b < X.w.heap.size := by
  obtain ⟨⟨arr, T, fz, h1, _⟩, _⟩ := k
  exact (Array.getElem?_eq_some_iff.1 h1).1
theorem Heap.look_new (h : Heap) (cs : List AV) (id : Nat) : (h.new cs).look id = if id = h.next then some ⟨0, cs⟩ else h.look id := by
  simp only [Heap.look, Heap.new, Tr.get_set]
theorem Heap.look_upd (h : Heap) (id gen : Nat) (cs : List AV) (id' : Nat) : (h.upd id gen cs).look id' = if id' = id then some ⟨gen, cs⟩ else h.look id' := by
  simp only [Heap.look, Heap.upd, Tr.get_set]
theorem Heap.at_some {h : Heap} {id gen : Nat} {cs : List AV} (e : h.at_ id gen = some cs) : h.look id = some ⟨gen, cs⟩ := by
  unfold Heap.at_ at e
  unfold Heap.look
  cases ho : h.tr.get id with
  | none => rw [ho] at e; cases e
  | some o =>
    rw [ho] at e
    dsimp only at e
    cases hg : Nat.beq o.gen gen with
    | false => rw [hg] at e; cases e
    | true =>
      rw [hg] at e
      have := Nat.eq_of_beq_eq_true hg
      cases o
      simp_all
section
variable {B : Nat} {w0 : World} {E : Env} {X : RX}
/-- The world has grown; of what was there nothing has turned. -/
theorem Ext.grow (X : RX) {w' : World} (hb : Below X.w.heap.size X.w w') : Ext X { X with w := w' } :=
  ⟨rfl, Nat.le_refl _, hb.size, fun b h1 h2 => ⟨hb.block b h1, h2⟩, fun _ o' _ h => ⟨o', h, Nat.le_refl _, fun _ => rfl⟩⟩
theorem Rel.grow (h : Rel B w0 E X) {w' : World} (hb : Below X.w.heap.size X.w w') : Rel B w0 E { X with w := w' } where
  below := h.below.trans (hb.mono h.base)
  base := Nat.le_trans h.base hb.size
  lt := h.lt
  obj id o ho := (h.obj id o ho).ext (Ext.grow X hb) (hb.block _ (h.obj id o ho).lt)
  inj := h.inj
  fresh := h.fresh
  Flt b hF := Nat.lt_of_lt_of_le (h.Flt b hF) hb.size
  glob g cs hg := (h.glob g cs hg).ext (Ext.grow X hb)
  start := h.start
/-- A new object in a new block. -/
def RX.new (X : RX) (w' : World) (cs : List AV) (b n : Nat) : RX :=
  { X with w := w', h := X.h.new cs, ρ := fun id => if id = X.h.next then ⟨b, 0, n⟩ else X.ρ id }
theorem Ext.new (h : Rel B w0 E X) {w' : World} (hb : Below X.w.heap.size X.w w') (cs : List AV) {b : Nat} (hbn : X.w.heap.size ≤ b) (n : Nat) : Ext X (X.new w' cs b n) where
  F := rfl
  next := Nat.le_succ _
  size := hb.size
  other k hk hno := by
    refine ⟨hb.block k hk, ?_⟩
    rintro ⟨id, o, ho, he⟩
    simp only [RX.new, Heap.look_new] at ho he
    by_cases hid : id = X.h.next
    · rw [if_pos hid] at he; dsimp only at he; omega
    · rw [if_neg hid] at ho he; exact hno ⟨id, o, ho, he⟩
  obj id o' hid ho := by
    have hne : id ≠ X.h.next := Nat.ne_of_lt hid
    simp only [RX.new, Heap.look_new, if_neg hne] at ho
    exact ⟨o', ho, Nat.le_refl _, fun _ => if_neg hne⟩
theorem Rel.new (h : Rel B w0 E X) {w' : World} (hb : Below X.w.heap.size X.w w') {cs : List AV} {b : Nat} (hbn : X.w.heap.size ≤ b) (h1 : allOne cs)
    {arr : Array Value} {T : TypeId} {fz : Nat × Nat} (hat : w'.heap[b]? = some (.cells arr T fz)) (hfz : Bare arr.size fz) (hle : cs.length ≤ arr.size)
    (hvs : VRels X cs (arr.toList.take cs.length)) : Rel B w0 E (X.new w' cs b arr.size) := by
  have hE := Ext.new h hb cs hbn arr.size
  constructor
  · exact h.below.trans (hb.mono h.base)
  · exact Nat.le_trans h.base hb.size
  · intro id o ho
    simp only [RX.new, Heap.look_new] at ho ⊢
    by_cases hid : id = X.h.next
    · subst hid; exact Nat.lt_succ_self _
    · rw [if_neg hid] at ho; exact Nat.lt_succ_of_lt (h.lt id o ho)
  · intro id o ho
    by_cases hid : id = X.h.next
    · subst hid
      simp only [RX.new, Heap.look_new, ↓reduceIte] at ho
      cases ho
      refine ⟨⟨arr, T, fz, ?_, ?_, ?_, ?_, ?_⟩, h1⟩
      · simp only [RX.new, ↓reduceIte]; exact hat
      · simp only [RX.new, ↓reduceIte]
      · simp only [RX.new, ↓reduceIte]; omega
      · simp only [RX.new, ↓reduceIte]; exact hfz
      · simp only [RX.new, ↓reduceIte, List.drop_zero]; exact hvs.ext hE
    · have ho' : X.h.look id = some o := by simp only [RX.new, Heap.look_new, if_neg hid] at ho; exact ho
      have hr : (X.new w' cs b arr.size).ρ id = X.ρ id := by simp only [RX.new, if_neg hid]
      rw [hr]
      exact (h.obj id o ho').ext hE (hb.block _ (h.obj id o ho').lt)
  · intro id id' o o' ho ho' he
    simp only [RX.new, Heap.look_new] at ho ho' he
    by_cases hid : id = X.h.next
    · by_cases hid' : id' = X.h.next
      · rw [hid, hid']
      · rw [if_neg hid'] at ho' he
        rw [if_pos hid] at he
        have := (h.obj id' o' ho').lt
        dsimp only at he
        omega
    · rw [if_neg hid] at ho he
      by_cases hid' : id' = X.h.next
      · rw [if_pos hid'] at he
        have := (h.obj id o ho).lt
        dsimp only at he
        omega
      · rw [if_neg hid'] at ho' he
        exact h.inj id id' o o' ho ho' he
  · intro id o ho
    simp only [RX.new, Heap.look_new] at ho ⊢
    by_cases hid : id = X.h.next
    · rw [if_pos hid]
      exact ⟨Nat.le_trans h.base hbn, fun hF => by have := h.Flt _ hF; dsimp only at this; omega⟩
    · rw [if_neg hid] at ho ⊢
      exact h.fresh id o ho
  · intro k hF
    exact Nat.lt_of_lt_of_le (h.Flt k hF) hb.size
  · intro g cs' hg
    exact (h.glob g cs' hg).ext hE
  · exact h.start
/-- The worlds part in one block alone. -/
structure Only (b : Nat) (w w' : World) : Prop where
  os : w'.os = w.os
  tape : w'.tape = w.tape
  output : w'.output = w.output
  size : w.heap.size ≤ w'.heap.size
  block : ∀ k, k < w.heap.size → k ≠ b → w'.heap[k]? = w.heap[k]?
/-- An object is written where it lies, or moves on. -/
def RX.upd (X : RX) (w' : World) (id gen : Nat) (cs : List AV) (p : Place) : RX :=
  { X with w := w', h := X.h.upd id gen cs, ρ := fun k => if k = id then p else X.ρ k }
theorem Ext.upd (h : Rel B w0 E X) {w' : World} {id : Nat} {o : AObj} (hl : X.h.look id = some o) (hw : Only (X.ρ id).b X.w w') {gen : Nat} {cs : List AV} {p : Place}
    (hg : o.gen ≤ gen) (hp : o.gen = gen → p = X.ρ id) (hpb : p.b = (X.ρ id).b ∨ X.w.heap.size ≤ p.b) : Ext X (X.upd w' id gen cs p) where
  F := rfl
  next := Nat.le_refl _
  size := hw.size
  other k hk hno := by
    have hkb : k ≠ (X.ρ id).b := fun e => hno ⟨id, o, hl, e.symm⟩
    refine ⟨hw.block k hk hkb, ?_⟩
    rintro ⟨id', o', ho', he⟩
    simp only [RX.upd, Heap.look_upd] at ho' he
    by_cases hid : id' = id
    · rw [if_pos hid] at he
      rcases hpb with e | e
      · exact hkb (by rw [← he, e])
      · omega
    · rw [if_neg hid] at ho' he; exact hno ⟨id', o', ho', he⟩
  obj id' o' hid ho := by
    simp only [RX.upd, Heap.look_upd] at ho ⊢
    by_cases he : id' = id
    · subst he
      rw [if_pos rfl] at ho ⊢
      cases ho
      exact ⟨o, hl, hg, hp⟩
    · rw [if_neg he] at ho ⊢
      exact ⟨o', ho, Nat.le_refl _, fun _ => rfl⟩
theorem Rel.upd (h : Rel B w0 E X) {w' : World} {id : Nat} {o : AObj} (hl : X.h.look id = some o) (hw : Only (X.ρ id).b X.w w') {gen : Nat} {cs : List AV} {p : Place}
    (hg : o.gen ≤ gen) (hp : o.gen = gen → p = X.ρ id) (hpb : p.b = (X.ρ id).b ∨ X.w.heap.size ≤ p.b) (h1 : allOne cs)
    {arr : Array Value} {T : TypeId} {fz : Nat × Nat} (hat : w'.heap[p.b]? = some (.cells arr T fz)) (hn : arr.size = p.n) (hfz : Bare p.n fz) (hle : p.o + cs.length ≤ p.n)
    (hvs : VRels X cs ((arr.toList.drop p.o).take cs.length)) : Rel B w0 E (X.upd w' id gen cs p) := by
  have hE := Ext.upd h hl hw (cs := cs) hg hp hpb
  have hB := h.fresh id o hl
  constructor
  · refine ⟨hw.os.trans h.below.os, hw.tape.trans h.below.tape, hw.output.trans h.below.output, Nat.le_trans h.below.size hw.size, fun k hk => ?_⟩
    rw [← h.below.block k hk]
    exact hw.block k (Nat.lt_of_lt_of_le hk h.base) (by omega)
  · exact Nat.le_trans h.base hw.size
  · intro id' o' ho'
    simp only [RX.upd, Heap.look_upd] at ho' ⊢
    by_cases hid : id' = id
    · subst hid; exact h.lt _ o hl
    · rw [if_neg hid] at ho'; exact h.lt id' o' ho'
  · intro id' o' ho'
    by_cases hid : id' = id
    · subst hid
      simp only [RX.upd, Heap.look_upd, ↓reduceIte] at ho'
      cases ho'
      have hr : (X.upd w' id' gen cs p).ρ id' = p := by simp only [RX.upd, ↓reduceIte]
      rw [hr]
      exact ⟨⟨arr, T, fz, hat, hn, hle, hfz, hvs.ext hE⟩, h1⟩
    · have ho2 : X.h.look id' = some o' := by simp only [RX.upd, Heap.look_upd, if_neg hid] at ho'; exact ho'
      have hr : (X.upd w' id gen cs p).ρ id' = X.ρ id' := by simp only [RX.upd, if_neg hid]
      rw [hr]
      refine (h.obj id' o' ho2).ext hE (hw.block _ (h.obj id' o' ho2).lt fun e => hid (h.inj id' id o' o ho2 hl e))
  · intro i j oi oj hi hj he
    simp only [RX.upd, Heap.look_upd] at hi hj he
    by_cases hid : i = id
    · by_cases hjd : j = id
      · rw [hid, hjd]
      · rw [if_neg hjd] at hj he
        rw [if_pos hid] at he
        rcases hpb with e | e
        · exact hid.trans (h.inj id j o oj hl hj (by rw [← e, he]))
        · have := (h.obj j oj hj).lt; omega
    · rw [if_neg hid] at hi he
      by_cases hjd : j = id
      · rw [if_pos hjd] at he
        rcases hpb with e | e
        · exact (h.inj i id oi o hi hl (by rw [he, e])).trans hjd.symm
        · have := (h.obj i oi hi).lt; omega
      · rw [if_neg hjd] at hj he
        exact h.inj i j oi oj hi hj he
  · intro id' o' ho'
    simp only [RX.upd, Heap.look_upd] at ho' ⊢
    by_cases hid : id' = id
    · rw [if_pos hid]
      rcases hpb with e | e
      · rw [e]; exact hB
      · exact ⟨Nat.le_trans h.base e, fun hF => by have := h.Flt _ hF; omega⟩
    · rw [if_neg hid] at ho' ⊢
      exact h.fresh id' o' ho'
  · intro k hF
    exact Nat.lt_of_lt_of_le (h.Flt k hF) hw.size
  · intro g cs' hg'
    exact (h.glob g cs' hg').ext hE
  · exact h.start
end
end Go.AM

set_option linter.unusedSimpArgs false
set_option linter.unusedVariables false
namespace Go.AM
open Go.RowKit
section
variable {B : Nat} {w0 : World} {E : Env} {X : RX} {P : Program}
/-- The model's run and the machine's come to the same. -/
def Sim (B : Nat) (w0 : World) (E : Env) (X : RX) (P : Program) (s : Sem Value) (v : AV) (h : Heap) : Prop :=
  ∃ X' v', s.run P X.w = .ok v' X'.w ∧ X'.h = h ∧ Rel B w0 E X' ∧ Ext X X' ∧ VRel X' v v'
theorem Sim.same (hR : Rel B w0 E X) {s : Sem Value} {v : AV} {v' : Value} (hs : s.run P X.w = .ok v' X.w) (hv : VRel X v v') : Sim B w0 E X P s v X.h :=
  ⟨X, v', hs, rfl, hR, Ext.refl X, hv⟩
theorem Sim.pure_ (hR : Rel B w0 E X) {v : AV} {v' : Value} (hv : VRel X v v') : Sim B w0 E X P (pure v') v X.h := Sim.same hR rfl hv
theorem VRel.oneCell {v : AV} {c : Value} (h : VRel X v c) : c.oneCell' = v.one := by cases h <;> rfl
theorem VRels.oneCells : ∀ {vs : List AV} {cs : List Value}, VRels X vs cs → allOne vs → ∀ c ∈ cs, c.oneCell' = true
  | _, _, .nil, _, _, h => by cases h
  | _, _, .cons v v' vs vs' hv hvs, h1, c, hc => by
    cases hc with
    | head => rw [hv.oneCell]; exact h1 v (by simp)
    | tail _ hc => exact hvs.oneCells (fun u hu => h1 u (by simp [hu])) c hc
theorem VRel.row {v : AV} {c : Value} (h : VRel X v c) {vs : List AV} (hr : v.row = some vs) : VRels X vs c.cells.toList ∧ allOne vs := by
  have h0 := h
  cases h with
  | agg cs cs' h1 hv =>
    simp only [AV.row, Option.some.injEq] at hr; subst hr
    exact ⟨by simpa [Value.cells] using hv, h1⟩
  | tup vs vs' hv => simp [AV.row] at hr
  | _ =>
    simp only [AV.row, Option.some.injEq] at hr; subst hr
    exact ⟨VRels.one h0, by intro v hv; simp at hv; subst hv; rfl⟩
theorem cellAV_rel {c : Value} {v : AV} (h : cellAV c = some v) : VRel X v c ∧ v.one = true := by
  unfold cellAV at h
  split at h <;> simp only [Option.some.injEq, reduceCtorEq] at h <;> subst h <;> refine ⟨?_, rfl⟩
  · exact .bool _
  · exact .int _ _
  · rename_i s
    have : (.string s : Value) = .string ⟨s.data.toList.toArray⟩ := by simp
    rw [this]
    exact .str _
  · exact .nilp
  · exact .nils
  · exact .nilm
  · exact .nilf
  · exact .nili
theorem mapM_cellAV : ∀ {cs : List Value} {vs : List AV}, cs.mapM cellAV = some vs → VRels X vs cs ∧ allOne vs
  | [], vs, h => by simp at h; subst h; exact ⟨.nil, fun _ h => by cases h⟩
  | c :: cs, vs, h => by
    simp only [List.mapM_cons, Option.pure_def, Option.bind_eq_bind, Option.bind_eq_some_iff] at h
    obtain ⟨v, hv, r, hr, e⟩ := h
    cases e
    obtain ⟨h1, h2⟩ := mapM_cellAV hr
    obtain ⟨h3, h4⟩ := cellAV_rel (X := X) hv
    refine ⟨.cons _ _ _ _ h3 h1, fun u hu => ?_⟩
    cases hu with
    | head => exact h4
    | tail _ hu => exact h2 u hu
theorem constAV_rel {c : Value} {v : AV} (h : constAV c = some v) : VRel X v c := by
  unfold constAV at h
  split at h
  · rename_i cs
    simp only [Option.map_eq_some_iff] at h
    obtain ⟨vs, hvs, rfl⟩ := h
    obtain ⟨h1, h2⟩ := mapM_cellAV (X := X) hvs
    have := VRel.agg vs cs.toList h2 h1
    simpa using this
  · exact (cellAV_rel h).1
structure SRel (X : RX) (n : Nat) (σ : Slots) (tmps : Array Value) : Prop where
  size : n ≤ tmps.size
  get : ∀ t, VRel X (σ.get t) (tmps.getD t undef)
theorem VRel.undef : VRel X .undef Go.undef := by
  have := VRel.tup (X := X) [] [] .nil
  exact this
theorem SRel.ext {X' : RX} (h : Ext X X') {n : Nat} {σ : Slots} {tmps : Array Value} (k : SRel X n σ tmps) : SRel X' n σ tmps :=
  ⟨k.size, fun t => (k.get t).ext h⟩
theorem Slots.get_put (σ : Slots) (d : Nat) (v : AV) (t : Nat) : (σ.put d v).get t = if t = d then v else σ.get t := by
  have h := Tr.get_set (α := AV) σ d t (some v)
  unfold Slots.get Slots.put
  rw [h]
  by_cases ht : t = d
  · rw [if_pos ht, if_pos ht]
  · rw [if_neg ht, if_neg ht]
theorem SRel.put {n : Nat} {σ : Slots} {tmps : Array Value} (k : SRel X n σ tmps) {d : Nat} (hd : d < n) {v : AV} {c : Value} (hv : VRel X v c) :
    SRel X n (σ.put d v) (tmps.setIfInBounds d c) := by
  refine ⟨by simpa using k.size, fun t => ?_⟩
  rw [Slots.get_put]
  by_cases ht : t = d
  · subst ht
    have hlt : t < tmps.size := Nat.lt_of_lt_of_le hd k.size
    rw [if_pos rfl]
    simpa [Array.getD, hlt] using hv
  · have hg : (tmps.setIfInBounds d c).getD t Go.undef = tmps.getD t Go.undef := by
      simp only [Array.getD_eq_getD_getElem?, Array.getElem?_setIfInBounds, if_neg (Ne.symm ht)]
    rw [if_neg ht, hg]
    exact k.get t
theorem opd_rel (hR : Rel B w0 E X) {n : Nat} {σ : Slots} {a : Act} (k : SRel X n σ a.tmps) {o : Operand} {x : Opd} (ht : trOpd o = some x) {v : AV} (hv : E.opd σ x = some v) :
    VRel X v (a.eval o) := by
  cases o with
  | tmp t => simp only [trOpd, Option.some.injEq] at ht; subst ht; simp only [Env.opd, Option.some.injEq] at hv; subst hv; exact k.get t
  | const c =>
    simp only [trOpd, Option.map_eq_some_iff] at ht
    obtain ⟨u, hu, rfl⟩ := ht
    simp only [Env.opd, Option.some.injEq] at hv
    subst hv
    exact constAV_rel hu
  | global g =>
    simp only [trOpd, Option.some.injEq] at ht; subst ht
    simp only [Env.opd, Option.map_eq_some_iff] at hv
    obtain ⟨cs, hcs, rfl⟩ := hv
    exact hR.glob g cs hcs
  | func f =>
    simp only [trOpd, Option.some.injEq] at ht; subst ht
    simp only [Env.opd, Option.some.injEq] at hv; subst hv
    exact .fn (.func f) [] [] [] [] .nil .nil
theorem opds_rel (hR : Rel B w0 E X) {n : Nat} {σ : Slots} {a : Act} (k : SRel X n σ a.tmps) : ∀ {l : List Operand} {xs : List Opd}, l.mapM trOpd = some xs → ∀ {vs : List AV}, E.opds σ xs = some vs →
    VRels X vs (l.map a.eval)
  | [], xs, ht, vs, hv => by simp at ht; subst ht; simp only [Env.opds, Option.some.injEq] at hv; subst hv; exact .nil
  | o :: l, xs, ht, vs, hv => by
    simp only [List.mapM_cons, Option.pure_def, Option.bind_eq_bind, Option.bind_eq_some_iff] at ht
    obtain ⟨x, hx, r, hr, e⟩ := ht
    cases e
    simp only [Env.opds, Option.bind_eq_some_iff, Option.map_eq_some_iff] at hv
    obtain ⟨v, hv, ws, hws, rfl⟩ := hv
    exact .cons _ _ _ _ (opd_rel hR k hx hv) (opds_rel hR k hr hws)
theorem tSize_info {t : TypeId} {sz : Nat} (h : tSize P t = some sz) : ∃ i, P.info? t = some i ∧ i.size = sz := by
  simpa [tSize] using h
theorem tBytes_info {t : TypeId} {sz : Nat} (h : tBytes P t = some sz) : ∃ i, P.info? t = some i ∧ i.bytes = sz := by
  simpa [tBytes] using h
theorem tAgg_isAgg {t : TypeId} {agg : Bool} (h : tAgg P t = some agg) (w : World) : (isAgg t).run P w = .ok agg w := by
  unfold tAgg at h
  cases hu : P.underlying t with
  | none => rw [hu] at h; cases h
  | some d =>
    rw [hu] at h
    simp only [isAgg, Sem.run_bind, run_underlying hu, Result.andThen_ok]
    cases d <;> simp_all
theorem run_sizeOf {t : TypeId} {sz : Nat} (h : tSize P t = some sz) (w : World) : (sizeOf t).run P w = .ok sz w := by
  obtain ⟨i, hi, hs⟩ := tSize_info h
  simp [sizeOf, typeInfo, hi, hs]
theorem addr_add (b o j : Nat) : (⟨b, o, none⟩ : Addr).add j = ⟨b, o + j, none⟩ := by
  unfold Addr.add
  split
  · simp_all
  · rfl
theorem run_loadVar_agg {t : TypeId} {sz : Nat} (ha : tAgg P t = some true) (hs : tSize P t = some sz) (w : World) (b o : Nat) {cs : List Value} (hl : cs.length = sz)
    (hc : CellsAt w b o cs) : (loadVar t ⟨b, o, none⟩).run P w = .ok (.agg cs.toArray) w := by
  have h := run_loadCells_list (P := P) w ⟨b, o, none⟩ cs (fun j v hv => by rw [addr_add]; exact hc j v hv)
  subst hl
  simp [loadVar, tAgg_isAgg ha, run_sizeOf hs, h]
theorem run_loadVar_one {t : TypeId} (ha : tAgg P t = some false) (w : World) (a : Addr) {v : Value} (hc : w.cell? a = some v) : (loadVar t a).run P w = .ok v w := by
  simp [loadVar, tAgg_isAgg ha, hc]
/-- The cells of an object. -/
theorem ObjAt.at {p : Place} {cs : List AV} (h : ObjAt X p cs) (off : Nat) : ∃ vs, VRels X (cs.drop off) vs ∧ CellsAt X.w p.b (p.o + off) vs := by
  obtain ⟨⟨arr, T, fz, h1, h2, h3, h4, h5⟩, _⟩ := h
  refine ⟨_, h5.drop off, fun i v hv => ?_⟩
  rw [cell_of_row X.w p.b _ arr T fz h1]
  simp only [List.getElem?_drop, List.getElem?_take] at hv
  split at hv
  · simp only [Array.getElem?_toList] at hv
    rw [← hv]; congr 1; omega
  · cases hv
theorem CellsAt.take {w : World} {b o : Nat} {vs : List Value} (h : CellsAt w b o vs) (n : Nat) : CellsAt w b o (vs.take n) := fun i v hv => by
  rw [List.getElem?_take] at hv
  split at hv
  · exact h i v hv
  · cases hv
theorem CellsAt.drop {w : World} {b o : Nat} {vs : List Value} (h : CellsAt w b o vs) (n : Nat) : CellsAt w b (o + n) (vs.drop n) := fun i v hv => by
  rw [List.getElem?_drop] at hv
  rw [Nat.add_assoc]
  exact h (n + i) v hv
theorem ldCells_run {t : TypeId} {agg : Bool} {sz : Nat} (ha : tAgg P t = some agg) (hs : tSize P t = some sz) {b o : Nat} {cs : List AV} {vs : List Value}
    (hvs : VRels X cs vs) (hone : allOne cs) (hc : CellsAt X.w b o vs) {v : AV} (h : ldCells agg sz cs = some v) :
    ∃ v', (loadVar t ⟨b, o, none⟩).run P X.w = .ok v' X.w ∧ VRel X v v' := by
  cases agg with
  | true =>
    simp only [ldCells] at h
    split at h
    · rename_i hle
      cases h
      refine ⟨_, run_loadVar_agg ha hs X.w b o (cs := vs.take sz) ?_ (hc.take sz), .agg _ _ (hone.take sz) (hvs.take sz)⟩
      rw [List.length_take, ← hvs.length]; omega
    · cases h
  | false =>
    simp only [ldCells] at h
    obtain ⟨c, hc', hv⟩ := hvs.get (i := 0) (v := v) (by cases cs <;> simp_all)
    exact ⟨c, run_loadVar_one ha X.w _ (by simpa using hc 0 c hc'), hv⟩
theorem sim_load (hR : Rel B w0 E X) {t : TypeId} {agg : Bool} {sz : Nat} (ha : tAgg P t = some agg) (hs : tSize P t = some sz) {x : AV} {c : Value} (hx : VRel X x c)
    {r : OpRes} (h : aLoad X.h agg sz x = some r) : Sim B w0 E X P (Instr.loadAt t c) r.v r.h := by
  cases hx with
  | ptr id gen off a hid hlive =>
    simp only [aLoad, Option.bind_eq_some_iff, Option.map_eq_some_iff] at h
    obtain ⟨cs, hcs, v, hv, rfl⟩ := h
    have hl := Heap.at_some hcs
    obtain ⟨vs, h1, h2⟩ := (hR.obj id _ hl).at off
    obtain ⟨v', hv', hr⟩ := ldCells_run (P := P) ha hs h1 ((hR.obj id _ hl).one.drop off) h2 hv
    have e := (hlive _ hl).2 rfl
    subst e
    exact Sim.same hR (by simpa [Instr.loadAt, Instr.sureAddr] using hv') hr
  | fp cells b o vs hst hat h1 hvs =>
    simp only [aLoad, Option.map_eq_some_iff] at h
    obtain ⟨v, hv, rfl⟩ := h
    obtain ⟨v', hv', hr⟩ := ldCells_run (P := P) ha hs hvs h1 hat hv
    exact Sim.same hR (by simpa [Instr.loadAt, Instr.sureAddr] using hv') hr
  | _ => simp [aLoad] at h
theorem Bare.frozen {w : World} {g : Nat} {cur : Array Value} {T : TypeId} {fz : Nat × Nat} (hg : w.heap[g]? = some (.cells cur T fz)) (hb : Bare cur.size fz) {k : Nat} (hk : k < cur.size) :
    w.frozen? ⟨g, k, none⟩ = false := by
  obtain ⟨lo, hi⟩ := fz
  simp only [World.frozen?, hg, Bool.and_eq_false_iff, decide_eq_false_iff_not]
  rcases hb with e | e
  · cases e; right; omega
  · dsimp only at e; left; omega
theorem run_storeCells_bare (g o : Nat) (T : TypeId) (fz : Nat × Nat) : ∀ (vs : List Value) (i : Nat) (cur : Array Value) (w : World), w.heap[g]? = some (.cells cur T fz) → Bare cur.size fz →
    o + i + vs.length ≤ cur.size → (∀ v ∈ vs, v.oneCell' = true) →
    (storeCells ⟨g, o, none⟩ vs i).run P w = .ok () (w.setRow g (cur.toList.take (o + i) ++ vs ++ cur.toList.drop (o + i + vs.length)).toArray)
  | [], i, cur, w, hg, _, _, _ => by
    simp only [storeCells, List.append_nil, List.length_nil, Nat.add_zero, List.take_append_drop, Array.toArray_toList]
    rw [setRow_self w g cur T fz hg]
    rfl
  | v :: rest, i, cur, w, hg, hfz, hl, h1 => by
    have hi : o + i < cur.size := by simp at hl; omega
    have hcell : w.cell? ⟨g, o + i, none⟩ = some cur[o + i] := by simp [World.cell?, hg, hi]
    have hfro := hfz.frozen hg hi
    have hst : (store ((⟨g, o, none⟩ : Addr).add i) v).run P w = .ok () (w.setRow g (cur.setIfInBounds (o + i) v)) := by
      rw [addr_add, run_store P w _ v _ (h1 v (by simp)), hcell]
      simp [hfro, setCell_eq_setRow w g (o + i) cur T fz v hg]
    have ih := run_storeCells_bare g o T fz rest (i + 1) (cur.setIfInBounds (o + i) v) (w.setRow g (cur.setIfInBounds (o + i) v)) (setRow_heap w g cur _ T _ hg) (by simpa using hfz)
      (by simp at hl ⊢; omega) (fun x hx => h1 x (by simp [hx]))
    simp only [storeCells, Sem.run_bind, hst, Result.andThen_ok, ih, setRow_setRow]
    congr 3
    have e := list_seg_step cur.toList (o + i) v rest (by simp at hl ⊢; omega)
    simpa [Array.toList_setIfInBounds, Nat.add_assoc] using e
theorem setRow_only (w : World) (g : Nat) (cs : Array Value) : Only g w (w.setRow g cs) :=
  ⟨rfl, rfl, rfl, by simp [World.setRow], fun k _ hne => by simp only [World.setRow, Array.getElem?_modify, if_neg (Ne.symm hne)]⟩
/-- Cells are laid over an object's own. -/
theorem sim_splice (hR : Rel B w0 E X) {id : Nat} {o : AObj} (hl : X.h.look id = some o) {off : Nat} {new : List AV} {news : List Value} (hn : VRels X new news) (h1 : allOne new)
    (hfit : off + new.length ≤ o.cells.length) :
    ∃ X', (storeCells ⟨(X.ρ id).b, (X.ρ id).o + off, none⟩ news).run P X.w = .ok () X'.w ∧ X'.h = X.h.upd id o.gen (splice o.cells off new) ∧ Rel B w0 E X' ∧ Ext X X' ∧ X'.ρ = X.ρ := by
  have hO := hR.obj id o hl
  obtain ⟨⟨arr, T, fz, ha, hb, hc, hd, he⟩, hone⟩ := hO
  have hlen := hn.length
  have hrun := run_storeCells_bare (P := P) (X.ρ id).b ((X.ρ id).o + off) T fz news 0 arr X.w ha (by rw [hb]; exact hd) (by omega) (hn.oneCells h1)
  simp only [Nat.add_zero] at hrun
  have hrow := setRow_heap X.w (X.ρ id).b arr (arr.toList.take ((X.ρ id).o + off) ++ news ++ arr.toList.drop ((X.ρ id).o + off + news.length)).toArray T fz ha
  have hsz : (arr.toList.take ((X.ρ id).o + off) ++ news ++ arr.toList.drop ((X.ρ id).o + off + news.length)).toArray.size = arr.size := by
    simp; omega
  have hsp : (splice o.cells off new).length = o.cells.length := by simp [splice]; omega
  refine ⟨X.upd _ id o.gen (splice o.cells off new) (X.ρ id), hrun, rfl, ?_, Ext.upd hR hl (setRow_only _ _ _) (Nat.le_refl _) (fun _ => rfl) (.inl rfl), ?_⟩
  · refine Rel.upd hR hl (setRow_only _ _ _) (Nat.le_refl _) (fun _ => rfl) (.inl rfl) (hone.splice h1 off) hrow (hsz.trans hb) hd (by rw [hsp]; exact hc) ?_
    have hs := he.splice hn off
    rw [hsp]
    have hl2 : o.cells.length ≤ arr.size - (X.ρ id).o := by omega
    have e : List.take o.cells.length (List.drop (X.ρ id).o (arr.toList.take ((X.ρ id).o + off) ++ news ++ arr.toList.drop ((X.ρ id).o + off + news.length)).toArray.toList)
        = List.take off (List.take o.cells.length (List.drop (X.ρ id).o arr.toList)) ++ news ++ List.drop (off + news.length) (List.take o.cells.length (List.drop (X.ρ id).o arr.toList)) := by
      apply List.ext_getElem?
      intro k
      simp only [List.getElem?_take, List.getElem?_drop, List.getElem?_append, List.length_append, List.length_take, List.length_drop, Array.length_toList, Nat.min_def]
      repeat' split
      all_goals first
        | rfl
        | (exfalso; omega)
        | (congr 1; omega)
        | (simp only [List.getElem?_eq_none_iff, Array.length_toList]; omega)
        | (symm; simp only [List.getElem?_eq_none_iff, Array.length_toList]; omega)
    rw [e]
    exact hs
  · funext k
    simp only [RX.upd]
    by_cases hk : k = id
    · rw [if_pos hk, hk]
    · rw [if_neg hk]
end
end Go.AM
