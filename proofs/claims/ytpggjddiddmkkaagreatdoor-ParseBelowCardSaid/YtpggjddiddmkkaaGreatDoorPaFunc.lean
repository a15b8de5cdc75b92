/-
  The tables of functions.
-/
import Derived.Test.YtpggjddiddmkkaaGreatDoorAmCore
set_option linter.unusedVariables false
namespace Go.Pa
open Go.AM
def a3_0 : List AOper := [
 oP 4 (.mv (.c (.bool false)))]
def a3_1 : List AOper := [
 mV 8 0,
 mV 9 1,
 oP 10 (.call 10 [(.t 8), (.t 9)]),
 mV 11 0,
 mV 12 1,
 oP 13 (.call 11 [(.t 11), (.t 12)]),
 mV 5 10,
 mV 6 13]
def a3_2 : List AOper := [
 mV 14 5,
 oP 15 (.len false (.t 14)),
 mV 16 6,
 oP 17 (.len false (.t 16)),
 oP 18 (.bin .neq (.t 15) (.t 17))]
def a3_3 : List AOper := [
 oP 4 (.mv (.c (.bool false)))]
def a3_4 : List AOper := [
 oP 7 (.mv (.c (.int .i64 0)))]
def a3_5 : List AOper := [
 mV 19 7,
 mV 20 5,
 oP 21 (.len false (.t 20)),
 oP 22 (.bin .lss (.t 19) (.t 21))]
def a3_6 : List AOper := [
 mV 25 5,
 mV 26 7,
 oP 27 (.idxAddr 1 (.t 25) (.t 26)),
 oP 28 (.load false 1 (.t 27)),
 mV 29 6,
 mV 30 7,
 oP 31 (.idxAddr 1 (.t 29) (.t 30)),
 oP 32 (.load false 1 (.t 31)),
 oP 33 (.bin .neq (.t 28) (.t 32))]
def a3_6b : List Nat := [0, 0, 3, 7, 0, 0, 48, 112, 255]
def a3_7 : List AOper := [
 oP 4 (.mv (.c (.bool false)))]
def a3_8 : List AOper := [
 mV 23 7,
 oP 24 (.bin .add (.t 23) (.c (.int .i64 1))),
 mV 7 24]
def a3_l9 : AC := (.seq (.seq (.ops a3_5) (.cond (.t 22) .skip (.exit 0))) (.seq (.block 1 (.seq (.draw a3_6 a3_6b) (.cond (.t 33) (.seq (.ops a3_7) .ret) .skip))) (.ops a3_8)))
def a3_10 : List AOper := [
 oP 34 (.call 12 []),
 mV 4 34]
def a3 : AFunc := ⟨[.tmp 4], (.seq (.ops a3_0) (.seq (.ops a3_1) (.seq (.seq (.ops a3_2) (.cond (.t 18) (.seq (.ops a3_3) .ret) .skip)) (.seq (.seq (.ops a3_4) (.block 0 (.loop a3_l9))) (.seq (.ops a3_10) .ret)))))⟩
def a10_0 : List AOper := [
 oP 4 (.mv (.c .nils))]
def a10_1 : List AOper := [
 mV 12 0,
 oP 13 (.len false (.t 12)),
 oP 14 (.makeSlice 1 1 [(.bool false)] (.t 13) (.t 13)),
 mV 5 14]
def a10_2 : List AOper := [
 mV 15 1,
 oP 16 (.len false (.t 15)),
 oP 17 (.mv (.c (.int .i64 0)))]
def a10_3 : List AOper := [
 oP 18 (.bin .lss (.t 17) (.t 16))]
def a10_4 : List AOper := [
 oP 19 (.idxAddr 1 (.t 15) (.t 17)),
 oP 20 (.load false 1 (.t 19)),
 mV 7 20]
def a10_5 : List AOper := [
 mV 21 7,
 oP 22 (.bin .geq (.t 21) (.c (.int .i64 0))),
 mV 23 22,
 oG 24 (.mv (.t 7)) 23 true,
 oG 25 (.mv (.t 0)) 23 true,
 oG 26 (.len false (.t 25)) 23 true,
 oG 27 (.bin .lss (.t 24) (.t 26)) 23 true,
 oP 28 (.pick (.t 23) (.t 27) (.c (.bool false)))]
def a10_6 : List AOper := [
 mV 29 5,
 mV 30 7,
 oP 31 (.idxAddr 1 (.t 29) (.t 30)),
 oN (.store 1 (.t 31) (.c (.bool true)))]
def a10_7 : List AOper := [
 oP 32 (.bin .add (.t 17) (.c (.int .i64 1))),
 mV 17 32]
def a10_l8 : AC := (.seq (.ops a10_3) (.seq (.cond (.t 18) .skip (.exit 0)) (.seq (.block 1 (.seq (.ops a10_4) (.seq (.ops a10_5) (.cond (.t 28) (.ops a10_6) .skip)))) (.ops a10_7))))
def a10_9 : List AOper := [
 oP 8 (.mv (.c .nils))]
def a10_10 : List AOper := [
 mV 33 0,
 oP 34 (.len false (.t 33)),
 oP 35 (.bin .sub (.t 34) (.c (.int .i64 1))),
 mV 9 35]
def a10_11 : List AOper := [
 mV 36 9,
 oP 37 (.bin .geq (.t 36) (.c (.int .i64 0)))]
def a10_12 : List AOper := [
 mV 40 5,
 mV 41 9,
 oP 42 (.idxAddr 1 (.t 40) (.t 41)),
 oP 43 (.load false 1 (.t 42)),
 oP 44 (.un .not (.t 43))]
def a10_13 : List AOper := [
 mV 45 8,
 mV 46 9,
 oP 47 (.lit true 1 1 [(.int .i64 0)] [(0, 1, (.t 46))]),
 oP 48 (.append 1 8 (.t 45) (.t 47)),
 mV 8 48]
def a10_14 : List AOper := [
 mV 49 0,
 mV 50 9,
 oP 51 (.idxAddr 6 (.t 49) (.t 50)),
 oP 52 (.fieldAddr 4 (.t 51)),
 oP 53 (.load false 1 (.t 52)),
 oP 54 (.len false (.t 53)),
 oP 55 (.mv (.c (.int .i64 0)))]
def a10_15 : List AOper := [
 oP 56 (.bin .lss (.t 55) (.t 54))]
def a10_16 : List AOper := [
 oP 57 (.idxAddr 1 (.t 53) (.t 55)),
 oP 58 (.load false 1 (.t 57)),
 mV 11 58]
def a10_17 : List AOper := [
 mV 59 11,
 oP 60 (.bin .geq (.t 59) (.c (.int .i64 0))),
 mV 61 60,
 oG 62 (.mv (.t 11)) 61 true,
 oG 63 (.mv (.t 9)) 61 true,
 oG 64 (.bin .lss (.t 62) (.t 63)) 61 true,
 oP 65 (.pick (.t 61) (.t 64) (.c (.bool false)))]
def a10_18 : List AOper := [
 mV 66 5,
 mV 67 11,
 oP 68 (.idxAddr 1 (.t 66) (.t 67)),
 oN (.store 1 (.t 68) (.c (.bool true)))]
def a10_19 : List AOper := [
 oP 69 (.bin .add (.t 55) (.c (.int .i64 1))),
 mV 55 69]
def a10_l20 : AC := (.seq (.ops a10_15) (.seq (.cond (.t 56) .skip (.exit 4)) (.seq (.block 5 (.seq (.ops a10_16) (.seq (.ops a10_17) (.cond (.t 65) (.ops a10_18) .skip)))) (.ops a10_19))))
def a10_21 : List AOper := [
 mV 38 9,
 oP 39 (.bin .sub (.t 38) (.c (.int .i64 1))),
 mV 9 39]
def a10_l22 : AC := (.seq (.seq (.ops a10_11) (.cond (.t 37) .skip (.exit 2))) (.seq (.block 3 (.seq (.seq (.ops a10_12) (.cond (.t 44) (.exit 3) .skip)) (.seq (.ops a10_13) (.seq (.ops a10_14) (.block 4 (.loop a10_l20)))))) (.ops a10_21)))
def a10_23 : List AOper := [
 mV 70 8,
 oP 71 (.call 27 [(.t 70)])]
def a10_24 : List AOper := [
 mV 72 8,
 mV 4 72]
def a10 : AFunc := ⟨[.tmp 4], (.seq (.ops a10_0) (.seq (.ops a10_1) (.seq (.seq (.ops a10_2) (.block 0 (.loop a10_l8))) (.seq (.ops a10_9) (.seq (.seq (.ops a10_10) (.block 2 (.loop a10_l22))) (.seq (.ops a10_23) (.seq (.ops a10_24) .ret)))))))⟩
def a11_0 : List AOper := [
 oP 4 (.mv (.c .nils))]
def a11_1 : List AOper := [
 mV 11 0,
 oP 12 (.len false (.t 11)),
 oP 13 (.makeSlice 1 1 [(.bool false)] (.t 12) (.t 12)),
 mV 5 13]
def a11_2 : List AOper := [
 oP 6 (.mv (.c (.int .i64 0)))]
def a11_3 : List AOper := [
 mV 14 6,
 mV 15 1,
 oP 16 (.len false (.t 15)),
 oP 17 (.bin .lss (.t 14) (.t 16))]
def a11_4 : List AOper := [
 mV 20 1,
 mV 21 6,
 oP 22 (.idxAddr 1 (.t 20) (.t 21)),
 oP 23 (.load false 1 (.t 22)),
 oP 24 (.bin .geq (.t 23) (.c (.int .i64 0))),
 mV 25 24,
 oG 26 (.mv (.t 1)) 25 true,
 oG 27 (.mv (.t 6)) 25 true,
 oG 28 (.idxAddr 1 (.t 26) (.t 27)) 25 true,
 oG 29 (.load false 1 (.t 28)) 25 true,
 oG 30 (.mv (.t 0)) 25 true,
 oG 31 (.len false (.t 30)) 25 true,
 oG 32 (.bin .lss (.t 29) (.t 31)) 25 true,
 oP 33 (.pick (.t 25) (.t 32) (.c (.bool false)))]
def a11_5 : List AOper := [
 mV 34 5,
 mV 35 1,
 mV 36 6,
 oP 37 (.idxAddr 1 (.t 35) (.t 36)),
 oP 38 (.load false 1 (.t 37)),
 oP 39 (.idxAddr 1 (.t 34) (.t 38)),
 oN (.store 1 (.t 39) (.c (.bool true)))]
def a11_6 : List AOper := [
 mV 18 6,
 oP 19 (.bin .add (.t 18) (.c (.int .i64 1))),
 mV 6 19]
def a11_l7 : AC := (.seq (.seq (.ops a11_3) (.cond (.t 17) .skip (.exit 0))) (.seq (.block 1 (.seq (.ops a11_4) (.cond (.t 33) (.ops a11_5) .skip))) (.ops a11_6)))
def a11_8 : List AOper := [
 mV 40 0,
 oP 41 (.len false (.t 40)),
 oP 42 (.bin .sub (.t 41) (.c (.int .i64 1))),
 mV 7 42]
def a11_9 : List AOper := [
 mV 43 7,
 oP 44 (.bin .geq (.t 43) (.c (.int .i64 0)))]
def a11_10 : List AOper := [
 oP 8 (.mv (.c (.int .i64 0)))]
def a11_11 : List AOper := [
 mV 47 5,
 mV 48 7,
 oP 49 (.idxAddr 1 (.t 47) (.t 48)),
 oP 50 (.load false 1 (.t 49)),
 mV 51 50,
 oG 52 (.mv (.t 8)) 51 true,
 oG 53 (.mv (.t 0)) 51 true,
 oG 54 (.mv (.t 7)) 51 true,
 oG 55 (.idxAddr 6 (.t 53) (.t 54)) 51 true,
 oG 56 (.fieldAddr 4 (.t 55)) 51 true,
 oG 57 (.load false 1 (.t 56)) 51 true,
 oG 58 (.len false (.t 57)) 51 true,
 oG 59 (.bin .lss (.t 52) (.t 58)) 51 true,
 oP 60 (.pick (.t 51) (.t 59) (.c (.bool false)))]
def a11_12 : List AOper := [
 mV 63 0,
 mV 64 7,
 oP 65 (.idxAddr 6 (.t 63) (.t 64)),
 oP 66 (.fieldAddr 4 (.t 65)),
 oP 67 (.load false 1 (.t 66)),
 mV 68 8,
 oP 69 (.idxAddr 1 (.t 67) (.t 68)),
 oP 70 (.load false 1 (.t 69)),
 oP 71 (.bin .geq (.t 70) (.c (.int .i64 0))),
 mV 72 71,
 oG 73 (.mv (.t 0)) 72 true,
 oG 74 (.mv (.t 7)) 72 true,
 oG 75 (.idxAddr 6 (.t 73) (.t 74)) 72 true,
 oG 76 (.fieldAddr 4 (.t 75)) 72 true,
 oG 77 (.load false 1 (.t 76)) 72 true,
 oG 78 (.mv (.t 8)) 72 true,
 oG 79 (.idxAddr 1 (.t 77) (.t 78)) 72 true,
 oG 80 (.load false 1 (.t 79)) 72 true,
 oG 81 (.mv (.t 7)) 72 true,
 oG 82 (.bin .lss (.t 80) (.t 81)) 72 true,
 oP 83 (.pick (.t 72) (.t 82) (.c (.bool false)))]
def a11_13 : List AOper := [
 mV 84 5,
 mV 85 0,
 mV 86 7,
 oP 87 (.idxAddr 6 (.t 85) (.t 86)),
 oP 88 (.fieldAddr 4 (.t 87)),
 oP 89 (.load false 1 (.t 88)),
 mV 90 8,
 oP 91 (.idxAddr 1 (.t 89) (.t 90)),
 oP 92 (.load false 1 (.t 91)),
 oP 93 (.idxAddr 1 (.t 84) (.t 92)),
 oN (.store 1 (.t 93) (.c (.bool true)))]
def a11_14 : List AOper := [
 mV 61 8,
 oP 62 (.bin .add (.t 61) (.c (.int .i64 1))),
 mV 8 62]
def a11_l15 : AC := (.seq (.seq (.ops a11_11) (.cond (.t 60) .skip (.exit 4))) (.seq (.block 5 (.seq (.ops a11_12) (.cond (.t 83) (.ops a11_13) .skip))) (.ops a11_14)))
def a11_16 : List AOper := [
 mV 45 7,
 oP 46 (.bin .sub (.t 45) (.c (.int .i64 1))),
 mV 7 46]
def a11_l17 : AC := (.seq (.seq (.ops a11_9) (.cond (.t 44) .skip (.exit 2))) (.seq (.block 3 (.seq (.ops a11_10) (.block 4 (.loop a11_l15)))) (.ops a11_16)))
def a11_18 : List AOper := [
 oP 9 (.mv (.c .nils))]
def a11_19 : List AOper := [
 oP 10 (.mv (.c (.int .i64 0)))]
def a11_20 : List AOper := [
 mV 94 10,
 mV 95 0,
 oP 96 (.len false (.t 95)),
 oP 97 (.bin .lss (.t 94) (.t 96))]
def a11_21 : List AOper := [
 mV 100 5,
 mV 101 10,
 oP 102 (.idxAddr 1 (.t 100) (.t 101)),
 oP 103 (.load false 1 (.t 102))]
def a11_22 : List AOper := [
 mV 104 9,
 mV 105 10,
 oP 106 (.lit true 1 1 [(.int .i64 0)] [(0, 1, (.t 105))]),
 oP 107 (.append 1 8 (.t 104) (.t 106)),
 mV 9 107]
def a11_23 : List AOper := [
 mV 98 10,
 oP 99 (.bin .add (.t 98) (.c (.int .i64 1))),
 mV 10 99]
def a11_l24 : AC := (.seq (.seq (.ops a11_20) (.cond (.t 97) .skip (.exit 6))) (.seq (.block 7 (.seq (.ops a11_21) (.cond (.t 103) (.ops a11_22) .skip))) (.ops a11_23)))
def a11_25 : List AOper := [
 mV 108 9,
 mV 4 108]
def a11 : AFunc := ⟨[.tmp 4], (.seq (.ops a11_0) (.seq (.ops a11_1) (.seq (.seq (.ops a11_2) (.block 0 (.loop a11_l7))) (.seq (.seq (.ops a11_8) (.block 2 (.loop a11_l17))) (.seq (.ops a11_18) (.seq (.seq (.ops a11_19) (.block 6 (.loop a11_l24))) (.seq (.ops a11_25) .ret)))))))⟩
def a12_0 : List AOper := [
 oP 0 (.mv (.c (.bool false)))]
def a12_1 : List AOper := [
 oP 6 (.call 20 [(.c (.str [45, 109, 111, 100, 117, 108, 101, 40, 109, 41, 46, 32, 102, 40, 88, 41, 32, 45, 62, 32, 88, 32, 43, 32, 49, 32, 42, 32, 50, 46]))]),
 mV 5 6,
 oP 7 (.extract (.t 5) 0),
 oP 8 (.extract (.t 5) 1),
 oP 9 (.extract (.t 5) 2),
 mV 1 7,
 mV 2 8,
 mV 3 9]
def a12_2 : List AOper := [
 mV 10 3,
 oP 11 (.eq true (.iface true) (.t 10) (.c .nili)),
 mV 12 11,
 oG 13 (.mv (.t 2)) 12 false,
 oG 14 (.bin .lss (.t 13) (.c (.int .i64 0))) 12 false,
 oP 15 (.pick (.t 12) (.c (.bool true)) (.t 14)),
 mV 16 15,
 oG 17 (.mv (.t 2)) 16 false,
 oG 18 (.mv (.t 1)) 16 false,
 oG 19 (.len false (.t 18)) 16 false,
 oG 20 (.bin .geq (.t 17) (.t 19)) 16 false,
 oP 21 (.pick (.t 16) (.c (.bool true)) (.t 20)),
 mV 22 21,
 oG 23 (.mv (.t 1)) 22 false,
 oG 24 (.mv (.t 2)) 22 false,
 oG 25 (.idxAddr 6 (.t 23) (.t 24)) 22 false,
 oG 26 (.fieldAddr 0 (.t 25)) 22 false,
 oG 27 (.load false 1 (.t 26)) 22 false,
 oG 28 (.bin .neq (.t 27) (.c (.int .i64 28))) 22 false,
 oP 29 (.pick (.t 22) (.c (.bool true)) (.t 28)),
 mV 30 29,
 oG 31 (.mv (.t 1)) 30 false,
 oG 32 (.mv (.t 2)) 30 false,
 oG 33 (.idxAddr 6 (.t 31) (.t 32)) 30 false,
 oG 34 (.fieldAddr 4 (.t 33)) 30 false,
 oG 35 (.load false 1 (.t 34)) 30 false,
 oG 36 (.len false (.t 35)) 30 false,
 oG 37 (.bin .neq (.t 36) (.c (.int .i64 1))) 30 false,
 oP 38 (.pick (.t 30) (.c (.bool true)) (.t 37))]
def a12_3 : List AOper := [
 oP 0 (.mv (.c (.bool false)))]
def a12_4 : List AOper := [
 oP 4 (.mv (.c (.int .i64 0)))]
def a12_5 : List AOper := [
 mV 39 4,
 mV 40 1,
 oP 41 (.len false (.t 40)),
 oP 42 (.bin .lss (.t 39) (.t 41))]
def a12_6 : List AOper := [
 mV 45 1,
 mV 46 4,
 oP 47 (.idxAddr 6 (.t 45) (.t 46)),
 oP 48 (.fieldAddr 0 (.t 47)),
 oP 49 (.load false 1 (.t 48)),
 oP 50 (.bin .eql (.t 49) (.c (.int .i64 15))),
 mV 51 50,
 oG 52 (.mv (.t 1)) 51 true,
 oG 53 (.mv (.t 4)) 51 true,
 oG 54 (.idxAddr 6 (.t 52) (.t 53)) 51 true,
 oG 55 (.fieldAddr 1 (.t 54)) 51 true,
 oG 56 (.load false 1 (.t 55)) 51 true,
 oG 57 (.bin .eql (.t 56) (.c (.str [43]))) 51 true,
 oP 58 (.pick (.t 51) (.t 57) (.c (.bool false)))]
def a12_7 : List AOper := [
 oP 0 (.mv (.c (.bool true)))]
def a12_8 : List AOper := [
 mV 43 4,
 oP 44 (.bin .add (.t 43) (.c (.int .i64 1))),
 mV 4 44]
def a12_l9 : AC := (.seq (.seq (.ops a12_5) (.cond (.t 42) .skip (.exit 0))) (.seq (.block 1 (.seq (.ops a12_6) (.cond (.t 58) (.seq (.ops a12_7) .ret) .skip))) (.ops a12_8)))
def a12_10 : List AOper := [
 oP 0 (.mv (.c (.bool false)))]
def a12 : AFunc := ⟨[.tmp 0], (.seq (.ops a12_0) (.seq (.ops a12_1) (.seq (.seq (.ops a12_2) (.cond (.t 38) (.seq (.ops a12_3) .ret) .skip)) (.seq (.seq (.ops a12_4) (.block 0 (.loop a12_l9))) (.seq (.ops a12_10) .ret)))))⟩
def a14_0 : List AOper := [
 oP 2 (.alloc [.nils]),
 oP 3 (.alloc [(.int .i64 0)]),
 oP 4 (.alloc [.nili])]
def a14_1 : List AOper := [
 mV 9 0,
 oP 10 (.len false (.t 9)),
 oP 11 (.bin .gtr (.t 10) (.c (.int .i64 65536)))]
def a14_2 : List AOper := [
 oP 12 (.call 31 [(.c (.int .i64 0)), (.c (.int .i64 5))]),
 oN (.store 1 (.t 2) (.c .nils)),
 oN (.store 1 (.t 3) (.c (.int .i64 0))),
 oN (.store 1 (.t 4) (.t 12))]
def a14_3 : List AOper := [
 oP 13 (.mkFunc (.func 32) [] [(.t 2), (.t 3), (.t 4)])]
def a14_4 : List AOper := [
 mV 14 0,
 oP 15 (.build [.nils, (.int .i64 0), .nils] [(0, 1, (.t 14))]),
 oP 16 (.box false 3 (.t 15)),
 mV 5 16]
def a14_5 : List AOper := [
 mV 17 5,
 oP 18 (.call 33 [(.t 17), (.c (.int .i64 0))]),
 oP 19 (.field false 1 3 (.t 18)),
 mV 6 19]
def a14_6 : List AOper := [
 mV 20 5,
 oP 21 (.call 34 [(.t 20)]),
 oP 22 (.lit true 1 1 [(.int .i64 0)] [(0, 1, (.t 21))]),
 mV 7 22]
def a14_7 : List AOper := [
 mV 23 5,
 oP 24 (.nilCheck (.t 23)),
 oP 25 (.fieldAddr 1 (.t 24)),
 oP 26 (.load false 1 (.t 25)),
 mV 27 0,
 oP 28 (.len false (.t 27)),
 oP 29 (.bin .lss (.t 26) (.t 28))]
def a14_8 : List AOper := [
 mV 30 7,
 mV 31 5,
 oP 32 (.call 34 [(.t 31)]),
 oP 33 (.lit true 1 1 [(.int .i64 0)] [(0, 1, (.t 32))]),
 oP 34 (.append 1 8 (.t 30) (.t 33)),
 mV 7 34]
def a14_l9 : AC := (.seq (.seq (.ops a14_7) (.cond (.t 29) .skip (.exit 0))) (.block 1 (.ops a14_8)))
def a14_10 : List AOper := [
 mV 35 5,
 mV 36 6,
 mV 37 7,
 oP 38 (.call 35 [(.t 35), (.c (.int .i64 28)), (.t 36), (.c (.str [])), (.t 37)]),
 oN (.store 1 (.t 3) (.t 38))]
def a14_11 : List AOper := [
 mV 39 5,
 oP 40 (.nilCheck (.t 39)),
 oP 41 (.fieldAddr 2 (.t 40)),
 oP 42 (.load false 1 (.t 41)),
 oP 43 (.load false 1 (.t 3)),
 oP 44 (.call 36 [(.t 42), (.t 43)]),
 mV 8 44]
def a14_11b : List Nat := [0, 1, 3, 7, 0, 31, 63]
def a14_12 : List AOper := [
 mV 45 8,
 oP 46 (.bin .neq (.t 45) (.c (.int .i64 0)))]
def a14_13 : List AOper := [
 mV 47 8,
 oP 48 (.call 31 [(.c (.int .i64 0)), (.t 47)]),
 oN (.store 1 (.t 2) (.c .nils)),
 oN (.store 1 (.t 3) (.c (.int .i64 0))),
 oN (.store 1 (.t 4) (.t 48))]
def a14_14 : List AOper := [
 mV 49 5,
 oP 50 (.nilCheck (.t 49)),
 oP 51 (.fieldAddr 2 (.t 50)),
 oP 52 (.load false 1 (.t 51)),
 oP 53 (.load false 1 (.t 3)),
 oN (.store 1 (.t 2) (.t 52)),
 oN (.store 1 (.t 3) (.t 53)),
 oN (.store 1 (.t 4) (.c .nili))]
def a14_14b : List Nat := [0, 1, 3, 7, 0, 15, 63, 127]
def d14 : DFunc := ⟨[.cell 2 false 1, .cell 3 false 1, .cell 4 false 1], (.seq (.code (.ops a14_0)) (.seq (.seq (.code (.ops a14_1)) (.code (.cond (.t 11) (.seq (.ops a14_2) .ret) .skip))) (.seq (.dfr a14_3 (.t 13) []) (.seq (.code (.ops a14_4)) (.seq (.code (.ops a14_5)) (.seq (.code (.ops a14_6)) (.seq (.code (.block 0 (.loop a14_l9))) (.seq (.code (.ops a14_10)) (.seq (.seq (.code (.draw a14_11 a14_11b)) (.seq (.code (.ops a14_12)) (.code (.cond (.t 46) (.seq (.ops a14_13) .ret) .skip)))) (.seq (.code (.draw a14_14 a14_14b)) (.code .ret)))))))))))⟩
def a20_0 : List AOper := [
 oP 2 (.mv (.c .nils)),
 oP 3 (.mv (.c (.int .i64 0))),
 oP 4 (.mv (.c .nili))]
def a20_1 : List AOper := [
 mV 13 0,
 oP 14 (.call 39 [(.t 13)]),
 mV 12 14,
 oP 15 (.extract (.t 12) 0),
 oP 16 (.extract (.t 12) 1),
 mV 5 15,
 mV 6 16]
def a20_2 : List AOper := [
 mV 17 6,
 oP 18 (.eq true (.iface true) (.t 17) (.c .nili))]
def a20_3 : List AOper := [
 oP 7 (.alloc [.nilp])]
def a20_4 : List AOper := [
 mV 19 6,
 oP 20 (.mkIface 80 (.t 7)),
 oP 21 (.call 37 [(.t 19), (.t 20)])]
def a20_5 : List AOper := [
 oP 22 (.load false 1 (.t 7)),
 oP 23 (.nilCheck (.t 22)),
 oP 24 (.fieldAddr 1 (.t 23)),
 oP 25 (.load false 1 (.t 24)),
 oP 26 (.load false 1 (.t 7)),
 oP 27 (.nilCheck (.t 26)),
 oP 28 (.fieldAddr 2 (.t 27)),
 oP 29 (.load false 1 (.t 28)),
 mV 30 6,
 oP 31 (.build [(.str []), (.int .i64 0), (.int .i64 0), .nili] [(0, 1, (.c (.str [112, 97, 114, 115, 101]))), (1, 1, (.t 25)), (2, 1, (.t 29)), (3, 1, (.t 30))]),
 oP 32 (.box true 4 (.t 31)),
 oP 33 (.mkIface 78 (.t 32)),
 oP 2 (.mv (.c .nils)),
 oP 3 (.mv (.c (.int .i64 0))),
 mV 4 33]
def a20_5b : List Nat := [0, 1, 3, 7, 0, 16, 48, 112, 0, 511, 1023, 2047, 0, 4096, 16383]
def a20_6 : List AOper := [
 mV 35 5,
 oP 36 (.call 14 [(.t 35)]),
 mV 34 36,
 oP 37 (.extract (.t 34) 0),
 oP 38 (.extract (.t 34) 1),
 oP 39 (.extract (.t 34) 2),
 mV 8 37,
 mV 9 38,
 mV 6 39]
def a20_7 : List AOper := [
 oP 10 (.alloc [.nilp])]
def a20_8 : List AOper := [
 mV 40 6,
 oP 41 (.mkIface 80 (.t 10)),
 oP 42 (.call 37 [(.t 40), (.t 41)]),
 mV 43 42,
 oG 44 (.load false 1 (.t 10)) 43 true,
 oG 45 (.nilCheck (.t 44)) 43 true,
 oG 46 (.fieldAddr 2 (.t 45)) 43 true,
 oG 47 (.load false 1 (.t 46)) 43 true,
 oG 48 (.bin .eql (.t 47) (.c (.int .i64 220))) 43 true,
 oP 49 (.pick (.t 43) (.t 48) (.c (.bool false)))]
def a20_9 : List AOper := [
 mV 50 0,
 oP 51 (.len true (.t 50)),
 mV 11 51]
def a20_10 : List AOper := [
 oP 52 (.load false 1 (.t 10)),
 oP 53 (.nilCheck (.t 52)),
 oP 54 (.fieldAddr 1 (.t 53)),
 oP 55 (.load false 1 (.t 54)),
 mV 56 5,
 oP 57 (.len false (.t 56)),
 oP 58 (.bin .lss (.t 55) (.t 57))]
def a20_11 : List AOper := [
 mV 59 5,
 oP 60 (.load false 1 (.t 10)),
 oP 61 (.nilCheck (.t 60)),
 oP 62 (.fieldAddr 1 (.t 61)),
 oP 63 (.load false 1 (.t 62)),
 oP 64 (.idxAddr 4 (.t 59) (.t 63)),
 oP 65 (.fieldAddr 3 (.t 64)),
 oP 66 (.load false 1 (.t 65)),
 mV 11 66]
def a20_12 : List AOper := [
 mV 67 11,
 oP 68 (.call 31 [(.t 67), (.c (.int .i64 220))]),
 oP 2 (.mv (.c .nils)),
 oP 3 (.mv (.c (.int .i64 0))),
 mV 4 68]
def a20_13 : List AOper := [
 mV 69 8,
 mV 70 9,
 mV 71 6,
 mV 2 69,
 mV 3 70,
 mV 4 71]
def a20 : AFunc := ⟨[.tmp 2, .tmp 3, .tmp 4], (.seq (.ops a20_0) (.seq (.ops a20_1) (.seq (.seq (.ops a20_2) (.cond (.t 18) (.seq (.ops a20_3) (.seq (.ops a20_4) (.seq (.draw a20_5 a20_5b) .ret))) .skip)) (.seq (.ops a20_6) (.seq (.ops a20_7) (.seq (.seq (.ops a20_8) (.cond (.t 49) (.seq (.ops a20_9) (.seq (.seq (.ops a20_10) (.cond (.t 58) (.ops a20_11) .skip)) (.seq (.ops a20_12) .ret))) .skip)) (.seq (.ops a20_13) .ret)))))))⟩
def a27_0 : List AOper := [
 mV 4 0,
 oP 5 (.len false (.t 4)),
 oP 6 (.bin .sub (.t 5) (.c (.int .i64 1))),
 oP 2 (.mv (.c (.int .i64 0))),
 mV 3 6]
def a27_1 : List AOper := [
 mV 7 2,
 mV 8 3,
 oP 9 (.bin .lss (.t 7) (.t 8))]
def a27_2 : List AOper := [
 mV 14 0,
 mV 15 2,
 mV 16 0,
 mV 17 3,
 mV 18 0,
 mV 19 3,
 oP 20 (.idxAddr 1 (.t 18) (.t 19)),
 oP 21 (.load false 1 (.t 20)),
 mV 22 0,
 mV 23 2,
 oP 24 (.idxAddr 1 (.t 22) (.t 23)),
 oP 25 (.load false 1 (.t 24)),
 oP 26 (.idxAddr 1 (.t 14) (.t 15)),
 oN (.store 1 (.t 26) (.t 21)),
 oP 27 (.idxAddr 1 (.t 16) (.t 17)),
 oN (.store 1 (.t 27) (.t 25))]
def a27_2b : List Nat := [0, 0, 0, 0, 0, 0, 48, 112, 0, 0, 768, 1792, 4083, 8179, 16383, 32767]
def a27_3 : List AOper := [
 mV 10 2,
 oP 11 (.bin .add (.t 10) (.c (.int .i64 1))),
 mV 12 3,
 oP 13 (.bin .sub (.t 12) (.c (.int .i64 1))),
 mV 2 11,
 mV 3 13]
def a27_l4 : AC := (.seq (.seq (.ops a27_1) (.cond (.t 9) .skip (.exit 0))) (.seq (.block 1 (.draw a27_2 a27_2b)) (.ops a27_3)))
def a27 : AFunc := ⟨[], (.seq (.ops a27_0) (.block 0 (.loop a27_l4)))⟩
def a32_0 : List AOper := []
def a32_1 : List AOper := [
 mV 3 6]
def a32_2 : List AOper := [
 mV 7 3,
 oP 8 (.eq false (.iface true) (.t 7) (.c .nili))]
def a32_3 : List AOper := [
 mV 10 3,
 oP 11 .bad,
 mV 9 11,
 oP 12 (.extract (.t 9) 0),
 oP 13 (.extract (.t 9) 1),
 oP 4 (.alloc [(.int .i64 0)]),
 oN (.store 1 (.t 4) (.t 12)),
 mV 5 13]
def a32_4 : List AOper := [
 mV 14 5,
 oP 15 (.un .not (.t 14))]
def a32_5 : List AOper := [
 mV 16 3,
 oN (.panic (.t 16))]
def a32_6 : List AOper := [
 oP 17 (.fieldAddr 0 (.t 4)),
 oP 18 (.load false 1 (.t 17)),
 oP 19 (.call 31 [(.t 18), (.c (.int .i64 220))]),
 oN (.store 1 (.t 0) (.c .nils)),
 oN (.store 1 (.t 1) (.c (.int .i64 0))),
 oN (.store 1 (.t 2) (.t 19))]
def r32 : RFunc := ⟨a32_0, (some 6), a32_1, (.seq (.seq (.ops a32_2) (.cond (.t 8) .ret .skip)) (.seq (.ops a32_3) (.seq (.seq (.ops a32_4) (.cond (.t 15) (.ops a32_5) .skip)) (.ops a32_6))))⟩
def a33_0 : List AOper := [
 oP 4 (.alloc [(.int .i64 0), (.str []), (.int .i64 0), (.int .i64 0)])]
def a33_1 : List AOper := [
 mV 5 0,
 oP 6 (.nilCheck (.t 5)),
 oP 7 (.fieldAddr 1 (.t 6)),
 oP 8 (.load false 1 (.t 7)),
 mV 9 1,
 oP 10 (.bin .add (.t 8) (.t 9)),
 mV 11 0,
 oP 12 (.nilCheck (.t 11)),
 oP 13 (.fieldAddr 0 (.t 12)),
 oP 14 (.load false 1 (.t 13)),
 oP 15 (.len false (.t 14)),
 oP 16 (.bin .lss (.t 10) (.t 15))]
def a33_1b : List Nat := [0, 1, 3, 7, 0, 31, 0, 64, 192, 448, 960, 2047]
def a33_2 : List AOper := [
 mV 17 0,
 oP 18 (.nilCheck (.t 17)),
 oP 19 (.fieldAddr 0 (.t 18)),
 oP 20 (.load false 1 (.t 19)),
 mV 21 0,
 oP 22 (.nilCheck (.t 21)),
 oP 23 (.fieldAddr 1 (.t 22)),
 oP 24 (.load false 1 (.t 23)),
 mV 25 1,
 oP 26 (.bin .add (.t 24) (.t 25)),
 oP 27 (.idxAddr 4 (.t 20) (.t 26)),
 oP 28 (.load true 4 (.t 27)),
 oN (.store 4 (.t 4) (.t 28))]
def a33_2b : List Nat := [0, 1, 3, 7, 0, 16, 48, 112, 0, 496, 1023, 2047, 4095]
def a33_3 : List AOper := [
 oP 29 (.build [(.int .i64 0), (.str []), (.int .i64 0), (.int .i64 0)] []),
 oN (.store 4 (.t 4) (.t 29))]
def a33 : AFunc := ⟨[.cell 4 true 4], (.seq (.ops a33_0) (.seq (.seq (.draw a33_1 a33_1b) (.cond (.t 16) (.seq (.draw a33_2 a33_2b) .ret) .skip)) (.seq (.ops a33_3) .ret)))⟩
def a34_0 : List AOper := [
 oP 2 (.mv (.c (.int .i64 0)))]
def a34_1 : List AOper := [
 mV 6 0,
 oP 7 (.call 33 [(.t 6), (.c (.int .i64 0))]),
 oP 8 (.field false 1 3 (.t 7)),
 mV 3 8]
def a34_2 : List AOper := [
 mV 9 0,
 oP 10 (.call 64 [(.t 9), (.c (.str [45]))])]
def a34_3 : List AOper := [
 mV 11 0,
 oP 12 (.call 65 [(.t 11), (.c (.int .i64 0)), (.c (.str [109, 111, 100, 117, 108, 101]))]),
 oP 13 (.un .not (.t 12))]
def a34_4 : List AOper := [
 mV 14 0,
 oP 15 (.call 66 [(.t 14)])]
def a34_5 : List AOper := [
 mV 16 0,
 oP 17 (.nilCheck (.t 16)),
 oP 18 (.fieldAddr 1 (.t 17)),
 oP 19 (.load false 1 (.t 18)),
 oP 20 (.bin .add (.t 19) (.c (.int .i64 1))),
 oP 21 (.nilCheck (.t 16)),
 oP 22 (.fieldAddr 1 (.t 21)),
 oN (.store 1 (.t 22) (.t 20))]
def a34_6 : List AOper := [
 mV 23 0,
 oP 24 (.call 64 [(.t 23), (.c (.str [40]))])]
def a34_7 : List AOper := [
 mV 25 0,
 oP 26 (.call 67 [(.t 25), (.c (.int .i64 1))]),
 oP 4 (.alloc [(.int .i64 0), (.str []), (.int .i64 0), (.int .i64 0)]),
 oN (.store 4 (.t 4) (.t 26))]
def a34_8 : List AOper := [
 mV 27 0,
 oP 28 (.call 64 [(.t 27), (.c (.str [41]))])]
def a34_9 : List AOper := [
 mV 29 0,
 oP 30 (.call 67 [(.t 29), (.c (.int .i64 6))])]
def a34_10 : List AOper := [
 oP 5 (.mv (.c .nils))]
def a34_11 : List AOper := [
 mV 31 0,
 oP 32 (.nilCheck (.t 31)),
 oP 33 (.fieldAddr 1 (.t 32)),
 oP 34 (.load false 1 (.t 33)),
 mV 35 0,
 oP 36 (.nilCheck (.t 35)),
 oP 37 (.fieldAddr 0 (.t 36)),
 oP 38 (.load false 1 (.t 37)),
 oP 39 (.len false (.t 38)),
 oP 40 (.bin .lss (.t 34) (.t 39)),
 mV 41 40,
 oG 42 (.mv (.t 0)) 41 true,
 oG 43 (.call 68 [(.t 42), (.c (.int .i64 0)), (.c (.str [45]))]) 41 true,
 oG 44 (.mv (.t 43)) 41 true,
 oG 45 (.mv (.t 0)) 44 true,
 oG 46 (.call 65 [(.t 45), (.c (.int .i64 1)), (.c (.str [109, 111, 100, 117, 108, 101]))]) 44 true,
 oG 47 (.pick (.t 44) (.t 46) (.c (.bool false))) 41 true,
 oG 48 (.un .not (.t 47)) 41 true,
 oP 49 (.pick (.t 41) (.t 48) (.c (.bool false)))]
def a34_11b : List Nat := [0, 1, 3, 7, 0, 16, 48, 112, 240, 511, 1023, 2047, 4095, 8191, 16383, 32767, 65535, 131071, 262143]
def a34_12 : List AOper := [
 mV 50 0,
 oP 51 (.call 68 [(.t 50), (.c (.int .i64 0)), (.c (.str [45]))])]
def a34_13 : List AOper := [
 mV 52 0,
 mV 53 5,
 oP 54 (.call 69 [(.t 52), (.t 53)]),
 mV 5 54]
def a34_14 : List AOper := [
 mV 55 5,
 mV 56 0,
 oP 57 (.call 70 [(.t 56)]),
 oP 58 (.lit true 1 1 [(.int .i64 0)] [(0, 1, (.t 57))]),
 oP 59 (.append 1 8 (.t 55) (.t 58)),
 mV 5 59]
def a34_l15 : AC := (.seq (.seq (.draw a34_11 a34_11b) (.cond (.t 49) .skip (.exit 0))) (.block 1 (.seq (.ops a34_12) (.cond (.t 51) (.ops a34_13) (.ops a34_14)))))
def a34_16 : List AOper := [
 mV 60 0,
 mV 61 3,
 oP 62 (.fieldAddr 1 (.t 4)),
 oP 63 (.load false 1 (.t 62)),
 mV 64 5,
 oP 65 (.call 35 [(.t 60), (.c (.int .i64 27)), (.t 61), (.t 63), (.t 64)]),
 mV 2 65]
def a34 : AFunc := ⟨[.tmp 2], (.seq (.ops a34_0) (.seq (.ops a34_1) (.seq (.ops a34_2) (.seq (.seq (.ops a34_3) (.cond (.t 13) (.ops a34_4) .skip)) (.seq (.ops a34_5) (.seq (.ops a34_6) (.seq (.ops a34_7) (.seq (.ops a34_8) (.seq (.ops a34_9) (.seq (.ops a34_10) (.seq (.block 0 (.loop a34_l15)) (.seq (.ops a34_16) .ret))))))))))))⟩
def a35_0 : List AOper := [
 oP 10 (.mv (.c (.int .i64 0)))]
def a35_1 : List AOper := [
 mV 11 0,
 mV 12 1,
 mV 13 2,
 mV 14 3,
 mV 15 4,
 oP 16 (.build [(.int .i64 0), (.str []), (.str []), (.int .i64 0), .nils, (.int .i64 0)] [(0, 1, (.t 12)), (5, 1, (.t 13)), (1, 1, (.t 14)), (4, 1, (.t 15))]),
 oP 17 (.call 71 [(.t 11), (.t 16)]),
 mV 10 17]
def a35 : AFunc := ⟨[.tmp 10], (.seq (.ops a35_0) (.seq (.ops a35_1) .ret))⟩
def a36_0 : List AOper := [
 oP 4 (.mv (.c (.int .i64 0)))]
def a36_1 : List AOper := [
 mV 11 0,
 mV 12 1,
 oP 13 (.lit true 1 1 [(.int .i64 0)] [(0, 1, (.t 12))]),
 oP 14 (.call 10 [(.t 11), (.t 13)]),
 mV 5 14]
def a36_2 : List AOper := [
 mV 15 5,
 oP 16 (.len false (.t 15)),
 oP 17 (.bin .gtr (.t 16) (.c (.int .i64 65536)))]
def a36_3 : List AOper := [
 oP 4 (.mv (.c (.int .i64 5)))]
def a36_4 : List AOper := [
 mV 18 0,
 oP 19 (.len false (.t 18)),
 oP 20 (.makeSlice 1 8 [(.int .i64 0)] (.t 19) (.t 19)),
 mV 6 20]
def a36_5 : List AOper := [
 mV 21 5,
 oP 22 (.len false (.t 21)),
 oP 23 (.mv (.c (.int .i64 0)))]
def a36_6 : List AOper := [
 oP 24 (.bin .lss (.t 23) (.t 22))]
def a36_7 : List AOper := [
 oP 25 (.idxAddr 1 (.t 21) (.t 23)),
 oP 26 (.load false 1 (.t 25)),
 mV 8 26]
def a36_8 : List AOper := [
 mV 27 0,
 mV 28 8,
 oP 29 (.idxAddr 6 (.t 27) (.t 28)),
 oP 30 (.fieldAddr 4 (.t 29)),
 oP 31 (.load false 1 (.t 30)),
 oP 32 (.len false (.t 31)),
 oP 33 (.mv (.c (.int .i64 0)))]
def a36_9 : List AOper := [
 oP 34 (.bin .lss (.t 33) (.t 32))]
def a36_10 : List AOper := [
 oP 35 (.idxAddr 1 (.t 31) (.t 33)),
 oP 36 (.load false 1 (.t 35)),
 mV 10 36]
def a36_11 : List AOper := [
 mV 37 6,
 mV 38 8,
 mV 39 6,
 mV 40 8,
 oP 41 (.idxAddr 1 (.t 39) (.t 40)),
 oP 42 (.load false 1 (.t 41)),
 mV 43 6,
 mV 44 10,
 oP 45 (.idxAddr 1 (.t 43) (.t 44)),
 oP 46 (.load false 1 (.t 45)),
 oP 47 (.minmax true (.t 42) (.t 46)),
 oP 48 (.idxAddr 1 (.t 37) (.t 38)),
 oN (.store 1 (.t 48) (.t 47))]
def a36_11b : List Nat := [0, 0, 0, 0, 12, 28, 0, 0, 192, 448, 1020, 2047, 4095]
def a36_12 : List AOper := [
 oP 49 (.bin .add (.t 33) (.c (.int .i64 1))),
 mV 33 49]
def a36_l13 : AC := (.seq (.ops a36_9) (.seq (.cond (.t 34) .skip (.exit 2)) (.seq (.block 3 (.seq (.ops a36_10) (.draw a36_11 a36_11b))) (.ops a36_12))))
def a36_14 : List AOper := [
 mV 50 6,
 mV 51 8,
 oP 52 (.idxAddr 1 (.t 50) (.t 51)),
 oP 53 (.load false 1 (.t 52)),
 oP 54 (.bin .add (.t 53) (.c (.int .i64 1))),
 oP 55 (.idxAddr 1 (.t 50) (.t 51)),
 oN (.store 1 (.t 55) (.t 54))]
def a36_15 : List AOper := [
 oP 56 (.bin .add (.t 23) (.c (.int .i64 1))),
 mV 23 56]
def a36_l16 : AC := (.seq (.ops a36_6) (.seq (.cond (.t 24) .skip (.exit 0)) (.seq (.block 1 (.seq (.ops a36_7) (.seq (.seq (.ops a36_8) (.block 2 (.loop a36_l13))) (.ops a36_14)))) (.ops a36_15))))
def a36_17 : List AOper := [
 mV 57 6,
 mV 58 1,
 oP 59 (.idxAddr 1 (.t 57) (.t 58)),
 oP 60 (.load false 1 (.t 59)),
 oP 61 (.bin .gtr (.t 60) (.c (.int .i64 500)))]
def a36_18 : List AOper := [
 oP 4 (.mv (.c (.int .i64 221)))]
def a36_19 : List AOper := [
 oP 4 (.mv (.c (.int .i64 0)))]
def a36 : AFunc := ⟨[.tmp 4], (.seq (.ops a36_0) (.seq (.ops a36_1) (.seq (.seq (.ops a36_2) (.cond (.t 17) (.seq (.ops a36_3) .ret) .skip)) (.seq (.ops a36_4) (.seq (.seq (.ops a36_5) (.block 0 (.loop a36_l16))) (.seq (.seq (.ops a36_17) (.cond (.t 61) (.seq (.ops a36_18) .ret) .skip)) (.seq (.ops a36_19) .ret)))))))⟩
def a39_0 : List AOper := [
 oP 2 (.mv (.c .nils)),
 oP 3 (.mv (.c .nili))]
def a39_1 : List AOper := [
 mV 9 0,
 oP 10 (.len true (.t 9)),
 oP 11 (.bin .gtr (.t 10) (.c (.int .i64 65536)))]
def a39_2 : List AOper := [
 oP 12 (.call 77 [(.c (.int .i64 0)), (.c (.int .i64 4)), (.c .nili)]),
 oP 2 (.mv (.c .nils)),
 mV 3 12]
def a39_3 : List AOper := [
 mV 13 0,
 oP 14 (.build [(.str []), (.int .i64 0)] [(0, 1, (.t 13))]),
 oP 15 (.box false 2 (.t 14)),
 mV 4 15]
def a39_4 : List AOper := [
 oP 5 (.mv (.c .nils))]
def a39_5 : List AOper := [
 mV 16 4,
 oP 17 (.call 78 [(.t 16)])]
def a39_6 : List AOper := [
 mV 18 4,
 oP 19 (.nilCheck (.t 18)),
 oP 20 (.fieldAddr 1 (.t 19)),
 oP 21 (.load false 1 (.t 20)),
 mV 22 0,
 oP 23 (.len true (.t 22)),
 oP 24 (.bin .lss (.t 21) (.t 23))]
def a39_7 : List AOper := [
 mV 27 5,
 oP 28 (.len false (.t 27)),
 oP 29 (.bin .eql (.t 28) (.c (.int .i64 65536)))]
def a39_8 : List AOper := [
 mV 30 4,
 oP 31 (.nilCheck (.t 30)),
 oP 32 (.fieldAddr 1 (.t 31)),
 oP 33 (.load false 1 (.t 32)),
 oP 34 (.call 77 [(.t 33), (.c (.int .i64 5)), (.c .nili)]),
 oP 2 (.mv (.c .nils)),
 mV 3 34]
def a39_9 : List AOper := [
 mV 36 4,
 oP 37 (.call 79 [(.t 36)]),
 mV 35 37,
 oP 38 (.extract (.t 35) 0),
 oP 39 (.extract (.t 35) 1),
 oP 40 (.extract (.t 35) 2),
 oP 6 (.alloc [(.int .i64 0), (.str []), (.int .i64 0), (.int .i64 0)]),
 oN (.store 4 (.t 6) (.t 38)),
 mV 7 39,
 mV 8 40]
def a39_10 : List AOper := [
 mV 41 8,
 oP 42 (.eq true (.iface true) (.t 41) (.c .nili))]
def a39_11 : List AOper := [
 mV 43 8,
 oP 2 (.mv (.c .nils)),
 mV 3 43]
def a39_12 : List AOper := [
 mV 44 4,
 oP 45 (.nilCheck (.t 44)),
 oP 46 (.fieldAddr 1 (.t 45)),
 oP 47 (.load false 1 (.t 46)),
 oP 48 (.fieldAddr 3 (.t 6)),
 oN (.store 1 (.t 48) (.t 47))]
def a39_13 : List AOper := [
 mV 49 5,
 oP 50 (.load true 4 (.t 6)),
 oP 51 (.lit true 4 1 [(.int .i64 0), (.str []), (.int .i64 0), (.int .i64 0)] [(0, 4, (.t 50))]),
 oP 52 (.append 4 40 (.t 49) (.t 51)),
 mV 5 52]
def a39_14 : List AOper := [
 mV 53 4,
 mV 54 7,
 oP 55 (.nilCheck (.t 53)),
 oP 56 (.fieldAddr 1 (.t 55)),
 oN (.store 1 (.t 56) (.t 54))]
def a39_15 : List AOper := [
 mV 25 4,
 oP 26 (.call 78 [(.t 25)])]
def a39_l16 : AC := (.seq (.seq (.ops a39_6) (.cond (.t 24) .skip (.exit 0))) (.seq (.block 1 (.seq (.seq (.ops a39_7) (.cond (.t 29) (.seq (.ops a39_8) .ret) .skip)) (.seq (.ops a39_9) (.seq (.seq (.ops a39_10) (.cond (.t 42) (.seq (.ops a39_11) .ret) .skip)) (.seq (.ops a39_12) (.seq (.ops a39_13) (.ops a39_14))))))) (.ops a39_15)))
def a39_17 : List AOper := [
 mV 57 5,
 mV 2 57,
 oP 3 (.mv (.c .nili))]
def a39 : AFunc := ⟨[.tmp 2, .tmp 3], (.seq (.ops a39_0) (.seq (.seq (.ops a39_1) (.cond (.t 11) (.seq (.ops a39_2) .ret) .skip)) (.seq (.ops a39_3) (.seq (.ops a39_4) (.seq (.seq (.ops a39_5) (.block 0 (.loop a39_l16))) (.seq (.ops a39_17) .ret))))))⟩
def a64_0 : List AOper := [
 mV 4 0,
 mV 5 1,
 oP 6 (.call 113 [(.t 4), (.t 5)]),
 oP 7 (.un .not (.t 6))]
def a64_1 : List AOper := [
 mV 8 0,
 oP 9 (.call 66 [(.t 8)])]
def a64 : AFunc := ⟨[], (.seq (.ops a64_0) (.cond (.t 7) (.ops a64_1) .skip))⟩
def a65_0 : List AOper := [
 oP 6 (.mv (.c (.bool false)))]
def a65_1 : List AOper := [
 mV 8 0,
 mV 9 1,
 oP 10 (.call 33 [(.t 8), (.t 9)]),
 oP 7 (.alloc [(.int .i64 0), (.str []), (.int .i64 0), (.int .i64 0)]),
 oN (.store 4 (.t 7) (.t 10))]
def a65_2 : List AOper := [
 oP 11 (.fieldAddr 0 (.t 7)),
 oP 12 (.load false 1 (.t 11)),
 oP 13 (.bin .eql (.t 12) (.c (.int .i64 1))),
 mV 14 13,
 oG 15 (.fieldAddr 1 (.t 7)) 14 true,
 oG 16 (.load false 1 (.t 15)) 14 true,
 oG 17 (.mv (.t 2)) 14 true,
 oG 18 (.bin .eql (.t 16) (.t 17)) 14 true,
 oP 19 (.pick (.t 14) (.t 18) (.c (.bool false))),
 mV 6 19]
def a65 : AFunc := ⟨[.tmp 6], (.seq (.ops a65_0) (.seq (.ops a65_1) (.seq (.ops a65_2) .ret)))⟩
def a67_0 : List AOper := [
 oP 4 (.alloc [(.int .i64 0), (.str []), (.int .i64 0), (.int .i64 0)])]
def a67_1 : List AOper := [
 mV 6 0,
 oP 7 (.call 33 [(.t 6), (.c (.int .i64 0))]),
 oP 5 (.alloc [(.int .i64 0), (.str []), (.int .i64 0), (.int .i64 0)]),
 oN (.store 4 (.t 5) (.t 7))]
def a67_2 : List AOper := [
 oP 8 (.fieldAddr 0 (.t 5)),
 oP 9 (.load false 1 (.t 8)),
 mV 10 1,
 oP 11 (.bin .neq (.t 9) (.t 10))]
def a67_3 : List AOper := [
 mV 12 0,
 oP 13 (.call 66 [(.t 12)])]
def a67_4 : List AOper := [
 mV 14 0,
 oP 15 (.nilCheck (.t 14)),
 oP 16 (.fieldAddr 1 (.t 15)),
 oP 17 (.load false 1 (.t 16)),
 oP 18 (.bin .add (.t 17) (.c (.int .i64 1))),
 oP 19 (.nilCheck (.t 14)),
 oP 20 (.fieldAddr 1 (.t 19)),
 oN (.store 1 (.t 20) (.t 18))]
def a67_5 : List AOper := [
 oP 21 (.load true 4 (.t 5)),
 oN (.store 4 (.t 4) (.t 21))]
def a67 : AFunc := ⟨[.cell 4 true 4], (.seq (.ops a67_0) (.seq (.ops a67_1) (.seq (.seq (.ops a67_2) (.cond (.t 11) (.ops a67_3) .skip)) (.seq (.ops a67_4) (.seq (.ops a67_5) .ret)))))⟩
def a68_0 : List AOper := [
 oP 6 (.mv (.c (.bool false)))]
def a68_1 : List AOper := [
 mV 8 0,
 mV 9 1,
 oP 10 (.call 33 [(.t 8), (.t 9)]),
 oP 7 (.alloc [(.int .i64 0), (.str []), (.int .i64 0), (.int .i64 0)]),
 oN (.store 4 (.t 7) (.t 10))]
def a68_2 : List AOper := [
 oP 11 (.fieldAddr 0 (.t 7)),
 oP 12 (.load false 1 (.t 11)),
 oP 13 (.bin .eql (.t 12) (.c (.int .i64 5))),
 mV 14 13,
 oG 15 (.fieldAddr 0 (.t 7)) 14 false,
 oG 16 (.load false 1 (.t 15)) 14 false,
 oG 17 (.bin .eql (.t 16) (.c (.int .i64 4))) 14 false,
 oP 18 (.pick (.t 14) (.c (.bool true)) (.t 17)),
 mV 19 18,
 oG 20 (.fieldAddr 1 (.t 7)) 19 true,
 oG 21 (.load false 1 (.t 20)) 19 true,
 oG 22 (.mv (.t 2)) 19 true,
 oG 23 (.bin .eql (.t 21) (.t 22)) 19 true,
 oP 24 (.pick (.t 19) (.t 23) (.c (.bool false))),
 mV 6 24]
def a68 : AFunc := ⟨[.tmp 6], (.seq (.ops a68_0) (.seq (.ops a68_1) (.seq (.ops a68_2) .ret)))⟩
def a70_0 : List AOper := [
 oP 2 (.mv (.c (.int .i64 0)))]
def a70_1 : List AOper := [
 mV 6 0,
 oP 7 (.call 33 [(.t 6), (.c (.int .i64 0))]),
 oP 3 (.alloc [(.int .i64 0), (.str []), (.int .i64 0), (.int .i64 0)]),
 oN (.store 4 (.t 3) (.t 7))]
def a70_2 : List AOper := [
 mV 8 0,
 oP 9 (.call 114 [(.t 8)]),
 oP 10 (.lit true 1 1 [(.int .i64 0)] [(0, 1, (.t 9))]),
 mV 4 10]
def a70_3 : List AOper := [
 mV 11 0,
 oP 12 (.call 113 [(.t 11), (.c (.str [59]))])]
def a70_4 : List AOper := [
 mV 13 4,
 mV 14 0,
 oP 15 (.call 114 [(.t 14)]),
 oP 16 (.lit true 1 1 [(.int .i64 0)] [(0, 1, (.t 15))]),
 oP 17 (.append 1 8 (.t 13) (.t 16)),
 mV 4 17]
def a70_l5 : AC := (.seq (.seq (.ops a70_3) (.cond (.t 12) .skip (.exit 0))) (.block 1 (.ops a70_4)))
def a70_6 : List AOper := [
 mV 18 0,
 oP 19 (.call 67 [(.t 18), (.c (.int .i64 6))])]
def a70_7 : List AOper := [
 mV 20 0,
 oP 21 (.nilCheck (.t 20)),
 oP 22 (.fieldAddr 2 (.t 21)),
 oP 23 (.load false 1 (.t 22)),
 mV 24 0,
 oP 25 (.nilCheck (.t 24)),
 oP 26 (.fieldAddr 2 (.t 25)),
 oP 27 (.load false 1 (.t 26)),
 mV 28 4,
 oP 29 (.idxAddr 1 (.t 28) (.c (.int .i64 0))),
 oP 30 (.load false 1 (.t 29)),
 oP 31 (.idxAddr 6 (.t 27) (.t 30)),
 oP 32 (.fieldAddr 4 (.t 31)),
 oP 33 (.load false 1 (.t 32)),
 oP 34 (.idxAddr 1 (.t 33) (.c (.int .i64 0))),
 oP 35 (.load false 1 (.t 34)),
 oP 36 (.idxAddr 6 (.t 23) (.t 35)),
 oP 37 (.fieldAddr 4 (.t 36)),
 oP 38 (.load false 1 (.t 37)),
 oP 39 (.len false (.t 38)),
 mV 5 39]
def a70_7b : List Nat := [0, 1, 3, 7, 0, 16, 48, 112, 0, 256, 768, 2032, 4080, 8176, 16368, 32752, 65535, 131071, 262143, 524287, 1048575]
def a70_8 : List AOper := [
 mV 40 0,
 oP 41 (.fieldAddr 3 (.t 3)),
 oP 42 (.load false 1 (.t 41)),
 oP 43 (.fieldAddr 1 (.t 3)),
 oP 44 (.load false 1 (.t 43)),
 mV 45 5,
 mV 46 4,
 oP 47 (.build [(.int .i64 0), (.str []), (.str []), (.int .i64 0), .nils, (.int .i64 0)] [(0, 1, (.c (.int .i64 26))), (5, 1, (.t 42)), (1, 1, (.t 44)), (3, 1, (.t 45)), (4, 1, (.t 46))]),
 oP 48 (.call 71 [(.t 40), (.t 47)]),
 mV 2 48]
def a70 : AFunc := ⟨[.tmp 2], (.seq (.ops a70_0) (.seq (.ops a70_1) (.seq (.ops a70_2) (.seq (.block 0 (.loop a70_l5)) (.seq (.ops a70_6) (.seq (.draw a70_7 a70_7b) (.seq (.ops a70_8) .ret)))))))⟩
def a71_0 : List AOper := [
 oP 3 (.box false 6 (.t 1)),
 oP 4 (.mv (.c (.int .i64 0)))]
def a71_1 : List AOper := [
 mV 5 0,
 mV 6 0,
 oP 7 (.nilCheck (.t 6)),
 oP 8 (.fieldAddr 2 (.t 7)),
 oP 9 (.load false 1 (.t 8)),
 oP 10 (.load true 6 (.t 3)),
 oP 11 (.lit true 6 1 [(.int .i64 0), (.str []), (.str []), (.int .i64 0), .nils, (.int .i64 0)] [(0, 6, (.t 10))]),
 oP 12 (.append 6 80 (.t 9) (.t 11)),
 oP 13 (.nilCheck (.t 5)),
 oP 14 (.fieldAddr 2 (.t 13)),
 oN (.store 1 (.t 14) (.t 12))]
def a71_1b : List Nat := [0, 0, 2, 6, 14, 0, 32, 126, 255, 511, 1023]
def a71_2 : List AOper := [
 mV 15 0,
 oP 16 (.nilCheck (.t 15)),
 oP 17 (.fieldAddr 2 (.t 16)),
 oP 18 (.load false 1 (.t 17)),
 oP 19 (.len false (.t 18)),
 oP 20 (.bin .sub (.t 19) (.c (.int .i64 1))),
 mV 4 20]
def a71 : AFunc := ⟨[.tmp 4], (.seq (.ops a71_0) (.seq (.draw a71_1 a71_1b) (.seq (.ops a71_2) .ret)))⟩
def a77_0 : List AOper := [
 oP 6 (.mv (.c .nili))]
def a77_1 : List AOper := [
 mV 7 0,
 mV 8 1,
 mV 9 2,
 oP 10 (.build [(.str []), (.int .i64 0), (.int .i64 0), .nili] [(0, 1, (.c (.str [108, 101, 120]))), (1, 1, (.t 7)), (2, 1, (.t 8)), (3, 1, (.t 9))]),
 oP 11 (.box true 4 (.t 10)),
 oP 12 (.mkIface 78 (.t 11)),
 mV 6 12]
def a77 : AFunc := ⟨[.tmp 6], (.seq (.ops a77_0) (.seq (.ops a77_1) .ret))⟩
def a78_0 : List AOper := [
 mV 3 0,
 oP 4 (.nilCheck (.t 3)),
 oP 5 (.fieldAddr 1 (.t 4)),
 oP 6 (.load false 1 (.t 5)),
 mV 7 0,
 oP 8 (.nilCheck (.t 7)),
 oP 9 (.fieldAddr 0 (.t 8)),
 oP 10 (.load false 1 (.t 9)),
 oP 11 (.len true (.t 10)),
 oP 12 (.bin .lss (.t 6) (.t 11))]
def a78_0b : List Nat := [0, 1, 3, 7, 0, 16, 48, 112, 240, 511]
def a78_1 : List AOper := [
 mV 13 0,
 oP 14 (.nilCheck (.t 13)),
 oP 15 (.fieldAddr 0 (.t 14)),
 oP 16 (.load false 1 (.t 15)),
 mV 17 0,
 oP 18 (.nilCheck (.t 17)),
 oP 19 (.fieldAddr 1 (.t 18)),
 oP 20 (.load false 1 (.t 19)),
 oP 21 (.idxStr (.t 16) (.t 20)),
 mV 2 21]
def a78_1b : List Nat := [0, 1, 3, 7, 0, 16, 48, 112, 255, 511]
def a78_2 : List AOper := [
 mV 23 2,
 oP 24 (.call 118 [(.t 23)]),
 mV 22 24]
def a78_3 : List AOper := [
 mV 25 0,
 oP 26 (.nilCheck (.t 25)),
 oP 27 (.fieldAddr 1 (.t 26)),
 oP 28 (.load false 1 (.t 27)),
 oP 29 (.bin .add (.t 28) (.c (.int .i64 1))),
 oP 30 (.nilCheck (.t 25)),
 oP 31 (.fieldAddr 1 (.t 30)),
 oN (.store 1 (.t 31) (.t 29))]
def a78_4 : List AOper := [
 mV 33 2,
 oP 34 (.bin .eql (.t 33) (.c (.int .u8 37))),
 mV 32 34]
def a78_5 : List AOper := [
 mV 35 0,
 mV 36 0,
 mV 37 0,
 oP 38 (.nilCheck (.t 37)),
 oP 39 (.fieldAddr 1 (.t 38)),
 oP 40 (.load false 1 (.t 39)),
 oP 41 (.call 119 [(.t 36), (.t 40), (.c (.fn (.func 120) [] []))]),
 oP 42 (.nilCheck (.t 35)),
 oP 43 (.fieldAddr 1 (.t 42)),
 oN (.store 1 (.t 43) (.t 41))]
def a78_l6 : AC := (.seq (.seq (.draw a78_0 a78_0b) (.cond (.t 12) .skip (.exit 0))) (.block 1 (.seq (.draw a78_1 a78_1b) (.block 2 (.seq (.ops a78_2) (.cond (.t 22) (.ops a78_3) (.seq (.ops a78_4) (.cond (.t 32) (.ops a78_5) .ret))))))))
def a78 : AFunc := ⟨[], (.block 0 (.loop a78_l6))⟩
def a79_0 : List AOper := [
 oP 2 (.alloc [(.int .i64 0), (.str []), (.int .i64 0), (.int .i64 0)]),
 oP 3 (.mv (.c (.int .i64 0))),
 oP 4 (.mv (.c .nili))]
def a79_1 : List AOper := [
 mV 9 0,
 oP 10 (.nilCheck (.t 9)),
 oP 11 (.fieldAddr 0 (.t 10)),
 oP 12 (.load false 1 (.t 11)),
 mV 13 0,
 oP 14 (.nilCheck (.t 13)),
 oP 15 (.fieldAddr 1 (.t 14)),
 oP 16 (.load false 1 (.t 15)),
 oP 17 (.idxStr (.t 12) (.t 16)),
 mV 5 17]
def a79_1b : List Nat := [0, 1, 3, 7, 0, 16, 48, 112, 255, 511]
def a79_2 : List AOper := [
 mV 19 5,
 oP 20 (.call 121 [(.t 19)]),
 mV 18 20]
def a79_3 : List AOper := [
 mV 22 5,
 oP 23 (.call 122 [(.t 22)]),
 mV 21 23]
def a79_4 : List AOper := [
 mV 25 5,
 oP 26 (.bin .eql (.t 25) (.c (.int .u8 95))),
 mV 24 26]
def a79_5 : List AOper := [
 mV 28 5,
 oP 29 (.bin .eql (.t 28) (.c (.int .u8 39))),
 mV 27 29]
def a79_6 : List AOper := [
 mV 31 5,
 oP 32 (.call 125 [(.t 31)]),
 mV 30 32]
def a79_7 : List AOper := [
 mV 34 5,
 oP 35 (.bin .eql (.t 34) (.c (.int .u8 36))),
 mV 33 35]
def a79_8 : List AOper := [
 mV 37 5,
 oP 38 (.bin .eql (.t 37) (.c (.int .u8 46))),
 mV 36 38]
def a79_9 : List AOper := [
 mV 39 0,
 oP 40 (.call 123 [(.t 39)]),
 oP 41 (.extract (.t 40) 0),
 oP 42 (.extract (.t 40) 1),
 oP 43 (.extract (.t 40) 2),
 oN (.store 4 (.t 2) (.t 41)),
 mV 3 42,
 mV 4 43]
def a79_10 : List AOper := [
 mV 44 0,
 oP 45 (.call 124 [(.t 44)]),
 oP 46 (.extract (.t 45) 0),
 oP 47 (.extract (.t 45) 1),
 oP 48 (.extract (.t 45) 2),
 oN (.store 4 (.t 2) (.t 46)),
 mV 3 47,
 mV 4 48]
def a79_11 : List AOper := [
 mV 49 0,
 oP 50 (.call 126 [(.t 49)]),
 oP 51 (.extract (.t 50) 0),
 oP 52 (.extract (.t 50) 1),
 oP 53 (.extract (.t 50) 2),
 oN (.store 4 (.t 2) (.t 51)),
 mV 3 52,
 mV 4 53]
def a79_12 : List AOper := [
 mV 54 0,
 oP 55 (.call 127 [(.t 54)]),
 oP 56 (.extract (.t 55) 0),
 oP 57 (.extract (.t 55) 1),
 oP 58 (.extract (.t 55) 2),
 oN (.store 4 (.t 2) (.t 56)),
 mV 3 57,
 mV 4 58]
def a79_13 : List AOper := [
 mV 59 0,
 oP 60 (.nilCheck (.t 59)),
 oP 61 (.fieldAddr 1 (.t 60)),
 oP 62 (.load false 1 (.t 61)),
 oP 63 (.bin .add (.t 62) (.c (.int .i64 1))),
 mV 6 63]
def a79_14 : List AOper := [
 mV 64 6,
 mV 65 0,
 oP 66 (.nilCheck (.t 65)),
 oP 67 (.fieldAddr 0 (.t 66)),
 oP 68 (.load false 1 (.t 67)),
 oP 69 (.len true (.t 68)),
 oP 70 (.bin .eql (.t 64) (.t 69)),
 mV 71 70,
 oG 72 (.mv (.t 0)) 71 false,
 oG 73 (.nilCheck (.t 72)) 71 false,
 oG 74 (.fieldAddr 0 (.t 73)) 71 false,
 oG 75 (.load false 1 (.t 74)) 71 false,
 oG 76 (.mv (.t 6)) 71 false,
 oG 77 (.idxStr (.t 75) (.t 76)) 71 false,
 oG 78 (.call 118 [(.t 77)]) 71 false,
 oP 79 (.pick (.t 71) (.c (.bool true)) (.t 78)),
 mV 80 79,
 oG 81 (.mv (.t 0)) 80 false,
 oG 82 (.nilCheck (.t 81)) 80 false,
 oG 83 (.fieldAddr 0 (.t 82)) 80 false,
 oG 84 (.load false 1 (.t 83)) 80 false,
 oG 85 (.mv (.t 6)) 80 false,
 oG 86 (.idxStr (.t 84) (.t 85)) 80 false,
 oG 87 (.bin .eql (.t 86) (.c (.int .u8 37))) 80 false,
 oP 88 (.pick (.t 80) (.c (.bool true)) (.t 87))]
def a79_15 : List AOper := [
 oP 89 (.build [(.int .i64 0), (.str []), (.int .i64 0), (.int .i64 0)] [(0, 1, (.c (.int .i64 6)))]),
 mV 90 6,
 oN (.store 4 (.t 2) (.t 89)),
 mV 3 90,
 oP 4 (.mv (.c .nili))]
def a79_16 : List AOper := [
 oP 91 (.call 128 []),
 oP 92 (.len false (.t 91)),
 oP 93 (.mv (.c (.int .i64 0)))]
def a79_17 : List AOper := [
 oP 94 (.bin .lss (.t 93) (.t 92))]
def a79_18 : List AOper := [
 oP 95 (.idxAddr 1 (.t 91) (.t 93)),
 oP 96 (.load false 1 (.t 95)),
 mV 8 96]
def a79_19 : List AOper := [
 mV 97 0,
 oP 98 (.nilCheck (.t 97)),
 oP 99 (.fieldAddr 0 (.t 98)),
 oP 100 (.load false 1 (.t 99)),
 mV 101 0,
 oP 102 (.nilCheck (.t 101)),
 oP 103 (.fieldAddr 1 (.t 102)),
 oP 104 (.load false 1 (.t 103)),
 oP 105 (.sliceStr (.t 100) (some (.t 104)) none),
 mV 106 8,
 oP 107 (.call 129 [(.t 105), (.t 106)])]
def a79_19b : List Nat := [0, 1, 3, 7, 0, 16, 48, 112, 255, 0, 1023]
def a79_20 : List AOper := [
 mV 108 8,
 oP 109 (.build [(.int .i64 0), (.str []), (.int .i64 0), (.int .i64 0)] [(0, 1, (.c (.int .i64 5))), (1, 1, (.t 108))]),
 mV 110 0,
 oP 111 (.nilCheck (.t 110)),
 oP 112 (.fieldAddr 1 (.t 111)),
 oP 113 (.load false 1 (.t 112)),
 mV 114 8,
 oP 115 (.len true (.t 114)),
 oP 116 (.bin .add (.t 113) (.t 115)),
 oN (.store 4 (.t 2) (.t 109)),
 mV 3 116,
 oP 4 (.mv (.c .nili))]
def a79_20b : List Nat := [0, 1, 0, 4, 12, 28, 0, 64, 252, 3, 1023, 2047]
def a79_21 : List AOper := [
 oP 117 (.bin .add (.t 93) (.c (.int .i64 1))),
 mV 93 117]
def a79_l22 : AC := (.seq (.ops a79_17) (.seq (.cond (.t 94) .skip (.exit 8)) (.seq (.block 9 (.seq (.ops a79_18) (.seq (.draw a79_19 a79_19b) (.cond (.t 107) (.seq (.draw a79_20 a79_20b) .ret) .skip)))) (.ops a79_21))))
def a79_23 : List AOper := [
 oP 118 (.build [(.int .i64 0), (.str []), (.int .i64 0), (.int .i64 0)] []),
 mV 119 0,
 oP 120 (.nilCheck (.t 119)),
 oP 121 (.fieldAddr 1 (.t 120)),
 oP 122 (.load false 1 (.t 121)),
 oP 123 (.call 77 [(.t 122), (.c (.int .i64 200)), (.c .nili)]),
 oN (.store 4 (.t 2) (.t 118)),
 oP 3 (.mv (.c (.int .i64 0))),
 mV 4 123]
def a79 : AFunc := ⟨[.cell 2 true 4, .tmp 3, .tmp 4], (.seq (.ops a79_0) (.seq (.draw a79_1 a79_1b) (.seq (.block 0 (.seq (.block 7 (.seq (.block 6 (.seq (.block 5 (.seq (.block 4 (.seq (.block 3 (.block 2 (.block 1 (.seq (.seq (.seq (.ops a79_2) (.cond (.t 18) (.exit 1) .skip)) (.seq (.seq (.ops a79_3) (.cond (.t 21) (.exit 2) .skip)) (.seq (.seq (.ops a79_4) (.cond (.t 24) (.exit 3) .skip)) (.seq (.seq (.ops a79_5) (.cond (.t 27) (.exit 4) .skip)) (.seq (.seq (.ops a79_6) (.cond (.t 30) (.exit 5) .skip)) (.seq (.seq (.ops a79_7) (.cond (.t 33) (.exit 6) .skip)) (.seq (.ops a79_8) (.cond (.t 36) (.exit 7) .skip)))))))) (.exit 0))))) (.seq (.seq (.ops a79_9) .ret) (.exit 0)))) (.seq (.seq (.ops a79_10) .ret) (.exit 0)))) (.seq (.seq (.ops a79_11) .ret) (.exit 0)))) (.seq (.seq (.ops a79_12) .ret) (.exit 0)))) (.seq (.seq (.ops a79_13) (.seq (.ops a79_14) (.cond (.t 88) (.seq (.ops a79_15) .ret) .skip))) (.exit 0)))) (.seq (.seq (.ops a79_16) (.block 8 (.loop a79_l22))) (.seq (.ops a79_23) .ret)))))⟩
def a113_0 : List AOper := [
 oP 4 (.mv (.c (.bool false)))]
def a113_1 : List AOper := [
 mV 5 0,
 mV 6 1,
 oP 7 (.call 68 [(.t 5), (.c (.int .i64 0)), (.t 6)]),
 oP 8 (.un .not (.t 7))]
def a113_2 : List AOper := [
 oP 4 (.mv (.c (.bool false)))]
def a113_3 : List AOper := [
 mV 9 0,
 oP 10 (.nilCheck (.t 9)),
 oP 11 (.fieldAddr 1 (.t 10)),
 oP 12 (.load false 1 (.t 11)),
 oP 13 (.bin .add (.t 12) (.c (.int .i64 1))),
 oP 14 (.nilCheck (.t 9)),
 oP 15 (.fieldAddr 1 (.t 14)),
 oN (.store 1 (.t 15) (.t 13))]
def a113_4 : List AOper := [
 oP 4 (.mv (.c (.bool true)))]
def a113 : AFunc := ⟨[.tmp 4], (.seq (.ops a113_0) (.seq (.seq (.ops a113_1) (.cond (.t 8) (.seq (.ops a113_2) .ret) .skip)) (.seq (.ops a113_3) (.seq (.ops a113_4) .ret))))⟩
def a114_0 : List AOper := [
 oP 2 (.mv (.c (.int .i64 0)))]
def a114_1 : List AOper := [
 mV 6 0,
 oP 7 (.call 67 [(.t 6), (.c (.int .i64 1))]),
 oP 3 (.alloc [(.int .i64 0), (.str []), (.int .i64 0), (.int .i64 0)]),
 oN (.store 4 (.t 3) (.t 7))]
def a114_2 : List AOper := [
 mV 8 0,
 oP 9 (.call 33 [(.t 8), (.c (.int .i64 0))]),
 oP 10 (.field false 1 3 (.t 9)),
 mV 4 10]
def a114_3 : List AOper := [
 mV 11 0,
 oP 12 (.call 145 [(.t 11)]),
 mV 5 12]
def a114_4 : List AOper := [
 mV 13 0,
 oP 14 (.fieldAddr 3 (.t 3)),
 oP 15 (.load false 1 (.t 14)),
 oP 16 (.fieldAddr 1 (.t 3)),
 oP 17 (.load false 1 (.t 16)),
 mV 18 0,
 mV 19 4,
 mV 20 5,
 oP 21 (.call 35 [(.t 18), (.c (.int .i64 25)), (.t 19), (.c (.str [])), (.t 20)]),
 oP 22 (.call 146 [(.t 13), (.t 15), (.t 17), (.t 21)]),
 mV 2 22]
def a114_4b : List Nat := [0, 0, 2, 0, 8, 0, 0, 0, 224, 511, 1023]
def a114 : AFunc := ⟨[.tmp 2], (.seq (.ops a114_0) (.seq (.ops a114_1) (.seq (.ops a114_2) (.seq (.ops a114_3) (.seq (.draw a114_4 a114_4b) .ret)))))⟩
def a118_0 : List AOper := [
 oP 2 (.mv (.c (.bool false)))]
def a118_1 : List AOper := [
 mV 3 0,
 oP 4 (.bin .eql (.t 3) (.c (.int .u8 9))),
 mV 5 4,
 oG 6 (.mv (.t 0)) 5 false,
 oG 7 (.bin .eql (.t 6) (.c (.int .u8 10))) 5 false,
 oP 8 (.pick (.t 5) (.c (.bool true)) (.t 7)),
 mV 9 8,
 oG 10 (.mv (.t 0)) 9 false,
 oG 11 (.bin .eql (.t 10) (.c (.int .u8 13))) 9 false,
 oP 12 (.pick (.t 9) (.c (.bool true)) (.t 11)),
 mV 13 12,
 oG 14 (.mv (.t 0)) 13 false,
 oG 15 (.bin .eql (.t 14) (.c (.int .u8 32))) 13 false,
 oP 16 (.pick (.t 13) (.c (.bool true)) (.t 15)),
 mV 2 16]
def a118 : AFunc := ⟨[.tmp 2], (.seq (.ops a118_0) (.seq (.ops a118_1) .ret))⟩
def a119_0 : List AOper := [
 oP 6 (.mv (.c (.int .i64 0)))]
def a119_1 : List AOper := [
 mV 7 1,
 mV 8 0,
 oP 9 (.nilCheck (.t 8)),
 oP 10 (.fieldAddr 0 (.t 9)),
 oP 11 (.load false 1 (.t 10)),
 oP 12 (.len true (.t 11)),
 oP 13 (.bin .lss (.t 7) (.t 12)),
 mV 14 13,
 oG 15 (.mv (.t 2)) 14 true,
 oG 16 (.mv (.t 0)) 14 true,
 oG 17 (.nilCheck (.t 16)) 14 true,
 oG 18 (.fieldAddr 0 (.t 17)) 14 true,
 oG 19 (.load false 1 (.t 18)) 14 true,
 oG 20 (.mv (.t 1)) 14 true,
 oG 21 (.idxStr (.t 19) (.t 20)) 14 true,
 oG 22 (.callv (.t 15) [(.t 21)]) 14 true,
 oP 23 (.pick (.t 14) (.t 22) (.c (.bool false)))]
def a119_2 : List AOper := [
 mV 24 1,
 oP 25 (.bin .add (.t 24) (.c (.int .i64 1))),
 mV 1 25]
def a119_l3 : AC := (.seq (.seq (.ops a119_1) (.cond (.t 23) .skip (.exit 0))) (.block 1 (.ops a119_2)))
def a119_4 : List AOper := [
 mV 26 1,
 mV 6 26]
def a119 : AFunc := ⟨[.tmp 6], (.seq (.ops a119_0) (.seq (.block 0 (.loop a119_l3)) (.seq (.ops a119_4) .ret)))⟩
def a121_0 : List AOper := [
 oP 2 (.mv (.c (.bool false)))]
def a121_1 : List AOper := [
 mV 3 0,
 oP 4 (.bin .geq (.t 3) (.c (.int .u8 97))),
 mV 5 4,
 oG 6 (.mv (.t 0)) 5 true,
 oG 7 (.bin .leq (.t 6) (.c (.int .u8 122))) 5 true,
 oP 8 (.pick (.t 5) (.t 7) (.c (.bool false))),
 mV 2 8]
def a121 : AFunc := ⟨[.tmp 2], (.seq (.ops a121_0) (.seq (.ops a121_1) .ret))⟩
def a122_0 : List AOper := [
 oP 2 (.mv (.c (.bool false)))]
def a122_1 : List AOper := [
 mV 3 0,
 oP 4 (.bin .geq (.t 3) (.c (.int .u8 65))),
 mV 5 4,
 oG 6 (.mv (.t 0)) 5 true,
 oG 7 (.bin .leq (.t 6) (.c (.int .u8 90))) 5 true,
 oP 8 (.pick (.t 5) (.t 7) (.c (.bool false))),
 mV 2 8]
def a122 : AFunc := ⟨[.tmp 2], (.seq (.ops a122_0) (.seq (.ops a122_1) .ret))⟩
def a123_0 : List AOper := [
 oP 2 (.alloc [(.int .i64 0), (.str []), (.int .i64 0), (.int .i64 0)]),
 oP 3 (.mv (.c (.int .i64 0))),
 oP 4 (.mv (.c .nili))]
def a123_1 : List AOper := [
 mV 7 0,
 mV 8 0,
 oP 9 (.nilCheck (.t 8)),
 oP 10 (.fieldAddr 1 (.t 9)),
 oP 11 (.load false 1 (.t 10)),
 oP 12 (.call 119 [(.t 7), (.t 11), (.c (.fn (.func 147) [] []))]),
 mV 5 12]
def a123_2 : List AOper := [
 mV 13 0,
 oP 14 (.nilCheck (.t 13)),
 oP 15 (.fieldAddr 0 (.t 14)),
 oP 16 (.load false 1 (.t 15)),
 mV 17 0,
 oP 18 (.nilCheck (.t 17)),
 oP 19 (.fieldAddr 1 (.t 18)),
 oP 20 (.load false 1 (.t 19)),
 mV 21 5,
 oP 22 (.sliceStr (.t 16) (some (.t 20)) (some (.t 21))),
 mV 6 22]
def a123_2b : List Nat := [0, 1, 3, 7, 0, 16, 48, 112, 0, 511, 1023]
def a123_3 : List AOper := [
 mV 24 6,
 oP 25 (.call 148 [(.t 24)]),
 mV 23 25]
def a123_4 : List AOper := [
 mV 26 6,
 oP 27 (.build [(.int .i64 0), (.str []), (.int .i64 0), (.int .i64 0)] [(0, 1, (.c (.int .i64 4))), (1, 1, (.t 26))]),
 mV 28 5,
 oN (.store 4 (.t 2) (.t 27)),
 mV 3 28,
 oP 4 (.mv (.c .nili))]
def a123_5 : List AOper := [
 mV 30 6,
 oP 31 (.idxStr (.t 30) (.c (.int .i64 0))),
 oP 32 (.call 121 [(.t 31)]),
 mV 29 32]
def a123_6 : List AOper := [
 mV 33 0,
 oP 34 (.call 124 [(.t 33)]),
 oP 35 (.extract (.t 34) 0),
 oP 36 (.extract (.t 34) 1),
 oP 37 (.extract (.t 34) 2),
 oN (.store 4 (.t 2) (.t 35)),
 mV 3 36,
 mV 4 37]
def a123_7 : List AOper := [
 mV 39 6,
 oP 40 (.len true (.t 39)),
 oP 41 (.bin .gtr (.t 40) (.c (.int .i64 255))),
 mV 38 41]
def a123_8 : List AOper := [
 oP 42 (.build [(.int .i64 0), (.str []), (.int .i64 0), (.int .i64 0)] []),
 mV 43 0,
 oP 44 (.nilCheck (.t 43)),
 oP 45 (.fieldAddr 1 (.t 44)),
 oP 46 (.load false 1 (.t 45)),
 oP 47 (.call 77 [(.t 46), (.c (.int .i64 4)), (.c .nili)]),
 oN (.store 4 (.t 2) (.t 42)),
 oP 3 (.mv (.c (.int .i64 0))),
 mV 4 47]
def a123_9 : List AOper := [
 mV 48 6,
 oP 49 (.build [(.int .i64 0), (.str []), (.int .i64 0), (.int .i64 0)] [(0, 1, (.c (.int .i64 2))), (1, 1, (.t 48))]),
 mV 50 5,
 oN (.store 4 (.t 2) (.t 49)),
 mV 3 50,
 oP 4 (.mv (.c .nili))]
def a123 : AFunc := ⟨[.cell 2 true 4, .tmp 3, .tmp 4], (.seq (.ops a123_0) (.seq (.ops a123_1) (.seq (.draw a123_2 a123_2b) (.seq (.block 0 (.seq (.ops a123_3) (.cond (.t 23) (.seq (.ops a123_4) .ret) (.seq (.ops a123_5) (.cond (.t 29) (.seq (.ops a123_6) .ret) (.seq (.ops a123_7) (.cond (.t 38) (.seq (.ops a123_8) .ret) .skip))))))) (.seq (.ops a123_9) .ret)))))⟩
def a124_0 : List AOper := [
 oP 2 (.alloc [(.int .i64 0), (.str []), (.int .i64 0), (.int .i64 0)]),
 oP 3 (.mv (.c (.int .i64 0))),
 oP 4 (.mv (.c .nili))]
def a124_1 : List AOper := [
 mV 10 0,
 oP 11 (.nilCheck (.t 10)),
 oP 12 (.fieldAddr 0 (.t 11)),
 oP 13 (.load false 1 (.t 12)),
 mV 14 0,
 oP 15 (.nilCheck (.t 14)),
 oP 16 (.fieldAddr 1 (.t 15)),
 oP 17 (.load false 1 (.t 16)),
 oP 18 (.call 149 [(.t 13), (.t 17)]),
 mV 9 18,
 oP 19 (.extract (.t 9) 0),
 oP 20 (.extract (.t 9) 1),
 oP 21 (.extract (.t 9) 2),
 mV 5 19,
 mV 6 20,
 mV 7 21]
def a124_1b : List Nat := [0, 1, 3, 7, 0, 16, 48, 112, 255, 511, 1023, 1023, 1023, 2047, 12287, 32767]
def a124_2 : List AOper := [
 mV 22 7,
 oP 23 (.eq true (.iface true) (.t 22) (.c .nili))]
def a124_3 : List AOper := [
 oP 8 (.alloc [.nilp])]
def a124_4 : List AOper := [
 mV 24 7,
 oP 25 (.mkIface 80 (.t 8)),
 oP 26 (.call 37 [(.t 24), (.t 25)])]
def a124_5 : List AOper := [
 oP 27 (.build [(.int .i64 0), (.str []), (.int .i64 0), (.int .i64 0)] []),
 mV 28 0,
 oP 29 (.nilCheck (.t 28)),
 oP 30 (.fieldAddr 1 (.t 29)),
 oP 31 (.load false 1 (.t 30)),
 oP 32 (.load false 1 (.t 8)),
 oP 33 (.nilCheck (.t 32)),
 oP 34 (.fieldAddr 2 (.t 33)),
 oP 35 (.load false 1 (.t 34)),
 mV 36 7,
 oP 37 (.call 77 [(.t 31), (.t 35), (.t 36)]),
 oN (.store 4 (.t 2) (.t 27)),
 oP 3 (.mv (.c (.int .i64 0))),
 mV 4 37]
def a124_5b : List Nat := [0, 0, 2, 6, 14, 0, 32, 96, 224, 0, 1022, 2047, 4095, 8191]
def a124_6 : List AOper := [
 mV 38 5,
 oP 39 (.build [(.int .i64 0), (.str []), (.int .i64 0), (.int .i64 0)] [(0, 1, (.c (.int .i64 1))), (1, 1, (.t 38))]),
 mV 40 6,
 oN (.store 4 (.t 2) (.t 39)),
 mV 3 40,
 oP 4 (.mv (.c .nili))]
def a124 : AFunc := ⟨[.cell 2 true 4, .tmp 3, .tmp 4], (.seq (.ops a124_0) (.seq (.draw a124_1 a124_1b) (.seq (.seq (.ops a124_2) (.cond (.t 23) (.seq (.ops a124_3) (.seq (.ops a124_4) (.seq (.draw a124_5 a124_5b) .ret))) .skip)) (.seq (.ops a124_6) .ret))))⟩
def a125_0 : List AOper := [
 oP 2 (.mv (.c (.bool false)))]
def a125_1 : List AOper := [
 mV 3 0,
 oP 4 (.bin .geq (.t 3) (.c (.int .u8 48))),
 mV 5 4,
 oG 6 (.mv (.t 0)) 5 true,
 oG 7 (.bin .leq (.t 6) (.c (.int .u8 57))) 5 true,
 oP 8 (.pick (.t 5) (.t 7) (.c (.bool false))),
 mV 2 8]
def a125 : AFunc := ⟨[.tmp 2], (.seq (.ops a125_0) (.seq (.ops a125_1) .ret))⟩
def a126_0 : List AOper := [
 oP 2 (.alloc [(.int .i64 0), (.str []), (.int .i64 0), (.int .i64 0)]),
 oP 3 (.mv (.c (.int .i64 0))),
 oP 4 (.mv (.c .nili))]
def a126_1 : List AOper := [
 mV 14 0,
 oP 15 (.nilCheck (.t 14)),
 oP 16 (.fieldAddr 1 (.t 15)),
 oP 17 (.load false 1 (.t 16)),
 oP 18 (.call 77 [(.t 17), (.c (.int .i64 201)), (.c .nili)]),
 mV 5 18]
def a126_2 : List AOper := [
 mV 19 0,
 mV 20 0,
 oP 21 (.nilCheck (.t 20)),
 oP 22 (.fieldAddr 1 (.t 21)),
 oP 23 (.load false 1 (.t 22)),
 oP 24 (.call 119 [(.t 19), (.t 23), (.c (.fn (.func 125) [] []))]),
 mV 6 24]
def a126_3 : List AOper := [
 mV 25 0,
 oP 26 (.nilCheck (.t 25)),
 oP 27 (.fieldAddr 0 (.t 26)),
 oP 28 (.load false 1 (.t 27)),
 mV 29 0,
 oP 30 (.nilCheck (.t 29)),
 oP 31 (.fieldAddr 1 (.t 30)),
 oP 32 (.load false 1 (.t 31)),
 mV 33 6,
 oP 34 (.sliceStr (.t 28) (some (.t 32)) (some (.t 33))),
 oP 7 (.mv (.c (.int .i64 10))),
 mV 8 34]
def a126_3b : List Nat := [0, 1, 3, 7, 0, 16, 48, 112, 0, 511, 0, 2047]
def a126_10b : List Nat := [0, 0, 2, 6, 14, 0, 0, 126, 1, 511]
def a126_4 : List AOper := [
 mV 35 6,
 mV 36 0,
 oP 37 (.nilCheck (.t 36)),
 oP 38 (.fieldAddr 0 (.t 37)),
 oP 39 (.load false 1 (.t 38)),
 oP 40 (.len true (.t 39)),
 oP 41 (.bin .lss (.t 35) (.t 40)),
 mV 42 41,
 oG 43 (.mv (.t 0)) 42 true,
 oG 44 (.nilCheck (.t 43)) 42 true,
 oG 45 (.fieldAddr 0 (.t 44)) 42 true,
 oG 46 (.load false 1 (.t 45)) 42 true,
 oG 47 (.mv (.t 6)) 42 true,
 oG 48 (.idxStr (.t 46) (.t 47)) 42 true,
 oG 49 (.bin .eql (.t 48) (.c (.int .u8 35))) 42 true,
 oP 50 (.pick (.t 42) (.t 49) (.c (.bool false)))]
def a126_5 : List AOper := [
 mV 52 8,
 oP 53 (.call 150 [(.t 52)]),
 mV 51 53,
 oP 54 (.extract (.t 51) 0),
 oP 55 (.extract (.t 51) 1),
 mV 9 54,
 mV 10 55]
def a126_6 : List AOper := [
 mV 56 10,
 oP 57 (.eq true (.iface true) (.t 56) (.c .nili)),
 mV 58 57,
 oG 59 (.mv (.t 9)) 58 false,
 oG 60 (.bin .lss (.t 59) (.c (.int .i64 2))) 58 false,
 oP 61 (.pick (.t 58) (.c (.bool true)) (.t 60)),
 mV 62 61,
 oG 63 (.mv (.t 9)) 62 false,
 oG 64 (.bin .gtr (.t 63) (.c (.int .i64 36))) 62 false,
 oP 65 (.pick (.t 62) (.c (.bool true)) (.t 64))]
def a126_7 : List AOper := [
 oP 66 (.build [(.int .i64 0), (.str []), (.int .i64 0), (.int .i64 0)] []),
 mV 67 5,
 oN (.store 4 (.t 2) (.t 66)),
 oP 3 (.mv (.c (.int .i64 0))),
 mV 4 67]
def a126_8 : List AOper := [
 mV 68 6,
 oP 69 (.bin .add (.t 68) (.c (.int .i64 1))),
 mV 11 69]
def a126_9 : List AOper := [
 mV 70 0,
 mV 71 11,
 oP 72 (.call 119 [(.t 70), (.t 71), (.c (.fn (.func 151) [] []))]),
 mV 6 72]
def a126_10 : List AOper := [
 mV 73 9,
 mV 74 0,
 oP 75 (.nilCheck (.t 74)),
 oP 76 (.fieldAddr 0 (.t 75)),
 oP 77 (.load false 1 (.t 76)),
 mV 78 11,
 mV 79 6,
 oP 80 (.sliceStr (.t 77) (some (.t 78)) (some (.t 79))),
 mV 7 73,
 mV 8 80]
def a126_11 : List AOper := [
 mV 82 8,
 mV 83 7,
 oP 84 (.call 152 [(.t 82), (.t 83), (.c (.int .i64 64))]),
 mV 81 84,
 oP 85 (.extract (.t 81) 0),
 oP 86 (.extract (.t 81) 1),
 mV 12 85,
 mV 13 86]
def a126_12 : List AOper := [
 mV 87 13,
 oP 88 (.eq true (.iface true) (.t 87) (.c .nili)),
 mV 89 88,
 oG 90 (.mv (.t 12)) 89 false,
 oG 91 (.bin .gtr (.t 90) (.c (.int .i64 576460752303423487))) 89 false,
 oP 92 (.pick (.t 89) (.c (.bool true)) (.t 91))]
def a126_13 : List AOper := [
 oP 93 (.build [(.int .i64 0), (.str []), (.int .i64 0), (.int .i64 0)] []),
 mV 94 5,
 oN (.store 4 (.t 2) (.t 93)),
 oP 3 (.mv (.c (.int .i64 0))),
 mV 4 94]
def a126_14 : List AOper := [
 mV 95 12,
 oP 96 (.build [(.int .i64 0), (.str []), (.int .i64 0), (.int .i64 0)] [(0, 1, (.c (.int .i64 3))), (2, 1, (.t 95))]),
 mV 97 6,
 oN (.store 4 (.t 2) (.t 96)),
 mV 3 97,
 oP 4 (.mv (.c .nili))]
def a126 : AFunc := ⟨[.cell 2 true 4, .tmp 3, .tmp 4], (.seq (.ops a126_0) (.seq (.ops a126_1) (.seq (.ops a126_2) (.seq (.draw a126_3 a126_3b) (.seq (.seq (.ops a126_4) (.cond (.t 50) (.seq (.ops a126_5) (.seq (.seq (.ops a126_6) (.cond (.t 65) (.seq (.ops a126_7) .ret) .skip)) (.seq (.ops a126_8) (.seq (.ops a126_9) (.draw a126_10 a126_10b))))) .skip)) (.seq (.ops a126_11) (.seq (.seq (.ops a126_12) (.cond (.t 92) (.seq (.ops a126_13) .ret) .skip)) (.seq (.ops a126_14) .ret))))))))⟩
end Go.Pa

set_option linter.unusedVariables false
namespace Go.Pa
open Go.AM
def a128_0 : List AOper := [
 oP 0 (.mv (.c .nils))]
def a128_1 : List AOper := [
 oP 1 (.lit true 1 27 [(.str []), (.str []), (.str []), (.str []), (.str []), (.str []), (.str []), (.str []), (.str []), (.str []), (.str []), (.str []), (.str []), (.str []), (.str []), (.str []), (.str []), (.str []), (.str []), (.str []), (.str []), (.str []), (.str []), (.str []), (.str []), (.str []), (.str [])] [(0, 1, (.c (.str [61, 58, 61]))), (1, 1, (.c (.str [61, 47, 61]))), (2, 1, (.c (.str [45, 62]))), (3, 1, (.c (.str [61, 61]))), (4, 1, (.c (.str [47, 61]))), (5, 1, (.c (.str [61, 60]))), (6, 1, (.c (.str [62, 61]))), (7, 1, (.c (.str [43, 43]))), (8, 1, (.c (.str [45, 45]))), (9, 1, (.c (.str [40]))), (10, 1, (.c (.str [41]))), (11, 1, (.c (.str [91]))), (12, 1, (.c (.str [93]))), (13, 1, (.c (.str [123]))), (14, 1, (.c (.str [125]))), (15, 1, (.c (.str [44]))), (16, 1, (.c (.str [59]))), (17, 1, (.c (.str [58]))), (18, 1, (.c (.str [124]))), (19, 1, (.c (.str [33]))), (20, 1, (.c (.str [61]))), (21, 1, (.c (.str [43]))), (22, 1, (.c (.str [45]))), (23, 1, (.c (.str [42]))), (24, 1, (.c (.str [47]))), (25, 1, (.c (.str [60]))), (26, 1, (.c (.str [62])))]),
 mV 0 1]
def a128 : AFunc := ⟨[.tmp 0], (.seq (.ops a128_0) (.seq (.ops a128_1) .ret))⟩
def a129_0 : List AOper := [
 oP 4 (.mv (.c (.bool false)))]
def a129_1 : List AOper := [
 mV 5 0,
 mV 6 1,
 oP 7 (.call 154 [(.t 5), (.t 6)]),
 mV 4 7]
def a129 : AFunc := ⟨[.tmp 4], (.seq (.ops a129_0) (.seq (.ops a129_1) .ret))⟩
def a134_0 : List AOper := [
 oP 1 (.box false 4 (.t 0)),
 oP 2 (.mv (.c (.int .i64 0)))]
def a134_1 : List AOper := [
 oP 3 (.fieldAddr 0 (.t 1)),
 oP 4 (.load false 1 (.t 3)),
 oP 5 (.bin .neq (.t 4) (.c (.int .i64 5))),
 mV 6 5,
 oG 7 (.fieldAddr 0 (.t 1)) 6 true,
 oG 8 (.load false 1 (.t 7)) 6 true,
 oG 9 (.bin .neq (.t 8) (.c (.int .i64 4))) 6 true,
 oP 10 (.pick (.t 6) (.t 9) (.c (.bool false)))]
def a134_2 : List AOper := [
 oP 2 (.mv (.c (.int .i64 0)))]
def a134_3 : List AOper := [
 oP 11 (.fieldAddr 1 (.t 1)),
 oP 12 (.load false 1 (.t 11))]
def a134_4 : List AOper := [
 oP 14 (.bin .eql (.t 12) (.c (.str [61, 61]))),
 mV 13 14]
def a134_5 : List AOper := [
 oP 15 (.bin .eql (.t 12) (.c (.str [47, 61]))),
 mV 13 15]
def a134_6 : List AOper := [
 oP 16 (.bin .eql (.t 12) (.c (.str [61, 60]))),
 mV 13 16]
def a134_7 : List AOper := [
 oP 17 (.bin .eql (.t 12) (.c (.str [60]))),
 mV 13 17]
def a134_8 : List AOper := [
 oP 19 (.bin .eql (.t 12) (.c (.str [62, 61]))),
 mV 18 19]
def a134_9 : List AOper := [
 oP 20 (.bin .eql (.t 12) (.c (.str [62]))),
 mV 18 20]
def a134_10 : List AOper := [
 oP 21 (.bin .eql (.t 12) (.c (.str [61, 58, 61]))),
 mV 18 21]
def a134_11 : List AOper := [
 oP 22 (.bin .eql (.t 12) (.c (.str [61, 47, 61]))),
 mV 18 22]
def a134_12 : List AOper := [
 oP 24 (.bin .eql (.t 12) (.c (.str [43, 43]))),
 mV 23 24]
def a134_13 : List AOper := [
 oP 25 (.bin .eql (.t 12) (.c (.str [45, 45]))),
 mV 23 25]
def a134_14 : List AOper := [
 oP 27 (.bin .eql (.t 12) (.c (.str [43]))),
 mV 26 27]
def a134_15 : List AOper := [
 oP 28 (.bin .eql (.t 12) (.c (.str [45]))),
 mV 26 28]
def a134_16 : List AOper := [
 oP 29 (.bin .eql (.t 12) (.c (.str [111, 114]))),
 mV 26 29]
def a134_17 : List AOper := [
 oP 30 (.bin .eql (.t 12) (.c (.str [120, 111, 114]))),
 mV 26 30]
def a134_18 : List AOper := [
 oP 32 (.bin .eql (.t 12) (.c (.str [42]))),
 mV 31 32]
def a134_19 : List AOper := [
 oP 33 (.bin .eql (.t 12) (.c (.str [100, 105, 118]))),
 mV 31 33]
def a134_20 : List AOper := [
 oP 34 (.bin .eql (.t 12) (.c (.str [114, 101, 109]))),
 mV 31 34]
def a134_21 : List AOper := [
 oP 35 (.bin .eql (.t 12) (.c (.str [97, 110, 100]))),
 mV 31 35]
def a134_22 : List AOper := [
 oP 2 (.mv (.c (.int .i64 1)))]
def a134_23 : List AOper := [
 oP 2 (.mv (.c (.int .i64 2)))]
def a134_24 : List AOper := [
 oP 2 (.mv (.c (.int .i64 3)))]
def a134_25 : List AOper := [
 oP 2 (.mv (.c (.int .i64 4)))]
def a134_26 : List AOper := [
 oP 2 (.mv (.c (.int .i64 0)))]
def a134 : AFunc := ⟨[.tmp 2], (.seq (.ops a134_0) (.seq (.seq (.ops a134_1) (.cond (.t 10) (.seq (.ops a134_2) .ret) .skip)) (.seq (.seq (.ops a134_3) (.block 0 (.seq (.block 5 (.seq (.block 4 (.seq (.block 3 (.seq (.block 2 (.block 1 (.seq (.seq (.seq (.seq (.ops a134_4) (.cond (.t 13) .skip (.seq (.ops a134_5) (.cond (.t 13) .skip (.seq (.ops a134_6) (.cond (.t 13) .skip (.ops a134_7))))))) (.cond (.t 13) (.exit 1) .skip)) (.seq (.seq (.seq (.ops a134_8) (.cond (.t 18) .skip (.seq (.ops a134_9) (.cond (.t 18) .skip (.seq (.ops a134_10) (.cond (.t 18) .skip (.ops a134_11))))))) (.cond (.t 18) (.exit 2) .skip)) (.seq (.seq (.seq (.ops a134_12) (.cond (.t 23) .skip (.ops a134_13))) (.cond (.t 23) (.exit 3) .skip)) (.seq (.seq (.seq (.ops a134_14) (.cond (.t 26) .skip (.seq (.ops a134_15) (.cond (.t 26) .skip (.seq (.ops a134_16) (.cond (.t 26) .skip (.ops a134_17))))))) (.cond (.t 26) (.exit 4) .skip)) (.seq (.seq (.ops a134_18) (.cond (.t 31) .skip (.seq (.ops a134_19) (.cond (.t 31) .skip (.seq (.ops a134_20) (.cond (.t 31) .skip (.ops a134_21))))))) (.cond (.t 31) (.exit 5) .skip)))))) (.exit 0)))) (.seq (.seq (.ops a134_22) .ret) (.exit 0)))) (.seq (.seq (.ops a134_23) .ret) (.exit 0)))) (.seq (.seq (.ops a134_24) .ret) (.exit 0)))) (.seq (.seq (.ops a134_25) .ret) (.exit 0))))) (.seq (.ops a134_26) .ret))))⟩
def a145_0 : List AOper := [
 oP 2 (.mv (.c .nils))]
def a145_1 : List AOper := [
 mV 4 0,
 oP 5 (.call 64 [(.t 4), (.c (.str [40]))])]
def a145_2 : List AOper := [
 mV 6 0,
 oP 7 (.call 113 [(.t 6), (.c (.str [41]))])]
def a145_3 : List AOper := [
 oP 2 (.mv (.c .nils))]
def a145_4 : List AOper := [
 mV 8 0,
 oP 9 (.call 164 [(.t 8)]),
 mV 3 9]
def a145_5 : List AOper := [
 mV 10 0,
 oP 11 (.call 64 [(.t 10), (.c (.str [41]))])]
def a145_6 : List AOper := [
 mV 12 3,
 mV 2 12]
def a145 : AFunc := ⟨[.tmp 2], (.seq (.ops a145_0) (.seq (.ops a145_1) (.seq (.seq (.ops a145_2) (.cond (.t 7) (.seq (.ops a145_3) .ret) .skip)) (.seq (.ops a145_4) (.seq (.ops a145_5) (.seq (.ops a145_6) .ret))))))⟩
def a146_0 : List AOper := [
 oP 8 (.mv (.c (.int .i64 0)))]
def a146_1 : List AOper := [
 mV 10 3,
 oP 11 (.lit true 1 1 [(.int .i64 0)] [(0, 1, (.t 10))]),
 mV 9 11]
def a146_2 : List AOper := [
 mV 12 0,
 oP 13 (.call 113 [(.t 12), (.c (.str [119, 104, 101, 110]))])]
def a146_3 : List AOper := [
 mV 14 9,
 mV 15 0,
 oP 16 (.call 165 [(.t 15)]),
 oP 17 (.lit true 1 1 [(.int .i64 0)] [(0, 1, (.t 16))]),
 oP 18 (.append 1 8 (.t 14) (.t 17)),
 mV 9 18]
def a146_4 : List AOper := [
 mV 19 0,
 oP 20 (.call 64 [(.t 19), (.c (.str [45, 62]))])]
def a146_5 : List AOper := [
 mV 21 0,
 mV 22 1,
 mV 23 2,
 mV 24 9,
 mV 25 0,
 oP 26 (.call 166 [(.t 25)]),
 oP 27 (.lit true 1 1 [(.int .i64 0)] [(0, 1, (.t 26))]),
 oP 28 (.append 1 8 (.t 24) (.t 27)),
 oP 29 (.call 35 [(.t 21), (.c (.int .i64 20)), (.t 22), (.t 23), (.t 28)]),
 mV 8 29]
def a146 : AFunc := ⟨[.tmp 8], (.seq (.ops a146_0) (.seq (.ops a146_1) (.seq (.seq (.ops a146_2) (.cond (.t 13) (.ops a146_3) .skip)) (.seq (.ops a146_4) (.seq (.ops a146_5) .ret)))))⟩
def a147_0 : List AOper := [
 oP 2 (.mv (.c (.bool false)))]
def a147_1 : List AOper := [
 mV 3 0,
 oP 4 (.call 121 [(.t 3)]),
 mV 5 4,
 oG 6 (.mv (.t 0)) 5 false,
 oG 7 (.call 122 [(.t 6)]) 5 false,
 oP 8 (.pick (.t 5) (.c (.bool true)) (.t 7)),
 mV 9 8,
 oG 10 (.mv (.t 0)) 9 false,
 oG 11 (.call 125 [(.t 10)]) 9 false,
 oP 12 (.pick (.t 9) (.c (.bool true)) (.t 11)),
 mV 13 12,
 oG 14 (.mv (.t 0)) 13 false,
 oG 15 (.bin .eql (.t 14) (.c (.int .u8 95))) 13 false,
 oP 16 (.pick (.t 13) (.c (.bool true)) (.t 15)),
 mV 17 16,
 oG 18 (.mv (.t 0)) 17 false,
 oG 19 (.bin .eql (.t 18) (.c (.int .u8 64))) 17 false,
 oP 20 (.pick (.t 17) (.c (.bool true)) (.t 19)),
 mV 2 20]
def a147 : AFunc := ⟨[.tmp 2], (.seq (.ops a147_0) (.seq (.ops a147_1) .ret))⟩
def a148_0 : List AOper := [
 oP 2 (.mv (.c (.bool false)))]
def a148_1 : List AOper := [
 mV 3 0,
 oP 4 (.bin .neq (.t 3) (.c (.str []))),
 mV 5 4,
 oG 6 (.mv (.t 0)) 5 true,
 oG 7 (.bin .add (.c (.str [32])) (.t 6)) 5 true,
 oG 8 (.bin .add (.t 7) (.c (.str [32]))) 5 true,
 oG 9 (.call 167 [(.c (.str [32, 97, 102, 116, 101, 114, 32, 97, 110, 100, 32, 97, 110, 100, 97, 108, 115, 111, 32, 98, 101, 103, 105, 110, 32, 99, 97, 115, 101, 32, 99, 97, 116, 99, 104, 32, 100, 105, 118, 32, 101, 110, 100, 32, 102, 117, 110, 32, 105, 102, 32, 110, 111, 116, 32, 111, 102, 32, 111, 114, 32, 111, 114, 101, 108, 115, 101, 32, 114, 101, 99, 101, 105, 118, 101, 32, 114, 101, 109, 32, 116, 114, 121, 32, 119, 104, 101, 110, 32, 120, 111, 114, 32])), (.t 8)]) 5 true,
 oP 10 (.pick (.t 5) (.t 9) (.c (.bool false))),
 mV 2 10]
def a148 : AFunc := ⟨[.tmp 2], (.seq (.ops a148_0) (.seq (.ops a148_1) .ret))⟩
def a149_0 : List AOper := [
 oP 4 (.mv (.c (.str []))),
 oP 5 (.mv (.c (.int .i64 0))),
 oP 6 (.mv (.c .nili))]
def a149_1 : List AOper := [
 mV 9 1,
 oP 10 (.bin .lss (.t 9) (.c (.int .i64 0))),
 mV 11 10,
 oG 12 (.mv (.t 1)) 11 false,
 oG 13 (.mv (.t 0)) 11 false,
 oG 14 (.len true (.t 13)) 11 false,
 oG 15 (.bin .gtr (.t 12) (.t 14)) 11 false,
 oP 16 (.pick (.t 11) (.c (.bool true)) (.t 15))]
def a149_2 : List AOper := [
 oP 17 (.call 160 [(.c (.int .i64 0)), (.c (.int .i64 2))]),
 oP 4 (.mv (.c (.str []))),
 oP 5 (.mv (.c (.int .i64 0))),
 mV 6 17]
def a149_3 : List AOper := [
 mV 18 1,
 mV 19 0,
 oP 20 (.len true (.t 19)),
 oP 21 (.bin .lss (.t 18) (.t 20)),
 mV 22 21,
 oG 23 (.mv (.t 0)) 22 true,
 oG 24 (.mv (.t 1)) 22 true,
 oG 25 (.idxStr (.t 23) (.t 24)) 22 true,
 oG 26 (.bin .eql (.t 25) (.c (.int .u8 39))) 22 true,
 oP 27 (.pick (.t 22) (.t 26) (.c (.bool false)))]
def a149_4 : List AOper := [
 mV 28 0,
 mV 29 1,
 oP 30 (.call 168 [(.t 28), (.t 29)]),
 oP 31 (.extract (.t 30) 0),
 oP 32 (.extract (.t 30) 1),
 oP 33 (.extract (.t 30) 2),
 mV 4 31,
 mV 5 32,
 mV 6 33]
def a149_5 : List AOper := [
 mV 34 1,
 mV 35 0,
 oP 36 (.len true (.t 35)),
 oP 37 (.bin .eql (.t 34) (.t 36)),
 mV 38 37,
 oG 39 (.mv (.t 0)) 38 false,
 oG 40 (.mv (.t 1)) 38 false,
 oG 41 (.idxStr (.t 39) (.t 40)) 38 false,
 oG 42 (.call 169 [(.t 41)]) 38 false,
 oG 43 (.bin .neq (.t 42) (.c (.int .i64 1))) 38 false,
 oP 44 (.pick (.t 38) (.c (.bool true)) (.t 43))]
def a149_6 : List AOper := [
 mV 45 1,
 oP 46 (.call 160 [(.t 45), (.c (.int .i64 20))]),
 oP 4 (.mv (.c (.str []))),
 oP 5 (.mv (.c (.int .i64 0))),
 mV 6 46]
def a149_7 : List AOper := [
 mV 47 0,
 mV 48 1,
 oP 49 (.call 170 [(.t 47), (.t 48)]),
 mV 7 49]
def a149_8 : List AOper := [
 mV 50 0,
 mV 51 1,
 mV 52 7,
 oP 53 (.sliceStr (.t 50) (some (.t 51)) (some (.t 52))),
 mV 8 53]
def a149_9 : List AOper := [
 mV 57 8,
 oP 58 (.len true (.t 57)),
 oP 59 (.bin .gtr (.t 58) (.c (.int .i64 255))),
 mV 56 59]
def a149_10 : List AOper := [
 mV 60 1,
 oP 61 (.call 160 [(.t 60), (.c (.int .i64 4))]),
 oP 4 (.mv (.c (.str []))),
 oP 5 (.mv (.c (.int .i64 0))),
 mV 6 61]
def a149_11 : List AOper := [
 mV 63 8,
 oP 64 (.call 171 [(.t 63)]),
 mV 62 64]
def a149_12 : List AOper := [
 mV 65 1,
 oP 66 (.call 160 [(.t 65), (.c (.int .i64 20))]),
 oP 4 (.mv (.c (.str []))),
 oP 5 (.mv (.c (.int .i64 0))),
 mV 6 66]
def a149_13 : List AOper := [
 mV 54 8,
 mV 55 7,
 mV 4 54,
 mV 5 55,
 oP 6 (.mv (.c .nili))]
def a149 : AFunc := ⟨[.tmp 4, .tmp 5, .tmp 6], (.seq (.ops a149_0) (.seq (.seq (.ops a149_1) (.cond (.t 16) (.seq (.ops a149_2) .ret) .skip)) (.seq (.seq (.ops a149_3) (.cond (.t 27) (.seq (.ops a149_4) .ret) .skip)) (.seq (.seq (.ops a149_5) (.cond (.t 44) (.seq (.ops a149_6) .ret) .skip)) (.seq (.ops a149_7) (.seq (.ops a149_8) (.block 0 (.seq (.ops a149_9) (.cond (.t 56) (.seq (.ops a149_10) .ret) (.seq (.ops a149_11) (.cond (.t 62) (.seq (.ops a149_12) .ret) (.seq (.ops a149_13) .ret))))))))))))⟩
def a152_0 : List AOper := [
 oP 6 (.mv (.c (.int .i64 0))),
 oP 7 (.mv (.c .nili))]
def a152_1 : List AOper := [
 mV 10 0,
 mV 11 1,
 mV 12 2,
 oP 13 (.call 174 [(.t 10), (.t 11), (.t 12)]),
 mV 9 13,
 oP 14 (.extract (.t 9) 0),
 oP 15 (.extract (.t 9) 1),
 mV 8 14,
 mV 7 15]
def a152_2 : List AOper := [
 mV 16 7,
 oP 17 (.eq true (.iface true) (.t 16) (.c .nili))]
def a152_3 : List AOper := [
 mV 18 8,
 mV 19 0,
 mV 20 1,
 mV 21 2,
 mV 22 7,
 oP 23 (.call 173 [(.c (.str [80, 97, 114, 115, 101, 73, 110, 116])), (.t 19), (.t 20), (.t 21), (.t 22)]),
 mV 6 18,
 mV 7 23]
def a152_4 : List AOper := [
 mV 24 8,
 mV 6 24,
 oP 7 (.mv (.c .nili))]
def a152 : AFunc := ⟨[.tmp 6, .tmp 7], (.seq (.ops a152_0) (.seq (.ops a152_1) (.seq (.seq (.ops a152_2) (.cond (.t 17) (.seq (.ops a152_3) .ret) .skip)) (.seq (.ops a152_4) .ret))))⟩
def a154_0 : List AOper := [
 oP 4 (.mv (.c (.bool false)))]
def a154_1 : List AOper := [
 mV 5 0,
 oP 6 (.len true (.t 5)),
 mV 7 1,
 oP 8 (.len true (.t 7)),
 oP 9 (.bin .geq (.t 6) (.t 8)),
 mV 10 9,
 oG 11 (.mv (.t 0)) 10 true,
 oG 12 (.mv (.t 1)) 10 true,
 oG 13 (.len true (.t 12)) 10 true,
 oG 14 (.sliceStr (.t 11) none (some (.t 13))) 10 true,
 oG 15 (.mv (.t 1)) 10 true,
 oG 16 (.bin .eql (.t 14) (.t 15)) 10 true,
 oP 17 (.pick (.t 10) (.t 16) (.c (.bool false))),
 mV 4 17]
def a154 : AFunc := ⟨[.tmp 4], (.seq (.ops a154_0) (.seq (.ops a154_1) .ret))⟩
def a164_0 : List AOper := [
 oP 2 (.mv (.c .nils))]
def a164_1 : List AOper := [
 mV 4 0,
 oP 5 (.call 182 [(.t 4)]),
 oP 6 (.lit true 1 1 [(.int .i64 0)] [(0, 1, (.t 5))]),
 mV 3 6]
def a164_2 : List AOper := [
 mV 7 0,
 oP 8 (.call 113 [(.t 7), (.c (.str [44]))])]
def a164_3 : List AOper := [
 mV 9 3,
 mV 10 0,
 oP 11 (.call 182 [(.t 10)]),
 oP 12 (.lit true 1 1 [(.int .i64 0)] [(0, 1, (.t 11))]),
 oP 13 (.append 1 8 (.t 9) (.t 12)),
 mV 3 13]
def a164_l4 : AC := (.seq (.seq (.ops a164_2) (.cond (.t 8) .skip (.exit 0))) (.block 1 (.ops a164_3)))
def a164_5 : List AOper := [
 mV 14 3,
 mV 2 14]
def a164 : AFunc := ⟨[.tmp 2], (.seq (.ops a164_0) (.seq (.ops a164_1) (.seq (.block 0 (.loop a164_l4)) (.seq (.ops a164_5) .ret))))⟩
def a166_0 : List AOper := [
 oP 2 (.mv (.c (.int .i64 0)))]
def a166_1 : List AOper := [
 mV 4 0,
 oP 5 (.call 33 [(.t 4), (.c (.int .i64 0))]),
 oP 6 (.field false 1 3 (.t 5)),
 mV 3 6]
def a166_2 : List AOper := [
 mV 7 0,
 mV 8 3,
 mV 9 0,
 oP 10 (.call 164 [(.t 9)]),
 oP 11 (.call 35 [(.t 7), (.c (.int .i64 23)), (.t 8), (.c (.str [])), (.t 10)]),
 mV 2 11]
def a166 : AFunc := ⟨[.tmp 2], (.seq (.ops a166_0) (.seq (.ops a166_1) (.seq (.ops a166_2) .ret)))⟩
def a167_0 : List AOper := [
 oP 4 (.mv (.c (.bool false)))]
def a167_1 : List AOper := [
 mV 5 0,
 mV 6 1,
 oP 7 (.call 184 [(.t 5), (.t 6)]),
 oP 8 (.bin .geq (.t 7) (.c (.int .i64 0))),
 mV 4 8]
def a167 : AFunc := ⟨[.tmp 4], (.seq (.ops a167_0) (.seq (.ops a167_1) .ret))⟩
def a169_0 : List AOper := [
 oP 2 (.mv (.c (.int .i64 0)))]
def a169_1 : List AOper := [
 mV 4 0,
 oP 5 (.bin .geq (.t 4) (.c (.int .u8 97))),
 mV 6 5,
 oG 7 (.mv (.t 0)) 6 true,
 oG 8 (.bin .leq (.t 7) (.c (.int .u8 122))) 6 true,
 oP 9 (.pick (.t 6) (.t 8) (.c (.bool false))),
 mV 3 9]
def a169_2 : List AOper := [
 oP 2 (.mv (.c (.int .i64 1)))]
def a169_3 : List AOper := [
 mV 11 0,
 oP 12 (.bin .geq (.t 11) (.c (.int .u8 65))),
 mV 13 12,
 oG 14 (.mv (.t 0)) 13 true,
 oG 15 (.bin .leq (.t 14) (.c (.int .u8 90))) 13 true,
 oP 16 (.pick (.t 13) (.t 15) (.c (.bool false))),
 mV 10 16]
def a169_4 : List AOper := [
 oP 2 (.mv (.c (.int .i64 2)))]
def a169_5 : List AOper := [
 mV 18 0,
 oP 19 (.bin .geq (.t 18) (.c (.int .u8 48))),
 mV 20 19,
 oG 21 (.mv (.t 0)) 20 true,
 oG 22 (.bin .leq (.t 21) (.c (.int .u8 57))) 20 true,
 oP 23 (.pick (.t 20) (.t 22) (.c (.bool false))),
 mV 17 23]
def a169_6 : List AOper := [
 oP 2 (.mv (.c (.int .i64 3)))]
def a169_7 : List AOper := [
 mV 25 0,
 oP 26 (.bin .eql (.t 25) (.c (.int .u8 95))),
 mV 27 26,
 oG 28 (.mv (.t 0)) 27 false,
 oG 29 (.bin .eql (.t 28) (.c (.int .u8 64))) 27 false,
 oP 30 (.pick (.t 27) (.c (.bool true)) (.t 29)),
 mV 24 30]
def a169_8 : List AOper := [
 oP 2 (.mv (.c (.int .i64 4)))]
def a169_9 : List AOper := [
 oP 2 (.mv (.c (.int .i64 0)))]
def a169 : AFunc := ⟨[.tmp 2], (.seq (.ops a169_0) (.seq (.block 0 (.seq (.ops a169_1) (.cond (.t 3) (.seq (.ops a169_2) .ret) (.seq (.ops a169_3) (.cond (.t 10) (.seq (.ops a169_4) .ret) (.seq (.ops a169_5) (.cond (.t 17) (.seq (.ops a169_6) .ret) (.seq (.ops a169_7) (.cond (.t 24) (.seq (.ops a169_8) .ret) .skip))))))))) (.seq (.ops a169_9) .ret)))⟩
def a170_0 : List AOper := [
 oP 4 (.mv (.c (.int .i64 0)))]
def a170_1 : List AOper := [
 mV 5 1,
 mV 6 0,
 oP 7 (.len true (.t 6)),
 oP 8 (.bin .lss (.t 5) (.t 7)),
 mV 9 8,
 oG 10 (.mv (.t 0)) 9 true,
 oG 11 (.mv (.t 1)) 9 true,
 oG 12 (.idxStr (.t 10) (.t 11)) 9 true,
 oG 13 (.call 169 [(.t 12)]) 9 true,
 oG 14 (.bin .neq (.t 13) (.c (.int .i64 0))) 9 true,
 oP 15 (.pick (.t 9) (.t 14) (.c (.bool false)))]
def a170_2 : List AOper := [
 mV 16 1,
 oP 17 (.bin .add (.t 16) (.c (.int .i64 1))),
 mV 1 17]
def a170_l3 : AC := (.seq (.seq (.ops a170_1) (.cond (.t 15) .skip (.exit 0))) (.block 1 (.ops a170_2)))
def a170_4 : List AOper := [
 mV 18 1,
 mV 4 18]
def a170 : AFunc := ⟨[.tmp 4], (.seq (.ops a170_0) (.seq (.block 0 (.loop a170_l3)) (.seq (.ops a170_4) .ret)))⟩
def a171_0 : List AOper := [
 oP 2 (.mv (.c (.bool false)))]
def a171_1 : List AOper := [
 mV 3 0]
def a171_2 : List AOper := [
 oP 5 (.bin .eql (.t 3) (.c (.str [97, 102, 116, 101, 114]))),
 mV 4 5]
def a171_3 : List AOper := [
 oP 6 (.bin .eql (.t 3) (.c (.str [97, 110, 100]))),
 mV 4 6]
def a171_4 : List AOper := [
 oP 7 (.bin .eql (.t 3) (.c (.str [97, 110, 100, 97, 108, 115, 111]))),
 mV 4 7]
def a171_5 : List AOper := [
 oP 8 (.bin .eql (.t 3) (.c (.str [98, 101, 103, 105, 110]))),
 mV 4 8]
def a171_6 : List AOper := [
 oP 9 (.bin .eql (.t 3) (.c (.str [99, 97, 115, 101]))),
 mV 4 9]
def a171_7 : List AOper := [
 oP 10 (.bin .eql (.t 3) (.c (.str [99, 97, 116, 99, 104]))),
 mV 4 10]
def a171_8 : List AOper := [
 oP 11 (.bin .eql (.t 3) (.c (.str [100, 105, 118]))),
 mV 4 11]
def a171_9 : List AOper := [
 oP 12 (.bin .eql (.t 3) (.c (.str [101, 110, 100]))),
 mV 4 12]
def a171_10 : List AOper := [
 oP 13 (.bin .eql (.t 3) (.c (.str [102, 117, 110]))),
 mV 4 13]
def a171_11 : List AOper := [
 oP 14 (.bin .eql (.t 3) (.c (.str [105, 102]))),
 mV 4 14]
def a171_12 : List AOper := [
 oP 16 (.bin .eql (.t 3) (.c (.str [110, 111, 116]))),
 mV 15 16]
def a171_13 : List AOper := [
 oP 17 (.bin .eql (.t 3) (.c (.str [111, 102]))),
 mV 15 17]
def a171_14 : List AOper := [
 oP 18 (.bin .eql (.t 3) (.c (.str [111, 114]))),
 mV 15 18]
def a171_15 : List AOper := [
 oP 19 (.bin .eql (.t 3) (.c (.str [111, 114, 101, 108, 115, 101]))),
 mV 15 19]
def a171_16 : List AOper := [
 oP 20 (.bin .eql (.t 3) (.c (.str [114, 101, 99, 101, 105, 118, 101]))),
 mV 15 20]
def a171_17 : List AOper := [
 oP 21 (.bin .eql (.t 3) (.c (.str [114, 101, 109]))),
 mV 15 21]
def a171_18 : List AOper := [
 oP 22 (.bin .eql (.t 3) (.c (.str [116, 114, 121]))),
 mV 15 22]
def a171_19 : List AOper := [
 oP 23 (.bin .eql (.t 3) (.c (.str [119, 104, 101, 110]))),
 mV 15 23]
def a171_20 : List AOper := [
 oP 24 (.bin .eql (.t 3) (.c (.str [120, 111, 114]))),
 mV 15 24]
def a171_21 : List AOper := [
 oP 2 (.mv (.c (.bool true)))]
def a171_22 : List AOper := [
 oP 2 (.mv (.c (.bool false)))]
def a171 : AFunc := ⟨[.tmp 2], (.seq (.ops a171_0) (.seq (.seq (.ops a171_1) (.block 0 (.seq (.block 2 (.block 1 (.seq (.seq (.seq (.seq (.ops a171_2) (.cond (.t 4) .skip (.seq (.ops a171_3) (.cond (.t 4) .skip (.seq (.ops a171_4) (.cond (.t 4) .skip (.seq (.ops a171_5) (.cond (.t 4) .skip (.seq (.ops a171_6) (.cond (.t 4) .skip (.seq (.ops a171_7) (.cond (.t 4) .skip (.seq (.ops a171_8) (.cond (.t 4) .skip (.seq (.ops a171_9) (.cond (.t 4) .skip (.seq (.ops a171_10) (.cond (.t 4) .skip (.ops a171_11))))))))))))))))))) (.cond (.t 4) (.exit 1) .skip)) (.seq (.seq (.ops a171_12) (.cond (.t 15) .skip (.seq (.ops a171_13) (.cond (.t 15) .skip (.seq (.ops a171_14) (.cond (.t 15) .skip (.seq (.ops a171_15) (.cond (.t 15) .skip (.seq (.ops a171_16) (.cond (.t 15) .skip (.seq (.ops a171_17) (.cond (.t 15) .skip (.seq (.ops a171_18) (.cond (.t 15) .skip (.seq (.ops a171_19) (.cond (.t 15) .skip (.ops a171_20))))))))))))))))) (.cond (.t 15) (.exit 2) .skip))) (.exit 0)))) (.seq (.seq (.ops a171_21) .ret) (.exit 0))))) (.seq (.ops a171_22) .ret)))⟩
def a174_0 : List AOper := [
 oP 6 (.mv (.c (.int .i64 0))),
 oP 7 (.mv (.c .nili))]
def a174_1 : List AOper := [
 mV 12 0,
 oP 13 (.bin .eql (.t 12) (.c (.str [])))]
def a174_2 : List AOper := [
 oP 14 (.mkIface 201 (.c (.int .i64 2))),
 oP 6 (.mv (.c (.int .i64 0))),
 mV 7 14]
def a174_3 : List AOper := [
 oP 8 (.mv (.c (.bool false)))]
def a174_4 : List AOper := [
 mV 15 0,
 oP 16 (.idxStr (.t 15) (.c (.int .i64 0)))]
def a174_5 : List AOper := [
 oP 18 (.bin .eql (.t 16) (.c (.int .u8 43))),
 mV 17 18]
def a174_6 : List AOper := [
 mV 19 0,
 oP 20 (.sliceStr (.t 19) (some (.c (.int .i64 1))) none),
 mV 0 20]
def a174_7 : List AOper := [
 oP 22 (.bin .eql (.t 16) (.c (.int .u8 45))),
 mV 21 22]
def a174_8 : List AOper := [
 mV 23 0,
 oP 24 (.sliceStr (.t 23) (some (.c (.int .i64 1))) none),
 mV 0 24]
def a174_9 : List AOper := [
 oP 8 (.mv (.c (.bool true)))]
def a174_10 : List AOper := [
 oP 9 (.mv (.c (.int .u64 0)))]
def a174_11 : List AOper := [
 mV 26 0,
 mV 27 1,
 mV 28 2,
 oP 29 (.call 190 [(.t 26), (.t 27), (.t 28)]),
 mV 25 29,
 oP 30 (.extract (.t 25) 0),
 oP 31 (.extract (.t 25) 1),
 mV 9 30,
 mV 7 31]
def a174_12 : List AOper := [
 mV 32 7,
 oP 33 (.eq true (.iface true) (.t 32) (.c .nili)),
 mV 34 33,
 oG 35 (.mv (.t 7)) 34 true,
 oG 36 (.mkIface 201 (.c (.int .i64 1))) 34 true,
 oG 37 (.eq true (.iface false) (.t 35) (.t 36)) 34 true,
 oP 38 (.pick (.t 34) (.t 37) (.c (.bool false)))]
def a174_13 : List AOper := [
 mV 39 7,
 oP 6 (.mv (.c (.int .i64 0))),
 mV 7 39]
def a174_14 : List AOper := [
 mV 40 2,
 oP 41 (.bin .eql (.t 40) (.c (.int .i64 0)))]
def a174_15 : List AOper := [
 oP 2 (.mv (.c (.int .i64 64)))]
def a174_16 : List AOper := [
 mV 42 2,
 oP 43 (.bin .sub (.t 42) (.c (.int .i64 1))),
 oP 44 (.conv (.int .u64) (.t 43)),
 oP 45 (.bin .shl (.c (.int .u64 1)) (.t 44)),
 mV 10 45]
def a174_17 : List AOper := [
 mV 46 8,
 oP 47 (.un .not (.t 46)),
 mV 48 47,
 oG 49 (.mv (.t 9)) 48 true,
 oG 50 (.mv (.t 10)) 48 true,
 oG 51 (.bin .geq (.t 49) (.t 50)) 48 true,
 oP 52 (.pick (.t 48) (.t 51) (.c (.bool false)))]
def a174_18 : List AOper := [
 mV 53 10,
 oP 54 (.bin .sub (.t 53) (.c (.int .u64 1))),
 oP 55 (.conv (.int .i64) (.t 54)),
 oP 56 (.mkIface 201 (.c (.int .i64 1))),
 mV 6 55,
 mV 7 56]
def a174_19 : List AOper := [
 mV 57 8,
 mV 58 57,
 oG 59 (.mv (.t 9)) 58 true,
 oG 60 (.mv (.t 10)) 58 true,
 oG 61 (.bin .gtr (.t 59) (.t 60)) 58 true,
 oP 62 (.pick (.t 58) (.t 61) (.c (.bool false)))]
def a174_20 : List AOper := [
 mV 63 10,
 oP 64 (.conv (.int .i64) (.t 63)),
 oP 65 (.un .neg (.t 64)),
 oP 66 (.mkIface 201 (.c (.int .i64 1))),
 mV 6 65,
 mV 7 66]
def a174_21 : List AOper := [
 mV 67 9,
 oP 68 (.conv (.int .i64) (.t 67)),
 mV 11 68]
def a174_22 : List AOper := [
 mV 69 8]
def a174_23 : List AOper := [
 mV 70 11,
 oP 71 (.un .neg (.t 70)),
 mV 11 71]
def a174_24 : List AOper := [
 mV 72 11,
 mV 6 72,
 oP 7 (.mv (.c .nili))]
def a174 : AFunc := ⟨[.tmp 6, .tmp 7], (.seq (.ops a174_0) (.seq (.seq (.ops a174_1) (.cond (.t 13) (.seq (.ops a174_2) .ret) .skip)) (.seq (.ops a174_3) (.seq (.seq (.ops a174_4) (.block 0 (.seq (.ops a174_5) (.cond (.t 17) (.ops a174_6) (.seq (.ops a174_7) (.cond (.t 21) (.seq (.ops a174_8) (.ops a174_9)) .skip)))))) (.seq (.ops a174_10) (.seq (.ops a174_11) (.seq (.seq (.ops a174_12) (.cond (.t 38) (.seq (.ops a174_13) .ret) .skip)) (.seq (.seq (.ops a174_14) (.cond (.t 41) (.ops a174_15) .skip)) (.seq (.ops a174_16) (.seq (.seq (.ops a174_17) (.cond (.t 52) (.seq (.ops a174_18) .ret) .skip)) (.seq (.seq (.ops a174_19) (.cond (.t 62) (.seq (.ops a174_20) .ret) .skip)) (.seq (.ops a174_21) (.seq (.seq (.ops a174_22) (.cond (.t 69) (.ops a174_23) .skip)) (.seq (.ops a174_24) .ret))))))))))))))⟩
def a182_0 : List AOper := [
 oP 2 (.mv (.c (.int .i64 0)))]
def a182_1 : List AOper := [
 mV 5 0,
 oP 6 (.call 195 [(.t 5)]),
 mV 3 6]
def a182_2 : List AOper := [
 mV 7 0,
 oP 8 (.call 33 [(.t 7), (.c (.int .i64 0))]),
 oP 4 (.alloc [(.int .i64 0), (.str []), (.int .i64 0), (.int .i64 0)]),
 oN (.store 4 (.t 4) (.t 8))]
def a182_3 : List AOper := [
 mV 10 0,
 oP 11 (.call 113 [(.t 10), (.c (.str [61]))]),
 mV 9 11]
def a182_4 : List AOper := [
 mV 12 0,
 oP 13 (.fieldAddr 3 (.t 4)),
 oP 14 (.load false 1 (.t 13)),
 mV 15 3,
 mV 16 0,
 oP 17 (.call 182 [(.t 16)]),
 oP 18 (.lit true 1 2 [(.int .i64 0), (.int .i64 0)] [(0, 1, (.t 15)), (1, 1, (.t 17))]),
 oP 19 (.call 35 [(.t 12), (.c (.int .i64 7)), (.t 14), (.c (.str [])), (.t 18)]),
 mV 2 19]
def a182_4b : List Nat := [0, 0, 2, 0, 0, 16, 56, 127, 255]
def a182_5 : List AOper := [
 mV 21 0,
 oP 22 (.call 113 [(.t 21), (.c (.str [33]))]),
 mV 20 22]
def a182_6 : List AOper := [
 mV 23 0,
 oP 24 (.fieldAddr 3 (.t 4)),
 oP 25 (.load false 1 (.t 24)),
 mV 26 3,
 mV 27 0,
 oP 28 (.call 182 [(.t 27)]),
 oP 29 (.lit true 1 2 [(.int .i64 0), (.int .i64 0)] [(0, 1, (.t 26)), (1, 1, (.t 28))]),
 oP 30 (.call 35 [(.t 23), (.c (.int .i64 11)), (.t 25), (.c (.str [])), (.t 29)]),
 mV 2 30]
def a182_6b : List Nat := [0, 0, 2, 0, 0, 16, 56, 127, 255]
def a182_7 : List AOper := [
 mV 31 3,
 mV 2 31]
def a182 : AFunc := ⟨[.tmp 2], (.seq (.ops a182_0) (.seq (.ops a182_1) (.seq (.ops a182_2) (.seq (.block 0 (.seq (.ops a182_3) (.cond (.t 9) (.seq (.draw a182_4 a182_4b) .ret) (.seq (.ops a182_5) (.cond (.t 20) (.seq (.draw a182_6 a182_6b) .ret) .skip))))) (.seq (.ops a182_7) .ret)))))⟩
def a184_0 : List AOper := [
 oP 4 (.mv (.c (.int .i64 0)))]
def a184_1 : List AOper := [
 mV 5 0,
 mV 6 1,
 oP 7 (.call 196 [(.t 5), (.t 6)]),
 mV 4 7]
def a184 : AFunc := ⟨[.tmp 4], (.seq (.ops a184_0) (.seq (.ops a184_1) .ret))⟩
def a190_0 : List AOper := [
 oP 6 (.mv (.c (.int .u64 0))),
 oP 7 (.mv (.c .nili))]
def a190_1 : List AOper := [
 mV 18 0,
 oP 19 (.bin .eql (.t 18) (.c (.str [])))]
def a190_2 : List AOper := [
 oP 20 (.mkIface 201 (.c (.int .i64 2))),
 oP 6 (.mv (.c (.int .u64 0))),
 mV 7 20]
def a190_3 : List AOper := [
 mV 21 1,
 oP 22 (.bin .eql (.t 21) (.c (.int .i64 0))),
 mV 8 22]
def a190_4 : List AOper := [
 mV 23 0,
 mV 9 23]
def a190_5 : List AOper := [
 mV 26 1,
 oP 27 (.bin .leq (.c (.int .i64 2)) (.t 26)),
 mV 28 27,
 oG 29 (.mv (.t 1)) 28 true,
 oG 30 (.bin .leq (.t 29) (.c (.int .i64 36))) 28 true,
 oP 31 (.pick (.t 28) (.t 30) (.c (.bool false))),
 mV 25 31]
def a190_6 : List AOper := [
 mV 33 1,
 oP 34 (.bin .eql (.t 33) (.c (.int .i64 0))),
 mV 32 34]
def a190_7 : List AOper := [
 oP 1 (.mv (.c (.int .i64 10)))]
def a190_8 : List AOper := [
 mV 35 0,
 oP 36 (.idxStr (.t 35) (.c (.int .i64 0))),
 oP 37 (.bin .eql (.t 36) (.c (.int .u8 48)))]
def a190_9 : List AOper := [
 mV 41 0,
 oP 42 (.len true (.t 41)),
 oP 43 (.bin .geq (.t 42) (.c (.int .i64 3))),
 mV 44 43,
 oG 45 (.mv (.t 0)) 44 true,
 oG 46 (.idxStr (.t 45) (.c (.int .i64 1))) 44 true,
 oG 47 (.call 201 [(.t 46)]) 44 true,
 oG 48 (.bin .eql (.t 47) (.c (.int .u8 98))) 44 true,
 oP 49 (.pick (.t 44) (.t 48) (.c (.bool false))),
 mV 40 49]
def a190_10 : List AOper := [
 oP 1 (.mv (.c (.int .i64 2)))]
def a190_11 : List AOper := [
 mV 50 0,
 oP 51 (.sliceStr (.t 50) (some (.c (.int .i64 2))) none),
 mV 0 51]
def a190_12 : List AOper := [
 mV 53 0,
 oP 54 (.len true (.t 53)),
 oP 55 (.bin .geq (.t 54) (.c (.int .i64 3))),
 mV 56 55,
 oG 57 (.mv (.t 0)) 56 true,
 oG 58 (.idxStr (.t 57) (.c (.int .i64 1))) 56 true,
 oG 59 (.call 201 [(.t 58)]) 56 true,
 oG 60 (.bin .eql (.t 59) (.c (.int .u8 111))) 56 true,
 oP 61 (.pick (.t 56) (.t 60) (.c (.bool false))),
 mV 52 61]
def a190_13 : List AOper := [
 oP 1 (.mv (.c (.int .i64 8)))]
def a190_14 : List AOper := [
 mV 62 0,
 oP 63 (.sliceStr (.t 62) (some (.c (.int .i64 2))) none),
 mV 0 63]
def a190_15 : List AOper := [
 mV 65 0,
 oP 66 (.len true (.t 65)),
 oP 67 (.bin .geq (.t 66) (.c (.int .i64 3))),
 mV 68 67,
 oG 69 (.mv (.t 0)) 68 true,
 oG 70 (.idxStr (.t 69) (.c (.int .i64 1))) 68 true,
 oG 71 (.call 201 [(.t 70)]) 68 true,
 oG 72 (.bin .eql (.t 71) (.c (.int .u8 120))) 68 true,
 oP 73 (.pick (.t 68) (.t 72) (.c (.bool false))),
 mV 64 73]
def a190_16 : List AOper := [
 oP 1 (.mv (.c (.int .i64 16)))]
def a190_17 : List AOper := [
 mV 74 0,
 oP 75 (.sliceStr (.t 74) (some (.c (.int .i64 2))) none),
 mV 0 75]
def a190_18 : List AOper := [
 oP 1 (.mv (.c (.int .i64 8)))]
def a190_19 : List AOper := [
 mV 38 0,
 oP 39 (.sliceStr (.t 38) (some (.c (.int .i64 1))) none),
 mV 0 39]
def a190_20 : List AOper := [
 oP 24 (.mkIface 201 (.c (.int .i64 3))),
 oP 6 (.mv (.c (.int .u64 0))),
 mV 7 24]
def a190_21 : List AOper := [
 mV 76 2,
 oP 77 (.bin .eql (.t 76) (.c (.int .i64 0)))]
def a190_22 : List AOper := [
 oP 2 (.mv (.c (.int .i64 64)))]
def a190_23 : List AOper := [
 mV 78 2,
 oP 79 (.bin .lss (.t 78) (.c (.int .i64 0))),
 mV 80 79,
 oG 81 (.mv (.t 2)) 80 false,
 oG 82 (.bin .gtr (.t 81) (.c (.int .i64 64))) 80 false,
 oP 83 (.pick (.t 80) (.c (.bool true)) (.t 82))]
def a190_24 : List AOper := [
 oP 84 (.mkIface 201 (.c (.int .i64 4))),
 oP 6 (.mv (.c (.int .u64 0))),
 mV 7 84]
def a190_25 : List AOper := [
 oP 10 (.mv (.c (.int .u64 0)))]
def a190_26 : List AOper := [
 mV 85 1]
def a190_27 : List AOper := [
 oP 91 (.bin .eql (.t 85) (.c (.int .i64 10))),
 mV 90 91]
def a190_28 : List AOper := [
 oP 10 (.mv (.c (.int .u64 1844674407370955162)))]
def a190_29 : List AOper := [
 oP 93 (.bin .eql (.t 85) (.c (.int .i64 16))),
 mV 92 93]
def a190_30 : List AOper := [
 oP 10 (.mv (.c (.int .u64 1152921504606846976)))]
def a190_31 : List AOper := [
 mV 86 1,
 oP 87 (.conv (.int .u64) (.t 86)),
 oP 88 (.bin .quo (.c (.int .u64 18446744073709551615)) (.t 87)),
 oP 89 (.bin .add (.t 88) (.c (.int .u64 1))),
 mV 10 89]
def a190_32 : List AOper := [
 mV 94 2,
 oP 95 (.conv (.int .u64) (.t 94)),
 oP 96 (.bin .shl (.c (.int .u64 1)) (.t 95)),
 oP 97 (.bin .sub (.t 96) (.c (.int .u64 1))),
 mV 11 97]
def a190_33 : List AOper := [
 oP 12 (.mv (.c (.bool false)))]
def a190_34 : List AOper := [
 oP 13 (.mv (.c (.int .u64 0)))]
def a190_35 : List AOper := [
 mV 98 0,
 oP 99 (.conv .s2b (.t 98)),
 oP 100 (.len false (.t 99)),
 oP 101 (.mv (.c (.int .i64 0)))]
def a190_36 : List AOper := [
 oP 102 (.bin .lss (.t 101) (.t 100))]
def a190_37 : List AOper := [
 oP 103 (.idxAddr 1 (.t 99) (.t 101)),
 oP 104 (.load false 1 (.t 103)),
 mV 15 104]
def a190_38 : List AOper := [
 oP 16 (.mv (.c (.int .u8 0)))]
def a190_39 : List AOper := [
 mV 107 15,
 oP 108 (.bin .eql (.t 107) (.c (.int .u8 95))),
 mV 109 108,
 oG 110 (.mv (.t 8)) 109 true,
 oP 111 (.pick (.t 109) (.t 110) (.c (.bool false))),
 mV 106 111]
def a190_40 : List AOper := [
 oP 12 (.mv (.c (.bool true)))]
def a190_41 : List AOper := [
 mV 113 15,
 oP 114 (.bin .leq (.c (.int .u8 48)) (.t 113)),
 mV 115 114,
 oG 116 (.mv (.t 15)) 115 true,
 oG 117 (.bin .leq (.t 116) (.c (.int .u8 57))) 115 true,
 oP 118 (.pick (.t 115) (.t 117) (.c (.bool false))),
 mV 112 118]
def a190_42 : List AOper := [
 mV 119 15,
 oP 120 (.bin .sub (.t 119) (.c (.int .u8 48))),
 mV 16 120]
def a190_43 : List AOper := [
 mV 122 15,
 oP 123 (.call 201 [(.t 122)]),
 oP 124 (.bin .leq (.c (.int .u8 97)) (.t 123)),
 mV 125 124,
 oG 126 (.mv (.t 15)) 125 true,
 oG 127 (.call 201 [(.t 126)]) 125 true,
 oG 128 (.bin .leq (.t 127) (.c (.int .u8 122))) 125 true,
 oP 129 (.pick (.t 125) (.t 128) (.c (.bool false))),
 mV 121 129]
def a190_44 : List AOper := [
 mV 130 15,
 oP 131 (.call 201 [(.t 130)]),
 oP 132 (.bin .sub (.t 131) (.c (.int .u8 97))),
 oP 133 (.bin .add (.t 132) (.c (.int .u8 10))),
 mV 16 133]
def a190_45 : List AOper := [
 oP 105 (.mkIface 201 (.c (.int .i64 2))),
 oP 6 (.mv (.c (.int .u64 0))),
 mV 7 105]
def a190_46 : List AOper := [
 mV 134 16,
 mV 135 1,
 oP 136 (.conv (.int .u8) (.t 135)),
 oP 137 (.bin .geq (.t 134) (.t 136))]
def a190_47 : List AOper := [
 oP 138 (.mkIface 201 (.c (.int .i64 2))),
 oP 6 (.mv (.c (.int .u64 0))),
 mV 7 138]
def a190_48 : List AOper := [
 mV 139 13,
 mV 140 10,
 oP 141 (.bin .geq (.t 139) (.t 140))]
def a190_49 : List AOper := [
 mV 142 11,
 oP 143 (.mkIface 201 (.c (.int .i64 1))),
 mV 6 142,
 mV 7 143]
def a190_50 : List AOper := [
 mV 144 13,
 mV 145 1,
 oP 146 (.conv (.int .u64) (.t 145)),
 oP 147 (.bin .mul (.t 144) (.t 146)),
 mV 13 147]
def a190_51 : List AOper := [
 mV 148 13,
 mV 149 16,
 oP 150 (.conv (.int .u64) (.t 149)),
 oP 151 (.bin .add (.t 148) (.t 150)),
 mV 17 151]
def a190_52 : List AOper := [
 mV 152 17,
 mV 153 13,
 oP 154 (.bin .lss (.t 152) (.t 153)),
 mV 155 154,
 oG 156 (.mv (.t 17)) 155 false,
 oG 157 (.mv (.t 11)) 155 false,
 oG 158 (.bin .gtr (.t 156) (.t 157)) 155 false,
 oP 159 (.pick (.t 155) (.c (.bool true)) (.t 158))]
def a190_53 : List AOper := [
 mV 160 11,
 oP 161 (.mkIface 201 (.c (.int .i64 1))),
 mV 6 160,
 mV 7 161]
def a190_54 : List AOper := [
 mV 162 17,
 mV 13 162]
def a190_55 : List AOper := [
 oP 163 (.bin .add (.t 101) (.c (.int .i64 1))),
 mV 101 163]
def a190_l56 : AC := (.seq (.ops a190_36) (.seq (.cond (.t 102) .skip (.exit 3)) (.seq (.block 4 (.seq (.ops a190_37) (.seq (.ops a190_38) (.seq (.block 5 (.seq (.ops a190_39) (.cond (.t 106) (.seq (.ops a190_40) (.exit 4)) (.seq (.ops a190_41) (.cond (.t 112) (.ops a190_42) (.seq (.ops a190_43) (.cond (.t 121) (.ops a190_44) (.seq (.ops a190_45) .ret)))))))) (.seq (.seq (.ops a190_46) (.cond (.t 137) (.seq (.ops a190_47) .ret) .skip)) (.seq (.seq (.ops a190_48) (.cond (.t 141) (.seq (.ops a190_49) .ret) .skip)) (.seq (.ops a190_50) (.seq (.ops a190_51) (.seq (.seq (.ops a190_52) (.cond (.t 159) (.seq (.ops a190_53) .ret) .skip)) (.ops a190_54)))))))))) (.ops a190_55))))
def a190_57 : List AOper := [
 mV 164 12,
 mV 165 164,
 oG 166 (.mv (.t 9)) 165 true,
 oG 167 (.call 202 [(.t 166)]) 165 true,
 oG 168 (.un .not (.t 167)) 165 true,
 oP 169 (.pick (.t 165) (.t 168) (.c (.bool false)))]
def a190_58 : List AOper := [
 oP 170 (.mkIface 201 (.c (.int .i64 2))),
 oP 6 (.mv (.c (.int .u64 0))),
 mV 7 170]
def a190_59 : List AOper := [
 mV 171 13,
 mV 6 171,
 oP 7 (.mv (.c .nili))]
def a190 : AFunc := ⟨[.tmp 6, .tmp 7], (.seq (.ops a190_0) (.seq (.seq (.ops a190_1) (.cond (.t 19) (.seq (.ops a190_2) .ret) .skip)) (.seq (.ops a190_3) (.seq (.ops a190_4) (.seq (.block 0 (.seq (.ops a190_5) (.cond (.t 25) .skip (.seq (.ops a190_6) (.cond (.t 32) (.seq (.ops a190_7) (.seq (.ops a190_8) (.cond (.t 37) (.block 1 (.seq (.ops a190_9) (.cond (.t 40) (.seq (.ops a190_10) (.ops a190_11)) (.seq (.ops a190_12) (.cond (.t 52) (.seq (.ops a190_13) (.ops a190_14)) (.seq (.ops a190_15) (.cond (.t 64) (.seq (.ops a190_16) (.ops a190_17)) (.seq (.ops a190_18) (.ops a190_19))))))))) .skip))) (.seq (.ops a190_20) .ret)))))) (.seq (.seq (.ops a190_21) (.cond (.t 77) (.ops a190_22) (.seq (.ops a190_23) (.cond (.t 83) (.seq (.ops a190_24) .ret) .skip)))) (.seq (.ops a190_25) (.seq (.seq (.ops a190_26) (.block 2 (.seq (.ops a190_27) (.cond (.t 90) (.ops a190_28) (.seq (.ops a190_29) (.cond (.t 92) (.ops a190_30) (.ops a190_31))))))) (.seq (.ops a190_32) (.seq (.ops a190_33) (.seq (.ops a190_34) (.seq (.seq (.ops a190_35) (.block 3 (.loop a190_l56))) (.seq (.seq (.ops a190_57) (.cond (.t 169) (.seq (.ops a190_58) .ret) .skip)) (.seq (.ops a190_59) .ret))))))))))))))⟩
def a195_0 : List AOper := [
 oP 2 (.mv (.c (.int .i64 0)))]
def a195_1 : List AOper := [
 mV 5 0,
 oP 6 (.call 209 [(.t 5)]),
 mV 3 6]
def a195_2 : List AOper := [
 mV 7 0,
 oP 8 (.call 33 [(.t 7), (.c (.int .i64 0))]),
 oP 4 (.alloc [(.int .i64 0), (.str []), (.int .i64 0), (.int .i64 0)]),
 oN (.store 4 (.t 4) (.t 8))]
def a195_3 : List AOper := [
 mV 9 0,
 oP 10 (.call 113 [(.t 9), (.c (.str [111, 114, 101, 108, 115, 101]))])]
def a195_4 : List AOper := [
 mV 11 0,
 oP 12 (.fieldAddr 3 (.t 4)),
 oP 13 (.load false 1 (.t 12)),
 mV 14 3,
 mV 15 0,
 oP 16 (.call 195 [(.t 15)]),
 oP 17 (.lit true 1 2 [(.int .i64 0), (.int .i64 0)] [(0, 1, (.t 14)), (1, 1, (.t 16))]),
 oP 18 (.call 35 [(.t 11), (.c (.int .i64 17)), (.t 13), (.c (.str [])), (.t 17)]),
 mV 2 18]
def a195_4b : List Nat := [0, 0, 2, 0, 0, 16, 56, 127, 255]
def a195_5 : List AOper := [
 mV 19 3,
 mV 2 19]
def a195 : AFunc := ⟨[.tmp 2], (.seq (.ops a195_0) (.seq (.ops a195_1) (.seq (.ops a195_2) (.seq (.seq (.ops a195_3) (.cond (.t 10) (.seq (.draw a195_4 a195_4b) .ret) .skip)) (.seq (.ops a195_5) .ret)))))⟩
def a209_0 : List AOper := [
 oP 2 (.mv (.c (.int .i64 0)))]
def a209_1 : List AOper := [
 mV 5 0,
 oP 6 (.call 216 [(.t 5)]),
 mV 3 6]
def a209_2 : List AOper := [
 mV 7 0,
 oP 8 (.call 33 [(.t 7), (.c (.int .i64 0))]),
 oP 4 (.alloc [(.int .i64 0), (.str []), (.int .i64 0), (.int .i64 0)]),
 oN (.store 4 (.t 4) (.t 8))]
def a209_3 : List AOper := [
 mV 9 0,
 oP 10 (.call 113 [(.t 9), (.c (.str [97, 110, 100, 97, 108, 115, 111]))])]
def a209_4 : List AOper := [
 mV 11 0,
 oP 12 (.fieldAddr 3 (.t 4)),
 oP 13 (.load false 1 (.t 12)),
 mV 14 3,
 mV 15 0,
 oP 16 (.call 209 [(.t 15)]),
 oP 17 (.lit true 1 2 [(.int .i64 0), (.int .i64 0)] [(0, 1, (.t 14)), (1, 1, (.t 16))]),
 oP 18 (.call 35 [(.t 11), (.c (.int .i64 16)), (.t 13), (.c (.str [])), (.t 17)]),
 mV 2 18]
def a209_4b : List Nat := [0, 0, 2, 0, 0, 16, 56, 127, 255]
def a209_5 : List AOper := [
 mV 19 3,
 mV 2 19]
def a209 : AFunc := ⟨[.tmp 2], (.seq (.ops a209_0) (.seq (.ops a209_1) (.seq (.ops a209_2) (.seq (.seq (.ops a209_3) (.cond (.t 10) (.seq (.draw a209_4 a209_4b) .ret) .skip)) (.seq (.ops a209_5) .ret)))))⟩
def a216_0 : List AOper := [
 oP 2 (.mv (.c (.int .i64 0)))]
def a216_1 : List AOper := [
 mV 6 0,
 oP 7 (.call 220 [(.t 6)]),
 mV 3 7]
def a216_2 : List AOper := [
 mV 9 0,
 oP 10 (.call 221 [(.t 9), (.c (.int .i64 1))]),
 mV 8 10,
 oP 11 (.extract (.t 8) 0),
 oP 12 (.extract (.t 8) 1),
 oP 4 (.alloc [(.int .i64 0), (.str []), (.int .i64 0), (.int .i64 0)]),
 oN (.store 4 (.t 4) (.t 11)),
 mV 5 12]
def a216_3 : List AOper := [
 mV 13 5]
def a216_4 : List AOper := [
 mV 14 0,
 oP 15 (.fieldAddr 3 (.t 4)),
 oP 16 (.load false 1 (.t 15)),
 oP 17 (.fieldAddr 1 (.t 4)),
 oP 18 (.load false 1 (.t 17)),
 mV 19 3,
 mV 20 0,
 oP 21 (.call 220 [(.t 20)]),
 oP 22 (.lit true 1 2 [(.int .i64 0), (.int .i64 0)] [(0, 1, (.t 19)), (1, 1, (.t 21))]),
 oP 23 (.call 35 [(.t 14), (.c (.int .i64 15)), (.t 16), (.t 18), (.t 22)]),
 mV 2 23]
def a216_4b : List Nat := [0, 0, 2, 0, 8, 0, 0, 64, 224, 511, 1023]
def a216_5 : List AOper := [
 mV 24 3,
 mV 2 24]
def a216 : AFunc := ⟨[.tmp 2], (.seq (.ops a216_0) (.seq (.ops a216_1) (.seq (.seq (.ops a216_2) (.seq (.ops a216_3) (.cond (.t 13) (.seq (.draw a216_4 a216_4b) .ret) .skip))) (.seq (.ops a216_5) .ret))))⟩
def a220_0 : List AOper := [
 oP 2 (.mv (.c (.int .i64 0)))]
def a220_1 : List AOper := [
 mV 6 0,
 oP 7 (.call 228 [(.t 6)]),
 mV 3 7]
def a220_2 : List AOper := [
 mV 9 0,
 oP 10 (.call 221 [(.t 9), (.c (.int .i64 2))]),
 mV 8 10,
 oP 11 (.extract (.t 8) 0),
 oP 12 (.extract (.t 8) 1),
 oP 4 (.alloc [(.int .i64 0), (.str []), (.int .i64 0), (.int .i64 0)]),
 oN (.store 4 (.t 4) (.t 11)),
 mV 5 12]
def a220_3 : List AOper := [
 mV 13 5]
def a220_4 : List AOper := [
 mV 14 0,
 oP 15 (.fieldAddr 3 (.t 4)),
 oP 16 (.load false 1 (.t 15)),
 oP 17 (.fieldAddr 1 (.t 4)),
 oP 18 (.load false 1 (.t 17)),
 mV 19 3,
 mV 20 0,
 oP 21 (.call 220 [(.t 20)]),
 oP 22 (.lit true 1 2 [(.int .i64 0), (.int .i64 0)] [(0, 1, (.t 19)), (1, 1, (.t 21))]),
 oP 23 (.call 35 [(.t 14), (.c (.int .i64 15)), (.t 16), (.t 18), (.t 22)]),
 mV 2 23]
def a220_4b : List Nat := [0, 0, 2, 0, 8, 0, 0, 64, 224, 511, 1023]
def a220_5 : List AOper := [
 mV 24 3,
 mV 2 24]
def a220 : AFunc := ⟨[.tmp 2], (.seq (.ops a220_0) (.seq (.ops a220_1) (.seq (.seq (.ops a220_2) (.seq (.ops a220_3) (.cond (.t 13) (.seq (.draw a220_4 a220_4b) .ret) .skip))) (.seq (.ops a220_5) .ret))))⟩
def a221_0 : List AOper := [
 oP 4 (.alloc [(.int .i64 0), (.str []), (.int .i64 0), (.int .i64 0)]),
 oP 5 (.mv (.c (.bool false)))]
def a221_1 : List AOper := [
 mV 7 0,
 oP 8 (.call 33 [(.t 7), (.c (.int .i64 0))]),
 oP 6 (.alloc [(.int .i64 0), (.str []), (.int .i64 0), (.int .i64 0)]),
 oN (.store 4 (.t 6) (.t 8))]
def a221_2 : List AOper := [
 oP 9 (.load true 4 (.t 6)),
 oP 10 (.call 134 [(.t 9)]),
 mV 11 1,
 oP 12 (.bin .neq (.t 10) (.t 11))]
def a221_3 : List AOper := [
 oP 13 (.load true 4 (.t 6)),
 oN (.store 4 (.t 4) (.t 13)),
 oP 5 (.mv (.c (.bool false)))]
def a221_4 : List AOper := [
 mV 14 0,
 oP 15 (.nilCheck (.t 14)),
 oP 16 (.fieldAddr 1 (.t 15)),
 oP 17 (.load false 1 (.t 16)),
 oP 18 (.bin .add (.t 17) (.c (.int .i64 1))),
 oP 19 (.nilCheck (.t 14)),
 oP 20 (.fieldAddr 1 (.t 19)),
 oN (.store 1 (.t 20) (.t 18))]
def a221_5 : List AOper := [
 oP 21 (.load true 4 (.t 6)),
 oN (.store 4 (.t 4) (.t 21)),
 oP 5 (.mv (.c (.bool true)))]
def a221 : AFunc := ⟨[.cell 4 true 4, .tmp 5], (.seq (.ops a221_0) (.seq (.ops a221_1) (.seq (.seq (.ops a221_2) (.cond (.t 12) (.seq (.ops a221_3) .ret) .skip)) (.seq (.ops a221_4) (.seq (.ops a221_5) .ret)))))⟩
def a228_0 : List AOper := [
 oP 2 (.mv (.c (.int .i64 0)))]
def a228_1 : List AOper := [
 mV 6 0,
 oP 7 (.call 235 [(.t 6)]),
 mV 3 7]
def a228_2 : List AOper := [
 mV 9 0,
 oP 10 (.call 221 [(.t 9), (.c (.int .i64 3))]),
 mV 8 10,
 oP 11 (.extract (.t 8) 0),
 oP 12 (.extract (.t 8) 1),
 oP 4 (.alloc [(.int .i64 0), (.str []), (.int .i64 0), (.int .i64 0)]),
 oN (.store 4 (.t 4) (.t 11)),
 mV 5 12]
def a228_3 : List AOper := [
 mV 13 5]
def a228_4 : List AOper := [
 mV 19 0,
 oP 20 (.fieldAddr 3 (.t 4)),
 oP 21 (.load false 1 (.t 20)),
 oP 22 (.fieldAddr 1 (.t 4)),
 oP 23 (.load false 1 (.t 22)),
 mV 24 3,
 mV 25 0,
 oP 26 (.call 235 [(.t 25)]),
 oP 27 (.lit true 1 2 [(.int .i64 0), (.int .i64 0)] [(0, 1, (.t 24)), (1, 1, (.t 26))]),
 oP 28 (.call 35 [(.t 19), (.c (.int .i64 15)), (.t 21), (.t 23), (.t 27)]),
 mV 3 28]
def a228_4b : List Nat := [0, 0, 2, 0, 8, 0, 0, 64, 224, 511, 1023]
def a228_5 : List AOper := [
 oP 29 (.load true 4 (.t 4))]
def a228_6 : List AOper := [
 oP 4 (.alloc [(.int .i64 0), (.str []), (.int .i64 0), (.int .i64 0)]),
 oN (.store 4 (.t 4) (.t 29))]
def a228_7 : List AOper := [
 mV 15 0,
 oP 16 (.call 221 [(.t 15), (.c (.int .i64 3))]),
 mV 14 16,
 oP 17 (.extract (.t 14) 0),
 oP 18 (.extract (.t 14) 1),
 oN (.store 4 (.t 4) (.t 17)),
 mV 5 18]
def a228_l8 : AC := (.seq (.seq (.ops a228_3) (.cond (.t 13) .skip (.exit 0))) (.seq (.block 1 (.draw a228_4 a228_4b)) (.seq (.seq (.ops a228_5) (.ops a228_6)) (.ops a228_7))))
def a228_9 : List AOper := [
 mV 30 3,
 mV 2 30]
def a228 : AFunc := ⟨[.tmp 2], (.seq (.ops a228_0) (.seq (.ops a228_1) (.seq (.seq (.ops a228_2) (.block 0 (.loop a228_l8))) (.seq (.ops a228_9) .ret))))⟩
def a235_0 : List AOper := [
 oP 2 (.mv (.c (.int .i64 0)))]
def a235_1 : List AOper := [
 mV 6 0,
 oP 7 (.call 239 [(.t 6)]),
 mV 3 7]
def a235_2 : List AOper := [
 mV 9 0,
 oP 10 (.call 221 [(.t 9), (.c (.int .i64 4))]),
 mV 8 10,
 oP 11 (.extract (.t 8) 0),
 oP 12 (.extract (.t 8) 1),
 oP 4 (.alloc [(.int .i64 0), (.str []), (.int .i64 0), (.int .i64 0)]),
 oN (.store 4 (.t 4) (.t 11)),
 mV 5 12]
def a235_3 : List AOper := [
 mV 13 5]
def a235_4 : List AOper := [
 mV 19 0,
 oP 20 (.fieldAddr 3 (.t 4)),
 oP 21 (.load false 1 (.t 20)),
 oP 22 (.fieldAddr 1 (.t 4)),
 oP 23 (.load false 1 (.t 22)),
 mV 24 3,
 mV 25 0,
 oP 26 (.call 239 [(.t 25)]),
 oP 27 (.lit true 1 2 [(.int .i64 0), (.int .i64 0)] [(0, 1, (.t 24)), (1, 1, (.t 26))]),
 oP 28 (.call 35 [(.t 19), (.c (.int .i64 15)), (.t 21), (.t 23), (.t 27)]),
 mV 3 28]
def a235_4b : List Nat := [0, 0, 2, 0, 8, 0, 0, 64, 224, 511, 1023]
def a235_5 : List AOper := [
 oP 29 (.load true 4 (.t 4))]
def a235_6 : List AOper := [
 oP 4 (.alloc [(.int .i64 0), (.str []), (.int .i64 0), (.int .i64 0)]),
 oN (.store 4 (.t 4) (.t 29))]
def a235_7 : List AOper := [
 mV 15 0,
 oP 16 (.call 221 [(.t 15), (.c (.int .i64 4))]),
 mV 14 16,
 oP 17 (.extract (.t 14) 0),
 oP 18 (.extract (.t 14) 1),
 oN (.store 4 (.t 4) (.t 17)),
 mV 5 18]
def a235_l8 : AC := (.seq (.seq (.ops a235_3) (.cond (.t 13) .skip (.exit 0))) (.seq (.block 1 (.draw a235_4 a235_4b)) (.seq (.seq (.ops a235_5) (.ops a235_6)) (.ops a235_7))))
def a235_9 : List AOper := [
 mV 30 3,
 mV 2 30]
def a235 : AFunc := ⟨[.tmp 2], (.seq (.ops a235_0) (.seq (.ops a235_1) (.seq (.seq (.ops a235_2) (.block 0 (.loop a235_l8))) (.seq (.ops a235_9) .ret))))⟩
def a239_0 : List AOper := [
 oP 2 (.mv (.c (.int .i64 0)))]
def a239_1 : List AOper := [
 mV 6 0,
 oP 7 (.call 33 [(.t 6), (.c (.int .i64 0))]),
 oP 3 (.alloc [(.int .i64 0), (.str []), (.int .i64 0), (.int .i64 0)]),
 oN (.store 4 (.t 3) (.t 7))]
def a239_2 : List AOper := [
 oP 8 (.lit true 1 3 [(.str []), (.str []), (.str [])] [(0, 1, (.c (.str [43]))), (1, 1, (.c (.str [45]))), (2, 1, (.c (.str [110, 111, 116])))]),
 oP 9 (.len false (.t 8)),
 oP 10 (.mv (.c (.int .i64 0)))]
def a239_3 : List AOper := [
 oP 11 (.bin .lss (.t 10) (.t 9))]
def a239_4 : List AOper := [
 oP 12 (.idxAddr 1 (.t 8) (.t 10)),
 oP 13 (.load false 1 (.t 12)),
 mV 5 13]
def a239_5 : List AOper := [
 mV 14 0,
 mV 15 5,
 oP 16 (.call 113 [(.t 14), (.t 15)])]
def a239_6 : List AOper := [
 mV 17 0,
 oP 18 (.fieldAddr 3 (.t 3)),
 oP 19 (.load false 1 (.t 18)),
 mV 20 5,
 mV 21 0,
 oP 22 (.call 239 [(.t 21)]),
 oP 23 (.lit true 1 1 [(.int .i64 0)] [(0, 1, (.t 22))]),
 oP 24 (.call 35 [(.t 17), (.c (.int .i64 14)), (.t 19), (.t 20), (.t 23)]),
 mV 2 24]
def a239_6b : List Nat := [0, 0, 2, 0, 0, 16, 48, 127, 255]
def a239_7 : List AOper := [
 oP 25 (.bin .add (.t 10) (.c (.int .i64 1))),
 mV 10 25]
def a239_l8 : AC := (.seq (.ops a239_3) (.seq (.cond (.t 11) .skip (.exit 0)) (.seq (.block 1 (.seq (.ops a239_4) (.seq (.ops a239_5) (.cond (.t 16) (.seq (.draw a239_6 a239_6b) .ret) .skip)))) (.ops a239_7))))
def a239_9 : List AOper := [
 mV 26 0,
 oP 27 (.load true 4 (.t 3)),
 oP 28 (.call 241 [(.t 26), (.t 27)]),
 mV 2 28]
def a239 : AFunc := ⟨[.tmp 2], (.seq (.ops a239_0) (.seq (.ops a239_1) (.seq (.seq (.ops a239_2) (.block 0 (.loop a239_l8))) (.seq (.ops a239_9) .ret))))⟩
def a241_0 : List AOper := [
 oP 3 (.box false 4 (.t 1)),
 oP 4 (.mv (.c (.int .i64 0)))]
def a241_1 : List AOper := [
 oP 9 (.fieldAddr 0 (.t 3)),
 oP 10 (.load false 1 (.t 9))]
def a241_2 : List AOper := [
 oP 12 (.bin .eql (.t 10) (.c (.int .i64 3))),
 mV 11 12]
def a241_3 : List AOper := [
 mV 13 0,
 oP 14 (.nilCheck (.t 13)),
 oP 15 (.fieldAddr 1 (.t 14)),
 oP 16 (.load false 1 (.t 15)),
 oP 17 (.bin .add (.t 16) (.c (.int .i64 1))),
 oP 18 (.nilCheck (.t 13)),
 oP 19 (.fieldAddr 1 (.t 18)),
 oN (.store 1 (.t 19) (.t 17))]
def a241_4 : List AOper := [
 mV 20 0,
 oP 21 (.fieldAddr 3 (.t 3)),
 oP 22 (.load false 1 (.t 21)),
 oP 23 (.fieldAddr 2 (.t 3)),
 oP 24 (.load false 1 (.t 23)),
 oP 25 (.build [(.int .i64 0), (.str []), (.str []), (.int .i64 0), .nils, (.int .i64 0)] [(0, 1, (.c (.int .i64 1))), (5, 1, (.t 22)), (3, 1, (.t 24))]),
 oP 26 (.call 71 [(.t 20), (.t 25)]),
 mV 4 26]
def a241_5 : List AOper := [
 oP 28 (.bin .eql (.t 10) (.c (.int .i64 2))),
 mV 27 28]
def a241_6 : List AOper := [
 mV 29 0,
 oP 30 (.nilCheck (.t 29)),
 oP 31 (.fieldAddr 1 (.t 30)),
 oP 32 (.load false 1 (.t 31)),
 oP 33 (.bin .add (.t 32) (.c (.int .i64 1))),
 oP 34 (.nilCheck (.t 29)),
 oP 35 (.fieldAddr 1 (.t 34)),
 oN (.store 1 (.t 35) (.t 33))]
def a241_7 : List AOper := [
 mV 36 0,
 oP 37 (.fieldAddr 3 (.t 3)),
 oP 38 (.load false 1 (.t 37)),
 oP 39 (.fieldAddr 1 (.t 3)),
 oP 40 (.load false 1 (.t 39)),
 oP 41 (.call 35 [(.t 36), (.c (.int .i64 3)), (.t 38), (.t 40), (.c .nils)]),
 mV 4 41]
def a241_8 : List AOper := [
 oP 43 (.bin .eql (.t 10) (.c (.int .i64 1))),
 mV 42 43]
def a241_9 : List AOper := [
 mV 44 0,
 oP 45 (.load true 4 (.t 3)),
 oP 46 (.call 243 [(.t 44), (.t 45)]),
 mV 4 46]
def a241_10 : List AOper := [
 mV 48 0,
 oP 49 (.call 113 [(.t 48), (.c (.str [40]))]),
 mV 47 49]
def a241_11 : List AOper := [
 mV 50 0,
 oP 51 (.call 182 [(.t 50)]),
 mV 5 51]
def a241_12 : List AOper := [
 mV 52 0,
 oP 53 (.call 64 [(.t 52), (.c (.str [41]))])]
def a241_13 : List AOper := [
 mV 54 5,
 mV 4 54]
def a241_14 : List AOper := [
 mV 56 0,
 oP 57 (.call 113 [(.t 56), (.c (.str [123]))]),
 mV 55 57]
def a241_15 : List AOper := [
 oP 6 (.mv (.c .nils))]
def a241_16 : List AOper := [
 mV 58 0,
 oP 59 (.call 68 [(.t 58), (.c (.int .i64 0)), (.c (.str [125]))]),
 oP 60 (.un .not (.t 59))]
def a241_17 : List AOper := [
 mV 61 0,
 oP 62 (.call 164 [(.t 61)]),
 mV 6 62]
def a241_18 : List AOper := [
 mV 63 0,
 oP 64 (.call 64 [(.t 63), (.c (.str [125]))])]
def a241_19 : List AOper := [
 mV 65 0,
 oP 66 (.fieldAddr 3 (.t 3)),
 oP 67 (.load false 1 (.t 66)),
 mV 68 6,
 oP 69 (.call 35 [(.t 65), (.c (.int .i64 4)), (.t 67), (.c (.str [])), (.t 68)]),
 mV 4 69]
def a241_20 : List AOper := [
 mV 71 0,
 oP 72 (.call 113 [(.t 71), (.c (.str [91]))]),
 mV 70 72]
def a241_21 : List AOper := [
 mV 73 0,
 oP 74 (.fieldAddr 3 (.t 3)),
 oP 75 (.load false 1 (.t 74)),
 oP 76 (.call 244 [(.t 73), (.t 75)]),
 mV 4 76]
def a241_22 : List AOper := [
 mV 78 0,
 oP 79 (.call 113 [(.t 78), (.c (.str [98, 101, 103, 105, 110]))]),
 mV 77 79]
def a241_23 : List AOper := [
 mV 80 0,
 oP 81 (.call 166 [(.t 80)]),
 mV 7 81]
def a241_24 : List AOper := [
 mV 82 0,
 oP 83 (.call 64 [(.t 82), (.c (.str [101, 110, 100]))])]
def a241_25 : List AOper := [
 mV 84 0,
 oP 85 (.fieldAddr 3 (.t 3)),
 oP 86 (.load false 1 (.t 85)),
 mV 87 7,
 oP 88 (.lit true 1 1 [(.int .i64 0)] [(0, 1, (.t 87))]),
 oP 89 (.call 35 [(.t 84), (.c (.int .i64 9)), (.t 86), (.c (.str [])), (.t 88)]),
 mV 4 89]
def a241_26 : List AOper := [
 mV 91 0,
 oP 92 (.call 113 [(.t 91), (.c (.str [99, 97, 115, 101]))]),
 mV 90 92]
def a241_27 : List AOper := [
 mV 93 0,
 oP 94 (.call 182 [(.t 93)]),
 oP 95 (.lit true 1 1 [(.int .i64 0)] [(0, 1, (.t 94))]),
 mV 8 95]
def a241_28 : List AOper := [
 mV 96 0,
 oP 97 (.call 64 [(.t 96), (.c (.str [111, 102]))])]
def a241_29 : List AOper := [
 mV 98 0,
 mV 99 8,
 oP 100 (.call 245 [(.t 98), (.t 99)]),
 mV 8 100]
def a241_30 : List AOper := [
 mV 101 0,
 oP 102 (.call 64 [(.t 101), (.c (.str [101, 110, 100]))])]
def a241_31 : List AOper := [
 mV 103 0,
 oP 104 (.fieldAddr 3 (.t 3)),
 oP 105 (.load false 1 (.t 104)),
 mV 106 8,
 oP 107 (.call 35 [(.t 103), (.c (.int .i64 8)), (.t 105), (.c (.str [])), (.t 106)]),
 mV 4 107]
def a241_32 : List AOper := [
 mV 109 0,
 oP 110 (.call 113 [(.t 109), (.c (.str [114, 101, 99, 101, 105, 118, 101]))]),
 mV 108 110]
def a241_33 : List AOper := [
 mV 111 0,
 oP 112 (.fieldAddr 3 (.t 3)),
 oP 113 (.load false 1 (.t 112)),
 oP 114 (.call 246 [(.t 111), (.t 113)]),
 mV 4 114]
def a241_34 : List AOper := [
 mV 116 0,
 oP 117 (.call 113 [(.t 116), (.c (.str [116, 114, 121]))]),
 mV 115 117]
def a241_35 : List AOper := [
 mV 118 0,
 oP 119 (.fieldAddr 3 (.t 3)),
 oP 120 (.load false 1 (.t 119)),
 oP 121 (.call 247 [(.t 118), (.t 120)]),
 mV 4 121]
def a241_36 : List AOper := [
 mV 122 0,
 oP 123 (.call 66 [(.t 122)])]
def a241_37 : List AOper := [
 oP 4 (.mv (.c (.int .i64 0)))]
def a241 : AFunc := ⟨[.tmp 4], (.seq (.ops a241_0) (.seq (.seq (.ops a241_1) (.block 0 (.seq (.ops a241_2) (.cond (.t 11) (.seq (.ops a241_3) (.seq (.ops a241_4) .ret)) (.seq (.ops a241_5) (.cond (.t 27) (.seq (.ops a241_6) (.seq (.ops a241_7) .ret)) (.seq (.ops a241_8) (.cond (.t 42) (.seq (.ops a241_9) .ret) .skip)))))))) (.seq (.block 1 (.seq (.ops a241_10) (.cond (.t 47) (.seq (.ops a241_11) (.seq (.ops a241_12) (.seq (.ops a241_13) .ret))) (.seq (.ops a241_14) (.cond (.t 55) (.seq (.ops a241_15) (.seq (.seq (.ops a241_16) (.cond (.t 60) (.ops a241_17) .skip)) (.seq (.ops a241_18) (.seq (.ops a241_19) .ret)))) (.seq (.ops a241_20) (.cond (.t 70) (.seq (.ops a241_21) .ret) (.seq (.ops a241_22) (.cond (.t 77) (.seq (.ops a241_23) (.seq (.ops a241_24) (.seq (.ops a241_25) .ret))) (.seq (.ops a241_26) (.cond (.t 90) (.seq (.ops a241_27) (.seq (.ops a241_28) (.seq (.ops a241_29) (.seq (.ops a241_30) (.seq (.ops a241_31) .ret))))) (.seq (.ops a241_32) (.cond (.t 108) (.seq (.ops a241_33) .ret) (.seq (.ops a241_34) (.cond (.t 115) (.seq (.ops a241_35) .ret) .skip))))))))))))))) (.seq (.ops a241_36) (.seq (.ops a241_37) .ret)))))⟩
end Go.Pa

set_option linter.unusedVariables false
namespace Go.Pa
open Go.AM
def func : Nat → Option AFunc
  | 3 => some a3
  | 10 => some a10
  | 11 => some a11
  | 12 => some a12
  | 20 => some a20
  | 27 => some a27
  | 33 => some a33
  | 34 => some a34
  | 35 => some a35
  | 36 => some a36
  | 39 => some a39
  | 64 => some a64
  | 65 => some a65
  | 67 => some a67
  | 68 => some a68
  | 70 => some a70
  | 71 => some a71
  | 77 => some a77
  | 78 => some a78
  | 79 => some a79
  | 113 => some a113
  | 114 => some a114
  | 118 => some a118
  | 119 => some a119
  | 121 => some a121
  | 122 => some a122
  | 123 => some a123
  | 124 => some a124
  | 125 => some a125
  | 126 => some a126
  | 128 => some a128
  | 129 => some a129
  | 134 => some a134
  | 145 => some a145
  | 146 => some a146
  | 147 => some a147
  | 148 => some a148
  | 149 => some a149
  | 152 => some a152
  | 154 => some a154
  | 164 => some a164
  | 166 => some a166
  | 167 => some a167
  | 169 => some a169
  | 170 => some a170
  | 171 => some a171
  | 174 => some a174
  | 182 => some a182
  | 184 => some a184
  | 190 => some a190
  | 195 => some a195
  | 209 => some a209
  | 216 => some a216
  | 220 => some a220
  | 221 => some a221
  | 228 => some a228
  | 235 => some a235
  | 239 => some a239
  | 241 => some a241
  | _ => none
def dfunc : Nat → Option DFunc
  | 14 => some d14
  | _ => none
def rfunc : Nat → Option RFunc
  | 32 => some r32
  | _ => none
end Go.Pa
