/-
  The machine's surroundings for package bif.
-/
import Derived.Test.YtaielgjmhbjfhaaGreatDoorBfCode1
import Derived.Test.YtaielgjmhbjfhaaGreatDoorBfCode2
import GoSem.Core.Utf8
import Derived.Shelf.Unicode.DecodeSlow
import Derived.Lib.Bytealg
set_option linter.unusedVariables false
namespace Go.Bf
open Go.AM
def func : Nat → Option AFunc
  | 10 => some a10
  | 11 => some a11
  | 12 => some a12
  | 13 => some a13
  | 14 => some a14
  | 15 => some a15
  | 16 => some a16
  | 17 => some a17
  | 18 => some a18
  | 19 => some a19
  | 21 => some a21
  | 22 => some a22
  | 25 => some a25
  | 26 => some a26
  | 27 => some a27
  | 29 => some a29
  | 30 => some a30
  | 31 => some a31
  | 32 => some a32
  | 33 => some a33
  | 34 => some a34
  | 35 => some a35
  | 36 => some a36
  | 38 => some a38
  | 39 => some a39
  | 41 => some a41
  | 42 => some a42
  | 43 => some a43
  | 44 => some a44
  | 45 => some a45
  | 47 => some a47
  | 48 => some a48
  | 49 => some a49
  | 50 => some a50
  | 51 => some a51
  | 52 => some a52
  | 53 => some a53
  | 54 => some a54
  | 59 => some a59
  | 60 => some a60
  | 66 => some a66
  | 68 => some a68
  | 69 => some a69
  | 73 => some a73
  | 78 => some a78
  | 83 => some a83
  | 84 => some a84
  | 85 => some a85
  | 86 => some a86
  | 87 => some a87
  | 90 => some a90
  | 97 => some a97
  | 102 => some a102
  | 103 => some a103
  | 104 => some a104
  | 108 => some a108
  | 109 => some a109
  | 110 => some a110
  | 111 => some a111
  | 116 => some a116
  | 117 => some a117
  | 119 => some a119
  | 120 => some a120
  | 121 => some a121
  | 122 => some a122
  | 125 => some a125
  | 129 => some a129
  | 130 => some a130
  | 131 => some a131
  | 139 => some a139
  | 140 => some a140
  | 141 => some a141
  | 142 => some a142
  | 143 => some a143
  | 148 => some a148
  | 150 => some a150
  | 151 => some a151
  | 152 => some a152
  | 153 => some a153
  | 159 => some a159
  | 160 => some a160
  | 161 => some a161
  | 162 => some a162
  | _ => none
def asciiSpace : List AV := [.int .u8 0, .int .u8 0, .int .u8 0, .int .u8 0, .int .u8 0, .int .u8 0, .int .u8 0, .int .u8 0, .int .u8 0, .int .u8 1, .int .u8 1, .int .u8 1, .int .u8 1, .int .u8 1, .int .u8 0, .int .u8 0, .int .u8 0, .int .u8 0, .int .u8 0, .int .u8 0, .int .u8 0, .int .u8 0, .int .u8 0, .int .u8 0, .int .u8 0, .int .u8 0, .int .u8 0, .int .u8 0, .int .u8 0, .int .u8 0, .int .u8 0, .int .u8 0, .int .u8 1, .int .u8 0, .int .u8 0, .int .u8 0, .int .u8 0, .int .u8 0, .int .u8 0, .int .u8 0, .int .u8 0, .int .u8 0, .int .u8 0, .int .u8 0, .int .u8 0, .int .u8 0, .int .u8 0, .int .u8 0, .int .u8 0, .int .u8 0, .int .u8 0, .int .u8 0, .int .u8 0, .int .u8 0, .int .u8 0, .int .u8 0, .int .u8 0, .int .u8 0, .int .u8 0, .int .u8 0, .int .u8 0, .int .u8 0, .int .u8 0, .int .u8 0, .int .u8 0, .int .u8 0, .int .u8 0, .int .u8 0, .int .u8 0, .int .u8 0, .int .u8 0, .int .u8 0, .int .u8 0, .int .u8 0, .int .u8 0, .int .u8 0, .int .u8 0, .int .u8 0, .int .u8 0, .int .u8 0, .int .u8 0, .int .u8 0, .int .u8 0, .int .u8 0, .int .u8 0, .int .u8 0, .int .u8 0, .int .u8 0, .int .u8 0, .int .u8 0, .int .u8 0, .int .u8 0, .int .u8 0, .int .u8 0, .int .u8 0, .int .u8 0, .int .u8 0, .int .u8 0, .int .u8 0, .int .u8 0, .int .u8 0, .int .u8 0, .int .u8 0, .int .u8 0, .int .u8 0, .int .u8 0, .int .u8 0, .int .u8 0, .int .u8 0, .int .u8 0, .int .u8 0, .int .u8 0, .int .u8 0, .int .u8 0, .int .u8 0, .int .u8 0, .int .u8 0, .int .u8 0, .int .u8 0, .int .u8 0, .int .u8 0, .int .u8 0, .int .u8 0, .int .u8 0, .int .u8 0, .int .u8 0, .int .u8 0, .int .u8 0, .int .u8 0, .int .u8 0, .int .u8 0, .int .u8 0, .int .u8 0, .int .u8 0, .int .u8 0, .int .u8 0, .int .u8 0, .int .u8 0, .int .u8 0, .int .u8 0, .int .u8 0, .int .u8 0, .int .u8 0, .int .u8 0, .int .u8 0, .int .u8 0, .int .u8 0, .int .u8 0, .int .u8 0, .int .u8 0, .int .u8 0, .int .u8 0, .int .u8 0, .int .u8 0, .int .u8 0, .int .u8 0, .int .u8 0, .int .u8 0, .int .u8 0, .int .u8 0, .int .u8 0, .int .u8 0, .int .u8 0, .int .u8 0, .int .u8 0, .int .u8 0, .int .u8 0, .int .u8 0, .int .u8 0, .int .u8 0, .int .u8 0, .int .u8 0, .int .u8 0, .int .u8 0, .int .u8 0, .int .u8 0, .int .u8 0, .int .u8 0, .int .u8 0, .int .u8 0, .int .u8 0, .int .u8 0, .int .u8 0, .int .u8 0, .int .u8 0, .int .u8 0, .int .u8 0, .int .u8 0, .int .u8 0, .int .u8 0, .int .u8 0, .int .u8 0, .int .u8 0, .int .u8 0, .int .u8 0, .int .u8 0, .int .u8 0, .int .u8 0, .int .u8 0, .int .u8 0, .int .u8 0, .int .u8 0, .int .u8 0, .int .u8 0, .int .u8 0, .int .u8 0, .int .u8 0, .int .u8 0, .int .u8 0, .int .u8 0, .int .u8 0, .int .u8 0, .int .u8 0, .int .u8 0, .int .u8 0, .int .u8 0, .int .u8 0, .int .u8 0, .int .u8 0, .int .u8 0, .int .u8 0, .int .u8 0, .int .u8 0, .int .u8 0, .int .u8 0, .int .u8 0, .int .u8 0, .int .u8 0, .int .u8 0, .int .u8 0, .int .u8 0, .int .u8 0, .int .u8 0, .int .u8 0, .int .u8 0, .int .u8 0, .int .u8 0, .int .u8 0, .int .u8 0, .int .u8 0, .int .u8 0, .int .u8 0, .int .u8 0, .int .u8 0, .int .u8 0, .int .u8 0, .int .u8 0, .int .u8 0, .int .u8 0, .int .u8 0, .int .u8 0, .int .u8 0, .int .u8 0, .int .u8 0, .int .u8 0, .int .u8 0]
def glob : Nat → Option (List AV)
  | 1 => some asciiSpace
  | _ => none
/-- errors.As of a Fault, into a variable of Faults -/
def asP : List AV → Heap → Option (AV × Heap)
  | [.ifc 69 (.fp cs), .ifc 71 (.ptr id gen off)], h => (h.at_ id gen).bind fun os => if off < os.length then some (.bool true, h.upd id gen (splice os off [.fp cs])) else none
  | _, _ => none
/-- errors.Is of no error, or of a Fault with at most two others below, and a number -/
def isP : List AV → Heap → Option (AV × Heap)
  | [.ifc 69 (.fp [_, _, .int .i64 c, .nili]), .ifc 67 (.int .i64 c')], h => some (.bool (c == c'), h)
  | [.ifc 69 (.fp [_, _, _, .ifc 69 (.fp [_, _, .int .i64 c, .nili])]), .ifc 67 (.int .i64 c')], h => some (.bool (c == c'), h)
  | [.ifc 69 (.fp [_, _, _, .ifc 69 (.fp [_, _, _, .ifc 69 (.fp [_, _, .int .i64 c, .nili])])]), .ifc 67 (.int .i64 c')], h => some (.bool (c == c'), h)
  | [.nili, .ifc 67 (.int .i64 c')], h => some (.bool false, h)
  | _, _ => none
/-- the place of the first code point that is none -/
def strangeF (s : List UInt8) : Nat → Nat → Int
  | 0, _ => -1
  | f + 1, i => if i < s.length then (if (Utf8.decode ⟨s.toArray⟩ i).1 = 65533 ∧ (Utf8.decode ⟨s.toArray⟩ i).2 < 2 then (i : Int) else strangeF s f (i + (Utf8.decode ⟨s.toArray⟩ i).2)) else -1
def strangeP : List AV → Heap → Option (AV × Heap)
  | [.str s], h => some (.int .i64 (strangeF s (s.length + 1) 0), h)
  | _, _ => none
/-- the place of the first sign that is a byte -/
def indexP : List AV → Heap → Option (AV × Heap)
  | [.str s, .str [c]], h => some (.int .i64 (Lib.indexByte s c), h)
  | _, _ => none
def prims : Nat → Option (List AV → Heap → Option (AV × Heap))
  | 37 => some asP
  | 46 => some isP
  | 149 => some strangeP
  | 169 => some indexP
  | _ => none
/-- what the world must be like: the library's variables are laid -/
def start (B : Nat) (w : World) : Prop := 5 < B ∧ w.cell? ⟨0, 0, none⟩ = some (.iface 132 (.agg #[.pointer (some ⟨10, 42, none⟩)])) ∧ Lib.Utf8Tabs 4 5 w
def pures : List Nat := [93, 95, 128, 11, 12, 13, 14, 15, 16, 17, 18, 19, 20, 21, 22, 23, 24, 25, 26, 27, 28, 30, 31, 33, 34, 35, 36, 38, 39, 40, 41, 42, 43, 44, 45, 47, 48, 49, 50, 51, 52, 53, 54, 59, 60, 61, 62, 63, 64, 65, 66, 67, 68, 70, 71, 72, 73, 74, 75, 76, 77, 78, 83, 84, 85, 86, 87, 88, 89, 90, 91, 92, 94, 96, 100, 101, 102, 103, 108, 109, 110, 111, 113, 114, 115, 116, 117, 119, 120, 121, 122, 123, 124, 125, 126, 127, 129, 130, 139, 140, 141, 142, 148, 150, 151, 152, 153, 159, 160, 162]
def env : Env := { func := func, glob := glob, pure_ := fun n => pures.elem n, prim := prims, ok := start }
end Go.Bf
