/-
  Package bif: the closed calls: which functions there are, and that the package is alive.
-/
import Derived.Test.YtaielgjmhbjfhaaGreatDoorBfEnv
import Derived.Test.YtaielgjmhbjfhaaGreatDoorAmWpk
import Derived.Test.YtaielgjmhbjfhaaGreatDoorAmMono
import Derived.KernelRfl
set_option linter.unusedVariables false
namespace Go.Bf
open Go.AM

structure Bif where
  name : List UInt8
  ar : Int
  gd : Bool
def Bif.cells (b : Bif) : List AV := [.str b.name, .int .i64 b.ar, .int .i64 1, .bool b.gd]
def bifCells (l : List Bif) : List AV := (l.map Bif.cells).flatten
def bifL : List Bif := [
  ⟨[43], 1, true⟩,
  ⟨[45], 1, true⟩,
  ⟨[110, 111, 116], 1, true⟩,
  ⟨[43], 2, true⟩,
  ⟨[45], 2, true⟩,
  ⟨[42], 2, true⟩,
  ⟨[100, 105, 118], 2, true⟩,
  ⟨[114, 101, 109], 2, true⟩,
  ⟨[97, 110, 100], 2, true⟩,
  ⟨[111, 114], 2, true⟩,
  ⟨[120, 111, 114], 2, true⟩,
  ⟨[43, 43], 2, false⟩,
  ⟨[45, 45], 2, false⟩,
  ⟨[61, 61], 2, true⟩,
  ⟨[47, 61], 2, true⟩,
  ⟨[61, 60], 2, true⟩,
  ⟨[60], 2, true⟩,
  ⟨[62, 61], 2, true⟩,
  ⟨[62], 2, true⟩,
  ⟨[61, 58, 61], 2, true⟩,
  ⟨[61, 47, 61], 2, true⟩,
  ⟨[97, 98, 115], 1, true⟩,
  ⟨[101, 108, 101, 109, 101, 110, 116], 2, true⟩,
  ⟨[116, 117, 112, 108, 101, 95, 115, 105, 122, 101], 1, true⟩,
  ⟨[108, 101, 110, 103, 116, 104], 1, true⟩,
  ⟨[104, 100], 1, true⟩,
  ⟨[116, 108], 1, true⟩,
  ⟨[105, 115, 95, 97, 116, 111, 109], 1, true⟩,
  ⟨[105, 115, 95, 98, 111, 111, 108, 101, 97, 110], 1, true⟩,
  ⟨[105, 115, 95, 105, 110, 116, 101, 103, 101, 114], 1, true⟩,
  ⟨[105, 115, 95, 108, 105, 115, 116], 1, true⟩,
  ⟨[105, 115, 95, 112, 105, 100], 1, true⟩,
  ⟨[105, 115, 95, 114, 101, 102, 101, 114, 101, 110, 99, 101], 1, true⟩,
  ⟨[105, 115, 95, 116, 117, 112, 108, 101], 1, true⟩,
  ⟨[110, 111, 100, 101], 1, true⟩,
  ⟨[115, 101, 116, 101, 108, 101, 109, 101, 110, 116], 3, false⟩,
  ⟨[109, 97, 120], 2, false⟩,
  ⟨[109, 105, 110], 2, false⟩,
  ⟨[108, 105, 115, 116, 95, 116, 111, 95, 116, 117, 112, 108, 101], 1, false⟩,
  ⟨[116, 117, 112, 108, 101, 95, 116, 111, 95, 108, 105, 115, 116], 1, false⟩,
  ⟨[105, 110, 116, 101, 103, 101, 114, 95, 116, 111, 95, 108, 105, 115, 116], 1, false⟩,
  ⟨[108, 105, 115, 116, 95, 116, 111, 95, 105, 110, 116, 101, 103, 101, 114], 1, false⟩,
  ⟨[97, 116, 111, 109, 95, 116, 111, 95, 108, 105, 115, 116], 1, false⟩,
  ⟨[108, 105, 115, 116, 95, 116, 111, 95, 97, 116, 111, 109], 1, false⟩]
theorem all_spec (h : Heap) : WC env 11 [] h (fun o => o = .ret ⟨.fs false 44 (bifCells bifL), h, .none⟩) := wc_run (n := 60) (by kernel_rfl)
theorem rall_spec (h : Heap) : WC env 12 [] h (fun o => o = .ret ⟨.fs false 44 (bifCells bifL), h, .none⟩) := wc_run (n := 60) (by kernel_rfl)
theorem alive_spec (h : Heap) : WC env 15 [] h (fun o => o = .ret ⟨.bool true, h, .none⟩) := wc_run (n := 80) (by kernel_rfl)
end Go.Bf
