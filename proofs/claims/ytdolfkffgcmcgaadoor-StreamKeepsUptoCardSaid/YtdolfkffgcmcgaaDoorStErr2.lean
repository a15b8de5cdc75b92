/-
  The door seat: errors.Is by a contract: a Fault without another below, and a number.
-/
import Derived.Test.YtdolfkffgcmcgaaDoorChecked
import Derived.WalkKit
import Derived.LaidEql
import Derived.Stop.Asserts
import Derived.RowKitTokens
namespace Go.Proofs.YtdolfkffgcmcgaaDoor
open Go.RowKit Go.Extern.Stop Go.Stop Go.Extern

/-! ### errors.Is -/
theorem Tryd.isTypeOf (v : Value) (w : World) : (Extern.ReflectliteType.typeOf #[.iface 42 v]).run Tryd.prog w = .ok (.iface 96 (.agg #[.pointer (some ⟨1, 42, none⟩)])) w := by kernel_rfl
def comparableF : TypeId → Sem Value := fun t => do Rtype.noPackHeld "Comparable" t; pure (.bool (← typeInfo t).comparable)
theorem Tryd.isComparable (w : World) : (Extern.ReflectliteType.method comparableF #[.agg #[.pointer (some ⟨1, 42, none⟩)]]).run Tryd.prog w = .ok (.bool true) w := by kernel_rfl
theorem Tryd.isMethodComparable (v : Value) (w : World) : (Go.method 249 96 v "Comparable").run Tryd.prog w = .ok (73, v) w := by kernel_rfl
theorem Tryd.noIsE (v : Value) (xT : TypeId) (w : World) : (Instr.typeAssert (.iface 42 v) xT 98 true).run Tryd.prog w = .ok (.tuple #[.nilIface, .bool false]) w := run_typeAssert_lacksB Tryd.underlying98 (by kernel_rfl) (by kernel_rfl) v xT w
theorem Tryd.noUnwrapE (v : Value) (xT : TypeId) (w : World) : (Instr.typeAssert (.iface 42 v) xT 101 true).run Tryd.prog w = .ok (.tuple #[.nilIface, .bool false]) w := run_typeAssert_lacksB Tryd.underlying101 (by kernel_rfl) (by kernel_rfl) v xT w
theorem Tryd.noUnwrapsE (v : Value) (xT : TypeId) (w : World) : (Instr.typeAssert (.iface 42 v) xT 102 true).run Tryd.prog w = .ok (.tuple #[.nilIface, .bool false]) w := run_typeAssert_lacksB Tryd.underlying102 (by kernel_rfl) (by kernel_rfl) v xT w
theorem Tryd.noIsF (v : Value) (xT : TypeId) (w : World) : (Instr.typeAssert (.iface 84 v) xT 98 true).run Tryd.prog w = .ok (.tuple #[.nilIface, .bool false]) w := run_typeAssert_lacksB Tryd.underlying98 (by kernel_rfl) (by kernel_rfl) v xT w
theorem Tryd.hasUnwrapF (v : Value) (xT : TypeId) (w : World) : (Instr.typeAssert (.iface 84 v) xT 101 true).run Tryd.prog w = .ok (.tuple #[.iface 84 v, .bool true]) w := run_typeAssert_hasB Tryd.underlying101 (by kernel_rfl) v xT w
theorem Tryd.methodUnwrap (v : Value) (w : World) : (Go.method 249 84 v "Unwrap").run Tryd.prog w = .ok (70, v) w := by kernel_rfl
theorem Tryd.eqErr (c c' : Int) (w : World) : (binOp .eql 27 (.iface 42 (.int .i64 c)) (.iface 42 (.int .i64 c'))).run Tryd.prog w = .ok (.bool (c == c')) w := by kernel_rfl

set_option maxHeartbeats 4000000 in
theorem is_hit (b o : Nat) (c c' : Int) (w : World) (h2 : w.cell? ⟨b, o + 2, none⟩ = some (.int .i64 c)) (h3 : w.cell? ⟨b, o + 3, none⟩ = some .nilIface) :
    Calls Tryd.prog 27 #[.iface 84 (.pointer (some ⟨b, o, none⟩)), .iface 42 (.int .i64 c')] w fun e w' => e = .returned (.bool (c == c')) ∧ w' = w := by
  have h8 := @run_callFunc_extern Tryd.prog 39 _ Extern.ReflectliteType.typeOf Tryd.func39 (by kernel_rfl) (by kernel_rfl) (by kernel_rfl) (by kernel_rfl)
  have h32 := @run_callFunc_extern Tryd.prog 73 _ (Extern.ReflectliteType.method comparableF) Tryd.func73 (by kernel_rfl) (by kernel_rfl) (by kernel_rfl) (by kernel_rfl)
  have tT := Tryd.isTypeOf
  have cT := Tryd.isComparable
  have mR := Tryd.isMethodComparable
  have nE := Tryd.noIsE
  have uE := Tryd.noUnwrapE
  have vE := Tryd.noUnwrapsE
  have nW := Tryd.noIsF
  have uW := Tryd.hasUnwrapF
  have mU := Tryd.methodUnwrap
  have hty := run_eql_iface_types (P := Tryd.prog) 84 42 (.pointer (some ⟨b, o, none⟩)) (.int .i64 c') Tryd.underlying27 (by decide) w
  by_cases hcc : c = c'
  · subst hcc
    have hee := Tryd.eqErr c c w
    rw [show (c == c) = true by simp] at hee ⊢
    go_enter Tryd.func27, Tryd.ntmps27
    go_wp2
    refine wp_loop_rounds 2 ?_
    rw [rounds_succ]
    go_wp2
    rw [rounds_succ]
    go_wp2
    go_ret
    exact ⟨rfl, rfl⟩
  · have hee := Tryd.eqErr c c' w
    rw [show (c == c') = false by simpa using hcc] at hee ⊢
    go_enter Tryd.func27, Tryd.ntmps27
    go_wp2
    refine wp_loop_rounds 2 ?_
    rw [rounds_succ]
    go_wp2
    rw [rounds_succ]
    go_wp2
    go_ret
    exact ⟨rfl, rfl⟩

theorem is_nil (c : Int) (w : World) : Calls Tryd.prog 27 #[.nilIface, .iface 42 (.int .i64 c)] w fun e w' => e = .returned (.bool false) ∧ w' = w := by
  have hn := run_eql_iface_nil_left (P := Tryd.prog) w 42 (.int .i64 c) Tryd.underlying27
  go_enter Tryd.func27, Tryd.ntmps27
  go_wp2
  go_ret
  exact ⟨rfl, rfl⟩
end Go.Proofs.YtdolfkffgcmcgaaDoor
