/-
  The door seat: errors.Is by a contract: a Fault without another below, and a number.
-/
import Derived.Test.YtaielgjmhbjfhaaGreatDoorChecked
import Derived.WalkKit
import Derived.LaidEql
import Derived.Stop.Asserts
import Derived.RowKitTokens
namespace Go.Proofs.YtaielgjmhbjfhaaGreatDoor
open Go.RowKit Go.Extern.Stop Go.Stop Go.Extern

/-! ### errors.Is -/
theorem Tryz.isTypeOf (v : Value) (w : World) : (Extern.ReflectliteType.typeOf #[.iface 67 v]).run Tryz.prog w = .ok (.iface 132 (.agg #[.pointer (some ⟨10, 67, none⟩)])) w := by kernel_rfl
def comparableF : TypeId → Sem Value := fun t => do Rtype.noPackHeld "Comparable" t; pure (.bool (← typeInfo t).comparable)
theorem Tryz.isComparable (w : World) : (Extern.ReflectliteType.method comparableF #[.agg #[.pointer (some ⟨10, 67, none⟩)]]).run Tryz.prog w = .ok (.bool true) w := by kernel_rfl
theorem Tryz.isMethodComparable (v : Value) (w : World) : (Go.method 361 132 v "Comparable").run Tryz.prog w = .ok (203, v) w := by kernel_rfl
theorem Tryz.noIsE (v : Value) (xT : TypeId) (w : World) : (Instr.typeAssert (.iface 67 v) xT 158 true).run Tryz.prog w = .ok (.tuple #[.nilIface, .bool false]) w := run_typeAssert_lacksB Tryz.underlying158 (by kernel_rfl) (by kernel_rfl) v xT w
theorem Tryz.noUnwrapE (v : Value) (xT : TypeId) (w : World) : (Instr.typeAssert (.iface 67 v) xT 139 true).run Tryz.prog w = .ok (.tuple #[.nilIface, .bool false]) w := run_typeAssert_lacksB Tryz.underlying139 (by kernel_rfl) (by kernel_rfl) v xT w
theorem Tryz.noUnwrapsE (v : Value) (xT : TypeId) (w : World) : (Instr.typeAssert (.iface 67 v) xT 141 true).run Tryz.prog w = .ok (.tuple #[.nilIface, .bool false]) w := run_typeAssert_lacksB Tryz.underlying141 (by kernel_rfl) (by kernel_rfl) v xT w
theorem Tryz.noIsF (v : Value) (xT : TypeId) (w : World) : (Instr.typeAssert (.iface 69 v) xT 158 true).run Tryz.prog w = .ok (.tuple #[.nilIface, .bool false]) w := run_typeAssert_lacksB Tryz.underlying158 (by kernel_rfl) (by kernel_rfl) v xT w
theorem Tryz.hasUnwrapF (v : Value) (xT : TypeId) (w : World) : (Instr.typeAssert (.iface 69 v) xT 139 true).run Tryz.prog w = .ok (.tuple #[.iface 69 v, .bool true]) w := run_typeAssert_hasB Tryz.underlying139 (by kernel_rfl) v xT w
theorem Tryz.methodUnwrap (v : Value) (w : World) : (Go.method 361 69 v "Unwrap").run Tryz.prog w = .ok (197, v) w := by kernel_rfl
theorem Tryz.eqErr (c c' : Int) (w : World) : (binOp .eql 42 (.iface 67 (.int .i64 c)) (.iface 67 (.int .i64 c'))).run Tryz.prog w = .ok (.bool (c == c')) w := by kernel_rfl

set_option maxHeartbeats 4000000 in
theorem is_hit (b o : Nat) (c c' : Int) (w : World) (h2 : w.cell? ⟨b, o + 2, none⟩ = some (.int .i64 c)) (h3 : w.cell? ⟨b, o + 3, none⟩ = some .nilIface) :
    Calls Tryz.prog 46 #[.iface 69 (.pointer (some ⟨b, o, none⟩)), .iface 67 (.int .i64 c')] w fun e w' => e = .returned (.bool (c == c')) ∧ w' = w := by
  have h8 := @run_callFunc_extern Tryz.prog 79 _ Extern.ReflectliteType.typeOf Tryz.func79 (by kernel_rfl) (by kernel_rfl) (by kernel_rfl) (by kernel_rfl)
  have h32 := @run_callFunc_extern Tryz.prog 203 _ (Extern.ReflectliteType.method comparableF) Tryz.func203 (by kernel_rfl) (by kernel_rfl) (by kernel_rfl) (by kernel_rfl)
  have tT := Tryz.isTypeOf
  have cT := Tryz.isComparable
  have mR := Tryz.isMethodComparable
  have nE := Tryz.noIsE
  have uE := Tryz.noUnwrapE
  have vE := Tryz.noUnwrapsE
  have nW := Tryz.noIsF
  have uW := Tryz.hasUnwrapF
  have mU := Tryz.methodUnwrap
  have hty := run_eql_iface_types (P := Tryz.prog) 69 67 (.pointer (some ⟨b, o, none⟩)) (.int .i64 c') Tryz.underlying42 (by decide) w
  by_cases hcc : c = c'
  · subst hcc
    have hee := Tryz.eqErr c c w
    rw [show (c == c) = true by simp] at hee ⊢
    go_enter Tryz.func46, Tryz.ntmps46
    go_wp2
    refine wp_loop_rounds 2 ?_
    rw [rounds_succ]
    go_wp2
    rw [rounds_succ]
    go_wp2
    go_ret
    exact ⟨rfl, rfl⟩
  · have hee := Tryz.eqErr c c' w
    rw [show (c == c') = false by simpa using hcc] at hee ⊢
    go_enter Tryz.func46, Tryz.ntmps46
    go_wp2
    refine wp_loop_rounds 2 ?_
    rw [rounds_succ]
    go_wp2
    rw [rounds_succ]
    go_wp2
    go_ret
    exact ⟨rfl, rfl⟩

theorem is_nil (c : Int) (w : World) : Calls Tryz.prog 46 #[.nilIface, .iface 67 (.int .i64 c)] w fun e w' => e = .returned (.bool false) ∧ w' = w := by
  have hn := run_eql_iface_nil_left (P := Tryz.prog) w 67 (.int .i64 c) Tryz.underlying42
  go_enter Tryz.func46, Tryz.ntmps46
  go_wp2
  go_ret
  exact ⟨rfl, rfl⟩
end Go.Proofs.YtaielgjmhbjfhaaGreatDoor
