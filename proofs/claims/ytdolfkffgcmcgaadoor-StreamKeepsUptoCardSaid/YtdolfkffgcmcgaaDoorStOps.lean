/-
  A script of calls of a stream, as it is handed in.
-/
import Derived.Test.YtdolfkffgcmcgaaDoorStBreak
import Derived.Test.YtdolfkffgcmcgaaDoorAmCls3
set_option linter.unusedVariables false
set_option linter.unusedSimpArgs false
set_option maxRecDepth 20000
namespace Go.St
open Go.AM

structure Op5 where
  kind : Int
  e : Int
  n : Int
  yes : Bool
  v : AV
  b : List UInt8
def Op5.cells (o : Op5) : List AV := [.int .i64 o.kind, .int .i64 o.e, .int .i64 o.n, .bool o.yes, o.v]
def cellsOf (l : List Op5) : List AV := (l.map Op5.cells).flatten
def OpsV (v : AV) (l : List Op5) : Prop := (v = .nils ∧ l = []) ∨ ∃ full, v = .fs full l.length (cellsOf l)
def room (l : List Op5) : Nat := (l.map fun o => o.b.length).sum

theorem OpsV.len {v : AV} {l : List Op5} (k : OpsV v l) (h : Heap) : aLenOp false h v = some ⟨.int .i64 l.length, h, .none⟩ := by
  rcases k with ⟨rfl, rfl⟩ | ⟨full, rfl⟩ <;> rfl
theorem cells_drop : ∀ (l : List Op5) (i : Nat), (hi : i < l.length) → (cellsOf l).drop (i * 5) = l[i].cells ++ cellsOf (l.drop (i + 1))
  | [], i, hi => by simp at hi
  | o :: l, 0, hi => rfl
  | o :: l, i + 1, hi => by
    have := cells_drop l i (by simpa using hi)
    have e : (i + 1) * 5 = i * 5 + 1 + 1 + 1 + 1 + 1 := by omega
    rw [e]
    simpa [cellsOf, Op5.cells] using this
theorem OpsV.elem {v : AV} {l : List Op5} (k : OpsV v l) {i : Nat} (hi : i < l.length) : ∃ rest, aIdxAddr 5 v (.int .i64 i) = some (.fp (l[i].cells ++ rest)) := by
  rcases k with ⟨rfl, rfl⟩ | ⟨full, rfl⟩
  · simp at hi
  have hidx : aIndex l.length (.int .i64 i) = some i := by
    have h0 : (0 : Int) ≤ i := Int.natCast_nonneg i
    have h2 : (i : Int) < l.length := by exact_mod_cast hi
    simp [aIndex, h0, h2]
  have hd := cells_drop l i hi
  refine ⟨cellsOf (l.drop (i + 1)), ?_⟩
  rw [← hd]
  cases hc : cellsOf l with
  | nil => rw [hc] at hd; simp [Op5.cells] at hd
  | cons a t => simp only [aIdxAddr, hidx, Option.map_some]
theorem op5_load (o : Op5) (rest : List AV) (h : Heap) : aLoad h true 5 (.fp (o.cells ++ rest)) = some ⟨.agg o.cells, h, .none⟩ := rfl
theorem op5_store {h : Heap} {id : Nat} {z : List AV} (hz : z.length = 5) (hat : h.at_ id 0 = some z) (o : Op5) : aStore h 5 (.ptr id 0 0) (.agg o.cells) = some ⟨.undef, h.upd id 0 o.cells, .write⟩ := by
  simp only [aStore, hat, Option.bind_some]
  have : (AV.agg o.cells).row = some o.cells := rfl
  rw [this, Option.bind_some, if_pos ⟨rfl, by omega⟩]
  rcases z with _ | ⟨a, _ | ⟨b, _ | ⟨c, _ | ⟨d, _ | ⟨e, _ | ⟨f, z⟩⟩⟩⟩⟩⟩ <;> first | rfl | (simp at hz)
section
variable {h : Heap} {i : Nat} {o : Op5} (hat : h.at_ i 0 = some o.cells)
include hat
theorem op5_k : aLoad h false 1 (.ptr i 0 0) = some ⟨.int .i64 o.kind, h, .read⟩ := by simp only [aLoad, hat, Option.bind_some]; rfl
theorem op5_e : aLoad h false 1 (.ptr i 0 1) = some ⟨.int .i64 o.e, h, .read⟩ := by simp only [aLoad, hat, Option.bind_some]; rfl
theorem op5_n : aLoad h false 1 (.ptr i 0 2) = some ⟨.int .i64 o.n, h, .read⟩ := by simp only [aLoad, hat, Option.bind_some]; rfl
theorem op5_y : aLoad h false 1 (.ptr i 0 3) = some ⟨.bool o.yes, h, .read⟩ := by simp only [aLoad, hat, Option.bind_some]; rfl
theorem op5_v : aLoad h false 1 (.ptr i 0 4) = some ⟨o.v, h, .read⟩ := by simp only [aLoad, hat, Option.bind_some]; rfl
end
theorem room_drop {l : List Op5} {i : Nat} (c1 : i < l.length) : room (l.drop i) = room (l.drop (i + 1)) + l[i].b.length := by
  rw [List.drop_eq_getElem_cons c1]
  simp only [room, List.map_cons, List.sum_cons]
  omega
theorem ri_this {e : Nat} (he : e = 0 ∨ e = 1) (id k : Nat) : aIdxAddrArr 1 2 (.ptr id 0 k) (.int .i64 (e : Int)) = some (.ptr id 0 (k + e)) := by
  rcases he with rfl | rfl <;> rfl
theorem ri_other {e : Nat} (he : e = 0 ∨ e = 1) (id k : Nat) : aIdxAddrArr 1 2 (.ptr id 0 k) (.int .i64 ((1 - e : Nat) : Int)) = some (.ptr id 0 (k + (1 - e))) := by
  rcases he with rfl | rfl <;> rfl
end Go.St
