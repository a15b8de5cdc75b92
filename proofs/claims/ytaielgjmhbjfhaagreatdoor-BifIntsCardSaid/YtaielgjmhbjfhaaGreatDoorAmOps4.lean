/-
  THE ABSTRACT MACHINE AND THE MODEL: append, make, conversions.
-/
import Derived.Test.YtaielgjmhbjfhaaGreatDoorAmOps3
import Derived.Laws.BytesString
import Derived.IntWalk
set_option linter.unusedSimpArgs false
set_option linter.unusedVariables false
namespace Go.AM
open Go.RowKit

section
variable {B : Nat} {w0 : World} {E : Env} {X : RX} {P : Program}

theorem byteAV_rel (b : UInt8) : VRel X (byteAV b) (.int .u8 b.toNat) := .int _ _

theorem bytes_rel : ∀ (s : List UInt8), VRels X (s.map byteAV) (s.map fun b => Value.int .u8 b.toNat) ∧ allOne (s.map byteAV)
  | [] => ⟨.nil, fun _ h => by cases h⟩
  | b :: s => by
    obtain ⟨h1, h2⟩ := bytes_rel s
    refine ⟨.cons _ _ _ _ (byteAV_rel b) h1, fun v hv => ?_⟩
    cases hv with
    | head => rfl
    | tail _ hv => exact h2 v hv

theorem run_loadCells_at {w : World} {b o : Nat} {vs : List Value} (h : CellsAt w b o vs) {n : Nat} (hl : vs.length = n) : (loadCells ⟨b, o, none⟩ n).run P w = .ok vs.toArray w := by
  subst hl
  exact run_loadCells_list (P := P) w ⟨b, o, none⟩ vs (fun j v hv => by rw [addr_add]; exact h j v hv)

theorem cellsAt_heap {w w' : World} (h : w'.heap = w.heap) {b o : Nat} {vs : List Value} (hc : CellsAt w b o vs) : CellsAt w' b o vs := fun i v hv => by
  rw [← hc i v hv]; simp only [World.cell?, h]

/-- A slice's first cells, in every world of this memory. -/
theorem firstCells_run (hR : Rel B w0 E X) {y : AV} {c : Value} (hy : VRel X y c) {sz n : Nat} {new : List AV} {k : Cls} (h : sliceCells X.h sz n y = some (new, k)) :
    ∃ news, VRels X new news ∧ allOne new ∧ new.length = n * sz ∧ ∀ w' : World, w'.heap = X.w.heap → (Builtin.firstCells sz n c).run P w' = .ok news.toArray w' := by
  cases hy with
  | nils =>
    simp only [sliceCells] at h
    split at h
    · rename_i h0; cases h; exact ⟨[], .nil, (fun _ h => by cases h), by simp [h0], fun w' _ => by simp [Builtin.firstCells]⟩
    · cases h
  | fs full len cells a m vs hlen hfull hat h1 hvs =>
    simp only [sliceCells] at h
    split at h
    · rename_i hc
      obtain ⟨hc1, hc2⟩ := hc
      simp only [Option.some.injEq, Prod.mk.injEq] at h
      obtain ⟨rfl, _⟩ := h
      have hmul : n * sz ≤ len * sz := Nat.mul_le_mul_right _ hc1
      refine ⟨vs.take (n * sz), hvs.take _, h1.take _, by rw [List.length_take, hc2]; omega, fun w' hw => ?_⟩
      simp only [Builtin.firstCells]
      by_cases h0 : n * sz = 0
      · rw [h0]; simp [loadCells, loadCellsFrom]
      · have hne : cells ≠ [] := by rintro rfl; simp at hc2; omega
        obtain ⟨b, o, rfl, hst, hca⟩ := hat hne
        exact run_loadCells_at (cellsAt_heap hw (hca.take _)) (by rw [List.length_take, ← hvs.length, hc2]; omega)
    · cases h
  | sl id gen off sz' len cap a m hid hlen hcap hlive =>
    simp only [sliceCells] at h
    split at h
    · rename_i hc
      obtain ⟨rfl, hc2⟩ := hc
      simp only [Option.bind_eq_some_iff] at h
      obtain ⟨cs, hcs, h⟩ := h
      split at h
      · rename_i hfit
        simp only [Option.some.injEq, Prod.mk.injEq] at h
        obtain ⟨rfl, _⟩ := h
        have hl := Heap.at_some hcs
        obtain ⟨vs, g1, g2⟩ := (hR.obj id _ hl).at off
        have hlen' := g1.length
        simp only [List.length_drop] at hlen'
        refine ⟨vs.take (n * sz'), g1.take _, ((hR.obj id _ hl).one.drop off).take _, by simp; omega, fun w' hw => ?_⟩
        simp only [Builtin.firstCells]
        by_cases h0 : n * sz' = 0
        · rw [h0]; simp [loadCells, loadCellsFrom]
        · have hpos : 0 < n := Nat.pos_of_ne_zero fun e => h0 (by rw [e]; simp)
          have ha := ((hlive _ hl).2 rfl).1 (by omega)
          subst ha
          exact run_loadCells_at (cellsAt_heap hw (g2.take _)) (by rw [List.length_take]; omega)
      · cases h
    · cases h
  | str s =>
    simp only [sliceCells] at h
    split at h
    · rename_i hc
      obtain ⟨rfl, hc2⟩ := hc
      simp only [Option.some.injEq, Prod.mk.injEq] at h
      obtain ⟨rfl, _⟩ := h
      obtain ⟨g1, g2⟩ := bytes_rel (X := X) (s.take n)
      refine ⟨_, g1, g2, by simp; omega, fun w' hw => ?_⟩
      have he : (⟨s.toArray⟩ : ByteArray).extract 0 n = ⟨(s.take n).toArray⟩ := by
        apply ByteArray.ext
        simp [ByteArray.data_extract]
      simp [Builtin.firstCells, he]
    · cases h
  | _ => simp [sliceCells] at h

/-- what a value of a slice's kind has for its length -/
theorem lenOf_run {y : AV} {c : Value} (hy : VRel X y c) {n : Nat} (h : aLen y = some n) (w : World) : (Builtin.lenOf c).run P w = .ok n w := by
  cases hy <;> simp only [aLen, Option.some.injEq, reduceCtorEq] at h <;> subst h <;> simp [Builtin.lenOf, ByteArray.size]

structure AppT (P : Program) (t u e : TypeId) (sz bytes : Nat) : Prop where
  ht : P.underlying t = some (.slice e)
  hu : P.underlying u = some (.slice e) ∨ P.underlying u = some .string
  hs : tSize P e = some sz
  hb : tBytes P e = some bytes
  hz : ∃ z, tZero P e = some z ∧ z.length = sz

theorem zeroCells_size (z : Array Value) (n : Nat) : (Builtin.zeroCells z n).size = n * z.size := by simp [Builtin.zeroCells]

/-- An append that makes a new array. -/
theorem run_append_new {t u e ty : TypeId} {sz bytes : Nat} (hT : AppT P t u e sz bytes) {base : Option Addr} {len cap n : Nat} {y : Value} (w : World)
    (hly : (Builtin.lenOf y).run P w = .ok n w) (hg : cap < len + n) (hsm : (len + n) * bytes ≤ 70368744177664) (hsm' : len + n ≤ 70368744177664) {olds news : List Value}
    (ho : ∀ w' : World, w'.heap = w.heap → (Builtin.firstCells sz len (.slice base len cap)).run P w' = .ok olds.toArray w')
    (hn : ∀ w' : World, w'.heap = w.heap → (Builtin.firstCells sz n y).run P w' = .ok news.toArray w') :
    ∃ zc : Array Value, zc.size = sz ∧ (Builtin.append_ #[t, u] ty #[.slice base len cap, y]).run P w =
      .ok (.slice (some ⟨w.heap.size, 0, none⟩) (len + n) (grownCap w (len + n) cap e))
        (w.drew.alloc (.cells (olds.toArray ++ news.toArray ++ Builtin.zeroCells zc (grownCap w (len + n) cap e - (len + n))) e)) := by
  obtain ⟨z, hz, hzl⟩ := hT.hz
  obtain ⟨i, zv, hi, hiz, hm⟩ := tZero_info hz
  obtain ⟨i', hi', hs⟩ := tSize_info hT.hs
  obtain ⟨i2, hi2, hb⟩ := tBytes_info hT.hb
  rw [hi] at hi' hi2
  cases hi'; cases hi2
  have hzs : zv.cells.size = sz := by
    have := (mapM_cellAV (X := ⟨w, .empty, fun _ => ⟨0, 0, 0⟩, fun _ => False⟩) hm).1.length
    simp at this; omega
  refine ⟨zv.cells, hzs, ?_⟩
  have h1 : ¬ (len + n ≤ cap) := by omega
  have h2 : ¬ (((len + n : Nat) : Int) > IntKind.i64.max) := by
    have : IntKind.i64.max = 9223372036854775807 := by decide
    rw [this]; omega
  have h3 : ¬ (Builtin.nextslicecap (len + n) cap * i.bytes > 2 ^ 48) := by
    have := growslice_fits (bytes := i.bytes) hg (by rw [hb]; omega)
    omega
  have ho' := ho w.drew rfl
  have hn' := hn w.drew rfl
  have h4 : ¬ (9223372036854775807 < (len : Int) + (n : Int)) := by omega
  have h5 : ¬ (281474976710656 < Builtin.nextslicecap (len + n) cap * i.bytes) := by omega
  have hq : (Question.appendCap (len + n) cap e).forced = false := rfl
  have hsz := run_sizeOf hT.hs
  rcases hT.hu with hu | hu <;>
  simp [Builtin.append_, run_underlying hT.ht, run_underlying hu, hsz, typeInfo, zeroValue, hi, hiz, hly, h1, h4, h5, hq, ho', hn', newRow, grownCap] <;>
  (congr 2; apply Array.ext'; simp)

/-- An append for which there is room. -/
theorem run_append_in {t u e ty : TypeId} {sz bytes : Nat} (hT : AppT P t u e sz bytes) {a : Addr} {len cap n : Nat} {y : Value} (w w' : World)
    (hly : (Builtin.lenOf y).run P w = .ok n w) (hg : len + n ≤ cap) {news : List Value}
    (hn : (Builtin.firstCells sz n y).run P w = .ok news.toArray w) (hst : (storeCells (a.add (len * sz)) news).run P w = .ok () w') :
    (Builtin.append_ #[t, u] ty #[.slice (some a) len cap, y]).run P w = .ok (.slice (some a) (len + n) cap) w' := by
  have hsz := run_sizeOf hT.hs
  rcases hT.hu with hu | hu <;>
  simp [Builtin.append_, run_underlying hT.ht, run_underlying hu, hsz, hly, hg, hn, hst]

theorem run_append_in_nil {t u e ty : TypeId} {sz bytes : Nat} (hT : AppT P t u e sz bytes) {y : Value} (w : World)
    (hly : (Builtin.lenOf y).run P w = .ok 0 w) {news : List Value} (hn : (Builtin.firstCells sz 0 y).run P w = .ok news.toArray w) :
    (Builtin.append_ #[t, u] ty #[.slice none 0 0, y]).run P w = .ok (.slice none 0 0) w := by
  have hsz := run_sizeOf hT.hs
  rcases hT.hu with hu | hu <;>
  simp [Builtin.append_, run_underlying hT.ht, run_underlying hu, hsz, hly, hn]

theorem grow_arr {w : World} {olds news : List Value} {zc : Array Value} {sz len n cap : Nat} {e : TypeId} (hz : zc.size = sz) (ho : olds.length = len * sz) (hn : news.length = n * sz) :
    (olds.toArray ++ news.toArray ++ Builtin.zeroCells zc (grownCap w (len + n) cap e - (len + n))).size = grownCap w (len + n) cap e * sz := by
  have hge := grownCap_ge w (len + n) cap e
  simp only [Array.size_append, List.size_toArray, ho, hn, zeroCells_size, hz]
  rw [← Nat.add_mul, ← Nat.add_mul]
  congr 1
  omega

theorem take_two {olds news : List Value} {z : Array Value} {k : Nat} (h : k = olds.length + news.length) : (olds.toArray ++ news.toArray ++ z).toList.take k = olds ++ news := by
  subst h
  simp only [Array.toList_append]
  rw [List.take_append_of_le_length (by simp)]
  exact List.take_of_length_le (by simp)

/-- An append that makes a new object. -/
theorem sim_append_new (hR : Rel B w0 E X) {t u e ty : TypeId} {sz bytes : Nat} (hT : AppT P t u e sz bytes) {base : Option Addr} {len cap n : Nat} {y : Value} {old new : List AV}
    (hly : (Builtin.lenOf y).run P X.w = .ok n X.w) (hg : cap < len + n) (hsm : (len + n) * bytes ≤ 70368744177664) (hsm' : len + n ≤ 70368744177664) {olds news : List Value}
    (ro : VRels X old olds) (rn : VRels X new news) (oo : allOne old) (on : allOne new) (lo : old.length = len * sz) (ln : new.length = n * sz)
    (ho : ∀ w' : World, w'.heap = X.w.heap → (Builtin.firstCells sz len (.slice base len cap)).run P w' = .ok olds.toArray w')
    (hn : ∀ w' : World, w'.heap = X.w.heap → (Builtin.firstCells sz n y).run P w' = .ok news.toArray w') :
    Sim B w0 E X P (Builtin.append_ #[t, u] ty #[.slice base len cap, y]) (.sl X.h.next 0 0 sz (len + n) none) (X.h.new (old ++ new)) := by
  obtain ⟨zc, hzc, hrun⟩ := run_append_new (ty := ty) hT X.w hly hg hsm hsm' ho hn
  have l1 := ro.length
  have l2 := rn.length
  have hsz := grow_arr (w := X.w) (olds := olds) (news := news) (cap := cap) (e := e) hzc (l1.symm.trans lo) (l2.symm.trans ln)
  have hge := grownCap_ge X.w (len + n) cap e
  have hmul : (len + n) * sz ≤ grownCap X.w (len + n) cap e * sz := Nat.mul_le_mul_right _ hge
  rw [Nat.add_mul] at hmul
  refine Sim.new_ hR (below_drew_alloc X.w _) (Nat.le_refl _) (oo.append on) (by rw [← World.size_drew]; exact heap_new X.w.drew _) (.inl rfl) (by rw [hsz, List.length_append]; omega) ?_ hrun
    (VRel.newSl _ _ _ _ _ _ _ _ hge (fun _ h => by cases h) (by rw [hsz]; exact Nat.le_refl _) (fun _ => hsz.symm))
  rw [take_two (by rw [List.length_append]; omega)]
  exact ro.append rn

theorem sim_append (hR : Rel B w0 E X) {t u e ty : TypeId} {sz bytes : Nat} (hT : AppT P t u e sz bytes) {x y : AV} {c d : Value} (hx : VRel X x c) (hy : VRel X y d) {r : OpRes}
    (h : aAppend X.h sz bytes x y = some r) : Sim B w0 E X P (Builtin.append_ #[t, u] ty #[c, d]) r.v r.h := by
  simp only [aAppend, Option.bind_eq_some_iff] at h
  obtain ⟨n, hn, len, hlen, h⟩ := h
  split at h
  case isFalse => cases h
  rename_i hsm
  obtain ⟨hsm, hsm', hsz0⟩ := hsm
  have hly := lenOf_run (P := P) hy hn X.w
  split at h
  · -- nothing to append
    rename_i h0
    subst h0
    have hfc : ∃ news : List Value, (Builtin.firstCells sz 0 d).run P X.w = .ok news.toArray X.w ∧ news = [] := by
      refine ⟨[], ?_, rfl⟩
      cases hy <;> simp only [aLen, Option.some.injEq, reduceCtorEq] at hn <;> simp [Builtin.firstCells, loadCells, loadCellsFrom]
    obtain ⟨news, hfc, rfl⟩ := hfc
    cases hx with
    | nils =>
      cases h
      exact Sim.same hR (run_append_in_nil hT X.w hly hfc) .nils
    | str => cases h
    | fs full len' cells a m vs hlen' hfull hat h1 hvs =>
      simp only [aLen, Option.some.injEq] at hlen
      subst hlen
      cases h
      exact Sim.same hR (run_append_in hT X.w X.w hly (by omega) hfc (by simp [storeCells])) (.fs _ _ _ _ _ _ hlen' hfull hat h1 hvs)
    | sl id gen off sz' len' cap a m hid hlen' hcap hlive =>
      simp only [aLen, Option.some.injEq] at hlen
      subst hlen
      cases h
      exact Sim.same hR (run_append_in hT X.w X.w hly (by omega) hfc (by simp [storeCells])) (.sl _ _ _ _ _ _ _ _ hid hlen' hcap hlive)
    | _ => simp [aLen] at hlen
  rename_i h0
  simp only [Option.bind_eq_some_iff] at h
  obtain ⟨⟨new, kn⟩, hnew, h⟩ := h
  obtain ⟨news, rn, on, ln, hfn⟩ := firstCells_run (P := P) hR hy hnew
  have l2 := rn.length
  cases hx with
  | nils =>
    simp only [aLen, Option.some.injEq] at hlen
    subst hlen
    simp only [Option.map_eq_some_iff] at h
    obtain ⟨⟨old, ko⟩, hold, rfl⟩ := h
    obtain ⟨olds, ro, oo, lo, hfo⟩ := firstCells_run (P := P) hR .nils hold
    exact sim_append_new hR hT hly (by omega) hsm hsm' ro rn oo on lo ln hfo hfn
  | fs full len' cells a m vs hlen' hfull hat h1 hvs =>
    simp only [aLen, Option.some.injEq] at hlen
    subst hlen
    cases full with
    | false => cases h
    | true =>
      simp only [Option.map_eq_some_iff] at h
      obtain ⟨⟨old, ko⟩, hold, rfl⟩ := h
      obtain ⟨olds, ro, oo, lo, hfo⟩ := firstCells_run (P := P) hR (.fs _ _ _ _ _ _ hlen' hfull hat h1 hvs) hold
      have hm := hfull rfl
      exact sim_append_new hR hT hly (by omega) hsm hsm' ro rn oo on lo ln hfo hfn
  | sl id gen off sz' len' cap a m hid hlen' hcap hlive =>
    simp only [aLen, Option.some.injEq] at hlen
    subst hlen
    -- there is room within the object
    have room : ∀ (cs : List AV), X.h.at_ id gen = some cs → sz' = sz → len' + n ≤ m → off + (len' + n) * sz ≤ cs.length →
        Sim B w0 E X P (Builtin.append_ #[t, u] ty #[.slice (some a) len' m, d]) (.sl id gen off sz (len' + n) cap) (X.h.upd id gen (splice cs (off + len' * sz) new)) := by
      intro cs hcs hsz hm hfit
      subst hsz
      have hl := Heap.at_some hcs
      have ha := ((hlive _ hl).2 rfl).1 (by omega)
      rw [Nat.add_mul] at hfit
      obtain ⟨X', g1, g2, g3, g4, g5⟩ := sim_splice (P := P) hR hl rn on (off := off + len' * sz') (by rw [ln]; dsimp only; omega)
      refine ⟨X', .slice (some a) (len' + n) m, ?_, g2, g3, g4, ?_⟩
      · refine run_append_in hT X.w X'.w hly hm (hfn X.w rfl) ?_
        rw [ha, addr_add, Nat.add_assoc]
        exact g1
      · have hold := (VRel.sl id gen off sz' len' cap a m hid hlen' hcap hlive).ext g4
        cases hold with
        | sl _ _ _ _ _ _ _ _ q1 q2 q3 q4 => exact .sl _ _ _ _ _ _ _ _ q1 hm q3 q4
    cases cap with
    | some c0 =>
      have hm := hcap c0 rfl
      subst hm
      simp only at h
      split at h
      case isFalse => cases h
      rename_i hsz
      subst hsz
      split at h
      · rename_i hroom
        simp only [Option.bind_eq_some_iff] at h
        obtain ⟨cs, hcs, h⟩ := h
        split at h
        · rename_i hfit
          cases h
          exact room cs hcs rfl hroom hfit
        · cases h
      · rename_i hroom
        simp only [Option.map_eq_some_iff] at h
        obtain ⟨⟨old, ko⟩, hold, rfl⟩ := h
        obtain ⟨olds, ro, oo, lo, hfo⟩ := firstCells_run (P := P) hR (.sl _ _ _ _ _ _ _ _ hid hlen' hcap hlive) hold
        exact sim_append_new hR hT hly (by omega) hsm hsm' ro rn oo on lo ln hfo hfn
    | none =>
      simp only at h
      split at h
      case isFalse => cases h
      rename_i hsz
      subst hsz
      simp only [Option.bind_eq_some_iff] at h
      obtain ⟨cs, hcs, h⟩ := h
      have hl := Heap.at_some hcs
      obtain ⟨⟨arr, T, fz, ha, hb, hc, hd, he⟩, hone⟩ := hR.obj id _ hl
      dsimp only at hc he hone
      obtain ⟨hl1, hl2, hl3⟩ := (hlive _ hl).2 rfl
      have hl3 := hl3 rfl
      split at h
      · rename_i hfit
        cases h
        by_cases hm : len' + n ≤ m
        · exact room cs hcs rfl hm hfit
        · exfalso
          have : (m + 1) * sz' ≤ (len' + n) * sz' := Nat.mul_le_mul_right _ (by omega)
          rw [Nat.succ_mul] at this
          omega
      · rename_i hfit
        split at h
        case isFalse => cases h
        rename_i hend
        cases h
        have hcl : (cs.drop off ++ new).length = (len' + n) * sz' := by rw [List.length_append, List.length_drop, ln, Nat.add_mul]; omega
        have hon : allOne (cs.drop off ++ new) := (hone.drop off).append on
        by_cases hm : len' + n ≤ m
        · -- in place
          have hmul : (len' + n) * sz' ≤ m * sz' := Nat.mul_le_mul_right _ hm
          rw [Nat.add_mul] at hmul
          have ha' := hl1 (by omega)
          have hrun := run_storeCells_bare (P := P) (X.ρ id).b ((X.ρ id).o + off + len' * sz') T fz news 0 arr X.w ha (by rw [hb]; exact hd) (by omega) (rn.oneCells on)
          simp only [Nat.add_zero] at hrun
          have hrow := setRow_heap X.w (X.ρ id).b arr (arr.toList.take ((X.ρ id).o + off + len' * sz') ++ news ++ arr.toList.drop ((X.ρ id).o + off + len' * sz' + news.length)).toArray T fz ha
          have hasz : (arr.toList.take ((X.ρ id).o + off + len' * sz') ++ news ++ arr.toList.drop ((X.ρ id).o + off + len' * sz' + news.length)).toArray.size = arr.size := by
            simp; omega
          have hU := Rel.upd hR hl (setRow_only X.w _ _) (gen := gen + 1) (cs := cs.drop off ++ new) (p := ⟨(X.ρ id).b, (X.ρ id).o + off, (X.ρ id).n⟩) (Nat.le_succ _) (fun e => by simp at e) (.inl rfl) hon
            hrow (hasz.trans hb) hd (by dsimp only; rw [hcl, Nat.add_mul]; omega) ?_
          · refine ⟨_, .slice (some a) (len' + n) m, run_append_in hT X.w _ hly hm (hfn X.w rfl) (by rw [ha', addr_add]; exact hrun), rfl, hU,
              Ext.upd hR hl (setRow_only X.w _ _) (Nat.le_succ _) (fun e => by simp at e) (.inl rfl), ?_⟩
            refine .sl _ _ _ _ _ _ _ _ hid hm (fun _ e => by cases e) fun o ho => ?_
            simp only [RX.upd, Heap.look_upd, ↓reduceIte, Option.some.injEq] at ho ⊢
            subst ho
            exact ⟨Nat.le_refl _, fun _ => ⟨fun _ => by rw [ha']; simp, by omega, fun _ => by omega⟩⟩
          · have h1 := (he.drop off).append rn
            have e : List.take (cs.drop off ++ new).length (List.drop ((X.ρ id).o + off) (arr.toList.take ((X.ρ id).o + off + len' * sz') ++ news ++ arr.toList.drop ((X.ρ id).o + off + len' * sz' + news.length)).toArray.toList)
                = List.drop off (List.take cs.length (List.drop (X.ρ id).o arr.toList)) ++ news := by
              rw [hcl, Nat.add_mul]
              apply List.ext_getElem?
              intro k
              simp only [List.getElem?_take, List.getElem?_drop, List.getElem?_append, List.length_append, List.length_take, List.length_drop, Array.length_toList, Nat.min_def]
              repeat' split
              all_goals first
                | rfl
                | (exfalso; omega)
                | (congr 1; omega)
                | (simp only [List.getElem?_eq_none_iff, Array.length_toList]; omega)
                | (symm; simp only [List.getElem?_eq_none_iff, Array.length_toList]; omega)
            rw [e]
            exact h1
        · -- the array moves
          have hold : sliceCells X.h sz' len' (.sl id gen off sz' len' none) = some (cs.drop off, .read) := by
            simp only [sliceCells, hcs, Option.bind_some]
            rw [if_pos (Nat.le_of_eq hend), List.take_of_length_le (by simp; omega), if_pos ⟨trivial, Nat.le_refl _⟩]
          obtain ⟨olds, ro, oo, lo, hfo⟩ := firstCells_run (P := P) hR (.sl _ _ _ _ _ _ _ _ hid hlen' hcap hlive) hold
          obtain ⟨zc, hzc, hrun⟩ := run_append_new (ty := ty) hT X.w hly (by omega) hsm hsm' hfo hfn
          have l1 := ro.length
          have hasz := grow_arr (w := X.w) (olds := olds) (news := news) (cap := m) (e := e) hzc (l1.symm.trans lo) (l2.symm.trans ln)
          have hge := grownCap_ge X.w (len' + n) m e
          have hmul : (len' + n) * sz' ≤ grownCap X.w (len' + n) m e * sz' := Nat.mul_le_mul_right _ hge
          have hB := below_drew_alloc X.w (.cells (olds.toArray ++ news.toArray ++ Builtin.zeroCells zc (grownCap X.w (len' + n) m e - (len' + n))) e)
          have hO : Only (X.ρ id).b X.w (X.w.drew.alloc (.cells (olds.toArray ++ news.toArray ++ Builtin.zeroCells zc (grownCap X.w (len' + n) m e - (len' + n))) e)) :=
            ⟨hB.os, hB.tape, hB.output, hB.size, fun k hk _ => hB.block k hk⟩
          have hU := Rel.upd hR hl hO (gen := gen + 1) (cs := cs.drop off ++ new) (p := ⟨X.w.heap.size, 0, grownCap X.w (len' + n) m e * sz'⟩) (Nat.le_succ _) (fun e => by simp at e) (.inr (Nat.le_refl _)) hon
            (by rw [← World.size_drew]; exact heap_new X.w.drew _) hasz (.inl rfl) (by dsimp only; rw [hcl]; omega) ?_
          · refine ⟨_, _, hrun, rfl, hU, Ext.upd hR hl hO (Nat.le_succ _) (fun e => by simp at e) (.inr (Nat.le_refl _)), ?_⟩
            refine .sl _ _ _ _ _ _ _ _ hid hge (fun _ e => by cases e) fun o ho => ?_
            simp only [RX.upd, Heap.look_upd, ↓reduceIte, Option.some.injEq] at ho ⊢
            subst ho
            exact ⟨Nat.le_refl _, fun _ => ⟨fun _ => by simp, by simp, fun _ => by simp⟩⟩
          · rw [List.drop_zero, take_two (by rw [List.length_append, l1, l2])]
            exact ro.append rn
  | str => simp at h
  | _ => simp [aLen] at hlen
end
end Go.AM
