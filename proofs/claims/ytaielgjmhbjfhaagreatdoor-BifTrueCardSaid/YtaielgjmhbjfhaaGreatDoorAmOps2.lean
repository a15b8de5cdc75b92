/-
  THE ABSTRACT MACHINE AND THE MODEL: the operations, one by one.
-/
import Derived.Test.YtaielgjmhbjfhaaGreatDoorAmOps
import Derived.Laws.StructEq
import Derived.Laws.Strings
import Derived.Laws.BytesString
import Derived.IntWalk
set_option linter.unusedSimpArgs false
set_option linter.unusedVariables false
namespace Go.AM
open Go.RowKit

section
variable {B : Nat} {w0 : World} {E : Env} {X : RX} {P : Program}

/-- Likewise of what answers nothing. -/
def SimU (B : Nat) (w0 : World) (E : Env) (X : RX) (P : Program) (s : Sem Unit) (h : Heap) : Prop :=
  ∃ X', s.run P X.w = .ok () X'.w ∧ X'.h = h ∧ Rel B w0 E X' ∧ Ext X X'

theorem below_alloc' (w : World) (o : Obj) : Below w.heap.size w (w.alloc o) := (Below.refl _ _).alloc (Nat.le_refl _) o
theorem below_drew_alloc (w : World) (o : Obj) : Below w.heap.size w (w.drew.alloc o) := ((Below.refl _ _).drew).alloc (Nat.le_refl _) o
theorem heap_new (w : World) (o : Obj) : (w.alloc o).heap[w.heap.size]? = some o := heap_alloc_new w o

/-- A new object, its block being laid by the run. -/
theorem Sim.new_ (hR : Rel B w0 E X) {s : Sem Value} {w' : World} {cs : List AV} {b : Nat} (hb : Below X.w.heap.size X.w w') (hbn : X.w.heap.size ≤ b) (h1 : allOne cs)
    {arr : Array Value} {T : TypeId} {fz : Nat × Nat} (hat : w'.heap[b]? = some (.cells arr T fz)) (hfz : Bare arr.size fz) (hle : cs.length ≤ arr.size)
    (hvs : VRels X cs (arr.toList.take cs.length)) {v : AV} {v' : Value} (hrun : s.run P X.w = .ok v' w')
    (hv : VRel (X.new w' cs b arr.size) v v') : Sim B w0 E X P s v (X.h.new cs) :=
  ⟨X.new w' cs b arr.size, v', hrun, rfl, hR.new hb hbn h1 hat hfz hle hvs, Ext.new hR hb cs hbn arr.size, hv⟩

theorem VRel.newPtr (w' : World) (cs : List AV) (b n : Nat) : VRel (X.new w' cs b n) (.ptr X.h.next 0 0) (.pointer (some ⟨b, 0, none⟩)) := by
  refine .ptr _ _ _ _ (Nat.lt_succ_self _) fun o ho => ?_
  have hr : (X.new w' cs b n).ρ X.h.next = ⟨b, 0, n⟩ := if_pos rfl
  simp only [RX.new, Heap.look_new, ↓reduceIte, Option.some.injEq] at ho
  subst ho
  rw [hr]
  exact ⟨Nat.le_refl _, fun _ => rfl⟩

theorem VRel.newSl (w' : World) (cs : List AV) (b n sz len c : Nat) (cap : Option Nat) (hlen : len ≤ c) (hcap : ∀ k, cap = some k → c = k) (hfit : c * sz ≤ n) (hend : cap = none → c * sz = n) :
    VRel (X.new w' cs b n) (.sl X.h.next 0 0 sz len cap) (.slice (some ⟨b, 0, none⟩) len c) := by
  refine .sl _ _ _ _ _ _ _ _ (Nat.lt_succ_self _) hlen hcap fun o ho => ?_
  have hr : (X.new w' cs b n).ρ X.h.next = ⟨b, 0, n⟩ := if_pos rfl
  simp only [RX.new, Heap.look_new, ↓reduceIte, Option.some.injEq] at ho
  subst ho
  rw [hr]
  exact ⟨Nat.le_refl _, fun _ => ⟨fun _ => rfl, by simpa using hfit, fun e => by simpa using hend e⟩⟩

/-- Memory that is laid and never written. -/
theorem Still.new (hR : Rel B w0 E X) {w' : World} (hb : Below X.w.heap.size X.w w') {b : Nat} (hbn : X.w.heap.size ≤ b) (hlt : b < w'.heap.size) : RX.Still { X with w := w' } b :=
  ⟨hlt, fun hF => by have := hR.Flt b hF; omega, fun ⟨id, o, ho, he⟩ => by
    have := (hR.obj id o ho).lt
    simp only at he
    omega⟩

theorem tZero_info {t : TypeId} {zs : List AV} (h : tZero P t = some zs) : ∃ i z, P.info? t = some i ∧ i.zero = some z ∧ z.cells.toList.mapM cellAV = some zs := by
  simp only [tZero, Option.bind_eq_bind, Option.bind_eq_some_iff] at h
  obtain ⟨i, hi, z, hz, h⟩ := h
  exact ⟨i, z, hi, hz, h⟩

theorem sim_alloc (hR : Rel B w0 E X) {t : TypeId} {zs : List AV} (hz : tZero P t = some zs) :
    Sim B w0 E X P (Instr.alloc t true (.tuple #[])) (.ptr X.h.next 0 0) (X.h.new zs) := by
  obtain ⟨i, z, hi, hz, hm⟩ := tZero_info hz
  obtain ⟨h1, h2⟩ := mapM_cellAV (X := X) hm
  have hl := h1.length
  refine Sim.new_ hR (below_alloc' X.w (.cells z.cells t)) (Nat.le_refl _) h2 (heap_new X.w _) (.inl rfl) (by simpa using Nat.le_of_eq hl) (by rw [hl, List.take_length]; exact h1) ?_ (VRel.newPtr _ _ _ _)
  simp [Instr.alloc, zeroValue, typeInfo, hi, hz, newVar, newRow]

theorem sim_box (hR : Rel B w0 E X) {t : TypeId} {v : AV} {c : Value} (hv : VRel X v c) {vs : List AV} (hr : v.row = some vs) :
    Sim B w0 E X P (Instr.box t c) (.ptr X.h.next 0 0) (X.h.new vs) := by
  obtain ⟨h1, h2⟩ := hv.row hr
  have hl := h1.length
  refine Sim.new_ hR (below_alloc' X.w (.cells c.cells t)) (Nat.le_refl _) h2 (heap_new X.w _) (.inl rfl) (by simpa using Nat.le_of_eq hl) (by rw [hl, List.take_length]; exact h1) ?_ (VRel.newPtr _ _ _ _)
  simp [Instr.box, newVar, newRow]

theorem sim_boxStill (hR : Rel B w0 E X) {t : TypeId} {v : AV} {c : Value} (hv : VRel X v c) {vs : List AV} (hr : v.row = some vs) :
    Sim B w0 E X P (Instr.box t c) (.fp vs) X.h := by
  obtain ⟨h1, h2⟩ := hv.row hr
  have hb := below_alloc' X.w (.cells c.cells t)
  refine ⟨{ X with w := X.w.alloc (.cells c.cells t) }, .pointer (some ⟨X.w.heap.size, 0, none⟩), ?_, rfl, hR.grow hb, Ext.grow X hb,
    .fp vs _ _ _ (Still.new hR hb (Nat.le_refl _) (by simp)) (fun i u hu => ?_) h2 (h1.ext (Ext.grow X hb))⟩
  · simp [Instr.box, newVar, newRow]
  · simpa [World.cell?_alloc_new] using hu

/-! ### parts laid into cells -/
theorem foldl_lay (off : Nat) : ∀ (vs : List Value) (s : Nat) (cs : Array Value), off + s + vs.length ≤ cs.size →
    ((vs.zipIdx s).foldl (fun (cs : Array Value) (x : Value × Nat) => cs.setIfInBounds (off + x.2) x.1) cs).toList = cs.toList.take (off + s) ++ vs ++ cs.toList.drop (off + s + vs.length)
  | [], s, cs, _ => by simp
  | v :: rest, s, cs, h => by
    have ih := foldl_lay off rest (s + 1) (cs.setIfInBounds (off + s) v) (by simp at h ⊢; omega)
    simp only [List.zipIdx_cons, List.foldl_cons]
    rw [ih]
    have e := list_seg_step cs.toList (off + s) v rest (by simp at h ⊢; omega)
    simpa [Array.toList_setIfInBounds, Nat.add_assoc] using e

theorem fill_rel {place : Nat → Option (Nat × Nat)} {n : Nat} {σ : Slots} {a : Act} (hR : Rel B w0 E X) (k : SRel X n σ a.tmps) :
    ∀ {parts : List (Nat × Operand)} {ps : List (Nat × Nat × Opd)}, trParts place parts = some ps → ∀ {l : List (Nat × Nat × AV)}, E.parts σ ps = some l →
    ∀ {zs rs : List AV} {cs : Array Value}, VRels X zs cs.toList → allOne zs → aFill zs l = some rs →
    ∃ cs', Instr.fill place cs (parts.map fun x => (x.1, a.eval x.2)) = some cs' ∧ VRels X rs cs'.toList ∧ allOne rs
  | [], ps, ht, l, hl, zs, rs, cs, hz, h1, hf => by
    simp only [trParts, Option.some.injEq] at ht; subst ht
    simp only [Env.parts, Option.some.injEq] at hl; subst hl
    simp only [aFill, Option.some.injEq] at hf; subst hf
    exact ⟨cs, rfl, hz, h1⟩
  | (i, x) :: r, ps, ht, l, hl, zs, rs, cs, hz, h1, hf => by
    simp only [trParts, Option.pure_def, Option.bind_eq_bind, Option.bind_eq_some_iff] at ht
    obtain ⟨⟨off, sz⟩, hp, y, hy, ps', hps, e⟩ := ht
    cases e
    simp only [Env.parts, Option.bind_eq_some_iff, Option.map_eq_some_iff] at hl
    obtain ⟨v, hv, l', hl', rfl⟩ := hl
    simp only [aFill, Option.bind_eq_some_iff] at hf
    obtain ⟨vs, hvs, hf⟩ := hf
    split at hf
    · rename_i hc
      obtain ⟨hc1, hc2⟩ := hc
      have hrel := opd_rel hR k hy hv
      obtain ⟨r1, r2⟩ := hrel.row hvs
      have hlen := r1.length
      have hzl := hz.length
      simp only [Array.length_toList] at hlen hzl
      have hlay := foldl_lay off (a.eval x).cells.toList 0 cs (by simp; omega)
      have hcond : ((a.eval x).cells.size ≠ sz || decide (off + (a.eval x).cells.size > cs.size)) = false := by
        simp; omega
      have hfold : ((a.eval x).cells.zipIdx.foldl (fun (cs : Array Value) (x : Value × Nat) => cs.setIfInBounds (off + x.2) x.1) cs) =
          (((a.eval x).cells.toList.zipIdx 0).foldl (fun (cs : Array Value) (x : Value × Nat) => cs.setIfInBounds (off + x.2) x.1) cs) := by
        rw [← Array.foldl_toList]; simp
      have hz' : VRels X (splice zs off vs) ((a.eval x).cells.zipIdx.foldl (fun (cs : Array Value) (x : Value × Nat) => cs.setIfInBounds (off + x.2) x.1) cs).toList := by
        rw [hfold, hlay]
        simpa using hz.splice r1 off
      obtain ⟨cs', g1, g2, g3⟩ := fill_rel hR k hps hl' hz' (h1.splice r2 off) hf
      refine ⟨cs', ?_, g2, g3⟩
      simp only [List.map_cons, Instr.fill, hp]
      rw [if_neg (by simpa using hcond)]
      exact g1
    · cases hf

theorem fieldPlaces_run : ∀ {fs : List Field} {ps : List (Nat × Nat)}, fieldPlaces P fs = some ps → ∀ w : World,
    (fs.mapM (fun f => (do pure (f.offset, ← sizeOf f.type) : Sem (Nat × Nat)))).run P w = .ok ps w
  | [], ps, h, w => by simp only [fieldPlaces, Option.some.injEq] at h; subst h; simp
  | f :: fs, ps, h, w => by
    simp only [fieldPlaces, Option.pure_def, Option.bind_eq_bind, Option.bind_eq_some_iff] at h
    obtain ⟨s, hs, r, hr, e⟩ := h
    cases e
    have ih := fieldPlaces_run hr w
    simp only [List.mapM_cons, Sem.run_bind, run_sizeOf hs, Result.andThen_ok, Sem.run_pure, ih]

theorem sim_build (hR : Rel B w0 E X) {n : Nat} {σ : Slots} {a : Act} (k : SRel X n σ a.tmps) {t : TypeId} {parts : Array (Nat × Operand)} {zero : List AV} {ps : List (Nat × Nat × Opd)}
    (ht : trBuild P t parts = some (.build zero ps)) {l : List (Nat × Nat × AV)} (hl : E.parts σ ps = some l) {cs : List AV} (hf : aFill zero l = some cs) :
    Sim B w0 E X P (Instr.build t (parts.map fun (i, x) => (i, a.eval x))) (.agg cs) X.h := by
  simp only [trBuild, Option.bind_eq_bind, Option.bind_eq_some_iff] at ht
  obtain ⟨zs, hz, d, hd, ht⟩ := ht
  obtain ⟨i, z, hi, hz, hm⟩ := tZero_info hz
  obtain ⟨h1, h2⟩ := mapM_cellAV (X := X) hm
  have hpm : (parts.map fun (i, x) => (i, a.eval x)).toList = parts.toList.map fun x => (x.1, a.eval x.2) := by simp
  cases d <;> simp only [reduceCtorEq, Option.pure_def, Option.bind_eq_some_iff, Option.some.injEq, AOp.build.injEq] at ht
  · rename_i len e
    obtain ⟨s, hs, ps', hps, rfl, rfl⟩ := ht
    obtain ⟨cs', g1, g2, g3⟩ := fill_rel hR k hps hl h1 h2 hf
    refine Sim.same hR (v' := .agg cs') ?_ (by simpa using VRel.agg cs cs'.toList g3 g2)
    simp only [Instr.build, Sem.run_bind, zeroValue, typeInfo, run_program, Result.andThen_ok, hi, Sem.run_pure, hz, run_underlying hd, run_sizeOf hs, hpm, g1]
  · rename_i fields
    obtain ⟨pl, hpl, ps', hps, rfl, rfl⟩ := ht
    obtain ⟨cs', g1, g2, g3⟩ := fill_rel hR k hps hl h1 h2 hf
    refine Sim.same hR (v' := .agg cs') ?_ (by simpa using VRel.agg cs cs'.toList g3 g2)
    have hpr := fieldPlaces_run (P := P) hpl X.w
    have hmm : (fields.mapM fun f => (do pure (f.offset, ← sizeOf f.type) : Sem (Nat × Nat))).run P X.w = .ok pl.toArray X.w := by
      rw [Array.mapM_eq_mapM_toList]
      simp only [Sem.run_map, hpr, Result.andThen_ok]
    have g1' : Instr.fill (fun (x : Nat) => pl.toArray[x]?) z.cells (parts.toList.map fun x => (x.1, a.eval x.2)) = some cs' := by
      have : (fun (x : Nat) => pl.toArray[x]?) = fun (x : Nat) => pl[x]? := by funext x; simp
      rw [this]; exact g1
    simp only [Instr.build, Sem.run_bind, zeroValue, typeInfo, run_program, Result.andThen_ok, hi, Sem.run_pure, hz, run_underlying hd, hmm, hpm, g1']

theorem sim_lit (hR : Rel B w0 E X) {n : Nat} {σ : Slots} {a : Act} (k : SRel X n σ a.tmps) {fr fr' : Bool} {t : TypeId} {len sz len' : Nat} {parts : Array (Nat × Operand)} {cells : List AV}
    {ps : List (Nat × Nat × Opd)} (ht : trLit P fr t len parts = some (.lit fr' sz len' cells ps)) {l : List (Nat × Nat × AV)} (hl : E.parts σ ps = some l) {cs : List AV}
    (hf : aFill cells l = some cs) (hn : cs.length = len' * sz) :
    ∃ (e : TypeId) (arr : Array Value), VRels X cs arr.toList ∧ allOne cs ∧ len' = len ∧
      (Instr.buildSlice t len (parts.map fun (i, x) => (i, a.eval x))).run P X.w = .ok (.slice (some ⟨X.w.heap.size, 0, none⟩) len len) (X.w.alloc (.cells arr e)) := by
  unfold trLit at ht
  split at ht
  case h_2 => cases ht
  rename_i e hd
  simp only [Option.bind_eq_some_iff] at ht
  obtain ⟨s, hs, ht⟩ := ht
  split at ht
  · cases ht
  rename_i hsmall
  simp only [Option.bind_eq_some_iff] at ht
  obtain ⟨zero, hzero, ht⟩ := ht
  split at ht
  · cases ht
  rename_i hzl
  simp only [Option.map_eq_some_iff, AOp.lit.injEq] at ht
  obtain ⟨ps', hps, rfl, rfl, rfl, rfl, rfl⟩ := ht
  have hpm : (parts.map fun (i, x) => (i, a.eval x)).toList = parts.toList.map fun x => (x.1, a.eval x.2) := by simp
  -- the zeros
  have hZ : ∃ zc : Array Value, ((len * s = 0 ∧ zc = #[]) ∨ (len * s ≠ 0 ∧ ∃ z, (zeroValue e).run P X.w = .ok z X.w ∧ zc = z.cells)) ∧
      VRels X (List.replicate len zero).flatten (((Array.range (len * s)).map (zc[· % zc.size]!)).toList) ∧ allOne (List.replicate len zero).flatten := by
    by_cases h0 : len * s = 0
    · rw [if_pos h0] at hzero
      cases hzero
      refine ⟨#[], .inl ⟨h0, rfl⟩, ?_, ?_⟩
      · rw [h0]; simp; exact .nil
      · intro v hv; simp at hv
    · rw [if_neg h0] at hzero
      obtain ⟨i, z, hi, hz, hm⟩ := tZero_info hzero
      obtain ⟨h1, h2⟩ := mapM_cellAV (X := X) hm
      refine ⟨z.cells, .inr ⟨h0, z, by simp [zeroValue, typeInfo, hi, hz], rfl⟩, ?_, ?_⟩
      · have hlz : zero.length = s := by
          apply Decidable.byContradiction
          intro h
          exact hzl ⟨h0, h⟩
        have hl1 := h1.length
        have hsz : z.cells.size = s := by simpa [hlz] using hl1.symm
        have hspos : 0 < s := Nat.pos_of_ne_zero fun e => h0 (by rw [e]; simp)
        have e1 : ((Array.range (len * s)).map (z.cells[· % z.cells.size]!)).toList = (List.replicate len z.cells.toList).flatten := by
          apply List.ext_getElem
          · simp [hsz]
          · intro j hj1 hj2
            have hj : j < len * s := by simpa using hj1
            simp only [Array.toList_map, Array.toList_range, List.getElem_map, List.getElem_range]
            have hmod : j % z.cells.size < z.cells.size := Nat.mod_lt _ (by omega)
            rw [getElem!_pos z.cells _ hmod]
            have hfl : (List.replicate len z.cells.toList).flatten[j]? = some (z.cells[j % z.cells.size]) := by
              clear hj2 hj1 hl hps hf hn hm h1 hl1 hsmall hzl hd hpm
              have : ∀ (m j : Nat), j < m * s → (List.replicate m z.cells.toList).flatten[j]? = some (z.cells[j % z.cells.size]'(Nat.mod_lt _ (by omega))) := by
                intro m
                induction m with
                | zero => intro j h; simp at h
                | succ m ih =>
                  intro j h
                  simp only [List.replicate_succ, List.flatten_cons, List.getElem?_append, Array.length_toList]
                  split
                  · rename_i hlt
                    simp only [Nat.mod_eq_of_lt hlt, Array.getElem?_toList, Array.getElem?_eq_getElem hlt]
                  · rename_i hge
                    have hge' : z.cells.size ≤ j := Nat.le_of_not_lt hge
                    rw [ih (j - z.cells.size) (by rw [hsz]; rw [Nat.succ_mul] at h; omega)]
                    congr 2
                    exact (Nat.mod_eq_sub_mod hge').symm
              exact this len j hj
            have := List.getElem?_eq_getElem hj2
            rw [this] at hfl
            simpa using hfl.symm
        rw [e1]
        exact VRels.flatten_replicate h1 len
      · intro v hv
        simp only [List.mem_flatten, List.mem_replicate] at hv
        obtain ⟨l', ⟨_, rfl⟩, hv⟩ := hv
        exact h2 v hv
  obtain ⟨zc, hz1, hz2, hz3⟩ := hZ
  obtain ⟨cs', g1, g2, g3⟩ := fill_rel hR k hps hl hz2 hz3 hf
  refine ⟨e, cs', g2, g3, rfl, ?_⟩
  have hsm : ¬ (len * s > 2 ^ 24) := hsmall
  rcases hz1 with ⟨h0, rfl⟩ | ⟨h0, z, hz, rfl⟩
  · simp only [Instr.buildSlice, Sem.run_bind, run_underlying hd, Result.andThen_ok, run_sizeOf hs, if_neg hsm, Sem.run_pure, if_pos h0, hpm, g1, newRow, run_newObj]
    rfl
  · simp only [Instr.buildSlice, Sem.run_bind, run_underlying hd, Result.andThen_ok, run_sizeOf hs, if_neg hsm, Sem.run_pure, if_neg h0, hpm, hz, g1, newRow, run_newObj]
    rfl
end
end Go.AM
/-
  THE ABSTRACT MACHINE AND THE MODEL: stores, slices, indices, sums.
-/
set_option linter.unusedSimpArgs false
set_option linter.unusedVariables false
namespace Go.AM
open Go.RowKit

section
variable {B : Nat} {w0 : World} {E : Env} {X : RX} {P : Program}

theorem sim_store (hR : Rel B w0 E X) {t : TypeId} {sz : Nat} (hs : tSize P t = some sz) {x v : AV} {c d : Value} (hx : VRel X x c) (hv : VRel X v d)
    {r : OpRes} (h : aStore X.h sz x v = some r) : SimU B w0 E X P (Instr.storeAt t c d) r.h ∧ r.v = .undef := by
  cases hx with
  | ptr id gen off a hid hlive =>
    simp only [aStore, Option.bind_eq_some_iff] at h
    obtain ⟨cs, hcs, vs, hvs, h⟩ := h
    split at h
    · rename_i hc
      obtain ⟨hc1, hc2⟩ := hc
      cases h
      have hl := Heap.at_some hcs
      have e := (hlive _ hl).2 rfl
      subst e
      obtain ⟨r1, r2⟩ := hv.row hvs
      obtain ⟨X', h1, h2, h3, h4, _⟩ := sim_splice (P := P) hR hl r1 r2 (off := off) (by simpa [hc1] using hc2)
      refine ⟨⟨X', ?_, h2, h3, h4⟩, rfl⟩
      have hsz : d.cells.size = sz := by have := r1.length; simp at this; omega
      simp only [Instr.storeAt, Instr.sureAddr, Sem.run_bind, Sem.run_pure, Result.andThen_ok, storeVar, run_sizeOf hs, hsz, ne_eq, not_true_eq_false, if_false, h1]
    · cases h
  | _ => simp [aStore] at h

/-! ### fields, extracts -/
theorem trField_under {t : TypeId} {i : Nat} {f : Field} (h : trField P t i = some f) : ∃ fs, P.underlying t = some (.struct fs) ∧ fs[i]? = some f := by
  simp only [trField, Option.bind_eq_bind, Option.bind_eq_some_iff] at h
  obtain ⟨d, hd, h⟩ := h
  cases d <;> simp only [reduceCtorEq] at h
  exact ⟨_, hd, h⟩

theorem sim_fieldAddr (hR : Rel B w0 E X) {t : TypeId} {i : Nat} {f : Field} (hf : trField P t i = some f) {s : Nat} (hs : tSize P f.type = some s) (h0 : s ≠ 0) {x : AV} {c : Value}
    (hx : VRel X x c) :
    (∀ id gen o, x = .ptr id gen o → Sim B w0 E X P (Instr.fieldAt t c i) (.ptr id gen (o + f.offset)) X.h) ∧
    (∀ cs, x = .fp cs → Sim B w0 E X P (Instr.fieldAt t c i) (.fp (cs.drop f.offset)) X.h) := by
  obtain ⟨fs, hu, hg⟩ := trField_under hf
  have hrun : ∀ a : Addr, (Instr.fieldAt t (.pointer (some a)) i).run P X.w = .ok (.pointer (some (a.add f.offset))) X.w := by
    intro a
    simp [Instr.fieldAt, run_underlying hu, hg, Instr.sureAddr, fieldPlace, run_sizeOf hs, h0]
  constructor
  · rintro id gen o rfl
    cases hx with
    | ptr _ _ _ a hid hlive =>
      refine Sim.same hR (hrun a) (.ptr _ _ _ _ hid fun ob ho => ⟨(hlive ob ho).1, fun e => ?_⟩)
      rw [(hlive ob ho).2 e, addr_add, Nat.add_assoc]
  · rintro cs rfl
    cases hx with
    | fp _ b o vs hst hat h1 hvs =>
      refine Sim.same hR (hrun _) ?_
      rw [addr_add]
      exact .fp _ _ _ _ hst (hat.drop _) (h1.drop _) (hvs.drop _)

theorem run_part {t : TypeId} {agg : Bool} {sz off : Nat} (ha : tAgg P t = some agg) (hs : tSize P t = some sz) {cs : List AV} {cs' : List Value} (hv : VRels X cs cs') (h1 : allOne cs)
    (hfit : off + sz ≤ cs.length) {v : AV} (h : partOf agg sz off cs = some v) : ∃ v', (part t cs'.toArray off).run P X.w = .ok v' X.w ∧ VRel X v v' := by
  cases agg with
  | true =>
    simp only [partOf, Option.some.injEq] at h
    subst h
    refine ⟨.agg (cs'.toArray.extract off (off + sz)), by simp [part, tAgg_isAgg ha, run_sizeOf hs], ?_⟩
    have e : cs'.toArray.extract off (off + sz) = ((cs'.drop off).take sz).toArray := by simp
    rw [e]
    exact .agg _ _ ((h1.drop off).take sz) ((hv.drop off).take sz)
  | false =>
    simp only [partOf] at h
    obtain ⟨c, hc, hr⟩ := hv.get h
    exact ⟨c, by simp [part, tAgg_isAgg ha, hc], hr⟩

theorem sim_field (hR : Rel B w0 E X) {t : TypeId} {i : Nat} {f : Field} (hf : trField P t i = some f) {agg : Bool} {sz : Nat} (ha : tAgg P f.type = some agg) (hs : tSize P f.type = some sz)
    {cs : List AV} {c : Value} (hx : VRel X (.agg cs) c) (hfit : f.offset + sz ≤ cs.length) {v : AV} (h : partOf agg sz f.offset cs = some v) :
    Sim B w0 E X P (Instr.field t c i) v X.h := by
  obtain ⟨fs, hu, hg⟩ := trField_under hf
  cases hx with
  | agg _ cs' h1 hv =>
    obtain ⟨v', hr, hrel⟩ := run_part (P := P) ha hs hv h1 hfit h
    exact Sim.same hR (by simp [Instr.field, run_underlying hu, hg, asAgg, hr]) hrel

theorem sim_idxArr (hR : Rel B w0 E X) {t e : TypeId} {n : Nat} (hu : P.underlying t = some (.array n e)) {agg : Bool} {sz : Nat} (ha : tAgg P e = some agg) (hs : tSize P e = some sz)
    {cs : List AV} {c : Value} (hx : VRel X (.agg cs) c) {i : AV} {d : Value} (hi : VRel X i d) {j : Nat} (hj : aIndex n i = some j) (hfit : (j + 1) * sz ≤ cs.length) {v : AV}
    (h : partOf agg sz (j * sz) cs = some v) : Sim B w0 E X P (Instr.index t c d) v X.h := by
  cases hi with
  | int k q =>
    simp only [aIndex] at hj
    split at hj
    · rename_i hc
      cases hj
      cases hx with
      | agg _ cs' h1 hv =>
        obtain ⟨v', hr, hrel⟩ := run_part (P := P) ha hs hv h1 (by rw [Nat.succ_mul] at hfit; omega) h
        exact Sim.same hR (by simp [Instr.index, asIntOf, run_underlying hu, hc.1, hc.2, run_sizeOf hs, hr]) hrel
    · cases hj
  | _ => simp [aIndex] at hj

theorem sim_idxStr (hR : Rel B w0 E X) {t : TypeId} (hu : P.underlying t = some .string) {s : List UInt8} {c : Value} (hx : VRel X (.str s) c) {i : AV} {d : Value} (hi : VRel X i d)
    {j : Nat} (hj : aIndex s.length i = some j) {b : UInt8} (hb : s[j]? = some b) : Sim B w0 E X P (Instr.index t c d) (byteAV b) X.h := by
  cases hi with
  | int k q =>
    simp only [aIndex] at hj
    split at hj
    · rename_i hc
      cases hj
      cases hx with
      | str =>
        have hget : (⟨s.toArray⟩ : ByteArray)[q.toNat]? = some b := by
          obtain ⟨hlt, hb'⟩ := List.getElem?_eq_some_iff.1 hb
          have hlt' : q.toNat < (⟨s.toArray⟩ : ByteArray).size := by simpa [ByteArray.size] using hlt
          rw [getElem?_pos (⟨s.toArray⟩ : ByteArray) q.toNat hlt']
          congr 1
        exact Sim.same hR (v' := .int .u8 b.toNat) (by simp [Instr.index, asIntOf, run_underlying hu, hc.1, hget]) (.int _ _)
    · cases hj
  | _ => simp [aIndex] at hj

theorem sim_extract (hR : Rel B w0 E X) {vs : List AV} {c : Value} (hx : VRel X (.tup vs) c) {i : Nat} {v : AV} (h : vs[i]? = some v) : Sim B w0 E X P (Instr.extract c i) v X.h := by
  cases hx with
  | tup _ vs' hv =>
    obtain ⟨v', h1, h2⟩ := hv.get h
    exact Sim.same hR (by simp [Instr.extract, h1]) h2

/-! ### elements' addresses -/
theorem sim_idxAddr (hR : Rel B w0 E X) {t e : TypeId} (hu : P.underlying t = some (.slice e)) {sz : Nat} (hs : tSize P e = some sz) {x : AV} {c : Value} (hx : VRel X x c) {i : AV} {d : Value}
    (hi : VRel X i d) {v : AV} (h : aIdxAddr sz x i = some v) : Sim B w0 E X P (Instr.indexAt t c d) v X.h := by
  cases hx with
  | sl id gen off sz' len cap a n hid hlen hcap hlive =>
    simp only [aIdxAddr] at h
    split at h
    · rename_i he
      subst he
      simp only [Option.map_eq_some_iff] at h
      obtain ⟨j, hj, rfl⟩ := h
      cases hi with
      | int k q =>
        simp only [aIndex] at hj
        split at hj
        · rename_i hc
          cases hj
          refine Sim.same hR (v' := .pointer (some (a.add (q.toNat * sz')))) (by simp [Instr.indexAt, asIntOf, run_underlying hu, hc.1, hc.2, run_sizeOf hs]) (.ptr _ _ _ _ hid fun o ho => ⟨(hlive o ho).1, fun eg => ?_⟩)
          have ha := ((hlive o ho).2 eg).1 (by omega)
          rw [ha, addr_add, Nat.add_assoc]
        · cases hj
      | _ => simp [aIndex] at hj
    · cases h
  | fs full len cells a n vs hlen hfull hat h1 hvs =>
    cases cells with
    | nil => simp [aIdxAddr] at h
    | cons v0 cells =>
      simp only [aIdxAddr, Option.map_eq_some_iff] at h
      obtain ⟨j, hj, rfl⟩ := h
      obtain ⟨b, o, rfl, hst, hc'⟩ := hat (by simp)
      cases hi with
      | int k q =>
        simp only [aIndex] at hj
        split at hj
        · rename_i hc
          cases hj
          refine Sim.same hR (v' := .pointer (some ((⟨b, o, none⟩ : Addr).add (q.toNat * sz)))) (by simp [Instr.indexAt, asIntOf, run_underlying hu, hc.1, hc.2, run_sizeOf hs]) ?_
          rw [addr_add]
          exact .fp _ _ _ _ hst (hc'.drop _) (h1.drop _) (hvs.drop _)
        · cases hj
      | _ => simp [aIndex] at hj
  | _ => simp [aIdxAddr] at h

theorem sim_idxAddrArr (hR : Rel B w0 E X) {t e : TypeId} {n : Nat} (hu : P.underlying t = some (.array n e)) {sz : Nat} (hs : tSize P e = some sz) {x : AV} {c : Value} (hx : VRel X x c) {i : AV}
    {d : Value} (hi : VRel X i d) {v : AV} (h : aIdxAddrArr sz n x i = some v) : Sim B w0 E X P (Instr.indexAt t c d) v X.h := by
  cases hx with
  | ptr id gen off a hid hlive =>
    simp only [aIdxAddrArr, Option.map_eq_some_iff] at h
    obtain ⟨j, hj, rfl⟩ := h
    cases hi with
    | int k q =>
      simp only [aIndex] at hj
      split at hj
      · rename_i hc
        cases hj
        refine Sim.same hR (v' := .pointer (some (a.add (q.toNat * sz)))) (by simp [Instr.indexAt, asIntOf, run_underlying hu, Instr.sureAddr, hc.1, hc.2, run_sizeOf hs]) (.ptr _ _ _ _ hid fun o ho => ⟨(hlive o ho).1, fun eg => ?_⟩)
        rw [(hlive o ho).2 eg, addr_add, Nat.add_assoc]
      · cases hj
    | _ => simp [aIndex] at hj
  | fp cells b o vs hst hat h1 hvs =>
    simp only [aIdxAddrArr, Option.map_eq_some_iff] at h
    obtain ⟨j, hj, rfl⟩ := h
    cases hi with
    | int k q =>
      simp only [aIndex] at hj
      split at hj
      · rename_i hc
        cases hj
        refine Sim.same hR (v' := .pointer (some ((⟨b, o, none⟩ : Addr).add (q.toNat * sz)))) (by simp [Instr.indexAt, asIntOf, run_underlying hu, Instr.sureAddr, hc.1, hc.2, run_sizeOf hs]) ?_
        rw [addr_add]
        exact .fp _ _ _ _ hst (hat.drop _) (h1.drop _) (hvs.drop _)
      · cases hj
    | _ => simp [aIndex] at hj
  | _ => simp [aIdxAddrArr] at h

/-! ### bounds, slices -/
inductive ORel (X : RX) : Option AV → Option Value → Prop
  | none : ORel X none none
  | some (v : AV) (c : Value) (h : VRel X v c) : ORel X (some v) (some c)

theorem opdo_rel (hR : Rel B w0 E X) {n : Nat} {σ : Slots} {a : Act} (k : SRel X n σ a.tmps) {o : Option Operand} {x : Option Opd} (ht : trOpdo o = some x) {v : Option AV} (hv : E.opdo σ x = some v) :
    ORel X v (o.map a.eval) := by
  cases o with
  | none => simp only [trOpdo, Option.some.injEq] at ht; subst ht; simp only [Env.opdo, Option.some.injEq] at hv; subst hv; exact .none
  | some o =>
    simp only [trOpdo, Option.map_eq_some_iff] at ht
    obtain ⟨y, hy, rfl⟩ := ht
    simp only [Env.opdo, Option.map_eq_some_iff] at hv
    obtain ⟨u, hu, rfl⟩ := hv
    exact .some _ _ (opd_rel hR k hy hu)

theorem sbound_run {v : AV} {c : Value} (hv : VRel X v c) {y n i : Nat} (h : sbound y v = some i) (hn : y ≤ n) (code : BoundsCode) (w : World) :
    (Instr.sliceBound c n code).run P w = .ok i w ∧ i ≤ y := by
  cases hv with
  | int k q =>
    simp only [sbound] at h
    split at h
    · rename_i hc
      cases h
      have h1 : q ≤ (n : Int) := by omega
      exact ⟨by simp [Instr.sliceBound, asIntOf, hc.1, h1], by omega⟩
    · cases h
  | _ => simp [sbound] at h

/-- The bounds of a slice expression, the capacity being known from below. -/
theorem bounds_run {lo hi mx : Option AV} {lo' hi' mx' : Option Value} (h1 : ORel X lo lo') (h2 : ORel X hi hi') (h3 : ORel X mx mx') {len cap n : Nat} (hn : cap ≤ n) (hlen : len ≤ cap) {l u m : Nat}
    (h : bounds len cap lo hi mx = some (l, u, m)) (b : Bool) (w : World) :
    ∃ m', (Instr.sliceBounds b len n lo' hi' mx').run P w = .ok (l, u, m') w ∧ l ≤ u ∧ u ≤ m ∧ m ≤ cap ∧ m' ≤ n ∧ u ≤ m' ∧ (∀ x, mx = some x → m' = m) ∧ (mx = none → m = cap ∧ m' = n) ∧ (mx = none → hi = none → u = len) := by
  simp only [bounds, Option.bind_eq_some_iff, Option.map_eq_some_iff, Prod.mk.injEq] at h
  obtain ⟨m1, hm, u1, hu, l1, hl, rfl, rfl, rfl⟩ := h
  -- the capacity
  cases h3 with
  | none =>
    simp only [Option.some.injEq] at hm
    subst hm
    cases h2 with
    | none =>
      simp only [Option.some.injEq] at hu
      subst hu
      cases h1 with
      | none =>
        simp only [Option.some.injEq] at hl
        subst hl
        exact ⟨n, by simp [Instr.sliceBounds], Nat.zero_le _, hlen, Nat.le_refl _, Nat.le_refl _, by omega, (fun _ e => by cases e), (fun _ => ⟨rfl, rfl⟩), (fun _ _ => rfl)⟩
      | some v c hv =>
        obtain ⟨r1, r2⟩ := sbound_run (P := P) hv hl (Nat.le_refl _) .sliceB w
        exact ⟨n, by simp [Instr.sliceBounds, r1], r2, hlen, Nat.le_refl _, Nat.le_refl _, by omega, (fun _ e => by cases e), (fun _ => ⟨rfl, rfl⟩), (fun _ _ => rfl)⟩
    | some v c hv =>
      obtain ⟨r1, r2⟩ := sbound_run (P := P) hv hu hn (if b then .sliceAcap else .sliceAlen) w
      cases h1 with
      | none =>
        simp only [Option.some.injEq] at hl
        subst hl
        exact ⟨n, by simp [Instr.sliceBounds, r1], Nat.zero_le _, r2, Nat.le_refl _, Nat.le_refl _, by omega, (fun _ e => by cases e), (fun _ => ⟨rfl, rfl⟩), (fun _ e => by cases e)⟩
      | some v' c' hv' =>
        obtain ⟨s1, s2⟩ := sbound_run (P := P) hv' hl (Nat.le_refl _) .sliceB w
        exact ⟨n, by simp [Instr.sliceBounds, r1, s1], s2, r2, Nat.le_refl _, Nat.le_refl _, by omega, (fun _ e => by cases e), (fun _ => ⟨rfl, rfl⟩), (fun _ e => by cases e)⟩
  | some v3 c3 hv3 =>
    obtain ⟨q1, q2⟩ := sbound_run (P := P) hv3 hm hn (if b then .slice3Acap else .slice3Alen) w
    cases h2 with
    | none => cases hu
    | some v c hv =>
      obtain ⟨r1, r2⟩ := sbound_run (P := P) hv hu (Nat.le_refl _) .slice3B w
      cases h1 with
      | none =>
        simp only [Option.some.injEq] at hl
        subst hl
        exact ⟨m1, by simp [Instr.sliceBounds, q1, r1], Nat.zero_le _, r2, q2, by omega, r2, (fun _ _ => rfl), (fun e => by cases e), (fun e => by cases e)⟩
      | some v' c' hv' =>
        obtain ⟨s1, s2⟩ := sbound_run (P := P) hv' hl (Nat.le_refl _) .slice3C w
        exact ⟨m1, by simp [Instr.sliceBounds, q1, r1, s1], s2, r2, q2, by omega, r2, (fun _ _ => rfl), (fun e => by cases e), (fun e => by cases e)⟩

theorem sub_mul_add (l m sz : Nat) (h : l ≤ m) : l * sz + (m - l) * sz = m * sz := by rw [← Nat.add_mul]; congr 1; omega

theorem sim_slice (hR : Rel B w0 E X) {t e : TypeId} (hu : P.underlying t = some (.slice e)) {sz : Nat} (hs : tSize P e = some sz) {x : AV} {c : Value} (hx : VRel X x c)
    {lo hi mx : Option AV} {lo' hi' mx' : Option Value} (h1 : ORel X lo lo') (h2 : ORel X hi hi') (h3 : ORel X mx mx') {v : AV} (h : aSlice sz x lo hi mx = some v) :
    Sim B w0 E X P (Instr.sliceAt t c lo' hi' mx') v X.h := by
  have hat : ∀ (a : Option Addr) (len cap l u m' : Nat), (Instr.sliceBounds true len cap lo' hi' mx').run P X.w = .ok (l, u, m') X.w →
      (Instr.sliceAt t (.slice a len cap) lo' hi' mx').run P X.w = .ok (.slice (if m' = l then a else a.map (·.add (l * sz))) (u - l) (m' - l)) X.w := by
    intro a len cap l u m' hb
    simp [Instr.sliceAt, Instr.slice, run_underlying hu, hb, run_sizeOf hs]
  cases hx with
  | nils =>
    simp only [aSlice, Option.map_eq_some_iff] at h
    obtain ⟨⟨l, u, m⟩, hb, rfl⟩ := h
    obtain ⟨m', r, g1, g2, g3, g4, g5, g6, g7, g8⟩ := bounds_run (P := P) h1 h2 h3 (Nat.le_refl 0) (Nat.le_refl 0) hb true X.w
    have hz : m' = 0 ∧ u = 0 ∧ l = 0 := by omega
    obtain ⟨rfl, rfl, rfl⟩ := hz
    exact Sim.same hR (by simpa using hat none 0 0 0 0 0 r) .nils
  | sl id gen off sz' len cap a n hid hlen hcap hlive =>
    simp only [aSlice] at h
    split at h
    · rename_i he
      subst he
      -- what both cases come to
      have key : ∀ (cp l u m m' : Nat) (cap' : Option Nat), cp ≤ n → len ≤ cp → bounds len cp lo hi mx = some (l, u, m) → (Instr.sliceBounds true len n lo' hi' mx').run P X.w = .ok (l, u, m') X.w →
          l ≤ u → u ≤ m' → m' ≤ n → (∀ k, cap' = some k → m' - l = k) → (cap' = none → cap = none ∧ m' = n) → Sim B w0 E X P (Instr.sliceAt t (.slice (some a) len n) lo' hi' mx') (.sl id gen (off + l * sz') sz' (u - l) cap') X.h := by
        intro cp l u m m' cap' hcp hlc hb r g1 g5 g4 hk hno
        refine Sim.same hR (v' := .slice (some (if m' = l then a else a.add (l * sz'))) (u - l) (m' - l)) ?_ (.sl _ _ _ _ _ _ _ _ hid (by omega) hk fun o ho => ⟨(hlive o ho).1, fun eg => ⟨fun hpos => ?_, ?_, fun hc => ?_⟩⟩)
        · rw [hat (some a) len n l u m' r]; split <;> rfl
        · rw [if_neg (by omega), ((hlive o ho).2 eg).1 (by omega), addr_add, Nat.add_assoc]
        · have := ((hlive o ho).2 eg).2.1
          have e2 := sub_mul_add l m' sz' (by omega)
          have e3 : m' * sz' ≤ n * sz' := Nat.mul_le_mul_right _ g4
          omega
        · obtain ⟨hc0, hmn⟩ := hno hc
          subst hmn
          have := ((hlive o ho).2 eg).2.2 hc0
          have e2 := sub_mul_add l m' sz' (by omega)
          omega
      cases cap with
      | some cp =>
        simp only [Option.map_eq_some_iff] at h
        obtain ⟨⟨l, u, m⟩, hb, hv⟩ := h; dsimp only at hv; subst hv
        have hn := hcap cp rfl
        subst hn
        obtain ⟨m', r, g1, g2, g3, g4, g5, g6, g7, g8⟩ := bounds_run (P := P) h1 h2 h3 (Nat.le_refl n) hlen hb true X.w
        refine key n l u m m' _ (Nat.le_refl _) hlen hb r g1 g5 g4 (fun k hk => ?_) (fun e => by cases e)
        cases hk
        cases mx with
        | none => obtain ⟨q1, q2⟩ := g7 rfl; omega
        | some x => have := g6 x rfl; omega
      | none =>
        simp only [Option.map_eq_some_iff] at h
        obtain ⟨⟨l, u, m⟩, hb, hv⟩ := h; dsimp only at hv; subst hv
        obtain ⟨m', r, g1, g2, g3, g4, g5, g6, g7, g8⟩ := bounds_run (P := P) h1 h2 h3 hlen (Nat.le_refl len) hb true X.w
        refine key len l u m m' _ hlen (Nat.le_refl _) hb r g1 g5 g4 (fun k hk => ?_) (fun e => ⟨rfl, by
          cases mx with
          | none => exact (g7 rfl).2
          | some x => cases e⟩)
        cases mx with
        | none => cases hk
        | some x =>
          simp only [Option.map_some, Option.some.injEq] at hk
          have := g6 x rfl
          omega
    · cases h
  | fs full len cells a n vs hlen hfull hat' ho hvs =>
    simp only [aSlice] at h
    split at h
    · rename_i hcl
      simp only [Option.map_eq_some_iff] at h
      obtain ⟨⟨l, u, m⟩, hb, hv⟩ := h; dsimp only at hv; subst hv
      obtain ⟨m', r, g1, g2, g3, g4, g5, g6, g7, g8⟩ := bounds_run (P := P) h1 h2 h3 hlen (Nat.le_refl len) hb true X.w
      refine Sim.same hR (v' := .slice (some (if m' = l then a else a.add (l * sz))) (u - l) (m' - l)) ?_
        (.fs _ _ _ _ _ ((vs.drop (l * sz)).take ((u - l) * sz)) (by omega) (fun hf => ?_) (fun hne => ?_) ((ho.drop _).take _) ((hvs.drop _).take _))
      · rw [hat (some a) len n l u m' r]; split <;> rfl
      · cases mx with
        | none =>
          obtain ⟨q1, q2⟩ := g7 rfl
          simp only [Bool.and_eq_true, beq_iff_eq] at hf
          have := hfull hf.1
          omega
        | some x =>
          have := g6 x rfl
          simp only [beq_iff_eq] at hf
          omega
      · have hne' : cells ≠ [] := by rintro rfl; simp at hne
        obtain ⟨b, o, rfl, hst, hc⟩ := hat' hne'
        have hml : m' ≠ l := by
          rintro rfl
          have : u - m' = 0 := by omega
          rw [this] at hne
          simp at hne
        rw [if_neg hml]
        exact ⟨b, o + l * sz, addr_add _ _ _, hst, (hc.drop _).take _⟩
    · cases h
  | _ => simp [aSlice] at h

theorem sim_sliceStr (hR : Rel B w0 E X) {t : TypeId} (hu : P.underlying t = some .string) {x : AV} {c : Value} (hx : VRel X x c)
    {lo hi : Option AV} {lo' hi' : Option Value} (h1 : ORel X lo lo') (h2 : ORel X hi hi') {v : AV} (h : aSliceStr x lo hi = some v) :
    Sim B w0 E X P (Instr.sliceAt t c lo' hi' none) v X.h := by
  cases hx with
  | str s =>
    simp only [aSliceStr, Option.map_eq_some_iff] at h
    obtain ⟨⟨l, u, m⟩, hb, hv⟩ := h; dsimp only at hv; subst hv
    have hsz : (⟨s.toArray⟩ : ByteArray).size = s.length := by simp [ByteArray.size]
    obtain ⟨m', r, g1, g2, g3, g4, g5, g6, g7, g8⟩ := bounds_run (P := P) h1 h2 .none (Nat.le_refl s.length) (Nat.le_refl s.length) hb false X.w
    have he : (⟨s.toArray⟩ : ByteArray).extract l u = ⟨((s.drop l).take (u - l)).toArray⟩ := by
      apply ByteArray.ext
      simp [ByteArray.data_extract]
    refine Sim.same hR (v' := .string ⟨((s.drop l).take (u - l)).toArray⟩) ?_ (.str _)
    simp [Instr.sliceAt, Instr.slice, run_underlying hu, hsz, r, he]
  | _ => simp [aSliceStr] at h

/-- A slice of an array in memory. -/
theorem sim_sliceArr (hR : Rel B w0 E X) {t e : TypeId} {n : Nat} (hu : P.underlying t = some (.array n e) ∨ ∃ arr, P.underlying t = some (.pointer arr) ∧ P.underlying arr = some (.array n e)) {sz : Nat}
    (hs : tSize P e = some sz) {x : AV} {c : Value} (hx : VRel X x c) {lo hi mx : Option AV} {lo' hi' mx' : Option Value} (h1 : ORel X lo lo') (h2 : ORel X hi hi') (h3 : ORel X mx mx') {r : OpRes}
    (h : aSliceArr X.h sz n x lo hi mx = some r) : Sim B w0 E X P (Instr.sliceAt t c lo' hi' mx') r.v X.h ∧ r.h = X.h := by
  have hat : ∀ (a : Addr) (l u m' : Nat), (Instr.sliceBounds false n n lo' hi' mx').run P X.w = .ok (l, u, m') X.w →
      (Instr.sliceAt t (.pointer (some a)) lo' hi' mx').run P X.w = .ok (.slice (some (if m' = l then a else a.add (l * sz))) (u - l) (m' - l)) X.w := by
    intro a l u m' hb
    rcases hu with hu | ⟨arr, hu, hu'⟩
    · simp [Instr.sliceAt, run_underlying hu, Instr.sureAddr, hb, run_sizeOf hs]
    · simp [Instr.sliceAt, Instr.slice, run_underlying hu, run_underlying hu', asAddr, hb, run_sizeOf hs]
  cases hx with
  | ptr id gen off a hid hlive =>
    simp only [aSliceArr, Option.bind_eq_some_iff] at h
    obtain ⟨cs, hcs, h⟩ := h
    split at h
    · rename_i hfit
      simp only [Option.map_eq_some_iff] at h
      obtain ⟨⟨l, u, m⟩, hb, hv⟩ := h; dsimp only at hv; subst hv
      obtain ⟨m', r, g1, g2, g3, g4, g5, g6, g7, g8⟩ := bounds_run (P := P) h1 h2 h3 (Nat.le_refl n) (Nat.le_refl n) hb false X.w
      have hmm : m' = m := by
        cases mx with
        | none => obtain ⟨q1, q2⟩ := g7 rfl; omega
        | some x => exact g6 x rfl
      subst hmm
      have hl := Heap.at_some hcs
      refine ⟨Sim.same hR (hat a l u m' r) (.sl _ _ _ _ _ _ _ _ hid (by omega) (fun k hk => by cases hk; rfl) fun o ho => ⟨(hlive o ho).1, fun eg => ⟨fun hpos => ?_, ?_, fun hc => by cases hc⟩⟩), rfl⟩
      · rw [if_neg (by omega), (hlive o ho).2 eg, addr_add, Nat.add_assoc]
      · rw [hl] at ho
        cases ho
        obtain ⟨⟨arr, T, fz, ha, hb', hc, hd, he⟩, hone⟩ := hR.obj id _ hl
        have e2 := sub_mul_add l m' sz (by omega)
        have e3 : m' * sz ≤ n * sz := Nat.mul_le_mul_right _ g3
        dsimp only at hc
        omega
    · cases h
  | fp cells b o vs hst hat' ho hvs =>
    simp only [aSliceArr] at h
    split at h
    · rename_i hfit
      simp only [Option.map_eq_some_iff] at h
      obtain ⟨⟨l, u, m⟩, hb, hv⟩ := h; dsimp only at hv; subst hv
      obtain ⟨m', r, g1, g2, g3, g4, g5, g6, g7, g8⟩ := bounds_run (P := P) h1 h2 h3 (Nat.le_refl n) (Nat.le_refl n) hb false X.w
      have hmm : m' = m := by
        cases mx with
        | none => obtain ⟨q1, q2⟩ := g7 rfl; omega
        | some x => exact g6 x rfl
      subst hmm
      refine ⟨Sim.same hR (hat _ l u m' r) (.fs _ _ _ _ _ ((vs.drop (l * sz)).take ((u - l) * sz)) (by omega) (fun hf => ?_) (fun hne => ?_) ((ho.drop _).take _) ((hvs.drop _).take _)), rfl⟩
      · simp only [beq_iff_eq] at hf; omega
      · have hml : m' ≠ l := by
          rintro rfl
          have : u - m' = 0 := by omega
          rw [this] at hne
          simp at hne
        rw [if_neg hml]
        exact ⟨b, o + l * sz, addr_add _ _ _, hst, (hat'.drop _).take _⟩
    · cases h
  | _ => simp [aSliceArr] at h
end
end Go.AM
/-
  THE ABSTRACT MACHINE AND THE MODEL: append, make, conversions.
-/
set_option linter.unusedSimpArgs false
set_option linter.unusedVariables false
namespace Go.AM
open Go.RowKit

section
variable {B : Nat} {w0 : World} {E : Env} {X : RX} {P : Program}

theorem byteAV_rel (b : UInt8) : VRel X (byteAV b) (.int .u8 b.toNat) := .int _ _

theorem bytes_rel : ∀ (s : List UInt8), VRels X (s.map byteAV) (s.map fun b => Value.int .u8 b.toNat) ∧ allOne (s.map byteAV)
  | [] => ⟨.nil, fun _ h => by cases h⟩
  | b :: s => by
    obtain ⟨h1, h2⟩ := bytes_rel s
    refine ⟨.cons _ _ _ _ (byteAV_rel b) h1, fun v hv => ?_⟩
    cases hv with
    | head => rfl
    | tail _ hv => exact h2 v hv

theorem run_loadCells_at {w : World} {b o : Nat} {vs : List Value} (h : CellsAt w b o vs) {n : Nat} (hl : vs.length = n) : (loadCells ⟨b, o, none⟩ n).run P w = .ok vs.toArray w := by
  subst hl
  exact run_loadCells_list (P := P) w ⟨b, o, none⟩ vs (fun j v hv => by rw [addr_add]; exact h j v hv)

theorem cellsAt_heap {w w' : World} (h : w'.heap = w.heap) {b o : Nat} {vs : List Value} (hc : CellsAt w b o vs) : CellsAt w' b o vs := fun i v hv => by
  rw [← hc i v hv]; simp only [World.cell?, h]

/-- A slice's first cells, in every world of this memory. -/
theorem firstCells_run (hR : Rel B w0 E X) {y : AV} {c : Value} (hy : VRel X y c) {sz n : Nat} {new : List AV} {k : Cls} (h : sliceCells X.h sz n y = some (new, k)) :
    ∃ news, VRels X new news ∧ allOne new ∧ new.length = n * sz ∧ ∀ w' : World, w'.heap = X.w.heap → (Builtin.firstCells sz n c).run P w' = .ok news.toArray w' := by
  cases hy with
  | nils =>
    simp only [sliceCells] at h
    split at h
    · rename_i h0; cases h; exact ⟨[], .nil, (fun _ h => by cases h), by simp [h0], fun w' _ => by simp [Builtin.firstCells]⟩
    · cases h
  | fs full len cells a m vs hlen hfull hat h1 hvs =>
    simp only [sliceCells] at h
    split at h
    · rename_i hc
      obtain ⟨hc1, hc2⟩ := hc
      simp only [Option.some.injEq, Prod.mk.injEq] at h
      obtain ⟨rfl, _⟩ := h
      have hmul : n * sz ≤ len * sz := Nat.mul_le_mul_right _ hc1
      refine ⟨vs.take (n * sz), hvs.take _, h1.take _, by rw [List.length_take, hc2]; omega, fun w' hw => ?_⟩
      simp only [Builtin.firstCells]
      by_cases h0 : n * sz = 0
      · rw [h0]; simp [loadCells, loadCellsFrom]
      · have hne : cells ≠ [] := by rintro rfl; simp at hc2; omega
        obtain ⟨b, o, rfl, hst, hca⟩ := hat hne
        exact run_loadCells_at (cellsAt_heap hw (hca.take _)) (by rw [List.length_take, ← hvs.length, hc2]; omega)
    · cases h
  | sl id gen off sz' len cap a m hid hlen hcap hlive =>
    simp only [sliceCells] at h
    split at h
    · rename_i hc
      obtain ⟨rfl, hc2⟩ := hc
      simp only [Option.bind_eq_some_iff] at h
      obtain ⟨cs, hcs, h⟩ := h
      split at h
      · rename_i hfit
        simp only [Option.some.injEq, Prod.mk.injEq] at h
        obtain ⟨rfl, _⟩ := h
        have hl := Heap.at_some hcs
        obtain ⟨vs, g1, g2⟩ := (hR.obj id _ hl).at off
        have hlen' := g1.length
        simp only [List.length_drop] at hlen'
        refine ⟨vs.take (n * sz'), g1.take _, ((hR.obj id _ hl).one.drop off).take _, by simp; omega, fun w' hw => ?_⟩
        simp only [Builtin.firstCells]
        by_cases h0 : n * sz' = 0
        · rw [h0]; simp [loadCells, loadCellsFrom]
        · have hpos : 0 < n := Nat.pos_of_ne_zero fun e => h0 (by rw [e]; simp)
          have ha := ((hlive _ hl).2 rfl).1 (by omega)
          subst ha
          exact run_loadCells_at (cellsAt_heap hw (g2.take _)) (by rw [List.length_take]; omega)
      · cases h
    · cases h
  | str s =>
    simp only [sliceCells] at h
    split at h
    · rename_i hc
      obtain ⟨rfl, hc2⟩ := hc
      simp only [Option.some.injEq, Prod.mk.injEq] at h
      obtain ⟨rfl, _⟩ := h
      obtain ⟨g1, g2⟩ := bytes_rel (X := X) (s.take n)
      refine ⟨_, g1, g2, by simp; omega, fun w' hw => ?_⟩
      have he : (⟨s.toArray⟩ : ByteArray).extract 0 n = ⟨(s.take n).toArray⟩ := by
        apply ByteArray.ext
        simp [ByteArray.data_extract]
      simp [Builtin.firstCells, he]
    · cases h
  | _ => simp [sliceCells] at h

/-- what a value of a slice's kind has for its length -/
theorem lenOf_run {y : AV} {c : Value} (hy : VRel X y c) {n : Nat} (h : aLen y = some n) (w : World) : (Builtin.lenOf c).run P w = .ok n w := by
  cases hy <;> simp only [aLen, Option.some.injEq, reduceCtorEq] at h <;> subst h <;> simp [Builtin.lenOf, ByteArray.size]

structure AppT (P : Program) (t u e : TypeId) (sz bytes : Nat) : Prop where
  ht : P.underlying t = some (.slice e)
  hu : P.underlying u = some (.slice e) ∨ P.underlying u = some .string
  hs : tSize P e = some sz
  hb : tBytes P e = some bytes
  hz : ∃ z, tZero P e = some z ∧ z.length = sz

theorem zeroCells_size (z : Array Value) (n : Nat) : (Builtin.zeroCells z n).size = n * z.size := by simp [Builtin.zeroCells]

/-- An append that makes a new array. -/
theorem run_append_new {t u e ty : TypeId} {sz bytes : Nat} (hT : AppT P t u e sz bytes) {base : Option Addr} {len cap n : Nat} {y : Value} (w : World)
    (hly : (Builtin.lenOf y).run P w = .ok n w) (hg : cap < len + n) (hsm : (len + n) * bytes ≤ 70368744177664) (hsm' : len + n ≤ 70368744177664) {olds news : List Value}
    (ho : ∀ w' : World, w'.heap = w.heap → (Builtin.firstCells sz len (.slice base len cap)).run P w' = .ok olds.toArray w')
    (hn : ∀ w' : World, w'.heap = w.heap → (Builtin.firstCells sz n y).run P w' = .ok news.toArray w') :
    ∃ zc : Array Value, zc.size = sz ∧ (Builtin.append_ #[t, u] ty #[.slice base len cap, y]).run P w =
      .ok (.slice (some ⟨w.heap.size, 0, none⟩) (len + n) (grownCap w (len + n) cap e))
        (w.drew.alloc (.cells (olds.toArray ++ news.toArray ++ Builtin.zeroCells zc (grownCap w (len + n) cap e - (len + n))) e)) := by
  obtain ⟨z, hz, hzl⟩ := hT.hz
  obtain ⟨i, zv, hi, hiz, hm⟩ := tZero_info hz
  obtain ⟨i', hi', hs⟩ := tSize_info hT.hs
  obtain ⟨i2, hi2, hb⟩ := tBytes_info hT.hb
  rw [hi] at hi' hi2
  cases hi'; cases hi2
  have hzs : zv.cells.size = sz := by
    have := (mapM_cellAV (X := ⟨w, .empty, fun _ => ⟨0, 0, 0⟩, fun _ => False⟩) hm).1.length
    simp at this; omega
  refine ⟨zv.cells, hzs, ?_⟩
  have h1 : ¬ (len + n ≤ cap) := by omega
  have h2 : ¬ (((len + n : Nat) : Int) > IntKind.i64.max) := by
    have : IntKind.i64.max = 9223372036854775807 := by decide
    rw [this]; omega
  have h3 : ¬ (Builtin.nextslicecap (len + n) cap * i.bytes > 2 ^ 48) := by
    have := growslice_fits (bytes := i.bytes) hg (by rw [hb]; omega)
    omega
  have ho' := ho w.drew rfl
  have hn' := hn w.drew rfl
  have h4 : ¬ (9223372036854775807 < (len : Int) + (n : Int)) := by omega
  have h5 : ¬ (281474976710656 < Builtin.nextslicecap (len + n) cap * i.bytes) := by omega
  have hq : (Question.appendCap (len + n) cap e).forced = false := rfl
  have hsz := run_sizeOf hT.hs
  rcases hT.hu with hu | hu <;>
  simp [Builtin.append_, run_underlying hT.ht, run_underlying hu, hsz, typeInfo, zeroValue, hi, hiz, hly, h1, h4, h5, hq, ho', hn', newRow, grownCap] <;>
  (congr 2; apply Array.ext'; simp)

/-- An append for which there is room. -/
theorem run_append_in {t u e ty : TypeId} {sz bytes : Nat} (hT : AppT P t u e sz bytes) {a : Addr} {len cap n : Nat} {y : Value} (w w' : World)
    (hly : (Builtin.lenOf y).run P w = .ok n w) (hg : len + n ≤ cap) {news : List Value}
    (hn : (Builtin.firstCells sz n y).run P w = .ok news.toArray w) (hst : (storeCells (a.add (len * sz)) news).run P w = .ok () w') :
    (Builtin.append_ #[t, u] ty #[.slice (some a) len cap, y]).run P w = .ok (.slice (some a) (len + n) cap) w' := by
  have hsz := run_sizeOf hT.hs
  rcases hT.hu with hu | hu <;>
  simp [Builtin.append_, run_underlying hT.ht, run_underlying hu, hsz, hly, hg, hn, hst]

theorem run_append_in_nil {t u e ty : TypeId} {sz bytes : Nat} (hT : AppT P t u e sz bytes) {y : Value} (w : World)
    (hly : (Builtin.lenOf y).run P w = .ok 0 w) {news : List Value} (hn : (Builtin.firstCells sz 0 y).run P w = .ok news.toArray w) :
    (Builtin.append_ #[t, u] ty #[.slice none 0 0, y]).run P w = .ok (.slice none 0 0) w := by
  have hsz := run_sizeOf hT.hs
  rcases hT.hu with hu | hu <;>
  simp [Builtin.append_, run_underlying hT.ht, run_underlying hu, hsz, hly, hn]

theorem grow_arr {w : World} {olds news : List Value} {zc : Array Value} {sz len n cap : Nat} {e : TypeId} (hz : zc.size = sz) (ho : olds.length = len * sz) (hn : news.length = n * sz) :
    (olds.toArray ++ news.toArray ++ Builtin.zeroCells zc (grownCap w (len + n) cap e - (len + n))).size = grownCap w (len + n) cap e * sz := by
  have hge := grownCap_ge w (len + n) cap e
  simp only [Array.size_append, List.size_toArray, ho, hn, zeroCells_size, hz]
  rw [← Nat.add_mul, ← Nat.add_mul]
  congr 1
  omega

theorem take_two {olds news : List Value} {z : Array Value} {k : Nat} (h : k = olds.length + news.length) : (olds.toArray ++ news.toArray ++ z).toList.take k = olds ++ news := by
  subst h
  simp only [Array.toList_append]
  rw [List.take_append_of_le_length (by simp)]
  exact List.take_of_length_le (by simp)

/-- An append that makes a new object. -/
theorem sim_append_new (hR : Rel B w0 E X) {t u e ty : TypeId} {sz bytes : Nat} (hT : AppT P t u e sz bytes) {base : Option Addr} {len cap n : Nat} {y : Value} {old new : List AV}
    (hly : (Builtin.lenOf y).run P X.w = .ok n X.w) (hg : cap < len + n) (hsm : (len + n) * bytes ≤ 70368744177664) (hsm' : len + n ≤ 70368744177664) {olds news : List Value}
    (ro : VRels X old olds) (rn : VRels X new news) (oo : allOne old) (on : allOne new) (lo : old.length = len * sz) (ln : new.length = n * sz)
    (ho : ∀ w' : World, w'.heap = X.w.heap → (Builtin.firstCells sz len (.slice base len cap)).run P w' = .ok olds.toArray w')
    (hn : ∀ w' : World, w'.heap = X.w.heap → (Builtin.firstCells sz n y).run P w' = .ok news.toArray w') :
    Sim B w0 E X P (Builtin.append_ #[t, u] ty #[.slice base len cap, y]) (.sl X.h.next 0 0 sz (len + n) none) (X.h.new (old ++ new)) := by
  obtain ⟨zc, hzc, hrun⟩ := run_append_new (ty := ty) hT X.w hly hg hsm hsm' ho hn
  have l1 := ro.length
  have l2 := rn.length
  have hsz := grow_arr (w := X.w) (olds := olds) (news := news) (cap := cap) (e := e) hzc (l1.symm.trans lo) (l2.symm.trans ln)
  have hge := grownCap_ge X.w (len + n) cap e
  have hmul : (len + n) * sz ≤ grownCap X.w (len + n) cap e * sz := Nat.mul_le_mul_right _ hge
  rw [Nat.add_mul] at hmul
  refine Sim.new_ hR (below_drew_alloc X.w _) (Nat.le_refl _) (oo.append on) (by rw [← World.size_drew]; exact heap_new X.w.drew _) (.inl rfl) (by rw [hsz, List.length_append]; omega) ?_ hrun
    (VRel.newSl _ _ _ _ _ _ _ _ hge (fun _ h => by cases h) (by rw [hsz]; exact Nat.le_refl _) (fun _ => hsz.symm))
  rw [take_two (by rw [List.length_append]; omega)]
  exact ro.append rn

theorem sim_append (hR : Rel B w0 E X) {t u e ty : TypeId} {sz bytes : Nat} (hT : AppT P t u e sz bytes) {x y : AV} {c d : Value} (hx : VRel X x c) (hy : VRel X y d) {r : OpRes}
    (h : aAppend X.h sz bytes x y = some r) : Sim B w0 E X P (Builtin.append_ #[t, u] ty #[c, d]) r.v r.h := by
  simp only [aAppend, Option.bind_eq_some_iff] at h
  obtain ⟨n, hn, len, hlen, h⟩ := h
  split at h
  case isFalse => cases h
  rename_i hsm
  obtain ⟨hsm, hsm', hsz0⟩ := hsm
  have hly := lenOf_run (P := P) hy hn X.w
  split at h
  · -- nothing to append
    rename_i h0
    subst h0
    have hfc : ∃ news : List Value, (Builtin.firstCells sz 0 d).run P X.w = .ok news.toArray X.w ∧ news = [] := by
      refine ⟨[], ?_, rfl⟩
      cases hy <;> simp only [aLen, Option.some.injEq, reduceCtorEq] at hn <;> simp [Builtin.firstCells, loadCells, loadCellsFrom]
    obtain ⟨news, hfc, rfl⟩ := hfc
    cases hx with
    | nils =>
      cases h
      exact Sim.same hR (run_append_in_nil hT X.w hly hfc) .nils
    | str => cases h
    | fs full len' cells a m vs hlen' hfull hat h1 hvs =>
      simp only [aLen, Option.some.injEq] at hlen
      subst hlen
      cases h
      exact Sim.same hR (run_append_in hT X.w X.w hly (by omega) hfc (by simp [storeCells])) (.fs _ _ _ _ _ _ hlen' hfull hat h1 hvs)
    | sl id gen off sz' len' cap a m hid hlen' hcap hlive =>
      simp only [aLen, Option.some.injEq] at hlen
      subst hlen
      cases h
      exact Sim.same hR (run_append_in hT X.w X.w hly (by omega) hfc (by simp [storeCells])) (.sl _ _ _ _ _ _ _ _ hid hlen' hcap hlive)
    | _ => simp [aLen] at hlen
  rename_i h0
  simp only [Option.bind_eq_some_iff] at h
  obtain ⟨⟨new, kn⟩, hnew, h⟩ := h
  obtain ⟨news, rn, on, ln, hfn⟩ := firstCells_run (P := P) hR hy hnew
  have l2 := rn.length
  cases hx with
  | nils =>
    simp only [aLen, Option.some.injEq] at hlen
    subst hlen
    simp only [Option.map_eq_some_iff] at h
    obtain ⟨⟨old, ko⟩, hold, rfl⟩ := h
    obtain ⟨olds, ro, oo, lo, hfo⟩ := firstCells_run (P := P) hR .nils hold
    exact sim_append_new hR hT hly (by omega) hsm hsm' ro rn oo on lo ln hfo hfn
  | fs full len' cells a m vs hlen' hfull hat h1 hvs =>
    simp only [aLen, Option.some.injEq] at hlen
    subst hlen
    cases full with
    | false => cases h
    | true =>
      simp only [Option.map_eq_some_iff] at h
      obtain ⟨⟨old, ko⟩, hold, rfl⟩ := h
      obtain ⟨olds, ro, oo, lo, hfo⟩ := firstCells_run (P := P) hR (.fs _ _ _ _ _ _ hlen' hfull hat h1 hvs) hold
      have hm := hfull rfl
      exact sim_append_new hR hT hly (by omega) hsm hsm' ro rn oo on lo ln hfo hfn
  | sl id gen off sz' len' cap a m hid hlen' hcap hlive =>
    simp only [aLen, Option.some.injEq] at hlen
    subst hlen
    -- there is room within the object
    have room : ∀ (cs : List AV), X.h.at_ id gen = some cs → sz' = sz → len' + n ≤ m → off + (len' + n) * sz ≤ cs.length →
        Sim B w0 E X P (Builtin.append_ #[t, u] ty #[.slice (some a) len' m, d]) (.sl id gen off sz (len' + n) cap) (X.h.upd id gen (splice cs (off + len' * sz) new)) := by
      intro cs hcs hsz hm hfit
      subst hsz
      have hl := Heap.at_some hcs
      have ha := ((hlive _ hl).2 rfl).1 (by omega)
      rw [Nat.add_mul] at hfit
      obtain ⟨X', g1, g2, g3, g4, g5⟩ := sim_splice (P := P) hR hl rn on (off := off + len' * sz') (by rw [ln]; dsimp only; omega)
      refine ⟨X', .slice (some a) (len' + n) m, ?_, g2, g3, g4, ?_⟩
      · refine run_append_in hT X.w X'.w hly hm (hfn X.w rfl) ?_
        rw [ha, addr_add, Nat.add_assoc]
        exact g1
      · have hold := (VRel.sl id gen off sz' len' cap a m hid hlen' hcap hlive).ext g4
        cases hold with
        | sl _ _ _ _ _ _ _ _ q1 q2 q3 q4 => exact .sl _ _ _ _ _ _ _ _ q1 hm q3 q4
    cases cap with
    | some c0 =>
      have hm := hcap c0 rfl
      subst hm
      simp only at h
      split at h
      case isFalse => cases h
      rename_i hsz
      subst hsz
      split at h
      · rename_i hroom
        simp only [Option.bind_eq_some_iff] at h
        obtain ⟨cs, hcs, h⟩ := h
        split at h
        · rename_i hfit
          cases h
          exact room cs hcs rfl hroom hfit
        · cases h
      · rename_i hroom
        simp only [Option.map_eq_some_iff] at h
        obtain ⟨⟨old, ko⟩, hold, rfl⟩ := h
        obtain ⟨olds, ro, oo, lo, hfo⟩ := firstCells_run (P := P) hR (.sl _ _ _ _ _ _ _ _ hid hlen' hcap hlive) hold
        exact sim_append_new hR hT hly (by omega) hsm hsm' ro rn oo on lo ln hfo hfn
    | none =>
      simp only at h
      split at h
      case isFalse => cases h
      rename_i hsz
      subst hsz
      simp only [Option.bind_eq_some_iff] at h
      obtain ⟨cs, hcs, h⟩ := h
      have hl := Heap.at_some hcs
      obtain ⟨⟨arr, T, fz, ha, hb, hc, hd, he⟩, hone⟩ := hR.obj id _ hl
      dsimp only at hc he hone
      obtain ⟨hl1, hl2, hl3⟩ := (hlive _ hl).2 rfl
      have hl3 := hl3 rfl
      split at h
      · rename_i hfit
        cases h
        by_cases hm : len' + n ≤ m
        · exact room cs hcs rfl hm hfit
        · exfalso
          have : (m + 1) * sz' ≤ (len' + n) * sz' := Nat.mul_le_mul_right _ (by omega)
          rw [Nat.succ_mul] at this
          omega
      · rename_i hfit
        split at h
        case isFalse => cases h
        rename_i hend
        cases h
        have hcl : (cs.drop off ++ new).length = (len' + n) * sz' := by rw [List.length_append, List.length_drop, ln, Nat.add_mul]; omega
        have hon : allOne (cs.drop off ++ new) := (hone.drop off).append on
        by_cases hm : len' + n ≤ m
        · -- in place
          have hmul : (len' + n) * sz' ≤ m * sz' := Nat.mul_le_mul_right _ hm
          rw [Nat.add_mul] at hmul
          have ha' := hl1 (by omega)
          have hrun := run_storeCells_bare (P := P) (X.ρ id).b ((X.ρ id).o + off + len' * sz') T fz news 0 arr X.w ha (by rw [hb]; exact hd) (by omega) (rn.oneCells on)
          simp only [Nat.add_zero] at hrun
          have hrow := setRow_heap X.w (X.ρ id).b arr (arr.toList.take ((X.ρ id).o + off + len' * sz') ++ news ++ arr.toList.drop ((X.ρ id).o + off + len' * sz' + news.length)).toArray T fz ha
          have hasz : (arr.toList.take ((X.ρ id).o + off + len' * sz') ++ news ++ arr.toList.drop ((X.ρ id).o + off + len' * sz' + news.length)).toArray.size = arr.size := by
            simp; omega
          have hU := Rel.upd hR hl (setRow_only X.w _ _) (gen := gen + 1) (cs := cs.drop off ++ new) (p := ⟨(X.ρ id).b, (X.ρ id).o + off, (X.ρ id).n⟩) (Nat.le_succ _) (fun e => by simp at e) (.inl rfl) hon
            hrow (hasz.trans hb) hd (by dsimp only; rw [hcl, Nat.add_mul]; omega) ?_
          · refine ⟨_, .slice (some a) (len' + n) m, run_append_in hT X.w _ hly hm (hfn X.w rfl) (by rw [ha', addr_add]; exact hrun), rfl, hU,
              Ext.upd hR hl (setRow_only X.w _ _) (Nat.le_succ _) (fun e => by simp at e) (.inl rfl), ?_⟩
            refine .sl _ _ _ _ _ _ _ _ hid hm (fun _ e => by cases e) fun o ho => ?_
            simp only [RX.upd, Heap.look_upd, ↓reduceIte, Option.some.injEq] at ho ⊢
            subst ho
            exact ⟨Nat.le_refl _, fun _ => ⟨fun _ => by rw [ha']; simp, by omega, fun _ => by omega⟩⟩
          · have h1 := (he.drop off).append rn
            have e : List.take (cs.drop off ++ new).length (List.drop ((X.ρ id).o + off) (arr.toList.take ((X.ρ id).o + off + len' * sz') ++ news ++ arr.toList.drop ((X.ρ id).o + off + len' * sz' + news.length)).toArray.toList)
                = List.drop off (List.take cs.length (List.drop (X.ρ id).o arr.toList)) ++ news := by
              rw [hcl, Nat.add_mul]
              apply List.ext_getElem?
              intro k
              simp only [List.getElem?_take, List.getElem?_drop, List.getElem?_append, List.length_append, List.length_take, List.length_drop, Array.length_toList, Nat.min_def]
              repeat' split
              all_goals first
                | rfl
                | (exfalso; omega)
                | (congr 1; omega)
                | (simp only [List.getElem?_eq_none_iff, Array.length_toList]; omega)
                | (symm; simp only [List.getElem?_eq_none_iff, Array.length_toList]; omega)
            rw [e]
            exact h1
        · -- the array moves
          have hold : sliceCells X.h sz' len' (.sl id gen off sz' len' none) = some (cs.drop off, .read) := by
            simp only [sliceCells, hcs, Option.bind_some]
            rw [if_pos (Nat.le_of_eq hend), List.take_of_length_le (by simp; omega), if_pos ⟨trivial, Nat.le_refl _⟩]
          obtain ⟨olds, ro, oo, lo, hfo⟩ := firstCells_run (P := P) hR (.sl _ _ _ _ _ _ _ _ hid hlen' hcap hlive) hold
          obtain ⟨zc, hzc, hrun⟩ := run_append_new (ty := ty) hT X.w hly (by omega) hsm hsm' hfo hfn
          have l1 := ro.length
          have hasz := grow_arr (w := X.w) (olds := olds) (news := news) (cap := m) (e := e) hzc (l1.symm.trans lo) (l2.symm.trans ln)
          have hge := grownCap_ge X.w (len' + n) m e
          have hmul : (len' + n) * sz' ≤ grownCap X.w (len' + n) m e * sz' := Nat.mul_le_mul_right _ hge
          have hB := below_drew_alloc X.w (.cells (olds.toArray ++ news.toArray ++ Builtin.zeroCells zc (grownCap X.w (len' + n) m e - (len' + n))) e)
          have hO : Only (X.ρ id).b X.w (X.w.drew.alloc (.cells (olds.toArray ++ news.toArray ++ Builtin.zeroCells zc (grownCap X.w (len' + n) m e - (len' + n))) e)) :=
            ⟨hB.os, hB.tape, hB.output, hB.size, fun k hk _ => hB.block k hk⟩
          have hU := Rel.upd hR hl hO (gen := gen + 1) (cs := cs.drop off ++ new) (p := ⟨X.w.heap.size, 0, grownCap X.w (len' + n) m e * sz'⟩) (Nat.le_succ _) (fun e => by simp at e) (.inr (Nat.le_refl _)) hon
            (by rw [← World.size_drew]; exact heap_new X.w.drew _) hasz (.inl rfl) (by dsimp only; rw [hcl]; omega) ?_
          · refine ⟨_, _, hrun, rfl, hU, Ext.upd hR hl hO (Nat.le_succ _) (fun e => by simp at e) (.inr (Nat.le_refl _)), ?_⟩
            refine .sl _ _ _ _ _ _ _ _ hid hge (fun _ e => by cases e) fun o ho => ?_
            simp only [RX.upd, Heap.look_upd, ↓reduceIte, Option.some.injEq] at ho ⊢
            subst ho
            exact ⟨Nat.le_refl _, fun _ => ⟨fun _ => by simp, by simp, fun _ => by simp⟩⟩
          · rw [List.drop_zero, take_two (by rw [List.length_append, l1, l2])]
            exact ro.append rn
  | str => simp at h
  | _ => simp [aLen] at hlen
end
end Go.AM
