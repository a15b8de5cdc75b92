/-
  THE ABSTRACT MACHINE AND THE MODEL: calls, regions in the order of the text.
-/
import Derived.Test.YtaielgjmhbjfhaaGreatDoorAmOps
import Derived.Laws.StructEq
import Derived.Laws.Strings
import Derived.Laws.BytesString
import Derived.IntWalk
import Derived.Lib.AppendZeros
import Derived.Scope
set_option linter.unusedSimpArgs false
set_option linter.unusedVariables false
namespace Go.AM
open Go.RowKit
section
variable {B : Nat} {w0 : World} {E : Env} {X : RX} {P : Program}
/-- Likewise of what answers nothing. -/
def SimU (B : Nat) (w0 : World) (E : Env) (X : RX) (P : Program) (s : Sem Unit) (h : Heap) : Prop :=
  ∃ X', s.run P X.w = .ok () X'.w ∧ X'.h = h ∧ Rel B w0 E X' ∧ Ext X X'
theorem below_alloc' (w : World) (o : Obj) : Below w.heap.size w (w.alloc o) := (Below.refl _ _).alloc (Nat.le_refl _) o
theorem below_drew_alloc (w : World) (o : Obj) : Below w.heap.size w (w.drew.alloc o) := ((Below.refl _ _).drew).alloc (Nat.le_refl _) o
theorem heap_new (w : World) (o : Obj) : (w.alloc o).heap[w.heap.size]? = some o := heap_alloc_new w o
/-- A new object, its block being laid by the run. -/
theorem Sim.new_ (hR : Rel B w0 E X) {s : Sem Value} {w' : World} {cs : List AV} {b : Nat} (hb : Below X.w.heap.size X.w w') (hbn : X.w.heap.size ≤ b) (h1 : allOne cs)
    {arr : Array Value} {T : TypeId} {fz : Nat × Nat} (hat : w'.heap[b]? = some (.cells arr T fz)) (hfz : Bare arr.size fz) (hle : cs.length ≤ arr.size)
    (hvs : VRels X cs (arr.toList.take cs.length)) {v : AV} {v' : Value} (hrun : s.run P X.w = .ok v' w')
    (hv : VRel (X.new w' cs b arr.size) v v') : Sim B w0 E X P s v (X.h.new cs) :=
  ⟨X.new w' cs b arr.size, v', hrun, rfl, hR.new hb hbn h1 hat hfz hle hvs, Ext.new hR hb cs hbn arr.size, hv⟩
theorem VRel.newPtr (w' : World) (cs : List AV) (b n : Nat) : VRel (X.new w' cs b n) (.ptr X.h.next 0 0) (.pointer (some ⟨b, 0, none⟩)) := by
  refine .ptr _ _ _ _ (Nat.lt_succ_self _) fun o ho => ?_
  have hr : (X.new w' cs b n).ρ X.h.next = ⟨b, 0, n⟩ := if_pos rfl
  simp only [RX.new, Heap.look_new, ↓reduceIte, Option.some.injEq] at ho
  subst ho
  rw [hr]
  exact ⟨Nat.le_refl _, fun _ => rfl⟩
theorem VRel.newSl (w' : World) (cs : List AV) (b n sz len c : Nat) (cap : Option Nat) (hlen : len ≤ c) (hcap : ∀ k, cap = some k → c = k) (hfit : c * sz ≤ n) (hend : cap = none → c * sz = n) :
    VRel (X.new w' cs b n) (.sl X.h.next 0 0 sz len cap) (.slice (some ⟨b, 0, none⟩) len c) := by
  refine .sl _ _ _ _ _ _ _ _ (Nat.lt_succ_self _) hlen hcap fun o ho => ?_
  have hr : (X.new w' cs b n).ρ X.h.next = ⟨b, 0, n⟩ := if_pos rfl
  simp only [RX.new, Heap.look_new, ↓reduceIte, Option.some.injEq] at ho
  subst ho
  rw [hr]
  exact ⟨Nat.le_refl _, fun _ => ⟨fun _ => rfl, by simpa using hfit, fun e => by simpa using hend e⟩⟩
/-- Memory that is laid and never written. -/
theorem Still.new (hR : Rel B w0 E X) {w' : World} (hb : Below X.w.heap.size X.w w') {b : Nat} (hbn : X.w.heap.size ≤ b) (hlt : b < w'.heap.size) : RX.Still { X with w := w' } b :=
  ⟨hlt, fun hF => by have := hR.Flt b hF; omega, fun ⟨id, o, ho, he⟩ => by
    have := (hR.obj id o ho).lt
    simp only at he
    omega⟩
theorem tZero_info {t : TypeId} {zs : List AV} (h : tZero P t = some zs) : ∃ i z, P.info? t = some i ∧ i.zero = some z ∧ z.cells.toList.mapM cellAV = some zs := by
  simp only [tZero, Option.bind_eq_bind, Option.bind_eq_some_iff] at h
  obtain ⟨i, hi, z, hz, h⟩ := h
  exact ⟨i, z, hi, hz, h⟩
theorem sim_alloc (hR : Rel B w0 E X) {t : TypeId} {zs : List AV} (hz : tZero P t = some zs) :
    Sim B w0 E X P (Instr.alloc t true (.tuple #[])) (.ptr X.h.next 0 0) (X.h.new zs) := by
  obtain ⟨i, z, hi, hz, hm⟩ := tZero_info hz
  obtain ⟨h1, h2⟩ := mapM_cellAV (X := X) hm
  have hl := h1.length
  refine Sim.new_ hR (below_alloc' X.w (.cells z.cells t)) (Nat.le_refl _) h2 (heap_new X.w _) (.inl rfl) (by simpa using Nat.le_of_eq hl) (by rw [hl, List.take_length]; exact h1) ?_ (VRel.newPtr _ _ _ _)
  simp [Instr.alloc, zeroValue, typeInfo, hi, hz, newVar, newRow]
theorem sim_box (hR : Rel B w0 E X) {t : TypeId} {v : AV} {c : Value} (hv : VRel X v c) {vs : List AV} (hr : v.row = some vs) :
    Sim B w0 E X P (Instr.box t c) (.ptr X.h.next 0 0) (X.h.new vs) := by
  obtain ⟨h1, h2⟩ := hv.row hr
  have hl := h1.length
  refine Sim.new_ hR (below_alloc' X.w (.cells c.cells t)) (Nat.le_refl _) h2 (heap_new X.w _) (.inl rfl) (by simpa using Nat.le_of_eq hl) (by rw [hl, List.take_length]; exact h1) ?_ (VRel.newPtr _ _ _ _)
  simp [Instr.box, newVar, newRow]
theorem sim_boxStill (hR : Rel B w0 E X) {t : TypeId} {v : AV} {c : Value} (hv : VRel X v c) {vs : List AV} (hr : v.row = some vs) :
    Sim B w0 E X P (Instr.box t c) (.fp vs) X.h := by
  obtain ⟨h1, h2⟩ := hv.row hr
  have hb := below_alloc' X.w (.cells c.cells t)
  refine ⟨{ X with w := X.w.alloc (.cells c.cells t) }, .pointer (some ⟨X.w.heap.size, 0, none⟩), ?_, rfl, hR.grow hb, Ext.grow X hb,
    .fp vs _ _ _ (Still.new hR hb (Nat.le_refl _) (by simp)) (fun i u hu => ?_) h2 (h1.ext (Ext.grow X hb))⟩
  · simp [Instr.box, newVar, newRow]
  · simpa [World.cell?_alloc_new] using hu
theorem foldl_lay (off : Nat) : ∀ (vs : List Value) (s : Nat) (cs : Array Value), off + s + vs.length ≤ cs.size →
    ((vs.zipIdx s).foldl (fun (cs : Array Value) (x : Value × Nat) => cs.setIfInBounds (off + x.2) x.1) cs).toList = cs.toList.take (off + s) ++ vs ++ cs.toList.drop (off + s + vs.length)
  | [], s, cs, _ => by simp
  | v :: rest, s, cs, h => by
    have ih := foldl_lay off rest (s + 1) (cs.setIfInBounds (off + s) v) (by simp at h ⊢; omega)
    simp only [List.zipIdx_cons, List.foldl_cons]
    rw [ih]
    have e := list_seg_step cs.toList (off + s) v rest (by simp at h ⊢; omega)
    simpa [Array.toList_setIfInBounds, Nat.add_assoc] using e
theorem fill_rel {place : Nat → Option (Nat × Nat)} {n : Nat} {σ : Slots} {a : Act} (hR : Rel B w0 E X) (k : SRel X n σ a.tmps) :
    ∀ {parts : List (Nat × Operand)} {ps : List (Nat × Nat × Opd)}, trParts place parts = some ps → ∀ {l : List (Nat × Nat × AV)}, E.parts σ ps = some l →
    ∀ {zs rs : List AV} {cs : Array Value}, VRels X zs cs.toList → allOne zs → aFill zs l = some rs →
    ∃ cs', Instr.fill place cs (parts.map fun x => (x.1, a.eval x.2)) = some cs' ∧ VRels X rs cs'.toList ∧ allOne rs
  | [], ps, ht, l, hl, zs, rs, cs, hz, h1, hf => by
    simp only [trParts, Option.some.injEq] at ht; subst ht
    simp only [Env.parts, Option.some.injEq] at hl; subst hl
    simp only [aFill, Option.some.injEq] at hf; subst hf
    exact ⟨cs, rfl, hz, h1⟩
  | (i, x) :: r, ps, ht, l, hl, zs, rs, cs, hz, h1, hf => by
    simp only [trParts, Option.pure_def, Option.bind_eq_bind, Option.bind_eq_some_iff] at ht
    obtain ⟨⟨off, sz⟩, hp, y, hy, ps', hps, e⟩ := ht
    cases e
    simp only [Env.parts, Option.bind_eq_some_iff, Option.map_eq_some_iff] at hl
    obtain ⟨v, hv, l', hl', rfl⟩ := hl
    simp only [aFill, Option.bind_eq_some_iff] at hf
    obtain ⟨vs, hvs, hf⟩ := hf
    split at hf
    · rename_i hc
      obtain ⟨hc1, hc2⟩ := hc
      have hrel := opd_rel hR k hy hv
      obtain ⟨r1, r2⟩ := hrel.row hvs
      have hlen := r1.length
      have hzl := hz.length
      simp only [Array.length_toList] at hlen hzl
      have hlay := foldl_lay off (a.eval x).cells.toList 0 cs (by simp; omega)
      have hcond : ((a.eval x).cells.size ≠ sz || decide (off + (a.eval x).cells.size > cs.size)) = false := by
        simp; omega
      have hfold : ((a.eval x).cells.zipIdx.foldl (fun (cs : Array Value) (x : Value × Nat) => cs.setIfInBounds (off + x.2) x.1) cs) =
          (((a.eval x).cells.toList.zipIdx 0).foldl (fun (cs : Array Value) (x : Value × Nat) => cs.setIfInBounds (off + x.2) x.1) cs) := by
        rw [← Array.foldl_toList]; simp
      have hz' : VRels X (splice zs off vs) ((a.eval x).cells.zipIdx.foldl (fun (cs : Array Value) (x : Value × Nat) => cs.setIfInBounds (off + x.2) x.1) cs).toList := by
        rw [hfold, hlay]
        simpa using hz.splice r1 off
      obtain ⟨cs', g1, g2, g3⟩ := fill_rel hR k hps hl' hz' (h1.splice r2 off) hf
      refine ⟨cs', ?_, g2, g3⟩
      simp only [List.map_cons, Instr.fill, hp]
      rw [if_neg (by simpa using hcond)]
      exact g1
    · cases hf
theorem fieldPlaces_run : ∀ {fs : List Field} {ps : List (Nat × Nat)}, fieldPlaces P fs = some ps → ∀ w : World,
    (fs.mapM (fun f => (do pure (f.offset, ← sizeOf f.type) : Sem (Nat × Nat)))).run P w = .ok ps w
  | [], ps, h, w => by simp only [fieldPlaces, Option.some.injEq] at h; subst h; simp
  | f :: fs, ps, h, w => by
    simp only [fieldPlaces, Option.pure_def, Option.bind_eq_bind, Option.bind_eq_some_iff] at h
    obtain ⟨s, hs, r, hr, e⟩ := h
    cases e
    have ih := fieldPlaces_run hr w
    simp only [List.mapM_cons, Sem.run_bind, run_sizeOf hs, Result.andThen_ok, Sem.run_pure, ih]
theorem sim_build (hR : Rel B w0 E X) {n : Nat} {σ : Slots} {a : Act} (k : SRel X n σ a.tmps) {t : TypeId} {parts : Array (Nat × Operand)} {zero : List AV} {ps : List (Nat × Nat × Opd)}
    (ht : trBuild P t parts = some (.build zero ps)) {l : List (Nat × Nat × AV)} (hl : E.parts σ ps = some l) {cs : List AV} (hf : aFill zero l = some cs) :
    Sim B w0 E X P (Instr.build t (parts.map fun (i, x) => (i, a.eval x))) (.agg cs) X.h := by
  simp only [trBuild, Option.bind_eq_bind, Option.bind_eq_some_iff] at ht
  obtain ⟨zs, hz, d, hd, ht⟩ := ht
  obtain ⟨i, z, hi, hz, hm⟩ := tZero_info hz
  obtain ⟨h1, h2⟩ := mapM_cellAV (X := X) hm
  have hpm : (parts.map fun (i, x) => (i, a.eval x)).toList = parts.toList.map fun x => (x.1, a.eval x.2) := by simp
  cases d <;> simp only [reduceCtorEq, Option.pure_def, Option.bind_eq_some_iff, Option.some.injEq, AOp.build.injEq] at ht
  · rename_i len e
    obtain ⟨s, hs, ps', hps, rfl, rfl⟩ := ht
    obtain ⟨cs', g1, g2, g3⟩ := fill_rel hR k hps hl h1 h2 hf
    refine Sim.same hR (v' := .agg cs') ?_ (by simpa using VRel.agg cs cs'.toList g3 g2)
    simp only [Instr.build, Sem.run_bind, zeroValue, typeInfo, run_program, Result.andThen_ok, hi, Sem.run_pure, hz, run_underlying hd, run_sizeOf hs, hpm, g1]
  · rename_i fields
    obtain ⟨pl, hpl, ps', hps, rfl, rfl⟩ := ht
    obtain ⟨cs', g1, g2, g3⟩ := fill_rel hR k hps hl h1 h2 hf
    refine Sim.same hR (v' := .agg cs') ?_ (by simpa using VRel.agg cs cs'.toList g3 g2)
    have hpr := fieldPlaces_run (P := P) hpl X.w
    have hmm : (fields.mapM fun f => (do pure (f.offset, ← sizeOf f.type) : Sem (Nat × Nat))).run P X.w = .ok pl.toArray X.w := by
      rw [Array.mapM_eq_mapM_toList]
      simp only [Sem.run_map, hpr, Result.andThen_ok]
    have g1' : Instr.fill (fun (x : Nat) => pl.toArray[x]?) z.cells (parts.toList.map fun x => (x.1, a.eval x.2)) = some cs' := by
      have : (fun (x : Nat) => pl.toArray[x]?) = fun (x : Nat) => pl[x]? := by funext x; simp
      rw [this]; exact g1
    simp only [Instr.build, Sem.run_bind, zeroValue, typeInfo, run_program, Result.andThen_ok, hi, Sem.run_pure, hz, run_underlying hd, hmm, hpm, g1']
theorem sim_lit (hR : Rel B w0 E X) {n : Nat} {σ : Slots} {a : Act} (k : SRel X n σ a.tmps) {fr fr' : Bool} {t : TypeId} {len sz len' : Nat} {parts : Array (Nat × Operand)} {cells : List AV}
    {ps : List (Nat × Nat × Opd)} (ht : trLit P fr t len parts = some (.lit fr' sz len' cells ps)) {l : List (Nat × Nat × AV)} (hl : E.parts σ ps = some l) {cs : List AV}
    (hf : aFill cells l = some cs) (hn : cs.length = len' * sz) :
    ∃ (e : TypeId) (arr : Array Value), VRels X cs arr.toList ∧ allOne cs ∧ len' = len ∧
      (Instr.buildSlice t len (parts.map fun (i, x) => (i, a.eval x))).run P X.w = .ok (.slice (some ⟨X.w.heap.size, 0, none⟩) len len) (X.w.alloc (.cells arr e)) := by
  unfold trLit at ht
  split at ht
  case h_2 => cases ht
  rename_i e hd
  simp only [Option.bind_eq_some_iff] at ht
  obtain ⟨s, hs, ht⟩ := ht
  split at ht
  · cases ht
  rename_i hsmall
  simp only [Option.bind_eq_some_iff] at ht
  obtain ⟨zero, hzero, ht⟩ := ht
  split at ht
  · cases ht
  rename_i hzl
  simp only [Option.map_eq_some_iff, AOp.lit.injEq] at ht
  obtain ⟨ps', hps, rfl, rfl, rfl, rfl, rfl⟩ := ht
  have hpm : (parts.map fun (i, x) => (i, a.eval x)).toList = parts.toList.map fun x => (x.1, a.eval x.2) := by simp
  -- the zeros
  have hZ : ∃ zc : Array Value, ((len * s = 0 ∧ zc = #[]) ∨ (len * s ≠ 0 ∧ ∃ z, (zeroValue e).run P X.w = .ok z X.w ∧ zc = z.cells)) ∧
      VRels X (List.replicate len zero).flatten (((Array.range (len * s)).map (zc[· % zc.size]!)).toList) ∧ allOne (List.replicate len zero).flatten := by
    by_cases h0 : len * s = 0
    · rw [if_pos h0] at hzero
      cases hzero
      refine ⟨#[], .inl ⟨h0, rfl⟩, ?_, ?_⟩
      · rw [h0]; simp; exact .nil
      · intro v hv; simp at hv
    · rw [if_neg h0] at hzero
      obtain ⟨i, z, hi, hz, hm⟩ := tZero_info hzero
      obtain ⟨h1, h2⟩ := mapM_cellAV (X := X) hm
      refine ⟨z.cells, .inr ⟨h0, z, by simp [zeroValue, typeInfo, hi, hz], rfl⟩, ?_, ?_⟩
      · have hlz : zero.length = s := by
          apply Decidable.byContradiction
          intro h
          exact hzl ⟨h0, h⟩
        have hl1 := h1.length
        have hsz : z.cells.size = s := by simpa [hlz] using hl1.symm
        have hspos : 0 < s := Nat.pos_of_ne_zero fun e => h0 (by rw [e]; simp)
        have e1 : ((Array.range (len * s)).map (z.cells[· % z.cells.size]!)).toList = (List.replicate len z.cells.toList).flatten := by
          apply List.ext_getElem
          · simp [hsz]
          · intro j hj1 hj2
            have hj : j < len * s := by simpa using hj1
            simp only [Array.toList_map, Array.toList_range, List.getElem_map, List.getElem_range]
            have hmod : j % z.cells.size < z.cells.size := Nat.mod_lt _ (by omega)
            rw [getElem!_pos z.cells _ hmod]
            have hfl : (List.replicate len z.cells.toList).flatten[j]? = some (z.cells[j % z.cells.size]) := by
              clear hj2 hj1 hl hps hf hn hm h1 hl1 hsmall hzl hd hpm
              have : ∀ (m j : Nat), j < m * s → (List.replicate m z.cells.toList).flatten[j]? = some (z.cells[j % z.cells.size]'(Nat.mod_lt _ (by omega))) := by
                intro m
                induction m with
                | zero => intro j h; simp at h
                | succ m ih =>
                  intro j h
                  simp only [List.replicate_succ, List.flatten_cons, List.getElem?_append, Array.length_toList]
                  split
                  · rename_i hlt
                    simp only [Nat.mod_eq_of_lt hlt, Array.getElem?_toList, Array.getElem?_eq_getElem hlt]
                  · rename_i hge
                    have hge' : z.cells.size ≤ j := Nat.le_of_not_lt hge
                    rw [ih (j - z.cells.size) (by rw [hsz]; rw [Nat.succ_mul] at h; omega)]
                    congr 2
                    exact (Nat.mod_eq_sub_mod hge').symm
              exact this len j hj
            have := List.getElem?_eq_getElem hj2
            rw [this] at hfl
            simpa using hfl.symm
        rw [e1]
        exact VRels.flatten_replicate h1 len
      · intro v hv
        simp only [List.mem_flatten, List.mem_replicate] at hv
        obtain ⟨l', ⟨_, rfl⟩, hv⟩ := hv
        exact h2 v hv
  obtain ⟨zc, hz1, hz2, hz3⟩ := hZ
  obtain ⟨cs', g1, g2, g3⟩ := fill_rel hR k hps hl hz2 hz3 hf
  refine ⟨e, cs', g2, g3, rfl, ?_⟩
  have hsm : ¬ (len * s > 2 ^ 24) := hsmall
  rcases hz1 with ⟨h0, rfl⟩ | ⟨h0, z, hz, rfl⟩
  · simp only [Instr.buildSlice, Sem.run_bind, run_underlying hd, Result.andThen_ok, run_sizeOf hs, if_neg hsm, Sem.run_pure, if_pos h0, hpm, g1, newRow, run_newObj]
    rfl
  · simp only [Instr.buildSlice, Sem.run_bind, run_underlying hd, Result.andThen_ok, run_sizeOf hs, if_neg hsm, Sem.run_pure, if_neg h0, hpm, hz, g1, newRow, run_newObj]
    rfl
end
end Go.AM

set_option linter.unusedSimpArgs false
set_option linter.unusedVariables false
namespace Go.AM
open Go.RowKit
section
variable {B : Nat} {w0 : World} {E : Env} {X : RX} {P : Program}
theorem sim_store (hR : Rel B w0 E X) {t : TypeId} {sz : Nat} (hs : tSize P t = some sz) {x v : AV} {c d : Value} (hx : VRel X x c) (hv : VRel X v d)
    {r : OpRes} (h : aStore X.h sz x v = some r) : SimU B w0 E X P (Instr.storeAt t c d) r.h ∧ r.v = .undef := by
  cases hx with
  | ptr id gen off a hid hlive =>
    simp only [aStore, Option.bind_eq_some_iff] at h
    obtain ⟨cs, hcs, vs, hvs, h⟩ := h
    split at h
    · rename_i hc
      obtain ⟨hc1, hc2⟩ := hc
      cases h
      have hl := Heap.at_some hcs
      have e := (hlive _ hl).2 rfl
      subst e
      obtain ⟨r1, r2⟩ := hv.row hvs
      obtain ⟨X', h1, h2, h3, h4, _⟩ := sim_splice (P := P) hR hl r1 r2 (off := off) (by simpa [hc1] using hc2)
      refine ⟨⟨X', ?_, h2, h3, h4⟩, rfl⟩
      have hsz : d.cells.size = sz := by have := r1.length; simp at this; omega
      simp only [Instr.storeAt, Instr.sureAddr, Sem.run_bind, Sem.run_pure, Result.andThen_ok, storeVar, run_sizeOf hs, hsz, ne_eq, not_true_eq_false, if_false, h1]
    · cases h
  | _ => simp [aStore] at h
theorem trField_under {t : TypeId} {i : Nat} {f : Field} (h : trField P t i = some f) : ∃ fs, P.underlying t = some (.struct fs) ∧ fs[i]? = some f := by
  simp only [trField, Option.bind_eq_bind, Option.bind_eq_some_iff] at h
  obtain ⟨d, hd, h⟩ := h
  cases d <;> simp only [reduceCtorEq] at h
  exact ⟨_, hd, h⟩
theorem sim_fieldAddr (hR : Rel B w0 E X) {t : TypeId} {i : Nat} {f : Field} (hf : trField P t i = some f) {s : Nat} (hs : tSize P f.type = some s) (h0 : s ≠ 0) {x : AV} {c : Value}
    (hx : VRel X x c) :
    (∀ id gen o, x = .ptr id gen o → Sim B w0 E X P (Instr.fieldAt t c i) (.ptr id gen (o + f.offset)) X.h) ∧
    (∀ cs, x = .fp cs → Sim B w0 E X P (Instr.fieldAt t c i) (.fp (cs.drop f.offset)) X.h) := by
  obtain ⟨fs, hu, hg⟩ := trField_under hf
  have hrun : ∀ a : Addr, (Instr.fieldAt t (.pointer (some a)) i).run P X.w = .ok (.pointer (some (a.add f.offset))) X.w := by
    intro a
    simp [Instr.fieldAt, run_underlying hu, hg, Instr.sureAddr, fieldPlace, run_sizeOf hs, h0]
  constructor
  · rintro id gen o rfl
    cases hx with
    | ptr _ _ _ a hid hlive =>
      refine Sim.same hR (hrun a) (.ptr _ _ _ _ hid fun ob ho => ⟨(hlive ob ho).1, fun e => ?_⟩)
      rw [(hlive ob ho).2 e, addr_add, Nat.add_assoc]
  · rintro cs rfl
    cases hx with
    | fp _ b o vs hst hat h1 hvs =>
      refine Sim.same hR (hrun _) ?_
      rw [addr_add]
      exact .fp _ _ _ _ hst (hat.drop _) (h1.drop _) (hvs.drop _)
theorem run_part {t : TypeId} {agg : Bool} {sz off : Nat} (ha : tAgg P t = some agg) (hs : tSize P t = some sz) {cs : List AV} {cs' : List Value} (hv : VRels X cs cs') (h1 : allOne cs)
    (hfit : off + sz ≤ cs.length) {v : AV} (h : partOf agg sz off cs = some v) : ∃ v', (part t cs'.toArray off).run P X.w = .ok v' X.w ∧ VRel X v v' := by
  cases agg with
  | true =>
    simp only [partOf, Option.some.injEq] at h
    subst h
    refine ⟨.agg (cs'.toArray.extract off (off + sz)), by simp [part, tAgg_isAgg ha, run_sizeOf hs], ?_⟩
    have e : cs'.toArray.extract off (off + sz) = ((cs'.drop off).take sz).toArray := by simp
    rw [e]
    exact .agg _ _ ((h1.drop off).take sz) ((hv.drop off).take sz)
  | false =>
    simp only [partOf] at h
    obtain ⟨c, hc, hr⟩ := hv.get h
    exact ⟨c, by simp [part, tAgg_isAgg ha, hc], hr⟩
theorem sim_field (hR : Rel B w0 E X) {t : TypeId} {i : Nat} {f : Field} (hf : trField P t i = some f) {agg : Bool} {sz : Nat} (ha : tAgg P f.type = some agg) (hs : tSize P f.type = some sz)
    {cs : List AV} {c : Value} (hx : VRel X (.agg cs) c) (hfit : f.offset + sz ≤ cs.length) {v : AV} (h : partOf agg sz f.offset cs = some v) :
    Sim B w0 E X P (Instr.field t c i) v X.h := by
  obtain ⟨fs, hu, hg⟩ := trField_under hf
  cases hx with
  | agg _ cs' h1 hv =>
    obtain ⟨v', hr, hrel⟩ := run_part (P := P) ha hs hv h1 hfit h
    exact Sim.same hR (by simp [Instr.field, run_underlying hu, hg, asAgg, hr]) hrel
theorem sim_idxArr (hR : Rel B w0 E X) {t e : TypeId} {n : Nat} (hu : P.underlying t = some (.array n e)) {agg : Bool} {sz : Nat} (ha : tAgg P e = some agg) (hs : tSize P e = some sz)
    {cs : List AV} {c : Value} (hx : VRel X (.agg cs) c) {i : AV} {d : Value} (hi : VRel X i d) {j : Nat} (hj : aIndex n i = some j) (hfit : (j + 1) * sz ≤ cs.length) {v : AV}
    (h : partOf agg sz (j * sz) cs = some v) : Sim B w0 E X P (Instr.index t c d) v X.h := by
  cases hi with
  | int k q =>
    simp only [aIndex] at hj
    split at hj
    · rename_i hc
      cases hj
      cases hx with
      | agg _ cs' h1 hv =>
        obtain ⟨v', hr, hrel⟩ := run_part (P := P) ha hs hv h1 (by rw [Nat.succ_mul] at hfit; omega) h
        exact Sim.same hR (by simp [Instr.index, asIntOf, run_underlying hu, hc.1, hc.2, run_sizeOf hs, hr]) hrel
    · cases hj
  | _ => simp [aIndex] at hj
theorem sim_idxStr (hR : Rel B w0 E X) {t : TypeId} (hu : P.underlying t = some .string) {s : List UInt8} {c : Value} (hx : VRel X (.str s) c) {i : AV} {d : Value} (hi : VRel X i d)
    {j : Nat} (hj : aIndex s.length i = some j) {b : UInt8} (hb : s[j]? = some b) : Sim B w0 E X P (Instr.index t c d) (byteAV b) X.h := by
  cases hi with
  | int k q =>
    simp only [aIndex] at hj
    split at hj
    · rename_i hc
      cases hj
      cases hx with
      | str =>
        have hget : (⟨s.toArray⟩ : ByteArray)[q.toNat]? = some b := by
          obtain ⟨hlt, hb'⟩ := List.getElem?_eq_some_iff.1 hb
          have hlt' : q.toNat < (⟨s.toArray⟩ : ByteArray).size := by simpa [ByteArray.size] using hlt
          rw [getElem?_pos (⟨s.toArray⟩ : ByteArray) q.toNat hlt']
          congr 1
        exact Sim.same hR (v' := .int .u8 b.toNat) (by simp [Instr.index, asIntOf, run_underlying hu, hc.1, hget]) (.int _ _)
    · cases hj
  | _ => simp [aIndex] at hj
theorem sim_extract (hR : Rel B w0 E X) {vs : List AV} {c : Value} (hx : VRel X (.tup vs) c) {i : Nat} {v : AV} (h : vs[i]? = some v) : Sim B w0 E X P (Instr.extract c i) v X.h := by
  cases hx with
  | tup _ vs' hv =>
    obtain ⟨v', h1, h2⟩ := hv.get h
    exact Sim.same hR (by simp [Instr.extract, h1]) h2
theorem sim_idxAddr (hR : Rel B w0 E X) {t e : TypeId} (hu : P.underlying t = some (.slice e)) {sz : Nat} (hs : tSize P e = some sz) {x : AV} {c : Value} (hx : VRel X x c) {i : AV} {d : Value}
    (hi : VRel X i d) {v : AV} (h : aIdxAddr sz x i = some v) : Sim B w0 E X P (Instr.indexAt t c d) v X.h := by
  cases hx with
  | sl id gen off sz' len cap a n hid hlen hcap hlive =>
    simp only [aIdxAddr] at h
    split at h
    · rename_i he
      subst he
      simp only [Option.map_eq_some_iff] at h
      obtain ⟨j, hj, rfl⟩ := h
      cases hi with
      | int k q =>
        simp only [aIndex] at hj
        split at hj
        · rename_i hc
          cases hj
          refine Sim.same hR (v' := .pointer (some (a.add (q.toNat * sz')))) (by simp [Instr.indexAt, asIntOf, run_underlying hu, hc.1, hc.2, run_sizeOf hs]) (.ptr _ _ _ _ hid fun o ho => ⟨(hlive o ho).1, fun eg => ?_⟩)
          have ha := ((hlive o ho).2 eg).1 (by omega)
          rw [ha, addr_add, Nat.add_assoc]
        · cases hj
      | _ => simp [aIndex] at hj
    · cases h
  | fs full len cells a n vs hlen hfull hat h1 hvs =>
    cases cells with
    | nil => simp [aIdxAddr] at h
    | cons v0 cells =>
      simp only [aIdxAddr, Option.map_eq_some_iff] at h
      obtain ⟨j, hj, rfl⟩ := h
      obtain ⟨b, o, rfl, hst, hc'⟩ := hat (by simp)
      cases hi with
      | int k q =>
        simp only [aIndex] at hj
        split at hj
        · rename_i hc
          cases hj
          refine Sim.same hR (v' := .pointer (some ((⟨b, o, none⟩ : Addr).add (q.toNat * sz)))) (by simp [Instr.indexAt, asIntOf, run_underlying hu, hc.1, hc.2, run_sizeOf hs]) ?_
          rw [addr_add]
          exact .fp _ _ _ _ hst (hc'.drop _) (h1.drop _) (hvs.drop _)
        · cases hj
      | _ => simp [aIndex] at hj
  | _ => simp [aIdxAddr] at h
theorem sim_idxAddrArr (hR : Rel B w0 E X) {t e : TypeId} {n : Nat} (hu : P.underlying t = some (.array n e)) {sz : Nat} (hs : tSize P e = some sz) {x : AV} {c : Value} (hx : VRel X x c) {i : AV}
    {d : Value} (hi : VRel X i d) {v : AV} (h : aIdxAddrArr sz n x i = some v) : Sim B w0 E X P (Instr.indexAt t c d) v X.h := by
  cases hx with
  | ptr id gen off a hid hlive =>
    simp only [aIdxAddrArr, Option.map_eq_some_iff] at h
    obtain ⟨j, hj, rfl⟩ := h
    cases hi with
    | int k q =>
      simp only [aIndex] at hj
      split at hj
      · rename_i hc
        cases hj
        refine Sim.same hR (v' := .pointer (some (a.add (q.toNat * sz)))) (by simp [Instr.indexAt, asIntOf, run_underlying hu, Instr.sureAddr, hc.1, hc.2, run_sizeOf hs]) (.ptr _ _ _ _ hid fun o ho => ⟨(hlive o ho).1, fun eg => ?_⟩)
        rw [(hlive o ho).2 eg, addr_add, Nat.add_assoc]
      · cases hj
    | _ => simp [aIndex] at hj
  | fp cells b o vs hst hat h1 hvs =>
    simp only [aIdxAddrArr, Option.map_eq_some_iff] at h
    obtain ⟨j, hj, rfl⟩ := h
    cases hi with
    | int k q =>
      simp only [aIndex] at hj
      split at hj
      · rename_i hc
        cases hj
        refine Sim.same hR (v' := .pointer (some ((⟨b, o, none⟩ : Addr).add (q.toNat * sz)))) (by simp [Instr.indexAt, asIntOf, run_underlying hu, Instr.sureAddr, hc.1, hc.2, run_sizeOf hs]) ?_
        rw [addr_add]
        exact .fp _ _ _ _ hst (hat.drop _) (h1.drop _) (hvs.drop _)
      · cases hj
    | _ => simp [aIndex] at hj
  | _ => simp [aIdxAddrArr] at h
inductive ORel (X : RX) : Option AV → Option Value → Prop
  | none : ORel X none none
  | some (v : AV) (c : Value) (h : VRel X v c) : ORel X (some v) (some c)
theorem opdo_rel (hR : Rel B w0 E X) {n : Nat} {σ : Slots} {a : Act} (k : SRel X n σ a.tmps) {o : Option Operand} {x : Option Opd} (ht : trOpdo o = some x) {v : Option AV} (hv : E.opdo σ x = some v) :
    ORel X v (o.map a.eval) := by
  cases o with
  | none => simp only [trOpdo, Option.some.injEq] at ht; subst ht; simp only [Env.opdo, Option.some.injEq] at hv; subst hv; exact .none
  | some o =>
    simp only [trOpdo, Option.map_eq_some_iff] at ht
    obtain ⟨y, hy, rfl⟩ := ht
    simp only [Env.opdo, Option.map_eq_some_iff] at hv
    obtain ⟨u, hu, rfl⟩ := hv
    exact .some _ _ (opd_rel hR k hy hu)
theorem sbound_run {v : AV} {c : Value} (hv : VRel X v c) {y n i : Nat} (h : sbound y v = some i) (hn : y ≤ n) (code : BoundsCode) (w : World) :
    (Instr.sliceBound c n code).run P w = .ok i w ∧ i ≤ y := by
  cases hv with
  | int k q =>
    simp only [sbound] at h
    split at h
    · rename_i hc
      cases h
      have h1 : q ≤ (n : Int) := by omega
      exact ⟨by simp [Instr.sliceBound, asIntOf, hc.1, h1], by omega⟩
    · cases h
  | _ => simp [sbound] at h
/-- The bounds of a slice expression, the capacity being known from below. -/
theorem bounds_run {lo hi mx : Option AV} {lo' hi' mx' : Option Value} (h1 : ORel X lo lo') (h2 : ORel X hi hi') (h3 : ORel X mx mx') {len cap n : Nat} (hn : cap ≤ n) (hlen : len ≤ cap) {l u m : Nat}
    (h : bounds len cap lo hi mx = some (l, u, m)) (b : Bool) (w : World) :
    ∃ m', (Instr.sliceBounds b len n lo' hi' mx').run P w = .ok (l, u, m') w ∧ l ≤ u ∧ u ≤ m ∧ m ≤ cap ∧ m' ≤ n ∧ u ≤ m' ∧ (∀ x, mx = some x → m' = m) ∧ (mx = none → m = cap ∧ m' = n) ∧ (mx = none → hi = none → u = len) := by
  simp only [bounds, Option.bind_eq_some_iff, Option.map_eq_some_iff, Prod.mk.injEq] at h
  obtain ⟨m1, hm, u1, hu, l1, hl, rfl, rfl, rfl⟩ := h
  -- the capacity
  cases h3 with
  | none =>
    simp only [Option.some.injEq] at hm
    subst hm
    cases h2 with
    | none =>
      simp only [Option.some.injEq] at hu
      subst hu
      cases h1 with
      | none =>
        simp only [Option.some.injEq] at hl
        subst hl
        exact ⟨n, by simp [Instr.sliceBounds], Nat.zero_le _, hlen, Nat.le_refl _, Nat.le_refl _, by omega, (fun _ e => by cases e), (fun _ => ⟨rfl, rfl⟩), (fun _ _ => rfl)⟩
      | some v c hv =>
        obtain ⟨r1, r2⟩ := sbound_run (P := P) hv hl (Nat.le_refl _) .sliceB w
        exact ⟨n, by simp [Instr.sliceBounds, r1], r2, hlen, Nat.le_refl _, Nat.le_refl _, by omega, (fun _ e => by cases e), (fun _ => ⟨rfl, rfl⟩), (fun _ _ => rfl)⟩
    | some v c hv =>
      obtain ⟨r1, r2⟩ := sbound_run (P := P) hv hu hn (if b then .sliceAcap else .sliceAlen) w
      cases h1 with
      | none =>
        simp only [Option.some.injEq] at hl
        subst hl
        exact ⟨n, by simp [Instr.sliceBounds, r1], Nat.zero_le _, r2, Nat.le_refl _, Nat.le_refl _, by omega, (fun _ e => by cases e), (fun _ => ⟨rfl, rfl⟩), (fun _ e => by cases e)⟩
      | some v' c' hv' =>
        obtain ⟨s1, s2⟩ := sbound_run (P := P) hv' hl (Nat.le_refl _) .sliceB w
        exact ⟨n, by simp [Instr.sliceBounds, r1, s1], s2, r2, Nat.le_refl _, Nat.le_refl _, by omega, (fun _ e => by cases e), (fun _ => ⟨rfl, rfl⟩), (fun _ e => by cases e)⟩
  | some v3 c3 hv3 =>
    obtain ⟨q1, q2⟩ := sbound_run (P := P) hv3 hm hn (if b then .slice3Acap else .slice3Alen) w
    cases h2 with
    | none => cases hu
    | some v c hv =>
      obtain ⟨r1, r2⟩ := sbound_run (P := P) hv hu (Nat.le_refl _) .slice3B w
      cases h1 with
      | none =>
        simp only [Option.some.injEq] at hl
        subst hl
        exact ⟨m1, by simp [Instr.sliceBounds, q1, r1], Nat.zero_le _, r2, q2, by omega, r2, (fun _ _ => rfl), (fun e => by cases e), (fun e => by cases e)⟩
      | some v' c' hv' =>
        obtain ⟨s1, s2⟩ := sbound_run (P := P) hv' hl (Nat.le_refl _) .slice3C w
        exact ⟨m1, by simp [Instr.sliceBounds, q1, r1, s1], s2, r2, q2, by omega, r2, (fun _ _ => rfl), (fun e => by cases e), (fun e => by cases e)⟩
theorem sub_mul_add (l m sz : Nat) (h : l ≤ m) : l * sz + (m - l) * sz = m * sz := by rw [← Nat.add_mul]; congr 1; omega
theorem sim_slice (hR : Rel B w0 E X) {t e : TypeId} (hu : P.underlying t = some (.slice e)) {sz : Nat} (hs : tSize P e = some sz) {x : AV} {c : Value} (hx : VRel X x c)
    {lo hi mx : Option AV} {lo' hi' mx' : Option Value} (h1 : ORel X lo lo') (h2 : ORel X hi hi') (h3 : ORel X mx mx') {v : AV} (h : aSlice sz x lo hi mx = some v) :
    Sim B w0 E X P (Instr.sliceAt t c lo' hi' mx') v X.h := by
  have hat : ∀ (a : Option Addr) (len cap l u m' : Nat), (Instr.sliceBounds true len cap lo' hi' mx').run P X.w = .ok (l, u, m') X.w →
      (Instr.sliceAt t (.slice a len cap) lo' hi' mx').run P X.w = .ok (.slice (if m' = l then a else a.map (·.add (l * sz))) (u - l) (m' - l)) X.w := by
    intro a len cap l u m' hb
    simp [Instr.sliceAt, Instr.slice, run_underlying hu, hb, run_sizeOf hs]
  cases hx with
  | nils =>
    simp only [aSlice, Option.map_eq_some_iff] at h
    obtain ⟨⟨l, u, m⟩, hb, rfl⟩ := h
    obtain ⟨m', r, g1, g2, g3, g4, g5, g6, g7, g8⟩ := bounds_run (P := P) h1 h2 h3 (Nat.le_refl 0) (Nat.le_refl 0) hb true X.w
    have hz : m' = 0 ∧ u = 0 ∧ l = 0 := by omega
    obtain ⟨rfl, rfl, rfl⟩ := hz
    exact Sim.same hR (by simpa using hat none 0 0 0 0 0 r) .nils
  | sl id gen off sz' len cap a n hid hlen hcap hlive =>
    simp only [aSlice] at h
    split at h
    · rename_i he
      subst he
      -- what both cases come to
      have key : ∀ (cp l u m m' : Nat) (cap' : Option Nat), cp ≤ n → len ≤ cp → bounds len cp lo hi mx = some (l, u, m) → (Instr.sliceBounds true len n lo' hi' mx').run P X.w = .ok (l, u, m') X.w →
          l ≤ u → u ≤ m' → m' ≤ n → (∀ k, cap' = some k → m' - l = k) → (cap' = none → cap = none ∧ m' = n) → Sim B w0 E X P (Instr.sliceAt t (.slice (some a) len n) lo' hi' mx') (.sl id gen (off + l * sz') sz' (u - l) cap') X.h := by
        intro cp l u m m' cap' hcp hlc hb r g1 g5 g4 hk hno
        refine Sim.same hR (v' := .slice (some (if m' = l then a else a.add (l * sz'))) (u - l) (m' - l)) ?_ (.sl _ _ _ _ _ _ _ _ hid (by omega) hk fun o ho => ⟨(hlive o ho).1, fun eg => ⟨fun hpos => ?_, ?_, fun hc => ?_⟩⟩)
        · rw [hat (some a) len n l u m' r]; split <;> rfl
        · rw [if_neg (by omega), ((hlive o ho).2 eg).1 (by omega), addr_add, Nat.add_assoc]
        · have := ((hlive o ho).2 eg).2.1
          have e2 := sub_mul_add l m' sz' (by omega)
          have e3 : m' * sz' ≤ n * sz' := Nat.mul_le_mul_right _ g4
          omega
        · obtain ⟨hc0, hmn⟩ := hno hc
          subst hmn
          have := ((hlive o ho).2 eg).2.2 hc0
          have e2 := sub_mul_add l m' sz' (by omega)
          omega
      cases cap with
      | some cp =>
        simp only [Option.map_eq_some_iff] at h
        obtain ⟨⟨l, u, m⟩, hb, hv⟩ := h; dsimp only at hv; subst hv
        have hn := hcap cp rfl
        subst hn
        obtain ⟨m', r, g1, g2, g3, g4, g5, g6, g7, g8⟩ := bounds_run (P := P) h1 h2 h3 (Nat.le_refl n) hlen hb true X.w
        refine key n l u m m' _ (Nat.le_refl _) hlen hb r g1 g5 g4 (fun k hk => ?_) (fun e => by cases e)
        cases hk
        cases mx with
        | none => obtain ⟨q1, q2⟩ := g7 rfl; omega
        | some x => have := g6 x rfl; omega
      | none =>
        simp only [Option.map_eq_some_iff] at h
        obtain ⟨⟨l, u, m⟩, hb, hv⟩ := h; dsimp only at hv; subst hv
        obtain ⟨m', r, g1, g2, g3, g4, g5, g6, g7, g8⟩ := bounds_run (P := P) h1 h2 h3 hlen (Nat.le_refl len) hb true X.w
        refine key len l u m m' _ hlen (Nat.le_refl _) hb r g1 g5 g4 (fun k hk => ?_) (fun e => ⟨rfl, by
          cases mx with
          | none => exact (g7 rfl).2
          | some x => cases e⟩)
        cases mx with
        | none => cases hk
        | some x =>
          simp only [Option.map_some, Option.some.injEq] at hk
          have := g6 x rfl
          omega
    · cases h
  | fs full len cells a n vs hlen hfull hat' ho hvs =>
    simp only [aSlice] at h
    split at h
    · rename_i hcl
      simp only [Option.map_eq_some_iff] at h
      obtain ⟨⟨l, u, m⟩, hb, hv⟩ := h; dsimp only at hv; subst hv
      obtain ⟨m', r, g1, g2, g3, g4, g5, g6, g7, g8⟩ := bounds_run (P := P) h1 h2 h3 hlen (Nat.le_refl len) hb true X.w
      refine Sim.same hR (v' := .slice (some (if m' = l then a else a.add (l * sz))) (u - l) (m' - l)) ?_
        (.fs _ _ _ _ _ ((vs.drop (l * sz)).take ((u - l) * sz)) (by omega) (fun hf => ?_) (fun hne => ?_) ((ho.drop _).take _) ((hvs.drop _).take _))
      · rw [hat (some a) len n l u m' r]; split <;> rfl
      · cases mx with
        | none =>
          obtain ⟨q1, q2⟩ := g7 rfl
          simp only [Bool.and_eq_true, beq_iff_eq] at hf
          have := hfull hf.1
          omega
        | some x =>
          have := g6 x rfl
          simp only [beq_iff_eq] at hf
          omega
      · have hne' : cells ≠ [] := by rintro rfl; simp at hne
        obtain ⟨b, o, rfl, hst, hc⟩ := hat' hne'
        have hml : m' ≠ l := by
          rintro rfl
          have : u - m' = 0 := by omega
          rw [this] at hne
          simp at hne
        rw [if_neg hml]
        exact ⟨b, o + l * sz, addr_add _ _ _, hst, (hc.drop _).take _⟩
    · cases h
  | _ => simp [aSlice] at h
theorem sim_sliceStr (hR : Rel B w0 E X) {t : TypeId} (hu : P.underlying t = some .string) {x : AV} {c : Value} (hx : VRel X x c)
    {lo hi : Option AV} {lo' hi' : Option Value} (h1 : ORel X lo lo') (h2 : ORel X hi hi') {v : AV} (h : aSliceStr x lo hi = some v) :
    Sim B w0 E X P (Instr.sliceAt t c lo' hi' none) v X.h := by
  cases hx with
  | str s =>
    simp only [aSliceStr, Option.map_eq_some_iff] at h
    obtain ⟨⟨l, u, m⟩, hb, hv⟩ := h; dsimp only at hv; subst hv
    have hsz : (⟨s.toArray⟩ : ByteArray).size = s.length := by simp [ByteArray.size]
    obtain ⟨m', r, g1, g2, g3, g4, g5, g6, g7, g8⟩ := bounds_run (P := P) h1 h2 .none (Nat.le_refl s.length) (Nat.le_refl s.length) hb false X.w
    have he : (⟨s.toArray⟩ : ByteArray).extract l u = ⟨((s.drop l).take (u - l)).toArray⟩ := by
      apply ByteArray.ext
      simp [ByteArray.data_extract]
    refine Sim.same hR (v' := .string ⟨((s.drop l).take (u - l)).toArray⟩) ?_ (.str _)
    simp [Instr.sliceAt, Instr.slice, run_underlying hu, hsz, r, he]
  | _ => simp [aSliceStr] at h
/-- A slice of an array in memory. -/
theorem sim_sliceArr (hR : Rel B w0 E X) {t e : TypeId} {n : Nat} (hu : P.underlying t = some (.array n e) ∨ ∃ arr, P.underlying t = some (.pointer arr) ∧ P.underlying arr = some (.array n e)) {sz : Nat}
    (hs : tSize P e = some sz) {x : AV} {c : Value} (hx : VRel X x c) {lo hi mx : Option AV} {lo' hi' mx' : Option Value} (h1 : ORel X lo lo') (h2 : ORel X hi hi') (h3 : ORel X mx mx') {r : OpRes}
    (h : aSliceArr X.h sz n x lo hi mx = some r) : Sim B w0 E X P (Instr.sliceAt t c lo' hi' mx') r.v X.h ∧ r.h = X.h := by
  have hat : ∀ (a : Addr) (l u m' : Nat), (Instr.sliceBounds false n n lo' hi' mx').run P X.w = .ok (l, u, m') X.w →
      (Instr.sliceAt t (.pointer (some a)) lo' hi' mx').run P X.w = .ok (.slice (some (if m' = l then a else a.add (l * sz))) (u - l) (m' - l)) X.w := by
    intro a l u m' hb
    rcases hu with hu | ⟨arr, hu, hu'⟩
    · simp [Instr.sliceAt, run_underlying hu, Instr.sureAddr, hb, run_sizeOf hs]
    · simp [Instr.sliceAt, Instr.slice, run_underlying hu, run_underlying hu', asAddr, hb, run_sizeOf hs]
  cases hx with
  | ptr id gen off a hid hlive =>
    simp only [aSliceArr, Option.bind_eq_some_iff] at h
    obtain ⟨cs, hcs, h⟩ := h
    split at h
    · rename_i hfit
      simp only [Option.map_eq_some_iff] at h
      obtain ⟨⟨l, u, m⟩, hb, hv⟩ := h; dsimp only at hv; subst hv
      obtain ⟨m', r, g1, g2, g3, g4, g5, g6, g7, g8⟩ := bounds_run (P := P) h1 h2 h3 (Nat.le_refl n) (Nat.le_refl n) hb false X.w
      have hmm : m' = m := by
        cases mx with
        | none => obtain ⟨q1, q2⟩ := g7 rfl; omega
        | some x => exact g6 x rfl
      subst hmm
      have hl := Heap.at_some hcs
      refine ⟨Sim.same hR (hat a l u m' r) (.sl _ _ _ _ _ _ _ _ hid (by omega) (fun k hk => by cases hk; rfl) fun o ho => ⟨(hlive o ho).1, fun eg => ⟨fun hpos => ?_, ?_, fun hc => by cases hc⟩⟩), rfl⟩
      · rw [if_neg (by omega), (hlive o ho).2 eg, addr_add, Nat.add_assoc]
      · rw [hl] at ho
        cases ho
        obtain ⟨⟨arr, T, fz, ha, hb', hc, hd, he⟩, hone⟩ := hR.obj id _ hl
        have e2 := sub_mul_add l m' sz (by omega)
        have e3 : m' * sz ≤ n * sz := Nat.mul_le_mul_right _ g3
        dsimp only at hc
        omega
    · cases h
  | fp cells b o vs hst hat' ho hvs =>
    simp only [aSliceArr] at h
    split at h
    · rename_i hfit
      simp only [Option.map_eq_some_iff] at h
      obtain ⟨⟨l, u, m⟩, hb, hv⟩ := h; dsimp only at hv; subst hv
      obtain ⟨m', r, g1, g2, g3, g4, g5, g6, g7, g8⟩ := bounds_run (P := P) h1 h2 h3 (Nat.le_refl n) (Nat.le_refl n) hb false X.w
      have hmm : m' = m := by
        cases mx with
        | none => obtain ⟨q1, q2⟩ := g7 rfl; omega
        | some x => exact g6 x rfl
      subst hmm
      refine ⟨Sim.same hR (hat _ l u m' r) (.fs _ _ _ _ _ ((vs.drop (l * sz)).take ((u - l) * sz)) (by omega) (fun hf => ?_) (fun hne => ?_) ((ho.drop _).take _) ((hvs.drop _).take _)), rfl⟩
      · simp only [beq_iff_eq] at hf; omega
      · have hml : m' ≠ l := by
          rintro rfl
          have : u - m' = 0 := by omega
          rw [this] at hne
          simp at hne
        rw [if_neg hml]
        exact ⟨b, o + l * sz, addr_add _ _ _, hst, (hat'.drop _).take _⟩
    · cases h
  | _ => simp [aSliceArr] at h
end
end Go.AM

set_option linter.unusedSimpArgs false
set_option linter.unusedVariables false
namespace Go.AM
open Go.RowKit
section
variable {B : Nat} {w0 : World} {E : Env} {X : RX} {P : Program}
theorem byteAV_rel (b : UInt8) : VRel X (byteAV b) (.int .u8 b.toNat) := .int _ _
theorem bytes_rel : ∀ (s : List UInt8), VRels X (s.map byteAV) (s.map fun b => Value.int .u8 b.toNat) ∧ allOne (s.map byteAV)
  | [] => ⟨.nil, fun _ h => by cases h⟩
  | b :: s => by
    obtain ⟨h1, h2⟩ := bytes_rel s
    refine ⟨.cons _ _ _ _ (byteAV_rel b) h1, fun v hv => ?_⟩
    cases hv with
    | head => rfl
    | tail _ hv => exact h2 v hv
theorem run_loadCells_at {w : World} {b o : Nat} {vs : List Value} (h : CellsAt w b o vs) {n : Nat} (hl : vs.length = n) : (loadCells ⟨b, o, none⟩ n).run P w = .ok vs.toArray w := by
  subst hl
  exact run_loadCells_list (P := P) w ⟨b, o, none⟩ vs (fun j v hv => by rw [addr_add]; exact h j v hv)
theorem cellsAt_heap {w w' : World} (h : w'.heap = w.heap) {b o : Nat} {vs : List Value} (hc : CellsAt w b o vs) : CellsAt w' b o vs := fun i v hv => by
  rw [← hc i v hv]; simp only [World.cell?, h]
/-- A slice's first cells, in every world of this memory. -/
theorem firstCells_run (hR : Rel B w0 E X) {y : AV} {c : Value} (hy : VRel X y c) {sz n : Nat} {new : List AV} {k : Cls} (h : sliceCells X.h sz n y = some (new, k)) :
    ∃ news, VRels X new news ∧ allOne new ∧ new.length = n * sz ∧ ∀ w' : World, w'.heap = X.w.heap → (Builtin.firstCells sz n c).run P w' = .ok news.toArray w' := by
  cases hy with
  | nils =>
    simp only [sliceCells] at h
    split at h
    · rename_i h0; cases h; exact ⟨[], .nil, (fun _ h => by cases h), by simp [h0], fun w' _ => by simp [Builtin.firstCells]⟩
    · cases h
  | fs full len cells a m vs hlen hfull hat h1 hvs =>
    simp only [sliceCells] at h
    split at h
    · rename_i hc
      obtain ⟨hc1, hc2⟩ := hc
      simp only [Option.some.injEq, Prod.mk.injEq] at h
      obtain ⟨rfl, _⟩ := h
      have hmul : n * sz ≤ len * sz := Nat.mul_le_mul_right _ hc1
      refine ⟨vs.take (n * sz), hvs.take _, h1.take _, by rw [List.length_take, hc2]; omega, fun w' hw => ?_⟩
      simp only [Builtin.firstCells]
      by_cases h0 : n * sz = 0
      · rw [h0]; simp [loadCells, loadCellsFrom]
      · have hne : cells ≠ [] := by rintro rfl; simp at hc2; omega
        obtain ⟨b, o, rfl, hst, hca⟩ := hat hne
        exact run_loadCells_at (cellsAt_heap hw (hca.take _)) (by rw [List.length_take, ← hvs.length, hc2]; omega)
    · cases h
  | sl id gen off sz' len cap a m hid hlen hcap hlive =>
    simp only [sliceCells] at h
    split at h
    · rename_i hc
      obtain ⟨rfl, hc2⟩ := hc
      simp only [Option.bind_eq_some_iff] at h
      obtain ⟨cs, hcs, h⟩ := h
      split at h
      · rename_i hfit
        simp only [Option.some.injEq, Prod.mk.injEq] at h
        obtain ⟨rfl, _⟩ := h
        have hl := Heap.at_some hcs
        obtain ⟨vs, g1, g2⟩ := (hR.obj id _ hl).at off
        have hlen' := g1.length
        simp only [List.length_drop] at hlen'
        refine ⟨vs.take (n * sz'), g1.take _, ((hR.obj id _ hl).one.drop off).take _, by simp; omega, fun w' hw => ?_⟩
        simp only [Builtin.firstCells]
        by_cases h0 : n * sz' = 0
        · rw [h0]; simp [loadCells, loadCellsFrom]
        · have hpos : 0 < n := Nat.pos_of_ne_zero fun e => h0 (by rw [e]; simp)
          have ha := ((hlive _ hl).2 rfl).1 (by omega)
          subst ha
          exact run_loadCells_at (cellsAt_heap hw (g2.take _)) (by rw [List.length_take]; omega)
      · cases h
    · cases h
  | str s =>
    simp only [sliceCells] at h
    split at h
    · rename_i hc
      obtain ⟨rfl, hc2⟩ := hc
      simp only [Option.some.injEq, Prod.mk.injEq] at h
      obtain ⟨rfl, _⟩ := h
      obtain ⟨g1, g2⟩ := bytes_rel (X := X) (s.take n)
      refine ⟨_, g1, g2, by simp; omega, fun w' hw => ?_⟩
      have he : (⟨s.toArray⟩ : ByteArray).extract 0 n = ⟨(s.take n).toArray⟩ := by
        apply ByteArray.ext
        simp [ByteArray.data_extract]
      simp [Builtin.firstCells, he]
    · cases h
  | _ => simp [sliceCells] at h
/-- what a value of a slice's kind has for its length -/
theorem lenOf_run {y : AV} {c : Value} (hy : VRel X y c) {n : Nat} (h : aLen y = some n) (w : World) : (Builtin.lenOf c).run P w = .ok n w := by
  cases hy <;> simp only [aLen, Option.some.injEq, reduceCtorEq] at h <;> subst h <;> simp [Builtin.lenOf, ByteArray.size]
structure AppT (P : Program) (t u e : TypeId) (sz bytes : Nat) : Prop where
  ht : P.underlying t = some (.slice e)
  hu : P.underlying u = some (.slice e) ∨ P.underlying u = some .string
  hs : tSize P e = some sz
  hb : tBytes P e = some bytes
  hz : ∃ z, tZero P e = some z ∧ z.length = sz
theorem zeroCells_size (z : Array Value) (n : Nat) : (Builtin.zeroCells z n).size = n * z.size := by simp [Builtin.zeroCells]
/-- An append that makes a new array. -/
theorem run_append_new {t u e ty : TypeId} {sz bytes : Nat} (hT : AppT P t u e sz bytes) {base : Option Addr} {len cap n : Nat} {y : Value} (w : World)
    (hly : (Builtin.lenOf y).run P w = .ok n w) (hg : cap < len + n) (hsm : (len + n) * bytes ≤ 70368744177664) (hsm' : len + n ≤ 70368744177664) {olds news : List Value}
    (ho : ∀ w' : World, w'.heap = w.heap → (Builtin.firstCells sz len (.slice base len cap)).run P w' = .ok olds.toArray w')
    (hn : ∀ w' : World, w'.heap = w.heap → (Builtin.firstCells sz n y).run P w' = .ok news.toArray w') :
    ∃ zc : Array Value, zc.size = sz ∧ (Builtin.append_ #[t, u] ty #[.slice base len cap, y]).run P w =
      .ok (.slice (some ⟨w.heap.size, 0, none⟩) (len + n) (grownCap w (len + n) cap e))
        (w.drew.alloc (.cells (olds.toArray ++ news.toArray ++ Builtin.zeroCells zc (grownCap w (len + n) cap e - (len + n))) e)) := by
  obtain ⟨z, hz, hzl⟩ := hT.hz
  obtain ⟨i, zv, hi, hiz, hm⟩ := tZero_info hz
  obtain ⟨i', hi', hs⟩ := tSize_info hT.hs
  obtain ⟨i2, hi2, hb⟩ := tBytes_info hT.hb
  rw [hi] at hi' hi2
  cases hi'; cases hi2
  have hzs : zv.cells.size = sz := by
    have := (mapM_cellAV (X := ⟨w, .empty, fun _ => ⟨0, 0, 0⟩, fun _ => False⟩) hm).1.length
    simp at this; omega
  refine ⟨zv.cells, hzs, ?_⟩
  have h1 : ¬ (len + n ≤ cap) := by omega
  have h2 : ¬ (((len + n : Nat) : Int) > IntKind.i64.max) := by
    have : IntKind.i64.max = 9223372036854775807 := by decide
    rw [this]; omega
  have h3 : ¬ (Builtin.nextslicecap (len + n) cap * i.bytes > 2 ^ 48) := by
    have := growslice_fits (bytes := i.bytes) hg (by rw [hb]; omega)
    omega
  have ho' := ho w.drew rfl
  have hn' := hn w.drew rfl
  have h4 : ¬ (9223372036854775807 < (len : Int) + (n : Int)) := by omega
  have h5 : ¬ (281474976710656 < Builtin.nextslicecap (len + n) cap * i.bytes) := by omega
  have hq : (Question.appendCap (len + n) cap e).forced = false := rfl
  have hsz := run_sizeOf hT.hs
  rcases hT.hu with hu | hu <;>
  simp [Builtin.append_, run_underlying hT.ht, run_underlying hu, hsz, typeInfo, zeroValue, hi, hiz, hly, h1, h4, h5, hq, ho', hn', newRow, grownCap] <;>
  (congr 2; apply Array.ext'; simp)
/-- An append for which there is room. -/
theorem run_append_in {t u e ty : TypeId} {sz bytes : Nat} (hT : AppT P t u e sz bytes) {a : Addr} {len cap n : Nat} {y : Value} (w w' : World)
    (hly : (Builtin.lenOf y).run P w = .ok n w) (hg : len + n ≤ cap) {news : List Value}
    (hn : (Builtin.firstCells sz n y).run P w = .ok news.toArray w) (hst : (storeCells (a.add (len * sz)) news).run P w = .ok () w') :
    (Builtin.append_ #[t, u] ty #[.slice (some a) len cap, y]).run P w = .ok (.slice (some a) (len + n) cap) w' := by
  have hsz := run_sizeOf hT.hs
  rcases hT.hu with hu | hu <;>
  simp [Builtin.append_, run_underlying hT.ht, run_underlying hu, hsz, hly, hg, hn, hst]
theorem run_append_in_nil {t u e ty : TypeId} {sz bytes : Nat} (hT : AppT P t u e sz bytes) {y : Value} (w : World)
    (hly : (Builtin.lenOf y).run P w = .ok 0 w) {news : List Value} (hn : (Builtin.firstCells sz 0 y).run P w = .ok news.toArray w) :
    (Builtin.append_ #[t, u] ty #[.slice none 0 0, y]).run P w = .ok (.slice none 0 0) w := by
  have hsz := run_sizeOf hT.hs
  rcases hT.hu with hu | hu <;>
  simp [Builtin.append_, run_underlying hT.ht, run_underlying hu, hsz, hly, hn]
theorem grow_arr {w : World} {olds news : List Value} {zc : Array Value} {sz len n cap : Nat} {e : TypeId} (hz : zc.size = sz) (ho : olds.length = len * sz) (hn : news.length = n * sz) :
    (olds.toArray ++ news.toArray ++ Builtin.zeroCells zc (grownCap w (len + n) cap e - (len + n))).size = grownCap w (len + n) cap e * sz := by
  have hge := grownCap_ge w (len + n) cap e
  simp only [Array.size_append, List.size_toArray, ho, hn, zeroCells_size, hz]
  rw [← Nat.add_mul, ← Nat.add_mul]
  congr 1
  omega
theorem take_two {olds news : List Value} {z : Array Value} {k : Nat} (h : k = olds.length + news.length) : (olds.toArray ++ news.toArray ++ z).toList.take k = olds ++ news := by
  subst h
  simp only [Array.toList_append]
  rw [List.take_append_of_le_length (by simp)]
  exact List.take_of_length_le (by simp)
/-- An append that makes a new object. -/
theorem sim_append_new (hR : Rel B w0 E X) {t u e ty : TypeId} {sz bytes : Nat} (hT : AppT P t u e sz bytes) {base : Option Addr} {len cap n : Nat} {y : Value} {old new : List AV}
    (hly : (Builtin.lenOf y).run P X.w = .ok n X.w) (hg : cap < len + n) (hsm : (len + n) * bytes ≤ 70368744177664) (hsm' : len + n ≤ 70368744177664) {olds news : List Value}
    (ro : VRels X old olds) (rn : VRels X new news) (oo : allOne old) (on : allOne new) (lo : old.length = len * sz) (ln : new.length = n * sz)
    (ho : ∀ w' : World, w'.heap = X.w.heap → (Builtin.firstCells sz len (.slice base len cap)).run P w' = .ok olds.toArray w')
    (hn : ∀ w' : World, w'.heap = X.w.heap → (Builtin.firstCells sz n y).run P w' = .ok news.toArray w') :
    Sim B w0 E X P (Builtin.append_ #[t, u] ty #[.slice base len cap, y]) (.sl X.h.next 0 0 sz (len + n) none) (X.h.new (old ++ new)) := by
  obtain ⟨zc, hzc, hrun⟩ := run_append_new (ty := ty) hT X.w hly hg hsm hsm' ho hn
  have l1 := ro.length
  have l2 := rn.length
  have hsz := grow_arr (w := X.w) (olds := olds) (news := news) (cap := cap) (e := e) hzc (l1.symm.trans lo) (l2.symm.trans ln)
  have hge := grownCap_ge X.w (len + n) cap e
  have hmul : (len + n) * sz ≤ grownCap X.w (len + n) cap e * sz := Nat.mul_le_mul_right _ hge
  rw [Nat.add_mul] at hmul
  refine Sim.new_ hR (below_drew_alloc X.w _) (Nat.le_refl _) (oo.append on) (by rw [← World.size_drew]; exact heap_new X.w.drew _) (.inl rfl) (by rw [hsz, List.length_append]; omega) ?_ hrun
    (VRel.newSl _ _ _ _ _ _ _ _ hge (fun _ h => by cases h) (by rw [hsz]; exact Nat.le_refl _) (fun _ => hsz.symm))
  rw [take_two (by rw [List.length_append]; omega)]
  exact ro.append rn
theorem sim_append (hR : Rel B w0 E X) {t u e ty : TypeId} {sz bytes : Nat} (hT : AppT P t u e sz bytes) {x y : AV} {c d : Value} (hx : VRel X x c) (hy : VRel X y d) {r : OpRes}
    (h : aAppend X.h sz bytes x y = some r) : Sim B w0 E X P (Builtin.append_ #[t, u] ty #[c, d]) r.v r.h := by
  simp only [aAppend, Option.bind_eq_some_iff] at h
  obtain ⟨n, hn, len, hlen, h⟩ := h
  split at h
  case isFalse => cases h
  rename_i hsm
  obtain ⟨hsm, hsm', hsz0⟩ := hsm
  have hly := lenOf_run (P := P) hy hn X.w
  split at h
  · -- nothing to append
    rename_i h0
    subst h0
    have hfc : ∃ news : List Value, (Builtin.firstCells sz 0 d).run P X.w = .ok news.toArray X.w ∧ news = [] := by
      refine ⟨[], ?_, rfl⟩
      cases hy <;> simp only [aLen, Option.some.injEq, reduceCtorEq] at hn <;> simp [Builtin.firstCells, loadCells, loadCellsFrom]
    obtain ⟨news, hfc, rfl⟩ := hfc
    cases hx with
    | nils =>
      cases h
      exact Sim.same hR (run_append_in_nil hT X.w hly hfc) .nils
    | str => cases h
    | fs full len' cells a m vs hlen' hfull hat h1 hvs =>
      simp only [aLen, Option.some.injEq] at hlen
      subst hlen
      cases h
      exact Sim.same hR (run_append_in hT X.w X.w hly (by omega) hfc (by simp [storeCells])) (.fs _ _ _ _ _ _ hlen' hfull hat h1 hvs)
    | sl id gen off sz' len' cap a m hid hlen' hcap hlive =>
      simp only [aLen, Option.some.injEq] at hlen
      subst hlen
      cases h
      exact Sim.same hR (run_append_in hT X.w X.w hly (by omega) hfc (by simp [storeCells])) (.sl _ _ _ _ _ _ _ _ hid hlen' hcap hlive)
    | _ => simp [aLen] at hlen
  rename_i h0
  simp only [Option.bind_eq_some_iff] at h
  obtain ⟨⟨new, kn⟩, hnew, h⟩ := h
  obtain ⟨news, rn, on, ln, hfn⟩ := firstCells_run (P := P) hR hy hnew
  have l2 := rn.length
  cases hx with
  | nils =>
    simp only [aLen, Option.some.injEq] at hlen
    subst hlen
    simp only [Option.map_eq_some_iff] at h
    obtain ⟨⟨old, ko⟩, hold, rfl⟩ := h
    obtain ⟨olds, ro, oo, lo, hfo⟩ := firstCells_run (P := P) hR .nils hold
    exact sim_append_new hR hT hly (by omega) hsm hsm' ro rn oo on lo ln hfo hfn
  | fs full len' cells a m vs hlen' hfull hat h1 hvs =>
    simp only [aLen, Option.some.injEq] at hlen
    subst hlen
    cases full with
    | false => cases h
    | true =>
      simp only [Option.map_eq_some_iff] at h
      obtain ⟨⟨old, ko⟩, hold, rfl⟩ := h
      obtain ⟨olds, ro, oo, lo, hfo⟩ := firstCells_run (P := P) hR (.fs _ _ _ _ _ _ hlen' hfull hat h1 hvs) hold
      have hm := hfull rfl
      exact sim_append_new hR hT hly (by omega) hsm hsm' ro rn oo on lo ln hfo hfn
  | sl id gen off sz' len' cap a m hid hlen' hcap hlive =>
    simp only [aLen, Option.some.injEq] at hlen
    subst hlen
    -- there is room within the object
    have room : ∀ (cs : List AV), X.h.at_ id gen = some cs → sz' = sz → len' + n ≤ m → off + (len' + n) * sz ≤ cs.length →
        Sim B w0 E X P (Builtin.append_ #[t, u] ty #[.slice (some a) len' m, d]) (.sl id gen off sz (len' + n) cap) (X.h.upd id gen (splice cs (off + len' * sz) new)) := by
      intro cs hcs hsz hm hfit
      subst hsz
      have hl := Heap.at_some hcs
      have ha := ((hlive _ hl).2 rfl).1 (by omega)
      rw [Nat.add_mul] at hfit
      obtain ⟨X', g1, g2, g3, g4, g5⟩ := sim_splice (P := P) hR hl rn on (off := off + len' * sz') (by rw [ln]; dsimp only; omega)
      refine ⟨X', .slice (some a) (len' + n) m, ?_, g2, g3, g4, ?_⟩
      · refine run_append_in hT X.w X'.w hly hm (hfn X.w rfl) ?_
        rw [ha, addr_add, Nat.add_assoc]
        exact g1
      · have hold := (VRel.sl id gen off sz' len' cap a m hid hlen' hcap hlive).ext g4
        cases hold with
        | sl _ _ _ _ _ _ _ _ q1 q2 q3 q4 => exact .sl _ _ _ _ _ _ _ _ q1 hm q3 q4
    cases cap with
    | some c0 =>
      have hm := hcap c0 rfl
      subst hm
      simp only at h
      split at h
      case isFalse => cases h
      rename_i hsz
      subst hsz
      split at h
      · rename_i hroom
        simp only [Option.bind_eq_some_iff] at h
        obtain ⟨cs, hcs, h⟩ := h
        split at h
        · rename_i hfit
          cases h
          exact room cs hcs rfl hroom hfit
        · cases h
      · rename_i hroom
        simp only [Option.map_eq_some_iff] at h
        obtain ⟨⟨old, ko⟩, hold, rfl⟩ := h
        obtain ⟨olds, ro, oo, lo, hfo⟩ := firstCells_run (P := P) hR (.sl _ _ _ _ _ _ _ _ hid hlen' hcap hlive) hold
        exact sim_append_new hR hT hly (by omega) hsm hsm' ro rn oo on lo ln hfo hfn
    | none =>
      simp only at h
      split at h
      case isFalse => cases h
      rename_i hsz
      subst hsz
      simp only [Option.bind_eq_some_iff] at h
      obtain ⟨cs, hcs, h⟩ := h
      have hl := Heap.at_some hcs
      obtain ⟨⟨arr, T, fz, ha, hb, hc, hd, he⟩, hone⟩ := hR.obj id _ hl
      dsimp only at hc he hone
      obtain ⟨hl1, hl2, hl3⟩ := (hlive _ hl).2 rfl
      have hl3 := hl3 rfl
      split at h
      · rename_i hfit
        cases h
        by_cases hm : len' + n ≤ m
        · exact room cs hcs rfl hm hfit
        · exfalso
          have : (m + 1) * sz' ≤ (len' + n) * sz' := Nat.mul_le_mul_right _ (by omega)
          rw [Nat.succ_mul] at this
          omega
      · rename_i hfit
        split at h
        case isFalse => cases h
        rename_i hend
        cases h
        have hcl : (cs.drop off ++ new).length = (len' + n) * sz' := by rw [List.length_append, List.length_drop, ln, Nat.add_mul]; omega
        have hon : allOne (cs.drop off ++ new) := (hone.drop off).append on
        by_cases hm : len' + n ≤ m
        · -- in place
          have hmul : (len' + n) * sz' ≤ m * sz' := Nat.mul_le_mul_right _ hm
          rw [Nat.add_mul] at hmul
          have ha' := hl1 (by omega)
          have hrun := run_storeCells_bare (P := P) (X.ρ id).b ((X.ρ id).o + off + len' * sz') T fz news 0 arr X.w ha (by rw [hb]; exact hd) (by omega) (rn.oneCells on)
          simp only [Nat.add_zero] at hrun
          have hrow := setRow_heap X.w (X.ρ id).b arr (arr.toList.take ((X.ρ id).o + off + len' * sz') ++ news ++ arr.toList.drop ((X.ρ id).o + off + len' * sz' + news.length)).toArray T fz ha
          have hasz : (arr.toList.take ((X.ρ id).o + off + len' * sz') ++ news ++ arr.toList.drop ((X.ρ id).o + off + len' * sz' + news.length)).toArray.size = arr.size := by
            simp; omega
          have hU := Rel.upd hR hl (setRow_only X.w _ _) (gen := gen + 1) (cs := cs.drop off ++ new) (p := ⟨(X.ρ id).b, (X.ρ id).o + off, (X.ρ id).n⟩) (Nat.le_succ _) (fun e => by simp at e) (.inl rfl) hon
            hrow (hasz.trans hb) hd (by dsimp only; rw [hcl, Nat.add_mul]; omega) ?_
          · refine ⟨_, .slice (some a) (len' + n) m, run_append_in hT X.w _ hly hm (hfn X.w rfl) (by rw [ha', addr_add]; exact hrun), rfl, hU,
              Ext.upd hR hl (setRow_only X.w _ _) (Nat.le_succ _) (fun e => by simp at e) (.inl rfl), ?_⟩
            refine .sl _ _ _ _ _ _ _ _ hid hm (fun _ e => by cases e) fun o ho => ?_
            simp only [RX.upd, Heap.look_upd, ↓reduceIte, Option.some.injEq] at ho ⊢
            subst ho
            exact ⟨Nat.le_refl _, fun _ => ⟨fun _ => by rw [ha']; simp, by omega, fun _ => by omega⟩⟩
          · have h1 := (he.drop off).append rn
            have e : List.take (cs.drop off ++ new).length (List.drop ((X.ρ id).o + off) (arr.toList.take ((X.ρ id).o + off + len' * sz') ++ news ++ arr.toList.drop ((X.ρ id).o + off + len' * sz' + news.length)).toArray.toList)
                = List.drop off (List.take cs.length (List.drop (X.ρ id).o arr.toList)) ++ news := by
              rw [hcl, Nat.add_mul]
              apply List.ext_getElem?
              intro k
              simp only [List.getElem?_take, List.getElem?_drop, List.getElem?_append, List.length_append, List.length_take, List.length_drop, Array.length_toList, Nat.min_def]
              repeat' split
              all_goals first
                | rfl
                | (exfalso; omega)
                | (congr 1; omega)
                | (simp only [List.getElem?_eq_none_iff, Array.length_toList]; omega)
                | (symm; simp only [List.getElem?_eq_none_iff, Array.length_toList]; omega)
            rw [e]
            exact h1
        · -- the array moves
          have hold : sliceCells X.h sz' len' (.sl id gen off sz' len' none) = some (cs.drop off, .read) := by
            simp only [sliceCells, hcs, Option.bind_some]
            rw [if_pos (Nat.le_of_eq hend), List.take_of_length_le (by simp; omega), if_pos ⟨trivial, Nat.le_refl _⟩]
          obtain ⟨olds, ro, oo, lo, hfo⟩ := firstCells_run (P := P) hR (.sl _ _ _ _ _ _ _ _ hid hlen' hcap hlive) hold
          obtain ⟨zc, hzc, hrun⟩ := run_append_new (ty := ty) hT X.w hly (by omega) hsm hsm' hfo hfn
          have l1 := ro.length
          have hasz := grow_arr (w := X.w) (olds := olds) (news := news) (cap := m) (e := e) hzc (l1.symm.trans lo) (l2.symm.trans ln)
          have hge := grownCap_ge X.w (len' + n) m e
          have hmul : (len' + n) * sz' ≤ grownCap X.w (len' + n) m e * sz' := Nat.mul_le_mul_right _ hge
          have hB := below_drew_alloc X.w (.cells (olds.toArray ++ news.toArray ++ Builtin.zeroCells zc (grownCap X.w (len' + n) m e - (len' + n))) e)
          have hO : Only (X.ρ id).b X.w (X.w.drew.alloc (.cells (olds.toArray ++ news.toArray ++ Builtin.zeroCells zc (grownCap X.w (len' + n) m e - (len' + n))) e)) :=
            ⟨hB.os, hB.tape, hB.output, hB.size, fun k hk _ => hB.block k hk⟩
          have hU := Rel.upd hR hl hO (gen := gen + 1) (cs := cs.drop off ++ new) (p := ⟨X.w.heap.size, 0, grownCap X.w (len' + n) m e * sz'⟩) (Nat.le_succ _) (fun e => by simp at e) (.inr (Nat.le_refl _)) hon
            (by rw [← World.size_drew]; exact heap_new X.w.drew _) hasz (.inl rfl) (by dsimp only; rw [hcl]; omega) ?_
          · refine ⟨_, _, hrun, rfl, hU, Ext.upd hR hl hO (Nat.le_succ _) (fun e => by simp at e) (.inr (Nat.le_refl _)), ?_⟩
            refine .sl _ _ _ _ _ _ _ _ hid hge (fun _ e => by cases e) fun o ho => ?_
            simp only [RX.upd, Heap.look_upd, ↓reduceIte, Option.some.injEq] at ho ⊢
            subst ho
            exact ⟨Nat.le_refl _, fun _ => ⟨fun _ => by simp, by simp, fun _ => by simp⟩⟩
          · rw [List.drop_zero, take_two (by rw [List.length_append, l1, l2])]
            exact ro.append rn
  | str => simp at h
  | _ => simp [aLen] at hlen
end
end Go.AM

set_option linter.unusedSimpArgs false
set_option linter.unusedVariables false
namespace Go.AM
open Go.RowKit
section
variable {B : Nat} {w0 : World} {E : Env} {X : RX} {P : Program}
theorem aInt_run {op : BinOp} {k : IntKind} {x y : Int} {v : AV} (h : aInt op k x y = some v) (hs : op ≠ .shl ∧ op ≠ .shr) (t : TypeId) (w : World) :
    ∃ v', (binOp op t (.int k x) (.int k y)).run P w = .ok v' w ∧ VRel X v v' := by
  cases op <;> simp only [aInt, Option.some.injEq, reduceCtorEq, ne_eq, not_true_eq_false, false_and, and_false] at h hs
  case add => subst h; exact ⟨_, by simp [binOp, Op.intArith], .int _ _⟩
  case sub => subst h; exact ⟨_, by simp [binOp, Op.intArith], .int _ _⟩
  case mul => subst h; exact ⟨_, by simp [binOp, Op.intArith], .int _ _⟩
  case quo => split at h; · cases h
              · rename_i h0; cases h; exact ⟨_, by simp [binOp, Op.intDiv, h0], .int _ _⟩
  case rem => split at h; · cases h
              · rename_i h0; cases h; exact ⟨_, by simp [binOp, Op.intDiv, h0], .int _ _⟩
  case and => subst h; exact ⟨_, by simp only [binOp]; simp [Op.intBits], .int _ _⟩
  case or => subst h; exact ⟨_, by simp only [binOp]; simp [Op.intBits], .int _ _⟩
  case xor => subst h; exact ⟨_, by simp only [binOp]; simp [Op.intBits], .int _ _⟩
  case andNot => subst h; exact ⟨_, by simp only [binOp]; simp [Op.intBits], .int _ _⟩
  case eql => subst h; exact ⟨_, by simp [binOp, Op.intCmp], .bool _⟩
  case neq => subst h; exact ⟨_, by simp [binOp, Op.intCmp], .bool _⟩
  case lss => subst h; exact ⟨_, by simp [binOp, Op.intCmp], .bool _⟩
  case leq => subst h; exact ⟨_, by simp [binOp, Op.intCmp], .bool _⟩
  case gtr => subst h; exact ⟨_, by simp [binOp, Op.intCmp], .bool _⟩
  case geq => subst h; exact ⟨_, by simp [binOp, Op.intCmp], .bool _⟩
theorem aShift_run {op : BinOp} {k k' : IntKind} {x y : Int} {v : AV} (h : aShift op k x y = some v) (t : TypeId) (w : World) :
    ∃ v', (binOp op t (.int k x) (.int k' y)).run P w = .ok v' w ∧ VRel X v v' := by
  unfold aShift at h
  split at h
  · cases h
  · rename_i h0
    cases op <;> simp only [Option.some.injEq, reduceCtorEq] at h
    case shl => subst h; exact ⟨_, by simp only [binOp, Op.shift, if_neg h0]; rfl, .int _ _⟩
    case shr => subst h; exact ⟨_, by simp only [binOp, Op.shift, if_neg h0]; rfl, .int _ _⟩
theorem bytes_toList (s : List UInt8) : (⟨s.toArray⟩ : ByteArray).toList = s := by rw [ByteArray.toList_eq]
theorem aStr_run {op : BinOp} {x y : List UInt8} {v : AV} (h : aStr op x y = some v) (t : TypeId) (w : World) :
    ∃ v', (binOp op t (.string ⟨x.toArray⟩) (.string ⟨y.toArray⟩)).run P w = .ok v' w ∧ VRel X v v' := by
  have e1 : (⟨x.toArray⟩ : ByteArray).size = x.length := by simp [ByteArray.size]
  have e2 : (⟨y.toArray⟩ : ByteArray).size = y.length := by simp [ByteArray.size]
  cases op <;> simp only [aStr, Option.some.injEq, reduceCtorEq] at h
  case add =>
    split at h
    · rename_i hc
      cases h
      have happ : (⟨x.toArray⟩ : ByteArray) ++ ⟨y.toArray⟩ = ⟨(x ++ y).toArray⟩ := by apply ByteArray.ext; simp
      have hmax : IntKind.i64.max = 9223372036854775807 := by decide
      have hn : ¬ ((((⟨x.toArray⟩ : ByteArray).size + (⟨y.toArray⟩ : ByteArray).size : Nat) : Int) > IntKind.i64.max) := by rw [e1, e2, hmax]; omega
      refine ⟨_, ?_, .str (x ++ y)⟩
      simp only [binOp, Op.stringOp]
      rw [if_neg hn, happ]
      rfl
    · cases h
  case eql => subst h; exact ⟨_, by simp only [binOp, Op.stringOp, bytes_toList]; rfl, .bool _⟩
  case neq => subst h; exact ⟨_, by simp only [binOp, Op.stringOp, bytes_toList]; rfl, .bool _⟩
  case lss => subst h; exact ⟨_, by simp only [binOp, Op.stringOp, bytes_toList]; rfl, .bool _⟩
  case leq => subst h; exact ⟨_, by simp only [binOp, Op.stringOp, bytes_toList]; rfl, .bool _⟩
  case gtr => subst h; exact ⟨_, by simp only [binOp, Op.stringOp, bytes_toList]; rfl, .bool _⟩
  case geq => subst h; exact ⟨_, by simp only [binOp, Op.stringOp, bytes_toList]; rfl, .bool _⟩
theorem eqGuard_int (op : BinOp) (t : TypeId) (x y : Operand) (k k' : IntKind) (a b : Int) (w : World) : (eqGuard op t x y (.int k a) (.int k' b)).run P w = .ok () w := by
  cases op <;> simp [eqGuard]
theorem eqGuard_str (op : BinOp) (t : TypeId) (x y : Operand) (a b : ByteArray) (w : World) : (eqGuard op t x y (.string a) (.string b)).run P w = .ok () w := by
  cases op <;> simp [eqGuard]
theorem sim_bin (hR : Rel B w0 E X) {op : BinOp} {t : TypeId} {x y : AV} {c d : Value} (hx : VRel X x c) (hy : VRel X y d) {v : AV} (h : aBin op x y = some v) (ox oy : Operand) :
    Sim B w0 E X P (do eqGuard op t ox oy c d; binOp op t c d) v X.h := by
  cases hx with
  | int k a =>
    cases hy with
    | int k' b =>
      have hg := eqGuard_int (P := P) op t ox oy k k' a b X.w
      have : ∃ v', (binOp op t (.int k a) (.int k' b)).run P X.w = .ok v' X.w ∧ VRel X v v' := by
        cases op <;> simp only [aBin] at h <;> first
          | exact aShift_run h t X.w
          | (split at h
             · rename_i e
               subst e
               exact aInt_run h ⟨by simp, by simp⟩ t X.w
             · cases h)
      obtain ⟨v', hr, hv⟩ := this
      exact Sim.same hR (by simp only [Sem.run_bind, hg, Result.andThen_ok, hr]) hv
    | _ => simp [aBin] at h
  | str a =>
    cases hy with
    | str b =>
      obtain ⟨v', hr, hv⟩ := aStr_run (P := P) (X := X) h t X.w
      exact Sim.same hR (by simp only [Sem.run_bind, eqGuard_str, Result.andThen_ok, hr]) hv
    | _ => simp [aBin] at h
  | _ => simp [aBin] at h
theorem sim_un (hR : Rel B w0 E X) {op : UnOp} {x : AV} {c : Value} (hx : VRel X x c) {v : AV} (h : aUn op x = some v) : Sim B w0 E X P (Op.unary op c) v X.h := by
  cases hx with
  | int k n =>
    cases op <;> simp only [aUn, Option.some.injEq, reduceCtorEq] at h
    case neg => subst h; exact Sim.same hR (v' := .int k (k.wrap (0 - n))) (by simp [Op.unary, Op.intArith]) (.int _ _)
    case xor => subst h; exact Sim.same hR (by simp only [Op.unary, Op.intBits]; rfl) (.int _ _)
  | bool b =>
    cases op <;> simp only [aUn, Option.some.injEq, reduceCtorEq] at h
    subst h
    exact Sim.same hR (by simp only [Op.unary]; rfl) (.bool _)
  | _ => simp [aUn] at h
set_option maxHeartbeats 2000000 in
theorem eqScalar_run {e : EqT} {d : TypeDesc} {lit : Bool} (he : eqScalar lit d = some e) {t : TypeId} (hu : P.underlying t = some d) {x y : AV} {c c' : Value} (hx : VRel X x c) (hy : VRel X y c') {r : Bool}
    (h : aEqScalar e x y = some r) (n : Nat) (w : World) : (Op.equalIn (n + 1) t c c').run P w = .ok r w := by
  cases d <;> simp only [eqScalar, Option.some.injEq, reduceCtorEq] at he <;> subst he <;>
    cases hx <;> simp only [aEqScalar, reduceCtorEq] at h <;>
    cases hy <;> simp only [reduceCtorEq, Option.some.injEq] at h <;>
    first
    | (subst h; simp [Op.equalIn, run_underlying hu, bytes_toList, beq_toListBytes]; done)
    | (split at h
       · rename_i e1
         simp only [reduceCtorEq, Option.some.injEq] at h
         subst h
         simp_all [Op.equalIn, run_underlying hu]
       · rename_i e1
         simp only [reduceCtorEq, Option.some.injEq] at h
         subst h
         simp_all [Op.equalIn, run_underlying hu])
    | (split at h
       · rename_i e1
         simp only [reduceCtorEq, Option.some.injEq] at h
         subst h
         simp_all [Op.equalIn, run_underlying hu]
       · simp only [reduceCtorEq, Option.some.injEq] at h)
    | (split at h
       · simp only [reduceCtorEq, Option.some.injEq] at h
       · rename_i e1
         simp only [reduceCtorEq, Option.some.injEq] at h
         subst h
         simp_all [Op.equalIn, run_underlying hu])
theorem eqGuard_nil {op : BinOp} {t : TypeId} {ox oy : Operand} (h : (isLit ox || isLit oy) = true) (w : World) : (eqGuard op t ox oy .nilIface .nilIface).run P w = .ok () w := by
  cases op <;> simp [eqGuard]
  all_goals
    cases ox <;> cases oy <;> simp_all [isLit]
/-- What is held against what: the guard lets it by. -/
theorem eqGuard_run {op : BinOp} {e : EqT} {d : TypeDesc} {t : TypeId} {ox oy : Operand} (he : eqScalar (isLit ox || isLit oy) d = some e) {x y : AV} {c c' : Value} (hx : VRel X x c) (hy : VRel X y c') {r : Bool}
    (h : aEqScalar e x y = some r) (w : World) : (eqGuard op t ox oy c c').run P w = .ok () w := by
  cases hx <;> cases hy <;> (first | (cases op <;> simp [eqGuard]; done) | skip)
  case nili.nili =>
    cases d <;> simp only [eqScalar, Option.some.injEq, reduceCtorEq] at he <;> subst he <;> simp only [aEqScalar, reduceCtorEq] at h
    rename_i ms
    cases hl : (isLit ox || isLit oy) with
    | true => exact eqGuard_nil hl w
    | false => rw [hl] at h; simp [aEqScalar] at h
  case agg.agg =>
    cases d <;> simp only [eqScalar, Option.some.injEq, reduceCtorEq] at he <;> subst he <;> simp [aEqScalar] at h
theorem binOp_eq_run {op : BinOp} (ho : op = .eql ∨ op = .neq) {t : TypeId} {c c' : Value} {r : Bool} {w : World} (h : (Op.equal t c c').run P w = .ok r w)
    (hi : ∀ k a k' b, ¬ (c = .int k a ∧ c' = .int k' b)) (hs : ∀ a b, ¬ (c = .string a ∧ c' = .string b))
    (hn : c.oneCell' = true → ∀ k a, c ≠ .float k a) (hc : ∀ k a b, c ≠ .complex k a b) :
    (binOp op t c c').run P w = .ok (.bool (if op = .neq then !r else r)) w := by
  rcases ho with rfl | rfl
  all_goals
    cases c <;> cases c' <;> first
      | exact absurd ⟨rfl, rfl⟩ (hi _ _ _ _)
      | exact absurd ⟨rfl, rfl⟩ (hs _ _)
      | exact absurd rfl (hc _ _ _)
      | exact absurd rfl (hn rfl _ _)
      | simp [binOp, h]
theorem eqFields_run (hs : ∀ (n : Nat), True) : ∀ {fs : List Field} {es : List (Nat × Nat × Bool × EqT)}, eqFields P fs = some es → ∀ {xs ys : List AV} {cs ds : List Value}, VRels X xs cs → VRels X ys ds → ∀ {r : Bool},
    aEqs es xs ys = some r → ∀ (n : Nat) (w : World), (∀ f ∈ fs, ∃ d, P.underlying f.type = some d ∧ (∀ a, d ≠ .struct a) ∧ ∀ a b, d ≠ .array a b) →
    (Op.eqFields (n + 1) cs.toArray ds.toArray fs).run P w = .ok r w
  | [], es, he, xs, ys, cs, ds, hx, hy, r, h, n, w, _ => by
    simp only [eqFields, Option.some.injEq] at he; subst he
    simp only [aEqs, Option.some.injEq] at h; subst h
    simp [Op.eqFields]
  | f :: fs, es, he, xs, ys, cs, ds, hx, hy, r, h, n, w, hd => by
    simp only [eqFields] at he
    split at he
    · cases he
    rename_i hname
    simp only [Option.pure_def, Option.bind_eq_bind, Option.bind_eq_some_iff] at he
    obtain ⟨d, hu, e, hes, rest, hrest, e0⟩ := he
    cases e0
    simp only [aEqs, Option.bind_eq_some_iff] at h
    obtain ⟨a, ha, b, hb, r1, hr1, h⟩ := h
    obtain ⟨a', ha', ra⟩ := hx.get ha
    obtain ⟨b', hb', rb⟩ := hy.get hb
    have hag : tAgg P f.type = some false := by
      obtain ⟨d', hu', q1, q2⟩ := hd f (by simp)
      rw [hu] at hu'
      cases hu'
      unfold tAgg
      rw [hu]
      cases d <;> simp_all
    have p1 : (part f.type cs.toArray f.offset).run P w = .ok a' w := by simp [part, tAgg_isAgg hag, ha']
    have p2 : (part f.type ds.toArray f.offset).run P w = .ok b' w := by simp [part, tAgg_isAgg hag, hb']
    have p3 := eqScalar_run hes hu ra rb hr1 n w
    simp only [Op.eqFields, if_pos (show f.name ≠ "_" from hname), Sem.run_bind, p1, p2, p3, Result.andThen_ok]
    cases r1 with
    | false => simp only [Option.some.injEq] at h; subst h; simp
    | true =>
      simp only [Bool.not_true, Bool.false_eq_true, if_false]
      exact eqFields_run hs hrest hx hy h n w (fun g hg => hd g (by simp [hg]))
theorem eqFields_plain : ∀ {fs : List Field} {es : List (Nat × Nat × Bool × EqT)}, eqFields P fs = some es → ∀ f ∈ fs, ∃ d, P.underlying f.type = some d ∧ (∀ a, d ≠ .struct a) ∧ ∀ a b, d ≠ .array a b
  | [], _, _, _, h => by cases h
  | f :: fs, es, he, g, hg => by
    simp only [eqFields] at he
    split at he
    · cases he
    simp only [Option.pure_def, Option.bind_eq_bind, Option.bind_eq_some_iff] at he
    obtain ⟨d, hu, e, hes, rest, hrest, e0⟩ := he
    cases hg with
    | head =>
      refine ⟨d, hu, ?_, ?_⟩
      · rintro a rfl; simp [eqScalar] at hes
      · rintro a b rfl; simp [eqScalar] at hes
    | tail _ hg => exact eqFields_plain hrest g hg
theorem sim_eq (hR : Rel B w0 E X) {op : BinOp} (ho : op = .eql ∨ op = .neq) {t : TypeId} {ox oy : Operand} {e : EqT} (he : trEq P t (isLit ox || isLit oy) = some e)
    (hni : ∀ d, P.underlying t = some d → (∀ k, d ≠ .int k) ∧ d ≠ .string)
    {x y : AV} {c d : Value} (hx : VRel X x c) (hy : VRel X y d) {r : Bool} (h : aEq e x y = some r) :
    Sim B w0 E X P (do eqGuard op t ox oy c d; binOp op t c d) (.bool (if op = .neq then !r else r)) X.h := by
  simp only [trEq, Option.bind_eq_bind, Option.bind_eq_some_iff] at he
  obtain ⟨ds, hu, he⟩ := he
  obtain ⟨n1, n2⟩ := hni ds hu
  by_cases hst : ∃ fs, ds = .struct fs
  · obtain ⟨fs, rfl⟩ := hst
    simp only at he
    split at he
    · cases he
    rename_i hbad
    simp only [Bool.or_eq_true, not_or, Bool.not_eq_true] at hbad
    simp only [Option.map_eq_some_iff] at he
    obtain ⟨es, hes, rfl⟩ := he
    cases hx with
    | agg xs cs h1 hv =>
      cases hy with
      | agg ys ds' h2 hv2 =>
        simp only [aEq] at h
        have hf : P.fieldsOf t = fs := by simp [Program.fieldsOf, hu]
        have hrun := eqFields_run (P := P) (X := X) (fun _ => trivial) hes hv hv2 h 9998 X.w (eqFields_plain hes)
        have hG := run_eqGuard_agg (P := P) X.w op t ox oy cs.toArray ds'.toArray hbad.2
        have hE := run_equalIn_struct (P := P) X.w 9999 t cs.toArray ds'.toArray (by rw [hf]; exact hu) hbad.1
        rw [hf, hrun] at hE
        refine Sim.same hR ?_ (.bool _)
        simp only [Sem.run_bind, hG, Result.andThen_ok]
        rcases ho with rfl | rfl
        · rw [run_eql_struct, hE]; rfl
        · rw [run_neq_struct, hE]; rfl
      | _ => simp [aEq] at h
    | _ => simp [aEq] at h
  · have he' : eqScalar (isLit ox || isLit oy) ds = some e := by
      cases ds <;> first | exact he | (exact absurd ⟨_, rfl⟩ hst)
    have h' : aEqScalar e x y = some r := by
      cases ds <;> simp only [eqScalar, Option.some.injEq, reduceCtorEq] at he' <;> subst he' <;> exact h
    have hG := eqGuard_run (P := P) (op := op) (t := t) he' hx hy h' X.w
    have hE : (Op.equal t c d).run P X.w = .ok r X.w := eqScalar_run he' hu hx hy h' 9999 X.w
    refine Sim.same hR ?_ (.bool _)
    simp only [Sem.run_bind, hG, Result.andThen_ok]
    refine binOp_eq_run ho hE ?_ ?_ ?_ ?_
    · rintro k a k' b ⟨rfl, rfl⟩
      cases hx; cases hy
      cases ds <;> simp only [eqScalar, Option.some.injEq, reduceCtorEq] at he' <;> subst he' <;> simp_all [aEqScalar]
    · rintro a b ⟨rfl, rfl⟩
      cases hx; cases hy
      cases ds <;> simp only [eqScalar, Option.some.injEq, reduceCtorEq] at he' <;> subst he' <;> simp_all [aEqScalar]
    · intro _ k a e1; subst e1; cases hx
    · intro k a b e1; subst e1; cases hx
end
end Go.AM

set_option linter.unusedSimpArgs false
set_option linter.unusedVariables false
namespace Go.AM
open Go.RowKit
section
variable {B : Nat} {w0 : World} {E : Env} {X : RX} {P : Program}
theorem range_mod (z : Array Value) (len : Nat) (hpos : 0 < z.size) : ((Array.range (len * z.size)).map (z[· % z.size]!)).toList = (List.replicate len z.toList).flatten := by
  apply List.ext_getElem
  · simp
  · intro j hj1 hj2
    have hj : j < len * z.size := by simpa using hj1
    simp only [Array.toList_map, Array.toList_range, List.getElem_map, List.getElem_range]
    have hmod : j % z.size < z.size := Nat.mod_lt _ hpos
    rw [getElem!_pos z _ hmod]
    have hfl : ∀ (m j : Nat), j < m * z.size → (List.replicate m z.toList).flatten[j]? = some (z[j % z.size]'(Nat.mod_lt _ hpos)) := by
      intro m
      induction m with
      | zero => intro j h; simp at h
      | succ m ih =>
        intro j h
        simp only [List.replicate_succ, List.flatten_cons, List.getElem?_append, Array.length_toList]
        split
        · rename_i hlt
          simp only [Nat.mod_eq_of_lt hlt, Array.getElem?_toList, Array.getElem?_eq_getElem hlt]
        · rename_i hge
          have hge' : z.size ≤ j := Nat.le_of_not_lt hge
          rw [ih (j - z.size) (by rw [Nat.succ_mul] at h; omega)]
          congr 2
          exact (Nat.mod_eq_sub_mod hge').symm
    have h1 := hfl len j hj
    rw [List.getElem?_eq_getElem hj2] at h1
    simpa using h1.symm
theorem sim_makeSlice (hR : Rel B w0 E X) {t e : TypeId} (hu : P.underlying t = some (.slice e)) {sz bytes : Nat} {zero : List AV} (hs : tSize P e = some sz) (hb : tBytes P e = some bytes) (hz : tZero P e = some zero)
    {x y : AV} {c d : Value} (hx : VRel X x c) (hy : VRel X y d) {r : OpRes} (h : aMakeSlice X.h sz bytes zero x y = some r) : Sim B w0 E X P (Instr.makeSlice t c d) r.v r.h := by
  cases hx with
  | int k l =>
    cases hy with
    | int k' m =>
      cases k <;> cases k' <;> simp only [aMakeSlice, reduceCtorEq] at h
      split at h
      case isFalse => cases h
      rename_i hc
      obtain ⟨c1, c2, c3, c4, c5⟩ := hc
      cases h
      obtain ⟨i, zv, hi, hiz, hm⟩ := tZero_info hz
      obtain ⟨i1, hi1, hs1⟩ := tSize_info hs
      obtain ⟨i2, hi2, hb2⟩ := tBytes_info hb
      rw [hi] at hi1 hi2
      cases hi1; cases hi2
      obtain ⟨h1, h2⟩ := mapM_cellAV (X := X) hm
      have hzs : zv.cells.size = sz := by have := h1.length; simp at this; omega
      have w1 : IntKind.i64.wrap l = l := IntWalk.i64_in l (by omega)
      have w2 : IntKind.i64.wrap m = m := IntWalk.i64_in m (by omega)
      have hmn : m.toNat = m.toNat := rfl
      have hbm : ¬ (↑i.bytes * m > (2 ^ 48 : Int)) := by rw [hb2]; omega
      have hcond : (decide (m < 0) || decide (↑i.bytes * m > (2 ^ 48 : Int)) || decide (l < 0) || decide (l > m)) = false := by simp; omega
      -- the cells
      have hcells : ∃ arr : Array Value, VRels X (List.replicate m.toNat zero).flatten arr.toList ∧ arr.size = m.toNat * sz ∧
          (Instr.makeSlice t (.int .i64 l) (.int .i64 m)).run P X.w = .ok (.slice (some ⟨X.w.heap.size, 0, none⟩) l.toNat m.toNat) (X.w.alloc (.cells arr e)) := by
        have g1 : ¬ (m < 0) := by omega
        have g2 : ¬ (281474976710656 < (i.bytes : Int) * m) := by rw [hb2]; omega
        have g3 : ¬ (l < 0) := by omega
        have g4 : ¬ (m < l) := by omega
        by_cases h0 : m.toNat * i.size = 0
        · refine ⟨#[], ?_, by rw [← hs1]; simpa using h0.symm, ?_⟩
          · have : (List.replicate m.toNat zero).flatten = [] := by
              apply List.eq_nil_of_length_eq_zero
              simp only [List.length_flatten, List.map_replicate, List.sum_replicate_nat]
              rw [c5, ← hs1]; exact h0
            rw [this]; exact .nil
          · have hr0 : (Array.map (fun _ => (default : Value)) (Array.range 0)) = #[] := by simp
            simp [Instr.makeSlice, run_underlying hu, asInt, asIntOf, typeInfo, hi, w1, w2, g1, g2, g3, g4, sizeOf, h0, newRow]
            rw [hr0]
        · have hpos : 0 < zv.cells.size := by
            rw [hzs, ← hs1]
            exact Nat.pos_of_ne_zero fun e => h0 (by rw [e]; simp)
          refine ⟨(Array.range (m.toNat * i.size)).map (zv.cells[· % zv.cells.size]!), ?_, by simp [hs1], ?_⟩
          · rw [hs1, ← hzs, range_mod _ _ hpos]
            exact VRels.flatten_replicate h1 _
          · simp [Instr.makeSlice, run_underlying hu, asInt, asIntOf, typeInfo, zeroValue, hi, hiz, w1, w2, g1, g2, g3, g4, sizeOf, h0, newRow]
      obtain ⟨arr, q1, q2, q3⟩ := hcells
      have hlen := q1.length
      have hone : allOne (List.replicate m.toNat zero).flatten := by
        intro v hv
        simp only [List.mem_flatten, List.mem_replicate] at hv
        obtain ⟨l', ⟨_, rfl⟩, hv⟩ := hv
        exact h2 v hv
      refine Sim.new_ hR (below_alloc' X.w _) (Nat.le_refl _) hone (heap_new X.w _) (.inl rfl) (by simpa using Nat.le_of_eq hlen) (by rw [hlen, List.take_length]; exact q1) q3
        (VRel.newSl _ _ _ _ _ _ _ _ (by omega) (fun k hk => by cases hk; rfl) (by rw [q2]; exact Nat.le_refl _) (fun e => by cases e))
    | _ => simp [aMakeSlice] at h
  | _ => simp [aMakeSlice] at h
theorem sim_max (hR : Rel B w0 E X) {tys : Array TypeId} {ty : TypeId} {x y : AV} {c d : Value} (hx : VRel X x c) (hy : VRel X y d) {v : AV} (h : aMinMax true x y = some v) :
    Sim B w0 E X P (Builtin.max_ tys ty #[c, d]) v X.h := by
  cases hx with
  | int k a =>
    cases hy with
    | int k' b =>
      by_cases e : k = k'
      · subst e
        simp only [aMinMax, if_true, Option.some.injEq] at h
        subst h
        exact Sim.same hR (v' := .int k (if b > a then b else a)) (by simp [Builtin.max_, Builtin.max2]) (.int _ _)
      · simp [aMinMax, e] at h
    | _ => simp [aMinMax] at h
  | _ => simp [aMinMax] at h
theorem sim_min (hR : Rel B w0 E X) {tys : Array TypeId} {ty : TypeId} {x y : AV} {c d : Value} (hx : VRel X x c) (hy : VRel X y d) {v : AV} (h : aMinMax false x y = some v) :
    Sim B w0 E X P (Builtin.min_ tys ty #[c, d]) v X.h := by
  cases hx with
  | int k a =>
    cases hy with
    | int k' b =>
      by_cases e : k = k'
      · subst e
        simp only [aMinMax, if_true, Option.some.injEq] at h
        subst h
        exact Sim.same hR (v' := .int k (if b < a then b else a)) (by simp [Builtin.min_, Builtin.min2]) (.int _ _)
      · simp [aMinMax, e] at h
    | _ => simp [aMinMax] at h
  | _ => simp [aMinMax] at h
theorem toByte_cells : ∀ {cs : List AV} {vs : List Value} {bs : List UInt8}, VRels X cs vs → cs.mapM toByte = some bs → ∃ ns : List Int, vs = ns.map (Value.int .u8) ∧ bs = ns.map fun n => UInt8.ofNat n.toNat
  | _, _, bs, .nil, h => by simp at h; subst h; exact ⟨[], rfl, rfl⟩
  | _, _, bs, .cons v v' cs vs hv hvs, h => by
    simp only [List.mapM_cons, Option.pure_def, Option.bind_eq_bind, Option.bind_eq_some_iff] at h
    obtain ⟨b, hb, r, hr, e⟩ := h
    cases e
    obtain ⟨ns, rfl, rfl⟩ := toByte_cells hvs hr
    cases hv with
    | int k n =>
      cases k <;> simp only [toByte, Option.some.injEq, reduceCtorEq] at hb
      subst hb
      exact ⟨n :: ns, rfl, rfl⟩
    | _ => simp [toByte] at hb
theorem foldl_push : ∀ (ns : List Int) (s : List UInt8), ns.foldl (fun (r : ByteArray) n => r.push (UInt8.ofNat n.toNat)) ⟨s.toArray⟩ = ⟨(s ++ ns.map fun n => UInt8.ofNat n.toNat).toArray⟩
  | [], s => by simp
  | n :: ns, s => by
    simp only [List.foldl_cons]
    have : (⟨s.toArray⟩ : ByteArray).push (UInt8.ofNat n.toNat) = ⟨(s ++ [UInt8.ofNat n.toNat]).toArray⟩ := by
      apply ByteArray.ext
      simp
    rw [this, foldl_push ns]
    simp
theorem sim_b2s (hR : Rel B w0 E X) {s d e : TypeId} (hs : P.underlying s = some (.slice e)) (he : P.underlying e = some (.int .u8)) (hd : P.underlying d = some .string) {x : AV} {c : Value}
    (hx : VRel X x c) {r : OpRes} (h : aConv X.h .b2s x = some r) : Sim B w0 E X P (convert s d c) r.v r.h := by
  have hns : ∀ s, x ≠ .str s := by rintro s rfl; simp [aConv] at h
  have h : (aLen x).bind (fun n => (sliceCells X.h 1 n x).bind fun q => (q.1.mapM toByte).map fun bs => (⟨.str bs, X.h, q.2⟩ : OpRes)) = some r := by
    cases x <;> first | exact h | exact absurd rfl (hns _)
  simp only [Option.bind_eq_some_iff, Option.map_eq_some_iff] at h
  obtain ⟨n, hn, ⟨cs, k⟩, hcs, bs, hbs, rfl⟩ := h
  obtain ⟨news, rn, on, ln, hf⟩ := firstCells_run (P := P) hR hx hcs
  obtain ⟨ns, rfl, rfl⟩ := toByte_cells rn hbs
  have hf := hf X.w rfl
  have hfin := foldl_push ns []
  simp only [List.nil_append] at hfin
  cases hx with
  | nils =>
    simp only [aLen, Option.some.injEq] at hn
    subst hn
    have hl := rn.length
    have : ns = [] := by
      apply List.eq_nil_of_length_eq_zero
      have := rn.length
      simp at this hl
      omega
    subst this
    refine Sim.same hR (v' := .string ⟨#[]⟩) ?_ (.str [])
    rw [run_convert_bytes_string _ _ _ e _ _ _ hs he hd]
    simp [Conv.bytesToString]
    rfl
  | fs full len cells a m vs hlen hfull hat h1 hvs =>
    simp only [aLen, Option.some.injEq] at hn
    subst hn
    refine Sim.same hR (v' := .string ⟨(ns.map fun n => UInt8.ofNat n.toNat).toArray⟩) ?_ (.str _)
    rw [run_convert_bytes_string _ _ _ e _ _ _ hs he hd, run_bytesToString X.w a len m ns (by simpa [Builtin.firstCells] using hf), ← hfin]
    rfl
  | sl id gen off sz' len cap a m hid hlen hcap hlive =>
    simp only [aLen, Option.some.injEq] at hn
    subst hn
    refine Sim.same hR (v' := .string ⟨(ns.map fun n => UInt8.ofNat n.toNat).toArray⟩) ?_ (.str _)
    rw [run_convert_bytes_string _ _ _ e _ _ _ hs he hd, run_bytesToString X.w a len m ns (by simpa [Builtin.firstCells] using hf), ← hfin]
    rfl
  | str s => exact absurd rfl (hns s)
  | _ => simp [aLen] at hn
theorem freeze_block (w : World) (b n : Nat) (arr : Array Value) (T : TypeId) (fz : Nat × Nat) (h : w.heap[b]? = some (.cells arr T fz)) :
    (w.freeze ⟨b, n, none⟩ 1).heap[b]? = some (.cells arr T (if fz.1 == fz.2 then (n, n + 1) else (min fz.1 n, max fz.2 (n + 1)))) := by
  simp only [World.freeze, Nat.one_ne_zero, if_false, Array.getElem?_modify, if_true, h, Option.map_some]
theorem freeze_only (w : World) (b n : Nat) : Only b w (w.freeze ⟨b, n, none⟩ 1) :=
  ⟨rfl, rfl, rfl, by simp [World.freeze], fun k _ hne => by simp only [World.freeze, Nat.one_ne_zero, if_false, Array.getElem?_modify, if_neg (Ne.symm hne)]⟩
theorem bare_freeze {n : Nat} {fz : Nat × Nat} (h : Bare n fz) : Bare n (if fz.1 == fz.2 then (n, n + 1) else (min fz.1 n, max fz.2 (n + 1))) := by
  right
  split
  · exact Nat.le_refl _
  · rename_i hne
    rcases h with e | e
    · subst e; simp at hne
    · simp only [Nat.min_def]; split <;> omega
theorem run_markStringish (w : World) (b o : Nat) (arr : Array Value) (T : TypeId) (fz : Nat × Nat) (h : w.heap[b]? = some (.cells arr T fz)) :
    (markStringish ⟨b, o, none⟩).run P w = .ok () (w.freeze ⟨b, arr.size, none⟩ 1) := by
  simp [markStringish, World.shape?, h]
theorem sim_s2b (hR : Rel B w0 E X) {s d e : TypeId} (hs : P.underlying s = some .string) (hd : P.underlying d = some (.slice e)) (he : P.underlying e = some (.int .u8)) {x : AV} {c : Value}
    (hx : VRel X x c) {r : OpRes} (h : aConv X.h .s2b x = some r) : Sim B w0 E X P (convert s d c) r.v r.h := by
  cases hx with
  | str l =>
    simp only [aConv, Option.some.injEq] at h
    subst h
    obtain ⟨h1, h2⟩ := bytes_rel (X := X) l
    have hsz : (⟨l.toArray⟩ : ByteArray).size = l.length := by simp [ByteArray.size]
    have hge := grownCap_ge X.w l.length 0 e
    have hq : (Question.appendCap l.length 0 e).forced = false := rfl
    have hrow := heap_new X.w.drew (.cells ((l.toArray.map fun b : UInt8 => Value.int .u8 b.toNat) ++ Array.replicate (grownCap X.w l.length 0 e - l.length) (Value.int .u8 0)) e)
    have hasz : ((l.toArray.map fun b : UInt8 => Value.int .u8 b.toNat) ++ Array.replicate (grownCap X.w l.length 0 e - l.length) (Value.int .u8 0)).size = grownCap X.w l.length 0 e := by
      simp; omega
    have hfr := freeze_block _ X.w.drew.heap.size ((l.toArray.map fun b : UInt8 => Value.int .u8 b.toNat) ++ Array.replicate (grownCap X.w l.length 0 e - l.length) (Value.int .u8 0)).size _ _ _ hrow
    have hmk := run_markStringish (P := P) _ X.w.drew.heap.size 0 _ _ _ hrow
    have hO := freeze_only (X.w.drew.alloc (.cells ((l.toArray.map fun b : UInt8 => Value.int .u8 b.toNat) ++ Array.replicate (grownCap X.w l.length 0 e - l.length) (Value.int .u8 0)) e)) X.w.drew.heap.size
      ((l.toArray.map fun b : UInt8 => Value.int .u8 b.toNat) ++ Array.replicate (grownCap X.w l.length 0 e - l.length) (Value.int .u8 0)).size
    have hA := below_drew_alloc X.w (.cells ((l.toArray.map fun b : UInt8 => Value.int .u8 b.toNat) ++ Array.replicate (grownCap X.w l.length 0 e - l.length) (Value.int .u8 0)) e)
    refine Sim.new_ hR (w' := World.freeze _ _ 1) (b := X.w.drew.heap.size) ⟨hO.os.trans hA.os, hO.tape.trans hA.tape, hO.output.trans hA.output, Nat.le_trans hA.size hO.size, fun k hk => ?_⟩ (Nat.le_refl _) h2 hfr
      (bare_freeze (.inl rfl)) (by rw [hasz]; simpa using hge) ?_ (v' := .slice (some ⟨X.w.drew.heap.size, 0, none⟩) l.length (grownCap X.w l.length 0 e)) ?_
      (VRel.newSl _ _ _ _ _ _ _ _ hge (fun _ h => by cases h) (by rw [hasz]; omega) (fun _ => by rw [hasz]; omega))
    · rw [hO.block k (by simp; omega) (by simp; omega)]
      exact hA.block k hk
    · have : List.take (List.map byteAV l).length ((l.toArray.map fun b : UInt8 => Value.int .u8 b.toNat) ++ Array.replicate (grownCap X.w l.length 0 e - l.length) (Value.int .u8 0)).toList = l.map fun b => Value.int .u8 b.toNat := by
        simp
      rw [this]
      exact h1
    · have hc : (convert s d (.string ⟨l.toArray⟩)).run P X.w = (Conv.stringToBytes e ⟨l.toArray⟩).run P X.w := by
        simp [convert, run_underlying hs, run_underlying hd, run_underlying he]
      rw [hc]
      simp only [Conv.stringToBytes, Sem.run_bind, run_choose, hsz, hq, Bool.false_eq_true, if_false, Result.andThen_ok, newRow, run_newObj, Sem.run_pure, World.drew_eq]
      have hge' : (Question.appendCap l.length 0 e).cut (X.w.tape X.w.drawn (Question.appendCap l.length 0 e)) = grownCap X.w l.length 0 e := rfl
      rw [hge']
      have hmk' : (markStringish ⟨X.w.drew.heap.size, 0, none⟩).run P { X.w.drew with heap := X.w.drew.heap.push (.cells ((l.toArray.map fun b : UInt8 => Value.int .u8 b.toNat) ++ Array.replicate (grownCap X.w l.length 0 e - l.length) (Value.int .u8 0)) e) } = _ := hmk
      simp only [hmk', Result.andThen_ok]
  | _ => simp [aConv] at h
theorem sim_b2b (hR : Rel B w0 E X) {s e : TypeId} (hs : P.underlying s = some (.slice e)) (he : P.underlying e = some (.int .u8)) {x : AV} {c : Value}
    (hx : VRel X x c) {r : OpRes} (h : aConv X.h .b2b x = some r) : Sim B w0 E X P (convert s s c) r.v r.h := by
  cases hx with
  | sl id gen off sz len cap a m hid hlen hcap hlive =>
    cases cap with
    | none => simp [aConv] at h
    | some c0 =>
      have hm := hcap c0 rfl
      subst hm
      simp only [aConv] at h
      split at h
      case isFalse => cases h
      rename_i hlc
      obtain ⟨hlc, h0⟩ := hlc
      simp only [Option.bind_eq_some_iff] at h
      obtain ⟨cs, hcs, h⟩ := h
      split at h
      case isFalse => cases h
      rename_i hc
      obtain ⟨rfl, hc2⟩ := hc
      cases h
      have hl := Heap.at_some hcs
      obtain ⟨⟨arr, T, fz, ha, hb, hc, hd, hv⟩, hone⟩ := hR.obj id _ hl
      have hav := ((hlive _ hl).2 rfl).1 h0
      subst hav
      have hfr := freeze_block X.w (X.ρ id).b arr.size arr T fz ha
      have hO := freeze_only X.w (X.ρ id).b arr.size
      have hU := Rel.upd hR hl hO (gen := gen) (cs := cs) (p := X.ρ id) (Nat.le_refl _) (fun _ => rfl) (.inl rfl) hone hfr hb (by rw [← hb]; exact bare_freeze (by rw [hb]; exact hd)) hc hv
      have hE := Ext.upd hR hl hO (gen := gen) (cs := cs) (p := X.ρ id) (Nat.le_refl _) (fun _ => rfl) (.inl rfl)
      refine ⟨_, .slice (some ⟨(X.ρ id).b, (X.ρ id).o + 0, none⟩) len m, ?_, rfl, hU, hE, (VRel.sl id gen 0 sz len (some m) _ m hid hlen hcap hlive).ext hE⟩
      simp only [convert, Sem.run_bind, run_underlying hs, Result.andThen_ok, beq_self_eq_true, run_underlying he]
      have hmk := run_markStringish (P := P) X.w (X.ρ id).b ((X.ρ id).o + 0) arr T fz ha
      simp only [hmk, Result.andThen_ok, Sem.run_pure]
      rfl
  | _ => simp [aConv] at h
end
end Go.AM

set_option linter.unusedSimpArgs false
set_option linter.unusedVariables false
namespace Go.AM
open Go.RowKit
section
variable {B : Nat} {w0 : World} {E : Env} {X : RX} {P : Program}
theorem sim_sliceH (hR : Rel B w0 E X) {t e : TypeId} (hu : P.underlying t = some (.slice e)) {sz : Nat} (hs : tSize P e = some sz) {x : AV} {c : Value} (hx : VRel X x c)
    {lo hi mx : Option AV} {lo' hi' mx' : Option Value} (h1 : ORel X lo lo') (h2 : ORel X hi hi') (h3 : ORel X mx mx') {r : OpRes} (h : aSliceH X.h sz x lo hi mx = some r) :
    Sim B w0 E X P (Instr.sliceAt t c lo' hi' mx') r.v r.h := by
  cases hx with
  | sl id gen off sz' len cap a n hid hlen hcap hlive =>
    cases cap with
    | some k => simp [aSliceH] at h
    | none =>
    cases h2 with
    | none => simp [aSliceH] at h
    | some uv uc huv =>
    cases h3 with
    | some _ _ _ => simp [aSliceH] at h
    | none =>
    simp only [aSliceH] at h
    split at h
    case isFalse => cases h
    rename_i he
    obtain ⟨rfl, hsz⟩ := he
    simp only [Option.bind_eq_some_iff, Option.map_eq_some_iff] at h
    obtain ⟨cs, hcs, ⟨l, u, m⟩, hb, rfl⟩ := h
    have hl := Heap.at_some hcs
    obtain ⟨⟨arr, T, fz, e1, e2, e3, e4, e5⟩, _⟩ := hR.obj id _ hl
    dsimp only at e3
    have hn := ((hlive _ hl).2 rfl).2
    have hn2 := hn.2 rfl
    have hcp : (cs.length - off) / sz' ≤ n := by
      have : cs.length - off ≤ n * sz' := by omega
      exact Nat.le_trans (Nat.div_le_div_right this) (by rw [Nat.mul_div_cancel _ hsz]; exact Nat.le_refl _)
    -- the bounds
    simp only [bounds, Option.bind_eq_some_iff, Option.map_eq_some_iff, Prod.mk.injEq, Option.some.injEq] at hb
    obtain ⟨m1, rfl, u1, hu1, l1, hl1, rfl, rfl, rfl⟩ := hb
    obtain ⟨r1, r2⟩ := sbound_run (P := P) huv hu1 hcp .sliceAcap X.w
    have hun : u1 ≤ n := Nat.le_trans r2 hcp
    generalize (cs.length - off) / sz' = cp at *
    have hrun : ∃ l', l' = l1 ∧ (Instr.sliceBounds true len n lo' (some uc) none).run P X.w = .ok (l1, u1, n) X.w ∧ l1 ≤ u1 := by
      cases h1 with
      | none =>
        simp only [Option.some.injEq] at hl1
        subst hl1
        exact ⟨_, rfl, by simp [Instr.sliceBounds, r1], Nat.zero_le _⟩
      | some v' c' hv' =>
        obtain ⟨s1, s2⟩ := sbound_run (P := P) hv' hl1 (Nat.le_refl _) .sliceB X.w
        exact ⟨_, rfl, by simp [Instr.sliceBounds, r1, s1], s2⟩
    obtain ⟨_, _, hrun, hlu⟩ := hrun
    dsimp only
    refine Sim.same hR (v' := .slice (some (if n = l1 then a else a.add (l1 * sz'))) (u1 - l1) (n - l1)) ?_ (.sl _ _ _ _ _ _ _ _ hid (by omega) (fun _ e => by cases e) fun o ho => ⟨(hlive o ho).1, fun eg => ⟨fun hpos => ?_, ?_, fun _ => ?_⟩⟩)
    · simp [Instr.sliceAt, Instr.slice, run_underlying hu, hrun, run_sizeOf hs]
      split <;> rfl
    · rw [if_neg (by omega), ((hlive o ho).2 eg).1 (by omega), addr_add, Nat.add_assoc]
    · have := ((hlive o ho).2 eg).2.1
      have e2 := sub_mul_add l1 n sz' (by omega)
      omega
    · have := ((hlive o ho).2 eg).2.2 rfl
      have e2 := sub_mul_add l1 n sz' (by omega)
      omega
  | _ => simp [aSliceH] at h
theorem sim_cap (hR : Rel B w0 E X) {ts : Array TypeId} {t e ty : TypeId} (hts : ts[0]? = some t) (hu : P.underlying t = some (.slice e)) {x v : AV} {c : Value} (hx : VRel X x c) (h : aCap x = some v) :
    Sim B w0 E X P (Builtin.cap_ ts ty #[c]) v X.h := by
  have key : ∀ (a : Option Addr) (l n : Nat), (Builtin.cap_ ts ty #[.slice a l n]).run P X.w = .ok (.int .i64 n) X.w := by
    intro a l n
    simp [Builtin.cap_, hts, run_underlying hu, goInt]
  cases hx with
  | nils => cases h; exact Sim.same hR (key none 0 0) (.int _ _)
  | fs full len cells a n vs hlen hfull hat h1 hvs =>
    cases full with
    | false => cases h
    | true =>
      cases h
      have := hfull rfl
      subst this
      exact Sim.same hR (key _ _ _) (.int _ _)
  | sl id gen off sz len cap a n hid hlen hcap hlive =>
    cases cap with
    | none => cases h
    | some k =>
      cases h
      have := hcap k rfl
      subst this
      exact Sim.same hR (key _ _ _) (.int _ _)
  | _ => cases h
theorem zeroCells_list {z : Array Value} (hz : 0 < z.size) (n : Nat) : (Builtin.zeroCells z n).toList = (List.replicate n z.toList).flatten := range_mod z n hz
theorem sim_appendZ (hR : Rel B w0 E X) {t u e ty : TypeId} (ht : P.underlying t = some (.slice e)) (hu : P.underlying u = some (.int .i64)) {sz bytes : Nat} {zero : List AV} (hs : tSize P e = some sz) (hb : tBytes P e = some bytes) (hz : tZero P e = some zero)
    {x y : AV} {c d : Value} (hx : VRel X x c) (hy : VRel X y d) {r : OpRes} (h : aAppendZ X.h sz bytes zero x y = some r) : Sim B w0 E X P (Builtin.append_ #[t, u] ty #[c, d]) r.v r.h := by
  cases hx with
  | nils =>
    cases hy with
    | int kd k =>
      cases kd <;> simp only [aAppendZ, reduceCtorEq] at h
      split at h
      case isFalse => cases h
      rename_i hc
      obtain ⟨c1, c2, c3, c4, c5⟩ := hc
      cases h
      obtain ⟨i, zv, hi, hiz, hm⟩ := tZero_info hz
      obtain ⟨i1, hi1, hs1⟩ := tSize_info hs
      obtain ⟨i2, hi2, hb2⟩ := tBytes_info hb
      rw [hi] at hi1 hi2
      cases hi1; cases hi2
      obtain ⟨h1, h2⟩ := mapM_cellAV (X := X) hm
      have hzs : zv.cells.size = sz := by have := h1.length; simp at this; omega
      obtain ⟨m, rfl⟩ := Int.eq_ofNat_of_zero_le (show 0 ≤ k by omega)
      have hrun := Lib.run_append_nil_zeros (P := P) X.w t u ty e i zv .i64 .i64 ht hu hi hiz m (by omega) (by omega) (by omega) (by rw [hb2]; omega)
      have hge := grownCap_ge X.w m 0 e
      have hge : m ≤ grownCap X.w m 0 e := by simpa using grownCap_ge X.w m 0 e
      have hsz : (Builtin.zeroCells zv.cells m ++ Builtin.zeroCells zv.cells (grownCap X.w m 0 e - m)).size = grownCap X.w m 0 e * sz := by
        rw [Array.size_append, zeroCells_size, zeroCells_size, hzs, ← Nat.add_mul]
        congr 1
        omega
      have hlen : (List.replicate m zero).flatten.length = m * sz := by simp [c5]
      have e1 : ((m : Int)).toNat = m := rfl
      rw [e1]
      have hmul : m * sz ≤ grownCap X.w m 0 e * sz := Nat.mul_le_mul_right _ hge
      refine Sim.new_ hR (below_drew_alloc X.w _) (Nat.le_refl _) ?_ (by rw [← World.size_drew]; exact heap_new X.w.drew _) (.inl rfl) (by rw [hsz, hlen]; exact hmul) ?_ hrun
        (VRel.newSl _ _ _ _ _ _ _ _ hge (fun _ h => by cases h) (by rw [hsz]; exact Nat.le_refl _) (fun _ => hsz.symm))
      · intro v hv
        obtain ⟨l, hl, hv⟩ := List.mem_flatten.1 hv
        rw [List.eq_of_mem_replicate hl] at hv
        exact h2 v hv
      · rw [hlen, Array.toList_append, List.take_append_of_le_length (by rw [Array.length_toList, zeroCells_size, hzs]; exact Nat.le_refl _),
          List.take_of_length_le (by rw [Array.length_toList, zeroCells_size, hzs]; exact Nat.le_refl _), zeroCells_list (by omega)]
        exact VRels.flatten_replicate h1 m
    | _ => simp [aAppendZ] at h
  | _ => simp [aAppendZ] at h
theorem sim_clear (hR : Rel B w0 E X) {ts : Array TypeId} {t e ty : TypeId} (hts : ts[0]? = some t) (hu : P.underlying t = some (.slice e)) {sz : Nat} {zero : List AV} (hs : tSize P e = some sz) (hz : tZero P e = some zero) {x : AV} {c : Value} (hx : VRel X x c) {r : OpRes}
    (h : aClear X.h sz zero x = some r) : Sim B w0 E X P (Builtin.clear_ ts ty #[c]) r.v r.h := by
  have hun : VRel X .undef (.tuple #[]) := .tup [] [] .nil
  cases hx with
  | nils => cases h; exact Sim.same hR (by simp [Builtin.clear_, hts, run_underlying hu]) hun
  | fs full len cells a n vs hlen hfull hat h1 hvs =>
    simp only [aClear] at h
    split at h
    · rename_i h0
      subst h0
      cases h
      exact Sim.same hR (by simp [Builtin.clear_, hts, run_underlying hu]) hun
    · cases h
  | sl id gen off sz' len cap a n hid hlen hcap hlive =>
    simp only [aClear] at h
    split at h
    · rename_i h0
      subst h0
      cases h
      exact Sim.same hR (by simp [Builtin.clear_, hts, run_underlying hu]) hun
    rename_i h0
    split at h
    case isFalse => cases h
    rename_i hc
    obtain ⟨rfl, c5⟩ := hc
    simp only [Option.bind_eq_some_iff] at h
    obtain ⟨cs, hcs, h⟩ := h
    split at h
    case isFalse => cases h
    rename_i hfit
    cases h
    have hl := Heap.at_some hcs
    have ha := ((hlive _ hl).2 rfl).1 (by omega)
    subst ha
    obtain ⟨i, zv, hi, hiz, hm⟩ := tZero_info hz
    obtain ⟨i1, hi1, hs1⟩ := tSize_info hs
    rw [hi] at hi1
    cases hi1
    obtain ⟨h1, h2⟩ := mapM_cellAV (X := X) hm
    have hzs : zv.cells.size = sz' := by have := h1.length; simp at this; omega
    have hlen2 : (List.replicate len zero).flatten.length = len * sz' := by simp [c5]
    have hall : allOne (List.replicate len zero).flatten := by
      intro v hv
      obtain ⟨l, hl, hv⟩ := List.mem_flatten.1 hv
      rw [List.eq_of_mem_replicate hl] at hv
      exact h2 v hv
    obtain ⟨X', q1, q2, q3, q4, _⟩ := sim_splice (P := P) hR hl (off := off) (VRels.flatten_replicate h1 len) hall (by rw [hlen2]; exact hfit)
    have hzl : (Builtin.zeroCells zv.cells len).toList = (List.replicate len zv.cells.toList).flatten := by
      by_cases hz0 : 0 < zv.cells.size
      · exact zeroCells_list hz0 len
      · have e0 : zv.cells.size = 0 := by omega
        have e1 : zv.cells = #[] := Array.size_eq_zero_iff.1 e0
        rw [e1]
        have : (Builtin.zeroCells #[] len).size = 0 := by rw [zeroCells_size]; simp
        rw [Array.size_eq_zero_iff.1 this]
        simp
    refine ⟨X', .tuple #[], ?_, q2, q3, q4, .tup [] [] .nil⟩
    have hne : len ≠ 0 := h0
    have hb : (Builtin.clear_ ts ty #[.slice (some ⟨(X.ρ id).b, (X.ρ id).o + off, none⟩) len n]).run P X.w = (do storeCells ⟨(X.ρ id).b, (X.ρ id).o + off, none⟩ (Builtin.zeroCells zv.cells len).toList; pure (.tuple #[]) : Sem Value).run P X.w := by
      cases len with
      | zero => exact absurd rfl hne
      | succ len => simp [Builtin.clear_, hts, run_underlying hu, zeroValue, typeInfo, hi, hiz]
    rw [hb, hzl]
    simp only [Sem.run_bind, q1, Result.andThen_ok, Sem.run_pure]
  | _ => simp [aClear] at h
theorem sim_copy (hR : Rel B w0 E X) {ts : Array TypeId} {t e ty : TypeId} (hts : ts[0]? = some t) (hu : P.underlying t = some (.slice e)) {sz : Nat} (hs : tSize P e = some sz) {x y : AV} {c d : Value} (hx : VRel X x c) (hy : VRel X y d) {r : OpRes}
    (h : aCopy X.h sz x y = some r) : Sim B w0 E X P (Builtin.copy_ ts ty #[c, d]) r.v r.h := by
  simp only [aCopy, Option.bind_eq_some_iff] at h
  obtain ⟨m, hm, h⟩ := h
  have hly := lenOf_run (P := P) hy hm X.w
  have hsz := run_sizeOf hs
  have hf0 : (Builtin.firstCells sz 0 d).run P X.w = .ok #[] X.w := by
    cases hy <;> simp only [aLen, Option.some.injEq, reduceCtorEq] at hm <;> simp [Builtin.firstCells, loadCells, loadCellsFrom]
  have zero : ∀ (a : Option Addr) (l n : Nat), Nat.min m l = 0 → (Builtin.copy_ ts ty #[.slice a l n, d]).run P X.w = .ok (.int .i64 0) X.w := by
    intro a l n h0
    cases a <;> simp [Builtin.copy_, hts, run_underlying hu, hly, hsz, h0, hf0, goInt, storeCells]
  cases hx with
  | nils => cases h; exact Sim.same hR (zero none 0 0 (by simp)) (.int _ _)
  | fs full len cells a n vs hlen hfull hat h1 hvs =>
    simp only at h
    split at h
    · rename_i h0
      cases h
      exact Sim.same hR (zero _ _ _ h0) (.int _ _)
    · cases h
  | sl id gen off sz' len cap a n hid hlen hcap hlive =>
    simp only at h
    split at h
    · rename_i h0
      cases h
      exact Sim.same hR (zero _ _ _ h0) (.int _ _)
    rename_i h0
    split at h
    case isFalse => cases h
    rename_i hc
    subst hc
    simp only [Option.bind_eq_some_iff] at h
    obtain ⟨⟨new, kn⟩, hnew, cs, hcs, h⟩ := h
    dsimp only at h
    split at h
    case isFalse => cases h
    rename_i hfit
    cases h
    have hl := Heap.at_some hcs
    have hmin : Nat.min m len ≤ len := Nat.min_le_right _ _
    have hmin2 : min m len ≤ len := Nat.min_le_right _ _
    have ha := ((hlive _ hl).2 rfl).1 (by omega)
    subst ha
    obtain ⟨news, rn, on, ln, hfn⟩ := firstCells_run (P := P) hR hy hnew
    obtain ⟨X', q1, q2, q3, q4, _⟩ := sim_splice (P := P) hR hl (off := off) rn on (by rw [ln]; exact hfit)
    refine ⟨X', .int .i64 (min m len : Nat), ?_, q2, q3, q4, .int _ _⟩
    have hfn' := hfn X.w rfl
    have hfn2 : (Builtin.firstCells sz' (Nat.min m len) d).run P X.w = .ok news.toArray X.w := hfn'
    simp [Builtin.copy_, hts, run_underlying hu, hly, hsz, hfn2, goInt, q1]
  | _ => simp at h
end
end Go.AM

set_option linter.unusedSimpArgs false
set_option linter.unusedVariables false
namespace Go.AM
open Go.RowKit
section
variable {B : Nat} {w0 : World} {E : Env} {X : RX} {P : Program}
/-- The model's operation and the machine's come to the same. -/
def ActSim (B : Nat) (w0 : World) (E : Env) (X : RX) (P : Program) (s : Sem Next) (v : AV) (h : Heap) : Prop :=
  ∃ X' v', (s.run P X.w = .ok (.value v') X'.w ∨ (s.run P X.w = .ok .skip X'.w ∧ v' = Go.undef)) ∧ X'.h = h ∧ Rel B w0 E X' ∧ Ext X X' ∧ VRel X' v v'
theorem Sim.act {s : Sem Value} {v : AV} {h : Heap} (k : Sim B w0 E X P s v h) : ActSim B w0 E X P (do pure (.value (← s))) v h := by
  obtain ⟨X', v', h1, h2, h3, h4, h5⟩ := k
  exact ⟨X', v', .inl (by simp only [Sem.run_bind, h1, Result.andThen_ok, Sem.run_pure]), h2, h3, h4, h5⟩
theorem SimU.act {s : Sem Unit} {h : Heap} (k : SimU B w0 E X P s h) : ActSim B w0 E X P (do s; pure .skip) .undef h := by
  obtain ⟨X', h1, h2, h3, h4⟩ := k
  exact ⟨X', Go.undef, .inr ⟨by simp only [Sem.run_bind, h1, Result.andThen_ok, Sem.run_pure], rfl⟩, h2, h3, h4, VRel.undef⟩
theorem ActSim.value (hR : Rel B w0 E X) {v : AV} {v' : Value} (hv : VRel X v v') : ActSim B w0 E X P (pure (.value v')) v X.h :=
  ⟨X, v', .inl rfl, rfl, hR, Ext.refl X, hv⟩
theorem trConv_inv {s d : TypeId} {c : CvT} (h : trConv P s d = some c) :
    (∃ k k', P.underlying s = some (.int k) ∧ P.underlying d = some (.int k') ∧ c = .int k') ∨
    (∃ k, P.underlying s = some (.int k) ∧ P.underlying d = some .string ∧ c = .rune) ∨
    (P.underlying s = some .string ∧ P.underlying d = some .string ∧ c = .same) ∨
    (∃ e, P.underlying s = some .string ∧ P.underlying d = some (.slice e) ∧ P.underlying e = some (.int .u8) ∧ c = .s2b) ∨
    (∃ e, P.underlying s = some .string ∧ P.underlying d = some (.slice e) ∧ P.underlying e = some (.int .i32) ∧ c = .s2r) ∨
    (∃ e, P.underlying s = some (.slice e) ∧ P.underlying d = some .string ∧ P.underlying e = some (.int .u8) ∧ c = .b2s) ∨
    (∃ e, P.underlying s = some (.slice e) ∧ P.underlying d = some .string ∧ P.underlying e = some (.int .i32) ∧ c = .r2s) ∨
    (∃ e, s = d ∧ P.underlying s = some (.slice e) ∧ P.underlying e = some (.int .u8) ∧ c = .b2b) := by
  simp only [trConv, Option.bind_eq_bind, Option.bind_eq_some_iff] at h
  obtain ⟨ds, hs, dd, hd, h⟩ := h
  cases ds <;> cases dd <;> simp only [reduceCtorEq, Option.pure_def, Option.some.injEq, Option.bind_eq_some_iff] at h
  case int.int => exact .inl ⟨_, _, hs, hd, h.symm⟩
  case int.string => exact .inr (.inl ⟨_, hs, hd, h.symm⟩)
  case string.string => exact .inr (.inr (.inl ⟨hs, hd, h.symm⟩))
  case string.slice e =>
    obtain ⟨de, he, h⟩ := h
    split at h
    · cases h; exact .inr (.inr (.inr (.inl ⟨_, hs, hd, he, rfl⟩)))
    · cases h; exact .inr (.inr (.inr (.inr (.inl ⟨_, hs, hd, he, rfl⟩))))
    · cases h
  case slice.string e =>
    obtain ⟨de, he, h⟩ := h
    split at h
    · cases h; exact .inr (.inr (.inr (.inr (.inr (.inl ⟨_, hs, hd, he, rfl⟩)))))
    · cases h; exact .inr (.inr (.inr (.inr (.inr (.inr (.inl ⟨_, hs, hd, he, rfl⟩))))))
    · cases h
  case slice.slice e e' =>
    obtain ⟨de, he, h⟩ := h
    split at h
    · split at h
      · rename_i e1
        cases h
        subst e1
        rw [hs] at hd
        cases hd
        exact .inr (.inr (.inr (.inr (.inr (.inr (.inr ⟨_, rfl, hs, he, rfl⟩))))))
      · cases h
    · cases h
theorem sim_conv (hR : Rel B w0 E X) {s d : TypeId} {c : CvT} (hc : trConv P s d = some c) {x : AV} {u : Value} (hx : VRel X x u) {r : OpRes} (h : aConv X.h c x = some r) :
    Sim B w0 E X P (convert s d u) r.v r.h := by
  rcases trConv_inv hc with ⟨k, k', hs, hd, rfl⟩ | ⟨k, hs, hd, rfl⟩ | ⟨hs, hd, rfl⟩ | ⟨e, hs, hd, he, rfl⟩ | ⟨e, hs, hd, he, rfl⟩ | ⟨e, hs, hd, he, rfl⟩ | ⟨e, hs, hd, he, rfl⟩ | ⟨e, rfl, hs, he, rfl⟩
  · cases hx <;> simp only [aConv, Option.some.injEq, reduceCtorEq] at h
    subst h
    exact Sim.same hR (by simp [convert, run_underlying hs, run_underlying hd, Conv.intToInt]) (.int _ _)
  · cases hx <;> simp only [aConv, Option.some.injEq, reduceCtorEq] at h
    rename_i kk n
    subst h
    refine Sim.same hR (v' := .string (Utf8.encode n)) (by simp [convert, run_underlying hs, run_underlying hd, Conv.intToString]) ?_
    have : (.string (Utf8.encode n) : Value) = .string ⟨(Utf8.encode n).data.toList.toArray⟩ := by simp
    rw [this]
    exact .str _
  · cases hx <;> simp only [aConv, Option.some.injEq, reduceCtorEq] at h
    subst h
    exact Sim.same hR (by simp [convert, run_underlying hs, run_underlying hd]) (.str _)
  · exact sim_s2b hR hs hd he hx h
  · simp [aConv] at h
  · exact sim_b2s hR hs he hd hx h
  · simp [aConv] at h
  · exact sim_b2b hR hs he hx h
theorem trBin_inv {op : BinOp} {t : TypeId} {x y : Operand} {ao : AOp} (h : trBin P op t x y = some ao) :
    ∃ a b, trOpd x = some a ∧ trOpd y = some b ∧ (ao = .bin op a b ∨
      ((op = .eql ∨ op = .neq) ∧ (∀ d, P.underlying t = some d → (∀ k, d ≠ .int k) ∧ d ≠ .string) ∧ ∃ e, trEq P t (isLit x || isLit y) = some e ∧ ao = .eq (isNeq op) e a b)) := by
  simp only [trBin, Option.bind_eq_bind, Option.bind_eq_some_iff] at h
  obtain ⟨a, ha, b, hb, h⟩ := h
  refine ⟨a, b, ha, hb, ?_⟩
  split at h
  · simp only [Option.bind_eq_some_iff] at h
    obtain ⟨d, hd, h⟩ := h
    split at h
    · simp only [Option.pure_def, Option.some.injEq] at h; exact .inl h.symm
    · simp only [Option.pure_def, Option.some.injEq] at h; exact .inl h.symm
    · rename_i n1 n2
      simp only [Option.pure_def, Option.bind_eq_some_iff, Option.some.injEq] at h
      obtain ⟨e, he, rfl⟩ := h
      exact .inr ⟨.inl rfl, fun d' hd' => by rw [hd] at hd'; cases hd'; exact ⟨fun k e1 => n1 k e1, fun e1 => n2 e1⟩, e, he, rfl⟩
  · simp only [Option.bind_eq_some_iff] at h
    obtain ⟨d, hd, h⟩ := h
    split at h
    · simp only [Option.pure_def, Option.some.injEq] at h; exact .inl h.symm
    · simp only [Option.pure_def, Option.some.injEq] at h; exact .inl h.symm
    · rename_i n1 n2
      simp only [Option.pure_def, Option.bind_eq_some_iff, Option.some.injEq] at h
      obtain ⟨e, he, rfl⟩ := h
      exact .inr ⟨.inr rfl, fun d' hd' => by rw [hd] at hd'; cases hd'; exact ⟨fun k e1 => n1 k e1, fun e1 => n2 e1⟩, e, he, rfl⟩
  · simp only [Option.pure_def, Option.some.injEq] at h; exact .inl h.symm
theorem trSlice_inv {t : TypeId} {x : Operand} {lo hi mx : Option Operand} {ao : AOp} (h : trSlice P t x lo hi mx = some ao) :
    ∃ a l u m, trOpd x = some a ∧ trOpdo lo = some l ∧ trOpdo hi = some u ∧ trOpdo mx = some m ∧
      ((P.underlying t = some .string ∧ m = none ∧ ao = .sliceStr a l u) ∨
       (∃ e s, P.underlying t = some (.slice e) ∧ tSize P e = some s ∧ ao = .slice s a l u m) ∨
       (∃ n e s, (P.underlying t = some (.array n e) ∨ ∃ arr, P.underlying t = some (.pointer arr) ∧ P.underlying arr = some (.array n e)) ∧ tSize P e = some s ∧ ao = .sliceArr s n a l u m)) := by
  simp only [trSlice, Option.bind_eq_bind, Option.bind_eq_some_iff] at h
  obtain ⟨a, ha, l, hl, u, hu, m, hm, d, hd, h⟩ := h
  refine ⟨a, l, u, m, ha, hl, hu, hm, ?_⟩
  cases d <;> simp only [reduceCtorEq, Option.pure_def, Option.bind_eq_some_iff, Option.some.injEq] at h
  case string =>
    cases m with
    | none => simp only [Option.some.injEq] at h; exact .inl ⟨hd, rfl, h.symm⟩
    | some m => cases h
  case slice e => obtain ⟨s, hs, rfl⟩ := h; exact .inr (.inl ⟨e, s, hd, hs, rfl⟩)
  case array n e => obtain ⟨s, hs, rfl⟩ := h; exact .inr (.inr ⟨n, e, s, .inl hd, hs, rfl⟩)
  case pointer arr =>
    obtain ⟨d', hd', h⟩ := h
    cases d' <;> simp only [reduceCtorEq, Option.pure_def, Option.bind_eq_some_iff, Option.some.injEq] at h
    obtain ⟨s, hs, rfl⟩ := h
    exact .inr (.inr ⟨_, _, s, .inr ⟨arr, hd, hd'⟩, hs, rfl⟩)
theorem zeros_length {e : TypeId} {s : Nat} (hs : tSize P e = some s) (h : (tZero P e).map List.length = tSize P e) : ∃ z, tZero P e = some z ∧ z.length = s := by
  rw [hs] at h
  simpa using h
/-- The builtins. -/
theorem sim_builtin (hR : Rel B w0 E X) {n : Nat} {σ : Slots} {a : Act} (k : SRel X n σ a.tmps) {b : Builtin} {types : Array TypeId} {args : Array Operand} {ty : TypeId} {consts : Array Bool} {ao : AOp}
    (ht : trBuiltin P b types args = some ao) {r : OpRes} (h : E.op σ X.h ao = some r) : ActSim B w0 E X P (builtin b types ty consts (args.map a.eval)) r.v r.h := by
  cases b <;> simp only [trBuiltin, reduceCtorEq] at ht
  case append =>
    split at ht
    · cases ht
    rename_i hsz
    simp only [not_or, Decidable.not_not] at hsz
    obtain ⟨hs1, hs2⟩ := hsz
    obtain ⟨args⟩ := args
    obtain ⟨types⟩ := types
    match args, hs1 with
    | [x, y], _ =>
    match types, hs2 with
    | [t, u], _ =>
    simp only [List.getElem?_toArray, List.getElem?_cons_zero, List.getElem?_cons_succ, Option.bind_eq_bind, Option.bind_some, Option.bind_eq_some_iff] at ht
    obtain ⟨x', hx', y', hy', d1, hd1, d2, hd2, ht⟩ := ht
    have fin : ∀ e sz bytes, AppT P t u e sz bytes → ao = .append sz bytes x' y' → ActSim B w0 E X P (builtin .append ⟨[t, u]⟩ ty consts (Array.map a.eval ⟨[x, y]⟩)) r.v r.h := by
      rintro e sz bytes hT rfl
      simp only [Env.op, Option.bind_eq_some_iff] at h
      obtain ⟨v1, hv1, v2, hv2, h⟩ := h
      have := sim_append (ty := ty) hR hT (opd_rel hR k hx' hv1) (opd_rel hR k hy' hv2) h
      have e : Array.map a.eval ⟨[x, y]⟩ = #[a.eval x, a.eval y] := by simp
      rw [e]
      exact Sim.act this
    split at ht
    · split at ht
      · rename_i hc
        obtain ⟨rfl, hz⟩ := hc
        simp only [Option.pure_def, Option.bind_eq_some_iff, Option.some.injEq] at ht
        obtain ⟨s, hs, bt, hbt, rfl⟩ := ht
        exact fin _ s bt ⟨hd1, .inl hd2, hs, hbt, zeros_length hs hz⟩ rfl
      · cases ht
    · split at ht
      · rename_i hz
        simp only [Option.pure_def, Option.bind_eq_some_iff, Option.some.injEq] at ht
        obtain ⟨s, hs, bt, hbt, rfl⟩ := ht
        exact fin _ s bt ⟨hd1, .inr hd2, hs, hbt, zeros_length hs hz⟩ rfl
      · cases ht
    · simp only [Option.pure_def, Option.bind_eq_some_iff, Option.some.injEq] at ht
      obtain ⟨s, hs, bt, hbt, z, hz, rfl⟩ := ht
      simp only [Env.op, Option.bind_eq_some_iff] at h
      obtain ⟨v1, hv1, v2, hv2, h⟩ := h
      have := sim_appendZ (ty := ty) hR hd1 hd2 hs hbt hz (opd_rel hR k hx' hv1) (opd_rel hR k hy' hv2) h
      have e : Array.map a.eval ⟨[x, y]⟩ = #[a.eval x, a.eval y] := by simp
      rw [e]
      exact Sim.act this
    · cases ht
  case cap =>
    split at ht
    · cases ht
    rename_i hsz
    obtain ⟨args⟩ := args
    match args, (Decidable.not_not.1 hsz) with
    | [x], _ =>
    simp only [List.getElem?_toArray, List.getElem?_cons_zero, Option.bind_eq_bind, Option.bind_some, Option.bind_eq_some_iff] at ht
    obtain ⟨x', hx', t, hty, d, hd, ht⟩ := ht
    cases d <;> simp only [reduceCtorEq, Option.pure_def, Option.some.injEq] at ht
    subst ht
    simp only [Env.op, Option.bind_eq_some_iff, Option.map_eq_some_iff] at h
    obtain ⟨v, hv, q, hq, rfl⟩ := h
    have e : Array.map a.eval ⟨[x]⟩ = #[a.eval x] := by simp
    rw [e]
    exact Sim.act (sim_cap (ty := ty) hR hty hd (opd_rel hR k hx' hv) hq)
  case clear =>
    split at ht
    · cases ht
    rename_i hsz
    obtain ⟨args⟩ := args
    match args, (Decidable.not_not.1 hsz) with
    | [x], _ =>
    simp only [List.getElem?_toArray, List.getElem?_cons_zero, Option.bind_eq_bind, Option.bind_some, Option.bind_eq_some_iff] at ht
    obtain ⟨x', hx', t, hty, d, hd, ht⟩ := ht
    cases d <;> simp only [reduceCtorEq, Option.pure_def, Option.bind_eq_some_iff, Option.some.injEq] at ht
    obtain ⟨s, hs, z, hz, rfl⟩ := ht
    simp only [Env.op, Option.bind_eq_some_iff] at h
    obtain ⟨v, hv, h⟩ := h
    have e : Array.map a.eval ⟨[x]⟩ = #[a.eval x] := by simp
    rw [e]
    exact Sim.act (sim_clear (ty := ty) hR hty hd hs hz (opd_rel hR k hx' hv) h)
  case copy =>
    split at ht
    · cases ht
    rename_i hsz
    obtain ⟨args⟩ := args
    match args, (Decidable.not_not.1 hsz) with
    | [x, y], _ =>
    simp only [List.getElem?_toArray, List.getElem?_cons_zero, List.getElem?_cons_succ, Option.bind_eq_bind, Option.bind_some, Option.bind_eq_some_iff] at ht
    obtain ⟨x', hx', y', hy', t, hty, d, hd, ht⟩ := ht
    cases d <;> simp only [reduceCtorEq, Option.pure_def, Option.bind_eq_some_iff, Option.some.injEq] at ht
    obtain ⟨s, hs, rfl⟩ := ht
    simp only [Env.op, Option.bind_eq_some_iff] at h
    obtain ⟨v, hv, u, hu, h⟩ := h
    have e : Array.map a.eval ⟨[x, y]⟩ = #[a.eval x, a.eval y] := by simp
    rw [e]
    exact Sim.act (sim_copy (ty := ty) hR hty hd hs (opd_rel hR k hx' hv) (opd_rel hR k hy' hu) h)
  case len =>
    simp only [Option.bind_eq_bind, Option.bind_eq_some_iff] at ht
    obtain ⟨x, hx, x', hx', t, hty, d, hd, ht⟩ := ht
    have harg : (args.map a.eval)[0]? = some (a.eval x) := by simp [hx]
    have key : ∀ (c : Value) (m : Nat), a.eval x = c → (Builtin.len_ types ty #[c]).run P X.w = .ok (.int .i64 m) X.w → args.size = 1 →
        ActSim B w0 E X P (builtin .len types ty consts (args.map a.eval)) (.int .i64 m) X.h := by
      intro c m hc hrun h1
      have hargs : args.map a.eval = #[c] := by
        apply Array.ext'
        obtain ⟨l⟩ := args
        match l, h1, hx with
        | [y], _, hx => simp at hx; subst hx; simp [hc]
      rw [hargs]
      exact Sim.act (s := Builtin.len_ types ty #[c]) (Sim.same hR hrun (.int _ _))
    cases d <;> simp only [reduceCtorEq] at ht
    case string =>
      split at ht
      · rename_i h1
        simp only [Option.pure_def, Option.some.injEq] at ht
        subst ht
        simp only [Env.op, Option.bind_eq_some_iff] at h
        obtain ⟨v, hv, h⟩ := h
        have hvr := opd_rel hR k hx' hv
        generalize hce : a.eval x = cc at hvr
        cases hvr <;> simp only [Option.some.injEq, reduceCtorEq] at h
        subst h
        refine key _ _ hce ?_ h1
        simp only [Builtin.len_, hty, List.getElem?_toArray, List.getElem?_cons_zero, Sem.run_bind, run_underlying hd, Result.andThen_ok, Sem.run_pure, goInt]
        rfl
      · cases ht
    case slice =>
      split at ht
      · rename_i h1
        simp only [Option.pure_def, Option.some.injEq] at ht
        subst ht
        simp only [Env.op, Option.bind_eq_some_iff] at h
        obtain ⟨v, hv, h⟩ := h
        have hvr := opd_rel hR k hx' hv
        generalize hce : a.eval x = cc at hvr
        cases hvr <;> simp only [Option.some.injEq, reduceCtorEq] at h <;> subst h
        · exact key _ 0 hce (by simp [Builtin.len_, hty, run_underlying hd, goInt]) h1
        · exact key _ _ hce (by simp [Builtin.len_, hty, run_underlying hd, goInt]) h1
        · exact key _ _ hce (by simp [Builtin.len_, hty, run_underlying hd, goInt]) h1
      · cases ht
    case array =>
      split at ht
      · rename_i h1
        simp only [Option.pure_def, Option.some.injEq] at ht
        subst ht
        simp only [Env.op, Env.opd, Option.map_some, Option.some.injEq] at h
        subst h
        exact key _ _ rfl (by simp [Builtin.len_, hty, run_underlying hd, goInt]) h1
      · cases ht
  case max =>
    split at ht
    · cases ht
    rename_i hsz
    obtain ⟨args⟩ := args
    match args, (Decidable.not_not.1 hsz) with
    | [x, y], _ =>
    simp only [List.getElem?_toArray, List.getElem?_cons_zero, List.getElem?_cons_succ, Option.bind_eq_bind, Option.bind_some, Option.bind_eq_some_iff, Option.pure_def, Option.some.injEq] at ht
    obtain ⟨x', hx', y', hy', rfl⟩ := ht
    simp only [Env.op, Option.bind_eq_some_iff, Option.map_eq_some_iff] at h
    obtain ⟨v1, hv1, v2, hv2, v, hv, rfl⟩ := h
    have e : Array.map a.eval ⟨[x, y]⟩ = #[a.eval x, a.eval y] := by simp
    rw [e]
    exact Sim.act (sim_max (tys := types) (ty := ty) hR (opd_rel hR k hx' hv1) (opd_rel hR k hy' hv2) hv)
  case min =>
    split at ht
    · cases ht
    rename_i hsz
    obtain ⟨args⟩ := args
    match args, (Decidable.not_not.1 hsz) with
    | [x, y], _ =>
    simp only [List.getElem?_toArray, List.getElem?_cons_zero, List.getElem?_cons_succ, Option.bind_eq_bind, Option.bind_some, Option.bind_eq_some_iff, Option.pure_def, Option.some.injEq] at ht
    obtain ⟨x', hx', y', hy', rfl⟩ := ht
    simp only [Env.op, Option.bind_eq_some_iff, Option.map_eq_some_iff] at h
    obtain ⟨v1, hv1, v2, hv2, v, hv, rfl⟩ := h
    have e : Array.map a.eval ⟨[x, y]⟩ = #[a.eval x, a.eval y] := by simp
    rw [e]
    exact Sim.act (sim_min (tys := types) (ty := ty) hR (opd_rel hR k hx' hv1) (opd_rel hR k hy' hv2) hv)
  case panic =>
    split at ht
    · cases ht
    · simp only [Option.bind_eq_bind, Option.bind_eq_some_iff, Option.pure_def, Option.some.injEq] at ht
      obtain ⟨_, _, _, _, rfl⟩ := ht
      simp [Env.op] at h
set_option maxHeartbeats 1000000 in
theorem op_sim (hR : Rel B w0 E X) {n : Nat} {σ : Slots} {a : Act} (k : SRel X n σ a.tmps) {fr : Bool} {o : Oper} {ao : AOp} (ht : trOp P fr o.op = some ao) {r : OpRes} (h : E.op σ X.h ao = some r) :
    ActSim B w0 E X P (execOp a.eval o) r.v r.h := by
  obtain ⟨dst, op, ty, pos, after, guard⟩ := o
  cases op <;> simp only [trOp, reduceCtorEq, Option.bind_eq_bind, Option.pure_def, Option.bind_eq_some_iff, Option.some.injEq] at ht
  case move x =>
    obtain ⟨x', hx', rfl⟩ := ht
    simp only [Env.op, Option.map_eq_some_iff] at h
    obtain ⟨v, hv, rfl⟩ := h
    exact ActSim.value hR (opd_rel hR k hx' hv)
  case assign x =>
    obtain ⟨x', hx', rfl⟩ := ht
    simp only [Env.op, Option.map_eq_some_iff] at h
    obtain ⟨v, hv, rfl⟩ := h
    exact ActSim.value hR (opd_rel hR k hx' hv)
  case pick c x y =>
    obtain ⟨c', hc', x', hx', y', hy', rfl⟩ := ht
    simp only [Env.op, Option.bind_eq_some_iff] at h
    obtain ⟨cv, hcv, h⟩ := h
    have hc := opd_rel hR k hc' hcv
    generalize hce : a.eval c = cc at hc
    cases hc with
    | bool b =>
      cases b with
      | true =>
        simp only [Option.map_eq_some_iff] at h
        obtain ⟨v, hv, rfl⟩ := h
        exact ⟨X, _, .inl (by simp [execOp, hce, asBool]), rfl, hR, Ext.refl X, opd_rel hR k hx' hv⟩
      | false =>
        simp only [Option.map_eq_some_iff] at h
        obtain ⟨v, hv, rfl⟩ := h
        exact ⟨X, _, .inl (by simp [execOp, hce, asBool]), rfl, hR, Ext.refl X, opd_rel hR k hy' hv⟩
    | _ => cases h
  case alloc e =>
    obtain ⟨z, hz, rfl⟩ := ht
    simp only [Env.op, Option.some.injEq] at h
    subst h
    exact Sim.act (sim_alloc hR hz)
  case box e x =>
    obtain ⟨s, hs, x', hx', rfl⟩ := ht
    simp only [Env.op, Option.bind_eq_some_iff] at h
    obtain ⟨v, hv, vs, hvs, h⟩ := h
    split at h
    · cases fr with
      | true => simp only [Option.some.injEq] at h; subst h; exact Sim.act (sim_boxStill hR (opd_rel hR k hx' hv) hvs)
      | false => simp only [Option.some.injEq] at h; subst h; exact Sim.act (sim_box hR (opd_rel hR k hx' hv) hvs)
    · cases h
  case build t parts =>
    have hb : ∃ z ps, ao = .build z ps := by
      simp only [trBuild, Option.bind_eq_bind, Option.bind_eq_some_iff] at ht
      obtain ⟨z, _, d, _, ht⟩ := ht
      cases d <;> simp only [reduceCtorEq, Option.pure_def, Option.bind_eq_some_iff, Option.some.injEq] at ht
      · obtain ⟨_, _, _, _, rfl⟩ := ht; exact ⟨_, _, rfl⟩
      · obtain ⟨_, _, _, _, rfl⟩ := ht; exact ⟨_, _, rfl⟩
    obtain ⟨z, ps, rfl⟩ := hb
    simp only [Env.op, Option.bind_eq_some_iff, Option.map_eq_some_iff] at h
    obtain ⟨l, hl, cs, hcs, rfl⟩ := h
    exact Sim.act (sim_build hR k ht hl hcs)
  case buildSlice t len parts =>
    have hb : ∃ fr' sz len' z ps, ao = .lit fr' sz len' z ps := by
      unfold trLit at ht
      split at ht
      · simp only [Option.bind_eq_some_iff] at ht
        obtain ⟨s, hs, ht⟩ := ht
        split at ht
        · cases ht
        simp only [Option.bind_eq_some_iff] at ht
        obtain ⟨z, hz, ht⟩ := ht
        split at ht
        · cases ht
        simp only [Option.map_eq_some_iff] at ht
        obtain ⟨ps, _, rfl⟩ := ht
        exact ⟨_, _, _, _, _, rfl⟩
      · cases ht
    obtain ⟨fr', sz, len', z, ps, rfl⟩ := hb
    simp only [Env.op, Option.bind_eq_some_iff] at h
    obtain ⟨l, hl, cs, hcs, h⟩ := h
    split at h
    · rename_i hlen
      obtain ⟨e, arr, g1, g2, rfl, g3⟩ := sim_lit (P := P) hR k ht hl hcs hlen
      have hgl := g1.length
      refine Sim.act (s := Instr.buildSlice t len' (parts.map fun (i, x) => (i, a.eval x))) ?_
      cases fr' with
      | true =>
        simp only [Option.some.injEq] at h; subst h
        have hb := below_alloc' X.w (.cells arr e)
        refine ⟨{ X with w := X.w.alloc (.cells arr e) }, _, g3, rfl, hR.grow hb, Ext.grow X hb,
          .fs true len' cs _ len' arr.toList (Nat.le_refl _) (fun _ => rfl) (fun _ => ⟨X.w.heap.size, 0, rfl, Still.new hR hb (Nat.le_refl _) (by simp), fun i v hv => ?_⟩) g2 (g1.ext (Ext.grow X hb))⟩
        simpa [World.cell?_alloc_new] using hv
      | false =>
        simp only [Option.some.injEq] at h; subst h
        refine Sim.new_ hR (below_alloc' X.w _) (Nat.le_refl _) g2 (heap_new X.w _) (.inl rfl) (by simpa using Nat.le_of_eq hgl) (by rw [hgl, List.take_length]; exact g1) g3
          (VRel.newSl _ _ _ _ _ _ _ _ (Nat.le_refl _) (fun _ e => by cases e; rfl) ?_ (fun e => by cases e))
        have : arr.size = len' * sz := by rw [← hlen, hgl]; simp
        omega
    · cases h
  case load t x =>
    obtain ⟨ag, hag, s, hs, x', hx', rfl⟩ := ht
    simp only [Env.op, Option.bind_eq_some_iff] at h
    obtain ⟨v, hv, h⟩ := h
    exact Sim.act (sim_load hR hag hs (opd_rel hR k hx' hv) h)
  case store t x y =>
    obtain ⟨s, hs, x', hx', y', hy', rfl⟩ := ht
    simp only [Env.op, Option.bind_eq_some_iff] at h
    obtain ⟨v, hv, u, hu, h⟩ := h
    obtain ⟨h1, h2⟩ := sim_store (P := P) hR hs (opd_rel hR k hx' hv) (opd_rel hR k hy' hu) h
    rw [h2]
    exact SimU.act h1
  case nilCheck x =>
    obtain ⟨x', hx', rfl⟩ := ht
    simp only [Env.op, Option.bind_eq_some_iff] at h
    obtain ⟨v, hv, h⟩ := h
    have hr := opd_rel hR k hx' hv
    generalize hce : a.eval x = cc at hr
    have fin : (execOp a.eval { dst := dst, op := .nilCheck x, type := ty, pos := pos, after := after, guard := guard }).run P X.w = .ok (.value (a.eval x)) X.w → r = ⟨v, X.h, .none⟩ →
        ActSim B w0 E X P (execOp a.eval { dst := dst, op := .nilCheck x, type := ty, pos := pos, after := after, guard := guard }) r.v r.h := by
      rintro h1 rfl
      exact ⟨X, _, .inl h1, rfl, hR, Ext.refl X, opd_rel hR k hx' hv⟩
    cases hr with
    | ptr => cases h; exact fin (by simp [execOp, hce]) rfl
    | fp => cases h; exact fin (by simp [execOp, hce]) rfl
    | ifc => cases h; exact fin (by simp [execOp, hce]) rfl
    | fn f =>
      cases f with
      | func g => cases h; exact fin (by simp [execOp, hce]) rfl
      | _ => cases h
    | _ => cases h
  case binOp bop t x y ty2 =>
    obtain ⟨x', y', hx', hy', h2⟩ := trBin_inv ht
    rcases h2 with rfl | ⟨ho, hni, e, he, rfl⟩
    · simp only [Env.op, Option.bind_eq_some_iff, Option.map_eq_some_iff] at h
      obtain ⟨v, hv, u, hu, q, hq, rfl⟩ := h
      exact Sim.act (sim_bin hR (opd_rel hR k hx' hv) (opd_rel hR k hy' hu) hq x y)
    · simp only [Env.op, Option.bind_eq_some_iff, Option.map_eq_some_iff] at h
      obtain ⟨v, hv, u, hu, q, hq, rfl⟩ := h
      have := sim_eq (P := P) hR ho he hni (opd_rel hR k hx' hv) (opd_rel hR k hy' hu) hq
      have e2 : negIf (isNeq bop) q = (if bop = .neq then !q else q) := by
        rcases ho with rfl | rfl <;> rfl
      rw [e2]
      exact Sim.act this
  case unOp uop t x =>
    obtain ⟨x', hx', rfl⟩ := ht
    simp only [Env.op, Option.bind_eq_some_iff, Option.map_eq_some_iff] at h
    obtain ⟨v, hv, q, hq, rfl⟩ := h
    exact Sim.act (sim_un hR (opd_rel hR k hx' hv) hq)
  case convert s d x =>
    obtain ⟨c, hc, x', hx', rfl⟩ := ht
    simp only [Env.op, Option.bind_eq_some_iff] at h
    obtain ⟨v, hv, h⟩ := h
    exact Sim.act (sim_conv hR hc (opd_rel hR k hx' hv) h)
  case makeInterface t x =>
    obtain ⟨d, hd, ht⟩ := ht
    have : ∃ x', trOpd x = some x' ∧ ao = .mkIface t x' ∧ ∀ ms, d ≠ .interface ms := by
      cases d <;> simp only [reduceCtorEq, Option.bind_eq_some_iff, Option.some.injEq] at ht
      all_goals (obtain ⟨x', hx', rfl⟩ := ht; exact ⟨x', hx', rfl, fun ms e => by cases e⟩)
    obtain ⟨x', hx', rfl, hni⟩ := this
    simp only [Env.op, Option.map_eq_some_iff] at h
    obtain ⟨v, hv, rfl⟩ := h
    refine Sim.act (s := Instr.makeInterface t (a.eval x)) (Sim.same hR (v' := .iface t (a.eval x)) ?_ (.ifc _ _ _ (opd_rel hR k hx' hv)))
    cases d <;> first | exact absurd rfl (hni _) | simp [Instr.makeInterface, run_underlying hd]
  case makeFunc f first cap =>
    obtain ⟨p, hp, q, hq, rfl⟩ := ht
    simp only [Env.op, Option.bind_eq_some_iff, Option.map_eq_some_iff] at h
    obtain ⟨v, hv, u, hu, rfl⟩ := h
    refine Sim.act (s := Instr.makeFunc f (first.map a.eval) (cap.map a.eval)) (Sim.same hR (v' := .func f (first.map a.eval) (cap.map a.eval)) rfl ?_)
    have h1 := VRel.fn f v u _ _ (opds_rel hR k hp hv) (opds_rel hR k hq hu)
    have e1 : (List.map a.eval first.toList).toArray = first.map a.eval := by apply Array.ext'; simp
    have e2 : (List.map a.eval cap.toList).toArray = cap.map a.eval := by apply Array.ext'; simp
    rw [e1, e2] at h1
    exact h1
  case makeSlice t l c =>
    obtain ⟨d, hd, ht⟩ := ht
    cases d <;> simp only [reduceCtorEq, Option.bind_eq_some_iff, Option.some.injEq] at ht
    rename_i e
    obtain ⟨s, hs, bt, hbt, z, hz, l', hl', c', hc', rfl⟩ := ht
    simp only [Env.op, Option.bind_eq_some_iff] at h
    obtain ⟨v, hv, u, hu, h⟩ := h
    exact Sim.act (sim_makeSlice hR hd hs hbt hz (opd_rel hR k hl' hv) (opd_rel hR k hc' hu) h)
  case slice t x lo hi mx =>
    obtain ⟨x', l, u, m, hx', hl, hu, hm, h2⟩ := trSlice_inv ht
    rcases h2 with ⟨hd, rfl, rfl⟩ | ⟨e, s, hd, hs, rfl⟩ | ⟨nn, e, s, hd, hs, rfl⟩
    · simp only [Env.op, Option.bind_eq_some_iff, Option.map_eq_some_iff] at h
      obtain ⟨v, hv, q1, hq1, q2, hq2, q, hq, rfl⟩ := h
      have hmx : mx = none := by
        cases mx with
        | none => rfl
        | some y => simp only [trOpdo, Option.map_eq_some_iff] at hm; obtain ⟨_, _, e⟩ := hm; cases e
      subst hmx
      exact Sim.act (sim_sliceStr hR hd (opd_rel hR k hx' hv) (opdo_rel hR k hl hq1) (opdo_rel hR k hu hq2) hq)
    · simp only [Env.op, Option.bind_eq_some_iff] at h
      obtain ⟨v, hv, q1, hq1, q2, hq2, q3, hq3, h⟩ := h
      split at h
      · rename_i q hq
        cases h
        exact Sim.act (sim_slice hR hd hs (opd_rel hR k hx' hv) (opdo_rel hR k hl hq1) (opdo_rel hR k hu hq2) (opdo_rel hR k hm hq3) hq)
      · exact Sim.act (sim_sliceH hR hd hs (opd_rel hR k hx' hv) (opdo_rel hR k hl hq1) (opdo_rel hR k hu hq2) (opdo_rel hR k hm hq3) h)
    · simp only [Env.op, Option.bind_eq_some_iff] at h
      obtain ⟨v, hv, q1, hq1, q2, hq2, q3, hq3, h⟩ := h
      obtain ⟨g1, g2⟩ := sim_sliceArr (P := P) hR hd hs (opd_rel hR k hx' hv) (opdo_rel hR k hl hq1) (opdo_rel hR k hu hq2) (opdo_rel hR k hm hq3) h
      rw [g2]
      exact Sim.act g1
  case fieldAddr t x i =>
    obtain ⟨f, hf, s, hs, ht⟩ := ht
    split at ht
    · cases ht
    rename_i h0
    simp only [Option.bind_eq_some_iff, Option.some.injEq] at ht
    obtain ⟨x', hx', rfl⟩ := ht
    simp only [Env.op, Option.bind_eq_some_iff] at h
    obtain ⟨v, hv, h⟩ := h
    obtain ⟨g1, g2⟩ := sim_fieldAddr (P := P) hR hf hs h0 (opd_rel hR k hx' hv)
    cases v <;> simp only [Option.some.injEq, reduceCtorEq] at h
    · subst h; exact Sim.act (g1 _ _ _ rfl)
    · subst h; exact Sim.act (g2 _ rfl)
  case field t x i =>
    obtain ⟨f, hf, ag, hag, s, hs, x', hx', rfl⟩ := ht
    simp only [Env.op, Option.bind_eq_some_iff] at h
    obtain ⟨v, hv, h⟩ := h
    have hr := opd_rel hR k hx' hv
    cases v <;> simp only [reduceCtorEq] at h
    split at h
    · rename_i hfit
      simp only [Option.map_eq_some_iff] at h
      obtain ⟨q, hq, rfl⟩ := h
      exact Sim.act (sim_field hR hf hag hs hr hfit hq)
    · cases h
  case indexAddr t x i =>
    obtain ⟨d, hd, ht⟩ := ht
    cases d <;> simp only [reduceCtorEq, Option.bind_eq_some_iff, Option.some.injEq] at ht
    case slice e =>
      obtain ⟨s, hs, x', hx', i', hi', rfl⟩ := ht
      simp only [Env.op, Option.bind_eq_some_iff, Option.map_eq_some_iff] at h
      obtain ⟨v, hv, u, hu, q, hq, rfl⟩ := h
      exact Sim.act (sim_idxAddr hR hd hs (opd_rel hR k hx' hv) (opd_rel hR k hi' hu) hq)
    case array nn e =>
      obtain ⟨s, hs, x', hx', i', hi', rfl⟩ := ht
      simp only [Env.op, Option.bind_eq_some_iff, Option.map_eq_some_iff] at h
      obtain ⟨v, hv, u, hu, q, hq, rfl⟩ := h
      exact Sim.act (sim_idxAddrArr hR hd hs (opd_rel hR k hx' hv) (opd_rel hR k hi' hu) hq)
  case index t x i =>
    obtain ⟨d, hd, ht⟩ := ht
    cases d <;> simp only [reduceCtorEq, Option.bind_eq_some_iff, Option.some.injEq] at ht
    case string =>
      obtain ⟨x', hx', i', hi', rfl⟩ := ht
      simp only [Env.op, Option.bind_eq_some_iff] at h
      obtain ⟨v, hv, h⟩ := h
      have hr := opd_rel hR k hx' hv
      cases v <;> simp only [reduceCtorEq, Option.bind_eq_some_iff, Option.map_eq_some_iff] at h
      obtain ⟨u, hu, j, hj, c, hc, rfl⟩ := h
      exact Sim.act (sim_idxStr hR hd hr (opd_rel hR k hi' hu) hj hc)
    case array nn e =>
      obtain ⟨ag, hag, s, hs, x', hx', i', hi', rfl⟩ := ht
      simp only [Env.op, Option.bind_eq_some_iff] at h
      obtain ⟨v, hv, h⟩ := h
      have hr := opd_rel hR k hx' hv
      cases v <;> simp only [reduceCtorEq, Option.bind_eq_some_iff] at h
      obtain ⟨u, hu, j, hj, h⟩ := h
      split at h
      · rename_i hfit
        simp only [Option.map_eq_some_iff] at h
        obtain ⟨q, hq, rfl⟩ := h
        exact Sim.act (sim_idxArr hR hd hag hs hr (opd_rel hR k hi' hu) hj hfit hq)
      · cases h
  case extract x i =>
    obtain ⟨x', hx', rfl⟩ := ht
    simp only [Env.op, Option.bind_eq_some_iff] at h
    obtain ⟨v, hv, h⟩ := h
    have hr := opd_rel hR k hx' hv
    cases v <;> simp only [reduceCtorEq, Option.map_eq_some_iff] at h
    obtain ⟨q, hq, rfl⟩ := h
    exact Sim.act (sim_extract hR hr hq)
  case call c =>
    obtain ⟨callee, args, types⟩ := c
    cases callee with
    | value f =>
      exfalso
      cases f <;> simp only [trCall, Option.bind_eq_bind, Option.bind_eq_some_iff, Option.pure_def, Option.some.injEq] at ht
      all_goals (first | (obtain ⟨_, _, _, _, rfl⟩ := ht; simp [Env.op] at h) | (obtain ⟨_, _, rfl⟩ := ht; simp [Env.op] at h))
    | invoke _ _ => simp [trCall] at ht
    | builtin b =>
      have ht' : trBuiltin P b types args = some ao := ht
      exact sim_builtin (ty := ty) hR k ht' h
  case panic x =>
    obtain ⟨_, _, rfl⟩ := ht
    simp [Env.op] at h
end
end Go.AM

set_option linter.unusedSimpArgs false
set_option linter.unusedVariables false
namespace Go.AM
open Go.RowKit
section
variable {B : Nat} {w0 : World} {E : Env} {P : Program}
/-- what a panic with one value is -/
def chainOf (v : Value) : List PanicEntry := [{ v, recovered := false }]
/-- What a call of the model ends in, where the machine's call has this answer. -/
def Outcome (B : Nat) (w0 : World) (E : Env) (X : RX) : COut → Ending → World → Prop
  | .ret r, e, w' => ∃ X' v', X'.w = w' ∧ X'.h = r.h ∧ Rel B w0 E X' ∧ Ext X X' ∧ VRel X' r.v v' ∧ e = .returned v'
  | .panic v h, e, w' => ∃ X' v', X'.w = w' ∧ X'.h = h ∧ Rel B w0 E X' ∧ Ext X X' ∧ VRel X' v v' ∧ e = .panicked (chainOf v')
/-- a function that is entered where it is called -/
def Entered (P : Program) (f : Nat) : Prop := ∃ fn, P.funcs[f]? = some fn ∧ fn.body.isSome = true ∧ fn.name ≠ "runtime.NumGoroutine"
def CallOk (P : Program) (E : Env) (C : CallF) : Prop :=
  ∀ f args h o, C f args h = some o → Entered P f ∧
    ∀ (B : Nat) (w0 : World) (X : RX) (cargs : List Value), Rel B w0 E X → X.h = h → VRels X args cargs → Calls P f cargs.toArray X.w (Outcome B w0 E X o)
structure StRel (X : RX) (n : Nat) (s : St) (a : Act) : Prop where
  heap : X.h = s.h
  slots : SRel X n s.σ a.tmps
  defers : a.defers = []
inductive ExitRel (X : RX) : AExit → Exit → Prop
  | norm : ExitRel X .norm .normal
  | ret : ExitRel X .ret .ret
  | exit (id : Nat) : ExitRel X (.exit id) (.exit id)
  | panic (v : AV) (v' : Value) (h : VRel X v v') : ExitRel X (.panic v) (.panic (chainOf v'))
/-- What a piece of the model's code ends in, where the machine's ends so. -/
def CPost (B : Nat) (w0 : World) (E : Env) (X : RX) (n : Nat) (e : AExit) (s : St) : Exit → Act → World → Prop := fun e' a' w' =>
  ∃ X', X'.w = w' ∧ Rel B w0 E X' ∧ Ext X X' ∧ StRel X' n s a' ∧ ExitRel X' e e'
theorem CPost.trans {X X1 : RX} (h : Ext X X1) {n : Nat} {e : AExit} {s : St} {e' : Exit} {a' : Act} {w' : World} (k : CPost B w0 E X1 n e s e' a' w') : CPost B w0 E X n e s e' a' w' := by
  obtain ⟨X', h1, h2, h3, h4, h5⟩ := k
  exact ⟨X', h1, h2, h.trans h3, h4, h5⟩
theorem run_callFunc {f : Nat} (h : Entered P f) (args : Array Value) (w : World) : (callFunc f args).run P w = .ok (.enter f args) w := by
  obtain ⟨fn, h1, h2, h3⟩ := h
  have h2' : fn.body.isNone = false := by cases hb : fn.body <;> simp_all
  simp only [callFunc, Sem.run_bind, run_program, Result.andThen_ok, h1]
  rw [if_neg (by simpa using h3), h2']
  rfl
/-- What an operation of the model comes to, where the machine's has this answer. -/
inductive Comes1 (B : Nat) (w0 : World) (E : Env) (X : RX) (P : Program) (s : Sem Next) : COut → Prop
  | val (r : OpRes) (h : ActSim B w0 E X P s r.v r.h) : Comes1 B w0 E X P s (.ret r)
  | call (f : Nat) (args : Array Value) (o : COut) (hr : s.run P X.w = .ok (.enter f args) X.w) (hc : Calls P f args X.w (Outcome B w0 E X o)) : Comes1 B w0 E X P s o
  | panic (v : AV) (v' : Value) (hr : s.run P X.w = .halt (.panic v') X.w) (hv : VRel X v v') : Comes1 B w0 E X P s (.panic v X.h)
def AOp.plain : AOp → Bool
  | .call .. | .callv .. | .panic _ => false
  | _ => true
theorem E_act_plain {E : Env} {C : CallF} {σ : Slots} {h : Heap} {ao : AOp} (hp : ao.plain = true) : E.act C σ h ao = (E.op σ h ao).map COut.ret := by
  cases ao <;> first | rfl | simp [AOp.plain] at hp
theorem trBuiltin_kind {b : Builtin} {types : Array TypeId} {args : Array Operand} {ao : AOp} (ht : trBuiltin P b types args = some ao) :
    ao.plain = true ∨ (b = .panic ∧ ∃ x x', args = #[x] ∧ trOpd x = some x' ∧ ao = .panic x') := by
  cases b <;> simp only [trBuiltin, reduceCtorEq, Option.bind_eq_bind, Option.pure_def, Option.bind_eq_some_iff, Option.some.injEq] at ht
  case append =>
    split at ht
    · cases ht
    simp only [Option.bind_eq_some_iff] at ht
    obtain ⟨_, _, _, _, _, _, _, _, _, _, d1, _, _, _, d2, _, ht⟩ := ht
    split at ht
    · split at ht
      · simp only [Option.bind_eq_some_iff, Option.some.injEq] at ht; obtain ⟨_, _, _, _, rfl⟩ := ht; exact .inl rfl
      · cases ht
    · split at ht
      · simp only [Option.bind_eq_some_iff, Option.some.injEq] at ht; obtain ⟨_, _, _, _, rfl⟩ := ht; exact .inl rfl
      · cases ht
    · simp only [Option.bind_eq_some_iff, Option.some.injEq] at ht; obtain ⟨_, _, _, _, _, _, rfl⟩ := ht; exact .inl rfl
    · cases ht
  case cap =>
    split at ht
    · cases ht
    simp only [Option.bind_eq_some_iff] at ht
    obtain ⟨_, _, _, _, _, _, d, _, ht⟩ := ht
    cases d <;> simp only [reduceCtorEq, Option.some.injEq] at ht
    subst ht; exact .inl rfl
  case clear =>
    split at ht
    · cases ht
    simp only [Option.bind_eq_some_iff] at ht
    obtain ⟨_, _, _, _, _, _, d, _, ht⟩ := ht
    cases d <;> simp only [reduceCtorEq, Option.bind_eq_some_iff, Option.some.injEq] at ht
    obtain ⟨_, _, _, _, rfl⟩ := ht; exact .inl rfl
  case copy =>
    split at ht
    · cases ht
    simp only [Option.bind_eq_some_iff] at ht
    obtain ⟨_, _, _, _, _, _, _, _, _, _, d, _, ht⟩ := ht
    cases d <;> simp only [reduceCtorEq, Option.bind_eq_some_iff, Option.some.injEq] at ht
    obtain ⟨_, _, rfl⟩ := ht; exact .inl rfl
  case len =>
    obtain ⟨_, _, _, _, _, _, d, _, ht⟩ := ht
    cases d <;> simp only [reduceCtorEq] at ht
    all_goals (split at ht <;> first | (simp only [Option.some.injEq] at ht; subst ht; exact .inl rfl) | cases ht)
  case max =>
    split at ht
    · cases ht
    · simp only [Option.bind_eq_some_iff, Option.some.injEq] at ht; obtain ⟨_, _, _, _, _, _, _, _, rfl⟩ := ht; exact .inl rfl
  case min =>
    split at ht
    · cases ht
    · simp only [Option.bind_eq_some_iff, Option.some.injEq] at ht; obtain ⟨_, _, _, _, _, _, _, _, rfl⟩ := ht; exact .inl rfl
  case panic =>
    split at ht
    · cases ht
    · rename_i hsz
      simp only [Option.bind_eq_some_iff, Option.some.injEq] at ht
      obtain ⟨x, hx, x', hx', rfl⟩ := ht
      refine .inr ⟨rfl, x, x', ?_, hx', rfl⟩
      obtain ⟨args⟩ := args
      match args, (Decidable.not_not.1 hsz) with
      | [y], _ => simp at hx; subst hx; rfl
/-- which operations call -/
theorem trOp_kind {fr : Bool} {op : Op} {ao : AOp} (ht : trOp P fr op = some ao) : ao.plain = true ∨
    (∃ f cargs types args, op = .call ⟨.value (.func f), cargs, types⟩ ∧ trOpds cargs = some args ∧ ao = .call f args) ∨
    (∃ x x' cargs types args, op = .call ⟨.value x, cargs, types⟩ ∧ trOpd x = some x' ∧ trOpds cargs = some args ∧ ao = .callv x' args) ∨
    (∃ x x', op = .panic x ∧ trOpd x = some x' ∧ ao = .panic x') ∨
    (∃ x x' types, op = .call ⟨.builtin .panic, #[x], types⟩ ∧ trOpd x = some x' ∧ ao = .panic x') := by
  cases op <;> simp only [trOp, reduceCtorEq, Option.bind_eq_bind, Option.pure_def, Option.bind_eq_some_iff, Option.some.injEq] at ht
  case move => obtain ⟨_, _, rfl⟩ := ht; exact .inl rfl
  case assign => obtain ⟨_, _, rfl⟩ := ht; exact .inl rfl
  case pick => obtain ⟨_, _, _, _, _, _, rfl⟩ := ht; exact .inl rfl
  case alloc => obtain ⟨_, _, rfl⟩ := ht; exact .inl rfl
  case box => obtain ⟨_, _, _, _, rfl⟩ := ht; exact .inl rfl
  case build =>
    simp only [trBuild, Option.bind_eq_bind, Option.bind_eq_some_iff] at ht
    obtain ⟨z, _, d, _, ht⟩ := ht
    cases d <;> simp only [reduceCtorEq, Option.pure_def, Option.bind_eq_some_iff, Option.some.injEq] at ht
    · obtain ⟨_, _, _, _, rfl⟩ := ht; exact .inl rfl
    · obtain ⟨_, _, _, _, rfl⟩ := ht; exact .inl rfl
  case buildSlice =>
    unfold trLit at ht
    split at ht
    · simp only [Option.bind_eq_some_iff] at ht
      obtain ⟨s, hs, ht⟩ := ht
      split at ht
      · cases ht
      simp only [Option.bind_eq_some_iff] at ht
      obtain ⟨z, hz, ht⟩ := ht
      split at ht
      · cases ht
      simp only [Option.map_eq_some_iff] at ht
      obtain ⟨ps, _, rfl⟩ := ht
      exact .inl rfl
    · cases ht
  case load => obtain ⟨_, _, _, _, _, _, rfl⟩ := ht; exact .inl rfl
  case store => obtain ⟨_, _, _, _, _, _, rfl⟩ := ht; exact .inl rfl
  case nilCheck => obtain ⟨_, _, rfl⟩ := ht; exact .inl rfl
  case binOp => obtain ⟨_, _, _, _, h2⟩ := trBin_inv ht; rcases h2 with rfl | ⟨_, _, _, _, rfl⟩ <;> exact .inl rfl
  case unOp => obtain ⟨_, _, rfl⟩ := ht; exact .inl rfl
  case convert => obtain ⟨_, _, _, _, rfl⟩ := ht; exact .inl rfl
  case makeInterface =>
    obtain ⟨d, _, ht⟩ := ht
    cases d <;> simp only [reduceCtorEq, Option.bind_eq_some_iff, Option.some.injEq] at ht
    all_goals (obtain ⟨_, _, rfl⟩ := ht; exact .inl rfl)
  case makeFunc => obtain ⟨_, _, _, _, rfl⟩ := ht; exact .inl rfl
  case makeSlice =>
    obtain ⟨d, _, ht⟩ := ht
    cases d <;> simp only [reduceCtorEq, Option.bind_eq_some_iff, Option.some.injEq] at ht
    obtain ⟨_, _, _, _, _, _, _, _, _, _, rfl⟩ := ht; exact .inl rfl
  case slice =>
    obtain ⟨_, _, _, _, _, _, _, _, h2⟩ := trSlice_inv ht
    rcases h2 with ⟨_, _, rfl⟩ | ⟨_, _, _, _, rfl⟩ | ⟨_, _, _, _, _, rfl⟩ <;> exact .inl rfl
  case fieldAddr =>
    obtain ⟨_, _, _, _, ht⟩ := ht
    split at ht
    · cases ht
    · simp only [Option.bind_eq_some_iff, Option.some.injEq] at ht; obtain ⟨_, _, rfl⟩ := ht; exact .inl rfl
  case field => obtain ⟨_, _, _, _, _, _, _, _, rfl⟩ := ht; exact .inl rfl
  case indexAddr =>
    obtain ⟨d, _, ht⟩ := ht
    cases d <;> simp only [reduceCtorEq, Option.bind_eq_some_iff, Option.some.injEq] at ht
    all_goals (obtain ⟨_, _, _, _, _, _, rfl⟩ := ht; exact .inl rfl)
  case index =>
    obtain ⟨d, _, ht⟩ := ht
    cases d <;> simp only [reduceCtorEq, Option.bind_eq_some_iff, Option.some.injEq] at ht
    · obtain ⟨_, _, _, _, rfl⟩ := ht; exact .inl rfl
    · obtain ⟨_, _, _, _, _, _, _, _, rfl⟩ := ht; exact .inl rfl
  case extract => obtain ⟨_, _, rfl⟩ := ht; exact .inl rfl
  case panic x => obtain ⟨x', hx', rfl⟩ := ht; exact .inr (.inr (.inr (.inl ⟨x, x', rfl, hx', rfl⟩)))
  case call c =>
    obtain ⟨callee, cargs, types⟩ := c
    cases callee with
    | invoke _ _ => simp [trCall] at ht
    | builtin b =>
      have ht' : trBuiltin P b types cargs = some ao := ht
      rcases trBuiltin_kind ht' with h | ⟨rfl, x, x', rfl, hx', rfl⟩
      · exact .inl h
      · exact .inr (.inr (.inr (.inr ⟨x, x', types, rfl, hx', rfl⟩)))
    | value fo =>
      cases fo with
      | func g =>
        simp only [trCall, Option.bind_eq_bind, Option.pure_def, Option.bind_eq_some_iff, Option.some.injEq] at ht
        obtain ⟨l, hl, rfl⟩ := ht
        exact .inr (.inl ⟨g, cargs, types, l, rfl, hl, rfl⟩)
      | _ =>
        simp only [trCall, Option.bind_eq_bind, Option.pure_def, Option.bind_eq_some_iff, Option.some.injEq] at ht
        obtain ⟨x', hx', l, hl, rfl⟩ := ht
        exact .inr (.inr (.inl ⟨_, x', cargs, types, l, rfl, hx', hl, rfl⟩))
theorem act_sim {C : CallF} (hC : CallOk P E C) {X : RX} (hR : Rel B w0 E X) {n : Nat} {σ : Slots} {a : Act} (k : SRel X n σ a.tmps) {fr : Bool} {o : Oper} {ao : AOp} (ht : trOp P fr o.op = some ao)
    {out : COut} (h : E.act C σ X.h ao = some out) : Comes1 B w0 E X P (execOp a.eval o) out := by
  rcases trOp_kind ht with hp | ⟨f, cargs, types, args, ho, hl, rfl⟩ | ⟨x, x', cargs, types, args, ho, hx', hl, rfl⟩ | ⟨x, x', ho, hx', rfl⟩ | ⟨x, x', types, ho, hx', rfl⟩
  · rw [E_act_plain hp] at h
    simp only [Option.map_eq_some_iff] at h
    obtain ⟨r, hr, rfl⟩ := h
    exact .val r (op_sim hR k ht hr)
  · obtain ⟨dst, op, ty, pos, after, guard⟩ := o
    dsimp only at ho
    subst ho
    simp only [Env.act, Option.bind_eq_some_iff] at h
    obtain ⟨vs, hvs, h⟩ := h
    obtain ⟨he, hc⟩ := hC _ _ _ _ h
    have hrel := opds_rel hR k hl hvs
    have hcall := hc B w0 X _ hR rfl hrel
    have e1 : (List.map a.eval cargs.toList).toArray = cargs.map a.eval := by apply Array.ext'; simp
    rw [e1] at hcall
    refine .call f (cargs.map a.eval) out ?_ hcall
    have hx : (execOp a.eval { dst := dst, op := Op.call { callee := Callee.value (Operand.func f), args := cargs, argTypes := types }, type := ty, pos := pos, after := after, guard := guard }) =
        callFunc f (#[] ++ cargs.map a.eval ++ #[]) := rfl
    rw [hx]
    simpa using run_callFunc he (cargs.map a.eval) X.w
  · obtain ⟨dst, op, ty, pos, after, guard⟩ := o
    dsimp only at ho
    subst ho
    simp only [Env.act, Option.bind_eq_some_iff] at h
    obtain ⟨fv, hfv, h⟩ := h
    have hfr := opd_rel hR k hx' hfv
    generalize hce : a.eval x = cc at hfr
    cases hfr with
    | fn f p q p' q' hp hq =>
      cases f with
      | func f =>
        simp only [Option.bind_eq_some_iff] at h
        obtain ⟨vs, hvs, h⟩ := h
        obtain ⟨he, hc⟩ := hC _ _ _ _ h
        have hrel := opds_rel hR k hl hvs
        have hcall := hc B w0 X _ hR rfl ((hp.append hrel).append hq)
        have e1 : (p' ++ List.map a.eval cargs.toList ++ q').toArray = p'.toArray ++ cargs.map a.eval ++ q'.toArray := by apply Array.ext'; simp
        rw [e1] at hcall
        refine .call f _ out ?_ hcall
        have hx : (execOp a.eval { dst := dst, op := Op.call { callee := Callee.value x, args := cargs, argTypes := types }, type := ty, pos := pos, after := after, guard := guard }) =
            (do let d ← Deferred.ofValue (a.eval x) (cargs.map a.eval); invoke d.target d.args) := rfl
        rw [hx, hce]
        simp only [Deferred.ofValue, Sem.run_bind, Sem.run_pure, Result.andThen_ok, invoke]
        exact run_callFunc he _ X.w
      | _ => cases h
    | _ => cases h
  · obtain ⟨dst, op, ty, pos, after, guard⟩ := o
    dsimp only at ho
    subst ho
    simp only [Env.act, Option.bind_eq_some_iff] at h
    obtain ⟨v, hv, h⟩ := h
    have hvr := opd_rel hR k hx' hv
    generalize hce : a.eval x = cc at hvr
    cases hvr with
    | ifc t u u' hu =>
      cases h
      refine .panic _ (.iface t u') ?_ (.ifc _ _ _ hu)
      have hx : (execOp a.eval { dst := dst, op := Op.panic x, type := ty, pos := pos, after := after, guard := guard }) = (do pure (.value (← Instr.panic (a.eval x)))) := rfl
      rw [hx, hce]
      simp [Instr.panic]
    | _ => cases h
  · obtain ⟨dst, op, ty, pos, after, guard⟩ := o
    dsimp only at ho
    subst ho
    simp only [Env.act, Option.bind_eq_some_iff] at h
    obtain ⟨v, hv, h⟩ := h
    have hvr := opd_rel hR k hx' hv
    generalize hce : a.eval x = cc at hvr
    cases hvr with
    | ifc t u u' hu =>
      cases h
      refine .panic _ (.iface t u') ?_ (.ifc _ _ _ hu)
      simp [execOp, resolve, invoke, builtin, hce, Instr.panic]
    | _ => cases h
end
end Go.AM
