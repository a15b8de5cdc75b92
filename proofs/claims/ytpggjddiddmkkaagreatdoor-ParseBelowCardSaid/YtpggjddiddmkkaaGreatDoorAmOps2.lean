/-
  THE ABSTRACT MACHINE AND THE MODEL: the operations, one by one.
-/
import Derived.Test.YtpggjddiddmkkaaGreatDoorAmOps
import Derived.Laws.StructEq
set_option linter.unusedSimpArgs false
set_option linter.unusedVariables false
namespace Go.AM
open Go.RowKit
section
variable {B : Nat} {w0 : World} {E : Env} {X : RX} {P : Program}
/-- Likewise of what answers nothing. -/
def SimU (B : Nat) (w0 : World) (E : Env) (X : RX) (P : Program) (s : Sem Unit) (h : Heap) : Prop :=
  ∃ X', s.run P X.w = .ok () X'.w ∧ X'.h = h ∧ Rel B w0 E X' ∧ Ext X X'
theorem below_alloc' (w : World) (o : Obj) : Below w.heap.size w (w.alloc o) := (Below.refl _ _).alloc (Nat.le_refl _) o
theorem below_drew_alloc (w : World) (o : Obj) : Below w.heap.size w (w.drew.alloc o) := ((Below.refl _ _).drew).alloc (Nat.le_refl _) o
theorem heap_new (w : World) (o : Obj) : (w.alloc o).heap[w.heap.size]? = some o := heap_alloc_new w o
/-- A new object, its block being laid by the run. -/
theorem Sim.new_ (hR : Rel B w0 E X) {s : Sem Value} {w' : World} {cs : List AV} {b : Nat} (hb : Below X.w.heap.size X.w w') (hbn : X.w.heap.size ≤ b) (h1 : allOne cs)
    {arr : Array Value} {T : TypeId} {fz : Nat × Nat} (hat : w'.heap[b]? = some (.cells arr T fz)) (hfz : Bare arr.size fz) (hle : cs.length ≤ arr.size)
    (hvs : VRels X cs (arr.toList.take cs.length)) {v : AV} {v' : Value} (hrun : s.run P X.w = .ok v' w')
    (hv : VRel (X.new w' cs b arr.size) v v') : Sim B w0 E X P s v (X.h.new cs) :=
  ⟨X.new w' cs b arr.size, v', hrun, rfl, hR.new hb hbn h1 hat hfz hle hvs, Ext.new hR hb cs hbn arr.size, hv⟩
theorem VRel.newPtr (w' : World) (cs : List AV) (b n : Nat) : VRel (X.new w' cs b n) (.ptr X.h.next 0 0) (.pointer (some ⟨b, 0, none⟩)) := by
  refine .ptr _ _ _ _ (Nat.lt_succ_self _) fun o ho => ?_
  have hr : (X.new w' cs b n).ρ X.h.next = ⟨b, 0, n⟩ := if_pos rfl
  simp only [RX.new, Heap.look_new, ↓reduceIte, Option.some.injEq] at ho
  subst ho
  rw [hr]
  exact ⟨Nat.le_refl _, fun _ => rfl⟩
theorem VRel.newSl (w' : World) (cs : List AV) (b n sz len c : Nat) (cap : Option Nat) (hlen : len ≤ c) (hcap : ∀ k, cap = some k → c = k) (hfit : c * sz ≤ n) (hend : cap = none → c * sz = n) :
    VRel (X.new w' cs b n) (.sl X.h.next 0 0 sz len cap) (.slice (some ⟨b, 0, none⟩) len c) := by
  refine .sl _ _ _ _ _ _ _ _ (Nat.lt_succ_self _) hlen hcap fun o ho => ?_
  have hr : (X.new w' cs b n).ρ X.h.next = ⟨b, 0, n⟩ := if_pos rfl
  simp only [RX.new, Heap.look_new, ↓reduceIte, Option.some.injEq] at ho
  subst ho
  rw [hr]
  exact ⟨Nat.le_refl _, fun _ => ⟨fun _ => rfl, by simpa using hfit, fun e => by simpa using hend e⟩⟩
/-- Memory that is laid and never written. -/
theorem Still.new (hR : Rel B w0 E X) {w' : World} (hb : Below X.w.heap.size X.w w') {b : Nat} (hbn : X.w.heap.size ≤ b) (hlt : b < w'.heap.size) : RX.Still { X with w := w' } b :=
  ⟨hlt, fun hF => by have := hR.Flt b hF; omega, fun hO => by
    rcases hO with ⟨id, o, ho, he⟩ | ⟨k, hk, he⟩
    · have := (hR.obj id o ho).lt
      simp only at he
      omega
    · have := (Array.getElem?_eq_some_iff.1 (hR.its k X.h.its[k].1 X.h.its[k].2 (List.getElem?_eq_getElem hk)).1).1
      simp only at he
      omega⟩
theorem tZero_info {t : TypeId} {zs : List AV} (h : tZero P t = some zs) : ∃ i z, P.info? t = some i ∧ i.zero = some z ∧ z.cells.toList.mapM cellAV = some zs := by
  simp only [tZero, Option.bind_eq_bind, Option.bind_eq_some_iff] at h
  obtain ⟨i, hi, z, hz, h⟩ := h
  exact ⟨i, z, hi, hz, h⟩
theorem sim_alloc (hR : Rel B w0 E X) {t : TypeId} {zs : List AV} (hz : tZero P t = some zs) :
    Sim B w0 E X P (Instr.alloc t true (.tuple #[])) (.ptr X.h.next 0 0) (X.h.new zs) := by
  obtain ⟨i, z, hi, hz, hm⟩ := tZero_info hz
  obtain ⟨h1, h2⟩ := mapM_cellAV (X := X) hm
  have hl := h1.length
  refine Sim.new_ hR (below_alloc' X.w (.cells z.cells t)) (Nat.le_refl _) h2 (heap_new X.w _) (.inl rfl) (by simpa using Nat.le_of_eq hl) (by rw [hl, List.take_length]; exact h1) ?_ (VRel.newPtr _ _ _ _)
  simp [Instr.alloc, zeroValue, typeInfo, hi, hz, newVar, newRow]
theorem sim_box (hR : Rel B w0 E X) {t : TypeId} {v : AV} {c : Value} (hv : VRel X v c) {vs : List AV} (hr : v.row = some vs) :
    Sim B w0 E X P (Instr.box t c) (.ptr X.h.next 0 0) (X.h.new vs) := by
  obtain ⟨h1, h2⟩ := hv.row hr
  have hl := h1.length
  refine Sim.new_ hR (below_alloc' X.w (.cells c.cells t)) (Nat.le_refl _) h2 (heap_new X.w _) (.inl rfl) (by simpa using Nat.le_of_eq hl) (by rw [hl, List.take_length]; exact h1) ?_ (VRel.newPtr _ _ _ _)
  simp [Instr.box, newVar, newRow]
theorem sim_boxStill (hR : Rel B w0 E X) {t : TypeId} {v : AV} {c : Value} (hv : VRel X v c) {vs : List AV} (hr : v.row = some vs) :
    Sim B w0 E X P (Instr.box t c) (.fp vs) X.h := by
  obtain ⟨h1, h2⟩ := hv.row hr
  have hb := below_alloc' X.w (.cells c.cells t)
  refine ⟨{ X with w := X.w.alloc (.cells c.cells t) }, .pointer (some ⟨X.w.heap.size, 0, none⟩), ?_, rfl, hR.grow hb, Ext.grow X hb,
    .fp vs _ _ _ (Still.new hR hb (Nat.le_refl _) (by simp)) (fun i u hu => ?_) h2 (h1.ext (Ext.grow X hb))⟩
  · simp [Instr.box, newVar, newRow]
  · simpa [World.cell?_alloc_new] using hu
theorem foldl_lay (off : Nat) : ∀ (vs : List Value) (s : Nat) (cs : Array Value), off + s + vs.length ≤ cs.size →
    ((vs.zipIdx s).foldl (fun (cs : Array Value) (x : Value × Nat) => cs.setIfInBounds (off + x.2) x.1) cs).toList = cs.toList.take (off + s) ++ vs ++ cs.toList.drop (off + s + vs.length)
  | [], s, cs, _ => by simp
  | v :: rest, s, cs, h => by
    have ih := foldl_lay off rest (s + 1) (cs.setIfInBounds (off + s) v) (by simp at h ⊢; omega)
    simp only [List.zipIdx_cons, List.foldl_cons]
    rw [ih]
    have e := list_seg_step cs.toList (off + s) v rest (by simp at h ⊢; omega)
    simpa [Array.toList_setIfInBounds, Nat.add_assoc] using e
theorem fill_rel {place : Nat → Option (Nat × Nat)} {n : Nat} {σ : Slots} {a : Act} (hR : Rel B w0 E X) (k : SRel X n σ a.tmps) :
    ∀ {parts : List (Nat × Operand)} {ps : List (Nat × Nat × Opd)}, trParts place parts = some ps → ∀ {l : List (Nat × Nat × AV)}, E.parts σ ps = some l →
    ∀ {zs rs : List AV} {cs : Array Value}, VRels X zs cs.toList → allOne zs → aFill zs l = some rs →
    ∃ cs', Instr.fill place cs (parts.map fun x => (x.1, a.eval x.2)) = some cs' ∧ VRels X rs cs'.toList ∧ allOne rs
  | [], ps, ht, l, hl, zs, rs, cs, hz, h1, hf => by
    simp only [trParts, Option.some.injEq] at ht; subst ht
    simp only [Env.parts, Option.some.injEq] at hl; subst hl
    simp only [aFill, Option.some.injEq] at hf; subst hf
    exact ⟨cs, rfl, hz, h1⟩
  | (i, x) :: r, ps, ht, l, hl, zs, rs, cs, hz, h1, hf => by
    simp only [trParts, Option.pure_def, Option.bind_eq_bind, Option.bind_eq_some_iff] at ht
    obtain ⟨⟨off, sz⟩, hp, y, hy, ps', hps, e⟩ := ht
    cases e
    simp only [Env.parts, Option.bind_eq_some_iff, Option.map_eq_some_iff] at hl
    obtain ⟨v, hv, l', hl', rfl⟩ := hl
    simp only [aFill, Option.bind_eq_some_iff] at hf
    obtain ⟨vs, hvs, hf⟩ := hf
    split at hf
    · rename_i hc
      obtain ⟨hc1, hc2⟩ := hc
      have hrel := opd_rel hR k hy hv
      obtain ⟨r1, r2⟩ := hrel.row hvs
      have hlen := r1.length
      have hzl := hz.length
      simp only [Array.length_toList] at hlen hzl
      have hlay := foldl_lay off (a.eval x).cells.toList 0 cs (by simp; omega)
      have hcond : ((a.eval x).cells.size ≠ sz || decide (off + (a.eval x).cells.size > cs.size)) = false := by
        simp; omega
      have hfold : ((a.eval x).cells.zipIdx.foldl (fun (cs : Array Value) (x : Value × Nat) => cs.setIfInBounds (off + x.2) x.1) cs) =
          (((a.eval x).cells.toList.zipIdx 0).foldl (fun (cs : Array Value) (x : Value × Nat) => cs.setIfInBounds (off + x.2) x.1) cs) := by
        rw [← Array.foldl_toList]; simp
      have hz' : VRels X (splice zs off vs) ((a.eval x).cells.zipIdx.foldl (fun (cs : Array Value) (x : Value × Nat) => cs.setIfInBounds (off + x.2) x.1) cs).toList := by
        rw [hfold, hlay]
        simpa using hz.splice r1 off
      obtain ⟨cs', g1, g2, g3⟩ := fill_rel hR k hps hl' hz' (h1.splice r2 off) hf
      refine ⟨cs', ?_, g2, g3⟩
      simp only [List.map_cons, Instr.fill, hp]
      rw [if_neg (by simpa using hcond)]
      exact g1
    · cases hf
theorem fieldPlaces_run : ∀ {fs : List Field} {ps : List (Nat × Nat)}, fieldPlaces P fs = some ps → ∀ w : World,
    (fs.mapM (fun f => (do pure (f.offset, ← sizeOf f.type) : Sem (Nat × Nat)))).run P w = .ok ps w
  | [], ps, h, w => by simp only [fieldPlaces, Option.some.injEq] at h; subst h; simp
  | f :: fs, ps, h, w => by
    simp only [fieldPlaces, Option.pure_def, Option.bind_eq_bind, Option.bind_eq_some_iff] at h
    obtain ⟨s, hs, r, hr, e⟩ := h
    cases e
    have ih := fieldPlaces_run hr w
    simp only [List.mapM_cons, Sem.run_bind, run_sizeOf hs, Result.andThen_ok, Sem.run_pure, ih]
theorem sim_build (hR : Rel B w0 E X) {n : Nat} {σ : Slots} {a : Act} (k : SRel X n σ a.tmps) {t : TypeId} {parts : Array (Nat × Operand)} {zero : List AV} {ps : List (Nat × Nat × Opd)}
    (ht : trBuild P t parts = some (.build zero ps)) {l : List (Nat × Nat × AV)} (hl : E.parts σ ps = some l) {cs : List AV} (hf : aFill zero l = some cs) :
    Sim B w0 E X P (Instr.build t (parts.map fun (i, x) => (i, a.eval x))) (.agg cs) X.h := by
  simp only [trBuild, Option.bind_eq_bind, Option.bind_eq_some_iff] at ht
  obtain ⟨zs, hz, d, hd, ht⟩ := ht
  obtain ⟨i, z, hi, hz, hm⟩ := tZero_info hz
  obtain ⟨h1, h2⟩ := mapM_cellAV (X := X) hm
  have hpm : (parts.map fun (i, x) => (i, a.eval x)).toList = parts.toList.map fun x => (x.1, a.eval x.2) := by simp
  cases d <;> simp only [reduceCtorEq, Option.pure_def, Option.bind_eq_some_iff, Option.some.injEq, AOp.build.injEq] at ht
  · rename_i len e
    obtain ⟨s, hs, ps', hps, rfl, rfl⟩ := ht
    obtain ⟨cs', g1, g2, g3⟩ := fill_rel hR k hps hl h1 h2 hf
    refine Sim.same hR (v' := .agg cs') ?_ (by simpa using VRel.agg cs cs'.toList g3 g2)
    simp only [Instr.build, Sem.run_bind, zeroValue, typeInfo, run_program, Result.andThen_ok, hi, Sem.run_pure, hz, run_underlying hd, run_sizeOf hs, hpm, g1]
  · rename_i fields
    obtain ⟨pl, hpl, ps', hps, rfl, rfl⟩ := ht
    obtain ⟨cs', g1, g2, g3⟩ := fill_rel hR k hps hl h1 h2 hf
    refine Sim.same hR (v' := .agg cs') ?_ (by simpa using VRel.agg cs cs'.toList g3 g2)
    have hpr := fieldPlaces_run (P := P) hpl X.w
    have hmm : (fields.mapM fun f => (do pure (f.offset, ← sizeOf f.type) : Sem (Nat × Nat))).run P X.w = .ok pl.toArray X.w := by
      rw [Array.mapM_eq_mapM_toList]
      simp only [Sem.run_map, hpr, Result.andThen_ok]
    have g1' : Instr.fill (fun (x : Nat) => pl.toArray[x]?) z.cells (parts.toList.map fun x => (x.1, a.eval x.2)) = some cs' := by
      have : (fun (x : Nat) => pl.toArray[x]?) = fun (x : Nat) => pl[x]? := by funext x; simp
      rw [this]; exact g1
    simp only [Instr.build, Sem.run_bind, zeroValue, typeInfo, run_program, Result.andThen_ok, hi, Sem.run_pure, hz, run_underlying hd, hmm, hpm, g1']
theorem sim_lit (hR : Rel B w0 E X) {n : Nat} {σ : Slots} {a : Act} (k : SRel X n σ a.tmps) {fr fr' : Bool} {t : TypeId} {len sz len' : Nat} {parts : Array (Nat × Operand)} {cells : List AV}
    {ps : List (Nat × Nat × Opd)} (ht : trLit P fr t len parts = some (.lit fr' sz len' cells ps)) {l : List (Nat × Nat × AV)} (hl : E.parts σ ps = some l) {cs : List AV}
    (hf : aFill cells l = some cs) (hn : cs.length = len' * sz) :
    ∃ (e : TypeId) (arr : Array Value), VRels X cs arr.toList ∧ allOne cs ∧ len' = len ∧
      (Instr.buildSlice t len (parts.map fun (i, x) => (i, a.eval x))).run P X.w = .ok (.slice (some ⟨X.w.heap.size, 0, none⟩) len len) (X.w.alloc (.cells arr e)) := by
  unfold trLit at ht
  split at ht
  case h_2 => cases ht
  rename_i e hd
  simp only [Option.bind_eq_some_iff] at ht
  obtain ⟨s, hs, ht⟩ := ht
  split at ht
  · cases ht
  rename_i hsmall
  simp only [Option.bind_eq_some_iff] at ht
  obtain ⟨zero, hzero, ht⟩ := ht
  split at ht
  · cases ht
  rename_i hzl
  simp only [Option.map_eq_some_iff, AOp.lit.injEq] at ht
  obtain ⟨ps', hps, rfl, rfl, rfl, rfl, rfl⟩ := ht
  have hpm : (parts.map fun (i, x) => (i, a.eval x)).toList = parts.toList.map fun x => (x.1, a.eval x.2) := by simp
  -- the zeros
  have hZ : ∃ zc : Array Value, ((len * s = 0 ∧ zc = #[]) ∨ (len * s ≠ 0 ∧ ∃ z, (zeroValue e).run P X.w = .ok z X.w ∧ zc = z.cells)) ∧
      VRels X (List.replicate len zero).flatten (((Array.range (len * s)).map (zc[· % zc.size]!)).toList) ∧ allOne (List.replicate len zero).flatten := by
    by_cases h0 : len * s = 0
    · rw [if_pos h0] at hzero
      cases hzero
      refine ⟨#[], .inl ⟨h0, rfl⟩, ?_, ?_⟩
      · rw [h0]; simp; exact .nil
      · intro v hv; simp at hv
    · rw [if_neg h0] at hzero
      obtain ⟨i, z, hi, hz, hm⟩ := tZero_info hzero
      obtain ⟨h1, h2⟩ := mapM_cellAV (X := X) hm
      refine ⟨z.cells, .inr ⟨h0, z, by simp [zeroValue, typeInfo, hi, hz], rfl⟩, ?_, ?_⟩
      · have hlz : zero.length = s := by
          apply Decidable.byContradiction
          intro h
          exact hzl ⟨h0, h⟩
        have hl1 := h1.length
        have hsz : z.cells.size = s := by simpa [hlz] using hl1.symm
        have hspos : 0 < s := Nat.pos_of_ne_zero fun e => h0 (by rw [e]; simp)
        have e1 : ((Array.range (len * s)).map (z.cells[· % z.cells.size]!)).toList = (List.replicate len z.cells.toList).flatten := by
          apply List.ext_getElem
          · simp [hsz]
          · intro j hj1 hj2
            have hj : j < len * s := by simpa using hj1
            simp only [Array.toList_map, Array.toList_range, List.getElem_map, List.getElem_range]
            have hmod : j % z.cells.size < z.cells.size := Nat.mod_lt _ (by omega)
            rw [getElem!_pos z.cells _ hmod]
            have hfl : (List.replicate len z.cells.toList).flatten[j]? = some (z.cells[j % z.cells.size]) := by
              clear hj2 hj1 hl hps hf hn hm h1 hl1 hsmall hzl hd hpm
              have : ∀ (m j : Nat), j < m * s → (List.replicate m z.cells.toList).flatten[j]? = some (z.cells[j % z.cells.size]'(Nat.mod_lt _ (by omega))) := by
                intro m
                induction m with
                | zero => intro j h; simp at h
                | succ m ih =>
                  intro j h
                  simp only [List.replicate_succ, List.flatten_cons, List.getElem?_append, Array.length_toList]
                  split
                  · rename_i hlt
                    simp only [Nat.mod_eq_of_lt hlt, Array.getElem?_toList, Array.getElem?_eq_getElem hlt]
                  · rename_i hge
                    have hge' : z.cells.size ≤ j := Nat.le_of_not_lt hge
                    rw [ih (j - z.cells.size) (by rw [hsz]; rw [Nat.succ_mul] at h; omega)]
                    congr 2
                    exact (Nat.mod_eq_sub_mod hge').symm
              exact this len j hj
            have := List.getElem?_eq_getElem hj2
            rw [this] at hfl
            simpa using hfl.symm
        rw [e1]
        exact VRels.flatten_replicate h1 len
      · intro v hv
        simp only [List.mem_flatten, List.mem_replicate] at hv
        obtain ⟨l', ⟨_, rfl⟩, hv⟩ := hv
        exact h2 v hv
  obtain ⟨zc, hz1, hz2, hz3⟩ := hZ
  obtain ⟨cs', g1, g2, g3⟩ := fill_rel hR k hps hl hz2 hz3 hf
  refine ⟨e, cs', g2, g3, rfl, ?_⟩
  have hsm : ¬ (len * s > 2 ^ 24) := hsmall
  rcases hz1 with ⟨h0, rfl⟩ | ⟨h0, z, hz, rfl⟩
  · simp only [Instr.buildSlice, Sem.run_bind, run_underlying hd, Result.andThen_ok, run_sizeOf hs, if_neg hsm, Sem.run_pure, if_pos h0, hpm, g1, newRow, run_newObj]
    rfl
  · simp only [Instr.buildSlice, Sem.run_bind, run_underlying hd, Result.andThen_ok, run_sizeOf hs, if_neg hsm, Sem.run_pure, if_neg h0, hpm, hz, g1, newRow, run_newObj]
    rfl
end
end Go.AM
