/-
  THE ABSTRACT MACHINE AND THE MODEL: one operation.
-/
import Derived.Test.YtpggjddiddmkkaaGreatDoorAmRel
import Derived.Laws.Append
import Derived.Laws.CopyRow
import Derived.Deep.MidRow
set_option linter.unusedSimpArgs false
set_option linter.unusedVariables false
namespace Go.AM
open Go.RowKit
section
variable {B : Nat} {w0 : World} {E : Env} {X : RX} {P : Program}
/-- The model's run and the machine's come to the same. -/
def Sim (B : Nat) (w0 : World) (E : Env) (X : RX) (P : Program) (s : Sem Value) (v : AV) (h : Heap) : Prop :=
  ∃ X' v', s.run P X.w = .ok v' X'.w ∧ X'.h = h ∧ Rel B w0 E X' ∧ Ext X X' ∧ VRel X' v v'
theorem Sim.same (hR : Rel B w0 E X) {s : Sem Value} {v : AV} {v' : Value} (hs : s.run P X.w = .ok v' X.w) (hv : VRel X v v') : Sim B w0 E X P s v X.h :=
  ⟨X, v', hs, rfl, hR, Ext.refl X, hv⟩
theorem Sim.pure_ (hR : Rel B w0 E X) {v : AV} {v' : Value} (hv : VRel X v v') : Sim B w0 E X P (pure v') v X.h := Sim.same hR rfl hv
theorem VRel.oneCell {v : AV} {c : Value} (h : VRel X v c) : c.oneCell' = v.one := by cases h <;> rfl
theorem VRels.oneCells : ∀ {vs : List AV} {cs : List Value}, VRels X vs cs → allOne vs → ∀ c ∈ cs, c.oneCell' = true
  | _, _, .nil, _, _, h => by cases h
  | _, _, .cons v v' vs vs' hv hvs, h1, c, hc => by
    cases hc with
    | head => rw [hv.oneCell]; exact h1 v (by simp)
    | tail _ hc => exact hvs.oneCells (fun u hu => h1 u (by simp [hu])) c hc
theorem VRel.row {v : AV} {c : Value} (h : VRel X v c) {vs : List AV} (hr : v.row = some vs) : VRels X vs c.cells.toList ∧ allOne vs := by
  have h0 := h
  cases h with
  | agg cs cs' h1 hv =>
    simp only [AV.row, Option.some.injEq] at hr; subst hr
    exact ⟨by simpa [Value.cells] using hv, h1⟩
  | tup vs vs' hv => simp [AV.row] at hr
  | _ =>
    simp only [AV.row, Option.some.injEq] at hr; subst hr
    exact ⟨VRels.one h0, by intro v hv; simp at hv; subst hv; rfl⟩
theorem cellAV_rel {c : Value} {v : AV} (h : cellAV c = some v) : VRel X v c ∧ v.one = true := by
  unfold cellAV at h
  split at h <;> simp only [Option.some.injEq, reduceCtorEq] at h <;> subst h <;> refine ⟨?_, rfl⟩
  · exact .bool _
  · exact .int _ _
  · rename_i s
    have : (.string s : Value) = .string ⟨s.data.toList.toArray⟩ := by simp
    rw [this]
    exact .str _
  · exact .nilp
  · exact .nils
  · exact .nilm
  · exact .nilf
  · exact .nili
theorem mapM_cellAV : ∀ {cs : List Value} {vs : List AV}, cs.mapM cellAV = some vs → VRels X vs cs ∧ allOne vs
  | [], vs, h => by simp at h; subst h; exact ⟨.nil, fun _ h => by cases h⟩
  | c :: cs, vs, h => by
    simp only [List.mapM_cons, Option.pure_def, Option.bind_eq_bind, Option.bind_eq_some_iff] at h
    obtain ⟨v, hv, r, hr, e⟩ := h
    cases e
    obtain ⟨h1, h2⟩ := mapM_cellAV hr
    obtain ⟨h3, h4⟩ := cellAV_rel (X := X) hv
    refine ⟨.cons _ _ _ _ h3 h1, fun u hu => ?_⟩
    cases hu with
    | head => exact h4
    | tail _ hu => exact h2 u hu
theorem constAV_rel {c : Value} {v : AV} (h : constAV c = some v) : VRel X v c := by
  unfold constAV at h
  split at h
  · rename_i cs
    simp only [Option.map_eq_some_iff] at h
    obtain ⟨vs, hvs, rfl⟩ := h
    obtain ⟨h1, h2⟩ := mapM_cellAV (X := X) hvs
    have := VRel.agg vs cs.toList h2 h1
    simpa using this
  · exact (cellAV_rel h).1
structure SRel (X : RX) (n : Nat) (σ : Slots) (tmps : Array Value) : Prop where
  size : n ≤ tmps.size
  get : ∀ t, VRel X (σ.get t) (tmps.getD t undef)
theorem VRel.undef : VRel X .undef Go.undef := by
  have := VRel.tup (X := X) [] [] .nil
  exact this
theorem SRel.ext {X' : RX} (h : Ext X X') {n : Nat} {σ : Slots} {tmps : Array Value} (k : SRel X n σ tmps) : SRel X' n σ tmps :=
  ⟨k.size, fun t => (k.get t).ext h⟩
theorem Slots.get_put (σ : Slots) (d : Nat) (v : AV) (t : Nat) : (σ.put d v).get t = if t = d then v else σ.get t := by
  have h := Tr.get_set (α := AV) σ d t (some v)
  unfold Slots.get Slots.put
  rw [h]
  by_cases ht : t = d
  · rw [if_pos ht, if_pos ht]
  · rw [if_neg ht, if_neg ht]
theorem SRel.put {n : Nat} {σ : Slots} {tmps : Array Value} (k : SRel X n σ tmps) {d : Nat} (hd : d < n) {v : AV} {c : Value} (hv : VRel X v c) :
    SRel X n (σ.put d v) (tmps.setIfInBounds d c) := by
  refine ⟨by simpa using k.size, fun t => ?_⟩
  rw [Slots.get_put]
  by_cases ht : t = d
  · subst ht
    have hlt : t < tmps.size := Nat.lt_of_lt_of_le hd k.size
    rw [if_pos rfl]
    simpa [Array.getD, hlt] using hv
  · have hg : (tmps.setIfInBounds d c).getD t Go.undef = tmps.getD t Go.undef := by
      simp only [Array.getD_eq_getD_getElem?, Array.getElem?_setIfInBounds, if_neg (Ne.symm ht)]
    rw [if_neg ht, hg]
    exact k.get t
theorem opd_rel (hR : Rel B w0 E X) {n : Nat} {σ : Slots} {a : Act} (k : SRel X n σ a.tmps) {o : Operand} {x : Opd} (ht : trOpd o = some x) {v : AV} (hv : E.opd σ x = some v) :
    VRel X v (a.eval o) := by
  cases o with
  | tmp t => simp only [trOpd, Option.some.injEq] at ht; subst ht; simp only [Env.opd, Option.some.injEq] at hv; subst hv; exact k.get t
  | const c =>
    simp only [trOpd, Option.map_eq_some_iff] at ht
    obtain ⟨u, hu, rfl⟩ := ht
    simp only [Env.opd, Option.some.injEq] at hv
    subst hv
    exact constAV_rel hu
  | global g =>
    simp only [trOpd, Option.some.injEq] at ht; subst ht
    simp only [Env.opd, Option.map_eq_some_iff] at hv
    obtain ⟨cs, hcs, rfl⟩ := hv
    exact hR.glob g cs hcs
  | func f =>
    simp only [trOpd, Option.some.injEq] at ht; subst ht
    simp only [Env.opd, Option.some.injEq] at hv; subst hv
    exact .fn (.func f) [] [] [] [] .nil .nil
theorem opds_rel (hR : Rel B w0 E X) {n : Nat} {σ : Slots} {a : Act} (k : SRel X n σ a.tmps) : ∀ {l : List Operand} {xs : List Opd}, l.mapM trOpd = some xs → ∀ {vs : List AV}, E.opds σ xs = some vs →
    VRels X vs (l.map a.eval)
  | [], xs, ht, vs, hv => by simp at ht; subst ht; simp only [Env.opds, Option.some.injEq] at hv; subst hv; exact .nil
  | o :: l, xs, ht, vs, hv => by
    simp only [List.mapM_cons, Option.pure_def, Option.bind_eq_bind, Option.bind_eq_some_iff] at ht
    obtain ⟨x, hx, r, hr, e⟩ := ht
    cases e
    simp only [Env.opds, Option.bind_eq_some_iff, Option.map_eq_some_iff] at hv
    obtain ⟨v, hv, ws, hws, rfl⟩ := hv
    exact .cons _ _ _ _ (opd_rel hR k hx hv) (opds_rel hR k hr hws)
theorem tSize_info {t : TypeId} {sz : Nat} (h : tSize P t = some sz) : ∃ i, P.info? t = some i ∧ i.size = sz := by
  simpa [tSize] using h
theorem tBytes_info {t : TypeId} {sz : Nat} (h : tBytes P t = some sz) : ∃ i, P.info? t = some i ∧ i.bytes = sz := by
  simpa [tBytes] using h
theorem tAgg_isAgg {t : TypeId} {agg : Bool} (h : tAgg P t = some agg) (w : World) : (isAgg t).run P w = .ok agg w := by
  unfold tAgg at h
  cases hu : P.underlying t with
  | none => rw [hu] at h; cases h
  | some d =>
    rw [hu] at h
    simp only [isAgg, Sem.run_bind, run_underlying hu, Result.andThen_ok]
    cases d <;> simp_all
theorem run_sizeOf {t : TypeId} {sz : Nat} (h : tSize P t = some sz) (w : World) : (sizeOf t).run P w = .ok sz w := by
  obtain ⟨i, hi, hs⟩ := tSize_info h
  simp [sizeOf, typeInfo, hi, hs]
theorem addr_add (b o j : Nat) : (⟨b, o, none⟩ : Addr).add j = ⟨b, o + j, none⟩ := by
  unfold Addr.add
  split
  · simp_all
  · rfl
theorem run_loadVar_agg {t : TypeId} {sz : Nat} (ha : tAgg P t = some true) (hs : tSize P t = some sz) (w : World) (b o : Nat) {cs : List Value} (hl : cs.length = sz)
    (hc : CellsAt w b o cs) : (loadVar t ⟨b, o, none⟩).run P w = .ok (.agg cs.toArray) w := by
  have h := run_loadCells_list (P := P) w ⟨b, o, none⟩ cs (fun j v hv => by rw [addr_add]; exact hc j v hv)
  subst hl
  simp [loadVar, tAgg_isAgg ha, run_sizeOf hs, h]
theorem run_loadVar_one {t : TypeId} (ha : tAgg P t = some false) (w : World) (a : Addr) {v : Value} (hc : w.cell? a = some v) : (loadVar t a).run P w = .ok v w := by
  simp [loadVar, tAgg_isAgg ha, hc]
/-- The cells of an object. -/
theorem ObjAt.at {p : Place} {cs : List AV} (h : ObjAt X p cs) (off : Nat) : ∃ vs, VRels X (cs.drop off) vs ∧ CellsAt X.w p.b (p.o + off) vs := by
  obtain ⟨⟨arr, T, fz, h1, h2, h3, h4, h5⟩, _⟩ := h
  refine ⟨_, h5.drop off, fun i v hv => ?_⟩
  rw [cell_of_row X.w p.b _ arr T fz h1]
  simp only [List.getElem?_drop, List.getElem?_take] at hv
  split at hv
  · simp only [Array.getElem?_toList] at hv
    rw [← hv]; congr 1; omega
  · cases hv
theorem CellsAt.take {w : World} {b o : Nat} {vs : List Value} (h : CellsAt w b o vs) (n : Nat) : CellsAt w b o (vs.take n) := fun i v hv => by
  rw [List.getElem?_take] at hv
  split at hv
  · exact h i v hv
  · cases hv
theorem CellsAt.drop {w : World} {b o : Nat} {vs : List Value} (h : CellsAt w b o vs) (n : Nat) : CellsAt w b (o + n) (vs.drop n) := fun i v hv => by
  rw [List.getElem?_drop] at hv
  rw [Nat.add_assoc]
  exact h (n + i) v hv
theorem ldCells_run {t : TypeId} {agg : Bool} {sz : Nat} (ha : tAgg P t = some agg) (hs : tSize P t = some sz) {b o : Nat} {cs : List AV} {vs : List Value}
    (hvs : VRels X cs vs) (hone : allOne cs) (hc : CellsAt X.w b o vs) {v : AV} (h : ldCells agg sz cs = some v) :
    ∃ v', (loadVar t ⟨b, o, none⟩).run P X.w = .ok v' X.w ∧ VRel X v v' := by
  cases agg with
  | true =>
    simp only [ldCells] at h
    split at h
    · rename_i hle
      cases h
      refine ⟨_, run_loadVar_agg ha hs X.w b o (cs := vs.take sz) ?_ (hc.take sz), .agg _ _ (hone.take sz) (hvs.take sz)⟩
      rw [List.length_take, ← hvs.length]; omega
    · cases h
  | false =>
    simp only [ldCells] at h
    obtain ⟨c, hc', hv⟩ := hvs.get (i := 0) (v := v) (by cases cs <;> simp_all)
    exact ⟨c, run_loadVar_one ha X.w _ (by simpa using hc 0 c hc'), hv⟩
theorem sim_load (hR : Rel B w0 E X) {t : TypeId} {agg : Bool} {sz : Nat} (ha : tAgg P t = some agg) (hs : tSize P t = some sz) {x : AV} {c : Value} (hx : VRel X x c)
    {r : OpRes} (h : aLoad X.h agg sz x = some r) : Sim B w0 E X P (Instr.loadAt t c) r.v r.h := by
  cases hx with
  | ptr id gen off a hid hlive =>
    simp only [aLoad, Option.bind_eq_some_iff, Option.map_eq_some_iff] at h
    obtain ⟨cs, hcs, v, hv, rfl⟩ := h
    have hl := Heap.at_some hcs
    obtain ⟨vs, h1, h2⟩ := (hR.obj id _ hl).at off
    obtain ⟨v', hv', hr⟩ := ldCells_run (P := P) ha hs h1 ((hR.obj id _ hl).one.drop off) h2 hv
    have e := (hlive _ hl).2 rfl
    subst e
    exact Sim.same hR (by simpa [Instr.loadAt, Instr.sureAddr] using hv') hr
  | fp cells b o vs hst hat h1 hvs =>
    simp only [aLoad, Option.map_eq_some_iff] at h
    obtain ⟨v, hv, rfl⟩ := h
    obtain ⟨v', hv', hr⟩ := ldCells_run (P := P) ha hs hvs h1 hat hv
    exact Sim.same hR (by simpa [Instr.loadAt, Instr.sureAddr] using hv') hr
  | _ => simp [aLoad] at h
theorem Bare.frozen {w : World} {g : Nat} {cur : Array Value} {T : TypeId} {fz : Nat × Nat} (hg : w.heap[g]? = some (.cells cur T fz)) (hb : Bare cur.size fz) {k : Nat} (hk : k < cur.size) :
    w.frozen? ⟨g, k, none⟩ = false := by
  obtain ⟨lo, hi⟩ := fz
  simp only [World.frozen?, hg, Bool.and_eq_false_iff, decide_eq_false_iff_not]
  rcases hb with e | e
  · cases e; right; omega
  · dsimp only at e; left; omega
theorem run_storeCells_bare (g o : Nat) (T : TypeId) (fz : Nat × Nat) : ∀ (vs : List Value) (i : Nat) (cur : Array Value) (w : World), w.heap[g]? = some (.cells cur T fz) → Bare cur.size fz →
    o + i + vs.length ≤ cur.size → (∀ v ∈ vs, v.oneCell' = true) →
    (storeCells ⟨g, o, none⟩ vs i).run P w = .ok () (w.setRow g (cur.toList.take (o + i) ++ vs ++ cur.toList.drop (o + i + vs.length)).toArray)
  | [], i, cur, w, hg, _, _, _ => by
    simp only [storeCells, List.append_nil, List.length_nil, Nat.add_zero, List.take_append_drop, Array.toArray_toList]
    rw [setRow_self w g cur T fz hg]
    rfl
  | v :: rest, i, cur, w, hg, hfz, hl, h1 => by
    have hi : o + i < cur.size := by simp at hl; omega
    have hcell : w.cell? ⟨g, o + i, none⟩ = some cur[o + i] := by simp [World.cell?, hg, hi]
    have hfro := hfz.frozen hg hi
    have hst : (store ((⟨g, o, none⟩ : Addr).add i) v).run P w = .ok () (w.setRow g (cur.setIfInBounds (o + i) v)) := by
      rw [addr_add, run_store P w _ v _ (h1 v (by simp)), hcell]
      simp [hfro, setCell_eq_setRow w g (o + i) cur T fz v hg]
    have ih := run_storeCells_bare g o T fz rest (i + 1) (cur.setIfInBounds (o + i) v) (w.setRow g (cur.setIfInBounds (o + i) v)) (setRow_heap w g cur _ T _ hg) (by simpa using hfz)
      (by simp at hl ⊢; omega) (fun x hx => h1 x (by simp [hx]))
    simp only [storeCells, Sem.run_bind, hst, Result.andThen_ok, ih, setRow_setRow]
    congr 3
    have e := list_seg_step cur.toList (o + i) v rest (by simp at hl ⊢; omega)
    simpa [Array.toList_setIfInBounds, Nat.add_assoc] using e
theorem setRow_only (w : World) (g : Nat) (cs : Array Value) : Only g w (w.setRow g cs) :=
  ⟨rfl, rfl, rfl, by simp [World.setRow], fun k _ hne => by simp only [World.setRow, Array.getElem?_modify, if_neg (Ne.symm hne)]⟩
/-- Cells are laid over an object's own. -/
theorem sim_splice (hR : Rel B w0 E X) {id : Nat} {o : AObj} (hl : X.h.look id = some o) {off : Nat} {new : List AV} {news : List Value} (hn : VRels X new news) (h1 : allOne new)
    (hfit : off + new.length ≤ o.cells.length) :
    ∃ X', (storeCells ⟨(X.ρ id).b, (X.ρ id).o + off, none⟩ news).run P X.w = .ok () X'.w ∧ X'.h = X.h.upd id o.gen (splice o.cells off new) ∧ Rel B w0 E X' ∧ Ext X X' ∧ X'.ρ = X.ρ := by
  have hO := hR.obj id o hl
  obtain ⟨⟨arr, T, fz, ha, hb, hc, hd, he⟩, hone⟩ := hO
  have hlen := hn.length
  have hrun := run_storeCells_bare (P := P) (X.ρ id).b ((X.ρ id).o + off) T fz news 0 arr X.w ha (by rw [hb]; exact hd) (by omega) (hn.oneCells h1)
  simp only [Nat.add_zero] at hrun
  have hrow := setRow_heap X.w (X.ρ id).b arr (arr.toList.take ((X.ρ id).o + off) ++ news ++ arr.toList.drop ((X.ρ id).o + off + news.length)).toArray T fz ha
  have hsz : (arr.toList.take ((X.ρ id).o + off) ++ news ++ arr.toList.drop ((X.ρ id).o + off + news.length)).toArray.size = arr.size := by
    simp; omega
  have hsp : (splice o.cells off new).length = o.cells.length := by simp [splice]; omega
  refine ⟨X.upd _ id o.gen (splice o.cells off new) (X.ρ id), hrun, rfl, ?_, Ext.upd hR hl (setRow_only _ _ _) (Nat.le_refl _) (fun _ => rfl) (.inl rfl), ?_⟩
  · refine Rel.upd hR hl (setRow_only _ _ _) (Nat.le_refl _) (fun _ => rfl) (.inl rfl) (hone.splice h1 off) hrow (hsz.trans hb) hd (by rw [hsp]; exact hc) ?_
    have hs := he.splice hn off
    rw [hsp]
    have hl2 : o.cells.length ≤ arr.size - (X.ρ id).o := by omega
    have e : List.take o.cells.length (List.drop (X.ρ id).o (arr.toList.take ((X.ρ id).o + off) ++ news ++ arr.toList.drop ((X.ρ id).o + off + news.length)).toArray.toList)
        = List.take off (List.take o.cells.length (List.drop (X.ρ id).o arr.toList)) ++ news ++ List.drop (off + news.length) (List.take o.cells.length (List.drop (X.ρ id).o arr.toList)) := by
      apply List.ext_getElem?
      intro k
      simp only [List.getElem?_take, List.getElem?_drop, List.getElem?_append, List.length_append, List.length_take, List.length_drop, Array.length_toList, Nat.min_def]
      repeat' split
      all_goals first
        | rfl
        | (exfalso; omega)
        | (congr 1; omega)
        | (simp only [List.getElem?_eq_none_iff, Array.length_toList]; omega)
        | (symm; simp only [List.getElem?_eq_none_iff, Array.length_toList]; omega)
    rw [e]
    exact hs
  · funext k
    simp only [RX.upd]
    by_cases hk : k = id
    · rw [if_pos hk, hk]
    · rw [if_neg hk]
end
end Go.AM
