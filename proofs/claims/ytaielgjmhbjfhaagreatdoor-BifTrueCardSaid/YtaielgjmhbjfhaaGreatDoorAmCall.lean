/-
  THE ABSTRACT MACHINE AND THE MODEL: functions, calls without addresses, all calls.
-/
import Derived.Test.YtaielgjmhbjfhaaGreatDoorAmRun
set_option linter.unusedSimpArgs false
set_option linter.unusedVariables false
namespace Go.AM
open Go.RowKit

section
variable {B : Nat} {w0 : World} {E : Env} {P : Program}

/-! ### a function's entry and its results -/
theorem ofList_get : ∀ (vs : List AV) (i : Nat) (σ : Slots) (t : Nat), (Slots.ofList i vs σ).get t = if i ≤ t ∧ t < i + vs.length then vs.getD (t - i) .undef else σ.get t
  | [], i, σ, t => by simp [Slots.ofList]; intro h1 h2; omega
  | v :: vs, i, σ, t => by
    simp only [Slots.ofList]
    rw [ofList_get vs (i + 1), Slots.get_put]
    simp only [List.length_cons]
    by_cases h1 : i + 1 ≤ t ∧ t < i + 1 + vs.length
    · rw [if_pos h1, if_pos (by omega)]
      have : t - i = (t - (i + 1)) + 1 := by omega
      rw [this]; simp
    · rw [if_neg h1]
      by_cases h2 : t = i
      · subst h2; rw [if_pos rfl, if_pos (by omega)]; simp
      · rw [if_neg h2, if_neg (by omega)]

theorem nil_get (t : Nat) : Slots.empty.get t = .undef := rfl

theorem entry_rel {X : RX} {args : List AV} {cargs : List Value} (h : VRels X args cargs) (n : Nat) : SRel X n (Slots.ofList 0 args .empty) (cargs.toArray ++ Array.replicate (n - cargs.toArray.size) Go.undef) := by
  refine ⟨by simp; omega, fun t => ?_⟩
  rw [ofList_get]
  have hl := h.length
  by_cases ht : t < args.length
  · rw [if_pos (by omega)]
    have hg : args[t]? = some (args.getD (t - 0) .undef) := by simp [List.getD, ht]
    obtain ⟨c, hc, hv⟩ := h.get hg
    have : (cargs.toArray ++ Array.replicate (n - cargs.toArray.size) Go.undef).getD t Go.undef = c := by
      have ht' : t < cargs.length := by omega
      simp only [Array.getD_eq_getD_getElem?, Array.getElem?_append, List.size_toArray, if_pos ht', List.getElem?_toArray, hc, Option.getD_some]
    rw [this]; exact hv
  · rw [if_neg (by omega), nil_get]
    have : (cargs.toArray ++ Array.replicate (n - cargs.toArray.size) Go.undef).getD t Go.undef = Go.undef := by
      simp only [Array.getD_eq_getD_getElem?, Array.getElem?_append, List.size_toArray]
      rw [if_neg (by omega)]
      simp only [Array.getElem?_replicate]
      split <;> rfl
    rw [this]; exact VRel.undef

theorem load_run {X : RX} (hR : Rel B w0 E X) {t : TypeId} {agg : Bool} {sz : Nat} (ha : tAgg P t = some agg) (hs : tSize P t = some sz) {x : AV} {c : Value} (hx : VRel X x c)
    {r : OpRes} (h : aLoad X.h agg sz x = some r) : ∃ v', (do loadVar t (← asAddr c) : Sem Value).run P X.w = .ok v' X.w ∧ VRel X r.v v' := by
  cases hx with
  | ptr id gen off a hid hlive =>
    simp only [aLoad, Option.bind_eq_some_iff, Option.map_eq_some_iff] at h
    obtain ⟨cs, hcs, v, hv, rfl⟩ := h
    have hl := Heap.at_some hcs
    obtain ⟨vs, h1, h2⟩ := (hR.obj id _ hl).at off
    obtain ⟨v', hv', hr⟩ := ldCells_run (P := P) ha hs h1 ((hR.obj id _ hl).one.drop off) h2 hv
    have e := (hlive _ hl).2 rfl
    subst e
    exact ⟨v', by simpa [asAddr] using hv', hr⟩
  | fp cells b o vs hst hat h1 hvs =>
    simp only [aLoad, Option.map_eq_some_iff] at h
    obtain ⟨v, hv, rfl⟩ := h
    obtain ⟨v', hv', hr⟩ := ldCells_run (P := P) ha hs hvs h1 hat hv
    exact ⟨v', by simpa [asAddr] using hv', hr⟩
  | _ => simp [aLoad] at h

theorem results_run {X : RX} (hR : Rel B w0 E X) {n : Nat} {s : St} {tmps : Array Value} (hh : X.h = s.h) (k : SRel X n s.σ tmps) {f : ResultVar → Sem Value} (h1 : ∀ t, f (.tmp t) = pure (tmps.getD t Go.undef))
    (h2 : ∀ a t, f (.cell a t) = (do loadVar t (← asAddr (tmps.getD a Go.undef)))) : ∀ {rs : List ResultVar} {ars : List ARes}, rs.mapM (trRes P) = some ars →
    ∀ {vs : List AV}, E.results s ars = some vs → ∃ vs' : List Value, (rs.mapM f).run P X.w = .ok vs' X.w ∧ VRels X vs vs'
  | [], ars, ht, vs, h => by
    simp at ht; subst ht
    simp only [Env.results, Option.some.injEq] at h; subst h
    exact ⟨[], by simp, .nil⟩
  | r :: rs, ars, ht, vs, h => by
    simp only [List.mapM_cons, Option.pure_def, Option.bind_eq_bind, Option.bind_eq_some_iff] at ht
    obtain ⟨ar, har, ars', hars, e⟩ := ht
    cases e
    cases r with
    | tmp t =>
      simp only [trRes, Option.some.injEq] at har
      subst har
      simp only [Env.results, Option.map_eq_some_iff] at h
      obtain ⟨vs1, hvs1, rfl⟩ := h
      obtain ⟨vs', g1, g2⟩ := results_run hR hh k h1 h2 hars hvs1
      exact ⟨_ :: vs', by simp [h1, g1], .cons _ _ _ _ (k.get t) g2⟩
    | cell a t =>
      simp only [trRes, Option.bind_eq_bind, Option.pure_def, Option.bind_eq_some_iff, Option.some.injEq] at har
      obtain ⟨ag, hag, sz, hsz, rfl⟩ := har
      simp only [Env.results, Option.bind_eq_some_iff, Option.map_eq_some_iff] at h
      obtain ⟨r1, hr1, vs1, hvs1, rfl⟩ := h
      rw [← hh] at hr1
      obtain ⟨v', q1, q2⟩ := load_run (P := P) hR hag hsz (k.get a) hr1
      obtain ⟨vs', g1, g2⟩ := results_run hR hh k h1 h2 hars hvs1
      refine ⟨v' :: vs', ?_, .cons _ _ _ _ q2 g2⟩
      rw [List.mapM_cons, h2, Sem.run_bind, q1]
      simp only [Result.andThen_ok, Sem.run_bind, g1, Sem.run_pure]

theorem oneOrTup_rel {X : RX} {vs : List AV} {vs' : List Value} (h : VRels X vs vs') : VRel X (oneOrTup vs) (if h : vs'.toArray.size = 1 then vs'.toArray[0] else .tuple vs'.toArray) := by
  cases h with
  | nil => simpa [oneOrTup] using VRel.tup (X := X) [] [] .nil
  | cons v v' vs vs' hv hvs =>
    cases hvs with
    | nil => simpa [oneOrTup] using hv
    | cons u u' us us' hu hus =>
      have := VRel.tup (X := X) _ _ (.cons v v' _ _ hv (.cons u u' _ _ hu hus))
      simpa [oneOrTup] using this

theorem body_sim {C : CallF} (hC : CallOk P E C) (hD : DrawOk P E C) {m : Nat} {f : Nat} {fn : Func} {fz : TypeId → Bool} {thaw : Nat → Bool} {af : AFunc} (hf : P.funcs[f]? = some fn)
    (ht : trFunc P fz thaw fn = some af) {X : RX} (hR : Rel B w0 E X) {args : List AV} {cargs : List Value} (ha : VRels X args cargs) {out : COut} (h : E.body C m af args X.h = some out) :
    Calls P f cargs.toArray X.w (Outcome B w0 E X out) := by
  simp only [trFunc, Option.bind_eq_bind, Option.bind_eq_some_iff] at ht
  obtain ⟨body, hb, ht⟩ := ht
  split at ht
  · cases ht
  simp only [Option.pure_def, Option.bind_eq_some_iff, Option.some.injEq] at ht
  obtain ⟨rs, hrs, rfl⟩ := ht
  simp only [Env.body, Option.bind_eq_some_iff] at h
  obtain ⟨⟨e, s⟩, hcode, h⟩ := h
  refine calls_of_wp hf hb (wp_mono (code_sim hC hD body hR (s := ⟨Slots.ofList 0 args .empty, X.h⟩) ⟨rfl, entry_rel ha fn.ntmps, rfl⟩ hcode) ?_)
  rintro e' a' w' ⟨X', rfl, g1, g2, g3, g4⟩
  have fin : ∀ vs, E.results s rs = some vs → out = .ret ⟨oneOrTup vs, s.h, .write⟩ →
      a'.defers = [] ∧ ∃ v, (results fn a'.tmps).run P X'.w = .ok v X'.w ∧ Outcome B w0 E X out (.returned v) X'.w := by
    rintro vs hvs rfl
    have key : ∀ f : ResultVar → Sem Value, (∀ t, f (.tmp t) = pure (a'.tmps.getD t Go.undef)) → (∀ a t, f (.cell a t) = (do loadVar t (← asAddr (a'.tmps.getD a Go.undef)))) →
        ∃ vs' : List Value, (do let vs ← fn.results.mapM f; pure (if h : vs.size = 1 then vs[0] else .tuple vs) : Sem Value).run P X'.w = .ok (if h : vs'.toArray.size = 1 then vs'.toArray[0] else .tuple vs'.toArray) X'.w ∧ VRels X' vs vs' := by
      intro f e1 e2
      obtain ⟨vs', q1, q2⟩ := results_run (P := P) g1 g3.heap g3.slots e1 e2 hrs hvs
      refine ⟨vs', ?_, q2⟩
      rw [Array.mapM_eq_mapM_toList]
      simp only [Sem.run_bind, Sem.run_map, q1, Result.andThen_ok, Sem.run_pure]
    let f : ResultVar → Sem Value := fun r => match r with
      | .tmp t => pure (a'.tmps.getD t Go.undef)
      | .cell a t => do loadVar t (← asAddr (a'.tmps.getD a Go.undef))
    obtain ⟨vs', q1, q2⟩ := key f (fun _ => rfl) (fun _ _ => rfl)
    exact ⟨g3.defers, _, q1, X', _, rfl, g3.heap, g1, g2, oneOrTup_rel q2, rfl⟩
  cases g4 with
  | norm =>
    simp only [Option.map_eq_some_iff] at h
    obtain ⟨vs, hvs, rfl⟩ := h
    exact fin vs hvs rfl
  | ret =>
    simp only [Option.map_eq_some_iff] at h
    obtain ⟨vs, hvs, rfl⟩ := h
    exact fin vs hvs rfl
  | exit id => cases h
  | panic v v' hv =>
    simp only [Option.some.injEq] at h
    subst h
    exact ⟨g3.defers, X', v', rfl, g3.heap, g1, g2, hv, rfl⟩

theorem entered_of {f : Nat} {fn : Func} {fz : TypeId → Bool} {thaw : Nat → Bool} {af : AFunc} (hf : P.funcs[f]? = some fn) (ht : trFunc P fz thaw fn = some af) : Entered P f := by
  simp only [trFunc, Option.bind_eq_bind, Option.bind_eq_some_iff] at ht
  obtain ⟨body, hb, ht⟩ := ht
  split at ht
  · cases ht
  rename_i hn
  exact ⟨fn, hf, by simp [hb], hn⟩

/-! ### values without addresses -/
mutual
theorem VRel.move {X X' : RX} (hw : X'.w = X.w) (hs : ∀ b, X.Still b → X'.Still b) : ∀ {v : AV} {c : Value}, VRel X v c → v.noRef = true → VRel X' v c
  | _, _, .bool b, _ => .bool b
  | _, _, .int k n, _ => .int k n
  | _, _, .str s, _ => .str s
  | _, _, .nilp, _ => .nilp
  | _, _, .nils, _ => .nils
  | _, _, .nilm, _ => .nilm
  | _, _, .nilf, _ => .nilf
  | _, _, .nili, _ => .nili
  | _, _, .ptr id gen off a hid hlive, h => by simp [AV.noRef] at h
  | _, _, .sl id gen off sz len cap a n hid hlen hcap hlive, h => by simp [AV.noRef] at h
  | _, _, .fp cells b o vs hst hat h1 hvs, h => .fp cells b o vs (hs b hst) (by rw [hw]; exact hat) h1 (hvs.move hw hs (by simpa [AV.noRef] using h))
  | _, _, .fs full len cells a n vs hlen hfull hat h1 hvs, h => .fs full len cells a n vs hlen hfull (fun hne => by
      obtain ⟨b, o, e, hst, hc⟩ := hat hne
      exact ⟨b, o, e, hs b hst, by rw [hw]; exact hc⟩) h1 (hvs.move hw hs (by simpa [AV.noRef] using h))
  | _, _, .fn f a b a' b' ha hb, h => .fn f a b a' b' (ha.move hw hs (by simp [AV.noRef] at h; exact h.1)) (hb.move hw hs (by simp [AV.noRef] at h; exact h.2))
  | _, _, .ifc t v v' hv, h => .ifc t v v' (hv.move hw hs (by simpa [AV.noRef] using h))
  | _, _, .agg cs cs' h1 hv, h => .agg cs cs' h1 (hv.move hw hs (by simpa [AV.noRef] using h))
  | _, _, .tup vs vs' hv, h => .tup vs vs' (hv.move hw hs (by simpa [AV.noRef] using h))
theorem VRels.move {X X' : RX} (hw : X'.w = X.w) (hs : ∀ b, X.Still b → X'.Still b) : ∀ {v : List AV} {c : List Value}, VRels X v c → AV.noRefs v = true → VRels X' v c
  | _, _, .nil, _ => .nil
  | _, _, .cons v v' vs vs' hv hvs, h => .cons v v' vs vs' (hv.move hw hs (by simp [AV.noRefs] at h; exact h.1)) (hvs.move hw hs (by simp [AV.noRefs] at h; exact h.2))
end

/-- the blocks that an object of the one lies in are still in the other -/
structure Thawed (B : Nat) (w0 : World) (E : Env) (X X' : RX) : Prop where
  w : X'.w = X.w
  still : ∀ b, X.Still b → X'.Still b
  own : ∀ b, X.Own b → X'.Still b
  rel : Rel B w0 E X

theorem freeze_one {h : Heap} : ∀ {n : Nat} {v u : AV}, freeze h n v = some u → u.one = v.one := by
  intro n v u hf
  cases n with
  | zero => cases hf
  | succ n =>
    simp only [freeze] at hf
    split at hf
    · cases hf; rfl
    · cases v <;> simp only [reduceCtorEq, Option.bind_eq_some_iff, Option.map_eq_some_iff] at hf
      · obtain ⟨_, _, _, _, rfl⟩ := hf; rfl
      · obtain ⟨_, _, hf⟩ := hf
        split at hf
        · simp only [Option.map_eq_some_iff] at hf; obtain ⟨_, _, rfl⟩ := hf; rfl
        · cases hf
      · obtain ⟨_, _, rfl⟩ := hf; rfl
      · obtain ⟨_, _, rfl⟩ := hf; rfl
      · obtain ⟨_, _, rfl⟩ := hf; rfl
      · obtain ⟨_, _, rfl⟩ := hf; rfl
      · obtain ⟨_, _, rfl⟩ := hf; rfl

theorem mapM_one {h : Heap} {n : Nat} : ∀ {vs us : List AV}, vs.mapM (freeze h n) = some us → allOne vs → allOne us
  | [], us, hm, _ => by simp at hm; subst hm; exact fun _ h => by cases h
  | v :: vs, us, hm, h1 => by
    simp only [List.mapM_cons, Option.pure_def, Option.bind_eq_bind, Option.bind_eq_some_iff] at hm
    obtain ⟨u, hu, r, hr, e⟩ := hm
    cases e
    intro x hx
    cases hx with
    | head => rw [freeze_one hu]; exact h1 v (by simp)
    | tail _ hx => exact mapM_one hr (fun y hy => h1 y (by simp [hy])) x hx

theorem freeze_rel {X X' : RX} (hT : Thawed B w0 E X X') : ∀ (n : Nat) {v u : AV} {c : Value}, freeze X.h n v = some u → VRel X v c → VRel X' u c := by
  intro n
  induction n with
  | zero => intro v u c h; cases h
  | succ n ih =>
    intro v u c h hv
    have list : ∀ {vs us : List AV} {cs : List Value}, vs.mapM (freeze X.h n) = some us → VRels X vs cs → VRels X' us cs := by
      intro vs
      induction vs with
      | nil => intro us cs hm hr; simp at hm; subst hm; cases hr; exact .nil
      | cons v vs ihv =>
        intro us cs hm hr
        simp only [List.mapM_cons, Option.pure_def, Option.bind_eq_bind, Option.bind_eq_some_iff] at hm
        obtain ⟨u, hu, r, hr', e⟩ := hm
        cases e
        cases hr with
        | cons _ c _ cs hv hvs => exact .cons _ _ _ _ (ih hu hv) (ihv hr' hvs)
    simp only [freeze] at h
    split at h
    · rename_i hn
      cases h
      exact hv.move hT.w hT.still hn
    · cases hv with
      | ptr id gen off a hid hlive =>
        simp only [Option.bind_eq_some_iff, Option.map_eq_some_iff] at h
        obtain ⟨cs, hcs, us, hus, rfl⟩ := h
        have hl := Heap.at_some hcs
        have hO := hT.rel.obj id _ hl
        obtain ⟨vs, h1, h2⟩ := hO.at off
        have e := (hlive _ hl).2 rfl
        subst e
        exact .fp _ _ _ _ (hT.own _ ⟨id, _, hl, rfl⟩) (by rw [hT.w]; exact h2) (mapM_one hus (hO.one.drop off)) (list hus h1)
      | sl id gen off sz len cap a m hid hlen hcap hlive =>
        simp only [Option.bind_eq_some_iff] at h
        obtain ⟨cs, hcs, h⟩ := h
        split at h
        · rename_i hfit
          simp only [Option.map_eq_some_iff] at h
          obtain ⟨us, hus, rfl⟩ := h
          have hl := Heap.at_some hcs
          have hO := hT.rel.obj id _ hl
          obtain ⟨vs, h1, h2⟩ := hO.at off
          refine .fs _ _ _ _ _ (vs.take (len * sz)) hlen (fun hf => ?_) (fun hne => ?_) (mapM_one hus ((hO.one.drop off).take _)) (list hus (h1.take _))
          · simp only [beq_iff_eq] at hf
            exact hcap _ hf
          · have hpos : 0 < len := by
              apply Nat.pos_of_ne_zero
              rintro rfl
              simp at hus
              exact hne hus
            have ha := ((hlive _ hl).2 rfl).1 (by omega)
            exact ⟨_, _, ha, hT.own _ ⟨id, _, hl, rfl⟩, by rw [hT.w]; exact h2.take _⟩
        · cases h
      | fp cells b o vs hst hat h1 hvs =>
        simp only [Option.map_eq_some_iff] at h
        obtain ⟨us, hus, rfl⟩ := h
        exact .fp _ _ _ _ (hT.still _ hst) (by rw [hT.w]; exact hat) (mapM_one hus h1) (list hus hvs)
      | fs full len cells a m vs hlen hfull hat h1 hvs =>
        simp only [Option.map_eq_some_iff] at h
        obtain ⟨us, hus, rfl⟩ := h
        refine .fs _ _ _ _ _ vs hlen hfull (fun hne => ?_) (mapM_one hus h1) (list hus hvs)
        have hne' : cells ≠ [] := by rintro rfl; simp at hus; exact hne hus
        obtain ⟨b, o, e, hst, hc⟩ := hat hne'
        exact ⟨b, o, e, hT.still _ hst, by rw [hT.w]; exact hc⟩
      | ifc t v v' hv =>
        simp only [Option.map_eq_some_iff] at h
        obtain ⟨u', hu, rfl⟩ := h
        exact .ifc _ _ _ (ih hu hv)
      | agg cs cs' h1 hv =>
        simp only [Option.map_eq_some_iff] at h
        obtain ⟨us, hus, rfl⟩ := h
        exact .agg _ _ (mapM_one hus h1) (list hus hv)
      | tup vs vs' hv =>
        simp only [Option.map_eq_some_iff] at h
        obtain ⟨us, hus, rfl⟩ := h
        exact .tup _ _ (list hus hv)
      | _ => cases h

/-! ### all calls -/
/-- What the callee of a call without addresses sees. -/
def RX.bare (X : RX) : RX := { X with h := .empty, F := fun b => X.F b ∨ X.Own b }

theorem bare_still {X : RX} {b : Nat} (h : X.Still b) : X.bare.Still b :=
  ⟨h.1, fun hF => hF.elim h.2.1 h.2.2, fun ⟨id, o, ho, _⟩ => by cases ho⟩

theorem bare_rel {X : RX} (hg : ∀ g cs, E.glob g = some cs → AV.noRefs cs = true) (hR : Rel B w0 E X) : Rel B w0 E X.bare where
  below := hR.below
  base := hR.base
  lt id o h := by cases h
  obj id o h := by cases h
  inj id id' o o' h := by cases h
  fresh id o h := by cases h
  Flt b h := by
    rcases h with h | ⟨id, o, ho, rfl⟩
    · exact hR.Flt b h
    · exact (hR.obj id o ho).lt
  glob g cs h := (hR.glob g cs h).move (X := X) (X' := X.bare) rfl (fun b hb => bare_still hb) (by simpa [AV.noRef] using hg g cs h)
  start := hR.start

theorem call_ok (hE : EnvOk P E) (hg : ∀ g cs, E.glob g = some cs → AV.noRefs cs = true) (hD : ∀ C, CallOk P E C → (∀ f args h v h1, C f args h = some (.ret ⟨v, h1, .none⟩) → h1 = h ∧ ∀ h2, C f args h2 = some (.ret ⟨v, h2, .none⟩)) → (∀ f args h v h1, C f args h ≠ some (.ret ⟨v, h1, .read⟩)) → DrawOk P E C) :
    ∀ n, CallOk P E (E.call n) ∧ (∀ f args h v h1, E.call n f args h = some (.ret ⟨v, h1, .none⟩) → h1 = h ∧ ∀ h2, E.call n f args h2 = some (.ret ⟨v, h2, .none⟩)) ∧ (∀ f args h v h1, E.call n f args h ≠ some (.ret ⟨v, h1, .read⟩)) := by
  intro n
  induction n with
  | zero => exact ⟨(fun f args h o hc => by cases hc), (fun f args h v h1 hc => by cases hc), (fun f args h v h1 hc => by cases hc)⟩
  | succ n ih =>
    obtain ⟨ih1, ih2, ih3⟩ := ih
    have hDn := hD _ ih1 ih2 ih3
    have hbody : ∀ m af args h out, E.body (E.call n) m af args h = some out → (∃ r, out = .ret r ∧ r.c = .write) ∨ ∃ v h', out = .panic v h' := by
      intro m af args h out hb
      simp only [Env.body, Option.bind_eq_some_iff] at hb
      obtain ⟨⟨e, s⟩, _, hb⟩ := hb
      cases e <;> simp only [reduceCtorEq, Option.map_eq_some_iff, Option.some.injEq] at hb
      · obtain ⟨vs, _, rfl⟩ := hb; exact .inl ⟨_, rfl, rfl⟩
      · obtain ⟨vs, _, rfl⟩ := hb; exact .inl ⟨_, rfl, rfl⟩
      · exact .inr ⟨_, _, hb.symm⟩
    refine ⟨?_, ?_, ?_⟩
    · intro f args h o hc
      simp only [Env.call] at hc
      cases hp : E.prim f with
      | some p =>
        rw [hp] at hc
        simp only [Option.map_eq_some_iff] at hc
        obtain ⟨⟨v, h'⟩, hpv, rfl⟩ := hc
        obtain ⟨g1, g2⟩ := hE.prim f p hp
        exact ⟨g1, fun B w0 X cargs hR hX ha => g2 args h v h' hpv B w0 X cargs hR hX ha⟩
      | none =>
        rw [hp] at hc
        simp only [Option.bind_eq_some_iff] at hc
        obtain ⟨af, haf, hc⟩ := hc
        obtain ⟨fn, fz, thaw, hfn, htr⟩ := hE.func f af haf
        refine ⟨entered_of hfn htr, fun B w0 X cargs hR hX ha => ?_⟩
        have plain : E.body (E.call n) n af args h = some o → Calls P f cargs.toArray X.w (Outcome B w0 E X o) := by
          intro hb
          rw [← hX] at hb
          exact body_sim ih1 hDn hfn htr hR ha hb
        cases hpu : E.pure_ f with
        | false => rw [hpu] at hc; exact plain hc
        | true =>
          rw [hpu] at hc
          cases hno : AV.noRefs args with
          | false => rw [hno] at hc; exact plain hc
          | true =>
            rw [hno] at hc
            simp only [Option.bind_eq_some_iff] at hc
            obtain ⟨out, hout, hc⟩ := hc
            cases out with
            | panic v h' => cases hc
            | ret r =>
              simp only [Option.map_eq_some_iff] at hc
              obtain ⟨u, hu, rfl⟩ := hc
              have ha' := ha.move (X := X) (X' := X.bare) rfl (fun b hb => bare_still hb) hno
              have hcall := body_sim ih1 hDn hfn htr (bare_rel hg hR) ha' (out := .ret r) hout
              refine hcall.mono ?_
              rintro e w' ⟨X1, v', rfl, q2, q3, q4, q5, rfl⟩
              -- back in the caller's eyes
              have hblk : ∀ b, b < X.w.heap.size → X1.w.heap[b]? = X.w.heap[b]? ∧ ¬ X1.Own b := fun b hb => q4.other b hb (fun ⟨id, o, ho, _⟩ => by cases ho)
              have hE2 : Ext X { X with w := X1.w } := ⟨rfl, Nat.le_refl _, q4.size, fun b hb hno => ⟨(hblk b hb).1, hno⟩, fun _ o' _ h => ⟨o', h, Nat.le_refl _, fun _ => rfl⟩⟩
              have hR2 : Rel B w0 E { X with w := X1.w } := {
                below := q3.below
                base := q3.base
                lt := hR.lt
                obj := fun id o ho => (hR.obj id o ho).ext hE2 (hblk _ (hR.obj id o ho).lt).1
                inj := hR.inj
                fresh := hR.fresh
                Flt := fun b hb => Nat.lt_of_lt_of_le (hR.Flt b hb) q4.size
                glob := fun g cs h => (hR.glob g cs h).ext hE2
                start := hR.start }
              have hF1 : ∀ b, X1.F b ↔ (X.F b ∨ X.Own b) := fun b => by rw [q4.F]; rfl
              have hT : Thawed B w0 E X1 { X with w := X1.w } := {
                w := rfl
                still := fun b hb => ⟨hb.1, fun hF => hb.2.1 ((hF1 b).2 (.inl hF)), fun hO => hb.2.1 ((hF1 b).2 (.inr hO))⟩
                own := fun b ⟨id, o, ho, he⟩ => by
                  have hf := (q3.fresh id o ho).2
                  rw [he] at hf
                  have hlt := (q3.obj id o ho).lt
                  rw [he] at hlt
                  exact ⟨hlt, fun hF => hf ((hF1 b).2 (.inl hF)), fun hO => hf ((hF1 b).2 (.inr hO))⟩
                rel := q3 }
              rw [← q2] at hu
              exact ⟨{ X with w := X1.w }, v', rfl, hX, hR2, hE2, freeze_rel hT n hu q5, rfl⟩
    · intro f args h v h1 hc
      simp only [Env.call] at hc
      cases hp : E.prim f with
      | some p =>
        rw [hp] at hc
        simp only [Option.map_eq_some_iff, COut.ret.injEq, OpRes.mk.injEq, reduceCtorEq, and_false, exists_false] at hc
      | none =>
        rw [hp] at hc
        simp only [Option.bind_eq_some_iff] at hc
        obtain ⟨af, haf, hc⟩ := hc
        cases hpu : E.pure_ f with
        | false =>
          rw [hpu] at hc
          rcases hbody _ _ _ _ _ hc with ⟨r, e, hw⟩ | ⟨_, _, e⟩
          · cases e; cases hw
          · cases e
        | true =>
          rw [hpu] at hc
          cases hno : AV.noRefs args with
          | false =>
            rw [hno] at hc
            rcases hbody _ _ _ _ _ hc with ⟨r, e, hw⟩ | ⟨_, _, e⟩
            · cases e; cases hw
            · cases e
          | true =>
            rw [hno] at hc
            simp only [Option.bind_eq_some_iff] at hc
            obtain ⟨out, hout, hc⟩ := hc
            cases out with
            | panic v h' => cases hc
            | ret r =>
              simp only [Option.map_eq_some_iff, COut.ret.injEq, OpRes.mk.injEq, and_true] at hc
              obtain ⟨u, hu, rfl, rfl⟩ := hc
              refine ⟨rfl, fun h2 => ?_⟩
              simp only [Env.call, hp, haf, Option.bind_some, hpu, hno, hout, hu, Option.map_some]
    · intro f args h v h1 hc
      simp only [Env.call] at hc
      cases hp : E.prim f with
      | some p =>
        rw [hp] at hc
        simp only [Option.map_eq_some_iff, COut.ret.injEq, OpRes.mk.injEq, reduceCtorEq, and_false, exists_false] at hc
      | none =>
        rw [hp] at hc
        simp only [Option.bind_eq_some_iff] at hc
        obtain ⟨af, haf, hc⟩ := hc
        have nb : ∀ m h, E.body (E.call n) m af args h ≠ some (.ret ⟨v, h1, .read⟩) := by
          intro m h hb
          rcases hbody _ _ _ _ _ hb with ⟨r, e, hw⟩ | ⟨_, _, e⟩
          · cases e; cases hw
          · cases e
        cases hpu : E.pure_ f with
        | false => rw [hpu] at hc; exact nb _ _ hc
        | true =>
          rw [hpu] at hc
          cases hno : AV.noRefs args with
          | false => rw [hno] at hc; exact nb _ _ hc
          | true =>
            rw [hno] at hc
            simp only [Option.bind_eq_some_iff] at hc
            obtain ⟨out, hout, hc⟩ := hc
            cases out with
            | panic v h' => cases hc
            | ret r => simp only [Option.map_eq_some_iff, COut.ret.injEq, OpRes.mk.injEq, reduceCtorEq, and_false, exists_false] at hc
end
end Go.AM
