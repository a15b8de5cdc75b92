/-
  THE ABSTRACT MACHINE: regions that draw their order: only the classes are kept along the walk (the whole log makes long regions slow).
-/
import Derived.Test.YtaielgjmhbjfhaaGreatDoorAmCls
set_option linter.unusedVariables false
set_option linter.unusedSimpArgs false
namespace Go.AM

section
variable (E : Env)
def wpk : List AOper → St → (St → List Cls → Prop) → Prop
  | [], s, Q => Q s []
  | o :: l, s, Q =>
    match o.guard with
    | none => wp1 E o.op o.dst s (fun s' c => wpk l s' (fun s2 cs => Q s2 (c :: cs))) noQ
    | some (t, w) => ∃ b, gval w (s.σ.get t) = .bool b ∧ (if b = w then wp1 E o.op o.dst s (fun s' c => wpk l s' (fun s2 cs => Q s2 (c :: cs))) noQ
        else wpk l (s.put o.dst .undef s.h) (fun s2 cs => Q s2 (.none :: cs)))
end

theorem wp1_mono {E : Env} {op : AOp} {d : Option Nat} {s : St} {K K' : St → Cls → Prop} {Q : AExit → St → Prop} (h : wp1 E op d s K Q) (hk : ∀ s c, K s c → K' s c) : wp1 E op d s K' Q := by
  cases op
  case call f args =>
    obtain ⟨vs, h1, h2⟩ := h
    refine ⟨vs, h1, h2.mono fun o => ?_⟩
    cases o with
    | ret r => exact hk _ _
    | panic v h => exact fun x => x
  case callv f args =>
    obtain ⟨g, a, b, vs, h1, h2, h3⟩ := h
    refine ⟨g, a, b, vs, h1, h2, h3.mono fun o => ?_⟩
    cases o with
    | ret r => exact hk _ _
    | panic v h => exact fun x => x
  case panic x => exact h
  all_goals (obtain ⟨r, h1, h2⟩ := h; exact ⟨r, h1, hk _ _ h2⟩)

theorem wpk_wpl {E : Env} : ∀ (l : List AOper) (s : St) (Q : St → List Cls → Prop), wpk E l s Q → wpl E l s (fun s' log => Q s' (log.map fun y => y.2.2))
  | [], s, Q, h => h
  | ⟨d, op, none⟩ :: l, s, Q, h => by
    have h : wp1 E op d s (fun s' c => wpk E l s' (fun s2 cs => Q s2 (c :: cs))) noQ := h
    exact wp1_mono (K' := fun s' c => wpl E l s' (fun s2 log => Q s2 (((⟨d, op, none⟩, s, c) :: log).map fun (y : AOper × St × Cls) => y.2.2))) h fun s' c x => wpk_wpl l s' _ x
  | ⟨d, op, some (t, w)⟩ :: l, s, Q, h => by
    obtain ⟨b, hb, h⟩ := h
    refine ⟨b, hb, ?_⟩
    by_cases he : b = w
    · rw [if_pos he] at h ⊢
      exact wp1_mono (K' := fun s' c => wpl E l s' (fun s2 log => Q s2 (((⟨d, op, some (t, w)⟩, s, c) :: log).map fun (y : AOper × St × Cls) => y.2.2))) h fun s' c x => wpk_wpl l s' _ x
    · rw [if_neg he] at h ⊢
      exact wpk_wpl l _ _ h

def logC (c : Cls) (Q : St → List Cls → Prop) : St → List Cls → Prop := fun s2 cs => Q s2 (c :: cs)
def clsK (E : Env) (l : List AOper) (Q : St → List Cls → Prop) : St → Cls → Prop := fun s' c => wpk E l s' (logC c Q)
def guardC (E : Env) (op : AOp) (d : Option Nat) (l : List AOper) (s : St) (Q : St → List Cls → Prop) (w : Bool) : Bool → Prop := fun b =>
  if b = w then wp1 E op d s (clsK E l Q) noQ else wpk E l (s.put d .undef s.h) (logC .none Q)
def drawC (b : List Nat) (Q : AExit → St → Prop) : St → List Cls → Prop := fun s' cs => clsDraw 0 cs b = true ∧ Q .norm s'

section
variable {E : Env} {s : St} {l : List AOper} {d : Option Nat} {op : AOp} {Q : St → List Cls → Prop}
theorem wpk_nil : wpk E [] s Q = Q s [] := rfl
theorem wpk_none : wpk E (⟨d, op, none⟩ :: l) s Q = wp1 E op d s (clsK E l Q) noQ := rfl
theorem wpk_some {t : Nat} {w : Bool} : wpk E (⟨d, op, some (t, w)⟩ :: l) s Q = ∃ b, gval w (s.σ.get t) = .bool b ∧ guardC E op d l s Q w b := rfl
theorem clsK_apply {s' : St} {c : Cls} : clsK E l Q s' c = wpk E l s' (logC c Q) := rfl
theorem logC_apply {c : Cls} {s' : St} {cs : List Cls} : logC c Q s' cs = Q s' (c :: cs) := rfl
theorem guardC_tt : guardC E op d l s Q true true = wp1 E op d s (clsK E l Q) noQ := rfl
theorem guardC_ff : guardC E op d l s Q false false = wp1 E op d s (clsK E l Q) noQ := rfl
theorem guardC_tf : guardC E op d l s Q true false = wpk E l (s.put d .undef s.h) (logC .none Q) := rfl
theorem guardC_ft : guardC E op d l s Q false true = wpk E l (s.put d .undef s.h) (logC .none Q) := rfl
theorem drawC_apply {b : List Nat} {Q : AExit → St → Prop} {cs : List Cls} : drawC b Q s cs = (clsDraw 0 cs b = true ∧ Q .norm s) := rfl
end

section
variable {E : Env} {s : St} {l : List AOper} {d : Option Nat} {op : AOp} {t : Nat}
/-! guarded operations, without a binder (under one the walk doubles with each guard) -/
theorem wpk_tt {Q : St → List Cls → Prop} (h : s.σ.get t = .bool true) : wpk E (⟨d, op, some (t, true)⟩ :: l) s Q = wp1 E op d s (clsK E l Q) noQ := by
  rw [wpk_some, h, gval_bool]; exact propext ⟨fun ⟨b, e, x⟩ => by cases e; exact x, fun x => ⟨true, rfl, x⟩⟩
theorem wpk_ff {Q : St → List Cls → Prop} (h : s.σ.get t = .bool false) : wpk E (⟨d, op, some (t, false)⟩ :: l) s Q = wp1 E op d s (clsK E l Q) noQ := by
  rw [wpk_some, h, gval_bool]; exact propext ⟨fun ⟨b, e, x⟩ => by cases e; exact x, fun x => ⟨false, rfl, x⟩⟩
theorem wpk_tf {Q : St → List Cls → Prop} (h : s.σ.get t = .bool false) : wpk E (⟨d, op, some (t, true)⟩ :: l) s Q = wpk E l (s.put d .undef s.h) (logC .none Q) := by
  rw [wpk_some, h, gval_bool]; exact propext ⟨fun ⟨b, e, x⟩ => by cases e; exact x, fun x => ⟨false, rfl, x⟩⟩
theorem wpk_ft {Q : St → List Cls → Prop} (h : s.σ.get t = .bool true) : wpk E (⟨d, op, some (t, false)⟩ :: l) s Q = wpk E l (s.put d .undef s.h) (logC .none Q) := by
  rw [wpk_some, h, gval_bool]; exact propext ⟨fun ⟨b, e, x⟩ => by cases e; exact x, fun x => ⟨true, rfl, x⟩⟩
theorem wpo_tt {Q : AExit → St → Prop} (h : s.σ.get t = .bool true) : wpo E (⟨d, op, some (t, true)⟩ :: l) s Q = wp1 E op d s (opsK E l Q) Q := by
  rw [wpo_some, h, gval_bool]; exact propext ⟨fun ⟨b, e, x⟩ => by cases e; exact x, fun x => ⟨true, rfl, x⟩⟩
theorem wpo_ff {Q : AExit → St → Prop} (h : s.σ.get t = .bool false) : wpo E (⟨d, op, some (t, false)⟩ :: l) s Q = wp1 E op d s (opsK E l Q) Q := by
  rw [wpo_some, h, gval_bool]; exact propext ⟨fun ⟨b, e, x⟩ => by cases e; exact x, fun x => ⟨false, rfl, x⟩⟩
theorem wpo_tf {Q : AExit → St → Prop} (h : s.σ.get t = .bool false) : wpo E (⟨d, op, some (t, true)⟩ :: l) s Q = wpo E l (s.put d .undef s.h) Q := by
  rw [wpo_some, h, gval_bool]; exact propext ⟨fun ⟨b, e, x⟩ => by cases e; exact x, fun x => ⟨false, rfl, x⟩⟩
theorem wpo_ft {Q : AExit → St → Prop} (h : s.σ.get t = .bool true) : wpo E (⟨d, op, some (t, false)⟩ :: l) s Q = wpo E l (s.put d .undef s.h) Q := by
  rw [wpo_some, h, gval_bool]; exact propext ⟨fun ⟨b, e, x⟩ => by cases e; exact x, fun x => ⟨true, rfl, x⟩⟩
end

section
variable {E : Env} {s : St} {l : List AOper} {d : Option Nat} {op : AOp} {t : Nat} {w : Bool}
/-! an operation whose guard was itself passed over is passed over -/
theorem wpk_u {Q : St → List Cls → Prop} (h : s.σ.get t = .undef) : wpk E (⟨d, op, some (t, w)⟩ :: l) s Q = wpk E l (s.put d .undef s.h) (logC .none Q) := by
  rw [wpk_some, h]; cases w <;> exact propext ⟨fun ⟨b, e, x⟩ => by cases e; exact x, fun x => ⟨_, rfl, x⟩⟩
theorem wpo_u {Q : AExit → St → Prop} (h : s.σ.get t = .undef) : wpo E (⟨d, op, some (t, w)⟩ :: l) s Q = wpo E l (s.put d .undef s.h) Q := by
  rw [wpo_some, h]; cases w <;> exact propext ⟨fun ⟨b, e, x⟩ => by cases e; exact x, fun x => ⟨_, rfl, x⟩⟩
end

/-- a class that stands there as such: the walk goes on only where the step before it is known (under a binder it would be walked again and again) -/
def IsC (c : Cls) : Prop := True
theorem isC (c : Cls) : IsC c = True := id rfl
theorem isC_none : IsC .none = True := id rfl
theorem isC_read : IsC .read = True := id rfl
theorem isC_write : IsC .write = True := id rfl
theorem opsK_c {E : Env} {l : List AOper} {Q : AExit → St → Prop} {s : St} {c : Cls} (h : IsC c) : opsK E l Q s c = wpo E l s Q := id rfl
theorem logK_c {E : Env} {o : AOper} {l : List AOper} {s s' : St} {Q : St → List (AOper × St × Cls) → Prop} {c : Cls} (h : IsC c) : logK E o l s Q s' c = wpl E l s' (logQ o s c Q) := id rfl
theorem clsK_c {E : Env} {l : List AOper} {Q : St → List Cls → Prop} {s' : St} {c : Cls} (h : IsC c) : clsK E l Q s' c = wpk E l s' (logC c Q) := id rfl

/-- a region whose classes alone show that every order comes to the same -/
theorem wpc_draw_k {E : Env} {l : List AOper} {bf : List Nat} {s : St} {Q : AExit → St → Prop} (h : wpk E l s (drawC bf Q)) : wpc E (.draw l bf) s Q := by
  have x := wpk_wpl l s _ h
  have e : (fun (s' : St) (log : List (AOper × St × Cls)) => drawC bf Q s' (log.map fun y => y.2.2)) = (fun s' log => clsDraw 0 (log.map fun y => y.2.2) bf = true ∧ Q .norm s') := rfl
  rw [e] at x
  have mono : ∀ (l : List AOper) (s : St) (P R : St → List (AOper × St × Cls) → Prop), (∀ s log, P s log → R s log) → wpl E l s P → wpl E l s R := by
    intro l
    induction l with
    | nil => intro s P R hr h; exact hr _ _ h
    | cons o l ih =>
      obtain ⟨d, op, g⟩ := o
      intro s P R hr h
      cases g with
      | none =>
        have h : wp1 E op d s (fun s' c => wpl E l s' (fun s2 log => P s2 ((⟨d, op, none⟩, s, c) :: log))) noQ := h
        exact wp1_mono (K' := fun s' c => wpl E l s' (fun s2 log => R s2 ((⟨d, op, none⟩, s, c) :: log))) h fun s' c x => ih s' _ _ (fun s2 log y => hr _ _ y) x
      | some g =>
        obtain ⟨t, w⟩ := g
        obtain ⟨b, hb, h⟩ := h
        refine ⟨b, hb, ?_⟩
        by_cases he : b = w
        · rw [if_pos he] at h ⊢
          exact wp1_mono (K' := fun s' c => wpl E l s' (fun s2 log => R s2 ((⟨d, op, some (t, w)⟩, s, c) :: log))) h fun s' c x => ih s' _ _ (fun s2 log y => hr _ _ y) x
        · rw [if_neg he] at h ⊢
          exact ih _ _ _ (fun s2 log y => hr _ _ y) h
  exact mono l s _ _ (fun s' log h => ⟨draw_of_cls h.1, h.2⟩) x
theorem wpk_mono {E : Env} : ∀ (l : List AOper) (s : St) (P R : St → List Cls → Prop), (∀ s cs, P s cs → R s cs) → wpk E l s P → wpk E l s R
  | [], s, P, R, hr, h => hr _ _ h
  | ⟨d, op, none⟩ :: l, s, P, R, hr, h => by
    have h : wp1 E op d s (fun s' c => wpk E l s' (fun s2 cs => P s2 (c :: cs))) noQ := h
    exact wp1_mono (K' := fun s' c => wpk E l s' (fun s2 cs => R s2 (c :: cs))) h fun s' c x => wpk_mono l s' _ _ (fun s2 cs y => hr _ _ y) x
  | ⟨d, op, some (t, w)⟩ :: l, s, P, R, hr, h => by
    obtain ⟨b, hb, h⟩ := h
    refine ⟨b, hb, ?_⟩
    by_cases he : b = w
    · rw [if_pos he] at h ⊢
      exact wp1_mono (K' := fun s' c => wpk E l s' (fun s2 cs => R s2 (c :: cs))) h fun s' c x => wpk_mono l s' _ _ (fun s2 cs y => hr _ _ y) x
    · rw [if_neg he] at h ⊢
      exact wpk_mono l _ _ _ (fun s2 cs y => hr _ _ y) h
/-- a long region in two pieces -/
theorem wpk_append {E : Env} {l2 : List AOper} : ∀ (l1 : List AOper) (s : St) (Q : St → List Cls → Prop), wpk E l1 s (fun s' cs => wpk E l2 s' (fun s2 cs2 => Q s2 (cs ++ cs2))) → wpk E (l1 ++ l2) s Q
  | [], s, Q, h => h
  | ⟨d, op, none⟩ :: l, s, Q, h => by
    have h : wp1 E op d s (fun s' c => wpk E l s' (fun s1 cs => wpk E l2 s1 (fun s2 cs2 => Q s2 ((c :: cs) ++ cs2)))) noQ := h
    exact wp1_mono (K' := fun s' c => wpk E (l ++ l2) s' (fun s2 cs => Q s2 (c :: cs))) h fun s' c x => wpk_append l s' _ x
  | ⟨d, op, some (t, w)⟩ :: l, s, Q, h => by
    obtain ⟨b, hb, h⟩ := h
    refine ⟨b, hb, ?_⟩
    by_cases he : b = w
    · rw [if_pos he] at h ⊢
      exact wp1_mono (K' := fun s' c => wpk E (l ++ l2) s' (fun s2 cs => Q s2 (c :: cs))) h fun s' c x => wpk_append l s' _ x
    · rw [if_neg he] at h ⊢
      exact wpk_append l _ _ h
end Go.AM
