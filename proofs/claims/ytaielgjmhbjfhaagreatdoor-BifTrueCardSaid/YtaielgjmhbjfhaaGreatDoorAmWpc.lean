/-
  THE ABSTRACT MACHINE: what a piece of code comes to, as a calculus that is unfolded: 'wpc'.
-/
import Derived.Test.YtaielgjmhbjfhaaGreatDoorAmWp
set_option linter.unusedSimpArgs false
set_option linter.unusedVariables false
namespace Go.AM

/-- what a guard comes to: of an operation that was itself passed over: passed over -/
def gval (w : Bool) : AV → AV
  | .undef => .bool (!w)
  | v => v
@[simp] theorem gval_bool {w b : Bool} : gval w (.bool b) = .bool b := id rfl

section
variable (E : Env)

/-- one operation, without its guard -/
def wp1 (op : AOp) (d : Option Nat) (s : St) (K : St → Cls → Prop) (Q : AExit → St → Prop) : Prop :=
  match op with
  | .call f args => ∃ vs, E.opds s.σ args = some vs ∧ WC E f vs s.h (fun o => match o with | .ret r => K (s.put d r.v r.h) r.c | .panic v h => Q (.panic v) ⟨s.σ, h⟩)
  | .callv f args => ∃ g first cap vs, E.opd s.σ f = some (.fn (.func g) first cap) ∧ E.opds s.σ args = some vs ∧ WC E g (first ++ vs ++ cap) s.h (fun o => match o with | .ret r => K (s.put d r.v r.h) r.c | .panic v h => Q (.panic v) ⟨s.σ, h⟩)
  | .panic x => ∃ t v, E.opd s.σ x = some (.ifc t v) ∧ Q (.panic (.ifc t v)) s
  | op => ∃ r, E.op s.σ s.h op = some r ∧ K (s.put d r.v r.h) r.c

def wpo : List AOper → St → (AExit → St → Prop) → Prop
  | [], s, Q => Q .norm s
  | o :: l, s, Q =>
    match o.guard with
    | none => wp1 E o.op o.dst s (fun s' _ => wpo l s' Q) Q
    | some (t, w) => ∃ b, gval w (s.σ.get t) = .bool b ∧ (if b = w then wp1 E o.op o.dst s (fun s' _ => wpo l s' Q) Q else wpo l (s.put o.dst .undef s.h) Q)

def wpl : List AOper → St → (St → List (AOper × St × Cls) → Prop) → Prop
  | [], s, Q => Q s []
  | o :: l, s, Q =>
    match o.guard with
    | none => wp1 E o.op o.dst s (fun s' c => wpl l s' (fun s2 log => Q s2 ((o, s, c) :: log))) (fun _ _ => False)
    | some (t, w) => ∃ b, gval w (s.σ.get t) = .bool b ∧ (if b = w then wp1 E o.op o.dst s (fun s' c => wpl l s' (fun s2 log => Q s2 ((o, s, c) :: log))) (fun _ _ => False)
        else wpl l (s.put o.dst .undef s.h) (fun s2 log => Q s2 ((o, s, .none) :: log)))

def wpc : AC → St → (AExit → St → Prop) → Prop
  | .skip, s, Q => Q .norm s
  | .ops l, s, Q => wpo E l s Q
  | .draw l b, s, Q => wpl E l s (fun s' log => E.drawOk (s'.h :: log.map (fun x => x.2.1.h)) 0 log b = true ∧ Q .norm s')
  | .seq a b, s, Q => wpc a s (fun e s' => match e with | .norm => wpc b s' Q | e => Q e s')
  | .cond c x y, s, Q => ∃ b, E.opd s.σ c = some (.bool b) ∧ (if b = true then wpc x s Q else wpc y s Q)
  | .block id b, s, Q => wpc b s (fun e s' => match e with | .exit id' => if id' = id then Q .norm s' else Q (.exit id') s' | e => Q e s')
  | .loop b, s, Q => WPr E b s Q
  | .exit id, s, Q => Q (.exit id) s
  | .scope b, s, Q => wpc b s Q
  | .ret, s, Q => Q .ret s
  | .bad, _, _ => False
end

section
variable {E : Env}

theorem wp1_one {op : AOp} {d : Option Nat} {s : St} {K : St → Cls → Prop} {Q : AExit → St → Prop} (h : wp1 E op d s K Q) :
    (∃ s' c, (∃ n, ∀ m, n ≤ m → E.one (E.call m) ⟨d, op, none⟩ s = some (s', c, none)) ∧ K s' c) ∨
    (∃ v h', (∃ n, ∀ m, n ≤ m → E.one (E.call m) ⟨d, op, none⟩ s = some (⟨s.σ, h'⟩, .write, some v)) ∧ Q (.panic v) ⟨s.σ, h'⟩) := by
  have plain : op.calls = false → (∃ r, E.op s.σ s.h op = some r ∧ K (s.put d r.v r.h) r.c) → (∃ s' c, (∃ n, ∀ m, n ≤ m → E.one (E.call m) ⟨d, op, none⟩ s = some (s', c, none)) ∧ K s' c) := by
    rintro hp ⟨r, hr, hk⟩
    exact ⟨_, _, ⟨0, fun m _ => by simp [Env.one, AOper.wanted, act_plain hp, hr]⟩, hk⟩
  cases op
  case call f args =>
    obtain ⟨vs, hvs, o, ⟨n, hn⟩, hq⟩ := h
    cases o with
    | ret r => exact .inl ⟨_, _, ⟨n, fun m hm => by simp [Env.one, AOper.wanted, Env.act, hvs, hn m hm]⟩, hq⟩
    | panic v h' => exact .inr ⟨v, h', ⟨n, fun m hm => by simp [Env.one, AOper.wanted, Env.act, hvs, hn m hm]⟩, hq⟩
  case callv f args =>
    obtain ⟨g, a, b, vs, hf, hvs, o, ⟨n, hn⟩, hq⟩ := h
    have hn' : ∀ m, n ≤ m → E.call m g (a ++ (vs ++ b)) s.h = some o := fun m hm => by rw [← List.append_assoc]; exact hn m hm
    cases o with
    | ret r => exact .inl ⟨_, _, ⟨n, fun m hm => by simp [Env.one, AOper.wanted, Env.act, hvs, hf, hn' m hm]⟩, hq⟩
    | panic v h' => exact .inr ⟨v, h', ⟨n, fun m hm => by simp [Env.one, AOper.wanted, Env.act, hvs, hf, hn' m hm]⟩, hq⟩
  case panic x =>
    obtain ⟨t, v, hx, hq⟩ := h
    exact .inr ⟨_, s.h, ⟨0, fun m hm => by simp [Env.one, AOper.wanted, Env.act, hx]⟩, hq⟩
  all_goals exact .inl (plain rfl h)

theorem one_guard_on {d : Option Nat} {op : AOp} {t : Nat} {w : Bool} {s : St} (hb : s.σ.get t = .bool w) (C : CallF) : E.one C ⟨d, op, some (t, w)⟩ s = E.one C ⟨d, op, none⟩ s := by
  simp only [Env.one, AOper.wanted, hb, beq_self_eq_true]
theorem one_guard_off {d : Option Nat} {op : AOp} {t : Nat} {w b : Bool} {s : St} (hb : s.σ.get t = .bool b) (he : ¬ b = w) (C : CallF) : E.one C ⟨d, op, some (t, w)⟩ s = some (s.put d .undef s.h, .none, none) := by
  have hbw : (b == w) = false := by simp [he]
  simp only [Env.one, AOper.wanted, hb, hbw]

theorem gval_on {w : Bool} {v : AV} (h : gval w v = .bool w) : v = .bool w := by
  unfold gval at h
  split at h
  · cases w <;> cases h
  · exact h
theorem one_guard_off' {d : Option Nat} {op : AOp} {t : Nat} {w b : Bool} {s : St} (hb : gval w (s.σ.get t) = .bool b) (he : ¬ b = w) (C : CallF) : E.one C ⟨d, op, some (t, w)⟩ s = some (s.put d .undef s.h, .none, none) := by
  by_cases hu : s.σ.get t = .undef
  · have hw : AOper.wanted ⟨d, op, some (t, w)⟩ s.σ = false := by simp only [AOper.wanted, hu]; rfl
    simp only [Env.one, hw]
  · have : s.σ.get t = .bool b := by
      unfold gval at hb
      split at hb
      · rename_i hv; exact absurd hv hu
      · exact hb
    exact one_guard_off this he C

theorem wpo_panic {o : AOper} {l : List AOper} {s s1 : St} {c : Cls} {v : AV} {Q : AExit → St → Prop} (h : ∃ n, ∀ m, n ≤ m → E.one (E.call m) o s = some (s1, c, some v)) (hq : Q (.panic v) s1) : WPo E (o :: l) s Q := by
  obtain ⟨n, hn⟩ := h
  exact ⟨_, _, ⟨n, fun m hm => by simp [Env.ops, hn m hm]⟩, hq⟩

theorem wpo_sound : ∀ (l : List AOper) (s : St) (Q : AExit → St → Prop), wpo E l s Q → WPo E l s Q
  | [], s, Q, h => ⟨_, _, ⟨0, fun m _ => rfl⟩, h⟩
  | ⟨d, op, none⟩ :: l, s, Q, h => by
    have h : wp1 E op d s (fun s' _ => wpo E l s' Q) Q := h
    rcases wp1_one h with ⟨s', c, h1, h2⟩ | ⟨v, h', h1, h2⟩
    · exact wpo_cons h1 (wpo_sound l s' Q h2)
    · exact wpo_panic h1 h2
  | ⟨d, op, some (t, w)⟩ :: l, s, Q, h => by
    obtain ⟨b, hb, h⟩ := h
    by_cases he : b = w
    · subst he
      rw [if_pos rfl] at h
      have h : wp1 E op d s (fun s' _ => wpo E l s' Q) Q := h
      rcases wp1_one h with ⟨s', c, ⟨n, h1⟩, h2⟩ | ⟨v, h', ⟨n, h1⟩, h2⟩
      · exact wpo_cons ⟨n, fun m hm => by rw [one_guard_on (gval_on hb)]; exact h1 m hm⟩ (wpo_sound l s' Q h2)
      · exact wpo_panic ⟨n, fun m hm => by rw [one_guard_on (gval_on hb)]; exact h1 m hm⟩ h2
    · rw [if_neg he] at h
      exact wpo_cons ⟨0, fun m _ => one_guard_off' hb he _⟩ (wpo_sound l _ Q h)

theorem wpl_sound : ∀ (l : List AOper) (s : St) (Q : St → List (AOper × St × Cls) → Prop), wpl E l s Q → WPl E l s Q
  | [], s, Q, h => wpl_nil h
  | ⟨d, op, none⟩ :: l, s, Q, h => by
    have h : wp1 E op d s (fun s' c => wpl E l s' (fun s2 log => Q s2 ((⟨d, op, none⟩, s, c) :: log))) (fun _ _ => False) := h
    rcases wp1_one h with ⟨s', c, h1, h2⟩ | ⟨v, h', h1, h2⟩
    · exact wpl_cons h1 (wpl_sound l s' _ h2)
    · exact h2.elim
  | ⟨d, op, some (t, w)⟩ :: l, s, Q, h => by
    obtain ⟨b, hb, h⟩ := h
    by_cases he : b = w
    · subst he
      rw [if_pos rfl] at h
      have h : wp1 E op d s (fun s' c => wpl E l s' (fun s2 log => Q s2 ((⟨d, op, some (t, b)⟩, s, c) :: log))) (fun _ _ => False) := h
      rcases wp1_one h with ⟨s', c, ⟨n, h1⟩, h2⟩ | ⟨v, h', ⟨n, h1⟩, h2⟩
      · exact wpl_cons ⟨n, fun m hm => by rw [one_guard_on (gval_on hb)]; exact h1 m hm⟩ (wpl_sound l s' _ h2)
      · exact h2.elim
    · rw [if_neg he] at h
      exact wpl_cons ⟨0, fun m _ => one_guard_off' hb he _⟩ (wpl_sound l _ _ h)

theorem wpc_sound : ∀ (c : AC) (s : St) (Q : AExit → St → Prop), wpc E c s Q → WP E c s Q
  | .skip, s, Q, h => wp_skip h
  | .ops l, s, Q, h => wp_ops (wpo_sound l s Q h)
  | .draw l b, s, Q, h => wp_draw (wpl_sound l s _ h)
  | .seq a b, s, Q, h => by
    refine wp_seq ((wpc_sound a s _ h).mono fun e s' hq => ?_)
    cases e with
    | norm => exact wpc_sound b s' Q hq
    | _ => exact hq
  | .cond c x y, s, Q, h => by
    obtain ⟨b, hb, h⟩ := h
    refine wp_cond hb (fun e => ?_) (fun e => ?_)
    · subst e; exact wpc_sound x s Q h
    · subst e; exact wpc_sound y s Q h
  | .block id b, s, Q, h => by
    refine wp_block ((wpc_sound b s _ h).mono fun e s' hq => ?_)
    cases e <;> exact hq
  | .loop b, s, Q, h => wp_loop h
  | .exit id, s, Q, h => wp_exit h
  | .scope b, s, Q, h => wp_scope (wpc_sound b s Q h)
  | .ret, s, Q, h => wp_ret h
  | .bad, s, Q, h => h.elim

/-! ### the calculus' words, folded: what is behind is not looked at ahead of time -/
def seqQ (E : Env) (b : AC) (Q : AExit → St → Prop) : AExit → St → Prop := fun e s' => match e with | .norm => wpc E b s' Q | e => Q e s'
def opsK (E : Env) (l : List AOper) (Q : AExit → St → Prop) : St → Cls → Prop := fun s' _ => wpo E l s' Q
def condK (E : Env) (x y : AC) (s : St) (Q : AExit → St → Prop) : Bool → Prop := fun b => if b = true then wpc E x s Q else wpc E y s Q
def guardK (E : Env) (op : AOp) (d : Option Nat) (l : List AOper) (s : St) (Q : AExit → St → Prop) (w : Bool) : Bool → Prop := fun b =>
  if b = w then wp1 E op d s (opsK E l Q) Q else wpo E l (s.put d .undef s.h) Q
def callK (s : St) (d : Option Nat) (K : St → Cls → Prop) (Q : AExit → St → Prop) : COut → Prop := fun o => match o with | .ret r => K (s.put d r.v r.h) r.c | .panic v h => Q (.panic v) ⟨s.σ, h⟩
def logQ (o : AOper) (s : St) (c : Cls) (Q : St → List (AOper × St × Cls) → Prop) : St → List (AOper × St × Cls) → Prop := fun s2 log => Q s2 ((o, s, c) :: log)
def logK (E : Env) (o : AOper) (l : List AOper) (s : St) (Q : St → List (AOper × St × Cls) → Prop) : St → Cls → Prop := fun s' c => wpl E l s' (logQ o s c Q)
def noQ : AExit → St → Prop := fun _ _ => False
def guardL (E : Env) (o : AOper) (l : List AOper) (s : St) (Q : St → List (AOper × St × Cls) → Prop) (w : Bool) : Bool → Prop := fun b =>
  if b = w then wp1 E o.op o.dst s (logK E o l s Q) noQ else wpl E l (s.put o.dst .undef s.h) (logQ o s .none Q)
def drawQ (E : Env) (b : List Nat) (Q : AExit → St → Prop) : St → List (AOper × St × Cls) → Prop := fun s' log => E.drawOk (s'.h :: log.map (fun x => x.2.1.h)) 0 log b = true ∧ Q .norm s'
def blockQ' (id : Nat) (Q : AExit → St → Prop) : AExit → St → Prop := fun e s' => match e with | .exit id' => if id' = id then Q .norm s' else Q (.exit id') s' | e => Q e s'

section
variable {a b x y : AC} {s : St} {Q : AExit → St → Prop} {id : Nat} {l : List AOper} {d : Option Nat} {op : AOp} {K : St → Cls → Prop}
@[simp] theorem wpc_skip : wpc E .skip s Q = Q .norm s := rfl
@[simp] theorem wpc_ops : wpc E (.ops l) s Q = wpo E l s Q := rfl
@[simp] theorem wpc_draw {bf : List Nat} : wpc E (.draw l bf) s Q = wpl E l s (drawQ E bf Q) := rfl
@[simp] theorem wpc_seq : wpc E (.seq a b) s Q = wpc E a s (seqQ E b Q) := rfl
@[simp] theorem wpc_cond {c : Opd} : wpc E (.cond c x y) s Q = ∃ b, E.opd s.σ c = some (.bool b) ∧ condK E x y s Q b := rfl
@[simp] theorem wpc_block : wpc E (.block id b) s Q = wpc E b s (blockQ' id Q) := rfl
@[simp] theorem wpc_loop : wpc E (.loop b) s Q = WPr E b s Q := rfl
@[simp] theorem wpc_exit : wpc E (.exit id) s Q = Q (.exit id) s := rfl
@[simp] theorem wpc_scope : wpc E (.scope b) s Q = wpc E b s Q := rfl
@[simp] theorem wpc_ret : wpc E .ret s Q = Q .ret s := rfl
@[simp] theorem seqQ_norm : seqQ E b Q .norm s = wpc E b s Q := rfl
@[simp] theorem seqQ_ret : seqQ E b Q .ret s = Q .ret s := rfl
@[simp] theorem seqQ_exit : seqQ E b Q (.exit id) s = Q (.exit id) s := rfl
@[simp] theorem seqQ_panic {v : AV} : seqQ E b Q (.panic v) s = Q (.panic v) s := rfl
@[simp] theorem blockQ'_norm : blockQ' id Q .norm s = Q .norm s := rfl
@[simp] theorem blockQ'_ret : blockQ' id Q .ret s = Q .ret s := rfl
@[simp] theorem blockQ'_exit {id' : Nat} : blockQ' id Q (.exit id') s = if id' = id then Q .norm s else Q (.exit id') s := rfl
@[simp] theorem blockQ'_panic {v : AV} : blockQ' id Q (.panic v) s = Q (.panic v) s := rfl
@[simp] theorem condK_true : condK E x y s Q true = wpc E x s Q := rfl
@[simp] theorem condK_false : condK E x y s Q false = wpc E y s Q := rfl
theorem condK_split {p : Bool} (h1 : p = true → wpc E x s Q) (h2 : p = false → wpc E y s Q) : condK E x y s Q p := by
  cases p with
  | true => exact h1 rfl
  | false => exact h2 rfl
@[simp] theorem wpo_nil' : wpo E [] s Q = Q .norm s := rfl
@[simp] theorem wpo_none : wpo E (⟨d, op, none⟩ :: l) s Q = wp1 E op d s (opsK E l Q) Q := rfl
@[simp] theorem wpo_some {t : Nat} {w : Bool} : wpo E (⟨d, op, some (t, w)⟩ :: l) s Q = ∃ b, gval w (s.σ.get t) = .bool b ∧ guardK E op d l s Q w b := rfl
@[simp] theorem opsK_apply {c : Cls} : opsK E l Q s c = wpo E l s Q := rfl
@[simp] theorem guardK_tt : guardK E op d l s Q true true = wp1 E op d s (opsK E l Q) Q := rfl
@[simp] theorem guardK_ff : guardK E op d l s Q false false = wp1 E op d s (opsK E l Q) Q := rfl
@[simp] theorem guardK_tf : guardK E op d l s Q true false = wpo E l (s.put d .undef s.h) Q := rfl
@[simp] theorem guardK_ft : guardK E op d l s Q false true = wpo E l (s.put d .undef s.h) Q := rfl
@[simp] theorem wpl_nil' {Q : St → List (AOper × St × Cls) → Prop} : wpl E [] s Q = Q s [] := rfl
@[simp] theorem wpl_none {Q : St → List (AOper × St × Cls) → Prop} : wpl E (⟨d, op, none⟩ :: l) s Q = wp1 E op d s (logK E ⟨d, op, none⟩ l s Q) noQ := rfl
@[simp] theorem wpl_some {Q : St → List (AOper × St × Cls) → Prop} {t : Nat} {w : Bool} : wpl E (⟨d, op, some (t, w)⟩ :: l) s Q = ∃ b, gval w (s.σ.get t) = .bool b ∧ guardL E ⟨d, op, some (t, w)⟩ l s Q w b := rfl
@[simp] theorem logK_apply {Q : St → List (AOper × St × Cls) → Prop} {o : AOper} {s' : St} {c : Cls} : logK E o l s Q s' c = wpl E l s' (logQ o s c Q) := rfl
@[simp] theorem logQ_apply {Q : St → List (AOper × St × Cls) → Prop} {o : AOper} {s' : St} {c : Cls} {log : List (AOper × St × Cls)} : logQ o s c Q s' log = Q s' ((o, s, c) :: log) := rfl
@[simp] theorem guardL_tt {Q : St → List (AOper × St × Cls) → Prop} {o : AOper} : guardL E o l s Q true true = wp1 E o.op o.dst s (logK E o l s Q) noQ := rfl
@[simp] theorem guardL_ff {Q : St → List (AOper × St × Cls) → Prop} {o : AOper} : guardL E o l s Q false false = wp1 E o.op o.dst s (logK E o l s Q) noQ := rfl
@[simp] theorem guardL_tf {Q : St → List (AOper × St × Cls) → Prop} {o : AOper} : guardL E o l s Q true false = wpl E l (s.put o.dst .undef s.h) (logQ o s .none Q) := rfl
@[simp] theorem guardL_ft {Q : St → List (AOper × St × Cls) → Prop} {o : AOper} : guardL E o l s Q false true = wpl E l (s.put o.dst .undef s.h) (logQ o s .none Q) := rfl
@[simp] theorem drawQ_apply {bf : List Nat} {log : List (AOper × St × Cls)} : drawQ E bf Q s log = (E.drawOk (s.h :: log.map (fun x => x.2.1.h)) 0 log bf = true ∧ Q .norm s) := rfl
@[simp] theorem wp1_call {f : Nat} {args : List Opd} : wp1 E (.call f args) d s K Q = ∃ vs, E.opds s.σ args = some vs ∧ WC E f vs s.h (callK s d K Q) := rfl
@[simp] theorem callK_ret {r : OpRes} : callK s d K Q (.ret r) = K (s.put d r.v r.h) r.c := rfl
@[simp] theorem callK_panic {v : AV} {h : Heap} : callK s d K Q (.panic v h) = Q (.panic v) ⟨s.σ, h⟩ := rfl
theorem wp1_mv {x} : wp1 E (.mv x) d s K Q = ∃ r, E.op s.σ s.h (.mv x) = some r ∧ K (s.put d r.v r.h) r.c := rfl
theorem wp1_pick {c a b} : wp1 E (.pick c a b) d s K Q = ∃ r, E.op s.σ s.h (.pick c a b) = some r ∧ K (s.put d r.v r.h) r.c := rfl
theorem wp1_alloc {z} : wp1 E (.alloc z) d s K Q = ∃ r, E.op s.σ s.h (.alloc z) = some r ∧ K (s.put d r.v r.h) r.c := rfl
@[simp] theorem wp1_box {fr sz x} : wp1 E (.box fr sz x) d s K Q = ∃ r, E.op s.σ s.h (.box fr sz x) = some r ∧ K (s.put d r.v r.h) r.c := rfl
@[simp] theorem wp1_build {z ps} : wp1 E (.build z ps) d s K Q = ∃ r, E.op s.σ s.h (.build z ps) = some r ∧ K (s.put d r.v r.h) r.c := rfl
@[simp] theorem wp1_lit {fr sz n cs ps} : wp1 E (.lit fr sz n cs ps) d s K Q = ∃ r, E.op s.σ s.h (.lit fr sz n cs ps) = some r ∧ K (s.put d r.v r.h) r.c := rfl
theorem wp1_load {ag sz x} : wp1 E (.load ag sz x) d s K Q = ∃ r, E.op s.σ s.h (.load ag sz x) = some r ∧ K (s.put d r.v r.h) r.c := rfl
theorem wp1_store {sz x y} : wp1 E (.store sz x y) d s K Q = ∃ r, E.op s.σ s.h (.store sz x y) = some r ∧ K (s.put d r.v r.h) r.c := rfl
theorem wp1_nilCheck {x} : wp1 E (.nilCheck x) d s K Q = ∃ r, E.op s.σ s.h (.nilCheck x) = some r ∧ K (s.put d r.v r.h) r.c := rfl
theorem wp1_bin {o x y} : wp1 E (.bin o x y) d s K Q = ∃ r, E.op s.σ s.h (.bin o x y) = some r ∧ K (s.put d r.v r.h) r.c := rfl
theorem wp1_eq {ng e x y} : wp1 E (.eq ng e x y) d s K Q = ∃ r, E.op s.σ s.h (.eq ng e x y) = some r ∧ K (s.put d r.v r.h) r.c := rfl
theorem wp1_un {o x} : wp1 E (.un o x) d s K Q = ∃ r, E.op s.σ s.h (.un o x) = some r ∧ K (s.put d r.v r.h) r.c := rfl
theorem wp1_conv {c x} : wp1 E (.conv c x) d s K Q = ∃ r, E.op s.σ s.h (.conv c x) = some r ∧ K (s.put d r.v r.h) r.c := rfl
theorem wp1_mkIface {t x} : wp1 E (.mkIface t x) d s K Q = ∃ r, E.op s.σ s.h (.mkIface t x) = some r ∧ K (s.put d r.v r.h) r.c := rfl
@[simp] theorem wp1_mkFunc {f a b} : wp1 E (.mkFunc f a b) d s K Q = ∃ r, E.op s.σ s.h (.mkFunc f a b) = some r ∧ K (s.put d r.v r.h) r.c := rfl
@[simp] theorem wp1_makeSlice {sz by_ z a b} : wp1 E (.makeSlice sz by_ z a b) d s K Q = ∃ r, E.op s.σ s.h (.makeSlice sz by_ z a b) = some r ∧ K (s.put d r.v r.h) r.c := rfl
@[simp] theorem wp1_slice {sz x lo hi mx} : wp1 E (.slice sz x lo hi mx) d s K Q = ∃ r, E.op s.σ s.h (.slice sz x lo hi mx) = some r ∧ K (s.put d r.v r.h) r.c := rfl
@[simp] theorem wp1_sliceStr {x lo hi} : wp1 E (.sliceStr x lo hi) d s K Q = ∃ r, E.op s.σ s.h (.sliceStr x lo hi) = some r ∧ K (s.put d r.v r.h) r.c := rfl
@[simp] theorem wp1_sliceArr {sz n x lo hi mx} : wp1 E (.sliceArr sz n x lo hi mx) d s K Q = ∃ r, E.op s.σ s.h (.sliceArr sz n x lo hi mx) = some r ∧ K (s.put d r.v r.h) r.c := rfl
theorem wp1_fieldAddr {o x} : wp1 E (.fieldAddr o x) d s K Q = ∃ r, E.op s.σ s.h (.fieldAddr o x) = some r ∧ K (s.put d r.v r.h) r.c := rfl
@[simp] theorem wp1_field {ag sz o x} : wp1 E (.field ag sz o x) d s K Q = ∃ r, E.op s.σ s.h (.field ag sz o x) = some r ∧ K (s.put d r.v r.h) r.c := rfl
theorem wp1_idxAddr {sz x i} : wp1 E (.idxAddr sz x i) d s K Q = ∃ r, E.op s.σ s.h (.idxAddr sz x i) = some r ∧ K (s.put d r.v r.h) r.c := rfl
@[simp] theorem wp1_idxAddrArr {sz n x i} : wp1 E (.idxAddrArr sz n x i) d s K Q = ∃ r, E.op s.σ s.h (.idxAddrArr sz n x i) = some r ∧ K (s.put d r.v r.h) r.c := rfl
@[simp] theorem wp1_idxStr {x i} : wp1 E (.idxStr x i) d s K Q = ∃ r, E.op s.σ s.h (.idxStr x i) = some r ∧ K (s.put d r.v r.h) r.c := rfl
@[simp] theorem wp1_idxArr {ag sz n x i} : wp1 E (.idxArr ag sz n x i) d s K Q = ∃ r, E.op s.σ s.h (.idxArr ag sz n x i) = some r ∧ K (s.put d r.v r.h) r.c := rfl
theorem wp1_extract {x i} : wp1 E (.extract x i) d s K Q = ∃ r, E.op s.σ s.h (.extract x i) = some r ∧ K (s.put d r.v r.h) r.c := rfl
theorem wp1_len {b x} : wp1 E (.len b x) d s K Q = ∃ r, E.op s.σ s.h (.len b x) = some r ∧ K (s.put d r.v r.h) r.c := rfl
theorem wp1_append {sz by_ x y} : wp1 E (.append sz by_ x y) d s K Q = ∃ r, E.op s.σ s.h (.append sz by_ x y) = some r ∧ K (s.put d r.v r.h) r.c := rfl
@[simp] theorem wp1_minmax {m x y} : wp1 E (.minmax m x y) d s K Q = ∃ r, E.op s.σ s.h (.minmax m x y) = some r ∧ K (s.put d r.v r.h) r.c := rfl
end

/-! ### an operation, its operands read -/
def aLenOp (str : Bool) (h : Heap) (v : AV) : Option OpRes := match str, v with
  | true, .str s => some ⟨.int .i64 s.length, h, .none⟩
  | false, .nils => some ⟨.int .i64 0, h, .none⟩
  | false, .fs _ n _ => some ⟨.int .i64 n, h, .none⟩
  | false, .sl _ _ _ _ n _ => some ⟨.int .i64 n, h, .none⟩
  | _, _ => none
def aExtract (i : Nat) : AV → Option AV
  | .tup vs => vs[i]?
  | _ => none
def aPick (c a b : AV) : Option AV := match c with
  | .bool true => some a
  | .bool false => some b
  | _ => none

def aNil : AV → Option AV
  | .ptr a b c => some (.ptr a b c)
  | .fp cs => some (.fp cs)
  | .ifc t v => some (.ifc t v)
  | .fn (.func f) a b => some (.fn (.func f) a b)
  | _ => none
def aFieldAddr (off : Nat) : AV → Option AV
  | .ptr id gen o => some (.ptr id gen (o + off))
  | .fp cs => some (.fp (cs.drop off))
  | _ => none

/-- what an operand is -/
def Env.rd (E : Env) (σ : Slots) : Opd → AV
  | .t n => σ.get n
  | .c v => v
  | .g n => match E.glob n with | some cs => .fp cs | none => .undef
def Opd.ok : Opd → Bool
  | .g _ => false
  | _ => true
section
variable {s : St} {Q : AExit → St → Prop} {d : Option Nat} {K : St → Cls → Prop} {x y z : Opd}
@[simp] theorem rd_t {σ : Slots} {n : Nat} : E.rd σ (.t n) = σ.get n := rfl
@[simp] theorem rd_c {σ : Slots} {v : AV} : E.rd σ (.c v) = v := rfl
@[simp] theorem ok_t {n : Nat} : (Opd.t n).ok = true := id rfl
@[simp] theorem ok_c {v : AV} : (Opd.c v).ok = true := id rfl
theorem opd_rd {σ : Slots} (h : x.ok = true) : E.opd σ x = some (E.rd σ x) := by
  cases x <;> first | rfl | cases h

@[simp] theorem wp1_mv' (hx : x.ok = true) : wp1 E (.mv x) d s K Q ↔ K (s.put d (E.rd s.σ x) s.h) .none := by
  rw [wp1_mv]; simp [Env.op, opd_rd hx]
@[simp] theorem wp1_bin' {o : BinOp} (hx : x.ok = true) (hy : y.ok = true) : wp1 E (.bin o x y) d s K Q ↔ ∃ v, aBin o (E.rd s.σ x) (E.rd s.σ y) = some v ∧ K (s.put d v s.h) .none := by
  rw [wp1_bin]; simp [Env.op, opd_rd hx, opd_rd hy]
  constructor
  · rintro ⟨r, ⟨a, h1, rfl⟩, h2⟩; exact ⟨a, h1, h2⟩
  · rintro ⟨a, h1, h2⟩; exact ⟨_, ⟨a, h1, rfl⟩, h2⟩
@[simp] theorem wp1_un' {o : UnOp} (hx : x.ok = true) : wp1 E (.un o x) d s K Q ↔ ∃ v, aUn o (E.rd s.σ x) = some v ∧ K (s.put d v s.h) .none := by
  rw [wp1_un]; simp [Env.op, opd_rd hx]
  constructor
  · rintro ⟨r, ⟨a, h1, rfl⟩, h2⟩; exact ⟨a, h1, h2⟩
  · rintro ⟨a, h1, h2⟩; exact ⟨_, ⟨a, h1, rfl⟩, h2⟩
@[simp] theorem wp1_eq' {ng : Bool} {e : EqT} (hx : x.ok = true) (hy : y.ok = true) : wp1 E (.eq ng e x y) d s K Q ↔ ∃ v, aEq e (E.rd s.σ x) (E.rd s.σ y) = some v ∧ K (s.put d (.bool (negIf ng v)) s.h) .none := by
  rw [wp1_eq]; simp only [Env.op, opd_rd hx, opd_rd hy, Option.bind_some, Option.map_eq_some_iff]
  constructor
  · rintro ⟨r, ⟨a, h1, rfl⟩, h2⟩; exact ⟨a, h1, h2⟩
  · rintro ⟨a, h1, h2⟩; exact ⟨_, ⟨a, h1, rfl⟩, h2⟩
@[simp] theorem wp1_extract' {i : Nat} (hx : x.ok = true) : wp1 E (.extract x i) d s K Q ↔ ∃ v, aExtract i (E.rd s.σ x) = some v ∧ K (s.put d v s.h) .none := by
  rw [wp1_extract]
  simp only [Env.op, opd_rd hx, Option.bind_some]
  cases E.rd s.σ x <;> simp [aExtract]
  constructor
  · rintro ⟨r, ⟨a, h1, rfl⟩, h2⟩; exact ⟨a, h1, h2⟩
  · rintro ⟨a, h1, h2⟩; exact ⟨_, ⟨a, h1, rfl⟩, h2⟩
@[simp] theorem wp1_pick' (hx : x.ok = true) (hy : y.ok = true) (hz : z.ok = true) : wp1 E (.pick x y z) d s K Q ↔ ∃ v, aPick (E.rd s.σ x) (E.rd s.σ y) (E.rd s.σ z) = some v ∧ K (s.put d v s.h) .none := by
  rw [wp1_pick]
  simp only [Env.op, opd_rd hx, opd_rd hy, opd_rd hz, Option.bind_some]
  cases E.rd s.σ x <;> simp [aPick]
  rename_i b
  cases b <;> simp
@[simp] theorem wp1_len' {b : Bool} (hx : x.ok = true) : wp1 E (.len b x) d s K Q ↔ ∃ r, aLenOp b s.h (E.rd s.σ x) = some r ∧ K (s.put d r.v r.h) r.c := by
  rw [wp1_len]
  have : E.op s.σ s.h (.len b x) = (E.opd s.σ x).bind (aLenOp b s.h) := rfl
  rw [this, opd_rd hx]; rfl
@[simp] theorem wp1_load' {ag : Bool} {sz : Nat} (hx : x.ok = true) : wp1 E (.load ag sz x) d s K Q ↔ ∃ r, aLoad s.h ag sz (E.rd s.σ x) = some r ∧ K (s.put d r.v r.h) r.c := by
  rw [wp1_load]; simp [Env.op, opd_rd hx]
@[simp] theorem wp1_conv' {c : CvT} (hx : x.ok = true) : wp1 E (.conv c x) d s K Q ↔ ∃ r, aConv s.h c (E.rd s.σ x) = some r ∧ K (s.put d r.v r.h) r.c := by
  rw [wp1_conv]; simp [Env.op, opd_rd hx]
@[simp] theorem wp1_store' {sz : Nat} (hx : x.ok = true) (hy : y.ok = true) : wp1 E (.store sz x y) d s K Q ↔ ∃ r, aStore s.h sz (E.rd s.σ x) (E.rd s.σ y) = some r ∧ K (s.put d r.v r.h) r.c := by
  rw [wp1_store]; simp [Env.op, opd_rd hx, opd_rd hy]
@[simp] theorem wp1_idxAddr' {sz : Nat} (hx : x.ok = true) (hy : y.ok = true) : wp1 E (.idxAddr sz x y) d s K Q ↔ ∃ v, aIdxAddr sz (E.rd s.σ x) (E.rd s.σ y) = some v ∧ K (s.put d v s.h) .none := by
  rw [wp1_idxAddr]; simp [Env.op, opd_rd hx, opd_rd hy]
  constructor
  · rintro ⟨r, ⟨a, h1, rfl⟩, h2⟩; exact ⟨a, h1, h2⟩
  · rintro ⟨a, h1, h2⟩; exact ⟨_, ⟨a, h1, rfl⟩, h2⟩
@[simp] theorem wp1_append' {sz bt : Nat} (hx : x.ok = true) (hy : y.ok = true) : wp1 E (.append sz bt x y) d s K Q ↔ ∃ r, aAppend s.h sz bt (E.rd s.σ x) (E.rd s.σ y) = some r ∧ K (s.put d r.v r.h) r.c := by
  rw [wp1_append]; simp [Env.op, opd_rd hx, opd_rd hy]
@[simp] theorem wp1_mkIface' {t : TypeId} (hx : x.ok = true) : wp1 E (.mkIface t x) d s K Q ↔ K (s.put d (.ifc t (E.rd s.σ x)) s.h) .none := by
  rw [wp1_mkIface]; simp [Env.op, opd_rd hx]
@[simp] theorem wp1_nilCheck' (hx : x.ok = true) : wp1 E (.nilCheck x) d s K Q ↔ ∃ v, aNil (E.rd s.σ x) = some v ∧ K (s.put d v s.h) .none := by
  rw [wp1_nilCheck]
  simp only [Env.op, opd_rd hx, Option.bind_some]
  cases E.rd s.σ x <;> simp [aNil]
  rename_i f _ _
  cases f <;> simp
@[simp] theorem wp1_fieldAddr' {o : Nat} (hx : x.ok = true) : wp1 E (.fieldAddr o x) d s K Q ↔ ∃ v, aFieldAddr o (E.rd s.σ x) = some v ∧ K (s.put d v s.h) .none := by
  rw [wp1_fieldAddr]
  simp only [Env.op, opd_rd hx, Option.bind_some]
  cases E.rd s.σ x <;> simp [aFieldAddr]
@[simp] theorem wp1_alloc' {z : List AV} : wp1 E (.alloc z) d s K Q ↔ K (s.put d (.ptr s.h.next 0 0) (s.h.new z)) .write := by
  rw [wp1_alloc]; simp [Env.op]
end

/-- a call whose answer is known -/
theorem wc_eq {f : Nat} {args : List AV} {h : Heap} {o : COut} (hs : WC E f args h (fun x => x = o)) (K : COut → Prop) : WC E f args h K ↔ K o := by
  obtain ⟨o', ⟨n, hn⟩, rfl⟩ := hs
  constructor
  · rintro ⟨o2, ⟨k, hk⟩, hq⟩
    have h1 := hn (max n k) (by omega)
    have h2 := hk (max n k) (by omega)
    rw [h1] at h2
    cases h2
    exact hq
  · intro hq; exact ⟨o', ⟨n, hn⟩, hq⟩

/-- a round of a loop -/
theorem wpr_round {b : AC} {s : St} {Q : AExit → St → Prop} (h : wpc E b s (roundQ E b Q)) : WPr E b s Q := wp_round (wpc_sound b s _ h)

/-- the same, the loop's own name kept -/
theorem wpr_round' {b : AC} {s : St} {Q : AExit → St → Prop} (h : ∀ b', b' = b → wpc E b s (roundQ E b' Q)) : WPr E b s Q := wpr_round (h b rfl)

theorem wpr_rounds {b : AC} {Q : AExit → St → Prop} (I : St → Prop) (m : St → Nat) (hstep : ∀ s, I s → wpc E b s (fun e s' => match e with | .norm => I s' ∧ m s' < m s | e => Q e s')) {s : St} (hs : I s) : WPr E b s Q :=
  wp_roundsI I m (fun s h => wpc_sound b s _ (hstep s h)) s hs

/-- what a function's end hands over -/
def retQ (E : Env) (rs : List ARes) (Q : COut → Prop) : AExit → St → Prop
  | .norm, s | .ret, s => ∃ vs, E.results s rs = some vs ∧ Q (.ret ⟨oneOrTup vs, s.h, .write⟩)
  | .panic v, s => Q (.panic v s.h)
  | .exit _, _ => False

/-- its content in the place of its addresses -/
def Frz (h : Heap) (v v' : AV) : Prop := ∃ n, ∀ m, n ≤ m → freeze h m v = some v'

def pureQ (E : Env) (rs : List ARes) (h : Heap) (Q : COut → Prop) : AExit → St → Prop
  | .norm, s | .ret, s => ∃ vs v, E.results s rs = some vs ∧ Frz s.h (oneOrTup vs) v ∧ Q (.ret ⟨v, h, .none⟩)
  | _, _ => False

theorem call_body {f : Nat} {af : AFunc} (hp : E.prim f = none) (hf : E.func f = some af) {args : List AV} {h : Heap} (hu : E.pure_ f = false ∨ AV.noRefs args = false) {Q : COut → Prop}
    (hb : wpc E af.body ⟨Slots.ofList 0 args .empty, h⟩ (retQ E af.results Q)) : WC E f args h Q := by
  refine wc_body hp hf hu ((wpc_sound _ _ _ hb).mono fun e s hq => ?_)
  cases e <;> exact hq

theorem call_pure {f : Nat} {af : AFunc} (hp : E.prim f = none) (hf : E.func f = some af) {args : List AV} {h : Heap} (hu : E.pure_ f = true) (hr : AV.noRefs args = true) {Q : COut → Prop}
    (hb : wpc E af.body ⟨Slots.ofList 0 args .empty, .empty⟩ (pureQ E af.results h Q)) : WC E f args h Q := by
  refine wc_pure hp hf hu hr ((wpc_sound _ _ _ hb).mono fun e s hq => ?_)
  cases e with
  | norm => obtain ⟨vs, v, h1, ⟨n, h2⟩, h3⟩ := hq; exact ⟨vs, v, n, h1, h2 n (Nat.le_refl _), h2, h3⟩
  | ret => obtain ⟨vs, v, h1, ⟨n, h2⟩, h3⟩ := hq; exact ⟨vs, v, n, h1, h2 n (Nat.le_refl _), h2, h3⟩
  | panic v => exact hq.elim
  | exit id => exact hq.elim

@[simp] theorem noRef_bool {b : Bool} : (AV.bool b).noRef = true := id rfl
@[simp] theorem noRef_int {k : IntKind} {n : Int} : (AV.int k n).noRef = true := id rfl
@[simp] theorem noRef_str {s : List UInt8} : (AV.str s).noRef = true := id rfl
@[simp] theorem noRef_nilp : (AV.nilp).noRef = true := id rfl
@[simp] theorem noRef_nils : (AV.nils).noRef = true := id rfl
@[simp] theorem noRef_nilm : (AV.nilm).noRef = true := id rfl
@[simp] theorem noRef_nilf : (AV.nilf).noRef = true := id rfl
@[simp] theorem noRef_nili : (AV.nili).noRef = true := id rfl
@[simp] theorem noRef_fp {cs : List AV} : (AV.fp cs).noRef = AV.noRefs cs := id rfl
@[simp] theorem noRef_fs {f : Bool} {n : Nat} {cs : List AV} : (AV.fs f n cs).noRef = AV.noRefs cs := id rfl
@[simp] theorem noRef_ifc {t : TypeId} {v : AV} : (AV.ifc t v).noRef = v.noRef := id rfl
@[simp] theorem noRef_agg {cs : List AV} : (AV.agg cs).noRef = AV.noRefs cs := id rfl
@[simp] theorem noRef_tup {cs : List AV} : (AV.tup cs).noRef = AV.noRefs cs := id rfl
@[simp] theorem noRefs_nil : AV.noRefs [] = true := id rfl
@[simp] theorem noRefs_cons {v : AV} {vs : List AV} : AV.noRefs (v :: vs) = (v.noRef && AV.noRefs vs) := id rfl
@[simp] theorem row_bool {b : Bool} : (AV.bool b).row = some [.bool b] := id rfl
@[simp] theorem row_int {k : IntKind} {n : Int} : (AV.int k n).row = some [.int k n] := id rfl
@[simp] theorem row_str {s : List UInt8} : (AV.str s).row = some [.str s] := id rfl
@[simp] theorem row_nilp : (AV.nilp).row = some [.nilp] := id rfl
@[simp] theorem row_nils : (AV.nils).row = some [.nils] := id rfl
@[simp] theorem row_nilm : (AV.nilm).row = some [.nilm] := id rfl
@[simp] theorem row_nilf : (AV.nilf).row = some [.nilf] := id rfl
@[simp] theorem row_nili : (AV.nili).row = some [.nili] := id rfl
@[simp] theorem row_fp {cs : List AV} : (AV.fp cs).row = some [.fp cs] := id rfl
@[simp] theorem row_fs {f : Bool} {n : Nat} {cs : List AV} : (AV.fs f n cs).row = some [.fs f n cs] := id rfl
@[simp] theorem row_sl {a b c d e : Nat} {f : Option Nat} : (AV.sl a b c d e f).row = some [.sl a b c d e f] := id rfl
@[simp] theorem row_ptr {a b c : Nat} : (AV.ptr a b c).row = some [.ptr a b c] := id rfl
@[simp] theorem row_ifc {t : TypeId} {v : AV} : (AV.ifc t v).row = some [.ifc t v] := id rfl
@[simp] theorem row_fn {f : Fn} {a b : List AV} : (AV.fn f a b).row = some [.fn f a b] := id rfl
@[simp] theorem row_agg {cs : List AV} : (AV.agg cs).row = some cs := id rfl

theorem frz_noRef {hp : Heap} {v v' : AV} (h : v.noRef = true) : Frz hp v v' ↔ v = v' := by
  constructor
  · rintro ⟨n, hn⟩
    have := hn (n + 1) (by omega)
    simp only [freeze, h, Option.some.injEq] at this
    exact this
  · rintro rfl
    refine ⟨1, fun m hm => ?_⟩
    cases m with
    | zero => omega
    | succ m => simp only [freeze, h]

theorem mapM_noRefs {h : Heap} {m : Nat} : ∀ (l : List AV), AV.noRefs l = true → l.mapM (freeze h (m + 1)) = some l
  | [], _ => rfl
  | v :: l, hl => by
    simp only [AV.noRefs, Bool.and_eq_true] at hl
    rw [List.mapM_cons, mapM_noRefs l hl.2]
    simp only [freeze, hl.1]
    rfl

theorem freeze_sl {h : Heap} {n id gen off sz len : Nat} {cap : Option Nat} : freeze h (n + 1) (.sl id gen off sz len cap) = (h.at_ id gen).bind fun cs =>
    if off + len * sz ≤ cs.length then (((cs.drop off).take (len * sz)).mapM (freeze h n)).map (.fs (cap == some len) len) else none := rfl

/-- a slice whose cells are plain -/
theorem frz_sl {hp : Heap} {id gen off sz len : Nat} {cap : Option Nat} {cs : List AV} (hat : hp.at_ id gen = some cs) (hle : off + len * sz ≤ cs.length) (hn : AV.noRefs ((cs.drop off).take (len * sz)) = true) {v : AV} :
    Frz hp (.sl id gen off sz len cap) v ↔ v = .fs (cap == some len) len ((cs.drop off).take (len * sz)) := by
  have key : ∀ m, 2 ≤ m → freeze hp m (.sl id gen off sz len cap) = some (.fs (cap == some len) len ((cs.drop off).take (len * sz))) := by
    intro m hm
    obtain ⟨m, rfl⟩ : ∃ k, m = k + 2 := ⟨m - 2, by omega⟩
    rw [freeze_sl, hat, Option.bind_some, if_pos hle, mapM_noRefs _ hn]
    rfl
  constructor
  · rintro ⟨n, hn'⟩
    have := hn' (n + 2) (by omega)
    rw [key _ (by omega)] at this
    exact (Option.some.inj this).symm
  · rintro rfl; exact ⟨2, key⟩

/-- a tuple's parts -/
def FrzAll (h : Heap) : List AV → List AV → Prop
  | [], vs => vs = []
  | v :: l, vs => ∃ a b, vs = a :: b ∧ Frz h v a ∧ FrzAll h l b

theorem frzAll_mapM {h : Heap} : ∀ {l l' : List AV}, FrzAll h l l' → ∃ n, ∀ m, n ≤ m → l.mapM (freeze h m) = some l'
  | [], _, e => by cases e; exact ⟨0, fun m _ => rfl⟩
  | v :: l, _, ⟨a, b, e, ⟨n, hn⟩, h2⟩ => by
    subst e
    obtain ⟨k, hk⟩ := frzAll_mapM h2
    refine ⟨max n k, fun m hm => ?_⟩
    rw [List.mapM_cons, hn m (by omega), hk m (by omega)]
    rfl

theorem frz_tup {h : Heap} {l l' : List AV} (k : FrzAll h l l') : Frz h (.tup l) (.tup l') := by
  cases hr : AV.noRef (.tup l) with
  | true =>
    have : l = l' := by
      simp only [AV.noRef] at hr
      induction l generalizing l' with
      | nil => exact Eq.symm k
      | cons v l ih =>
        obtain ⟨a, b, rfl, ha, hb⟩ := k
        simp only [AV.noRefs, Bool.and_eq_true] at hr
        rw [(frz_noRef hr.1).1 ha, ih hb hr.2]
    subst this
    exact (frz_noRef hr).2 rfl
  | false =>
    obtain ⟨n, hn⟩ := frzAll_mapM k
    refine ⟨n + 1, fun m hm => ?_⟩
    cases m with
    | zero => omega
    | succ m => simp only [freeze, hr, hn m (by omega), Option.map_some]
end
end Go.AM
