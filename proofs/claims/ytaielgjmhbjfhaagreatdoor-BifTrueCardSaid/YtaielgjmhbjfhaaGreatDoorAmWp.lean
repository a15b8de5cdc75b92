/-
  THE ABSTRACT MACHINE: what a piece of code comes to, with no fuel in sight.
-/
import Derived.Test.YtaielgjmhbjfhaaGreatDoorAmCore
set_option linter.unusedSimpArgs false
set_option linter.unusedVariables false
namespace Go.AM

section
variable (E : Env)

/-- The code ends, so. -/
def WP (c : AC) (s : St) (Q : AExit → St → Prop) : Prop := ∃ e s', (∃ n, ∀ m, n ≤ m → E.code (E.call m) m c s = some (e, s')) ∧ Q e s'
def WPo (l : List AOper) (s : St) (Q : AExit → St → Prop) : Prop := ∃ e s', (∃ n, ∀ m, n ≤ m → E.ops (E.call m) l s = some (e, s')) ∧ Q e s'
def WC (f : Nat) (args : List AV) (h : Heap) (Q : COut → Prop) : Prop := ∃ o, (∃ n, ∀ m, n ≤ m → E.call m f args h = some o) ∧ Q o
/-- in the order of the text, with the log -/
def WPl (l : List AOper) (s : St) (Q : St → List (AOper × St × Cls) → Prop) : Prop := ∃ s' log, (∃ n, ∀ m, n ≤ m → E.opsLog (E.call m) l s = some (s', log)) ∧ Q s' log
end

section
variable {E : Env}

theorem WP.mono {c : AC} {s : St} {Q R : AExit → St → Prop} (h : WP E c s Q) (hr : ∀ e s', Q e s' → R e s') : WP E c s R := by
  obtain ⟨e, s', h1, h2⟩ := h; exact ⟨e, s', h1, hr _ _ h2⟩
theorem WC.mono {f : Nat} {args : List AV} {h : Heap} {Q R : COut → Prop} (k : WC E f args h Q) (hr : ∀ o, Q o → R o) : WC E f args h R := by
  obtain ⟨o, h1, h2⟩ := k; exact ⟨o, h1, hr _ h2⟩

/-! ### code -/
theorem wp_skip {s : St} {Q : AExit → St → Prop} (h : Q .norm s) : WP E .skip s Q := ⟨_, _, ⟨0, fun m _ => rfl⟩, h⟩
theorem wp_ret {s : St} {Q : AExit → St → Prop} (h : Q .ret s) : WP E .ret s Q := ⟨_, _, ⟨0, fun m _ => rfl⟩, h⟩
theorem wp_exit {id : Nat} {s : St} {Q : AExit → St → Prop} (h : Q (.exit id) s) : WP E (.exit id) s Q := ⟨_, _, ⟨0, fun m _ => rfl⟩, h⟩
theorem wp_scope {b : AC} {s : St} {Q : AExit → St → Prop} (h : WP E b s Q) : WP E (.scope b) s Q := h
theorem wp_ops {l : List AOper} {s : St} {Q : AExit → St → Prop} (h : WPo E l s Q) : WP E (.ops l) s Q := h

/-- behind a piece that ends as usual -/
def thenQ (E : Env) (b : AC) (Q : AExit → St → Prop) : AExit → St → Prop
  | .norm, s => WP E b s Q
  | e, s => Q e s

theorem wp_seq {a b : AC} {s : St} {Q : AExit → St → Prop} (h : WP E a s (thenQ E b Q)) : WP E (.seq a b) s Q := by
  obtain ⟨e, s1, ⟨n, hn⟩, hq⟩ := h
  have other : (∀ m, n ≤ m → E.code (E.call m) m (.seq a b) s = some (e, s1)) → Q e s1 → WP E (.seq a b) s Q := fun h1 h2 => ⟨e, s1, ⟨n, h1⟩, h2⟩
  cases e with
  | norm =>
    obtain ⟨e2, s2, ⟨k, hk⟩, hq2⟩ := hq
    refine ⟨e2, s2, ⟨max n k, fun m hm => ?_⟩, hq2⟩
    simp only [Env.code]
    rw [hn m (by omega)]
    exact hk m (by omega)
  | ret => exact other (fun m hm => by simp only [Env.code]; rw [hn m hm]; rfl) hq
  | exit id => exact other (fun m hm => by simp only [Env.code]; rw [hn m hm]; rfl) hq
  | panic v => exact other (fun m hm => by simp only [Env.code]; rw [hn m hm]; rfl) hq

theorem wp_cond {c : Opd} {x y : AC} {s : St} {Q : AExit → St → Prop} {b : Bool} (hb : E.opd s.σ c = some (.bool b)) (ht : b = true → WP E x s Q) (hf : b = false → WP E y s Q) : WP E (.cond c x y) s Q := by
  cases b with
  | true =>
    obtain ⟨e, s1, ⟨n, hn⟩, hq⟩ := ht rfl
    exact ⟨e, s1, ⟨n, fun m hm => by simp only [Env.code]; rw [hb]; exact hn m hm⟩, hq⟩
  | false =>
    obtain ⟨e, s1, ⟨n, hn⟩, hq⟩ := hf rfl
    exact ⟨e, s1, ⟨n, fun m hm => by simp only [Env.code]; rw [hb]; exact hn m hm⟩, hq⟩

def blockQ (id : Nat) (Q : AExit → St → Prop) : AExit → St → Prop
  | .exit id', s => if id' = id then Q .norm s else Q (.exit id') s
  | e, s => Q e s

theorem wp_block {id : Nat} {b : AC} {s : St} {Q : AExit → St → Prop} (h : WP E b s (blockQ id Q)) : WP E (.block id b) s Q := by
  obtain ⟨e, s1, ⟨n, hn⟩, hq⟩ := h
  cases e with
  | exit id' =>
    simp only [blockQ] at hq
    by_cases hid : id' = id
    · rw [if_pos hid] at hq
      exact ⟨.norm, s1, ⟨n, fun m hm => by simp only [Env.code]; rw [hn m hm]; simp [hid]⟩, hq⟩
    · rw [if_neg hid] at hq
      exact ⟨.exit id', s1, ⟨n, fun m hm => by simp only [Env.code]; rw [hn m hm]; simp [hid]⟩, hq⟩
  | norm => exact ⟨_, s1, ⟨n, fun m hm => by simp only [Env.code]; rw [hn m hm]; rfl⟩, hq⟩
  | ret => exact ⟨_, s1, ⟨n, fun m hm => by simp only [Env.code]; rw [hn m hm]; rfl⟩, hq⟩
  | panic v => exact ⟨_, s1, ⟨n, fun m hm => by simp only [Env.code]; rw [hn m hm]; rfl⟩, hq⟩

theorem loopN_more {f : St → Option (AExit × St)} : ∀ (n : Nat) (s : St) (r : AExit × St), loopN f n s = some r → ∀ m, n ≤ m → loopN f m s = some r
  | 0, _, _, h, _, _ => by cases h
  | n + 1, s, r, h, m, hm => by
    cases m with
    | zero => omega
    | succ m =>
      simp only [loopN, Option.bind_eq_some_iff] at h ⊢
      obtain ⟨⟨e, s1⟩, h1, h2⟩ := h
      refine ⟨(e, s1), h1, ?_⟩
      cases e with
      | norm => exact loopN_more n s1 r h2 m (by omega)
      | _ => exact h2

/-- The rounds of a loop. -/
def WPr (E : Env) (b : AC) (s : St) (Q : AExit → St → Prop) : Prop := ∃ e s', (∃ n k, ∀ m, n ≤ m → loopN (E.code (E.call m) m b) k s = some (e, s')) ∧ Q e s'

theorem wp_loop {b : AC} {s : St} {Q : AExit → St → Prop} (h : WPr E b s Q) : WP E (.loop b) s Q := by
  obtain ⟨e, s1, ⟨n, k, hn⟩, hq⟩ := h
  exact ⟨e, s1, ⟨max n k, fun m hm => loopN_more k s _ (hn m (by omega)) m (by omega)⟩, hq⟩

def roundQ (E : Env) (b : AC) (Q : AExit → St → Prop) : AExit → St → Prop
  | .norm, s => WPr E b s Q
  | e, s => Q e s

theorem wp_round {b : AC} {s : St} {Q : AExit → St → Prop} (h : WP E b s (roundQ E b Q)) : WPr E b s Q := by
  obtain ⟨e, s1, ⟨n, hn⟩, hq⟩ := h
  have other : e ≠ .norm → (Q e s1) → WPr E b s Q := by
    intro hne hq
    refine ⟨e, s1, ⟨n, 1, fun m hm => ?_⟩, hq⟩
    simp only [loopN]
    rw [hn m hm]
    cases e <;> first | exact absurd rfl hne | rfl
  cases e with
  | norm =>
    obtain ⟨e2, s2, ⟨n2, k, hk⟩, hq2⟩ := hq
    refine ⟨e2, s2, ⟨max n n2, k + 1, fun m hm => ?_⟩, hq2⟩
    simp only [loopN]
    rw [hn m (by omega)]
    exact hk m (by omega)
  | ret => exact other (by simp) hq
  | exit id => exact other (by simp) hq
  | panic v => exact other (by simp) hq

/-- A loop whose rounds keep 'I' and make 'm' less. -/
theorem wp_roundsI {b : AC} {Q : AExit → St → Prop} (I : St → Prop) (m : St → Nat) (hstep : ∀ s, I s → WP E b s (fun e s' => match e with | .norm => I s' ∧ m s' < m s | e => Q e s')) : ∀ s, I s → WPr E b s Q := by
  have key : ∀ (n : Nat) (s : St), m s < n → I s → WPr E b s Q := by
    intro n
    induction n with
    | zero => intro s h; omega
    | succ n ih =>
      intro s hs hI
      refine wp_round ((hstep s hI).mono fun e s' hq => ?_)
      cases e with
      | norm => exact ih s' (by have := hq.2; omega) hq.1
      | ret => exact hq
      | exit id => exact hq
      | panic v => exact hq
  exact fun s hs => key _ s (Nat.lt_succ_self _) hs

/-! ### operations -/
@[simp] theorem wpo_nil {s : St} {Q : AExit → St → Prop} : WPo E [] s Q ↔ Q .norm s := by
  constructor
  · rintro ⟨e, s', ⟨n, hn⟩, hq⟩
    have := hn n (Nat.le_refl _)
    simp only [Env.ops, Option.some.injEq, Prod.mk.injEq] at this
    obtain ⟨rfl, rfl⟩ := this
    exact hq
  · intro h; exact ⟨_, _, ⟨0, fun m _ => rfl⟩, h⟩

def AOp.calls : AOp → Bool
  | .call .. | .callv .. | .panic _ => true
  | _ => false

theorem act_plain {C : CallF} {σ : Slots} {h : Heap} {op : AOp} (hp : op.calls = false) : E.act C σ h op = (E.op σ h op).map COut.ret := by
  cases op <;> first | rfl | simp [AOp.calls] at hp

theorem wpo_cons {o : AOper} {l : List AOper} {s s1 : St} {c : Cls} {Q : AExit → St → Prop} (h : ∃ n, ∀ m, n ≤ m → E.one (E.call m) o s = some (s1, c, none)) (hl : WPo E l s1 Q) : WPo E (o :: l) s Q := by
  obtain ⟨n, hn⟩ := h
  obtain ⟨e, s2, ⟨k, hk⟩, hq⟩ := hl
  refine ⟨e, s2, ⟨max n k, fun m hm => ?_⟩, hq⟩
  simp only [Env.ops]
  rw [hn m (by omega)]
  exact hk m (by omega)

/-- an operation that calls nothing -/
theorem wpo_op {d : Option Nat} {op : AOp} (hp : op.calls = false) {l : List AOper} {σ : Slots} {h : Heap} {Q : AExit → St → Prop} :
    (∃ r, E.op σ h op = some r ∧ WPo E l (St.put ⟨σ, h⟩ d r.v r.h) Q) → WPo E (⟨d, op, none⟩ :: l) ⟨σ, h⟩ Q := by
  rintro ⟨r, hr, hl⟩
  exact wpo_cons (c := r.c) ⟨0, fun m _ => by simp [Env.one, AOper.wanted, act_plain hp, hr]⟩ hl

theorem wpo_op_iff {d : Option Nat} {op : AOp} (hp : op.calls = false) {l : List AOper} {σ : Slots} {h : Heap} {Q : AExit → St → Prop} :
    WPo E (⟨d, op, none⟩ :: l) ⟨σ, h⟩ Q ↔ ∃ r, E.op σ h op = some r ∧ WPo E l (St.put ⟨σ, h⟩ d r.v r.h) Q := by
  refine ⟨?_, wpo_op hp⟩
  rintro ⟨e, s', ⟨n, hn⟩, hq⟩
  cases hr : E.op σ h op with
  | none =>
    have := hn n (Nat.le_refl _)
    simp [Env.ops, Env.one, AOper.wanted, act_plain hp, hr] at this
  | some r =>
    refine ⟨r, rfl, e, s', ⟨n, fun m hm => ?_⟩, hq⟩
    have := hn m hm
    simpa [Env.ops, Env.one, AOper.wanted, act_plain hp, hr] using this

end

section
variable {E : Env} {d : Option Nat} {l : List AOper} {σ : Slots} {h : Heap} {Q : AExit → St → Prop}
@[simp] theorem wpo_mv {x} : WPo E (⟨d, .mv x, none⟩ :: l) ⟨σ, h⟩ Q ↔ ∃ r, E.op σ h (.mv x) = some r ∧ WPo E l (St.put ⟨σ, h⟩ d r.v r.h) Q := wpo_op_iff rfl
@[simp] theorem wpo_pick {c a b} : WPo E (⟨d, .pick c a b, none⟩ :: l) ⟨σ, h⟩ Q ↔ ∃ r, E.op σ h (.pick c a b) = some r ∧ WPo E l (St.put ⟨σ, h⟩ d r.v r.h) Q := wpo_op_iff rfl
@[simp] theorem wpo_alloc {z} : WPo E (⟨d, .alloc z, none⟩ :: l) ⟨σ, h⟩ Q ↔ ∃ r, E.op σ h (.alloc z) = some r ∧ WPo E l (St.put ⟨σ, h⟩ d r.v r.h) Q := wpo_op_iff rfl
@[simp] theorem wpo_box {fr sz x} : WPo E (⟨d, .box fr sz x, none⟩ :: l) ⟨σ, h⟩ Q ↔ ∃ r, E.op σ h (.box fr sz x) = some r ∧ WPo E l (St.put ⟨σ, h⟩ d r.v r.h) Q := wpo_op_iff rfl
@[simp] theorem wpo_build {z ps} : WPo E (⟨d, .build z ps, none⟩ :: l) ⟨σ, h⟩ Q ↔ ∃ r, E.op σ h (.build z ps) = some r ∧ WPo E l (St.put ⟨σ, h⟩ d r.v r.h) Q := wpo_op_iff rfl
@[simp] theorem wpo_lit {fr sz n cs ps} : WPo E (⟨d, .lit fr sz n cs ps, none⟩ :: l) ⟨σ, h⟩ Q ↔ ∃ r, E.op σ h (.lit fr sz n cs ps) = some r ∧ WPo E l (St.put ⟨σ, h⟩ d r.v r.h) Q := wpo_op_iff rfl
@[simp] theorem wpo_load {ag sz x} : WPo E (⟨d, .load ag sz x, none⟩ :: l) ⟨σ, h⟩ Q ↔ ∃ r, E.op σ h (.load ag sz x) = some r ∧ WPo E l (St.put ⟨σ, h⟩ d r.v r.h) Q := wpo_op_iff rfl
@[simp] theorem wpo_store {sz x y} : WPo E (⟨d, .store sz x y, none⟩ :: l) ⟨σ, h⟩ Q ↔ ∃ r, E.op σ h (.store sz x y) = some r ∧ WPo E l (St.put ⟨σ, h⟩ d r.v r.h) Q := wpo_op_iff rfl
@[simp] theorem wpo_nilCheck {x} : WPo E (⟨d, .nilCheck x, none⟩ :: l) ⟨σ, h⟩ Q ↔ ∃ r, E.op σ h (.nilCheck x) = some r ∧ WPo E l (St.put ⟨σ, h⟩ d r.v r.h) Q := wpo_op_iff rfl
@[simp] theorem wpo_bin {o x y} : WPo E (⟨d, .bin o x y, none⟩ :: l) ⟨σ, h⟩ Q ↔ ∃ r, E.op σ h (.bin o x y) = some r ∧ WPo E l (St.put ⟨σ, h⟩ d r.v r.h) Q := wpo_op_iff rfl
@[simp] theorem wpo_eq {ng e x y} : WPo E (⟨d, .eq ng e x y, none⟩ :: l) ⟨σ, h⟩ Q ↔ ∃ r, E.op σ h (.eq ng e x y) = some r ∧ WPo E l (St.put ⟨σ, h⟩ d r.v r.h) Q := wpo_op_iff rfl
@[simp] theorem wpo_un {o x} : WPo E (⟨d, .un o x, none⟩ :: l) ⟨σ, h⟩ Q ↔ ∃ r, E.op σ h (.un o x) = some r ∧ WPo E l (St.put ⟨σ, h⟩ d r.v r.h) Q := wpo_op_iff rfl
@[simp] theorem wpo_conv {c x} : WPo E (⟨d, .conv c x, none⟩ :: l) ⟨σ, h⟩ Q ↔ ∃ r, E.op σ h (.conv c x) = some r ∧ WPo E l (St.put ⟨σ, h⟩ d r.v r.h) Q := wpo_op_iff rfl
@[simp] theorem wpo_mkIface {t x} : WPo E (⟨d, .mkIface t x, none⟩ :: l) ⟨σ, h⟩ Q ↔ ∃ r, E.op σ h (.mkIface t x) = some r ∧ WPo E l (St.put ⟨σ, h⟩ d r.v r.h) Q := wpo_op_iff rfl
@[simp] theorem wpo_mkFunc {f a b} : WPo E (⟨d, .mkFunc f a b, none⟩ :: l) ⟨σ, h⟩ Q ↔ ∃ r, E.op σ h (.mkFunc f a b) = some r ∧ WPo E l (St.put ⟨σ, h⟩ d r.v r.h) Q := wpo_op_iff rfl
@[simp] theorem wpo_makeSlice {sz by_ z a b} : WPo E (⟨d, .makeSlice sz by_ z a b, none⟩ :: l) ⟨σ, h⟩ Q ↔ ∃ r, E.op σ h (.makeSlice sz by_ z a b) = some r ∧ WPo E l (St.put ⟨σ, h⟩ d r.v r.h) Q := wpo_op_iff rfl
@[simp] theorem wpo_slice {sz x lo hi mx} : WPo E (⟨d, .slice sz x lo hi mx, none⟩ :: l) ⟨σ, h⟩ Q ↔ ∃ r, E.op σ h (.slice sz x lo hi mx) = some r ∧ WPo E l (St.put ⟨σ, h⟩ d r.v r.h) Q := wpo_op_iff rfl
@[simp] theorem wpo_sliceStr {x lo hi} : WPo E (⟨d, .sliceStr x lo hi, none⟩ :: l) ⟨σ, h⟩ Q ↔ ∃ r, E.op σ h (.sliceStr x lo hi) = some r ∧ WPo E l (St.put ⟨σ, h⟩ d r.v r.h) Q := wpo_op_iff rfl
@[simp] theorem wpo_sliceArr {sz n x lo hi mx} : WPo E (⟨d, .sliceArr sz n x lo hi mx, none⟩ :: l) ⟨σ, h⟩ Q ↔ ∃ r, E.op σ h (.sliceArr sz n x lo hi mx) = some r ∧ WPo E l (St.put ⟨σ, h⟩ d r.v r.h) Q := wpo_op_iff rfl
@[simp] theorem wpo_fieldAddr {o x} : WPo E (⟨d, .fieldAddr o x, none⟩ :: l) ⟨σ, h⟩ Q ↔ ∃ r, E.op σ h (.fieldAddr o x) = some r ∧ WPo E l (St.put ⟨σ, h⟩ d r.v r.h) Q := wpo_op_iff rfl
@[simp] theorem wpo_field {ag sz o x} : WPo E (⟨d, .field ag sz o x, none⟩ :: l) ⟨σ, h⟩ Q ↔ ∃ r, E.op σ h (.field ag sz o x) = some r ∧ WPo E l (St.put ⟨σ, h⟩ d r.v r.h) Q := wpo_op_iff rfl
@[simp] theorem wpo_idxAddr {sz x i} : WPo E (⟨d, .idxAddr sz x i, none⟩ :: l) ⟨σ, h⟩ Q ↔ ∃ r, E.op σ h (.idxAddr sz x i) = some r ∧ WPo E l (St.put ⟨σ, h⟩ d r.v r.h) Q := wpo_op_iff rfl
@[simp] theorem wpo_idxAddrArr {sz n x i} : WPo E (⟨d, .idxAddrArr sz n x i, none⟩ :: l) ⟨σ, h⟩ Q ↔ ∃ r, E.op σ h (.idxAddrArr sz n x i) = some r ∧ WPo E l (St.put ⟨σ, h⟩ d r.v r.h) Q := wpo_op_iff rfl
@[simp] theorem wpo_idxStr {x i} : WPo E (⟨d, .idxStr x i, none⟩ :: l) ⟨σ, h⟩ Q ↔ ∃ r, E.op σ h (.idxStr x i) = some r ∧ WPo E l (St.put ⟨σ, h⟩ d r.v r.h) Q := wpo_op_iff rfl
@[simp] theorem wpo_idxArr {ag sz n x i} : WPo E (⟨d, .idxArr ag sz n x i, none⟩ :: l) ⟨σ, h⟩ Q ↔ ∃ r, E.op σ h (.idxArr ag sz n x i) = some r ∧ WPo E l (St.put ⟨σ, h⟩ d r.v r.h) Q := wpo_op_iff rfl
@[simp] theorem wpo_extract {x i} : WPo E (⟨d, .extract x i, none⟩ :: l) ⟨σ, h⟩ Q ↔ ∃ r, E.op σ h (.extract x i) = some r ∧ WPo E l (St.put ⟨σ, h⟩ d r.v r.h) Q := wpo_op_iff rfl
@[simp] theorem wpo_len {b x} : WPo E (⟨d, .len b x, none⟩ :: l) ⟨σ, h⟩ Q ↔ ∃ r, E.op σ h (.len b x) = some r ∧ WPo E l (St.put ⟨σ, h⟩ d r.v r.h) Q := wpo_op_iff rfl
@[simp] theorem wpo_append {sz by_ x y} : WPo E (⟨d, .append sz by_ x y, none⟩ :: l) ⟨σ, h⟩ Q ↔ ∃ r, E.op σ h (.append sz by_ x y) = some r ∧ WPo E l (St.put ⟨σ, h⟩ d r.v r.h) Q := wpo_op_iff rfl
@[simp] theorem wpo_minmax {m x y} : WPo E (⟨d, .minmax m x y, none⟩ :: l) ⟨σ, h⟩ Q ↔ ∃ r, E.op σ h (.minmax m x y) = some r ∧ WPo E l (St.put ⟨σ, h⟩ d r.v r.h) Q := wpo_op_iff rfl

@[simp] theorem put_some {d : Nat} {v : AV} {h' : Heap} : St.put ⟨σ, h⟩ (some d) v h' = ⟨σ.put d v, h'⟩ := rfl
@[simp] theorem put_none {v : AV} {h' : Heap} : St.put ⟨σ, h⟩ none v h' = ⟨σ, h'⟩ := rfl
theorem get_put (σ : Slots) (d : Nat) (v : AV) (t : Nat) : (σ.put d v).get t = if t = d then v else σ.get t := by
  have h := Tr.get_set (α := AV) σ d t (some v)
  unfold Slots.get Slots.put
  rw [h]
  by_cases ht : t = d
  · rw [if_pos ht, if_pos ht]
  · rw [if_neg ht, if_neg ht]
@[simp] theorem opd_t {t : Nat} : E.opd σ (.t t) = some (σ.get t) := rfl
@[simp] theorem opd_c {v : AV} : E.opd σ (.c v) = some v := rfl
@[simp] theorem thenQ_norm {b : AC} {s : St} : thenQ E b Q .norm s = WP E b s Q := rfl
@[simp] theorem thenQ_ret {b : AC} {s : St} : thenQ E b Q .ret s = Q .ret s := rfl
@[simp] theorem thenQ_exit {b : AC} {s : St} {id : Nat} : thenQ E b Q (.exit id) s = Q (.exit id) s := rfl
@[simp] theorem thenQ_panic {b : AC} {s : St} {v : AV} : thenQ E b Q (.panic v) s = Q (.panic v) s := rfl
@[simp] theorem roundQ_norm {b : AC} {s : St} : roundQ E b Q .norm s = WPr E b s Q := rfl
@[simp] theorem roundQ_ret {b : AC} {s : St} : roundQ E b Q .ret s = Q .ret s := rfl
@[simp] theorem roundQ_exit {b : AC} {s : St} {id : Nat} : roundQ E b Q (.exit id) s = Q (.exit id) s := rfl
@[simp] theorem blockQ_norm {id : Nat} {s : St} : blockQ id Q .norm s = Q .norm s := rfl
@[simp] theorem blockQ_ret {id : Nat} {s : St} : blockQ id Q .ret s = Q .ret s := rfl
@[simp] theorem blockQ_exit {id id' : Nat} {s : St} : blockQ id Q (.exit id') s = if id' = id then Q .norm s else Q (.exit id') s := rfl
end
section
variable {E : Env}

theorem wpo_guard {d : Option Nat} {op : AOp} {t : Nat} {w b : Bool} {l : List AOper} {σ : Slots} {h : Heap} {Q : AExit → St → Prop} (hb : σ.get t = .bool b) :
    (if b = w then WPo E (⟨d, op, none⟩ :: l) ⟨σ, h⟩ Q else WPo E l (St.put ⟨σ, h⟩ d .undef h) Q) → WPo E (⟨d, op, some (t, w)⟩ :: l) ⟨σ, h⟩ Q := by
  intro hq
  split at hq
  · rename_i he
    obtain ⟨e, s1, ⟨n, hn⟩, hq⟩ := hq
    refine ⟨e, s1, ⟨n, fun m hm => ?_⟩, hq⟩
    rw [← hn m hm]
    simp only [Env.ops, Env.one, AOper.wanted, hb, he, beq_self_eq_true]
  · rename_i he
    have hbw : (b == w) = false := by simp [he]
    exact wpo_cons (c := .none) ⟨0, fun m _ => by simp only [Env.one, AOper.wanted, hb, hbw]⟩ hq

theorem wpo_guard_on {d : Option Nat} {op : AOp} {t : Nat} {w : Bool} {l : List AOper} {σ : Slots} {h : Heap} {Q : AExit → St → Prop} (hb : σ.get t = .bool w) :
    WPo E (⟨d, op, some (t, w)⟩ :: l) ⟨σ, h⟩ Q ↔ WPo E (⟨d, op, none⟩ :: l) ⟨σ, h⟩ Q := by
  have : ∀ m, E.ops (E.call m) (⟨d, op, some (t, w)⟩ :: l) ⟨σ, h⟩ = E.ops (E.call m) (⟨d, op, none⟩ :: l) ⟨σ, h⟩ := fun m => by
    simp only [Env.ops, Env.one, AOper.wanted, hb, beq_self_eq_true]
  simp only [WPo, this]

theorem wpo_guard_off {d : Option Nat} {op : AOp} {t : Nat} {w b : Bool} {l : List AOper} {σ : Slots} {h : Heap} {Q : AExit → St → Prop} (hb : σ.get t = .bool b) (hw : (b == w) = false) :
    WPo E (⟨d, op, some (t, w)⟩ :: l) ⟨σ, h⟩ Q ↔ WPo E l (St.put ⟨σ, h⟩ d .undef h) Q := by
  have : ∀ m, E.ops (E.call m) (⟨d, op, some (t, w)⟩ :: l) ⟨σ, h⟩ = E.ops (E.call m) l (St.put ⟨σ, h⟩ d .undef h) := fun m => by
    simp only [Env.ops, Env.one, AOper.wanted, hb, hw, Option.bind_some]
  simp only [WPo, this]

theorem wpo_call {d : Option Nat} {f : Nat} {args : List Opd} {l : List AOper} {σ : Slots} {h : Heap} {Q : AExit → St → Prop} :
    (∃ vs, E.opds σ args = some vs ∧ WC E f vs h (fun | .ret r => WPo E l (St.put ⟨σ, h⟩ d r.v r.h) Q | .panic v h' => Q (.panic v) ⟨σ, h'⟩)) → WPo E (⟨d, .call f args, none⟩ :: l) ⟨σ, h⟩ Q := by
  rintro ⟨vs, hvs, o, ⟨n, hn⟩, hq⟩
  cases o with
  | ret r => exact wpo_cons (c := r.c) ⟨n, fun m hm => by simp [Env.one, AOper.wanted, Env.act, hvs, hn m hm]⟩ hq
  | panic v h' =>
    refine ⟨_, _, ⟨n, fun m hm => ?_⟩, hq⟩
    simp [Env.ops, Env.one, AOper.wanted, Env.act, hvs, hn m hm]

/-! ### calls -/
theorem wc_body {f : Nat} {af : AFunc} (hp : E.prim f = none) (hf : E.func f = some af) {args : List AV} {h : Heap} (hu : E.pure_ f = false ∨ AV.noRefs args = false) {Q : COut → Prop}
    (hb : WP E af.body ⟨Slots.ofList 0 args .empty, h⟩ (fun e s => match e with
      | .norm | .ret => ∃ vs, E.results s af.results = some vs ∧ Q (.ret ⟨oneOrTup vs, s.h, .write⟩)
      | .panic v => Q (.panic v s.h)
      | .exit _ => False)) : WC E f args h Q := by
  obtain ⟨e, s1, ⟨n, hn⟩, hq⟩ := hb
  have key : ∀ o, Q o → (∀ m, n ≤ m → E.body (E.call m) m af args h = some o) → WC E f args h Q := by
    intro o ho hall
    refine ⟨o, ⟨n + 1, fun m hm => ?_⟩, ho⟩
    cases m with
    | zero => omega
    | succ m =>
      simp only [Env.call, hp, hf, Option.bind_some]
      rcases hu with hu | hu
      · rw [hu]; exact hall m (by omega)
      · cases hpf : E.pure_ f with
        | false => exact hall m (by omega)
        | true => rw [hu]; exact hall m (by omega)
  cases e with
  | norm =>
    obtain ⟨vs, hvs, hq⟩ := hq
    exact key _ hq fun m hm => by simp only [Env.body]; rw [hn m hm]; simp [hvs]
  | ret =>
    obtain ⟨vs, hvs, hq⟩ := hq
    exact key _ hq fun m hm => by simp only [Env.body]; rw [hn m hm]; simp [hvs]
  | panic v => exact key _ hq fun m hm => by simp only [Env.body]; rw [hn m hm]; rfl
  | exit id => exact hq.elim

/-- a call that does not look at the caller's heap -/
theorem wc_pure {f : Nat} {af : AFunc} (hp : E.prim f = none) (hf : E.func f = some af) {args : List AV} {h : Heap} (hu : E.pure_ f = true) (hr : AV.noRefs args = true) {Q : COut → Prop}
    (hb : WP E af.body ⟨Slots.ofList 0 args .empty, .empty⟩ (fun e s => match e with
      | .norm | .ret => ∃ vs v n, E.results s af.results = some vs ∧ freeze s.h n (oneOrTup vs) = some v ∧ (∀ m, n ≤ m → freeze s.h m (oneOrTup vs) = some v) ∧ Q (.ret ⟨v, h, .none⟩)
      | _ => False)) : WC E f args h Q := by
  obtain ⟨e, s1, ⟨n, hn⟩, hq⟩ := hb
  have key : ∀ vs v k, freeze s1.h k (oneOrTup vs) = some v → (∀ m, k ≤ m → freeze s1.h m (oneOrTup vs) = some v) → Q (.ret ⟨v, h, .none⟩) → (∀ m, n ≤ m → E.body (E.call m) m af args .empty = some (.ret ⟨oneOrTup vs, s1.h, .write⟩)) → WC E f args h Q := by
    intro vs v k hk hkm ho hall
    refine ⟨_, ⟨n + k + 1, fun m hm => ?_⟩, ho⟩
    cases m with
    | zero => omega
    | succ m =>
      simp only [Env.call, hp, hf, Option.bind_some, hu, hr]
      rw [hall m (by omega)]
      simp [hkm m (by omega)]
  cases e with
  | norm =>
    obtain ⟨vs, v, k, hvs, hk, hkm, hq⟩ := hq
    exact key _ _ _ hk hkm hq fun m hm => by simp only [Env.body]; rw [hn m hm]; simp [hvs]
  | ret =>
    obtain ⟨vs, v, k, hvs, hk, hkm, hq⟩ := hq
    exact key _ _ _ hk hkm hq fun m hm => by simp only [Env.body]; rw [hn m hm]; simp [hvs]
  | panic v => exact hq.elim
  | exit id => exact hq.elim

/-! ### regions whose order is open -/
theorem wpl_nil {s : St} {Q : St → List (AOper × St × Cls) → Prop} (h : Q s []) : WPl E [] s Q := ⟨_, _, ⟨0, fun m _ => rfl⟩, h⟩

theorem wpl_cons {o : AOper} {l : List AOper} {s s1 : St} {c : Cls} {Q : St → List (AOper × St × Cls) → Prop} (h : ∃ n, ∀ m, n ≤ m → E.one (E.call m) o s = some (s1, c, none)) (hl : WPl E l s1 (fun s' log => Q s' ((o, s, c) :: log))) : WPl E (o :: l) s Q := by
  obtain ⟨n, hn⟩ := h
  obtain ⟨s2, log, ⟨k, hk⟩, hq⟩ := hl
  refine ⟨s2, _, ⟨max n k, fun m hm => ?_⟩, hq⟩
  simp only [Env.opsLog]
  rw [hn m (by omega)]
  simp [hk m (by omega)]

theorem wpl_op {d : Option Nat} {op : AOp} (hp : op.calls = false) {l : List AOper} {σ : Slots} {h : Heap} {Q : St → List (AOper × St × Cls) → Prop} :
    (∃ r, E.op σ h op = some r ∧ WPl E l (St.put ⟨σ, h⟩ d r.v r.h) (fun s' log => Q s' ((⟨d, op, none⟩, ⟨σ, h⟩, r.c) :: log))) → WPl E (⟨d, op, none⟩ :: l) ⟨σ, h⟩ Q := by
  rintro ⟨r, hr, hl⟩
  exact wpl_cons (c := r.c) ⟨0, fun m _ => by simp [Env.one, AOper.wanted, act_plain hp, hr]⟩ hl

theorem wpl_guard {d : Option Nat} {op : AOp} {t : Nat} {w b : Bool} {l : List AOper} {σ : Slots} {h : Heap} {Q : St → List (AOper × St × Cls) → Prop} (hb : σ.get t = .bool b)
    (h1 : b = w → ∃ s1 c, (∃ n, ∀ m, n ≤ m → E.one (E.call m) ⟨d, op, none⟩ ⟨σ, h⟩ = some (s1, c, none)) ∧ WPl E l s1 (fun s' log => Q s' ((⟨d, op, some (t, w)⟩, ⟨σ, h⟩, c) :: log)))
    (h2 : b ≠ w → WPl E l (St.put ⟨σ, h⟩ d .undef h) (fun s' log => Q s' ((⟨d, op, some (t, w)⟩, ⟨σ, h⟩, .none) :: log))) : WPl E (⟨d, op, some (t, w)⟩ :: l) ⟨σ, h⟩ Q := by
  by_cases he : b = w
  · obtain ⟨s1, c, ⟨n, hn⟩, hl⟩ := h1 he
    refine wpl_cons ⟨n, fun m hm => ?_⟩ hl
    rw [← hn m hm]
    simp [Env.one, AOper.wanted, hb, he]
  · have hbw : (b == w) = false := by simp [he]
    exact wpl_cons ⟨0, fun m _ => by simp only [Env.one, AOper.wanted, hb, hbw]⟩ (h2 he)

theorem wpl_call {d : Option Nat} {f : Nat} {args : List Opd} {l : List AOper} {σ : Slots} {h : Heap} {Q : St → List (AOper × St × Cls) → Prop} :
    (∃ vs, E.opds σ args = some vs ∧ WC E f vs h (fun | .ret r => WPl E l (St.put ⟨σ, h⟩ d r.v r.h) (fun s' log => Q s' ((⟨d, .call f args, none⟩, ⟨σ, h⟩, r.c) :: log)) | .panic v h' => False)) → WPl E (⟨d, .call f args, none⟩ :: l) ⟨σ, h⟩ Q := by
  rintro ⟨vs, hvs, o, ⟨n, hn⟩, hq⟩
  cases o with
  | ret r => exact wpl_cons (c := r.c) ⟨n, fun m hm => by simp [Env.one, AOper.wanted, Env.act, hvs, hn m hm]⟩ hq
  | panic v h' => exact hq.elim

theorem wp_draw {l : List AOper} {b : List Nat} {s : St} {Q : AExit → St → Prop} (h : WPl E l s (fun s' log => E.drawOk (s'.h :: log.map (fun x => x.2.1.h)) 0 log b = true ∧ Q .norm s')) : WP E (.draw l b) s Q := by
  obtain ⟨s1, log, ⟨n, hn⟩, h1, h2⟩ := h
  refine ⟨_, s1, ⟨n, fun m hm => ?_⟩, h2⟩
  simp only [Env.code, Env.draws]
  rw [hn m hm]
  simp [h1]
end
end Go.AM
