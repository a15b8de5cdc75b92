/-
  A region that draws its order, as one step: what is behind it is not looked at meanwhile.
-/
import Derived.Test.YtpggjddiddmkkaaGreatDoorAmCore
set_option linter.unusedSimpArgs false
set_option linter.unusedVariables false
namespace Go.AM
section
variable (E : Env)
/-- The code ends, so. -/
def WP (c : AC) (s : St) (Q : AExit → St → Prop) : Prop := ∃ e s', (∃ n, ∀ m, n ≤ m → E.code (E.call m) m c s = some (e, s')) ∧ Q e s'
def WPo (l : List AOper) (s : St) (Q : AExit → St → Prop) : Prop := ∃ e s', (∃ n, ∀ m, n ≤ m → E.ops (E.call m) l s = some (e, s')) ∧ Q e s'
def WC (f : Nat) (args : List AV) (h : Heap) (Q : COut → Prop) : Prop := ∃ o, (∃ n, ∀ m, n ≤ m → E.call m f args h = some o) ∧ Q o
/-- in the order of the text, with the log -/
def WPl (l : List AOper) (s : St) (Q : St → List (AOper × St × Cls) → Prop) : Prop := ∃ s' log, (∃ n, ∀ m, n ≤ m → E.opsLog (E.call m) l s = some (s', log)) ∧ Q s' log
end
section
variable {E : Env}
theorem WP.mono {c : AC} {s : St} {Q R : AExit → St → Prop} (h : WP E c s Q) (hr : ∀ e s', Q e s' → R e s') : WP E c s R := by
  obtain ⟨e, s', h1, h2⟩ := h; exact ⟨e, s', h1, hr _ _ h2⟩
theorem WC.mono {f : Nat} {args : List AV} {h : Heap} {Q R : COut → Prop} (k : WC E f args h Q) (hr : ∀ o, Q o → R o) : WC E f args h R := by
  obtain ⟨o, h1, h2⟩ := k; exact ⟨o, h1, hr _ h2⟩
theorem wp_skip {s : St} {Q : AExit → St → Prop} (h : Q .norm s) : WP E .skip s Q := ⟨_, _, ⟨0, fun m _ => rfl⟩, h⟩
theorem wp_ret {s : St} {Q : AExit → St → Prop} (h : Q .ret s) : WP E .ret s Q := ⟨_, _, ⟨0, fun m _ => rfl⟩, h⟩
theorem wp_exit {id : Nat} {s : St} {Q : AExit → St → Prop} (h : Q (.exit id) s) : WP E (.exit id) s Q := ⟨_, _, ⟨0, fun m _ => rfl⟩, h⟩
theorem wp_scope {b : AC} {s : St} {Q : AExit → St → Prop} (h : WP E b s Q) : WP E (.scope b) s Q := h
theorem wp_ops {l : List AOper} {s : St} {Q : AExit → St → Prop} (h : WPo E l s Q) : WP E (.ops l) s Q := h
/-- behind a piece that ends as usual -/
def thenQ (E : Env) (b : AC) (Q : AExit → St → Prop) : AExit → St → Prop
  | .norm, s => WP E b s Q
  | e, s => Q e s
theorem wp_seq {a b : AC} {s : St} {Q : AExit → St → Prop} (h : WP E a s (thenQ E b Q)) : WP E (.seq a b) s Q := by
  obtain ⟨e, s1, ⟨n, hn⟩, hq⟩ := h
  have other : (∀ m, n ≤ m → E.code (E.call m) m (.seq a b) s = some (e, s1)) → Q e s1 → WP E (.seq a b) s Q := fun h1 h2 => ⟨e, s1, ⟨n, h1⟩, h2⟩
  cases e with
  | norm =>
    obtain ⟨e2, s2, ⟨k, hk⟩, hq2⟩ := hq
    refine ⟨e2, s2, ⟨max n k, fun m hm => ?_⟩, hq2⟩
    simp only [Env.code]
    rw [hn m (by omega)]
    exact hk m (by omega)
  | ret => exact other (fun m hm => by simp only [Env.code]; rw [hn m hm]; rfl) hq
  | exit id => exact other (fun m hm => by simp only [Env.code]; rw [hn m hm]; rfl) hq
  | panic v => exact other (fun m hm => by simp only [Env.code]; rw [hn m hm]; rfl) hq
theorem wp_cond {c : Opd} {x y : AC} {s : St} {Q : AExit → St → Prop} {b : Bool} (hb : E.opd s.σ c = some (.bool b)) (ht : b = true → WP E x s Q) (hf : b = false → WP E y s Q) : WP E (.cond c x y) s Q := by
  cases b with
  | true =>
    obtain ⟨e, s1, ⟨n, hn⟩, hq⟩ := ht rfl
    exact ⟨e, s1, ⟨n, fun m hm => by simp only [Env.code]; rw [hb]; exact hn m hm⟩, hq⟩
  | false =>
    obtain ⟨e, s1, ⟨n, hn⟩, hq⟩ := hf rfl
    exact ⟨e, s1, ⟨n, fun m hm => by simp only [Env.code]; rw [hb]; exact hn m hm⟩, hq⟩
def blockQ (id : Nat) (Q : AExit → St → Prop) : AExit → St → Prop
  | .exit id', s => if id' = id then Q .norm s else Q (.exit id') s
  | e, s => Q e s
theorem wp_block {id : Nat} {b : AC} {s : St} {Q : AExit → St → Prop} (h : WP E b s (blockQ id Q)) : WP E (.block id b) s Q := by
  obtain ⟨e, s1, ⟨n, hn⟩, hq⟩ := h
  cases e with
  | exit id' =>
    simp only [blockQ] at hq
    by_cases hid : id' = id
    · rw [if_pos hid] at hq
      exact ⟨.norm, s1, ⟨n, fun m hm => by simp only [Env.code]; rw [hn m hm]; simp [hid]⟩, hq⟩
    · rw [if_neg hid] at hq
      exact ⟨.exit id', s1, ⟨n, fun m hm => by simp only [Env.code]; rw [hn m hm]; simp [hid]⟩, hq⟩
  | norm => exact ⟨_, s1, ⟨n, fun m hm => by simp only [Env.code]; rw [hn m hm]; rfl⟩, hq⟩
  | ret => exact ⟨_, s1, ⟨n, fun m hm => by simp only [Env.code]; rw [hn m hm]; rfl⟩, hq⟩
  | panic v => exact ⟨_, s1, ⟨n, fun m hm => by simp only [Env.code]; rw [hn m hm]; rfl⟩, hq⟩
theorem loopN_more {f : St → Option (AExit × St)} : ∀ (n : Nat) (s : St) (r : AExit × St), loopN f n s = some r → ∀ m, n ≤ m → loopN f m s = some r
  | 0, _, _, h, _, _ => by cases h
  | n + 1, s, r, h, m, hm => by
    cases m with
    | zero => omega
    | succ m =>
      simp only [loopN, Option.bind_eq_some_iff] at h ⊢
      obtain ⟨⟨e, s1⟩, h1, h2⟩ := h
      refine ⟨(e, s1), h1, ?_⟩
      cases e with
      | norm => exact loopN_more n s1 r h2 m (by omega)
      | _ => exact h2
/-- The rounds of a loop. -/
def WPr (E : Env) (b : AC) (s : St) (Q : AExit → St → Prop) : Prop := ∃ e s', (∃ n k, ∀ m, n ≤ m → loopN (E.code (E.call m) m b) k s = some (e, s')) ∧ Q e s'
theorem wp_loop {b : AC} {s : St} {Q : AExit → St → Prop} (h : WPr E b s Q) : WP E (.loop b) s Q := by
  obtain ⟨e, s1, ⟨n, k, hn⟩, hq⟩ := h
  exact ⟨e, s1, ⟨max n k, fun m hm => loopN_more k s _ (hn m (by omega)) m (by omega)⟩, hq⟩
def roundQ (E : Env) (b : AC) (Q : AExit → St → Prop) : AExit → St → Prop
  | .norm, s => WPr E b s Q
  | e, s => Q e s
theorem wp_round {b : AC} {s : St} {Q : AExit → St → Prop} (h : WP E b s (roundQ E b Q)) : WPr E b s Q := by
  obtain ⟨e, s1, ⟨n, hn⟩, hq⟩ := h
  have other : e ≠ .norm → (Q e s1) → WPr E b s Q := by
    intro hne hq
    refine ⟨e, s1, ⟨n, 1, fun m hm => ?_⟩, hq⟩
    simp only [loopN]
    rw [hn m hm]
    cases e <;> first | exact absurd rfl hne | rfl
  cases e with
  | norm =>
    obtain ⟨e2, s2, ⟨n2, k, hk⟩, hq2⟩ := hq
    refine ⟨e2, s2, ⟨max n n2, k + 1, fun m hm => ?_⟩, hq2⟩
    simp only [loopN]
    rw [hn m (by omega)]
    exact hk m (by omega)
  | ret => exact other (by simp) hq
  | exit id => exact other (by simp) hq
  | panic v => exact other (by simp) hq
@[simp] theorem wpo_nil {s : St} {Q : AExit → St → Prop} : WPo E [] s Q ↔ Q .norm s := by
  constructor
  · rintro ⟨e, s', ⟨n, hn⟩, hq⟩
    have := hn n (Nat.le_refl _)
    simp only [Env.ops, Option.some.injEq, Prod.mk.injEq] at this
    obtain ⟨rfl, rfl⟩ := this
    exact hq
  · intro h; exact ⟨_, _, ⟨0, fun m _ => rfl⟩, h⟩
def AOp.calls : AOp → Bool
  | .call .. | .callv .. | .panic _ => true
  | _ => false
theorem act_plain {C : CallF} {σ : Slots} {h : Heap} {op : AOp} (hp : op.calls = false) : E.act C σ h op = (E.op σ h op).map COut.ret := by
  cases op <;> first | rfl | simp [AOp.calls] at hp
theorem wpo_cons {o : AOper} {l : List AOper} {s s1 : St} {c : Cls} {Q : AExit → St → Prop} (h : ∃ n, ∀ m, n ≤ m → E.one (E.call m) o s = some (s1, c, none)) (hl : WPo E l s1 Q) : WPo E (o :: l) s Q := by
  obtain ⟨n, hn⟩ := h
  obtain ⟨e, s2, ⟨k, hk⟩, hq⟩ := hl
  refine ⟨e, s2, ⟨max n k, fun m hm => ?_⟩, hq⟩
  simp only [Env.ops]
  rw [hn m (by omega)]
  exact hk m (by omega)
/-- an operation that calls nothing -/
theorem wpo_op {d : Option Nat} {op : AOp} (hp : op.calls = false) {l : List AOper} {σ : Slots} {h : Heap} {Q : AExit → St → Prop} :
    (∃ r, E.op σ h op = some r ∧ WPo E l (St.put ⟨σ, h⟩ d r.v r.h) Q) → WPo E (⟨d, op, none⟩ :: l) ⟨σ, h⟩ Q := by
  rintro ⟨r, hr, hl⟩
  exact wpo_cons (c := r.c) ⟨0, fun m _ => by simp [Env.one, AOper.wanted, act_plain hp, hr]⟩ hl
theorem wpo_op_iff {d : Option Nat} {op : AOp} (hp : op.calls = false) {l : List AOper} {σ : Slots} {h : Heap} {Q : AExit → St → Prop} :
    WPo E (⟨d, op, none⟩ :: l) ⟨σ, h⟩ Q ↔ ∃ r, E.op σ h op = some r ∧ WPo E l (St.put ⟨σ, h⟩ d r.v r.h) Q := by
  refine ⟨?_, wpo_op hp⟩
  rintro ⟨e, s', ⟨n, hn⟩, hq⟩
  cases hr : E.op σ h op with
  | none =>
    have := hn n (Nat.le_refl _)
    simp [Env.ops, Env.one, AOper.wanted, act_plain hp, hr] at this
  | some r =>
    refine ⟨r, rfl, e, s', ⟨n, fun m hm => ?_⟩, hq⟩
    have := hn m hm
    simpa [Env.ops, Env.one, AOper.wanted, act_plain hp, hr] using this
end
section
variable {E : Env} {d : Option Nat} {l : List AOper} {σ : Slots} {h : Heap} {Q : AExit → St → Prop}
@[simp] theorem wpo_mv {x} : WPo E (⟨d, .mv x, none⟩ :: l) ⟨σ, h⟩ Q ↔ ∃ r, E.op σ h (.mv x) = some r ∧ WPo E l (St.put ⟨σ, h⟩ d r.v r.h) Q := wpo_op_iff rfl
@[simp] theorem wpo_pick {c a b} : WPo E (⟨d, .pick c a b, none⟩ :: l) ⟨σ, h⟩ Q ↔ ∃ r, E.op σ h (.pick c a b) = some r ∧ WPo E l (St.put ⟨σ, h⟩ d r.v r.h) Q := wpo_op_iff rfl
@[simp] theorem wpo_alloc {z} : WPo E (⟨d, .alloc z, none⟩ :: l) ⟨σ, h⟩ Q ↔ ∃ r, E.op σ h (.alloc z) = some r ∧ WPo E l (St.put ⟨σ, h⟩ d r.v r.h) Q := wpo_op_iff rfl
@[simp] theorem wpo_box {fr sz x} : WPo E (⟨d, .box fr sz x, none⟩ :: l) ⟨σ, h⟩ Q ↔ ∃ r, E.op σ h (.box fr sz x) = some r ∧ WPo E l (St.put ⟨σ, h⟩ d r.v r.h) Q := wpo_op_iff rfl
@[simp] theorem wpo_build {z ps} : WPo E (⟨d, .build z ps, none⟩ :: l) ⟨σ, h⟩ Q ↔ ∃ r, E.op σ h (.build z ps) = some r ∧ WPo E l (St.put ⟨σ, h⟩ d r.v r.h) Q := wpo_op_iff rfl
@[simp] theorem wpo_lit {fr sz n cs ps} : WPo E (⟨d, .lit fr sz n cs ps, none⟩ :: l) ⟨σ, h⟩ Q ↔ ∃ r, E.op σ h (.lit fr sz n cs ps) = some r ∧ WPo E l (St.put ⟨σ, h⟩ d r.v r.h) Q := wpo_op_iff rfl
@[simp] theorem wpo_load {ag sz x} : WPo E (⟨d, .load ag sz x, none⟩ :: l) ⟨σ, h⟩ Q ↔ ∃ r, E.op σ h (.load ag sz x) = some r ∧ WPo E l (St.put ⟨σ, h⟩ d r.v r.h) Q := wpo_op_iff rfl
@[simp] theorem wpo_store {sz x y} : WPo E (⟨d, .store sz x y, none⟩ :: l) ⟨σ, h⟩ Q ↔ ∃ r, E.op σ h (.store sz x y) = some r ∧ WPo E l (St.put ⟨σ, h⟩ d r.v r.h) Q := wpo_op_iff rfl
@[simp] theorem wpo_nilCheck {x} : WPo E (⟨d, .nilCheck x, none⟩ :: l) ⟨σ, h⟩ Q ↔ ∃ r, E.op σ h (.nilCheck x) = some r ∧ WPo E l (St.put ⟨σ, h⟩ d r.v r.h) Q := wpo_op_iff rfl
@[simp] theorem wpo_bin {o x y} : WPo E (⟨d, .bin o x y, none⟩ :: l) ⟨σ, h⟩ Q ↔ ∃ r, E.op σ h (.bin o x y) = some r ∧ WPo E l (St.put ⟨σ, h⟩ d r.v r.h) Q := wpo_op_iff rfl
@[simp] theorem wpo_eq {ng e x y} : WPo E (⟨d, .eq ng e x y, none⟩ :: l) ⟨σ, h⟩ Q ↔ ∃ r, E.op σ h (.eq ng e x y) = some r ∧ WPo E l (St.put ⟨σ, h⟩ d r.v r.h) Q := wpo_op_iff rfl
@[simp] theorem wpo_un {o x} : WPo E (⟨d, .un o x, none⟩ :: l) ⟨σ, h⟩ Q ↔ ∃ r, E.op σ h (.un o x) = some r ∧ WPo E l (St.put ⟨σ, h⟩ d r.v r.h) Q := wpo_op_iff rfl
@[simp] theorem wpo_conv {c x} : WPo E (⟨d, .conv c x, none⟩ :: l) ⟨σ, h⟩ Q ↔ ∃ r, E.op σ h (.conv c x) = some r ∧ WPo E l (St.put ⟨σ, h⟩ d r.v r.h) Q := wpo_op_iff rfl
@[simp] theorem wpo_mkIface {t x} : WPo E (⟨d, .mkIface t x, none⟩ :: l) ⟨σ, h⟩ Q ↔ ∃ r, E.op σ h (.mkIface t x) = some r ∧ WPo E l (St.put ⟨σ, h⟩ d r.v r.h) Q := wpo_op_iff rfl
@[simp] theorem wpo_mkFunc {f a b} : WPo E (⟨d, .mkFunc f a b, none⟩ :: l) ⟨σ, h⟩ Q ↔ ∃ r, E.op σ h (.mkFunc f a b) = some r ∧ WPo E l (St.put ⟨σ, h⟩ d r.v r.h) Q := wpo_op_iff rfl
@[simp] theorem wpo_makeSlice {sz by_ z a b} : WPo E (⟨d, .makeSlice sz by_ z a b, none⟩ :: l) ⟨σ, h⟩ Q ↔ ∃ r, E.op σ h (.makeSlice sz by_ z a b) = some r ∧ WPo E l (St.put ⟨σ, h⟩ d r.v r.h) Q := wpo_op_iff rfl
@[simp] theorem wpo_slice {sz x lo hi mx} : WPo E (⟨d, .slice sz x lo hi mx, none⟩ :: l) ⟨σ, h⟩ Q ↔ ∃ r, E.op σ h (.slice sz x lo hi mx) = some r ∧ WPo E l (St.put ⟨σ, h⟩ d r.v r.h) Q := wpo_op_iff rfl
@[simp] theorem wpo_sliceStr {x lo hi} : WPo E (⟨d, .sliceStr x lo hi, none⟩ :: l) ⟨σ, h⟩ Q ↔ ∃ r, E.op σ h (.sliceStr x lo hi) = some r ∧ WPo E l (St.put ⟨σ, h⟩ d r.v r.h) Q := wpo_op_iff rfl
@[simp] theorem wpo_sliceArr {sz n x lo hi mx} : WPo E (⟨d, .sliceArr sz n x lo hi mx, none⟩ :: l) ⟨σ, h⟩ Q ↔ ∃ r, E.op σ h (.sliceArr sz n x lo hi mx) = some r ∧ WPo E l (St.put ⟨σ, h⟩ d r.v r.h) Q := wpo_op_iff rfl
@[simp] theorem wpo_fieldAddr {o x} : WPo E (⟨d, .fieldAddr o x, none⟩ :: l) ⟨σ, h⟩ Q ↔ ∃ r, E.op σ h (.fieldAddr o x) = some r ∧ WPo E l (St.put ⟨σ, h⟩ d r.v r.h) Q := wpo_op_iff rfl
@[simp] theorem wpo_field {ag sz o x} : WPo E (⟨d, .field ag sz o x, none⟩ :: l) ⟨σ, h⟩ Q ↔ ∃ r, E.op σ h (.field ag sz o x) = some r ∧ WPo E l (St.put ⟨σ, h⟩ d r.v r.h) Q := wpo_op_iff rfl
@[simp] theorem wpo_idxAddr {sz x i} : WPo E (⟨d, .idxAddr sz x i, none⟩ :: l) ⟨σ, h⟩ Q ↔ ∃ r, E.op σ h (.idxAddr sz x i) = some r ∧ WPo E l (St.put ⟨σ, h⟩ d r.v r.h) Q := wpo_op_iff rfl
@[simp] theorem wpo_idxAddrArr {sz n x i} : WPo E (⟨d, .idxAddrArr sz n x i, none⟩ :: l) ⟨σ, h⟩ Q ↔ ∃ r, E.op σ h (.idxAddrArr sz n x i) = some r ∧ WPo E l (St.put ⟨σ, h⟩ d r.v r.h) Q := wpo_op_iff rfl
@[simp] theorem wpo_idxStr {x i} : WPo E (⟨d, .idxStr x i, none⟩ :: l) ⟨σ, h⟩ Q ↔ ∃ r, E.op σ h (.idxStr x i) = some r ∧ WPo E l (St.put ⟨σ, h⟩ d r.v r.h) Q := wpo_op_iff rfl
@[simp] theorem wpo_idxArr {ag sz n x i} : WPo E (⟨d, .idxArr ag sz n x i, none⟩ :: l) ⟨σ, h⟩ Q ↔ ∃ r, E.op σ h (.idxArr ag sz n x i) = some r ∧ WPo E l (St.put ⟨σ, h⟩ d r.v r.h) Q := wpo_op_iff rfl
@[simp] theorem wpo_extract {x i} : WPo E (⟨d, .extract x i, none⟩ :: l) ⟨σ, h⟩ Q ↔ ∃ r, E.op σ h (.extract x i) = some r ∧ WPo E l (St.put ⟨σ, h⟩ d r.v r.h) Q := wpo_op_iff rfl
@[simp] theorem wpo_len {b x} : WPo E (⟨d, .len b x, none⟩ :: l) ⟨σ, h⟩ Q ↔ ∃ r, E.op σ h (.len b x) = some r ∧ WPo E l (St.put ⟨σ, h⟩ d r.v r.h) Q := wpo_op_iff rfl
@[simp] theorem wpo_append {sz by_ x y} : WPo E (⟨d, .append sz by_ x y, none⟩ :: l) ⟨σ, h⟩ Q ↔ ∃ r, E.op σ h (.append sz by_ x y) = some r ∧ WPo E l (St.put ⟨σ, h⟩ d r.v r.h) Q := wpo_op_iff rfl
@[simp] theorem wpo_minmax {m x y} : WPo E (⟨d, .minmax m x y, none⟩ :: l) ⟨σ, h⟩ Q ↔ ∃ r, E.op σ h (.minmax m x y) = some r ∧ WPo E l (St.put ⟨σ, h⟩ d r.v r.h) Q := wpo_op_iff rfl
@[simp] theorem put_some {d : Nat} {v : AV} {h' : Heap} : St.put ⟨σ, h⟩ (some d) v h' = ⟨σ.put d v, h'⟩ := rfl
@[simp] theorem put_none {v : AV} {h' : Heap} : St.put ⟨σ, h⟩ none v h' = ⟨σ, h'⟩ := rfl
theorem get_put (σ : Slots) (d : Nat) (v : AV) (t : Nat) : (σ.put d v).get t = if t = d then v else σ.get t := by
  have h := Tr.get_set (α := AV) σ d t (some v)
  unfold Slots.get Slots.put
  rw [h]
  by_cases ht : t = d
  · rw [if_pos ht, if_pos ht]
  · rw [if_neg ht, if_neg ht]
@[simp] theorem opd_t {t : Nat} : E.opd σ (.t t) = some (σ.get t) := rfl
@[simp] theorem opd_c {v : AV} : E.opd σ (.c v) = some v := rfl
@[simp] theorem thenQ_norm {b : AC} {s : St} : thenQ E b Q .norm s = WP E b s Q := rfl
@[simp] theorem thenQ_ret {b : AC} {s : St} : thenQ E b Q .ret s = Q .ret s := rfl
@[simp] theorem thenQ_exit {b : AC} {s : St} {id : Nat} : thenQ E b Q (.exit id) s = Q (.exit id) s := rfl
@[simp] theorem thenQ_panic {b : AC} {s : St} {v : AV} : thenQ E b Q (.panic v) s = Q (.panic v) s := rfl
@[simp] theorem roundQ_norm {b : AC} {s : St} : roundQ E b Q .norm s = WPr E b s Q := rfl
@[simp] theorem roundQ_ret {b : AC} {s : St} : roundQ E b Q .ret s = Q .ret s := rfl
@[simp] theorem roundQ_exit {b : AC} {s : St} {id : Nat} : roundQ E b Q (.exit id) s = Q (.exit id) s := rfl
@[simp] theorem blockQ_norm {id : Nat} {s : St} : blockQ id Q .norm s = Q .norm s := rfl
@[simp] theorem blockQ_ret {id : Nat} {s : St} : blockQ id Q .ret s = Q .ret s := rfl
@[simp] theorem blockQ_exit {id id' : Nat} {s : St} : blockQ id Q (.exit id') s = if id' = id then Q .norm s else Q (.exit id') s := rfl
end
section
variable {E : Env}
theorem wc_body {f : Nat} {af : AFunc} (hp : E.prim f = none) (hf : E.func f = some af) {args : List AV} {h : Heap} (hu : E.pure_ f = false ∨ AV.noRefs args = false) {Q : COut → Prop}
    (hb : WP E af.body ⟨Slots.ofList 0 args .empty, h⟩ (fun e s => match e with
      | .norm | .ret => ∃ vs, E.results s af.results = some vs ∧ Q (.ret ⟨oneOrTup vs, s.h, .write⟩)
      | .panic v => Q (.panic v s.h)
      | .exit _ => False)) : WC E f args h Q := by
  obtain ⟨e, s1, ⟨n, hn⟩, hq⟩ := hb
  have key : ∀ o, Q o → (∀ m, n ≤ m → E.body (E.call m) m af args h = some o) → WC E f args h Q := by
    intro o ho hall
    refine ⟨o, ⟨n + 1, fun m hm => ?_⟩, ho⟩
    cases m with
    | zero => omega
    | succ m =>
      simp only [Env.call, hp, hf, Option.bind_some]
      rcases hu with hu | hu
      · rw [hu]; exact hall m (by omega)
      · cases hpf : E.pure_ f with
        | false => exact hall m (by omega)
        | true => rw [hu]; exact hall m (by omega)
  cases e with
  | norm =>
    obtain ⟨vs, hvs, hq⟩ := hq
    exact key _ hq fun m hm => by simp only [Env.body]; rw [hn m hm]; simp [hvs]
  | ret =>
    obtain ⟨vs, hvs, hq⟩ := hq
    exact key _ hq fun m hm => by simp only [Env.body]; rw [hn m hm]; simp [hvs]
  | panic v => exact key _ hq fun m hm => by simp only [Env.body]; rw [hn m hm]; rfl
  | exit id => exact hq.elim
/-- a call that does not look at the caller's heap -/
theorem wc_pure {f : Nat} {af : AFunc} (hp : E.prim f = none) (hf : E.func f = some af) {args : List AV} {h : Heap} (hu : E.pure_ f = true) (hr : AV.noRefs args = true) {Q : COut → Prop}
    (hb : WP E af.body ⟨Slots.ofList 0 args .empty, .empty⟩ (fun e s => match e with
      | .norm | .ret => ∃ vs v n, E.results s af.results = some vs ∧ freeze s.h n (oneOrTup vs) = some v ∧ (∀ m, n ≤ m → freeze s.h m (oneOrTup vs) = some v) ∧ Q (.ret ⟨v, h, .none⟩)
      | _ => False)) : WC E f args h Q := by
  obtain ⟨e, s1, ⟨n, hn⟩, hq⟩ := hb
  have key : ∀ vs v k, freeze s1.h k (oneOrTup vs) = some v → (∀ m, k ≤ m → freeze s1.h m (oneOrTup vs) = some v) → Q (.ret ⟨v, h, .none⟩) → (∀ m, n ≤ m → E.body (E.call m) m af args .empty = some (.ret ⟨oneOrTup vs, s1.h, .write⟩)) → WC E f args h Q := by
    intro vs v k hk hkm ho hall
    refine ⟨_, ⟨n + k + 1, fun m hm => ?_⟩, ho⟩
    cases m with
    | zero => omega
    | succ m =>
      simp only [Env.call, hp, hf, Option.bind_some, hu, hr]
      rw [hall m (by omega)]
      simp [hkm m (by omega)]
  cases e with
  | norm =>
    obtain ⟨vs, v, k, hvs, hk, hkm, hq⟩ := hq
    exact key _ _ _ hk hkm hq fun m hm => by simp only [Env.body]; rw [hn m hm]; simp [hvs]
  | ret =>
    obtain ⟨vs, v, k, hvs, hk, hkm, hq⟩ := hq
    exact key _ _ _ hk hkm hq fun m hm => by simp only [Env.body]; rw [hn m hm]; simp [hvs]
  | panic v => exact hq.elim
  | exit id => exact hq.elim
theorem wpl_nil {s : St} {Q : St → List (AOper × St × Cls) → Prop} (h : Q s []) : WPl E [] s Q := ⟨_, _, ⟨0, fun m _ => rfl⟩, h⟩
theorem wpl_cons {o : AOper} {l : List AOper} {s s1 : St} {c : Cls} {Q : St → List (AOper × St × Cls) → Prop} (h : ∃ n, ∀ m, n ≤ m → E.one (E.call m) o s = some (s1, c, none)) (hl : WPl E l s1 (fun s' log => Q s' ((o, s, c) :: log))) : WPl E (o :: l) s Q := by
  obtain ⟨n, hn⟩ := h
  obtain ⟨s2, log, ⟨k, hk⟩, hq⟩ := hl
  refine ⟨s2, _, ⟨max n k, fun m hm => ?_⟩, hq⟩
  simp only [Env.opsLog]
  rw [hn m (by omega)]
  simp [hk m (by omega)]
theorem wp_draw {l : List AOper} {b : List Nat} {s : St} {Q : AExit → St → Prop} (h : WPl E l s (fun s' log => E.drawOk (s'.h :: log.map (fun x => x.2.1.h)) 0 log b = true ∧ Q .norm s')) : WP E (.draw l b) s Q := by
  obtain ⟨s1, log, ⟨n, hn⟩, h1, h2⟩ := h
  refine ⟨_, s1, ⟨n, fun m hm => ?_⟩, h2⟩
  simp only [Env.code, Env.draws]
  rw [hn m hm]
  simp [h1]
end
end Go.AM

set_option linter.unusedSimpArgs false
set_option linter.unusedVariables false
namespace Go.AM
/-- what a guard comes to: of an operation that was itself passed over: passed over -/
def gval (w : Bool) : AV → AV
  | .undef => .bool (!w)
  | v => v
@[simp] theorem gval_bool {w b : Bool} : gval w (.bool b) = .bool b := id rfl
section
variable (E : Env)
/-- one operation, without its guard -/
def wp1 (op : AOp) (d : Option Nat) (s : St) (K : St → Cls → Prop) (Q : AExit → St → Prop) : Prop :=
  match op with
  | .call f args => ∃ vs, E.opds s.σ args = some vs ∧ WC E f vs s.h (fun o => match o with | .ret r => K (s.put d r.v r.h) r.c | .panic v h => Q (.panic v) ⟨s.σ, h⟩)
  | .callv f args => ∃ g first cap vs, E.opd s.σ f = some (.fn (.func g) first cap) ∧ E.opds s.σ args = some vs ∧ WC E g (first ++ vs ++ cap) s.h (fun o => match o with | .ret r => K (s.put d r.v r.h) r.c | .panic v h => Q (.panic v) ⟨s.σ, h⟩)
  | .panic x => ∃ t v, E.opd s.σ x = some (.ifc t v) ∧ Q (.panic (.ifc t v)) s
  | op => ∃ r, E.op s.σ s.h op = some r ∧ K (s.put d r.v r.h) r.c
def wpo : List AOper → St → (AExit → St → Prop) → Prop
  | [], s, Q => Q .norm s
  | o :: l, s, Q =>
    match o.guard with
    | none => wp1 E o.op o.dst s (fun s' _ => wpo l s' Q) Q
    | some (t, w) => ∃ b, gval w (s.σ.get t) = .bool b ∧ (if b = w then wp1 E o.op o.dst s (fun s' _ => wpo l s' Q) Q else wpo l (s.put o.dst .undef s.h) Q)
def wpl : List AOper → St → (St → List (AOper × St × Cls) → Prop) → Prop
  | [], s, Q => Q s []
  | o :: l, s, Q =>
    match o.guard with
    | none => wp1 E o.op o.dst s (fun s' c => wpl l s' (fun s2 log => Q s2 ((o, s, c) :: log))) (fun _ _ => False)
    | some (t, w) => ∃ b, gval w (s.σ.get t) = .bool b ∧ (if b = w then wp1 E o.op o.dst s (fun s' c => wpl l s' (fun s2 log => Q s2 ((o, s, c) :: log))) (fun _ _ => False)
        else wpl l (s.put o.dst .undef s.h) (fun s2 log => Q s2 ((o, s, .none) :: log)))
def wpc : AC → St → (AExit → St → Prop) → Prop
  | .skip, s, Q => Q .norm s
  | .ops l, s, Q => wpo E l s Q
  | .draw l b, s, Q => wpl E l s (fun s' log => E.drawOk (s'.h :: log.map (fun x => x.2.1.h)) 0 log b = true ∧ Q .norm s')
  | .seq a b, s, Q => wpc a s (fun e s' => match e with | .norm => wpc b s' Q | e => Q e s')
  | .cond c x y, s, Q => ∃ b, E.opd s.σ c = some (.bool b) ∧ (if b = true then wpc x s Q else wpc y s Q)
  | .block id b, s, Q => wpc b s (fun e s' => match e with | .exit id' => if id' = id then Q .norm s' else Q (.exit id') s' | e => Q e s')
  | .loop b, s, Q => WPr E b s Q
  | .exit id, s, Q => Q (.exit id) s
  | .scope b, s, Q => wpc b s Q
  | .ret, s, Q => Q .ret s
  | .bad, _, _ => False
end
section
variable {E : Env}
theorem wp1_one {op : AOp} {d : Option Nat} {s : St} {K : St → Cls → Prop} {Q : AExit → St → Prop} (h : wp1 E op d s K Q) :
    (∃ s' c, (∃ n, ∀ m, n ≤ m → E.one (E.call m) ⟨d, op, none⟩ s = some (s', c, none)) ∧ K s' c) ∨
    (∃ v h', (∃ n, ∀ m, n ≤ m → E.one (E.call m) ⟨d, op, none⟩ s = some (⟨s.σ, h'⟩, .write, some v)) ∧ Q (.panic v) ⟨s.σ, h'⟩) := by
  have plain : op.calls = false → (∃ r, E.op s.σ s.h op = some r ∧ K (s.put d r.v r.h) r.c) → (∃ s' c, (∃ n, ∀ m, n ≤ m → E.one (E.call m) ⟨d, op, none⟩ s = some (s', c, none)) ∧ K s' c) := by
    rintro hp ⟨r, hr, hk⟩
    exact ⟨_, _, ⟨0, fun m _ => by simp [Env.one, AOper.wanted, act_plain hp, hr]⟩, hk⟩
  cases op
  case call f args =>
    obtain ⟨vs, hvs, o, ⟨n, hn⟩, hq⟩ := h
    cases o with
    | ret r => exact .inl ⟨_, _, ⟨n, fun m hm => by simp [Env.one, AOper.wanted, Env.act, hvs, hn m hm]⟩, hq⟩
    | panic v h' => exact .inr ⟨v, h', ⟨n, fun m hm => by simp [Env.one, AOper.wanted, Env.act, hvs, hn m hm]⟩, hq⟩
  case callv f args =>
    obtain ⟨g, a, b, vs, hf, hvs, o, ⟨n, hn⟩, hq⟩ := h
    have hn' : ∀ m, n ≤ m → E.call m g (a ++ (vs ++ b)) s.h = some o := fun m hm => by rw [← List.append_assoc]; exact hn m hm
    cases o with
    | ret r => exact .inl ⟨_, _, ⟨n, fun m hm => by simp [Env.one, AOper.wanted, Env.act, hvs, hf, hn' m hm]⟩, hq⟩
    | panic v h' => exact .inr ⟨v, h', ⟨n, fun m hm => by simp [Env.one, AOper.wanted, Env.act, hvs, hf, hn' m hm]⟩, hq⟩
  case panic x =>
    obtain ⟨t, v, hx, hq⟩ := h
    exact .inr ⟨_, s.h, ⟨0, fun m hm => by simp [Env.one, AOper.wanted, Env.act, hx]⟩, hq⟩
  all_goals exact .inl (plain rfl h)
theorem one_guard_on {d : Option Nat} {op : AOp} {t : Nat} {w : Bool} {s : St} (hb : s.σ.get t = .bool w) (C : CallF) : E.one C ⟨d, op, some (t, w)⟩ s = E.one C ⟨d, op, none⟩ s := by
  simp only [Env.one, AOper.wanted, hb, beq_self_eq_true]
theorem one_guard_off {d : Option Nat} {op : AOp} {t : Nat} {w b : Bool} {s : St} (hb : s.σ.get t = .bool b) (he : ¬ b = w) (C : CallF) : E.one C ⟨d, op, some (t, w)⟩ s = some (s.put d .undef s.h, .none, none) := by
  have hbw : (b == w) = false := by simp [he]
  simp only [Env.one, AOper.wanted, hb, hbw]
theorem gval_on {w : Bool} {v : AV} (h : gval w v = .bool w) : v = .bool w := by
  unfold gval at h
  split at h
  · cases w <;> cases h
  · exact h
theorem one_guard_off' {d : Option Nat} {op : AOp} {t : Nat} {w b : Bool} {s : St} (hb : gval w (s.σ.get t) = .bool b) (he : ¬ b = w) (C : CallF) : E.one C ⟨d, op, some (t, w)⟩ s = some (s.put d .undef s.h, .none, none) := by
  by_cases hu : s.σ.get t = .undef
  · have hw : AOper.wanted ⟨d, op, some (t, w)⟩ s.σ = false := by simp only [AOper.wanted, hu]; rfl
    simp only [Env.one, hw]
  · have : s.σ.get t = .bool b := by
      unfold gval at hb
      split at hb
      · rename_i hv; exact absurd hv hu
      · exact hb
    exact one_guard_off this he C
theorem wpo_panic {o : AOper} {l : List AOper} {s s1 : St} {c : Cls} {v : AV} {Q : AExit → St → Prop} (h : ∃ n, ∀ m, n ≤ m → E.one (E.call m) o s = some (s1, c, some v)) (hq : Q (.panic v) s1) : WPo E (o :: l) s Q := by
  obtain ⟨n, hn⟩ := h
  exact ⟨_, _, ⟨n, fun m hm => by simp [Env.ops, hn m hm]⟩, hq⟩
theorem wpo_sound : ∀ (l : List AOper) (s : St) (Q : AExit → St → Prop), wpo E l s Q → WPo E l s Q
  | [], s, Q, h => ⟨_, _, ⟨0, fun m _ => rfl⟩, h⟩
  | ⟨d, op, none⟩ :: l, s, Q, h => by
    have h : wp1 E op d s (fun s' _ => wpo E l s' Q) Q := h
    rcases wp1_one h with ⟨s', c, h1, h2⟩ | ⟨v, h', h1, h2⟩
    · exact wpo_cons h1 (wpo_sound l s' Q h2)
    · exact wpo_panic h1 h2
  | ⟨d, op, some (t, w)⟩ :: l, s, Q, h => by
    obtain ⟨b, hb, h⟩ := h
    by_cases he : b = w
    · subst he
      rw [if_pos rfl] at h
      have h : wp1 E op d s (fun s' _ => wpo E l s' Q) Q := h
      rcases wp1_one h with ⟨s', c, ⟨n, h1⟩, h2⟩ | ⟨v, h', ⟨n, h1⟩, h2⟩
      · exact wpo_cons ⟨n, fun m hm => by rw [one_guard_on (gval_on hb)]; exact h1 m hm⟩ (wpo_sound l s' Q h2)
      · exact wpo_panic ⟨n, fun m hm => by rw [one_guard_on (gval_on hb)]; exact h1 m hm⟩ h2
    · rw [if_neg he] at h
      exact wpo_cons ⟨0, fun m _ => one_guard_off' hb he _⟩ (wpo_sound l _ Q h)
theorem wpl_sound : ∀ (l : List AOper) (s : St) (Q : St → List (AOper × St × Cls) → Prop), wpl E l s Q → WPl E l s Q
  | [], s, Q, h => wpl_nil h
  | ⟨d, op, none⟩ :: l, s, Q, h => by
    have h : wp1 E op d s (fun s' c => wpl E l s' (fun s2 log => Q s2 ((⟨d, op, none⟩, s, c) :: log))) (fun _ _ => False) := h
    rcases wp1_one h with ⟨s', c, h1, h2⟩ | ⟨v, h', h1, h2⟩
    · exact wpl_cons h1 (wpl_sound l s' _ h2)
    · exact h2.elim
  | ⟨d, op, some (t, w)⟩ :: l, s, Q, h => by
    obtain ⟨b, hb, h⟩ := h
    by_cases he : b = w
    · subst he
      rw [if_pos rfl] at h
      have h : wp1 E op d s (fun s' c => wpl E l s' (fun s2 log => Q s2 ((⟨d, op, some (t, b)⟩, s, c) :: log))) (fun _ _ => False) := h
      rcases wp1_one h with ⟨s', c, ⟨n, h1⟩, h2⟩ | ⟨v, h', ⟨n, h1⟩, h2⟩
      · exact wpl_cons ⟨n, fun m hm => by rw [one_guard_on (gval_on hb)]; exact h1 m hm⟩ (wpl_sound l s' _ h2)
      · exact h2.elim
    · rw [if_neg he] at h
      exact wpl_cons ⟨0, fun m _ => one_guard_off' hb he _⟩ (wpl_sound l _ _ h)
theorem wpc_sound : ∀ (c : AC) (s : St) (Q : AExit → St → Prop), wpc E c s Q → WP E c s Q
  | .skip, s, Q, h => wp_skip h
  | .ops l, s, Q, h => wp_ops (wpo_sound l s Q h)
  | .draw l b, s, Q, h => wp_draw (wpl_sound l s _ h)
  | .seq a b, s, Q, h => by
    refine wp_seq ((wpc_sound a s _ h).mono fun e s' hq => ?_)
    cases e with
    | norm => exact wpc_sound b s' Q hq
    | _ => exact hq
  | .cond c x y, s, Q, h => by
    obtain ⟨b, hb, h⟩ := h
    refine wp_cond hb (fun e => ?_) (fun e => ?_)
    · subst e; exact wpc_sound x s Q h
    · subst e; exact wpc_sound y s Q h
  | .block id b, s, Q, h => by
    refine wp_block ((wpc_sound b s _ h).mono fun e s' hq => ?_)
    cases e <;> exact hq
  | .loop b, s, Q, h => wp_loop h
  | .exit id, s, Q, h => wp_exit h
  | .scope b, s, Q, h => wp_scope (wpc_sound b s Q h)
  | .ret, s, Q, h => wp_ret h
  | .bad, s, Q, h => h.elim
def seqQ (E : Env) (b : AC) (Q : AExit → St → Prop) : AExit → St → Prop := fun e s' => match e with | .norm => wpc E b s' Q | e => Q e s'
def opsK (E : Env) (l : List AOper) (Q : AExit → St → Prop) : St → Cls → Prop := fun s' _ => wpo E l s' Q
def condK (E : Env) (x y : AC) (s : St) (Q : AExit → St → Prop) : Bool → Prop := fun b => if b = true then wpc E x s Q else wpc E y s Q
def guardK (E : Env) (op : AOp) (d : Option Nat) (l : List AOper) (s : St) (Q : AExit → St → Prop) (w : Bool) : Bool → Prop := fun b =>
  if b = w then wp1 E op d s (opsK E l Q) Q else wpo E l (s.put d .undef s.h) Q
def callK (s : St) (d : Option Nat) (K : St → Cls → Prop) (Q : AExit → St → Prop) : COut → Prop := fun o => match o with | .ret r => K (s.put d r.v r.h) r.c | .panic v h => Q (.panic v) ⟨s.σ, h⟩
def logQ (o : AOper) (s : St) (c : Cls) (Q : St → List (AOper × St × Cls) → Prop) : St → List (AOper × St × Cls) → Prop := fun s2 log => Q s2 ((o, s, c) :: log)
def logK (E : Env) (o : AOper) (l : List AOper) (s : St) (Q : St → List (AOper × St × Cls) → Prop) : St → Cls → Prop := fun s' c => wpl E l s' (logQ o s c Q)
def noQ : AExit → St → Prop := fun _ _ => False
def guardL (E : Env) (o : AOper) (l : List AOper) (s : St) (Q : St → List (AOper × St × Cls) → Prop) (w : Bool) : Bool → Prop := fun b =>
  if b = w then wp1 E o.op o.dst s (logK E o l s Q) noQ else wpl E l (s.put o.dst .undef s.h) (logQ o s .none Q)
def drawQ (E : Env) (b : List Nat) (Q : AExit → St → Prop) : St → List (AOper × St × Cls) → Prop := fun s' log => E.drawOk (s'.h :: log.map (fun x => x.2.1.h)) 0 log b = true ∧ Q .norm s'
def blockQ' (id : Nat) (Q : AExit → St → Prop) : AExit → St → Prop := fun e s' => match e with | .exit id' => if id' = id then Q .norm s' else Q (.exit id') s' | e => Q e s'
section
variable {a b x y : AC} {s : St} {Q : AExit → St → Prop} {id : Nat} {l : List AOper} {d : Option Nat} {op : AOp} {K : St → Cls → Prop}
@[simp] theorem wpc_skip : wpc E .skip s Q = Q .norm s := rfl
@[simp] theorem wpc_ops : wpc E (.ops l) s Q = wpo E l s Q := rfl
@[simp] theorem wpc_draw {bf : List Nat} : wpc E (.draw l bf) s Q = wpl E l s (drawQ E bf Q) := rfl
@[simp] theorem wpc_seq : wpc E (.seq a b) s Q = wpc E a s (seqQ E b Q) := rfl
@[simp] theorem wpc_cond {c : Opd} : wpc E (.cond c x y) s Q = ∃ b, E.opd s.σ c = some (.bool b) ∧ condK E x y s Q b := rfl
@[simp] theorem wpc_block : wpc E (.block id b) s Q = wpc E b s (blockQ' id Q) := rfl
@[simp] theorem wpc_loop : wpc E (.loop b) s Q = WPr E b s Q := rfl
@[simp] theorem wpc_exit : wpc E (.exit id) s Q = Q (.exit id) s := rfl
@[simp] theorem wpc_scope : wpc E (.scope b) s Q = wpc E b s Q := rfl
@[simp] theorem wpc_ret : wpc E .ret s Q = Q .ret s := rfl
@[simp] theorem seqQ_norm : seqQ E b Q .norm s = wpc E b s Q := rfl
@[simp] theorem seqQ_ret : seqQ E b Q .ret s = Q .ret s := rfl
@[simp] theorem seqQ_exit : seqQ E b Q (.exit id) s = Q (.exit id) s := rfl
@[simp] theorem seqQ_panic {v : AV} : seqQ E b Q (.panic v) s = Q (.panic v) s := rfl
@[simp] theorem blockQ'_norm : blockQ' id Q .norm s = Q .norm s := rfl
@[simp] theorem blockQ'_ret : blockQ' id Q .ret s = Q .ret s := rfl
@[simp] theorem blockQ'_exit {id' : Nat} : blockQ' id Q (.exit id') s = if id' = id then Q .norm s else Q (.exit id') s := rfl
@[simp] theorem blockQ'_panic {v : AV} : blockQ' id Q (.panic v) s = Q (.panic v) s := rfl
@[simp] theorem condK_true : condK E x y s Q true = wpc E x s Q := rfl
@[simp] theorem condK_false : condK E x y s Q false = wpc E y s Q := rfl
@[simp] theorem wpo_nil' : wpo E [] s Q = Q .norm s := rfl
@[simp] theorem wpo_none : wpo E (⟨d, op, none⟩ :: l) s Q = wp1 E op d s (opsK E l Q) Q := rfl
@[simp] theorem wpo_some {t : Nat} {w : Bool} : wpo E (⟨d, op, some (t, w)⟩ :: l) s Q = ∃ b, gval w (s.σ.get t) = .bool b ∧ guardK E op d l s Q w b := rfl
@[simp] theorem opsK_apply {c : Cls} : opsK E l Q s c = wpo E l s Q := rfl
@[simp] theorem guardK_tt : guardK E op d l s Q true true = wp1 E op d s (opsK E l Q) Q := rfl
@[simp] theorem guardK_ff : guardK E op d l s Q false false = wp1 E op d s (opsK E l Q) Q := rfl
@[simp] theorem guardK_tf : guardK E op d l s Q true false = wpo E l (s.put d .undef s.h) Q := rfl
@[simp] theorem guardK_ft : guardK E op d l s Q false true = wpo E l (s.put d .undef s.h) Q := rfl
@[simp] theorem wpl_nil' {Q : St → List (AOper × St × Cls) → Prop} : wpl E [] s Q = Q s [] := rfl
@[simp] theorem wpl_none {Q : St → List (AOper × St × Cls) → Prop} : wpl E (⟨d, op, none⟩ :: l) s Q = wp1 E op d s (logK E ⟨d, op, none⟩ l s Q) noQ := rfl
@[simp] theorem wpl_some {Q : St → List (AOper × St × Cls) → Prop} {t : Nat} {w : Bool} : wpl E (⟨d, op, some (t, w)⟩ :: l) s Q = ∃ b, gval w (s.σ.get t) = .bool b ∧ guardL E ⟨d, op, some (t, w)⟩ l s Q w b := rfl
@[simp] theorem logK_apply {Q : St → List (AOper × St × Cls) → Prop} {o : AOper} {s' : St} {c : Cls} : logK E o l s Q s' c = wpl E l s' (logQ o s c Q) := rfl
@[simp] theorem logQ_apply {Q : St → List (AOper × St × Cls) → Prop} {o : AOper} {s' : St} {c : Cls} {log : List (AOper × St × Cls)} : logQ o s c Q s' log = Q s' ((o, s, c) :: log) := rfl
@[simp] theorem guardL_tt {Q : St → List (AOper × St × Cls) → Prop} {o : AOper} : guardL E o l s Q true true = wp1 E o.op o.dst s (logK E o l s Q) noQ := rfl
@[simp] theorem guardL_ff {Q : St → List (AOper × St × Cls) → Prop} {o : AOper} : guardL E o l s Q false false = wp1 E o.op o.dst s (logK E o l s Q) noQ := rfl
@[simp] theorem guardL_tf {Q : St → List (AOper × St × Cls) → Prop} {o : AOper} : guardL E o l s Q true false = wpl E l (s.put o.dst .undef s.h) (logQ o s .none Q) := rfl
@[simp] theorem guardL_ft {Q : St → List (AOper × St × Cls) → Prop} {o : AOper} : guardL E o l s Q false true = wpl E l (s.put o.dst .undef s.h) (logQ o s .none Q) := rfl
@[simp] theorem drawQ_apply {bf : List Nat} {log : List (AOper × St × Cls)} : drawQ E bf Q s log = (E.drawOk (s.h :: log.map (fun x => x.2.1.h)) 0 log bf = true ∧ Q .norm s) := rfl
@[simp] theorem wp1_call {f : Nat} {args : List Opd} : wp1 E (.call f args) d s K Q = ∃ vs, E.opds s.σ args = some vs ∧ WC E f vs s.h (callK s d K Q) := rfl
@[simp] theorem callK_ret {r : OpRes} : callK s d K Q (.ret r) = K (s.put d r.v r.h) r.c := rfl
@[simp] theorem callK_panic {v : AV} {h : Heap} : callK s d K Q (.panic v h) = Q (.panic v) ⟨s.σ, h⟩ := rfl
theorem wp1_mv {x} : wp1 E (.mv x) d s K Q = ∃ r, E.op s.σ s.h (.mv x) = some r ∧ K (s.put d r.v r.h) r.c := rfl
theorem wp1_pick {c a b} : wp1 E (.pick c a b) d s K Q = ∃ r, E.op s.σ s.h (.pick c a b) = some r ∧ K (s.put d r.v r.h) r.c := rfl
theorem wp1_alloc {z} : wp1 E (.alloc z) d s K Q = ∃ r, E.op s.σ s.h (.alloc z) = some r ∧ K (s.put d r.v r.h) r.c := rfl
@[simp] theorem wp1_box {fr sz x} : wp1 E (.box fr sz x) d s K Q = ∃ r, E.op s.σ s.h (.box fr sz x) = some r ∧ K (s.put d r.v r.h) r.c := rfl
@[simp] theorem wp1_build {z ps} : wp1 E (.build z ps) d s K Q = ∃ r, E.op s.σ s.h (.build z ps) = some r ∧ K (s.put d r.v r.h) r.c := rfl
@[simp] theorem wp1_lit {fr sz n cs ps} : wp1 E (.lit fr sz n cs ps) d s K Q = ∃ r, E.op s.σ s.h (.lit fr sz n cs ps) = some r ∧ K (s.put d r.v r.h) r.c := rfl
theorem wp1_load {ag sz x} : wp1 E (.load ag sz x) d s K Q = ∃ r, E.op s.σ s.h (.load ag sz x) = some r ∧ K (s.put d r.v r.h) r.c := rfl
theorem wp1_store {sz x y} : wp1 E (.store sz x y) d s K Q = ∃ r, E.op s.σ s.h (.store sz x y) = some r ∧ K (s.put d r.v r.h) r.c := rfl
theorem wp1_nilCheck {x} : wp1 E (.nilCheck x) d s K Q = ∃ r, E.op s.σ s.h (.nilCheck x) = some r ∧ K (s.put d r.v r.h) r.c := rfl
theorem wp1_bin {o x y} : wp1 E (.bin o x y) d s K Q = ∃ r, E.op s.σ s.h (.bin o x y) = some r ∧ K (s.put d r.v r.h) r.c := rfl
theorem wp1_eq {ng e x y} : wp1 E (.eq ng e x y) d s K Q = ∃ r, E.op s.σ s.h (.eq ng e x y) = some r ∧ K (s.put d r.v r.h) r.c := rfl
theorem wp1_un {o x} : wp1 E (.un o x) d s K Q = ∃ r, E.op s.σ s.h (.un o x) = some r ∧ K (s.put d r.v r.h) r.c := rfl
theorem wp1_conv {c x} : wp1 E (.conv c x) d s K Q = ∃ r, E.op s.σ s.h (.conv c x) = some r ∧ K (s.put d r.v r.h) r.c := rfl
theorem wp1_mkIface {t x} : wp1 E (.mkIface t x) d s K Q = ∃ r, E.op s.σ s.h (.mkIface t x) = some r ∧ K (s.put d r.v r.h) r.c := rfl
@[simp] theorem wp1_mkFunc {f a b} : wp1 E (.mkFunc f a b) d s K Q = ∃ r, E.op s.σ s.h (.mkFunc f a b) = some r ∧ K (s.put d r.v r.h) r.c := rfl
@[simp] theorem wp1_makeSlice {sz by_ z a b} : wp1 E (.makeSlice sz by_ z a b) d s K Q = ∃ r, E.op s.σ s.h (.makeSlice sz by_ z a b) = some r ∧ K (s.put d r.v r.h) r.c := rfl
@[simp] theorem wp1_slice {sz x lo hi mx} : wp1 E (.slice sz x lo hi mx) d s K Q = ∃ r, E.op s.σ s.h (.slice sz x lo hi mx) = some r ∧ K (s.put d r.v r.h) r.c := rfl
@[simp] theorem wp1_sliceStr {x lo hi} : wp1 E (.sliceStr x lo hi) d s K Q = ∃ r, E.op s.σ s.h (.sliceStr x lo hi) = some r ∧ K (s.put d r.v r.h) r.c := rfl
@[simp] theorem wp1_sliceArr {sz n x lo hi mx} : wp1 E (.sliceArr sz n x lo hi mx) d s K Q = ∃ r, E.op s.σ s.h (.sliceArr sz n x lo hi mx) = some r ∧ K (s.put d r.v r.h) r.c := rfl
theorem wp1_fieldAddr {o x} : wp1 E (.fieldAddr o x) d s K Q = ∃ r, E.op s.σ s.h (.fieldAddr o x) = some r ∧ K (s.put d r.v r.h) r.c := rfl
@[simp] theorem wp1_field {ag sz o x} : wp1 E (.field ag sz o x) d s K Q = ∃ r, E.op s.σ s.h (.field ag sz o x) = some r ∧ K (s.put d r.v r.h) r.c := rfl
theorem wp1_idxAddr {sz x i} : wp1 E (.idxAddr sz x i) d s K Q = ∃ r, E.op s.σ s.h (.idxAddr sz x i) = some r ∧ K (s.put d r.v r.h) r.c := rfl
@[simp] theorem wp1_idxAddrArr {sz n x i} : wp1 E (.idxAddrArr sz n x i) d s K Q = ∃ r, E.op s.σ s.h (.idxAddrArr sz n x i) = some r ∧ K (s.put d r.v r.h) r.c := rfl
@[simp] theorem wp1_idxStr {x i} : wp1 E (.idxStr x i) d s K Q = ∃ r, E.op s.σ s.h (.idxStr x i) = some r ∧ K (s.put d r.v r.h) r.c := rfl
@[simp] theorem wp1_idxArr {ag sz n x i} : wp1 E (.idxArr ag sz n x i) d s K Q = ∃ r, E.op s.σ s.h (.idxArr ag sz n x i) = some r ∧ K (s.put d r.v r.h) r.c := rfl
theorem wp1_extract {x i} : wp1 E (.extract x i) d s K Q = ∃ r, E.op s.σ s.h (.extract x i) = some r ∧ K (s.put d r.v r.h) r.c := rfl
theorem wp1_len {b x} : wp1 E (.len b x) d s K Q = ∃ r, E.op s.σ s.h (.len b x) = some r ∧ K (s.put d r.v r.h) r.c := rfl
theorem wp1_append {sz by_ x y} : wp1 E (.append sz by_ x y) d s K Q = ∃ r, E.op s.σ s.h (.append sz by_ x y) = some r ∧ K (s.put d r.v r.h) r.c := rfl
@[simp] theorem wp1_minmax {m x y} : wp1 E (.minmax m x y) d s K Q = ∃ r, E.op s.σ s.h (.minmax m x y) = some r ∧ K (s.put d r.v r.h) r.c := rfl
end
def aLenOp (str : Bool) (h : Heap) (v : AV) : Option OpRes := match str, v with
  | true, .str s => some ⟨.int .i64 s.length, h, .none⟩
  | false, .nils => some ⟨.int .i64 0, h, .none⟩
  | false, .fs _ n _ => some ⟨.int .i64 n, h, .none⟩
  | false, .sl _ _ _ _ n _ => some ⟨.int .i64 n, h, .none⟩
  | _, _ => none
def aExtract (i : Nat) : AV → Option AV
  | .tup vs => vs[i]?
  | _ => none
def aPick (c a b : AV) : Option AV := match c with
  | .bool true => some a
  | .bool false => some b
  | _ => none
def aNil : AV → Option AV
  | .ptr a b c => some (.ptr a b c)
  | .fp cs => some (.fp cs)
  | .ifc t v => some (.ifc t v)
  | .fn (.func f) a b => some (.fn (.func f) a b)
  | _ => none
def aFieldAddr (off : Nat) : AV → Option AV
  | .ptr id gen o => some (.ptr id gen (o + off))
  | .fp cs => some (.fp (cs.drop off))
  | _ => none
/-- what an operand is -/
def Env.rd (E : Env) (σ : Slots) : Opd → AV
  | .t n => σ.get n
  | .c v => v
  | .g n => match E.glob n with | some cs => .fp cs | none => .undef
def Opd.ok : Opd → Bool
  | .g _ => false
  | _ => true
section
variable {s : St} {Q : AExit → St → Prop} {d : Option Nat} {K : St → Cls → Prop} {x y z : Opd}
@[simp] theorem rd_t {σ : Slots} {n : Nat} : E.rd σ (.t n) = σ.get n := rfl
@[simp] theorem rd_c {σ : Slots} {v : AV} : E.rd σ (.c v) = v := rfl
@[simp] theorem ok_t {n : Nat} : (Opd.t n).ok = true := id rfl
@[simp] theorem ok_c {v : AV} : (Opd.c v).ok = true := id rfl
theorem opd_rd {σ : Slots} (h : x.ok = true) : E.opd σ x = some (E.rd σ x) := by
  cases x <;> first | rfl | cases h
@[simp] theorem wp1_mv' (hx : x.ok = true) : wp1 E (.mv x) d s K Q ↔ K (s.put d (E.rd s.σ x) s.h) .none := by
  rw [wp1_mv]; simp [Env.op, opd_rd hx]
@[simp] theorem wp1_bin' {o : BinOp} (hx : x.ok = true) (hy : y.ok = true) : wp1 E (.bin o x y) d s K Q ↔ ∃ v, aBin o (E.rd s.σ x) (E.rd s.σ y) = some v ∧ K (s.put d v s.h) .none := by
  rw [wp1_bin]; simp [Env.op, opd_rd hx, opd_rd hy]
  constructor
  · rintro ⟨r, ⟨a, h1, rfl⟩, h2⟩; exact ⟨a, h1, h2⟩
  · rintro ⟨a, h1, h2⟩; exact ⟨_, ⟨a, h1, rfl⟩, h2⟩
@[simp] theorem wp1_un' {o : UnOp} (hx : x.ok = true) : wp1 E (.un o x) d s K Q ↔ ∃ v, aUn o (E.rd s.σ x) = some v ∧ K (s.put d v s.h) .none := by
  rw [wp1_un]; simp [Env.op, opd_rd hx]
  constructor
  · rintro ⟨r, ⟨a, h1, rfl⟩, h2⟩; exact ⟨a, h1, h2⟩
  · rintro ⟨a, h1, h2⟩; exact ⟨_, ⟨a, h1, rfl⟩, h2⟩
@[simp] theorem wp1_eq' {ng : Bool} {e : EqT} (hx : x.ok = true) (hy : y.ok = true) : wp1 E (.eq ng e x y) d s K Q ↔ ∃ v, aEq e (E.rd s.σ x) (E.rd s.σ y) = some v ∧ K (s.put d (.bool (negIf ng v)) s.h) .none := by
  rw [wp1_eq]; simp only [Env.op, opd_rd hx, opd_rd hy, Option.bind_some, Option.map_eq_some_iff]
  constructor
  · rintro ⟨r, ⟨a, h1, rfl⟩, h2⟩; exact ⟨a, h1, h2⟩
  · rintro ⟨a, h1, h2⟩; exact ⟨_, ⟨a, h1, rfl⟩, h2⟩
@[simp] theorem wp1_extract' {i : Nat} (hx : x.ok = true) : wp1 E (.extract x i) d s K Q ↔ ∃ v, aExtract i (E.rd s.σ x) = some v ∧ K (s.put d v s.h) .none := by
  rw [wp1_extract]
  simp only [Env.op, opd_rd hx, Option.bind_some]
  cases E.rd s.σ x <;> simp [aExtract]
  constructor
  · rintro ⟨r, ⟨a, h1, rfl⟩, h2⟩; exact ⟨a, h1, h2⟩
  · rintro ⟨a, h1, h2⟩; exact ⟨_, ⟨a, h1, rfl⟩, h2⟩
@[simp] theorem wp1_pick' (hx : x.ok = true) (hy : y.ok = true) (hz : z.ok = true) : wp1 E (.pick x y z) d s K Q ↔ ∃ v, aPick (E.rd s.σ x) (E.rd s.σ y) (E.rd s.σ z) = some v ∧ K (s.put d v s.h) .none := by
  rw [wp1_pick]
  simp only [Env.op, opd_rd hx, opd_rd hy, opd_rd hz, Option.bind_some]
  cases E.rd s.σ x <;> simp [aPick]
  rename_i b
  cases b <;> simp
@[simp] theorem wp1_len' {b : Bool} (hx : x.ok = true) : wp1 E (.len b x) d s K Q ↔ ∃ r, aLenOp b s.h (E.rd s.σ x) = some r ∧ K (s.put d r.v r.h) r.c := by
  rw [wp1_len]
  have : E.op s.σ s.h (.len b x) = (E.opd s.σ x).bind (aLenOp b s.h) := rfl
  rw [this, opd_rd hx]; rfl
@[simp] theorem wp1_load' {ag : Bool} {sz : Nat} (hx : x.ok = true) : wp1 E (.load ag sz x) d s K Q ↔ ∃ r, aLoad s.h ag sz (E.rd s.σ x) = some r ∧ K (s.put d r.v r.h) r.c := by
  rw [wp1_load]; simp [Env.op, opd_rd hx]
@[simp] theorem wp1_conv' {c : CvT} (hx : x.ok = true) : wp1 E (.conv c x) d s K Q ↔ ∃ r, aConv s.h c (E.rd s.σ x) = some r ∧ K (s.put d r.v r.h) r.c := by
  rw [wp1_conv]; simp [Env.op, opd_rd hx]
@[simp] theorem wp1_store' {sz : Nat} (hx : x.ok = true) (hy : y.ok = true) : wp1 E (.store sz x y) d s K Q ↔ ∃ r, aStore s.h sz (E.rd s.σ x) (E.rd s.σ y) = some r ∧ K (s.put d r.v r.h) r.c := by
  rw [wp1_store]; simp [Env.op, opd_rd hx, opd_rd hy]
@[simp] theorem wp1_idxAddr' {sz : Nat} (hx : x.ok = true) (hy : y.ok = true) : wp1 E (.idxAddr sz x y) d s K Q ↔ ∃ v, aIdxAddr sz (E.rd s.σ x) (E.rd s.σ y) = some v ∧ K (s.put d v s.h) .none := by
  rw [wp1_idxAddr]; simp [Env.op, opd_rd hx, opd_rd hy]
  constructor
  · rintro ⟨r, ⟨a, h1, rfl⟩, h2⟩; exact ⟨a, h1, h2⟩
  · rintro ⟨a, h1, h2⟩; exact ⟨_, ⟨a, h1, rfl⟩, h2⟩
@[simp] theorem wp1_append' {sz bt : Nat} (hx : x.ok = true) (hy : y.ok = true) : wp1 E (.append sz bt x y) d s K Q ↔ ∃ r, aAppend s.h sz bt (E.rd s.σ x) (E.rd s.σ y) = some r ∧ K (s.put d r.v r.h) r.c := by
  rw [wp1_append]; simp [Env.op, opd_rd hx, opd_rd hy]
@[simp] theorem wp1_mkIface' {t : TypeId} (hx : x.ok = true) : wp1 E (.mkIface t x) d s K Q ↔ K (s.put d (.ifc t (E.rd s.σ x)) s.h) .none := by
  rw [wp1_mkIface]; simp [Env.op, opd_rd hx]
@[simp] theorem wp1_nilCheck' (hx : x.ok = true) : wp1 E (.nilCheck x) d s K Q ↔ ∃ v, aNil (E.rd s.σ x) = some v ∧ K (s.put d v s.h) .none := by
  rw [wp1_nilCheck]
  simp only [Env.op, opd_rd hx, Option.bind_some]
  cases E.rd s.σ x <;> simp [aNil]
  rename_i f _ _
  cases f <;> simp
@[simp] theorem wp1_fieldAddr' {o : Nat} (hx : x.ok = true) : wp1 E (.fieldAddr o x) d s K Q ↔ ∃ v, aFieldAddr o (E.rd s.σ x) = some v ∧ K (s.put d v s.h) .none := by
  rw [wp1_fieldAddr]
  simp only [Env.op, opd_rd hx, Option.bind_some]
  cases E.rd s.σ x <;> simp [aFieldAddr]
theorem wp1_cap' (hx : x.ok = true) : wp1 E (.cap x) d s K Q ↔ ∃ v, aCap (E.rd s.σ x) = some v ∧ K (s.put d v s.h) .none := by
  have e : wp1 E (.cap x) d s K Q = ∃ r, E.op s.σ s.h (.cap x) = some r ∧ K (s.put d r.v r.h) r.c := rfl
  rw [e]; simp only [Env.op, opd_rd hx, Option.bind_some, Option.map_eq_some_iff]
  constructor
  · rintro ⟨r, ⟨a, h1, rfl⟩, h2⟩; exact ⟨a, h1, h2⟩
  · rintro ⟨a, h1, h2⟩; exact ⟨_, ⟨a, h1, rfl⟩, h2⟩
theorem wp1_range' (hx : x.ok = true) : wp1 E (.range x) d s K Q ↔ ∃ t, E.rd s.σ x = .str t ∧ K (s.put d (.itr s.h.its.length) (s.h.walk t)) .write := by
  have e : wp1 E (.range x) d s K Q = ∃ r, E.op s.σ s.h (.range x) = some r ∧ K (s.put d r.v r.h) r.c := rfl
  rw [e]; simp only [Env.op, opd_rd hx, Option.bind_some]
  cases E.rd s.σ x <;> simp
theorem wp1_next' (hx : x.ok = true) : wp1 E (.next x) d s K Q ↔ ∃ k r, E.rd s.σ x = .itr k ∧ aNext s.h k = some r ∧ K (s.put d r.v r.h) r.c := by
  have e : wp1 E (.next x) d s K Q = ∃ r, E.op s.σ s.h (.next x) = some r ∧ K (s.put d r.v r.h) r.c := rfl
  rw [e]; simp only [Env.op, opd_rd hx, Option.bind_some]
  cases E.rd s.σ x <;> simp
theorem wp1_clear' {sz : Nat} {z : List AV} (hx : x.ok = true) : wp1 E (.clear sz z x) d s K Q ↔ ∃ r, aClear s.h sz z (E.rd s.σ x) = some r ∧ K (s.put d r.v r.h) r.c := by
  have e : wp1 E (.clear sz z x) d s K Q = ∃ r, E.op s.σ s.h (.clear sz z x) = some r ∧ K (s.put d r.v r.h) r.c := rfl
  rw [e]; simp only [Env.op, opd_rd hx, Option.bind_some]
theorem wp1_copy' {sz : Nat} (hx : x.ok = true) (hy : y.ok = true) : wp1 E (.copy sz x y) d s K Q ↔ ∃ r, aCopy s.h sz (E.rd s.σ x) (E.rd s.σ y) = some r ∧ K (s.put d r.v r.h) r.c := by
  have e : wp1 E (.copy sz x y) d s K Q = ∃ r, E.op s.σ s.h (.copy sz x y) = some r ∧ K (s.put d r.v r.h) r.c := rfl
  rw [e]; simp only [Env.op, opd_rd hx, opd_rd hy, Option.bind_some]
theorem wp1_appendZ' {sz bt : Nat} {z : List AV} (hx : x.ok = true) (hy : y.ok = true) : wp1 E (.appendZ sz bt z x y) d s K Q ↔ ∃ r, aAppendZ s.h sz bt z (E.rd s.σ x) (E.rd s.σ y) = some r ∧ K (s.put d r.v r.h) r.c := by
  have e : wp1 E (.appendZ sz bt z x y) d s K Q = ∃ r, E.op s.σ s.h (.appendZ sz bt z x y) = some r ∧ K (s.put d r.v r.h) r.c := rfl
  rw [e]; simp only [Env.op, opd_rd hx, opd_rd hy, Option.bind_some]
@[simp] theorem wp1_alloc' {z : List AV} : wp1 E (.alloc z) d s K Q ↔ K (s.put d (.ptr s.h.next 0 0) (s.h.new z)) .write := by
  rw [wp1_alloc]; simp [Env.op]
end
/-- a call whose answer is known -/
theorem wc_eq {f : Nat} {args : List AV} {h : Heap} {o : COut} (hs : WC E f args h (fun x => x = o)) (K : COut → Prop) : WC E f args h K ↔ K o := by
  obtain ⟨o', ⟨n, hn⟩, rfl⟩ := hs
  constructor
  · rintro ⟨o2, ⟨k, hk⟩, hq⟩
    have h1 := hn (max n k) (by omega)
    have h2 := hk (max n k) (by omega)
    rw [h1] at h2
    cases h2
    exact hq
  · intro hq; exact ⟨o', ⟨n, hn⟩, hq⟩
/-- a round of a loop -/
theorem wpr_round {b : AC} {s : St} {Q : AExit → St → Prop} (h : wpc E b s (roundQ E b Q)) : WPr E b s Q := wp_round (wpc_sound b s _ h)
/-- the same, the loop's own name kept -/
theorem wpr_round' {b : AC} {s : St} {Q : AExit → St → Prop} (h : ∀ b', b' = b → wpc E b s (roundQ E b' Q)) : WPr E b s Q := wpr_round (h b rfl)
/-- what a function's end hands over -/
def retQ (E : Env) (rs : List ARes) (Q : COut → Prop) : AExit → St → Prop
  | .norm, s | .ret, s => ∃ vs, E.results s rs = some vs ∧ Q (.ret ⟨oneOrTup vs, s.h, .write⟩)
  | .panic v, s => Q (.panic v s.h)
  | .exit _, _ => False
/-- its content in the place of its addresses -/
def Frz (h : Heap) (v v' : AV) : Prop := ∃ n, ∀ m, n ≤ m → freeze h m v = some v'
def pureQ (E : Env) (rs : List ARes) (h : Heap) (Q : COut → Prop) : AExit → St → Prop
  | .norm, s | .ret, s => ∃ vs v, E.results s rs = some vs ∧ Frz s.h (oneOrTup vs) v ∧ Q (.ret ⟨v, h, .none⟩)
  | _, _ => False
theorem call_body {f : Nat} {af : AFunc} (hp : E.prim f = none) (hf : E.func f = some af) {args : List AV} {h : Heap} (hu : E.pure_ f = false ∨ AV.noRefs args = false) {Q : COut → Prop}
    (hb : wpc E af.body ⟨Slots.ofList 0 args .empty, h⟩ (retQ E af.results Q)) : WC E f args h Q := by
  refine wc_body hp hf hu ((wpc_sound _ _ _ hb).mono fun e s hq => ?_)
  cases e <;> exact hq
theorem call_pure {f : Nat} {af : AFunc} (hp : E.prim f = none) (hf : E.func f = some af) {args : List AV} {h : Heap} (hu : E.pure_ f = true) (hr : AV.noRefs args = true) {Q : COut → Prop}
    (hb : wpc E af.body ⟨Slots.ofList 0 args .empty, .empty⟩ (pureQ E af.results h Q)) : WC E f args h Q := by
  refine wc_pure hp hf hu hr ((wpc_sound _ _ _ hb).mono fun e s hq => ?_)
  cases e with
  | norm => obtain ⟨vs, v, h1, ⟨n, h2⟩, h3⟩ := hq; exact ⟨vs, v, n, h1, h2 n (Nat.le_refl _), h2, h3⟩
  | ret => obtain ⟨vs, v, h1, ⟨n, h2⟩, h3⟩ := hq; exact ⟨vs, v, n, h1, h2 n (Nat.le_refl _), h2, h3⟩
  | panic v => exact hq.elim
  | exit id => exact hq.elim
@[simp] theorem noRef_bool {b : Bool} : (AV.bool b).noRef = true := id rfl
@[simp] theorem noRef_int {k : IntKind} {n : Int} : (AV.int k n).noRef = true := id rfl
@[simp] theorem noRef_str {s : List UInt8} : (AV.str s).noRef = true := id rfl
@[simp] theorem noRef_nilp : (AV.nilp).noRef = true := id rfl
@[simp] theorem noRef_nils : (AV.nils).noRef = true := id rfl
@[simp] theorem noRef_nilm : (AV.nilm).noRef = true := id rfl
@[simp] theorem noRef_nilf : (AV.nilf).noRef = true := id rfl
@[simp] theorem noRef_nili : (AV.nili).noRef = true := id rfl
@[simp] theorem noRef_fp {cs : List AV} : (AV.fp cs).noRef = AV.noRefs cs := id rfl
@[simp] theorem noRef_fs {f : Bool} {n : Nat} {cs : List AV} : (AV.fs f n cs).noRef = AV.noRefs cs := id rfl
@[simp] theorem noRef_ifc {t : TypeId} {v : AV} : (AV.ifc t v).noRef = v.noRef := id rfl
@[simp] theorem noRef_agg {cs : List AV} : (AV.agg cs).noRef = AV.noRefs cs := id rfl
@[simp] theorem noRef_tup {cs : List AV} : (AV.tup cs).noRef = AV.noRefs cs := id rfl
@[simp] theorem noRefs_nil : AV.noRefs [] = true := id rfl
@[simp] theorem noRefs_cons {v : AV} {vs : List AV} : AV.noRefs (v :: vs) = (v.noRef && AV.noRefs vs) := id rfl
@[simp] theorem row_bool {b : Bool} : (AV.bool b).row = some [.bool b] := id rfl
@[simp] theorem row_int {k : IntKind} {n : Int} : (AV.int k n).row = some [.int k n] := id rfl
@[simp] theorem row_str {s : List UInt8} : (AV.str s).row = some [.str s] := id rfl
@[simp] theorem row_nilp : (AV.nilp).row = some [.nilp] := id rfl
@[simp] theorem row_nils : (AV.nils).row = some [.nils] := id rfl
@[simp] theorem row_nilm : (AV.nilm).row = some [.nilm] := id rfl
@[simp] theorem row_nilf : (AV.nilf).row = some [.nilf] := id rfl
@[simp] theorem row_nili : (AV.nili).row = some [.nili] := id rfl
@[simp] theorem row_fp {cs : List AV} : (AV.fp cs).row = some [.fp cs] := id rfl
@[simp] theorem row_fs {f : Bool} {n : Nat} {cs : List AV} : (AV.fs f n cs).row = some [.fs f n cs] := id rfl
@[simp] theorem row_sl {a b c d e : Nat} {f : Option Nat} : (AV.sl a b c d e f).row = some [.sl a b c d e f] := id rfl
@[simp] theorem row_ptr {a b c : Nat} : (AV.ptr a b c).row = some [.ptr a b c] := id rfl
@[simp] theorem row_ifc {t : TypeId} {v : AV} : (AV.ifc t v).row = some [.ifc t v] := id rfl
@[simp] theorem row_fn {f : Fn} {a b : List AV} : (AV.fn f a b).row = some [.fn f a b] := id rfl
@[simp] theorem row_agg {cs : List AV} : (AV.agg cs).row = some cs := id rfl
theorem frz_noRef {hp : Heap} {v v' : AV} (h : v.noRef = true) : Frz hp v v' ↔ v = v' := by
  constructor
  · rintro ⟨n, hn⟩
    have := hn (n + 1) (by omega)
    simp only [freeze, h, Option.some.injEq] at this
    exact this
  · rintro rfl
    refine ⟨1, fun m hm => ?_⟩
    cases m with
    | zero => omega
    | succ m => simp only [freeze, h]
theorem mapM_noRefs {h : Heap} {m : Nat} : ∀ (l : List AV), AV.noRefs l = true → l.mapM (freeze h (m + 1)) = some l
  | [], _ => rfl
  | v :: l, hl => by
    simp only [AV.noRefs, Bool.and_eq_true] at hl
    rw [List.mapM_cons, mapM_noRefs l hl.2]
    simp only [freeze, hl.1]
    rfl
theorem freeze_sl {h : Heap} {n id gen off sz len : Nat} {cap : Option Nat} : freeze h (n + 1) (.sl id gen off sz len cap) = (h.at_ id gen).bind fun cs =>
    if off + len * sz ≤ cs.length then (((cs.drop off).take (len * sz)).mapM (freeze h n)).map (.fs (cap == some len) len) else none := rfl
/-- a slice whose cells are plain -/
theorem frz_sl {hp : Heap} {id gen off sz len : Nat} {cap : Option Nat} {cs : List AV} (hat : hp.at_ id gen = some cs) (hle : off + len * sz ≤ cs.length) (hn : AV.noRefs ((cs.drop off).take (len * sz)) = true) {v : AV} :
    Frz hp (.sl id gen off sz len cap) v ↔ v = .fs (cap == some len) len ((cs.drop off).take (len * sz)) := by
  have key : ∀ m, 2 ≤ m → freeze hp m (.sl id gen off sz len cap) = some (.fs (cap == some len) len ((cs.drop off).take (len * sz))) := by
    intro m hm
    obtain ⟨m, rfl⟩ : ∃ k, m = k + 2 := ⟨m - 2, by omega⟩
    rw [freeze_sl, hat, Option.bind_some, if_pos hle, mapM_noRefs _ hn]
    rfl
  constructor
  · rintro ⟨n, hn'⟩
    have := hn' (n + 2) (by omega)
    rw [key _ (by omega)] at this
    exact (Option.some.inj this).symm
  · rintro rfl; exact ⟨2, key⟩
end
end Go.AM

set_option linter.unusedSimpArgs false
set_option linter.unusedVariables false
namespace Go.AM
def CLe (C C' : CallF) : Prop := ∀ f a h o, C f a h = some o → C' f a h = some o
section
variable {E : Env} {C C' : CallF}
theorem act_le (hc : CLe C C') {σ : Slots} {h : Heap} {op : AOp} {o : COut} (e : E.act C σ h op = some o) : E.act C' σ h op = some o := by
  by_cases hp : op.calls = false
  · rw [act_plain hp] at e ⊢; exact e
  · cases op <;> simp only [AOp.calls, not_true_eq_false] at hp
    case call f args =>
      simp only [Env.act, Option.bind_eq_some_iff] at e ⊢
      obtain ⟨l, h1, h2⟩ := e
      exact ⟨l, h1, hc _ _ _ _ h2⟩
    case callv f args =>
      simp only [Env.act, Option.bind_eq_some_iff] at e ⊢
      obtain ⟨fv, h1, h2⟩ := e
      refine ⟨fv, h1, ?_⟩
      cases fv with
      | fn g a b =>
        cases g with
        | func g =>
          simp only [Option.bind_eq_some_iff] at h2 ⊢
          obtain ⟨l, h3, h4⟩ := h2
          exact ⟨l, h3, hc _ _ _ _ h4⟩
        | _ => cases h2
      | _ => cases h2
    case panic x => exact e
theorem one_le (hc : CLe C C') {o : AOper} {s : St} {r : St × Cls × Option AV} (e : E.one C o s = some r) : E.one C' o s = some r := by
  unfold Env.one at e ⊢
  cases hw : o.wanted s.σ with
  | true =>
    rw [hw] at e
    simp only [Option.map_eq_some_iff] at e ⊢
    obtain ⟨a, h1, h2⟩ := e
    exact ⟨a, act_le hc h1, h2⟩
  | false => rw [hw] at e; exact e
theorem ops_le (hc : CLe C C') : ∀ {l : List AOper} {s : St} {r : AExit × St}, E.ops C l s = some r → E.ops C' l s = some r
  | [], _, _, e => e
  | o :: l, s, r, e => by
    simp only [Env.ops, Option.bind_eq_some_iff] at e ⊢
    obtain ⟨⟨s1, c, p⟩, h1, h2⟩ := e
    refine ⟨_, one_le hc h1, ?_⟩
    cases p with
    | none => exact ops_le hc h2
    | some v => exact h2
theorem opsLog_le (hc : CLe C C') : ∀ {l : List AOper} {s : St} {r : St × List (AOper × St × Cls)}, E.opsLog C l s = some r → E.opsLog C' l s = some r
  | [], _, _, e => e
  | o :: l, s, r, e => by
    simp only [Env.opsLog, Option.bind_eq_some_iff] at e ⊢
    obtain ⟨⟨s1, c, p⟩, h1, h2⟩ := e
    refine ⟨_, one_le hc h1, ?_⟩
    cases p with
    | none =>
      simp only [Option.map_eq_some_iff] at h2 ⊢
      obtain ⟨x, h3, h4⟩ := h2
      exact ⟨x, opsLog_le hc h3, h4⟩
    | some v => exact h2
theorem loop_le {f g : St → Option (AExit × St)} (hf : ∀ s r, f s = some r → g s = some r) : ∀ (n m : Nat), n ≤ m → ∀ {s : St} {r : AExit × St}, loopN f n s = some r → loopN g m s = some r
  | 0, _, _, _, _, e => by cases e
  | n + 1, 0, h, _, _, _ => by omega
  | n + 1, m + 1, h, s, r, e => by
    simp only [loopN, Option.bind_eq_some_iff] at e ⊢
    obtain ⟨⟨x, s1⟩, h1, h2⟩ := e
    refine ⟨_, hf _ _ h1, ?_⟩
    cases x with
    | norm => exact loop_le hf n m (by omega) h2
    | _ => exact h2
theorem code_le (hc : CLe C C') {n m : Nat} (hn : n ≤ m) : ∀ {c : AC} {s : St} {r : AExit × St}, E.code C n c s = some r → E.code C' m c s = some r
  | .skip, _, _, e => e
  | .ops l, _, _, e => ops_le hc e
  | .draw l b, s, r, e => by
    simp only [Env.code, Env.draws, Option.bind_eq_some_iff] at e ⊢
    obtain ⟨x, h1, h2⟩ := e
    exact ⟨x, opsLog_le hc h1, h2⟩
  | .seq a b, s, r, e => by
    simp only [Env.code, Option.bind_eq_some_iff] at e ⊢
    obtain ⟨⟨x, s1⟩, h1, h2⟩ := e
    refine ⟨_, code_le hc hn h1, ?_⟩
    cases x with
    | norm => exact code_le hc hn h2
    | _ => exact h2
  | .cond c x y, s, r, e => by
    simp only [Env.code, Option.bind_eq_some_iff] at e ⊢
    obtain ⟨v, h1, h2⟩ := e
    refine ⟨v, h1, ?_⟩
    cases v with
    | bool b => cases b <;> exact code_le hc hn h2
    | _ => cases h2
  | .block id b, s, r, e => by
    simp only [Env.code, Option.map_eq_some_iff] at e ⊢
    obtain ⟨x, h1, h2⟩ := e
    exact ⟨x, code_le hc hn h1, h2⟩
  | .loop b, s, r, e => by
    simp only [Env.code] at e ⊢
    exact loop_le (fun s r h => code_le (c := b) hc hn h) n m hn e
  | .exit id, _, _, e => e
  | .scope b, s, r, e => by
    simp only [Env.code] at e ⊢
    exact code_le hc hn e
  | .ret, _, _, e => e
  | .bad, _, _, e => by cases e
theorem mapM_le {α β : Type} {f g : α → Option β} (h : ∀ a b, f a = some b → g a = some b) : ∀ {l : List α} {r : List β}, l.mapM f = some r → l.mapM g = some r
  | [], _, e => e
  | a :: l, r, e => by
    rw [List.mapM_cons] at e ⊢
    simp only [Option.bind_eq_bind, Option.bind_eq_some_iff, Option.pure_def, Option.some.injEq] at e ⊢
    obtain ⟨b, h1, bs, h2, h3⟩ := e
    exact ⟨b, h a b h1, bs, mapM_le h h2, h3⟩
theorem freeze_le {h : Heap} : ∀ (n m : Nat), n ≤ m → ∀ {v u : AV}, freeze h n v = some u → freeze h m v = some u
  | 0, _, _, _, _, e => by cases e
  | n + 1, 0, hn, _, _, _ => by omega
  | n + 1, m + 1, hn, v, u, e => by
    have ih : ∀ a b, freeze h n a = some b → freeze h m a = some b := fun a b e => freeze_le n m (by omega) e
    unfold freeze at e ⊢
    cases hr : v.noRef with
    | true => rw [hr] at e; exact e
    | false =>
      rw [hr] at e
      dsimp only at e ⊢
      cases v <;> simp only [Option.bind_eq_some_iff, Option.map_eq_some_iff, reduceCtorEq] at e ⊢
      case ptr => obtain ⟨cs, h1, x, h2, h3⟩ := e; exact ⟨cs, h1, x, mapM_le ih h2, h3⟩
      case sl =>
        obtain ⟨cs, h1, h2⟩ := e
        refine ⟨cs, h1, ?_⟩
        split at h2
        · rename_i hle
          rw [if_pos hle]
          simp only [Option.map_eq_some_iff] at h2 ⊢
          obtain ⟨x, h3, h4⟩ := h2
          exact ⟨x, mapM_le ih h3, h4⟩
        · cases h2
      case fp => obtain ⟨x, h2, h3⟩ := e; exact ⟨x, mapM_le ih h2, h3⟩
      case fs => obtain ⟨x, h2, h3⟩ := e; exact ⟨x, mapM_le ih h2, h3⟩
      case ifc => obtain ⟨x, h2, h3⟩ := e; exact ⟨x, ih _ _ h2, h3⟩
      case agg => obtain ⟨x, h2, h3⟩ := e; exact ⟨x, mapM_le ih h2, h3⟩
      case tup => obtain ⟨x, h2, h3⟩ := e; exact ⟨x, mapM_le ih h2, h3⟩
theorem body_le (hc : CLe C C') {n m : Nat} (hn : n ≤ m) {fn : AFunc} {args : List AV} {h : Heap} {o : COut} (e : E.body C n fn args h = some o) : E.body C' m fn args h = some o := by
  simp only [Env.body, Option.bind_eq_some_iff] at e ⊢
  obtain ⟨x, h1, h2⟩ := e
  exact ⟨x, code_le hc hn h1, h2⟩
theorem dcode_le (hc : CLe C C') {n m : Nat} (hn : n ≤ m) : ∀ {c : AD} {s : St} {ds : List DC} {x : AExit × St × List DC}, E.dcode C n c s ds = some x → E.dcode C' m c s ds = some x
  | .code c, s, ds, x, e => by
    simp only [Env.dcode, Option.map_eq_some_iff] at e ⊢
    obtain ⟨y, h1, h2⟩ := e
    exact ⟨y, code_le hc hn h1, h2⟩
  | .dfr l f xs, s, ds, x, e => by
    simp only [Env.dcode, Option.bind_eq_some_iff] at e ⊢
    obtain ⟨y, h1, h2⟩ := e
    exact ⟨y, ops_le hc h1, h2⟩
  | .seq a b, s, ds, x, e => by
    simp only [Env.dcode, Option.bind_eq_some_iff] at e ⊢
    obtain ⟨⟨e1, s1, ds1⟩, h1, h2⟩ := e
    refine ⟨(e1, s1, ds1), dcode_le hc hn h1, ?_⟩
    cases e1 with
    | norm => exact dcode_le hc hn h2
    | _ => exact h2
theorem rbody_le (hc : CLe C C') {n m : Nat} (hn : n ≤ m) {rf : RFunc} {args : List AV} {md : AMode} {h : Heap} {x : AMode × Heap} (e : E.rbody C n rf args md h = some x) : E.rbody C' m rf args md h = some x := by
  simp only [Env.rbody, Option.bind_eq_some_iff] at e ⊢
  obtain ⟨⟨e1, s1⟩, h1, h2⟩ := e
  refine ⟨(e1, s1), ops_le hc h1, ?_⟩
  cases e1 with
  | norm =>
    simp only [Option.bind_eq_some_iff] at h2 ⊢
    obtain ⟨⟨e2, s2⟩, h3, h4⟩ := h2
    refine ⟨(e2, s2), ops_le hc h3, ?_⟩
    cases e2 with
    | norm =>
      simp only [Option.bind_eq_some_iff] at h4 ⊢
      obtain ⟨y, h5, h6⟩ := h4
      exact ⟨y, code_le hc hn h5, h6⟩
    | _ => exact h4
  | _ => exact h2
theorem dcall_le (hc : CLe C C') {n m : Nat} (hn : n ≤ m) {g : Nat} {args : List AV} {md : AMode} {h : Heap} {x : AMode × Heap} (e : E.dcall C n g args md h = some x) : E.dcall C' m g args md h = some x := by
  unfold Env.dcall at e ⊢
  cases hr : E.rfunc g with
  | some rf => rw [hr] at e; exact rbody_le hc hn e
  | none =>
    rw [hr] at e
    simp only [Option.bind_eq_some_iff] at e ⊢
    obtain ⟨af, h1, o, h2, h3⟩ := e
    exact ⟨af, h1, o, body_le hc hn h2, h3⟩
theorem unwind_le (hc : CLe C C') {n m : Nat} (hn : n ≤ m) : ∀ {ds : List DC} {md : AMode} {h : Heap} {x : AMode × Heap}, E.unwind C n ds md h = some x → E.unwind C' m ds md h = some x
  | [], md, h, x, e => e
  | (g, args) :: ds, md, h, x, e => by
    simp only [Env.unwind, Option.bind_eq_some_iff] at e ⊢
    obtain ⟨y, h1, h2⟩ := e
    exact ⟨y, dcall_le hc hn h1, unwind_le hc hn h2⟩
theorem dbody_le (hc : CLe C C') {n m : Nat} (hn : n ≤ m) {df : DFunc} {args : List AV} {h : Heap} {o : COut} (e : E.dbody C n df args h = some o) : E.dbody C' m df args h = some o := by
  simp only [Env.dbody, Option.bind_eq_some_iff] at e ⊢
  obtain ⟨x, h1, md, h2, y, h3, h4⟩ := e
  exact ⟨x, dcode_le hc hn h1, md, h2, y, unwind_le hc hn h3, h4⟩
theorem call_le : ∀ (n m : Nat), n ≤ m → CLe (E.call n) (E.call m)
  | 0, _, _ => fun f a h o e => by cases e
  | n + 1, 0, hn => by omega
  | n + 1, m + 1, hn => by
    have ih := call_le n m (by omega)
    intro f a h o e
    simp only [Env.call] at e ⊢
    cases hp : E.prim f with
    | some p => rw [hp] at e; exact e
    | none =>
      rw [hp] at e
      dsimp only at e ⊢
      cases h1 : E.func f with
      | none =>
      rw [h1] at e
      simp only [Option.bind_eq_some_iff] at e ⊢
      obtain ⟨df, h2, h3⟩ := e
      exact ⟨df, h2, dbody_le ih (by omega) h3⟩
      | some fn =>
      rw [h1] at e
      dsimp only at e ⊢
      have h2 := e
      cases hu : E.pure_ f with
      | false => rw [hu] at h2; exact body_le ih (by omega) h2
      | true =>
        rw [hu] at h2
        cases hr : AV.noRefs a with
        | false => rw [hr] at h2; exact body_le ih (by omega) h2
        | true =>
          rw [hr] at h2
          simp only [Option.bind_eq_some_iff] at h2 ⊢
          obtain ⟨x, h3, h4⟩ := h2
          refine ⟨x, body_le ih (by omega) h3, ?_⟩
          cases x with
          | panic v h' => cases h4
          | ret r =>
            simp only [Option.map_eq_some_iff] at h4 ⊢
            obtain ⟨u, h5, h6⟩ := h4
            exact ⟨u, freeze_le n m (by omega) h5, h6⟩
/-- one run is enough -/
theorem wc_run {n f : Nat} {args : List AV} {h : Heap} {o : COut} (e : E.call n f args h = some o) : WC E f args h (fun x => x = o) :=
  ⟨o, ⟨n, fun m hm => call_le n m hm _ _ _ _ e⟩, rfl⟩
/-- and a call that ends so has a run -/
theorem run_of_wc {f : Nat} {args : List AV} {h : Heap} {Q : COut → Prop} (k : WC E f args h Q) : ∃ n o, E.call n f args h = some o ∧ Q o := by
  obtain ⟨o, ⟨n, hn⟩, hq⟩ := k
  exact ⟨n, o, hn n (Nat.le_refl _), hq⟩
end
end Go.AM

set_option linter.unusedSimpArgs false
set_option linter.unusedVariables false
namespace Go.AM
/-- a slice that is cut: within its length, else beyond it -/
def sliceO (h : Heap) (sz : Nat) (v : AV) (a b c : Option AV) : Option AV → Option OpRes
  | some v' => some ⟨v', h, .none⟩
  | none => aSliceH h sz v a b c
theorem sliceO_some {h : Heap} {sz : Nat} {v v' : AV} {a b c : Option AV} : sliceO h sz v a b c (some v') = some ⟨v', h, .none⟩ := id rfl
section
variable {E : Env} {σ : Slots} {h : Heap}
@[simp] theorem op_mv {x : Opd} : E.op σ h (.mv x) = (E.opd σ x).map fun v => ⟨v, h, .none⟩ := rfl
@[simp] theorem op_bin {o : BinOp} {x y : Opd} : E.op σ h (.bin o x y) = (E.opd σ x).bind fun a => (E.opd σ y).bind fun b => (aBin o a b).map fun v => ⟨v, h, .none⟩ := rfl
@[simp] theorem op_eq {ng : Bool} {e : EqT} {x y : Opd} : E.op σ h (.eq ng e x y) = (E.opd σ x).bind fun a => (E.opd σ y).bind fun b => (aEq e a b).map fun r => ⟨.bool (negIf ng r), h, .none⟩ := rfl
@[simp] theorem op_un {o : UnOp} {x : Opd} : E.op σ h (.un o x) = (E.opd σ x).bind fun a => (aUn o a).map fun v => ⟨v, h, .none⟩ := rfl
@[simp] theorem op_conv {c : CvT} {x : Opd} : E.op σ h (.conv c x) = (E.opd σ x).bind (aConv h c) := rfl
@[simp] theorem op_load {ag : Bool} {sz : Nat} {x : Opd} : E.op σ h (.load ag sz x) = (E.opd σ x).bind (aLoad h ag sz) := rfl
@[simp] theorem op_store {sz : Nat} {x v : Opd} : E.op σ h (.store sz x v) = (E.opd σ x).bind fun a => (E.opd σ v).bind fun b => aStore h sz a b := rfl
@[simp] theorem op_slice {sz : Nat} {x : Opd} {lo hi mx : Option Opd} : E.op σ h (.slice sz x lo hi mx) = (E.opd σ x).bind fun v => (E.opdo σ lo).bind fun a => (E.opdo σ hi).bind fun b => (E.opdo σ mx).bind fun c => sliceO h sz v a b c (aSlice sz v a b c) := by
  simp only [Env.op]
  cases E.opd σ x with
  | none => rfl
  | some v =>
    cases E.opdo σ lo with
    | none => rfl
    | some a =>
      cases E.opdo σ hi with
      | none => rfl
      | some b =>
        cases E.opdo σ mx with
        | none => rfl
        | some c =>
          simp only [Option.bind_some]
          cases aSlice sz v a b c <;> rfl
@[simp] theorem op_append {sz bt : Nat} {x y : Opd} : E.op σ h (.append sz bt x y) = (E.opd σ x).bind fun a => (E.opd σ y).bind fun b => aAppend h sz bt a b := rfl
@[simp] theorem op_idxAddr {sz : Nat} {x i : Opd} : E.op σ h (.idxAddr sz x i) = (E.opd σ x).bind fun a => (E.opd σ i).bind fun b => (aIdxAddr sz a b).map fun v => ⟨v, h, .none⟩ := rfl
@[simp] theorem op_lit {fr : Bool} {sz len : Nat} {cells : List AV} {ps : List (Nat × Nat × Opd)} : E.op σ h (.lit fr sz len cells ps) = (E.parts σ ps).bind fun l => (aFill cells l).bind fun cs => if cs.length = len * sz then
      match fr with
      | true => some ⟨.fs true len cs, h, .none⟩
      | false => some ⟨.sl h.next 0 0 sz len (some len), h.new cs, .write⟩
    else none := rfl
@[simp] theorem op_build {z : List AV} {ps : List (Nat × Nat × Opd)} : E.op σ h (.build z ps) = (E.parts σ ps).bind fun l => (aFill z l).map fun cs => ⟨.agg cs, h, .none⟩ := rfl
@[simp] theorem op_box {fr : Bool} {sz : Nat} {x : Opd} : E.op σ h (.box fr sz x) = (E.opd σ x).bind fun v => v.row.bind fun vs => if vs.length = sz then
      match fr with
      | true => some ⟨.fp vs, h, .none⟩
      | false => some ⟨.ptr h.next 0 0, h.new vs, .write⟩
    else none := rfl
@[simp] theorem op_alloc {z : List AV} : E.op σ h (.alloc z) = some ⟨.ptr h.next 0 0, h.new z, .write⟩ := rfl
@[simp] theorem op_mkIface {t : TypeId} {x : Opd} : E.op σ h (.mkIface t x) = (E.opd σ x).map fun v => ⟨.ifc t v, h, .none⟩ := rfl
@[simp] theorem op_pick {c a b : Opd} : E.op σ h (.pick c a b) = (E.opd σ c).bind fun
    | .bool true => (E.opd σ a).map fun v => ⟨v, h, .none⟩
    | .bool false => (E.opd σ b).map fun v => ⟨v, h, .none⟩
    | _ => none := rfl
@[simp] theorem opdo_none : E.opdo σ none = some none := rfl
@[simp] theorem opdo_some {x : Opd} : E.opdo σ (some x) = (E.opd σ x).map some := rfl
@[simp] theorem opds_nil : E.opds σ [] = some [] := rfl
@[simp] theorem opds_cons {x : Opd} {xs : List Opd} : E.opds σ (x :: xs) = (E.opd σ x).bind fun v => (E.opds σ xs).map fun vs => v :: vs := rfl
@[simp] theorem parts_nil : E.parts σ [] = some [] := rfl
@[simp] theorem parts_cons {i s : Nat} {x : Opd} {xs : List (Nat × Nat × Opd)} : E.parts σ ((i, s, x) :: xs) = (E.opd σ x).bind fun v => (E.parts σ xs).map fun vs => (i, s, v) :: vs := rfl
end
/-- the object in which a slice lies -/
def AV.own : AV → Option Nat
  | .sl id _ _ _ _ _ => some id
  | _ => none
inductive Bytes (h : Heap) : AV → List UInt8 → Prop
  | nils : Bytes h .nils []
  | fs (full : Bool) (bs : List UInt8) : Bytes h (.fs full bs.length (bs.map byteAV)) bs
  | sl (id gen off : Nat) (cap : Option Nat) (cs : List AV) (bs : List UInt8) (hat : h.at_ id gen = some cs) (hle : off + bs.length ≤ cs.length) (hc : (cs.drop off).take bs.length = bs.map byteAV) (hcap : ∀ c, cap = some c → bs.length ≤ c) :
      Bytes h (.sl id gen off 1 bs.length cap) bs
@[simp] theorem toByte_byteAV (b : UInt8) : toByte (byteAV b) = some b := by
  simp [toByte, byteAV]
theorem mapM_toByte : ∀ (bs : List UInt8), (bs.map byteAV).mapM toByte = some bs
  | [] => rfl
  | b :: bs => by
    rw [List.map_cons, List.mapM_cons, mapM_toByte bs, toByte_byteAV]
    rfl
section
variable {h : Heap} {v : AV} {bs : List UInt8}
theorem Bytes.len (k : Bytes h v bs) : aLen v = some bs.length := by
  cases k <;> rfl
theorem Bytes.cells (k : Bytes h v bs) : ∃ c, c ≠ .write ∧ sliceCells h 1 bs.length v = some (bs.map byteAV, c) := by
  cases k with
  | nils => exact ⟨.none, by simp, rfl⟩
  | fs full => exact ⟨.none, by simp, by simp [sliceCells, List.take_of_length_le]⟩
  | sl id gen off cap cs _ hat hle hc hcap => exact ⟨.read, by simp, by simp [sliceCells, hat, hle, hc]⟩
theorem Bytes.b2s (k : Bytes h v bs) : ∃ c, c ≠ .write ∧ aConv h .b2s v = some ⟨.str bs, h, c⟩ := by
  obtain ⟨c, hc, hs⟩ := k.cells
  refine ⟨c, hc, ?_⟩
  have hl := k.len
  have : aConv h .b2s v = (aLen v).bind fun n => (sliceCells h 1 n v).bind fun (cs, k) => (cs.mapM toByte).map fun bs => ⟨.str bs, h, k⟩ := by
    cases k <;> rfl
  rw [this, hl, Option.bind_some, hs]
  simp only [Option.bind_some, mapM_toByte, Option.map_some]
/-- the heap has grown: nothing that was is gone -/
def Heap.le (h h' : Heap) : Prop := h.next ≤ h'.next ∧ ∀ id gen cs, h.at_ id gen = some cs → h'.at_ id gen = some cs
theorem Bytes.le {h' : Heap} (k : Bytes h v bs) (hl : h.le h') : Bytes h' v bs := by
  cases k with
  | nils => exact .nils
  | fs full => exact .fs full _
  | sl id gen off cap cs _ hat hle hc hcap => exact .sl id gen off cap cs _ (hl.2 _ _ _ hat) hle hc hcap
end
theorem sbound_ok {y : Nat} {k : IntKind} {i : Nat} (h1 : i ≤ y) : sbound y (.int k i) = some i := by
  have h0 : (0 : Int) ≤ i := Int.natCast_nonneg i
  have h2 : (i : Int) ≤ y := by exact_mod_cast h1
  simp [sbound, h0, h2]
theorem bounds_from {len cap l : Nat} {k : IntKind} (h1 : l ≤ len) : bounds len cap (some (.int k l)) none none = some (l, len, cap) := by
  simp [bounds, sbound_ok h1]
theorem bounds_to {len cap u : Nat} {k : IntKind} (h1 : u ≤ cap) : bounds len cap none (some (.int k u)) none = some (0, u, cap) := by
  simp [bounds, sbound_ok h1]
theorem take_drop_take {α : Type} (cs : List α) (off n l u : Nat) (h1 : l ≤ u) (h2 : u ≤ n) : (cs.drop (off + l)).take (u - l) = (((cs.drop off).take n).drop l).take (u - l) := by
  rw [List.drop_take, List.take_take, List.drop_drop]
  congr 1
  omega
section
variable {h : Heap} {v : AV} {bs : List UInt8}
/-- is a part's room known? -/
def partFull (full : Bool) (n u m : Nat) : Option AV → Bool
  | some _ => m == u
  | none => full && u == n
theorem aSlice_fs {sz n l u m : Nat} {full : Bool} {cs : List AV} {lo hi mx : Option AV} (hl : cs.length = n * sz) (hm : bounds n n lo hi mx = some (l, u, m)) :
    aSlice sz (.fs full n cs) lo hi mx = some (.fs (partFull full n u m mx) (u - l) ((cs.drop (l * sz)).take ((u - l) * sz))) := by
  unfold aSlice
  dsimp only
  rw [if_pos hl, hm]
  cases mx <;> rfl
/-- the part of a slice from l to u, whatever of its room goes with it -/
theorem Bytes.part (k : Bytes h v bs) {lo hi mx : Option AV} {l u : Nat} (h1 : l ≤ u) (h2 : u ≤ bs.length)
    (hb : ∀ cap, bs.length ≤ cap → ∃ m, u ≤ m ∧ m ≤ cap ∧ bounds bs.length cap lo hi mx = some (l, u, m)) :
    ∃ v', aSlice 1 v lo hi mx = some v' ∧ Bytes h v' ((bs.drop l).take (u - l)) := by
  have hlen : ((bs.drop l).take (u - l)).length = u - l := by simp; omega
  cases k with
  | nils =>
    obtain ⟨m, m1, m2, hm⟩ := hb 0 (by simp)
    simp only [List.length_nil] at hm
    refine ⟨.nils, by simp [aSlice, hm], ?_⟩
    simp only [List.drop_nil, List.take_nil]
    exact .nils
  | fs full =>
    obtain ⟨m, m1, m2, hm⟩ := hb bs.length (Nat.le_refl _)
    have hs := aSlice_fs (sz := 1) (full := full) (cs := bs.map byteAV) (by simp) hm
    refine ⟨_, hs, ?_⟩
    have := Bytes.fs (h := h) (partFull full bs.length u m mx) ((bs.drop l).take (u - l))
    rw [hlen] at this
    simpa [List.map_take, List.map_drop] using this
  | sl id gen off cap cs _ hat hle hc hcap =>
    have key : ∀ cap', (∀ c, cap' = some c → u - l ≤ c) → Bytes h (.sl id gen (off + l * 1) 1 (u - l) cap') ((bs.drop l).take (u - l)) := by
      intro cap' hcap'
      have := Bytes.sl (h := h) id gen (off + l * 1) cap' cs ((bs.drop l).take (u - l)) hat (by rw [hlen]; omega) (by
        rw [hlen, Nat.mul_one, take_drop_take cs off bs.length l u h1 h2, hc]
        simp [List.map_take, List.map_drop]) (by rw [hlen]; exact hcap')
      rw [hlen] at this
      exact this
    cases cap with
    | some c =>
      obtain ⟨m, m1, m2, hm⟩ := hb c (hcap c rfl)
      have hs : aSlice 1 (.sl id gen off 1 bs.length (some c)) lo hi mx = some (.sl id gen (off + l * 1) 1 (u - l) (some (m - l))) := by
        unfold aSlice
        dsimp only
        rw [if_pos rfl, hm]
        rfl
      exact ⟨_, hs, key _ (fun c' e => by simp only [Option.some.injEq] at e; omega)⟩
    | none =>
      obtain ⟨m, m1, m2, hm⟩ := hb bs.length (Nat.le_refl _)
      have hs : aSlice 1 (.sl id gen off 1 bs.length none) lo hi mx = some (.sl id gen (off + l * 1) 1 (u - l) (mx.map fun _ => m - l)) := by
        unfold aSlice
        dsimp only
        rw [if_pos rfl, hm]
        rfl
      refine ⟨_, hs, key _ (fun c' e => ?_)⟩
      cases mx with
      | none => cases e
      | some x => simp only [Option.map_some, Option.some.injEq] at e; omega
theorem Bytes.from (k : Bytes h v bs) {kd : IntKind} {l : Nat} (h1 : l ≤ bs.length) : ∃ v', aSlice 1 v (some (.int kd l)) none none = some v' ∧ Bytes h v' (bs.drop l) := by
  obtain ⟨v', g1, g2⟩ := k.part (lo := some (.int kd l)) (hi := none) (mx := none) h1 (Nat.le_refl _) (fun cap hc => ⟨cap, hc, Nat.le_refl _, bounds_from h1⟩)
  refine ⟨v', g1, ?_⟩
  rwa [List.take_of_length_le (by simp)] at g2
theorem Bytes.to (k : Bytes h v bs) {kd : IntKind} {u : Nat} (h1 : u ≤ bs.length) : ∃ v', aSlice 1 v none (some (.int kd u)) none = some v' ∧ Bytes h v' (bs.take u) := by
  obtain ⟨v', g1, g2⟩ := k.part (lo := none) (hi := some (.int kd u)) (mx := none) (l := 0) (Nat.zero_le _) h1 (fun cap hc => ⟨cap, by omega, Nat.le_refl _, bounds_to (by omega)⟩)
  exact ⟨v', g1, by simpa using g2⟩
/-- an element of it -/
theorem Bytes.elem (k : Bytes h v bs) {kd : IntKind} {i : Nat} (hi : i < bs.length) : ∃ p c, aIdxAddr 1 v (.int kd i) = some p ∧ aLoad h false 1 p = some ⟨byteAV (bs.getD i 0), h, c⟩ ∧ c ≠ .write := by
  have hidx : aIndex bs.length (.int kd i) = some i := by
    have h0 : (0 : Int) ≤ i := Int.natCast_nonneg i
    have h2 : (i : Int) < bs.length := by exact_mod_cast hi
    simp [aIndex, h0, h2]
  have hget : bs[i]? = some (bs.getD i 0) := by
    rw [List.getD_eq_getElem?_getD, List.getElem?_eq_getElem hi]; rfl
  cases k with
  | nils => simp at hi
  | fs full =>
    cases hbs : bs.map byteAV with
    | nil => simp at hbs; subst hbs; simp at hi
    | cons a l =>
      refine ⟨.fp ((bs.map byteAV).drop (i * 1)), .none, by simp [aIdxAddr, hbs, hidx], ?_, by simp⟩
      simp only [aLoad, ldCells, Nat.mul_one, List.head?_drop, List.getElem?_map, hget, Option.map_some]
  | sl id gen off cap cs _ hat hle hc hcap =>
    refine ⟨.ptr id gen (off + i * 1), .read, by simp [aIdxAddr, hidx], ?_, by simp⟩
    have : cs[off + i]? = some (byteAV (bs.getD i 0)) := by
      have h3 : ((cs.drop off).take bs.length)[i]? = some (byteAV (bs.getD i 0)) := by
        rw [hc, List.getElem?_map, hget]; rfl
      rw [List.getElem?_take, if_pos hi, List.getElem?_drop] at h3
      exact h3
    simp only [aLoad, hat, Option.bind_some, ldCells, Nat.mul_one, List.head?_drop, this, Option.map_some]
end
/-- nobody lies beyond its end -/
def HeapOk (h : Heap) : Prop := ∀ id, h.next ≤ id → h.look id = none
theorem HeapOk.empty : HeapOk .empty := fun id _ => rfl
theorem at_look {h : Heap} {id gen : Nat} {cs : List AV} : h.at_ id gen = some cs ↔ h.look id = some ⟨gen, cs⟩ := by
  unfold Heap.at_ Heap.look
  constructor
  · intro e
    cases ho : h.tr.get id with
    | none => rw [ho] at e; cases e
    | some o =>
      rw [ho] at e
      dsimp only at e
      cases hb : Nat.beq o.gen gen with
      | false => rw [hb] at e; cases e
      | true =>
        rw [hb] at e
        have := Nat.eq_of_beq_eq_true hb
        obtain ⟨g, c⟩ := o
        cases this
        cases e
        rfl
  · intro e
    rw [e]
    dsimp only
    rw [Nat.beq_refl]
theorem look_new (h : Heap) (cs : List AV) (id : Nat) : (h.new cs).look id = if id = h.next then some ⟨0, cs⟩ else h.look id := by
  simp only [Heap.look, Heap.new, Tr.get_set]
theorem look_upd (h : Heap) (id gen : Nat) (cs : List AV) (id' : Nat) : (h.upd id gen cs).look id' = if id' = id then some ⟨gen, cs⟩ else h.look id' := by
  simp only [Heap.look, Heap.upd, Tr.get_set]
theorem HeapOk.new {h : Heap} (k : HeapOk h) (cs : List AV) : HeapOk (h.new cs) := by
  intro id hid
  have h1 : Nat.succ h.next ≤ id := hid
  rw [look_new, if_neg (by omega)]
  exact k id (by omega)
theorem HeapOk.upd {h : Heap} (k : HeapOk h) {id : Nat} {o : AObj} (hl : h.look id = some o) (gen : Nat) (cs : List AV) : HeapOk (h.upd id gen cs) := by
  intro id' hid
  have h1 : h.next ≤ id' := hid
  rw [look_upd, if_neg (fun e => by subst e; rw [k _ h1] at hl; cases hl)]
  exact k id' h1
theorem le_new {h : Heap} (k : HeapOk h) (cs : List AV) : h.le (h.new cs) := by
  refine ⟨Nat.le_succ _, fun id gen cs' hat => ?_⟩
  rw [at_look] at hat ⊢
  rw [look_new, if_neg (fun e => by subst e; rw [k _ (Nat.le_refl _)] at hat; cases hat)]
  exact hat
theorem at_new {h : Heap} (cs : List AV) : (h.new cs).at_ h.next 0 = some cs := by
  rw [at_look, look_new, if_pos rfl]
theorem Heap.le_refl (h : Heap) : h.le h := ⟨Nat.le_refl _, fun _ _ _ e => e⟩
theorem Heap.le_trans {a b c : Heap} (h : a.le b) (k : b.le c) : a.le c := ⟨Nat.le_trans h.1 k.1, fun id gen cs e => k.2 id gen cs (h.2 id gen cs e)⟩
theorem aLen_fs {f : Bool} {n : Nat} {cs : List AV} : aLen (.fs f n cs) = some n := rfl
theorem aLen_nils : aLen .nils = some 0 := rfl
theorem aLen_sl {a b c d e : Nat} {f : Option Nat} : aLen (.sl a b c d e f) = some e := rfl
theorem Bytes.row {h : Heap} {v : AV} {bs : List UInt8} (k : Bytes h v bs) : v.row = some [v] := by
  cases k <;> rfl
inductive Acc (h : Heap) (sz : Nat) : AV → List AV → Prop
  | nils : Acc h sz .nils []
  | full (n : Nat) (cells : List AV) (hl : cells.length = n * sz) : Acc h sz (.fs true n cells) cells
  | sl (id gen n : Nat) (cells : List AV) (hat : h.at_ id gen = some cells) (hl : cells.length = n * sz) : Acc h sz (.sl id gen 0 sz n none) cells
def Heap.leBut (o : Option Nat) (h h' : Heap) : Prop := h.next ≤ h'.next ∧ ∀ id gen cs, o ≠ some id → h.at_ id gen = some cs → h'.at_ id gen = some cs
theorem Heap.le.but {h h' : Heap} (k : h.le h') (o : Option Nat) : Heap.leBut o h h' := ⟨k.1, fun id gen cs _ e => k.2 id gen cs e⟩
theorem Heap.leBut.trans {a b c : Heap} {o : Option Nat} (h : Heap.leBut o a b) (k : Heap.leBut o b c) : Heap.leBut o a c := ⟨Nat.le_trans h.1 k.1, fun id gen cs hne e => k.2 id gen cs hne (h.2 id gen cs hne e)⟩
theorem HeapOk.lt {h : Heap} (k : HeapOk h) {id gen : Nat} {cs : List AV} (e : h.at_ id gen = some cs) : id < h.next := by
  rw [at_look] at e
  apply Nat.lt_of_not_le
  intro hle
  rw [k id hle] at e; cases e
theorem Acc.len {h : Heap} {sz : Nat} {x : AV} {cells : List AV} (k : Acc h sz x cells) : ∃ n, aLen x = some n ∧ cells.length = n * sz := by
  cases k with
  | nils => exact ⟨0, rfl, by simp⟩
  | full n _ hl => exact ⟨n, rfl, hl⟩
  | sl id gen n _ hat hl => exact ⟨n, rfl, hl⟩
theorem Acc.append {h : Heap} (ho : HeapOk h) {sz bt m n : Nat} (hsz : 0 < sz) {x y : AV} {cells new : List AV} {c : Cls} (k : Acc h sz x cells) (hm : aLen x = some m) (hy : aLen y = some n) (hc : sliceCells h sz n y = some (new, c))
    (hn : new.length = n * sz) (hb : (m + n) * bt ≤ 70368744177664) (hb2 : m + n ≤ 70368744177664) :
    ∃ x' h' c', aAppend h sz bt x y = some ⟨x', h', c'⟩ ∧ Acc h' sz x' (cells ++ new) ∧ Heap.leBut x.own h h' ∧ HeapOk h' ∧ (∀ id, x'.own = some id → x.own = some id ∨ h.next ≤ id) ∧ aLen x' = some (m + n) := by
  by_cases h0 : n = 0
  · subst h0
    have hnew : new = [] := List.length_eq_zero_iff.1 (by simpa using hn)
    subst hnew
    refine ⟨x, h, .none, ?_, by simpa using k, ⟨Nat.le_refl _, fun _ _ _ _ e => e⟩, ho, fun id e => .inl e, by simpa using hm⟩
    cases k <;> (unfold aAppend; rw [hy, Option.bind_some, hm, Option.bind_some, if_pos ⟨hb, hb2, hsz⟩, if_pos rfl])
  · have grow : ∀ (old : List AV) (c2 : Cls), sliceCells h sz m x = some (old, c2) → old = cells → x.own = none ∨ True →
        Acc (h.new (old ++ new)) sz (.sl h.next 0 0 sz (m + n) none) (cells ++ new) ∧ Heap.leBut x.own h (h.new (old ++ new)) ∧ HeapOk (h.new (old ++ new)) ∧
        (∀ id, (AV.sl h.next 0 0 sz (m + n) none).own = some id → x.own = some id ∨ h.next ≤ id) := by
      rintro old c2 hs rfl _
      obtain ⟨m', hm', hlc⟩ := k.len
      rw [hm] at hm'
      cases hm'
      refine ⟨.sl _ _ _ _ (at_new _) (by rw [List.length_append, hlc, hn, Nat.add_mul]), (le_new ho _).but _, ho.new _, fun id e => .inr ?_⟩
      simp only [AV.own, Option.some.injEq] at e
      omega
    cases k with
    | nils =>
      simp only [aLen_nils, Option.some.injEq] at hm
      subst hm
      obtain ⟨g1, g2, g3, g4⟩ := grow [] .none (by simp [sliceCells]) rfl (.inr trivial)
      refine ⟨_, _, .write, ?_, g1, g2, g3, g4, rfl⟩
      unfold aAppend
      rw [hy, Option.bind_some, aLen_nils, Option.bind_some, if_pos ⟨hb, hb2, hsz⟩, if_neg h0, hc]
      simp [sliceCells]
    | full m' _ hl =>
      simp only [aLen_fs, Option.some.injEq] at hm
      subst hm
      have hs : sliceCells h sz m' (.fs true m' cells) = some (cells, .none) := by
        simp [sliceCells, hl, List.take_of_length_le]
      obtain ⟨g1, g2, g3, g4⟩ := grow cells .none hs rfl (.inr trivial)
      refine ⟨_, _, .write, ?_, g1, g2, g3, g4, rfl⟩
      unfold aAppend
      rw [hy, Option.bind_some, aLen_fs, Option.bind_some, if_pos ⟨hb, hb2, hsz⟩, if_neg h0, hc]
      simp [hs]
    | sl id gen m' _ hat hl =>
      simp only [aLen_sl, Option.some.injEq] at hm
      subst hm
      have hpos : 0 < n * sz := Nat.mul_pos (by omega) hsz
      have hno : ¬ (0 + (m' + n) * sz ≤ cells.length) := by
        rw [hl, Nat.add_mul]; omega
      have hlk : h.look id = some ⟨gen, cells⟩ := at_look.1 hat
      refine ⟨.sl id (Nat.succ gen) 0 sz (m' + n) none, h.upd id (Nat.succ gen) (cells.drop 0 ++ new), .write, ?_, ?_, ?_, ho.upd hlk _ _, fun id' e => .inl e, rfl⟩
      · unfold aAppend
        rw [hy, Option.bind_some, aLen_sl, Option.bind_some, if_pos ⟨hb, hb2, hsz⟩, if_neg h0, hc]
        simp only [Option.bind_some, if_true, hat]
        rw [if_neg hno, if_pos (by rw [hl]; omega)]
      · refine .sl _ _ _ _ ?_ (by rw [List.length_append, hl, hn, Nat.add_mul])
        rw [at_look, look_upd, if_pos rfl]
        rfl
      · refine ⟨Nat.le_refl _, fun id' gen' cs' hne e => ?_⟩
        rw [at_look] at e ⊢
        rw [look_upd, if_neg (fun he => hne (by rw [he]; rfl))]
        exact e
theorem Bytes.leBut {h h' : Heap} {v : AV} {bs : List UInt8} {o : Option Nat} (k : Bytes h v bs) (hl : Heap.leBut o h h') (hne : ∀ id, v.own = some id → o ≠ some id) : Bytes h' v bs := by
  cases k with
  | nils => exact .nils
  | fs full => exact .fs full _
  | sl id gen off cap cs _ hat hle hc hcap => exact .sl id gen off cap cs _ (hl.2 _ _ _ (hne id rfl) hat) hle hc hcap
theorem Acc.le {h h' : Heap} {sz : Nat} {x : AV} {cells : List AV} (k : Acc h sz x cells) (hl : h.le h') : Acc h' sz x cells := by
  cases k with
  | nils => exact .nils
  | full n _ hl => exact .full n _ hl
  | sl id gen n _ hat hl' => exact .sl id gen n _ (hl.2 _ _ _ hat) hl'
end Go.AM

set_option linter.unusedVariables false
set_option linter.unusedSimpArgs false
namespace Go.AM
/-- two classes of operations that may change places, or are ordered -/
def clsApart (ordered : Bool) (x y : Cls) : Bool := ordered || match x, y with
  | .none, _ | _, .none | .read, .read => true
  | _, _ => false
def clsAll (x : Cls) (i : Nat) : List Cls → List Nat → Bool
  | y :: ys, m :: ms => clsApart (Nat.testBit m i) x y && clsAll x i ys ms
  | _, _ => true
def clsDraw : Nat → List Cls → List Nat → Bool
  | i, x :: xs, _ :: ms => clsAll x i xs ms && clsDraw (i + 1) xs ms
  | _, _, _ => true
theorem apart_of_cls {E : Env} {o : Bool} {hs : List Heap} {x y : AOper × St × Cls} (h : clsApart o x.2.2 y.2.2 = true) : E.apart o hs x y = true := by
  unfold clsApart at h
  unfold Env.apart
  cases o
  · simp only [Bool.false_or] at h ⊢
    cases hx : x.2.2 <;> cases hy : y.2.2 <;> simp [hx, hy] at h ⊢
  · rfl
theorem all_of_cls {E : Env} {hs : List Heap} {x : AOper × St × Cls} {i : Nat} : ∀ {l : List (AOper × St × Cls)} {ms : List Nat}, clsAll x.2.2 i (l.map fun y => y.2.2) ms = true → E.apartAll hs x i l ms = true
  | [], _, _ => by simp [Env.apartAll]
  | _ :: _, [], _ => by simp [Env.apartAll]
  | y :: l, m :: ms, h => by
    simp only [List.map_cons, clsAll, Bool.and_eq_true] at h
    simp only [Env.apartAll, Bool.and_eq_true]
    exact ⟨apart_of_cls h.1, all_of_cls h.2⟩
theorem draw_of_cls {E : Env} {hs : List Heap} : ∀ {l : List (AOper × St × Cls)} {ms : List Nat} {i : Nat}, clsDraw i (l.map fun y => y.2.2) ms = true → E.drawOk hs i l ms = true
  | [], _, _, _ => by simp [Env.drawOk]
  | _ :: _, [], _, _ => by simp [Env.drawOk]
  | y :: l, m :: ms, i, h => by
    simp only [List.map_cons, clsDraw, Bool.and_eq_true] at h
    simp only [Env.drawOk, Bool.and_eq_true]
    exact ⟨all_of_cls h.1, draw_of_cls h.2⟩
end Go.AM

set_option linter.unusedVariables false
set_option linter.unusedSimpArgs false
namespace Go.AM
theorem at_upd {h : Heap} {id gen : Nat} {cs : List AV} : (h.upd id gen cs).at_ id gen = some cs := by
  rw [at_look, look_upd, if_pos rfl]
theorem at_upd_ne {h : Heap} {id gen id' gen' : Nat} {cs : List AV} (hne : id' ≠ id) : (h.upd id gen cs).at_ id' gen' = h.at_ id' gen' := by
  cases ha : h.at_ id' gen' with
  | some c => rw [at_look] at ha ⊢; rw [look_upd, if_neg hne]; exact ha
  | none =>
    cases hb : (h.upd id gen cs).at_ id' gen' with
    | none => rfl
    | some c =>
      rw [at_look, look_upd, if_neg hne] at hb
      rw [at_look.2 hb] at ha; cases ha
theorem wrap_small {n : Nat} (h : n < 9223372036854775808) : IntKind.wrap .i64 (n : Int) = n := by
  have h0 : (0 : Int) ≤ n := Int.natCast_nonneg n
  have h1 : (n : Int) < 9223372036854775808 := by omega
  have e : (n : Int) % 18446744073709551616 = n := by omega
  show (if (true && decide ((n : Int) % 18446744073709551616 ≥ 9223372036854775808)) = true then (n : Int) % 18446744073709551616 - 18446744073709551616 else (n : Int) % 18446744073709551616) = n
  rw [e, if_neg]
  simp only [Bool.true_and, decide_eq_true_eq]
  omega
theorem wrap_nat {e : Int} {n : Nat} (h : e = n) (hn : n < 9223372036854775808) : IntKind.wrap .i64 e = n := by
  rw [h]; exact wrap_small hn
theorem Acc.row {h : Heap} {sz : Nat} {x : AV} {cells : List AV} (k : Acc h sz x cells) : x.row = some [x] := by
  cases k <;> rfl
/-- all but these objects are kept -/
def Chg (S : Nat → Prop) (h h' : Heap) : Prop := h.next ≤ h'.next ∧ ∀ id gen cs, ¬ S id → h.at_ id gen = some cs → h'.at_ id gen = some cs
theorem Chg.refl {S : Nat → Prop} {h : Heap} : Chg S h h := ⟨Nat.le_refl _, fun _ _ _ _ e => e⟩
theorem Chg.trans {S : Nat → Prop} {a b c : Heap} (x : Chg S a b) (y : Chg S b c) : Chg S a c := ⟨Nat.le_trans x.1 y.1, fun id gen cs n e => y.2 id gen cs n (x.2 id gen cs n e)⟩
theorem Chg.mono {S T : Nat → Prop} {a b : Heap} (x : Chg S a b) (h : ∀ i, S i → T i) : Chg T a b := ⟨x.1, fun id gen cs n e => x.2 id gen cs (fun s => n (h id s)) e⟩
theorem Heap.le.chg {S : Nat → Prop} {a b : Heap} (x : a.le b) : Chg S a b := ⟨x.1, fun id gen cs _ e => x.2 id gen cs e⟩
theorem Heap.leBut.chg {S : Nat → Prop} {o : Option Nat} {a b : Heap} (x : Heap.leBut o a b) (hs : ∀ i, o = some i → S i) : Chg S a b := ⟨x.1, fun id gen cs n e => x.2 id gen cs (fun e2 => n (hs id e2)) e⟩
theorem upd_chg {S : Nat → Prop} {h : Heap} {id gen : Nat} {cs : List AV} (hs : S id) : Chg S h (h.upd id gen cs) :=
  ⟨Nat.le_refl _, fun id' gen' cs' hne e => by rw [at_upd_ne (fun e2 => hne (by rw [e2]; exact hs))]; exact e⟩
theorem Acc.chg {h h' : Heap} {sz : Nat} {x : AV} {cells : List AV} {S : Nat → Prop} (k : Acc h sz x cells) (hl : Chg S h h') (hne : ∀ id, x.own = some id → ¬ S id) : Acc h' sz x cells := by
  cases k with
  | nils => exact .nils
  | full n _ hl => exact .full n _ hl
  | sl id gen n _ hat hl' => exact .sl id gen n _ (hl.2 _ _ _ (hne id rfl) hat) hl'
theorem Bytes.chg {h h' : Heap} {v : AV} {bs : List UInt8} {S : Nat → Prop} (k : Bytes h v bs) (hl : Chg S h h') (hne : ∀ id, v.own = some id → ¬ S id) : Bytes h' v bs := by
  cases k with
  | nils => exact .nils
  | fs full => exact .fs full _
  | sl id gen off cap cs _ hat hle hc hcap => exact .sl id gen off cap cs _ (hl.2 _ _ _ (hne id rfl) hat) hle hc hcap
theorem row_byte (b : UInt8) : (byteAV b).row = some [byteAV b] := rfl
theorem Bytes.set {h : Heap} {v : AV} {bs : List UInt8} (ho : HeapOk h) (k : Bytes h v bs) {i : Nat} (hi : i < bs.length) (hne : v.own ≠ none) (b : UInt8) :
    ∃ p h', aIdxAddr 1 v (.int .i64 i) = some p ∧ aStore h 1 p (byteAV b) = some ⟨.undef, h', .write⟩ ∧ HeapOk h' ∧ Bytes h' v (bs.set i b) ∧ Chg (fun j => v.own = some j) h h' := by
  have hidx : aIndex bs.length (.int .i64 i) = some i := by
    have h0 : (0 : Int) ≤ i := Int.natCast_nonneg i
    have h2 : (i : Int) < bs.length := by exact_mod_cast hi
    simp [aIndex, h0, h2]
  cases k with
  | nils => simp at hi
  | fs full => exact absurd rfl hne
  | sl id gen off cap cs _ hat hle hc hcap =>
    refine ⟨.ptr id gen (off + i * 1), h.upd id gen (cs.set (off + i) (byteAV b)), by simp [aIdxAddr, hidx], ?_, ho.upd (at_look.1 hat) _ _, ?_, upd_chg rfl⟩
    · have hs : splice cs (off + i * 1) [byteAV b] = cs.set (off + i) (byteAV b) := by
        rw [List.set_eq_take_append_cons_drop, if_pos (by omega)]
        simp [splice]
      simp only [aStore, hat, Option.bind_some, row_byte, hs]
      rw [if_pos ⟨rfl, by omega⟩]
    · have := Bytes.sl (h := h.upd id gen (cs.set (off + i) (byteAV b))) id gen off cap (cs.set (off + i) (byteAV b)) (bs.set i b) at_upd (by simpa using hle) (by
        rw [List.length_set, List.drop_set, if_neg (by omega), List.take_set, hc, show off + i - off = i by omega, List.map_set]) (by simpa using hcap)
      rwa [List.length_set] at this
end Go.AM

set_option linter.unusedVariables false
set_option linter.unusedSimpArgs false
namespace Go.AM
section
variable (E : Env)
def wpk : List AOper → St → (St → List Cls → Prop) → Prop
  | [], s, Q => Q s []
  | o :: l, s, Q =>
    match o.guard with
    | none => wp1 E o.op o.dst s (fun s' c => wpk l s' (fun s2 cs => Q s2 (c :: cs))) noQ
    | some (t, w) => ∃ b, gval w (s.σ.get t) = .bool b ∧ (if b = w then wp1 E o.op o.dst s (fun s' c => wpk l s' (fun s2 cs => Q s2 (c :: cs))) noQ
        else wpk l (s.put o.dst .undef s.h) (fun s2 cs => Q s2 (.none :: cs)))
end
theorem wp1_mono {E : Env} {op : AOp} {d : Option Nat} {s : St} {K K' : St → Cls → Prop} {Q : AExit → St → Prop} (h : wp1 E op d s K Q) (hk : ∀ s c, K s c → K' s c) : wp1 E op d s K' Q := by
  cases op
  case call f args =>
    obtain ⟨vs, h1, h2⟩ := h
    refine ⟨vs, h1, h2.mono fun o => ?_⟩
    cases o with
    | ret r => exact hk _ _
    | panic v h => exact fun x => x
  case callv f args =>
    obtain ⟨g, a, b, vs, h1, h2, h3⟩ := h
    refine ⟨g, a, b, vs, h1, h2, h3.mono fun o => ?_⟩
    cases o with
    | ret r => exact hk _ _
    | panic v h => exact fun x => x
  case panic x => exact h
  all_goals (obtain ⟨r, h1, h2⟩ := h; exact ⟨r, h1, hk _ _ h2⟩)
theorem wpk_wpl {E : Env} : ∀ (l : List AOper) (s : St) (Q : St → List Cls → Prop), wpk E l s Q → wpl E l s (fun s' log => Q s' (log.map fun y => y.2.2))
  | [], s, Q, h => h
  | ⟨d, op, none⟩ :: l, s, Q, h => by
    have h : wp1 E op d s (fun s' c => wpk E l s' (fun s2 cs => Q s2 (c :: cs))) noQ := h
    exact wp1_mono (K' := fun s' c => wpl E l s' (fun s2 log => Q s2 (((⟨d, op, none⟩, s, c) :: log).map fun (y : AOper × St × Cls) => y.2.2))) h fun s' c x => wpk_wpl l s' _ x
  | ⟨d, op, some (t, w)⟩ :: l, s, Q, h => by
    obtain ⟨b, hb, h⟩ := h
    refine ⟨b, hb, ?_⟩
    by_cases he : b = w
    · rw [if_pos he] at h ⊢
      exact wp1_mono (K' := fun s' c => wpl E l s' (fun s2 log => Q s2 (((⟨d, op, some (t, w)⟩, s, c) :: log).map fun (y : AOper × St × Cls) => y.2.2))) h fun s' c x => wpk_wpl l s' _ x
    · rw [if_neg he] at h ⊢
      exact wpk_wpl l _ _ h
def logC (c : Cls) (Q : St → List Cls → Prop) : St → List Cls → Prop := fun s2 cs => Q s2 (c :: cs)
def clsK (E : Env) (l : List AOper) (Q : St → List Cls → Prop) : St → Cls → Prop := fun s' c => wpk E l s' (logC c Q)
def guardC (E : Env) (op : AOp) (d : Option Nat) (l : List AOper) (s : St) (Q : St → List Cls → Prop) (w : Bool) : Bool → Prop := fun b =>
  if b = w then wp1 E op d s (clsK E l Q) noQ else wpk E l (s.put d .undef s.h) (logC .none Q)
def drawC (b : List Nat) (Q : AExit → St → Prop) : St → List Cls → Prop := fun s' cs => clsDraw 0 cs b = true ∧ Q .norm s'
section
variable {E : Env} {s : St} {l : List AOper} {d : Option Nat} {op : AOp} {Q : St → List Cls → Prop}
theorem wpk_nil : wpk E [] s Q = Q s [] := rfl
theorem wpk_none : wpk E (⟨d, op, none⟩ :: l) s Q = wp1 E op d s (clsK E l Q) noQ := rfl
theorem wpk_some {t : Nat} {w : Bool} : wpk E (⟨d, op, some (t, w)⟩ :: l) s Q = ∃ b, gval w (s.σ.get t) = .bool b ∧ guardC E op d l s Q w b := rfl
theorem logC_apply {c : Cls} {s' : St} {cs : List Cls} : logC c Q s' cs = Q s' (c :: cs) := rfl
theorem drawC_apply {b : List Nat} {Q : AExit → St → Prop} {cs : List Cls} : drawC b Q s cs = (clsDraw 0 cs b = true ∧ Q .norm s) := rfl
end
section
variable {E : Env} {s : St} {l : List AOper} {d : Option Nat} {op : AOp} {t : Nat}
theorem wpk_tt {Q : St → List Cls → Prop} (h : s.σ.get t = .bool true) : wpk E (⟨d, op, some (t, true)⟩ :: l) s Q = wp1 E op d s (clsK E l Q) noQ := by
  rw [wpk_some, h, gval_bool]; exact propext ⟨fun ⟨b, e, x⟩ => by cases e; exact x, fun x => ⟨true, rfl, x⟩⟩
theorem wpk_ff {Q : St → List Cls → Prop} (h : s.σ.get t = .bool false) : wpk E (⟨d, op, some (t, false)⟩ :: l) s Q = wp1 E op d s (clsK E l Q) noQ := by
  rw [wpk_some, h, gval_bool]; exact propext ⟨fun ⟨b, e, x⟩ => by cases e; exact x, fun x => ⟨false, rfl, x⟩⟩
theorem wpk_tf {Q : St → List Cls → Prop} (h : s.σ.get t = .bool false) : wpk E (⟨d, op, some (t, true)⟩ :: l) s Q = wpk E l (s.put d .undef s.h) (logC .none Q) := by
  rw [wpk_some, h, gval_bool]; exact propext ⟨fun ⟨b, e, x⟩ => by cases e; exact x, fun x => ⟨false, rfl, x⟩⟩
theorem wpk_ft {Q : St → List Cls → Prop} (h : s.σ.get t = .bool true) : wpk E (⟨d, op, some (t, false)⟩ :: l) s Q = wpk E l (s.put d .undef s.h) (logC .none Q) := by
  rw [wpk_some, h, gval_bool]; exact propext ⟨fun ⟨b, e, x⟩ => by cases e; exact x, fun x => ⟨true, rfl, x⟩⟩
theorem wpo_tt {Q : AExit → St → Prop} (h : s.σ.get t = .bool true) : wpo E (⟨d, op, some (t, true)⟩ :: l) s Q = wp1 E op d s (opsK E l Q) Q := by
  rw [wpo_some, h, gval_bool]; exact propext ⟨fun ⟨b, e, x⟩ => by cases e; exact x, fun x => ⟨true, rfl, x⟩⟩
theorem wpo_ff {Q : AExit → St → Prop} (h : s.σ.get t = .bool false) : wpo E (⟨d, op, some (t, false)⟩ :: l) s Q = wp1 E op d s (opsK E l Q) Q := by
  rw [wpo_some, h, gval_bool]; exact propext ⟨fun ⟨b, e, x⟩ => by cases e; exact x, fun x => ⟨false, rfl, x⟩⟩
theorem wpo_tf {Q : AExit → St → Prop} (h : s.σ.get t = .bool false) : wpo E (⟨d, op, some (t, true)⟩ :: l) s Q = wpo E l (s.put d .undef s.h) Q := by
  rw [wpo_some, h, gval_bool]; exact propext ⟨fun ⟨b, e, x⟩ => by cases e; exact x, fun x => ⟨false, rfl, x⟩⟩
theorem wpo_ft {Q : AExit → St → Prop} (h : s.σ.get t = .bool true) : wpo E (⟨d, op, some (t, false)⟩ :: l) s Q = wpo E l (s.put d .undef s.h) Q := by
  rw [wpo_some, h, gval_bool]; exact propext ⟨fun ⟨b, e, x⟩ => by cases e; exact x, fun x => ⟨true, rfl, x⟩⟩
end
section
variable {E : Env} {s : St} {l : List AOper} {d : Option Nat} {op : AOp} {t : Nat} {w : Bool}
theorem wpk_u {Q : St → List Cls → Prop} (h : s.σ.get t = .undef) : wpk E (⟨d, op, some (t, w)⟩ :: l) s Q = wpk E l (s.put d .undef s.h) (logC .none Q) := by
  rw [wpk_some, h]; cases w <;> exact propext ⟨fun ⟨b, e, x⟩ => by cases e; exact x, fun x => ⟨_, rfl, x⟩⟩
theorem wpo_u {Q : AExit → St → Prop} (h : s.σ.get t = .undef) : wpo E (⟨d, op, some (t, w)⟩ :: l) s Q = wpo E l (s.put d .undef s.h) Q := by
  rw [wpo_some, h]; cases w <;> exact propext ⟨fun ⟨b, e, x⟩ => by cases e; exact x, fun x => ⟨_, rfl, x⟩⟩
end
/-- a class that stands there as such: the walk goes on only where the step before it is known (under a binder it would be walked again and again) -/
def IsC (c : Cls) : Prop := True
theorem isC (c : Cls) : IsC c = True := id rfl
theorem isC_none : IsC .none = True := id rfl
theorem isC_read : IsC .read = True := id rfl
theorem isC_write : IsC .write = True := id rfl
theorem opsK_c {E : Env} {l : List AOper} {Q : AExit → St → Prop} {s : St} {c : Cls} (h : IsC c) : opsK E l Q s c = wpo E l s Q := id rfl
theorem clsK_c {E : Env} {l : List AOper} {Q : St → List Cls → Prop} {s' : St} {c : Cls} (h : IsC c) : clsK E l Q s' c = wpk E l s' (logC c Q) := id rfl
/-- a region whose classes alone show that every order comes to the same -/
theorem wpc_draw_k {E : Env} {l : List AOper} {bf : List Nat} {s : St} {Q : AExit → St → Prop} (h : wpk E l s (drawC bf Q)) : wpc E (.draw l bf) s Q := by
  have x := wpk_wpl l s _ h
  have e : (fun (s' : St) (log : List (AOper × St × Cls)) => drawC bf Q s' (log.map fun y => y.2.2)) = (fun s' log => clsDraw 0 (log.map fun y => y.2.2) bf = true ∧ Q .norm s') := rfl
  rw [e] at x
  have mono : ∀ (l : List AOper) (s : St) (P R : St → List (AOper × St × Cls) → Prop), (∀ s log, P s log → R s log) → wpl E l s P → wpl E l s R := by
    intro l
    induction l with
    | nil => intro s P R hr h; exact hr _ _ h
    | cons o l ih =>
      obtain ⟨d, op, g⟩ := o
      intro s P R hr h
      cases g with
      | none =>
        have h : wp1 E op d s (fun s' c => wpl E l s' (fun s2 log => P s2 ((⟨d, op, none⟩, s, c) :: log))) noQ := h
        exact wp1_mono (K' := fun s' c => wpl E l s' (fun s2 log => R s2 ((⟨d, op, none⟩, s, c) :: log))) h fun s' c x => ih s' _ _ (fun s2 log y => hr _ _ y) x
      | some g =>
        obtain ⟨t, w⟩ := g
        obtain ⟨b, hb, h⟩ := h
        refine ⟨b, hb, ?_⟩
        by_cases he : b = w
        · rw [if_pos he] at h ⊢
          exact wp1_mono (K' := fun s' c => wpl E l s' (fun s2 log => R s2 ((⟨d, op, some (t, w)⟩, s, c) :: log))) h fun s' c x => ih s' _ _ (fun s2 log y => hr _ _ y) x
        · rw [if_neg he] at h ⊢
          exact ih _ _ _ (fun s2 log y => hr _ _ y) h
  exact mono l s _ _ (fun s' log h => ⟨draw_of_cls h.1, h.2⟩) x
end Go.AM

set_option linter.unusedVariables false
set_option maxRecDepth 20000
namespace Go.AM
theorem s3 : type_of% (And.intro (@wpc_skip) (And.intro (@wpc_ops) (And.intro (@wpc_seq) (And.intro (@wpc_cond) (And.intro (@wpc_block) (And.intro (@wpc_loop) (And.intro (@wpc_exit) (And.intro (@wpc_scope) (And.intro (@wpc_ret) (And.intro (@seqQ_norm) (And.intro (@seqQ_ret) (And.intro (@seqQ_exit) (And.intro (@blockQ'_norm) (And.intro (@blockQ'_ret) (And.intro (@blockQ'_exit) (And.intro (@roundQ_norm) (And.intro (@roundQ_ret) (And.intro (@roundQ_exit) (And.intro (@condK_true) (And.intro (@condK_false) (And.intro (@wpo_nil') (And.intro (@wpo_none) (And.intro (@wpo_tt) (And.intro (@wpo_ff) (And.intro (@wpo_tf) (And.intro (@wpo_ft) (And.intro (@opsK_c) (And.intro (@isC_none) (And.intro (@isC_read) (And.intro (@isC_write) (And.intro (@wp1_call) (And.intro (@callK_ret) (And.intro (@wp1_mv') (And.intro (@wp1_bin') (And.intro (@wp1_un') (And.intro (@wp1_eq') (And.intro (@wp1_extract') (And.intro (@wp1_pick') (And.intro (@wp1_len') (And.intro (@wp1_load') (And.intro (@wp1_conv') (And.intro (@wp1_store') (And.intro (@wp1_idxAddr') (And.intro (@wp1_append') (And.intro (@wp1_mkIface') (And.intro (@wp1_alloc') (And.intro (@rd_t) (And.intro (@rd_c) (And.intro (@ok_t) (And.intro (@ok_c) (And.intro (@put_some) (And.intro (@put_none) (And.intro (@get_put) (And.intro (@AV.bool.injEq) (And.intro (@opds_nil) (And.intro (@opds_cons) (And.intro (@opd_t) (And.intro (@opd_c) (And.intro (@decide_true) (And.intro (@decide_false) (And.intro (@wp1_nilCheck') (And.intro (@wp1_fieldAddr') (And.intro (@wp1_slice) (And.intro (@op_slice) (And.intro (@sliceO_some) (And.intro (@wp1_cap') (And.intro (@wp1_clear') (And.intro (@wp1_range') (And.intro (@wp1_next') (And.intro (@wp1_copy') (And.intro (@wp1_appendZ') (And.intro (@mV_eq) (And.intro (@oP_eq) (And.intro (@oN_eq) (And.intro (@oG_eq) (And.intro (@opdo_some) (And.intro (@opdo_none) (And.intro (@wp1_lit) (And.intro (@op_lit) (And.intro (@parts_nil) (And.intro (@parts_cons) (And.intro (@wp1_build) (And.intro (@op_build) (And.intro (@wp1_box) (@op_box))))))))))))))))))))))))))))))))))))))))))))))))))))))))))))))))))))))))))))))))))))) := And.intro (@wpc_skip) (And.intro (@wpc_ops) (And.intro (@wpc_seq) (And.intro (@wpc_cond) (And.intro (@wpc_block) (And.intro (@wpc_loop) (And.intro (@wpc_exit) (And.intro (@wpc_scope) (And.intro (@wpc_ret) (And.intro (@seqQ_norm) (And.intro (@seqQ_ret) (And.intro (@seqQ_exit) (And.intro (@blockQ'_norm) (And.intro (@blockQ'_ret) (And.intro (@blockQ'_exit) (And.intro (@roundQ_norm) (And.intro (@roundQ_ret) (And.intro (@roundQ_exit) (And.intro (@condK_true) (And.intro (@condK_false) (And.intro (@wpo_nil') (And.intro (@wpo_none) (And.intro (@wpo_tt) (And.intro (@wpo_ff) (And.intro (@wpo_tf) (And.intro (@wpo_ft) (And.intro (@opsK_c) (And.intro (@isC_none) (And.intro (@isC_read) (And.intro (@isC_write) (And.intro (@wp1_call) (And.intro (@callK_ret) (And.intro (@wp1_mv') (And.intro (@wp1_bin') (And.intro (@wp1_un') (And.intro (@wp1_eq') (And.intro (@wp1_extract') (And.intro (@wp1_pick') (And.intro (@wp1_len') (And.intro (@wp1_load') (And.intro (@wp1_conv') (And.intro (@wp1_store') (And.intro (@wp1_idxAddr') (And.intro (@wp1_append') (And.intro (@wp1_mkIface') (And.intro (@wp1_alloc') (And.intro (@rd_t) (And.intro (@rd_c) (And.intro (@ok_t) (And.intro (@ok_c) (And.intro (@put_some) (And.intro (@put_none) (And.intro (@get_put) (And.intro (@AV.bool.injEq) (And.intro (@opds_nil) (And.intro (@opds_cons) (And.intro (@opd_t) (And.intro (@opd_c) (And.intro (@decide_true) (And.intro (@decide_false) (And.intro (@wp1_nilCheck') (And.intro (@wp1_fieldAddr') (And.intro (@wp1_slice) (And.intro (@op_slice) (And.intro (@sliceO_some) (And.intro (@wp1_cap') (And.intro (@wp1_clear') (And.intro (@wp1_range') (And.intro (@wp1_next') (And.intro (@wp1_copy') (And.intro (@wp1_appendZ') (And.intro (@mV_eq) (And.intro (@oP_eq) (And.intro (@oN_eq) (And.intro (@oG_eq) (And.intro (@opdo_some) (And.intro (@opdo_none) (And.intro (@wp1_lit) (And.intro (@op_lit) (And.intro (@parts_nil) (And.intro (@parts_cons) (And.intro (@wp1_build) (And.intro (@op_build) (And.intro (@wp1_box) (@op_box))))))))))))))))))))))))))))))))))))))))))))))))))))))))))))))))))))))))))))))))))))
theorem k3 : type_of% (And.intro (@wpk_nil) (And.intro (@wpk_none) (And.intro (@wpk_tt) (And.intro (@wpk_ff) (And.intro (@wpk_tf) (And.intro (@wpk_ft) (And.intro (@clsK_c) (And.intro (@logC_apply) (@drawC_apply))))))))) := And.intro (@wpk_nil) (And.intro (@wpk_none) (And.intro (@wpk_tt) (And.intro (@wpk_ff) (And.intro (@wpk_tf) (And.intro (@wpk_ft) (And.intro (@clsK_c) (And.intro (@logC_apply) (@drawC_apply))))))))
end Go.AM

set_option linter.unusedVariables false
set_option linter.unusedSimpArgs false
set_option maxRecDepth 20000
namespace Go.AM
section
variable {h : Heap} {cs vs : List AV} {id n off sz gen : Nat} {a b c d e f v : AV} {ag : Bool}
theorem next_new : (h.new cs).next = h.next + 1 := _root_.id rfl
theorem next_upd : (h.upd id gen cs).next = h.next := _root_.id rfl
theorem next_empty : Heap.empty.next = 0 := _root_.id rfl
theorem at_new_if : (h.new cs).at_ n 0 = if n = h.next then some cs else h.at_ n 0 := by
  by_cases e : n = h.next
  · rw [if_pos e, e]; exact at_new _
  · rw [if_neg e]
    show (match (h.tr.set h.next (some ⟨0, cs⟩)).get n with | some o => _ | none => _) = _
    rw [Tr.get_set, if_neg e]; rfl
theorem at_upd_if : (h.upd id gen cs).at_ n gen = if n = id then some cs else h.at_ n gen := by
  by_cases e : n = id
  · rw [if_pos e, e]; exact at_upd
  · rw [if_neg e]; exact at_upd_ne e
theorem aLoad_ptr : aLoad h ag sz (.ptr id gen off) = (h.at_ id gen).bind fun cs => (ldCells ag sz (cs.drop off)).map fun v => ⟨v, h, .read⟩ := _root_.id rfl
theorem aLoad_fp : aLoad h ag sz (.fp cs) = (ldCells ag sz cs).map fun v => ⟨v, h, .none⟩ := _root_.id rfl
theorem aStore_w : aStore h sz (.ptr id gen 0) (.agg vs) = (h.at_ id gen).bind fun cs => if vs.length = sz ∧ sz ≤ cs.length then some ⟨.undef, h.upd id gen (if cs.length ≤ vs.length then vs else splice cs 0 vs), .write⟩ else none := by
  show ((h.at_ id gen).bind fun cs => (some vs).bind fun vs => if vs.length = sz ∧ 0 + sz ≤ cs.length then (some ⟨.undef, h.upd id gen (splice cs 0 vs), .write⟩ : Option OpRes) else none) = _
  cases h.at_ id gen with
  | none => rfl
  | some cs =>
    simp only [Option.bind_some, Nat.zero_add]
    by_cases e : vs.length = sz ∧ sz ≤ cs.length
    · rw [if_pos e, if_pos e]
      by_cases e2 : cs.length ≤ vs.length
      · rw [if_pos e2]
        simp only [splice, List.take_zero, List.nil_append, Nat.zero_add, List.drop_of_length_le e2, List.append_nil]
      · rw [if_neg e2]
    · rw [if_neg e, if_neg e]
theorem aStore_1 (hv : v.row = some [v]) : aStore h 1 (.ptr id gen off) v = (h.at_ id gen).bind fun cs => if off < cs.length then some ⟨.undef, h.upd id gen (cs.set off v), .write⟩ else none := by
  show ((h.at_ id gen).bind fun cs => v.row.bind fun vs => if vs.length = 1 ∧ off + 1 ≤ cs.length then (some ⟨.undef, h.upd id gen (splice cs off vs), .write⟩ : Option OpRes) else none) = _
  rw [hv]
  cases h.at_ id gen with
  | none => rfl
  | some cs =>
    simp only [Option.bind_some, List.length_singleton, true_and]
    by_cases e : off < cs.length
    · rw [if_pos (by omega), if_pos e, List.set_eq_take_append_cons_drop, if_pos e]
      simp [splice]
    · rw [if_neg (by omega), if_neg e]
theorem ldc6 : ldCells true 6 [a, b, c, d, e, f] = some (.agg [a, b, c, d, e, f]) := _root_.id rfl
theorem ldc4 : ldCells true 4 [a, b, c, d] = some (.agg [a, b, c, d]) := _root_.id rfl
theorem ldc1 : ldCells false n (v :: cs) = some v := _root_.id rfl
theorem aNil_p : aNil (.ptr id gen off) = some (.ptr id gen off) := _root_.id rfl
theorem aFld_p : aFieldAddr n (.ptr id gen off) = some (.ptr id gen (off + n)) := _root_.id rfl
theorem aFld_f : aFieldAddr n (.fp cs) = some (.fp (cs.drop n)) := _root_.id rfl
theorem aExt0 {l : List AV} : aExtract 0 (.tup (v :: l)) = some v := _root_.id rfl
theorem aExt1 {l : List AV} : aExtract 1 (.tup (a :: v :: l)) = some v := _root_.id rfl
theorem aExt2 {l : List AV} : aExtract 2 (.tup (a :: b :: v :: l)) = some v := _root_.id rfl
theorem aPk_t : aPick (.bool true) a b = some a := _root_.id rfl
theorem aPk_f : aPick (.bool false) a b = some b := _root_.id rfl
theorem aNot {b : Bool} : aUn .not (.bool b) = some (.bool !b) := _root_.id rfl
end
theorem frz_ex {h : Heap} {v : AV} {P : AV → Prop} (hv : v.noRef = true) : (∃ v', Frz h v v' ∧ P v') = P v :=
  propext ⟨fun ⟨v', h1, h2⟩ => by rw [(frz_noRef hv).1 h1]; exact h2, fun h2 => ⟨v, (frz_noRef hv).2 rfl, h2⟩⟩
section
variable {E : Env} {rs : List ARes} {h : Heap} {Q : COut → Prop} {s : St} {P : List AV → Prop}
theorem results_nil : E.results s [] = some [] := _root_.id rfl
theorem results_tmp {t : Nat} {l : List ARes} : E.results s (.tmp t :: l) = (E.results s l).map fun vs => s.σ.get t :: vs := _root_.id rfl
theorem results_cell {t sz : Nat} {ag : Bool} {l : List ARes} : E.results s (.cell t ag sz :: l) = (aLoad s.h ag sz (s.σ.get t)).bind fun r => (E.results s l).map fun vs => r.v :: vs := _root_.id rfl
theorem pureQ_ret : pureQ E rs h Q .ret s = ∃ vs, E.results s rs = some vs ∧ ∃ v, Frz s.h (oneOrTup vs) v ∧ Q (.ret ⟨v, h, .none⟩) := by
  refine propext ⟨fun ⟨vs, v, h1, h2, h3⟩ => ⟨vs, h1, v, h2, h3⟩, fun ⟨vs, h1, v, h2, h3⟩ => ⟨vs, v, h1, h2, h3⟩⟩
theorem pureQ_norm : pureQ E rs h Q .norm s = pureQ E rs h Q .ret s := _root_.id rfl
theorem retQ_ret : retQ E rs Q .ret s = ∃ vs, E.results s rs = some vs ∧ Q (.ret ⟨oneOrTup vs, s.h, .write⟩) := _root_.id rfl
theorem retQ_norm : retQ E rs Q .norm s = retQ E rs Q .ret s := _root_.id rfl
theorem oneOrTup1 {a : AV} : oneOrTup [a] = a := _root_.id rfl
theorem oneOrTup0 : oneOrTup [] = .tup [] := _root_.id rfl
theorem oneOrTup2 {a b : AV} {l : List AV} : oneOrTup (a :: b :: l) = .tup (a :: b :: l) := _root_.id rfl
end
theorem noRef_aggl {l : List AV} : (AV.agg l).noRef = AV.noRefs l := _root_.id rfl
theorem noRef_undef : AV.undef.noRef = true := _root_.id rfl
theorem noRef_fn {f : Fn} {a b : List AV} : (AV.fn f a b).noRef = (AV.noRefs a && AV.noRefs b) := _root_.id rfl
theorem h3 : type_of% (And.intro (@next_new) (And.intro (@next_upd) (And.intro (@next_empty) (And.intro (@at_new_if) (And.intro (@at_upd_if) (And.intro (@aLoad_ptr) (And.intro (@aLoad_fp) (And.intro (@aStore_w) (And.intro (@aStore_1) (And.intro (@ldc6) (And.intro (@ldc4) (And.intro (@ldc1) (And.intro (@aNil_p) (And.intro (@aFld_p) (And.intro (@aFld_f) (And.intro (@aExt0) (And.intro (@aExt1) (And.intro (@aExt2) (And.intro (@aPk_t) (And.intro (@aPk_f) (And.intro (@aNot) (And.intro (@frz_ex) (And.intro (@results_nil) (And.intro (@results_tmp) (And.intro (@results_cell) (And.intro (@pureQ_ret) (And.intro (@pureQ_norm) (And.intro (@retQ_ret) (And.intro (@retQ_norm) (And.intro (@oneOrTup0) (And.intro (@oneOrTup1) (And.intro (@oneOrTup2) (And.intro (@noRefs_cons) (And.intro (@noRefs_nil) (And.intro (@noRef_tup) (And.intro (@noRef_aggl) (And.intro (@noRef_fs) (And.intro (@noRef_fp) (And.intro (@noRef_ifc) (And.intro (@noRef_undef) (And.intro (@noRef_fn) (And.intro (@noRef_bool) (And.intro (@noRef_int) (And.intro (@noRef_str) (And.intro (@noRef_nilp) (And.intro (@noRef_nils) (And.intro (@noRef_nilm) (And.intro (@noRef_nilf) (And.intro (@noRef_nili) (And.intro (@row_agg) (And.intro (@wpo_u) (And.intro (@wpk_u) (And.intro (@Nat.zero_add) (@Nat.add_zero)))))))))))))))))))))))))))))))))))))))))))))))))))))) := And.intro (@next_new) (And.intro (@next_upd) (And.intro (@next_empty) (And.intro (@at_new_if) (And.intro (@at_upd_if) (And.intro (@aLoad_ptr) (And.intro (@aLoad_fp) (And.intro (@aStore_w) (And.intro (@aStore_1) (And.intro (@ldc6) (And.intro (@ldc4) (And.intro (@ldc1) (And.intro (@aNil_p) (And.intro (@aFld_p) (And.intro (@aFld_f) (And.intro (@aExt0) (And.intro (@aExt1) (And.intro (@aExt2) (And.intro (@aPk_t) (And.intro (@aPk_f) (And.intro (@aNot) (And.intro (@frz_ex) (And.intro (@results_nil) (And.intro (@results_tmp) (And.intro (@results_cell) (And.intro (@pureQ_ret) (And.intro (@pureQ_norm) (And.intro (@retQ_ret) (And.intro (@retQ_norm) (And.intro (@oneOrTup0) (And.intro (@oneOrTup1) (And.intro (@oneOrTup2) (And.intro (@noRefs_cons) (And.intro (@noRefs_nil) (And.intro (@noRef_tup) (And.intro (@noRef_aggl) (And.intro (@noRef_fs) (And.intro (@noRef_fp) (And.intro (@noRef_ifc) (And.intro (@noRef_undef) (And.intro (@noRef_fn) (And.intro (@noRef_bool) (And.intro (@noRef_int) (And.intro (@noRef_str) (And.intro (@noRef_nilp) (And.intro (@noRef_nils) (And.intro (@noRef_nilm) (And.intro (@noRef_nilf) (And.intro (@noRef_nili) (And.intro (@row_agg) (And.intro (@wpo_u) (And.intro (@wpk_u) (And.intro (@Nat.zero_add) (@Nat.add_zero)))))))))))))))))))))))))))))))))))))))))))))))))))))
end Go.AM

set_option linter.unusedVariables false
set_option linter.unusedSimpArgs false
namespace Go.AM
def steadyAt (E : Env) (hs : List Heap) (l : List (AOper × St × Cls)) (j : Nat) : Prop := match l[j]? with
  | some y => E.steady y.1 y.2.1 hs = true
  | none => True
def steadyOk (E : Env) (hs : List Heap) (l : List (AOper × St × Cls)) : List Nat → Prop
  | [] => True
  | j :: js => steadyAt E hs l j ∧ steadyOk E hs l js
theorem steadyOk.get {E : Env} {hs : List Heap} {l : List (AOper × St × Cls)} : ∀ {F : List Nat}, steadyOk E hs l F → ∀ {j : Nat} {y : AOper × St × Cls}, F.elem j = true → l[j]? = some y → E.steady y.1 y.2.1 hs = true
  | [], _, _, _, h, _ => by simp at h
  | f :: F, k, j, y, h, e => by
    by_cases c : j = f
    · subst c
      have := k.1
      unfold steadyAt at this
      rw [e] at this
      exact this
    · refine k.2.get ?_ e
      simpa [c] using h
end Go.AM

set_option linter.unusedVariables false
set_option linter.unusedSimpArgs false
namespace Go.AM
end Go.AM
