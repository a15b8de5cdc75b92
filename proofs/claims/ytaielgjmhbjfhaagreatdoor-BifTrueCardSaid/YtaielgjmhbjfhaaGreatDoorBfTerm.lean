/-
  Terms, as this machine's values; the fields that a kind does not name.
-/
import Derived.Test.YtaielgjmhbjfhaaGreatDoorBfNode
set_option linter.unusedVariables false
set_option linter.unusedSimpArgs false
set_option maxRecDepth 20000
namespace Go.Bf
open Go.AM

/-- a term: kind, number, text, creation, numbers, parts; of the two slices: are they nil, is there room behind them? -/
inductive Tm where
  | mk (k i : Int) (s : List UInt8) (c : Int) (nf : Option Bool) (ns : List Int) (af : Option Bool) (ar : List Tm)

def slAV : Option Bool → Nat → List AV → AV
  | none, 0, _ => .nils
  | none, n + 1, cs => .fs false (n + 1) cs
  | some b, n, cs => .fs b n cs
def u32s (l : List Int) : List AV := l.map (.int .u32)

mutual
def tc : Tm → List AV
  | .mk k i s c nf ns af ar => [.int .i64 k, .int .i64 i, .str s, .int .u32 c, slAV nf ns.length (u32s ns), slAV af ar.length (tcs ar)]
def tcs : List Tm → List AV
  | [] => []
  | t :: l => tc t ++ tcs l
end
namespace Tm
def kind : Tm → Int | mk k _ _ _ _ _ _ _ => k
def args : Tm → List Tm | mk _ _ _ _ _ _ _ ar => ar
def text : Tm → List UInt8 | mk _ _ s _ _ _ _ _ => s
end Tm
theorem tc_length (t : Tm) : (tc t).length = 6 := by cases t; simp [tc]
theorem tcs_length : ∀ l : List Tm, (tcs l).length = l.length * 6
  | [] => rfl
  | t :: l => by rw [tcs, List.length_append, tc_length, tcs_length l, List.length_cons]; omega
theorem tcs_drop : ∀ (l : List Tm) (i : Nat) (hi : i < l.length), (tcs l).drop (i * 6) = tc l[i] ++ tcs (l.drop (i + 1))
  | [], i, h => by simp at h
  | t :: l, 0, h => by simp [tcs]
  | t :: l, i + 1, h => by
    have e : (i + 1) * 6 = (tc t).length + i * 6 := by rw [tc_length]; omega
    rw [tcs, e, List.drop_append, List.drop_of_length_le (by omega), List.nil_append, Nat.add_sub_cancel_left, tcs_drop l i (by simpa using h)]
    simp
theorem tc_take (t : Tm) (l : List AV) : (tc t ++ l).take 6 = tc t := by
  rw [List.take_append_of_le_length (by rw [tc_length]; exact Nat.le_refl _), List.take_of_length_le (by rw [tc_length]; exact Nat.le_refl _)]

theorem len_sl (f : Option Bool) (n : Nat) (cs : List AV) (hf : f = none → True) (h : Heap) : aLenOp false h (slAV f n cs) = some ⟨.int .i64 n, h, .none⟩ := by
  cases f with
  | none => cases n <;> rfl
  | some b => rfl

theorem aIndex_nat {kd : IntKind} {n i : Nat} (hi : i < n) : aIndex n (.int kd i) = some i := by
  simp only [aIndex]
  rw [if_pos ⟨by omega, by omega⟩]; rfl
theorem idx_args {f : Option Bool} {l : List Tm} {i : Nat} (hi : i < l.length) : aIdxAddr 6 (slAV f l.length (tcs l)) (.int .i64 i) = some (.fp ((tcs l).drop (i * 6))) := by
  have hl := tcs_length l
  have go : ∀ b, aIdxAddr 6 (.fs b l.length (tcs l)) (.int .i64 i) = some (.fp ((tcs l).drop (i * 6))) := by
    intro b
    cases e : tcs l with
    | nil => rw [e] at hl; simp at hl; omega
    | cons c cs =>
      simp only [aIdxAddr, aIndex_nat (kd := .i64) hi, Option.map_some]
  cases f with
  | none =>
    cases n : l.length with
    | zero => omega
    | succ n => have := go false; rw [n] at this; exact this
  | some b => exact go b
theorem ld_args {l : List Tm} {i : Nat} (hi : i < l.length) (h : Heap) : aLoad h true 6 (.fp ((tcs l).drop (i * 6))) = some ⟨.agg (tc l[i]), h, .none⟩ := by
  rw [tcs_drop l i hi]
  cases l[i] with
  | mk k i s c nf ns af ar => rfl
theorem ld_arg0 {l : List Tm} {i : Nat} (hi : i < l.length) (h : Heap) : aLoad h false 1 (.fp ((tcs l).drop (i * 6))) = some ⟨.int .i64 (l[i]).kind, h, .none⟩ := by
  rw [tcs_drop l i hi]
  cases l[i] with
  | mk k i s c nf ns af ar => rfl

def emptyF : Tm → Bool → Bool → Bool → Bool
  | .mk k i s c _ ns _ ar, bt, bn, ba => (bt || s == []) && (bn || (ns.length == 0 && c == 0)) && (ba || ar.length == 0) && (k == 1 || i == 0)

/-! what is without a reference -/
theorem noRefs_append : ∀ (a b : List AV), AV.noRefs (a ++ b) = (AV.noRefs a && AV.noRefs b)
  | [], b => by simp [AV.noRefs]
  | x :: a, b => by simp [AV.noRefs, noRefs_append a b, Bool.and_assoc]
theorem noRefs_u32 : ∀ l : List Int, AV.noRefs (u32s l) = true
  | [] => rfl
  | x :: l => by simp only [u32s, List.map_cons, AV.noRefs, AV.noRef, Bool.true_and]; exact noRefs_u32 l
theorem noRef_sl (f : Option Bool) (n : Nat) {cs : List AV} (hc : AV.noRefs cs = true) : (slAV f n cs).noRef = true := by
  cases f with
  | none => cases n with
    | zero => rfl
    | succ n => exact hc
  | some b => exact hc
mutual
theorem noRef_tc : ∀ t : Tm, AV.noRefs (tc t) = true
  | .mk k i s c nf ns af ar => by
    simp only [tc, AV.noRefs, AV.noRef, Bool.true_and, Bool.and_true, noRef_sl nf _ (noRefs_u32 ns), noRef_sl af _ (noRef_tcs ar)]
theorem noRef_tcs : ∀ l : List Tm, AV.noRefs (tcs l) = true
  | [] => rfl
  | t :: l => by rw [tcs, noRefs_append, noRef_tc t, noRef_tcs l]; rfl
end
theorem noRef_agg (t : Tm) : (AV.agg (tc t)).noRef = true := noRef_tc t

/-- a function without a loop, run by itself -/
theorem pure_run {n f : Nat} {fn : AFunc} {args : List AV} {h : Heap} {v : AV} (hp : env.prim f = none) (hf : env.func f = some fn) (hu : env.pure_ f = true) (hr : AV.noRefs args = true) (hv : v.noRef = true)
    (hb : (env.body (env.call (n + 1)) (n + 1) fn args .empty).bind (fun | .ret r => some r.v | _ => none) = some v) : WC env f args h (fun o => o = .ret ⟨v, h, .none⟩) := by
  refine wc_run (n := n + 2) ?_
  show (match env.prim f with | some p => _ | none => _) = _
  rw [hp]
  show (env.func f).bind _ = _
  rw [hf]
  show (match env.pure_ f with | true => _ | false => _) = _
  rw [hu]
  show (match AV.noRefs args with | true => _ | false => _) = _
  rw [hr]
  show (env.body (env.call (n + 1)) (n + 1) fn args .empty).bind _ = _
  cases e : env.body (env.call (n + 1)) (n + 1) fn args .empty with
  | none => rw [e] at hb; cases hb
  | some o =>
    rw [e] at hb
    cases o with
    | panic v' h' => cases hb
    | ret r =>
      have hb : r.v = v := Option.some.inj hb
      show (Go.AM.freeze r.h (n + 1) r.v).map _ = _
      rw [hb]
      show (match v.noRef with | true => some v | false => _).map _ = _
      rw [hv]; rfl

/-! the walk of empty, case by case (each is a run without a loop) -/
inductive SlF : AV → Nat → Prop
  | nils : SlF .nils 0
  | fs (b : Bool) (n : Nat) (cs : List AV) : SlF (.fs b n cs) n
theorem slF (f : Option Bool) (n : Nat) (cs : List AV) : SlF (slAV f n cs) n := by
  cases f with
  | none => cases n with
    | zero => exact .nils
    | succ n => exact .fs _ _ _
  | some b => exact .fs _ _ _
inductive I0 : Int → Prop
  | z : I0 0
  | p (n : Nat) : I0 (Int.ofNat (n + 1))
  | m (n : Nat) : I0 (Int.negSucc n)
theorem i0 (x : Int) : I0 x := by
  rcases x with n | n
  · cases n with
    | zero => exact .z
    | succ n => exact .p n
  · exact .m n
inductive I1 : Int → Prop
  | o : I1 1
  | z : I1 0
  | p (n : Nat) : I1 (Int.ofNat (n + 2))
  | m (n : Nat) : I1 (Int.negSucc n)
theorem i1 (x : Int) : I1 x := by
  rcases x with n | n
  · match n with
    | 0 => exact .z
    | 1 => exact .o
    | n + 2 => exact .p n
  · exact .m n
/-- the answer of a body that is run -/
def ran (fn : AFunc) (args : List AV) : Option AV := (env.body (env.call 30) 30 fn args .empty).bind (fun | .ret r => some r.v | _ => none)
/-- a slice of no length, of any -/
inductive S0 : AV → Prop
  | nils : S0 .nils
  | fs (b : Bool) (cs : List AV) : S0 (.fs b 0 cs)
inductive SN : AV → Prop
  | nils : SN .nils
  | fs (b : Bool) (n : Nat) (cs : List AV) : SN (.fs b n cs)
theorem SlF.zero {v : AV} (h : SlF v 0) : S0 v := by cases h; exact .nils; exact .fs _ _
theorem SlF.any {v : AV} {n : Nat} (h : SlF v n) : SN v := by cases h; exact .nils; exact .fs _ _ _
theorem SlF.succ {v : AV} {n : Nat} (h : SlF v (n + 1)) : ∃ b cs, v = .fs b (n + 1) cs := by cases h; exact ⟨_, _, rfl⟩
section
variable {bt bn ba : Bool} {s : List UInt8} {nv av : AV} {c k i : Int}
def eargs (k i : Int) (s : List UInt8) (c : Int) (nv av : AV) (bt bn ba : Bool) : List AV := [.agg [.int .i64 k, .int .i64 i, .str s, .int .u32 c, nv, av], .bool bt, .bool bn, .bool ba]
theorem empty_s {b : UInt8} {l : List UInt8} (hn : SN nv) (ha : SN av) : ran a139 (eargs k i (b :: l) c nv av false bn ba) = some (.bool false) := by
  cases hn <;> cases ha <;> kernel_rfl
theorem empty_n1 (hs : bt = true ∨ bt = false ∧ s = []) {b : Bool} {n : Nat} {cs : List AV} (ha : SN av) : ran a139 (eargs k i s c (.fs b (n + 1) cs) av bt false ba) = some (.bool false) := by
  rcases hs with rfl | ⟨rfl, rfl⟩ <;> cases ha <;> kernel_rfl
theorem empty_n2 (hs : bt = true ∨ bt = false ∧ s = []) (hn : S0 nv) (hc : c ≠ 0) (ha : SN av) : ran a139 (eargs k i s c nv av bt false ba) = some (.bool false) := by
  rcases hs with rfl | ⟨rfl, rfl⟩ <;> cases hn <;> cases ha <;> (cases i0 c with
    | z => exact absurd rfl hc
    | p n => kernel_rfl
    | m n => kernel_rfl)
theorem empty_a1 (hs : bt = true ∨ bt = false ∧ s = []) (hn : bn = true ∧ SN nv ∨ bn = false ∧ c = 0 ∧ S0 nv) {b : Bool} {n : Nat} {cs : List AV} : ran a139 (eargs k i s c nv (.fs b (n + 1) cs) bt bn false) = some (.bool false) := by
  rcases hs with rfl | ⟨rfl, rfl⟩ <;> rcases hn with ⟨rfl, hn⟩ | ⟨rfl, rfl, hn⟩ <;> cases hn <;> kernel_rfl
theorem empty_d (hs : bt = true ∨ bt = false ∧ s = []) (hn : bn = true ∧ SN nv ∨ bn = false ∧ c = 0 ∧ S0 nv) (ha : ba = true ∧ SN av ∨ ba = false ∧ S0 av) :
    ran a139 (eargs k i s c nv av bt bn ba) = some (.bool (k == 1 || i == 0)) := by
  rcases hs with rfl | ⟨rfl, rfl⟩ <;> rcases hn with ⟨rfl, hn⟩ | ⟨rfl, rfl, hn⟩ <;> cases hn <;> rcases ha with ⟨rfl, ha⟩ | ⟨rfl, ha⟩ <;> cases ha
  all_goals cases i1 k with
    | o => kernel_rfl
    | z => cases i0 i <;> kernel_rfl
    | p n => cases i0 i <;> kernel_rfl
    | m n => cases i0 i <;> kernel_rfl
end
theorem empty_ran (t : Tm) (bt bn ba : Bool) : ran a139 [.agg (tc t), .bool bt, .bool bn, .bool ba] = some (.bool (emptyF t bt bn ba)) := by
  rcases t with ⟨k, i, s, c, nf, ns, af, ar⟩
  have hn := slF nf ns.length (u32s ns)
  have ha := slF af ar.length (tcs ar)
  show ran a139 (eargs k i s c (slAV nf ns.length (u32s ns)) (slAV af ar.length (tcs ar)) bt bn ba) = _
  generalize slAV nf ns.length (u32s ns) = nv at *
  generalize slAV af ar.length (tcs ar) = av at *
  by_cases hs : bt = true ∨ s = []
  · have es : (bt || s == []) = true := by rcases hs with rfl | rfl <;> simp
    have hs : bt = true ∨ bt = false ∧ s = [] := by
      rcases hs with h | h
      · exact .inl h
      · cases bt
        · exact .inr ⟨rfl, h⟩
        · exact .inl rfl
    by_cases hq : bn = true ∨ (ns = [] ∧ c = 0)
    · have en : (bn || (ns.length == 0 && c == 0)) = true := by rcases hq with rfl | ⟨rfl, rfl⟩ <;> simp
      have gn : bn = true ∧ SN nv ∨ bn = false ∧ c = 0 ∧ S0 nv := by
        cases bn with
        | true => exact .inl ⟨rfl, hn.any⟩
        | false =>
          rcases hq with h | ⟨rfl, h⟩
          · cases h
          · exact .inr ⟨rfl, h, hn.zero⟩
      by_cases hr : ba = true ∨ ar = []
      · have er : (ba || ar.length == 0) = true := by rcases hr with rfl | rfl <;> simp
        have ga : ba = true ∧ SN av ∨ ba = false ∧ S0 av := by
          cases ba with
          | true => exact .inl ⟨rfl, ha.any⟩
          | false =>
            rcases hr with h | rfl
            · cases h
            · exact .inr ⟨rfl, ha.zero⟩
        rw [empty_d hs gn ga, emptyF, es, en, er]; rfl
      · have : ba = false ∧ ar ≠ [] := ⟨by cases ba; rfl; exact absurd (.inl rfl) hr, fun e => hr (.inr e)⟩
        obtain ⟨rfl, h2⟩ := this
        cases ar with
        | nil => exact absurd rfl h2
        | cons a l =>
          obtain ⟨b, cs, rfl⟩ := SlF.succ (n := l.length) ha
          rw [empty_a1 hs gn]
          simp [emptyF]
    · have hb : bn = false := by cases bn; rfl; exact absurd (.inl rfl) hq
      subst hb
      cases ns with
      | cons a l =>
        obtain ⟨b, cs, rfl⟩ := SlF.succ (n := l.length) hn
        rw [empty_n1 hs ha.any]
        simp [emptyF]
      | nil =>
        have hc : c ≠ 0 := fun e => hq (.inr ⟨rfl, e⟩)
        rw [empty_n2 hs hn.zero hc ha.any]
        simp [emptyF, hc]
  · have hb : bt = false := by cases bt; rfl; exact absurd (.inl rfl) hs
    subst hb
    cases s with
    | nil => exact absurd (.inr rfl) hs
    | cons b l =>
      rw [empty_s hn.any ha.any]
      simp [emptyF]
theorem empty_spec (t : Tm) (bt bn ba : Bool) (h : Heap) : WC env 139 [.agg (tc t), .bool bt, .bool bn, .bool ba] h (fun o => o = .ret ⟨.bool (emptyF t bt bn ba), h, .none⟩) :=
  pure_run (n := 29) rfl rfl rfl (by simp only [AV.noRefs, AV.noRef, noRef_tc, Bool.and_self, Bool.true_and]) rfl (empty_ran t bt bn ba)
end Go.Bf
/-
  What form answers: has one part its form?
-/
set_option linter.unusedVariables false
set_option linter.unusedSimpArgs false
set_option maxRecDepth 20000
namespace Go.Bf
open Go.AM

/-! what a term from outside keeps to -/
def I64 (x : Int) : Prop := -9223372036854775808 ≤ x ∧ x ≤ 9223372036854775807
def U32 (x : Int) : Prop := 0 ≤ x ∧ x ≤ 4294967295
mutual
def Tm.Ok : Tm → Prop
  | .mk k i s c nf ns af ar => I64 k ∧ I64 i ∧ U32 c ∧ (∀ x, x ∈ ns → U32 x) ∧ (s.length < 9223372036854775808 ∧ ns.length < 9223372036854775808 ∧ ar.length < 9223372036854775808 ∧ Oks ar)
def Oks : List Tm → Prop
  | [] => True
  | t :: l => t.Ok ∧ Oks l
end
theorem Tm.Ok.lens {k i : Int} {s : List UInt8} {c : Int} {nf : Option Bool} {ns : List Int} {af : Option Bool} {ar : List Tm} (h : Tm.Ok (.mk k i s c nf ns af ar)) : s.length < 9223372036854775808 ∧ ns.length < 9223372036854775808 ∧ ar.length < 9223372036854775808 ∧ Oks ar := by
  rw [Tm.Ok] at h; exact h.2.2.2.2
theorem Oks.get : ∀ {l : List Tm} (h : Oks l) {t : Tm}, t ∈ l → t.Ok
  | [], h, t, m => by simp at m
  | u :: l, h, t, m => by
    rw [Oks] at h
    rcases List.mem_cons.1 m with rfl | m
    · exact h.1
    · exact Oks.get h.2 m
theorem wc_ex2 {f : Nat} {args : List AV} {h : Heap} {α β : Type} {r : α → β → COut} (w : WC env f args h (fun o => ∃ a b, o = r a b)) : ∃ a b, WC env f args h (fun o => o = r a b) := by
  obtain ⟨o, h1, a, b, h2⟩ := w
  exact ⟨a, b, o, h1, h2⟩
theorem aEq_errA (p c : Int) : aEq (.iface true) (errA p c) .nili = some false := rfl
theorem fa0 {cs : List AV} : aFieldAddr 0 (.fp cs) = some (.fp (cs.drop 0)) := rfl
/-- the fault of a lower layer: place and number -/
abbrev Und := Option (Int × Int)
def undAV : Und → AV
  | none => .nili
  | some (p, c) => errA p c
def errT (at_ code : Int) (u : Und) : AV := .ifc 69 (.fp [.str [116, 101, 114, 109], .int .i64 at_, .int .i64 code, undAV u])
theorem tfault_nil (a c : Int) (h : Heap) : WC env 129 [.int .i64 a, .int .i64 c, .nili] h (fun o => o = .ret ⟨errT a c none, h, .none⟩) := wc_run (n := 30) (by kernel_rfl)
theorem tfault_err (a c p d : Int) (h : Heap) : WC env 129 [.int .i64 a, .int .i64 c, errA p d] h (fun o => o = .ret ⟨errT a c (some (p, d)), h, .none⟩) := wc_run (n := 30) (by kernel_rfl)
theorem tcode_err (p d : Int) (h : Heap) : WC env 142 [errA p d] h (fun o => o = .ret ⟨.int .i64 d, h, .none⟩) := wc_run (n := 30) (by kernel_rfl)

def lastNot7 : List Tm → Bool
  | [] => true
  | [t] => t.kind != 7
  | _ :: l => lastNot7 l
def kindOk : Tm → Bool
  | t@(.mk k _ _ _ _ ns _ ar) =>
    if k = 1 then emptyF t false false false
    else if k = 2 then emptyF t true false false
    else if k = 3 then emptyF t true true false && ns.length == 3
    else if k = 4 then emptyF t true true false && ns.length == 2
    else if k = 5 then emptyF t false false true
    else if k = 6 then emptyF t false false false
    else if k = 7 then emptyF t false false true && decide (ar.length ≥ 2) && lastNot7 ar
    else false
/-- the number of a part's fault, and what is under it -/
def formF : Tm → Option (Int × Und)
  | t@(.mk k i s _ _ _ _ _) =>
    if kindOk t = false then some (40, none)
    else if k = 1 then if i < -576460752303423488 ∨ i > 576460752303423487 then some (2, none) else none
    else if k = 2 then match quoteErr s with
      | some (p, c) => some (c, some (p, c))
      | none => none
    else if k = 3 ∨ k = 4 then if nodeF s then none else some (24, some (0, 24))
    else none
def formAV (at_ : Int) : Option (Int × Und) → AV
  | none => .nili
  | some (c, u) => errT at_ c u
theorem noRef_form (a : Int) (x : Option (Int × Und)) : (formAV a x).noRef = true := by
  rcases x with _ | ⟨c, _ | ⟨p, d⟩⟩ <;> rfl
theorem lastNot7_get : ∀ (l : List Tm) (h : l.length - 1 < l.length), lastNot7 l = (l[l.length - 1].kind != 7)
  | [], h => by simp at h
  | [t], h => rfl
  | t :: u :: l, h => by
    have := lastNot7_get (u :: l) (by simp)
    rw [lastNot7, this]
    · simp
    · simp

end Go.Bf
