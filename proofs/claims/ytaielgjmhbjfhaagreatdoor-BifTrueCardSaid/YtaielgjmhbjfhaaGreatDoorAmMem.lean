/-
  THE ABSTRACT MACHINE: what is kept in the heap, what changes; slices of bytes there.
-/
import Derived.Test.YtaielgjmhbjfhaaGreatDoorAmBytes
import Derived.Test.YtaielgjmhbjfhaaGreatDoorAmCls
set_option linter.unusedVariables false
set_option linter.unusedSimpArgs false
namespace Go.AM

theorem at_upd {h : Heap} {id gen : Nat} {cs : List AV} : (h.upd id gen cs).at_ id gen = some cs := by
  rw [at_look, look_upd, if_pos rfl]
theorem at_upd_ne {h : Heap} {id gen id' gen' : Nat} {cs : List AV} (hne : id' ≠ id) : (h.upd id gen cs).at_ id' gen' = h.at_ id' gen' := by
  cases ha : h.at_ id' gen' with
  | some c => rw [at_look] at ha ⊢; rw [look_upd, if_neg hne]; exact ha
  | none =>
    cases hb : (h.upd id gen cs).at_ id' gen' with
    | none => rfl
    | some c =>
      rw [at_look, look_upd, if_neg hne] at hb
      rw [at_look.2 hb] at ha; cases ha

theorem wrap_small {n : Nat} (h : n < 9223372036854775808) : IntKind.wrap .i64 (n : Int) = n := by
  have h0 : (0 : Int) ≤ n := Int.natCast_nonneg n
  have h1 : (n : Int) < 9223372036854775808 := by omega
  have e : (n : Int) % 18446744073709551616 = n := by omega
  show (if (true && decide ((n : Int) % 18446744073709551616 ≥ 9223372036854775808)) = true then (n : Int) % 18446744073709551616 - 18446744073709551616 else (n : Int) % 18446744073709551616) = n
  rw [e, if_neg]
  simp only [Bool.true_and, decide_eq_true_eq]
  omega

theorem wrap_nat {e : Int} {n : Nat} (h : e = n) (hn : n < 9223372036854775808) : IntKind.wrap .i64 e = n := by
  rw [h]; exact wrap_small hn

theorem Acc.lenOp {h : Heap} {sz n : Nat} {x : AV} {cells : List AV} (k : Acc h sz x cells) (e : aLen x = some n) (h2 : Heap) : aLenOp false h2 x = some ⟨.int .i64 n, h2, .none⟩ := by
  cases k <;> (cases e; rfl)

theorem Acc.row {h : Heap} {sz : Nat} {x : AV} {cells : List AV} (k : Acc h sz x cells) : x.row = some [x] := by
  cases k <;> rfl

/-- all but these objects are kept -/
def Chg (S : Nat → Prop) (h h' : Heap) : Prop := h.next ≤ h'.next ∧ ∀ id gen cs, ¬ S id → h.at_ id gen = some cs → h'.at_ id gen = some cs

theorem Chg.refl {S : Nat → Prop} {h : Heap} : Chg S h h := ⟨Nat.le_refl _, fun _ _ _ _ e => e⟩
theorem Chg.trans {S : Nat → Prop} {a b c : Heap} (x : Chg S a b) (y : Chg S b c) : Chg S a c := ⟨Nat.le_trans x.1 y.1, fun id gen cs n e => y.2 id gen cs n (x.2 id gen cs n e)⟩
theorem Chg.mono {S T : Nat → Prop} {a b : Heap} (x : Chg S a b) (h : ∀ i, S i → T i) : Chg T a b := ⟨x.1, fun id gen cs n e => x.2 id gen cs (fun s => n (h id s)) e⟩
theorem Heap.le.chg {S : Nat → Prop} {a b : Heap} (x : a.le b) : Chg S a b := ⟨x.1, fun id gen cs _ e => x.2 id gen cs e⟩
theorem Heap.leBut.chg {S : Nat → Prop} {o : Option Nat} {a b : Heap} (x : Heap.leBut o a b) (hs : ∀ i, o = some i → S i) : Chg S a b := ⟨x.1, fun id gen cs n e => x.2 id gen cs (fun e2 => n (hs id e2)) e⟩
theorem upd_chg {S : Nat → Prop} {h : Heap} {id gen : Nat} {cs : List AV} (hs : S id) : Chg S h (h.upd id gen cs) :=
  ⟨Nat.le_refl _, fun id' gen' cs' hne e => by rw [at_upd_ne (fun e2 => hne (by rw [e2]; exact hs))]; exact e⟩

theorem Acc.chg {h h' : Heap} {sz : Nat} {x : AV} {cells : List AV} {S : Nat → Prop} (k : Acc h sz x cells) (hl : Chg S h h') (hne : ∀ id, x.own = some id → ¬ S id) : Acc h' sz x cells := by
  cases k with
  | nils => exact .nils
  | full n _ hl => exact .full n _ hl
  | sl id gen n _ hat hl' => exact .sl id gen n _ (hl.2 _ _ _ (hne id rfl) hat) hl'
theorem Bytes.chg {h h' : Heap} {v : AV} {bs : List UInt8} {S : Nat → Prop} (k : Bytes h v bs) (hl : Chg S h h') (hne : ∀ id, v.own = some id → ¬ S id) : Bytes h' v bs := by
  cases k with
  | nils => exact .nils
  | fs full => exact .fs full _
  | sl id gen off cap cs _ hat hle hc hcap => exact .sl id gen off cap cs _ (hl.2 _ _ _ (hne id rfl) hat) hle hc hcap

/-- append([]byte{}, y...): what is made is one's own -/
theorem append_own {h : Heap} (ho : HeapOk h) {y : AV} {bs : List UInt8} (k : Bytes h y bs) (hsm : bs.length ≤ 70368744177664) :
    ∃ v' h' c, aAppend h 1 1 (.fs true 0 []) y = some ⟨v', h', c⟩ ∧ Acc h' 1 v' (bs.map byteAV) ∧ aLen v' = some bs.length ∧ h.le h' ∧ HeapOk h' ∧ (∀ id, v'.own = some id → h.next ≤ id ∧ id < h'.next) ∧ (bs ≠ [] → v'.own ≠ none) := by
  by_cases h0 : bs = []
  · subst h0
    refine ⟨.fs true 0 [], h, .none, ?_, .full 0 [] rfl, rfl, Heap.le_refl h, ho, (fun id e => by cases e), fun e => absurd rfl e⟩
    simp [aAppend, k.len, aLen_fs]
  · obtain ⟨c, _, hc⟩ := k.cells
    have hne : bs.length ≠ 0 := fun e => h0 (List.length_eq_zero_iff.1 e)
    refine ⟨.sl h.next 0 0 1 bs.length none, h.new (bs.map byteAV), .write, ?_, .sl _ _ _ _ (at_new _) (by simp), rfl, le_new ho _, ho.new _, fun id e => ?_, fun _ => by simp [AV.own]⟩
    · simp [aAppend, k.len, aLen_fs, hsm, h0, hc]
      simp [sliceCells]
    · simp only [AV.own, Option.some.injEq] at e
      subst e
      exact ⟨Nat.le_refl _, Nat.lt_succ_self _⟩

theorem Acc.toBytes {h : Heap} {v : AV} {bs : List UInt8} (k : Acc h 1 v (bs.map byteAV)) : Bytes h v bs := by
  generalize hc : bs.map byteAV = cells at k
  cases k with
  | nils =>
    simp at hc; subst hc; exact .nils
  | full n _ hl =>
    subst hc
    have : n = bs.length := by simp at hl; omega
    subst this
    exact .fs true bs
  | sl id gen n _ hat hl =>
    subst hc
    have : n = bs.length := by simp at hl; omega
    subst this
    exact .sl id gen 0 none _ bs hat (by simp) (by simp [List.take_of_length_le]) (fun c e => by cases e)

/-- a part lies where the whole lies -/
theorem Bytes.from_own {h : Heap} {v : AV} {bs : List UInt8} (k : Bytes h v bs) {kd : IntKind} {l : Nat} (h1 : l ≤ bs.length) : ∃ v', aSlice 1 v (some (.int kd l)) none none = some v' ∧ Bytes h v' (bs.drop l) ∧ ∀ i, v'.own = some i → v.own = some i := by
  obtain ⟨v', g1, g2⟩ := k.from (kd := kd) h1
  refine ⟨v', g1, g2, ?_⟩
  cases k with
  | nils => intro i e; cases l with
    | zero => cases g1; cases e
    | succ l => simp at h1
  | fs full =>
    intro i e
    rw [aSlice_fs (by simp) (bounds_from h1)] at g1
    cases g1; cases e
  | sl id gen off cap cs _ hat hle hc hcap =>
    intro i e
    have hsb : sbound bs.length (.int kd l) = some l := sbound_ok h1
    unfold aSlice at g1
    cases cap with
    | none =>
      simp only [reduceIte, bounds_from h1, Option.map_some, Option.some.injEq] at g1
      subst g1; exact e
    | some c =>
      simp only [reduceIte, bounds_from h1, Option.map_some, Option.some.injEq] at g1
      subst g1; exact e

theorem row_byte (b : UInt8) : (byteAV b).row = some [byteAV b] := rfl
theorem Bytes.set {h : Heap} {v : AV} {bs : List UInt8} (ho : HeapOk h) (k : Bytes h v bs) {i : Nat} (hi : i < bs.length) (hne : v.own ≠ none) (b : UInt8) :
    ∃ p h', aIdxAddr 1 v (.int .i64 i) = some p ∧ aStore h 1 p (byteAV b) = some ⟨.undef, h', .write⟩ ∧ HeapOk h' ∧ Bytes h' v (bs.set i b) ∧ Chg (fun j => v.own = some j) h h' := by
  have hidx : aIndex bs.length (.int .i64 i) = some i := by
    have h0 : (0 : Int) ≤ i := Int.natCast_nonneg i
    have h2 : (i : Int) < bs.length := by exact_mod_cast hi
    simp [aIndex, h0, h2]
  cases k with
  | nils => simp at hi
  | fs full => exact absurd rfl hne
  | sl id gen off cap cs _ hat hle hc hcap =>
    refine ⟨.ptr id gen (off + i * 1), h.upd id gen (cs.set (off + i) (byteAV b)), by simp [aIdxAddr, hidx], ?_, ho.upd (at_look.1 hat) _ _, ?_, upd_chg rfl⟩
    · have hs : splice cs (off + i * 1) [byteAV b] = cs.set (off + i) (byteAV b) := by
        rw [List.set_eq_take_append_cons_drop, if_pos (by omega)]
        simp [splice]
      simp only [aStore, hat, Option.bind_some, row_byte, hs]
      rw [if_pos ⟨rfl, by omega⟩]
    · have := Bytes.sl (h := h.upd id gen (cs.set (off + i) (byteAV b))) id gen off cap (cs.set (off + i) (byteAV b)) (bs.set i b) at_upd (by simpa using hle) (by
        rw [List.length_set, List.drop_set, if_neg (by omega), List.take_set, hc, show off + i - off = i by omega, List.map_set]) (by simpa using hcap)
      rwa [List.length_set] at this

theorem own_none {v : AV} {bs : List UInt8} (hb : ∀ h, Bytes h v bs) : v.own = none := by
  cases hb .empty with
  | nils => rfl
  | fs full => rfl
  | sl id gen off cap cs _ hat hle hc hcap => simp [at_look, Heap.look, Heap.empty, Tr.get] at hat

theorem frozen_mid {bv : AV} {b : List UInt8} (hbv : ∀ h, Bytes h bv b) {l u : Nat} (h1 : l ≤ u) (h2 : u ≤ b.length) : ∃ v, aSlice 1 bv (some (.int .i64 l)) (some (.int .i64 u)) none = some v ∧ ∀ h, Bytes h v ((b.drop l).take (u - l)) := by
  obtain ⟨v, g1, g2⟩ := (hbv .empty).mid (k1 := .i64) (k2 := .i64) h1 h2
  refine ⟨v, g1, fun h => ?_⟩
  obtain ⟨v2, g3, g4⟩ := (hbv h).mid (k1 := .i64) (k2 := .i64) h1 h2
  rw [g1] at g3; cases g3
  exact g4

theorem frozen_to {bv : AV} {b : List UInt8} (hbv : ∀ h, Bytes h bv b) {u : Nat} (h2 : u ≤ b.length) : ∃ v, aSlice 1 bv none (some (.int .i64 u)) none = some v ∧ ∀ h, Bytes h v (b.take u) := by
  obtain ⟨v, g1, g2⟩ := (hbv .empty).to (kd := .i64) h2
  refine ⟨v, g1, fun h => ?_⟩
  obtain ⟨v2, g3, g4⟩ := (hbv h).to (kd := .i64) h2
  rw [g1] at g3; cases g3
  exact g4

theorem ex0 (a b : AV) : ([a, b] : List AV)[0]? = some a := rfl
theorem ex1 (a b : AV) : ([a, b] : List AV)[1]? = some b := rfl
theorem ex20 (a b c : AV) : ([a, b, c] : List AV)[0]? = some a := rfl
theorem ex21 (a b c : AV) : ([a, b, c] : List AV)[1]? = some b := rfl
theorem ex22 (a b c : AV) : ([a, b, c] : List AV)[2]? = some c := rfl
theorem eq_nil : aEq (.iface true) .nili .nili = some true := rfl
theorem eq_self (bs : List UInt8) : (bs == bs) = true := by simp
theorem ne_self (bs : List UInt8) : (!(bs == bs)) = false := by simp
theorem op_field {E : Env} {σ : Slots} {h : Heap} {ag : Bool} {sz o : Nat} {x : Opd} : E.op σ h (.field ag sz o x) = (E.opd σ x).bind fun
    | .agg cs => if o + sz ≤ cs.length then (partOf ag sz o cs).map fun v => ⟨v, h, .none⟩ else none
    | _ => none := rfl
theorem op_loadT {E : Env} {σ : Slots} {h : Heap} {ag : Bool} {sz : Nat} {x : Opd} : E.op σ h (.load ag sz x) = (E.opd σ x).bind (aLoad h ag sz) := rfl
theorem op_idxAddrArr {E : Env} {σ : Slots} {h : Heap} {sz n : Nat} {x i : Opd} : E.op σ h (.idxAddrArr sz n x i) = (E.opd σ x).bind fun a => (E.opd σ i).bind fun b => (aIdxAddrArr sz n a b).map fun v => ⟨v, h, .none⟩ := rfl
theorem op_minmax {E : Env} {σ : Slots} {h : Heap} {m : Bool} {x y : Opd} : E.op σ h (.minmax m x y) = (E.opd σ x).bind fun a => (E.opd σ y).bind fun b => (aMinMax m a b).map fun v => ⟨v, h, .none⟩ := rfl
theorem op_mkFunc {E : Env} {σ : Slots} {h : Heap} {f : Fn} {a b : List Opd} : E.op σ h (.mkFunc f a b) = (E.opds σ a).bind fun x => (E.opds σ b).map fun y => ⟨.fn f x y, h, .none⟩ := rfl
theorem aNil_ptr {id gen off : Nat} : aNil (.ptr id gen off) = some (.ptr id gen off) := rfl
theorem aEq_ptr {id gen off : Nat} : aEq .ptr (.ptr id gen off) .nilp = some false := rfl
end Go.AM
