/-
  THE ABSTRACT MACHINE: operations on slices of bytes, wherever these lie.
-/
import Derived.Test.YtaielgjmhbjfhaaGreatDoorAmWpc
set_option linter.unusedSimpArgs false
set_option linter.unusedVariables false
namespace Go.AM

/-! ### an operation's words, part by part -/
section
variable {E : Env} {σ : Slots} {h : Heap}
@[simp] theorem op_mv {x : Opd} : E.op σ h (.mv x) = (E.opd σ x).map fun v => ⟨v, h, .none⟩ := rfl
@[simp] theorem op_bin {o : BinOp} {x y : Opd} : E.op σ h (.bin o x y) = (E.opd σ x).bind fun a => (E.opd σ y).bind fun b => (aBin o a b).map fun v => ⟨v, h, .none⟩ := rfl
@[simp] theorem op_eq {ng : Bool} {e : EqT} {x y : Opd} : E.op σ h (.eq ng e x y) = (E.opd σ x).bind fun a => (E.opd σ y).bind fun b => (aEq e a b).map fun r => ⟨.bool (negIf ng r), h, .none⟩ := rfl
@[simp] theorem op_un {o : UnOp} {x : Opd} : E.op σ h (.un o x) = (E.opd σ x).bind fun a => (aUn o a).map fun v => ⟨v, h, .none⟩ := rfl
@[simp] theorem op_conv {c : CvT} {x : Opd} : E.op σ h (.conv c x) = (E.opd σ x).bind (aConv h c) := rfl
@[simp] theorem op_load {ag : Bool} {sz : Nat} {x : Opd} : E.op σ h (.load ag sz x) = (E.opd σ x).bind (aLoad h ag sz) := rfl
@[simp] theorem op_store {sz : Nat} {x v : Opd} : E.op σ h (.store sz x v) = (E.opd σ x).bind fun a => (E.opd σ v).bind fun b => aStore h sz a b := rfl
@[simp] theorem op_slice {sz : Nat} {x : Opd} {lo hi mx : Option Opd} : E.op σ h (.slice sz x lo hi mx) = (E.opd σ x).bind fun v => (E.opdo σ lo).bind fun a => (E.opdo σ hi).bind fun b => (E.opdo σ mx).bind fun c => (aSlice sz v a b c).map fun v => ⟨v, h, .none⟩ := rfl
@[simp] theorem op_append {sz bt : Nat} {x y : Opd} : E.op σ h (.append sz bt x y) = (E.opd σ x).bind fun a => (E.opd σ y).bind fun b => aAppend h sz bt a b := rfl
@[simp] theorem op_idxAddr {sz : Nat} {x i : Opd} : E.op σ h (.idxAddr sz x i) = (E.opd σ x).bind fun a => (E.opd σ i).bind fun b => (aIdxAddr sz a b).map fun v => ⟨v, h, .none⟩ := rfl
@[simp] theorem op_lit {fr : Bool} {sz len : Nat} {cells : List AV} {ps : List (Nat × Nat × Opd)} : E.op σ h (.lit fr sz len cells ps) = (E.parts σ ps).bind fun l => (aFill cells l).bind fun cs => if cs.length = len * sz then
      match fr with
      | true => some ⟨.fs true len cs, h, .none⟩
      | false => some ⟨.sl h.next 0 0 sz len (some len), h.new cs, .write⟩
    else none := rfl
@[simp] theorem op_build {z : List AV} {ps : List (Nat × Nat × Opd)} : E.op σ h (.build z ps) = (E.parts σ ps).bind fun l => (aFill z l).map fun cs => ⟨.agg cs, h, .none⟩ := rfl
@[simp] theorem op_box {fr : Bool} {sz : Nat} {x : Opd} : E.op σ h (.box fr sz x) = (E.opd σ x).bind fun v => v.row.bind fun vs => if vs.length = sz then
      match fr with
      | true => some ⟨.fp vs, h, .none⟩
      | false => some ⟨.ptr h.next 0 0, h.new vs, .write⟩
    else none := rfl
@[simp] theorem op_alloc {z : List AV} : E.op σ h (.alloc z) = some ⟨.ptr h.next 0 0, h.new z, .write⟩ := rfl
@[simp] theorem op_mkIface {t : TypeId} {x : Opd} : E.op σ h (.mkIface t x) = (E.opd σ x).map fun v => ⟨.ifc t v, h, .none⟩ := rfl
@[simp] theorem op_pick {c a b : Opd} : E.op σ h (.pick c a b) = (E.opd σ c).bind fun
    | .bool true => (E.opd σ a).map fun v => ⟨v, h, .none⟩
    | .bool false => (E.opd σ b).map fun v => ⟨v, h, .none⟩
    | _ => none := rfl
@[simp] theorem opdo_none : E.opdo σ none = some none := rfl
@[simp] theorem opdo_some {x : Opd} : E.opdo σ (some x) = (E.opd σ x).map some := rfl
@[simp] theorem opds_nil : E.opds σ [] = some [] := rfl
@[simp] theorem opds_cons {x : Opd} {xs : List Opd} : E.opds σ (x :: xs) = (E.opd σ x).bind fun v => (E.opds σ xs).map fun vs => v :: vs := rfl
@[simp] theorem parts_nil : E.parts σ [] = some [] := rfl
@[simp] theorem parts_cons {i s : Nat} {x : Opd} {xs : List (Nat × Nat × Opd)} : E.parts σ ((i, s, x) :: xs) = (E.opd σ x).bind fun v => (E.parts σ xs).map fun vs => (i, s, v) :: vs := rfl
end

/-! ### bytes -/
/-- the object in which a slice lies -/
def AV.own : AV → Option Nat
  | .sl id _ _ _ _ _ => some id
  | _ => none

inductive Bytes (h : Heap) : AV → List UInt8 → Prop
  | nils : Bytes h .nils []
  | fs (full : Bool) (bs : List UInt8) : Bytes h (.fs full bs.length (bs.map byteAV)) bs
  | sl (id gen off : Nat) (cap : Option Nat) (cs : List AV) (bs : List UInt8) (hat : h.at_ id gen = some cs) (hle : off + bs.length ≤ cs.length) (hc : (cs.drop off).take bs.length = bs.map byteAV) (hcap : ∀ c, cap = some c → bs.length ≤ c) :
      Bytes h (.sl id gen off 1 bs.length cap) bs

@[simp] theorem toByte_byteAV (b : UInt8) : toByte (byteAV b) = some b := by
  simp [toByte, byteAV]

theorem mapM_toByte : ∀ (bs : List UInt8), (bs.map byteAV).mapM toByte = some bs
  | [] => rfl
  | b :: bs => by
    rw [List.map_cons, List.mapM_cons, mapM_toByte bs, toByte_byteAV]
    rfl

section
variable {h : Heap} {v : AV} {bs : List UInt8}

theorem Bytes.len (k : Bytes h v bs) : aLen v = some bs.length := by
  cases k <;> rfl

theorem Bytes.lenOp (k : Bytes h v bs) : aLenOp false h v = some ⟨.int .i64 bs.length, h, .none⟩ := by
  cases k <;> rfl

theorem Bytes.cells (k : Bytes h v bs) : ∃ c, c ≠ .write ∧ sliceCells h 1 bs.length v = some (bs.map byteAV, c) := by
  cases k with
  | nils => exact ⟨.none, by simp, rfl⟩
  | fs full => exact ⟨.none, by simp, by simp [sliceCells, List.take_of_length_le]⟩
  | sl id gen off cap cs _ hat hle hc hcap => exact ⟨.read, by simp, by simp [sliceCells, hat, hle, hc]⟩

theorem Bytes.notStr (k : Bytes h v bs) (s : List UInt8) : v ≠ .str s := by
  cases k <;> simp

theorem Bytes.b2s (k : Bytes h v bs) : ∃ c, c ≠ .write ∧ aConv h .b2s v = some ⟨.str bs, h, c⟩ := by
  obtain ⟨c, hc, hs⟩ := k.cells
  refine ⟨c, hc, ?_⟩
  have hl := k.len
  have : aConv h .b2s v = (aLen v).bind fun n => (sliceCells h 1 n v).bind fun (cs, k) => (cs.mapM toByte).map fun bs => ⟨.str bs, h, k⟩ := by
    cases k <;> rfl
  rw [this, hl, Option.bind_some, hs]
  simp only [Option.bind_some, mapM_toByte, Option.map_some]

/-- the heap has grown: nothing that was is gone -/
def Heap.le (h h' : Heap) : Prop := h.next ≤ h'.next ∧ ∀ id gen cs, h.at_ id gen = some cs → h'.at_ id gen = some cs

theorem Bytes.le {h' : Heap} (k : Bytes h v bs) (hl : h.le h') : Bytes h' v bs := by
  cases k with
  | nils => exact .nils
  | fs full => exact .fs full _
  | sl id gen off cap cs _ hat hle hc hcap => exact .sl id gen off cap cs _ (hl.2 _ _ _ hat) hle hc hcap
end

theorem sbound_ok {y : Nat} {k : IntKind} {i : Nat} (h1 : i ≤ y) : sbound y (.int k i) = some i := by
  have h0 : (0 : Int) ≤ i := Int.natCast_nonneg i
  have h2 : (i : Int) ≤ y := by exact_mod_cast h1
  simp [sbound, h0, h2]

theorem bounds_from {len cap l : Nat} {k : IntKind} (h1 : l ≤ len) : bounds len cap (some (.int k l)) none none = some (l, len, cap) := by
  simp [bounds, sbound_ok h1]
theorem bounds_to {len cap u : Nat} {k : IntKind} (h1 : u ≤ cap) : bounds len cap none (some (.int k u)) none = some (0, u, cap) := by
  simp [bounds, sbound_ok h1]
theorem bounds_mid {len cap l u : Nat} {k k' : IntKind} (h1 : l ≤ u) (h2 : u ≤ cap) : bounds len cap (some (.int k l)) (some (.int k' u)) none = some (l, u, cap) := by
  simp [bounds, sbound_ok h1, sbound_ok h2]
theorem bounds_three {len cap l u m : Nat} {k k' k2 : IntKind} (h1 : l ≤ u) (h2 : u ≤ m) (h3 : m ≤ cap) : bounds len cap (some (.int k l)) (some (.int k' u)) (some (.int k2 m)) = some (l, u, m) := by
  simp [bounds, sbound_ok h1, sbound_ok h2, sbound_ok h3]

theorem take_drop_take {α : Type} (cs : List α) (off n l u : Nat) (h1 : l ≤ u) (h2 : u ≤ n) : (cs.drop (off + l)).take (u - l) = (((cs.drop off).take n).drop l).take (u - l) := by
  rw [List.drop_take, List.take_take, List.drop_drop]
  congr 1
  omega

section
variable {h : Heap} {v : AV} {bs : List UInt8}

/-- is a part's room known? -/
def partFull (full : Bool) (n u m : Nat) : Option AV → Bool
  | some _ => m == u
  | none => full && u == n

theorem aSlice_fs {sz n l u m : Nat} {full : Bool} {cs : List AV} {lo hi mx : Option AV} (hl : cs.length = n * sz) (hm : bounds n n lo hi mx = some (l, u, m)) :
    aSlice sz (.fs full n cs) lo hi mx = some (.fs (partFull full n u m mx) (u - l) ((cs.drop (l * sz)).take ((u - l) * sz))) := by
  unfold aSlice
  dsimp only
  rw [if_pos hl, hm]
  cases mx <;> rfl

/-- the part of a slice from l to u, whatever of its room goes with it -/
theorem Bytes.part (k : Bytes h v bs) {lo hi mx : Option AV} {l u : Nat} (h1 : l ≤ u) (h2 : u ≤ bs.length)
    (hb : ∀ cap, bs.length ≤ cap → ∃ m, u ≤ m ∧ m ≤ cap ∧ bounds bs.length cap lo hi mx = some (l, u, m)) :
    ∃ v', aSlice 1 v lo hi mx = some v' ∧ Bytes h v' ((bs.drop l).take (u - l)) := by
  have hlen : ((bs.drop l).take (u - l)).length = u - l := by simp; omega
  cases k with
  | nils =>
    obtain ⟨m, m1, m2, hm⟩ := hb 0 (by simp)
    simp only [List.length_nil] at hm
    refine ⟨.nils, by simp [aSlice, hm], ?_⟩
    simp only [List.drop_nil, List.take_nil]
    exact .nils
  | fs full =>
    obtain ⟨m, m1, m2, hm⟩ := hb bs.length (Nat.le_refl _)
    have hs := aSlice_fs (sz := 1) (full := full) (cs := bs.map byteAV) (by simp) hm
    refine ⟨_, hs, ?_⟩
    have := Bytes.fs (h := h) (partFull full bs.length u m mx) ((bs.drop l).take (u - l))
    rw [hlen] at this
    simpa [List.map_take, List.map_drop] using this
  | sl id gen off cap cs _ hat hle hc hcap =>
    have key : ∀ cap', (∀ c, cap' = some c → u - l ≤ c) → Bytes h (.sl id gen (off + l * 1) 1 (u - l) cap') ((bs.drop l).take (u - l)) := by
      intro cap' hcap'
      have := Bytes.sl (h := h) id gen (off + l * 1) cap' cs ((bs.drop l).take (u - l)) hat (by rw [hlen]; omega) (by
        rw [hlen, Nat.mul_one, take_drop_take cs off bs.length l u h1 h2, hc]
        simp [List.map_take, List.map_drop]) (by rw [hlen]; exact hcap')
      rw [hlen] at this
      exact this
    cases cap with
    | some c =>
      obtain ⟨m, m1, m2, hm⟩ := hb c (hcap c rfl)
      have hs : aSlice 1 (.sl id gen off 1 bs.length (some c)) lo hi mx = some (.sl id gen (off + l * 1) 1 (u - l) (some (m - l))) := by
        unfold aSlice
        dsimp only
        rw [if_pos rfl, hm]
        rfl
      exact ⟨_, hs, key _ (fun c' e => by simp only [Option.some.injEq] at e; omega)⟩
    | none =>
      obtain ⟨m, m1, m2, hm⟩ := hb bs.length (Nat.le_refl _)
      have hs : aSlice 1 (.sl id gen off 1 bs.length none) lo hi mx = some (.sl id gen (off + l * 1) 1 (u - l) (mx.map fun _ => m - l)) := by
        unfold aSlice
        dsimp only
        rw [if_pos rfl, hm]
        rfl
      refine ⟨_, hs, key _ (fun c' e => ?_)⟩
      cases mx with
      | none => cases e
      | some x => simp only [Option.map_some, Option.some.injEq] at e; omega

theorem Bytes.from (k : Bytes h v bs) {kd : IntKind} {l : Nat} (h1 : l ≤ bs.length) : ∃ v', aSlice 1 v (some (.int kd l)) none none = some v' ∧ Bytes h v' (bs.drop l) := by
  obtain ⟨v', g1, g2⟩ := k.part (lo := some (.int kd l)) (hi := none) (mx := none) h1 (Nat.le_refl _) (fun cap hc => ⟨cap, hc, Nat.le_refl _, bounds_from h1⟩)
  refine ⟨v', g1, ?_⟩
  rwa [List.take_of_length_le (by simp)] at g2
theorem Bytes.to (k : Bytes h v bs) {kd : IntKind} {u : Nat} (h1 : u ≤ bs.length) : ∃ v', aSlice 1 v none (some (.int kd u)) none = some v' ∧ Bytes h v' (bs.take u) := by
  obtain ⟨v', g1, g2⟩ := k.part (lo := none) (hi := some (.int kd u)) (mx := none) (l := 0) (Nat.zero_le _) h1 (fun cap hc => ⟨cap, by omega, Nat.le_refl _, bounds_to (by omega)⟩)
  exact ⟨v', g1, by simpa using g2⟩
theorem Bytes.mid (k : Bytes h v bs) {k1 k2 : IntKind} {l u : Nat} (h1 : l ≤ u) (h2 : u ≤ bs.length) : ∃ v', aSlice 1 v (some (.int k1 l)) (some (.int k2 u)) none = some v' ∧ Bytes h v' ((bs.drop l).take (u - l)) :=
  k.part h1 h2 (fun cap hc => ⟨cap, by omega, Nat.le_refl _, bounds_mid h1 (by omega)⟩)
theorem Bytes.three (k : Bytes h v bs) {k1 k2 k3 : IntKind} {l u : Nat} (h1 : l ≤ u) (h2 : u ≤ bs.length) : ∃ v', aSlice 1 v (some (.int k1 l)) (some (.int k2 u)) (some (.int k3 u)) = some v' ∧ Bytes h v' ((bs.drop l).take (u - l)) :=
  k.part h1 h2 (fun cap hc => ⟨u, Nat.le_refl _, by omega, bounds_three h1 (Nat.le_refl _) (by omega)⟩)

/-- an element of it -/
theorem Bytes.elem (k : Bytes h v bs) {kd : IntKind} {i : Nat} (hi : i < bs.length) : ∃ p c, aIdxAddr 1 v (.int kd i) = some p ∧ aLoad h false 1 p = some ⟨byteAV (bs.getD i 0), h, c⟩ ∧ c ≠ .write := by
  have hidx : aIndex bs.length (.int kd i) = some i := by
    have h0 : (0 : Int) ≤ i := Int.natCast_nonneg i
    have h2 : (i : Int) < bs.length := by exact_mod_cast hi
    simp [aIndex, h0, h2]
  have hget : bs[i]? = some (bs.getD i 0) := by
    rw [List.getD_eq_getElem?_getD, List.getElem?_eq_getElem hi]; rfl
  cases k with
  | nils => simp at hi
  | fs full =>
    cases hbs : bs.map byteAV with
    | nil => simp at hbs; subst hbs; simp at hi
    | cons a l =>
      refine ⟨.fp ((bs.map byteAV).drop (i * 1)), .none, by simp [aIdxAddr, hbs, hidx], ?_, by simp⟩
      simp only [aLoad, ldCells, Nat.mul_one, List.head?_drop, List.getElem?_map, hget, Option.map_some]
  | sl id gen off cap cs _ hat hle hc hcap =>
    refine ⟨.ptr id gen (off + i * 1), .read, by simp [aIdxAddr, hidx], ?_, by simp⟩
    have : cs[off + i]? = some (byteAV (bs.getD i 0)) := by
      have h3 : ((cs.drop off).take bs.length)[i]? = some (byteAV (bs.getD i 0)) := by
        rw [hc, List.getElem?_map, hget]; rfl
      rw [List.getElem?_take, if_pos hi, List.getElem?_drop] at h3
      exact h3
    simp only [aLoad, hat, Option.bind_some, ldCells, Nat.mul_one, List.head?_drop, this, Option.map_some]
end

/-! ### the heap grows -/
/-- nobody lies beyond its end -/
def HeapOk (h : Heap) : Prop := ∀ id, h.next ≤ id → h.look id = none

theorem HeapOk.empty : HeapOk .empty := fun id _ => rfl

theorem at_look {h : Heap} {id gen : Nat} {cs : List AV} : h.at_ id gen = some cs ↔ h.look id = some ⟨gen, cs⟩ := by
  unfold Heap.at_ Heap.look
  constructor
  · intro e
    cases ho : h.tr.get id with
    | none => rw [ho] at e; cases e
    | some o =>
      rw [ho] at e
      dsimp only at e
      cases hb : Nat.beq o.gen gen with
      | false => rw [hb] at e; cases e
      | true =>
        rw [hb] at e
        have := Nat.eq_of_beq_eq_true hb
        obtain ⟨g, c⟩ := o
        cases this
        cases e
        rfl
  · intro e
    rw [e]
    dsimp only
    rw [Nat.beq_refl]

theorem look_new (h : Heap) (cs : List AV) (id : Nat) : (h.new cs).look id = if id = h.next then some ⟨0, cs⟩ else h.look id := by
  simp only [Heap.look, Heap.new, Tr.get_set]
theorem look_upd (h : Heap) (id gen : Nat) (cs : List AV) (id' : Nat) : (h.upd id gen cs).look id' = if id' = id then some ⟨gen, cs⟩ else h.look id' := by
  simp only [Heap.look, Heap.upd, Tr.get_set]

theorem HeapOk.new {h : Heap} (k : HeapOk h) (cs : List AV) : HeapOk (h.new cs) := by
  intro id hid
  have h1 : Nat.succ h.next ≤ id := hid
  rw [look_new, if_neg (by omega)]
  exact k id (by omega)

theorem HeapOk.upd {h : Heap} (k : HeapOk h) {id : Nat} {o : AObj} (hl : h.look id = some o) (gen : Nat) (cs : List AV) : HeapOk (h.upd id gen cs) := by
  intro id' hid
  have h1 : h.next ≤ id' := hid
  rw [look_upd, if_neg (fun e => by subst e; rw [k _ h1] at hl; cases hl)]
  exact k id' h1

theorem le_new {h : Heap} (k : HeapOk h) (cs : List AV) : h.le (h.new cs) := by
  refine ⟨Nat.le_succ _, fun id gen cs' hat => ?_⟩
  rw [at_look] at hat ⊢
  rw [look_new, if_neg (fun e => by subst e; rw [k _ (Nat.le_refl _)] at hat; cases hat)]
  exact hat

theorem at_new {h : Heap} (cs : List AV) : (h.new cs).at_ h.next 0 = some cs := by
  rw [at_look, look_new, if_pos rfl]

theorem Heap.le_refl (h : Heap) : h.le h := ⟨Nat.le_refl _, fun _ _ _ e => e⟩
theorem Heap.le_trans {a b c : Heap} (h : a.le b) (k : b.le c) : a.le c := ⟨Nat.le_trans h.1 k.1, fun id gen cs e => k.2 id gen cs (h.2 id gen cs e)⟩

theorem aLen_fs {f : Bool} {n : Nat} {cs : List AV} : aLen (.fs f n cs) = some n := rfl
theorem aLen_nils : aLen .nils = some 0 := rfl
theorem aLen_sl {a b c d e : Nat} {f : Option Nat} : aLen (.sl a b c d e f) = some e := rfl

/-- append([]byte{}, y...) -/
theorem append_fresh {h : Heap} (ho : HeapOk h) {y : AV} {bs : List UInt8} (k : Bytes h y bs) (hsm : bs.length ≤ 70368744177664) :
    ∃ v' h' c, aAppend h 1 1 (.fs true 0 []) y = some ⟨v', h', c⟩ ∧ Bytes h' v' bs ∧ h.le h' ∧ HeapOk h' ∧ ∀ id, v'.own = some id → h.next ≤ id := by
  by_cases h0 : bs = []
  · subst h0
    refine ⟨.fs true 0 [], h, .none, ?_, .fs true [], Heap.le_refl h, ho, fun id e => by cases e⟩
    simp [aAppend, k.len, aLen_fs]
  · obtain ⟨c, _, hc⟩ := k.cells
    have hne : bs.length ≠ 0 := fun e => h0 (List.length_eq_zero_iff.1 e)
    refine ⟨.sl h.next 0 0 1 bs.length none, h.new (bs.map byteAV), .write, ?_, ?_, le_new ho _, ho.new _, fun id e => by simp only [AV.own, Option.some.injEq] at e; omega⟩
    · simp [aAppend, k.len, aLen_fs, hsm, h0, hc]
      simp [sliceCells]
    · exact .sl h.next 0 0 none _ _ (at_new _) (by simp) (by simp [List.take_of_length_le]) (fun c e => by cases e)

/-- append to a literal of bytes that has no room -/
theorem append_full {h : Heap} (ho : HeapOk h) {y : AV} {xs bs : List UInt8} (k : Bytes h y bs) (hsm : xs.length + bs.length ≤ 70368744177664) :
    ∃ v' h' c, aAppend h 1 1 (.fs true xs.length (xs.map byteAV)) y = some ⟨v', h', c⟩ ∧ Bytes h' v' (xs ++ bs) ∧ h.le h' ∧ HeapOk h' ∧ ∀ id, v'.own = some id → h.next ≤ id := by
  by_cases h0 : bs = []
  · subst h0
    refine ⟨.fs true xs.length (xs.map byteAV), h, .none, ?_, by simpa using Bytes.fs (h := h) true xs, Heap.le_refl h, ho, fun id e => by cases e⟩
    have : xs.length ≤ 70368744177664 := by simpa using hsm
    simp [aAppend, k.len, aLen_fs, this]
  · obtain ⟨c, _, hc⟩ := k.cells
    refine ⟨.sl h.next 0 0 1 (xs.length + bs.length) none, h.new (xs.map byteAV ++ bs.map byteAV), .write, ?_, ?_, le_new ho _, ho.new _, fun id e => by simp only [AV.own, Option.some.injEq] at e; omega⟩
    · simp [aAppend, k.len, aLen_fs, hsm, h0, hc]
      simp [sliceCells, List.take_of_length_le]
    · have := Bytes.sl (h := h.new (xs.map byteAV ++ bs.map byteAV)) h.next 0 0 none _ (xs ++ bs) (at_new _) (by simp) (by simp [List.take_of_length_le]) (fun c e => by cases e)
      simpa using this

theorem Bytes.row {h : Heap} {v : AV} {bs : List UInt8} (k : Bytes h v bs) : v.row = some [v] := by
  cases k <;> rfl

/-! ### what grows by append -/
inductive Acc (h : Heap) (sz : Nat) : AV → List AV → Prop
  | nils : Acc h sz .nils []
  | full (n : Nat) (cells : List AV) (hl : cells.length = n * sz) : Acc h sz (.fs true n cells) cells
  | sl (id gen n : Nat) (cells : List AV) (hat : h.at_ id gen = some cells) (hl : cells.length = n * sz) : Acc h sz (.sl id gen 0 sz n none) cells

def Heap.leBut (o : Option Nat) (h h' : Heap) : Prop := h.next ≤ h'.next ∧ ∀ id gen cs, o ≠ some id → h.at_ id gen = some cs → h'.at_ id gen = some cs

theorem Heap.le.but {h h' : Heap} (k : h.le h') (o : Option Nat) : Heap.leBut o h h' := ⟨k.1, fun id gen cs _ e => k.2 id gen cs e⟩
theorem Heap.leBut.trans {a b c : Heap} {o : Option Nat} (h : Heap.leBut o a b) (k : Heap.leBut o b c) : Heap.leBut o a c := ⟨Nat.le_trans h.1 k.1, fun id gen cs hne e => k.2 id gen cs hne (h.2 id gen cs hne e)⟩

theorem HeapOk.lt {h : Heap} (k : HeapOk h) {id gen : Nat} {cs : List AV} (e : h.at_ id gen = some cs) : id < h.next := by
  rw [at_look] at e
  apply Nat.lt_of_not_le
  intro hle
  rw [k id hle] at e; cases e

theorem Acc.len {h : Heap} {sz : Nat} {x : AV} {cells : List AV} (k : Acc h sz x cells) : ∃ n, aLen x = some n ∧ cells.length = n * sz := by
  cases k with
  | nils => exact ⟨0, rfl, by simp⟩
  | full n _ hl => exact ⟨n, rfl, hl⟩
  | sl id gen n _ hat hl => exact ⟨n, rfl, hl⟩

theorem Acc.ownLt {h : Heap} {sz : Nat} {x : AV} {cells : List AV} (ho : HeapOk h) (k : Acc h sz x cells) {id : Nat} (e : x.own = some id) : id < h.next := by
  cases k with
  | nils => cases e
  | full => cases e
  | sl id' gen n _ hat hl => cases e; exact ho.lt hat

theorem Acc.append {h : Heap} (ho : HeapOk h) {sz bt m n : Nat} (hsz : 0 < sz) {x y : AV} {cells new : List AV} {c : Cls} (k : Acc h sz x cells) (hm : aLen x = some m) (hy : aLen y = some n) (hc : sliceCells h sz n y = some (new, c))
    (hn : new.length = n * sz) (hb : (m + n) * bt ≤ 70368744177664) (hb2 : m + n ≤ 70368744177664) :
    ∃ x' h' c', aAppend h sz bt x y = some ⟨x', h', c'⟩ ∧ Acc h' sz x' (cells ++ new) ∧ Heap.leBut x.own h h' ∧ HeapOk h' ∧ (∀ id, x'.own = some id → x.own = some id ∨ h.next ≤ id) ∧ aLen x' = some (m + n) := by
  by_cases h0 : n = 0
  · subst h0
    have hnew : new = [] := List.length_eq_zero_iff.1 (by simpa using hn)
    subst hnew
    refine ⟨x, h, .none, ?_, by simpa using k, ⟨Nat.le_refl _, fun _ _ _ _ e => e⟩, ho, fun id e => .inl e, by simpa using hm⟩
    cases k <;> (unfold aAppend; rw [hy, Option.bind_some, hm, Option.bind_some, if_pos ⟨hb, hb2, hsz⟩, if_pos rfl])
  · have grow : ∀ (old : List AV) (c2 : Cls), sliceCells h sz m x = some (old, c2) → old = cells → x.own = none ∨ True →
        Acc (h.new (old ++ new)) sz (.sl h.next 0 0 sz (m + n) none) (cells ++ new) ∧ Heap.leBut x.own h (h.new (old ++ new)) ∧ HeapOk (h.new (old ++ new)) ∧
        (∀ id, (AV.sl h.next 0 0 sz (m + n) none).own = some id → x.own = some id ∨ h.next ≤ id) := by
      rintro old c2 hs rfl _
      obtain ⟨m', hm', hlc⟩ := k.len
      rw [hm] at hm'
      cases hm'
      refine ⟨.sl _ _ _ _ (at_new _) (by rw [List.length_append, hlc, hn, Nat.add_mul]), (le_new ho _).but _, ho.new _, fun id e => .inr ?_⟩
      simp only [AV.own, Option.some.injEq] at e
      omega
    cases k with
    | nils =>
      simp only [aLen_nils, Option.some.injEq] at hm
      subst hm
      obtain ⟨g1, g2, g3, g4⟩ := grow [] .none (by simp [sliceCells]) rfl (.inr trivial)
      refine ⟨_, _, .write, ?_, g1, g2, g3, g4, rfl⟩
      unfold aAppend
      rw [hy, Option.bind_some, aLen_nils, Option.bind_some, if_pos ⟨hb, hb2, hsz⟩, if_neg h0, hc]
      simp [sliceCells]
    | full m' _ hl =>
      simp only [aLen_fs, Option.some.injEq] at hm
      subst hm
      have hs : sliceCells h sz m' (.fs true m' cells) = some (cells, .none) := by
        simp [sliceCells, hl, List.take_of_length_le]
      obtain ⟨g1, g2, g3, g4⟩ := grow cells .none hs rfl (.inr trivial)
      refine ⟨_, _, .write, ?_, g1, g2, g3, g4, rfl⟩
      unfold aAppend
      rw [hy, Option.bind_some, aLen_fs, Option.bind_some, if_pos ⟨hb, hb2, hsz⟩, if_neg h0, hc]
      simp [hs]
    | sl id gen m' _ hat hl =>
      simp only [aLen_sl, Option.some.injEq] at hm
      subst hm
      have hpos : 0 < n * sz := Nat.mul_pos (by omega) hsz
      have hno : ¬ (0 + (m' + n) * sz ≤ cells.length) := by
        rw [hl, Nat.add_mul]; omega
      have hlk : h.look id = some ⟨gen, cells⟩ := at_look.1 hat
      refine ⟨.sl id (Nat.succ gen) 0 sz (m' + n) none, h.upd id (Nat.succ gen) (cells.drop 0 ++ new), .write, ?_, ?_, ?_, ho.upd hlk _ _, fun id' e => .inl e, rfl⟩
      · unfold aAppend
        rw [hy, Option.bind_some, aLen_sl, Option.bind_some, if_pos ⟨hb, hb2, hsz⟩, if_neg h0, hc]
        simp only [Option.bind_some, if_true, hat]
        rw [if_neg hno, if_pos (by rw [hl]; omega)]
      · refine .sl _ _ _ _ ?_ (by rw [List.length_append, hl, hn, Nat.add_mul])
        rw [at_look, look_upd, if_pos rfl]
        rfl
      · refine ⟨Nat.le_refl _, fun id' gen' cs' hne e => ?_⟩
        rw [at_look] at e ⊢
        rw [look_upd, if_neg (fun he => hne (by rw [he]; rfl))]
        exact e

theorem Bytes.leBut {h h' : Heap} {v : AV} {bs : List UInt8} {o : Option Nat} (k : Bytes h v bs) (hl : Heap.leBut o h h') (hne : ∀ id, v.own = some id → o ≠ some id) : Bytes h' v bs := by
  cases k with
  | nils => exact .nils
  | fs full => exact .fs full _
  | sl id gen off cap cs _ hat hle hc hcap => exact .sl id gen off cap cs _ (hl.2 _ _ _ (hne id rfl) hat) hle hc hcap

theorem Bytes.ownLt {h : Heap} {v : AV} {bs : List UInt8} (ho : HeapOk h) (k : Bytes h v bs) {id : Nat} (e : v.own = some id) : id < h.next := by
  cases k with
  | nils => cases e
  | fs => cases e
  | sl id' gen off cap cs _ hat hle hc hcap => cases e; exact ho.lt hat

theorem Acc.le {h h' : Heap} {sz : Nat} {x : AV} {cells : List AV} (k : Acc h sz x cells) (hl : h.le h') : Acc h' sz x cells := by
  cases k with
  | nils => exact .nils
  | full n _ hl => exact .full n _ hl
  | sl id gen n _ hat hl' => exact .sl id gen n _ (hl.2 _ _ _ hat) hl'
end Go.AM
