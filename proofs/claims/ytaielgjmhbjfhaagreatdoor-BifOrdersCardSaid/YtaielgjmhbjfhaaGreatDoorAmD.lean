/-
  A region that draws its order, as one step: what is behind it is not looked at meanwhile.
-/
import Derived.Test.YtaielgjmhbjfhaaGreatDoorAmMono
set_option linter.unusedSimpArgs false
set_option linter.unusedVariables false
namespace Go.AM
/-- a slice that is cut: within its length, else beyond it -/
def sliceO (h : Heap) (sz : Nat) (v : AV) (a b c : Option AV) : Option AV → Option OpRes
  | some v' => some ⟨v', h, .none⟩
  | none => aSliceH h sz v a b c
theorem sliceO_some {h : Heap} {sz : Nat} {v v' : AV} {a b c : Option AV} : sliceO h sz v a b c (some v') = some ⟨v', h, .none⟩ := id rfl
section
variable {E : Env} {σ : Slots} {h : Heap}
@[simp] theorem op_mv {x : Opd} : E.op σ h (.mv x) = (E.opd σ x).map fun v => ⟨v, h, .none⟩ := rfl
@[simp] theorem op_bin {o : BinOp} {x y : Opd} : E.op σ h (.bin o x y) = (E.opd σ x).bind fun a => (E.opd σ y).bind fun b => (aBin o a b).map fun v => ⟨v, h, .none⟩ := rfl
@[simp] theorem op_eq {ng : Bool} {e : EqT} {x y : Opd} : E.op σ h (.eq ng e x y) = (E.opd σ x).bind fun a => (E.opd σ y).bind fun b => (aEq e a b).map fun r => ⟨.bool (negIf ng r), h, .none⟩ := rfl
@[simp] theorem op_un {o : UnOp} {x : Opd} : E.op σ h (.un o x) = (E.opd σ x).bind fun a => (aUn o a).map fun v => ⟨v, h, .none⟩ := rfl
@[simp] theorem op_conv {c : CvT} {x : Opd} : E.op σ h (.conv c x) = (E.opd σ x).bind (aConv h c) := rfl
@[simp] theorem op_load {ag : Bool} {sz : Nat} {x : Opd} : E.op σ h (.load ag sz x) = (E.opd σ x).bind (aLoad h ag sz) := rfl
@[simp] theorem op_store {sz : Nat} {x v : Opd} : E.op σ h (.store sz x v) = (E.opd σ x).bind fun a => (E.opd σ v).bind fun b => aStore h sz a b := rfl
@[simp] theorem op_slice {sz : Nat} {x : Opd} {lo hi mx : Option Opd} : E.op σ h (.slice sz x lo hi mx) = (E.opd σ x).bind fun v => (E.opdo σ lo).bind fun a => (E.opdo σ hi).bind fun b => (E.opdo σ mx).bind fun c => sliceO h sz v a b c (aSlice sz v a b c) := by
  simp only [Env.op]
  cases E.opd σ x with
  | none => rfl
  | some v =>
    cases E.opdo σ lo with
    | none => rfl
    | some a =>
      cases E.opdo σ hi with
      | none => rfl
      | some b =>
        cases E.opdo σ mx with
        | none => rfl
        | some c =>
          simp only [Option.bind_some]
          cases aSlice sz v a b c <;> rfl
@[simp] theorem op_append {sz bt : Nat} {x y : Opd} : E.op σ h (.append sz bt x y) = (E.opd σ x).bind fun a => (E.opd σ y).bind fun b => aAppend h sz bt a b := rfl
@[simp] theorem op_idxAddr {sz : Nat} {x i : Opd} : E.op σ h (.idxAddr sz x i) = (E.opd σ x).bind fun a => (E.opd σ i).bind fun b => (aIdxAddr sz a b).map fun v => ⟨v, h, .none⟩ := rfl
@[simp] theorem op_lit {fr : Bool} {sz len : Nat} {cells : List AV} {ps : List (Nat × Nat × Opd)} : E.op σ h (.lit fr sz len cells ps) = (E.parts σ ps).bind fun l => (aFill cells l).bind fun cs => if cs.length = len * sz then
      match fr with
      | true => some ⟨.fs true len cs, h, .none⟩
      | false => some ⟨.sl h.next 0 0 sz len (some len), h.new cs, .write⟩
    else none := rfl
@[simp] theorem op_build {z : List AV} {ps : List (Nat × Nat × Opd)} : E.op σ h (.build z ps) = (E.parts σ ps).bind fun l => (aFill z l).map fun cs => ⟨.agg cs, h, .none⟩ := rfl
@[simp] theorem op_box {fr : Bool} {sz : Nat} {x : Opd} : E.op σ h (.box fr sz x) = (E.opd σ x).bind fun v => v.row.bind fun vs => if vs.length = sz then
      match fr with
      | true => some ⟨.fp vs, h, .none⟩
      | false => some ⟨.ptr h.next 0 0, h.new vs, .write⟩
    else none := rfl
@[simp] theorem op_alloc {z : List AV} : E.op σ h (.alloc z) = some ⟨.ptr h.next 0 0, h.new z, .write⟩ := rfl
@[simp] theorem op_mkIface {t : TypeId} {x : Opd} : E.op σ h (.mkIface t x) = (E.opd σ x).map fun v => ⟨.ifc t v, h, .none⟩ := rfl
@[simp] theorem op_pick {c a b : Opd} : E.op σ h (.pick c a b) = (E.opd σ c).bind fun
    | .bool true => (E.opd σ a).map fun v => ⟨v, h, .none⟩
    | .bool false => (E.opd σ b).map fun v => ⟨v, h, .none⟩
    | _ => none := rfl
@[simp] theorem opdo_none : E.opdo σ none = some none := rfl
@[simp] theorem opdo_some {x : Opd} : E.opdo σ (some x) = (E.opd σ x).map some := rfl
@[simp] theorem opds_nil : E.opds σ [] = some [] := rfl
@[simp] theorem opds_cons {x : Opd} {xs : List Opd} : E.opds σ (x :: xs) = (E.opd σ x).bind fun v => (E.opds σ xs).map fun vs => v :: vs := rfl
@[simp] theorem parts_nil : E.parts σ [] = some [] := rfl
@[simp] theorem parts_cons {i s : Nat} {x : Opd} {xs : List (Nat × Nat × Opd)} : E.parts σ ((i, s, x) :: xs) = (E.opd σ x).bind fun v => (E.parts σ xs).map fun vs => (i, s, v) :: vs := rfl
end
/-- the object in which a slice lies -/
def AV.own : AV → Option Nat
  | .sl id _ _ _ _ _ => some id
  | _ => none
inductive Bytes (h : Heap) : AV → List UInt8 → Prop
  | nils : Bytes h .nils []
  | fs (full : Bool) (bs : List UInt8) : Bytes h (.fs full bs.length (bs.map byteAV)) bs
  | sl (id gen off : Nat) (cap : Option Nat) (cs : List AV) (bs : List UInt8) (hat : h.at_ id gen = some cs) (hle : off + bs.length ≤ cs.length) (hc : (cs.drop off).take bs.length = bs.map byteAV) (hcap : ∀ c, cap = some c → bs.length ≤ c) :
      Bytes h (.sl id gen off 1 bs.length cap) bs
@[simp] theorem toByte_byteAV (b : UInt8) : toByte (byteAV b) = some b := by
  simp [toByte, byteAV]
theorem mapM_toByte : ∀ (bs : List UInt8), (bs.map byteAV).mapM toByte = some bs
  | [] => rfl
  | b :: bs => by
    rw [List.map_cons, List.mapM_cons, mapM_toByte bs, toByte_byteAV]
    rfl
section
variable {h : Heap} {v : AV} {bs : List UInt8}
theorem Bytes.len (k : Bytes h v bs) : aLen v = some bs.length := by
  cases k <;> rfl
theorem Bytes.cells (k : Bytes h v bs) : ∃ c, c ≠ .write ∧ sliceCells h 1 bs.length v = some (bs.map byteAV, c) := by
  cases k with
  | nils => exact ⟨.none, by simp, rfl⟩
  | fs full => exact ⟨.none, by simp, by simp [sliceCells, List.take_of_length_le]⟩
  | sl id gen off cap cs _ hat hle hc hcap => exact ⟨.read, by simp, by simp [sliceCells, hat, hle, hc]⟩
theorem Bytes.b2s (k : Bytes h v bs) : ∃ c, c ≠ .write ∧ aConv h .b2s v = some ⟨.str bs, h, c⟩ := by
  obtain ⟨c, hc, hs⟩ := k.cells
  refine ⟨c, hc, ?_⟩
  have hl := k.len
  have : aConv h .b2s v = (aLen v).bind fun n => (sliceCells h 1 n v).bind fun (cs, k) => (cs.mapM toByte).map fun bs => ⟨.str bs, h, k⟩ := by
    cases k <;> rfl
  rw [this, hl, Option.bind_some, hs]
  simp only [Option.bind_some, mapM_toByte, Option.map_some]
/-- the heap has grown: nothing that was is gone -/
def Heap.le (h h' : Heap) : Prop := h.next ≤ h'.next ∧ ∀ id gen cs, h.at_ id gen = some cs → h'.at_ id gen = some cs
theorem Bytes.le {h' : Heap} (k : Bytes h v bs) (hl : h.le h') : Bytes h' v bs := by
  cases k with
  | nils => exact .nils
  | fs full => exact .fs full _
  | sl id gen off cap cs _ hat hle hc hcap => exact .sl id gen off cap cs _ (hl.2 _ _ _ hat) hle hc hcap
end
theorem sbound_ok {y : Nat} {k : IntKind} {i : Nat} (h1 : i ≤ y) : sbound y (.int k i) = some i := by
  have h0 : (0 : Int) ≤ i := Int.natCast_nonneg i
  have h2 : (i : Int) ≤ y := by exact_mod_cast h1
  simp [sbound, h0, h2]
theorem bounds_from {len cap l : Nat} {k : IntKind} (h1 : l ≤ len) : bounds len cap (some (.int k l)) none none = some (l, len, cap) := by
  simp [bounds, sbound_ok h1]
theorem bounds_to {len cap u : Nat} {k : IntKind} (h1 : u ≤ cap) : bounds len cap none (some (.int k u)) none = some (0, u, cap) := by
  simp [bounds, sbound_ok h1]
theorem take_drop_take {α : Type} (cs : List α) (off n l u : Nat) (h1 : l ≤ u) (h2 : u ≤ n) : (cs.drop (off + l)).take (u - l) = (((cs.drop off).take n).drop l).take (u - l) := by
  rw [List.drop_take, List.take_take, List.drop_drop]
  congr 1
  omega
section
variable {h : Heap} {v : AV} {bs : List UInt8}
/-- is a part's room known? -/
def partFull (full : Bool) (n u m : Nat) : Option AV → Bool
  | some _ => m == u
  | none => full && u == n
theorem aSlice_fs {sz n l u m : Nat} {full : Bool} {cs : List AV} {lo hi mx : Option AV} (hl : cs.length = n * sz) (hm : bounds n n lo hi mx = some (l, u, m)) :
    aSlice sz (.fs full n cs) lo hi mx = some (.fs (partFull full n u m mx) (u - l) ((cs.drop (l * sz)).take ((u - l) * sz))) := by
  unfold aSlice
  dsimp only
  rw [if_pos hl, hm]
  cases mx <;> rfl
/-- the part of a slice from l to u, whatever of its room goes with it -/
theorem Bytes.part (k : Bytes h v bs) {lo hi mx : Option AV} {l u : Nat} (h1 : l ≤ u) (h2 : u ≤ bs.length)
    (hb : ∀ cap, bs.length ≤ cap → ∃ m, u ≤ m ∧ m ≤ cap ∧ bounds bs.length cap lo hi mx = some (l, u, m)) :
    ∃ v', aSlice 1 v lo hi mx = some v' ∧ Bytes h v' ((bs.drop l).take (u - l)) := by
  have hlen : ((bs.drop l).take (u - l)).length = u - l := by simp; omega
  cases k with
  | nils =>
    obtain ⟨m, m1, m2, hm⟩ := hb 0 (by simp)
    simp only [List.length_nil] at hm
    refine ⟨.nils, by simp [aSlice, hm], ?_⟩
    simp only [List.drop_nil, List.take_nil]
    exact .nils
  | fs full =>
    obtain ⟨m, m1, m2, hm⟩ := hb bs.length (Nat.le_refl _)
    have hs := aSlice_fs (sz := 1) (full := full) (cs := bs.map byteAV) (by simp) hm
    refine ⟨_, hs, ?_⟩
    have := Bytes.fs (h := h) (partFull full bs.length u m mx) ((bs.drop l).take (u - l))
    rw [hlen] at this
    simpa [List.map_take, List.map_drop] using this
  | sl id gen off cap cs _ hat hle hc hcap =>
    have key : ∀ cap', (∀ c, cap' = some c → u - l ≤ c) → Bytes h (.sl id gen (off + l * 1) 1 (u - l) cap') ((bs.drop l).take (u - l)) := by
      intro cap' hcap'
      have := Bytes.sl (h := h) id gen (off + l * 1) cap' cs ((bs.drop l).take (u - l)) hat (by rw [hlen]; omega) (by
        rw [hlen, Nat.mul_one, take_drop_take cs off bs.length l u h1 h2, hc]
        simp [List.map_take, List.map_drop]) (by rw [hlen]; exact hcap')
      rw [hlen] at this
      exact this
    cases cap with
    | some c =>
      obtain ⟨m, m1, m2, hm⟩ := hb c (hcap c rfl)
      have hs : aSlice 1 (.sl id gen off 1 bs.length (some c)) lo hi mx = some (.sl id gen (off + l * 1) 1 (u - l) (some (m - l))) := by
        unfold aSlice
        dsimp only
        rw [if_pos rfl, hm]
        rfl
      exact ⟨_, hs, key _ (fun c' e => by simp only [Option.some.injEq] at e; omega)⟩
    | none =>
      obtain ⟨m, m1, m2, hm⟩ := hb bs.length (Nat.le_refl _)
      have hs : aSlice 1 (.sl id gen off 1 bs.length none) lo hi mx = some (.sl id gen (off + l * 1) 1 (u - l) (mx.map fun _ => m - l)) := by
        unfold aSlice
        dsimp only
        rw [if_pos rfl, hm]
        rfl
      refine ⟨_, hs, key _ (fun c' e => ?_)⟩
      cases mx with
      | none => cases e
      | some x => simp only [Option.map_some, Option.some.injEq] at e; omega
theorem Bytes.from (k : Bytes h v bs) {kd : IntKind} {l : Nat} (h1 : l ≤ bs.length) : ∃ v', aSlice 1 v (some (.int kd l)) none none = some v' ∧ Bytes h v' (bs.drop l) := by
  obtain ⟨v', g1, g2⟩ := k.part (lo := some (.int kd l)) (hi := none) (mx := none) h1 (Nat.le_refl _) (fun cap hc => ⟨cap, hc, Nat.le_refl _, bounds_from h1⟩)
  refine ⟨v', g1, ?_⟩
  rwa [List.take_of_length_le (by simp)] at g2
theorem Bytes.to (k : Bytes h v bs) {kd : IntKind} {u : Nat} (h1 : u ≤ bs.length) : ∃ v', aSlice 1 v none (some (.int kd u)) none = some v' ∧ Bytes h v' (bs.take u) := by
  obtain ⟨v', g1, g2⟩ := k.part (lo := none) (hi := some (.int kd u)) (mx := none) (l := 0) (Nat.zero_le _) h1 (fun cap hc => ⟨cap, by omega, Nat.le_refl _, bounds_to (by omega)⟩)
  exact ⟨v', g1, by simpa using g2⟩
/-- an element of it -/
theorem Bytes.elem (k : Bytes h v bs) {kd : IntKind} {i : Nat} (hi : i < bs.length) : ∃ p c, aIdxAddr 1 v (.int kd i) = some p ∧ aLoad h false 1 p = some ⟨byteAV (bs.getD i 0), h, c⟩ ∧ c ≠ .write := by
  have hidx : aIndex bs.length (.int kd i) = some i := by
    have h0 : (0 : Int) ≤ i := Int.natCast_nonneg i
    have h2 : (i : Int) < bs.length := by exact_mod_cast hi
    simp [aIndex, h0, h2]
  have hget : bs[i]? = some (bs.getD i 0) := by
    rw [List.getD_eq_getElem?_getD, List.getElem?_eq_getElem hi]; rfl
  cases k with
  | nils => simp at hi
  | fs full =>
    cases hbs : bs.map byteAV with
    | nil => simp at hbs; subst hbs; simp at hi
    | cons a l =>
      refine ⟨.fp ((bs.map byteAV).drop (i * 1)), .none, by simp [aIdxAddr, hbs, hidx], ?_, by simp⟩
      simp only [aLoad, ldCells, Nat.mul_one, List.head?_drop, List.getElem?_map, hget, Option.map_some]
  | sl id gen off cap cs _ hat hle hc hcap =>
    refine ⟨.ptr id gen (off + i * 1), .read, by simp [aIdxAddr, hidx], ?_, by simp⟩
    have : cs[off + i]? = some (byteAV (bs.getD i 0)) := by
      have h3 : ((cs.drop off).take bs.length)[i]? = some (byteAV (bs.getD i 0)) := by
        rw [hc, List.getElem?_map, hget]; rfl
      rw [List.getElem?_take, if_pos hi, List.getElem?_drop] at h3
      exact h3
    simp only [aLoad, hat, Option.bind_some, ldCells, Nat.mul_one, List.head?_drop, this, Option.map_some]
end
/-- nobody lies beyond its end -/
def HeapOk (h : Heap) : Prop := ∀ id, h.next ≤ id → h.look id = none
theorem HeapOk.empty : HeapOk .empty := fun id _ => rfl
theorem at_look {h : Heap} {id gen : Nat} {cs : List AV} : h.at_ id gen = some cs ↔ h.look id = some ⟨gen, cs⟩ := by
  unfold Heap.at_ Heap.look
  constructor
  · intro e
    cases ho : h.tr.get id with
    | none => rw [ho] at e; cases e
    | some o =>
      rw [ho] at e
      dsimp only at e
      cases hb : Nat.beq o.gen gen with
      | false => rw [hb] at e; cases e
      | true =>
        rw [hb] at e
        have := Nat.eq_of_beq_eq_true hb
        obtain ⟨g, c⟩ := o
        cases this
        cases e
        rfl
  · intro e
    rw [e]
    dsimp only
    rw [Nat.beq_refl]
theorem look_new (h : Heap) (cs : List AV) (id : Nat) : (h.new cs).look id = if id = h.next then some ⟨0, cs⟩ else h.look id := by
  simp only [Heap.look, Heap.new, Tr.get_set]
theorem look_upd (h : Heap) (id gen : Nat) (cs : List AV) (id' : Nat) : (h.upd id gen cs).look id' = if id' = id then some ⟨gen, cs⟩ else h.look id' := by
  simp only [Heap.look, Heap.upd, Tr.get_set]
theorem HeapOk.new {h : Heap} (k : HeapOk h) (cs : List AV) : HeapOk (h.new cs) := by
  intro id hid
  have h1 : Nat.succ h.next ≤ id := hid
  rw [look_new, if_neg (by omega)]
  exact k id (by omega)
theorem HeapOk.upd {h : Heap} (k : HeapOk h) {id : Nat} {o : AObj} (hl : h.look id = some o) (gen : Nat) (cs : List AV) : HeapOk (h.upd id gen cs) := by
  intro id' hid
  have h1 : h.next ≤ id' := hid
  rw [look_upd, if_neg (fun e => by subst e; rw [k _ h1] at hl; cases hl)]
  exact k id' h1
theorem le_new {h : Heap} (k : HeapOk h) (cs : List AV) : h.le (h.new cs) := by
  refine ⟨Nat.le_succ _, fun id gen cs' hat => ?_⟩
  rw [at_look] at hat ⊢
  rw [look_new, if_neg (fun e => by subst e; rw [k _ (Nat.le_refl _)] at hat; cases hat)]
  exact hat
theorem at_new {h : Heap} (cs : List AV) : (h.new cs).at_ h.next 0 = some cs := by
  rw [at_look, look_new, if_pos rfl]
theorem Heap.le_refl (h : Heap) : h.le h := ⟨Nat.le_refl _, fun _ _ _ e => e⟩
theorem Heap.le_trans {a b c : Heap} (h : a.le b) (k : b.le c) : a.le c := ⟨Nat.le_trans h.1 k.1, fun id gen cs e => k.2 id gen cs (h.2 id gen cs e)⟩
theorem aLen_fs {f : Bool} {n : Nat} {cs : List AV} : aLen (.fs f n cs) = some n := rfl
theorem aLen_nils : aLen .nils = some 0 := rfl
theorem aLen_sl {a b c d e : Nat} {f : Option Nat} : aLen (.sl a b c d e f) = some e := rfl
theorem Bytes.row {h : Heap} {v : AV} {bs : List UInt8} (k : Bytes h v bs) : v.row = some [v] := by
  cases k <;> rfl
inductive Acc (h : Heap) (sz : Nat) : AV → List AV → Prop
  | nils : Acc h sz .nils []
  | full (n : Nat) (cells : List AV) (hl : cells.length = n * sz) : Acc h sz (.fs true n cells) cells
  | sl (id gen n : Nat) (cells : List AV) (hat : h.at_ id gen = some cells) (hl : cells.length = n * sz) : Acc h sz (.sl id gen 0 sz n none) cells
def Heap.leBut (o : Option Nat) (h h' : Heap) : Prop := h.next ≤ h'.next ∧ ∀ id gen cs, o ≠ some id → h.at_ id gen = some cs → h'.at_ id gen = some cs
theorem Heap.le.but {h h' : Heap} (k : h.le h') (o : Option Nat) : Heap.leBut o h h' := ⟨k.1, fun id gen cs _ e => k.2 id gen cs e⟩
theorem Heap.leBut.trans {a b c : Heap} {o : Option Nat} (h : Heap.leBut o a b) (k : Heap.leBut o b c) : Heap.leBut o a c := ⟨Nat.le_trans h.1 k.1, fun id gen cs hne e => k.2 id gen cs hne (h.2 id gen cs hne e)⟩
theorem HeapOk.lt {h : Heap} (k : HeapOk h) {id gen : Nat} {cs : List AV} (e : h.at_ id gen = some cs) : id < h.next := by
  rw [at_look] at e
  apply Nat.lt_of_not_le
  intro hle
  rw [k id hle] at e; cases e
theorem Acc.len {h : Heap} {sz : Nat} {x : AV} {cells : List AV} (k : Acc h sz x cells) : ∃ n, aLen x = some n ∧ cells.length = n * sz := by
  cases k with
  | nils => exact ⟨0, rfl, by simp⟩
  | full n _ hl => exact ⟨n, rfl, hl⟩
  | sl id gen n _ hat hl => exact ⟨n, rfl, hl⟩
theorem Acc.ownLt {h : Heap} {sz : Nat} {x : AV} {cells : List AV} (ho : HeapOk h) (k : Acc h sz x cells) {id : Nat} (e : x.own = some id) : id < h.next := by
  cases k with
  | nils => cases e
  | full => cases e
  | sl id' gen n _ hat hl => cases e; exact ho.lt hat
theorem Acc.append {h : Heap} (ho : HeapOk h) {sz bt m n : Nat} (hsz : 0 < sz) {x y : AV} {cells new : List AV} {c : Cls} (k : Acc h sz x cells) (hm : aLen x = some m) (hy : aLen y = some n) (hc : sliceCells h sz n y = some (new, c))
    (hn : new.length = n * sz) (hb : (m + n) * bt ≤ 70368744177664) (hb2 : m + n ≤ 70368744177664) :
    ∃ x' h' c', aAppend h sz bt x y = some ⟨x', h', c'⟩ ∧ Acc h' sz x' (cells ++ new) ∧ Heap.leBut x.own h h' ∧ HeapOk h' ∧ (∀ id, x'.own = some id → x.own = some id ∨ h.next ≤ id) ∧ aLen x' = some (m + n) := by
  by_cases h0 : n = 0
  · subst h0
    have hnew : new = [] := List.length_eq_zero_iff.1 (by simpa using hn)
    subst hnew
    refine ⟨x, h, .none, ?_, by simpa using k, ⟨Nat.le_refl _, fun _ _ _ _ e => e⟩, ho, fun id e => .inl e, by simpa using hm⟩
    cases k <;> (unfold aAppend; rw [hy, Option.bind_some, hm, Option.bind_some, if_pos ⟨hb, hb2, hsz⟩, if_pos rfl])
  · have grow : ∀ (old : List AV) (c2 : Cls), sliceCells h sz m x = some (old, c2) → old = cells → x.own = none ∨ True →
        Acc (h.new (old ++ new)) sz (.sl h.next 0 0 sz (m + n) none) (cells ++ new) ∧ Heap.leBut x.own h (h.new (old ++ new)) ∧ HeapOk (h.new (old ++ new)) ∧
        (∀ id, (AV.sl h.next 0 0 sz (m + n) none).own = some id → x.own = some id ∨ h.next ≤ id) := by
      rintro old c2 hs rfl _
      obtain ⟨m', hm', hlc⟩ := k.len
      rw [hm] at hm'
      cases hm'
      refine ⟨.sl _ _ _ _ (at_new _) (by rw [List.length_append, hlc, hn, Nat.add_mul]), (le_new ho _).but _, ho.new _, fun id e => .inr ?_⟩
      simp only [AV.own, Option.some.injEq] at e
      omega
    cases k with
    | nils =>
      simp only [aLen_nils, Option.some.injEq] at hm
      subst hm
      obtain ⟨g1, g2, g3, g4⟩ := grow [] .none (by simp [sliceCells]) rfl (.inr trivial)
      refine ⟨_, _, .write, ?_, g1, g2, g3, g4, rfl⟩
      unfold aAppend
      rw [hy, Option.bind_some, aLen_nils, Option.bind_some, if_pos ⟨hb, hb2, hsz⟩, if_neg h0, hc]
      simp [sliceCells]
    | full m' _ hl =>
      simp only [aLen_fs, Option.some.injEq] at hm
      subst hm
      have hs : sliceCells h sz m' (.fs true m' cells) = some (cells, .none) := by
        simp [sliceCells, hl, List.take_of_length_le]
      obtain ⟨g1, g2, g3, g4⟩ := grow cells .none hs rfl (.inr trivial)
      refine ⟨_, _, .write, ?_, g1, g2, g3, g4, rfl⟩
      unfold aAppend
      rw [hy, Option.bind_some, aLen_fs, Option.bind_some, if_pos ⟨hb, hb2, hsz⟩, if_neg h0, hc]
      simp [hs]
    | sl id gen m' _ hat hl =>
      simp only [aLen_sl, Option.some.injEq] at hm
      subst hm
      have hpos : 0 < n * sz := Nat.mul_pos (by omega) hsz
      have hno : ¬ (0 + (m' + n) * sz ≤ cells.length) := by
        rw [hl, Nat.add_mul]; omega
      have hlk : h.look id = some ⟨gen, cells⟩ := at_look.1 hat
      refine ⟨.sl id (Nat.succ gen) 0 sz (m' + n) none, h.upd id (Nat.succ gen) (cells.drop 0 ++ new), .write, ?_, ?_, ?_, ho.upd hlk _ _, fun id' e => .inl e, rfl⟩
      · unfold aAppend
        rw [hy, Option.bind_some, aLen_sl, Option.bind_some, if_pos ⟨hb, hb2, hsz⟩, if_neg h0, hc]
        simp only [Option.bind_some, if_true, hat]
        rw [if_neg hno, if_pos (by rw [hl]; omega)]
      · refine .sl _ _ _ _ ?_ (by rw [List.length_append, hl, hn, Nat.add_mul])
        rw [at_look, look_upd, if_pos rfl]
        rfl
      · refine ⟨Nat.le_refl _, fun id' gen' cs' hne e => ?_⟩
        rw [at_look] at e ⊢
        rw [look_upd, if_neg (fun he => hne (by rw [he]; rfl))]
        exact e
theorem Bytes.leBut {h h' : Heap} {v : AV} {bs : List UInt8} {o : Option Nat} (k : Bytes h v bs) (hl : Heap.leBut o h h') (hne : ∀ id, v.own = some id → o ≠ some id) : Bytes h' v bs := by
  cases k with
  | nils => exact .nils
  | fs full => exact .fs full _
  | sl id gen off cap cs _ hat hle hc hcap => exact .sl id gen off cap cs _ (hl.2 _ _ _ (hne id rfl) hat) hle hc hcap
theorem Bytes.ownLt {h : Heap} {v : AV} {bs : List UInt8} (ho : HeapOk h) (k : Bytes h v bs) {id : Nat} (e : v.own = some id) : id < h.next := by
  cases k with
  | nils => cases e
  | fs => cases e
  | sl id' gen off cap cs _ hat hle hc hcap => cases e; exact ho.lt hat
theorem Acc.le {h h' : Heap} {sz : Nat} {x : AV} {cells : List AV} (k : Acc h sz x cells) (hl : h.le h') : Acc h' sz x cells := by
  cases k with
  | nils => exact .nils
  | full n _ hl => exact .full n _ hl
  | sl id gen n _ hat hl' => exact .sl id gen n _ (hl.2 _ _ _ hat) hl'
end Go.AM

set_option linter.unusedVariables false
set_option linter.unusedSimpArgs false
namespace Go.AM
theorem at_upd {h : Heap} {id gen : Nat} {cs : List AV} : (h.upd id gen cs).at_ id gen = some cs := by
  rw [at_look, look_upd, if_pos rfl]
theorem at_upd_ne {h : Heap} {id gen id' gen' : Nat} {cs : List AV} (hne : id' ≠ id) : (h.upd id gen cs).at_ id' gen' = h.at_ id' gen' := by
  cases ha : h.at_ id' gen' with
  | some c => rw [at_look] at ha ⊢; rw [look_upd, if_neg hne]; exact ha
  | none =>
    cases hb : (h.upd id gen cs).at_ id' gen' with
    | none => rfl
    | some c =>
      rw [at_look, look_upd, if_neg hne] at hb
      rw [at_look.2 hb] at ha; cases ha
theorem wrap_small {n : Nat} (h : n < 9223372036854775808) : IntKind.wrap .i64 (n : Int) = n := by
  have h0 : (0 : Int) ≤ n := Int.natCast_nonneg n
  have h1 : (n : Int) < 9223372036854775808 := by omega
  have e : (n : Int) % 18446744073709551616 = n := by omega
  show (if (true && decide ((n : Int) % 18446744073709551616 ≥ 9223372036854775808)) = true then (n : Int) % 18446744073709551616 - 18446744073709551616 else (n : Int) % 18446744073709551616) = n
  rw [e, if_neg]
  simp only [Bool.true_and, decide_eq_true_eq]
  omega
theorem wrap_nat {e : Int} {n : Nat} (h : e = n) (hn : n < 9223372036854775808) : IntKind.wrap .i64 e = n := by
  rw [h]; exact wrap_small hn
theorem Acc.row {h : Heap} {sz : Nat} {x : AV} {cells : List AV} (k : Acc h sz x cells) : x.row = some [x] := by
  cases k <;> rfl
/-- all but these objects are kept -/
def Chg (S : Nat → Prop) (h h' : Heap) : Prop := h.next ≤ h'.next ∧ ∀ id gen cs, ¬ S id → h.at_ id gen = some cs → h'.at_ id gen = some cs
theorem Chg.refl {S : Nat → Prop} {h : Heap} : Chg S h h := ⟨Nat.le_refl _, fun _ _ _ _ e => e⟩
theorem Chg.trans {S : Nat → Prop} {a b c : Heap} (x : Chg S a b) (y : Chg S b c) : Chg S a c := ⟨Nat.le_trans x.1 y.1, fun id gen cs n e => y.2 id gen cs n (x.2 id gen cs n e)⟩
theorem Chg.mono {S T : Nat → Prop} {a b : Heap} (x : Chg S a b) (h : ∀ i, S i → T i) : Chg T a b := ⟨x.1, fun id gen cs n e => x.2 id gen cs (fun s => n (h id s)) e⟩
theorem Heap.le.chg {S : Nat → Prop} {a b : Heap} (x : a.le b) : Chg S a b := ⟨x.1, fun id gen cs _ e => x.2 id gen cs e⟩
theorem Heap.leBut.chg {S : Nat → Prop} {o : Option Nat} {a b : Heap} (x : Heap.leBut o a b) (hs : ∀ i, o = some i → S i) : Chg S a b := ⟨x.1, fun id gen cs n e => x.2 id gen cs (fun e2 => n (hs id e2)) e⟩
theorem upd_chg {S : Nat → Prop} {h : Heap} {id gen : Nat} {cs : List AV} (hs : S id) : Chg S h (h.upd id gen cs) :=
  ⟨Nat.le_refl _, fun id' gen' cs' hne e => by rw [at_upd_ne (fun e2 => hne (by rw [e2]; exact hs))]; exact e⟩
theorem Acc.chg {h h' : Heap} {sz : Nat} {x : AV} {cells : List AV} {S : Nat → Prop} (k : Acc h sz x cells) (hl : Chg S h h') (hne : ∀ id, x.own = some id → ¬ S id) : Acc h' sz x cells := by
  cases k with
  | nils => exact .nils
  | full n _ hl => exact .full n _ hl
  | sl id gen n _ hat hl' => exact .sl id gen n _ (hl.2 _ _ _ (hne id rfl) hat) hl'
theorem Bytes.chg {h h' : Heap} {v : AV} {bs : List UInt8} {S : Nat → Prop} (k : Bytes h v bs) (hl : Chg S h h') (hne : ∀ id, v.own = some id → ¬ S id) : Bytes h' v bs := by
  cases k with
  | nils => exact .nils
  | fs full => exact .fs full _
  | sl id gen off cap cs _ hat hle hc hcap => exact .sl id gen off cap cs _ (hl.2 _ _ _ (hne id rfl) hat) hle hc hcap
theorem Acc.toBytes {h : Heap} {v : AV} {bs : List UInt8} (k : Acc h 1 v (bs.map byteAV)) : Bytes h v bs := by
  generalize hc : bs.map byteAV = cells at k
  cases k with
  | nils =>
    simp at hc; subst hc; exact .nils
  | full n _ hl =>
    subst hc
    have : n = bs.length := by simp at hl; omega
    subst this
    exact .fs true bs
  | sl id gen n _ hat hl =>
    subst hc
    have : n = bs.length := by simp at hl; omega
    subst this
    exact .sl id gen 0 none _ bs hat (by simp) (by simp [List.take_of_length_le]) (fun c e => by cases e)
theorem row_byte (b : UInt8) : (byteAV b).row = some [byteAV b] := rfl
theorem Bytes.set {h : Heap} {v : AV} {bs : List UInt8} (ho : HeapOk h) (k : Bytes h v bs) {i : Nat} (hi : i < bs.length) (hne : v.own ≠ none) (b : UInt8) :
    ∃ p h', aIdxAddr 1 v (.int .i64 i) = some p ∧ aStore h 1 p (byteAV b) = some ⟨.undef, h', .write⟩ ∧ HeapOk h' ∧ Bytes h' v (bs.set i b) ∧ Chg (fun j => v.own = some j) h h' := by
  have hidx : aIndex bs.length (.int .i64 i) = some i := by
    have h0 : (0 : Int) ≤ i := Int.natCast_nonneg i
    have h2 : (i : Int) < bs.length := by exact_mod_cast hi
    simp [aIndex, h0, h2]
  cases k with
  | nils => simp at hi
  | fs full => exact absurd rfl hne
  | sl id gen off cap cs _ hat hle hc hcap =>
    refine ⟨.ptr id gen (off + i * 1), h.upd id gen (cs.set (off + i) (byteAV b)), by simp [aIdxAddr, hidx], ?_, ho.upd (at_look.1 hat) _ _, ?_, upd_chg rfl⟩
    · have hs : splice cs (off + i * 1) [byteAV b] = cs.set (off + i) (byteAV b) := by
        rw [List.set_eq_take_append_cons_drop, if_pos (by omega)]
        simp [splice]
      simp only [aStore, hat, Option.bind_some, row_byte, hs]
      rw [if_pos ⟨rfl, by omega⟩]
    · have := Bytes.sl (h := h.upd id gen (cs.set (off + i) (byteAV b))) id gen off cap (cs.set (off + i) (byteAV b)) (bs.set i b) at_upd (by simpa using hle) (by
        rw [List.length_set, List.drop_set, if_neg (by omega), List.take_set, hc, show off + i - off = i by omega, List.map_set]) (by simpa using hcap)
      rwa [List.length_set] at this
theorem ex0 (a b : AV) : ([a, b] : List AV)[0]? = some a := rfl
theorem ex1 (a b : AV) : ([a, b] : List AV)[1]? = some b := rfl
theorem eq_nil : aEq (.iface true) .nili .nili = some true := rfl
theorem eq_self (bs : List UInt8) : (bs == bs) = true := by simp
theorem op_minmax {E : Env} {σ : Slots} {h : Heap} {m : Bool} {x y : Opd} : E.op σ h (.minmax m x y) = (E.opd σ x).bind fun a => (E.opd σ y).bind fun b => (aMinMax m a b).map fun v => ⟨v, h, .none⟩ := rfl
theorem aNil_ptr {id gen off : Nat} : aNil (.ptr id gen off) = some (.ptr id gen off) := rfl
end Go.AM

set_option linter.unusedVariables false
set_option maxRecDepth 20000
namespace Go.AM
theorem s3 : type_of% (And.intro (@wpc_skip) (And.intro (@wpc_ops) (And.intro (@wpc_seq) (And.intro (@wpc_cond) (And.intro (@wpc_block) (And.intro (@wpc_loop) (And.intro (@wpc_exit) (And.intro (@wpc_scope) (And.intro (@wpc_ret) (And.intro (@seqQ_norm) (And.intro (@seqQ_ret) (And.intro (@seqQ_exit) (And.intro (@blockQ'_norm) (And.intro (@blockQ'_ret) (And.intro (@blockQ'_exit) (And.intro (@roundQ_norm) (And.intro (@roundQ_ret) (And.intro (@roundQ_exit) (And.intro (@condK_true) (And.intro (@condK_false) (And.intro (@wpo_nil') (And.intro (@wpo_none) (And.intro (@wpo_tt) (And.intro (@wpo_ff) (And.intro (@wpo_tf) (And.intro (@wpo_ft) (And.intro (@opsK_c) (And.intro (@isC_none) (And.intro (@isC_read) (And.intro (@isC_write) (And.intro (@wp1_call) (And.intro (@callK_ret) (And.intro (@wp1_mv') (And.intro (@wp1_bin') (And.intro (@wp1_un') (And.intro (@wp1_eq') (And.intro (@wp1_extract') (And.intro (@wp1_pick') (And.intro (@wp1_len') (And.intro (@wp1_load') (And.intro (@wp1_conv') (And.intro (@wp1_store') (And.intro (@wp1_idxAddr') (And.intro (@wp1_append') (And.intro (@wp1_mkIface') (And.intro (@wp1_alloc') (And.intro (@rd_t) (And.intro (@rd_c) (And.intro (@ok_t) (And.intro (@ok_c) (And.intro (@put_some) (And.intro (@put_none) (And.intro (@get_put) (And.intro (@AV.bool.injEq) (And.intro (@opds_nil) (And.intro (@opds_cons) (And.intro (@opd_t) (And.intro (@opd_c) (And.intro (@decide_true) (And.intro (@decide_false) (And.intro (@wp1_nilCheck') (And.intro (@wp1_fieldAddr') (And.intro (@wp1_slice) (And.intro (@op_slice) (And.intro (@sliceO_some) (And.intro (@wp1_cap') (And.intro (@wp1_clear') (And.intro (@wp1_copy') (And.intro (@wp1_appendZ') (And.intro (@mV_eq) (And.intro (@oP_eq) (And.intro (@oN_eq) (And.intro (@oG_eq) (And.intro (@opdo_some) (And.intro (@opdo_none) (And.intro (@wp1_lit) (And.intro (@op_lit) (And.intro (@parts_nil) (And.intro (@parts_cons) (And.intro (@wp1_build) (And.intro (@op_build) (And.intro (@wp1_box) (@op_box))))))))))))))))))))))))))))))))))))))))))))))))))))))))))))))))))))))))))))))))))) := And.intro (@wpc_skip) (And.intro (@wpc_ops) (And.intro (@wpc_seq) (And.intro (@wpc_cond) (And.intro (@wpc_block) (And.intro (@wpc_loop) (And.intro (@wpc_exit) (And.intro (@wpc_scope) (And.intro (@wpc_ret) (And.intro (@seqQ_norm) (And.intro (@seqQ_ret) (And.intro (@seqQ_exit) (And.intro (@blockQ'_norm) (And.intro (@blockQ'_ret) (And.intro (@blockQ'_exit) (And.intro (@roundQ_norm) (And.intro (@roundQ_ret) (And.intro (@roundQ_exit) (And.intro (@condK_true) (And.intro (@condK_false) (And.intro (@wpo_nil') (And.intro (@wpo_none) (And.intro (@wpo_tt) (And.intro (@wpo_ff) (And.intro (@wpo_tf) (And.intro (@wpo_ft) (And.intro (@opsK_c) (And.intro (@isC_none) (And.intro (@isC_read) (And.intro (@isC_write) (And.intro (@wp1_call) (And.intro (@callK_ret) (And.intro (@wp1_mv') (And.intro (@wp1_bin') (And.intro (@wp1_un') (And.intro (@wp1_eq') (And.intro (@wp1_extract') (And.intro (@wp1_pick') (And.intro (@wp1_len') (And.intro (@wp1_load') (And.intro (@wp1_conv') (And.intro (@wp1_store') (And.intro (@wp1_idxAddr') (And.intro (@wp1_append') (And.intro (@wp1_mkIface') (And.intro (@wp1_alloc') (And.intro (@rd_t) (And.intro (@rd_c) (And.intro (@ok_t) (And.intro (@ok_c) (And.intro (@put_some) (And.intro (@put_none) (And.intro (@get_put) (And.intro (@AV.bool.injEq) (And.intro (@opds_nil) (And.intro (@opds_cons) (And.intro (@opd_t) (And.intro (@opd_c) (And.intro (@decide_true) (And.intro (@decide_false) (And.intro (@wp1_nilCheck') (And.intro (@wp1_fieldAddr') (And.intro (@wp1_slice) (And.intro (@op_slice) (And.intro (@sliceO_some) (And.intro (@wp1_cap') (And.intro (@wp1_clear') (And.intro (@wp1_copy') (And.intro (@wp1_appendZ') (And.intro (@mV_eq) (And.intro (@oP_eq) (And.intro (@oN_eq) (And.intro (@oG_eq) (And.intro (@opdo_some) (And.intro (@opdo_none) (And.intro (@wp1_lit) (And.intro (@op_lit) (And.intro (@parts_nil) (And.intro (@parts_cons) (And.intro (@wp1_build) (And.intro (@op_build) (And.intro (@wp1_box) (@op_box))))))))))))))))))))))))))))))))))))))))))))))))))))))))))))))))))))))))))))))))))
theorem k3 : type_of% (And.intro (@wpk_nil) (And.intro (@wpk_none) (And.intro (@wpk_tt) (And.intro (@wpk_ff) (And.intro (@wpk_tf) (And.intro (@wpk_ft) (And.intro (@clsK_c) (And.intro (@logC_apply) (@drawC_apply))))))))) := And.intro (@wpk_nil) (And.intro (@wpk_none) (And.intro (@wpk_tt) (And.intro (@wpk_ff) (And.intro (@wpk_tf) (And.intro (@wpk_ft) (And.intro (@clsK_c) (And.intro (@logC_apply) (@drawC_apply))))))))
end Go.AM

set_option linter.unusedVariables false
set_option linter.unusedSimpArgs false
set_option maxRecDepth 20000
namespace Go.AM
section
variable {h : Heap} {cs vs : List AV} {id n off sz gen : Nat} {a b c d e f v : AV} {ag : Bool}
theorem next_new : (h.new cs).next = h.next + 1 := _root_.id rfl
theorem next_upd : (h.upd id gen cs).next = h.next := _root_.id rfl
theorem next_empty : Heap.empty.next = 0 := _root_.id rfl
theorem at_new_if : (h.new cs).at_ n 0 = if n = h.next then some cs else h.at_ n 0 := by
  by_cases e : n = h.next
  · rw [if_pos e, e]; exact at_new _
  · rw [if_neg e]
    show (match (h.tr.set h.next (some ⟨0, cs⟩)).get n with | some o => _ | none => _) = _
    rw [Tr.get_set, if_neg e]; rfl
theorem at_upd_if : (h.upd id gen cs).at_ n gen = if n = id then some cs else h.at_ n gen := by
  by_cases e : n = id
  · rw [if_pos e, e]; exact at_upd
  · rw [if_neg e]; exact at_upd_ne e
theorem aLoad_ptr : aLoad h ag sz (.ptr id gen off) = (h.at_ id gen).bind fun cs => (ldCells ag sz (cs.drop off)).map fun v => ⟨v, h, .read⟩ := _root_.id rfl
theorem aLoad_fp : aLoad h ag sz (.fp cs) = (ldCells ag sz cs).map fun v => ⟨v, h, .none⟩ := _root_.id rfl
theorem aStore_w : aStore h sz (.ptr id gen 0) (.agg vs) = (h.at_ id gen).bind fun cs => if vs.length = sz ∧ sz ≤ cs.length then some ⟨.undef, h.upd id gen (if cs.length ≤ vs.length then vs else splice cs 0 vs), .write⟩ else none := by
  show ((h.at_ id gen).bind fun cs => (some vs).bind fun vs => if vs.length = sz ∧ 0 + sz ≤ cs.length then (some ⟨.undef, h.upd id gen (splice cs 0 vs), .write⟩ : Option OpRes) else none) = _
  cases h.at_ id gen with
  | none => rfl
  | some cs =>
    simp only [Option.bind_some, Nat.zero_add]
    by_cases e : vs.length = sz ∧ sz ≤ cs.length
    · rw [if_pos e, if_pos e]
      by_cases e2 : cs.length ≤ vs.length
      · rw [if_pos e2]
        simp only [splice, List.take_zero, List.nil_append, Nat.zero_add, List.drop_of_length_le e2, List.append_nil]
      · rw [if_neg e2]
    · rw [if_neg e, if_neg e]
theorem aStore_1 (hv : v.row = some [v]) : aStore h 1 (.ptr id gen off) v = (h.at_ id gen).bind fun cs => if off < cs.length then some ⟨.undef, h.upd id gen (cs.set off v), .write⟩ else none := by
  show ((h.at_ id gen).bind fun cs => v.row.bind fun vs => if vs.length = 1 ∧ off + 1 ≤ cs.length then (some ⟨.undef, h.upd id gen (splice cs off vs), .write⟩ : Option OpRes) else none) = _
  rw [hv]
  cases h.at_ id gen with
  | none => rfl
  | some cs =>
    simp only [Option.bind_some, List.length_singleton, true_and]
    by_cases e : off < cs.length
    · rw [if_pos (by omega), if_pos e, List.set_eq_take_append_cons_drop, if_pos e]
      simp [splice]
    · rw [if_neg (by omega), if_neg e]
theorem ldc6 : ldCells true 6 [a, b, c, d, e, f] = some (.agg [a, b, c, d, e, f]) := _root_.id rfl
theorem ldc4 : ldCells true 4 [a, b, c, d] = some (.agg [a, b, c, d]) := _root_.id rfl
theorem ldc1 : ldCells false n (v :: cs) = some v := _root_.id rfl
theorem aNil_p : aNil (.ptr id gen off) = some (.ptr id gen off) := _root_.id rfl
theorem aFld_p : aFieldAddr n (.ptr id gen off) = some (.ptr id gen (off + n)) := _root_.id rfl
theorem aFld_f : aFieldAddr n (.fp cs) = some (.fp (cs.drop n)) := _root_.id rfl
theorem aExt0 {l : List AV} : aExtract 0 (.tup (v :: l)) = some v := _root_.id rfl
theorem aExt1 {l : List AV} : aExtract 1 (.tup (a :: v :: l)) = some v := _root_.id rfl
theorem aExt2 {l : List AV} : aExtract 2 (.tup (a :: b :: v :: l)) = some v := _root_.id rfl
theorem aPk_t : aPick (.bool true) a b = some a := _root_.id rfl
theorem aPk_f : aPick (.bool false) a b = some b := _root_.id rfl
theorem aNot {b : Bool} : aUn .not (.bool b) = some (.bool !b) := _root_.id rfl
end
theorem frz_ex {h : Heap} {v : AV} {P : AV → Prop} (hv : v.noRef = true) : (∃ v', Frz h v v' ∧ P v') = P v :=
  propext ⟨fun ⟨v', h1, h2⟩ => by rw [(frz_noRef hv).1 h1]; exact h2, fun h2 => ⟨v, (frz_noRef hv).2 rfl, h2⟩⟩
section
variable {E : Env} {rs : List ARes} {h : Heap} {Q : COut → Prop} {s : St} {P : List AV → Prop}
theorem results_nil : E.results s [] = some [] := _root_.id rfl
theorem results_tmp {t : Nat} {l : List ARes} : E.results s (.tmp t :: l) = (E.results s l).map fun vs => s.σ.get t :: vs := _root_.id rfl
theorem results_cell {t sz : Nat} {ag : Bool} {l : List ARes} : E.results s (.cell t ag sz :: l) = (aLoad s.h ag sz (s.σ.get t)).bind fun r => (E.results s l).map fun vs => r.v :: vs := _root_.id rfl
theorem pureQ_ret : pureQ E rs h Q .ret s = ∃ vs, E.results s rs = some vs ∧ ∃ v, Frz s.h (oneOrTup vs) v ∧ Q (.ret ⟨v, h, .none⟩) := by
  refine propext ⟨fun ⟨vs, v, h1, h2, h3⟩ => ⟨vs, h1, v, h2, h3⟩, fun ⟨vs, h1, v, h2, h3⟩ => ⟨vs, v, h1, h2, h3⟩⟩
theorem pureQ_norm : pureQ E rs h Q .norm s = pureQ E rs h Q .ret s := _root_.id rfl
theorem retQ_ret : retQ E rs Q .ret s = ∃ vs, E.results s rs = some vs ∧ Q (.ret ⟨oneOrTup vs, s.h, .write⟩) := _root_.id rfl
theorem retQ_norm : retQ E rs Q .norm s = retQ E rs Q .ret s := _root_.id rfl
theorem oneOrTup1 {a : AV} : oneOrTup [a] = a := _root_.id rfl
theorem oneOrTup0 : oneOrTup [] = .tup [] := _root_.id rfl
theorem oneOrTup2 {a b : AV} {l : List AV} : oneOrTup (a :: b :: l) = .tup (a :: b :: l) := _root_.id rfl
end
theorem noRef_aggl {l : List AV} : (AV.agg l).noRef = AV.noRefs l := _root_.id rfl
theorem noRef_undef : AV.undef.noRef = true := _root_.id rfl
theorem noRef_fn {f : Fn} {a b : List AV} : (AV.fn f a b).noRef = (AV.noRefs a && AV.noRefs b) := _root_.id rfl
theorem h3 : type_of% (And.intro (@next_new) (And.intro (@next_upd) (And.intro (@next_empty) (And.intro (@at_new_if) (And.intro (@at_upd_if) (And.intro (@aLoad_ptr) (And.intro (@aLoad_fp) (And.intro (@aStore_w) (And.intro (@aStore_1) (And.intro (@ldc6) (And.intro (@ldc4) (And.intro (@ldc1) (And.intro (@aNil_p) (And.intro (@aFld_p) (And.intro (@aFld_f) (And.intro (@aExt0) (And.intro (@aExt1) (And.intro (@aExt2) (And.intro (@aPk_t) (And.intro (@aPk_f) (And.intro (@aNot) (And.intro (@frz_ex) (And.intro (@results_nil) (And.intro (@results_tmp) (And.intro (@results_cell) (And.intro (@pureQ_ret) (And.intro (@pureQ_norm) (And.intro (@retQ_ret) (And.intro (@retQ_norm) (And.intro (@oneOrTup0) (And.intro (@oneOrTup1) (And.intro (@oneOrTup2) (And.intro (@noRefs_cons) (And.intro (@noRefs_nil) (And.intro (@noRef_tup) (And.intro (@noRef_aggl) (And.intro (@noRef_fs) (And.intro (@noRef_fp) (And.intro (@noRef_ifc) (And.intro (@noRef_undef) (And.intro (@noRef_fn) (And.intro (@noRef_bool) (And.intro (@noRef_int) (And.intro (@noRef_str) (And.intro (@noRef_nilp) (And.intro (@noRef_nils) (And.intro (@noRef_nilm) (And.intro (@noRef_nilf) (And.intro (@noRef_nili) (And.intro (@row_agg) (And.intro (@wpo_u) (And.intro (@wpk_u) (And.intro (@Nat.zero_add) (@Nat.add_zero)))))))))))))))))))))))))))))))))))))))))))))))))))))) := And.intro (@next_new) (And.intro (@next_upd) (And.intro (@next_empty) (And.intro (@at_new_if) (And.intro (@at_upd_if) (And.intro (@aLoad_ptr) (And.intro (@aLoad_fp) (And.intro (@aStore_w) (And.intro (@aStore_1) (And.intro (@ldc6) (And.intro (@ldc4) (And.intro (@ldc1) (And.intro (@aNil_p) (And.intro (@aFld_p) (And.intro (@aFld_f) (And.intro (@aExt0) (And.intro (@aExt1) (And.intro (@aExt2) (And.intro (@aPk_t) (And.intro (@aPk_f) (And.intro (@aNot) (And.intro (@frz_ex) (And.intro (@results_nil) (And.intro (@results_tmp) (And.intro (@results_cell) (And.intro (@pureQ_ret) (And.intro (@pureQ_norm) (And.intro (@retQ_ret) (And.intro (@retQ_norm) (And.intro (@oneOrTup0) (And.intro (@oneOrTup1) (And.intro (@oneOrTup2) (And.intro (@noRefs_cons) (And.intro (@noRefs_nil) (And.intro (@noRef_tup) (And.intro (@noRef_aggl) (And.intro (@noRef_fs) (And.intro (@noRef_fp) (And.intro (@noRef_ifc) (And.intro (@noRef_undef) (And.intro (@noRef_fn) (And.intro (@noRef_bool) (And.intro (@noRef_int) (And.intro (@noRef_str) (And.intro (@noRef_nilp) (And.intro (@noRef_nils) (And.intro (@noRef_nilm) (And.intro (@noRef_nilf) (And.intro (@noRef_nili) (And.intro (@row_agg) (And.intro (@wpo_u) (And.intro (@wpk_u) (And.intro (@Nat.zero_add) (@Nat.add_zero)))))))))))))))))))))))))))))))))))))))))))))))))))))
end Go.AM

set_option linter.unusedVariables false
set_option linter.unusedSimpArgs false
namespace Go.AM
def clsApart3 (ordered : Bool) (fx fy : Bool) (x y : Cls) : Bool := ordered || match x, y with
  | .none, _ | _, .none | .read, .read => true
  | .write, .write => false
  | .read, .write => fx
  | .write, .read => fy
def clsAll3 (F : List Nat) (x : Cls) (i : Nat) : Nat → List Cls → List Nat → Bool
  | j, y :: ys, m :: ms => clsApart3 (Nat.testBit m i) (F.elem i) (F.elem j) x y && clsAll3 F x i (j + 1) ys ms
  | _, _, _ => true
def clsDraw3 (F : List Nat) : Nat → List Cls → List Nat → Bool
  | i, x :: xs, _ :: ms => clsAll3 F x i (i + 1) xs ms && clsDraw3 F (i + 1) xs ms
  | _, _, _ => true
def steadyAt (E : Env) (hs : List Heap) (l : List (AOper × St × Cls)) (j : Nat) : Prop := match l[j]? with
  | some y => E.steady y.1 y.2.1 hs = true
  | none => True
def steadyOk (E : Env) (hs : List Heap) (l : List (AOper × St × Cls)) : List Nat → Prop
  | [] => True
  | j :: js => steadyAt E hs l j ∧ steadyOk E hs l js
theorem steadyOk.get {E : Env} {hs : List Heap} {l : List (AOper × St × Cls)} : ∀ {F : List Nat}, steadyOk E hs l F → ∀ {j : Nat} {y : AOper × St × Cls}, F.elem j = true → l[j]? = some y → E.steady y.1 y.2.1 hs = true
  | [], _, _, _, h, _ => by simp at h
  | f :: F, k, j, y, h, e => by
    by_cases c : j = f
    · subst c
      have := k.1
      unfold steadyAt at this
      rw [e] at this
      exact this
    · refine k.2.get ?_ e
      simpa [c] using h
theorem apart_of_cls3 {E : Env} {o fx fy : Bool} {hs : List Heap} {x y : AOper × St × Cls} (h : clsApart3 o fx fy x.2.2 y.2.2 = true) (hx : fx = true → E.steady x.1 x.2.1 hs = true) (hy : fy = true → E.steady y.1 y.2.1 hs = true) : E.apart o hs x y = true := by
  unfold clsApart3 at h
  unfold Env.apart
  cases o
  · simp only [Bool.false_or] at h ⊢
    cases hx2 : x.2.2 <;> cases hy2 : y.2.2 <;> simp [hx2, hy2] at h ⊢
    · exact hx h
    · exact hy h
  · rfl
theorem all_of_cls3 {E : Env} {hs : List Heap} {x : AOper × St × Cls} {F : List Nat} {i : Nat} (hx : F.elem i = true → E.steady x.1 x.2.1 hs = true) : ∀ {l : List (AOper × St × Cls)} {ms : List Nat} {j : Nat}, clsAll3 F x.2.2 i j (l.map fun y => y.2.2) ms = true → (∀ k y, F.elem (j + k) = true → l[k]? = some y → E.steady y.1 y.2.1 hs = true) → E.apartAll hs x i l ms = true
  | [], _, _, _, _ => by simp [Env.apartAll]
  | _ :: _, [], _, _, _ => by simp [Env.apartAll]
  | y :: l, m :: ms, j, h, hr => by
    simp only [List.map_cons, clsAll3, Bool.and_eq_true] at h
    simp only [Env.apartAll, Bool.and_eq_true]
    exact ⟨apart_of_cls3 h.1 hx fun e => hr 0 y e rfl, all_of_cls3 hx h.2 fun k z e e2 => hr (k + 1) z (by rw [← e]; congr 1; omega) e2⟩
theorem draw_of_cls3' {E : Env} {hs : List Heap} {F : List Nat} : ∀ {l : List (AOper × St × Cls)} {ms : List Nat} {i : Nat}, clsDraw3 F i (l.map fun y => y.2.2) ms = true → (∀ k y, F.elem (i + k) = true → l[k]? = some y → E.steady y.1 y.2.1 hs = true) → E.drawOk hs i l ms = true
  | [], _, _, _, _ => by simp [Env.drawOk]
  | _ :: _, [], _, _, _ => by simp [Env.drawOk]
  | y :: l, m :: ms, i, h, hr => by
    simp only [List.map_cons, clsDraw3, Bool.and_eq_true] at h
    simp only [Env.drawOk, Bool.and_eq_true]
    have hr' : ∀ k z, F.elem (i + 1 + k) = true → l[k]? = some z → E.steady z.1 z.2.1 hs = true := fun k z e e2 => hr (k + 1) z (by rw [← e]; congr 1; omega) e2
    exact ⟨all_of_cls3 (fun e => hr 0 y e rfl) h.1 hr', draw_of_cls3' h.2 hr'⟩
theorem draw_of_cls3 {E : Env} {hs : List Heap} (F : List Nat) {l : List (AOper × St × Cls)} {ms : List Nat} (h : clsDraw3 F 0 (l.map fun y => y.2.2) ms = true) (hr : steadyOk E hs l F) : E.drawOk hs 0 l ms = true :=
  draw_of_cls3' h fun k y e e2 => hr.get (by rw [Nat.zero_add] at e; exact e) e2
end Go.AM

set_option linter.unusedVariables false
set_option linter.unusedSimpArgs false
namespace Go.AM
theorem wpl_mono {E : Env} : ∀ (l : List AOper) (s : St) (P R : St → List (AOper × St × Cls) → Prop), (∀ s log, P s log → R s log) → wpl E l s P → wpl E l s R
  | [], s, P, R, hr, h => hr _ _ h
  | ⟨d, op, none⟩ :: l, s, P, R, hr, h => by
    have h : wp1 E op d s (fun s' c => wpl E l s' (fun s2 log => P s2 ((⟨d, op, none⟩, s, c) :: log))) noQ := h
    exact wp1_mono (K' := fun s' c => wpl E l s' (fun s2 log => R s2 ((⟨d, op, none⟩, s, c) :: log))) h fun s' c x => wpl_mono l s' _ _ (fun s2 log y => hr _ _ y) x
  | ⟨d, op, some (t, w)⟩ :: l, s, P, R, hr, h => by
    obtain ⟨b, hb, h⟩ := h
    refine ⟨b, hb, ?_⟩
    by_cases he : b = w
    · rw [if_pos he] at h ⊢
      exact wp1_mono (K' := fun s' c => wpl E l s' (fun s2 log => R s2 ((⟨d, op, some (t, w)⟩, s, c) :: log))) h fun s' c x => wpl_mono l s' _ _ (fun s2 log y => hr _ _ y) x
    · rw [if_neg he] at h ⊢
      exact wpl_mono l _ _ _ (fun s2 log y => hr _ _ y) h
/-- the region's end, and that its order does not matter -/
def endQ (E : Env) (b : List Nat) (s1 : St) : St → List (AOper × St × Cls) → Prop := fun s' log => E.drawOk (s'.h :: log.map (fun x => x.2.1.h)) 0 log b = true ∧ s' = s1
theorem endQ_apply {E : Env} {b : List Nat} {s1 s' : St} {log : List (AOper × St × Cls)} : endQ E b s1 s' log = (E.drawOk (s'.h :: log.map (fun x => x.2.1.h)) 0 log b = true ∧ s' = s1) := rfl
theorem draw_to {E : Env} {l : List AOper} {b : List Nat} {s s1 : St} {Q : AExit → St → Prop} (h1 : wpl E l s (endQ E b s1)) (h2 : Q .norm s1) : wpc E (.draw l b) s Q :=
  wpl_mono l s (endQ E b s1) (drawQ E b Q) (fun s' log h => ⟨h.1, by rw [h.2]; exact h2⟩) h1
mutual
theorem AV.same_refl : ∀ v : AV, v.same v = true
  | .bool _ | .int _ _ | .str _ | .nilp | .nils | .nilm | .nilf | .nili | .ptr _ _ _ | .sl _ _ _ _ _ _ => by simp [AV.same]
  | .fp a => by rw [AV.same, AV.sames_refl a]
  | .fs f n a => by rw [AV.same, AV.sames_refl a]; simp
  | .fn f a b => by rw [AV.same, AV.sames_refl a, AV.sames_refl b]; simp
  | .ifc t v => by rw [AV.same, AV.same_refl v]; simp
  | .agg a => by rw [AV.same, AV.sames_refl a]
  | .tup a => by rw [AV.same, AV.sames_refl a]
theorem AV.sames_refl : ∀ l : List AV, AV.sames l l = true
  | [] => rfl
  | v :: l => by rw [AV.sames, AV.same_refl v, AV.sames_refl l]; rfl
end
theorem steady_cons {E : Env} {o : AOper} {s : St} {h : Heap} {hs : List Heap} : E.steady o s (h :: hs) = ((match E.op s.σ s.h o.op, E.op s.σ h o.op with
     | some r, some r' => r.v.same r'.v && (match r'.c with | .write => false | _ => true)
     | _, _ => false) && E.steady o s hs) := id rfl
/-- a read that all these heaps answer alike -/
def allLd (ag : Bool) (sz : Nat) (a v : AV) : List Heap → Prop
  | [] => True
  | h :: hs => aLoad h ag sz a = some ⟨v, h, .read⟩ ∧ allLd ag sz a v hs
theorem allLd_nil {ag : Bool} {sz : Nat} {a v : AV} : allLd ag sz a v [] = True := id rfl
theorem allLd_cons {ag : Bool} {sz : Nat} {a v : AV} {h : Heap} {hs : List Heap} : allLd ag sz a v (h :: hs) = (aLoad h ag sz a = some ⟨v, h, .read⟩ ∧ allLd ag sz a v hs) := id rfl
theorem steady_load {E : Env} {d : Option Nat} {g : Option (Nat × Bool)} {ag : Bool} {sz : Nat} {x : Opd} {s : St} (a v : AV) {hs : List Heap} (h1 : E.opd s.σ x = some a) (h2 : allLd ag sz a v (s.h :: hs)) : E.steady ⟨d, .load ag sz x, g⟩ s hs = true := by
  obtain ⟨e0, h2⟩ := h2
  have o0 : E.op s.σ s.h (.load ag sz x) = some ⟨v, s.h, .read⟩ := by
    show (E.opd s.σ x).bind (aLoad s.h ag sz) = _
    rw [h1]; exact e0
  induction hs with
  | nil => rfl
  | cons h hs ih =>
    obtain ⟨e1, h2⟩ := h2
    have o1 : E.op s.σ h (.load ag sz x) = some ⟨v, h, .read⟩ := by
      show (E.opd s.σ x).bind (aLoad h ag sz) = _
      rw [h1]; exact e1
    rw [steady_cons, ih h2]
    show ((match E.op s.σ s.h (.load ag sz x), E.op s.σ h (.load ag sz x) with
     | some r, some r' => r.v.same r'.v && (match r'.c with | .write => false | _ => true)
     | _, _ => false) && true) = true
    rw [o0, o1]
    show ((v.same v && true) && true) = true
    rw [AV.same_refl]; rfl
end Go.AM
