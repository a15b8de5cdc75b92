/-
  BifOrders answers true.
-/
import Derived.Test.YtaielgjmhbjfhaaGreatDoorBfCopy2
import Derived.Test.YtaielgjmhbjfhaaGreatDoorAmD
import Derived.Test.YtaielgjmhbjfhaaGreatDoorBfRQuote
set_option linter.unusedVariables false
set_option linter.unusedSimpArgs false
set_option maxRecDepth 20000
namespace Go.Bf
open Go.AM
/-- is it a term? -/
def isT (t : Tm) : Bool := match chkF t with | none => true | some _ => false
theorem eq_walk (x : WFlt) : aEq (.iface true) (walkAV x) .nili = some (match x with | none => true | some _ => false) := by
  rcases x with _ | ⟨a, c, u⟩ <;> rfl
theorem isT_wf {t : Tm} (h : isT t = true) : Wf t := by
  unfold isT at h
  split at h
  · rename_i e; exact wf_chk e
  · cases h
theorem eq_chk (t : Tm) : aEq (.iface true) (walkAV (chkF t)) .nili = some (isT t) := eq_walk _
def eqF (a b : Tm) : Bool := isT a && isT b && (ordF a b == 0)
theorem equal_spec (a b : Tm) (oka : a.Ok) (okb : b.Ok) (h : Heap) : WC env 33 [.agg (tc a), .agg (tc b)] h (fun o => o = .ret ⟨.bool (eqF a b), h, .none⟩) := by
  refine call_pure rfl rfl rfl (by simp only [AV.noRefs, AV.noRef, noRef_tc, Bool.and_self]) ?_
  obtain ⟨h1, eh1⟩ : ∃ h1, h1 = Heap.empty.new (tc a) := ⟨_, rfl⟩
  have ho1 : HeapOk h1 := by rw [eh1]; exact HeapOk.empty.new _
  have a1 : h1.at_ Heap.empty.next 0 = some (tc a) := by rw [eh1]; exact at_new _
  obtain ⟨h2, eh2⟩ : ∃ h2, h2 = h1.new (tc b) := ⟨_, rfl⟩
  have a2 : h2.at_ Heap.empty.next 0 = some (tc a) := by rw [eh2]; exact (le_new ho1 _).2 _ _ _ a1
  have b2 : h2.at_ h1.next 0 = some (tc b) := by rw [eh2]; exact at_new _
  have y1 : (AV.agg (tc a)).row = some (tc a) := rfl
  have y2 : (tc a).length = 6 := tc_length a
  have y3 : (AV.agg (tc b)).row = some (tc b) := rfl
  have y4 : (tc b).length = 6 := tc_length b
  have la := ld_t a2
  have lb := ld_t b2
  cases e1 : isT a with
  | false =>
    have e : eqF a b = false := by rw [eqF, e1]; rfl
    have q1 := eq_chk a
    rw [e1] at q1
    simp only [a33, a33_0, a33_1, Slots.ofList, wpc_draw, s3, reduceIte, Nat.reduceEqDiff, aBin, aInt, negIf, Option.some.injEq, exists_eq_left', Option.map_some, Option.bind_some, y1, y2, y3, y4, ← eh1, ← eh2, la, lb, wc_eq (check_spec a oka _), q1, aPick]
    exact finB (by simp only [get_put, reduceIte, Nat.reduceEqDiff]; rw [e]) rfl
  | true =>
  have q1 := eq_chk a
  rw [e1] at q1
  cases e2 : isT b with
  | false =>
    have e : eqF a b = false := by rw [eqF, e1, e2]; rfl
    have q2 := eq_chk b
    rw [e2] at q2
    simp only [a33, a33_0, a33_1, Slots.ofList, wpc_draw, s3, reduceIte, Nat.reduceEqDiff, aBin, aInt, negIf, Option.some.injEq, exists_eq_left', Option.map_some, Option.bind_some, y1, y2, y3, y4, ← eh1, ← eh2, la, lb, wc_eq (check_spec a oka _), wc_eq (check_spec b okb _), q1, q2, aPick]
    exact finB (by simp only [get_put, reduceIte, Nat.reduceEqDiff]; rw [e]) rfl
  | true =>
  have q2 := eq_chk b
  rw [e2] at q2
  have wo := ord_spec a oka (isT_wf e1) b okb (isT_wf e2)
  have e : eqF a b = (ordF a b == 0) := by rw [eqF, e1, e2]; rfl
  simp only [a33, a33_0, a33_1, Slots.ofList, wpc_draw, s3, reduceIte, Nat.reduceEqDiff, aBin, aInt, negIf, Option.some.injEq, exists_eq_left', Option.map_some, Option.bind_some, y1, y2, y3, y4, ← eh1, ← eh2, la, lb, wc_eq (check_spec a oka _), wc_eq (check_spec b okb _), q1, q2, aPick, wc_eq (wo _)]
  exact finB (by simp only [get_put, reduceIte, Nat.reduceEqDiff]; rw [e]) rfl
def trueT : Tm := .mk 2 0 [116, 114, 117, 101] 0 none [] none []
theorem trueT_ok : trueT.Ok := by
  rw [trueT, Tm.Ok, Oks]
  refine ⟨⟨by decide, by decide⟩, ⟨by decide, by decide⟩, ⟨by decide, by decide⟩, by simp, by decide, by decide, by decide, trivial⟩
def atomT (s : List UInt8) : Tm := .mk 2 0 s 0 none [] none []
theorem atom_spec (s : List UInt8) (h : Heap) : WC env 34 [.str s] h (fun o => o = .ret ⟨.agg (tc (atomT s)), h, .none⟩) := wc_run (n := 30) (by kernel_rfl)
theorem true_spec (t : Tm) (ok : t.Ok) (h : Heap) : WC env 17 [.agg (tc t)] h (fun o => o = .ret ⟨.bool (eqF t trueT), h, .none⟩) := by
  refine call_pure rfl rfl rfl (by simp only [AV.noRefs, AV.noRef, noRef_tc, Bool.and_self]) ?_
  obtain ⟨h1, eh1⟩ : ∃ h1, h1 = Heap.empty.new (tc t) := ⟨_, rfl⟩
  have a1 : h1.at_ Heap.empty.next 0 = some (tc t) := by rw [eh1]; exact at_new _
  have y1 : (AV.agg (tc t)).row = some (tc t) := rfl
  have y2 : (tc t).length = 6 := tc_length t
  have l6 := ld_t a1
  have we : ∀ h, WC env 33 [.agg (tc t), .agg (tc (atomT [116, 114, 117, 101]))] h (fun o => o = .ret ⟨.bool (eqF t trueT), h, .none⟩) := fun h => equal_spec t trueT ok trueT_ok h
  simp only [a17, a17_0, Slots.ofList, s3, reduceIte, Nat.reduceEqDiff, aBin, aInt, negIf, Option.some.injEq, exists_eq_left', Option.map_some, Option.bind_some, y1, y2, ← eh1]
  refine wpc_draw_k ?_
  simp only [s3, reduceIte, Nat.reduceEqDiff, aBin, aInt, negIf, Option.some.injEq, exists_eq_left', Option.map_some, Option.bind_some, k3, a17_1, l6, wc_eq (atom_spec _ _), wc_eq (we _)]
  refine ⟨rfl, ?_⟩
  exact finB (by simp only [get_put, reduceIte, Nat.reduceEqDiff]) rfl
mutual
def sameF : Tm → Tm → Bool
  | .mk k i s c nf ns af ar, .mk k' i' s' c' nf' ns' af' ar' => k == k' && i == i' && s == s' && c == c' && ns.length == ns'.length && ar.length == ar'.length && ns == ns' && sameFs ar ar'
def sameFs : List Tm → List Tm → Bool
  | [], [] => true
  | [], _ :: _ => false
  | _ :: _, [] => false
  | a :: l, b :: m => sameF a b && sameFs l m
end
def SameOk (a : Tm) : Prop := ∀ b, b.Ok → ∀ h, WC env 19 [.agg (tc a), .agg (tc b)] h (fun o => o = .ret ⟨.bool (sameF a b), h, .none⟩)
section
variable {h : Heap} {i2 i3 : Nat} {x0 x1 x2 x3 y0 y1 y2 y3 : AV} {nf nf' : Option Bool} {ns ns' : List Int} {av av2 : AV}
  (l4 : aLoad h false 1 (.ptr i2 0 4) = some ⟨slAV nf ns.length (u32s ns), h, .read⟩) (l4' : aLoad h false 1 (.ptr i3 0 4) = some ⟨slAV nf' ns'.length (u32s ns'), h, .read⟩)
include l4 l4'
theorem same_nums (hlen : ns.length = ns'.length) (hb : ns.length < 9223372036854775808) {Q : AExit → St → Prop} :
    ∀ (f i : Nat) (σ : Slots), ns.length - i < f → i ≤ ns.length → σ.get 2 = .ptr i2 0 0 → σ.get 3 = .ptr i3 0 0 → σ.get 5 = .int .i64 i →
    (∀ σ', (σ'.get 4 = .bool false → ns.drop i ≠ ns'.drop i → Q .ret ⟨σ', h⟩) ∧ (σ'.get 2 = .ptr i2 0 0 → σ'.get 3 = .ptr i3 0 0 → ns.drop i = ns'.drop i → Q (.exit 0) ⟨σ', h⟩)) →
    WPr env a19_l8 ⟨σ, h⟩ Q := by
  intro f
  induction f with
  | zero => intro i σ h1; omega
  | succ f ih =>
    intro i σ hf hi g2 g3 g5 hQ
    refine wpr_round' fun b hb => ?_
    have nl : ∀ h, aLenOp false h (slAV nf ns.length (u32s ns)) = some ⟨.int .i64 ns.length, h, .none⟩ := fun h => len_sl _ _ _ (fun _ => trivial) h
    by_cases c1 : i < ns.length
    · have c2 : i < ns'.length := by omega
      have z0 : ((i : Int) < (ns.length : Int)) = True := eq_true (by omega)
      have zi : IntKind.wrap .i64 ((i : Int) + 1) = ((i + 1 : Nat) : Int) := wrap_nat (by omega) (by omega)
      have lx := idx_nums (f := nf) c1
      have ld := ld_nums c1 h
      have lx2 := idx_nums (f := nf') c2
      have ld2 := ld_nums c2 h
      have hd1 : ns.drop i = ns[i] :: ns.drop (i + 1) := List.drop_eq_getElem_cons c1
      have hd2 : ns'.drop i = ns'[i] :: ns'.drop (i + 1) := List.drop_eq_getElem_cons c2
      rw [hd1, hd2] at hQ
      simp only [a19_l8, a19_4, s3, reduceIte, Nat.reduceEqDiff, aBin, aInt, negIf, Option.some.injEq, exists_eq_left', Option.map_some, Option.bind_some, g2, g3, g5, aFieldAddr, Nat.zero_add, l4, l4', nl, z0]
      refine wpc_draw_k ?_
      by_cases c3 : ns[i] = ns'[i]
      · have z3 : (ns[i] != ns'[i]) = false := by simpa using c3
        simp only [s3, reduceIte, Nat.reduceEqDiff, aBin, aInt, negIf, Option.some.injEq, exists_eq_left', Option.map_some, Option.bind_some, k3, a19_5, a19_7, g2, g3, g5, aFieldAddr, Nat.zero_add, l4, l4', lx, ld, lx2, ld2, z3, zi]
        refine ⟨rfl, ?_⟩
        subst hb
        refine ih (i + 1) _ (by omega) (by omega) ?_ ?_ ?_ fun σ' => ⟨fun g e => (hQ σ').1 g (fun e2 => e (by injection e2)), fun e0 e1 e => (hQ σ').2 e0 e1 (by rw [c3, e])⟩
        · simp only [get_put, reduceIte, Nat.reduceEqDiff, g2]
        · simp only [get_put, reduceIte, Nat.reduceEqDiff, g3]
        · simp only [get_put, reduceIte, Nat.reduceEqDiff]
      · have z3 : (ns[i] != ns'[i]) = true := by simpa using c3
        simp only [s3, reduceIte, Nat.reduceEqDiff, aBin, aInt, negIf, Option.some.injEq, exists_eq_left', Option.map_some, Option.bind_some, k3, a19_5, a19_6, g2, g3, g5, aFieldAddr, Nat.zero_add, l4, l4', lx, ld, lx2, ld2, z3, zi]
        refine ⟨rfl, ?_⟩
        exact (hQ _).1 (by simp only [get_put, reduceIte, Nat.reduceEqDiff]) (fun e => c3 (by injection e))
    · have z0 : ((i : Int) < (ns.length : Int)) = False := eq_false (by omega)
      simp only [a19_l8, a19_4, s3, reduceIte, Nat.reduceEqDiff, aBin, aInt, negIf, Option.some.injEq, exists_eq_left', Option.map_some, Option.bind_some, g2, g3, g5, aFieldAddr, Nat.zero_add, l4, l4', nl, z0]
      refine (hQ _).2 (by simp only [get_put, reduceIte, Nat.reduceEqDiff, g2]) (by simp only [get_put, reduceIte, Nat.reduceEqDiff, g3]) ?_
      rw [List.drop_of_length_le (by omega), List.drop_of_length_le (by omega)]
end
section
variable {h : Heap} {i2 i3 : Nat} {af af' : Option Bool} {ar ar' : List Tm}
  (l5 : aLoad h false 1 (.ptr i2 0 5) = some ⟨slAV af ar.length (tcs ar), h, .read⟩) (l5' : aLoad h false 1 (.ptr i3 0 5) = some ⟨slAV af' ar'.length (tcs ar'), h, .read⟩)
include l5 l5'
theorem same_args (hP : ∀ t, t ∈ ar → SameOk t) (okm : Oks ar') (hlen : ar.length = ar'.length) (hb : ar.length < 9223372036854775808) {Q : AExit → St → Prop} :
    ∀ (f i : Nat) (σ : Slots), ar.length - i < f → i ≤ ar.length → σ.get 2 = .ptr i2 0 0 → σ.get 3 = .ptr i3 0 0 → σ.get 6 = .int .i64 i →
    (∀ σ', (σ'.get 4 = .bool false → sameFs (ar.drop i) (ar'.drop i) = false → Q .ret ⟨σ', h⟩) ∧ (sameFs (ar.drop i) (ar'.drop i) = true → Q (.exit 2) ⟨σ', h⟩)) →
    WPr env a19_l14 ⟨σ, h⟩ Q := by
  intro f
  induction f with
  | zero => intro i σ h1; omega
  | succ f ih =>
    intro i σ hf hi g2 g3 g6 hQ
    refine wpr_round' fun b hb => ?_
    have nl : ∀ h, aLenOp false h (slAV af ar.length (tcs ar)) = some ⟨.int .i64 ar.length, h, .none⟩ := fun h => len_sl _ _ _ (fun _ => trivial) h
    by_cases c1 : i < ar.length
    · have c2 : i < ar'.length := by omega
      have z0 : ((i : Int) < (ar.length : Int)) = True := eq_true (by omega)
      have zi : IntKind.wrap .i64 ((i : Int) + 1) = ((i + 1 : Nat) : Int) := wrap_nat (by omega) (by omega)
      have lx := idx_args (f := af) c1
      have ld := ld_args c1 h
      have lx2 := idx_args (f := af') c2
      have ld2 := ld_args c2 h
      have hd1 : ar.drop i = ar[i] :: ar.drop (i + 1) := List.drop_eq_getElem_cons c1
      have hd2 : ar'.drop i = ar'[i] :: ar'.drop (i + 1) := List.drop_eq_getElem_cons c2
      have wo := hP ar[i] (List.getElem_mem c1) ar'[i] (okm.get (List.getElem_mem c2))
      rw [hd1, hd2, sameFs] at hQ
      simp only [a19_l14, a19_10, s3, reduceIte, Nat.reduceEqDiff, aBin, aInt, negIf, Option.some.injEq, exists_eq_left', Option.map_some, Option.bind_some, g2, g3, g6, aFieldAddr, Nat.zero_add, l5, l5', nl, z0]
      refine wpc_draw_k ?_
      cases z3 : sameF ar[i] ar'[i] with
      | true =>
        rw [z3, Bool.true_and] at hQ
        rw [z3] at wo
        simp only [s3, reduceIte, Nat.reduceEqDiff, aBin, aInt, negIf, Option.some.injEq, exists_eq_left', Option.map_some, Option.bind_some, k3, a19_11, a19_13, g2, g3, g6, aFieldAddr, Nat.zero_add, l5, l5', lx, ld, lx2, ld2, wc_eq (wo _), aUn, Bool.not_true, zi]
        refine ⟨rfl, ?_⟩
        subst hb
        refine ih (i + 1) _ (by omega) (by omega) ?_ ?_ ?_ hQ
        · simp only [get_put, reduceIte, Nat.reduceEqDiff, g2]
        · simp only [get_put, reduceIte, Nat.reduceEqDiff, g3]
        · simp only [get_put, reduceIte, Nat.reduceEqDiff]
      | false =>
        rw [z3, Bool.false_and] at hQ
        rw [z3] at wo
        simp only [s3, reduceIte, Nat.reduceEqDiff, aBin, aInt, negIf, Option.some.injEq, exists_eq_left', Option.map_some, Option.bind_some, k3, a19_11, a19_12, g2, g3, g6, aFieldAddr, Nat.zero_add, l5, l5', lx, ld, lx2, ld2, wc_eq (wo _), aUn, Bool.not_false, zi]
        refine ⟨rfl, ?_⟩
        exact (hQ _).1 (by simp only [get_put, reduceIte, Nat.reduceEqDiff]) rfl
    · have z0 : ((i : Int) < (ar.length : Int)) = False := eq_false (by omega)
      simp only [a19_l14, a19_10, s3, reduceIte, Nat.reduceEqDiff, aBin, aInt, negIf, Option.some.injEq, exists_eq_left', Option.map_some, Option.bind_some, g2, g3, g6, aFieldAddr, Nat.zero_add, l5, l5', nl, z0]
      refine (hQ _).2 ?_
      rw [List.drop_of_length_le (by omega), List.drop_of_length_le (by omega), sameFs]
end
end Go.Bf

set_option linter.unusedVariables false
set_option linter.unusedSimpArgs false
set_option maxRecDepth 20000
namespace Go.Bf
open Go.AM
theorem same_spec : ∀ a : Tm, a.Ok → SameOk a := by
  refine tm_ind fun k i s c nf ns af ar ih ok b okb h => ?_
  rcases b with ⟨k', i', s', c', nf', ns', af', ar'⟩
  obtain ⟨_, sn, sa, sr⟩ := ok.lens
  obtain ⟨_, sn', sa', sr'⟩ := okb.lens
  have hP : ∀ t, t ∈ ar → SameOk t := fun t m => ih t m (sr.get m)
  obtain ⟨a, eta⟩ : ∃ a : Tm, a = .mk k i s c nf ns af ar := ⟨_, rfl⟩
  obtain ⟨b, etb⟩ : ∃ b : Tm, b = .mk k' i' s' c' nf' ns' af' ar' := ⟨_, rfl⟩
  have es : sameF a b = (k == k' && i == i' && s == s' && c == c' && ns.length == ns'.length && ar.length == ar'.length && ns == ns' && sameFs ar ar') := by rw [eta, etb, sameF]
  rw [← eta, ← etb]
  refine call_pure rfl rfl rfl (by simp only [AV.noRefs, AV.noRef, noRef_tc, Bool.and_self]) ?_
  obtain ⟨ca, ea⟩ : ∃ ca, ca = tc a := ⟨_, rfl⟩
  obtain ⟨cb, eb⟩ : ∃ cb, cb = tc b := ⟨_, rfl⟩
  rw [← ea, ← eb]
  have ea' : ca = [.int .i64 k, .int .i64 i, .str s, .int .u32 c, slAV nf ns.length (u32s ns), slAV af ar.length (tcs ar)] := by rw [ea, eta]; rfl
  have eb' : cb = [.int .i64 k', .int .i64 i', .str s', .int .u32 c', slAV nf' ns'.length (u32s ns'), slAV af' ar'.length (tcs ar')] := by rw [eb, etb]; rfl
  obtain ⟨i2, ei2⟩ : ∃ i2, i2 = Heap.empty.next := ⟨_, rfl⟩
  obtain ⟨h1, eh1⟩ : ∃ h1, h1 = Heap.empty.new ca := ⟨_, rfl⟩
  have ho1 : HeapOk h1 := by rw [eh1]; exact HeapOk.empty.new _
  have a1' : h1.at_ i2 0 = some ca := by rw [eh1, ei2]; exact at_new _
  obtain ⟨i3, ei3⟩ : ∃ i3, i3 = h1.next := ⟨_, rfl⟩
  obtain ⟨h2, eh2⟩ : ∃ h2, h2 = h1.new cb := ⟨_, rfl⟩
  have a2' : h2.at_ i2 0 = some ca := by rw [eh2]; exact (le_new ho1 _).2 _ _ _ a1'
  have b2' : h2.at_ i3 0 = some cb := by rw [eh2, ei3]; exact at_new _
  have y1 : (AV.agg ca).row = some ca := rfl
  have y2 : ca.length = 6 := by rw [ea']; rfl
  have y3 : (AV.agg cb).row = some cb := rfl
  have y4 : cb.length = 6 := by rw [eb']; rfl
  rw [ea'] at a2'
  rw [eb'] at b2'
  have p0 := ld60 a2'
  have p1 := ld61 a2'
  have p2 := ld62 a2'
  have p3 := ld63 a2'
  have p4 := ld64 a2'
  have p5 := ld65 a2'
  have q0 := ld60 b2'
  have q1 := ld61 b2'
  have q2 := ld62 b2'
  have q3 := ld63 b2'
  have q4 := ld64 b2'
  have q5 := ld65 b2'
  have n1 : ∀ h, aLenOp false h (slAV nf ns.length (u32s ns)) = some ⟨.int .i64 ns.length, h, .none⟩ := fun h => len_sl _ _ _ (fun _ => trivial) h
  have n2 : ∀ h, aLenOp false h (slAV nf' ns'.length (u32s ns')) = some ⟨.int .i64 ns'.length, h, .none⟩ := fun h => len_sl _ _ _ (fun _ => trivial) h
  have n3 : ∀ h, aLenOp false h (slAV af ar.length (tcs ar)) = some ⟨.int .i64 ar.length, h, .none⟩ := fun h => len_sl _ _ _ (fun _ => trivial) h
  have n4 : ∀ h, aLenOp false h (slAV af' ar'.length (tcs ar')) = some ⟨.int .i64 ar'.length, h, .none⟩ := fun h => len_sl _ _ _ (fun _ => trivial) h
  by_cases c0 : k = k'
  case neg =>
    have z0 : (k != k') = true := by simp; omega
    have er : sameF a b = false := by rw [es]; simp [c0]
    simp only [a19, a19_0, a19_1, a19_2, Slots.ofList, s3, reduceIte, Nat.reduceEqDiff, aBin, aInt, negIf, Option.some.injEq, exists_eq_left', Option.map_some, Option.bind_some, y1, y2, y3, y4, ← eh1, ← eh2, ← ei2, ← ei3, aFieldAddr, Nat.zero_add, aPick, aStr, p0, p1, p2, p3, p4, p5, q0, q1, q2, q3, q4, q5, n1, n2, n3, n4, z0]
    exact finB (by simp only [get_put, reduceIte, Nat.reduceEqDiff]; rw [er]) rfl
  have z0 : (k != k') = false := by simp; omega
  by_cases c1 : i = i'
  case neg =>
    have z1 : (i != i') = true := by simp; omega
    have er : sameF a b = false := by rw [es]; simp [c1]
    simp only [a19, a19_0, a19_1, a19_2, Slots.ofList, s3, reduceIte, Nat.reduceEqDiff, aBin, aInt, negIf, Option.some.injEq, exists_eq_left', Option.map_some, Option.bind_some, y1, y2, y3, y4, ← eh1, ← eh2, ← ei2, ← ei3, aFieldAddr, Nat.zero_add, aPick, aStr, p0, p1, p2, p3, p4, p5, q0, q1, q2, q3, q4, q5, n1, n2, n3, n4, z0, z1]
    exact finB (by simp only [get_put, reduceIte, Nat.reduceEqDiff]; rw [er]) rfl
  have z1 : (i != i') = false := by simp; omega
  by_cases c2 : s = s'
  case neg =>
    have z2 : (!(s == s')) = true := by simpa using c2
    have er : sameF a b = false := by rw [es]; simp [c2]
    simp only [a19, a19_0, a19_1, a19_2, Slots.ofList, s3, reduceIte, Nat.reduceEqDiff, aBin, aInt, negIf, Option.some.injEq, exists_eq_left', Option.map_some, Option.bind_some, y1, y2, y3, y4, ← eh1, ← eh2, ← ei2, ← ei3, aFieldAddr, Nat.zero_add, aPick, aStr, p0, p1, p2, p3, p4, p5, q0, q1, q2, q3, q4, q5, n1, n2, n3, n4, z0, z1, z2]
    exact finB (by simp only [get_put, reduceIte, Nat.reduceEqDiff]; rw [er]) rfl
  have z2 : (!(s == s')) = false := by simpa using c2
  by_cases c3 : c = c'
  case neg =>
    have z3 : (c != c') = true := by simp; omega
    have er : sameF a b = false := by rw [es]; simp [c3]
    simp only [a19, a19_0, a19_1, a19_2, Slots.ofList, s3, reduceIte, Nat.reduceEqDiff, aBin, aInt, negIf, Option.some.injEq, exists_eq_left', Option.map_some, Option.bind_some, y1, y2, y3, y4, ← eh1, ← eh2, ← ei2, ← ei3, aFieldAddr, Nat.zero_add, aPick, aStr, p0, p1, p2, p3, p4, p5, q0, q1, q2, q3, q4, q5, n1, n2, n3, n4, z0, z1, z2, z3]
    exact finB (by simp only [get_put, reduceIte, Nat.reduceEqDiff]; rw [er]) rfl
  have z3 : (c != c') = false := by simp; omega
  by_cases c4 : ns.length = ns'.length
  case neg =>
    have z4 : ((ns.length : Int) != (ns'.length : Int)) = true := by simp; omega
    have er : sameF a b = false := by rw [es]; simp [c4]
    simp only [a19, a19_0, a19_1, a19_2, Slots.ofList, s3, reduceIte, Nat.reduceEqDiff, aBin, aInt, negIf, Option.some.injEq, exists_eq_left', Option.map_some, Option.bind_some, y1, y2, y3, y4, ← eh1, ← eh2, ← ei2, ← ei3, aFieldAddr, Nat.zero_add, aPick, aStr, p0, p1, p2, p3, p4, p5, q0, q1, q2, q3, q4, q5, n1, n2, n3, n4, z0, z1, z2, z3, z4]
    exact finB (by simp only [get_put, reduceIte, Nat.reduceEqDiff]; rw [er]) rfl
  have z4 : ((ns.length : Int) != (ns'.length : Int)) = false := by simp; omega
  by_cases c5 : ar.length = ar'.length
  case neg =>
    have z5 : ((ar.length : Int) != (ar'.length : Int)) = true := by simp; omega
    have er : sameF a b = false := by rw [es]; simp [c5]
    simp only [a19, a19_0, a19_1, a19_2, Slots.ofList, s3, reduceIte, Nat.reduceEqDiff, aBin, aInt, negIf, Option.some.injEq, exists_eq_left', Option.map_some, Option.bind_some, y1, y2, y3, y4, ← eh1, ← eh2, ← ei2, ← ei3, aFieldAddr, Nat.zero_add, aPick, aStr, p0, p1, p2, p3, p4, p5, q0, q1, q2, q3, q4, q5, n1, n2, n3, n4, z0, z1, z2, z3, z4, z5]
    exact finB (by simp only [get_put, reduceIte, Nat.reduceEqDiff]; rw [er]) rfl
  have z5 : ((ar.length : Int) != (ar'.length : Int)) = false := by simp; omega
  have er : sameF a b = (ns == ns' && sameFs ar ar') := by rw [es]; simp [c0, c1, c2, c3, c4, c5]
  simp only [a19, a19_0, a19_1, a19_3, Slots.ofList, s3, reduceIte, Nat.reduceEqDiff, aBin, aInt, negIf, Option.some.injEq, exists_eq_left', Option.map_some, Option.bind_some, y1, y2, y3, y4, ← eh1, ← eh2, ← ei2, ← ei3, aFieldAddr, Nat.zero_add, aPick, aStr, p0, p1, p2, p3, p4, p5, q0, q1, q2, q3, q4, q5, n1, n2, n3, n4, z0, z1, z2, z3, z4, z5]
  refine same_nums (i2 := i2) (i3 := i3) p4 q4 c4 sn (ns.length + 1) 0 _ (by omega) (by omega) ?_ ?_ ?_ fun σ' => ⟨fun g e => ?_, fun g2 g3 e => ?_⟩
  · simp only [get_put, reduceIte, Nat.reduceEqDiff]
  · simp only [get_put, reduceIte, Nat.reduceEqDiff]
  · simp only [get_put, reduceIte, Nat.reduceEqDiff]; rfl
  · have e : (ns == ns') = false := by simpa using e
    simp only [s3, reduceIte, Nat.reduceEqDiff, aBin, aInt, negIf, Option.some.injEq, exists_eq_left', Option.map_some, Option.bind_some]
    exact finB g (by rw [er, e]; rfl)
  have e : (ns == ns') = true := by simpa using e
  rw [e, Bool.true_and] at er
  simp only [a19_9, s3, reduceIte, Nat.reduceEqDiff, aBin, aInt, negIf, Option.some.injEq, exists_eq_left', Option.map_some, Option.bind_some]
  refine same_args (i2 := i2) (i3 := i3) p5 q5 hP sr' c5 sa (ar.length + 1) 0 _ (by omega) (by omega) ?_ ?_ ?_ fun σ' => ⟨fun g e => ?_, fun e => ?_⟩
  · simp only [get_put, reduceIte, Nat.reduceEqDiff, g2]
  · simp only [get_put, reduceIte, Nat.reduceEqDiff, g3]
  · simp only [get_put, reduceIte, Nat.reduceEqDiff]; rfl
  · simp only [s3, reduceIte, Nat.reduceEqDiff, aBin, aInt, negIf, Option.some.injEq, exists_eq_left', Option.map_some, Option.bind_some]
    exact finB g (by rw [er]; rw [List.drop_zero, List.drop_zero] at e; rw [e])
  · rw [List.drop_zero, List.drop_zero] at e
    simp only [a19_15, s3, reduceIte, Nat.reduceEqDiff, aBin, aInt, negIf, Option.some.injEq, exists_eq_left', Option.map_some, Option.bind_some]
    exact finB (by simp only [get_put, reduceIte, Nat.reduceEqDiff]; rw [er, e]) rfl
end Go.Bf

set_option linter.unusedVariables false
set_option linter.unusedSimpArgs false
namespace Go.Bf
open Go.AM
theorem same_er : ∀ a b : Tm, sameF a b = true ↔ er a = er b := by
  refine tm_ind fun k i s c nf ns af ar ih b => ?_
  rcases b with ⟨k', i', s', c', nf', ns', af', ar'⟩
  have go : ∀ (l m : List Tm), (∀ t, t ∈ l → t ∈ ar) → (sameFs l m = true ↔ ers l = ers m) := by
    intro l
    induction l with
    | nil => intro m _; cases m <;> simp [sameFs, ers]
    | cons x l ihl =>
      intro m hl
      cases m with
      | nil => simp [sameFs, ers]
      | cons y m =>
        rw [sameFs, Bool.and_eq_true, ih x (hl x (by simp)) y, ihl m (fun t h => hl t (by simp [h])), ers, ers, List.cons.injEq]
  have g := go ar ar' (fun _ h => h)
  rw [sameF, er, er]
  simp only [Bool.and_eq_true, beq_iff_eq, g, Tm.mk.injEq, true_and]
  constructor
  · rintro ⟨⟨⟨⟨⟨⟨⟨h1, h2⟩, h3⟩, h4⟩, _⟩, _⟩, h7⟩, h8⟩
    exact ⟨h1, h2, h3, h4, h7, h8⟩
  · rintro ⟨h1, h2, h3, h4, h7, h8⟩
    have : ar.length = ar'.length := by rw [← ers_length ar, h8, ers_length]
    exact ⟨⟨⟨⟨⟨⟨⟨h1, h2⟩, h3⟩, h4⟩, by rw [h7]⟩, this⟩, h7⟩, h8⟩
theorem er_kind (t : Tm) : (er t).kind = t.kind := by cases t; rfl
theorem ord_er : ∀ a b : Tm, ordF (er a) (er b) = ordF a b := by
  refine tm_ind fun k i s c nf ns af ar ih b => ?_
  rcases b with ⟨k', i', s', c', nf', ns', af', ar'⟩
  have g1 : ∀ (l m : List Tm), (∀ t, t ∈ l → t ∈ ar) → ordFs (ers l) (ers m) = ordFs l m := by
    intro l
    induction l with
    | nil => intro m _; cases m <;> rfl
    | cons x l ihl =>
      intro m hl
      cases m with
      | nil => rfl
      | cons y m => rw [ers, ers, ordFs, ordFs, ih x (hl x (by simp)) y, ihl m (fun t h => hl t (by simp [h]))]
  have g2 : ∀ (l m : List Tm), (∀ t, t ∈ l → t ∈ ar) → ordL (ers l) (ers m) = ordL l m := by
    intro l
    induction l with
    | nil => intro m _; cases m <;> rfl
    | cons x l ihl =>
      intro m hl
      cases m with
      | nil => rfl
      | cons y m => rw [ers, ers, ordL, ordL, ih x (hl x (by simp)) y, ihl m (fun t h => hl t (by simp [h])), ers_length, ers_length, er_kind, er_kind]
  rw [er, er, ordF, ordF, g1 ar ar' (fun _ h => h), g2 ar ar' (fun _ h => h), ers_length, ers_length]
theorem cmpI_anti (a b : Int) : cmpI b a = - cmpI a b := by
  unfold cmpI
  repeat' split
  all_goals omega
theorem cmpI_zero {a b : Int} (h : cmpI a b = 0) : a = b := by
  rw [cmpI] at h
  split at h
  · cases h
  split at h
  · cases h
  · omega
theorem cmpL_anti : ∀ a b : List UInt8, cmpL b a = - cmpL a b
  | [], [] => rfl
  | [], _ :: _ => rfl
  | _ :: _, [] => rfl
  | a :: l, b :: m => by
    have ih := cmpL_anti l m
    rw [cmpL, cmpL, ih]
    repeat' split
    all_goals omega
theorem cmpS_anti (a b : List UInt8) : cmpS b a = - cmpS a b := by rw [← cmpL_eq, ← cmpL_eq]; exact cmpL_anti a b
theorem cmpS_zero {a b : List UInt8} (h : cmpS a b = 0) : a = b := by
  rw [cmpS] at h
  split at h
  · cases h
  split at h
  · rename_i e; exact eq_of_beq e
  · cases h
theorem cmpNs_anti : ∀ a b : List Int, cmpNs b a = - cmpNs a b
  | [], [] => rfl
  | [], _ :: _ => rfl
  | _ :: _, [] => rfl
  | a :: l, b :: m => by
    rw [cmpNs, cmpNs, cmpI_anti a b, cmpNs_anti l m]
    by_cases h : cmpI a b = 0
    · rw [if_neg (by omega), if_neg (by omega)]
    · rw [if_pos (by omega), if_pos (by omega)]
theorem cmpNs_zero : ∀ {a b : List Int}, cmpNs a b = 0 → a = b
  | [], [], _ => rfl
  | [], _ :: _, h => by cases h
  | _ :: _, [], h => by cases h
  | a :: l, b :: m, h => by
    rw [cmpNs] at h
    split at h
    · rename_i h2; exact absurd h h2
    · rename_i h2
      rw [cmpI_zero (Decidable.not_not.1 h2), cmpNs_zero h]
theorem orI2_anti (a b : Int) : orI [-a, -b] = - orI [a, b] := by
  by_cases h1 : a = 0 <;> by_cases h2 : b = 0 <;> simp [orI, h1, h2]
theorem orI3_anti (a b c : Int) : orI [-a, -b, -c] = - orI [a, b, c] := by
  by_cases h1 : a = 0 <;> by_cases h2 : b = 0 <;> by_cases h3 : c = 0 <;> simp [orI, h1, h2, h3]
theorem orI2_zero {a b : Int} (h : orI [a, b] = 0) : a = 0 ∧ b = 0 := by
  by_cases h1 : a = 0 <;> by_cases h2 : b = 0 <;> simp_all [orI]
theorem orI3_zero {a b c : Int} (h : orI [a, b, c] = 0) : a = 0 ∧ b = 0 ∧ c = 0 := by
  by_cases h1 : a = 0 <;> by_cases h2 : b = 0 <;> by_cases h3 : c = 0 <;> simp_all [orI]
theorem ord_anti : ∀ a b : Tm, ordF b a = - ordF a b := by
  refine tm_ind fun k i s c nf ns af ar ih b => ?_
  rcases b with ⟨k', i', s', c', nf', ns', af', ar'⟩
  have g1 : ∀ (l m : List Tm), (∀ t, t ∈ l → t ∈ ar) → ordFs m l = - ordFs l m := by
    intro l
    induction l with
    | nil => intro m _; cases m <;> rfl
    | cons x l ihl =>
      intro m hl
      cases m with
      | nil => rfl
      | cons y m =>
        rw [ordFs, ordFs, ih x (hl x (by simp)) y, ihl m (fun t h => hl t (by simp [h]))]
        by_cases h : ordF x y = 0
        · rw [if_neg (by omega), if_neg (by omega)]
        · rw [if_pos (by omega), if_pos (by omega)]
  have g2 : ∀ (l m : List Tm), (∀ t, t ∈ l → t ∈ ar) → ordL m l = - ordL l m := by
    intro l
    induction l with
    | nil => intro m _; cases m <;> rfl
    | cons x l ihl =>
      intro m hl
      cases m with
      | nil => rfl
      | cons y m =>
        rw [ordL, ordL, ih x (hl x (by simp)) y, ihl m (fun t h => hl t (by simp [h]))]
        by_cases h1 : l.length = 0
        · by_cases h2 : m.length = 0
          · rw [if_pos h1, if_pos h2, if_pos h2, if_pos h1]
          · rw [if_neg h2, if_pos h1, if_pos h1, if_neg h2, cmpI_anti]
        · by_cases h2 : m.length = 0
          · rw [if_pos h2, if_neg h1, if_neg h1, if_pos h2, cmpI_anti]
          · rw [if_neg h2, if_neg h1, if_neg h1, if_neg h2]
            by_cases h : ordF x y = 0
            · rw [if_neg (by omega), if_neg (by omega)]
            · rw [if_pos (by omega), if_pos (by omega)]
  have f1 := g1 ar ar' (fun _ h => h)
  have f2 := g2 ar ar' (fun _ h => h)
  rw [ordF, ordF]
  by_cases hk : k = k'
  · subst hk
    rw [if_neg (show ¬ k ≠ k by simp), if_neg (show ¬ k ≠ k by simp), cmpI_anti i i', cmpS_anti s s', cmpI_anti c c', cmpNs_anti ns ns', cmpI_anti (ar.length : Int) ar'.length, f1, f2, orI3_anti, orI2_anti]
    split
    · rfl
    split
    · rfl
    split
    · rfl
    split
    · rfl
    split
    · rfl
    · rfl
  · rw [if_pos (fun h => hk h.symm), if_pos hk, cmpI_anti]
/-- of terms that are ones: the order's zero is sameness -/
theorem ord_zero : ∀ a b : Tm, Wf a → Wf b → ordF a b = 0 → er a = er b := by
  refine tm_ind fun k i s c nf ns af ar ih b wa wb h => ?_
  rcases b with ⟨k', i', s', c', nf', ns', af', ar'⟩
  have ka := wa.1.1
  have kb := wb.1.1
  have wla := wa.2
  have wlb := wb.2
  have g1 : ∀ (l m : List Tm), (∀ t, t ∈ l → t ∈ ar) → Wfs l → Wfs m → ordFs l m = 0 → ers l = ers m := by
    intro l
    induction l with
    | nil =>
      intro m _ _ _ h
      cases m with
      | nil => rfl
      | cons y m => cases h
    | cons x l ihl =>
      intro m hl w1 w2 h
      cases m with
      | nil => cases h
      | cons y m =>
        rw [ordFs] at h
        split at h
        · rename_i h2; exact absurd h h2
        · rename_i h2
          rw [ers, ers, ih x (hl x (by simp)) y w1.1 w2.1 (Decidable.not_not.1 h2), ihl m (fun t h => hl t (by simp [h])) w1.2 w2.2 h]
  have g2 : ∀ (l m : List Tm), (∀ t, t ∈ l → t ∈ ar) → Wfs l → Wfs m → l ≠ [] → m ≠ [] → lastNot7 l = true → lastNot7 m = true → ordL l m = 0 → ers l = ers m := by
    intro l
    induction l with
    | nil => intro m _ _ _ h; exact absurd rfl h
    | cons x l ihl =>
      intro m hl w1 w2 _ hm l7 m7 h
      cases m with
      | nil => exact absurd rfl hm
      | cons y m =>
        rw [ordL] at h
        split at h
        · rename_i h1
          have e1 : l = [] := List.length_eq_zero_iff.1 h1
          subst e1
          split at h
          · rename_i h2
            have e2 : m = [] := List.length_eq_zero_iff.1 h2
            subst e2
            rw [ers, ers, ih x (hl x (by simp)) y w1.1 w2.1 h]; rfl
          · have := cmpI_zero h
            rw [lastNot7] at l7
            simp [this] at l7
        · rename_i h1
          split at h
          · rename_i h2
            have e2 : m = [] := List.length_eq_zero_iff.1 h2
            subst e2
            have := cmpI_zero h
            rw [lastNot7] at m7
            simp [← this] at m7
          · rename_i h2
            split at h
            · rename_i h3; exact absurd h h3
            · rename_i h3
              have n1 : l ≠ [] := fun e => h1 (by rw [e]; rfl)
              have n2 : m ≠ [] := fun e => h2 (by rw [e]; rfl)
              have e7 : ∀ (x : Tm) (l : List Tm), l ≠ [] → lastNot7 (x :: l) = lastNot7 l := by
                intro x l hl
                cases l with
                | nil => exact absurd rfl hl
                | cons y l => rfl
              rw [ers, ers, ih x (hl x (by simp)) y w1.1 w2.1 (Decidable.not_not.1 h3), ihl m (fun t h => hl t (by simp [h])) w1.2 w2.2 n1 n2 (by rw [← e7 x l n1]; exact l7) (by rw [← e7 y m n2]; exact m7) h]
  rw [ordF] at h
  split at h
  · rename_i hk; exact absurd (cmpI_zero h) hk
  rename_i hk
  have hk := Decidable.not_not.1 hk
  subst hk
  rw [kindOk] at ka kb
  rw [er, er]
  split at h
  · rename_i e; subst e
    have := cmpI_zero h
    simp [emptyF] at ka kb
    rw [this, ka.1.1, ka.1.2.1, ka.1.2.2, ka.2, kb.1.1, kb.1.2.1, kb.1.2.2, kb.2]
  rename_i k1
  rw [if_neg k1] at ka kb
  split at h
  · rename_i e; subst e
    have := cmpS_zero h
    simp [emptyF] at ka kb
    rw [this, ka.1.1.1, ka.1.1.2, ka.1.2, ka.2, kb.1.1.1, kb.1.1.2, kb.1.2, kb.2]
  rename_i k2
  rw [if_neg k2] at ka kb
  split at h
  · rename_i e
    obtain ⟨h1, h2, h3⟩ := orI3_zero h
    have p1 := cmpS_zero h1
    have p2 := cmpI_zero h2
    have p3 := cmpNs_zero h3
    rcases e with rfl | rfl
    · simp [emptyF] at ka kb
      rw [p1, p2, p3, ka.1.1, ka.1.2, kb.1.1, kb.1.2]
    · simp [emptyF] at ka kb
      rw [p1, p2, p3, ka.1.1, ka.1.2, kb.1.1, kb.1.2]
  rename_i k34
  rw [if_neg (fun e => k34 (.inl e)), if_neg (fun e => k34 (.inr e))] at ka kb
  split at h
  · rename_i e; subst e
    obtain ⟨_, h2⟩ := orI2_zero h
    have := g1 ar ar' (fun _ h => h) wla wlb h2
    simp [emptyF] at ka kb
    rw [this, ka.1.1, ka.1.2.1, ka.1.2.2, ka.2, kb.1.1, kb.1.2.1, kb.1.2.2, kb.2]
  rename_i k5
  rw [if_neg k5] at ka kb
  split at h
  · rename_i e; subst e
    have n1 := wf_list (i := i) (s := s) (c := c) (nf := nf) (ns := ns) (af := af) (ar := ar) wa
    have n2 := wf_list (i := i') (s := s') (c := c') (nf := nf') (ns := ns') (af := af') (ar := ar') wb
    have := g2 ar ar' (fun _ h => h) wla wlb n1.1 n2.1 n1.2 n2.2 h
    simp [emptyF] at ka kb
    rw [this, ka.1.1.1.1, ka.1.1.1.2.1, ka.1.1.1.2.2, ka.1.1.2, kb.1.1.1.1, kb.1.1.1.2.1, kb.1.1.1.2.2, kb.1.1.2]
  rename_i k7
  split at ka
  · rename_i e; subst e
    simp [emptyF] at ka kb
    rw [ka.1.1.1, ka.1.1.2.1, ka.1.1.2.2, ka.1.2, ka.2, kb.1.1.1, kb.1.1.2.1, kb.1.1.2.2, kb.1.2, kb.2]
  · first | cases ka | (rw [if_neg k7] at ka; cases ka)
end Go.Bf

set_option linter.unusedVariables false
set_option linter.unusedSimpArgs false
set_option maxRecDepth 20000
namespace Go.Bf
open Go.AM
def zeroT : Tm := .mk 0 0 [] 0 none [] none []
/-- the arguments are looked at: no fault -/
theorem call_loop {ts : List Tm} (hok : Oks ts) (hall : ∀ t, t ∈ ts → isT t = true) {v : AV} (kv : Sl v ts) (hlen : ts.length < 1000000) {Q : AExit → St → Prop} :
    ∀ (f i : Nat) (σ : Slots) (h : Heap), ts.length - i < f → i ≤ ts.length → HeapOk h → σ.get 25 = v → σ.get 26 = .int .i64 ts.length → σ.get 27 = .int .i64 i →
    (∀ σ' h', HeapOk h' → h.le h' → (∀ n, n < 8 → σ'.get n = σ.get n) → Q (.exit 0) ⟨σ', h'⟩) → WPr env a18_l13 ⟨σ, h⟩ Q := by
  intro f
  induction f with
  | zero => intro i σ h h1; omega
  | succ f ih =>
    intro i σ h hf hi ho g25 g26 g27 hQ
    refine wpr_round' fun b hb => ?_
    by_cases c1 : i < ts.length
    · have z0 : ((i : Int) < (ts.length : Int)) = True := eq_true (by omega)
      have zi : IntKind.wrap .i64 ((i : Int) + 1) = ((i + 1 : Nat) : Int) := wrap_nat (by omega) (by omega)
      have lx := kv.idx c1
      have ld := ld_args c1 h
      obtain ⟨h3, st3, ho3, le3, at3⟩ := box_t ho ts[i]
      have lt3 := ld_t at3
      have q1 := eq_chk ts[i]
      rw [hall _ (List.getElem_mem c1)] at q1
      simp only [a18_l13, a18_5, a18_6, a18_7, a18_8, a18_12, wpc_draw, s3, reduceIte, Nat.reduceEqDiff, aBin, aInt, negIf, Option.some.injEq, exists_eq_left', Option.map_some, Option.bind_some, g25, g26, g27, z0, zi, lx, ld, st3, lt3, wc_eq (check_spec ts[i] (hok.get (List.getElem_mem c1)) _), q1, Bool.not_true]
      subst hb
      refine ih (i + 1) _ h3 (by omega) (by omega) ho3 ?_ ?_ ?_ fun σ' h' p1 p2 p3 => hQ σ' h' p1 ⟨Nat.le_trans le3.1 p2.1, fun id gen cs e => p2.2 _ _ _ (le3.2 _ _ _ e)⟩ fun n hn => ?_
      · simp only [get_put, reduceIte, Nat.reduceEqDiff, g25]
      · simp only [get_put, reduceIte, Nat.reduceEqDiff, g26]
      · simp only [get_put, reduceIte, Nat.reduceEqDiff]
      · rw [p3 n hn]
        simp only [get_put]
        by_cases e8 : n = 8
        · omega
        repeat rw [if_neg (by omega)]
    · have z0 : ((i : Int) < (ts.length : Int)) = False := eq_false (by omega)
      simp only [a18_l13, a18_5, wpc_draw, s3, reduceIte, Nat.reduceEqDiff, aBin, aInt, negIf, Option.some.injEq, exists_eq_left', Option.map_some, Option.bind_some, g26, g27, z0]
      refine hQ _ h ho (Heap.le_refl h) fun n hn => ?_
      simp only [get_put]
      rw [if_neg (by omega)]
theorem st_t {h : Heap} {i : Nat} {u t : Tm} (hat : h.at_ i 0 = some (tc u)) : aStore h 6 (.ptr i 0 0) (.agg (tc t)) = some ⟨.undef, h.upd i 0 (tc t), .write⟩ := by
  cases u with
  | mk k i s c nf ns af ar => cases t with
    | mk k' i' s' c' nf' ns' af' ar' => exact st6 hat
section
variable {name : List UInt8} {ts : List Tm} {v : AV} (hok : Oks ts) (hall : ∀ t, t ∈ ts → isT t = true) (kv : Sl v ts) (hlen : ts.length < 1000000) {a b c d : AV} (hf : findV name ts.length = .tup [.agg [a, b, c, d], .bool true])
include hok hall kv hlen hf
theorem callh {Q : AExit → St → Prop} (hQ : ∀ σ h i4, HeapOk h → h.at_ i4 0 = some zero6 → σ.get 0 = .str name → σ.get 1 = v → σ.get 4 = .ptr i4 0 0 →
      wpc env (.seq (.ops a18_14) (.seq (.seq (.ops a18_15) (.cond (.t 62) (.ops a18_16) .skip)) (.seq (.seq (.ops a18_17) (.cond (.t 64) (.seq (.ops a18_18) .ret) .skip)) (.seq (.ops a18_19) .ret)))) ⟨σ, h⟩ Q) :
    wpc env a18.body ⟨Slots.ofList 0 [.str name, v] .empty, .empty⟩ Q := by
  obtain ⟨i4, e4⟩ : ∃ i4, i4 = Heap.empty.next := ⟨_, rfl⟩
  obtain ⟨h1, eh1⟩ : ∃ h1, h1 = Heap.empty.new [.int .i64 0, .int .i64 0, .str [], .int .u32 0, .nils, .nils] := ⟨_, rfl⟩
  have ho1 : HeapOk h1 := by rw [eh1]; exact HeapOk.empty.new _
  have a1 : h1.at_ i4 0 = some zero6 := by rw [eh1, e4]; exact at_new _
  obtain ⟨h2, s2, ho2, hl2, a2⟩ := box4 ho1 a b c d
  have fs : ∀ h, WC env 13 [.str name, .int .i64 ts.length] h (fun o => o = .ret ⟨.tup [.agg [a, b, c, d], .bool true], h, .none⟩) := fun h => by rw [← hf]; exact find_spec h name ts.length
  have nl := kv.len
  have eb : a18.body = (.seq (.ops a18_0) (.seq (.seq (.ops a18_1) (.seq (.ops a18_2) (.cond (.t 22) (.seq (.ops a18_3) .ret) .skip))) (.seq (.seq (.ops a18_4) (.block 0 (.loop a18_l13))) (.seq (.ops a18_14) (.seq (.seq (.ops a18_15) (.cond (.t 62) (.ops a18_16) .skip)) (.seq (.seq (.ops a18_17) (.cond (.t 64) (.seq (.ops a18_18) .ret) .skip)) (.seq (.ops a18_19) .ret))))))) := rfl
  rw [eb, wpc_seq]
  obtain ⟨R, eR⟩ : ∃ R, R = AC.seq (.ops a18_14) (.seq (.seq (.ops a18_15) (.cond (.t 62) (.ops a18_16) .skip)) (.seq (.seq (.ops a18_17) (.cond (.t 64) (.seq (.ops a18_18) .ret) .skip)) (.seq (.ops a18_19) .ret))) := ⟨_, rfl⟩
  rw [← eR]
  rw [← eR] at hQ
  simp only [a18_0, a18_1, a18_2, a18_4, Slots.ofList, wpc_draw, s3, reduceIte, Nat.reduceEqDiff, aBin, aInt, negIf, Option.some.injEq, exists_eq_left', Option.map_some, Option.bind_some, ← eh1, ← e4, nl, wc_eq (fs _), aExtract, ex0, ex1, s2, aUn, Bool.not_true]
  refine call_loop hok hall kv hlen (ts.length + 1) 0 _ h2 (by omega) (by omega) ho2 ?_ ?_ ?_ fun σ' h' p1 p2 p3 => ?_
  · simp only [get_put, reduceIte, Nat.reduceEqDiff]
  · simp only [get_put, reduceIte, Nat.reduceEqDiff]
  · simp only [get_put, reduceIte, Nat.reduceEqDiff]; rfl
  refine hQ σ' h' i4 p1 (p2.2 _ _ _ (hl2.2 _ _ _ a1)) ?_ ?_ ?_
  · rw [p3 0 (by omega)]; simp only [get_put, reduceIte, Nat.reduceEqDiff]
  · rw [p3 1 (by omega)]; simp only [get_put, reduceIte, Nat.reduceEqDiff]
  · rw [p3 4 (by omega)]; simp only [get_put, reduceIte, Nat.reduceEqDiff]
theorem call_fine {r : Tm} (okr : r.Ok) (hr : isT r = true) (hc : ∀ h, WC env 38 [.str name, v] h (fun o => o = .ret ⟨.tup [.agg (tc r), .int .i64 0], h, .none⟩)) :
    ∃ r' : Tm, r'.Ok ∧ er r' = er r ∧ ∀ h, WC env 18 [.str name, v] h (fun o => o = .ret ⟨.tup [.agg (tc r'), .nili], h, .none⟩) := by
  obtain ⟨r', ok', er', wc'⟩ := copy_spec r okr (isT_wf hr)
  refine ⟨r', ok', er', fun h => call_pure rfl rfl rfl (by simp only [AV.noRefs, AV.noRef, kv.noRef, Bool.and_self]) (callh hok hall kv hlen hf fun σ h1 i4 ho1 a4 g0 g1 g4 => ?_)⟩
  obtain ⟨h2, s2, ho2, hl2, a2⟩ := box_t ho1 r
  have l2 := ld_t a2
  have sx := st_t (t := r') (u := zeroT) (hl2.2 _ _ _ a4)
  have l6 : aLoad (h2.upd i4 0 (tc r')) true 6 (.ptr i4 0 0) = some ⟨.agg (tc r'), h2.upd i4 0 (tc r'), .read⟩ := ld_t at_upd
  have q1 := eq_chk r
  rw [hr] at q1
  simp only [a18_14, a18_15, a18_17, a18_19, wpc_draw, s3, reduceIte, Nat.reduceEqDiff, aBin, aInt, negIf, Option.some.injEq, exists_eq_left', Option.map_some, Option.bind_some, g0, g1, g4, wc_eq (hc _), aExtract, ex0, ex1, s2, Int.reduceBEq, Int.reduceBNe, l2, wc_eq (check_spec r okr _), q1, Bool.not_true, aPick, wc_eq (wc' _), sx]
  exact ⟨[.agg (tc r'), .nili], .tup [.agg (tc r'), .nili], by simp only [a18, Env.results, Option.map_some, get_put, reduceIte, Nat.reduceEqDiff, g4, l6, Option.bind_some] <;> rfl, (frz_noRef (v := .tup [.agg (tc r'), .nili]) (by simp only [AV.noRef, AV.noRefs, noRef_tc, Bool.and_self])).2 rfl, rfl⟩
end
end Go.Bf

set_option linter.unusedVariables false
set_option linter.unusedSimpArgs false
namespace Go.Bf
open Go.AM
theorem last_er : ∀ l : List Tm, lastNot7 (ers l) = lastNot7 l
  | [] => rfl
  | [t] => by rw [ers, ers, lastNot7, lastNot7, er_kind]
  | t :: u :: l => last_er (u :: l)
theorem empty_er (t : Tm) (x y z : Bool) : emptyF (er t) x y z = emptyF t x y z := by
  cases t; rw [er, emptyF, emptyF, ers_length]
theorem kindOk_er (t : Tm) : kindOk (er t) = kindOk t := by
  cases t with
  | mk k i s c nf ns af ar =>
    have e := empty_er (.mk k i s c nf ns af ar)
    rw [er] at e ⊢
    rw [kindOk, kindOk]
    simp only [e, ers_length, last_er]
theorem form_er (t : Tm) : formF (er t) = formF t := by
  cases t with
  | mk k i s c nf ns af ar =>
    have e := kindOk_er (.mk k i s c nf ns af ar)
    rw [er] at e ⊢
    rw [formF, formF, e]
theorem walk_er : ∀ t deep n d, walkF (er t) deep n d = walkF t deep n d := by
  refine tm_ind fun k i s c nf ns af ar ih deep n d => ?_
  have go : ∀ (l : List Tm), (∀ t, t ∈ l → t ∈ ar) → ∀ deep n d, walkFs (ers l) deep n d = walkFs l deep n d := by
    intro l
    induction l with
    | nil => intro _ _ _ _; rfl
    | cons t l ihl =>
      intro hl deep n d
      rw [ers, walkFs, walkFs, ih t (hl t (by simp))]
      split
      · exact ihl (fun t h => hl t (by simp [h])) _ _ _
      · rfl
  have e := form_er (.mk k i s c nf ns af ar)
  rw [er] at e ⊢
  rw [walkF, walkF, e, go ar (fun _ h => h)]
theorem chk_er (t : Tm) : chkF (er t) = chkF t := by rw [chkF, walk_er, ← chkF]
theorem chk_same {a b : Tm} (h : er a = er b) : chkF a = chkF b := by rw [← chk_er a, h, chk_er]
theorem isT_same {a b : Tm} (h : er a = er b) : isT a = isT b := by rw [isT, isT, chk_same h]
theorem ord_same {a b a' b' : Tm} (h : er a = er a') (h2 : er b = er b') : ordF a b = ordF a' b' := by rw [← ord_er a b, h, h2, ord_er]
theorem same_of {a b : Tm} (h : er a = er b) : sameF a b = true := (same_er a b).2 h
theorem ord_self (a : Tm) : ordF a a = 0 := by have := ord_anti a a; omega
end Go.Bf

set_option linter.unusedVariables false
set_option linter.unusedSimpArgs false
set_option maxRecDepth 20000
namespace Go.Bf
open Go.AM
def nsAV : Tm → AV | .mk _ _ _ _ nf ns _ _ => slAV nf ns.length (u32s ns)
def arAV : Tm → AV | .mk _ _ _ _ _ _ af ar => slAV af ar.length (tcs ar)
def Tm.int : Tm → Int | .mk _ i _ _ _ _ _ _ => i
def Tm.cre : Tm → Int | .mk _ _ _ c _ _ _ _ => c
theorem ldc_t {t : Tm} : ldCells true 6 (tc t) = some (.agg (tc t)) := by cases t; rfl
theorem ldc_k {t : Tm} : ldCells false 1 (tc t) = some (.int .i64 t.kind) := by cases t; rfl
theorem ldc_i {t : Tm} : ldCells false 1 ((tc t).drop 1) = some (.int .i64 t.int) := by cases t; rfl
theorem ldc_s {t : Tm} : ldCells false 1 ((tc t).drop 2) = some (.str t.text) := by cases t; rfl
theorem ldc_c {t : Tm} : ldCells false 1 ((tc t).drop 3) = some (.int .u32 t.cre) := by cases t; rfl
theorem ldc_n {t : Tm} : ldCells false 1 ((tc t).drop 4) = some (nsAV t) := by cases t; rfl
theorem ldc_a {t : Tm} : ldCells false 1 ((tc t).drop 5) = some (arAV t) := by cases t; rfl
theorem row_arAV {t : Tm} : (arAV t).row = some [arAV t] := by
  cases t with
  | mk k i s c nf ns af ar => cases af with
    | none => cases ar <;> rfl
    | some b => rfl
theorem fill12t {a b : Tm} : aFill [.int .i64 0, .int .i64 0, .str [], .int .u32 0, .nils, .nils, .int .i64 0, .int .i64 0, .str [], .int .u32 0, .nils, .nils] [(0, 6, .agg (tc a)), (6, 6, .agg (tc b))] = some (tc a ++ tc b) := by
  cases a; cases b; rfl
theorem fill6t {a : Tm} : aFill [.int .i64 0, .int .i64 0, .str [], .int .u32 0, .nils, .nils] [(0, 6, .agg (tc a))] = some (tc a) := by
  cases a; rfl
theorem fill60 : aFill [.int .i64 0, .int .i64 0, .str [], .int .u32 0, .nils, .nils] [] = some zero6 := id rfl
theorem len12t {a b : Tm} : (tc a ++ tc b).length = 12 := by cases a; cases b; rfl
theorem len_zero6 : zero6.length = 6 := id rfl
theorem ldc_z : ldCells true 6 zero6 = some (.agg zero6) := id rfl
theorem noRefs_zero6 : AV.noRefs zero6 = true := id rfl
theorem noRefs_tc {t : Tm} : AV.noRefs (tc t) = true := noRef_tc t
theorem tcs2 (a b : Tm) : tcs [a, b] = tc a ++ tc b := by simp [tcs]
theorem sl_two (a b : Tm) : Sl (.fs true 2 (tc a ++ tc b)) [a, b] := by
  rw [← tcs2]; exact .fs true [a, b]
theorem t3 : type_of% (And.intro (@ldc_t) (And.intro (@ldc_k) (And.intro (@ldc_i) (And.intro (@ldc_s) (And.intro (@ldc_c) (And.intro (@ldc_n) (And.intro (@ldc_a) (And.intro (@row_arAV) (And.intro (@fill12t) (And.intro (@fill6t) (And.intro (@fill60) (And.intro (@len12t) (And.intro (@len_zero6) (And.intro (@ldc_z) (And.intro (@noRefs_zero6) (And.intro (@noRefs_tc) (@tc_length))))))))))))))))) := And.intro (@ldc_t) (And.intro (@ldc_k) (And.intro (@ldc_i) (And.intro (@ldc_s) (And.intro (@ldc_c) (And.intro (@ldc_n) (And.intro (@ldc_a) (And.intro (@row_arAV) (And.intro (@fill12t) (And.intro (@fill6t) (And.intro (@fill60) (And.intro (@len12t) (And.intro (@len_zero6) (And.intro (@ldc_z) (And.intro (@noRefs_zero6) (And.intro (@noRefs_tc) (@tc_length))))))))))))))))
theorem compare_spec (a b : Tm) (oka : a.Ok) (okb : b.Ok) (ta : isT a = true) (tb : isT b = true) (h : Heap) : WC env 64 [.agg (tc a), .agg (tc b)] h (fun o => o = .ret ⟨.int .i64 (ordF a b), h, .none⟩) := by
  refine call_pure rfl rfl rfl (by simp only [h3, List.length_cons, List.length_nil, List.drop_zero, List.drop_succ_cons, Nat.reduceAdd, Nat.le_refl, and_self, true_and, if_true, Bool.and_self, Nat.reduceLeDiff, _root_.eq_self, and_true, t3]) ?_
  simp only [a64, a64_0, a64_1, a64_3, Slots.ofList, wpc_draw, s3, reduceIte, Nat.reduceEqDiff, aBin, aInt, negIf, Option.some.injEq, exists_eq_left', Option.map_some, Option.bind_some, h3, List.length_cons, List.length_nil, List.drop_zero, List.drop_succ_cons, Nat.reduceAdd, Nat.le_refl, and_self, true_and, if_true, Bool.and_self, Nat.reduceLeDiff, _root_.eq_self, and_true, t3, wc_eq (check_spec a oka _), wc_eq (check_spec b okb _), eq_chk, ta, tb, Bool.not_true, wc_eq (ord_spec a oka (isT_wf ta) b okb (isT_wf tb) _)]
theorem rcompare_spec (a b : Tm) (oka : a.Ok) (okb : b.Ok) (ta : isT a = true) (tb : isT b = true) (h : Heap) : WC env 20 [.agg (tc a), .agg (tc b)] h (fun o => o = .ret ⟨.int .i64 (ordF a b), h, .none⟩) := by
  have ra : rlinkAV (chkF a) = .nils := by
    rw [isT] at ta; split at ta
    · rename_i e; rw [e]; rfl
    · cases ta
  have rb : rlinkAV (chkF b) = .nils := by
    rw [isT] at tb; split at tb
    · rename_i e; rw [e]; rfl
    · cases tb
  refine call_pure rfl rfl rfl (by simp only [h3, List.length_cons, List.length_nil, List.drop_zero, List.drop_succ_cons, Nat.reduceAdd, Nat.le_refl, and_self, true_and, if_true, Bool.and_self, Nat.reduceLeDiff, _root_.eq_self, and_true, t3]) ?_
  simp only [a20, a20_0, a20_1, a20_3, Slots.ofList, wpc_draw, s3, reduceIte, Nat.reduceEqDiff, aBin, aInt, negIf, Option.some.injEq, exists_eq_left', Option.map_some, Option.bind_some, h3, List.length_cons, List.length_nil, List.drop_zero, List.drop_succ_cons, Nat.reduceAdd, Nat.le_refl, and_self, true_and, if_true, Bool.and_self, Nat.reduceLeDiff, _root_.eq_self, and_true, t3, wc_eq (rcheck_spec a oka _), wc_eq (rcheck_spec b okb _), ra, rb, eqs_nil, Bool.not_true, wc_eq (rord_spec a oka (isT_wf ta) b okb (isT_wf tb) _)]
def boolT (b : Bool) : Tm := atomT (if b = true then [116, 114, 117, 101] else [102, 97, 108, 115, 101])
theorem truth_spec (b : Bool) (h : Heap) : WC env 62 [.bool b] h (fun o => o = .ret ⟨.agg (tc (boolT b)), h, .none⟩) := by
  cases b <;> exact wc_run (n := 30) (by kernel_rfl)
theorem cmp_eq1 (c : Int) (h : Heap) : WC env 63 [.str [61, 61], .int .i64 c] h (fun o => o = .ret ⟨.bool (c == 0), h, .none⟩) := wc_run (n := 30) (by kernel_rfl)
theorem cmp_lt (c : Int) (h : Heap) : WC env 63 [.str [60], .int .i64 c] h (fun o => o = .ret ⟨.bool (decide (c < 0)), h, .none⟩) := wc_run (n := 30) (by kernel_rfl)
theorem cmp_gt (c : Int) (h : Heap) : WC env 63 [.str [62], .int .i64 c] h (fun o => o = .ret ⟨.bool (decide (c > 0)), h, .none⟩) := wc_run (n := 30) (by kernel_rfl)
/-- both arguments, as they are read -/
theorem sl2 {v : AV} {a b : Tm} (k : Sl v [a, b]) : ∃ A B, aIdxAddr 6 v (.int .i64 0) = some (.fp A) ∧ aIdxAddr 6 v (.int .i64 1) = some (.fp B) ∧ ldCells true 6 A = some (.agg (tc a)) ∧ ldCells true 6 B = some (.agg (tc b)) ∧ ∀ h, aLenOp false h v = some ⟨.int .i64 2, h, .none⟩ := by
  cases k with
  | fs b' l => exact ⟨tc a ++ tcs [b], tc b ++ tcs [], by cases a; rfl, by cases a; rfl, by cases a; rfl, by cases b; rfl, fun h => rfl⟩
end Go.Bf

set_option linter.unusedVariables false
set_option linter.unusedSimpArgs false
set_option maxRecDepth 20000
namespace Go.Bf
open Go.AM
theorem c38_eq {v : AV} {a b : Tm} (kv : Sl v [a, b]) (oka : a.Ok) (okb : b.Ok) (ta : isT a = true) (tb : isT b = true) (h : Heap) : WC env 38 [.str [61, 61], v] h (fun o => o = .ret ⟨.tup [.agg (tc (boolT (ordF a b == 0))), .int .i64 0], h, .none⟩) := by
  obtain ⟨A, B, x0, x1, lA, lB, nl⟩ := sl2 kv
  have n0 : (([61, 61] : List UInt8) == [43]) = false := by decide
  have n1 : (([61, 61] : List UInt8) == [45]) = false := by decide
  have n2 : (([61, 61] : List UInt8) == [42]) = false := by decide
  have n3 : (([61, 61] : List UInt8) == [100, 105, 118]) = false := by decide
  have n4 : (([61, 61] : List UInt8) == [114, 101, 109]) = false := by decide
  have n5 : (([61, 61] : List UInt8) == [97, 110, 100]) = false := by decide
  have n6 : (([61, 61] : List UInt8) == [111, 114]) = false := by decide
  have n7 : (([61, 61] : List UInt8) == [120, 111, 114]) = false := by decide
  have n8 : (([61, 61] : List UInt8) == [110, 111, 116]) = false := by decide
  have n9 : (([61, 61] : List UInt8) == [61, 61]) = true := by decide
  refine call_pure rfl rfl rfl (by simp only [AV.noRefs, AV.noRef, kv.noRef, Bool.and_self]) ?_
  simp only [a38, a38_0, a38_1, a38_2, a38_3, a38_4, a38_5, a38_6, a38_10, a38_11, a38_12, a38_14, a38_16, Slots.ofList, s3, reduceIte, Nat.reduceEqDiff, aBin, aInt, negIf, Option.some.injEq, exists_eq_left', Option.map_some, Option.bind_some, aStr, n0, n1, n2, n3, n4, n5, n6, n7, n8, n9, nl, h3, List.length_cons, List.length_nil, List.drop_zero, List.drop_succ_cons, Nat.reduceAdd, Nat.le_refl, and_self, true_and, if_true, Bool.and_self, Nat.reduceLeDiff, _root_.eq_self, and_true, t3]
  refine wpc_draw_k ?_
  simp only [s3, reduceIte, Nat.reduceEqDiff, aBin, aInt, negIf, Option.some.injEq, exists_eq_left', Option.map_some, Option.bind_some, k3, h3, List.length_cons, List.length_nil, List.drop_zero, List.drop_succ_cons, Nat.reduceAdd, Nat.le_refl, and_self, true_and, if_true, Bool.and_self, Nat.reduceLeDiff, _root_.eq_self, and_true, t3, a38_24, x0, x1, lA, lB, wc_eq (compare_spec a b oka okb ta tb _), wc_eq (cmp_eq1 _ _), wc_eq (truth_spec _ _)]
  rfl
theorem c38_lt {v : AV} {a b : Tm} (kv : Sl v [a, b]) (oka : a.Ok) (okb : b.Ok) (ta : isT a = true) (tb : isT b = true) (h : Heap) : WC env 38 [.str [60], v] h (fun o => o = .ret ⟨.tup [.agg (tc (boolT (decide (ordF a b < 0)))), .int .i64 0], h, .none⟩) := by
  obtain ⟨A, B, x0, x1, lA, lB, nl⟩ := sl2 kv
  have n0 : (([60] : List UInt8) == [43]) = false := by decide
  have n1 : (([60] : List UInt8) == [45]) = false := by decide
  have n2 : (([60] : List UInt8) == [42]) = false := by decide
  have n3 : (([60] : List UInt8) == [100, 105, 118]) = false := by decide
  have n4 : (([60] : List UInt8) == [114, 101, 109]) = false := by decide
  have n5 : (([60] : List UInt8) == [97, 110, 100]) = false := by decide
  have n6 : (([60] : List UInt8) == [111, 114]) = false := by decide
  have n7 : (([60] : List UInt8) == [120, 111, 114]) = false := by decide
  have n8 : (([60] : List UInt8) == [110, 111, 116]) = false := by decide
  have n9 : (([60] : List UInt8) == [61, 61]) = false := by decide
  have n10 : (([60] : List UInt8) == [47, 61]) = false := by decide
  have n11 : (([60] : List UInt8) == [61, 60]) = false := by decide
  have n12 : (([60] : List UInt8) == [60]) = true := by decide
  refine call_pure rfl rfl rfl (by simp only [AV.noRefs, AV.noRef, kv.noRef, Bool.and_self]) ?_
  simp only [a38, a38_0, a38_1, a38_2, a38_3, a38_4, a38_5, a38_6, a38_10, a38_11, a38_12, a38_14, a38_16, a38_17, a38_18, a38_19, Slots.ofList, s3, reduceIte, Nat.reduceEqDiff, aBin, aInt, negIf, Option.some.injEq, exists_eq_left', Option.map_some, Option.bind_some, aStr, n0, n1, n2, n3, n4, n5, n6, n7, n8, n9, n10, n11, n12, nl, h3, List.length_cons, List.length_nil, List.drop_zero, List.drop_succ_cons, Nat.reduceAdd, Nat.le_refl, and_self, true_and, if_true, Bool.and_self, Nat.reduceLeDiff, _root_.eq_self, and_true, t3]
  refine wpc_draw_k ?_
  simp only [s3, reduceIte, Nat.reduceEqDiff, aBin, aInt, negIf, Option.some.injEq, exists_eq_left', Option.map_some, Option.bind_some, k3, h3, List.length_cons, List.length_nil, List.drop_zero, List.drop_succ_cons, Nat.reduceAdd, Nat.le_refl, and_self, true_and, if_true, Bool.and_self, Nat.reduceLeDiff, _root_.eq_self, and_true, t3, a38_24, x0, x1, lA, lB, wc_eq (compare_spec a b oka okb ta tb _), wc_eq (cmp_lt _ _), wc_eq (truth_spec _ _)]
  rfl
theorem c38_gt {v : AV} {a b : Tm} (kv : Sl v [a, b]) (oka : a.Ok) (okb : b.Ok) (ta : isT a = true) (tb : isT b = true) (h : Heap) : WC env 38 [.str [62], v] h (fun o => o = .ret ⟨.tup [.agg (tc (boolT (decide (ordF a b > 0)))), .int .i64 0], h, .none⟩) := by
  obtain ⟨A, B, x0, x1, lA, lB, nl⟩ := sl2 kv
  have n0 : (([62] : List UInt8) == [43]) = false := by decide
  have n1 : (([62] : List UInt8) == [45]) = false := by decide
  have n2 : (([62] : List UInt8) == [42]) = false := by decide
  have n3 : (([62] : List UInt8) == [100, 105, 118]) = false := by decide
  have n4 : (([62] : List UInt8) == [114, 101, 109]) = false := by decide
  have n5 : (([62] : List UInt8) == [97, 110, 100]) = false := by decide
  have n6 : (([62] : List UInt8) == [111, 114]) = false := by decide
  have n7 : (([62] : List UInt8) == [120, 111, 114]) = false := by decide
  have n8 : (([62] : List UInt8) == [110, 111, 116]) = false := by decide
  have n9 : (([62] : List UInt8) == [61, 61]) = false := by decide
  have n10 : (([62] : List UInt8) == [47, 61]) = false := by decide
  have n11 : (([62] : List UInt8) == [61, 60]) = false := by decide
  have n12 : (([62] : List UInt8) == [60]) = false := by decide
  have n13 : (([62] : List UInt8) == [62, 61]) = false := by decide
  have n14 : (([62] : List UInt8) == [62]) = true := by decide
  refine call_pure rfl rfl rfl (by simp only [AV.noRefs, AV.noRef, kv.noRef, Bool.and_self]) ?_
  simp only [a38, a38_0, a38_1, a38_2, a38_3, a38_4, a38_5, a38_6, a38_10, a38_11, a38_12, a38_14, a38_16, a38_17, a38_18, a38_19, a38_20, a38_21, Slots.ofList, s3, reduceIte, Nat.reduceEqDiff, aBin, aInt, negIf, Option.some.injEq, exists_eq_left', Option.map_some, Option.bind_some, aStr, n0, n1, n2, n3, n4, n5, n6, n7, n8, n9, n10, n11, n12, n13, n14, nl, h3, List.length_cons, List.length_nil, List.drop_zero, List.drop_succ_cons, Nat.reduceAdd, Nat.le_refl, and_self, true_and, if_true, Bool.and_self, Nat.reduceLeDiff, _root_.eq_self, and_true, t3]
  refine wpc_draw_k ?_
  simp only [s3, reduceIte, Nat.reduceEqDiff, aBin, aInt, negIf, Option.some.injEq, exists_eq_left', Option.map_some, Option.bind_some, k3, h3, List.length_cons, List.length_nil, List.drop_zero, List.drop_succ_cons, Nat.reduceAdd, Nat.le_refl, and_self, true_and, if_true, Bool.and_self, Nat.reduceLeDiff, _root_.eq_self, and_true, t3, a38_24, x0, x1, lA, lB, wc_eq (compare_spec a b oka okb ta tb _), wc_eq (cmp_gt _ _), wc_eq (truth_spec _ _)]
  rfl
theorem c38_max {v : AV} {a b : Tm} (kv : Sl v [a, b]) (oka : a.Ok) (okb : b.Ok) (ta : isT a = true) (tb : isT b = true) (h : Heap) : WC env 38 [.str [109, 97, 120], v] h (fun o => o = .ret ⟨.tup [.agg (tc (if ordF a b < 0 then b else a)), .int .i64 0], h, .none⟩) := by
  obtain ⟨A, B, x0, x1, lA, lB, nl⟩ := sl2 kv
  have n0 : (([109, 97, 120] : List UInt8) == [43]) = false := by decide
  have n1 : (([109, 97, 120] : List UInt8) == [45]) = false := by decide
  have n2 : (([109, 97, 120] : List UInt8) == [42]) = false := by decide
  have n3 : (([109, 97, 120] : List UInt8) == [100, 105, 118]) = false := by decide
  have n4 : (([109, 97, 120] : List UInt8) == [114, 101, 109]) = false := by decide
  have n5 : (([109, 97, 120] : List UInt8) == [97, 110, 100]) = false := by decide
  have n6 : (([109, 97, 120] : List UInt8) == [111, 114]) = false := by decide
  have n7 : (([109, 97, 120] : List UInt8) == [120, 111, 114]) = false := by decide
  have n8 : (([109, 97, 120] : List UInt8) == [110, 111, 116]) = false := by decide
  have n9 : (([109, 97, 120] : List UInt8) == [61, 61]) = false := by decide
  have n10 : (([109, 97, 120] : List UInt8) == [47, 61]) = false := by decide
  have n11 : (([109, 97, 120] : List UInt8) == [61, 60]) = false := by decide
  have n12 : (([109, 97, 120] : List UInt8) == [60]) = false := by decide
  have n13 : (([109, 97, 120] : List UInt8) == [62, 61]) = false := by decide
  have n14 : (([109, 97, 120] : List UInt8) == [62]) = false := by decide
  have n15 : (([109, 97, 120] : List UInt8) == [61, 58, 61]) = false := by decide
  have n16 : (([109, 97, 120] : List UInt8) == [61, 47, 61]) = false := by decide
  have n17 : (([109, 97, 120] : List UInt8) == [109, 97, 120]) = true := by decide
  have m0 : (([109, 97, 120] : List UInt8) == [109, 97, 120]) = true := by decide
  have m1 : (([109, 97, 120] : List UInt8) == [109, 105, 110]) = false := by decide
  refine call_pure rfl rfl rfl (by simp only [AV.noRefs, AV.noRef, kv.noRef, Bool.and_self]) ?_
  simp only [a38, a38_0, a38_1, a38_2, a38_3, a38_4, a38_5, a38_6, a38_10, a38_11, a38_12, a38_14, a38_16, a38_17, a38_18, a38_19, a38_20, a38_21, a38_22, a38_23, a38_25, Slots.ofList, s3, reduceIte, Nat.reduceEqDiff, aBin, aInt, negIf, Option.some.injEq, exists_eq_left', Option.map_some, Option.bind_some, aStr, n0, n1, n2, n3, n4, n5, n6, n7, n8, n9, n10, n11, n12, n13, n14, n15, n16, n17, nl, h3, List.length_cons, List.length_nil, List.drop_zero, List.drop_succ_cons, Nat.reduceAdd, Nat.le_refl, and_self, true_and, if_true, Bool.and_self, Nat.reduceLeDiff, _root_.eq_self, and_true, t3]
  refine wpc_draw_k ?_
  by_cases c : ordF a b < 0
  · have z : (ordF a b < 0) = True := eq_true c
    simp only [s3, reduceIte, Nat.reduceEqDiff, aBin, aInt, negIf, Option.some.injEq, exists_eq_left', Option.map_some, Option.bind_some, k3, h3, List.length_cons, List.length_nil, List.drop_zero, List.drop_succ_cons, Nat.reduceAdd, Nat.le_refl, and_self, true_and, if_true, Bool.and_self, Nat.reduceLeDiff, _root_.eq_self, and_true, t3, a38_27, a38_28, a38_29, aStr, m0, m1, z, x0, x1, lA, lB, wc_eq (compare_spec a b oka okb ta tb _)]
    rfl
  · have z : (ordF a b < 0) = False := eq_false c
    simp only [s3, reduceIte, Nat.reduceEqDiff, aBin, aInt, negIf, Option.some.injEq, exists_eq_left', Option.map_some, Option.bind_some, k3, h3, List.length_cons, List.length_nil, List.drop_zero, List.drop_succ_cons, Nat.reduceAdd, Nat.le_refl, and_self, true_and, if_true, Bool.and_self, Nat.reduceLeDiff, _root_.eq_self, and_true, t3, a38_27, a38_28, a38_30, aStr, m0, m1, z, x0, x1, lA, lB, if_false, wc_eq (compare_spec a b oka okb ta tb _)]
    rfl
theorem c38_min {v : AV} {a b : Tm} (kv : Sl v [a, b]) (oka : a.Ok) (okb : b.Ok) (ta : isT a = true) (tb : isT b = true) (h : Heap) : WC env 38 [.str [109, 105, 110], v] h (fun o => o = .ret ⟨.tup [.agg (tc (if ordF a b > 0 then b else a)), .int .i64 0], h, .none⟩) := by
  obtain ⟨A, B, x0, x1, lA, lB, nl⟩ := sl2 kv
  have n0 : (([109, 105, 110] : List UInt8) == [43]) = false := by decide
  have n1 : (([109, 105, 110] : List UInt8) == [45]) = false := by decide
  have n2 : (([109, 105, 110] : List UInt8) == [42]) = false := by decide
  have n3 : (([109, 105, 110] : List UInt8) == [100, 105, 118]) = false := by decide
  have n4 : (([109, 105, 110] : List UInt8) == [114, 101, 109]) = false := by decide
  have n5 : (([109, 105, 110] : List UInt8) == [97, 110, 100]) = false := by decide
  have n6 : (([109, 105, 110] : List UInt8) == [111, 114]) = false := by decide
  have n7 : (([109, 105, 110] : List UInt8) == [120, 111, 114]) = false := by decide
  have n8 : (([109, 105, 110] : List UInt8) == [110, 111, 116]) = false := by decide
  have n9 : (([109, 105, 110] : List UInt8) == [61, 61]) = false := by decide
  have n10 : (([109, 105, 110] : List UInt8) == [47, 61]) = false := by decide
  have n11 : (([109, 105, 110] : List UInt8) == [61, 60]) = false := by decide
  have n12 : (([109, 105, 110] : List UInt8) == [60]) = false := by decide
  have n13 : (([109, 105, 110] : List UInt8) == [62, 61]) = false := by decide
  have n14 : (([109, 105, 110] : List UInt8) == [62]) = false := by decide
  have n15 : (([109, 105, 110] : List UInt8) == [61, 58, 61]) = false := by decide
  have n16 : (([109, 105, 110] : List UInt8) == [61, 47, 61]) = false := by decide
  have n17 : (([109, 105, 110] : List UInt8) == [109, 97, 120]) = false := by decide
  have n18 : (([109, 105, 110] : List UInt8) == [109, 105, 110]) = true := by decide
  have m0 : (([109, 105, 110] : List UInt8) == [109, 97, 120]) = false := by decide
  have m1 : (([109, 105, 110] : List UInt8) == [109, 105, 110]) = true := by decide
  refine call_pure rfl rfl rfl (by simp only [AV.noRefs, AV.noRef, kv.noRef, Bool.and_self]) ?_
  simp only [a38, a38_0, a38_1, a38_2, a38_3, a38_4, a38_5, a38_6, a38_10, a38_11, a38_12, a38_14, a38_16, a38_17, a38_18, a38_19, a38_20, a38_21, a38_22, a38_23, a38_25, a38_26, Slots.ofList, s3, reduceIte, Nat.reduceEqDiff, aBin, aInt, negIf, Option.some.injEq, exists_eq_left', Option.map_some, Option.bind_some, aStr, n0, n1, n2, n3, n4, n5, n6, n7, n8, n9, n10, n11, n12, n13, n14, n15, n16, n17, n18, nl, h3, List.length_cons, List.length_nil, List.drop_zero, List.drop_succ_cons, Nat.reduceAdd, Nat.le_refl, and_self, true_and, if_true, Bool.and_self, Nat.reduceLeDiff, _root_.eq_self, and_true, t3]
  refine wpc_draw_k ?_
  by_cases c : ordF a b > 0
  · have z : (ordF a b > 0) = True := eq_true c
    simp only [s3, reduceIte, Nat.reduceEqDiff, aBin, aInt, negIf, Option.some.injEq, exists_eq_left', Option.map_some, Option.bind_some, k3, h3, List.length_cons, List.length_nil, List.drop_zero, List.drop_succ_cons, Nat.reduceAdd, Nat.le_refl, and_self, true_and, if_true, Bool.and_self, Nat.reduceLeDiff, _root_.eq_self, and_true, t3, a38_27, a38_28, a38_29, aStr, m0, m1, z, x0, x1, lA, lB, wc_eq (compare_spec a b oka okb ta tb _)]
    rfl
  · have z : (ordF a b > 0) = False := eq_false c
    simp only [s3, reduceIte, Nat.reduceEqDiff, aBin, aInt, negIf, Option.some.injEq, exists_eq_left', Option.map_some, Option.bind_some, k3, h3, List.length_cons, List.length_nil, List.drop_zero, List.drop_succ_cons, Nat.reduceAdd, Nat.le_refl, and_self, true_and, if_true, Bool.and_self, Nat.reduceLeDiff, _root_.eq_self, and_true, t3, a38_27, a38_28, a38_30, aStr, m0, m1, z, x0, x1, lA, lB, if_false, wc_eq (compare_spec a b oka okb ta tb _)]
    rfl
end Go.Bf

set_option linter.unusedVariables false
set_option linter.unusedSimpArgs false
set_option maxRecDepth 20000
namespace Go.Bf
open Go.AM
theorem boolT_ok (b : Bool) : (boolT b).Ok := by
  cases b <;> (rw [boolT, atomT, Tm.Ok, Oks]; exact ⟨⟨by decide, by decide⟩, ⟨by decide, by decide⟩, ⟨by decide, by decide⟩, by simp, by decide, by decide, by decide, trivial⟩)
theorem isT_boolT (b : Bool) : isT (boolT b) = true := by cases b <;> kernel_rfl
theorem eqF_boolT (b : Bool) : eqF (boolT b) trueT = b := by cases b <;> kernel_rfl
theorem eqF_same {a a' b b' : Tm} (h : er a = er a') (h2 : er b = er b') : eqF a b = eqF a' b' := by
  rw [eqF, eqF, isT_same h, isT_same h2, ord_same h h2]
theorem eqF_of_bool {r : Tm} {b : Bool} (h : er r = er (boolT b)) : eqF r trueT = b := by rw [eqF_same h rfl, eqF_boolT]
def rlen : WFlt → Int
  | none => 0
  | some (_, _, none) => 1
  | some (_, _, some _) => 2
theorem len_rlink (x : WFlt) (h : Heap) : aLenOp false h (rlinkAV x) = some ⟨.int .i64 (rlen x), h, .none⟩ := by
  rcases x with _ | ⟨a, c, _ | ⟨p, d⟩⟩ <;> rfl
theorem rlen_ok {t : Tm} (h : isT t = true) : chkF t = none := by
  rw [isT] at h; split at h
  · assumption
  · cases h
theorem rlen_bad {t : Tm} (h : isT t = false) : rlen (chkF t) > 0 := by
  rw [isT] at h; split at h
  · cases h
  · rename_i e
    rw [e]
    rename_i x
    rcases x with ⟨a, c, _ | ⟨p, d⟩⟩ <;> simp [rlen]
theorem fillOps : aFill [.str [], .str [], .str []] [(0, 1, .str [60]), (1, 1, .str [61, 61]), (2, 1, .str [62])] = some [.str [60], .str [61, 61], .str [62]] := id rfl
def opsAV : AV := .fs true 3 [.str [60], .str [61, 61], .str [62]]
theorem orders_round {σ : Slots} {h : Heap} {a b r : Tm} {nm : List UInt8} {i n : Nat} {x : Bool} {C : List AV} (ho : HeapOk h) (ha : h.at_ 0 0 = some (tc a)) (hb : h.at_ 1 0 = some (tc b)) (g2 : σ.get 2 = .ptr 0 0 0) (g3 : σ.get 3 = .ptr 1 0 0) (g5 : σ.get 5 = .int .i64 n) (g6 : σ.get 6 = opsAV) (g7 : σ.get 7 = .int .i64 i)
    (hi : i < 3) (hn : n < 3) (hC : aIdxAddr 1 opsAV (.int .i64 i) = some (.fp C)) (lC : ldCells false 1 C = some (.str nm)) (okr : r.Ok) (hw : ∀ h, WC env 18 [.str nm, .fs true 2 (tc a ++ tc b)] h (fun o => o = .ret ⟨.tup [.agg (tc r), .nili], h, .none⟩)) (hx : eqF r trueT = x)
    {Q : AExit → St → Prop} (hQ : ∀ σ' h', HeapOk h' → h'.at_ 0 0 = some (tc a) → h'.at_ 1 0 = some (tc b) → σ'.get 2 = .ptr 0 0 0 → σ'.get 3 = .ptr 1 0 0 → σ'.get 5 = .int .i64 ((if x = true then n + 1 else n : Nat) : Int) → σ'.get 6 = opsAV → σ'.get 7 = .int .i64 ((i + 1 : Nat) : Int) → Q .norm ⟨σ', h'⟩) :
    wpc env a4_l13 ⟨σ, h⟩ Q := by
  have z0 : ((i : Int) < 3) = True := eq_true (by omega)
  have z1 : IntKind.wrap .i64 ((i : Int) + 1) = ((i + 1 : Nat) : Int) := wrap_nat (by omega) (by omega)
  have z2 : IntKind.wrap .i64 ((n : Int) + 1) = ((n + 1 : Nat) : Int) := wrap_nat (by omega) (by omega)
  have n0 : (0 = h.next) = False := eq_false (by have := ho.lt ha; omega)
  have n1 : (1 = h.next) = False := eq_false (by have := ho.lt hb; omega)
  have nl : ∀ h, aLenOp false h opsAV = some ⟨.int .i64 3, h, .none⟩ := fun h => rfl
  have wt := true_spec r okr
  rw [hx] at wt
  simp only [a4_l13, a4_6, s3, reduceIte, Nat.reduceEqDiff, aBin, aInt, negIf, Option.some.injEq, exists_eq_left', Option.map_some, Option.bind_some, g6, g7, nl, z0]
  apply draw_to
  · simp only [a4_7, s3, reduceIte, Nat.reduceEqDiff, aBin, aInt, negIf, Option.some.injEq, exists_eq_left', Option.map_some, Option.bind_some, wpl_nil', wpl_none, wpl_some, gval_bool, logK_c, logQ_apply, guardL_tt, guardL_ff, guardL_tf, guardL_ft, drawQ_apply, endQ_apply, g2, g3, g6, g7, hC, lC, h3, List.length_cons, List.length_nil, List.drop_zero, List.drop_succ_cons, Nat.reduceAdd, Nat.le_refl, and_self, true_and, if_true, Bool.and_self, Nat.reduceLeDiff, _root_.eq_self, and_true, t3, ha, hb, n0, n1, if_false, wc_eq (hw _)]
    refine ⟨draw_of_cls3 [4, 5] rfl ⟨?_, ?_, trivial⟩, rfl⟩
    · refine steady_load (.ptr 0 0 0) (.agg (tc a)) ?_ ?_
      · simp only [opd_t, get_put, reduceIte, Nat.reduceEqDiff, g2]
      · simp only [allLd_cons, allLd_nil, List.map_cons, List.map_nil, h3, List.length_cons, List.length_nil, List.drop_zero, List.drop_succ_cons, Nat.reduceAdd, Nat.le_refl, and_self, true_and, if_true, Bool.and_self, Nat.reduceLeDiff, _root_.eq_self, and_true, Option.map_some, Option.bind_some, t3, ha, n0, if_false]
    · refine steady_load (.ptr 1 0 0) (.agg (tc b)) ?_ ?_
      · simp only [opd_t, get_put, reduceIte, Nat.reduceEqDiff, g3]
      · simp only [allLd_cons, allLd_nil, List.map_cons, List.map_nil, h3, List.length_cons, List.length_nil, List.drop_zero, List.drop_succ_cons, Nat.reduceAdd, Nat.le_refl, and_self, true_and, if_true, Bool.and_self, Nat.reduceLeDiff, _root_.eq_self, and_true, Option.map_some, Option.bind_some, t3, hb, n1, if_false]
  have ho' : HeapOk ((h.new [.int .i64 0, .int .i64 0, .str [], .int .u32 0, .nils, .nils]).upd h.next 0 (tc r)) := (ho.new _).upd (at_look.1 (at_new _)) _ _
  cases x with
  | true =>
    simp only [s3, reduceIte, Nat.reduceEqDiff, aBin, aInt, negIf, Option.some.injEq, exists_eq_left', Option.map_some, Option.bind_some, a4_8, a4_10, a4_11, a4_12, h3, List.length_cons, List.length_nil, List.drop_zero, List.drop_succ_cons, Nat.reduceAdd, Nat.le_refl, and_self, true_and, if_true, Bool.and_self, Nat.reduceLeDiff, _root_.eq_self, and_true, t3, eq_nil, Bool.not_true, wc_eq (wt _), g5, g7, z1, z2]
    refine hQ _ _ ho' ?_ ?_ ?_ ?_ ?_ ?_ ?_
    · simp only [h3, List.length_cons, List.length_nil, List.drop_zero, List.drop_succ_cons, Nat.reduceAdd, Nat.le_refl, and_self, true_and, if_true, Bool.and_self, Nat.reduceLeDiff, _root_.eq_self, and_true, ha, n0, if_false]
    · simp only [h3, List.length_cons, List.length_nil, List.drop_zero, List.drop_succ_cons, Nat.reduceAdd, Nat.le_refl, and_self, true_and, if_true, Bool.and_self, Nat.reduceLeDiff, _root_.eq_self, and_true, hb, n1, if_false]
    · simp only [get_put, reduceIte, Nat.reduceEqDiff, g2]
    · simp only [get_put, reduceIte, Nat.reduceEqDiff, g3]
    · simp only [get_put, reduceIte, Nat.reduceEqDiff]
    · simp only [get_put, reduceIte, Nat.reduceEqDiff, g6]
    · simp only [get_put, reduceIte, Nat.reduceEqDiff]
  | false =>
    simp only [s3, reduceIte, Nat.reduceEqDiff, aBin, aInt, negIf, Option.some.injEq, exists_eq_left', Option.map_some, Option.bind_some, a4_8, a4_10, a4_11, a4_12, h3, List.length_cons, List.length_nil, List.drop_zero, List.drop_succ_cons, Nat.reduceAdd, Nat.le_refl, and_self, true_and, if_true, Bool.and_self, Nat.reduceLeDiff, _root_.eq_self, and_true, t3, eq_nil, Bool.not_true, wc_eq (wt _), g5, g7, z1, z2]
    refine hQ _ _ ho' ?_ ?_ ?_ ?_ ?_ ?_ ?_
    · simp only [h3, List.length_cons, List.length_nil, List.drop_zero, List.drop_succ_cons, Nat.reduceAdd, Nat.le_refl, and_self, true_and, if_true, Bool.and_self, Nat.reduceLeDiff, _root_.eq_self, and_true, ha, n0, if_false]
    · simp only [h3, List.length_cons, List.length_nil, List.drop_zero, List.drop_succ_cons, Nat.reduceAdd, Nat.le_refl, and_self, true_and, if_true, Bool.and_self, Nat.reduceLeDiff, _root_.eq_self, and_true, hb, n1, if_false]
    · simp only [get_put, reduceIte, Nat.reduceEqDiff, g2]
    · simp only [get_put, reduceIte, Nat.reduceEqDiff, g3]
    · simp only [get_put, reduceIte, Nat.reduceEqDiff, g5, Bool.false_eq_true, if_false]
    · simp only [get_put, reduceIte, Nat.reduceEqDiff, g6]
    · simp only [get_put, reduceIte, Nat.reduceEqDiff]
def ordTail : AC := .seq (.ops a4_14) (.seq (.ops a4_15) (.seq (.seq (.ops a4_16) (.cond (.t 81) (.seq (.ops a4_17) .ret) .skip)) (.seq (.ops a4_18) (.seq (.ops a4_19) .ret))))
section
variable {σ : Slots} {h : Heap} {a b x y : Tm} (ho : HeapOk h) (ha : h.at_ 0 0 = some (tc a)) (hb : h.at_ 1 0 = some (tc b)) (g2 : σ.get 2 = .ptr 0 0 0) (g3 : σ.get 3 = .ptr 1 0 0) (g5 : σ.get 5 = .int .i64 1)
  (oka : a.Ok) (okb : b.Ok) (okx : x.Ok) (oky : y.Ok) (tx : isT x = true) (ty : isT y = true) (hc : ordF x y ≥ 0)
  (wx : ∀ h, WC env 18 [.str [109, 97, 120], .fs true 2 (tc a ++ tc b)] h (fun o => o = .ret ⟨.tup [.agg (tc x), .nili], h, .none⟩))
  (wy : ∀ h, WC env 18 [.str [109, 105, 110], .fs true 2 (tc a ++ tc b)] h (fun o => o = .ret ⟨.tup [.agg (tc y), .nili], h, .none⟩))
include ho ha hb g2 g3 g5 oka okb okx oky tx ty hc wx wy
theorem tail_one (p1 : sameF x a = true) (p2 : sameF y b = true) : wpc env ordTail ⟨σ, h⟩ (retQ env [.tmp 4] fun o => ∃ h', o = .ret ⟨.bool true, h', .write⟩) := by
  have n0 : (0 = h.next) = False := eq_false (by have := ho.lt ha; omega)
  have n1 : (1 = h.next) = False := eq_false (by have := ho.lt hb; omega)
  have m0 : (0 = h.next + 1) = False := eq_false (by omega)
  have m1 : (1 = h.next + 1) = False := eq_false (by have := ho.lt ha; omega)
  have m2 : (h.next = h.next + 1) = False := eq_false (by omega)
  have m3 : (h.next + 1 = h.next) = False := eq_false (by omega)
  have w1 := same_spec x okx a oka
  have w2 := same_spec y oky b okb
  rw [p1] at w1
  rw [p2] at w2
  have z : (ordF x y ≥ 0) = True := eq_true hc
  have u : ((1 : Int) != 1) = false := rfl
  simp only [ordTail, a4_14, a4_15, a4_16, a4_18, a4_19, s3, reduceIte, Nat.reduceEqDiff, aBin, aInt, negIf, Option.some.injEq, exists_eq_left', Option.map_some, Option.bind_some, h3, List.length_cons, List.length_nil, List.drop_zero, List.drop_succ_cons, Nat.reduceAdd, Nat.le_refl, and_self, true_and, if_true, Bool.and_self, Nat.reduceLeDiff, _root_.eq_self, and_true, t3, g2, g3, g5, ha, hb, n0, n1, m0, m1, m2, m3, if_false, wc_eq (wx _), wc_eq (wy _), eq_nil, Bool.not_true, u, wc_eq (w1 _), wc_eq (w2 _), wc_eq (rcompare_spec x y okx oky tx ty _), z, wc_eq (alive_spec _)]
  exact ⟨_, rfl⟩
theorem tail_two (p1 : sameF x a = false) (p3 : sameF x b = true) (p4 : sameF y a = true) : wpc env ordTail ⟨σ, h⟩ (retQ env [.tmp 4] fun o => ∃ h', o = .ret ⟨.bool true, h', .write⟩) := by
  have n0 : (0 = h.next) = False := eq_false (by have := ho.lt ha; omega)
  have n1 : (1 = h.next) = False := eq_false (by have := ho.lt hb; omega)
  have m0 : (0 = h.next + 1) = False := eq_false (by omega)
  have m1 : (1 = h.next + 1) = False := eq_false (by have := ho.lt ha; omega)
  have m2 : (h.next = h.next + 1) = False := eq_false (by omega)
  have m3 : (h.next + 1 = h.next) = False := eq_false (by omega)
  have w1 := same_spec x okx a oka
  have w3 := same_spec x okx b okb
  have w4 := same_spec y oky a oka
  rw [p1] at w1
  rw [p3] at w3
  rw [p4] at w4
  have z : (ordF x y ≥ 0) = True := eq_true hc
  have u : ((1 : Int) != 1) = false := rfl
  simp only [ordTail, a4_14, a4_15, a4_16, a4_18, a4_19, s3, reduceIte, Nat.reduceEqDiff, aBin, aInt, negIf, Option.some.injEq, exists_eq_left', Option.map_some, Option.bind_some, h3, List.length_cons, List.length_nil, List.drop_zero, List.drop_succ_cons, Nat.reduceAdd, Nat.le_refl, and_self, true_and, if_true, Bool.and_self, Nat.reduceLeDiff, _root_.eq_self, and_true, t3, g2, g3, g5, ha, hb, n0, n1, m0, m1, m2, m3, if_false, wc_eq (wx _), wc_eq (wy _), eq_nil, Bool.not_true, u, wc_eq (w1 _), wc_eq (w3 _), wc_eq (w4 _), wc_eq (rcompare_spec x y okx oky tx ty _), z, wc_eq (alive_spec _)]
  exact ⟨_, rfl⟩
end
theorem find_lt : findV [60] 2 = .tup [.agg [.str [60], .int .i64 2, .int .i64 1, .bool true], .bool true] := by rfl
theorem find_eq : findV [61, 61] 2 = .tup [.agg [.str [61, 61], .int .i64 2, .int .i64 1, .bool true], .bool true] := by rfl
theorem find_gt : findV [62] 2 = .tup [.agg [.str [62], .int .i64 2, .int .i64 1, .bool true], .bool true] := by rfl
theorem find_max : ∃ p q r s, findV [109, 97, 120] 2 = .tup [.agg [p, q, r, s], .bool true] := ⟨_, _, _, _, rfl⟩
theorem find_min : ∃ p q r s, findV [109, 105, 110] 2 = .tup [.agg [p, q, r, s], .bool true] := ⟨_, _, _, _, rfl⟩
theorem opsIdx0 : aIdxAddr 1 opsAV (.int .i64 (0 : Nat)) = some (.fp [.str [60], .str [61, 61], .str [62]]) := rfl
theorem opsIdx1 : aIdxAddr 1 opsAV (.int .i64 (1 : Nat)) = some (.fp [.str [61, 61], .str [62]]) := rfl
theorem opsIdx2 : aIdxAddr 1 opsAV (.int .i64 (2 : Nat)) = some (.fp [.str [62]]) := rfl
theorem orders_end {σ : Slots} {h : Heap} (g6 : σ.get 6 = opsAV) (g7 : σ.get 7 = .int .i64 ((3 : Nat) : Int)) {Q : AExit → St → Prop} (hQ : ∀ σ', (∀ n, n < 8 → σ'.get n = σ.get n) → Q (.exit 0) ⟨σ', h⟩) : wpc env a4_l13 ⟨σ, h⟩ Q := by
  have z0 : (((3 : Nat) : Int) < 3) = False := eq_false (by omega)
  have nl : ∀ h, aLenOp false h opsAV = some ⟨.int .i64 3, h, .none⟩ := fun h => rfl
  simp only [a4_l13, a4_6, s3, reduceIte, Nat.reduceEqDiff, aBin, aInt, negIf, Option.some.injEq, exists_eq_left', Option.map_some, Option.bind_some, g6, g7, nl, z0]
  refine hQ _ fun n hn => ?_
  simp only [get_put]
  repeat rw [if_neg (by omega)]
theorem orders_row (a b : Tm) (oka : a.Ok) (okb : b.Ok) : WC env 4 [.agg (tc a), .agg (tc b)] .empty (fun o => ∃ h', o = .ret ⟨.bool true, h', .write⟩) := by
  have z00 : ((0 : Int) > 0) = False := eq_false (by decide)
  have r0 : rlen none = 0 := rfl
  have q0 : ((0 : Int) == 0) = true := rfl
  have wa := rcheck_spec a oka
  have wb := rcheck_spec b okb
  have wt := true_spec a oka
  cases ta : isT a with
  | false =>
    have e1 : eqF a trueT = false := by rw [eqF, ta]; rfl
    rw [e1] at wt
    have z := eq_true (rlen_bad ta)
    refine call_body rfl rfl (.inl rfl) ?_
    simp only [a4, a4_0, a4_1, a4_2, Slots.ofList, s3, reduceIte, Nat.reduceEqDiff, aBin, aInt, negIf, Option.some.injEq, exists_eq_left', Option.map_some, Option.bind_some, h3, List.length_cons, List.length_nil, List.drop_zero, List.drop_succ_cons, Nat.reduceAdd, Nat.le_refl, and_self, true_and, if_true, Bool.and_self, Nat.reduceLeDiff, _root_.eq_self, and_true, t3, wc_eq (wa _), len_rlink, z, wc_eq (wt _), Bool.not_false]
    exact ⟨_, rfl⟩
  | true =>
  rw [rlen_ok ta] at wa
  cases tb : isT b with
  | false =>
    have z := eq_true (rlen_bad tb)
    cases ex : eqF a trueT with
    | false =>
      rw [ex] at wt
      refine call_body rfl rfl (.inl rfl) ?_
      simp only [a4, a4_0, a4_1, a4_2, Slots.ofList, s3, reduceIte, Nat.reduceEqDiff, aBin, aInt, negIf, Option.some.injEq, exists_eq_left', Option.map_some, Option.bind_some, h3, List.length_cons, List.length_nil, List.drop_zero, List.drop_succ_cons, Nat.reduceAdd, Nat.le_refl, and_self, true_and, if_true, Bool.and_self, Nat.reduceLeDiff, _root_.eq_self, and_true, t3, wc_eq (wa _), wc_eq (wb _), len_rlink, r0, z00, z, wc_eq (wt _), Bool.not_false]
      exact ⟨_, rfl⟩
    | true =>
      rw [ex] at wt
      refine call_body rfl rfl (.inl rfl) ?_
      simp only [a4, a4_0, a4_1, a4_2, Slots.ofList, s3, reduceIte, Nat.reduceEqDiff, aBin, aInt, negIf, Option.some.injEq, exists_eq_left', Option.map_some, Option.bind_some, h3, List.length_cons, List.length_nil, List.drop_zero, List.drop_succ_cons, Nat.reduceAdd, Nat.le_refl, and_self, true_and, if_true, Bool.and_self, Nat.reduceLeDiff, _root_.eq_self, and_true, t3, wc_eq (wa _), wc_eq (wb _), len_rlink, r0, z00, z, wc_eq (wt _), Bool.not_true, q0]
      exact ⟨_, rfl⟩
  | true =>
  rw [rlen_ok tb] at wb
  have hok : Oks [a, b] := by rw [Oks, Oks, Oks]; exact ⟨oka, okb, trivial⟩
  have hall : ∀ t, t ∈ [a, b] → isT t = true := by
    intro t m
    rcases List.mem_cons.1 m with rfl | m
    · exact ta
    · rcases List.mem_cons.1 m with rfl | m
      · exact tb
      · cases m
  have kv := sl_two a b
  have hl : [a, b].length < 1000000 := by simp
  obtain ⟨r1, ok1, e1, w1⟩ := call_fine hok hall kv hl find_lt (boolT_ok _) (isT_boolT _) (c38_lt kv oka okb ta tb)
  obtain ⟨r2, ok2, e2, w2⟩ := call_fine hok hall kv hl find_eq (boolT_ok _) (isT_boolT _) (c38_eq kv oka okb ta tb)
  obtain ⟨r3, ok3, e3, w3⟩ := call_fine hok hall kv hl find_gt (boolT_ok _) (isT_boolT _) (c38_gt kv oka okb ta tb)
  have t1 := eqF_of_bool e1
  have t2 := eqF_of_bool e2
  have t3' := eqF_of_bool e3
  obtain ⟨f1, f2, f3, f4, ff⟩ := find_max
  obtain ⟨d1, d2, d3, d4, fd⟩ := find_min
  have okm : ∀ p : Prop, [Decidable p] → (if p then b else a).Ok := fun p _ => by split <;> assumption
  have ttm : ∀ p : Prop, [Decidable p] → isT (if p then b else a) = true := fun p _ => by split <;> assumption
  obtain ⟨x, okx, ex, wx⟩ := call_fine hok hall kv hl ff (okm _) (ttm _) (c38_max kv oka okb ta tb)
  obtain ⟨y, oky, ey, wy⟩ := call_fine hok hall kv hl fd (okm _) (ttm _) (c38_min kv oka okb ta tb)
  have tx : isT x = true := by rw [isT_same ex]; exact ttm _
  have ty : isT y = true := by rw [isT_same ey]; exact ttm _
  have hab := ord_anti a b
  refine call_body rfl rfl (.inl rfl) ?_
  have eb : a4.body = (.seq (.ops a4_0) (.seq (.seq (.ops a4_1) (.cond (.t 24) (.seq (.ops a4_2) .ret) .skip)) (.seq (.ops a4_3) (.seq (.ops a4_4) (.seq (.seq (.ops a4_5) (.block 0 (.loop a4_l13))) ordTail))))) := rfl
  rw [eb]
  obtain ⟨T, eT⟩ : ∃ T, T = ordTail := ⟨_, rfl⟩
  rw [← eT]
  have op : AV.fs true 3 [.str [60], .str [61, 61], .str [62]] = opsAV := rfl
  have l3 : ([AV.str [60], .str [61, 61], .str [62]] : List AV).length = 3 * 1 := rfl
  simp only [a4_0, a4_1, a4_3, a4_4, a4_5, Slots.ofList, s3, reduceIte, Nat.reduceEqDiff, aBin, aInt, negIf, Option.some.injEq, exists_eq_left', Option.map_some, Option.bind_some, h3, List.length_cons, List.length_nil, List.drop_zero, List.drop_succ_cons, Nat.reduceAdd, Nat.le_refl, and_self, true_and, if_true, Bool.and_self, Nat.reduceLeDiff, _root_.eq_self, and_true, t3, wc_eq (wa _), wc_eq (wb _), len_rlink, r0, z00, fillOps, l3, op]
  have ho1 : HeapOk (Heap.empty.new (tc a)) := HeapOk.empty.new _
  have ho2 : HeapOk ((Heap.empty.new (tc a)).new (tc b)) := ho1.new _
  refine wpr_round' fun q hq => orders_round (i := 0) (n := 0) (a := a) (b := b) ho2 (by simp only [h3, List.length_cons, List.length_nil, List.drop_zero, List.drop_succ_cons, Nat.reduceAdd, Nat.le_refl, and_self, true_and, if_true, Bool.and_self, Nat.reduceLeDiff, _root_.eq_self, and_true, reduceIte, Nat.reduceEqDiff]) (by simp only [h3, List.length_cons, List.length_nil, List.drop_zero, List.drop_succ_cons, Nat.reduceAdd, Nat.le_refl, and_self, true_and, if_true, Bool.and_self, Nat.reduceLeDiff, _root_.eq_self, and_true, reduceIte, Nat.reduceEqDiff]) ?_ ?_ ?_ ?_ ?_ (by omega) (by omega) opsIdx0 rfl ok1 w1 t1 fun σ1 h1 ho1 a1 b1 p2 p3 p5 p6 p7 => ?_
  · simp only [get_put, reduceIte, Nat.reduceEqDiff]
  · simp only [get_put, reduceIte, Nat.reduceEqDiff]
  · simp only [get_put, reduceIte, Nat.reduceEqDiff]; rfl
  · simp only [get_put, reduceIte, Nat.reduceEqDiff]
  · simp only [get_put, reduceIte, Nat.reduceEqDiff]; rfl
  subst hq
  show WPr env _ _ _
  refine wpr_round' fun q hq => orders_round (i := 1) (a := a) (b := b) ho1 a1 b1 p2 p3 p5 p6 p7 (by omega) (by split <;> omega) opsIdx1 rfl ok2 w2 t2 fun σ2 h2 ho2 a2 b2 q2 q3 q5 q6 q7 => ?_
  subst hq
  show WPr env _ _ _
  refine wpr_round' fun q hq => orders_round (i := 2) (a := a) (b := b) ho2 a2 b2 q2 q3 q5 q6 q7 (by omega) (by (repeat' split) <;> omega) opsIdx2 rfl ok3 w3 t3' fun σ3 h3 ho3 a3 b3 s2 s3 s5 s6 s7 => ?_
  subst hq
  show WPr env _ _ _
  refine wpr_round' fun q hq => orders_end s6 s7 fun σ4 s4 => ?_
  rw [← s4 2 (by omega)] at s2
  rw [← s4 3 (by omega)] at s3
  rw [← s4 5 (by omega)] at s5
  show wpc env T ⟨σ4, h3⟩ _
  rw [eT]
  rcases Int.lt_trichotomy (ordF a b) 0 with c | c | c
  · have y1 : decide (ordF a b < 0) = true := decide_eq_true c
    have y2 : (ordF a b == 0) = false := by simp; omega
    have y3 : decide (ordF a b > 0) = false := decide_eq_false (by omega)
    rw [y1, y2, y3] at s5
    rw [if_pos c] at ex
    rw [if_neg (show ¬ ordF a b > 0 by omega)] at ey
    have oxy : ordF x y = ordF b a := ord_same ex ey
    refine tail_two ho3 a3 b3 s2 s3 s5 oka okb okx oky tx ty (by rw [oxy]; omega) wx wy ?_ ?_ ?_
    · cases e : sameF x a with
      | false => rfl
      | true =>
        have := (same_er _ _).1 e
        have h1 : ordF a b = 0 := by rw [ord_same (rfl : er a = er a) (ex.symm.trans this), ord_self]
        omega
    · exact same_of ex
    · exact same_of ey
  · have y1 : decide (ordF a b < 0) = false := decide_eq_false (by omega)
    have y2 : (ordF a b == 0) = true := by simp; omega
    have y3 : decide (ordF a b > 0) = false := decide_eq_false (by omega)
    rw [y1, y2, y3] at s5
    rw [if_neg (show ¬ ordF a b < 0 by omega)] at ex
    rw [if_neg (show ¬ ordF a b > 0 by omega)] at ey
    have oxy : ordF x y = ordF a a := ord_same ex ey
    have eab := ord_zero a b (isT_wf ta) (isT_wf tb) c
    refine tail_one ho3 a3 b3 s2 s3 s5 oka okb okx oky tx ty (by rw [oxy, ord_self]; omega) wx wy (same_of ex) (same_of (ey.trans eab))
  · have y1 : decide (ordF a b < 0) = false := decide_eq_false (by omega)
    have y2 : (ordF a b == 0) = false := by simp; omega
    have y3 : decide (ordF a b > 0) = true := decide_eq_true c
    rw [y1, y2, y3] at s5
    rw [if_neg (show ¬ ordF a b < 0 by omega)] at ex
    rw [if_pos c] at ey
    have oxy : ordF x y = ordF a b := ord_same ex ey
    refine tail_one ho3 a3 b3 s2 s3 s5 oka okb okx oky tx ty (by rw [oxy]; omega) wx wy (same_of ex) (same_of ey)
end Go.Bf
