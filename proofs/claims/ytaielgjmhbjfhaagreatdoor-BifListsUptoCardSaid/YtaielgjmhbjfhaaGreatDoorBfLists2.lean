/-
  BifLists answers true (2): the law.
-/
import Derived.Test.YtaielgjmhbjfhaaGreatDoorBfList
import Derived.Test.YtaielgjmhbjfhaaGreatDoorAmD
set_option linter.unusedVariables false
set_option linter.unusedSimpArgs false
set_option maxRecDepth 20000
namespace Go.Bf
open Go.AM
theorem wf_any {t : Tm} (w : Wf t) : t.args.length ≤ 4096 ∧ (t.kind = 7 → 2 ≤ t.args.length) ∧ Wfs t.args := by
  cases t with
  | mk k i s c nf ns af ar =>
    refine ⟨w.1.2, fun e => ?_, w.2⟩
    have e : k = 7 := e
    subst e
    exact wf_list2 w
theorem ok_args {t : Tm} (ok : t.Ok) : Oks t.args := by
  cases t with
  | mk k i s c nf ns af ar => exact ok.lens.2.2.2
theorem ldk {l : List Tm} {i : Nat} (hi : i < l.length) : ldCells false 1 ((tcs l).drop (i * 6)) = some (.int .i64 l[i].kind) := by
  rw [tcs_drop l i hi]
  cases l[i]; rfl
theorem elements_spec (t : Tm) (w : Wf t) : ∃ v, Sl v ((elemsF t).getD []) ∧ ∀ h, WC env 102 [.agg (tc t)] h (fun o => o = .ret ⟨.tup [v, .bool (elemsF t).isSome], h, .none⟩) := by
  obtain ⟨hl, h2, _⟩ := wf_any w
  have ka := arAV_sl t
  have nl := ka.len
  have hr : AV.noRefs [.agg (tc t)] = true := by simp only [AV.noRefs, AV.noRef, noRef_tc, Bool.and_self]
  obtain ⟨m, em⟩ : ∃ m, m = IntKind.wrap .i64 ((t.args.length : Int) - 1) := ⟨_, rfl⟩
  by_cases k6 : t.kind = 6
  · have e : elemsF t = some [] := by rw [elemsF, if_pos k6]
    have z6 : (t.kind == 6) = true := by simpa using k6
    rw [e]
    refine ⟨.nils, .nil, fun h => call_pure rfl rfl rfl hr ?_⟩
    simp only [a102, a102_0, a102_1, a102_2, a102_3, Slots.ofList, wpc_draw, s3, reduceIte, Nat.reduceEqDiff, aBin, aInt, negIf, Option.some.injEq, exists_eq_left', Option.map_some, Option.bind_some, h3, List.length_cons, List.length_nil, List.drop_zero, List.drop_succ_cons, Nat.reduceAdd, Nat.le_refl, and_self, true_and, if_true, Bool.and_self, Nat.reduceLeDiff, _root_.eq_self, and_true, exists_eq', t3, nl, z6, reduceIte, Nat.reduceEqDiff, Option.isSome_some]
  have z6 : (t.kind == 6) = false := by simpa using k6
  by_cases k7 : t.kind = 7
  · have z7 : (t.kind == 7) = true := by simpa using k7
    have hm : IntKind.wrap .i64 ((t.args.length : Int) - 1) = ((t.args.length - 1 : Nat) : Int) := wrap_nat (by have := h2 k7; omega) (by omega)
    have hi : t.args.length - 1 < t.args.length := by have := h2 k7; omega
    have hne : t.args ≠ [] := fun e => by rw [e] at hi; simp at hi
    have lx := ka.idx hi
    have lk := ldk hi
    have d0 : ∀ l : List AV, l.drop 0 = l := fun _ => rfl
    cases e6 : last6 t.args with
    | true =>
      have e : elemsF t = some t.args.dropLast := by rw [elemsF, if_neg k6, if_pos ⟨k7, e6⟩]
      have zk : (t.args[t.args.length - 1].kind == 6) = true := by rw [← last6_get _ hi]; exact e6
      obtain ⟨v, hv, kv⟩ := ka.init hne
      rw [e]
      refine ⟨v, kv, fun h => call_pure rfl rfl rfl hr ?_⟩
      have hvr := kv.noRef
      simp only [a102, a102_0, a102_1, a102_2, a102_4, a102_5, Slots.ofList, wpc_draw, s3, reduceIte, Nat.reduceEqDiff, aBin, aInt, negIf, Option.some.injEq, exists_eq_left', Option.map_some, Option.bind_some, h3, List.length_cons, List.length_nil, List.drop_zero, List.drop_succ_cons, Nat.reduceAdd, Nat.le_refl, and_self, true_and, if_true, Bool.and_self, Nat.reduceLeDiff, _root_.eq_self, and_true, exists_eq', t3, nl, z6, z7, hm, lx, d0, lk, zk, hv, hvr, reduceIte, Nat.reduceEqDiff, Option.isSome_some]
    | false =>
      have e : elemsF t = none := by rw [elemsF, if_neg k6, if_neg (fun h => by rw [e6] at h; cases h.2)]
      have zk : (t.args[t.args.length - 1].kind == 6) = false := by rw [← last6_get _ hi]; exact e6
      rw [e]
      refine ⟨.nils, .nil, fun h => call_pure rfl rfl rfl hr ?_⟩
      simp only [a102, a102_0, a102_1, a102_2, a102_4, a102_6, Slots.ofList, wpc_draw, s3, reduceIte, Nat.reduceEqDiff, aBin, aInt, negIf, Option.some.injEq, exists_eq_left', Option.map_some, Option.bind_some, h3, List.length_cons, List.length_nil, List.drop_zero, List.drop_succ_cons, Nat.reduceAdd, Nat.le_refl, and_self, true_and, if_true, Bool.and_self, Nat.reduceLeDiff, _root_.eq_self, and_true, exists_eq', t3, nl, z6, z7, hm, lx, d0, lk, zk, reduceIte, Nat.reduceEqDiff, Option.isSome_none]
  · have z7 : (t.kind == 7) = false := by simpa using k7
    have e : elemsF t = none := by rw [elemsF, if_neg k6, if_neg (fun h => k7 h.1)]
    rw [e]
    refine ⟨.nils, .nil, fun h => call_pure rfl rfl rfl hr ?_⟩
    simp only [a102, a102_0, a102_1, a102_2, a102_4, a102_6, Slots.ofList, wpc_draw, s3, reduceIte, Nat.reduceEqDiff, aBin, aInt, negIf, Option.some.injEq, exists_eq_left', Option.map_some, Option.bind_some, h3, List.length_cons, List.length_nil, List.drop_zero, List.drop_succ_cons, Nat.reduceAdd, Nat.le_refl, and_self, true_and, if_true, Bool.and_self, Nat.reduceLeDiff, _root_.eq_self, and_true, exists_eq', t3, nl, z6, z7, reduceIte, Nat.reduceEqDiff, Option.isSome_none]
theorem elems_len {t : Tm} {l : List Tm} (w : Wf t) (e : elemsF t = some l) : l.length ≤ 4096 ∧ ∀ x, x ∈ l → x ∈ t.args := by
  obtain ⟨hl, _⟩ := wf_any w
  rw [elemsF] at e
  split at e
  · cases e; exact ⟨by simp, fun x m => by simp at m⟩
  split at e
  · cases e
    exact ⟨by rw [List.length_dropLast]; omega, fun x m => List.dropLast_subset _ m⟩
  · cases e
theorem joined_pp (a b : Tm) (wa : Wf a) (wb : Wf b) {l : List Tm} (e : elemsF a = some l) : ∃ f, ∀ h, WC env 65 [.str [43, 43], .agg (tc a), .agg (tc b)] h (fun o => o = .ret ⟨.tup [.agg (tc (listT l b f)), .int .i64 0], h, .none⟩) := by
  obtain ⟨v, kv, w1⟩ := elements_spec a wa
  obtain ⟨u, ku, w2⟩ := elements_spec b wb
  rw [e] at w1 kv
  have e1 : (Option.isSome (some l : Option (List Tm))) = true := rfl
  rw [e1] at w1
  have hl := (elems_len wa e).1
  obtain ⟨hb, hb2, _⟩ := wf_any wb
  obtain ⟨f, wl⟩ := list_spec kv b (by show l.length ≤ 50000; omega) (by omega) (fun e7 e8 => by have := hb2 e7; rw [e8] at this; simp at this)
  have n0 : (([43, 43] : List UInt8) == [45, 45]) = false := by decide
  have n1 : (([43, 43] : List UInt8) == [43, 43]) = true := by decide
  refine ⟨f, fun h => call_pure rfl rfl rfl (by simp only [AV.noRefs, AV.noRef, noRef_tc, Bool.and_self]) ?_⟩
  have wl' : ∀ h, WC env 103 [v, .agg (tc b)] h (fun o => o = .ret ⟨.agg (tc (listT l b f)), h, .none⟩) := wl
  simp only [a65, a65_0, a65_1, a65_2, a65_3, a65_5, a65_6, Slots.ofList, wpc_draw, s3, reduceIte, Nat.reduceEqDiff, aBin, aInt, negIf, Option.some.injEq, exists_eq_left', Option.map_some, Option.bind_some, h3, List.length_cons, List.length_nil, List.drop_zero, List.drop_succ_cons, Nat.reduceAdd, Nat.le_refl, and_self, true_and, if_true, Bool.and_self, Nat.reduceLeDiff, _root_.eq_self, and_true, exists_eq', t3, wc_eq (w1 _), wc_eq (w2 _), wc_eq (wl' _), Bool.not_true, aStr, n0, n1, reduceIte, Nat.reduceEqDiff]
end Go.Bf

set_option linter.unusedVariables false
set_option linter.unusedSimpArgs false
set_option maxRecDepth 20000
namespace Go.Bf
open Go.AM
/-- the first that is equal -/
def fi (x : Tm) : List Tm → Option Nat
  | [] => none
  | y :: l => if eqF x y = true then some 0 else (fi x l).map (· + 1)
theorem fi_lt {x : Tm} : ∀ {l : List Tm} {j : Nat}, fi x l = some j → j < l.length
  | [], j, h => by cases h
  | y :: l, j, h => by
    rw [fi] at h
    split at h
    · cases h; simp
    · simp only [Option.map_eq_some_iff] at h
      obtain ⟨k, hk, rfl⟩ := h
      have := fi_lt hk
      simp only [List.length_cons]; omega
def minusF : List Tm → List Tm → List Tm
  | l, [] => l
  | l, x :: m => minusF (match fi x l with
    | some i => l.eraseIdx i
    | none => l) m
/-- a slice of terms that is written: its array may be longer -/
inductive Own6 (h : Heap) (lo : Nat) : AV → List Tm → Prop
  | nils : Own6 h lo .nils []
  | full : Own6 h lo (.fs true 0 []) []
  | sl (id : Nat) (cs : List AV) (l : List Tm) : h.at_ id 0 = some cs → lo ≤ id → l.length * 6 ≤ cs.length → cs.take (l.length * 6) = tcs l → Own6 h lo (.sl id 0 0 6 l.length none) l
theorem Own6.chg {h h' : Heap} {lo : Nat} {v : AV} {l : List Tm} (k : Own6 h lo v l) (c : ∀ id cs, lo ≤ id → h.at_ id 0 = some cs → h'.at_ id 0 = some cs) : Own6 h' lo v l := by
  cases k with
  | nils => exact .nils
  | full => exact .full
  | sl id cs l h1 h2 h3 h4 => exact .sl id cs l (c _ _ h2 h1) h2 h3 h4
theorem Own6.lenOp {h : Heap} {lo : Nat} {v : AV} {l : List Tm} (k : Own6 h lo v l) (h2 : Heap) : aLenOp false h2 v = some ⟨.int .i64 l.length, h2, .none⟩ := by
  cases k <;> rfl
theorem Own6.src {h : Heap} {lo : Nat} {v : AV} {l : List Tm} (k : Own6 h lo v l) : Src h v l := by
  cases k with
  | nils => exact ⟨rfl, ⟨.none, rfl⟩, ⟨true, rfl, fun _ => rfl⟩⟩
  | full => exact ⟨rfl, ⟨.none, rfl⟩, ⟨false, rfl, fun e => by cases e⟩⟩
  | sl id cs l h1 h2 h3 h4 =>
    refine ⟨rfl, ⟨.read, ?_⟩, ⟨false, rfl, fun e => by cases e⟩⟩
    show (if 6 = 6 ∧ l.length ≤ l.length then (h.at_ id 0).bind fun cs => if 0 + l.length * 6 ≤ cs.length then some ((cs.drop 0).take (l.length * 6), Cls.read) else none else none) = _
    rw [if_pos ⟨rfl, Nat.le_refl _⟩, h1, Option.bind_some, if_pos (by omega), List.drop_zero, h4]
theorem Own6.ld {h : Heap} {lo : Nat} {v : AV} {l : List Tm} (k : Own6 h lo v l) {i : Nat} (hi : i < l.length) : ∃ p, aIdxAddr 6 v (.int .i64 i) = some p ∧ aLoad h true 6 p = some ⟨.agg (tc l[i]), h, .read⟩ := by
  cases k with
  | nils => simp at hi
  | full => simp at hi
  | sl id cs l h1 h2 h3 h4 =>
    refine ⟨.ptr id 0 (0 + i * 6), ?_, ?_⟩
    · simp only [aIdxAddr, if_true, aIndex_nat (kd := .i64) hi, Option.map_some]
    · have e : ldCells true 6 (cs.drop (0 + i * 6)) = some (.agg (tc l[i])) := by
        have hd := tcs_drop l i hi
        rw [← h4, List.drop_take] at hd
        have ht : (cs.drop (i * 6)).take 6 = tc l[i] := by
          have h6 : 6 ≤ l.length * 6 - i * 6 := by omega
          have := congrArg (List.take 6) hd
          rw [tc_take, List.take_take, Nat.min_eq_left h6] at this
          exact this
        rw [Nat.zero_add]
        show (if 6 ≤ (cs.drop (i * 6)).length then some (AV.agg ((cs.drop (i * 6)).take 6)) else none) = _
        rw [if_pos (by rw [List.length_drop]; omega), ht]
      rw [aLoad_ptr, h1, Option.bind_some, e]; rfl
theorem eq_clos {h : Heap} {ip : Nat} {x y : Tm} (okx : x.Ok) (oky : y.Ok) (ho : HeapOk h) (hx : h.at_ ip 0 = some (tc x)) : WC env 106 [.agg (tc y), .ptr ip 0 0] h (fun o => o = .ret ⟨.bool (eqF x y), h.new (tc y), .write⟩) := by
  have n0 : (ip = h.next) = False := eq_false (by have := ho.lt hx; omega)
  refine call_body rfl rfl (.inl rfl) ?_
  simp only [a106, a106_0, a106_1, Slots.ofList, wpc_draw, s3, reduceIte, Nat.reduceEqDiff, aBin, aInt, negIf, Option.some.injEq, exists_eq_left', Option.map_some, Option.bind_some, h3, List.length_cons, List.length_nil, List.drop_zero, List.drop_succ_cons, Nat.reduceAdd, Nat.le_refl, and_self, true_and, if_true, Bool.and_self, Nat.reduceLeDiff, _root_.eq_self, and_true, exists_eq', t3, n0, hx, if_false, wc_eq (equal_spec x y okx oky _), reduceIte, Nat.reduceEqDiff]
theorem index_loop {x : Tm} {l : List Tm} (okx : x.Ok) (okl : Oks l) (hl : l.length ≤ 100000) {ip lo : Nat} {v : AV} {Q : AExit → St → Prop} :
    ∀ (f i : Nat) (σ : Slots) (h : Heap), l.length - i < f → i ≤ l.length → HeapOk h → h.at_ ip 0 = some (tc x) → Own6 h lo v l → σ.get 0 = v → σ.get 1 = .fn (.func 106) [] [.ptr ip 0 0] → σ.get 7 = .int .i64 l.length → σ.get 8 = .int .i64 i →
    (∀ σ' h', HeapOk h' → h.le h' → (∀ j, fi x (l.drop i) = some j → σ'.get 4 = .int .i64 ((i + j : Nat) : Int) → Q .ret ⟨σ', h'⟩) ∧ (fi x (l.drop i) = none → Q (.exit 0) ⟨σ', h'⟩)) →
    WPr env a105_l7 ⟨σ, h⟩ Q := by
  intro f
  induction f with
  | zero => intro i σ h h1; omega
  | succ f ih =>
    intro i σ h hf hi ho hx k g0 g1 g7 g8 hQ
    refine wpr_round' fun b hb => ?_
    by_cases c1 : i < l.length
    · have z0 : ((i : Int) < (l.length : Int)) = True := eq_true (by omega)
      have zi : IntKind.wrap .i64 ((i : Int) + 1) = ((i + 1 : Nat) : Int) := wrap_nat (by omega) (by omega)
      obtain ⟨p, ip', lp⟩ := k.ld c1
      have wq := eq_clos okx (okl.get (List.getElem_mem c1)) ho hx
      have hd : l.drop i = l[i] :: l.drop (i + 1) := List.drop_eq_getElem_cons c1
      have cv : ∀ {Q : COut → Prop}, callvK env (some (.fn (.func 106) [] [.ptr ip 0 0])) (some [.agg (tc l[i])]) h Q = WC env 106 [.agg (tc l[i]), .ptr ip 0 0] h Q := fun {Q} => rfl
      have le1 : h.le (h.new (tc l[i])) := le_new ho _
      cases e : eqF x l[i] with
      | true =>
        rw [e] at wq
        simp only [a105_l7, a105_2, a105_3, a105_4, a105_5, wpc_draw, s3, reduceIte, Nat.reduceEqDiff, aBin, aInt, negIf, Option.some.injEq, exists_eq_left', Option.map_some, Option.bind_some, wp1_callv', g0, g1, g7, g8, z0, ip', lp, cv, wc_eq wq]
        refine (hQ _ _ (ho.new _) le1).1 0 ?_ ?_
        · rw [hd, fi, if_pos e]
        · simp only [get_put, reduceIte, Nat.reduceEqDiff, Nat.add_zero]
      | false =>
        rw [e] at wq
        simp only [a105_l7, a105_2, a105_3, a105_4, a105_6, wpc_draw, s3, reduceIte, Nat.reduceEqDiff, aBin, aInt, negIf, Option.some.injEq, exists_eq_left', Option.map_some, Option.bind_some, wp1_callv', g0, g1, g7, g8, z0, zi, ip', lp, cv, wc_eq wq]
        subst hb
        refine ih (i + 1) _ _ (by omega) (by omega) (ho.new _) (le1.2 _ _ _ hx) (k.chg fun id cs _ e => le1.2 _ _ _ e) ?_ ?_ ?_ ?_ fun σ' h' p1 p2 => ⟨fun j hj g4 => ?_, fun hn => ?_⟩
        · simp only [get_put, reduceIte, Nat.reduceEqDiff, g0]
        · simp only [get_put, reduceIte, Nat.reduceEqDiff, g1]
        · simp only [get_put, reduceIte, Nat.reduceEqDiff, g7]
        · simp only [get_put, reduceIte, Nat.reduceEqDiff]
        · refine (hQ σ' h' p1 (Heap.le_trans le1 p2)).1 (j + 1) ?_ ?_
          · rw [hd, fi, if_neg (by rw [e]; decide), hj]; rfl
          · rw [g4]; congr 2; omega
        · refine (hQ σ' h' p1 (Heap.le_trans le1 p2)).2 ?_
          rw [hd, fi, if_neg (by rw [e]; decide), hn]; rfl
    · have z0 : ((i : Int) < (l.length : Int)) = False := eq_false (by omega)
      simp only [a105_l7, a105_2, wpc_draw, s3, reduceIte, Nat.reduceEqDiff, aBin, aInt, negIf, Option.some.injEq, exists_eq_left', Option.map_some, Option.bind_some, g7, g8, z0]
      refine (hQ _ h ho (Heap.le_refl h)).2 ?_
      rw [List.drop_of_length_le (by omega)]; rfl
def fiI (x : Tm) (l : List Tm) : Int := match fi x l with
  | some j => (j : Int)
  | none => -1
theorem indexF_spec {x : Tm} {l : List Tm} (okx : x.Ok) (okl : Oks l) (hl : l.length ≤ 100000) {ip lo : Nat} {v : AV} {h : Heap} (ho : HeapOk h) (hx : h.at_ ip 0 = some (tc x)) (k : Own6 h lo v l) :
    ∃ h', HeapOk h' ∧ h.le h' ∧ WC env 105 [v, .fn (.func 106) [] [.ptr ip 0 0]] h (fun o => o = .ret ⟨.int .i64 (fiI x l), h', .write⟩) := by
  have key : WC env 105 [v, .fn (.func 106) [] [.ptr ip 0 0]] h (fun o => ∃ h', HeapOk h' ∧ h.le h' ∧ o = .ret ⟨.int .i64 (fiI x l), h', .write⟩) := by
    have nl := k.lenOp
    refine call_body rfl rfl (.inl rfl) ?_
    have eb : a105.body = (.seq (.ops a105_0) (.seq (.seq (.ops a105_1) (.block 0 (.loop a105_l7))) (.seq (.ops a105_8) .ret))) := rfl
    rw [eb]
    simp only [a105_0, a105_1, Slots.ofList, wpc_draw, s3, reduceIte, Nat.reduceEqDiff, aBin, aInt, negIf, Option.some.injEq, exists_eq_left', Option.map_some, Option.bind_some, nl]
    refine index_loop okx okl hl (ip := ip) (lo := lo) (v := v) (l.length + 1) 0 _ h (by omega) (by omega) ho hx k ?_ ?_ ?_ ?_ fun σ' h' p1 p2 => ⟨fun j hj g4 => ?_, fun hn => ?_⟩
    · simp only [get_put, reduceIte, Nat.reduceEqDiff]
    · simp only [get_put, reduceIte, Nat.reduceEqDiff]
    · simp only [get_put, reduceIte, Nat.reduceEqDiff]
    · simp only [get_put, reduceIte, Nat.reduceEqDiff]; rfl
    · rw [List.drop_zero] at hj
      rw [Nat.zero_add] at g4
      refine ⟨[.int .i64 j], by simp only [a105, Env.results, Option.map_some, g4], h', p1, p2, ?_⟩
      rw [fiI, hj]; rfl
    · rw [List.drop_zero] at hn
      simp only [a105_8, wpc_draw, s3, reduceIte, Nat.reduceEqDiff, aBin, aInt, negIf, Option.some.injEq, exists_eq_left', Option.map_some, Option.bind_some]
      refine ⟨[.int .i64 (-1)], by simp only [a105, Env.results, Option.map_some, get_put, reduceIte, Nat.reduceEqDiff], h', p1, p2, ?_⟩
      rw [fiI, hn]; rfl
  obtain ⟨o, hn, h', h1, h2, e⟩ := key
  subst e
  exact ⟨h', h1, h2, _, hn, rfl⟩
end Go.Bf

set_option linter.unusedVariables false
set_option linter.unusedSimpArgs false
set_option maxRecDepth 20000
namespace Go.Bf
open Go.AM
theorem sb_no {n i : Nat} {k : IntKind} (h : n < i) : sbound n (.int k i) = none := by
  show (if 0 ≤ (i : Int) ∧ (i : Int) ≤ n then some ((i : Int).toNat) else none) = none
  rw [if_neg (by omega)]
theorem erase_eq (l : List Tm) (i : Nat) : l.eraseIdx i = l.take i ++ l.drop (i + 1) := List.eraseIdx_eq_take_drop_succ l i
theorem delete_spec {h : Heap} {lo : Nat} {v : AV} {l : List Tm} (ho : HeapOk h) (k : Own6 h lo v l) {i : Nat} (hi : i < l.length) (hn : l.length ≤ 100000) :
    ∃ v' h', HeapOk h' ∧ Own6 h' lo v' (l.eraseIdx i) ∧ Chg (fun j => lo ≤ j) h h' ∧ WC env 107 [v, .int .i64 i, .int .i64 ((i + 1 : Nat) : Int)] h (fun o => o = .ret ⟨v', h', .write⟩) := by
  cases k with
  | nils => simp at hi
  | full => simp at hi
  | sl id cs l p1 p2 p3 p4 =>
    obtain ⟨n, en⟩ : ∃ n, n = l.length := ⟨_, rfl⟩
    have nl : ∀ (m : Nat) (h : Heap) (o : Nat), aLenOp false h (.sl id 0 o 6 m none) = some ⟨.int .i64 m, h, .none⟩ := fun m h o => rfl
    have s1 : aSlice 6 (.sl id 0 0 6 l.length none) (some (.int .i64 i)) (some (.int .i64 ((i + 1 : Nat) : Int))) (some (.int .i64 l.length)) = some (.sl id 0 (0 + i * 6) 6 (i + 1 - i) (some (l.length - i))) := by
      have hb : bounds l.length l.length (some (.int .i64 i)) (some (.int .i64 ((i + 1 : Nat) : Int))) (some (.int .i64 l.length)) = some (i, i + 1, l.length) := by
        simp only [bounds, sb_ok (Nat.le_refl l.length), sb_ok (show i + 1 ≤ l.length by omega), sb_ok (Nat.le_succ i), Option.bind_some, Option.map_some]
      simp only [aSlice, if_true, hb, Option.map_some]
    have s2 : aSlice 6 (.sl id 0 0 6 l.length none) none (some (.int .i64 i)) none = some (.sl id 0 0 6 i none) := by
      have hb : bounds l.length l.length none (some (.int .i64 i)) none = some (0, i, l.length) := by
        simp only [bounds, sb_ok (show i ≤ l.length by omega), Option.bind_some, Option.map_some]
      simp only [aSlice, if_true, hb, Option.map_some, Option.map_none, Nat.zero_mul, Nat.add_zero, Nat.sub_zero]
    have s3' : aSlice 6 (.sl id 0 0 6 l.length none) (some (.int .i64 ((i + 1 : Nat) : Int))) none none = some (.sl id 0 (0 + (i + 1) * 6) 6 (l.length - (i + 1)) none) := by
      have hb : bounds l.length l.length (some (.int .i64 ((i + 1 : Nat) : Int))) none none = some (i + 1, l.length, l.length) := by
        simp only [bounds, sb_ok (show i + 1 ≤ l.length by omega), Option.bind_some, Option.map_some]
      simp only [aSlice, if_true, hb, Option.map_some, Option.map_none]
    have zne : ((i : Int) == ((i + 1 : Nat) : Int)) = false := by simp; omega
    -- the append
    have htc : (tcs l).length = l.length * 6 := tcs_length l
    have hpre : cs.take (i * 6) = tcs (l.take i) := by
      rw [← tcs_take, ← p4, List.take_take, Nat.min_eq_left (by omega)]
    have hmid : (cs.drop ((i + 1) * 6)).take ((l.length - (i + 1)) * 6) = tcs (l.drop (i + 1)) := by
      rw [← tcs_drop2, ← p4, List.drop_take]
      congr 1
      omega
    have hlen : (l.eraseIdx i).length = l.length - 1 := by rw [List.length_eraseIdx, if_pos hi]
    have app : ∃ cs' h' c, aAppend h 6 88 (.sl id 0 0 6 i none) (.sl id 0 (0 + (i + 1) * 6) 6 (l.length - (i + 1)) none) = some ⟨.sl id 0 0 6 (l.length - 1) none, h', c⟩ ∧ HeapOk h' ∧ h'.at_ id 0 = some cs' ∧ cs'.length = cs.length ∧ cs'.take ((l.length - 1) * 6) = tcs (l.eraseIdx i) ∧ Chg (fun j => lo ≤ j) h h' := by
      by_cases hlast : l.length - (i + 1) = 0
      · refine ⟨cs, h, .none, ?_, ho, p1, rfl, ?_, Chg.refl⟩
        · unfold aAppend
          simp only [aLen, Option.bind_some, hlast]
          rw [if_pos ⟨by omega, by omega, by omega⟩, if_pos trivial, show i = l.length - 1 by omega]
        · rw [show l.length - 1 = i by omega, hpre, erase_eq, List.drop_of_length_le (by omega), List.append_nil]
      · have sc : sliceCells h 6 (l.length - (i + 1)) (.sl id 0 (0 + (i + 1) * 6) 6 (l.length - (i + 1)) none) = some (tcs (l.drop (i + 1)), .read) := by
          show (if 6 = 6 ∧ l.length - (i + 1) ≤ l.length - (i + 1) then (h.at_ id 0).bind fun cs => if 0 + (i + 1) * 6 + (l.length - (i + 1)) * 6 ≤ cs.length then some ((cs.drop (0 + (i + 1) * 6)).take ((l.length - (i + 1)) * 6), Cls.read) else none else none) = _
          rw [if_pos ⟨rfl, Nat.le_refl _⟩, p1, Option.bind_some, if_pos (by omega), Nat.zero_add, hmid]
        have a1 := append_in (n := i) p1 (show aLen (.sl id 0 (0 + (i + 1) * 6) 6 (l.length - (i + 1)) none) = some (l.length - (i + 1)) from rfl) hlast sc (by omega) (by omega)
        rw [show i + (l.length - (i + 1)) = l.length - 1 by omega] at a1
        have ld : (tcs (l.drop (i + 1))).length = (l.length - (i + 1)) * 6 := by rw [tcs_length, List.length_drop]
        refine ⟨splice cs (i * 6) (tcs (l.drop (i + 1))), _, .write, a1, ho.upd (at_look.1 p1) _ _, at_upd, ?_, ?_, upd_chg p2⟩
        · simp only [splice, List.length_append, List.length_take, List.length_drop, ld]; omega
        · rw [splice, hpre, erase_eq, tcs_append, List.take_append_of_le_length (by rw [List.length_append, tcs_length, List.length_take, ld]; omega)]
          exact List.take_of_length_le (by rw [List.length_append, tcs_length, List.length_take, ld]; omega)
    obtain ⟨cs', h', c, ap, ho', at', len', tk', ch'⟩ := app
    have sn : aSlice 6 (.sl id 0 0 6 (l.length - 1) none) (some (.int .i64 ((l.length - 1 : Nat) : Int))) (some (.int .i64 l.length)) none = none := by
      have hb : bounds (l.length - 1) (l.length - 1) (some (.int .i64 ((l.length - 1 : Nat) : Int))) (some (.int .i64 l.length)) none = none := by
        simp only [bounds, sb_no (show l.length - 1 < l.length by omega), Option.bind_some, Option.bind_none]
      simp only [aSlice, if_true, hb, Option.map_none]
    have sh : aSliceH h' 6 (.sl id 0 0 6 (l.length - 1) none) (some (.int .i64 ((l.length - 1 : Nat) : Int))) (some (.int .i64 l.length)) none = some ⟨.sl id 0 (0 + (l.length - 1) * 6) 6 (l.length - (l.length - 1)) none, h', .read⟩ := by
      have hq : l.length ≤ (cs'.length - 0) / 6 := by rw [len']; omega
      have hb : bounds (l.length - 1) ((cs'.length - 0) / 6) (some (.int .i64 ((l.length - 1 : Nat) : Int))) (some (.int .i64 l.length)) none = some (l.length - 1, l.length, (cs'.length - 0) / 6) := by
        simp only [bounds, sb_ok hq, sb_ok (Nat.sub_le l.length 1), Option.bind_some, Option.map_some]
      show (if 6 = 6 ∧ 0 < 6 then (h'.at_ id 0).bind fun cs => (bounds (l.length - 1) ((cs.length - 0) / 6) _ _ none).map fun (l1, u, _) => (⟨.sl id 0 (0 + l1 * 6) 6 (u - l1) none, h', .read⟩ : OpRes) else none) = _
      rw [if_pos ⟨rfl, by decide⟩, at', Option.bind_some, hb]; rfl
    have cl : aClear h' 6 [.int .i64 0, .int .i64 0, .str [], .int .u32 0, .nils, .nils] (.sl id 0 (0 + (l.length - 1) * 6) 6 (l.length - (l.length - 1)) none) = some ⟨.undef, h'.upd id 0 (splice cs' (0 + (l.length - 1) * 6) (List.replicate (l.length - (l.length - 1)) [.int .i64 0, .int .i64 0, .str [], .int .u32 0, .nils, .nils]).flatten), .write⟩ := by
      show (if l.length - (l.length - 1) = 0 then _ else if 6 = 6 ∧ 6 = 6 then (h'.at_ id 0).bind fun cs => if 0 + (l.length - 1) * 6 + (l.length - (l.length - 1)) * 6 ≤ cs.length then some (⟨.undef, h'.upd id 0 (splice cs (0 + (l.length - 1) * 6) _), .write⟩ : OpRes) else none else none) = _
      rw [if_neg (by omega), if_pos ⟨rfl, rfl⟩, at', Option.bind_some, if_pos (by omega)]
    refine ⟨.sl id 0 0 6 (l.eraseIdx i).length none, h'.upd id 0 (splice cs' (0 + (l.length - 1) * 6) (List.replicate (l.length - (l.length - 1)) [.int .i64 0, .int .i64 0, .str [], .int .u32 0, .nils, .nils]).flatten), ho'.upd (at_look.1 at') _ _, .sl id _ _ at_upd p2 ?_ ?_, ch'.trans (upd_chg p2), ?_⟩
    · rw [hlen]
      simp only [splice, List.length_append, List.length_take, List.length_drop]; omega
    · rw [hlen, splice, List.append_assoc, List.take_append_of_le_length (by rw [List.length_take]; omega), List.take_take, Nat.min_eq_left (by omega), tk']
    · rw [hlen]
      simp only [Nat.zero_add] at s1 s3' ap sh cl
      refine call_body rfl rfl (.inl rfl) ?_
      simp only [a107, a107_0, a107_1, a107_2, a107_4, Slots.ofList, s3, reduceIte, Nat.reduceEqDiff, aBin, aInt, negIf, Option.some.injEq, exists_eq_left', Option.map_some, Option.bind_some, nl, s1, zne, h3, List.length_cons, List.length_nil, List.drop_zero, List.drop_succ_cons, Nat.reduceAdd, Nat.le_refl, and_self, true_and, if_true, Bool.and_self, Nat.reduceLeDiff, _root_.eq_self, and_true, exists_eq']
      refine wpc_draw_k ?_
      simp only [s3, reduceIte, Nat.reduceEqDiff, aBin, aInt, negIf, Option.some.injEq, exists_eq_left', Option.map_some, Option.bind_some, k3, a107_5, a107_6, a107_7, s2, s3', ap, isC c, nl, sn, sliceO_none, sh, cl, h3, List.length_cons, List.length_nil, List.drop_zero, List.drop_succ_cons, Nat.reduceAdd, Nat.le_refl, and_self, true_and, if_true, Bool.and_self, Nat.reduceLeDiff, _root_.eq_self, and_true, exists_eq', reduceIte, Nat.reduceEqDiff]
      cases c <;> rfl
end Go.Bf

set_option linter.unusedVariables false
set_option linter.unusedSimpArgs false
set_option maxRecDepth 20000
namespace Go.Bf
open Go.AM
theorem clone_own {h : Heap} {v : AV} {l : List Tm} (k : Src h v l) (hn : l.length ≤ 100000) (ho : HeapOk h) : ∃ v' h', WC env 104 [v] h (fun o => o = .ret ⟨v', h', .write⟩) ∧ HeapOk h' ∧ h.le h' ∧ Own6 h' h.next v' l := by
  obtain ⟨b, eb, hb⟩ := k.nil
  cases b with
  | true =>
    have e3 := hb rfl
    subst e3
    refine ⟨.nils, h, ?_, ho, Heap.le_refl h, .nils⟩
    refine call_body rfl rfl (.inl rfl) ?_
    simp only [a104, a104_0, a104_1, a104_2, Slots.ofList, wpc_draw, s3, reduceIte, Nat.reduceEqDiff, aBin, aInt, negIf, Option.some.injEq, exists_eq_left', Option.map_some, Option.bind_some, eb, h3, List.length_cons, List.length_nil, List.drop_zero, List.drop_succ_cons, Nat.reduceAdd, Nat.le_refl, and_self, true_and, if_true, Bool.and_self, Nat.reduceLeDiff, _root_.eq_self, and_true, exists_eq']
  | false =>
    have y1 : aFill [] [] = some [] := rfl
    by_cases hl : l = []
    · subst hl
      have ap : aAppend h 6 88 (.fs true 0 []) v = some ⟨.fs true 0 [], h, .none⟩ := by
        unfold aAppend
        rw [k.len]
        rfl
      refine ⟨.fs true 0 [], h, ?_, ho, Heap.le_refl h, .full⟩
      refine call_body rfl rfl (.inl rfl) ?_
      simp only [a104, a104_0, a104_1, a104_3, Slots.ofList, wpc_draw, s3, reduceIte, Nat.reduceEqDiff, aBin, aInt, negIf, Option.some.injEq, exists_eq_left', Option.map_some, Option.bind_some, eb, y1, Nat.reduceMul, Nat.zero_mul, ap, h3, List.length_cons, List.length_nil, List.drop_zero, List.drop_succ_cons, Nat.reduceAdd, Nat.le_refl, and_self, true_and, if_true, Bool.and_self, Nat.reduceLeDiff, _root_.eq_self, and_true, exists_eq']
    · have ll : l.length ≠ 0 := fun e => hl (List.length_eq_zero_iff.1 e)
      obtain ⟨c, hc⟩ := k.cells
      have ap : aAppend h 6 88 (.fs true 0 []) v = some ⟨.sl h.next 0 0 6 l.length none, h.new (tcs l), .write⟩ := by
        unfold aAppend
        rw [k.len, Option.bind_some]
        simp only [aLen, Option.bind_some]
        rw [if_pos ⟨by omega, by omega, by omega⟩, if_neg ll, hc]
        simp [sliceCells]
      refine ⟨.sl h.next 0 0 6 l.length none, h.new (tcs l), ?_, ho.new _, le_new ho _, .sl _ _ _ (at_new _) (Nat.le_refl _) (by rw [tcs_length]; exact Nat.le_refl _) (List.take_of_length_le (by rw [tcs_length]; exact Nat.le_refl _))⟩
      refine call_body rfl rfl (.inl rfl) ?_
      simp only [a104, a104_0, a104_1, a104_3, Slots.ofList, wpc_draw, s3, reduceIte, Nat.reduceEqDiff, aBin, aInt, negIf, Option.some.injEq, exists_eq_left', Option.map_some, Option.bind_some, eb, y1, Nat.reduceMul, Nat.zero_mul, ap, h3, List.length_cons, List.length_nil, List.drop_zero, List.drop_succ_cons, Nat.reduceAdd, Nat.le_refl, and_self, true_and, if_true, Bool.and_self, Nat.reduceLeDiff, _root_.eq_self, and_true, exists_eq']
theorem frz_acc2 {h : Heap} {sz n : Nat} {v : AV} {cells : List AV} (k : Acc h sz v cells) (hn : AV.noRefs cells = true) (hl : aLen v = some n) : ∃ f, ∀ h2, Acc h2 sz v cells → Frz h2 v (slAV f n cells) := by
  cases k with
  | nils => cases hl; exact ⟨none, fun h2 _ => (frz_noRef (v := .nils) rfl).2 rfl⟩
  | full m _ hc => cases hl; exact ⟨some true, fun h2 _ => (frz_noRef (v := .fs true n cells) hn).2 rfl⟩
  | sl id gen m _ hat hc =>
    cases hl
    refine ⟨some false, fun h2 k2 => ?_⟩
    cases k2 with
    | sl _ _ _ _ hat2 hc2 =>
      have ht : (cells.drop 0).take (n * sz) = cells := by rw [List.drop_zero]; exact List.take_of_length_le (by omega)
      refine (frz_sl hat2 (by omega) (by rw [ht]; exact hn)).2 ?_
      rw [ht]; rfl
theorem oks_erase : ∀ {l : List Tm} {i : Nat}, Oks l → Oks (l.eraseIdx i)
  | [], i, h => h
  | t :: l, 0, h => h.2
  | t :: l, i + 1, h => ⟨h.1, oks_erase h.2⟩
theorem minus_loop {m : List Tm} {mv : AV} (km : Sl mv m) (okm : Oks m) (hm : m.length ≤ 100000) {i6 lo : Nat} (hlo : i6 < lo) {Q : AExit → St → Prop} :
    ∀ (f i : Nat) (σ : Slots) (h : Heap) (v : AV) (cur : List Tm), m.length - i < f → i ≤ m.length → HeapOk h → lo ≤ h.next → h.at_ i6 0 = some zero6 → Own6 h lo v cur → Oks cur → cur.length ≤ 100000 →
    σ.get 6 = .ptr i6 0 0 → σ.get 8 = v → σ.get 43 = mv → σ.get 44 = .int .i64 m.length → σ.get 45 = .int .i64 i →
    (∀ σ' h' v', HeapOk h' → lo ≤ h'.next → h'.at_ i6 0 = some zero6 → Own6 h' lo v' (minusF cur (m.drop i)) → σ'.get 6 = .ptr i6 0 0 → σ'.get 8 = v' → Q (.exit 0) ⟨σ', h'⟩) → WPr env a65_l15 ⟨σ, h⟩ Q := by
  intro f
  induction f with
  | zero => intro i σ h v cur p1; omega
  | succ f ih =>
    intro i σ h v cur hf hi ho hln a6 k okc hcl g6 g8 g43 g44 g45 hQ
    refine wpr_round' fun b hb => ?_
    by_cases c1 : i < m.length
    · have z0 : ((i : Int) < (m.length : Int)) = True := eq_true (by omega)
      have zi : IntKind.wrap .i64 ((i : Int) + 1) = ((i + 1 : Nat) : Int) := wrap_nat (by omega) (by omega)
      obtain ⟨x, ex⟩ : ∃ x, x = m[i] := ⟨_, rfl⟩
      have okx : x.Ok := by rw [ex]; exact okm.get (List.getElem_mem c1)
      have hd : m.drop i = x :: m.drop (i + 1) := by rw [ex]; exact List.drop_eq_getElem_cons c1
      have lx := km.idx c1
      have lt : ldCells true 6 ((tcs m).drop (i * 6)) = some (.agg (tc x)) := by
        rw [tcs_drop m i c1, ← ex]; cases x; rfl
      obtain ⟨h1, st1, ho1, le1, at1⟩ := box_t ho x
      have k1 : Own6 h1 lo v cur := k.chg fun id cs _ e => le1.2 _ _ _ e
      obtain ⟨h2, ho2, le2, wi⟩ := indexF_spec okx okc hcl ho1 at1 k1
      have k2 : Own6 h2 lo v cur := k1.chg fun id cs _ e => le2.2 _ _ _ e
      have b2 := le2.2 _ _ _ (le1.2 _ _ _ a6)
      have n2 : lo ≤ h2.next := Nat.le_trans hln (Nat.le_trans le1.1 le2.1)
      rw [hd, minusF] at hQ
      cases ef : fi x cur with
      | some j =>
        rw [ef] at hQ
        have hj := fi_lt ef
        have ei : fiI x cur = (j : Int) := by rw [fiI, ef]
        have zj : ((j : Int) ≥ 0) = True := eq_true (by omega)
        have zw : IntKind.wrap .i64 ((j : Int) + 1) = ((j + 1 : Nat) : Int) := wrap_nat (by omega) (by omega)
        rw [ei] at wi
        obtain ⟨v', h3', ho3, k3, ch3, wd⟩ := delete_spec ho2 k2 hj hcl
        have b3 := ch3.2 _ _ _ (by omega) b2
        simp only [a65_l15, a65_9, a65_10, a65_11, a65_12, a65_13, a65_14, wpc_draw, s3, reduceIte, Nat.reduceEqDiff, aBin, aInt, negIf, Option.some.injEq, exists_eq_left', Option.map_some, Option.bind_some, wp1_mkFunc, op_mkFunc, g8, g43, g44, g45, z0, lx, aLoad_fp, lt, st1, wc_eq wi, zj, zw, wc_eq wd, zi]
        subst hb
        refine ih (i + 1) _ h3' v' (cur.eraseIdx j) (by omega) (by omega) ho3 (Nat.le_trans n2 ch3.1) b3 k3 (oks_erase okc) (by rw [List.length_eraseIdx]; split <;> omega) ?_ ?_ ?_ ?_ ?_ hQ
        · simp only [get_put, reduceIte, Nat.reduceEqDiff, g6]
        · simp only [get_put, reduceIte, Nat.reduceEqDiff]
        · simp only [get_put, reduceIte, Nat.reduceEqDiff, g43]
        · simp only [get_put, reduceIte, Nat.reduceEqDiff, g44]
        · simp only [get_put, reduceIte, Nat.reduceEqDiff]
      | none =>
        rw [ef] at hQ
        have ei : fiI x cur = -1 := by rw [fiI, ef]
        have zj : ((-1 : Int) ≥ 0) = False := eq_false (by decide)
        rw [ei] at wi
        simp only [a65_l15, a65_9, a65_10, a65_11, a65_12, a65_14, wpc_draw, s3, reduceIte, Nat.reduceEqDiff, aBin, aInt, negIf, Option.some.injEq, exists_eq_left', Option.map_some, Option.bind_some, wp1_mkFunc, op_mkFunc, g8, g43, g44, g45, z0, lx, aLoad_fp, lt, st1, wc_eq wi, zj, zi]
        subst hb
        refine ih (i + 1) _ h2 v cur (by omega) (by omega) ho2 n2 b2 k2 okc hcl ?_ ?_ ?_ ?_ ?_ hQ
        · simp only [get_put, reduceIte, Nat.reduceEqDiff, g6]
        · simp only [get_put, reduceIte, Nat.reduceEqDiff, g8]
        · simp only [get_put, reduceIte, Nat.reduceEqDiff, g43]
        · simp only [get_put, reduceIte, Nat.reduceEqDiff, g44]
        · simp only [get_put, reduceIte, Nat.reduceEqDiff]
    · have z0 : ((i : Int) < (m.length : Int)) = False := eq_false (by omega)
      simp only [a65_l15, a65_9, wpc_draw, s3, reduceIte, Nat.reduceEqDiff, aBin, aInt, negIf, Option.some.injEq, exists_eq_left', Option.map_some, Option.bind_some, g44, g45, z0]
      have hd : m.drop i = [] := List.drop_of_length_le (by omega)
      rw [hd, minusF] at hQ
      refine hQ _ h v ho hln a6 k ?_ ?_
      · simp only [get_put, reduceIte, Nat.reduceEqDiff, g6]
      · simp only [get_put, reduceIte, Nat.reduceEqDiff, g8]
/-- a list of what is left, wherever this lies -/
theorem list_any {h : Heap} {lo : Nat} {v : AV} {l : List Tm} (ho : HeapOk h) (k : Own6 h lo v l) (hn : l.length ≤ 50000) :
    ∃ r h' c, WC env 103 [v, .agg (tc nilT)] h (fun o => o = .ret ⟨.agg r, h', c⟩) ∧ HeapOk h' ∧ h.le h' ∧ r.length = 6 ∧ ∃ f, ∀ h'', Chg (fun j => j < h.next) h' h'' → Frz h'' (.agg r) (.agg (tc (listT l nilT f))) := by
  have frozen : Sl v l → ∃ r h' c, WC env 103 [v, .agg (tc nilT)] h (fun o => o = .ret ⟨.agg r, h', c⟩) ∧ HeapOk h' ∧ h.le h' ∧ r.length = 6 ∧ ∃ f, ∀ h'', Chg (fun j => j < h.next) h' h'' → Frz h'' (.agg r) (.agg (tc (listT l nilT f))) := by
    intro ks
    obtain ⟨f, wf⟩ := list_spec ks nilT hn (by show (0 : Nat) ≤ 50000; omega) (fun e => by cases e)
    exact ⟨_, h, .none, wf h, ho, Heap.le_refl h, tc_length _, f, fun h'' _ => (frz_noRef (v := .agg _) (noRef_tc _)).2 rfl⟩
  cases k with
  | nils => exact frozen .nil
  | full => exact frozen (.fs true [])
  | sl id cs l q1 q2 q3 q4 =>
    have ks : ∀ h', h.le h' → Src h' (.sl id 0 0 6 l.length none) l := fun h' le => (Own6.sl (lo := lo) id cs l (le.2 _ _ _ q1) q2 q3 q4).src
    have key : WC env 103 [.sl id 0 0 6 l.length none, .agg (tc nilT)] h (fun o => ∃ r h' c, o = .ret ⟨.agg r, h', c⟩ ∧ HeapOk h' ∧ h.le h' ∧ r.length = 6 ∧ ∃ f, ∀ h'', Chg (fun j => j < h.next) h' h'' → Frz h'' (.agg r) (.agg (tc (listT l nilT f)))) := by
      refine call_body rfl rfl (.inr (by simp only [AV.noRefs, AV.noRef, Bool.false_and])) (list_body ho ks (by omega) (.inr (by decide)) fun σ' h' i4 cells ho' hle hat g4 c0 c1 => ?_)
      by_cases hl : l = []
      · have ec := c0 hl
        subst ec
        refine ⟨[.agg (tc nilT)], by simp only [a103, Env.results, Option.map_some, g4, aLoad_ptr, hat, Option.bind_some, List.drop_zero, t3], tc nilT, h', .write, rfl, ho', hle, tc_length _, none, fun h'' _ => ?_⟩
        rw [listT, if_pos hl]
        exact (frz_noRef (v := .agg _) (noRef_tc _)).2 rfl
      · obtain ⟨v', rfl, ka, na, ow⟩ := c1 hl
        refine ⟨[.agg [.int .i64 7, .int .i64 0, .str [], .int .u32 0, .nils, v']], by simp only [a103, Env.results, Option.map_some, g4, aLoad_ptr, hat, Option.bind_some, List.drop_zero, ldc6], _, h', .write, rfl, ho', hle, rfl, ?_⟩
        obtain ⟨f, hf⟩ := frz_acc2 ka (noRef_tcs _) na
        have hff : ∀ h'', Chg (fun j => j < h.next) h' h'' → Frz h'' v' (slAV f (l.length + 1) (tcs (l ++ [nilT]))) := fun h'' ch => hf h'' (ka.chg ch (fun id e => by have := (ow id e).1; omega))
        refine ⟨f, fun h'' ch => ?_⟩
        rw [listT, if_neg hl]
        have e7 : ¬ nilT.kind = 7 := by decide
        rw [if_neg e7]
        refine frz_agg ⟨_, _, rfl, (frz_noRef (v := .int .i64 7) rfl).2 rfl, _, _, rfl, (frz_noRef (v := .int .i64 0) rfl).2 rfl, _, _, rfl, (frz_noRef (v := .str []) rfl).2 rfl, _, _, rfl, (frz_noRef (v := .int .u32 0) rfl).2 rfl, _, _, rfl, (frz_noRef (v := .nils) rfl).2 rfl, _, _, rfl, ?_, rfl⟩
        have := hff h'' ch
        rwa [show l.length + 1 = (l ++ [nilT]).length by simp] at this
    obtain ⟨o, hn, r, h', c, rfl, e1, e2, e3, e4⟩ := key
    exact ⟨r, h', c, ⟨_, hn, rfl⟩, e1, e2, e3, e4⟩
end Go.Bf

set_option linter.unusedVariables false
set_option linter.unusedSimpArgs false
set_option maxRecDepth 20000
namespace Go.Bf
open Go.AM
theorem joined_mm (a b : Tm) (oka : a.Ok) (okb : b.Ok) (wa : Wf a) (wb : Wf b) {l m : List Tm} (ea : elemsF a = some l) (eb : elemsF b = some m) :
    ∃ f, ∀ h, WC env 65 [.str [45, 45], .agg (tc a), .agg (tc b)] h (fun o => o = .ret ⟨.tup [.agg (tc (listT (minusF l m) nilT f)), .int .i64 0], h, .none⟩) := by
  have hr : AV.noRefs [.str [45, 45], .agg (tc a), .agg (tc b)] = true := by simp only [AV.noRefs, AV.noRef, noRef_tc, Bool.and_self]
  obtain ⟨v, kv, w1⟩ := elements_spec a wa
  obtain ⟨u, ku, w2⟩ := elements_spec b wb
  rw [ea] at w1 kv
  rw [eb] at w2 ku
  have e1 : (Option.isSome (some l : Option (List Tm))) = true := rfl
  have e2 : (Option.isSome (some m : Option (List Tm))) = true := rfl
  rw [e1] at w1
  rw [e2] at w2
  have kv : Sl v l := kv
  have ku : Sl u m := ku
  obtain ⟨hl, hsub⟩ := elems_len wa ea
  obtain ⟨hm, hsubm⟩ := elems_len wb eb
  have okl : Oks l := by
    have : ∀ (l : List Tm), (∀ x, x ∈ l → x.Ok) → Oks l := by
      intro l; induction l with
      | nil => intro _; trivial
      | cons t l ih => intro h; exact ⟨h t (by simp), ih fun x m => h x (by simp [m])⟩
    exact this l fun x hx => (ok_args oka).get (hsub x hx)
  have okm : Oks m := by
    have : ∀ (l : List Tm), (∀ x, x ∈ l → x.Ok) → Oks l := by
      intro l; induction l with
      | nil => intro _; trivial
      | cons t l ih => intro h; exact ⟨h t (by simp), ih fun x m => h x (by simp [m])⟩
    exact this m fun x hx => (ok_args okb).get (hsubm x hx)
  have minlen : ∀ (m l : List Tm), (minusF l m).length ≤ l.length := by
    intro m
    induction m with
    | nil => intro l; exact Nat.le_refl _
    | cons x m ih =>
      intro l
      rw [minusF]
      refine Nat.le_trans (ih _) ?_
      split
      · rw [List.length_eraseIdx]; split <;> omega
      · exact Nat.le_refl _
  have n0 : (([45, 45] : List UInt8) == [45, 45]) = true := by decide
  have n1 : (([45, 45] : List UInt8) == [43, 43]) = false := by decide
  have hw : WC env 65 [.str [45, 45], .agg (tc a), .agg (tc b)] .empty (fun o => ∃ f, o = .ret ⟨.tup [.agg (tc (listT (minusF l m) nilT f)), .int .i64 0], .empty, .none⟩) := by
    refine call_pure rfl rfl rfl hr ?_
    have eb' : a65.body = (.seq (.ops a65_0) (.seq (.ops a65_1) (.seq (.ops a65_2) (.seq (.seq (.ops a65_3) (.cond (.t 34) (.seq (.ops a65_4) .ret) .skip)) (.seq (.seq (.ops a65_5) (.cond (.t 37) (.seq (.ops a65_6) .ret) .skip)) (.seq (.ops a65_7) (.seq (.seq (.ops a65_8) (.block 0 (.loop a65_l15))) (.seq (.ops a65_16) .ret)))))))) := rfl
    obtain ⟨H, eH⟩ : ∃ H, H = ((Heap.empty.new (tc a)).new (tc b)).new [.int .i64 0, .int .i64 0, .str [], .int .u32 0, .nils, .nils] := ⟨_, rfl⟩
    have ho : HeapOk H := by rw [eH]; exact ((HeapOk.empty.new _).new _).new _
    have hn3 : H.next = 3 := by rw [eH]; rfl
    have a6 : H.at_ 2 0 = some zero6 := by rw [eH]; simp only [h3, List.length_cons, List.length_nil, List.drop_zero, List.drop_succ_cons, Nat.reduceAdd, Nat.le_refl, and_self, true_and, if_true, Bool.and_self, Nat.reduceLeDiff, _root_.eq_self, and_true, exists_eq', reduceIte, Nat.reduceEqDiff]; rfl
    obtain ⟨v', h4, wcl, ho4, le4, k4⟩ := clone_own (kv.src H) (by omega) ho
    rw [hn3] at k4
    have nu := ku.len
    rw [eb']
    rw [eH] at wcl
    simp only [a65_0, a65_1, a65_2, a65_3, a65_5, a65_7, a65_8, Slots.ofList, wpc_draw, s3, reduceIte, Nat.reduceEqDiff, aBin, aInt, negIf, Option.some.injEq, exists_eq_left', Option.map_some, Option.bind_some, h3, List.length_cons, List.length_nil, List.drop_zero, List.drop_succ_cons, Nat.reduceAdd, Nat.le_refl, and_self, true_and, if_true, Bool.and_self, Nat.reduceLeDiff, _root_.eq_self, and_true, exists_eq', t3, wc_eq (w1 _), wc_eq (w2 _), Bool.not_true, aStr, n0, n1, wc_eq wcl, nu, reduceIte, Nat.reduceEqDiff]
    refine minus_loop ku okm (by omega) (i6 := 2) (lo := 3) (by omega) (m.length + 1) 0 _ h4 v' l (by omega) (by omega) ho4 (by have := le4.1; omega) (le4.2 _ _ _ a6) k4 okl (by omega) ?_ ?_ ?_ ?_ ?_ fun σ' h' v5 ho' hn' b6 k5 g6 g8 => ?_
    · simp only [get_put, reduceIte, Nat.reduceEqDiff]
    · simp only [get_put, reduceIte, Nat.reduceEqDiff]
    · simp only [get_put, reduceIte, Nat.reduceEqDiff]
    · simp only [get_put, reduceIte, Nat.reduceEqDiff]
    · simp only [get_put, reduceIte, Nat.reduceEqDiff]; rfl
    rw [List.drop_zero] at k5
    obtain ⟨r, h6, c, wr, ho6, le6, rl, f, hf⟩ := list_any ho' k5 (by have := minlen m l; omega)
    have c6 := le6.2 _ _ _ b6
    have lr : ldCells true 6 r = some (.agg r) := by
      show (if 6 ≤ r.length then some (AV.agg (r.take 6)) else none) = _
      rw [if_pos (by omega), List.take_of_length_le (by omega)]
    have lt := ho'.lt b6
    simp only [a65_16, wpc_draw, s3, reduceIte, Nat.reduceEqDiff, aBin, aInt, negIf, Option.some.injEq, exists_eq_left', Option.map_some, Option.bind_some, g6, g8, wc_eq (null_spec _), wc_eq wr, isC c, aStore_w, c6, rl, len_zero6, Nat.le_refl, and_self, if_true]
    refine ⟨[.agg r, .int .i64 0], .tup [.agg (tc (listT (minusF l m) nilT f)), .int .i64 0], by simp only [a65, Env.results, Option.map_some, get_put, reduceIte, Nat.reduceEqDiff, g6, aLoad_ptr, at_upd_if, if_true, Option.bind_some, List.drop_zero, lr], ?_, f, rfl⟩
    refine frz_tup ⟨_, _, rfl, hf _ ⟨Nat.le_refl _, fun id gen cs hne e => ?_⟩, _, _, rfl, (frz_noRef (v := .int .i64 0) rfl).2 rfl, rfl⟩
    rw [at_upd_ne (fun e2 => hne (by rw [e2]; exact lt))]
    exact e
  obtain ⟨o, hn, f, e⟩ := hw
  subst e
  exact ⟨f, fun h => pure_any rfl rfl rfl hr ⟨_, hn, rfl⟩⟩
end Go.Bf

set_option linter.unusedVariables false
set_option linter.unusedSimpArgs false
set_option maxRecDepth 20000
namespace Go.Bf
open Go.AM
def intT (n : Int) : Tm := .mk 1 n [] 0 none [] none []
theorem num_spec' (x : Int) (h : Heap) : WC env 59 [.int .i64 x] h (fun o => o = .ret ⟨.agg (tc (intT x)), h, .none⟩) := num_spec x h
theorem c38_length {v : AV} {r : Tm} {cd : Int} (hv : v.noRef = true) (hr : ∀ h, WC env 68 [.str [108, 101, 110, 103, 116, 104], v] h (fun o => o = .ret ⟨.tup [.agg (tc r), .int .i64 cd], h, .none⟩)) (h : Heap) : WC env 38 [.str [108, 101, 110, 103, 116, 104], v] h (fun o => o = .ret ⟨.tup [.agg (tc r), .int .i64 cd], h, .none⟩) := by
  have n0 : (([108, 101, 110, 103, 116, 104] : List UInt8) == [43]) = false := by decide
  have n1 : (([108, 101, 110, 103, 116, 104] : List UInt8) == [45]) = false := by decide
  have n2 : (([108, 101, 110, 103, 116, 104] : List UInt8) == [42]) = false := by decide
  have n3 : (([108, 101, 110, 103, 116, 104] : List UInt8) == [100, 105, 118]) = false := by decide
  have n4 : (([108, 101, 110, 103, 116, 104] : List UInt8) == [114, 101, 109]) = false := by decide
  have n5 : (([108, 101, 110, 103, 116, 104] : List UInt8) == [97, 110, 100]) = false := by decide
  have n6 : (([108, 101, 110, 103, 116, 104] : List UInt8) == [111, 114]) = false := by decide
  have n7 : (([108, 101, 110, 103, 116, 104] : List UInt8) == [120, 111, 114]) = false := by decide
  have n8 : (([108, 101, 110, 103, 116, 104] : List UInt8) == [110, 111, 116]) = false := by decide
  have n9 : (([108, 101, 110, 103, 116, 104] : List UInt8) == [61, 61]) = false := by decide
  have n10 : (([108, 101, 110, 103, 116, 104] : List UInt8) == [47, 61]) = false := by decide
  have n11 : (([108, 101, 110, 103, 116, 104] : List UInt8) == [61, 60]) = false := by decide
  have n12 : (([108, 101, 110, 103, 116, 104] : List UInt8) == [60]) = false := by decide
  have n13 : (([108, 101, 110, 103, 116, 104] : List UInt8) == [62, 61]) = false := by decide
  have n14 : (([108, 101, 110, 103, 116, 104] : List UInt8) == [62]) = false := by decide
  have n15 : (([108, 101, 110, 103, 116, 104] : List UInt8) == [61, 58, 61]) = false := by decide
  have n16 : (([108, 101, 110, 103, 116, 104] : List UInt8) == [61, 47, 61]) = false := by decide
  have n17 : (([108, 101, 110, 103, 116, 104] : List UInt8) == [109, 97, 120]) = false := by decide
  have n18 : (([108, 101, 110, 103, 116, 104] : List UInt8) == [109, 105, 110]) = false := by decide
  have n19 : (([108, 101, 110, 103, 116, 104] : List UInt8) == [43, 43]) = false := by decide
  have n20 : (([108, 101, 110, 103, 116, 104] : List UInt8) == [45, 45]) = false := by decide
  have wp : ∀ h, WC env 66 [.str [108, 101, 110, 103, 116, 104], .str [105, 115, 95]] h (fun o => o = .ret ⟨.bool false, h, .none⟩) := fun h => wc_run (n := 30) (by kernel_rfl)
  refine call_pure rfl rfl rfl (by simp only [AV.noRefs, AV.noRef, hv, Bool.and_self]) ?_
  simp only [a38, a38_0, a38_1, a38_2, a38_3, a38_4, a38_5, a38_6, a38_10, a38_11, a38_12, a38_14, a38_16, a38_17, a38_18, a38_19, a38_20, a38_21, a38_22, a38_23, a38_25, a38_26, a38_31, a38_32, a38_34, a38_36, Slots.ofList, wpc_draw, s3, reduceIte, Nat.reduceEqDiff, aBin, aInt, negIf, Option.some.injEq, exists_eq_left', Option.map_some, Option.bind_some, aStr, n0, n1, n2, n3, n4, n5, n6, n7, n8, n9, n10, n11, n12, n13, n14, n15, n16, n17, n18, n19, n20, wc_eq (wp _), wc_eq (hr _), h3, List.length_cons, List.length_nil, List.drop_zero, List.drop_succ_cons, Nat.reduceAdd, Nat.le_refl, and_self, true_and, if_true, Bool.and_self, Nat.reduceLeDiff, _root_.eq_self, and_true, exists_eq', t3, reduceIte, Nat.reduceEqDiff]
theorem part_length {v : AV} {t : Tm} (kv : Sl v [t]) (w : Wf t) {l : List Tm} (e : elemsF t = some l) (h : Heap) : WC env 68 [.str [108, 101, 110, 103, 116, 104], v] h (fun o => o = .ret ⟨.tup [.agg (tc (intT l.length)), .int .i64 0], h, .none⟩) := by
  obtain ⟨A, x0, lA, nl⟩ := sl1 kv
  have n0 : (([108, 101, 110, 103, 116, 104] : List UInt8) == [97, 98, 115]) = false := by decide
  have n1 : (([108, 101, 110, 103, 116, 104] : List UInt8) == [101, 108, 101, 109, 101, 110, 116]) = false := by decide
  have n2 : (([108, 101, 110, 103, 116, 104] : List UInt8) == [115, 101, 116, 101, 108, 101, 109, 101, 110, 116]) = false := by decide
  have n3 : (([108, 101, 110, 103, 116, 104] : List UInt8) == [104, 100]) = false := by decide
  have n4 : (([108, 101, 110, 103, 116, 104] : List UInt8) == [116, 108]) = false := by decide
  have n5 : (([108, 101, 110, 103, 116, 104] : List UInt8) == [110, 111, 100, 101]) = false := by decide
  have n6 : (([108, 101, 110, 103, 116, 104] : List UInt8) == [116, 117, 112, 108, 101, 95, 115, 105, 122, 101]) = false := by decide
  have n7 : (([108, 101, 110, 103, 116, 104] : List UInt8) == [116, 117, 112, 108, 101, 95, 116, 111, 95, 108, 105, 115, 116]) = false := by decide
  have n8 : (([108, 101, 110, 103, 116, 104] : List UInt8) == [108, 101, 110, 103, 116, 104]) = true := by decide
  obtain ⟨u, ku, we⟩ := elements_spec t w
  rw [e] at we ku
  have e1 : (Option.isSome (some l : Option (List Tm))) = true := rfl
  rw [e1] at we
  have ku : Sl u l := ku
  have nu := ku.len
  refine call_pure rfl rfl rfl (by simp only [AV.noRefs, AV.noRef, kv.noRef, Bool.and_self]) ?_
  simp only [a68, a68_0, a68_1, a68_2, a68_3, a68_6, a68_10, a68_16, a68_17, a68_23, a68_26, a68_29, a68_32, a68_33, a68_34, a68_35, Slots.ofList, wpc_draw, s3, reduceIte, Nat.reduceEqDiff, aBin, aInt, negIf, Option.some.injEq, exists_eq_left', Option.map_some, Option.bind_some, h3, List.length_cons, List.length_nil, List.drop_zero, List.drop_succ_cons, Nat.reduceAdd, Nat.le_refl, and_self, true_and, if_true, Bool.and_self, Nat.reduceLeDiff, _root_.eq_self, and_true, exists_eq', t3, aStr, n0, n1, n2, n3, n4, n5, n6, n7, n8, x0, lA, wc_eq (we _), nu, wc_eq (num_spec' _ _), reduceIte, Nat.reduceEqDiff]
theorem Sl.row {v : AV} {l : List Tm} (k : Sl v l) : v.row = some [v] := by cases k <;> rfl
end Go.Bf

set_option linter.unusedVariables false
set_option linter.unusedSimpArgs false
namespace Go.Bf
open Go.AM
theorem walk_mono : ∀ t : Tm, ∀ deep n d deep' n' d', n ≤ 4096 → d ≤ 256 → deep' ≤ deep → n' ≤ n → (walkF t deep n d).1 = none → (walkF t deep' n' d').1 = none ∧ (walkF t deep' n' d').2.1 ≤ (walkF t deep n d).2.1 := by
  refine tm_ind fun k i s c nf ns af ar ih deep n d deep' n' d' hn hdd hd hn' h => ?_
  have go : ∀ (l : List Tm), (∀ t, t ∈ l → t ∈ ar) → ∀ deep n d deep' n' d', n ≤ 4096 → d ≤ 256 → deep' ≤ deep → n' ≤ n → (walkFs l deep n d).1 = none → (walkFs l deep' n' d').1 = none ∧ (walkFs l deep' n' d').2.1 ≤ (walkFs l deep n d).2.1 := by
    intro l
    induction l with
    | nil => intro _ _ _ _ _ _ _ _ _ _ h2 _; exact ⟨rfl, h2⟩
    | cons t l ihl =>
      intro hl deep n d deep' n' d' hn hdd hd hn' h
      rw [walkFs] at h ⊢
      have h1 := ih t (hl t (by simp)) deep n d deep' n' d' hn hdd hd hn'
      have hle := walk_le t deep n d hn hdd
      cases e : walkF t deep n d with
      | mk r nd =>
        obtain ⟨n1, d1⟩ := nd
        rw [e] at h h1 hle
        cases r with
        | some _ => cases h
        | none =>
          obtain ⟨g1, g2⟩ := h1 rfl
          cases e' : walkF t deep' n' d' with
          | mk r' nd' =>
            obtain ⟨n1', d1'⟩ := nd'
            rw [e'] at g1 g2
            have g1 : r' = none := g1
            subst g1
            have h : (walkFs l deep n1 d1).1 = none := h
            have := ihl (fun t m => hl t (by simp [m])) deep n1 d1 deep' n1' d1' hle.1 hle.2 hd g2 h
            rw [walkFs, e]
            exact this
  rw [walkF] at h ⊢
  split at h
  · cases h
  rename_i c1
  split at h
  · cases h
  rename_i c2
  rw [if_neg (by omega), if_neg (by omega)]
  cases ef : formF (.mk k i s c nf ns af ar) with
  | some x => rw [ef] at h; cases h
  | none =>
    rw [ef] at h
    have := go ar (fun _ m => m) (deep + 1) (n + 1) (max d deep) (deep' + 1) (n' + 1) (max d' deep') (by omega) (by omega) (by omega) (by omega) h
    rw [walkF, if_neg c1, if_neg c2, ef]
    exact this
theorem isT_iff (t : Tm) : isT t = true ↔ chkF t = none := by
  rw [isT]
  split
  · rename_i e; simp [e]
  · rename_i e; simp [e]
theorem isT_args {t : Tm} (h : isT t = true) : ∀ x, x ∈ t.args → isT x = true := by
  rcases t with ⟨k, i, s, c, nf, ns, af, ar⟩
  rw [isT_iff, chkF, walkF] at h
  rw [if_neg (by decide), if_neg (by decide)] at h
  cases ef : formF (.mk k i s c nf ns af ar) with
  | some x => rw [ef] at h; cases h
  | none =>
    rw [ef] at h
    have go : ∀ (l : List Tm) deep n d, n ≤ 4096 → d ≤ 256 → 1 ≤ deep → (walkFs l deep n d).1 = none → ∀ x, x ∈ l → isT x = true := by
      intro l
      induction l with
      | nil => intro _ _ _ _ _ _ _ x m; simp at m
      | cons t l ihl =>
        intro deep n d hn hd hdeep h x m
        rw [walkFs] at h
        have hle := walk_le t deep n d hn hd
        cases e : walkF t deep n d with
        | mk r nd =>
          obtain ⟨n1, d1⟩ := nd
          rw [e] at h hle
          cases r with
          | some _ => cases h
          | none =>
            have h : (walkFs l deep n1 d1).1 = none := h
            rcases List.mem_cons.1 m with rfl | m
            · rw [isT_iff, chkF]
              exact (walk_mono x deep n d 1 0 0 hn hd hdeep (Nat.zero_le _) (by rw [e])).1
            · exact ihl deep n1 d1 hle.1 hle.2 hdeep h x m
    exact go ar _ _ _ (by omega) (by omega) (by omega) h
theorem ers_map : ∀ l : List Tm, ers l = l.map er
  | [] => rfl
  | t :: l => by rw [ers, ers_map l]; rfl
theorem ers_inj {a b : Tm} {l m : List Tm} (h : ers (a :: l) = ers (b :: m)) : er a = er b ∧ ers l = ers m := by
  rw [ers_map, ers_map] at h
  have := List.cons.inj h
  rw [ers_map, ers_map]; exact this
theorem last6_er : ∀ {l m : List Tm}, ers l = ers m → last6 l = last6 m
  | [], [], _ => rfl
  | [], _ :: _, h => by cases h
  | _ :: _, [], h => by cases h
  | [a], [b], h => by rw [last6, last6, ← er_kind a, (ers_inj h).1, er_kind]
  | [a], b :: c :: m, h => by have := (ers_inj h).2; cases this
  | a :: c :: l, [b], h => by have := (ers_inj h).2; cases this
  | a :: c :: l, b :: d :: m, h => by rw [last6, last6]; exact last6_er (ers_inj h).2
theorem ers_dropLast {l m : List Tm} (h : ers l = ers m) : ers l.dropLast = ers m.dropLast := by
  have hl : l.length = m.length := by rw [← ers_length l, h, ers_length]
  rw [ers_map, ers_map] at h
  rw [ers_map, ers_map, List.dropLast_eq_take, List.dropLast_eq_take, List.map_take, List.map_take, h, hl]
theorem er_args (t : Tm) : (er t).args = ers t.args := by cases t; rfl
theorem elems_er {a b : Tm} (h : er a = er b) {l : List Tm} (e : elemsF a = some l) : ∃ m, elemsF b = some m ∧ ers l = ers m := by
  have hk : a.kind = b.kind := by rw [← er_kind a, h, er_kind]
  have ha : ers a.args = ers b.args := by rw [← er_args, h, er_args]
  rw [elemsF] at e
  rw [elemsF, ← hk]
  split at e
  · rename_i c
    cases e
    exact ⟨[], by rw [if_pos c], rfl⟩
  rename_i c
  rw [if_neg c]
  split at e
  · rename_i c2
    cases e
    exact ⟨b.args.dropLast, by rw [if_pos ⟨c2.1, by rw [← last6_er ha]; exact c2.2⟩], ers_dropLast ha⟩
  · cases e
theorem eqF_er {a b a' b' : Tm} (h : er a = er a') (h2 : er b = er b') : eqF a b = eqF a' b' := by
  rw [eqF, eqF, isT_same h, isT_same h2, ord_same h h2]
theorem fi_er {x x' : Tm} (hx : er x = er x') : ∀ {l m : List Tm}, ers l = ers m → fi x l = fi x' m
  | [], [], _ => rfl
  | [], _ :: _, h => by cases h
  | _ :: _, [], h => by cases h
  | a :: l, b :: m, h => by
    rw [ers, ers, List.cons.injEq] at h
    rw [fi, fi, eqF_er hx h.1, fi_er hx h.2]
theorem ers_erase {l m : List Tm} (h : ers l = ers m) (i : Nat) : ers (l.eraseIdx i) = ers (m.eraseIdx i) := by
  rw [ers_map, ers_map] at h
  rw [ers_map, ers_map, List.eraseIdx_eq_take_drop_succ, List.eraseIdx_eq_take_drop_succ, List.map_append, List.map_append, List.map_take, List.map_take, List.map_drop, List.map_drop, h]
theorem minus_er : ∀ {m m' l l' : List Tm}, ers l = ers l' → ers m = ers m' → ers (minusF l m) = ers (minusF l' m')
  | [], [], l, l', h, _ => h
  | [], _ :: _, _, _, _, h => by cases h
  | _ :: _, [], _, _, _, h => by cases h
  | a :: m, b :: m', l, l', h, h2 => by
    rw [ers, ers, List.cons.injEq] at h2
    rw [minusF, minusF, fi_er h2.1 h]
    cases fi b l' with
    | none => exact minus_er h h2.2
    | some i => exact minus_er (ers_erase h i) h2.2
theorem eqF_self {x : Tm} (h : isT x = true) : eqF x x = true := by rw [eqF, h, ord_self]; rfl
theorem minus_self : ∀ {l m : List Tm}, (∀ x, x ∈ l → isT x = true) → minusF (l ++ m) l = m
  | [], m, _ => rfl
  | x :: l, m, h => by
    rw [List.cons_append, minusF, fi, if_pos (eqF_self (h x (by simp)))]
    exact minus_self fun y hy => h y (by simp [hy])
theorem last6_concat : ∀ l : List Tm, last6 (l ++ [nilT]) = true
  | [] => rfl
  | [t] => rfl
  | t :: u :: l => by
    show last6 (u :: l ++ [nilT]) = true
    exact last6_concat (u :: l)
theorem elems_list (l : List Tm) (f : Option Bool) : elemsF (listT l nilT f) = some l := by
  rw [listT]
  split
  · rename_i e; subst e; rfl
  · have e7 : ¬ nilT.kind = 7 := by decide
    rw [if_neg e7, elemsF]
    have h6 : ¬ (Tm.mk 7 0 [] 0 none [] f (l ++ [nilT])).kind = 6 := by show ¬ (7 : Int) = 6; decide
    have h7 : (Tm.mk 7 0 [] 0 none [] f (l ++ [nilT])).kind = 7 ∧ last6 (Tm.mk 7 0 [] 0 none [] f (l ++ [nilT])).args = true := ⟨rfl, last6_concat l⟩
    rw [if_neg h6, if_pos h7]
    show some (l ++ [nilT]).dropLast = some l
    rw [List.dropLast_concat]
theorem elems_join (l m : List Tm) (f g : Option Bool) : elemsF (listT l (listT m nilT f) g) = some (l ++ m) := by
  by_cases hl : l = []
  · subst hl
    rw [listT, if_pos rfl, elems_list]; rfl
  · by_cases hm : m = []
    · subst hm
      have e : listT [] nilT f = nilT := rfl
      rw [e, elems_list, List.append_nil]
    · have e7 : ¬ nilT.kind = 7 := by decide
      have e : listT m nilT f = .mk 7 0 [] 0 none [] f (m ++ [nilT]) := by rw [listT, if_neg hm, if_neg e7]
      have k7 : (Tm.mk 7 0 [] 0 none [] f (m ++ [nilT])).kind = 7 := rfl
      rw [e, listT, if_neg hl, if_pos k7]
      show elemsF (.mk 7 0 [] 0 none [] g (l ++ (m ++ [nilT]))) = _
      have h6 : ¬ (Tm.mk 7 0 [] 0 none [] g (l ++ (m ++ [nilT]))).kind = 6 := by show ¬ (7 : Int) = 6; decide
      have h7 : (Tm.mk 7 0 [] 0 none [] g (l ++ (m ++ [nilT]))).kind = 7 ∧ last6 (Tm.mk 7 0 [] 0 none [] g (l ++ (m ++ [nilT]))).args = true := ⟨rfl, by show last6 (l ++ (m ++ [nilT])) = true; rw [← List.append_assoc]; exact last6_concat _⟩
      rw [elemsF, if_neg h6, if_pos h7]
      show some (l ++ (m ++ [nilT])).dropLast = _
      rw [← List.append_assoc, List.dropLast_concat]
theorem er_listT {l m : List Tm} (h : ers l = ers m) (f g : Option Bool) : er (listT l nilT f) = er (listT m nilT g) := by
  have hlen : l.length = m.length := by rw [← ers_length l, h, ers_length]
  have e7 : ¬ nilT.kind = 7 := by decide
  by_cases hl : l = []
  · subst hl
    have hm : m = [] := List.length_eq_zero_iff.1 hlen.symm
    subst hm
    rfl
  · have hm : m ≠ [] := fun e => hl (List.length_eq_zero_iff.1 (by rw [hlen, e]; rfl))
    rw [listT, listT, if_neg hl, if_neg hm, if_neg e7, er, er, ers_append, ers_append, h]
theorem isT_int {n : Int} (h : Small n) : isT (intT n) = true := by
  have hk : kindOk (intT n) = true := rfl
  have hf : formF (intT n) = none := by
    rw [intT, formF]
    have hk' : ¬ kindOk (.mk 1 n [] 0 none [] none []) = false := by rw [show kindOk (.mk 1 n [] 0 none [] none []) = true from rfl]; decide
    rw [if_neg hk', if_pos rfl, if_neg (by have := h.1; have := h.2; omega)]
  rw [isT_iff, chkF, intT, walkF, if_neg (by decide), if_neg (by decide)]
  rw [intT] at hf
  rw [hf]; rfl
theorem ok_int {n : Int} (h : Small n) : (intT n).Ok := by
  rw [intT, Tm.Ok, Oks]
  exact ⟨⟨by decide, by decide⟩, ⟨by have := h.1; omega, by have := h.2; omega⟩, ⟨by decide, by decide⟩, by simp, by decide, by decide, by decide, trivial⟩
theorem oks_of : ∀ {l : List Tm}, (∀ x, x ∈ l → x.Ok) → Oks l
  | [], _ => trivial
  | t :: l, h => ⟨h t (by simp), oks_of fun x m => h x (by simp [m])⟩
theorem ok_nilT : nilT.Ok := by
  rw [nilT, Tm.Ok, Oks]
  exact ⟨⟨by decide, by decide⟩, ⟨by decide, by decide⟩, ⟨by decide, by decide⟩, by simp, by decide, by decide, by decide, trivial⟩
theorem ok_listT {l : List Tm} {t : Tm} (h : Oks l) (ht : t.Ok) (f : Option Bool) (hn : l.length ≤ 1000000000) (hm : t.args.length ≤ 1000000000) : (listT l t f).Ok := by
  rw [listT]
  split
  · exact ht
  · split
    · rw [Tm.Ok]
      exact ⟨⟨by decide, by decide⟩, ⟨by decide, by decide⟩, ⟨by decide, by decide⟩, by simp, by decide, by decide, by rw [List.length_append]; omega, oks_append h (ok_args ht)⟩
    · rw [Tm.Ok]
      exact ⟨⟨by decide, by decide⟩, ⟨by decide, by decide⟩, ⟨by decide, by decide⟩, by simp, by decide, by decide, by rw [List.length_append]; simp; omega, oks_append h ⟨ht, trivial⟩⟩
theorem oks_minus : ∀ {m l : List Tm}, Oks l → Oks (minusF l m)
  | [], l, h => h
  | x :: m, l, h => by
    rw [minusF]
    split
    · exact oks_minus (oks_erase h)
    · exact oks_minus h
end Go.Bf

set_option linter.unusedVariables false
set_option linter.unusedSimpArgs false
set_option maxRecDepth 20000
namespace Go.Bf
open Go.AM
theorem c38_pp {v : AV} {a b r : Tm} {cd : Int} (kv : Sl v [a, b]) (hr : ∀ h, WC env 65 [.str [43, 43], .agg (tc a), .agg (tc b)] h (fun o => o = .ret ⟨.tup [.agg (tc r), .int .i64 cd], h, .none⟩)) (h : Heap) : WC env 38 [.str [43, 43], v] h (fun o => o = .ret ⟨.tup [.agg (tc r), .int .i64 cd], h, .none⟩) := by
  obtain ⟨A, B, x0, x1, lA, lB, nl⟩ := sl2 kv
  have n0 : (([43, 43] : List UInt8) == [43]) = false := by decide
  have n1 : (([43, 43] : List UInt8) == [45]) = false := by decide
  have n2 : (([43, 43] : List UInt8) == [42]) = false := by decide
  have n3 : (([43, 43] : List UInt8) == [100, 105, 118]) = false := by decide
  have n4 : (([43, 43] : List UInt8) == [114, 101, 109]) = false := by decide
  have n5 : (([43, 43] : List UInt8) == [97, 110, 100]) = false := by decide
  have n6 : (([43, 43] : List UInt8) == [111, 114]) = false := by decide
  have n7 : (([43, 43] : List UInt8) == [120, 111, 114]) = false := by decide
  have n8 : (([43, 43] : List UInt8) == [110, 111, 116]) = false := by decide
  have n9 : (([43, 43] : List UInt8) == [61, 61]) = false := by decide
  have n10 : (([43, 43] : List UInt8) == [47, 61]) = false := by decide
  have n11 : (([43, 43] : List UInt8) == [61, 60]) = false := by decide
  have n12 : (([43, 43] : List UInt8) == [60]) = false := by decide
  have n13 : (([43, 43] : List UInt8) == [62, 61]) = false := by decide
  have n14 : (([43, 43] : List UInt8) == [62]) = false := by decide
  have n15 : (([43, 43] : List UInt8) == [61, 58, 61]) = false := by decide
  have n16 : (([43, 43] : List UInt8) == [61, 47, 61]) = false := by decide
  have n17 : (([43, 43] : List UInt8) == [109, 97, 120]) = false := by decide
  have n18 : (([43, 43] : List UInt8) == [109, 105, 110]) = false := by decide
  have n19 : (([43, 43] : List UInt8) == [43, 43]) = true := by decide
  have u0 : ((2 : Int) == 1) = false := rfl
  refine call_pure rfl rfl rfl (by simp only [AV.noRefs, AV.noRef, kv.noRef, Bool.and_self]) ?_
  simp only [a38, a38_0, a38_1, a38_2, a38_3, a38_4, a38_5, a38_6, a38_10, a38_11, a38_12, a38_14, a38_16, a38_17, a38_18, a38_19, a38_20, a38_21, a38_22, a38_23, a38_25, a38_26, a38_31, Slots.ofList, s3, reduceIte, Nat.reduceEqDiff, aBin, aInt, negIf, Option.some.injEq, exists_eq_left', Option.map_some, Option.bind_some, aStr, n0, n1, n2, n3, n4, n5, n6, n7, n8, n9, n10, n11, n12, n13, n14, n15, n16, n17, n18, n19, nl, u0, h3, List.length_cons, List.length_nil, List.drop_zero, List.drop_succ_cons, Nat.reduceAdd, Nat.le_refl, and_self, true_and, if_true, Bool.and_self, Nat.reduceLeDiff, _root_.eq_self, and_true, t3]
  refine wpc_draw_k ?_
  simp only [s3, reduceIte, Nat.reduceEqDiff, aBin, aInt, negIf, Option.some.injEq, exists_eq_left', Option.map_some, Option.bind_some, k3, h3, List.length_cons, List.length_nil, List.drop_zero, List.drop_succ_cons, Nat.reduceAdd, Nat.le_refl, and_self, true_and, if_true, Bool.and_self, Nat.reduceLeDiff, _root_.eq_self, and_true, t3, a38_33, x0, x1, lA, lB, wc_eq (hr _)]
  rfl
theorem c38_mm {v : AV} {a b r : Tm} {cd : Int} (kv : Sl v [a, b]) (hr : ∀ h, WC env 65 [.str [45, 45], .agg (tc a), .agg (tc b)] h (fun o => o = .ret ⟨.tup [.agg (tc r), .int .i64 cd], h, .none⟩)) (h : Heap) : WC env 38 [.str [45, 45], v] h (fun o => o = .ret ⟨.tup [.agg (tc r), .int .i64 cd], h, .none⟩) := by
  obtain ⟨A, B, x0, x1, lA, lB, nl⟩ := sl2 kv
  have n0 : (([45, 45] : List UInt8) == [43]) = false := by decide
  have n1 : (([45, 45] : List UInt8) == [45]) = false := by decide
  have n2 : (([45, 45] : List UInt8) == [42]) = false := by decide
  have n3 : (([45, 45] : List UInt8) == [100, 105, 118]) = false := by decide
  have n4 : (([45, 45] : List UInt8) == [114, 101, 109]) = false := by decide
  have n5 : (([45, 45] : List UInt8) == [97, 110, 100]) = false := by decide
  have n6 : (([45, 45] : List UInt8) == [111, 114]) = false := by decide
  have n7 : (([45, 45] : List UInt8) == [120, 111, 114]) = false := by decide
  have n8 : (([45, 45] : List UInt8) == [110, 111, 116]) = false := by decide
  have n9 : (([45, 45] : List UInt8) == [61, 61]) = false := by decide
  have n10 : (([45, 45] : List UInt8) == [47, 61]) = false := by decide
  have n11 : (([45, 45] : List UInt8) == [61, 60]) = false := by decide
  have n12 : (([45, 45] : List UInt8) == [60]) = false := by decide
  have n13 : (([45, 45] : List UInt8) == [62, 61]) = false := by decide
  have n14 : (([45, 45] : List UInt8) == [62]) = false := by decide
  have n15 : (([45, 45] : List UInt8) == [61, 58, 61]) = false := by decide
  have n16 : (([45, 45] : List UInt8) == [61, 47, 61]) = false := by decide
  have n17 : (([45, 45] : List UInt8) == [109, 97, 120]) = false := by decide
  have n18 : (([45, 45] : List UInt8) == [109, 105, 110]) = false := by decide
  have n19 : (([45, 45] : List UInt8) == [43, 43]) = false := by decide
  have n20 : (([45, 45] : List UInt8) == [45, 45]) = true := by decide
  have u0 : ((2 : Int) == 1) = false := rfl
  refine call_pure rfl rfl rfl (by simp only [AV.noRefs, AV.noRef, kv.noRef, Bool.and_self]) ?_
  simp only [a38, a38_0, a38_1, a38_2, a38_3, a38_4, a38_5, a38_6, a38_10, a38_11, a38_12, a38_14, a38_16, a38_17, a38_18, a38_19, a38_20, a38_21, a38_22, a38_23, a38_25, a38_26, a38_31, a38_32, Slots.ofList, s3, reduceIte, Nat.reduceEqDiff, aBin, aInt, negIf, Option.some.injEq, exists_eq_left', Option.map_some, Option.bind_some, aStr, n0, n1, n2, n3, n4, n5, n6, n7, n8, n9, n10, n11, n12, n13, n14, n15, n16, n17, n18, n19, n20, nl, u0, h3, List.length_cons, List.length_nil, List.drop_zero, List.drop_succ_cons, Nat.reduceAdd, Nat.le_refl, and_self, true_and, if_true, Bool.and_self, Nat.reduceLeDiff, _root_.eq_self, and_true, t3]
  refine wpc_draw_k ?_
  simp only [s3, reduceIte, Nat.reduceEqDiff, aBin, aInt, negIf, Option.some.injEq, exists_eq_left', Option.map_some, Option.bind_some, k3, h3, List.length_cons, List.length_nil, List.drop_zero, List.drop_succ_cons, Nat.reduceAdd, Nat.le_refl, and_self, true_and, if_true, Bool.and_self, Nat.reduceLeDiff, _root_.eq_self, and_true, t3, a38_33, x0, x1, lA, lB, wc_eq (hr _)]
  rfl
end Go.Bf

set_option linter.unusedVariables false
set_option linter.unusedSimpArgs false
set_option maxRecDepth 20000
namespace Go.Bf
open Go.AM
def rlen : WFlt → Int
  | none => 0
  | some (_, _, none) => 1
  | some (_, _, some _) => 2
theorem len_rlink (x : WFlt) (h : Heap) : aLenOp false h (rlinkAV x) = some ⟨.int .i64 (rlen x), h, .none⟩ := by
  rcases x with _ | ⟨a, c, _ | ⟨p, d⟩⟩ <;> rfl
theorem rlen_ok {t : Tm} (h : isT t = true) : chkF t = none := by
  rw [isT] at h; split at h
  · assumption
  · cases h
theorem rlen_bad {t : Tm} (h : isT t = false) : rlen (chkF t) > 0 := by
  rw [isT] at h; split at h
  · cases h
  · rename_i e
    rw [e]
    rename_i x
    rcases x with ⟨a, c, _ | ⟨p, d⟩⟩ <;> simp [rlen]
section
variable {σ : Slots} {h : Heap} {a b x y : Tm} (ho : HeapOk h) (ha : h.at_ 0 0 = some (tc a)) (hb : h.at_ 1 0 = some (tc b)) (g2 : σ.get 2 = .ptr 0 0 0) (g3 : σ.get 3 = .ptr 1 0 0) (g5 : σ.get 5 = .int .i64 1)
  (oka : a.Ok) (okb : b.Ok) (okx : x.Ok) (oky : y.Ok) (tx : isT x = true) (ty : isT y = true) (hc : ordF x y ≥ 0)
  (wx : ∀ h, WC env 18 [.str [109, 97, 120], .fs true 2 (tc a ++ tc b)] h (fun o => o = .ret ⟨.tup [.agg (tc x), .nili], h, .none⟩))
  (wy : ∀ h, WC env 18 [.str [109, 105, 110], .fs true 2 (tc a ++ tc b)] h (fun o => o = .ret ⟨.tup [.agg (tc y), .nili], h, .none⟩))
include ho ha hb g2 g3 g5 oka okb okx oky tx ty hc wx wy
end
end Go.Bf

set_option linter.unusedVariables false
set_option linter.unusedSimpArgs false
set_option maxRecDepth 20000
namespace Go.Bf
open Go.AM
/-- the reference's List -/
theorem rlist_spec {v : AV} {l : List Tm} (k : Sl v l) (tail : Tm) (hn : l.length ≤ 100000000) (hm : tail.args.length ≤ 100000000) : ∃ f, ∀ h, WC env 41 [v, .agg (tc tail)] h (fun o => o = .ret ⟨.agg (tc (listT l tail f)), h, .none⟩) := by
  have hr : AV.noRefs [v, .agg (tc tail)] = true := by simp only [AV.noRefs, AV.noRef, k.noRef, noRef_tc, Bool.and_self]
  have nl := k.len
  by_cases hl : l = []
  · refine ⟨none, fun h => call_pure rfl rfl rfl hr ?_⟩
    have z0 : (((l.length : Nat) : Int) == 0) = true := by rw [hl]; rfl
    rw [listT, if_pos hl]
    simp only [a41, a41_0, a41_1, a41_2, Slots.ofList, wpc_draw, s3, reduceIte, Nat.reduceEqDiff, aBin, aInt, negIf, Option.some.injEq, exists_eq_left', Option.map_some, Option.bind_some, h3, List.length_cons, List.length_nil, List.drop_zero, List.drop_succ_cons, Nat.reduceAdd, Nat.le_refl, and_self, true_and, if_true, Bool.and_self, Nat.reduceLeDiff, _root_.eq_self, and_true, exists_eq', t3, nl, z0, reduceIte, Nat.reduceEqDiff]
  have ll : l.length ≠ 0 := fun e => hl (List.length_eq_zero_iff.1 e)
  have z0 : (((l.length : Nat) : Int) == 0) = false := by simp; omega
  have hw : WC env 41 [v, .agg (tc tail)] .empty (fun o => ∃ f, o = .ret ⟨.agg (tc (listT l tail f)), .empty, .none⟩) := by
    refine call_pure rfl rfl rfl hr ?_
    obtain ⟨H, eH⟩ : ∃ H, H = (Heap.empty.new (tc tail)).new [.int .i64 0, .int .i64 0, .str [], .int .u32 0, .nils, .nils] := ⟨_, rfl⟩
    have ho : HeapOk H := by rw [eH]; exact (HeapOk.empty.new _).new _
    have b0 : H.at_ 0 0 = some (tc tail) := by rw [eH]; simp only [h3, List.length_cons, List.length_nil, List.drop_zero, List.drop_succ_cons, Nat.reduceAdd, Nat.le_refl, and_self, true_and, if_true, Bool.and_self, Nat.reduceLeDiff, _root_.eq_self, and_true, exists_eq', reduceIte, Nat.reduceEqDiff]
    have b1 : H.at_ 1 0 = some zero6 := by rw [eH]; simp only [h3, List.length_cons, List.length_nil, List.drop_zero, List.drop_succ_cons, Nat.reduceAdd, Nat.le_refl, and_self, true_and, if_true, Bool.and_self, Nat.reduceLeDiff, _root_.eq_self, and_true, exists_eq', reduceIte, Nat.reduceEqDiff]; rfl
    have hn2 : H.next = 2 := by rw [eH]; rfl
    have y1 : aFill [] [] = some [] := rfl
    obtain ⟨c0, hc0⟩ := (k.src H).cells
    obtain ⟨v1, g1, c1, w1, k1, lb1, ho1, ow1, n1⟩ := Acc.append (bt := 88) ho (by omega : 0 < 6) (Acc.full (h := H) (sz := 6) 0 [] rfl) (m := 0) rfl (k.src H).len hc0 (tcs_length l) (by omega) (by omega)
    rw [List.nil_append] at k1
    rw [Nat.zero_add] at n1
    have fr1 : ∀ id, v1.own = some id → 2 ≤ id := fun id e => (ow1 id e).elim (fun e2 => by cases e2) (fun e2 => by omega)
    have b0' : g1.at_ 0 0 = some (tc tail) := lb1.2 _ _ _ (fun e => by cases e) b0
    have b1' : g1.at_ 1 0 = some zero6 := lb1.2 _ _ _ (fun e => by cases e) b1
    -- what is appended
    have fin : ∀ (y : AV) (more : List Tm) (c : Cls), aLen y = some more.length → sliceCells g1 6 more.length y = some (tcs more, c) → more.length ≤ 100000000 → (more = if tail.kind = 7 then tail.args else [tail]) →
        ∃ v2 g2 c2, aAppend g1 6 88 v1 y = some ⟨v2, g2, c2⟩ ∧ HeapOk g2 ∧ g2.at_ 1 0 = some zero6 ∧ v2.row = some [v2] ∧ ∃ f, Frz (g2.upd 1 0 [.int .i64 7, .int .i64 0, .str [], .int .u32 0, .nils, v2]) (.agg [.int .i64 7, .int .i64 0, .str [], .int .u32 0, .nils, v2]) (.agg (tc (listT l tail f))) := by
      intro y more c hy hc hmore hmo
      obtain ⟨v2, g2, c2, w2, k2, lb2, ho2, ow2, n2⟩ := Acc.append (bt := 88) ho1 (by omega : 0 < 6) k1 n1 hy hc (tcs_length more) (by omega) (by omega)
      have d1 : g2.at_ 1 0 = some zero6 := lb2.2 _ _ _ (fun e => by have := fr1 _ e; omega) b1'
      have fr2 : ∀ id, v2.own = some id → 2 ≤ id := fun id e => by
        rcases ow2 id e with e2 | e2
        · exact fr1 _ e2
        · have := lb1.1; omega
      have k3 : Acc (g2.upd 1 0 [.int .i64 7, .int .i64 0, .str [], .int .u32 0, .nils, v2]) 6 v2 (tcs l ++ tcs more) := k2.chg (upd_chg (S := fun j => j = 1) rfl) fun id e => by have := fr2 _ e; omega
      rw [← tcs_append] at k3
      obtain ⟨f, hf⟩ := frz_acc k3 (noRef_tcs _) n2
      refine ⟨v2, g2, c2, w2, ho2, d1, k2.row, f, ?_⟩
      rw [listT, if_neg hl, ← hmo]
      refine frz_agg ⟨_, _, rfl, (frz_noRef (v := .int .i64 7) rfl).2 rfl, _, _, rfl, (frz_noRef (v := .int .i64 0) rfl).2 rfl, _, _, rfl, (frz_noRef (v := .str []) rfl).2 rfl, _, _, rfl, (frz_noRef (v := .int .u32 0) rfl).2 rfl, _, _, rfl, (frz_noRef (v := .nils) rfl).2 rfl, _, _, rfl, ?_, rfl⟩
      rw [List.length_append]; exact hf
    by_cases e7 : tail.kind = 7
    · have z7 : (tail.kind == 7) = true := by simpa using e7
      have ka := (arAV_sl tail).src g1
      obtain ⟨c, hc⟩ := ka.cells
      obtain ⟨v2, g2, c2, w2, ho2, d1, rw2, f, hf⟩ := fin (arAV tail) tail.args c ka.len hc hm (by rw [if_pos e7])
      have fl := fillKV (v := v2) (k := 7) rw2
      simp only [a41, a41_0, a41_1, a41_3, a41_4, a41_5, Slots.ofList, wpc_draw, s3, reduceIte, Nat.reduceEqDiff, aBin, aInt, negIf, Option.some.injEq, exists_eq_left', Option.map_some, Option.bind_some, row_agg, tc_length, if_true, next_empty, next_new, Nat.zero_add, ← eH, nl, z0, y1, Nat.reduceMul, Nat.zero_mul, w1, isC c1, aFld_p, aLoad_ptr, b0', t3, List.drop_zero, z7, w2, isC c2, fl, aStore_w, d1, List.length_cons, List.length_nil, len_zero6, Nat.reduceAdd, Nat.le_refl, and_self]
      exact ⟨[.agg [.int .i64 7, .int .i64 0, .str [], .int .u32 0, .nils, v2]], _, by simp only [Env.results, Option.map_some, get_put, reduceIte, Nat.reduceEqDiff, aLoad_ptr, at_upd_if, if_true, Option.bind_some, List.drop_zero, ldc6], hf, f, rfl⟩
    · have z7 : (tail.kind == 7) = false := by simpa using e7
      have ht : tcs [tail] = tc tail := by simp [tcs]
      obtain ⟨v2, g2, c2, w2, ho2, d1, rw2, f, hf⟩ := fin (.fs true 1 (tc tail)) [tail] .none rfl (by rw [ht]; exact one_t g1 tail) (by simp) (by rw [if_neg e7])
      have fl := fillKV (v := v2) (k := 7) rw2
      simp only [a41, a41_0, a41_1, a41_3, a41_4, a41_6, Slots.ofList, wpc_draw, s3, reduceIte, Nat.reduceEqDiff, aBin, aInt, negIf, Option.some.injEq, exists_eq_left', Option.map_some, Option.bind_some, row_agg, tc_length, if_true, next_empty, next_new, Nat.zero_add, ← eH, nl, z0, y1, Nat.reduceMul, Nat.zero_mul, w1, isC c1, aFld_p, aLoad_ptr, b0', t3, List.drop_zero, z7, w2, isC c2, fl, aStore_w, d1, List.length_cons, List.length_nil, len_zero6, Nat.reduceAdd, Nat.le_refl, and_self]
      exact ⟨[.agg [.int .i64 7, .int .i64 0, .str [], .int .u32 0, .nils, v2]], _, by simp only [Env.results, Option.map_some, get_put, reduceIte, Nat.reduceEqDiff, aLoad_ptr, at_upd_if, if_true, Option.bind_some, List.drop_zero, ldc6], hf, f, rfl⟩
  obtain ⟨o, hn, f, e⟩ := hw
  subst e
  exact ⟨f, fun h => pure_any rfl rfl rfl hr ⟨_, hn, rfl⟩⟩
theorem fillK {k : Int} : aFill [.int .i64 0, .int .i64 0, .str [], .int .u32 0, .nils, .nils] [(0, 1, .int .i64 k)] = some [.int .i64 k, .int .i64 0, .str [], .int .u32 0, .nils, .nils] := rfl
theorem proper_spec {v : AV} {l : List Tm} (k : Sl v l) (okl : Oks l) (hn : l.length ≤ 100000000) : ∃ f, ∀ h, WC env 21 [v] h (fun o => o = .ret ⟨.tup [.agg (tc (listT l nilT f)), .bool (isT (listT l nilT f))], h, .none⟩) := by
  obtain ⟨f, wl⟩ := rlist_spec k nilT hn (by show (0 : Nat) ≤ _; omega)
  have wl : ∀ h, WC env 41 [v, .agg [.int .i64 6, .int .i64 0, .str [], .int .u32 0, .nils, .nils]] h (fun o => o = .ret ⟨.agg (tc (listT l nilT f)), h, .none⟩) := wl
  have okr : (listT l nilT f).Ok := ok_listT okl ok_nilT f (by omega) (by show (0 : Nat) ≤ _; omega)
  have wc := rcheck_spec _ okr
  have zz : (rlen (chkF (listT l nilT f)) == 0) = isT (listT l nilT f) := by
    cases e : isT (listT l nilT f) with
    | true => rw [rlen_ok e]; rfl
    | false => have := rlen_bad e; simp; omega
  refine ⟨f, fun h => call_pure rfl rfl rfl (by simp only [AV.noRefs, k.noRef, Bool.and_self]) ?_⟩
  simp only [a21, a21_0, a21_1, Slots.ofList, s3, reduceIte, Nat.reduceEqDiff, aBin, aInt, negIf, Option.some.injEq, exists_eq_left', Option.map_some, Option.bind_some, h3, List.length_cons, List.length_nil, List.drop_zero, List.drop_succ_cons, Nat.reduceAdd, Nat.le_refl, and_self, true_and, if_true, Bool.and_self, Nat.reduceLeDiff, _root_.eq_self, and_true, exists_eq', t3, fillK, wc_eq (wl _), reduceIte, Nat.reduceEqDiff]
  refine wpc_draw_k ?_
  simp only [s3, reduceIte, Nat.reduceEqDiff, aBin, aInt, negIf, Option.some.injEq, exists_eq_left', Option.map_some, Option.bind_some, k3, h3, List.length_cons, List.length_nil, List.drop_zero, List.drop_succ_cons, Nat.reduceAdd, Nat.le_refl, and_self, true_and, if_true, Bool.and_self, Nat.reduceLeDiff, _root_.eq_self, and_true, exists_eq', t3, a21_2, wc_eq (wc _), len_rlink, zz, reduceIte, Nat.reduceEqDiff]
  rfl
end Go.Bf

set_option linter.unusedVariables false
set_option linter.unusedSimpArgs false
set_option maxRecDepth 20000
namespace Go.Bf
open Go.AM
theorem find_pp : ∃ p q r s, findV [43, 43] 2 = .tup [.agg [p, q, r, s], .bool true] := ⟨_, _, _, _, rfl⟩
theorem find_mm : ∃ p q r s, findV [45, 45] 2 = .tup [.agg [p, q, r, s], .bool true] := ⟨_, _, _, _, rfl⟩
theorem find_len : ∃ p q r s, findV [108, 101, 110, 103, 116, 104] 1 = .tup [.agg [p, q, r, s], .bool true] := ⟨_, _, _, _, rfl⟩
theorem oks2 {a b : Tm} (oka : a.Ok) (okb : b.Ok) : Oks [a, b] := ⟨oka, okb, trivial⟩
theorem all2 {a b : Tm} (ta : isT a = true) (tb : isT b = true) : ∀ t, t ∈ [a, b] → isT t = true := by
  intro t m
  rcases List.mem_cons.1 m with rfl | m
  · exact ta
  · rcases List.mem_cons.1 m with rfl | m
    · exact tb
    · cases m
theorem all1 {a : Tm} (ta : isT a = true) : ∀ t, t ∈ [a] → isT t = true := by
  intro t m
  rcases List.mem_cons.1 m with rfl | m
  · exact ta
  · cases m
theorem int_of_er {n : Tm} {k : Int} (h : er n = er (intT k)) : n.int = k := by
  cases n with
  | mk a i s c nf ns af ar =>
    rw [er, intT, er, Tm.mk.injEq] at h
    exact h.2.1
theorem lists_row {v u : AV} {l m : List Tm} (kv : Sl v l) (ku : Sl u m) (okl : Oks l) (okm : Oks m) (hl : l.length ≤ 2000000) (hm : m.length ≤ 2000000) : WC env 5 [v, u] .empty (fun o => ∃ h', o = .ret ⟨.bool true, h', .write⟩) := by
  obtain ⟨f1, p1⟩ := proper_spec kv okl (by omega)
  obtain ⟨f2, p2⟩ := proper_spec ku okm (by omega)
  have oka : (listT l nilT f1).Ok := ok_listT okl ok_nilT f1 (by omega) (by show (0 : Nat) ≤ _; omega)
  have okb : (listT m nilT f2).Ok := ok_listT okm ok_nilT f2 (by omega) (by show (0 : Nat) ≤ _; omega)
  have ea := elems_list l f1
  have eb := elems_list m f2
  have ej := fun g => elems_join l m f2 g
  have la := er_listT (l := l) (m := l) rfl f1 f1
  have lb : ∀ (l2 : List Tm) g, ers l2 = ers m → er (listT l2 nilT g) = er (listT m nilT f2) := fun l2 g h => er_listT h g f2
  have l0 : l = [] → ∀ g, listT l (listT m nilT f2) g = listT m nilT f2 := fun e g => by rw [listT, if_pos e]
  generalize ha : listT l nilT f1 = a at *
  generalize hb : listT m nilT f2 = b at *
  have nl := kv.len
  have nm := ku.len
  have zs : IntKind.wrap .i64 ((l.length : Int) + m.length) = ((l.length + m.length : Nat) : Int) := wrap_nat (by omega) (by omega)
  refine call_body rfl rfl (.inl rfl) ?_
  cases ta : isT a with
  | false =>
    rw [ta] at p1
    cases tb : isT b with
    | false =>
      rw [tb] at p2
      simp only [a5, a5_0, a5_1, a5_2, a5_3, a5_4, Slots.ofList, wpc_draw, s3, reduceIte, Nat.reduceEqDiff, aBin, aInt, negIf, Option.some.injEq, exists_eq_left', Option.map_some, Option.bind_some, h3, List.length_cons, List.length_nil, List.drop_zero, List.drop_succ_cons, Nat.reduceAdd, Nat.le_refl, and_self, true_and, if_true, Bool.and_self, Nat.reduceLeDiff, _root_.eq_self, and_true, exists_eq', t3, wc_eq (p1 _), wc_eq (p2 _), Bool.not_false, wc_eq (alive_spec _), reduceIte, Nat.reduceEqDiff]
      exact ⟨_, rfl⟩
    | true =>
      rw [tb] at p2
      simp only [a5, a5_0, a5_1, a5_2, a5_3, a5_4, Slots.ofList, wpc_draw, s3, reduceIte, Nat.reduceEqDiff, aBin, aInt, negIf, Option.some.injEq, exists_eq_left', Option.map_some, Option.bind_some, h3, List.length_cons, List.length_nil, List.drop_zero, List.drop_succ_cons, Nat.reduceAdd, Nat.le_refl, and_self, true_and, if_true, Bool.and_self, Nat.reduceLeDiff, _root_.eq_self, and_true, exists_eq', t3, wc_eq (p1 _), wc_eq (p2 _), Bool.not_false, wc_eq (alive_spec _), reduceIte, Nat.reduceEqDiff]
      exact ⟨_, rfl⟩
  | true =>
  rw [ta] at p1
  cases tb : isT b with
  | false =>
    rw [tb] at p2
    simp only [a5, a5_0, a5_1, a5_2, a5_3, a5_4, Slots.ofList, wpc_draw, s3, reduceIte, Nat.reduceEqDiff, aBin, aInt, negIf, Option.some.injEq, exists_eq_left', Option.map_some, Option.bind_some, h3, List.length_cons, List.length_nil, List.drop_zero, List.drop_succ_cons, Nat.reduceAdd, Nat.le_refl, and_self, true_and, if_true, Bool.and_self, Nat.reduceLeDiff, _root_.eq_self, and_true, exists_eq', t3, wc_eq (p1 _), wc_eq (p2 _), Bool.not_true, Bool.not_false, wc_eq (alive_spec _), reduceIte, Nat.reduceEqDiff]
    exact ⟨_, rfl⟩
  | true =>
  rw [tb] at p2
  have wa := isT_wf ta
  have wb := isT_wf tb
  obtain ⟨hwa, _⟩ := wf_any wa
  obtain ⟨hwb, _⟩ := wf_any wb
  have hl1 := (elems_len wa ea).1
  have hm1 := (elems_len wb eb).1
  obtain ⟨f3, j1⟩ := joined_pp a b wa wb ea
  have h2 : [a, b].length < 1000000 := by simp
  obtain ⟨d1, d2, d3, d4, fp⟩ := find_pp
  have okr : (listT l b f3).Ok := ok_listT okl okb f3 (by omega) (by omega)
  have c1 := c38_pp (sl_two a b) j1
  cases tr : isT (listT l b f3) with
  | false =>
    have hne : l ≠ [] := fun e => by rw [l0 e, tb] at tr; cases tr
    have wl := call_limit (oks2 oka okb) (all2 ta tb) (sl_two a b) h2 fp okr tr c1
    have zp : (((l.length + m.length : Nat) : Int) > 0) = True := eq_true (by have : l.length ≠ 0 := fun e => hne (List.length_eq_zero_iff.1 e); omega)
    simp only [a5, a5_0, a5_1, a5_2, a5_3, a5_5, a5_6, a5_7, Slots.ofList, wpc_draw, s3, reduceIte, Nat.reduceEqDiff, aBin, aInt, negIf, Option.some.injEq, exists_eq_left', Option.map_some, Option.bind_some, h3, List.length_cons, List.length_nil, List.drop_zero, List.drop_succ_cons, Nat.reduceAdd, Nat.le_refl, and_self, true_and, if_true, Bool.and_self, Nat.reduceLeDiff, _root_.eq_self, and_true, exists_eq', t3, wc_eq (p1 _), wc_eq (p2 _), Bool.not_true, Bool.not_false, wc_eq (wl _), aEq_errB, nl, nm, zs, zp, wc_eq (alive_spec _), reduceIte, Nat.reduceEqDiff]
    exact ⟨_, rfl⟩
  | true =>
  obtain ⟨c, okc, ec, wc⟩ := call_fine (oks2 oka okb) (all2 ta tb) (sl_two a b) h2 fp okr tr c1
  have tc' : isT c = true := by rw [isT_same ec]; exact tr
  have wwc := isT_wf tc'
  obtain ⟨l', el, elm⟩ := elems_er ec.symm (ej f3)
  have hl' := (elems_len wwc el).1
  have len' : l'.length = l.length + m.length := by rw [← ers_length l', ← elm, ers_length, List.length_append]
  -- length
  have okn : Small (l'.length : Int) := ⟨by omega, by omega⟩
  obtain ⟨d5, d6, d7, d8, fl⟩ := find_len
  have c2 := c38_length (v := .fs true 1 (tc c)) (noRef_tc c) (part_length (sl_one c) wwc el)
  obtain ⟨n, oknn, en, wn⟩ := call_fine (ts := [c]) ⟨okc, trivial⟩ (all1 tc') (sl_one c) (by simp) fl (ok_int okn) (isT_int okn) c2
  have ni : n.int = ((l.length + m.length : Nat) : Int) := by rw [int_of_er en, len']
  have zn : (n.int == ((l.length + m.length : Nat) : Int)) = true := by rw [ni]; simp
  -- what is left
  obtain ⟨f4, j2⟩ := joined_mm c a okc oka wwc wa el ea
  obtain ⟨d9, d10, d11, d12, fm⟩ := find_mm
  have hmin : ers (minusF l' l) = ers m := by
    rw [minus_er elm.symm (rfl : ers l = ers l), minus_self]
    intro x hx
    exact isT_args ta x ((elems_len wa ea).2 x hx)
  have er2 := lb _ f4 hmin
  have okl' : Oks l' := oks_of fun x hx => (ok_args okc).get ((elems_len wwc el).2 x hx)
  have minlen : (minusF l' l).length = m.length := by rw [← ers_length, hmin, ers_length]
  have okr2 : (listT (minusF l' l) nilT f4).Ok := ok_listT (oks_minus okl') ok_nilT f4 (by omega) (by show (0 : Nat) ≤ _; omega)
  have tr2 : isT (listT (minusF l' l) nilT f4) = true := by rw [isT_same er2]; exact tb
  obtain ⟨d, okd, ed, wd⟩ := call_fine (oks2 okc oka) (all2 tc' ta) (sl_two c a) (by simp) fm okr2 tr2 (c38_mm (sl_two c a) j2)
  have sd : sameF d b = true := same_of (ed.trans er2)
  have ws := same_spec d okd b okb
  rw [sd] at ws
  simp only [a5, a5_0, a5_1, a5_2, a5_3, a5_5, a5_6, a5_8, a5_9, a5_10, Slots.ofList, wpc_draw, s3, reduceIte, Nat.reduceEqDiff, aBin, aInt, negIf, Option.some.injEq, exists_eq_left', Option.map_some, Option.bind_some, h3, List.length_cons, List.length_nil, List.drop_zero, List.drop_succ_cons, Nat.reduceAdd, Nat.le_refl, and_self, true_and, if_true, Bool.and_self, Nat.reduceLeDiff, _root_.eq_self, and_true, exists_eq', t3, wc_eq (p1 _), wc_eq (p2 _), Bool.not_true, Bool.not_false, wc_eq (wc _), eq_nil, wc_eq (wn _), wc_eq (wd _), nl, nm, zs, zn, wc_eq (ws _), wc_eq (alive_spec _), reduceIte, Nat.reduceEqDiff]
  exact ⟨_, rfl⟩
end Go.Bf
