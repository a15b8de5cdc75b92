/-
  THE ABSTRACT MACHINE AND THE MODEL: arithmetic, comparisons, conversions, make.
-/
import Derived.Test.YtaielgjmhbjfhaaGreatDoorAmOps2
set_option linter.unusedSimpArgs false
set_option linter.unusedVariables false
namespace Go.AM
open Go.RowKit

section
variable {B : Nat} {w0 : World} {E : Env} {X : RX} {P : Program}

/-! ### integers, strings -/
theorem aInt_run {op : BinOp} {k : IntKind} {x y : Int} {v : AV} (h : aInt op k x y = some v) (hs : op ≠ .shl ∧ op ≠ .shr) (t : TypeId) (w : World) :
    ∃ v', (binOp op t (.int k x) (.int k y)).run P w = .ok v' w ∧ VRel X v v' := by
  cases op <;> simp only [aInt, Option.some.injEq, reduceCtorEq, ne_eq, not_true_eq_false, false_and, and_false] at h hs
  case add => subst h; exact ⟨_, by simp [binOp, Op.intArith], .int _ _⟩
  case sub => subst h; exact ⟨_, by simp [binOp, Op.intArith], .int _ _⟩
  case mul => subst h; exact ⟨_, by simp [binOp, Op.intArith], .int _ _⟩
  case quo => split at h; · cases h
              · rename_i h0; cases h; exact ⟨_, by simp [binOp, Op.intDiv, h0], .int _ _⟩
  case rem => split at h; · cases h
              · rename_i h0; cases h; exact ⟨_, by simp [binOp, Op.intDiv, h0], .int _ _⟩
  case and => subst h; exact ⟨_, by simp only [binOp]; simp [Op.intBits], .int _ _⟩
  case or => subst h; exact ⟨_, by simp only [binOp]; simp [Op.intBits], .int _ _⟩
  case xor => subst h; exact ⟨_, by simp only [binOp]; simp [Op.intBits], .int _ _⟩
  case andNot => subst h; exact ⟨_, by simp only [binOp]; simp [Op.intBits], .int _ _⟩
  case eql => subst h; exact ⟨_, by simp [binOp, Op.intCmp], .bool _⟩
  case neq => subst h; exact ⟨_, by simp [binOp, Op.intCmp], .bool _⟩
  case lss => subst h; exact ⟨_, by simp [binOp, Op.intCmp], .bool _⟩
  case leq => subst h; exact ⟨_, by simp [binOp, Op.intCmp], .bool _⟩
  case gtr => subst h; exact ⟨_, by simp [binOp, Op.intCmp], .bool _⟩
  case geq => subst h; exact ⟨_, by simp [binOp, Op.intCmp], .bool _⟩

theorem aShift_run {op : BinOp} {k k' : IntKind} {x y : Int} {v : AV} (h : aShift op k x y = some v) (t : TypeId) (w : World) :
    ∃ v', (binOp op t (.int k x) (.int k' y)).run P w = .ok v' w ∧ VRel X v v' := by
  unfold aShift at h
  split at h
  · cases h
  · rename_i h0
    cases op <;> simp only [Option.some.injEq, reduceCtorEq] at h
    case shl => subst h; exact ⟨_, by simp only [binOp, Op.shift, if_neg h0]; rfl, .int _ _⟩
    case shr => subst h; exact ⟨_, by simp only [binOp, Op.shift, if_neg h0]; rfl, .int _ _⟩

theorem bytes_toList (s : List UInt8) : (⟨s.toArray⟩ : ByteArray).toList = s := by rw [ByteArray.toList_eq]

theorem aStr_run {op : BinOp} {x y : List UInt8} {v : AV} (h : aStr op x y = some v) (t : TypeId) (w : World) :
    ∃ v', (binOp op t (.string ⟨x.toArray⟩) (.string ⟨y.toArray⟩)).run P w = .ok v' w ∧ VRel X v v' := by
  have e1 : (⟨x.toArray⟩ : ByteArray).size = x.length := by simp [ByteArray.size]
  have e2 : (⟨y.toArray⟩ : ByteArray).size = y.length := by simp [ByteArray.size]
  cases op <;> simp only [aStr, Option.some.injEq, reduceCtorEq] at h
  case add =>
    split at h
    · rename_i hc
      cases h
      have happ : (⟨x.toArray⟩ : ByteArray) ++ ⟨y.toArray⟩ = ⟨(x ++ y).toArray⟩ := by apply ByteArray.ext; simp
      have hmax : IntKind.i64.max = 9223372036854775807 := by decide
      have hn : ¬ ((((⟨x.toArray⟩ : ByteArray).size + (⟨y.toArray⟩ : ByteArray).size : Nat) : Int) > IntKind.i64.max) := by rw [e1, e2, hmax]; omega
      refine ⟨_, ?_, .str (x ++ y)⟩
      simp only [binOp, Op.stringOp]
      rw [if_neg hn, happ]
      rfl
    · cases h
  case eql => subst h; exact ⟨_, by simp only [binOp, Op.stringOp, bytes_toList]; rfl, .bool _⟩
  case neq => subst h; exact ⟨_, by simp only [binOp, Op.stringOp, bytes_toList]; rfl, .bool _⟩
  case lss => subst h; exact ⟨_, by simp only [binOp, Op.stringOp, bytes_toList]; rfl, .bool _⟩
  case leq => subst h; exact ⟨_, by simp only [binOp, Op.stringOp, bytes_toList]; rfl, .bool _⟩
  case gtr => subst h; exact ⟨_, by simp only [binOp, Op.stringOp, bytes_toList]; rfl, .bool _⟩
  case geq => subst h; exact ⟨_, by simp only [binOp, Op.stringOp, bytes_toList]; rfl, .bool _⟩

theorem eqGuard_int (op : BinOp) (t : TypeId) (x y : Operand) (k k' : IntKind) (a b : Int) (w : World) : (eqGuard op t x y (.int k a) (.int k' b)).run P w = .ok () w := by
  cases op <;> simp [eqGuard]
theorem eqGuard_str (op : BinOp) (t : TypeId) (x y : Operand) (a b : ByteArray) (w : World) : (eqGuard op t x y (.string a) (.string b)).run P w = .ok () w := by
  cases op <;> simp [eqGuard]

theorem sim_bin (hR : Rel B w0 E X) {op : BinOp} {t : TypeId} {x y : AV} {c d : Value} (hx : VRel X x c) (hy : VRel X y d) {v : AV} (h : aBin op x y = some v) (ox oy : Operand) :
    Sim B w0 E X P (do eqGuard op t ox oy c d; binOp op t c d) v X.h := by
  cases hx with
  | int k a =>
    cases hy with
    | int k' b =>
      have hg := eqGuard_int (P := P) op t ox oy k k' a b X.w
      have : ∃ v', (binOp op t (.int k a) (.int k' b)).run P X.w = .ok v' X.w ∧ VRel X v v' := by
        cases op <;> simp only [aBin] at h <;> first
          | exact aShift_run h t X.w
          | (split at h
             · rename_i e
               subst e
               exact aInt_run h ⟨by simp, by simp⟩ t X.w
             · cases h)
      obtain ⟨v', hr, hv⟩ := this
      exact Sim.same hR (by simp only [Sem.run_bind, hg, Result.andThen_ok, hr]) hv
    | _ => simp [aBin] at h
  | str a =>
    cases hy with
    | str b =>
      obtain ⟨v', hr, hv⟩ := aStr_run (P := P) (X := X) h t X.w
      exact Sim.same hR (by simp only [Sem.run_bind, eqGuard_str, Result.andThen_ok, hr]) hv
    | _ => simp [aBin] at h
  | _ => simp [aBin] at h

theorem sim_un (hR : Rel B w0 E X) {op : UnOp} {x : AV} {c : Value} (hx : VRel X x c) {v : AV} (h : aUn op x = some v) : Sim B w0 E X P (Op.unary op c) v X.h := by
  cases hx with
  | int k n =>
    cases op <;> simp only [aUn, Option.some.injEq, reduceCtorEq] at h
    case neg => subst h; exact Sim.same hR (v' := .int k (k.wrap (0 - n))) (by simp [Op.unary, Op.intArith]) (.int _ _)
    case xor => subst h; exact Sim.same hR (by simp only [Op.unary, Op.intBits]; rfl) (.int _ _)
  | bool b =>
    cases op <;> simp only [aUn, Option.some.injEq, reduceCtorEq] at h
    subst h
    exact Sim.same hR (by simp only [Op.unary]; rfl) (.bool _)
  | _ => simp [aUn] at h

/-! ### equality -/
set_option maxHeartbeats 2000000 in
theorem eqScalar_run {e : EqT} {d : TypeDesc} {lit : Bool} (he : eqScalar lit d = some e) {t : TypeId} (hu : P.underlying t = some d) {x y : AV} {c c' : Value} (hx : VRel X x c) (hy : VRel X y c') {r : Bool}
    (h : aEqScalar e x y = some r) (n : Nat) (w : World) : (Op.equalIn (n + 1) t c c').run P w = .ok r w := by
  cases d <;> simp only [eqScalar, Option.some.injEq, reduceCtorEq] at he <;> subst he <;>
    cases hx <;> simp only [aEqScalar, reduceCtorEq] at h <;>
    cases hy <;> simp only [reduceCtorEq, Option.some.injEq] at h <;>
    first
    | (subst h; simp [Op.equalIn, run_underlying hu, bytes_toList, beq_toListBytes]; done)
    | (split at h
       · rename_i e1
         simp only [reduceCtorEq, Option.some.injEq] at h
         subst h
         simp_all [Op.equalIn, run_underlying hu]
       · rename_i e1
         simp only [reduceCtorEq, Option.some.injEq] at h
         subst h
         simp_all [Op.equalIn, run_underlying hu])
    | (split at h
       · rename_i e1
         simp only [reduceCtorEq, Option.some.injEq] at h
         subst h
         simp_all [Op.equalIn, run_underlying hu]
       · simp only [reduceCtorEq, Option.some.injEq] at h)
    | (split at h
       · simp only [reduceCtorEq, Option.some.injEq] at h
       · rename_i e1
         simp only [reduceCtorEq, Option.some.injEq] at h
         subst h
         simp_all [Op.equalIn, run_underlying hu])

theorem eqGuard_nil {op : BinOp} {t : TypeId} {ox oy : Operand} (h : (isLit ox || isLit oy) = true) (w : World) : (eqGuard op t ox oy .nilIface .nilIface).run P w = .ok () w := by
  cases op <;> simp [eqGuard]
  all_goals
    cases ox <;> cases oy <;> simp_all [isLit]

/-- What is held against what: the guard lets it by. -/
theorem eqGuard_run {op : BinOp} {e : EqT} {d : TypeDesc} {t : TypeId} {ox oy : Operand} (he : eqScalar (isLit ox || isLit oy) d = some e) {x y : AV} {c c' : Value} (hx : VRel X x c) (hy : VRel X y c') {r : Bool}
    (h : aEqScalar e x y = some r) (w : World) : (eqGuard op t ox oy c c').run P w = .ok () w := by
  cases hx <;> cases hy <;> (first | (cases op <;> simp [eqGuard]; done) | skip)
  case nili.nili =>
    cases d <;> simp only [eqScalar, Option.some.injEq, reduceCtorEq] at he <;> subst he <;> simp only [aEqScalar, reduceCtorEq] at h
    rename_i ms
    cases hl : (isLit ox || isLit oy) with
    | true => exact eqGuard_nil hl w
    | false => rw [hl] at h; simp [aEqScalar] at h
  case agg.agg =>
    cases d <;> simp only [eqScalar, Option.some.injEq, reduceCtorEq] at he <;> subst he <;> simp [aEqScalar] at h

theorem binOp_eq_run {op : BinOp} (ho : op = .eql ∨ op = .neq) {t : TypeId} {c c' : Value} {r : Bool} {w : World} (h : (Op.equal t c c').run P w = .ok r w)
    (hi : ∀ k a k' b, ¬ (c = .int k a ∧ c' = .int k' b)) (hs : ∀ a b, ¬ (c = .string a ∧ c' = .string b))
    (hn : c.oneCell' = true → ∀ k a, c ≠ .float k a) (hc : ∀ k a b, c ≠ .complex k a b) :
    (binOp op t c c').run P w = .ok (.bool (if op = .neq then !r else r)) w := by
  rcases ho with rfl | rfl
  all_goals
    cases c <;> cases c' <;> first
      | exact absurd ⟨rfl, rfl⟩ (hi _ _ _ _)
      | exact absurd ⟨rfl, rfl⟩ (hs _ _)
      | exact absurd rfl (hc _ _ _)
      | exact absurd rfl (hn rfl _ _)
      | simp [binOp, h]

theorem eqFields_run (hs : ∀ (n : Nat), True) : ∀ {fs : List Field} {es : List (Nat × Nat × Bool × EqT)}, eqFields P fs = some es → ∀ {xs ys : List AV} {cs ds : List Value}, VRels X xs cs → VRels X ys ds → ∀ {r : Bool},
    aEqs es xs ys = some r → ∀ (n : Nat) (w : World), (∀ f ∈ fs, ∃ d, P.underlying f.type = some d ∧ (∀ a, d ≠ .struct a) ∧ ∀ a b, d ≠ .array a b) →
    (Op.eqFields (n + 1) cs.toArray ds.toArray fs).run P w = .ok r w
  | [], es, he, xs, ys, cs, ds, hx, hy, r, h, n, w, _ => by
    simp only [eqFields, Option.some.injEq] at he; subst he
    simp only [aEqs, Option.some.injEq] at h; subst h
    simp [Op.eqFields]
  | f :: fs, es, he, xs, ys, cs, ds, hx, hy, r, h, n, w, hd => by
    simp only [eqFields] at he
    split at he
    · cases he
    rename_i hname
    simp only [Option.pure_def, Option.bind_eq_bind, Option.bind_eq_some_iff] at he
    obtain ⟨d, hu, e, hes, rest, hrest, e0⟩ := he
    cases e0
    simp only [aEqs, Option.bind_eq_some_iff] at h
    obtain ⟨a, ha, b, hb, r1, hr1, h⟩ := h
    obtain ⟨a', ha', ra⟩ := hx.get ha
    obtain ⟨b', hb', rb⟩ := hy.get hb
    have hag : tAgg P f.type = some false := by
      obtain ⟨d', hu', q1, q2⟩ := hd f (by simp)
      rw [hu] at hu'
      cases hu'
      unfold tAgg
      rw [hu]
      cases d <;> simp_all
    have p1 : (part f.type cs.toArray f.offset).run P w = .ok a' w := by simp [part, tAgg_isAgg hag, ha']
    have p2 : (part f.type ds.toArray f.offset).run P w = .ok b' w := by simp [part, tAgg_isAgg hag, hb']
    have p3 := eqScalar_run hes hu ra rb hr1 n w
    simp only [Op.eqFields, if_pos (show f.name ≠ "_" from hname), Sem.run_bind, p1, p2, p3, Result.andThen_ok]
    cases r1 with
    | false => simp only [Option.some.injEq] at h; subst h; simp
    | true =>
      simp only [Bool.not_true, Bool.false_eq_true, if_false]
      exact eqFields_run hs hrest hx hy h n w (fun g hg => hd g (by simp [hg]))

theorem eqFields_plain : ∀ {fs : List Field} {es : List (Nat × Nat × Bool × EqT)}, eqFields P fs = some es → ∀ f ∈ fs, ∃ d, P.underlying f.type = some d ∧ (∀ a, d ≠ .struct a) ∧ ∀ a b, d ≠ .array a b
  | [], _, _, _, h => by cases h
  | f :: fs, es, he, g, hg => by
    simp only [eqFields] at he
    split at he
    · cases he
    simp only [Option.pure_def, Option.bind_eq_bind, Option.bind_eq_some_iff] at he
    obtain ⟨d, hu, e, hes, rest, hrest, e0⟩ := he
    cases hg with
    | head =>
      refine ⟨d, hu, ?_, ?_⟩
      · rintro a rfl; simp [eqScalar] at hes
      · rintro a b rfl; simp [eqScalar] at hes
    | tail _ hg => exact eqFields_plain hrest g hg

theorem sim_eq (hR : Rel B w0 E X) {op : BinOp} (ho : op = .eql ∨ op = .neq) {t : TypeId} {ox oy : Operand} {e : EqT} (he : trEq P t (isLit ox || isLit oy) = some e)
    (hni : ∀ d, P.underlying t = some d → (∀ k, d ≠ .int k) ∧ d ≠ .string)
    {x y : AV} {c d : Value} (hx : VRel X x c) (hy : VRel X y d) {r : Bool} (h : aEq e x y = some r) :
    Sim B w0 E X P (do eqGuard op t ox oy c d; binOp op t c d) (.bool (if op = .neq then !r else r)) X.h := by
  simp only [trEq, Option.bind_eq_bind, Option.bind_eq_some_iff] at he
  obtain ⟨ds, hu, he⟩ := he
  obtain ⟨n1, n2⟩ := hni ds hu
  by_cases hst : ∃ fs, ds = .struct fs
  · obtain ⟨fs, rfl⟩ := hst
    simp only at he
    split at he
    · cases he
    rename_i hbad
    simp only [Bool.or_eq_true, not_or, Bool.not_eq_true] at hbad
    simp only [Option.map_eq_some_iff] at he
    obtain ⟨es, hes, rfl⟩ := he
    cases hx with
    | agg xs cs h1 hv =>
      cases hy with
      | agg ys ds' h2 hv2 =>
        simp only [aEq] at h
        have hf : P.fieldsOf t = fs := by simp [Program.fieldsOf, hu]
        have hrun := eqFields_run (P := P) (X := X) (fun _ => trivial) hes hv hv2 h 9998 X.w (eqFields_plain hes)
        have hG := run_eqGuard_agg (P := P) X.w op t ox oy cs.toArray ds'.toArray hbad.2
        have hE := run_equalIn_struct (P := P) X.w 9999 t cs.toArray ds'.toArray (by rw [hf]; exact hu) hbad.1
        rw [hf, hrun] at hE
        refine Sim.same hR ?_ (.bool _)
        simp only [Sem.run_bind, hG, Result.andThen_ok]
        rcases ho with rfl | rfl
        · rw [run_eql_struct, hE]; rfl
        · rw [run_neq_struct, hE]; rfl
      | _ => simp [aEq] at h
    | _ => simp [aEq] at h
  · have he' : eqScalar (isLit ox || isLit oy) ds = some e := by
      cases ds <;> first | exact he | (exact absurd ⟨_, rfl⟩ hst)
    have h' : aEqScalar e x y = some r := by
      cases ds <;> simp only [eqScalar, Option.some.injEq, reduceCtorEq] at he' <;> subst he' <;> exact h
    have hG := eqGuard_run (P := P) (op := op) (t := t) he' hx hy h' X.w
    have hE : (Op.equal t c d).run P X.w = .ok r X.w := eqScalar_run he' hu hx hy h' 9999 X.w
    refine Sim.same hR ?_ (.bool _)
    simp only [Sem.run_bind, hG, Result.andThen_ok]
    refine binOp_eq_run ho hE ?_ ?_ ?_ ?_
    · rintro k a k' b ⟨rfl, rfl⟩
      cases hx; cases hy
      cases ds <;> simp only [eqScalar, Option.some.injEq, reduceCtorEq] at he' <;> subst he' <;> simp_all [aEqScalar]
    · rintro a b ⟨rfl, rfl⟩
      cases hx; cases hy
      cases ds <;> simp only [eqScalar, Option.some.injEq, reduceCtorEq] at he' <;> subst he' <;> simp_all [aEqScalar]
    · intro _ k a e1; subst e1; cases hx
    · intro k a b e1; subst e1; cases hx
end
end Go.AM
/-
  THE ABSTRACT MACHINE AND THE MODEL: conversions, make, min and max, lengths.
-/
set_option linter.unusedSimpArgs false
set_option linter.unusedVariables false
namespace Go.AM
open Go.RowKit

section
variable {B : Nat} {w0 : World} {E : Env} {X : RX} {P : Program}

theorem range_mod (z : Array Value) (len : Nat) (hpos : 0 < z.size) : ((Array.range (len * z.size)).map (z[· % z.size]!)).toList = (List.replicate len z.toList).flatten := by
  apply List.ext_getElem
  · simp
  · intro j hj1 hj2
    have hj : j < len * z.size := by simpa using hj1
    simp only [Array.toList_map, Array.toList_range, List.getElem_map, List.getElem_range]
    have hmod : j % z.size < z.size := Nat.mod_lt _ hpos
    rw [getElem!_pos z _ hmod]
    have hfl : ∀ (m j : Nat), j < m * z.size → (List.replicate m z.toList).flatten[j]? = some (z[j % z.size]'(Nat.mod_lt _ hpos)) := by
      intro m
      induction m with
      | zero => intro j h; simp at h
      | succ m ih =>
        intro j h
        simp only [List.replicate_succ, List.flatten_cons, List.getElem?_append, Array.length_toList]
        split
        · rename_i hlt
          simp only [Nat.mod_eq_of_lt hlt, Array.getElem?_toList, Array.getElem?_eq_getElem hlt]
        · rename_i hge
          have hge' : z.size ≤ j := Nat.le_of_not_lt hge
          rw [ih (j - z.size) (by rw [Nat.succ_mul] at h; omega)]
          congr 2
          exact (Nat.mod_eq_sub_mod hge').symm
    have h1 := hfl len j hj
    rw [List.getElem?_eq_getElem hj2] at h1
    simpa using h1.symm

theorem sim_makeSlice (hR : Rel B w0 E X) {t e : TypeId} (hu : P.underlying t = some (.slice e)) {sz bytes : Nat} {zero : List AV} (hs : tSize P e = some sz) (hb : tBytes P e = some bytes) (hz : tZero P e = some zero)
    {x y : AV} {c d : Value} (hx : VRel X x c) (hy : VRel X y d) {r : OpRes} (h : aMakeSlice X.h sz bytes zero x y = some r) : Sim B w0 E X P (Instr.makeSlice t c d) r.v r.h := by
  cases hx with
  | int k l =>
    cases hy with
    | int k' m =>
      cases k <;> cases k' <;> simp only [aMakeSlice, reduceCtorEq] at h
      split at h
      case isFalse => cases h
      rename_i hc
      obtain ⟨c1, c2, c3, c4, c5⟩ := hc
      cases h
      obtain ⟨i, zv, hi, hiz, hm⟩ := tZero_info hz
      obtain ⟨i1, hi1, hs1⟩ := tSize_info hs
      obtain ⟨i2, hi2, hb2⟩ := tBytes_info hb
      rw [hi] at hi1 hi2
      cases hi1; cases hi2
      obtain ⟨h1, h2⟩ := mapM_cellAV (X := X) hm
      have hzs : zv.cells.size = sz := by have := h1.length; simp at this; omega
      have w1 : IntKind.i64.wrap l = l := IntWalk.i64_in l (by omega)
      have w2 : IntKind.i64.wrap m = m := IntWalk.i64_in m (by omega)
      have hmn : m.toNat = m.toNat := rfl
      have hbm : ¬ (↑i.bytes * m > (2 ^ 48 : Int)) := by rw [hb2]; omega
      have hcond : (decide (m < 0) || decide (↑i.bytes * m > (2 ^ 48 : Int)) || decide (l < 0) || decide (l > m)) = false := by simp; omega
      -- the cells
      have hcells : ∃ arr : Array Value, VRels X (List.replicate m.toNat zero).flatten arr.toList ∧ arr.size = m.toNat * sz ∧
          (Instr.makeSlice t (.int .i64 l) (.int .i64 m)).run P X.w = .ok (.slice (some ⟨X.w.heap.size, 0, none⟩) l.toNat m.toNat) (X.w.alloc (.cells arr e)) := by
        have g1 : ¬ (m < 0) := by omega
        have g2 : ¬ (281474976710656 < (i.bytes : Int) * m) := by rw [hb2]; omega
        have g3 : ¬ (l < 0) := by omega
        have g4 : ¬ (m < l) := by omega
        by_cases h0 : m.toNat * i.size = 0
        · refine ⟨#[], ?_, by rw [← hs1]; simpa using h0.symm, ?_⟩
          · have : (List.replicate m.toNat zero).flatten = [] := by
              apply List.eq_nil_of_length_eq_zero
              simp only [List.length_flatten, List.map_replicate, List.sum_replicate_nat]
              rw [c5, ← hs1]; exact h0
            rw [this]; exact .nil
          · have hr0 : (Array.map (fun _ => (default : Value)) (Array.range 0)) = #[] := by simp
            simp [Instr.makeSlice, run_underlying hu, asInt, asIntOf, typeInfo, hi, w1, w2, g1, g2, g3, g4, sizeOf, h0, newRow]
            rw [hr0]
        · have hpos : 0 < zv.cells.size := by
            rw [hzs, ← hs1]
            exact Nat.pos_of_ne_zero fun e => h0 (by rw [e]; simp)
          refine ⟨(Array.range (m.toNat * i.size)).map (zv.cells[· % zv.cells.size]!), ?_, by simp [hs1], ?_⟩
          · rw [hs1, ← hzs, range_mod _ _ hpos]
            exact VRels.flatten_replicate h1 _
          · simp [Instr.makeSlice, run_underlying hu, asInt, asIntOf, typeInfo, zeroValue, hi, hiz, w1, w2, g1, g2, g3, g4, sizeOf, h0, newRow]
      obtain ⟨arr, q1, q2, q3⟩ := hcells
      have hlen := q1.length
      have hone : allOne (List.replicate m.toNat zero).flatten := by
        intro v hv
        simp only [List.mem_flatten, List.mem_replicate] at hv
        obtain ⟨l', ⟨_, rfl⟩, hv⟩ := hv
        exact h2 v hv
      refine Sim.new_ hR (below_alloc' X.w _) (Nat.le_refl _) hone (heap_new X.w _) (.inl rfl) (by simpa using Nat.le_of_eq hlen) (by rw [hlen, List.take_length]; exact q1) q3
        (VRel.newSl _ _ _ _ _ _ _ _ (by omega) (fun k hk => by cases hk; rfl) (by rw [q2]; exact Nat.le_refl _) (fun e => by cases e))
    | _ => simp [aMakeSlice] at h
  | _ => simp [aMakeSlice] at h

theorem sim_max (hR : Rel B w0 E X) {tys : Array TypeId} {ty : TypeId} {x y : AV} {c d : Value} (hx : VRel X x c) (hy : VRel X y d) {v : AV} (h : aMinMax true x y = some v) :
    Sim B w0 E X P (Builtin.max_ tys ty #[c, d]) v X.h := by
  cases hx with
  | int k a =>
    cases hy with
    | int k' b =>
      by_cases e : k = k'
      · subst e
        simp only [aMinMax, if_true, Option.some.injEq] at h
        subst h
        exact Sim.same hR (v' := .int k (if b > a then b else a)) (by simp [Builtin.max_, Builtin.max2]) (.int _ _)
      · simp [aMinMax, e] at h
    | _ => simp [aMinMax] at h
  | _ => simp [aMinMax] at h

theorem sim_min (hR : Rel B w0 E X) {tys : Array TypeId} {ty : TypeId} {x y : AV} {c d : Value} (hx : VRel X x c) (hy : VRel X y d) {v : AV} (h : aMinMax false x y = some v) :
    Sim B w0 E X P (Builtin.min_ tys ty #[c, d]) v X.h := by
  cases hx with
  | int k a =>
    cases hy with
    | int k' b =>
      by_cases e : k = k'
      · subst e
        simp only [aMinMax, if_true, Option.some.injEq] at h
        subst h
        exact Sim.same hR (v' := .int k (if b < a then b else a)) (by simp [Builtin.min_, Builtin.min2]) (.int _ _)
      · simp [aMinMax, e] at h
    | _ => simp [aMinMax] at h
  | _ => simp [aMinMax] at h

/-! ### conversions -/
theorem toByte_cells : ∀ {cs : List AV} {vs : List Value} {bs : List UInt8}, VRels X cs vs → cs.mapM toByte = some bs → ∃ ns : List Int, vs = ns.map (Value.int .u8) ∧ bs = ns.map fun n => UInt8.ofNat n.toNat
  | _, _, bs, .nil, h => by simp at h; subst h; exact ⟨[], rfl, rfl⟩
  | _, _, bs, .cons v v' cs vs hv hvs, h => by
    simp only [List.mapM_cons, Option.pure_def, Option.bind_eq_bind, Option.bind_eq_some_iff] at h
    obtain ⟨b, hb, r, hr, e⟩ := h
    cases e
    obtain ⟨ns, rfl, rfl⟩ := toByte_cells hvs hr
    cases hv with
    | int k n =>
      cases k <;> simp only [toByte, Option.some.injEq, reduceCtorEq] at hb
      subst hb
      exact ⟨n :: ns, rfl, rfl⟩
    | _ => simp [toByte] at hb

theorem foldl_push : ∀ (ns : List Int) (s : List UInt8), ns.foldl (fun (r : ByteArray) n => r.push (UInt8.ofNat n.toNat)) ⟨s.toArray⟩ = ⟨(s ++ ns.map fun n => UInt8.ofNat n.toNat).toArray⟩
  | [], s => by simp
  | n :: ns, s => by
    simp only [List.foldl_cons]
    have : (⟨s.toArray⟩ : ByteArray).push (UInt8.ofNat n.toNat) = ⟨(s ++ [UInt8.ofNat n.toNat]).toArray⟩ := by
      apply ByteArray.ext
      simp
    rw [this, foldl_push ns]
    simp

theorem sim_b2s (hR : Rel B w0 E X) {s d e : TypeId} (hs : P.underlying s = some (.slice e)) (he : P.underlying e = some (.int .u8)) (hd : P.underlying d = some .string) {x : AV} {c : Value}
    (hx : VRel X x c) {r : OpRes} (h : aConv X.h .b2s x = some r) : Sim B w0 E X P (convert s d c) r.v r.h := by
  have hns : ∀ s, x ≠ .str s := by rintro s rfl; simp [aConv] at h
  have h : (aLen x).bind (fun n => (sliceCells X.h 1 n x).bind fun q => (q.1.mapM toByte).map fun bs => (⟨.str bs, X.h, q.2⟩ : OpRes)) = some r := by
    cases x <;> first | exact h | exact absurd rfl (hns _)
  simp only [Option.bind_eq_some_iff, Option.map_eq_some_iff] at h
  obtain ⟨n, hn, ⟨cs, k⟩, hcs, bs, hbs, rfl⟩ := h
  obtain ⟨news, rn, on, ln, hf⟩ := firstCells_run (P := P) hR hx hcs
  obtain ⟨ns, rfl, rfl⟩ := toByte_cells rn hbs
  have hf := hf X.w rfl
  have hfin := foldl_push ns []
  simp only [List.nil_append] at hfin
  cases hx with
  | nils =>
    simp only [aLen, Option.some.injEq] at hn
    subst hn
    have hl := rn.length
    have : ns = [] := by
      apply List.eq_nil_of_length_eq_zero
      have := rn.length
      simp at this hl
      omega
    subst this
    refine Sim.same hR (v' := .string ⟨#[]⟩) ?_ (.str [])
    rw [run_convert_bytes_string _ _ _ e _ _ _ hs he hd]
    simp [Conv.bytesToString]
    rfl
  | fs full len cells a m vs hlen hfull hat h1 hvs =>
    simp only [aLen, Option.some.injEq] at hn
    subst hn
    refine Sim.same hR (v' := .string ⟨(ns.map fun n => UInt8.ofNat n.toNat).toArray⟩) ?_ (.str _)
    rw [run_convert_bytes_string _ _ _ e _ _ _ hs he hd, run_bytesToString X.w a len m ns (by simpa [Builtin.firstCells] using hf), ← hfin]
    rfl
  | sl id gen off sz' len cap a m hid hlen hcap hlive =>
    simp only [aLen, Option.some.injEq] at hn
    subst hn
    refine Sim.same hR (v' := .string ⟨(ns.map fun n => UInt8.ofNat n.toNat).toArray⟩) ?_ (.str _)
    rw [run_convert_bytes_string _ _ _ e _ _ _ hs he hd, run_bytesToString X.w a len m ns (by simpa [Builtin.firstCells] using hf), ← hfin]
    rfl
  | str s => exact absurd rfl (hns s)
  | _ => simp [aLen] at hn

theorem freeze_block (w : World) (b n : Nat) (arr : Array Value) (T : TypeId) (fz : Nat × Nat) (h : w.heap[b]? = some (.cells arr T fz)) :
    (w.freeze ⟨b, n, none⟩ 1).heap[b]? = some (.cells arr T (if fz.1 == fz.2 then (n, n + 1) else (min fz.1 n, max fz.2 (n + 1)))) := by
  simp only [World.freeze, Nat.one_ne_zero, if_false, Array.getElem?_modify, if_true, h, Option.map_some]

theorem freeze_only (w : World) (b n : Nat) : Only b w (w.freeze ⟨b, n, none⟩ 1) :=
  ⟨rfl, rfl, rfl, by simp [World.freeze], fun k _ hne => by simp only [World.freeze, Nat.one_ne_zero, if_false, Array.getElem?_modify, if_neg (Ne.symm hne)]⟩

theorem bare_freeze {n : Nat} {fz : Nat × Nat} (h : Bare n fz) : Bare n (if fz.1 == fz.2 then (n, n + 1) else (min fz.1 n, max fz.2 (n + 1))) := by
  right
  split
  · exact Nat.le_refl _
  · rename_i hne
    rcases h with e | e
    · subst e; simp at hne
    · simp only [Nat.min_def]; split <;> omega

theorem run_markStringish (w : World) (b o : Nat) (arr : Array Value) (T : TypeId) (fz : Nat × Nat) (h : w.heap[b]? = some (.cells arr T fz)) :
    (markStringish ⟨b, o, none⟩).run P w = .ok () (w.freeze ⟨b, arr.size, none⟩ 1) := by
  simp [markStringish, World.shape?, h]

theorem sim_s2b (hR : Rel B w0 E X) {s d e : TypeId} (hs : P.underlying s = some .string) (hd : P.underlying d = some (.slice e)) (he : P.underlying e = some (.int .u8)) {x : AV} {c : Value}
    (hx : VRel X x c) {r : OpRes} (h : aConv X.h .s2b x = some r) : Sim B w0 E X P (convert s d c) r.v r.h := by
  cases hx with
  | str l =>
    simp only [aConv, Option.some.injEq] at h
    subst h
    obtain ⟨h1, h2⟩ := bytes_rel (X := X) l
    have hsz : (⟨l.toArray⟩ : ByteArray).size = l.length := by simp [ByteArray.size]
    have hge := grownCap_ge X.w l.length 0 e
    have hq : (Question.appendCap l.length 0 e).forced = false := rfl
    have hrow := heap_new X.w.drew (.cells ((l.toArray.map fun b : UInt8 => Value.int .u8 b.toNat) ++ Array.replicate (grownCap X.w l.length 0 e - l.length) (Value.int .u8 0)) e)
    have hasz : ((l.toArray.map fun b : UInt8 => Value.int .u8 b.toNat) ++ Array.replicate (grownCap X.w l.length 0 e - l.length) (Value.int .u8 0)).size = grownCap X.w l.length 0 e := by
      simp; omega
    have hfr := freeze_block _ X.w.drew.heap.size ((l.toArray.map fun b : UInt8 => Value.int .u8 b.toNat) ++ Array.replicate (grownCap X.w l.length 0 e - l.length) (Value.int .u8 0)).size _ _ _ hrow
    have hmk := run_markStringish (P := P) _ X.w.drew.heap.size 0 _ _ _ hrow
    have hO := freeze_only (X.w.drew.alloc (.cells ((l.toArray.map fun b : UInt8 => Value.int .u8 b.toNat) ++ Array.replicate (grownCap X.w l.length 0 e - l.length) (Value.int .u8 0)) e)) X.w.drew.heap.size
      ((l.toArray.map fun b : UInt8 => Value.int .u8 b.toNat) ++ Array.replicate (grownCap X.w l.length 0 e - l.length) (Value.int .u8 0)).size
    have hA := below_drew_alloc X.w (.cells ((l.toArray.map fun b : UInt8 => Value.int .u8 b.toNat) ++ Array.replicate (grownCap X.w l.length 0 e - l.length) (Value.int .u8 0)) e)
    refine Sim.new_ hR (w' := World.freeze _ _ 1) (b := X.w.drew.heap.size) ⟨hO.os.trans hA.os, hO.tape.trans hA.tape, hO.output.trans hA.output, Nat.le_trans hA.size hO.size, fun k hk => ?_⟩ (Nat.le_refl _) h2 hfr
      (bare_freeze (.inl rfl)) (by rw [hasz]; simpa using hge) ?_ (v' := .slice (some ⟨X.w.drew.heap.size, 0, none⟩) l.length (grownCap X.w l.length 0 e)) ?_
      (VRel.newSl _ _ _ _ _ _ _ _ hge (fun _ h => by cases h) (by rw [hasz]; omega) (fun _ => by rw [hasz]; omega))
    · rw [hO.block k (by simp; omega) (by simp; omega)]
      exact hA.block k hk
    · have : List.take (List.map byteAV l).length ((l.toArray.map fun b : UInt8 => Value.int .u8 b.toNat) ++ Array.replicate (grownCap X.w l.length 0 e - l.length) (Value.int .u8 0)).toList = l.map fun b => Value.int .u8 b.toNat := by
        simp
      rw [this]
      exact h1
    · have hc : (convert s d (.string ⟨l.toArray⟩)).run P X.w = (Conv.stringToBytes e ⟨l.toArray⟩).run P X.w := by
        simp [convert, run_underlying hs, run_underlying hd, run_underlying he]
      rw [hc]
      simp only [Conv.stringToBytes, Sem.run_bind, run_choose, hsz, hq, Bool.false_eq_true, if_false, Result.andThen_ok, newRow, run_newObj, Sem.run_pure, World.drew_eq]
      have hge' : (Question.appendCap l.length 0 e).cut (X.w.tape X.w.drawn (Question.appendCap l.length 0 e)) = grownCap X.w l.length 0 e := rfl
      rw [hge']
      have hmk' : (markStringish ⟨X.w.drew.heap.size, 0, none⟩).run P { X.w.drew with heap := X.w.drew.heap.push (.cells ((l.toArray.map fun b : UInt8 => Value.int .u8 b.toNat) ++ Array.replicate (grownCap X.w l.length 0 e - l.length) (Value.int .u8 0)) e) } = _ := hmk
      simp only [hmk', Result.andThen_ok]
  | _ => simp [aConv] at h

theorem sim_b2b (hR : Rel B w0 E X) {s e : TypeId} (hs : P.underlying s = some (.slice e)) (he : P.underlying e = some (.int .u8)) {x : AV} {c : Value}
    (hx : VRel X x c) {r : OpRes} (h : aConv X.h .b2b x = some r) : Sim B w0 E X P (convert s s c) r.v r.h := by
  cases hx with
  | sl id gen off sz len cap a m hid hlen hcap hlive =>
    cases cap with
    | none => simp [aConv] at h
    | some c0 =>
      have hm := hcap c0 rfl
      subst hm
      simp only [aConv] at h
      split at h
      case isFalse => cases h
      rename_i hlc
      obtain ⟨hlc, h0⟩ := hlc
      simp only [Option.bind_eq_some_iff] at h
      obtain ⟨cs, hcs, h⟩ := h
      split at h
      case isFalse => cases h
      rename_i hc
      obtain ⟨rfl, hc2⟩ := hc
      cases h
      have hl := Heap.at_some hcs
      obtain ⟨⟨arr, T, fz, ha, hb, hc, hd, hv⟩, hone⟩ := hR.obj id _ hl
      have hav := ((hlive _ hl).2 rfl).1 h0
      subst hav
      have hfr := freeze_block X.w (X.ρ id).b arr.size arr T fz ha
      have hO := freeze_only X.w (X.ρ id).b arr.size
      have hU := Rel.upd hR hl hO (gen := gen) (cs := cs) (p := X.ρ id) (Nat.le_refl _) (fun _ => rfl) (.inl rfl) hone hfr hb (by rw [← hb]; exact bare_freeze (by rw [hb]; exact hd)) hc hv
      have hE := Ext.upd hR hl hO (gen := gen) (cs := cs) (p := X.ρ id) (Nat.le_refl _) (fun _ => rfl) (.inl rfl)
      refine ⟨_, .slice (some ⟨(X.ρ id).b, (X.ρ id).o + 0, none⟩) len m, ?_, rfl, hU, hE, (VRel.sl id gen 0 sz len (some m) _ m hid hlen hcap hlive).ext hE⟩
      simp only [convert, Sem.run_bind, run_underlying hs, Result.andThen_ok, beq_self_eq_true, run_underlying he]
      have hmk := run_markStringish (P := P) X.w (X.ρ id).b ((X.ρ id).o + 0) arr T fz ha
      simp only [hmk, Result.andThen_ok, Sem.run_pure]
      rfl
  | _ => simp [aConv] at h
end
end Go.AM
