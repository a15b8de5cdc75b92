/-
  THE ABSTRACT MACHINE AND THE MODEL: arithmetic, comparisons, conversions, make.
-/
import Derived.Test.YtaielgjmhbjfhaaGreatDoorAmOps4
set_option linter.unusedSimpArgs false
set_option linter.unusedVariables false
namespace Go.AM
open Go.RowKit

section
variable {B : Nat} {w0 : World} {E : Env} {X : RX} {P : Program}

/-! ### integers, strings -/
theorem aInt_run {op : BinOp} {k : IntKind} {x y : Int} {v : AV} (h : aInt op k x y = some v) (hs : op ≠ .shl ∧ op ≠ .shr) (t : TypeId) (w : World) :
    ∃ v', (binOp op t (.int k x) (.int k y)).run P w = .ok v' w ∧ VRel X v v' := by
  cases op <;> simp only [aInt, Option.some.injEq, reduceCtorEq, ne_eq, not_true_eq_false, false_and, and_false] at h hs
  case add => subst h; exact ⟨_, by simp [binOp, Op.intArith], .int _ _⟩
  case sub => subst h; exact ⟨_, by simp [binOp, Op.intArith], .int _ _⟩
  case mul => subst h; exact ⟨_, by simp [binOp, Op.intArith], .int _ _⟩
  case quo => split at h; · cases h
              · rename_i h0; cases h; exact ⟨_, by simp [binOp, Op.intDiv, h0], .int _ _⟩
  case rem => split at h; · cases h
              · rename_i h0; cases h; exact ⟨_, by simp [binOp, Op.intDiv, h0], .int _ _⟩
  case and => subst h; exact ⟨_, by simp only [binOp]; simp [Op.intBits], .int _ _⟩
  case or => subst h; exact ⟨_, by simp only [binOp]; simp [Op.intBits], .int _ _⟩
  case xor => subst h; exact ⟨_, by simp only [binOp]; simp [Op.intBits], .int _ _⟩
  case andNot => subst h; exact ⟨_, by simp only [binOp]; simp [Op.intBits], .int _ _⟩
  case eql => subst h; exact ⟨_, by simp [binOp, Op.intCmp], .bool _⟩
  case neq => subst h; exact ⟨_, by simp [binOp, Op.intCmp], .bool _⟩
  case lss => subst h; exact ⟨_, by simp [binOp, Op.intCmp], .bool _⟩
  case leq => subst h; exact ⟨_, by simp [binOp, Op.intCmp], .bool _⟩
  case gtr => subst h; exact ⟨_, by simp [binOp, Op.intCmp], .bool _⟩
  case geq => subst h; exact ⟨_, by simp [binOp, Op.intCmp], .bool _⟩

theorem aShift_run {op : BinOp} {k k' : IntKind} {x y : Int} {v : AV} (h : aShift op k x y = some v) (t : TypeId) (w : World) :
    ∃ v', (binOp op t (.int k x) (.int k' y)).run P w = .ok v' w ∧ VRel X v v' := by
  unfold aShift at h
  split at h
  · cases h
  · rename_i h0
    cases op <;> simp only [Option.some.injEq, reduceCtorEq] at h
    case shl => subst h; exact ⟨_, by simp only [binOp, Op.shift, if_neg h0]; rfl, .int _ _⟩
    case shr => subst h; exact ⟨_, by simp only [binOp, Op.shift, if_neg h0]; rfl, .int _ _⟩

theorem bytes_toList (s : List UInt8) : (⟨s.toArray⟩ : ByteArray).toList = s := by rw [ByteArray.toList_eq]

theorem aStr_run {op : BinOp} {x y : List UInt8} {v : AV} (h : aStr op x y = some v) (t : TypeId) (w : World) :
    ∃ v', (binOp op t (.string ⟨x.toArray⟩) (.string ⟨y.toArray⟩)).run P w = .ok v' w ∧ VRel X v v' := by
  have e1 : (⟨x.toArray⟩ : ByteArray).size = x.length := by simp [ByteArray.size]
  have e2 : (⟨y.toArray⟩ : ByteArray).size = y.length := by simp [ByteArray.size]
  cases op <;> simp only [aStr, Option.some.injEq, reduceCtorEq] at h
  case add =>
    split at h
    · rename_i hc
      cases h
      have happ : (⟨x.toArray⟩ : ByteArray) ++ ⟨y.toArray⟩ = ⟨(x ++ y).toArray⟩ := by apply ByteArray.ext; simp
      have hmax : IntKind.i64.max = 9223372036854775807 := by decide
      have hn : ¬ ((((⟨x.toArray⟩ : ByteArray).size + (⟨y.toArray⟩ : ByteArray).size : Nat) : Int) > IntKind.i64.max) := by rw [e1, e2, hmax]; omega
      refine ⟨_, ?_, .str (x ++ y)⟩
      simp only [binOp, Op.stringOp]
      rw [if_neg hn, happ]
      rfl
    · cases h
  case eql => subst h; exact ⟨_, by simp only [binOp, Op.stringOp, bytes_toList]; rfl, .bool _⟩
  case neq => subst h; exact ⟨_, by simp only [binOp, Op.stringOp, bytes_toList]; rfl, .bool _⟩
  case lss => subst h; exact ⟨_, by simp only [binOp, Op.stringOp, bytes_toList]; rfl, .bool _⟩
  case leq => subst h; exact ⟨_, by simp only [binOp, Op.stringOp, bytes_toList]; rfl, .bool _⟩
  case gtr => subst h; exact ⟨_, by simp only [binOp, Op.stringOp, bytes_toList]; rfl, .bool _⟩
  case geq => subst h; exact ⟨_, by simp only [binOp, Op.stringOp, bytes_toList]; rfl, .bool _⟩

theorem eqGuard_int (op : BinOp) (t : TypeId) (x y : Operand) (k k' : IntKind) (a b : Int) (w : World) : (eqGuard op t x y (.int k a) (.int k' b)).run P w = .ok () w := by
  cases op <;> simp [eqGuard]
theorem eqGuard_str (op : BinOp) (t : TypeId) (x y : Operand) (a b : ByteArray) (w : World) : (eqGuard op t x y (.string a) (.string b)).run P w = .ok () w := by
  cases op <;> simp [eqGuard]

theorem sim_bin (hR : Rel B w0 E X) {op : BinOp} {t : TypeId} {x y : AV} {c d : Value} (hx : VRel X x c) (hy : VRel X y d) {v : AV} (h : aBin op x y = some v) (ox oy : Operand) :
    Sim B w0 E X P (do eqGuard op t ox oy c d; binOp op t c d) v X.h := by
  cases hx with
  | int k a =>
    cases hy with
    | int k' b =>
      have hg := eqGuard_int (P := P) op t ox oy k k' a b X.w
      have : ∃ v', (binOp op t (.int k a) (.int k' b)).run P X.w = .ok v' X.w ∧ VRel X v v' := by
        cases op <;> simp only [aBin] at h <;> first
          | exact aShift_run h t X.w
          | (split at h
             · rename_i e
               subst e
               exact aInt_run h ⟨by simp, by simp⟩ t X.w
             · cases h)
      obtain ⟨v', hr, hv⟩ := this
      exact Sim.same hR (by simp only [Sem.run_bind, hg, Result.andThen_ok, hr]) hv
    | _ => simp [aBin] at h
  | str a =>
    cases hy with
    | str b =>
      obtain ⟨v', hr, hv⟩ := aStr_run (P := P) (X := X) h t X.w
      exact Sim.same hR (by simp only [Sem.run_bind, eqGuard_str, Result.andThen_ok, hr]) hv
    | _ => simp [aBin] at h
  | _ => simp [aBin] at h

theorem sim_un (hR : Rel B w0 E X) {op : UnOp} {x : AV} {c : Value} (hx : VRel X x c) {v : AV} (h : aUn op x = some v) : Sim B w0 E X P (Op.unary op c) v X.h := by
  cases hx with
  | int k n =>
    cases op <;> simp only [aUn, Option.some.injEq, reduceCtorEq] at h
    case neg => subst h; exact Sim.same hR (v' := .int k (k.wrap (0 - n))) (by simp [Op.unary, Op.intArith]) (.int _ _)
    case xor => subst h; exact Sim.same hR (by simp only [Op.unary, Op.intBits]; rfl) (.int _ _)
  | bool b =>
    cases op <;> simp only [aUn, Option.some.injEq, reduceCtorEq] at h
    subst h
    exact Sim.same hR (by simp only [Op.unary]; rfl) (.bool _)
  | _ => simp [aUn] at h

/-! ### equality -/
set_option maxHeartbeats 2000000 in
theorem eqScalar_run {e : EqT} {d : TypeDesc} {lit : Bool} (he : eqScalar lit d = some e) {t : TypeId} (hu : P.underlying t = some d) {x y : AV} {c c' : Value} (hx : VRel X x c) (hy : VRel X y c') {r : Bool}
    (h : aEqScalar e x y = some r) (n : Nat) (w : World) : (Op.equalIn (n + 1) t c c').run P w = .ok r w := by
  cases d <;> simp only [eqScalar, Option.some.injEq, reduceCtorEq] at he <;> subst he <;>
    cases hx <;> simp only [aEqScalar, reduceCtorEq] at h <;>
    cases hy <;> simp only [reduceCtorEq, Option.some.injEq] at h <;>
    first
    | (subst h; simp [Op.equalIn, run_underlying hu, bytes_toList, beq_toListBytes]; done)
    | (split at h
       · rename_i e1
         simp only [reduceCtorEq, Option.some.injEq] at h
         subst h
         simp_all [Op.equalIn, run_underlying hu]
       · rename_i e1
         simp only [reduceCtorEq, Option.some.injEq] at h
         subst h
         simp_all [Op.equalIn, run_underlying hu])
    | (split at h
       · rename_i e1
         simp only [reduceCtorEq, Option.some.injEq] at h
         subst h
         simp_all [Op.equalIn, run_underlying hu]
       · simp only [reduceCtorEq, Option.some.injEq] at h)
    | (split at h
       · simp only [reduceCtorEq, Option.some.injEq] at h
       · rename_i e1
         simp only [reduceCtorEq, Option.some.injEq] at h
         subst h
         simp_all [Op.equalIn, run_underlying hu])

theorem eqGuard_nil {op : BinOp} {t : TypeId} {ox oy : Operand} (h : (isLit ox || isLit oy) = true) (w : World) : (eqGuard op t ox oy .nilIface .nilIface).run P w = .ok () w := by
  cases op <;> simp [eqGuard]
  all_goals
    cases ox <;> cases oy <;> simp_all [isLit]

/-- What is held against what: the guard lets it by. -/
theorem eqGuard_run {op : BinOp} {e : EqT} {d : TypeDesc} {t : TypeId} {ox oy : Operand} (he : eqScalar (isLit ox || isLit oy) d = some e) {x y : AV} {c c' : Value} (hx : VRel X x c) (hy : VRel X y c') {r : Bool}
    (h : aEqScalar e x y = some r) (w : World) : (eqGuard op t ox oy c c').run P w = .ok () w := by
  cases hx <;> cases hy <;> (first | (cases op <;> simp [eqGuard]; done) | skip)
  case nili.nili =>
    cases d <;> simp only [eqScalar, Option.some.injEq, reduceCtorEq] at he <;> subst he <;> simp only [aEqScalar, reduceCtorEq] at h
    rename_i ms
    cases hl : (isLit ox || isLit oy) with
    | true => exact eqGuard_nil hl w
    | false => rw [hl] at h; simp [aEqScalar] at h
  case agg.agg =>
    cases d <;> simp only [eqScalar, Option.some.injEq, reduceCtorEq] at he <;> subst he <;> simp [aEqScalar] at h

theorem binOp_eq_run {op : BinOp} (ho : op = .eql ∨ op = .neq) {t : TypeId} {c c' : Value} {r : Bool} {w : World} (h : (Op.equal t c c').run P w = .ok r w)
    (hi : ∀ k a k' b, ¬ (c = .int k a ∧ c' = .int k' b)) (hs : ∀ a b, ¬ (c = .string a ∧ c' = .string b))
    (hn : c.oneCell' = true → ∀ k a, c ≠ .float k a) (hc : ∀ k a b, c ≠ .complex k a b) :
    (binOp op t c c').run P w = .ok (.bool (if op = .neq then !r else r)) w := by
  rcases ho with rfl | rfl
  all_goals
    cases c <;> cases c' <;> first
      | exact absurd ⟨rfl, rfl⟩ (hi _ _ _ _)
      | exact absurd ⟨rfl, rfl⟩ (hs _ _)
      | exact absurd rfl (hc _ _ _)
      | exact absurd rfl (hn rfl _ _)
      | simp [binOp, h]

theorem eqFields_run (hs : ∀ (n : Nat), True) : ∀ {fs : List Field} {es : List (Nat × Nat × Bool × EqT)}, eqFields P fs = some es → ∀ {xs ys : List AV} {cs ds : List Value}, VRels X xs cs → VRels X ys ds → ∀ {r : Bool},
    aEqs es xs ys = some r → ∀ (n : Nat) (w : World), (∀ f ∈ fs, ∃ d, P.underlying f.type = some d ∧ (∀ a, d ≠ .struct a) ∧ ∀ a b, d ≠ .array a b) →
    (Op.eqFields (n + 1) cs.toArray ds.toArray fs).run P w = .ok r w
  | [], es, he, xs, ys, cs, ds, hx, hy, r, h, n, w, _ => by
    simp only [eqFields, Option.some.injEq] at he; subst he
    simp only [aEqs, Option.some.injEq] at h; subst h
    simp [Op.eqFields]
  | f :: fs, es, he, xs, ys, cs, ds, hx, hy, r, h, n, w, hd => by
    simp only [eqFields] at he
    split at he
    · cases he
    rename_i hname
    simp only [Option.pure_def, Option.bind_eq_bind, Option.bind_eq_some_iff] at he
    obtain ⟨d, hu, e, hes, rest, hrest, e0⟩ := he
    cases e0
    simp only [aEqs, Option.bind_eq_some_iff] at h
    obtain ⟨a, ha, b, hb, r1, hr1, h⟩ := h
    obtain ⟨a', ha', ra⟩ := hx.get ha
    obtain ⟨b', hb', rb⟩ := hy.get hb
    have hag : tAgg P f.type = some false := by
      obtain ⟨d', hu', q1, q2⟩ := hd f (by simp)
      rw [hu] at hu'
      cases hu'
      unfold tAgg
      rw [hu]
      cases d <;> simp_all
    have p1 : (part f.type cs.toArray f.offset).run P w = .ok a' w := by simp [part, tAgg_isAgg hag, ha']
    have p2 : (part f.type ds.toArray f.offset).run P w = .ok b' w := by simp [part, tAgg_isAgg hag, hb']
    have p3 := eqScalar_run hes hu ra rb hr1 n w
    simp only [Op.eqFields, if_pos (show f.name ≠ "_" from hname), Sem.run_bind, p1, p2, p3, Result.andThen_ok]
    cases r1 with
    | false => simp only [Option.some.injEq] at h; subst h; simp
    | true =>
      simp only [Bool.not_true, Bool.false_eq_true, if_false]
      exact eqFields_run hs hrest hx hy h n w (fun g hg => hd g (by simp [hg]))

theorem eqFields_plain : ∀ {fs : List Field} {es : List (Nat × Nat × Bool × EqT)}, eqFields P fs = some es → ∀ f ∈ fs, ∃ d, P.underlying f.type = some d ∧ (∀ a, d ≠ .struct a) ∧ ∀ a b, d ≠ .array a b
  | [], _, _, _, h => by cases h
  | f :: fs, es, he, g, hg => by
    simp only [eqFields] at he
    split at he
    · cases he
    simp only [Option.pure_def, Option.bind_eq_bind, Option.bind_eq_some_iff] at he
    obtain ⟨d, hu, e, hes, rest, hrest, e0⟩ := he
    cases hg with
    | head =>
      refine ⟨d, hu, ?_, ?_⟩
      · rintro a rfl; simp [eqScalar] at hes
      · rintro a b rfl; simp [eqScalar] at hes
    | tail _ hg => exact eqFields_plain hrest g hg

theorem sim_eq (hR : Rel B w0 E X) {op : BinOp} (ho : op = .eql ∨ op = .neq) {t : TypeId} {ox oy : Operand} {e : EqT} (he : trEq P t (isLit ox || isLit oy) = some e)
    (hni : ∀ d, P.underlying t = some d → (∀ k, d ≠ .int k) ∧ d ≠ .string)
    {x y : AV} {c d : Value} (hx : VRel X x c) (hy : VRel X y d) {r : Bool} (h : aEq e x y = some r) :
    Sim B w0 E X P (do eqGuard op t ox oy c d; binOp op t c d) (.bool (if op = .neq then !r else r)) X.h := by
  simp only [trEq, Option.bind_eq_bind, Option.bind_eq_some_iff] at he
  obtain ⟨ds, hu, he⟩ := he
  obtain ⟨n1, n2⟩ := hni ds hu
  by_cases hst : ∃ fs, ds = .struct fs
  · obtain ⟨fs, rfl⟩ := hst
    simp only at he
    split at he
    · cases he
    rename_i hbad
    simp only [Bool.or_eq_true, not_or, Bool.not_eq_true] at hbad
    simp only [Option.map_eq_some_iff] at he
    obtain ⟨es, hes, rfl⟩ := he
    cases hx with
    | agg xs cs h1 hv =>
      cases hy with
      | agg ys ds' h2 hv2 =>
        simp only [aEq] at h
        have hf : P.fieldsOf t = fs := by simp [Program.fieldsOf, hu]
        have hrun := eqFields_run (P := P) (X := X) (fun _ => trivial) hes hv hv2 h 9998 X.w (eqFields_plain hes)
        have hG := run_eqGuard_agg (P := P) X.w op t ox oy cs.toArray ds'.toArray hbad.2
        have hE := run_equalIn_struct (P := P) X.w 9999 t cs.toArray ds'.toArray (by rw [hf]; exact hu) hbad.1
        rw [hf, hrun] at hE
        refine Sim.same hR ?_ (.bool _)
        simp only [Sem.run_bind, hG, Result.andThen_ok]
        rcases ho with rfl | rfl
        · rw [run_eql_struct, hE]; rfl
        · rw [run_neq_struct, hE]; rfl
      | _ => simp [aEq] at h
    | _ => simp [aEq] at h
  · have he' : eqScalar (isLit ox || isLit oy) ds = some e := by
      cases ds <;> first | exact he | (exact absurd ⟨_, rfl⟩ hst)
    have h' : aEqScalar e x y = some r := by
      cases ds <;> simp only [eqScalar, Option.some.injEq, reduceCtorEq] at he' <;> subst he' <;> exact h
    have hG := eqGuard_run (P := P) (op := op) (t := t) he' hx hy h' X.w
    have hE : (Op.equal t c d).run P X.w = .ok r X.w := eqScalar_run he' hu hx hy h' 9999 X.w
    refine Sim.same hR ?_ (.bool _)
    simp only [Sem.run_bind, hG, Result.andThen_ok]
    refine binOp_eq_run ho hE ?_ ?_ ?_ ?_
    · rintro k a k' b ⟨rfl, rfl⟩
      cases hx; cases hy
      cases ds <;> simp only [eqScalar, Option.some.injEq, reduceCtorEq] at he' <;> subst he' <;> simp_all [aEqScalar]
    · rintro a b ⟨rfl, rfl⟩
      cases hx; cases hy
      cases ds <;> simp only [eqScalar, Option.some.injEq, reduceCtorEq] at he' <;> subst he' <;> simp_all [aEqScalar]
    · intro _ k a e1; subst e1; cases hx
    · intro k a b e1; subst e1; cases hx
end
end Go.AM
