/-
  Package frame: the number that stands in so many bytes.
-/
import Derived.Test.YtlggjdneolgkoaaDoorFdCode
import Derived.Test.YtlggjdneolgkoaaDoorAmBytes
set_option linter.unusedVariables false
set_option linter.unusedSimpArgs false
namespace Go.Fd
open Go.AM

/-- the number in these bytes -/
def num (l : List UInt8) : Nat := l.foldl (fun n c => n * 256 + c.toNat) 0

theorem num_snoc (l : List UInt8) (c : UInt8) : num (l ++ [c]) = num l * 256 + c.toNat := by
  simp [num]

theorem num_lt (l : List UInt8) : num l < 256 ^ l.length := by
  suffices h : ∀ (l : List UInt8) (k n : Nat), n < 256 ^ k → l.foldl (fun n c => n * 256 + c.toNat) n < 256 ^ (k + l.length) by
    have := h l 0 0 (by simp)
    simpa [num] using this
  intro l
  induction l with
  | nil => intro k n h; simpa using h
  | cons c l ih =>
    intro k n h
    have hc : c.toNat < 256 := c.toNat_lt
    have := ih (k + 1) (n * 256 + c.toNat) (by rw [Nat.pow_succ]; omega)
    simp only [List.foldl_cons, List.length_cons]
    rw [show k + (l.length + 1) = k + 1 + l.length by omega]
    exact this

theorem wrap_small {n : Nat} (h : n < 9223372036854775808) : IntKind.wrap .i64 (n : Int) = n := by
  have h0 : (0 : Int) ≤ n := Int.natCast_nonneg n
  have h1 : (n : Int) < 9223372036854775808 := by omega
  have e : (n : Int) % 18446744073709551616 = n := by omega
  show (if (true && decide ((n : Int) % 18446744073709551616 ≥ 9223372036854775808)) = true then (n : Int) % 18446744073709551616 - 18446744073709551616 else (n : Int) % 18446744073709551616) = n
  rw [e, if_neg]
  simp only [Bool.true_and, decide_eq_true_eq]
  omega

theorem shl_or {n : Nat} (c : UInt8) (h : n < 16777216) :
    IntKind.wrap .i64 ((BitVec.ofInt 64 ((n * 256 : Nat) : Int) ||| BitVec.ofInt 64 ((c.toNat : Nat) : Int)).toNat : Int) = ((n * 256 + c.toNat : Nat) : Int) := by
  have hc : c.toNat < 256 := c.toNat_lt
  have e : (BitVec.ofInt 64 ((n * 256 : Nat) : Int) ||| BitVec.ofInt 64 ((c.toNat : Nat) : Int)).toNat = n * 256 + c.toNat := by
    rw [BitVec.toNat_or, BitVec.ofInt_natCast, BitVec.ofInt_natCast, BitVec.toNat_ofNat, BitVec.toNat_ofNat, Nat.mod_eq_of_lt (by omega), Nat.mod_eq_of_lt (by omega)]
    have := Nat.shiftLeft_add_eq_or_of_lt (b := c.toNat) (i := 8) hc n
    rw [← show n <<< 8 = n * 256 by rw [Nat.shiftLeft_eq]]
    exact this.symm
  rw [e]
  exact wrap_small (by omega)

theorem take_snoc {bs : List UInt8} {i : Nat} (h : i < bs.length) : bs.take (i + 1) = bs.take i ++ [bs.getD i 0] := by
  rw [List.take_add_one, List.getElem?_eq_getElem h, List.getD_eq_getElem?_getD, List.getElem?_eq_getElem h]
  rfl

theorem length_loop {h : Heap} {v : AV} {bs : List UInt8} (hb : Bytes h v bs) (hw : bs.length ≤ 4) {Q : AExit → St → Prop} (hQ : ∀ σ, σ.get 5 = .int .i64 (num bs) → Q (.exit 0) ⟨σ, h⟩) :
    ∀ (k i : Nat) (σ : Slots), i + k = bs.length → σ.get 10 = v → σ.get 11 = .int .i64 bs.length → σ.get 12 = .int .i64 i → σ.get 5 = .int .i64 (num (bs.take i)) → WPr env a29_l7 ⟨σ, h⟩ Q := by
  intro k
  induction k with
  | zero =>
    intro i σ hi h10 h11 h12 h5
    have hi' : i = bs.length := by omega
    subst hi'
    refine wpr_round ?_
    simp [a29_l7, a29_3, get_put, aBin, aInt, h10, h11, h12]
    refine hQ _ ?_
    simpa [get_put] using h5
  | succ k ih =>
    intro i σ hi h10 h11 h12 h5
    have hlt : i < bs.length := by omega
    have hlti : (i : Int) < bs.length := by exact_mod_cast hlt
    obtain ⟨p, c, e1, e2, e3⟩ := hb.elem (kd := .i64) hlt
    have hts := take_snoc hlt
    obtain ⟨x, hx⟩ : ∃ x, x = bs.getD i 0 := ⟨_, rfl⟩
    rw [← hx] at e2 hts
    have hn : num (bs.take i) < 16777216 := by
      have h1 := num_lt (bs.take i)
      have h2 : (bs.take i).length ≤ 3 := by simp; omega
      have h3 : 256 ^ (bs.take i).length ≤ 256 ^ 3 := Nat.pow_le_pow_right (by omega) h2
      omega
    have hsh : IntKind.wrap .i64 ((num (bs.take i) : Int) * 256) = (num (bs.take i) : Int) * 256 := by
      have := wrap_small (n := num (bs.take i) * 256) (by omega)
      simpa using this
    have hcw : IntKind.wrap .i64 (x.toNat : Int) = (x.toNat : Int) := wrap_small (by have := x.toNat_lt; omega)
    have hor : IntKind.wrap .i64 ((BitVec.ofInt 64 ((num (bs.take i) : Int) * 256) ||| BitVec.ofNat 64 x.toNat).toNat : Int) = (num (bs.take i) : Int) * 256 + x.toNat := by
      have := shl_or x hn
      simpa using this
    have hi1 : IntKind.wrap .i64 ((i : Int) + 1) = ((i + 1 : Nat) : Int) := by
      have := wrap_small (n := i + 1) (by omega)
      simpa using this
    refine wpr_round' fun b hb' => ?_
    simp [a29_l7, a29_3, a29_4, a29_5, a29_6, get_put, aConv, aBin, aInt, aShift, byteAV, IntKind.bits, h10, h11, h12, h5, hlti, e1, e2, hsh, hcw, hor, hi1]
    subst hb'
    refine ih (i + 1) _ (by omega) ?_ ?_ ?_ ?_ <;> simp [get_put, h10, h11, hts, num_snoc]
    exact hor

/-- the number that stands in the first bytes -/
theorem length_spec {h : Heap} {v : AV} {bs : List UInt8} (hb : Bytes h v bs) {w : Nat} (hw : w ≤ 4) (hl : w ≤ bs.length) :
    WC env 29 [.int .i64 w, v] h (fun o => o = .ret ⟨.int .i64 (num (bs.take w)), h, .write⟩) := by
  obtain ⟨v', e1, e2⟩ := hb.to (kd := .i64) hl
  have hlen : (bs.take w).length = w := by simp; omega
  refine call_body rfl rfl (.inl rfl) ?_
  have e3 := e2.lenOp
  simp [a29, a29_0, a29_1, a29_2, a29_8, Slots.ofList, get_put, op_slice, e1, e3]
  refine length_loop e2 (by omega) (fun σ h5 => ?_) w 0 _ (by omega) ?_ ?_ ?_ ?_
  · simp [get_put, h5, retQ, Env.results, oneOrTup]
  · simp [get_put]
  · simp [get_put]
  · simp [get_put]
  · simp [get_put, num]
end Go.Fd
