/-
  Package frame: Feed.
-/
import Derived.Test.YtlggjdneolgkoaaDoorFdNew
set_option linter.unusedVariables false
set_option linter.unusedSimpArgs false
set_option maxRecDepth 20000
namespace Go.Fd
open Go.AM

theorem _root_.Go.AM.Acc.lenOp {h : Heap} {sz n : Nat} {x : AV} {cells : List AV} (k : Acc h sz x cells) (e : aLen x = some n) (h2 : Heap) : aLenOp false h2 x = some ⟨.int .i64 n, h2, .none⟩ := by
  cases k <;> (cases e; rfl)

theorem _root_.Go.AM.Acc.row {h : Heap} {sz : Nat} {x : AV} {cells : List AV} (k : Acc h sz x cells) : x.row = some [x] := by
  cases k <;> rfl

/-- all but these objects are kept -/
def Chg (S : Nat → Prop) (h h' : Heap) : Prop := h.next ≤ h'.next ∧ ∀ id gen cs, ¬ S id → h.at_ id gen = some cs → h'.at_ id gen = some cs

theorem Chg.refl {S : Nat → Prop} {h : Heap} : Chg S h h := ⟨Nat.le_refl _, fun _ _ _ _ e => e⟩
theorem Chg.trans {S : Nat → Prop} {a b c : Heap} (x : Chg S a b) (y : Chg S b c) : Chg S a c := ⟨Nat.le_trans x.1 y.1, fun id gen cs n e => y.2 id gen cs n (x.2 id gen cs n e)⟩
theorem Chg.mono {S T : Nat → Prop} {a b : Heap} (x : Chg S a b) (h : ∀ i, S i → T i) : Chg T a b := ⟨x.1, fun id gen cs n e => x.2 id gen cs (fun s => n (h id s)) e⟩
theorem _root_.Go.AM.Heap.le.chg {S : Nat → Prop} {a b : Heap} (x : a.le b) : Chg S a b := ⟨x.1, fun id gen cs _ e => x.2 id gen cs e⟩
theorem _root_.Go.AM.Heap.leBut.chg {S : Nat → Prop} {o : Option Nat} {a b : Heap} (x : Heap.leBut o a b) (hs : ∀ i, o = some i → S i) : Chg S a b := ⟨x.1, fun id gen cs n e => x.2 id gen cs (fun e2 => n (hs id e2)) e⟩
theorem upd_chg {S : Nat → Prop} {h : Heap} {id gen : Nat} {cs : List AV} (hs : S id) : Chg S h (h.upd id gen cs) :=
  ⟨Nat.le_refl _, fun id' gen' cs' hne e => by rw [at_upd_ne (fun e2 => hne (by rw [e2]; exact hs))]; exact e⟩

theorem _root_.Go.AM.Acc.chg {h h' : Heap} {sz : Nat} {x : AV} {cells : List AV} {S : Nat → Prop} (k : Acc h sz x cells) (hl : Chg S h h') (hne : ∀ id, x.own = some id → ¬ S id) : Acc h' sz x cells := by
  cases k with
  | nils => exact .nils
  | full n _ hl => exact .full n _ hl
  | sl id gen n _ hat hl' => exact .sl id gen n _ (hl.2 _ _ _ (hne id rfl) hat) hl'
theorem _root_.Go.AM.Bytes.chg {h h' : Heap} {v : AV} {bs : List UInt8} {S : Nat → Prop} (k : Bytes h v bs) (hl : Chg S h h') (hne : ∀ id, v.own = some id → ¬ S id) : Bytes h' v bs := by
  cases k with
  | nils => exact .nils
  | fs full => exact .fs full _
  | sl id gen off cap cs _ hat hle hc hcap => exact .sl id gen off cap cs _ (hl.2 _ _ _ (hne id rfl) hat) hle hc hcap

/-- append([]byte{}, y...): what is made is one's own -/
theorem append_own {h : Heap} (ho : HeapOk h) {y : AV} {bs : List UInt8} (k : Bytes h y bs) (hsm : bs.length ≤ 70368744177664) :
    ∃ v' h' c, aAppend h 1 1 (.fs true 0 []) y = some ⟨v', h', c⟩ ∧ Acc h' 1 v' (bs.map byteAV) ∧ aLen v' = some bs.length ∧ h.le h' ∧ HeapOk h' ∧ (∀ id, v'.own = some id → h.next ≤ id ∧ id < h'.next) ∧ (bs ≠ [] → v'.own ≠ none) := by
  by_cases h0 : bs = []
  · subst h0
    refine ⟨.fs true 0 [], h, .none, ?_, .full 0 [] rfl, rfl, Heap.le_refl h, ho, (fun id e => by cases e), fun e => absurd rfl e⟩
    simp [aAppend, k.len, aLen_fs]
  · obtain ⟨c, _, hc⟩ := k.cells
    have hne : bs.length ≠ 0 := fun e => h0 (List.length_eq_zero_iff.1 e)
    refine ⟨.sl h.next 0 0 1 bs.length none, h.new (bs.map byteAV), .write, ?_, .sl _ _ _ _ (at_new _) (by simp), rfl, le_new ho _, ho.new _, fun id e => ?_, fun _ => by simp [AV.own]⟩
    · simp [aAppend, k.len, aLen_fs, hsm, h0, hc]
      simp [sliceCells]
    · simp only [AV.own, Option.some.injEq] at e
      subst e
      exact ⟨Nat.le_refl _, Nat.lt_succ_self _⟩

/-! ### a reader's object -/
section
variable {h : Heap} {id : Nat} {s : Rs} {hv : AV}
theorem rs_ld0 (e : h.at_ id 0 = some (s.cells hv)) : aLoad h false 1 (.ptr id 0 0) = some ⟨.int .i64 s.w, h, .read⟩ := by simp only [aLoad, e, Option.bind_some]; rfl
theorem rs_ld1 (e : h.at_ id 0 = some (s.cells hv)) : aLoad h false 1 (.ptr id 0 1) = some ⟨.int .i64 s.held, h, .read⟩ := by simp only [aLoad, e, Option.bind_some]; rfl
theorem rs_ld2 (e : h.at_ id 0 = some (s.cells hv)) : aLoad h false 1 (.ptr id 0 2) = some ⟨.int .i64 s.frames, h, .read⟩ := by simp only [aLoad, e, Option.bind_some]; rfl
theorem rs_ld3 (e : h.at_ id 0 = some (s.cells hv)) : aLoad h false 1 (.ptr id 0 3) = some ⟨.int .i64 s.ticks, h, .read⟩ := by simp only [aLoad, e, Option.bind_some]; rfl
theorem rs_ld4 (e : h.at_ id 0 = some (s.cells hv)) : aLoad h false 1 (.ptr id 0 4) = some ⟨.int .i64 s.bytes, h, .read⟩ := by simp only [aLoad, e, Option.bind_some]; rfl
theorem rs_ld5 (e : h.at_ id 0 = some (s.cells hv)) : aLoad h false 1 (.ptr id 0 5) = some ⟨.bool s.dead, h, .read⟩ := by simp only [aLoad, e, Option.bind_some]; rfl
theorem rs_ld6 (e : h.at_ id 0 = some (s.cells hv)) : aLoad h false 1 (.ptr id 0 6) = some ⟨hv, h, .read⟩ := by simp only [aLoad, e, Option.bind_some]; rfl
theorem rs_st1 (n : Nat) (e : h.at_ id 0 = some (s.cells hv)) : aStore h 1 (.ptr id 0 1) (.int .i64 n) = some ⟨.undef, h.upd id 0 ({ s with held := n : Rs }.cells hv), .write⟩ := by simp only [aStore, e, Option.bind_some]; rfl
theorem rs_st2 (n : Nat) (e : h.at_ id 0 = some (s.cells hv)) : aStore h 1 (.ptr id 0 2) (.int .i64 n) = some ⟨.undef, h.upd id 0 ({ s with frames := n : Rs }.cells hv), .write⟩ := by simp only [aStore, e, Option.bind_some]; rfl
theorem rs_st3 (n : Nat) (e : h.at_ id 0 = some (s.cells hv)) : aStore h 1 (.ptr id 0 3) (.int .i64 n) = some ⟨.undef, h.upd id 0 ({ s with ticks := n : Rs }.cells hv), .write⟩ := by simp only [aStore, e, Option.bind_some]; rfl
theorem rs_st4 (n : Nat) (e : h.at_ id 0 = some (s.cells hv)) : aStore h 1 (.ptr id 0 4) (.int .i64 n) = some ⟨.undef, h.upd id 0 ({ s with bytes := n : Rs }.cells hv), .write⟩ := by simp only [aStore, e, Option.bind_some]; rfl
theorem rs_st5 (b : Bool) (e : h.at_ id 0 = some (s.cells hv)) : aStore h 1 (.ptr id 0 5) (.bool b) = some ⟨.undef, h.upd id 0 ({ s with dead := b : Rs }.cells hv), .write⟩ := by simp only [aStore, e, Option.bind_some]; rfl
theorem rs_st6 {x : AV} (hx : x.row = some [x]) (e : h.at_ id 0 = some (s.cells hv)) : aStore h 1 (.ptr id 0 6) x = some ⟨.undef, h.upd id 0 (s.cells x), .write⟩ := by simp only [aStore, e, Option.bind_some, hx]; rfl
end

/-- a reader that holds these bytes -/
structure Rd (h : Heap) (id : Nat) (s : Rs) (bs : List UInt8) (hv : AV) : Prop where
  hat : h.at_ id 0 = some (s.cells hv)
  acc : Acc h 1 hv (bs.map byteAV)
  ne : hv.own ≠ some id
  held : s.held = bs.length

theorem Rd.chg {S : Nat → Prop} {h h' : Heap} {id : Nat} {s : Rs} {bs : List UInt8} {hv : AV} (k : Rd h id s bs hv) (c : Chg S h h') (h1 : ¬ S id) (h2 : ∀ i, hv.own = some i → ¬ S i) : Rd h' id s bs hv :=
  ⟨c.2 _ _ _ h1 k.hat, k.acc.chg c h2, k.ne, k.held⟩

theorem Rd.len {h : Heap} {id : Nat} {s : Rs} {bs : List UInt8} {hv : AV} (k : Rd h id s bs hv) : aLen hv = some bs.length := by
  obtain ⟨n, h1, h2⟩ := k.acc.len
  rw [h1]
  simp at h2
  rw [h2]

theorem aNil_ptr {id gen off : Nat} : aNil (.ptr id gen off) = some (.ptr id gen off) := _root_.id rfl
theorem aEq_ptr {id gen off : Nat} : aEq .ptr (.ptr id gen off) .nilp = some false := _root_.id rfl
theorem aEq_nili : aEq (.iface true) .nili .nili = some true := _root_.id rfl

theorem feed_spec {h : Heap} {id : Nat} {s : Rs} {bs cs : List UInt8} {hv v : AV} (ho : HeapOk h) (k : Rd h id s bs hv) (hb : Bytes h v cs) (n1 : v.own ≠ some id) (n2 : ∀ i, v.own = some i → hv.own ≠ some i)
    (hw : s.w ≠ 0) (hd : s.dead = false) (hsm : bs.length + cs.length ≤ 16777216) :
    WC env 12 [.ptr id 0 0, v] h (fun o => ∃ h' hv', HeapOk h' ∧ Rd h' id { s with held := bs.length + cs.length } (bs ++ cs) hv' ∧ Chg (fun i => i = id ∨ hv.own = some i) h h' ∧
      (∀ i, hv'.own = some i → hv.own = some i ∨ h.next ≤ i) ∧ o = .ret ⟨.nili, h', .write⟩) := by
  obtain ⟨c, hcn, hc⟩ := hb.cells
  obtain ⟨x, h1, c', ha, hacc, hle, ho1, hown, hlen⟩ := k.acc.append ho (bt := 1) (by omega) k.len hb.len hc (by simp) (by omega) (by omega)
  have hid : id < h.next := ho.lt k.hat
  have hat1 : h1.at_ id 0 = some (s.cells hv) := hle.2 _ _ _ (fun e => k.ne e) k.hat
  obtain ⟨N, hN⟩ : ∃ N, N = bs.length + cs.length := ⟨_, rfl⟩
  rw [← hN] at hlen hsm ⊢
  have l0 := rs_ld6 k.hat
  have l1 := k.acc.lenOp k.len h
  have l2 := hb.lenOp
  have z1 : IntKind.wrap .i64 ((bs.length : Int) + (cs.length : Int)) = N := wrap_nat (by omega) (by omega)
  have z2 : ((N : Int) > 16777216) = False := eq_false (by omega)
  have t0 := rs_st6 hacc.row hat1
  have l3 := rs_ld6 (at_upd (h := h1) (id := id) (gen := 0) (cs := s.cells x))
  have l4 := hacc.lenOp hlen (h1.upd id 0 (s.cells x))
  have t1 := rs_st1 N (at_upd (h := h1) (id := id) (gen := 0) (cs := s.cells x))
  have xid : x.own ≠ some id := fun e => (hown id e).elim (fun e => k.ne e) (fun e => by omega)
  refine call_body rfl rfl (.inl rfl) ?_
  simp only [a12, a12_0, a12_1, a12_2, a12_4, a12_6, a12_7, a12_8, Slots.ofList, wpc_skip, wpc_ops, wpc_draw, wpc_seq, wpc_cond, wpc_block, wpc_loop, wpc_exit, wpc_scope, wpc_ret, seqQ_norm, seqQ_ret, seqQ_exit, blockQ'_norm, blockQ'_ret, blockQ'_exit, roundQ_norm, roundQ_ret, roundQ_exit, condK_true, condK_false, wpo_nil', wpo_none, wpo_some, opsK_apply, guardK_tt, guardK_ff, guardK_tf, guardK_ft, wp1_call, callK_ret, wp1_mv', wp1_bin', wp1_un', wp1_eq', wp1_extract', wp1_pick', wp1_len', wp1_load', wp1_conv', wp1_store', wp1_idxAddr', wp1_append', wp1_mkIface', wp1_alloc', rd_t, rd_c, ok_t, ok_c, put_some, put_none, get_put, reduceIte, Nat.reduceEqDiff, AV.bool.injEq, Option.some.injEq, exists_eq_left', Option.map_some, Option.bind_some, opds_nil, opds_cons, opd_t, opd_c, aBin, aInt, decide_true, decide_false, negIf, wp1_nilCheck', wp1_fieldAddr', wp1_slice, op_slice, opdo_some, opdo_none, wp1_lit, op_lit, parts_nil, parts_cons, wp1_build, op_build, wp1_box, op_box, wc_eq (ready_live k.hat hw hd), aEq_nili, aNil_ptr, aFieldAddr, Nat.add_zero, Nat.zero_add, l0, l1, l2, z1, z2, ha, t0, l3, l4, t1, Bool.not_true]
  refine ⟨[.nili], by simp only [Env.results, Option.map_some, get_put, reduceIte], _, x, ?_, ⟨at_upd, ?_, xid, ?_⟩, ?_, hown, rfl⟩
  · exact (ho1.upd (at_look.1 hat1) _ _).upd (at_look.1 at_upd) _ _
  · rw [List.map_append]
    exact (hacc.chg (S := fun i => i = id) (upd_chg rfl) fun i e e2 => xid (by rw [e, e2])).chg (S := fun i => i = id) (upd_chg rfl) fun i e e2 => xid (by rw [e, e2])
  · simp [hN]
  · exact ((hle.chg fun i e => .inr e).trans (upd_chg (.inl rfl))).trans (upd_chg (.inl rfl))

end Go.Fd
