/-
  THE ABSTRACT MACHINE AND THE MODEL: from a run of the machine to a call of the model, and to a row's closing words.
-/
import Derived.Test.YtpggjddiddmkkaaGreatDoorAmDraw4
import Derived.ChangeSame
import Derived.Carry
import Derived.RowKit
set_option linter.unusedSimpArgs false
set_option linter.unusedVariables false
namespace Go.AM
open Go.RowKit Go.ChangeShapes
section
variable {E : Env} {P : Program}
/-- a world with nothing of the machine's own -/
def RX.start (W : World) : RX := ⟨W, .empty, fun _ => ⟨0, 0, 0⟩, fun _ => False, fun _ => 0⟩
theorem start_still {W : World} {b : Nat} (h : b < W.heap.size) : (RX.start W).Still b := ⟨h, fun hF => hF, fun hO => by
  rcases hO with ⟨_, _, ho, _⟩ | ⟨k, hk, _⟩
  · cases ho
  · exact absurd hk (Nat.not_lt_zero _)⟩
theorem start_rel {W : World} (hk : E.ok W.heap.size W) (hglob : ∀ g cs, E.glob g = some cs → VRel (RX.start W) (.fp cs) (.pointer (some ⟨g, 0, none⟩))) : Rel W.heap.size W E (RX.start W) where
  below := Below.refl _ _
  base := Nat.le_refl _
  lt id o h := by cases h
  obj id o h := by cases h
  inj id id' o o' h := by cases h
  fresh id o h := by cases h
  Flt b h := h.elim
  glob := hglob
  start := hk
  its k s p h := by cases h
  itj j k h := absurd h (Nat.not_lt_zero _)
/-- A run of the machine is a call of the model. -/
theorem am_calls (hE : EnvOk P E) (hg : ∀ g cs, E.glob g = some cs → AV.noRefs cs = true) (hm : P.follows .mixedOrders = true) {W : World} {args : Array Value} {avs : List AV} {n f : Nat} {h' : Heap} {c : Cls}
    (hglob : ∀ g cs, E.glob g = some cs → VRel (RX.start W) (.fp cs) (.pointer (some ⟨g, 0, none⟩))) (hav : VRels (RX.start W) avs args.toList)
    (hrun : E.call n f avs .empty = some (.ret ⟨.bool true, h', c⟩)) (hk : E.ok W.heap.size W := by trivial) : Calls P f args W fun e w' => e = .returned (.bool true) ∧ Below W.heap.size W w' := by
  obtain ⟨hC, _, _⟩ := call_ok hE hg (fun C h1 h2 h3 => draw_sim h1 ⟨h2, h3⟩ hm) n
  obtain ⟨_, hcall⟩ := hC f avs .empty _ hrun
  have := hcall W.heap.size W (RX.start W) args.toList (start_rel hk hglob) rfl hav
  rw [show args.toList.toArray = args by simp] at this
  refine Calls.mono this ?_
  rintro e w' ⟨X', v', rfl, _, g2, _, g4, rfl⟩
  cases g4
  exact ⟨rfl, g2.below⟩
theorem trodAll_stays {H : Type} {enc : TypeId × Value → H} (hl : laidOutB P = true) {W W' : World} {sp' : Nat → Bool} : ∀ {ts : List TypeId} {vs : List Value} {ds : List (DataW H)} {ps : List MemPlace},
    (∀ t ∈ ts, P.readableRec t = true ∧ t < P.types.size) → DataW.TrodAll enc P W 0 (fun _ => true) true ts vs ds ps → (∀ p ∈ ps, W.sameAt W' p) → (∀ p ∈ ps, sp' p.block = true) → DataW.TrodAll enc P W' 0 sp' true ts vs ds ps
  | [], [], [], ps, _, h, _, _ => h
  | [], _ :: _, _, _, _, h, _, _ => h.elim
  | [], [], _ :: _, _, _, h, _, _ => h.elim
  | _ :: _, [], _, _, _, h, _, _ => h.elim
  | _ :: _, _ :: _, [], _, _, h, _, _ => h.elim
  | t :: ts, v :: vs, d :: ds, ps, ht, h, hs, hsp => by
    obtain ⟨p, q, h1, h2, rfl⟩ := h
    obtain ⟨g1, g2⟩ := ht t (by simp)
    exact ⟨p, q, WideElems.Trod_stays hl g1 g2 h1 (fun x hx => hs x (by simp [hx])) (fun x hx => hsp x (by simp [hx])),
      trodAll_stays hl (fun t' ht' => ht t' (by simp [ht'])) h2 (fun x hx => hs x (by simp [hx])) (fun x hx => hsp x (by simp [hx])), rfl⟩
/-- What a row asks behind a call that answers true and leaves alone what was there. -/
theorem post_true {H : Type} {enc : TypeId × Value → H} {f : Func} {s : ChangeSpec} {apart fresh handsOn again : Bool} {W W' : World} {args : Array Value} {ds gs : List (DataW H)} {before : List MemPlace} {tb : TypeId}
    (hl : laidOutB P = true) (hps : ∀ t ∈ f.params.toList, P.readableRec t = true ∧ t < P.types.size) (hrt : f.resultTypes = #[tb]) (htb : P.underlying tb = some .bool) (hv : s.vars = [])
    (hfn : (s.fn H (ds ++ gs)) = { results := [.lit (.bool true)], args := ds })
    (hW : DataW.Whole enc P f.params.toList s.vars apart W args.toList ds gs before) (hb : Below W.heap.size W W') : s.post enc P f apart fresh handsOn again W args (.bool true) W' := by
  have hlt := hW.lt
  have hW' := hW
  obtain ⟨p, q, hA, hV, rfl, hz, hn⟩ := hW'
  have hq : q = [] ∧ gs = [] := by
    rw [hv] at hV
    cases gs with
    | nil => exact ⟨hV, rfl⟩
    | cons g gs => exact hV.elim
  obtain ⟨rfl, rfl⟩ := hq
  have hres : ∀ (b : Nat) (sp : Nat → Bool) (hd : Bool), DataW.TrodAll enc P W' b sp hd f.resultTypes.toList ((Value.bool true).resultList f.resultTypes.size) (s.fn H (ds ++ [])).results [] := by
    intro b sp hd
    rw [hfn, hrt]
    refine ⟨[], [], ⟨1, ?_⟩, rfl, rfl⟩
    simp [DataW.trod, htb, Value.cells]
  have hargs : ∀ sp : Nat → Bool, (∀ x ∈ p ++ [], sp x.block = true) → DataW.TrodAll enc P W' 0 sp true f.params.toList args.toList (s.fn H (ds ++ [])).args p := by
    intro sp hsp
    rw [hfn]
    exact trodAll_stays hl hps hA (fun x hx => hb.same (hlt x (by simp [hx]))) (fun x hx => hsp x (by simp [hx]))
  have hvars : ∀ sp : Nat → Bool, DataW.TrodVars enc P W' sp s.vars (s.fn H (ds ++ [])).vars [] := by
    intro sp
    rw [hfn, hv]; rfl
  have hold : ∀ x ∈ p ++ [], (fun b => decide (b < W.heap.size)) x.block = true := fun x hx => by simpa using hlt x hx
  refine ⟨ds, [], p ++ [], [], p, [], hW, hres _ _ _, hargs _ hold, hvars _, World.keptBut_mono (fun x hx => ⟨hx, ?_⟩) (hb.frame (fun x => x ∈ p ++ [])), fun _ => ?_⟩
  · exact Or.inr (by simpa using hx)
  · refine ⟨?_, _, _, ([] ++ p) ++ [], ⟨[] ++ p, [], trodAll_append (hargs _ (fun _ _ => rfl)) (hres _ _ _), hvars _, rfl, ?_, ?_⟩, ?_⟩
    · exact ok_one hrt rfl (by simp [Value.okWide, Cell.okWide, Cell.ok, htb])
    · intro b off hp
      have hp' : MemPlace.cell b off ∈ p ++ [] := by simpa using hp
      rw [hb.frozen (p := ⟨b, off, none⟩) (hlt _ hp')]
      exact hz b off hp'
    · intro ha
      have := hn ha
      simpa using this
    · intro x hx _
      simpa using hx
end
end Go.AM
