/- BifCalls answers true; the tied card. -/
import Derived.Test.YtaielgjmhbjfhaaGreatDoorBfRowKit
import Derived.Test.YtaielgjmhbjfhaaGreatDoorBfReads2
import Derived.Test.YtaielgjmhbjfhaaGreatDoorBfCalls32
set_option linter.unusedVariables false
namespace Go.Proofs.YtaielgjmhbjfhaaGreatDoor.bifCalls
open Go.ChangeShapes Go.WideShapes Go.ChangeAt Go.RowKit Go.AM Go.Bf
theorem ahF:R.U4 Tryz.prog [gS,gL] Tryz.f9.params.toList:=by
 have h:Tryz.f9.params.toList=[9,34]:=by kernel_rfl
 rw[h];exact⟨aeB,fun n=>(alA n).2,trivial⟩
theorem readable:∀t∈Tryz.f9.params.toList,Tryz.prog.readableRec t=true∧t<Tryz.prog.types.size:=by
 have h:(Tryz.f9.params.toList.all fun t=>Tryz.prog.readableRec t&&decide (t<Tryz.prog.types.size))=true:=by kernel_rfl
 intro t ht;have:=List.all_eq_true.1 h t ht
 simpa using this
set_option maxRecDepth 100000 in
theorem WB (H:Type) (enc:TypeId×Value→H) (W:World) (base:Nat) (args:Array Value) (ds gs:List (DataW H)) (before:List MemPlace)
  (hval:∀(j:Nat) t v,Tryz.f9.params[j]? =some t→args[j]? =some v→Value.okWide Tryz.prog W .any base t v)
  (hW:DataW.Whole enc Tryz.prog Tryz.f9.params.toList Rows.bifCallsSpec.vars false W args.toList ds gs before) (hL:laidMetH Tryz.prog kit.laid W):
  Calls Tryz.prog 9 args W fun e W' =>∃v,e=.returned v∧Rows.bifCallsSpec.post enc Tryz.prog Tryz.f9 false true false false W args v W' :=by
 have hW' :=hW
 obtain⟨p,q,hA,hV,rfl,hfz,hnd⟩:=hW'
 obtain⟨rfl,rfl⟩:=trodVars_none hV
 obtain⟨avs,bcb,hrel⟩:=R.args_fit ahF (fun j t v hj hv=>hval j t v (by rw[Array.getElem?_toList]at hj;exact hj) (by rw[Array.getElem?_toList]at hv;exact hv)) hA
 obtain⟨n0,d0,ds0,c0,vs0,rfl,rfl,f0,n1,d1,ds1,c1,vs1,rfl,rfl,f1,rfl,rfl⟩:=bcb
 have hs:∃s:List UInt8,(gS n0).whole c0=.str s:=by
  cases n0 with
  |zero=>exact f0.elim
  |succ n0=>
   obtain⟨s,rfl,_,rfl⟩:=f0
   exact⟨s,rfl⟩
 obtain⟨s,es⟩:=hs
 obtain⟨g,l,el,okl,_⟩:=TA f1
 rw[es,el]at hrel
 obtain⟨m,o,bbz,h',rfl⟩:=DE (Db (name:=s) okl (Ew g l))
 refine(U5 ahG kit.TB kit.mixed (kit.WD hL) hrel bbz (kit.started hL)).mono fun e W' ⟨he,hb⟩=> ?_
 subst he;exact⟨_,rfl,S4 (tb:=4) kit.laidOut readable (by kernel_rfl) (by kernel_rfl) rfl rfl hW hb⟩
theorem reads (os:Os) {H:Type} (enc:TypeId×Value→H):∃places,DataW.whole enc Tryz.prog ((kit.xw os).forCall (fun _ _=>0) ⟨#[],#[.string ByteArray.empty,.slice none 0 0],[]⟩).memory Tryz.f9.params.toList Rows.bifCallsSpec.vars false (#[.string ByteArray.empty,.slice none 0 0]:Array Value).toList 8=some ([.lit (.string []),.nil],[],places):=
 ⟨[],by kernel_rfl⟩
set_option maxRecDepth 100000 in
theorem lifted (os:Os) (started:os.Started) (H:Type) (enc:TypeId×Value→H) (F:Stop.Interp):
  ReturnsInHanded {} Tryz.checked os 9 .any ((OpenSpec.ofChange Rows.bifCallsSpec).preRow enc Tryz.prog Tryz.f9 Rows.bifCallsRow.domain false Rows.bifCallsRow.laid) (((OpenSpec.ofChange Rows.bifCallsSpec).at F).post enc Tryz.prog Tryz.f9 false true false false):=by
 obtain⟨places,hx⟩:=reads os enc
 refine returnsInHanded_of_row (C:=Tryz.checked) (s:=(OpenSpec.ofChange Rows.bifCallsSpec)) kit.own started (by kernel_rfl) Tryz.func9
  (witness_row_atRef (enc:=enc) (C:=Tryz.checked) false (kit.xw os) #[.string ByteArray.empty,.slice none 0 0] rfl (by kernel_rfl) (by kernel_rfl) (by kernel_rfl)
   (OpenSpec.preRow_of_cond 8 hx (by kernel_rfl) (fun k hk=>by cases hk) (by kernel_rfl) (kit.WE os _))) ?_
 intro W base args ds gs before hval hW _ bdf _ hL _ _;exact WB H enc W base args ds gs before hval hW hL
theorem said:Rows.BifCallsSaid:=
 OpenClaim.holds_of_cond 9 Tryz.f9 rfl rfl rfl rfl rfl rfl rfl ⟨rfl,rfl,rfl,rfl,rfl⟩ rfl rfl rfl rfl rfl (by kernel_rfl) Tryz.func9 (by kernel_rfl)
  (of_decide_eq_true (by kernel_rfl)) (by unfold Func.isWrapper;first|(rw[if_pos (by decide+kernel)];kernel_rfl)|(rw[if_neg (by decide+kernel)];exact⟨rfl,rfl⟩))
  (fun os started H enc _ F=>by rw[OpenClaim.pre_eq_preRow];exact lifted os started H enc F)
theorem plain (f:FuncId) (fn:Func) (hf:Tryz.pinned.checked.prog.funcNamed "heddle/heddlelaw13.BifCalls" =some f) (hfn:Tryz.pinned.checked.prog.funcs[f]? =some fn):
  true=Tryz.pinned.checked.prog.looks []∧∀(j:Nat) t,fn.params[j]? =some t→Tryz.pinned.checked.prog.wantsStandIn t=false:=by
 obtain rfl:f=9:=Option.some.inj ((show Tryz.prog.funcNamed "heddle/heddlelaw13.BifCalls" =some 9 by kernel_rfl).symm.trans hf)|>.symm
 obtain rfl:fn=Tryz.f9:=(Option.some.inj (Tryz.func9.symm.trans hfn)).symm
 refine⟨by kernel_rfl,fun j t ht=> ?_⟩
 have h:(Tryz.f9.params.toList.all fun t=> !(Tryz.prog.wantsStandIn t))=true:=by kernel_rfl
 have:=List.all_eq_true.1 h t (by simpa using Array.mem_of_getElem? ht)
 exact(by simpa using this:Tryz.prog.wantsStandIn t=false)
theorem proved:Rows.BifCallsCardSaid:=
 Claim7.holds_tied_plain_at .later [] _ _ _ _ said (fun _ h=>by cases h) (by kernel_rfl) (fun _ h=>by cases h) bifCalls_row_tie rfl ⟨rfl,rfl⟩ (by kernel_rfl) rfl plain (by kernel_rfl)
end Go.Proofs.YtaielgjmhbjfhaaGreatDoor.bifCalls
