/- For BifCalls. -/
import Derived.Test.YtaielgjmhbjfhaaGreatDoorChecked
import Derived.WalkKit
import Derived.Stop.Asserts
import Derived.RowKitTokens
set_option linter.unusedVariables false
namespace Go.Proofs.YtaielgjmhbjfhaaGreatDoor
open Go.RowKit Go.Extern.Stop Go.Stop Go.Extern
theorem Tryz.TO (t:Addr) (w:World):(ReflectliteValue.unpack (.iface 71 (.pointer (some t)))).run Tryz.prog w
  =.ok (.agg #[.pointer (some ⟨10,71,none⟩),.pointer (some ⟨w.heap.size,0,none⟩),.int .u64 150]) (w.alloc (.cells #[.pointer (some t)] 71)):=by kernel_rfl
theorem Tryz.ajm (a:Addr) (w:World):(ReflectliteValue.methodAny (ReflectliteValue.valueError "reflectlite.Value.Type" 0) (fun t _ _ _=>ReflectliteType.toType t) #[.agg #[.pointer (some ⟨10,71,none⟩),.pointer (some a),.int .u64 150]]).run Tryz.prog w
  =.ok (.iface 132 (.agg #[.pointer (some ⟨10,71,none⟩)])) w:=by kernel_rfl
theorem Tryz.Pz (h:Value) (w:World):(Go.method 361 132 (.agg #[h]) "Kind").run Tryz.prog w=.ok (192,h) w:=by kernel_rfl
theorem Tryz.ajn (w:World):((ReflectliteType.abiMethod fun t=>(fun a:Nat=>Value.int IntKind.u8 (a:Int))<$>Rtype.kind t) #[.pointer (some ⟨10,71,none⟩)]).run Tryz.prog w=.ok (.int .u8 22) w:=by kernel_rfl
theorem Tryz.anW (w:World):((ReflectliteType.abiMethod fun t=>(fun a:Nat=>Value.int IntKind.u8 (a:Int))<$>Rtype.kind t) #[.pointer (some ⟨10,69,none⟩)]).run Tryz.prog w=.ok (.int .u8 22) w:=by kernel_rfl
theorem rlm (z:Sem Value) (f:TypeId→Addr→Nat→Nat→Sem Value) (v:Value):
  ReflectliteValue.method z f #[v]=(do match←ReflectliteValue.parts v with|none=>z|some (t,a,fl)=>f t a fl (fl % 32)):=rfl
theorem Tryz.Sr (a:Addr) (w:World):(ReflectliteValue.parts (.agg #[.pointer (some ⟨10,71,none⟩),.pointer (some a),.int .u64 150])).run Tryz.prog w=.ok (some (71,a,150)) w:=by kernel_rfl
theorem Tryz.ac6 (a p:Addr) (W:World) (ha:W.cell? a=some (.pointer (some p))):
  (ReflectliteValue.method (ReflectliteValue.valueError "reflectlite.Value.IsNil" 0) ReflectliteValue.isNil #[.agg #[.pointer (some ⟨10,71,none⟩),.pointer (some a),.int .u64 150]]).run Tryz.prog W=.ok (.bool false) W:=by
 rw[rlm];simp only[Sem.run_bind,Tryz.Sr,Result.andThen]
 simp[ReflectliteValue.isNil,loadVar,isAgg,underlying,Tryz.underlying71,ha,Result.andThen]
theorem Tryz.PA (h:Value) (w:World):(Go.method 361 132 (.agg #[h]) "Elem").run Tryz.prog w=.ok (204,.agg #[h]) w:=by kernel_rfl
theorem Tryz.xH (h:Value) (w:World):(Go.method 361 132 (.agg #[h]) "Implements").run Tryz.prog w=.ok (205,.agg #[h]) w:=by kernel_rfl
theorem Tryz.uL (h:Value) (w:World):(Go.method 361 132 (.agg #[h]) "AssignableTo").run Tryz.prog w=.ok (202,.agg #[h]) w:=by kernel_rfl
theorem Tryz.ajo (w:World):(ReflectliteType.method ReflectliteType.elem #[.agg #[.pointer (some ⟨10,71,none⟩)]]).run Tryz.prog w=.ok (.iface 132 (.agg #[.pointer (some ⟨10,69,none⟩)])) w:=by kernel_rfl
theorem Tryz.KP (w:World):(ReflectliteType.relation "Implements" ReflectliteType.implements_ #[.agg #[.pointer (some ⟨10,69,none⟩)],.iface 132 (.agg #[.pointer (some ⟨10,42,none⟩)])]).run Tryz.prog w=.ok (.bool true) w:=by kernel_rfl
theorem Tryz.ac7 (v:Value) (w:World):(ReflectliteType.typeOf #[.iface 69 v]).run Tryz.prog w=.ok (.iface 132 (.agg #[.pointer (some ⟨10,69,none⟩)])) w:=by kernel_rfl
theorem Tryz.KQ (w:World):(ReflectliteType.relation "AssignableTo" ReflectliteType.assignableTo #[.agg #[.pointer (some ⟨10,69,none⟩)],.iface 132 (.agg #[.pointer (some ⟨10,69,none⟩)])]).run Tryz.prog w=.ok (.bool true) w:=by kernel_rfl
theorem Tryz.aar (e:Addr) (w:World):(ReflectliteValue.unpack (.iface 69 (.pointer (some e)))).run Tryz.prog w
  =.ok (.agg #[.pointer (some ⟨10,69,none⟩),.pointer (some ⟨w.heap.size,0,none⟩),.int .u64 150]) (w.alloc (.cells #[.pointer (some e)] 69)):=by kernel_rfl
theorem Tryz.aas (w:World):(Rtype.elem? 71).run Tryz.prog w=.ok (some 69) w:=by kernel_rfl
theorem Tryz.mkP (p:Addr) (w:World):(ReflectliteValue.mk 69 p ReflectliteValue.flagAddr).run Tryz.prog w=.ok (.agg #[.pointer (some ⟨10,69,none⟩),.pointer (some p),.int .u64 406]) w:=by kernel_rfl
theorem Tryz.ac8 (a p:Addr) (W:World) (ha:W.cell? a=some (.pointer (some p))):
  (ReflectliteValue.method (ReflectliteValue.valueError "reflectlite.Value.Elem" 0) ReflectliteValue.elem #[.agg #[.pointer (some ⟨10,71,none⟩),.pointer (some a),.int .u64 150]]).run Tryz.prog W
   =.ok (.agg #[.pointer (some ⟨10,69,none⟩),.pointer (some p),.int .u64 406]) W:=by
 rw[rlm];simp only[Sem.run_bind,Tryz.Sr,Result.andThen]
 simp[ReflectliteValue.elem,loadVar,isAgg,underlying,Tryz.underlying71,ha,Result.andThen,Tryz.aas,Tryz.mkP]
theorem rls (v x:Value):ReflectliteValue.set #[v,x]=(do
  let (some (dst,a,fl),some (src,b,_)):=(←ReflectliteValue.parts v,←ReflectliteValue.parts x)
   |unsupported (.noEntry "extern/(internal/reflectlite.Value).Set.zeroValue")
  if fl/ReflectliteValue.flagAddr % 2==0 then unsupported (.noEntry "extern/(internal/reflectlite.Value).Set.unaddressable")
  let val←loadVar src b
  if←Rtype.directlyAssignable dst src then storeVar dst a val
  else if←Rtype.implements dst src then
   if(←Rtype.kind src)==20 then
    match val with
    |.nilIface=>unsupported (.noEntry "extern/reflectlite: a nil value of one interface type handed on as a value of another")
    |_=>storeVar dst a val
   else storeVar dst a (.iface src val)
  else panicString ("reflectlite.Set: value of type " ++(←Rtype.spelt src)++ " is not assignable to type " ++(←Rtype.spelt dst))
  pure (.tuple #[])):=rfl
theorem Tryz.ac9 (a:Addr) (w:World):(ReflectliteValue.parts (.agg #[.pointer (some ⟨10,69,none⟩),.pointer (some a),.int .u64 406])).run Tryz.prog w=.ok (some (69,a,406)) w:=by kernel_rfl
theorem Tryz.ajp (a:Addr) (w:World):(ReflectliteValue.parts (.agg #[.pointer (some ⟨10,69,none⟩),.pointer (some a),.int .u64 150])).run Tryz.prog w=.ok (some (69,a,150)) w:=by kernel_rfl
theorem Tryz.ac_ (w:World):(Rtype.directlyAssignable 69 69).run Tryz.prog w=.ok true w:=by kernel_rfl
theorem Tryz.aqg (ta b e:Addr) (old:Value) (W:World) (hb:W.cell? b=some (.pointer (some e))) (ht:W.cell? ta=some old) (hf:W.frozen? ta=false):
  (ReflectliteValue.set #[.agg #[.pointer (some ⟨10,69,none⟩),.pointer (some ta),.int .u64 406],.agg #[.pointer (some ⟨10,69,none⟩),.pointer (some b),.int .u64 150]]).run Tryz.prog W
   =.ok (.tuple #[]) (W.setCell ta (.pointer (some e))):=by
 rw[rls];simp only[Sem.run_bind,Tryz.ac9,Tryz.ajp,Result.andThen]
 simp[ReflectliteValue.flagAddr,loadVar,isAgg,underlying,Tryz.underlying69,hb,Result.andThen,Tryz.ac_,storeVar,Value.cells,storeCells,Addr.add]
 rw[run_store Tryz.prog W ta _ _ (by rfl)]
 simp[ht,hf]
set_option maxHeartbeats 4000000 in
theorem ajq (e t:Addr) (old:Value) (w:World) (hg:w.cell? ⟨0,0,none⟩=some (.iface 132 (.agg #[.pointer (some ⟨10,42,none⟩)]))) (ht0:w.cell? t=some old) (hf0:w.frozen? t=false):
  Calls Tryz.prog 37 #[.iface 69 (.pointer (some e)),.iface 71 (.pointer (some t))] w fun ev w' =>ev=.returned (.bool true)∧w' =((((w.alloc (.cells #[.pointer (some t)] 71)).alloc (.cells #[.pointer (some ⟨10,71,none⟩),.pointer (some ⟨w.heap.size,0,none⟩),.int .u64 150] 94)).alloc (.cells #[.pointer (some ⟨10,71,none⟩),.pointer (some ⟨w.heap.size,0,none⟩),.int .u64 150] 94)).alloc (.cells #[.pointer (some e)] 69)).setCell t (.pointer (some e)):=by
 have h6:=@run_callFunc_extern Tryz.prog 55 _ (fun args=>ReflectliteValue.unpack (args.getD 0 (.tuple #[]))) Tryz.func55 (by kernel_rfl) (by kernel_rfl) (by kernel_rfl) (by kernel_rfl)
 have h7:=@run_callFunc_extern Tryz.prog 56 _ (ReflectliteValue.methodAny (ReflectliteValue.valueError "reflectlite.Value.Type" 0) (fun t _ _ _=>ReflectliteType.toType t)) Tryz.func56 (by kernel_rfl) (by kernel_rfl) (by kernel_rfl) (by kernel_rfl)
 have h8:=@run_callFunc_extern Tryz.prog 57 _ (ReflectliteValue.method (ReflectliteValue.valueError "reflectlite.Value.IsNil" 0) ReflectliteValue.isNil) Tryz.func57 (by kernel_rfl) (by kernel_rfl) (by kernel_rfl) (by kernel_rfl)
 have h27:=@run_callFunc_extern Tryz.prog 192 _ (ReflectliteType.abiMethod fun t=>do pure (.int .u8 (←Rtype.kind t))) Tryz.func192 (by kernel_rfl) (by kernel_rfl) (by kernel_rfl) (by kernel_rfl)
 have h37:=@run_callFunc_extern Tryz.prog 204 _ (ReflectliteType.method ReflectliteType.elem) Tryz.func204 (by kernel_rfl) (by kernel_rfl) (by kernel_rfl) (by kernel_rfl)
 have h38:=@run_callFunc_extern Tryz.prog 205 _ (ReflectliteType.relation "Implements" ReflectliteType.implements_) Tryz.func205 (by kernel_rfl) (by kernel_rfl) (by kernel_rfl) (by kernel_rfl)
 have h10:=@run_callFunc_extern Tryz.prog 79 _ ReflectliteType.typeOf Tryz.func79 (by kernel_rfl) (by kernel_rfl) (by kernel_rfl) (by kernel_rfl)
 have h35:=@run_callFunc_extern Tryz.prog 202 _ (ReflectliteType.relation "AssignableTo" ReflectliteType.assignableTo) Tryz.func202 (by kernel_rfl) (by kernel_rfl) (by kernel_rfl) (by kernel_rfl)
 have h11:=@run_callFunc_extern Tryz.prog 98 _ (ReflectliteValue.method (ReflectliteValue.valueError "reflectlite.Value.Elem" 0) ReflectliteValue.elem) Tryz.func98 (by kernel_rfl) (by kernel_rfl) (by kernel_rfl) (by kernel_rfl)
 have h12:=@run_callFunc_extern Tryz.prog 99 _ ReflectliteValue.set Tryz.func99 (by kernel_rfl) (by kernel_rfl) (by kernel_rfl) (by kernel_rfl)
 have tO:=Tryz.ac7;have mA:=Tryz.uL;have Vj:=Tryz.KQ;have v25:=Tryz.aar;have f6:=Tryz.TO;have f7:=Tryz.ajm;have mK:=Tryz.Pz;have mE:=Tryz.PA;have mI:=Tryz.xH;have k27:=Tryz.ajn;have k25:=Tryz.anW;have e27:=Tryz.ajo;have i25:=Tryz.KP;have n8:=Tryz.ac6 ⟨w.heap.size,0,none⟩ t ((w.alloc (.cells #[.pointer (some t)] 71)).alloc (.cells #[.pointer (some ⟨10,71,none⟩),.pointer (some ⟨w.heap.size,0,none⟩),.int .u64 150] 94)) (by simp)
 have hlt:0<w.heap.size:=by
  rcases Nat.eq_zero_or_pos w.heap.size with h0|h
  ·simp[World.cell?,h0]at hg
  ·exact h
 have hg2:((w.alloc (.cells #[.pointer (some t)] 71)).alloc (.cells #[.pointer (some ⟨10,71,none⟩),.pointer (some ⟨w.heap.size,0,none⟩),.int .u64 150] 94)).cell? ⟨0,0,none⟩=some (.iface 132 (.agg #[.pointer (some ⟨10,42,none⟩)])):=by
  rw[World.cell?_alloc_lt _ _ ⟨0,0,none⟩ (by simp),World.cell?_alloc_lt _ _ ⟨0,0,none⟩ hlt];exact hg
 have htl:t.block<w.heap.size:=by
  rcases Nat.lt_or_ge t.block w.heap.size with h|h
  ·exact h
  ·simp[World.cell?,Array.getElem?_eq_none h]at ht0
 have el:=Tryz.ac8 ⟨w.heap.size,0,none⟩ t (((w.alloc (.cells #[.pointer (some t)] 71)).alloc (.cells #[.pointer (some ⟨10,71,none⟩),.pointer (some ⟨w.heap.size,0,none⟩),.int .u64 150] 94)).alloc (.cells #[.pointer (some ⟨10,71,none⟩),.pointer (some ⟨w.heap.size,0,none⟩),.int .u64 150] 94)) (by rw[World.cell?_alloc_lt _ _ ⟨w.heap.size,0,none⟩ (by simp;omega)];simp)
 have st:=Tryz.aqg t ⟨w.heap.size+1+1+1,0,none⟩ e old ((((w.alloc (.cells #[.pointer (some t)] 71)).alloc (.cells #[.pointer (some ⟨10,71,none⟩),.pointer (some ⟨w.heap.size,0,none⟩),.int .u64 150] 94)).alloc (.cells #[.pointer (some ⟨10,71,none⟩),.pointer (some ⟨w.heap.size,0,none⟩),.int .u64 150] 94)).alloc (.cells #[.pointer (some e)] 69))
  (by rw[World.cell?_alloc_at _ _ _ _ (by simp)];rfl)
  (by rw[World.cell?_alloc_lt _ _ t (by simp;omega),World.cell?_alloc_lt _ _ t (by simp;omega),World.cell?_alloc_lt _ _ t (by simp;omega),World.cell?_alloc_lt _ _ t htl];exact ht0)
  (by rw[World.frozen?_alloc_old _ _ t (by simp;omega),World.frozen?_alloc_old _ _ t (by simp;omega),World.frozen?_alloc_old _ _ t (by simp;omega),World.frozen?_alloc_old _ _ t (Nat.ne_of_lt htl)];exact hf0)
 go_enter Tryz.func37,Tryz.ntmps37
 go_wp2
 refine wp_loop_rounds 1 ?_
 rw[rounds_succ]
 go_wp2
 go_ret
 exact⟨rfl,rfl⟩
end Go.Proofs.YtaielgjmhbjfhaaGreatDoor
namespace Go.Proofs.YtaielgjmhbjfhaaGreatDoor
open Go.RowKit Go.Extern.Stop Go.Stop Go.Extern
theorem Tryz.CI (v:Value) (w:World):(Extern.ReflectliteType.typeOf #[.iface 67 v]).run Tryz.prog w=.ok (.iface 132 (.agg #[.pointer (some ⟨10,67,none⟩)])) w:=by kernel_rfl
def mX:TypeId→Sem Value:=fun t=>do Rtype.noPackHeld "Comparable" t;pure (.bool (←typeInfo t).comparable)
theorem Tryz.pX (w:World):(Extern.ReflectliteType.method mX #[.agg #[.pointer (some ⟨10,67,none⟩)]]).run Tryz.prog w=.ok (.bool true) w:=by kernel_rfl
theorem Tryz.jf (v:Value) (w:World):(Go.method 361 132 v "Comparable").run Tryz.prog w=.ok (203,v) w:=by kernel_rfl
theorem Tryz.aat (v:Value) (xT:TypeId) (w:World):(Instr.typeAssert (.iface 67 v) xT 158 true).run Tryz.prog w=.ok (.tuple #[.nilIface,.bool false]) w:=run_typeAssert_lacksB Tryz.underlying158 (by kernel_rfl) (by kernel_rfl) v xT w
theorem Tryz.xI (v:Value) (xT:TypeId) (w:World):(Instr.typeAssert (.iface 67 v) xT 139 true).run Tryz.prog w=.ok (.tuple #[.nilIface,.bool false]) w:=run_typeAssert_lacksB Tryz.underlying139 (by kernel_rfl) (by kernel_rfl) v xT w
theorem Tryz.uM (v:Value) (xT:TypeId) (w:World):(Instr.typeAssert (.iface 67 v) xT 141 true).run Tryz.prog w=.ok (.tuple #[.nilIface,.bool false]) w:=run_typeAssert_lacksB Tryz.underlying141 (by kernel_rfl) (by kernel_rfl) v xT w
theorem Tryz.aau (v:Value) (xT:TypeId) (w:World):(Instr.typeAssert (.iface 69 v) xT 158 true).run Tryz.prog w=.ok (.tuple #[.nilIface,.bool false]) w:=run_typeAssert_lacksB Tryz.underlying158 (by kernel_rfl) (by kernel_rfl) v xT w
theorem Tryz.uN (v:Value) (xT:TypeId) (w:World):(Instr.typeAssert (.iface 69 v) xT 139 true).run Tryz.prog w=.ok (.tuple #[.iface 69 v,.bool true]) w:=run_typeAssert_hasB Tryz.underlying139 (by kernel_rfl) v xT w
theorem Tryz.pY (v:Value) (w:World):(Go.method 361 69 v "Unwrap").run Tryz.prog w=.ok (197,v) w:=by kernel_rfl
theorem Tryz.EH (c c' :Int) (w:World):(binOp .eql 42 (.iface 67 (.int .i64 c)) (.iface 67 (.int .i64 c'))).run Tryz.prog w=.ok (.bool (c==c')) w:=by kernel_rfl
set_option maxHeartbeats 4000000 in
theorem ajr (b o:Nat) (c c' :Int) (w:World) (h2:w.cell? ⟨b,o+2,none⟩=some (.int .i64 c)) (h3:w.cell? ⟨b,o+3,none⟩=some .nilIface):
  Calls Tryz.prog 46 #[.iface 69 (.pointer (some ⟨b,o,none⟩)),.iface 67 (.int .i64 c')] w fun e w' =>e=.returned (.bool (c==c'))∧w' =w:=by
 have h8:=@run_callFunc_extern Tryz.prog 79 _ Extern.ReflectliteType.typeOf Tryz.func79 (by kernel_rfl) (by kernel_rfl) (by kernel_rfl) (by kernel_rfl)
 have h32:=@run_callFunc_extern Tryz.prog 203 _ (Extern.ReflectliteType.method mX) Tryz.func203 (by kernel_rfl) (by kernel_rfl) (by kernel_rfl) (by kernel_rfl)
 have tT:=Tryz.CI;have cT:=Tryz.pX;have mR:=Tryz.jf;have nE:=Tryz.aat;have uE:=Tryz.xI;have vE:=Tryz.uM;have nW:=Tryz.aau;have uW:=Tryz.uN;have mU:=Tryz.pY;have hty:=run_eql_iface_types (P:=Tryz.prog) 69 67 (.pointer (some ⟨b,o,none⟩)) (.int .i64 c') Tryz.underlying42 (by decide) w
 by_cases hcc:c=c'
 ·subst hcc
  have hee:=Tryz.EH c c w
  rw[show(c==c)=true by simp]at hee⊢
  go_enter Tryz.func46,Tryz.ntmps46
  go_wp2
  refine wp_loop_rounds 2 ?_
  rw[rounds_succ]
  go_wp2
  rw[rounds_succ]
  go_wp2
  go_ret
  exact⟨rfl,rfl⟩
 ·have hee:=Tryz.EH c c' w
  rw[show(c==c')=false by simpa using hcc]at hee⊢
  go_enter Tryz.func46,Tryz.ntmps46
  go_wp2
  refine wp_loop_rounds 2 ?_
  rw[rounds_succ]
  go_wp2
  rw[rounds_succ]
  go_wp2
  go_ret
  exact⟨rfl,rfl⟩
set_option maxHeartbeats 8000000 in
theorem ada (b0 o0:Nat) (b1 o1:Nat) (c c' :Int) (w:World) (h50:w.cell? ⟨b0,o0+3,none⟩=some (.iface 69 (.pointer (some ⟨b1,o1,none⟩)))) (h2:w.cell? ⟨b1,o1+2,none⟩=some (.int .i64 c)) (h3:w.cell? ⟨b1,o1+3,none⟩=some .nilIface):
  Calls Tryz.prog 46 #[.iface 69 (.pointer (some ⟨b0,o0,none⟩)),.iface 67 (.int .i64 c')] w fun e w' =>e=.returned (.bool (c==c'))∧w' =w:=by
 have h8:=@run_callFunc_extern Tryz.prog 79 _ Extern.ReflectliteType.typeOf Tryz.func79 (by kernel_rfl) (by kernel_rfl) (by kernel_rfl) (by kernel_rfl)
 have h32:=@run_callFunc_extern Tryz.prog 203 _ (Extern.ReflectliteType.method mX) Tryz.func203 (by kernel_rfl) (by kernel_rfl) (by kernel_rfl) (by kernel_rfl)
 have tT:=Tryz.CI;have cT:=Tryz.pX;have mR:=Tryz.jf;have nE:=Tryz.aat;have uE:=Tryz.xI;have vE:=Tryz.uM;have nW:=Tryz.aau;have uW:=Tryz.uN;have mU:=Tryz.pY;have hty0:=run_eql_iface_types (P:=Tryz.prog) 69 67 (.pointer (some ⟨b0,o0,none⟩)) (.int .i64 c') Tryz.underlying42 (by decide) w
 have hty1:=run_eql_iface_types (P:=Tryz.prog) 69 67 (.pointer (some ⟨b1,o1,none⟩)) (.int .i64 c') Tryz.underlying42 (by decide) w
 by_cases hcc:c=c'
 ·subst hcc
  have hee:=Tryz.EH c c w
  rw[show(c==c)=true by simp]at hee⊢
  go_enter Tryz.func46,Tryz.ntmps46
  go_wp2
  refine wp_loop_rounds 3 ?_
  rw[rounds_succ]
  go_wp2
  rw[rounds_succ]
  go_wp2
  rw[rounds_succ]
  go_wp2
  go_ret
  exact⟨rfl,rfl⟩
 ·have hee:=Tryz.EH c c' w
  rw[show(c==c')=false by simpa using hcc]at hee⊢
  go_enter Tryz.func46,Tryz.ntmps46
  go_wp2
  refine wp_loop_rounds 3 ?_
  rw[rounds_succ]
  go_wp2
  rw[rounds_succ]
  go_wp2
  rw[rounds_succ]
  go_wp2
  go_ret
  exact⟨rfl,rfl⟩
set_option maxHeartbeats 8000000 in
theorem adb (b0 o0:Nat) (b1 o1:Nat) (b2 o2:Nat) (c c' :Int) (w:World) (h50:w.cell? ⟨b0,o0+3,none⟩=some (.iface 69 (.pointer (some ⟨b1,o1,none⟩)))) (h51:w.cell? ⟨b1,o1+3,none⟩=some (.iface 69 (.pointer (some ⟨b2,o2,none⟩)))) (h2:w.cell? ⟨b2,o2+2,none⟩=some (.int .i64 c)) (h3:w.cell? ⟨b2,o2+3,none⟩=some .nilIface):
  Calls Tryz.prog 46 #[.iface 69 (.pointer (some ⟨b0,o0,none⟩)),.iface 67 (.int .i64 c')] w fun e w' =>e=.returned (.bool (c==c'))∧w' =w:=by
 have h8:=@run_callFunc_extern Tryz.prog 79 _ Extern.ReflectliteType.typeOf Tryz.func79 (by kernel_rfl) (by kernel_rfl) (by kernel_rfl) (by kernel_rfl)
 have h32:=@run_callFunc_extern Tryz.prog 203 _ (Extern.ReflectliteType.method mX) Tryz.func203 (by kernel_rfl) (by kernel_rfl) (by kernel_rfl) (by kernel_rfl)
 have tT:=Tryz.CI;have cT:=Tryz.pX;have mR:=Tryz.jf;have nE:=Tryz.aat;have uE:=Tryz.xI;have vE:=Tryz.uM;have nW:=Tryz.aau;have uW:=Tryz.uN;have mU:=Tryz.pY;have hty0:=run_eql_iface_types (P:=Tryz.prog) 69 67 (.pointer (some ⟨b0,o0,none⟩)) (.int .i64 c') Tryz.underlying42 (by decide) w
 have hty1:=run_eql_iface_types (P:=Tryz.prog) 69 67 (.pointer (some ⟨b1,o1,none⟩)) (.int .i64 c') Tryz.underlying42 (by decide) w
 have hty2:=run_eql_iface_types (P:=Tryz.prog) 69 67 (.pointer (some ⟨b2,o2,none⟩)) (.int .i64 c') Tryz.underlying42 (by decide) w
 by_cases hcc:c=c'
 ·subst hcc
  have hee:=Tryz.EH c c w
  rw[show(c==c)=true by simp]at hee⊢
  go_enter Tryz.func46,Tryz.ntmps46
  go_wp2
  refine wp_loop_rounds 4 ?_
  rw[rounds_succ]
  go_wp2
  rw[rounds_succ]
  go_wp2
  rw[rounds_succ]
  go_wp2
  rw[rounds_succ]
  go_wp2
  go_ret
  exact⟨rfl,rfl⟩
 ·have hee:=Tryz.EH c c' w
  rw[show(c==c')=false by simpa using hcc]at hee⊢
  go_enter Tryz.func46,Tryz.ntmps46
  go_wp2
  refine wp_loop_rounds 4 ?_
  rw[rounds_succ]
  go_wp2
  rw[rounds_succ]
  go_wp2
  rw[rounds_succ]
  go_wp2
  rw[rounds_succ]
  go_wp2
  go_ret
  exact⟨rfl,rfl⟩
theorem ajs (c:Int) (w:World):Calls Tryz.prog 46 #[.nilIface,.iface 67 (.int .i64 c)] w fun e w' =>e=.returned (.bool false)∧w' =w:=by
 have hn:=run_eql_iface_nil_left (P:=Tryz.prog) w 67 (.int .i64 c) Tryz.underlying42
 go_enter Tryz.func46,Tryz.ntmps46
 go_wp2
 go_ret
 exact⟨rfl,rfl⟩
end Go.Proofs.YtaielgjmhbjfhaaGreatDoor
namespace Go.Proofs.YtaielgjmhbjfhaaGreatDoor
open Go.RowKit Go.Extern.Stop Go.Stop Go.Extern
theorem ajt (v:Value) (w:World):Calls Tryz.prog 37 #[.nilIface,.iface 71 v] w fun e w' =>e=.returned (.bool false)∧w' =w:=by
 go_enter Tryz.func37,Tryz.ntmps37
 go_wp2
 go_ret
 exact⟨rfl,rfl⟩
end Go.Proofs.YtaielgjmhbjfhaaGreatDoor
