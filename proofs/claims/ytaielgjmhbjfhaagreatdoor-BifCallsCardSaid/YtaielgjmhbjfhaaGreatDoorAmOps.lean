/- For BifCalls. -/
import Derived.Test.YtaielgjmhbjfhaaGreatDoorAmRel
import Derived.Deep.MidRow
set_option linter.unusedVariables false
namespace Go.AM
open Go.RowKit
section
variable {B : Nat} {w0 : World} {E : Env} {X : RX} {P : Program}
def dc (B:Nat) (w0:World) (E:Env) (X:RX) (P:Program) (s:Sem Value) (v:AV) (h:Heap):Prop:=
 ∃X' v',s.run P X.w=.ok v' X'.w∧X'.h=h∧Rel B w0 E X' ∧Ext X X' ∧bo X' v v'
theorem dc.same (hR:Rel B w0 E X) {s:Sem Value} {v:AV} {v' :Value} (hs:s.run P X.w=.ok v' X.w) (hv:bo X v v'):dc B w0 E X P s v X.h:=
 ⟨X,v',hs,rfl,hR,Ext.refl X,hv⟩
theorem dc.kO (hR:Rel B w0 E X) {v:AV} {v' :Value} (hv:bo X v v'):dc B w0 E X P (pure v') v X.h:=dc.same hR rfl hv
theorem bo.aby {v:AV} {c:Value} (h:bo X v c):c.oneCell'=v.one:=by cases h<;>rfl
theorem a_.AY:∀{vs:List AV} {cs:List Value},a_ X vs cs→bI vs→∀c∈cs,c.oneCell'=true
 |_,_,.nil,_,_,h=>by cases h
 |_,_,.cons v v' vs vs' hv hvs,h1,c,hc=>by
  cases hc with
  |head=>rw[hv.aby];exact h1 v (by simp)
  |tail _ hc=>exact hvs.AY (fun u hu=>h1 u (by simp[hu])) c hc
theorem bo.row {v:AV} {c:Value} (h:bo X v c) {vs:List AV} (hr:v.row=some vs):a_ X vs c.cells.toList∧bI vs:=by
 have h0:=h;cases h with
 |agg cs cs' h1 hv=>
  simp only[AV.row,bae]at hr;subst hr
  exact⟨by simpa[Value.cells]using hv,h1⟩
 |aF vs vs' hv=>simp[AV.row]at hr
 |_=>
  simp only[AV.row,bae]at hr;subst hr
  exact⟨a_.one h0,by intro v hv;simp at hv;subst hv;rfl⟩
theorem AZ {c:Value} {v:AV} (h:tA c=some v):bo X v c∧v.one=true:=by
 unfold tA at h
 split at h<;>simp only[bae,reduceCtorEq]at h<;>subst h<;>refine⟨?_,rfl⟩
 ·exact .bool _
 ·exact .int _ _
 ·rename_i s
  have:(.string s:Value)=.string ⟨s.data.toList.toArray⟩:=by simp
  rw[this];exact .str _
 ·exact .gC
 ·exact .ax
 ·exact .qt
 ·exact .qk
 ·exact .bL
theorem fZ:∀{cs:List Value} {vs:List AV},cs.mapM tA=some vs→a_ X vs cs∧bI vs
 |[],vs,h=>by simp at h;subst h;exact⟨.nil,fun _ h=>by cases h⟩
 |c::cs,vs,h=>by
  simp only[bbn,bam,bap,bac]at h
  obtain⟨v,hv,r,hr,e⟩:=h
  cases e;obtain⟨h1,h2⟩:=fZ hr
  obtain⟨h3,h4⟩:=AZ (X:=X) hv
  refine⟨.cons _ _ _ _ h3 h1,fun u hu=> ?_⟩
  cases hu with
  |head=>exact h4
  |tail _ hu=>exact h2 u hu
theorem Jj {c:Value} {v:AV} (h:Ff c=some v):bo X v c:=by
 unfold Ff at h
 split at h
 ·rename_i cs
  simp only[bai]at h
  obtain⟨vs,hvs,rfl⟩:=h
  obtain⟨h1,h2⟩:=fZ (X:=X) hvs
  have:=bo.agg vs cs.toList h2 h1
  simpa using this
 ·exact(AZ h).1
structure jN (X:RX) (n:Nat) (σ:ah) (tmps:Array Value):Prop where
 size:n≤tmps.size
 get:∀t,bo X (σ.get t) (tmps.getD t undef)
theorem bo.undef:bo X .undef Go.undef:=by
 have:=bo.aF (X:=X) [] [] .nil
 exact this
theorem jN.ext {X' :RX} (h:Ext X X') {n:Nat} {σ:ah} {tmps:Array Value} (k:jN X n σ tmps):jN X' n σ tmps:=
 ⟨k.size,fun t=>(k.get t).ext h⟩
theorem ah.aa (σ:ah) (d:Nat) (v:AV) (t:Nat):(σ.put d v).get t=if t=d then v else σ.get t:=by
 have h:=Tr.o4 (α:=AV) σ d t (some v)
 unfold ah.get ah.put
 rw[h]
 by_cases ht:t=d
 ·rw[if_pos ht,if_pos ht]
 ·rw[if_neg ht,if_neg ht]
theorem jN.put {n:Nat} {σ:ah} {tmps:Array Value} (k:jN X n σ tmps) {d:Nat} (hd:d<n) {v:AV} {c:Value} (hv:bo X v c):
  jN X n (σ.put d v) (tmps.setIfInBounds d c):=by
 refine⟨by simpa using k.size,fun t=> ?_⟩
 rw[ah.aa]
 by_cases ht:t=d
 ·subst ht
  have hlt:t<tmps.size:=baz hd k.size
  rw[if_pos rfl]
  simpa[Array.getD,hlt]using hv
 ·have hg:(tmps.setIfInBounds d c).getD t Go.undef=tmps.getD t Go.undef:=by
   simp only[bbk,Array.getElem?_setIfInBounds,if_neg (Ne.symm ht)]
  rw[if_neg ht,hg];exact k.get t
theorem bz (hR:Rel B w0 E X) {n:Nat} {σ:ah} {a:Act} (k:jN X n σ a.tmps) {o:Operand} {x:eN} (ht:cC o=some x) {v:AV} (hv:E.eM σ x=some v):
  bo X v (a.eval o):=by
 cases o with
 |tmp t=>simp only[cC,bae]at ht;subst ht;simp only[Env.eM,bae]at hv;subst hv;exact k.get t
 |const c=>
  simp only[cC,bai]at ht
  obtain⟨u,hu,rfl⟩:=ht
  simp only[Env.eM,bae]at hv
  subst hv;exact Jj hu
 |global g=>
  simp only[cC,bae]at ht;subst ht
  simp only[Env.eM,bai]at hv
  obtain⟨cs,hcs,rfl⟩:=hv
  exact hR.jn g cs hcs
 |func f=>
  simp only[cC,bae]at ht;subst ht
  simp only[Env.eM,bae]at hv;subst hv
  exact .fn (.func f) [] [] [] [] .nil .nil
theorem qs (hR:Rel B w0 E X) {n:Nat} {σ:ah} {a:Act} (k:jN X n σ a.tmps):∀{l:List Operand} {xs:List eN},l.mapM cC=some xs→∀{vs:List AV},E.nV σ xs=some vs→
  a_ X vs (l.map a.eval)
 |[],xs,ht,vs,hv=>by simp at ht;subst ht;simp only[Env.nV,bae]at hv;subst hv;exact .nil
 |o::l,xs,ht,vs,hv=>by
  simp only[bbn,bam,bap,bac]at ht
  obtain⟨x,hx,r,hr,e⟩:=ht
  cases e;simp only[Env.nV,jac]at hv
  obtain⟨v,hv,ws,hws,rfl⟩:=hv
  exact .cons _ _ _ _ (bz hR k hx hv) (qs hR k hr hws)
theorem lI {t:TypeId} {sz:Nat} (h:cZ P t=some sz):∃i,P.info? t=some i∧i.size=sz:=by
 simpa[cZ]using h
theorem qI {t:TypeId} {sz:Nat} (h:pg P t=some sz):∃i,P.info? t=some i∧i.bytes=sz:=by
 simpa[pg]using h
theorem jT {t:TypeId} {agg:Bool} (h:sT P t=some agg) (w:World):(isAgg t).run P w=.ok agg w:=by
 unfold sT at h
 cases hu:P.underlying t with
 |none=>rw[hu]at h;cases h
 |some d=>
  rw[hu]at h
  simp only[isAgg,Sem.run_bind,run_underlying hu,Result.andThen_ok]
  cases d<;>simp_all
theorem run_sizeOf {t:TypeId} {sz:Nat} (h:cZ P t=some sz) (w:World):(sizeOf t).run P w=.ok sz w:=by
 obtain⟨i,hi,hs⟩:=lI h
 simp[sizeOf,typeInfo,hi,hs]
theorem e_ (b o j:Nat):(⟨b,o,none⟩:Addr).add j=⟨b,o+j,none⟩:=by
 unfold Addr.add
 split
 ·simp_all
 ·rfl
theorem yI {t:TypeId} {sz:Nat} (ha:sT P t=some true) (hs:cZ P t=some sz) (w:World) (b o:Nat) {cs:List Value} (hl:cs.length=sz)
  (hc:gv w b o cs):(loadVar t ⟨b,o,none⟩).run P w=.ok (.agg cs.toArray) w:=by
 have h:=run_loadCells_list (P:=P) w ⟨b,o,none⟩ cs (fun j v hv=>by rw[e_];exact hc j v hv)
 subst hl;simp[loadVar,jT ha,run_sizeOf hs,h]
theorem yJ {t:TypeId} (ha:sT P t=some false) (w:World) (a:Addr) {v:Value} (hc:w.cell? a=some v):(loadVar t a).run P w=.ok v w:=by
 simp[loadVar,jT ha,hc]
theorem yd.at {p:Place} {cs:List AV} (h:yd X p cs) (off:Nat):∃vs,a_ X (cs.drop off) vs∧gv X.w p.b (p.o+off) vs:=by
 obtain⟨⟨arr,T,fz,h1,h2,h3,h4,h5⟩,_⟩:=h
 refine⟨_,h5.drop off,fun i v hv=> ?_⟩
 rw[cell_of_row X.w p.b _ arr T fz h1];simp only[List.getElem?_drop,List.getElem?_take]at hv
 split at hv
 ·simp only[Array.getElem?_toList]at hv
  rw[←hv];congr 1;omega
 ·cases hv
theorem gv.take {w:World} {b o:Nat} {vs:List Value} (h:gv w b o vs) (n:Nat):gv w b o (vs.take n):=fun i v hv=>by
 rw[List.getElem?_take]at hv
 split at hv
 ·exact h i v hv
 ·cases hv
theorem gv.drop {w:World} {b o:Nat} {vs:List Value} (h:gv w b o vs) (n:Nat):gv w b (o+n) (vs.drop n):=fun i v hv=>by
 rw[List.getElem?_drop]at hv
 rw[Nat.add_assoc];exact h (n+i) v hv
theorem mq {t:TypeId} {agg:Bool} {sz:Nat} (ha:sT P t=some agg) (hs:cZ P t=some sz) {b o:Nat} {cs:List AV} {vs:List Value}
  (hvs:a_ X cs vs) (bcj:bI cs) (hc:gv X.w b o vs) {v:AV} (h:bp agg sz cs=some v):
  ∃v',(loadVar t ⟨b,o,none⟩).run P X.w=.ok v' X.w∧bo X v v' :=by
 cases agg with
 |true=>
  simp only[bp]at h
  split at h
  ·rename_i hle
   cases h;refine⟨_,yI ha hs X.w b o (cs:=vs.take sz) ?_ (hc.take sz),.agg _ _ (bcj.take sz) (hvs.take sz)⟩
   rw[bbg,←hvs.length];omega
  ·cases h
 |false=>
  simp only[bp]at h
  obtain⟨c,hc',hv⟩:=hvs.get (i:=0) (v:=v) (by cases cs<;>simp_all)
  exact⟨c,yJ ha X.w _ (by simpa using hc 0 c hc'),hv⟩
theorem U0 (hR:Rel B w0 E X) {t:TypeId} {agg:Bool} {sz:Nat} (ha:sT P t=some agg) (hs:cZ P t=some sz) {x:AV} {c:Value} (hx:bo X x c)
  {r:cB} (h:bg X.h agg sz x=some r):dc B w0 E X P (Instr.loadAt t c) r.v r.h:=by
 cases hx with
 |ptr id gen off a hid mn=>
  simp only[bg,jac]at h
  obtain⟨cs,hcs,v,hv,rfl⟩:=h
  have hl:=Heap.gY hcs
  obtain⟨vs,h1,h2⟩:=(hR.obj id _ hl).at off
  obtain⟨v',hv',hr⟩:=mq (P:=P) ha hs h1 ((hR.obj id _ hl).one.drop off) h2 hv
  have e:=(mn _ hl).2 rfl
  subst e;exact dc.same hR (by simpa[Instr.loadAt,Instr.sureAddr]using hv') hr
 |fp cells b o vs hst hat h1 hvs=>
  simp only[bg,bai]at h
  obtain⟨v,hv,rfl⟩:=h
  obtain⟨v',hv',hr⟩:=mq (P:=P) ha hs hvs h1 hat hv
  exact dc.same hR (by simpa[Instr.loadAt,Instr.sureAddr]using hv') hr
 |_=>simp[bg]at h
theorem CX.frozen {w:World} {g:Nat} {cur:Array Value} {T:TypeId} {fz:Nat×Nat} (hg:w.heap[g]? =some (.cells cur T fz)) (hb:CX cur.size fz) {k:Nat} (hk:k<cur.size):
  w.frozen? ⟨g,k,none⟩=false:=by
 obtain⟨lo,hi⟩:=fz
 simp only[World.frozen?,hg,Bool.and_eq_false_iff,decide_eq_false_iff_not]
 rcases hb with e|e
 ·cases e;right;omega
 ·dsimp only at e;left;omega
theorem iG (g o:Nat) (T:TypeId) (fz:Nat×Nat):∀(vs:List Value) (i:Nat) (cur:Array Value) (w:World),w.heap[g]? =some (.cells cur T fz)→CX cur.size fz→
  o+i+vs.length≤cur.size→(∀v∈vs,v.oneCell'=true)→
  (storeCells ⟨g,o,none⟩ vs i).run P w=.ok () (w.setRow g (cur.toList.take (o+i)++vs++cur.toList.drop (o+i+vs.length)).toArray)
 |[],i,cur,w,hg,_,_,_=>by
  simp only[storeCells,bbj,List.length_nil,Nat.add_zero,List.take_append_drop,Array.toArray_toList]
  rw[setRow_self w g cur T fz hg];rfl
 |v::rest,i,cur,w,hg,hfz,hl,h1=>by
  have hi:o+i<cur.size:=by simp at hl;omega
  have bcl:w.cell? ⟨g,o+i,none⟩=some cur[o+i]:=by simp[World.cell?,hg,hi]
  have hfro:=hfz.frozen hg hi
  have hst:(store ((⟨g,o,none⟩:Addr).add i) v).run P w=.ok () (w.setRow g (cur.setIfInBounds (o+i) v)):=by
   rw[e_,run_store P w _ v _ (h1 v (by simp)),bcl]
   simp[hfro,setCell_eq_setRow w g (o+i) cur T fz v hg]
  have ih:=iG g o T fz rest (i+1) (cur.setIfInBounds (o+i) v) (w.setRow g (cur.setIfInBounds (o+i) v)) (setRow_heap w g cur _ T _ hg) (by simpa using hfz)
   (by simp at hl⊢;omega) (fun x hx=>h1 x (by simp[hx]))
  simp only[storeCells,Sem.run_bind,hst,Result.andThen_ok,ih,setRow_setRow]
  congr 3
  have e:=list_seg_step cur.toList (o+i) v rest (by simp at hl⊢;omega)
  simpa[Array.toList_setIfInBounds,Nat.add_assoc]using e
theorem mr (w:World) (g:Nat) (cs:Array Value):Jd g w (w.setRow g cs):=
 ⟨rfl,rfl,rfl,by simp[World.setRow],fun k _ hne=>by simp only[World.setRow,Array.getElem?_modify,if_neg (Ne.symm hne)]⟩
theorem lJ (hR:Rel B w0 E X) {id:Nat} {o:SA} (hl:X.h.look id=some o) {off:Nat} {new:List AV} {news:List Value} (hn:a_ X new news) (h1:bI new)
  (bcb:off+new.length≤o.cells.length):
  ∃X',(storeCells ⟨(X.ρ id).b,(X.ρ id).o+off,none⟩ news).run P X.w=.ok () X'.w∧X'.h=X.h.cD id o.gen (bU o.cells off new)∧Rel B w0 E X' ∧Ext X X' ∧X'.ρ=X.ρ:=by
 have hO:=hR.obj id o hl
 obtain⟨⟨arr,T,fz,ha,hb,hc,hd,he⟩,bcj⟩:=hO
 have hlen:=hn.length;have bbz:=iG (P:=P) (X.ρ id).b ((X.ρ id).o+off) T fz news 0 arr X.w ha (by rw[hb];exact hd) (by omega) (hn.AY h1)
 simp only[Nat.add_zero]at bbz
 have bcu:=setRow_heap X.w (X.ρ id).b arr (arr.toList.take ((X.ρ id).o+off)++news++arr.toList.drop ((X.ρ id).o+off+news.length)).toArray T fz ha
 have hsz:(arr.toList.take ((X.ρ id).o+off)++news++arr.toList.drop ((X.ρ id).o+off+news.length)).toArray.size=arr.size:=by
  simp;omega
 have hsp:(bU o.cells off new).length=o.cells.length:=by simp[bU];omega
 refine⟨X.cD _ id o.gen (bU o.cells off new) (X.ρ id),bbz,rfl,?_,Ext.cD hR hl (mr _ _ _) (bab _) (fun _=>rfl) (.inl rfl),?_⟩
 ·refine Rel.cD hR hl (mr _ _ _) (bab _) (fun _=>rfl) (.inl rfl) (bcj.bU h1 off) bcu (hsz.trans hb) hd (by rw[hsp];exact hc) ?_
  have hs:=he.bU hn off
  rw[hsp];have hl2:o.cells.length≤arr.size-(X.ρ id).o:=by omega
  have e:List.take o.cells.length (List.drop (X.ρ id).o (arr.toList.take ((X.ρ id).o+off)++news++arr.toList.drop ((X.ρ id).o+off+news.length)).toArray.toList)
    =List.take off (List.take o.cells.length (List.drop (X.ρ id).o arr.toList))++news++List.drop (off+news.length) (List.take o.cells.length (List.drop (X.ρ id).o arr.toList)):=by
   apply List.ext_getElem?
   intro k;simp only[List.getElem?_take,List.getElem?_drop,List.getElem?_append,ban,bbg,bbl,bbo,Nat.min_def]
   repeat' split
   all_goals first
    |rfl
    |(exfalso;omega)
    |(congr 1;omega)
    |(simp only[List.getElem?_eq_none_iff,bbo];omega)
    |(symm;simp only[List.getElem?_eq_none_iff,bbo];omega)
  rw[e];exact hs
 ·funext k
  simp only[RX.cD]
  by_cases hk:k=id
  ·rw[if_pos hk,hk]
  ·rw[if_neg hk]
end
end Go.AM
