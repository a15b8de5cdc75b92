/- For BifCalls. -/
import Derived.Test.YtaielgjmhbjfhaaGreatDoorAmOps
import Derived.Laws.StructEq
set_option linter.unusedVariables false
namespace Go.AM
open Go.RowKit
section
variable {B : Nat} {w0 : World} {E : Env} {X : RX} {P : Program}
def abl (B:Nat) (w0:World) (E:Env) (X:RX) (P:Program) (s:Sem Unit) (h:Heap):Prop:=
 ∃X',s.run P X.w=.ok () X'.w∧X'.h=h∧Rel B w0 E X' ∧Ext X X'
theorem gK (w:World) (o:Obj):Below w.heap.size w (w.alloc o):=(Below.refl _ _).alloc (bab _) o
theorem gy (w:World) (o:Obj):Below w.heap.size w (w.drew.alloc o):=((Below.refl _ _).drew).alloc (bab _) o
theorem iN (w:World) (o:Obj):(w.alloc o).heap[w.heap.size]? =some o:=heap_alloc_new w o
theorem dc.Jg (hR:Rel B w0 E X) {s:Sem Value} {w' :World} {cs:List AV} {b:Nat} (hb:Below X.w.heap.size X.w w') (hbn:X.w.heap.size≤b) (h1:bI cs)
  {arr:Array Value} {T:TypeId} {fz:Nat×Nat} (hat:w'.heap[b]? =some (.cells arr T fz)) (hfz:CX arr.size fz) (hle:cs.length≤arr.size)
  (hvs:a_ X cs (arr.toList.take cs.length)) {v:AV} {v' :Value} (bbz:s.run P X.w=.ok v' w')
  (hv:bo (X.new w' cs b arr.size) v v'):dc B w0 E X P s v (X.h.new cs):=
 ⟨X.new w' cs b arr.size,v',bbz,rfl,hR.new hb hbn h1 hat hfz hle hvs,Ext.new hR hb cs hbn arr.size,hv⟩
theorem bo.U1 (w' :World) (cs:List AV) (b n:Nat):bo (X.new w' cs b n) (.ptr X.h.next 0 0) (.pointer (some ⟨b,0,none⟩)):=by
 refine .ptr _ _ _ _ (Nat.lt_succ_self _) fun o ho=> ?_
 have hr:(X.new w' cs b n).ρ X.h.next=⟨b,0,n⟩:=if_pos rfl
 simp only[RX.new,Heap.gx,↓reduceIte,bae]at ho
 subst ho;rw[hr];exact⟨bab _,fun _=>rfl⟩
theorem bo.DU (w' :World) (cs:List AV) (b n sz len c:Nat) (cap:Option Nat) (hlen:len≤c) (r9:∀k,cap=some k→c=k) (bcb:c*sz≤n) (hend:cap=none→c*sz=n):
  bo (X.new w' cs b n) (.sl X.h.next 0 0 sz len cap) (.slice (some ⟨b,0,none⟩) len c):=by
 refine .sl _ _ _ _ _ _ _ _ (Nat.lt_succ_self _) hlen r9 fun o ho=> ?_
 have hr:(X.new w' cs b n).ρ X.h.next=⟨b,0,n⟩:=if_pos rfl
 simp only[RX.new,Heap.gx,↓reduceIte,bae]at ho
 subst ho;rw[hr];exact⟨bab _,fun _=>⟨fun _=>rfl,by simpa using bcb,fun e=>by simpa using hend e⟩⟩
theorem Still.new (hR:Rel B w0 E X) {w' :World} (hb:Below X.w.heap.size X.w w') {b:Nat} (hbn:X.w.heap.size≤b) (hlt:b<w'.heap.size):RX.Still {X with w:=w' } b:=
 ⟨hlt,fun hF=>by have:=hR.Lq b hF;omega,fun hO=>by
  rcases hO with⟨id,o,ho,he⟩|⟨k,hk,he⟩
  ·have:=(hR.obj id o ho).lt
   simp only at he
   omega
  ·have:=(bbh.1 (hR.gg k X.h.gg[k].1 X.h.gg[k].2 (bbq hk)).1).1
   simp only at he
   omega⟩
theorem iV {t:TypeId} {zs:List AV} (h:kC P t=some zs):∃i z,P.info? t=some i∧i.zero=some z∧z.cells.toList.mapM tA=some zs:=by
 simp only[kC,bap,bac]at h
 obtain⟨i,hi,z,hz,h⟩:=h
 exact⟨i,z,hi,hz,h⟩
theorem SX (hR:Rel B w0 E X) {t:TypeId} {zs:List AV} (hz:kC P t=some zs):
  dc B w0 E X P (Instr.alloc t true (.tuple #[])) (.ptr X.h.next 0 0) (X.h.new zs):=by
 obtain⟨i,z,hi,hz,hm⟩:=iV hz
 obtain⟨h1,h2⟩:=fZ (X:=X) hm
 have hl:=h1.length;refine dc.Jg hR (gK X.w (.cells z.cells t)) (bab _) h2 (iN X.w _) (.inl rfl) (by simpa using Nat.le_of_eq hl) (by rw[hl,List.take_length];exact h1) ?_ (bo.U1 _ _ _ _)
 simp[Instr.alloc,zeroValue,typeInfo,hi,hz,newVar,newRow]
theorem abv (hR:Rel B w0 E X) {t:TypeId} {v:AV} {c:Value} (hv:bo X v c) {vs:List AV} (hr:v.row=some vs):
  dc B w0 E X P (Instr.box t c) (.ptr X.h.next 0 0) (X.h.new vs):=by
 obtain⟨h1,h2⟩:=hv.row hr
 have hl:=h1.length;refine dc.Jg hR (gK X.w (.cells c.cells t)) (bab _) h2 (iN X.w _) (.inl rfl) (by simpa using Nat.le_of_eq hl) (by rw[hl,List.take_length];exact h1) ?_ (bo.U1 _ _ _ _)
 simp[Instr.box,newVar,newRow]
theorem Fb (hR:Rel B w0 E X) {t:TypeId} {v:AV} {c:Value} (hv:bo X v c) {vs:List AV} (hr:v.row=some vs):
  dc B w0 E X P (Instr.box t c) (.fp vs) X.h:=by
 obtain⟨h1,h2⟩:=hv.row hr
 have hb:=gK X.w (.cells c.cells t)
 refine⟨{X with w:=X.w.alloc (.cells c.cells t)},.pointer (some ⟨X.w.heap.size,0,none⟩),?_,rfl,hR.grow hb,Ext.grow X hb,
  .fp vs _ _ _ (Still.new hR hb (bab _) (by simp)) (fun i u hu=> ?_) h2 (h1.ext (Ext.grow X hb))⟩
 ·simp[Instr.box,newVar,newRow]
 ·simpa[World.cell?_alloc_new]using hu
theorem DV (off:Nat):∀(vs:List Value) (s:Nat) (cs:Array Value),off+s+vs.length≤cs.size→
  ((vs.zipIdx s).foldl (fun(cs:Array Value) (x:Value×Nat)=>cs.setIfInBounds (off+x.2) x.1) cs).toList=cs.toList.take (off+s)++vs++cs.toList.drop (off+s+vs.length)
 |[],s,cs,_=>by simp
 |v::rest,s,cs,h=>by
  have ih:=DV off rest (s+1) (cs.setIfInBounds (off+s) v) (by simp at h⊢;omega)
  simp only[List.zipIdx_cons,List.foldl_cons]
  rw[ih];have e:=list_seg_step cs.toList (off+s) v rest (by simp at h⊢;omega)
  simpa[Array.toList_setIfInBounds,Nat.add_assoc]using e
theorem vk {place:Nat→Option (Nat×Nat)} {n:Nat} {σ:ah} {a:Act} (hR:Rel B w0 E X) (k:jN X n σ a.tmps):
  ∀{parts:List (Nat×Operand)} {ps:List (Nat×Nat×eN)},ph place parts=some ps→∀{l:List (Nat×Nat×AV)},E.parts σ ps=some l→
  ∀{zs rs:List AV} {cs:Array Value},a_ X zs cs.toList→bI zs→bY zs l=some rs→
  ∃cs',Instr.fill place cs (parts.map fun x=>(x.1,a.eval x.2))=some cs' ∧a_ X rs cs'.toList∧bI rs
 |[],ps,ht,l,hl,zs,rs,cs,hz,h1,hf=>by
  simp only[ph,bae]at ht;subst ht
  simp only[Env.parts,bae]at hl;subst hl
  simp only[bY,bae]at hf;subst hf
  exact⟨cs,rfl,hz,h1⟩
 |(i,x)::r,ps,ht,l,hl,zs,rs,cs,hz,h1,hf=>by
  simp only[ph,bam,bap,bac]at ht
  obtain⟨⟨off,sz⟩,hp,y,hy,ps',hps,e⟩:=ht
  cases e;simp only[Env.parts,jac]at hl
  obtain⟨v,hv,l',hl',rfl⟩:=hl
  simp only[bY,bac]at hf
  obtain⟨vs,hvs,hf⟩:=hf
  split at hf
  ·rename_i hc
   obtain⟨hc1,hc2⟩:=hc
   have hrel:=bz hR k hy hv
   obtain⟨r1,r2⟩:=hrel.row hvs
   have hlen:=r1.length;have hzl:=hz.length;simp only[bbo]at hlen hzl
   have hlay:=DV off (a.eval x).cells.toList 0 cs (by simp;omega)
   have bdf:((a.eval x).cells.size≠sz||decide (off+(a.eval x).cells.size>cs.size))=false:=by
    simp;omega
   have hfold:((a.eval x).cells.zipIdx.foldl (fun(cs:Array Value) (x:Value×Nat)=>cs.setIfInBounds (off+x.2) x.1) cs)=
     (((a.eval x).cells.toList.zipIdx 0).foldl (fun(cs:Array Value) (x:Value×Nat)=>cs.setIfInBounds (off+x.2) x.1) cs):=by
    rw[←Array.foldl_toList];simp
   have hz' :a_ X (bU zs off vs) ((a.eval x).cells.zipIdx.foldl (fun(cs:Array Value) (x:Value×Nat)=>cs.setIfInBounds (off+x.2) x.1) cs).toList:=by
    rw[hfold,hlay]
    simpa using hz.bU r1 off
   obtain⟨cs',g1,g2,g3⟩:=vk hR k hps hl' hz' (h1.bU r2 off) hf
   refine⟨cs',?_,g2,g3⟩
   simp only[bba,Instr.fill,hp]
   rw[if_neg (by simpa using bdf)]
   exact g1
  ·cases hf
theorem qc:∀{fs:List Field} {ps:List (Nat×Nat)},kD P fs=some ps→∀w:World,
  (fs.mapM (fun f=>(do pure (f.offset,←sizeOf f.type):Sem (Nat×Nat)))).run P w=.ok ps w
 |[],ps,h,w=>by simp only[kD,bae]at h;subst h;simp
 |f::fs,ps,h,w=>by
  simp only[kD,bam,bap,bac]at h
  obtain⟨s,hs,r,hr,e⟩:=h
  cases e;have ih:=qc hr w
  simp only[bbn,Sem.run_bind,run_sizeOf hs,Result.andThen_ok,Sem.run_pure,ih]
theorem SY (hR:Rel B w0 E X) {n:Nat} {σ:ah} {a:Act} (k:jN X n σ a.tmps) {t:TypeId} {parts:Array (Nat×Operand)} {zero:List AV} {ps:List (Nat×Nat×eN)}
  (ht:uR P t parts=some (.build zero ps)) {l:List (Nat×Nat×AV)} (hl:E.parts σ ps=some l) {cs:List AV} (hf:bY zero l=some cs):
  dc B w0 E X P (Instr.build t (parts.map fun(i,x)=>(i,a.eval x))) (.agg cs) X.h:=by
 simp only[uR,bap,bac]at ht
 obtain⟨zs,hz,d,hd,ht⟩:=ht
 obtain⟨i,z,hi,hz,hm⟩:=iV hz
 obtain⟨h1,h2⟩:=fZ (X:=X) hm
 have hpm:(parts.map fun(i,x)=>(i,a.eval x)).toList=parts.toList.map fun x=>(x.1,a.eval x.2):=by simp
 cases d<;>simp only[reduceCtorEq,bam,jo.build.injEq,jaa]at ht
 ·rename_i len e
  obtain⟨s,hs,ps',hps,rfl,rfl⟩:=ht
  obtain⟨cs',g1,g2,g3⟩:=vk hR k hps hl h1 h2 hf
  refine dc.same hR (v' :=.agg cs') ?_ (by simpa using bo.agg cs cs'.toList g3 g2)
  simp only[Instr.build,Sem.run_bind,zeroValue,typeInfo,run_program,Result.andThen_ok,hi,Sem.run_pure,hz,run_underlying hd,run_sizeOf hs,hpm,g1]
 ·rename_i fields
  obtain⟨pl,hpl,ps',hps,rfl,rfl⟩:=ht
  obtain⟨cs',g1,g2,g3⟩:=vk hR k hps hl h1 h2 hf
  refine dc.same hR (v' :=.agg cs') ?_ (by simpa using bo.agg cs cs'.toList g3 g2)
  have hpr:=qc (P:=P) hpl X.w
  have hmm:(fields.mapM fun f=>(do pure (f.offset,←sizeOf f.type):Sem (Nat×Nat))).run P X.w=.ok pl.toArray X.w:=by
   rw[Array.mapM_eq_mapM_toList];simp only[Sem.run_map,hpr,Result.andThen_ok]
  have g1' :Instr.fill (fun(x:Nat)=>pl.toArray[x]?) z.cells (parts.toList.map fun x=>(x.1,a.eval x.2))=some cs' :=by
   have:(fun(x:Nat)=>pl.toArray[x]?)=fun(x:Nat)=>pl[x]? :=by funext x;simp
   rw[this];exact g1
  simp only[Instr.build,Sem.run_bind,zeroValue,typeInfo,run_program,Result.andThen_ok,hi,Sem.run_pure,hz,run_underlying hd,hmm,hpm,g1']
theorem abw (hR:Rel B w0 E X) {n:Nat} {σ:ah} {a:Act} (k:jN X n σ a.tmps) {fr fr' :Bool} {t:TypeId} {len sz r7 :Nat} {parts:Array (Nat×Operand)} {cells:List AV}
  {ps:List (Nat×Nat×eN)} (ht:It P fr t len parts=some (.lit fr' sz r7 cells ps)) {l:List (Nat×Nat×AV)} (hl:E.parts σ ps=some l) {cs:List AV}
  (hf:bY cells l=some cs) (hn:cs.length=r7 *sz):
  ∃(e:TypeId) (arr:Array Value),a_ X cs arr.toList∧bI cs∧r7 =len∧
   (Instr.buildSlice t len (parts.map fun(i,x)=>(i,a.eval x))).run P X.w=.ok (.slice (some ⟨X.w.heap.size,0,none⟩) len len) (X.w.alloc (.cells arr e)):=by
 unfold It at ht
 split at ht
 case h_2=>cases ht
 rename_i e hd;simp only[bac]at ht
 obtain⟨s,hs,ht⟩:=ht
 split at ht
 ·cases ht
 rename_i bdg;simp only[bac]at ht
 obtain⟨zero,hzero,ht⟩:=ht
 split at ht
 ·cases ht
 rename_i hzl;simp only[bai,jo.lit.injEq]at ht
 obtain⟨ps',hps,rfl,rfl,rfl,rfl,rfl⟩:=ht
 have hpm:(parts.map fun(i,x)=>(i,a.eval x)).toList=parts.toList.map fun x=>(x.1,a.eval x.2):=by simp
 have hZ:∃zc:Array Value,((len*s=0∧zc= #[])∨(len*s≠0∧∃z,(zeroValue e).run P X.w=.ok z X.w∧zc=z.cells))∧
   a_ X (List.replicate len zero).flatten (((Array.range (len*s)).map (zc[· % zc.size]!)).toList)∧bI (List.replicate len zero).flatten:=by
  by_cases h0:len*s=0
  ·rw[if_pos h0]at hzero
   cases hzero;refine⟨#[],.inl ⟨h0,rfl⟩,?_,?_⟩
   ·rw[h0];simp;exact .nil
   ·intro v hv;simp at hv
  ·rw[if_neg h0]at hzero
   obtain⟨i,z,hi,hz,hm⟩:=iV hzero
   obtain⟨h1,h2⟩:=fZ (X:=X) hm
   refine⟨z.cells,.inr ⟨h0,z,by simp[zeroValue,typeInfo,hi,hz],rfl⟩,?_,?_⟩
   ·have hlz:zero.length=s:=by
     apply Decidable.byContradiction
     intro h;exact hzl ⟨h0,h⟩
    have hl1:=h1.length;have hsz:z.cells.size=s:=by simpa[hlz]using hl1.symm
    have hspos:0<s:=Nat.pos_of_ne_zero fun e=>h0 (by rw[e];simp)
    have e1:((Array.range (len*s)).map (z.cells[· % z.cells.size]!)).toList=(List.replicate len z.cells.toList).flatten:=by
     apply List.ext_getElem
     ·simp[hsz]
     ·intro j hj1 hj2
      have hj:j<len*s:=by simpa using hj1
      simp only[Array.toList_map,Array.toList_range,List.getElem_map,List.getElem_range]
      have hmod:j % z.cells.size<z.cells.size:=Nat.mod_lt _ (by omega)
      rw[getElem!_pos z.cells _ hmod];have hfl:(List.replicate len z.cells.toList).flatten[j]? =some (z.cells[j % z.cells.size]):=by
       clear hj2 hj1 hl hps hf hn hm h1 hl1 bdg hzl hd hpm
       have:∀(m j:Nat),j<m*s→(List.replicate m z.cells.toList).flatten[j]? =some (z.cells[j % z.cells.size]'(Nat.mod_lt _ (by omega))):=by
        intro m
        induction m with
        |zero=>intro j h;simp at h
        |succ m ih=>
         intro j h;simp only[List.replicate_succ,List.flatten_cons,List.getElem?_append,bbo]
         split
         ·rename_i hlt
          simp only[Nat.mod_eq_of_lt hlt,Array.getElem?_toList,bbf hlt]
         ·rename_i hge
          have bcz :z.cells.size≤j:=Nat.le_of_not_lt hge
          rw[ih (j-z.cells.size) (by rw[hsz];rw[Nat.succ_mul]at h;omega)]
          congr 2
          exact(Nat.mod_eq_sub_mod bcz).symm
       exact this len j hj
      have:=bbq hj2
      rw[this]at hfl
      simpa using hfl.symm
    rw[e1];exact a_.f_ h1 len
   ·intro v hv
    simp only[List.mem_flatten,List.mem_replicate]at hv
    obtain⟨l',⟨_,rfl⟩,hv⟩:=hv
    exact h2 v hv
 obtain⟨zc,hz1,hz2,hz3⟩:=hZ
 obtain⟨cs',g1,g2,g3⟩:=vk hR k hps hl hz2 hz3 hf
 refine⟨e,cs',g2,g3,rfl,?_⟩
 have hsm:¬(len*s>2^24):=bdg
 rcases hz1 with⟨h0,rfl⟩|⟨h0,z,hz,rfl⟩
 ·simp only[Instr.buildSlice,Sem.run_bind,run_underlying hd,Result.andThen_ok,run_sizeOf hs,if_neg hsm,Sem.run_pure,if_pos h0,hpm,g1,newRow,run_newObj]
  rfl
 ·simp only[Instr.buildSlice,Sem.run_bind,run_underlying hd,Result.andThen_ok,run_sizeOf hs,if_neg hsm,Sem.run_pure,if_neg h0,hpm,hz,g1,newRow,run_newObj]
  rfl
end
end Go.AM
