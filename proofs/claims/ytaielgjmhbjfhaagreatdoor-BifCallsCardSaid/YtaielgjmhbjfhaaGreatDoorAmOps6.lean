/- For BifCalls. -/
import Derived.Test.YtaielgjmhbjfhaaGreatDoorAmOps3
import Derived.Laws.BytesString
import Derived.IntWalk
set_option linter.unusedVariables false
namespace Go.AM
open Go.RowKit
section
variable {B : Nat} {w0 : World} {E : Env} {X : RX} {P : Program}
theorem LA (b:UInt8):bo X (bK b) (.int .u8 b.toNat):=.int _ _
theorem w7:∀(s:List UInt8),a_ X (s.map bK) (s.map fun b=>Value.int .u8 b.toNat)∧bI (s.map bK)
 |[]=>⟨.nil,fun _ h=>by cases h⟩
 |b::s=>by
  obtain⟨h1,h2⟩:=w7 s
  refine⟨.cons _ _ _ _ (LA b) h1,fun v hv=> ?_⟩
  cases hv with
  |head=>rfl
  |tail _ hv=>exact h2 v hv
theorem oc {w:World} {b o:Nat} {vs:List Value} (h:gv w b o vs) {n:Nat} (hl:vs.length=n):(loadCells ⟨b,o,none⟩ n).run P w=.ok vs.toArray w:=by
 subst hl;exact run_loadCells_list (P:=P) w ⟨b,o,none⟩ vs (fun j v hv=>by rw[e_];exact h j v hv)
theorem vm {w w' :World} (h:w'.heap=w.heap) {b o:Nat} {vs:List Value} (hc:gv w b o vs):gv w' b o vs:=fun i v hv=>by
 rw[←hc i v hv];simp only[World.cell?,h]
theorem fF (hR:Rel B w0 E X) {y:AV} {c:Value} (hy:bo X y c) {sz n:Nat} {new:List AV} {k:dB} (h:aT X.h sz n y=some (new,k)):
  ∃news,a_ X new news∧bI new∧new.length=n*sz∧∀w' :World,w'.heap=X.w.heap→(Builtin.firstCells sz n c).run P w' =.ok news.toArray w' :=by
 cases hy with
 |ax=>
  simp only[aT]at h
  split at h
  ·rename_i h0;cases h;exact⟨[],.nil,(fun _ h=>by cases h),by simp[h0],fun w' _=>by simp[Builtin.firstCells]⟩
  ·cases h
 |fs full len cells a m vs hlen bca hat h1 hvs=>
  simp only[aT]at h
  split at h
  ·rename_i hc
   obtain⟨hc1,hc2⟩:=hc
   simp only[bae,baw]at h
   obtain⟨rfl,_⟩:=h
   have hmul:n*sz≤len*sz:=Nat.mul_le_mul_right _ hc1
   refine⟨vs.take (n*sz),hvs.take _,h1.take _,by rw[bbg,hc2];omega,fun w' hw=> ?_⟩
   simp only[Builtin.firstCells]
   by_cases h0:n*sz=0
   ·rw[h0];simp[loadCells,loadCellsFrom]
   ·have hne:cells≠[]:=by rintro rfl;simp at hc2;omega
    obtain⟨b,o,rfl,hst,hca⟩:=hat hne
    exact oc (vm hw (hca.take _)) (by rw[bbg,←hvs.length,hc2];omega)
  ·cases h
 |sl id gen off sz' len cap a m hid hlen r9 mn=>
  simp only[aT]at h
  split at h
  ·rename_i hc
   obtain⟨rfl,hc2⟩:=hc
   simp only[bac]at h
   obtain⟨cs,hcs,h⟩:=h
   split at h
   ·rename_i bcb
    simp only[bae,baw]at h
    obtain⟨rfl,_⟩:=h
    have hl:=Heap.gY hcs
    obtain⟨vs,g1,g2⟩:=(hR.obj id _ hl).at off
    have bch :=g1.length
    simp only[bbl]at bch
    refine⟨vs.take (n*sz'),g1.take _,((hR.obj id _ hl).one.drop off).take _,by simp;omega,fun w' hw=> ?_⟩
    simp only[Builtin.firstCells]
    by_cases h0:n*sz' =0
    ·rw[h0];simp[loadCells,loadCellsFrom]
    ·have bcn:0<n:=Nat.pos_of_ne_zero fun e=>h0 (by rw[e];simp)
     have ha:=((mn _ hl).2 rfl).1 (by omega)
     subst ha;exact oc (vm hw (g2.take _)) (by rw[bbg];omega)
   ·cases h
  ·cases h
 |str s=>
  simp only[aT]at h
  split at h
  ·rename_i hc
   obtain⟨rfl,hc2⟩:=hc
   simp only[bae,baw]at h
   obtain⟨rfl,_⟩:=h
   obtain⟨g1,g2⟩:=w7 (X:=X) (s.take n)
   refine⟨_,g1,g2,by simp;omega,fun w' hw=> ?_⟩
   have he:(⟨s.toArray⟩:ByteArray).extract 0 n=⟨(s.take n).toArray⟩:=by
    apply ByteArray.ext
    simp[ByteArray.data_extract]
   simp[Builtin.firstCells,he]
  ·cases h
 |_=>simp[aT]at h
theorem DW {y:AV} {c:Value} (hy:bo X y c) {n:Nat} (h:cr y=some n) (w:World):(Builtin.lenOf c).run P w=.ok n w:=by
 cases hy<;>simp only[cr,bae,reduceCtorEq]at h<;>subst h<;>simp[Builtin.lenOf,ByteArray.size]
structure SV (P:Program) (t u e:TypeId) (sz bytes:Nat):Prop where
 ht:P.underlying t=some (.slice e)
 hu:P.underlying u=some (.slice e)∨P.underlying u=some .string
 hs:cZ P e=some sz
 hb:pg P e=some bytes
 hz:∃z,kC P e=some z∧z.length=sz
theorem gz (z:Array Value) (n:Nat):(Builtin.zeroCells z n).size=n*z.size:=by simp[Builtin.zeroCells]
theorem qK {t u e ty:TypeId} {sz bytes:Nat} (hT:SV P t u e sz bytes) {base:Option Addr} {len cap n:Nat} {y:Value} (w:World)
  (hly:(Builtin.lenOf y).run P w=.ok n w) (hg:cap<len+n) (hsm:(len+n)*bytes≤70368744177664) (bda :len+n≤70368744177664) {bcd news:List Value}
  (ho:∀w' :World,w'.heap=w.heap→(Builtin.firstCells sz len (.slice base len cap)).run P w' =.ok bcd.toArray w')
  (hn:∀w' :World,w'.heap=w.heap→(Builtin.firstCells sz n y).run P w' =.ok news.toArray w'):
  ∃zc:Array Value,zc.size=sz∧(Builtin.append_ #[t,u] ty #[.slice base len cap,y]).run P w=
   .ok (.slice (some ⟨w.heap.size,0,none⟩) (len+n) (grownCap w (len+n) cap e))
    (w.drew.alloc (.cells (bcd.toArray++news.toArray++Builtin.zeroCells zc (grownCap w (len+n) cap e-(len+n))) e)):=by
 obtain⟨z,hz,hzl⟩:=hT.hz
 obtain⟨i,zv,hi,hiz,hm⟩:=iV hz
 obtain⟨i',hi',hs⟩:=lI hT.hs
 obtain⟨i2,hi2,hb⟩:=qI hT.hb
 rw[hi]at hi' hi2
 cases hi';cases hi2
 have hzs:zv.cells.size=sz:=by
  have:=(fZ (X:=⟨w,.empty,fun _=>⟨0,0,0⟩,fun _=>False,fun _=>0⟩) hm).1.length
  simp at this;omega
 refine⟨zv.cells,hzs,?_⟩
 have h1:¬(len+n≤cap):=by omega
 have h2:¬(((len+n:Nat):Int)>IntKind.i64.max):=by
  have:IntKind.i64.max=9223372036854775807:=by decide
  rw[this];omega
 have h3:¬(Builtin.nextslicecap (len+n) cap*i.bytes>2^48):=by
  have:=growslice_fits (bytes:=i.bytes) hg (by rw[hb];omega)
  omega
 have ho' :=ho w.drew rfl
 have hn' :=hn w.drew rfl
 have h4:¬(9223372036854775807<(len:Int)+(n:Int)):=by omega
 have h5:¬(281474976710656<Builtin.nextslicecap (len+n) cap*i.bytes):=by omega
 have hq:(Question.appendCap (len+n) cap e).forced=false:=rfl
 have hsz:=run_sizeOf hT.hs
 rcases hT.hu with hu|hu<;>
 simp[Builtin.append_,run_underlying hT.ht,run_underlying hu,hsz,typeInfo,zeroValue,hi,hiz,hly,h1,h4,h5,hq,ho',hn',newRow,grownCap]<;>
 (congr 2;apply Array.ext';simp)
theorem ke {t u e ty:TypeId} {sz bytes:Nat} (hT:SV P t u e sz bytes) {a:Addr} {len cap n:Nat} {y:Value} (w w' :World)
  (hly:(Builtin.lenOf y).run P w=.ok n w) (hg:len+n≤cap) {news:List Value}
  (hn:(Builtin.firstCells sz n y).run P w=.ok news.toArray w) (hst:(storeCells (a.add (len*sz)) news).run P w=.ok () w'):
  (Builtin.append_ #[t,u] ty #[.slice (some a) len cap,y]).run P w=.ok (.slice (some a) (len+n) cap) w' :=by
 have hsz:=run_sizeOf hT.hs
 rcases hT.hu with hu|hu<;>
 simp[Builtin.append_,run_underlying hT.ht,run_underlying hu,hsz,hly,hg,hn,hst]
theorem vo {t u e ty:TypeId} {sz bytes:Nat} (hT:SV P t u e sz bytes) {y:Value} (w:World)
  (hly:(Builtin.lenOf y).run P w=.ok 0 w) {news:List Value} (hn:(Builtin.firstCells sz 0 y).run P w=.ok news.toArray w):
  (Builtin.append_ #[t,u] ty #[.slice none 0 0,y]).run P w=.ok (.slice none 0 0) w:=by
 have hsz:=run_sizeOf hT.hs
 rcases hT.hu with hu|hu<;>
 simp[Builtin.append_,run_underlying hT.ht,run_underlying hu,hsz,hly,hn]
theorem Jl {w:World} {bcd news:List Value} {zc:Array Value} {sz len n cap:Nat} {e:TypeId} (hz:zc.size=sz) (ho:bcd.length=len*sz) (hn:news.length=n*sz):
  (bcd.toArray++news.toArray++Builtin.zeroCells zc (grownCap w (len+n) cap e-(len+n))).size=grownCap w (len+n) cap e*sz:=by
 have hge:=grownCap_ge w (len+n) cap e
 simp only[Array.size_append,List.size_toArray,ho,hn,gz,hz]
 rw[←Nat.add_mul,←Nat.add_mul]
 congr 1
 omega
theorem Jm {bcd news:List Value} {z:Array Value} {k:Nat} (h:k=bcd.length+news.length):(bcd.toArray++news.toArray++z).toList.take k=bcd++news:=by
 subst h;simp only[Array.toList_append]
 rw[List.take_append_of_le_length (by simp)]
 exact bar (by simp)
theorem lK (hR:Rel B w0 E X) {t u e ty:TypeId} {sz bytes:Nat} (hT:SV P t u e sz bytes) {base:Option Addr} {len cap n:Nat} {y:Value} {old new:List AV}
  (hly:(Builtin.lenOf y).run P X.w=.ok n X.w) (hg:cap<len+n) (hsm:(len+n)*bytes≤70368744177664) (bda :len+n≤70368744177664) {bcd news:List Value}
  (ro:a_ X old bcd) (rn:a_ X new news) (oo:bI old) (on:bI new) (lo:old.length=len*sz) (ln:new.length=n*sz)
  (ho:∀w' :World,w'.heap=X.w.heap→(Builtin.firstCells sz len (.slice base len cap)).run P w' =.ok bcd.toArray w')
  (hn:∀w' :World,w'.heap=X.w.heap→(Builtin.firstCells sz n y).run P w' =.ok news.toArray w'):
  dc B w0 E X P (Builtin.append_ #[t,u] ty #[.slice base len cap,y]) (.sl X.h.next 0 0 sz (len+n) none) (X.h.new (old++new)):=by
 obtain⟨zc,hzc,bbz⟩:=qK (ty:=ty) hT X.w hly hg hsm bda ho hn
 have l1:=ro.length;have l2:=rn.length;have hsz:=Jl (w:=X.w) (bcd:=bcd) (news:=news) (cap:=cap) (e:=e) hzc (l1.symm.trans lo) (l2.symm.trans ln)
 have hge:=grownCap_ge X.w (len+n) cap e
 have hmul:(len+n)*sz≤grownCap X.w (len+n) cap e*sz:=Nat.mul_le_mul_right _ hge
 rw[Nat.add_mul]at hmul
 refine dc.Jg hR (gy X.w _) (bab _) (oo.append on) (by rw[←World.size_drew];exact iN X.w.drew _) (.inl rfl) (by rw[hsz,ban];omega) ?_ bbz
  (bo.DU _ _ _ _ _ _ _ _ hge (fun _ h=>by cases h) (by rw[hsz];exact bab _) (fun _=>hsz.symm))
 rw[Jm (by rw[ban];omega)]
 exact ro.append rn
theorem Lw (hR:Rel B w0 E X) {t u e ty:TypeId} {sz bytes:Nat} (hT:SV P t u e sz bytes) {x y:AV} {c d:Value} (hx:bo X x c) (hy:bo X y d) {r:cB}
  (h:b9 X.h sz bytes x y=some r):dc B w0 E X P (Builtin.append_ #[t,u] ty #[c,d]) r.v r.h:=by
 simp only[b9,bac]at h
 obtain⟨n,hn,len,hlen,h⟩:=h
 split at h
 case isFalse=>cases h
 rename_i hsm;obtain⟨hsm,bda,hsz0⟩:=hsm
 have hly:=DW (P:=P) hy hn X.w
 split at h
 ·
  rename_i h0;subst h0;have hfc:∃news:List Value,(Builtin.firstCells sz 0 d).run P X.w=.ok news.toArray X.w∧news=[]:=by
   refine⟨[],?_,rfl⟩
   cases hy<;>simp only[cr,bae,reduceCtorEq]at hn<;>simp[Builtin.firstCells,loadCells,loadCellsFrom]
  obtain⟨news,hfc,rfl⟩:=hfc
  cases hx with
  |ax=>
   cases h;exact dc.same hR (vo hT X.w hly hfc) .ax
  |str=>cases h
  |fs full r7 cells a m vs bch bca hat h1 hvs=>
   simp only[cr,bae]at hlen
   subst hlen;cases h;exact dc.same hR (ke hT X.w X.w hly (by omega) hfc (by simp[storeCells])) (.fs _ _ _ _ _ _ bch bca hat h1 hvs)
  |sl id gen off sz' r7 cap a m hid bch r9 mn=>
   simp only[cr,bae]at hlen
   subst hlen;cases h;exact dc.same hR (ke hT X.w X.w hly (by omega) hfc (by simp[storeCells])) (.sl _ _ _ _ _ _ _ _ hid bch r9 mn)
  |_=>simp[cr]at hlen
 rename_i h0;simp only[bac]at h
 obtain⟨⟨new,kn⟩,hnew,h⟩:=h
 obtain⟨news,rn,on,ln,hfn⟩:=fF (P:=P) hR hy hnew
 have l2:=rn.length;cases hx with
 |ax=>
  simp only[cr,bae]at hlen
  subst hlen;simp only[bai]at h
  obtain⟨⟨old,ko⟩,hold,rfl⟩:=h
  obtain⟨bcd,ro,oo,lo,hfo⟩:=fF (P:=P) hR .ax hold
  exact lK hR hT hly (by omega) hsm bda ro rn oo on lo ln hfo hfn
 |fs full r7 cells a m vs bch bca hat h1 hvs=>
  simp only[cr,bae]at hlen
  subst hlen;cases full with
  |false=>cases h
  |true=>
   simp only[bai]at h
   obtain⟨⟨old,ko⟩,hold,rfl⟩:=h
   obtain⟨bcd,ro,oo,lo,hfo⟩:=fF (P:=P) hR (.fs _ _ _ _ _ _ bch bca hat h1 hvs) hold
   have hm:=bca rfl
   exact lK hR hT hly (by omega) hsm bda ro rn oo on lo ln hfo hfn
 |sl id gen off sz' r7 cap a m hid bch r9 mn=>
  simp only[cr,bae]at hlen
  subst hlen;have room:∀(cs:List AV),X.h.at_ id gen=some cs→sz' =sz→r7 +n≤m→off+(r7 +n)*sz≤cs.length→
    dc B w0 E X P (Builtin.append_ #[t,u] ty #[.slice (some a) r7 m,d]) (.sl id gen off sz (r7 +n) cap) (X.h.cD id gen (bU cs (off+r7 *sz) new)):=by
   intro cs hcs hsz hm bcb;subst hsz;have hl:=Heap.gY hcs
   have ha:=((mn _ hl).2 rfl).1 (by omega)
   rw[Nat.add_mul]at bcb
   obtain⟨X',g1,g2,g3,g4,g5⟩:=lJ (P:=P) hR hl rn on (off:=off+r7 *sz') (by rw[ln];dsimp only;omega)
   refine⟨X',.slice (some a) (r7 +n) m,?_,g2,g3,g4,?_⟩
   ·refine ke hT X.w X'.w hly hm (hfn X.w rfl) ?_
    rw[ha,e_,Nat.add_assoc];exact g1
   ·have hold:=(bo.sl id gen off sz' r7 cap a m hid bch r9 mn).ext g4
    cases hold with
    |sl _ _ _ _ _ _ _ _ q1 q2 q3 q4=>exact .sl _ _ _ _ _ _ _ _ q1 hm q3 q4
  cases cap with
  |some c0=>
   have hm:=r9 c0 rfl
   subst hm;simp only at h
   split at h
   case isFalse=>cases h
   rename_i hsz;subst hsz;split at h
   ·rename_i hroom
    simp only[bac]at h
    obtain⟨cs,hcs,h⟩:=h
    split at h
    ·rename_i bcb
     cases h;exact room cs hcs rfl hroom bcb
    ·cases h
   ·rename_i hroom
    simp only[bai]at h
    obtain⟨⟨old,ko⟩,hold,rfl⟩:=h
    obtain⟨bcd,ro,oo,lo,hfo⟩:=fF (P:=P) hR (.sl _ _ _ _ _ _ _ _ hid bch r9 mn) hold
    exact lK hR hT hly (by omega) hsm bda ro rn oo on lo ln hfo hfn
  |none=>
   simp only at h
   split at h
   case isFalse=>cases h
   rename_i hsz;subst hsz;simp only[bac]at h
   obtain⟨cs,hcs,h⟩:=h
   have hl:=Heap.gY hcs
   obtain⟨⟨arr,T,fz,ha,hb,hc,hd,he⟩,bcj⟩:=hR.obj id _ hl
   dsimp only at hc he bcj
   obtain⟨hl1,hl2,hl3⟩:=(mn _ hl).2 rfl
   have hl3:=hl3 rfl
   split at h
   ·rename_i bcb
    cases h
    by_cases hm:r7 +n≤m
    ·exact room cs hcs rfl hm bcb
    ·exfalso
     have:(m+1)*sz' ≤(r7 +n)*sz' :=Nat.mul_le_mul_right _ (by omega)
     rw[Nat.succ_mul]at this
     omega
   ·rename_i bcb
    split at h
    case isFalse=>cases h
    rename_i hend;cases h;have hcl:(cs.drop off++new).length=(r7 +n)*sz' :=by rw[ban,bbl,ln,Nat.add_mul];omega
    have hon:bI (cs.drop off++new):=(bcj.drop off).append on
    by_cases hm:r7 +n≤m
    ·
     have hmul:(r7 +n)*sz' ≤m*sz' :=Nat.mul_le_mul_right _ hm
     rw[Nat.add_mul]at hmul
     have ha' :=hl1 (by omega)
     have bbz:=iG (P:=P) (X.ρ id).b ((X.ρ id).o+off+r7 *sz') T fz news 0 arr X.w ha (by rw[hb];exact hd) (by omega) (rn.AY on)
     simp only[Nat.add_zero]at bbz
     have bcu:=setRow_heap X.w (X.ρ id).b arr (arr.toList.take ((X.ρ id).o+off+r7 *sz')++news++arr.toList.drop ((X.ρ id).o+off+r7 *sz' +news.length)).toArray T fz ha
     have bco:(arr.toList.take ((X.ρ id).o+off+r7 *sz')++news++arr.toList.drop ((X.ρ id).o+off+r7 *sz' +news.length)).toArray.size=arr.size:=by
      simp;omega
     have hU:=Rel.cD hR hl (mr X.w _ _) (gen:=gen+1) (cs:=cs.drop off++new) (p:=⟨(X.ρ id).b,(X.ρ id).o+off,(X.ρ id).n⟩) (Nat.le_succ _) (fun e=>by simp at e) (.inl rfl) hon
      bcu (bco.trans hb) hd (by dsimp only;rw[hcl,Nat.add_mul];omega) ?_
     ·refine⟨_,.slice (some a) (r7 +n) m,ke hT X.w _ hly hm (hfn X.w rfl) (by rw[ha',e_];exact bbz),rfl,hU,
       Ext.cD hR hl (mr X.w _ _) (Nat.le_succ _) (fun e=>by simp at e) (.inl rfl),?_⟩
      refine .sl _ _ _ _ _ _ _ _ hid hm (fun _ e=>by cases e) fun o ho=> ?_
      simp only[RX.cD,Heap.eZ,↓reduceIte,bae]at ho⊢
      subst ho;exact⟨bab _,fun _=>⟨fun _=>by rw[ha'];simp,by omega,fun _=>by omega⟩⟩
     ·have h1:=(he.drop off).append rn
      have e:List.take (cs.drop off++new).length (List.drop ((X.ρ id).o+off) (arr.toList.take ((X.ρ id).o+off+r7 *sz')++news++arr.toList.drop ((X.ρ id).o+off+r7 *sz' +news.length)).toArray.toList)
        =List.drop off (List.take cs.length (List.drop (X.ρ id).o arr.toList))++news:=by
       rw[hcl,Nat.add_mul]
       apply List.ext_getElem?
       intro k;simp only[List.getElem?_take,List.getElem?_drop,List.getElem?_append,ban,bbg,bbl,bbo,Nat.min_def]
       repeat' split
       all_goals first
        |rfl
        |(exfalso;omega)
        |(congr 1;omega)
        |(simp only[List.getElem?_eq_none_iff,bbo];omega)
        |(symm;simp only[List.getElem?_eq_none_iff];omega)
      rw[e];exact h1
    ·
     have hold:aT X.h sz' r7 (.sl id gen off sz' r7 none)=some (cs.drop off,.read):=by
      simp only[aT,hcs,bag]
      rw[if_pos (Nat.le_of_eq hend),bar (by simp;omega),if_pos ⟨trivial,bab _⟩]
     obtain⟨bcd,ro,oo,lo,hfo⟩:=fF (P:=P) hR (.sl _ _ _ _ _ _ _ _ hid bch r9 mn) hold
     obtain⟨zc,hzc,bbz⟩:=qK (ty:=ty) hT X.w hly (by omega) hsm bda hfo hfn
     have l1:=ro.length;have bco:=Jl (w:=X.w) (bcd:=bcd) (news:=news) (cap:=m) (e:=e) hzc (l1.symm.trans lo) (l2.symm.trans ln)
     have hge:=grownCap_ge X.w (r7 +n) m e
     have hmul:(r7 +n)*sz' ≤grownCap X.w (r7 +n) m e*sz' :=Nat.mul_le_mul_right _ hge
     have hB:=gy X.w (.cells (bcd.toArray++news.toArray++Builtin.zeroCells zc (grownCap X.w (r7 +n) m e-(r7 +n))) e)
     have hO:Jd (X.ρ id).b X.w (X.w.drew.alloc (.cells (bcd.toArray++news.toArray++Builtin.zeroCells zc (grownCap X.w (r7 +n) m e-(r7 +n))) e)):=
      ⟨hB.os,hB.tape,hB.output,hB.size,fun k hk _=>hB.block k hk⟩
     have hU:=Rel.cD hR hl hO (gen:=gen+1) (cs:=cs.drop off++new) (p:=⟨X.w.heap.size,0,grownCap X.w (r7 +n) m e*sz'⟩) (Nat.le_succ _) (fun e=>by simp at e) (.inr (bab _)) hon
      (by rw[←World.size_drew];exact iN X.w.drew _) bco (.inl rfl) (by dsimp only;rw[hcl];omega) ?_
     ·refine⟨_,_,bbz,rfl,hU,Ext.cD hR hl hO (Nat.le_succ _) (fun e=>by simp at e) (.inr (bab _)),?_⟩
      refine .sl _ _ _ _ _ _ _ _ hid hge (fun _ e=>by cases e) fun o ho=> ?_
      simp only[RX.cD,Heap.eZ,↓reduceIte,bae]at ho⊢
      subst ho;exact⟨bab _,fun _=>⟨fun _=>by simp,by simp,fun _=>by simp⟩⟩
     ·rw[bah,Jm (by rw[ban,l1,l2])]
      exact ro.append rn
 |str=>simp at h
 |_=>simp[cr]at hlen
end
end Go.AM
namespace Go.AM
open Go.RowKit
section
variable {B : Nat} {w0 : World} {E : Env} {X : RX} {P : Program}
theorem U2 {op:BinOp} {k:IntKind} {x y:Int} {v:AV} (h:hS op k x y=some v) (hs:op≠ .shl∧op≠ .shr) (t:TypeId) (w:World):
  ∃v',(binOp op t (.int k x) (.int k y)).run P w=.ok v' w∧bo X v v' :=by
 cases op<;>simp only[hS,bae,reduceCtorEq,ne_eq]at h hs
 case add=>subst h;exact⟨_,by simp[binOp,Op.intArith],.int _ _⟩
 case sub=>subst h;exact⟨_,by simp[binOp,Op.intArith],.int _ _⟩
 case mul=>subst h;exact⟨_,by simp[binOp,Op.intArith],.int _ _⟩
 case quo=>
  split at h;·cases h
  ·rename_i h0;cases h;exact⟨_,by simp[binOp,Op.intDiv,h0],.int _ _⟩
 case rem=>
  split at h;·cases h
  ·rename_i h0;cases h;exact⟨_,by simp[binOp,Op.intDiv,h0],.int _ _⟩
 case and=>subst h;exact⟨_,by simp only[binOp];simp[Op.intBits],.int _ _⟩
 case or=>subst h;exact⟨_,by simp only[binOp];simp[Op.intBits],.int _ _⟩
 case xor=>subst h;exact⟨_,by simp only[binOp];simp[Op.intBits],.int _ _⟩
 case andNot=>subst h;exact⟨_,by simp only[binOp];simp[Op.intBits],.int _ _⟩
 case eql=>subst h;exact⟨_,by simp[binOp,Op.intCmp],.bool _⟩
 case neq=>subst h;exact⟨_,by simp[binOp,Op.intCmp],.bool _⟩
 case lss=>subst h;exact⟨_,by simp[binOp,Op.intCmp],.bool _⟩
 case leq=>subst h;exact⟨_,by simp[binOp,Op.intCmp],.bool _⟩
 case gtr=>subst h;exact⟨_,by simp[binOp,Op.intCmp],.bool _⟩
 case geq=>subst h;exact⟨_,by simp[binOp,Op.intCmp],.bool _⟩
theorem LB {op:BinOp} {k k' :IntKind} {x y:Int} {v:AV} (h:Lf op k x y=some v) (t:TypeId) (w:World):
  ∃v',(binOp op t (.int k x) (.int k' y)).run P w=.ok v' w∧bo X v v' :=by
 unfold Lf at h
 split at h
 ·cases h
 ·rename_i h0
  cases op<;>simp only[bae,reduceCtorEq]at h
  case shl=>subst h;exact⟨_,by simp only[binOp,Op.shift,if_neg h0];rfl,.int _ _⟩
  case shr=>subst h;exact⟨_,by simp only[binOp,Op.shift,if_neg h0];rfl,.int _ _⟩
theorem gM (s:List UInt8):(⟨s.toArray⟩:ByteArray).toList=s:=by rw[ByteArray.toList_eq]
theorem U3 {op:BinOp} {x y:List UInt8} {v:AV} (h:aD op x y=some v) (t:TypeId) (w:World):
  ∃v',(binOp op t (.string ⟨x.toArray⟩) (.string ⟨y.toArray⟩)).run P w=.ok v' w∧bo X v v' :=by
 have e1:(⟨x.toArray⟩:ByteArray).size=x.length:=by simp[ByteArray.size]
 have e2:(⟨y.toArray⟩:ByteArray).size=y.length:=by simp[ByteArray.size]
 cases op<;>simp only[aD,bae,reduceCtorEq]at h
 case add=>
  split at h
  ·rename_i hc
   cases h;have happ:(⟨x.toArray⟩:ByteArray)++⟨y.toArray⟩=⟨(x++y).toArray⟩:=by apply ByteArray.ext;simp
   have hmax:IntKind.i64.max=9223372036854775807:=by decide
   have hn:¬((((⟨x.toArray⟩:ByteArray).size+(⟨y.toArray⟩:ByteArray).size:Nat):Int)>IntKind.i64.max):=by rw[e1,e2,hmax];omega
   refine⟨_,?_,.str (x++y)⟩
   simp only[binOp,Op.stringOp]
   rw[if_neg hn,happ];rfl
  ·cases h
 case eql=>subst h;exact⟨_,by simp only[binOp,Op.stringOp,gM];rfl,.bool _⟩
 case neq=>subst h;exact⟨_,by simp only[binOp,Op.stringOp,gM];rfl,.bool _⟩
 case lss=>subst h;exact⟨_,by simp only[binOp,Op.stringOp,gM];rfl,.bool _⟩
 case leq=>subst h;exact⟨_,by simp only[binOp,Op.stringOp,gM];rfl,.bool _⟩
 case gtr=>subst h;exact⟨_,by simp only[binOp,Op.stringOp,gM];rfl,.bool _⟩
 case geq=>subst h;exact⟨_,by simp only[binOp,Op.stringOp,gM];rfl,.bool _⟩
theorem Jn (op:BinOp) (t:TypeId) (x y:Operand) (k k' :IntKind) (a b:Int) (w:World):(eqGuard op t x y (.int k a) (.int k' b)).run P w=.ok () w:=by
 cases op<;>simp[eqGuard]
theorem Jo (op:BinOp) (t:TypeId) (x y:Operand) (a b:ByteArray) (w:World):(eqGuard op t x y (.string a) (.string b)).run P w=.ok () w:=by
 cases op<;>simp[eqGuard]
theorem abx (hR:Rel B w0 E X) {op:BinOp} {t:TypeId} {x y:AV} {c d:Value} (hx:bo X x c) (hy:bo X y d) {v:AV} (h:kx op x y=some v) (ox oy:Operand):
  dc B w0 E X P (do eqGuard op t ox oy c d;binOp op t c d) v X.h:=by
 cases hx with
 |int k a=>
  cases hy with
  |int k' b=>
   have hg:=Jn (P:=P) op t ox oy k k' a b X.w
   have:∃v',(binOp op t (.int k a) (.int k' b)).run P X.w=.ok v' X.w∧bo X v v' :=by
    cases op<;>simp only[kx]at h<;>first
     |exact LB h t X.w
     |(split at h
       ·rename_i e
        subst e;exact U2 h ⟨by simp,by simp⟩ t X.w
       ·cases h)
   obtain⟨v',hr,hv⟩:=this
   exact dc.same hR (by simp only[Sem.run_bind,hg,Result.andThen_ok,hr]) hv
  |_=>simp[kx]at h
 |str a=>
  cases hy with
  |str b=>
   obtain⟨v',hr,hv⟩:=U3 (P:=P) (X:=X) h t X.w
   exact dc.same hR (by simp only[Sem.run_bind,Jo,Result.andThen_ok,hr]) hv
  |_=>simp[kx]at h
 |_=>simp[kx]at h
theorem agP (hR:Rel B w0 E X) {op:UnOp} {x:AV} {c:Value} (hx:bo X x c) {v:AV} (h:dm op x=some v):dc B w0 E X P (Op.unary op c) v X.h:=by
 cases hx with
 |int k n=>
  cases op<;>simp only[dm,bae,reduceCtorEq]at h
  case neg=>subst h;exact dc.same hR (v' :=.int k (k.wrap (0-n))) (by simp[Op.unary,Op.intArith]) (.int _ _)
  case xor=>subst h;exact dc.same hR (by simp only[Op.unary,Op.intBits];rfl) (.int _ _)
 |bool b=>
  cases op<;>simp only[dm,bae,reduceCtorEq]at h
  subst h;exact dc.same hR (by simp only[Op.unary];rfl) (.bool _)
 |_=>simp[dm]at h
set_option maxHeartbeats 2000000 in
theorem vp {e:Le} {d:TypeDesc} {lit:Bool} (he:gA lit d=some e) {t:TypeId} (hu:P.underlying t=some d) {x y:AV} {c c' :Value} (hx:bo X x c) (hy:bo X y c') {r:Bool}
  (h:fU e x y=some r) (n:Nat) (w:World):(Op.equalIn (n+1) t c c').run P w=.ok r w:=by
 cases d<;>simp only[gA,bae,reduceCtorEq]at he<;>subst he<;>
  cases hx<;>simp only[fU,reduceCtorEq]at h<;>
  cases hy<;>simp only[reduceCtorEq,bae]at h<;>
  first
  |(subst h;simp[Op.equalIn,run_underlying hu,beq_toListBytes];done)
  |(split at h
    ·rename_i e1
     simp only[reduceCtorEq,bae]at h
     subst h
     simp_all [Op.equalIn,run_underlying hu]
    ·rename_i e1
     simp only[reduceCtorEq]at h
     subst h
     simp_all [Op.equalIn,run_underlying hu])
  |(split at h
    ·rename_i e1
     simp only[reduceCtorEq,bae]at h
     subst h
     simp_all [Op.equalIn,run_underlying hu]
    ·simp only[reduceCtorEq]at h)
  |(split at h
    ·simp only[reduceCtorEq]at h
    ·rename_i e1
     simp only[bae]at h
     subst h
     simp_all [Op.equalIn,run_underlying hu])
theorem Jp {op:BinOp} {t:TypeId} {ox oy:Operand} (h:(isLit ox||isLit oy)=true) (w:World):(eqGuard op t ox oy .nilIface .nilIface).run P w=.ok () w:=by
 cases op<;>simp[eqGuard]
 all_goals
  cases ox<;>cases oy<;>simp_all [isLit]
theorem Jq {op:BinOp} {e:Le} {d:TypeDesc} {t:TypeId} {ox oy:Operand} (he:gA (isLit ox||isLit oy) d=some e) {x y:AV} {c c' :Value} (hx:bo X x c) (hy:bo X y c') {r:Bool}
  (h:fU e x y=some r) (w:World):(eqGuard op t ox oy c c').run P w=.ok () w:=by
 cases hx<;>cases hy<;>(first|(cases op<;>simp[eqGuard];done)|skip)
 case bL.bL=>
  cases d<;>simp only[gA,bae,reduceCtorEq]at he<;>subst he<;>simp only[fU,reduceCtorEq]at h
  rename_i ms;cases hl:(isLit ox||isLit oy)with
  |true=>exact Jp hl w
  |false=>rw[hl]at h;simp[]at h
 case agg.agg=>
  cases d<;>simp only[gA,bae,reduceCtorEq]at he<;>subst he<;>simp[fU]at h
theorem Fg {op:BinOp} (ho:op=.eql∨op=.neq) {t:TypeId} {c c' :Value} {r:Bool} {w:World} (h:(Op.equal t c c').run P w=.ok r w)
  (hi:∀k a k' b,¬(c=.int k a∧c' =.int k' b)) (hs:∀a b,¬(c=.string a∧c' =.string b))
  (hn:c.oneCell'=true→∀k a,c≠ .float k a) (hc:∀k a b,c≠ .complex k a b):
  (binOp op t c c').run P w=.ok (.bool (if op=.neq then !r else r)) w:=by
 rcases ho with rfl|rfl
 all_goals
  cases c<;>cases c' <;>first
   |exact absurd ⟨rfl,rfl⟩ (hi _ _ _ _)
   |exact absurd ⟨rfl,rfl⟩ (hs _ _)
   |exact absurd rfl (hc _ _ _)
   |exact absurd rfl (hn rfl _ _)
   |simp[binOp,h]
theorem vq (hs:∀(n:Nat),True):∀{fs:List Field} {es:List (Nat×Nat×Bool×Le)},eqFields P fs=some es→∀{xs ys:List AV} {cs ds:List Value},a_ X xs cs→a_ X ys ds→∀{r:Bool},
  SB es xs ys=some r→∀(n:Nat) (w:World),(∀f∈fs,∃d,P.underlying f.type=some d∧(∀a,d≠ .struct a)∧∀a b,d≠ .array a b)→
  (Op.eqFields (n+1) cs.toArray ds.toArray fs).run P w=.ok r w
 |[],es,he,xs,ys,cs,ds,hx,hy,r,h,n,w,_=>by
  simp only[eqFields,bae]at he;subst he
  simp only[SB,bae]at h;subst h
  simp[Op.eqFields]
 |f::fs,es,he,xs,ys,cs,ds,hx,hy,r,h,n,w,hd=>by
  simp only[eqFields]at he
  split at he
  ·cases he
  rename_i hname;simp only[bam,bap,bac]at he
  obtain⟨d,hu,e,hes,rest,bcv,e0⟩:=he
  cases e0;simp only[SB,bac]at h
  obtain⟨a,ha,b,hb,r1,hr1,h⟩:=h
  obtain⟨a',ha',ra⟩:=hx.get ha
  obtain⟨b',hb',rb⟩:=hy.get hb
  have hag:sT P f.type=some false:=by
   obtain⟨d',hu',q1,q2⟩:=hd f (by simp)
   rw[hu]at hu'
   cases hu';unfold sT
   rw[hu];cases d<;>simp_all
  have p1:(part f.type cs.toArray f.offset).run P w=.ok a' w:=by simp[part,jT hag,ha']
  have p2:(part f.type ds.toArray f.offset).run P w=.ok b' w:=by simp[part,jT hag,hb']
  have p3:=vp hes hu ra rb hr1 n w
  simp only[Op.eqFields,if_pos (show f.name≠ "_" from hname),Sem.run_bind,p1,p2,p3,Result.andThen_ok]
  cases r1 with
  |false=>simp only[bae]at h;subst h;simp
  |true=>
   simp only[baj,bbm,if_false]
   exact vq hs bcv hx hy h n w (fun g hg=>hd g (by simp[hg]))
theorem qL:∀{fs:List Field} {es:List (Nat×Nat×Bool×Le)},eqFields P fs=some es→∀f∈fs,∃d,P.underlying f.type=some d∧(∀a,d≠ .struct a)∧∀a b,d≠ .array a b
 |[],_,_,_,h=>by cases h
 |f::fs,es,he,g,hg=>by
  simp only[eqFields]at he
  split at he
  ·cases he
  simp only[bam,bap,bac]at he
  obtain⟨d,hu,e,hes,rest,bcv,e0⟩:=he
  cases hg with
  |head=>
   refine⟨d,hu,?_,?_⟩
   ·rintro a rfl;simp[gA]at hes
   ·rintro a b rfl;simp[gA]at hes
  |tail _ hg=>exact qL bcv g hg
theorem agO (hR:Rel B w0 E X) {op:BinOp} (ho:op=.eql∨op=.neq) {t:TypeId} {ox oy:Operand} {e:Le} (he:abq P t (isLit ox||isLit oy)=some e)
  (hni:∀d,P.underlying t=some d→(∀k,d≠ .int k)∧d≠ .string)
  {x y:AV} {c d:Value} (hx:bo X x c) (hy:bo X y d) {r:Bool} (h:uS e x y=some r):
  dc B w0 E X P (do eqGuard op t ox oy c d;binOp op t c d) (.bool (if op=.neq then !r else r)) X.h:=by
 simp only[abq,bap,bac]at he
 obtain⟨ds,hu,he⟩:=he
 obtain⟨n1,n2⟩:=hni ds hu
 by_cases hst:∃fs,ds=.struct fs
 ·obtain⟨fs,rfl⟩:=hst
  simp only at he
  split at he
  ·cases he
  rename_i bcc;simp only[Bool.or_eq_true,not_or,Bool.not_eq_true]at bcc
  simp only[bai]at he
  obtain⟨es,hes,rfl⟩:=he
  cases hx with
  |agg xs cs h1 hv=>
   cases hy with
   |agg ys ds' h2 hv2=>
    simp only[uS]at h
    have hf:P.fieldsOf t=fs:=by simp[Program.fieldsOf,hu]
    have bbz:=vq (P:=P) (X:=X) (fun _=>trivial) hes hv hv2 h 9998 X.w (qL hes)
    have hG:=run_eqGuard_agg (P:=P) X.w op t ox oy cs.toArray ds'.toArray bcc.2
    have hE:=run_equalIn_struct (P:=P) X.w 9999 t cs.toArray ds'.toArray (by rw[hf];exact hu) bcc.1
    rw[hf,bbz]at hE
    refine dc.same hR ?_ (.bool _)
    simp only[Sem.run_bind,hG,Result.andThen_ok]
    rcases ho with rfl|rfl
    ·rw[run_eql_struct,hE];rfl
    ·rw[run_neq_struct,hE];rfl
   |_=>simp[uS]at h
  |_=>simp[uS]at h
 ·have he' :gA (isLit ox||isLit oy) ds=some e:=by
   cases ds<;>first|exact he|(exact absurd ⟨_,rfl⟩ hst)
  have h' :fU e x y=some r:=by
   cases ds<;>simp only[gA,bae,reduceCtorEq]at he' <;>subst he' <;>exact h
  have hG:=Jq (P:=P) (op:=op) (t:=t) he' hx hy h' X.w
  have hE:(Op.equal t c d).run P X.w=.ok r X.w:=vp he' hu hx hy h' 9999 X.w
  refine dc.same hR ?_ (.bool _)
  simp only[Sem.run_bind,hG,Result.andThen_ok]
  refine Fg ho hE ?_ ?_ ?_ ?_
  ·rintro k a k' b ⟨rfl,rfl⟩
   cases hx;cases hy
   cases ds<;>simp only[gA,bae,reduceCtorEq]at he' <;>subst he' <;>simp_all [fU]
  ·rintro a b ⟨rfl,rfl⟩
   cases hx;cases hy
   cases ds<;>simp only[gA,bae,reduceCtorEq]at he' <;>subst he' <;>simp_all [fU]
  ·intro _ k a e1;subst e1;cases hx
  ·intro k a b e1;subst e1;cases hx
end
end Go.AM
namespace Go.AM
open Go.RowKit
section
variable {B : Nat} {w0 : World} {E : Env} {X : RX} {P : Program}
theorem DX (z:Array Value) (len:Nat) (bcn:0<z.size):((Array.range (len*z.size)).map (z[· % z.size]!)).toList=(List.replicate len z.toList).flatten:=by
 apply List.ext_getElem
 ·simp
 ·intro j hj1 hj2
  have hj:j<len*z.size:=by simpa using hj1
  simp only[Array.toList_map,Array.toList_range,List.getElem_map,List.getElem_range]
  have hmod:j % z.size<z.size:=Nat.mod_lt _ bcn
  rw[getElem!_pos z _ hmod];have hfl:∀(m j:Nat),j<m*z.size→(List.replicate m z.toList).flatten[j]? =some (z[j % z.size]'(Nat.mod_lt _ bcn)):=by
   intro m
   induction m with
   |zero=>intro j h;simp at h
   |succ m ih=>
    intro j h;simp only[List.replicate_succ,List.flatten_cons,List.getElem?_append,bbo]
    split
    ·rename_i hlt
     simp only[Nat.mod_eq_of_lt hlt,Array.getElem?_toList,bbf hlt]
    ·rename_i hge
     have bcz :z.size≤j:=Nat.le_of_not_lt hge
     rw[ih (j-z.size) (by rw[Nat.succ_mul]at h;omega)]
     congr 2
     exact(Nat.mod_eq_sub_mod bcz).symm
  have h1:=hfl len j hj
  rw[bbq hj2]at h1
  simpa using h1.symm
theorem CV (hR:Rel B w0 E X) {t e:TypeId} (hu:P.underlying t=some (.slice e)) {sz bytes:Nat} {zero:List AV} (hs:cZ P e=some sz) (hb:pg P e=some bytes) (hz:kC P e=some zero)
  {x y:AV} {c d:Value} (hx:bo X x c) (hy:bo X y d) {r:cB} (h:jQ X.h sz bytes zero x y=some r):dc B w0 E X P (Instr.makeSlice t c d) r.v r.h:=by
 cases hx with
 |int k l=>
  cases hy with
  |int k' m=>
   cases k<;>cases k' <;>simp only[jQ,reduceCtorEq]at h
   split at h
   case isFalse=>cases h
   rename_i hc;obtain⟨c1,c2,c3,c4,c5⟩:=hc
   cases h;obtain⟨i,zv,hi,hiz,hm⟩:=iV hz
   obtain⟨i1,hi1,hs1⟩:=lI hs
   obtain⟨i2,hi2,hb2⟩:=qI hb
   rw[hi]at hi1 hi2
   cases hi1;cases hi2
   obtain⟨h1,h2⟩:=fZ (X:=X) hm
   have hzs:zv.cells.size=sz:=by have:=h1.length;simp at this;omega
   have w1:IntKind.i64.wrap l=l:=IntWalk.i64_in l (by omega)
   have w2:IntKind.i64.wrap m=m:=IntWalk.i64_in m (by omega)
   have hmn:m.toNat=m.toNat:=rfl
   have hbm:¬(↑i.bytes*m>(2^48:Int)):=by rw[hb2];omega
   have bdf:(decide (m<0)||decide (↑i.bytes*m>(2^48:Int))||decide (l<0)||decide (l>m))=false:=by simp;omega
   have hcells:∃arr:Array Value,a_ X (List.replicate m.toNat zero).flatten arr.toList∧arr.size=m.toNat*sz∧
     (Instr.makeSlice t (.int .i64 l) (.int .i64 m)).run P X.w=.ok (.slice (some ⟨X.w.heap.size,0,none⟩) l.toNat m.toNat) (X.w.alloc (.cells arr e)):=by
    have g1:¬(m<0):=by omega
    have g2:¬(281474976710656<(i.bytes:Int)*m):=by rw[hb2];omega
    have g3:¬(l<0):=by omega
    have g4:¬(m<l):=by omega
    by_cases h0:m.toNat*i.size=0
    ·refine⟨#[],?_,by rw[←hs1];simpa using h0.symm,?_⟩
     ·have:(List.replicate m.toNat zero).flatten=[]:=by
       apply List.eq_nil_of_length_eq_zero
       simp only[List.length_flatten,List.map_replicate,List.sum_replicate_nat]
       rw[c5,←hs1];exact h0
      rw[this];exact .nil
     ·have hr0:(Array.map (fun _=>(default:Value)) (Array.range 0))= #[]:=by simp
      simp[Instr.makeSlice,run_underlying hu,asInt,asIntOf,typeInfo,hi,w1,w2,g1,g2,g3,g4,sizeOf,h0,newRow]
      rw[hr0]
    ·have bcn:0<zv.cells.size:=by
      rw[hzs,←hs1];exact Nat.pos_of_ne_zero fun e=>h0 (by rw[e];simp)
     refine⟨(Array.range (m.toNat*i.size)).map (zv.cells[· % zv.cells.size]!),?_,by simp[hs1],?_⟩
     ·rw[hs1,←hzs,DX _ _ bcn]
      exact a_.f_ h1 _
     ·simp[Instr.makeSlice,run_underlying hu,asInt,asIntOf,typeInfo,zeroValue,hi,hiz,w1,w2,g1,g2,g3,g4,sizeOf,h0,newRow]
   obtain⟨arr,q1,q2,q3⟩:=hcells
   have hlen:=q1.length;have bcj:bI (List.replicate m.toNat zero).flatten:=by
    intro v hv;simp only[List.mem_flatten,List.mem_replicate]at hv
    obtain⟨l',⟨_,rfl⟩,hv⟩:=hv
    exact h2 v hv
   refine dc.Jg hR (gK X.w _) (bab _) bcj (iN X.w _) (.inl rfl) (by simpa using Nat.le_of_eq hlen) (by rw[hlen,List.take_length];exact q1) q3
    (bo.DU _ _ _ _ _ _ _ _ (by omega) (fun k hk=>by cases hk;rfl) (by rw[q2];exact bab _) (fun e=>by cases e))
  |_=>simp[jQ]at h
 |_=>simp[jQ]at h
theorem abt (hR:Rel B w0 E X) {tys:Array TypeId} {ty:TypeId} {x y:AV} {c d:Value} (hx:bo X x c) (hy:bo X y d) {v:AV} (h:gu true x y=some v):
  dc B w0 E X P (Builtin.max_ tys ty #[c,d]) v X.h:=by
 cases hx with
 |int k a=>
  cases hy with
  |int k' b=>
   by_cases e:k=k'
   ·subst e
    simp only[gu,if_true,bae]at h
    subst h;exact dc.same hR (v' :=.int k (if b>a then b else a)) (by simp[Builtin.max_,Builtin.max2]) (.int _ _)
   ·simp[gu,e]at h
  |_=>simp[gu]at h
 |_=>simp[gu]at h
theorem abu (hR:Rel B w0 E X) {tys:Array TypeId} {ty:TypeId} {x y:AV} {c d:Value} (hx:bo X x c) (hy:bo X y d) {v:AV} (h:gu false x y=some v):
  dc B w0 E X P (Builtin.min_ tys ty #[c,d]) v X.h:=by
 cases hx with
 |int k a=>
  cases hy with
  |int k' b=>
   by_cases e:k=k'
   ·subst e
    simp only[gu,if_true,bae]at h
    subst h;exact dc.same hR (v' :=.int k (if b<a then b else a)) (by simp[Builtin.min_,Builtin.min2]) (.int _ _)
   ·simp[gu,e]at h
  |_=>simp[gu]at h
 |_=>simp[gu]at h
theorem vr:∀{cs:List AV} {vs:List Value} {bs:List UInt8},a_ X cs vs→cs.mapM toByte=some bs→∃ns:List Int,vs=ns.map (Value.int .u8)∧bs=ns.map fun n=>UInt8.ofNat n.toNat
 |_,_,bs,.nil,h=>by simp at h;subst h;exact⟨[],rfl,rfl⟩
 |_,_,bs,.cons v v' cs vs hv hvs,h=>by
  simp only[bbn,bam,bap,bac]at h
  obtain⟨b,hb,r,hr,e⟩:=h
  cases e;obtain⟨ns,rfl,rfl⟩:=vr hvs hr
  cases hv with
  |int k n=>
   cases k<;>simp only[toByte,bae,reduceCtorEq]at hb
   subst hb;exact⟨n::ns,rfl,rfl⟩
  |_=>simp[toByte]at hb
theorem foldl_push:∀(ns:List Int) (s:List UInt8),ns.foldl (fun(r:ByteArray) n=>r.push (UInt8.ofNat n.toNat)) ⟨s.toArray⟩=⟨(s++ns.map fun n=>UInt8.ofNat n.toNat).toArray⟩
 |[],s=>by simp
 |n::ns,s=>by
  simp only[List.foldl_cons]
  have:(⟨s.toArray⟩:ByteArray).push (UInt8.ofNat n.toNat)=⟨(s++[UInt8.ofNat n.toNat]).toArray⟩:=by
   apply ByteArray.ext
   simp
  rw[this,foldl_push ns];simp
theorem abo (hR:Rel B w0 E X) {s d e:TypeId} (hs:P.underlying s=some (.slice e)) (he:P.underlying e=some (.int .u8)) (hd:P.underlying d=some .string) {x:AV} {c:Value}
  (hx:bo X x c) {r:cB} (h:di X.h .Ld x=some r):dc B w0 E X P (convert s d c) r.v r.h:=by
 have hns:∀s,x≠ .str s:=by rintro s rfl;simp[di]at h
 have h:(cr x).bind (fun n=>(aT X.h 1 n x).bind fun q=>(q.1.mapM toByte).map fun bs=>(⟨.str bs,X.h,q.2⟩:cB))=some r:=by
  cases x<;>first|exact h|exact absurd rfl (hns _)
 simp only[jac]at h
 obtain⟨n,hn,⟨cs,k⟩,hcs,bs,hbs,rfl⟩:=h
 obtain⟨news,rn,on,ln,hf⟩:=fF (P:=P) hR hx hcs
 obtain⟨ns,rfl,rfl⟩:=vr rn hbs
 have hf:=hf X.w rfl
 have hfin:=foldl_push ns []
 simp only[bbe]at hfin
 cases hx with
 |ax=>
  simp only[cr,bae]at hn
  subst hn;have hl:=rn.length;have:ns=[]:=by
   apply List.eq_nil_of_length_eq_zero
   have:=rn.length
   simp at this hl
   omega
  subst this;refine dc.same hR (v' :=.string ⟨#[]⟩) ?_ (.str [])
  rw[run_convert_bytes_string _ _ _ e _ _ _ hs he hd];simp[Conv.bytesToString]
  rfl
 |fs full len cells a m vs hlen bca hat h1 hvs=>
  simp only[cr,bae]at hn
  subst hn;refine dc.same hR (v' :=.string ⟨(ns.map fun n=>UInt8.ofNat n.toNat).toArray⟩) ?_ (.str _)
  rw[run_convert_bytes_string _ _ _ e _ _ _ hs he hd,run_bytesToString X.w a len m ns (by simpa[Builtin.firstCells]using hf),←hfin]
  rfl
 |sl id gen off sz' len cap a m hid hlen r9 mn=>
  simp only[cr,bae]at hn
  subst hn;refine dc.same hR (v' :=.string ⟨(ns.map fun n=>UInt8.ofNat n.toNat).toArray⟩) ?_ (.str _)
  rw[run_convert_bytes_string _ _ _ e _ _ _ hs he hd,run_bytesToString X.w a len m ns (by simpa[Builtin.firstCells]using hf),←hfin]
  rfl
 |str s=>exact absurd rfl (hns s)
 |_=>simp[cr]at hn
theorem vt (w:World) (b n:Nat) (arr:Array Value) (T:TypeId) (fz:Nat×Nat) (h:w.heap[b]? =some (.cells arr T fz)):
  (w.freeze ⟨b,n,none⟩ 1).heap[b]? =some (.cells arr T (if fz.1==fz.2 then(n,n+1)else(min fz.1 n,max fz.2 (n+1)))):=by
 simp only[World.freeze,Nat.one_ne_zero,if_false,Array.getElem?_modify,h,jak]
theorem ye (w:World) (b n:Nat):Jd b w (w.freeze ⟨b,n,none⟩ 1):=
 ⟨rfl,rfl,rfl,by simp[World.freeze],fun k _ hne=>by simp only[World.freeze,Nat.one_ne_zero,if_false,Array.getElem?_modify,if_neg (Ne.symm hne)]⟩
theorem yf {n:Nat} {fz:Nat×Nat} (h:CX n fz):CX n (if fz.1==fz.2 then(n,n+1)else(min fz.1 n,max fz.2 (n+1))):=by
 right
 split
 ·exact bab _
 ·rename_i hne
  rcases h with e|e
  ·subst e;simp at hne
  ·simp only[Nat.min_def];split<;>omega
theorem mu (w:World) (b o:Nat) (arr:Array Value) (T:TypeId) (fz:Nat×Nat) (h:w.heap[b]? =some (.cells arr T fz)):
  (markStringish ⟨b,o,none⟩).run P w=.ok () (w.freeze ⟨b,arr.size,none⟩ 1):=by
 simp[markStringish,World.shape?,h]
theorem abm (hR:Rel B w0 E X) {s d e:TypeId} (hs:P.underlying s=some .string) (hd:P.underlying d=some (.slice e)) (he:P.underlying e=some (.int .u8)) {x:AV} {c:Value}
  (hx:bo X x c) {r:cB} (h:di X.h .Ui x=some r):dc B w0 E X P (convert s d c) r.v r.h:=by
 cases hx with
 |str l=>
  simp only[di,bae]at h
  subst h;obtain⟨h1,h2⟩:=w7 (X:=X) l
  have hsz:(⟨l.toArray⟩:ByteArray).size=l.length:=by simp[ByteArray.size]
  have hge:=grownCap_ge X.w l.length 0 e
  have hq:(Question.appendCap l.length 0 e).forced=false:=rfl
  have bcu:=iN X.w.drew (.cells ((l.toArray.map fun b:UInt8=>Value.int .u8 b.toNat)++Array.replicate (grownCap X.w l.length 0 e-l.length) (Value.int .u8 0)) e)
  have bco:((l.toArray.map fun b:UInt8=>Value.int .u8 b.toNat)++Array.replicate (grownCap X.w l.length 0 e-l.length) (Value.int .u8 0)).size=grownCap X.w l.length 0 e:=by
   simp;omega
  have hfr:=vt _ X.w.drew.heap.size ((l.toArray.map fun b:UInt8=>Value.int .u8 b.toNat)++Array.replicate (grownCap X.w l.length 0 e-l.length) (Value.int .u8 0)).size _ _ _ bcu
  have hmk:=mu (P:=P) _ X.w.drew.heap.size 0 _ _ _ bcu
  have hO:=ye (X.w.drew.alloc (.cells ((l.toArray.map fun b:UInt8=>Value.int .u8 b.toNat)++Array.replicate (grownCap X.w l.length 0 e-l.length) (Value.int .u8 0)) e)) X.w.drew.heap.size
   ((l.toArray.map fun b:UInt8=>Value.int .u8 b.toNat)++Array.replicate (grownCap X.w l.length 0 e-l.length) (Value.int .u8 0)).size
  have hA:=gy X.w (.cells ((l.toArray.map fun b:UInt8=>Value.int .u8 b.toNat)++Array.replicate (grownCap X.w l.length 0 e-l.length) (Value.int .u8 0)) e)
  refine dc.Jg hR (w' :=World.freeze _ _ 1) (b:=X.w.drew.heap.size) ⟨hO.os.trans hA.os,hO.tape.trans hA.tape,hO.output.trans hA.output,bal hA.size hO.size,fun k hk=> ?_⟩ (bab _) h2 hfr
   (yf (.inl rfl)) (by rw[bco];simpa using hge) ?_ (v' :=.slice (some ⟨X.w.drew.heap.size,0,none⟩) l.length (grownCap X.w l.length 0 e)) ?_
   (bo.DU _ _ _ _ _ _ _ _ hge (fun _ h=>by cases h) (by rw[bco];omega) (fun _=>by rw[bco];omega))
  ·rw[hO.block k (by simp;omega) (by simp;omega)]
   exact hA.block k hk
  ·have:List.take (List.map bK l).length ((l.toArray.map fun b:UInt8=>Value.int .u8 b.toNat)++Array.replicate (grownCap X.w l.length 0 e-l.length) (Value.int .u8 0)).toList=l.map fun b=>Value.int .u8 b.toNat:=by
    simp
   rw[this];exact h1
  ·have hc:(convert s d (.string ⟨l.toArray⟩)).run P X.w=(Conv.stringToBytes e ⟨l.toArray⟩).run P X.w:=by
    simp[convert,run_underlying hs,run_underlying hd,run_underlying he]
   rw[hc];simp only[Conv.stringToBytes,Sem.run_bind,run_choose,hsz,hq,bbm,if_false,Result.andThen_ok,newRow,run_newObj,Sem.run_pure,World.drew_eq]
   have bcz :(Question.appendCap l.length 0 e).cut (X.w.tape X.w.drawn (Question.appendCap l.length 0 e))=grownCap X.w l.length 0 e:=rfl
   rw[bcz];have hmk' :(markStringish ⟨X.w.drew.heap.size,0,none⟩).run P {X.w.drew with heap:=X.w.drew.heap.push (.cells ((l.toArray.map fun b:UInt8=>Value.int .u8 b.toNat)++Array.replicate (grownCap X.w l.length 0 e-l.length) (Value.int .u8 0)) e)}=_:=hmk
   simp only[hmk',Result.andThen_ok]
 |_=>simp[di]at h
theorem vu (s:ByteArray):∀(b i:Nat) (acc:Array Value),Conv.runesFrom s b i acc=acc++((dW s b i).map (Value.int .i32)).toArray
 |0,i,acc=>by simp[Conv.runesFrom,dW]
 |b+1,i,acc=>by
  rw[Conv.runesFrom,dW];split
  ·simp only[vu s b,bba]
   apply Array.ext'
   simp
  ·simp
theorem DY:∀(l:List Int),a_ X (l.map gH) (l.map (Value.int .i32))∧bI (l.map gH)
 |[]=>⟨.nil,fun _ h=>by cases h⟩
 |b::s=>by
  obtain⟨h1,h2⟩:=DY s
  refine⟨.cons _ _ _ _ (.int _ _) h1,fun v hv=> ?_⟩
  cases hv with
  |head=>rfl
  |tail _ hv=>exact h2 v hv
theorem abn (hR:Rel B w0 E X) {s d e:TypeId} (hs:P.underlying s=some .string) (hd:P.underlying d=some (.slice e)) (he:P.underlying e=some (.int .i32)) {x:AV} {c:Value}
  (hx:bo X x c) {r:cB} (h:di X.h .s2r x=some r):dc B w0 E X P (convert s d c) r.v r.h:=by
 cases hx with
 |str l=>
  simp only[di,bae]at h
  subst h;obtain⟨rs,kY⟩:∃rs,rs=dW ⟨l.toArray⟩ l.length 0:=⟨_,rfl⟩
  rw[←kY];obtain⟨h1,h2⟩:=DY (X:=X) rs
  have hsz:(⟨l.toArray⟩:ByteArray).size=l.length:=by simp[ByteArray.size]
  have hru:Conv.runesFrom ⟨l.toArray⟩ l.length 0 #[]=(rs.map (Value.int .i32)).toArray:=by rw[vu,←kY];simp
  have hrz:(rs.map (Value.int .i32)).toArray.size=rs.length:=by simp
  have hge:=grownCap_ge X.w rs.length 0 e
  have hq:(Question.appendCap rs.length 0 e).forced=false:=rfl
  have bcu:=iN X.w.drew (.cells ((rs.map (Value.int .i32)).toArray++Array.replicate (grownCap X.w rs.length 0 e-rs.length) (Value.int .i32 0)) e)
  have bco:((rs.map (Value.int .i32)).toArray++Array.replicate (grownCap X.w rs.length 0 e-rs.length) (Value.int .i32 0)).size=grownCap X.w rs.length 0 e:=by
   simp;omega
  have hA:=gy X.w (.cells ((rs.map (Value.int .i32)).toArray++Array.replicate (grownCap X.w rs.length 0 e-rs.length) (Value.int .i32 0)) e)
  have hlm:(rs.map gH).length=rs.length:=by simp
  refine dc.Jg hR (w' :=X.w.drew.alloc _) (b:=X.w.drew.heap.size) hA (bab _) h2 bcu
   (.inl rfl) (by rw[bco,hlm];exact hge) ?_ (v' :=.slice (some ⟨X.w.drew.heap.size,0,none⟩) rs.length (grownCap X.w rs.length 0 e)) ?_
   (bo.DU _ _ _ _ _ _ _ _ hge (fun _ h=>by cases h) (by rw[bco];omega) (fun _=>by rw[bco];omega))
  ·have:List.take (List.map gH rs).length ((rs.map (Value.int .i32)).toArray++Array.replicate (grownCap X.w rs.length 0 e-rs.length) (Value.int .i32 0)).toList=rs.map (Value.int .i32):=by
    simp
   rw[this];exact h1
  ·have hc:(convert s d (.string ⟨l.toArray⟩)).run P X.w=(Conv.stringToRunes e ⟨l.toArray⟩).run P X.w:=by
    simp[convert,run_underlying hs,run_underlying hd,run_underlying he]
   rw[hc];simp only[Conv.stringToRunes,hsz,hru,hrz,Sem.run_bind,run_choose,hq,bbm,if_false,Result.andThen_ok,newRow,run_newObj,Sem.run_pure,World.drew_eq]
   have bcz :(Question.appendCap rs.length 0 e).cut (X.w.tape X.w.drawn (Question.appendCap rs.length 0 e))=grownCap X.w rs.length 0 e:=rfl
   rw[bcz];rfl
 |_=>simp[di]at h
theorem abp (hR:Rel B w0 E X) {s e:TypeId} (hs:P.underlying s=some (.slice e)) (he:P.underlying e=some (.int .u8)) {x:AV} {c:Value}
  (hx:bo X x c) {r:cB} (h:di X.h .b2b x=some r):dc B w0 E X P (convert s s c) r.v r.h:=by
 cases hx with
 |sl id gen off sz len cap a m hid hlen r9 mn=>
  cases cap with
  |none=>simp[di]at h
  |some c0=>
   have hm:=r9 c0 rfl
   subst hm;simp only[di]at h
   split at h
   case isFalse=>cases h
   rename_i hlc;obtain⟨hlc,h0⟩:=hlc
   simp only[bac]at h
   obtain⟨cs,hcs,h⟩:=h
   split at h
   case isFalse=>cases h
   rename_i hc;obtain⟨rfl,hc2⟩:=hc
   cases h;have hl:=Heap.gY hcs
   obtain⟨⟨arr,T,fz,ha,hb,hc,hd,hv⟩,bcj⟩:=hR.obj id _ hl
   have hav:=((mn _ hl).2 rfl).1 h0
   subst hav;have hfr:=vt X.w (X.ρ id).b arr.size arr T fz ha
   have hO:=ye X.w (X.ρ id).b arr.size
   have hU:=Rel.cD hR hl hO (gen:=gen) (cs:=cs) (p:=X.ρ id) (bab _) (fun _=>rfl) (.inl rfl) bcj hfr hb (by rw[←hb];exact yf (by rw[hb];exact hd)) hc hv
   have hE:=Ext.cD hR hl hO (gen:=gen) (cs:=cs) (p:=X.ρ id) (bab _) (fun _=>rfl) (.inl rfl)
   refine⟨_,.slice (some ⟨(X.ρ id).b,(X.ρ id).o+0,none⟩) len m,?_,rfl,hU,hE,(bo.sl id gen 0 sz len (some m) _ m hid hlen r9 mn).ext hE⟩
   simp only[convert,Sem.run_bind,run_underlying hs,Result.andThen_ok,beq_self_eq_true,run_underlying he]
   have hmk:=mu (P:=P) X.w (X.ρ id).b ((X.ρ id).o+0) arr T fz ha
   simp only[hmk,Result.andThen_ok,Sem.run_pure]
   rfl
 |_=>simp[di]at h
end
end Go.AM
