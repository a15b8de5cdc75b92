/- For BifCalls. -/
import Derived.Test.YtaielgjmhbjfhaaGreatDoorAmTop
set_option linter.unusedVariables false
namespace Go.AM
open Go.RowKit Go.ChangeShapes
inductive kZ {α β:Type} (R:α→β→Prop):List α→List β→Prop
 |nil:kZ R [] []
 |cons {a:α} {b:β} {as:List α} {bs:List β} (h:R a b) (hs:kZ R as bs):kZ R (a::as) (b::bs)
theorem kZ.snoc {α β:Type} {R:α→β→Prop} {a:α} {b:β} (h:R a b):∀{as:List α} {bs:List β},kZ R as bs→kZ R (as++[a]) (bs++[b])
 |_,_,.nil=>.cons h .nil
 |_,_,.cons h1 h2=>.cons h1 (kZ.snoc h h2)
theorem kZ.imp {α β:Type} {R S:α→β→Prop} (h:∀a b,R a b→S a b):∀{as:List α} {bs:List β},kZ R as bs→kZ S as bs
 |_,_,.nil=>.nil
 |_,_,.cons h1 h2=>.cons (h _ _ h1) (kZ.imp h h2)
inductive Sh where
 |bool
 |int (k:IntKind)
 |str
 |slice (e:Sh)
 |ptr (e:Sh)
 |agg (l:List Sh)
section
variable {H : Type} {enc : TypeId × Value → H} {P : Program} {W : World}
end
section
variable {H : Type} {enc : TypeId × Value → H} {P : Program} {W : World}
end
end Go.AM
namespace Go.AM.R
open Go.AM
open Go.RowKit Go.ChangeShapes
inductive Sh where
 |bool
 |int (k:IntKind)
 |str
 |slice (e:Sh)
 |ptr (e:Sh)
 |agg (l:List Sh)
 |bot (n:Nat)
mutual
def Sh.size:Sh→Nat
 |.agg l=>Sh.jj l
 |.bot n=>n
 |_=>1
def Sh.jj:List Sh→Nat
 |[]=>0
 |s::l=>s.size+Sh.jj l
end
def shFields (g:TypeId→Option Sh):List Field→Nat→Option (List Sh)
 |[],_=>some []
 |f::fs,off=>if f.offset=off then(g f.type).bind fun s=>(shFields g fs (off+s.size)).map fun l=>s::l else none
def shOf (P:Program):Nat→TypeId→Option Sh
 |0,t=>some (.bot (P.cellsOf t))
 |n+1,t=>
  Option.bind (match P.underlying t with
   |some .bool=>some Sh.bool
   |some (.int k)=>some (Sh.int k)
   |some .string=>some Sh.str
   |some (.slice e)=>(shOf P n e).map Sh.slice
   |some (.pointer e)=>(shOf P n e).bind fun s=>if 0<s.size then some (Sh.ptr s)else none
   |some (.struct fs)=>(shFields (shOf P n) fs.toList 0).map Sh.agg
   |_=>none) fun s=>if P.cellsOf t=s.size then some s else none
mutual
def Fits {H:Type}:Sh→DataW H→List AV→Prop
 |.bool,d,vs=>∃b,d=.lit (.bool b)∧vs=[.bool b]
 |.int k,d,vs=>∃n,d=.lit (.int k n)∧(Lit.int k n).wf=true∧vs=[.int k n]
 |.str,d,vs=>∃l,d=.lit (.string l)∧l.length≤maxLen∧vs=[.str l]
 |.slice e,d,vs=>(d=.nil∧vs=[.ax])∨∃elems spare css,d=.slice elems spare∧elems.length+spare.length≤maxLen∧kZ (Fits e) elems css∧vs=[.fs spare.isEmpty elems.length css.flatten]
 |.ptr e,d,vs=>(d=.nil∧vs=[.gC])∨∃d' cs,d=.ptr d' ∧Fits e d' cs∧vs=[.fp cs]
 |.agg l,d,vs=>∃parts,d=.agg parts∧FitsAll l parts vs
 |.bot _,d,vs=>False
def FitsAll {H:Type}:List Sh→List (DataW H)→List AV→Prop
 |[],ds,vs=>ds=[]∧vs=[]
 |s::l,ds,vs=>∃d ds' a b,ds=d::ds' ∧vs=a++b∧Fits s d a∧FitsAll l ds' b
end
mutual
theorem Fits.length {H:Type}:∀{s:Sh} {d:DataW H} {vs:List AV},Fits s d vs→vs.length=s.size
 |.bool,d,vs,h=>by obtain⟨b,_,rfl⟩:=h;rfl
 |.int k,d,vs,h=>by obtain⟨b,_,_,rfl⟩:=h;rfl
 |.str,d,vs,h=>by obtain⟨b,_,_,rfl⟩:=h;rfl
 |.slice e,d,vs,h=>by rcases h with⟨_,rfl⟩|⟨_,_,_,_,_,_,rfl⟩<;>rfl
 |.ptr e,d,vs,h=>by rcases h with⟨_,rfl⟩|⟨_,_,_,_,rfl⟩<;>rfl
 |.agg l,d,vs,h=>by obtain⟨ps,_,h⟩:=h;exact FitsAll.length h
 |.bot _,d,vs,h=>h.elim
theorem FitsAll.length {H:Type}:∀{l:List Sh} {ds:List (DataW H)} {vs:List AV},FitsAll l ds vs→vs.length=Sh.jj l
 |[],ds,vs,h=>by obtain⟨_,rfl⟩:=h;rfl
 |s::l,ds,vs,h=>by
  obtain⟨d,ds',a,b,rfl,rfl,h1,h2⟩:=h
  simp[Sh.jj,Fits.length h1,FitsAll.length h2]
end
section
variable {H : Type} {enc : TypeId × Value → H} {P : Program} {W : World}
theorem lL {a:Addr} {v:Value} (h:W.cell? a=some v):a.spot=none∧a.block<W.heap.size:=by
 unfold World.cell? at h
 split at h
 ·rename_i c t fr hc
  split at h
  ·cases h
  ·rename_i hs
   refine⟨by simpa using hs,?_⟩
   exact(bbh.1 hc).1
 ·cases h
def pj (enc:TypeId×Value→H) (P:Program) (W:World) (n:Nat) (t:TypeId) (sh:Sh):Prop:=
 ∀fuel cs d ps,fuel≤n→DataW.trod enc P W 0 (fun _=>true) true fuel t cs=some (d,ps)→∃avs,Fits sh d avs∧a_ (RX.start W) avs cs∧bI avs∧cs.length=sh.size
theorem pn (a:Addr) (m n:Nat):(a.add m).add n=a.add (m+n):=by
 obtain⟨b,o,sp⟩:=a
 unfold Addr.add
 by_cases hm:m=0
 ·subst hm;simp
 ·by_cases hn:n=0
  ·subst hn;simp[hm]
  ·have:¬(m+n=0):=by omega
   simp only[hm,hn,this,if_false]
   congr 1
   omega
theorem ib (b o i:Nat):(⟨b,o,none⟩:Addr).add i=⟨b,o+i,none⟩:=by
 unfold Addr.add
 split
 ·rename_i h;subst h;rfl
 ·rfl
theorem jv {n:Nat} {g:TypeId→Option Sh} (hg:∀t s,g t=some s→pj enc P W n t s∧P.cellsOf t=s.size) {fuel:Nat} (hf:fuel≤n) {cs:List Value}:∀(fs:List Field) (off:Nat) (l:List Sh) (xs:List (DataW H×List MemPlace)),shFields g fs off=some l→
  xs.length=fs.length→(∀(i:Nat) (f:Field),fs[i]? =some f→DataW.trod enc P W 0 (fun _=>true) true fuel f.type ((cs.drop f.offset).take (P.cellsOf f.type))=xs[i]?)→
  ∃avs,FitsAll l (xs.map (·.1)) avs∧a_ (RX.start W) avs ((cs.drop off).take (Sh.jj l))∧bI avs
 |[],off,l,xs,h,hlen,hx=>by
  simp only[shFields,bae]at h
  subst h;cases xs with
  |cons x xs=>simp at hlen
  |nil=>exact⟨[],⟨rfl,rfl⟩,by simpa[Sh.jj]using a_.nil,fun v hv=>by cases hv⟩
 |f::fs,off,l,xs,h,hlen,hx=>by
  simp only[shFields]at h
  split at h
  case isFalse=>cases h
  rename_i hoff;simp only[jac]at h
  obtain⟨s,hs,l',hl',rfl⟩:=h
  cases xs with
  |nil=>simp at hlen
  |cons x xs' =>
  obtain⟨d,p⟩:=x
  have hd:=hx 0 f rfl
  simp only[bbr]at hd
  obtain⟨hr,hsz⟩:=hg _ _ hs
  obtain⟨a,a1,a2,a3,a4⟩:=hr _ _ _ _ hf hd
  obtain⟨b,b1,b2,b3⟩:=jv hg hf fs _ l' xs' hl' (by simpa using hlen) fun i f' hf=>by simpa using hx (i+1) f' (by simpa using hf)
  refine⟨a++b,⟨d,_,a,b,rfl,rfl,a1,b1⟩,?_,a3.append b3⟩
  have:=a2.append b2
  rw[hoff,hsz]at this
  rw[show List.take (Sh.jj (s::l')) (List.drop off cs)=List.take s.size (List.drop off cs)++List.take (Sh.jj l') (List.drop (off+s.size) cs)by
   simp only[Sh.jj]
   rw[List.take_add,List.drop_drop]]
  exact this
theorem kF {n:Nat} {e:TypeId} {s:Sh} (hr:pj enc P W n e s) (hsz:P.cellsOf e=s.size) {fuel:Nat} (hf:fuel≤n) {a:Addr} {len:Nat} {elems:List (DataW H×List MemPlace)} (hlen:elems.length=len)
  (bcm:∀i,i<len→(W.cells? 0 (a.add (i*P.cellsOf e)) (P.cellsOf e)).bind (DataW.trod enc P W 0 (fun _=>true) true fuel e)=elems[i]?):∀(k:Nat),k≤len→
  ∃css vs,kZ (Fits s) ((elems.take k).map (·.1)) css∧a_ (RX.start W) css.flatten vs∧bI css.flatten∧vs.length=k*s.size∧∀i v,vs[i]? =some v→W.cell? (a.add i)=some v
 |0,_=>⟨[],[],by simpa using kZ.nil,by simpa using a_.nil,fun v hv=>by simp at hv,by simp,fun i v h=>by simp at h⟩
 |k+1,hk=>by
  obtain⟨css,vs,g1,g2,g3,g4,g5⟩:=kF hr hsz hf hlen bcm k (by omega)
  have h1:=bcm k (by omega)
  have hke:=bbq (show k<elems.length by omega)
  rw[hke]at h1
  simp only[bac]at h1
  obtain⟨cs,hcs,hd⟩:=h1
  obtain⟨avs,a1,a2,a3,a4⟩:=hr _ _ _ _ hf hd
  obtain⟨_,c2,c3⟩:=World.cells?_some hcs
  refine⟨css++[avs],vs++cs,?_,?_,?_,?_,?_⟩
  ·rw[List.take_add_one,hke]
   simp only[Option.toList_some,List.map_append,bba,List.map_nil]
   exact kZ.snoc a1 g1
  ·simpa using g2.append a2
  ·simpa using g3.append a3
  ·simp only[ban,g4,a4]
   rw[Nat.succ_mul]
  ·intro i v hi
   rw[List.getElem?_append]at hi
   split at hi
   ·exact g5 i v hi
   ·rename_i hlt
    have hlt2:i-vs.length<cs.length:=(bbt.1 hi).1
    have:=c3 (i-vs.length) (by omega)
    rw[hi,pn]at this
    rw[←this,hsz,←g4]
    congr 2
    omega
theorem A0:∀(n:Nat) (t:TypeId) (sh:Sh),shOf P n t=some sh→pj enc P W n t sh∧P.cellsOf t=sh.size:=by
 intro n
 induction n with
 |zero=>
  intro t sh h;simp only[shOf,bae]at h
  subst h;refine⟨fun fuel cs d ps hf ht=> ?_,rfl⟩
  obtain rfl:fuel=0:=by omega
  simp[DataW.trod]at ht
 |succ n ih=>
  intro t sh h;simp only[shOf,bac]at h
  obtain⟨sh',h1,h2⟩:=h
  split at h2
  case isFalse=>cases h2
  rename_i hsz;simp only[bae]at h2
  subst h2;refine⟨?_,hsz⟩
  intro fuel cs d ps hfu ht;cases hu:P.underlying t with
  |none=>rw[hu]at h1;cases h1
  |some desc=>
   rw[hu]at h1
   cases desc<;>simp only[reduceCtorEq,bai,jaa]at h1
   case bool=>
    subst h1;obtain⟨b,rfl,hx⟩:=DataW.trod_bool hu ht
    cases hx;exact⟨_,⟨_,rfl,rfl⟩,a_.one (.bool _),by simp[bI,AV.one],by simp[Sh.size]⟩
   case int k=>
    subst h1;obtain⟨b,rfl,hx,hwf⟩:=DataW.trod_int hu ht
    cases hx;exact⟨_,⟨_,rfl,hwf,rfl⟩,a_.one (.int _ _),by simp[bI,AV.one],by simp[Sh.size]⟩
   case string=>
    subst h1;obtain⟨s,rfl,hx,hk⟩:=DataW.trod_string hu ht
    cases hx;refine⟨_,⟨_,rfl,?_,rfl⟩,a_.one ?_,by simp[bI,AV.one],by simp[Sh.size]⟩
    ·simpa using hk
    ·have:=bo.str (X:=RX.start W) s.data.toList
     simpa using this
   case pointer e=>
    obtain⟨s,hs,h1⟩:=h1
    split at h1
    case isFalse=>cases h1
    rename_i bcn;simp only[bae]at h1
    subst h1;obtain⟨hr,he⟩:=ih e s hs
    rcases DataW.trod_pointer hu ht with⟨rfl,hx⟩|⟨a,cs',y,m,rfl,rfl,hx,hcs',hd'⟩
    ·cases hx
     exact⟨_,.inl ⟨rfl,rfl⟩,a_.one .gC,by simp[bI,AV.one],by simp[Sh.size]⟩
    ·obtain⟨d',p'⟩:=y
     cases hx;obtain⟨avs,a1,a2,a3,a4⟩:=hr _ _ _ _ (by omega) hd'
     obtain⟨_,c2,c3⟩:=World.cells?_some hcs'
     have h0:∃v,W.cell? (a.add 0)=some v:=by
      have:=c3 0 (by omega)
      rw[this];exact⟨_,bbq (by omega)⟩
     obtain⟨v0,h0⟩:=h0
     obtain⟨g1,g2⟩:=lL h0
     obtain⟨b,o,sp⟩:=a
     simp only[Addr.add,if_true]at g1 g2
     subst g1;refine⟨_,.inr ⟨_,_,rfl,a1,rfl⟩,a_.one (.fp _ b o cs' (kG g2) ?_ a3 a2),by simp[bI,AV.one],by simp[Sh.size]⟩
     intro i v hi;have hlt:=(bbt.1 hi).1
     have:=c3 i (by omega)
     rw[hi,ib]at this
     exact this
   case slice e=>
    obtain⟨s,hs,rfl⟩:=h1
    obtain⟨hr,he⟩:=ih e s hs
    rcases DataW.trod_slice hu ht with⟨rfl,hx⟩|⟨a,len,cap,elems,rest,m,rfl,rfl,hx,_,hle,r9,hl1,bcm,bcv,_⟩
    ·cases hx
     exact⟨_,.inl ⟨rfl,rfl⟩,a_.one .ax,by simp[bI,AV.one],by simp[Sh.size]⟩
    ·cases hx
     obtain⟨hl2,_⟩:=bcv rfl
     obtain⟨css,vs,g1,g2,g3,g4,g5⟩:=kF hr he (by omega) hl1 bcm len (bab _)
     rw[bar (by omega)]at g1
     refine⟨_,.inr ⟨_,_,css,rfl,by simp;omega,g1,rfl⟩,a_.one ?_,by simp[bI,AV.one],by simp[Sh.size]⟩
     have hel' :(elems.map (·.1)).length=len:=by simp[hl1]
     rw[hel'];refine .fs _ len _ a cap vs hle (fun hf=> ?_) (fun hne=> ?_) g3 g2
     ·simp only[List.isEmpty_iff,List.map_eq_nil_iff]at hf
      subst hf;simp at hl2;omega
     ·have hvs:0<vs.length:=by
       rw[←g2.length];exact List.length_pos_iff.2 hne
      have h0:=g5 0 _ (bbq hvs)
      obtain⟨q1,q2⟩:=lL h0
      obtain⟨b,o,sp⟩:=a
      simp only[Addr.add,if_true]at q1 q2
      subst q1;refine⟨b,o,rfl,kG q2,fun i v hi=> ?_⟩
      have:=g5 i v hi
      rw[ib]at this
      exact this
   case struct fs=>
    obtain⟨l,hl,rfl⟩:=h1
    obtain⟨xs,m,rfl,hx,hlen,hxl,bcm⟩:=DataW.trod_struct hu ht
    cases hx;obtain⟨avs,a1,a2,a3⟩:=jv (fun t s hts=>ih t s hts) (by omega) fs.toList 0 l xs hl (by simpa using hxl) (fun i f hf=>bcm i f (by simpa using hf))
    simp only[Sh.size]at hsz
    refine⟨avs,⟨_,rfl,a1⟩,?_,a3,by rw[hlen,hsz];rfl⟩
    rw[bah,bar (by omega)]at a2
    exact a2
end
def Sh.whole:Sh→List AV→AV
 |.agg _,vs=>.agg vs
 |_,[v]=>v
 |_,_=>.undef
def FitsArgs {H:Type}:List (Nat→Sh)→List (DataW H)→List AV→Prop
 |[],ds,vs=>ds=[]∧vs=[]
 |g::l,ds,vs=>∃n d ds' cs vs',ds=d::ds' ∧vs=(g n).whole cs::vs' ∧Fits (g n) d cs∧FitsArgs l ds' vs'
def U4 (P:Program):List (Nat→Sh)→List TypeId→Prop
 |[],[]=>True
 |g::gs,t::ts=>(∀n,shOf P n t=some (g n))∧U4 P gs ts
 |_,_=>False
section
variable {H : Type} {enc : TypeId × Value → H} {P : Program} {W : World}
theorem w8 {t:TypeId} {n base:Nat} {sh:Sh} (hs:shOf P n t=some sh) {d:DataW H} {v:Value} (hok:Value.okWide P W .any base t v) {avs:List AV} (h0:Fits sh d avs) (h1:a_ (RX.start W) avs v.cells.toList) (h2:bI avs) (h3:avs.length=sh.size):
  bo (RX.start W) (sh.whole avs) v:=by
 cases n with
 |zero=>
  simp only[shOf,bae]at hs
  subst hs;exact h0.elim
 |succ n=>
 simp only[shOf,bac]at hs
 obtain⟨sh',g1,g2⟩:=hs
 split at g2
 case isFalse=>cases g2
 simp only[bae]at g2
 subst g2;unfold Value.okWide at hok
 have one:(∀l,sh' ≠ .agg l)→(∀cs,v≠ .agg cs)→bo (RX.start W) (sh'.whole avs) v:=by
  intro hna hnv;have hl:avs.length=1:=by
   rw[h3];cases sh' <;>first|rfl|exact h0.elim|exact absurd rfl (hna _)
  match avs,hl,h1 with
  |[x],_,h1=>
   have hw:sh'.whole [x]=x:=by cases sh' <;>first|rfl|exact absurd rfl (hna _)
   rw[hw];have hc:v.cells.toList=[v]:=by cases v<;>first|rfl|exact absurd rfl (hnv _)
   rw[hc]at h1
   cases h1 with
   |cons _ _ _ _ hv _=>exact hv
 have cell:∀{b:Nat} {u:Value},Cell.okWide P W .any b t u→(∀fs,P.underlying t≠some (.struct fs))→∀cs,u≠ .agg cs:=by
  rintro b u hc hns cs rfl
  unfold Cell.okWide at hc
  split at hc<;>first|(rename_i hh;cases hh;done)|skip
  all_goals first|(rename_i hh _;cases hh;done)|skip
  all_goals (try (unfold Cell.ok at hc;split at hc<;>simp_all))
 cases hu:P.underlying t with
 |none=>rw[hu]at g1;cases g1
 |some desc=>
  rw[hu]at g1 hok
  cases desc<;>simp only[reduceCtorEq,bai,jaa]at g1
  case bool=>subst g1;exact one (by simp) (cell hok (by simp[hu]))
  case int=>subst g1;exact one (by simp) (cell hok (by simp[hu]))
  case string=>subst g1;exact one (by simp) (cell hok (by simp[hu]))
  case pointer=>
   obtain⟨s,_,g1⟩:=g1
   split at g1
   ·simp only[bae]at g1;subst g1;exact one (by simp) (cell hok (by simp[hu]))
   ·cases g1
  case slice=>obtain⟨s,_,rfl⟩:=g1;exact one (by simp) (cell hok (by simp[hu]))
  case struct fs=>
   obtain⟨l,_,rfl⟩:=g1
   obtain⟨cs,rfl,_,_⟩:=hok
   have:=bo.agg (X:=RX.start W) avs cs.toList h2 h1
   simpa[Sh.whole]using this
theorem args_fit {base:Nat}:∀{ts:List TypeId} {shs:List (Nat→Sh)} {vs:List Value} {ds:List (DataW H)} {ps:List MemPlace},U4 P shs ts→
  (∀(j:Nat) t v,ts[j]? =some t→vs[j]? =some v→Value.okWide P W .any base t v)→DataW.TrodAll enc P W 0 (fun _=>true) true ts vs ds ps→
  ∃avs,FitsArgs shs ds avs∧a_ (RX.start W) avs vs
 |[],[],[],[],ps,h,_,ht=>⟨[],⟨rfl,rfl⟩,.nil⟩
 |[],_::_,_,_,_,h,_,ht=>h.elim
 |_::_,[],_,_,_,h,_,ht=>h.elim
 |[],_,_::_,_,_,_,_,ht=>ht.elim
 |[],_,[],_::_,_,_,_,ht=>ht.elim
 |_::_,_,[],_,_,_,_,ht=>ht.elim
 |_::_,_,_::_,[],_,_,_,ht=>ht.elim
 |t::ts,g::gs,v::vs,d::ds,ps,h,hok,ht=>by
  obtain⟨hs,hl⟩:=h
  obtain⟨p,q,⟨fuel,h1⟩,h2,_⟩:=ht
  obtain⟨avs,a1,a2,a3,a4⟩:=(A0 (enc:=enc) (W:=W) fuel t (g fuel) (hs fuel)).1 _ _ _ _ (bab _) h1
  obtain⟨rest,b1,b2⟩:=args_fit hl (fun j t' v' hj hv=>hok (j+1) t' v' (by simpa using hj) (by simpa using hv)) h2
  exact⟨_,⟨fuel,d,ds,avs,rest,rfl,rfl,a1,b1⟩,.cons _ _ _ _ (w8 (hs fuel) (hok 0 t v rfl rfl) a1 a2 a3 a1.length) b2⟩
end
end Go.AM.R
