/- For BifCalls. -/
import Derived.Test.YtaielgjmhbjfhaaGreatDoorAmTr
import Derived.Below
set_option linter.unusedVariables false
namespace Go.AM
open Go.RowKit
structure Place where
 b:Nat
 o:Nat
 n:Nat
structure RX where
 w:World
 h:Heap
 ρ:Nat→Place
 F:Nat→Prop
 τ:Nat→Nat
def RX.Own (X:RX) (b:Nat):Prop:=(∃id o,X.h.look id=some o∧(X.ρ id).b=b)∨∃k,k<X.h.gg.length∧X.τ k=b
def RX.Still (X:RX) (b:Nat):Prop:=b<X.w.heap.size∧¬X.F b∧¬X.Own b
def gv (w:World) (b o:Nat) (vs:List Value):Prop:=∀i v,vs[i]? =some v→w.cell? ⟨b,o+i,none⟩=some v
def bI (cs:List AV):Prop:=∀v∈cs,v.one=true
mutual
inductive bo (X:RX):AV→Value→Prop
 |bool (b:Bool):bo X (.bool b) (.bool b)
 |int (k:IntKind) (n:Int):bo X (.int k n) (.int k n)
 |str (s:List UInt8):bo X (.str s) (.string ⟨s.toArray⟩)
 |gC:bo X .gC (.pointer none)
 |ax:bo X .ax (.slice none 0 0)
 |qt:bo X .qt (.map none)
 |qk:bo X .qk .nilFunc
 |bL:bo X .bL .nilIface
 |ptr (id gen off:Nat) (a:Addr) (hid:id<X.h.next)
   (mn:∀o,X.h.look id=some o→gen≤o.gen∧(gen=o.gen→a=⟨(X.ρ id).b,(X.ρ id).o+off,none⟩)):
   bo X (.ptr id gen off) (.pointer (some a))
 |sl (id gen off sz len:Nat) (cap:Option Nat) (a:Addr) (n:Nat) (hid:id<X.h.next) (hlen:len≤n)
   (r9:∀c,cap=some c→n=c)
   (mn:∀o,X.h.look id=some o→gen≤o.gen∧
    (gen=o.gen→(0<n→a=⟨(X.ρ id).b,(X.ρ id).o+off,none⟩)∧(X.ρ id).o+off+n*sz≤(X.ρ id).n∧(cap=none→(X.ρ id).o+off+n*sz=(X.ρ id).n))):
   bo X (.sl id gen off sz len cap) (.slice (some a) len n)
 |fp (cells:List AV) (b o:Nat) (vs:List Value) (hst:X.Still b) (hat:gv X.w b o vs) (h1:bI cells) (hvs:a_ X cells vs):
   bo X (.fp cells) (.pointer (some ⟨b,o,none⟩))
 |fs (full:Bool) (len:Nat) (cells:List AV) (a:Addr) (n:Nat) (vs:List Value) (hlen:len≤n) (bca:full=true→n=len)
   (hat:cells≠[]→∃b o,a=⟨b,o,none⟩∧X.Still b∧gv X.w b o vs) (h1:bI cells) (hvs:a_ X cells vs):
   bo X (.fs full len cells) (.slice (some a) len n)
 |fn (f:Fn) (a b:List AV) (a' b' :List Value) (ha:a_ X a a') (hb:a_ X b b'):bo X (.fn f a b) (.func f a'.toArray b'.toArray)
 |fN (t:TypeId) (v:AV) (v' :Value) (hv:bo X v v'):bo X (.fN t v) (.iface t v')
 |agg (cs:List AV) (cs' :List Value) (h1:bI cs) (hv:a_ X cs cs'):bo X (.agg cs) (.agg cs'.toArray)
 |aF (vs:List AV) (vs' :List Value) (hv:a_ X vs vs'):bo X (.aF vs) (.tuple vs'.toArray)
 |xO (k:Nat) (hk:k<X.h.gg.length):bo X (.xO k) (.pointer (some ⟨X.τ k,0,none⟩))
inductive a_ (X:RX):List AV→List Value→Prop
 |nil:a_ X [] []
 |cons (v:AV) (v' :Value) (vs:List AV) (vs' :List Value) (hv:bo X v v') (hvs:a_ X vs vs'):a_ X (v::vs) (v' ::vs')
end
structure Ext (X X' :RX):Prop where
 F:X'.F=X.F
 next:X.h.next≤X'.h.next
 size:X.w.heap.size≤X'.w.heap.size
 other:∀b,b<X.w.heap.size→¬X.Own b→X'.w.heap[b]? =X.w.heap[b]? ∧¬X'.Own b
 obj:∀id o',id<X.h.next→X'.h.look id=some o' →∃o,X.h.look id=some o∧o.gen≤o'.gen∧(o.gen=o'.gen→X'.ρ id=X.ρ id)
 gg:X.h.gg.length≤X'.h.gg.length∧∀k,k<X.h.gg.length→X'.τ k=X.τ k
theorem Ext.refl (X:RX):Ext X X:=⟨rfl,bab _,bab _,fun _ _ h=>⟨rfl,h⟩,fun _ o' _ h=>⟨o',h,bab _,fun _=>rfl⟩,bab _,fun _ _=>rfl⟩
theorem Ext.trans {X Y Z:RX} (h:Ext X Y) (k:Ext Y Z):Ext X Z where
 F:=k.F.trans h.F
 next:=bal h.next k.next
 size:=bal h.size k.size
 other b hb ho:=
  let ⟨e,n⟩:=h.other b hb ho
  let ⟨e',n'⟩:=k.other b (baz hb h.size) n
  ⟨e'.trans e,n'⟩
 obj id o' hid hl:=by
  obtain⟨o1,h1,g1,r1⟩:=k.obj id o' (baz hid h.next) hl
  obtain⟨o2,h2,g2,r2⟩:=h.obj id o1 hid h1
  exact⟨o2,h2,bal g2 g1,fun e=>(r1 (Nat.le_antisymm g1 (e▸g2))).trans (r2 (Nat.le_antisymm g2 (e▸g1)))⟩
 gg:=⟨bal h.gg.1 k.gg.1,fun j hj=>(k.gg.2 j (baz hj h.gg.1)).trans (h.gg.2 j hj)⟩
theorem Ext.still {X X' :RX} (h:Ext X X') {b:Nat} (hs:X.Still b):X'.Still b:=
 ⟨baz hs.1 h.size,by rw[h.F];exact hs.2.1,(h.other b hs.1 hs.2.2).2⟩
theorem Ext.Qj {X X' :RX} (h:Ext X X') {b o:Nat} {vs:List Value} (hs:X.Still b) (hc:gv X.w b o vs):gv X'.w b o vs:=
 fun i v hv=>by
  rw[←hc i v hv];have:=(h.other b hs.1 hs.2.2).1
  simp only[World.cell?,this]
mutual
theorem bo.ext {X X' :RX} (h:Ext X X'):∀{v:AV} {c:Value},bo X v c→bo X' v c
 |_,_,.bool b=>.bool b
 |_,_,.int k n=>.int k n
 |_,_,.str s=>.str s
 |_,_,.gC=>.gC
 |_,_,.ax=>.ax
 |_,_,.qt=>.qt
 |_,_,.qk=>.qk
 |_,_,.bL=>.bL
 |_,_,.ptr id gen off a hid mn=>.ptr id gen off a (baz hid h.next) fun o' ho' =>by
   obtain⟨o,ho,hg,hr⟩:=h.obj id o' hid ho'
   obtain⟨l1,l2⟩:=mn o ho
   refine⟨bal l1 hg,fun e=> ?_⟩
   have e1:gen=o.gen:=Nat.le_antisymm l1 (e▸hg)
   rw[hr (e1▸e)]
   exact l2 e1
 |_,_,.sl id gen off sz len cap a n hid hlen r9 mn=>.sl id gen off sz len cap a n (baz hid h.next) hlen r9 fun o' ho' =>by
   obtain⟨o,ho,hg,hr⟩:=h.obj id o' hid ho'
   obtain⟨l1,l2⟩:=mn o ho
   refine⟨bal l1 hg,fun e=> ?_⟩
   have e1:gen=o.gen:=Nat.le_antisymm l1 (e▸hg)
   rw[hr (e1▸e)]
   exact l2 e1
 |_,_,.fp cells b o vs hst hat h1 hvs=>.fp cells b o vs (h.still hst) (h.Qj hst hat) h1 (hvs.ext h)
 |_,_,.fs full len cells a n vs hlen bca hat h1 hvs=>.fs full len cells a n vs hlen bca (fun hne=>by
   obtain⟨b,o,e,hst,hc⟩:=hat hne
   exact⟨b,o,e,h.still hst,h.Qj hst hc⟩) h1 (hvs.ext h)
 |_,_,.fn f a b a' b' ha hb=>.fn f a b a' b' (ha.ext h) (hb.ext h)
 |_,_,.fN t v v' hv=>.fN t v v' (hv.ext h)
 |_,_,.agg cs cs' h1 hv=>.agg cs cs' h1 (hv.ext h)
 |_,_,.aF vs vs' hv=>.aF vs vs' (hv.ext h)
 |_,_,.xO k hk=>by rw[←h.gg.2 k hk];exact .xO k (baz hk h.gg.1)
theorem a_.ext {X X' :RX} (h:Ext X X'):∀{v:List AV} {c:List Value},a_ X v c→a_ X' v c
 |_,_,.nil=>.nil
 |_,_,.cons v v' vs vs' hv hvs=>.cons v v' vs vs' (hv.ext h) (hvs.ext h)
end
section
variable {X : RX}
theorem a_.length:∀{vs:List AV} {cs:List Value},a_ X vs cs→vs.length=cs.length
 |_,_,.nil=>rfl
 |_,_,.cons _ _ _ _ _ h=>by simp[h.length]
theorem a_.get:∀{vs:List AV} {cs:List Value},a_ X vs cs→∀{i:Nat} {v:AV},vs[i]? =some v→∃c,cs[i]? =some c∧bo X v c
 |_,_,.nil,i,v,h=>by simp at h
 |_,_,.cons v v' vs vs' hv hvs,0,u,h=>by simp at h;exact⟨v',rfl,h▸hv⟩
 |_,_,.cons v v' vs vs' hv hvs,i+1,u,h=>by simp at h;simpa using hvs.get h
theorem a_.append:∀{a b:List AV} {a' b' :List Value},a_ X a a' →a_ X b b' →a_ X (a++b) (a' ++b')
 |_,_,_,_,.nil,h=>h
 |_,_,_,_,.cons v v' vs vs' hv hvs,h=>.cons v v' _ _ hv (hvs.append h)
theorem a_.drop:∀{a:List AV} {a' :List Value},a_ X a a' →∀n,a_ X (a.drop n) (a'.drop n)
 |_,_,.nil,n=>by simp;exact .nil
 |_,_,.cons v v' vs vs' hv hvs,0=>.cons v v' vs vs' hv hvs
 |_,_,.cons v v' vs vs' hv hvs,n+1=>hvs.drop n
theorem a_.take:∀{a:List AV} {a' :List Value},a_ X a a' →∀n,a_ X (a.take n) (a'.take n)
 |_,_,.nil,n=>by simp;exact .nil
 |_,_,.cons v v' vs vs' hv hvs,0=>.nil
 |_,_,.cons v v' vs vs' hv hvs,n+1=>.cons v v' _ _ hv (hvs.take n)
theorem a_.one {v:AV} {c:Value} (h:bo X v c):a_ X [v] [c]:=.cons _ _ _ _ h .nil
theorem a_.replicate {v:AV} {c:Value} (h:bo X v c):∀n,a_ X (List.replicate n v) (List.replicate n c)
 |0=>.nil
 |n+1=>.cons _ _ _ _ h (a_.replicate h n)
theorem a_.f_ {v:List AV} {c:List Value} (h:a_ X v c):∀n,a_ X (List.replicate n v).flatten (List.replicate n c).flatten
 |0=>.nil
 |n+1=>by simp only[List.replicate_succ,List.flatten_cons];exact h.append (a_.f_ h n)
theorem a_.bU {a b:List AV} {a' b' :List Value} (h:a_ X a a') (k:a_ X b b') (off:Nat):
  a_ X (AM.bU a off b) (a'.take off++b' ++a'.drop (off+b'.length)):=by
 unfold AM.bU
 rw[←k.length];exact((h.take off).append k).append (h.drop _)
end
theorem bI.append {a b:List AV} (h:bI a) (k:bI b):bI (a++b):=fun v hv=>by
 rcases List.mem_append.1 hv with hv|hv
 ·exact h v hv
 ·exact k v hv
theorem bI.drop {a:List AV} (h:bI a) (n:Nat):bI (a.drop n):=fun v hv=>h v (List.mem_of_mem_drop hv)
theorem bI.take {a:List AV} (h:bI a) (n:Nat):bI (a.take n):=fun v hv=>h v (List.mem_of_mem_take hv)
theorem bI.bU {a b:List AV} (h:bI a) (k:bI b) (off:Nat):bI (AM.bU a off b):=
 ((h.take off).append k).append (h.drop _)
def CX (n:Nat) (fz:Nat×Nat):Prop:=fz=(0,0)∨n≤fz.1
structure yd (X:RX) (p:Place) (cs:List AV):Prop where
 cells:∃(arr:Array Value) (T:TypeId) (fz:Nat×Nat),X.w.heap[p.b]? =some (.cells arr T fz)∧arr.size=p.n∧p.o+cs.length≤p.n∧CX p.n fz∧
  a_ X cs ((arr.toList.drop p.o).take cs.length)
 one:bI cs
structure Rel (B:Nat) (w0:World) (E:Env) (X:RX):Prop where
 below:Below B w0 X.w
 base:B≤X.w.heap.size
 lt:∀id o,X.h.look id=some o→id<X.h.next
 obj:∀id o,X.h.look id=some o→yd X (X.ρ id) o.cells
 inj:∀id id' o o',X.h.look id=some o→X.h.look id' =some o' →(X.ρ id).b=(X.ρ id').b→id=id'
 fresh:∀id o,X.h.look id=some o→B≤(X.ρ id).b∧¬X.F (X.ρ id).b
 Lq:∀b,X.F b→b<X.w.heap.size
 jn:∀g cs,E.jn g=some cs→bo X (.fp cs) (.pointer (some ⟨g,0,none⟩))
 start:E.ok B w0
 gg:∀k s p,X.h.gg[k]? =some (s,p)→X.w.heap[X.τ k]? =some (.stringIter ⟨s.toArray⟩ p)∧B≤X.τ k∧¬X.F (X.τ k)
 UR:∀j k,j<X.h.gg.length→k<X.h.gg.length→X.τ j=X.τ k→j=k
theorem yd.ext {X X' :RX} (h:Ext X X') {p:Place} {cs:List AV} (hb:X'.w.heap[p.b]? =X.w.heap[p.b]?) (k:yd X p cs):yd X' p cs:=by
 obtain⟨⟨arr,T,fz,h1,h2,h3,h4,h5⟩,k2⟩:=k
 exact⟨⟨arr,T,fz,by rw[hb];exact h1,h2,h3,h4,h5.ext h⟩,k2⟩
theorem yd.lt {X:RX} {p:Place} {cs:List AV} (k:yd X p cs):p.b<X.w.heap.size:=by
 obtain⟨⟨arr,T,fz,h1,_⟩,_⟩:=k
 exact(bbh.1 h1).1
theorem Heap.gx (h:Heap) (cs:List AV) (id:Nat):(h.new cs).look id=if id=h.next then some ⟨0,cs⟩else h.look id:=by
 simp only[Heap.look,Heap.new,Tr.o4]
theorem Heap.eZ (h:Heap) (id gen:Nat) (cs:List AV) (id' :Nat):(h.cD id gen cs).look id' =if id' =id then some ⟨gen,cs⟩else h.look id' :=by
 simp only[Heap.look,Heap.cD,Tr.o4]
theorem Heap.gY {h:Heap} {id gen:Nat} {cs:List AV} (e:h.at_ id gen=some cs):h.look id=some ⟨gen,cs⟩:=by
 unfold Heap.at_ at e
 unfold Heap.look
 cases ho:h.tr.get id with
 |none=>rw[ho]at e;cases e
 |some o=>
  rw[ho]at e
  dsimp only at e
  cases hg:Nat.beq o.gen gen with
  |false=>rw[hg]at e;cases e
  |true=>
   rw[hg]at e
   have:=Nat.eq_of_beq_eq_true hg
   cases o
   simp_all
section
variable {B : Nat} {w0 : World} {E : Env} {X : RX}
theorem Ext.grow (X:RX) {w' :World} (hb:Below X.w.heap.size X.w w'):Ext X {X with w:=w' }:=
 ⟨rfl,bab _,hb.size,fun b h1 h2=>⟨hb.block b h1,h2⟩,fun _ o' _ h=>⟨o',h,bab _,fun _=>rfl⟩,bab _,fun _ _=>rfl⟩
theorem Rel.grow (h:Rel B w0 E X) {w' :World} (hb:Below X.w.heap.size X.w w'):Rel B w0 E {X with w:=w' } where
 below:=h.below.trans (hb.mono h.base)
 base:=bal h.base hb.size
 lt:=h.lt
 obj id o ho:=(h.obj id o ho).ext (Ext.grow X hb) (hb.block _ (h.obj id o ho).lt)
 inj:=h.inj
 fresh:=h.fresh
 Lq b hF:=baz (h.Lq b hF) hb.size
 jn g cs hg:=(h.jn g cs hg).ext (Ext.grow X hb)
 start:=h.start
 gg k s p hk:=by
  obtain⟨h1,h2,h3⟩:=h.gg k s p hk
  exact⟨by rw[hb.block _ (bbh.1 h1).1];exact h1,h2,h3⟩
 UR:=h.UR
def RX.new (X:RX) (w' :World) (cs:List AV) (b n:Nat):RX:=
 {X with w:=w',h:=X.h.new cs,ρ:=fun id=>if id=X.h.next then⟨b,0,n⟩else X.ρ id}
theorem Ext.new (h:Rel B w0 E X) {w' :World} (hb:Below X.w.heap.size X.w w') (cs:List AV) {b:Nat} (hbn:X.w.heap.size≤b) (n:Nat):Ext X (X.new w' cs b n) where
 F:=rfl
 next:=Nat.le_succ _
 size:=hb.size
 other k hk hno:=by
  refine⟨hb.block k hk,?_⟩
  rintro(⟨id,o,ho,he⟩|⟨j,hj,he⟩)
  ·simp only[RX.new,Heap.gx]at ho he
   by_cases hid:id=X.h.next
   ·rw[if_pos hid]at he;dsimp only at he;omega
   ·rw[if_neg hid]at ho he;exact hno (.inl ⟨id,o,ho,he⟩)
  ·exact hno (.inr ⟨j,hj,he⟩)
 obj id o' hid ho:=by
  have hne:id≠X.h.next:=Nat.ne_of_lt hid
  simp only[RX.new,Heap.gx,if_neg hne]at ho
  exact⟨o',ho,bab _,fun _=>if_neg hne⟩
 gg:=⟨bab _,fun _ _=>rfl⟩
theorem Rel.new (h:Rel B w0 E X) {w' :World} (hb:Below X.w.heap.size X.w w') {cs:List AV} {b:Nat} (hbn:X.w.heap.size≤b) (h1:bI cs)
  {arr:Array Value} {T:TypeId} {fz:Nat×Nat} (hat:w'.heap[b]? =some (.cells arr T fz)) (hfz:CX arr.size fz) (hle:cs.length≤arr.size)
  (hvs:a_ X cs (arr.toList.take cs.length)):Rel B w0 E (X.new w' cs b arr.size):=by
 have hE:=Ext.new h hb cs hbn arr.size
 constructor
 ·exact h.below.trans (hb.mono h.base)
 ·exact bal h.base hb.size
 ·intro id o ho
  simp only[RX.new,Heap.gx]at ho⊢
  by_cases hid:id=X.h.next
  ·subst hid;exact Nat.lt_succ_self _
  ·rw[if_neg hid]at ho;exact Nat.lt_succ_of_lt (h.lt id o ho)
 ·intro id o ho
  by_cases hid:id=X.h.next
  ·subst hid
   simp only[RX.new,Heap.gx,↓reduceIte]at ho
   cases ho;refine⟨⟨arr,T,fz,?_,?_,?_,?_,?_⟩,h1⟩
   ·simp only[RX.new,↓reduceIte];exact hat
   ·simp only[RX.new,↓reduceIte]
   ·simp only[RX.new,↓reduceIte];omega
   ·simp only[RX.new,↓reduceIte];exact hfz
   ·simp only[RX.new,↓reduceIte,bah];exact hvs.ext hE
  ·have ho' :X.h.look id=some o:=by simp only[RX.new,Heap.gx,if_neg hid]at ho;exact ho
   have hr:(X.new w' cs b arr.size).ρ id=X.ρ id:=by simp only[RX.new,if_neg hid]
   rw[hr];exact(h.obj id o ho').ext hE (hb.block _ (h.obj id o ho').lt)
 ·intro id id' o o' ho ho' he
  simp only[RX.new,Heap.gx]at ho ho' he
  by_cases hid:id=X.h.next
  ·by_cases hid' :id' =X.h.next
   ·rw[hid,hid']
   ·rw[if_neg hid']at ho' he
    rw[if_pos hid]at he
    have:=(h.obj id' o' ho').lt
    dsimp only at he
    omega
  ·rw[if_neg hid]at ho he
   by_cases hid' :id' =X.h.next
   ·rw[if_pos hid']at he
    have:=(h.obj id o ho).lt
    dsimp only at he
    omega
   ·rw[if_neg hid']at ho' he
    exact h.inj id id' o o' ho ho' he
 ·intro id o ho
  simp only[RX.new,Heap.gx]at ho⊢
  by_cases hid:id=X.h.next
  ·rw[if_pos hid]
   exact⟨bal h.base hbn,fun hF=>by have:=h.Lq _ hF;dsimp only at this;omega⟩
  ·rw[if_neg hid]at ho⊢
   exact h.fresh id o ho
 ·intro k hF
  exact baz (h.Lq k hF) hb.size
 ·intro g cs' hg
  exact(h.jn g cs' hg).ext hE
 ·exact h.start
 ·intro k s p hk
  obtain⟨g1,g2,g3⟩:=h.gg k s p hk
  exact⟨by rw[show(X.new w' cs b arr.size).w.heap[(X.new w' cs b arr.size).τ k]? =w'.heap[X.τ k]? from rfl,hb.block _ (bbh.1 g1).1];exact g1,g2,g3⟩
 ·exact h.UR
structure Jd (b:Nat) (w w' :World):Prop where
 os:w'.os=w.os
 tape:w'.tape=w.tape
 output:w'.output=w.output
 size:w.heap.size≤w'.heap.size
 block:∀k,k<w.heap.size→k≠b→w'.heap[k]? =w.heap[k]?
def RX.cD (X:RX) (w' :World) (id gen:Nat) (cs:List AV) (p:Place):RX:=
 {X with w:=w',h:=X.h.cD id gen cs,ρ:=fun k=>if k=id then p else X.ρ k}
theorem Ext.cD (h:Rel B w0 E X) {w' :World} {id:Nat} {o:SA} (hl:X.h.look id=some o) (hw:Jd (X.ρ id).b X.w w') {gen:Nat} {cs:List AV} {p:Place}
  (hg:o.gen≤gen) (hp:o.gen=gen→p=X.ρ id) (hpb:p.b=(X.ρ id).b∨X.w.heap.size≤p.b):Ext X (X.cD w' id gen cs p) where
 F:=rfl
 next:=bab _
 size:=hw.size
 other k hk hno:=by
  have hkb:k≠(X.ρ id).b:=fun e=>hno (.inl ⟨id,o,hl,e.symm⟩)
  refine⟨hw.block k hk hkb,?_⟩
  rintro(⟨id',o',ho',he⟩|⟨j,hj,he⟩)
  ·simp only[RX.cD,Heap.eZ]at ho' he
   by_cases hid:id' =id
   ·rw[if_pos hid]at he
    rcases hpb with e|e
    ·exact hkb (by rw[←he,e])
    ·omega
   ·rw[if_neg hid]at ho' he;exact hno (.inl ⟨id',o',ho',he⟩)
  ·exact hno (.inr ⟨j,hj,he⟩)
 obj id' o' hid ho:=by
  simp only[RX.cD,Heap.eZ]at ho⊢
  by_cases he:id' =id
  ·subst he
   rw[if_pos rfl]at ho⊢
   cases ho;exact⟨o,hl,hg,hp⟩
  ·rw[if_neg he]at ho⊢
   exact⟨o',ho,bab _,fun _=>rfl⟩
 gg:=⟨bab _,fun _ _=>rfl⟩
theorem Rel.cD (h:Rel B w0 E X) {w' :World} {id:Nat} {o:SA} (hl:X.h.look id=some o) (hw:Jd (X.ρ id).b X.w w') {gen:Nat} {cs:List AV} {p:Place}
  (hg:o.gen≤gen) (hp:o.gen=gen→p=X.ρ id) (hpb:p.b=(X.ρ id).b∨X.w.heap.size≤p.b) (h1:bI cs)
  {arr:Array Value} {T:TypeId} {fz:Nat×Nat} (hat:w'.heap[p.b]? =some (.cells arr T fz)) (hn:arr.size=p.n) (hfz:CX p.n fz) (hle:p.o+cs.length≤p.n)
  (hvs:a_ X cs ((arr.toList.drop p.o).take cs.length)):Rel B w0 E (X.cD w' id gen cs p):=by
 have hE:=Ext.cD h hl hw (cs:=cs) hg hp hpb
 have hB:=h.fresh id o hl
 constructor
 ·refine⟨hw.os.trans h.below.os,hw.tape.trans h.below.tape,hw.output.trans h.below.output,bal h.below.size hw.size,fun k hk=> ?_⟩
  rw[←h.below.block k hk];exact hw.block k (baz hk h.base) (by omega)
 ·exact bal h.base hw.size
 ·intro id' o' ho'
  simp only[RX.cD,Heap.eZ]at ho' ⊢
  by_cases hid:id' =id
  ·subst hid;exact h.lt _ o hl
  ·rw[if_neg hid]at ho';exact h.lt id' o' ho'
 ·intro id' o' ho'
  by_cases hid:id' =id
  ·subst hid
   simp only[RX.cD,Heap.eZ,↓reduceIte]at ho'
   cases ho';have hr:(X.cD w' id' gen cs p).ρ id' =p:=by simp only[RX.cD,↓reduceIte]
   rw[hr];exact⟨⟨arr,T,fz,hat,hn,hle,hfz,hvs.ext hE⟩,h1⟩
  ·have ho2:X.h.look id' =some o' :=by simp only[RX.cD,Heap.eZ,if_neg hid]at ho';exact ho'
   have hr:(X.cD w' id gen cs p).ρ id' =X.ρ id' :=by simp only[RX.cD,if_neg hid]
   rw[hr];refine(h.obj id' o' ho2).ext hE (hw.block _ (h.obj id' o' ho2).lt fun e=>hid (h.inj id' id o' o ho2 hl e))
 ·intro i j oi oj hi hj he
  simp only[RX.cD,Heap.eZ]at hi hj he
  by_cases hid:i=id
  ·by_cases hjd:j=id
   ·rw[hid,hjd]
   ·rw[if_neg hjd]at hj he
    rw[if_pos hid]at he
    rcases hpb with e|e
    ·exact hid.trans (h.inj id j o oj hl hj (by rw[←e,he]))
    ·have:=(h.obj j oj hj).lt;omega
  ·rw[if_neg hid]at hi he
   by_cases hjd:j=id
   ·rw[if_pos hjd]at he
    rcases hpb with e|e
    ·exact(h.inj i id oi o hi hl (by rw[he,e])).trans hjd.symm
    ·have:=(h.obj i oi hi).lt;omega
   ·rw[if_neg hjd]at hj he
    exact h.inj i j oi oj hi hj he
 ·intro id' o' ho'
  simp only[RX.cD,Heap.eZ]at ho' ⊢
  by_cases hid:id' =id
  ·rw[if_pos hid]
   rcases hpb with e|e
   ·rw[e];exact hB
   ·exact⟨bal h.base e,fun hF=>by have:=h.Lq _ hF;omega⟩
  ·rw[if_neg hid]at ho' ⊢
   exact h.fresh id' o' ho'
 ·intro k hF
  exact baz (h.Lq k hF) hw.size
 ·intro g cs' hg'
  exact(h.jn g cs' hg').ext hE
 ·exact h.start
 ·intro k s q hk
  obtain⟨g1,g2,g3⟩:=h.gg k s q hk
  have hne:X.τ k≠(X.ρ id).b:=by
   intro e;obtain⟨⟨arr',T',fz',q1,_⟩,_⟩:=h.obj id o hl
   rw[e,q1]at g1
   cases g1
  exact⟨by rw[show(X.cD w' id gen cs p).w.heap[(X.cD w' id gen cs p).τ k]? =w'.heap[X.τ k]? from rfl,hw.block _ (bbh.1 g1).1 hne];exact g1,g2,g3⟩
 ·exact h.UR
def RX.walk (X:RX) (w' :World) (s:List UInt8) (b:Nat):RX:={X with w:=w',h:=X.h.walk s,τ:=fun k=>if k=X.h.gg.length then b else X.τ k}
theorem Ext.walk (X:RX) {w' :World} (hb:Below X.w.heap.size X.w w') (s:List UInt8) {b:Nat} (hbn:X.w.heap.size≤b):Ext X (X.walk w' s b) where
 F:=rfl
 next:=bab _
 size:=hb.size
 other k hk hno:=by
  refine⟨hb.block k hk,?_⟩
  rintro(⟨id,o,ho,he⟩|⟨j,hj,he⟩)
  ·exact hno (.inl ⟨id,o,ho,he⟩)
  ·simp only[RX.walk,Heap.walk,ban,List.length_singleton]at hj he
   by_cases e:j=X.h.gg.length
   ·rw[if_pos e]at he;omega
   ·rw[if_neg e]at he;exact hno (.inr ⟨j,by omega,he⟩)
 obj id o' hid ho:=⟨o',ho,bab _,fun _=>rfl⟩
 gg:=⟨by simp only[RX.walk,Heap.walk,ban];omega,fun k hk=>by simp only[RX.walk];rw[if_neg (by omega)]⟩
theorem Rel.walk (h:Rel B w0 E X) {w' :World} (hb:Below X.w.heap.size X.w w') {s:List UInt8} {b:Nat} (hbn:X.w.heap.size≤b) (hat:w'.heap[b]? =some (.stringIter ⟨s.toArray⟩ 0)):Rel B w0 E (X.walk w' s b):=by
 have hE:=Ext.walk X hb s hbn
 have hlt:∀k,k<X.h.gg.length→X.τ k<X.w.heap.size:=fun k hk=>by
  obtain⟨g1,_⟩:=h.gg k X.h.gg[k].1 X.h.gg[k].2 (bbq hk)
  exact(bbh.1 g1).1
 constructor
 ·exact h.below.trans (hb.mono h.base)
 ·exact bal h.base hb.size
 ·exact h.lt
 ·exact fun id o ho=>(h.obj id o ho).ext hE (hb.block _ (h.obj id o ho).lt)
 ·exact h.inj
 ·exact h.fresh
 ·exact fun k hF=>baz (h.Lq k hF) hb.size
 ·exact fun g cs' hg=>(h.jn g cs' hg).ext hE
 ·exact h.start
 ·intro k t p hk
  simp only[RX.walk,Heap.walk]at hk⊢
  by_cases e:k=X.h.gg.length
  ·rw[if_pos e]
   rw[e,List.getElem?_append_right (bab _),Nat.sub_self]at hk
   simp only[bbr,bae,baw]at hk
   obtain⟨rfl,rfl⟩:=hk
   exact⟨hat,bal h.base hbn,fun hF=>by have:=h.Lq _ hF;omega⟩
  ·rw[if_neg e]
   have hk2:k<X.h.gg.length:=by
    have:=(bbt.1 hk).1
    simp only[ban,List.length_singleton]at this
    omega
   rw[List.getElem?_append_left hk2]at hk
   obtain⟨g1,g2,g3⟩:=h.gg k t p hk
   exact⟨by rw[hb.block _ (hlt k hk2)];exact g1,g2,g3⟩
 ·intro j k hj hk he
  simp only[RX.walk,Heap.walk,ban,List.length_singleton]at hj hk he
  by_cases e:j=X.h.gg.length
  ·by_cases e2:k=X.h.gg.length
   ·omega
   ·rw[if_pos e,if_neg e2]at he
    have:=hlt k (by omega);omega
  ·by_cases e2:k=X.h.gg.length
   ·rw[if_neg e,if_pos e2]at he
    have:=hlt j (by omega);omega
   ·rw[if_neg e,if_neg e2]at he
    exact h.UR j k (by omega) (by omega) he
def RX.step (X:RX) (w' :World) (k:Nat) (s:List UInt8) (p:Nat):RX:={X with w:=w',h:=X.h.step k s p}
theorem Ext.step (X:RX) {w' :World} {k:Nat} (hk:k<X.h.gg.length) (hw:Jd (X.τ k) X.w w') (s:List UInt8) (p:Nat):Ext X (X.step w' k s p) where
 F:=rfl
 next:=bab _
 size:=hw.size
 other b hb hno:=by
  refine⟨hw.block b hb fun e=>hno (.inr ⟨k,hk,e.symm⟩),?_⟩
  rintro(⟨id,o,ho,he⟩|⟨j,hj,he⟩)
  ·exact hno (.inl ⟨id,o,ho,he⟩)
  ·exact hno (.inr ⟨j,by simpa only[RX.step,Heap.step,List.length_set]using hj,he⟩)
 obj id o' hid ho:=⟨o',ho,bab _,fun _=>rfl⟩
 gg:=⟨by simp only[RX.step,Heap.step,List.length_set];exact bab _,fun _ _=>rfl⟩
theorem Rel.step (h:Rel B w0 E X) {w' :World} {k:Nat} {s:List UInt8} {p0 p:Nat} (hk:X.h.gg[k]? =some (s,p0)) (hw:Jd (X.τ k) X.w w') (hat:w'.heap[X.τ k]? =some (.stringIter ⟨s.toArray⟩ p)):Rel B w0 E (X.step w' k s p):=by
 have hkl:=(bbt.1 hk).1
 obtain⟨e1,e2,e3⟩:=h.gg k s p0 hk
 have hE:=Ext.step X hkl hw s p
 have hne:∀id o,X.h.look id=some o→(X.ρ id).b≠X.τ k:=by
  intro id o ho e;obtain⟨⟨arr',T',fz',q1,_⟩,_⟩:=h.obj id o ho
  rw[e,e1]at q1
  cases q1
 constructor
 ·refine⟨hw.os.trans h.below.os,hw.tape.trans h.below.tape,hw.output.trans h.below.output,bal h.below.size hw.size,fun b hb=> ?_⟩
  rw[←h.below.block b hb];exact hw.block b (baz hb h.base) (by omega)
 ·exact bal h.base hw.size
 ·exact h.lt
 ·exact fun id o ho=>(h.obj id o ho).ext hE (hw.block _ (h.obj id o ho).lt (hne id o ho))
 ·exact h.inj
 ·exact h.fresh
 ·exact fun b hF=>baz (h.Lq b hF) hw.size
 ·exact fun g cs' hg=>(h.jn g cs' hg).ext hE
 ·exact h.start
 ·intro j t q hj
  simp only[RX.step,Heap.step]at hj⊢
  by_cases e:j=k
  ·subst e
   rw[List.getElem?_set_self hkl]at hj
   cases hj;exact⟨hat,e2,e3⟩
  ·rw[List.getElem?_set_ne (fun e' =>e e'.symm)]at hj
   obtain⟨g1,g2,g3⟩:=h.gg j t q hj
   have hjl:=(bbt.1 hj).1
   exact⟨by rw[hw.block _ (bbh.1 g1).1 (fun e' =>e (h.UR j k hjl hkl e'))];exact g1,g2,g3⟩
 ·intro i j hi hj he
  simp only[RX.step,Heap.step,List.length_set]at hi hj he
  exact h.UR i j hi hj he
end
end Go.AM
