/- For BifCalls. -/
import Derived.Test.YtaielgjmhbjfhaaGreatDoorAmOps2
set_option linter.unusedVariables false
namespace Go.AM
open Go.RowKit
section
variable {B : Nat} {w0 : World} {E : Env} {X : RX} {P : Program}
theorem SZ (hR:Rel B w0 E X) {t:TypeId} {sz:Nat} (hs:cZ P t=some sz) {x v:AV} {c d:Value} (hx:bo X x c) (hv:bo X v d)
  {r:cB} (h:bC X.h sz x v=some r):abl B w0 E X P (Instr.storeAt t c d) r.h∧r.v=.undef:=by
 cases hx with
 |ptr id gen off a hid mn=>
  simp only[bC,bac]at h
  obtain⟨cs,hcs,vs,hvs,h⟩:=h
  split at h
  ·rename_i hc
   obtain⟨hc1,hc2⟩:=hc
   cases h;have hl:=Heap.gY hcs
   have e:=(mn _ hl).2 rfl
   subst e;obtain⟨r1,r2⟩:=hv.row hvs
   obtain⟨X',h1,h2,h3,h4,_⟩:=lJ (P:=P) hR hl r1 r2 (off:=off) (by simpa[hc1]using hc2)
   refine⟨⟨X',?_,h2,h3,h4⟩,rfl⟩
   have hsz:d.cells.size=sz:=by have:=r1.length;simp at this;omega
   simp only[Instr.storeAt,Instr.sureAddr,Sem.run_bind,Sem.run_pure,Result.andThen_ok,storeVar,run_sizeOf hs,hsz,ne_eq,not_true_eq_false,if_false,h1]
  ·cases h
 |_=>simp[bC]at h
theorem s_ {t:TypeId} {i:Nat} {f:Field} (h:sg P t i=some f):∃fs,P.underlying t=some (.struct fs)∧fs[i]? =some f:=by
 simp only[sg,bap,bac]at h
 obtain⟨d,hd,h⟩:=h
 cases d<;>simp only[reduceCtorEq]at h
 exact⟨_,hd,h⟩
theorem CW (hR:Rel B w0 E X) {t:TypeId} {i:Nat} {f:Field} (hf:sg P t i=some f) {s:Nat} (hs:cZ P f.type=some s) (h0:s≠0) {x:AV} {c:Value}
  (hx:bo X x c):
  (∀id gen o,x=.ptr id gen o→dc B w0 E X P (Instr.fieldAt t c i) (.ptr id gen (o+f.offset)) X.h)∧
  (∀cs,x=.fp cs→dc B w0 E X P (Instr.fieldAt t c i) (.fp (cs.drop f.offset)) X.h):=by
 obtain⟨fs,hu,hg⟩:=s_ hf
 have bbz:∀a:Addr,(Instr.fieldAt t (.pointer (some a)) i).run P X.w=.ok (.pointer (some (a.add f.offset))) X.w:=by
  intro a;simp[Instr.fieldAt,run_underlying hu,hg,Instr.sureAddr,fieldPlace,run_sizeOf hs,h0]
 constructor
 ·rintro id gen o rfl
  cases hx with
  |ptr _ _ _ a hid mn=>
   refine dc.same hR (bbz a) (.ptr _ _ _ _ hid fun ob ho=>⟨(mn ob ho).1,fun e=> ?_⟩)
   rw[(mn ob ho).2 e,e_,Nat.add_assoc]
 ·rintro cs rfl
  cases hx with
  |fp _ b o vs hst hat h1 hvs=>
   refine dc.same hR (bbz _) ?_
   rw[e_];exact .fp _ _ _ _ hst (hat.drop _) (h1.drop _) (hvs.drop _)
theorem Jk {t:TypeId} {agg:Bool} {sz off:Nat} (ha:sT P t=some agg) (hs:cZ P t=some sz) {cs:List AV} {cs' :List Value} (hv:a_ X cs cs') (h1:bI cs)
  (bcb:off+sz≤cs.length) {v:AV} (h:partOf agg sz off cs=some v):∃v',(part t cs'.toArray off).run P X.w=.ok v' X.w∧bo X v v' :=by
 cases agg with
 |true=>
  simp only[partOf,bae]at h
  subst h;refine⟨.agg (cs'.toArray.extract off (off+sz)),by simp[part,jT ha,run_sizeOf hs],?_⟩
  have e:cs'.toArray.extract off (off+sz)=((cs'.drop off).take sz).toArray:=by simp
  rw[e];exact .agg _ _ ((h1.drop off).take sz) ((hv.drop off).take sz)
 |false=>
  simp only[partOf]at h
  obtain⟨c,hc,hr⟩:=hv.get h
  exact⟨c,by simp[part,jT ha,hc],hr⟩
theorem S2 (hR:Rel B w0 E X) {t:TypeId} {i:Nat} {f:Field} (hf:sg P t i=some f) {agg:Bool} {sz:Nat} (ha:sT P f.type=some agg) (hs:cZ P f.type=some sz)
  {cs:List AV} {c:Value} (hx:bo X (.agg cs) c) (bcb:f.offset+sz≤cs.length) {v:AV} (h:partOf agg sz f.offset cs=some v):
  dc B w0 E X P (Instr.field t c i) v X.h:=by
 obtain⟨fs,hu,hg⟩:=s_ hf
 cases hx with
 |agg _ cs' h1 hv=>
  obtain⟨v',hr,hrel⟩:=Jk (P:=P) ha hs hv h1 bcb h
  exact dc.same hR (by simp[Instr.field,run_underlying hu,hg,asAgg,hr]) hrel
theorem Lz (hR:Rel B w0 E X) {t e:TypeId} {n:Nat} (hu:P.underlying t=some (.array n e)) {agg:Bool} {sz:Nat} (ha:sT P e=some agg) (hs:cZ P e=some sz)
  {cs:List AV} {c:Value} (hx:bo X (.agg cs) c) {i:AV} {d:Value} (hi:bo X i d) {j:Nat} (hj:c_ n i=some j) (bcb:(j+1)*sz≤cs.length) {v:AV}
  (h:partOf agg sz (j*sz) cs=some v):dc B w0 E X P (Instr.index t c d) v X.h:=by
 cases hi with
 |int k q=>
  simp only[c_]at hj
  split at hj
  ·rename_i hc
   cases hj;cases hx with
   |agg _ cs' h1 hv=>
    obtain⟨v',hr,hrel⟩:=Jk (P:=P) ha hs hv h1 (by rw[Nat.succ_mul]at bcb;omega) h
    exact dc.same hR (by simp[Instr.index,asIntOf,run_underlying hu,hc.1,hc.2,run_sizeOf hs,hr]) hrel
  ·cases hj
 |_=>simp[c_]at hj
theorem Ly (hR:Rel B w0 E X) {t:TypeId} (hu:P.underlying t=some .string) {s:List UInt8} {c:Value} (hx:bo X (.str s) c) {i:AV} {d:Value} (hi:bo X i d)
  {j:Nat} (hj:c_ s.length i=some j) {b:UInt8} (hb:s[j]? =some b):dc B w0 E X P (Instr.index t c d) (bK b) X.h:=by
 cases hi with
 |int k q=>
  simp only[c_]at hj
  split at hj
  ·rename_i hc
   cases hj;cases hx with
   |str=>
    have bcm:(⟨s.toArray⟩:ByteArray)[q.toNat]? =some b:=by
     obtain⟨hlt,hb'⟩:=bbt.1 hb
     have hlt' :q.toNat<(⟨s.toArray⟩:ByteArray).size:=by simpa[ByteArray.size]using hlt
     rw[getElem?_pos (⟨s.toArray⟩:ByteArray) q.toNat hlt']
     congr 1
    exact dc.same hR (v' :=.int .u8 b.toNat) (by simp[Instr.index,asIntOf,run_underlying hu,hc.1,bcm]) (.int _ _)
  ·cases hj
 |_=>simp[c_]at hj
theorem Ji (hR:Rel B w0 E X) {vs:List AV} {c:Value} (hx:bo X (.aF vs) c) {i:Nat} {v:AV} (h:vs[i]? =some v):dc B w0 E X P (Instr.extract c i) v X.h:=by
 cases hx with
 |aF _ vs' hv=>
  obtain⟨v',h1,h2⟩:=hv.get h
  exact dc.same hR (by simp[Instr.extract,h1]) h2
theorem Jh (hR:Rel B w0 E X) {t e:TypeId} (hu:P.underlying t=some (.slice e)) {sz:Nat} (hs:cZ P e=some sz) {x:AV} {c:Value} (hx:bo X x c) {i:AV} {d:Value}
  (hi:bo X i d) {v:AV} (h:aZ sz x i=some v):dc B w0 E X P (Instr.indexAt t c d) v X.h:=by
 cases hx with
 |sl id gen off sz' len cap a n hid hlen r9 mn=>
  simp only[aZ]at h
  split at h
  ·rename_i he
   subst he;simp only[bai]at h
   obtain⟨j,hj,rfl⟩:=h
   cases hi with
   |int k q=>
    simp only[c_]at hj
    split at hj
    ·rename_i hc
     cases hj;refine dc.same hR (v' :=.pointer (some (a.add (q.toNat*sz')))) (by simp[Instr.indexAt,asIntOf,run_underlying hu,hc.1,hc.2,run_sizeOf hs]) (.ptr _ _ _ _ hid fun o ho=>⟨(mn o ho).1,fun eg=> ?_⟩)
     have ha:=((mn o ho).2 eg).1 (by omega)
     rw[ha,e_,Nat.add_assoc]
    ·cases hj
   |_=>simp[c_]at hj
  ·cases h
 |fs full len cells a n vs hlen bca hat h1 hvs=>
  cases cells with
  |nil=>simp[aZ]at h
  |cons v0 cells=>
   simp only[aZ,bai]at h
   obtain⟨j,hj,rfl⟩:=h
   obtain⟨b,o,rfl,hst,hc'⟩:=hat (by simp)
   cases hi with
   |int k q=>
    simp only[c_]at hj
    split at hj
    ·rename_i hc
     cases hj;refine dc.same hR (v' :=.pointer (some ((⟨b,o,none⟩:Addr).add (q.toNat*sz)))) (by simp[Instr.indexAt,asIntOf,run_underlying hu,hc.1,hc.2,run_sizeOf hs]) ?_
     rw[e_];exact .fp _ _ _ _ hst (hc'.drop _) (h1.drop _) (hvs.drop _)
    ·cases hj
   |_=>simp[c_]at hj
 |_=>simp[aZ]at h
theorem AX (hR:Rel B w0 E X) {t e:TypeId} {n:Nat} (hu:P.underlying t=some (.array n e)) {sz:Nat} (hs:cZ P e=some sz) {x:AV} {c:Value} (hx:bo X x c) {i:AV}
  {d:Value} (hi:bo X i d) {v:AV} (h:ky sz n x i=some v):dc B w0 E X P (Instr.indexAt t c d) v X.h:=by
 cases hx with
 |ptr id gen off a hid mn=>
  simp only[ky,bai]at h
  obtain⟨j,hj,rfl⟩:=h
  cases hi with
  |int k q=>
   simp only[c_]at hj
   split at hj
   ·rename_i hc
    cases hj;refine dc.same hR (v' :=.pointer (some (a.add (q.toNat*sz)))) (by simp[Instr.indexAt,asIntOf,run_underlying hu,Instr.sureAddr,hc.1,hc.2,run_sizeOf hs]) (.ptr _ _ _ _ hid fun o ho=>⟨(mn o ho).1,fun eg=> ?_⟩)
    rw[(mn o ho).2 eg,e_,Nat.add_assoc]
   ·cases hj
  |_=>simp[c_]at hj
 |fp cells b o vs hst hat h1 hvs=>
  simp only[ky,bai]at h
  obtain⟨j,hj,rfl⟩:=h
  cases hi with
  |int k q=>
   simp only[c_]at hj
   split at hj
   ·rename_i hc
    cases hj;refine dc.same hR (v' :=.pointer (some ((⟨b,o,none⟩:Addr).add (q.toNat*sz)))) (by simp[Instr.indexAt,asIntOf,run_underlying hu,Instr.sureAddr,hc.1,hc.2,run_sizeOf hs]) ?_
    rw[e_];exact .fp _ _ _ _ hst (hat.drop _) (h1.drop _) (hvs.drop _)
   ·cases hj
  |_=>simp[c_]at hj
 |_=>simp[ky]at h
inductive qJ (X:RX):Option AV→Option Value→Prop
 |none:qJ X none none
 |some (v:AV) (c:Value) (h:bo X v c):qJ X (some v) (some c)
theorem h_ (hR:Rel B w0 E X) {n:Nat} {σ:ah} {a:Act} (k:jN X n σ a.tmps) {o:Option Operand} {x:Option eN} (ht:m_ o=some x) {v:Option AV} (hv:E.kV σ x=some v):
  qJ X v (o.map a.eval):=by
 cases o with
 |none=>simp only[m_,bae]at ht;subst ht;simp only[Env.kV,bae]at hv;subst hv;exact .none
 |some o=>
  simp only[m_,bai]at ht
  obtain⟨y,hy,rfl⟩:=ht
  simp only[Env.kV,bai]at hv
  obtain⟨u,hu,rfl⟩:=hv
  exact .some _ _ (bz hR k hy hu)
theorem ia {v:AV} {c:Value} (hv:bo X v c) {y n i:Nat} (h:lD y v=some i) (hn:y≤n) (code:BoundsCode) (w:World):
  (Instr.sliceBound c n code).run P w=.ok i w∧i≤y:=by
 cases hv with
 |int k q=>
  simp only[lD]at h
  split at h
  ·rename_i hc
   cases h;have h1:q≤(n:Int):=by omega
   exact⟨by simp[Instr.sliceBound,asIntOf,hc.1,h1],by omega⟩
  ·cases h
 |_=>simp[lD]at h
theorem iW {lo hi mx:Option AV} {lo' hi' mx' :Option Value} (h1:qJ X lo lo') (h2:qJ X hi hi') (h3:qJ X mx mx') {len cap n:Nat} (hn:cap≤n) (hlen:len≤cap) {l u m:Nat}
  (h:bounds len cap lo hi mx=some (l,u,m)) (b:Bool) (w:World):
  ∃m',(Instr.sliceBounds b len n lo' hi' mx').run P w=.ok (l,u,m') w∧l≤u∧u≤m∧m≤cap∧m' ≤n∧u≤m' ∧(∀x,mx=some x→m' =m)∧(mx=none→m=cap∧m' =n)∧(mx=none→hi=none→u=len):=by
 simp only[bounds,baw,jac]at h
 obtain⟨m1,hm,u1,hu,l1,hl,rfl,rfl,rfl⟩:=h
 cases h3 with
 |none=>
  simp only[bae]at hm
  subst hm;cases h2 with
  |none=>
   simp only[bae]at hu
   subst hu;cases h1 with
   |none=>
    simp only[bae]at hl
    subst hl;exact⟨n,by simp[Instr.sliceBounds],Nat.zero_le _,hlen,bab _,bab _,by omega,(fun _ e=>by cases e),(fun _=>⟨rfl,rfl⟩),(fun _ _=>rfl)⟩
   |some v c hv=>
    obtain⟨r1,r2⟩:=ia (P:=P) hv hl (bab _) .sliceB w
    exact⟨n,by simp[Instr.sliceBounds,r1],r2,hlen,bab _,bab _,by omega,(fun _ e=>by cases e),(fun _=>⟨rfl,rfl⟩),(fun _ _=>rfl)⟩
  |some v c hv=>
   obtain⟨r1,r2⟩:=ia (P:=P) hv hu hn (if b then .sliceAcap else .sliceAlen) w
   cases h1 with
   |none=>
    simp only[bae]at hl
    subst hl;exact⟨n,by simp[Instr.sliceBounds,r1],Nat.zero_le _,r2,bab _,bab _,by omega,(fun _ e=>by cases e),(fun _=>⟨rfl,rfl⟩),(fun _ e=>by cases e)⟩
   |some v' c' hv' =>
    obtain⟨s1,s2⟩:=ia (P:=P) hv' hl (bab _) .sliceB w
    exact⟨n,by simp[Instr.sliceBounds,r1,s1],s2,r2,bab _,bab _,by omega,(fun _ e=>by cases e),(fun _=>⟨rfl,rfl⟩),(fun _ e=>by cases e)⟩
 |some v3 c3 hv3=>
  obtain⟨q1,q2⟩:=ia (P:=P) hv3 hm hn (if b then .slice3Acap else .slice3Alen) w
  cases h2 with
  |none=>cases hu
  |some v c hv=>
   obtain⟨r1,r2⟩:=ia (P:=P) hv hu (bab _) .slice3B w
   cases h1 with
   |none=>
    simp only[bae]at hl
    subst hl;exact⟨m1,by simp[Instr.sliceBounds,q1,r1],Nat.zero_le _,r2,q2,by omega,r2,(fun _ _=>rfl),(fun e=>by cases e),(fun e=>by cases e)⟩
   |some v' c' hv' =>
    obtain⟨s1,s2⟩:=ia (P:=P) hv' hl (bab _) .slice3C w
    exact⟨m1,by simp[Instr.sliceBounds,q1,r1,s1],s2,r2,q2,by omega,r2,(fun _ _=>rfl),(fun e=>by cases e),(fun e=>by cases e)⟩
theorem kE (l m sz:Nat) (h:l≤m):l*sz+(m-l)*sz=m*sz:=by rw[←Nat.add_mul];congr 1;omega
theorem S1 (hR:Rel B w0 E X) {t e:TypeId} (hu:P.underlying t=some (.slice e)) {sz:Nat} (hs:cZ P e=some sz) {x:AV} {c:Value} (hx:bo X x c)
  {lo hi mx:Option AV} {lo' hi' mx' :Option Value} (h1:qJ X lo lo') (h2:qJ X hi hi') (h3:qJ X mx mx') {v:AV} (h:cU sz x lo hi mx=some v):
  dc B w0 E X P (Instr.sliceAt t c lo' hi' mx') v X.h:=by
 have hat:∀(a:Option Addr) (len cap l u m' :Nat),(Instr.sliceBounds true len cap lo' hi' mx').run P X.w=.ok (l,u,m') X.w→
   (Instr.sliceAt t (.slice a len cap) lo' hi' mx').run P X.w=.ok (.slice (if m' =l then a else a.map (·.add (l*sz))) (u-l) (m' -l)) X.w:=by
  intro a len cap l u m' hb;simp[Instr.sliceAt,Instr.slice,run_underlying hu,hb,run_sizeOf hs]
 cases hx with
 |ax=>
  simp only[cU,bai]at h
  obtain⟨⟨l,u,m⟩,hb,rfl⟩:=h
  obtain⟨m',r,g1,g2,g3,g4,g5,g6,g7,g8⟩:=iW (P:=P) h1 h2 h3 (bab 0) (bab 0) hb true X.w
  have hz:m' =0∧u=0∧l=0:=by omega
  obtain⟨rfl,rfl,rfl⟩:=hz
  exact dc.same hR (by simpa using hat none 0 0 0 0 0 r) .ax
 |sl id gen off sz' len cap a n hid hlen r9 mn=>
  simp only[cU]at h
  split at h
  ·rename_i he
   subst he;have key:∀(cp l u m m' :Nat) (cap' :Option Nat),cp≤n→len≤cp→bounds len cp lo hi mx=some (l,u,m)→(Instr.sliceBounds true len n lo' hi' mx').run P X.w=.ok (l,u,m') X.w→
     l≤u→u≤m' →m' ≤n→(∀k,cap' =some k→m' -l=k)→(cap' =none→cap=none∧m' =n)→dc B w0 E X P (Instr.sliceAt t (.slice (some a) len n) lo' hi' mx') (.sl id gen (off+l*sz') sz' (u-l) cap') X.h:=by
    intro cp l u m m' cap' hcp hlc hb r g1 g5 g4 hk hno;refine dc.same hR (v' :=.slice (some (if m' =l then a else a.add (l*sz'))) (u-l) (m' -l)) ?_ (.sl _ _ _ _ _ _ _ _ hid (by omega) hk fun o ho=>⟨(mn o ho).1,fun eg=>⟨fun bcn=> ?_,?_,fun hc=> ?_⟩⟩)
    ·rw[hat (some a) len n l u m' r];split<;>rfl
    ·rw[if_neg (by omega),((mn o ho).2 eg).1 (by omega),e_,Nat.add_assoc]
    ·have:=((mn o ho).2 eg).2.1
     have e2:=kE l m' sz' (by omega)
     have e3:m' *sz' ≤n*sz' :=Nat.mul_le_mul_right _ g4
     omega
    ·obtain⟨hc0,hmn⟩:=hno hc
     subst hmn;have:=((mn o ho).2 eg).2.2 hc0
     have e2:=kE l m' sz' (by omega)
     omega
   cases cap with
   |some cp=>
    simp only[bai]at h
    obtain⟨⟨l,u,m⟩,hb,hv⟩:=h;dsimp only at hv;subst hv
    have hn:=r9 cp rfl
    subst hn;obtain⟨m',r,g1,g2,g3,g4,g5,g6,g7,g8⟩:=iW (P:=P) h1 h2 h3 (bab n) hlen hb true X.w
    refine key n l u m m' _ (bab _) hlen hb r g1 g5 g4 (fun k hk=> ?_) (fun e=>by cases e)
    cases hk;cases mx with
    |none=>obtain⟨q1,q2⟩:=g7 rfl;omega
    |some x=>have:=g6 x rfl;omega
   |none=>
    simp only[bai]at h
    obtain⟨⟨l,u,m⟩,hb,hv⟩:=h;dsimp only at hv;subst hv
    obtain⟨m',r,g1,g2,g3,g4,g5,g6,g7,g8⟩:=iW (P:=P) h1 h2 h3 hlen (bab len) hb true X.w
    refine key len l u m m' _ hlen (bab _) hb r g1 g5 g4 (fun k hk=> ?_) (fun e=>⟨rfl,by
     cases mx with
     |none=>exact(g7 rfl).2
     |some x=>cases e⟩)
    cases mx with
    |none=>cases hk
    |some x=>
     simp only[baq,bae]at hk
     have:=g6 x rfl
     omega
  ·cases h
 |fs full len cells a n vs hlen bca hat' ho hvs=>
  simp only[cU]at h
  split at h
  ·rename_i hcl
   simp only[bai]at h
   obtain⟨⟨l,u,m⟩,hb,hv⟩:=h;dsimp only at hv;subst hv
   obtain⟨m',r,g1,g2,g3,g4,g5,g6,g7,g8⟩:=iW (P:=P) h1 h2 h3 hlen (bab len) hb true X.w
   refine dc.same hR (v' :=.slice (some (if m' =l then a else a.add (l*sz))) (u-l) (m' -l)) ?_
    (.fs _ _ _ _ _ ((vs.drop (l*sz)).take ((u-l)*sz)) (by omega) (fun hf=> ?_) (fun hne=> ?_) ((ho.drop _).take _) ((hvs.drop _).take _))
   ·rw[hat (some a) len n l u m' r];split<;>rfl
   ·cases mx with
    |none=>
     obtain⟨q1,q2⟩:=g7 rfl
     simp only[bau,beq_iff_eq]at hf
     have:=bca hf.1
     omega
    |some x=>
     have:=g6 x rfl
     simp only[beq_iff_eq]at hf
     omega
   ·have hne' :cells≠[]:=by rintro rfl;simp at hne
    obtain⟨b,o,rfl,hst,hc⟩:=hat' hne'
    have hml:m' ≠l:=by
     rintro rfl;have:u-m' =0:=by omega
     rw[this]at hne
     simp at hne
    rw[if_neg hml];exact⟨b,o+l*sz,e_ _ _ _,hst,(hc.drop _).take _⟩
  ·cases h
 |_=>simp[cU]at h
theorem Fc (hR:Rel B w0 E X) {t:TypeId} (hu:P.underlying t=some .string) {x:AV} {c:Value} (hx:bo X x c)
  {lo hi:Option AV} {lo' hi' :Option Value} (h1:qJ X lo lo') (h2:qJ X hi hi') {v:AV} (h:ik x lo hi=some v):
  dc B w0 E X P (Instr.sliceAt t c lo' hi' none) v X.h:=by
 cases hx with
 |str s=>
  simp only[ik,bai]at h
  obtain⟨⟨l,u,m⟩,hb,hv⟩:=h;dsimp only at hv;subst hv
  have hsz:(⟨s.toArray⟩:ByteArray).size=s.length:=by simp[ByteArray.size]
  obtain⟨m',r,g1,g2,g3,g4,g5,g6,g7,g8⟩:=iW (P:=P) h1 h2 .none (bab s.length) (bab s.length) hb false X.w
  have he:(⟨s.toArray⟩:ByteArray).extract l u=⟨((s.drop l).take (u-l)).toArray⟩:=by
   apply ByteArray.ext
   simp[ByteArray.data_extract]
  refine dc.same hR (v' :=.string ⟨((s.drop l).take (u-l)).toArray⟩) ?_ (.str _)
  simp[Instr.sliceAt,Instr.slice,run_underlying hu,hsz,r,he]
 |_=>simp[ik]at h
theorem Fe (hR:Rel B w0 E X) {t e:TypeId} {n:Nat} (hu:P.underlying t=some (.array n e)∨∃arr,P.underlying t=some (.pointer arr)∧P.underlying arr=some (.array n e)) {sz:Nat}
  (hs:cZ P e=some sz) {x:AV} {c:Value} (hx:bo X x c) {lo hi mx:Option AV} {lo' hi' mx' :Option Value} (h1:qJ X lo lo') (h2:qJ X hi hi') (h3:qJ X mx mx') {r:cB}
  (h:jP X.h sz n x lo hi mx=some r):dc B w0 E X P (Instr.sliceAt t c lo' hi' mx') r.v X.h∧r.h=X.h:=by
 have hat:∀(a:Addr) (l u m' :Nat),(Instr.sliceBounds false n n lo' hi' mx').run P X.w=.ok (l,u,m') X.w→
   (Instr.sliceAt t (.pointer (some a)) lo' hi' mx').run P X.w=.ok (.slice (some (if m' =l then a else a.add (l*sz))) (u-l) (m' -l)) X.w:=by
  intro a l u m' hb
  rcases hu with hu|⟨arr,hu,hu'⟩
  ·simp[Instr.sliceAt,run_underlying hu,Instr.sureAddr,hb,run_sizeOf hs]
  ·simp[Instr.sliceAt,Instr.slice,run_underlying hu,run_underlying hu',asAddr,hb,run_sizeOf hs]
 cases hx with
 |ptr id gen off a hid mn=>
  simp only[jP,bac]at h
  obtain⟨cs,hcs,h⟩:=h
  split at h
  ·rename_i bcb
   simp only[bai]at h
   obtain⟨⟨l,u,m⟩,hb,hv⟩:=h;dsimp only at hv;subst hv
   obtain⟨m',r,g1,g2,g3,g4,g5,g6,g7,g8⟩:=iW (P:=P) h1 h2 h3 (bab n) (bab n) hb false X.w
   have hmm:m' =m:=by
    cases mx with
    |none=>obtain⟨q1,q2⟩:=g7 rfl;omega
    |some x=>exact g6 x rfl
   subst hmm;have hl:=Heap.gY hcs
   refine⟨dc.same hR (hat a l u m' r) (.sl _ _ _ _ _ _ _ _ hid (by omega) (fun k hk=>by cases hk;rfl) fun o ho=>⟨(mn o ho).1,fun eg=>⟨fun bcn=> ?_,?_,fun hc=>by cases hc⟩⟩),rfl⟩
   ·rw[if_neg (by omega),(mn o ho).2 eg,e_,Nat.add_assoc]
   ·rw[hl]at ho
    cases ho;obtain⟨⟨arr,T,fz,ha,hb',hc,hd,he⟩,bcj⟩:=hR.obj id _ hl
    have e2:=kE l m' sz (by omega)
    have e3:m' *sz≤n*sz:=Nat.mul_le_mul_right _ g3
    dsimp only at hc
    omega
  ·cases h
 |fp cells b o vs hst hat' ho hvs=>
  simp only[jP]at h
  split at h
  ·rename_i bcb
   simp only[bai]at h
   obtain⟨⟨l,u,m⟩,hb,hv⟩:=h;dsimp only at hv;subst hv
   obtain⟨m',r,g1,g2,g3,g4,g5,g6,g7,g8⟩:=iW (P:=P) h1 h2 h3 (bab n) (bab n) hb false X.w
   have hmm:m' =m:=by
    cases mx with
    |none=>obtain⟨q1,q2⟩:=g7 rfl;omega
    |some x=>exact g6 x rfl
   subst hmm;refine⟨dc.same hR (hat _ l u m' r) (.fs _ _ _ _ _ ((vs.drop (l*sz)).take ((u-l)*sz)) (by omega) (fun hf=> ?_) (fun hne=> ?_) ((ho.drop _).take _) ((hvs.drop _).take _)),rfl⟩
   ·simp only[beq_iff_eq]at hf;omega
   ·have hml:m' ≠l:=by
     rintro rfl;have:u-m' =0:=by omega
     rw[this]at hne
     simp at hne
    rw[if_neg hml];exact⟨b,o+l*sz,e_ _ _ _,hst,(hat'.drop _).take _⟩
  ·cases h
 |_=>simp[jP]at h
end
end Go.AM
