/- For BifCalls. -/
import Derived.Test.YtaielgjmhbjfhaaGreatDoorAmOps6
import Derived.Lib.AppendZeros
set_option linter.unusedVariables false
namespace Go.AM
open Go.RowKit
section
variable {B : Nat} {w0 : World} {E : Env} {X : RX} {P : Program}
theorem Lx (hR:Rel B w0 E X) {t e:TypeId} (hu:P.underlying t=some (.slice e)) {sz:Nat} (hs:cZ P e=some sz) {x:AV} {c:Value} (hx:bo X x c)
  {lo hi mx:Option AV} {lo' hi' mx' :Option Value} (h1:qJ X lo lo') (h2:qJ X hi hi') (h3:qJ X mx mx') {r:cB} (h:jq X.h sz x lo hi mx=some r):
  dc B w0 E X P (Instr.sliceAt t c lo' hi' mx') r.v r.h:=by
 cases hx with
 |sl id gen off sz' len cap a n hid hlen r9 mn=>
  cases cap with
  |some k=>simp[jq]at h
  |none=>
  cases h2 with
  |none=>simp[jq]at h
  |some uv uc huv=>
  cases h3 with
  |some _ _ _=>simp[jq]at h
  |none=>
  simp only[jq]at h
  split at h
  case isFalse=>cases h
  rename_i he;obtain⟨rfl,hsz⟩:=he
  simp only[jac]at h
  obtain⟨cs,hcs,⟨l,u,m⟩,hb,rfl⟩:=h
  have hl:=Heap.gY hcs
  obtain⟨⟨arr,T,fz,e1,e2,e3,e4,e5⟩,_⟩:=hR.obj id _ hl
  dsimp only at e3
  have hn:=((mn _ hl).2 rfl).2
  have hn2:=hn.2 rfl
  have hcp:(cs.length-off)/sz' ≤n:=by
   have:cs.length-off≤n*sz' :=by omega
   exact bal (Nat.div_le_div_right this) (by rw[Nat.mul_div_cancel _ hsz];exact bab _)
  simp only[bounds,bai,baw,jaa]at hb
  obtain⟨m1,rfl,u1,hu1,l1,hl1,rfl,rfl,rfl⟩:=hb
  obtain⟨r1,r2⟩:=ia (P:=P) huv hu1 hcp .sliceAcap X.w
  have hun:u1≤n:=bal r2 hcp
  generalize (cs.length-off)/sz' =cp at*
  have bbz:∃l',l' =l1∧(Instr.sliceBounds true len n lo' (some uc) none).run P X.w=.ok (l1,u1,n) X.w∧l1≤u1:=by
   cases h1 with
   |none=>
    simp only[bae]at hl1
    subst hl1;exact⟨_,rfl,by simp[Instr.sliceBounds,r1],Nat.zero_le _⟩
   |some v' c' hv' =>
    obtain⟨s1,s2⟩:=ia (P:=P) hv' hl1 (bab _) .sliceB X.w
    exact⟨_,rfl,by simp[Instr.sliceBounds,r1,s1],s2⟩
  obtain⟨_,_,bbz,hlu⟩:=bbz
  dsimp only;refine dc.same hR (v' :=.slice (some (if n=l1 then a else a.add (l1*sz'))) (u1-l1) (n-l1)) ?_ (.sl _ _ _ _ _ _ _ _ hid (by omega) (fun _ e=>by cases e) fun o ho=>⟨(mn o ho).1,fun eg=>⟨fun bcn=> ?_,?_,fun _=> ?_⟩⟩)
  ·simp[Instr.sliceAt,Instr.slice,run_underlying hu,bbz,run_sizeOf hs]
   split<;>rfl
  ·rw[if_neg (by omega),((mn o ho).2 eg).1 (by omega),e_,Nat.add_assoc]
  ·have:=((mn o ho).2 eg).2.1
   have e2:=kE l1 n sz' (by omega)
   omega
  ·have:=((mn o ho).2 eg).2.2 rfl
   have e2:=kE l1 n sz' (by omega)
   omega
 |_=>simp[jq]at h
theorem abr (hR:Rel B w0 E X) {ts:Array TypeId} {t e ty:TypeId} (hts:ts[0]? =some t) (hu:P.underlying t=some (.slice e)) {x v:AV} {c:Value} (hx:bo X x c) (h:aa5 x=some v):
  dc B w0 E X P (Builtin.cap_ ts ty #[c]) v X.h:=by
 have key:∀(a:Option Addr) (l n:Nat),(Builtin.cap_ ts ty #[.slice a l n]).run P X.w=.ok (.int .i64 n) X.w:=by
  intro a l n;simp[Builtin.cap_,hts,run_underlying hu,goInt]
 cases hx with
 |ax=>cases h;exact dc.same hR (key none 0 0) (.int _ _)
 |fs full len cells a n vs hlen bca hat h1 hvs=>
  cases full with
  |false=>cases h
  |true=>
   cases h;have:=bca rfl
   subst this;exact dc.same hR (key _ _ _) (.int _ _)
 |sl id gen off sz len cap a n hid hlen r9 mn=>
  cases cap with
  |none=>cases h
  |some k=>
   cases h;have:=r9 k rfl
   subst this;exact dc.same hR (key _ _ _) (.int _ _)
 |_=>cases h
theorem qM {z:Array Value} (hz:0<z.size) (n:Nat):(Builtin.zeroCells z n).toList=(List.replicate n z.toList).flatten:=DX z n hz
theorem Jf (hR:Rel B w0 E X) {t u e ty:TypeId} (ht:P.underlying t=some (.slice e)) (hu:P.underlying u=some (.int .i64)) {sz bytes:Nat} {zero:List AV} (hs:cZ P e=some sz) (hb:pg P e=some bytes) (hz:kC P e=some zero)
  {x y:AV} {c d:Value} (hx:bo X x c) (hy:bo X y d) {r:cB} (h:jr X.h sz bytes zero x y=some r):dc B w0 E X P (Builtin.append_ #[t,u] ty #[c,d]) r.v r.h:=by
 cases hx with
 |ax=>
  cases hy with
  |int kd k=>
   cases kd<;>simp only[jr,reduceCtorEq]at h
   split at h
   case isFalse=>cases h
   rename_i hc;obtain⟨c1,c2,c3,c4,c5⟩:=hc
   cases h;obtain⟨i,zv,hi,hiz,hm⟩:=iV hz
   obtain⟨i1,hi1,hs1⟩:=lI hs
   obtain⟨i2,hi2,hb2⟩:=qI hb
   rw[hi]at hi1 hi2
   cases hi1;cases hi2
   obtain⟨h1,h2⟩:=fZ (X:=X) hm
   have hzs:zv.cells.size=sz:=by have:=h1.length;simp at this;omega
   obtain⟨m,rfl⟩:=Int.eq_ofNat_of_zero_le (show 0≤k by omega)
   have bbz:=Lib.run_append_nil_zeros (P:=P) X.w t u ty e i zv .i64 .i64 ht hu hi hiz m (by omega) (by omega) (by omega) (by rw[hb2];omega)
   have hge:=grownCap_ge X.w m 0 e
   have hge:m≤grownCap X.w m 0 e:=by simpa using grownCap_ge X.w m 0 e
   have hsz:(Builtin.zeroCells zv.cells m++Builtin.zeroCells zv.cells (grownCap X.w m 0 e-m)).size=grownCap X.w m 0 e*sz:=by
    rw[Array.size_append,gz,gz,hzs,←Nat.add_mul]
    congr 1
    omega
   have hlen:(List.replicate m zero).flatten.length=m*sz:=by simp[c5]
   have e1:((m:Int)).toNat=m:=rfl
   rw[e1];have hmul:m*sz≤grownCap X.w m 0 e*sz:=Nat.mul_le_mul_right _ hge
   refine dc.Jg hR (gy X.w _) (bab _) ?_ (by rw[←World.size_drew];exact iN X.w.drew _) (.inl rfl) (by rw[hsz,hlen];exact hmul) ?_ bbz
    (bo.DU _ _ _ _ _ _ _ _ hge (fun _ h=>by cases h) (by rw[hsz];exact bab _) (fun _=>hsz.symm))
   ·intro v hv
    obtain⟨l,hl,hv⟩:=List.mem_flatten.1 hv
    rw[List.eq_of_mem_replicate hl]at hv
    exact h2 v hv
   ·rw[hlen,Array.toList_append,List.take_append_of_le_length (by rw[bbo,gz,hzs];exact bab _),
     bar (by rw[bbo,gz,hzs];exact bab _),qM (by omega)]
    exact a_.f_ h1 m
  |_=>simp[jr]at h
 |_=>simp[jr]at h
theorem SW (hR:Rel B w0 E X) {ts:Array TypeId} {t e ty:TypeId} (hts:ts[0]? =some t) (hu:P.underlying t=some (.slice e)) {sz:Nat} {zero:List AV} (hs:cZ P e=some sz) (hz:kC P e=some zero) {x:AV} {c:Value} (hx:bo X x c) {r:cB}
  (h:lE X.h sz zero x=some r):dc B w0 E X P (Builtin.clear_ ts ty #[c]) r.v r.h:=by
 have hun:bo X .undef (.tuple #[]):=.aF [] [] .nil
 cases hx with
 |ax=>cases h;exact dc.same hR (by simp[Builtin.clear_,hts,run_underlying hu]) hun
 |fs full len cells a n vs hlen bca hat h1 hvs=>
  simp only[lE]at h
  split at h
  ·rename_i h0
   subst h0;cases h;exact dc.same hR (by simp[Builtin.clear_,hts,run_underlying hu]) hun
  ·cases h
 |sl id gen off sz' len cap a n hid hlen r9 mn=>
  simp only[lE]at h
  split at h
  ·rename_i h0
   subst h0;cases h;exact dc.same hR (by simp[Builtin.clear_,hts,run_underlying hu]) hun
  rename_i h0;split at h
  case isFalse=>cases h
  rename_i hc;obtain⟨rfl,c5⟩:=hc
  simp only[bac]at h
  obtain⟨cs,hcs,h⟩:=h
  split at h
  case isFalse=>cases h
  rename_i bcb;cases h;have hl:=Heap.gY hcs
  have ha:=((mn _ hl).2 rfl).1 (by omega)
  subst ha;obtain⟨i,zv,hi,hiz,hm⟩:=iV hz
  obtain⟨i1,hi1,hs1⟩:=lI hs
  rw[hi]at hi1
  cases hi1;obtain⟨h1,h2⟩:=fZ (X:=X) hm
  have hzs:zv.cells.size=sz' :=by have:=h1.length;simp at this;omega
  have hlen2:(List.replicate len zero).flatten.length=len*sz' :=by simp[c5]
  have r0:bI (List.replicate len zero).flatten:=by
   intro v hv;obtain⟨l,hl,hv⟩:=List.mem_flatten.1 hv
   rw[List.eq_of_mem_replicate hl]at hv
   exact h2 v hv
  obtain⟨X',q1,q2,q3,q4,_⟩:=lJ (P:=P) hR hl (off:=off) (a_.f_ h1 len) r0 (by rw[hlen2];exact bcb)
  have hzl:(Builtin.zeroCells zv.cells len).toList=(List.replicate len zv.cells.toList).flatten:=by
   by_cases hz0:0<zv.cells.size
   ·exact qM hz0 len
   ·have e0:zv.cells.size=0:=by omega
    have e1:zv.cells= #[]:=Array.size_eq_zero_iff.1 e0
    rw[e1];have:(Builtin.zeroCells #[] len).size=0:=by rw[gz];simp
    rw[Array.size_eq_zero_iff.1 this];simp
  refine⟨X',.tuple #[],?_,q2,q3,q4,.aF [] [] .nil⟩
  have hne:len≠0:=h0
  have hb:(Builtin.clear_ ts ty #[.slice (some ⟨(X.ρ id).b,(X.ρ id).o+off,none⟩) len n]).run P X.w=(do storeCells ⟨(X.ρ id).b,(X.ρ id).o+off,none⟩ (Builtin.zeroCells zv.cells len).toList;pure (.tuple #[]):Sem Value).run P X.w:=by
   cases len with
   |zero=>exact absurd rfl hne
   |succ len=>simp[Builtin.clear_,hts,run_underlying hu,zeroValue,typeInfo,hi,hiz]
  rw[hb,hzl];simp only[Sem.run_bind,q1,Result.andThen_ok,Sem.run_pure]
 |_=>simp[lE]at h
theorem UZ (hR:Rel B w0 E X) {ts:Array TypeId} {t e ty:TypeId} (hts:ts[0]? =some t) (hu:P.underlying t=some (.slice e)) {sz:Nat} (hs:cZ P e=some sz) {x y:AV} {c d:Value} (hx:bo X x c) (hy:bo X y d) {r:cB}
  (h:xP X.h sz x y=some r):dc B w0 E X P (Builtin.copy_ ts ty #[c,d]) r.v r.h:=by
 simp only[xP,bac]at h
 obtain⟨m,hm,h⟩:=h
 have hly:=DW (P:=P) hy hm X.w
 have hsz:=run_sizeOf hs
 have hf0:(Builtin.firstCells sz 0 d).run P X.w=.ok #[] X.w:=by
  cases hy<;>simp only[cr,bae,reduceCtorEq]at hm<;>simp[Builtin.firstCells,loadCells,loadCellsFrom]
 have zero:∀(a:Option Addr) (l n:Nat),Nat.min m l=0→(Builtin.copy_ ts ty #[.slice a l n,d]).run P X.w=.ok (.int .i64 0) X.w:=by
  intro a l n h0;cases a<;>simp[Builtin.copy_,hts,run_underlying hu,hly,hsz,h0,hf0,goInt,storeCells]
 cases hx with
 |ax=>cases h;exact dc.same hR (zero none 0 0 (by simp)) (.int _ _)
 |fs full len cells a n vs hlen bca hat h1 hvs=>
  simp only at h
  split at h
  ·rename_i h0
   cases h;exact dc.same hR (zero _ _ _ h0) (.int _ _)
  ·cases h
 |sl id gen off sz' len cap a n hid hlen r9 mn=>
  simp only at h
  split at h
  ·rename_i h0
   cases h;exact dc.same hR (zero _ _ _ h0) (.int _ _)
  rename_i h0;split at h
  case isFalse=>cases h
  rename_i hc;subst hc;simp only[bac]at h
  obtain⟨⟨new,kn⟩,hnew,cs,hcs,h⟩:=h
  dsimp only at h
  split at h
  case isFalse=>cases h
  rename_i bcb;cases h;have hl:=Heap.gY hcs
  have hmin:Nat.min m len≤len:=Nat.min_le_right _ _
  have hmin2:min m len≤len:=Nat.min_le_right _ _
  have ha:=((mn _ hl).2 rfl).1 (by omega)
  subst ha;obtain⟨news,rn,on,ln,hfn⟩:=fF (P:=P) hR hy hnew
  obtain⟨X',q1,q2,q3,q4,_⟩:=lJ (P:=P) hR hl (off:=off) rn on (by rw[ln];exact bcb)
  refine⟨X',.int .i64 (min m len:Nat),?_,q2,q3,q4,.int _ _⟩
  have hfn' :=hfn X.w rfl
  have hfn2:(Builtin.firstCells sz' (Nat.min m len) d).run P X.w=.ok news.toArray X.w:=hfn'
  simp[Builtin.copy_,hts,run_underlying hu,hly,hsz,hfn2,goInt,q1]
 |_=>simp at h
end
end Go.AM
