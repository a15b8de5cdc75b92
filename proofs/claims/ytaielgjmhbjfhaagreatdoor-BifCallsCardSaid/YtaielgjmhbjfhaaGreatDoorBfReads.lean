/- For BifCalls. -/
import Derived.Test.YtaielgjmhbjfhaaGreatDoorAmRead2
import Derived.Test.YtaielgjmhbjfhaaGreatDoorBfRQuote
set_option linter.unusedVariables false
namespace Go.Bf
open Go.AM hiding Sh
open Go.AM.R Go.Proofs Go.RowKit Go.ChangeShapes
def gU:Nat→Sh
 |0=>.bot 1
 |_+1=>.int .u32
def gN:Nat→Sh
 |0=>.bot 1
 |n+1=>.slice (gU n)
def gI:Nat→Sh
 |0=>.bot 1
 |_+1=>.int .i64
def gS:Nat→Sh
 |0=>.bot 1
 |_+1=>.str
mutual
def gT:Nat→Sh
 |0=>.bot 6
 |n+1=>.agg [gI n,gI n,gS n,gU n,gN n,gL n]
def gL:Nat→Sh
 |0=>.bot 1
 |n+1=>.slice (gT n)
end
theorem aqo:∃fs:Array Field,Tryz.prog.underlying 36=some (.struct fs)∧fs.toList.map (fun f=>(f.type,f.offset))=[(31,0),(2,1),(9,2),(32,3),(33,4),(34,5)]:=by
 have h:(match Tryz.prog.underlying 36 with|some (.struct fs)=>fs.toList.map (fun f=>(f.type,f.offset))|_=>[])=[(31,0),(2,1),(9,2),(32,3),(33,4),(34,5)]:=by kernel_rfl
 split at h
 ·rename_i fs e;exact⟨fs,e,h⟩
 ·cases h
theorem aqp:Tryz.prog.underlying 33=some (.slice 32):=by kernel_rfl
theorem aqq:Tryz.prog.underlying 34=some (.slice 36):=by kernel_rfl
theorem ajQ (n:Nat):shOf Tryz.prog n 31=some (gI n):=by cases n<;>kernel_rfl
theorem an_ (n:Nat):shOf Tryz.prog n 2=some (gI n):=by cases n<;>kernel_rfl
theorem aeB (n:Nat):shOf Tryz.prog n 9=some (gS n):=by cases n<;>kernel_rfl
theorem aaS (n:Nat):shOf Tryz.prog n 32=some (gU n):=by cases n<;>kernel_rfl
theorem ajR:∀n:Nat,shOf Tryz.prog n 33=some (gN n)
 |0=>by kernel_rfl
 |n+1=>by
  have hc:Tryz.prog.cellsOf 33=1:=by kernel_rfl
  simp only[shOf,aqp,aaS n,hc,R.Sh.size,if_true,gN,jab]
theorem ajS:∀n:Nat,(gI n).size=1∧(gS n).size=1∧(gU n).size=1∧(gN n).size=1∧(gL n).size=1
 |0=>⟨rfl,rfl,rfl,rfl,rfl⟩
 |n+1=>⟨rfl,rfl,rfl,rfl,rfl⟩
def oZ (g:TypeId→Option Sh):List (Nat×Nat)→Nat→Option (List Sh)
 |[],_=>some []
 |f::fs,off=>if f.2=off then(g f.1).bind fun s=>(oZ g fs (off+s.size)).map fun l=>s::l else none
theorem ES (g:TypeId→Option Sh):∀(l:List Field) (ts:List (Nat×Nat)) (off:Nat) (r:List Sh),l.map (fun f=>(f.type,f.offset))=ts→oZ g ts off=some r→shFields g l off=some r
 |[],_,off,r,h,e=>by subst h;exact e
 |f::l,_,off,r,h,e=>by
  subst h;rw[bba,oZ]at e
  rw[shFields];split at e
  ·rename_i h0
   rw[if_pos h0];cases hg:g f.type with
   |none=>simp only[hg,Option.bind_none]at e;cases e
   |some s=>
    simp only[hg,bag]at e⊢
    simp only[bai]at e⊢
    obtain⟨r',e1,e2⟩:=e
    exact⟨r',ES g l _ _ r' rfl e1,e2⟩
  ·cases e
theorem alA:∀n:Nat,shOf Tryz.prog n 36=some (gT n)∧shOf Tryz.prog n 34=some (gL n)
 |0=>⟨by kernel_rfl,by kernel_rfl⟩
 |n+1=>by
  obtain⟨h1,h2⟩:=alA n
  obtain⟨fs,hf,hl⟩:=aqo
  have hc:Tryz.prog.cellsOf 34=1:=by kernel_rfl
  have hc6:Tryz.prog.cellsOf 36=6:=by kernel_rfl
  obtain⟨z1,z2,z3,z4,z5⟩:=ajS n
  have e:oZ (shOf Tryz.prog n) [(31,0),(2,1),(9,2),(32,3),(33,4),(34,5)] 0=some [gI n,gI n,gS n,gU n,gN n,gL n]:=by
   simp only[oZ,ajQ n,an_ n,aeB n,aaS n,ajR n,h2,z1,z2,z3,z4,baf,Nat.reduceAdd,if_true,jab]
  have e2:=ES _ _ _ _ _ hl e
  have e3:(Sh.agg [gI n,gI n,gS n,gU n,gN n,gL n]).size=6:=by
   simp only[R.Sh.size,R.Sh.jj,z1,z2,z3,z4,z5]
  refine⟨?_,?_⟩
  ·simp only[shOf,hf,e2,hc6,e3,if_true,gT,jab]
  ·simp only[shOf,aqq,h1,hc,R.Sh.size,if_true,gL,jab]
theorem wf_i64 {n:Int} (h:(Lit.int .i64 n).wf=true):I64 n:=by
 simp only[Lit.wf,bau,decide_eq_true_eq]at h
 exact h
theorem wf_u32 {n:Int} (h:(Lit.int .u32 n).wf=true):KW n:=by
 simp only[Lit.wf,bau,decide_eq_true_eq]at h
 exact h
section
variable {H : Type}
theorem aaT:∀{n:Nat} {d:DataW H} {vs:List AV},Fits (gU n) d vs→∃x,vs=[.int .u32 x]∧KW x
 |0,d,vs,h=>h.elim
 |n+1,d,vs,h=>by obtain⟨x,_,h1,h2⟩:=h;exact⟨x,h2,wf_u32 h1⟩
theorem aaU:∀{n:Nat} {d:DataW H} {vs:List AV},Fits (gI n) d vs→∃x,vs=[.int .i64 x]∧I64 x
 |0,d,vs,h=>h.elim
 |n+1,d,vs,h=>by obtain⟨x,_,h1,h2⟩:=h;exact⟨x,h2,wf_i64 h1⟩
theorem ajT:∀{n:Nat} {d:DataW H} {vs:List AV},Fits (gS n) d vs→∃x,vs=[.str x]∧x.length<9223372036854775808
 |0,d,vs,h=>h.elim
 |n+1,d,vs,h=>by
  obtain⟨x,_,h1,h2⟩:=h
  exact⟨x,h2,by have:maxLen=9223372036854775807:=rfl;omega⟩
theorem Sy {n:Nat}:∀{es:List (DataW H)} {css:List (List AV)},kZ (Fits (gU n)) es css→∃ns,css.flatten=bN ns∧ns.length=es.length∧∀x,x∈ns→KW x
 |_,_,.nil=>⟨[],rfl,rfl,fun x h=>by simp at h⟩
 |_,_,.cons h hs=>by
  obtain⟨x,rfl,hx⟩:=aaT h
  obtain⟨ns,h1,h2,h3⟩:=Sy hs
  refine⟨x::ns,?_,by simp[h2],fun y hy=> ?_⟩
  ·rw[List.flatten_cons,h1];rfl
  ·rcases bbi.1 hy with rfl|hy
   ·exact hx
   ·exact h3 y hy
theorem ajU:∀{n:Nat} {d:DataW H} {vs:List AV},Fits (gN n) d vs→∃f ns,vs=[aM f ns.length (bN ns)]∧ns.length<9223372036854775808∧∀x,x∈ns→KW x
 |0,d,vs,h=>h.elim
 |n+1,d,vs,h=>by
  rcases h with⟨_,h⟩|⟨es,spare,css,_,hl,ha,h⟩
  ·exact⟨none,[],h,by decide,fun x h=>by simp at h⟩
  ·obtain⟨ns,h1,h2,h3⟩:=Sy ha
   refine⟨some spare.isEmpty,ns,?_,by have:maxLen=9223372036854775807:=rfl;omega,h3⟩
   rw[h,h1,←h2];rfl
theorem Ip {n:Nat} (ht:∀{d:DataW H} {vs:List AV},Fits (gT n) d vs→∃t:Tm,t.Ok∧vs=tc t):∀{es:List (DataW H)} {css:List (List AV)},kZ (Fits (gT n)) es css→∃ts,css.flatten=bq ts∧ts.length=es.length∧gW ts
 |_,_,.nil=>⟨[],rfl,rfl,trivial⟩
 |_,_,.cons h hs=>by
  obtain⟨t,ok,rfl⟩:=ht h
  obtain⟨ts,h1,h2,h3⟩:=Ip ht hs
  refine⟨t::ts,?_,by simp[h2],?_⟩
  ·rw[List.flatten_cons,h1];rfl
  ·rw[gW];exact⟨ok,h3⟩
theorem aaV:∀(n:Nat),(∀{d:DataW H} {vs:List AV},Fits (gT n) d vs→∃t:Tm,t.Ok∧vs=tc t)∧(∀{d:DataW H} {vs:List AV},Fits (gL n) d vs→∃f ts,vs=[aM f ts.length (bq ts)]∧ts.length<9223372036854775808∧gW ts)
 |0=>⟨fun h=>h.elim,fun h=>h.elim⟩
 |n+1=>by
  obtain⟨iht,ihl⟩:=aaV n
  refine⟨fun{d vs} h=> ?_,fun{d vs} h=> ?_⟩
  ·obtain⟨ps,_,d1,l1,a1,b1,_,rfl,f1,d2,l2,a2,b2,_,rfl,f2,d3,l3,a3,b3,_,rfl,f3,d4,l4,a4,b4,_,rfl,f4,d5,l5,a5,b5,_,rfl,f5,d6,l6,a6,b6,_,rfl,f6,_,rfl⟩:=h
   obtain⟨k,rfl,hk⟩:=aaU f1
   obtain⟨i,rfl,hi⟩:=aaU f2
   obtain⟨s,rfl,hs⟩:=ajT f3
   obtain⟨c,rfl,hc⟩:=aaT f4
   obtain⟨nf,ns,rfl,hn,hn'⟩:=ajU f5
   obtain⟨af,ar,rfl,ha,ha'⟩:=ihl f6
   refine⟨.mk k i s c nf ns af ar,?_,rfl⟩
   rw[Tm.Ok];exact⟨hk,hi,hc,hn',hs,hn,ha,ha'⟩
  ·rcases h with⟨_,h⟩|⟨es,spare,css,_,hl,r0,h⟩
   ·exact⟨none,[],h,by decide,trivial⟩
   ·obtain⟨ts,h1,h2,h3⟩:=Ip iht r0
    refine⟨some spare.isEmpty,ts,?_,by have:maxLen=9223372036854775807:=rfl;omega,h3⟩
    rw[h,h1,←h2];rfl
end
end Go.Bf
