/- For BifCalls. -/
import Derived.Test.YtaielgjmhbjfhaaGreatDoorBfEnv
import Derived.Test.YtaielgjmhbjfhaaGreatDoorAmD
set_option linter.unusedVariables false
set_option maxRecDepth 20000
namespace Go.Bf
open Go.AM
structure Ko where
 name:List UInt8
 ar:Int
 gd:Bool
def Ko.cells (b:Ko):List AV:=[.str b.name,.int .i64 b.ar,.int .i64 1,.bool b.gd]
def ij (l:List Ko):List AV:=(l.map Ko.cells).flatten
def dz:List Ko:=[
 ⟨[43],1,true⟩,
 ⟨[45],1,true⟩,
 ⟨[110,111,116],1,true⟩,
 ⟨[43],2,true⟩,
 ⟨[45],2,true⟩,
 ⟨[42],2,true⟩,
 ⟨[100,105,118],2,true⟩,
 ⟨[114,101,109],2,true⟩,
 ⟨[97,110,100],2,true⟩,
 ⟨[111,114],2,true⟩,
 ⟨[120,111,114],2,true⟩,
 ⟨[43,43],2,false⟩,
 ⟨[45,45],2,false⟩,
 ⟨[61,61],2,true⟩,
 ⟨[47,61],2,true⟩,
 ⟨[61,60],2,true⟩,
 ⟨[60],2,true⟩,
 ⟨[62,61],2,true⟩,
 ⟨[62],2,true⟩,
 ⟨[61,58,61],2,true⟩,
 ⟨[61,47,61],2,true⟩,
 ⟨[97,98,115],1,true⟩,
 ⟨[101,108,101,109,101,110,116],2,true⟩,
 ⟨[116,117,112,108,101,95,115,105,122,101],1,true⟩,
 ⟨[108,101,110,103,116,104],1,true⟩,
 ⟨[104,100],1,true⟩,
 ⟨[116,108],1,true⟩,
 ⟨[105,115,95,97,116,111,109],1,true⟩,
 ⟨[105,115,95,98,111,111,108,101,97,110],1,true⟩,
 ⟨[105,115,95,105,110,116,101,103,101,114],1,true⟩,
 ⟨[105,115,95,108,105,115,116],1,true⟩,
 ⟨[105,115,95,112,105,100],1,true⟩,
 ⟨[105,115,95,114,101,102,101,114,101,110,99,101],1,true⟩,
 ⟨[105,115,95,116,117,112,108,101],1,true⟩,
 ⟨[110,111,100,101],1,true⟩,
 ⟨[115,101,116,101,108,101,109,101,110,116],3,false⟩,
 ⟨[109,97,120],2,false⟩,
 ⟨[109,105,110],2,false⟩,
 ⟨[108,105,115,116,95,116,111,95,116,117,112,108,101],1,false⟩,
 ⟨[116,117,112,108,101,95,116,111,95,108,105,115,116],1,false⟩,
 ⟨[105,110,116,101,103,101,114,95,116,111,95,108,105,115,116],1,false⟩,
 ⟨[108,105,115,116,95,116,111,95,105,110,116,101,103,101,114],1,false⟩,
 ⟨[97,116,111,109,95,116,111,95,108,105,115,116],1,false⟩,
 ⟨[108,105,115,116,95,116,111,95,97,116,111,109],1,false⟩]
theorem aaI (h:Heap):WC env 11 [] h (fun o=>o=.ret ⟨.fs false 44 (ij dz),h,.none⟩):=bu (n:=60) (by kernel_rfl)
theorem Ua (h:Heap):WC env 12 [] h (fun o=>o=.ret ⟨.fs false 44 (ij dz),h,.none⟩):=bu (n:=60) (by kernel_rfl)
theorem Bc (h:Heap):WC env 15 [] h (fun o=>o=.ret ⟨.bool true,h,.none⟩):=bu (n:=80) (by kernel_rfl)
end Go.Bf
namespace Go.Bf
open Go.AM
theorem K2:∀(l:List Ko) (i:Nat),(hi:i<l.length)→(ij l).drop (i*4)=l[i].cells++ij (l.drop (i+1))
 |[],i,hi=>by simp at hi
 |o::l,0,hi=>rfl
 |o::l,i+1,hi=>by
  have:=K2 l i (by simpa using hi)
  have e:(i+1)*4=i*4+1+1+1+1:=by omega
  rw[e]
  simpa[ij,Ko.cells]using this
theorem K3 {l:List Ko} {i:Nat} {full:Bool} (hi:i<l.length):∃rest,aZ 4 (.fs full l.length (ij l)) (.int .i64 i)=some (.fp (l[i].cells++rest)):=by
 have bct:c_ l.length (.int .i64 i)=some i:=by
  have h0:(0:Int)≤i:=Int.natCast_nonneg i
  have h2:(i:Int)<l.length:=by exact_mod_cast hi
  simp[c_,h0,h2]
 have hd:=K2 l i hi
 refine⟨ij (l.drop (i+1)),?_⟩
 rw[←hd];cases hc:ij l with
 |nil=>rw[hc]at hd;simp[Ko.cells]at hd
 |cons a t=>simp only[aZ,bct,Option.map_some]
theorem K4 (b:Ko) (rest:List AV) (h:Heap):bg h true 4 (.fp (b.cells++rest))=some ⟨.agg b.cells,h,.none⟩:=rfl
theorem PR (b:Ko) (rest:List AV):au 0 (.fp (b.cells++rest))=some (.fp (b.cells++rest)):=rfl
theorem PS (b:Ko) (rest:List AV):au 1 (.fp (b.cells++rest))=some (.fp ((.int .i64 b.ar)::(.int .i64 1)::(.bool b.gd)::rest)):=rfl
theorem adC (b:Ko) (rest:List AV) (h:Heap):bg h false 1 (.fp (b.cells++rest))=some ⟨.str b.name,h,.none⟩:=rfl
theorem an5 (a:AV) (rest:List AV) (h:Heap):bg h false 1 (.fp (a::rest))=some ⟨a,h,.none⟩:=rfl
def oY:List AV:=[.str [],.int .i64 0,.int .i64 0,.bool false]
def ur:Option Ko→List AV
 |some b=>b.cells
 |none=>oY
def l8 (name:List UInt8) (ar:Int) (b:Ko):Bool:=b.name==name&&b.ar==ar
theorem abA {h:Heap} (ho:an h) (a b c d:AV):∃h',bC (h.new [.str [],.int .i64 0,.int .i64 0,.bool false]) 4 (.ptr h.next 0 0) (.agg [a,b,c,d])=some ⟨.undef,h',.write⟩∧an h' ∧h.le h' ∧h'.at_ h.next 0=some [a,b,c,d]:=by
 obtain⟨z,ez⟩:∃z,z=[AV.str [],.int .i64 0,.int .i64 0,.bool false]:=⟨_,rfl⟩
 rw[←ez];have hat:(h.new z).at_ h.next 0=some z:=aY _
 refine⟨(h.new z).cD h.next 0 [a,b,c,d],?_,(ho.new _).cD (cJ.1 hat) _ _,?_,bD⟩
 ·simp only[bC,hat,Option.bind_some,dH]
  rw[ez];rfl
 ·have c:jL (fun i=>i=h.next) h ((h.new z).cD h.next 0 [a,b,c,d]):=(cz ho z).wR.trans (fJ rfl)
  exact⟨c.1,fun id gen cs e=>c.2 _ _ _ (fun x=>by have:=ho.lt e;omega) e⟩
section
variable {h : Heap} {i : Nat} {a b c d : AV} (hat : h.at_ i 0 = some [a, b, c, d])
include hat
theorem ld4:bg h true 4 (.ptr i 0 0)=some ⟨.agg [a,b,c,d],h,.read⟩:=by simp only[bg,hat,Option.bind_some];rfl
theorem aqm:bg h false 1 (.ptr i 0 0)=some ⟨a,h,.read⟩:=by simp only[bg,hat,Option.bind_some];rfl
theorem aqn:bg h false 1 (.ptr i 0 1)=some ⟨b,h,.read⟩:=by simp only[bg,hat,Option.bind_some];rfl
theorem st4 {a' b' c' d' :AV}:bC h 4 (.ptr i 0 0) (.agg [a',b',c',d'])=some ⟨.undef,h.cD i 0 [a',b',c',d'],.write⟩:=by
 simp only[bC,hat,Option.bind_some,dH];rfl
end
theorem Ub {name:List UInt8} {ar:Int} {i4:Nat} {Q:aU→St→Prop}:∀(f i:Nat) (h:Heap) (σ:ah),dz.length-i<f→i≤dz.length→an h→h.at_ i4 0=some oY→
   σ.get 0=.str name→σ.get 1=.int .i64 ar→σ.get 4=.ptr i4 0 0→σ.get 8=.fs false 44 (ij dz)→σ.get 9=.int .i64 44→σ.get 10=.int .i64 i→
   (∀b σ' h',(dz.drop i).find? (l8 name ar)=some b→h'.at_ i4 0=some b.cells→σ'.get 4=.ptr i4 0 0→σ'.get 5=.bool true→Q .ret ⟨σ',h'⟩)→
   (∀σ' h',(dz.drop i).find? (l8 name ar)=none→h'.at_ i4 0=some oY→σ'.get 4=.ptr i4 0 0→Q (.exit 0) ⟨σ',h'⟩)→kz env B8 ⟨σ,h⟩ Q:=by
 intro f;have hlen:dz.length=44:=rfl
 induction f with
 |zero=>intro i h σ h1;omega
 |succ f ih=>
  intro i h σ hf hi ho a4 g0 g1 g4 g8 g9 g10 hQ hN;refine aC fun b hb' => ?_
  by_cases c1:i<dz.length
  ·have z0:((i:Int)<44)=True:=eq_true (by omega)
   have z1:IntKind.wrap .i64 ((i:Int)+1)=((i+1:Nat):Int):=aX (by omega) (by omega)
   obtain⟨rest,e1⟩:=K3 (full:=false) c1
   rw[hlen]at e1
   have e2:=K4 dz[i] rest h
   obtain⟨h1,s1,ho1,l1,a7⟩:=abA ho (.str dz[i].name) (.int .i64 dz[i].ar) (.int .i64 1) (.bool dz[i].gd)
   have s1' :bC (h.new [.str [],.int .i64 0,.int .i64 0,.bool false]) 4 (.ptr h.next 0 0) (.agg dz[i].cells)=some ⟨.undef,h1,.write⟩:=s1
   have a4' :=l1.2 _ _ _ a4
   have w0:=aqm a7
   have w1:=aqn a7
   have w4:=ld4 a7
   have w5:=st4 (a' :=.str dz[i].name) (b' :=.int .i64 dz[i].ar) (c' :=.int .i64 1) (d' :=.bool dz[i].gd) a4'
   have bcx:dz.drop i=dz[i]::dz.drop (i+1):=List.drop_eq_getElem_cons c1
   by_cases c2:l8 name ar dz[i]=true
   ·have c2' :=c2
    simp only[l8,Bool.and_eq_true]at c2'
    obtain⟨y1,y2⟩:=c2'
    simp only[B8,ED,KE,KF,X2,aw,reduceIte,Nat.reduceEqDiff,g0,g1,g4,g8,g9,g10,z0,e1,e2,s1',au,Nat.zero_add,w0,w1,aD,y1,y2,aL,w4,w5]
    refine hQ dz[i] _ _ ?_ ?_ ?_ ?_
    ·rw[bcx,List.find?_cons,c2]
    ·exact bD
    ·simp only[aa,reduceIte,Nat.reduceEqDiff,g4]
    ·simp only[aa,reduceIte,Nat.reduceEqDiff]
   ·have go:∀(σ2:ah),(∀n,n<11→n≠7→σ2.get n=σ.get n)→jK env (.ops RM) ⟨σ2,h1⟩ (lF env b Q):=by
     intro σ2 s2;have p10:σ2.get 10=.int .i64 i:=by rw[s2 10 (by omega) (by omega),g10]
     simp only[RM,aw,reduceIte,p10,z1]
     subst hb';have e3:(dz.drop i).find? (l8 name ar)=(dz.drop (i+1)).find? (l8 name ar):=by
      rw[bcx,List.find?_cons];simp only[Bool.not_eq_true]at c2
      rw[c2]
     rw[e3]at hQ hN
     refine ih (i+1) h1 _ (by omega) (by omega) ho1 a4' ?_ ?_ ?_ ?_ ?_ ?_ hQ hN
     ·simp only[aa,reduceIte,Nat.reduceEqDiff];rw[s2 0 (by omega) (by omega),g0]
     ·simp only[aa,reduceIte,Nat.reduceEqDiff];rw[s2 1 (by omega) (by omega),g1]
     ·simp only[aa,reduceIte,Nat.reduceEqDiff];rw[s2 4 (by omega) (by omega),g4]
     ·simp only[aa,reduceIte,Nat.reduceEqDiff];rw[s2 8 (by omega) (by omega),g8]
     ·simp only[aa,reduceIte,Nat.reduceEqDiff];rw[s2 9 (by omega) (by omega),g9]
     ·simp only[aa,reduceIte,Nat.reduceEqDiff]
    have el:B8=(.seq (.ops ED) (.seq (.cond (.t 11) .skip (.exit 0)) (.seq (.block 1 (.seq (.ops KE) (.seq (.ops KF) (.cond (.t 23) (.seq (.ops X2) .ret) .skip)))) (.ops RM)))):=rfl
    rw[el];cases y1:(dz[i].name==name)with
    |false=>
     rw[cN];simp only[ED,KE,KF,aw,reduceIte,Nat.reduceEqDiff,g0,g8,g9,g10,z0,e1,e2,s1',au,Nat.zero_add,w0,aD,y1,aL]
     refine go _ fun n hn h7=> ?_
     simp only[aa]
     repeat rw[if_neg (by omega)]
    |true=>
     have y2:(dz[i].ar==ar)=false:=by
      cases y2:(dz[i].ar==ar)with
      |false=>rfl
      |true=>exact absurd (by rw[l8,y1,y2];rfl) c2
     rw[cN];simp only[ED,KE,KF,aw,reduceIte,Nat.reduceEqDiff,g0,g1,g8,g9,g10,z0,e1,e2,s1',au,Nat.zero_add,w0,w1,aD,y1,y2,aL]
     refine go _ fun n hn h7=> ?_
     simp only[aa]
     repeat rw[if_neg (by omega)]
  ·have z0:((i:Int)<44)=False:=eq_false (by omega)
   have e3:dz.drop i=[]:=List.drop_of_length_le (by omega)
   simp only[B8,ED,aw,reduceIte,g9,g10,z0]
   refine hN _ h ?_ a4 ?_
   ·rw[e3];rfl
   ·simp only[aa,reduceIte,Nat.reduceEqDiff,g4]
def cx (name:List UInt8) (ar:Int):AV:=.aF [.agg (ur (dz.find? (l8 name ar))),.bool (dz.find? (l8 name ar)).isSome]
theorem find_spec (h:Heap) (name:List UInt8) (ar:Int):WC env 13 [.str name,.int .i64 ar] h (fun o=>o=.ret ⟨cx name ar,h,.none⟩):=by
 refine ad rfl rfl rfl rfl ?_
 obtain⟨h1,eh1⟩:∃h1,h1=Heap.empty.new oY:=⟨_,rfl⟩
 have eh1' :Heap.empty.new [AV.str [],.int .i64 0,.int .i64 0,.bool false]=h1:=eh1.symm
 have ho1:an h1:=by rw[eh1];exact an.empty.new _
 have a1:h1.at_ Heap.empty.next 0=some oY:=by rw[eh1];exact aY _
 simp only[a13,aeW,aeX,ah.bbw,aw,reduceIte,Nat.reduceEqDiff,eh1',ai (aaI _),aN]
 refine Ub (name:=name) (ar:=ar) (i4:=Heap.empty.next) 45 0 h1 _ (by decide) (by omega) ho1 a1 ?_ ?_ ?_ ?_ ?_ ?_ (fun b σ' h' hb hat g4 g5=> ?_) (fun σ' h' hb hat g4=> ?_)
 ·simp only[aa,reduceIte,Nat.reduceEqDiff]<;>rfl
 ·simp only[aa,reduceIte,Nat.reduceEqDiff]<;>rfl
 ·simp only[aa,reduceIte,Nat.reduceEqDiff]<;>rfl
 ·simp only[aa,reduceIte,Nat.reduceEqDiff]<;>rfl
 ·simp only[aa,reduceIte,Nat.reduceEqDiff]<;>rfl
 ·simp only[aa,reduceIte,Nat.reduceEqDiff]<;>rfl
 ·have hb' :dz.find? (l8 name ar)=some b:=hb
  have l:=ld4 (a:=.str b.name) (b:=.int .i64 b.ar) (c:=.int .i64 1) (d:=.bool b.gd) hat
  refine⟨[.agg b.cells,.bool true],cx name ar,?_,?_,rfl⟩
  ·simp only[Env.results,g4,g5,l,jab];rfl
  ·rw[cx,hb']
   exact(ay (v:=.aF [.agg b.cells,.bool true]) rfl).2 rfl
 ·have hb' :dz.find? (l8 name ar)=none:=hb
  have l:=st4 (a' :=.str []) (b' :=.int .i64 0) (c' :=.int .i64 0) (d' :=.bool false) hat
  have y1:bY [.str [],.int .i64 0,.int .i64 0,.bool false] []=some [.str [],.int .i64 0,.int .i64 0,.bool false]:=rfl
  simp only[aeY,aw,reduceIte,Nat.reduceEqDiff,g4,y1,l]
  have l2:=ld4 (h:=h'.cD Heap.empty.next 0 [.str [],.int .i64 0,.int .i64 0,.bool false]) bD
  refine⟨[.agg oY,.bool false],cx name ar,?_,?_,rfl⟩
  ·simp only[Env.results,aa,reduceIte,Nat.reduceEqDiff,g4,l2,jab];rfl
  ·rw[cx,hb']
   exact(ay (v:=.aF [.agg oY,.bool false]) rfl).2 rfl
theorem PT {name:List UInt8} {ar:Int} {i4:Nat} {Q:aU→St→Prop}:∀(f i:Nat) (h:Heap) (σ:ah),dz.length-i<f→i≤dz.length→an h→h.at_ i4 0=some oY→
   σ.get 0=.str name→σ.get 1=.int .i64 ar→σ.get 4=.ptr i4 0 0→σ.get 6=.fs false 44 (ij dz)→σ.get 7=.int .i64 i→
   (∀b σ' h',(dz.drop i).find? (l8 name ar)=some b→h'.at_ i4 0=some b.cells→σ'.get 4=.ptr i4 0 0→σ'.get 5=.bool true→Q .ret ⟨σ',h'⟩)→
   (∀σ' h',(dz.drop i).find? (l8 name ar)=none→h'.at_ i4 0=some oY→σ'.get 4=.ptr i4 0 0→Q (.exit 0) ⟨σ',h'⟩)→kz env B9 ⟨σ,h⟩ Q:=by
 intro f;have hlen:dz.length=44:=rfl
 induction f with
 |zero=>intro i h σ h1;omega
 |succ f ih=>
  intro i h σ hf hi ho a4 g0 g1 g4 g6 g7 hQ hN;refine aC fun b hb' => ?_
  have en:∀h,aN false h (.fs false 44 (ij dz))=some ⟨.int .i64 44,h,.none⟩:=fun h=>rfl
  by_cases c1:i<dz.length
  ·have z0:((i:Int)<44)=True:=eq_true (by omega)
   have z1:IntKind.wrap .i64 ((i:Int)+1)=((i+1:Nat):Int):=aX (by omega) (by omega)
   obtain⟨rest,e1⟩:=K3 (full:=false) c1
   rw[hlen]at e1
   have e2:=K4 dz[i] rest h
   have e3:=PR dz[i] rest
   have e4:=PS dz[i] rest
   have e5:=adC dz[i] rest h
   have e6:=an5 (.int .i64 dz[i].ar) ((.int .i64 1)::(.bool dz[i].gd)::rest) h
   have w5:=st4 (a' :=.str dz[i].name) (b' :=.int .i64 dz[i].ar) (c' :=.int .i64 1) (d' :=.bool dz[i].gd) a4
   have w5' :bC h 4 (.ptr i4 0 0) (.agg dz[i].cells)=some ⟨.undef,h.cD i4 0 dz[i].cells,.write⟩:=w5
   have bcx:dz.drop i=dz[i]::dz.drop (i+1):=List.drop_eq_getElem_cons c1
   have el:B9=(.seq (.seq (.ops EE) (.cond (.t 12) .skip (.exit 0))) (.seq (.block 1 (.seq (.ops KG) (.cond (.t 30) (.seq (.ops X3) .ret) .skip))) (.ops RN))):=rfl
   by_cases c2:l8 name ar dz[i]=true
   ·have c2' :=c2
    simp only[l8,Bool.and_eq_true]at c2'
    obtain⟨y1,y2⟩:=c2'
    simp only[B9,EE,KG,X3,aw,reduceIte,Nat.reduceEqDiff,g0,g1,g4,g6,g7,en,z0,e1,e2,e3,e4,e5,e6,aD,y1,y2,aL,w5']
    refine hQ dz[i] _ _ ?_ ?_ ?_ ?_
    ·rw[bcx,List.find?_cons,c2]
    ·exact bD
    ·simp only[aa,reduceIte,Nat.reduceEqDiff,g4]
    ·simp only[aa,reduceIte,Nat.reduceEqDiff]
   ·have go:∀(σ2:ah),(∀n,n<8→σ2.get n=σ.get n)→jK env (.ops RN) ⟨σ2,h⟩ (lF env b Q):=by
     intro σ2 s2;have p7:σ2.get 7=.int .i64 i:=by rw[s2 7 (by omega),g7]
     simp only[RN,aw,reduceIte,Nat.reduceEqDiff,p7,z1]
     subst hb';have e3:(dz.drop i).find? (l8 name ar)=(dz.drop (i+1)).find? (l8 name ar):=by
      rw[bcx,List.find?_cons];simp only[Bool.not_eq_true]at c2
      rw[c2]
     rw[e3]at hQ hN
     refine ih (i+1) h _ (by omega) (by omega) ho a4 ?_ ?_ ?_ ?_ ?_ hQ hN
     ·simp only[aa,reduceIte,Nat.reduceEqDiff];rw[s2 0 (by omega),g0]
     ·simp only[aa,reduceIte,Nat.reduceEqDiff];rw[s2 1 (by omega),g1]
     ·simp only[aa,reduceIte,Nat.reduceEqDiff];rw[s2 4 (by omega),g4]
     ·simp only[aa,reduceIte,Nat.reduceEqDiff];rw[s2 6 (by omega),g6]
     ·simp only[aa,reduceIte,Nat.reduceEqDiff]
    rw[el];cases y1:(dz[i].name==name)with
    |false=>
     rw[cN];simp only[EE,KG,aw,reduceIte,Nat.reduceEqDiff,g0,g6,g7,en,z0,e1,e3,e5,aD,y1,aL]
     refine go _ fun n hn=> ?_
     simp only[aa]
     repeat rw[if_neg (by omega)]
    |true=>
     have y2:(dz[i].ar==ar)=false:=by
      cases y2:(dz[i].ar==ar)with
      |false=>rfl
      |true=>exact absurd (by rw[l8,y1,y2];rfl) c2
     rw[cN];simp only[EE,KG,aw,reduceIte,Nat.reduceEqDiff,g0,g1,g6,g7,en,z0,e1,e3,e4,e5,e6,aD,y1,y2,aL]
     refine go _ fun n hn=> ?_
     simp only[aa]
     repeat rw[if_neg (by omega)]
  ·have z0:((i:Int)<44)=False:=eq_false (by omega)
   have e3:dz.drop i=[]:=List.drop_of_length_le (by omega)
   simp only[B9,EE,aw,reduceIte,Nat.reduceEqDiff,g6,g7,en,z0]
   refine hN _ h ?_ a4 ?_
   ·rw[e3];rfl
   ·simp only[aa,reduceIte,Nat.reduceEqDiff,g4]
theorem A2 (h:Heap) (name:List UInt8) (ar:Int):WC env 14 [.str name,.int .i64 ar] h (fun o=>o=.ret ⟨cx name ar,h,.none⟩):=by
 refine ad rfl rfl rfl rfl ?_
 obtain⟨h1,eh1⟩:∃h1,h1=Heap.empty.new oY:=⟨_,rfl⟩
 have eh1' :Heap.empty.new [AV.str [],.int .i64 0,.int .i64 0,.bool false]=h1:=eh1.symm
 have ho1:an h1:=by rw[eh1];exact an.empty.new _
 have a1:h1.at_ Heap.empty.next 0=some oY:=by rw[eh1];exact aY _
 simp only[a14,aeZ,ae0,ae1,ah.bbw,aw,reduceIte,Nat.reduceEqDiff,eh1',ai (Ua _)]
 refine PT (name:=name) (ar:=ar) (i4:=Heap.empty.next) 45 0 h1 _ (by decide) (by omega) ho1 a1 ?_ ?_ ?_ ?_ ?_ (fun b σ' h' hb hat g4 g5=> ?_) (fun σ' h' hb hat g4=> ?_)
 ·simp only[aa,reduceIte,Nat.reduceEqDiff]<;>rfl
 ·simp only[aa,reduceIte,Nat.reduceEqDiff]<;>rfl
 ·simp only[aa,reduceIte,Nat.reduceEqDiff]<;>rfl
 ·simp only[aa,reduceIte,Nat.reduceEqDiff]<;>rfl
 ·simp only[aa,reduceIte,Nat.reduceEqDiff]<;>rfl
 ·have hb' :dz.find? (l8 name ar)=some b:=hb
  have l:=ld4 (a:=.str b.name) (b:=.int .i64 b.ar) (c:=.int .i64 1) (d:=.bool b.gd) hat
  refine⟨[.agg b.cells,.bool true],cx name ar,?_,?_,rfl⟩
  ·simp only[Env.results,g4,g5,l,jab];rfl
  ·rw[cx,hb']
   exact(ay (v:=.aF [.agg b.cells,.bool true]) rfl).2 rfl
 ·have hb' :dz.find? (l8 name ar)=none:=hb
  have l:=st4 (a' :=.str []) (b' :=.int .i64 0) (c' :=.int .i64 0) (d' :=.bool false) hat
  have y1:bY [.str [],.int .i64 0,.int .i64 0,.bool false] []=some [.str [],.int .i64 0,.int .i64 0,.bool false]:=rfl
  simp only[ae2,aw,reduceIte,Nat.reduceEqDiff,g4,y1,l]
  have l2:=ld4 (h:=h'.cD Heap.empty.next 0 [.str [],.int .i64 0,.int .i64 0,.bool false]) bD
  refine⟨[.agg oY,.bool false],cx name ar,?_,?_,rfl⟩
  ·simp only[Env.results,aa,reduceIte,Nat.reduceEqDiff,g4,l2,jab];rfl
  ·rw[cx,hb']
   exact(ay (v:=.aF [.agg oY,.bool false]) rfl).2 rfl
end Go.Bf
namespace Go.Bf
open Go.AM
def ti (x:Int):List AV:=[.int .i64 1,.int .i64 x,.str [],.int .u32 0,.ax,.ax]
def aK:List AV:=[.int .i64 0,.int .i64 0,.str [],.int .u32 0,.ax,.ax]
def Small (x:Int):Prop:= -576460752303423488≤x∧x≤576460752303423487
theorem aaE (x:Int) (h:Heap):WC env 59 [.int .i64 x] h (fun o=>o=.ret ⟨.agg (ti x),h,.none⟩):=bu (n:=30) (by kernel_rfl)
theorem T6 (x:Int) (h:Heap):WC env 22 [.int .i64 x] h (fun o=>o=.ret ⟨.agg (ti x),h,.none⟩):=bu (n:=30) (by kernel_rfl)
section
variable {h : Heap} {i : Nat} {a b c d e f : AV} (hat : h.at_ i 0 = some [a, b, c, d, e, f])
include hat
theorem vy:bg h true 6 (.ptr i 0 0)=some ⟨.agg [a,b,c,d,e,f],h,.read⟩:=by simp only[bg,hat,Option.bind_some];rfl
theorem eK:bg h false 1 (.ptr i 0 0)=some ⟨a,h,.read⟩:=by simp only[bg,hat,Option.bind_some];rfl
theorem gj:bg h false 1 (.ptr i 0 1)=some ⟨b,h,.read⟩:=by simp only[bg,hat,Option.bind_some];rfl
theorem gk:bg h false 1 (.ptr i 0 2)=some ⟨c,h,.read⟩:=by simp only[bg,hat,Option.bind_some];rfl
theorem iz:bg h false 1 (.ptr i 0 3)=some ⟨d,h,.read⟩:=by simp only[bg,hat,Option.bind_some];rfl
theorem eU:bg h false 1 (.ptr i 0 4)=some ⟨e,h,.read⟩:=by simp only[bg,hat,Option.bind_some];rfl
theorem dZ:bg h false 1 (.ptr i 0 5)=some ⟨f,h,.read⟩:=by simp only[bg,hat,Option.bind_some];rfl
theorem st6 {a' b' c' d' e' f' :AV}:bC h 6 (.ptr i 0 0) (.agg [a',b',c',d',e',f'])=some ⟨.undef,h.cD i 0 [a',b',c',d',e',f'],.write⟩:=by
 simp only[bC,hat,Option.bind_some,dH];rfl
end
section
variable {h : Heap} {i : Nat} {a b : AV} (hat : h.at_ i 0 = some [a, b])
include hat
theorem alB:bg h false 1 (.ptr i 0 0)=some ⟨a,h,.read⟩:=by simp only[bg,hat,Option.bind_some];rfl
theorem alC:bg h false 1 (.ptr i 0 1)=some ⟨b,h,.read⟩:=by simp only[bg,hat,Option.bind_some];rfl
theorem ap1 {k:IntKind} {n:Int}:bC h 1 (.ptr i 0 0) (.int k n)=some ⟨.undef,h.cD i 0 [.int k n,b],.write⟩:=by
 simp only[bC,hat,Option.bind_some];rfl
theorem ap2 {k:IntKind} {n:Int}:bC h 1 (.ptr i 0 1) (.int k n)=some ⟨.undef,h.cD i 0 [a,.int k n],.write⟩:=by
 simp only[bC,hat,Option.bind_some];rfl
end
theorem ap0 {h:Heap} (ho:an h) (a b c d e f:AV):∃h',bC (h.new [.int .i64 0,.int .i64 0,.str [],.int .u32 0,.ax,.ax]) 6 (.ptr h.next 0 0) (.agg [a,b,c,d,e,f])=some ⟨.undef,h',.write⟩∧an h' ∧h.le h' ∧h'.at_ h.next 0=some [a,b,c,d,e,f]:=by
 obtain⟨z,ez⟩:∃z,z=[AV.int .i64 0,.int .i64 0,.str [],.int .u32 0,.ax,.ax]:=⟨_,rfl⟩
 rw[←ez];have hat:(h.new z).at_ h.next 0=some z:=aY _
 refine⟨(h.new z).cD h.next 0 [a,b,c,d,e,f],?_,(ho.new _).cD (cJ.1 hat) _ _,?_,bD⟩
 ·simp only[bC,hat,Option.bind_some,dH]
  rw[ez];rfl
 ·have c:jL (fun i=>i=h.next) h ((h.new z).cD h.next 0 [a,b,c,d,e,f]):=(cz ho z).wR.trans (fJ rfl)
  exact⟨c.1,fun id gen cs e=>c.2 _ _ _ (fun x=>by have:=ho.lt e;omega) e⟩
end Go.Bf
namespace Go.Bf
open Go.AM
def hH (c:Int):Int:=if 97≤c∧c≤122 then 1 else if 65≤c∧c≤90 then 2 else if 48≤c∧c≤57 then 3 else if c=95∨c=64 then 4 else 0
theorem fY (c:Int) (h:Heap):WC env 153 [.int .u8 c] h (fun o=>o=.ret ⟨.int .i64 (hH c),h,.none⟩):=by
 refine ad rfl rfl rfl rfl ?_
 have fin:∀{σ:ah} {h' :Heap},σ.get 2=.int .i64 (hH c)→iB env [.tmp 2] h (fun o=>o=.ret ⟨.int .i64 (hH c),h,.none⟩) .ret ⟨σ,h'⟩:=fun{σ h'} g=>⟨[.int .i64 (hH c)],_,by simp only[Env.results,Option.map_some,g],(ay (v:=.int .i64 (hH c)) rfl).2 rfl,rfl⟩
 by_cases a1:c≥97
 ·have z1:(c≥97)=True:=eq_true a1
  by_cases a2:c≤122
  ·have z2:(c≤122)=True:=eq_true a2
   simp only[CH,nP,nQ,Z6,ah.bbw,aw,reduceIte,Nat.reduceEqDiff,z1,z2,aL]
   refine fin ?_
   simp only[aa,reduceIte,Nat.reduceEqDiff]
   rw[hH,if_pos ⟨a1,a2⟩]
  ·have z2:(c≤122)=False:=eq_false a2
   have z3:(c≥65)=True:=eq_true (by omega)
   have z4:(c≤90)=False:=eq_false (by omega)
   have z5:(c≥48)=True:=eq_true (by omega)
   have z6:(c≤57)=False:=eq_false (by omega)
   have z7:(c==95)=false:=by simp;omega
   have z8:(c==64)=false:=by simp;omega
   simp only[CH,nP,nQ,pW,rS,uJ,CG,ah.bbw,aw,reduceIte,Nat.reduceEqDiff,z1,z2,z3,z4,z5,z6,z7,z8,aL]
   refine fin ?_
   simp only[aa,reduceIte,Nat.reduceEqDiff]
   rw[hH,if_neg (by omega),if_neg (by omega),if_neg (by omega),if_neg (by omega)]
 have z1:(c≥97)=False:=eq_false a1
 by_cases a3:c≥65
 ·have z3:(c≥65)=True:=eq_true a3
  by_cases a4:c≤90
  ·have z4:(c≤90)=True:=eq_true a4
   simp only[CH,nP,nQ,pW,Z7,ah.bbw,aw,reduceIte,Nat.reduceEqDiff,z1,z3,z4,aL]
   refine fin ?_
   simp only[aa,reduceIte,Nat.reduceEqDiff]
   rw[hH,if_neg (by omega),if_pos ⟨a3,a4⟩]
  ·have z4:(c≤90)=False:=eq_false a4
   have z5:(c≥48)=True:=eq_true (by omega)
   have z6:(c≤57)=False:=eq_false (by omega)
   have z8:(c==64)=false:=by simp;omega
   by_cases a7:c=95
   ·have z7:(c==95)=true:=by simp[a7]
    simp only[CH,nP,nQ,pW,rS,uJ,Pv,ah.bbw,aw,reduceIte,Nat.reduceEqDiff,z1,z3,z4,z5,z6,z7,aL]
    refine fin ?_
    simp only[aa,reduceIte,Nat.reduceEqDiff]
    rw[hH,if_neg (by omega),if_neg (by omega),if_neg (by omega),if_pos (.inl a7)]
   ·have z7:(c==95)=false:=by simpa using a7
    simp only[CH,nP,nQ,pW,rS,uJ,CG,ah.bbw,aw,reduceIte,Nat.reduceEqDiff,z1,z3,z4,z5,z6,z7,z8,aL]
    refine fin ?_
    simp only[aa,reduceIte,Nat.reduceEqDiff]
    rw[hH,if_neg (by omega),if_neg (by omega),if_neg (by omega),if_neg (by omega)]
 have z3:(c≥65)=False:=eq_false a3
 have z7:(c==95)=false:=by simp;omega
 have tail4:c=64∨c≠64:=Classical.em _
 by_cases a5:c≥48
 ·have z5:(c≥48)=True:=eq_true a5
  by_cases a6:c≤57
  ·have z6:(c≤57)=True:=eq_true a6
   simp only[CH,nP,nQ,pW,rS,Z8,ah.bbw,aw,reduceIte,Nat.reduceEqDiff,z1,z3,z5,z6,aL]
   refine fin ?_
   simp only[aa,reduceIte,Nat.reduceEqDiff]
   rw[hH,if_neg (by omega),if_neg (by omega),if_pos ⟨a5,a6⟩]
  ·have z6:(c≤57)=False:=eq_false a6
   by_cases a8:c=64
   ·have z8:(c==64)=true:=by simp[a8]
    simp only[CH,nP,nQ,pW,rS,uJ,Pv,ah.bbw,aw,reduceIte,Nat.reduceEqDiff,z1,z3,z5,z6,z7,z8,aL]
    refine fin ?_
    simp only[aa,reduceIte,Nat.reduceEqDiff]
    rw[hH,if_neg (by omega),if_neg (by omega),if_neg (by omega),if_pos (.inr a8)]
   ·have z8:(c==64)=false:=by simpa using a8
    simp only[CH,nP,nQ,pW,rS,uJ,CG,ah.bbw,aw,reduceIte,Nat.reduceEqDiff,z1,z3,z5,z6,z7,z8,aL]
    refine fin ?_
    simp only[aa,reduceIte,Nat.reduceEqDiff]
    rw[hH,if_neg (by omega),if_neg (by omega),if_neg (by omega),if_neg (by omega)]
 ·have z5:(c≥48)=False:=eq_false a5
  have z8:(c==64)=false:=by simp;omega
  simp only[CH,nP,nQ,pW,rS,uJ,CG,ah.bbw,aw,reduceIte,Nat.reduceEqDiff,z1,z3,z5,z7,z8,aL]
  refine fin ?_
  simp only[aa,reduceIte,Nat.reduceEqDiff]
  rw[hH,if_neg (by omega),if_neg (by omega),if_neg (by omega),if_neg (by omega)]
end Go.Bf
namespace Go.Bf
open Go.AM
theorem Dc (s:List UInt8):∃b,∀h,WC env 160 [.str s] h (fun o=>o=.ret ⟨.bool b,h,.none⟩):=by
 by_cases e0:s=[97,102,116,101,114]
 ·subst e0;exact⟨true,fun h=>bu (n:=30) (by kernel_rfl)⟩
 by_cases e1:s=[97,110,100]
 ·subst e1;exact⟨true,fun h=>bu (n:=30) (by kernel_rfl)⟩
 by_cases e2:s=[97,110,100,97,108,115,111]
 ·subst e2;exact⟨true,fun h=>bu (n:=30) (by kernel_rfl)⟩
 by_cases e3:s=[98,101,103,105,110]
 ·subst e3;exact⟨true,fun h=>bu (n:=30) (by kernel_rfl)⟩
 by_cases e4:s=[99,97,115,101]
 ·subst e4;exact⟨true,fun h=>bu (n:=30) (by kernel_rfl)⟩
 by_cases e5:s=[99,97,116,99,104]
 ·subst e5;exact⟨true,fun h=>bu (n:=30) (by kernel_rfl)⟩
 by_cases e6:s=[100,105,118]
 ·subst e6;exact⟨true,fun h=>bu (n:=30) (by kernel_rfl)⟩
 by_cases e7:s=[101,110,100]
 ·subst e7;exact⟨true,fun h=>bu (n:=30) (by kernel_rfl)⟩
 by_cases e8:s=[102,117,110]
 ·subst e8;exact⟨true,fun h=>bu (n:=30) (by kernel_rfl)⟩
 by_cases e9:s=[105,102]
 ·subst e9;exact⟨true,fun h=>bu (n:=30) (by kernel_rfl)⟩
 by_cases e10:s=[110,111,116]
 ·subst e10;exact⟨true,fun h=>bu (n:=30) (by kernel_rfl)⟩
 by_cases e11:s=[111,102]
 ·subst e11;exact⟨true,fun h=>bu (n:=30) (by kernel_rfl)⟩
 by_cases e12:s=[111,114]
 ·subst e12;exact⟨true,fun h=>bu (n:=30) (by kernel_rfl)⟩
 by_cases e13:s=[111,114,101,108,115,101]
 ·subst e13;exact⟨true,fun h=>bu (n:=30) (by kernel_rfl)⟩
 by_cases e14:s=[114,101,99,101,105,118,101]
 ·subst e14;exact⟨true,fun h=>bu (n:=30) (by kernel_rfl)⟩
 by_cases e15:s=[114,101,109]
 ·subst e15;exact⟨true,fun h=>bu (n:=30) (by kernel_rfl)⟩
 by_cases e16:s=[116,114,121]
 ·subst e16;exact⟨true,fun h=>bu (n:=30) (by kernel_rfl)⟩
 by_cases e17:s=[119,104,101,110]
 ·subst e17;exact⟨true,fun h=>bu (n:=30) (by kernel_rfl)⟩
 by_cases e18:s=[120,111,114]
 ·subst e18;exact⟨true,fun h=>bu (n:=30) (by kernel_rfl)⟩
 refine⟨false,fun h=>ad rfl rfl rfl rfl ?_⟩
 have z0:(s==[97,102,116,101,114])=false:=by simpa using e0
 have z1:(s==[97,110,100])=false:=by simpa using e1
 have z2:(s==[97,110,100,97,108,115,111])=false:=by simpa using e2
 have z3:(s==[98,101,103,105,110])=false:=by simpa using e3
 have z4:(s==[99,97,115,101])=false:=by simpa using e4
 have z5:(s==[99,97,116,99,104])=false:=by simpa using e5
 have z6:(s==[100,105,118])=false:=by simpa using e6
 have z7:(s==[101,110,100])=false:=by simpa using e7
 have z8:(s==[102,117,110])=false:=by simpa using e8
 have z9:(s==[105,102])=false:=by simpa using e9
 have z10:(s==[110,111,116])=false:=by simpa using e10
 have z11:(s==[111,102])=false:=by simpa using e11
 have z12:(s==[111,114])=false:=by simpa using e12
 have z13:(s==[111,114,101,108,115,101])=false:=by simpa using e13
 have z14:(s==[114,101,99,101,105,118,101])=false:=by simpa using e14
 have z15:(s==[114,101,109])=false:=by simpa using e15
 have z16:(s==[116,114,121])=false:=by simpa using e16
 have z17:(s==[119,104,101,110])=false:=by simpa using e17
 have z18:(s==[120,111,114])=false:=by simpa using e18
 simp only[a160,aab,aac,aad,aae,aaf,aag,aah,aai,aaj,aak,Sd,Se,Sf,Sg,Si,Sj,Sk,Sm,Sn,So,Sp,Sq,ah.bbw,aw,reduceIte,Nat.reduceEqDiff,aD,z0,z1,z2,z3,z4,z5,z6,z7,z8,z9,z10,z11,z12,z13,z14,z15,z16,z17,z18]
 exact⟨[.bool false],_,by simp only[Env.results,Option.map_some,aa,reduceIte,Nat.reduceEqDiff],(ay (v:=.bool false) rfl).2 rfl,rfl⟩
def Dd (v b:AV):Option AV:=match v with
 |.str s=>(c_ s.length b).bind fun j=>(s[j]?).map bK
 |_=>none
theorem bx {σ:ah} {h:Heap} {x i:eN}:env.op σ h (.dD x i)=(env.eM σ x).bind fun v=>(env.eM σ i).bind fun b=>(Dd v b).map fun u=>⟨u,h,.none⟩:=by
 show((env.eM σ x).bind fun
  |.str s=>(env.eM σ i).bind fun b=>(c_ s.length b).bind fun j=>(s[j]?).map fun c=>(⟨bK c,h,.none⟩:cB)
  |_=>none)=_
 cases hx:env.eM σ x with
 |none=>rfl
 |some v=>
  cases hi:env.eM σ i with
  |none=>cases v<;>rfl
  |some b=>
   cases v<;>try rfl
   rename_i s;simp only[Option.bind_some,Dd]
   cases c_ s.length b with
   |none=>rfl
   |some j=>
    simp only[Option.bind_some]
    cases s[j]? <;>rfl
theorem mM {s:List UInt8} {i:Nat} (hi:i<s.length):Dd (.str s) (.int .i64 i)=some (.int .u8 s[i].toNat):=by
 have bct:c_ s.length (.int .i64 i)=some i:=by
  have h0:(0:Int)≤i:=Int.natCast_nonneg i
  have h2:(i:Int)<s.length:=by exact_mod_cast hi
  simp[c_,h0,h2]
 simp only[Dd,bct,List.getElem?_eq_getElem hi,bK,jab]
theorem Uc {s:List UInt8} (hs:s.length<1000000):∀(f i:Nat),s.length-i<f→i≤s.length→∃n:Int,∀h,WC env 159 [.str s,.int .i64 i] h (fun o=>o=.ret ⟨.int .i64 n,h,.none⟩):=by
 have key:∀(f i:Nat),s.length-i<f→i≤s.length→∃n:Int,∀(h:Heap) (σ:ah) (Q:aU→St→Prop),σ.get 0=.str s→σ.get 1=.int .i64 i→(∀σ',σ'.get 1=.int .i64 n→Q (.exit 0) ⟨σ',h⟩)→kz env wO ⟨σ,h⟩ Q:=by
  intro f
  induction f with
  |zero=>intro i h;omega
  |succ f ih=>
   intro i hf hi;have en:∀h,aN true h (.str s)=some ⟨.int .i64 s.length,h,.none⟩:=fun h=>rfl
   by_cases c:i<s.length
   ·have z0:((i:Int)<(s.length:Int))=True:=eq_true (by omega)
    have ix:=mM c
    by_cases k:hH (s[i].toNat:Int)=0
    ·have z1:(hH (s[i].toNat:Int) !=0)=false:=by simp[k]
     refine⟨i,fun h σ Q g0 g1 hQ=>aC fun b hb=> ?_⟩
     simp only[wO,Ig,aw,reduceIte,Nat.reduceEqDiff,bj,bx,g0,g1,en,z0,ix,ai (fY _ _),z1,aL]
     refine hQ _ ?_
     simp only[aa,reduceIte,Nat.reduceEqDiff,g1]
    ·have z1:(hH (s[i].toNat:Int) !=0)=true:=by simpa using k
     ·have z2:IntKind.wrap .i64 ((i:Int)+1)=((i+1:Nat):Int):=aX (by omega) (by omega)
      obtain⟨n,hn⟩:=ih (i+1) (by omega) (by omega)
      refine⟨n,fun h σ Q g0 g1 hQ=>aC fun b hb=> ?_⟩
      simp only[wO,Ig,Z_,aw,reduceIte,Nat.reduceEqDiff,bj,bx,g0,g1,en,z0,ix,ai (fY _ _),z1,aL,z2]
      subst hb;refine hn h _ Q ?_ ?_ hQ
      ·simp only[aa,reduceIte,Nat.reduceEqDiff,g0]
      ·simp only[aa,reduceIte,Nat.reduceEqDiff]
   ·have z0:((i:Int)<(s.length:Int))=False:=eq_false (by omega)
    refine⟨i,fun h σ Q g0 g1 hQ=>aC fun b hb=> ?_⟩
    simp only[wO,Ig,aw,reduceIte,Nat.reduceEqDiff,g0,g1,en,z0,aL]
    refine hQ _ ?_
    simp only[aa,reduceIte,Nat.reduceEqDiff,g1]
 intro f i hf hi;obtain⟨n,hn⟩:=key f i hf hi
 refine⟨n,fun h=>ad rfl rfl rfl rfl ?_⟩
 simp only[a159,Z9,ah.bbw,aw]
 refine hn _ _ _ ?_ ?_ fun σ' g1=> ?_
 ·simp only[aa,reduceIte,Nat.reduceEqDiff]<;>rfl
 ·simp only[aa,reduceIte,Nat.reduceEqDiff]<;>rfl
 simp only[aaa,aw,reduceIte,g1]
 exact⟨[.int .i64 n],_,by simp only[Env.results,Option.map_some,aa,reduceIte,Nat.reduceEqDiff],(ay (v:=.int .i64 n) rfl).2 rfl,rfl⟩
end Go.Bf
namespace Go.Bf
open Go.AM
theorem PU {s:List UInt8} (hs:s.length<1000000):∃b,∀h,WC env 150 [.str s] h (fun o=>o=.ret ⟨.bool b,h,.none⟩):=by
 cases s with
 |nil=>exact⟨false,fun h=>bu (n:=30) (by kernel_rfl)⟩
 |cons c r=>
  have z0:(!((c::r)==([]:List UInt8)))=true:=rfl
  have ix:Dd (.str (c::r)) (.int .i64 0)=some (.int .u8 c.toNat):=mM (s:=c::r) (i:=0) (by simp)
  obtain⟨n,hn⟩:=Uc hs ((c::r).length+1) 0 (by omega) (by omega)
  obtain⟨b,hb⟩:=Dc (c::r)
  have hn' :∀h,WC env 159 [.str (c::r),.int .i64 0] h (fun o=>o=.ret ⟨.int .i64 n,h,.none⟩):=hn
  have en:∀h,aN true h (.str (c::r))=some ⟨.int .i64 (c::r).length,h,.none⟩:=fun h=>rfl
  cases z1:(hH (c.toNat:Int)==1)with
  |false=>
   refine⟨false,fun h=>ad rfl rfl rfl rfl ?_⟩
   simp only[Z3,Ic,Ie,ah.bbw,aw,reduceIte,Nat.reduceEqDiff,bj,bx,aD,z0,ix,ai (fY _ _),z1,aL]
   exact⟨[.bool false],_,by simp only[Env.results,Option.map_some,aa,reduceIte,Nat.reduceEqDiff],(ay (v:=.bool false) rfl).2 rfl,rfl⟩
  |true=>
   cases z2:(n==((c::r).length:Int))with
   |false=>
    refine⟨false,fun h=>ad rfl rfl rfl rfl ?_⟩
    simp only[Z3,Ic,Ie,ah.bbw,aw,reduceIte,Nat.reduceEqDiff,bj,bx,aD,z0,ix,ai (fY _ _),z1,aL,ai (hn' _),en,z2]
    exact⟨[.bool false],_,by simp only[Env.results,Option.map_some,aa,reduceIte,Nat.reduceEqDiff],(ay (v:=.bool false) rfl).2 rfl,rfl⟩
   |true=>
    refine⟨!b,fun h=>ad rfl rfl rfl rfl ?_⟩
    simp only[Z3,Ic,Ie,ah.bbw,aw,reduceIte,Nat.reduceEqDiff,bj,bx,aD,z0,ix,ai (fY _ _),z1,aL,ai (hn' _),en,z2,ai (hb _),dm]
    exact⟨[.bool (!b)],_,by simp only[Env.results,Option.map_some,aa,reduceIte,Nat.reduceEqDiff],(ay (v:=.bool (!b)) rfl).2 rfl,rfl⟩
def oH (p c:Int):AV:=.fN 69 (.fp [.str [97,116,111,109],.int .i64 p,.int .i64 c,.bL])
theorem j9 (p c:Int) (h:Heap):WC env 148 [.int .i64 p,.int .i64 c] h (fun o=>o=.ret ⟨oH p c,h,.none⟩):=bu (n:=30) (by kernel_rfl)
theorem adD {h:Heap} {v:AV} {bs:List UInt8} (k:Acc h 1 v (bs.map bK)):cr v=some bs.length:=by
 obtain⟨n,h1,h2⟩:=k.len
 rw[h1];simp at h2;rw[h2]
theorem grow {h:Heap} (ho:an h) {v x w:AV} {bs nb s:List UInt8} {c0:dB} (k:Acc h 1 v (bs.map bK)) (hx:cr x=some nb.length) (hc:aT h 1 nb.length x=some (nb.map bK,c0)) (hw:Bytes h w s) (hne:∀id,v.own=some id→w.own≠some id) (hb:bs.length+nb.length≤1000000):
  ∃v2 h2 c2,b9 h 1 1 v x=some ⟨v2,h2,c2⟩∧an h2∧Acc h2 1 v2 ((bs++nb).map bK)∧Bytes h2 w s∧(∀id,v2.own=some id→w.own≠some id):=by
 obtain⟨v2,h2,c2,g1,g2,g3,g4,g5,g6⟩:=k.append ho (bt:=1) (by omega) (adD k) hx hc (by simp) (by omega) (by omega)
 rw[←List.map_append]at g2
 refine⟨v2,h2,c2,g1,g4,g2,hw.kP g3 fun id e x=>hne id x e,fun id e e2=> ?_⟩
 rcases g5 id e with e|e
 ·exact hne id e e2
 ·have:=hw.UH ho e2;omega
def Ud:List UInt8:=[48,49,50,51,52,53,54,55,56,57,97,98,99,100,101,102]
def gB (i:Nat):UInt8:=Ud.getD i 0
def agj (c:Nat):Bool:=match kx .shr (.int .u8 c) (.int .u64 4)with
 |some (.int .u8 j)=>j==(c/16:Nat)
 |_=>false
def agk (c:Nat):Bool:=match kx .and (.int .u8 c) (.int .u8 15)with
 |some (.int .u8 j)=>j==(c % 16:Nat)
 |_=>false
theorem adE:(List.range 256).all agj=true:=by kernel_rfl
theorem adF:(List.range 256).all agk=true:=by kernel_rfl
theorem ajL {c:Nat} (h:c<256):kx .shr (.int .u8 c) (.int .u64 4)=some (.int .u8 ((c/16:Nat):Int)):=by
 have:=List.all_eq_true.1 adE c (List.mem_range.2 h)
 unfold agj at this
 split at this
 ·rename_i j e;rw[e];have:j=((c/16:Nat):Int):=by simpa using this
  rw[this]
 ·cases this
theorem ajM {c:Nat} (h:c<256):kx .and (.int .u8 c) (.int .u8 15)=some (.int .u8 ((c % 16:Nat):Int)):=by
 have:=List.all_eq_true.1 adF c (List.mem_range.2 h)
 unfold agk at this
 split at this
 ·rename_i j e;rw[e];have:j=((c % 16:Nat):Int):=by simpa using this
  rw[this]
 ·cases this
theorem Ad {i:Nat} (hi:i<16):Dd (.str [48,49,50,51,52,53,54,55,56,57,97,98,99,100,101,102]) (.int .u8 ((i:Nat):Int))=some (.int .u8 (gB i).toNat):=by
 have bct:c_ 16 (.int .u8 ((i:Nat):Int))=some i:=by
  have h0:(0:Int)≤i:=Int.natCast_nonneg i
  have h2:(i:Int)<16:=by exact_mod_cast hi
  simp[c_,h0,h2]
 have e:Dd (.str Ud) (.int .u8 ((i:Nat):Int))=(c_ 16 (.int .u8 ((i:Nat):Int))).bind fun j=>(Ud[j]?).map bK:=rfl
 show Dd (.str Ud) _=_
 rw[e,bct,Option.bind_some];have hl:Ud.length=16:=rfl
 have:Ud[i]? =some (gB i):=by
  rw[gB,List.getD_eq_getElem?_getD,List.getElem?_eq_getElem (by omega)]
  rfl
 rw[this];rfl
section
variable {s : List UInt8} {w : AV} {Q : aU → St → Prop}
theorem K5 {h:Heap} {σ:ah} {v:AV} {bs:List UInt8} {i:Nat} (hi:i<s.length) (hs:s.length≤255) (ho:an h) (k:Acc h 1 v (bs.map bK)) (hl:bs.length≤1+4*i) (hw:Bytes h w s) (hne:∀id,v.own=some id→w.own≠some id)
  (g5:σ.get 5=v) (g23:σ.get 23=w) (g24:σ.get 24=.int .i64 s.length) (g25:σ.get 25=.int .i64 i)
  (hQ:∀(σ' :ah) (h' :Heap) (v' :AV) (bs' :List UInt8),an h' →Acc h' 1 v' (bs'.map bK)→bs'.length≤1+4*(i+1)→Bytes h' w s→(∀id,v'.own=some id→w.own≠some id)→σ'.get 5=v' →σ'.get 23=w→σ'.get 24=.int .i64 s.length→σ'.get 25=.int .i64 ((i+1:Nat):Int)→Q .norm ⟨σ',h'⟩):jK env rO ⟨σ,h⟩ Q:=by
 have z0:((i:Int)<(s.length:Int))=True:=eq_true (by omega)
 have zi:IntKind.wrap .i64 ((i:Int)+1)=((i+1:Nat):Int):=aX (by omega) (by omega)
 obtain⟨p,kc,e1,e2,hkc⟩:=hw.elem (kd:=.i64) hi
 obtain⟨cb,hcb⟩:∃cb:UInt8,cb=s.getD i 0:=⟨_,rfl⟩
 obtain⟨c,hc⟩:∃c,c=cb.toNat:=⟨_,rfl⟩
 have hc8:c<256:=by rw[hc];exact cb.toNat_lt
 have e2' :bg h false 1 p=some ⟨.int .u8 c,h,kc⟩:=by rw[hc,hcb];exact e2
 have el:rO=(.seq (.ops jG) (.seq (.cond (.t 26) .skip (.exit 0)) (.seq (.block 1 (.seq (.ops kj) (.seq (.ops kl) (.block 2 (.seq (.seq (.ops kp) (.cond (.t 49) .skip (.ops lj))) (.cond (.t 49) (.ops zZ) (.seq (.ops mT) (.cond (.t 56) (.ops H6) (.seq (.ops pT) (.cond (.t 60) (.ops H7) (.seq (.ops sQ) (.cond (.t 64) (.ops H8) (.seq (.ops wL) (.cond (.t 35) (.draw z_ CF) (.ops H9))))))))))))))) (.ops wM)))):=rfl
 have fin:∀(σ2:ah) (h2:Heap) (v2:AV) (nb:List UInt8),nb.length≤4→an h2→Acc h2 1 v2 ((bs++nb).map bK)→Bytes h2 w s→(∀id,v2.own=some id→w.own≠some id)→σ2.get 5=v2→(∀n,n=23∨n=24∨n=25→σ2.get n=σ.get n)→rW env wM ⟨σ2,h2⟩ Q:=by
  intro σ2 h2 v2 nb hnb ho2 k2 hw2 bcg p5 pk;have p25:σ2.get 25=.int .i64 i:=by rw[pk 25 (by omega),g25]
  simp only[wM,aw,reduceIte,p25,zi]
  refine hQ _ h2 v2 (bs++nb) ho2 k2 (by simp;omega) hw2 bcg ?_ ?_ ?_ ?_
  ·simp only[aa,reduceIte,Nat.reduceEqDiff,p5]
  ·simp only[aa,reduceIte,Nat.reduceEqDiff];rw[pk 23 (by omega),g23]
  ·simp only[aa,reduceIte,Nat.reduceEqDiff];rw[pk 24 (by omega),g24]
  ·simp only[aa,reduceIte,Nat.reduceEqDiff]
 have gr:=fun(x:AV) (nb:List UInt8) (h1:cr x=some nb.length) (h2:aT h 1 nb.length x=some (nb.map bK,.none)) (h3:nb.length≤4)=>grow ho k h1 h2 hw hne (by omega)
 by_cases q39:c=39
 ·have z39:((c:Int)==39)=true:=by simp[q39]
  obtain⟨v2,h2,c2,w1,ho2,k2,hw2,bcg⟩:=gr (.fs true 2 [.int .u8 92,.int .u8 (c:Int)]) [92,cb] rfl (by rw[hc];rfl) (by simp)
  have y1:bY [.int .u8 0,.int .u8 0] [(0,1,.int .u8 92),(1,1,.int .u8 (c:Int))]=some [.int .u8 92,.int .u8 (c:Int)]:=rfl
  have y2:([AV.int .u8 92,.int .u8 (c:Int)]:List AV).length=2:=rfl
  rw[el,cN];simp only[jG,kj,kl,kp,zZ,aw,reduceIte,Nat.reduceEqDiff,iC kc,iC c2,g5,g23,g24,g25,z0,e1,e2',z39,y1,y2,w1]
  refine fin _ h2 v2 [92,cb] (by simp) ho2 k2 hw2 bcg (by simp only[aa,reduceIte,Nat.reduceEqDiff]) fun n hn=> ?_
  simp only[aa]
  repeat rw[if_neg (by omega)]
 by_cases q92:c=92
 ·have z39:((c:Int)==39)=false:=by simp;omega
  have z92:((c:Int)==92)=true:=by simp[q92]
  obtain⟨v2,h2,c2,w1,ho2,k2,hw2,bcg⟩:=gr (.fs true 2 [.int .u8 92,.int .u8 (c:Int)]) [92,cb] rfl (by rw[hc];rfl) (by simp)
  have y1:bY [.int .u8 0,.int .u8 0] [(0,1,.int .u8 92),(1,1,.int .u8 (c:Int))]=some [.int .u8 92,.int .u8 (c:Int)]:=rfl
  have y2:([AV.int .u8 92,.int .u8 (c:Int)]:List AV).length=2:=rfl
  rw[el,cN];simp only[jG,kj,kl,kp,lj,zZ,aw,reduceIte,Nat.reduceEqDiff,iC kc,iC c2,g5,g23,g24,g25,z0,e1,e2',z39,z92,y1,y2,w1]
  refine fin _ h2 v2 [92,cb] (by simp) ho2 k2 hw2 bcg (by simp only[aa,reduceIte,Nat.reduceEqDiff]) fun n hn=> ?_
  simp only[aa]
  repeat rw[if_neg (by omega)]
 have z39:((c:Int)==39)=false:=by simp;omega
 have z92:((c:Int)==92)=false:=by simp;omega
 by_cases q10:c=10
 ·have z10:((c:Int)==10)=true:=by simp[q10]
  obtain⟨v2,h2,c2,w1,ho2,k2,hw2,bcg⟩:=gr (.str [92,110]) [92,110] rfl rfl (by decide)
  rw[el,cN];simp only[jG,kj,kl,kp,lj,mT,H6,aw,reduceIte,Nat.reduceEqDiff,iC kc,iC c2,g5,g23,g24,g25,z0,e1,e2',z39,z92,z10,w1]
  refine fin _ h2 v2 [92,110] (by decide) ho2 k2 hw2 bcg (by simp only[aa,reduceIte,Nat.reduceEqDiff]) fun n hn=> ?_
  simp only[aa]
  repeat rw[if_neg (by omega)]
 have z10:((c:Int)==10)=false:=by simp;omega
 by_cases q9:c=9
 ·have z9:((c:Int)==9)=true:=by simp[q9]
  obtain⟨v2,h2,c2,w1,ho2,k2,hw2,bcg⟩:=gr (.str [92,116]) [92,116] rfl rfl (by decide)
  rw[el,cN];simp only[jG,kj,kl,kp,lj,mT,pT,H7,aw,reduceIte,Nat.reduceEqDiff,iC kc,iC c2,g5,g23,g24,g25,z0,e1,e2',z39,z92,z10,z9,w1]
  refine fin _ h2 v2 [92,116] (by decide) ho2 k2 hw2 bcg (by simp only[aa,reduceIte,Nat.reduceEqDiff]) fun n hn=> ?_
  simp only[aa]
  repeat rw[if_neg (by omega)]
 have z9:((c:Int)==9)=false:=by simp;omega
 by_cases q13:c=13
 ·have z13:((c:Int)==13)=true:=by simp[q13]
  obtain⟨v2,h2,c2,w1,ho2,k2,hw2,bcg⟩:=gr (.str [92,114]) [92,114] rfl rfl (by decide)
  rw[el,cN];simp only[jG,kj,kl,kp,lj,mT,pT,sQ,H8,aw,reduceIte,Nat.reduceEqDiff,iC kc,iC c2,g5,g23,g24,g25,z0,e1,e2',z39,z92,z10,z9,z13,w1]
  refine fin _ h2 v2 [92,114] (by decide) ho2 k2 hw2 bcg (by simp only[aa,reduceIte,Nat.reduceEqDiff]) fun n hn=> ?_
  simp only[aa]
  repeat rw[if_neg (by omega)]
 have z13:((c:Int)==13)=false:=by simp;omega
 have hex:∀{σ2:ah},σ2.get 5=v→σ2.get 7=.int .u8 (c:Int)→(∀n,n=23∨n=24∨n=25→σ2.get n=σ.get n)→jK env (.draw z_ CF) ⟨σ2,h⟩ (jt 2 (jt 1 (uV env (.ops wM) Q))):=by
  intro σ2 p5 p7 pk;obtain⟨v2,h2,c2,w1,ho2,k2,hw2,bcg⟩:=gr (.fs true 4 [.int .u8 92,.int .u8 120,.int .u8 (gB (c/16)).toNat,.int .u8 (gB (c % 16)).toNat]) [92,120,gB (c/16),gB (c % 16)] rfl rfl (by simp)
  have f1:=ajL hc8
  have f2:=ajM hc8
  have f3:=Ad (i:=c/16) (by omega)
  have f4:=Ad (i:=c % 16) (by omega)
  have y1:bY [.int .u8 0,.int .u8 0,.int .u8 0,.int .u8 0] [(0,1,.int .u8 92),(1,1,.int .u8 120),(2,1,.int .u8 (gB (c/16)).toNat),(3,1,.int .u8 (gB (c % 16)).toNat)]=some [.int .u8 92,.int .u8 120,.int .u8 (gB (c/16)).toNat,.int .u8 (gB (c % 16)).toNat]:=rfl
  have y2:([AV.int .u8 92,.int .u8 120,.int .u8 (gB (c/16)).toNat,.int .u8 (gB (c % 16)).toNat]:List AV).length=4:=rfl
  refine aB ?_
  simp only[z_,sz4,reduceIte,Nat.reduceEqDiff,k3,iC c2,bj,bx,p5,p7,f1,f2,f3,f4,y1,y2,w1]
  refine⟨by cases c2<;>rfl,?_⟩
  refine fin _ h2 v2 [92,120,gB (c/16),gB (c % 16)] (by simp) ho2 k2 hw2 bcg (by simp only[aa,reduceIte,Nat.reduceEqDiff]) fun n hn=> ?_
  simp only[aa]
  repeat rw[if_neg (by omega)]
  exact pk n hn
 by_cases q32:(c:Int)<32
 ·have z32:((c:Int)<32)=True:=eq_true q32
  rw[el,cN];simp only[jG,kj,kl,kp,lj,mT,pT,sQ,wL,aw,reduceIte,Nat.reduceEqDiff,iC kc,g23,g24,g25,z0,e1,e2',z39,z92,z10,z9,z13,z32,aL]
  refine hex ?_ ?_ fun n hn=> ?_
  ·simp only[aa,reduceIte,Nat.reduceEqDiff,g5]
  ·simp only[aa,reduceIte,Nat.reduceEqDiff]
  ·simp only[aa]
   repeat rw[if_neg (by omega)]
 have z32:((c:Int)<32)=False:=eq_false q32
 by_cases q127:c=127
 ·have z127:((c:Int)==127)=true:=by simp[q127]
  rw[el,cN];simp only[jG,kj,kl,kp,lj,mT,pT,sQ,wL,aw,reduceIte,Nat.reduceEqDiff,iC kc,g23,g24,g25,z0,e1,e2',z39,z92,z10,z9,z13,z32,z127,aL]
  refine hex ?_ ?_ fun n hn=> ?_
  ·simp only[aa,reduceIte,Nat.reduceEqDiff,g5]
  ·simp only[aa,reduceIte,Nat.reduceEqDiff]
  ·simp only[aa]
   repeat rw[if_neg (by omega)]
 have z127:((c:Int)==127)=false:=by simp;omega
 obtain⟨v2,h2,c2,w1,ho2,k2,hw2,bcg⟩:=gr (.fs true 1 [.int .u8 (c:Int)]) [cb] rfl (by rw[hc];rfl) (by simp)
 have y1:bY [.int .u8 0] [(0,1,.int .u8 (c:Int))]=some [.int .u8 (c:Int)]:=rfl
 have y2:([AV.int .u8 (c:Int)]:List AV).length=1:=rfl
 rw[el,cN];simp only[jG,kj,kl,kp,lj,mT,pT,sQ,wL,H9,aw,reduceIte,Nat.reduceEqDiff,iC kc,iC c2,g5,g23,g24,g25,z0,e1,e2',z39,z92,z10,z9,z13,z32,z127,aL,y1,y2,w1]
 refine fin _ h2 v2 [cb] (by simp) ho2 k2 hw2 bcg (by simp only[aa,reduceIte,Nat.reduceEqDiff]) fun n hn=> ?_
 simp only[aa]
 repeat rw[if_neg (by omega)]
theorem PV (hs:s.length≤255):∀(f i:Nat) (h:Heap) (σ:ah) (v:AV) (bs:List UInt8),s.length-i<f→i≤s.length→an h→Acc h 1 v (bs.map bK)→bs.length≤1+4*i→Bytes h w s→(∀id,v.own=some id→w.own≠some id)→
  σ.get 5=v→σ.get 23=w→σ.get 24=.int .i64 s.length→σ.get 25=.int .i64 i→
  (∀(σ' :ah) (h' :Heap) (v' :AV) (bs' :List UInt8),an h' →Acc h' 1 v' (bs'.map bK)→bs'.length≤1+4*s.length→σ'.get 5=v' →Q (.exit 0) ⟨σ',h'⟩)→kz env rO ⟨σ,h⟩ Q:=by
 intro f
 induction f with
 |zero=>intro i h σ v bs h1;omega
 |succ f ih=>
  intro i h σ v bs hf hi ho k hl hw hne g5 g23 g24 g25 hQ
  by_cases c1:i<s.length
  ·refine aC fun b hb=>K5 c1 hs ho k hl hw hne g5 g23 g24 g25 fun σ' h' v' bs' ho' k' hl' hw' hne' p5 p23 p24 p25=> ?_
   subst hb;exact ih (i+1) h' σ' v' bs' (by omega) (by omega) ho' k' hl' hw' hne' p5 p23 p24 p25 hQ
  ·refine aC fun b hb=> ?_
   have z0:((i:Int)<(s.length:Int))=False:=eq_false (by omega)
   simp only[rO,jG,aw,reduceIte,g24,g25,z0]
   refine hQ _ h v bs ho k (by omega) ?_
   simp only[aa,reduceIte,Nat.reduceEqDiff,g5]
end
def dO (s:List UInt8):Option (Int×Int):=
 if 255<s.length then some (0,4)else if 0≤cj s (s.length+1) 0 then some (cj s (s.length+1) 0,23)else none
def an7:Option (Int×Int)→AV
 |some (p,c)=>oH p c
 |none=>.bL
theorem qa (s:List UInt8) (h:Heap):WC env 149 [.str s] h (fun o=>o=.ret ⟨.int .i64 (cj s (s.length+1) 0),h,.write⟩):=
 ⟨_,⟨1,fun m hm=>by
  cases m with
  |zero=>omega
  |succ m=>rfl⟩,rfl⟩
theorem M1 (s:List UInt8) (h:Heap):WC env 140 [.str s] h (fun o=>∃q,o=.ret ⟨.aF [.str q,an7 (dO s)],h,.none⟩):=by
 refine ad rfl rfl rfl rfl ?_
 have en:∀h,aN true h (.str s)=some ⟨.int .i64 s.length,h,.none⟩:=fun h=>rfl
 by_cases c1:255<s.length
 ·have z1:((s.length:Int)>255)=True:=eq_true (by omega)
  have e:dO s=some (0,4):=by rw[dO,if_pos c1]
  simp only[TN,CD,CE,ZS,ah.bbw,aw,reduceIte,Nat.reduceEqDiff,en,z1,ai (j9 _ _ _)]
  refine⟨[.str [],oH 0 4],.aF [.str [],oH 0 4],by simp only[Env.results,Option.map_some,aa,reduceIte,Nat.reduceEqDiff],(ay (v:=.aF [.str [],oH 0 4]) rfl).2 rfl,_,by rw[e];rfl⟩
 have z1:((s.length:Int)>255)=False:=eq_false (by omega)
 by_cases c2:0≤cj s (s.length+1) 0
 ·have z2:(cj s (s.length+1) 0≥0)=True:=eq_true c2
  have e:dO s=some (cj s (s.length+1) 0,23):=by rw[dO,if_neg c1,if_pos c2]
  simp only[TN,CD,CE,H4,H5,ZT,ah.bbw,aw,reduceIte,Nat.reduceEqDiff,en,z1,ai (qa _ _),z2,ai (j9 _ _ _)]
  refine⟨[.str [],oH (cj s (s.length+1) 0) 23],.aF [.str [],oH (cj s (s.length+1) 0) 23],by simp only[Env.results,Option.map_some,aa,reduceIte,Nat.reduceEqDiff],(ay (v:=.aF [.str [],oH (cj s (s.length+1) 0) 23]) rfl).2 rfl,_,by rw[e];rfl⟩
 have z2:(cj s (s.length+1) 0≥0)=False:=eq_false c2
 have e:dO s=none:=by rw[dO,if_neg c1,if_neg c2]
 obtain⟨b,hb⟩:=PU (s:=s) (by omega)
 cases b with
 |true=>
  simp only[TN,CD,CE,H4,H5,Ps,ZU,ah.bbw,aw,reduceIte,Nat.reduceEqDiff,en,z1,ai (qa _ _),z2,ai (hb _)]
  refine⟨[.str s,.bL],.aF [.str s,.bL],by simp only[Env.results,Option.map_some,aa,reduceIte,Nat.reduceEqDiff],(ay (v:=.aF [.str s,.bL]) rfl).2 rfl,_,by rw[e];rfl⟩
 |false=>
  obtain⟨h1,eh1⟩:∃h1,h1=Heap.empty.new (s.map bK):=⟨_,rfl⟩
  have ho1:an h1:=by rw[eh1];exact an.empty.new _
  have a1:h1.at_ Heap.empty.next 0=some (s.map bK):=by rw[eh1];exact aY _
  have conv:di .empty .Ui (.str s)=some ⟨.sl Heap.empty.next 0 0 1 s.length none,h1,.write⟩:=by rw[eh1];rfl
  have hw:Bytes h1 (.sl Heap.empty.next 0 0 1 s.length none) s:=.sl _ _ _ _ _ _ a1 (by simp) (by rw[List.drop_zero];exact List.take_of_length_le (by simp)) (fun c h=>by cases h)
  have y1:bY [.int .u8 0] [(0,1,.int .u8 39)]=some [.int .u8 39]:=rfl
  have y2:([AV.int .u8 39]:List AV).length=1:=rfl
  have en2:∀h,aN false h (.sl Heap.empty.next 0 0 1 s.length none)=some ⟨.int .i64 s.length,h,.none⟩:=fun h=>rfl
  have k0:Acc h1 1 (.fs true 1 [.int .u8 39]) (([39]:List UInt8).map bK):=.full 1 _ rfl
  simp only[TN,CD,CE,H4,H5,Ps,ZV,ZW,ah.bbw,aw,reduceIte,Nat.reduceEqDiff,en,z1,ai (qa _ _),z2,ai (hb _),y1,y2,conv,en2]
  refine PV (s:=s) (w:=.sl Heap.empty.next 0 0 1 s.length none) (by omega) (s.length+1) 0 h1 _ (.fs true 1 [.int .u8 39]) [39] (by omega) (by omega) ho1 k0 (by simp) hw (fun id e=>by cases e) ?_ ?_ ?_ ?_ fun σ' h' v' bs' ho' k' hl' g5=> ?_
  ·simp only[aa,reduceIte,Nat.reduceEqDiff]
  ·simp only[aa,reduceIte,Nat.reduceEqDiff]
  ·simp only[aa,reduceIte,Nat.reduceEqDiff]
  ·simp only[aa,reduceIte,Nat.reduceEqDiff]<;>rfl
  obtain⟨v2,h2,c2,w1,ho2,k2,hw2,bcg⟩:=grow ho' (x:=.fs true 1 [.int .u8 39]) (w:=.ax) (s:=[]) (nb:=[39]) (c0:=.none) k' rfl rfl .ax (fun id e=>by simp[AV.own]) (by simp;omega)
  obtain⟨c3,hc3,b2⟩:=k2.zp.Ld
  simp only[Sc,aw,reduceIte,Nat.reduceEqDiff,iC c2,iC c3,g5,y1,y2,w1,b2]
  refine⟨[.str (bs' ++[39]),.bL],.aF [.str (bs' ++[39]),.bL],by simp only[Env.results,Option.map_some,aa,reduceIte,Nat.reduceEqDiff],(ay (v:=.aF [.str (bs' ++[39]),.bL]) rfl).2 rfl,_,by rw[e];rfl⟩
end Go.Bf
namespace Go.Bf
open Go.AM
theorem index_spec (s:List UInt8) (c:UInt8) (h:Heap):WC env 169 [.str s,.str [c]] h (fun o=>o=.ret ⟨.int .i64 (Lib.indexByte s c),h,.write⟩):=
 ⟨_,⟨1,fun m hm=>by
  cases m with
  |zero=>omega
  |succ m=>rfl⟩,rfl⟩
theorem wP (c:UInt8):∀s:List UInt8,-1≤Lib.indexByte s c∧(Lib.indexByte s c:Int)<s.length
 |[]=>by simp[Lib.indexByte]
 |b::l=>by
  have:=wP c l
  simp only[Lib.indexByte,List.length_cons]
  split
  ·omega
  split
  ·omega
  ·omega
theorem yE (s:List UInt8) (h:Heap):WC env 162 [.str s,.str [64]] h (fun o=>o=.ret ⟨.int .i64 (Lib.indexByte s 64),h,.none⟩):=by
 refine ad rfl rfl rfl rfl ?_
 simp only[a162,aan,aao,ah.bbw,aw,reduceIte,Nat.reduceEqDiff,ai (index_spec _ _ _)]
 exact⟨[.int .i64 (Lib.indexByte s 64)],_,by simp only[Env.results,Option.map_some,aa,reduceIte,Nat.reduceEqDiff],(ay (v:=.int .i64 (Lib.indexByte s 64)) rfl).2 rfl,rfl⟩
def gp (s:List UInt8):Bool:=decide (Lib.indexByte s 64≥0)
theorem tq (s:List UInt8) (h:Heap):WC env 152 [.str s,.str [64]] h (fun o=>o=.ret ⟨.bool (gp s),h,.none⟩):=by
 refine ad rfl rfl rfl rfl ?_
 cases c:gp s with
 |true=>
  have z:(Lib.indexByte s 64≥0)=True:=eq_true (by simpa[gp]using c)
  simp only[a152,Pt,Pu,ah.bbw,aw,reduceIte,Nat.reduceEqDiff,ai (yE _ _),z]
  exact⟨[.bool true],_,by simp only[Env.results,Option.map_some,aa,reduceIte,Nat.reduceEqDiff],(ay (v:=.bool true) rfl).2 rfl,rfl⟩
 |false=>
  have z:(Lib.indexByte s 64≥0)=False:=eq_false (by simpa[gp]using c)
  simp only[a152,Pt,Pu,ah.bbw,aw,reduceIte,Nat.reduceEqDiff,ai (yE _ _),z]
  exact⟨[.bool false],_,by simp only[Env.results,Option.map_some,aa,reduceIte,Nat.reduceEqDiff],(ay (v:=.bool false) rfl).2 rfl,rfl⟩
theorem yv {σ:ah} {h:Heap} {x:eN} {lo hi:Option eN}:env.op σ h (.ey x lo hi)=(env.eM σ x).bind fun v=>(env.kV σ lo).bind fun a=>(env.kV σ hi).bind fun b=>(ik v a b).map fun v=>⟨v,h,.none⟩:=rfl
theorem yu {s:List UInt8} {k:Nat} (h:k≤s.length):ik (.str s) none (some (.int .i64 k))=some (.str (s.take k)):=by
 simp[ik,DK h]
theorem tk {s:List UInt8} {k:Nat} (h:k≤s.length):ik (.str s) (some (.int .i64 k)) none=some (.str (s.drop k)):=by
 have:(s.drop k).take (s.length-k)=s.drop k:=List.take_of_length_le (by simp)
 simp[ik,qA h,this]
def jC (s:List UInt8):List UInt8:=if gp s then s.take (Lib.indexByte s 64).toNat else s
def je (s:List UInt8):List UInt8:=if gp s then s.drop ((Lib.indexByte s 64).toNat+1)else[]
theorem Ue (s:List UInt8) (hs:s.length<9223372036854775808) (h:Heap):WC env 161 [.str s,.str [64]] h (fun o=>o=.ret ⟨.aF [.str (jC s),.str (je s),.bool (gp s)],h,.write⟩):=by
 refine ct rfl rfl (.inl rfl) ?_
 have hb:=wP 64 s
 cases c:gp s with
 |true=>
  have c' :Lib.indexByte s 64≥0:=by simpa[gp]using c
  obtain⟨k,hk⟩:∃k:Nat,Lib.indexByte s 64=(k:Int):=⟨(Lib.indexByte s 64).toNat,by omega⟩
  have z:((k:Int)≥0)=True:=eq_true (by omega)
  have z2:IntKind.wrap .i64 ((k:Int)+1)=((k+1:Nat):Int):=aX (by omega) (by omega)
  have en:∀h,aN true h (.str [64])=some ⟨.int .i64 1,h,.none⟩:=fun h=>rfl
  have t1:=yu (s:=s) (k:=k) (by omega)
  have t2:=tk (s:=s) (k:=k+1) (by omega)
  have w1:∀h,WC env 169 [.str s,.str [64]] h (fun o=>o=.ret ⟨.int .i64 (k:Int),h,.write⟩):=fun h=>by rw[←hk];exact index_spec s 64 h
  have e1:jC s=s.take k:=by rw[jC,c,hk];rfl
  have e2:je s=s.drop (k+1):=by rw[je,c,hk];rfl
  simp only[ac5,Pw,Px,Py,aal,ah.bbw,aw,reduceIte,Nat.reduceEqDiff,ai (w1 _),z]
  refine aB ?_
  simp only[aw,reduceIte,Nat.reduceEqDiff,k3,u6,yv,en,z2,t1,t2]
  refine⟨rfl,?_⟩
  refine⟨[.str (s.take k),.str (s.drop (k+1)),.bool true],by simp only[Env.results,Option.map_some,aa,reduceIte,Nat.reduceEqDiff],by rw[e1,e2];rfl⟩
 |false=>
  have z:(Lib.indexByte s 64≥0)=False:=eq_false (by simpa[gp]using c)
  have e1:jC s=s:=by rw[jC,c];rfl
  have e2:je s=[]:=by rw[je,c];rfl
  simp only[ac5,Pw,Px,Py,aam,ah.bbw,aw,reduceIte,Nat.reduceEqDiff,ai (index_spec _ _ _),z]
  refine⟨[.str s,.str [],.bool false],by simp only[Env.results,Option.map_some,aa,reduceIte,Nat.reduceEqDiff],by rw[e1,e2];rfl⟩
theorem Q8 (a b c:AV):([a,b,c]:List AV)[0]? =some a:=rfl
theorem Q9 (a b c:AV):([a,b,c]:List AV)[1]? =some b:=rfl
theorem Q_ (a b c:AV):([a,b,c]:List AV)[2]? =some c:=rfl
theorem aaJ (s:List UInt8) (hs:s.length<9223372036854775808) (h:Heap):WC env 151 [.str s,.str [64]] h (fun o=>o=.ret ⟨.aF [.str (jC s),.str (je s),.bool (gp s)],h,.none⟩):=by
 refine ad rfl rfl rfl rfl ?_
 simp only[ajl,Z4,Z5,ah.bbw,aw,reduceIte,Nat.reduceEqDiff,ai (Ue s hs _),cm,Q8,Q9,Q_]
 exact⟨[.str (jC s),.str (je s),.bool (gp s)],_,by simp only[Env.results,Option.map_some,aa,reduceIte,Nat.reduceEqDiff],(ay (v:=.aF [.str (jC s),.str (je s),.bool (gp s)]) rfl).2 rfl,rfl⟩
def jB (c:UInt8):Bool:=hH (c.toNat:Int) !=0||(c.toNat:Int)==45
def j5 (c:UInt8):Bool:=hH (c.toNat:Int) !=0||(c.toNat:Int)==45||(c.toNat:Int)==46
theorem Uf {s:List UInt8} {w:AV} {h:Heap} (hw:Bytes h w s) (hs:s.length<9223372036854775808) {Q:aU→St→Prop}:∀(f i:Nat) (σ:ah) (g:Bool),s.length-i<f→i≤s.length→σ.get 8=.bool g→σ.get 39=w→σ.get 40=.int .i64 s.length→σ.get 41=.int .i64 i→
  (∀σ',σ'.get 8=.bool (g&&(s.drop i).all jB)→(∀n,n=5∨n=6→σ'.get n=σ.get n)→Q (.exit 0) ⟨σ',h⟩)→kz env sR ⟨σ,h⟩ Q:=by
 intro f
 induction f with
 |zero=>intro i σ g h1;omega
 |succ f ih=>
  intro i σ g hf hi g8 gw gl gi hQ;refine aC fun b hb=> ?_
  by_cases c1:i<s.length
  ·have z0:((i:Int)<(s.length:Int))=True:=eq_true (by omega)
   have zi:IntKind.wrap .i64 ((i:Int)+1)=((i+1:Nat):Int):=aX (by omega) (by omega)
   obtain⟨p,kc,e1,e2,hkc⟩:=hw.elem (kd:=.i64) c1
   obtain⟨cb,hcb⟩:∃cb:UInt8,cb=s.getD i 0:=⟨_,rfl⟩
   have e2' :bg h false 1 p=some ⟨.int .u8 (cb.toNat:Int),h,kc⟩:=by rw[hcb];exact e2
   have hd:s.drop i=cb::s.drop (i+1):=by
    rw[List.drop_eq_getElem_cons c1,hcb,List.getD_eq_getElem?_getD,List.getElem?_eq_getElem c1];rfl
   have go:∀(σ2:ah),σ2.get 8=.bool (g&&jB cb)→(∀n,n=39∨n=40∨n=41∨n=5∨n=6→σ2.get n=σ.get n)→rW env Ia ⟨σ2,h⟩ (lF env b Q):=by
    intro σ2 p8 pk;have pi:σ2.get 41=.int .i64 i:=by rw[pk 41 (by omega),gi]
    simp only[Ia,aw,reduceIte,pi,zi]
    subst hb;refine ih (i+1) _ (g&&jB cb) (by omega) (by omega) ?_ ?_ ?_ ?_ fun σ' s8 sk=>hQ σ' ?_ ?_
    ·simp only[aa,reduceIte,Nat.reduceEqDiff,p8]
    ·simp only[aa,reduceIte,Nat.reduceEqDiff];rw[pk 39 (by omega),gw]
    ·simp only[aa,reduceIte,Nat.reduceEqDiff];rw[pk 40 (by omega),gl]
    ·simp only[aa,reduceIte,Nat.reduceEqDiff]
    ·rw[s8,hd,List.all_cons,Bool.and_assoc]
    ·intro n hn
     rw[sk n hn];simp only[aa]
     repeat rw[if_neg (by omega)]
     exact pk n (by omega)
   have keep:∀{σ2:ah},True:=trivial
   have el:sR=(.seq (.ops uI) (.seq (.cond (.t 42) .skip (.exit 0)) (.seq (.block 1 (.seq (.ops xF) (.ops xG))) (.ops Ia)))):=rfl
   cases g with
   |false=>
    rw[el,cN];simp only[uI,xF,xG,aE,aw,reduceIte,Nat.reduceEqDiff,iC kc,g8,gw,gl,gi,z0,e1,e2',aL]
    refine go _ ?_ fun n hn=> ?_
    ·simp only[aa,reduceIte,Nat.reduceEqDiff,Bool.false_and]
    ·simp only[aa]
     repeat rw[if_neg (by omega)]
   |true=>
    cases k1:(hH (cb.toNat:Int) !=0)with
    |true=>
     rw[el,cN];simp only[uI,xF,xG,aw,reduceIte,Nat.reduceEqDiff,iC kc,g8,gw,gl,gi,z0,e1,e2',ai (fY _ _),k1,aL]
     refine go _ ?_ fun n hn=> ?_
     ·simp only[aa,reduceIte,Nat.reduceEqDiff,jB,k1,Bool.true_or,Bool.true_and]
     ·simp only[aa]
      repeat rw[if_neg (by omega)]
    |false=>
     cases k2:((cb.toNat:Int)==45)with
     |true=>
      rw[el,cN];simp only[uI,xF,xG,aw,reduceIte,Nat.reduceEqDiff,iC kc,g8,gw,gl,gi,z0,e1,e2',ai (fY _ _),k1,k2,aL]
      refine go _ ?_ fun n hn=> ?_
      ·simp only[aa,reduceIte,Nat.reduceEqDiff,jB,k1,k2,Bool.false_or,Bool.true_and]
      ·simp only[aa]
       repeat rw[if_neg (by omega)]
     |false=>
      rw[el,cN];simp only[uI,xF,xG,aw,reduceIte,Nat.reduceEqDiff,iC kc,g8,gw,gl,gi,z0,e1,e2',ai (fY _ _),k1,k2,aL]
      refine go _ ?_ fun n hn=> ?_
      ·simp only[aa,reduceIte,Nat.reduceEqDiff,jB,k1,k2,Bool.false_or,Bool.true_and]
      ·simp only[aa]
       repeat rw[if_neg (by omega)]
  ·have z0:((i:Int)<(s.length:Int))=False:=eq_false (by omega)
   have hd:s.drop i=[]:=List.drop_of_length_le (by omega)
   simp only[sR,uI,aw,reduceIte,gl,gi,z0]
   refine hQ _ ?_ fun n hn=> ?_
   ·simp only[aa,reduceIte,Nat.reduceEqDiff,g8]
    rw[hd,List.all_nil,Bool.and_true]
   ·simp only[aa]
    repeat rw[if_neg (by omega)]
theorem Ug {s:List UInt8} {w:AV} {h:Heap} (hw:Bytes h w s) (hs:s.length<9223372036854775808) {Q:aU→St→Prop}:∀(f i:Nat) (σ:ah) (g:Bool),s.length-i<f→i≤s.length→σ.get 8=.bool g→σ.get 57=w→σ.get 58=.int .i64 s.length→σ.get 59=.int .i64 i→
  (∀σ',σ'.get 8=.bool (g&&(s.drop i).all j5)→(∀n,n=5∨n=6→σ'.get n=σ.get n)→Q (.exit 2) ⟨σ',h⟩)→kz env oU ⟨σ,h⟩ Q:=by
 intro f
 induction f with
 |zero=>intro i σ g h1;omega
 |succ f ih=>
  intro i σ g hf hi g8 gw gl gi hQ;refine aC fun b hb=> ?_
  by_cases c1:i<s.length
  ·have z0:((i:Int)<(s.length:Int))=True:=eq_true (by omega)
   have zi:IntKind.wrap .i64 ((i:Int)+1)=((i+1:Nat):Int):=aX (by omega) (by omega)
   obtain⟨p,kc,e1,e2,hkc⟩:=hw.elem (kd:=.i64) c1
   obtain⟨cb,hcb⟩:∃cb:UInt8,cb=s.getD i 0:=⟨_,rfl⟩
   have e2' :bg h false 1 p=some ⟨.int .u8 (cb.toNat:Int),h,kc⟩:=by rw[hcb];exact e2
   have hd:s.drop i=cb::s.drop (i+1):=by
    rw[List.drop_eq_getElem_cons c1,hcb,List.getD_eq_getElem?_getD,List.getElem?_eq_getElem c1];rfl
   have go:∀(σ2:ah),σ2.get 8=.bool (g&&j5 cb)→(∀n,n=57∨n=58∨n=59∨n=5∨n=6→σ2.get n=σ.get n)→rW env Aa ⟨σ2,h⟩ (lF env b Q):=by
    intro σ2 p8 pk;have pi:σ2.get 59=.int .i64 i:=by rw[pk 59 (by omega),gi]
    simp only[Aa,aw,reduceIte,pi,zi]
    subst hb;refine ih (i+1) _ (g&&j5 cb) (by omega) (by omega) ?_ ?_ ?_ ?_ fun σ' s8 sk=>hQ σ' ?_ ?_
    ·simp only[aa,reduceIte,Nat.reduceEqDiff,p8]
    ·simp only[aa,reduceIte,Nat.reduceEqDiff];rw[pk 57 (by omega),gw]
    ·simp only[aa,reduceIte,Nat.reduceEqDiff];rw[pk 58 (by omega),gl]
    ·simp only[aa,reduceIte,Nat.reduceEqDiff]
    ·rw[s8,hd,List.all_cons,Bool.and_assoc]
    ·intro n hn
     rw[sk n hn];simp only[aa]
     repeat rw[if_neg (by omega)]
     exact pk n (by omega)
   have keep:∀{σ2:ah},True:=trivial
   have el:oU=(.seq (.ops mW) (.seq (.cond (.t 60) .skip (.exit 2)) (.seq (.block 3 (.seq (.ops pU) (.ops pV))) (.ops Aa)))):=rfl
   cases g with
   |false=>
    rw[el,cN];simp only[mW,pU,pV,aE,aw,reduceIte,Nat.reduceEqDiff,iC kc,g8,gw,gl,gi,z0,e1,e2',aL]
    refine go _ ?_ fun n hn=> ?_
    ·simp only[aa,reduceIte,Nat.reduceEqDiff,Bool.false_and]
    ·simp only[aa]
     repeat rw[if_neg (by omega)]
   |true=>
    cases k1:(hH (cb.toNat:Int) !=0)with
    |true=>
     rw[el,cN];simp only[mW,pU,pV,aw,reduceIte,Nat.reduceEqDiff,iC kc,g8,gw,gl,gi,z0,e1,e2',ai (fY _ _),k1,aL]
     refine go _ ?_ fun n hn=> ?_
     ·simp only[aa,reduceIte,Nat.reduceEqDiff,j5,k1,Bool.true_or,Bool.true_and]
     ·simp only[aa]
      repeat rw[if_neg (by omega)]
    |false=>
     cases k2:((cb.toNat:Int)==45)with
     |true=>
      rw[el,cN];simp only[mW,pU,pV,aw,reduceIte,Nat.reduceEqDiff,iC kc,g8,gw,gl,gi,z0,e1,e2',ai (fY _ _),k1,k2,aL]
      refine go _ ?_ fun n hn=> ?_
      ·simp only[aa,reduceIte,Nat.reduceEqDiff,j5,k1,k2,Bool.false_or,Bool.true_or,Bool.true_and]
      ·simp only[aa]
       repeat rw[if_neg (by omega)]
     |false=>
      cases k3:((cb.toNat:Int)==46)with
      |true=>
       rw[el,cN];simp only[mW,pU,pV,aw,reduceIte,Nat.reduceEqDiff,iC kc,g8,gw,gl,gi,z0,e1,e2',ai (fY _ _),k1,k2,k3,aL]
       refine go _ ?_ fun n hn=> ?_
       ·simp only[aa,reduceIte,Nat.reduceEqDiff,j5,k1,k2,k3,Bool.false_or,Bool.true_and]
       ·simp only[aa]
        repeat rw[if_neg (by omega)]
      |false=>
       rw[el,cN];simp only[mW,pU,pV,aw,reduceIte,Nat.reduceEqDiff,iC kc,g8,gw,gl,gi,z0,e1,e2',ai (fY _ _),k1,k2,k3,aL]
       refine go _ ?_ fun n hn=> ?_
       ·simp only[aa,reduceIte,Nat.reduceEqDiff,j5,k1,k2,k3,Bool.false_or,Bool.true_and]
       ·simp only[aa]
        repeat rw[if_neg (by omega)]
  ·have z0:((i:Int)<(s.length:Int))=False:=eq_false (by omega)
   have hd:s.drop i=[]:=List.drop_of_length_le (by omega)
   simp only[oU,mW,aw,reduceIte,gl,gi,z0]
   refine hQ _ ?_ fun n hn=> ?_
   ·simp only[aa,reduceIte,Nat.reduceEqDiff,g8]
    rw[hd,List.all_nil,Bool.and_true]
   ·simp only[aa]
    repeat rw[if_neg (by omega)]
def jm (s:List UInt8):Bool:=gp s&& !(jC s==[])&& !(je s==[])&&decide (s.length≤64)&& !gp (je s)&&(jC s).all jB&&(je s).all j5
theorem EA (s:List UInt8) (hs:s.length<9223372036854775808) (h:Heap):WC env 141 [.str s] h (fun o=>∃a b,o=.ret ⟨.aF [.str a,.str b,if jm s then .bL else oH 0 24],h,.none⟩):=by
 refine ad rfl rfl rfl rfl ?_
 obtain⟨n,hn⟩:∃n,n=jC s:=⟨_,rfl⟩
 obtain⟨o,ho⟩:∃o,o=je s:=⟨_,rfl⟩
 have hnl:n.length≤s.length:=by
  rw[hn,jC];split
  ·simp;omega
  ·omega
 have hol:o.length≤s.length:=by
  rw[ho,je];split
  ·simp
  ·simp
 have wcut:∀h,WC env 151 [.str s,.str [64]] h (fun r=>r=.ret ⟨.aF [.str n,.str o,.bool (gp s)],h,.none⟩):=fun h=>by rw[hn,ho];exact aaJ s hs h
 have en:∀h,aN true h (.str s)=some ⟨.int .i64 s.length,h,.none⟩:=fun h=>rfl
 have ef:jm s=(gp s&& !(n==[])&& !(o==[])&&decide (s.length≤64)&& !gp o&&n.all jB&&o.all j5):=by rw[jm,←hn,←ho]
 obtain⟨h1,eh1⟩:∃h1,h1=Heap.empty.new (n.map bK):=⟨_,rfl⟩
 have ho1:an h1:=by rw[eh1];exact an.empty.new _
 have a1:h1.at_ Heap.empty.next 0=some (n.map bK):=by rw[eh1];exact aY _
 have conv1:di .empty .Ui (.str n)=some ⟨.sl Heap.empty.next 0 0 1 n.length none,h1,.write⟩:=by rw[eh1];rfl
 have hw1:Bytes h1 (.sl Heap.empty.next 0 0 1 n.length none) n:=.sl _ _ _ _ _ _ a1 (by simp) (by rw[List.drop_zero];exact List.take_of_length_le (by simp)) (fun c h=>by cases h)
 obtain⟨h2,eh2⟩:∃h2,h2=h1.new (o.map bK):=⟨_,rfl⟩
 have a2:h2.at_ h1.next 0=some (o.map bK):=by rw[eh2];exact aY _
 have conv2:di h1 .Ui (.str o)=some ⟨.sl h1.next 0 0 1 o.length none,h2,.write⟩:=by rw[eh2];rfl
 have hw2:Bytes h2 (.sl h1.next 0 0 1 o.length none) o:=.sl _ _ _ _ _ _ a2 (by simp) (by rw[List.drop_zero];exact List.take_of_length_le (by simp)) (fun c h=>by cases h)
 have en1:∀h,aN false h (.sl Heap.empty.next 0 0 1 n.length none)=some ⟨.int .i64 n.length,h,.none⟩:=fun h=>rfl
 have en2:∀h,aN false h (.sl h1.next 0 0 1 o.length none)=some ⟨.int .i64 o.length,h,.none⟩:=fun h=>rfl
 have rest:∀(σ:ah) (g:Bool),σ.get 5=.str n→σ.get 6=.str o→σ.get 8=.bool g→jm s=(g&&n.all jB&&o.all j5)→jK env (.seq (.seq (.ops H_) (.block 0 (.loop sR))) (.seq (.seq (.ops Ib) (.block 2 (.loop oU))) (.seq (.seq (.ops wN) (.cond (.t 79) (.seq (.ops Ab) .ret) .skip)) (.seq (.ops Ac) .ret)))) ⟨σ,.empty⟩
   (iB env a141.results h (fun r=>∃a b,r=.ret ⟨.aF [.str a,.str b,if jm s then .bL else oH 0 24],h,.none⟩)):=by
  intro σ g p5 p6 p8 e;rw[cN];simp only[H_,aw,reduceIte,Nat.reduceEqDiff,p5,conv1,en1]
  refine Uf hw1 (by omega) (n.length+1) 0 _ g (by omega) (by omega) ?_ ?_ ?_ ?_ fun σ1 q8 q1=> ?_
  ·simp only[aa,reduceIte,Nat.reduceEqDiff,p8]
  ·simp only[aa,reduceIte,Nat.reduceEqDiff]
  ·simp only[aa,reduceIte,Nat.reduceEqDiff]
  ·simp only[aa,reduceIte,Nat.reduceEqDiff]<;>rfl
  have q5:σ1.get 5=.str n:=by rw[q1 5 (by omega)];simp only[aa,reduceIte,Nat.reduceEqDiff,p5]
  have q6:σ1.get 6=.str o:=by rw[q1 6 (by omega)];simp only[aa,reduceIte,Nat.reduceEqDiff,p6]
  rw[List.drop_zero]at q8
  simp only[Ib,aw,reduceIte,Nat.reduceEqDiff,q6,conv2,en2]
  refine Ug hw2 (by omega) (o.length+1) 0 _ (g&&n.all jB) (by omega) (by omega) ?_ ?_ ?_ ?_ fun σ2 r8 r1=> ?_
  ·simp only[aa,reduceIte,Nat.reduceEqDiff,q8]
  ·simp only[aa,reduceIte,Nat.reduceEqDiff]
  ·simp only[aa,reduceIte,Nat.reduceEqDiff]
  ·simp only[aa,reduceIte,Nat.reduceEqDiff]<;>rfl
  have r5:σ2.get 5=.str n:=by rw[r1 5 (by omega)];simp only[aa,reduceIte,Nat.reduceEqDiff,q5]
  have r6:σ2.get 6=.str o:=by rw[r1 6 (by omega)];simp only[aa,reduceIte,Nat.reduceEqDiff,q6]
  rw[List.drop_zero,←e]at r8
  cases hf:jm s with
  |true=>
   rw[hf]at r8
   simp only[wN,Ac,aw,reduceIte,Nat.reduceEqDiff,r5,r6,r8,dm,Bool.not_true]
   exact⟨[.str n,.str o,.bL],.aF [.str n,.str o,.bL],by simp only[a141,Env.results,Option.map_some,aa,reduceIte,Nat.reduceEqDiff],(ay (v:=.aF [.str n,.str o,.bL]) rfl).2 rfl,_,_,rfl⟩
  |false=>
   rw[hf]at r8
   simp only[wN,Ab,aw,reduceIte,Nat.reduceEqDiff,r8,dm,Bool.not_false,ai (j9 _ _ _)]
   exact⟨[.str [],.str [],oH 0 24],.aF [.str [],.str [],oH 0 24],by simp only[a141,Env.results,Option.map_some,aa,reduceIte,Nat.reduceEqDiff],(ay (v:=.aF [.str [],.str [],oH 0 24]) rfl).2 rfl,_,_,rfl⟩
 have eb:a141.body=(.seq (.ops rP) (.seq (.ops rQ) (.seq (.ops rR) (.seq (.seq (.ops H_) (.block 0 (.loop sR))) (.seq (.seq (.ops Ib) (.block 2 (.loop oU))) (.seq (.seq (.ops wN) (.cond (.t 79) (.seq (.ops Ab) .ret) .skip)) (.seq (.ops Ac) .ret))))))):=rfl
 rw[eb,cN];cases t1:gp s with
 |false=>
  have wcut:∀h,WC env 151 [.str s,.str [64]] h (fun r=>r=.ret ⟨.aF [.str n,.str o,.bool false],h,.none⟩):=fun h=>by rw[←t1];exact wcut h
  simp only[rP,rQ,rR,ah.bbw,aw,reduceIte,Nat.reduceEqDiff,ai (wcut _),cm,Q8,Q9,Q_,aL]
  refine rest _ false ?_ ?_ ?_ (by rw[ef];simp[t1])
  ·simp only[aa,reduceIte,Nat.reduceEqDiff]
  ·simp only[aa,reduceIte,Nat.reduceEqDiff]
  ·simp only[aa,reduceIte,Nat.reduceEqDiff]
 |true=>
 have wcut:∀h,WC env 151 [.str s,.str [64]] h (fun r=>r=.ret ⟨.aF [.str n,.str o,.bool true],h,.none⟩):=fun h=>by rw[←t1];exact wcut h
 cases t2:(n==([]:List UInt8))with
 |true=>
  simp only[rP,rQ,rR,ah.bbw,aw,reduceIte,Nat.reduceEqDiff,ai (wcut _),cm,Q8,Q9,Q_,aD,aL,t2,Bool.not_true]
  refine rest _ false ?_ ?_ ?_ (by rw[ef];simp[t1,t2])
  ·simp only[aa,reduceIte,Nat.reduceEqDiff]
  ·simp only[aa,reduceIte,Nat.reduceEqDiff]
  ·simp only[aa,reduceIte,Nat.reduceEqDiff]
 |false=>
 cases t3:(o==([]:List UInt8))with
 |true=>
  simp only[rP,rQ,rR,ah.bbw,aw,reduceIte,Nat.reduceEqDiff,ai (wcut _),cm,Q8,Q9,Q_,aD,aL,t2,t3,Bool.not_true,Bool.not_false]
  refine rest _ false ?_ ?_ ?_ (by rw[ef];simp[t1,t2,t3])
  ·simp only[aa,reduceIte,Nat.reduceEqDiff]
  ·simp only[aa,reduceIte,Nat.reduceEqDiff]
  ·simp only[aa,reduceIte,Nat.reduceEqDiff]
 |false=>
 by_cases t4:s.length≤64
 case neg=>
  have z4:((s.length:Int)≤64)=False:=eq_false (by omega)
  simp only[rP,rQ,rR,ah.bbw,aw,reduceIte,Nat.reduceEqDiff,ai (wcut _),cm,Q8,Q9,Q_,en,aD,aL,t2,t3,z4,Bool.not_false]
  refine rest _ false ?_ ?_ ?_ (by rw[ef];simp[t1,t2,t3,t4])
  ·simp only[aa,reduceIte,Nat.reduceEqDiff]
  ·simp only[aa,reduceIte,Nat.reduceEqDiff]
  ·simp only[aa,reduceIte,Nat.reduceEqDiff]
 have z4:((s.length:Int)≤64)=True:=eq_true (by omega)
 cases t5:gp o with
 |true=>
  have wc5:∀h,WC env 152 [.str o,.str [64]] h (fun r=>r=.ret ⟨.bool true,h,.none⟩):=fun h=>by rw[←t5];exact tq o h
  simp only[rP,rQ,rR,ah.bbw,aw,reduceIte,Nat.reduceEqDiff,ai (wcut _),cm,Q8,Q9,Q_,en,aD,dm,aL,t2,t3,z4,Bool.not_true,Bool.not_false,ai (wc5 _)]
  refine rest _ false ?_ ?_ ?_ (by rw[ef];simp[t1,t2,t3,t4,t5])
  ·simp only[aa,reduceIte,Nat.reduceEqDiff]
  ·simp only[aa,reduceIte,Nat.reduceEqDiff]
  ·simp only[aa,reduceIte,Nat.reduceEqDiff]
 |false=>
  have wc5:∀h,WC env 152 [.str o,.str [64]] h (fun r=>r=.ret ⟨.bool false,h,.none⟩):=fun h=>by rw[←t5];exact tq o h
  simp only[rP,rQ,rR,ah.bbw,aw,reduceIte,Nat.reduceEqDiff,ai (wcut _),cm,Q8,Q9,Q_,en,aD,dm,aL,t2,t3,z4,Bool.not_false,ai (wc5 _)]
  refine rest _ true ?_ ?_ ?_ (by rw[ef];simp[t1,t2,t3,t4,t5])
  ·simp only[aa,reduceIte,Nat.reduceEqDiff]
  ·simp only[aa,reduceIte,Nat.reduceEqDiff]
  ·simp only[aa,reduceIte,Nat.reduceEqDiff]
end Go.Bf
namespace Go.Bf
open Go.AM
inductive Tm where
 |mk (k i:Int) (s:List UInt8) (c:Int) (nf:Option Bool) (ns:List Int) (af:Option Bool) (ar:List Tm)
def aM:Option Bool→Nat→List AV→AV
 |none,0,_=>.ax
 |none,n+1,cs=>.fs false (n+1) cs
 |some b,n,cs=>.fs b n cs
def bN (l:List Int):List AV:=l.map (.int .u32)
mutual
def tc:Tm→List AV
 |.mk k i s c nf ns af ar=>[.int .i64 k,.int .i64 i,.str s,.int .u32 c,aM nf ns.length (bN ns),aM af ar.length (bq ar)]
def bq:List Tm→List AV
 |[]=>[]
 |t::l=>tc t++bq l
end
namespace Tm
def kind:Tm→Int|mk k _ _ _ _ _ _ _=>k
def args:Tm→List Tm|mk _ _ _ _ _ _ _ ar=>ar
def text:Tm→List UInt8|mk _ _ s _ _ _ _ _=>s
end Tm
theorem aR (t:Tm):(tc t).length=6:=by cases t;simp[tc]
theorem bl:∀l:List Tm,(bq l).length=l.length*6
 |[]=>rfl
 |t::l=>by rw[bq,List.length_append,aR,bl l,List.length_cons];omega
theorem gQ:∀(l:List Tm) (i:Nat) (hi:i<l.length),(bq l).drop (i*6)=tc l[i]++bq (l.drop (i+1))
 |[],i,h=>by simp at h
 |t::l,0,h=>by simp[bq]
 |t::l,i+1,h=>by
  have e:(i+1)*6=(tc t).length+i*6:=by rw[aR];omega
  rw[bq,e,List.drop_append,List.drop_of_length_le (by omega),List.nil_append,Nat.add_sub_cancel_left,gQ l i (by simpa using h)]
  simp
theorem adx (t:Tm) (l:List AV):(tc t++l).take 6=tc t:=by
 rw[List.take_append_of_le_length (by rw[aR];exact Nat.le_refl _),List.take_of_length_le (by rw[aR];exact Nat.le_refl _)]
theorem bX (f:Option Bool) (n:Nat) (cs:List AV) (hf:f=none→True) (h:Heap):aN false h (aM f n cs)=some ⟨.int .i64 n,h,.none⟩:=by
 cases f with
 |none=>cases n<;>rfl
 |some b=>rfl
theorem gO {kd:IntKind} {n i:Nat} (hi:i<n):c_ n (.int kd i)=some i:=by
 simp only[c_]
 rw[if_pos ⟨by omega,by omega⟩];rfl
theorem fI {f:Option Bool} {l:List Tm} {i:Nat} (hi:i<l.length):aZ 6 (aM f l.length (bq l)) (.int .i64 i)=some (.fp ((bq l).drop (i*6))):=by
 have hl:=bl l
 have go:∀b,aZ 6 (.fs b l.length (bq l)) (.int .i64 i)=some (.fp ((bq l).drop (i*6))):=by
  intro b;cases e:bq l with
  |nil=>rw[e]at hl;simp at hl;omega
  |cons c cs=>
   simp only[aZ,gO (kd:=.i64) hi,Option.map_some]
 cases f with
 |none=>
  cases n:l.length with
  |zero=>omega
  |succ n=>have:=go false;rw[n]at this;exact this
 |some b=>exact go b
theorem fK {l:List Tm} {i:Nat} (hi:i<l.length) (h:Heap):bg h true 6 (.fp ((bq l).drop (i*6)))=some ⟨.agg (tc l[i]),h,.none⟩:=by
 rw[gQ l i hi];cases l[i]with
 |mk k i s c nf ns af ar=>rfl
theorem Ra {l:List Tm} {i:Nat} (hi:i<l.length) (h:Heap):bg h false 1 (.fp ((bq l).drop (i*6)))=some ⟨.int .i64 (l[i]).kind,h,.none⟩:=by
 rw[gQ l i hi];cases l[i]with
 |mk k i s c nf ns af ar=>rfl
def b7:Tm→Bool→Bool→Bool→Bool
 |.mk k i s c _ ns _ ar,bt,bn,ba=>(bt||s==[])&&(bn||(ns.length==0&&c==0))&&(ba||ar.length==0)&&(k==1||i==0)
theorem tu:∀(a b:List AV),AV.aj (a++b)=(AV.aj a&&AV.aj b)
 |[],b=>by simp[AV.aj]
 |x::a,b=>by simp[AV.aj,tu a b,Bool.and_assoc]
theorem pS:∀l:List Int,AV.aj (bN l)=true
 |[]=>rfl
 |x::l=>by simp only[bN,List.map_cons,AV.aj,AV.ae,Bool.true_and];exact pS l
theorem rF (f:Option Bool) (n:Nat) {cs:List AV} (hc:AV.aj cs=true):(aM f n cs).ae=true:=by
 cases f with
 |none=>cases n with
  |zero=>rfl
  |succ n=>exact hc
 |some b=>exact hc
mutual
theorem az:∀t:Tm,AV.aj (tc t)=true
 |.mk k i s c nf ns af ar=>by
  simp only[tc,AV.aj,AV.ae,Bool.and_true,rF nf _ (pS ns),rF af _ (eD ar)]
theorem eD:∀l:List Tm,AV.aj (bq l)=true
 |[]=>rfl
 |t::l=>by rw[bq,tu,az t,eD l];rfl
end
theorem r_ (t:Tm):(AV.agg (tc t)).ae=true:=az t
theorem pure_run {n f:Nat} {fn:aS} {args:List AV} {h:Heap} {v:AV} (hp:env.nU f=none) (hf:env.func f=some fn) (hu:env.kO f=true) (hr:AV.aj args=true) (hv:v.ae=true)
  (hb:(env.body (env.call (n+1)) (n+1) fn args .empty).bind (fun|.ret r=>some r.v|_=>none)=some v):WC env f args h (fun o=>o=.ret ⟨v,h,.none⟩):=by
 refine bu (n:=n+2) ?_
 show(match env.nU f with|some p=>_|none=>_)=_
 rw[hp];show(env.func f).bind _=_
 rw[hf];show(match env.kO f with|true=>_|false=>_)=_
 rw[hu];show(match AV.aj args with|true=>_|false=>_)=_
 rw[hr];show(env.body (env.call (n+1)) (n+1) fn args .empty).bind _=_
 cases e:env.body (env.call (n+1)) (n+1) fn args .empty with
 |none=>rw[e]at hb;cases hb
 |some o=>
  rw[e]at hb
  cases o with
  |panic v' h' =>cases hb
  |ret r=>
   have hb:r.v=v:=Option.some.inj hb
   show(Go.AM.freeze r.h (n+1) r.v).map _=_
   rw[hb];show(match v.ae with|true=>some v|false=>_).map _=_
   rw[hv];rfl
inductive G7:AV→Nat→Prop
 |ax:G7 .ax 0
 |fs (b:Bool) (n:Nat) (cs:List AV):G7 (.fs b n cs) n
theorem M4 (f:Option Bool) (n:Nat) (cs:List AV):G7 (aM f n cs) n:=by
 cases f with
 |none=>cases n with
  |zero=>exact .ax
  |succ n=>exact .fs _ _ _
 |some b=>exact .fs _ _ _
inductive I0:Int→Prop
 |z:I0 0
 |p (n:Nat):I0 (Int.ofNat (n+1))
 |m (n:Nat):I0 (Int.negSucc n)
theorem i0 (x:Int):I0 x:=by
 rcases x with n|n
 ·cases n with
  |zero=>exact .z
  |succ n=>exact .p n
 ·exact .m n
inductive I1:Int→Prop
 |o:I1 1
 |z:I1 0
 |p (n:Nat):I1 (Int.ofNat (n+2))
 |m (n:Nat):I1 (Int.negSucc n)
theorem i1 (x:Int):I1 x:=by
 rcases x with n|n
 ·match n with
  |0=>exact .z
  |1=>exact .o
  |n+2=>exact .p n
 ·exact .m n
noncomputable def nS (fn:aS) (args:List AV):Option AV:=(env.body (env.call 30) 30 fn args .empty).bind (fun|.ret r=>some r.v|_=>none)
inductive S0:AV→Prop
 |ax:S0 .ax
 |fs (b:Bool) (cs:List AV):S0 (.fs b 0 cs)
inductive SN:AV→Prop
 |ax:SN .ax
 |fs (b:Bool) (n:Nat) (cs:List AV):SN (.fs b n cs)
theorem G7.zero {v:AV} (h:G7 v 0):S0 v:=by cases h;exact .ax;exact .fs _ _
theorem G7.any {v:AV} {n:Nat} (h:G7 v n):SN v:=by cases h;exact .ax;exact .fs _ _ _
theorem G7.succ {v:AV} {n:Nat} (h:G7 v (n+1)):∃b cs,v=.fs b (n+1) cs:=by cases h;exact⟨_,_,rfl⟩
section
variable {bt bn ba : Bool} {s : List UInt8} {nv av : AV} {c k i : Int}
def ER (k i:Int) (s:List UInt8) (c:Int) (nv av:AV) (bt bn ba:Bool):List AV:=[.agg [.int .i64 k,.int .i64 i,.str s,.int .u32 c,nv,av],.bool bt,.bool bn,.bool ba]
theorem adG {b:UInt8} {l:List UInt8} (hn:SN nv) (ha:SN av):nS a139 (ER k i (b::l) c nv av false bn ba)=some (.bool false):=by
 cases hn<;>cases ha<;>kernel_rfl
theorem aaK (hs:bt=true∨bt=false∧s=[]) {b:Bool} {n:Nat} {cs:List AV} (ha:SN av):nS a139 (ER k i s c (.fs b (n+1) cs) av bt false ba)=some (.bool false):=by
 rcases hs with rfl|⟨rfl,rfl⟩<;>cases ha<;>kernel_rfl
theorem aaL (hs:bt=true∨bt=false∧s=[]) (hn:S0 nv) (hc:c≠0) (ha:SN av):nS a139 (ER k i s c nv av bt false ba)=some (.bool false):=by
 rcases hs with rfl|⟨rfl,rfl⟩<;>cases hn<;>cases ha<;>(cases i0 c with
  |z=>exact absurd rfl hc
  |p n=>kernel_rfl
  |m n=>kernel_rfl)
theorem aaM (hs:bt=true∨bt=false∧s=[]) (hn:bn=true∧SN nv∨bn=false∧c=0∧S0 nv) {b:Bool} {n:Nat} {cs:List AV}:nS a139 (ER k i s c nv (.fs b (n+1) cs) bt bn false)=some (.bool false):=by
 rcases hs with rfl|⟨rfl,rfl⟩<;>rcases hn with⟨rfl,hn⟩|⟨rfl,rfl,hn⟩<;>cases hn<;>kernel_rfl
theorem adH (hs:bt=true∨bt=false∧s=[]) (hn:bn=true∧SN nv∨bn=false∧c=0∧S0 nv) (ha:ba=true∧SN av∨ba=false∧S0 av):
  nS a139 (ER k i s c nv av bt bn ba)=some (.bool (k==1||i==0)):=by
 rcases hs with rfl|⟨rfl,rfl⟩<;>rcases hn with⟨rfl,hn⟩|⟨rfl,rfl,hn⟩<;>cases hn<;>rcases ha with⟨rfl,ha⟩|⟨rfl,ha⟩<;>cases ha
 all_goals cases i1 k with
  |o=>kernel_rfl
  |z=>cases i0 i<;>kernel_rfl
  |p n=>cases i0 i<;>kernel_rfl
  |m n=>cases i0 i<;>kernel_rfl
end
theorem Uh (t:Tm) (bt bn ba:Bool):nS a139 [.agg (tc t),.bool bt,.bool bn,.bool ba]=some (.bool (b7 t bt bn ba)):=by
 rcases t with⟨k,i,s,c,nf,ns,af,ar⟩
 have hn:=M4 nf ns.length (bN ns)
 have ha:=M4 af ar.length (bq ar)
 show nS a139 (ER k i s c (aM nf ns.length (bN ns)) (aM af ar.length (bq ar)) bt bn ba)=_
 generalize aM nf ns.length (bN ns)=nv at*
 generalize aM af ar.length (bq ar)=av at*
 by_cases hs:bt=true∨s=[]
 ·have es:(bt||s==[])=true:=by rcases hs with rfl|rfl<;>simp
  have hs:bt=true∨bt=false∧s=[]:=by
   rcases hs with h|h
   ·exact .inl h
   ·cases bt
    ·exact .inr ⟨rfl,h⟩
    ·exact .inl rfl
  by_cases hq:bn=true∨(ns=[]∧c=0)
  ·have en:(bn||(ns.length==0&&c==0))=true:=by rcases hq with rfl|⟨rfl,rfl⟩<;>simp
   have gn:bn=true∧SN nv∨bn=false∧c=0∧S0 nv:=by
    cases bn with
    |true=>exact .inl ⟨rfl,hn.any⟩
    |false=>
     rcases hq with h|⟨rfl,h⟩
     ·cases h
     ·exact .inr ⟨rfl,h,hn.zero⟩
   by_cases hr:ba=true∨ar=[]
   ·have er:(ba||ar.length==0)=true:=by rcases hr with rfl|rfl<;>simp
    have ga:ba=true∧SN av∨ba=false∧S0 av:=by
     cases ba with
     |true=>exact .inl ⟨rfl,ha.any⟩
     |false=>
      rcases hr with h|rfl
      ·cases h
      ·exact .inr ⟨rfl,ha.zero⟩
    rw[adH hs gn ga,b7,es,en,er];rfl
   ·have:ba=false∧ar≠[]:=⟨by cases ba;rfl;exact absurd (.inl rfl) hr,fun e=>hr (.inr e)⟩
    obtain⟨rfl,h2⟩:=this
    cases ar with
    |nil=>exact absurd rfl h2
    |cons a l=>
     obtain⟨b,cs,rfl⟩:=G7.succ (n:=l.length) ha
     rw[aaM hs gn];simp[b7]
  ·have hb:bn=false:=by cases bn;rfl;exact absurd (.inl rfl) hq
   subst hb;cases ns with
   |cons a l=>
    obtain⟨b,cs,rfl⟩:=G7.succ (n:=l.length) hn
    rw[aaK hs ha.any];simp[b7]
   |nil=>
    have hc:c≠0:=fun e=>hq (.inr ⟨rfl,e⟩)
    rw[aaL hs hn.zero hc ha.any];simp[b7,hc]
 ·have hb:bt=false:=by cases bt;rfl;exact absurd (.inl rfl) hs
  subst hb;cases s with
  |nil=>exact absurd (.inr rfl) hs
  |cons b l=>
   rw[adG hn.any ha.any];simp[b7]
theorem ig (t:Tm) (bt bn ba:Bool) (h:Heap):WC env 139 [.agg (tc t),.bool bt,.bool bn,.bool ba] h (fun o=>o=.ret ⟨.bool (b7 t bt bn ba),h,.none⟩):=
 pure_run (n:=29) rfl rfl rfl (by simp only[AV.aj,AV.ae,az,Bool.and_self]) rfl (Uh t bt bn ba)
end Go.Bf
namespace Go.Bf
open Go.AM
def I64 (x:Int):Prop:= -9223372036854775808≤x∧x≤9223372036854775807
def KW (x:Int):Prop:=0≤x∧x≤4294967295
mutual
def Tm.Ok:Tm→Prop
 |.mk k i s c nf ns af ar=>I64 k∧I64 i∧KW c∧(∀x,x∈ns→KW x)∧(s.length<9223372036854775808∧ns.length<9223372036854775808∧ar.length<9223372036854775808∧gW ar)
def gW:List Tm→Prop
 |[]=>True
 |t::l=>t.Ok∧gW l
end
theorem Tm.Ok.lens {k i:Int} {s:List UInt8} {c:Int} {nf:Option Bool} {ns:List Int} {af:Option Bool} {ar:List Tm} (h:Tm.Ok (.mk k i s c nf ns af ar)):s.length<9223372036854775808∧ns.length<9223372036854775808∧ar.length<9223372036854775808∧gW ar:=by
 rw[Tm.Ok]at h;exact h.2.2.2.2
theorem gW.get:∀{l:List Tm} (h:gW l) {t:Tm},t∈l→t.Ok
 |[],h,t,m=>by simp at m
 |u::l,h,t,m=>by
  rw[gW]at h
  rcases List.mem_cons.1 m with rfl|m
  ·exact h.1
  ·exact gW.get h.2 m
theorem M3 {f:Nat} {args:List AV} {h:Heap} {α β:Type} {r:α→β→fC} (w:WC env f args h (fun o=>∃a b,o=r a b)):∃a b,WC env f args h (fun o=>o=r a b):=by
 obtain⟨o,h1,a,b,h2⟩:=w
 exact⟨a,b,o,h1,h2⟩
theorem B0 (p c:Int):uS (.iface true) (oH p c) .bL=some false:=rfl
theorem fa0 {cs:List AV}:au 0 (.fp cs)=some (.fp (cs.drop 0)):=rfl
abbrev CQ:=Option (Int×Int)
def an8:CQ→AV
 |none=>.bL
 |some (p,c)=>oH p c
def G_ (at_ code:Int) (u:CQ):AV:=.fN 69 (.fp [.str [116,101,114,109],.int .i64 at_,.int .i64 code,an8 u])
theorem dA (a c:Int) (h:Heap):WC env 129 [.int .i64 a,.int .i64 c,.bL] h (fun o=>o=.ret ⟨G_ a c none,h,.none⟩):=bu (n:=30) (by kernel_rfl)
theorem uw (a c p d:Int) (h:Heap):WC env 129 [.int .i64 a,.int .i64 c,oH p d] h (fun o=>o=.ret ⟨G_ a c (some (p,d)),h,.none⟩):=bu (n:=30) (by kernel_rfl)
theorem xx (p d:Int) (h:Heap):WC env 142 [oH p d] h (fun o=>o=.ret ⟨.int .i64 d,h,.none⟩):=bu (n:=30) (by kernel_rfl)
def cf:List Tm→Bool
 |[]=>true
 |[t]=>t.kind !=7
 |_::l=>cf l
def kindOk:Tm→Bool
 |t@(.mk k _ _ _ _ ns _ ar)=>
  if k=1 then b7 t false false false
  else if k=2 then b7 t true false false
  else if k=3 then b7 t true true false&&ns.length==3
  else if k=4 then b7 t true true false&&ns.length==2
  else if k=5 then b7 t false false true
  else if k=6 then b7 t false false false
  else if k=7 then b7 t false false true&&decide (ar.length≥2)&&cf ar
  else false
def bw:Tm→Option (Int×CQ)
 |t@(.mk k i s _ _ _ _ _)=>
  if kindOk t=false then some (40,none)
  else if k=1 then if i< -576460752303423488∨i>576460752303423487 then some (2,none)else none
  else if k=2 then match dO s with
   |some (p,c)=>some (c,some (p,c))
   |none=>none
  else if k=3∨k=4 then if jm s then none else some (24,some (0,24))
  else none
def da (at_:Int):Option (Int×CQ)→AV
 |none=>.bL
 |some (c,u)=>G_ at_ c u
theorem ck (a:Int) (x:Option (Int×CQ)):(da a x).ae=true:=by
 rcases x with _|⟨c,_|⟨p,d⟩⟩<;>rfl
theorem pR:∀(l:List Tm) (h:l.length-1<l.length),cf l=(l[l.length-1].kind !=7)
 |[],h=>by simp at h
 |[t],h=>rfl
 |t::u::l,h=>by
  have:=pR (u::l) (by simp)
  rw[cf,this]
  ·simp
  ·simp
end Go.Bf
namespace Go.Bf
open Go.AM
theorem cV {v:Int} (h: -9223372036854775808≤v∧v<9223372036854775808):IntKind.wrap .i64 v=v:=by
 show(if(true&&decide (v % 18446744073709551616≥9223372036854775808))=true then v % 18446744073709551616-18446744073709551616 else v % 18446744073709551616)=v
 split
 ·rename_i c
  simp only[Bool.true_and,decide_eq_true_eq]at c
  omega
 ·rename_i c
  simp only[Bool.true_and,decide_eq_true_eq]at c
  omega
theorem pP {v:Int} (h:Small v):IntKind.wrap .i64 v=v:=cV (by have:=h.1;have:=h.2;omega)
theorem GW {a b:Int} (ha:Small a) (hb:b≠0) (hab:Small (a*b)) (h:Heap):WC env 100 [.int .i64 a,.int .i64 b] h (fun o=>o=.ret ⟨.aF [.int .i64 (a*b),.bool true],h,.none⟩):=by
 refine ad rfl rfl rfl rfl ?_
 have z1:(b==0)=false:=by simpa using hb
 have z2:(b=0)=False:=eq_false hb
 have z3:=pP hab
 have z4:(a*b).tdiv b=a:=Int.mul_tdiv_cancel a hb
 have z5:=pP ha
 have z6:(a*b).tmod b=0:=Int.mul_tmod_left a b
 have z7:((0:Int)==0)=true:=rfl
 have z8:(a==a)=true:=by simp
 by_cases c:a=0
 ·subst c
  have z9:((0:Int)*b)=0:=by omega
  simp only[GS,rp,rq,GU,ah.bbw,aw,reduceIte,Nat.reduceEqDiff,z7,aL]
  refine⟨[.int .i64 0,.bool true],_,by simp only[Env.results,Option.map_some,aa,reduceIte,Nat.reduceEqDiff],(ay (v:=.aF [.int .i64 0,.bool true]) rfl).2 rfl,?_⟩
  rw[z9]
 ·have z0:(a==0)=false:=by simpa using c
  simp only[GS,rp,rq,BU,BV,ah.bbw,aw,reduceIte,Nat.reduceEqDiff,z0,z1,aL,z3]
  refine aB ?_
  simp only[aw,reduceIte,Nat.reduceEqDiff,k3,z2,if_false,z4,z5,z6,z7,z8,aL]
  refine⟨rfl,?_⟩
  exact⟨[.int .i64 (a*b),.bool true],_,by simp only[Env.results,Option.map_some,aa,reduceIte,Nat.reduceEqDiff],(ay (v:=.aF [.int .i64 (a*b),.bool true]) rfl).2 rfl,rfl⟩
theorem j0 {x y:Int} (h:Small x): -9223372036854775808≤x.tdiv y∧x.tdiv y<9223372036854775808:=by
 have:=Int.natAbs_tdiv_le_natAbs x y
 obtain⟨p,q⟩:=h
 omega
def two (x y:Int):AV:=.fs true 2 (ti x++ti y)
end Go.Bf
namespace Go.Bf
open Go.AM
def Ij (c:Int):AV:=.fN 69 (.fp [.str [98,105,102],.int .i64 0,.int .i64 c,.bL])
theorem pz (c:Int) (h:Heap):WC env 35 [.int .i64 0,.int .i64 c] h (fun o=>o=.ret ⟨Ij c,h,.none⟩):=bu (n:=30) (by kernel_rfl)
section
variable {name : List UInt8} {x y : Int} {a b c d : AV}
end
theorem oC {x y:Int} (hx:Small x):Small (x.tmod y):=by
 have h1:(x.tmod y).natAbs≤x.natAbs:=by rw[Int.natAbs_tmod];exact Nat.mod_le _ _
 obtain⟨p,q⟩:=hx
 by_cases c:0≤x
 ·have:=Int.tmod_nonneg y c
  constructor<;>omega
 ·have h2:=Int.tmod_nonneg y (show 0≤-x by omega)
  rw[Int.neg_tmod]at h2
  constructor<;>omega
theorem back {x y:Int} (hy:y≠0):x.tdiv y*y+x.tmod y=x:=by
 rw[Int.tmod_def,Int.mul_comm y]
 generalize x.tdiv y*y=q
 omega
end Go.Bf
namespace Go.Bf
open Go.AM
theorem jM {s:St} {n:Nat} {x:Bool} {h:Heap} {Q:fC→Prop} (hg:s.σ.get n=.bool x) (hq:Q (.ret ⟨.bool x,h,.none⟩)):iB env [.tmp n] h Q .ret s:=
 ⟨[.bool x],.bool x,by simp only[Env.results,Option.map_some,hg],(ay (v:=.bool x) rfl).2 rfl,hq⟩
theorem me {s:St} {n:Nat} {x:Int} {h:Heap} {Q:fC→Prop} (hg:s.σ.get n=.int .i64 x) (hq:Q (.ret ⟨.int .i64 x,h,.none⟩)):iB env [.tmp n] h Q .ret s:=
 ⟨[.int .i64 x],.int .i64 x,by simp only[Env.results,Option.map_some,hg],(ay (v:=.int .i64 x) rfl).2 rfl,hq⟩
def Il (c:UInt8):Bool:=decide (97≤c.toNat)&&decide (c.toNat≤122)
def qp (c:UInt8):Bool:=hH (c.toNat:Int) !=0
noncomputable def aaN (n:Nat):Bool:=match nS ai3 [.int .u8 (n:Int)]with|some (.bool b)=>b==(decide (97≤n)&&decide (n≤122))|_=>false
noncomputable def agl (n:Nat):Bool:=match nS a87 [.int .u8 (n:Int)]with|some (.bool b)=>b==(hH (n:Int) !=0)|_=>false
theorem ajN:(List.range 256).all aaN=true:=by kernel_rfl
theorem an9:(List.range 256).all agl=true:=by kernel_rfl
theorem PW (c:UInt8) (h:Heap):WC env 121 [.int .u8 (c.toNat:Int)] h (fun o=>o=.ret ⟨.bool (Il c),h,.none⟩):=by
 have:=List.all_eq_true.1 ajN c.toNat (List.mem_range.2 c.toNat_lt)
 unfold aaN at this
 split at this
 ·rename_i b e
  have hb:b=Il c:=by simpa[Il]using this
  exact pure_run (n:=29) rfl rfl rfl rfl rfl (by rw[←hb];exact e)
 ·cases this
theorem Kp (c:UInt8) (h:Heap):WC env 87 [.int .u8 (c.toNat:Int)] h (fun o=>o=.ret ⟨.bool (qp c),h,.none⟩):=by
 have:=List.all_eq_true.1 an9 c.toNat (List.mem_range.2 c.toNat_lt)
 unfold agl at this
 split at this
 ·rename_i b e
  have hb:b=qp c:=by simpa[qp]using this
  exact pure_run (n:=29) rfl rfl rfl rfl rfl (by rw[←hb];exact e)
 ·cases this
def words:List (List UInt8):=[[97,102,116,101,114],[97,110,100],[97,110,100,97,108,115,111],[98,101,103,105,110],[99,97,115,101],[99,97,116,99,104],[100,105,118],[101,110,100],[102,117,110],[105,102],[110,111,116],[111,102],[111,114],[111,114,101,108,115,101],[114,101,99,101,105,118,101],[114,101,109],[116,114,121],[119,104,101,110],[120,111,114]]
theorem K6 {ws:List (List UInt8)} {i:Nat} (hi:i<ws.length):aZ 1 (.fs true ws.length (ws.map .str)) (.int .i64 i)=some (.fp ((ws.map AV.str).drop i)):=by
 cases ws with
 |nil=>simp at hi
 |cons w ws=>
  simp only[List.map_cons,aZ,gO (kd:=.i64) hi,Option.map_some,Nat.mul_one]
theorem Sw {ws:List (List UInt8)} {i:Nat} (hi:i<ws.length) (h:Heap):bg h false 1 (.fp ((ws.map AV.str).drop i))=some ⟨.str ws[i],h,.none⟩:=by
 have:(ws.map AV.str).drop i=.str ws[i]::(ws.drop (i+1)).map AV.str:=by
  rw[List.drop_eq_getElem_cons (by simpa using hi)]
  simp
 rw[this];rfl
theorem aaO {s:List UInt8} {ws:List (List UInt8)} (hw:ws.length<1000) {h:Heap} {Q:aU→St→Prop}:∀(f i:Nat) (σ:ah),ws.length-i<f→i≤ws.length→σ.get 0=.str s→σ.get 3=.fs true ws.length (ws.map .str)→σ.get 4=.int .i64 i→
  (∀σ',(σ'.get 2=.bool true→(ws.drop i).contains s=true→Q .ret ⟨σ',h⟩)∧((ws.drop i).contains s=false→Q (.exit 0) ⟨σ',h⟩))→kz env wJ ⟨σ,h⟩ Q:=by
 intro f
 induction f with
 |zero=>intro i σ h1;omega
 |succ f ih=>
  intro i σ hf hi g0 g3 g4 hQ;refine aC fun b hb=> ?_
  have nl:∀h,aN false h (.fs true ws.length (ws.map .str))=some ⟨.int .i64 ws.length,h,.none⟩:=fun h=>rfl
  by_cases c1:i<ws.length
  ·have z0:((i:Int)<(ws.length:Int))=True:=eq_true (by omega)
   have zi:IntKind.wrap .i64 ((i:Int)+1)=((i+1:Nat):Int):=aX (by omega) (by omega)
   have hd:ws.drop i=ws[i]::ws.drop (i+1):=List.drop_eq_getElem_cons c1
   rw[hd,List.contains_cons]at hQ
   cases z1:(ws[i]==s)with
   |true=>
    have z2:(s==ws[i])=true:=by have:=eq_of_beq z1;simp[this]
    rw[z2,Bool.true_or]at hQ
    simp only[wJ,HY,Pn,ZM,aw,reduceIte,Nat.reduceEqDiff,g0,g3,g4,nl,z0,K6 c1,Sw c1,aD,z1]
    exact(hQ _).1 (by simp only[aa,reduceIte,Nat.reduceEqDiff]) rfl
   |false=>
    have z2:(s==ws[i])=false:=by
     cases e:(s==ws[i])with
     |false=>rfl
     |true=>have:=eq_of_beq e;rw[←this]at z1;simp at z1
    rw[z2,Bool.false_or]at hQ
    simp only[wJ,HY,Pn,ZN,aw,reduceIte,Nat.reduceEqDiff,g0,g3,g4,nl,z0,K6 c1,Sw c1,aD,z1,zi]
    subst hb;refine ih (i+1) _ (by omega) (by omega) ?_ ?_ ?_ hQ
    ·simp only[aa,reduceIte,Nat.reduceEqDiff,g0]
    ·simp only[aa,reduceIte,Nat.reduceEqDiff,g3]
    ·simp only[aa,reduceIte,Nat.reduceEqDiff]
  ·have z0:((i:Int)<(ws.length:Int))=False:=eq_false (by omega)
   simp only[wJ,HY,aw,reduceIte,Nat.reduceEqDiff,g3,g4,nl,z0]
   exact(hQ _).2 (by rw[List.drop_of_length_le (by omega)];rfl)
theorem CO (s:List UInt8) (h:Heap):WC env 122 [.str s] h (fun o=>o=.ret ⟨.bool (words.contains s),h,.none⟩):=by
 refine ad rfl rfl rfl rfl ?_
 obtain⟨h0,eh⟩:∃h0:List AV×List (Nat×Nat×AV),h0=([(.str []),(.str []),(.str []),(.str []),(.str []),(.str []),(.str []),(.str []),(.str []),(.str []),(.str []),(.str []),(.str []),(.str []),(.str []),(.str []),(.str []),(.str []),(.str [])],[(0,1,(.str [97,102,116,101,114])),(1,1,(.str [97,110,100])),(2,1,(.str [97,110,100,97,108,115,111])),(3,1,(.str [98,101,103,105,110])),(4,1,(.str [99,97,115,101])),(5,1,(.str [99,97,116,99,104])),(6,1,(.str [100,105,118])),(7,1,(.str [101,110,100])),(8,1,(.str [102,117,110])),(9,1,(.str [105,102])),(10,1,(.str [110,111,116])),(11,1,(.str [111,102])),(12,1,(.str [111,114])),(13,1,(.str [111,114,101,108,115,101])),(14,1,(.str [114,101,99,101,105,118,101])),(15,1,(.str [114,101,109])),(16,1,(.str [116,114,121])),(17,1,(.str [119,104,101,110])),(18,1,(.str [120,111,114]))]):=⟨_,rfl⟩
 have y1:bY h0.1 h0.2=some (words.map .str):=by rw[eh];rfl
 rw[eh]at y1
 have y2:(words.map AV.str).length=19:=rfl
 simp only[ai4,ZJ,ZK,ZL,ah.bbw,aw,reduceIte,Nat.reduceEqDiff,y1,y2,Nat.mul_one]
 refine aaO (s:=s) (ws:=words) (by decide) 20 0 _ (by decide) (by decide) ?_ ?_ ?_ fun σ' =>⟨fun g e=> ?_,fun e=> ?_⟩
 ·simp only[aa,reduceIte,Nat.reduceEqDiff]
 ·simp only[aa,reduceIte,Nat.reduceEqDiff];rfl
 ·simp only[aa,reduceIte,Nat.reduceEqDiff];rfl
 ·simp only[aw]
  exact jM g (by rw[List.drop_zero]at e;rw[e])
 ·rw[List.drop_zero]at e
  simp only[ZO,aw,reduceIte]
  exact jM (by simp only[aa,reduceIte];rw[e]) rfl
theorem PX {s:List UInt8} (hs:s.length<1000000) {h:Heap} {Q:aU→St→Prop}:∀(f i:Nat) (σ:ah),s.length-i<f→i≤s.length→σ.get 0=.str s→σ.get 3=.int .i64 i→
  (∀σ',(σ'.get 2=.bool false→(s.drop i).all qp=false→Q .ret ⟨σ',h⟩)∧((s.drop i).all qp=true→Q (.exit 0) ⟨σ',h⟩))→kz env Cq ⟨σ,h⟩ Q:=by
 intro f
 induction f with
 |zero=>intro i σ h1;omega
 |succ f ih=>
  intro i σ hf hi g0 g3 hQ;refine aC fun b hb=> ?_
  have nl:∀h,aN true h (.str s)=some ⟨.int .i64 s.length,h,.none⟩:=fun h=>rfl
  by_cases c1:i<s.length
  ·have z0:((i:Int)<(s.length:Int))=True:=eq_true (by omega)
   have zi:IntKind.wrap .i64 ((i:Int)+1)=((i+1:Nat):Int):=aX (by omega) (by omega)
   have hd:s.drop i=s[i]::s.drop (i+1):=List.drop_eq_getElem_cons c1
   have ix:=mM c1
   have wi:=Kp s[i]
   rw[hd,List.all_cons]at hQ
   cases z1:qp s[i]with
   |false=>
    rw[z1]at wi
    rw[z1,Bool.false_and]at hQ
    simp only[Cq,R4,Zg,afU,aw,reduceIte,Nat.reduceEqDiff,bj,bx,g0,g3,nl,z0,ix,ai (wi _),dm,Bool.not_false]
    exact(hQ _).1 (by simp only[aa,reduceIte,Nat.reduceEqDiff]) rfl
   |true=>
    rw[z1]at wi
    rw[z1,Bool.true_and]at hQ
    simp only[Cq,R4,Zg,afV,aw,reduceIte,Nat.reduceEqDiff,bj,bx,g0,g3,nl,z0,ix,ai (wi _),dm,Bool.not_true,zi]
    subst hb;refine ih (i+1) _ (by omega) (by omega) ?_ ?_ hQ
    ·simp only[aa,reduceIte,Nat.reduceEqDiff,g0]
    ·simp only[aa,reduceIte,Nat.reduceEqDiff]
  ·have z0:((i:Int)<(s.length:Int))=False:=eq_false (by omega)
   simp only[Cq,R4,aw,reduceIte,Nat.reduceEqDiff,g0,g3,nl,z0]
   exact(hQ _).2 (by rw[List.drop_of_length_le (by omega)];rfl)
theorem K7 (s:List UInt8) (hs:s.length<1000000):∃b,∀h,WC env 86 [.str s] h (fun o=>o=.ret ⟨.bool b,h,.none⟩):=by
 cases s with
 |nil=>exact⟨false,fun h=>bu (n:=30) (by kernel_rfl)⟩
 |cons c l=>
  have z:(c::l==([]:List UInt8))=false:=rfl
  have ix:Dd (.str (c::l)) (.int .i64 0)=some (.int .u8 (c.toNat:Int)):=mM (s:=c::l) (i:=0) (by simp)
  have ws:=PW c
  have wr:=CO (c::l)
  cases z1:Il c with
  |false=>
   rw[z1]at ws
   refine⟨false,fun h=>ad rfl rfl rfl rfl ?_⟩
   simp only[a86,R2,R3,Zf,ah.bbw,aw,reduceIte,Nat.reduceEqDiff,bj,bx,aD,z,ix,ai (ws _),dm,aL,Bool.not_false]
   exact jM (by simp only[aa,reduceIte,Nat.reduceEqDiff]) rfl
  |true=>
  rw[z1]at ws
  cases z2:words.contains (c::l)with
  |true=>
   rw[z2]at wr
   refine⟨false,fun h=>ad rfl rfl rfl rfl ?_⟩
   simp only[a86,R2,R3,Zf,ah.bbw,aw,reduceIte,Nat.reduceEqDiff,bj,bx,aD,z,ix,ai (ws _),ai (wr _),dm,aL,Bool.not_true]
   exact jM (by simp only[aa,reduceIte,Nat.reduceEqDiff]) rfl
  |false=>
  rw[z2]at wr
  refine⟨(c::l).all qp,fun h=>ad rfl rfl rfl rfl ?_⟩
  simp only[a86,R2,R3,afT,ah.bbw,aw,reduceIte,Nat.reduceEqDiff,bj,bx,aD,z,ix,ai (ws _),ai (wr _),dm,aL,Bool.not_true]
  refine PX (s:=c::l) hs ((c::l).length+1) 0 _ (by omega) (by omega) ?_ ?_ fun σ' =>⟨fun g e=> ?_,fun e=> ?_⟩
  ·simp only[aa,reduceIte,Nat.reduceEqDiff]
  ·simp only[aa,reduceIte,Nat.reduceEqDiff];rfl
  ·simp only[aw]
   exact jM g (by rw[List.drop_zero]at e;rw[e])
  ·rw[List.drop_zero]at e
   simp only[afW,aw,reduceIte]
   exact jM (by simp only[aa,reduceIte];rw[e]) rfl
end Go.Bf
namespace Go.Bf
open Go.AM
def wQ (c:UInt8):Bool:=decide (128≤c.toNat)&&decide (c.toNat≤191)
def yF (s:List UInt8):Nat→Nat→Bool
 |_,0=>true
 |j,m+1=>wQ (s.getD j 0)&&yF s (j+1) m
def PY (s:List UInt8):Nat→Nat→Nat→Nat
 |_,0,v=>v
 |j,m+1,v=>PY s (j+1) m (v*64+(s.getD j 0).toNat-128)
def xL:Nat→Nat→Bool
 |3,v=>decide (v<2048)||(decide (55296≤v)&&decide (v≤57343))
 |4,v=>decide (v<65536)||decide (1114111<v)
 |_,_=>false
def fB (s:List UInt8) (i n v:Nat):Nat:=if decide (i+n≤s.length)&&yF s (i+1) (n-1)&& !xL n (PY s (i+1) (n-1) v)then n else 0
def jJ (s:List UInt8) (i:Nat):Nat:=
 let c:=(s.getD i 0).toNat
 if c<128 then 1
 else if 194≤c∧c≤223 then fB s i 2 (c-192)
 else if 224≤c∧c≤239 then fB s i 3 (c-224)
 else if 240≤c∧c≤244 then fB s i 4 (c-240)
 else 0
theorem xM {s:List UInt8} {i:Nat} (hi:i<s.length):Dd (.str s) (.int .i64 i)=some (.int .u8 ((s.getD i 0).toNat:Int)):=by
 rw[mM hi,List.getD_eq_getElem?_getD,List.getElem?_eq_getElem hi];rfl
theorem Ae {n:Nat} (hn:n<256) (h:Heap):di h (.int .i64) (.int .u8 (n:Int))=some ⟨.int .i64 (n:Int),h,.none⟩:=by
 show some (⟨.int .i64 (IntKind.wrap .i64 (n:Int)),h,.none⟩:cB)=_
 rw[aX (e:=(n:Int)) rfl (by omega)]
theorem PZ {s:List UInt8} (hs:s.length<1000000) {i n:Nat} (hn:n≤4) (hin:i+n≤s.length) {h:Heap} {Q:aU→St→Prop}:∀(f k v:Nat) (σ:ah),n-k<f→1≤k→k≤n→v<64^k→σ.get 0=.str s→σ.get 1=.int .i64 i→σ.get 6=.int .i64 n→σ.get 7=.int .i64 v→σ.get 8=.int .i64 k→
  (∀σ',(σ'.get 4=.int .i64 0→yF s (i+k) (n-k)=false→Q .ret ⟨σ',h⟩)∧(σ'.get 6=.int .i64 n→σ'.get 7=.int .i64 (PY s (i+k) (n-k) v:Nat)→yF s (i+k) (n-k)=true→Q (.exit 1) ⟨σ',h⟩))→kz env jF ⟨σ,h⟩ Q:=by
 intro f
 induction f with
 |zero=>intro k v σ h1;omega
 |succ f ih=>
  intro k v σ hf hk1 hk hv g0 g1 g6 g7 g8 hQ;refine aC fun b hb=> ?_
  by_cases c1:k<n
  ·have z0:((k:Int)<(n:Int))=True:=eq_true (by omega)
   have zk:IntKind.wrap .i64 ((k:Int)+1)=((k+1:Nat):Int):=aX (by omega) (by omega)
   have zi:IntKind.wrap .i64 ((i:Int)+(k:Int))=((i+k:Nat):Int):=aX (by omega) (by omega)
   have ix:=xM (s:=s) (i:=i+k) (by omega)
   obtain⟨c,hc⟩:∃c,c=(s.getD (i+k) 0).toNat:=⟨_,rfl⟩
   have hc8:c<256:=by rw[hc];exact UInt8.toNat_lt _
   obtain⟨m,hm⟩:∃m,n-k=m+1:=⟨n-k-1,by omega⟩
   have hm' :n-(k+1)=m:=by omega
   rw[hm,yF,PY,←hc]at hQ
   rw[←hc]at ix
   have cb:wQ (s.getD (i+k) 0)=(decide (128≤c)&&decide (c≤191)):=by rw[wQ,←hc]
   rw[cb]at hQ
   by_cases c2:c<128
   ·have z2:((c:Int)<128)=True:=eq_true (by omega)
    rw[decide_eq_false (by omega),Bool.false_and,Bool.false_and]at hQ
    simp only[jF,wI,zV,zW,HX,aw,reduceIte,Nat.reduceEqDiff,bj,bx,g0,g1,g6,g8,z0,zi,ix,z2,aL]
    exact(hQ _).1 (by simp only[aa,reduceIte,Nat.reduceEqDiff]) rfl
   have z2:((c:Int)<128)=False:=eq_false (by omega)
   by_cases c3:c>191
   ·have z3:((c:Int)>191)=True:=eq_true (by omega)
    rw[decide_eq_false (show¬c≤191 by omega),Bool.and_false,Bool.false_and]at hQ
    simp only[jF,wI,zV,zW,HX,aw,reduceIte,Nat.reduceEqDiff,bj,bx,g0,g1,g6,g8,z0,zi,ix,z2,z3,aL]
    exact(hQ _).1 (by simp only[aa,reduceIte,Nat.reduceEqDiff]) rfl
   have z3:((c:Int)>191)=False:=eq_false (by omega)
   rw[decide_eq_true (show 128≤c by omega),decide_eq_true (show c≤191 by omega),Bool.true_and,Bool.true_and]at hQ
   have hp:64^k≤262144:=Nat.le_trans (Nat.pow_le_pow_right (by omega) (show k≤3 by omega)) (by decide)
   have hp1:64^(k+1)=64^k*64:=Nat.pow_succ ..
   have w1:IntKind.wrap .i64 ((v:Int)*64)=((v*64:Nat):Int):=aX (by omega) (by omega)
   have w2:IntKind.wrap .i64 (((v*64:Nat):Int)+(c:Int))=((v*64+c:Nat):Int):=aX (by omega) (by omega)
   have w3:IntKind.wrap .i64 (((v*64+c:Nat):Int)-128)=((v*64+c-128:Nat):Int):=aX (by omega) (by omega)
   simp only[jF,wI,zV,zW,R8,R9,aw,reduceIte,Nat.reduceEqDiff,bj,bx,g0,g1,g6,g7,g8,z0,zi,ix,z2,z3,aL,Ae hc8,w1,w2,w3,zk]
   subst hb;refine ih (k+1) (v*64+c-128) _ (by omega) (by omega) (by omega) (by omega) ?_ ?_ ?_ ?_ ?_ fun σ' => ?_
   ·simp only[aa,reduceIte,Nat.reduceEqDiff,g0]
   ·simp only[aa,reduceIte,Nat.reduceEqDiff,g1]
   ·simp only[aa,reduceIte,Nat.reduceEqDiff,g6]
   ·simp only[aa,reduceIte,Nat.reduceEqDiff]
   ·simp only[aa,reduceIte,Nat.reduceEqDiff]
   ·rw[hm',←Nat.add_assoc]
    exact hQ σ'
  ·have z0:((k:Int)<(n:Int))=False:=eq_false (by omega)
   have hm:n-k=0:=by omega
   rw[hm]at hQ
   simp only[jF,wI,aw,reduceIte,Nat.reduceEqDiff,g6,g8,z0]
   exact(hQ _).2 (by simp only[aa,reduceIte,Nat.reduceEqDiff,g6]) (by simp only[aa,reduceIte,Nat.reduceEqDiff,g7];rfl) rfl
theorem uP {s:List UInt8} (hs:s.length<1000000) {i n v:Nat} (hi:i<s.length) (hn:n=2∨n=3∨n=4) (hv:v<64) {h h' :Heap} {σ:ah} (g0:σ.get 0=.str s) (g1:σ.get 1=.int .i64 i) (g6:σ.get 6=.int .i64 n) (g7:σ.get 7=.int .i64 v):
  jK env (.seq (.seq (.ops sP) (.cond (.t 51) (.seq (.ops wG) .ret) .skip)) (.seq (.seq (.ops wH) (.block 1 (.loop jF))) (.seq (.seq (.ops iT) (.cond (.t 99) (.seq (.ops mQ) .ret) .skip)) (.seq (.ops mS) .ret)))) ⟨σ,h'⟩ (iB env [.tmp 4] h (fun o=>o=.ret ⟨.int .i64 (fB s i n v:Nat),h,.none⟩)):=by
 have nl:∀h,aN true h (.str s)=some ⟨.int .i64 s.length,h,.none⟩:=fun h=>rfl
 have zi:IntKind.wrap .i64 ((i:Int)+(n:Int))=((i+n:Nat):Int):=aX (by omega) (by omega)
 rw[cN]
 by_cases c1:i+n≤s.length
 case neg=>
  have z1:(((i+n:Nat):Int)>(s.length:Int))=True:=eq_true (by omega)
  have e:fB s i n v=0:=by rw[fB,decide_eq_false c1];rfl
  simp only[sP,wG,aw,reduceIte,Nat.reduceEqDiff,g0,g1,g6,nl,zi,z1]
  exact me (by simp only[aa,reduceIte,Nat.reduceEqDiff];rw[e];rfl) rfl
 have z1:(((i+n:Nat):Int)>(s.length:Int))=False:=eq_false (by omega)
 simp only[sP,wH,aw,reduceIte,Nat.reduceEqDiff,g0,g1,g6,nl,zi,z1]
 refine PZ hs (i:=i) (n:=n) (by omega) c1 n 1 v _ (by omega) (by omega) (by omega) (by simpa using hv) ?_ ?_ ?_ ?_ ?_ fun σ' =>⟨fun g e=> ?_,fun p6 p7 e=> ?_⟩
 ·simp only[aa,reduceIte,Nat.reduceEqDiff,g0]
 ·simp only[aa,reduceIte,Nat.reduceEqDiff,g1]
 ·simp only[aa,reduceIte,Nat.reduceEqDiff,g6]
 ·simp only[aa,reduceIte,Nat.reduceEqDiff,g7]
 ·simp only[aa,reduceIte,Nat.reduceEqDiff];rfl
 ·simp only[aw]
  have e:fB s i n v=0:=by rw[fB,e,Bool.and_false,Bool.false_and];rfl
  exact me (by rw[g,e];rfl) rfl
 ·obtain⟨x,hx⟩:∃x,x=PY s (i+1) (n-1) v:=⟨_,rfl⟩
  have e' :fB s i n v=if xL n x then 0 else n:=by
   rw[fB,decide_eq_true c1,e,←hx];cases xL n x<;>rfl
  rw[←hx]at p7
  rcases hn with rfl|rfl|rfl
  ·have p6:σ'.get 6=.int .i64 2:=p6
   have e:fB s i 2 v=2:=by rw[e'];rfl
   simp only[iT,mS,aE,aw,reduceIte,Nat.reduceEqDiff,p6,Int.reduceBEq,aL]
   exact me (by simp only[aa,reduceIte,Nat.reduceEqDiff];rw[e];rfl) rfl
  ·have p6:σ'.get 6=.int .i64 3:=p6
   by_cases d1:x<2048
   ·have y1:((x:Int)<2048)=True:=eq_true (by omega)
    have e:fB s i 3 v=0:=by rw[e',xL,decide_eq_true d1];rfl
    simp only[iT,mQ,aE,aw,reduceIte,Nat.reduceEqDiff,p6,p7,y1,Int.reduceBEq,aL]
    exact me (by simp only[aa,reduceIte,Nat.reduceEqDiff];rw[e];rfl) rfl
   have y1:((x:Int)<2048)=False:=eq_false (by omega)
   by_cases d2:55296≤x
   ·have y2:((x:Int)≥55296)=True:=eq_true (by omega)
    by_cases d3:x≤57343
    ·have y3:((x:Int)≤57343)=True:=eq_true (by omega)
     have e:fB s i 3 v=0:=by rw[e',xL,decide_eq_false d1,decide_eq_true d2,decide_eq_true d3];rfl
     simp only[iT,mQ,aE,aw,reduceIte,Nat.reduceEqDiff,p6,p7,y1,y2,y3,Int.reduceBEq,aL]
     exact me (by simp only[aa,reduceIte,Nat.reduceEqDiff];rw[e];rfl) rfl
    ·have y3:((x:Int)≤57343)=False:=eq_false (by omega)
     have e:fB s i 3 v=3:=by rw[e',xL,decide_eq_false d1,decide_eq_true d2,decide_eq_false d3];rfl
     simp only[iT,mS,aE,aw,reduceIte,Nat.reduceEqDiff,p6,p7,y1,y2,y3,Int.reduceBEq,aL]
     exact me (by simp only[aa,reduceIte,Nat.reduceEqDiff];rw[e];rfl) rfl
   ·have y2:((x:Int)≥55296)=False:=eq_false (by omega)
    have e:fB s i 3 v=3:=by rw[e',xL,decide_eq_false d1,decide_eq_false d2];rfl
    simp only[iT,mS,aE,aw,reduceIte,Nat.reduceEqDiff,p6,p7,y1,y2,Int.reduceBEq,aL]
    exact me (by simp only[aa,reduceIte,Nat.reduceEqDiff];rw[e];rfl) rfl
  ·have p6:σ'.get 6=.int .i64 4:=p6
   by_cases d1:x<65536
   ·have y1:((x:Int)<65536)=True:=eq_true (by omega)
    have e:fB s i 4 v=0:=by rw[e',xL,decide_eq_true d1];rfl
    simp only[iT,mQ,aE,aw,reduceIte,Nat.reduceEqDiff,p6,p7,y1,Int.reduceBEq,aL]
    exact me (by simp only[aa,reduceIte,Nat.reduceEqDiff];rw[e];rfl) rfl
   have y1:((x:Int)<65536)=False:=eq_false (by omega)
   by_cases d2:1114111<x
   ·have y2:((x:Int)>1114111)=True:=eq_true (by omega)
    have e:fB s i 4 v=0:=by rw[e',xL,decide_eq_false d1,decide_eq_true d2];rfl
    simp only[iT,mQ,aE,aw,reduceIte,Nat.reduceEqDiff,p6,p7,y1,y2,Int.reduceBEq,aL]
    exact me (by simp only[aa,reduceIte,Nat.reduceEqDiff];rw[e];rfl) rfl
   ·have y2:((x:Int)>1114111)=False:=eq_false (by omega)
    have e:fB s i 4 v=4:=by rw[e',xL,decide_eq_false d1,decide_eq_false d2];rfl
    simp only[iT,mS,aE,aw,reduceIte,Nat.reduceEqDiff,p6,p7,y1,y2,Int.reduceBEq,aL]
    exact me (by simp only[aa,reduceIte,Nat.reduceEqDiff];rw[e];rfl) rfl
theorem P0 {s:List UInt8} (hs:s.length<1000000) {i:Nat} (hi:i<s.length) (h:Heap):WC env 120 [.str s,.int .i64 i] h (fun o=>o=.ret ⟨.int .i64 (jJ s i:Nat),h,.none⟩):=by
 refine ad rfl rfl rfl rfl ?_
 have ix:=xM hi
 obtain⟨c,hc⟩:∃c,c=(s.getD i 0).toNat:=⟨_,rfl⟩
 have hc8:c<256:=by rw[hc];exact UInt8.toNat_lt _
 have ep:jJ s i=if c<128 then 1 else if 194≤c∧c≤223 then fB s i 2 (c-192)else if 224≤c∧c≤239 then fB s i 3 (c-224)else if 240≤c∧c≤244 then fB s i 4 (c-240)else 0:=by rw[jJ,←hc]
 rw[←hc]at ix
 have eb:ac1.body=(.seq (.ops rJ) (.seq (.ops rK) (.seq (.ops rL) (.seq (.ops rM) (.seq (.block 0 (.seq (.ops rN) (.cond (.t 13) (.seq (.ops Pk) .ret) (.seq (.ops uH) (.cond (.t 16) (.ops Pl) (.seq (.ops xE) (.cond (.t 26) (.ops Pm) (.seq (.ops wF) (.cond (.t 36) (.ops HW) (.seq (.ops zU) .ret)))))))))) (.seq (.seq (.ops sP) (.cond (.t 51) (.seq (.ops wG) .ret) .skip)) (.seq (.seq (.ops wH) (.block 1 (.loop jF))) (.seq (.seq (.ops iT) (.cond (.t 99) (.seq (.ops mQ) .ret) .skip)) (.seq (.ops mS) .ret))))))))):=rfl
 obtain⟨R,eR⟩:∃R,R=AC.seq (.seq (.ops sP) (.cond (.t 51) (.seq (.ops wG) .ret) .skip)) (.seq (.seq (.ops wH) (.block 1 (.loop jF))) (.seq (.seq (.ops iT) (.cond (.t 99) (.seq (.ops mQ) .ret) .skip)) (.seq (.ops mS) .ret))):=⟨_,rfl⟩
 rw[←eR]at eb
 rw[eb];have er:ac1.results=[.tmp 4]:=rfl
 rw[er]
 by_cases c1:c<128
 ·have z1:((c:Int)<128)=True:=eq_true (by omega)
  rw[ep,if_pos c1];simp only[rJ,rK,rL,rM,rN,Pk,ah.bbw,aw,reduceIte,Nat.reduceEqDiff,bj,bx,ix,z1]
  exact me (by simp only[aa,reduceIte,Nat.reduceEqDiff];rfl) rfl
 have z1:((c:Int)<128)=False:=eq_false (by omega)
 rw[ep,if_neg c1]
 by_cases c2:194≤c
 case neg=>
  have z2:((c:Int)≥194)=False:=eq_false (by omega)
  have z3:((c:Int)≥224)=False:=eq_false (by omega)
  have z4:((c:Int)≥240)=False:=eq_false (by omega)
  rw[if_neg (by omega),if_neg (by omega),if_neg (by omega)]
  simp only[rJ,rK,rL,rM,rN,uH,xE,wF,zU,ah.bbw,aw,reduceIte,Nat.reduceEqDiff,bj,bx,ix,z1,z2,z3,z4,aL]
  exact me (by simp only[aa,reduceIte,Nat.reduceEqDiff];rfl) rfl
 have z2:((c:Int)≥194)=True:=eq_true (by omega)
 by_cases c3:c≤223
 ·have z3:((c:Int)≤223)=True:=eq_true (by omega)
  have w1:IntKind.wrap .i64 ((c:Int)-192)=((c-192:Nat):Int):=aX (by omega) (by omega)
  rw[if_pos ⟨c2,c3⟩];simp only[rJ,rK,rL,rM,rN,uH,Pl,ah.bbw,aw,reduceIte,Nat.reduceEqDiff,bj,bx,ix,z1,z2,z3,aL,Ae hc8,w1]
  rw[eR];refine uP hs hi (.inl rfl) (by omega) ?_ ?_ ?_ ?_
  ·simp only[aa,reduceIte,Nat.reduceEqDiff]
  ·simp only[aa,reduceIte,Nat.reduceEqDiff]
  ·simp only[aa,reduceIte,Nat.reduceEqDiff];rfl
  ·simp only[aa,reduceIte,Nat.reduceEqDiff]
 have z3:((c:Int)≤223)=False:=eq_false (by omega)
 rw[if_neg (by omega)]
 have z4:((c:Int)≥224)=True:=eq_true (by omega)
 by_cases c4:c≤239
 ·have z5:((c:Int)≤239)=True:=eq_true (by omega)
  have w1:IntKind.wrap .i64 ((c:Int)-224)=((c-224:Nat):Int):=aX (by omega) (by omega)
  rw[if_pos ⟨by omega,c4⟩];simp only[rJ,rK,rL,rM,rN,uH,xE,Pm,ah.bbw,aw,reduceIte,Nat.reduceEqDiff,bj,bx,ix,z1,z2,z3,z4,z5,aL,Ae hc8,w1]
  rw[eR];refine uP hs hi (.inr (.inl rfl)) (by omega) ?_ ?_ ?_ ?_
  ·simp only[aa,reduceIte,Nat.reduceEqDiff]
  ·simp only[aa,reduceIte,Nat.reduceEqDiff]
  ·simp only[aa,reduceIte,Nat.reduceEqDiff];rfl
  ·simp only[aa,reduceIte,Nat.reduceEqDiff]
 have z5:((c:Int)≤239)=False:=eq_false (by omega)
 rw[if_neg (by omega)]
 have z6:((c:Int)≥240)=True:=eq_true (by omega)
 by_cases c5:c≤244
 ·have z7:((c:Int)≤244)=True:=eq_true (by omega)
  have w1:IntKind.wrap .i64 ((c:Int)-240)=((c-240:Nat):Int):=aX (by omega) (by omega)
  rw[if_pos ⟨by omega,c5⟩];simp only[rJ,rK,rL,rM,rN,uH,xE,wF,HW,ah.bbw,aw,reduceIte,Nat.reduceEqDiff,bj,bx,ix,z1,z2,z3,z4,z5,z6,z7,aL,Ae hc8,w1]
  rw[eR];refine uP hs hi (.inr (.inr rfl)) (by omega) ?_ ?_ ?_ ?_
  ·simp only[aa,reduceIte,Nat.reduceEqDiff]
  ·simp only[aa,reduceIte,Nat.reduceEqDiff]
  ·simp only[aa,reduceIte,Nat.reduceEqDiff];rfl
  ·simp only[aa,reduceIte,Nat.reduceEqDiff]
 have z7:((c:Int)≤244)=False:=eq_false (by omega)
 rw[if_neg (by omega)]
 simp only[rJ,rK,rL,rM,rN,uH,xE,wF,zU,ah.bbw,aw,reduceIte,Nat.reduceEqDiff,bj,bx,ix,z1,z2,z3,z4,z5,z6,z7,aL]
 exact me (by simp only[aa,reduceIte,Nat.reduceEqDiff];rfl) rfl
end Go.Bf
namespace Go.Bf
open Go.AM
theorem Sx (s:List UInt8) (j:Nat):(⟨s.toArray⟩:ByteArray).get! j=s.getD j 0:=by
 show s.toArray[j]! =_
 rw[List.getElem!_toArray,List.getElem!_eq_getElem?_getD,List.getD_eq_getElem?_getD];rfl
theorem aaP (s:List UInt8):(⟨s.toArray⟩:ByteArray).size=s.length:=rfl
theorem Im {s:List UInt8} {i:Nat} (hi:i<s.length):
  ((Utf8.decode ⟨s.toArray⟩ i).1=65533∧(Utf8.decode ⟨s.toArray⟩ i).2<2→jJ s i=0)∧
  (¬((Utf8.decode ⟨s.toArray⟩ i).1=65533∧(Utf8.decode ⟨s.toArray⟩ i).2<2)→jJ s i=(Utf8.decode ⟨s.toArray⟩ i).2∧jJ s i≠0):=by
 have e0:∀k,((⟨s.toArray⟩:ByteArray).get! (i+k)).toNat=(s.getD (i+k) 0).toNat:=fun k=>by rw[Sx]
 obtain⟨a,ha⟩:∃a,a=(s.getD i 0).toNat:=⟨_,rfl⟩
 obtain⟨b,hb⟩:∃b,b=(s.getD (i+1) 0).toNat:=⟨_,rfl⟩
 obtain⟨c,hc⟩:∃c,c=(s.getD (i+2) 0).toNat:=⟨_,rfl⟩
 obtain⟨d,hd⟩:∃d,d=(s.getD (i+3) 0).toNat:=⟨_,rfl⟩
 have a8:a<256:=by rw[ha];exact UInt8.toNat_lt _
 have b8:b<256:=by rw[hb];exact UInt8.toNat_lt _
 have c8:c<256:=by rw[hc];exact UInt8.toNat_lt _
 have d8:d<256:=by rw[hd];exact UInt8.toNat_lt _
 have ed:Utf8.decode ⟨s.toArray⟩ i=(
  if a<0x80 then(a,1)
  else if a/32==6&&(decide (i+1<s.length)&&b/64==2)then
   let c:=(a % 32)*64+b % 64
   if c≥0x80 then(c,2)else(Utf8.runeError,1)
  else if a/16==14&&(decide (i+1<s.length)&&b/64==2)&&(decide (i+2<s.length)&&c/64==2)then
   let c:=(a % 16)*4096+(b % 64)*64+c % 64
   if c≥0x800&&Utf8.valid c then(c,3)else(Utf8.runeError,1)
  else if a/8==30&&(decide (i+1<s.length)&&b/64==2)&&(decide (i+2<s.length)&&c/64==2)&&(decide (i+3<s.length)&&d/64==2)then
   let c:=(a % 8)*262144+(b % 64)*4096+(c % 64)*64+d % 64
   if c≥0x10000&&Utf8.valid c then(c,4)else(Utf8.runeError,1)
  else(Utf8.runeError,1)):=by
  have e00:((⟨s.toArray⟩:ByteArray).get! i).toNat=a:=by rw[Sx,ha]
  unfold Utf8.decode
  simp only[e0,e00,aaP,Nat.add_zero,←hb,←hc,←hd]
 have k1:wQ (s.getD (i+1) 0)=(decide (128≤b)&&decide (b≤191)):=by rw[wQ,←hb]
 have k2:wQ (s.getD (i+2) 0)=(decide (128≤c)&&decide (c≤191)):=by rw[wQ,←hc]
 have k3:wQ (s.getD (i+3) 0)=(decide (128≤d)&&decide (d≤191)):=by rw[wQ,←hd]
 have ep:jJ s i=if a<128 then 1 else if 194≤a∧a≤223 then fB s i 2 (a-192)else if 224≤a∧a≤239 then fB s i 3 (a-224)else if 240≤a∧a≤244 then fB s i 4 (a-240)else 0:=by rw[jJ,←ha]
 have r2:∀v,fB s i 2 v=if i+2≤s.length∧128≤b∧b≤191 then 2 else 0:=by
  intro v;simp only[fB,yF,k1,xL,Nat.add_one_sub_one,Bool.and_true,Bool.not_false,Bool.and_eq_true,decide_eq_true_eq]
 have r3:∀v,fB s i 3 v=if i+3≤s.length∧(128≤b∧b≤191)∧(128≤c∧c≤191)∧¬((v*64+b-128)*64+c-128<2048∨(55296≤(v*64+b-128)*64+c-128∧(v*64+b-128)*64+c-128≤57343))then 3 else 0:=by
  intro v;simp only[fB,yF,PY,k1,k2,xL,Nat.add_assoc,Nat.reduceAdd,←hb,←hc,Nat.add_one_sub_one,Bool.and_true,Bool.not_eq_true',Bool.and_eq_true,decide_eq_true_eq,Bool.or_eq_false_iff,Bool.and_eq_false_iff,decide_eq_false_iff_not]
  congr 1
  refine propext ⟨?_,?_⟩<;>omega
 have r4:∀v,fB s i 4 v=if i+4≤s.length∧(128≤b∧b≤191)∧(128≤c∧c≤191)∧(128≤d∧d≤191)∧¬(((v*64+b-128)*64+c-128)*64+d-128<65536∨1114111<((v*64+b-128)*64+c-128)*64+d-128)then 4 else 0:=by
  intro v;simp only[fB,yF,PY,k1,k2,k3,xL,Nat.add_assoc,Nat.reduceAdd,←hb,←hc,←hd,Nat.add_one_sub_one,Bool.and_true,Bool.not_eq_true',Bool.and_eq_true,decide_eq_true_eq,Bool.or_eq_false_iff,decide_eq_false_iff_not]
  congr 1
  refine propext ⟨?_,?_⟩<;>omega
 rw[ed,ep,r2,r3,r4];have vl:∀x:Nat,Utf8.valid (x:Int)=true↔(x<0xD800∨(0xE000≤x∧x≤0x10FFFF)):=by
  intro x;simp only[Utf8.valid,Bool.or_eq_true,Bool.and_eq_true,decide_eq_true_eq]
  omega
 simp only[Bool.and_eq_true,beq_iff_eq,decide_eq_true_eq,vl,Utf8.runeError,ge_iff_le]
 clear ed ep r2 r3 r4 vl k1 k2 k3 e0 ha hb hc hd
 by_cases h1:a<128
 ·rw[if_pos h1,if_pos h1];simp;omega
 rw[if_neg h1,if_neg h1]
 by_cases h2:a/32=6∧i+1<s.length∧b/64=2
 ·rw[if_pos h2]
  by_cases h3:128≤a % 32*64+b % 64
  ·rw[if_pos h3,if_pos (by omega),if_pos (by omega)];simp
  ·rw[if_neg h3,if_neg (by omega),if_neg (by omega),if_neg (by omega)];simp
 rw[if_neg h2]
 by_cases h4:(a/16=14∧i+1<s.length∧b/64=2)∧i+2<s.length∧c/64=2
 ·rw[if_pos h4]
  by_cases h5:2048≤a % 16*4096+b % 64*64+c % 64∧(a % 16*4096+b % 64*64+c % 64<0xD800∨(0xE000≤a % 16*4096+b % 64*64+c % 64∧a % 16*4096+b % 64*64+c % 64≤0x10FFFF))
  ·rw[if_pos h5,if_neg (by omega),if_pos (by omega),if_pos (by omega)];simp
  ·rw[if_neg h5,if_neg (by omega),if_pos (by omega),if_neg (by omega)];simp
 rw[if_neg h4]
 by_cases h6:((a/8=30∧i+1<s.length∧b/64=2)∧i+2<s.length∧c/64=2)∧i+3<s.length∧d/64=2
 ·rw[if_pos h6]
  by_cases h7:65536≤a % 8*262144+b % 64*4096+c % 64*64+d % 64∧(a % 8*262144+b % 64*4096+c % 64*64+d % 64<0xD800∨(0xE000≤a % 8*262144+b % 64*4096+c % 64*64+d % 64∧a % 8*262144+b % 64*4096+c % 64*64+d % 64≤0x10FFFF))
  ·rw[if_pos h7,if_neg (by omega),if_neg (by omega),if_pos (by omega),if_pos (by omega)];simp
  ·rw[if_neg h7,if_neg (by omega),if_neg (by omega)]
   by_cases h8:240≤a∧a≤244
   ·rw[if_pos h8,if_neg (by omega)];simp
   ·rw[if_neg h8];simp
 rw[if_neg h6];have hz:(if 194≤a∧a≤223 then if i+2≤s.length∧128≤b∧b≤191 then 2 else 0
   else if 224≤a∧a≤239 then if i+3≤s.length∧(128≤b∧b≤191)∧(128≤c∧c≤191)∧¬(((a-224)*64+b-128)*64+c-128<2048∨55296≤((a-224)*64+b-128)*64+c-128∧((a-224)*64+b-128)*64+c-128≤57343)then 3 else 0
   else if 240≤a∧a≤244 then if i+4≤s.length∧(128≤b∧b≤191)∧(128≤c∧c≤191)∧(128≤d∧d≤191)∧¬((((a-240)*64+b-128)*64+c-128)*64+d-128<65536∨1114111<(((a-240)*64+b-128)*64+c-128)*64+d-128)then 4 else 0
   else 0)=0:=by
  split
  ·rw[if_neg (by omega)]
  split
  ·rw[if_neg (by omega)]
  split
  ·rw[if_neg (by omega)]
  ·rfl
 refine⟨fun _=>hz,fun h=>absurd ⟨rfl,by decide⟩ h⟩
theorem aaQ {s:List UInt8} (hs:s.length<1000000) {h:Heap} {Q:aU→St→Prop}:∀(f i:Nat) (σ:ah),s.length-i<f→σ.get 0=.str s→σ.get 3=.int .i64 i→i<s.length+4→
  (∀σ',(σ'.get 2=.int .i64 (cj s f i)→Q .ret ⟨σ',h⟩)∧(cj s f i= -1→Q (.exit 0) ⟨σ',h⟩))→kz env Cp ⟨σ,h⟩ Q:=by
 intro f
 induction f with
 |zero=>intro i σ h1;omega
 |succ f ih=>
  intro i σ hf g0 g3 hb4 hQ;refine aC fun b hb=> ?_
  have nl:∀h,aN true h (.str s)=some ⟨.int .i64 s.length,h,.none⟩:=fun h=>rfl
  by_cases c1:i<s.length
  ·have z0:((i:Int)<(s.length:Int))=True:=eq_true (by omega)
   have dp:=Im c1
   have wp:=P0 hs c1
   rw[cj,if_pos c1]at hQ
   have p4:jJ s i≤4:=by
    rw[jJ];have:∀n v,fB s i n v≤n:=fun n v=>by rw[fB];split<;>omega
    have t2:=this 2 ((s.getD i 0).toNat-192)
    have t3:=this 3 ((s.getD i 0).toNat-224)
    have t4:=this 4 ((s.getD i 0).toNat-240)
    split
    ·omega
    split
    ·omega
    split
    ·omega
    split
    ·omega
    ·omega
   by_cases c2:(Utf8.decode ⟨s.toArray⟩ i).1=65533∧(Utf8.decode ⟨s.toArray⟩ i).2<2
   ·have e:=dp.1 c2
    rw[if_pos c2]at hQ
    rw[e]at wp
    have wp:∀h,WC env 120 [.str s,.int .i64 i] h (fun o=>o=.ret ⟨.int .i64 0,h,.none⟩):=wp
    simp only[Cp,R1,Zd,Ze,afQ,aw,reduceIte,Nat.reduceEqDiff,g0,g3,nl,z0,ai (wp _),Int.reduceBEq]
    exact(hQ _).1 (by simp only[aa,reduceIte,Nat.reduceEqDiff])
   ·obtain⟨e,e2⟩:=dp.2 c2
    rw[if_neg c2,←e]at hQ
    have z1:((jJ s i:Int)==0)=false:=by simp;omega
    have zi:IntKind.wrap .i64 ((i:Int)+(jJ s i:Int))=((i+jJ s i:Nat):Int):=aX (by omega) (by omega)
    simp only[Cp,R1,Zd,Ze,afR,aw,reduceIte,Nat.reduceEqDiff,g0,g3,nl,z0,ai (wp _),z1,zi]
    subst hb;refine ih (i+jJ s i) _ (by omega) ?_ ?_ (by omega) hQ
    ·simp only[aa,reduceIte,Nat.reduceEqDiff,g0]
    ·simp only[aa,reduceIte,Nat.reduceEqDiff]
  ·have z0:((i:Int)<(s.length:Int))=False:=eq_false (by omega)
   rw[cj,if_neg c1]at hQ
   simp only[Cp,R1,aw,reduceIte,Nat.reduceEqDiff,g0,g3,nl,z0]
   exact(hQ _).2 rfl
theorem aaR (s:List UInt8) (hs:s.length<1000000) (h:Heap):WC env 85 [.str s] h (fun o=>o=.ret ⟨.int .i64 (cj s (s.length+1) 0),h,.none⟩):=by
 refine ad rfl rfl rfl rfl ?_
 simp only[a85,afO,afP,ah.bbw,aw]
 refine aaQ hs (s.length+1) 0 _ (by omega) ?_ ?_ (by omega) fun σ' =>⟨fun g=> ?_,fun e=> ?_⟩
 ·simp only[aa,reduceIte,Nat.reduceEqDiff]
 ·simp only[aa,reduceIte,Nat.reduceEqDiff];rfl
 ·simp only[aw]
  exact me g rfl
 ·simp only[afS,aw,reduceIte]
  exact me (by simp only[aa,reduceIte];rw[e]) rfl
end Go.Bf
namespace Go.Bf
open Go.AM
def iK:Option (Int×Int)→AV
 |none=>.ax
 |some (p,c)=>.fs true 1 [.str [97,116,111,109],.int .i64 p,.int .i64 c]
theorem pQ (p c:Int) (h:Heap):WC env 84 [.int .i64 p,.int .i64 c] h (fun o=>o=.ret ⟨iK (some (p,c)),h,.none⟩):=bu (n:=30) (by kernel_rfl)
def agm (c:Nat):Bool:=match kx .quo (.int .u8 c) (.int .u8 16)with
 |some (.int .u8 j)=>j==(c/16:Nat)
 |_=>false
def agn (c:Nat):Bool:=match kx .rem (.int .u8 c) (.int .u8 16)with
 |some (.int .u8 j)=>j==(c % 16:Nat)
 |_=>false
theorem adI:(List.range 256).all agm=true:=by kernel_rfl
theorem adJ:(List.range 256).all agn=true:=by kernel_rfl
theorem ajO {c:Nat} (h:c<256):kx .quo (.int .u8 c) (.int .u8 16)=some (.int .u8 ((c/16:Nat):Int)):=by
 have:=List.all_eq_true.1 adI c (List.mem_range.2 h)
 unfold agm at this
 split at this
 ·rename_i j e;rw[e];have:j=((c/16:Nat):Int):=by simpa using this
  rw[this]
 ·cases this
theorem ajP {c:Nat} (h:c<256):kx .rem (.int .u8 c) (.int .u8 16)=some (.int .u8 ((c % 16:Nat):Int)):=by
 have:=List.all_eq_true.1 adJ c (List.mem_range.2 h)
 unfold agn at this
 split at this
 ·rename_i j e;rw[e];have:j=((c % 16:Nat):Int):=by simpa using this
  rw[this]
 ·cases this
theorem Io {s:List UInt8} {Q:aU→St→Prop} {h:Heap} {σ:ah} {v:AV} {bs:List UInt8} {i:Nat} (hi:i<s.length) (hs:s.length≤255) (ho:an h) (k:Acc h 1 v (bs.map bK)) (hl:bs.length≤1+4*i)
  (g0:σ.get 0=.str s) (g5:σ.get 5=v) (g6:σ.get 6=.int .i64 i)
  (hQ:∀(σ' :ah) (h' :Heap) (v' :AV) (bs' :List UInt8),an h' →Acc h' 1 v' (bs'.map bK)→bs'.length≤1+4*(i+1)→σ'.get 0=.str s→σ'.get 5=v' →σ'.get 6=.int .i64 ((i+1:Nat):Int)→Q .norm ⟨σ',h'⟩):jK env wC ⟨σ,h⟩ Q:=by
 have z0:((i:Int)<(s.length:Int))=True:=eq_true (by omega)
 have zi:IntKind.wrap .i64 ((i:Int)+1)=((i+1:Nat):Int):=aX (by omega) (by omega)
 have en:∀h,aN true h (.str s)=some ⟨.int .i64 s.length,h,.none⟩:=fun h=>rfl
 have ix:=xM hi
 obtain⟨cb,hcb⟩:∃cb:UInt8,cb=s.getD i 0:=⟨_,rfl⟩
 obtain⟨c,hc⟩:∃c,c=cb.toNat:=⟨_,rfl⟩
 have hc8:c<256:=by rw[hc];exact cb.toNat_lt
 rw[←hcb,←hc]at ix
 have el:wC=(.seq (.seq (.ops l_) (.cond (.t 25) .skip (.exit 0))) (.seq (.block 1 (.seq (.ops nN) (.block 2 (.seq (.ops nO) (.cond (.t 35) (.ops Hl) (.seq (.ops rI) (.cond (.t 46) (.ops N7) (.seq (.ops uD) (.cond (.t 52) (.ops N8) (.seq (.ops xB) (.cond (.t 58) (.ops N9) (.seq (.ops Ch) (.cond (.t 64) (.draw Hm Hn) (.ops N_)))))))))))))) (.ops Ci))):=rfl
 have fin:∀(σ2:ah) (h2:Heap) (v2:AV) (nb:List UInt8),nb.length≤4→an h2→Acc h2 1 v2 ((bs++nb).map bK)→σ2.get 5=v2→σ2.get 0=σ.get 0→σ2.get 6=σ.get 6→rW env Ci ⟨σ2,h2⟩ Q:=by
  intro σ2 h2 v2 nb hnb ho2 k2 p5 p0 p6;rw[g0]at p0
  rw[g6]at p6
  simp only[Ci,aw,reduceIte,Nat.reduceEqDiff,p6,zi]
  refine hQ _ h2 v2 (bs++nb) ho2 k2 (by simp;omega) ?_ ?_ ?_
  ·simp only[aa,reduceIte,Nat.reduceEqDiff,p0]
  ·simp only[aa,reduceIte,Nat.reduceEqDiff,p5]
  ·simp only[aa,reduceIte,Nat.reduceEqDiff]
 have gr:=fun(x:AV) (nb:List UInt8) (h1:cr x=some nb.length) (h2:aT h 1 nb.length x=some (nb.map bK,.none)) (h3:nb.length≤4)=>grow ho (w:=.ax) (s:=[]) k h1 h2 .ax (fun id e=>by simp[AV.own]) (by omega)
 rw[el,cN]
 by_cases q39:c=39
 ·have z39:((c:Int)==39)=true:=by simp[q39]
  obtain⟨v2,h2,c2,w1,ho2,k2,_,_⟩:=gr (.fs true 2 [.int .u8 92,.int .u8 (c:Int)]) [92,cb] rfl (by rw[hc];rfl) (by simp)
  have y1:bY [.int .u8 0,.int .u8 0] [(0,1,.int .u8 92),(1,1,.int .u8 (c:Int))]=some [.int .u8 92,.int .u8 (c:Int)]:=rfl
  have y2:([AV.int .u8 92,.int .u8 (c:Int)]:List AV).length=2:=rfl
  simp only[l_,nN,nO,Hl,aw,reduceIte,Nat.reduceEqDiff,iC c2,bj,bx,aL,g0,g5,g6,en,z0,ix,z39,y1,y2,w1]
  refine fin _ h2 v2 [92,cb] (by simp) ho2 k2 ?_ ?_ ?_<;>simp only[aa,reduceIte,Nat.reduceEqDiff]
 have z39:((c:Int)==39)=false:=by simp;omega
 by_cases q92:c=92
 ·have z92:((c:Int)==92)=true:=by simp[q92]
  obtain⟨v2,h2,c2,w1,ho2,k2,_,_⟩:=gr (.fs true 2 [.int .u8 92,.int .u8 (c:Int)]) [92,cb] rfl (by rw[hc];rfl) (by simp)
  have y1:bY [.int .u8 0,.int .u8 0] [(0,1,.int .u8 92),(1,1,.int .u8 (c:Int))]=some [.int .u8 92,.int .u8 (c:Int)]:=rfl
  have y2:([AV.int .u8 92,.int .u8 (c:Int)]:List AV).length=2:=rfl
  simp only[l_,nN,nO,Hl,aw,reduceIte,Nat.reduceEqDiff,iC c2,bj,bx,aL,g0,g5,g6,en,z0,ix,z39,z92,y1,y2,w1]
  refine fin _ h2 v2 [92,cb] (by simp) ho2 k2 ?_ ?_ ?_<;>simp only[aa,reduceIte,Nat.reduceEqDiff]
 have z92:((c:Int)==92)=false:=by simp;omega
 by_cases q10:c=10
 ·have z10:((c:Int)==10)=true:=by simp[q10]
  obtain⟨v2,h2,c2,w1,ho2,k2,_,_⟩:=gr (.fs true 2 [.int .u8 92,.int .u8 110]) [92,110] rfl rfl (by decide)
  have y1:bY [.int .u8 0,.int .u8 0] [(0,1,.int .u8 92),(1,1,.int .u8 110)]=some [.int .u8 92,.int .u8 110]:=rfl
  have y2:([AV.int .u8 92,.int .u8 110]:List AV).length=2:=rfl
  simp only[l_,nN,nO,rI,N7,aw,reduceIte,Nat.reduceEqDiff,iC c2,bj,bx,aL,g0,g5,g6,en,z0,ix,z39,z92,z10,y1,y2,w1]
  refine fin _ h2 v2 [92,110] (by decide) ho2 k2 ?_ ?_ ?_<;>simp only[aa,reduceIte,Nat.reduceEqDiff]
 have z10:((c:Int)==10)=false:=by simp;omega
 by_cases q9:c=9
 ·have z9:((c:Int)==9)=true:=by simp[q9]
  obtain⟨v2,h2,c2,w1,ho2,k2,_,_⟩:=gr (.fs true 2 [.int .u8 92,.int .u8 116]) [92,116] rfl rfl (by decide)
  have y1:bY [.int .u8 0,.int .u8 0] [(0,1,.int .u8 92),(1,1,.int .u8 116)]=some [.int .u8 92,.int .u8 116]:=rfl
  have y2:([AV.int .u8 92,.int .u8 116]:List AV).length=2:=rfl
  simp only[l_,nN,nO,rI,uD,N8,aw,reduceIte,Nat.reduceEqDiff,iC c2,bj,bx,aL,g0,g5,g6,en,z0,ix,z39,z92,z10,z9,y1,y2,w1]
  refine fin _ h2 v2 [92,116] (by decide) ho2 k2 ?_ ?_ ?_<;>simp only[aa,reduceIte,Nat.reduceEqDiff]
 have z9:((c:Int)==9)=false:=by simp;omega
 by_cases q13:c=13
 ·have z13:((c:Int)==13)=true:=by simp[q13]
  obtain⟨v2,h2,c2,w1,ho2,k2,_,_⟩:=gr (.fs true 2 [.int .u8 92,.int .u8 114]) [92,114] rfl rfl (by decide)
  have y1:bY [.int .u8 0,.int .u8 0] [(0,1,.int .u8 92),(1,1,.int .u8 114)]=some [.int .u8 92,.int .u8 114]:=rfl
  have y2:([AV.int .u8 92,.int .u8 114]:List AV).length=2:=rfl
  simp only[l_,nN,nO,rI,uD,xB,N9,aw,reduceIte,Nat.reduceEqDiff,iC c2,bj,bx,aL,g0,g5,g6,en,z0,ix,z39,z92,z10,z9,z13,y1,y2,w1]
  refine fin _ h2 v2 [92,114] (by decide) ho2 k2 ?_ ?_ ?_<;>simp only[aa,reduceIte,Nat.reduceEqDiff]
 have z13:((c:Int)==13)=false:=by simp;omega
 have hex:∀{σ2:ah},σ2.get 5=v→σ2.get 7=.int .u8 (c:Int)→σ2.get 0=σ.get 0→σ2.get 6=σ.get 6→jK env (.draw Hm Hn) ⟨σ2,h⟩ (jt 2 (jt 1 (uV env (.ops Ci) Q))):=by
  intro σ2 p5 p7 p0 p6;obtain⟨v2,h2,c2,w1,ho2,k2,_,_⟩:=gr (.fs true 4 [.int .u8 92,.int .u8 120,.int .u8 (gB (c/16)).toNat,.int .u8 (gB (c % 16)).toNat]) [92,120,gB (c/16),gB (c % 16)] rfl rfl (by simp)
  have f1:=ajO hc8
  have f2:=ajP hc8
  have f3:=Ad (i:=c/16) (by omega)
  have f4:=Ad (i:=c % 16) (by omega)
  have y1:bY [.int .u8 0,.int .u8 0,.int .u8 0,.int .u8 0] [(0,1,.int .u8 92),(1,1,.int .u8 120),(2,1,.int .u8 (gB (c/16)).toNat),(3,1,.int .u8 (gB (c % 16)).toNat)]=some [.int .u8 92,.int .u8 120,.int .u8 (gB (c/16)).toNat,.int .u8 (gB (c % 16)).toNat]:=rfl
  have y2:([AV.int .u8 92,.int .u8 120,.int .u8 (gB (c/16)).toNat,.int .u8 (gB (c % 16)).toNat]:List AV).length=4:=rfl
  refine aB ?_
  simp only[Hm,sz4,reduceIte,Nat.reduceEqDiff,k3,iC c2,bj,bx,p5,p7,f1,f2,f3,f4,y1,y2,w1]
  refine⟨by cases c2<;>rfl,?_⟩
  refine fin _ h2 v2 [92,120,gB (c/16),gB (c % 16)] (by simp) ho2 k2 ?_ ?_ ?_<;>simp only[aa,reduceIte,Nat.reduceEqDiff,p0,p6]
 by_cases q32:(c:Int)<32
 ·have z32:((c:Int)<32)=True:=eq_true q32
  simp only[l_,nN,nO,rI,uD,xB,Ch,aw,reduceIte,Nat.reduceEqDiff,bj,bx,aL,g0,g6,en,z0,ix,z39,z92,z10,z9,z13,z32]
  refine hex ?_ ?_ ?_ ?_<;>simp only[aa,reduceIte,Nat.reduceEqDiff,g5,g0,g6]
 have z32:((c:Int)<32)=False:=eq_false q32
 by_cases q127:c=127
 ·have z127:((c:Int)==127)=true:=by simp[q127]
  simp only[l_,nN,nO,rI,uD,xB,Ch,aw,reduceIte,Nat.reduceEqDiff,bj,bx,aL,g0,g6,en,z0,ix,z39,z92,z10,z9,z13,z32,z127]
  refine hex ?_ ?_ ?_ ?_<;>simp only[aa,reduceIte,Nat.reduceEqDiff,g5,g0,g6]
 have z127:((c:Int)==127)=false:=by simp;omega
 obtain⟨v2,h2,c2,w1,ho2,k2,_,_⟩:=gr (.fs true 1 [.int .u8 (c:Int)]) [cb] rfl (by rw[hc];rfl) (by simp)
 have y1:bY [.int .u8 0] [(0,1,.int .u8 (c:Int))]=some [.int .u8 (c:Int)]:=rfl
 have y2:([AV.int .u8 (c:Int)]:List AV).length=1:=rfl
 simp only[l_,nN,nO,rI,uD,xB,Ch,N_,aw,reduceIte,Nat.reduceEqDiff,iC c2,bj,bx,aL,g0,g5,g6,en,z0,ix,z39,z92,z10,z9,z13,z32,z127,y1,y2,w1]
 refine fin _ h2 v2 [cb] (by simp) ho2 k2 ?_ ?_ ?_<;>simp only[aa,reduceIte,Nat.reduceEqDiff]
theorem K8 {s:List UInt8} {Q:aU→St→Prop} (hs:s.length≤255):∀(f i:Nat) (h:Heap) (σ:ah) (v:AV) (bs:List UInt8),s.length-i<f→i≤s.length→an h→Acc h 1 v (bs.map bK)→bs.length≤1+4*i→σ.get 0=.str s→σ.get 5=v→σ.get 6=.int .i64 i→
  (∀(σ' :ah) (h' :Heap) (v' :AV) (bs' :List UInt8),an h' →Acc h' 1 v' (bs'.map bK)→bs'.length≤1+4*s.length→σ'.get 5=v' →Q (.exit 0) ⟨σ',h'⟩)→kz env wC ⟨σ,h⟩ Q:=by
 intro f
 induction f with
 |zero=>intro i h σ v bs h1;omega
 |succ f ih=>
  intro i h σ v bs hf hi ho k hl g0 g5 g6 hQ
  by_cases c1:i<s.length
  ·refine aC fun b hb=>Io c1 hs ho k hl g0 g5 g6 fun σ' h' v' bs' ho' k' hl' p0 p5 p6=> ?_
   subst hb;exact ih (i+1) h' σ' v' bs' (by omega) (by omega) ho' k' hl' p0 p5 p6 hQ
  ·refine aC fun b hb=> ?_
   have en:∀h,aN true h (.str s)=some ⟨.int .i64 s.length,h,.none⟩:=fun h=>rfl
   have z0:((i:Int)<(s.length:Int))=False:=eq_false (by omega)
   simp only[wC,l_,aw,reduceIte,Nat.reduceEqDiff,g0,g6,en,z0]
   refine hQ _ h v bs ho k (by omega) ?_
   simp only[aa,reduceIte,Nat.reduceEqDiff,g5]
theorem KC (s:List UInt8) (h:Heap):WC env 50 [.str s] h (fun o=>∃q,o=.ret ⟨.aF [.str q,iK (dO s)],h,.none⟩):=by
 refine ad rfl rfl rfl rfl ?_
 have en:∀h,aN true h (.str s)=some ⟨.int .i64 s.length,h,.none⟩:=fun h=>rfl
 by_cases c1:255<s.length
 ·have z1:((s.length:Int)>255)=True:=eq_true (by omega)
  have e:dO s=some (0,4):=by rw[dO,if_pos c1]
  simp only[a50,KH,KI,afq,ah.bbw,aw,reduceIte,Nat.reduceEqDiff,en,z1,ai (pQ _ _ _)]
  refine⟨[.str [],iK (some (0,4))],.aF [.str [],iK (some (0,4))],by simp only[Env.results,Option.map_some,aa,reduceIte,Nat.reduceEqDiff],(ay (v:=.aF [.str [],iK (some (0,4))]) rfl).2 rfl,_,by rw[e]⟩
 have z1:((s.length:Int)>255)=False:=eq_false (by omega)
 have wu:=aaR s (by omega)
 by_cases c2:0≤cj s (s.length+1) 0
 ·have z2:(cj s (s.length+1) 0≥0)=True:=eq_true c2
  have e:dO s=some (cj s (s.length+1) 0,23):=by rw[dO,if_neg c1,if_pos c2]
  simp only[a50,KH,KI,RQ,RR,afr,ah.bbw,aw,reduceIte,Nat.reduceEqDiff,en,z1,ai (wu _),z2,ai (pQ _ _ _)]
  refine⟨[.str [],iK (some (cj s (s.length+1) 0,23))],.aF [.str [],iK (some (cj s (s.length+1) 0,23))],by simp only[Env.results,Option.map_some,aa,reduceIte,Nat.reduceEqDiff],(ay (v:=.aF [.str [],iK (some (cj s (s.length+1) 0,23))]) rfl).2 rfl,_,by rw[e]⟩
 have z2:(cj s (s.length+1) 0≥0)=False:=eq_false c2
 have e:dO s=none:=by rw[dO,if_neg c1,if_neg c2]
 obtain⟨b,hb⟩:=K7 s (by omega)
 cases b with
 |true=>
  simp only[a50,KH,KI,RQ,RR,YF,afs,ah.bbw,aw,reduceIte,Nat.reduceEqDiff,en,z1,ai (wu _),z2,ai (hb _)]
  refine⟨[.str s,.ax],.aF [.str s,.ax],by simp only[Env.results,Option.map_some,aa,reduceIte,Nat.reduceEqDiff],(ay (v:=.aF [.str s,.ax]) rfl).2 rfl,_,by rw[e];rfl⟩
 |false=>
  have y1:bY [.int .u8 0] [(0,1,.int .u8 39)]=some [.int .u8 39]:=rfl
  have y2:([AV.int .u8 39]:List AV).length=1:=rfl
  have k0:Acc .empty 1 (.fs true 1 [.int .u8 39]) (([39]:List UInt8).map bK):=.full 1 _ rfl
  simp only[a50,KH,KI,RQ,RR,YF,aft,afu,ah.bbw,aw,reduceIte,Nat.reduceEqDiff,en,z1,ai (wu _),z2,ai (hb _),y1,y2]
  refine K8 (s:=s) (by omega) (s.length+1) 0 .empty _ (.fs true 1 [.int .u8 39]) [39] (by omega) (by omega) an.empty k0 (by simp) ?_ ?_ ?_ fun σ' h' v' bs' ho' k' hl' g5=> ?_
  ·simp only[aa,reduceIte,Nat.reduceEqDiff]
  ·simp only[aa,reduceIte,Nat.reduceEqDiff]
  ·simp only[aa,reduceIte,Nat.reduceEqDiff];rfl
  obtain⟨v2,h2,c2,w1,ho2,k2,hw2,bcg⟩:=grow ho' (x:=.fs true 1 [.int .u8 39]) (w:=.ax) (s:=[]) (nb:=[39]) (c0:=.none) k' rfl rfl .ax (fun id e=>by simp[AV.own]) (by simp;omega)
  obtain⟨c3,hc3,b2⟩:=k2.zp.Ld
  simp only[YG,aw,reduceIte,Nat.reduceEqDiff,iC c2,iC c3,g5,y1,y2,w1,b2]
  refine⟨[.str (bs' ++[39]),.ax],.aF [.str (bs' ++[39]),.ax],by simp only[Env.results,Option.map_some,aa,reduceIte,Nat.reduceEqDiff],(ay (v:=.aF [.str (bs' ++[39]),.ax]) rfl).2 rfl,_,by rw[e];rfl⟩
end Go.Bf
