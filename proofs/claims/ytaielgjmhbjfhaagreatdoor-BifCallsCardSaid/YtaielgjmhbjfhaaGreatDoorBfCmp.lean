/- For BifCalls. -/
import Derived.Test.YtaielgjmhbjfhaaGreatDoorBfRQuote
set_option linter.unusedVariables false
set_option maxRecDepth 20000
namespace Go.Bf
open Go.AM
def ie (p:Bool×Int) (i:Nat) (c:UInt8):Bool×Int:=
 if c.toNat=64 then(p.1&&decide (p.2<0),(i:Int))else(p.1&&(qp c||c.toNat==45||(c.toNat==46&&decide (p.2≥0))),p.2)
def cS:List UInt8→Nat→Bool×Int→Bool×Int
 |[],_,p=>p
 |c::l,i,p=>cS l (i+1) (ie p i c)
def GZ (s:List UInt8):Bool:=
 let p:=cS s 0 (decide (3≤s.length)&&decide (s.length≤64),-1)
 p.1&& !decide (p.2<1)&& !(p.2==(s.length:Int)-1)
theorem MZ {s:List UInt8} (hs:s.length<9223372036854775808) {h:Heap} {Q:aU→St→Prop}:∀(f i:Nat) (σ:ah) (g:Bool) (a:Int),s.length-i<f→i≤s.length→σ.get 0=.str s→σ.get 5=.int .i64 a→σ.get 6=.bool g→σ.get 7=.int .i64 i→
  (∀σ',σ'.get 0=.str s→σ'.get 6=.bool (cS (s.drop i) i (g,a)).1→σ'.get 5=.int .i64 (cS (s.drop i) i (g,a)).2→Q (.exit 0) ⟨σ',h⟩)→kz env sF ⟨σ,h⟩ Q:=by
 intro f
 induction f with
 |zero=>intro i σ g a h1;omega
 |succ f ih=>
  intro i σ g a hf hi g0 g5 g6 g7 hQ;refine aC fun b hb=> ?_
  have nl:∀h,aN true h (.str s)=some ⟨.int .i64 s.length,h,.none⟩:=fun h=>rfl
  by_cases c1:i<s.length
  ·have z0:((i:Int)<(s.length:Int))=True:=eq_true (by omega)
   have zi:IntKind.wrap .i64 ((i:Int)+1)=((i+1:Nat):Int):=aX (by omega) (by omega)
   have ix:=mM c1
   have hd:s.drop i=s[i]::s.drop (i+1):=bat c1
   obtain⟨cb,hcb⟩:∃cb,cb=s[i]:=⟨_,rfl⟩
   rw[hd,cS,←hcb]at hQ
   rw[←hcb]at ix
   have wi:=Kp cb
   obtain⟨c,hc⟩:∃c,c=cb.toNat:=⟨_,rfl⟩
   rw[←hc]at ix wi
   have go:∀(σ2:ah) (p:Bool×Int),p=ie (g,a) i cb→σ2.get 0=.str s→σ2.get 6=.bool p.1→σ2.get 5=.int .i64 p.2→σ2.get 7=.int .i64 i→rW env G0 ⟨σ2,h⟩ (lF env b Q):=by
    intro σ2 p ep p0 p6 p5 p7;rw[←ep]at hQ
    simp only[G0,aw,reduceIte,Nat.reduceEqDiff,p7,zi]
    subst hb;refine ih (i+1) _ p.1 p.2 (by omega) (by omega) ?_ ?_ ?_ ?_ hQ
    ·simp only[aa,reduceIte,Nat.reduceEqDiff,p0]
    ·simp only[aa,reduceIte,Nat.reduceEqDiff,p5]
    ·simp only[aa,reduceIte,Nat.reduceEqDiff,p6]
    ·simp only[aa,reduceIte,Nat.reduceEqDiff]
   have el:sF=(.seq (.seq (.ops qh) (.cond (.t 20) .skip (.exit 0))) (.seq (.block 1 (.seq (.ops ru) (.seq (.seq (.ops ry) (.cond (.t 27) (.seq (.ops Kq) (.seq (.ops Kr) (.exit 1))) .skip)) (.ops yr)))) (.ops G0))):=rfl
   rw[el,cN]
   by_cases c64:c=64
   ·have z1:((c:Int)==64)=true:=by simp[c64]
    have ep:ie (g,a) i cb=(g&&decide (a<0),(i:Int)):=by rw[ie,if_pos (by omega)]
    cases g with
    |false=>
     simp only[qh,ru,ry,Kq,Kr,aw,reduceIte,Nat.reduceEqDiff,bj,bx,aL,g0,g6,g7,nl,z0,ix,z1]
     refine go _ _ ep.symm ?_ ?_ ?_ ?_<;>simp only[aa,reduceIte,Nat.reduceEqDiff,g0,g7,bbd]
    |true=>
     by_cases ca:a<0
     ·have z2:(a<0)=True:=eq_true ca
      simp only[qh,ru,ry,Kq,Kr,aw,reduceIte,Nat.reduceEqDiff,bj,bx,aL,g0,g5,g6,g7,nl,z0,ix,z1,z2]
      refine go _ _ ep.symm ?_ ?_ ?_ ?_<;>simp only[aa,reduceIte,Nat.reduceEqDiff,g0,g7,bbb,decide_eq_true ca]
     ·have z2:(a<0)=False:=eq_false ca
      simp only[qh,ru,ry,Kq,Kr,aw,reduceIte,Nat.reduceEqDiff,bj,bx,aL,g0,g5,g6,g7,nl,z0,ix,z1,z2]
      refine go _ _ ep.symm ?_ ?_ ?_ ?_<;>simp only[aa,reduceIte,Nat.reduceEqDiff,g0,g7,bbb,decide_eq_false ca]
   have z1:((c:Int)==64)=false:=by simp;omega
   have ep:ie (g,a) i cb=(g&&(qp cb||c==45||(c==46&&decide (a≥0))),a):=by rw[ie,if_neg (by omega),←hc]
   cases g with
   |false=>
    simp only[qh,ru,ry,yr,aE,aw,reduceIte,Nat.reduceEqDiff,bj,bx,aL,g0,g6,g7,nl,z0,ix,z1]
    refine go _ _ ep.symm ?_ ?_ ?_ ?_<;>simp only[aa,reduceIte,Nat.reduceEqDiff,g0,g5,g7,bbd]
   |true=>
   rw[bbb]at ep
   cases k1:qp cb with
   |true=>
    rw[k1,Bool.true_or,Bool.true_or]at ep
    rw[k1]at wi
    simp only[qh,ru,ry,yr,aE,aw,reduceIte,Nat.reduceEqDiff,bj,bx,aL,g0,g6,g7,nl,z0,ix,z1,ai (wi _)]
    refine go _ _ ep.symm ?_ ?_ ?_ ?_<;>simp only[aa,reduceIte,Nat.reduceEqDiff,g0,g5,g7]
   |false=>
   rw[k1,Bool.false_or]at ep
   rw[k1]at wi
   by_cases c45:c=45
   ·have z2:((c:Int)==45)=true:=by simp[c45]
    have e2:(c==45)=true:=by simp[c45]
    rw[e2,Bool.true_or]at ep
    simp only[qh,ru,ry,yr,aE,aw,reduceIte,Nat.reduceEqDiff,bj,bx,aL,g0,g6,g7,nl,z0,ix,z1,z2,ai (wi _)]
    refine go _ _ ep.symm ?_ ?_ ?_ ?_<;>simp only[aa,reduceIte,Nat.reduceEqDiff,g0,g5,g7]
   have z2:((c:Int)==45)=false:=by simp;omega
   have e2:(c==45)=false:=by simp[c45]
   rw[e2,Bool.false_or]at ep
   by_cases c46:c=46
   case neg=>
    have z3:((c:Int)==46)=false:=by simp;omega
    have e3:(c==46)=false:=by simp[c46]
    rw[e3,bbd]at ep
    simp only[qh,ru,ry,yr,aw,reduceIte,Nat.reduceEqDiff,bj,bx,aL,g0,g6,g7,nl,z0,ix,z1,z2,z3,ai (wi _)]
    refine go _ _ ep.symm ?_ ?_ ?_ ?_<;>simp only[aa,reduceIte,Nat.reduceEqDiff,g0,g5,g7]
   have z3:((c:Int)==46)=true:=by simp[c46]
   have e3:(c==46)=true:=by simp[c46]
   rw[e3,bbb]at ep
   by_cases ca:a≥0
   ·have z4:(a≥0)=True:=eq_true ca
    rw[decide_eq_true ca]at ep
    simp only[qh,ru,ry,yr,aw,reduceIte,Nat.reduceEqDiff,bj,bx,aL,g0,g5,g6,g7,nl,z0,ix,z1,z2,z3,z4,ai (wi _)]
    refine go _ _ ep.symm ?_ ?_ ?_ ?_<;>simp only[aa,reduceIte,Nat.reduceEqDiff,g0,g5,g7]
   ·have z4:(a≥0)=False:=eq_false ca
    rw[decide_eq_false ca]at ep
    simp only[qh,ru,ry,yr,aw,reduceIte,Nat.reduceEqDiff,bj,bx,aL,g0,g5,g6,g7,nl,z0,ix,z1,z2,z3,z4,ai (wi _)]
    refine go _ _ ep.symm ?_ ?_ ?_ ?_<;>simp only[aa,reduceIte,Nat.reduceEqDiff,g0,g5,g7]
  ·have z0:((i:Int)<(s.length:Int))=False:=eq_false (by omega)
   rw[bao (show s.length≤i by omega),cS]at hQ
   simp only[sF,qh,aw,reduceIte,Nat.reduceEqDiff,g0,g7,nl,z0]
   refine hQ _ ?_ ?_ ?_<;>simp only[aa,reduceIte,Nat.reduceEqDiff,g0,g5,g6]
theorem G1:∀(l:List UInt8) (i:Nat) (g:Bool) (a:Int),a<(i:Int)→-1≤a→-1≤(cS l i (g,a)).2∧(cS l i (g,a)).2<(i:Int)+l.length
 |[],i,g,a,h,h' =>⟨h',by simp[cS];omega⟩
 |c::l,i,g,a,h,h' =>by
  rw[cS,ie];split
  ·have:=G1 l (i+1) (g&&decide (a<0)) i (by omega) (by omega)
   simp only[bav]at*
   omega
  ·have:=G1 l (i+1) (g&&(qp c||c.toNat==45||(c.toNat==46&&decide (a≥0)))) a (by omega) (by omega)
   simp only[bav]at*
   omega
theorem BW:∀(l:List UInt8) (i:Nat) (a:Int),(cS l i (false,a)).1=false
 |[],_,_=>rfl
 |c::l,i,a=>by
  rw[cS,ie];split<;>simp only[bbd]<;>exact BW l _ _
theorem Q6:∀(l:List UInt8) (i:Nat) (g:Bool) (a:Int),0≤a→(∃c,c∈l∧c.toNat=64)→(cS l i (g,a)).1=false
 |[],_,_,_,_,h=>by obtain⟨c,h,_⟩:=h;simp at h
 |c::l,i,g,a,ha,h=>by
  rw[cS,ie];split
  ·rw[decide_eq_false (by omega),Bool.and_false]
   exact BW l _ _
  ·rename_i hc
   refine Q6 l _ _ _ ha ?_
   obtain⟨x,hx,e⟩:=h
   rcases bbi.1 hx with rfl|hx
   ·exact absurd e hc
   ·exact⟨x,hx,e⟩
theorem zP:∀(l:List UInt8) (i:Nat) (g:Bool) (a:Int),(∀c,c∈l→c.toNat≠64)→cS l i (g,a)=(g&&l.all (fun c=>qp c||c.toNat==45||(c.toNat==46&&decide (a≥0))),a)
 |[],_,g,_,_=>by simp[cS]
 |c::l,i,g,a,h=>by
  rw[cS,ie,if_neg (h c (by simp)),zP l _ _ _ (fun x hx=>h x (by simp[hx])),List.all_cons,Bool.and_assoc]
theorem yt:∀(l m:List UInt8) (i:Nat) (p:Bool×Int),cS (l++m) i p=cS m (i+l.length) (cS l i p)
 |[],m,i,p=>rfl
 |c::l,m,i,p=>by
  rw[List.cons_append,cS,yt l m,cS,bav]
  congr 1
  omega
theorem rz:∀(s:List UInt8),(Lib.indexByte s 64= -1∧∀c,c∈s→c.toNat≠64)∨(0≤Lib.indexByte s 64∧s=s.take (Lib.indexByte s 64).toNat++64::s.drop ((Lib.indexByte s 64).toNat+1)∧(∀c,c∈s.take (Lib.indexByte s 64).toNat→c.toNat≠64))
 |[]=>.inl ⟨rfl,fun c h=>by simp at h⟩
 |b::l=>by
  have e64:∀c:UInt8,c.toNat=64→c=64:=fun c h=>UInt8.toNat_inj.1 (by rw[h];rfl)
  rw[Lib.indexByte]
  by_cases h:b=64
  ·subst h
   right
   simp
  ·have hb:(b==64)=false:=by simpa using h
   simp only[hb,bbm,if_false]
   rcases rz l with⟨h1,h2⟩|⟨h1,h2,h3⟩
   ·left
    rw[h1];refine⟨rfl,fun c hc=> ?_⟩
    rcases bbi.1 hc with rfl|hc
    ·exact fun e=>h (e64 _ e)
    ·exact h2 c hc
   ·right
    have:(Lib.indexByte l 64== -1)=false:=by simp;omega
    simp only[this,bbm,if_false]
    have e:(Lib.indexByte l 64+1).toNat=(Lib.indexByte l 64).toNat+1:=by omega
    rw[e];refine⟨by omega,?_,fun c hc=> ?_⟩
    ·rw[List.take_succ_cons,List.cons_append,List.drop_succ_cons,←h2]
    ·rw[List.take_succ_cons]at hc
     rcases bbi.1 hc with rfl|hc
     ·exact fun e=>h (e64 _ e)
     ·exact h3 c hc
theorem TC (c:UInt8):jB c=(qp c||c.toNat==45||(c.toNat==46&&decide ((-1:Int)≥0))):=by
 have e:((c.toNat:Int)==45)=(c.toNat==45):=by
  cases h:(c.toNat==45)with
  |true=>have:=eq_of_beq h;simp[this]
  |false=>simp at h;simp;omega
 rw[jB,qp,e];simp
theorem TD (c:UInt8) (a:Int) (ha:0≤a):j5 c=(qp c||c.toNat==45||(c.toNat==46&&decide (a≥0))):=by
 have e:∀n:Nat,((c.toNat:Int)==(n:Int))=(c.toNat==n):=fun n=>by
  cases h:(c.toNat==n)with
  |true=>have:=eq_of_beq h;simp[this]
  |false=>simp at h;simp;omega
 have e1:=e 45
 have e2:=e 46
 rw[j5,qp,decide_eq_true ha,Bool.and_true];show(_||((c.toNat:Int)==((45:Nat):Int))||((c.toNat:Int)==((46:Nat):Int)))=_
 rw[e1,e2]
theorem WG (s:List UInt8):GZ s=jm s:=by
 rcases rz s with⟨h1,h2⟩|⟨h1,h2,h3⟩
 ·have hf:gp s=false:=by rw[gp,h1];rfl
  rw[GZ,zP _ _ _ _ h2,jm,hf];simp
 ·have hf:gp s=true:=by rw[gp];simpa using h1
  obtain⟨n,hn⟩:∃n,n=jC s:=⟨_,rfl⟩
  obtain⟨o,hoo⟩:∃o,o=je s:=⟨_,rfl⟩
  have en:n=s.take (Lib.indexByte s 64).toNat:=by rw[hn,jC,if_pos hf]
  have eo:o=s.drop ((Lib.indexByte s 64).toNat+1):=by rw[hoo,je,if_pos hf]
  rw[←en,←eo]at h2
  rw[←en]at h3
  have hl:s.length=n.length+1+o.length:=by rw[h2];simp;omega
  rw[jm,hf,←hn,←hoo,GZ];have ef:∀g,cS s 0 (g,-1)=cS o (n.length+1) (g&&n.all jB,(n.length:Int)):=by
   intro g;have ea:n.all (fun c=>qp c||c.toNat==45||(c.toNat==46&&decide ((-1:Int)≥0)))=n.all jB:=by
    congr 1;funext c;exact(TC c).symm
   rw[h2,yt,zP _ _ _ _ h3,ea,cS,ie,if_pos (by rfl)]
   simp
  rw[ef]
  rcases rz o with⟨p1,p2⟩|⟨p1,p2,p3⟩
  ·have hg:gp o=false:=by rw[gp,p1];rfl
   have ea:o.all (fun c=>qp c||c.toNat==45||(c.toNat==46&&decide ((n.length:Int)≥0)))=o.all j5:=by
    congr 1;funext c;exact(TD c _ (by omega)).symm
   rw[zP _ _ _ _ p2,hg,ea];have q1:(n==([]:List UInt8))=decide ((n.length:Int)<1):=by
    cases n with
    |nil=>rfl
    |cons a l=>simp;omega
   have q2:(o==([]:List UInt8))=((n.length:Int)==(s.length:Int)-1):=by
    cases o with
    |nil=>rw[hl];simp
    |cons a l=>
     have:((n.length:Int)==(s.length:Int)-1)=false:=by rw[hl];simp;omega
     rw[this];rfl
   rw[q1,q2]
   by_cases b1:(n.length:Int)<1
   ·simp[b1]
   by_cases b2:((n.length:Int)==(s.length:Int)-1)=true
   ·simp[b2]
   have b3:3≤s.length:=by simp at b2;omega
   have b2' :((n.length:Int)==(s.length:Int)-1)=false:=by simpa using b2
   rw[decide_eq_false b1,b2',decide_eq_true b3];simp only[bbb,bak,Bool.and_true]
  ·have hg:gp o=true:=by rw[gp];simpa using p1
   rw[Q6 _ _ _ _ (by omega) ⟨64,by rw[p2];simp,rfl⟩,hg]
   simp
theorem M0 (s:List UInt8) (hs:s.length<9223372036854775808) (h:Heap):WC env 52 [.str s] h (fun o=>∃a b,o=.ret ⟨.aF [.str a,.str b,iK (if jm s then none else some (0,24))],h,.none⟩):=by
 refine ad rfl rfl rfl rfl ?_
 have en:∀h,aN true h (.str s)=some ⟨.int .i64 s.length,h,.none⟩:=fun h=>rfl
 have rest:∀(σ:ah),σ.get 0=.str s→σ.get 5=.int .i64 (-1)→σ.get 6=.bool (decide (3≤s.length)&&decide (s.length≤64))→jK env (.seq (.seq (.ops Q7) (.block 0 (.loop sF))) (.seq (.seq (.ops uu) (.cond (.t 63) (.seq (.ops BX) .ret) .skip)) (.seq (.draw BY zQ) .ret))) ⟨σ,.empty⟩ (iB env a52.results h (fun o=>∃a b,o=.ret ⟨.aF [.str a,.str b,iK (if jm s then none else some (0,24))],h,.none⟩)):=by
  intro σ g0 g5 g6;rw[cN];simp only[Q7,aw]
  refine MZ hs (s.length+1) 0 _ (decide (3≤s.length)&&decide (s.length≤64)) (-1) (by omega) (by omega) ?_ ?_ ?_ ?_ fun σ' p0 p6 p5=> ?_
  ·simp only[aa,reduceIte,Nat.reduceEqDiff,g0]
  ·simp only[aa,reduceIte,Nat.reduceEqDiff,g5]
  ·simp only[aa,reduceIte,Nat.reduceEqDiff];exact g6
  ·simp only[aa,reduceIte];rfl
  rw[bah]at p6 p5
  have hat:=G1 s 0 (decide (3≤s.length)&&decide (s.length≤64)) (-1) (by omega) (by omega)
  obtain⟨p,ep⟩:∃p,p=cS s 0 (decide (3≤s.length)&&decide (s.length≤64),-1):=⟨_,rfl⟩
  rw[←ep]at p6 p5 hat
  have er:jm s=(p.1&& !decide (p.2<1)&& !(p.2==(s.length:Int)-1)):=by rw[←WG,GZ,←ep]
  have bad:∀{σ2:ah},jm s=false→rW env BX ⟨σ2,.empty⟩ (uV env .ret (uV env (.seq (.draw BY zQ) .ret) (iB env a52.results h (fun o=>∃a b,o=.ret ⟨.aF [.str a,.str b,iK (if jm s then none else some (0,24))],h,.none⟩)))):=by
   intro σ2 ef;simp only[BX,aw,reduceIte,Nat.reduceEqDiff,ai (pQ _ _ _)]
   exact⟨[.str [],.str [],iK (some (0,24))],.aF [.str [],.str [],iK (some (0,24))],by simp only[a52,Env.results,baq,aa,reduceIte,Nat.reduceEqDiff],(ay (v:=.aF [.str [],.str [],iK (some (0,24))]) rfl).2 rfl,[],[],by rw[ef];rfl⟩
  cases k1:p.1 with
  |false=>
   rw[k1]at p6
   simp only[uu,aw,reduceIte,Nat.reduceEqDiff,p6,dm,aL,bak]
   exact bad (by rw[er,k1];rfl)
  |true=>
  rw[k1]at p6
  by_cases k2:p.2<1
  ·have z2:(p.2<1)=True:=eq_true k2
   simp only[uu,aw,reduceIte,Nat.reduceEqDiff,p5,p6,dm,aL,baj,z2]
   exact bad (by rw[er,decide_eq_true k2];simp)
  have z2:(p.2<1)=False:=eq_false k2
  have w1:IntKind.wrap .i64 ((s.length:Int)-1)=((s.length-1:Nat):Int):=aX (by omega) (by omega)
  have w1' :((s.length-1:Nat):Int)=(s.length:Int)-1:=by omega
  cases k33:(p.2==(s.length:Int)-1)with
  |true=>
   have z3:(p.2==((s.length-1:Nat):Int))=true:=by rw[w1'];exact k33
   simp only[uu,aw,reduceIte,Nat.reduceEqDiff,p0,p5,p6,en,dm,aL,baj,z2,w1,z3]
   exact bad (by rw[er,k33];simp)
  |false=>
  have z3:(p.2==((s.length-1:Nat):Int))=false:=by rw[w1'];exact k33
  have ef:jm s=true:=by rw[er,k1,decide_eq_false k2,k33];rfl
  obtain⟨k,hk⟩:∃k:Nat,p.2=(k:Int):=⟨p.2.toNat,by omega⟩
  rw[hk]at p5 z2 z3 hat
  have hat2:(k:Int)<s.length:=by simpa using hat.2
  have w2:IntKind.wrap .i64 ((k:Int)+1)=((k+1:Nat):Int):=aX (by omega) (by omega)
  have t1:=yu (s:=s) (k:=k) (by omega)
  have t2:=tk (s:=s) (k:=k+1) (by omega)
  simp only[uu,aw,reduceIte,Nat.reduceEqDiff,p0,p5,p6,en,dm,aL,baj,z2,w1,z3]
  refine aB ?_
  simp only[aw,reduceIte,Nat.reduceEqDiff,k3,BY,u6,yv,p0,p5,w2,t1,t2]
  refine⟨rfl,?_⟩
  exact⟨[.str (s.take k),.str (s.drop (k+1)),.ax],.aF [.str (s.take k),.str (s.drop (k+1)),.ax],by simp only[a52,Env.results,baq,aa,reduceIte,Nat.reduceEqDiff],(ay (v:=.aF [.str (s.take k),.str (s.drop (k+1)),.ax]) rfl).2 rfl,s.take k,s.drop (k+1),by rw[ef];rfl⟩
 have eb:a52.body=(.seq (.ops Ks) (.seq (.ops Kt) (.seq (.ops Ku) (.seq (.seq (.ops Q7) (.block 0 (.loop sF))) (.seq (.seq (.ops uu) (.cond (.t 63) (.seq (.ops BX) .ret) .skip)) (.seq (.draw BY zQ) .ret)))))):=rfl
 rw[eb,cN]
 by_cases c1:3≤s.length
 case neg=>
  have z1:((s.length:Int)≥3)=False:=eq_false (by omega)
  simp only[Ks,Kt,Ku,ah.bbw,aw,reduceIte,Nat.reduceEqDiff,en,z1,aL]
  refine rest _ ?_ ?_ ?_<;>simp only[aa,reduceIte,Nat.reduceEqDiff,decide_eq_false c1,bbd]
 have z1:((s.length:Int)≥3)=True:=eq_true (by omega)
 by_cases c2:s.length≤64
 ·have z2:((s.length:Int)≤64)=True:=eq_true (by omega)
  simp only[Ks,Kt,Ku,ah.bbw,aw,reduceIte,Nat.reduceEqDiff,en,z1,z2,aL]
  refine rest _ ?_ ?_ ?_<;>simp only[aa,reduceIte,Nat.reduceEqDiff,decide_eq_true c1,decide_eq_true c2,bbb]
 ·have z2:((s.length:Int)≤64)=False:=eq_false (by omega)
  simp only[Ks,Kt,Ku,ah.bbw,aw,reduceIte,Nat.reduceEqDiff,en,z1,z2,aL]
  refine rest _ ?_ ?_ ?_<;>simp only[aa,reduceIte,Nat.reduceEqDiff,decide_eq_true c1,decide_eq_false c2,bbb]
end Go.Bf
namespace Go.Bf
open Go.AM
theorem j6 {s:St} {n:Nat} {v:AV} {h:Heap} {Q:fC→Prop} (hg:s.σ.get n=v) (hv:v.ae=true) (h1:v.one=true) (hq:Q (.ret ⟨v,h,.none⟩)):iB env [.tmp n] h Q .ret s:=by
 refine⟨[v],v,by simp only[Env.results,baq,hg],?_,hq⟩
 exact(ay (v:=v) hv).2 rfl
theorem aeC {f:Nat} {args:List AV} {h:Heap} {α:Type} {r:α→fC} (w:WC env f args h (fun o=>∃q,o=r q)):∃q,WC env f args h (fun o=>o=r q):=by
 obtain⟨o,h1,q,h2⟩:=w
 exact⟨q,o,h1,h2⟩
theorem c7 (a:Int) (x:Option (Int×CQ)):(da a x).one=true:=by
 rcases x with _|⟨c,u⟩<;>rfl
theorem ab5 (i:Int) (s:List UInt8) (c:Int) (nf:Option Bool) (ns:List Int) (af:Option Bool) (ar:List Tm) (ho:Tm.Ok (.mk 1 i s c nf ns af ar)) (p:Int) (h:Heap):WC env 130 [.agg (tc (.mk 1 i s c nf ns af ar)),.int .i64 p] h (fun o=>o=.ret ⟨da p (bw (.mk 1 i s c nf ns af ar)),h,.none⟩):=by
 obtain⟨ss,sn,sa,_⟩:=ho.lens
 refine ad rfl rfl rfl (by simp only[bdk,az]) ?_
 obtain⟨t,et⟩:∃t:Tm,t=(.mk 1 i s c nf ns af ar):=⟨_,rfl⟩
 rw[←et];obtain⟨cs,ec⟩:∃cs,cs=tc t:=⟨_,rfl⟩
 obtain⟨nv,en⟩:∃nv,nv=aM nf ns.length (bN ns):=⟨_,rfl⟩
 obtain⟨av,ea⟩:∃av,av=aM af ar.length (bq ar):=⟨_,rfl⟩
 have ec' :cs=[.int .i64 1,.int .i64 i,.str s,.int .u32 c,nv,av]:=by rw[ec,et,en,ea];rfl
 obtain⟨h1,eh1⟩:∃h1,h1=Heap.empty.new cs:=⟨_,rfl⟩
 have a1:h1.at_ Heap.empty.next 0=some [.int .i64 1,.int .i64 i,.str s,.int .u32 c,nv,av]:=by rw[←ec',eh1];exact aY _
 rw[←ec];have y1:(AV.agg cs).row=some cs:=rfl
 have y2:cs.length=6:=by rw[ec'];rfl
 have l0:=eK a1
 have l1:=gj a1
 have l2:=gk a1
 have l4:=eU a1
 have l5:=dZ a1
 have l6:bg h1 true 6 (.ptr Heap.empty.next 0 0)=some ⟨.agg cs,h1,.read⟩:=by rw[ec'];exact vy a1
 have we:∀bt bn ba h,WC env 139 [.agg cs,.bool bt,.bool bn,.bool ba] h (fun o=>o=.ret ⟨.bool (b7 t bt bn ba),h,.none⟩):=fun bt bn ba h=>by rw[ec];exact ig t bt bn ba h
 have nl:∀h,aN false h nv=some ⟨.int .i64 ns.length,h,.none⟩:=fun h=>by rw[en];exact bX _ _ _ (fun _=>trivial) h
 have al:∀h,aN false h av=some ⟨.int .i64 ar.length,h,.none⟩:=fun h=>by rw[ea];exact bX _ _ _ (fun _=>trivial) h
 cases e1:b7 t false false false with
 |false=>
  have ef:bw t=some (40,none):=by rw[et,bw,←et,if_pos (by rw[et,kindOk,←et];simp[e1])]
  simp only[a130,eV,eW,eX,eY,BZ,dI,ah.bbw,aw,reduceIte,Nat.reduceEqDiff,y1,y2,←eh1,au,l0,l6,ai (we _ _ _ _),dm,Int.reduceBEq,iq,ai (dA _ _ _),e1,jah]
  exact j6 (v:=da p (bw t)) (by simp only[aa,reduceIte,Nat.reduceEqDiff];rw[ef];rfl) (ck _ _) (c7 _ _) rfl
 |true=>
  have ek:¬kindOk t=false:=by rw[et,kindOk,←et];simp[e1]
  by_cases c1:i< -576460752303423488
  ·have z1:(i< -576460752303423488)=True:=eq_true c1
   have ef:bw t=some (2,none):=by rw[et,bw,←et,if_neg ek,if_pos rfl,if_pos (.inl c1)]
   simp only[a130,eV,eW,eX,eY,BZ,dI,ah.bbw,aw,reduceIte,Nat.reduceEqDiff,y1,y2,←eh1,au,l0,l6,ai (we _ _ _ _),dm,aL,Int.reduceBEq,ir,iu,e1,iv,zR,G2,l1,z1,ai (dA _ _ _),jag]
   exact j6 (v:=da p (bw t)) (by simp only[aa,reduceIte,Nat.reduceEqDiff];rw[ef];rfl) (ck _ _) (c7 _ _) rfl
  have z1:(i< -576460752303423488)=False:=eq_false c1
  by_cases c2:i>576460752303423487
  ·have z2:(i>576460752303423487)=True:=eq_true c2
   have ef:bw t=some (2,none):=by rw[et,bw,←et,if_neg ek,if_pos rfl,if_pos (.inr c2)]
   simp only[a130,eV,eW,eX,eY,BZ,dI,ah.bbw,aw,reduceIte,Nat.reduceEqDiff,y1,y2,←eh1,au,l0,l6,ai (we _ _ _ _),dm,aL,Int.reduceBEq,ir,iu,e1,iv,zR,G2,l1,z1,z2,ai (dA _ _ _),jag]
   exact j6 (v:=da p (bw t)) (by simp only[aa,reduceIte,Nat.reduceEqDiff];rw[ef];rfl) (ck _ _) (c7 _ _) rfl
  have z2:(i>576460752303423487)=False:=eq_false c2
  have ef:bw t=none:=by rw[et,bw,←et,if_neg ek,if_pos rfl,if_neg (by rintro(h|h);exact c1 h;exact c2 h)]
  simp only[a130,eV,eW,eX,eY,BZ,dI,ah.bbw,aw,reduceIte,Nat.reduceEqDiff,y1,y2,←eh1,au,l0,l6,ai (we _ _ _ _),dm,aL,Int.reduceBEq,ir,iu,e1,iv,zR,jD,mN,l1,z1,z2,eq_nil,jag]
  exact j6 (v:=da p (bw t)) (by simp only[aa,reduceIte,Nat.reduceEqDiff];rw[ef];rfl) (ck _ _) (c7 _ _) rfl
theorem ab6 (i:Int) (s:List UInt8) (c:Int) (nf:Option Bool) (ns:List Int) (af:Option Bool) (ar:List Tm) (ho:Tm.Ok (.mk 2 i s c nf ns af ar)) (p:Int) (h:Heap):WC env 130 [.agg (tc (.mk 2 i s c nf ns af ar)),.int .i64 p] h (fun o=>o=.ret ⟨da p (bw (.mk 2 i s c nf ns af ar)),h,.none⟩):=by
 obtain⟨ss,sn,sa,_⟩:=ho.lens
 refine ad rfl rfl rfl (by simp only[bdk,az]) ?_
 obtain⟨t,et⟩:∃t:Tm,t=(.mk 2 i s c nf ns af ar):=⟨_,rfl⟩
 rw[←et];obtain⟨cs,ec⟩:∃cs,cs=tc t:=⟨_,rfl⟩
 obtain⟨nv,en⟩:∃nv,nv=aM nf ns.length (bN ns):=⟨_,rfl⟩
 obtain⟨av,ea⟩:∃av,av=aM af ar.length (bq ar):=⟨_,rfl⟩
 have ec' :cs=[.int .i64 2,.int .i64 i,.str s,.int .u32 c,nv,av]:=by rw[ec,et,en,ea];rfl
 obtain⟨h1,eh1⟩:∃h1,h1=Heap.empty.new cs:=⟨_,rfl⟩
 have a1:h1.at_ Heap.empty.next 0=some [.int .i64 2,.int .i64 i,.str s,.int .u32 c,nv,av]:=by rw[←ec',eh1];exact aY _
 rw[←ec];have y1:(AV.agg cs).row=some cs:=rfl
 have y2:cs.length=6:=by rw[ec'];rfl
 have l0:=eK a1
 have l1:=gj a1
 have l2:=gk a1
 have l4:=eU a1
 have l5:=dZ a1
 have l6:bg h1 true 6 (.ptr Heap.empty.next 0 0)=some ⟨.agg cs,h1,.read⟩:=by rw[ec'];exact vy a1
 have we:∀bt bn ba h,WC env 139 [.agg cs,.bool bt,.bool bn,.bool ba] h (fun o=>o=.ret ⟨.bool (b7 t bt bn ba),h,.none⟩):=fun bt bn ba h=>by rw[ec];exact ig t bt bn ba h
 have nl:∀h,aN false h nv=some ⟨.int .i64 ns.length,h,.none⟩:=fun h=>by rw[en];exact bX _ _ _ (fun _=>trivial) h
 have al:∀h,aN false h av=some ⟨.int .i64 ar.length,h,.none⟩:=fun h=>by rw[ea];exact bX _ _ _ (fun _=>trivial) h
 cases e1:b7 t true false false with
 |false=>
  have ef:bw t=some (40,none):=by rw[et,bw,←et,if_pos (by rw[et,kindOk,←et];simp[e1])]
  simp only[a130,eV,eW,eX,eY,gm,G3,dI,ah.bbw,aw,reduceIte,Nat.reduceEqDiff,y1,y2,←eh1,au,l0,l6,ai (we _ _ _ _),dm,Int.reduceBEq,iq,ai (dA _ _ _),e1,jah]
  exact j6 (v:=da p (bw t)) (by simp only[aa,reduceIte,Nat.reduceEqDiff];rw[ef];rfl) (ck _ _) (c7 _ _) rfl
 |true=>
  have ek:¬kindOk t=false:=by rw[et,kindOk,←et];simp[e1]
  obtain⟨q,wq⟩:=aeC (M1 s h1)
  cases eq:dO s with
  |none=>
   rw[eq]at wq
   have wq:WC env 140 [.str s] h1 (fun o=>o=.ret ⟨.aF [.str q,.bL],h1,.none⟩):=wq
   have ef:bw t=none:=by rw[et,bw,←et,if_neg ek,if_neg (by decide),if_pos rfl,eq]
   simp only[a130,eV,eW,eX,eY,gm,G3,dI,ah.bbw,aw,reduceIte,Nat.reduceEqDiff,y1,y2,←eh1,au,l0,l6,ai (we _ _ _ _),dm,Int.reduceBEq,ir,iu,e1,iv,kg,G4,jD,mN,l2,ai wq,cm,SJ,SK,eq_nil,jag]
   exact j6 (v:=da p (bw t)) (by simp only[aa,reduceIte,Nat.reduceEqDiff];rw[ef];rfl) (ck _ _) (c7 _ _) rfl
  |some pc=>
   obtain⟨pp,cc⟩:=pc
   rw[eq]at wq
   have wq:WC env 140 [.str s] h1 (fun o=>o=.ret ⟨.aF [.str q,oH pp cc],h1,.none⟩):=wq
   have ef:bw t=some (cc,some (pp,cc)):=by rw[et,bw,←et,if_neg ek,if_neg (by decide),if_pos rfl,eq]
   simp only[a130,eV,eW,eX,eY,gm,G3,dI,ah.bbw,aw,reduceIte,Nat.reduceEqDiff,y1,y2,←eh1,au,l0,l6,ai (we _ _ _ _),dm,Int.reduceBEq,ir,iu,e1,iv,kg,G4,jD,zS,l2,ai wq,cm,SJ,SK,B0,bak,ai (xx _ _ _),ai (uw _ _ _ _ _),jag]
   exact j6 (v:=da p (bw t)) (by simp only[aa,reduceIte,Nat.reduceEqDiff];rw[ef];rfl) (ck _ _) (c7 _ _) rfl
theorem ab7 (i:Int) (s:List UInt8) (c:Int) (nf:Option Bool) (ns:List Int) (af:Option Bool) (ar:List Tm) (ho:Tm.Ok (.mk 3 i s c nf ns af ar)) (p:Int) (h:Heap):WC env 130 [.agg (tc (.mk 3 i s c nf ns af ar)),.int .i64 p] h (fun o=>o=.ret ⟨da p (bw (.mk 3 i s c nf ns af ar)),h,.none⟩):=by
 obtain⟨ss,sn,sa,_⟩:=ho.lens
 refine ad rfl rfl rfl (by simp only[bdk,az]) ?_
 obtain⟨t,et⟩:∃t:Tm,t=(.mk 3 i s c nf ns af ar):=⟨_,rfl⟩
 rw[←et];obtain⟨cs,ec⟩:∃cs,cs=tc t:=⟨_,rfl⟩
 obtain⟨nv,en⟩:∃nv,nv=aM nf ns.length (bN ns):=⟨_,rfl⟩
 obtain⟨av,ea⟩:∃av,av=aM af ar.length (bq ar):=⟨_,rfl⟩
 have ec' :cs=[.int .i64 3,.int .i64 i,.str s,.int .u32 c,nv,av]:=by rw[ec,et,en,ea];rfl
 obtain⟨h1,eh1⟩:∃h1,h1=Heap.empty.new cs:=⟨_,rfl⟩
 have a1:h1.at_ Heap.empty.next 0=some [.int .i64 3,.int .i64 i,.str s,.int .u32 c,nv,av]:=by rw[←ec',eh1];exact aY _
 rw[←ec];have y1:(AV.agg cs).row=some cs:=rfl
 have y2:cs.length=6:=by rw[ec'];rfl
 have l0:=eK a1
 have l1:=gj a1
 have l2:=gk a1
 have l4:=eU a1
 have l5:=dZ a1
 have l6:bg h1 true 6 (.ptr Heap.empty.next 0 0)=some ⟨.agg cs,h1,.read⟩:=by rw[ec'];exact vy a1
 have we:∀bt bn ba h,WC env 139 [.agg cs,.bool bt,.bool bn,.bool ba] h (fun o=>o=.ret ⟨.bool (b7 t bt bn ba),h,.none⟩):=fun bt bn ba h=>by rw[ec];exact ig t bt bn ba h
 have nl:∀h,aN false h nv=some ⟨.int .i64 ns.length,h,.none⟩:=fun h=>by rw[en];exact bX _ _ _ (fun _=>trivial) h
 have al:∀h,aN false h av=some ⟨.int .i64 ar.length,h,.none⟩:=fun h=>by rw[ea];exact bX _ _ _ (fun _=>trivial) h
 cases e1:b7 t true true false with
 |false=>
  have ef:bw t=some (40,none):=by rw[et,bw,←et,if_pos (by rw[et,kindOk,←et];simp[e1])]
  simp only[a130,eV,eW,eX,eY,gm,gX,B1,dI,ah.bbw,aw,reduceIte,Nat.reduceEqDiff,y1,y2,←eh1,au,l0,l6,ai (we _ _ _ _),dm,aL,Int.reduceBEq,iq,ai (dA _ _ _),e1,jah]
  exact j6 (v:=da p (bw t)) (by simp only[aa,reduceIte,Nat.reduceEqDiff];rw[ef];rfl) (ck _ _) (c7 _ _) rfl
 |true=>
  cases e2:(ns.length==3)with
  |false=>
   have z:((ns.length:Int)==3)=false:=by simp at e2⊢;omega
   have ef:bw t=some (40,none):=by rw[et,bw,←et,if_pos (by rw[et,kindOk,←et];simp[e1,e2])]
   simp only[a130,eV,eW,eX,eY,gm,gX,B1,dI,ah.bbw,aw,reduceIte,Nat.reduceEqDiff,y1,y2,←eh1,au,l0,l6,ai (we _ _ _ _),nl,dm,aL,Int.reduceBEq,iq,ai (dA _ _ _),e1,l4,z,jah]
   exact j6 (v:=da p (bw t)) (by simp only[aa,reduceIte,Nat.reduceEqDiff];rw[ef];rfl) (ck _ _) (c7 _ _) rfl
  |true=>
   have z:((ns.length:Int)==3)=true:=by simp at e2⊢;omega
   have ek:¬kindOk t=false:=by rw[et,kindOk,←et];simp[e1,e2]
   obtain⟨q1,q2,wq⟩:=M3 (EA s ss h1)
   cases eq:jm s with
   |true=>
    rw[eq]at wq
    have wq:WC env 141 [.str s] h1 (fun o=>o=.ret ⟨.aF [.str q1,.str q2,.bL],h1,.none⟩):=wq
    have ef:bw t=none:=by rw[et,bw,←et,if_neg ek,if_neg (by decide),if_neg (by decide),if_pos (by decide),eq];rfl
    simp only[a130,eV,eW,eX,eY,gm,gX,B1,dI,ah.bbw,aw,reduceIte,Nat.reduceEqDiff,y1,y2,←eh1,au,l0,l6,ai (we _ _ _ _),nl,dm,aL,Int.reduceBEq,ir,iu,e1,l4,z,iv,kg,mO,v7,jD,mN,l2,ai wq,cm,Q8,Q9,Q_,eq_nil,jag]
    exact j6 (v:=da p (bw t)) (by simp only[aa,reduceIte,Nat.reduceEqDiff];rw[ef];rfl) (ck _ _) (c7 _ _) rfl
   |false=>
    rw[eq]at wq
    have wq:WC env 141 [.str s] h1 (fun o=>o=.ret ⟨.aF [.str q1,.str q2,oH 0 24],h1,.none⟩):=wq
    have ef:bw t=some (24,some (0,24)):=by rw[et,bw,←et,if_neg ek,if_neg (by decide),if_neg (by decide),if_pos (by decide),eq];rfl
    simp only[a130,eV,eW,eX,eY,gm,gX,B1,dI,ah.bbw,aw,reduceIte,Nat.reduceEqDiff,y1,y2,←eh1,au,l0,l6,ai (we _ _ _ _),nl,dm,aL,Int.reduceBEq,ir,iu,e1,l4,z,iv,kg,mO,v7,jD,zS,l2,ai wq,cm,Q8,Q9,Q_,B0,bak,ai (xx _ _ _),ai (uw _ _ _ _ _),jag]
    exact j6 (v:=da p (bw t)) (by simp only[aa,reduceIte,Nat.reduceEqDiff];rw[ef];rfl) (ck _ _) (c7 _ _) rfl
theorem ab8 (i:Int) (s:List UInt8) (c:Int) (nf:Option Bool) (ns:List Int) (af:Option Bool) (ar:List Tm) (ho:Tm.Ok (.mk 4 i s c nf ns af ar)) (p:Int) (h:Heap):WC env 130 [.agg (tc (.mk 4 i s c nf ns af ar)),.int .i64 p] h (fun o=>o=.ret ⟨da p (bw (.mk 4 i s c nf ns af ar)),h,.none⟩):=by
 obtain⟨ss,sn,sa,_⟩:=ho.lens
 refine ad rfl rfl rfl (by simp only[bdk,az]) ?_
 obtain⟨t,et⟩:∃t:Tm,t=(.mk 4 i s c nf ns af ar):=⟨_,rfl⟩
 rw[←et];obtain⟨cs,ec⟩:∃cs,cs=tc t:=⟨_,rfl⟩
 obtain⟨nv,en⟩:∃nv,nv=aM nf ns.length (bN ns):=⟨_,rfl⟩
 obtain⟨av,ea⟩:∃av,av=aM af ar.length (bq ar):=⟨_,rfl⟩
 have ec' :cs=[.int .i64 4,.int .i64 i,.str s,.int .u32 c,nv,av]:=by rw[ec,et,en,ea];rfl
 obtain⟨h1,eh1⟩:∃h1,h1=Heap.empty.new cs:=⟨_,rfl⟩
 have a1:h1.at_ Heap.empty.next 0=some [.int .i64 4,.int .i64 i,.str s,.int .u32 c,nv,av]:=by rw[←ec',eh1];exact aY _
 rw[←ec];have y1:(AV.agg cs).row=some cs:=rfl
 have y2:cs.length=6:=by rw[ec'];rfl
 have l0:=eK a1
 have l1:=gj a1
 have l2:=gk a1
 have l4:=eU a1
 have l5:=dZ a1
 have l6:bg h1 true 6 (.ptr Heap.empty.next 0 0)=some ⟨.agg cs,h1,.read⟩:=by rw[ec'];exact vy a1
 have we:∀bt bn ba h,WC env 139 [.agg cs,.bool bt,.bool bn,.bool ba] h (fun o=>o=.ret ⟨.bool (b7 t bt bn ba),h,.none⟩):=fun bt bn ba h=>by rw[ec];exact ig t bt bn ba h
 have nl:∀h,aN false h nv=some ⟨.int .i64 ns.length,h,.none⟩:=fun h=>by rw[en];exact bX _ _ _ (fun _=>trivial) h
 have al:∀h,aN false h av=some ⟨.int .i64 ar.length,h,.none⟩:=fun h=>by rw[ea];exact bX _ _ _ (fun _=>trivial) h
 cases e1:b7 t true true false with
 |false=>
  have ef:bw t=some (40,none):=by rw[et,bw,←et,if_pos (by rw[et,kindOk,←et];simp[e1])]
  simp only[a130,eV,eW,eX,eY,gm,gX,jE,v8,dI,ah.bbw,aw,reduceIte,Nat.reduceEqDiff,y1,y2,←eh1,au,l0,l6,ai (we _ _ _ _),dm,aL,Int.reduceBEq,iq,ai (dA _ _ _),e1,jah]
  exact j6 (v:=da p (bw t)) (by simp only[aa,reduceIte,Nat.reduceEqDiff];rw[ef];rfl) (ck _ _) (c7 _ _) rfl
 |true=>
  cases e2:(ns.length==2)with
  |false=>
   have z:((ns.length:Int)==2)=false:=by simp at e2⊢;omega
   have ef:bw t=some (40,none):=by rw[et,bw,←et,if_pos (by rw[et,kindOk,←et];simp[e1,e2])]
   simp only[a130,eV,eW,eX,eY,gm,gX,jE,v8,dI,ah.bbw,aw,reduceIte,Nat.reduceEqDiff,y1,y2,←eh1,au,l0,l6,ai (we _ _ _ _),nl,dm,aL,Int.reduceBEq,iq,ai (dA _ _ _),e1,l4,z,jah]
   exact j6 (v:=da p (bw t)) (by simp only[aa,reduceIte,Nat.reduceEqDiff];rw[ef];rfl) (ck _ _) (c7 _ _) rfl
  |true=>
   have z:((ns.length:Int)==2)=true:=by simp at e2⊢;omega
   have ek:¬kindOk t=false:=by rw[et,kindOk,←et];simp[e1,e2]
   obtain⟨q1,q2,wq⟩:=M3 (EA s ss h1)
   cases eq:jm s with
   |true=>
    rw[eq]at wq
    have wq:WC env 141 [.str s] h1 (fun o=>o=.ret ⟨.aF [.str q1,.str q2,.bL],h1,.none⟩):=wq
    have ef:bw t=none:=by rw[et,bw,←et,if_neg ek,if_neg (by decide),if_neg (by decide),if_pos (by decide),eq];rfl
    simp only[a130,eV,eW,eX,eY,gm,gX,jE,v8,dI,ah.bbw,aw,reduceIte,Nat.reduceEqDiff,y1,y2,←eh1,au,l0,l6,ai (we _ _ _ _),nl,dm,aL,Int.reduceBEq,ir,iu,e1,l4,z,iv,kg,mO,sG,v7,jD,mN,l2,ai wq,cm,Q8,Q9,Q_,eq_nil,jag]
    exact j6 (v:=da p (bw t)) (by simp only[aa,reduceIte,Nat.reduceEqDiff];rw[ef];rfl) (ck _ _) (c7 _ _) rfl
   |false=>
    rw[eq]at wq
    have wq:WC env 141 [.str s] h1 (fun o=>o=.ret ⟨.aF [.str q1,.str q2,oH 0 24],h1,.none⟩):=wq
    have ef:bw t=some (24,some (0,24)):=by rw[et,bw,←et,if_neg ek,if_neg (by decide),if_neg (by decide),if_pos (by decide),eq];rfl
    simp only[a130,eV,eW,eX,eY,gm,gX,jE,v8,dI,ah.bbw,aw,reduceIte,Nat.reduceEqDiff,y1,y2,←eh1,au,l0,l6,ai (we _ _ _ _),nl,dm,aL,Int.reduceBEq,ir,iu,e1,l4,z,iv,kg,mO,sG,v7,jD,zS,l2,ai wq,cm,Q8,Q9,Q_,B0,bak,ai (xx _ _ _),ai (uw _ _ _ _ _),jag]
    exact j6 (v:=da p (bw t)) (by simp only[aa,reduceIte,Nat.reduceEqDiff];rw[ef];rfl) (ck _ _) (c7 _ _) rfl
theorem ab9 (i:Int) (s:List UInt8) (c:Int) (nf:Option Bool) (ns:List Int) (af:Option Bool) (ar:List Tm) (ho:Tm.Ok (.mk 5 i s c nf ns af ar)) (p:Int) (h:Heap):WC env 130 [.agg (tc (.mk 5 i s c nf ns af ar)),.int .i64 p] h (fun o=>o=.ret ⟨da p (bw (.mk 5 i s c nf ns af ar)),h,.none⟩):=by
 obtain⟨ss,sn,sa,_⟩:=ho.lens
 refine ad rfl rfl rfl (by simp only[bdk,az]) ?_
 obtain⟨t,et⟩:∃t:Tm,t=(.mk 5 i s c nf ns af ar):=⟨_,rfl⟩
 rw[←et];obtain⟨cs,ec⟩:∃cs,cs=tc t:=⟨_,rfl⟩
 obtain⟨nv,en⟩:∃nv,nv=aM nf ns.length (bN ns):=⟨_,rfl⟩
 obtain⟨av,ea⟩:∃av,av=aM af ar.length (bq ar):=⟨_,rfl⟩
 have ec' :cs=[.int .i64 5,.int .i64 i,.str s,.int .u32 c,nv,av]:=by rw[ec,et,en,ea];rfl
 obtain⟨h1,eh1⟩:∃h1,h1=Heap.empty.new cs:=⟨_,rfl⟩
 have a1:h1.at_ Heap.empty.next 0=some [.int .i64 5,.int .i64 i,.str s,.int .u32 c,nv,av]:=by rw[←ec',eh1];exact aY _
 rw[←ec];have y1:(AV.agg cs).row=some cs:=rfl
 have y2:cs.length=6:=by rw[ec'];rfl
 have l0:=eK a1
 have l1:=gj a1
 have l2:=gk a1
 have l4:=eU a1
 have l5:=dZ a1
 have l6:bg h1 true 6 (.ptr Heap.empty.next 0 0)=some ⟨.agg cs,h1,.read⟩:=by rw[ec'];exact vy a1
 have we:∀bt bn ba h,WC env 139 [.agg cs,.bool bt,.bool bn,.bool ba] h (fun o=>o=.ret ⟨.bool (b7 t bt bn ba),h,.none⟩):=fun bt bn ba h=>by rw[ec];exact ig t bt bn ba h
 have nl:∀h,aN false h nv=some ⟨.int .i64 ns.length,h,.none⟩:=fun h=>by rw[en];exact bX _ _ _ (fun _=>trivial) h
 have al:∀h,aN false h av=some ⟨.int .i64 ar.length,h,.none⟩:=fun h=>by rw[ea];exact bX _ _ _ (fun _=>trivial) h
 cases e1:b7 t false false true with
 |false=>
  have ef:bw t=some (40,none):=by rw[et,bw,←et,if_pos (by rw[et,kindOk,←et];simp[e1])]
  simp only[a130,eV,eW,eX,eY,gm,gX,jE,kh,G5,dI,ah.bbw,aw,reduceIte,Nat.reduceEqDiff,y1,y2,←eh1,au,l0,l6,ai (we _ _ _ _),dm,Int.reduceBEq,iq,ai (dA _ _ _),e1,jah]
  exact j6 (v:=da p (bw t)) (by simp only[aa,reduceIte,Nat.reduceEqDiff];rw[ef];rfl) (ck _ _) (c7 _ _) rfl
 |true=>
  have ek:¬kindOk t=false:=by rw[et,kindOk,←et];simp[e1]
  have ef:bw t=none:=by rw[et,bw,←et,if_neg ek,if_neg (by decide),if_neg (by decide),if_neg (by decide)]
  simp only[a130,eV,eW,eX,eY,gm,gX,jE,kh,G5,dI,ah.bbw,aw,reduceIte,Nat.reduceEqDiff,y1,y2,←eh1,au,l0,l6,ai (we _ _ _ _),dm,Int.reduceBEq,ir,iu,e1,iv,kg,mO,sG,jD,mN,eq_nil,jag]
  exact j6 (v:=da p (bw t)) (by simp only[aa,reduceIte,Nat.reduceEqDiff];rw[ef];rfl) (ck _ _) (c7 _ _) rfl
theorem ab_ (i:Int) (s:List UInt8) (c:Int) (nf:Option Bool) (ns:List Int) (af:Option Bool) (ar:List Tm) (ho:Tm.Ok (.mk 6 i s c nf ns af ar)) (p:Int) (h:Heap):WC env 130 [.agg (tc (.mk 6 i s c nf ns af ar)),.int .i64 p] h (fun o=>o=.ret ⟨da p (bw (.mk 6 i s c nf ns af ar)),h,.none⟩):=by
 obtain⟨ss,sn,sa,_⟩:=ho.lens
 refine ad rfl rfl rfl (by simp only[bdk,az]) ?_
 obtain⟨t,et⟩:∃t:Tm,t=(.mk 6 i s c nf ns af ar):=⟨_,rfl⟩
 rw[←et];obtain⟨cs,ec⟩:∃cs,cs=tc t:=⟨_,rfl⟩
 obtain⟨nv,en⟩:∃nv,nv=aM nf ns.length (bN ns):=⟨_,rfl⟩
 obtain⟨av,ea⟩:∃av,av=aM af ar.length (bq ar):=⟨_,rfl⟩
 have ec' :cs=[.int .i64 6,.int .i64 i,.str s,.int .u32 c,nv,av]:=by rw[ec,et,en,ea];rfl
 obtain⟨h1,eh1⟩:∃h1,h1=Heap.empty.new cs:=⟨_,rfl⟩
 have a1:h1.at_ Heap.empty.next 0=some [.int .i64 6,.int .i64 i,.str s,.int .u32 c,nv,av]:=by rw[←ec',eh1];exact aY _
 rw[←ec];have y1:(AV.agg cs).row=some cs:=rfl
 have y2:cs.length=6:=by rw[ec'];rfl
 have l0:=eK a1
 have l1:=gj a1
 have l2:=gk a1
 have l4:=eU a1
 have l5:=dZ a1
 have l6:bg h1 true 6 (.ptr Heap.empty.next 0 0)=some ⟨.agg cs,h1,.read⟩:=by rw[ec'];exact vy a1
 have we:∀bt bn ba h,WC env 139 [.agg cs,.bool bt,.bool bn,.bool ba] h (fun o=>o=.ret ⟨.bool (b7 t bt bn ba),h,.none⟩):=fun bt bn ba h=>by rw[ec];exact ig t bt bn ba h
 have nl:∀h,aN false h nv=some ⟨.int .i64 ns.length,h,.none⟩:=fun h=>by rw[en];exact bX _ _ _ (fun _=>trivial) h
 have al:∀h,aN false h av=some ⟨.int .i64 ar.length,h,.none⟩:=fun h=>by rw[ea];exact bX _ _ _ (fun _=>trivial) h
 cases e1:b7 t false false false with
 |false=>
  have ef:bw t=some (40,none):=by rw[et,bw,←et,if_pos (by rw[et,kindOk,←et];simp[e1])]
  simp only[a130,eV,eW,eX,eY,gm,gX,jE,kh,mP,G6,dI,ah.bbw,aw,reduceIte,Nat.reduceEqDiff,y1,y2,←eh1,au,l0,l6,ai (we _ _ _ _),dm,Int.reduceBEq,iq,ai (dA _ _ _),e1,jah]
  exact j6 (v:=da p (bw t)) (by simp only[aa,reduceIte,Nat.reduceEqDiff];rw[ef];rfl) (ck _ _) (c7 _ _) rfl
 |true=>
  have ek:¬kindOk t=false:=by rw[et,kindOk,←et];simp[e1]
  have ef:bw t=none:=by rw[et,bw,←et,if_neg ek,if_neg (by decide),if_neg (by decide),if_neg (by decide)]
  simp only[a130,eV,eW,eX,eY,gm,gX,jE,kh,mP,G6,dI,ah.bbw,aw,reduceIte,Nat.reduceEqDiff,y1,y2,←eh1,au,l0,l6,ai (we _ _ _ _),dm,Int.reduceBEq,ir,iu,e1,iv,kg,mO,sG,jD,mN,eq_nil,jag]
  exact j6 (v:=da p (bw t)) (by simp only[aa,reduceIte,Nat.reduceEqDiff];rw[ef];rfl) (ck _ _) (c7 _ _) rfl
theorem aca (i:Int) (s:List UInt8) (c:Int) (nf:Option Bool) (ns:List Int) (af:Option Bool) (ar:List Tm) (ho:Tm.Ok (.mk 7 i s c nf ns af ar)) (p:Int) (h:Heap):WC env 130 [.agg (tc (.mk 7 i s c nf ns af ar)),.int .i64 p] h (fun o=>o=.ret ⟨da p (bw (.mk 7 i s c nf ns af ar)),h,.none⟩):=by
 obtain⟨ss,sn,sa,_⟩:=ho.lens
 refine ad rfl rfl rfl (by simp only[bdk,az]) ?_
 obtain⟨t,et⟩:∃t:Tm,t=(.mk 7 i s c nf ns af ar):=⟨_,rfl⟩
 rw[←et];obtain⟨cs,ec⟩:∃cs,cs=tc t:=⟨_,rfl⟩
 obtain⟨nv,en⟩:∃nv,nv=aM nf ns.length (bN ns):=⟨_,rfl⟩
 obtain⟨av,ea⟩:∃av,av=aM af ar.length (bq ar):=⟨_,rfl⟩
 have ec' :cs=[.int .i64 7,.int .i64 i,.str s,.int .u32 c,nv,av]:=by rw[ec,et,en,ea];rfl
 obtain⟨h1,eh1⟩:∃h1,h1=Heap.empty.new cs:=⟨_,rfl⟩
 have a1:h1.at_ Heap.empty.next 0=some [.int .i64 7,.int .i64 i,.str s,.int .u32 c,nv,av]:=by rw[←ec',eh1];exact aY _
 rw[←ec];have y1:(AV.agg cs).row=some cs:=rfl
 have y2:cs.length=6:=by rw[ec'];rfl
 have l0:=eK a1
 have l1:=gj a1
 have l2:=gk a1
 have l4:=eU a1
 have l5:=dZ a1
 have l6:bg h1 true 6 (.ptr Heap.empty.next 0 0)=some ⟨.agg cs,h1,.read⟩:=by rw[ec'];exact vy a1
 have we:∀bt bn ba h,WC env 139 [.agg cs,.bool bt,.bool bn,.bool ba] h (fun o=>o=.ret ⟨.bool (b7 t bt bn ba),h,.none⟩):=fun bt bn ba h=>by rw[ec];exact ig t bt bn ba h
 have nl:∀h,aN false h nv=some ⟨.int .i64 ns.length,h,.none⟩:=fun h=>by rw[en];exact bX _ _ _ (fun _=>trivial) h
 have al:∀h,aN false h av=some ⟨.int .i64 ar.length,h,.none⟩:=fun h=>by rw[ea];exact bX _ _ _ (fun _=>trivial) h
 cases e1:b7 t false false true with
 |false=>
  have ef:bw t=some (40,none):=by rw[et,bw,←et,if_pos (by rw[et,kindOk,←et];simp[e1])]
  simp only[a130,eV,eW,eX,eY,gm,gX,jE,kh,mP,sH,v_,dI,ah.bbw,aw,reduceIte,Nat.reduceEqDiff,y1,y2,←eh1,au,l0,l6,ai (we _ _ _ _),dm,aL,Int.reduceBEq,iq,ai (dA _ _ _),e1,jah]
  exact j6 (v:=da p (bw t)) (by simp only[aa,reduceIte,Nat.reduceEqDiff];rw[ef];rfl) (ck _ _) (c7 _ _) rfl
 |true=>
  by_cases c2:ar.length≥2
  case neg=>
   have z:((ar.length:Int)≥2)=False:=eq_false (by omega)
   have ef:bw t=some (40,none):=by rw[et,bw,←et,if_pos (by rw[et,kindOk,←et];simp[e1,c2])]
   simp only[a130,eV,eW,eX,eY,gm,gX,jE,kh,mP,sH,v_,dI,ah.bbw,aw,reduceIte,Nat.reduceEqDiff,y1,y2,←eh1,au,l0,l6,ai (we _ _ _ _),al,dm,aL,Int.reduceBEq,iq,ai (dA _ _ _),e1,l5,z,jah]
   exact j6 (v:=da p (bw t)) (by simp only[aa,reduceIte,Nat.reduceEqDiff];rw[ef];rfl) (ck _ _) (c7 _ _) rfl
  have z:((ar.length:Int)≥2)=True:=eq_true (by omega)
  have zs:IntKind.wrap .i64 ((ar.length:Int)-1)=((ar.length-1:Nat):Int):=aX (by omega) (by omega)
  have hi:ar.length-1<ar.length:=by omega
  have ix:aZ 6 av (.int .i64 ((ar.length-1:Nat):Int))=some (.fp ((bq ar).drop ((ar.length-1)*6))):=by rw[ea];exact fI hi
  have lx:∀h,bg h false 1 (.fp ((bq ar).drop ((ar.length-1)*6)))=some ⟨.int .i64 (ar[ar.length-1]).kind,h,.none⟩:=fun h=>Ra hi h
  have ln:=pR ar hi
  cases e3:((ar[ar.length-1]).kind !=7)with
  |false=>
   rw[e3]at ln
   have e3' :(!((ar[ar.length-1]).kind==7))=false:=e3
   have ef:bw t=some (40,none):=by rw[et,bw,←et,if_pos (by rw[et,kindOk,←et];simp[e1,ln])]
   simp only[a130,eV,eW,eX,eY,gm,gX,jE,kh,mP,sH,v_,dI,ah.bbw,aw,reduceIte,Nat.reduceEqDiff,y1,y2,←eh1,au,l0,l6,ai (we _ _ _ _),al,dm,aL,Int.reduceBEq,iq,ai (dA _ _ _),e1,l5,z,zs,ix,lx,e3,bah,jah]
   exact j6 (v:=da p (bw t)) (by simp only[aa,reduceIte,Nat.reduceEqDiff];rw[ef];rfl) (ck _ _) (c7 _ _) rfl
  |true=>
   rw[e3]at ln
   have e3' :(!((ar[ar.length-1]).kind==7))=true:=e3
   have ek:¬kindOk t=false:=by rw[et,kindOk,←et];simp[e1,ln,c2]
   have ef:bw t=none:=by rw[et,bw,←et,if_neg ek,if_neg (by decide),if_neg (by decide),if_neg (by decide)]
   simp only[a130,eV,eW,eX,eY,gm,gX,jE,kh,mP,sH,v_,dI,ah.bbw,aw,reduceIte,Nat.reduceEqDiff,y1,y2,←eh1,au,l0,l6,ai (we _ _ _ _),al,dm,aL,Int.reduceBEq,ir,iu,e1,l5,z,zs,ix,lx,e3,bah,iv,kg,mO,sG,jD,mN,eq_nil,jag]
   exact j6 (v:=da p (bw t)) (by simp only[aa,reduceIte,Nat.reduceEqDiff];rw[ef];rfl) (ck _ _) (c7 _ _) rfl
theorem acb (k:Int) (i:Int) (s:List UInt8) (c:Int) (nf:Option Bool) (ns:List Int) (af:Option Bool) (ar:List Tm) (ho:Tm.Ok (.mk k i s c nf ns af ar)) (hk:∀j:Int,1≤j→j≤7→k≠j) (p:Int) (h:Heap):WC env 130 [.agg (tc (.mk k i s c nf ns af ar)),.int .i64 p] h (fun o=>o=.ret ⟨da p (bw (.mk k i s c nf ns af ar)),h,.none⟩):=by
 obtain⟨ss,sn,sa,_⟩:=ho.lens
 refine ad rfl rfl rfl (by simp only[bdk,az]) ?_
 obtain⟨t,et⟩:∃t:Tm,t=(.mk k i s c nf ns af ar):=⟨_,rfl⟩
 rw[←et];obtain⟨cs,ec⟩:∃cs,cs=tc t:=⟨_,rfl⟩
 obtain⟨nv,en⟩:∃nv,nv=aM nf ns.length (bN ns):=⟨_,rfl⟩
 obtain⟨av,ea⟩:∃av,av=aM af ar.length (bq ar):=⟨_,rfl⟩
 have ec' :cs=[.int .i64 k,.int .i64 i,.str s,.int .u32 c,nv,av]:=by rw[ec,et,en,ea];rfl
 obtain⟨h1,eh1⟩:∃h1,h1=Heap.empty.new cs:=⟨_,rfl⟩
 have a1:h1.at_ Heap.empty.next 0=some [.int .i64 k,.int .i64 i,.str s,.int .u32 c,nv,av]:=by rw[←ec',eh1];exact aY _
 rw[←ec];have y1:(AV.agg cs).row=some cs:=rfl
 have y2:cs.length=6:=by rw[ec'];rfl
 have l0:=eK a1
 have l1:=gj a1
 have l2:=gk a1
 have l4:=eU a1
 have l5:=dZ a1
 have l6:bg h1 true 6 (.ptr Heap.empty.next 0 0)=some ⟨.agg cs,h1,.read⟩:=by rw[ec'];exact vy a1
 have we:∀bt bn ba h,WC env 139 [.agg cs,.bool bt,.bool bn,.bool ba] h (fun o=>o=.ret ⟨.bool (b7 t bt bn ba),h,.none⟩):=fun bt bn ba h=>by rw[ec];exact ig t bt bn ba h
 have nl:∀h,aN false h nv=some ⟨.int .i64 ns.length,h,.none⟩:=fun h=>by rw[en];exact bX _ _ _ (fun _=>trivial) h
 have al:∀h,aN false h av=some ⟨.int .i64 ar.length,h,.none⟩:=fun h=>by rw[ea];exact bX _ _ _ (fun _=>trivial) h
 have k1:(k==1)=false:=by simpa using hk 1 (by omega) (by omega)
 have k2:(k==2)=false:=by simpa using hk 2 (by omega) (by omega)
 have k3:(k==3)=false:=by simpa using hk 3 (by omega) (by omega)
 have k4:(k==4)=false:=by simpa using hk 4 (by omega) (by omega)
 have k5:(k==5)=false:=by simpa using hk 5 (by omega) (by omega)
 have k6:(k==6)=false:=by simpa using hk 6 (by omega) (by omega)
 have k7:(k==7)=false:=by simpa using hk 7 (by omega) (by omega)
 have ef:bw t=some (40,none):=by rw[et,bw,←et,if_pos (by rw[et,kindOk];simp only[hk 1 (by omega) (by omega),hk 2 (by omega) (by omega),hk 3 (by omega) (by omega),hk 4 (by omega) (by omega),hk 5 (by omega) (by omega),hk 6 (by omega) (by omega),hk 7 (by omega) (by omega),if_false])]
 simp only[a130,eV,eW,eX,eY,gm,gX,jE,kh,mP,sH,dI,ah.bbw,aw,reduceIte,Nat.reduceEqDiff,y1,y2,←eh1,au,l0,dm,k1,k2,k3,k4,k5,k6,k7,iq,ai (dA _ _ _),jah]
 exact j6 (v:=da p (bw t)) (by simp only[aa,reduceIte,Nat.reduceEqDiff];rw[ef];rfl) (ck _ _) (c7 _ _) rfl
theorem TE (t:Tm) (ho:t.Ok) (p:Int) (h:Heap):WC env 130 [.agg (tc t),.int .i64 p] h (fun o=>o=.ret ⟨da p (bw t),h,.none⟩):=by
 rcases t with⟨k,i,s,c,nf,ns,af,ar⟩
 by_cases e1:k=1
 ·subst e1;exact ab5 i s c nf ns af ar ho p h
 by_cases e2:k=2
 ·subst e2;exact ab6 i s c nf ns af ar ho p h
 by_cases e3:k=3
 ·subst e3;exact ab7 i s c nf ns af ar ho p h
 by_cases e4:k=4
 ·subst e4;exact ab8 i s c nf ns af ar ho p h
 by_cases e5:k=5
 ·subst e5;exact ab9 i s c nf ns af ar ho p h
 by_cases e6:k=6
 ·subst e6;exact ab_ i s c nf ns af ar ho p h
 by_cases e7:k=7
 ·subst e7;exact aca i s c nf ns af ar ho p h
 exact acb k i s c nf ns af ar ho (fun j h1 h2=>by omega) p h
end Go.Bf
namespace Go.Bf
open Go.AM
theorem WH (k i:Int) (s:List UInt8) (c:Int) {nv av:AV} (b:UInt8) (l:List UInt8) (bb:Bool) (n:Nat) (cs:List AV) (hn:SN nv) (ha:SN av):nS ux [.agg [.int .i64 k,.int .i64 i,.str (b::l),.int .u32 c,nv,av],.str [105]]=some (.bool false):=by
 cases hn<;>cases ha<;>kernel_rfl
theorem WI (k i:Int) (s:List UInt8) (c:Int) {nv av:AV} (b:UInt8) (l:List UInt8) (bb:Bool) (n:Nat) (cs:List AV) (hn:SN nv) (ha:SN av) (hc:c≠0):nS ux [.agg [.int .i64 k,.int .i64 i,.str [],.int .u32 c,nv,av],.str [105]]=some (.bool false):=by
 cases hn<;>cases ha<;>(cases i0 c with
  |z=>exact absurd rfl hc
  |p n=>kernel_rfl
  |m n=>kernel_rfl)
theorem WJ (k i:Int) (s:List UInt8) (c:Int) {nv av:AV} (b:UInt8) (l:List UInt8) (bb:Bool) (n:Nat) (cs:List AV) (ha:SN av):nS ux [.agg [.int .i64 k,.int .i64 i,.str [],.int .u32 0,(.fs bb (n+1) cs),av],.str [105]]=some (.bool false):=by
 cases ha<;>kernel_rfl
theorem WK (k i:Int) (s:List UInt8) (c:Int) {nv av:AV} (b:UInt8) (l:List UInt8) (bb:Bool) (n:Nat) (cs:List AV) (hn:S0 nv):nS ux [.agg [.int .i64 k,.int .i64 i,.str [],.int .u32 0,nv,(.fs bb (n+1) cs)],.str [105]]=some (.bool false):=by
 cases hn<;>kernel_rfl
theorem TF (k i:Int) (s:List UInt8) (c:Int) {nv av:AV} (hn:S0 nv) (ha:S0 av):nS ux [.agg [.int .i64 k,.int .i64 i,.str [],.int .u32 0,nv,av],.str [105]]=some (.bool true):=by
 cases hn<;>cases ha<;>kernel_rfl
theorem ahI (k i:Int) (s:List UInt8) (c:Int) (nf:Option Bool) (ns:List Int) (af:Option Bool) (ar:List Tm) (h:Heap):WC env 83 [.agg (tc (.mk k i s c nf ns af ar)),.str [105]] h (fun o=>o=.ret ⟨.bool (s==[]&&c==0&&ns.length==0&&ar.length==0),h,.none⟩):=by
 have hn:=M4 nf ns.length (bN ns)
 have ha:=M4 af ar.length (bq ar)
 refine pure_run (n:=29) rfl rfl rfl (by simp only[bdk,az]) rfl ?_
 show nS ux [.agg [.int .i64 k,.int .i64 i,.str s,.int .u32 c,aM nf ns.length (bN ns),aM af ar.length (bq ar)],.str [105]]=_
 generalize aM nf ns.length (bN ns)=nv at*
 generalize aM af ar.length (bq ar)=av at*
 cases s with
 |cons b l=>rw[WH k i [] c b l false 0 [] hn.any ha.any];simp
 |nil=>
 by_cases hc:c=0
 case neg=>rw[WI k i [] c 0 [] false 0 [] hn.any ha.any hc];simp[hc]
 subst hc;cases ns with
 |cons x l=>
  obtain⟨bb,cs,rfl⟩:=G7.succ (n:=l.length) hn
  rw[WJ (nv:=.ax) k i [] 0 0 [] bb l.length cs ha.any];simp
 |nil=>
 cases ar with
 |cons x l=>
  obtain⟨bb,cs,rfl⟩:=G7.succ (n:=l.length) ha
  rw[WK (av:=.ax) k i [] 0 0 [] bb l.length cs hn.zero];simp
 |nil=>
 rw[TF k i [] 0 hn.zero ha.zero];simp
theorem WL (k i:Int) (s:List UInt8) (c:Int) {nv av:AV} (b:UInt8) (l:List UInt8) (bb:Bool) (n:Nat) (cs:List AV) (hn:SN nv) (ha:SN av) (hi:i≠0):nS ux [.agg [.int .i64 k,.int .i64 i,.str s,.int .u32 c,nv,av],.str [115]]=some (.bool false):=by
 cases hn<;>cases ha<;>(cases i0 i with
  |z=>exact absurd rfl hi
  |p n=>kernel_rfl
  |m n=>kernel_rfl)
theorem WM (k i:Int) (s:List UInt8) (c:Int) {nv av:AV} (b:UInt8) (l:List UInt8) (bb:Bool) (n:Nat) (cs:List AV) (hn:SN nv) (ha:SN av) (hc:c≠0):nS ux [.agg [.int .i64 k,.int .i64 0,.str s,.int .u32 c,nv,av],.str [115]]=some (.bool false):=by
 cases hn<;>cases ha<;>(cases i0 c with
  |z=>exact absurd rfl hc
  |p n=>kernel_rfl
  |m n=>kernel_rfl)
theorem WN (k i:Int) (s:List UInt8) (c:Int) {nv av:AV} (b:UInt8) (l:List UInt8) (bb:Bool) (n:Nat) (cs:List AV) (ha:SN av):nS ux [.agg [.int .i64 k,.int .i64 0,.str s,.int .u32 0,(.fs bb (n+1) cs),av],.str [115]]=some (.bool false):=by
 cases ha<;>kernel_rfl
theorem WO (k i:Int) (s:List UInt8) (c:Int) {nv av:AV} (b:UInt8) (l:List UInt8) (bb:Bool) (n:Nat) (cs:List AV) (hn:S0 nv):nS ux [.agg [.int .i64 k,.int .i64 0,.str s,.int .u32 0,nv,(.fs bb (n+1) cs)],.str [115]]=some (.bool false):=by
 cases hn<;>kernel_rfl
theorem TG (k i:Int) (s:List UInt8) (c:Int) {nv av:AV} (hn:S0 nv) (ha:S0 av):nS ux [.agg [.int .i64 k,.int .i64 0,.str s,.int .u32 0,nv,av],.str [115]]=some (.bool true):=by
 cases hn<;>cases ha<;>kernel_rfl
theorem ahJ (k i:Int) (s:List UInt8) (c:Int) (nf:Option Bool) (ns:List Int) (af:Option Bool) (ar:List Tm) (h:Heap):WC env 83 [.agg (tc (.mk k i s c nf ns af ar)),.str [115]] h (fun o=>o=.ret ⟨.bool (i==0&&c==0&&ns.length==0&&ar.length==0),h,.none⟩):=by
 have hn:=M4 nf ns.length (bN ns)
 have ha:=M4 af ar.length (bq ar)
 refine pure_run (n:=29) rfl rfl rfl (by simp only[bdk,az]) rfl ?_
 show nS ux [.agg [.int .i64 k,.int .i64 i,.str s,.int .u32 c,aM nf ns.length (bN ns),aM af ar.length (bq ar)],.str [115]]=_
 generalize aM nf ns.length (bN ns)=nv at*
 generalize aM af ar.length (bq ar)=av at*
 by_cases hi:i=0
 case neg=>rw[WL k i s c 0 [] false 0 [] hn.any ha.any hi];simp[hi]
 subst hi
 by_cases hc:c=0
 case neg=>rw[WM k 0 s c 0 [] false 0 [] hn.any ha.any hc];simp[hc]
 subst hc;cases ns with
 |cons x l=>
  obtain⟨bb,cs,rfl⟩:=G7.succ (n:=l.length) hn
  rw[WN (nv:=.ax) k 0 s 0 0 [] bb l.length cs ha.any];simp
 |nil=>
 cases ar with
 |cons x l=>
  obtain⟨bb,cs,rfl⟩:=G7.succ (n:=l.length) ha
  rw[WO (av:=.ax) k 0 s 0 0 [] bb l.length cs hn.zero];simp
 |nil=>
 rw[TG k 0 s 0 hn.zero ha.zero];simp
theorem M5 (k i:Int) (s:List UInt8) (c:Int) {nv av:AV} (b:UInt8) (l:List UInt8) (bb:Bool) (n:Nat) (cs:List AV) (hn:SN nv) (ha:SN av) (hi:i≠0):nS ux [.agg [.int .i64 k,.int .i64 i,.str s,.int .u32 c,nv,av],.str [115,99,110]]=some (.bool false):=by
 cases hn<;>cases ha<;>(cases i0 i with
  |z=>exact absurd rfl hi
  |p n=>kernel_rfl
  |m n=>kernel_rfl)
theorem M6 (k i:Int) (s:List UInt8) (c:Int) {nv av:AV} (b:UInt8) (l:List UInt8) (bb:Bool) (n:Nat) (cs:List AV) (hn:SN nv):nS ux [.agg [.int .i64 k,.int .i64 0,.str s,.int .u32 c,nv,(.fs bb (n+1) cs)],.str [115,99,110]]=some (.bool false):=by
 cases hn<;>kernel_rfl
theorem Kv (k i:Int) (s:List UInt8) (c:Int) {nv av:AV} (hn:SN nv) (ha:S0 av):nS ux [.agg [.int .i64 k,.int .i64 0,.str s,.int .u32 c,nv,av],.str [115,99,110]]=some (.bool true):=by
 cases hn<;>cases ha<;>kernel_rfl
theorem Kw (k i:Int) (s:List UInt8) (c:Int) (nf:Option Bool) (ns:List Int) (af:Option Bool) (ar:List Tm) (h:Heap):WC env 83 [.agg (tc (.mk k i s c nf ns af ar)),.str [115,99,110]] h (fun o=>o=.ret ⟨.bool (i==0&&ar.length==0),h,.none⟩):=by
 have hn:=M4 nf ns.length (bN ns)
 have ha:=M4 af ar.length (bq ar)
 refine pure_run (n:=29) rfl rfl rfl (by simp only[bdk,az]) rfl ?_
 show nS ux [.agg [.int .i64 k,.int .i64 i,.str s,.int .u32 c,aM nf ns.length (bN ns),aM af ar.length (bq ar)],.str [115,99,110]]=_
 generalize aM nf ns.length (bN ns)=nv at*
 generalize aM af ar.length (bq ar)=av at*
 by_cases hi:i=0
 case neg=>rw[M5 k i s c 0 [] false 0 [] hn.any ha.any hi];simp[hi]
 subst hi;cases ar with
 |cons x l=>
  obtain⟨bb,cs,rfl⟩:=G7.succ (n:=l.length) ha
  rw[M6 (av:=.ax) k 0 s c 0 [] bb l.length cs hn.any];simp
 |nil=>
 rw[Kv k 0 s c hn.any ha.zero];simp
theorem WQ (k i:Int) (s:List UInt8) (c:Int) {nv av:AV} (b:UInt8) (l:List UInt8) (bb:Bool) (n:Nat) (cs:List AV) (hn:SN nv) (ha:SN av) (hi:i≠0):nS ux [.agg [.int .i64 k,.int .i64 i,.str s,.int .u32 c,nv,av],.str [97]]=some (.bool false):=by
 cases hn<;>cases ha<;>(cases i0 i with
  |z=>exact absurd rfl hi
  |p n=>kernel_rfl
  |m n=>kernel_rfl)
theorem WR (k i:Int) (s:List UInt8) (c:Int) {nv av:AV} (b:UInt8) (l:List UInt8) (bb:Bool) (n:Nat) (cs:List AV) (hn:SN nv) (ha:SN av):nS ux [.agg [.int .i64 k,.int .i64 0,.str (b::l),.int .u32 c,nv,av],.str [97]]=some (.bool false):=by
 cases hn<;>cases ha<;>kernel_rfl
theorem WS (k i:Int) (s:List UInt8) (c:Int) {nv av:AV} (b:UInt8) (l:List UInt8) (bb:Bool) (n:Nat) (cs:List AV) (hn:SN nv) (ha:SN av) (hc:c≠0):nS ux [.agg [.int .i64 k,.int .i64 0,.str [],.int .u32 c,nv,av],.str [97]]=some (.bool false):=by
 cases hn<;>cases ha<;>(cases i0 c with
  |z=>exact absurd rfl hc
  |p n=>kernel_rfl
  |m n=>kernel_rfl)
theorem WT (k i:Int) (s:List UInt8) (c:Int) {nv av:AV} (b:UInt8) (l:List UInt8) (bb:Bool) (n:Nat) (cs:List AV) (ha:SN av):nS ux [.agg [.int .i64 k,.int .i64 0,.str [],.int .u32 0,(.fs bb (n+1) cs),av],.str [97]]=some (.bool false):=by
 cases ha<;>kernel_rfl
theorem TH (k i:Int) (s:List UInt8) (c:Int) {nv av:AV} (hn:S0 nv) (ha:SN av):nS ux [.agg [.int .i64 k,.int .i64 0,.str [],.int .u32 0,nv,av],.str [97]]=some (.bool true):=by
 cases hn<;>cases ha<;>kernel_rfl
theorem WU (k i:Int) (s:List UInt8) (c:Int) (nf:Option Bool) (ns:List Int) (af:Option Bool) (ar:List Tm) (h:Heap):WC env 83 [.agg (tc (.mk k i s c nf ns af ar)),.str [97]] h (fun o=>o=.ret ⟨.bool (i==0&&s==[]&&c==0&&ns.length==0),h,.none⟩):=by
 have hn:=M4 nf ns.length (bN ns)
 have ha:=M4 af ar.length (bq ar)
 refine pure_run (n:=29) rfl rfl rfl (by simp only[bdk,az]) rfl ?_
 show nS ux [.agg [.int .i64 k,.int .i64 i,.str s,.int .u32 c,aM nf ns.length (bN ns),aM af ar.length (bq ar)],.str [97]]=_
 generalize aM nf ns.length (bN ns)=nv at*
 generalize aM af ar.length (bq ar)=av at*
 by_cases hi:i=0
 case neg=>rw[WQ k i s c 0 [] false 0 [] hn.any ha.any hi];simp[hi]
 subst hi;cases s with
 |cons b l=>rw[WR k 0 [] c b l false 0 [] hn.any ha.any];simp
 |nil=>
 by_cases hc:c=0
 case neg=>rw[WS k 0 [] c 0 [] false 0 [] hn.any ha.any hc];simp[hc]
 subst hc;cases ns with
 |cons x l=>
  obtain⟨bb,cs,rfl⟩:=G7.succ (n:=l.length) hn
  rw[WT (nv:=.ax) k 0 [] 0 0 [] bb l.length cs ha.any];simp
 |nil=>
 rw[TH k 0 [] 0 hn.zero ha.any];simp
theorem WV (k i:Int) (s:List UInt8) (c:Int) {nv av:AV} (b:UInt8) (l:List UInt8) (bb:Bool) (n:Nat) (cs:List AV) (hn:SN nv) (ha:SN av) (hi:i≠0):nS ux [.agg [.int .i64 k,.int .i64 i,.str s,.int .u32 c,nv,av],.str []]=some (.bool false):=by
 cases hn<;>cases ha<;>(cases i0 i with
  |z=>exact absurd rfl hi
  |p n=>kernel_rfl
  |m n=>kernel_rfl)
theorem WW (k i:Int) (s:List UInt8) (c:Int) {nv av:AV} (b:UInt8) (l:List UInt8) (bb:Bool) (n:Nat) (cs:List AV) (hn:SN nv) (ha:SN av):nS ux [.agg [.int .i64 k,.int .i64 0,.str (b::l),.int .u32 c,nv,av],.str []]=some (.bool false):=by
 cases hn<;>cases ha<;>kernel_rfl
theorem WX (k i:Int) (s:List UInt8) (c:Int) {nv av:AV} (b:UInt8) (l:List UInt8) (bb:Bool) (n:Nat) (cs:List AV) (hn:SN nv) (ha:SN av) (hc:c≠0):nS ux [.agg [.int .i64 k,.int .i64 0,.str [],.int .u32 c,nv,av],.str []]=some (.bool false):=by
 cases hn<;>cases ha<;>(cases i0 c with
  |z=>exact absurd rfl hc
  |p n=>kernel_rfl
  |m n=>kernel_rfl)
theorem WY (k i:Int) (s:List UInt8) (c:Int) {nv av:AV} (b:UInt8) (l:List UInt8) (bb:Bool) (n:Nat) (cs:List AV) (ha:SN av):nS ux [.agg [.int .i64 k,.int .i64 0,.str [],.int .u32 0,(.fs bb (n+1) cs),av],.str []]=some (.bool false):=by
 cases ha<;>kernel_rfl
theorem WZ (k i:Int) (s:List UInt8) (c:Int) {nv av:AV} (b:UInt8) (l:List UInt8) (bb:Bool) (n:Nat) (cs:List AV) (hn:S0 nv):nS ux [.agg [.int .i64 k,.int .i64 0,.str [],.int .u32 0,nv,(.fs bb (n+1) cs)],.str []]=some (.bool false):=by
 cases hn<;>kernel_rfl
theorem TI (k i:Int) (s:List UInt8) (c:Int) {nv av:AV} (hn:S0 nv) (ha:S0 av):nS ux [.agg [.int .i64 k,.int .i64 0,.str [],.int .u32 0,nv,av],.str []]=some (.bool true):=by
 cases hn<;>cases ha<;>kernel_rfl
theorem ahK (k i:Int) (s:List UInt8) (c:Int) (nf:Option Bool) (ns:List Int) (af:Option Bool) (ar:List Tm) (h:Heap):WC env 83 [.agg (tc (.mk k i s c nf ns af ar)),.str []] h (fun o=>o=.ret ⟨.bool (i==0&&s==[]&&c==0&&ns.length==0&&ar.length==0),h,.none⟩):=by
 have hn:=M4 nf ns.length (bN ns)
 have ha:=M4 af ar.length (bq ar)
 refine pure_run (n:=29) rfl rfl rfl (by simp only[bdk,az]) rfl ?_
 show nS ux [.agg [.int .i64 k,.int .i64 i,.str s,.int .u32 c,aM nf ns.length (bN ns),aM af ar.length (bq ar)],.str []]=_
 generalize aM nf ns.length (bN ns)=nv at*
 generalize aM af ar.length (bq ar)=av at*
 by_cases hi:i=0
 case neg=>rw[WV k i s c 0 [] false 0 [] hn.any ha.any hi];simp[hi]
 subst hi;cases s with
 |cons b l=>rw[WW k 0 [] c b l false 0 [] hn.any ha.any];simp
 |nil=>
 by_cases hc:c=0
 case neg=>rw[WX k 0 [] c 0 [] false 0 [] hn.any ha.any hc];simp[hc]
 subst hc;cases ns with
 |cons x l=>
  obtain⟨bb,cs,rfl⟩:=G7.succ (n:=l.length) hn
  rw[WY (nv:=.ax) k 0 [] 0 0 [] bb l.length cs ha.any];simp
 |nil=>
 cases ar with
 |cons x l=>
  obtain⟨bb,cs,rfl⟩:=G7.succ (n:=l.length) ha
  rw[WZ (av:=.ax) k 0 [] 0 0 [] bb l.length cs hn.zero];simp
 |nil=>
 rw[TI k 0 [] 0 hn.zero ha.zero];simp
theorem W0 (i:Int) (s:List UInt8) (c:Int) (nf:Option Bool) (ns:List Int) (af:Option Bool) (ar:List Tm) (ho:Tm.Ok (.mk 1 i s c nf ns af ar)) (h:Heap):WC env 49 [.agg (tc (.mk 1 i s c nf ns af ar))] h (fun o=>o=.ret ⟨.bool (kindOk (.mk 1 i s c nf ns af ar)),h,.none⟩):=by
 obtain⟨ss,sn,sa,_⟩:=ho.lens
 refine ad rfl rfl rfl (by simp only[bdk,az]) ?_
 obtain⟨t,et⟩:∃t:Tm,t=(.mk 1 i s c nf ns af ar):=⟨_,rfl⟩
 obtain⟨cs,ec⟩:∃cs,cs=tc t:=⟨_,rfl⟩
 obtain⟨nv,en⟩:∃nv,nv=aM nf ns.length (bN ns):=⟨_,rfl⟩
 obtain⟨av,ea⟩:∃av,av=aM af ar.length (bq ar):=⟨_,rfl⟩
 have ec' :cs=[.int .i64 1,.int .i64 i,.str s,.int .u32 c,nv,av]:=by rw[ec,et,en,ea];rfl
 obtain⟨h1,eh1⟩:∃h1,h1=Heap.empty.new cs:=⟨_,rfl⟩
 have a1:h1.at_ Heap.empty.next 0=some [.int .i64 1,.int .i64 i,.str s,.int .u32 c,nv,av]:=by rw[←ec',eh1];exact aY _
 rw[←et,←ec];have y1:(AV.agg cs).row=some cs:=rfl
 have y2:cs.length=6:=by rw[ec'];rfl
 have l0:=eK a1
 have l4:=eU a1
 have l5:=dZ a1
 have l6:bg h1 true 6 (.ptr Heap.empty.next 0 0)=some ⟨.agg cs,h1,.read⟩:=by rw[ec'];exact vy a1
 have nl:∀h,aN false h nv=some ⟨.int .i64 ns.length,h,.none⟩:=fun h=>by rw[en];exact bX _ _ _ (fun _=>trivial) h
 have al:∀h,aN false h av=some ⟨.int .i64 ar.length,h,.none⟩:=fun h=>by rw[ea];exact bX _ _ _ (fun _=>trivial) h
 obtain⟨x,ex⟩:∃x:Bool,x=(s==[]&&c==0&&ns.length==0&&ar.length==0):=⟨_,rfl⟩
 have wb:∀h,WC env 83 [.agg cs,.str [105]] h (fun o=>o=.ret ⟨.bool x,h,.none⟩):=fun h=>by rw[ec,et,ex];exact ahI 1 i s c nf ns af ar h
 have xe:b7 t false false false=x:=by
  rw[et,b7,ex];cases h1:(i==0)<;>cases h2:(s==[])<;>cases h3:(c==0)<;>cases h4:(ns.length==0)<;>cases h5:(ar.length==0)<;>simp
 have ek:kindOk t=x:=by rw[et,kindOk,←et];simp[xe]
 simp only[a49,oI,oJ,oK,ah.bbw,aw,reduceIte,Nat.reduceEqDiff,y1,y2,←eh1,au,baf,l0,l6,Int.reduceBEq,aeD,ai (wb _)]
 exact jM (by simp only[aa,reduceIte,Nat.reduceEqDiff];rw[ek]) rfl
theorem W2 (i:Int) (s:List UInt8) (c:Int) (nf:Option Bool) (ns:List Int) (af:Option Bool) (ar:List Tm) (ho:Tm.Ok (.mk 2 i s c nf ns af ar)) (h:Heap):WC env 49 [.agg (tc (.mk 2 i s c nf ns af ar))] h (fun o=>o=.ret ⟨.bool (kindOk (.mk 2 i s c nf ns af ar)),h,.none⟩):=by
 obtain⟨ss,sn,sa,_⟩:=ho.lens
 refine ad rfl rfl rfl (by simp only[bdk,az]) ?_
 obtain⟨t,et⟩:∃t:Tm,t=(.mk 2 i s c nf ns af ar):=⟨_,rfl⟩
 obtain⟨cs,ec⟩:∃cs,cs=tc t:=⟨_,rfl⟩
 obtain⟨nv,en⟩:∃nv,nv=aM nf ns.length (bN ns):=⟨_,rfl⟩
 obtain⟨av,ea⟩:∃av,av=aM af ar.length (bq ar):=⟨_,rfl⟩
 have ec' :cs=[.int .i64 2,.int .i64 i,.str s,.int .u32 c,nv,av]:=by rw[ec,et,en,ea];rfl
 obtain⟨h1,eh1⟩:∃h1,h1=Heap.empty.new cs:=⟨_,rfl⟩
 have a1:h1.at_ Heap.empty.next 0=some [.int .i64 2,.int .i64 i,.str s,.int .u32 c,nv,av]:=by rw[←ec',eh1];exact aY _
 rw[←et,←ec];have y1:(AV.agg cs).row=some cs:=rfl
 have y2:cs.length=6:=by rw[ec'];rfl
 have l0:=eK a1
 have l4:=eU a1
 have l5:=dZ a1
 have l6:bg h1 true 6 (.ptr Heap.empty.next 0 0)=some ⟨.agg cs,h1,.read⟩:=by rw[ec'];exact vy a1
 have nl:∀h,aN false h nv=some ⟨.int .i64 ns.length,h,.none⟩:=fun h=>by rw[en];exact bX _ _ _ (fun _=>trivial) h
 have al:∀h,aN false h av=some ⟨.int .i64 ar.length,h,.none⟩:=fun h=>by rw[ea];exact bX _ _ _ (fun _=>trivial) h
 obtain⟨x,ex⟩:∃x:Bool,x=(i==0&&c==0&&ns.length==0&&ar.length==0):=⟨_,rfl⟩
 have wb:∀h,WC env 83 [.agg cs,.str [115]] h (fun o=>o=.ret ⟨.bool x,h,.none⟩):=fun h=>by rw[ec,et,ex];exact ahJ 2 i s c nf ns af ar h
 have xe:b7 t true false false=x:=by
  rw[et,b7,ex];cases h1:(i==0)<;>cases h2:(s==[])<;>cases h3:(c==0)<;>cases h4:(ns.length==0)<;>cases h5:(ar.length==0)<;>simp
 have ek:kindOk t=x:=by rw[et,kindOk,←et];simp[xe]
 simp only[a49,oI,oJ,oK,qi,ah.bbw,aw,reduceIte,Nat.reduceEqDiff,y1,y2,←eh1,au,baf,l0,l6,Int.reduceBEq,aeE,ai (wb _)]
 exact jM (by simp only[aa,reduceIte,Nat.reduceEqDiff];rw[ek]) rfl
theorem W3 (i:Int) (s:List UInt8) (c:Int) (nf:Option Bool) (ns:List Int) (af:Option Bool) (ar:List Tm) (ho:Tm.Ok (.mk 3 i s c nf ns af ar)) (h:Heap):WC env 49 [.agg (tc (.mk 3 i s c nf ns af ar))] h (fun o=>o=.ret ⟨.bool (kindOk (.mk 3 i s c nf ns af ar)),h,.none⟩):=by
 obtain⟨ss,sn,sa,_⟩:=ho.lens
 refine ad rfl rfl rfl (by simp only[bdk,az]) ?_
 obtain⟨t,et⟩:∃t:Tm,t=(.mk 3 i s c nf ns af ar):=⟨_,rfl⟩
 obtain⟨cs,ec⟩:∃cs,cs=tc t:=⟨_,rfl⟩
 obtain⟨nv,en⟩:∃nv,nv=aM nf ns.length (bN ns):=⟨_,rfl⟩
 obtain⟨av,ea⟩:∃av,av=aM af ar.length (bq ar):=⟨_,rfl⟩
 have ec' :cs=[.int .i64 3,.int .i64 i,.str s,.int .u32 c,nv,av]:=by rw[ec,et,en,ea];rfl
 obtain⟨h1,eh1⟩:∃h1,h1=Heap.empty.new cs:=⟨_,rfl⟩
 have a1:h1.at_ Heap.empty.next 0=some [.int .i64 3,.int .i64 i,.str s,.int .u32 c,nv,av]:=by rw[←ec',eh1];exact aY _
 rw[←et,←ec];have y1:(AV.agg cs).row=some cs:=rfl
 have y2:cs.length=6:=by rw[ec'];rfl
 have l0:=eK a1
 have l4:=eU a1
 have l5:=dZ a1
 have l6:bg h1 true 6 (.ptr Heap.empty.next 0 0)=some ⟨.agg cs,h1,.read⟩:=by rw[ec'];exact vy a1
 have nl:∀h,aN false h nv=some ⟨.int .i64 ns.length,h,.none⟩:=fun h=>by rw[en];exact bX _ _ _ (fun _=>trivial) h
 have al:∀h,aN false h av=some ⟨.int .i64 ar.length,h,.none⟩:=fun h=>by rw[ea];exact bX _ _ _ (fun _=>trivial) h
 obtain⟨x,ex⟩:∃x:Bool,x=(i==0&&ar.length==0):=⟨_,rfl⟩
 have wb:∀h,WC env 83 [.agg cs,.str [115,99,110]] h (fun o=>o=.ret ⟨.bool x,h,.none⟩):=fun h=>by rw[ec,et,ex];exact Kw 3 i s c nf ns af ar h
 have xe:b7 t true true false=x:=by
  rw[et,b7,ex];cases h1:(i==0)<;>cases h2:(s==[])<;>cases h3:(c==0)<;>cases h4:(ns.length==0)<;>cases h5:(ar.length==0)<;>simp
 have ek:kindOk t=(x&&ns.length==3):=by rw[et,kindOk,←et];simp[xe]
 cases x with
 |false=>
  simp only[a49,oI,oJ,oK,qi,rA,ah.bbw,aw,reduceIte,Nat.reduceEqDiff,y1,y2,←eh1,au,baf,l0,l6,aL,Int.reduceBEq,W4,ai (wb _)]
  exact jM (by simp only[aa,reduceIte,Nat.reduceEqDiff];rw[ek];rfl) rfl
 |true=>
  have z:((ns.length:Int)==3)=(ns.length==3):=by
   cases e2:(ns.length==3)with
   |true=>have:=eq_of_beq e2;simp[this]
   |false=>simp at e2;simp;omega
  simp only[a49,oI,oJ,oK,qi,rA,ah.bbw,aw,reduceIte,Nat.reduceEqDiff,y1,y2,←eh1,au,baf,l0,l6,nl,aL,Int.reduceBEq,W4,ai (wb _),l4,z]
  exact jM (by simp only[aa,reduceIte,Nat.reduceEqDiff];rw[ek];rfl) rfl
theorem W5 (i:Int) (s:List UInt8) (c:Int) (nf:Option Bool) (ns:List Int) (af:Option Bool) (ar:List Tm) (ho:Tm.Ok (.mk 4 i s c nf ns af ar)) (h:Heap):WC env 49 [.agg (tc (.mk 4 i s c nf ns af ar))] h (fun o=>o=.ret ⟨.bool (kindOk (.mk 4 i s c nf ns af ar)),h,.none⟩):=by
 obtain⟨ss,sn,sa,_⟩:=ho.lens
 refine ad rfl rfl rfl (by simp only[bdk,az]) ?_
 obtain⟨t,et⟩:∃t:Tm,t=(.mk 4 i s c nf ns af ar):=⟨_,rfl⟩
 obtain⟨cs,ec⟩:∃cs,cs=tc t:=⟨_,rfl⟩
 obtain⟨nv,en⟩:∃nv,nv=aM nf ns.length (bN ns):=⟨_,rfl⟩
 obtain⟨av,ea⟩:∃av,av=aM af ar.length (bq ar):=⟨_,rfl⟩
 have ec' :cs=[.int .i64 4,.int .i64 i,.str s,.int .u32 c,nv,av]:=by rw[ec,et,en,ea];rfl
 obtain⟨h1,eh1⟩:∃h1,h1=Heap.empty.new cs:=⟨_,rfl⟩
 have a1:h1.at_ Heap.empty.next 0=some [.int .i64 4,.int .i64 i,.str s,.int .u32 c,nv,av]:=by rw[←ec',eh1];exact aY _
 rw[←et,←ec];have y1:(AV.agg cs).row=some cs:=rfl
 have y2:cs.length=6:=by rw[ec'];rfl
 have l0:=eK a1
 have l4:=eU a1
 have l5:=dZ a1
 have l6:bg h1 true 6 (.ptr Heap.empty.next 0 0)=some ⟨.agg cs,h1,.read⟩:=by rw[ec'];exact vy a1
 have nl:∀h,aN false h nv=some ⟨.int .i64 ns.length,h,.none⟩:=fun h=>by rw[en];exact bX _ _ _ (fun _=>trivial) h
 have al:∀h,aN false h av=some ⟨.int .i64 ar.length,h,.none⟩:=fun h=>by rw[ea];exact bX _ _ _ (fun _=>trivial) h
 obtain⟨x,ex⟩:∃x:Bool,x=(i==0&&ar.length==0):=⟨_,rfl⟩
 have wb:∀h,WC env 83 [.agg cs,.str [115,99,110]] h (fun o=>o=.ret ⟨.bool x,h,.none⟩):=fun h=>by rw[ec,et,ex];exact Kw 4 i s c nf ns af ar h
 have xe:b7 t true true false=x:=by
  rw[et,b7,ex];cases h1:(i==0)<;>cases h2:(s==[])<;>cases h3:(c==0)<;>cases h4:(ns.length==0)<;>cases h5:(ar.length==0)<;>simp
 have ek:kindOk t=(x&&ns.length==2):=by rw[et,kindOk,←et];simp[xe]
 cases x with
 |false=>
  simp only[a49,oI,oJ,oK,qi,rA,wh,ah.bbw,aw,reduceIte,Nat.reduceEqDiff,y1,y2,←eh1,au,baf,l0,l6,aL,Int.reduceBEq,W6,ai (wb _)]
  exact jM (by simp only[aa,reduceIte,Nat.reduceEqDiff];rw[ek];rfl) rfl
 |true=>
  have z:((ns.length:Int)==2)=(ns.length==2):=by
   cases e2:(ns.length==2)with
   |true=>have:=eq_of_beq e2;simp[this]
   |false=>simp at e2;simp;omega
  simp only[a49,oI,oJ,oK,qi,rA,wh,ah.bbw,aw,reduceIte,Nat.reduceEqDiff,y1,y2,←eh1,au,baf,l0,l6,nl,aL,Int.reduceBEq,W6,ai (wb _),l4,z]
  exact jM (by simp only[aa,reduceIte,Nat.reduceEqDiff];rw[ek];rfl) rfl
theorem W7 (i:Int) (s:List UInt8) (c:Int) (nf:Option Bool) (ns:List Int) (af:Option Bool) (ar:List Tm) (ho:Tm.Ok (.mk 5 i s c nf ns af ar)) (h:Heap):WC env 49 [.agg (tc (.mk 5 i s c nf ns af ar))] h (fun o=>o=.ret ⟨.bool (kindOk (.mk 5 i s c nf ns af ar)),h,.none⟩):=by
 obtain⟨ss,sn,sa,_⟩:=ho.lens
 refine ad rfl rfl rfl (by simp only[bdk,az]) ?_
 obtain⟨t,et⟩:∃t:Tm,t=(.mk 5 i s c nf ns af ar):=⟨_,rfl⟩
 obtain⟨cs,ec⟩:∃cs,cs=tc t:=⟨_,rfl⟩
 obtain⟨nv,en⟩:∃nv,nv=aM nf ns.length (bN ns):=⟨_,rfl⟩
 obtain⟨av,ea⟩:∃av,av=aM af ar.length (bq ar):=⟨_,rfl⟩
 have ec' :cs=[.int .i64 5,.int .i64 i,.str s,.int .u32 c,nv,av]:=by rw[ec,et,en,ea];rfl
 obtain⟨h1,eh1⟩:∃h1,h1=Heap.empty.new cs:=⟨_,rfl⟩
 have a1:h1.at_ Heap.empty.next 0=some [.int .i64 5,.int .i64 i,.str s,.int .u32 c,nv,av]:=by rw[←ec',eh1];exact aY _
 rw[←et,←ec];have y1:(AV.agg cs).row=some cs:=rfl
 have y2:cs.length=6:=by rw[ec'];rfl
 have l0:=eK a1
 have l4:=eU a1
 have l5:=dZ a1
 have l6:bg h1 true 6 (.ptr Heap.empty.next 0 0)=some ⟨.agg cs,h1,.read⟩:=by rw[ec'];exact vy a1
 have nl:∀h,aN false h nv=some ⟨.int .i64 ns.length,h,.none⟩:=fun h=>by rw[en];exact bX _ _ _ (fun _=>trivial) h
 have al:∀h,aN false h av=some ⟨.int .i64 ar.length,h,.none⟩:=fun h=>by rw[ea];exact bX _ _ _ (fun _=>trivial) h
 obtain⟨x,ex⟩:∃x:Bool,x=(i==0&&s==[]&&c==0&&ns.length==0):=⟨_,rfl⟩
 have wb:∀h,WC env 83 [.agg cs,.str [97]] h (fun o=>o=.ret ⟨.bool x,h,.none⟩):=fun h=>by rw[ec,et,ex];exact WU 5 i s c nf ns af ar h
 have xe:b7 t false false true=x:=by
  rw[et,b7,ex];cases h1:(i==0)<;>cases h2:(s==[])<;>cases h3:(c==0)<;>cases h4:(ns.length==0)<;>cases h5:(ar.length==0)<;>simp
 have ek:kindOk t=x:=by rw[et,kindOk,←et];simp[xe]
 simp only[a49,oI,oJ,oK,qi,rA,wh,uy,ah.bbw,aw,reduceIte,Nat.reduceEqDiff,y1,y2,←eh1,au,baf,l0,l6,Int.reduceBEq,W8,ai (wb _)]
 exact jM (by simp only[aa,reduceIte,Nat.reduceEqDiff];rw[ek]) rfl
theorem W9 (i:Int) (s:List UInt8) (c:Int) (nf:Option Bool) (ns:List Int) (af:Option Bool) (ar:List Tm) (ho:Tm.Ok (.mk 6 i s c nf ns af ar)) (h:Heap):WC env 49 [.agg (tc (.mk 6 i s c nf ns af ar))] h (fun o=>o=.ret ⟨.bool (kindOk (.mk 6 i s c nf ns af ar)),h,.none⟩):=by
 obtain⟨ss,sn,sa,_⟩:=ho.lens
 refine ad rfl rfl rfl (by simp only[bdk,az]) ?_
 obtain⟨t,et⟩:∃t:Tm,t=(.mk 6 i s c nf ns af ar):=⟨_,rfl⟩
 obtain⟨cs,ec⟩:∃cs,cs=tc t:=⟨_,rfl⟩
 obtain⟨nv,en⟩:∃nv,nv=aM nf ns.length (bN ns):=⟨_,rfl⟩
 obtain⟨av,ea⟩:∃av,av=aM af ar.length (bq ar):=⟨_,rfl⟩
 have ec' :cs=[.int .i64 6,.int .i64 i,.str s,.int .u32 c,nv,av]:=by rw[ec,et,en,ea];rfl
 obtain⟨h1,eh1⟩:∃h1,h1=Heap.empty.new cs:=⟨_,rfl⟩
 have a1:h1.at_ Heap.empty.next 0=some [.int .i64 6,.int .i64 i,.str s,.int .u32 c,nv,av]:=by rw[←ec',eh1];exact aY _
 rw[←et,←ec];have y1:(AV.agg cs).row=some cs:=rfl
 have y2:cs.length=6:=by rw[ec'];rfl
 have l0:=eK a1
 have l4:=eU a1
 have l5:=dZ a1
 have l6:bg h1 true 6 (.ptr Heap.empty.next 0 0)=some ⟨.agg cs,h1,.read⟩:=by rw[ec'];exact vy a1
 have nl:∀h,aN false h nv=some ⟨.int .i64 ns.length,h,.none⟩:=fun h=>by rw[en];exact bX _ _ _ (fun _=>trivial) h
 have al:∀h,aN false h av=some ⟨.int .i64 ar.length,h,.none⟩:=fun h=>by rw[ea];exact bX _ _ _ (fun _=>trivial) h
 obtain⟨x,ex⟩:∃x:Bool,x=(i==0&&s==[]&&c==0&&ns.length==0&&ar.length==0):=⟨_,rfl⟩
 have wb:∀h,WC env 83 [.agg cs,.str []] h (fun o=>o=.ret ⟨.bool x,h,.none⟩):=fun h=>by rw[ec,et,ex];exact ahK 6 i s c nf ns af ar h
 have xe:b7 t false false false=x:=by
  rw[et,b7,ex];cases h1:(i==0)<;>cases h2:(s==[])<;>cases h3:(c==0)<;>cases h4:(ns.length==0)<;>cases h5:(ar.length==0)<;>simp
 have ek:kindOk t=x:=by rw[et,kindOk,←et];simp[xe]
 simp only[a49,oI,oJ,oK,qi,rA,wh,uy,xy,ah.bbw,aw,reduceIte,Nat.reduceEqDiff,y1,y2,←eh1,au,baf,l0,l6,Int.reduceBEq,W_,ai (wb _)]
 exact jM (by simp only[aa,reduceIte,Nat.reduceEqDiff];rw[ek]) rfl
theorem Xa (i:Int) (s:List UInt8) (c:Int) (nf:Option Bool) (ns:List Int) (af:Option Bool) (ar:List Tm) (ho:Tm.Ok (.mk 7 i s c nf ns af ar)) (h:Heap):WC env 49 [.agg (tc (.mk 7 i s c nf ns af ar))] h (fun o=>o=.ret ⟨.bool (kindOk (.mk 7 i s c nf ns af ar)),h,.none⟩):=by
 obtain⟨ss,sn,sa,_⟩:=ho.lens
 refine ad rfl rfl rfl (by simp only[bdk,az]) ?_
 obtain⟨t,et⟩:∃t:Tm,t=(.mk 7 i s c nf ns af ar):=⟨_,rfl⟩
 obtain⟨cs,ec⟩:∃cs,cs=tc t:=⟨_,rfl⟩
 obtain⟨nv,en⟩:∃nv,nv=aM nf ns.length (bN ns):=⟨_,rfl⟩
 obtain⟨av,ea⟩:∃av,av=aM af ar.length (bq ar):=⟨_,rfl⟩
 have ec' :cs=[.int .i64 7,.int .i64 i,.str s,.int .u32 c,nv,av]:=by rw[ec,et,en,ea];rfl
 obtain⟨h1,eh1⟩:∃h1,h1=Heap.empty.new cs:=⟨_,rfl⟩
 have a1:h1.at_ Heap.empty.next 0=some [.int .i64 7,.int .i64 i,.str s,.int .u32 c,nv,av]:=by rw[←ec',eh1];exact aY _
 rw[←et,←ec];have y1:(AV.agg cs).row=some cs:=rfl
 have y2:cs.length=6:=by rw[ec'];rfl
 have l0:=eK a1
 have l4:=eU a1
 have l5:=dZ a1
 have l6:bg h1 true 6 (.ptr Heap.empty.next 0 0)=some ⟨.agg cs,h1,.read⟩:=by rw[ec'];exact vy a1
 have nl:∀h,aN false h nv=some ⟨.int .i64 ns.length,h,.none⟩:=fun h=>by rw[en];exact bX _ _ _ (fun _=>trivial) h
 have al:∀h,aN false h av=some ⟨.int .i64 ar.length,h,.none⟩:=fun h=>by rw[ea];exact bX _ _ _ (fun _=>trivial) h
 obtain⟨x,ex⟩:∃x:Bool,x=(i==0&&s==[]&&c==0&&ns.length==0):=⟨_,rfl⟩
 have wb:∀h,WC env 83 [.agg cs,.str [97]] h (fun o=>o=.ret ⟨.bool x,h,.none⟩):=fun h=>by rw[ec,et,ex];exact WU 7 i s c nf ns af ar h
 have xe:b7 t false false true=x:=by
  rw[et,b7,ex];cases h1:(i==0)<;>cases h2:(s==[])<;>cases h3:(c==0)<;>cases h4:(ns.length==0)<;>cases h5:(ar.length==0)<;>simp
 have ek:kindOk t=(x&&decide (ar.length≥2)&&cf ar):=by rw[et,kindOk,←et];simp[xe]
 cases x with
 |false=>
  simp only[a49,oI,oJ,oK,qi,rA,wh,uy,xy,B2,ah.bbw,aw,reduceIte,Nat.reduceEqDiff,y1,y2,←eh1,au,baf,l0,l6,al,aL,Int.reduceBEq,G8,G9,ai (wb _),l5]
  exact jM (by simp only[aa,reduceIte,Nat.reduceEqDiff];rw[ek];rfl) rfl
 |true=>
 by_cases c2:ar.length≥2
 case neg=>
  have z:((ar.length:Int)≥2)=False:=eq_false (by omega)
  simp only[a49,oI,oJ,oK,qi,rA,wh,uy,xy,B2,ah.bbw,aw,reduceIte,Nat.reduceEqDiff,y1,y2,←eh1,au,baf,l0,l6,al,aL,Int.reduceBEq,G8,G9,ai (wb _),l5,z]
  exact jM (by simp only[aa,reduceIte,Nat.reduceEqDiff];rw[ek,decide_eq_false c2];rfl) rfl
 have z:((ar.length:Int)≥2)=True:=eq_true (by omega)
 have zs:IntKind.wrap .i64 ((ar.length:Int)-1)=((ar.length-1:Nat):Int):=aX (by omega) (by omega)
 have hi:ar.length-1<ar.length:=by omega
 have ix:aZ 6 av (.int .i64 ((ar.length-1:Nat):Int))=some (.fp ((bq ar).drop ((ar.length-1)*6))):=by rw[ea];exact fI hi
 have lx:∀h,bg h false 1 (.fp ((bq ar).drop ((ar.length-1)*6)))=some ⟨.int .i64 (ar[ar.length-1]).kind,h,.none⟩:=fun h=>Ra hi h
 have ln:=pR ar hi
 simp only[a49,oI,oJ,oK,qi,rA,wh,uy,xy,B2,ah.bbw,aw,reduceIte,Nat.reduceEqDiff,y1,y2,←eh1,au,l0,l6,al,aL,Int.reduceBEq,G8,G9,ai (wb _),l5,z,zs,ix,lx,jaj]
 exact jM (by simp only[aa,reduceIte,Nat.reduceEqDiff];rw[ek,decide_eq_true c2,ln];rfl) rfl
theorem Xb (k:Int) (i:Int) (s:List UInt8) (c:Int) (nf:Option Bool) (ns:List Int) (af:Option Bool) (ar:List Tm) (ho:Tm.Ok (.mk k i s c nf ns af ar)) (hk:∀j:Int,1≤j→j≤7→k≠j) (h:Heap):WC env 49 [.agg (tc (.mk k i s c nf ns af ar))] h (fun o=>o=.ret ⟨.bool (kindOk (.mk k i s c nf ns af ar)),h,.none⟩):=by
 obtain⟨ss,sn,sa,_⟩:=ho.lens
 refine ad rfl rfl rfl (by simp only[bdk,az]) ?_
 obtain⟨t,et⟩:∃t:Tm,t=(.mk k i s c nf ns af ar):=⟨_,rfl⟩
 obtain⟨cs,ec⟩:∃cs,cs=tc t:=⟨_,rfl⟩
 obtain⟨nv,en⟩:∃nv,nv=aM nf ns.length (bN ns):=⟨_,rfl⟩
 obtain⟨av,ea⟩:∃av,av=aM af ar.length (bq ar):=⟨_,rfl⟩
 have ec' :cs=[.int .i64 k,.int .i64 i,.str s,.int .u32 c,nv,av]:=by rw[ec,et,en,ea];rfl
 obtain⟨h1,eh1⟩:∃h1,h1=Heap.empty.new cs:=⟨_,rfl⟩
 have a1:h1.at_ Heap.empty.next 0=some [.int .i64 k,.int .i64 i,.str s,.int .u32 c,nv,av]:=by rw[←ec',eh1];exact aY _
 rw[←et,←ec];have y1:(AV.agg cs).row=some cs:=rfl
 have y2:cs.length=6:=by rw[ec'];rfl
 have l0:=eK a1
 have l4:=eU a1
 have l5:=dZ a1
 have l6:bg h1 true 6 (.ptr Heap.empty.next 0 0)=some ⟨.agg cs,h1,.read⟩:=by rw[ec'];exact vy a1
 have nl:∀h,aN false h nv=some ⟨.int .i64 ns.length,h,.none⟩:=fun h=>by rw[en];exact bX _ _ _ (fun _=>trivial) h
 have al:∀h,aN false h av=some ⟨.int .i64 ar.length,h,.none⟩:=fun h=>by rw[ea];exact bX _ _ _ (fun _=>trivial) h
 have q1:(k==1)=false:=by simpa using hk 1 (by omega) (by omega)
 have q2:(k==2)=false:=by simpa using hk 2 (by omega) (by omega)
 have q3:(k==3)=false:=by simpa using hk 3 (by omega) (by omega)
 have q4:(k==4)=false:=by simpa using hk 4 (by omega) (by omega)
 have q5:(k==5)=false:=by simpa using hk 5 (by omega) (by omega)
 have q6:(k==6)=false:=by simpa using hk 6 (by omega) (by omega)
 have q7:(k==7)=false:=by simpa using hk 7 (by omega) (by omega)
 have ek:kindOk t=false:=by rw[et,kindOk];simp only[hk 1 (by omega) (by omega),hk 2 (by omega) (by omega),hk 3 (by omega) (by omega),hk 4 (by omega) (by omega),hk 5 (by omega) (by omega),hk 6 (by omega) (by omega),hk 7 (by omega) (by omega),if_false]
 simp only[a49,oI,oJ,oK,qi,rA,wh,uy,xy,B2,ah.bbw,aw,reduceIte,Nat.reduceEqDiff,y1,y2,←eh1,au,baf,l0,q1,q2,q3,q4,q5,q6,q7,Xc]
 exact jM (by simp only[aa,reduceIte,Nat.reduceEqDiff];rw[ek]) rfl
theorem M7 (t:Tm) (ho:t.Ok) (h:Heap):WC env 49 [.agg (tc t)] h (fun o=>o=.ret ⟨.bool (kindOk t),h,.none⟩):=by
 rcases t with⟨k,i,s,c,nf,ns,af,ar⟩
 by_cases e1:k=1
 ·subst e1;exact W0 i s c nf ns af ar ho h
 by_cases e2:k=2
 ·subst e2;exact W2 i s c nf ns af ar ho h
 by_cases e3:k=3
 ·subst e3;exact W3 i s c nf ns af ar ho h
 by_cases e4:k=4
 ·subst e4;exact W5 i s c nf ns af ar ho h
 by_cases e5:k=5
 ·subst e5;exact W7 i s c nf ns af ar ho h
 by_cases e6:k=6
 ·subst e6;exact W9 i s c nf ns af ar ho h
 by_cases e7:k=7
 ·subst e7;exact Xa i s c nf ns af ar ho h
 exact Xb k i s c nf ns af ar ho (fun j h1 h2=>by omega) h
end Go.Bf
namespace Go.Bf
open Go.AM
theorem j7 {P:Tm→Prop} (h:∀k i s c nf ns af ar,(∀t,t∈ar→P t)→P (.mk k i s c nf ns af ar)):∀t,P t:=by
 have go:∀(n:Nat) (t:Tm),SizeOf.sizeOf t≤n→P t:=by
  intro n
  induction n with
  |zero=>intro t ht;cases t;simp at ht
  |succ n ih=>
   intro t ht;cases t with
   |mk k i s c nf ns af ar=>
    refine h k i s c nf ns af ar fun t m=>ih t ?_
    have:=List.sizeOf_lt_of_mem m
    simp at ht;omega
 exact fun t=>go _ t (bab _)
abbrev y9:=Option (Int×Int×CQ)
def gV:y9→AV
 |none=>.bL
 |some (a,c,u)=>G_ a c u
theorem B3 (x:y9):(gV x).ae=true:=by
 rcases x with _|⟨a,c,_|⟨p,d⟩⟩<;>rfl
theorem Xd (x:y9):(gV x).one=true:=by
 rcases x with _|⟨a,c,u⟩<;>rfl
mutual
def cR:Tm→Nat→Nat→Nat→y9×Nat×Nat
 |.mk k i s c nf ns af ar,deep,n,d=>
  if n=4096 then(some ((n:Int),5,none),n,d)
  else if deep>256 then(some ((n:Int),9,none),n,d)
  else match bw (.mk k i s c nf ns af ar)with
   |some (c,u)=>(some ((n:Int),c,u),n,d)
   |none=>cH ar (deep+1) (n+1) (max d deep)
def cH:List Tm→Nat→Nat→Nat→y9×Nat×Nat
 |[],_,n,d=>(none,n,d)
 |t::l,deep,n,d=>match cR t deep n d with
  |(none,n',d')=>cH l deep n' d'
  |(some e,n',d')=>(some e,n',d')
end
theorem sI:∀t deep n d,n≤4096→d≤256→(cR t deep n d).2.1≤4096∧(cR t deep n d).2.2≤256:=by
 refine j7 fun k i s c nf ns af ar ih deep n d hn hd=> ?_
 have go:∀(l:List Tm),(∀t,t∈l→t∈ar)→∀deep n d,n≤4096→d≤256→(cH l deep n d).2.1≤4096∧(cH l deep n d).2.2≤256:=by
  intro l
  induction l with
  |nil=>intro _ deep n d hn hd;exact⟨hn,hd⟩
  |cons t l ihl=>
   intro hl deep n d hn hd;have h1:=ih t (hl t (by simp)) deep n d hn hd
   rw[cH];split
   ·rename_i n' d' e
    rw[e]at h1
    exact ihl (fun t m=>hl t (by simp[m])) deep n' d' h1.1 h1.2
   ·rename_i n' d' e
    rw[e]at h1
    exact h1
 rw[cR];split
 ·exact⟨hn,hd⟩
 split
 ·exact⟨hn,hd⟩
 split
 ·exact⟨hn,hd⟩
 ·exact go ar (fun _ m=>m) _ _ _ (by omega) (by omega)
def w2 (n d:Nat):List AV:=[.int .i64 n,.int .i64 d]
def M8 (t:Tm):Prop:=∀(deep n d w:Nat) (h:Heap),an h→h.at_ w 0=some (w2 n d)→n≤4096→deep≤257→d≤256→
 ∃h',an h' ∧jL (fun i=>i=w) h h' ∧h'.at_ w 0=some (w2 (cR t deep n d).2.1 (cR t deep n d).2.2)∧
  WC env 97 [.ptr w 0 0,.agg (tc t),.int .i64 deep] h (fun o=>o=.ret ⟨gV (cR t deep n d).1,h',.write⟩)
theorem kH {h:Heap} (ho:an h) (t:Tm):∃h',bC (h.new [.int .i64 0,.int .i64 0,.str [],.int .u32 0,.ax,.ax]) 6 (.ptr h.next 0 0) (.agg (tc t))=some ⟨.undef,h',.write⟩∧an h' ∧h.le h' ∧h'.at_ h.next 0=some (tc t):=by
 cases t with
 |mk k i s c nf ns af ar=>exact ap0 ho _ _ _ _ _ _
theorem lM {h:Heap} {i:Nat} {t:Tm} (hat:h.at_ i 0=some (tc t)):bg h true 6 (.ptr i 0 0)=some ⟨.agg (tc t),h,.read⟩:=by
 cases t with
 |mk k i s c nf ns af ar=>exact vy hat
theorem Kx (f:Int×Int×CQ):uS (.iface true) (gV (some f)) .bL=some false:=rfl
theorem TJ {ar:List Tm} (hP:∀t,t∈ar→M8 t) (hlen:ar.length<9223372036854775808) {af:Option Bool} {w deep:Nat} (bcr:deep≤256) {Q:aU→St→Prop}:
  ∀(f i:Nat) (σ:ah) (h:Heap) (n d:Nat),ar.length-i<f→i≤ar.length→an h→h.at_ w 0=some (w2 n d)→n≤4096→d≤256→
  σ.get 0=.ptr w 0 0→σ.get 2=.int .i64 deep→σ.get 49=aM af ar.length (bq ar)→σ.get 50=.int .i64 ar.length→σ.get 51=.int .i64 i→
  (∀σ' h',an h' →jL (fun i=>i=w) h h' →h'.at_ w 0=some (w2 (cH (ar.drop i) (deep+1) n d).2.1 (cH (ar.drop i) (deep+1) n d).2.2)→
   ((cH (ar.drop i) (deep+1) n d).1=none→Q (.exit 1) ⟨σ',h'⟩)∧(∀e,(cH (ar.drop i) (deep+1) n d).1=some e→σ'.get 6=gV (some e)→Q .ret ⟨σ',h'⟩))→
  kz env wj ⟨σ,h⟩ Q:=by
 intro f
 induction f with
 |zero=>intro i σ h n d h1;omega
 |succ f ih=>
  intro i σ h n d hf hi ho hw hn hd g0 g2 g49 g50 g51 hQ;refine aC fun b hb=> ?_
  by_cases c1:i<ar.length
  ·have z0:((i:Int)<(ar.length:Int))=True:=eq_true (by omega)
   have zi:IntKind.wrap .i64 ((i:Int)+1)=((i+1:Nat):Int):=aX (by omega) (by omega)
   have zd:IntKind.wrap .i64 ((deep:Int)+1)=((deep+1:Nat):Int):=aX (by omega) (by omega)
   have lx:=fI (f:=af) c1
   have ld:=fK c1 h
   obtain⟨t,et⟩:∃t,t=ar[i]:=⟨_,rfl⟩
   have hd' :ar.drop i=t::ar.drop (i+1):=by rw[et];exact bat c1
   rw[←et]at ld
   obtain⟨h2,st2,ho2,le2,at2⟩:=kH ho t
   have lt2:=lM at2
   have hw2:=le2.2 _ _ _ hw
   obtain⟨h3,ho3,ch3,hw3,wc3⟩:=hP t (by rw[et];exact bas c1) (deep+1) n d w h2 ho2 hw2 hn (by omega) hd
   have bd:=sI t (deep+1) n d hn hd
   rw[hd',cH]at hQ
   have ec:jL (fun i=>i=w) h h3:=le2.wR.trans ch3
   cases e:(cR t (deep+1) n d)with
   |mk r nd=>
    obtain⟨n',d'⟩:=nd
    rw[e]at hQ hw3 wc3 bd
    cases r with
    |none=>
     have wc3' :WC env 97 [.ptr w 0 0,.agg (tc t),.int .i64 ((deep+1:Nat):Int)] h2 (fun o=>o=.ret ⟨.bL,h3,.write⟩):=wc3
     simp only[wj,Ha,M9,M_,Na,Xe,aw,reduceIte,Nat.reduceEqDiff,g0,g2,g49,g50,g51,z0,zi,zd,lx,ld,st2,lt2,ai wc3',eq_nil,baj]
     subst hb;refine ih (i+1) _ h3 n' d' (by omega) (by omega) ho3 hw3 bd.1 bd.2 ?_ ?_ ?_ ?_ ?_ fun σ' h' q1 q2 q3=>hQ σ' h' q1 (ec.trans q2) q3
     ·simp only[aa,reduceIte,Nat.reduceEqDiff,g0]
     ·simp only[aa,reduceIte,Nat.reduceEqDiff,g2]
     ·simp only[aa,reduceIte,Nat.reduceEqDiff,g49]
     ·simp only[aa,reduceIte,Nat.reduceEqDiff,g50]
     ·simp only[aa,reduceIte,Nat.reduceEqDiff]
    |some er=>
     have wc3' :WC env 97 [.ptr w 0 0,.agg (tc t),.int .i64 ((deep+1:Nat):Int)] h2 (fun o=>o=.ret ⟨gV (some er),h3,.write⟩):=wc3
     simp only[wj,Ha,M9,M_,Na,Xf,aw,reduceIte,Nat.reduceEqDiff,g0,g2,g49,g50,g51,z0,zd,lx,ld,st2,lt2,ai wc3',Kx,bak]
     exact(hQ _ h3 ho3 ec hw3).2 er rfl (by simp only[aa,reduceIte,Nat.reduceEqDiff])
  ·have z0:((i:Int)<(ar.length:Int))=False:=eq_false (by omega)
   have hd' :ar.drop i=[]:=bao (by omega)
   rw[hd']at hQ
   simp only[wj,Ha,aw,reduceIte,g50,g51,z0]
   exact(hQ _ h ho jL.refl hw).1 rfl
theorem acd:∀t:Tm,t.Ok→M8 t:=by
 refine j7 fun k i s c nf ns af ar ih ok deep n d w h ho hw hn bcr hd=> ?_
 obtain⟨ss,sn,sa,sr⟩:=ok.lens
 have hP:∀t,t∈ar→M8 t:=fun t m=>ih t m (sr.get m)
 obtain⟨t,et⟩:∃t:Tm,t=.mk k i s c nf ns af ar:=⟨_,rfl⟩
 rw[←et]at ok⊢
 obtain⟨cs,ec⟩:∃cs,cs=tc t:=⟨_,rfl⟩
 obtain⟨av,ea⟩:∃av,av=aM af ar.length (bq ar):=⟨_,rfl⟩
 have ec' :cs=[.int .i64 k,.int .i64 i,.str s,.int .u32 c,aM nf ns.length (bN ns),av]:=by rw[ec,et,ea];rfl
 have iw:=ho.lt hw
 obtain⟨h1,eh1⟩:∃h1,h1=h.new cs:=⟨_,rfl⟩
 have ho1:an h1:=by rw[eh1];exact ho.new _
 have le1:h.le h1:=by rw[eh1];exact cz ho _
 have a1:h1.at_ h.next 0=some [.int .i64 k,.int .i64 i,.str s,.int .u32 c,aM nf ns.length (bN ns),av]:=by rw[←ec',eh1];exact aY _
 have aw1:h1.at_ w 0=some [.int .i64 n,.int .i64 d]:=le1.2 _ _ _ hw
 have y1:(AV.agg cs).row=some cs:=rfl
 have y2:cs.length=6:=by rw[ec'];rfl
 have l0:=alB aw1
 have l6:bg h1 true 6 (.ptr h.next 0 0)=some ⟨.agg cs,h1,.read⟩:=by rw[ec'];exact vy a1
 rw[←ec];have ef:cR t deep n d=if n=4096 then(some ((n:Int),5,none),n,d)
  else if deep>256 then(some ((n:Int),9,none),n,d)
  else match bw t with
   |some (c,u)=>(some ((n:Int),c,u),n,d)
   |none=>cH ar (deep+1) (n+1) (max d deep):=by rw[et,cR]
 by_cases c1:n=4096
 ·have z:((n:Int)==4096)=true:=by simp;omega
  have er:cR t deep n d=(some ((n:Int),5,none),n,d):=by rw[ef,if_pos c1]
  rw[er];refine⟨h1,ho1,le1.wR,aw1,ct rfl rfl (.inr (by simp only[AV.aj,AV.ae,bbd])) ?_⟩
  simp only[a97,Ky,Kz,KA,aeF,ah.bbw,aw,reduceIte,Nat.reduceEqDiff,y1,y2,←eh1,dF,au,baf,l0,z,ai (dA _ _ _)]
  exact⟨[G_ n 5 none],by simp only[Env.results,baq,aa,reduceIte,Nat.reduceEqDiff],rfl⟩
 have z:((n:Int)==4096)=false:=by simp;omega
 by_cases c2:deep>256
 ·have z2:((deep:Int)>256)=True:=eq_true (by omega)
  have er:cR t deep n d=(some ((n:Int),9,none),n,d):=by rw[ef,if_neg c1,if_pos c2]
  rw[er];refine⟨h1,ho1,le1.wR,aw1,ct rfl rfl (.inr (by simp only[AV.aj,AV.ae,bbd])) ?_⟩
  simp only[a97,Ky,Kz,KA,Rb,aeG,ah.bbw,aw,reduceIte,Nat.reduceEqDiff,y1,y2,←eh1,dF,au,baf,l0,z,z2,ai (dA _ _ _)]
  exact⟨[G_ n 9 none],by simp only[Env.results,baq,aa,reduceIte,Nat.reduceEqDiff],rfl⟩
 have z2:((deep:Int)>256)=False:=eq_false (by omega)
 have wf:∀h,WC env 130 [.agg cs,.int .i64 (n:Int)] h (fun o=>o=.ret ⟨da n (bw t),h,.none⟩):=fun h=>by rw[ec];exact TE t ok n h
 cases e1:bw t with
 |some cu=>
  obtain⟨cd,u⟩:=cu
  have er:cR t deep n d=(some ((n:Int),cd,u),n,d):=by rw[ef,if_neg c1,if_neg c2,e1]
  rw[er];have wf:∀h,WC env 130 [.agg cs,.int .i64 (n:Int)] h (fun o=>o=.ret ⟨G_ n cd u,h,.none⟩):=fun h=>by have:=wf h;rw[e1]at this;exact this
  have aq:uS (.iface true) (G_ n cd u) .bL=some false:=rfl
  refine⟨h1,ho1,le1.wR,aw1,ct rfl rfl (.inr (by simp only[AV.aj,AV.ae,bbd])) ?_⟩
  simp only[a97,Ky,Kz,KA,Rb,Xg,Xh,aeH,ah.bbw,aw,reduceIte,Nat.reduceEqDiff,y1,y2,←eh1,dF,au,l0,l6,z,z2,ai (wf _),aq,jah]
  exact⟨[G_ n cd u],by simp only[Env.results,baq,aa,reduceIte,Nat.reduceEqDiff],rfl⟩
 |none=>
  have er:cR t deep n d=cH ar (deep+1) (n+1) (max d deep):=by rw[ef,if_neg c1,if_neg c2,e1]
  rw[er];have wf:∀h,WC env 130 [.agg cs,.int .i64 (n:Int)] h (fun o=>o=.ret ⟨.bL,h,.none⟩):=fun h=>by have:=wf h;rw[e1]at this;exact this
  obtain⟨h2,eh2⟩:∃h2,h2=h1.cD w 0 [.int .i64 ((n+1:Nat):Int),.int .i64 d]:=⟨_,rfl⟩
  have ho2:an h2:=by rw[eh2];exact ho1.cD (cJ.1 aw1) _ _
  have aw2:h2.at_ w 0=some [.int .i64 ((n+1:Nat):Int),.int .i64 d]:=by rw[eh2];exact bD
  have a2:h2.at_ h.next 0=some [.int .i64 k,.int .i64 i,.str s,.int .u32 c,aM nf ns.length (bN ns),av]:=by rw[eh2,cw (by omega)];exact a1
  obtain⟨h3,eh3⟩:∃h3,h3=h2.cD w 0 [.int .i64 ((n+1:Nat):Int),.int .i64 ((max d deep:Nat):Int)]:=⟨_,rfl⟩
  have ho3:an h3:=by rw[eh3];exact ho2.cD (cJ.1 aw2) _ _
  have aw3:h3.at_ w 0=some [.int .i64 ((n+1:Nat):Int),.int .i64 ((max d deep:Nat):Int)]:=by rw[eh3];exact bD
  have a3:h3.at_ h.next 0=some [.int .i64 k,.int .i64 i,.str s,.int .u32 c,aM nf ns.length (bN ns),av]:=by rw[eh3,cw (by omega)];exact a2
  have s1:bC h1 1 (.ptr w 0 0) (.int .i64 ((n+1:Nat):Int))=some ⟨.undef,h2,.write⟩:=by rw[eh2];exact ap1 aw1
  have l1:=alC aw2
  have s2:bC h2 1 (.ptr w 0 1) (.int .i64 ((max d deep:Nat):Int))=some ⟨.undef,h3,.write⟩:=by rw[eh3];exact ap2 aw2
  have l5:=dZ a3
  have zn:IntKind.wrap .i64 ((n:Int)+1)=((n+1:Nat):Int):=aX (by omega) (by omega)
  have zm:gu true (.int .i64 d) (.int .i64 deep)=some (.int .i64 ((max d deep:Nat):Int)):=by
   show some (AV.int .i64 (if(d:Int)<deep then(deep:Int)else d))=_
   split
   ·rw[Nat.max_eq_right (by omega)]
   ·rw[Nat.max_eq_left (by omega)]
  have al:∀h,aN false h av=some ⟨.int .i64 ar.length,h,.none⟩:=fun h=>by rw[ea];exact bX _ _ _ (fun _=>trivial) h
  have ch:jL (fun i=>i=w) h h3:=by
   refine(le1.wR (S:=fun i=>i=w)).trans ?_
   rw[eh3,eh2];exact(fJ (S:=fun i=>i=w) rfl).trans (fJ (S:=fun i=>i=w) rfl)
  obtain⟨h4,hh4⟩:∃h4:Heap,True:=⟨h,trivial⟩
  clear hh4 h4
  have bbz:WC env 97 [.ptr w 0 0,.agg cs,.int .i64 deep] h (fun o=>∃h',o=.ret ⟨gV (cH ar (deep+1) (n+1) (max d deep)).1,h',.write⟩∧an h' ∧jL (fun i=>i=w) h h' ∧h'.at_ w 0=some (w2 (cH ar (deep+1) (n+1) (max d deep)).2.1 (cH ar (deep+1) (n+1) (max d deep)).2.2)):=by
   refine ct rfl rfl (.inr (by simp only[AV.aj,AV.ae,bbd])) ?_
   simp only[a97,Ky,Kz,KA,Rb,Xg,Xh,aeI,Xi,Xj,ah.bbw,aw,reduceIte,Nat.reduceEqDiff,eS,fW,y1,y2,←eh1,dF,au,l0,l6,z,z2,ai (wf _),eq_nil,zn,s1,l1,zm,s2,l5,al,jag]
   refine TJ (ar:=ar) hP sa (af:=af) (w:=w) (deep:=deep) (by omega) (ar.length+1) 0 _ h3 (n+1) (max d deep) (by omega) (by omega) ho3 aw3 (by omega) (by omega) ?_ ?_ ?_ ?_ ?_ fun σ' h' q1 q2 q3=> ?_
   ·simp only[aa,reduceIte,Nat.reduceEqDiff]
   ·simp only[aa,reduceIte,Nat.reduceEqDiff]
   ·simp only[aa,reduceIte,Nat.reduceEqDiff,ea]
   ·simp only[aa,reduceIte,Nat.reduceEqDiff]
   ·simp only[aa,reduceIte,Nat.reduceEqDiff];rfl
   ·rw[bah]at q3⊢
    refine⟨fun e=> ?_,fun e he g=> ?_⟩
    ·simp only[Xk,aw,reduceIte]
     exact⟨[.bL],by simp only[Env.results,baq,aa,reduceIte],h',by rw[e];rfl,q1,ch.trans q2,q3⟩
    ·simp only[aw]
     exact⟨[gV (some e)],by simp only[Env.results,baq,g],h',by rw[he];rfl,q1,ch.trans q2,q3⟩
  obtain⟨o,hr,h',ho',p1,p2,p3⟩:=bbz
  exact⟨h',p1,p2,p3,o,hr,ho'⟩
theorem Hb (t:Tm) (ok:t.Ok) (h:Heap):WC env 54 [.agg (tc t)] h (fun o=>o=.ret ⟨match cR t 1 0 0 with
  |(none,n,d)=>.aF [.int .i64 n,.int .i64 d,.bL]
  |(some e,_,_)=>.aF [.int .i64 0,.int .i64 0,gV (some e)],h,.none⟩):=by
 refine ad rfl rfl rfl (by simp only[bdk,az]) ?_
 obtain⟨h1,eh1⟩:∃h1,h1=Heap.empty.new (tc t):=⟨_,rfl⟩
 have ho1:an h1:=by rw[eh1];exact an.empty.new _
 have a1:h1.at_ Heap.empty.next 0=some (tc t):=by rw[eh1];exact aY _
 obtain⟨h2,eh2⟩:∃h2,h2=h1.new [.int .i64 0,.int .i64 0]:=⟨_,rfl⟩
 have ho2:an h2:=by rw[eh2];exact ho1.new _
 have a2:h2.at_ Heap.empty.next 0=some (tc t):=by rw[eh2];exact(cz ho1 _).2 _ _ _ a1
 have aw2:h2.at_ h1.next 0=some (w2 0 0):=by rw[eh2];exact aY _
 obtain⟨h3,ho3,ch3,aw3,w3⟩:=acd t ok 1 0 0 _ h2 ho2 aw2 (by omega) (by omega) (by omega)
 have y1:(AV.agg (tc t)).row=some (tc t):=rfl
 have y2:(tc t).length=6:=aR t
 have l6:=lM a2
 cases e:cR t 1 0 0 with
 |mk r nd=>
  obtain⟨n,d⟩:=nd
  rw[e]at aw3 w3
  cases r with
  |none=>
   have w3' :WC env 97 [.ptr h1.next 0 0,.agg (tc t),.int .i64 1] h2 (fun o=>o=.ret ⟨.bL,h3,.write⟩):=w3
   have l0:=alB aw3
   have l1:=alC aw3
   simp only[a54,Xl,Xm,Xn,Xo,aeJ,ah.bbw,aw,reduceIte,Nat.reduceEqDiff,y1,y2,←eh1,←eh2,l6,ai w3',eq_nil,baj]
   refine aB ?_
   simp only[aw,reduceIte,Nat.reduceEqDiff,k3,au,baf,l0,l1]
   refine⟨rfl,?_⟩
   exact⟨[.int .i64 n,.int .i64 d,.bL],_,by simp only[Env.results,baq,aa,reduceIte,Nat.reduceEqDiff],(ay (v:=.aF [.int .i64 n,.int .i64 d,.bL]) rfl).2 rfl,rfl⟩
  |some er=>
   have w3' :WC env 97 [.ptr h1.next 0 0,.agg (tc t),.int .i64 1] h2 (fun o=>o=.ret ⟨gV (some er),h3,.write⟩):=w3
   simp only[a54,Xl,Xm,Xn,Xo,aeK,ah.bbw,aw,reduceIte,Nat.reduceEqDiff,y1,y2,←eh1,←eh2,l6,ai w3',Kx,bak]
   exact⟨[.int .i64 0,.int .i64 0,gV (some er)],.aF [.int .i64 0,.int .i64 0,gV (some er)],by simp only[Env.results,baq,aa,reduceIte,Nat.reduceEqDiff],(ay (v:=.aF [.int .i64 0,.int .i64 0,gV (some er)]) (by simp only[bdk,B3])).2 rfl,rfl⟩
def hJ (t:Tm):y9:=(cR t 1 0 0).1
theorem eT (t:Tm) (ok:t.Ok) (h:Heap):WC env 36 [.agg (tc t)] h (fun o=>o=.ret ⟨gV (hJ t),h,.none⟩):=by
 refine ad rfl rfl rfl (by simp only[bdk,az]) ?_
 obtain⟨h1,eh1⟩:∃h1,h1=Heap.empty.new (tc t):=⟨_,rfl⟩
 have a1:h1.at_ Heap.empty.next 0=some (tc t):=by rw[eh1];exact aY _
 have y1:(AV.agg (tc t)).row=some (tc t):=rfl
 have y2:(tc t).length=6:=aR t
 have l6:=lM a1
 obtain⟨n,d,wm⟩:∃n d:Int,∀h,WC env 54 [.agg (tc t)] h (fun o=>o=.ret ⟨.aF [.int .i64 n,.int .i64 d,gV (hJ t)],h,.none⟩):=by
  have wm:=Hb t ok
  cases e:cR t 1 0 0 with
  |mk r nd=>
   obtain⟨n,d⟩:=nd
   have ec:hJ t=r:=by rw[hJ,e]
   rw[e]at wm
   rw[ec];cases r with
   |none=>exact⟨n,d,fun h=>wm h⟩
   |some er=>exact⟨0,0,fun h=>wm h⟩
 simp only[a36,aeL,aeM,aeN,ah.bbw,aw,reduceIte,Nat.reduceEqDiff,y1,y2,←eh1,l6,ai (wm _),cm,Q8,Q9,Q_]
 exact j6 (by simp only[aa,reduceIte,Nat.reduceEqDiff]<;>rfl) (B3 _) (Xd _) rfl
end Go.Bf
namespace Go.Bf
open Go.AM
def dP:y9→AV
 |none=>.ax
 |some (a,c,none)=>.fs true 1 [.str [116,101,114,109],.int .i64 a,.int .i64 c]
 |some (a,c,some (p,d))=>.fs false 2 [.str [116,101,114,109],.int .i64 a,.int .i64 c,.str [97,116,111,109],.int .i64 p,.int .i64 d]
theorem rB (a c:Int) (h:Heap):WC env 48 [.int .i64 a,.int .i64 c] h (fun o=>o=.ret ⟨dP (some (a,c,none)),h,.none⟩):=bu (n:=30) (by kernel_rfl)
theorem B4 (a p d:Int) (h:Heap):WC env 51 [.int .i64 a,iK (some (p,d))] h (fun o=>o=.ret ⟨dP (some (a,d,some (p,d))),h,.none⟩):=bu (n:=30) (by kernel_rfl)
theorem g_:uS .slice .ax .ax=some true:=rfl
theorem Rc (e:Int×Int):uS .slice (iK (some e)) .ax=some false:=rfl
theorem KB (e:Int×Int×CQ):uS .slice (dP (some e)) .ax=some false:=by
 rcases e with⟨a,c,_|⟨p,d⟩⟩<;>rfl
theorem Xp (e:Int×Int×CQ):(dP (some e)).row=some [dP (some e)]:=by
 rcases e with⟨a,c,_|⟨p,d⟩⟩<;>rfl
theorem Nb (x:y9):(dP x).ae=true:=by
 rcases x with _|⟨a,c,_|⟨p,d⟩⟩<;>rfl
section
variable {h : Heap} {i : Nat} {a b c : AV} (hat : h.at_ i 0 = some [a, b, c])
include hat
theorem ap4:bg h false 1 (.ptr i 0 0)=some ⟨a,h,.read⟩:=by simp only[bg,hat,bag];rfl
theorem ap5:bg h false 1 (.ptr i 0 1)=some ⟨b,h,.read⟩:=by simp only[bg,hat,bag];rfl
theorem Xq:bg h false 1 (.ptr i 0 2)=some ⟨c,h,.read⟩:=by simp only[bg,hat,bag];rfl
theorem ap6 {k:IntKind} {n:Int}:bC h 1 (.ptr i 0 0) (.int k n)=some ⟨.undef,h.cD i 0 [.int k n,b,c],.write⟩:=by
 simp only[bC,hat,bag];rfl
theorem ap7 {k:IntKind} {n:Int}:bC h 1 (.ptr i 0 1) (.int k n)=some ⟨.undef,h.cD i 0 [a,.int k n,c],.write⟩:=by
 simp only[bC,hat,bag];rfl
theorem ap8 (e:Int×Int×CQ):bC h 1 (.ptr i 0 2) (dP (some e))=some ⟨.undef,h.cD i 0 [a,b,dP (some e)],.write⟩:=by
 simp only[bC,hat,bag,Xp];rfl
end
def sJ (h:Heap) (w:Nat):y9×Nat×Nat→Prop
 |(none,n,d)=>h.at_ w 0=some [.int .i64 n,.int .i64 d,.ax]
 |(some e,_,_)=>∃N D:AV,h.at_ w 0=some [N,D,dP (some e)]
def Nc (t:Tm):Prop:=∀(deep n d w:Nat) (h:Heap),an h→h.at_ w 0=some [.int .i64 n,.int .i64 d,.ax]→n≤4096→deep≤257→d≤256→
 ∃h',an h' ∧jL (fun i=>i=w) h h' ∧sJ h' w (cR t deep n d)∧WC env 32 [.ptr w 0 0,.agg (tc t),.int .i64 deep] h (fun o=>o=.ret ⟨.aF [],h',.write⟩)
theorem EB {ar:List Tm} {af:Option Bool} {w i4 i:Nat} {e:Int×Int×CQ} {h:Heap} {N D:AV} (hw:h.at_ w 0=some [N,D,dP (some e)]) (l5:bg h false 1 (.ptr i4 0 5)=some ⟨aM af ar.length (bq ar),h,.read⟩)
  {σ:ah} (g0:σ.get 0=.ptr w 0 0) (g4:σ.get 4=.ptr i4 0 0) (g12:σ.get 12=.int .i64 i) {Q:aU→St→Prop} (hQ:∀σ',Q (.exit 1) ⟨σ',h⟩):kz env ki ⟨σ,h⟩ Q:=by
 refine aC fun b hb=> ?_
 have nl:∀h,aN false h (aM af ar.length (bq ar))=some ⟨.int .i64 ar.length,h,.none⟩:=fun h=>bX _ _ _ (fun _=>trivial) h
 have l2:=Xq hw
 by_cases c1:(i:Int)<(ar.length:Int)
 ·have z0:=eq_true c1
  simp only[ki,B5,aw,reduceIte,Nat.reduceEqDiff,g0,g4,g12,au,baf,dF,l5,l2,nl,z0,KB,aL]
  exact hQ _
 ·have z0:=eq_false c1
  simp only[ki,B5,aw,reduceIte,Nat.reduceEqDiff,g4,g12,au,baf,l5,nl,z0,aL]
  exact hQ _
theorem TK {ar:List Tm} (hP:∀t,t∈ar→Nc t) (hlen:ar.length<9223372036854775808) {af:Option Bool} {w i4 deep:Nat} (hne:i4≠w) {k0 k1 k2 k3 k4:AV} (bcr:deep≤256) {Q:aU→St→Prop}:
  ∀(f i:Nat) (σ:ah) (h:Heap) (n d:Nat),ar.length-i<f→i≤ar.length→an h→h.at_ w 0=some [.int .i64 n,.int .i64 d,.ax]→h.at_ i4 0=some [k0,k1,k2,k3,k4,aM af ar.length (bq ar)]→n≤4096→d≤256→
  σ.get 0=.ptr w 0 0→σ.get 2=.int .i64 deep→σ.get 4=.ptr i4 0 0→σ.get 12=.int .i64 i→
  (∀σ' h',an h' →jL (fun i=>i=w) h h' →sJ h' w (cH (ar.drop i) (deep+1) n d)→Q (.exit 1) ⟨σ',h'⟩)→
  kz env ki ⟨σ,h⟩ Q:=by
 intro f
 induction f with
 |zero=>intro i σ h n d h1;omega
 |succ f ih=>
  intro i σ h n d hf hi ho hw h4 hn hd g0 g2 g4 g12 hQ;refine aC fun b hb=> ?_
  have nl:∀h,aN false h (aM af ar.length (bq ar))=some ⟨.int .i64 ar.length,h,.none⟩:=fun h=>bX _ _ _ (fun _=>trivial) h
  have l2:=Xq hw
  have l5:=dZ h4
  by_cases c1:i<ar.length
  ·have z0:((i:Int)<(ar.length:Int))=True:=eq_true (by omega)
   have zi:IntKind.wrap .i64 ((i:Int)+1)=((i+1:Nat):Int):=aX (by omega) (by omega)
   have zd:IntKind.wrap .i64 ((deep:Int)+1)=((deep+1:Nat):Int):=aX (by omega) (by omega)
   have lx:=fI (f:=af) c1
   have ld:=fK c1 h
   obtain⟨t,et⟩:∃t,t=ar[i]:=⟨_,rfl⟩
   have hd' :ar.drop i=t::ar.drop (i+1):=by rw[et];exact bat c1
   rw[←et]at ld
   obtain⟨h3,ho3,ch3,hw3,wc3⟩:=hP t (by rw[et];exact bas c1) (deep+1) n d w h ho hw hn (by omega) hd
   have bd:=sI t (deep+1) n d hn hd
   rw[hd',cH]at hQ
   have h43:=ch3.2 _ _ _ hne h4
   simp only[ki,B5,Xr,Xs,aw,reduceIte,Nat.reduceEqDiff,g0,g2,g4,g12,au,baf,dF,l5,l2,nl,z0,g_,aL,lx,ld,zd,ai wc3,zi]
   cases e:(cR t (deep+1) n d)with
   |mk r nd=>
    obtain⟨n',d'⟩:=nd
    rw[e]at hQ hw3 bd
    subst hb;cases r with
    |none=>
     refine ih (i+1) _ h3 n' d' (by omega) (by omega) ho3 hw3 h43 bd.1 bd.2 ?_ ?_ ?_ ?_ fun σ' h' q1 q2 q3=>hQ σ' h' q1 (ch3.trans q2) q3
     ·simp only[aa,reduceIte,Nat.reduceEqDiff,g0]
     ·simp only[aa,reduceIte,Nat.reduceEqDiff,g2]
     ·simp only[aa,reduceIte,Nat.reduceEqDiff,g4]
     ·simp only[aa,reduceIte,Nat.reduceEqDiff]
    |some er=>
     obtain⟨N,D,hw3'⟩:=hw3
     refine EB (ar:=ar) (af:=af) (i:=i+1) (e:=er) hw3' (dZ h43) ?_ ?_ ?_ fun σ' =>hQ σ' h3 ho3 ch3 ⟨N,D,hw3'⟩
     ·simp only[aa,reduceIte,Nat.reduceEqDiff,g0]
     ·simp only[aa,reduceIte,Nat.reduceEqDiff,g4]
     ·simp only[aa,reduceIte,Nat.reduceEqDiff]
  ·have z0:((i:Int)<(ar.length:Int))=False:=eq_false (by omega)
   rw[bao (show ar.length≤i by omega),cH]at hQ
   simp only[ki,B5,aw,reduceIte,Nat.reduceEqDiff,g4,g12,au,baf,l5,nl,z0,aL]
   exact hQ _ h ho jL.refl hw
set_option maxHeartbeats 4000000 in
theorem ace:∀t:Tm,t.Ok→Nc t:=by
 refine j7 fun k i s c nf ns af ar ih ok deep n d w h ho hw hn bcr hd=> ?_
 obtain⟨ss,sn,sa,sr⟩:=ok.lens
 have hP:∀t,t∈ar→Nc t:=fun t m=>ih t m (sr.get m)
 obtain⟨t,et⟩:∃t:Tm,t=.mk k i s c nf ns af ar:=⟨_,rfl⟩
 rw[←et]at ok⊢
 obtain⟨cs,ec⟩:∃cs,cs=tc t:=⟨_,rfl⟩
 have ec' :cs=[.int .i64 k,.int .i64 i,.str s,.int .u32 c,aM nf ns.length (bN ns),aM af ar.length (bq ar)]:=by rw[ec,et];rfl
 have iw:=ho.lt hw
 obtain⟨i4,e4⟩:∃i4,i4=h.next:=⟨_,rfl⟩
 have hne:i4≠w:=by omega
 obtain⟨h1,eh1⟩:∃h1,h1=h.new cs:=⟨_,rfl⟩
 have ho1:an h1:=by rw[eh1];exact ho.new _
 have le1:h.le h1:=by rw[eh1];exact cz ho _
 have a1:h1.at_ i4 0=some cs:=by rw[eh1,e4];exact aY _
 rw[ec']at a1
 have aw1:=le1.2 _ _ _ hw
 have y1:(AV.agg cs).row=some cs:=rfl
 have y2:cs.length=6:=by rw[ec'];rfl
 have l0:=ap4 aw1
 have l2:=Xq aw1
 rw[←ec];have ef:cR t deep n d=if n=4096 then(some ((n:Int),5,none),n,d)
  else if deep>256 then(some ((n:Int),9,none),n,d)
  else match bw t with
   |some (c,u)=>(some ((n:Int),c,u),n,d)
   |none=>cH ar (deep+1) (n+1) (max d deep):=by rw[et,cR];try rfl
 obtain⟨h2,eh2⟩:∃h2,h2=h1.cD w 0 [.int .i64 ((n+1:Nat):Int),.int .i64 d,.ax]:=⟨_,rfl⟩
 have ho2:an h2:=by rw[eh2];exact ho1.cD (cJ.1 aw1) _ _
 have aw2:h2.at_ w 0=some [.int .i64 ((n+1:Nat):Int),.int .i64 d,.ax]:=by rw[eh2];exact bD
 have a2:h2.at_ i4 0=some [.int .i64 k,.int .i64 i,.str s,.int .u32 c,aM nf ns.length (bN ns),aM af ar.length (bq ar)]:=by rw[eh2,cw hne];exact a1
 obtain⟨h3,eh3⟩:∃h3,h3=h2.cD w 0 [.int .i64 ((n+1:Nat):Int),.int .i64 ((max d deep:Nat):Int),.ax]:=⟨_,rfl⟩
 have ho3:an h3:=by rw[eh3];exact ho2.cD (cJ.1 aw2) _ _
 have aw3:h3.at_ w 0=some [.int .i64 ((n+1:Nat):Int),.int .i64 ((max d deep:Nat):Int),.ax]:=by rw[eh3];exact bD
 have a3:h3.at_ i4 0=some [.int .i64 k,.int .i64 i,.str s,.int .u32 c,aM nf ns.length (bN ns),aM af ar.length (bq ar)]:=by rw[eh3,cw hne];exact a2
 have s1:bC h1 1 (.ptr w 0 0) (.int .i64 ((n+1:Nat):Int))=some ⟨.undef,h2,.write⟩:=by rw[eh2];exact ap6 aw1
 have l1:=ap5 aw2
 have s2:bC h2 1 (.ptr w 0 1) (.int .i64 ((max d deep:Nat):Int))=some ⟨.undef,h3,.write⟩:=by rw[eh3];exact ap7 aw2
 have q0:=eK a3
 have q1:=gj a3
 have q2:=gk a3
 have q6:bg h3 true 6 (.ptr i4 0 0)=some ⟨.agg cs,h3,.read⟩:=by rw[ec'];exact vy a3
 have zn:IntKind.wrap .i64 ((n:Int)+1)=((n+1:Nat):Int):=aX (by omega) (by omega)
 have zm:gu true (.int .i64 d) (.int .i64 deep)=some (.int .i64 ((max d deep:Nat):Int)):=by
  show some (AV.int .i64 (if(d:Int)<deep then(deep:Int)else d))=_
  split
  ·rw[Nat.max_eq_right (by omega)]
  ·rw[Nat.max_eq_left (by omega)]
 have ch:jL (fun i=>i=w) h h3:=by
  refine(le1.wR (S:=fun i=>i=w)).trans ?_
  rw[eh3,eh2];exact(fJ (S:=fun i=>i=w) rfl).trans (fJ (S:=fun i=>i=w) rfl)
 have bbz:WC env 32 [.ptr w 0 0,.agg cs,.int .i64 deep] h (fun o=>∃h',o=.ret ⟨.aF [],h',.write⟩∧an h' ∧jL (fun i=>i=w) h h' ∧sJ h' w (cR t deep n d)):=by
  refine ct rfl rfl (.inr (by simp only[AV.aj,AV.ae,bbd])) ?_
  have stop:∀(e:Int×Int×CQ) (n' d' :Nat),cR t deep n d=(some e,n',d')→∀σ:ah,σ.get 0=.ptr w 0 0→σ.get 4=.ptr i4 0 0→rW env uz ⟨σ,h3.cD w 0 [.int .i64 ((n+1:Nat):Int),.int .i64 ((max d deep:Nat):Int),dP (some e)]⟩ (uV env (.block 1 (.loop ki)) (Lj env [] (fun o=>∃h',o=.ret ⟨.aF [],h',.write⟩∧an h' ∧jL (fun i=>i=w) h h' ∧sJ h' w (cR t deep n d)))):=by
   intro e n' d' he σ g0 g4;have a4:(h3.cD w 0 [.int .i64 ((n+1:Nat):Int),.int .i64 ((max d deep:Nat):Int),dP (some e)]).at_ i4 0=some [.int .i64 k,.int .i64 i,.str s,.int .u32 c,aM nf ns.length (bN ns),aM af ar.length (bq ar)]:=by rw[cw hne];exact a3
   simp only[uz,aw]
   refine EB (ar:=ar) (af:=af) (i:=0) (e:=e) bD (dZ a4) ?_ ?_ ?_ fun σ' => ?_
   ·simp only[aa,reduceIte,Nat.reduceEqDiff,g0]
   ·simp only[aa,reduceIte,Nat.reduceEqDiff,g4]
   ·simp only[aa,reduceIte];rfl
   simp only[aw,reduceIte]
   exact⟨[],rfl,_,rfl,ho3.cD (cJ.1 aw3) _ _,ch.trans (fJ (S:=fun i=>i=w) rfl),by rw[he];exact⟨_,_,bD⟩⟩
  have eb:a32.body=(.seq (.ops oL) (.seq (.seq (.ops oM) (.cond (.t 17) .ret .skip)) (.seq (.ops oO) (.seq (.ops oQ) (.seq (.ops oR) (.seq (.block 0 (.seq (.ops oS) (.cond (.t 38) (.ops Xt) (.seq (.ops qj) (.cond (.t 46) (.ops Xu) (.seq (.ops rC) (.cond (.t 54) (.ops Nd) (.seq (.ops nM) (.cond (.t 63) (.ops Hc) (.seq (.ops rD) (.cond (.t 82) (.seq (.ops Hd) (.seq (.ops He) (.cond (.t 93) (.ops Nf) .skip))) (.seq (.ops xz) (.cond (.t 100) (.seq (.ops B6) (.seq (.ops B7) (.cond (.t 117) (.ops Hf) .skip))) .skip))))))))))))) (.seq (.ops uz) (.block 1 (.loop ki))))))))):=rfl
  have er:a32.results=[]:=rfl
  obtain⟨L,eL⟩:∃L,L=AC.block 1 (.loop ki):=⟨_,rfl⟩
  rw[←eL]at stop eb
  rw[eb,er];have s3' :∀e,bC h3 1 (.ptr w 0 2) (dP (some e))=some ⟨.undef,h3.cD w 0 [.int .i64 ((n+1:Nat):Int),.int .i64 ((max d deep:Nat):Int),dP (some e)],.write⟩:=fun e=>ap8 aw3 e
  have none_set:∀(x y:Int),True:=fun _ _=>trivial
  by_cases c1:n=4096
  ·have z:((n:Int)≥4096)=True:=eq_true (by omega)
   have e1:cR t deep n d=(some ((n:Int),5,none),n,d):=by rw[ef,if_pos c1]
   simp only[oL,oM,oO,oQ,oR,oS,Xt,ah.bbw,aw,reduceIte,Nat.reduceEqDiff,eS,fW,y1,y2,←eh1,←e4,dF,au,l0,l2,g_,zn,s1,l1,zm,s2,z,ai (rB _ _ _),s3',jag]
   exact stop _ _ _ e1 _ (by simp only[aa,reduceIte,Nat.reduceEqDiff]) (by simp only[aa,reduceIte,Nat.reduceEqDiff])
  have z:((n:Int)≥4096)=False:=eq_false (by omega)
  by_cases c2:deep>256
  ·have z2:((deep:Int)>256)=True:=eq_true (by omega)
   have e1:cR t deep n d=(some ((n:Int),9,none),n,d):=by rw[ef,if_neg c1,if_pos c2]
   simp only[oL,oM,oO,oQ,oR,oS,qj,Xu,ah.bbw,aw,reduceIte,Nat.reduceEqDiff,eS,fW,y1,y2,←eh1,←e4,dF,au,l0,l2,g_,zn,s1,l1,zm,s2,z,z2,ai (rB _ _ _),s3',jag]
   exact stop _ _ _ e1 _ (by simp only[aa,reduceIte,Nat.reduceEqDiff]) (by simp only[aa,reduceIte,Nat.reduceEqDiff])
  have z2:((deep:Int)>256)=False:=eq_false (by omega)
  have wf:∀h,WC env 49 [.agg cs] h (fun o=>o=.ret ⟨.bool (kindOk t),h,.none⟩):=fun h=>by rw[ec];exact M7 t ok h
  have ff:bw t=if kindOk t=false then some (40,none)else if k=1 then if i< -576460752303423488∨i>576460752303423487 then some (2,none)else none else if k=2 then(match dO s with|some (p,c)=>some (c,some (p,c))|none=>none)else if k=3∨k=4 then if jm s then none else some (24,some (0,24))else none:=by rw[et,bw];rfl
  have eo:∀cd u,bw t=some (cd,u)→cR t deep n d=(some ((n:Int),cd,u),n,d):=fun cd u e=>by rw[ef,if_neg c1,if_neg c2,e]
  cases c3:kindOk t with
  |false=>
   have wf:∀h,WC env 49 [.agg cs] h (fun o=>o=.ret ⟨.bool false,h,.none⟩):=fun h=>by have:=wf h;rw[c3]at this;exact this
   have e1:=eo 40 none (by rw[ff,if_pos c3])
   simp only[oL,oM,oO,oQ,oR,oS,qj,rC,Nd,ah.bbw,aw,reduceIte,Nat.reduceEqDiff,eS,fW,y1,y2,←eh1,←e4,dF,au,l0,l2,g_,zn,s1,l1,zm,s2,z,z2,q6,ai (wf _),dm,bak,ai (rB _ _ _),s3',jag]
   exact stop _ _ _ e1 _ (by simp only[aa,reduceIte,Nat.reduceEqDiff]) (by simp only[aa,reduceIte,Nat.reduceEqDiff])
  |true=>
  have wf:∀h,WC env 49 [.agg cs] h (fun o=>o=.ret ⟨.bool true,h,.none⟩):=fun h=>by have:=wf h;rw[c3]at this;exact this
  rw[if_neg (by rw[c3];decide)]at ff
  have goon:bw t=none→∀σ:ah,σ.get 0=.ptr w 0 0→σ.get 2=.int .i64 deep→σ.get 4=.ptr i4 0 0→rW env uz ⟨σ,h3⟩ (uV env L (Lj env [] (fun o=>∃h',o=.ret ⟨.aF [],h',.write⟩∧an h' ∧jL (fun i=>i=w) h h' ∧sJ h' w (cR t deep n d)))):=by
   intro e σ g0 g2 g4;have e1:cR t deep n d=cH ar (deep+1) (n+1) (max d deep):=by rw[ef,if_neg c1,if_neg c2,e]
   rw[e1,eL];simp only[uz,aw]
   refine TK (ar:=ar) hP sa (af:=af) (w:=w) (i4:=i4) (deep:=deep) hne (by omega) (ar.length+1) 0 _ h3 (n+1) (max d deep) (by omega) (by omega) ho3 aw3 a3 (by omega) (by omega) ?_ ?_ ?_ ?_ fun σ' h' p1 p2 p3=> ?_
   ·simp only[aa,reduceIte,Nat.reduceEqDiff,g0]
   ·simp only[aa,reduceIte,Nat.reduceEqDiff,g2]
   ·simp only[aa,reduceIte,Nat.reduceEqDiff,g4]
   ·simp only[aa,reduceIte];rfl
   rw[bah]at p3
   simp only[aw,reduceIte]
   exact⟨[],rfl,h',rfl,p1,ch.trans p2,p3⟩
  by_cases k1:k=1
  ·have y5:(k==1)=true:=by simp[k1]
   rw[if_pos k1]at ff
   by_cases b1:i< -576460752303423488
   ·have z3:(i< -576460752303423488)=True:=eq_true b1
    have e1:=eo 2 none (by rw[ff,if_pos (.inl b1)])
    simp only[oL,oM,oO,oQ,oR,oS,qj,rC,nM,Hc,ah.bbw,aw,reduceIte,Nat.reduceEqDiff,eS,fW,y1,y2,←eh1,←e4,dF,au,l0,l2,g_,zn,s1,l1,zm,s2,z,z2,q0,q1,q6,ai (wf _),dm,aL,y5,z3,ai (rB _ _ _),s3',jag]
    exact stop _ _ _ e1 _ (by simp only[aa,reduceIte,Nat.reduceEqDiff]) (by simp only[aa,reduceIte,Nat.reduceEqDiff])
   have z3:(i< -576460752303423488)=False:=eq_false b1
   by_cases b2:i>576460752303423487
   ·have z4:(i>576460752303423487)=True:=eq_true b2
    have e1:=eo 2 none (by rw[ff,if_pos (.inr b2)])
    simp only[oL,oM,oO,oQ,oR,oS,qj,rC,nM,Hc,ah.bbw,aw,reduceIte,Nat.reduceEqDiff,eS,fW,y1,y2,←eh1,←e4,dF,au,l0,l2,g_,zn,s1,l1,zm,s2,z,z2,q0,q1,q6,ai (wf _),dm,aL,y5,z3,z4,ai (rB _ _ _),s3',jag]
    exact stop _ _ _ e1 _ (by simp only[aa,reduceIte,Nat.reduceEqDiff]) (by simp only[aa,reduceIte,Nat.reduceEqDiff])
   have z4:(i>576460752303423487)=False:=eq_false b2
   rw[if_neg (by rintro(h|h);exact b1 h;exact b2 h)]at ff
   have y6:(k==2)=false:=by simp;omega
   have y7:(k==3)=false:=by simp;omega
   have y8:(k==4)=false:=by simp;omega
   simp only[oL,oM,oO,oQ,oR,oS,qj,rC,nM,rD,xz,ah.bbw,aw,reduceIte,Nat.reduceEqDiff,eS,fW,y1,y2,←eh1,←e4,dF,au,l0,l2,g_,zn,s1,l1,zm,s2,z,z2,q0,q1,q6,ai (wf _),dm,aL,y5,y6,y7,y8,z3,z4,jag]
   exact goon ff _ (by simp only[aa,reduceIte,Nat.reduceEqDiff]) (by simp only[aa,reduceIte,Nat.reduceEqDiff]) (by simp only[aa,reduceIte,Nat.reduceEqDiff])
  have y5:(k==1)=false:=by simpa using k1
  rw[if_neg k1]at ff
  by_cases k2:k=2
  ·have y6:(k==2)=true:=by simp[k2]
   have y7:(k==3)=false:=by simp;omega
   have y8:(k==4)=false:=by simp;omega
   rw[if_pos k2]at ff
   obtain⟨q,wq⟩:=aeC (KC s h3)
   cases eq:dO s with
   |some pc=>
    obtain⟨pp,cc⟩:=pc
    rw[eq]at wq ff
    have e1:=eo cc (some (pp,cc)) ff
    simp only[oL,oM,oO,oQ,oR,oS,qj,rC,nM,rD,Hd,He,Nf,ah.bbw,aE,aw,reduceIte,Nat.reduceEqDiff,eS,fW,y1,y2,←eh1,←e4,dF,au,l0,l2,g_,zn,s1,l1,zm,s2,z,z2,q0,q2,q6,ai (wf _),dm,aL,y5,y6,ai wq,cm,SJ,SK,Rc,bak,ai (B4 _ _ _ _),s3',jag]
    exact stop _ _ _ e1 _ (by simp only[aa,reduceIte,Nat.reduceEqDiff]) (by simp only[aa,reduceIte,Nat.reduceEqDiff])
   |none=>
    rw[eq]at wq ff
    have wq:WC env 50 [.str s] h3 (fun o=>o=.ret ⟨.aF [.str q,.ax],h3,.none⟩):=wq
    simp only[oL,oM,oO,oQ,oR,oS,qj,rC,nM,rD,Hd,He,ah.bbw,aE,aw,reduceIte,Nat.reduceEqDiff,eS,fW,y1,y2,←eh1,←e4,dF,au,l0,l2,g_,zn,s1,l1,zm,s2,z,z2,q0,q2,q6,ai (wf _),dm,aL,y5,y6,ai wq,cm,SJ,SK,jag]
    exact goon ff _ (by simp only[aa,reduceIte,Nat.reduceEqDiff]) (by simp only[aa,reduceIte,Nat.reduceEqDiff]) (by simp only[aa,reduceIte,Nat.reduceEqDiff])
  have y6:(k==2)=false:=by simpa using k2
  rw[if_neg k2]at ff
  by_cases k34:k=3∨k=4
  case neg=>
   have y7:(k==3)=false:=by simp;omega
   have y8:(k==4)=false:=by simp;omega
   rw[if_neg k34]at ff
   simp only[oL,oM,oO,oQ,oR,oS,qj,rC,nM,rD,xz,ah.bbw,aE,aw,reduceIte,Nat.reduceEqDiff,eS,fW,y1,y2,←eh1,←e4,dF,au,l0,l2,g_,zn,s1,l1,zm,s2,z,z2,q0,q6,ai (wf _),dm,aL,y5,y6,y7,y8,jag]
   exact goon ff _ (by simp only[aa,reduceIte,Nat.reduceEqDiff]) (by simp only[aa,reduceIte,Nat.reduceEqDiff]) (by simp only[aa,reduceIte,Nat.reduceEqDiff])
  rw[if_pos k34]at ff
  obtain⟨n1,n2,wq⟩:=M3 (M0 s ss h3)
  have last:∀(σ:ah),σ.get 0=.ptr w 0 0→σ.get 2=.int .i64 deep→σ.get 4=.ptr i4 0 0→σ.get 6=.int .i64 n→rW env B6 ⟨σ,h3⟩ (uV env (.seq (.ops B7) (.cond (.t 117) (.ops Hf) .skip)) (jt 0 (uV env (.seq (.ops uz) L) (Lj env [] (fun o=>∃h',o=.ret ⟨.aF [],h',.write⟩∧an h' ∧jL (fun i=>i=w) h h' ∧sJ h' w (cR t deep n d)))))):=by
   intro σ g0 g2 g4 g6;cases eq:jm s with
   |true=>
    rw[eq,if_pos rfl]at wq ff
    have wq:WC env 52 [.str s] h3 (fun o=>o=.ret ⟨.aF [.str n1,.str n2,.ax],h3,.none⟩):=wq
    simp only[B6,B7,aw,reduceIte,Nat.reduceEqDiff,g4,au,q2,ai wq,cm,Q8,Q9,Q_,g_,jag]
    exact goon ff _ (by simp only[aa,reduceIte,Nat.reduceEqDiff,g0]) (by simp only[aa,reduceIte,Nat.reduceEqDiff,g2]) (by simp only[aa,reduceIte,Nat.reduceEqDiff,g4])
   |false=>
    rw[eq,if_neg (by decide)]at wq ff
    have e1:=eo 24 (some (0,24)) ff
    simp only[B6,B7,Hf,aw,reduceIte,Nat.reduceEqDiff,g0,g4,g6,dF,au,q2,ai wq,cm,Q8,Q9,Q_,Rc,ai (B4 _ _ _ _),s3',jah]
    exact stop _ _ _ e1 _ (by simp only[aa,reduceIte,Nat.reduceEqDiff,g0]) (by simp only[aa,reduceIte,Nat.reduceEqDiff,g4])
  by_cases kk3:k=3
  ·have y7:(k==3)=true:=by simp[kk3]
   simp only[oL,oM,oO,oQ,oR,oS,qj,rC,nM,rD,xz,ah.bbw,aE,aw,reduceIte,Nat.reduceEqDiff,eS,fW,y1,y2,←eh1,←e4,dF,au,l0,l2,g_,zn,s1,l1,zm,s2,z,z2,q0,q6,ai (wf _),dm,aL,y5,y6,y7,jag]
   exact last _ (by simp only[aa,reduceIte,Nat.reduceEqDiff]) (by simp only[aa,reduceIte,Nat.reduceEqDiff]) (by simp only[aa,reduceIte,Nat.reduceEqDiff]) (by simp only[aa,reduceIte,Nat.reduceEqDiff])
  ·have y7:(k==3)=false:=by simpa using kk3
   have y8:(k==4)=true:=by simp;omega
   simp only[oL,oM,oO,oQ,oR,oS,qj,rC,nM,rD,xz,ah.bbw,aE,aw,reduceIte,Nat.reduceEqDiff,eS,fW,y1,y2,←eh1,←e4,dF,au,l0,l2,g_,zn,s1,l1,zm,s2,z,z2,q0,q6,ai (wf _),dm,aL,y5,y6,y7,y8,jag]
   exact last _ (by simp only[aa,reduceIte,Nat.reduceEqDiff]) (by simp only[aa,reduceIte,Nat.reduceEqDiff]) (by simp only[aa,reduceIte,Nat.reduceEqDiff]) (by simp only[aa,reduceIte,Nat.reduceEqDiff])
 obtain⟨o,hr,h',ho',p1,p2,p3⟩:=bbz
 exact⟨h',p1,p2,p3,o,hr,ho'⟩
theorem jk (t:Tm) (ok:t.Ok) (h:Heap):WC env 16 [.agg (tc t)] h (fun o=>o=.ret ⟨dP (hJ t),h,.none⟩):=by
 refine ad rfl rfl rfl (by simp only[bdk,az]) ?_
 obtain⟨h1,eh1⟩:∃h1,h1=Heap.empty.new (tc t):=⟨_,rfl⟩
 have ho1:an h1:=by rw[eh1];exact an.empty.new _
 have a1:h1.at_ Heap.empty.next 0=some (tc t):=by rw[eh1];exact aY _
 obtain⟨h2,eh2⟩:∃h2,h2=h1.new [.int .i64 0,.int .i64 0,.ax]:=⟨_,rfl⟩
 have ho2:an h2:=by rw[eh2];exact ho1.new _
 have a2:h2.at_ Heap.empty.next 0=some (tc t):=by rw[eh2];exact(cz ho1 _).2 _ _ _ a1
 have aw2:h2.at_ h1.next 0=some [.int .i64 ((0:Nat):Int),.int .i64 ((0:Nat):Int),.ax]:=by rw[eh2];exact aY _
 obtain⟨h3,ho3,ch3,aw3,w3⟩:=ace t ok 1 0 0 _ h2 ho2 aw2 (by omega) (by omega) (by omega)
 have w3:WC env 32 [.ptr h1.next 0 0,.agg (tc t),.int .i64 1] h2 (fun o=>o=.ret ⟨.aF [],h3,.write⟩):=w3
 have y1:(AV.agg (tc t)).row=some (tc t):=rfl
 have y2:(tc t).length=6:=aR t
 have y3:bY [.int .i64 0,.int .i64 0,.ax] []=some [.int .i64 0,.int .i64 0,.ax]:=rfl
 have y4:(AV.agg [.int .i64 0,.int .i64 0,.ax]).row=some [.int .i64 0,.int .i64 0,.ax]:=rfl
 have y5:([AV.int .i64 0,.int .i64 0,.ax]:List AV).length=3:=rfl
 have l6:=lM a2
 have l2:bg h3 false 1 (.ptr h1.next 0 2)=some ⟨dP (hJ t),h3,.read⟩:=by
  rw[hJ];cases e:cR t 1 0 0 with
  |mk r nd=>
   obtain⟨n,d⟩:=nd
   rw[e]at aw3
   cases r with
   |none=>exact Xq aw3
   |some er=>obtain⟨N,D,aw3⟩:=aw3;exact Xq aw3
 simp only[a16,aeO,aeP,aeQ,aeR,ah.bbw,aw,reduceIte,Nat.reduceEqDiff,y1,y2,y3,y4,y5,←eh1,←eh2,l6,ai w3,dF,au,baf,l2]
 exact⟨[dP (hJ t)],dP (hJ t),by simp only[Env.results,baq,aa,reduceIte,Nat.reduceEqDiff],(ay (v:=dP (hJ t)) (Nb _)).2 rfl,rfl⟩
end Go.Bf
namespace Go.Bf
open Go.AM
def cP (a b:Int):Int:=if a<b then-1 else if a>b then 1 else 0
def iy (a b:List UInt8):Int:=if Op.bytesLess a b then-1 else if a==b then 0 else 1
theorem fu {s:St} {n:Nat} {x:Int} {h:Heap} {Q:fC→Prop} (hg:s.σ.get n=.int .i64 x) (hq:Q (.ret ⟨.int .i64 x,h,.none⟩)):iB env [.tmp n] h Q .ret s:=j6 hg rfl rfl hq
theorem rE {s:St} {n:Nat} {x:Bool} {h:Heap} {Q:fC→Prop} (hg:s.σ.get n=.bool x) (hq:Q (.ret ⟨.bool x,h,.none⟩)):iB env [.tmp n] h Q .ret s:=j6 hg rfl rfl hq
theorem Ng (a:Int) (h:Heap):WC env 123 [.int .i64 a] h (fun o=>o=.ret ⟨.bool false,h,.none⟩):=by
 refine ad rfl rfl rfl rfl ?_
 have z:(a !=a)=false:=by simp
 simp only[ahL,Xv,Xw,ah.bbw,aw,reduceIte,Nat.reduceEqDiff,z]
 exact rE (by simp only[aa,reduceIte,Nat.reduceEqDiff]) rfl
theorem alD (a b:Int) (h:Heap):WC env 88 [.int .i64 a,.int .i64 b] h (fun o=>o=.ret ⟨.int .i64 (cP a b),h,.none⟩):=by
 refine ad rfl rfl rfl rfl ?_
 by_cases c1:a<b
 ·have z1:(a<b)=True:=eq_true c1
  have e:cP a b= -1:=if_pos c1
  simp only[a88,Rd,Re,Rf,Rh,Ri,Rj,Xx,ah.bbw,aw,reduceIte,Nat.reduceEqDiff,z1,ai (Ng _ _)]
  exact fu (by simp only[aa,reduceIte,Nat.reduceEqDiff];rw[e]) rfl
 have z1:(a<b)=False:=eq_false c1
 by_cases c2:a>b
 ·have z2:(a>b)=True:=eq_true c2
  have e:cP a b=1:=by rw[cP,if_neg c1,if_pos c2]
  simp only[a88,Rd,Re,Rf,Rh,Ri,Rj,Nh,Xy,ah.bbw,aw,reduceIte,Nat.reduceEqDiff,z1,z2,ai (Ng _ _)]
  exact fu (by simp only[aa,reduceIte,Nat.reduceEqDiff];rw[e]) rfl
 have z2:(a>b)=False:=eq_false c2
 have e:cP a b=0:=by rw[cP,if_neg c1,if_neg c2]
 simp only[a88,Rd,Re,Rf,Rh,Ri,Rj,Nh,Xz,ah.bbw,aw,reduceIte,Nat.reduceEqDiff,z1,z2,ai (Ng _ _)]
 exact fu (by simp only[aa,reduceIte,Nat.reduceEqDiff];rw[e]) rfl
theorem Ni (a:Int) (h:Heap):WC env 124 [.int .i64 a] h (fun o=>o=.ret ⟨.bool false,h,.none⟩):=by
 refine ad rfl rfl rfl rfl ?_
 have z:(a !=a)=false:=by simp
 simp only[a124,XA,XB,ah.bbw,aw,reduceIte,Nat.reduceEqDiff,z]
 exact rE (by simp only[aa,reduceIte,Nat.reduceEqDiff]) rfl
theorem alF (a b:Int) (h:Heap):WC env 89 [.int .i64 a,.int .i64 b] h (fun o=>o=.ret ⟨.int .i64 (cP a b),h,.none⟩):=by
 refine ad rfl rfl rfl rfl ?_
 by_cases c1:a<b
 ·have z1:(a<b)=True:=eq_true c1
  have e:cP a b= -1:=if_pos c1
  simp only[a89,Rk,Rl,Rm,Rn,Ro,Rp,XC,ah.bbw,aw,reduceIte,Nat.reduceEqDiff,z1,ai (Ni _ _)]
  exact fu (by simp only[aa,reduceIte,Nat.reduceEqDiff];rw[e]) rfl
 have z1:(a<b)=False:=eq_false c1
 by_cases c2:a>b
 ·have z2:(a>b)=True:=eq_true c2
  have e:cP a b=1:=by rw[cP,if_neg c1,if_pos c2]
  simp only[a89,Rk,Rl,Rm,Rn,Ro,Rp,Nj,XD,ah.bbw,aw,reduceIte,Nat.reduceEqDiff,z1,z2,ai (Ni _ _)]
  exact fu (by simp only[aa,reduceIte,Nat.reduceEqDiff];rw[e]) rfl
 have z2:(a>b)=False:=eq_false c2
 have e:cP a b=0:=by rw[cP,if_neg c1,if_neg c2]
 simp only[a89,Rk,Rl,Rm,Rn,Ro,Rp,Nj,XE,ah.bbw,aw,reduceIte,Nat.reduceEqDiff,z1,z2,ai (Ni _ _)]
 exact fu (by simp only[aa,reduceIte,Nat.reduceEqDiff];rw[e]) rfl
theorem Nk (a:Int) (h:Heap):WC env 126 [.int .u32 a] h (fun o=>o=.ret ⟨.bool false,h,.none⟩):=by
 refine ad rfl rfl rfl rfl ?_
 have z:(a !=a)=false:=by simp
 simp only[ahM,XF,XG,ah.bbw,aw,reduceIte,Nat.reduceEqDiff,z]
 exact rE (by simp only[aa,reduceIte,Nat.reduceEqDiff]) rfl
theorem Rq (a b:Int) (h:Heap):WC env 92 [.int .u32 a,.int .u32 b] h (fun o=>o=.ret ⟨.int .i64 (cP a b),h,.none⟩):=by
 refine ad rfl rfl rfl rfl ?_
 by_cases c1:a<b
 ·have z1:(a<b)=True:=eq_true c1
  have e:cP a b= -1:=if_pos c1
  simp only[a92,Rr,Rs,Rt,Ru,Rv,Rw,XH,ah.bbw,aw,reduceIte,Nat.reduceEqDiff,z1,ai (Nk _ _)]
  exact fu (by simp only[aa,reduceIte,Nat.reduceEqDiff];rw[e]) rfl
 have z1:(a<b)=False:=eq_false c1
 by_cases c2:a>b
 ·have z2:(a>b)=True:=eq_true c2
  have e:cP a b=1:=by rw[cP,if_neg c1,if_pos c2]
  simp only[a92,Rr,Rs,Rt,Ru,Rv,Rw,Nl,XI,ah.bbw,aw,reduceIte,Nat.reduceEqDiff,z1,z2,ai (Nk _ _)]
  exact fu (by simp only[aa,reduceIte,Nat.reduceEqDiff];rw[e]) rfl
 have z2:(a>b)=False:=eq_false c2
 have e:cP a b=0:=by rw[cP,if_neg c1,if_neg c2]
 simp only[a92,Rr,Rs,Rt,Ru,Rv,Rw,Nl,XJ,ah.bbw,aw,reduceIte,Nat.reduceEqDiff,z1,z2,ai (Nk _ _)]
 exact fu (by simp only[aa,reduceIte,Nat.reduceEqDiff];rw[e]) rfl
theorem Nn (a:Int) (h:Heap):WC env 127 [.int .i64 a] h (fun o=>o=.ret ⟨.bool false,h,.none⟩):=by
 refine ad rfl rfl rfl rfl ?_
 have z:(a !=a)=false:=by simp
 simp only[a127,XK,XL,ah.bbw,aw,reduceIte,Nat.reduceEqDiff,z]
 exact rE (by simp only[aa,reduceIte,Nat.reduceEqDiff]) rfl
theorem alI (a b:Int) (h:Heap):WC env 94 [.int .i64 a,.int .i64 b] h (fun o=>o=.ret ⟨.int .i64 (cP a b),h,.none⟩):=by
 refine ad rfl rfl rfl rfl ?_
 by_cases c1:a<b
 ·have z1:(a<b)=True:=eq_true c1
  have e:cP a b= -1:=if_pos c1
  simp only[a94,Rx,Ry,Rz,RA,RB,RC,XM,ah.bbw,aw,reduceIte,Nat.reduceEqDiff,z1,ai (Nn _ _)]
  exact fu (by simp only[aa,reduceIte,Nat.reduceEqDiff];rw[e]) rfl
 have z1:(a<b)=False:=eq_false c1
 by_cases c2:a>b
 ·have z2:(a>b)=True:=eq_true c2
  have e:cP a b=1:=by rw[cP,if_neg c1,if_pos c2]
  simp only[a94,Rx,Ry,Rz,RA,RB,RC,No,XN,ah.bbw,aw,reduceIte,Nat.reduceEqDiff,z1,z2,ai (Nn _ _)]
  exact fu (by simp only[aa,reduceIte,Nat.reduceEqDiff];rw[e]) rfl
 have z2:(a>b)=False:=eq_false c2
 have e:cP a b=0:=by rw[cP,if_neg c1,if_neg c2]
 simp only[a94,Rx,Ry,Rz,RA,RB,RC,No,XO,ah.bbw,aw,reduceIte,Nat.reduceEqDiff,z1,z2,ai (Nn _ _)]
 exact fu (by simp only[aa,reduceIte,Nat.reduceEqDiff];rw[e]) rfl
theorem Np (a:List UInt8) (h:Heap):WC env 125 [.str a] h (fun o=>o=.ret ⟨.bool false,h,.none⟩):=by
 refine ad rfl rfl rfl rfl ?_
 have z:(a==a)=true:=by simp
 simp only[ahN,XP,XQ,ah.bbw,aw,reduceIte,Nat.reduceEqDiff,aD,z,baj]
 exact rE (by simp only[aa,reduceIte,Nat.reduceEqDiff]) rfl
theorem XR (a b:List UInt8) (h:Heap):WC env 90 [.str a,.str b] h (fun o=>o=.ret ⟨.int .i64 (iy a b),h,.none⟩):=by
 refine ad rfl rfl rfl rfl ?_
 cases z1:Op.bytesLess a b with
 |true=>
  have e:iy a b= -1:=by rw[iy,z1];rfl
  simp only[a90,RD,RE,RF,RG,RH,RI,XS,ah.bbw,aw,reduceIte,Nat.reduceEqDiff,aD,z1,ai (Np _ _)]
  exact fu (by simp only[aa,reduceIte,Nat.reduceEqDiff];rw[e]) rfl
 |false=>
 cases z2:(a==b)with
 |false=>
  have e:iy a b=1:=by rw[iy,z1,z2];rfl
  simp only[a90,RD,RE,RF,RG,RH,RI,Nq,XT,ah.bbw,aw,reduceIte,Nat.reduceEqDiff,aD,z1,z2,Bool.or_false,bak,ai (Np _ _)]
  exact fu (by simp only[aa,reduceIte,Nat.reduceEqDiff];rw[e]) rfl
 |true=>
 have e:iy a b=0:=by rw[iy,z1,z2];rfl
 simp only[a90,RD,RE,RF,RG,RH,RI,Nq,XU,ah.bbw,aw,reduceIte,Nat.reduceEqDiff,aD,z1,z2,Bool.or_true,baj,ai (Np _ _)]
 exact fu (by simp only[aa,reduceIte,Nat.reduceEqDiff];rw[e]) rfl
def yw:List Int→Int
 |[]=>0
 |x::l=>if x≠0 then x else yw l
theorem or2 (x y:Int) (h:Heap):WC env 91 [.fs true 2 [.int .i64 x,.int .i64 y]] h (fun o=>o=.ret ⟨.int .i64 (yw [x,y]),h,.none⟩):=by
 have go:nS a91 [.fs true 2 [.int .i64 x,.int .i64 y]]=some (.int .i64 (yw [x,y])):=by
  cases i0 x<;>cases i0 y<;>kernel_rfl
 exact pure_run (n:=29) rfl rfl rfl rfl rfl go
theorem or3 (x y z:Int) (h:Heap):WC env 91 [.fs true 3 [.int .i64 x,.int .i64 y,.int .i64 z]] h (fun o=>o=.ret ⟨.int .i64 (yw [x,y,z]),h,.none⟩):=by
 have go:nS a91 [.fs true 3 [.int .i64 x,.int .i64 y,.int .i64 z]]=some (.int .i64 (yw [x,y,z])):=by
  cases i0 x<;>cases i0 y<;>cases i0 z<;>kernel_rfl
 exact pure_run (n:=29) rfl rfl rfl rfl rfl go
def gq:List Int→List Int→Int
 |[],[]=>0
 |[],_::_=> -1
 |_::_,[]=>1
 |a::l,b::m=>if cP a b≠0 then cP a b else gq l m
theorem uA (l:List Int):(bN l).length=l.length:=bax _
theorem oT {f:Option Bool} {l:List Int} {i:Nat} (hi:i<l.length):aZ 1 (aM f l.length (bN l)) (.int .i64 i)=some (.fp ((bN l).drop i)):=by
 have hl:=uA l
 have go:∀b,aZ 1 (.fs b l.length (bN l)) (.int .i64 i)=some (.fp ((bN l).drop i)):=by
  intro b;cases e:bN l with
  |nil=>rw[e]at hl;simp at hl;omega
  |cons c cs=>simp only[aZ,gO (kd:=.i64) hi,baq,Nat.mul_one]
 cases f with
 |none=>
  cases n:l.length with
  |zero=>omega
  |succ n=>have:=go false;rw[n]at this;exact this
 |some b=>exact go b
theorem sK {l:List Int} {i:Nat} (hi:i<l.length) (h:Heap):bg h false 1 (.fp ((bN l).drop i))=some ⟨.int .u32 l[i],h,.none⟩:=by
 have:(bN l).drop i=.int .u32 l[i]::bN (l.drop (i+1)):=by
  rw[bN,bat (by simpa using hi)]
  simp[bN]
 rw[this];rfl
theorem TL {f1 f2:Option Bool} {l m:List Int} (hl:l.length<9223372036854775808) (hm:m.length<9223372036854775808) {h:Heap} {Q:aU→St→Prop}:
  ∀(f i:Nat) (σ:ah),l.length-i<f→i≤l.length→i≤m.length→σ.get 0=aM f1 l.length (bN l)→σ.get 1=aM f2 m.length (bN m)→σ.get 9=aM f1 l.length (bN l)→σ.get 10=.int .i64 l.length→σ.get 11=.int .i64 i→
  (∀σ',(∀x,σ'.get 4=.int .i64 x→x=gq (l.drop i) (m.drop i)→Q .ret ⟨σ',h⟩)∧(σ'.get 0=σ.get 0→σ'.get 1=σ.get 1→(l.drop (min l.length m.length)=[]∧(gq (l.drop i) (m.drop i)=if l.length<m.length then-1 else 0))→Q (.exit 0) ⟨σ',h⟩))→
  kz env sL ⟨σ,h⟩ Q:=by
 intro f
 induction f with
 |zero=>intro i σ h1;omega
 |succ f ih=>
  intro i σ hf hi hi' g0 g1 g9 g10 g11 hQ;refine aC fun b hb=> ?_
  have nm:∀h,aN false h (aM f2 m.length (bN m))=some ⟨.int .i64 m.length,h,.none⟩:=fun h=>bX _ _ _ (fun _=>trivial) h
  by_cases c1:i<l.length
  ·have z0:((i:Int)<(l.length:Int))=True:=eq_true (by omega)
   have zi:IntKind.wrap .i64 ((i:Int)+1)=((i+1:Nat):Int):=aX (by omega) (by omega)
   have lx:=oT (f:=f1) c1
   have ld:=sK c1 h
   have hd1:l.drop i=l[i]::l.drop (i+1):=bat c1
   by_cases c2:i<m.length
   ·have z1:((i:Int)≥(m.length:Int))=False:=eq_false (by omega)
    have lx2:=oT (f:=f2) c2
    have ld2:=sK c2 h
    have hd2:m.drop i=m[i]::m.drop (i+1):=bat c2
    rw[hd1,hd2,gq]at hQ
    by_cases c3:cP l[i] m[i]=0
    ·have z3:(cP l[i] m[i] !=0)=false:=by simpa using c3
     rw[if_neg (by omega)]at hQ
     simp only[sL,KD,RJ,RL,XV,XW,XX,XY,aw,reduceIte,Nat.reduceEqDiff,g1,g9,g10,g11,z0,z1,zi,lx,ld,lx2,ld2,nm,ai (Rq _ _ _),z3]
     subst hb;refine ih (i+1) _ (by omega) (by omega) (by omega) ?_ ?_ ?_ ?_ ?_ fun σ' =>⟨fun x=>(hQ σ').1 x,fun e0 e1=>(hQ σ').2 (by rw[e0];simp only[aa,reduceIte,Nat.reduceEqDiff]) (by rw[e1];simp only[aa,reduceIte,Nat.reduceEqDiff])⟩
     ·simp only[aa,reduceIte,Nat.reduceEqDiff,g0]
     ·simp only[aa,reduceIte,Nat.reduceEqDiff,g1]
     ·simp only[aa,reduceIte,Nat.reduceEqDiff,g9]
     ·simp only[aa,reduceIte,Nat.reduceEqDiff,g10]
     ·simp only[aa,reduceIte,Nat.reduceEqDiff]
    ·have z3:(cP l[i] m[i] !=0)=true:=by simpa using c3
     rw[if_pos c3]at hQ
     simp only[sL,KD,RJ,RL,XV,XW,XX,aeS,aw,reduceIte,Nat.reduceEqDiff,g1,g9,g10,g11,z0,z1,lx,ld,lx2,ld2,nm,ai (Rq _ _ _),z3]
     exact(hQ _).1 _ (by simp only[aa,reduceIte,Nat.reduceEqDiff]) rfl
   ·have z1:((i:Int)≥(m.length:Int))=True:=eq_true (by omega)
    have hd2:m.drop i=[]:=bao (by omega)
    rw[hd1,hd2,gq]at hQ
    simp only[sL,KD,RJ,RL,aeT,aw,reduceIte,Nat.reduceEqDiff,g1,g9,g10,g11,z0,z1,lx,ld,nm]
    exact(hQ _).1 _ (by simp only[aa,reduceIte,Nat.reduceEqDiff]) rfl
  ·have z0:((i:Int)<(l.length:Int))=False:=eq_false (by omega)
   have hd1:l.drop i=[]:=bao (by omega)
   simp only[sL,KD,aw,reduceIte,g10,g11,z0]
   refine(hQ _).2 (by simp only[aa,reduceIte,Nat.reduceEqDiff]) (by simp only[aa,reduceIte,Nat.reduceEqDiff]) ⟨bao (by omega),?_⟩
   rw[hd1];cases e:m.drop i with
   |nil=>
    have:m.length≤i:=List.drop_eq_nil_iff.1 e
    rw[if_neg (by omega),gq]
   |cons x y=>
    have:¬m.length≤i:=fun c=>by rw[bao c]at e;cases e
    rw[if_pos (by omega),gq]
theorem EC (f1 f2:Option Bool) (l m:List Int) (hl:l.length<9223372036854775808) (hm:m.length<9223372036854775808) (h:Heap):WC env 93 [aM f1 l.length (bN l),aM f2 m.length (bN m)] h (fun o=>o=.ret ⟨.int .i64 (gq l m),h,.none⟩):=by
 refine ad rfl rfl rfl (by simp only[AV.aj,rF _ _ (pS _),baa]) ?_
 have nl:∀h,aN false h (aM f1 l.length (bN l))=some ⟨.int .i64 l.length,h,.none⟩:=fun h=>bX _ _ _ (fun _=>trivial) h
 have nm:∀h,aN false h (aM f2 m.length (bN m))=some ⟨.int .i64 m.length,h,.none⟩:=fun h=>bX _ _ _ (fun _=>trivial) h
 simp only[a93,aeU,aeV,ah.bbw,aw,reduceIte,Nat.reduceEqDiff,nl]
 refine TL (f1:=f1) (f2:=f2) hl hm (l.length+1) 0 _ (by omega) (by omega) (by omega) ?_ ?_ ?_ ?_ ?_ fun σ' =>⟨fun x g e=> ?_,fun e0 e1 e=> ?_⟩
 ·simp only[aa,reduceIte,Nat.reduceEqDiff]
 ·simp only[aa,reduceIte,Nat.reduceEqDiff]
 ·simp only[aa,reduceIte,Nat.reduceEqDiff]
 ·simp only[aa,reduceIte,Nat.reduceEqDiff]
 ·simp only[aa,reduceIte,Nat.reduceEqDiff];rfl
 ·simp only[aw]
  exact fu g (by rw[e];rfl)
 ·simp only[aa,reduceIte,Nat.reduceEqDiff]at e0 e1
  by_cases c:l.length<m.length
  ·have z:((l.length:Int)<(m.length:Int))=True:=eq_true (by omega)
   have e:=e.2;rw[if_pos c,bah,bah]at e
   simp only[Nr,XZ,aw,reduceIte,Nat.reduceEqDiff,e0,e1,nl,nm,z]
   exact fu (by simp only[aa,reduceIte,Nat.reduceEqDiff];rw[e]) rfl
  ·have z:((l.length:Int)<(m.length:Int))=False:=eq_false (by omega)
   have e:=e.2;rw[if_neg c,bah,bah]at e
   simp only[Nr,X0,aw,reduceIte,Nat.reduceEqDiff,e0,e1,nl,nm,z]
   exact fu (by simp only[aa,reduceIte,Nat.reduceEqDiff];rw[e]) rfl
end Go.Bf
