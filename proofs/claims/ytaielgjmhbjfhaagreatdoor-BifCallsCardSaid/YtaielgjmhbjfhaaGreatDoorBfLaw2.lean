/- For BifCalls. -/
import Derived.Test.YtaielgjmhbjfhaaGreatDoorBfCmp
set_option linter.unusedVariables false
set_option maxRecDepth 20000
namespace Go.AM
def Ih (E:Env):Option AV→Option (List AV)→Heap→(fC→Prop)→Prop
 |some (.fn (.func g) first cap),some vs,h,Q=>WC E g (first++vs++cap) h Q
 |_,_,_,_=>False
theorem ma {E:Env} {f:eN} {args:List eN} {d:Option Nat} {s:St} {K:St→dB→Prop} {Q:aU→St→Prop}:fS E (.kr f args) d s K Q=Ih E (E.eM s.σ f) (E.nV s.σ args) s.h (P3 s d K Q):=by
 refine propext ⟨?_,?_⟩
 ·rintro⟨g,first,cap,vs,h1,h2,h3⟩
  rw[h1,h2];exact h3
 ·intro h
  unfold Ih at h
  split at h
  ·rename_i g first cap vs e1 e2
   exact⟨g,first,cap,vs,e1,e2,h⟩
  ·exact h.elim
theorem xJ {E:Env} {g:Nat} {vs:List AV} {h:Heap} {Q:fC→Prop}:Ih E (some (.fn (.func g) [] [])) (some vs) h Q=WC E g vs h Q:=by
 show WC E g ([]++vs++[]) h Q=_
 rw[bbe,bbj]
end Go.AM
namespace Go.Bf
open Go.AM
mutual
def Wf:Tm→Prop
 |.mk k i s c nf ns af ar=>(kindOk (.mk k i s c nf ns af ar)=true∧ar.length≤4096)∧EI ar
def EI:List Tm→Prop
 |[]=>True
 |t::l=>Wf t∧EI l
end
theorem EI.get:∀{l:List Tm} (h:EI l) {t:Tm},t∈l→Wf t
 |[],h,t,m=>by simp at m
 |u::l,h,t,m=>by
  rw[EI]at h
  rcases bbi.1 m with rfl|m
  ·exact h.1
  ·exact EI.get h.2 m
theorem PB:∀t deep n d,(cR t deep n d).1=none→n+1≤(cR t deep n d).2.1:=by
 refine j7 fun k i s c nf ns af ar ih deep n d h=> ?_
 have go:∀(l:List Tm),(∀t,t∈l→t∈ar)→∀deep n d,(cH l deep n d).1=none→n+l.length≤(cH l deep n d).2.1:=by
  intro l
  induction l with
  |nil=>intro _ _ _ _ _;exact bab _
  |cons t l ihl=>
   intro hl deep n d h;have h1:=ih t (hl t (by simp)) deep n d
   rw[cH]at h⊢
   split at h
   ·rename_i n' d' e
    rw[e]at h1
    have h2:=ihl (fun t m=>hl t (by simp[m])) _ _ _ h
    have h1:=h1 rfl
    simp only[bav]at h1 h2⊢
    omega
   ·cases h
 rw[cR]at h⊢
 split at h
 ·cases h
 rename_i c1;rw[if_neg c1];split at h
 ·cases h
 rename_i c2;rw[if_neg c2];split at h
 ·cases h
 rename_i c3;exact bal (by omega) (go ar (fun _ m=>m) _ _ _ h)
theorem CJ:∀(l:List Tm) deep n d,(cH l deep n d).1=none→n+l.length≤(cH l deep n d).2.1
 |[],_,_,_,_=>bab _
 |t::l,deep,n,d,h=>by
  have h1:=PB t deep n d
  rw[cH]at h⊢
  split at h
  ·rename_i n' d' e
   rw[e]at h1
   have h2:=CJ l _ _ _ h
   have h1:=h1 rfl
   simp only[bav]at h1 h2⊢
   omega
  ·cases h
theorem KR:∀(l:List Tm) deep n d,n≤4096→d≤256→(cH l deep n d).2.1≤4096∧(cH l deep n d).2.2≤256
 |[],_,_,_,hn,hd=>⟨hn,hd⟩
 |t::l,deep,n,d,hn,hd=>by
  have h1:=sI t deep n d hn hd
  rw[cH];split
  ·rename_i n' d' e
   rw[e]at h1
   exact KR l _ _ _ h1.1 h1.2
  ·rename_i n' d' e
   rw[e]at h1
   exact h1
theorem ade:∀t deep n d,n≤4096→d≤256→(cR t deep n d).1=none→Wf t:=by
 refine j7 fun k i s c nf ns af ar ih deep n d hn hd h=> ?_
 have go:∀(l:List Tm),(∀t,t∈l→t∈ar)→∀deep n d,n≤4096→d≤256→(cH l deep n d).1=none→EI l:=by
  intro l
  induction l with
  |nil=>intro _ _ _ _ _ _ _;trivial
  |cons t l ihl=>
   intro hl deep n d hn hd h;have h1:=ih t (hl t (by simp)) deep n d hn hd
   have hb:=sI t deep n d hn hd
   rw[cH]at h
   split at h
   ·rename_i n' d' e
    rw[e]at h1 hb
    exact⟨h1 rfl,ihl (fun t m=>hl t (by simp[m])) _ _ _ hb.1 hb.2 h⟩
   ·cases h
 rw[cR]at h
 split at h
 ·cases h
 rename_i c1;split at h
 ·cases h
 rename_i c2;split at h
 ·cases h
 ·rename_i e
  have h1:=CJ _ _ _ _ h
  have h2:=(KR ar (deep+1) (n+1) (max d deep) (by omega) (by omega)).1
  refine⟨⟨?_,by omega⟩,go ar (fun _ m=>m) _ _ _ (by omega) (by omega) h⟩
  cases hk:kindOk (.mk k i s c nf ns af ar)with
  |true=>rfl
  |false=>rw[bw,if_pos hk]at e;cases e
theorem aju {t:Tm} (h:hJ t=none):Wf t:=ade t 1 0 0 (by omega) (by omega) h
mutual
def bV:Tm→Tm→Int
 |.mk k i s c nf ns af ar,.mk k' i' s' c' nf' ns' af' ar' =>
  if k≠k' then cP k k'
  else if k=1 then cP i i'
  else if k=2 then iy s s'
  else if k=3∨k=4 then yw [iy s s',cP c c',gq ns ns']
  else if k=5 then yw [cP ar.length ar'.length,jH ar ar']
  else if k=7 then gF ar ar'
  else 0
def jH:List Tm→List Tm→Int
 |[],[]=>0
 |[],_::_=> -1
 |_::_,[]=>1
 |a::l,b::m=>if bV a b≠0 then bV a b else jH l m
def gF:List Tm→List Tm→Int
 |[],_=>0
 |_::_,[]=>0
 |a::l,b::m=>
  if l.length=0 then(if m.length=0 then bV a b else cP a.kind 7)
  else if m.length=0 then cP 7 b.kind
  else if bV a b≠0 then bV a b else gF l m
end
def yC (a:Tm):Prop:=∀b,b.Ok→Wf b→∀h,WC env 53 [.agg (tc a),.agg (tc b)] h (fun o=>o=.ret ⟨.int .i64 (bV a b),h,.none⟩)
theorem TP {f1 f2:Option Bool} {l m:List Tm} (hP:∀t,t∈l→yC t) (okm:gW m) (wfm:EI m) (hl:l.length<9223372036854775808) (hm:m.length<9223372036854775808) {Q:aU→St→Prop}:
  ∀(f i:Nat) (σ:ah) (h:Heap),l.length-i<f→i≤l.length→i≤m.length→an h→σ.get 0=aM f1 l.length (bq l)→σ.get 1=aM f2 m.length (bq m)→σ.get 2=.fn (.func 53) [] []→σ.get 11=aM f1 l.length (bq l)→σ.get 12=.int .i64 l.length→σ.get 13=.int .i64 i→
  (∀σ' h',(∀x,σ'.get 6=.int .i64 x→x=jH (l.drop i) (m.drop i)→Q .ret ⟨σ',h'⟩)∧(σ'.get 0=σ.get 0→σ'.get 1=σ.get 1→(jH (l.drop i) (m.drop i)=if l.length<m.length then-1 else 0)→Q (.exit 0) ⟨σ',h'⟩))→
  kz env sN ⟨σ,h⟩ Q:=by
 intro f
 induction f with
 |zero=>intro i σ h h1;omega
 |succ f ih=>
  intro i σ h hf hi hi' ho g0 g1 g2 g11 g12 g13 hQ;refine aC fun b hb=> ?_
  have nm:∀h,aN false h (aM f2 m.length (bq m))=some ⟨.int .i64 m.length,h,.none⟩:=fun h=>bX _ _ _ (fun _=>trivial) h
  by_cases c1:i<l.length
  ·have z0:((i:Int)<(l.length:Int))=True:=eq_true (by omega)
   have zi:IntKind.wrap .i64 ((i:Int)+1)=((i+1:Nat):Int):=aX (by omega) (by omega)
   have lx:=fI (f:=f1) c1
   have ld:=fK c1 h
   have hd1:l.drop i=l[i]::l.drop (i+1):=bat c1
   obtain⟨h2,st2,ho2,le2,at2⟩:=kH ho l[i]
   by_cases c2:i<m.length
   ·have z1:((i:Int)≥(m.length:Int))=False:=eq_false (by omega)
    have lx2:=fI (f:=f2) c2
    have ld2:=fK c2 h2
    have hd2:m.drop i=m[i]::m.drop (i+1):=bat c2
    obtain⟨h3,st3,ho3,le3,at3⟩:=kH ho2 m[i]
    have lt2:=lM (le3.2 _ _ _ at2)
    have lt3:=lM at3
    have wo:=hP l[i] (bas c1) m[i] (okm.get (bas c2)) (wfm.get (bas c2))
    rw[hd1,hd2,jH]at hQ
    by_cases c3:bV l[i] m[i]=0
    ·have z3:(bV l[i] m[i] !=0)=false:=by simpa using c3
     rw[if_neg (by omega)]at hQ
     simp only[sN,KM,R5,R6,Zh,Zi,Zj,Zk,aw,reduceIte,Nat.reduceEqDiff,ma,xJ,g1,g2,g11,g12,g13,z0,z1,zi,lx,ld,lx2,ld2,nm,st2,st3,lt2,lt3,ai (wo _),z3]
     subst hb;refine ih (i+1) _ h3 (by omega) (by omega) (by omega) ho3 ?_ ?_ ?_ ?_ ?_ ?_ fun σ' h' =>⟨fun x=>(hQ σ' h').1 x,fun e0 e1=>(hQ σ' h').2 (by rw[e0];simp only[aa,reduceIte,Nat.reduceEqDiff]) (by rw[e1];simp only[aa,reduceIte,Nat.reduceEqDiff])⟩
     ·simp only[aa,reduceIte,Nat.reduceEqDiff,g0]
     ·simp only[aa,reduceIte,Nat.reduceEqDiff,g1]
     ·simp only[aa,reduceIte,Nat.reduceEqDiff,g2]
     ·simp only[aa,reduceIte,Nat.reduceEqDiff,g11]
     ·simp only[aa,reduceIte,Nat.reduceEqDiff,g12]
     ·simp only[aa,reduceIte,Nat.reduceEqDiff]
    ·have z3:(bV l[i] m[i] !=0)=true:=by simpa using c3
     rw[if_pos c3]at hQ
     simp only[sN,KM,R5,R6,Zh,Zi,Zj,af0,aw,reduceIte,Nat.reduceEqDiff,ma,xJ,g1,g2,g11,g12,g13,z0,z1,lx,ld,lx2,ld2,nm,st2,st3,lt2,lt3,ai (wo _),z3]
     exact(hQ _ _).1 _ (by simp only[aa,reduceIte,Nat.reduceEqDiff]) rfl
   ·have z1:((i:Int)≥(m.length:Int))=True:=eq_true (by omega)
    have hd2:m.drop i=[]:=bao (by omega)
    rw[hd1,hd2,jH]at hQ
    simp only[sN,KM,R5,R6,afZ,aw,reduceIte,Nat.reduceEqDiff,g1,g11,g12,g13,z0,z1,lx,ld,nm,st2]
    exact(hQ _ _).1 _ (by simp only[aa,reduceIte,Nat.reduceEqDiff]) rfl
  ·have z0:((i:Int)<(l.length:Int))=False:=eq_false (by omega)
   have hd1:l.drop i=[]:=bao (by omega)
   simp only[sN,KM,aw,reduceIte,g12,g13,z0]
   refine(hQ _ _).2 (by simp only[aa,reduceIte,Nat.reduceEqDiff]) (by simp only[aa,reduceIte,Nat.reduceEqDiff]) ?_
   rw[hd1];cases e:m.drop i with
   |nil=>
    have:m.length≤i:=List.drop_eq_nil_iff.1 e
    rw[if_neg (by omega),jH]
   |cons x y=>
    have:¬m.length≤i:=fun c=>by rw[bao c]at e;cases e
    rw[if_pos (by omega),jH]
theorem TQ (f1 f2:Option Bool) (l m:List Tm) (hP:∀t,t∈l→yC t) (okm:gW m) (wfm:EI m) (hl:l.length<9223372036854775808) (hm:m.length<9223372036854775808) (h:Heap):WC env 95 [aM f1 l.length (bq l),aM f2 m.length (bq m),.fn (.func 53) [] []] h (fun o=>o=.ret ⟨.int .i64 (jH l m),h,.none⟩):=by
 refine ad rfl rfl rfl (by simp only[bdk,rF _ _ (eD _)]) ?_
 have nl:∀h,aN false h (aM f1 l.length (bq l))=some ⟨.int .i64 l.length,h,.none⟩:=fun h=>bX _ _ _ (fun _=>trivial) h
 have nm:∀h,aN false h (aM f2 m.length (bq m))=some ⟨.int .i64 m.length,h,.none⟩:=fun h=>bX _ _ _ (fun _=>trivial) h
 simp only[a95,afX,afY,ah.bbw,aw,reduceIte,Nat.reduceEqDiff,nl]
 refine TP (f1:=f1) (f2:=f2) hP okm wfm hl hm (l.length+1) 0 _ _ (by omega) (by omega) (by omega) an.empty ?_ ?_ ?_ ?_ ?_ ?_ fun σ' h' =>⟨fun x g e=> ?_,fun e0 e1 e=> ?_⟩
 ·simp only[aa,reduceIte,Nat.reduceEqDiff]
 ·simp only[aa,reduceIte,Nat.reduceEqDiff]
 ·simp only[aa,reduceIte,Nat.reduceEqDiff]
 ·simp only[aa,reduceIte,Nat.reduceEqDiff]
 ·simp only[aa,reduceIte,Nat.reduceEqDiff]
 ·simp only[aa,reduceIte,Nat.reduceEqDiff];rfl
 ·simp only[aw]
  exact fu g (by rw[e];rfl)
 ·simp only[aa,reduceIte,Nat.reduceEqDiff]at e0 e1
  rw[bah,bah]at e
  by_cases c:l.length<m.length
  ·have z:((l.length:Int)<(m.length:Int))=True:=eq_true (by omega)
   rw[if_pos c]at e
   simp only[OY,Zl,aw,reduceIte,Nat.reduceEqDiff,e0,e1,nl,nm,z]
   exact fu (by simp only[aa,reduceIte,Nat.reduceEqDiff];rw[e]) rfl
  ·have z:((l.length:Int)<(m.length:Int))=False:=eq_false (by omega)
   rw[if_neg c]at e
   simp only[OY,Zm,aw,reduceIte,Nat.reduceEqDiff,e0,e1,nl,nm,z]
   exact fu (by simp only[aa,reduceIte,Nat.reduceEqDiff];rw[e]) rfl
inductive Sl:AV→List Tm→Prop
 |nil:Sl .ax []
 |fs (b:Bool) (l:List Tm):Sl (.fs b l.length (bq l)) l
theorem Ew (f:Option Bool) (l:List Tm):Sl (aM f l.length (bq l)) l:=by
 cases f with
 |none=>cases l with
  |nil=>exact .nil
  |cons a l=>exact .fs false (a::l)
 |some b=>exact .fs b l
theorem Sl.ae {v:AV} {l:List Tm} (h:Sl v l):v.ae=true:=by
 cases h with
 |nil=>rfl
 |fs b l=>exact eD l
theorem Sl.eq {v:AV} {l:List Tm} (h:Sl v l):∃f,v=aM f l.length (bq l):=by
 cases h with
 |nil=>exact⟨none,rfl⟩
 |fs b l=>exact⟨some b,rfl⟩
theorem Sl.len {v:AV} {l:List Tm} (k:Sl v l) (h:Heap):aN false h v=some ⟨.int .i64 l.length,h,.none⟩:=by
 cases k with
 |nil=>rfl
 |fs b l=>rfl
theorem Sl.idx {v:AV} {l:List Tm} (k:Sl v l) {i:Nat} (hi:i<l.length):aZ 6 v (.int .i64 i)=some (.fp ((bq l).drop (i*6))):=by
 obtain⟨f,rfl⟩:=k.eq;exact fI hi
theorem Sl.tail {v:AV} {a:Tm} {l:List Tm} (k:Sl v (a::l)):∃v',cU 6 v (some (.int .i64 1)) none none=some v' ∧Sl v' l:=by
 cases k with
 |fs b l=>
  refine⟨.fs b l.length (bq l),?_,.fs b l⟩
  have e1:(bq (a::l)).length=(a::l).length*6:=bl _
  have e2:bounds (a::l).length (a::l).length (some (.int .i64 ((1:Nat):Int))) none none=some (1,(a::l).length,(a::l).length):=qA (by simp)
  have e3:((bq (a::l)).drop (1*6)).take (((a::l).length-1)*6)=bq l:=by
   rw[bq,Nat.one_mul,List.drop_append,bao (by rw[aR];exact bab _),aR,bbe,Nat.sub_self,bah]
   exact bar (by rw[bl];simp)
  have e2' :bounds (a::l).length (a::l).length (some (.int .i64 1)) none none=some (1,(a::l).length,(a::l).length):=e2
  simp only[cU,e1,e2',e3,beq_self_eq_true,Bool.and_true,jak]
  rfl
end Go.Bf
namespace Go.Bf
open Go.AM
theorem af7 (x y z:Int):bY [.int .i64 0,.int .i64 0,.int .i64 0] [(0,1,.int .i64 x),(1,1,.int .i64 y),(2,1,.int .i64 z)]=some [.int .i64 x,.int .i64 y,.int .i64 z]:=rfl
theorem adf (x y z:AV):([x,y,z]:List AV).length=3:=rfl
theorem anX (x y:Int):bY [.int .i64 0,.int .i64 0] [(0,1,.int .i64 x),(1,1,.int .i64 y)]=some [.int .i64 x,.int .i64 y]:=rfl
theorem aqh (x y:AV):([x,y]:List AV).length=2:=rfl
theorem aav {nv av:AV} (hn:SN nv) (ha:SN av) (b:Bool) (k i:Int) (s:List UInt8) (c:Int):nS ac2 [.fs b 1 [.int .i64 k,.int .i64 i,.str s,.int .u32 c,nv,av]]=some (.agg [.int .i64 k,.int .i64 i,.str s,.int .u32 c,nv,av]):=by
 cases hn<;>cases ha<;>kernel_rfl
theorem TR (b:Bool) (n:Nat) (cs:List AV):nS ac2 [.fs b (n+2) cs]=some (.agg [.int .i64 7,.int .i64 0,.str [],.int .u32 0,.ax,.fs b (n+2) cs]):=by kernel_rfl
theorem EJ {v:AV} {l:List Tm} (k:Sl v l) (hl:l≠[]) (h:Heap):∃t:Tm,WC env 128 [v] h (fun o=>o=.ret ⟨.agg (tc t),h,.none⟩)∧((∃a,l=[a]∧t=a)∨(2≤l.length∧∃b,t=.mk 7 0 [] 0 none [] (some b) l)):=by
 have hr:AV.aj [v]=true:=by simp only[AV.aj,k.ae,baa]
 cases k with
 |nil=>exact absurd rfl hl
 |fs b l=>
  match l,hl with
  |[a],_=>
   refine⟨a,?_,.inl ⟨a,rfl,rfl⟩⟩
   refine pure_run (n:=29) rfl rfl rfl hr (r_ a) ?_
   cases a with
   |mk k i s c nf ns af ar=>
    exact aav (M4 nf ns.length (bN ns)).any (M4 af ar.length (bq ar)).any b k i s c
  |a::a' ::l,_=>
   refine⟨.mk 7 0 [] 0 none [] (some b) (a::a' ::l),?_,.inr ⟨by simp,b,rfl⟩⟩
   refine pure_run (n:=29) rfl rfl rfl hr (r_ _) ?_
   exact TR b l.length (bq (a::a' ::l))
theorem PC {h:Heap} {Q:aU→St→Prop}:∀(l m:List Tm) (σ:ah),l≠[]→m≠[]→(∀t,t∈l→yC t)→gW m→EI m→Sl (σ.get 0) l→Sl (σ.get 1) m→
  (∀σ',(∀x,σ'.get 4=.int .i64 x→x=gF l m→Q .ret ⟨σ',h⟩)∧(∀l' m',(∀t,t∈l' →t∈l)→(∀t,t∈m' →t∈m)→(cf l' =cf l)→(cf m' =cf m)→l' ≠[]→m' ≠[]→(l'.length=1∨m'.length=1)→gF l m=gF l' m' →Sl (σ'.get 0) l' →Sl (σ'.get 1) m' →Q (.exit 0) ⟨σ',h⟩))→
  kz env Cr ⟨σ,h⟩ Q:=by
 intro l
 induction l with
 |nil=>intro m σ h1;exact absurd rfl h1
 |cons a l ih=>
  intro m σ _ hm hP okm wfm k0 k1 hQ;cases m with
  |nil=>exact absurd rfl hm
  |cons b m=>
   refine aC fun bb hbb=> ?_
   obtain⟨v0,g0⟩:∃v,σ.get 0=v:=⟨_,rfl⟩
   obtain⟨v1,g1⟩:∃v,σ.get 1=v:=⟨_,rfl⟩
   rw[g0]at k0
   rw[g1]at k1
   have n0:=k0.len;have n1:=k1.len;rw[bav]at n0 n1
   by_cases c0:l.length=0
   ·have z0:(((l.length+1:Nat):Int)>1)=False:=eq_false (by omega)
    simp only[Cr,R7,aw,reduceIte,Nat.reduceEqDiff,g0,n0,z0,aL]
    refine(hQ _).2 (a::l) (b::m) (fun _ x=>x) (fun _ x=>x) rfl rfl (by simp) (by simp) (.inl (by rw[bav,c0])) rfl ?_ ?_
    ·simp only[aa,reduceIte,Nat.reduceEqDiff,g0];exact k0
    ·simp only[aa,reduceIte,Nat.reduceEqDiff,g1];exact k1
   have z0:(((l.length+1:Nat):Int)>1)=True:=eq_true (by omega)
   by_cases c1:m.length=0
   ·have z1:(((m.length+1:Nat):Int)>1)=False:=eq_false (by omega)
    simp only[Cr,R7,aw,reduceIte,Nat.reduceEqDiff,g0,g1,n0,n1,z0,z1,aL]
    refine(hQ _).2 (a::l) (b::m) (fun _ x=>x) (fun _ x=>x) rfl rfl (by simp) (by simp) (.inr (by rw[bav,c1])) rfl ?_ ?_
    ·simp only[aa,reduceIte,Nat.reduceEqDiff,g0];exact k0
    ·simp only[aa,reduceIte,Nat.reduceEqDiff,g1];exact k1
   have z1:(((m.length+1:Nat):Int)>1)=True:=eq_true (by omega)
   have x0:aZ 6 v0 (.int .i64 0)=some (.fp (bq (a::l))):=by have:=k0.idx (i:=0) (by simp);simpa using this
   have x1:aZ 6 v1 (.int .i64 0)=some (.fp (bq (b::m))):=by have:=k1.idx (i:=0) (by simp);simpa using this
   have l0:∀h,bg h true 6 (.fp (bq (a::l)))=some ⟨.agg (tc a),h,.none⟩:=fun h=>by have:=fK (l:=a::l) (i:=0) (by simp) h;simpa using this
   have l1:∀h,bg h true 6 (.fp (bq (b::m)))=some ⟨.agg (tc b),h,.none⟩:=fun h=>by have:=fK (l:=b::m) (i:=0) (by simp) h;simpa using this
   have wo:=hP a (by simp) b (okm.get (by simp)) (wfm.get (by simp))
   simp only[Cr,R7,aw,reduceIte,Nat.reduceEqDiff,g0,g1,n0,n1,z0,z1,aL]
   refine aB ?_
   simp only[aw,reduceIte,Nat.reduceEqDiff,k3,af2,g0,g1,x0,x1,l0,l1,ai (wo _)]
   refine⟨rfl,?_⟩
   by_cases c3:bV a b=0
   ·have z3:(bV a b !=0)=false:=by simpa using c3
    have eo:gF (a::l) (b::m)=gF l m:=by
     rw[gF,if_neg c0,if_neg c1,if_neg (by omega)]
    obtain⟨t0,s0,q0⟩:=k0.tail
    obtain⟨t1,s1,q1⟩:=k1.tail
    simp only[Zn,aw,reduceIte,Nat.reduceEqDiff,z3]
    refine aB ?_
    simp only[aw,reduceIte,Nat.reduceEqDiff,k3,af4,g0,g1,s0,s1]
    refine⟨rfl,?_⟩
    subst hbb;have e7:∀(x:Tm) (l:List Tm),l.length≠0→cf l=cf (x::l):=by
     intro x l hl;cases l with
     |nil=>exact absurd rfl hl
     |cons y l=>rfl
    refine ih m _ (fun e=>c0 (by rw[e];rfl)) (fun e=>c1 (by rw[e];rfl)) (fun t x=>hP t (by simp[x])) okm.2 wfm.2 ?_ ?_ fun σ' =>⟨fun x g e=>(hQ σ').1 x g (by rw[eo];exact e),fun l' m' p1 p2 p3 p4 p5 p6 p7 p8 p9 p10=>(hQ σ').2 l' m' (fun t x=>by simp[p1 t x]) (fun t x=>by simp[p2 t x]) (by rw[p3];exact e7 a l c0) (by rw[p4];exact e7 b m c1) p5 p6 p7 (by rw[eo];exact p8) p9 p10⟩
    ·simp only[aa,reduceIte,Nat.reduceEqDiff];exact q0
    ·simp only[aa,reduceIte,Nat.reduceEqDiff];exact q1
   ·have z3:(bV a b !=0)=true:=by simpa using c3
    simp only[Zn,af3,aw,reduceIte,Nat.reduceEqDiff,z3]
    exact(hQ _).1 (bV a b) (by simp only[aa,reduceIte,Nat.reduceEqDiff]) (by rw[gF,if_neg c0,if_neg c1,if_pos c3])
def Ss:Prop:=∀a b:Tm,a.kind≠b.kind→∀h,WC env 53 [.agg (tc a),.agg (tc b)] h (fun o=>o=.ret ⟨.int .i64 (cP a.kind b.kind),h,.none⟩)
theorem PD (kinds:Ss) (f1 f2:Option Bool) (l m:List Tm) (hl:l≠[]) (hm:m≠[]) (l7:cf l=true) (m7:cf m=true) (hP:∀t,t∈l→yC t) (okm:gW m) (wfm:EI m) (h:Heap):WC env 96 [aM f1 l.length (bq l),aM f2 m.length (bq m)] h (fun o=>o=.ret ⟨.int .i64 (gF l m),h,.none⟩):=by
 refine ad rfl rfl rfl (by simp only[AV.aj,rF _ _ (eD _),baa]) ?_
 simp only[a96,af1,ah.bbw,aw]
 refine PC l m _ hl hm hP okm wfm ?_ ?_ fun σ' =>⟨fun x g e=> ?_,fun l' m' p1 p2 p3 p4 p5 p6 p7 p8 p9 p10=> ?_⟩
 ·simp only[aa,reduceIte,Nat.reduceEqDiff];exact Ew _ _
 ·simp only[aa,reduceIte,Nat.reduceEqDiff];exact Ew _ _
 ·simp only[aw]
  exact fu g (by rw[e])
 ·obtain⟨v0,g0⟩:∃v,σ'.get 0=v:=⟨_,rfl⟩
  obtain⟨v1,g1⟩:∃v,σ'.get 1=v:=⟨_,rfl⟩
  rw[g0]at p9
  rw[g1]at p10
  obtain⟨a,wa,ha⟩:=EJ p9 p5 Heap.empty
  obtain⟨b,wb,hb⟩:=EJ p10 p6 Heap.empty
  have wo:WC env 53 [.agg (tc a),.agg (tc b)] Heap.empty (fun o=>o=.ret ⟨.int .i64 (gF l m),.empty,.none⟩):=by
   rw[p8]
   rcases ha with⟨x,rfl,rfl⟩|⟨n0,f,rfl⟩
   ·rcases hb with⟨y,rfl,rfl⟩|⟨n1,g,rfl⟩
    ·have:gF [a] [b]=bV a b:=by simp[gF]
     rw[this];exact hP a (p1 a (by simp)) b (okm.get (p2 b (by simp))) (wfm.get (p2 b (by simp))) _
    ·have h7:a.kind≠7:=by
      rw[l7,cf]at p3
      simpa using p3
     match m',n1 with
     |b::b' ::m',n1=>
      have:gF [a] (b::b' ::m')=cP a.kind 7:=by simp[gF]
      rw[this];exact kinds a (.mk 7 0 [] 0 none [] (some g) (b::b' ::m')) h7 _
   ·rcases hb with⟨y,rfl,rfl⟩|⟨n1,g,rfl⟩
    ·have h7:b.kind≠7:=by
      rw[m7,cf]at p4
      simpa using p4
     match l',n0 with
     |a::a' ::l',n0=>
      have:gF (a::a' ::l') [b]=cP 7 b.kind:=by simp[gF]
      rw[this];exact kinds (.mk 7 0 [] 0 none [] (some f) (a::a' ::l')) b (fun e=>h7 e.symm) _
    ·omega
  simp only[af5,af6,aw,reduceIte,Nat.reduceEqDiff,ma,xJ,g0,g1,ai wa,ai wb,ai wo]
  exact fu (by simp only[aa,reduceIte,Nat.reduceEqDiff]) rfl
theorem EK:Ss:=by
 intro a b hk h
 rcases a with⟨k,i,s,c,nf,ns,af,ar⟩
 rcases b with⟨k',i',s',c',nf',ns',af',ar'⟩
 have hk:k≠k' :=hk
 refine ad rfl rfl rfl (by simp only[bdk,az]) ?_
 obtain⟨ca,ea⟩:∃ca,ca=tc (.mk k i s c nf ns af ar):=⟨_,rfl⟩
 obtain⟨cb,eb⟩:∃cb,cb=tc (.mk k' i' s' c' nf' ns' af' ar'):=⟨_,rfl⟩
 rw[←ea,←eb];obtain⟨nv,bbx⟩:∃nv,nv=aM nf ns.length (bN ns):=⟨_,rfl⟩
 obtain⟨av,eav⟩:∃av,av=aM af ar.length (bq ar):=⟨_,rfl⟩
 obtain⟨nv2,bby⟩:∃nv,nv=aM nf' ns'.length (bN ns'):=⟨_,rfl⟩
 obtain⟨av2,u5⟩:∃av,av=aM af' ar'.length (bq ar'):=⟨_,rfl⟩
 have ea' :ca=[.int .i64 k,.int .i64 i,.str s,.int .u32 c,nv,av]:=by rw[ea,bbx,eav];rfl
 have eb' :cb=[.int .i64 k',.int .i64 i',.str s',.int .u32 c',nv2,av2]:=by rw[eb,bby,u5];rfl
 obtain⟨h1,eh1⟩:∃h1,h1=Heap.empty.new ca:=⟨_,rfl⟩
 have ho1:an h1:=by rw[eh1];exact an.empty.new _
 have a1' :h1.at_ Heap.empty.next 0=some ca:=by rw[eh1];exact aY _
 obtain⟨h2,eh2⟩:∃h2,h2=h1.new cb:=⟨_,rfl⟩
 have a2' :h2.at_ Heap.empty.next 0=some ca:=by rw[eh2];exact(cz ho1 _).2 _ _ _ a1'
 have b2' :h2.at_ h1.next 0=some cb:=by rw[eh2];exact aY _
 have y1:(AV.agg ca).row=some ca:=rfl
 have y2:ca.length=6:=by rw[ea'];rfl
 have y3:(AV.agg cb).row=some cb:=rfl
 have y4:cb.length=6:=by rw[eb'];rfl
 rw[ea']at a2'
 rw[eb']at b2'
 have p0:=eK a2'
 have p1:=gj a2'
 have p2:=gk a2'
 have p3:=iz a2'
 have p4:=eU a2'
 have p5:=dZ a2'
 have q0:=eK b2'
 have q1:=gj b2'
 have q2:=gk b2'
 have q3:=iz b2'
 have q4:=eU b2'
 have q5:=dZ b2'
 have z:(k !=k')=true:=by simpa using hk
 simp only[a53,wD,wE,afv,ah.bbw,aw,reduceIte,Nat.reduceEqDiff,y1,y2,y3,y4,←eh1,←eh2,au,baf,p0,q0,z,ai (alD _ _ _)]
 exact fu (x:=cP k k') (by simp only[aa,reduceIte,Nat.reduceEqDiff]) rfl
theorem ajv (i:Int) (s:List UInt8) (c:Int) (nf:Option Bool) (ns:List Int) (af:Option Bool) (ar:List Tm) (i' :Int) (s' :List UInt8) (c' :Int) (nf' :Option Bool) (ns' :List Int) (af' :Option Bool) (ar' :List Tm) (h:Heap):WC env 53 [.agg (tc (.mk 1 i s c nf ns af ar)),.agg (tc (.mk 1 i' s' c' nf' ns' af' ar'))] h (fun o=>o=.ret ⟨.int .i64 (bV (.mk 1 i s c nf ns af ar) (.mk 1 i' s' c' nf' ns' af' ar')),h,.none⟩):=by
 refine ad rfl rfl rfl (by simp only[bdk,az]) ?_
 obtain⟨ca,ea⟩:∃ca,ca=tc (.mk 1 i s c nf ns af ar):=⟨_,rfl⟩
 obtain⟨cb,eb⟩:∃cb,cb=tc (.mk 1 i' s' c' nf' ns' af' ar'):=⟨_,rfl⟩
 rw[←ea,←eb];obtain⟨nv,bbx⟩:∃nv,nv=aM nf ns.length (bN ns):=⟨_,rfl⟩
 obtain⟨av,eav⟩:∃av,av=aM af ar.length (bq ar):=⟨_,rfl⟩
 obtain⟨nv2,bby⟩:∃nv,nv=aM nf' ns'.length (bN ns'):=⟨_,rfl⟩
 obtain⟨av2,u5⟩:∃av,av=aM af' ar'.length (bq ar'):=⟨_,rfl⟩
 have ea' :ca=[.int .i64 1,.int .i64 i,.str s,.int .u32 c,nv,av]:=by rw[ea,bbx,eav];rfl
 have eb' :cb=[.int .i64 1,.int .i64 i',.str s',.int .u32 c',nv2,av2]:=by rw[eb,bby,u5];rfl
 obtain⟨h1,eh1⟩:∃h1,h1=Heap.empty.new ca:=⟨_,rfl⟩
 have ho1:an h1:=by rw[eh1];exact an.empty.new _
 have a1' :h1.at_ Heap.empty.next 0=some ca:=by rw[eh1];exact aY _
 obtain⟨h2,eh2⟩:∃h2,h2=h1.new cb:=⟨_,rfl⟩
 have a2' :h2.at_ Heap.empty.next 0=some ca:=by rw[eh2];exact(cz ho1 _).2 _ _ _ a1'
 have b2' :h2.at_ h1.next 0=some cb:=by rw[eh2];exact aY _
 have y1:(AV.agg ca).row=some ca:=rfl
 have y2:ca.length=6:=by rw[ea'];rfl
 have y3:(AV.agg cb).row=some cb:=rfl
 have y4:cb.length=6:=by rw[eb'];rfl
 rw[ea']at a2'
 rw[eb']at b2'
 have p0:=eK a2'
 have p1:=gj a2'
 have p2:=gk a2'
 have p3:=iz a2'
 have p4:=eU a2'
 have p5:=dZ a2'
 have q0:=eK b2'
 have q1:=gj b2'
 have q2:=gk b2'
 have q3:=iz b2'
 have q4:=eU b2'
 have q5:=dZ b2'
 have e:bV (.mk 1 i s c nf ns af ar) (.mk 1 i' s' c' nf' ns' af' ar')=cP i i' :=by simp[bV]
 simp only[a53,wD,wE,yA,yB,ah.bbw,aw,reduceIte,Nat.reduceEqDiff,y1,y2,y3,y4,←eh1,←eh2,au,baf,Int.reduceBEq,Int.reduceBNe,p0,q0,YI,p1,q1,ai (alF _ _ _)]
 exact fu (by simp only[aa,reduceIte,Nat.reduceEqDiff];rw[e]) rfl
theorem ajw (i:Int) (s:List UInt8) (c:Int) (nf:Option Bool) (ns:List Int) (af:Option Bool) (ar:List Tm) (i' :Int) (s' :List UInt8) (c' :Int) (nf' :Option Bool) (ns' :List Int) (af' :Option Bool) (ar' :List Tm) (h:Heap):WC env 53 [.agg (tc (.mk 2 i s c nf ns af ar)),.agg (tc (.mk 2 i' s' c' nf' ns' af' ar'))] h (fun o=>o=.ret ⟨.int .i64 (bV (.mk 2 i s c nf ns af ar) (.mk 2 i' s' c' nf' ns' af' ar')),h,.none⟩):=by
 refine ad rfl rfl rfl (by simp only[bdk,az]) ?_
 obtain⟨ca,ea⟩:∃ca,ca=tc (.mk 2 i s c nf ns af ar):=⟨_,rfl⟩
 obtain⟨cb,eb⟩:∃cb,cb=tc (.mk 2 i' s' c' nf' ns' af' ar'):=⟨_,rfl⟩
 rw[←ea,←eb];obtain⟨nv,bbx⟩:∃nv,nv=aM nf ns.length (bN ns):=⟨_,rfl⟩
 obtain⟨av,eav⟩:∃av,av=aM af ar.length (bq ar):=⟨_,rfl⟩
 obtain⟨nv2,bby⟩:∃nv,nv=aM nf' ns'.length (bN ns'):=⟨_,rfl⟩
 obtain⟨av2,u5⟩:∃av,av=aM af' ar'.length (bq ar'):=⟨_,rfl⟩
 have ea' :ca=[.int .i64 2,.int .i64 i,.str s,.int .u32 c,nv,av]:=by rw[ea,bbx,eav];rfl
 have eb' :cb=[.int .i64 2,.int .i64 i',.str s',.int .u32 c',nv2,av2]:=by rw[eb,bby,u5];rfl
 obtain⟨h1,eh1⟩:∃h1,h1=Heap.empty.new ca:=⟨_,rfl⟩
 have ho1:an h1:=by rw[eh1];exact an.empty.new _
 have a1' :h1.at_ Heap.empty.next 0=some ca:=by rw[eh1];exact aY _
 obtain⟨h2,eh2⟩:∃h2,h2=h1.new cb:=⟨_,rfl⟩
 have a2' :h2.at_ Heap.empty.next 0=some ca:=by rw[eh2];exact(cz ho1 _).2 _ _ _ a1'
 have b2' :h2.at_ h1.next 0=some cb:=by rw[eh2];exact aY _
 have y1:(AV.agg ca).row=some ca:=rfl
 have y2:ca.length=6:=by rw[ea'];rfl
 have y3:(AV.agg cb).row=some cb:=rfl
 have y4:cb.length=6:=by rw[eb'];rfl
 rw[ea']at a2'
 rw[eb']at b2'
 have p0:=eK a2'
 have p1:=gj a2'
 have p2:=gk a2'
 have p3:=iz a2'
 have p4:=eU a2'
 have p5:=dZ a2'
 have q0:=eK b2'
 have q1:=gj b2'
 have q2:=gk b2'
 have q3:=iz b2'
 have q4:=eU b2'
 have q5:=dZ b2'
 have e:bV (.mk 2 i s c nf ns af ar) (.mk 2 i' s' c' nf' ns' af' ar')=iy s s' :=by simp[bV]
 simp only[a53,wD,wE,yA,yB,Cj,ah.bbw,aw,reduceIte,Nat.reduceEqDiff,y1,y2,y3,y4,←eh1,←eh2,au,baf,Int.reduceBEq,Int.reduceBNe,p0,q0,YJ,p2,q2,ai (XR _ _ _)]
 exact fu (by simp only[aa,reduceIte,Nat.reduceEqDiff];rw[e]) rfl
theorem ajx (i:Int) (s:List UInt8) (c:Int) (nf:Option Bool) (ns:List Int) (af:Option Bool) (ar:List Tm) (i' :Int) (s' :List UInt8) (c' :Int) (nf' :Option Bool) (ns' :List Int) (af' :Option Bool) (ar' :List Tm) (hl:ns.length<9223372036854775808) (hm:ns'.length<9223372036854775808) (h:Heap):WC env 53 [.agg (tc (.mk 3 i s c nf ns af ar)),.agg (tc (.mk 3 i' s' c' nf' ns' af' ar'))] h (fun o=>o=.ret ⟨.int .i64 (bV (.mk 3 i s c nf ns af ar) (.mk 3 i' s' c' nf' ns' af' ar')),h,.none⟩):=by
 refine ad rfl rfl rfl (by simp only[bdk,az]) ?_
 obtain⟨ca,ea⟩:∃ca,ca=tc (.mk 3 i s c nf ns af ar):=⟨_,rfl⟩
 obtain⟨cb,eb⟩:∃cb,cb=tc (.mk 3 i' s' c' nf' ns' af' ar'):=⟨_,rfl⟩
 rw[←ea,←eb];obtain⟨nv,bbx⟩:∃nv,nv=aM nf ns.length (bN ns):=⟨_,rfl⟩
 obtain⟨av,eav⟩:∃av,av=aM af ar.length (bq ar):=⟨_,rfl⟩
 obtain⟨nv2,bby⟩:∃nv,nv=aM nf' ns'.length (bN ns'):=⟨_,rfl⟩
 obtain⟨av2,u5⟩:∃av,av=aM af' ar'.length (bq ar'):=⟨_,rfl⟩
 have ea' :ca=[.int .i64 3,.int .i64 i,.str s,.int .u32 c,nv,av]:=by rw[ea,bbx,eav];rfl
 have eb' :cb=[.int .i64 3,.int .i64 i',.str s',.int .u32 c',nv2,av2]:=by rw[eb,bby,u5];rfl
 obtain⟨h1,eh1⟩:∃h1,h1=Heap.empty.new ca:=⟨_,rfl⟩
 have ho1:an h1:=by rw[eh1];exact an.empty.new _
 have a1' :h1.at_ Heap.empty.next 0=some ca:=by rw[eh1];exact aY _
 obtain⟨h2,eh2⟩:∃h2,h2=h1.new cb:=⟨_,rfl⟩
 have a2' :h2.at_ Heap.empty.next 0=some ca:=by rw[eh2];exact(cz ho1 _).2 _ _ _ a1'
 have b2' :h2.at_ h1.next 0=some cb:=by rw[eh2];exact aY _
 have y1:(AV.agg ca).row=some ca:=rfl
 have y2:ca.length=6:=by rw[ea'];rfl
 have y3:(AV.agg cb).row=some cb:=rfl
 have y4:cb.length=6:=by rw[eb'];rfl
 rw[ea']at a2'
 rw[eb']at b2'
 have p0:=eK a2'
 have p1:=gj a2'
 have p2:=gk a2'
 have p3:=iz a2'
 have p4:=eU a2'
 have p5:=dZ a2'
 have q0:=eK b2'
 have q1:=gj b2'
 have q2:=gk b2'
 have q3:=iz b2'
 have q4:=eU b2'
 have q5:=dZ b2'
 have e:bV (.mk 3 i s c nf ns af ar) (.mk 3 i' s' c' nf' ns' af' ar')=yw [iy s s',cP c c',gq ns ns']:=by simp[bV]
 have wn:∀h,WC env 93 [nv,nv2] h (fun o=>o=.ret ⟨.int .i64 (gq ns ns'),h,.none⟩):=fun h=>by rw[bbx,bby];exact EC _ _ _ _ hl hm h
 simp only[a53,wD,wE,yA,yB,Cj,EG,ah.bbw,aw,reduceIte,Nat.reduceEqDiff,y1,y2,y3,y4,←eh1,←eh2,au,baf,Int.reduceBEq,Int.reduceBNe,p0,q0]
 refine aB ?_
 simp only[aw,reduceIte,Nat.reduceEqDiff,au,baf,k3,Oa,p2,p3,p4,q2,q3,q4,ai (XR _ _ _),ai (Rq _ _ _),ai (wn _),af7,adf,Nat.reduceMul,ai (or3 _ _ _ _)]
 refine⟨rfl,?_⟩
 exact fu (by simp only[aa,reduceIte,Nat.reduceEqDiff];rw[e]) rfl
theorem ajy (i:Int) (s:List UInt8) (c:Int) (nf:Option Bool) (ns:List Int) (af:Option Bool) (ar:List Tm) (i' :Int) (s' :List UInt8) (c' :Int) (nf' :Option Bool) (ns' :List Int) (af' :Option Bool) (ar' :List Tm) (hl:ns.length<9223372036854775808) (hm:ns'.length<9223372036854775808) (h:Heap):WC env 53 [.agg (tc (.mk 4 i s c nf ns af ar)),.agg (tc (.mk 4 i' s' c' nf' ns' af' ar'))] h (fun o=>o=.ret ⟨.int .i64 (bV (.mk 4 i s c nf ns af ar) (.mk 4 i' s' c' nf' ns' af' ar')),h,.none⟩):=by
 refine ad rfl rfl rfl (by simp only[bdk,az]) ?_
 obtain⟨ca,ea⟩:∃ca,ca=tc (.mk 4 i s c nf ns af ar):=⟨_,rfl⟩
 obtain⟨cb,eb⟩:∃cb,cb=tc (.mk 4 i' s' c' nf' ns' af' ar'):=⟨_,rfl⟩
 rw[←ea,←eb];obtain⟨nv,bbx⟩:∃nv,nv=aM nf ns.length (bN ns):=⟨_,rfl⟩
 obtain⟨av,eav⟩:∃av,av=aM af ar.length (bq ar):=⟨_,rfl⟩
 obtain⟨nv2,bby⟩:∃nv,nv=aM nf' ns'.length (bN ns'):=⟨_,rfl⟩
 obtain⟨av2,u5⟩:∃av,av=aM af' ar'.length (bq ar'):=⟨_,rfl⟩
 have ea' :ca=[.int .i64 4,.int .i64 i,.str s,.int .u32 c,nv,av]:=by rw[ea,bbx,eav];rfl
 have eb' :cb=[.int .i64 4,.int .i64 i',.str s',.int .u32 c',nv2,av2]:=by rw[eb,bby,u5];rfl
 obtain⟨h1,eh1⟩:∃h1,h1=Heap.empty.new ca:=⟨_,rfl⟩
 have ho1:an h1:=by rw[eh1];exact an.empty.new _
 have a1' :h1.at_ Heap.empty.next 0=some ca:=by rw[eh1];exact aY _
 obtain⟨h2,eh2⟩:∃h2,h2=h1.new cb:=⟨_,rfl⟩
 have a2' :h2.at_ Heap.empty.next 0=some ca:=by rw[eh2];exact(cz ho1 _).2 _ _ _ a1'
 have b2' :h2.at_ h1.next 0=some cb:=by rw[eh2];exact aY _
 have y1:(AV.agg ca).row=some ca:=rfl
 have y2:ca.length=6:=by rw[ea'];rfl
 have y3:(AV.agg cb).row=some cb:=rfl
 have y4:cb.length=6:=by rw[eb'];rfl
 rw[ea']at a2'
 rw[eb']at b2'
 have p0:=eK a2'
 have p1:=gj a2'
 have p2:=gk a2'
 have p3:=iz a2'
 have p4:=eU a2'
 have p5:=dZ a2'
 have q0:=eK b2'
 have q1:=gj b2'
 have q2:=gk b2'
 have q3:=iz b2'
 have q4:=eU b2'
 have q5:=dZ b2'
 have e:bV (.mk 4 i s c nf ns af ar) (.mk 4 i' s' c' nf' ns' af' ar')=yw [iy s s',cP c c',gq ns ns']:=by simp[bV]
 have wn:∀h,WC env 93 [nv,nv2] h (fun o=>o=.ret ⟨.int .i64 (gq ns ns'),h,.none⟩):=fun h=>by rw[bbx,bby];exact EC _ _ _ _ hl hm h
 simp only[a53,wD,wE,yA,yB,Cj,EG,KJ,ah.bbw,aw,reduceIte,Nat.reduceEqDiff,y1,y2,y3,y4,←eh1,←eh2,au,baf,Int.reduceBEq,Int.reduceBNe,p0,q0]
 refine aB ?_
 simp only[aw,reduceIte,Nat.reduceEqDiff,au,baf,k3,Oa,p2,p3,p4,q2,q3,q4,ai (XR _ _ _),ai (Rq _ _ _),ai (wn _),af7,adf,Nat.reduceMul,ai (or3 _ _ _ _)]
 refine⟨rfl,?_⟩
 exact fu (by simp only[aa,reduceIte,Nat.reduceEqDiff];rw[e]) rfl
theorem ajz (i:Int) (s:List UInt8) (c:Int) (nf:Option Bool) (ns:List Int) (af:Option Bool) (ar:List Tm) (i' :Int) (s' :List UInt8) (c' :Int) (nf' :Option Bool) (ns' :List Int) (af' :Option Bool) (ar' :List Tm) (hP:∀t,t∈ar→yC t) (okm:gW ar') (wfm:EI ar') (hl:ar.length<9223372036854775808) (hm:ar'.length<9223372036854775808) (h:Heap):WC env 53 [.agg (tc (.mk 5 i s c nf ns af ar)),.agg (tc (.mk 5 i' s' c' nf' ns' af' ar'))] h (fun o=>o=.ret ⟨.int .i64 (bV (.mk 5 i s c nf ns af ar) (.mk 5 i' s' c' nf' ns' af' ar')),h,.none⟩):=by
 refine ad rfl rfl rfl (by simp only[bdk,az]) ?_
 obtain⟨ca,ea⟩:∃ca,ca=tc (.mk 5 i s c nf ns af ar):=⟨_,rfl⟩
 obtain⟨cb,eb⟩:∃cb,cb=tc (.mk 5 i' s' c' nf' ns' af' ar'):=⟨_,rfl⟩
 rw[←ea,←eb];obtain⟨nv,bbx⟩:∃nv,nv=aM nf ns.length (bN ns):=⟨_,rfl⟩
 obtain⟨av,eav⟩:∃av,av=aM af ar.length (bq ar):=⟨_,rfl⟩
 obtain⟨nv2,bby⟩:∃nv,nv=aM nf' ns'.length (bN ns'):=⟨_,rfl⟩
 obtain⟨av2,u5⟩:∃av,av=aM af' ar'.length (bq ar'):=⟨_,rfl⟩
 have ea' :ca=[.int .i64 5,.int .i64 i,.str s,.int .u32 c,nv,av]:=by rw[ea,bbx,eav];rfl
 have eb' :cb=[.int .i64 5,.int .i64 i',.str s',.int .u32 c',nv2,av2]:=by rw[eb,bby,u5];rfl
 obtain⟨h1,eh1⟩:∃h1,h1=Heap.empty.new ca:=⟨_,rfl⟩
 have ho1:an h1:=by rw[eh1];exact an.empty.new _
 have a1' :h1.at_ Heap.empty.next 0=some ca:=by rw[eh1];exact aY _
 obtain⟨h2,eh2⟩:∃h2,h2=h1.new cb:=⟨_,rfl⟩
 have a2' :h2.at_ Heap.empty.next 0=some ca:=by rw[eh2];exact(cz ho1 _).2 _ _ _ a1'
 have b2' :h2.at_ h1.next 0=some cb:=by rw[eh2];exact aY _
 have y1:(AV.agg ca).row=some ca:=rfl
 have y2:ca.length=6:=by rw[ea'];rfl
 have y3:(AV.agg cb).row=some cb:=rfl
 have y4:cb.length=6:=by rw[eb'];rfl
 rw[ea']at a2'
 rw[eb']at b2'
 have p0:=eK a2'
 have p1:=gj a2'
 have p2:=gk a2'
 have p3:=iz a2'
 have p4:=eU a2'
 have p5:=dZ a2'
 have q0:=eK b2'
 have q1:=gj b2'
 have q2:=gk b2'
 have q3:=iz b2'
 have q4:=eU b2'
 have q5:=dZ b2'
 have e:bV (.mk 5 i s c nf ns af ar) (.mk 5 i' s' c' nf' ns' af' ar')=yw [cP ar.length ar'.length,jH ar ar']:=by simp[bV]
 have wn:∀h,WC env 95 [av,av2,.fn (.func 53) [] []] h (fun o=>o=.ret ⟨.int .i64 (jH ar ar'),h,.none⟩):=fun h=>by rw[eav,u5];exact TQ _ _ _ _ hP okm wfm hl hm h
 have al:∀h,aN false h av=some ⟨.int .i64 ar.length,h,.none⟩:=fun h=>by rw[eav];exact bX _ _ _ (fun _=>trivial) h
 have al2:∀h,aN false h av2=some ⟨.int .i64 ar'.length,h,.none⟩:=fun h=>by rw[u5];exact bX _ _ _ (fun _=>trivial) h
 simp only[a53,wD,wE,yA,yB,Cj,EG,KJ,RT,ah.bbw,aw,reduceIte,Nat.reduceEqDiff,y1,y2,y3,y4,←eh1,←eh2,au,baf,Int.reduceBEq,Int.reduceBNe,p0,q0]
 refine aB ?_
 simp only[aw,reduceIte,Nat.reduceEqDiff,au,baf,k3,YK,p5,q5,al,al2,ai (alI _ _ _),ai (wn _),anX,aqh,Nat.reduceMul,ai (or2 _ _ _)]
 refine⟨rfl,?_⟩
 exact fu (by simp only[aa,reduceIte,Nat.reduceEqDiff];rw[e]) rfl
theorem ajA (i:Int) (s:List UInt8) (c:Int) (nf:Option Bool) (ns:List Int) (af:Option Bool) (ar:List Tm) (i' :Int) (s' :List UInt8) (c' :Int) (nf' :Option Bool) (ns' :List Int) (af' :Option Bool) (ar' :List Tm) (hP:∀t,t∈ar→yC t) (okm:gW ar') (wfm:EI ar') (hl:ar≠[]) (hm:ar' ≠[]) (l7:cf ar=true) (m7:cf ar' =true) (h:Heap):WC env 53 [.agg (tc (.mk 7 i s c nf ns af ar)),.agg (tc (.mk 7 i' s' c' nf' ns' af' ar'))] h (fun o=>o=.ret ⟨.int .i64 (bV (.mk 7 i s c nf ns af ar) (.mk 7 i' s' c' nf' ns' af' ar')),h,.none⟩):=by
 refine ad rfl rfl rfl (by simp only[bdk,az]) ?_
 obtain⟨ca,ea⟩:∃ca,ca=tc (.mk 7 i s c nf ns af ar):=⟨_,rfl⟩
 obtain⟨cb,eb⟩:∃cb,cb=tc (.mk 7 i' s' c' nf' ns' af' ar'):=⟨_,rfl⟩
 rw[←ea,←eb];obtain⟨nv,bbx⟩:∃nv,nv=aM nf ns.length (bN ns):=⟨_,rfl⟩
 obtain⟨av,eav⟩:∃av,av=aM af ar.length (bq ar):=⟨_,rfl⟩
 obtain⟨nv2,bby⟩:∃nv,nv=aM nf' ns'.length (bN ns'):=⟨_,rfl⟩
 obtain⟨av2,u5⟩:∃av,av=aM af' ar'.length (bq ar'):=⟨_,rfl⟩
 have ea' :ca=[.int .i64 7,.int .i64 i,.str s,.int .u32 c,nv,av]:=by rw[ea,bbx,eav];rfl
 have eb' :cb=[.int .i64 7,.int .i64 i',.str s',.int .u32 c',nv2,av2]:=by rw[eb,bby,u5];rfl
 obtain⟨h1,eh1⟩:∃h1,h1=Heap.empty.new ca:=⟨_,rfl⟩
 have ho1:an h1:=by rw[eh1];exact an.empty.new _
 have a1' :h1.at_ Heap.empty.next 0=some ca:=by rw[eh1];exact aY _
 obtain⟨h2,eh2⟩:∃h2,h2=h1.new cb:=⟨_,rfl⟩
 have a2' :h2.at_ Heap.empty.next 0=some ca:=by rw[eh2];exact(cz ho1 _).2 _ _ _ a1'
 have b2' :h2.at_ h1.next 0=some cb:=by rw[eh2];exact aY _
 have y1:(AV.agg ca).row=some ca:=rfl
 have y2:ca.length=6:=by rw[ea'];rfl
 have y3:(AV.agg cb).row=some cb:=rfl
 have y4:cb.length=6:=by rw[eb'];rfl
 rw[ea']at a2'
 rw[eb']at b2'
 have p0:=eK a2'
 have p1:=gj a2'
 have p2:=gk a2'
 have p3:=iz a2'
 have p4:=eU a2'
 have p5:=dZ a2'
 have q0:=eK b2'
 have q1:=gj b2'
 have q2:=gk b2'
 have q3:=iz b2'
 have q4:=eU b2'
 have q5:=dZ b2'
 have e:bV (.mk 7 i s c nf ns af ar) (.mk 7 i' s' c' nf' ns' af' ar')=gF ar ar' :=by simp[bV]
 have wn:∀h,WC env 96 [av,av2] h (fun o=>o=.ret ⟨.int .i64 (gF ar ar'),h,.none⟩):=fun h=>by rw[eav,u5];exact PD EK _ _ _ _ hl hm l7 m7 hP okm wfm h
 simp only[a53,wD,wE,yA,yB,Cj,EG,KJ,RT,YH,ah.bbw,aw,reduceIte,Nat.reduceEqDiff,y1,y2,y3,y4,←eh1,←eh2,au,baf,Int.reduceBEq,Int.reduceBNe,p0,q0,YL,p5,q5,ai (wn _)]
 exact fu (by simp only[aa,reduceIte,Nat.reduceEqDiff];rw[e]) rfl
theorem ajB (k:Int) (i:Int) (s:List UInt8) (c:Int) (nf:Option Bool) (ns:List Int) (af:Option Bool) (ar:List Tm) (i' :Int) (s' :List UInt8) (c' :Int) (nf' :Option Bool) (ns' :List Int) (af' :Option Bool) (ar' :List Tm) (hk:∀j:Int,1≤j→j≤7→j≠6→k≠j) (h:Heap):WC env 53 [.agg (tc (.mk k i s c nf ns af ar)),.agg (tc (.mk k i' s' c' nf' ns' af' ar'))] h (fun o=>o=.ret ⟨.int .i64 (bV (.mk k i s c nf ns af ar) (.mk k i' s' c' nf' ns' af' ar')),h,.none⟩):=by
 refine ad rfl rfl rfl (by simp only[bdk,az]) ?_
 obtain⟨ca,ea⟩:∃ca,ca=tc (.mk k i s c nf ns af ar):=⟨_,rfl⟩
 obtain⟨cb,eb⟩:∃cb,cb=tc (.mk k i' s' c' nf' ns' af' ar'):=⟨_,rfl⟩
 rw[←ea,←eb];obtain⟨nv,bbx⟩:∃nv,nv=aM nf ns.length (bN ns):=⟨_,rfl⟩
 obtain⟨av,eav⟩:∃av,av=aM af ar.length (bq ar):=⟨_,rfl⟩
 obtain⟨nv2,bby⟩:∃nv,nv=aM nf' ns'.length (bN ns'):=⟨_,rfl⟩
 obtain⟨av2,u5⟩:∃av,av=aM af' ar'.length (bq ar'):=⟨_,rfl⟩
 have ea' :ca=[.int .i64 k,.int .i64 i,.str s,.int .u32 c,nv,av]:=by rw[ea,bbx,eav];rfl
 have eb' :cb=[.int .i64 k,.int .i64 i',.str s',.int .u32 c',nv2,av2]:=by rw[eb,bby,u5];rfl
 obtain⟨h1,eh1⟩:∃h1,h1=Heap.empty.new ca:=⟨_,rfl⟩
 have ho1:an h1:=by rw[eh1];exact an.empty.new _
 have a1' :h1.at_ Heap.empty.next 0=some ca:=by rw[eh1];exact aY _
 obtain⟨h2,eh2⟩:∃h2,h2=h1.new cb:=⟨_,rfl⟩
 have a2' :h2.at_ Heap.empty.next 0=some ca:=by rw[eh2];exact(cz ho1 _).2 _ _ _ a1'
 have b2' :h2.at_ h1.next 0=some cb:=by rw[eh2];exact aY _
 have y1:(AV.agg ca).row=some ca:=rfl
 have y2:ca.length=6:=by rw[ea'];rfl
 have y3:(AV.agg cb).row=some cb:=rfl
 have y4:cb.length=6:=by rw[eb'];rfl
 rw[ea']at a2'
 rw[eb']at b2'
 have p0:=eK a2'
 have p1:=gj a2'
 have p2:=gk a2'
 have p3:=iz a2'
 have p4:=eU a2'
 have p5:=dZ a2'
 have q0:=eK b2'
 have q1:=gj b2'
 have q2:=gk b2'
 have q3:=iz b2'
 have q4:=eU b2'
 have q5:=dZ b2'
 have z:(k !=k)=false:=by simp
 have k1:(k==1)=false:=by simpa using hk 1 (by omega) (by omega) (by omega)
 have k2:(k==2)=false:=by simpa using hk 2 (by omega) (by omega) (by omega)
 have k3:(k==3)=false:=by simpa using hk 3 (by omega) (by omega) (by omega)
 have k4:(k==4)=false:=by simpa using hk 4 (by omega) (by omega) (by omega)
 have k5:(k==5)=false:=by simpa using hk 5 (by omega) (by omega) (by omega)
 have k7:(k==7)=false:=by simpa using hk 7 (by omega) (by omega) (by omega)
 have e:bV (.mk k i s c nf ns af ar) (.mk k i' s' c' nf' ns' af' ar')=0:=by
  simp only[bV,ne_eq,not_true,if_false,hk 1 (by omega) (by omega) (by omega),hk 2 (by omega) (by omega) (by omega),hk 3 (by omega) (by omega) (by omega),hk 4 (by omega) (by omega) (by omega),hk 5 (by omega) (by omega) (by omega),hk 7 (by omega) (by omega) (by omega),or_self]
 simp only[a53,wD,wE,yA,yB,Cj,EG,KJ,RT,YH,ah.bbw,aw,reduceIte,Nat.reduceEqDiff,y1,y2,y3,y4,←eh1,←eh2,au,baf,p0,q0,z,k1,k2,k3,k4,k5,k7,YM]
 exact fu (by simp only[aa,reduceIte,Nat.reduceEqDiff];rw[e]) rfl
theorem sS {i:Int} {s:List UInt8} {c:Int} {nf:Option Bool} {ns:List Int} {af:Option Bool} {ar:List Tm} (w:Wf (.mk 7 i s c nf ns af ar)):ar≠[]∧cf ar=true:=by
 have h:=w.1.1;rw[kindOk]at h
 simp at h;exact⟨fun e=>by rw[e]at h;simp at h,h.2⟩
theorem KS:∀a:Tm,a.Ok→Wf a→yC a:=by
 refine j7 fun k i s c nf ns af ar ih ok wf b okb wfb h=> ?_
 rcases b with⟨k',i',s',c',nf',ns',af',ar'⟩
 obtain⟨_,sn,sa,sr⟩:=ok.lens
 obtain⟨_,sn',sa',sr'⟩:=okb.lens
 have hP:∀t,t∈ar→yC t:=fun t m=>ih t m (sr.get m) (wf.2.get m)
 by_cases hk:k=k'
 ·subst hk
  by_cases e1:k=1
  ·subst e1;exact ajv i s c nf ns af ar i' s' c' nf' ns' af' ar' h
  by_cases e2:k=2
  ·subst e2;exact ajw i s c nf ns af ar i' s' c' nf' ns' af' ar' h
  by_cases e3:k=3
  ·subst e3;exact ajx i s c nf ns af ar i' s' c' nf' ns' af' ar' sn sn' h
  by_cases e4:k=4
  ·subst e4;exact ajy i s c nf ns af ar i' s' c' nf' ns' af' ar' sn sn' h
  by_cases e5:k=5
  ·subst e5;exact ajz i s c nf ns af ar i' s' c' nf' ns' af' ar' hP sr' wfb.2 sa sa' h
  by_cases e7:k=7
  ·subst e7;exact ajA i s c nf ns af ar i' s' c' nf' ns' af' ar' hP sr' wfb.2 (sS wf).1 (sS wfb).1 (sS wf).2 (sS wfb).2 h
  exact ajB k i s c nf ns af ar i' s' c' nf' ns' af' ar' (fun j h1 h2 h3=>by omega) h
 ·have:=EK (.mk k i s c nf ns af ar) (.mk k' i' s' c' nf' ns' af' ar') hk h
  have e:bV (.mk k i s c nf ns af ar) (.mk k' i' s' c' nf' ns' af' ar')=cP k k' :=by rw[bV,if_pos hk]
  rw[e];exact this
end Go.Bf
namespace Go.Bf
open Go.AM
theorem ly (a b:Int) (h:Heap):WC env 70 [.int .i64 a,.int .i64 b] h (fun o=>o=.ret ⟨.int .i64 (cP a b),h,.none⟩):=by
 refine ad rfl rfl rfl rfl ?_
 by_cases c1:a<b
 ·have z1:(a<b)=True:=eq_true c1
  have e:cP a b= -1:=if_pos c1
  simp only[a70,RV,RW,afB,ah.bbw,aw,reduceIte,Nat.reduceEqDiff,z1]
  exact fu (by simp only[aa,reduceIte,Nat.reduceEqDiff];rw[e]) rfl
 have z1:(a<b)=False:=eq_false c1
 by_cases c2:a>b
 ·have z2:(a>b)=True:=eq_true c2
  have e:cP a b=1:=by rw[cP,if_neg c1,if_pos c2]
  simp only[a70,RV,RW,YW,afC,ah.bbw,aw,reduceIte,Nat.reduceEqDiff,z1,z2]
  exact fu (by simp only[aa,reduceIte,Nat.reduceEqDiff];rw[e]) rfl
 have z2:(a>b)=False:=eq_false c2
 have e:cP a b=0:=by rw[cP,if_neg c1,if_neg c2]
 simp only[a70,RV,RW,YW,afD,ah.bbw,aw,reduceIte,Nat.reduceEqDiff,z1,z2]
 exact fu (by simp only[aa,reduceIte,Nat.reduceEqDiff];rw[e]) rfl
def cmpL:List UInt8→List UInt8→Int
 |[],[]=>0
 |[],_::_=> -1
 |_::_,[]=>1
 |a::l,b::m=>if a.toNat<b.toNat then-1 else if a.toNat>b.toNat then 1 else cmpL l m
theorem cmpL_eq:∀a b:List UInt8,cmpL a b=iy a b
 |[],[]=>by rw[cmpL,iy];rfl
 |[],_::_=>by rw[cmpL,iy];rfl
 |_::_,[]=>by rw[cmpL,iy];rfl
 |a::l,b::m=>by
  have ih:=cmpL_eq l m
  rw[cmpL,iy,Op.bytesLess];have lt:(decide (a<b))=decide (a.toNat<b.toNat):=by rw[decide_eq_decide];exact UInt8.lt_iff_toNat_lt
  by_cases h1:a.toNat<b.toNat
  ·rw[if_pos h1,lt,decide_eq_true h1];rfl
  ·rw[if_neg h1,lt,decide_eq_false h1,Bool.false_or]
   by_cases h2:a.toNat>b.toNat
   ·have hne:(a==b)=false:=by
     cases e:(a==b)with
     |false=>rfl
     |true=>have:=eq_of_beq e;subst this;omega
    have bcg:(a::l==b::m)=false:=by rw[List.cons_beq_cons,hne];rfl
    rw[if_pos h2,hne,bcg];rfl
   ·have e:a=b:=UInt8.toNat_inj.1 (by omega)
    subst e;rw[if_neg h2,ih,iy,List.cons_beq_cons,beq_self_eq_true,bbb,bbb]
theorem TS {a b:List UInt8} (ha:a.length<9223372036854775808) (hb:b.length<9223372036854775808) {h:Heap} {Q:aU→St→Prop}:∀(f i:Nat) (σ:ah),a.length-i<f→i≤a.length→i≤b.length→σ.get 0=.str a→σ.get 1=.str b→σ.get 5=.int .i64 i→
  (∀σ',(∀x,σ'.get 4=.int .i64 x→x=cmpL (a.drop i) (b.drop i)→Q .ret ⟨σ',h⟩)∧(σ'.get 0=.str a→σ'.get 1=.str b→cmpL (a.drop i) (b.drop i)=cP a.length b.length→Q (.exit 0) ⟨σ',h⟩))→kz env Cn ⟨σ,h⟩ Q:=by
 intro f
 induction f with
 |zero=>intro i σ h1;omega
 |succ f ih=>
  intro i σ hf hi hi' g0 g1 g5 hQ;refine aC fun bb hbb=> ?_
  have n1:∀h,aN true h (.str a)=some ⟨.int .i64 a.length,h,.none⟩:=fun h=>rfl
  have n2:∀h,aN true h (.str b)=some ⟨.int .i64 b.length,h,.none⟩:=fun h=>rfl
  by_cases c1:i<a.length
  case neg=>
   have z0:((i:Int)<(a.length:Int))=False:=eq_false (by omega)
   simp only[Cn,RY,aw,reduceIte,Nat.reduceEqDiff,g0,g5,n1,z0,aL]
   refine(hQ _).2 (by simp only[aa,reduceIte,Nat.reduceEqDiff,g0]) (by simp only[aa,reduceIte,Nat.reduceEqDiff,g1]) ?_
   rw[bao (show a.length≤i by omega)]
   cases e:b.drop i with
   |nil=>
    have:b.length≤i:=List.drop_eq_nil_iff.1 e
    rw[cmpL,cP,if_neg (by omega),if_neg (by omega)]
   |cons x y=>
    have:¬b.length≤i:=fun c=>by rw[bao c]at e;cases e
    rw[cmpL,cP,if_pos (by omega)]
  have z0:((i:Int)<(a.length:Int))=True:=eq_true (by omega)
  have hd1:a.drop i=a[i]::a.drop (i+1):=bat c1
  by_cases c2:i<b.length
  case neg=>
   have z1:((i:Int)<(b.length:Int))=False:=eq_false (by omega)
   simp only[Cn,RY,aw,reduceIte,Nat.reduceEqDiff,g0,g1,g5,n1,n2,z0,z1,aL]
   refine(hQ _).2 (by simp only[aa,reduceIte,Nat.reduceEqDiff,g0]) (by simp only[aa,reduceIte,Nat.reduceEqDiff,g1]) ?_
   rw[hd1,bao (show b.length≤i by omega),cmpL,cP,if_neg (by omega),if_pos (by omega)]
  have z1:((i:Int)<(b.length:Int))=True:=eq_true (by omega)
  have hd2:b.drop i=b[i]::b.drop (i+1):=bat c2
  have zi:IntKind.wrap .i64 ((i:Int)+1)=((i+1:Nat):Int):=aX (by omega) (by omega)
  have x1:=mM c1
  have x2:=mM c2
  rw[hd1,hd2,cmpL]at hQ
  simp only[Cn,RY,aw,reduceIte,Nat.reduceEqDiff,g0,g1,g5,n1,n2,z0,z1,aL]
  refine aB ?_
  by_cases c3:a[i].toNat<b[i].toNat
  ·have z3:((a[i].toNat:Int)<(b[i].toNat:Int))=True:=eq_true (by omega)
   rw[if_pos c3]at hQ
   simp only[aw,reduceIte,Nat.reduceEqDiff,k3,YX,afG,bj,bx,g0,g1,g5,x1,x2,z3]
   refine⟨rfl,?_⟩
   exact(hQ _).1 (-1) (by simp only[aa,reduceIte,Nat.reduceEqDiff]) rfl
  have z3:((a[i].toNat:Int)<(b[i].toNat:Int))=False:=eq_false (by omega)
  rw[if_neg c3]at hQ
  simp only[aw,reduceIte,Nat.reduceEqDiff,k3,YX,bj,bx,g0,g1,g5,x1,x2,z3]
  refine⟨rfl,?_⟩
  refine aB ?_
  by_cases c4:a[i].toNat>b[i].toNat
  ·have z4:((a[i].toNat:Int)>(b[i].toNat:Int))=True:=eq_true (by omega)
   rw[if_pos c4]at hQ
   simp only[aw,reduceIte,Nat.reduceEqDiff,k3,YY,afH,bj,bx,g0,g1,g5,x1,x2,z4]
   refine⟨rfl,?_⟩
   exact(hQ _).1 1 (by simp only[aa,reduceIte,Nat.reduceEqDiff]) rfl
  have z4:((a[i].toNat:Int)>(b[i].toNat:Int))=False:=eq_false (by omega)
  rw[if_neg c4]at hQ
  simp only[aw,reduceIte,Nat.reduceEqDiff,k3,YY,afI,bj,bx,g0,g1,g5,x1,x2,z4,zi]
  refine⟨rfl,?_⟩
  subst hbb;refine ih (i+1) _ (by omega) (by omega) (by omega) ?_ ?_ ?_ hQ
  ·simp only[aa,reduceIte,Nat.reduceEqDiff,g0]
  ·simp only[aa,reduceIte,Nat.reduceEqDiff,g1]
  ·simp only[aa,reduceIte,Nat.reduceEqDiff]
theorem oV (a b:List UInt8) (ha:a.length<9223372036854775808) (hb:b.length<9223372036854775808) (h:Heap):WC env 71 [.str a,.str b] h (fun o=>o=.ret ⟨.int .i64 (iy a b),h,.none⟩):=by
 refine ad rfl rfl rfl rfl ?_
 have n1:∀h,aN true h (.str a)=some ⟨.int .i64 a.length,h,.none⟩:=fun h=>rfl
 have n2:∀h,aN true h (.str b)=some ⟨.int .i64 b.length,h,.none⟩:=fun h=>rfl
 simp only[a71,afE,afF,ah.bbw,aw]
 refine TS ha hb (a.length+1) 0 _ (by omega) (by omega) (by omega) ?_ ?_ ?_ fun σ' =>⟨fun x g e=> ?_,fun p0 p1 e=> ?_⟩
 ·simp only[aa,reduceIte,Nat.reduceEqDiff]
 ·simp only[aa,reduceIte,Nat.reduceEqDiff]
 ·simp only[aa,reduceIte,Nat.reduceEqDiff];rfl
 ·simp only[aw]
  exact fu g (by rw[e,bah,bah,cmpL_eq])
 ·rw[bah,bah,cmpL_eq]at e
  by_cases c1:a.length<b.length
  ·have z1:((a.length:Int)<(b.length:Int))=True:=eq_true (by omega)
   rw[cP,if_pos (by omega)]at e
   simp only[RZ,YZ,aw,reduceIte,Nat.reduceEqDiff,p0,p1,n1,n2,z1]
   exact fu (by simp only[aa,reduceIte,Nat.reduceEqDiff];rw[e]) rfl
  have z1:((a.length:Int)<(b.length:Int))=False:=eq_false (by omega)
  by_cases c2:a.length>b.length
  ·have z2:((a.length:Int)>(b.length:Int))=True:=eq_true (by omega)
   rw[cP,if_neg (by omega),if_pos (by omega)]at e
   simp only[RZ,OE,Y0,aw,reduceIte,Nat.reduceEqDiff,p0,p1,n1,n2,z1,z2]
   exact fu (by simp only[aa,reduceIte,Nat.reduceEqDiff];rw[e]) rfl
  ·have z2:((a.length:Int)>(b.length:Int))=False:=eq_false (by omega)
   rw[cP,if_neg (by omega),if_neg (by omega)]at e
   simp only[RZ,OE,Y1,aw,reduceIte,Nat.reduceEqDiff,p0,p1,n1,n2,z1,z2]
   exact fu (by simp only[aa,reduceIte,Nat.reduceEqDiff];rw[e]) rfl
theorem anY {s:St} {n i:Nat} {t:Tm} {h:Heap} {Q:fC→Prop} (hg:s.σ.get n=.ptr i 0 0) (hat:s.h.at_ i 0=some (tc t)) (hq:Q (.ret ⟨.agg (tc t),h,.none⟩)):iB env [.cell n true 6] h Q .ret s:=
 ⟨[.agg (tc t)],.agg (tc t),by simp only[Env.results,hg,lM hat,jab],(ay (v:=.agg (tc t)) (r_ t)).2 rfl,hq⟩
inductive LT:Tm→List Tm→Prop
 |list (i:Int) (s:List UInt8) (c:Int) (nf:Option Bool) (ns:List Int) (af:Option Bool) (l:List Tm) (h:2≤l.length):LT (.mk 7 i s c nf ns af l) l
 |last (t:Tm) (h:t.kind≠7):LT t [t]
theorem EL {t x:Tm} {l:List Tm} (k:LT t (x::l)) (hl:l≠[]) (hlen:l.length<9223372036854775807) (h7:cf l=true) (h:Heap):∃t',WC env 113 [.agg (tc t)] h (fun o=>o=.ret ⟨.agg (tc t'),h,.none⟩)∧LT t' l:=by
 cases k with
 |last _ _=>exact absurd rfl hl
 |list i s c nf ns af _ h2=>
  obtain⟨t,et⟩:∃t:Tm,t=.mk 7 i s c nf ns af (x::l):=⟨_,rfl⟩
  rw[←et];have ec:tc t=[.int .i64 7,.int .i64 i,.str s,.int .u32 c,aM nf ns.length (bN ns),aM af (x::l).length (bq (x::l))]:=by rw[et];rfl
  obtain⟨h1,eh1⟩:∃h1,h1=Heap.empty.new (tc t):=⟨_,rfl⟩
  have ho1:an h1:=by rw[eh1];exact an.empty.new _
  have a1:h1.at_ Heap.empty.next 0=some (tc t):=by rw[eh1];exact aY _
  rw[ec]at a1
  obtain⟨h2',eh2⟩:∃h2,h2=h1.new [.int .i64 0,.int .i64 0,.str [],.int .u32 0,.ax,.ax]:=⟨_,rfl⟩
  have a2:=(cz ho1 [.int .i64 0,.int .i64 0,.str [],.int .u32 0,.ax,.ax]).2 _ _ _ a1
  have y1:(AV.agg (tc t)).row=some (tc t):=rfl
  have y2:(tc t).length=6:=aR t
  have l5:=dZ a2
  have nl:∀h,aN false h (aM af (x::l).length (bq (x::l)))=some ⟨.int .i64 (x::l).length,h,.none⟩:=fun h=>bX _ _ _ (fun _=>trivial) h
  have hr:AV.aj [.agg (tc t)]=true:=by simp only[bdk,az]
  by_cases c1:l.length=1
  ·match l,c1 with
   |[y],_=>
    have h7' :y.kind≠7:=by rw[cf]at h7;simpa using h7
    refine⟨y,ad rfl rfl rfl hr ?_,.last y h7'⟩
    have z1:(((x::[y]).length:Int)==2)=true:=rfl
    have ix:aZ 6 (aM af (x::[y]).length (bq (x::[y]))) (.int .i64 1)=some (.fp ((bq [x,y]).drop (1*6))):=fI (l:=[x,y]) (i:=1) (by simp)
    have lx:∀h,bg h true 6 (.fp ((bq [x,y]).drop (1*6)))=some ⟨.agg (tc y),h,.none⟩:=fun h=>fK (l:=[x,y]) (i:=1) (by simp) h
    obtain⟨h3,s3',ho3,le3,a3⟩:=kH ho1 y
    simp only[acV,O8,O9,ZF,ah.bbw,aw,reduceIte,Nat.reduceEqDiff,y1,y2,←eh1,au,baf,l5,nl,z1,ix,lx,s3']
    exact anY (by simp only[aa,reduceIte,Nat.reduceEqDiff]) a3 rfl
  ·have hl2:2≤l.length:=by
    cases l with
    |nil=>exact absurd rfl hl
    |cons y l=>have e:(y::l).length=l.length+1:=rfl;omega
   have z1:(((x::l).length:Int)==2)=false:=by simp;omega
   obtain⟨v',sv,kv⟩:=(Ew af (x::l)).tail
   obtain⟨f',ev⟩:=kv.eq
   refine⟨.mk 7 0 [] 0 none [] f' l,ad rfl rfl rfl hr ?_,.list _ _ _ _ _ _ _ hl2⟩
   obtain⟨h3,s3',ho3,le3,a3⟩:=kH ho1 (.mk 7 0 [] 0 none [] f' l)
   have y3:bY [.int .i64 0,.int .i64 0,.str [],.int .u32 0,.ax,.ax] [(0,1,.int .i64 7),(5,1,v')]=some (tc (.mk 7 0 [] 0 none [] f' l)):=by
    rw[ev];have:∀w:AV,SN w→bY [.int .i64 0,.int .i64 0,.str [],.int .u32 0,.ax,.ax] [(0,1,.int .i64 7),(5,1,w)]=some [.int .i64 7,.int .i64 0,.str [],.int .u32 0,.ax,w]:=by
     intro w hw;cases hw<;>rfl
    exact this _ (M4 f' l.length (bq l)).any
   simp only[acV,O8,O9,ZG,ah.bbw,aw,reduceIte,Nat.reduceEqDiff,y1,y2,←eh1,au,baf,l5,nl,z1,sv,y3,s3']
   exact anY (by simp only[aa,reduceIte,Nat.reduceEqDiff]) a3 rfl
end Go.Bf
namespace Go.Bf
open Go.AM
def rT (a:Tm):Prop:=∀b,b.Ok→Wf b→∀h,WC env 40 [.agg (tc a),.agg (tc b)] h (fun o=>o=.ret ⟨.int .i64 (bV a b),h,.none⟩)
def Ii:Prop:=∀a b:Tm,a.kind≠b.kind→∀h,WC env 40 [.agg (tc a),.agg (tc b)] h (fun o=>o=.ret ⟨.int .i64 (cP a.kind b.kind),h,.none⟩)
theorem LT.ne {t:Tm} {l:List Tm} (k:LT t l):l≠[]:=by
 cases k with
 |list i s c nf ns af l h=>intro e;subst e;simp at h
 |last t h=>simp
theorem KT {ta tb:Tm} {l m:List Tm} (kinds:Ii) (ka:LT ta l) (kb:LT tb m) (hno:¬(ta.kind=7∧tb.kind=7)) (hP:∀t,t∈l→rT t) (okm:gW m) (wfm:EI m) (h:Heap):
  WC env 40 [.agg (tc ta),.agg (tc tb)] h (fun o=>o=.ret ⟨.int .i64 (gF l m),h,.none⟩):=by
 cases ka with
 |list i s c nf ns af _ h2=>
  cases kb with
  |list _ _ _ _ _ _ _ _=>exact absurd ⟨rfl,rfl⟩ hno
  |last _ h7=>
   match l,h2 with
   |a::a' ::l,h2=>
    have:gF (a::a' ::l) [tb]=cP 7 tb.kind:=by simp[gF]
    rw[this];exact kinds (.mk 7 i s c nf ns af (a::a' ::l)) tb (fun e=>h7 e.symm) h
 |last _ h7=>
  cases kb with
  |list i s c nf ns af _ h2=>
   match m,h2 with
   |b::b' ::m,h2=>
    have:gF [ta] (b::b' ::m)=cP ta.kind 7:=by simp[gF]
    rw[this];exact kinds ta (.mk 7 i s c nf ns af (b::b' ::m)) h7 h
  |last _ h8=>
   have:gF [ta] [tb]=bV ta tb:=by simp[gF]
   rw[this];exact hP ta (by simp) tb (okm.get (by simp)) (wfm.get (by simp)) h
theorem KU (kinds:Ii) {i2 i3:Nat} (hne:i2≠i3) {Q:aU→St→Prop}:∀(l m:List Tm) (σ:ah) (h:Heap) (ta tb:Tm),an h→h.at_ i2 0=some (tc ta)→h.at_ i3 0=some (tc tb)→LT ta l→LT tb m→cf l=true→cf m=true→l.length<9223372036854775807→m.length<9223372036854775807→(∀t,t∈l→rT t)→gW m→EI m→σ.get 2=.ptr i2 0 0→σ.get 3=.ptr i3 0 0→
  (∀σ' h',(∀x,σ'.get 4=.int .i64 x→x=gF l m→Q .ret ⟨σ',h'⟩)∧(∀ta' tb',σ'.get 2=.ptr i2 0 0→σ'.get 3=.ptr i3 0 0→h'.at_ i2 0=some (tc ta')→h'.at_ i3 0=some (tc tb')→(∀h,WC env 40 [.agg (tc ta'),.agg (tc tb')] h (fun o=>o=.ret ⟨.int .i64 (gF l m),h,.none⟩))→Q (.exit 0) ⟨σ',h'⟩))→
  kz env Co ⟨σ,h⟩ Q:=by
 intro l
 induction l with
 |nil=>intro m σ h ta tb _ _ _ k;exact absurd rfl k.ne
 |cons x l ih=>
  intro m σ h ta tb ho h2 h3 ka kb l7 m7 ll ml hP okm wfm g2 g3 hQ;refine aC fun bb hbb=> ?_
  have la:=lM h2
  have lb:=lM h3
  have la0:bg h false 1 (.ptr i2 0 0)=some ⟨.int .i64 ta.kind,h,.read⟩:=by
   cases ta with
   |mk k i s c nf ns af ar=>exact eK h2
  have lb0:bg h false 1 (.ptr i3 0 0)=some ⟨.int .i64 tb.kind,h,.read⟩:=by
   cases tb with
   |mk k i s c nf ns af ar=>exact eK h3
  by_cases c1:ta.kind=7
  case neg=>
   have z1:(ta.kind==7)=false:=by simpa using c1
   simp only[Co,R0,aw,reduceIte,Nat.reduceEqDiff,g2,au,baf,la0,z1,aL]
   exact(hQ _ h).2 ta tb (by simp only[aa,reduceIte,Nat.reduceEqDiff,g2]) (by simp only[aa,reduceIte,Nat.reduceEqDiff,g3]) h2 h3 (KT kinds ka kb (fun e=>c1 e.1) hP okm wfm)
  have z1:(ta.kind==7)=true:=by simpa using c1
  by_cases c2:tb.kind=7
  case neg=>
   have z2:(tb.kind==7)=false:=by simpa using c2
   simp only[Co,R0,aw,reduceIte,Nat.reduceEqDiff,g2,g3,au,baf,la0,lb0,z1,z2,aL]
   exact(hQ _ h).2 ta tb (by simp only[aa,reduceIte,Nat.reduceEqDiff,g2]) (by simp only[aa,reduceIte,Nat.reduceEqDiff,g3]) h2 h3 (KT kinds ka kb (fun e=>c2 e.2) hP okm wfm)
  have z2:(tb.kind==7)=true:=by simpa using c2
  cases m with
  |nil=>exact absurd rfl kb.ne
  |cons y m=>
   have hl:l≠[]:=by
    cases ka with
    |list _ _ _ _ _ _ _ h=>intro e;subst e;simp at h
    |last _ h=>exact absurd c1 h
   have hm:m≠[]:=by
    cases kb with
    |list _ _ _ _ _ _ _ h=>intro e;subst e;simp at h
    |last _ h=>exact absurd c2 h
   have e7:∀(x:Tm) (l:List Tm),l≠[]→cf (x::l)=cf l:=by
    intro x l hl;cases l with
    |nil=>exact absurd rfl hl
    |cons y l=>rfl
   have l7' :cf l=true:=by rw[←e7 x l hl];exact l7
   have m7' :cf m=true:=by rw[←e7 y m hm];exact m7
   simp only[bav]at ll ml
   obtain⟨ta',wra,ka'⟩:=EL ka hl (by omega) l7' h
   obtain⟨hA,eA⟩:∃hA,hA=h.cD i2 0 (tc ta'):=⟨_,rfl⟩
   have hoA:an hA:=by rw[eA];exact ho.cD (cJ.1 h2) _ _
   have hA2:hA.at_ i2 0=some (tc ta'):=by rw[eA];exact bD
   have hA3:hA.at_ i3 0=some (tc tb):=by rw[eA,cw (fun e=>hne e.symm)];exact h3
   obtain⟨tb',wrb,kb'⟩:=EL kb hm (by omega) m7' hA
   obtain⟨hB,eB⟩:∃hB,hB=hA.cD i3 0 (tc tb'):=⟨_,rfl⟩
   have hoB:an hB:=by rw[eB];exact hoA.cD (cJ.1 hA3) _ _
   have hB3:hB.at_ i3 0=some (tc tb'):=by rw[eB];exact bD
   have hB2:hB.at_ i2 0=some (tc ta'):=by rw[eB,cw hne];exact hA2
   have sa:bC h 6 (.ptr i2 0 0) (.agg (tc ta'))=some ⟨.undef,hA,.write⟩:=by
    rw[eA];cases ta with
    |mk k i s c nf ns af ar=>cases ta' with
     |mk k' i' s' c' nf' ns' af' ar' =>exact st6 h2
   have lbA:=lM hA3
   have sb:bC hA 6 (.ptr i3 0 0) (.agg (tc tb'))=some ⟨.undef,hB,.write⟩:=by
    rw[eB];cases tb with
    |mk k i s c nf ns af ar=>cases tb' with
     |mk k' i' s' c' nf' ns' af' ar' =>exact st6 hA3
   have la5:∃fa,bg h false 1 (.ptr i2 0 5)=some ⟨aM fa (x::l).length (bq (x::l)),h,.read⟩:=by
    cases ka with
    |list i s c nf ns af _ _=>exact⟨af,dZ h2⟩
    |last _ h=>exact absurd c1 h
   have lb5:∃fb,bg h false 1 (.ptr i3 0 5)=some ⟨aM fb (y::m).length (bq (y::m)),h,.read⟩:=by
    cases kb with
    |list i s c nf ns af _ _=>exact⟨af,dZ h3⟩
    |last _ h=>exact absurd c2 h
   obtain⟨fa,la5⟩:=la5
   obtain⟨fb,lb5⟩:=lb5
   have xa:aZ 6 (aM fa (x::l).length (bq (x::l))) (.int .i64 0)=some (.fp (bq (x::l))):=by have:=fI (f:=fa) (l:=x::l) (i:=0) (by simp);simpa using this
   have xb:aZ 6 (aM fb (y::m).length (bq (y::m))) (.int .i64 0)=some (.fp (bq (y::m))):=by have:=fI (f:=fb) (l:=y::m) (i:=0) (by simp);simpa using this
   have lxa:∀h,bg h true 6 (.fp (bq (x::l)))=some ⟨.agg (tc x),h,.none⟩:=fun h=>by have:=fK (l:=x::l) (i:=0) (by simp) h;simpa using this
   have lxb:∀h,bg h true 6 (.fp (bq (y::m)))=some ⟨.agg (tc y),h,.none⟩:=fun h=>by have:=fK (l:=y::m) (i:=0) (by simp) h;simpa using this
   have wo:=hP x (by simp) y (okm.get (by simp)) (wfm.get (by simp))
   have l0:¬l.length=0:=fun e=>hl (bay.1 e)
   have m0:¬m.length=0:=fun e=>hm (bay.1 e)
   simp only[Co,R0,aw,reduceIte,Nat.reduceEqDiff,g2,g3,au,baf,la0,lb0,z1,z2,aL]
   refine aB ?_
   by_cases c3:bV x y=0
   ·have z3:(bV x y !=0)=false:=by simpa using c3
    have eo:gF (x::l) (y::m)=gF l m:=by rw[gF,if_neg l0,if_neg m0,if_neg (by omega)]
    rw[eo]at hQ
    simp only[aw,reduceIte,Nat.reduceEqDiff,k3,Y2,Y3,afL,afM,g2,g3,au,baf,la5,lb5,xa,xb,lxa,lxb,ai (wo _),z3,la,ai wra,sa,lbA,ai wrb,sb]
    refine⟨rfl,?_⟩
    subst hbb;refine ih m _ hB ta' tb' hoB hB2 hB3 ka' kb' l7' m7' (by omega) (by omega) (fun t x=>hP t (by simp[x])) okm.2 wfm.2 ?_ ?_ hQ
    ·simp only[aa,reduceIte,Nat.reduceEqDiff,g2]
    ·simp only[aa,reduceIte,Nat.reduceEqDiff,g3]
   ·have z3:(bV x y !=0)=true:=by simpa using c3
    have eo:gF (x::l) (y::m)=bV x y:=by rw[gF,if_neg l0,if_neg m0,if_pos c3]
    rw[eo]at hQ
    simp only[aw,reduceIte,Nat.reduceEqDiff,k3,Y2,Y3,afK,g2,g3,au,baf,la5,lb5,xa,xb,lxa,lxb,ai (wo _),z3]
    refine⟨rfl,?_⟩
    exact(hQ _ h).1 (bV x y) (by simp only[aa,reduceIte,Nat.reduceEqDiff]) rfl
theorem KV (kinds:Ii) {a b:Tm} {l m:List Tm} (ka:LT a l) (kb:LT b m) (l7:cf l=true) (m7:cf m=true) (ll:l.length<9223372036854775807) (ml:m.length<9223372036854775807) (hP:∀t,t∈l→rT t) (okm:gW m) (wfm:EI m) (h:Heap):WC env 72 [.agg (tc a),.agg (tc b)] h (fun o=>o=.ret ⟨.int .i64 (gF l m),h,.none⟩):=by
 refine ad rfl rfl rfl (by simp only[bdk,az]) ?_
 obtain⟨i2,ei2⟩:∃i2,i2=Heap.empty.next:=⟨_,rfl⟩
 obtain⟨h1,eh1⟩:∃h1,h1=Heap.empty.new (tc a):=⟨_,rfl⟩
 have ho1:an h1:=by rw[eh1];exact an.empty.new _
 have a1:h1.at_ i2 0=some (tc a):=by rw[eh1,ei2];exact aY _
 obtain⟨i3,ei3⟩:∃i3,i3=h1.next:=⟨_,rfl⟩
 obtain⟨h2,eh2⟩:∃h2,h2=h1.new (tc b):=⟨_,rfl⟩
 have ho2:an h2:=by rw[eh2];exact ho1.new _
 have a2:h2.at_ i2 0=some (tc a):=by rw[eh2];exact(cz ho1 _).2 _ _ _ a1
 have b2:h2.at_ i3 0=some (tc b):=by rw[eh2,ei3];exact aY _
 have hne:i2≠i3:=by have:=ho1.lt a1;omega
 have y1:(AV.agg (tc a)).row=some (tc a):=rfl
 have y2:(tc a).length=6:=aR a
 have y3:(AV.agg (tc b)).row=some (tc b):=rfl
 have y4:(tc b).length=6:=aR b
 simp only[a72,afJ,ah.bbw,aw,reduceIte,Nat.reduceEqDiff,y1,y2,y3,y4,←eh1,←eh2,←ei2,←ei3]
 refine KU kinds hne l m _ h2 a b ho2 a2 b2 ka kb l7 m7 ll ml hP okm wfm ?_ ?_ fun σ' h' =>⟨fun x g e=> ?_,fun ta tb g2 g3 q2 q3 w=> ?_⟩
 ·simp only[aa,reduceIte,Nat.reduceEqDiff]
 ·simp only[aa,reduceIte,Nat.reduceEqDiff]
 ·simp only[aw]
  exact fu g (by rw[e])
 ·have la:=lM q2
  have lb:=lM q3
  simp only[afN,aw,reduceIte,Nat.reduceEqDiff,g2,g3,la,lb,ai (w _)]
  exact fu (by simp only[aa,reduceIte,Nat.reduceEqDiff]) rfl
end Go.Bf
namespace Go.Bf
open Go.AM
theorem oW {x:Int} (hx:KW x) (h:Heap):di h (.int .i64) (.int .u32 x)=some ⟨.int .i64 x,h,.none⟩:=by
 obtain⟨h0,h1⟩:=hx
 obtain⟨n,rfl⟩:∃n:Nat,x=n:=⟨x.toNat,by omega⟩
 show some (⟨.int .i64 (IntKind.wrap .i64 (n:Int)),h,.none⟩:cB)=_
 rw[aX (e:=(n:Int)) rfl (by omega)]
section
variable {h : Heap} {i2 i3 : Nat} {nf nf' : Option Bool} {ns ns' : List Int}
  (l4 : bg h false 1 (.ptr i2 0 4) = some ⟨aM nf ns.length (bN ns), h,.read⟩) (l4' : bg h false 1 (.ptr i3 0 4) = some ⟨aM nf' ns'.length (bN ns'), h,.read⟩)
include l4 l4'
theorem pZ (u1:∀x,x∈ns→KW x) (u2:∀x,x∈ns' →KW x) (hlen:ns.length=ns'.length) (hb:ns.length<9223372036854775808) {Q:aU→St→Prop}:
  ∀(f i:Nat) (σ:ah) (c:Int),ns.length-i<f→i≤ns.length→σ.get 2=.ptr i2 0 0→σ.get 3=.ptr i3 0 0→σ.get 5=.int .i64 c→σ.get 6=.int .i64 i→
  (∀σ',σ'.get 5=.int .i64 (if c≠0 then c else gq (ns.drop i) (ns'.drop i))→Q (.exit 1) ⟨σ',h⟩)→kz env wz ⟨σ,h⟩ Q:=by
 intro f
 induction f with
 |zero=>intro i σ c h1;omega
 |succ f ih=>
  intro i σ c hf hi g2 g3 g5 g6 hQ;refine aC fun b hb=> ?_
  have nl:∀h,aN false h (aM nf ns.length (bN ns))=some ⟨.int .i64 ns.length,h,.none⟩:=fun h=>bX _ _ _ (fun _=>trivial) h
  by_cases c1:i<ns.length
  case neg=>
   have z0:((i:Int)<(ns.length:Int))=False:=eq_false (by omega)
   simp only[wz,Hi,aw,reduceIte,Nat.reduceEqDiff,g2,g6,au,baf,l4,nl,z0,aL]
   refine hQ _ ?_
   rw[bao (show ns.length≤i by omega),bao (show ns'.length≤i by omega),gq]
   simp only[aa,reduceIte,Nat.reduceEqDiff,g5]
   split
   ·rfl
   ·rename_i hc;rw[Decidable.not_not.1 hc]
  have z0:((i:Int)<(ns.length:Int))=True:=eq_true (by omega)
  by_cases c2:c=0
  case neg=>
   have z1:(c==0)=false:=by simpa using c2
   rw[if_pos c2]at hQ
   simp only[wz,Hi,aw,reduceIte,Nat.reduceEqDiff,g2,g5,g6,au,baf,l4,nl,z0,z1,aL]
   exact hQ _ (by simp only[aa,reduceIte,Nat.reduceEqDiff,g5])
  have z1:(c==0)=true:=by simpa using c2
  have c3:i<ns'.length:=by omega
  have zi:IntKind.wrap .i64 ((i:Int)+1)=((i+1:Nat):Int):=aX (by omega) (by omega)
  have lx:=oT (f:=nf) c1
  have ld:=sK c1 h
  have lx2:=oT (f:=nf') c3
  have ld2:=sK c3 h
  have v1:=oW (u1 _ (bas c1)) h
  have v2:=oW (u2 _ (bas c3)) h
  have hd1:ns.drop i=ns[i]::ns.drop (i+1):=bat c1
  have hd2:ns'.drop i=ns'[i]::ns'.drop (i+1):=bat c3
  rw[if_neg (by omega),hd1,hd2,gq]at hQ
  simp only[wz,Hi,aw,reduceIte,Nat.reduceEqDiff,g2,g5,g6,au,baf,l4,nl,z0,z1,aL]
  refine aB ?_
  simp only[aw,reduceIte,Nat.reduceEqDiff,k3,Yi,Yj,g2,g3,g6,au,baf,l4,l4',lx,ld,lx2,ld2,v1,v2,ai (ly _ _ _),zi]
  refine⟨rfl,?_⟩
  subst hb;refine ih (i+1) _ (cP ns[i] ns'[i]) (by omega) (by omega) ?_ ?_ ?_ ?_ hQ
  ·simp only[aa,reduceIte,Nat.reduceEqDiff,g2]
  ·simp only[aa,reduceIte,Nat.reduceEqDiff,g3]
  ·simp only[aa,reduceIte,Nat.reduceEqDiff]
  ·simp only[aa,reduceIte,Nat.reduceEqDiff]
end
section
variable {h : Heap} {i2 i3 : Nat} {af af' : Option Bool} {ar ar' : List Tm}
  (l5 : bg h false 1 (.ptr i2 0 5) = some ⟨aM af ar.length (bq ar), h,.read⟩) (l5' : bg h false 1 (.ptr i3 0 5) = some ⟨aM af' ar'.length (bq ar'), h,.read⟩)
include l5 l5'
theorem PE (hP:∀t,t∈ar→rT t) (okm:gW ar') (wfm:EI ar') (hb:ar.length<9223372036854775808) {Q:aU→St→Prop}:
  ∀(f i:Nat) (σ:ah) (c:Int),(c=0→ar.length=ar'.length)→ar.length-i<f→i≤ar.length→σ.get 2=.ptr i2 0 0→σ.get 3=.ptr i3 0 0→σ.get 7=.int .i64 c→σ.get 8=.int .i64 i→
  (∀σ',σ'.get 7=.int .i64 (if c≠0 then c else jH (ar.drop i) (ar'.drop i))→Q (.exit 3) ⟨σ',h⟩)→kz env wA ⟨σ,h⟩ Q:=by
 intro f
 induction f with
 |zero=>intro i σ c _ h1;omega
 |succ f ih=>
  intro i σ c hlen hf hi g2 g3 g7 g8 hQ;refine aC fun b hb=> ?_
  have nl:∀h,aN false h (aM af ar.length (bq ar))=some ⟨.int .i64 ar.length,h,.none⟩:=fun h=>bX _ _ _ (fun _=>trivial) h
  by_cases c1:i<ar.length
  case neg=>
   have z0:((i:Int)<(ar.length:Int))=False:=eq_false (by omega)
   simp only[wA,Hk,aw,reduceIte,Nat.reduceEqDiff,g2,g8,au,baf,l5,nl,z0,aL]
   refine hQ _ ?_
   simp only[aa,reduceIte,Nat.reduceEqDiff,g7]
   split
   ·rfl
   ·rename_i hc
    have hc:=Decidable.not_not.1 hc
    have:=hlen hc
    rw[bao (show ar.length≤i by omega),bao (show ar'.length≤i by omega),jH,hc]
  have z0:((i:Int)<(ar.length:Int))=True:=eq_true (by omega)
  by_cases c2:c=0
  case neg=>
   have z1:(c==0)=false:=by simpa using c2
   rw[if_pos c2]at hQ
   simp only[wA,Hk,aw,reduceIte,Nat.reduceEqDiff,g2,g7,g8,au,baf,l5,nl,z0,z1,aL]
   exact hQ _ (by simp only[aa,reduceIte,Nat.reduceEqDiff,g7])
  have z1:(c==0)=true:=by simpa using c2
  have hl:=hlen c2
  have c3:i<ar'.length:=by omega
  have zi:IntKind.wrap .i64 ((i:Int)+1)=((i+1:Nat):Int):=aX (by omega) (by omega)
  have lx:=fI (f:=af) c1
  have ld:=fK c1 h
  have lx2:=fI (f:=af') c3
  have ld2:=fK c3 h
  have hd1:ar.drop i=ar[i]::ar.drop (i+1):=bat c1
  have hd2:ar'.drop i=ar'[i]::ar'.drop (i+1):=bat c3
  have wo:=hP ar[i] (bas c1) ar'[i] (okm.get (bas c3)) (wfm.get (bas c3))
  rw[if_neg (by omega),hd1,hd2,jH]at hQ
  simp only[wA,Hk,aw,reduceIte,Nat.reduceEqDiff,g2,g7,g8,au,baf,l5,nl,z0,z1,aL]
  refine aB ?_
  simp only[aw,reduceIte,Nat.reduceEqDiff,k3,Ym,Yn,g2,g3,g8,au,baf,l5,l5',lx,ld,lx2,ld2,ai (wo _),zi]
  refine⟨rfl,?_⟩
  subst hb;refine ih (i+1) _ (bV ar[i] ar'[i]) (fun _=>hl) (by omega) (by omega) ?_ ?_ ?_ ?_ hQ
  ·simp only[aa,reduceIte,Nat.reduceEqDiff,g2]
  ·simp only[aa,reduceIte,Nat.reduceEqDiff,g3]
  ·simp only[aa,reduceIte,Nat.reduceEqDiff]
  ·simp only[aa,reduceIte,Nat.reduceEqDiff]
end
theorem CK:Ii:=by
 intro a b hk h
 rcases a with⟨k,i,s,c,nf,ns,af,ar⟩
 rcases b with⟨k',i',s',c',nf',ns',af',ar'⟩
 have hk:k≠k' :=hk
 refine ad rfl rfl rfl (by simp only[bdk,az]) ?_
 obtain⟨ca,ea⟩:∃ca,ca=tc (.mk k i s c nf ns af ar):=⟨_,rfl⟩
 obtain⟨cb,eb⟩:∃cb,cb=tc (.mk k' i' s' c' nf' ns' af' ar'):=⟨_,rfl⟩
 rw[←ea,←eb];obtain⟨nv,bbx⟩:∃nv,nv=aM nf ns.length (bN ns):=⟨_,rfl⟩
 obtain⟨av,eav⟩:∃av,av=aM af ar.length (bq ar):=⟨_,rfl⟩
 obtain⟨nv2,bby⟩:∃nv,nv=aM nf' ns'.length (bN ns'):=⟨_,rfl⟩
 obtain⟨av2,u5⟩:∃av,av=aM af' ar'.length (bq ar'):=⟨_,rfl⟩
 have ea' :ca=[.int .i64 k,.int .i64 i,.str s,.int .u32 c,nv,av]:=by rw[ea,bbx,eav];rfl
 have eb' :cb=[.int .i64 k',.int .i64 i',.str s',.int .u32 c',nv2,av2]:=by rw[eb,bby,u5];rfl
 obtain⟨h1,eh1⟩:∃h1,h1=Heap.empty.new ca:=⟨_,rfl⟩
 have ho1:an h1:=by rw[eh1];exact an.empty.new _
 have a1' :h1.at_ Heap.empty.next 0=some ca:=by rw[eh1];exact aY _
 obtain⟨h2,eh2⟩:∃h2,h2=h1.new cb:=⟨_,rfl⟩
 have a2' :h2.at_ Heap.empty.next 0=some ca:=by rw[eh2];exact(cz ho1 _).2 _ _ _ a1'
 have b2' :h2.at_ h1.next 0=some cb:=by rw[eh2];exact aY _
 have y1:(AV.agg ca).row=some ca:=rfl
 have y2:ca.length=6:=by rw[ea'];rfl
 have y3:(AV.agg cb).row=some cb:=rfl
 have y4:cb.length=6:=by rw[eb'];rfl
 rw[ea']at a2'
 rw[eb']at b2'
 have p0:=eK a2'
 have p1:=gj a2'
 have p2:=gk a2'
 have p3:=iz a2'
 have p4:=eU a2'
 have p5:=dZ a2'
 have q0:=eK b2'
 have q1:=gj b2'
 have q2:=gk b2'
 have q3:=iz b2'
 have q4:=eU b2'
 have q5:=dZ b2'
 have z:(k !=k')=true:=by simpa using hk
 simp only[a40,rG,rH,afh,ah.bbw,aw,reduceIte,Nat.reduceEqDiff,y1,y2,y3,y4,←eh1,←eh2,au,baf,p0,q0,z,ai (ly _ _ _)]
 exact fu (x:=cP k k') (by simp only[aa,reduceIte,Nat.reduceEqDiff]) rfl
theorem adg (i:Int) (s:List UInt8) (c:Int) (nf:Option Bool) (ns:List Int) (af:Option Bool) (ar:List Tm) (i' :Int) (s' :List UInt8) (c' :Int) (nf' :Option Bool) (ns' :List Int) (af' :Option Bool) (ar' :List Tm) (h:Heap):WC env 40 [.agg (tc (.mk 1 i s c nf ns af ar)),.agg (tc (.mk 1 i' s' c' nf' ns' af' ar'))] h (fun o=>o=.ret ⟨.int .i64 (bV (.mk 1 i s c nf ns af ar) (.mk 1 i' s' c' nf' ns' af' ar')),h,.none⟩):=by
 refine ad rfl rfl rfl (by simp only[bdk,az]) ?_
 obtain⟨ca,ea⟩:∃ca,ca=tc (.mk 1 i s c nf ns af ar):=⟨_,rfl⟩
 obtain⟨cb,eb⟩:∃cb,cb=tc (.mk 1 i' s' c' nf' ns' af' ar'):=⟨_,rfl⟩
 rw[←ea,←eb];obtain⟨nv,bbx⟩:∃nv,nv=aM nf ns.length (bN ns):=⟨_,rfl⟩
 obtain⟨av,eav⟩:∃av,av=aM af ar.length (bq ar):=⟨_,rfl⟩
 obtain⟨nv2,bby⟩:∃nv,nv=aM nf' ns'.length (bN ns'):=⟨_,rfl⟩
 obtain⟨av2,u5⟩:∃av,av=aM af' ar'.length (bq ar'):=⟨_,rfl⟩
 have ea' :ca=[.int .i64 1,.int .i64 i,.str s,.int .u32 c,nv,av]:=by rw[ea,bbx,eav];rfl
 have eb' :cb=[.int .i64 1,.int .i64 i',.str s',.int .u32 c',nv2,av2]:=by rw[eb,bby,u5];rfl
 obtain⟨h1,eh1⟩:∃h1,h1=Heap.empty.new ca:=⟨_,rfl⟩
 have ho1:an h1:=by rw[eh1];exact an.empty.new _
 have a1' :h1.at_ Heap.empty.next 0=some ca:=by rw[eh1];exact aY _
 obtain⟨h2,eh2⟩:∃h2,h2=h1.new cb:=⟨_,rfl⟩
 have a2' :h2.at_ Heap.empty.next 0=some ca:=by rw[eh2];exact(cz ho1 _).2 _ _ _ a1'
 have b2' :h2.at_ h1.next 0=some cb:=by rw[eh2];exact aY _
 have y1:(AV.agg ca).row=some ca:=rfl
 have y2:ca.length=6:=by rw[ea'];rfl
 have y3:(AV.agg cb).row=some cb:=rfl
 have y4:cb.length=6:=by rw[eb'];rfl
 rw[ea']at a2'
 rw[eb']at b2'
 have p0:=eK a2'
 have p1:=gj a2'
 have p2:=gk a2'
 have p3:=iz a2'
 have p4:=eU a2'
 have p5:=dZ a2'
 have q0:=eK b2'
 have q1:=gj b2'
 have q2:=gk b2'
 have q3:=iz b2'
 have q4:=eU b2'
 have q5:=dZ b2'
 have e:bV (.mk 1 i s c nf ns af ar) (.mk 1 i' s' c' nf' ns' af' ar')=cP i i' :=by simp[bV]
 simp only[a40,rG,rH,tn,tp,ah.bbw,aw,reduceIte,Nat.reduceEqDiff,y1,y2,y3,y4,←eh1,←eh2,au,baf,Int.reduceBEq,Int.reduceBNe,p0,q0,afi,p1,q1,ai (ly _ _ _)]
 exact fu (by simp only[aa,reduceIte,Nat.reduceEqDiff];rw[e]) rfl
theorem adh (i:Int) (s:List UInt8) (c:Int) (nf:Option Bool) (ns:List Int) (af:Option Bool) (ar:List Tm) (i' :Int) (s' :List UInt8) (c' :Int) (nf' :Option Bool) (ns' :List Int) (af' :Option Bool) (ar' :List Tm) (hs:s.length<9223372036854775808) (hs' :s'.length<9223372036854775808) (h:Heap):WC env 40 [.agg (tc (.mk 2 i s c nf ns af ar)),.agg (tc (.mk 2 i' s' c' nf' ns' af' ar'))] h (fun o=>o=.ret ⟨.int .i64 (bV (.mk 2 i s c nf ns af ar) (.mk 2 i' s' c' nf' ns' af' ar')),h,.none⟩):=by
 refine ad rfl rfl rfl (by simp only[bdk,az]) ?_
 obtain⟨ca,ea⟩:∃ca,ca=tc (.mk 2 i s c nf ns af ar):=⟨_,rfl⟩
 obtain⟨cb,eb⟩:∃cb,cb=tc (.mk 2 i' s' c' nf' ns' af' ar'):=⟨_,rfl⟩
 rw[←ea,←eb];obtain⟨nv,bbx⟩:∃nv,nv=aM nf ns.length (bN ns):=⟨_,rfl⟩
 obtain⟨av,eav⟩:∃av,av=aM af ar.length (bq ar):=⟨_,rfl⟩
 obtain⟨nv2,bby⟩:∃nv,nv=aM nf' ns'.length (bN ns'):=⟨_,rfl⟩
 obtain⟨av2,u5⟩:∃av,av=aM af' ar'.length (bq ar'):=⟨_,rfl⟩
 have ea' :ca=[.int .i64 2,.int .i64 i,.str s,.int .u32 c,nv,av]:=by rw[ea,bbx,eav];rfl
 have eb' :cb=[.int .i64 2,.int .i64 i',.str s',.int .u32 c',nv2,av2]:=by rw[eb,bby,u5];rfl
 obtain⟨h1,eh1⟩:∃h1,h1=Heap.empty.new ca:=⟨_,rfl⟩
 have ho1:an h1:=by rw[eh1];exact an.empty.new _
 have a1' :h1.at_ Heap.empty.next 0=some ca:=by rw[eh1];exact aY _
 obtain⟨h2,eh2⟩:∃h2,h2=h1.new cb:=⟨_,rfl⟩
 have a2' :h2.at_ Heap.empty.next 0=some ca:=by rw[eh2];exact(cz ho1 _).2 _ _ _ a1'
 have b2' :h2.at_ h1.next 0=some cb:=by rw[eh2];exact aY _
 have y1:(AV.agg ca).row=some ca:=rfl
 have y2:ca.length=6:=by rw[ea'];rfl
 have y3:(AV.agg cb).row=some cb:=rfl
 have y4:cb.length=6:=by rw[eb'];rfl
 rw[ea']at a2'
 rw[eb']at b2'
 have p0:=eK a2'
 have p1:=gj a2'
 have p2:=gk a2'
 have p3:=iz a2'
 have p4:=eU a2'
 have p5:=dZ a2'
 have q0:=eK b2'
 have q1:=gj b2'
 have q2:=gk b2'
 have q3:=iz b2'
 have q4:=eU b2'
 have q5:=dZ b2'
 have e:bV (.mk 2 i s c nf ns af ar) (.mk 2 i' s' c' nf' ns' af' ar')=iy s s' :=by simp[bV]
 simp only[a40,rG,rH,tn,tp,wv,ah.bbw,aw,reduceIte,Nat.reduceEqDiff,y1,y2,y3,y4,←eh1,←eh2,au,baf,Int.reduceBEq,Int.reduceBNe,p0,q0,afj,p2,q2,ai (oV _ _ hs hs' _)]
 exact fu (by simp only[aa,reduceIte,Nat.reduceEqDiff];rw[e]) rfl
theorem adi (i:Int) (s:List UInt8) (c:Int) (nf:Option Bool) (ns:List Int) (af:Option Bool) (ar:List Tm) (i' :Int) (s' :List UInt8) (c' :Int) (nf' :Option Bool) (ns' :List Int) (af' :Option Bool) (ar' :List Tm) (hs:s.length<9223372036854775808) (hs' :s'.length<9223372036854775808) (uc:KW c) (uc' :KW c') (u1:∀x,x∈ns→KW x) (u2:∀x,x∈ns' →KW x) (hlen:ns.length=ns'.length) (hl:ns.length<9223372036854775808) (h:Heap):WC env 40 [.agg (tc (.mk 3 i s c nf ns af ar)),.agg (tc (.mk 3 i' s' c' nf' ns' af' ar'))] h (fun o=>o=.ret ⟨.int .i64 (bV (.mk 3 i s c nf ns af ar) (.mk 3 i' s' c' nf' ns' af' ar')),h,.none⟩):=by
 refine ad rfl rfl rfl (by simp only[bdk,az]) ?_
 obtain⟨ca,ea⟩:∃ca,ca=tc (.mk 3 i s c nf ns af ar):=⟨_,rfl⟩
 obtain⟨cb,eb⟩:∃cb,cb=tc (.mk 3 i' s' c' nf' ns' af' ar'):=⟨_,rfl⟩
 rw[←ea,←eb];obtain⟨nv,bbx⟩:∃nv,nv=aM nf ns.length (bN ns):=⟨_,rfl⟩
 obtain⟨av,eav⟩:∃av,av=aM af ar.length (bq ar):=⟨_,rfl⟩
 obtain⟨nv2,bby⟩:∃nv,nv=aM nf' ns'.length (bN ns'):=⟨_,rfl⟩
 obtain⟨av2,u5⟩:∃av,av=aM af' ar'.length (bq ar'):=⟨_,rfl⟩
 have ea' :ca=[.int .i64 3,.int .i64 i,.str s,.int .u32 c,nv,av]:=by rw[ea,bbx,eav];rfl
 have eb' :cb=[.int .i64 3,.int .i64 i',.str s',.int .u32 c',nv2,av2]:=by rw[eb,bby,u5];rfl
 obtain⟨h1,eh1⟩:∃h1,h1=Heap.empty.new ca:=⟨_,rfl⟩
 have ho1:an h1:=by rw[eh1];exact an.empty.new _
 have a1' :h1.at_ Heap.empty.next 0=some ca:=by rw[eh1];exact aY _
 obtain⟨h2,eh2⟩:∃h2,h2=h1.new cb:=⟨_,rfl⟩
 have a2' :h2.at_ Heap.empty.next 0=some ca:=by rw[eh2];exact(cz ho1 _).2 _ _ _ a1'
 have b2' :h2.at_ h1.next 0=some cb:=by rw[eh2];exact aY _
 have y1:(AV.agg ca).row=some ca:=rfl
 have y2:ca.length=6:=by rw[ea'];rfl
 have y3:(AV.agg cb).row=some cb:=rfl
 have y4:cb.length=6:=by rw[eb'];rfl
 rw[ea']at a2'
 rw[eb']at b2'
 have p0:=eK a2'
 have p1:=gj a2'
 have p2:=gk a2'
 have p3:=iz a2'
 have p4:=eU a2'
 have p5:=dZ a2'
 have q0:=eK b2'
 have q1:=gj b2'
 have q2:=gk b2'
 have q3:=iz b2'
 have q4:=eU b2'
 have q5:=dZ b2'
 have e:bV (.mk 3 i s c nf ns af ar) (.mk 3 i' s' c' nf' ns' af' ar')=yw [iy s s',cP c c',gq ns ns']:=by simp[bV]
 rw[bbx]at p4
 rw[bby]at q4
 have v1:=oW uc h2
 have v2:=oW uc' h2
 by_cases c1:iy s s' =0
 ·have z1:(iy s s' ==0)=true:=by simpa using c1
  have eo:yw [iy s s',cP c c',gq ns ns']=(if cP c c' ≠0 then cP c c' else gq ns ns'):=by
   by_cases d1:cP c c' =0<;>by_cases d2:gq ns ns' =0<;>simp[yw,c1,d1,d2]
  simp only[a40,rG,rH,tn,tp,wv,yz,ah.bbw,aw,reduceIte,Nat.reduceEqDiff,y1,y2,y3,y4,←eh1,←eh2,au,baf,Int.reduceBEq,Int.reduceBNe,p0,q0,Cd,Ce,NO,Cf,p2,q2,ai (oV _ _ hs hs' _),z1,p3,q3,v1,v2,ai (ly _ _ _)]
  refine pZ p4 q4 u1 u2 hlen hl (ns.length+1) 0 _ (cP c c') (by omega) (by omega) ?_ ?_ ?_ ?_ fun σ' g=> ?_
  ·simp only[aa,reduceIte,Nat.reduceEqDiff]
  ·simp only[aa,reduceIte,Nat.reduceEqDiff]
  ·simp only[aa,reduceIte,Nat.reduceEqDiff]
  ·simp only[aa,reduceIte,Nat.reduceEqDiff];rfl
  rw[bah,bah]at g
  simp only[Cg,aw,reduceIte,Nat.reduceEqDiff,g]
  exact fu (by simp only[aa,reduceIte,Nat.reduceEqDiff];rw[e,eo]) rfl
 ·have z1:(iy s s' ==0)=false:=by simpa using c1
  simp only[a40,rG,rH,tn,tp,wv,yz,ah.bbw,aw,reduceIte,Nat.reduceEqDiff,y1,y2,y3,y4,←eh1,←eh2,au,baf,Int.reduceBEq,Int.reduceBNe,p0,q0,Cd,Ce,Cf,p2,q2,ai (oV _ _ hs hs' _),z1]
  refine pZ p4 q4 u1 u2 hlen hl (ns.length+1) 0 _ (iy s s') (by omega) (by omega) ?_ ?_ ?_ ?_ fun σ' g=> ?_
  ·simp only[aa,reduceIte,Nat.reduceEqDiff]
  ·simp only[aa,reduceIte,Nat.reduceEqDiff]
  ·simp only[aa,reduceIte,Nat.reduceEqDiff]
  ·simp only[aa,reduceIte,Nat.reduceEqDiff];rfl
  rw[if_pos c1]at g
  simp only[Cg,aw,reduceIte,Nat.reduceEqDiff,g]
  exact fu (by simp only[aa,reduceIte,Nat.reduceEqDiff];rw[e,yw,if_pos c1]) rfl
theorem adj (i:Int) (s:List UInt8) (c:Int) (nf:Option Bool) (ns:List Int) (af:Option Bool) (ar:List Tm) (i' :Int) (s' :List UInt8) (c' :Int) (nf' :Option Bool) (ns' :List Int) (af' :Option Bool) (ar' :List Tm) (hs:s.length<9223372036854775808) (hs' :s'.length<9223372036854775808) (uc:KW c) (uc' :KW c') (u1:∀x,x∈ns→KW x) (u2:∀x,x∈ns' →KW x) (hlen:ns.length=ns'.length) (hl:ns.length<9223372036854775808) (h:Heap):WC env 40 [.agg (tc (.mk 4 i s c nf ns af ar)),.agg (tc (.mk 4 i' s' c' nf' ns' af' ar'))] h (fun o=>o=.ret ⟨.int .i64 (bV (.mk 4 i s c nf ns af ar) (.mk 4 i' s' c' nf' ns' af' ar')),h,.none⟩):=by
 refine ad rfl rfl rfl (by simp only[bdk,az]) ?_
 obtain⟨ca,ea⟩:∃ca,ca=tc (.mk 4 i s c nf ns af ar):=⟨_,rfl⟩
 obtain⟨cb,eb⟩:∃cb,cb=tc (.mk 4 i' s' c' nf' ns' af' ar'):=⟨_,rfl⟩
 rw[←ea,←eb];obtain⟨nv,bbx⟩:∃nv,nv=aM nf ns.length (bN ns):=⟨_,rfl⟩
 obtain⟨av,eav⟩:∃av,av=aM af ar.length (bq ar):=⟨_,rfl⟩
 obtain⟨nv2,bby⟩:∃nv,nv=aM nf' ns'.length (bN ns'):=⟨_,rfl⟩
 obtain⟨av2,u5⟩:∃av,av=aM af' ar'.length (bq ar'):=⟨_,rfl⟩
 have ea' :ca=[.int .i64 4,.int .i64 i,.str s,.int .u32 c,nv,av]:=by rw[ea,bbx,eav];rfl
 have eb' :cb=[.int .i64 4,.int .i64 i',.str s',.int .u32 c',nv2,av2]:=by rw[eb,bby,u5];rfl
 obtain⟨h1,eh1⟩:∃h1,h1=Heap.empty.new ca:=⟨_,rfl⟩
 have ho1:an h1:=by rw[eh1];exact an.empty.new _
 have a1' :h1.at_ Heap.empty.next 0=some ca:=by rw[eh1];exact aY _
 obtain⟨h2,eh2⟩:∃h2,h2=h1.new cb:=⟨_,rfl⟩
 have a2' :h2.at_ Heap.empty.next 0=some ca:=by rw[eh2];exact(cz ho1 _).2 _ _ _ a1'
 have b2' :h2.at_ h1.next 0=some cb:=by rw[eh2];exact aY _
 have y1:(AV.agg ca).row=some ca:=rfl
 have y2:ca.length=6:=by rw[ea'];rfl
 have y3:(AV.agg cb).row=some cb:=rfl
 have y4:cb.length=6:=by rw[eb'];rfl
 rw[ea']at a2'
 rw[eb']at b2'
 have p0:=eK a2'
 have p1:=gj a2'
 have p2:=gk a2'
 have p3:=iz a2'
 have p4:=eU a2'
 have p5:=dZ a2'
 have q0:=eK b2'
 have q1:=gj b2'
 have q2:=gk b2'
 have q3:=iz b2'
 have q4:=eU b2'
 have q5:=dZ b2'
 have e:bV (.mk 4 i s c nf ns af ar) (.mk 4 i' s' c' nf' ns' af' ar')=yw [iy s s',cP c c',gq ns ns']:=by simp[bV]
 rw[bbx]at p4
 rw[bby]at q4
 have v1:=oW uc h2
 have v2:=oW uc' h2
 by_cases c1:iy s s' =0
 ·have z1:(iy s s' ==0)=true:=by simpa using c1
  have eo:yw [iy s s',cP c c',gq ns ns']=(if cP c c' ≠0 then cP c c' else gq ns ns'):=by
   by_cases d1:cP c c' =0<;>by_cases d2:gq ns ns' =0<;>simp[yw,c1,d1,d2]
  simp only[a40,rG,rH,tn,tp,wv,yz,EF,ah.bbw,aw,reduceIte,Nat.reduceEqDiff,y1,y2,y3,y4,←eh1,←eh2,au,baf,Int.reduceBEq,Int.reduceBNe,p0,q0,Cd,Ce,NO,Cf,p2,q2,ai (oV _ _ hs hs' _),z1,p3,q3,v1,v2,ai (ly _ _ _)]
  refine pZ p4 q4 u1 u2 hlen hl (ns.length+1) 0 _ (cP c c') (by omega) (by omega) ?_ ?_ ?_ ?_ fun σ' g=> ?_
  ·simp only[aa,reduceIte,Nat.reduceEqDiff]
  ·simp only[aa,reduceIte,Nat.reduceEqDiff]
  ·simp only[aa,reduceIte,Nat.reduceEqDiff]
  ·simp only[aa,reduceIte,Nat.reduceEqDiff];rfl
  rw[bah,bah]at g
  simp only[Cg,aw,reduceIte,Nat.reduceEqDiff,g]
  exact fu (by simp only[aa,reduceIte,Nat.reduceEqDiff];rw[e,eo]) rfl
 ·have z1:(iy s s' ==0)=false:=by simpa using c1
  simp only[a40,rG,rH,tn,tp,wv,yz,EF,ah.bbw,aw,reduceIte,Nat.reduceEqDiff,y1,y2,y3,y4,←eh1,←eh2,au,baf,Int.reduceBEq,Int.reduceBNe,p0,q0,Cd,Ce,Cf,p2,q2,ai (oV _ _ hs hs' _),z1]
  refine pZ p4 q4 u1 u2 hlen hl (ns.length+1) 0 _ (iy s s') (by omega) (by omega) ?_ ?_ ?_ ?_ fun σ' g=> ?_
  ·simp only[aa,reduceIte,Nat.reduceEqDiff]
  ·simp only[aa,reduceIte,Nat.reduceEqDiff]
  ·simp only[aa,reduceIte,Nat.reduceEqDiff]
  ·simp only[aa,reduceIte,Nat.reduceEqDiff];rfl
  rw[if_pos c1]at g
  simp only[Cg,aw,reduceIte,Nat.reduceEqDiff,g]
  exact fu (by simp only[aa,reduceIte,Nat.reduceEqDiff];rw[e,yw,if_pos c1]) rfl
theorem adk (i:Int) (s:List UInt8) (c:Int) (nf:Option Bool) (ns:List Int) (af:Option Bool) (ar:List Tm) (i' :Int) (s' :List UInt8) (c' :Int) (nf' :Option Bool) (ns' :List Int) (af' :Option Bool) (ar' :List Tm) (hP:∀t,t∈ar→rT t) (okm:gW ar') (wfm:EI ar') (hl:ar.length<9223372036854775808) (h:Heap):WC env 40 [.agg (tc (.mk 5 i s c nf ns af ar)),.agg (tc (.mk 5 i' s' c' nf' ns' af' ar'))] h (fun o=>o=.ret ⟨.int .i64 (bV (.mk 5 i s c nf ns af ar) (.mk 5 i' s' c' nf' ns' af' ar')),h,.none⟩):=by
 refine ad rfl rfl rfl (by simp only[bdk,az]) ?_
 obtain⟨ca,ea⟩:∃ca,ca=tc (.mk 5 i s c nf ns af ar):=⟨_,rfl⟩
 obtain⟨cb,eb⟩:∃cb,cb=tc (.mk 5 i' s' c' nf' ns' af' ar'):=⟨_,rfl⟩
 rw[←ea,←eb];obtain⟨nv,bbx⟩:∃nv,nv=aM nf ns.length (bN ns):=⟨_,rfl⟩
 obtain⟨av,eav⟩:∃av,av=aM af ar.length (bq ar):=⟨_,rfl⟩
 obtain⟨nv2,bby⟩:∃nv,nv=aM nf' ns'.length (bN ns'):=⟨_,rfl⟩
 obtain⟨av2,u5⟩:∃av,av=aM af' ar'.length (bq ar'):=⟨_,rfl⟩
 have ea' :ca=[.int .i64 5,.int .i64 i,.str s,.int .u32 c,nv,av]:=by rw[ea,bbx,eav];rfl
 have eb' :cb=[.int .i64 5,.int .i64 i',.str s',.int .u32 c',nv2,av2]:=by rw[eb,bby,u5];rfl
 obtain⟨h1,eh1⟩:∃h1,h1=Heap.empty.new ca:=⟨_,rfl⟩
 have ho1:an h1:=by rw[eh1];exact an.empty.new _
 have a1' :h1.at_ Heap.empty.next 0=some ca:=by rw[eh1];exact aY _
 obtain⟨h2,eh2⟩:∃h2,h2=h1.new cb:=⟨_,rfl⟩
 have a2' :h2.at_ Heap.empty.next 0=some ca:=by rw[eh2];exact(cz ho1 _).2 _ _ _ a1'
 have b2' :h2.at_ h1.next 0=some cb:=by rw[eh2];exact aY _
 have y1:(AV.agg ca).row=some ca:=rfl
 have y2:ca.length=6:=by rw[ea'];rfl
 have y3:(AV.agg cb).row=some cb:=rfl
 have y4:cb.length=6:=by rw[eb'];rfl
 rw[ea']at a2'
 rw[eb']at b2'
 have p0:=eK a2'
 have p1:=gj a2'
 have p2:=gk a2'
 have p3:=iz a2'
 have p4:=eU a2'
 have p5:=dZ a2'
 have q0:=eK b2'
 have q1:=gj b2'
 have q2:=gk b2'
 have q3:=iz b2'
 have q4:=eU b2'
 have q5:=dZ b2'
 have e:bV (.mk 5 i s c nf ns af ar) (.mk 5 i' s' c' nf' ns' af' ar')=yw [cP ar.length ar'.length,jH ar ar']:=by simp[bV]
 have al:∀h,aN false h av=some ⟨.int .i64 ar.length,h,.none⟩:=fun h=>by rw[eav];exact bX _ _ _ (fun _=>trivial) h
 have al2:∀h,aN false h av2=some ⟨.int .i64 ar'.length,h,.none⟩:=fun h=>by rw[u5];exact bX _ _ _ (fun _=>trivial) h
 simp only[a40,rG,rH,tn,tp,wv,yz,EF,Hj,ah.bbw,aw,reduceIte,Nat.reduceEqDiff,y1,y2,y3,y4,←eh1,←eh2,au,baf,Int.reduceBEq,Int.reduceBNe,p0,q0,Yk,Yl,p5,q5,al,al2,ai (ly _ _ _)]
 rw[eav]at p5
 rw[u5]at q5
 refine PE p5 q5 hP okm wfm hl (ar.length+1) 0 _ (cP ar.length ar'.length) ?_ (by omega) (by omega) ?_ ?_ ?_ ?_ fun σ' g=> ?_
 ·intro h
  rw[cP]at h
  split at h
  ·cases h
  split at h
  ·cases h
  ·omega
 ·simp only[aa,reduceIte,Nat.reduceEqDiff]
 ·simp only[aa,reduceIte,Nat.reduceEqDiff]
 ·simp only[aa,reduceIte,Nat.reduceEqDiff]
 ·simp only[aa,reduceIte,Nat.reduceEqDiff];rfl
 rw[bah,bah]at g
 simp only[Yo,aw,reduceIte,Nat.reduceEqDiff,g]
 exact fu (by simp only[aa,reduceIte,Nat.reduceEqDiff];rw[e];simp only[yw];split<;>simp) rfl
theorem adl (i:Int) (s:List UInt8) (c:Int) (nf:Option Bool) (ns:List Int) (af:Option Bool) (ar:List Tm) (i' :Int) (s' :List UInt8) (c' :Int) (nf' :Option Bool) (ns' :List Int) (af' :Option Bool) (ar' :List Tm) (hP:∀t,t∈ar→rT t) (okm:gW ar') (wfm:EI ar') (hl:2≤ar.length) (hm:2≤ar'.length) (l7:cf ar=true) (m7:cf ar' =true) (ll:ar.length<9223372036854775807) (ml:ar'.length<9223372036854775807) (h:Heap):WC env 40 [.agg (tc (.mk 7 i s c nf ns af ar)),.agg (tc (.mk 7 i' s' c' nf' ns' af' ar'))] h (fun o=>o=.ret ⟨.int .i64 (bV (.mk 7 i s c nf ns af ar) (.mk 7 i' s' c' nf' ns' af' ar')),h,.none⟩):=by
 refine ad rfl rfl rfl (by simp only[bdk,az]) ?_
 obtain⟨ca,ea⟩:∃ca,ca=tc (.mk 7 i s c nf ns af ar):=⟨_,rfl⟩
 obtain⟨cb,eb⟩:∃cb,cb=tc (.mk 7 i' s' c' nf' ns' af' ar'):=⟨_,rfl⟩
 rw[←ea,←eb];obtain⟨nv,bbx⟩:∃nv,nv=aM nf ns.length (bN ns):=⟨_,rfl⟩
 obtain⟨av,eav⟩:∃av,av=aM af ar.length (bq ar):=⟨_,rfl⟩
 obtain⟨nv2,bby⟩:∃nv,nv=aM nf' ns'.length (bN ns'):=⟨_,rfl⟩
 obtain⟨av2,u5⟩:∃av,av=aM af' ar'.length (bq ar'):=⟨_,rfl⟩
 have ea' :ca=[.int .i64 7,.int .i64 i,.str s,.int .u32 c,nv,av]:=by rw[ea,bbx,eav];rfl
 have eb' :cb=[.int .i64 7,.int .i64 i',.str s',.int .u32 c',nv2,av2]:=by rw[eb,bby,u5];rfl
 obtain⟨h1,eh1⟩:∃h1,h1=Heap.empty.new ca:=⟨_,rfl⟩
 have ho1:an h1:=by rw[eh1];exact an.empty.new _
 have a1' :h1.at_ Heap.empty.next 0=some ca:=by rw[eh1];exact aY _
 obtain⟨h2,eh2⟩:∃h2,h2=h1.new cb:=⟨_,rfl⟩
 have a2' :h2.at_ Heap.empty.next 0=some ca:=by rw[eh2];exact(cz ho1 _).2 _ _ _ a1'
 have b2' :h2.at_ h1.next 0=some cb:=by rw[eh2];exact aY _
 have y1:(AV.agg ca).row=some ca:=rfl
 have y2:ca.length=6:=by rw[ea'];rfl
 have y3:(AV.agg cb).row=some cb:=rfl
 have y4:cb.length=6:=by rw[eb'];rfl
 rw[ea']at a2'
 rw[eb']at b2'
 have p0:=eK a2'
 have p1:=gj a2'
 have p2:=gk a2'
 have p3:=iz a2'
 have p4:=eU a2'
 have p5:=dZ a2'
 have q0:=eK b2'
 have q1:=gj b2'
 have q2:=gk b2'
 have q3:=iz b2'
 have q4:=eU b2'
 have q5:=dZ b2'
 have e:bV (.mk 7 i s c nf ns af ar) (.mk 7 i' s' c' nf' ns' af' ar')=gF ar ar' :=by simp[bV]
 have wl:∀h,WC env 72 [.agg ca,.agg cb] h (fun o=>o=.ret ⟨.int .i64 (gF ar ar'),h,.none⟩):=fun h=>by
  rw[ea,eb];exact KV CK (.list _ _ _ _ _ _ _ hl) (.list _ _ _ _ _ _ _ hm) l7 m7 ll ml hP okm wfm h
 have p6:bg h2 true 6 (.ptr Heap.empty.next 0 0)=some ⟨.agg ca,h2,.read⟩:=by rw[ea'];exact vy a2'
 have q6:bg h2 true 6 (.ptr h1.next 0 0)=some ⟨.agg cb,h2,.read⟩:=by rw[eb'];exact vy b2'
 simp only[a40,rG,rH,tn,tp,wv,yz,EF,Hj,NP,ah.bbw,aw,reduceIte,Nat.reduceEqDiff,y1,y2,y3,y4,←eh1,←eh2,au,baf,Int.reduceBEq,Int.reduceBNe,p0,q0,Yp,p6,q6,ai (wl _)]
 exact fu (by simp only[aa,reduceIte,Nat.reduceEqDiff];rw[e]) rfl
theorem adm (k:Int) (i:Int) (s:List UInt8) (c:Int) (nf:Option Bool) (ns:List Int) (af:Option Bool) (ar:List Tm) (i' :Int) (s' :List UInt8) (c' :Int) (nf' :Option Bool) (ns' :List Int) (af' :Option Bool) (ar' :List Tm) (hk:∀j:Int,1≤j→j≤7→j≠6→k≠j) (h:Heap):WC env 40 [.agg (tc (.mk k i s c nf ns af ar)),.agg (tc (.mk k i' s' c' nf' ns' af' ar'))] h (fun o=>o=.ret ⟨.int .i64 (bV (.mk k i s c nf ns af ar) (.mk k i' s' c' nf' ns' af' ar')),h,.none⟩):=by
 refine ad rfl rfl rfl (by simp only[bdk,az]) ?_
 obtain⟨ca,ea⟩:∃ca,ca=tc (.mk k i s c nf ns af ar):=⟨_,rfl⟩
 obtain⟨cb,eb⟩:∃cb,cb=tc (.mk k i' s' c' nf' ns' af' ar'):=⟨_,rfl⟩
 rw[←ea,←eb];obtain⟨nv,bbx⟩:∃nv,nv=aM nf ns.length (bN ns):=⟨_,rfl⟩
 obtain⟨av,eav⟩:∃av,av=aM af ar.length (bq ar):=⟨_,rfl⟩
 obtain⟨nv2,bby⟩:∃nv,nv=aM nf' ns'.length (bN ns'):=⟨_,rfl⟩
 obtain⟨av2,u5⟩:∃av,av=aM af' ar'.length (bq ar'):=⟨_,rfl⟩
 have ea' :ca=[.int .i64 k,.int .i64 i,.str s,.int .u32 c,nv,av]:=by rw[ea,bbx,eav];rfl
 have eb' :cb=[.int .i64 k,.int .i64 i',.str s',.int .u32 c',nv2,av2]:=by rw[eb,bby,u5];rfl
 obtain⟨h1,eh1⟩:∃h1,h1=Heap.empty.new ca:=⟨_,rfl⟩
 have ho1:an h1:=by rw[eh1];exact an.empty.new _
 have a1' :h1.at_ Heap.empty.next 0=some ca:=by rw[eh1];exact aY _
 obtain⟨h2,eh2⟩:∃h2,h2=h1.new cb:=⟨_,rfl⟩
 have a2' :h2.at_ Heap.empty.next 0=some ca:=by rw[eh2];exact(cz ho1 _).2 _ _ _ a1'
 have b2' :h2.at_ h1.next 0=some cb:=by rw[eh2];exact aY _
 have y1:(AV.agg ca).row=some ca:=rfl
 have y2:ca.length=6:=by rw[ea'];rfl
 have y3:(AV.agg cb).row=some cb:=rfl
 have y4:cb.length=6:=by rw[eb'];rfl
 rw[ea']at a2'
 rw[eb']at b2'
 have p0:=eK a2'
 have p1:=gj a2'
 have p2:=gk a2'
 have p3:=iz a2'
 have p4:=eU a2'
 have p5:=dZ a2'
 have q0:=eK b2'
 have q1:=gj b2'
 have q2:=gk b2'
 have q3:=iz b2'
 have q4:=eU b2'
 have q5:=dZ b2'
 have z:(k !=k)=false:=by simp
 have k1' :(k==1)=false:=by simpa using hk 1 (by omega) (by omega) (by omega)
 have k2' :(k==2)=false:=by simpa using hk 2 (by omega) (by omega) (by omega)
 have k3' :(k==3)=false:=by simpa using hk 3 (by omega) (by omega) (by omega)
 have k4' :(k==4)=false:=by simpa using hk 4 (by omega) (by omega) (by omega)
 have k5' :(k==5)=false:=by simpa using hk 5 (by omega) (by omega) (by omega)
 have k7' :(k==7)=false:=by simpa using hk 7 (by omega) (by omega) (by omega)
 have e:bV (.mk k i s c nf ns af ar) (.mk k i' s' c' nf' ns' af' ar')=0:=by
  simp only[bV,ne_eq,not_true,if_false,hk 1 (by omega) (by omega) (by omega),hk 2 (by omega) (by omega) (by omega),hk 3 (by omega) (by omega) (by omega),hk 4 (by omega) (by omega) (by omega),hk 5 (by omega) (by omega) (by omega),hk 7 (by omega) (by omega) (by omega),or_self]
 simp only[a40,rG,rH,tn,tp,wv,yz,EF,Hj,NP,ah.bbw,aw,reduceIte,Nat.reduceEqDiff,y1,y2,y3,y4,←eh1,←eh2,au,baf,p0,q0,z,k1',k2',k3',k4',k5',k7',Yq]
 exact fu (by simp only[aa,reduceIte,Nat.reduceEqDiff];rw[e]) rfl
theorem KX {i:Int} {s:List UInt8} {c:Int} {nf:Option Bool} {ns:List Int} {af:Option Bool} {ar:List Tm} (w:Wf (.mk 3 i s c nf ns af ar)):ns.length=3:=by
 have h:=w.1.1;rw[kindOk]at h
 simp at h;exact h.2
theorem KY {i:Int} {s:List UInt8} {c:Int} {nf:Option Bool} {ns:List Int} {af:Option Bool} {ar:List Tm} (w:Wf (.mk 4 i s c nf ns af ar)):ns.length=2:=by
 have h:=w.1.1;rw[kindOk]at h
 simp at h;exact h.2
theorem CL {i:Int} {s:List UInt8} {c:Int} {nf:Option Bool} {ns:List Int} {af:Option Bool} {ar:List Tm} (w:Wf (.mk 7 i s c nf ns af ar)):2≤ar.length:=by
 have h:=w.1.1;rw[kindOk]at h
 simp at h;exact h.1.2
theorem TT:∀a:Tm,a.Ok→Wf a→rT a:=by
 refine j7 fun k i s c nf ns af ar ih ok wf b okb wfb h=> ?_
 rcases b with⟨k',i',s',c',nf',ns',af',ar'⟩
 obtain⟨ss,sn,sa,sr⟩:=ok.lens
 obtain⟨ss',sn',sa',sr'⟩:=okb.lens
 have sa7:ar.length<9223372036854775807:=by have:=wf.1.2;omega
 have sa7' :ar'.length<9223372036854775807:=by have:=wfb.1.2;omega
 rw[Tm.Ok]at ok okb
 have hP:∀t,t∈ar→rT t:=fun t m=>ih t m (sr.get m) (wf.2.get m)
 by_cases hk:k=k'
 ·subst hk
  by_cases e1:k=1
  ·subst e1;exact adg i s c nf ns af ar i' s' c' nf' ns' af' ar' h
  by_cases e2:k=2
  ·subst e2;exact adh i s c nf ns af ar i' s' c' nf' ns' af' ar' ss ss' h
  by_cases e3:k=3
  ·subst e3;exact adi i s c nf ns af ar i' s' c' nf' ns' af' ar' ss ss' ok.2.2.1 okb.2.2.1 ok.2.2.2.1 okb.2.2.2.1 (by rw[KX wf,KX wfb]) sn h
  by_cases e4:k=4
  ·subst e4;exact adj i s c nf ns af ar i' s' c' nf' ns' af' ar' ss ss' ok.2.2.1 okb.2.2.1 ok.2.2.2.1 okb.2.2.2.1 (by rw[KY wf,KY wfb]) sn h
  by_cases e5:k=5
  ·subst e5;exact adk i s c nf ns af ar i' s' c' nf' ns' af' ar' hP sr' wfb.2 sa h
  by_cases e7:k=7
  ·subst e7;exact adl i s c nf ns af ar i' s' c' nf' ns' af' ar' hP sr' wfb.2 (CL wf) (CL wfb) (sS wf).2 (sS wfb).2 sa7 sa7' h
  exact adm k i s c nf ns af ar i' s' c' nf' ns' af' ar' (fun j h1 h2 h3=>by omega) h
 ·have:=CK (.mk k i s c nf ns af ar) (.mk k' i' s' c' nf' ns' af' ar') hk h
  have e:bV (.mk k i s c nf ns af ar) (.mk k' i' s' c' nf' ns' af' ar')=cP k k' :=by rw[bV,if_pos hk]
  rw[e];exact this
end Go.Bf
namespace Go.AM
theorem lh {h:Heap} {l l' :List AV} (k:EW h l l'):xX h (.agg l) (.agg l'):=by
 cases hr:AV.ae (.agg l)with
 |true=>
  have:l=l' :=by
   simp only[AV.ae]at hr
   induction l generalizing l' with
   |nil=>exact Eq.symm k
   |cons v l ih=>
    obtain⟨a,b,rfl,ha,hb⟩:=k
    simp only[AV.aj,bau]at hr
    rw[(ay hr.1).1 ha,ih hb hr.2]
  subst this;exact(ay hr).2 rfl
 |false=>
  obtain⟨n,hn⟩:=qy k
  refine⟨n+1,fun m hm=> ?_⟩
  cases m with
  |zero=>omega
  |succ m=>simp only[freeze,hr,hn m (by omega),baq]
end Go.AM
namespace Go.Bf
open Go.AM
theorem sD {h:Heap} {sz n:Nat} {v:AV} {cells:List AV} (k:Acc h sz v cells) (hn:AV.aj cells=true) (hl:cr v=some n):∃f,xX h v (aM f n cells):=by
 cases k with
 |ax=>cases hl;exact⟨none,(ay (v:=.ax) rfl).2 rfl⟩
 |full m _ hc=>cases hl;exact⟨some true,(ay (v:=.fs true n cells) hn).2 rfl⟩
 |sl id gen m _ hat hc=>
  cases hl;have ht:(cells.drop 0).take (n*sz)=cells:=by rw[bah];exact bar (by omega)
  refine⟨some false,(AE hat (by omega) (by rw[ht];exact hn)).2 ?_⟩
  rw[ht];rfl
theorem iP {f:Nat} {fn:aS} {args:List AV} {h0 h:Heap} {v:AV} {c:dB} (hp:env.nU f=none) (hf:env.func f=some fn) (hu:env.kO f=true) (hr:AV.aj args=true)
  (w:WC env f args h0 (fun o=>o=.ret ⟨v,h0,c⟩)):WC env f args h (fun o=>o=.ret ⟨v,h,.none⟩):=by
 obtain⟨n,o,hn,ho⟩:=DE w
 subst ho;cases n with
 |zero=>cases hn
 |succ n=>
  have key:∀h,env.call (n+1) f args h=(env.body (env.call n) n fn args .empty).bind fun
     |.ret r=>(Go.AM.freeze r.h n r.v).map fun v=>.ret ⟨v,h,.none⟩
     |.panic _ _=>none:=by
   intro h;show(match env.nU f with|some p=>_|none=>_)=_
   rw[hp];show(env.func f).bind _=_
   rw[hf];show(match env.kO f with|true=>_|false=>_)=_
   rw[hu];show(match AV.aj args with|true=>_|false=>_)=_
   rw[hr];rfl
  refine bu (n:=n+1) ?_
  rw[key]at hn⊢
  cases e:env.body (env.call n) n fn args .empty with
  |none=>rw[e]at hn;cases hn
  |some o=>
   rw[e]at hn
   cases o with
   |panic v' h' =>cases hn
   |ret r=>
    change (Option.bind (some (fC.ret r)) _)=_ at hn
    change (Option.bind (some (fC.ret r)) _)=_
    simp only[bag]at hn⊢
    cases e2:Go.AM.freeze r.h n r.v with
    |none=>rw[e2]at hn;cases hn
    |some v' =>
     rw[e2]at hn
     simp only[baq,bae,fC.ret.injEq,cB.mk.injEq]at hn
     simp only[baq]
     rw[hn.1]
mutual
def er:Tm→Tm
 |.mk k i s c nf ns af ar=>.mk k i s c none ns none (kY ar)
def kY:List Tm→List Tm
 |[]=>[]
 |t::l=>er t::kY l
end
theorem mb:∀(l m:List Tm),kY (l++m)=kY l++kY m
 |[],m=>rfl
 |t::l,m=>by rw[List.cons_append,kY,mb l m];rfl
theorem eE:∀l:List Tm,(kY l).length=l.length
 |[]=>rfl
 |t::l=>by rw[kY,bav,bav,eE l]
theorem fG:∀(l m:List Tm),bq (l++m)=bq l++bq m
 |[],m=>rfl
 |t::l,m=>by rw[List.cons_append,bq,fG l m,bq,bbp]
theorem p_:∀{l m:List Tm},gW l→gW m→gW (l++m)
 |[],_,_,h=>h
 |t::l,m,h,h2=>by
  rw[gW]at h
  rw[List.cons_append,gW];exact⟨h.1,p_ h.2 h2⟩
theorem adn {t:Tm} (w:Wf t):∀{k i:Int} {s:List UInt8} {c:Int} {nf:Option Bool} {ns:List Int} {af:Option Bool} {ar:List Tm},t=.mk k i s c nf ns af ar→ns.length≤3:=by
 rintro k i s c nf ns af ar rfl
 have h:=w.1.1;rw[kindOk]at h
 split at h
 ·simp[b7]at h;rw[h.1.1.2.1];simp
 split at h
 ·simp[b7]at h;rw[h.1.1.1];simp
 split at h
 ·simp at h;omega
 split at h
 ·simp at h;omega
 split at h
 ·simp[b7]at h;rw[h.1.2.1];simp
 split at h
 ·simp[b7]at h;rw[h.1.1.2.1];simp
 split at h
 ·simp[b7]at h;rw[h.1.1.1.2.1];simp
 ·cases h
theorem y_ {h:Heap} (f:Option Bool) (ns:List Int):∃c,aT h 1 ns.length (aM f ns.length (bN ns))=some (bN ns,c):=by
 have hl:=uA ns
 have ht:(bN ns).take (ns.length*1)=bN ns:=bar (by omega)
 have go:∀b,aT h 1 ns.length (.fs b ns.length (bN ns))=some (bN ns,.none):=by
  intro b;simp only[aT]
  rw[if_pos ⟨bab _,by omega⟩,ht]
 cases f with
 |none=>
  cases ns with
  |nil=>exact⟨_,rfl⟩
  |cons x l=>exact⟨_,go false⟩
 |some b=>exact⟨_,go b⟩
theorem zo (f:Option Bool) (n:Nat) (cs:List AV):cr (aM f n cs)=some n:=by
 cases f with
 |none=>cases n<;>rfl
 |some b=>rfl
theorem ajC (f:Option Bool) (n:Nat) (cs:List AV):∃b,uS .slice (aM f n cs) .ax=some b∧(b=true→aM f n cs=.ax∧n=0):=by
 cases f with
 |none=>
  cases n with
  |zero=>exact⟨true,rfl,fun _=>⟨rfl,rfl⟩⟩
  |succ n=>exact⟨false,rfl,fun h=>by cases h⟩
 |some b=>exact⟨false,rfl,fun h=>by cases h⟩
theorem PF (f:Option Bool) (ns:List Int) (hn:ns.length≤1000) {h:Heap} (ho:an h):∃v h',WC env 69 [aM f ns.length (bN ns)] h (fun o=>o=.ret ⟨v,h',.write⟩)∧an h' ∧h.le h' ∧Acc h' 1 v (bN ns)∧cr v=some ns.length∧∀id,v.own=some id→h.next≤id:=by
 obtain⟨b,eb,hb⟩:=ajC f ns.length (bN ns)
 cases b with
 |true=>
  obtain⟨e1,e2⟩:=hb rfl
  have e3:ns=[]:=bay.1 e2
  subst e3;refine⟨.ax,h,?_,ho,Heap.le_refl h,.ax,rfl,fun id e=>by cases e⟩
  refine ct rfl rfl (.inl rfl) ?_
  simp only[a69,YU,YV,afz,ah.bbw,aw,reduceIte,Nat.reduceEqDiff,eb]
  exact⟨[.ax],by simp only[Env.results,baq,aa,reduceIte,Nat.reduceEqDiff],rfl⟩
 |false=>
  obtain⟨c0,hc⟩:=y_ (h:=h) f ns
  obtain⟨v,h',c',w1,k,l1,ho',l3,l4⟩:=Acc.append (bt:=4) ho (by omega:0<1) (Acc.full (h:=h) (sz:=1) 0 [] rfl) (m:=0) rfl (zo f _ _) hc (by rw[uA];omega) (by omega) (by omega)
  rw[bbe]at k
  rw[baf]at l4
  refine⟨v,h',?_,ho',⟨l1.1,fun id gen cs e=>l1.2 id gen cs (by intro e2;cases e2) e⟩,k,l4,fun id e=>(l3 id e).elim (fun e2=>by cases e2) (fun e2=>e2)⟩
  refine ct rfl rfl (.inl rfl) ?_
  have y1:bY [] []=some []:=rfl
  simp only[a69,YU,YV,afA,ah.bbw,aw,reduceIte,Nat.reduceEqDiff,eb,y1,List.length_nil,Nat.reduceMul,w1,iC c']
  exact⟨[v],by simp only[Env.results,baq,aa,reduceIte,Nat.reduceEqDiff],rfl⟩
end Go.Bf
namespace Go.Bf
open Go.AM
section
variable {h : Heap} {i : Nat} {a b c d e f : AV} (hat : h.at_ i 0 = some [a, b, c, d, e, f])
include hat
theorem aqi {v:AV} (hv:v.row=some [v]):bC h 1 (.ptr i 0 4) v=some ⟨.undef,h.cD i 0 [a,b,c,d,v,f],.write⟩:=by
 simp only[bC,hat,bag,hv];rfl
theorem aqj {v:AV} (hv:v.row=some [v]):bC h 1 (.ptr i 0 5) v=some ⟨.undef,h.cD i 0 [a,b,c,d,e,v],.write⟩:=by
 simp only[bC,hat,bag,hv];rfl
end
theorem anZ (t:Tm):bY [.int .i64 0,.int .i64 0,.str [],.int .u32 0,.ax,.ax] [(0,6,.agg (tc t))]=some (tc t):=by
 cases t;rfl
theorem J1 (h:Heap) (t:Tm):aT h 6 1 (.fs true 1 (tc t))=some (tc t,.none):=by
 have hl:=aR t
 simp only[aT]
 rw[if_pos ⟨bab _,by omega⟩,bar (by omega)]
def PG (t:Tm):Prop:=∃t',t'.Ok∧er t' =er t∧∀h,WC env 39 [.agg (tc t)] h (fun o=>o=.ret ⟨.agg (tc t'),h,.none⟩)
theorem TU {ar:List Tm} (hP:∀t,t∈ar→PG t) (hlen:ar.length≤4096) {af:Option Bool} {i1 i2 bd:Nat} {C Z:List AV} (b1:i1<bd) (b2:i2<bd) {Q:aU→St→Prop}:
  ∀(f i:Nat) (σ:ah) (h:Heap) (v:AV) (l:List Tm),ar.length-i<f→i≤ar.length→an h→bd≤h.next→h.at_ i1 0=some C→h.at_ i2 0=some Z→Acc h 6 v (bq l)→cr v=some i→l.length=i→kY l=kY (ar.take i)→gW l→(∀id,v.own=some id→bd≤id)→
  σ.get 1=.ptr i1 0 0→σ.get 2=.ptr i2 0 0→σ.get 3=v→σ.get 11=aM af ar.length (bq ar)→σ.get 12=.int .i64 ar.length→σ.get 13=.int .i64 i→
  (∀σ' h' v' l',jL (fun j=>bd≤j) h h' →an h' →h'.at_ i1 0=some C→h'.at_ i2 0=some Z→Acc h' 6 v' (bq l')→cr v' =some ar.length→l'.length=ar.length→kY l' =kY ar→gW l' →(∀id,v'.own=some id→bd≤id)→σ'.get 1=.ptr i1 0 0→σ'.get 2=.ptr i2 0 0→σ'.get 3=v' →Q (.exit 0) ⟨σ',h'⟩)→
  kz env Hh ⟨σ,h⟩ Q:=by
 intro f
 induction f with
 |zero=>intro i σ h v l h1;omega
 |succ f ih=>
  intro i σ h v l hf hi ho hbd h1 h2 k hv hl he hok hown g1 g2 g3 g11 g12 g13 hQ;refine aC fun b hb=> ?_
  by_cases c1:i<ar.length
  ·have z0:((i:Int)<(ar.length:Int))=True:=eq_true (by omega)
   have zi:IntKind.wrap .i64 ((i:Int)+1)=((i+1:Nat):Int):=aX (by omega) (by omega)
   have lx:=fI (f:=af) c1
   have ld:=fK c1 h
   obtain⟨t',ok',er',wc'⟩:=hP ar[i] (bas c1)
   obtain⟨h3,st3,ho3,le3,at3⟩:=kH ho ar[i]
   have lt3:=lM at3
   have y1:=anZ t'
   have y2:(tc t').length=6:=aR t'
   obtain⟨v',h4,c4,w4,k4,lb4,ho4,ow4,len4⟩:=Acc.append (bt:=88) ho3 (by omega:0<6) (k.le le3) hv (show cr (.fs true 1 (tc t'))=some 1 from rfl) (J1 h3 t') (by rw[y2]) (by omega) (by omega)
   have cg:jL (fun j=>bd≤j) h h4:=le3.wR.trans (lb4.wR fun j e=>hown j e)
   have n1:h4.at_ i1 0=some C:=lb4.2 _ _ _ (fun e=>by have:=hown _ e;omega) (le3.2 _ _ _ h1)
   have n2:h4.at_ i2 0=some Z:=lb4.2 _ _ _ (fun e=>by have:=hown _ e;omega) (le3.2 _ _ _ h2)
   have k4' :Acc h4 6 v' (bq (l++[t'])):=by rw[fG,bq,bq,bbj];exact k4
   simp only[Hh,Yg,afd,afe,aff,aw,reduceIte,Nat.reduceEqDiff,g3,g11,g12,g13,z0,zi,lx,ld,st3,lt3,ai (wc' _),y1,y2,Nat.reduceMul,w4,iC c4]
   subst hb;refine ih (i+1) _ h4 v' (l++[t']) (by omega) (by omega) ho4 (by have:=le3.1;have:=lb4.1;omega) n1 n2 k4' len4 (by simp[hl]) ?_ (p_ hok ⟨ok',trivial⟩) (fun id e=> ?_) ?_ ?_ ?_ ?_ ?_ ?_ fun σ' h' v'' l'' p0=>hQ σ' h' v'' l'' (cg.trans p0)
   ·rw[List.take_succ_eq_append_getElem c1,mb,mb,he,kY,kY,kY,kY,er']
   ·rcases ow4 id e with e2|e2
    ·exact hown id e2
    ·have:=le3.1;omega
   ·simp only[aa,reduceIte,Nat.reduceEqDiff,g1]
   ·simp only[aa,reduceIte,Nat.reduceEqDiff,g2]
   ·simp only[aa,reduceIte,Nat.reduceEqDiff]
   ·simp only[aa,reduceIte,Nat.reduceEqDiff,g11]
   ·simp only[aa,reduceIte,Nat.reduceEqDiff,g12]
   ·simp only[aa,reduceIte,Nat.reduceEqDiff]
  ·have z0:((i:Int)<(ar.length:Int))=False:=eq_false (by omega)
   have hi' :i=ar.length:=by omega
   subst hi';rw[List.take_length]at he
   simp only[Hh,Yg,aw,reduceIte,g12,g13,z0]
   refine hQ _ h v l jL.refl ho h1 h2 k hv hl he hok hown ?_ ?_ ?_<;>simp only[aa,reduceIte,Nat.reduceEqDiff,g1,g2,g3]
theorem xu:∀t:Tm,t.Ok→Wf t→PG t:=by
 refine j7 fun k i s c nf ns af ar ih ok wf=> ?_
 obtain⟨ss,sn,sa,sr⟩:=ok.lens
 have hP:∀t,t∈ar→PG t:=fun t m=>ih t m (sr.get m) (wf.2.get m)
 have hn3:ns.length≤3:=adn wf rfl
 have ha4:ar.length≤4096:=wf.1.2
 rw[Tm.Ok]at ok
 obtain⟨t,et⟩:∃t:Tm,t=.mk k i s c nf ns af ar:=⟨_,rfl⟩
 have hr:AV.aj [.agg (tc t)]=true:=by simp only[bdk,az]
 have run:WC env 39 [.agg (tc t)] .empty (fun o=>∃t' :Tm,t'.Ok∧er t' =er t∧o=.ret ⟨.agg (tc t'),.empty,.none⟩):=by
  refine ad rfl rfl rfl hr ?_
  obtain⟨cs,ec⟩:∃cs,cs=tc t:=⟨_,rfl⟩
  have ec' :cs=[.int .i64 k,.int .i64 i,.str s,.int .u32 c,aM nf ns.length (bN ns),aM af ar.length (bq ar)]:=by rw[ec,et];rfl
  rw[←ec];obtain⟨i1,ei1⟩:∃i1,i1=Heap.empty.next:=⟨_,rfl⟩
  obtain⟨h1,eh1⟩:∃h1,h1=Heap.empty.new cs:=⟨_,rfl⟩
  have ho1:an h1:=by rw[eh1];exact an.empty.new _
  have a1:h1.at_ i1 0=some cs:=by rw[eh1,ei1];exact aY _
  obtain⟨i2,ei2⟩:∃i2,i2=h1.next:=⟨_,rfl⟩
  obtain⟨h2,eh2⟩:∃h2,h2=h1.new [.int .i64 0,.int .i64 0,.str [],.int .u32 0,.ax,.ax]:=⟨_,rfl⟩
  have ho2:an h2:=by rw[eh2];exact ho1.new _
  have a2:h2.at_ i1 0=some cs:=by rw[eh2];exact(cz ho1 _).2 _ _ _ a1
  have r2:h2.at_ i2 0=some [.int .i64 0,.int .i64 0,.str [],.int .u32 0,.ax,.ax]:=by rw[eh2,ei2];exact aY _
  rw[ec']at a2
  have y1:(AV.agg cs).row=some cs:=rfl
  have y2:cs.length=6:=by rw[ec'];rfl
  have l4:=eU a2
  obtain⟨vn,h3,wn,ho3,le3,kn,adf,own3⟩:=PF nf ns (by omega) ho2
  have a3:=le3.2 _ _ _ a2
  have r3:=le3.2 _ _ _ r2
  have t1:=ho2.lt a2
  have t2:=ho2.lt r2
  have s4:=aqi a3 kn.row
  obtain⟨h4,eh4⟩:∃h4,h4=h3.cD i1 0 [.int .i64 k,.int .i64 i,.str s,.int .u32 c,vn,aM af ar.length (bq ar)]:=⟨_,rfl⟩
  rw[←eh4]at s4
  have ho4:an h4:=by rw[eh4];exact ho3.cD (cJ.1 a3) _ _
  have a4:h4.at_ i1 0=some [.int .i64 k,.int .i64 i,.str s,.int .u32 c,vn,aM af ar.length (bq ar)]:=by rw[eh4];exact bD
  have hne:i2≠i1:=by have:=ho1.lt a1;omega
  have r4:h4.at_ i2 0=_:=(by rw[eh4];exact cw hne:h4.at_ i2 0=h3.at_ i2 0).trans r3
  have ch4:jL (fun j=>j=i1) h3 h4:=by rw[eh4];exact fJ rfl
  have kn4:Acc h4 1 vn (bN ns):=kn.wR ch4 (fun id e=>by have:=own3 id e;omega)
  have l5:=dZ a4
  have al:∀h,aN false h (aM af ar.length (bq ar))=some ⟨.int .i64 ar.length,h,.none⟩:=fun h=>bX _ _ _ (fun _=>trivial) h
  simp only[a39,ae_,afa,afb,afc,ah.bbw,aw,reduceIte,Nat.reduceEqDiff,y1,y2,←eh1,←eh2,←ei1,←ei2,au,baf,l4,ai wn,s4,l5,al]
  have hle:h2.next≤h4.next:=bal le3.1 ch4.1
  have hvn:∀id,vn.own=some id→id<h4.next:=fun id e=>kn4.UH ho4 e
  refine TU (ar:=ar) hP ha4 (af:=af) (i1:=i1) (i2:=i2) (bd:=h4.next) (by omega) (by omega) (ar.length+1) 0 _ h4 .ax [] (by omega) (by omega) ho4 (bab _) a4 r4 .ax rfl rfl rfl trivial (fun id e=>by cases e) ?_ ?_ ?_ ?_ ?_ ?_ fun σ' h' v' l' p0 p1 p2 p3 p4 p5 p6 p7 p8 p9 q1 q2 q3=> ?_
  ·simp only[aa,reduceIte,Nat.reduceEqDiff]
  ·simp only[aa,reduceIte,Nat.reduceEqDiff]
  ·simp only[aa,reduceIte,Nat.reduceEqDiff]
  ·simp only[aa,reduceIte,Nat.reduceEqDiff]
  ·simp only[aa,reduceIte,Nat.reduceEqDiff]
  ·simp only[aa,reduceIte,Nat.reduceEqDiff];rfl
  have kn5:Acc h' 1 vn (bN ns):=kn4.wR p0 (fun id e=>by have:=hvn id e;omega)
  have s5:=aqj p2 p4.row
  obtain⟨h5,eh5⟩:∃h5,h5=h'.cD i1 0 [.int .i64 k,.int .i64 i,.str s,.int .u32 c,vn,v']:=⟨_,rfl⟩
  rw[←eh5]at s5
  have a5:h5.at_ i1 0=some [.int .i64 k,.int .i64 i,.str s,.int .u32 c,vn,v']:=by rw[eh5];exact bD
  have r5:h5.at_ i2 0=some [.int .i64 0,.int .i64 0,.str [],.int .u32 0,.ax,.ax]:=(by rw[eh5];exact cw hne:h5.at_ i2 0=h'.at_ i2 0).trans p3
  have lb:=vy a5
  have sb:=st6 (a' :=.int .i64 k) (b' :=.int .i64 i) (c' :=.str s) (d' :=.int .u32 c) (e' :=vn) (f' :=v') r5
  obtain⟨h6,eh6⟩:∃h6,h6=h5.cD i2 0 [.int .i64 k,.int .i64 i,.str s,.int .u32 c,vn,v']:=⟨_,rfl⟩
  rw[←eh6]at sb
  have r6:h6.at_ i2 0=some [.int .i64 k,.int .i64 i,.str s,.int .u32 c,vn,v']:=by rw[eh6];exact bD
  have ch6:jL (fun j=>j=i1∨j=i2) h' h6:=by
   rw[eh6,eh5];exact(fJ (S:=fun j=>j=i1∨j=i2) (.inl rfl)).trans (fJ (S:=fun j=>j=i1∨j=i2) (.inr rfl))
  obtain⟨f1,z1⟩:=sD (kn5.wR ch6 (fun id e=>by have:=own3 id e;omega)) (pS ns) adf
  obtain⟨f2,z2⟩:=sD (p4.wR ch6 (fun id e=>by have:=p9 id e;omega)) (eD l') p5
  simp only[afg,Yh,aw,reduceIte,Nat.reduceEqDiff,q1,q2,q3,au,baf,s5,lb,sb]
  rw[←p6]at z2
  refine⟨[.agg [.int .i64 k,.int .i64 i,.str s,.int .u32 c,vn,v']],.agg (tc (.mk k i s c f1 ns f2 l')),?_,?_,.mk k i s c f1 ns f2 l',?_,?_,rfl⟩
  ·simp only[Env.results,aa,reduceIte,Nat.reduceEqDiff,q2,vy r6,jab]
  ·exact lh ⟨_,_,rfl,(ay (v:=.int .i64 k) rfl).2 rfl,_,_,rfl,(ay (v:=.int .i64 i) rfl).2 rfl,_,_,rfl,(ay (v:=.str s) rfl).2 rfl,_,_,rfl,(ay (v:=.int .u32 c) rfl).2 rfl,_,_,rfl,z1,_,_,rfl,z2,rfl⟩
  ·rw[Tm.Ok]
   exact⟨ok.1,ok.2.1,ok.2.2.1,ok.2.2.2.1,ss,sn,by omega,p8⟩
  ·rw[et,er,er,p7]
 obtain⟨o,bbz,t',ok',e',rfl⟩:=run
 refine⟨t',ok',by rw[e',et],fun h=> ?_⟩
 rw[←et];exact iP rfl rfl rfl hr (h0:=.empty) (c:=.none) ⟨_,bbz,rfl⟩
end Go.Bf
namespace Go.Bf
open Go.AM
def dk (t:Tm):Bool:=match hJ t with|none=>true|some _=>false
theorem ado (x:y9):uS (.iface true) (gV x) .bL=some (match x with|none=>true|some _=>false):=by
 rcases x with _|⟨a,c,u⟩<;>rfl
theorem dL {t:Tm} (h:dk t=true):Wf t:=by
 unfold dk at h
 split at h
 ·rename_i e;exact aju e
 ·cases h
theorem pq (t:Tm):uS (.iface true) (gV (hJ t)) .bL=some (dk t):=ado _
def Ts (a b:Tm):Bool:=dk a&&dk b&&(bV a b==0)
theorem PH (a b:Tm) (oka:a.Ok) (okb:b.Ok) (h:Heap):WC env 33 [.agg (tc a),.agg (tc b)] h (fun o=>o=.ret ⟨.bool (Ts a b),h,.none⟩):=by
 refine ad rfl rfl rfl (by simp only[bdk,az]) ?_
 obtain⟨h1,eh1⟩:∃h1,h1=Heap.empty.new (tc a):=⟨_,rfl⟩
 have ho1:an h1:=by rw[eh1];exact an.empty.new _
 have a1:h1.at_ Heap.empty.next 0=some (tc a):=by rw[eh1];exact aY _
 obtain⟨h2,eh2⟩:∃h2,h2=h1.new (tc b):=⟨_,rfl⟩
 have a2:h2.at_ Heap.empty.next 0=some (tc a):=by rw[eh2];exact(cz ho1 _).2 _ _ _ a1
 have b2:h2.at_ h1.next 0=some (tc b):=by rw[eh2];exact aY _
 have y1:(AV.agg (tc a)).row=some (tc a):=rfl
 have y2:(tc a).length=6:=aR a
 have y3:(AV.agg (tc b)).row=some (tc b):=rfl
 have y4:(tc b).length=6:=aR b
 have la:=lM a2
 have lb:=lM b2
 cases e1:dk a with
 |false=>
  have e:Ts a b=false:=by rw[Ts,e1];rfl
  have q1:=pq a
  rw[e1]at q1
  simp only[a33,RO,RP,ah.bbw,aw,reduceIte,Nat.reduceEqDiff,y1,y2,y3,y4,←eh1,←eh2,la,ai (eT a oka _),q1,aL]
  exact rE (by simp only[aa,reduceIte,Nat.reduceEqDiff];rw[e]) rfl
 |true=>
 have q1:=pq a
 rw[e1]at q1
 cases e2:dk b with
 |false=>
  have e:Ts a b=false:=by rw[Ts,e1,e2];rfl
  have q2:=pq b
  rw[e2]at q2
  simp only[a33,RO,RP,ah.bbw,aw,reduceIte,Nat.reduceEqDiff,y1,y2,y3,y4,←eh1,←eh2,la,lb,ai (eT a oka _),ai (eT b okb _),q1,q2,aL]
  exact rE (by simp only[aa,reduceIte,Nat.reduceEqDiff];rw[e]) rfl
 |true=>
 have q2:=pq b
 rw[e2]at q2
 have wo:=KS a oka (dL e1) b okb (dL e2)
 have e:Ts a b=(bV a b==0):=by rw[Ts,e1,e2];rfl
 simp only[a33,RO,RP,ah.bbw,aw,reduceIte,Nat.reduceEqDiff,y1,y2,y3,y4,←eh1,←eh2,la,lb,ai (eT a oka _),ai (eT b okb _),q1,q2,aL,ai (wo _)]
 exact rE (by simp only[aa,reduceIte,Nat.reduceEqDiff];rw[e]) rfl
def gZ (s:List UInt8):Tm:=.mk 2 0 s 0 none [] none []
theorem im (s:List UInt8) (h:Heap):WC env 34 [.str s] h (fun o=>o=.ret ⟨.agg (tc (gZ s)),h,.none⟩):=bu (n:=30) (by kernel_rfl)
theorem iX (s:List UInt8) (h:Heap):WC env 31 [.str s] h (fun o=>o=.ret ⟨.agg (tc (gZ s)),h,.none⟩):=bu (n:=30) (by kernel_rfl)
mutual
def kQ:Tm→Tm→Bool
 |.mk k i s c nf ns af ar,.mk k' i' s' c' nf' ns' af' ar' =>k==k' &&i==i' &&s==s' &&c==c' &&ns.length==ns'.length&&ar.length==ar'.length&&ns==ns' &&kN ar ar'
def kN:List Tm→List Tm→Bool
 |[],[]=>true
 |[],_::_=>false
 |_::_,[]=>false
 |a::l,b::m=>kQ a b&&kN l m
end
def PI (a:Tm):Prop:=∀b,b.Ok→∀h,WC env 19 [.agg (tc a),.agg (tc b)] h (fun o=>o=.ret ⟨.bool (kQ a b),h,.none⟩)
section
variable {h : Heap} {i2 i3 : Nat} {x0 x1 x2 x3 y0 y1 y2 y3 : AV} {nf nf' : Option Bool} {ns ns' : List Int} {av av2 : AV}
  (l4 : bg h false 1 (.ptr i2 0 4) = some ⟨aM nf ns.length (bN ns), h,.read⟩) (l4' : bg h false 1 (.ptr i3 0 4) = some ⟨aM nf' ns'.length (bN ns'), h,.read⟩)
include l4 l4'
theorem TV (hlen:ns.length=ns'.length) (hb:ns.length<9223372036854775808) {Q:aU→St→Prop}:
  ∀(f i:Nat) (σ:ah),ns.length-i<f→i≤ns.length→σ.get 2=.ptr i2 0 0→σ.get 3=.ptr i3 0 0→σ.get 5=.int .i64 i→
  (∀σ',(σ'.get 4=.bool false→ns.drop i≠ns'.drop i→Q .ret ⟨σ',h⟩)∧(σ'.get 2=.ptr i2 0 0→σ'.get 3=.ptr i3 0 0→ns.drop i=ns'.drop i→Q (.exit 0) ⟨σ',h⟩))→
  kz env Hg ⟨σ,h⟩ Q:=by
 intro f
 induction f with
 |zero=>intro i σ h1;omega
 |succ f ih=>
  intro i σ hf hi g2 g3 g5 hQ;refine aC fun b hb=> ?_
  have nl:∀h,aN false h (aM nf ns.length (bN ns))=some ⟨.int .i64 ns.length,h,.none⟩:=fun h=>bX _ _ _ (fun _=>trivial) h
  by_cases c1:i<ns.length
  ·have c2:i<ns'.length:=by omega
   have z0:((i:Int)<(ns.length:Int))=True:=eq_true (by omega)
   have zi:IntKind.wrap .i64 ((i:Int)+1)=((i+1:Nat):Int):=aX (by omega) (by omega)
   have lx:=oT (f:=nf) c1
   have ld:=sK c1 h
   have lx2:=oT (f:=nf') c2
   have ld2:=sK c2 h
   have hd1:ns.drop i=ns[i]::ns.drop (i+1):=bat c1
   have hd2:ns'.drop i=ns'[i]::ns'.drop (i+1):=bat c2
   rw[hd1,hd2]at hQ
   simp only[Hg,X4,aw,reduceIte,Nat.reduceEqDiff,g2,g5,au,baf,l4,nl,z0]
   refine aB ?_
   by_cases c3:ns[i]=ns'[i]
   ·have z3:(ns[i] !=ns'[i])=false:=by simpa using c3
    simp only[aw,reduceIte,Nat.reduceEqDiff,k3,X5,ae5,g2,g3,g5,au,baf,l4,l4',lx,ld,lx2,ld2,z3,zi]
    refine⟨rfl,?_⟩
    subst hb;refine ih (i+1) _ (by omega) (by omega) ?_ ?_ ?_ fun σ' =>⟨fun g e=>(hQ σ').1 g (fun e2=>e (by injection e2)),fun e0 e1 e=>(hQ σ').2 e0 e1 (by rw[c3,e])⟩
    ·simp only[aa,reduceIte,Nat.reduceEqDiff,g2]
    ·simp only[aa,reduceIte,Nat.reduceEqDiff,g3]
    ·simp only[aa,reduceIte,Nat.reduceEqDiff]
   ·have z3:(ns[i] !=ns'[i])=true:=by simpa using c3
    simp only[aw,reduceIte,Nat.reduceEqDiff,k3,X5,ae4,g2,g3,g5,au,baf,l4,l4',lx,ld,lx2,ld2,z3]
    refine⟨rfl,?_⟩
    exact(hQ _).1 (by simp only[aa,reduceIte,Nat.reduceEqDiff]) (fun e=>c3 (by injection e))
  ·have z0:((i:Int)<(ns.length:Int))=False:=eq_false (by omega)
   simp only[Hg,X4,aw,reduceIte,Nat.reduceEqDiff,g2,g5,au,baf,l4,nl,z0]
   refine(hQ _).2 (by simp only[aa,reduceIte,Nat.reduceEqDiff,g2]) (by simp only[aa,reduceIte,Nat.reduceEqDiff,g3]) ?_
   rw[bao (by omega),bao (by omega)]
end
section
variable {h : Heap} {i2 i3 : Nat} {af af' : Option Bool} {ar ar' : List Tm}
  (l5 : bg h false 1 (.ptr i2 0 5) = some ⟨aM af ar.length (bq ar), h,.read⟩) (l5' : bg h false 1 (.ptr i3 0 5) = some ⟨aM af' ar'.length (bq ar'), h,.read⟩)
include l5 l5'
theorem TW (hP:∀t,t∈ar→PI t) (okm:gW ar') (hlen:ar.length=ar'.length) (hb:ar.length<9223372036854775808) {Q:aU→St→Prop}:
  ∀(f i:Nat) (σ:ah),ar.length-i<f→i≤ar.length→σ.get 2=.ptr i2 0 0→σ.get 3=.ptr i3 0 0→σ.get 6=.int .i64 i→
  (∀σ',(σ'.get 4=.bool false→kN (ar.drop i) (ar'.drop i)=false→Q .ret ⟨σ',h⟩)∧(kN (ar.drop i) (ar'.drop i)=true→Q (.exit 2) ⟨σ',h⟩))→
  kz env zT ⟨σ,h⟩ Q:=by
 intro f
 induction f with
 |zero=>intro i σ h1;omega
 |succ f ih=>
  intro i σ hf hi g2 g3 g6 hQ;refine aC fun b hb=> ?_
  have nl:∀h,aN false h (aM af ar.length (bq ar))=some ⟨.int .i64 ar.length,h,.none⟩:=fun h=>bX _ _ _ (fun _=>trivial) h
  by_cases c1:i<ar.length
  ·have c2:i<ar'.length:=by omega
   have z0:((i:Int)<(ar.length:Int))=True:=eq_true (by omega)
   have zi:IntKind.wrap .i64 ((i:Int)+1)=((i+1:Nat):Int):=aX (by omega) (by omega)
   have lx:=fI (f:=af) c1
   have ld:=fK c1 h
   have lx2:=fI (f:=af') c2
   have ld2:=fK c2 h
   have hd1:ar.drop i=ar[i]::ar.drop (i+1):=bat c1
   have hd2:ar'.drop i=ar'[i]::ar'.drop (i+1):=bat c2
   have wo:=hP ar[i] (bas c1) ar'[i] (okm.get (bas c2))
   rw[hd1,hd2,kN]at hQ
   simp only[zT,Ns,aw,reduceIte,Nat.reduceEqDiff,g2,g6,au,baf,l5,nl,z0]
   refine aB ?_
   cases z3:kQ ar[i] ar'[i]with
   |true=>
    rw[z3,bbb]at hQ
    rw[z3]at wo
    simp only[aw,reduceIte,Nat.reduceEqDiff,k3,Nt,X7,g2,g3,g6,au,l5,l5',lx,ld,lx2,ld2,ai (wo _),dm,zi,jag]
    refine⟨rfl,?_⟩
    subst hb;refine ih (i+1) _ (by omega) (by omega) ?_ ?_ ?_ hQ
    ·simp only[aa,reduceIte,Nat.reduceEqDiff,g2]
    ·simp only[aa,reduceIte,Nat.reduceEqDiff,g3]
    ·simp only[aa,reduceIte,Nat.reduceEqDiff]
   |false=>
    rw[z3,bbd]at hQ
    rw[z3]at wo
    simp only[aw,reduceIte,Nat.reduceEqDiff,k3,Nt,X6,g2,g3,g6,au,l5,l5',lx,ld,lx2,ld2,ai (wo _),dm,jah]
    refine⟨rfl,?_⟩
    exact(hQ _).1 (by simp only[aa,reduceIte,Nat.reduceEqDiff]) rfl
  ·have z0:((i:Int)<(ar.length:Int))=False:=eq_false (by omega)
   simp only[zT,Ns,aw,reduceIte,Nat.reduceEqDiff,g2,g6,au,baf,l5,nl,z0]
   refine(hQ _).2 ?_
   rw[bao (by omega),bao (by omega),kN]
end
end Go.Bf
namespace Go.Bf
open Go.AM
theorem Tb:∀a:Tm,a.Ok→PI a:=by
 refine j7 fun k i s c nf ns af ar ih ok b okb h=> ?_
 rcases b with⟨k',i',s',c',nf',ns',af',ar'⟩
 obtain⟨_,sn,sa,sr⟩:=ok.lens
 obtain⟨_,sn',sa',sr'⟩:=okb.lens
 have hP:∀t,t∈ar→PI t:=fun t m=>ih t m (sr.get m)
 obtain⟨a,eta⟩:∃a:Tm,a=.mk k i s c nf ns af ar:=⟨_,rfl⟩
 obtain⟨b,etb⟩:∃b:Tm,b=.mk k' i' s' c' nf' ns' af' ar' :=⟨_,rfl⟩
 have es:kQ a b=(k==k' &&i==i' &&s==s' &&c==c' &&ns.length==ns'.length&&ar.length==ar'.length&&ns==ns' &&kN ar ar'):=by rw[eta,etb,kQ]
 rw[←eta,←etb];refine ad rfl rfl rfl (by simp only[bdk,az]) ?_
 obtain⟨ca,ea⟩:∃ca,ca=tc a:=⟨_,rfl⟩
 obtain⟨cb,eb⟩:∃cb,cb=tc b:=⟨_,rfl⟩
 rw[←ea,←eb];have ea' :ca=[.int .i64 k,.int .i64 i,.str s,.int .u32 c,aM nf ns.length (bN ns),aM af ar.length (bq ar)]:=by rw[ea,eta];rfl
 have eb' :cb=[.int .i64 k',.int .i64 i',.str s',.int .u32 c',aM nf' ns'.length (bN ns'),aM af' ar'.length (bq ar')]:=by rw[eb,etb];rfl
 obtain⟨i2,ei2⟩:∃i2,i2=Heap.empty.next:=⟨_,rfl⟩
 obtain⟨h1,eh1⟩:∃h1,h1=Heap.empty.new ca:=⟨_,rfl⟩
 have ho1:an h1:=by rw[eh1];exact an.empty.new _
 have a1' :h1.at_ i2 0=some ca:=by rw[eh1,ei2];exact aY _
 obtain⟨i3,ei3⟩:∃i3,i3=h1.next:=⟨_,rfl⟩
 obtain⟨h2,eh2⟩:∃h2,h2=h1.new cb:=⟨_,rfl⟩
 have a2' :h2.at_ i2 0=some ca:=by rw[eh2];exact(cz ho1 _).2 _ _ _ a1'
 have b2' :h2.at_ i3 0=some cb:=by rw[eh2,ei3];exact aY _
 have y1:(AV.agg ca).row=some ca:=rfl
 have y2:ca.length=6:=by rw[ea'];rfl
 have y3:(AV.agg cb).row=some cb:=rfl
 have y4:cb.length=6:=by rw[eb'];rfl
 rw[ea']at a2'
 rw[eb']at b2'
 have p0:=eK a2'
 have p1:=gj a2'
 have p2:=gk a2'
 have p3:=iz a2'
 have p4:=eU a2'
 have p5:=dZ a2'
 have q0:=eK b2'
 have q1:=gj b2'
 have q2:=gk b2'
 have q3:=iz b2'
 have q4:=eU b2'
 have q5:=dZ b2'
 have n1:∀h,aN false h (aM nf ns.length (bN ns))=some ⟨.int .i64 ns.length,h,.none⟩:=fun h=>bX _ _ _ (fun _=>trivial) h
 have n2:∀h,aN false h (aM nf' ns'.length (bN ns'))=some ⟨.int .i64 ns'.length,h,.none⟩:=fun h=>bX _ _ _ (fun _=>trivial) h
 have n3:∀h,aN false h (aM af ar.length (bq ar))=some ⟨.int .i64 ar.length,h,.none⟩:=fun h=>bX _ _ _ (fun _=>trivial) h
 have n4:∀h,aN false h (aM af' ar'.length (bq ar'))=some ⟨.int .i64 ar'.length,h,.none⟩:=fun h=>bX _ _ _ (fun _=>trivial) h
 by_cases c0:k=k'
 case neg=>
  have z0:(k !=k')=true:=by simp;omega
  have er:kQ a b=false:=by rw[es];simp[c0]
  simp only[a19,yx,yy,B_,ah.bbw,aw,reduceIte,Nat.reduceEqDiff,y1,y2,y3,y4,←eh1,←eh2,←ei2,←ei3,au,baf,aL,p0,q0,z0]
  exact rE (by simp only[aa,reduceIte,Nat.reduceEqDiff];rw[er]) rfl
 have z0:(k !=k')=false:=by simp;omega
 by_cases c1:i=i'
 case neg=>
  have z1:(i !=i')=true:=by simp;omega
  have er:kQ a b=false:=by rw[es];simp[c1]
  simp only[a19,yx,yy,B_,ah.bbw,aw,reduceIte,Nat.reduceEqDiff,y1,y2,y3,y4,←eh1,←eh2,←ei2,←ei3,au,baf,aL,p0,p1,q0,q1,z0,z1]
  exact rE (by simp only[aa,reduceIte,Nat.reduceEqDiff];rw[er]) rfl
 have z1:(i !=i')=false:=by simp;omega
 by_cases c2:s=s'
 case neg=>
  have z2:(!(s==s'))=true:=by simpa using c2
  have er:kQ a b=false:=by rw[es];simp[c2]
  simp only[a19,yx,yy,B_,ah.bbw,aw,reduceIte,Nat.reduceEqDiff,y1,y2,y3,y4,←eh1,←eh2,←ei2,←ei3,au,baf,aL,aD,p0,p1,p2,q0,q1,q2,z0,z1,z2]
  exact rE (by simp only[aa,reduceIte,Nat.reduceEqDiff];rw[er]) rfl
 have z2:(!(s==s'))=false:=by simpa using c2
 by_cases c3:c=c'
 case neg=>
  have z3:(c !=c')=true:=by simp;omega
  have er:kQ a b=false:=by rw[es];simp[c3]
  simp only[a19,yx,yy,B_,ah.bbw,aw,reduceIte,Nat.reduceEqDiff,y1,y2,y3,y4,←eh1,←eh2,←ei2,←ei3,au,baf,aL,aD,p0,p1,p2,p3,q0,q1,q2,q3,z0,z1,z2,z3]
  exact rE (by simp only[aa,reduceIte,Nat.reduceEqDiff];rw[er]) rfl
 have z3:(c !=c')=false:=by simp;omega
 by_cases c4:ns.length=ns'.length
 case neg=>
  have z4:((ns.length:Int) !=(ns'.length:Int))=true:=by simp;omega
  have er:kQ a b=false:=by rw[es];simp[c4]
  simp only[a19,yx,yy,B_,ah.bbw,aw,reduceIte,Nat.reduceEqDiff,y1,y2,y3,y4,←eh1,←eh2,←ei2,←ei3,au,baf,aL,aD,p0,p1,p2,p3,p4,q0,q1,q2,q3,q4,n1,n2,z0,z1,z2,z3,z4]
  exact rE (by simp only[aa,reduceIte,Nat.reduceEqDiff];rw[er]) rfl
 have z4:((ns.length:Int) !=(ns'.length:Int))=false:=by simp;omega
 by_cases c5:ar.length=ar'.length
 case neg=>
  have z5:((ar.length:Int) !=(ar'.length:Int))=true:=by simp;omega
  have er:kQ a b=false:=by rw[es];simp[c5]
  simp only[a19,yx,yy,B_,ah.bbw,aw,reduceIte,Nat.reduceEqDiff,y1,y2,y3,y4,←eh1,←eh2,←ei2,←ei3,au,baf,aL,aD,p0,p1,p2,p3,p4,p5,q0,q1,q2,q3,q4,q5,n1,n2,n3,n4,z0,z1,z2,z3,z4,z5]
  exact rE (by simp only[aa,reduceIte,Nat.reduceEqDiff];rw[er]) rfl
 have z5:((ar.length:Int) !=(ar'.length:Int))=false:=by simp;omega
 have er:kQ a b=(ns==ns' &&kN ar ar'):=by rw[es];simp[c0,c1,c2,c3,c4,c5]
 simp only[a19,yx,yy,ae3,ah.bbw,aw,reduceIte,Nat.reduceEqDiff,y1,y2,y3,y4,←eh1,←eh2,←ei2,←ei3,au,baf,aL,aD,p0,p1,p2,p3,p4,p5,q0,q1,q2,q3,q4,q5,n1,n2,n3,n4,z0,z1,z2,z3,z4,z5]
 refine TV (i2:=i2) (i3:=i3) p4 q4 c4 sn (ns.length+1) 0 _ (by omega) (by omega) ?_ ?_ ?_ fun σ' =>⟨fun g e=> ?_,fun g2 g3 e=> ?_⟩
 ·simp only[aa,reduceIte,Nat.reduceEqDiff]
 ·simp only[aa,reduceIte,Nat.reduceEqDiff]
 ·simp only[aa,reduceIte,Nat.reduceEqDiff];rfl
 ·have e:(ns==ns')=false:=by simpa using e
  simp only[aw]
  exact rE g (by rw[er,e];rfl)
 have e:(ns==ns')=true:=by simpa using e
 rw[e,bbb]at er
 simp only[ae6,aw,reduceIte]
 refine TW (i2:=i2) (i3:=i3) p5 q5 hP sr' c5 sa (ar.length+1) 0 _ (by omega) (by omega) ?_ ?_ ?_ fun σ' =>⟨fun g e=> ?_,fun e=> ?_⟩
 ·simp only[aa,reduceIte,Nat.reduceEqDiff,g2]
 ·simp only[aa,reduceIte,Nat.reduceEqDiff,g3]
 ·simp only[aa,reduceIte];rfl
 ·simp only[aw]
  exact rE g (by rw[er];rw[bah,bah]at e;rw[e])
 ·rw[bah,bah]at e
  simp only[X8,aw,reduceIte]
  exact rE (by simp only[aa,reduceIte];rw[er,e]) rfl
end Go.Bf
namespace Go.Bf
open Go.AM
theorem adp:∀a b:Tm,kQ a b=true↔er a=er b:=by
 refine j7 fun k i s c nf ns af ar ih b=> ?_
 rcases b with⟨k',i',s',c',nf',ns',af',ar'⟩
 have go:∀(l m:List Tm),(∀t,t∈l→t∈ar)→(kN l m=true↔kY l=kY m):=by
  intro l
  induction l with
  |nil=>intro m _;cases m<;>simp[kN,kY]
  |cons x l ihl=>
   intro m hl;cases m with
   |nil=>simp[kN,kY]
   |cons y m=>
    rw[kN,bau,ih x (hl x (by simp)) y,ihl m (fun t h=>hl t (by simp[h])),kY,kY,List.cons.injEq]
 have g:=go ar ar' (fun _ h=>h)
 rw[kQ,er,er];simp only[bau,beq_iff_eq,g,Tm.mk.injEq,true_and]
 constructor
 ·rintro⟨⟨⟨⟨⟨⟨⟨h1,h2⟩,h3⟩,h4⟩,_⟩,_⟩,h7⟩,h8⟩
  exact⟨h1,h2,h3,h4,h7,h8⟩
 ·rintro⟨h1,h2,h3,h4,h7,h8⟩
  have:ar.length=ar'.length:=by rw[←eE ar,h8,eE]
  exact⟨⟨⟨⟨⟨⟨⟨h1,h2⟩,h3⟩,h4⟩,by rw[h7]⟩,this⟩,h7⟩,h8⟩
theorem adq (t:Tm):(er t).kind=t.kind:=by cases t;rfl
theorem j8 (a b:Int):cP b a= -cP a b:=by
 unfold cP
 repeat' split
 all_goals omega
theorem EM:∀a b:List UInt8,cmpL b a= -cmpL a b
 |[],[]=>rfl
 |[],_::_=>rfl
 |_::_,[]=>rfl
 |a::l,b::m=>by
  have ih:=EM l m
  rw[cmpL,cmpL,ih]
  repeat' split
  all_goals omega
theorem TX (a b:List UInt8):iy b a= -iy a b:=by rw[←cmpL_eq,←cmpL_eq];exact EM a b
theorem CM:∀a b:List Int,gq b a= -gq a b
 |[],[]=>rfl
 |[],_::_=>rfl
 |_::_,[]=>rfl
 |a::l,b::m=>by
  rw[gq,gq,j8 a b,CM l m]
  by_cases h:cP a b=0
  ·rw[if_neg (by omega),if_neg (by omega)]
  ·rw[if_pos (by omega),if_pos (by omega)]
theorem TY (a b:Int):yw [-a,-b]= -yw [a,b]:=by
 by_cases h1:a=0<;>by_cases h2:b=0<;>simp[yw,h1,h2]
theorem TZ (a b c:Int):yw [-a,-b,-c]= -yw [a,b,c]:=by
 by_cases h1:a=0<;>by_cases h2:b=0<;>by_cases h3:c=0<;>simp[yw,h1,h2,h3]
theorem VR:∀a b:Tm,bV b a= -bV a b:=by
 refine j7 fun k i s c nf ns af ar ih b=> ?_
 rcases b with⟨k',i',s',c',nf',ns',af',ar'⟩
 have g1:∀(l m:List Tm),(∀t,t∈l→t∈ar)→jH m l= -jH l m:=by
  intro l
  induction l with
  |nil=>intro m _;cases m<;>rfl
  |cons x l ihl=>
   intro m hl;cases m with
   |nil=>rfl
   |cons y m=>
    rw[jH,jH,ih x (hl x (by simp)) y,ihl m (fun t h=>hl t (by simp[h]))]
    by_cases h:bV x y=0
    ·rw[if_neg (by omega),if_neg (by omega)]
    ·rw[if_pos (by omega),if_pos (by omega)]
 have g2:∀(l m:List Tm),(∀t,t∈l→t∈ar)→gF m l= -gF l m:=by
  intro l
  induction l with
  |nil=>intro m _;cases m<;>rfl
  |cons x l ihl=>
   intro m hl;cases m with
   |nil=>rfl
   |cons y m=>
    rw[gF,gF,ih x (hl x (by simp)) y,ihl m (fun t h=>hl t (by simp[h]))]
    by_cases h1:l.length=0
    ·by_cases h2:m.length=0
     ·rw[if_pos h1,if_pos h2,if_pos h2,if_pos h1]
     ·rw[if_neg h2,if_pos h1,if_pos h1,if_neg h2,j8]
    ·by_cases h2:m.length=0
     ·rw[if_pos h2,if_neg h1,if_neg h1,if_pos h2,j8]
     ·rw[if_neg h2,if_neg h1,if_neg h1,if_neg h2]
      by_cases h:bV x y=0
      ·rw[if_neg (by omega),if_neg (by omega)]
      ·rw[if_pos (by omega),if_pos (by omega)]
 have f1:=g1 ar ar' (fun _ h=>h)
 have f2:=g2 ar ar' (fun _ h=>h)
 rw[bV,bV]
 by_cases hk:k=k'
 ·subst hk
  rw[if_neg (show¬k≠k by simp),if_neg (show¬k≠k by simp),j8 i i',TX s s',j8 c c',CM ns ns',j8 (ar.length:Int) ar'.length,f1,f2,TZ,TY]
  split
  ·rfl
  split
  ·rfl
  split
  ·rfl
  split
  ·rfl
  split
  ·rfl
  ·rfl
 ·rw[if_pos (fun h=>hk h.symm),if_pos hk,j8]
end Go.Bf
namespace Go.Bf
open Go.AM
def bZ:Tm:=.mk 0 0 [] 0 none [] none []
theorem bc:tc bZ=aK:=rfl
theorem oF:bZ.Ok:=by
 rw[bZ,Tm.Ok,gW];exact⟨⟨by decide,by decide⟩,⟨by decide,by decide⟩,⟨by decide,by decide⟩,by simp,by decide,by decide,by decide,trivial⟩
theorem T0 {ts:List Tm} (hok:gW ts) (r0:∀t,t∈ts→dk t=true) {v:AV} (kv:Sl v ts) (hlen:ts.length<1000000) {Q:aU→St→Prop}:
  ∀(f i:Nat) (σ:ah) (h:Heap),ts.length-i<f→i≤ts.length→an h→σ.get 25=v→σ.get 26=.int .i64 ts.length→σ.get 27=.int .i64 i→
  (∀σ' h',an h' →h.le h' →(∀n,n<8→σ'.get n=σ.get n)→Q (.exit 0) ⟨σ',h'⟩)→kz env k8 ⟨σ,h⟩ Q:=by
 intro f
 induction f with
 |zero=>intro i σ h h1;omega
 |succ f ih=>
  intro i σ h hf hi ho g25 g26 g27 hQ;refine aC fun b hb=> ?_
  by_cases c1:i<ts.length
  ·have z0:((i:Int)<(ts.length:Int))=True:=eq_true (by omega)
   have zi:IntKind.wrap .i64 ((i:Int)+1)=((i+1:Nat):Int):=aX (by omega) (by omega)
   have lx:=kv.idx c1
   have ld:=fK c1 h
   obtain⟨h3,st3,ho3,le3,at3⟩:=kH ho ts[i]
   have lt3:=lM at3
   have q1:=pq ts[i]
   rw[r0 _ (bas c1)]at q1
   simp only[k8,Js,Ql,Qm,Qn,LF,aw,reduceIte,Nat.reduceEqDiff,g25,g26,g27,z0,zi,lx,ld,st3,lt3,ai (eT ts[i] (hok.get (bas c1)) _),q1,baj]
   subst hb;refine ih (i+1) _ h3 (by omega) (by omega) ho3 ?_ ?_ ?_ fun σ' h' p1 p2 p3=>hQ σ' h' p1 ⟨bal le3.1 p2.1,fun id gen cs e=>p2.2 _ _ _ (le3.2 _ _ _ e)⟩ fun n hn=> ?_
   ·simp only[aa,reduceIte,Nat.reduceEqDiff,g25]
   ·simp only[aa,reduceIte,Nat.reduceEqDiff,g26]
   ·simp only[aa,reduceIte,Nat.reduceEqDiff]
   ·rw[p3 n hn]
    simp only[aa]
    by_cases e8:n=8
    ·omega
    repeat rw[if_neg (by omega)]
  ·have z0:((i:Int)<(ts.length:Int))=False:=eq_false (by omega)
   simp only[k8,Js,aw,reduceIte,g26,g27,z0]
   refine hQ _ h ho (Heap.le_refl h) fun n hn=> ?_
   simp only[aa]
   rw[if_neg (by omega)]
theorem alj {h:Heap} {i:Nat} {u t:Tm} (hat:h.at_ i 0=some (tc u)):bC h 6 (.ptr i 0 0) (.agg (tc t))=some ⟨.undef,h.cD i 0 (tc t),.write⟩:=by
 cases u with
 |mk k i s c nf ns af ar=>cases t with
  |mk k' i' s' c' nf' ns' af' ar' =>exact st6 hat
section
variable {name : List UInt8} {ts : List Tm} {v : AV} (hok : gW ts) (r0 : ∀ t, t ∈ ts → dk t = true) (kv : Sl v ts) (hlen : ts.length < 1000000) {a b c d : AV} (hf : cx name ts.length =.aF [.agg [a, b, c, d],.bool true])
include hok r0 kv hlen hf
theorem aaw {Q:aU→St→Prop} (hQ:∀σ h i4,an h→h.at_ i4 0=some aK→σ.get 0=.str name→σ.get 1=v→σ.get 4=.ptr i4 0 0→
   jK env (.seq (.ops pr) (.seq (.seq (.ops pt) (.cond (.t 62) (.ops tB) .skip)) (.seq (.seq (.ops pv) (.cond (.t 64) (.seq (.ops qP) .ret) .skip)) (.seq (.ops tC) .ret)))) ⟨σ,h⟩ Q):
  jK env a18.body ⟨ah.bbw 0 [.str name,v] .empty,.empty⟩ Q:=by
 obtain⟨i4,e4⟩:∃i4,i4=Heap.empty.next:=⟨_,rfl⟩
 obtain⟨h1,eh1⟩:∃h1,h1=Heap.empty.new [.int .i64 0,.int .i64 0,.str [],.int .u32 0,.ax,.ax]:=⟨_,rfl⟩
 have ho1:an h1:=by rw[eh1];exact an.empty.new _
 have a1:h1.at_ i4 0=some aK:=by rw[eh1,e4];exact aY _
 obtain⟨h2,s2,ho2,hl2,a2⟩:=abA ho1 a b c d
 have fs:∀h,WC env 13 [.str name,.int .i64 ts.length] h (fun o=>o=.ret ⟨.aF [.agg [a,b,c,d],.bool true],h,.none⟩):=fun h=>by rw[←hf];exact find_spec h name ts.length
 have nl:=kv.len;have eb:a18.body=(.seq (.ops DZ) (.seq (.seq (.ops D0) (.seq (.ops D1) (.cond (.t 22) (.seq (.ops Qo) .ret) .skip))) (.seq (.seq (.ops Jt) (.block 0 (.loop k8))) (.seq (.ops pr) (.seq (.seq (.ops pt) (.cond (.t 62) (.ops tB) .skip)) (.seq (.seq (.ops pv) (.cond (.t 64) (.seq (.ops qP) .ret) .skip)) (.seq (.ops tC) .ret))))))):=rfl
 rw[eb,cN];obtain⟨R,eR⟩:∃R,R=AC.seq (.ops pr) (.seq (.seq (.ops pt) (.cond (.t 62) (.ops tB) .skip)) (.seq (.seq (.ops pv) (.cond (.t 64) (.seq (.ops qP) .ret) .skip)) (.seq (.ops tC) .ret))):=⟨_,rfl⟩
 rw[←eR];rw[←eR]at hQ
 simp only[DZ,D0,D1,Jt,ah.bbw,aw,reduceIte,Nat.reduceEqDiff,←eh1,←e4,nl,ai (fs _),cm,SJ,SK,s2,dm,baj]
 refine T0 hok r0 kv hlen (ts.length+1) 0 _ h2 (by omega) (by omega) ho2 ?_ ?_ ?_ fun σ' h' p1 p2 p3=> ?_
 ·simp only[aa,reduceIte,Nat.reduceEqDiff]
 ·simp only[aa,reduceIte,Nat.reduceEqDiff]
 ·simp only[aa,reduceIte,Nat.reduceEqDiff];rfl
 refine hQ σ' h' i4 p1 (p2.2 _ _ _ (hl2.2 _ _ _ a1)) ?_ ?_ ?_
 ·rw[p3 0 (by omega)];simp only[aa,reduceIte,Nat.reduceEqDiff]
 ·rw[p3 1 (by omega)];simp only[aa,reduceIte,Nat.reduceEqDiff]
 ·rw[p3 4 (by omega)];simp only[aa,reduceIte,Nat.reduceEqDiff]
theorem S_ {r:Tm} (okr:r.Ok) (hr:dk r=true) (hc:∀h,WC env 38 [.str name,v] h (fun o=>o=.ret ⟨.aF [.agg (tc r),.int .i64 0],h,.none⟩)):
  ∃r' :Tm,r'.Ok∧er r' =er r∧∀h,WC env 18 [.str name,v] h (fun o=>o=.ret ⟨.aF [.agg (tc r'),.bL],h,.none⟩):=by
 obtain⟨r',ok',er',wc'⟩:=xu r okr (dL hr)
 refine⟨r',ok',er',fun h=>ad rfl rfl rfl (by simp only[bdk,kv.ae]) (aaw hok r0 kv hlen hf fun σ h1 i4 ho1 a4 g0 g1 g4=> ?_)⟩
 obtain⟨h2,s2,ho2,hl2,a2⟩:=kH ho1 r
 have l2:=lM a2
 have sx:=alj (t:=r') (u:=bZ) (hl2.2 _ _ _ a4)
 have l6:bg (h2.cD i4 0 (tc r')) true 6 (.ptr i4 0 0)=some ⟨.agg (tc r'),h2.cD i4 0 (tc r'),.read⟩:=lM bD
 have q1:=pq r
 rw[hr]at q1
 simp only[pr,pt,pv,tC,aw,reduceIte,Nat.reduceEqDiff,g0,g1,g4,ai (hc _),cm,SJ,SK,s2,Int.reduceBEq,Int.reduceBNe,l2,ai (eT r okr _),q1,baj,aL,ai (wc' _),sx]
 exact⟨[.agg (tc r'),.bL],.aF [.agg (tc r'),.bL],by simp only[a18,Env.results,aa,reduceIte,Nat.reduceEqDiff,g4,l6,jab]<;>rfl,(ay (v:=.aF [.agg (tc r'),.bL]) (by simp only[bdk,az])).2 rfl,rfl⟩
theorem LK {r:Tm} (okr:r.Ok) (hr:dk r=false) (hc:∀h,WC env 38 [.str name,v] h (fun o=>o=.ret ⟨.aF [.agg (tc r),.int .i64 0],h,.none⟩)) (h:Heap):
  WC env 18 [.str name,v] h (fun o=>o=.ret ⟨.aF [.agg aK,Ij 262],h,.none⟩):=by
 refine ad rfl rfl rfl (by simp only[bdk,kv.ae]) (aaw hok r0 kv hlen hf fun σ h1 i4 ho1 a4 g0 g1 g4=> ?_)
 obtain⟨h2,s2,ho2,hl2,a2⟩:=kH ho1 r
 have l2:=lM a2
 have sx:bC h2 6 (.ptr i4 0 0) (.agg aK)=some ⟨.undef,h2.cD i4 0 aK,.write⟩:=st6 (hl2.2 _ _ _ a4)
 have l6:bg (h2.cD i4 0 aK) true 6 (.ptr i4 0 0)=some ⟨.agg aK,h2.cD i4 0 aK,.read⟩:=vy bD
 have y5:bY [.int .i64 0,.int .i64 0,.str [],.int .u32 0,.ax,.ax] []=some aK:=rfl
 have q1:=pq r
 rw[hr]at q1
 simp only[pr,pt,tB,pv,qP,aw,reduceIte,Nat.reduceEqDiff,g0,g1,g4,ai (hc _),cm,SJ,SK,s2,Int.reduceBEq,Int.reduceBNe,l2,ai (eT r okr _),q1,bak,aL,y5,ai (pz _ _),sx]
 exact⟨[.agg aK,Ij 262],.aF [.agg aK,Ij 262],by simp only[a18,Env.results,aa,reduceIte,Nat.reduceEqDiff,g4,l6,jab]<;>rfl,(ay (v:=.aF [.agg aK,Ij 262]) rfl).2 rfl,rfl⟩
theorem Eb {r:Tm} {cd:Int} (hcd:cd≠0) (hc:∀h,WC env 38 [.str name,v] h (fun o=>o=.ret ⟨.aF [.agg (tc r),.int .i64 cd],h,.none⟩)) (h:Heap):
  WC env 18 [.str name,v] h (fun o=>o=.ret ⟨.aF [.agg aK,Ij cd],h,.none⟩):=by
 refine ad rfl rfl rfl (by simp only[bdk,kv.ae]) (aaw hok r0 kv hlen hf fun σ h1 i4 ho1 a4 g0 g1 g4=> ?_)
 obtain⟨h2,s2,ho2,hl2,a2⟩:=kH ho1 r
 have sx:bC h2 6 (.ptr i4 0 0) (.agg aK)=some ⟨.undef,h2.cD i4 0 aK,.write⟩:=st6 (hl2.2 _ _ _ a4)
 have l6:bg (h2.cD i4 0 aK) true 6 (.ptr i4 0 0)=some ⟨.agg aK,h2.cD i4 0 aK,.read⟩:=vy bD
 have y5:bY [.int .i64 0,.int .i64 0,.str [],.int .u32 0,.ax,.ax] []=some aK:=rfl
 have u0:(cd==0)=false:=by simpa using hcd
 have u1:(cd !=0)=true:=by simpa using hcd
 simp only[pr,pt,pv,qP,aw,reduceIte,Nat.reduceEqDiff,g0,g1,g4,ai (hc _),cm,SJ,SK,s2,u0,aL,u1,y5,ai (pz _ _),sx]
 exact⟨[.agg aK,Ij cd],.aF [.agg aK,Ij cd],by simp only[a18,Env.results,aa,reduceIte,Nat.reduceEqDiff,g4,l6,jab]<;>rfl,(ay (v:=.aF [.agg aK,Ij cd]) rfl).2 rfl,rfl⟩
end
end Go.Bf
namespace Go.Bf
open Go.AM
theorem Su:∀l:List Tm,cf (kY l)=cf l
 |[]=>rfl
 |[t]=>by rw[kY,kY,cf,cf,adq]
 |t::u::l=>Su (u::l)
theorem aax (t:Tm) (x y z:Bool):b7 (er t) x y z=b7 t x y z:=by
 cases t;rw[er,b7,b7,eE]
theorem T1 (t:Tm):kindOk (er t)=kindOk t:=by
 cases t with
 |mk k i s c nf ns af ar=>
  have e:=aax (.mk k i s c nf ns af ar)
  rw[er]at e⊢
  rw[kindOk,kindOk];simp only[e,eE,Su]
theorem adr (t:Tm):bw (er t)=bw t:=by
 cases t with
 |mk k i s c nf ns af ar=>
  have e:=T1 (.mk k i s c nf ns af ar)
  rw[er]at e⊢
  rw[bw,bw,e]
theorem ads:∀t deep n d,cR (er t) deep n d=cR t deep n d:=by
 refine j7 fun k i s c nf ns af ar ih deep n d=> ?_
 have go:∀(l:List Tm),(∀t,t∈l→t∈ar)→∀deep n d,cH (kY l) deep n d=cH l deep n d:=by
  intro l
  induction l with
  |nil=>intro _ _ _ _;rfl
  |cons t l ihl=>
   intro hl deep n d;rw[kY,cH,cH,ih t (hl t (by simp))]
   split
   ·exact ihl (fun t h=>hl t (by simp[h])) _ _ _
   ·rfl
 have e:=adr (.mk k i s c nf ns af ar)
 rw[er]at e⊢
 rw[cR,cR,e,go ar (fun _ h=>h)]
theorem aay (t:Tm):hJ (er t)=hJ t:=by rw[hJ,ads,←hJ]
theorem aaz {a b:Tm} (h:er a=er b):hJ a=hJ b:=by rw[←aay a,h,aay]
theorem JA {a b:Tm} (h:er a=er b):dk a=dk b:=by rw[dk,dk,aaz h]
theorem abB {a b:Tm} (h:er a=er b):kQ a b=true:=(adp a b).2 h
end Go.Bf
