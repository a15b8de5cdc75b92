/- For BifCalls. -/
import Derived.Test.YtaielgjmhbjfhaaGreatDoorBfLists2
set_option linter.unusedVariables false
set_option maxRecDepth 20000
namespace Go.Bf
open Go.AM
def qN:Int×Int×CQ→List A1
 |(a,c,none)=>[([116,101,114,109],a,c)]
 |(a,c,some (p,d))=>[([116,101,114,109],a,c),([97,116,111,109],p,d)]
theorem S6 (x:Int×Int×CQ):gV (some x)=eI (qN x):=by
 rcases x with⟨a,c,_|⟨p,d⟩⟩<;>rfl
def nh (j:Int) (x:Int×Int×CQ):List A1:=([98,105,102],j,x.2.1)::qN x
theorem U6 (j:Int) (x:Int×Int×CQ):(nh j x).length≤3∧0<(nh j x).length:=by
 rcases x with⟨a,c,_|⟨p,d⟩⟩<;>exact⟨by simp[nh,qN],by simp[nh,qN]⟩
theorem Jr:∀(L:List A1) (i:Nat) (hi:i<L.length),(eF L).drop (i*3)=eF (L.drop i)
 |[],i,h=>by simp at h
 |x::L,0,h=>by simp
 |(s,a,c)::L,i+1,h=>by
  have e:(i+1)*3=i*3+3:=by omega
  rw[e,eF,List.drop_succ_cons,List.drop_succ_cons,List.drop_succ_cons,List.drop_succ_cons];exact Jr L i (by simpa using h)
theorem zu {f:Option Bool} {L:List A1} {i:Nat} (hi:i<L.length):aZ 3 (aM f L.length (eF L)) (.int .i64 i)=some (.fp (eF (L.drop i))):=by
 have hl:=qO L
 have go:∀b,aZ 3 (.fs b L.length (eF L)) (.int .i64 i)=some (.fp (eF (L.drop i))):=by
  intro b;rw[←Jr L i hi];cases e:eF L with
  |nil=>rw[e]at hl;simp at hl;omega
  |cons c cs=>
   simp only[aZ,gO (kd:=.i64) hi,baq]
 cases f with
 |none=>
  cases n:L.length with
  |zero=>omega
  |succ n=>have:=go false;rw[n]at this;exact this
 |some b=>exact go b
theorem vv (f:Option Bool) (L:List A1) (h:Heap):aN false h (aM f L.length (eF L))=some ⟨.int .i64 L.length,h,.none⟩:=by
 cases f with
 |none=>cases L<;>rfl
 |some b=>rfl
theorem agR {L:List A1} {i:Nat} (hi:i<L.length):bp true 3 (eF (L.drop i))=some (.agg [.str L[i].1,.int .i64 L[i].2.1,.int .i64 L[i].2.2]):=by
 rw[bat hi]
 rcases L[i]with⟨s,a,c⟩
 rfl
theorem Qk {L:List A1} {i:Nat} (hi:i<L.length):bp false 1 ((eF (L.drop i)).drop 2)=some (.int .i64 L[i].2.2):=by
 rw[bat hi]
 rcases L[i]with⟨s,a,c⟩
 rfl
theorem si (f:Option Bool) (L:List A1):(aM f L.length (eF L)).ae=true:=by
 cases f with
 |none=>
  cases L with
  |nil=>rfl
  |cons x L=>exact po (x::L)
 |some b=>exact po L
theorem abz (l:List UInt8) (a c:Int):uS (.struct [(0,1,false,.str),(1,1,false,.int),(2,1,false,.int)]) (.agg [.str l,.int .i64 a,.int .i64 c]) (.agg [.str l,.int .i64 a,.int .i64 c])=some true:=by
 simp[uS,SB,fU]
theorem vw {f:Nat} {p:List AV→Heap→Option (AV×Heap)} {args:List AV} {h h' :Heap} {v:AV} (hp:env.nU f=some p) (hv:p args h=some (v,h')):WC env f args h (fun o=>o=.ret ⟨v,h',.write⟩):=by
 refine⟨_,⟨1,fun m hm=> ?_⟩,rfl⟩
 obtain⟨m,rfl⟩:∃k,m=k+1:=⟨m-1,by omega⟩
 simp only[Env.call,hp,hv,baq]
theorem agS:∀(L:List A1) (h0:0<L.length),L.length≤3→∀h,WC env 46 [eI L,.fN 67 (.int .i64 L[L.length-1].2.2)] h (fun o=>o=.ret ⟨.bool true,h,.write⟩)
 |[],h0,_,h=>by simp at h0
 |[(s,a,c)],_,_,h=>vw (p:=isP) rfl (by simp[isP,eI])
 |[(s,a,c),(s2,a2,c2)],_,_,h=>vw (p:=isP) rfl (by simp[isP,eI])
 |[(s,a,c),(s2,a2,c2),(s3',a3,c3)],_,_,h=>vw (p:=isP) rfl (by simp[isP,eI])
 |_::_::_::_::_,_,h3',h=>by simp at h3'
theorem Fh {L:List A1} {f g:Option Bool} (hlen:L.length<1000) {h:Heap} {Q:aU→St→Prop}:∀(k i:Nat) (σ:ah),L.length-i<k→i≤L.length→
  σ.get 5=aM f L.length (eF L)→σ.get 1=aM g L.length (eF L)→σ.get 6=.int .i64 i→(∀σ',σ'.get 0=σ.get 0→σ'.get 1=σ.get 1→Q (.exit 0) ⟨σ',h⟩)→kz env vx ⟨σ,h⟩ Q:=by
 intro k
 induction k with
 |zero=>intro i σ h1;omega
 |succ k ih=>
  intro i σ hk hi g5 g1 g6 hQ;refine aC fun b hb=> ?_
  have ln:=fun h=>vv g L h
  by_cases c1:i<L.length
  ·have z0:((i:Int)<(L.length:Int))=True:=eq_true (by omega)
   have zi:IntKind.wrap .i64 ((i:Int)+1)=((i+1:Nat):Int):=aX (by omega) (by omega)
   have x1:=zu (f:=f) c1
   have x2:=zu (f:=g) c1
   have ld:=agR c1
   simp only[vx,U7,aw,reduceIte,Nat.reduceEqDiff,g1,g6,ln,z0]
   refine aB ?_
   simp only[aeq,U8,aw,reduceIte,Nat.reduceEqDiff,k3,aW,g1,g5,g6,x1,x2,ld,abz,baj,zi]
   refine⟨rfl,?_⟩
   subst hb;refine ih (i+1) _ (by omega) (by omega) ?_ ?_ ?_ fun σ' p0 p1=>hQ σ' ?_ ?_
   ·simp only[aa,reduceIte,Nat.reduceEqDiff,g5]
   ·simp only[aa,reduceIte,Nat.reduceEqDiff,g1]
   ·simp only[aa,reduceIte,Nat.reduceEqDiff]
   ·rw[p0];simp only[aa,reduceIte,Nat.reduceEqDiff]
   ·rw[p1];simp only[aa,reduceIte,Nat.reduceEqDiff]
  ·have z0:((i:Int)<(L.length:Int))=False:=eq_false (by omega)
   simp only[vx,U7,aw,reduceIte,Nat.reduceEqDiff,g1,g6,ln,z0]
   refine hQ _ ?_ ?_
   ·simp only[aa,reduceIte,Nat.reduceEqDiff]
   ·simp only[aa,reduceIte,Nat.reduceEqDiff]
theorem CY {L:List A1} (h0:0<L.length) (h3' :L.length≤3) (g:Option Bool) (h:Heap):WC env 26 [eI L,aM g L.length (eF L)] h (fun o=>o=.ret ⟨.bool true,h,.none⟩):=by
 obtain⟨f,wch⟩:=LC L (by omega)
 have ln:=fun h=>vv g L h
 have lf:=fun h=>vv f L h
 have z0:(((L.length:Nat):Int)==0)=false:=by rw[beq_eq_false_iff_ne];omega
 have z1:(((L.length:Nat):Int) !=(L.length:Int))=false:=by simp
 have w1:IntKind.wrap .i64 ((L.length:Int)-1)=((L.length-1:Nat):Int):=aX (by omega) (by omega)
 have x2:=zu (f:=g) (L:=L) (i:=L.length-1) (by omega)
 have ld:=Qk (L:=L) (i:=L.length-1) (by omega)
 have wi:=agS L h0 h3'
 refine ad rfl rfl rfl (by simp only[AV.aj,jU,si,baa]) ?_
 have eb:a26.body=(.seq (.ops U9) (.seq (.seq (.ops U_) (.cond (.t 9) (.seq (.ops aer) .ret) .skip)) (.seq (.ops Va) (.seq (.seq (.ops Vb) (.cond (.t 18) (.seq (.ops aes) .ret) .skip)) (.seq (.seq (.ops Vc) (.block 0 (.loop vx))) (.seq (.ops LD) .ret)))))):=rfl
 rw[eb];simp only[U9,U_,Va,Vb,Vc,ah.bbw,aw,reduceIte,Nat.reduceEqDiff,ln,lf,z0,z1,ai (wch _)]
 refine Fh (L:=L) (f:=f) (g:=g) (by omega) (L.length+1) 0 _ (by omega) (by omega) ?_ ?_ ?_ fun σ' p0 p1=> ?_
 ·simp only[aa,reduceIte,Nat.reduceEqDiff]
 ·simp only[aa,reduceIte,Nat.reduceEqDiff]
 ·simp only[aa,reduceIte,Nat.reduceEqDiff];rfl
 simp only[aa,reduceIte,Nat.reduceEqDiff]at p0 p1
 simp only[LD,aw,reduceIte,Nat.reduceEqDiff,aW,p0,p1,ln,w1,x2,ld,ai (wi _)]
 exact⟨[.bool true],by simp only[a26,Env.results,baq,aa,reduceIte,Nat.reduceEqDiff],_,(ay (v:=.bool true) rfl).2 rfl,rfl⟩
theorem CZ {ts:List Tm} (hok:gW ts) {v:AV} (kv:Sl v ts) (hlen:ts.length<1000000) {j:Nat} (hj:j<ts.length) (r0:∀i (hi:i<j),dk (ts[i]'(by omega))=true) {x:Int×Int×CQ} (hx:hJ ts[j]=some x) {i4:Nat} {Q:aU→St→Prop}:
  ∀(f i:Nat) (σ:ah) (h:Heap),j-i<f→i≤j→an h→h.at_ i4 0=some aK→σ.get 4=.ptr i4 0 0→σ.get 25=v→σ.get 26=.int .i64 ts.length→σ.get 27=.int .i64 i→
  (∀σ' h',h'.at_ i4 0=some aK→σ'.get 4=.ptr i4 0 0→σ'.get 5=eI (nh j x)→Q .ret ⟨σ',h'⟩)→kz env k8 ⟨σ,h⟩ Q:=by
 intro f
 induction f with
 |zero=>intro i σ h h1;omega
 |succ f ih=>
  intro i σ h hf hi ho a4 g4 g25 g26 g27 hQ;refine aC fun b hb=> ?_
  have c1:i<ts.length:=by omega
  have z0:((i:Int)<(ts.length:Int))=True:=eq_true (by omega)
  have zi:IntKind.wrap .i64 ((i:Int)+1)=((i+1:Nat):Int):=aX (by omega) (by omega)
  have lx:=kv.idx c1
  have ld:=fK c1 h
  obtain⟨h3',st3,ho3,le3,at3⟩:=kH ho ts[i]
  have lt3:=lM at3
  by_cases c2:i<j
  ·have q1:=pq ts[i]
   rw[r0 i c2]at q1
   simp only[k8,Js,Ql,Qm,Qn,LF,aw,reduceIte,Nat.reduceEqDiff,g25,g26,g27,z0,zi,lx,ld,st3,lt3,ai (eT ts[i] (hok.get (bas c1)) _),q1,baj]
   subst hb;refine ih (i+1) _ h3' (by omega) (by omega) ho3 (le3.2 _ _ _ a4) ?_ ?_ ?_ ?_ hQ
   ·simp only[aa,reduceIte,Nat.reduceEqDiff,g4]
   ·simp only[aa,reduceIte,Nat.reduceEqDiff,g25]
   ·simp only[aa,reduceIte,Nat.reduceEqDiff,g26]
   ·simp only[aa,reduceIte,Nat.reduceEqDiff]
  ·have ej:i=j:=by omega
   subst ej;have wk:=eT ts[i] (hok.get (bas c1))
   rw[hx,S6]at wk
   obtain⟨s,a,R,e1⟩:∃s a R,eI (qN x)=.fN 69 (.fp [.str s,.int .i64 a,.int .i64 x.2.1,R]):=by
    rcases x with⟨a,c,_|⟨p,d⟩⟩<;>exact⟨_,_,_,rfl⟩
   have e0:eI (nh i x)=.fN 69 (.fp [.str [98,105,102],.int .i64 i,.int .i64 x.2.1,eI (qN x)]):=rfl
   rw[e0]at hQ
   rw[e1]at wk hQ
   have lt4:=ho.lt a4
   obtain⟨h4,e4⟩:∃h4,h4=h3'.new [.gC]:=⟨_,rfl⟩
   have ho4:an h4:=by rw[e4];exact ho3.new _
   have a5:h4.at_ h3'.next 0=some [.gC]:=by rw[e4];exact aY _
   have wa:=Fi (cs:=[.str s,.int .i64 a,.int .i64 x.2.1,R]) a5 (by simp)
   have sp:bU [AV.gC] 0 [AV.fp [.str s,.int .i64 a,.int .i64 x.2.1,R]]=[AV.fp [.str s,.int .i64 a,.int .i64 x.2.1,R]]:=rfl
   rw[sp]at wa
   obtain⟨h5,e5⟩:∃h5,h5=h4.cD h3'.next 0 [AV.fp [.str s,.int .i64 a,.int .i64 x.2.1,R]]:=⟨_,rfl⟩
   have a6:h5.at_ h3'.next 0=some [AV.fp [.str s,.int .i64 a,.int .i64 x.2.1,R]]:=by rw[e5];exact bD
   rw[←e5]at wa
   have le:=le3.1;have a7:h5.at_ i4 0=some aK:=by
    rw[e5,cw (by omega),e4]
    exact(cz ho3 _).2 _ _ _ (le3.2 _ _ _ a4)
   have sx:bC h5 6 (.ptr i4 0 0) (.agg aK)=some ⟨.undef,h5.cD i4 0 aK,.write⟩:=st6 a7
   have q1:uS (.iface true) (.fN 69 (.fp [.str s,.int .i64 a,.int .i64 x.2.1,R])) .bL=some false:=rfl
   have np:uS .ptr (.fp [.str s,.int .i64 a,.int .i64 x.2.1,R]) .gC=some false:=rfl
   have nc:∀cs,Li (.fp cs)=some (.fp cs):=fun _=>rfl
   have q2:bp false 1 (([.str s,.int .i64 a,.int .i64 x.2.1,R]:List AV).drop 2)=some (.int .i64 x.2.1):=rfl
   have ldn:∀(v:AV) (l:List AV),bp false 1 (v::l)=some v:=fun _ _=>rfl
   have fb:bY [.str [],.int .i64 0,.int .i64 0,.bL] [(0,1,.str [98,105,102]),(1,1,.int .i64 i),(2,1,.int .i64 x.2.1),(3,1,.fN 69 (.fp [.str s,.int .i64 a,.int .i64 x.2.1,R]))]=some [.str [98,105,102],.int .i64 i,.int .i64 x.2.1,.fN 69 (.fp [.str s,.int .i64 a,.int .i64 x.2.1,R])]:=rfl
   simp only[k8,Js,Ql,Qm,Qn,aet,Vd,aw,reduceIte,Nat.reduceEqDiff,g25,g26,g27,z0,lx,ld,st3,lt3,ai (wk _),q1,bak,←e4,ai wa]
   have y5:bY [.int .i64 0,.int .i64 0,.str [],.int .u32 0,.ax,.ax] []=some aK:=rfl
   have ne:¬h3'.next=i4:=by omega
   apply E2
   ·simp only[Ve,aw,reduceIte,Nat.reduceEqDiff,uZ,u4,EZ,o8,pb,y5,aQ,bP,a6,ldn,nc,fw,q2,fb,AV.row,Nat.reduceAdd,g4,sx,jad,jaf]
    refine⟨kW [2] rfl ⟨?_,trivial⟩,rfl⟩
    refine ji (.ptr h3'.next 0 0) (.fp [.str s,.int .i64 a,.int .i64 x.2.1,R]) ?_ ?_
    ·simp only[xQ,aa,reduceIte,Nat.reduceEqDiff]
    ·simp only[jS,lu,bba,List.map_nil,aQ,dC,ne,if_false,a6,ldn,bah,and_self,jab]
   simp only[aw]
   refine hQ _ _ ?_ ?_ ?_
   ·exact bD
   ·simp only[aa,reduceIte,Nat.reduceEqDiff,g4]
   ·simp only[aa,reduceIte,Nat.reduceEqDiff]
theorem Vf {name:List UInt8} {ts:List Tm} (hok:gW ts) {v:AV} (kv:Sl v ts) (hlen:ts.length<1000000) {j:Nat} (hj:j<ts.length) (r0:∀i (hi:i<j),dk (ts[i]'(by omega))=true) {x:Int×Int×CQ} (hx:hJ ts[j]=some x)
  {a b c d:AV} (hf:cx name ts.length=.aF [.agg [a,b,c,d],.bool true]) (h:Heap):WC env 18 [.str name,v] h (fun o=>o=.ret ⟨.aF [.agg aK,eI (nh j x)],h,.none⟩):=by
 refine ad rfl rfl rfl (by simp only[bdk,kv.ae]) ?_
 obtain⟨i4,e4⟩:∃i4,i4=Heap.empty.next:=⟨_,rfl⟩
 obtain⟨h1,eh1⟩:∃h1,h1=Heap.empty.new [.int .i64 0,.int .i64 0,.str [],.int .u32 0,.ax,.ax]:=⟨_,rfl⟩
 have ho1:an h1:=by rw[eh1];exact an.empty.new _
 have a1:h1.at_ i4 0=some aK:=by rw[eh1,e4];exact aY _
 obtain⟨h2,s2,ho2,hl2,a2⟩:=abA ho1 a b c d
 have fs:∀h,WC env 13 [.str name,.int .i64 ts.length] h (fun o=>o=.ret ⟨.aF [.agg [a,b,c,d],.bool true],h,.none⟩):=fun h=>by rw[←hf];exact find_spec h name ts.length
 have nl:=kv.len;have eb:a18.body=(.seq (.ops DZ) (.seq (.seq (.ops D0) (.seq (.ops D1) (.cond (.t 22) (.seq (.ops Qo) .ret) .skip))) (.seq (.seq (.ops Jt) (.block 0 (.loop k8))) (.seq (.ops pr) (.seq (.seq (.ops pt) (.cond (.t 62) (.ops tB) .skip)) (.seq (.seq (.ops pv) (.cond (.t 64) (.seq (.ops qP) .ret) .skip)) (.seq (.ops tC) .ret))))))):=rfl
 rw[eb,cN];obtain⟨R,eR⟩:∃R,R=AC.seq (.ops pr) (.seq (.seq (.ops pt) (.cond (.t 62) (.ops tB) .skip)) (.seq (.seq (.ops pv) (.cond (.t 64) (.seq (.ops qP) .ret) .skip)) (.seq (.ops tC) .ret))):=⟨_,rfl⟩
 rw[←eR];simp only[DZ,D0,D1,Jt,ah.bbw,aw,reduceIte,Nat.reduceEqDiff,←eh1,←e4,nl,ai (fs _),cm,SJ,SK,s2,dm,baj]
 refine CZ hok kv hlen hj r0 hx (i4:=i4) (j+1) 0 _ h2 (by omega) (by omega) ho2 (hl2.2 _ _ _ a1) ?_ ?_ ?_ ?_ fun σ' h' a9 g4 g5=> ?_
 ·simp only[aa,reduceIte,Nat.reduceEqDiff]
 ·simp only[aa,reduceIte,Nat.reduceEqDiff]
 ·simp only[aa,reduceIte,Nat.reduceEqDiff]
 ·simp only[aa,reduceIte,Nat.reduceEqDiff];rfl
 have l6:bg h' true 6 (.ptr i4 0 0)=some ⟨.agg aK,h',.read⟩:=vy a9
 exact⟨[.agg aK,eI (nh j x)],.aF [.agg aK,eI (nh j x)],by simp only[a18,Env.results,g4,g5,l6,jab]<;>rfl,(ay (v:=.aF [.agg aK,eI (nh j x)]) (by simp only[bdk,k9,jU])).2 rfl,rfl⟩
end Go.Bf
namespace Go.Bf
open Go.AM
theorem S7 (j:Int) (x:Int×Int×CQ):∃f,∀h,WC env 43 [.str [98,105,102],.int .i64 j,.int .i64 x.2.1,dP (some x)] h (fun o=>o=.ret ⟨aM f (nh j x).length (eF (nh j x)),h,.none⟩):=by
 rcases x with⟨a,c,_|⟨p,d⟩⟩
 ·exact⟨some false,fun h=>bu (n:=30) (by kernel_rfl)⟩
 ·exact⟨some false,fun h=>bu (n:=30) (by kernel_rfl)⟩
theorem Fj (c:Int) (h:Heap):WC env 42 [.int .i64 0,.int .i64 c] h (fun o=>o=.ret ⟨aM (some true) 1 (eF [([98,105,102],0,c)]),h,.none⟩):=bu (n:=30) (by kernel_rfl)
theorem LG {ts:List Tm} (hok:gW ts) {v:AV} (kv:Sl v ts) (hlen:ts.length<1000000) {m:Nat} (hm:m≤ts.length) (r0:∀i (hi:i<m),dk (ts[i]'(by omega))=true) {h:Heap} {Q:aU→St→Prop}:
  ∀(f i:Nat) (σ:ah),m-i<f→i≤m→σ.get 1=v→σ.get 8=.int .i64 i→
  (∀σ',σ'.get 0=σ.get 0→σ'.get 1=v→σ'.get 4=σ.get 4→σ'.get 8=.int .i64 m→kz env mw ⟨σ',h⟩ Q)→kz env mw ⟨σ,h⟩ Q:=by
 intro f
 induction f with
 |zero=>intro i σ h1;omega
 |succ f ih=>
  intro i σ hf hi g1 g8 hQ
  by_cases c1:i<m
  ·refine aC fun b hb=> ?_
   have c2:i<ts.length:=by omega
   have nl:=kv.len;have z0:((i:Int)<(ts.length:Int))=True:=eq_true (by omega)
   have zi:IntKind.wrap .i64 ((i:Int)+1)=((i+1:Nat):Int):=aX (by omega) (by omega)
   have lx:=kv.idx c2
   have ld:=fK c2 h
   have wk:=jk ts[i] (hok.get (bas c2))
   have zr:(Ju (hJ ts[i])>0)=False:=eq_false (by rw[Qp (r0 i c1)];decide)
   simp only[mw,Qq,Vg,Vh,aeu,aw,reduceIte,Nat.reduceEqDiff,g1,g8,nl,z0,zi,lx,ld,ai (wk _),sj,zr]
   subst hb;refine ih (i+1) _ (by omega) (by omega) ?_ ?_ fun σ' p0 p1 p4 p8=>hQ σ' ?_ p1 ?_ p8
   ·simp only[aa,reduceIte,Nat.reduceEqDiff,g1]
   ·simp only[aa,reduceIte,Nat.reduceEqDiff]
   ·rw[p0];simp only[aa,reduceIte,Nat.reduceEqDiff]
   ·rw[p4];simp only[aa,reduceIte,Nat.reduceEqDiff]
  ·have e:i=m:=by omega
   subst e;exact hQ σ rfl g1 rfl g8
section
variable {name : List UInt8} {ts : List Tm} {v : AV} (hok : gW ts) (kv : Sl v ts) (hlen : ts.length < 1000000) {a b c d : AV} (hf : cx name ts.length =.aF [.agg [a, b, c, d],.bool true])
include hok kv hlen hf
theorem Vi {m:Nat} (hm:m≤ts.length) (r0:∀i (hi:i<m),dk (ts[i]'(by omega))=true) {Q:aU→St→Prop}
  (hQ:∀σ h i4,an h→h.at_ i4 0=some aK→σ.get 0=.str name→σ.get 1=v→σ.get 4=.ptr i4 0 0→σ.get 8=.int .i64 m→
   kz env mw ⟨σ,h⟩ (jt 0 (uV env (.seq (.ops pw) (.seq (.seq (.ops px) (.cond (.t 52) (.seq (.ops tD) .ret) .skip)) (.seq (.seq (.ops qQ) (.cond (.t 59) (.seq (.ops tE) .ret) .skip)) (.seq (.ops tF) .ret)))) Q))):
  jK env Vj.body ⟨ah.bbw 0 [.str name,v] .empty,.empty⟩ Q:=by
 obtain⟨i4,e4⟩:∃i4,i4=Heap.empty.next:=⟨_,rfl⟩
 obtain⟨h1,eh1⟩:∃h1,h1=Heap.empty.new [.int .i64 0,.int .i64 0,.str [],.int .u32 0,.ax,.ax]:=⟨_,rfl⟩
 have ho1:an h1:=by rw[eh1];exact an.empty.new _
 have a1:h1.at_ i4 0=some aK:=by rw[eh1,e4];exact aY _
 obtain⟨h2,s2,ho2,hl2,a2⟩:=abA ho1 a b c d
 have fs:∀h,WC env 14 [.str name,.int .i64 ts.length] h (fun o=>o=.ret ⟨.aF [.agg [a,b,c,d],.bool true],h,.none⟩):=fun h=>by rw[←hf];exact A2 h name ts.length
 have nl:=kv.len;have eb:Vj.body=(.seq (.ops Qr) (.seq (.ops Qs) (.seq (.seq (.ops Qt) (.cond (.t 20) (.seq (.ops Vk) .ret) .skip)) (.seq (.seq (.ops Vl) (.block 0 (.loop mw))) (.seq (.ops pw) (.seq (.seq (.ops px) (.cond (.t 52) (.seq (.ops tD) .ret) .skip)) (.seq (.seq (.ops qQ) (.cond (.t 59) (.seq (.ops tE) .ret) .skip)) (.seq (.ops tF) .ret)))))))):=rfl
 rw[eb];obtain⟨R,eR⟩:∃R,R=AC.seq (.ops pw) (.seq (.seq (.ops px) (.cond (.t 52) (.seq (.ops tD) .ret) .skip)) (.seq (.seq (.ops qQ) (.cond (.t 59) (.seq (.ops tE) .ret) .skip)) (.seq (.ops tF) .ret))):=⟨_,rfl⟩
 rw[←eR];rw[←eR]at hQ
 simp only[Qr,Qs,Qt,Vl,ah.bbw,aw,reduceIte,Nat.reduceEqDiff,←eh1,←e4,nl,ai (fs _),cm,SJ,SK,s2,dm,baj]
 refine LG hok kv hlen hm r0 (m+1) 0 _ (by omega) (by omega) ?_ ?_ fun σ' p0 p1 p4 p8=>hQ σ' h2 i4 ho2 (hl2.2 _ _ _ a1) ?_ p1 ?_ p8
 ·simp only[aa,reduceIte,Nat.reduceEqDiff]
 ·simp only[aa,reduceIte,Nat.reduceEqDiff];rfl
 ·rw[p0];simp only[aa,reduceIte,Nat.reduceEqDiff]
 ·rw[p4];simp only[aa,reduceIte,Nat.reduceEqDiff]
theorem S8 {j:Nat} (hj:j<ts.length) (r0:∀i (hi:i<j),dk (ts[i]'(by omega))=true) {x:Int×Int×CQ} (hx:hJ ts[j]=some x):
  ∃f,∀h,WC env 25 [.str name,v] h (fun o=>o=.ret ⟨.aF [.agg aK,aM f (nh j x).length (eF (nh j x))],h,.none⟩):=by
 obtain⟨f,wo⟩:=S7 j x
 refine⟨f,fun h=>ad rfl rfl rfl (by simp only[bdk,kv.ae]) (Vi hok kv hlen hf (m:=j) (by omega) r0 fun σ h1 i4 ho1 a4 g0 g1 g4 g8=> ?_)⟩
 refine aC fun b hb=> ?_
 have nl:=kv.len;have z0:((j:Int)<(ts.length:Int))=True:=eq_true (by omega)
 have lx:=kv.idx hj
 have ld:=fK hj h1
 have wk:=jk ts[j] (hok.get (bas hj))
 rw[hx]at wk
 have zr:(Ju (some x)>0)=True:=eq_true (by rcases x with⟨a,c,_|⟨p,d⟩⟩<;>(rw[Ju];decide))
 have y5:bY [.int .i64 0,.int .i64 0,.str [],.int .u32 0,.ax,.ax] []=some aK:=rfl
 have ix:aZ 3 (dP (some x)) (.int .i64 0)=some (.fp (eF (qN x))):=by rcases x with⟨a,c,_|⟨p,d⟩⟩<;>rfl
 have q2:bp false 1 ((eF (qN x)).drop 2)=some (.int .i64 x.2.1):=by rcases x with⟨a,c,_|⟨p,d⟩⟩<;>rfl
 have sx:bC h1 6 (.ptr i4 0 0) (.agg aK)=some ⟨.undef,h1.cD i4 0 aK,.write⟩:=st6 a4
 have l6:bg (h1.cD i4 0 aK) true 6 (.ptr i4 0 0)=some ⟨.agg aK,h1.cD i4 0 aK,.read⟩:=vy bD
 simp only[mw,Qq,Vg,Vh,aev,aw,reduceIte,Nat.reduceEqDiff,g1,g4,g8,nl,z0,lx,ld,ai (wk _),sj,zr,y5,ix,fw,bP,q2,ai (wo _),sx]
 exact⟨[.agg aK,aM f (nh j x).length (eF (nh j x))],.aF [.agg aK,aM f (nh j x).length (eF (nh j x))],by simp only[Vj,Env.results,aa,reduceIte,Nat.reduceEqDiff,g4,l6,jab]<;>rfl,(ay (v:=.aF [.agg aK,aM f (nh j x).length (eF (nh j x))]) (by simp only[bdk,k9,si])).2 rfl,rfl⟩
variable (r0:∀t,t∈ts→dk t=true)
include r0
theorem w9 {Q:aU→St→Prop} (hQ:∀σ h i4,an h→h.at_ i4 0=some aK→σ.get 0=.str name→σ.get 1=v→σ.get 4=.ptr i4 0 0→
   jK env (.seq (.ops pw) (.seq (.seq (.ops px) (.cond (.t 52) (.seq (.ops tD) .ret) .skip)) (.seq (.seq (.ops qQ) (.cond (.t 59) (.seq (.ops tE) .ret) .skip)) (.seq (.ops tF) .ret)))) ⟨σ,h⟩ Q):
  jK env Vj.body ⟨ah.bbw 0 [.str name,v] .empty,.empty⟩ Q:=by
 refine Vi hok kv hlen hf (m:=ts.length) (bab _) (fun i hi=>r0 _ (bas hi)) fun σ h i4 ho a4 g0 g1 g4 g8=> ?_
 refine aC fun b hb=> ?_
 have nl:=kv.len;have z0:((ts.length:Int)<(ts.length:Int))=False:=eq_false (by omega)
 obtain⟨R,eR⟩:∃R,R=AC.seq (.ops pw) (.seq (.seq (.ops px) (.cond (.t 52) (.seq (.ops tD) .ret) .skip)) (.seq (.seq (.ops qQ) (.cond (.t 59) (.seq (.ops tE) .ret) .skip)) (.seq (.ops tF) .ret))):=⟨_,rfl⟩
 rw[←eR]at hQ⊢
 simp only[mw,Qq,aw,reduceIte,Nat.reduceEqDiff,g1,g8,nl,z0]
 refine hQ _ h i4 ho a4 ?_ ?_ ?_
 ·simp only[aa,reduceIte,Nat.reduceEqDiff,g0]
 ·simp only[aa,reduceIte,Nat.reduceEqDiff,g1]
 ·simp only[aa,reduceIte,Nat.reduceEqDiff,g4]
theorem LH {r:Tm} {cd:Int} (hcd:cd≠0) (hc:∀h,WC env 44 [.str name,v] h (fun o=>o=.ret ⟨.aF [.agg (tc r),.int .i64 cd],h,.none⟩)) (h:Heap):
  WC env 25 [.str name,v] h (fun o=>o=.ret ⟨.aF [.agg aK,aM (some true) 1 (eF [([98,105,102],0,cd)])],h,.none⟩):=by
 refine ad rfl rfl rfl (by simp only[bdk,kv.ae]) (w9 hok kv hlen hf r0 fun σ h1 i4 ho1 a4 g0 g1 g4=> ?_)
 obtain⟨h2,s2,ho2,hl2,a2⟩:=kH ho1 r
 have sx:bC h2 6 (.ptr i4 0 0) (.agg aK)=some ⟨.undef,h2.cD i4 0 aK,.write⟩:=st6 (hl2.2 _ _ _ a4)
 have l6:bg (h2.cD i4 0 aK) true 6 (.ptr i4 0 0)=some ⟨.agg aK,h2.cD i4 0 aK,.read⟩:=vy bD
 have y5:bY [.int .i64 0,.int .i64 0,.str [],.int .u32 0,.ax,.ax] []=some aK:=rfl
 have u1:(cd !=0)=true:=by simpa using hcd
 simp only[pw,px,tD,aw,reduceIte,Nat.reduceEqDiff,g0,g1,g4,ai (hc _),cm,SJ,SK,s2,u1,y5,ai (Fj _ _),sx]
 exact⟨[.agg aK,aM (some true) 1 (eF [([98,105,102],0,cd)])],.aF [.agg aK,aM (some true) 1 (eF [([98,105,102],0,cd)])],by simp only[Vj,Env.results,aa,reduceIte,Nat.reduceEqDiff,g4,l6,jab]<;>rfl,(ay (v:=.aF [.agg aK,aM (some true) 1 (eF [([98,105,102],0,cd)])]) rfl).2 rfl,rfl⟩
theorem yg {r:Tm} (okr:r.Ok) (hr:dk r=false) (hc:∀h,WC env 44 [.str name,v] h (fun o=>o=.ret ⟨.aF [.agg (tc r),.int .i64 0],h,.none⟩)) (h:Heap):
  WC env 25 [.str name,v] h (fun o=>o=.ret ⟨.aF [.agg aK,aM (some true) 1 (eF [([98,105,102],0,262)])],h,.none⟩):=by
 refine ad rfl rfl rfl (by simp only[bdk,kv.ae]) (w9 hok kv hlen hf r0 fun σ h1 i4 ho1 a4 g0 g1 g4=> ?_)
 obtain⟨h2,s2,ho2,hl2,a2⟩:=kH ho1 r
 have l2:=lM a2
 have sx:bC h2 6 (.ptr i4 0 0) (.agg aK)=some ⟨.undef,h2.cD i4 0 aK,.write⟩:=st6 (hl2.2 _ _ _ a4)
 have l6:bg (h2.cD i4 0 aK) true 6 (.ptr i4 0 0)=some ⟨.agg aK,h2.cD i4 0 aK,.read⟩:=vy bD
 have y5:bY [.int .i64 0,.int .i64 0,.str [],.int .u32 0,.ax,.ax] []=some aK:=rfl
 have wk:=jk r okr
 have zr:(Ju (hJ r)>0)=True:=eq_true (Vm hr)
 simp only[pw,px,qQ,tE,aw,reduceIte,Nat.reduceEqDiff,g0,g1,g4,ai (hc _),cm,SJ,SK,s2,Int.reduceBNe,l2,ai (wk _),sj,zr,y5,ai (Fj _ _),sx]
 exact⟨[.agg aK,aM (some true) 1 (eF [([98,105,102],0,262)])],.aF [.agg aK,aM (some true) 1 (eF [([98,105,102],0,262)])],by simp only[Vj,Env.results,aa,reduceIte,Nat.reduceEqDiff,g4,l6,jab]<;>rfl,(ay (v:=.aF [.agg aK,aM (some true) 1 (eF [([98,105,102],0,262)])]) rfl).2 rfl,rfl⟩
end
end Go.Bf
namespace Go.Bf
open Go.AM
def fL (c:Int):Tm×Bool:=
 if c=260 then(gZ [98,97,100,97,114,105,116,104],true)else if c=261 then(gZ [98,97,100,97,114,103],true)
 else if c=262 then(gZ [115,121,115,116,101,109,95,108,105,109,105,116],true)else if c=263 then(gZ [117,110,100,101,102],true)else(bZ,false)
theorem Jv (cs:List AV):uS .ptr (.fp cs) .gC=some false:=rfl
theorem vz (cs:List AV):Li (.fp cs)=some (.fp cs):=rfl
theorem Jw (s:List UInt8) (a c:Int) (r:List A1) (h:Heap):WC env 27 [eI ((s,a,c)::r)] h (fun o=>o=.ret ⟨.aF [.agg (tc (fL c).1),.bool (fL c).2],h,.none⟩):=by
 obtain⟨H,eH⟩:∃H,H=(Heap.empty.new [.int .i64 0,.int .i64 0,.str [],.int .u32 0,.ax,.ax]).new [.gC]:=⟨_,rfl⟩
 have a1:H.at_ 1 0=some [.gC]:=by rw[eH];simp only[aW,reduceIte,Nat.reduceEqDiff]
 have wa:=Fi (cs:=[.str s,.int .i64 a,.int .i64 c,eI r]) a1 (by simp)
 have sp:bU [AV.gC] 0 [AV.fp [.str s,.int .i64 a,.int .i64 c,eI r]]=[AV.fp [.str s,.int .i64 a,.int .i64 c,eI r]]:=rfl
 rw[sp]at wa
 have e0:eI ((s,a,c)::r)=.fN 69 (.fp [.str s,.int .i64 a,.int .i64 c,eI r]):=rfl
 have hr:AV.aj [eI ((s,a,c)::r)]=true:=by simp only[AV.aj,jU,baa]
 have wb:∀s,WC env 34 [.str s] (H.cD 1 0 [.fp [.str s,.int .i64 a,.int .i64 c,eI r]]) (fun o=>o=.ret ⟨.agg (tc (gZ s)),H.cD 1 0 [.fp [.str s,.int .i64 a,.int .i64 c,eI r]],.none⟩):=fun s=>im s _
 have q2:bp false 1 (([.str s,.int .i64 a,.int .i64 c,eI r]:List AV).drop 2)=some (.int .i64 c):=rfl
 have b0:(H.cD 1 0 [AV.fp [.str s,.int .i64 a,.int .i64 c,eI r]]).at_ 0 0=some aK:=by rw[eH];simp only[aW,reduceIte,Nat.reduceEqDiff];rfl
 have b1:(H.cD 1 0 [AV.fp [.str s,.int .i64 a,.int .i64 c,eI r]]).at_ 1 0=some [AV.fp [.str s,.int .i64 a,.int .i64 c,eI r]]:=bD
 have bn:(H.cD 1 0 [AV.fp [.str s,.int .i64 a,.int .i64 c,eI r]]).next=2:=by rw[eH];rfl
 generalize hG:H.cD 1 0 [AV.fp [.str s,.int .i64 a,.int .i64 c,eI r]]=G at*
 rw[e0]at hr⊢
 refine ad rfl rfl rfl hr ?_
 by_cases c0:c=260
 ·subst c0
  simp only[a27,A3,A4,A5,A6,A7,A8,A9,A_,Ba,Bb,tG,tH,tI,tJ,fL,ah.bbw,aw,reduceIte,Nat.reduceEqDiff,aW,t3,←eH,ai wa,dm,baj,b0,b1,Jv,vz,ai (im _ _),Int.reduceBEq,Int.reduceEq]
 by_cases c1:c=261
 ·subst c1
  simp only[a27,A3,A4,A5,A6,A7,A8,A9,A_,Ba,Bb,tG,tH,tI,tJ,fL,ah.bbw,aw,reduceIte,Nat.reduceEqDiff,aW,t3,←eH,ai wa,dm,baj,b0,b1,Jv,vz,ai (im _ _),Int.reduceBEq,Int.reduceEq]
 by_cases c2:c=262
 ·subst c2
  simp only[a27,A3,A4,A5,A6,A7,A8,A9,A_,Ba,Bb,tG,tH,tI,tJ,fL,ah.bbw,aw,reduceIte,Nat.reduceEqDiff,aW,t3,←eH,ai wa,dm,baj,b0,b1,Jv,vz,ai (im _ _),Int.reduceBEq,Int.reduceEq]
 by_cases c3:c=263
 ·subst c3
  simp only[a27,A3,A4,A5,A6,A7,A8,A9,A_,Ba,Bb,tG,tH,tI,tJ,fL,ah.bbw,aw,reduceIte,Nat.reduceEqDiff,aW,t3,←eH,ai wa,dm,baj,b0,b1,Jv,vz,ai (im _ _),Int.reduceBEq,Int.reduceEq]
 have y0:(c==260)=false:=by simpa using c0
 have y1:(c==261)=false:=by simpa using c1
 have y2:(c==262)=false:=by simpa using c2
 have y3:(c==263)=false:=by simpa using c3
 rw[fL,if_neg c0,if_neg c1,if_neg c2,if_neg c3];simp only[a27,A3,A4,A5,A6,A7,A8,A9,A_,Ba,Bb,tG,tH,tI,tJ,bc,ah.bbw,aw,reduceIte,Nat.reduceEqDiff,aW,t3,←eH,ai wa,dm,baj,b0,b1,Jv,vz,y0,y1,y2,y3]
theorem Jx {h:Heap} {id:Nat}:WC env 37 [.bL,.fN 71 (.ptr id 0 0)] h (fun o=>o=.ret ⟨.bool false,h,.write⟩):=vw (p:=asP) rfl rfl
theorem LI (h:Heap):WC env 27 [.bL] h (fun o=>o=.ret ⟨.aF [.agg aK,.bool false],h,.none⟩):=by
 refine ad rfl rfl rfl rfl ?_
 simp only[a27,A3,A4,A5,A6,A7,A8,A9,A_,Ba,Bb,tG,tH,tI,tJ,ah.bbw,aw,reduceIte,Nat.reduceEqDiff,aW,Nat.reduceAdd,t3,ai Jx,dm,bak]
theorem Fk {L:List A1} (h0:0<L.length) (g:Option Bool) (h:Heap):WC env 28 [aM g L.length (eF L)] h (fun o=>o=.ret ⟨.aF [.agg (tc (fL L[0].2.2).1),.bool (fL L[0].2.2).2],h,.none⟩):=by
 have ln:=fun h=>vv g L h
 have x0:=zu (f:=g) h0
 have x0:aZ 3 (aM g L.length (eF L)) (.int .i64 0)=some (.fp (eF (L.drop 0))):=x0
 have q2:=Qk h0
 have z0:(((L.length:Nat):Int)==0)=false:=by rw[beq_eq_false_iff_ne];omega
 obtain⟨c,ec⟩:∃c,c=L[0].2.2:=⟨_,rfl⟩
 rw[←ec]at q2⊢
 rw[bah]at q2 x0
 refine ad rfl rfl rfl (by simp only[AV.aj,si,baa]) ?_
 by_cases c0:c=260
 ·subst c0
  simp only[a28,D2,D3,D4,D5,D6,D7,D8,D9,D_,Ea,w_,xc,xd,fL,ah.bbw,aw,reduceIte,Nat.reduceEqDiff,aW,Nat.reduceAdd,t3,ln,z0,x0,q2,ai (iX _ _),Int.reduceBEq,Int.reduceEq]
 by_cases c1:c=261
 ·subst c1
  simp only[a28,D2,D3,D4,D5,D6,D7,D8,D9,D_,Ea,w_,xc,xd,fL,ah.bbw,aw,reduceIte,Nat.reduceEqDiff,aW,Nat.reduceAdd,t3,ln,z0,x0,q2,ai (iX _ _),Int.reduceBEq,Int.reduceEq]
 by_cases c2:c=262
 ·subst c2
  simp only[a28,D2,D3,D4,D5,D6,D7,D8,D9,D_,Ea,w_,xc,xd,fL,ah.bbw,aw,reduceIte,Nat.reduceEqDiff,aW,Nat.reduceAdd,t3,ln,z0,x0,q2,ai (iX _ _),Int.reduceBEq,Int.reduceEq]
 by_cases c3:c=263
 ·subst c3
  simp only[a28,D2,D3,D4,D5,D6,D7,D8,D9,D_,Ea,w_,xc,xd,fL,ah.bbw,aw,reduceIte,Nat.reduceEqDiff,aW,Nat.reduceAdd,t3,ln,z0,x0,q2,ai (iX _ _),Int.reduceBEq,Int.reduceEq]
 have y0:(c==260)=false:=by simpa using c0
 have y1:(c==261)=false:=by simpa using c1
 have y2:(c==262)=false:=by simpa using c2
 have y3:(c==263)=false:=by simpa using c3
 rw[fL,if_neg c0,if_neg c1,if_neg c2,if_neg c3];simp only[a28,D2,D3,D4,D5,D6,D7,D8,D9,D_,Ea,w_,xc,xd,bc,ah.bbw,aw,reduceIte,Nat.reduceEqDiff,aW,Nat.reduceAdd,t3,ln,z0,x0,q2,y0,y1,y2,y3]
theorem Jy (h:Heap):WC env 28 [.ax] h (fun o=>o=.ret ⟨.aF [.agg aK,.bool false],h,.none⟩):=bu (n:=30) (by kernel_rfl)
theorem Jz (h:Heap):WC env 26 [.bL,.ax] h (fun o=>o=.ret ⟨.bool true,h,.none⟩):=bu (n:=30) (by kernel_rfl)
def tK (name:List UInt8) (v:AV):Prop:=∃L g,0<List.length L∧L.length≤3∧(∀h,WC env 18 [.str name,v] h (fun o=>o=.ret ⟨.aF [.agg aK,eI L],h,.none⟩))∧(∀h,WC env 25 [.str name,v] h (fun o=>o=.ret ⟨.aF [.agg aK,aM g L.length (eF L)],h,.none⟩))
def py (name:List UInt8) (v:AV):Prop:=∃r r' :Tm,r.Ok∧r'.Ok∧er r=er r' ∧(∀h,WC env 18 [.str name,v] h (fun o=>o=.ret ⟨.aF [.agg (tc r),.bL],h,.none⟩))∧(∀h,WC env 25 [.str name,v] h (fun o=>o=.ret ⟨.aF [.agg (tc r'),.ax],h,.none⟩))
section
variable {name : List UInt8} {ts : List Tm} {v : AV} (hok : gW ts) (kv : Sl v ts) (hlen : ts.length < 1000000) {a b c d : AV} (hf : cx name ts.length =.aF [.agg [a, b, c, d],.bool true]) (r0 : ∀ t, t ∈ ts → dk t = true)
include hok kv hlen hf r0
theorem LJ {r:Tm} (okr:r.Ok) (hr:dk r=true) (hc:∀h,WC env 44 [.str name,v] h (fun o=>o=.ret ⟨.aF [.agg (tc r),.int .i64 0],h,.none⟩)) (h:Heap):
  WC env 25 [.str name,v] h (fun o=>o=.ret ⟨.aF [.agg (tc r),.ax],h,.none⟩):=by
 refine ad rfl rfl rfl (by simp only[bdk,kv.ae]) (w9 hok kv hlen hf r0 fun σ h1 i4 ho1 a4 g0 g1 g4=> ?_)
 obtain⟨h2,s2,ho2,hl2,a2⟩:=kH ho1 r
 have l2:=lM a2
 have sx:=alj (t:=r) (u:=bZ) (hl2.2 _ _ _ a4)
 have l6:bg (h2.cD i4 0 (tc r)) true 6 (.ptr i4 0 0)=some ⟨.agg (tc r),h2.cD i4 0 (tc r),.read⟩:=lM bD
 have wk:=jk r okr
 have zr:(Ju (hJ r)>0)=False:=eq_false (by rw[Qp hr];decide)
 simp only[pw,px,qQ,tF,aw,reduceIte,Nat.reduceEqDiff,g0,g1,g4,ai (hc _),cm,SJ,SK,s2,Int.reduceBNe,l2,ai (wk _),sj,zr,sx]
 exact⟨[.agg (tc r),.ax],.aF [.agg (tc r),.ax],by simp only[Vj,Env.results,aa,reduceIte,Nat.reduceEqDiff,g4,l6,jab]<;>rfl,(ay (v:=.aF [.agg (tc r),.ax]) (by simp only[bdk,az])).2 rfl,rfl⟩
theorem bH {r r' :Tm} {cd:Int} (hcd:cd≠0) (h1:∀h,WC env 38 [.str name,v] h (fun o=>o=.ret ⟨.aF [.agg (tc r),.int .i64 cd],h,.none⟩)) (h2:∀h,WC env 44 [.str name,v] h (fun o=>o=.ret ⟨.aF [.agg (tc r'),.int .i64 cd],h,.none⟩)):tK name v∨py name v:=
 .inl ⟨[([98,105,102],0,cd)],some true,by simp,by simp,fun h=>Eb hok r0 kv hlen hf hcd h1 h,fun h=>LH hok kv hlen hf r0 hcd h2 h⟩
theorem qR {r r' :Tm} (okr:r'.Ok) (hr:dk r' =false) (h1:∀h,WC env 38 [.str name,v] h (fun o=>o=.ret ⟨.aF [.agg (tc r),.int .i64 262],h,.none⟩)) (h2:∀h,WC env 44 [.str name,v] h (fun o=>o=.ret ⟨.aF [.agg (tc r'),.int .i64 0],h,.none⟩)):tK name v∨py name v:=
 .inl ⟨[([98,105,102],0,262)],some true,by simp,by simp,fun h=>Eb hok r0 kv hlen hf (by decide) h1 h,fun h=>yg hok kv hlen hf r0 okr hr h2 h⟩
theorem bk {r r' :Tm} (okr:r.Ok) (okr' :r'.Ok) (eq:er r=er r') (h1:∀h,WC env 38 [.str name,v] h (fun o=>o=.ret ⟨.aF [.agg (tc r),.int .i64 0],h,.none⟩)) (h2:∀h,WC env 44 [.str name,v] h (fun o=>o=.ret ⟨.aF [.agg (tc r'),.int .i64 0],h,.none⟩)):tK name v∨py name v:=by
 cases e:dk r with
 |false=>exact .inl ⟨[([98,105,102],0,262)],some true,by simp,by simp,fun h=>LK hok r0 kv hlen hf okr e h1 h,fun h=>yg hok kv hlen hf r0 okr' (by rw[←JA eq];exact e) h2 h⟩
 |true=>
  obtain⟨u,oku,eu,wu⟩:=S_ hok r0 kv hlen hf okr e h1
  exact .inr ⟨u,r',oku,okr',eu.trans eq,wu,fun h=>LJ hok kv hlen hf r0 okr' (by rw[←JA eq];exact e) h2 h⟩
end
section
variable {name : List UInt8} {ts : List Tm} {v : AV} (kv : Sl v ts) {z : List AV} (hf : cx name ts.length =.aF [.agg z,.bool false]) (hz : z.length = 4)
include kv hf hz
theorem LL (h:Heap):WC env 18 [.str name,v] h (fun o=>o=.ret ⟨.aF [.agg aK,eI [([98,105,102],0,263)]],h,.none⟩):=by
 have nl:=kv.len;have fs:∀h,WC env 13 [.str name,.int .i64 ts.length] h (fun o=>o=.ret ⟨.aF [.agg z,.bool false],h,.none⟩):=fun h=>by rw[←hf];exact find_spec h name ts.length
 have wr:∀h,WC env 35 [.int .i64 0,.int .i64 263] h (fun o=>o=.ret ⟨eI [([98,105,102],0,263)],h,.none⟩):=fun h=>pz 263 h
 refine ad rfl rfl rfl (by simp only[bdk,kv.ae]) ?_
 simp only[a18,DZ,D0,D1,Qo,ah.bbw,aw,reduceIte,Nat.reduceEqDiff,aW,Nat.reduceAdd,t3,nl,ai (fs _),hz,bak,ai (wr _),jU]
theorem JB (h:Heap):WC env 25 [.str name,v] h (fun o=>o=.ret ⟨.aF [.agg aK,aM (some true) 1 (eF [([98,105,102],0,263)])],h,.none⟩):=by
 have nl:=kv.len;have fs:∀h,WC env 14 [.str name,.int .i64 ts.length] h (fun o=>o=.ret ⟨.aF [.agg z,.bool false],h,.none⟩):=fun h=>by rw[←hf];exact A2 h name ts.length
 refine ad rfl rfl rfl (by simp only[bdk,kv.ae]) ?_
 have nr:=si (some true) [([98,105,102],0,263)]
 simp only[Vj,Qr,Qs,Qt,Vk,ah.bbw,aw,reduceIte,Nat.reduceEqDiff,aW,Nat.reduceAdd,t3,nl,ai (fs _),hz,bak,ai (Fj _ _)]
 exact⟨.aF [.agg aK,aM (some true) 1 (eF [([98,105,102],0,263)])],(ay (v:=.aF [.agg aK,aM (some true) 1 (eF [([98,105,102],0,263)])]) rfl).2 rfl,rfl⟩
theorem LM:tK name v∨py name v:=
 .inl ⟨[([98,105,102],0,263)],some true,by simp,by simp,LL kv hf hz,JB kv hf hz⟩
end
theorem Vo {L:List A1} (h0:0<L.length):∃s a r,L=(s,a,L[0].2.2)::r:=by
 cases L with
 |nil=>simp at h0
 |cons x r=>obtain⟨s,a,c⟩:=x;exact⟨s,a,r,rfl⟩
set_option maxHeartbeats 1000000 in
theorem Vp {name:List UInt8} {v:AV} (k:tK name v):WC env 9 [.str name,v] .empty (fun o=>∃h',o=.ret ⟨.bool true,h',.write⟩):=by
 obtain⟨L,g,h0,h3',wa,wb⟩:=k
 refine ct rfl rfl (.inl rfl) ?_
 have wf:=CY h0 h3' g
 have w27:∀h,WC env 27 [eI L] h (fun o=>o=.ret ⟨.aF [.agg (tc (fL L[0].2.2).1),.bool (fL L[0].2.2).2],h,.none⟩):=by
  intro h;obtain⟨s,a,r,e⟩:=Vo h0
  generalize L[0].2.2=c at*
  rw[e];exact Jw s a c r h
 have w28:=Fk h0 g
 have ln:=fun h=>vv g L h
 obtain⟨t,et⟩:∃t,t=(fL L[0].2.2).1:=⟨_,rfl⟩
 obtain⟨b,eb⟩:∃b,b=(fL L[0].2.2).2:=⟨_,rfl⟩
 rw[←et,←eb]at w27 w28
 have z0:(((L.length:Nat):Int)>0)=True:=eq_true (by omega)
 have zb:uS .bool (.bool b) (.bool b)=some true:=by cases b<;>rfl
 have zk:(t.kind !=t.kind)=false:=by simp
 have zs:aD .neq t.text t.text=some (.bool false):=by simp[aD]
 have lk:bp false 1 (aK.drop 0)=some (.int .i64 0):=rfl
 simp only[a9,agT,agU,agV,agW,agX,agY,agZ,ag0,ag1,ag2,ah.bbw,aw,reduceIte,Nat.reduceEqDiff,aE,aW,Nat.reduceAdd,t3,ai (wa _),ai (wb _),ai (wf _),dm,baj,ai (w27 _),ai (w28 _),zb,zk,zs,ln,z0,(show bp false 1 aK=some (.int .i64 0)from rfl),Int.reduceBEq,ai (Bc _)]
 exact⟨_,rfl⟩
set_option maxHeartbeats 1000000 in
theorem Ta {name:List UInt8} {v:AV} (k:py name v):WC env 9 [.str name,v] .empty (fun o=>∃h',o=.ret ⟨.bool true,h',.write⟩):=by
 obtain⟨r,r',okr,okr',eq,wa,wb⟩:=k
 refine ct rfl rfl (.inl rfl) ?_
 have ws:=Tb r okr r' okr'
 rw[show kQ r r' =true from abB eq]at ws
 have zb:uS .bool (.bool false) (.bool false)=some true:=rfl
 have lk:bp false 1 (aK.drop 0)=some (.int .i64 0):=rfl
 have lk0:bp false 1 aK=some (.int .i64 0):=rfl
 have ls:bp false 1 (aK.drop 2)=some (.str []):=rfl
 have ne:aD .neq [] []=some (.bool false):=rfl
 have ln:∀h,aN false h .ax=some ⟨.int .i64 0,h,.none⟩:=fun h=>rfl
 have z0:((0:Int)>0)=False:=eq_false (by decide)
 simp only[a9,agT,agU,agV,agW,agX,agY,agZ,ag0,ag1,ag2,ah.bbw,aw,reduceIte,Nat.reduceEqDiff,aW,Nat.reduceAdd,t3,ai (wa _),ai (wb _),ai (Jz _),dm,baj,ai (LI _),ai (Jy _),zb,lk0,ls,ne,ln,z0,Int.reduceBEq,Int.reduceBNe,ai (ws _),ai (Bc _)]
 exact⟨_,rfl⟩
theorem Tc {name:List UInt8} {v:AV} (k:tK name v∨py name v):WC env 9 [.str name,v] .empty (fun o=>∃h',o=.ret ⟨.bool true,h',.write⟩):=k.elim Vp Ta
end Go.Bf
namespace Go.Bf
open Go.AM
theorem vA {v:AV} {r:Tm} {cd:Int} (hv:v.ae=true) (hr:∀h,WC env 74 [.str [43],v] h (fun o=>o=.ret ⟨.aF [.agg (tc r),.int .i64 cd],h,.none⟩)) (h:Heap):WC env 44 [.str [43],v] h (fun o=>o=.ret ⟨.aF [.agg (tc r),.int .i64 cd],h,.none⟩):=by
 refine ad rfl rfl rfl (by simp only[bdk,hv]) ?_
 simp only[my,nR,ah.bbw,aw,reduceIte,Nat.reduceEqDiff,aD,bQ,UInt8.reduceToNat,ai (hr _),aW,Nat.reduceAdd,t3]
theorem so {v:AV} {r:Tm} {cd:Int} (hv:v.ae=true) (hr:∀h,WC env 74 [.str [45],v] h (fun o=>o=.ret ⟨.aF [.agg (tc r),.int .i64 cd],h,.none⟩)) (h:Heap):WC env 44 [.str [45],v] h (fun o=>o=.ret ⟨.aF [.agg (tc r),.int .i64 cd],h,.none⟩):=by
 refine ad rfl rfl rfl (by simp only[bdk,hv]) ?_
 simp only[my,nR,ah.bbw,aw,reduceIte,Nat.reduceEqDiff,aD,bQ,UInt8.reduceToNat,ai (hr _),aW,Nat.reduceAdd,t3]
theorem zx {v:AV} {r:Tm} {cd:Int} (hv:v.ae=true) (hr:∀h,WC env 74 [.str [42],v] h (fun o=>o=.ret ⟨.aF [.agg (tc r),.int .i64 cd],h,.none⟩)) (h:Heap):WC env 44 [.str [42],v] h (fun o=>o=.ret ⟨.aF [.agg (tc r),.int .i64 cd],h,.none⟩):=by
 refine ad rfl rfl rfl (by simp only[bdk,hv]) ?_
 simp only[my,nR,ah.bbw,aw,reduceIte,Nat.reduceEqDiff,aD,bQ,UInt8.reduceToNat,ai (hr _),aW,Nat.reduceAdd,t3]
theorem zy {v:AV} {r:Tm} {cd:Int} (hv:v.ae=true) (hr:∀h,WC env 74 [.str [100,105,118],v] h (fun o=>o=.ret ⟨.aF [.agg (tc r),.int .i64 cd],h,.none⟩)) (h:Heap):WC env 44 [.str [100,105,118],v] h (fun o=>o=.ret ⟨.aF [.agg (tc r),.int .i64 cd],h,.none⟩):=by
 refine ad rfl rfl rfl (by simp only[bdk,hv]) ?_
 simp only[my,nR,ah.bbw,aw,reduceIte,Nat.reduceEqDiff,aD,bQ,UInt8.reduceToNat,ai (hr _),aW,Nat.reduceAdd,t3]
theorem zz {v:AV} {r:Tm} {cd:Int} (hv:v.ae=true) (hr:∀h,WC env 74 [.str [114,101,109],v] h (fun o=>o=.ret ⟨.aF [.agg (tc r),.int .i64 cd],h,.none⟩)) (h:Heap):WC env 44 [.str [114,101,109],v] h (fun o=>o=.ret ⟨.aF [.agg (tc r),.int .i64 cd],h,.none⟩):=by
 refine ad rfl rfl rfl (by simp only[bdk,hv]) ?_
 simp only[my,nR,ah.bbw,aw,reduceIte,Nat.reduceEqDiff,aD,bQ,UInt8.reduceToNat,ai (hr _),aW,Nat.reduceAdd,t3]
theorem Qu {v:AV} {r:Tm} {cd:Int} (hv:v.ae=true) (hr:∀h,WC env 75 [.str [110,111,116],v] h (fun o=>o=.ret ⟨.aF [.agg (tc r),.int .i64 cd],h,.none⟩)) (h:Heap):WC env 44 [.str [110,111,116],v] h (fun o=>o=.ret ⟨.aF [.agg (tc r),.int .i64 cd],h,.none⟩):=by
 refine ad rfl rfl rfl (by simp only[bdk,hv]) ?_
 simp only[my,nR,ah.bbw,aw,reduceIte,Nat.reduceEqDiff,aD,bQ,UInt8.reduceToNat,ai (hr _),aW,Nat.reduceAdd,t3]
theorem Fl {v:AV} {r:Tm} {cd:Int} (hv:v.ae=true) (hr:∀h,WC env 75 [.str [97,110,100],v] h (fun o=>o=.ret ⟨.aF [.agg (tc r),.int .i64 cd],h,.none⟩)) (h:Heap):WC env 44 [.str [97,110,100],v] h (fun o=>o=.ret ⟨.aF [.agg (tc r),.int .i64 cd],h,.none⟩):=by
 refine ad rfl rfl rfl (by simp only[bdk,hv]) ?_
 simp only[my,nR,ah.bbw,aw,reduceIte,Nat.reduceEqDiff,aD,bQ,UInt8.reduceToNat,ai (hr _),aW,Nat.reduceAdd,t3]
theorem LN {v:AV} {r:Tm} {cd:Int} (hv:v.ae=true) (hr:∀h,WC env 75 [.str [111,114],v] h (fun o=>o=.ret ⟨.aF [.agg (tc r),.int .i64 cd],h,.none⟩)) (h:Heap):WC env 44 [.str [111,114],v] h (fun o=>o=.ret ⟨.aF [.agg (tc r),.int .i64 cd],h,.none⟩):=by
 refine ad rfl rfl rfl (by simp only[bdk,hv]) ?_
 simp only[my,nR,ah.bbw,aw,reduceIte,Nat.reduceEqDiff,aD,bQ,UInt8.reduceToNat,ai (hr _),aW,Nat.reduceAdd,t3]
theorem Fm {v:AV} {r:Tm} {cd:Int} (hv:v.ae=true) (hr:∀h,WC env 75 [.str [120,111,114],v] h (fun o=>o=.ret ⟨.aF [.agg (tc r),.int .i64 cd],h,.none⟩)) (h:Heap):WC env 44 [.str [120,111,114],v] h (fun o=>o=.ret ⟨.aF [.agg (tc r),.int .i64 cd],h,.none⟩):=by
 refine ad rfl rfl rfl (by simp only[bdk,hv]) ?_
 simp only[my,nR,ah.bbw,aw,reduceIte,Nat.reduceEqDiff,aD,bQ,UInt8.reduceToNat,ai (hr _),aW,Nat.reduceAdd,t3]
theorem Fo {v:AV} {r:Tm} {cd:Int} (hv:v.ae=true) (hr:∀h,WC env 78 [.str [97,98,115],v] h (fun o=>o=.ret ⟨.aF [.agg (tc r),.int .i64 cd],h,.none⟩)) (h:Heap):WC env 44 [.str [97,98,115],v] h (fun o=>o=.ret ⟨.aF [.agg (tc r),.int .i64 cd],h,.none⟩):=by
 refine ad rfl rfl rfl (by simp only[bdk,hv]) ?_
 simp only[my,nR,ah.bbw,aw,reduceIte,Nat.reduceEqDiff,aD,bQ,UInt8.reduceToNat,ai (hr _),aW,Nat.reduceAdd,t3]
theorem JC {v:AV} {r:Tm} {cd:Int} (hv:v.ae=true) (hr:∀h,WC env 78 [.str [105,115,95,97,116,111,109],v] h (fun o=>o=.ret ⟨.aF [.agg (tc r),.int .i64 cd],h,.none⟩)) (h:Heap):WC env 44 [.str [105,115,95,97,116,111,109],v] h (fun o=>o=.ret ⟨.aF [.agg (tc r),.int .i64 cd],h,.none⟩):=by
 refine ad rfl rfl rfl (by simp only[bdk,hv]) ?_
 simp only[my,nR,ah.bbw,aw,reduceIte,Nat.reduceEqDiff,aD,bQ,UInt8.reduceToNat,ai (hr _),aW,Nat.reduceAdd,t3]
theorem Bd {v:AV} {r:Tm} {cd:Int} (hv:v.ae=true) (hr:∀h,WC env 78 [.str [105,115,95,98,111,111,108,101,97,110],v] h (fun o=>o=.ret ⟨.aF [.agg (tc r),.int .i64 cd],h,.none⟩)) (h:Heap):WC env 44 [.str [105,115,95,98,111,111,108,101,97,110],v] h (fun o=>o=.ret ⟨.aF [.agg (tc r),.int .i64 cd],h,.none⟩):=by
 refine ad rfl rfl rfl (by simp only[bdk,hv]) ?_
 simp only[my,nR,ah.bbw,aw,reduceIte,Nat.reduceEqDiff,aD,bQ,UInt8.reduceToNat,ai (hr _),aW,Nat.reduceAdd,t3]
theorem Be {v:AV} {r:Tm} {cd:Int} (hv:v.ae=true) (hr:∀h,WC env 78 [.str [105,115,95,105,110,116,101,103,101,114],v] h (fun o=>o=.ret ⟨.aF [.agg (tc r),.int .i64 cd],h,.none⟩)) (h:Heap):WC env 44 [.str [105,115,95,105,110,116,101,103,101,114],v] h (fun o=>o=.ret ⟨.aF [.agg (tc r),.int .i64 cd],h,.none⟩):=by
 refine ad rfl rfl rfl (by simp only[bdk,hv]) ?_
 simp only[my,nR,ah.bbw,aw,reduceIte,Nat.reduceEqDiff,aD,bQ,UInt8.reduceToNat,ai (hr _),aW,Nat.reduceAdd,t3]
theorem JD {v:AV} {r:Tm} {cd:Int} (hv:v.ae=true) (hr:∀h,WC env 78 [.str [105,115,95,108,105,115,116],v] h (fun o=>o=.ret ⟨.aF [.agg (tc r),.int .i64 cd],h,.none⟩)) (h:Heap):WC env 44 [.str [105,115,95,108,105,115,116],v] h (fun o=>o=.ret ⟨.aF [.agg (tc r),.int .i64 cd],h,.none⟩):=by
 refine ad rfl rfl rfl (by simp only[bdk,hv]) ?_
 simp only[my,nR,ah.bbw,aw,reduceIte,Nat.reduceEqDiff,aD,bQ,UInt8.reduceToNat,ai (hr _),aW,Nat.reduceAdd,t3]
theorem LO {v:AV} {r:Tm} {cd:Int} (hv:v.ae=true) (hr:∀h,WC env 78 [.str [105,115,95,112,105,100],v] h (fun o=>o=.ret ⟨.aF [.agg (tc r),.int .i64 cd],h,.none⟩)) (h:Heap):WC env 44 [.str [105,115,95,112,105,100],v] h (fun o=>o=.ret ⟨.aF [.agg (tc r),.int .i64 cd],h,.none⟩):=by
 refine ad rfl rfl rfl (by simp only[bdk,hv]) ?_
 simp only[my,nR,ah.bbw,aw,reduceIte,Nat.reduceEqDiff,aD,bQ,UInt8.reduceToNat,ai (hr _),aW,Nat.reduceAdd,t3]
theorem xf {v:AV} {r:Tm} {cd:Int} (hv:v.ae=true) (hr:∀h,WC env 78 [.str [105,115,95,114,101,102,101,114,101,110,99,101],v] h (fun o=>o=.ret ⟨.aF [.agg (tc r),.int .i64 cd],h,.none⟩)) (h:Heap):WC env 44 [.str [105,115,95,114,101,102,101,114,101,110,99,101],v] h (fun o=>o=.ret ⟨.aF [.agg (tc r),.int .i64 cd],h,.none⟩):=by
 refine ad rfl rfl rfl (by simp only[bdk,hv]) ?_
 simp only[my,nR,ah.bbw,aw,reduceIte,Nat.reduceEqDiff,aD,bQ,UInt8.reduceToNat,ai (hr _),aW,Nat.reduceAdd,t3]
theorem Fp {v:AV} {r:Tm} {cd:Int} (hv:v.ae=true) (hr:∀h,WC env 78 [.str [105,115,95,116,117,112,108,101],v] h (fun o=>o=.ret ⟨.aF [.agg (tc r),.int .i64 cd],h,.none⟩)) (h:Heap):WC env 44 [.str [105,115,95,116,117,112,108,101],v] h (fun o=>o=.ret ⟨.aF [.agg (tc r),.int .i64 cd],h,.none⟩):=by
 refine ad rfl rfl rfl (by simp only[bdk,hv]) ?_
 simp only[my,nR,ah.bbw,aw,reduceIte,Nat.reduceEqDiff,aD,bQ,UInt8.reduceToNat,ai (hr _),aW,Nat.reduceAdd,t3]
theorem Bg {v:AV} {r:Tm} {cd:Int} (hv:v.ae=true) (hr:∀h,WC env 78 [.str [110,111,100,101],v] h (fun o=>o=.ret ⟨.aF [.agg (tc r),.int .i64 cd],h,.none⟩)) (h:Heap):WC env 44 [.str [110,111,100,101],v] h (fun o=>o=.ret ⟨.aF [.agg (tc r),.int .i64 cd],h,.none⟩):=by
 refine ad rfl rfl rfl (by simp only[bdk,hv]) ?_
 simp only[my,nR,ah.bbw,aw,reduceIte,Nat.reduceEqDiff,aD,bQ,UInt8.reduceToNat,ai (hr _),aW,Nat.reduceAdd,t3]
theorem LP {v:AV} {r:Tm} {cd:Int} (hv:v.ae=true) (hr:∀h,WC env 78 [.str [104,100],v] h (fun o=>o=.ret ⟨.aF [.agg (tc r),.int .i64 cd],h,.none⟩)) (h:Heap):WC env 44 [.str [104,100],v] h (fun o=>o=.ret ⟨.aF [.agg (tc r),.int .i64 cd],h,.none⟩):=by
 refine ad rfl rfl rfl (by simp only[bdk,hv]) ?_
 simp only[my,nR,ah.bbw,aw,reduceIte,Nat.reduceEqDiff,aD,bQ,UInt8.reduceToNat,ai (hr _),aW,Nat.reduceAdd,t3]
theorem LQ {v:AV} {r:Tm} {cd:Int} (hv:v.ae=true) (hr:∀h,WC env 78 [.str [116,108],v] h (fun o=>o=.ret ⟨.aF [.agg (tc r),.int .i64 cd],h,.none⟩)) (h:Heap):WC env 44 [.str [116,108],v] h (fun o=>o=.ret ⟨.aF [.agg (tc r),.int .i64 cd],h,.none⟩):=by
 refine ad rfl rfl rfl (by simp only[bdk,hv]) ?_
 simp only[my,nR,ah.bbw,aw,reduceIte,Nat.reduceEqDiff,aD,bQ,UInt8.reduceToNat,ai (hr _),aW,Nat.reduceAdd,t3]
theorem Bh {v:AV} {r:Tm} {cd:Int} (hv:v.ae=true) (hr:∀h,WC env 78 [.str [108,101,110,103,116,104],v] h (fun o=>o=.ret ⟨.aF [.agg (tc r),.int .i64 cd],h,.none⟩)) (h:Heap):WC env 44 [.str [108,101,110,103,116,104],v] h (fun o=>o=.ret ⟨.aF [.agg (tc r),.int .i64 cd],h,.none⟩):=by
 refine ad rfl rfl rfl (by simp only[bdk,hv]) ?_
 simp only[my,nR,ah.bbw,aw,reduceIte,Nat.reduceEqDiff,aD,bQ,UInt8.reduceToNat,ai (hr _),aW,Nat.reduceAdd,t3]
theorem mz {v:AV} {r:Tm} {cd:Int} (hv:v.ae=true) (hr:∀h,WC env 78 [.str [108,105,115,116,95,116,111,95,116,117,112,108,101],v] h (fun o=>o=.ret ⟨.aF [.agg (tc r),.int .i64 cd],h,.none⟩)) (h:Heap):WC env 44 [.str [108,105,115,116,95,116,111,95,116,117,112,108,101],v] h (fun o=>o=.ret ⟨.aF [.agg (tc r),.int .i64 cd],h,.none⟩):=by
 refine ad rfl rfl rfl (by simp only[bdk,hv]) ?_
 simp only[my,nR,ah.bbw,aw,reduceIte,Nat.reduceEqDiff,aD,bQ,UInt8.reduceToNat,ai (hr _),aW,Nat.reduceAdd,t3]
theorem qS {v:AV} {r:Tm} {cd:Int} (hv:v.ae=true) (hr:∀h,WC env 78 [.str [116,117,112,108,101,95,115,105,122,101],v] h (fun o=>o=.ret ⟨.aF [.agg (tc r),.int .i64 cd],h,.none⟩)) (h:Heap):WC env 44 [.str [116,117,112,108,101,95,115,105,122,101],v] h (fun o=>o=.ret ⟨.aF [.agg (tc r),.int .i64 cd],h,.none⟩):=by
 refine ad rfl rfl rfl (by simp only[bdk,hv]) ?_
 simp only[my,nR,ah.bbw,aw,reduceIte,Nat.reduceEqDiff,aD,bQ,UInt8.reduceToNat,ai (hr _),aW,Nat.reduceAdd,t3]
theorem mC {v:AV} {r:Tm} {cd:Int} (hv:v.ae=true) (hr:∀h,WC env 78 [.str [116,117,112,108,101,95,116,111,95,108,105,115,116],v] h (fun o=>o=.ret ⟨.aF [.agg (tc r),.int .i64 cd],h,.none⟩)) (h:Heap):WC env 44 [.str [116,117,112,108,101,95,116,111,95,108,105,115,116],v] h (fun o=>o=.ret ⟨.aF [.agg (tc r),.int .i64 cd],h,.none⟩):=by
 refine ad rfl rfl rfl (by simp only[bdk,hv]) ?_
 simp only[my,nR,ah.bbw,aw,reduceIte,Nat.reduceEqDiff,aD,bQ,UInt8.reduceToNat,ai (hr _),aW,Nat.reduceAdd,t3]
theorem yh {v:AV} {r:Tm} {cd:Int} (hv:v.ae=true) (hr:∀h,WC env 78 [.str [101,108,101,109,101,110,116],v] h (fun o=>o=.ret ⟨.aF [.agg (tc r),.int .i64 cd],h,.none⟩)) (h:Heap):WC env 44 [.str [101,108,101,109,101,110,116],v] h (fun o=>o=.ret ⟨.aF [.agg (tc r),.int .i64 cd],h,.none⟩):=by
 refine ad rfl rfl rfl (by simp only[bdk,hv]) ?_
 simp only[my,nR,ah.bbw,aw,reduceIte,Nat.reduceEqDiff,aD,bQ,UInt8.reduceToNat,ai (hr _),aW,Nat.reduceAdd,t3]
theorem kR {v:AV} {r:Tm} {cd:Int} (hv:v.ae=true) (hr:∀h,WC env 78 [.str [105,110,116,101,103,101,114,95,116,111,95,108,105,115,116],v] h (fun o=>o=.ret ⟨.aF [.agg (tc r),.int .i64 cd],h,.none⟩)) (h:Heap):WC env 44 [.str [105,110,116,101,103,101,114,95,116,111,95,108,105,115,116],v] h (fun o=>o=.ret ⟨.aF [.agg (tc r),.int .i64 cd],h,.none⟩):=by
 refine ad rfl rfl rfl (by simp only[bdk,hv]) ?_
 simp only[my,nR,ah.bbw,aw,reduceIte,Nat.reduceEqDiff,aD,bQ,UInt8.reduceToNat,ai (hr _),aW,Nat.reduceAdd,t3]
theorem od {v:AV} {r:Tm} {cd:Int} (hv:v.ae=true) (hr:∀h,WC env 78 [.str [97,116,111,109,95,116,111,95,108,105,115,116],v] h (fun o=>o=.ret ⟨.aF [.agg (tc r),.int .i64 cd],h,.none⟩)) (h:Heap):WC env 44 [.str [97,116,111,109,95,116,111,95,108,105,115,116],v] h (fun o=>o=.ret ⟨.aF [.agg (tc r),.int .i64 cd],h,.none⟩):=by
 refine ad rfl rfl rfl (by simp only[bdk,hv]) ?_
 simp only[my,nR,ah.bbw,aw,reduceIte,Nat.reduceEqDiff,aD,bQ,UInt8.reduceToNat,ai (hr _),aW,Nat.reduceAdd,t3]
theorem iH {v:AV} {r:Tm} {cd:Int} (hv:v.ae=true) (hr:∀h,WC env 78 [.str [108,105,115,116,95,116,111,95,105,110,116,101,103,101,114],v] h (fun o=>o=.ret ⟨.aF [.agg (tc r),.int .i64 cd],h,.none⟩)) (h:Heap):WC env 44 [.str [108,105,115,116,95,116,111,95,105,110,116,101,103,101,114],v] h (fun o=>o=.ret ⟨.aF [.agg (tc r),.int .i64 cd],h,.none⟩):=by
 refine ad rfl rfl rfl (by simp only[bdk,hv]) ?_
 simp only[my,nR,ah.bbw,aw,reduceIte,Nat.reduceEqDiff,aD,bQ,UInt8.reduceToNat,ai (hr _),aW,Nat.reduceAdd,t3]
theorem jV {v:AV} {r:Tm} {cd:Int} (hv:v.ae=true) (hr:∀h,WC env 78 [.str [108,105,115,116,95,116,111,95,97,116,111,109],v] h (fun o=>o=.ret ⟨.aF [.agg (tc r),.int .i64 cd],h,.none⟩)) (h:Heap):WC env 44 [.str [108,105,115,116,95,116,111,95,97,116,111,109],v] h (fun o=>o=.ret ⟨.aF [.agg (tc r),.int .i64 cd],h,.none⟩):=by
 refine ad rfl rfl rfl (by simp only[bdk,hv]) ?_
 simp only[my,nR,ah.bbw,aw,reduceIte,Nat.reduceEqDiff,aD,bQ,UInt8.reduceToNat,ai (hr _),aW,Nat.reduceAdd,t3]
theorem Vq {v:AV} {a b r:Tm} {cd:Int} (kv:Sl v [a,b]) (hr:∀h,WC env 76 [.str [43,43],.agg (tc a),.agg (tc b)] h (fun o=>o=.ret ⟨.aF [.agg (tc r),.int .i64 cd],h,.none⟩)) (h:Heap):WC env 44 [.str [43,43],v] h (fun o=>o=.ret ⟨.aF [.agg (tc r),.int .i64 cd],h,.none⟩):=by
 obtain⟨A,B,x0,x1,lA,lB,nl⟩:=ql kv
 refine ad rfl rfl rfl (by simp only[bdk,kv.ae]) ?_
 simp only[my,nR,ah.bbw,aw,reduceIte,Nat.reduceEqDiff,aD,bQ,UInt8.reduceToNat,aW]
 refine aB ?_
 simp only[aw,reduceIte,Nat.reduceEqDiff,k3,aW,Nat.reduceAdd,t3,x0,x1,lA,lB,ai (hr _)]
 rfl
theorem LR {v:AV} {a b r:Tm} {cd:Int} (kv:Sl v [a,b]) (hr:∀h,WC env 76 [.str [45,45],.agg (tc a),.agg (tc b)] h (fun o=>o=.ret ⟨.aF [.agg (tc r),.int .i64 cd],h,.none⟩)) (h:Heap):WC env 44 [.str [45,45],v] h (fun o=>o=.ret ⟨.aF [.agg (tc r),.int .i64 cd],h,.none⟩):=by
 obtain⟨A,B,x0,x1,lA,lB,nl⟩:=ql kv
 refine ad rfl rfl rfl (by simp only[bdk,kv.ae]) ?_
 simp only[my,nR,ah.bbw,aw,reduceIte,Nat.reduceEqDiff,aD,bQ,UInt8.reduceToNat,aW]
 refine aB ?_
 simp only[aw,reduceIte,Nat.reduceEqDiff,k3,aW,Nat.reduceAdd,t3,x0,x1,lA,lB,ai (hr _)]
 rfl
theorem ag3 {v:AV} {a b:Tm} (kv:Sl v [a,b]) (oka:a.Ok) (okb:b.Ok) (ta:dk a=true) (tb:dk b=true) (h:Heap):WC env 44 [.str [61,61],v] h (fun o=>o=.ret ⟨.aF [.agg (tc (dN (bV a b==0))),.int .i64 0],h,.none⟩):=by
 obtain⟨A,B,x0,x1,lA,lB,nl⟩:=ql kv
 have wr:=dG a b oka okb ta tb
 refine ad rfl rfl rfl (by simp only[bdk,kv.ae]) ?_
 simp only[my,nR,ah.bbw,aw,reduceIte,Nat.reduceEqDiff,aD,bQ,UInt8.reduceToNat,aW]
 refine aB ?_
 simp only[aw,reduceIte,Nat.reduceEqDiff,k3,aW,Nat.reduceAdd,t3,x0,x1,lA,lB,ai (wr _),ai (bM _ _)]
 rfl
theorem abC {v:AV} {a b:Tm} (kv:Sl v [a,b]) (oka:a.Ok) (okb:b.Ok) (ta:dk a=true) (tb:dk b=true) (h:Heap):WC env 44 [.str [61,58,61],v] h (fun o=>o=.ret ⟨.aF [.agg (tc (dN (bV a b==0))),.int .i64 0],h,.none⟩):=by
 obtain⟨A,B,x0,x1,lA,lB,nl⟩:=ql kv
 have wr:=dG a b oka okb ta tb
 refine ad rfl rfl rfl (by simp only[bdk,kv.ae]) ?_
 simp only[my,nR,ah.bbw,aw,reduceIte,Nat.reduceEqDiff,aD,bQ,UInt8.reduceToNat,aW]
 refine aB ?_
 simp only[aw,reduceIte,Nat.reduceEqDiff,k3,aW,Nat.reduceAdd,t3,x0,x1,lA,lB,ai (wr _),ai (bM _ _)]
 rfl
theorem ag4 {v:AV} {a b:Tm} (kv:Sl v [a,b]) (oka:a.Ok) (okb:b.Ok) (ta:dk a=true) (tb:dk b=true) (h:Heap):WC env 44 [.str [47,61],v] h (fun o=>o=.ret ⟨.aF [.agg (tc (dN (bV a b !=0))),.int .i64 0],h,.none⟩):=by
 obtain⟨A,B,x0,x1,lA,lB,nl⟩:=ql kv
 have wr:=dG a b oka okb ta tb
 refine ad rfl rfl rfl (by simp only[bdk,kv.ae]) ?_
 simp only[my,nR,ah.bbw,aw,reduceIte,Nat.reduceEqDiff,aD,bQ,UInt8.reduceToNat,aW]
 refine aB ?_
 simp only[aw,reduceIte,Nat.reduceEqDiff,k3,aW,Nat.reduceAdd,t3,x0,x1,lA,lB,ai (wr _),ai (bM _ _)]
 rfl
theorem abD {v:AV} {a b:Tm} (kv:Sl v [a,b]) (oka:a.Ok) (okb:b.Ok) (ta:dk a=true) (tb:dk b=true) (h:Heap):WC env 44 [.str [61,47,61],v] h (fun o=>o=.ret ⟨.aF [.agg (tc (dN (bV a b !=0))),.int .i64 0],h,.none⟩):=by
 obtain⟨A,B,x0,x1,lA,lB,nl⟩:=ql kv
 have wr:=dG a b oka okb ta tb
 refine ad rfl rfl rfl (by simp only[bdk,kv.ae]) ?_
 simp only[my,nR,ah.bbw,aw,reduceIte,Nat.reduceEqDiff,aD,bQ,UInt8.reduceToNat,aW]
 refine aB ?_
 simp only[aw,reduceIte,Nat.reduceEqDiff,k3,aW,Nat.reduceAdd,t3,x0,x1,lA,lB,ai (wr _),ai (bM _ _)]
 rfl
theorem ag5 {v:AV} {a b:Tm} (kv:Sl v [a,b]) (oka:a.Ok) (okb:b.Ok) (ta:dk a=true) (tb:dk b=true) (h:Heap):WC env 44 [.str [61,60],v] h (fun o=>o=.ret ⟨.aF [.agg (tc (dN (decide (bV a b≤0)))),.int .i64 0],h,.none⟩):=by
 obtain⟨A,B,x0,x1,lA,lB,nl⟩:=ql kv
 have wr:=dG a b oka okb ta tb
 refine ad rfl rfl rfl (by simp only[bdk,kv.ae]) ?_
 simp only[my,nR,ah.bbw,aw,reduceIte,Nat.reduceEqDiff,aD,bQ,UInt8.reduceToNat,aW]
 refine aB ?_
 simp only[aw,reduceIte,Nat.reduceEqDiff,k3,aW,Nat.reduceAdd,t3,x0,x1,lA,lB,ai (wr _),ai (bM _ _)]
 rfl
theorem ag6 {v:AV} {a b:Tm} (kv:Sl v [a,b]) (oka:a.Ok) (okb:b.Ok) (ta:dk a=true) (tb:dk b=true) (h:Heap):WC env 44 [.str [60],v] h (fun o=>o=.ret ⟨.aF [.agg (tc (dN (decide (bV a b<0)))),.int .i64 0],h,.none⟩):=by
 obtain⟨A,B,x0,x1,lA,lB,nl⟩:=ql kv
 have wr:=dG a b oka okb ta tb
 refine ad rfl rfl rfl (by simp only[bdk,kv.ae]) ?_
 simp only[my,nR,ah.bbw,aw,reduceIte,Nat.reduceEqDiff,aD,bQ,UInt8.reduceToNat,aW]
 refine aB ?_
 simp only[aw,reduceIte,Nat.reduceEqDiff,k3,aW,Nat.reduceAdd,t3,x0,x1,lA,lB,ai (wr _),ai (bM _ _)]
 rfl
theorem ag7 {v:AV} {a b:Tm} (kv:Sl v [a,b]) (oka:a.Ok) (okb:b.Ok) (ta:dk a=true) (tb:dk b=true) (h:Heap):WC env 44 [.str [62,61],v] h (fun o=>o=.ret ⟨.aF [.agg (tc (dN (decide (bV a b≥0)))),.int .i64 0],h,.none⟩):=by
 obtain⟨A,B,x0,x1,lA,lB,nl⟩:=ql kv
 have wr:=dG a b oka okb ta tb
 refine ad rfl rfl rfl (by simp only[bdk,kv.ae]) ?_
 simp only[my,nR,ah.bbw,aw,reduceIte,Nat.reduceEqDiff,aD,bQ,UInt8.reduceToNat,aW]
 refine aB ?_
 simp only[aw,reduceIte,Nat.reduceEqDiff,k3,aW,Nat.reduceAdd,t3,x0,x1,lA,lB,ai (wr _),ai (bM _ _)]
 rfl
theorem ag8 {v:AV} {a b:Tm} (kv:Sl v [a,b]) (oka:a.Ok) (okb:b.Ok) (ta:dk a=true) (tb:dk b=true) (h:Heap):WC env 44 [.str [62],v] h (fun o=>o=.ret ⟨.aF [.agg (tc (dN (decide (bV a b>0)))),.int .i64 0],h,.none⟩):=by
 obtain⟨A,B,x0,x1,lA,lB,nl⟩:=ql kv
 have wr:=dG a b oka okb ta tb
 refine ad rfl rfl rfl (by simp only[bdk,kv.ae]) ?_
 simp only[my,nR,ah.bbw,aw,reduceIte,Nat.reduceEqDiff,aD,bQ,UInt8.reduceToNat,aW]
 refine aB ?_
 simp only[aw,reduceIte,Nat.reduceEqDiff,k3,aW,Nat.reduceAdd,t3,x0,x1,lA,lB,ai (wr _),ai (bM _ _)]
 rfl
theorem abE {v:AV} {a b:Tm} (kv:Sl v [a,b]) (oka:a.Ok) (okb:b.Ok) (ta:dk a=true) (tb:dk b=true) (h:Heap):WC env 44 [.str [109,97,120],v] h (fun o=>o=.ret ⟨.aF [.agg (tc (if bV a b<0 then b else a)),.int .i64 0],h,.none⟩):=by
 obtain⟨A,B,x0,x1,lA,lB,nl⟩:=ql kv
 have wr:=dG a b oka okb ta tb
 refine ad rfl rfl rfl (by simp only[bdk,kv.ae]) ?_
 simp only[my,nR,ah.bbw,aw,reduceIte,Nat.reduceEqDiff,aD,bQ,UInt8.reduceToNat,aW]
 refine aB ?_
 by_cases c:bV a b<0
 ·have zc:(bV a b<0)=True:=eq_true c
  simp only[aw,reduceIte,Nat.reduceEqDiff,k3,aW,Nat.reduceAdd,t3,x0,x1,lA,lB,ai (wr _),zc]
  rfl
 ·have zc:(bV a b<0)=False:=eq_false c
  simp only[aw,Nat.reduceEqDiff,k3,aW,Nat.reduceAdd,t3,x0,x1,lA,lB,ai (wr _),zc,if_false]
  rfl
theorem abF {v:AV} {a b:Tm} (kv:Sl v [a,b]) (oka:a.Ok) (okb:b.Ok) (ta:dk a=true) (tb:dk b=true) (h:Heap):WC env 44 [.str [109,105,110],v] h (fun o=>o=.ret ⟨.aF [.agg (tc (if bV a b>0 then b else a)),.int .i64 0],h,.none⟩):=by
 obtain⟨A,B,x0,x1,lA,lB,nl⟩:=ql kv
 have wr:=dG a b oka okb ta tb
 refine ad rfl rfl rfl (by simp only[bdk,kv.ae]) ?_
 simp only[my,nR,ah.bbw,aw,reduceIte,Nat.reduceEqDiff,aD,bQ,UInt8.reduceToNat,aW]
 refine aB ?_
 by_cases c:bV a b>0
 ·have zc:(bV a b>0)=True:=eq_true c
  simp only[aw,reduceIte,Nat.reduceEqDiff,k3,aW,Nat.reduceAdd,t3,x0,x1,lA,lB,ai (wr _),zc]
  rfl
 ·have zc:(bV a b>0)=False:=eq_false c
  simp only[aw,Nat.reduceEqDiff,k3,aW,Nat.reduceAdd,t3,x0,x1,lA,lB,ai (wr _),zc,if_false]
  rfl
end Go.Bf
namespace Go.Bf
open Go.AM
def cn (t:Tm):Option Bool:=if t.kind=2 then(if t.text=[116,114,117,101]then some true else if t.text=[102,97,108,115,101]then some false else none)else none
theorem jW (t:Tm):∃x,(∀h,WC env 101 [.agg (tc t)] h (fun o=>o=.ret ⟨.aF [.bool x,.bool (cn t).isSome],h,.none⟩))∧∀b,cn t=some b→x=b:=by
 by_cases k:t.kind=2
 ·have zk:(t.kind !=2)=false:=by simpa using k
  by_cases e1:t.text=[116,114,117,101]
  ·have z1:(t.text==[116,114,117,101])=true:=by simpa using e1
   refine⟨true,fun h=> ?_,fun b hb=>by rw[cn,if_pos k,if_pos e1]at hb;exact Option.some.inj hb⟩
   rw[cn,if_pos k,if_pos e1];refine ad rfl rfl rfl (by simp only[bdk,az]) ?_
   simp only[Td,Bn,Bo,Bp,ah.bbw,aw,reduceIte,Nat.reduceEqDiff,aW,t3,zk]
   refine aB ?_
   simp only[aw,reduceIte,Nat.reduceEqDiff,k3,aW,t3,Fz,aD,z1,Option.isSome]
   rfl
  ·have z1:(t.text==[116,114,117,101])=false:=by simpa using e1
   by_cases e2:t.text=[102,97,108,115,101]
   ·have z2:(t.text==[102,97,108,115,101])=true:=by simpa using e2
    refine⟨false,fun h=> ?_,fun b hb=>by rw[cn,if_pos k,if_neg e1,if_pos e2]at hb;exact Option.some.inj hb⟩
    rw[cn,if_pos k,if_neg e1,if_pos e2];refine ad rfl rfl rfl (by simp only[bdk,az]) ?_
    simp only[Td,Bn,Bo,Bp,ah.bbw,aw,reduceIte,Nat.reduceEqDiff,aW,t3,zk]
    refine aB ?_
    simp only[aw,reduceIte,Nat.reduceEqDiff,k3,aW,t3,Fz,aD,z1,z2,Option.isSome]
    rfl
   ·have z2:(t.text==[102,97,108,115,101])=false:=by simpa using e2
    refine⟨false,fun h=> ?_,fun b hb=>by rw[cn,if_pos k,if_neg e1,if_neg e2]at hb;cases hb⟩
    rw[cn,if_pos k,if_neg e1,if_neg e2];refine ad rfl rfl rfl (by simp only[bdk,az]) ?_
    simp only[Td,Bn,Bo,Bp,ah.bbw,aw,reduceIte,Nat.reduceEqDiff,aW,t3,zk]
    refine aB ?_
    simp only[aw,reduceIte,Nat.reduceEqDiff,k3,aW,t3,Fz,aD,z1,z2,Option.isSome]
    rfl
 ·have zk:(t.kind !=2)=true:=by simpa using k
  refine⟨false,fun h=> ?_,fun b hb=>by rw[cn,if_neg k]at hb;cases hb⟩
  rw[cn,if_neg k];refine ad rfl rfl rfl (by simp only[bdk,az]) ?_
  simp only[Td,Bn,Bo,Bp,ah.bbw,aw,reduceIte,Nat.reduceEqDiff,aW,t3,zk,Option.isSome]
theorem gG (t:Tm):∃x,(∀h,WC env 115 [.agg (tc t)] h (fun o=>o=.ret ⟨.aF [.bool x,.bool (cn t).isSome],h,.none⟩))∧∀b,cn t=some b→x=b:=by
 by_cases e1:t.text=[116,114,117,101]
 ·have z1:(t.text==[116,114,117,101])=true:=by simpa using e1
  by_cases k:t.kind=2
  ·have zk:(t.kind==2)=true:=by simpa using k
   refine⟨true,fun h=> ?_,fun b hb=>by rw[cn,if_pos k,if_pos e1]at hb;exact Option.some.inj hb⟩
   rw[cn,if_pos k,if_pos e1];refine ad rfl rfl rfl (by simp only[bdk,az]) ?_
   simp only[LS,xg,ah.bbw,aw,aW,t3]
   refine aB ?_
   simp only[aw,reduceIte,Nat.reduceEqDiff,k3,aW,t3,xh,aD,z1,zk,Option.isSome]
   rfl
  ·have zk:(t.kind==2)=false:=by simpa using k
   refine⟨true,fun h=> ?_,fun b hb=>by rw[cn,if_neg k]at hb;cases hb⟩
   rw[cn,if_neg k];refine ad rfl rfl rfl (by simp only[bdk,az]) ?_
   simp only[LS,xg,ah.bbw,aw,aW,t3]
   refine aB ?_
   simp only[aw,reduceIte,Nat.reduceEqDiff,k3,AI,aW,t3,xh,aD,z1,zk,Option.isSome]
   rfl
 ·have z1:(t.text==[116,114,117,101])=false:=by simpa using e1
  by_cases k:t.kind=2
  ·have zk:(t.kind==2)=true:=by simpa using k
   by_cases e2:t.text=[102,97,108,115,101]
   ·have z2:(t.text==[102,97,108,115,101])=true:=by simpa using e2
    refine⟨false,fun h=> ?_,fun b hb=>by rw[cn,if_pos k,if_neg e1,if_pos e2]at hb;exact Option.some.inj hb⟩
    rw[cn,if_pos k,if_neg e1,if_pos e2];refine ad rfl rfl rfl (by simp only[bdk,az]) ?_
    simp only[LS,xg,ah.bbw,aw,aW,t3]
    refine aB ?_
    simp only[aw,reduceIte,Nat.reduceEqDiff,k3,aW,t3,xh,aD,z1,z2,zk,Option.isSome]
    rfl
   ·have z2:(t.text==[102,97,108,115,101])=false:=by simpa using e2
    refine⟨false,fun h=> ?_,fun b hb=>by rw[cn,if_pos k,if_neg e1,if_neg e2]at hb;cases hb⟩
    rw[cn,if_pos k,if_neg e1,if_neg e2];refine ad rfl rfl rfl (by simp only[bdk,az]) ?_
    simp only[LS,xg,ah.bbw,aw,aW,t3]
    refine aB ?_
    simp only[aw,reduceIte,Nat.reduceEqDiff,k3,aW,t3,xh,aD,z1,z2,zk,Option.isSome]
    rfl
  ·have zk:(t.kind==2)=false:=by simpa using k
   refine⟨false,fun h=> ?_,fun b hb=>by rw[cn,if_neg k]at hb;cases hb⟩
   rw[cn,if_neg k];refine ad rfl rfl rfl (by simp only[bdk,az]) ?_
   simp only[LS,xg,ah.bbw,aw,aW,t3]
   refine aB ?_
   simp only[aw,reduceIte,Nat.reduceEqDiff,k3,AI,aW,t3,xh,aD,z1,zk,Option.isSome]
   rfl
theorem LU (x y:Bool):uS .bool (.bool x) (.bool y)=some (x==y):=rfl
theorem cO:aK=tc bZ:=rfl
def kL (n:Nat) (x y:Bool):Bool:=match n with
 |0=>x&&y
 |1=>x||y
 |_=>x !=y
theorem Te (a b:Tm) (h:Heap):WC env 61 [.str [97,110,100],.agg (tc a),.agg (tc b)] h (fun o=>o=.ret ⟨(match cn a,cn b with
  |some x,some y=>.aF [.agg (tc (dN (kL 0 x y))),.int .i64 0]
  |_,_=>.aF [.agg (tc bZ),.int .i64 261]),h,.none⟩):=by
 have n0:(([97,110,100]:List UInt8)==[97,110,100])=true:=by decide
 have n1:(([97,110,100]:List UInt8)==[111,114])=false:=by decide
 obtain⟨x,wx,hx⟩:=jW a
 obtain⟨y,wy,hy⟩:=jW b
 have hr:AV.aj [.str [97,110,100],.agg (tc a),.agg (tc b)]=true:=by simp only[bdk,az]
 cases ea:cn a with
 |none=>
  rw[ea]at wx
  refine ad rfl rfl rfl hr ?_
  cases eb:cn b with
  |none=>
   rw[eb]at wy
   simp only[Qv,oe,og,oh,om,oq,ot,ou,ov,oz,oA,jX,ah.bbw,aw,reduceIte,Nat.reduceEqDiff,aW,Nat.reduceAdd,t3,Option.isSome,ai (wx _),ai (wy _),dm,bak,←cO]
  |some y' =>
   rw[eb]at wy
   simp only[Qv,oe,og,oh,om,oq,ot,ou,ov,oz,oA,jX,ah.bbw,aw,reduceIte,Nat.reduceEqDiff,aW,Nat.reduceAdd,t3,Option.isSome,ai (wx _),ai (wy _),dm,bak,←cO]
 |some x' =>
  have:=hx _ ea
  subst this;rw[ea]at wx
  refine ad rfl rfl rfl hr ?_
  cases eb:cn b with
  |none=>
   rw[eb]at wy
   simp only[Qv,oe,og,oh,om,oq,ot,ou,ov,oz,oA,jX,ah.bbw,aw,reduceIte,Nat.reduceEqDiff,aW,Nat.reduceAdd,t3,Option.isSome,ai (wx _),ai (wy _),dm,bak,baj,←cO]
  |some y' =>
   have:=hy _ eb
   subst this;rw[eb]at wy
   cases x<;>cases y<;>simp only[Qv,oe,og,oh,om,oq,ot,ou,ov,oz,oA,jX,kL,ah.bbw,aw,reduceIte,Nat.reduceEqDiff,aW,Nat.reduceAdd,t3,aD,n0,Option.isSome,ai (wx _),ai (wy _),dm,baj,Bool.and_true,Bool.and_false,ai (cX _ _)]<;>rfl
theorem Vr (a b:Tm) (h:Heap):WC env 61 [.str [111,114],.agg (tc a),.agg (tc b)] h (fun o=>o=.ret ⟨(match cn a,cn b with
  |some x,some y=>.aF [.agg (tc (dN (kL 1 x y))),.int .i64 0]
  |_,_=>.aF [.agg (tc bZ),.int .i64 261]),h,.none⟩):=by
 have n0:(([111,114]:List UInt8)==[97,110,100])=false:=by decide
 have n1:(([111,114]:List UInt8)==[111,114])=true:=by decide
 obtain⟨x,wx,hx⟩:=jW a
 obtain⟨y,wy,hy⟩:=jW b
 have hr:AV.aj [.str [111,114],.agg (tc a),.agg (tc b)]=true:=by simp only[bdk,az]
 cases ea:cn a with
 |none=>
  rw[ea]at wx
  refine ad rfl rfl rfl hr ?_
  cases eb:cn b with
  |none=>
   rw[eb]at wy
   simp only[Qv,oe,og,oh,om,oq,ot,ou,ov,oz,oA,jX,ah.bbw,aw,reduceIte,Nat.reduceEqDiff,aW,Nat.reduceAdd,t3,Option.isSome,ai (wx _),ai (wy _),dm,bak,←cO]
  |some y' =>
   rw[eb]at wy
   simp only[Qv,oe,og,oh,om,oq,ot,ou,ov,oz,oA,jX,ah.bbw,aw,reduceIte,Nat.reduceEqDiff,aW,Nat.reduceAdd,t3,Option.isSome,ai (wx _),ai (wy _),dm,bak,←cO]
 |some x' =>
  have:=hx _ ea
  subst this;rw[ea]at wx
  refine ad rfl rfl rfl hr ?_
  cases eb:cn b with
  |none=>
   rw[eb]at wy
   simp only[Qv,oe,og,oh,om,oq,ot,ou,ov,oz,oA,jX,ah.bbw,aw,reduceIte,Nat.reduceEqDiff,aW,Nat.reduceAdd,t3,Option.isSome,ai (wx _),ai (wy _),dm,bak,baj,←cO]
  |some y' =>
   have:=hy _ eb
   subst this;rw[eb]at wy
   cases x<;>cases y<;>simp only[Qv,oe,og,oh,om,oq,ot,ou,ov,oz,oA,jX,kL,ah.bbw,aw,reduceIte,Nat.reduceEqDiff,aW,Nat.reduceAdd,t3,aD,n0,n1,Option.isSome,ai (wx _),ai (wy _),dm,baj,Bool.or_true,Bool.or_false,ai (cX _ _)]<;>rfl
theorem Ec (a b:Tm) (h:Heap):WC env 61 [.str [120,111,114],.agg (tc a),.agg (tc b)] h (fun o=>o=.ret ⟨(match cn a,cn b with
  |some x,some y=>.aF [.agg (tc (dN (kL 2 x y))),.int .i64 0]
  |_,_=>.aF [.agg (tc bZ),.int .i64 261]),h,.none⟩):=by
 have n0:(([120,111,114]:List UInt8)==[97,110,100])=false:=by decide
 have n1:(([120,111,114]:List UInt8)==[111,114])=false:=by decide
 obtain⟨x,wx,hx⟩:=jW a
 obtain⟨y,wy,hy⟩:=jW b
 have hr:AV.aj [.str [120,111,114],.agg (tc a),.agg (tc b)]=true:=by simp only[bdk,az]
 cases ea:cn a with
 |none=>
  rw[ea]at wx
  refine ad rfl rfl rfl hr ?_
  cases eb:cn b with
  |none=>
   rw[eb]at wy
   simp only[Qv,oe,og,oh,om,oq,ot,ou,ov,oz,oA,jX,ah.bbw,aw,reduceIte,Nat.reduceEqDiff,aW,Nat.reduceAdd,t3,Option.isSome,ai (wx _),ai (wy _),dm,bak,←cO]
  |some y' =>
   rw[eb]at wy
   simp only[Qv,oe,og,oh,om,oq,ot,ou,ov,oz,oA,jX,ah.bbw,aw,reduceIte,Nat.reduceEqDiff,aW,Nat.reduceAdd,t3,Option.isSome,ai (wx _),ai (wy _),dm,bak,←cO]
 |some x' =>
  have:=hx _ ea
  subst this;rw[ea]at wx
  refine ad rfl rfl rfl hr ?_
  cases eb:cn b with
  |none=>
   rw[eb]at wy
   simp only[Qv,oe,og,oh,om,oq,ot,ou,ov,oz,oA,jX,ah.bbw,aw,reduceIte,Nat.reduceEqDiff,aW,Nat.reduceAdd,t3,Option.isSome,ai (wx _),ai (wy _),dm,bak,baj,←cO]
  |some y' =>
   have:=hy _ eb
   subst this;rw[eb]at wy
   cases x<;>cases y<;>simp only[Qv,oe,og,oh,om,oq,ot,ou,ov,oz,oA,jX,kL,ah.bbw,aw,reduceIte,Nat.reduceEqDiff,aW,Nat.reduceAdd,t3,aD,n0,n1,Option.isSome,ai (wx _),ai (wy _),dm,baj,LU,Bool.beq_eq_decide_eq,bne,ai (cX _ _)]<;>rfl
end Go.Bf
namespace Go.Bf
open Go.AM
theorem FA (t:Tm) (h:Heap):WC env 67 [.str [105,115,95,97,116,111,109],.agg (tc t)] h (fun o=>o=.ret ⟨.bool (t.kind==2),h,.none⟩):=by
 refine ad rfl rfl rfl (by simp only[bdk,az]) ?_
 simp only[a67,vB,vC,vD,vF,vG,vH,vI,vJ,vK,vL,pA,pB,pC,pD,pE,pF,ah.bbw,aw,reduceIte,Nat.reduceEqDiff,aD,bQ,UInt8.reduceToNat,aW,t3]
theorem JE {v:AV} {t:Tm} (kv:Sl v [t]) (h:Heap):WC env 38 [.str [105,115,95,97,116,111,109],v] h (fun o=>o=.ret ⟨.aF [.agg (tc (dN (t.kind==2))),.int .i64 0],h,.none⟩):=by
 obtain⟨A,x0,lA,nl⟩:=zA kv
 have wp:∀h,WC env 66 [.str [105,115,95,97,116,111,109],.str [105,115,95]] h (fun o=>o=.ret ⟨.bool true,h,.none⟩):=fun h=>bu (n:=30) (by kernel_rfl)
 refine ad rfl rfl rfl (by simp only[bdk,kv.ae]) ?_
 simp only[mf,mD,ah.bbw,aw,reduceIte,Nat.reduceEqDiff,aD,bQ,UInt8.reduceToNat,ai (wp _),x0,lA,ai (FA _ _),ai (cX _ _),aW,Nat.reduceAdd,t3]
theorem JF {v:AV} {t:Tm} (kv:Sl v [t]) (h:Heap):WC env 78 [.str [105,115,95,97,116,111,109],v] h (fun o=>o=.ret ⟨.aF [.agg (tc (dN (t.kind==2))),.int .i64 0],h,.none⟩):=by
 obtain⟨A,x0,lA,nl⟩:=zA kv
 refine ad rfl rfl rfl (by simp only[bdk,kv.ae]) ?_
 simp only[wS,yi,ah.bbw,aw,reduceIte,Nat.reduceEqDiff,aD,bQ,UInt8.reduceToNat,x0,lA,ai (bM _ _),aW,Nat.reduceAdd,t3]
theorem yK (t:Tm) (h:Heap):WC env 67 [.str [105,115,95,105,110,116,101,103,101,114],.agg (tc t)] h (fun o=>o=.ret ⟨.bool (t.kind==1),h,.none⟩):=by
 refine ad rfl rfl rfl (by simp only[bdk,az]) ?_
 simp only[a67,vB,vC,vD,vF,vG,vH,vI,vJ,vK,vL,pA,pB,pC,pD,pE,pF,ah.bbw,aw,reduceIte,Nat.reduceEqDiff,aD,bQ,UInt8.reduceToNat,aW,t3]
theorem Bq {v:AV} {t:Tm} (kv:Sl v [t]) (h:Heap):WC env 38 [.str [105,115,95,105,110,116,101,103,101,114],v] h (fun o=>o=.ret ⟨.aF [.agg (tc (dN (t.kind==1))),.int .i64 0],h,.none⟩):=by
 obtain⟨A,x0,lA,nl⟩:=zA kv
 have wp:∀h,WC env 66 [.str [105,115,95,105,110,116,101,103,101,114],.str [105,115,95]] h (fun o=>o=.ret ⟨.bool true,h,.none⟩):=fun h=>bu (n:=30) (by kernel_rfl)
 refine ad rfl rfl rfl (by simp only[bdk,kv.ae]) ?_
 simp only[mf,mD,ah.bbw,aw,reduceIte,Nat.reduceEqDiff,aD,bQ,UInt8.reduceToNat,ai (wp _),x0,lA,ai (yK _ _),ai (cX _ _),aW,Nat.reduceAdd,t3]
theorem Br {v:AV} {t:Tm} (kv:Sl v [t]) (h:Heap):WC env 78 [.str [105,115,95,105,110,116,101,103,101,114],v] h (fun o=>o=.ret ⟨.aF [.agg (tc (dN (t.kind==1))),.int .i64 0],h,.none⟩):=by
 obtain⟨A,x0,lA,nl⟩:=zA kv
 refine ad rfl rfl rfl (by simp only[bdk,kv.ae]) ?_
 simp only[wS,yi,ah.bbw,aw,reduceIte,Nat.reduceEqDiff,aD,bQ,UInt8.reduceToNat,x0,lA,ai (bM _ _),aW,Nat.reduceAdd,t3]
theorem JG (t:Tm) (h:Heap):WC env 67 [.str [105,115,95,112,105,100],.agg (tc t)] h (fun o=>o=.ret ⟨.bool (t.kind==4),h,.none⟩):=by
 refine ad rfl rfl rfl (by simp only[bdk,az]) ?_
 simp only[a67,vB,vC,vD,vF,vG,vH,vI,vJ,vK,vL,pA,pB,pC,pD,pE,pF,ah.bbw,aw,reduceIte,Nat.reduceEqDiff,aD,bQ,UInt8.reduceToNat,aW,t3]
theorem LV {v:AV} {t:Tm} (kv:Sl v [t]) (h:Heap):WC env 38 [.str [105,115,95,112,105,100],v] h (fun o=>o=.ret ⟨.aF [.agg (tc (dN (t.kind==4))),.int .i64 0],h,.none⟩):=by
 obtain⟨A,x0,lA,nl⟩:=zA kv
 have wp:∀h,WC env 66 [.str [105,115,95,112,105,100],.str [105,115,95]] h (fun o=>o=.ret ⟨.bool true,h,.none⟩):=fun h=>bu (n:=30) (by kernel_rfl)
 refine ad rfl rfl rfl (by simp only[bdk,kv.ae]) ?_
 simp only[mf,mD,ah.bbw,aw,reduceIte,Nat.reduceEqDiff,aD,bQ,UInt8.reduceToNat,ai (wp _),x0,lA,ai (JG _ _),ai (cX _ _),aW,Nat.reduceAdd,t3]
theorem LW {v:AV} {t:Tm} (kv:Sl v [t]) (h:Heap):WC env 78 [.str [105,115,95,112,105,100],v] h (fun o=>o=.ret ⟨.aF [.agg (tc (dN (t.kind==4))),.int .i64 0],h,.none⟩):=by
 obtain⟨A,x0,lA,nl⟩:=zA kv
 refine ad rfl rfl rfl (by simp only[bdk,kv.ae]) ?_
 simp only[wS,yi,ah.bbw,aw,reduceIte,Nat.reduceEqDiff,aD,bQ,UInt8.reduceToNat,x0,lA,ai (bM _ _),aW,Nat.reduceAdd,t3]
theorem vM (t:Tm) (h:Heap):WC env 67 [.str [105,115,95,114,101,102,101,114,101,110,99,101],.agg (tc t)] h (fun o=>o=.ret ⟨.bool (t.kind==3),h,.none⟩):=by
 refine ad rfl rfl rfl (by simp only[bdk,az]) ?_
 simp only[a67,vB,vC,vD,vF,vG,vH,vI,vJ,vK,vL,pA,pB,pC,pD,pE,pF,ah.bbw,aw,reduceIte,Nat.reduceEqDiff,aD,bQ,UInt8.reduceToNat,aW,t3]
theorem xi {v:AV} {t:Tm} (kv:Sl v [t]) (h:Heap):WC env 38 [.str [105,115,95,114,101,102,101,114,101,110,99,101],v] h (fun o=>o=.ret ⟨.aF [.agg (tc (dN (t.kind==3))),.int .i64 0],h,.none⟩):=by
 obtain⟨A,x0,lA,nl⟩:=zA kv
 have wp:∀h,WC env 66 [.str [105,115,95,114,101,102,101,114,101,110,99,101],.str [105,115,95]] h (fun o=>o=.ret ⟨.bool true,h,.none⟩):=fun h=>bu (n:=30) (by kernel_rfl)
 refine ad rfl rfl rfl (by simp only[bdk,kv.ae]) ?_
 simp only[mf,mD,ah.bbw,aw,reduceIte,Nat.reduceEqDiff,aD,bQ,UInt8.reduceToNat,ai (wp _),x0,lA,ai (vM _ _),ai (cX _ _),aW,Nat.reduceAdd,t3]
theorem xj {v:AV} {t:Tm} (kv:Sl v [t]) (h:Heap):WC env 78 [.str [105,115,95,114,101,102,101,114,101,110,99,101],v] h (fun o=>o=.ret ⟨.aF [.agg (tc (dN (t.kind==3))),.int .i64 0],h,.none⟩):=by
 obtain⟨A,x0,lA,nl⟩:=zA kv
 refine ad rfl rfl rfl (by simp only[bdk,kv.ae]) ?_
 simp only[wS,yi,ah.bbw,aw,reduceIte,Nat.reduceEqDiff,aD,bQ,UInt8.reduceToNat,x0,lA,ai (bM _ _),aW,Nat.reduceAdd,t3]
theorem C0 (t:Tm) (h:Heap):WC env 67 [.str [105,115,95,116,117,112,108,101],.agg (tc t)] h (fun o=>o=.ret ⟨.bool (t.kind==5),h,.none⟩):=by
 refine ad rfl rfl rfl (by simp only[bdk,az]) ?_
 simp only[a67,vB,vC,vD,vF,vG,vH,vI,vJ,vK,vL,pA,pB,pC,pD,pE,pF,ah.bbw,aw,reduceIte,Nat.reduceEqDiff,aD,bQ,UInt8.reduceToNat,aW,t3]
theorem FB {v:AV} {t:Tm} (kv:Sl v [t]) (h:Heap):WC env 38 [.str [105,115,95,116,117,112,108,101],v] h (fun o=>o=.ret ⟨.aF [.agg (tc (dN (t.kind==5))),.int .i64 0],h,.none⟩):=by
 obtain⟨A,x0,lA,nl⟩:=zA kv
 have wp:∀h,WC env 66 [.str [105,115,95,116,117,112,108,101],.str [105,115,95]] h (fun o=>o=.ret ⟨.bool true,h,.none⟩):=fun h=>bu (n:=30) (by kernel_rfl)
 refine ad rfl rfl rfl (by simp only[bdk,kv.ae]) ?_
 simp only[mf,mD,ah.bbw,aw,reduceIte,Nat.reduceEqDiff,aD,bQ,UInt8.reduceToNat,ai (wp _),x0,lA,ai (C0 _ _),ai (cX _ _),aW,Nat.reduceAdd,t3]
theorem FC {v:AV} {t:Tm} (kv:Sl v [t]) (h:Heap):WC env 78 [.str [105,115,95,116,117,112,108,101],v] h (fun o=>o=.ret ⟨.aF [.agg (tc (dN (t.kind==5))),.int .i64 0],h,.none⟩):=by
 obtain⟨A,x0,lA,nl⟩:=zA kv
 refine ad rfl rfl rfl (by simp only[bdk,kv.ae]) ?_
 simp only[wS,yi,ah.bbw,aw,reduceIte,Nat.reduceEqDiff,aD,bQ,UInt8.reduceToNat,x0,lA,ai (bM _ _),aW,Nat.reduceAdd,t3]
theorem yL (t:Tm) (h:Heap):WC env 67 [.str [105,115,95,98,111,111,108,101,97,110],.agg (tc t)] h (fun o=>o=.ret ⟨.bool (cn t).isSome,h,.none⟩):=by
 obtain⟨x,wx,_⟩:=jW t
 refine ad rfl rfl rfl (by simp only[bdk,az]) ?_
 simp only[a67,vB,vC,vD,vF,vG,vH,vI,vJ,vK,vL,pA,pB,pC,pD,pE,pF,ah.bbw,aw,reduceIte,Nat.reduceEqDiff,aD,bQ,UInt8.reduceToNat,ai (wx _),aW,t3]
theorem Bs {v:AV} {t:Tm} (kv:Sl v [t]) (h:Heap):WC env 38 [.str [105,115,95,98,111,111,108,101,97,110],v] h (fun o=>o=.ret ⟨.aF [.agg (tc (dN (cn t).isSome)),.int .i64 0],h,.none⟩):=by
 obtain⟨A,x0,lA,nl⟩:=zA kv
 have wp:∀h,WC env 66 [.str [105,115,95,98,111,111,108,101,97,110],.str [105,115,95]] h (fun o=>o=.ret ⟨.bool true,h,.none⟩):=fun h=>bu (n:=30) (by kernel_rfl)
 refine ad rfl rfl rfl (by simp only[bdk,kv.ae]) ?_
 simp only[mf,mD,ah.bbw,aw,reduceIte,Nat.reduceEqDiff,aD,bQ,UInt8.reduceToNat,ai (wp _),x0,lA,ai (yL _ _),ai (cX _ _),aW,Nat.reduceAdd,t3]
theorem Bt {v:AV} {t:Tm} (kv:Sl v [t]) (h:Heap):WC env 78 [.str [105,115,95,98,111,111,108,101,97,110],v] h (fun o=>o=.ret ⟨.aF [.agg (tc (dN (cn t).isSome)),.int .i64 0],h,.none⟩):=by
 obtain⟨A,x0,lA,nl⟩:=zA kv
 obtain⟨x,wx,_⟩:=gG t
 refine ad rfl rfl rfl (by simp only[bdk,kv.ae]) ?_
 simp only[wS,yi,ah.bbw,aw,reduceIte,Nat.reduceEqDiff,aD,bQ,UInt8.reduceToNat,x0,lA,ai (wx _),ai (bM _ _),aW,Nat.reduceAdd,t3]
theorem FD (t:Tm) (h:Heap):WC env 67 [.str [105,115,95,108,105,115,116],.agg (tc t)] h (fun o=>o=.ret ⟨.bool (t.kind==7||t.kind==6),h,.none⟩):=by
 refine ad rfl rfl rfl (by simp only[bdk,az]) ?_
 cases z:(t.kind==7)with
 |true=>simp only[a67,vB,vC,vD,vF,vG,vH,vI,vJ,vK,vL,pA,pB,pC,pD,pE,pF,ah.bbw,aw,reduceIte,Nat.reduceEqDiff,aD,bQ,UInt8.reduceToNat,z,Bool.true_or,aW,t3]
 |false=>simp only[a67,vB,vC,vD,vF,vG,vH,vI,vJ,vK,vL,pA,pB,pC,pD,pE,pF,ah.bbw,aw,reduceIte,Nat.reduceEqDiff,aD,bQ,UInt8.reduceToNat,z,Bool.false_or,aW,t3]
theorem JH {v:AV} {t:Tm} (kv:Sl v [t]) (h:Heap):WC env 38 [.str [105,115,95,108,105,115,116],v] h (fun o=>o=.ret ⟨.aF [.agg (tc (dN (t.kind==7||t.kind==6))),.int .i64 0],h,.none⟩):=by
 obtain⟨A,x0,lA,nl⟩:=zA kv
 have wp:∀h,WC env 66 [.str [105,115,95,108,105,115,116],.str [105,115,95]] h (fun o=>o=.ret ⟨.bool true,h,.none⟩):=fun h=>bu (n:=30) (by kernel_rfl)
 refine ad rfl rfl rfl (by simp only[bdk,kv.ae]) ?_
 simp only[mf,mD,ah.bbw,aw,reduceIte,Nat.reduceEqDiff,aD,bQ,UInt8.reduceToNat,ai (wp _),x0,lA,ai (FD _ _),ai (cX _ _),aW,Nat.reduceAdd,t3]
theorem JI {v:AV} {t:Tm} (kv:Sl v [t]) (h:Heap):WC env 78 [.str [105,115,95,108,105,115,116],v] h (fun o=>o=.ret ⟨.aF [.agg (tc (dN (t.kind==6||t.kind==7))),.int .i64 0],h,.none⟩):=by
 obtain⟨A,x0,lA,nl⟩:=zA kv
 refine ad rfl rfl rfl (by simp only[bdk,kv.ae]) ?_
 cases z:(t.kind==6)with
 |true=>simp only[wS,yi,ah.bbw,aw,reduceIte,Nat.reduceEqDiff,aD,bQ,UInt8.reduceToNat,x0,lA,z,Bool.true_or,ai (bM _ _),aW,Nat.reduceAdd,t3]
 |false=>simp only[wS,yi,ah.bbw,aw,reduceIte,Nat.reduceEqDiff,aD,bQ,UInt8.reduceToNat,x0,lA,z,Bool.false_or,ai (bM _ _),aW,Nat.reduceAdd,t3]
end Go.Bf
namespace Go.Bf
open Go.AM
theorem LX {v:AV} {a b:Tm} (kv:Sl v [a,b]) (h:Heap):WC env 75 [.str [97,110,100],v] h (fun o=>o=.ret ⟨(match cn a,cn b with
  |some x,some y=>.aF [.agg (tc (dN (kL 0 x y))),.int .i64 0]
  |_,_=>.aF [.agg (tc bZ),.int .i64 261]),h,.none⟩):=by
 obtain⟨A,B,x0,x1,lA,lB,nl⟩:=ql kv
 have u2:((2:Int)==2)=true:=rfl
 obtain⟨x,wx,hx⟩:=gG a
 obtain⟨y,wy,hy⟩:=gG b
 have hr:AV.aj [.str [97,110,100],v]=true:=by simp only[bdk,kv.ae]
 cases ea:cn a with
 |none=>
  rw[ea]at wx
  refine ad rfl rfl rfl hr ?_
  cases eb:cn b with
  |none=>
   rw[eb]at wy
   simp only[a75,lN,lO,lP,lQ,lR,lS,lT,lU,lV,lW,iY,iZ,i_,ja,jb,jc,jd,ah.bbw,aw,reduceIte,Nat.reduceEqDiff,aW,Nat.reduceAdd,t3,Option.isSome,x0,x1,lA,lB,nl,u2,ai (wx _),ai (wy _),dm,bak,←cO]
  |some y' =>
   rw[eb]at wy
   simp only[a75,lN,lO,lP,lQ,lR,lS,lT,lU,lV,lW,iY,iZ,i_,ja,jb,jc,jd,ah.bbw,aw,reduceIte,Nat.reduceEqDiff,aW,Nat.reduceAdd,t3,Option.isSome,x0,x1,lA,lB,nl,u2,ai (wx _),ai (wy _),dm,bak,←cO]
 |some x' =>
  have:=hx _ ea
  subst this;rw[ea]at wx
  refine ad rfl rfl rfl hr ?_
  cases eb:cn b with
  |none=>
   rw[eb]at wy
   simp only[a75,lN,lO,lP,lQ,lR,lS,lT,lU,lV,lW,iY,iZ,i_,ja,jb,jc,jd,ah.bbw,aw,reduceIte,Nat.reduceEqDiff,aW,Nat.reduceAdd,t3,Option.isSome,x0,x1,lA,lB,nl,u2,ai (wx _),ai (wy _),dm,bak,←cO]
  |some y' =>
   have:=hy _ eb
   subst this;rw[eb]at wy
   cases x<;>cases y<;>simp only[a75,lN,lO,lP,lQ,lR,lS,lT,lU,lV,lW,iY,iZ,i_,ja,jb,jc,jd,kL,ah.bbw,aw,reduceIte,Nat.reduceEqDiff,aW,Nat.reduceAdd,t3,aD,bQ,UInt8.reduceToNat,Option.isSome,x0,x1,lA,lB,nl,u2,ai (wx _),ai (wy _),dm,baj,ai (bM _ _)]<;>rfl
theorem Tf {v:AV} {a b:Tm} (kv:Sl v [a,b]) (h:Heap):WC env 75 [.str [111,114],v] h (fun o=>o=.ret ⟨(match cn a,cn b with
  |some x,some y=>.aF [.agg (tc (dN (kL 1 x y))),.int .i64 0]
  |_,_=>.aF [.agg (tc bZ),.int .i64 261]),h,.none⟩):=by
 obtain⟨A,B,x0,x1,lA,lB,nl⟩:=ql kv
 have u2:((2:Int)==2)=true:=rfl
 obtain⟨x,wx,hx⟩:=gG a
 obtain⟨y,wy,hy⟩:=gG b
 have hr:AV.aj [.str [111,114],v]=true:=by simp only[bdk,kv.ae]
 cases ea:cn a with
 |none=>
  rw[ea]at wx
  refine ad rfl rfl rfl hr ?_
  cases eb:cn b with
  |none=>
   rw[eb]at wy
   simp only[a75,lN,lO,lP,lQ,lR,lS,lT,lU,lV,lW,iY,iZ,i_,ja,jb,jc,jd,ah.bbw,aw,reduceIte,Nat.reduceEqDiff,aW,Nat.reduceAdd,t3,Option.isSome,x0,x1,lA,lB,nl,u2,ai (wx _),ai (wy _),dm,bak,←cO]
  |some y' =>
   rw[eb]at wy
   simp only[a75,lN,lO,lP,lQ,lR,lS,lT,lU,lV,lW,iY,iZ,i_,ja,jb,jc,jd,ah.bbw,aw,reduceIte,Nat.reduceEqDiff,aW,Nat.reduceAdd,t3,Option.isSome,x0,x1,lA,lB,nl,u2,ai (wx _),ai (wy _),dm,bak,←cO]
 |some x' =>
  have:=hx _ ea
  subst this;rw[ea]at wx
  refine ad rfl rfl rfl hr ?_
  cases eb:cn b with
  |none=>
   rw[eb]at wy
   simp only[a75,lN,lO,lP,lQ,lR,lS,lT,lU,lV,lW,iY,iZ,i_,ja,jb,jc,jd,ah.bbw,aw,reduceIte,Nat.reduceEqDiff,aW,Nat.reduceAdd,t3,Option.isSome,x0,x1,lA,lB,nl,u2,ai (wx _),ai (wy _),dm,bak,←cO]
  |some y' =>
   have:=hy _ eb
   subst this;rw[eb]at wy
   cases x<;>cases y<;>simp only[a75,lN,lO,lP,lQ,lR,lS,lT,lU,lV,lW,iY,iZ,i_,ja,jb,jc,jd,kL,ah.bbw,aw,reduceIte,Nat.reduceEqDiff,aW,Nat.reduceAdd,t3,aD,bQ,UInt8.reduceToNat,Option.isSome,x0,x1,lA,lB,nl,u2,ai (wx _),ai (wy _),dm,baj,ai (bM _ _)]<;>rfl
theorem LY {v:AV} {a b:Tm} (kv:Sl v [a,b]) (h:Heap):WC env 75 [.str [120,111,114],v] h (fun o=>o=.ret ⟨(match cn a,cn b with
  |some x,some y=>.aF [.agg (tc (dN (kL 2 x y))),.int .i64 0]
  |_,_=>.aF [.agg (tc bZ),.int .i64 261]),h,.none⟩):=by
 obtain⟨A,B,x0,x1,lA,lB,nl⟩:=ql kv
 have u2:((2:Int)==2)=true:=rfl
 obtain⟨x,wx,hx⟩:=gG a
 obtain⟨y,wy,hy⟩:=gG b
 have hr:AV.aj [.str [120,111,114],v]=true:=by simp only[bdk,kv.ae]
 cases ea:cn a with
 |none=>
  rw[ea]at wx
  refine ad rfl rfl rfl hr ?_
  cases eb:cn b with
  |none=>
   rw[eb]at wy
   simp only[a75,lN,lO,lP,lQ,lR,lS,lT,lU,lV,lW,iY,iZ,i_,ja,jb,jc,jd,ah.bbw,aw,reduceIte,Nat.reduceEqDiff,aW,Nat.reduceAdd,t3,Option.isSome,x0,x1,lA,lB,nl,u2,ai (wx _),ai (wy _),dm,bak,←cO]
  |some y' =>
   rw[eb]at wy
   simp only[a75,lN,lO,lP,lQ,lR,lS,lT,lU,lV,lW,iY,iZ,i_,ja,jb,jc,jd,ah.bbw,aw,reduceIte,Nat.reduceEqDiff,aW,Nat.reduceAdd,t3,Option.isSome,x0,x1,lA,lB,nl,u2,ai (wx _),ai (wy _),dm,bak,←cO]
 |some x' =>
  have:=hx _ ea
  subst this;rw[ea]at wx
  refine ad rfl rfl rfl hr ?_
  cases eb:cn b with
  |none=>
   rw[eb]at wy
   simp only[a75,lN,lO,lP,lQ,lR,lS,lT,lU,lV,lW,iY,iZ,i_,ja,jb,jc,jd,ah.bbw,aw,reduceIte,Nat.reduceEqDiff,aW,Nat.reduceAdd,t3,Option.isSome,x0,x1,lA,lB,nl,u2,ai (wx _),ai (wy _),dm,bak,←cO]
  |some y' =>
   have:=hy _ eb
   subst this;rw[eb]at wy
   cases x<;>cases y<;>simp only[a75,lN,lO,lP,lQ,lR,lS,lT,lU,lV,lW,iY,iZ,i_,ja,jb,jc,jd,kL,ah.bbw,aw,reduceIte,Nat.reduceEqDiff,aW,Nat.reduceAdd,t3,aD,bQ,UInt8.reduceToNat,Option.isSome,x0,x1,lA,lB,nl,u2,ai (wx _),ai (wy _),dm,baj,LU,ai (bM _ _)]<;>rfl
theorem LZ {v:AV} {a:Tm} (kv:Sl v [a]) (h:Heap):WC env 75 [.str [110,111,116],v] h (fun o=>o=.ret ⟨(match cn a with
  |some x=>.aF [.agg (tc (dN (!x))),.int .i64 0]
  |none=>.aF [.agg (tc bZ),.int .i64 261]),h,.none⟩):=by
 obtain⟨A,x0,lA,nl⟩:=zA kv
 have u2:((1:Int)==2)=false:=rfl
 obtain⟨x,wx,hx⟩:=gG a
 have hr:AV.aj [.str [110,111,116],v]=true:=by simp only[bdk,kv.ae]
 cases ea:cn a with
 |none=>
  rw[ea]at wx
  refine ad rfl rfl rfl hr ?_
  simp only[a75,lN,lO,lP,lQ,lR,lS,lT,lU,lV,lW,iY,iZ,i_,ja,jb,jc,jd,ah.bbw,aw,reduceIte,Nat.reduceEqDiff,aW,Nat.reduceAdd,t3,Option.isSome,x0,lA,nl,u2,ai (wx _),dm,bak,←cO]
 |some x' =>
  have:=hx _ ea
  subst this;rw[ea]at wx
  refine ad rfl rfl rfl hr ?_
  cases x<;>simp only[a75,lN,lO,lP,lQ,lR,lS,lT,lU,lV,lW,iY,iZ,i_,ja,jb,jc,jd,ah.bbw,aw,reduceIte,Nat.reduceEqDiff,aW,Nat.reduceAdd,t3,aD,bQ,UInt8.reduceToNat,Option.isSome,x0,lA,nl,u2,ai (wx _),dm,bak,baj,ai (bM _ _)]
theorem Qw {v:AV} {a r:Tm} {cd:Int} (kv:Sl v [a]) (hr:∀h,WC env 61 [.str [120,111,114],.agg (tc a),.agg (tc (gZ [116,114,117,101]))] h (fun o=>o=.ret ⟨.aF [.agg (tc r),.int .i64 cd],h,.none⟩)) (h:Heap):WC env 38 [.str [110,111,116],v] h (fun o=>o=.ret ⟨.aF [.agg (tc r),.int .i64 cd],h,.none⟩):=by
 obtain⟨A,x0,lA,nl⟩:=zA kv
 refine ad rfl rfl rfl (by simp only[bdk,kv.ae]) ?_
 simp only[mf,mD,ah.bbw,aw,reduceIte,Nat.reduceEqDiff,aD,bQ,UInt8.reduceToNat,aW]
 refine aB ?_
 simp only[aw,reduceIte,Nat.reduceEqDiff,k3,aW,Nat.reduceAdd,t3,x0,lA,ai (im _ _),ai (hr _)]
 rfl
end Go.Bf
namespace Go.Bf
open Go.AM
theorem FF {v:AV} {r:Tm} {cd:Int} (hv:v.ae=true) (hr:∀h,WC env 68 [.str [97,98,115],v] h (fun o=>o=.ret ⟨.aF [.agg (tc r),.int .i64 cd],h,.none⟩)) (h:Heap):WC env 38 [.str [97,98,115],v] h (fun o=>o=.ret ⟨.aF [.agg (tc r),.int .i64 cd],h,.none⟩):=by
 have wp:∀h,WC env 66 [.str [97,98,115],.str [105,115,95]] h (fun o=>o=.ret ⟨.bool false,h,.none⟩):=fun h=>bu (n:=30) (by kernel_rfl)
 refine ad rfl rfl rfl (by simp only[bdk,hv]) ?_
 simp only[mf,mD,ah.bbw,aw,reduceIte,Nat.reduceEqDiff,aD,bQ,UInt8.reduceToNat,ai (wp _),ai (hr _),aW,Nat.reduceAdd,t3]
theorem L0 {v:AV} {r:Tm} {cd:Int} (hv:v.ae=true) (hr:∀h,WC env 68 [.str [104,100],v] h (fun o=>o=.ret ⟨.aF [.agg (tc r),.int .i64 cd],h,.none⟩)) (h:Heap):WC env 38 [.str [104,100],v] h (fun o=>o=.ret ⟨.aF [.agg (tc r),.int .i64 cd],h,.none⟩):=by
 have wp:∀h,WC env 66 [.str [104,100],.str [105,115,95]] h (fun o=>o=.ret ⟨.bool false,h,.none⟩):=fun h=>bu (n:=30) (by kernel_rfl)
 refine ad rfl rfl rfl (by simp only[bdk,hv]) ?_
 simp only[mf,mD,ah.bbw,aw,reduceIte,Nat.reduceEqDiff,aD,bQ,UInt8.reduceToNat,ai (wp _),ai (hr _),aW,Nat.reduceAdd,t3]
theorem L1 {v:AV} {r:Tm} {cd:Int} (hv:v.ae=true) (hr:∀h,WC env 68 [.str [116,108],v] h (fun o=>o=.ret ⟨.aF [.agg (tc r),.int .i64 cd],h,.none⟩)) (h:Heap):WC env 38 [.str [116,108],v] h (fun o=>o=.ret ⟨.aF [.agg (tc r),.int .i64 cd],h,.none⟩):=by
 have wp:∀h,WC env 66 [.str [116,108],.str [105,115,95]] h (fun o=>o=.ret ⟨.bool false,h,.none⟩):=fun h=>bu (n:=30) (by kernel_rfl)
 refine ad rfl rfl rfl (by simp only[bdk,hv]) ?_
 simp only[mf,mD,ah.bbw,aw,reduceIte,Nat.reduceEqDiff,aD,bQ,UInt8.reduceToNat,ai (wp _),ai (hr _),aW,Nat.reduceAdd,t3]
theorem Bu {v:AV} {r:Tm} {cd:Int} (hv:v.ae=true) (hr:∀h,WC env 68 [.str [110,111,100,101],v] h (fun o=>o=.ret ⟨.aF [.agg (tc r),.int .i64 cd],h,.none⟩)) (h:Heap):WC env 38 [.str [110,111,100,101],v] h (fun o=>o=.ret ⟨.aF [.agg (tc r),.int .i64 cd],h,.none⟩):=by
 have wp:∀h,WC env 66 [.str [110,111,100,101],.str [105,115,95]] h (fun o=>o=.ret ⟨.bool false,h,.none⟩):=fun h=>bu (n:=30) (by kernel_rfl)
 refine ad rfl rfl rfl (by simp only[bdk,hv]) ?_
 simp only[mf,mD,ah.bbw,aw,reduceIte,Nat.reduceEqDiff,aD,bQ,UInt8.reduceToNat,ai (wp _),ai (hr _),aW,Nat.reduceAdd,t3]
theorem qT {v:AV} {r:Tm} {cd:Int} (hv:v.ae=true) (hr:∀h,WC env 68 [.str [116,117,112,108,101,95,115,105,122,101],v] h (fun o=>o=.ret ⟨.aF [.agg (tc r),.int .i64 cd],h,.none⟩)) (h:Heap):WC env 38 [.str [116,117,112,108,101,95,115,105,122,101],v] h (fun o=>o=.ret ⟨.aF [.agg (tc r),.int .i64 cd],h,.none⟩):=by
 have wp:∀h,WC env 66 [.str [116,117,112,108,101,95,115,105,122,101],.str [105,115,95]] h (fun o=>o=.ret ⟨.bool false,h,.none⟩):=fun h=>bu (n:=30) (by kernel_rfl)
 refine ad rfl rfl rfl (by simp only[bdk,hv]) ?_
 simp only[mf,mD,ah.bbw,aw,reduceIte,Nat.reduceEqDiff,aD,bQ,UInt8.reduceToNat,ai (wp _),ai (hr _),aW,Nat.reduceAdd,t3]
theorem kS {v:AV} {r:Tm} {cd:Int} (hv:v.ae=true) (hr:∀h,WC env 68 [.str [105,110,116,101,103,101,114,95,116,111,95,108,105,115,116],v] h (fun o=>o=.ret ⟨.aF [.agg (tc r),.int .i64 cd],h,.none⟩)) (h:Heap):WC env 38 [.str [105,110,116,101,103,101,114,95,116,111,95,108,105,115,116],v] h (fun o=>o=.ret ⟨.aF [.agg (tc r),.int .i64 cd],h,.none⟩):=by
 have wp:∀h,WC env 66 [.str [105,110,116,101,103,101,114,95,116,111,95,108,105,115,116],.str [105,115,95]] h (fun o=>o=.ret ⟨.bool false,h,.none⟩):=fun h=>bu (n:=30) (by kernel_rfl)
 refine ad rfl rfl rfl (by simp only[bdk,hv]) ?_
 simp only[mf,mD,ah.bbw,aw,reduceIte,Nat.reduceEqDiff,aD,bQ,UInt8.reduceToNat,ai (wp _),ai (hr _),aW,Nat.reduceAdd,t3]
theorem oB {v:AV} {r:Tm} {cd:Int} (hv:v.ae=true) (hr:∀h,WC env 68 [.str [97,116,111,109,95,116,111,95,108,105,115,116],v] h (fun o=>o=.ret ⟨.aF [.agg (tc r),.int .i64 cd],h,.none⟩)) (h:Heap):WC env 38 [.str [97,116,111,109,95,116,111,95,108,105,115,116],v] h (fun o=>o=.ret ⟨.aF [.agg (tc r),.int .i64 cd],h,.none⟩):=by
 have wp:∀h,WC env 66 [.str [97,116,111,109,95,116,111,95,108,105,115,116],.str [105,115,95]] h (fun o=>o=.ret ⟨.bool false,h,.none⟩):=fun h=>bu (n:=30) (by kernel_rfl)
 refine ad rfl rfl rfl (by simp only[bdk,hv]) ?_
 simp only[mf,mD,ah.bbw,aw,reduceIte,Nat.reduceEqDiff,aD,bQ,UInt8.reduceToNat,ai (wp _),ai (hr _),aW,Nat.reduceAdd,t3]
theorem iI {v:AV} {r:Tm} {cd:Int} (hv:v.ae=true) (hr:∀h,WC env 68 [.str [108,105,115,116,95,116,111,95,105,110,116,101,103,101,114],v] h (fun o=>o=.ret ⟨.aF [.agg (tc r),.int .i64 cd],h,.none⟩)) (h:Heap):WC env 38 [.str [108,105,115,116,95,116,111,95,105,110,116,101,103,101,114],v] h (fun o=>o=.ret ⟨.aF [.agg (tc r),.int .i64 cd],h,.none⟩):=by
 have wp:∀h,WC env 66 [.str [108,105,115,116,95,116,111,95,105,110,116,101,103,101,114],.str [105,115,95]] h (fun o=>o=.ret ⟨.bool false,h,.none⟩):=fun h=>bu (n:=30) (by kernel_rfl)
 refine ad rfl rfl rfl (by simp only[bdk,hv]) ?_
 simp only[mf,mD,ah.bbw,aw,reduceIte,Nat.reduceEqDiff,aD,bQ,UInt8.reduceToNat,ai (wp _),ai (hr _),aW,Nat.reduceAdd,t3]
theorem jY {v:AV} {r:Tm} {cd:Int} (hv:v.ae=true) (hr:∀h,WC env 68 [.str [108,105,115,116,95,116,111,95,97,116,111,109],v] h (fun o=>o=.ret ⟨.aF [.agg (tc r),.int .i64 cd],h,.none⟩)) (h:Heap):WC env 38 [.str [108,105,115,116,95,116,111,95,97,116,111,109],v] h (fun o=>o=.ret ⟨.aF [.agg (tc r),.int .i64 cd],h,.none⟩):=by
 have wp:∀h,WC env 66 [.str [108,105,115,116,95,116,111,95,97,116,111,109],.str [105,115,95]] h (fun o=>o=.ret ⟨.bool false,h,.none⟩):=fun h=>bu (n:=30) (by kernel_rfl)
 refine ad rfl rfl rfl (by simp only[bdk,hv]) ?_
 simp only[mf,mD,ah.bbw,aw,reduceIte,Nat.reduceEqDiff,aD,bQ,UInt8.reduceToNat,ai (wp _),ai (hr _),aW,Nat.reduceAdd,t3]
theorem kI {v:AV} {t r:Tm} {cd:Int} (kv:Sl v [t]) (hr:∀h,WC env 112 [.str [105,110,116,101,103,101,114,95,116,111,95,108,105,115,116],.agg (tc t)] h (fun o=>o=.ret ⟨.aF [.agg (tc r),.int .i64 cd],h,.none⟩)) (h:Heap):WC env 68 [.str [105,110,116,101,103,101,114,95,116,111,95,108,105,115,116],v] h (fun o=>o=.ret ⟨.aF [.agg (tc r),.int .i64 cd],h,.none⟩):=by
 have x0:=bE kv
 refine ad rfl rfl rfl (by simp only[bdk,kv.ae]) ?_
 simp only[xk,yM,ah.bbw,aw,reduceIte,Nat.reduceEqDiff,aD,bQ,UInt8.reduceToNat,x0,bJ,ai (hr _),aW,Nat.reduceAdd,t3]
theorem mF {v:AV} {t r:Tm} {cd:Int} (kv:Sl v [t]) (hr:∀h,WC env 112 [.str [97,116,111,109,95,116,111,95,108,105,115,116],.agg (tc t)] h (fun o=>o=.ret ⟨.aF [.agg (tc r),.int .i64 cd],h,.none⟩)) (h:Heap):WC env 68 [.str [97,116,111,109,95,116,111,95,108,105,115,116],v] h (fun o=>o=.ret ⟨.aF [.agg (tc r),.int .i64 cd],h,.none⟩):=by
 have x0:=bE kv
 refine ad rfl rfl rfl (by simp only[bdk,kv.ae]) ?_
 simp only[xk,yM,ah.bbw,aw,reduceIte,Nat.reduceEqDiff,aD,bQ,UInt8.reduceToNat,x0,bJ,ai (hr _),aW,Nat.reduceAdd,t3]
theorem ic {v:AV} {t r:Tm} {cd:Int} (kv:Sl v [t]) (hr:∀h,WC env 112 [.str [108,105,115,116,95,116,111,95,105,110,116,101,103,101,114],.agg (tc t)] h (fun o=>o=.ret ⟨.aF [.agg (tc r),.int .i64 cd],h,.none⟩)) (h:Heap):WC env 68 [.str [108,105,115,116,95,116,111,95,105,110,116,101,103,101,114],v] h (fun o=>o=.ret ⟨.aF [.agg (tc r),.int .i64 cd],h,.none⟩):=by
 have x0:=bE kv
 refine ad rfl rfl rfl (by simp only[bdk,kv.ae]) ?_
 simp only[xk,yM,ah.bbw,aw,reduceIte,Nat.reduceEqDiff,aD,bQ,UInt8.reduceToNat,x0,bJ,ai (hr _),aW,Nat.reduceAdd,t3]
theorem jx {v:AV} {t r:Tm} {cd:Int} (kv:Sl v [t]) (hr:∀h,WC env 112 [.str [108,105,115,116,95,116,111,95,97,116,111,109],.agg (tc t)] h (fun o=>o=.ret ⟨.aF [.agg (tc r),.int .i64 cd],h,.none⟩)) (h:Heap):WC env 68 [.str [108,105,115,116,95,116,111,95,97,116,111,109],v] h (fun o=>o=.ret ⟨.aF [.agg (tc r),.int .i64 cd],h,.none⟩):=by
 have x0:=bE kv
 refine ad rfl rfl rfl (by simp only[bdk,kv.ae]) ?_
 simp only[xk,yM,ah.bbw,aw,reduceIte,Nat.reduceEqDiff,aD,bQ,UInt8.reduceToNat,x0,bJ,ai (hr _),aW,Nat.reduceAdd,t3]
theorem yN {v:AV} {t:Tm} (kv:Sl v [t]) (k5:t.kind=5) (h:Heap):WC env 68 [.str [116,117,112,108,101,95,115,105,122,101],v] h (fun o=>o=.ret ⟨.aF [.agg (tc (fD t.args.length)),.int .i64 0],h,.none⟩):=by
 have x0:=bE kv
 have z5:(t.kind==5)=true:=by simpa using k5
 have nu:=(cW t).len
 refine ad rfl rfl rfl (by simp only[bdk,kv.ae]) ?_
 simp only[xk,yM,ah.bbw,aw,reduceIte,Nat.reduceEqDiff,aD,bQ,UInt8.reduceToNat,x0,bJ,z5,nu,ai (fX _ _),aW,Nat.reduceAdd,t3]
theorem tL {v:AV} {t:Tm} (kv:Sl v [t]) (k5:t.kind≠5) (h:Heap):WC env 68 [.str [116,117,112,108,101,95,115,105,122,101],v] h (fun o=>o=.ret ⟨.aF [.agg (tc bZ),.int .i64 261],h,.none⟩):=by
 have x0:=bE kv
 have z5:(t.kind==5)=false:=by simpa using k5
 refine ad rfl rfl rfl (by simp only[bdk,kv.ae]) ?_
 simp only[xk,yM,ah.bbw,aw,reduceIte,Nat.reduceEqDiff,aD,bQ,UInt8.reduceToNat,x0,bJ,z5,bc,aW,Nat.reduceAdd,t3]
theorem L2 {v:AV} {t:Tm} (kv:Sl v [t]) (k:t.kind=4) (h:Heap):WC env 68 [.str [110,111,100,101],v] h (fun o=>o=.ret ⟨.aF [.agg (tc (gZ t.text)),.int .i64 0],h,.none⟩):=by
 have x0:=bE kv
 have z4:(t.kind==4)=true:=by rw[k];decide
 have z3:(t.kind==3)=false:=by rw[k];decide
 refine ad rfl rfl rfl (by simp only[bdk,kv.ae]) ?_
 simp only[xk,yM,ah.bbw,aw,reduceIte,Nat.reduceEqDiff,aD,bQ,UInt8.reduceToNat,x0,bJ,z4,ai (im _ _),aW,Nat.reduceAdd,t3]
theorem L3 {v:AV} {t:Tm} (kv:Sl v [t]) (k:t.kind=3) (h:Heap):WC env 68 [.str [110,111,100,101],v] h (fun o=>o=.ret ⟨.aF [.agg (tc (gZ t.text)),.int .i64 0],h,.none⟩):=by
 have x0:=bE kv
 have z4:(t.kind==4)=false:=by rw[k];decide
 have z3:(t.kind==3)=true:=by rw[k];decide
 refine ad rfl rfl rfl (by simp only[bdk,kv.ae]) ?_
 simp only[xk,yM,ah.bbw,aw,reduceIte,Nat.reduceEqDiff,aD,bQ,UInt8.reduceToNat,x0,bJ,z4,z3,ai (im _ _),aW,Nat.reduceAdd,t3]
theorem FG {v:AV} {t:Tm} (kv:Sl v [t]) (k4:t.kind≠4) (k3' :t.kind≠3) (h:Heap):WC env 68 [.str [110,111,100,101],v] h (fun o=>o=.ret ⟨.aF [.agg (tc bZ),.int .i64 261],h,.none⟩):=by
 have x0:=bE kv
 have z4:(t.kind==4)=false:=by simpa using k4
 have z3:(t.kind==3)=false:=by simpa using k3'
 refine ad rfl rfl rfl (by simp only[bdk,kv.ae]) ?_
 simp only[xk,yM,ah.bbw,aw,reduceIte,Nat.reduceEqDiff,aD,bQ,UInt8.reduceToNat,x0,bJ,z4,z3,bc,aW,Nat.reduceAdd,t3]
theorem Tg {v:AV} {t:Tm} (kv:Sl v [t]) (k:t.kind=4) (h:Heap):WC env 78 [.str [110,111,100,101],v] h (fun o=>o=.ret ⟨.aF [.agg (tc (gZ t.text)),.int .i64 0],h,.none⟩):=by
 have x0:=bE kv
 have z4:(t.kind !=4)=false:=by rw[k];decide
 have z3:(t.kind !=3)=true:=by rw[k];decide
 refine ad rfl rfl rfl (by simp only[bdk,kv.ae]) ?_
 simp only[wS,yi,ah.bbw,aw,reduceIte,Nat.reduceEqDiff,aD,bQ,UInt8.reduceToNat,x0,bJ,z4,ai (iX _ _),aW,Nat.reduceAdd,t3]
theorem Th {v:AV} {t:Tm} (kv:Sl v [t]) (k:t.kind=3) (h:Heap):WC env 78 [.str [110,111,100,101],v] h (fun o=>o=.ret ⟨.aF [.agg (tc (gZ t.text)),.int .i64 0],h,.none⟩):=by
 have x0:=bE kv
 have z4:(t.kind !=4)=true:=by rw[k];decide
 have z3:(t.kind !=3)=false:=by rw[k];decide
 refine ad rfl rfl rfl (by simp only[bdk,kv.ae]) ?_
 simp only[wS,yi,ah.bbw,aw,reduceIte,Nat.reduceEqDiff,aD,bQ,UInt8.reduceToNat,x0,bJ,z4,z3,ai (iX _ _),aW,Nat.reduceAdd,t3]
theorem JJ {v:AV} {t:Tm} (kv:Sl v [t]) (k4:t.kind≠4) (k3' :t.kind≠3) (h:Heap):WC env 78 [.str [110,111,100,101],v] h (fun o=>o=.ret ⟨.aF [.agg (tc bZ),.int .i64 261],h,.none⟩):=by
 have x0:=bE kv
 have z4:(t.kind !=4)=true:=by simpa using k4
 have z3:(t.kind !=3)=true:=by simpa using k3'
 refine ad rfl rfl rfl (by simp only[bdk,kv.ae]) ?_
 simp only[wS,yi,ah.bbw,aw,reduceIte,Nat.reduceEqDiff,aD,bQ,UInt8.reduceToNat,x0,bJ,z4,z3,bc,aW,Nat.reduceAdd,t3]
def Ti (x:Int):Int:=if-x>x then-x else x
theorem JK {v:AV} {t:Tm} (kv:Sl v [t]) (k1:t.kind=1) (hs:Small t.int) (h:Heap):WC env 68 [.str [97,98,115],v] h (fun o=>o=.ret ⟨.aF [.agg (tc (fD (Ti t.int))),.int .i64 0],h,.none⟩):=by
 have x0:=bE kv
 have z1:(t.kind==1)=true:=by simpa using k1
 have un:dm .neg (.int .i64 t.int)=some (.int .i64 (-t.int)):=by
  show some (AV.int .i64 (IntKind.wrap .i64 (0-t.int)))=_
  rw[Int.zero_sub,cV ⟨by have:=hs.2;omega,by have:=hs.1;omega⟩]
 have mm:gu true (.int .i64 t.int) (.int .i64 (-t.int))=some (.int .i64 (Ti t.int)):=rfl
 refine ad rfl rfl rfl (by simp only[bdk,kv.ae]) ?_
 have wm:∀{d:Option Nat} {s:St} {K:St→dB→Prop} {Q:aU→St→Prop} {x y:eN},x.ok=true→y.ok=true→(fS env (.iF true x y) d s K Q↔∃w,gu true (env.rd s.σ x) (env.rd s.σ y)=some w∧K (s.put d w s.h) .none):=by
  intro d s K Q x y hx hy;have e:fS env (.iF true x y) d s K Q=∃r,env.op s.σ s.h (.iF true x y)=some r∧K (s.put d r.v r.h) r.c:=rfl
  rw[e];simp only[Env.op,dE hx,dE hy,bag,bai]
  constructor
  ·rintro⟨r,⟨a,h1,rfl⟩,h2⟩;exact⟨a,h1,h2⟩
  ·rintro⟨a,h1,h2⟩;exact⟨_,⟨a,h1,rfl⟩,h2⟩
 simp only[xk,yM,ah.bbw,aw,reduceIte,Nat.reduceEqDiff,aD,bQ,UInt8.reduceToNat,x0,bJ,z1,un,wm,mm,ai (fX _ _),aW,Nat.reduceAdd,t3]
theorem JL {v:AV} {t:Tm} (kv:Sl v [t]) (k1:t.kind≠1) (h:Heap):WC env 68 [.str [97,98,115],v] h (fun o=>o=.ret ⟨.aF [.agg (tc bZ),.int .i64 261],h,.none⟩):=by
 have x0:=bE kv
 have z1:(t.kind==1)=false:=by simpa using k1
 refine ad rfl rfl rfl (by simp only[bdk,kv.ae]) ?_
 simp only[xk,yM,ah.bbw,aw,reduceIte,Nat.reduceEqDiff,aD,bQ,UInt8.reduceToNat,x0,bJ,z1,bc,aW,Nat.reduceAdd,t3]
theorem JM {v:AV} {t:Tm} (kv:Sl v [t]) (k1:t.kind=1) (hs:Small t.int) (hn:t.int<0) (h:Heap):WC env 78 [.str [97,98,115],v] h (fun o=>o=.ret ⟨.aF [.agg (tc (fD (-t.int))),.int .i64 0],h,.none⟩):=by
 have x0:=bE kv
 have z1:(t.kind !=1)=false:=by simpa using k1
 have zn:(t.int<0)=True:=eq_true hn
 have un:dm .neg (.int .i64 t.int)=some (.int .i64 (-t.int)):=by
  show some (AV.int .i64 (IntKind.wrap .i64 (0-t.int)))=_
  rw[Int.zero_sub,cV ⟨by have:=hs.2;omega,by have:=hs.1;omega⟩]
 refine ad rfl rfl rfl (by simp only[bdk,kv.ae]) ?_
 simp only[wS,yi,ah.bbw,aw,reduceIte,Nat.reduceEqDiff,aD,bQ,UInt8.reduceToNat,x0,bJ,z1,zn,un,ai (dK _ _),aW,Nat.reduceAdd,t3]
theorem JN {v:AV} {t:Tm} (kv:Sl v [t]) (k1:t.kind=1) (hn:¬t.int<0) (h:Heap):WC env 78 [.str [97,98,115],v] h (fun o=>o=.ret ⟨.aF [.agg (tc t),.int .i64 0],h,.none⟩):=by
 have x0:=bE kv
 have z1:(t.kind !=1)=false:=by simpa using k1
 have zn:(t.int<0)=False:=eq_false hn
 refine ad rfl rfl rfl (by simp only[bdk,kv.ae]) ?_
 simp only[wS,yi,ah.bbw,aw,reduceIte,Nat.reduceEqDiff,aD,bQ,UInt8.reduceToNat,x0,bJ,z1,zn,aW,Nat.reduceAdd,t3]
theorem L4 {v:AV} {t:Tm} (kv:Sl v [t]) (k1:t.kind≠1) (h:Heap):WC env 78 [.str [97,98,115],v] h (fun o=>o=.ret ⟨.aF [.agg (tc bZ),.int .i64 261],h,.none⟩):=by
 have x0:=bE kv
 have z1:(t.kind !=1)=true:=by simpa using k1
 refine ad rfl rfl rfl (by simp only[bdk,kv.ae]) ?_
 simp only[wS,yi,ah.bbw,aw,reduceIte,Nat.reduceEqDiff,aD,bQ,UInt8.reduceToNat,x0,bJ,z1,bc,aW,Nat.reduceAdd,t3]
end Go.Bf
namespace Go.Bf
open Go.AM
theorem jZ (N:List UInt8) {a b:Tm} (hk:a.kind≠1∨b.kind≠1) (h:Heap):WC env 60 [.str N,.agg (tc a),.agg (tc b)] h (fun o=>o=.ret ⟨.aF [.agg (tc bZ),.int .i64 260],h,.none⟩):=by
 refine ad rfl rfl rfl (by simp only[bdk,az]) ?_
 by_cases ka:a.kind=1
 ·have za:(a.kind !=1)=false:=by simpa using ka
  have zb:(b.kind !=1)=true:=by simpa using hk.resolve_left (fun e=>e ka)
  simp only[sq,fc,fe,fg,fh,fj,fk,fm,fq,ft,dn,dq,dr,dt,du,dv,dw,dx,dy,ah.bbw,aw,reduceIte,Nat.reduceEqDiff,aW,Nat.reduceAdd,t3,za,zb,bc]
 ·have za:(a.kind !=1)=true:=by simpa using ka
  simp only[sq,fc,fe,fg,fh,fj,fk,fm,fq,ft,dn,dq,dr,dt,du,dv,dw,dx,dy,ah.bbw,aw,reduceIte,Nat.reduceEqDiff,aW,Nat.reduceAdd,t3,za,bc]
theorem JO {a b:Tm} (ka:a.kind=1) (kb:b.kind=1) (hx:Small a.int) (hy:Small b.int) (hv:Small (a.int+b.int)) (h:Heap):WC env 60 [.str [43],.agg (tc a),.agg (tc b)] h (fun o=>o=.ret ⟨.aF [.agg (tc (fD (a.int+b.int))),.int .i64 0],h,.none⟩):=by
 have za:(a.kind !=1)=false:=by simpa using ka
 have zb:(b.kind !=1)=false:=by simpa using kb
 have w:IntKind.wrap .i64 (a.int+b.int)=a.int+b.int:=cV (by obtain⟨p,q⟩:=hx;obtain⟨r,s⟩:=hy;omega)
 refine ad rfl rfl rfl (by simp only[bdk,az]) ?_
 simp only[sq,fc,fe,fg,fh,fj,fk,fm,fq,ft,dn,dq,dr,dt,du,dv,dw,dx,dy,ah.bbw,aw,reduceIte,Nat.reduceEqDiff,aW,Nat.reduceAdd,t3,za,zb]
 refine aB ?_
 have z1:(a.int+b.int< -576460752303423488)=False:=eq_false (by have:=hv.1;omega)
 have z2:(a.int+b.int>576460752303423487)=False:=eq_false (by have:=hv.2;omega)
 simp only[jy,aw,reduceIte,Nat.reduceEqDiff,k3,aW,Nat.reduceAdd,t3,aD,bQ,UInt8.reduceToNat,w,z1,z2,dm,baj,ai (fX _ _)]
 rfl
theorem FH {a b:Tm} (ka:a.kind=1) (kb:b.kind=1) (hx:Small a.int) (hy:Small b.int) (hv:¬Small (a.int+b.int)) (h:Heap):WC env 60 [.str [43],.agg (tc a),.agg (tc b)] h (fun o=>o=.ret ⟨.aF [.agg (tc bZ),.int .i64 262],h,.none⟩):=by
 have za:(a.kind !=1)=false:=by simpa using ka
 have zb:(b.kind !=1)=false:=by simpa using kb
 have w:IntKind.wrap .i64 (a.int+b.int)=a.int+b.int:=cV (by obtain⟨p,q⟩:=hx;obtain⟨r,s⟩:=hy;omega)
 refine ad rfl rfl rfl (by simp only[bdk,az]) ?_
 simp only[sq,fc,fe,fg,fh,fj,fk,fm,fq,ft,dn,dq,dr,dt,du,dv,dw,dx,dy,ah.bbw,aw,reduceIte,Nat.reduceEqDiff,aW,Nat.reduceAdd,t3,za,zb]
 refine aB ?_
 by_cases c1:a.int+b.int< -576460752303423488
 ·have z1:(a.int+b.int< -576460752303423488)=True:=eq_true c1
  simp only[jy,aw,reduceIte,Nat.reduceEqDiff,k3,aW,Nat.reduceAdd,t3,aD,bQ,UInt8.reduceToNat,w,z1,dm,baj,bc]
  rfl
 ·have z1:(a.int+b.int< -576460752303423488)=False:=eq_false c1
  have z2:(a.int+b.int>576460752303423487)=True:=eq_true (by
   by_cases c2:a.int+b.int>576460752303423487
   ·exact c2
   ·exact absurd ⟨by omega,by omega⟩ hv)
  simp only[jy,aw,reduceIte,Nat.reduceEqDiff,k3,aW,Nat.reduceAdd,t3,aD,bQ,UInt8.reduceToNat,w,z1,z2,dm,baj,bc]
  rfl
theorem JP {a b:Tm} (ka:a.kind=1) (kb:b.kind=1) (hx:Small a.int) (hy:Small b.int) (hv:Small (a.int-b.int)) (h:Heap):WC env 60 [.str [45],.agg (tc a),.agg (tc b)] h (fun o=>o=.ret ⟨.aF [.agg (tc (fD (a.int-b.int))),.int .i64 0],h,.none⟩):=by
 have za:(a.kind !=1)=false:=by simpa using ka
 have zb:(b.kind !=1)=false:=by simpa using kb
 have w:IntKind.wrap .i64 (a.int-b.int)=a.int-b.int:=cV (by obtain⟨p,q⟩:=hx;obtain⟨r,s⟩:=hy;omega)
 refine ad rfl rfl rfl (by simp only[bdk,az]) ?_
 simp only[sq,fc,fe,fg,fh,fj,fk,fm,fq,ft,dn,dq,dr,dt,du,dv,dw,dx,dy,ah.bbw,aw,reduceIte,Nat.reduceEqDiff,aW,Nat.reduceAdd,t3,za,zb]
 refine aB ?_
 have z1:(a.int-b.int< -576460752303423488)=False:=eq_false (by have:=hv.1;omega)
 have z2:(a.int-b.int>576460752303423487)=False:=eq_false (by have:=hv.2;omega)
 simp only[jy,aw,reduceIte,Nat.reduceEqDiff,k3,aW,Nat.reduceAdd,t3,aD,bQ,UInt8.reduceToNat,w,z1,z2,dm,baj,ai (fX _ _)]
 rfl
theorem vN {a b:Tm} (ka:a.kind=1) (kb:b.kind=1) (hx:Small a.int) (hy:Small b.int) (hv:¬Small (a.int-b.int)) (h:Heap):WC env 60 [.str [45],.agg (tc a),.agg (tc b)] h (fun o=>o=.ret ⟨.aF [.agg (tc bZ),.int .i64 262],h,.none⟩):=by
 have za:(a.kind !=1)=false:=by simpa using ka
 have zb:(b.kind !=1)=false:=by simpa using kb
 have w:IntKind.wrap .i64 (a.int-b.int)=a.int-b.int:=cV (by obtain⟨p,q⟩:=hx;obtain⟨r,s⟩:=hy;omega)
 refine ad rfl rfl rfl (by simp only[bdk,az]) ?_
 simp only[sq,fc,fe,fg,fh,fj,fk,fm,fq,ft,dn,dq,dr,dt,du,dv,dw,dx,dy,ah.bbw,aw,reduceIte,Nat.reduceEqDiff,aW,Nat.reduceAdd,t3,za,zb]
 refine aB ?_
 by_cases c1:a.int-b.int< -576460752303423488
 ·have z1:(a.int-b.int< -576460752303423488)=True:=eq_true c1
  simp only[jy,aw,reduceIte,Nat.reduceEqDiff,k3,aW,Nat.reduceAdd,t3,aD,bQ,UInt8.reduceToNat,w,z1,dm,baj,bc]
  rfl
 ·have z1:(a.int-b.int< -576460752303423488)=False:=eq_false c1
  have z2:(a.int-b.int>576460752303423487)=True:=eq_true (by
   by_cases c2:a.int-b.int>576460752303423487
   ·exact c2
   ·exact absurd ⟨by omega,by omega⟩ hv)
  simp only[jy,aw,reduceIte,Nat.reduceEqDiff,k3,aW,Nat.reduceAdd,t3,aD,bQ,UInt8.reduceToNat,w,z1,z2,dm,baj,bc]
  rfl
theorem Vs {a b:Tm} (ka:a.kind=1) (kb:b.kind=1) (hx:Small a.int) (hy:Small b.int) (hy0:b.int≠0) (hv:Small (a.int.tdiv b.int)) (h:Heap):WC env 60 [.str [100,105,118],.agg (tc a),.agg (tc b)] h (fun o=>o=.ret ⟨.aF [.agg (tc (fD (a.int.tdiv b.int))),.int .i64 0],h,.none⟩):=by
 have za:(a.kind !=1)=false:=by simpa using ka
 have zb:(b.kind !=1)=false:=by simpa using kb
 have z0:(b.int==0)=false:=by simpa using hy0
 have z00:(b.int=0)=False:=eq_false hy0
 have w:IntKind.wrap .i64 (a.int.tdiv b.int)=a.int.tdiv b.int:=cV (j0 hx)
 refine ad rfl rfl rfl (by simp only[bdk,az]) ?_
 simp only[sq,fc,fe,fg,fh,fj,fk,fm,fq,ft,dn,dq,dr,dt,du,dv,dw,dx,dy,ah.bbw,aw,reduceIte,Nat.reduceEqDiff,aW,Nat.reduceAdd,t3,za,zb]
 refine aB ?_
 have z1:(a.int.tdiv b.int< -576460752303423488)=False:=eq_false (by have:=hv.1;omega)
 have z2:(a.int.tdiv b.int>576460752303423487)=False:=eq_false (by have:=hv.2;omega)
 simp only[jy,aw,Nat.reduceEqDiff,k3,aW,Nat.reduceAdd,t3,aD,bQ,UInt8.reduceToNat,z0,z00,if_false,w,z1,z2,dm,baj,ai (fX _ _)]
 rfl
theorem FI {a b:Tm} (ka:a.kind=1) (kb:b.kind=1) (hx:Small a.int) (hy:Small b.int) (hy0:b.int≠0) (hv:¬Small (a.int.tdiv b.int)) (h:Heap):WC env 60 [.str [100,105,118],.agg (tc a),.agg (tc b)] h (fun o=>o=.ret ⟨.aF [.agg (tc bZ),.int .i64 262],h,.none⟩):=by
 have za:(a.kind !=1)=false:=by simpa using ka
 have zb:(b.kind !=1)=false:=by simpa using kb
 have z0:(b.int==0)=false:=by simpa using hy0
 have z00:(b.int=0)=False:=eq_false hy0
 have w:IntKind.wrap .i64 (a.int.tdiv b.int)=a.int.tdiv b.int:=cV (j0 hx)
 refine ad rfl rfl rfl (by simp only[bdk,az]) ?_
 simp only[sq,fc,fe,fg,fh,fj,fk,fm,fq,ft,dn,dq,dr,dt,du,dv,dw,dx,dy,ah.bbw,aw,reduceIte,Nat.reduceEqDiff,aW,Nat.reduceAdd,t3,za,zb]
 refine aB ?_
 by_cases c1:a.int.tdiv b.int< -576460752303423488
 ·have z1:(a.int.tdiv b.int< -576460752303423488)=True:=eq_true c1
  simp only[jy,aw,Nat.reduceEqDiff,k3,aW,Nat.reduceAdd,t3,aD,bQ,UInt8.reduceToNat,z0,z00,if_false,w,z1,dm,baj,bc]
  rfl
 ·have z1:(a.int.tdiv b.int< -576460752303423488)=False:=eq_false c1
  have z2:(a.int.tdiv b.int>576460752303423487)=True:=eq_true (by
   by_cases c2:a.int.tdiv b.int>576460752303423487
   ·exact c2
   ·exact absurd ⟨by omega,by omega⟩ hv)
  simp only[jy,aw,Nat.reduceEqDiff,k3,aW,Nat.reduceAdd,t3,aD,bQ,UInt8.reduceToNat,z0,z00,if_false,w,z1,z2,dm,baj,bc]
  rfl
theorem C1 {a b:Tm} (ka:a.kind=1) (kb:b.kind=1) (hy0:b.int=0) (h:Heap):WC env 60 [.str [100,105,118],.agg (tc a),.agg (tc b)] h (fun o=>o=.ret ⟨.aF [.agg (tc bZ),.int .i64 260],h,.none⟩):=by
 have za:(a.kind !=1)=false:=by simpa using ka
 have zb:(b.kind !=1)=false:=by simpa using kb
 have z0:(b.int==0)=true:=by simpa using hy0
 refine ad rfl rfl rfl (by simp only[bdk,az]) ?_
 simp only[sq,fc,fe,fg,fh,fj,fk,fm,fq,ft,dn,dq,dr,dt,du,dv,dw,dx,dy,ah.bbw,aw,reduceIte,Nat.reduceEqDiff,aW,Nat.reduceAdd,t3,za,zb]
 refine aB ?_
 simp only[jy,aw,reduceIte,Nat.reduceEqDiff,k3,aW,Nat.reduceAdd,t3,aD,bQ,UInt8.reduceToNat,z0,bc]
 rfl
theorem Vt {a b:Tm} (ka:a.kind=1) (kb:b.kind=1) (hx:Small a.int) (hy:Small b.int) (hy0:b.int≠0) (hv:Small (a.int.tmod b.int)) (h:Heap):WC env 60 [.str [114,101,109],.agg (tc a),.agg (tc b)] h (fun o=>o=.ret ⟨.aF [.agg (tc (fD (a.int.tmod b.int))),.int .i64 0],h,.none⟩):=by
 have za:(a.kind !=1)=false:=by simpa using ka
 have zb:(b.kind !=1)=false:=by simpa using kb
 have z0:(b.int==0)=false:=by simpa using hy0
 have z00:(b.int=0)=False:=eq_false hy0
 have w:IntKind.wrap .i64 (a.int.tmod b.int)=a.int.tmod b.int:=cV (by have:=oC (y:=b.int) hx;obtain⟨p,q⟩:=this;omega)
 refine ad rfl rfl rfl (by simp only[bdk,az]) ?_
 simp only[sq,fc,fe,fg,fh,fj,fk,fm,fq,ft,dn,dq,dr,dt,du,dv,dw,dx,dy,ah.bbw,aw,reduceIte,Nat.reduceEqDiff,aW,Nat.reduceAdd,t3,za,zb]
 refine aB ?_
 have z1:(a.int.tmod b.int< -576460752303423488)=False:=eq_false (by have:=hv.1;omega)
 have z2:(a.int.tmod b.int>576460752303423487)=False:=eq_false (by have:=hv.2;omega)
 simp only[jy,aw,Nat.reduceEqDiff,k3,aW,Nat.reduceAdd,t3,aD,bQ,UInt8.reduceToNat,z0,z00,if_false,z1,z2,dm,baj,ai (fX _ _)]
 rfl
theorem FJ {a b:Tm} (ka:a.kind=1) (kb:b.kind=1) (hx:Small a.int) (hy:Small b.int) (hy0:b.int≠0) (hv:¬Small (a.int.tmod b.int)) (h:Heap):WC env 60 [.str [114,101,109],.agg (tc a),.agg (tc b)] h (fun o=>o=.ret ⟨.aF [.agg (tc bZ),.int .i64 262],h,.none⟩):=by
 have za:(a.kind !=1)=false:=by simpa using ka
 have zb:(b.kind !=1)=false:=by simpa using kb
 have z0:(b.int==0)=false:=by simpa using hy0
 have z00:(b.int=0)=False:=eq_false hy0
 have w:IntKind.wrap .i64 (a.int.tmod b.int)=a.int.tmod b.int:=cV (by have:=oC (y:=b.int) hx;obtain⟨p,q⟩:=this;omega)
 refine ad rfl rfl rfl (by simp only[bdk,az]) ?_
 simp only[sq,fc,fe,fg,fh,fj,fk,fm,fq,ft,dn,dq,dr,dt,du,dv,dw,dx,dy,ah.bbw,aw,reduceIte,Nat.reduceEqDiff,aW,Nat.reduceAdd,t3,za,zb]
 refine aB ?_
 by_cases c1:a.int.tmod b.int< -576460752303423488
 ·have z1:(a.int.tmod b.int< -576460752303423488)=True:=eq_true c1
  simp only[jy,aw,Nat.reduceEqDiff,k3,aW,Nat.reduceAdd,t3,aD,bQ,UInt8.reduceToNat,z0,z00,if_false,z1,dm,baj,bc]
  rfl
 ·have z1:(a.int.tmod b.int< -576460752303423488)=False:=eq_false c1
  have z2:(a.int.tmod b.int>576460752303423487)=True:=eq_true (by
   by_cases c2:a.int.tmod b.int>576460752303423487
   ·exact c2
   ·exact absurd ⟨by omega,by omega⟩ hv)
  simp only[jy,aw,Nat.reduceEqDiff,k3,aW,Nat.reduceAdd,t3,aD,bQ,UInt8.reduceToNat,z0,z00,if_false,z1,z2,dm,baj,bc]
  rfl
theorem C2 {a b:Tm} (ka:a.kind=1) (kb:b.kind=1) (hy0:b.int=0) (h:Heap):WC env 60 [.str [114,101,109],.agg (tc a),.agg (tc b)] h (fun o=>o=.ret ⟨.aF [.agg (tc bZ),.int .i64 260],h,.none⟩):=by
 have za:(a.kind !=1)=false:=by simpa using ka
 have zb:(b.kind !=1)=false:=by simpa using kb
 have z0:(b.int==0)=true:=by simpa using hy0
 refine ad rfl rfl rfl (by simp only[bdk,az]) ?_
 simp only[sq,fc,fe,fg,fh,fj,fk,fm,fq,ft,dn,dq,dr,dt,du,dv,dw,dx,dy,ah.bbw,aw,reduceIte,Nat.reduceEqDiff,aW,Nat.reduceAdd,t3,za,zb]
 refine aB ?_
 simp only[jy,aw,reduceIte,Nat.reduceEqDiff,k3,aW,Nat.reduceAdd,t3,aD,bQ,UInt8.reduceToNat,z0,bc]
 rfl
end Go.Bf
namespace Go.Bf
open Go.AM
theorem gD {t:Tm} {R:List AV}:bp false 1 (tc t++R)=some (.int .i64 t.kind):=by cases t;rfl
theorem gE {t:Tm} {R:List AV}:bp false 1 ((tc t++R).drop 1)=some (.int .i64 t.int):=by cases t;rfl
theorem w01:IntKind.wrap .i64 ((0:Int)+1)=1:=by decide
theorem w12:IntKind.wrap .i64 ((1:Int)+1)=2:=by decide
theorem l02:((0:Int)<2)=True:=eq_true (by decide)
theorem l12:((1:Int)<2)=True:=eq_true (by decide)
theorem l22:((2:Int)<2)=False:=eq_false (by decide)
theorem l01:((0:Int)<1)=True:=eq_true (by decide)
theorem l11:((1:Int)<1)=False:=eq_false (by decide)
theorem lX {N:List UInt8} {v:AV} {a b:Tm} (kv:Sl v [a,b]) (hk:a.kind≠1∨b.kind≠1) (h:Heap):WC env 74 [.str N,v] h (fun o=>o=.ret ⟨.aF [.agg (tc bZ),.int .i64 260],h,.none⟩):=by
 obtain⟨A,B,x0,x1⟩:=yO kv
 have nl:∀h,aN false h v=some ⟨.int .i64 2,h,.none⟩:=kv.len
 refine ad rfl rfl rfl (by simp only[bdk,kv.ae]) ?_
 simp only[Tj,qd,qe,ah.bbw,aw,aW]
 refine aC fun q hq=> ?_
 by_cases ka:a.kind=1
 ·have za:(a.kind !=1)=false:=by simpa using ka
  have zb:(b.kind !=1)=true:=by simpa using hk.resolve_left (fun e=>e ka)
  simp only[dR,fO,fP,fQ,fR,aw,reduceIte,Nat.reduceEqDiff,aW,nl,x0,gD,l02,za,w01]
  subst hq;refine aC fun q hq=> ?_
  simp only[dR,fO,fP,fQ,fR,aw,reduceIte,Nat.reduceEqDiff,aW,Nat.reduceAdd,t3,nl,x1,gD,l12,zb,bc]
 ·have za:(a.kind !=1)=true:=by simpa using ka
  simp only[dR,fO,fP,fQ,fR,aw,reduceIte,Nat.reduceEqDiff,aW,Nat.reduceAdd,t3,nl,x0,gD,l02,za,bc]
theorem yj {N:List UInt8} {v:AV} {a:Tm} (kv:Sl v [a]) (hk:a.kind≠1) (h:Heap):WC env 74 [.str N,v] h (fun o=>o=.ret ⟨.aF [.agg (tc bZ),.int .i64 260],h,.none⟩):=by
 have x0:=bE kv
 have nl:∀h,aN false h v=some ⟨.int .i64 1,h,.none⟩:=kv.len
 refine ad rfl rfl rfl (by simp only[bdk,kv.ae]) ?_
 simp only[Tj,qd,qe,ah.bbw,aw,aW]
 refine aC fun q hq=> ?_
 have za:(a.kind !=1)=true:=by simpa using hk
 simp only[dR,fO,fP,fQ,fR,aw,reduceIte,Nat.reduceEqDiff,aW,Nat.reduceAdd,t3,nl,x0,gD,l01,za,bc]
theorem Ed {v:AV} {a b:Tm} (kv:Sl v [a,b]) (ka:a.kind=1) (kb:b.kind=1) (hx:Small a.int) (hy:Small b.int) (h:Heap):WC env 74 [.str [43],v] h (fun o=>o=.ret ⟨.aF [.agg (tc (fD (a.int+b.int))),.int .i64 0],h,.none⟩):=by
 obtain⟨A,B,x0,x1⟩:=yO kv
 have nl:∀h,aN false h v=some ⟨.int .i64 2,h,.none⟩:=kv.len
 have za:(a.kind !=1)=false:=by simpa using ka
 have zb:(b.kind !=1)=false:=by simpa using kb
 have u1:((2:Int)==1)=false:=rfl
 have w:IntKind.wrap .i64 (a.int+b.int)=a.int+b.int:=cV (by obtain⟨p,q⟩:=hx;obtain⟨r,s⟩:=hy;omega)
 refine ad rfl rfl rfl (by simp only[bdk,kv.ae]) ?_
 simp only[Tj,qd,qe,ah.bbw,aw,aW]
 refine aC fun q hq=> ?_
 simp only[dR,fO,fP,fQ,fR,aw,reduceIte,Nat.reduceEqDiff,aW,nl,x0,gD,l02,za,w01]
 subst hq;refine aC fun q hq=> ?_
 simp only[dR,fO,fP,fQ,fR,aw,reduceIte,Nat.reduceEqDiff,aW,nl,x1,gD,l12,zb,w12]
 subst hq;refine aC fun q hq=> ?_
 simp only[dR,fO,fP,fQ,fR,tf,tg,th,ni,nj,nk,nq,ny,nz,nA,nB,nC,nD,nF,nG,nH,nI,nJ,aw,reduceIte,Nat.reduceEqDiff,aW,Nat.reduceAdd,t3,nl,x0,x1,gE,l22,u1,aD,bQ,UInt8.reduceToNat,w,ai (dK _ _)]
theorem Ee {v:AV} {a b:Tm} (kv:Sl v [a,b]) (ka:a.kind=1) (kb:b.kind=1) (hx:Small a.int) (hy:Small b.int) (h:Heap):WC env 74 [.str [45],v] h (fun o=>o=.ret ⟨.aF [.agg (tc (fD (a.int-b.int))),.int .i64 0],h,.none⟩):=by
 obtain⟨A,B,x0,x1⟩:=yO kv
 have nl:∀h,aN false h v=some ⟨.int .i64 2,h,.none⟩:=kv.len
 have za:(a.kind !=1)=false:=by simpa using ka
 have zb:(b.kind !=1)=false:=by simpa using kb
 have u1:((2:Int)==1)=false:=rfl
 have w:IntKind.wrap .i64 (a.int-b.int)=a.int-b.int:=cV (by obtain⟨p,q⟩:=hx;obtain⟨r,s⟩:=hy;omega)
 refine ad rfl rfl rfl (by simp only[bdk,kv.ae]) ?_
 simp only[Tj,qd,qe,ah.bbw,aw,aW]
 refine aC fun q hq=> ?_
 simp only[dR,fO,fP,fQ,fR,aw,reduceIte,Nat.reduceEqDiff,aW,nl,x0,gD,l02,za,w01]
 subst hq;refine aC fun q hq=> ?_
 simp only[dR,fO,fP,fQ,fR,aw,reduceIte,Nat.reduceEqDiff,aW,nl,x1,gD,l12,zb,w12]
 subst hq;refine aC fun q hq=> ?_
 simp only[dR,fO,fP,fQ,fR,tf,tg,th,ni,nj,nk,nq,ny,nz,nA,nB,nC,nD,nF,nG,nH,nI,nJ,aw,reduceIte,Nat.reduceEqDiff,aW,Nat.reduceAdd,t3,nl,x0,x1,gE,l22,u1,aD,bQ,UInt8.reduceToNat,w,ai (dK _ _)]
theorem Ef {v:AV} {a b:Tm} (kv:Sl v [a,b]) (ka:a.kind=1) (kb:b.kind=1) (hx:Small a.int) (hy:Small b.int) (hy0:b.int≠0) (h:Heap):WC env 74 [.str [100,105,118],v] h (fun o=>o=.ret ⟨.aF [.agg (tc (fD (a.int.tdiv b.int))),.int .i64 0],h,.none⟩):=by
 obtain⟨A,B,x0,x1⟩:=yO kv
 have nl:∀h,aN false h v=some ⟨.int .i64 2,h,.none⟩:=kv.len
 have za:(a.kind !=1)=false:=by simpa using ka
 have zb:(b.kind !=1)=false:=by simpa using kb
 have u1:((2:Int)==1)=false:=rfl
 have z0:(b.int==0)=false:=by simpa using hy0
 have z00:(b.int=0)=False:=eq_false hy0
 have w:IntKind.wrap .i64 (a.int.tdiv b.int)=a.int.tdiv b.int:=cV (j0 hx)
 refine ad rfl rfl rfl (by simp only[bdk,kv.ae]) ?_
 simp only[Tj,qd,qe,ah.bbw,aw,aW]
 refine aC fun q hq=> ?_
 simp only[dR,fO,fP,fQ,fR,aw,reduceIte,Nat.reduceEqDiff,aW,nl,x0,gD,l02,za,w01]
 subst hq;refine aC fun q hq=> ?_
 simp only[dR,fO,fP,fQ,fR,aw,reduceIte,Nat.reduceEqDiff,aW,nl,x1,gD,l12,zb,w12]
 subst hq;refine aC fun q hq=> ?_
 simp only[dR,fO,fP,fQ,fR,tf,tg,th,ni,nj,nk,nq,ny,nz,nA,nB,nC,nD,nF,nG,nH,nI,nJ,aw,Nat.reduceEqDiff,aW,Nat.reduceAdd,t3,nl,x0,x1,gE,l22,u1,aD,bQ,UInt8.reduceToNat,z0,z00,if_false,w,ai (dK _ _)]
theorem Bv {v:AV} {a b:Tm} (kv:Sl v [a,b]) (ka:a.kind=1) (kb:b.kind=1) (hy0:b.int=0) (h:Heap):WC env 74 [.str [100,105,118],v] h (fun o=>o=.ret ⟨.aF [.agg (tc bZ),.int .i64 260],h,.none⟩):=by
 obtain⟨A,B,x0,x1⟩:=yO kv
 have nl:∀h,aN false h v=some ⟨.int .i64 2,h,.none⟩:=kv.len
 have za:(a.kind !=1)=false:=by simpa using ka
 have zb:(b.kind !=1)=false:=by simpa using kb
 have u1:((2:Int)==1)=false:=rfl
 have z0:(b.int==0)=true:=by simpa using hy0
 refine ad rfl rfl rfl (by simp only[bdk,kv.ae]) ?_
 simp only[Tj,qd,qe,ah.bbw,aw,aW]
 refine aC fun q hq=> ?_
 simp only[dR,fO,fP,fQ,fR,aw,reduceIte,Nat.reduceEqDiff,aW,nl,x0,gD,l02,za,w01]
 subst hq;refine aC fun q hq=> ?_
 simp only[dR,fO,fP,fQ,fR,aw,reduceIte,Nat.reduceEqDiff,aW,nl,x1,gD,l12,zb,w12]
 subst hq;refine aC fun q hq=> ?_
 simp only[dR,fO,fP,fQ,fR,tf,tg,th,ni,nj,nk,nq,ny,nz,nA,nB,nC,nD,nF,nG,nH,nI,nJ,aw,reduceIte,Nat.reduceEqDiff,aW,Nat.reduceAdd,t3,nl,x0,x1,gE,l22,u1,aD,bQ,UInt8.reduceToNat,z0,bc]
theorem Eg {v:AV} {a b:Tm} (kv:Sl v [a,b]) (ka:a.kind=1) (kb:b.kind=1) (hx:Small a.int) (hy:Small b.int) (hy0:b.int≠0) (h:Heap):WC env 74 [.str [114,101,109],v] h (fun o=>o=.ret ⟨.aF [.agg (tc (fD (a.int.tmod b.int))),.int .i64 0],h,.none⟩):=by
 obtain⟨A,B,x0,x1⟩:=yO kv
 have nl:∀h,aN false h v=some ⟨.int .i64 2,h,.none⟩:=kv.len
 have za:(a.kind !=1)=false:=by simpa using ka
 have zb:(b.kind !=1)=false:=by simpa using kb
 have u1:((2:Int)==1)=false:=rfl
 have z0:(b.int==0)=false:=by simpa using hy0
 have z00:(b.int=0)=False:=eq_false hy0
 have w:IntKind.wrap .i64 (a.int.tmod b.int)=a.int.tmod b.int:=cV (by have:=oC (y:=b.int) hx;obtain⟨p,q⟩:=this;omega)
 refine ad rfl rfl rfl (by simp only[bdk,kv.ae]) ?_
 simp only[Tj,qd,qe,ah.bbw,aw,aW]
 refine aC fun q hq=> ?_
 simp only[dR,fO,fP,fQ,fR,aw,reduceIte,Nat.reduceEqDiff,aW,nl,x0,gD,l02,za,w01]
 subst hq;refine aC fun q hq=> ?_
 simp only[dR,fO,fP,fQ,fR,aw,reduceIte,Nat.reduceEqDiff,aW,nl,x1,gD,l12,zb,w12]
 subst hq;refine aC fun q hq=> ?_
 simp only[dR,fO,fP,fQ,fR,tf,tg,th,ni,nj,nk,nq,ny,nz,nA,nB,nC,nD,nF,nG,nH,nI,nJ,aw,Nat.reduceEqDiff,aW,Nat.reduceAdd,t3,nl,x0,x1,gE,l22,u1,aD,bQ,UInt8.reduceToNat,z0,z00,if_false,ai (dK _ _)]
theorem Bw {v:AV} {a b:Tm} (kv:Sl v [a,b]) (ka:a.kind=1) (kb:b.kind=1) (hy0:b.int=0) (h:Heap):WC env 74 [.str [114,101,109],v] h (fun o=>o=.ret ⟨.aF [.agg (tc bZ),.int .i64 260],h,.none⟩):=by
 obtain⟨A,B,x0,x1⟩:=yO kv
 have nl:∀h,aN false h v=some ⟨.int .i64 2,h,.none⟩:=kv.len
 have za:(a.kind !=1)=false:=by simpa using ka
 have zb:(b.kind !=1)=false:=by simpa using kb
 have u1:((2:Int)==1)=false:=rfl
 have z0:(b.int==0)=true:=by simpa using hy0
 refine ad rfl rfl rfl (by simp only[bdk,kv.ae]) ?_
 simp only[Tj,qd,qe,ah.bbw,aw,aW]
 refine aC fun q hq=> ?_
 simp only[dR,fO,fP,fQ,fR,aw,reduceIte,Nat.reduceEqDiff,aW,nl,x0,gD,l02,za,w01]
 subst hq;refine aC fun q hq=> ?_
 simp only[dR,fO,fP,fQ,fR,aw,reduceIte,Nat.reduceEqDiff,aW,nl,x1,gD,l12,zb,w12]
 subst hq;refine aC fun q hq=> ?_
 simp only[dR,fO,fP,fQ,fR,tf,tg,th,ni,nj,nk,nq,ny,nz,nA,nB,nC,nD,nF,nG,nH,nI,nJ,aw,reduceIte,Nat.reduceEqDiff,aW,Nat.reduceAdd,t3,nl,x0,x1,gE,l22,u1,aD,bQ,UInt8.reduceToNat,z0,bc]
theorem Tk {v:AV} {a:Tm} (kv:Sl v [a]) (ka:a.kind=1) (hx:Small a.int) (h:Heap):WC env 74 [.str [43],v] h (fun o=>o=.ret ⟨.aF [.agg (tc (fD (a.int))),.int .i64 0],h,.none⟩):=by
 have x0:=bE kv
 have nl:∀h,aN false h v=some ⟨.int .i64 1,h,.none⟩:=kv.len
 have za:(a.kind !=1)=false:=by simpa using ka
 have u1:((1:Int)==1)=true:=rfl
 have un:dm .neg (.int .i64 a.int)=some (.int .i64 (-a.int)):=by
  show some (AV.int .i64 (IntKind.wrap .i64 (0-a.int)))=_
  rw[Int.zero_sub,cV ⟨by have:=hx.2;omega,by have:=hx.1;omega⟩]
 refine ad rfl rfl rfl (by simp only[bdk,kv.ae]) ?_
 simp only[Tj,qd,qe,ah.bbw,aw,aW]
 refine aC fun q hq=> ?_
 simp only[dR,fO,fP,fQ,fR,aw,reduceIte,Nat.reduceEqDiff,aW,nl,x0,gD,l01,za,w01]
 subst hq;refine aC fun q hq=> ?_
 simp only[dR,fO,fP,fQ,fR,tf,tg,th,ni,nj,nk,nq,ny,nz,nA,nB,nC,nD,nF,nG,nH,nI,nJ,aw,reduceIte,Nat.reduceEqDiff,aW,Nat.reduceAdd,t3,nl,x0,gE,l11,u1,aD,bQ,UInt8.reduceToNat,ai (dK _ _)]
theorem Eh {v:AV} {a:Tm} (kv:Sl v [a]) (ka:a.kind=1) (hx:Small a.int) (h:Heap):WC env 74 [.str [45],v] h (fun o=>o=.ret ⟨.aF [.agg (tc (fD (-a.int))),.int .i64 0],h,.none⟩):=by
 have x0:=bE kv
 have nl:∀h,aN false h v=some ⟨.int .i64 1,h,.none⟩:=kv.len
 have za:(a.kind !=1)=false:=by simpa using ka
 have u1:((1:Int)==1)=true:=rfl
 have un:dm .neg (.int .i64 a.int)=some (.int .i64 (-a.int)):=by
  show some (AV.int .i64 (IntKind.wrap .i64 (0-a.int)))=_
  rw[Int.zero_sub,cV ⟨by have:=hx.2;omega,by have:=hx.1;omega⟩]
 refine ad rfl rfl rfl (by simp only[bdk,kv.ae]) ?_
 simp only[Tj,qd,qe,ah.bbw,aw,aW]
 refine aC fun q hq=> ?_
 simp only[dR,fO,fP,fQ,fR,aw,reduceIte,Nat.reduceEqDiff,aW,nl,x0,gD,l01,za,w01]
 subst hq;refine aC fun q hq=> ?_
 simp only[dR,fO,fP,fQ,fR,tf,tg,th,ni,nj,nk,nq,ny,nz,nA,nB,nC,nD,nF,nG,nH,nI,nJ,aw,reduceIte,Nat.reduceEqDiff,aW,Nat.reduceAdd,t3,nl,x0,gE,l11,u1,aD,bQ,UInt8.reduceToNat,un,ai (dK _ _)]
end Go.Bf
