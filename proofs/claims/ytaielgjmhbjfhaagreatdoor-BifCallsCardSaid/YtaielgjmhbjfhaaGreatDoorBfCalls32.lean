/- For BifCalls. -/
import Derived.Test.YtaielgjmhbjfhaaGreatDoorBfCalls20
set_option linter.unusedVariables false
set_option maxRecDepth 20000
namespace Go.Bf
open Go.AM
def StB (V:Nat) (n:Int):Prop:=(V≤576460752303423488∧n=V)∨(576460752303423488<V∧n=576460752303423489)
theorem StB.sta {V:Nat} {n:Int} (st:StB V n):StA V n false:=by
 rcases st with⟨p1,p2⟩|⟨p1,p2⟩
 ·exact .inl ⟨p1,rfl,p2⟩
 ·exact .inr ⟨p1,by omega,by omega⟩
theorem Kb {l:List Tm} {v:AV} (kv:Sl v l) (hn:l.length≤100000) {i2:Nat} {mi:AV} {Q:aU→St→Prop}:
  ∀(f i:Nat) (σ:ah) (h:Heap) (V:Nat) (n:Int),l.length-i<f→i≤l.length→h.at_ i2 0=some aK→σ.get 2=.ptr i2 0 0→σ.get 4=mi→σ.get 0=v→σ.get 6=.int .i64 i→σ.get 5=.int .i64 n→StB V n→
  (sU (l.drop i) V=none→∀σ' h',h'.at_ i2 0=some aK→σ'.get 2=.ptr i2 0 0→σ'.get 3=.int .i64 261→Q .ret ⟨σ',h'⟩)→
  (∀σ' V' n',sU (l.drop i) V=some V' →StB V' n' →σ'.get 2=.ptr i2 0 0→σ'.get 4=mi→σ'.get 5=.int .i64 n' →Q (.exit 0) ⟨σ',h⟩)→kz env jA ⟨σ,h⟩ Q:=by
 intro f
 induction f with
 |zero=>intro i σ h V n p1;omega
 |succ f ih=>
  intro i σ h V n hf hi a2 g2 g4 g0 g6 g5 st hR hQ;refine aC fun b hb=> ?_
  have nl:=kv.len
  by_cases c1:i<l.length
  ·have z0:((i:Int)<(l.length:Int))=True:=eq_true (by omega)
   have zi:IntKind.wrap .i64 ((i:Int)+1)=((i+1:Nat):Int):=aX (by omega) (by omega)
   obtain⟨x,ex⟩:∃x,x=l[i]:=⟨_,rfl⟩
   have hd:l.drop i=x::l.drop (i+1):=by rw[ex];exact bat c1
   have lx:=kv.idx c1
   have l0:=ldk c1
   have l1:bp false 1 (((bq l).drop (i*6)).drop 1)=some (.int .i64 x.int):=by
    rw[gQ _ _ c1,←ex];cases x;rfl
   rw[←ex]at l0
   generalize (bq l).drop (i*6)=C at lx l0 l1
   have se:bC h 6 (.ptr i2 0 0) (.agg aK)=some ⟨.undef,h.cD i2 0 aK,.write⟩:=by rw[cF,a2];rfl
   have bad:¬(x.kind=1∧48≤x.int∧x.int≤57)→sU (l.drop i) V=none:=fun hb=>by rw[hd,sU,if_neg hb]
   by_cases k1:x.kind=1
   ·have z1:(x.kind !=1)=false:=by simpa using k1
    by_cases k2:x.int<48
    ·have z2:(x.int<48)=True:=eq_true k2
     simp only[jA,tY,sE,zJ,aw,reduceIte,Nat.reduceEqDiff,g0,g2,g6,nl,z0,lx,bP,fw,l0,l1,bah,t3,z1,z2,df,dj,se]
     refine hR (bad (by omega)) _ _ bD ?_ ?_
     ·simp only[aa,reduceIte,Nat.reduceEqDiff,g2]
     ·simp only[aa,reduceIte,Nat.reduceEqDiff]
    ·have z2:(x.int<48)=False:=eq_false k2
     by_cases k3:x.int>57
     ·have z3:(x.int>57)=True:=eq_true k3
      simp only[jA,tY,sE,zJ,aw,reduceIte,Nat.reduceEqDiff,g0,g2,g6,nl,z0,lx,bP,fw,l0,l1,bah,t3,z1,z2,z3,dj,se]
      refine hR (bad (by omega)) _ _ bD ?_ ?_
      ·simp only[aa,reduceIte,Nat.reduceEqDiff,g2]
      ·simp only[aa,reduceIte,Nat.reduceEqDiff]
     ·have z3:(x.int>57)=False:=eq_false k3
      have ev:sU (l.drop i) V=sU (l.drop (i+1)) (10*V+(x.int-48).toNat):=by rw[hd,sU,if_pos ⟨k1,by omega,by omega⟩]
      rw[ev]at hR hQ
      have w0:IntKind.wrap .i64 (x.int-48)=x.int-48:=cV (by omega)
      have w1:IntKind.wrap .i64 (576460752303423488-(x.int-48))=576460752303423488-(x.int-48):=cV (by omega)
      have w2:IntKind.wrap .i64 ((576460752303423488-(x.int-48)).tdiv 10)=(576460752303423488-(x.int-48))/10:=by
       rw[Int.tdiv_eq_ediv_of_nonneg (by omega)];exact cV (by omega)
      have t10:((10:Int)=0)=False:=eq_false (by decide)
      by_cases k4:n>(576460752303423488-(x.int-48))/10
      ·have z4:(n>(576460752303423488-(x.int-48))/10)=True:=eq_true k4
       have st' :StB (10*V+(x.int-48).toNat) 576460752303423489:=by
        rcases st with⟨p1,p3⟩|⟨p1,p3⟩<;>exact .inr ⟨by omega,rfl⟩
       simp only[jA,tY,sE,Gw,Gx,QW,Gy,aw,reduceIte,Nat.reduceEqDiff,g0,g5,g6,nl,z0,lx,bP,fw,l0,l1,bah,z1,z2,z3,t10,w0,w1,w2,z4,dj,zi]
       subst hb;refine ih (i+1) _ h _ _ (by omega) (by omega) a2 ?_ ?_ ?_ ?_ ?_ st' hR hQ
       all_goals simp only[aa,reduceIte,Nat.reduceEqDiff,g2,g4,g0]
      ·have z4:(n>(576460752303423488-(x.int-48))/10)=False:=eq_false k4
       have hv:V≤576460752303423488∧n=V:=by
        rcases st with s|⟨p1,p3⟩
        ·exact s
        ·omega
       obtain⟨p1,p3⟩:=hv
       have w3:IntKind.wrap .i64 (n*10)=n*10:=cV (by omega)
       have w4:IntKind.wrap .i64 (n*10+(x.int-48))=n*10+(x.int-48):=cV (by omega)
       have st' :StB (10*V+(x.int-48).toNat) (n*10+(x.int-48)):=.inl ⟨by omega,by omega⟩
       simp only[jA,tY,sE,Gw,Gx,QX,Gy,aw,reduceIte,Nat.reduceEqDiff,g0,g5,g6,nl,z0,lx,bP,fw,l0,l1,bah,z1,z2,z3,t10,w0,w1,w2,w3,w4,z4,dj,zi]
       subst hb;refine ih (i+1) _ h _ _ (by omega) (by omega) a2 ?_ ?_ ?_ ?_ ?_ st' hR hQ
       all_goals simp only[aa,reduceIte,Nat.reduceEqDiff,g2,g4,g0]
   ·have z1:(x.kind !=1)=true:=by simpa using k1
    simp only[jA,tY,sE,zJ,aw,reduceIte,Nat.reduceEqDiff,g0,g2,g6,nl,z0,lx,bP,fw,l0,bah,t3,z1,df,se]
    refine hR (bad (fun e=>k1 e.1)) _ _ bD ?_ ?_
    ·simp only[aa,reduceIte,Nat.reduceEqDiff,g2]
    ·simp only[aa,reduceIte,Nat.reduceEqDiff]
  ·have z0:((i:Int)<(l.length:Int))=False:=eq_false (by omega)
   simp only[jA,tY,aw,reduceIte,Nat.reduceEqDiff,g0,g6,nl,z0]
   refine hQ _ V n (by rw[bao (by omega)];rfl) st ?_ ?_ ?_
   ·simp only[aa,reduceIte,Nat.reduceEqDiff,g2]
   ·simp only[aa,reduceIte,Nat.reduceEqDiff,g4]
   ·simp only[aa,reduceIte,Nat.reduceEqDiff,g5]
def Kc:AC:=(.seq (.seq (.ops vY) (.cond (.t 95) (.seq (.ops zK) .ret) .skip)) (.seq (.ops Gz) .ret))
theorem BN {σ:ah} {h:Heap} {n:Int} {i2:Nat} (g2:σ.get 2=.ptr i2 0 0) (g5:σ.get 5=.int .i64 n) (a2:h.at_ i2 0=some aK) {Q:aU→St→Prop} {r:Tm} {cd:Int}
  (hr:(Small n∧r=fD n∧cd=0)∨(¬Small n∧r=bZ∧cd=262)) (hQ:∀σ' h',h'.at_ i2 0=some (tc r)→σ'.get 2=.ptr i2 0 0→σ'.get 3=.int .i64 cd→Q .ret ⟨σ',h'⟩):jK env Kc ⟨σ,h⟩ Q:=by
 have se:bC h 6 (.ptr i2 0 0) (.agg aK)=some ⟨.undef,h.cD i2 0 aK,.write⟩:=by rw[cF,a2];rfl
 rcases hr with⟨e2,e3,e4⟩|⟨hs,e3,e4⟩
 ·subst e3 e4
  have z1:(n< -576460752303423488)=False:=eq_false (by have:=e2.1;omega)
  have z2:(n>576460752303423487)=False:=eq_false (by have:=e2.2;omega)
  have sf:bC h 6 (.ptr i2 0 0) (.agg (tc (fD n)))=some ⟨.undef,h.cD i2 0 (tc (fD n)),.write⟩:=by rw[cF,a2];rfl
  simp only[Kc,vY,Gz,aw,reduceIte,Nat.reduceEqDiff,g2,g5,z1,z2,dj,ai (dK _ _),sf]
  refine hQ _ _ bD ?_ ?_
  ·simp only[aa,reduceIte,Nat.reduceEqDiff,g2]
  ·simp only[aa,reduceIte,Nat.reduceEqDiff]
 ·subst e3 e4
  by_cases z1:n< -576460752303423488
  ·have z1:(n< -576460752303423488)=True:=eq_true z1
   simp only[Kc,vY,zK,aw,reduceIte,Nat.reduceEqDiff,g2,g5,z1,df,t3,se]
   refine hQ _ _ bD ?_ ?_
   ·simp only[aa,reduceIte,Nat.reduceEqDiff,g2]
   ·simp only[aa,reduceIte,Nat.reduceEqDiff]
  ·have z2:(n>576460752303423487)=True:=eq_true (by
    by_cases z:n≤576460752303423487
    ·exact absurd ⟨by omega,z⟩ hs
    ·omega)
   have z1:(n< -576460752303423488)=False:=eq_false z1
   simp only[Kc,vY,zK,aw,reduceIte,Nat.reduceEqDiff,g2,g5,z1,z2,dj,t3,se]
   refine hQ _ _ bD ?_ ?_
   ·simp only[aa,reduceIte,Nat.reduceEqDiff,g2]
   ·simp only[aa,reduceIte,Nat.reduceEqDiff]
def QY:AC:=(.seq (.seq (.ops GA) (.cond (.t 41) (.seq (.ops MM) .ret) .skip)) (.seq (.ops MN) (.seq (.seq (.ops MO) (.block 0 (.loop jA))) (.seq (.seq (.ops zL) (.cond (.t 87) (.ops GB) .skip)) Kc))))
theorem kJ {σ:ah} {h:Heap} {l:List Tm} {v:AV} {minus:Bool} {i2:Nat} (kv:Sl v l) (hn:l.length≤100000) (g2:σ.get 2=.ptr i2 0 0) (g0:σ.get 0=v) (g4:σ.get 4=.bool minus) (a2:h.at_ i2 0=some aK) {Q:aU→St→Prop}
  (hQ:∀σ' h',h'.at_ i2 0=some (tc (tQ minus l).1)→σ'.get 2=.ptr i2 0 0→σ'.get 3=.int .i64 (tQ minus l).2→Q .ret ⟨σ',h'⟩):jK env QY ⟨σ,h⟩ Q:=by
 have nl:=kv.len;have se:bC h 6 (.ptr i2 0 0) (.agg aK)=some ⟨.undef,h.cD i2 0 aK,.write⟩:=by rw[cF,a2];rfl
 by_cases hl:l=[]
 ·have z0:(((l.length:Nat):Int)==0)=true:=by rw[hl];rfl
  rw[tQ,if_pos hl]at hQ
  simp only[QY,GA,MM,aw,reduceIte,Nat.reduceEqDiff,g2,g0,nl,z0,t3,se]
  refine hQ _ _ bD ?_ ?_
  ·simp only[aa,reduceIte,Nat.reduceEqDiff,g2]
  ·simp only[aa,reduceIte,Nat.reduceEqDiff]
 ·have z0:(((l.length:Nat):Int)==0)=false:=by
   have:l.length≠0:=fun e=>hl (bay.1 e)
   rw[beq_eq_false_iff_ne];omega
  rw[tQ,if_neg hl]at hQ
  simp only[QY,GA,MN,MO,aw,reduceIte,Nat.reduceEqDiff,g0,nl,z0]
  refine Kb kv hn (i2:=i2) (mi:=.bool minus) (l.length+1) 0 _ h 0 0 (by omega) (by omega) a2 ?_ ?_ ?_ ?_ ?_ (.inl ⟨by omega,rfl⟩) (fun hv σ' h' b2 q2 q3=> ?_) (fun σ' V' n' hv st q2 q4 q5=> ?_)
  ·simp only[aa,reduceIte,Nat.reduceEqDiff,g2]
  ·simp only[aa,reduceIte,Nat.reduceEqDiff,g4]
  ·simp only[aa,reduceIte,Nat.reduceEqDiff,g0]
  ·simp only[aa,reduceIte,Nat.reduceEqDiff];rfl
  ·simp only[aa,reduceIte,Nat.reduceEqDiff]
  ·rw[bah]at hv
   rw[hv]at hQ
   exact hQ σ' h' b2 q2 q3
  ·rw[bah]at hv
   rw[hv]at hQ
   have hr:∀m:Int,m=(if minus=true then-n' else n')→(Small m∧(sV minus V').1=fD m∧(sV minus V').2=0)∨(¬Small m∧(sV minus V').1=bZ∧(sV minus V').2=262):=by
    intro m em;subst em
    rcases J4 st.sta minus with⟨_,h2⟩|⟨h1,h2⟩
    ·exact .inl h2
    ·exact .inr ⟨h1.resolve_left (by decide),h2⟩
   cases minus with
   |true=>
    have w0: -9223372036854775808≤0-n' ∧0-n' <9223372036854775808:=by
     rcases st with⟨p1,p3⟩|⟨p1,p3⟩<;>omega
    have zn:IntKind.wrap .i64 (0-n')= -n' :=by rw[cV w0];omega
    simp only[zL,GB,aw,reduceIte,Nat.reduceEqDiff,q4,q5,dm,zn]
    refine BN (n:= -n') ?_ ?_ a2 (hr _ (by simp only[if_true])) fun σ2 h2 c2 p2 p3=>hQ σ2 h2 c2 p2 p3
    ·simp only[aa,reduceIte,Nat.reduceEqDiff,q2]
    ·simp only[aa,reduceIte,Nat.reduceEqDiff]
   |false=>
    simp only[zL,aw,reduceIte,q4]
    refine BN (n:=n') ?_ ?_ a2 (hr _ (by simp only[bbm,if_false])) fun σ2 h2 c2 p2 p3=>hQ σ2 h2 c2 p2 p3
    ·simp only[aa,reduceIte,Nat.reduceEqDiff,q2]
    ·simp only[aa,reduceIte,Nat.reduceEqDiff,q5]
theorem GC {v:AV} {l:List Tm} (kv:Sl v l) (hl:l.length≤100000) (h:Heap):WC env 147 [v] h (fun o=>o=.ret ⟨.aF [.agg (tc (nL l).1),.int .i64 (nL l).2],h,.none⟩):=by
 refine ad rfl rfl rfl (by simp only[AV.aj,kv.ae,baa]) ?_
 have eb:Wi.body=(.seq (.ops tZ) (.seq (.ops t_) (.seq (.seq (.ops ua) (.cond (.t 31) (.seq (.ops GD) (.ops GF)) .skip)) QY))):=rfl
 rw[eb];obtain⟨H,eH⟩:∃H,H=Heap.empty.new [.int .i64 0,.int .i64 0,.str [],.int .u32 0,.ax,.ax]:=⟨_,rfl⟩
 have b1:H.at_ 0 0=some aK:=by rw[eH];simp only[aW];rfl
 have fin:∀{r:Tm} {cd:Int} {σ' :ah} {h' :Heap},h'.at_ 0 0=some (tc r)→σ'.get 2=.ptr 0 0 0→σ'.get 3=.int .i64 cd→iB env Wi.results h (fun o=>o=.ret ⟨.aF [.agg (tc r),.int .i64 cd],h,.none⟩) .ret ⟨σ',h'⟩:=by
  intro r cd σ' h' c1 q2 q3;rw[jR];exact⟨[.agg (tc r),.int .i64 cd],by simp only[Wi,Env.results,q2,q3,aQ,c1,bah,t3,jab],.aF [.agg (tc r),.int .i64 cd],(ay (v:=.aF [.agg (tc r),.int .i64 cd]) (by simp only[bdk,az])).2 rfl,rfl⟩
 have nl:=kv.len;cases l with
 |nil=>
  have z0:((([]:List Tm).length:Int)>0)=False:=eq_false (by decide)
  have e0:nL []=tQ false []:=rfl
  rw[e0];simp only[tZ,t_,ua,ah.bbw,aw,reduceIte,Nat.reduceEqDiff,cG,←eH,nl,z0,aE,dj]
  refine kJ kv (by simp) ?_ ?_ ?_ b1 fun σ' h' c1 q2 q3=>fin c1 q2 q3
  all_goals simp only[aa,reduceIte,Nat.reduceEqDiff]
 |cons x r=>
  have z0:(((x::r:List Tm).length:Int)>0)=True:=eq_true (by rw[bav];omega)
  have x0:=bE kv
  obtain⟨v',sv,kt⟩:=kv.tail
  have hr:r.length≤100000:=by rw[bav]at hl;omega
  have l0:bp false 1 (tc x++bq r)=some (.int .i64 x.kind):=by cases x;rfl
  have l1:bp false 1 ((tc x++bq r).drop 1)=some (.int .i64 x.int):=by cases x;rfl
  by_cases k1:x.kind=1
  ·have z1:(x.kind==1)=true:=by simpa using k1
   by_cases k2:x.int=45
   ·have z2:(x.int==45)=true:=by simpa using k2
    rw[nL,if_pos ⟨k1,k2⟩];simp only[tZ,t_,ua,GD,GF,ah.bbw,aw,reduceIte,Nat.reduceEqDiff,cG,←eH,nl,z0,df,bP,fw,bah,x0,l0,l1,z1,z2,sv]
    refine kJ kt hr ?_ ?_ ?_ b1 fun σ' h' c1 q2 q3=>fin c1 q2 q3
    all_goals simp only[aa,reduceIte,Nat.reduceEqDiff]
   ·have z2:(x.int==45)=false:=by simpa using k2
    by_cases k3:x.int=43
    ·have z3:(x.int==43)=true:=by simpa using k3
     rw[nL,if_neg (fun e=>k2 e.2),if_pos ⟨k1,k3⟩]
     simp only[tZ,t_,ua,GD,GF,ah.bbw,aw,reduceIte,Nat.reduceEqDiff,cG,←eH,nl,z0,df,dj,bP,fw,bah,x0,l0,l1,z1,z2,z3,sv]
     refine kJ kt hr ?_ ?_ ?_ b1 fun σ' h' c1 q2 q3=>fin c1 q2 q3
     all_goals simp only[aa,reduceIte,Nat.reduceEqDiff]
    ·have z3:(x.int==43)=false:=by simpa using k3
     rw[nL,if_neg (fun e=>k2 e.2),if_neg (fun e=>k3 e.2)]
     simp only[tZ,t_,ua,ah.bbw,aw,reduceIte,Nat.reduceEqDiff,cG,←eH,nl,z0,df,dj,bP,fw,bah,x0,l0,l1,z1,z2,z3]
     refine kJ kv hl ?_ ?_ ?_ b1 fun σ' h' c1 q2 q3=>fin c1 q2 q3
     all_goals simp only[aa,reduceIte,Nat.reduceEqDiff]
  ·have z1:(x.kind==1)=false:=by simpa using k1
   rw[nL,if_neg (fun e=>k1 e.1),if_neg (fun e=>k1 e.1)]
   simp only[tZ,t_,ua,ah.bbw,aw,reduceIte,Nat.reduceEqDiff,cG,←eH,nl,z0,aE,df,dj,bP,fw,bah,x0,l0,z1]
   refine kJ kv hl ?_ ?_ ?_ b1 fun σ' h' c1 q2 q3=>fin c1 q2 q3
   all_goals simp only[aa,reduceIte,Nat.reduceEqDiff]
end Go.Bf
namespace Go.Bf
open Go.AM
theorem Kd (t:Tm) (tt:dk t=true) (k1:t.kind=1):∃f,∀h,WC env 112 [.str [105,110,116,101,103,101,114,95,116,111,95,108,105,115,116],.agg (tc t)] h (fun o=>o=.ret ⟨.aF [.agg (tc (b_ ((dT t.int).map cT) cI f)),.int .i64 0],h,.none⟩):=by
 have hs:=eJ tt k1
 have hr:AV.aj [.str [105,110,116,101,103,101,114,95,116,111,95,108,105,115,116],.agg (tc t)]=true:=by simp only[bdk,az]
 have hw:WC env 112 [.str [105,110,116,101,103,101,114,95,116,111,95,108,105,115,116],.agg (tc t)] .empty (fun o=>∃f,o=.ret ⟨.aF [.agg (tc (b_ ((dT t.int).map cT) cI f)),.int .i64 0],.empty,.none⟩):=by
  refine ad rfl rfl rfl hr ?_
  obtain⟨H,eH⟩:∃H,H=(Heap.empty.new (tc t)).new [.int .i64 0,.int .i64 0,.str [],.int .u32 0,.ax,.ax]:=⟨_,rfl⟩
  have ho:an H:=by rw[eH];exact(an.empty.new _).new _
  have b0:H.at_ 0 0=some (tc t):=by rw[eH];simp only[aW,reduceIte,Nat.reduceEqDiff]
  have b1:H.at_ 1 0=some aK:=by rw[eH];simp only[aW,reduceIte,Nat.reduceEqDiff];rfl
  have z1:(t.kind==1)=true:=by simpa using k1
  have wf:∀h,WC env 133 [.int .i64 t.int,.int .i64 10] h (fun o=>o=.ret ⟨.str (Lib.itoa t.int),h,.write⟩):=fun h=>vw (p:=GG) rfl (by
   show(if-9223372036854775808≤t.int∧t.int≤9223372036854775807 then some (AV.str (Lib.itoa t.int),h)else none)=_
   rw[if_pos (by have:=hs.1;have:=hs.2;omega)])
  obtain⟨G,eG⟩:∃G,G=H.new ((dT t.int).map gH):=⟨_,rfl⟩
  have hoG:an G:=by rw[eG];exact ho.new _
  have leG:H.le G:=by rw[eG];exact cz ho _
  have aG:G.at_ H.next 0=some ((dT t.int).map gH):=by rw[eG];exact aY _
  have cv:di H .s2r (.str (Lib.itoa t.int))=some ⟨.sl H.next 0 0 1 (dT t.int).length none,G,.write⟩:=by
   show some (⟨.sl H.next 0 0 1 (dW ⟨(Lib.itoa t.int).toArray⟩ (Lib.itoa t.int).length 0).length none,H.new ((dW ⟨(Lib.itoa t.int).toArray⟩ (Lib.itoa t.int).length 0).map gH),.write⟩:cB)=_
   rw[MA,eG]
  have kw:Acc G 1 (.sl H.next 0 0 1 (dT t.int).length none) ((dT t.int).map gH):=.sl _ _ _ _ aG (by rw[bax,Nat.mul_one])
  obtain⟨r,h3',c,wr,ho3,le3,rl,f,hf⟩:=Et hoG (V5 kw rfl rfl) rfl (by have:=MB hs;omega)
  have b3:=le3.2 _ _ _ (leG.2 _ _ _ b1)
  have lr:∀{r:List AV},r.length=6→bp true 6 r=some (.agg r):=fun{r} rl=>by
   show(if 6≤r.length then some (AV.agg (r.take 6))else none)=_
   rw[if_pos (by omega),bar (by omega)]
  have lrr:=lr rl
  simp only[Ke,ub,ud,ue,MP,Wj,ah.bbw,aw,reduceIte,Nat.reduceEqDiff,dH,aR,cG,cY,baf,←eH,aD,bQ,UInt8.reduceToNat,aQ,gh,b0,t3,z1,ai (wf _),cv,ai wr,iC c,cF,b3,rl,bab,and_self,jad]
  refine⟨[.agg r,.int .i64 0],.aF [.agg (tc (b_ ((dT t.int).map cT) cI f)),.int .i64 0],by simp only[Env.results,aa,reduceIte,Nat.reduceEqDiff,aQ,dC,lrr,jab,jad],?_,f,rfl⟩
  have lt:1<G.next:=by rw[eG,eH];exact Nat.lt_succ_of_lt (Nat.lt_succ_self 1)
  refine o9 ⟨_,_,rfl,hf _ ⟨bab _,fun id gen cs hne e=> ?_⟩,_,_,rfl,(ay (v:=.int .i64 0) rfl).2 rfl,rfl⟩
  rw[cw (fun e2=>hne (by rw[e2];exact lt))]
  exact e
 obtain⟨o,hn,f,e⟩:=hw
 subst e;exact⟨f,fun h=>iP rfl rfl rfl hr ⟨_,hn,rfl⟩⟩
theorem BO (t:Tm) (k1:t.kind≠1) (h:Heap):WC env 112 [.str [105,110,116,101,103,101,114,95,116,111,95,108,105,115,116],.agg (tc t)] h (fun o=>o=.ret ⟨.aF [.agg (tc bZ),.int .i64 261],h,.none⟩):=by
 have z1:(t.kind==1)=false:=by simpa using k1
 refine ad rfl rfl rfl (by simp only[bdk,az]) ?_
 simp only[Ke,ub,ud,ue,MP,GH,ah.bbw,aw,reduceIte,Nat.reduceEqDiff,aD,bQ,UInt8.reduceToNat,z1,bc,aW,Nat.reduceAdd,t3]
theorem yV (t:Tm) (k2:t.kind≠2) (h:Heap):WC env 112 [.str [97,116,111,109,95,116,111,95,108,105,115,116],.agg (tc t)] h (fun o=>o=.ret ⟨.aF [.agg (tc bZ),.int .i64 261],h,.none⟩):=by
 have z1:(t.kind==2)=false:=by simpa using k2
 refine ad rfl rfl rfl (by simp only[bdk,az]) ?_
 simp only[Ke,ub,ud,ue,BP,MQ,GH,ah.bbw,aw,reduceIte,Nat.reduceEqDiff,aD,bQ,UInt8.reduceToNat,z1,bc,aW,Nat.reduceAdd,t3]
def runT (t:Tm):List Int:=dW ⟨t.text.toArray⟩ t.text.length 0
theorem GI (t:Tm) (k2:t.kind=2) (hs:t.text.length≤50000):∃f,∀h,WC env 112 [.str [97,116,111,109,95,116,111,95,108,105,115,116],.agg (tc t)] h (fun o=>o=.ret ⟨.aF [.agg (tc (b_ ((runT t).map cT) cI f)),.int .i64 0],h,.none⟩):=by
 have hr:AV.aj [.str [97,116,111,109,95,116,111,95,108,105,115,116],.agg (tc t)]=true:=by simp only[bdk,az]
 have hw:WC env 112 [.str [97,116,111,109,95,116,111,95,108,105,115,116],.agg (tc t)] .empty (fun o=>∃f,o=.ret ⟨.aF [.agg (tc (b_ ((runT t).map cT) cI f)),.int .i64 0],.empty,.none⟩):=by
  refine ad rfl rfl rfl hr ?_
  obtain⟨H,eH⟩:∃H,H=(Heap.empty.new (tc t)).new [.int .i64 0,.int .i64 0,.str [],.int .u32 0,.ax,.ax]:=⟨_,rfl⟩
  have ho:an H:=by rw[eH];exact(an.empty.new _).new _
  have b0:H.at_ 0 0=some (tc t):=by rw[eH];simp only[aW,reduceIte,Nat.reduceEqDiff]
  have b1:H.at_ 1 0=some aK:=by rw[eH];simp only[aW,reduceIte,Nat.reduceEqDiff];rfl
  have hx:1<H.next:=by rw[eH];exact Nat.lt_succ_self 1
  have hi:H.gg.length=0:=by rw[eH];rfl
  have z1:(t.kind==2)=true:=by simpa using k2
  have it:(H.walk t.text).gg[0]? =some (t.text,0):=by rw[eH];rfl
  simp only[Ke,ub,ud,ue,BP,MQ,Wk,Wl,ah.bbw,aw,reduceIte,Nat.reduceEqDiff,dH,aR,cG,cY,baf,←eH,aD,bQ,UInt8.reduceToNat,aQ,gh,b0,t3,z1,AV.str.injEq,hi,jad]
  refine My hs (i4:=1) (S0:=.ptr 1 0 0) (S5:=.int .i64 0) t.text.length 0 _ (H.walk t.text) .ax [] (by omega) (by simp;exact hs) (fun id hid=>ho id hid) it b1 hx .ax rfl (.inl rfl) (fun id e=>by cases e) ?_ ?_ ?_ ?_ fun σ' h2 w ho2 b2 hx2 kw nw hw g6 g4 g5=> ?_
  ·simp only[aa,reduceIte,Nat.reduceEqDiff]
  ·simp only[aa,reduceIte,Nat.reduceEqDiff]
  ·simp only[aa,reduceIte,Nat.reduceEqDiff]
  ·simp only[aa,reduceIte,Nat.reduceEqDiff]
  have er0:([]:List Int)++dW ⟨t.text.toArray⟩ t.text.length 0=runT t:=rfl
  rw[er0]at kw nw
  have ex:∃r h' c,WC env 132 [w] h2 (fun o=>o=.ret ⟨.agg r,h',c⟩)∧an h' ∧h2.le h' ∧r.length=6∧∃f,∀h'',jL (fun j=>j<h2.next) h' h'' →xX h'' (.agg r) (.agg (tc (b_ ((runT t).map cT) cI f))):=by
   rcases hw with hw|hw
   ·subst hw
    have e0:runT t=[]:=by cases nw' :runT t with
     |nil=>rfl
     |cons a l=>rw[nw']at nw;cases nw
    rw[e0];exact⟨_,h2,.none,Tv h2,ho2,Heap.le_refl h2,aR _,none,fun h'' _=>(ay (v:=.agg _) (az _)).2 rfl⟩
   ·exact Et ho2 (V5 kw nw hw) hw (bal (sC _ _ _) hs)
  obtain⟨r,h3',c,wr,ho3,le3,rl,f,hf⟩:=ex
  have b3:=le3.2 _ _ _ b2
  have lr:∀{r:List AV},r.length=6→bp true 6 r=some (.agg r):=fun{r} rl=>by
   show(if 6≤r.length then some (AV.agg (r.take 6))else none)=_
   rw[if_pos (by omega),bar (by omega)]
  have lrr:=lr rl
  simp only[QZ,aw,reduceIte,Nat.reduceEqDiff,g4,g6,ai wr,iC c,cF,b3,rl,eQ,bab,and_self,if_true]
  refine⟨[.agg r,.int .i64 0],.aF [.agg (tc (b_ ((runT t).map cT) cI f)),.int .i64 0],by simp only[Env.results,aa,reduceIte,Nat.reduceEqDiff,g4,aQ,dC,lrr,jab,jad],?_,f,rfl⟩
  refine o9 ⟨_,_,rfl,hf _ ⟨bab _,fun id gen cs hne e=> ?_⟩,_,_,rfl,(ay (v:=.int .i64 0) rfl).2 rfl,rfl⟩
  rw[cw (fun e2=>hne (by rw[e2];exact hx2))]
  exact e
 obtain⟨o,hn,f,e⟩:=hw
 subst e;exact⟨f,fun h=>iP rfl rfl rfl hr ⟨_,hn,rfl⟩⟩
theorem Kf (t:Tm) (w:Wf t) (h:Heap):WC env 112 [.str [108,105,115,116,95,116,111,95,105,110,116,101,103,101,114],.agg (tc t)] h (fun o=>o=.ret ⟨.aF [.agg (tc (rf t).1),.int .i64 (rf t).2],h,.none⟩):=by
 have ws:=MH t w
 refine ad rfl rfl rfl (by simp only[bdk,az]) ?_
 simp only[Ke,ub,ud,ue,BP,GJ,GK,GL,GM,ah.bbw,aw,reduceIte,Nat.reduceEqDiff,aD,bQ,UInt8.reduceToNat,ai (ws _),aW,Nat.reduceAdd,t3]
theorem Kg (t:Tm) (w:Wf t) (h:Heap):WC env 112 [.str [108,105,115,116,95,116,111,95,97,116,111,109],.agg (tc t)] h (fun o=>o=.ret ⟨.aF [.agg (tc (mL t).1),.int .i64 (mL t).2],h,.none⟩):=by
 have ws:=J7 t w
 refine ad rfl rfl rfl (by simp only[bdk,az]) ?_
 simp only[Ke,ub,ud,ue,BP,GJ,GK,GL,GM,ah.bbw,aw,reduceIte,Nat.reduceEqDiff,aD,bQ,UInt8.reduceToNat,ai (ws _),aW,Nat.reduceAdd,t3]
theorem Kh {v qq:AV} {bb:Bool} {t r:Tm} {cd:Int} (kv:Sl v [t]) (wpp:∀h,WC env 116 [.agg (tc t)] h (fun o=>o=.ret ⟨.aF [qq,.bool bb],h,.none⟩)) (hr:∀h,WC env 136 [.str [105,110,116,101,103,101,114,95,116,111,95,108,105,115,116],.agg (tc t),qq,.bool bb] h (fun o=>o=.ret ⟨.aF [.agg (tc r),.int .i64 cd],h,.none⟩)) (h:Heap):WC env 117 [.str [105,110,116,101,103,101,114,95,116,111,95,108,105,115,116],v] h (fun o=>o=.ret ⟨.aF [.agg (tc r),.int .i64 cd],h,.none⟩):=by
 have x0:=bE kv
 have nl:∀h,aN false h v=some ⟨.int .i64 1,h,.none⟩:=kv.len
 have l1:((1:Int)==1)=true:=rfl
 refine ad rfl rfl rfl (by simp only[bdk,kv.ae]) ?_
 simp only[a117,j3,ah.bbw,aw,reduceIte,Nat.reduceEqDiff,aD,bQ,UInt8.reduceToNat,x0,bJ,nl,l1,ai (wpp _),ai (hr _),aW,Nat.reduceAdd,t3]
theorem Ki {v qq:AV} {bb:Bool} {t r:Tm} {cd:Int} (kv:Sl v [t]) (wpp:∀h,WC env 116 [.agg (tc t)] h (fun o=>o=.ret ⟨.aF [qq,.bool bb],h,.none⟩)) (hr:∀h,WC env 136 [.str [97,116,111,109,95,116,111,95,108,105,115,116],.agg (tc t),qq,.bool bb] h (fun o=>o=.ret ⟨.aF [.agg (tc r),.int .i64 cd],h,.none⟩)) (h:Heap):WC env 117 [.str [97,116,111,109,95,116,111,95,108,105,115,116],v] h (fun o=>o=.ret ⟨.aF [.agg (tc r),.int .i64 cd],h,.none⟩):=by
 have x0:=bE kv
 have nl:∀h,aN false h v=some ⟨.int .i64 1,h,.none⟩:=kv.len
 have l1:((1:Int)==1)=true:=rfl
 refine ad rfl rfl rfl (by simp only[bdk,kv.ae]) ?_
 simp only[a117,j3,ah.bbw,aw,reduceIte,Nat.reduceEqDiff,aD,bQ,UInt8.reduceToNat,x0,bJ,nl,l1,ai (wpp _),ai (hr _),aW,Nat.reduceAdd,t3]
theorem BQ {v qq:AV} {bb:Bool} {t r:Tm} {cd:Int} (kv:Sl v [t]) (wpp:∀h,WC env 116 [.agg (tc t)] h (fun o=>o=.ret ⟨.aF [qq,.bool bb],h,.none⟩)) (hr:∀h,WC env 136 [.str [108,105,115,116,95,116,111,95,105,110,116,101,103,101,114],.agg (tc t),qq,.bool bb] h (fun o=>o=.ret ⟨.aF [.agg (tc r),.int .i64 cd],h,.none⟩)) (h:Heap):WC env 117 [.str [108,105,115,116,95,116,111,95,105,110,116,101,103,101,114],v] h (fun o=>o=.ret ⟨.aF [.agg (tc r),.int .i64 cd],h,.none⟩):=by
 have x0:=bE kv
 have nl:∀h,aN false h v=some ⟨.int .i64 1,h,.none⟩:=kv.len
 have l1:((1:Int)==1)=true:=rfl
 refine ad rfl rfl rfl (by simp only[bdk,kv.ae]) ?_
 simp only[a117,j3,ah.bbw,aw,reduceIte,Nat.reduceEqDiff,aD,bQ,UInt8.reduceToNat,x0,bJ,nl,l1,ai (wpp _),ai (hr _),aW,Nat.reduceAdd,t3]
theorem BR {v qq:AV} {bb:Bool} {t r:Tm} {cd:Int} (kv:Sl v [t]) (wpp:∀h,WC env 116 [.agg (tc t)] h (fun o=>o=.ret ⟨.aF [qq,.bool bb],h,.none⟩)) (hr:∀h,WC env 136 [.str [108,105,115,116,95,116,111,95,97,116,111,109],.agg (tc t),qq,.bool bb] h (fun o=>o=.ret ⟨.aF [.agg (tc r),.int .i64 cd],h,.none⟩)) (h:Heap):WC env 117 [.str [108,105,115,116,95,116,111,95,97,116,111,109],v] h (fun o=>o=.ret ⟨.aF [.agg (tc r),.int .i64 cd],h,.none⟩):=by
 have x0:=bE kv
 have nl:∀h,aN false h v=some ⟨.int .i64 1,h,.none⟩:=kv.len
 have l1:((1:Int)==1)=true:=rfl
 refine ad rfl rfl rfl (by simp only[bdk,kv.ae]) ?_
 simp only[a117,j3,ah.bbw,aw,reduceIte,Nat.reduceEqDiff,aD,bQ,UInt8.reduceToNat,x0,bJ,nl,l1,ai (wpp _),ai (hr _),aW,Nat.reduceAdd,t3]
theorem MR {qq:AV} {bb:Bool} (hq:qq.ae=true) (t:Tm) (tt:dk t=true) (k1:t.kind=1):∃f,∀h,WC env 136 [.str [105,110,116,101,103,101,114,95,116,111,95,108,105,115,116],.agg (tc t),qq,.bool bb] h (fun o=>o=.ret ⟨.aF [.agg (tc (b_ ((dT t.int).map cT) cI f)),.int .i64 0],h,.none⟩):=by
 have hs:=eJ tt k1
 have z1:(t.kind !=1)=false:=by simpa using k1
 obtain⟨g,wd⟩:=Gh hs
 obtain⟨f,wl⟩:=lZ (Ew g ((dT t.int).map cT)) cI (by have:=MB hs;rw[bax];omega) (by show(0:Nat)≤100000000;omega)
 have wl:∀h,WC env 41 [aM g ((dT t.int).map cT).length (bq ((dT t.int).map cT)),.agg (tc cI)] h (fun o=>o=.ret ⟨.agg (tc (b_ ((dT t.int).map cT) cI f)),h,.none⟩):=wl
 have yn:bY [.int .i64 0,.int .i64 0,.str [],.int .u32 0,.ax,.ax] [(0,1,.int .i64 6)]=some (tc cI):=rfl
 refine⟨f,fun h=>ad rfl rfl rfl (by simp only[bdk,az,hq]) ?_⟩
 simp only[C8,pM,pN,pO,MS,Wm,ah.bbw,aw,reduceIte,Nat.reduceEqDiff,aD,bQ,UInt8.reduceToNat,z1,ai (wd _),yn,ai (wl _),aW,Nat.reduceAdd,t3]
theorem C9 {qq:AV} {bb:Bool} (hq:qq.ae=true) (t:Tm) (k1:t.kind≠1) (h:Heap):WC env 136 [.str [105,110,116,101,103,101,114,95,116,111,95,108,105,115,116],.agg (tc t),qq,.bool bb] h (fun o=>o=.ret ⟨.aF [.agg (tc bZ),.int .i64 261],h,.none⟩):=by
 have z1:(t.kind !=1)=true:=by simpa using k1
 refine ad rfl rfl rfl (by simp only[bdk,az,hq]) ?_
 simp only[C8,pM,pN,pO,MS,Wn,ah.bbw,aw,reduceIte,Nat.reduceEqDiff,aD,bQ,UInt8.reduceToNat,z1,bc,aW,Nat.reduceAdd,t3]
theorem BS {qq:AV} {bb:Bool} (hq:qq.ae=true) (t:Tm) (k2:t.kind≠2) (h:Heap):WC env 136 [.str [97,116,111,109,95,116,111,95,108,105,115,116],.agg (tc t),qq,.bool bb] h (fun o=>o=.ret ⟨.aF [.agg (tc bZ),.int .i64 261],h,.none⟩):=by
 have z1:(t.kind !=2)=true:=by simpa using k2
 refine ad rfl rfl rfl (by simp only[bdk,az,hq]) ?_
 simp only[C8,pM,pN,pO,uf,MT,Wo,ah.bbw,aw,reduceIte,Nat.reduceEqDiff,aD,bQ,UInt8.reduceToNat,z1,bc,aW,Nat.reduceAdd,t3]
theorem Kj {qq:AV} {bb:Bool} (hq:qq.ae=true) (t:Tm) (k2:t.kind=2) (hs:t.text.length≤50000):∃f,∀h,WC env 136 [.str [97,116,111,109,95,116,111,95,108,105,115,116],.agg (tc t),qq,.bool bb] h (fun o=>o=.ret ⟨.aF [.agg (tc (b_ ((runT t).map cT) cI f)),.int .i64 0],h,.none⟩):=by
 have hr:AV.aj [.str [97,116,111,109,95,116,111,95,108,105,115,116],.agg (tc t),qq,.bool bb]=true:=by simp only[bdk,az,hq]
 have hw:WC env 136 [.str [97,116,111,109,95,116,111,95,108,105,115,116],.agg (tc t),qq,.bool bb] .empty (fun o=>∃f,o=.ret ⟨.aF [.agg (tc (b_ ((runT t).map cT) cI f)),.int .i64 0],.empty,.none⟩):=by
  refine ad rfl rfl rfl hr ?_
  obtain⟨H,eH⟩:∃H,H=(Heap.empty.new (tc t)).new [.int .i64 0,.int .i64 0,.str [],.int .u32 0,.ax,.ax]:=⟨_,rfl⟩
  have ho:an H:=by rw[eH];exact(an.empty.new _).new _
  have b0:H.at_ 0 0=some (tc t):=by rw[eH];simp only[aW,reduceIte,Nat.reduceEqDiff]
  have b1:H.at_ 1 0=some aK:=by rw[eH];simp only[aW,reduceIte,Nat.reduceEqDiff];rfl
  have hx:1<H.next:=by rw[eH];exact Nat.lt_succ_self 1
  have hi:H.gg.length=0:=by rw[eH];rfl
  have z1:(t.kind !=2)=false:=by simpa using k2
  have it:(H.walk t.text).gg[0]? =some (t.text,0):=by rw[eH];rfl
  simp only[C8,pM,pN,pO,uf,MT,Wp,Q0,ah.bbw,aw,reduceIte,Nat.reduceEqDiff,dH,aR,cG,cY,baf,Nat.reduceAdd,←eH,aD,bQ,UInt8.reduceToNat,aQ,gh,b0,t3,z1,AV.str.injEq,hi,jad]
  refine Mz hs (i8:=1) (S0:=.ptr 1 0 0) (S9:=.int .i64 0) t.text.length 0 _ (H.walk t.text) .ax [] (by omega) (by simp;exact hs) (fun id hid=>ho id hid) it b1 hx .ax rfl (fun id e=>by cases e) ?_ ?_ ?_ ?_ fun σ' h2 w ho2 b2 hx2 kw nw g10 g8 g9=> ?_
  ·simp only[aa,reduceIte,Nat.reduceEqDiff]
  ·simp only[aa,reduceIte,Nat.reduceEqDiff]
  ·simp only[aa,reduceIte,Nat.reduceEqDiff]
  ·simp only[aa,reduceIte,Nat.reduceEqDiff]
  have er0:([]:List Int)++dW ⟨t.text.toArray⟩ t.text.length 0=runT t:=rfl
  rw[er0]at kw nw
  obtain⟨r,h3',c,wr,ho3,le3,rl,f,hf⟩:=Tu ho2 kw (by rw[bax];exact nw) (by rw[bax];exact bal (sC _ _ _) hs)
  have b3:=le3.2 _ _ _ b2
  have yn:bY [.int .i64 0,.int .i64 0,.str [],.int .u32 0,.ax,.ax] [(0,1,.int .i64 6)]=some (tc cI):=rfl
  have lr:∀{r:List AV},r.length=6→bp true 6 r=some (.agg r):=fun{r} rl=>by
   show(if 6≤r.length then some (AV.agg (r.take 6))else none)=_
   rw[if_pos (by omega),bar (by omega)]
  have lrr:=lr rl
  simp only[Q1,aw,reduceIte,Nat.reduceEqDiff,g8,g10,yn,ai wr,iC c,cF,b3,rl,eQ,bab,and_self,if_true]
  refine⟨[.agg r,.int .i64 0],.aF [.agg (tc (b_ ((runT t).map cT) cI f)),.int .i64 0],by simp only[Env.results,aa,reduceIte,Nat.reduceEqDiff,g8,aQ,dC,lrr,jab,jad],?_,f,rfl⟩
  refine o9 ⟨_,_,rfl,hf _ ⟨bab _,fun id gen cs hne e=> ?_⟩,_,_,rfl,(ay (v:=.int .i64 0) rfl).2 rfl,rfl⟩
  rw[cw (fun e2=>hne (by rw[e2];exact hx2))]
  exact e
 obtain⟨o,hn,f,e⟩:=hw
 subst e;exact⟨f,fun h=>iP rfl rfl rfl hr ⟨_,hn,rfl⟩⟩
theorem MU {qq:AV} {l:List Tm} (kq:Sl qq l) (hl:l.length≤100000) (t:Tm) (h:Heap):WC env 136 [.str [108,105,115,116,95,116,111,95,105,110,116,101,103,101,114],.agg (tc t),qq,.bool true] h (fun o=>o=.ret ⟨.aF [.agg (tc (nL l).1),.int .i64 (nL l).2],h,.none⟩):=by
 have ws:=GC kq hl
 refine ad rfl rfl rfl (by simp only[bdk,az,kq.ae]) ?_
 simp only[C8,pM,pN,pO,uf,vZ,GN,Q2,ah.bbw,aw,reduceIte,Nat.reduceEqDiff,aD,bQ,UInt8.reduceToNat,dm,baj,ai (ws _),aW,Nat.reduceAdd,t3]
theorem C_ {qq:AV} (hq:qq.ae=true) (t:Tm) (h:Heap):WC env 136 [.str [108,105,115,116,95,116,111,95,105,110,116,101,103,101,114],.agg (tc t),qq,.bool false] h (fun o=>o=.ret ⟨.aF [.agg (tc bZ),.int .i64 261],h,.none⟩):=by
 refine ad rfl rfl rfl (by simp only[bdk,az,hq]) ?_
 simp only[C8,pM,pN,pO,uf,vZ,GO,ah.bbw,aw,reduceIte,Nat.reduceEqDiff,aD,bQ,UInt8.reduceToNat,dm,bak,bc,aW,Nat.reduceAdd,t3]
theorem MV {qq:AV} {l:List Tm} (kq:Sl qq l) (hl:l.length≤100000) (t:Tm) (h:Heap):WC env 136 [.str [108,105,115,116,95,116,111,95,97,116,111,109],.agg (tc t),qq,.bool true] h (fun o=>o=.ret ⟨.aF [.agg (tc (sW l).1),.int .i64 (sW l).2],h,.none⟩):=by
 have ws:=J8 kq hl
 refine ad rfl rfl rfl (by simp only[bdk,az,kq.ae]) ?_
 simp only[C8,pM,pN,pO,uf,vZ,GN,Q3,ah.bbw,aw,reduceIte,Nat.reduceEqDiff,aD,bQ,UInt8.reduceToNat,dm,baj,ai (ws _),aW,Nat.reduceAdd,t3]
theorem Da {qq:AV} (hq:qq.ae=true) (t:Tm) (h:Heap):WC env 136 [.str [108,105,115,116,95,116,111,95,97,116,111,109],.agg (tc t),qq,.bool false] h (fun o=>o=.ret ⟨.aF [.agg (tc bZ),.int .i64 261],h,.none⟩):=by
 refine ad rfl rfl rfl (by simp only[bdk,az,hq]) ?_
 simp only[C8,pM,pN,pO,uf,vZ,GO,ah.bbw,aw,reduceIte,Nat.reduceEqDiff,aD,bQ,UInt8.reduceToNat,dm,bak,bc,aW,Nat.reduceAdd,t3]
theorem BT (v:Int): -9223372036854775808≤IntKind.wrap .i64 v∧IntKind.wrap .i64 v≤9223372036854775807:=by
 show-9223372036854775808≤(if(true&&decide (v % 18446744073709551616≥9223372036854775808))=true then v % 18446744073709551616-18446744073709551616 else v % 18446744073709551616)∧(if(true&&decide (v % 18446744073709551616≥9223372036854775808))=true then v % 18446744073709551616-18446744073709551616 else v % 18446744073709551616)≤9223372036854775807
 split
 ·rename_i c
  simp only[bbb,decide_eq_true_eq]at c
  omega
 ·rename_i c
  simp only[bbb,decide_eq_true_eq]at c
  omega
theorem alu (c:Int):(cT c).Ok:=k_ (by have:=(BT c).1;omega) (by have:=(BT c).2;omega)
theorem GP (l:List Int):gW (l.map cT):=nK fun x hx=>by
 obtain⟨c,_,rfl⟩:=List.mem_map.1 hx
 exact alu c
theorem ahA:∃p q r s,cx [105,110,116,101,103,101,114,95,116,111,95,108,105,115,116] 1=.aF [.agg [p,q,r,s],.bool true]:=⟨_,_,_,_,rfl⟩
theorem ahB:∃p q r s,cx [97,116,111,109,95,116,111,95,108,105,115,116] 1=.aF [.agg [p,q,r,s],.bool true]:=⟨_,_,_,_,rfl⟩
theorem ahC:∃p q r s,cx [108,105,115,116,95,116,111,95,105,110,116,101,103,101,114] 1=.aF [.agg [p,q,r,s],.bool true]:=⟨_,_,_,_,rfl⟩
theorem ahD:∃p q r s,cx [108,105,115,116,95,116,111,95,97,116,111,109] 1=.aF [.agg [p,q,r,s],.bool true]:=⟨_,_,_,_,rfl⟩
section
variable {v : AV} {t : Tm} (kv : Sl v [t]) (okt : t.Ok) (tt : dk t = true)
include kv okt tt
theorem Wq:fA [105,110,116,101,103,101,114,95,116,111,95,108,105,115,116] v:=by
 obtain⟨d1,d2,d3,d4,fp⟩:=ahA
 have w:=dL tt
 obtain⟨qq,kq,wpp⟩:=bB t w
 by_cases k1:t.kind=1
 ·have hs:=eJ tt k1
  have hl:=MB hs
  obtain⟨f,w1⟩:=Kd t tt k1
  obtain⟨g,w2⟩:=MR (bb:=(bW t).isSome) kq.ae t tt k1
  exact bk (ts:=[t]) ⟨okt,trivial⟩ kv (by simp) fp (gf tt) (iO (GP _) pH f (by rw[bax];omega) (by show(0:Nat)≤_;omega)) (iO (GP _) pH g (by rw[bax];omega) (by show(0:Nat)≤_;omega)) (BB rfl f g) (kS kv.ae (kI kv w1)) (kR kv.ae (kT kv (Kh kv wpp w2)))
 ·exact bH (ts:=[t]) ⟨okt,trivial⟩ kv (by simp) fp (gf tt) (by decide) (kS kv.ae (kI kv (BO t k1))) (kR kv.ae (kT kv (Kh kv wpp (C9 kq.ae t k1))))
theorem Wr (ht:t.kind=2→t.text.length≤50000):fA [97,116,111,109,95,116,111,95,108,105,115,116] v:=by
 obtain⟨d1,d2,d3,d4,fp⟩:=ahB
 have w:=dL tt
 obtain⟨qq,kq,wpp⟩:=bB t w
 by_cases k2:t.kind=2
 ·have hs:=ht k2
  have hl:(runT t).length≤50000:=bal (sC _ _ _) hs
  obtain⟨f,w1⟩:=GI t k2 hs
  obtain⟨g,w2⟩:=Kj (bb:=(bW t).isSome) kq.ae t k2 hs
  exact bk (ts:=[t]) ⟨okt,trivial⟩ kv (by simp) fp (gf tt) (iO (GP _) pH f (by rw[bax];omega) (by show(0:Nat)≤_;omega)) (iO (GP _) pH g (by rw[bax];omega) (by show(0:Nat)≤_;omega)) (BB rfl f g) (oB kv.ae (mF kv w1)) (od kv.ae (oE kv (Ki kv wpp w2)))
 ·exact bH (ts:=[t]) ⟨okt,trivial⟩ kv (by simp) fp (gf tt) (by decide) (oB kv.ae (mF kv (yV t k2))) (od kv.ae (oE kv (Ki kv wpp (BS kq.ae t k2))))
theorem Ws:fA [108,105,115,116,95,116,111,95,105,110,116,101,103,101,114] v:=by
 obtain⟨d1,d2,d3,d4,fp⟩:=ahC
 have w:=dL tt
 obtain⟨qq,kq,wpp⟩:=bB t w
 have w1:=Kf t w
 cases e:bW t with
 |none=>
  rw[rf,e]at w1
  rw[e]at kq wpp
  exact bH (ts:=[t]) ⟨okt,trivial⟩ kv (by simp) fp (gf tt) (by decide) (iI kv.ae (ic kv w1)) (iH kv.ae (iJ kv (BQ kv wpp (C_ kq.ae t))))
 |some l=>
  rw[rf,e]at w1
  rw[e]at kq wpp
  have kq:Sl qq l:=kq
  have w1:∀h,WC env 112 [.str [108,105,115,116,95,116,111,95,105,110,116,101,103,101,114],.agg (tc t)] h (fun o=>o=.ret ⟨.aF [.agg (tc (nL l).1),.int .i64 (nL l).2],h,.none⟩):=w1
  have w2:=MU kq (by have:=(dY w e).1;omega) t
  by_cases c:(nL l).2=0
  ·rw[c]at w1 w2
   have okr:(nL l).1.Ok:=by
    have hb:∀m l,(tQ m l).2=0→(tQ m l).1.Ok:=by
     intro m l c;rw[tQ]at c⊢
     split
     ·exact oF
     ·rename_i hne
      rw[if_neg hne]at c
      split
      ·rename_i V hv
       rw[hv]at c
       simp only[sV]at c⊢
       split
       ·rename_i hc
        refine k_ ?_ ?_<;>(split<;>omega)
       ·exact oF
      ·exact oF
    cases l with
    |nil=>exact oF
    |cons x r=>
     rw[nL]at c⊢
     split
     ·rename_i h1;rw[if_pos h1]at c;exact hb _ _ c
     ·rename_i h1
      rw[if_neg h1]at c
      split
      ·rename_i h2;rw[if_pos h2]at c;exact hb _ _ c
      ·rename_i h2;rw[if_neg h2]at c;exact hb _ _ c
   exact bk (ts:=[t]) ⟨okt,trivial⟩ kv (by simp) fp (gf tt) okr okr rfl (iI kv.ae (ic kv w1)) (iH kv.ae (iJ kv (BQ kv wpp w2)))
  ·exact bH (ts:=[t]) ⟨okt,trivial⟩ kv (by simp) fp (gf tt) c (iI kv.ae (ic kv w1)) (iH kv.ae (iJ kv (BQ kv wpp w2)))
theorem Wt:fA [108,105,115,116,95,116,111,95,97,116,111,109] v:=by
 obtain⟨d1,d2,d3,d4,fp⟩:=ahD
 have w:=dL tt
 obtain⟨qq,kq,wpp⟩:=bB t w
 have w1:=Kg t w
 cases e:bW t with
 |none=>
  rw[mL,e]at w1
  rw[e]at kq wpp
  exact bH (ts:=[t]) ⟨okt,trivial⟩ kv (by simp) fp (gf tt) (by decide) (jY kv.ae (jx kv w1)) (jV kv.ae (j4 kv (BR kv wpp (Da kq.ae t))))
 |some l=>
  rw[mL,e]at w1
  rw[e]at kq wpp
  have kq:Sl qq l:=kq
  have w1:∀h,WC env 112 [.str [108,105,115,116,95,116,111,95,97,116,111,109],.agg (tc t)] h (fun o=>o=.ret ⟨.aF [.agg (tc (sW l).1),.int .i64 (sW l).2],h,.none⟩):=w1
  have w2:=MV kq (by have:=(dY w e).1;omega) t
  by_cases c:(sW l).2=0
  ·rw[c]at w1 w2
   have okr:(sW l).1.Ok:=by
    rw[sW];split
    ·split
     ·exact oF
     ·rename_i b hb hc
      rw[gZ,Tm.Ok];exact⟨⟨by decide,by decide⟩,⟨by decide,by decide⟩,⟨by decide,by decide⟩,by simp,by omega,by decide,by decide,trivial⟩
    ·exact oF
   exact bk (ts:=[t]) ⟨okt,trivial⟩ kv (by simp) fp (gf tt) okr okr rfl (jY kv.ae (jx kv w1)) (jV kv.ae (j4 kv (BR kv wpp w2)))
  ·exact bH (ts:=[t]) ⟨okt,trivial⟩ kv (by simp) fp (gf tt) c (jY kv.ae (jx kv w1)) (jV kv.ae (j4 kv (BR kv wpp w2)))
end
end Go.Bf
namespace Go.Bf
open Go.AM
theorem alv:∃p q r s,cx [104,100] 1=.aF [.agg [p,q,r,s],.bool true]:=⟨_,_,_,_,rfl⟩
theorem alw:∃p q r s,cx [116,108] 1=.aF [.agg [p,q,r,s],.bool true]:=⟨_,_,_,_,rfl⟩
section
variable {v : AV} {t : Tm} (kv : Sl v [t]) (okt : t.Ok) (tt : dk t = true)
include kv okt tt
theorem abZ:fA [104,100] v:=by
 obtain⟨d1,d2,d3,d4,fp⟩:=alv
 have w:=dL tt
 by_cases k7:t.kind=7
 ·have h2:=(j1 w).2.1 k7
  have hk:0<t.args.length:=by omega
  by_cases e2:t.args.length=2
  ·obtain⟨c,okc,ec,h0,h1,ws⟩:=Ev t okt w k7 e2
   have ea:kY c.args=kY t.args:=by rw[←iS,ec,iS]
   exact bk (ts:=[t]) ⟨okt,trivial⟩ kv (by simp) fp (gf tt) ((eP okc).get (bas h0)) ((eP okt).get (bas hk)) (FK ea 0 h0 hk) (L0 kv.ae (QU kv ws)) (LP kv.ae (MW kv (QH kv w k7 hk)))
  ·obtain⟨c,okc,ec,f,h0,ws⟩:=BM t okt w k7 (by omega)
   have ea:kY c.args=kY t.args:=by rw[←iS,ec,iS]
   exact bk (ts:=[t]) ⟨okt,trivial⟩ kv (by simp) fp (gf tt) ((eP okc).get (bas h0)) ((eP okt).get (bas hk)) (FK ea 0 h0 hk) (L0 kv.ae (QU kv ws)) (LP kv.ae (MW kv (QH kv w k7 hk)))
 ·exact bH (ts:=[t]) ⟨okt,trivial⟩ kv (by simp) fp (gf tt) (by decide) (L0 kv.ae (MK kv k7)) (LP kv.ae (MW kv (Mg kv w k7)))
theorem ab0:fA [116,108] v:=by
 obtain⟨d1,d2,d3,d4,fp⟩:=alw
 have w:=dL tt
 obtain⟨hl,_⟩:=j1 w
 by_cases k7:t.kind=7
 ·have h2:=(j1 w).2.1 k7
  by_cases e2:t.args.length=2
  ·obtain⟨c,okc,ec,h0,h1,ws⟩:=Ev t okt w k7 e2
   have ea:kY c.args=kY t.args:=by rw[←iS,ec,iS]
   have hk:1<t.args.length:=by omega
   exact bk (ts:=[t]) ⟨okt,trivial⟩ kv (by simp) fp (gf tt) ((eP okc).get (bas h1)) ((eP okt).get (bas hk)) (FK ea 1 h1 hk) (L1 kv.ae (QV kv ws)) (LQ kv.ae (MX kv (V3 kv w k7 e2)))
  ·obtain⟨c,okc,ec,f,h0,ws⟩:=BM t okt w k7 (by omega)
   have ea:kY c.args=kY t.args:=by rw[←iS,ec,iS]
   have lc:c.args.length=t.args.length:=by rw[←eE,ea,eE]
   obtain⟨g,w2⟩:=abW kv w k7 (by omega)
   have ed:kY (c.args.drop 1)=kY (t.args.drop 1):=by
    rw[pG,pG]at ea
    rw[pG,pG,List.map_drop,List.map_drop,ea]
   have okd:∀{l:List Tm} (f:Option Bool),gW l→l.length≤1000000000→(Tm.mk 7 0 [] 0 none [] f (l.drop 1)).Ok:=fun{l} f ho hn=>by
    rw[Tm.Ok];exact⟨⟨by decide,by decide⟩,⟨by decide,by decide⟩,⟨by decide,by decide⟩,by simp,by decide,by decide,by rw[bbl];omega,nK fun x hx=>ho.get (List.mem_of_mem_drop hx)⟩
   exact bk (ts:=[t]) ⟨okt,trivial⟩ kv (by simp) fp (gf tt) (okd f (eP okc) (by omega)) (okd g (eP okt) (by omega)) (by rw[er,er,ed]) (L1 kv.ae (QV kv ws)) (LQ kv.ae (MX kv w2))
 ·exact bH (ts:=[t]) ⟨okt,trivial⟩ kv (by simp) fp (gf tt) (by decide) (L1 kv.ae (ML kv k7)) (LQ kv.ae (MX kv (Mh kv w k7)))
end
end Go.Bf
namespace Go.Bf
open Go.AM
theorem Kk {v:AV} {t u w:Tm} (kv:Sl v [t,u,w]) (wt:Wf t) (hu:u.args.length<100000) (e:jl t u=none) (h:Heap):WC env 117 [.str [115,101,116,101,108,101,109,101,110,116],v] h (fun o=>o=.ret ⟨.aF [.agg (tc bZ),.int .i64 261],h,.none⟩):=by
 obtain⟨A,B,C,x0,x1,x2⟩:=Wu kv
 have nl:∀h,aN false h v=some ⟨.int .i64 3,h,.none⟩:=kv.len
 have nu:=(cW u).len
 obtain⟨qq,kq,wpp⟩:=bB t wt
 have l1:((3:Int)==1)=false:=by decide
 rw[jl]at e
 refine ad rfl rfl rfl (by simp only[bdk,kv.ae]) ?_
 by_cases c1:t.kind=1
 ·have z1:(t.kind !=1)=false:=by simpa using c1
  by_cases c2:u.kind=5
  ·have z2:(u.kind !=5)=false:=by simpa using c2
   by_cases c3:t.int<1
   ·have z3:(t.int<1)=True:=eq_true c3
    simp only[a117,j3,ah.bbw,aw,reduceIte,Nat.reduceEqDiff,aD,bQ,UInt8.reduceToNat,x0,x1,iE,nl,z1,l1,z2,z3,ai (wpp _),bc,aW,Nat.reduceAdd,t3]
   ·have z3:(t.int<1)=False:=eq_false c3
    have z4:(t.int>(u.args.length:Int))=True:=eq_true (by
     by_cases c4:t.int≤(u.args.length:Int)
     ·rw[if_pos ⟨c1,c2,by omega,c4⟩]at e;cases e
     ·omega)
    simp only[a117,j3,ah.bbw,aw,reduceIte,Nat.reduceEqDiff,aD,bQ,UInt8.reduceToNat,x0,x1,iE,nl,nu,z1,l1,z2,z3,z4,ai (wpp _),bc,aW,Nat.reduceAdd,t3]
  ·have z2:(u.kind !=5)=true:=by simpa using c2
   simp only[a117,j3,ah.bbw,aw,reduceIte,Nat.reduceEqDiff,aD,bQ,UInt8.reduceToNat,x0,x1,iE,nl,z1,l1,z2,ai (wpp _),bc,aW,Nat.reduceAdd,t3]
 ·have z1:(t.kind !=1)=true:=by simpa using c1
  simp only[a117,j3,ah.bbw,aw,reduceIte,Nat.reduceEqDiff,aD,bQ,UInt8.reduceToNat,x0,x1,iE,nl,z1,l1,ai (wpp _),bc,aW,Nat.reduceAdd,t3]
theorem Tw {v:AV} {t u w:Tm} (kv:Sl v [t,u,w]) (wt:Wf t) (hu:u.args.length<100000) {i:Nat} (e:jl t u=some i):∃f,∀h,WC env 117 [.str [115,101,116,101,108,101,109,101,110,116],v] h (fun o=>o=.ret ⟨.aF [.agg (tc (.mk 5 0 [] 0 none [] f (u.args.set i w))),.int .i64 0],h,.none⟩):=by
 obtain⟨c1,c2,hi,hn⟩:=pI e
 have z1:(t.kind !=1)=false:=by simpa using c1
 obtain⟨A,B,C,x0,x1,x2⟩:=Wu kv
 have nl:∀h,aN false h v=some ⟨.int .i64 3,h,.none⟩:=kv.len
 have nu:=(cW u).len
 obtain⟨qq,kq,wpp⟩:=bB t wt
 have l1:((3:Int)==1)=false:=by decide
 have z2:(u.kind !=5)=false:=by simpa using c2
 have z3:(t.int<1)=False:=eq_false (by omega)
 have z4:(t.int>(u.args.length:Int))=False:=eq_false (by omega)
 have wn:IntKind.wrap .i64 (t.int-1)=(i:Int):=aX (by omega) (by omega)
 obtain⟨H,eH⟩:∃H,H=((((Heap.empty.new [.int .i64 0,.int .i64 0,.str [],.int .u32 0,.ax,.ax]).new [.int .i64 0,.int .i64 0,.str [],.int .u32 0,.ax,.ax]).cD 1 0 (tc t)).new [.int .i64 0,.int .i64 0,.str [],.int .u32 0,.ax,.ax]).cD 2 0 (tc u):=⟨_,rfl⟩
 have ho:an H:=by rw[eH];exact((((an.empty.new _).new _).cD (cJ.1 (aY _)) _ _).new _).cD (cJ.1 (aY _)) _ _
 have hN:H.next=3:=by rw[eH];rfl
 have a0:H.at_ 0 0=some aK:=by rw[eH];simp only[aW,Nat.reduceAdd,reduceIte,Nat.reduceEqDiff];rfl
 have a1:H.at_ 1 0=some (tc t):=by rw[eH];simp only[aW,Nat.reduceAdd,reduceIte,Nat.reduceEqDiff]
 have a2:H.at_ 2 0=some (tc u):=by rw[eH];simp only[aW,Nat.reduceAdd,reduceIte,Nat.reduceEqDiff]
 have ks:=(cW u).src H
 obtain⟨c,hc⟩:=ks.cells
 have ll:u.args.length≠0:=by omega
 have ap:b9 H 6 88 (.fs true 0 []) (j2 u)=some ⟨.sl 3 0 0 6 u.args.length none,H.new (bq u.args),.write⟩:=by
  unfold b9
  rw[ks.len,bag];simp only[cr,bag]
  rw[if_pos ⟨by omega,by omega,by omega⟩,if_neg ll,hc,hN];simp[aT]
 have y1:bY [] []=some []:=rfl
 obtain⟨G,eG⟩:∃G,G=H.new (bq u.args):=⟨_,rfl⟩
 rw[←eG]at ap
 have hG:G.next=4:=by rw[eG,cY,hN]
 have g0:G.at_ 0 0=some aK:=by rw[eG];exact(cz ho _).2 _ _ _ a0
 have g1:G.at_ 1 0=some (tc t):=by rw[eG];exact(cz ho _).2 _ _ _ a1
 have g3:G.at_ 3 0=some (bq u.args):=by rw[eG,←hN];exact aY _
 have fl:=qW (v:=.sl 3 0 0 6 u.args.length none) (k:=5) rfl
 have ix:aZ 6 (.sl 3 0 0 6 u.args.length none) (.int .i64 i)=some (.ptr 3 0 (0+i*6)):=by
  simp only[aZ,gO (kd:=.i64) hi,jak]
 rw[baf]at ix
 have st:bC G 6 (.ptr 3 0 (i*6)) (.agg (tc w))=some ⟨.undef,G.cD 3 0 (bq (u.args.set i w)),.write⟩:=by
  rw[Ex g3 (by rw[bl];omega),GQ _ _ _ hi]
 refine⟨some false,fun h=>ad rfl rfl rfl (by simp only[bdk,kv.ae]) ?_⟩
 simp only[a117,j3,ah.bbw,aw,reduceIte,Nat.reduceEqDiff,aD,bQ,UInt8.reduceToNat,x0,x1,iE,nl,nu,z1,l1,z2,z3,z4,ai (wpp _),aW,Nat.reduceAdd,t3,←eH,a1,a2,y1,bbc,ap]
 refine aB ?_
 simp only[aw,reduceIte,Nat.reduceEqDiff,k3,aW,Nat.reduceAdd,t3,x2,g1,wn,iE,ix,st,g0,fl]
 refine⟨rfl,?_⟩
 have ls:(u.args.set i w).length=u.args.length:=List.length_set
 have ht:((bq (u.args.set i w)).drop 0).take (u.args.length*6)=bq (u.args.set i w):=by
  rw[bah];exact bar (by rw[bl,ls];exact bab _)
 refine⟨.aF [.agg (tc (.mk 5 0 [] 0 none [] (some false) (u.args.set i w))),.int .i64 0],o9 ⟨_,_,rfl,lh ⟨_,_,rfl,(ay (v:=.int .i64 5) rfl).2 rfl,_,_,rfl,(ay (v:=.int .i64 0) rfl).2 rfl,_,_,rfl,(ay (v:=.str []) rfl).2 rfl,_,_,rfl,(ay (v:=.int .u32 0) rfl).2 rfl,_,_,rfl,(ay (v:=.ax) rfl).2 rfl,_,_,rfl,?_,rfl⟩,_,_,rfl,(ay (v:=.int .i64 0) rfl).2 rfl,rfl⟩,rfl⟩
 refine(AE (cs:=bq (u.args.set i w)) (by simp only[dC,reduceIte,Nat.reduceEqDiff]) (by rw[bl,ls];omega) (by rw[ht];exact eD _)).2 ?_
 rw[ht,ls];rfl
theorem yW {v:AV} {a b w:Tm} (kv:Sl v [a,b,w]) (oka:a.Ok) (okb:b.Ok) (okw:w.Ok) (ta:dk a=true) (tb:dk b=true) (tw:dk w=true):fA [115,101,116,101,108,101,109,101,110,116] v:=by
 obtain⟨d1,d2,d3,d4,fp⟩:=Vv
 obtain⟨hl,_⟩:=j1 (dL tb)
 have hok:=apX oka okb okw
 have r0:=apY ta tb tw
 cases ee:jl a b with
 |none=>exact bH hok kv (by simp) fp r0 (by decide) (rm kv.ae (ug kv (by omega) ee)) (Q4 kv.ae (Q5 kv (Kk kv (dL ta) (by omega) ee)))
 |some i=>
  obtain⟨f,w1⟩:=yX kv (by omega) ee
  obtain⟨g,w2⟩:=Tw kv (dL ta) (by omega) ee
  have okr:∀f,(Tm.mk 5 0 [] 0 none [] f (b.args.set i w)).Ok:=fun f=>L5 (abH (eP okb) okw i) f (by rw[List.length_set];omega)
  exact bk hok kv (by simp) fp r0 (okr f) (okr g) (Vu rfl f g) (rm kv.ae w1) (Q4 kv.ae (Q5 kv w2))
end Go.Bf
namespace Go.Bf
open Go.AM
theorem Wv (v:Int):∃k:Int,IntKind.wrap .i64 v=v-k*18446744073709551616:=by
 show∃k:Int,(if(true&&decide (v % 18446744073709551616≥9223372036854775808))=true then v % 18446744073709551616-18446744073709551616 else v % 18446744073709551616)=_
 split
 ·exact⟨v/18446744073709551616+1,by omega⟩
 ·exact⟨v/18446744073709551616,by omega⟩
theorem GR {a b:Int} (h0:a=0∨b=0) (h:Heap):WC env 100 [.int .i64 a,.int .i64 b] h (fun o=>o=.ret ⟨.aF [.int .i64 0,.bool true],h,.none⟩):=by
 refine ad rfl rfl rfl rfl ?_
 by_cases c:a=0
 ·have z:(a==0)=true:=by simpa using c
  simp only[GS,rp,rq,GU,ah.bbw,aw,reduceIte,Nat.reduceEqDiff,aW,z]
 ·have z:(a==0)=false:=by simpa using c
  have z2:(b==0)=true:=by simpa using h0.resolve_left c
  simp only[GS,rp,rq,GU,ah.bbw,aw,reduceIte,Nat.reduceEqDiff,aW,z,z2]
theorem Kl {a b:Int} (ha:a≠0) (hb:b≠0):∃ok,(∀h,WC env 100 [.int .i64 a,.int .i64 b] h (fun o=>o=.ret ⟨.aF [.int .i64 (IntKind.wrap .i64 (a*b)),.bool ok],h,.none⟩))∧(ok=true→(IntKind.wrap .i64 (a*b))=a*b∨IntKind.wrap .i64 ((IntKind.wrap .i64 (a*b)).tdiv b)=a):=by
 have z0:(a==0)=false:=by simpa using ha
 have z1:(b==0)=false:=by simpa using hb
 have z2:(b=0)=False:=eq_false hb
 obtain⟨n,en⟩:∃n,n=IntKind.wrap .i64 (a*b):=⟨_,rfl⟩
 obtain⟨q,eq⟩:∃q,q=IntKind.wrap .i64 (n.tdiv b):=⟨_,rfl⟩
 obtain⟨r,er⟩:∃r,r=n.tmod b:=⟨_,rfl⟩
 rw[←en,←eq];cases c:(q==a)with
 |false=>
  refine⟨false,fun h=>ad rfl rfl rfl rfl ?_,fun e=>by cases e⟩
  simp only[GS,rp,rq,BU,BV,ah.bbw,aw,reduceIte,Nat.reduceEqDiff,aW,z0,z1,←en]
  refine aB ?_
  simp only[aw,Nat.reduceEqDiff,k3,aW,z2,if_false,←eq,c]
  rfl
 |true=>
  have hq:q=a:=by simpa using c
  cases c2:(r==0)with
  |false=>
   refine⟨false,fun h=>ad rfl rfl rfl rfl ?_,fun e=>by cases e⟩
   simp only[GS,rp,rq,BU,BV,ah.bbw,aw,reduceIte,Nat.reduceEqDiff,aW,z0,z1,←en]
   refine aB ?_
   simp only[aw,Nat.reduceEqDiff,k3,aW,z2,if_false,←eq,←er,c,c2]
   rfl
  |true=>
   refine⟨true,fun h=>ad rfl rfl rfl rfl ?_,fun _=>.inr hq⟩
   simp only[GS,rp,rq,BU,BV,ah.bbw,aw,reduceIte,Nat.reduceEqDiff,aW,z0,z1,←en]
   refine aB ?_
   simp only[aw,Nat.reduceEqDiff,k3,aW,z2,if_false,←eq,←er,c,c2]
   rfl
theorem rr {a b:Int} (ha:Small a) (hb:Small b) (hb0:b≠0) (hv:¬Small (a*b)) (hq:IntKind.wrap .i64 ((IntKind.wrap .i64 (a*b)).tdiv b)=a):¬Small (IntKind.wrap .i64 (a*b)):=by
 intro hs;obtain⟨k,hk⟩:=Wv (a*b)
 obtain⟨n,en⟩:∃n,n=IntKind.wrap .i64 (a*b):=⟨_,rfl⟩
 rw[←en]at hq hs hk
 rw[cV (j0 hs)]at hq
 have h1:n.tdiv b*b+n.tmod b=n:=by
  have:=Int.tdiv_mul_add_tmod n b
  omega
 rw[hq]at h1
 have h2:(n.tmod b).natAbs<b.natAbs:=by
  rw[Int.natAbs_tmod];exact Nat.mod_lt _ (by omega)
 have hb1:=hb.1;have hb2:=hb.2;have h3:n.tmod b= -(k*18446744073709551616):=by omega
 have k0:k=0:=by omega
 subst k0;have:n=a*b:=by omega
 rw[this]at hs
 exact hv hs
theorem MY {a b:Int} (h0:a=0∨b=0) (h:Heap):WC env 114 [.int .i64 a,.int .i64 b] h (fun o=>o=.ret ⟨.aF [.agg (tc (fD 0)),.int .i64 0],h,.none⟩):=by
 refine ad rfl rfl rfl rfl ?_
 by_cases c:a=0
 ·have z:(a==0)=true:=by simpa using c
  simp only[Km,uh,ui,uj,uk,um,uo,uq,ah.bbw,aw,reduceIte,Nat.reduceEqDiff,aW,Nat.reduceAdd,t3,z,ai (dK _ _)]
 ·have z:(a==0)=false:=by simpa using c
  have z2:(b==0)=true:=by simpa using h0.resolve_left c
  simp only[Km,uh,ui,uj,uk,um,uo,uq,ah.bbw,aw,reduceIte,Nat.reduceEqDiff,aW,Nat.reduceAdd,t3,z,z2,ai (dK _ _)]
theorem Ww {a b:Int} (ha:Small a) (a0:a≠0) (b0:b≠0) (hv:Small (a*b)) (h:Heap):WC env 114 [.int .i64 a,.int .i64 b] h (fun o=>o=.ret ⟨.aF [.agg (tc (fD (a*b))),.int .i64 0],h,.none⟩):=by
 have z:(a==0)=false:=by simpa using a0
 have z2:(b==0)=false:=by simpa using b0
 have z3' :(b=0)=False:=eq_false b0
 have w1:=pP hv
 have q1:IntKind.wrap .i64 ((a*b).tdiv b)=a:=by rw[Int.mul_tdiv_cancel a b0];exact pP ha
 have z4:(a !=a)=false:=by simp
 have z5:(a*b< -576460752303423488)=False:=eq_false (by have:=hv.1;omega)
 have z6:(a*b>576460752303423487)=False:=eq_false (by have:=hv.2;omega)
 refine ad rfl rfl rfl rfl ?_
 simp only[Km,uh,ui,uj,uk,um,uo,uq,ah.bbw,aw,Nat.reduceEqDiff,aW,Nat.reduceAdd,t3,z,z2,z3',if_false,w1,q1,z4,z5,z6,ai (dK _ _)]
theorem Tx {a b:Int} (ha:Small a) (hb:Small b) (a0:a≠0) (b0:b≠0) (hv:¬Small (a*b)) (h:Heap):WC env 114 [.int .i64 a,.int .i64 b] h (fun o=>o=.ret ⟨.aF [.agg (tc bZ),.int .i64 262],h,.none⟩):=by
 have z:(a==0)=false:=by simpa using a0
 have z2:(b==0)=false:=by simpa using b0
 have z3' :(b=0)=False:=eq_false b0
 have wn:=rr ha hb b0 hv
 obtain⟨n,en⟩:∃n,n=IntKind.wrap .i64 (a*b):=⟨_,rfl⟩
 rw[←en]at wn
 obtain⟨q,eq⟩:∃q,q=IntKind.wrap .i64 (n.tdiv b):=⟨_,rfl⟩
 rw[←eq]at wn
 refine ad rfl rfl rfl rfl ?_
 by_cases c:q=a
 ·have z4:(q !=a)=false:=by simpa using c
  have wn:=wn c
  by_cases c1:n< -576460752303423488
  ·have z5:(n< -576460752303423488)=True:=eq_true c1
   simp only[Km,uh,ui,uj,uk,um,uo,uq,ah.bbw,aw,Nat.reduceEqDiff,aW,Nat.reduceAdd,t3,z,z2,z3',if_false,←en,←eq,z4,z5,bc]
  ·have z5:(n< -576460752303423488)=False:=eq_false c1
   have z6:(n>576460752303423487)=True:=eq_true (by
    by_cases c2:n>576460752303423487
    ·exact c2
    ·exact absurd ⟨by omega,by omega⟩ wn)
   simp only[Km,uh,ui,uj,uk,um,uo,uq,ah.bbw,aw,Nat.reduceEqDiff,aW,Nat.reduceAdd,t3,z,z2,z3',if_false,←en,←eq,z4,z5,z6,bc]
 ·have z4:(q !=a)=true:=by simpa using c
  simp only[Km,uh,ui,uj,uk,um,uo,uq,ah.bbw,aw,Nat.reduceEqDiff,aW,Nat.reduceAdd,t3,z,z2,z3',if_false,←en,←eq,z4,bc]
theorem Kn {a b:Tm} {n:Int} (ka:a.kind=1) (kb:b.kind=1) (hp:∀h,WC env 100 [.int .i64 a.int,.int .i64 b.int] h (fun o=>o=.ret ⟨.aF [.int .i64 n,.bool true],h,.none⟩)) (hv:Small n) (h:Heap):WC env 60 [.str [42],.agg (tc a),.agg (tc b)] h (fun o=>o=.ret ⟨.aF [.agg (tc (fD n)),.int .i64 0],h,.none⟩):=by
 have za:(a.kind !=1)=false:=by simpa using ka
 have zb:(b.kind !=1)=false:=by simpa using kb
 have z1:(n< -576460752303423488)=False:=eq_false (by have:=hv.1;omega)
 have z2:(n>576460752303423487)=False:=eq_false (by have:=hv.2;omega)
 refine ad rfl rfl rfl (by simp only[bdk,az]) ?_
 simp only[sq,fc,fe,fg,fh,fj,fk,fm,fq,ft,dn,dq,dr,dt,du,dv,dw,dx,dy,ah.bbw,aw,reduceIte,Nat.reduceEqDiff,aW,Nat.reduceAdd,t3,za,zb]
 refine aB ?_
 simp only[jy,aw,reduceIte,Nat.reduceEqDiff,k3,aW,Nat.reduceAdd,t3,aD,bQ,UInt8.reduceToNat,ai (hp _),z1,z2,dm,baj,ai (fX _ _)]
 rfl
theorem GV {a b:Tm} {n:Int} {ok:Bool} (ka:a.kind=1) (kb:b.kind=1) (hp:∀h,WC env 100 [.int .i64 a.int,.int .i64 b.int] h (fun o=>o=.ret ⟨.aF [.int .i64 n,.bool ok],h,.none⟩)) (hv:ok=true→¬Small n) (h:Heap):WC env 60 [.str [42],.agg (tc a),.agg (tc b)] h (fun o=>o=.ret ⟨.aF [.agg (tc bZ),.int .i64 262],h,.none⟩):=by
 have za:(a.kind !=1)=false:=by simpa using ka
 have zb:(b.kind !=1)=false:=by simpa using kb
 refine ad rfl rfl rfl (by simp only[bdk,az]) ?_
 simp only[sq,fc,fe,fg,fh,fj,fk,fm,fq,ft,dn,dq,dr,dt,du,dv,dw,dx,dy,ah.bbw,aw,reduceIte,Nat.reduceEqDiff,aW,Nat.reduceAdd,t3,za,zb]
 refine aB ?_
 cases ok with
 |false=>
  simp only[jy,aw,reduceIte,Nat.reduceEqDiff,k3,aW,Nat.reduceAdd,t3,aD,bQ,UInt8.reduceToNat,ai (hp _),dm,bak,bc]
  rfl
 |true=>
  have hv:=hv rfl
  by_cases c1:n< -576460752303423488
  ·have z1:(n< -576460752303423488)=True:=eq_true c1
   simp only[jy,aw,reduceIte,Nat.reduceEqDiff,k3,aW,Nat.reduceAdd,t3,aD,bQ,UInt8.reduceToNat,ai (hp _),z1,dm,baj,bc]
   rfl
  ·have z1:(n< -576460752303423488)=False:=eq_false c1
   have z2:(n>576460752303423487)=True:=eq_true (by
    by_cases c2:n>576460752303423487
    ·exact c2
    ·exact absurd ⟨by omega,by omega⟩ hv)
   simp only[jy,aw,reduceIte,Nat.reduceEqDiff,k3,aW,Nat.reduceAdd,t3,aD,bQ,UInt8.reduceToNat,ai (hp _),z1,z2,dm,baj,bc]
   rfl
theorem xv {v:AV} {a b r:Tm} {cd:Int} (kv:Sl v [a,b]) (ka:a.kind=1) (kb:b.kind=1) (hr:∀h,WC env 114 [.int .i64 a.int,.int .i64 b.int] h (fun o=>o=.ret ⟨.aF [.agg (tc r),.int .i64 cd],h,.none⟩)) (h:Heap):WC env 74 [.str [42],v] h (fun o=>o=.ret ⟨.aF [.agg (tc r),.int .i64 cd],h,.none⟩):=by
 obtain⟨A,B,x0,x1⟩:=yO kv
 have nl:∀h,aN false h v=some ⟨.int .i64 2,h,.none⟩:=kv.len
 have za:(a.kind !=1)=false:=by simpa using ka
 have zb:(b.kind !=1)=false:=by simpa using kb
 have u1:((2:Int)==1)=false:=rfl
 refine ad rfl rfl rfl (by simp only[bdk,kv.ae]) ?_
 simp only[Tj,qd,qe,ah.bbw,aw,aW]
 refine aC fun q hq=> ?_
 simp only[dR,fO,fP,fQ,fR,aw,reduceIte,Nat.reduceEqDiff,aW,nl,x0,gD,l02,za,w01]
 subst hq;refine aC fun q hq=> ?_
 simp only[dR,fO,fP,fQ,fR,aw,reduceIte,Nat.reduceEqDiff,aW,nl,x1,gD,l12,zb,w12]
 subst hq;refine aC fun q hq=> ?_
 simp only[dR,fO,fP,fQ,fR,tf,tg,th,ni,nj,nk,nq,ny,nz,nA,nB,nC,nD,nF,nG,nH,nI,nJ,aw,reduceIte,Nat.reduceEqDiff,aW,Nat.reduceAdd,t3,nl,x0,x1,gE,l22,u1,aD,bQ,UInt8.reduceToNat,ai (hr _)]
theorem ahE:∃p q r s,cx [42] 2=.aF [.agg [p,q,r,s],.bool true]:=⟨_,_,_,_,rfl⟩
theorem Wx {v:AV} {a b:Tm} (kv:Sl v [a,b]) (oka:a.Ok) (okb:b.Ok) (ta:dk a=true) (tb:dk b=true):fA [42] v:=by
 obtain⟨d1,d2,d3,d4,fp⟩:=ahE
 by_cases hk:a.kind=1∧b.kind=1
 ·obtain⟨ka,kb⟩:=hk
  have hx:=eJ ta ka
  have hy:=eJ tb kb
  have s0:Small 0:=⟨by decide,by decide⟩
  by_cases h0:a.int=0∨b.int=0
  ·exact bk (gb oka okb) kv (by simp) fp (fT ta tb) (ok_int s0) (ok_int s0) rfl (zO kv (Kn ka kb (GR h0) s0)) (zx kv.ae (xv kv ka kb (MY h0)))
  ·have a0:a.int≠0:=fun e=>h0 (.inl e)
   have b0:b.int≠0:=fun e=>h0 (.inr e)
   by_cases hv:Small (a.int*b.int)
   ·exact bk (gb oka okb) kv (by simp) fp (fT ta tb) (ok_int hv) (ok_int hv) rfl (zO kv (Kn ka kb (GW hx b0 hv) hv)) (zx kv.ae (xv kv ka kb (Ww hx a0 b0 hv)))
   ·obtain⟨ok,hp,hok⟩:=Kl a0 b0
    refine bH (gb oka okb) kv (by simp) fp (fT ta tb) (by decide) (zO kv (GV ka kb hp fun e=> ?_)) (zx kv.ae (xv kv ka kb (Tx hx hy a0 b0 hv)))
    rcases hok e with e2|e2
    ·rw[e2];exact hv
    ·exact rr hx hy b0 hv e2
 ·have hk:a.kind≠1∨b.kind≠1:=by
   by_cases e:a.kind=1
   ·exact .inr fun e2=>hk ⟨e,e2⟩
   ·exact .inl e
  exact bH (gb oka okb) kv (by simp) fp (fT ta tb) (by decide) (zO kv (jZ _ hk)) (zx kv.ae (lX kv hk))
end Go.Bf
namespace Go.Bf
open Go.AM
theorem Wy:∃p q r s,cx [110,111,100,101] 1=.aF [.agg [p,q,r,s],.bool true]:=⟨_,_,_,_,rfl⟩
section
variable {v : AV} {t : Tm} (kv : Sl v [t]) (okt : t.Ok) (tt : dk t = true)
include kv okt tt
theorem Ty:fA [110,111,100,101] v:=by
 obtain⟨d1,d2,d3,d4,fp⟩:=Wy
 have hok:(gZ t.text).Ok:=by
  rcases t with⟨k,i,s,c,nf,ns,af,ar⟩
  have:=okt.lens
  rw[gZ,Tm.Ok,gW];rw[Tm.Ok]at okt
  exact⟨⟨by decide,by decide⟩,⟨by decide,by decide⟩,⟨by decide,by decide⟩,by simp,okt.2.2.2.2.1,by decide,by decide,trivial⟩
 by_cases k4:t.kind=4
 ·exact bk (ts:=[t]) ⟨okt,trivial⟩ kv (by simp) fp (gf tt) hok hok rfl (Bu kv.ae (L2 kv k4)) (Bg kv.ae (Tg kv k4))
 ·by_cases k3' :t.kind=3
  ·exact bk (ts:=[t]) ⟨okt,trivial⟩ kv (by simp) fp (gf tt) hok hok rfl (Bu kv.ae (L3 kv k3')) (Bg kv.ae (Th kv k3'))
  ·exact bH (ts:=[t]) ⟨okt,trivial⟩ kv (by simp) fp (gf tt) (by decide) (Bu kv.ae (FG kv k4 k3')) (Bg kv.ae (JJ kv k4 k3'))
end
theorem yY {v:AV} {t u:Tm} (kv:Sl v [t,u]) (w:Wf t) (e:jl t u=none) (h:Heap):WC env 117 [.str [101,108,101,109,101,110,116],v] h (fun o=>o=.ret ⟨.aF [.agg (tc bZ),.int .i64 261],h,.none⟩):=by
 obtain⟨A,B,x0,x1⟩:=yO kv
 obtain⟨q,kq,wp⟩:=bB t w
 have nl:∀h,aN false h v=some ⟨.int .i64 2,h,.none⟩:=kv.len
 have nu:=(cW u).len
 have l1:((2:Int)==1)=false:=by decide
 refine ad rfl rfl rfl (by simp only[bdk,kv.ae]) ?_
 rw[jl]at e
 by_cases c1:t.kind=1
 ·have z1:(t.kind !=1)=false:=by simpa using c1
  by_cases c2:u.kind=5
  ·have z2:(u.kind !=5)=false:=by simpa using c2
   by_cases c3:t.int<1
   ·have z3:(t.int<1)=True:=eq_true c3
    simp only[a117,j3,ah.bbw,aw,reduceIte,Nat.reduceEqDiff,aD,bQ,UInt8.reduceToNat,x0,x1,iE,ai (wp _),nl,l1,z1,z2,z3,bc,aW,Nat.reduceAdd,t3]
   ·have z3:(t.int<1)=False:=eq_false c3
    have z4:(t.int>(u.args.length:Int))=True:=eq_true (by
     by_cases c4:t.int≤(u.args.length:Int)
     ·rw[if_pos ⟨c1,c2,by omega,c4⟩]at e;cases e
     ·omega)
    simp only[a117,j3,ah.bbw,aw,reduceIte,Nat.reduceEqDiff,aD,bQ,UInt8.reduceToNat,x0,x1,iE,ai (wp _),nl,nu,l1,z1,z2,z3,z4,bc,aW,Nat.reduceAdd,t3]
  ·have z2:(u.kind !=5)=true:=by simpa using c2
   simp only[a117,j3,ah.bbw,aw,reduceIte,Nat.reduceEqDiff,aD,bQ,UInt8.reduceToNat,x0,x1,iE,ai (wp _),nl,l1,z1,z2,bc,aW,Nat.reduceAdd,t3]
 ·have z1:(t.kind !=1)=true:=by simpa using c1
  simp only[a117,j3,ah.bbw,aw,reduceIte,Nat.reduceEqDiff,aD,bQ,UInt8.reduceToNat,x0,x1,iE,ai (wp _),nl,l1,z1,bc,aW,Nat.reduceAdd,t3]
theorem GX {v:AV} {a b:Tm} (kv:Sl v [a,b]) (oka:a.Ok) (okb:b.Ok) (ta:dk a=true) (tb:dk b=true):fA [101,108,101,109,101,110,116] v:=by
 obtain⟨d1,d2,d3,d4,fp⟩:=Vw
 have w:=dL ta
 obtain⟨hl,_⟩:=j1 (dL tb)
 cases e:jl a b with
 |some i=>
  have hi:=(pI e).2.2.1
  have okr:=(eP okb).get (bas hi)
  exact bk (gb oka okb) kv (by simp) fp (fT ta tb) okr okr rfl (yp kv.ae (GY kv (by omega) e hi)) (yh kv.ae (yq kv (F1 kv w e hi (by omega))))
 |none=>exact bH (gb oka okb) kv (by simp) fp (fT ta tb) (by decide) (yp kv.ae (yZ kv (by omega) e)) (yh kv.ae (yq kv (yY kv w e)))
end Go.Bf
namespace Go.Bf
open Go.AM
theorem E7 {t:Tm} (h:dk t=true) (k:t.kind=2):t.text.length≤50000:=by
 rcases t with⟨k',i,s,c,nf,ns,af,ar⟩
 have k:k' =2:=k
 subst k;rw[vO,hJ,cR,if_neg (by decide),if_neg (by decide)]at h
 cases ef:bw (.mk 2 i s c nf ns af ar)with
 |some x=>rw[ef]at h;cases h
 |none=>
  rw[bw]at ef
  split at ef
  ·cases ef
  ·rw[if_neg (by decide),if_pos rfl]at ef
   cases eq:dO s with
   |some x=>rw[eq]at ef;cases ef
   |none=>
    rw[dO]at eq
    split at eq
    ·cases eq
    ·rename_i hn
     show s.length≤50000
     omega
def Ey:List (List UInt8×Int):=dz.map fun b=>(b.name,b.ar)
theorem ab1 {name:List UInt8} {n:Int} {b:Ko} (e:dz.find? (l8 name n)=some b):(name,n)∈Ey:=by
 have h1:=List.mem_of_find?_eq_some e
 have h2:=List.find?_some e
 simp only[l8,bau,beq_iff_eq]at h2
 rw[Ey,List.mem_map];exact⟨b,h1,by rw[h2.1,h2.2]⟩
theorem Wz {name:List UInt8} {n:Int} (h:(name,n)∈Ey):n=1∨n=2∨n=3:=by
 have:∀x,x∈Ey→x.2=1∨x.2=2∨x.2=3:=by decide
 exact this _ h
def names (n:Int):List (List UInt8):=(Ey.filter fun x=>x.2==n).map fun x=>x.1
theorem Tz {name:List UInt8} {n:Int} (h:(name,n)∈Ey):name∈names n:=by
 rw[names,List.mem_map];exact⟨(name,n),List.mem_filter.2 ⟨h,by simp⟩,rfl⟩
theorem ab2:names 1=[[43],[45],[110,111,116],[97,98,115],[116,117,112,108,101,95,115,105,122,101],[108,101,110,103,116,104],[104,100],[116,108],[105,115,95,97,116,111,109],[105,115,95,98,111,111,108,101,97,110],[105,115,95,105,110,116,101,103,101,114],[105,115,95,108,105,115,116],[105,115,95,112,105,100],[105,115,95,114,101,102,101,114,101,110,99,101],[105,115,95,116,117,112,108,101],[110,111,100,101],[108,105,115,116,95,116,111,95,116,117,112,108,101],[116,117,112,108,101,95,116,111,95,108,105,115,116],[105,110,116,101,103,101,114,95,116,111,95,108,105,115,116],[108,105,115,116,95,116,111,95,105,110,116,101,103,101,114],[97,116,111,109,95,116,111,95,108,105,115,116],[108,105,115,116,95,116,111,95,97,116,111,109]]:=by decide
theorem ab3:names 2=[[43],[45],[42],[100,105,118],[114,101,109],[97,110,100],[111,114],[120,111,114],[43,43],[45,45],[61,61],[47,61],[61,60],[60],[62,61],[62],[61,58,61],[61,47,61],[101,108,101,109,101,110,116],[109,97,120],[109,105,110]]:=by decide
theorem ab4:names 3=[[115,101,116,101,108,101,109,101,110,116]]:=by decide
theorem alx {v:AV} {t:Tm} (kv:Sl v [t]) (okt:t.Ok) (tt:dk t=true) {name:List UInt8} (h:name∈names 1):fA name v:=by
 rw[ab2]at h
 simp only[bbi,List.not_mem_nil,or_false]at h
 rcases h with rfl|rfl|rfl|rfl|rfl|rfl|rfl|rfl|rfl|rfl|rfl|rfl|rfl|rfl|rfl|rfl|rfl|rfl|rfl|rfl|rfl|rfl
 ·exact V1 kv okt tt
 ·exact V2 kv okt tt
 ·exact VH kv okt tt
 ·exact VM kv okt tt
 ·exact yS kv okt tt
 ·exact JS kv okt tt
 ·exact abZ kv okt tt
 ·exact ab0 kv okt tt
 ·exact FP kv okt tt
 ·exact yR kv okt tt
 ·exact yQ kv okt tt
 ·exact FQ kv okt tt
 ·exact JR kv okt tt
 ·exact vP kv okt tt
 ·exact C6 kv okt tt
 ·exact Ty kv okt tt
 ·exact VI kv okt tt
 ·exact VK kv okt tt
 ·exact Wq kv okt tt
 ·exact Ws kv okt tt
 ·exact Wr kv okt tt (E7 tt)
 ·exact Wt kv okt tt
theorem aly {v:AV} {a b:Tm} (kv:Sl v [a,b]) (oka:a.Ok) (okb:b.Ok) (ta:dk a=true) (tb:dk b=true) {name:List UInt8} (h:name∈names 2):fA name v:=by
 rw[ab3]at h
 simp only[bbi,List.not_mem_nil,or_false]at h
 rcases h with rfl|rfl|rfl|rfl|rfl|rfl|rfl|rfl|rfl|rfl|rfl|rfl|rfl|rfl|rfl|rfl|rfl|rfl|rfl|rfl|rfl
 ·exact VD kv oka okb ta tb
 ·exact VE kv oka okb ta tb
 ·exact Wx kv oka okb ta tb
 ·exact VF kv oka okb ta tb
 ·exact VG kv oka okb ta tb
 ·exact VB kv oka okb ta tb
 ·exact abS kv oka okb ta tb
 ·exact VC kv oka okb ta tb
 ·exact abT kv oka okb ta tb
 ·exact abV kv oka okb ta tb
 ·exact abI kv oka okb ta tb
 ·exact abK kv oka okb ta tb
 ·exact abM kv oka okb ta tb
 ·exact abN kv oka okb ta tb
 ·exact abO kv oka okb ta tb
 ·exact abP kv oka okb ta tb
 ·exact Vx kv oka okb ta tb
 ·exact Vy kv oka okb ta tb
 ·exact GX kv oka okb ta tb
 ·exact Vz kv oka okb ta tb
 ·exact VA kv oka okb ta tb
theorem alz {v:AV} {a b c:Tm} (kv:Sl v [a,b,c]) (oka:a.Ok) (okb:b.Ok) (okc:c.Ok) (ta:dk a=true) (tb:dk b=true) (tc:dk c=true) {name:List UInt8} (h:name∈names 3):fA name v:=by
 rw[ab4]at h
 simp only[bbi,List.not_mem_nil,or_false]at h
 rcases h with rfl
 ·exact yW kv oka okb okc ta tb tc
theorem Ez:∀(ts:List Tm),(∀t,t∈ts→dk t=true)∨∃(j:Nat) (hj:j<ts.length) (x:Int×Int×CQ),hJ ts[j]=some x∧∀i (hi:i<j),dk (ts[i]'(by omega))=true
 |[]=>.inl fun t m=>by simp at m
 |t::ts=>by
  cases e:hJ t with
  |some x=>exact .inr ⟨0,by simp,x,e,fun i hi=>absurd hi (by omega)⟩
  |none=>
   have tt:=(vO t).2 e
   rcases Ez ts with h|⟨j,hj,x,hx,r0⟩
   ·left
    intro u m
    rcases bbi.1 m with rfl|m
    ·exact tt
    ·exact h u m
   ·refine .inr ⟨j+1,by simp only[bav];omega,x,hx,fun i hi=> ?_⟩
    cases i with
    |zero=>exact tt
    |succ i=>exact r0 i (by omega)
theorem WA {name:List UInt8} {ts:List Tm} {v:AV} (hok:gW ts) (kv:Sl v ts):fA name v:=by
 have hz:∀o:Option Ko,(ur o).length=4:=fun o=>by cases o<;>rfl
 cases e:dz.find? (l8 name ts.length)with
 |none=>exact LM kv (z:=ur none) (by rw[cx,e];rfl) rfl
 |some b=>
  have hp:=ab1 e
  have hf:cx name ts.length=.aF [.agg [.str b.name,.int .i64 b.ar,.int .i64 1,.bool b.gd],.bool true]:=by rw[cx,e];rfl
  have h3x:=Wz hp
  have hlen:ts.length<1000000:=by omega
  rcases Ez ts with r0|⟨j,hj,x,hx,r0⟩
  ·have hn:=Tz hp
   rcases h3x with h|h|h
   ·have hl:ts.length=1:=by omega
    obtain⟨t,rfl⟩:=List.length_eq_one_iff.1 hl
    exact alx kv hok.1 (r0 t (by simp)) hn
   ·have hl:ts.length=2:=by omega
    obtain⟨a,b',rfl⟩:∃a b',ts=[a,b']:=by
     match ts,hl with
     |[a,b'],_=>exact⟨a,b',rfl⟩
    exact aly kv hok.1 hok.2.1 (r0 a (by simp)) (r0 b' (by simp)) hn
   ·have hl:ts.length=3:=by omega
    obtain⟨a,b',c,rfl⟩:∃a b' c,ts=[a,b',c]:=by
     match ts,hl with
     |[a,b',c],_=>exact⟨a,b',c,rfl⟩
    exact alz kv hok.1 hok.2.1 hok.2.2.1 (r0 a (by simp)) (r0 b' (by simp)) (r0 c (by simp)) hn
  ·left
   have hb:=U6 j x
   obtain⟨g,wr⟩:=S8 hok kv hlen hf hj r0 hx
   exact⟨nh j x,g,hb.2,hb.1,fun h=>Vf hok kv hlen hj r0 hx hf h,wr⟩
theorem Db {name:List UInt8} {ts:List Tm} {v:AV} (hok:gW ts) (kv:Sl v ts):WC env 9 [.str name,v] .empty (fun o=>∃h',o=.ret ⟨.bool true,h',.write⟩):=Tc (WA hok kv)
end Go.Bf
