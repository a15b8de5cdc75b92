/- For BifCalls. -/
import Derived.Test.YtaielgjmhbjfhaaGreatDoorBfLaw2
set_option linter.unusedVariables false
set_option maxRecDepth 20000
namespace Go.Bf
open Go.AM
def aqk:Tm→AV|.mk _ _ _ _ nf ns _ _=>aM nf ns.length (bN ns)
def j2:Tm→AV|.mk _ _ _ _ _ _ af ar=>aM af ar.length (bq ar)
def Tm.int:Tm→Int|.mk _ i _ _ _ _ _ _=>i
def Tm.cre:Tm→Int|.mk _ _ _ c _ _ _ _=>c
theorem af8 {t:Tm}:bp true 6 (tc t)=some (.agg (tc t)):=by cases t;rfl
theorem af9 {t:Tm}:bp false 1 (tc t)=some (.int .i64 t.kind):=by cases t;rfl
theorem af_ {t:Tm}:bp false 1 ((tc t).drop 1)=some (.int .i64 t.int):=by cases t;rfl
theorem aga {t:Tm}:bp false 1 ((tc t).drop 2)=some (.str t.text):=by cases t;rfl
theorem agb {t:Tm}:bp false 1 ((tc t).drop 3)=some (.int .u32 t.cre):=by cases t;rfl
theorem agc {t:Tm}:bp false 1 ((tc t).drop 4)=some (aqk t):=by cases t;rfl
theorem agd {t:Tm}:bp false 1 ((tc t).drop 5)=some (j2 t):=by cases t;rfl
theorem cW (t:Tm):Sl (j2 t) t.args:=by
 cases t;exact Ew _ _
theorem CN {t:Tm}:(j2 t).row=some [j2 t]:=by
 cases t with
 |mk k i s c nf ns af ar=>cases af with
  |none=>cases ar<;>rfl
  |some b=>rfl
theorem Sv {a b:Tm}:bY [.int .i64 0,.int .i64 0,.str [],.int .u32 0,.ax,.ax,.int .i64 0,.int .i64 0,.str [],.int .u32 0,.ax,.ax] [(0,6,.agg (tc a)),(6,6,.agg (tc b))]=some (tc a++tc b):=by
 cases a;cases b;rfl
theorem tR {a:Tm}:bY [.int .i64 0,.int .i64 0,.str [],.int .u32 0,.ax,.ax] [(0,6,.agg (tc a))]=some (tc a):=by
 cases a;rfl
theorem aaA:bY [.int .i64 0,.int .i64 0,.str [],.int .u32 0,.ax,.ax] []=some aK:=id rfl
theorem aaB {a b:Tm}:(tc a++tc b).length=12:=by cases a;cases b;rfl
theorem eQ:aK.length=6:=id rfl
theorem age:bp true 6 aK=some (.agg aK):=id rfl
theorem k9:AV.aj aK=true:=id rfl
theorem EN {t:Tm}:AV.aj (tc t)=true:=az t
theorem aql (a b:Tm):bq [a,b]=tc a++tc b:=by simp[bq]
theorem V0 (a b:Tm):Sl (.fs true 2 (tc a++tc b)) [a,b]:=by
 rw[←aql];exact .fs true [a,b]
theorem t3:type_of% (And.intro (@af8) (And.intro (@af9) (And.intro (@af_) (And.intro (@aga) (And.intro (@agb) (And.intro (@agc) (And.intro (@agd) (And.intro (@CN) (And.intro (@Sv) (And.intro (@tR) (And.intro (@aaA) (And.intro (@aaB) (And.intro (@eQ) (And.intro (@age) (And.intro (@k9) (And.intro (@EN) (@aR))))))))))))))))):=And.intro (@af8) (And.intro (@af9) (And.intro (@af_) (And.intro (@aga) (And.intro (@agb) (And.intro (@agc) (And.intro (@agd) (And.intro (@CN) (And.intro (@Sv) (And.intro (@tR) (And.intro (@aaA) (And.intro (@aaB) (And.intro (@eQ) (And.intro (@age) (And.intro (@k9) (And.intro (@EN) (@aR))))))))))))))))
theorem dJ (a b:Tm) (oka:a.Ok) (okb:b.Ok) (ta:dk a=true) (tb:dk b=true) (h:Heap):WC env 64 [.agg (tc a),.agg (tc b)] h (fun o=>o=.ret ⟨.int .i64 (bV a b),h,.none⟩):=by
 refine ad rfl rfl rfl (by simp only[h3,t3,jae]) ?_
 simp only[a64,afw,afx,afy,ah.bbw,aw,reduceIte,Nat.reduceEqDiff,h3,_root_.eq_self,t3,ai (eT a oka _),ai (eT b okb _),pq,ta,tb,baj,ai (KS a oka (dL ta) b okb (dL tb) _),jad]
theorem dG (a b:Tm) (oka:a.Ok) (okb:b.Ok) (ta:dk a=true) (tb:dk b=true) (h:Heap):WC env 20 [.agg (tc a),.agg (tc b)] h (fun o=>o=.ret ⟨.int .i64 (bV a b),h,.none⟩):=by
 have ra:dP (hJ a)=.ax:=by
  rw[dk]at ta;split at ta
  ·rename_i e;rw[e];rfl
  ·cases ta
 have rb:dP (hJ b)=.ax:=by
  rw[dk]at tb;split at tb
  ·rename_i e;rw[e];rfl
  ·cases tb
 refine ad rfl rfl rfl (by simp only[h3,t3,jae]) ?_
 simp only[a20,ae7,ae8,ae9,ah.bbw,aw,reduceIte,Nat.reduceEqDiff,h3,_root_.eq_self,t3,ai (jk a oka _),ai (jk b okb _),ra,rb,g_,baj,ai (TT a oka (dL ta) b okb (dL tb) _),jad]
def dN (b:Bool):Tm:=gZ (if b=true then[116,114,117,101]else[102,97,108,115,101])
theorem cX (b:Bool) (h:Heap):WC env 62 [.bool b] h (fun o=>o=.ret ⟨.agg (tc (dN b)),h,.none⟩):=by
 cases b<;>exact bu (n:=30) (by kernel_rfl)
theorem bM (b:Bool) (h:Heap):WC env 77 [.bool b] h (fun o=>o=.ret ⟨.agg (tc (dN b)),h,.none⟩):=by
 cases b<;>exact bu (n:=30) (by kernel_rfl)
theorem adt (c:Int) (h:Heap):WC env 63 [.str [61,61],.int .i64 c] h (fun o=>o=.ret ⟨.bool (c==0),h,.none⟩):=bu (n:=30) (by kernel_rfl)
theorem adu (c:Int) (h:Heap):WC env 63 [.str [61,58,61],.int .i64 c] h (fun o=>o=.ret ⟨.bool (c==0),h,.none⟩):=bu (n:=30) (by kernel_rfl)
theorem adv (c:Int) (h:Heap):WC env 63 [.str [47,61],.int .i64 c] h (fun o=>o=.ret ⟨.bool (c !=0),h,.none⟩):=bu (n:=30) (by kernel_rfl)
theorem adw (c:Int) (h:Heap):WC env 63 [.str [61,47,61],.int .i64 c] h (fun o=>o=.ret ⟨.bool (c !=0),h,.none⟩):=bu (n:=30) (by kernel_rfl)
theorem ajD (c:Int) (h:Heap):WC env 63 [.str [61,60],.int .i64 c] h (fun o=>o=.ret ⟨.bool (decide (c≤0)),h,.none⟩):=bu (n:=30) (by kernel_rfl)
theorem ajE (c:Int) (h:Heap):WC env 63 [.str [60],.int .i64 c] h (fun o=>o=.ret ⟨.bool (decide (c<0)),h,.none⟩):=bu (n:=30) (by kernel_rfl)
theorem ajF (c:Int) (h:Heap):WC env 63 [.str [62,61],.int .i64 c] h (fun o=>o=.ret ⟨.bool (decide (c≥0)),h,.none⟩):=bu (n:=30) (by kernel_rfl)
theorem ajG (c:Int) (h:Heap):WC env 63 [.str [62],.int .i64 c] h (fun o=>o=.ret ⟨.bool (decide (c>0)),h,.none⟩):=bu (n:=30) (by kernel_rfl)
theorem ql {v:AV} {a b:Tm} (k:Sl v [a,b]):∃A B,aZ 6 v (.int .i64 0)=some (.fp A)∧aZ 6 v (.int .i64 1)=some (.fp B)∧bp true 6 A=some (.agg (tc a))∧bp true 6 B=some (.agg (tc b))∧∀h,aN false h v=some ⟨.int .i64 2,h,.none⟩:=by
 cases k with
 |fs b' l=>exact⟨tc a++bq [b],tc b++bq [],by cases a;rfl,by cases a;rfl,by cases a;rfl,by cases b;rfl,fun h=>rfl⟩
theorem zA {v:AV} {a:Tm} (k:Sl v [a]):∃A,aZ 6 v (.int .i64 0)=some (.fp A)∧bp true 6 A=some (.agg (tc a))∧∀h,aN false h v=some ⟨.int .i64 1,h,.none⟩:=by
 cases k with
 |fs b' l=>exact⟨tc a++bq [],by cases a;rfl,by cases a;rfl,fun h=>rfl⟩
end Go.Bf
namespace Go.Bf
open Go.AM
def EO:List Tm→Bool
 |[]=>false
 |[t]=>t.kind==6
 |_::t::l=>EO (t::l)
def bW (t:Tm):Option (List Tm):=if t.kind=6 then some []else if t.kind=7∧EO t.args=true then some t.args.dropLast else none
theorem oX:∀(l:List Tm) (h:l.length-1<l.length),EO l=(l[l.length-1].kind==6)
 |[],h=>by simp at h
 |[t],h=>rfl
 |t::u::l,h=>by
  rw[EO,oX (u::l) (by simp)]
  simp
theorem qV:∀(l:List Tm) (i:Nat),(bq l).take (i*6)=bq (l.take i)
 |[],i=>by simp[bq]
 |t::l,0=>by simp[bq]
 |t::l,i+1=>by
  have e:(i+1)*6=(tc t).length+i*6:=by rw[aR];omega
  rw[bq,e,List.take_append,bar (by omega),Nat.add_sub_cancel_left,qV l i,List.take_succ_cons,bq]
theorem xo:∀(l:List Tm) (i:Nat),(bq l).drop (i*6)=bq (l.drop i)
 |[],i=>by simp[bq]
 |t::l,0=>by simp[bq]
 |t::l,i+1=>by
  have e:(i+1)*6=(tc t).length+i*6:=by rw[aR];omega
  rw[bq,e,List.drop_append,bao (by omega),Nat.add_sub_cancel_left,xo l i,List.drop_succ_cons,bbe]
theorem oD {n i:Nat} {k:IntKind} (h:i≤n):lD n (.int k i)=some i:=by
 show(if 0≤(i:Int)∧(i:Int)≤n then some ((i:Int).toNat)else none)=some i
 rw[if_pos ⟨by omega,by omega⟩];rfl
theorem Sl.init {v:AV} {l:List Tm} (k:Sl v l) (hl:l≠[]):∃v',cU 6 v none (some (.int .i64 ((l.length-1:Nat):Int))) (some (.int .i64 ((l.length-1:Nat):Int)))=some v' ∧Sl v' l.dropLast:=by
 cases k with
 |nil=>exact absurd rfl hl
 |fs b l=>
  have hb:bounds l.length l.length none (some (.int .i64 ((l.length-1:Nat):Int))) (some (.int .i64 ((l.length-1:Nat):Int)))=some (0,l.length-1,l.length-1):=by
   simp only[bounds,oD (Nat.sub_le _ _),oD (bab _),jab]
  refine⟨.fs true (l.length-1) (bq l.dropLast),?_,?_⟩
  ·simp only[cU,bl,hb,baq,Nat.sub_zero,bbc,beq_self_eq_true,qV,List.dropLast_eq_take,jad]
  ·have:=Sl.fs true l.dropLast
   rwa [List.length_dropLast]at this
 
structure Src (h:Heap) (v:AV) (l:List Tm):Prop where
 len:cr v=some l.length
 cells:∃c,aT h 6 l.length v=some (bq l,c)
 nil:∃b,uS .slice v .ax=some b∧(b=true→l=[])
theorem Sl.src {v:AV} {l:List Tm} (k:Sl v l) (h:Heap):Src h v l:=by
 cases k with
 |nil=>exact⟨rfl,⟨.none,rfl⟩,⟨true,rfl,fun _=>rfl⟩⟩
 |fs b l=>
  refine⟨rfl,⟨.none,?_⟩,⟨false,rfl,fun e=>by cases e⟩⟩
  simp only[aT,bl]
  rw[if_pos ⟨bab _,trivial⟩,bar (by rw[bl];exact bab _)]
theorem T2 {v:AV} {n:Nat} (e:cr v=some n) (hs:∀s,v≠ .str s) (h:Heap):aN false h v=some ⟨.int .i64 n,h,.none⟩:=by
 cases v<;>simp only[cr,bae,reduceCtorEq]at e<;>first|(subst e;rfl)|exact absurd rfl (hs _)
theorem Src.mo {h:Heap} {v:AV} {l:List Tm} (k:Src h v l) (h2:Heap):aN false h2 v=some ⟨.int .i64 l.length,h2,.none⟩:=by
 refine T2 k.len (fun s e=> ?_) h2
 subst e;obtain⟨b,e,_⟩:=k.nil
 cases e
theorem aaC {h:Heap} {v:AV} {l:List Tm} (k:Src h v l) (hn:l.length≤100000000) (ho:an h):∃v' h',WC env 104 [v] h (fun o=>o=.ret ⟨v',h',.write⟩)∧an h' ∧h.le h' ∧Acc h' 6 v' (bq l)∧cr v' =some l.length∧∀id,v'.own=some id→h.next≤id:=by
 obtain⟨b,eb,hb⟩:=k.nil
 cases b with
 |true=>
  have e3:=hb rfl
  subst e3;refine⟨.ax,h,?_,ho,Heap.le_refl h,.ax,rfl,fun id e=>by cases e⟩
  refine ct rfl rfl (.inl rfl) ?_
  simp only[KN,uF,uG,O1,ah.bbw,aw,reduceIte,Nat.reduceEqDiff,eb,h3,if_true,_root_.eq_self]
 |false=>
  obtain⟨c0,hc⟩:=k.cells
  obtain⟨v',h',c',w1,k1,l1,ho',l3,l4⟩:=Acc.append (bt:=88) ho (by omega:0<6) (Acc.full (h:=h) (sz:=6) 0 [] rfl) (m:=0) rfl k.len hc (bl l) (by omega) (by omega)
  rw[bbe]at k1
  rw[baf]at l4
  refine⟨v',h',?_,ho',⟨l1.1,fun id gen cs e=>l1.2 id gen cs (by intro e2;cases e2) e⟩,k1,l4,fun id e=>(l3 id e).elim (fun e2=>by cases e2) (fun e2=>e2)⟩
  refine ct rfl rfl (.inl rfl) ?_
  have y1:bY [] []=some []:=rfl
  simp only[KN,uF,uG,Cv,ah.bbw,aw,reduceIte,Nat.reduceEqDiff,eb,y1,List.length_nil,bbc,w1,iC c',h3,if_true,_root_.eq_self]
def iL (n:Nat):List AV:=(List.replicate n aK).flatten
theorem uO (n:Nat):(iL n).length=n*6:=by simp[iL,aK]
theorem T3 {n:Nat} (hn:0<n) (hn2:n≤100000000) (h:Heap):WC env 143 [.ax,.int .i64 n] h (fun o=>o=.ret ⟨.sl h.next 0 0 6 0 none,h.new (iL n),.write⟩):=by
 have z0:((n:Int)<0)=False:=eq_false (by omega)
 have z1:IntKind.wrap .i64 ((0:Int)-0)=0:=by decide
 have z2:IntKind.wrap .i64 ((n:Int)-0)=(n:Int):=aX (by omega) (by omega)
 have z3:((n:Int)>0)=True:=eq_true (by omega)
 have c0:aa5 .ax=some (.int .i64 0):=rfl
 have l0:∀h,aN false h .ax=some ⟨.int .i64 0,h,.none⟩:=fun h=>rfl
 have s0:cU 6 .ax none (some (.int .i64 0)) none=some .ax:=rfl
 have w1:jr h 6 88 [.int .i64 0,.int .i64 0,.str [],.int .u32 0,.ax,.ax] .ax (.int .i64 n)=some ⟨.sl h.next 0 0 6 n none,h.new (iL n),.write⟩:=by
  simp only[jr]
  rw[if_pos ⟨by omega,by omega,by omega,by omega,rfl⟩];rfl
 have s1:cU 6 (.sl h.next 0 0 6 n none) none (some (.int .i64 0)) none=some (.sl h.next 0 0 6 0 none):=by
  have hb:bounds n n none (some (.int .i64 0)) none=some (0,0,n):=by
   have:=oD (n:=n) (i:=0) (k:=.i64) (Nat.zero_le _)
   have this:lD n (.int .i64 0)=some 0:=this
   simp only[bounds,this,jab]
  simp only[cU,hb,Option.map_none,bbc,Nat.sub_zero,Nat.add_zero,jak]
 refine ct rfl rfl (.inl rfl) ?_
 simp only[a143,ZX,ZY,ZZ,Z0,Z1,Z2,ah.bbw,aw,reduceIte,Nat.reduceEqDiff,z0,z1,z2,z3,c0,l0,s0,w1,s1,h3,if_true,_root_.eq_self]
theorem xK {h:Heap} {id n m:Nat} {cs new:List AV} {y:AV} {c:dB} (hat:h.at_ id 0=some cs) (hy:cr y=some m) (hm:m≠0) (hc:aT h 6 m y=some (new,c)) (hr:(n+m)*6≤cs.length) (hb:n+m≤100000000):
  b9 h 6 88 (.sl id 0 0 6 n none) y=some ⟨.sl id 0 0 6 (n+m) none,h.cD id 0 (bU cs (n*6) new),.write⟩:=by
 unfold b9
 rw[hy,bag];simp only[cr,bag]
 rw[if_pos ⟨by omega,by omega,by omega⟩,if_neg hm,hc];simp only[bag,if_true,hat,baf]
 rw[if_pos hr]
theorem KZ {h:Heap} {v1 v2:AV} {l m:List Tm} (k1:Sl v1 l) (k2:Sl v2 m) (h1:l≠[]) (h2:m≠[]) (hn:l.length+m.length≤100000) (ho:an h):
  ∃h',WC env 131 [.fs true 2 [v1,v2]] h (fun o=>o=.ret ⟨.sl h.next 0 0 6 (l.length+m.length) none,h',.write⟩)∧an h' ∧h.le h' ∧h'.at_ h.next 0=some (bq (l++m)):=by
 have ll:l.length≠0:=fun e=>h1 (bay.1 e)
 have ml:m.length≠0:=fun e=>h2 (bay.1 e)
 have nl:∀h,aN false h (.fs true 2 [v1,v2])=some ⟨.int .i64 2,h,.none⟩:=fun h=>rfl
 have i0:aZ 1 (.fs true 2 [v1,v2]) (.int .i64 0)=some (.fp [v1,v2]):=rfl
 have i1:aZ 1 (.fs true 2 [v1,v2]) (.int .i64 1)=some (.fp [v2]):=rfl
 have n1:=k1.len;have n2:=k2.len;have w1:IntKind.wrap .i64 ((0:Int)+l.length)=(l.length:Int):=aX (by omega) (by omega)
 have w2:IntKind.wrap .i64 ((l.length:Int)+m.length)=((l.length+m.length:Nat):Int):=aX (by omega) (by omega)
 have z1:((l.length:Int)<0)=False:=eq_false (by omega)
 have z2:(((l.length+m.length:Nat):Int)<0)=False:=eq_false (by omega)
 have e1:IntKind.wrap .i64 ((0:Int)+1)=1:=by decide
 have e2:IntKind.wrap .i64 ((1:Int)+1)=2:=by decide
 have t0:((0:Int)<2)=True:=eq_true (by decide)
 have t1:((1:Int)<2)=True:=eq_true (by decide)
 have t2:((2:Int)<2)=False:=eq_false (by decide)
 have wg:=T3 (n:=l.length+m.length) (by omega) (by omega)
 obtain⟨c1,s1⟩:=(k1.src (h.new (iL (l.length+m.length)))).cells
 have a1:=xK (n:=0) (aY (h:=h) (iL (l.length+m.length))) (k1.src h).len ll s1 (by rw[uO];omega) (by omega)
 rw[baf,bbc]at a1
 have q1:bU (iL (l.length+m.length)) 0 (bq l)=bq l++(iL (l.length+m.length)).drop (l.length*6):=by
  simp only[bU,List.take_zero,bbe,baf,bl]
 rw[q1]at a1
 obtain⟨c2,s2⟩:=(k2.src ((h.new (iL (l.length+m.length))).cD h.next 0 (bq l++(iL (l.length+m.length)).drop (l.length*6)))).cells
 have a2:=xK (n:=l.length) (bD (h:=h.new (iL (l.length+m.length))) (id:=h.next) (gen:=0) (cs:=bq l++(iL (l.length+m.length)).drop (l.length*6))) (k2.src h).len ml s2 (by rw[ban,bbl,bl,uO];omega) (by omega)
 have q2:bU (bq l++(iL (l.length+m.length)).drop (l.length*6)) (l.length*6) (bq m)=bq (l++m):=by
  have d:(bq l++(iL (l.length+m.length)).drop (l.length*6)).drop (l.length*6+m.length*6)=[]:=bao (by rw[ban,bbl,bl,uO];omega)
  simp only[bU,bl,d,bbj]
  rw[List.take_append_of_le_length (by rw[bl];exact bab _),bar (by rw[bl];exact bab _),fG]
 rw[q2]at a2
 refine⟨((h.new (iL (l.length+m.length))).cD h.next 0 (bq l++(iL (l.length+m.length)).drop (l.length*6))).cD h.next 0 (bq (l++m)),?_,((ho.new _).cD (cJ.1 (aY _)) _ _).cD (cJ.1 bD) _ _,⟨by simp only[AL,cY];omega,fun id gen cs e=> ?_⟩,bD⟩
 ·refine ct rfl rfl (.inl rfl) ?_
  simp only[a131,ZP,ZQ,ZR,ah.bbw,aw,reduceIte,Nat.reduceEqDiff,nl]
  refine aC fun q hq=> ?_
  simp only[zX,HZ,Po,Pp,Pq,Pr,aw,reduceIte,Nat.reduceEqDiff,h3,if_true,_root_.eq_self,t0,i0,n1,w1,z1,e1]
  subst hq;refine aC fun q hq=> ?_
  simp only[zX,HZ,Po,Pp,Pq,Pr,aw,reduceIte,Nat.reduceEqDiff,h3,if_true,_root_.eq_self,t1,i1,n2,w2,z2,e2]
  subst hq;refine aC fun q hq=> ?_
  simp only[zX,HZ,R_,Sa,aw,reduceIte,Nat.reduceEqDiff,t2,ai (wg _),nl]
  refine aC fun q hq=> ?_
  simp only[wK,zY,H0,H2,H3,aw,reduceIte,Nat.reduceEqDiff,h3,if_true,_root_.eq_self,t0,i0,e1,a1]
  subst hq;refine aC fun q hq=> ?_
  simp only[wK,zY,H0,H2,H3,aw,reduceIte,Nat.reduceEqDiff,h3,if_true,_root_.eq_self,t1,i1,e2,a2]
  subst hq;refine aC fun q hq=> ?_
  simp only[wK,zY,Sb,aw,reduceIte,Nat.reduceEqDiff,h3,if_true,_root_.eq_self,t2]
 ·have hlt:=ho.lt e
  rw[cw (by omega),cw (by omega)]
  exact(cz ho _).2 _ _ _ e
end Go.Bf
namespace Go.Bf
open Go.AM
theorem _root_.Go.AM.Heap.T4 {a b c:Heap} (x:a.le b) (y:b.le c):a.le c:=⟨bal x.1 y.1,fun id gen cs e=>y.2 _ _ _ (x.2 _ _ _ e)⟩
def cI:Tm:=.mk 6 0 [] 0 none [] none []
theorem xq (h:Heap):WC env 108 [] h (fun o=>o=.ret ⟨.agg (tc cI),h,.none⟩):=bu (n:=30) (by kernel_rfl)
theorem qW {v:AV} {k:Int} (hv:v.row=some [v]):bY [.int .i64 0,.int .i64 0,.str [],.int .u32 0,.ax,.ax] [(0,1,.int .i64 k),(5,1,v)]=some [.int .i64 k,.int .i64 0,.str [],.int .u32 0,.ax,v]:=by
 show((some [AV.int .i64 k]).bind fun vs=>if vs.length=1∧0+1≤6 then bY (bU _ 0 vs) [(5,1,v)]else none)=_
 simp only[bag,List.length_singleton]
 rw[if_pos ⟨trivial,by decide⟩];show(v.row.bind fun vs=>if vs.length=1∧5+1≤_ then bY (bU _ 5 vs) []else none)=_
 rw[hv];rfl
def b_ (l:List Tm) (tail:Tm) (f:Option Bool):Tm:=if l=[]then tail else .mk 7 0 [] 0 none [] f (l++if tail.kind=7 then tail.args else[tail])
theorem xp {h0:Heap} {v:AV} {l:List Tm} {tail:Tm} (ho:an h0) (hk:∀h,h0.le h→Src h v l) (hn:l.length≤100000) (hc:l=[]∨tail.kind≠7) {Q:aU→St→Prop}
  (hQ:∀σ' h' i4 cells,an h' →h0.le h' →h'.at_ i4 0=some cells→σ'.get 4=.ptr i4 0 0→(l=[]→cells=tc tail)→(l≠[]→∃v',cells=[.int .i64 7,.int .i64 0,.str [],.int .u32 0,.ax,v']∧Acc h' 6 v' (bq (l++[tail]))∧cr v' =some (l.length+1)∧(∀id,v'.own=some id→h0.next≤id∧id≠i4))→Q .ret ⟨σ',h'⟩):
  jK env yU.body ⟨ah.bbw 0 [v,.agg (tc tail)] .empty,h0⟩ Q:=by
 obtain⟨h1,eh1⟩:∃h1,h1=h0.new (tc tail):=⟨_,rfl⟩
 have ho1:an h1:=by rw[eh1];exact ho.new _
 have b1:h1.at_ h0.next 0=some (tc tail):=by rw[eh1];exact aY _
 obtain⟨h2,eh2⟩:∃h2,h2=h1.new [.int .i64 0,.int .i64 0,.str [],.int .u32 0,.ax,.ax]:=⟨_,rfl⟩
 have ho2:an h2:=by rw[eh2];exact ho1.new _
 have b2:h2.at_ h0.next 0=some (tc tail):=by rw[eh2];exact(cz ho1 _).2 _ _ _ b1
 have z2:h2.at_ h1.next 0=some aK:=by rw[eh2];exact aY _
 have le2:h0.le h2:=by rw[eh2,eh1];exact Heap.T4 (cz ho _) (cz (ho.new _) _)
 obtain⟨i3,e3⟩:∃i3,i3=h0.next:=⟨_,rfl⟩
 obtain⟨i4,e4⟩:∃i4,i4=h1.next:=⟨_,rfl⟩
 have ne34:(i3=i4)=False:=eq_false (by rw[e3,e4,eh1];simp only[cY];omega)
 rw[←e3]at b1 b2
 rw[←e4]at z2
 have nl:=(hk h2 le2).mo
 by_cases h:l=[]
 ·have z0:(((l.length:Nat):Int)==0)=true:=by rw[h];rfl
  simp only[yU,Ht,Hu,Zq,ah.bbw,aw,reduceIte,Nat.reduceEqDiff,dH,aR,←eh1,←eh2,←e3,←e4,nl,z0,aQ,cF,b2,z2,t3,bab,and_self,jad]
  refine hQ _ _ i4 (tc tail) (ho2.cD (cJ.1 z2) _ _) ⟨le2.1,fun id gen cs e=> ?_⟩ bD (by simp only[aa,reduceIte,Nat.reduceEqDiff]) (fun _=>rfl) (fun hne=>absurd h hne)
  have hlt:=ho.lt e
  rw[cw (by rw[e4,eh1];simp only[cY];omega)]
  exact le2.2 _ _ _ e
 ·have ll:l.length≠0:=fun e=>h (bay.1 e)
  have hk7:tail.kind≠7:=hc.resolve_left h
  have z0:(((l.length:Nat):Int)==0)=false:=by simp;omega
  have z7:(tail.kind==7)=false:=by simpa using hk7
  obtain⟨v1,h3,wc1,ho3,le3,k1,n1,ow1⟩:=aaC (hk h2 le2) (by omega) ho2
  have b3:=le3.2 _ _ _ b2
  have z3:=le3.2 _ _ _ z2
  have hi3:=ho2.lt b2
  have hi4:=ho2.lt z2
  obtain⟨v2,h4,c4,w4,k4,lb4,ho4,ow4,n4⟩:=Acc.append (bt:=88) ho3 (by omega:0<6) k1 n1 (show cr (.fs true 1 (tc tail))=some 1 from rfl) (J1 h3 tail) (by rw[aR]) (by omega) (by omega)
  have fresh:∀id,v2.own=some id→h2.next≤id:=fun id e=>by
   rcases ow4 id e with e2|e2
   ·exact ow1 _ e2
   ·exact bal le3.1 e2
  have b4:h4.at_ i3 0=some (tc tail):=lb4.2 _ _ _ (fun e=>by have:=ow1 _ e;omega) b3
  have z4:h4.at_ i4 0=some aK:=lb4.2 _ _ _ (fun e=>by have:=ow1 _ e;omega) z3
  have fl:=qW (k:=7) k4.row
  have rt:(bq l++tc tail)=bq (l++[tail]):=by rw[fG,bq,bq,bbj]
  rw[rt]at k4
  simp only[yU,Ht,Hu,O0,ah.bbw,aw,reduceIte,Nat.reduceEqDiff,dH,aR,←eh1,←eh2,←e3,←e4,nl,z0,aQ,gh,baf,b2,t3,z7,jad]
  apply E2
  ·simp only[Zs,aw,reduceIte,Nat.reduceEqDiff,uZ,u4,EZ,o8,pb,ai wc1,aQ,cF,b3,z4,t3,Nat.one_mul,w4,iC c4,fl,Nat.reduceAdd,bab,and_self,jad,jaf]
   refine⟨kW [2] (by cases c4<;>rfl) ⟨?_,trivial⟩,rfl⟩
   refine ji (.ptr i3 0 0) (.agg (tc tail)) ?_ ?_
   ·simp only[xQ,aa,reduceIte,Nat.reduceEqDiff]
   ·simp only[jS,lu,bba,List.map_nil,aQ,dC,ne34,if_false,b2,b3,b4,t3,bah,and_self,jab]
  simp only[aw]
  refine hQ _ _ i4 _ (ho4.cD (cJ.1 z4) _ _) ⟨bal le2.1 (bal le3.1 lb4.1),fun id gen cs e=> ?_⟩ bD (by simp only[aa,reduceIte,Nat.reduceEqDiff]) (fun e=>absurd e h) (fun _=>⟨v2,rfl,?_,n4,fun id e=>⟨?_,?_⟩⟩)
  ·have hlt:=ho.lt e
   rw[cw (by rw[e4,eh1];simp only[cY];omega)]
   exact lb4.2 _ _ _ (fun e2=>by have:=ow1 _ e2;have:=le2.1;omega) (le3.2 _ _ _ (le2.2 _ _ _ e))
  ·refine k4.wR (fJ (S:=fun j=>j=i4) rfl) fun id e=> ?_
   have:=fresh _ e;omega
  ·have:=fresh _ e;have:=le2.1;omega
  ·have:=fresh _ e;omega
theorem sB {v:AV} {l:List Tm} (k:Sl v l) (tail:Tm) (hn:l.length≤50000) (hm:tail.args.length≤50000) (h7:tail.kind=7→tail.args≠[]):∃f,∀h,WC env 103 [v,.agg (tc tail)] h (fun o=>o=.ret ⟨.agg (tc (b_ l tail f)),h,.none⟩):=by
 have hr:AV.aj [v,.agg (tc tail)]=true:=by simp only[bdk,k.ae,az]
 by_cases h0:l=[]∨tail.kind≠7
 ·have key:∃f,∀h,WC env 103 [v,.agg (tc tail)] h (fun o=>o=.ret ⟨.agg (tc (b_ l tail f)),h,.none⟩):=by
   have base:∃f,WC env 103 [v,.agg (tc tail)] .empty (fun o=>o=.ret ⟨.agg (tc (b_ l tail f)),.empty,.none⟩):=by
    have out:∃o:fC,WC env 103 [v,.agg (tc tail)] .empty (fun o' =>o' =o)∧∃f,o=.ret ⟨.agg (tc (b_ l tail f)),.empty,.none⟩:=by
     have hw:WC env 103 [v,.agg (tc tail)] .empty (fun o=>∃f,o=.ret ⟨.agg (tc (b_ l tail f)),.empty,.none⟩):=by
      refine ad rfl rfl rfl hr (xp an.empty (fun h _=>k.src h) (by omega) h0 fun σ' h' i4 cells ho' hle hat g4 c0 c1=> ?_)
      by_cases hl:l=[]
      ·have ec:=c0 hl
       subst ec;refine⟨[AV.agg (tc tail)],AV.agg (tc tail),by simp only[yU,Env.results,g4,aQ,hat,bah,t3,jab],(ay (v:=.agg (tc tail)) (az _)).2 rfl,none,?_⟩
       rw[b_,if_pos hl]
      ·obtain⟨v',rfl,ka,na,_⟩:=c1 hl
       obtain⟨f,hf⟩:=sD ka (eD _) na
       have e7:¬tail.kind=7:=h0.resolve_left hl
       refine⟨[AV.agg [.int .i64 7,.int .i64 0,.str [],.int .u32 0,.ax,v']],AV.agg (tc (b_ l tail f)),by simp only[yU,Env.results,g4,aQ,hat,bah,E1,jab],?_,f,rfl⟩
       rw[b_,if_neg hl,if_neg e7];refine lh ⟨_,_,rfl,(ay (v:=.int .i64 7) rfl).2 rfl,_,_,rfl,(ay (v:=.int .i64 0) rfl).2 rfl,_,_,rfl,(ay (v:=.str []) rfl).2 rfl,_,_,rfl,(ay (v:=.int .u32 0) rfl).2 rfl,_,_,rfl,(ay (v:=.ax) rfl).2 rfl,_,_,rfl,?_,rfl⟩
       have:=hf
       rwa [show l.length+1=(l++[tail]).length by simp]at this
     obtain⟨o,hn,f,e⟩:=hw
     exact⟨o,⟨o,hn,rfl⟩,f,e⟩
    obtain⟨o,w,f,rfl⟩:=out
    exact⟨f,w⟩
   obtain⟨f,w⟩:=base
   exact⟨f,fun h=>iP rfl rfl rfl hr w⟩
  exact key
 ·have hl:l≠[]:=fun e=>h0 (.inl e)
  have e7:tail.kind=7:=Decidable.not_not.1 fun e=>h0 (.inr e)
  refine⟨some false,fun h=>ad rfl rfl rfl hr ?_⟩
  have ll:l.length≠0:=fun e=>hl (bay.1 e)
  have z0:(((l.length:Nat):Int)==0)=false:=by simp;omega
  have z7:(tail.kind==7)=true:=by simpa using e7
  obtain⟨h1,eh1⟩:∃h1,h1=Heap.empty.new (tc tail):=⟨_,rfl⟩
  have ho1:an h1:=by rw[eh1];exact an.empty.new _
  have b1:h1.at_ Heap.empty.next 0=some (tc tail):=by rw[eh1];exact aY _
  obtain⟨h2,eh2⟩:∃h2,h2=h1.new [.int .i64 0,.int .i64 0,.str [],.int .u32 0,.ax,.ax]:=⟨_,rfl⟩
  have ho2:an h2:=by rw[eh2];exact ho1.new _
  have b2:h2.at_ Heap.empty.next 0=some (tc tail):=by rw[eh2];exact(cz ho1 _).2 _ _ _ b1
  have z2:h2.at_ h1.next 0=some aK:=by rw[eh2];exact aY _
  have ka:=cW tail
  obtain⟨h3,wc3,ho3,le3,a3⟩:=KZ k ka hl (h7 e7) (by omega) ho2
  have z3:=le3.2 _ _ _ z2
  have hi4:=ho2.lt z2
  have fl:=qW (v:=.sl h2.next 0 0 6 (l.length+tail.args.length) none) (k:=7) rfl
  have f2:bY [.ax,.ax] [(0,1,v),(1,1,j2 tail)]=some [v,j2 tail]:=by
   have r1:v.row=some [v]:=by cases k<;>rfl
   show(v.row.bind fun vs=>if vs.length=1∧0+1≤2 then bY (bU [.ax,.ax] 0 vs) [(1,1,j2 tail)]else none)=_
   rw[r1];show(((j2 tail).row).bind fun vs=>if vs.length=1∧1+1≤2 then bY (bU [v,.ax] 1 vs) []else none)=_
   rw[CN];rfl
  have l2:([v,j2 tail]:List AV).length=2*1:=rfl
  have nl:=k.len;simp only[yU,Ht,Hu,O0,Zr,ah.bbw,aw,reduceIte,Nat.reduceEqDiff,dH,aR,←eh1,←eh2,nl,z0,aQ,cF,gh,baf,b2,t3,z7,f2,l2,ai wc3,fl,z3,Nat.reduceAdd,bab,and_self,jad,jaf]
  refine⟨[.agg [.int .i64 7,.int .i64 0,.str [],.int .u32 0,.ax,.sl h2.next 0 0 6 (l.length+tail.args.length) none]],_,by simp only[Env.results,aa,reduceIte,Nat.reduceEqDiff,aQ,dC,E1,jab,jad]<;>rfl,?_,rfl⟩
  have a4:(h3.cD h1.next 0 [.int .i64 7,.int .i64 0,.str [],.int .u32 0,.ax,.sl h2.next 0 0 6 (l.length+tail.args.length) none]).at_ h2.next 0=some (bq (l++tail.args)):=by
   rw[cw (by omega)];exact a3
  have kc:Acc (h3.cD h1.next 0 [.int .i64 7,.int .i64 0,.str [],.int .u32 0,.ax,.sl h2.next 0 0 6 (l.length+tail.args.length) none]) 6 (.sl h2.next 0 0 6 (l.length+tail.args.length) none) (bq (l++tail.args)):=.sl _ _ _ _ a4 (by rw[bl,ban])
  have ht:(bq (l++tail.args)).drop 0=bq (l++tail.args):=rfl
  rw[b_,if_neg hl,if_pos e7];refine lh ⟨_,_,rfl,(ay (v:=.int .i64 7) rfl).2 rfl,_,_,rfl,(ay (v:=.int .i64 0) rfl).2 rfl,_,_,rfl,(ay (v:=.str []) rfl).2 rfl,_,_,rfl,(ay (v:=.int .u32 0) rfl).2 rfl,_,_,rfl,(ay (v:=.ax) rfl).2 rfl,_,_,rfl,?_,rfl⟩
  have htk:((bq (l++tail.args)).drop 0).take ((l.length+tail.args.length)*6)=bq (l++tail.args):=by
   rw[bah];exact bar (by rw[bl,ban];exact bab _)
  refine(AE a4 (by rw[bl,ban];omega) (by rw[htk];exact eD _)).2 ?_
  rw[htk,ban];rfl
end Go.Bf
namespace Go.Bf
open Go.AM
theorem j1 {t:Tm} (w:Wf t):t.args.length≤4096∧(t.kind=7→2≤t.args.length)∧EI t.args:=by
 cases t with
 |mk k i s c nf ns af ar=>
  refine⟨w.1.2,fun e=> ?_,w.2⟩
  have e:k=7:=e
  subst e;exact CL w
theorem eP {t:Tm} (ok:t.Ok):gW t.args:=by
 cases t with
 |mk k i s c nf ns af ar=>exact ok.lens.2.2.2
theorem ldk {l:List Tm} {i:Nat} (hi:i<l.length):bp false 1 ((bq l).drop (i*6))=some (.int .i64 l[i].kind):=by
 rw[gQ l i hi];cases l[i];rfl
theorem cA (t:Tm) (w:Wf t):∃v,Sl v ((bW t).getD [])∧∀h,WC env 102 [.agg (tc t)] h (fun o=>o=.ret ⟨.aF [v,.bool (bW t).isSome],h,.none⟩):=by
 obtain⟨hl,h2,_⟩:=j1 w
 have ka:=cW t
 have nl:=ka.len;have hr:AV.aj [.agg (tc t)]=true:=by simp only[bdk,az]
 obtain⟨m,em⟩:∃m,m=IntKind.wrap .i64 ((t.args.length:Int)-1):=⟨_,rfl⟩
 by_cases k6:t.kind=6
 ·have e:bW t=some []:=by rw[bW,if_pos k6]
  have z6:(t.kind==6)=true:=by simpa using k6
  rw[e];refine⟨.ax,.nil,fun h=>ad rfl rfl rfl hr ?_⟩
  simp only[TM,Cs,Ct,Cu,Zo,ah.bbw,aw,reduceIte,Nat.reduceEqDiff,aW,t3,nl,z6,Option.isSome_some]
 have z6:(t.kind==6)=false:=by simpa using k6
 by_cases k7:t.kind=7
 ·have z7:(t.kind==7)=true:=by simpa using k7
  have hm:IntKind.wrap .i64 ((t.args.length:Int)-1)=((t.args.length-1:Nat):Int):=aX (by have:=h2 k7;omega) (by omega)
  have hi:t.args.length-1<t.args.length:=by have:=h2 k7;omega
  have hne:t.args≠[]:=fun e=>by rw[e]at hi;simp at hi
  have lx:=ka.idx hi
  have lk:=ldk hi
  have d0:∀l:List AV,l.drop 0=l:=fun _=>rfl
  cases e6:EO t.args with
  |true=>
   have e:bW t=some t.args.dropLast:=by rw[bW,if_neg k6,if_pos ⟨k7,e6⟩]
   have zk:(t.args[t.args.length-1].kind==6)=true:=by rw[←oX _ hi];exact e6
   obtain⟨v,hv,kv⟩:=ka.init hne
   rw[e];refine⟨v,kv,fun h=>ad rfl rfl rfl hr ?_⟩
   have hvr:=kv.ae;simp only[TM,Cs,Ct,Cu,Hs,Zp,ah.bbw,aw,reduceIte,Nat.reduceEqDiff,aW,t3,nl,z6,z7,hm,lx,d0,lk,zk,hv,hvr,Option.isSome_some]
  |false=>
   have e:bW t=none:=by rw[bW,if_neg k6,if_neg (fun h=>by rw[e6]at h;cases h.2)]
   have zk:(t.args[t.args.length-1].kind==6)=false:=by rw[←oX _ hi];exact e6
   rw[e];refine⟨.ax,.nil,fun h=>ad rfl rfl rfl hr ?_⟩
   simp only[TM,Cs,Ct,Cu,Hs,OZ,ah.bbw,aw,reduceIte,Nat.reduceEqDiff,aW,t3,nl,z6,z7,hm,lx,d0,lk,zk,Option.isSome_none]
 ·have z7:(t.kind==7)=false:=by simpa using k7
  have e:bW t=none:=by rw[bW,if_neg k6,if_neg (fun h=>k7 h.1)]
  rw[e];refine⟨.ax,.nil,fun h=>ad rfl rfl rfl hr ?_⟩
  simp only[TM,Cs,Ct,Cu,Hs,OZ,ah.bbw,aw,reduceIte,Nat.reduceEqDiff,aW,t3,nl,z6,z7,Option.isSome_none]
theorem dY {t:Tm} {l:List Tm} (w:Wf t) (e:bW t=some l):l.length≤4096∧∀x,x∈l→x∈t.args:=by
 obtain⟨hl,_⟩:=j1 w
 rw[bW]at e
 split at e
 ·cases e;exact⟨by simp,fun x m=>by simp at m⟩
 split at e
 ·cases e
  exact⟨by rw[List.length_dropLast];omega,fun x m=>List.dropLast_subset _ m⟩
 ·cases e
theorem yk (nm:List UInt8) (a b:Tm) (wa:Wf a) (wb:Wf b) (e:bW a=none) (h:Heap):WC env 65 [.str nm,.agg (tc a),.agg (tc b)] h (fun o=>o=.ret ⟨.aF [.agg aK,.int .i64 261],h,.none⟩):=by
 obtain⟨v,kv,w1⟩:=cA a wa
 obtain⟨u,ku,w2⟩:=cA b wb
 rw[e]at w1
 have e1:(Option.isSome (none:Option (List Tm)))=false:=rfl
 rw[e1]at w1
 refine ad rfl rfl rfl (by simp only[bdk,az]) ?_
 simp only[a65,BD,BE,BF,BG,JY,ah.bbw,aw,reduceIte,Nat.reduceEqDiff,aW,Nat.reduceAdd,t3,ai (w1 _),ai (w2 _),bak]
theorem Tp (a b:Tm) (wa:Wf a) (wb:Wf b) {l:List Tm} (e:bW a=some l):∃f,∀h,WC env 65 [.str [43,43],.agg (tc a),.agg (tc b)] h (fun o=>o=.ret ⟨.aF [.agg (tc (b_ l b f)),.int .i64 0],h,.none⟩):=by
 obtain⟨v,kv,w1⟩:=cA a wa
 obtain⟨u,ku,w2⟩:=cA b wb
 rw[e]at w1 kv
 have e1:(Option.isSome (some l:Option (List Tm)))=true:=rfl
 rw[e1]at w1
 have hl:=(dY wa e).1
 obtain⟨hb,hb2,_⟩:=j1 wb
 obtain⟨f,wl⟩:=sB kv b (by show l.length≤50000;omega) (by omega) (fun e7 e8=>by have:=hb2 e7;rw[e8]at this;simp at this)
 refine⟨f,fun h=>ad rfl rfl rfl (by simp only[bdk,az]) ?_⟩
 have wl' :∀h,WC env 103 [v,.agg (tc b)] h (fun o=>o=.ret ⟨.agg (tc (b_ l b f)),h,.none⟩):=wl
 simp only[a65,BD,BE,BF,BG,JZ,Qz,ah.bbw,aw,reduceIte,Nat.reduceEqDiff,aW,Nat.reduceAdd,t3,ai (w1 _),ai (w2 _),ai (wl' _),baj,aD,bQ,UInt8.reduceToNat]
end Go.Bf
namespace Go.Bf
open Go.AM
def fi (x:Tm):List Tm→Option Nat
 |[]=>none
 |y::l=>if Ts x y=true then some 0 else(fi x l).map (·+1)
theorem agf {x:Tm}:∀{l:List Tm} {j:Nat},fi x l=some j→j<l.length
 |[],j,h=>by cases h
 |y::l,j,h=>by
  rw[fi]at h
  split at h
  ·cases h;simp
  ·simp only[bai]at h
   obtain⟨k,hk,rfl⟩:=h
   have:=agf hk
   simp only[bav];omega
def fH:List Tm→List Tm→List Tm
 |l,[]=>l
 |l,x::m=>fH (match fi x l with
  |some i=>l.eraseIdx i
  |none=>l) m
inductive mc (h:Heap) (lo:Nat):AV→List Tm→Prop
 |ax:mc h lo .ax []
 |full:mc h lo (.fs true 0 []) []
 |sl (id:Nat) (cs:List AV) (l:List Tm):h.at_ id 0=some cs→lo≤id→l.length*6≤cs.length→cs.take (l.length*6)=bq l→mc h lo (.sl id 0 0 6 l.length none) l
theorem mc.wR {h h' :Heap} {lo:Nat} {v:AV} {l:List Tm} (k:mc h lo v l) (c:∀id cs,lo≤id→h.at_ id 0=some cs→h'.at_ id 0=some cs):mc h' lo v l:=by
 cases k with
 |ax=>exact .ax
 |full=>exact .full
 |sl id cs l h1 h2 h3 h4=>exact .sl id cs l (c _ _ h2 h1) h2 h3 h4
theorem mc.mo {h:Heap} {lo:Nat} {v:AV} {l:List Tm} (k:mc h lo v l) (h2:Heap):aN false h2 v=some ⟨.int .i64 l.length,h2,.none⟩:=by
 cases k<;>rfl
theorem mc.src {h:Heap} {lo:Nat} {v:AV} {l:List Tm} (k:mc h lo v l):Src h v l:=by
 cases k with
 |ax=>exact⟨rfl,⟨.none,rfl⟩,⟨true,rfl,fun _=>rfl⟩⟩
 |full=>exact⟨rfl,⟨.none,rfl⟩,⟨false,rfl,fun e=>by cases e⟩⟩
 |sl id cs l h1 h2 h3 h4=>
  refine⟨rfl,⟨.read,?_⟩,⟨false,rfl,fun e=>by cases e⟩⟩
  show(if 6=6∧l.length≤l.length then(h.at_ id 0).bind fun cs=>if 0+l.length*6≤cs.length then some ((cs.drop 0).take (l.length*6),dB.read)else none else none)=_
  rw[if_pos ⟨rfl,bab _⟩,h1,bag,if_pos (by omega),bah,h4]
theorem mc.ld {h:Heap} {lo:Nat} {v:AV} {l:List Tm} (k:mc h lo v l) {i:Nat} (hi:i<l.length):∃p,aZ 6 v (.int .i64 i)=some p∧bg h true 6 p=some ⟨.agg (tc l[i]),h,.read⟩:=by
 cases k with
 |ax=>simp at hi
 |full=>simp at hi
 |sl id cs l h1 h2 h3 h4=>
  refine⟨.ptr id 0 (0+i*6),?_,?_⟩
  ·simp only[aZ,gO (kd:=.i64) hi,jak]
  ·have e:bp true 6 (cs.drop (0+i*6))=some (.agg (tc l[i])):=by
    have hd:=gQ l i hi
    rw[←h4,List.drop_take]at hd
    have ht:(cs.drop (i*6)).take 6=tc l[i]:=by
     have h6:6≤l.length*6-i*6:=by omega
     have:=congrArg (List.take 6) hd
     rw[adx,List.take_take,Nat.min_eq_left h6]at this
     exact this
    rw[baf];show(if 6≤(cs.drop (i*6)).length then some (AV.agg ((cs.drop (i*6)).take 6))else none)=_
    rw[if_pos (by rw[bbl];omega),ht]
   rw[aQ,h1,bag,e];rfl
theorem ady {h:Heap} {ip:Nat} {x y:Tm} (okx:x.Ok) (oky:y.Ok) (ho:an h) (hx:h.at_ ip 0=some (tc x)):WC env 106 [.agg (tc y),.ptr ip 0 0] h (fun o=>o=.ret ⟨.bool (Ts x y),h.new (tc y),.write⟩):=by
 have n0:(ip=h.next)=False:=eq_false (by have:=ho.lt hx;omega)
 refine ct rfl rfl (.inl rfl) ?_
 simp only[aiM,Zv,Zw,ah.bbw,aw,Nat.reduceEqDiff,aW,t3,n0,hx,if_false,ai (PH x y okx oky _)]
theorem PJ {x:Tm} {l:List Tm} (okx:x.Ok) (okl:gW l) (hl:l.length≤100000) {ip lo:Nat} {v:AV} {Q:aU→St→Prop}:
  ∀(f i:Nat) (σ:ah) (h:Heap),l.length-i<f→i≤l.length→an h→h.at_ ip 0=some (tc x)→mc h lo v l→σ.get 0=v→σ.get 1=.fn (.func 106) [] [.ptr ip 0 0]→σ.get 7=.int .i64 l.length→σ.get 8=.int .i64 i→
  (∀σ' h',an h' →h.le h' →(∀j,fi x (l.drop i)=some j→σ'.get 4=.int .i64 ((i+j:Nat):Int)→Q .ret ⟨σ',h'⟩)∧(fi x (l.drop i)=none→Q (.exit 0) ⟨σ',h'⟩))→
  kz env sO ⟨σ,h⟩ Q:=by
 intro f
 induction f with
 |zero=>intro i σ h h1;omega
 |succ f ih=>
  intro i σ h hf hi ho hx k g0 g1 g7 g8 hQ;refine aC fun b hb=> ?_
  by_cases c1:i<l.length
  ·have z0:((i:Int)<(l.length:Int))=True:=eq_true (by omega)
   have zi:IntKind.wrap .i64 ((i:Int)+1)=((i+1:Nat):Int):=aX (by omega) (by omega)
   obtain⟨p,ip',lp⟩:=k.ld c1
   have wq:=ady okx (okl.get (bas c1)) ho hx
   have hd:l.drop i=l[i]::l.drop (i+1):=bat c1
   have cv:∀{Q:fC→Prop},Ih env (some (.fn (.func 106) [] [.ptr ip 0 0])) (some [.agg (tc l[i])]) h Q=WC env 106 [.agg (tc l[i]),.ptr ip 0 0] h Q:=fun{Q}=>rfl
   have le1:h.le (h.new (tc l[i])):=cz ho _
   cases e:Ts x l[i]with
   |true=>
    rw[e]at wq
    simp only[sO,Hv,O4,O5,Zt,aw,reduceIte,Nat.reduceEqDiff,ma,g0,g1,g7,g8,z0,ip',lp,cv,ai wq]
    refine(hQ _ _ (ho.new _) le1).1 0 ?_ ?_
    ·rw[hd,fi,if_pos e]
    ·simp only[aa,reduceIte,Nat.reduceEqDiff,Nat.add_zero]
   |false=>
    rw[e]at wq
    simp only[sO,Hv,O4,O5,Zu,aw,reduceIte,Nat.reduceEqDiff,ma,g0,g1,g7,g8,z0,zi,ip',lp,cv,ai wq]
    subst hb;refine ih (i+1) _ _ (by omega) (by omega) (ho.new _) (le1.2 _ _ _ hx) (k.wR fun id cs _ e=>le1.2 _ _ _ e) ?_ ?_ ?_ ?_ fun σ' h' p1 p2=>⟨fun j hj g4=> ?_,fun hn=> ?_⟩
    ·simp only[aa,reduceIte,Nat.reduceEqDiff,g0]
    ·simp only[aa,reduceIte,Nat.reduceEqDiff,g1]
    ·simp only[aa,reduceIte,Nat.reduceEqDiff,g7]
    ·simp only[aa,reduceIte,Nat.reduceEqDiff]
    ·refine(hQ σ' h' p1 (Heap.le_trans le1 p2)).1 (j+1) ?_ ?_
     ·rw[hd,fi,if_neg (by rw[e];decide),hj];rfl
     ·rw[g4];congr 2;omega
    ·refine(hQ σ' h' p1 (Heap.le_trans le1 p2)).2 ?_
     rw[hd,fi,if_neg (by rw[e];decide),hn];rfl
  ·have z0:((i:Int)<(l.length:Int))=False:=eq_false (by omega)
   simp only[sO,Hv,aw,reduceIte,g7,g8,z0]
   refine(hQ _ h ho (Heap.le_refl h)).2 ?_
   rw[bao (by omega)];rfl
def fiI (x:Tm) (l:List Tm):Int:=match fi x l with
 |some j=>(j:Int)
 |none=> -1
theorem K0 {x:Tm} {l:List Tm} (okx:x.Ok) (okl:gW l) (hl:l.length≤100000) {ip lo:Nat} {v:AV} {h:Heap} (ho:an h) (hx:h.at_ ip 0=some (tc x)) (k:mc h lo v l):
  ∃h',an h' ∧h.le h' ∧WC env 105 [v,.fn (.func 106) [] [.ptr ip 0 0]] h (fun o=>o=.ret ⟨.int .i64 (fiI x l),h',.write⟩):=by
 have key:WC env 105 [v,.fn (.func 106) [] [.ptr ip 0 0]] h (fun o=>∃h',an h' ∧h.le h' ∧o=.ret ⟨.int .i64 (fiI x l),h',.write⟩):=by
  have nl:=k.mo;refine ct rfl rfl (.inl rfl) ?_
  have eb:a105.body=(.seq (.ops O2) (.seq (.seq (.ops O3) (.block 0 (.loop sO))) (.seq (.ops O6) .ret))):=rfl
  rw[eb];simp only[O2,O3,ah.bbw,aw,reduceIte,Nat.reduceEqDiff,nl]
  refine PJ okx okl hl (ip:=ip) (lo:=lo) (v:=v) (l.length+1) 0 _ h (by omega) (by omega) ho hx k ?_ ?_ ?_ ?_ fun σ' h' p1 p2=>⟨fun j hj g4=> ?_,fun hn=> ?_⟩
  ·simp only[aa,reduceIte,Nat.reduceEqDiff]
  ·simp only[aa,reduceIte,Nat.reduceEqDiff]
  ·simp only[aa,reduceIte,Nat.reduceEqDiff]
  ·simp only[aa,reduceIte,Nat.reduceEqDiff];rfl
  ·rw[bah]at hj
   rw[baf]at g4
   refine⟨[.int .i64 j],by simp only[a105,Env.results,baq,g4],h',p1,p2,?_⟩
   rw[fiI,hj];rfl
  ·rw[bah]at hn
   simp only[O6,aw,reduceIte]
   refine⟨[.int .i64 (-1)],by simp only[a105,Env.results,baq,aa,reduceIte],h',p1,p2,?_⟩
   rw[fiI,hn];rfl
 obtain⟨o,hn,h',h1,h2,e⟩:=key
 subst e;exact⟨h',h1,h2,_,hn,rfl⟩
end Go.Bf
namespace Go.Bf
open Go.AM
theorem an0 {n i:Nat} {k:IntKind} (h:n<i):lD n (.int k i)=none:=by
 show(if 0≤(i:Int)∧(i:Int)≤n then some ((i:Int).toNat)else none)=none
 rw[if_neg (by omega)]
theorem erase_eq (l:List Tm) (i:Nat):l.eraseIdx i=l.take i++l.drop (i+1):=List.eraseIdx_eq_take_drop_succ l i
theorem K1 {h:Heap} {lo:Nat} {v:AV} {l:List Tm} (ho:an h) (k:mc h lo v l) {i:Nat} (hi:i<l.length) (hn:l.length≤100000):
  ∃v' h',an h' ∧mc h' lo v' (l.eraseIdx i)∧jL (fun j=>lo≤j) h h' ∧WC env 107 [v,.int .i64 i,.int .i64 ((i+1:Nat):Int)] h (fun o=>o=.ret ⟨v',h',.write⟩):=by
 cases k with
 |ax=>simp at hi
 |full=>simp at hi
 |sl id cs l p1 p2 p3 p4=>
  obtain⟨n,en⟩:∃n,n=l.length:=⟨_,rfl⟩
  have nl:∀(m:Nat) (h:Heap) (o:Nat),aN false h (.sl id 0 o 6 m none)=some ⟨.int .i64 m,h,.none⟩:=fun m h o=>rfl
  have s1:cU 6 (.sl id 0 0 6 l.length none) (some (.int .i64 i)) (some (.int .i64 ((i+1:Nat):Int))) (some (.int .i64 l.length))=some (.sl id 0 (0+i*6) 6 (i+1-i) (some (l.length-i))):=by
   have hb:bounds l.length l.length (some (.int .i64 i)) (some (.int .i64 ((i+1:Nat):Int))) (some (.int .i64 l.length))=some (i,i+1,l.length):=by
    simp only[bounds,oD (bab l.length),oD (show i+1≤l.length by omega),oD (Nat.le_succ i),jab]
   simp only[cU,hb,jak]
  have s2:cU 6 (.sl id 0 0 6 l.length none) none (some (.int .i64 i)) none=some (.sl id 0 0 6 i none):=by
   have hb:bounds l.length l.length none (some (.int .i64 i)) none=some (0,i,l.length):=by
    simp only[bounds,oD (show i≤l.length by omega),jab]
   simp only[cU,hb,Option.map_none,bbc,Nat.add_zero,Nat.sub_zero,jak]
  have s3' :cU 6 (.sl id 0 0 6 l.length none) (some (.int .i64 ((i+1:Nat):Int))) none none=some (.sl id 0 (0+(i+1)*6) 6 (l.length-(i+1)) none):=by
   have hb:bounds l.length l.length (some (.int .i64 ((i+1:Nat):Int))) none none=some (i+1,l.length,l.length):=by
    simp only[bounds,oD (show i+1≤l.length by omega),jab]
   simp only[cU,hb,Option.map_none,jak]
  have zne:((i:Int)==((i+1:Nat):Int))=false:=by simp;omega
  have htc:(bq l).length=l.length*6:=bl l
  have hpre:cs.take (i*6)=bq (l.take i):=by
   rw[←qV,←p4,List.take_take,Nat.min_eq_left (by omega)]
  have hmid:(cs.drop ((i+1)*6)).take ((l.length-(i+1))*6)=bq (l.drop (i+1)):=by
   rw[←xo,←p4,List.drop_take]
   congr 1
   omega
  have hlen:(l.eraseIdx i).length=l.length-1:=by rw[List.length_eraseIdx,if_pos hi]
  have app:∃cs' h' c,b9 h 6 88 (.sl id 0 0 6 i none) (.sl id 0 (0+(i+1)*6) 6 (l.length-(i+1)) none)=some ⟨.sl id 0 0 6 (l.length-1) none,h',c⟩∧an h' ∧h'.at_ id 0=some cs' ∧cs'.length=cs.length∧cs'.take ((l.length-1)*6)=bq (l.eraseIdx i)∧jL (fun j=>lo≤j) h h' :=by
   by_cases hlast:l.length-(i+1)=0
   ·refine⟨cs,h,.none,?_,ho,p1,rfl,?_,jL.refl⟩
    ·unfold b9
     simp only[cr,bag,hlast]
     rw[if_pos ⟨by omega,by omega,by omega⟩,if_pos trivial,show i=l.length-1 by omega]
    ·rw[show l.length-1=i by omega,hpre,erase_eq,bao (by omega),bbj]
   ·have sc:aT h 6 (l.length-(i+1)) (.sl id 0 (0+(i+1)*6) 6 (l.length-(i+1)) none)=some (bq (l.drop (i+1)),.read):=by
     show(if 6=6∧l.length-(i+1)≤l.length-(i+1)then(h.at_ id 0).bind fun cs=>if 0+(i+1)*6+(l.length-(i+1))*6≤cs.length then some ((cs.drop (0+(i+1)*6)).take ((l.length-(i+1))*6),dB.read)else none else none)=_
     rw[if_pos ⟨rfl,bab _⟩,p1,bag,if_pos (by omega),baf,hmid]
    have a1:=xK (n:=i) p1 (show cr (.sl id 0 (0+(i+1)*6) 6 (l.length-(i+1)) none)=some (l.length-(i+1))from rfl) hlast sc (by omega) (by omega)
    rw[show i+(l.length-(i+1))=l.length-1 by omega]at a1
    have ld:(bq (l.drop (i+1))).length=(l.length-(i+1))*6:=by rw[bl,bbl]
    refine⟨bU cs (i*6) (bq (l.drop (i+1))),_,.write,a1,ho.cD (cJ.1 p1) _ _,bD,?_,?_,fJ p2⟩
    ·simp only[bU,ban,bbg,bbl,ld];omega
    ·rw[bU,hpre,erase_eq,fG,List.take_append_of_le_length (by rw[ban,bl,bbg,ld];omega)]
     exact bar (by rw[ban,bl,bbg,ld];omega)
  obtain⟨cs',h',c,ap,ho',at',r7,tk',ch'⟩:=app
  have sn:cU 6 (.sl id 0 0 6 (l.length-1) none) (some (.int .i64 ((l.length-1:Nat):Int))) (some (.int .i64 l.length)) none=none:=by
   have hb:bounds (l.length-1) (l.length-1) (some (.int .i64 ((l.length-1:Nat):Int))) (some (.int .i64 l.length)) none=none:=by
    simp only[bounds,an0 (show l.length-1<l.length by omega),bag,Option.bind_none]
   simp only[cU,if_true,hb,Option.map_none]
  have sh:jq h' 6 (.sl id 0 0 6 (l.length-1) none) (some (.int .i64 ((l.length-1:Nat):Int))) (some (.int .i64 l.length)) none=some ⟨.sl id 0 (0+(l.length-1)*6) 6 (l.length-(l.length-1)) none,h',.read⟩:=by
   have hq:l.length≤(cs'.length-0)/6:=by rw[r7];omega
   have hb:bounds (l.length-1) ((cs'.length-0)/6) (some (.int .i64 ((l.length-1:Nat):Int))) (some (.int .i64 l.length)) none=some (l.length-1,l.length,(cs'.length-0)/6):=by
    simp only[bounds,oD hq,oD (Nat.sub_le l.length 1),jab]
   show(if 6=6∧0<6 then(h'.at_ id 0).bind fun cs=>(bounds (l.length-1) ((cs.length-0)/6) _ _ none).map fun(l1,u,_)=>(⟨.sl id 0 (0+l1*6) 6 (u-l1) none,h',.read⟩:cB)else none)=_
   rw[if_pos ⟨rfl,by decide⟩,at',bag,hb];rfl
  have cl:lE h' 6 [.int .i64 0,.int .i64 0,.str [],.int .u32 0,.ax,.ax] (.sl id 0 (0+(l.length-1)*6) 6 (l.length-(l.length-1)) none)=some ⟨.undef,h'.cD id 0 (bU cs' (0+(l.length-1)*6) (List.replicate (l.length-(l.length-1)) [.int .i64 0,.int .i64 0,.str [],.int .u32 0,.ax,.ax]).flatten),.write⟩:=by
   show(if l.length-(l.length-1)=0 then _ else if 6=6∧6=6 then(h'.at_ id 0).bind fun cs=>if 0+(l.length-1)*6+(l.length-(l.length-1))*6≤cs.length then some (⟨.undef,h'.cD id 0 (bU cs (0+(l.length-1)*6) _),.write⟩:cB)else none else none)=_
   rw[if_neg (by omega),if_pos ⟨rfl,rfl⟩,at',bag,if_pos (by omega)]
  refine⟨.sl id 0 0 6 (l.eraseIdx i).length none,h'.cD id 0 (bU cs' (0+(l.length-1)*6) (List.replicate (l.length-(l.length-1)) [.int .i64 0,.int .i64 0,.str [],.int .u32 0,.ax,.ax]).flatten),ho'.cD (cJ.1 at') _ _,.sl id _ _ bD p2 ?_ ?_,ch'.trans (fJ p2),?_⟩
  ·rw[hlen]
   simp only[bU,ban,bbg,bbl];omega
  ·rw[hlen,bU,bbp,List.take_append_of_le_length (by rw[bbg];omega),List.take_take,Nat.min_eq_left (by omega),tk']
  ·rw[hlen]
   simp only[baf]at s1 s3' ap sh cl
   refine ct rfl rfl (.inl rfl) ?_
   simp only[a107,Zx,Zy,Zz,ZA,ah.bbw,aw,reduceIte,Nat.reduceEqDiff,nl,s1,zne,aW,Nat.reduceAdd]
   refine aB ?_
   simp only[aw,reduceIte,Nat.reduceEqDiff,k3,ZB,ZC,ZD,s2,s3',ap,iC c,nl,sn,IT,sh,cl,aW]
   cases c<;>rfl
end Go.Bf
namespace Go.Bf
open Go.AM
theorem T5 {h:Heap} {v:AV} {l:List Tm} (k:Src h v l) (hn:l.length≤100000) (ho:an h):∃v' h',WC env 104 [v] h (fun o=>o=.ret ⟨v',h',.write⟩)∧an h' ∧h.le h' ∧mc h' h.next v' l:=by
 obtain⟨b,eb,hb⟩:=k.nil
 cases b with
 |true=>
  have e3:=hb rfl
  subst e3;refine⟨.ax,h,?_,ho,Heap.le_refl h,.ax⟩
  refine ct rfl rfl (.inl rfl) ?_
  simp only[KN,uF,uG,O1,ah.bbw,aw,reduceIte,Nat.reduceEqDiff,eb,aW]
 |false=>
  have y1:bY [] []=some []:=rfl
  by_cases hl:l=[]
  ·subst hl
   have ap:b9 h 6 88 (.fs true 0 []) v=some ⟨.fs true 0 [],h,.none⟩:=by
    unfold b9
    rw[k.len];rfl
   refine⟨.fs true 0 [],h,?_,ho,Heap.le_refl h,.full⟩
   refine ct rfl rfl (.inl rfl) ?_
   simp only[KN,uF,uG,Cv,ah.bbw,aw,reduceIte,Nat.reduceEqDiff,eb,y1,bbc,ap,aW]
  ·have ll:l.length≠0:=fun e=>hl (bay.1 e)
   obtain⟨c,hc⟩:=k.cells
   have ap:b9 h 6 88 (.fs true 0 []) v=some ⟨.sl h.next 0 0 6 l.length none,h.new (bq l),.write⟩:=by
    unfold b9
    rw[k.len,bag];simp only[cr,bag]
    rw[if_pos ⟨by omega,by omega,by omega⟩,if_neg ll,hc];simp[aT]
   refine⟨.sl h.next 0 0 6 l.length none,h.new (bq l),?_,ho.new _,cz ho _,.sl _ _ _ (aY _) (bab _) (by rw[bl];exact bab _) (bar (by rw[bl];exact bab _))⟩
   refine ct rfl rfl (.inl rfl) ?_
   simp only[KN,uF,uG,Cv,ah.bbw,aw,reduceIte,Nat.reduceEqDiff,eb,y1,bbc,ap,aW]
theorem BH {h:Heap} {sz n:Nat} {v:AV} {cells:List AV} (k:Acc h sz v cells) (hn:AV.aj cells=true) (hl:cr v=some n):∃f,∀h2,Acc h2 sz v cells→xX h2 v (aM f n cells):=by
 cases k with
 |ax=>cases hl;exact⟨none,fun h2 _=>(ay (v:=.ax) rfl).2 rfl⟩
 |full m _ hc=>cases hl;exact⟨some true,fun h2 _=>(ay (v:=.fs true n cells) hn).2 rfl⟩
 |sl id gen m _ hat hc=>
  cases hl;refine⟨some false,fun h2 k2=> ?_⟩
  cases k2 with
  |sl _ _ _ _ hat2 hc2=>
   have ht:(cells.drop 0).take (n*sz)=cells:=by rw[bah];exact bar (by omega)
   refine(AE hat2 (by omega) (by rw[ht];exact hn)).2 ?_
   rw[ht];rfl
theorem EP:∀{l:List Tm} {i:Nat},gW l→gW (l.eraseIdx i)
 |[],i,h=>h
 |t::l,0,h=>h.2
 |t::l,i+1,h=>⟨h.1,EP h.2⟩
theorem PK {m:List Tm} {mv:AV} (km:Sl mv m) (okm:gW m) (hm:m.length≤100000) {i6 lo:Nat} (hlo:i6<lo) {Q:aU→St→Prop}:
  ∀(f i:Nat) (σ:ah) (h:Heap) (v:AV) (cur:List Tm),m.length-i<f→i≤m.length→an h→lo≤h.next→h.at_ i6 0=some aK→mc h lo v cur→gW cur→cur.length≤100000→
  σ.get 6=.ptr i6 0 0→σ.get 8=v→σ.get 43=mv→σ.get 44=.int .i64 m.length→σ.get 45=.int .i64 i→
  (∀σ' h' v',an h' →lo≤h'.next→h'.at_ i6 0=some aK→mc h' lo v' (fH cur (m.drop i))→σ'.get 6=.ptr i6 0 0→σ'.get 8=v' →Q (.exit 0) ⟨σ',h'⟩)→kz env sM ⟨σ,h⟩ Q:=by
 intro f
 induction f with
 |zero=>intro i σ h v cur p1;omega
 |succ f ih=>
  intro i σ h v cur hf hi ho hln a6 k okc hcl g6 g8 g43 g44 g45 hQ;refine aC fun b hb=> ?_
  by_cases c1:i<m.length
  ·have z0:((i:Int)<(m.length:Int))=True:=eq_true (by omega)
   have zi:IntKind.wrap .i64 ((i:Int)+1)=((i+1:Nat):Int):=aX (by omega) (by omega)
   obtain⟨x,ex⟩:∃x,x=m[i]:=⟨_,rfl⟩
   have okx:x.Ok:=by rw[ex];exact okm.get (bas c1)
   have hd:m.drop i=x::m.drop (i+1):=by rw[ex];exact bat c1
   have lx:=km.idx c1
   have lt:bp true 6 ((bq m).drop (i*6))=some (.agg (tc x)):=by
    rw[gQ m i c1,←ex];cases x;rfl
   obtain⟨h1,st1,ho1,le1,at1⟩:=kH ho x
   have k1:mc h1 lo v cur:=k.wR fun id cs _ e=>le1.2 _ _ _ e
   obtain⟨h2,ho2,le2,wi⟩:=K0 okx okc hcl ho1 at1 k1
   have k2:mc h2 lo v cur:=k1.wR fun id cs _ e=>le2.2 _ _ _ e
   have b2:=le2.2 _ _ _ (le1.2 _ _ _ a6)
   have n2:lo≤h2.next:=bal hln (bal le1.1 le2.1)
   rw[hd,fH]at hQ
   cases ef:fi x cur with
   |some j=>
    rw[ef]at hQ
    have hj:=agf ef
    have ei:fiI x cur=(j:Int):=by rw[fiI,ef]
    have zj:((j:Int)≥0)=True:=eq_true (by omega)
    have zw:IntKind.wrap .i64 ((j:Int)+1)=((j+1:Nat):Int):=aX (by omega) (by omega)
    rw[ei]at wi
    obtain⟨v',h3',ho3,k3,ch3,wd⟩:=K1 ho2 k2 hj hcl
    have b3:=ch3.2 _ _ _ (by omega) b2
    simp only[sM,J0,FT,FU,FV,L_,FW,aw,reduceIte,Nat.reduceEqDiff,Ar,DM,g8,g43,g44,g45,z0,lx,bP,lt,st1,ai wi,zj,zw,ai wd,zi]
    subst hb;refine ih (i+1) _ h3' v' (cur.eraseIdx j) (by omega) (by omega) ho3 (bal n2 ch3.1) b3 k3 (EP okc) (by rw[List.length_eraseIdx];split<;>omega) ?_ ?_ ?_ ?_ ?_ hQ
    ·simp only[aa,reduceIte,Nat.reduceEqDiff,g6]
    ·simp only[aa,reduceIte,Nat.reduceEqDiff]
    ·simp only[aa,reduceIte,Nat.reduceEqDiff,g43]
    ·simp only[aa,reduceIte,Nat.reduceEqDiff,g44]
    ·simp only[aa,reduceIte,Nat.reduceEqDiff]
   |none=>
    rw[ef]at hQ
    have ei:fiI x cur= -1:=by rw[fiI,ef]
    have zj:((-1:Int)≥0)=False:=eq_false (by decide)
    rw[ei]at wi
    simp only[sM,J0,FT,FU,FV,FW,aw,reduceIte,Nat.reduceEqDiff,Ar,DM,g8,g43,g44,g45,z0,lx,bP,lt,st1,ai wi,zj,zi]
    subst hb;refine ih (i+1) _ h2 v cur (by omega) (by omega) ho2 n2 b2 k2 okc hcl ?_ ?_ ?_ ?_ ?_ hQ
    ·simp only[aa,reduceIte,Nat.reduceEqDiff,g6]
    ·simp only[aa,reduceIte,Nat.reduceEqDiff,g8]
    ·simp only[aa,reduceIte,Nat.reduceEqDiff,g43]
    ·simp only[aa,reduceIte,Nat.reduceEqDiff,g44]
    ·simp only[aa,reduceIte,Nat.reduceEqDiff]
  ·have z0:((i:Int)<(m.length:Int))=False:=eq_false (by omega)
   simp only[sM,J0,aw,reduceIte,g44,g45,z0]
   have hd:m.drop i=[]:=bao (by omega)
   rw[hd,fH]at hQ
   refine hQ _ h v ho hln a6 k ?_ ?_
   ·simp only[aa,reduceIte,Nat.reduceEqDiff,g6]
   ·simp only[aa,reduceIte,Nat.reduceEqDiff,g8]
theorem aaD {h:Heap} {lo:Nat} {v:AV} {l:List Tm} (ho:an h) (k:mc h lo v l) (hn:l.length≤50000):
  ∃r h' c,WC env 103 [v,.agg (tc cI)] h (fun o=>o=.ret ⟨.agg r,h',c⟩)∧an h' ∧h.le h' ∧r.length=6∧∃f,∀h'',jL (fun j=>j<h.next) h' h'' →xX h'' (.agg r) (.agg (tc (b_ l cI f))):=by
 have frozen:Sl v l→∃r h' c,WC env 103 [v,.agg (tc cI)] h (fun o=>o=.ret ⟨.agg r,h',c⟩)∧an h' ∧h.le h' ∧r.length=6∧∃f,∀h'',jL (fun j=>j<h.next) h' h'' →xX h'' (.agg r) (.agg (tc (b_ l cI f))):=by
  intro ks;obtain⟨f,wf⟩:=sB ks cI hn (by show(0:Nat)≤50000;omega) (fun e=>by cases e)
  exact⟨_,h,.none,wf h,ho,Heap.le_refl h,aR _,f,fun h'' _=>(ay (v:=.agg _) (az _)).2 rfl⟩
 cases k with
 |ax=>exact frozen .nil
 |full=>exact frozen (.fs true [])
 |sl id cs l q1 q2 q3 q4=>
  have ks:∀h',h.le h' →Src h' (.sl id 0 0 6 l.length none) l:=fun h' le=>(mc.sl (lo:=lo) id cs l (le.2 _ _ _ q1) q2 q3 q4).src
  have key:WC env 103 [.sl id 0 0 6 l.length none,.agg (tc cI)] h (fun o=>∃r h' c,o=.ret ⟨.agg r,h',c⟩∧an h' ∧h.le h' ∧r.length=6∧∃f,∀h'',jL (fun j=>j<h.next) h' h'' →xX h'' (.agg r) (.agg (tc (b_ l cI f)))):=by
   refine ct rfl rfl (.inr (by simp only[AV.aj,AV.ae,bbd])) (xp ho ks (by omega) (.inr (by decide)) fun σ' h' i4 cells ho' hle hat g4 c0 c1=> ?_)
   by_cases hl:l=[]
   ·have ec:=c0 hl
    subst ec;refine⟨[.agg (tc cI)],by simp only[yU,Env.results,g4,aQ,hat,bah,t3,jab],tc cI,h',.write,rfl,ho',hle,aR _,none,fun h'' _=> ?_⟩
    rw[b_,if_pos hl];exact(ay (v:=.agg _) (az _)).2 rfl
   ·obtain⟨v',rfl,ka,na,ow⟩:=c1 hl
    refine⟨[.agg [.int .i64 7,.int .i64 0,.str [],.int .u32 0,.ax,v']],by simp only[yU,Env.results,g4,aQ,hat,bah,E1,jab],_,h',.write,rfl,ho',hle,rfl,?_⟩
    obtain⟨f,hf⟩:=BH ka (eD _) na
    have hff:∀h'',jL (fun j=>j<h.next) h' h'' →xX h'' v' (aM f (l.length+1) (bq (l++[cI]))):=fun h'' ch=>hf h'' (ka.wR ch (fun id e=>by have:=(ow id e).1;omega))
    refine⟨f,fun h'' ch=> ?_⟩
    rw[b_,if_neg hl];have e7:¬cI.kind=7:=by decide
    rw[if_neg e7];refine lh ⟨_,_,rfl,(ay (v:=.int .i64 7) rfl).2 rfl,_,_,rfl,(ay (v:=.int .i64 0) rfl).2 rfl,_,_,rfl,(ay (v:=.str []) rfl).2 rfl,_,_,rfl,(ay (v:=.int .u32 0) rfl).2 rfl,_,_,rfl,(ay (v:=.ax) rfl).2 rfl,_,_,rfl,?_,rfl⟩
    have:=hff h'' ch
    rwa [show l.length+1=(l++[cI]).length by simp]at this
  obtain⟨o,hn,r,h',c,rfl,e1,e2,e3,e4⟩:=key
  exact⟨r,h',c,⟨_,hn,rfl⟩,e1,e2,e3,e4⟩
end Go.Bf
namespace Go.Bf
open Go.AM
theorem FZ (a b:Tm) (wa:Wf a) (wb:Wf b) (e:bW b=none) (h:Heap):WC env 65 [.str [45,45],.agg (tc a),.agg (tc b)] h (fun o=>o=.ret ⟨.aF [.agg aK,.int .i64 261],h,.none⟩):=by
 cases ea:bW a with
 |none=>exact yk _ a b wa wb ea h
 |some l=>
  obtain⟨v,kv,w1⟩:=cA a wa
  obtain⟨u,ku,w2⟩:=cA b wb
  rw[e]at w2
  rw[ea]at w1
  have e1:(Option.isSome (none:Option (List Tm)))=false:=rfl
  have e2:(Option.isSome (some l:Option (List Tm)))=true:=rfl
  rw[e1]at w2
  rw[e2]at w1
  refine ad rfl rfl rfl (by simp only[bdk,az]) ?_
  simp only[a65,BD,BE,BF,BG,JY,ah.bbw,aw,reduceIte,Nat.reduceEqDiff,aW,Nat.reduceAdd,t3,aD,bQ,UInt8.reduceToNat,ai (w1 _),ai (w2 _),bak,baj]
theorem Tt (a b:Tm) (oka:a.Ok) (okb:b.Ok) (wa:Wf a) (wb:Wf b) {l m:List Tm} (ea:bW a=some l) (eb:bW b=some m):
  ∃f,∀h,WC env 65 [.str [45,45],.agg (tc a),.agg (tc b)] h (fun o=>o=.ret ⟨.aF [.agg (tc (b_ (fH l m) cI f)),.int .i64 0],h,.none⟩):=by
 have hr:AV.aj [.str [45,45],.agg (tc a),.agg (tc b)]=true:=by simp only[bdk,az]
 obtain⟨v,kv,w1⟩:=cA a wa
 obtain⟨u,ku,w2⟩:=cA b wb
 rw[ea]at w1 kv
 rw[eb]at w2 ku
 have e1:(Option.isSome (some l:Option (List Tm)))=true:=rfl
 have e2:(Option.isSome (some m:Option (List Tm)))=true:=rfl
 rw[e1]at w1
 rw[e2]at w2
 have kv:Sl v l:=kv
 have ku:Sl u m:=ku
 obtain⟨hl,hsub⟩:=dY wa ea
 obtain⟨hm,bdc⟩:=dY wb eb
 have okl:gW l:=by
  have:∀(l:List Tm),(∀x,x∈l→x.Ok)→gW l:=by
   intro l;induction l with
   |nil=>intro _;trivial
   |cons t l ih=>intro h;exact⟨h t (by simp),ih fun x m=>h x (by simp[m])⟩
  exact this l fun x hx=>(eP oka).get (hsub x hx)
 have okm:gW m:=by
  have:∀(l:List Tm),(∀x,x∈l→x.Ok)→gW l:=by
   intro l;induction l with
   |nil=>intro _;trivial
   |cons t l ih=>intro h;exact⟨h t (by simp),ih fun x m=>h x (by simp[m])⟩
  exact this m fun x hx=>(eP okb).get (bdc x hx)
 have minlen:∀(m l:List Tm),(fH l m).length≤l.length:=by
  intro m
  induction m with
  |nil=>intro l;exact bab _
  |cons x m ih=>
   intro l;rw[fH];refine bal (ih _) ?_
   split
   ·rw[List.length_eraseIdx];split<;>omega
   ·exact bab _
 have hw:WC env 65 [.str [45,45],.agg (tc a),.agg (tc b)] .empty (fun o=>∃f,o=.ret ⟨.aF [.agg (tc (b_ (fH l m) cI f)),.int .i64 0],.empty,.none⟩):=by
  refine ad rfl rfl rfl hr ?_
  have eb' :a65.body=(.seq (.ops BD) (.seq (.ops BE) (.seq (.ops BF) (.seq (.seq (.ops BG) (.cond (.t 34) (.seq (.ops JY) .ret) .skip)) (.seq (.seq (.ops JZ) (.cond (.t 37) (.seq (.ops Qz) .ret) .skip)) (.seq (.ops QA) (.seq (.seq (.ops QB) (.block 0 (.loop sM))) (.seq (.ops FX) .ret)))))))):=rfl
  obtain⟨H,eH⟩:∃H,H=((Heap.empty.new (tc a)).new (tc b)).new [.int .i64 0,.int .i64 0,.str [],.int .u32 0,.ax,.ax]:=⟨_,rfl⟩
  have ho:an H:=by rw[eH];exact((an.empty.new _).new _).new _
  have hn3:H.next=3:=by rw[eH];rfl
  have a6:H.at_ 2 0=some aK:=by rw[eH];simp only[aW,Nat.reduceAdd,reduceIte,Nat.reduceEqDiff];rfl
  obtain⟨v',h4,wcl,ho4,le4,k4⟩:=T5 (kv.src H) (by omega) ho
  rw[hn3]at k4
  have nu:=ku.len;rw[eb'];rw[eH]at wcl
  simp only[BD,BE,BF,BG,JZ,QA,QB,ah.bbw,aw,reduceIte,Nat.reduceEqDiff,aW,Nat.reduceAdd,t3,ai (w1 _),ai (w2 _),baj,aD,bQ,UInt8.reduceToNat,ai wcl,nu]
  refine PK ku okm (by omega) (i6:=2) (lo:=3) (by omega) (m.length+1) 0 _ h4 v' l (by omega) (by omega) ho4 (by have:=le4.1;omega) (le4.2 _ _ _ a6) k4 okl (by omega) ?_ ?_ ?_ ?_ ?_ fun σ' h' v5 ho' hn' b6 k5 g6 g8=> ?_
  ·simp only[aa,reduceIte,Nat.reduceEqDiff]
  ·simp only[aa,reduceIte,Nat.reduceEqDiff]
  ·simp only[aa,reduceIte,Nat.reduceEqDiff]
  ·simp only[aa,reduceIte,Nat.reduceEqDiff]
  ·simp only[aa,reduceIte,Nat.reduceEqDiff];rfl
  rw[bah]at k5
  obtain⟨r,h6,c,wr,ho6,le6,rl,f,hf⟩:=aaD ho' k5 (by have:=minlen m l;omega)
  have c6:=le6.2 _ _ _ b6
  have lr:bp true 6 r=some (.agg r):=by
   show(if 6≤r.length then some (AV.agg (r.take 6))else none)=_
   rw[if_pos (by omega),bar (by omega)]
  have lt:=ho'.lt b6
  simp only[FX,aw,reduceIte,Nat.reduceEqDiff,g6,g8,ai (xq _),ai wr,iC c,cF,c6,rl,eQ,bab,and_self,if_true]
  refine⟨[.agg r,.int .i64 0],.aF [.agg (tc (b_ (fH l m) cI f)),.int .i64 0],by simp only[a65,Env.results,aa,reduceIte,Nat.reduceEqDiff,g6,aQ,dC,lr,jab,jad],?_,f,rfl⟩
  refine o9 ⟨_,_,rfl,hf _ ⟨bab _,fun id gen cs hne e=> ?_⟩,_,_,rfl,(ay (v:=.int .i64 0) rfl).2 rfl,rfl⟩
  rw[cw (fun e2=>hne (by rw[e2];exact lt))]
  exact e
 obtain⟨o,hn,f,e⟩:=hw
 subst e;exact⟨f,fun h=>iP rfl rfl rfl hr ⟨_,hn,rfl⟩⟩
end Go.Bf
namespace Go.Bf
open Go.AM
def fD (n:Int):Tm:=.mk 1 n [] 0 none [] none []
theorem fX (x:Int) (h:Heap):WC env 59 [.int .i64 x] h (fun o=>o=.ret ⟨.agg (tc (fD x)),h,.none⟩):=aaE x h
theorem dK (x:Int) (h:Heap):WC env 22 [.int .i64 x] h (fun o=>o=.ret ⟨.agg (tc (fD x)),h,.none⟩):=T6 x h
theorem Bx {v:AV} {r:Tm} {cd:Int} (hv:v.ae=true) (hr:∀h,WC env 68 [.str [108,101,110,103,116,104],v] h (fun o=>o=.ret ⟨.aF [.agg (tc r),.int .i64 cd],h,.none⟩)) (h:Heap):WC env 38 [.str [108,101,110,103,116,104],v] h (fun o=>o=.ret ⟨.aF [.agg (tc r),.int .i64 cd],h,.none⟩):=by
 have wp:∀h,WC env 66 [.str [108,101,110,103,116,104],.str [105,115,95]] h (fun o=>o=.ret ⟨.bool false,h,.none⟩):=fun h=>bu (n:=30) (by kernel_rfl)
 refine ad rfl rfl rfl (by simp only[bdk,hv]) ?_
 simp only[mf,mD,ah.bbw,aw,reduceIte,Nat.reduceEqDiff,aD,bQ,UInt8.reduceToNat,ai (wp _),ai (hr _),aW,Nat.reduceAdd,t3]
theorem JT {v:AV} {t:Tm} (kv:Sl v [t]) (w:Wf t) {l:List Tm} (e:bW t=some l) (h:Heap):WC env 68 [.str [108,101,110,103,116,104],v] h (fun o=>o=.ret ⟨.aF [.agg (tc (fD l.length)),.int .i64 0],h,.none⟩):=by
 obtain⟨A,x0,lA,nl⟩:=zA kv
 obtain⟨u,ku,we⟩:=cA t w
 rw[e]at we ku
 have e1:(Option.isSome (some l:Option (List Tm)))=true:=rfl
 rw[e1]at we
 have ku:Sl u l:=ku
 have nu:=ku.len;refine ad rfl rfl rfl (by simp only[bdk,kv.ae]) ?_
 simp only[xk,yM,ah.bbw,aw,reduceIte,Nat.reduceEqDiff,aW,Nat.reduceAdd,t3,aD,bQ,UInt8.reduceToNat,x0,lA,ai (we _),nu,ai (fX _ _)]
theorem Bz {v:AV} {t:Tm} (kv:Sl v [t]) (w:Wf t) (e:bW t=none) (h:Heap):WC env 68 [.str [108,101,110,103,116,104],v] h (fun o=>o=.ret ⟨.aF [.agg (tc (bZ)),.int .i64 261],h,.none⟩):=by
 obtain⟨A,x0,lA,nl⟩:=zA kv
 obtain⟨u,ku,we⟩:=cA t w
 rw[e]at we
 have e1:(Option.isSome (none:Option (List Tm)))=false:=rfl
 rw[e1]at we
 refine ad rfl rfl rfl (by simp only[bdk,kv.ae]) ?_
 simp only[xk,yM,ah.bbw,aw,reduceIte,Nat.reduceEqDiff,aW,Nat.reduceAdd,t3,aD,bQ,UInt8.reduceToNat,x0,lA,ai (we _),bc]
theorem Sl.row {v:AV} {l:List Tm} (k:Sl v l):v.row=some [v]:=by cases k<;>rfl
theorem Qx {v:AV} {r:Tm} {cd:Int} (hv:v.ae=true) (hr:∀h,WC env 68 [.str [108,105,115,116,95,116,111,95,116,117,112,108,101],v] h (fun o=>o=.ret ⟨.aF [.agg (tc r),.int .i64 cd],h,.none⟩)) (h:Heap):WC env 38 [.str [108,105,115,116,95,116,111,95,116,117,112,108,101],v] h (fun o=>o=.ret ⟨.aF [.agg (tc r),.int .i64 cd],h,.none⟩):=by
 have wp:∀h,WC env 66 [.str [108,105,115,116,95,116,111,95,116,117,112,108,101],.str [105,115,95]] h (fun o=>o=.ret ⟨.bool false,h,.none⟩):=fun h=>bu (n:=30) (by kernel_rfl)
 refine ad rfl rfl rfl (by simp only[bdk,hv]) ?_
 simp only[mf,mD,ah.bbw,aw,reduceIte,Nat.reduceEqDiff,aD,bQ,UInt8.reduceToNat,ai (wp _),ai (hr _),aW,Nat.reduceAdd,t3]
theorem JV {v:AV} {t:Tm} (kv:Sl v [t]) (w:Wf t) (e:bW t=none) (h:Heap):WC env 68 [.str [108,105,115,116,95,116,111,95,116,117,112,108,101],v] h (fun o=>o=.ret ⟨.aF [.agg (tc (bZ)),.int .i64 261],h,.none⟩):=by
 obtain⟨A,x0,lA,nl⟩:=zA kv
 obtain⟨u,ku,we⟩:=cA t w
 rw[e]at we
 have e1:(Option.isSome (none:Option (List Tm)))=false:=rfl
 rw[e1]at we
 refine ad rfl rfl rfl (by simp only[bdk,kv.ae]) ?_
 simp only[xk,yM,ah.bbw,aw,reduceIte,Nat.reduceEqDiff,aW,Nat.reduceAdd,t3,aD,bQ,UInt8.reduceToNat,x0,lA,ai (we _),bc]
theorem VJ {v:AV} {t:Tm} (kv:Sl v [t]) (w:Wf t) {l:List Tm} (e:bW t=some l):∃f,∀h,WC env 68 [.str [108,105,115,116,95,116,111,95,116,117,112,108,101],v] h (fun o=>o=.ret ⟨.aF [.agg (tc (.mk 5 0 [] 0 none [] f l)),.int .i64 0],h,.none⟩):=by
 obtain⟨A,x0,lA,nl⟩:=zA kv
 obtain⟨u,ku,we⟩:=cA t w
 rw[e]at we ku
 have e1:(Option.isSome (some l:Option (List Tm)))=true:=rfl
 rw[e1]at we
 have ku:Sl u l:=ku
 obtain⟨f,ef⟩:=ku.eq
 have fl:=qW (v:=u) (k:=5) ku.row
 have er:AV.agg [.int .i64 5,.int .i64 0,.str [],.int .u32 0,.ax,u]=.agg (tc (.mk 5 0 [] 0 none [] f l)):=by rw[ef];rfl
 refine⟨f,fun h=>ad rfl rfl rfl (by simp only[bdk,kv.ae]) ?_⟩
 simp only[xk,yM,ah.bbw,aw,reduceIte,Nat.reduceEqDiff,aW,Nat.reduceAdd,t3,aD,bQ,UInt8.reduceToNat,x0,lA,ai (we _),fl,er]
theorem Qy {v:AV} {r:Tm} {cd:Int} (hv:v.ae=true) (hr:∀h,WC env 68 [.str [116,117,112,108,101,95,116,111,95,108,105,115,116],v] h (fun o=>o=.ret ⟨.aF [.agg (tc r),.int .i64 cd],h,.none⟩)) (h:Heap):WC env 38 [.str [116,117,112,108,101,95,116,111,95,108,105,115,116],v] h (fun o=>o=.ret ⟨.aF [.agg (tc r),.int .i64 cd],h,.none⟩):=by
 have wp:∀h,WC env 66 [.str [116,117,112,108,101,95,116,111,95,108,105,115,116],.str [105,115,95]] h (fun o=>o=.ret ⟨.bool false,h,.none⟩):=fun h=>bu (n:=30) (by kernel_rfl)
 refine ad rfl rfl rfl (by simp only[bdk,hv]) ?_
 simp only[mf,mD,ah.bbw,aw,reduceIte,Nat.reduceEqDiff,aD,bQ,UInt8.reduceToNat,ai (wp _),ai (hr _),aW,Nat.reduceAdd,t3]
theorem VL {v:AV} {t:Tm} (kv:Sl v [t]) (k5:t.kind=5) (hn:t.args.length≤50000):∃f,∀h,WC env 68 [.str [116,117,112,108,101,95,116,111,95,108,105,115,116],v] h (fun o=>o=.ret ⟨.aF [.agg (tc (b_ t.args cI f)),.int .i64 0],h,.none⟩):=by
 obtain⟨A,x0,lA,nl⟩:=zA kv
 obtain⟨f,wl⟩:=sB (cW t) cI hn (by show(0:Nat)≤_;omega) (fun e=>by cases e)
 have z5:(t.kind==5)=true:=by simpa using k5
 refine⟨f,fun h=>ad rfl rfl rfl (by simp only[bdk,kv.ae]) ?_⟩
 simp only[xk,yM,ah.bbw,aw,reduceIte,Nat.reduceEqDiff,aW,Nat.reduceAdd,t3,aD,bQ,UInt8.reduceToNat,x0,lA,z5]
 refine aB ?_
 simp only[aw,reduceIte,Nat.reduceEqDiff,k3,aW,Nat.reduceAdd,t3,ai (xq _),ai (wl _)]
 rfl
theorem JW {v:AV} {t:Tm} (kv:Sl v [t]) (k5:t.kind≠5) (h:Heap):WC env 68 [.str [116,117,112,108,101,95,116,111,95,108,105,115,116],v] h (fun o=>o=.ret ⟨.aF [.agg (tc (bZ)),.int .i64 261],h,.none⟩):=by
 obtain⟨A,x0,lA,nl⟩:=zA kv
 have z5:(t.kind==5)=false:=by simpa using k5
 refine ad rfl rfl rfl (by simp only[bdk,kv.ae]) ?_
 simp only[xk,yM,ah.bbw,aw,reduceIte,Nat.reduceEqDiff,aW,Nat.reduceAdd,t3,aD,bQ,UInt8.reduceToNat,x0,lA,z5,bc]
end Go.Bf
namespace Go.Bf
open Go.AM
theorem T7:∀t:Tm,∀deep n d bcf n' d',n≤4096→d≤256→bcf ≤deep→n' ≤n→(cR t deep n d).1=none→(cR t bcf n' d').1=none∧(cR t bcf n' d').2.1≤(cR t deep n d).2.1:=by
 refine j7 fun k i s c nf ns af ar ih deep n d bcf n' d' hn hdd hd hn' h=> ?_
 have go:∀(l:List Tm),(∀t,t∈l→t∈ar)→∀deep n d bcf n' d',n≤4096→d≤256→bcf ≤deep→n' ≤n→(cH l deep n d).1=none→(cH l bcf n' d').1=none∧(cH l bcf n' d').2.1≤(cH l deep n d).2.1:=by
  intro l
  induction l with
  |nil=>intro _ _ _ _ _ _ _ _ _ _ h2 _;exact⟨rfl,h2⟩
  |cons t l ihl=>
   intro hl deep n d bcf n' d' hn hdd hd hn' h;rw[cH]at h⊢
   have h1:=ih t (hl t (by simp)) deep n d bcf n' d' hn hdd hd hn'
   have hle:=sI t deep n d hn hdd
   cases e:cR t deep n d with
   |mk r nd=>
    obtain⟨n1,d1⟩:=nd
    rw[e]at h h1 hle
    cases r with
    |some _=>cases h
    |none=>
     obtain⟨g1,g2⟩:=h1 rfl
     cases e' :cR t bcf n' d' with
     |mk r' nd' =>
      obtain⟨n1',d1'⟩:=nd'
      rw[e']at g1 g2
      have g1:r' =none:=g1
      subst g1;have h:(cH l deep n1 d1).1=none:=h
      have:=ihl (fun t m=>hl t (by simp[m])) deep n1 d1 bcf n1' d1' hle.1 hle.2 hd g2 h
      rw[cH,e];exact this
 rw[cR]at h⊢
 split at h
 ·cases h
 rename_i c1;split at h
 ·cases h
 rename_i c2;rw[if_neg (by omega),if_neg (by omega)]
 cases ef:bw (.mk k i s c nf ns af ar)with
 |some x=>rw[ef]at h;cases h
 |none=>
  rw[ef]at h
  have:=go ar (fun _ m=>m) (deep+1) (n+1) (max d deep) (bcf +1) (n' +1) (max d' bcf) (by omega) (by omega) (by omega) (by omega) h
  rw[cR,if_neg c1,if_neg c2,ef];exact this
theorem vO (t:Tm):dk t=true↔hJ t=none:=by
 rw[dk];split
 ·rename_i e;simp[e]
 ·rename_i e;simp[e]
theorem J2 {t:Tm} (h:dk t=true):∀x,x∈t.args→dk x=true:=by
 rcases t with⟨k,i,s,c,nf,ns,af,ar⟩
 rw[vO,hJ,cR]at h
 rw[if_neg (by decide),if_neg (by decide)]at h
 cases ef:bw (.mk k i s c nf ns af ar)with
 |some x=>rw[ef]at h;cases h
 |none=>
  rw[ef]at h
  have go:∀(l:List Tm) deep n d,n≤4096→d≤256→1≤deep→(cH l deep n d).1=none→∀x,x∈l→dk x=true:=by
   intro l
   induction l with
   |nil=>intro _ _ _ _ _ _ _ x m;simp at m
   |cons t l ihl=>
    intro deep n d hn hd bcr h x m;rw[cH]at h
    have hle:=sI t deep n d hn hd
    cases e:cR t deep n d with
    |mk r nd=>
     obtain⟨n1,d1⟩:=nd
     rw[e]at h hle
     cases r with
     |some _=>cases h
     |none=>
      have h:(cH l deep n1 d1).1=none:=h
      rcases bbi.1 m with rfl|m
      ·rw[vO,hJ]
       exact(T7 x deep n d 1 0 0 hn hd bcr (Nat.zero_le _) (by rw[e])).1
      ·exact ihl deep n1 d1 hle.1 hle.2 bcr h x m
  exact go ar _ _ _ (by omega) (by omega) (by omega) h
theorem pG:∀l:List Tm,kY l=l.map er
 |[]=>rfl
 |t::l=>by rw[kY,pG l];rfl
theorem iS (t:Tm):(er t).args=kY t.args:=by cases t;rfl
theorem BB {l m:List Tm} (h:kY l=kY m) (f g:Option Bool):er (b_ l cI f)=er (b_ m cI g):=by
 have hlen:l.length=m.length:=by rw[←eE l,h,eE]
 have e7:¬cI.kind=7:=by decide
 by_cases hl:l=[]
 ·subst hl
  have hm:m=[]:=bay.1 hlen.symm
  subst hm;rfl
 ·have hm:m≠[]:=fun e=>hl (bay.1 (by rw[hlen,e];rfl))
  rw[b_,b_,if_neg hl,if_neg hm,if_neg e7,er,er,mb,mb,h]
theorem ok_int {n:Int} (h:Small n):(fD n).Ok:=by
 rw[fD,Tm.Ok,gW];exact⟨⟨by decide,by decide⟩,⟨by have:=h.1;omega,by have:=h.2;omega⟩,⟨by decide,by decide⟩,by simp,by decide,by decide,by decide,trivial⟩
theorem nK:∀{l:List Tm},(∀x,x∈l→x.Ok)→gW l
 |[],_=>trivial
 |t::l,h=>⟨h t (by simp),nK fun x m=>h x (by simp[m])⟩
theorem pH:cI.Ok:=by
 rw[cI,Tm.Ok,gW];exact⟨⟨by decide,by decide⟩,⟨by decide,by decide⟩,⟨by decide,by decide⟩,by simp,by decide,by decide,by decide,trivial⟩
theorem iO {l:List Tm} {t:Tm} (h:gW l) (ht:t.Ok) (f:Option Bool) (hn:l.length≤1000000000) (hm:t.args.length≤1000000000):(b_ l t f).Ok:=by
 rw[b_];split
 ·exact ht
 ·split
  ·rw[Tm.Ok]
   exact⟨⟨by decide,by decide⟩,⟨by decide,by decide⟩,⟨by decide,by decide⟩,by simp,by decide,by decide,by rw[ban];omega,p_ h (eP ht)⟩
  ·rw[Tm.Ok]
   exact⟨⟨by decide,by decide⟩,⟨by decide,by decide⟩,⟨by decide,by decide⟩,by simp,by decide,by decide,by rw[ban];simp;omega,p_ h ⟨ht,trivial⟩⟩
end Go.Bf
namespace Go.Bf
open Go.AM
theorem FN {v:AV} {a b r:Tm} {cd:Int} (kv:Sl v [a,b]) (hr:∀h,WC env 60 [.str [43],.agg (tc a),.agg (tc b)] h (fun o=>o=.ret ⟨.aF [.agg (tc r),.int .i64 cd],h,.none⟩)) (h:Heap):WC env 38 [.str [43],v] h (fun o=>o=.ret ⟨.aF [.agg (tc r),.int .i64 cd],h,.none⟩):=by
 obtain⟨A,B,x0,x1,lA,lB,nl⟩:=ql kv
 have u0:((2:Int)==1)=false:=rfl
 refine ad rfl rfl rfl (by simp only[bdk,kv.ae]) ?_
 simp only[mf,mD,ah.bbw,aw,reduceIte,Nat.reduceEqDiff,aD,bQ,UInt8.reduceToNat,nl,u0,h3,if_true,jae]
 refine aB ?_
 simp only[aw,reduceIte,Nat.reduceEqDiff,k3,h3,Nat.reduceAdd,true_and,t3,x0,x1,lA,lB,ai (hr _),jad,jae,jaf,jai]
 rfl
theorem FO {v:AV} {a b r:Tm} {cd:Int} (kv:Sl v [a,b]) (hr:∀h,WC env 60 [.str [45],.agg (tc a),.agg (tc b)] h (fun o=>o=.ret ⟨.aF [.agg (tc r),.int .i64 cd],h,.none⟩)) (h:Heap):WC env 38 [.str [45],v] h (fun o=>o=.ret ⟨.aF [.agg (tc r),.int .i64 cd],h,.none⟩):=by
 obtain⟨A,B,x0,x1,lA,lB,nl⟩:=ql kv
 have u0:((2:Int)==1)=false:=rfl
 refine ad rfl rfl rfl (by simp only[bdk,kv.ae]) ?_
 simp only[mf,mD,ah.bbw,aw,reduceIte,Nat.reduceEqDiff,aD,bQ,UInt8.reduceToNat,nl,u0,h3,if_true,jae]
 refine aB ?_
 simp only[aw,reduceIte,Nat.reduceEqDiff,k3,h3,Nat.reduceAdd,true_and,t3,x0,x1,lA,lB,ai (hr _),jad,jae,jaf,jai]
 rfl
theorem zO {v:AV} {a b r:Tm} {cd:Int} (kv:Sl v [a,b]) (hr:∀h,WC env 60 [.str [42],.agg (tc a),.agg (tc b)] h (fun o=>o=.ret ⟨.aF [.agg (tc r),.int .i64 cd],h,.none⟩)) (h:Heap):WC env 38 [.str [42],v] h (fun o=>o=.ret ⟨.aF [.agg (tc r),.int .i64 cd],h,.none⟩):=by
 obtain⟨A,B,x0,x1,lA,lB,nl⟩:=ql kv
 have u0:((2:Int)==1)=false:=rfl
 refine ad rfl rfl rfl (by simp only[bdk,kv.ae]) ?_
 simp only[mf,mD,ah.bbw,aw,reduceIte,Nat.reduceEqDiff,aD,bQ,UInt8.reduceToNat,nl,u0,h3,if_true,jae]
 refine aB ?_
 simp only[aw,reduceIte,Nat.reduceEqDiff,k3,h3,Nat.reduceAdd,true_and,t3,x0,x1,lA,lB,ai (hr _),jad,jae,jaf,jai]
 rfl
theorem zB {v:AV} {a b r:Tm} {cd:Int} (kv:Sl v [a,b]) (hr:∀h,WC env 60 [.str [100,105,118],.agg (tc a),.agg (tc b)] h (fun o=>o=.ret ⟨.aF [.agg (tc r),.int .i64 cd],h,.none⟩)) (h:Heap):WC env 38 [.str [100,105,118],v] h (fun o=>o=.ret ⟨.aF [.agg (tc r),.int .i64 cd],h,.none⟩):=by
 obtain⟨A,B,x0,x1,lA,lB,nl⟩:=ql kv
 have u0:((2:Int)==1)=false:=rfl
 refine ad rfl rfl rfl (by simp only[bdk,kv.ae]) ?_
 simp only[mf,mD,ah.bbw,aw,reduceIte,Nat.reduceEqDiff,aD,bQ,UInt8.reduceToNat,nl,u0,h3,if_true,jae]
 refine aB ?_
 simp only[aw,reduceIte,Nat.reduceEqDiff,k3,h3,Nat.reduceAdd,true_and,t3,x0,x1,lA,lB,ai (hr _),jad,jae,jaf,jai]
 rfl
theorem zC {v:AV} {a b r:Tm} {cd:Int} (kv:Sl v [a,b]) (hr:∀h,WC env 60 [.str [114,101,109],.agg (tc a),.agg (tc b)] h (fun o=>o=.ret ⟨.aF [.agg (tc r),.int .i64 cd],h,.none⟩)) (h:Heap):WC env 38 [.str [114,101,109],v] h (fun o=>o=.ret ⟨.aF [.agg (tc r),.int .i64 cd],h,.none⟩):=by
 obtain⟨A,B,x0,x1,lA,lB,nl⟩:=ql kv
 have u0:((2:Int)==1)=false:=rfl
 refine ad rfl rfl rfl (by simp only[bdk,kv.ae]) ?_
 simp only[mf,mD,ah.bbw,aw,reduceIte,Nat.reduceEqDiff,aD,bQ,UInt8.reduceToNat,nl,u0,h3,if_true,jae]
 refine aB ?_
 simp only[aw,reduceIte,Nat.reduceEqDiff,k3,h3,Nat.reduceAdd,true_and,t3,x0,x1,lA,lB,ai (hr _),jad,jae,jaf,jai]
 rfl
theorem FL {v:AV} {a b r:Tm} {cd:Int} (kv:Sl v [a,b]) (hr:∀h,WC env 61 [.str [97,110,100],.agg (tc a),.agg (tc b)] h (fun o=>o=.ret ⟨.aF [.agg (tc r),.int .i64 cd],h,.none⟩)) (h:Heap):WC env 38 [.str [97,110,100],v] h (fun o=>o=.ret ⟨.aF [.agg (tc r),.int .i64 cd],h,.none⟩):=by
 obtain⟨A,B,x0,x1,lA,lB,nl⟩:=ql kv
 have u0:((2:Int)==1)=false:=rfl
 refine ad rfl rfl rfl (by simp only[bdk,kv.ae]) ?_
 simp only[mf,mD,ah.bbw,aw,reduceIte,Nat.reduceEqDiff,aD,bQ,UInt8.reduceToNat,h3,if_true,jae]
 refine aB ?_
 simp only[aw,reduceIte,Nat.reduceEqDiff,k3,h3,Nat.reduceAdd,true_and,t3,x0,x1,lA,lB,ai (hr _),jad,jae,jaf,jai]
 rfl
theorem L8 {v:AV} {a b r:Tm} {cd:Int} (kv:Sl v [a,b]) (hr:∀h,WC env 61 [.str [111,114],.agg (tc a),.agg (tc b)] h (fun o=>o=.ret ⟨.aF [.agg (tc r),.int .i64 cd],h,.none⟩)) (h:Heap):WC env 38 [.str [111,114],v] h (fun o=>o=.ret ⟨.aF [.agg (tc r),.int .i64 cd],h,.none⟩):=by
 obtain⟨A,B,x0,x1,lA,lB,nl⟩:=ql kv
 have u0:((2:Int)==1)=false:=rfl
 refine ad rfl rfl rfl (by simp only[bdk,kv.ae]) ?_
 simp only[mf,mD,ah.bbw,aw,reduceIte,Nat.reduceEqDiff,aD,bQ,UInt8.reduceToNat,h3,if_true,jae]
 refine aB ?_
 simp only[aw,reduceIte,Nat.reduceEqDiff,k3,h3,Nat.reduceAdd,true_and,t3,x0,x1,lA,lB,ai (hr _),jad,jae,jaf,jai]
 rfl
theorem FM {v:AV} {a b r:Tm} {cd:Int} (kv:Sl v [a,b]) (hr:∀h,WC env 61 [.str [120,111,114],.agg (tc a),.agg (tc b)] h (fun o=>o=.ret ⟨.aF [.agg (tc r),.int .i64 cd],h,.none⟩)) (h:Heap):WC env 38 [.str [120,111,114],v] h (fun o=>o=.ret ⟨.aF [.agg (tc r),.int .i64 cd],h,.none⟩):=by
 obtain⟨A,B,x0,x1,lA,lB,nl⟩:=ql kv
 have u0:((2:Int)==1)=false:=rfl
 refine ad rfl rfl rfl (by simp only[bdk,kv.ae]) ?_
 simp only[mf,mD,ah.bbw,aw,reduceIte,Nat.reduceEqDiff,aD,bQ,UInt8.reduceToNat,h3,if_true,jae]
 refine aB ?_
 simp only[aw,reduceIte,Nat.reduceEqDiff,k3,h3,Nat.reduceAdd,true_and,t3,x0,x1,lA,lB,ai (hr _),jad,jae,jaf,jai]
 rfl
theorem VP {v:AV} {a b r:Tm} {cd:Int} (kv:Sl v [a,b]) (hr:∀h,WC env 65 [.str [43,43],.agg (tc a),.agg (tc b)] h (fun o=>o=.ret ⟨.aF [.agg (tc r),.int .i64 cd],h,.none⟩)) (h:Heap):WC env 38 [.str [43,43],v] h (fun o=>o=.ret ⟨.aF [.agg (tc r),.int .i64 cd],h,.none⟩):=by
 obtain⟨A,B,x0,x1,lA,lB,nl⟩:=ql kv
 have u0:((2:Int)==1)=false:=rfl
 refine ad rfl rfl rfl (by simp only[bdk,kv.ae]) ?_
 simp only[mf,mD,ah.bbw,aw,reduceIte,Nat.reduceEqDiff,aD,bQ,UInt8.reduceToNat,h3,if_true,jae]
 refine aB ?_
 simp only[aw,reduceIte,Nat.reduceEqDiff,k3,h3,Nat.reduceAdd,true_and,t3,x0,x1,lA,lB,ai (hr _),jad,jae,jaf,jai]
 rfl
theorem Mf {v:AV} {a b r:Tm} {cd:Int} (kv:Sl v [a,b]) (hr:∀h,WC env 65 [.str [45,45],.agg (tc a),.agg (tc b)] h (fun o=>o=.ret ⟨.aF [.agg (tc r),.int .i64 cd],h,.none⟩)) (h:Heap):WC env 38 [.str [45,45],v] h (fun o=>o=.ret ⟨.aF [.agg (tc r),.int .i64 cd],h,.none⟩):=by
 obtain⟨A,B,x0,x1,lA,lB,nl⟩:=ql kv
 have u0:((2:Int)==1)=false:=rfl
 refine ad rfl rfl rfl (by simp only[bdk,kv.ae]) ?_
 simp only[mf,mD,ah.bbw,aw,reduceIte,Nat.reduceEqDiff,aD,bQ,UInt8.reduceToNat,h3,if_true,jae]
 refine aB ?_
 simp only[aw,reduceIte,Nat.reduceEqDiff,k3,h3,Nat.reduceAdd,true_and,t3,x0,x1,lA,lB,ai (hr _),jad,jae,jaf,jai]
 rfl
theorem ahn {v:AV} {a b:Tm} (kv:Sl v [a,b]) (oka:a.Ok) (okb:b.Ok) (ta:dk a=true) (tb:dk b=true) (h:Heap):WC env 38 [.str [61,61],v] h (fun o=>o=.ret ⟨.aF [.agg (tc (dN (bV a b==0))),.int .i64 0],h,.none⟩):=by
 obtain⟨A,B,x0,x1,lA,lB,nl⟩:=ql kv
 refine ad rfl rfl rfl (by simp only[bdk,kv.ae]) ?_
 simp only[mf,mD,ah.bbw,aw,reduceIte,Nat.reduceEqDiff,aD,bQ,UInt8.reduceToNat,h3,if_true,jae]
 refine aB ?_
 simp only[aw,reduceIte,Nat.reduceEqDiff,k3,h3,Nat.reduceAdd,true_and,t3,x0,x1,lA,lB,ai (dJ a b oka okb ta tb _),ai (adt _ _),ai (cX _ _),jad,jae,jaf,jai]
 rfl
theorem aho {v:AV} {a b:Tm} (kv:Sl v [a,b]) (oka:a.Ok) (okb:b.Ok) (ta:dk a=true) (tb:dk b=true) (h:Heap):WC env 38 [.str [47,61],v] h (fun o=>o=.ret ⟨.aF [.agg (tc (dN (bV a b !=0))),.int .i64 0],h,.none⟩):=by
 obtain⟨A,B,x0,x1,lA,lB,nl⟩:=ql kv
 refine ad rfl rfl rfl (by simp only[bdk,kv.ae]) ?_
 simp only[mf,mD,ah.bbw,aw,reduceIte,Nat.reduceEqDiff,aD,bQ,UInt8.reduceToNat,h3,if_true,jae]
 refine aB ?_
 simp only[aw,reduceIte,Nat.reduceEqDiff,k3,h3,Nat.reduceAdd,true_and,t3,x0,x1,lA,lB,ai (dJ a b oka okb ta tb _),ai (adv _ _),ai (cX _ _),jad,jae,jaf,jai]
 rfl
theorem ahp {v:AV} {a b:Tm} (kv:Sl v [a,b]) (oka:a.Ok) (okb:b.Ok) (ta:dk a=true) (tb:dk b=true) (h:Heap):WC env 38 [.str [61,60],v] h (fun o=>o=.ret ⟨.aF [.agg (tc (dN (decide (bV a b≤0)))),.int .i64 0],h,.none⟩):=by
 obtain⟨A,B,x0,x1,lA,lB,nl⟩:=ql kv
 refine ad rfl rfl rfl (by simp only[bdk,kv.ae]) ?_
 simp only[mf,mD,ah.bbw,aw,reduceIte,Nat.reduceEqDiff,aD,bQ,UInt8.reduceToNat,h3,if_true,jae]
 refine aB ?_
 simp only[aw,reduceIte,Nat.reduceEqDiff,k3,h3,Nat.reduceAdd,true_and,t3,x0,x1,lA,lB,ai (dJ a b oka okb ta tb _),ai (ajD _ _),ai (cX _ _),jad,jae,jaf,jai]
 rfl
theorem ahq {v:AV} {a b:Tm} (kv:Sl v [a,b]) (oka:a.Ok) (okb:b.Ok) (ta:dk a=true) (tb:dk b=true) (h:Heap):WC env 38 [.str [60],v] h (fun o=>o=.ret ⟨.aF [.agg (tc (dN (decide (bV a b<0)))),.int .i64 0],h,.none⟩):=by
 obtain⟨A,B,x0,x1,lA,lB,nl⟩:=ql kv
 refine ad rfl rfl rfl (by simp only[bdk,kv.ae]) ?_
 simp only[mf,mD,ah.bbw,aw,reduceIte,Nat.reduceEqDiff,aD,bQ,UInt8.reduceToNat,h3,if_true,jae]
 refine aB ?_
 simp only[aw,reduceIte,Nat.reduceEqDiff,k3,h3,Nat.reduceAdd,true_and,t3,x0,x1,lA,lB,ai (dJ a b oka okb ta tb _),ai (ajE _ _),ai (cX _ _),jad,jae,jaf,jai]
 rfl
theorem ahr {v:AV} {a b:Tm} (kv:Sl v [a,b]) (oka:a.Ok) (okb:b.Ok) (ta:dk a=true) (tb:dk b=true) (h:Heap):WC env 38 [.str [62,61],v] h (fun o=>o=.ret ⟨.aF [.agg (tc (dN (decide (bV a b≥0)))),.int .i64 0],h,.none⟩):=by
 obtain⟨A,B,x0,x1,lA,lB,nl⟩:=ql kv
 refine ad rfl rfl rfl (by simp only[bdk,kv.ae]) ?_
 simp only[mf,mD,ah.bbw,aw,reduceIte,Nat.reduceEqDiff,aD,bQ,UInt8.reduceToNat,h3,if_true,jae]
 refine aB ?_
 simp only[aw,reduceIte,Nat.reduceEqDiff,k3,h3,Nat.reduceAdd,true_and,t3,x0,x1,lA,lB,ai (dJ a b oka okb ta tb _),ai (ajF _ _),ai (cX _ _),jad,jae,jaf,jai]
 rfl
theorem ahs {v:AV} {a b:Tm} (kv:Sl v [a,b]) (oka:a.Ok) (okb:b.Ok) (ta:dk a=true) (tb:dk b=true) (h:Heap):WC env 38 [.str [62],v] h (fun o=>o=.ret ⟨.aF [.agg (tc (dN (decide (bV a b>0)))),.int .i64 0],h,.none⟩):=by
 obtain⟨A,B,x0,x1,lA,lB,nl⟩:=ql kv
 refine ad rfl rfl rfl (by simp only[bdk,kv.ae]) ?_
 simp only[mf,mD,ah.bbw,aw,reduceIte,Nat.reduceEqDiff,aD,bQ,UInt8.reduceToNat,h3,if_true,jae]
 refine aB ?_
 simp only[aw,reduceIte,Nat.reduceEqDiff,k3,h3,Nat.reduceAdd,true_and,t3,x0,x1,lA,lB,ai (dJ a b oka okb ta tb _),ai (ajG _ _),ai (cX _ _),jad,jae,jaf,jai]
 rfl
theorem abJ {v:AV} {a b:Tm} (kv:Sl v [a,b]) (oka:a.Ok) (okb:b.Ok) (ta:dk a=true) (tb:dk b=true) (h:Heap):WC env 38 [.str [61,58,61],v] h (fun o=>o=.ret ⟨.aF [.agg (tc (dN (bV a b==0))),.int .i64 0],h,.none⟩):=by
 obtain⟨A,B,x0,x1,lA,lB,nl⟩:=ql kv
 refine ad rfl rfl rfl (by simp only[bdk,kv.ae]) ?_
 simp only[mf,mD,ah.bbw,aw,reduceIte,Nat.reduceEqDiff,aD,bQ,UInt8.reduceToNat,h3,if_true,jae]
 refine aB ?_
 simp only[aw,reduceIte,Nat.reduceEqDiff,k3,h3,Nat.reduceAdd,true_and,t3,x0,x1,lA,lB,ai (dJ a b oka okb ta tb _),ai (adu _ _),ai (cX _ _),jad,jae,jaf,jai]
 rfl
theorem abL {v:AV} {a b:Tm} (kv:Sl v [a,b]) (oka:a.Ok) (okb:b.Ok) (ta:dk a=true) (tb:dk b=true) (h:Heap):WC env 38 [.str [61,47,61],v] h (fun o=>o=.ret ⟨.aF [.agg (tc (dN (bV a b !=0))),.int .i64 0],h,.none⟩):=by
 obtain⟨A,B,x0,x1,lA,lB,nl⟩:=ql kv
 refine ad rfl rfl rfl (by simp only[bdk,kv.ae]) ?_
 simp only[mf,mD,ah.bbw,aw,reduceIte,Nat.reduceEqDiff,aD,bQ,UInt8.reduceToNat,h3,if_true,jae]
 refine aB ?_
 simp only[aw,reduceIte,Nat.reduceEqDiff,k3,h3,Nat.reduceAdd,true_and,t3,x0,x1,lA,lB,ai (dJ a b oka okb ta tb _),ai (adw _ _),ai (cX _ _),jad,jae,jaf,jai]
 rfl
theorem abQ {v:AV} {a b:Tm} (kv:Sl v [a,b]) (oka:a.Ok) (okb:b.Ok) (ta:dk a=true) (tb:dk b=true) (h:Heap):WC env 38 [.str [109,97,120],v] h (fun o=>o=.ret ⟨.aF [.agg (tc (if bV a b<0 then b else a)),.int .i64 0],h,.none⟩):=by
 obtain⟨A,B,x0,x1,lA,lB,nl⟩:=ql kv
 have m0:(([109,97,120]:List UInt8)==[109,97,120])=true:=by decide
 have m1:(([109,97,120]:List UInt8)==[109,105,110])=false:=by decide
 refine ad rfl rfl rfl (by simp only[bdk,kv.ae]) ?_
 simp only[mf,mD,ah.bbw,aw,reduceIte,Nat.reduceEqDiff,aD,bQ,UInt8.reduceToNat,h3,if_true,jae]
 refine aB ?_
 by_cases c:bV a b<0
 ·have z:(bV a b<0)=True:=eq_true c
  simp only[aw,reduceIte,Nat.reduceEqDiff,k3,h3,Nat.reduceAdd,true_and,t3,aD,m0,z,x0,x1,lA,lB,ai (dJ a b oka okb ta tb _),jad,jae,jaf,jai]
  rfl
 ·have z:(bV a b<0)=False:=eq_false c
  simp only[aw,Nat.reduceEqDiff,k3,h3,Nat.reduceAdd,true_and,t3,aD,m0,m1,z,x0,x1,lA,lB,if_false,ai (dJ a b oka okb ta tb _),jad,jae,jaf,jai]
  rfl
theorem abR {v:AV} {a b:Tm} (kv:Sl v [a,b]) (oka:a.Ok) (okb:b.Ok) (ta:dk a=true) (tb:dk b=true) (h:Heap):WC env 38 [.str [109,105,110],v] h (fun o=>o=.ret ⟨.aF [.agg (tc (if bV a b>0 then b else a)),.int .i64 0],h,.none⟩):=by
 obtain⟨A,B,x0,x1,lA,lB,nl⟩:=ql kv
 have m0:(([109,105,110]:List UInt8)==[109,97,120])=false:=by decide
 have m1:(([109,105,110]:List UInt8)==[109,105,110])=true:=by decide
 refine ad rfl rfl rfl (by simp only[bdk,kv.ae]) ?_
 simp only[mf,mD,ah.bbw,aw,reduceIte,Nat.reduceEqDiff,aD,bQ,UInt8.reduceToNat,h3,if_true,jae]
 refine aB ?_
 by_cases c:bV a b>0
 ·have z:(bV a b>0)=True:=eq_true c
  simp only[aw,reduceIte,Nat.reduceEqDiff,k3,h3,Nat.reduceAdd,true_and,t3,aD,m0,m1,z,x0,x1,lA,lB,ai (dJ a b oka okb ta tb _),jad,jae,jaf,jai]
  rfl
 ·have z:(bV a b>0)=False:=eq_false c
  simp only[aw,Nat.reduceEqDiff,k3,h3,Nat.reduceAdd,true_and,t3,aD,m0,m1,z,x0,x1,lA,lB,if_false,ai (dJ a b oka okb ta tb _),jad,jae,jaf,jai]
  rfl
end Go.Bf
namespace Go.Bf
open Go.AM
theorem bR (b:Bool):(dN b).Ok:=by
 cases b<;>(rw[dN,gZ,Tm.Ok,gW];exact⟨⟨by decide,by decide⟩,⟨by decide,by decide⟩,⟨by decide,by decide⟩,by simp,by decide,by decide,by decide,trivial⟩)
def Ju:y9→Int
 |none=>0
 |some (_,_,none)=>1
 |some (_,_,some _)=>2
theorem sj (x:y9) (h:Heap):aN false h (dP x)=some ⟨.int .i64 (Ju x),h,.none⟩:=by
 rcases x with _|⟨a,c,_|⟨p,d⟩⟩<;>rfl
theorem Qp {t:Tm} (h:dk t=true):hJ t=none:=by
 rw[dk]at h;split at h
 ·assumption
 ·cases h
theorem Vm {t:Tm} (h:dk t=false):Ju (hJ t)>0:=by
 rw[dk]at h;split at h
 ·cases h
 ·rename_i e
  rw[e];rename_i x
  rcases x with⟨a,c,_|⟨p,d⟩⟩<;>simp[Ju]
section
variable {σ : ah} {h : Heap} {a b x y : Tm} (ho : an h) (ha : h.at_ 0 0 = some (tc a)) (hb : h.at_ 1 0 = some (tc b)) (g2 : σ.get 2 =.ptr 0 0 0) (g3 : σ.get 3 =.ptr 1 0 0) (g5 : σ.get 5 =.int .i64 1)
  (oka : a.Ok) (okb : b.Ok) (okx : x.Ok) (oky : y.Ok) (tx : dk x = true) (ty : dk y = true) (hc : bV x y ≥ 0)
  (wx : ∀ h, WC env 18 [.str [109, 97, 120],.fs true 2 (tc a ++ tc b)] h (fun o => o =.ret ⟨.aF [.agg (tc x),.bL], h,.none⟩))
  (wy : ∀ h, WC env 18 [.str [109, 105, 110],.fs true 2 (tc a ++ tc b)] h (fun o => o =.ret ⟨.aF [.agg (tc y),.bL], h,.none⟩))
include ho ha hb g2 g3 g5 oka okb okx oky tx ty hc wx wy
end
end Go.Bf
namespace Go.Bf
open Go.AM
theorem lZ {v:AV} {l:List Tm} (k:Sl v l) (tail:Tm) (hn:l.length≤100000000) (hm:tail.args.length≤100000000):∃f,∀h,WC env 41 [v,.agg (tc tail)] h (fun o=>o=.ret ⟨.agg (tc (b_ l tail f)),h,.none⟩):=by
 have hr:AV.aj [v,.agg (tc tail)]=true:=by simp only[bdk,k.ae,az]
 have nl:=k.len
 by_cases hl:l=[]
 ·refine⟨none,fun h=>ad rfl rfl rfl hr ?_⟩
  have z0:(((l.length:Nat):Int)==0)=true:=by rw[hl];rfl
  rw[b_,if_pos hl];simp only[a41,Em,En,VW,ah.bbw,aw,reduceIte,Nat.reduceEqDiff,aW,Nat.reduceAdd,t3,nl,z0]
 have ll:l.length≠0:=fun e=>hl (bay.1 e)
 have z0:(((l.length:Nat):Int)==0)=false:=by simp;omega
 have hw:WC env 41 [v,.agg (tc tail)] .empty (fun o=>∃f,o=.ret ⟨.agg (tc (b_ l tail f)),.empty,.none⟩):=by
  refine ad rfl rfl rfl hr ?_
  obtain⟨H,eH⟩:∃H,H=(Heap.empty.new (tc tail)).new [.int .i64 0,.int .i64 0,.str [],.int .u32 0,.ax,.ax]:=⟨_,rfl⟩
  have ho:an H:=by rw[eH];exact(an.empty.new _).new _
  have b0:H.at_ 0 0=some (tc tail):=by rw[eH];simp only[aW,reduceIte,Nat.reduceEqDiff]
  have b1:H.at_ 1 0=some aK:=by rw[eH];simp only[aW,reduceIte,Nat.reduceEqDiff];rfl
  have hn2:H.next=2:=by rw[eH];rfl
  have y1:bY [] []=some []:=rfl
  obtain⟨c0,hc0⟩:=(k.src H).cells
  obtain⟨v1,g1,c1,w1,k1,lb1,ho1,ow1,n1⟩:=Acc.append (bt:=88) ho (by omega:0<6) (Acc.full (h:=H) (sz:=6) 0 [] rfl) (m:=0) rfl (k.src H).len hc0 (bl l) (by omega) (by omega)
  rw[bbe]at k1
  rw[baf]at n1
  have fr1:∀id,v1.own=some id→2≤id:=fun id e=>(ow1 id e).elim (fun e2=>by cases e2) (fun e2=>by omega)
  have b0' :g1.at_ 0 0=some (tc tail):=lb1.2 _ _ _ (fun e=>by cases e) b0
  have b1' :g1.at_ 1 0=some aK:=lb1.2 _ _ _ (fun e=>by cases e) b1
  have fin:∀(y:AV) (more:List Tm) (c:dB),cr y=some more.length→aT g1 6 more.length y=some (bq more,c)→more.length≤100000000→(more=if tail.kind=7 then tail.args else[tail])→
    ∃v2 g2 c2,b9 g1 6 88 v1 y=some ⟨v2,g2,c2⟩∧an g2∧g2.at_ 1 0=some aK∧v2.row=some [v2]∧∃f,xX (g2.cD 1 0 [.int .i64 7,.int .i64 0,.str [],.int .u32 0,.ax,v2]) (.agg [.int .i64 7,.int .i64 0,.str [],.int .u32 0,.ax,v2]) (.agg (tc (b_ l tail f))):=by
   intro y more c hy hc hmore hmo;obtain⟨v2,g2,c2,w2,k2,lb2,ho2,ow2,n2⟩:=Acc.append (bt:=88) ho1 (by omega:0<6) k1 n1 hy hc (bl more) (by omega) (by omega)
   have d1:g2.at_ 1 0=some aK:=lb2.2 _ _ _ (fun e=>by have:=fr1 _ e;omega) b1'
   have fr2:∀id,v2.own=some id→2≤id:=fun id e=>by
    rcases ow2 id e with e2|e2
    ·exact fr1 _ e2
    ·have:=lb1.1;omega
   have k3:Acc (g2.cD 1 0 [.int .i64 7,.int .i64 0,.str [],.int .u32 0,.ax,v2]) 6 v2 (bq l++bq more):=k2.wR (fJ (S:=fun j=>j=1) rfl) fun id e=>by have:=fr2 _ e;omega
   rw[←fG]at k3
   obtain⟨f,hf⟩:=sD k3 (eD _) n2
   refine⟨v2,g2,c2,w2,ho2,d1,k2.row,f,?_⟩
   rw[b_,if_neg hl,←hmo];refine lh ⟨_,_,rfl,(ay (v:=.int .i64 7) rfl).2 rfl,_,_,rfl,(ay (v:=.int .i64 0) rfl).2 rfl,_,_,rfl,(ay (v:=.str []) rfl).2 rfl,_,_,rfl,(ay (v:=.int .u32 0) rfl).2 rfl,_,_,rfl,(ay (v:=.ax) rfl).2 rfl,_,_,rfl,?_,rfl⟩
   rw[ban];exact hf
  by_cases e7:tail.kind=7
  ·have z7:(tail.kind==7)=true:=by simpa using e7
   have ka:=(cW tail).src g1
   obtain⟨c,hc⟩:=ka.cells
   obtain⟨v2,g2,c2,w2,ho2,d1,rw2,f,hf⟩:=fin (j2 tail) tail.args c ka.len hc hm (by rw[if_pos e7])
   have fl:=qW (v:=v2) (k:=7) rw2
   simp only[a41,Em,En,QC,QD,afk,ah.bbw,aw,reduceIte,Nat.reduceEqDiff,dH,aR,cG,cY,baf,←eH,nl,z0,y1,bbc,w1,iC c1,gh,aQ,b0',t3,z7,w2,iC c2,fl,cF,d1,Nat.reduceAdd,bab,and_self,jad,jaf]
   exact⟨[.agg [.int .i64 7,.int .i64 0,.str [],.int .u32 0,.ax,v2]],_,by simp only[Env.results,aa,reduceIte,Nat.reduceEqDiff,aQ,dC,E1,jab,jad],hf,f,rfl⟩
  ·have z7:(tail.kind==7)=false:=by simpa using e7
   have ht:bq [tail]=tc tail:=by simp[bq]
   obtain⟨v2,g2,c2,w2,ho2,d1,rw2,f,hf⟩:=fin (.fs true 1 (tc tail)) [tail] .none rfl (by rw[ht];exact J1 g1 tail) (by simp) (by rw[if_neg e7])
   have fl:=qW (v:=v2) (k:=7) rw2
   simp only[a41,Em,En,QC,QD,VX,ah.bbw,aw,reduceIte,Nat.reduceEqDiff,dH,aR,cG,cY,baf,←eH,nl,z0,y1,Nat.reduceMul,bbc,w1,iC c1,gh,aQ,b0',t3,z7,w2,iC c2,fl,cF,d1,Nat.reduceAdd,bab,and_self,jad,jaf]
   exact⟨[.agg [.int .i64 7,.int .i64 0,.str [],.int .u32 0,.ax,v2]],_,by simp only[Env.results,aa,reduceIte,Nat.reduceEqDiff,aQ,dC,E1,jab,jad],hf,f,rfl⟩
 obtain⟨o,hn,f,e⟩:=hw
 subst e;exact⟨f,fun h=>iP rfl rfl rfl hr ⟨_,hn,rfl⟩⟩
theorem an1 {k:Int}:bY [.int .i64 0,.int .i64 0,.str [],.int .u32 0,.ax,.ax] [(0,1,.int .i64 k)]=some [.int .i64 k,.int .i64 0,.str [],.int .u32 0,.ax,.ax]:=rfl
end Go.Bf
namespace Go.Bf
open Go.AM
theorem Sl.an2 {v:AV} {l:List Tm} (k:Sl v l) (hl:l≠[]):∃v',cU 6 v none (some (.int .i64 ((l.length-1:Nat):Int))) none=some v' ∧Sl v' l.dropLast:=by
 cases k with
 |nil=>exact absurd rfl hl
 |fs b l=>
  have hb:bounds l.length l.length none (some (.int .i64 ((l.length-1:Nat):Int))) none=some (0,l.length-1,l.length):=by
   simp only[bounds,oD (Nat.sub_le _ _),jab]
  refine⟨.fs (b&&l.length-1==l.length) (l.length-1) (bq l.dropLast),?_,?_⟩
  ·simp only[cU,bl,hb,baq,Nat.sub_zero,bbc,qV,List.dropLast_eq_take,jad]
  ·have:=Sl.fs (b&&l.length-1==l.length) l.dropLast
   rwa [List.length_dropLast]at this
theorem bB (t:Tm) (w:Wf t):∃v,Sl v ((bW t).getD [])∧∀h,WC env 116 [.agg (tc t)] h (fun o=>o=.ret ⟨.aF [v,.bool (bW t).isSome],h,.none⟩):=by
 obtain⟨hl,h2,_⟩:=j1 w
 have ka:=cW t
 have nl:=ka.len;have hr:AV.aj [.agg (tc t)]=true:=by simp only[bdk,az]
 by_cases k6:t.kind=6
 ·have e:bW t=some []:=by rw[bW,if_pos k6]
  have z6:(t.kind==6)=true:=by simpa using k6
  rw[e];refine⟨.ax,.nil,fun h=>ad rfl rfl rfl hr ?_⟩
  simp only[a116,Cx,Cy,Cz,CA,CB,CC,ah.bbw,aw,reduceIte,Nat.reduceEqDiff,aW,t3,z6,Option.isSome_some]
 have z6:(t.kind==6)=false:=by simpa using k6
 by_cases k7:t.kind=7
 ·have z7:(t.kind !=7)=false:=by simpa using k7
  have hm:IntKind.wrap .i64 ((t.args.length:Int)-1)=((t.args.length-1:Nat):Int):=aX (by have:=h2 k7;omega) (by omega)
  have hi:t.args.length-1<t.args.length:=by have:=h2 k7;omega
  have hne:t.args≠[]:=fun e=>by rw[e]at hi;simp at hi
  have lx:=ka.idx hi
  have lk:=ldk hi
  have d0:∀l:List AV,l.drop 0=l:=fun _=>rfl
  cases e6:EO t.args with
  |true=>
   have e:bW t=some t.args.dropLast:=by rw[bW,if_neg k6,if_pos ⟨k7,e6⟩]
   have zk:(t.args[t.args.length-1].kind !=6)=false:=by
    have:(t.args[t.args.length-1].kind==6)=true:=by rw[←oX _ hi];exact e6
    simp only[bne,this,baj]
   obtain⟨v,hv,kv⟩:=ka.an2 hne
   rw[e];refine⟨v,kv,fun h=>ad rfl rfl rfl hr ?_⟩
   have hvr:=kv.ae;simp only[a116,Cx,Cy,Cz,CA,CB,CC,ah.bbw,aw,reduceIte,Nat.reduceEqDiff,aW,t3,nl,z6,z7,hm,lx,d0,lk,zk,hv,hvr,Option.isSome_some]
  |false=>
   have e:bW t=none:=by rw[bW,if_neg k6,if_neg (fun h=>by rw[e6]at h;cases h.2)]
   have zk:(t.args[t.args.length-1].kind !=6)=true:=by
    have:(t.args[t.args.length-1].kind==6)=false:=by rw[←oX _ hi];exact e6
    simp only[bne,this,bak]
   rw[e];refine⟨.ax,.nil,fun h=>ad rfl rfl rfl hr ?_⟩
   simp only[a116,Cx,Cy,Cz,CA,CB,CC,ah.bbw,aw,reduceIte,Nat.reduceEqDiff,aW,t3,nl,z6,z7,hm,lx,d0,lk,zk,Option.isSome_none]
 ·have z7:(t.kind !=7)=true:=by simpa using k7
  have e:bW t=none:=by rw[bW,if_neg k6,if_neg (fun h=>k7 h.1)]
  rw[e];refine⟨.ax,.nil,fun h=>ad rfl rfl rfl hr ?_⟩
  simp only[a116,Cx,Cy,Cz,CA,CB,CC,ah.bbw,aw,reduceIte,Nat.reduceEqDiff,aW,t3,z6,z7,Option.isSome_none]
theorem bE {v:AV} {t:Tm} {l:List Tm} (k:Sl v (t::l)):aZ 6 v (.int .i64 0)=some (.fp (tc t++bq l)):=by
 have:=k.idx (i:=0) (by simp)
 rw[bbc,bah]at this
 exact this
theorem bJ {t:Tm} {R:List AV}:bp true 6 (tc t++R)=some (.agg (tc t)):=by cases t;rfl
theorem MW {v:AV} {t r:Tm} {l:List Tm} {cd:Int} (kv:Sl v (t::l)) (hr:∀h,WC env 117 [.str [104,100],v] h (fun o=>o=.ret ⟨.aF [.agg (tc r),.int .i64 cd],h,.none⟩)) (h:Heap):WC env 78 [.str [104,100],v] h (fun o=>o=.ret ⟨.aF [.agg (tc r),.int .i64 cd],h,.none⟩):=by
 have x0:=bE kv
 refine ad rfl rfl rfl (by simp only[bdk,kv.ae]) ?_
 simp only[wS,yi,ah.bbw,aw,reduceIte,Nat.reduceEqDiff,aD,bQ,UInt8.reduceToNat,x0,bJ,ai (hr _),aW,Nat.reduceAdd,t3]
theorem MX {v:AV} {t r:Tm} {l:List Tm} {cd:Int} (kv:Sl v (t::l)) (hr:∀h,WC env 117 [.str [116,108],v] h (fun o=>o=.ret ⟨.aF [.agg (tc r),.int .i64 cd],h,.none⟩)) (h:Heap):WC env 78 [.str [116,108],v] h (fun o=>o=.ret ⟨.aF [.agg (tc r),.int .i64 cd],h,.none⟩):=by
 have x0:=bE kv
 refine ad rfl rfl rfl (by simp only[bdk,kv.ae]) ?_
 simp only[wS,yi,ah.bbw,aw,reduceIte,Nat.reduceEqDiff,aD,bQ,UInt8.reduceToNat,x0,bJ,ai (hr _),aW,Nat.reduceAdd,t3]
theorem By {v:AV} {t r:Tm} {l:List Tm} {cd:Int} (kv:Sl v (t::l)) (hr:∀h,WC env 117 [.str [108,101,110,103,116,104],v] h (fun o=>o=.ret ⟨.aF [.agg (tc r),.int .i64 cd],h,.none⟩)) (h:Heap):WC env 78 [.str [108,101,110,103,116,104],v] h (fun o=>o=.ret ⟨.aF [.agg (tc r),.int .i64 cd],h,.none⟩):=by
 have x0:=bE kv
 refine ad rfl rfl rfl (by simp only[bdk,kv.ae]) ?_
 simp only[wS,yi,ah.bbw,aw,reduceIte,Nat.reduceEqDiff,aD,bQ,UInt8.reduceToNat,x0,bJ,ai (hr _),aW,Nat.reduceAdd,t3]
theorem mG {v:AV} {t r:Tm} {l:List Tm} {cd:Int} (kv:Sl v (t::l)) (hr:∀h,WC env 117 [.str [108,105,115,116,95,116,111,95,116,117,112,108,101],v] h (fun o=>o=.ret ⟨.aF [.agg (tc r),.int .i64 cd],h,.none⟩)) (h:Heap):WC env 78 [.str [108,105,115,116,95,116,111,95,116,117,112,108,101],v] h (fun o=>o=.ret ⟨.aF [.agg (tc r),.int .i64 cd],h,.none⟩):=by
 have x0:=bE kv
 refine ad rfl rfl rfl (by simp only[bdk,kv.ae]) ?_
 simp only[wS,yi,ah.bbw,aw,reduceIte,Nat.reduceEqDiff,aD,bQ,UInt8.reduceToNat,x0,bJ,ai (hr _),aW,Nat.reduceAdd,t3]
theorem qU {v:AV} {t r:Tm} {l:List Tm} {cd:Int} (kv:Sl v (t::l)) (hr:∀h,WC env 117 [.str [116,117,112,108,101,95,115,105,122,101],v] h (fun o=>o=.ret ⟨.aF [.agg (tc r),.int .i64 cd],h,.none⟩)) (h:Heap):WC env 78 [.str [116,117,112,108,101,95,115,105,122,101],v] h (fun o=>o=.ret ⟨.aF [.agg (tc r),.int .i64 cd],h,.none⟩):=by
 have x0:=bE kv
 refine ad rfl rfl rfl (by simp only[bdk,kv.ae]) ?_
 simp only[wS,yi,ah.bbw,aw,reduceIte,Nat.reduceEqDiff,aD,bQ,UInt8.reduceToNat,x0,bJ,ai (hr _),aW,Nat.reduceAdd,t3]
theorem mH {v:AV} {t r:Tm} {l:List Tm} {cd:Int} (kv:Sl v (t::l)) (hr:∀h,WC env 117 [.str [116,117,112,108,101,95,116,111,95,108,105,115,116],v] h (fun o=>o=.ret ⟨.aF [.agg (tc r),.int .i64 cd],h,.none⟩)) (h:Heap):WC env 78 [.str [116,117,112,108,101,95,116,111,95,108,105,115,116],v] h (fun o=>o=.ret ⟨.aF [.agg (tc r),.int .i64 cd],h,.none⟩):=by
 have x0:=bE kv
 refine ad rfl rfl rfl (by simp only[bdk,kv.ae]) ?_
 simp only[wS,yi,ah.bbw,aw,reduceIte,Nat.reduceEqDiff,aD,bQ,UInt8.reduceToNat,x0,bJ,ai (hr _),aW,Nat.reduceAdd,t3]
theorem yq {v:AV} {t r:Tm} {l:List Tm} {cd:Int} (kv:Sl v (t::l)) (hr:∀h,WC env 117 [.str [101,108,101,109,101,110,116],v] h (fun o=>o=.ret ⟨.aF [.agg (tc r),.int .i64 cd],h,.none⟩)) (h:Heap):WC env 78 [.str [101,108,101,109,101,110,116],v] h (fun o=>o=.ret ⟨.aF [.agg (tc r),.int .i64 cd],h,.none⟩):=by
 have x0:=bE kv
 refine ad rfl rfl rfl (by simp only[bdk,kv.ae]) ?_
 simp only[wS,yi,ah.bbw,aw,reduceIte,Nat.reduceEqDiff,aD,bQ,UInt8.reduceToNat,x0,bJ,ai (hr _),aW,Nat.reduceAdd,t3]
theorem kT {v:AV} {t r:Tm} {l:List Tm} {cd:Int} (kv:Sl v (t::l)) (hr:∀h,WC env 117 [.str [105,110,116,101,103,101,114,95,116,111,95,108,105,115,116],v] h (fun o=>o=.ret ⟨.aF [.agg (tc r),.int .i64 cd],h,.none⟩)) (h:Heap):WC env 78 [.str [105,110,116,101,103,101,114,95,116,111,95,108,105,115,116],v] h (fun o=>o=.ret ⟨.aF [.agg (tc r),.int .i64 cd],h,.none⟩):=by
 have x0:=bE kv
 refine ad rfl rfl rfl (by simp only[bdk,kv.ae]) ?_
 simp only[wS,yi,ah.bbw,aw,reduceIte,Nat.reduceEqDiff,aD,bQ,UInt8.reduceToNat,x0,bJ,ai (hr _),aW,Nat.reduceAdd,t3]
theorem oE {v:AV} {t r:Tm} {l:List Tm} {cd:Int} (kv:Sl v (t::l)) (hr:∀h,WC env 117 [.str [97,116,111,109,95,116,111,95,108,105,115,116],v] h (fun o=>o=.ret ⟨.aF [.agg (tc r),.int .i64 cd],h,.none⟩)) (h:Heap):WC env 78 [.str [97,116,111,109,95,116,111,95,108,105,115,116],v] h (fun o=>o=.ret ⟨.aF [.agg (tc r),.int .i64 cd],h,.none⟩):=by
 have x0:=bE kv
 refine ad rfl rfl rfl (by simp only[bdk,kv.ae]) ?_
 simp only[wS,yi,ah.bbw,aw,reduceIte,Nat.reduceEqDiff,aD,bQ,UInt8.reduceToNat,x0,bJ,ai (hr _),aW,Nat.reduceAdd,t3]
theorem iJ {v:AV} {t r:Tm} {l:List Tm} {cd:Int} (kv:Sl v (t::l)) (hr:∀h,WC env 117 [.str [108,105,115,116,95,116,111,95,105,110,116,101,103,101,114],v] h (fun o=>o=.ret ⟨.aF [.agg (tc r),.int .i64 cd],h,.none⟩)) (h:Heap):WC env 78 [.str [108,105,115,116,95,116,111,95,105,110,116,101,103,101,114],v] h (fun o=>o=.ret ⟨.aF [.agg (tc r),.int .i64 cd],h,.none⟩):=by
 have x0:=bE kv
 refine ad rfl rfl rfl (by simp only[bdk,kv.ae]) ?_
 simp only[wS,yi,ah.bbw,aw,reduceIte,Nat.reduceEqDiff,aD,bQ,UInt8.reduceToNat,x0,bJ,ai (hr _),aW,Nat.reduceAdd,t3]
theorem j4 {v:AV} {t r:Tm} {l:List Tm} {cd:Int} (kv:Sl v (t::l)) (hr:∀h,WC env 117 [.str [108,105,115,116,95,116,111,95,97,116,111,109],v] h (fun o=>o=.ret ⟨.aF [.agg (tc r),.int .i64 cd],h,.none⟩)) (h:Heap):WC env 78 [.str [108,105,115,116,95,116,111,95,97,116,111,109],v] h (fun o=>o=.ret ⟨.aF [.agg (tc r),.int .i64 cd],h,.none⟩):=by
 have x0:=bE kv
 refine ad rfl rfl rfl (by simp only[bdk,kv.ae]) ?_
 simp only[wS,yi,ah.bbw,aw,reduceIte,Nat.reduceEqDiff,aD,bQ,UInt8.reduceToNat,x0,bJ,ai (hr _),aW,Nat.reduceAdd,t3]
theorem JU {v:AV} {t:Tm} (kv:Sl v [t]) (w:Wf t) {l:List Tm} (e:bW t=some l) (h:Heap):WC env 117 [.str [108,101,110,103,116,104],v] h (fun o=>o=.ret ⟨.aF [.agg (tc (fD l.length)),.int .i64 0],h,.none⟩):=by
 have x0:=bE kv
 obtain⟨u,ku,wp⟩:=bB t w
 rw[e]at ku wp
 have nu:=ku.len;have nu:∀h,aN false h u=some ⟨.int .i64 l.length,h,.none⟩:=nu
 refine ad rfl rfl rfl (by simp only[bdk,kv.ae]) ?_
 simp only[a117,j3,ah.bbw,aw,reduceIte,Nat.reduceEqDiff,aD,bQ,UInt8.reduceToNat,x0,bJ,ai (wp _),Option.isSome_some,baj,nu,ai (dK _ _),aW,Nat.reduceAdd,t3]
theorem BA {v:AV} {t:Tm} (kv:Sl v [t]) (w:Wf t) (e:bW t=none) (h:Heap):WC env 117 [.str [108,101,110,103,116,104],v] h (fun o=>o=.ret ⟨.aF [.agg (tc bZ),.int .i64 261],h,.none⟩):=by
 have x0:=bE kv
 obtain⟨u,ku,wp⟩:=bB t w
 rw[e]at ku wp
 refine ad rfl rfl rfl (by simp only[bdk,kv.ae]) ?_
 simp only[a117,j3,ah.bbw,aw,reduceIte,Nat.reduceEqDiff,aD,bQ,UInt8.reduceToNat,x0,bJ,ai (wp _),Option.isSome_none,bak,bc,aW,Nat.reduceAdd,t3]
theorem qm {v:AV} {t:Tm} (kv:Sl v [t]) (w:Wf t) (e:bW t=none) (h:Heap):WC env 117 [.str [108,105,115,116,95,116,111,95,116,117,112,108,101],v] h (fun o=>o=.ret ⟨.aF [.agg (tc bZ),.int .i64 261],h,.none⟩):=by
 have x0:=bE kv
 obtain⟨u,ku,wp⟩:=bB t w
 rw[e]at ku wp
 refine ad rfl rfl rfl (by simp only[bdk,kv.ae]) ?_
 simp only[a117,j3,ah.bbw,aw,reduceIte,Nat.reduceEqDiff,aD,bQ,UInt8.reduceToNat,x0,bJ,ai (wp _),Option.isSome_none,bak,bc,aW,Nat.reduceAdd,t3]
theorem tN {v:AV} {t:Tm} (kv:Sl v [t]) (w:Wf t) {l:List Tm} (e:bW t=some l):∃f,∀h,WC env 117 [.str [108,105,115,116,95,116,111,95,116,117,112,108,101],v] h (fun o=>o=.ret ⟨.aF [.agg (tc (.mk 5 0 [] 0 none [] f l)),.int .i64 0],h,.none⟩):=by
 have x0:=bE kv
 obtain⟨u,ku,wp⟩:=bB t w
 rw[e]at ku wp
 have ku:Sl u l:=ku
 obtain⟨f,eu⟩:=ku.eq
 have hn:=ku.ae;have fl:bY [.int .i64 0,.int .i64 0,.str [],.int .u32 0,.ax,.ax] [(0,1,.int .i64 5),(5,1,u)]=some (tc (.mk 5 0 [] 0 none [] f l)):=by
  rw[eu];cases f with
  |none=>cases l<;>rfl
  |some b=>rfl
 refine⟨f,fun h=>ad rfl rfl rfl (by simp only[bdk,kv.ae]) ?_⟩
 simp only[a117,j3,ah.bbw,aw,reduceIte,Nat.reduceEqDiff,aD,bQ,UInt8.reduceToNat,x0,bJ,ai (wp _),Option.isSome_some,baj,fl,aW,Nat.reduceAdd,t3]
theorem tM {v:AV} {t:Tm} (kv:Sl v [t]) (w:Wf t) (k5:t.kind≠5) (h:Heap):WC env 117 [.str [116,117,112,108,101,95,115,105,122,101],v] h (fun o=>o=.ret ⟨.aF [.agg (tc bZ),.int .i64 261],h,.none⟩):=by
 have x0:=bE kv
 have z5:(t.kind !=5)=true:=by simpa using k5
 obtain⟨u,ku,wp⟩:=bB t w
 refine ad rfl rfl rfl (by simp only[bdk,kv.ae]) ?_
 simp only[a117,j3,ah.bbw,aw,reduceIte,Nat.reduceEqDiff,aD,bQ,UInt8.reduceToNat,x0,bJ,ai (wp _),z5,bc,aW,Nat.reduceAdd,t3]
theorem qn {v:AV} {t:Tm} (kv:Sl v [t]) (w:Wf t) (k5:t.kind≠5) (h:Heap):WC env 117 [.str [116,117,112,108,101,95,116,111,95,108,105,115,116],v] h (fun o=>o=.ret ⟨.aF [.agg (tc bZ),.int .i64 261],h,.none⟩):=by
 have x0:=bE kv
 have z5:(t.kind !=5)=true:=by simpa using k5
 obtain⟨u,ku,wp⟩:=bB t w
 refine ad rfl rfl rfl (by simp only[bdk,kv.ae]) ?_
 simp only[a117,j3,ah.bbw,aw,reduceIte,Nat.reduceEqDiff,aD,bQ,UInt8.reduceToNat,x0,bJ,ai (wp _),z5,bc,aW,Nat.reduceAdd,t3]
theorem yT {v:AV} {t:Tm} (kv:Sl v [t]) (w:Wf t) (k5:t.kind=5) (h:Heap):WC env 117 [.str [116,117,112,108,101,95,115,105,122,101],v] h (fun o=>o=.ret ⟨.aF [.agg (tc (fD t.args.length)),.int .i64 0],h,.none⟩):=by
 have x0:=bE kv
 have z5:(t.kind !=5)=false:=by simpa using k5
 have nu:=(cW t).len
 obtain⟨u,ku,wp⟩:=bB t w
 refine ad rfl rfl rfl (by simp only[bdk,kv.ae]) ?_
 simp only[a117,j3,ah.bbw,aw,reduceIte,Nat.reduceEqDiff,aD,bQ,UInt8.reduceToNat,x0,bJ,ai (wp _),z5,nu,ai (dK _ _),aW,Nat.reduceAdd,t3]
theorem tP {v:AV} {t:Tm} (kv:Sl v [t]) (w:Wf t) (k5:t.kind=5):∃f,∀h,WC env 117 [.str [116,117,112,108,101,95,116,111,95,108,105,115,116],v] h (fun o=>o=.ret ⟨.aF [.agg (tc (b_ t.args cI f)),.int .i64 0],h,.none⟩):=by
 have x0:=bE kv
 have z5:(t.kind !=5)=false:=by simpa using k5
 obtain⟨hl,_⟩:=j1 w
 obtain⟨u,ku,wp⟩:=bB t w
 obtain⟨f,wl⟩:=lZ (cW t) cI (by omega) (by show(0:Nat)≤_;omega)
 have wl:∀h,WC env 41 [j2 t,.agg [.int .i64 6,.int .i64 0,.str [],.int .u32 0,.ax,.ax]] h (fun o=>o=.ret ⟨.agg (tc (b_ t.args cI f)),h,.none⟩):=wl
 refine⟨f,fun h=>ad rfl rfl rfl (by simp only[bdk,kv.ae]) ?_⟩
 simp only[a117,j3,ah.bbw,aw,reduceIte,Nat.reduceEqDiff,aD,bQ,UInt8.reduceToNat,x0,bJ,ai (wp _),z5,an1,ai (wl _),aW,Nat.reduceAdd,t3]
end Go.Bf
namespace Go.Bf
open Go.AM
def jl (t u:Tm):Option Nat:=if t.kind=1∧u.kind=5∧1≤t.int∧t.int≤(u.args.length:Int)then some (t.int-1).toNat else none
def jI (t u:Tm):Int:=match jl t u with
 |some i=>(i:Int)
 |none=> -1
theorem pI {t u:Tm} {i:Nat} (h:jl t u=some i):t.kind=1∧u.kind=5∧i<u.args.length∧t.int=(i:Int)+1:=by
 rw[jl]at h
 split at h
 ·rename_i c
  cases h;exact⟨c.1,c.2.1,by omega,by omega⟩
 ·cases h
theorem lq (t u:Tm) (hu:u.args.length<1000000000) (h:Heap):WC env 110 [.agg (tc t),.agg (tc u)] h (fun o=>o=.ret ⟨.int .i64 (jI t u),h,.none⟩):=by
 have nu:=(cW u).len
 refine ad rfl rfl rfl (by simp only[bdk,az]) ?_
 by_cases c1:t.kind=1
 ·have z1:(t.kind !=1)=false:=by simpa using c1
  by_cases c2:u.kind=5
  ·have z2:(u.kind !=5)=false:=by simpa using c2
   by_cases c3:t.int<1
   ·have e:jI t u= -1:=by rw[jI,jl,if_neg (by omega)]
    have z3:(t.int<1)=True:=eq_true c3
    rw[e];simp only[O7,xC,xD,Cw,ah.bbw,aw,Nat.reduceEqDiff,aW,t3,z1,z2,z3,if_false]
   ·have z3:(t.int<1)=False:=eq_false c3
    by_cases c4:t.int>(u.args.length:Int)
    ·have e:jI t u= -1:=by rw[jI,jl,if_neg (by omega)]
     have z4:(t.int>(u.args.length:Int))=True:=eq_true c4
     rw[e];simp only[O7,xC,xD,Cw,ah.bbw,aw,Nat.reduceEqDiff,aW,t3,nu,z1,z2,z3,z4,if_false]
    ·have e:jI t u=t.int-1:=by
      rw[jI,jl,if_pos ⟨c1,c2,by omega,by omega⟩];show(((t.int-1).toNat:Nat):Int)=_
      omega
     have z4:(t.int>(u.args.length:Int))=False:=eq_false c4
     have w:IntKind.wrap .i64 (t.int-1)=t.int-1:=cV ⟨by omega,by omega⟩
     rw[e];simp only[O7,xC,xD,ZE,ah.bbw,aw,Nat.reduceEqDiff,aW,t3,nu,z1,z2,z3,z4,w,if_false]
  ·have z2:(u.kind !=5)=true:=by simpa using c2
   have e:jI t u= -1:=by rw[jI,jl,if_neg (fun h=>c2 h.2.1)]
   rw[e];simp only[O7,xC,xD,Cw,ah.bbw,aw,Nat.reduceEqDiff,aW,t3,z1,z2,if_false]
 ·have z1:(t.kind !=1)=true:=by simpa using c1
  have e:jI t u= -1:=by rw[jI,jl,if_neg (fun h=>c1 h.1)]
  rw[e];simp only[O7,xC,xD,Cw,ah.bbw,aw,Nat.reduceEqDiff,aW,t3,z1,if_false]
theorem iE {t:Tm} {R:List AV}:bp true 6 (tc t++R)=some (.agg (tc t)):=by cases t;rfl
theorem adz {t:Tm} {R:List AV}:bp false 1 ((tc t++R).drop 5)=some (j2 t):=by cases t;rfl
theorem yO {v:AV} {a b:Tm} (k:Sl v [a,b]):∃A B,aZ 6 v (.int .i64 0)=some (.fp (tc a++A))∧aZ 6 v (.int .i64 1)=some (.fp (tc b++B)):=by
 cases k with
 |fs b' l=>exact⟨bq [b],bq [],by cases a;rfl,by cases a;rfl⟩
theorem Wu {v:AV} {a b c:Tm} (k:Sl v [a,b,c]):∃A B C,aZ 6 v (.int .i64 0)=some (.fp (tc a++A))∧aZ 6 v (.int .i64 1)=some (.fp (tc b++B))∧aZ 6 v (.int .i64 2)=some (.fp (tc c++C)):=by
 cases k with
 |fs b' l=>exact⟨bq [b,c],bq [c],bq [],by cases a;rfl,by cases a;rfl,by cases a;cases b;rfl⟩
theorem yp {v:AV} {r:Tm} {cd:Int} (hv:v.ae=true) (hr:∀h,WC env 68 [.str [101,108,101,109,101,110,116],v] h (fun o=>o=.ret ⟨.aF [.agg (tc r),.int .i64 cd],h,.none⟩)) (h:Heap):WC env 38 [.str [101,108,101,109,101,110,116],v] h (fun o=>o=.ret ⟨.aF [.agg (tc r),.int .i64 cd],h,.none⟩):=by
 have wp:∀h,WC env 66 [.str [101,108,101,109,101,110,116],.str [105,115,95]] h (fun o=>o=.ret ⟨.bool false,h,.none⟩):=fun h=>bu (n:=30) (by kernel_rfl)
 refine ad rfl rfl rfl (by simp only[bdk,hv]) ?_
 simp only[mf,mD,ah.bbw,aw,reduceIte,Nat.reduceEqDiff,aD,bQ,UInt8.reduceToNat,ai (wp _),ai (hr _),aW,Nat.reduceAdd,t3]
theorem GY {v:AV} {t u:Tm} (kv:Sl v [t,u]) (hu:u.args.length<1000000000) {i:Nat} (e:jl t u=some i) (hi:i<u.args.length) (h:Heap):WC env 68 [.str [101,108,101,109,101,110,116],v] h (fun o=>o=.ret ⟨.aF [.agg (tc u.args[i]),.int .i64 0],h,.none⟩):=by
 obtain⟨A,B,x0,x1⟩:=yO kv
 have we:=lq t u hu
 have en:jI t u=(i:Int):=by rw[jI,e]
 rw[en]at we
 have z0:((i:Int)≥0)=True:=eq_true (by omega)
 have lx:=(cW u).idx hi
 have ld:bp true 6 ((bq u.args).drop (i*6))=some (.agg (tc u.args[i])):=by
  rw[gQ _ _ hi];exact iE
 refine ad rfl rfl rfl (by simp only[bdk,kv.ae]) ?_
 simp only[xk,yM,ah.bbw,aw,reduceIte,Nat.reduceEqDiff,aW,Nat.reduceAdd,t3,aD,bQ,UInt8.reduceToNat,x0,iE]
 refine aB ?_
 simp only[aw,reduceIte,Nat.reduceEqDiff,k3,aW,Nat.reduceAdd,t3,x1,iE,adz,ai (we _),z0,lx,ld]
 rfl
theorem yZ {v:AV} {t u:Tm} (kv:Sl v [t,u]) (hu:u.args.length<1000000000) (e:jl t u=none) (h:Heap):WC env 68 [.str [101,108,101,109,101,110,116],v] h (fun o=>o=.ret ⟨.aF [.agg (tc bZ),.int .i64 261],h,.none⟩):=by
 obtain⟨A,B,x0,x1⟩:=yO kv
 have we:=lq t u hu
 have en:jI t u= -1:=by rw[jI,e]
 rw[en]at we
 have z0:((-1:Int)≥0)=False:=eq_false (by decide)
 refine ad rfl rfl rfl (by simp only[bdk,kv.ae]) ?_
 simp only[xk,yM,ah.bbw,aw,reduceIte,Nat.reduceEqDiff,aW,Nat.reduceAdd,t3,aD,bQ,UInt8.reduceToNat,x0,iE]
 refine aB ?_
 simp only[aw,reduceIte,Nat.reduceEqDiff,k3,aW,Nat.reduceAdd,t3,x1,iE,ai (we _),z0,bc]
 rfl
theorem rm {v:AV} {r:Tm} {cd:Int} (hv:v.ae=true) (hr:∀h,WC env 68 [.str [115,101,116,101,108,101,109,101,110,116],v] h (fun o=>o=.ret ⟨.aF [.agg (tc r),.int .i64 cd],h,.none⟩)) (h:Heap):WC env 38 [.str [115,101,116,101,108,101,109,101,110,116],v] h (fun o=>o=.ret ⟨.aF [.agg (tc r),.int .i64 cd],h,.none⟩):=by
 have wp:∀h,WC env 66 [.str [115,101,116,101,108,101,109,101,110,116],.str [105,115,95]] h (fun o=>o=.ret ⟨.bool false,h,.none⟩):=fun h=>bu (n:=30) (by kernel_rfl)
 refine ad rfl rfl rfl (by simp only[bdk,hv]) ?_
 simp only[mf,mD,ah.bbw,aw,reduceIte,Nat.reduceEqDiff,aD,bQ,UInt8.reduceToNat,ai (wp _),ai (hr _),aW,Nat.reduceAdd,t3]
theorem GQ:∀(l:List Tm) (i:Nat) (x:Tm),i<l.length→bU (bq l) (i*6) (tc x)=bq (l.set i x)
 |[],i,x,h=>by simp at h
 |t::l,0,x,h=>by
  simp only[bU,bq,bbc,List.take_zero,bbe,baf,aR,List.set_cons_zero]
  rw[List.drop_append,bao (by rw[aR];exact bab _),aR]
  simp
 |t::l,i+1,x,h=>by
  have ih:=GQ l i x (by simpa using h)
  have e:(i+1)*6=(tc t).length+i*6:=by rw[aR];omega
  rw[List.set_cons_succ,bq,bq,←ih];simp only[bU,e]
  rw[List.take_append,bar (by omega),Nat.add_sub_cancel_left,Nat.add_assoc,List.drop_append,bao (by omega),Nat.add_sub_cancel_left,bbe,bbp,bbp,bbp]
theorem Ex {h:Heap} {id off:Nat} {cs:List AV} {x:Tm} (hat:h.at_ id 0=some cs) (hf:off+6≤cs.length):bC h 6 (.ptr id 0 off) (.agg (tc x))=some ⟨.undef,h.cD id 0 (bU cs off (tc x)),.write⟩:=by
 show((h.at_ id 0).bind fun cs=>(some (tc x)).bind fun vs=>if vs.length=6∧off+6≤cs.length then(some ⟨.undef,h.cD id 0 (bU cs off vs),.write⟩:Option cB)else none)=_
 rw[hat,bag,bag,if_pos ⟨aR x,hf⟩]
theorem yX {v:AV} {t u w:Tm} (kv:Sl v [t,u,w]) (hu:u.args.length<100000) {i:Nat} (e:jl t u=some i):∃f,∀h,WC env 68 [.str [115,101,116,101,108,101,109,101,110,116],v] h (fun o=>o=.ret ⟨.aF [.agg (tc (.mk 5 0 [] 0 none [] f (u.args.set i w))),.int .i64 0],h,.none⟩):=by
 obtain⟨_,_,hi,_⟩:=pI e
 obtain⟨A,B,C,x0,x1,x2⟩:=Wu kv
 have we:=lq t u (by omega)
 have en:jI t u=(i:Int):=by rw[jI,e]
 rw[en]at we
 have z0:((i:Int)≥0)=True:=eq_true (by omega)
 have hne:u.args≠[]:=fun e=>by rw[e]at hi;simp at hi
 refine⟨some false,fun h=>ad rfl rfl rfl (by simp only[bdk,kv.ae]) ?_⟩
 obtain⟨H,eH⟩:∃H,H=((Heap.empty.new [.int .i64 0,.int .i64 0,.str [],.int .u32 0,.ax,.ax]).new [.int .i64 0,.int .i64 0,.str [],.int .u32 0,.ax,.ax]).cD 1 0 (tc t):=⟨_,rfl⟩
 have ho:an H:=by rw[eH];exact((an.empty.new _).new _).cD (cJ.1 (aY _)) _ _
 have hn:H.next=2:=by rw[eH];rfl
 have a0:H.at_ 0 0=some aK:=by rw[eH];simp only[aW,reduceIte,Nat.reduceEqDiff];rfl
 have a1:H.at_ 1 0=some (tc t):=by rw[eH];simp only[aW,reduceIte,Nat.reduceEqDiff]
 have ks:=(cW u).src H
 obtain⟨c,hc⟩:=ks.cells
 have ll:u.args.length≠0:=by omega
 have bf:uS .slice (j2 u) .ax=some false:=by
  obtain⟨b,eb,hb⟩:=ks.nil
  cases b with
  |true=>exact absurd (hb rfl) hne
  |false=>exact eb
 have ap:b9 H 6 88 (.fs true 0 []) (j2 u)=some ⟨.sl 2 0 0 6 u.args.length none,H.new (bq u.args),.write⟩:=by
  unfold b9
  rw[ks.len,bag];simp only[cr,bag]
  rw[if_pos ⟨by omega,by omega,by omega⟩,if_neg ll,hc,hn];simp[aT]
 have y1:bY [] []=some []:=rfl
 have wcl:WC env 104 [j2 u] H (fun o=>o=.ret ⟨.sl 2 0 0 6 u.args.length none,H.new (bq u.args),.write⟩):=by
  refine ct rfl rfl (.inl rfl) ?_
  simp only[KN,uF,uG,Cv,ah.bbw,aw,reduceIte,Nat.reduceEqDiff,bf,y1,bbc,ap,aW]
 obtain⟨G,eG⟩:∃G,G=H.new (bq u.args):=⟨_,rfl⟩
 rw[←eG]at wcl
 have hG:G.next=3:=by rw[eG,cY,hn]
 have g0:G.at_ 0 0=some aK:=by rw[eG];exact(cz ho _).2 _ _ _ a0
 have g2:G.at_ 2 0=some (bq u.args):=by rw[eG,←hn];exact aY _
 have fl:=qW (v:=.sl 2 0 0 6 u.args.length none) (k:=5) rfl
 have ix:aZ 6 (.sl 2 0 0 6 u.args.length none) (.int .i64 i)=some (.ptr 2 0 (0+i*6)):=by
  simp only[aZ,gO (kd:=.i64) hi,jak]
 rw[baf]at ix
 have st:∀g:Heap,g.at_ 2 0=some (bq u.args)→bC g 6 (.ptr 2 0 (i*6)) (.agg (tc w))=some ⟨.undef,g.cD 2 0 (bq (u.args.set i w)),.write⟩:=by
  intro g hg;rw[Ex hg (by rw[bl];omega),GQ _ _ _ hi]
 simp only[xk,yM,ah.bbw,aw,reduceIte,Nat.reduceEqDiff,aW,Nat.reduceAdd,t3,aD,bQ,UInt8.reduceToNat,x0,iE]
 refine aB ?_
 simp only[aw,reduceIte,Nat.reduceEqDiff,k3,aW,Nat.reduceAdd,t3,x1,iE,adz,ai (we _),z0,←eH,a1,ai wcl,fl,hG]
 refine⟨rfl,?_⟩
 refine aB ?_
 have stK:=st ((G.new [.int .i64 0,.int .i64 0,.str [],.int .u32 0,.ax,.ax]).cD 3 0 [.int .i64 5,.int .i64 0,.str [],.int .u32 0,.ax,.sl 2 0 0 6 u.args.length none]) (by simp only[dC,n5,hG,g2,reduceIte,Nat.reduceEqDiff])
 simp only[aw,reduceIte,Nat.reduceEqDiff,k3,aW,Nat.reduceAdd,t3,x2,iE,ix,hG,g0,stK]
 refine⟨rfl,?_⟩
 have ls:(u.args.set i w).length=u.args.length:=List.length_set
 have ht:((bq (u.args.set i w)).drop 0).take (u.args.length*6)=bq (u.args.set i w):=by
  rw[bah];exact bar (by rw[bl,ls];exact bab _)
 refine⟨.aF [.agg (tc (.mk 5 0 [] 0 none [] (some false) (u.args.set i w))),.int .i64 0],o9 ⟨_,_,rfl,lh ⟨_,_,rfl,(ay (v:=.int .i64 5) rfl).2 rfl,_,_,rfl,(ay (v:=.int .i64 0) rfl).2 rfl,_,_,rfl,(ay (v:=.str []) rfl).2 rfl,_,_,rfl,(ay (v:=.int .u32 0) rfl).2 rfl,_,_,rfl,(ay (v:=.ax) rfl).2 rfl,_,_,rfl,?_,rfl⟩,_,_,rfl,(ay (v:=.int .i64 0) rfl).2 rfl,rfl⟩,rfl⟩
 refine(AE (cs:=bq (u.args.set i w)) (by simp only[dC,n5,hG,g2,reduceIte,Nat.reduceEqDiff]) (by rw[bl,ls];omega) (by rw[ht];exact eD _)).2 ?_
 rw[ht,ls];rfl
theorem ug {v:AV} {t u w:Tm} (kv:Sl v [t,u,w]) (hu:u.args.length<1000000000) (e:jl t u=none) (h:Heap):WC env 68 [.str [115,101,116,101,108,101,109,101,110,116],v] h (fun o=>o=.ret ⟨.aF [.agg (tc bZ),.int .i64 261],h,.none⟩):=by
 obtain⟨A,B,C,x0,x1,x2⟩:=Wu kv
 have we:=lq t u hu
 have en:jI t u= -1:=by rw[jI,e]
 rw[en]at we
 have z0:((-1:Int)≥0)=False:=eq_false (by decide)
 refine ad rfl rfl rfl (by simp only[bdk,kv.ae]) ?_
 simp only[xk,yM,ah.bbw,aw,reduceIte,Nat.reduceEqDiff,aW,Nat.reduceAdd,t3,aD,bQ,UInt8.reduceToNat,x0,iE]
 refine aB ?_
 simp only[aw,reduceIte,Nat.reduceEqDiff,k3,aW,Nat.reduceAdd,t3,x1,iE,ai (we _),z0,bc]
 rfl
end Go.Bf
namespace Go.Bf
open Go.AM
theorem Q4 {v:AV} {r:Tm} {cd:Int} (hv:v.ae=true) (hr:∀h,WC env 78 [.str [115,101,116,101,108,101,109,101,110,116],v] h (fun o=>o=.ret ⟨.aF [.agg (tc r),.int .i64 cd],h,.none⟩)) (h:Heap):WC env 44 [.str [115,101,116,101,108,101,109,101,110,116],v] h (fun o=>o=.ret ⟨.aF [.agg (tc r),.int .i64 cd],h,.none⟩):=by
 refine ad rfl rfl rfl (by simp only[bdk,hv]) ?_
 simp only[my,nR,ah.bbw,aw,reduceIte,Nat.reduceEqDiff,aD,bQ,UInt8.reduceToNat,ai (hr _),aW,Nat.reduceAdd,t3]
theorem Q5 {v:AV} {t u w:Tm} (kv:Sl v [t,u,w]) {r:Tm} {cd:Int} (hr:∀h,WC env 117 [.str [115,101,116,101,108,101,109,101,110,116],v] h (fun o=>o=.ret ⟨.aF [.agg (tc r),.int .i64 cd],h,.none⟩)) (h:Heap):WC env 78 [.str [115,101,116,101,108,101,109,101,110,116],v] h (fun o=>o=.ret ⟨.aF [.agg (tc r),.int .i64 cd],h,.none⟩):=by
 obtain⟨A,B,C,x0,x1,x2⟩:=Wu kv
 refine ad rfl rfl rfl (by simp only[bdk,kv.ae]) ?_
 simp only[wS,yi,ah.bbw,aw,reduceIte,Nat.reduceEqDiff,aD,bQ,UInt8.reduceToNat,x0,iE,ai (hr _),aW,Nat.reduceAdd,t3]
end Go.Bf
namespace Go.Bf
open Go.AM
theorem Fi {h:Heap} {cs os:List AV} {id:Nat} (hat:h.at_ id 0=some os) (hl:0<os.length):WC env 37 [.fN 69 (.fp cs),.fN 71 (.ptr id 0 0)] h (fun o=>o=.ret ⟨.bool true,h.cD id 0 (bU os 0 [.fp cs]),.write⟩):=
 ⟨_,⟨1,fun m hm=>by
  cases m with
  |zero=>omega
  |succ m=>
   show(((h.at_ id 0).bind fun os=>if 0<os.length then some (AV.bool true,h.cD id 0 (bU os 0 [.fp cs]))else none).map fun(v,h')=>fC.ret ⟨v,h',.write⟩)=_
   rw[hat,bag,if_pos hl];rfl⟩,rfl⟩
abbrev A1:=List UInt8×Int×Int
def eI:List A1→AV
 |[]=>.bL
 |(s,a,c)::r=>.fN 69 (.fp [.str s,.int .i64 a,.int .i64 c,eI r])
def eF:List A1→List AV
 |[]=>[]
 |(s,a,c)::r=>.str s:: .int .i64 a:: .int .i64 c::eF r
theorem qO:∀l:List A1,(eF l).length=l.length*3
 |[]=>rfl
 |(s,a,c)::l=>by rw[eF];simp only[bav,qO l];omega
theorem yD:∀l m:List A1,eF (l++m)=eF l++eF m
 |[],m=>rfl
 |(s,a,c)::l,m=>by rw[List.cons_append,eF,yD l m,eF];rfl
theorem po:∀l:List A1,AV.aj (eF l)=true
 |[]=>rfl
 |(s,a,c)::l=>by rw[eF];simp only[bdk,po l]
theorem jU:∀l:List A1,(eI l).ae=true
 |[]=>rfl
 |(s,a,c)::l=>by rw[eI];simp only[bdk,jU l]
theorem adA (h:Heap) (x:A1):aT h 3 1 (.fs true 1 [.str x.1,.int .i64 x.2.1,.int .i64 x.2.2])=some (eF [x],.none):=rfl
theorem agi {v:AV} {l:List AV}:bp false 1 (v::l)=some v:=rfl
theorem aaF {h:Heap} {st:Nat} {v:AV} {L:List AV} {id:Nat} (ho:an h) (k:Acc h st v L) (e:v.own=some id):id<h.next:=by
 cases k with
 |ax=>cases e
 |full=>cases e
 |sl id' gen n _ hat' _=>
  cases e;exact ho.lt hat'
theorem PL {Q:aU→St→Prop}:∀(rest done:List A1) (σ:ah) (h:Heap) (v:AV),an h→Acc h 3 v (eF done)→cr v=some done.length→done.length+rest.length≤15→
  σ.get 0=eI rest→σ.get 3=v→σ.get 4=.int .i64 done.length→
  (∀σ' h' v',an h' →Acc h' 3 v' (eF (done++rest))→cr v' =some (done.length+rest.length)→σ'.get 3=v' →Q (.exit 0) ⟨σ',h'⟩)→kz env wB ⟨σ,h⟩ Q:=by
 intro rest
 induction rest with
 |nil=>
  intro done σ h v ho k nv hl g0 g3 g4 hQ;refine aC fun b hb=> ?_
  have z0:((done.length:Int)<16)=True:=eq_true (by simp at hl;omega)
  rw[eI]at g0
  simp only[wB,YE,aw,reduceIte,Nat.reduceEqDiff,g0,g4,z0,eq_nil,baj,df]
  exact hQ _ h v ho (by rw[bbj];exact k) nv (by simp only[aa,reduceIte,Nat.reduceEqDiff,g3])
 |cons x rest ih=>
  intro done σ h v ho k nv hl g0 g3 g4 hQ;obtain⟨s,a,c⟩:=x
  refine aC fun b hb=> ?_
  simp only[bav]at hl
  have z0:((done.length:Int)<16)=True:=eq_true (by omega)
  have zi:IntKind.wrap .i64 ((done.length:Int)+1)=((done.length+1:Nat):Int):=aX (by omega) (by omega)
  rw[eI]at g0
  have en:∀x,uS (.iface true) (.fN 69 x) .bL=some false:=fun _=>rfl
  obtain⟨h1,e1⟩:∃h1,h1=h.new [.gC]:=⟨_,rfl⟩
  have ho1:an h1:=by rw[e1];exact ho.new _
  have a1:h1.at_ h.next 0=some [.gC]:=by rw[e1];exact aY _
  have wa:=Fi (cs:=[.str s,.int .i64 a,.int .i64 c,eI rest]) a1 (by simp)
  have sp:bU [AV.gC] 0 [AV.fp [.str s,.int .i64 a,.int .i64 c,eI rest]]=[AV.fp [.str s,.int .i64 a,.int .i64 c,eI rest]]:=rfl
  rw[sp]at wa
  obtain⟨h2,e2⟩:∃h2,h2=h1.cD h.next 0 [AV.fp [.str s,.int .i64 a,.int .i64 c,eI rest]]:=⟨_,rfl⟩
  have ho2:an h2:=by rw[e2];exact ho1.cD (cJ.1 a1) _ _
  have a2:h2.at_ h.next 0=some [AV.fp [.str s,.int .i64 a,.int .i64 c,eI rest]]:=by rw[e2];exact bD
  rw[←e2]at wa
  have k2:Acc h2 3 v (eF done):=by
   rw[e2,e1];refine(k.le (cz ho _)).wR (fJ (S:=fun j=>j=h.next) rfl) fun id e=> ?_
   have:=aaF ho k e
   omega
  have np:uS .ptr (.fp [.str s,.int .i64 a,.int .i64 c,eI rest]) .gC=some false:=rfl
  have nc:∀cs,Li (.fp cs)=some (.fp cs):=fun _=>rfl
  have f0:∀cs:List AV,cs.drop 0=cs:=fun _=>rfl
  have q1:bp false 1 (([.str s,.int .i64 a,.int .i64 c,eI rest]:List AV).drop 1)=some (.int .i64 a):=rfl
  have q2:bp false 1 (([.str s,.int .i64 a,.int .i64 c,eI rest]:List AV).drop 2)=some (.int .i64 c):=rfl
  have q3:bp false 1 (([.str s,.int .i64 a,.int .i64 c,eI rest]:List AV).drop 3)=some (eI rest):=rfl
  have fl:bY [.str [],.int .i64 0,.int .i64 0] [(0,1,.str s),(1,1,.int .i64 a),(2,1,.int .i64 c)]=some [.str s,.int .i64 a,.int .i64 c]:=rfl
  have f2:bY [.str [],.int .i64 0,.int .i64 0] [(0,3,.agg [.str s,.int .i64 a,.int .i64 c])]=some [.str s,.int .i64 a,.int .i64 c]:=rfl
  obtain⟨v3,h3',c3,w3,kk,lb3,ho3,ow3,n3⟩:=Acc.append (bt:=32) ho2 (by omega:0<3) k2 nv (show cr (.fs true 1 [.str s,.int .i64 a,.int .i64 c])=some 1 from rfl) (adA h2 (s,a,c)) (qO _) (by omega) (by omega)
  rw[←yD]at kk
  have a3:h3'.at_ h.next 0=some [AV.fp [.str s,.int .i64 a,.int .i64 c,eI rest]]:=lb3.2 _ _ _ (fun e=>by
   have:=aaF ho k e
   omega) a2
  simp only[wB,YE,afl,afm,aw,reduceIte,Nat.reduceEqDiff,g0,g4,z0,en,bak,df,dj,←e1,ai wa,agM,baj,aQ,a2,bah,agi,np]
  refine aB ?_
  simp only[afn,afo,afp,aw,reduceIte,Nat.reduceEqDiff,k3,aQ,bP,a2,agi,nc,fw,q1,q2,q3,fl,f2,Nat.reduceAdd,Nat.reduceMul,g3,w3,iC c3,a3,g4,zi,jad,jaf]
  refine⟨by cases c3<;>rfl,?_⟩
  subst hb;refine ih (done++[(s,a,c)]) _ h3' v3 ho3 kk (by rw[n3];simp) (by simp;omega) ?_ ?_ ?_ fun σ' h' v' p1 p2 p3 p4=>hQ σ' h' v' p1 (by rw[bbp]at p2;exact p2) (by rw[p3];simp;omega) p4
  ·simp only[aa,reduceIte,Nat.reduceEqDiff]
  ·simp only[aa,reduceIte,Nat.reduceEqDiff]
  ·simp only[aa,reduceIte,Nat.reduceEqDiff,ban,jaf]
theorem LC (L:List A1) (hL:L.length≤15):∃f,∀h,WC env 45 [eI L] h (fun o=>o=.ret ⟨aM f L.length (eF L),h,.none⟩):=by
 have hr:AV.aj [eI L]=true:=by simp only[AV.aj,jU,baa]
 have hw:WC env 45 [eI L] .empty (fun o=>∃f,o=.ret ⟨aM f L.length (eF L),.empty,.none⟩):=by
  refine ad rfl rfl rfl hr ?_
  have eb:a45.body=(.seq (.ops YB) (.seq (.ops YC) (.seq (.seq (.ops YD) (.block 0 (.loop wB))) (.seq (.ops N6) .ret)))):=rfl
  rw[eb];simp only[YB,YC,YD,ah.bbw,aw]
  refine PL L [] _ .empty .ax an.empty .ax rfl (by simpa using hL) ?_ ?_ ?_ fun σ' h' v' ho' k n g3=> ?_
  ·simp only[aa,reduceIte,Nat.reduceEqDiff]
  ·simp only[aa,reduceIte,Nat.reduceEqDiff]
  ·simp only[aa,reduceIte,Nat.reduceEqDiff];rfl
  rw[bbe]at k
  have n:cr v' =some L.length:=by rw[n];simp
  obtain⟨f,hf⟩:=sD k (po _) n
  simp only[N6,aw,reduceIte,g3]
  exact⟨[v'],_,by simp only[a45,Env.results,baq,aa,reduceIte,Nat.reduceEqDiff],hf,f,rfl⟩
 obtain⟨o,hn,f,e⟩:=hw
 subst e;exact⟨f,fun h=>iP rfl rfl rfl hr ⟨_,hn,rfl⟩⟩
end Go.Bf
namespace Go.Bf
open Go.AM
theorem gb {a b:Tm} (oka:a.Ok) (okb:b.Ok):gW [a,b]:=⟨oka,okb,trivial⟩
theorem fT {a b:Tm} (ta:dk a=true) (tb:dk b=true):∀t,t∈[a,b]→dk t=true:=by
 intro t m
 rcases bbi.1 m with rfl|m
 ·exact ta
 ·rcases bbi.1 m with rfl|m
  ·exact tb
  ·cases m
theorem gf {a:Tm} (ta:dk a=true):∀t,t∈[a]→dk t=true:=by
 intro t m
 rcases bbi.1 m with rfl|m
 ·exact ta
 ·cases m
end Go.Bf
