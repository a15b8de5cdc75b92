/- For BifCalls. -/
import Derived.Test.YtaielgjmhbjfhaaGreatDoorAmOps7
import Derived.Laws.RangeString
set_option linter.unusedVariables false
namespace Go.AM
open Go.RowKit
section
variable {B : Nat} {w0 : World} {E : Env} {X : RX} {P : Program}
theorem SU (hR:Rel B w0 E X) {t:TypeId} (hu:P.underlying t=some .string) {s:List UInt8} {c:Value} (hx:bo X (.str s) c):
  dc B w0 E X P (Instr.range t c) (.xO X.h.gg.length) (X.h.walk s):=by
 cases hx;have hb:=gK X.w (.stringIter ⟨s.toArray⟩ 0)
 refine⟨X.walk (X.w.alloc (.stringIter ⟨s.toArray⟩ 0)) s X.w.heap.size,.pointer (some ⟨X.w.heap.size,0,none⟩),run_range_string X.w t ⟨s.toArray⟩ hu,rfl,hR.walk hb (bab _) (iN X.w _),Ext.walk X hb s (bab _),?_⟩
 have:=bo.xO (X:=X.walk (X.w.alloc (.stringIter ⟨s.toArray⟩ 0)) s X.w.heap.size) X.h.gg.length (by simp only[RX.walk,Heap.walk,ban,List.length_singleton];omega)
 simpa only[RX.walk,if_true]using this
theorem UU (hR:Rel B w0 E X) {k:Nat} {c:Value} (hx:bo X (.xO k) c) {ty:TypeId} {r:cB} (h:uT X.h k=some r):
  dc B w0 E X P (Instr.next c true ty) r.v r.h:=by
 cases hx with
 |xO _ hk=>
 unfold uT at h
 cases e:X.h.gg[k]? with
 |none=>rw[e]at h;cases h
 |some sp=>
  obtain⟨s,p⟩:=sp
  rw[e]at h
  dsimp only at h
  obtain⟨g1,g2,g3⟩:=hR.gg k s p e
  have hsz:(⟨s.toArray⟩:ByteArray).size=s.length:=by simp[ByteArray.size]
  have hlt:=(bbh.1 g1).1
  split at h
  ·rename_i hp
   cases h;obtain⟨w',ew⟩:∃w' :World,w' ={X.w with heap:=X.w.heap.setIfInBounds (X.τ k) (.stringIter ⟨s.toArray⟩ (p+(Utf8.decode ⟨s.toArray⟩ p).2))}:=⟨_,rfl⟩
   have hat:w'.heap[X.τ k]? =some (.stringIter ⟨s.toArray⟩ (p+(Utf8.decode ⟨s.toArray⟩ p).2)):=by
    rw[ew];simp[Array.getElem?_setIfInBounds_self_of_lt hlt]
   have hO:Jd (X.τ k) X.w w' :=by
    rw[ew];exact⟨rfl,rfl,rfl,by simp,fun b hb hne=>by simp only;rw[Array.getElem?_setIfInBounds_ne (fun e=>hne e.symm)]⟩
   refine⟨X.step w' k s (p+(Utf8.decode ⟨s.toArray⟩ p).2),.tuple #[.bool true,goInt p,.int .i32 (Utf8.decode ⟨s.toArray⟩ p).1],?_,rfl,hR.step e hO hat,Ext.step X hk hO s _,?_⟩
   ·show(Instr.next (.pointer (some ⟨X.τ k,0,none⟩)) true ty).run P X.w=.ok _ w'
    rw[ew];simp only[Instr.next,getObj,setObj,Sem.run_bind,Sem.run,g1,Result.andThen,hsz,hp,if_true]
    simp[]
   ·exact .aF [.bool true,.int .i64 p,.int .i32 (Utf8.decode ⟨s.toArray⟩ p).1] [.bool true,.int .i64 p,.int .i32 (Utf8.decode ⟨s.toArray⟩ p).1] (.cons _ _ _ _ (.bool _) (.cons _ _ _ _ (.int _ _) (.cons _ _ _ _ (.int _ _) .nil)))
  ·rename_i hp
   cases h;refine dc.same hR (v' :=.tuple #[.bool false]) ?_ (.aF [.bool false] [.bool false] (.cons _ _ _ _ (.bool _) .nil))
   simp only[Instr.next,getObj,setObj,Sem.run_bind,Sem.run,g1,Result.andThen,hsz,hp,if_false]
   rfl
end
end Go.AM
namespace Go.AM
open Go.RowKit
section
variable {B : Nat} {w0 : World} {E : Env} {X : RX} {P : Program}
def kK (B:Nat) (w0:World) (E:Env) (X:RX) (P:Program) (s:Sem Next) (v:AV) (h:Heap):Prop:=
 ∃X' v',(s.run P X.w=.ok (.value v') X'.w∨(s.run P X.w=.ok .skip X'.w∧v' =Go.undef))∧X'.h=h∧Rel B w0 E X' ∧Ext X X' ∧bo X' v v'
theorem dc.act {s:Sem Value} {v:AV} {h:Heap} (k:dc B w0 E X P s v h):kK B w0 E X P (do pure (.value (←s))) v h:=by
 obtain⟨X',v',h1,h2,h3,h4,h5⟩:=k
 exact⟨X',v',.inl (by simp only[Sem.run_bind,h1,Result.andThen_ok,Sem.run_pure]),h2,h3,h4,h5⟩
theorem abl.act {s:Sem Unit} {h:Heap} (k:abl B w0 E X P s h):kK B w0 E X P (do s;pure .skip) .undef h:=by
 obtain⟨X',h1,h2,h3,h4⟩:=k
 exact⟨X',Go.undef,.inr ⟨by simp only[Sem.run_bind,h1,Result.andThen_ok,Sem.run_pure],rfl⟩,h2,h3,h4,bo.undef⟩
theorem kK.value (hR:Rel B w0 E X) {v:AV} {v' :Value} (hv:bo X v v'):kK B w0 E X P (pure (.value v')) v X.h:=
 ⟨X,v',.inl rfl,rfl,hR,Ext.refl X,hv⟩
theorem Lv {s d:TypeId} {c:CvT} (h:E_ P s d=some c):
  (∃k k',P.underlying s=some (.int k)∧P.underlying d=some (.int k')∧c=.int k')∨
  (∃k,P.underlying s=some (.int k)∧P.underlying d=some .string∧c=.rune)∨
  (P.underlying s=some .string∧P.underlying d=some .string∧c=.same)∨
  (∃e,P.underlying s=some .string∧P.underlying d=some (.slice e)∧P.underlying e=some (.int .u8)∧c=.Ui)∨
  (∃e,P.underlying s=some .string∧P.underlying d=some (.slice e)∧P.underlying e=some (.int .i32)∧c=.s2r)∨
  (∃e,P.underlying s=some (.slice e)∧P.underlying d=some .string∧P.underlying e=some (.int .u8)∧c=.Ld)∨
  (∃e,P.underlying s=some (.slice e)∧P.underlying d=some .string∧P.underlying e=some (.int .i32)∧c=.r2s)∨
  (∃e,s=d∧P.underlying s=some (.slice e)∧P.underlying e=some (.int .u8)∧c=.b2b):=by
 simp only[E_,bap,bac]at h
 obtain⟨ds,hs,dd,hd,h⟩:=h
 cases ds<;>cases dd<;>simp only[reduceCtorEq,bam,jaa]at h
 case int.int=>exact .inl ⟨_,_,hs,hd,h.symm⟩
 case int.string=>exact .inr (.inl ⟨_,hs,hd,h.symm⟩)
 case string.string=>exact .inr (.inr (.inl ⟨hs,hd,h.symm⟩))
 case string.slice e=>
  obtain⟨de,he,h⟩:=h
  split at h
  ·cases h;exact .inr (.inr (.inr (.inl ⟨_,hs,hd,he,rfl⟩)))
  ·cases h;exact .inr (.inr (.inr (.inr (.inl ⟨_,hs,hd,he,rfl⟩))))
  ·cases h
 case slice.string e=>
  obtain⟨de,he,h⟩:=h
  split at h
  ·cases h;exact .inr (.inr (.inr (.inr (.inr (.inl ⟨_,hs,hd,he,rfl⟩)))))
  ·cases h;exact .inr (.inr (.inr (.inr (.inr (.inr (.inl ⟨_,hs,hd,he,rfl⟩))))))
  ·cases h
 case slice.slice e e' =>
  obtain⟨de,he,h⟩:=h
  split at h
  ·split at h
   ·rename_i e1
    cases h;subst e1;rw[hs]at hd
    cases hd;exact .inr (.inr (.inr (.inr (.inr (.inr (.inr ⟨_,rfl,hs,he,rfl⟩))))))
   ·cases h
  ·cases h
theorem UW (hR:Rel B w0 E X) {s d:TypeId} {c:CvT} (hc:E_ P s d=some c) {x:AV} {u:Value} (hx:bo X x u) {r:cB} (h:di X.h c x=some r):
  dc B w0 E X P (convert s d u) r.v r.h:=by
 rcases Lv hc with⟨k,k',hs,hd,rfl⟩|⟨k,hs,hd,rfl⟩|⟨hs,hd,rfl⟩|⟨e,hs,hd,he,rfl⟩|⟨e,hs,hd,he,rfl⟩|⟨e,hs,hd,he,rfl⟩|⟨e,hs,hd,he,rfl⟩|⟨e,rfl,hs,he,rfl⟩
 ·cases hx<;>simp only[di,bae,reduceCtorEq]at h
  subst h;exact dc.same hR (by simp[convert,run_underlying hs,run_underlying hd,Conv.intToInt]) (.int _ _)
 ·cases hx<;>simp only[di,bae,reduceCtorEq]at h
  rename_i kk n;subst h;refine dc.same hR (v' :=.string (Utf8.encode n)) (by simp[convert,run_underlying hs,run_underlying hd,Conv.intToString]) ?_
  have:(.string (Utf8.encode n):Value)=.string ⟨(Utf8.encode n).data.toList.toArray⟩:=by simp
  rw[this];exact .str _
 ·cases hx<;>simp only[di,bae,reduceCtorEq]at h
  subst h;exact dc.same hR (by simp[convert,run_underlying hs,run_underlying hd]) (.str _)
 ·exact abm hR hs hd he hx h
 ·exact abn hR hs hd he hx h
 ·exact abo hR hs he hd hx h
 ·simp[di]at h
 ·exact abp hR hs he hx h
theorem Dg {op:BinOp} {t:TypeId} {x y:Operand} {ao:jo} (h:UX P op t x y=some ao):
  ∃a b,cC x=some a∧cC y=some b∧(ao=.bin op a b∨
   ((op=.eql∨op=.neq)∧(∀d,P.underlying t=some d→(∀k,d≠ .int k)∧d≠ .string)∧∃e,abq P t (isLit x||isLit y)=some e∧ao=.eq (UY op) e a b)):=by
 simp only[UX,bap,bac]at h
 obtain⟨a,ha,b,hb,h⟩:=h
 refine⟨a,b,ha,hb,?_⟩
 split at h
 ·simp only[bac]at h
  obtain⟨d,hd,h⟩:=h
  split at h
  ·simp only[bam,bae]at h;exact .inl h.symm
  ·simp only[bam,bae]at h;exact .inl h.symm
  ·rename_i n1 n2
   simp only[bam,jaa]at h
   obtain⟨e,he,rfl⟩:=h
   exact .inr ⟨.inl rfl,fun d' hd' =>by rw[hd]at hd';cases hd';exact⟨fun k e1=>n1 k e1,fun e1=>n2 e1⟩,e,he,rfl⟩
 ·simp only[bac]at h
  obtain⟨d,hd,h⟩:=h
  split at h
  ·simp only[bam,bae]at h;exact .inl h.symm
  ·simp only[bam,bae]at h;exact .inl h.symm
  ·rename_i n1 n2
   simp only[bam,jaa]at h
   obtain⟨e,he,rfl⟩:=h
   exact .inr ⟨.inr rfl,fun d' hd' =>by rw[hd]at hd';cases hd';exact⟨fun k e1=>n1 k e1,fun e1=>n2 e1⟩,e,he,rfl⟩
 ·simp only[bam,bae]at h;exact .inl h.symm
theorem xN {t:TypeId} {x:Operand} {lo hi mx:Option Operand} {ao:jo} (h:Fa P t x lo hi mx=some ao):
  ∃a l u m,cC x=some a∧m_ lo=some l∧m_ hi=some u∧m_ mx=some m∧
   ((P.underlying t=some .string∧m=none∧ao=.ey a l u)∨
    (∃e s,P.underlying t=some (.slice e)∧cZ P e=some s∧ao=.slice s a l u m)∨
    (∃n e s,(P.underlying t=some (.array n e)∨∃arr,P.underlying t=some (.pointer arr)∧P.underlying arr=some (.array n e))∧cZ P e=some s∧ao=.hM s n a l u m)):=by
 simp only[Fa,bap,bac]at h
 obtain⟨a,ha,l,hl,u,hu,m,hm,d,hd,h⟩:=h
 refine⟨a,l,u,m,ha,hl,hu,hm,?_⟩
 cases d<;>simp only[reduceCtorEq,bam,jaa]at h
 case string=>
  cases m with
  |none=>simp only[bae]at h;exact .inl ⟨hd,rfl,h.symm⟩
  |some m=>cases h
 case slice e=>obtain⟨s,hs,rfl⟩:=h;exact .inr (.inl ⟨e,s,hd,hs,rfl⟩)
 case array n e=>obtain⟨s,hs,rfl⟩:=h;exact .inr (.inr ⟨n,e,s,.inl hd,hs,rfl⟩)
 case pointer arr=>
  obtain⟨d',hd',h⟩:=h
  cases d' <;>simp only[reduceCtorEq,jaa]at h
  obtain⟨s,hs,rfl⟩:=h
  exact .inr (.inr ⟨_,_,s,.inr ⟨arr,hd,hd'⟩,hs,rfl⟩)
theorem vj {e:TypeId} {s:Nat} (hs:cZ P e=some s) (h:(kC P e).map List.length=cZ P e):∃z,kC P e=some z∧z.length=s:=by
 rw[hs]at h
 simpa using h
theorem Je (hR:Rel B w0 E X) {n:Nat} {σ:ah} {a:Act} (k:jN X n σ a.tmps) {b:Builtin} {types:Array TypeId} {args:Array Operand} {ty:TypeId} {consts:Array Bool} {ao:jo}
  (ht:jO P b types args=some ao) {r:cB} (h:E.op σ X.h ao=some r):kK B w0 E X P (builtin b types ty consts (args.map a.eval)) r.v r.h:=by
 cases b<;>simp only[jO,reduceCtorEq]at ht
 case append=>
  split at ht
  ·cases ht
  rename_i hsz;simp only[not_or,Decidable.not_not]at hsz
  obtain⟨hs1,hs2⟩:=hsz
  obtain⟨args⟩:=args
  obtain⟨types⟩:=types
  match args,hs1 with
  |[x,y],_=>
  match types,hs2 with
  |[t,u],_=>
  simp only[bbs,bbr,List.getElem?_cons_succ,bap,bag,bac]at ht
  obtain⟨x',hx',y',hy',d1,hd1,d2,hd2,ht⟩:=ht
  have fin:∀e sz bytes,SV P t u e sz bytes→ao=.append sz bytes x' y' →kK B w0 E X P (builtin .append ⟨[t,u]⟩ ty consts (Array.map a.eval ⟨[x,y]⟩)) r.v r.h:=by
   rintro e sz bytes hT rfl
   simp only[Env.op,bac]at h
   obtain⟨v1,hv1,v2,hv2,h⟩:=h
   have:=Lw (ty:=ty) hR hT (bz hR k hx' hv1) (bz hR k hy' hv2) h
   have e:Array.map a.eval ⟨[x,y]⟩= #[a.eval x,a.eval y]:=by simp
   rw[e];exact dc.act this
  split at ht
  ·split at ht
   ·rename_i hc
    obtain⟨rfl,hz⟩:=hc
    simp only[bam,jaa]at ht
    obtain⟨s,hs,bt,hbt,rfl⟩:=ht
    exact fin _ s bt ⟨hd1,.inl hd2,hs,hbt,vj hs hz⟩ rfl
   ·cases ht
  ·split at ht
   ·rename_i hz
    simp only[bam,jaa]at ht
    obtain⟨s,hs,bt,hbt,rfl⟩:=ht
    exact fin _ s bt ⟨hd1,.inr hd2,hs,hbt,vj hs hz⟩ rfl
   ·cases ht
  ·simp only[bam,jaa]at ht
   obtain⟨s,hs,bt,hbt,z,hz,rfl⟩:=ht
   simp only[Env.op,bac]at h
   obtain⟨v1,hv1,v2,hv2,h⟩:=h
   have:=Jf (ty:=ty) hR hd1 hd2 hs hbt hz (bz hR k hx' hv1) (bz hR k hy' hv2) h
   have e:Array.map a.eval ⟨[x,y]⟩= #[a.eval x,a.eval y]:=by simp
   rw[e];exact dc.act this
  ·cases ht
 case cap=>
  split at ht
  ·cases ht
  rename_i hsz;obtain⟨args⟩:=args
  match args,(Decidable.not_not.1 hsz)with
  |[x],_=>
  simp only[bbs,bbr,bap,bag,bac]at ht
  obtain⟨x',hx',t,hty,d,hd,ht⟩:=ht
  cases d<;>simp only[reduceCtorEq,bam,bae]at ht
  subst ht;simp only[Env.op,jac]at h
  obtain⟨v,hv,q,hq,rfl⟩:=h
  have e:Array.map a.eval ⟨[x]⟩= #[a.eval x]:=by simp
  rw[e];exact dc.act (abr (ty:=ty) hR hty hd (bz hR k hx' hv) hq)
 case clear=>
  split at ht
  ·cases ht
  rename_i hsz;obtain⟨args⟩:=args
  match args,(Decidable.not_not.1 hsz)with
  |[x],_=>
  simp only[bbs,bbr,bap,bag,bac]at ht
  obtain⟨x',hx',t,hty,d,hd,ht⟩:=ht
  cases d<;>simp only[reduceCtorEq,bam,jaa]at ht
  obtain⟨s,hs,z,hz,rfl⟩:=ht
  simp only[Env.op,bac]at h
  obtain⟨v,hv,h⟩:=h
  have e:Array.map a.eval ⟨[x]⟩= #[a.eval x]:=by simp
  rw[e];exact dc.act (SW (ty:=ty) hR hty hd hs hz (bz hR k hx' hv) h)
 case copy=>
  split at ht
  ·cases ht
  rename_i hsz;obtain⟨args⟩:=args
  match args,(Decidable.not_not.1 hsz)with
  |[x,y],_=>
  simp only[bbs,bbr,List.getElem?_cons_succ,bap,bag,bac]at ht
  obtain⟨x',hx',y',hy',t,hty,d,hd,ht⟩:=ht
  cases d<;>simp only[reduceCtorEq,bam,jaa]at ht
  obtain⟨s,hs,rfl⟩:=ht
  simp only[Env.op,bac]at h
  obtain⟨v,hv,u,hu,h⟩:=h
  have e:Array.map a.eval ⟨[x,y]⟩= #[a.eval x,a.eval y]:=by simp
  rw[e];exact dc.act (UZ (ty:=ty) hR hty hd hs (bz hR k hx' hv) (bz hR k hy' hu) h)
 case len=>
  simp only[bap,bac]at ht
  obtain⟨x,hx,x',hx',t,hty,d,hd,ht⟩:=ht
  have harg:(args.map a.eval)[0]? =some (a.eval x):=by simp[hx]
  have key:∀(c:Value) (m:Nat),a.eval x=c→(Builtin.len_ types ty #[c]).run P X.w=.ok (.int .i64 m) X.w→args.size=1→
    kK B w0 E X P (builtin .len types ty consts (args.map a.eval)) (.int .i64 m) X.h:=by
   intro c m hc bbz h1;have bdb:args.map a.eval= #[c]:=by
    apply Array.ext'
    obtain⟨l⟩:=args
    match l,h1,hx with
    |[y],_,hx=>simp at hx;subst hx;simp[hc]
   rw[bdb];exact dc.act (s:=Builtin.len_ types ty #[c]) (dc.same hR bbz (.int _ _))
  cases d<;>simp only[reduceCtorEq]at ht
  case string=>
   split at ht
   ·rename_i h1
    simp only[bam,bae]at ht
    subst ht;simp only[Env.op,bac]at h
    obtain⟨v,hv,h⟩:=h
    have hvr:=bz hR k hx' hv
    generalize hce:a.eval x=cc at hvr
    cases hvr<;>simp only[bae,reduceCtorEq]at h
    subst h;refine key _ _ hce ?_ h1
    simp only[Builtin.len_,hty,bbs,bbr,Sem.run_bind,run_underlying hd,Result.andThen_ok,Sem.run_pure,goInt]
    rfl
   ·cases ht
  case slice=>
   split at ht
   ·rename_i h1
    simp only[bam,bae]at ht
    subst ht;simp only[Env.op,bac]at h
    obtain⟨v,hv,h⟩:=h
    have hvr:=bz hR k hx' hv
    generalize hce:a.eval x=cc at hvr
    cases hvr<;>simp only[bae,reduceCtorEq]at h<;>subst h
    ·exact key _ 0 hce (by simp[Builtin.len_,hty,run_underlying hd,goInt]) h1
    ·exact key _ _ hce (by simp[Builtin.len_,hty,run_underlying hd,goInt]) h1
    ·exact key _ _ hce (by simp[Builtin.len_,hty,run_underlying hd,goInt]) h1
   ·cases ht
  case array=>
   split at ht
   ·rename_i h1
    simp only[bam,bae]at ht
    subst ht;simp only[Env.op,Env.eM,baq,bae]at h
    subst h;exact key _ _ rfl (by simp[Builtin.len_,hty,run_underlying hd,goInt]) h1
   ·cases ht
 case max=>
  split at ht
  ·cases ht
  rename_i hsz;obtain⟨args⟩:=args
  match args,(Decidable.not_not.1 hsz)with
  |[x,y],_=>
  simp only[bbs,bbr,List.getElem?_cons_succ,bap,bag,bam,jaa]at ht
  obtain⟨x',hx',y',hy',rfl⟩:=ht
  simp only[Env.op,jac]at h
  obtain⟨v1,hv1,v2,hv2,v,hv,rfl⟩:=h
  have e:Array.map a.eval ⟨[x,y]⟩= #[a.eval x,a.eval y]:=by simp
  rw[e];exact dc.act (abt (tys:=types) (ty:=ty) hR (bz hR k hx' hv1) (bz hR k hy' hv2) hv)
 case min=>
  split at ht
  ·cases ht
  rename_i hsz;obtain⟨args⟩:=args
  match args,(Decidable.not_not.1 hsz)with
  |[x,y],_=>
  simp only[bbs,bbr,List.getElem?_cons_succ,bap,bag,bam,jaa]at ht
  obtain⟨x',hx',y',hy',rfl⟩:=ht
  simp only[Env.op,jac]at h
  obtain⟨v1,hv1,v2,hv2,v,hv,rfl⟩:=h
  have e:Array.map a.eval ⟨[x,y]⟩= #[a.eval x,a.eval y]:=by simp
  rw[e];exact dc.act (abu (tys:=types) (ty:=ty) hR (bz hR k hx' hv1) (bz hR k hy' hv2) hv)
 case panic=>
  split at ht
  ·cases ht
  ·simp only[bap,bam,jaa]at ht
   obtain⟨_,_,_,_,rfl⟩:=ht
   simp[Env.op]at h
set_option maxHeartbeats 1000000 in
theorem ago (hR:Rel B w0 E X) {n:Nat} {σ:ah} {a:Act} (k:jN X n σ a.tmps) {fr:Bool} {o:Oper} {ao:jo} (ht:Ah P fr o.op=some ao) {r:cB} (h:E.op σ X.h ao=some r):
  kK B w0 E X P (execOp a.eval o) r.v r.h:=by
 obtain⟨dst,op,ty,pos,after,guard⟩:=o
 cases op<;>simp only[Ah,reduceCtorEq,bap,bam,jaa]at ht
 case move x=>
  obtain⟨x',hx',rfl⟩:=ht
  simp only[Env.op,bai]at h
  obtain⟨v,hv,rfl⟩:=h
  exact kK.value hR (bz hR k hx' hv)
 case assign x=>
  obtain⟨x',hx',rfl⟩:=ht
  simp only[Env.op,bai]at h
  obtain⟨v,hv,rfl⟩:=h
  exact kK.value hR (bz hR k hx' hv)
 case pick c x y=>
  obtain⟨c',hc',x',hx',y',hy',rfl⟩:=ht
  simp only[Env.op,bac]at h
  obtain⟨cv,hcv,h⟩:=h
  have hc:=bz hR k hc' hcv
  generalize hce:a.eval c=cc at hc
  cases hc with
  |bool b=>
   cases b with
   |true=>
    simp only[bai]at h
    obtain⟨v,hv,rfl⟩:=h
    exact⟨X,_,.inl (by simp[execOp,hce,asBool]),rfl,hR,Ext.refl X,bz hR k hx' hv⟩
   |false=>
    simp only[bai]at h
    obtain⟨v,hv,rfl⟩:=h
    exact⟨X,_,.inl (by simp[execOp,hce,asBool]),rfl,hR,Ext.refl X,bz hR k hy' hv⟩
  |_=>cases h
 case alloc e=>
  obtain⟨z,hz,rfl⟩:=ht
  simp only[Env.op,bae]at h
  subst h;exact dc.act (SX hR hz)
 case box e x=>
  obtain⟨s,hs,x',hx',rfl⟩:=ht
  simp only[Env.op,bac]at h
  obtain⟨v,hv,vs,hvs,h⟩:=h
  split at h
  ·cases fr with
   |true=>simp only[bae]at h;subst h;exact dc.act (Fb hR (bz hR k hx' hv) hvs)
   |false=>simp only[bae]at h;subst h;exact dc.act (abv hR (bz hR k hx' hv) hvs)
  ·cases h
 case build t parts=>
  have hb:∃z ps,ao=.build z ps:=by
   simp only[uR,bap,bac]at ht
   obtain⟨z,_,d,_,ht⟩:=ht
   cases d<;>simp only[reduceCtorEq,bam,jaa]at ht
   ·obtain⟨_,_,_,_,rfl⟩:=ht;exact⟨_,_,rfl⟩
   ·obtain⟨_,_,_,_,rfl⟩:=ht;exact⟨_,_,rfl⟩
  obtain⟨z,ps,rfl⟩:=hb
  simp only[Env.op,jac]at h
  obtain⟨l,hl,cs,hcs,rfl⟩:=h
  exact dc.act (SY hR k ht hl hcs)
 case buildSlice t len parts=>
  have hb:∃fr' sz r7 z ps,ao=.lit fr' sz r7 z ps:=by
   unfold It at ht
   split at ht
   ·simp only[bac]at ht
    obtain⟨s,hs,ht⟩:=ht
    split at ht
    ·cases ht
    simp only[bac]at ht
    obtain⟨z,hz,ht⟩:=ht
    split at ht
    ·cases ht
    simp only[bai]at ht
    obtain⟨ps,_,rfl⟩:=ht
    exact⟨_,_,_,_,_,rfl⟩
   ·cases ht
  obtain⟨fr',sz,r7,z,ps,rfl⟩:=hb
  simp only[Env.op,bac]at h
  obtain⟨l,hl,cs,hcs,h⟩:=h
  split at h
  ·rename_i hlen
   obtain⟨e,arr,g1,g2,rfl,g3⟩:=abw (P:=P) hR k ht hl hcs hlen
   have hgl:=g1.length;refine dc.act (s:=Instr.buildSlice t r7 (parts.map fun(i,x)=>(i,a.eval x))) ?_
   cases fr' with
   |true=>
    simp only[bae]at h;subst h
    have hb:=gK X.w (.cells arr e)
    refine⟨{X with w:=X.w.alloc (.cells arr e)},_,g3,rfl,hR.grow hb,Ext.grow X hb,
     .fs true r7 cs _ r7 arr.toList (bab _) (fun _=>rfl) (fun _=>⟨X.w.heap.size,0,rfl,Still.new hR hb (bab _) (by simp),fun i v hv=> ?_⟩) g2 (g1.ext (Ext.grow X hb))⟩
    simpa[World.cell?_alloc_new]using hv
   |false=>
    simp only[bae]at h;subst h
    refine dc.Jg hR (gK X.w _) (bab _) g2 (iN X.w _) (.inl rfl) (by simpa using Nat.le_of_eq hgl) (by rw[hgl,List.take_length];exact g1) g3
     (bo.DU _ _ _ _ _ _ _ _ (bab _) (fun _ e=>by cases e;rfl) ?_ (fun e=>by cases e))
    have:arr.size=r7 *sz:=by rw[←hlen,hgl];simp
    omega
  ·cases h
 case load t x=>
  obtain⟨ag,hag,s,hs,x',hx',rfl⟩:=ht
  simp only[Env.op,bac]at h
  obtain⟨v,hv,h⟩:=h
  exact dc.act (U0 hR hag hs (bz hR k hx' hv) h)
 case store t x y=>
  obtain⟨s,hs,x',hx',y',hy',rfl⟩:=ht
  simp only[Env.op,bac]at h
  obtain⟨v,hv,u,hu,h⟩:=h
  obtain⟨h1,h2⟩:=SZ (P:=P) hR hs (bz hR k hx' hv) (bz hR k hy' hu) h
  rw[h2];exact abl.act h1
 case nilCheck x=>
  obtain⟨x',hx',rfl⟩:=ht
  simp only[Env.op,bac]at h
  obtain⟨v,hv,h⟩:=h
  have hr:=bz hR k hx' hv
  generalize hce:a.eval x=cc at hr
  have fin:(execOp a.eval {dst:=dst,op:=.nilCheck x,type:=ty,pos:=pos,after:=after,guard:=guard}).run P X.w=.ok (.value (a.eval x)) X.w→r=⟨v,X.h,.none⟩→
    kK B w0 E X P (execOp a.eval {dst:=dst,op:=.nilCheck x,type:=ty,pos:=pos,after:=after,guard:=guard}) r.v r.h:=by
   rintro h1 rfl
   exact⟨X,_,.inl h1,rfl,hR,Ext.refl X,bz hR k hx' hv⟩
  cases hr with
  |ptr=>cases h;exact fin (by simp[execOp,hce]) rfl
  |fp=>cases h;exact fin (by simp[execOp,hce]) rfl
  |fN=>cases h;exact fin (by simp[execOp,hce]) rfl
  |fn f=>
   cases f with
   |func g=>cases h;exact fin (by simp[execOp,hce]) rfl
   |_=>cases h
  |_=>cases h
 case binOp bop t x y ty2=>
  obtain⟨x',y',hx',hy',h2⟩:=Dg ht
  rcases h2 with rfl|⟨ho,hni,e,he,rfl⟩
  ·simp only[Env.op,jac]at h
   obtain⟨v,hv,u,hu,q,hq,rfl⟩:=h
   exact dc.act (abx hR (bz hR k hx' hv) (bz hR k hy' hu) hq x y)
  ·simp only[Env.op,jac]at h
   obtain⟨v,hv,u,hu,q,hq,rfl⟩:=h
   have:=agO (P:=P) hR ho he hni (bz hR k hx' hv) (bz hR k hy' hu) hq
   have e2:sX (UY bop) q=(if bop=.neq then !q else q):=by
    rcases ho with rfl|rfl<;>rfl
   rw[e2];exact dc.act this
 case unOp uop t x=>
  obtain⟨x',hx',rfl⟩:=ht
  simp only[Env.op,jac]at h
  obtain⟨v,hv,q,hq,rfl⟩:=h
  exact dc.act (agP hR (bz hR k hx' hv) hq)
 case convert s d x=>
  obtain⟨c,hc,x',hx',rfl⟩:=ht
  simp only[Env.op,bac]at h
  obtain⟨v,hv,h⟩:=h
  exact dc.act (UW hR hc (bz hR k hx' hv) h)
 case makeInterface t x=>
  obtain⟨d,hd,ht⟩:=ht
  have:∃x',cC x=some x' ∧ao=.dU t x' ∧∀ms,d≠ .interface ms:=by
   cases d<;>simp only[reduceCtorEq,jaa]at ht
   all_goals (obtain⟨x',hx',rfl⟩:=ht;exact⟨x',hx',rfl,fun ms e=>by cases e⟩)
  obtain⟨x',hx',rfl,hni⟩:=this
  simp only[Env.op,bai]at h
  obtain⟨v,hv,rfl⟩:=h
  refine dc.act (s:=Instr.makeInterface t (a.eval x)) (dc.same hR (v' :=.iface t (a.eval x)) ?_ (.fN _ _ _ (bz hR k hx' hv)))
  cases d<;>first|exact absurd rfl (hni _)|simp[Instr.makeInterface,run_underlying hd]
 case makeFunc f first cap=>
  obtain⟨p,hp,q,hq,rfl⟩:=ht
  simp only[Env.op,jac]at h
  obtain⟨v,hv,u,hu,rfl⟩:=h
  refine dc.act (s:=Instr.makeFunc f (first.map a.eval) (cap.map a.eval)) (dc.same hR (v' :=.func f (first.map a.eval) (cap.map a.eval)) rfl ?_)
  have h1:=bo.fn f v u _ _ (qs hR k hp hv) (qs hR k hq hu)
  have e1:(List.map a.eval first.toList).toArray=first.map a.eval:=by apply Array.ext';simp
  have e2:(List.map a.eval cap.toList).toArray=cap.map a.eval:=by apply Array.ext';simp
  rw[e1,e2]at h1
  exact h1
 case makeSlice t l c=>
  obtain⟨d,hd,ht⟩:=ht
  cases d<;>simp only[reduceCtorEq,jaa]at ht
  rename_i e;obtain⟨s,hs,bt,hbt,z,hz,l',hl',c',hc',rfl⟩:=ht
  simp only[Env.op,bac]at h
  obtain⟨v,hv,u,hu,h⟩:=h
  exact dc.act (CV hR hd hs hbt hz (bz hR k hl' hv) (bz hR k hc' hu) h)
 case slice t x lo hi mx=>
  obtain⟨x',l,u,m,hx',hl,hu,hm,h2⟩:=xN ht
  rcases h2 with⟨hd,rfl,rfl⟩|⟨e,s,hd,hs,rfl⟩|⟨nn,e,s,hd,hs,rfl⟩
  ·simp only[Env.op,jac]at h
   obtain⟨v,hv,q1,hq1,q2,hq2,q,hq,rfl⟩:=h
   have hmx:mx=none:=by
    cases mx with
    |none=>rfl
    |some y=>simp only[m_,bai]at hm;obtain⟨_,_,e⟩:=hm;cases e
   subst hmx;exact dc.act (Fc hR hd (bz hR k hx' hv) (h_ hR k hl hq1) (h_ hR k hu hq2) hq)
  ·simp only[Env.op,bac]at h
   obtain⟨v,hv,q1,hq1,q2,hq2,q3,hq3,h⟩:=h
   split at h
   ·rename_i q hq
    cases h;exact dc.act (S1 hR hd hs (bz hR k hx' hv) (h_ hR k hl hq1) (h_ hR k hu hq2) (h_ hR k hm hq3) hq)
   ·exact dc.act (Lx hR hd hs (bz hR k hx' hv) (h_ hR k hl hq1) (h_ hR k hu hq2) (h_ hR k hm hq3) h)
  ·simp only[Env.op,bac]at h
   obtain⟨v,hv,q1,hq1,q2,hq2,q3,hq3,h⟩:=h
   obtain⟨g1,g2⟩:=Fe (P:=P) hR hd hs (bz hR k hx' hv) (h_ hR k hl hq1) (h_ hR k hu hq2) (h_ hR k hm hq3) h
   rw[g2];exact dc.act g1
 case fieldAddr t x i=>
  obtain⟨f,hf,s,hs,ht⟩:=ht
  split at ht
  ·cases ht
  rename_i h0;simp only[jaa]at ht
  obtain⟨x',hx',rfl⟩:=ht
  simp only[Env.op,bac]at h
  obtain⟨v,hv,h⟩:=h
  obtain⟨g1,g2⟩:=CW (P:=P) hR hf hs h0 (bz hR k hx' hv)
  cases v<;>simp only[bae,reduceCtorEq]at h
  ·subst h;exact dc.act (g1 _ _ _ rfl)
  ·subst h;exact dc.act (g2 _ rfl)
 case field t x i=>
  obtain⟨f,hf,ag,hag,s,hs,x',hx',rfl⟩:=ht
  simp only[Env.op,bac]at h
  obtain⟨v,hv,h⟩:=h
  have hr:=bz hR k hx' hv
  cases v<;>simp only[reduceCtorEq]at h
  split at h
  ·rename_i bcb
   simp only[bai]at h
   obtain⟨q,hq,rfl⟩:=h
   exact dc.act (S2 hR hf hag hs hr bcb hq)
  ·cases h
 case indexAddr t x i=>
  obtain⟨d,hd,ht⟩:=ht
  cases d<;>simp only[reduceCtorEq,jaa]at ht
  case slice e=>
   obtain⟨s,hs,x',hx',i',hi',rfl⟩:=ht
   simp only[Env.op,jac]at h
   obtain⟨v,hv,u,hu,q,hq,rfl⟩:=h
   exact dc.act (Jh hR hd hs (bz hR k hx' hv) (bz hR k hi' hu) hq)
  case array nn e=>
   obtain⟨s,hs,x',hx',i',hi',rfl⟩:=ht
   simp only[Env.op,jac]at h
   obtain⟨v,hv,u,hu,q,hq,rfl⟩:=h
   exact dc.act (AX hR hd hs (bz hR k hx' hv) (bz hR k hi' hu) hq)
 case index t x i=>
  obtain⟨d,hd,ht⟩:=ht
  cases d<;>simp only[reduceCtorEq,jaa]at ht
  case string=>
   obtain⟨x',hx',i',hi',rfl⟩:=ht
   simp only[Env.op,bac]at h
   obtain⟨v,hv,h⟩:=h
   have hr:=bz hR k hx' hv
   cases v<;>simp only[reduceCtorEq,jac]at h
   obtain⟨u,hu,j,hj,c,hc,rfl⟩:=h
   exact dc.act (Ly hR hd hr (bz hR k hi' hu) hj hc)
  case array nn e=>
   obtain⟨ag,hag,s,hs,x',hx',i',hi',rfl⟩:=ht
   simp only[Env.op,bac]at h
   obtain⟨v,hv,h⟩:=h
   have hr:=bz hR k hx' hv
   cases v<;>simp only[reduceCtorEq,bac]at h
   obtain⟨u,hu,j,hj,h⟩:=h
   split at h
   ·rename_i bcb
    simp only[bai]at h
    obtain⟨q,hq,rfl⟩:=h
    exact dc.act (Lz hR hd hag hs hr (bz hR k hi' hu) hj bcb hq)
   ·cases h
 case range t x=>
  obtain⟨d,hd,ht⟩:=ht
  cases d<;>simp only[reduceCtorEq,jaa]at ht
  obtain⟨x',hx',rfl⟩:=ht
  simp only[Env.op,bac]at h
  obtain⟨v,hv,h⟩:=h
  have hr:=bz hR k hx' hv
  cases v<;>simp only[reduceCtorEq,bae]at h
  subst h;exact dc.act (SU hR hd hr)
 case next x isStr=>
  cases isStr<;>simp only[reduceCtorEq,jaa]at ht
  obtain⟨x',hx',rfl⟩:=ht
  simp only[Env.op,bac]at h
  obtain⟨v,hv,h⟩:=h
  have hr:=bz hR k hx' hv
  cases v<;>simp only[reduceCtorEq]at h
  exact dc.act (UU hR hr h)
 case extract x i=>
  obtain⟨x',hx',rfl⟩:=ht
  simp only[Env.op,bac]at h
  obtain⟨v,hv,h⟩:=h
  have hr:=bz hR k hx' hv
  cases v<;>simp only[reduceCtorEq,bai]at h
  obtain⟨q,hq,rfl⟩:=h
  exact dc.act (Ji hR hr hq)
 case call c=>
  obtain⟨callee,args,types⟩:=c
  cases callee with
  |value f=>
   exfalso;cases f<;>simp only[wU,bap,bam,jaa]at ht
   all_goals (first|(obtain⟨_,_,_,_,rfl⟩:=ht;simp[Env.op]at h)|(obtain⟨_,_,rfl⟩:=ht;simp[Env.op]at h))
  |invoke _ _=>simp[wU]at ht
  |builtin b=>
   have ht' :jO P b types args=some ao:=ht
   exact Je (ty:=ty) hR k ht' h
 case panic x=>
  obtain⟨_,_,rfl⟩:=ht
  simp[Env.op]at h
end
end Go.AM
