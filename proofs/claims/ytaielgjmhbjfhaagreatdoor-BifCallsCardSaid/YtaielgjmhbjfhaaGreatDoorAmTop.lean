/- For BifCalls. -/
import Derived.Test.YtaielgjmhbjfhaaGreatDoorAmDraw4
import Derived.Carry
set_option linter.unusedVariables false
namespace Go.AM
open Go.RowKit Go.ChangeShapes
section
variable {E : Env} {P : Program}
def RX.start (W:World):RX:=⟨W,.empty,fun _=>⟨0,0,0⟩,fun _=>False,fun _=>0⟩
theorem kG {W:World} {b:Nat} (h:b<W.heap.size):(RX.start W).Still b:=⟨h,fun hF=>hF,fun hO=>by
 rcases hO with⟨_,_,ho,_⟩|⟨k,hk,_⟩
 ·cases ho
 ·exact absurd hk (Nat.not_lt_zero _)⟩
theorem S3 {W:World} (hk:E.ok W.heap.size W) (bdh:∀g cs,E.jn g=some cs→bo (RX.start W) (.fp cs) (.pointer (some ⟨g,0,none⟩))):Rel W.heap.size W E (RX.start W) where
 below:=Below.refl _ _
 base:=bab _
 lt id o h:=by cases h
 obj id o h:=by cases h
 inj id id' o o' h:=by cases h
 fresh id o h:=by cases h
 Lq b h:=h.elim
 jn:=bdh
 start:=hk
 gg k s p h:=by cases h
 UR j k h:=absurd h (Nat.not_lt_zero _)
theorem U5 (hE:UN P E) (hg:∀g cs,E.jn g=some cs→AV.aj cs=true) (hm:P.follows .mixedOrders=true) {W:World} {args:Array Value} {avs:List AV} {n f:Nat} {h' :Heap} {c:dB}
  (bdh:∀g cs,E.jn g=some cs→bo (RX.start W) (.fp cs) (.pointer (some ⟨g,0,none⟩))) (hav:a_ (RX.start W) avs args.toList)
  (bbz:E.call n f avs .empty=some (.ret ⟨.bool true,h',c⟩)) (hk:E.ok W.heap.size W:=by trivial):Calls P f args W fun e w' =>e=.returned (.bool true)∧Below W.heap.size W w' :=by
 obtain⟨hC,_,_⟩:=abi hE hg (fun C h1 h2 h3=>UT h1 ⟨h2,h3⟩ hm) n
 obtain⟨_,bck⟩:=hC f avs .empty _ bbz
 have:=bck W.heap.size W (RX.start W) args.toList (S3 hk bdh) rfl hav
 rw[show args.toList.toArray=args by simp]at this
 refine Calls.mono this ?_
 rintro e w' ⟨X',v',rfl,_,g2,_,g4,rfl⟩
 cases g4;exact⟨rfl,g2.below⟩
theorem te {H:Type} {enc:TypeId×Value→H} (hl:laidOutB P=true) {W W' :World} {sp' :Nat→Bool}:∀{ts:List TypeId} {vs:List Value} {ds:List (DataW H)} {ps:List MemPlace},
  (∀t∈ts,P.readableRec t=true∧t<P.types.size)→DataW.TrodAll enc P W 0 (fun _=>true) true ts vs ds ps→(∀p∈ps,W.sameAt W' p)→(∀p∈ps,sp' p.block=true)→DataW.TrodAll enc P W' 0 sp' true ts vs ds ps
 |[],[],[],ps,_,h,_,_=>h
 |[],_::_,_,_,_,h,_,_=>h.elim
 |[],[],_::_,_,_,h,_,_=>h.elim
 |_::_,[],_,_,_,h,_,_=>h.elim
 |_::_,_::_,[],_,_,h,_,_=>h.elim
 |t::ts,v::vs,d::ds,ps,ht,h,hs,hsp=>by
  obtain⟨p,q,h1,h2,rfl⟩:=h
  obtain⟨g1,g2⟩:=ht t (by simp)
  exact⟨p,q,WideElems.Trod_stays hl g1 g2 h1 (fun x hx=>hs x (by simp[hx])) (fun x hx=>hsp x (by simp[hx])),
   te hl (fun t' ht' =>ht t' (by simp[ht'])) h2 (fun x hx=>hs x (by simp[hx])) (fun x hx=>hsp x (by simp[hx])),rfl⟩
theorem S4 {H:Type} {enc:TypeId×Value→H} {f:Func} {s:ChangeSpec} {apart fresh handsOn again:Bool} {W W' :World} {args:Array Value} {ds gs:List (DataW H)} {before:List MemPlace} {tb:TypeId}
  (hl:laidOutB P=true) (hps:∀t∈f.params.toList,P.readableRec t=true∧t<P.types.size) (hrt:f.resultTypes= #[tb]) (htb:P.underlying tb=some .bool) (hv:s.vars=[])
  (hfn:(s.fn H (ds++gs))={results:=[.lit (.bool true)],args:=ds})
  (hW:DataW.Whole enc P f.params.toList s.vars apart W args.toList ds gs before) (hb:Below W.heap.size W W'):s.post enc P f apart fresh handsOn again W args (.bool true) W' :=by
 have hlt:=hW.lt;have hW' :=hW
 obtain⟨p,q,hA,hV,rfl,hz,hn⟩:=hW'
 have hq:q=[]∧gs=[]:=by
  rw[hv]at hV
  cases gs with
  |nil=>exact⟨hV,rfl⟩
  |cons g gs=>exact hV.elim
 obtain⟨rfl,rfl⟩:=hq
 have hres:∀(b:Nat) (sp:Nat→Bool) (hd:Bool),DataW.TrodAll enc P W' b sp hd f.resultTypes.toList ((Value.bool true).resultList f.resultTypes.size) (s.fn H (ds++[])).results []:=by
  intro b sp hd;rw[hfn,hrt];refine⟨[],[],⟨1,?_⟩,rfl,rfl⟩
  simp[DataW.trod,htb,Value.cells]
 have bdb:∀sp:Nat→Bool,(∀x∈p++[],sp x.block=true)→DataW.TrodAll enc P W' 0 sp true f.params.toList args.toList (s.fn H (ds++[])).args p:=by
  intro sp hsp;rw[hfn];exact te hl hps hA (fun x hx=>hb.same (hlt x (by simp[hx]))) (fun x hx=>hsp x (by simp[hx]))
 have hvars:∀sp:Nat→Bool,DataW.TrodVars enc P W' sp s.vars (s.fn H (ds++[])).vars []:=by
  intro sp;rw[hfn,hv];rfl
 have hold:∀x∈p++[],(fun b=>decide (b<W.heap.size)) x.block=true:=fun x hx=>by simpa using hlt x hx
 refine⟨ds,[],p++[],[],p,[],hW,hres _ _ _,bdb _ hold,hvars _,World.keptBut_mono (fun x hx=>⟨hx,?_⟩) (hb.frame (fun x=>x∈p++[])),fun _=> ?_⟩
 ·exact Or.inr (by simpa using hx)
 ·refine⟨?_,_,_,([]++p)++[],⟨[]++p,[],trodAll_append (bdb _ (fun _ _=>rfl)) (hres _ _ _),hvars _,rfl,?_,?_⟩,?_⟩
  ·exact ok_one hrt rfl (by simp[Value.okWide,Cell.okWide,Cell.ok,htb])
  ·intro b off hp
   have hp' :MemPlace.cell b off∈p++[]:=by simpa using hp
   rw[hb.frozen (p:=⟨b,off,none⟩) (hlt _ hp')]
   exact hz b off hp'
  ·intro ha
   have:=hn ha
   simpa using this
  ·intro x hx _
   simpa using hx
end
end Go.AM
