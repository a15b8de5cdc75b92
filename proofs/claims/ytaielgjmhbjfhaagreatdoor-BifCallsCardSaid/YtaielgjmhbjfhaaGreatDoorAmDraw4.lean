/- For BifCalls. -/
import Derived.Test.YtaielgjmhbjfhaaGreatDoorAmCode
set_option linter.unusedVariables false
set_option linter.unusedSimpArgs false
namespace Go.AM
open Go.RowKit
section
variable {B : Nat} {w0 : World} {E : Env} {P : Program}
theorem UL {X:RX} {o:Oper} {a:Act} {out:fC} (h:Af B w0 E X P (execOp a.eval o) out) (hR:Rel B w0 E X) {K:Act→World→Prop} {Q:Exit→Act→World→Prop}
  (hK:∀r,out=.ret r→∀X' v',Rel B w0 E X' →Ext X X' →X'.h=r.h→bo X' r.v v' →K (a.put o.dst v') X'.w)
  (hQ:∀v h,out=.panic v h→∀X' v',Rel B w0 E X' →Ext X X' →X'.h=h→bo X' v v' →Q (.panic (zg v')) a X'.w):o.wp P a X.w K Q:=by
 unfold Oper.wp
 cases h with
 |val r hv=>
  obtain⟨X',v',h1,h2,h3,h4,h5⟩:=hv
  rcases h1 with h1|⟨h1,rfl⟩
  ·rw[h1,Oper.upon_value]
   exact hK r rfl X' v' h3 h4 h2 h5
  ·rw[h1,Oper.upon_skip]
   exact hK r rfl X' _ h3 h4 h2 h5
 |call f args out hr hc=>
  rw[hr,Oper.upon_enter];refine hc.mono fun e w' he=> ?_
  cases out with
  |ret r=>
   obtain⟨X',v',rfl,g2,g3,g4,g5,rfl⟩:=he
   exact hK r rfl X' v' g3 g4 g2 g5
  |panic v h=>
   obtain⟨X',v',rfl,g2,g3,g4,g5,rfl⟩:=he
   exact hQ v h rfl X' v' g3 g4 g2 g5
 |panic v v' hr hv=>
  rw[hr,Oper.upon_panic];exact hQ v X.h rfl X v' hR (Ext.refl X) rfl hv
theorem AQ {n:Nat} {fz:TypeId→Bool} {aA:Nat→Bool} {ops:Array Oper} {o:Oper} (hb:(bG P n fz aA ops o).op≠ .bad):
  (∃fr,Ah P fr o.op=some (bG P n fz aA ops o).op)∧(bG P n fz aA ops o).dst=o.dst∧kX ops o.guard=some (bG P n fz aA ops o).guard∧∀d,o.dst=some d→d<n:=by
 unfold bG at hb⊢
 split at hb
 ·rename_i g hg hd
  simp only[hg]at hb⊢
  refine⟨?_,trivial,trivial,fun d e=> ?_⟩
  ·cases ht:Ah P (still fz aA ops o) o.op with
   |none=>simp[ht]at hb
   |some ao=>exact⟨still fz aA ops o,by simp[ht]⟩
  ·rw[e]at hd
   simpa[Nat.blt_eq]using hd
 ·exact absurd rfl hb
theorem jN.bool {X:RX} {n:Nat} {σ:ah} {tmps:Array Value} (k:jN X n σ tmps) (t:Nat):(match tmps[t]? with|some (.bool b)=>some b|_=>none)=(match σ.get t with|.bool b=>some b|_=>none):=by
 have h:=k.get t
 simp only[bbk]at h
 cases hg:tmps[t]? with
 |none=>
  rw[hg]at h
  simp only[Option.getD_none,Go.undef]at h
  generalize σ.get t=x at h
  cases h;rfl
 |some v=>
  rw[hg]at h
  simp only[Option.getD_some]at h
  generalize σ.get t=x at h
  cases h<;>rfl
theorem tv {X:RX} {n:Nat} {σ:ah} {tmps:Array Value} (k:jN X n σ tmps) {ops:Array Oper} {o:Oper} {g:Option (Nat×Bool)} (hg:kX ops o.guard=some g) (ao:aH)
  (ha:ao.guard=g):Region.wanted o (yielded ops tmps)=ao.wanted σ:=by
 unfold Region.wanted aH.wanted
 rw[ha];cases hgo:o.guard with
 |none=>rw[hgo]at hg;simp only[kX,bae]at hg;subst hg;rfl
 |some jw=>
  obtain⟨j,want⟩:=jw
  rw[hgo]at hg
  simp only[kX,bai]at hg
  obtain⟨d,hd,rfl⟩:=hg
  have hb:=k.bool d
  simp only[yielded,hd,bag]
  cases hs:σ.get d with
  |bool b=>
   rw[hs]at hb
   cases ht:tmps[d]? with
   |none=>rw[ht]at hb;cases hb
   |some v=>
    rw[ht]at hb
    cases v<;>simp only[bae,reduceCtorEq]at hb
    subst hb;cases want<;>rename_i b' <;>cases b' <;>rfl
  |_=>
   rw[hs]at hb
   cases ht:tmps[d]? with
   |none=>cases want<;>rfl
   |some v=>
    rw[ht]at hb
    cases v<;>simp only[reduceCtorEq]at hb<;>cases want<;>rfl
theorem nT.put {X X' :RX} (hE:Ext X X') {n:Nat} {s:St} {a:Act} (k:nT X n s a) {dst:Option Nat} (hd:∀d,dst=some d→d<n) {v:AV} {v' :Value} (hv:bo X' v v') {h:Heap} (hh:X'.h=h):
  nT X' n (s.put dst v h) (a.put dst v'):=by
 cases dst with
 |none=>exact⟨hh,k.fM.ext hE,k.defers⟩
 |some d=>exact⟨hh,(k.fM.ext hE).put (hd d rfl) hv,k.defers⟩
theorem abg {C:eO} (hC:lz P E C) {X:RX} (hR:Rel B w0 E X) {n:Nat} {s:St} {a:Act} (k:nT X n s a) {fz:TypeId→Bool} {aA:Nat→Bool} {ops:Array Oper} {i:Nat} {o:Oper}
  (hi:ops[i]? =some o) {s' :St} {c:dB} {p:Option AV} (h:E.one C (bG P n fz aA ops o) s=some (s',c,p)) {K:Act→World→Prop} {Q:Exit→Act→World→Prop}
  (hK:p=none→∀X' a',Rel B w0 E X' →Ext X X' →nT X' n s' a' →K a' X'.w)
  (hQ:∀v,p=some v→∀X' v',Rel B w0 E X' →Ext X X' →nT X' n s' a→bo X' v v' →Q (.panic (zg v')) a X'.w):wpOp P ops Q i K a X.w:=by
 unfold wpOp
 simp only[hi]
 have bcc:(bG P n fz aA ops o).op≠ .bad∨(bG P n fz aA ops o)={dst:=none,op:=.bad,guard:=none}∨(∃g,(bG P n fz aA ops o)={dst:=o.dst,op:=.bad,guard:=g}∧kX ops o.guard=some g∧∀d,o.dst=some d→d<n):=by
  unfold bG
  split
  ·rename_i g hg hd
   cases ht:Ah P (still fz aA ops o) o.op with
   |none=>exact .inr (.inr ⟨g,by simp,hg,fun d e=>by rw[e]at hd;simpa[Nat.blt_eq]using hd⟩)
   |some ao=>
    by_cases he:ao=.bad
    ·exact .inr (.inr ⟨g,by simp[he],hg,fun d e=>by rw[e]at hd;simpa[Nat.blt_eq]using hd⟩)
    ·exact .inl (by simpa using he)
  ·exact .inr (.inl rfl)
 have skip:∀g,(bG P n fz aA ops o).guard=g→(bG P n fz aA ops o).dst=o.dst→kX ops o.guard=some g→(∀d,o.dst=some d→d<n)→(bG P n fz aA ops o).wanted s.σ=false→
   (if Region.wanted o (yielded ops a.tmps)then o.wp P a X.w K Q∨(o.asks P a X.w∧LetsOut Q)else K (a.put o.dst Go.undef) X.w):=by
  intro g hg hd hgo hdn hw;have hwr:=tv k.fM hgo (bG P n fz aA ops o) hg
  rw[hw]at hwr
  rw[if_neg (by simp[hwr])]
  unfold Env.one at h
  rw[hw]at h
  simp only[bae,baw]at h
  obtain⟨rfl,_,rfl⟩:=h
  refine hK rfl X _ hR (Ext.refl X) ?_
  rw[hd];exact k.put (Ext.refl X) hdn bo.undef k.heap
 rcases bcc with bcc|bcc|⟨g,bcc,hgo,hdn⟩
 ·obtain⟨⟨fr,ht⟩,hd,hg,hdn⟩:=AQ bcc
  cases hw:(bG P n fz aA ops o).wanted s.σ with
  |false=>exact skip _ rfl hd hg hdn hw
  |true=>
   have hwr:=tv k.fM hg (bG P n fz aA ops o) rfl
   rw[hw]at hwr
   rw[if_pos hwr]
   left
   unfold Env.one at h
   rw[hw]at h
   simp only[bai]at h
   obtain⟨out,bcy,h⟩:=h
   rw[←k.heap]at bcy
   have hc:=P2 hC hR k.fM ht bcy
   refine UL hc hR ?_ ?_
   ·rintro r rfl X' v' g1 g2 g3 g4
    simp only[baw]at h
    obtain⟨rfl,_,rfl⟩:=h
    refine hK rfl X' _ g1 g2 ?_
    rw[hd];exact k.put g2 hdn g4 g3
   ·rintro v hh rfl X' v' g1 g2 g3 g4
    simp only[baw]at h
    obtain⟨rfl,_,rfl⟩:=h
    exact hQ v rfl X' v' g1 g2 ⟨g3,k.fM.ext g2,k.defers⟩ g4
 ·exfalso
  rw[bcc]at h
  simp[Env.one,aH.wanted,Env.act,Env.op]at h
 ·cases hw:(bG P n fz aA ops o).wanted s.σ with
  |false=>exact skip g (by rw[bcc]) (by rw[bcc]) hgo hdn hw
  |true=>
   exfalso;unfold Env.one at h
   rw[hw]at h
   rw[bcc]at h
   simp[Env.act,Env.op]at h
theorem Qf {C:eO} (hC:lz P E C) {n:Nat} {fz:TypeId→Bool} {aA:Nat→Bool} {ops:Array Oper}:∀(l:List Oper) (i:Nat),ops.toList.drop i=l→∀{X:RX},Rel B w0 E X→∀{s:St} {a:Act},nT X n s a→
  ∀{e:aU} {s' :St},E.ops C (l.map (bG P n fz aA ops)) s=some (e,s')→∀{Q:Exit→Act→World→Prop},(∀e' a' w',jg B w0 E X n e s' e' a' w' →Q e' a' w')→
  wpOps P ops Q ((List.range ops.size).drop i) a X.w
 |[],i,hl,X,hR,s,a,k,e,s',h,Q,hQ=>by
  have hsz:ops.size≤i:=by
   have:=congrArg List.length hl
   simp at this;omega
  simp only[List.map_nil,Env.ops,bae,baw]at h
  obtain⟨rfl,rfl⟩:=h
  rw[List.drop_eq_nil_of_le (by simpa using hsz)]
  exact hQ _ _ _ ⟨X,rfl,hR,Ext.refl X,k,.norm⟩
 |o::l,i,hl,X,hR,s,a,k,e,s',h,Q,hQ=>by
  have hlt:i<ops.size:=by
   have:=congrArg List.length hl
   simp at this;omega
  have hi:ops[i]? =some o:=by
   have:(ops.toList.drop i)[0]? =some o:=by rw[hl];rfl
   simpa using this
  have hl' :ops.toList.drop (i+1)=l:=by
   have:=congrArg List.tail hl
   simpa using this
  have hr:(List.range ops.size).drop i=i::(List.range ops.size).drop (i+1):=by
   rw[bat (by simpa using hlt)]
   simp
  rw[hr,wpOps_cons];simp only[bba,Env.ops,bac]at h
  obtain⟨⟨s1,c,p⟩,h1,h2⟩:=h
  refine abg hC hR k hi h1 ?_ ?_
  ·rintro rfl X' a' g1 g2 g3
   exact Qf hC l (i+1) hl' g1 g3 h2 fun e' a' w' hp=>hQ _ _ _ (jg.trans g2 hp)
  ·rintro v rfl X' v' g1 g2 g3 g4
   simp only[bae,baw]at h2
   obtain⟨rfl,rfl⟩:=h2
   exact hQ _ _ _ ⟨X',rfl,g1,g2,g3,.panic _ _ g4⟩
theorem Lm {C:eO} (hC:lz P E C) {n:Nat} {fz:TypeId→Bool} {aA:Nat→Bool} {ops:Array Oper} {id:Nat} {X:RX} (hR:Rel B w0 E X) {s:St} {a:Act} (k:nT X n s a)
  {e:aU} {s' :St} (h:E.ops C (ops.toList.map (bG P n fz aA ops)) s=some (e,s')):(Code.region id ops false).wp P (jg B w0 E X n e s') a X.w:=by
 refine wp_region ?_
 have:=Qf hC ops.toList 0 (by simp) hR k h (Q:=jg B w0 E X n e s') (fun _ _ _ h=>h)
 simpa using this
def E3 (P:Program) (E:Env) (C:eO):Prop:=
 ∀(B:Nat) (w0:World) (n:Nat) (fz:TypeId→Bool) (aA:Nat→Bool) (ops:Array Oper) (id:Nat) (X:RX) (s:St) (a:Act) (e:aU) (s' :St),Rel B w0 E X→nT X n s a→
  pd ops (ops.toList.map (bG P n fz aA ops)) (Region.before ops).toList=true→
  E.Dh C (ops.toList.map (bG P n fz aA ops)) (Region.before ops).toList s=some (e,s')→(Code.region id ops true).wp P (jg B w0 E X n e s') a X.w
def wY (P:Program) (c:Code) (Q:Exit→Act→World→Prop) (a:Act) (w:World):Prop:=
 ∀(b:Frame) (k:List Item) (cs:List Frame),∃e a' w',Q e a' w' ∧Arrives P (lone (b.at a (.code c:: .inLoop c::k)) cs w) b k cs e a' w'
theorem SL {c:Code} {Q:Exit→Act→World→Prop} {a:Act} {w:World} (h:wY P c Q a w):(Code.loop c).wp P Q a w:=by
 intro b k cs;obtain⟨e,a',w',hq,bcp⟩:=h b k cs
 exact⟨e,a',w',hq,.of_steps (.one step_loop) bcp⟩
theorem I6 {c:Code} {Q:Exit→Act→World→Prop} {a:Act} {w:World} (h:c.wp P (Exit.then (wY P c Q) Q) a w):wY P c Q a w:=by
 intro b k cs;obtain⟨e,a₁,w₁,hq,bcp⟩:=h b (.inLoop c::k) cs
 cases e with
 |normal=>
  obtain⟨e₂,a₂,w₂,hq₂,harr₂⟩:=hq b k cs
  exact⟨e₂,a₂,w₂,hq₂,.of_steps (Steps.trans bcp (.one step_inLoop)) harr₂⟩
 |exit id=>exact⟨_,a₁,w₁,hq,.pass (x:=.inLoop c) rfl (fun _ _=>.inl (by simp)) bcp⟩
 |goto l=>exact⟨_,a₁,w₁,hq,.pass (x:=.inLoop c) rfl (fun _ _=>.inl (by simp)) bcp⟩
 |ret=>exact⟨_,a₁,w₁,hq,.pass (x:=.inLoop c) rfl (fun _ _=>.inl (by simp)) bcp⟩
 |panic ch=>exact⟨_,a₁,w₁,hq,.pass (x:=.inLoop c) rfl (fun _ _=>.inl (by simp)) bcp⟩
 |outgrown=>exact⟨_,a₁,w₁,hq,.pass (x:=.inLoop c) rfl (fun _ _=>.inl (by simp)) bcp⟩
theorem I7 {c:Code} {f:St→Option (aU×St)} {n:Nat}
  (hf:∀{X:RX},Rel B w0 E X→∀{s:St} {a:Act},nT X n s a→∀{e:aU} {s' :St},f s=some (e,s')→c.wp P (jg B w0 E X n e s') a X.w):
  ∀(m:Nat) {X:RX},Rel B w0 E X→∀{s:St} {a:Act},nT X n s a→∀{e:aU} {s' :St},mj f m s=some (e,s')→wY P c (jg B w0 E X n e s') a X.w
 |0,X,hR,s,a,k,e,s',h=>by simp[mj]at h
 |m+1,X,hR,s,a,k,e,s',h=>by
  simp only[mj,bac]at h
  obtain⟨⟨e1,s1⟩,h1,h2⟩:=h
  refine I6 (wp_mono (hf hR k h1) ?_)
  rintro e' a' w' ⟨X',rfl,g1,g2,g3,g4⟩
  have done:∀e1',rU X' e e1' →s1=s' →e1' ≠ .normal→Exit.then (wY P c (jg B w0 E X n e s')) (jg B w0 E X n e s') e1' a' X'.w:=by
   rintro e1' he rfl hne
   have:jg B w0 E X n e s1 e1' a' X'.w:=⟨X',rfl,g1,g2,g3,he⟩
   cases e1' <;>first|exact absurd rfl hne|exact this
  cases g4 with
  |norm=>
   have ih:=I7 hf m g1 g3 h2
   show wY P c _ a' X'.w
   intro b kk cs;obtain⟨e2,a2,w2,hq,bcp⟩:=ih b kk cs
   exact⟨e2,a2,w2,jg.trans g2 hq,bcp⟩
  |ret=>cases h2;exact done _ .ret rfl (by simp)
  |exit id=>cases h2;exact done _ (.exit id) rfl (by simp)
  |panic v v' hv=>cases h2;exact done _ (.panic v v' hv) rfl (by simp)
theorem UM {C:eO} (hC:lz P E C) (hD:E3 P E C) {n m:Nat} {fz:TypeId→Bool} {aA:Nat→Bool}:∀(c:Code) {X:RX},Rel B w0 E X→∀{s:St} {a:Act},nT X n s a→
  ∀{e:aU} {s' :St},E.code C m (fE P n fz aA c) s=some (e,s')→c.wp P (jg B w0 E X n e s') a X.w:=by
 intro c
 induction c with
 |skip=>
  intro X hR s a k e s' h;simp only[fE,Env.code,bae,baw]at h
  obtain⟨rfl,rfl⟩:=h
  exact wp_skip ⟨X,rfl,hR,Ext.refl X,k,.norm⟩
 |region id ops draw=>
  intro X hR s a k e s' h;cases draw with
  |false=>exact Lm hC hR k h
  |true=>
   simp only[fE]at h
   split at h
   ·rename_i hst
    exact hD B w0 n fz aA ops id X s a e s' hR k hst h
   ·simp[Env.code]at h
 |seq x y ihx ihy=>
  intro X hR s a k e s' h;simp only[fE,Env.code,bac]at h
  obtain⟨⟨e1,s1⟩,h1,h2⟩:=h
  refine wp_seq (wp_mono (ihx hR k h1) ?_)
  rintro e' a' w' ⟨X',rfl,g1,g2,g3,g4⟩
  cases g4 with
  |norm=>exact wp_mono (ihy g1 g3 h2) fun e' a' w' hp=>jg.trans g2 hp
  |ret=>cases h2;exact⟨X',rfl,g1,g2,g3,.ret⟩
  |exit id=>cases h2;exact⟨X',rfl,g1,g2,g3,.exit id⟩
  |panic v v' hv=>cases h2;exact⟨X',rfl,g1,g2,g3,.panic v v' hv⟩
 |cond c x y ihx ihy=>
  intro X hR s a k e s' h;simp only[fE]at h
  cases hc:cC c with
  |none=>rw[hc]at h;simp[Env.code]at h
  |some c' =>
   rw[hc]at h
   simp only[Env.code,bac]at h
   obtain⟨cv,hcv,h⟩:=h
   have hr:=bz hR k.fM hc hcv
   generalize hce:a.eval c=cc at hr
   cases hr with
   |bool b=>
    cases b with
    |true=>exact wp_cond_true hce (ihx hR k h)
    |false=>exact wp_cond_false hce (ihy hR k h)
   |_=>cases h
 |block id b ih=>
  intro X hR s a k e s' h;simp only[fE,Env.code,bai]at h
  obtain⟨⟨e1,s1⟩,h1,h2⟩:=h
  refine wp_block (wp_mono (ih hR k h1) ?_)
  rintro e' a' w' ⟨X',rfl,g1,g2,g3,g4⟩
  cases g4 with
  |norm=>cases h2;exact⟨X',rfl,g1,g2,g3,.norm⟩
  |ret=>cases h2;exact⟨X',rfl,g1,g2,g3,.ret⟩
  |exit id' =>
   dsimp only at h2
   by_cases hid:id' =id
   ·rw[if_pos hid]at h2
    cases h2;simp only[Exit.inBlock,if_pos hid]
    exact⟨X',rfl,g1,g2,g3,.norm⟩
   ·rw[if_neg hid]at h2
    cases h2;simp only[Exit.inBlock,if_neg hid]
    exact⟨X',rfl,g1,g2,g3,.exit id'⟩
  |panic v v' hv=>cases h2;exact⟨X',rfl,g1,g2,g3,.panic v v' hv⟩
 |loop b ih=>
  intro X hR s a k e s' h;simp only[fE,Env.code]at h
  exact SL (I7 (f:=E.code C m (fE P n fz aA b)) (fun hR _ _ k _ _ h=>ih hR k h) m hR k h)
 |exit id=>
  intro X hR s a k e s' h;simp only[fE,Env.code,bae,baw]at h
  obtain⟨rfl,rfl⟩:=h
  exact wp_exit ⟨X,rfl,hR,Ext.refl X,k,.exit id⟩
 |scope b ih=>
  intro X hR s a k e s' h;simp only[fE,Env.code]at h
  refine wp_scope_straight (wp_mono (ih hR k h) ?_)
  rintro e' a' w' ⟨X',rfl,g1,g2,g3,g4⟩
  have:jg B w0 E X n e s' e' a' X'.w:=⟨X',rfl,g1,g2,g3,g4⟩
  cases g4<;>exact this
 |label l=>
  intro X hR s a k e s' h;simp only[fE,Env.code,bae,baw]at h
  obtain⟨rfl,rfl⟩:=h
  exact wp_label ⟨X,rfl,hR,Ext.refl X,k,.norm⟩
 |ret=>
  intro X hR s a k e s' h;simp only[fE,Env.code,bae,baw]at h
  obtain⟨rfl,rfl⟩:=h
  exact wp_ret ⟨X,rfl,hR,Ext.refl X,k,.ret⟩
 |goto l=>intro X hR s a k e s' h;simp[fE,Env.code]at h
 |refuse w=>intro X hR s a k e s' h;simp[fE,Env.code]at h
 |rangeFunc f ps as b ih1 ih2=>intro X hR s a k e s' h;simp[fE,Env.code]at h
structure UN (P:Program) (E:Env):Prop where
 func:∀f af,E.func f=some af→∃fn fz aA,P.funcs[f]? =some fn∧aJ P fz aA fn=some af
 nU:∀f p,E.nU f=some p→j_ P f∧∀args h v h',p args h=some (v,h')→∀(B:Nat) (w0:World) (X:RX) (ab:List Value),Rel B w0 E X→X.h=h→a_ X args ab→
  Calls P f ab.toArray X.w (Outcome B w0 E X (.ret ⟨v,h',.write⟩))
end
end Go.AM
namespace Go.AM
open Go.RowKit
section
variable {B : Nat} {w0 : World} {E : Env} {P : Program}
theorem AR:∀(vs:List AV) (i:Nat) (σ:ah) (t:Nat),(ah.bbw i vs σ).get t=if i≤t∧t<i+vs.length then vs.getD (t-i) .undef else σ.get t
 |[],i,σ,t=>by simp[ah.bbw];intro h1 h2;omega
 |v::vs,i,σ,t=>by
  simp only[ah.bbw]
  rw[AR vs (i+1),ah.aa]
  simp only[bav]
  by_cases h1:i+1≤t∧t<i+1+vs.length
  ·rw[if_pos h1,if_pos (by omega)]
   have:t-i=(t-(i+1))+1:=by omega
   rw[this];simp
  ·rw[if_neg h1]
   by_cases h2:t=i
   ·subst h2;rw[if_pos rfl,if_pos (by omega)];simp
   ·rw[if_neg h2,if_neg (by omega)]
theorem abh (t:Nat):ah.empty.get t=.undef:=rfl
theorem SM {X:RX} {args:List AV} {ab:List Value} (h:a_ X args ab) (n:Nat):jN X n (ah.bbw 0 args .empty) (ab.toArray++Array.replicate (n-ab.toArray.size) Go.undef):=by
 refine⟨by simp;omega,fun t=> ?_⟩
 rw[AR];have hl:=h.length
 by_cases ht:t<args.length
 ·rw[if_pos (by omega)]
  have hg:args[t]? =some (args.getD (t-0) .undef):=by simp[List.getD,ht]
  obtain⟨c,hc,hv⟩:=h.get hg
  have:(ab.toArray++Array.replicate (n-ab.toArray.size) Go.undef).getD t Go.undef=c:=by
   have ht' :t<ab.length:=by omega
   simp only[bbk,Array.getElem?_append,List.size_toArray,if_pos ht',bbs,hc,Option.getD_some]
  rw[this];exact hv
 ·rw[if_neg (by omega),abh]
  have:(ab.toArray++Array.replicate (n-ab.toArray.size) Go.undef).getD t Go.undef=Go.undef:=by
   simp only[bbk,Array.getElem?_append,List.size_toArray]
   rw[if_neg (by omega)]
   simp only[Array.getElem?_replicate]
   split<;>rfl
  rw[this];exact bo.undef
theorem UO {X:RX} (hR:Rel B w0 E X) {t:TypeId} {agg:Bool} {sz:Nat} (ha:sT P t=some agg) (hs:cZ P t=some sz) {x:AV} {c:Value} (hx:bo X x c)
  {r:cB} (h:bg X.h agg sz x=some r):∃v',(do loadVar t (←asAddr c):Sem Value).run P X.w=.ok v' X.w∧bo X r.v v' :=by
 cases hx with
 |ptr id gen off a hid mn=>
  simp only[bg,jac]at h
  obtain⟨cs,hcs,v,hv,rfl⟩:=h
  have hl:=Heap.gY hcs
  obtain⟨vs,h1,h2⟩:=(hR.obj id _ hl).at off
  obtain⟨v',hv',hr⟩:=mq (P:=P) ha hs h1 ((hR.obj id _ hl).one.drop off) h2 hv
  have e:=(mn _ hl).2 rfl
  subst e;exact⟨v',by simpa[asAddr]using hv',hr⟩
 |fp cells b o vs hst hat h1 hvs=>
  simp only[bg,bai]at h
  obtain⟨v,hv,rfl⟩:=h
  obtain⟨v',hv',hr⟩:=mq (P:=P) ha hs hvs h1 hat hv
  exact⟨v',by simpa[asAddr]using hv',hr⟩
 |_=>simp[bg]at h
theorem qB {X:RX} (hR:Rel B w0 E X) {n:Nat} {s:St} {tmps:Array Value} (hh:X.h=s.h) (k:jN X n s.σ tmps) {f:ResultVar→Sem Value} (h1:∀t,f (.tmp t)=pure (tmps.getD t Go.undef))
  (h2:∀a t,f (.cell a t)=(do loadVar t (←asAddr (tmps.getD a Go.undef)))):∀{rs:List ResultVar} {ars:List ET},rs.mapM (Qg P)=some ars→
  ∀{vs:List AV},E.results s ars=some vs→∃vs' :List Value,(rs.mapM f).run P X.w=.ok vs' X.w∧a_ X vs vs'
 |[],ars,ht,vs,h=>by
  simp at ht;subst ht
  simp only[Env.results,bae]at h;subst h
  exact⟨[],by simp,.nil⟩
 |r::rs,ars,ht,vs,h=>by
  simp only[bbn,bam,bap,bac]at ht
  obtain⟨ar,har,ars',hars,e⟩:=ht
  cases e;cases r with
  |tmp t=>
   simp only[Qg,bae]at har
   subst har;simp only[Env.results,bai]at h
   obtain⟨vs1,hvs1,rfl⟩:=h
   obtain⟨vs',g1,g2⟩:=qB hR hh k h1 h2 hars hvs1
   exact⟨_::vs',by simp[h1,g1],.cons _ _ _ _ (k.get t) g2⟩
  |cell a t=>
   simp only[Qg,bap,bam,jaa]at har
   obtain⟨ag,hag,sz,hsz,rfl⟩:=har
   simp only[Env.results,jac]at h
   obtain⟨r1,hr1,vs1,hvs1,rfl⟩:=h
   rw[←hh]at hr1
   obtain⟨v',q1,q2⟩:=UO (P:=P) hR hag hsz (k.get a) hr1
   obtain⟨vs',g1,g2⟩:=qB hR hh k h1 h2 hars hvs1
   refine⟨v' ::vs',?_,.cons _ _ _ _ q2 g2⟩
   rw[bbn,h2,Sem.run_bind,q1];simp only[Result.andThen_ok,Sem.run_bind,g1,Sem.run_pure]
theorem E4 {X:RX} {vs:List AV} {vs' :List Value} (h:a_ X vs vs'):bo X (dX vs) (if h:vs'.toArray.size=1 then vs'.toArray[0]else .tuple vs'.toArray):=by
 cases h with
 |nil=>simpa[dX]using bo.aF (X:=X) [] [] .nil
 |cons v v' vs vs' hv hvs=>
  cases hvs with
  |nil=>simpa[dX]using hv
  |cons u u' us us' hu hus=>
   have:=bo.aF (X:=X) _ _ (.cons v v' _ _ hv (.cons u u' _ _ hu hus))
   simpa[dX]using this
theorem I8 {C:eO} (hC:lz P E C) (hD:E3 P E C) {m:Nat} {f:Nat} {fn:Func} {fz:TypeId→Bool} {aA:Nat→Bool} {af:aS} (hf:P.funcs[f]? =some fn)
  (ht:aJ P fz aA fn=some af) {X:RX} (hR:Rel B w0 E X) {args:List AV} {ab:List Value} (ha:a_ X args ab) {out:fC} (h:E.body C m af args X.h=some out):
  Calls P f ab.toArray X.w (Outcome B w0 E X out):=by
 simp only[aJ,bap,bac]at ht
 obtain⟨body,hb,ht⟩:=ht
 split at ht
 ·cases ht
 simp only[bam,jaa]at ht
 obtain⟨rs,hrs,rfl⟩:=ht
 simp only[Env.body,bac]at h
 obtain⟨⟨e,s⟩,hcode,h⟩:=h
 refine calls_of_wp hf hb (wp_mono (UM hC hD body hR (s:=⟨ah.bbw 0 args .empty,X.h⟩) ⟨rfl,SM ha fn.ntmps,rfl⟩ hcode) ?_)
 rintro e' a' w' ⟨X',rfl,g1,g2,g3,g4⟩
 have fin:∀vs,E.results s rs=some vs→out=.ret ⟨dX vs,s.h,.write⟩→
   a'.defers=[]∧∃v,(results fn a'.tmps).run P X'.w=.ok v X'.w∧Outcome B w0 E X out (.returned v) X'.w:=by
  rintro vs hvs rfl
  have key:∀f:ResultVar→Sem Value,(∀t,f (.tmp t)=pure (a'.tmps.getD t Go.undef))→(∀a t,f (.cell a t)=(do loadVar t (←asAddr (a'.tmps.getD a Go.undef))))→
    ∃vs' :List Value,(do let vs←fn.results.mapM f;pure (if h:vs.size=1 then vs[0]else .tuple vs):Sem Value).run P X'.w=.ok (if h:vs'.toArray.size=1 then vs'.toArray[0]else .tuple vs'.toArray) X'.w∧a_ X' vs vs' :=by
   intro f e1 e2;obtain⟨vs',q1,q2⟩:=qB (P:=P) g1 g3.heap g3.fM e1 e2 hrs hvs
   refine⟨vs',?_,q2⟩
   rw[Array.mapM_eq_mapM_toList];simp only[Sem.run_bind,Sem.run_map,q1,Result.andThen_ok,Sem.run_pure]
  let f:ResultVar→Sem Value:=fun r=>match r with
   |.tmp t=>pure (a'.tmps.getD t Go.undef)
   |.cell a t=>do loadVar t (←asAddr (a'.tmps.getD a Go.undef))
  obtain⟨vs',q1,q2⟩:=key f (fun _=>rfl) (fun _ _=>rfl)
  exact⟨g3.defers,_,q1,X',_,rfl,g3.heap,g1,g2,E4 q2,rfl⟩
 cases g4 with
 |norm=>
  simp only[bai]at h
  obtain⟨vs,hvs,rfl⟩:=h
  exact fin vs hvs rfl
 |ret=>
  simp only[bai]at h
  obtain⟨vs,hvs,rfl⟩:=h
  exact fin vs hvs rfl
 |exit id=>cases h
 |panic v v' hv=>
  simp only[bae]at h
  subst h;exact⟨g3.defers,X',v',rfl,g3.heap,g1,g2,hv,rfl⟩
theorem Ln {f:Nat} {fn:Func} {fz:TypeId→Bool} {aA:Nat→Bool} {af:aS} (hf:P.funcs[f]? =some fn) (ht:aJ P fz aA fn=some af):j_ P f:=by
 simp only[aJ,bap,bac]at ht
 obtain⟨body,hb,ht⟩:=ht
 split at ht
 ·cases ht
 rename_i hn;exact⟨fn,hf,by simp[hb],hn⟩
mutual
theorem bo.move {X X' :RX} (hw:X'.w=X.w) (hs:∀b,X.Still b→X'.Still b):∀{v:AV} {c:Value},bo X v c→v.ae=true→bo X' v c
 |_,_,.bool b,_=>.bool b
 |_,_,.int k n,_=>.int k n
 |_,_,.str s,_=>.str s
 |_,_,.gC,_=>.gC
 |_,_,.ax,_=>.ax
 |_,_,.qt,_=>.qt
 |_,_,.qk,_=>.qk
 |_,_,.bL,_=>.bL
 |_,_,.ptr id gen off a hid mn,h=>by simp[AV.ae]at h
 |_,_,.xO k hk,h=>by simp[AV.ae]at h
 |_,_,.sl id gen off sz len cap a n hid hlen r9 mn,h=>by simp[AV.ae]at h
 |_,_,.fp cells b o vs hst hat h1 hvs,h=>.fp cells b o vs (hs b hst) (by rw[hw];exact hat) h1 (hvs.move hw hs (by simpa[AV.ae]using h))
 |_,_,.fs full len cells a n vs hlen bca hat h1 hvs,h=>.fs full len cells a n vs hlen bca (fun hne=>by
   obtain⟨b,o,e,hst,hc⟩:=hat hne
   exact⟨b,o,e,hs b hst,by rw[hw];exact hc⟩) h1 (hvs.move hw hs (by simpa[AV.ae]using h))
 |_,_,.fn f a b a' b' ha hb,h=>.fn f a b a' b' (ha.move hw hs (by simp[AV.ae]at h;exact h.1)) (hb.move hw hs (by simp[AV.ae]at h;exact h.2))
 |_,_,.fN t v v' hv,h=>.fN t v v' (hv.move hw hs (by simpa[AV.ae]using h))
 |_,_,.agg cs cs' h1 hv,h=>.agg cs cs' h1 (hv.move hw hs (by simpa[AV.ae]using h))
 |_,_,.aF vs vs' hv,h=>.aF vs vs' (hv.move hw hs (by simpa[AV.ae]using h))
theorem a_.move {X X' :RX} (hw:X'.w=X.w) (hs:∀b,X.Still b→X'.Still b):∀{v:List AV} {c:List Value},a_ X v c→AV.aj v=true→a_ X' v c
 |_,_,.nil,_=>.nil
 |_,_,.cons v v' vs vs' hv hvs,h=>.cons v v' vs vs' (hv.move hw hs (by simp[AV.aj]at h;exact h.1)) (hvs.move hw hs (by simp[AV.aj]at h;exact h.2))
end
structure UP (B:Nat) (w0:World) (E:Env) (X X' :RX):Prop where
 w:X'.w=X.w
 still:∀b,X.Still b→X'.Still b
 own:∀b,X.Own b→X'.Still b
 rel:Rel B w0 E X
theorem Lo {h:Heap}:∀{n:Nat} {v u:AV},freeze h n v=some u→u.one=v.one:=by
 intro n v u hf;cases n with
 |zero=>cases hf
 |succ n=>
  simp only[freeze]at hf
  split at hf
  ·cases hf;rfl
  ·cases v<;>simp only[reduceCtorEq,jac]at hf
   ·obtain⟨_,_,_,_,rfl⟩:=hf;rfl
   ·obtain⟨_,_,hf⟩:=hf
    split at hf
    ·simp only[bai]at hf;obtain⟨_,_,rfl⟩:=hf;rfl
    ·cases hf
   ·obtain⟨_,_,rfl⟩:=hf;rfl
   ·obtain⟨_,_,rfl⟩:=hf;rfl
   ·obtain⟨_,_,rfl⟩:=hf;rfl
   ·obtain⟨_,_,rfl⟩:=hf;rfl
   ·obtain⟨_,_,rfl⟩:=hf;rfl
theorem n9 {h:Heap} {n:Nat}:∀{vs us:List AV},vs.mapM (freeze h n)=some us→bI vs→bI us
 |[],us,hm,_=>by simp at hm;subst hm;exact fun _ h=>by cases h
 |v::vs,us,hm,h1=>by
  simp only[bbn,bam,bap,bac]at hm
  obtain⟨u,hu,r,hr,e⟩:=hm
  cases e;intro x hx;cases hx with
  |head=>rw[Lo hu];exact h1 v (by simp)
  |tail _ hx=>exact n9 hr (fun y hy=>h1 y (by simp[hy])) x hx
theorem Lp {X X' :RX} (hT:UP B w0 E X X'):∀(n:Nat) {v u:AV} {c:Value},freeze X.h n v=some u→bo X v c→bo X' u c:=by
 intro n
 induction n with
 |zero=>intro v u c h;cases h
 |succ n ih=>
  intro v u c h hv;have list:∀{vs us:List AV} {cs:List Value},vs.mapM (freeze X.h n)=some us→a_ X vs cs→a_ X' us cs:=by
   intro vs
   induction vs with
   |nil=>intro us cs hm hr;simp at hm;subst hm;cases hr;exact .nil
   |cons v vs ihv=>
    intro us cs hm hr;simp only[bbn,bam,bap,bac]at hm
    obtain⟨u,hu,r,hr',e⟩:=hm
    cases e;cases hr with
    |cons _ c _ cs hv hvs=>exact .cons _ _ _ _ (ih hu hv) (ihv hr' hvs)
  simp only[freeze]at h
  split at h
  ·rename_i hn
   cases h;exact hv.move hT.w hT.still hn
  ·cases hv with
   |ptr id gen off a hid mn=>
    simp only[jac]at h
    obtain⟨cs,hcs,us,hus,rfl⟩:=h
    have hl:=Heap.gY hcs
    have hO:=hT.rel.obj id _ hl
    obtain⟨vs,h1,h2⟩:=hO.at off
    have e:=(mn _ hl).2 rfl
    subst e;exact .fp _ _ _ _ (hT.own _ (.inl ⟨id,_,hl,rfl⟩)) (by rw[hT.w];exact h2) (n9 hus (hO.one.drop off)) (list hus h1)
   |sl id gen off sz len cap a m hid hlen r9 mn=>
    simp only[bac]at h
    obtain⟨cs,hcs,h⟩:=h
    split at h
    ·rename_i bcb
     simp only[bai]at h
     obtain⟨us,hus,rfl⟩:=h
     have hl:=Heap.gY hcs
     have hO:=hT.rel.obj id _ hl
     obtain⟨vs,h1,h2⟩:=hO.at off
     refine .fs _ _ _ _ _ (vs.take (len*sz)) hlen (fun hf=> ?_) (fun hne=> ?_) (n9 hus ((hO.one.drop off).take _)) (list hus (h1.take _))
     ·simp only[beq_iff_eq]at hf
      exact r9 _ hf
     ·have bcn:0<len:=by
       apply Nat.pos_of_ne_zero
       rintro rfl;simp at hus;exact hne hus
      have ha:=((mn _ hl).2 rfl).1 (by omega)
      exact⟨_,_,ha,hT.own _ (.inl ⟨id,_,hl,rfl⟩),by rw[hT.w];exact h2.take _⟩
    ·cases h
   |fp cells b o vs hst hat h1 hvs=>
    simp only[bai]at h
    obtain⟨us,hus,rfl⟩:=h
    exact .fp _ _ _ _ (hT.still _ hst) (by rw[hT.w];exact hat) (n9 hus h1) (list hus hvs)
   |fs full len cells a m vs hlen bca hat h1 hvs=>
    simp only[bai]at h
    obtain⟨us,hus,rfl⟩:=h
    refine .fs _ _ _ _ _ vs hlen bca (fun hne=> ?_) (n9 hus h1) (list hus hvs)
    have hne' :cells≠[]:=by rintro rfl;simp at hus;exact hne hus
    obtain⟨b,o,e,hst,hc⟩:=hat hne'
    exact⟨b,o,e,hT.still _ hst,by rw[hT.w];exact hc⟩
   |fN t v v' hv=>
    simp only[bai]at h
    obtain⟨u',hu,rfl⟩:=h
    exact .fN _ _ _ (ih hu hv)
   |agg cs cs' h1 hv=>
    simp only[bai]at h
    obtain⟨us,hus,rfl⟩:=h
    exact .agg _ _ (n9 hus h1) (list hus hv)
   |aF vs vs' hv=>
    simp only[bai]at h
    obtain⟨us,hus,rfl⟩:=h
    exact .aF _ _ (list hus hv)
   |_=>cases h
def RX.bare (X:RX):RX:={X with h:=.empty,F:=fun b=>X.F b∨X.Own b}
theorem AS {X:RX} {b:Nat} (h:X.Still b):X.bare.Still b:=
 ⟨h.1,fun hF=>hF.elim h.2.1 h.2.2,fun hO=>by
  rcases hO with⟨id,o,ho,_⟩|⟨k,hk,_⟩
  ·cases ho
  ·exact absurd hk (Nat.not_lt_zero _)⟩
theorem UQ {X:RX} (hg:∀g cs,E.jn g=some cs→AV.aj cs=true) (hR:Rel B w0 E X):Rel B w0 E X.bare where
 below:=hR.below
 base:=hR.base
 lt id o h:=by cases h
 obj id o h:=by cases h
 inj id id' o o' h:=by cases h
 fresh id o h:=by cases h
 Lq b h:=by
  rcases h with h|⟨id,o,ho,rfl⟩|⟨k,hk,rfl⟩
  ·exact hR.Lq b h
  ·exact(hR.obj id o ho).lt
  ·exact(bbh.1 (hR.gg k X.h.gg[k].1 X.h.gg[k].2 (bbq hk)).1).1
 jn g cs h:=(hR.jn g cs h).move (X:=X) (X' :=X.bare) rfl (fun b hb=>AS hb) (by simpa[AV.ae]using hg g cs h)
 start:=hR.start
 gg k s p h:=by cases h
 UR j k h:=absurd h (Nat.not_lt_zero _)
theorem abi (hE:UN P E) (hg:∀g cs,E.jn g=some cs→AV.aj cs=true) (hD:∀C,lz P E C→(∀f args h v h1,C f args h=some (.ret ⟨v,h1,.none⟩)→h1=h∧∀h2,C f args h2=some (.ret ⟨v,h2,.none⟩))→(∀f args h v h1,C f args h≠some (.ret ⟨v,h1,.read⟩))→E3 P E C):
  ∀n,lz P E (E.call n)∧(∀f args h v h1,E.call n f args h=some (.ret ⟨v,h1,.none⟩)→h1=h∧∀h2,E.call n f args h2=some (.ret ⟨v,h2,.none⟩))∧(∀f args h v h1,E.call n f args h≠some (.ret ⟨v,h1,.read⟩)):=by
 intro n
 induction n with
 |zero=>exact⟨(fun f args h o hc=>by cases hc),(fun f args h v h1 hc=>by cases hc),(fun f args h v h1 hc=>by cases hc)⟩
 |succ n ih=>
  obtain⟨ih1,ih2,ih3⟩:=ih
  have hDn:=hD _ ih1 ih2 ih3
  have bdd:∀m af args h out,E.body (E.call n) m af args h=some out→(∃r,out=.ret r∧r.c=.write)∨∃v h',out=.panic v h' :=by
   intro m af args h out hb;simp only[Env.body,bac]at hb
   obtain⟨⟨e,s⟩,_,hb⟩:=hb
   cases e<;>simp only[reduceCtorEq,bai,bae]at hb
   ·obtain⟨vs,_,rfl⟩:=hb;exact .inl ⟨_,rfl,rfl⟩
   ·obtain⟨vs,_,rfl⟩:=hb;exact .inl ⟨_,rfl,rfl⟩
   ·exact .inr ⟨_,_,hb.symm⟩
  refine⟨?_,?_,?_⟩
  ·intro f args h o hc
   simp only[Env.call]at hc
   cases hp:E.nU f with
   |some p=>
    rw[hp]at hc
    simp only[bai]at hc
    obtain⟨⟨v,h'⟩,hpv,rfl⟩:=hc
    obtain⟨g1,g2⟩:=hE.nU f p hp
    exact⟨g1,fun B w0 X ab hR hX ha=>g2 args h v h' hpv B w0 X ab hR hX ha⟩
   |none=>
    rw[hp]at hc
    simp only[bac]at hc
    obtain⟨af,haf,hc⟩:=hc
    obtain⟨fn,fz,aA,hfn,htr⟩:=hE.func f af haf
    refine⟨Ln hfn htr,fun B w0 X ab hR hX ha=> ?_⟩
    have plain:E.body (E.call n) n af args h=some o→Calls P f ab.toArray X.w (Outcome B w0 E X o):=by
     intro hb;rw[←hX]at hb
     exact I8 ih1 hDn hfn htr hR ha hb
    cases hpu:E.kO f with
    |false=>rw[hpu]at hc;exact plain hc
    |true=>
     rw[hpu]at hc
     cases hno:AV.aj args with
     |false=>rw[hno]at hc;exact plain hc
     |true=>
      rw[hno]at hc
      simp only[bac]at hc
      obtain⟨out,bcy,hc⟩:=hc
      cases out with
      |panic v h' =>cases hc
      |ret r=>
       simp only[bai]at hc
       obtain⟨u,hu,rfl⟩:=hc
       have ha' :=ha.move (X:=X) (X' :=X.bare) rfl (fun b hb=>AS hb) hno
       have bck:=I8 ih1 hDn hfn htr (UQ hg hR) ha' (out:=.ret r) bcy
       refine bck.mono ?_
       rintro e w' ⟨X1,v',rfl,q2,q3,q4,q5,rfl⟩
       have hblk:∀b,b<X.w.heap.size→X1.w.heap[b]? =X.w.heap[b]? ∧¬X1.Own b:=fun b hb=>q4.other b hb (fun hO=>by
        rcases hO with⟨id,o,ho,_⟩|⟨k,hk,_⟩
        ·cases ho
        ·exact absurd hk (Nat.not_lt_zero _))
       have hE2:Ext X {X with w:=X1.w}:=⟨rfl,bab _,q4.size,fun b hb hno=>⟨(hblk b hb).1,hno⟩,fun _ o' _ h=>⟨o',h,bab _,fun _=>rfl⟩,bab _,fun _ _=>rfl⟩
       have hR2:Rel B w0 E {X with w:=X1.w}:={
        below:=q3.below
        base:=q3.base
        lt:=hR.lt
        obj:=fun id o ho=>(hR.obj id o ho).ext hE2 (hblk _ (hR.obj id o ho).lt).1
        inj:=hR.inj
        fresh:=hR.fresh
        Lq:=fun b hb=>baz (hR.Lq b hb) q4.size
        jn:=fun g cs h=>(hR.jn g cs h).ext hE2
        start:=hR.start
        gg:=fun k s p hk=>by
         obtain⟨g1,g2,g3⟩:=hR.gg k s p hk
         exact⟨by rw[(hblk _ (bbh.1 g1).1).1];exact g1,g2,g3⟩
        UR:=hR.UR}
       have hF1:∀b,X1.F b↔(X.F b∨X.Own b):=fun b=>by rw[q4.F];rfl
       have hT:UP B w0 E X1 {X with w:=X1.w}:={
        w:=rfl
        still:=fun b hb=>⟨hb.1,fun hF=>hb.2.1 ((hF1 b).2 (.inl hF)),fun hO=>hb.2.1 ((hF1 b).2 (.inr hO))⟩
        own:=fun b hO1=>by
         rcases hO1 with⟨id,o,ho,he⟩|⟨k,hk,he⟩
         ·have hf:=(q3.fresh id o ho).2
          rw[he]at hf
          have hlt:=(q3.obj id o ho).lt
          rw[he]at hlt
          exact⟨hlt,fun hF=>hf ((hF1 b).2 (.inl hF)),fun hO=>hf ((hF1 b).2 (.inr hO))⟩
         ·obtain⟨g1,g2,g3⟩:=q3.gg k X1.h.gg[k].1 X1.h.gg[k].2 (bbq hk)
          rw[he]at g1 g3
          exact⟨(bbh.1 g1).1,fun hF=>g3 ((hF1 b).2 (.inl hF)),fun hO=>g3 ((hF1 b).2 (.inr hO))⟩
        rel:=q3}
       rw[←q2]at hu
       exact⟨{X with w:=X1.w},v',rfl,hX,hR2,hE2,Lp hT n hu q5,rfl⟩
  ·intro f args h v h1 hc
   simp only[Env.call]at hc
   cases hp:E.nU f with
   |some p=>
    rw[hp]at hc
    simp only[bai,fC.ret.injEq,cB.mk.injEq,reduceCtorEq,and_false,exists_false]at hc
   |none=>
    rw[hp]at hc
    simp only[bac]at hc
    obtain⟨af,haf,hc⟩:=hc
    cases hpu:E.kO f with
    |false=>
     rw[hpu]at hc
     rcases bdd _ _ _ _ _ hc with⟨r,e,hw⟩|⟨_,_,e⟩
     ·cases e;cases hw
     ·cases e
    |true=>
     rw[hpu]at hc
     cases hno:AV.aj args with
     |false=>
      rw[hno]at hc
      rcases bdd _ _ _ _ _ hc with⟨r,e,hw⟩|⟨_,_,e⟩
      ·cases e;cases hw
      ·cases e
     |true=>
      rw[hno]at hc
      simp only[bac]at hc
      obtain⟨out,bcy,hc⟩:=hc
      cases out with
      |panic v h' =>cases hc
      |ret r=>
       simp only[bai,fC.ret.injEq,cB.mk.injEq,and_true]at hc
       obtain⟨u,hu,rfl,rfl⟩:=hc
       refine⟨rfl,fun h2=> ?_⟩
       simp only[Env.call,hp,haf,hpu,hno,bcy,hu,jab]
  ·intro f args h v h1 hc
   simp only[Env.call]at hc
   cases hp:E.nU f with
   |some p=>
    rw[hp]at hc
    simp only[bai,fC.ret.injEq,cB.mk.injEq,reduceCtorEq,and_false,exists_false]at hc
   |none=>
    rw[hp]at hc
    simp only[bac]at hc
    obtain⟨af,haf,hc⟩:=hc
    have nb:∀m h,E.body (E.call n) m af args h≠some (.ret ⟨v,h1,.read⟩):=by
     intro m h hb
     rcases bdd _ _ _ _ _ hb with⟨r,e,hw⟩|⟨_,_,e⟩
     ·cases e;cases hw
     ·cases e
    cases hpu:E.kO f with
    |false=>rw[hpu]at hc;exact nb _ _ hc
    |true=>
     rw[hpu]at hc
     cases hno:AV.aj args with
     |false=>rw[hno]at hc;exact nb _ _ hc
     |true=>
      rw[hno]at hc
      simp only[bac]at hc
      obtain⟨out,bcy,hc⟩:=hc
      cases out with
      |panic v h' =>cases hc
      |ret r=>simp only[bai,fC.ret.injEq,cB.mk.injEq,reduceCtorEq,and_false,exists_false]at hc
end
end Go.AM
namespace Go.AM
open Go.RowKit
mutual
theorem AV.E5:∀{a b:AV},a.same b=true→a=b
 |.bool a,b,h=>by cases b<;>simp_all [AV.same]
 |.int j a,b,h=>by cases b<;>simp_all [AV.same]
 |.str a,b,h=>by cases b<;>simp_all [AV.same]
 |.gC,b,h=>by cases b<;>simp_all [AV.same]
 |.ax,b,h=>by cases b<;>simp_all [AV.same]
 |.qt,b,h=>by cases b<;>simp_all [AV.same]
 |.qk,b,h=>by cases b<;>simp_all [AV.same]
 |.bL,b,h=>by cases b<;>simp_all [AV.same]
 |.ptr x y z,b,h=>by cases b<;>simp_all [AV.same]
 |.xO x,b,h=>by cases b<;>simp_all [AV.same]
 |.sl x y z u v w,b,h=>by cases b<;>simp_all [AV.same]
 |.fp a,b,h=>by
  cases b<;>simp only[AV.same,reduceCtorEq]at h
  rw[AV.lG h]
 |.fs f n a,b,h=>by
  cases b<;>simp only[AV.same,reduceCtorEq,bau,beq_iff_eq]at h
  rw[h.1.1,h.1.2,AV.lG h.2]
 |.fn f a c,b,h=>by
  cases b<;>simp only[AV.same,reduceCtorEq,bau,beq_iff_eq]at h
  rw[h.1.1,AV.lG h.1.2,AV.lG h.2]
 |.fN t a,b,h=>by
  cases b<;>simp only[AV.same,reduceCtorEq,bau,beq_iff_eq]at h
  rw[h.1,AV.E5 h.2]
 |.agg a,b,h=>by
  cases b<;>simp only[AV.same,reduceCtorEq]at h
  rw[AV.lG h]
 |.aF a,b,h=>by
  cases b<;>simp only[AV.same,reduceCtorEq]at h
  rw[AV.lG h]
theorem AV.lG:∀{a b:List AV},AV.nX a b=true→a=b
 |[],[],_=>rfl
 |[],_::_,h=>by simp[AV.nX]at h
 |_::_,[],h=>by simp[AV.nX]at h
 |a::as,b::bs,h=>by
  simp only[AV.nX,bau]at h
  rw[AV.E5 h.1,AV.lG h.2]
end
section
variable {E : Env} {σ σ' : ah}
theorem bh {x:eN} (h:∀t∈x.fM,σ.get t=σ'.get t):E.eM σ x=E.eM σ' x:=by
 cases x with
 |t n=>simp only[Env.eM];rw[h n (by simp[eN.fM])]
 |_=>rfl
theorem hY {x:Option eN} (h:∀t∈wV x,σ.get t=σ'.get t):E.kV σ x=E.kV σ' x:=by
 cases x with
 |none=>rfl
 |some x=>simp only[Env.kV];rw[bh h]
theorem lH:∀{l:List eN},(∀t∈qu l,σ.get t=σ'.get t)→E.nV σ l=E.nV σ' l
 |[],_=>rfl
 |x::l,h=>by
  simp only[Env.nV]
  rw[bh (fun t ht=>h t (by simp[qu,ht])),lH (l:=l) (fun t ht=>h t (by simp[qu,ht]))]
theorem qC:∀{l:List (Nat×Nat×eN)},(∀t∈Ai l,σ.get t=σ'.get t)→E.parts σ l=E.parts σ' l
 |[],_=>rfl
 |(i,s,x)::l,h=>by
  simp only[Env.parts]
  rw[bh (fun t ht=>h t (by simp[Ai,ht])),qC (l:=l) (fun t ht=>h t (by simp[Ai,ht]))]
theorem US {op:jo} (h:∀t∈op.reads,σ.get t=σ'.get t) (hp:Heap):E.op σ hp op=E.op σ' hp op:=by
 cases op<;>simp only[jo.reads,List.mem_append]at h<;>simp only[Env.op]
 case mv x=>rw[bh h]
 case pick c a b=>rw[bh (x:=c) (fun t ht=>h t (.inl ht)),bh (x:=a) (fun t ht=>h t (.inr (.inl ht))),bh (x:=b) (fun t ht=>h t (.inr (.inr ht)))]
 case box=>rw[bh h]
 case build=>rw[qC h]
 case lit=>rw[qC h]
 case load=>rw[bh h]
 case store=>rw[bh (fun t ht=>h t (.inl ht)),bh (fun t ht=>h t (.inr ht))]
 case nilCheck=>rw[bh h]
 case bin=>rw[bh (fun t ht=>h t (.inl ht)),bh (fun t ht=>h t (.inr ht))]
 case eq=>rw[bh (fun t ht=>h t (.inl ht)),bh (fun t ht=>h t (.inr ht))]
 case un=>rw[bh h]
 case conv=>rw[bh h]
 case dU=>rw[bh h]
 case lC=>rw[lH (fun t ht=>h t (.inl ht)),lH (fun t ht=>h t (.inr ht))]
 case makeSlice=>rw[bh (fun t ht=>h t (.inl ht)),bh (fun t ht=>h t (.inr ht))]
 case slice=>rw[bh (fun t ht=>h t (.inl ht)),hY (fun t ht=>h t (.inr (.inl ht))),hY (fun t ht=>h t (.inr (.inr (.inl ht)))),hY (fun t ht=>h t (.inr (.inr (.inr ht))))]
 case ey=>rw[bh (fun t ht=>h t (.inl ht)),hY (fun t ht=>h t (.inr (.inl ht))),hY (fun t ht=>h t (.inr (.inr ht)))]
 case hM=>rw[bh (fun t ht=>h t (.inl ht)),hY (fun t ht=>h t (.inr (.inl ht))),hY (fun t ht=>h t (.inr (.inr (.inl ht)))),hY (fun t ht=>h t (.inr (.inr (.inr ht))))]
 case fieldAddr=>rw[bh h]
 case field=>rw[bh h]
 case cL=>rw[bh (fun t ht=>h t (.inl ht)),bh (fun t ht=>h t (.inr ht))]
 case eC=>rw[bh (fun t ht=>h t (.inl ht)),bh (fun t ht=>h t (.inr ht))]
 case dD x i=>rw[bh (x:=x) (fun t ht=>h t (.inl ht)),bh (x:=i) (fun t ht=>h t (.inr ht))]
 case o5 ag sz n x i=>rw[bh (x:=x) (fun t ht=>h t (.inl ht)),bh (x:=i) (fun t ht=>h t (.inr ht))]
 case extract=>rw[bh h]
 case len=>rw[bh h]
 case append=>rw[bh (fun t ht=>h t (.inl ht)),bh (fun t ht=>h t (.inr ht))]
 case iF=>rw[bh (fun t ht=>h t (.inl ht)),bh (fun t ht=>h t (.inr ht))]
 case cap=>rw[bh h]
 case clear=>rw[bh h]
 case range=>rw[bh h]
 case next=>rw[bh h]
 case kU=>rw[bh (fun t ht=>h t (.inl ht)),bh (fun t ht=>h t (.inr ht))]
 case copy=>rw[bh (fun t ht=>h t (.inl ht)),bh (fun t ht=>h t (.inr ht))]
theorem SO {op:jo} (h:∀t∈op.reads,σ.get t=σ'.get t) (C:eO) (hp:Heap):E.act C σ hp op=E.act C σ' hp op:=by
 by_cases hpl:op.plain=true
 ·rw[jh hpl,jh hpl,US h]
 ·cases op<;>simp only[jo.plain,not_true_eq_false]at hpl<;>simp only[jo.reads,List.mem_append]at h<;>simp only[Env.act]
  case call=>rw[lH h]
  case kr=>rw[bh (fun t ht=>h t (.inl ht)),lH (fun t ht=>h t (.inr ht))]
  case panic=>rw[bh h]
end
section
variable {E : Env} {σ : ah}
theorem Lr {h:Heap} {ag:Bool} {sz:Nat} {x:AV} {r:cB} (e:bg h ag sz x=some r):r.h=h∧r.c≠ .write∧(r.c=.none→∀h2,bg h2 ag sz x=some ⟨r.v,h2,.none⟩):=by
 cases x<;>simp only[bg,reduceCtorEq,jac]at e
 ·obtain⟨cs,_,v,_,rfl⟩:=e;exact⟨rfl,by simp,by simp⟩
 ·obtain⟨v,hv,rfl⟩:=e;exact⟨rfl,by simp,fun _ h2=>by simp[bg,hv]⟩
theorem I9 {h:Heap} {sz n:Nat} {x:AV} {cs:List AV} {k:dB} (e:aT h sz n x=some (cs,k)):k≠ .write∧(k=.none→∀h2,aT h2 sz n x=some (cs,.none)):=by
 cases x<;>simp only[aT,reduceCtorEq]at e
 case ax=>
  split at e<;>simp only[bae,baw,reduceCtorEq]at e
  rename_i h0;obtain⟨rfl,rfl⟩:=e;exact⟨by simp,fun _ h2=>by simp[aT,h0]⟩
 case fs=>
  split at e<;>simp only[bae,baw,reduceCtorEq]at e
  rename_i h0;obtain⟨rfl,rfl⟩:=e;exact⟨by simp,fun _ h2=>by simp[aT,h0]⟩
 case sl=>
  split at e
  ·simp only[bac]at e
   obtain⟨c,_,e⟩:=e
   split at e<;>simp only[bae,baw,reduceCtorEq]at e
   obtain⟨_,rfl⟩:=e;exact⟨by simp,by simp⟩
  ·cases e
 case str=>
  split at e<;>simp only[bae,baw,reduceCtorEq]at e
  rename_i h0;obtain⟨rfl,rfl⟩:=e;exact⟨by simp,fun _ h2=>by simp[aT,h0]⟩
theorem Ls {h:Heap} {c:CvT} {x:AV} {r:cB} (e:di h c x=some r):(r.c≠ .write→r.h=h)∧(r.c=.none→∀h2,di h2 c x=some ⟨r.v,h2,.none⟩):=by
 cases c
 case int=>cases x<;>simp only[di,reduceCtorEq,bae]at e;subst e;exact⟨fun _=>rfl,fun _ h2=>rfl⟩
 case rune=>cases x<;>simp only[di,reduceCtorEq,bae]at e;subst e;exact⟨fun _=>rfl,fun _ h2=>rfl⟩
 case same=>cases x<;>simp only[di,reduceCtorEq,bae]at e;subst e;exact⟨fun _=>rfl,fun _ h2=>rfl⟩
 case Ui=>cases x<;>simp only[di,reduceCtorEq,bae]at e;subst e;exact⟨fun hc=>absurd rfl hc,fun hc=>by cases hc⟩
 case s2r=>cases x<;>simp only[di,reduceCtorEq,bae]at e;subst e;exact⟨fun hc=>absurd rfl hc,fun hc=>by cases hc⟩
 case Ld=>
  have:∃n cs k bs,cr x=some n∧aT h 1 n x=some (cs,k)∧cs.mapM toByte=some bs∧r=⟨.str bs,h,k⟩∧∀s,x≠ .str s:=by
   cases x<;>simp only[di,reduceCtorEq]at e
   all_goals
    simp only[jac]at e
    obtain⟨n,hn,⟨cs,k⟩,hcs,bs,hbs,rfl⟩:=e
    exact⟨n,cs,k,bs,hn,hcs,hbs,rfl,fun s h=>by cases h⟩
  obtain⟨n,cs,k,bs,hn,hcs,hbs,rfl,hns⟩:=this
  obtain⟨g1,g2⟩:=I9 hcs
  refine⟨fun _=>rfl,fun hk h2=> ?_⟩
  have:=g2 hk h2
  cases x<;>first|exact absurd rfl (hns _)|simp[di,hn,this,hbs]
 case r2s=>simp[di]at e
 case b2b=>
  cases x<;>simp only[di,reduceCtorEq]at e
  rename_i a b c d f cap;cases cap<;>simp only[reduceCtorEq]at e
  split at e
  ·simp only[bac]at e
   obtain⟨cs,_,e⟩:=e
   split at e<;>simp only[bae,reduceCtorEq]at e
   subst e;exact⟨fun hc=>absurd rfl hc,fun hc=>by cases hc⟩
  ·cases e
theorem E6 {h:Heap} {sz bt:Nat} {x y:AV} {r:cB} (e:b9 h sz bt x y=some r):(r.c≠ .write→r.h=h)∧(r.c=.none→∀h2,b9 h2 sz bt x y=some ⟨r.v,h2,.none⟩):=by
 simp only[b9,bac]at e
 obtain⟨n,hn,len,hlen,e⟩:=e
 split at e
 case isFalse=>cases e
 rename_i hsm;split at e
 ·rename_i h0
  have:r=⟨x,h,.none⟩∧∀s,x≠ .str s:=by
   cases x<;>simp only[bae,reduceCtorEq]at e<;>exact⟨e.symm,fun s h=>by cases h⟩
  obtain⟨rfl,hns⟩:=this
  refine⟨fun _=>rfl,fun _ h2=> ?_⟩
  simp only[b9,hn,hlen,bag,if_pos hsm,if_pos h0]
  all_goals (first|done|(cases x<;>first|exact absurd rfl (hns _)|rfl))
 ·simp only[bac]at e
  obtain⟨⟨new,k⟩,_,e⟩:=e
  have hw:r.c=.write:=by
   cases x<;>simp only[reduceCtorEq]at e
   case ax=>simp only[bai]at e;obtain⟨_,_,rfl⟩:=e;rfl
   case fs f _ _=>cases f<;>simp only[reduceCtorEq,bai]at e;obtain⟨_,_,rfl⟩:=e;rfl
   case sl a b c d f cap=>
    cases cap<;>dsimp only at e
    ·split at e
     ·simp only[bac]at e
      obtain⟨_,_,e⟩:=e
      split at e
      ·cases e;rfl
      ·split at e
       ·cases e;rfl
       ·cases e
     ·cases e
    ·split at e
     ·split at e
      ·simp only[bac]at e
       obtain⟨_,_,e⟩:=e
       split at e
       ·cases e;rfl
       ·cases e
      ·simp only[bai]at e;obtain⟨_,_,rfl⟩:=e;rfl
     ·cases e
  exact⟨fun hc=>absurd hw hc,fun hc=>by rw[hw]at hc;cases hc⟩
theorem I_ {op:jo} {h:Heap} {r:cB} (e:E.op σ h op=some r):(r.c≠ .write→r.h=h)∧(r.c=.none→∀h2,E.op σ h2 op=some ⟨r.v,h2,.none⟩):=by
 have triv:(∀h2,E.op σ h2 op=some ⟨r.v,h2,.none⟩)→(r.c≠ .write→r.h=h)∧(r.c=.none→∀h2,E.op σ h2 op=some ⟨r.v,h2,.none⟩):=by
  intro r0;have:=r0 h
  rw[e]at this
  refine⟨fun _=> ?_,fun _=>r0⟩
  have:=Option.some.inj this
  rw[this]
 have wr:r.c=.write→(r.c≠ .write→r.h=h)∧(r.c=.none→∀h2,E.op σ h2 op=some ⟨r.v,h2,.none⟩):=fun hw=>⟨fun hc=>absurd hw hc,fun hc=>by rw[hw]at hc;cases hc⟩
 cases op<;>simp only[Env.op,reduceCtorEq]at e
 case mv=>simp only[bai]at e;obtain⟨v,hv,rfl⟩:=e;exact triv fun h2=>by simp[Env.op,hv]
 case pick=>
  simp only[bac]at e;obtain⟨c,hc,e⟩:=e
  cases c with
  |bool b=>cases b<;>simp only[bai]at e<;>obtain⟨v,hv,rfl⟩:=e<;>exact triv fun h2=>by simp[Env.op,hc,hv]
  |_=>cases e
 case alloc=>simp only[bae]at e;subst e;exact wr rfl
 case box fr sz x=>
  simp only[bac]at e;obtain⟨v,hv,vs,hvs,e⟩:=e
  split at e
  ·rename_i hl
   cases fr
   ·simp only[bae]at e;subst e;exact wr rfl
   ·simp only[bae]at e;subst e;exact triv fun h2=>by simp[Env.op,hv,hvs,hl]
  ·cases e
 case build=>simp only[jac]at e;obtain⟨l,hl,cs,hcs,rfl⟩:=e;exact triv fun h2=>by simp[Env.op,hl,hcs]
 case lit fr sz len cells ps=>
  simp only[bac]at e;obtain⟨l,hl,cs,hcs,e⟩:=e
  split at e
  ·rename_i hc
   cases fr
   ·simp only[bae]at e;subst e;exact wr rfl
   ·simp only[bae]at e;subst e;exact triv fun h2=>by simp[Env.op,hl,hcs,hc]
  ·cases e
 case load=>
  simp only[bac]at e;obtain⟨v,hv,e⟩:=e
  obtain⟨g1,g2,g3⟩:=Lr e
  exact⟨fun _=>g1,fun hc h2=>by simp[Env.op,hv,g3 hc h2]⟩
 case store=>
  simp only[bac]at e;obtain⟨v,hv,u,hu,e⟩:=e
  cases v<;>simp only[bC,reduceCtorEq,bac]at e
  obtain⟨_,_,_,_,e⟩:=e
  split at e
  ·cases e;exact wr rfl
  ·cases e
 case nilCheck=>
  simp only[bac]at e;obtain⟨v,hv,e⟩:=e
  cases v with
  |ptr=>cases e;exact triv fun h2=>by simp[Env.op,hv]
  |fp=>cases e;exact triv fun h2=>by simp[Env.op,hv]
  |fN=>cases e;exact triv fun h2=>by simp[Env.op,hv]
  |fn f=>
   cases f with
   |func=>cases e;exact triv fun h2=>by simp[Env.op,hv]
   |_=>cases e
  |_=>cases e
 case bin=>simp only[jac]at e;obtain⟨v,hv,u,hu,q,hq,rfl⟩:=e;exact triv fun h2=>by simp[Env.op,hv,hu,hq]
 case eq=>simp only[jac]at e;obtain⟨v,hv,u,hu,q,hq,rfl⟩:=e;exact triv fun h2=>by simp[Env.op,hv,hu,hq]
 case un=>simp only[jac]at e;obtain⟨v,hv,q,hq,rfl⟩:=e;exact triv fun h2=>by simp[Env.op,hv,hq]
 case conv=>
  simp only[bac]at e;obtain⟨v,hv,e⟩:=e
  obtain⟨g1,g2⟩:=Ls e
  exact⟨g1,fun hc h2=>by simp[Env.op,hv,g2 hc h2]⟩
 case dU=>simp only[bai]at e;obtain⟨v,hv,rfl⟩:=e;exact triv fun h2=>by simp[Env.op,hv]
 case lC=>simp only[jac]at e;obtain⟨v,hv,u,hu,rfl⟩:=e;exact triv fun h2=>by simp[Env.op,hv,hu]
 case makeSlice=>
  simp only[bac]at e;obtain⟨v,hv,u,hu,e⟩:=e
  unfold jQ at e
  split at e
  ·split at e
   ·cases e;exact wr rfl
   ·cases e
  ·cases e
 case slice=>
  simp only[bac]at e;obtain⟨v,hv,a,ha,b,hb,c,hc,e⟩:=e
  split at e
  ·rename_i q hq
   cases e;exact triv fun h2=>by simp[Env.op,hv,ha,hb,hc,hq]
  ·unfold jq at e
   split at e
   ·split at e
    ·simp only[jac]at e
     obtain⟨cs,_,⟨l,u,m⟩,_,rfl⟩:=e
     exact⟨fun _=>rfl,fun hc=>by cases hc⟩
    ·cases e
   ·cases e
 case cap=>simp only[jac]at e;obtain⟨v,hv,q,hq,rfl⟩:=e;exact triv fun h2=>by simp[Env.op,hv,hq]
 case kU=>
  simp only[bac]at e;obtain⟨v,hv,u,hu,e⟩:=e
  unfold jr at e
  split at e
  ·split at e
   ·cases e;exact wr rfl
   ·cases e
  ·cases e
 case range=>
  simp only[bac]at e
  obtain⟨v,_,e⟩:=e
  cases v<;>simp only[reduceCtorEq,bae]at e
  exact wr (by rw[←e])
 case next=>
  simp only[bac]at e
  obtain⟨v,_,e⟩:=e
  cases v<;>simp only[reduceCtorEq]at e
  refine wr ?_
  unfold uT at e
  split at e
  ·split at e
   ·cases e;rfl
   ·cases e;rfl
  ·cases e
 case clear=>
  simp only[bac]at e;obtain⟨v,hv,e⟩:=e
  cases v<;>simp only[lE,reduceCtorEq]at e
  ·cases e;exact triv fun h2=>by simp[Env.op,hv,lE]
  ·split at e
   ·rename_i h0
    cases e;exact triv fun h2=>by simp[Env.op,hv,lE,h0]
   ·split at e
    ·simp only[bac]at e
     obtain⟨cs,_,e⟩:=e
     split at e
     ·cases e;exact wr rfl
     ·cases e
    ·cases e
  ·split at e
   ·rename_i h0
    cases e;exact triv fun h2=>by simp[Env.op,hv,lE,h0]
   ·cases e
 case copy=>
  simp only[bac]at e;obtain⟨v,hv,u,hu,e⟩:=e
  simp only[xP,bac]at e
  obtain⟨m,hm,e⟩:=e
  cases v<;>simp only[reduceCtorEq]at e
  ·cases e;exact triv fun h2=>by simp[Env.op,hv,hu,xP,hm]
  ·split at e
   ·rename_i h0
    cases e;exact triv fun h2=>by simp only[Env.op,hv,hu,xP,hm,bag,if_pos h0]
   ·split at e
    ·simp only[bac]at e
     obtain⟨⟨new,kn⟩,_,cs,_,e⟩:=e
     dsimp only at e
     split at e
     ·cases e;exact wr rfl
     ·cases e
    ·cases e
  ·split at e
   ·rename_i h0
    cases e;exact triv fun h2=>by simp only[Env.op,hv,hu,xP,hm,bag,if_pos h0]
   ·cases e
 case ey=>simp only[jac]at e;obtain⟨v,hv,a,ha,b,hb,q,hq,rfl⟩:=e;exact triv fun h2=>by simp[Env.op,hv,ha,hb,hq]
 case hM=>
  simp only[bac]at e;obtain⟨v,hv,a,ha,b,hb,c,hc,e⟩:=e
  cases v<;>simp only[jP,reduceCtorEq]at e
  ·simp only[bac]at e;obtain⟨cs,_,e⟩:=e
   split at e
   ·simp only[bai]at e;obtain⟨⟨l,u,m⟩,_,rfl⟩:=e;exact⟨fun _=>rfl,fun hc=>by cases hc⟩
   ·cases e
  ·split at e
   ·rename_i hf
    simp only[bai]at e;obtain⟨⟨l,u,m⟩,hq,rfl⟩:=e;exact triv fun h2=>by simp[Env.op,hv,ha,hb,hc,jP,hf,hq]
   ·cases e
 case fieldAddr=>
  simp only[bac]at e;obtain⟨v,hv,e⟩:=e
  cases v<;>simp only[reduceCtorEq,bae]at e
  ·subst e;exact triv fun h2=>by simp[Env.op,hv]
  ·subst e;exact triv fun h2=>by simp[Env.op,hv]
 case field=>
  simp only[bac]at e;obtain⟨v,hv,e⟩:=e
  cases v<;>simp only[reduceCtorEq]at e
  split at e
  ·rename_i hf
   simp only[bai]at e;obtain⟨q,hq,rfl⟩:=e;exact triv fun h2=>by simp[Env.op,hv,hf,hq]
  ·cases e
 case cL=>simp only[jac]at e;obtain⟨v,hv,u,hu,q,hq,rfl⟩:=e;exact triv fun h2=>by simp[Env.op,hv,hu,hq]
 case eC=>simp only[jac]at e;obtain⟨v,hv,u,hu,q,hq,rfl⟩:=e;exact triv fun h2=>by simp[Env.op,hv,hu,hq]
 case dD=>
  simp only[bac]at e;obtain⟨v,hv,e⟩:=e
  cases v<;>simp only[reduceCtorEq,jac]at e
  obtain⟨u,hu,j,hj,c,hc,rfl⟩:=e;exact triv fun h2=>by simp[Env.op,hv,hu,hj,hc]
 case o5=>
  simp only[bac]at e;obtain⟨v,hv,e⟩:=e
  cases v<;>simp only[reduceCtorEq,bac]at e
  obtain⟨u,hu,j,hj,e⟩:=e
  split at e
  ·rename_i hf
   simp only[bai]at e;obtain⟨q,hq,rfl⟩:=e;exact triv fun h2=>by simp[Env.op,hv,hu,hj,hf,hq]
  ·cases e
 case extract=>
  simp only[bac]at e;obtain⟨v,hv,e⟩:=e
  cases v<;>simp only[reduceCtorEq,bai]at e
  obtain⟨q,hq,rfl⟩:=e;exact triv fun h2=>by simp[Env.op,hv,hq]
 case len b x=>
  simp only[bac]at e;obtain⟨v,hv,e⟩:=e
  cases b<;>cases v<;>simp only[reduceCtorEq,bae]at e<;>subst e<;>exact triv fun h2=>by simp[Env.op,hv]
 case append=>
  simp only[bac]at e;obtain⟨v,hv,u,hu,e⟩:=e
  obtain⟨g1,g2⟩:=E6 e
  exact⟨g1,fun hc h2=>by simp[Env.op,hv,hu,g2 hc h2]⟩
 case iF=>simp only[jac]at e;obtain⟨v,hv,u,hu,q,hq,rfl⟩:=e;exact triv fun h2=>by simp[Env.op,hv,hu,hq]
end
end Go.AM
namespace Go.AM
open Go.RowKit
theorem SP (A:Array Nat) (es:List Edge):∀(s i:Nat),Nat.testBit (es.foldl (fun s e=>if Region.binds .any e then s|||2^e.on|||A.getD e.on 0 else s) s) i=true→
  Nat.testBit s i=true∨∃e∈es,Region.binds .any e=true∧(e.on=i∨Nat.testBit (A.getD e.on 0) i=true):=by
 induction es with
 |nil=>intro s i h;exact .inl h
 |cons e es ih=>
  intro s i h;simp only[List.foldl_cons]at h
  rcases ih _ i h with h|⟨e',he',hb,h⟩
  ·by_cases hb:Region.binds .any e=true
   ·rw[if_pos hb]at h
    simp only[Nat.testBit_or,Bool.or_eq_true]at h
    rcases h with(h|h)|h
    ·exact .inl h
    ·refine .inr ⟨e,by simp,hb,.inl ?_⟩
     rw[Nat.testBit_two_pow]at h
     simpa using h
    ·exact .inr ⟨e,by simp,hb,.inr h⟩
   ·rw[if_neg hb]at h;exact .inl h
  ·exact .inr ⟨e',by simp[he'],hb,h⟩
def zt (ops:List Oper) (A:Array Nat):Prop:=
 ∀j,j<A.size→∀i,Nat.testBit (A.getD j 0) i=true→∃o,ops[j]? =some o∧∃e∈o.after.toList,Region.binds .any e=true∧(e.on=i∨(e.on<j∧Nat.testBit (A.getD e.on 0) i=true))
theorem vh:∀(l done:List Oper) (A:Array Nat),A.size=done.length→zt (done++l) A→
  zt (done++l) (l.foldl (fun acc o=>acc.push (o.after.foldl (fun s e=>if Region.binds .any e then s|||2^e.on|||acc.getD e.on 0 else s) 0)) A)∧
  (l.foldl (fun acc o=>acc.push (o.after.foldl (fun s e=>if Region.binds .any e then s|||2^e.on|||acc.getD e.on 0 else s) 0)) A).size=done.length+l.length
 |[],done,A,hs,h=>⟨by simpa using h,by simpa using hs⟩
 |o::l,done,A,hs,h=>by
  simp only[List.foldl_cons]
  have h2:zt ((done++[o])++l) (A.push (o.after.foldl (fun s e=>if Region.binds .any e then s|||2^e.on|||A.getD e.on 0 else s) 0)):=by
   rw[bbp];intro j hj i hb;simp only[Array.size_push]at hj
   have hlow:∀k,k<A.size→(A.push (o.after.foldl (fun s e=>if Region.binds .any e then s|||2^e.on|||A.getD e.on 0 else s) 0)).getD k 0=A.getD k 0:=by
    intro k hk;simp only[bbk,Array.getElem?_push]
    rw[if_neg (by omega)]
   have hz:∀k,Nat.testBit (A.getD k 0) i=true→k<A.size:=by
    intro k hk
    apply Nat.lt_of_not_le
    intro hle;simp only[bbk,Array.getElem?_eq_none hle,Option.getD_none,Nat.zero_testBit,reduceCtorEq]at hk
   by_cases hjk:j<A.size
   ·rw[hlow j hjk]at hb
    obtain⟨o',ho',e,he,hbi,hor⟩:=h j hjk i hb
    refine⟨o',ho',e,he,hbi,hor.imp id fun⟨q1,q2⟩=>⟨q1,?_⟩⟩
    rw[hlow e.on (by omega)];exact q2
   ·have hjeq:j=A.size:=by omega
    subst hjeq;have hv:(A.push (o.after.foldl (fun s e=>if Region.binds .any e then s|||2^e.on|||A.getD e.on 0 else s) 0)).getD A.size 0=o.after.foldl (fun s e=>if Region.binds .any e then s|||2^e.on|||A.getD e.on 0 else s) 0:=by
     simp[bbk]
    rw[hv,←Array.foldl_toList]at hb
    rcases SP A o.after.toList 0 i hb with hb|⟨e,he,hbi,hor⟩
    ·simp at hb
    ·refine⟨o,by simp[hs],e,he,hbi,hor.imp id fun q=>⟨hz _ q,?_⟩⟩
     rw[hlow e.on (hz _ q)];exact q
  obtain⟨g1,g2⟩:=vh l (done++[o]) _ (by simp[hs]) h2
  refine⟨by simpa using g1,?_⟩
  rw[g2];simp only[ban,jaf];omega
theorem qD (ops:Array Oper):zt ops.toList (Region.before ops)∧(Region.before ops).size=ops.size:=by
 have:=vh ops.toList [] #[] rfl (fun j hj=>by simp at hj)
 simp only[bbe,List.length_nil,baf,bbo]at this
 have e:Region.before ops=ops.toList.foldl (fun acc o=>acc.push (o.after.foldl (fun s e=>if Region.binds .any e then s|||2^e.on|||acc.getD e.on 0 else s) 0)) #[]:=by
  simp only[Region.before,←Array.foldl_toList]
 rw[e];exact this
def Ord (ops:Array Oper) (i j:Nat):Prop:=Nat.testBit ((Region.before ops).getD j 0) i=true
def mZ (ops:Array Oper) (L:Nat→Bool):Prop:=∀j o,ops[j]? =some o→L j=true→∀e∈o.after.toList,Region.binds .any e=true→L e.on=true
theorem AT {ops:Array Oper} {L:Nat→Bool} (hL:mZ ops L):∀(j:Nat),j<ops.size→∀i,Ord ops i j→(∀o,ops[j]? =some o→∀e∈o.after.toList,Region.binds .any e=true→L e.on=true)→L i=true:=by
 intro j
 induction j using Nat.strongRecOn with
 |_ j ih=>
  intro hj i hb hE;obtain⟨g1,g2⟩:=qD ops
  obtain⟨o,ho,e,he,hbi,hor⟩:=g1 j (by rw[g2];exact hj) i hb
  have ho' :ops[j]? =some o:=by simpa using ho
  have hle:=hE o ho' e he hbi
  rcases hor with rfl|⟨hlt,hb'⟩
  ·exact hle
  ·exact ih e.on hlt (by omega) i hb' fun o' ho2 e' he' hbi' =>hL e.on o' ho2 hle e' he' hbi'
theorem AU {E:Env} {C:eO}:∀(l:List aH) (s s' :St) (log:List (aH×St×dB)),E.mY C l s=some (s',log)→
  ∃S:Nat→St,S 0=s∧S l.length=s' ∧log.length=l.length∧∀k ao,l[k]? =some ao→∃c,log[k]? =some (ao,S k,c)∧E.one C ao (S k)=some (S (k+1),c,none)
 |[],s,s',log,h=>by
  simp only[Env.mY,bae,baw]at h
  obtain⟨rfl,rfl⟩:=h
  exact⟨fun _=>s,rfl,rfl,rfl,fun k ao h=>by simp at h⟩
 |o::l,s,s',log,h=>by
  simp only[Env.mY,bac]at h
  obtain⟨⟨s1,c,p⟩,h1,h2⟩:=h
  cases p with
  |some v=>cases h2
  |none=>
   simp only[bai]at h2
   obtain⟨⟨r,lg⟩,h3,h4⟩:=h2
   simp only[baw]at h4
   obtain⟨rfl,rfl⟩:=h4
   obtain⟨S,g0,g1,g2,g3⟩:=AU l s1 _ _ h3
   refine⟨fun k=>match k with|0=>s|k+1=>S k,rfl,g1,by simp[g2],fun k ao hk=> ?_⟩
   cases k with
   |zero=>simp at hk;subst hk;exact⟨c,rfl,h1.trans (by show some (s1,c,none)=some (S 0,c,none);rw[g0])⟩
   |succ k=>simp at hk;exact g3 k ao hk
structure Did (E:Env) (C:eO) (ao:aH) (s s' :St) (c:dB) (v:AV):Prop where
 put:s' =s.put ao.dst v s'.h
 how:(ao.wanted s.σ=true∧E.act C s.σ s.h ao.op=some (.ret ⟨v,s'.h,c⟩))∨(ao.wanted s.σ=false∧v=.undef∧c=.none∧s'.h=s.h)
theorem abj {E:Env} {C:eO} {ao:aH} {s s' :St} {c:dB} (h:E.one C ao s=some (s',c,none)):∃v,Did E C ao s s' c v:=by
 unfold Env.one at h
 cases hw:ao.wanted s.σ with
 |true=>
  rw[hw]at h
  simp only[bai]at h
  obtain⟨out,ho,h⟩:=h
  cases out with
  |panic v h' =>simp only[baw,reduceCtorEq,and_false]at h
  |ret r=>
   simp only[baw,and_true]at h
   obtain⟨rfl,rfl⟩:=h
   have hh:(s.put ao.dst r.v r.h).h=r.h:=by cases hd:ao.dst<;>rfl
   exact⟨r.v,by rw[hh],.inl ⟨hw,by rw[hh];exact ho⟩⟩
 |false=>
  rw[hw]at h
  simp only[bae,baw,and_true]at h
  obtain⟨rfl,rfl⟩:=h
  have hh:(s.put ao.dst .undef s.h).h=s.h:=by cases hd:ao.dst<;>rfl
  exact⟨.undef,by rw[hh],.inr ⟨hw,rfl,rfl,hh⟩⟩
section
variable (σ0 : ah) (dst : Nat → Option Nat) (v : Nat → AV)
def d_ (L:Nat→Bool):Nat→ah
 |0=>σ0
 |k+1=>match L k,dst k with
  |true,some d=>(d_ L k).put d (v k)
  |_,_=>d_ L k
variable {σ0 dst v}
theorem kB (L:Nat→Bool) (k t:Nat):(d_ σ0 dst v L (k+1)).get t=if L k=true∧dst k=some t then v k else(d_ σ0 dst v L k).get t:=by
 simp only[d_]
 cases hL:L k with
 |false=>simp
 |true=>
  cases hd:dst k with
  |none=>simp
  |some d=>
   simp only[ah.aa,true_and,bae]
   by_cases h:t=d
   ·subst h;simp
   ·rw[if_neg h,if_neg (fun e=>h e.symm)]
theorem iM {L L' :Nat→Bool} {t:Nat}:∀(n:Nat),(∀k,k<n→dst k=some t→L k=L' k)→(d_ σ0 dst v L n).get t=(d_ σ0 dst v L' n).get t
 |0,_=>rfl
 |n+1,h=>by
  rw[kB,kB,iM n (fun k hk=>h k (by omega))]
  by_cases hd:dst n=some t
  ·rw[h n (by omega) hd]
  ·simp[hd]
theorem pe {L:Nat→Bool} {t i:Nat}:∀(n:Nat),i≤n→(∀k,i≤k→k<n→dst k=some t→L k=false)→(d_ σ0 dst v L n).get t=(d_ σ0 dst v L i).get t:=by
 intro n hin
 induction n with
 |zero=>
  intro _;have:i=0:=by omega
  subst this;rfl
 |succ n ih=>
  intro h
  by_cases he:i=n+1
  ·subst he;rfl
  ·rw[kB,ih (by omega) (fun k h1 h2=>h k h1 (by omega))]
   rw[if_neg]
   rintro⟨h1,h2⟩
   have:=h n (by omega) (by omega) h2
   rw[h1]at this;cases this
end
def left (L:Nat→Bool):Nat→Nat
 |0=>0
 |n+1=>left L n+(match L n with|true=>0|false=>1)
theorem Ja {L L' :Nat→Bool} {i:Nat} (hi:L i=false) (hi' :L' i=true) (ho:∀k,k≠i→L' k=L k):∀n,(i<n→left L' n+1=left L n)∧(n≤i→left L' n=left L n)
 |0=>⟨fun h=>by omega,fun _=>rfl⟩
 |n+1=>by
  obtain⟨g1,g2⟩:=Ja hi hi' ho n
  refine⟨fun h=> ?_,fun h=> ?_⟩
  ·by_cases he:i=n
   ·subst he
    simp only[left,hi,hi',g2 (bab _)]
   ·have h1:=g1 (by omega)
    simp only[left,ho n (Ne.symm he)]
    omega
  ·simp only[left,ho n (by omega),g2 (by omega)]
theorem DR {L:Nat→Bool}:∀n,left L n=0→∀k,k<n→L k=true
 |0,_,k,hk=>by omega
 |n+1,h,k,hk=>by
  simp only[left]at h
  by_cases he:k=n
  ·subst he
   cases hL:L k with
   |true=>rfl
   |false=>rw[hL]at h;simp at h
  ·exact DR n (by omega) k (by omega)
theorem DS:∀n,left (fun _=>false) n=n
 |0=>rfl
 |n+1=>by simp[left,DS n]
end Go.AM
namespace Go.AM
open Go.RowKit
theorem qb {x:aH} {i:Nat}:∀{ys:List aH} {ms:List Nat},o6 x i ys ms=true→∀(k:Nat) {y:aH} {m:Nat},ys[k]? =some y→ms[k]? =some m→x.mh y=true→Nat.testBit m i=true
 |[],_,_,k,y,m,hy,_,_=>by simp at hy
 |_::_,[],_,k,y,m,_,hm,_=>by simp at hm
 |y0::ys,m0::ms,h,k,y,m,hy,hm,hc=>by
  simp only[o6,bau,Bool.or_eq_true,Bool.not_eq_true']at h
  cases k with
  |zero=>
   simp at hy hm;subst hy;subst hm
   rcases h.1 with h|h
   ·rw[hc]at h;cases h
   ·exact h
  |succ k=>simp at hy hm;exact qb h.2 k hy hm hc
theorem qE:∀{l:List aH} {ms:List Nat} {b:Nat},rV b l ms=true→∀(i j:Nat) {x y:aH} {m:Nat},i<j→l[i]? =some x→l[j]? =some y→ms[j]? =some m→x.mh y=true→Nat.testBit m (b+i)=true
 |[],_,_,_,i,j,x,y,m,_,hx,_,_,_=>by simp at hx
 |_::_,[],_,_,i,j,x,y,m,_,_,_,hm,_=>by simp at hm
 |x0::l,m0::ms,b,h,i,j,x,y,m,hij,hx,hy,hm,hc=>by
  simp only[rV,bau]at h
  cases j with
  |zero=>omega
  |succ j=>
   simp at hy hm
   cases i with
   |zero=>simp at hx;subst hx;exact qb h.1 j hy hm hc
   |succ i=>
    simp at hx;have:=qE h.2 i j (by omega) hx hy hm hc
    rw[show b+(i+1)=b+1+i by omega];exact this
theorem s7 {E:Env} {hs:List Heap} {x:aH×St×dB} {i:Nat}:∀{ys:List (aH×St×dB)} {ms:List Nat},E.gP hs x i ys ms=true→∀(k:Nat) {y:aH×St×dB} {m:Nat},ys[k]? =some y→ms[k]? =some m→
  E.apart (Nat.testBit m i) hs x y=true
 |[],_,_,k,y,m,hy,_=>by simp at hy
 |_::_,[],_,k,y,m,_,hm=>by simp at hm
 |y0::ys,m0::ms,h,k,y,m,hy,hm=>by
  simp only[Env.gP,bau]at h
  cases k with
  |zero=>simp at hy hm;subst hy;subst hm;exact h.1
  |succ k=>simp at hy hm;exact s7 h.2 k hy hm
theorem ya {E:Env} {hs:List Heap}:∀{l:List (aH×St×dB)} {ms:List Nat} {b:Nat},E.gJ hs b l ms=true→∀(i j:Nat) {x y:aH×St×dB} {m:Nat},i<j→l[i]? =some x→l[j]? =some y→ms[j]? =some m→
  E.apart (Nat.testBit m (b+i)) hs x y=true
 |[],_,_,_,i,j,x,y,m,_,hx,_,_=>by simp at hx
 |_::_,[],_,_,i,j,x,y,m,_,_,_,hm=>by simp at hm
 |x0::l,m0::ms,b,h,i,j,x,y,m,hij,hx,hy,hm=>by
  simp only[Env.gJ,bau]at h
  cases j with
  |zero=>omega
  |succ j=>
   simp at hy hm
   cases i with
   |zero=>simp at hx;subst hx;exact s7 h.1 j hy hm
   |succ i=>
    simp at hx;have:=ya h.2 i j (by omega) hx hy hm
    rw[show b+(i+1)=b+1+i by omega];exact this
theorem qF {E:Env} {o:aH} {s:St}:∀{hs:List Heap},E.steady o s hs=true→∀h∈hs,∃r r',E.op s.σ s.h o.op=some r∧E.op s.σ h o.op=some r' ∧r.v=r'.v∧r'.c≠ .write
 |[],_,h,hm=>by cases hm
 |h0::hs,hst,h,hm=>by
  simp only[Env.steady,bau]at hst
  cases hm with
  |tail _ hm=>exact qF hst.2 h hm
  |head=>
   have h1:=hst.1;cases e1:E.op s.σ s.h o.op with
   |none=>rw[e1]at h1;simp at h1
   |some r=>
    cases e2:E.op s.σ h0 o.op with
    |none=>rw[e1,e2]at h1;simp at h1
    |some r' =>
     rw[e1,e2]at h1
     simp only[bau]at h1
     refine⟨r,r',rfl,rfl,AV.E5 h1.1,fun hc=> ?_⟩
     rw[hc]at h1
     simp at h1
section
variable {B : Nat} {w0 : World} {E : Env} {P : Program}
def Quiet (C:eO):Prop:=(∀f args h v h1,C f args h=some (.ret ⟨v,h1,.none⟩)→h1=h∧∀h2,C f args h2=some (.ret ⟨v,h2,.none⟩))∧∀f args h v h1,C f args h≠some (.ret ⟨v,h1,.read⟩)
theorem DT {C:eO} (hq:Quiet C) {σ:ah} {h:Heap} {op:jo} {r:cB} (e:E.act C σ h op=some (.ret r)):
  (r.c≠ .write→r.h=h)∧(r.c=.none→∀h2,E.act C σ h2 op=some (.ret ⟨r.v,h2,.none⟩))∧(r.c=.read→E.op σ h op=some r∧op.plain=true):=by
 by_cases hp:op.plain=true
 ·rw[jh hp]at e
  simp only[bai,fC.ret.injEq]at e
  obtain⟨r',hr,rfl⟩:=e
  obtain⟨g1,g2⟩:=I_ hr
  exact⟨g1,fun hc h2=>by rw[jh hp,g2 hc h2];rfl,fun _=>⟨hr,hp⟩⟩
 ·have key:∀f l,(∀h2,E.act C σ h2 op=C f l h2)→(r.c≠ .write→r.h=h)∧(r.c=.none→∀h2,E.act C σ h2 op=some (.ret ⟨r.v,h2,.none⟩))∧(r.c=.read→E.op σ h op=some r∧op.plain=true):=by
   intro f l r0;rw[r0]at e
   obtain⟨rv,rh,rc⟩:=r
   cases rc with
   |none=>
    obtain⟨g1,g2⟩:=hq.1 _ _ _ _ _ e
    exact⟨fun _=>g1,fun _ h2=>by rw[r0];exact g2 h2,fun hc=>by cases hc⟩
   |read=>exact absurd e (hq.2 _ _ _ _ _)
   |write=>exact⟨(fun hc=>absurd rfl hc),(fun hc=>by cases hc),(fun hc=>by cases hc)⟩
  cases op<;>simp only[jo.plain,not_true_eq_false]at hp
  case call f args=>
   have e' :=e
   simp only[Env.act,bac]at e'
   obtain⟨l,hl,_⟩:=e'
   exact key f l fun h2=>by simp only[Env.act,hl,bag]
  case kr f args=>
   have e' :=e
   simp only[Env.act,bac]at e'
   obtain⟨fv,hfv,e'⟩:=e'
   cases fv with
   |fn g a b=>
    cases g with
    |func g=>
     simp only[bac]at e'
     obtain⟨l,hl,_⟩:=e'
     exact key g (a++l++b) fun h2=>by simp only[Env.act,hfv,bag,hl]
    |_=>cases e'
   |_=>cases e'
  case panic x=>
   simp only[Env.act,bac]at e
   obtain⟨v,_,e⟩:=e
   cases v<;>simp only[bae,reduceCtorEq]at e
structure Text (P:Program) (E:Env) (C:eO) (n:Nat) (fz:TypeId→Bool) (aA:Nat→Bool) (ops:Array Oper) (s s' :St) (S:Nat→St) (c:Nat→dB) (v:Nat→AV):Prop where
 first:S 0=s
 last:S ops.size=s'
 did:∀k o,ops[k]? =some o→Did E C (bG P n fz aA ops o) (S k) (S (k+1)) (c k) (v k)
 apart:∀i j oi oj,i<j→ops[i]? =some oi→ops[j]? =some oj→¬Ord ops i j→
  (c i=.none∨c j=.none∨(c i=.read∧c j=.read)∨
   (c i=.read∧c j=.write∧∀k≤ops.size,∃r r',E.op (S i).σ (S i).h (bG P n fz aA ops oi).op=some r∧E.op (S i).σ (S k).h (bG P n fz aA ops oi).op=some r' ∧r.v=r'.v∧r'.c≠ .write)∨
   (c i=.write∧c j=.read∧∀k≤ops.size,∃r r',E.op (S j).σ (S j).h (bG P n fz aA ops oj).op=some r∧E.op (S j).σ (S k).h (bG P n fz aA ops oj).op=some r' ∧r.v=r'.v∧r'.c≠ .write))
 mh:∀i j oi oj,i<j→ops[i]? =some oi→ops[j]? =some oj→(bG P n fz aA ops oi).mh (bG P n fz aA ops oj)=true→Ord ops i j
 back:∀i o,ops[i]? =some o→∀e∈o.after.toList,Region.binds .any e=true→e.on<i
theorem E7 {C:eO} {n:Nat} {fz:TypeId→Bool} {aA:Nat→Bool} {ops:Array Oper} {s s' :St} {e:aU}
  (hst:pd ops (ops.toList.map (bG P n fz aA ops)) (Region.before ops).toList=true)
  (h:E.Dh C (ops.toList.map (bG P n fz aA ops)) (Region.before ops).toList s=some (e,s')):e=.norm∧∃S c v,Text P E C n fz aA ops s s' S c v:=by
 simp only[Env.Dh,bac]at h
 obtain⟨⟨s1,log⟩,hlog,h⟩:=h
 dsimp only at h
 split at h
 case isFalse=>cases h
 rename_i hok;simp only[bae,baw]at h
 obtain⟨rfl,rfl⟩:=h
 refine⟨rfl,?_⟩
 obtain⟨S,g0,g1,g2,g3⟩:=AU _ _ _ _ hlog
 simp only[bax,bbo]at g1 g2
 have hl:∀(k:Nat) (o:Oper),ops[k]? =some o→(ops.toList.map (bG P n fz aA ops))[k]? =some (bG P n fz aA ops o):=by
  intro k o ho;simp[ho]
 have hstep:∀(k:Nat),∃(c:dB) (v:AV),∀(o:Oper),ops[k]? =some o→log[k]? =some (bG P n fz aA ops o,S k,c)∧Did E C (bG P n fz aA ops o) (S k) (S (k+1)) c v:=by
  intro k;cases ho:ops[k]? with
  |none=>exact⟨.none,.undef,fun o h=>by cases h⟩
  |some o=>
   obtain⟨c,q1,q2⟩:=g3 k _ (hl k o ho)
   obtain⟨v,hv⟩:=abj q2
   exact⟨c,v,fun o' h=>by cases h;exact⟨q1,hv⟩⟩
 obtain⟨c,hc⟩:=Classical.skolem.1 hstep
 obtain⟨v,hv⟩:=Classical.skolem.1 hc
 have hB:∀(j:Nat) (o:Oper),ops[j]? =some o→(Region.before ops).toList[j]? =some ((Region.before ops).getD j 0):=by
  intro j o ho;obtain⟨hj,_⟩:=bbh.1 ho
  have hsz:=(qD ops).2
  have hj' :j<(Region.before ops).size:=by omega
  simp[bbk,hj']
 have bcq:∀k≤ops.size,(S k).h∈(s1.h::log.map fun x=>x.2.1.h):=by
  intro k hk
  by_cases he:k=ops.size
  ·subst he;rw[g1];simp
  ·have hlt:k<ops.size:=by omega
   have ho:=bbf hlt
   have:=(hv k _ ho).1
   refine List.mem_cons_of_mem _ (List.mem_map.2 ⟨_,List.mem_of_getElem? this,rfl⟩)
 simp only[pd,bau]at hst
 refine⟨S,c,v,g0,g1,fun k o ho=>(hv k o ho).2,?_,?_,?_⟩
 ·intro i j oi oj hij hi hj hno
  have ha:=ya hok i j hij (hv i oi hi).1 (hv j oj hj).1 (hB j oj hj)
  simp only[baf,Env.apart,Bool.or_eq_true]at ha
  rcases ha with ha|ha
  ·exact absurd ha hno
  ·cases hci:c i<;>rw[hci]at ha<;>cases hcj:c j<;>rw[hcj]at ha<;>simp only[reduceCtorEq]at ha
   ·exact .inl rfl
   ·exact .inl rfl
   ·exact .inl rfl
   ·exact .inr (.inl rfl)
   ·exact .inr (.inr (.inl ⟨rfl,rfl⟩))
   ·exact .inr (.inr (.inr (.inl ⟨rfl,rfl,fun k hk=>qF ha _ (bcq k hk)⟩)))
   ·exact .inr (.inl rfl)
   ·exact .inr (.inr (.inr (.inr ⟨rfl,rfl,fun k hk=>qF ha _ (bcq k hk)⟩)))
 ·intro i j oi oj hij hi hj hcl
  have:=qE hst.1 i j hij (hl i oi hi) (hl j oj hj) (hB j oj hj) hcl
  simpa[Ord]using this
 ·intro i o ho e he hb
  have:=List.all_eq_true.1 hst.2 (o,i) (by
   rw[List.mem_iff_getElem?];exact⟨i,by simp[ho]⟩)
  have:=List.all_eq_true.1 this e he
  simp only[hb,baj,Bool.false_or]at this
  simpa[Nat.blt_eq]using this
theorem wZ {C:eO} (hq:Quiet C) {n:Nat} {fz:TypeId→Bool} {aA:Nat→Bool} {ops:Array Oper} {s s' :St} {S:Nat→St} {c:Nat→dB} {v:Nat→AV}
  (hT:Text P E C n fz aA ops s s' S c v) {a:Nat}:∀(b:Nat),a≤b→b≤ops.size→(∀k,a≤k→k<b→c k≠ .write)→(S b).h=(S a).h:=by
 intro b
 induction b with
 |zero=>
  intro h _ _;have:a=0:=by omega
  subst this;rfl
 |succ b ih=>
  intro hab hb hw
  by_cases he:a=b+1
  ·subst he;rfl
  ·rw[←ih (by omega) (by omega) fun k h1 h2=>hw k h1 (by omega)]
   have ho:=bbf (show b<ops.size by omega)
   rcases(hT.did b _ ho).how with⟨_,h⟩|⟨_,_,_,h⟩
   ·exact(DT hq h).1 (hw b (by omega) (by omega))
   ·exact h
theorem qG (c:Nat→dB) (N:Nat):∀(d a:Nat),a+d=N→∃q,a≤q∧q≤N∧(q=N∨c q=.write)∧∀k,a≤k→k<q→c k≠ .write
 |0,a,h=>⟨a,bab _,by omega,.inl (by omega),fun k h1 h2=>by omega⟩
 |d+1,a,h=>by
  by_cases hw:c a=.write
  ·exact⟨a,bab _,by omega,.inr hw,fun k h1 h2=>by omega⟩
  ·obtain⟨q,q1,q2,q3,q4⟩:=qG c N d (a+1) (by omega)
   exact⟨q,by omega,q2,q3,fun k h1 h2=>by
    by_cases he:k=a
    ·subst he;exact hw
    ·exact q4 k (by omega) h2⟩
theorem yH {x y:aH} {d:Nat} (h:x.dst=some d) (hm:d∈y.looks):x.mh y=true:=by
 simp[aH.mh,h,hm]
theorem w6 {x y:aH} {d:Nat} (h:y.dst=some d) (hm:d∈x.looks):x.mh y=true:=by
 simp[aH.mh,h,hm]
theorem SQ {x y:aH} {d:Nat} (h:x.dst=some d) (h' :y.dst=some d):x.mh y=true:=by
 simp[aH.mh,h,h']
end
end Go.AM
namespace Go.AM
open Go.RowKit
section
variable {B : Nat} {w0 : World} {E : Env} {P : Program}
theorem jN.congr {X:RX} {n:Nat} {σ σ' :ah} {tmps:Array Value} (k:jN X n σ tmps) (h:∀t,σ.get t=σ'.get t):jN X n σ' tmps:=
 ⟨k.size,fun t=>by rw[←h t];exact k.get t⟩
theorem abk {C:eO} {n:Nat} {fz:TypeId→Bool} {aA:Nat→Bool} {ops:Array Oper} {o:Oper} {s s' :St} {c:dB} {v:AV} (h:Did E C (bG P n fz aA ops o) s s' c v):
  (bG P n fz aA ops o).dst=o.dst∧kX ops o.guard=some (bG P n fz aA ops o).guard∧(∀d,o.dst=some d→d<n)∧((bG P n fz aA ops o).wanted s.σ=true→∃fr,Ah P fr o.op=some (bG P n fz aA ops o).op):=by
 have bcc:(bG P n fz aA ops o).op≠ .bad∨(bG P n fz aA ops o)={dst:=none,op:=.bad,guard:=none}∨(∃g,(bG P n fz aA ops o)={dst:=o.dst,op:=.bad,guard:=g}∧kX ops o.guard=some g∧∀d,o.dst=some d→d<n):=by
  unfold bG
  split
  ·rename_i g hg hd
   cases ht:Ah P (still fz aA ops o) o.op with
   |none=>exact .inr (.inr ⟨g,by simp,hg,fun d e=>by rw[e]at hd;simpa[Nat.blt_eq]using hd⟩)
   |some ao=>
    by_cases he:ao=.bad
    ·exact .inr (.inr ⟨g,by simp[he],hg,fun d e=>by rw[e]at hd;simpa[Nat.blt_eq]using hd⟩)
    ·exact .inl (by simpa using he)
  ·exact .inr (.inl rfl)
 rcases bcc with bcc|bcc|⟨g,bcc,hgo,hdn⟩
 ·obtain⟨ht,hd,hg,hdn⟩:=AQ bcc
  exact⟨hd,hg,hdn,fun _=>ht⟩
 ·exfalso
  rcases h.how with⟨_,h⟩|⟨h,_⟩
  ·rw[bcc]at h;simp[Env.act,Env.op]at h
  ·rw[bcc]at h;simp[aH.wanted]at h
 ·refine⟨by rw[bcc],by rw[bcc];exact hgo,hdn,fun hw=> ?_⟩
  exfalso
  rcases h.how with⟨_,h⟩|⟨h,_⟩
  ·rw[bcc]at h;simp[Env.act,Env.op]at h
  ·rw[hw]at h;cases h
def iD (P:Program) (n:Nat) (fz:TypeId→Bool) (aA:Nat→Bool) (ops:Array Oper) (k:Nat):Option Nat:=(ops[k]?).bind fun o=>(bG P n fz aA ops o).dst
variable {C:eO} {n:Nat} {fz:TypeId→Bool} {aA:Nat→Bool} {ops:Array Oper} {s s' :St} {S:Nat→St} {c:Nat→dB} {v:Nat→AV}
theorem tz (hT:Text P E C n fz aA ops s s' S c v):∀k,k≤ops.size→∀t,(S k).σ.get t=(d_ s.σ (iD P n fz aA ops) v (fun _=>true) k).get t
 |0,_,t=>by rw[hT.first];rfl
 |k+1,hk,t=>by
  have ho:=bbf (show k<ops.size by omega)
  have hd:=hT.did k _ ho
  have ih:=tz hT k (by omega) t
  rw[kB,←ih,hd.put];have hdo:iD P n fz aA ops k=(bG P n fz aA ops ops[k]).dst:=by simp[iD,ho]
  rw[hdo];cases hds:(bG P n fz aA ops ops[k]).dst with
  |none=>simp[St.put]
  |some d=>
   simp only[St.put,ah.aa,true_and,bae]
   by_cases h:t=d
   ·subst h;simp
   ·rw[if_neg h,if_neg (fun e=>h e.symm)]
structure Inv (P:Program) (n:Nat) (fz:TypeId→Bool) (aA:Nat→Bool) (ops:Array Oper) (s:St) (S:Nat→St) (c:Nat→dB) (v:Nat→AV) (X:RX) (tmps:Array Value) (L:Nat→Bool):Prop where
 fM:jN X n (d_ s.σ (iD P n fz aA ops) v L ops.size) tmps
 closed:mZ ops L
 heap:∃q,q≤ops.size∧X.h=(S q).h∧(q=ops.size∨(c q=.write∧L q=false))∧∀k,k<q→c k=.write→L k=true
structure s9 (ops:Array Oper) (L:Nat→Bool) (i:Nat) (o:Oper):Prop where
 get:ops[i]? =some o
 off:L i=false
 aeo:∀e∈o.after.toList,Region.binds .any e=true→L e.on=true
theorem n_ {L:Nat→Bool} {i:Nat} {o:Oper} (hr:s9 ops L i o):i<ops.size:=(bbh.1 hr.get).1
theorem pf {L:Nat→Bool} {i:Nat} {o:Oper} (hL:mZ ops L) (hr:s9 ops L i o) {k:Nat} (hk:Ord ops k i):L k=true:=
 AT hL i (n_ hr) k hk fun o' ho' e he hb=>by
  have:=hr.get;rw[ho']at this;cases this
  exact hr.aeo e he hb
theorem ju {L:Nat→Bool} {i:Nat} (hL:mZ ops L) (hi:L i=false) {k:Nat} (hk:k<ops.size) (ho:Ord ops i k):L k=false:=by
 cases h:L k with
 |false=>rfl
 |true=>
  have:=AT hL k hk i ho fun o' ho' e he hb=>hL k o' ho' h e he hb
  rw[hi]at this;cases this
theorem yb (hT:Text P E C n fz aA ops s s' S c v) {L:Nat→Bool} (hL:mZ ops L) {i:Nat} {o:Oper} (hr:s9 ops L i o) {t:Nat}
  (ht:t∈(bG P n fz aA ops o).looks):(d_ s.σ (iD P n fz aA ops) v L ops.size).get t=(S i).σ.get t:=by
 have hlt:=n_ hr
 rw[tz hT i (by omega) t]
 have h1:(d_ s.σ (iD P n fz aA ops) v L ops.size).get t=(d_ s.σ (iD P n fz aA ops) v L i).get t:=by
  refine pe ops.size (by omega) fun k h1 h2 hd=> ?_
  by_cases he:k=i
  ·subst he;exact hr.off
  ·have hk:=bbf h2
   simp only[iD,hk,bag]at hd
   exact ju hL hr.off h2 (hT.mh i k _ _ (by omega) hr.get hk (w6 hd ht))
 rw[h1];refine iM i fun k hk hd=> ?_
 have hko:=bbf (show k<ops.size by omega)
 simp only[iD,hko,bag]at hd
 exact pf hL hr (hT.mh k i _ _ hk hko hr.get (yH hd ht))
theorem Jb {x:aH} {t:Nat} (h:t∈x.op.reads):t∈x.looks:=by
 simp only[aH.looks,List.mem_append];exact .inr h
theorem E8 {x:aH} {σ σ' :ah} (h:∀t∈x.looks,σ.get t=σ'.get t):x.wanted σ=x.wanted σ' :=by
 unfold aH.wanted
 cases hg:x.guard with
 |none=>rfl
 |some g=>
  obtain⟨t,want⟩:=g
  dsimp only;rw[h t (by simp[aH.looks,hg])]
theorem SR (hq:Quiet C) (hT:Text P E C n fz aA ops s s' S c v) {L:Nat→Bool} (hL:mZ ops L) {i:Nat} {o:Oper} (hr:s9 ops L i o) {h:Heap}
  (hh:∃q,q≤ops.size∧h=(S q).h∧(q=ops.size∨(c q=.write∧L q=false))∧∀k,k<q→c k=.write→L k=true)
  (ha:E.act C (S i).σ (S i).h (bG P n fz aA ops o).op=some (.ret ⟨v i,(S (i+1)).h,c i⟩)):
  ∃h' k',E.act C (S i).σ h (bG P n fz aA ops o).op=some (.ret ⟨v i,h',k'⟩)∧
   ∃q,q≤ops.size∧h' =(S q).h∧(q=ops.size∨(c q=.write∧(q≠i∧L q=false)))∧∀k,k<q→c k=.write→(k=i∨L k=true):=by
 have hlt:=n_ hr
 obtain⟨q,hq1,rfl,hq2,hq3⟩:=hh
 obtain⟨a1,a2,a3⟩:=DT hq ha
 cases hc:c i with
 |none=>
  rw[hc]at a1 a2 a3
  refine⟨(S q).h,.none,a2 rfl _,q,hq1,rfl,?_,fun k hk hw=>.inr (hq3 k hk hw)⟩
  rcases hq2 with h|⟨h1,h2⟩
  ·exact .inl h
  ·exact .inr ⟨h1,(fun e=>by rw[e,hc]at h1;cases h1),h2⟩
 |write=>
  have hqi:q=i:=by
   apply Nat.le_antisymm
   ·apply Nat.le_of_not_lt
    intro hiq;have:=hq3 i hiq hc
    rw[hr.off]at this;cases this
   ·apply Nat.le_of_not_lt
    intro hqi
    rcases hq2 with h|⟨h1,h2⟩
    ·omega
    ·have hqo:=bbf (show q<ops.size by omega)
     by_cases ho:Ord ops q i
     ·have:=pf hL hr ho
      rw[h2]at this;cases this
     ·have:=hT.apart q i _ _ hqi hqo hr.get ho
      rw[hc,h1]at this
      simp at this
  subst hqi;rw[hc]at ha
  obtain⟨q',g1,g2,g3,g4⟩:=qG (fun k=>if L k=true then .none else c k) ops.size (ops.size-(q+1)) (q+1) (by omega)
  have bcq:(S q').h=(S (q+1)).h:=by
   refine wZ hq hT q' g1 g2 fun k h1 h2 hw=> ?_
   have hko:=bbf (show k<ops.size by omega)
   have hno:=g4 k h1 h2
   have hLk:L k=true:=by
    cases hLk:L k with
    |true=>rfl
    |false=>rw[hLk]at hno;simp at hno;exact absurd hw hno
   by_cases ho:Ord ops q k
   ·have:=ju hL hr.off (by omega) ho
    rw[hLk]at this;cases this
   ·have:=hT.apart q k _ _ (by omega) hr.get hko ho
    rw[hc,hw]at this
    simp at this
  refine⟨(S (q+1)).h,.write,ha,q',g2,bcq.symm,?_,?_⟩
  ·rcases g3 with h|h
   ·exact .inl h
   ·right
    cases hL' :L q' with
    |true=>rw[hL']at h;simp at h
    |false=>rw[hL']at h;simp at h;exact⟨h,by omega,rfl⟩
  ·intro k hk hw
   by_cases hkq:k<q
   ·exact .inr (hq3 k hkq hw)
   ·by_cases he:k=q
    ·exact .inl he
    ·right
     have hno:=g4 k (by omega) hk
     cases hLk:L k with
     |true=>rfl
     |false=>rw[hLk]at hno;simp at hno;exact absurd hw hno
 |read=>
  rw[hc]at ha a1 a2 a3
  obtain⟨e1,e2⟩:=a3 rfl
  have done:∀r',E.op (S i).σ (S q).h (bG P n fz aA ops o).op=some r' →r'.v=v i→r'.c≠ .write→
    ∃h' k',E.act C (S i).σ (S q).h (bG P n fz aA ops o).op=some (.ret ⟨v i,h',k'⟩)∧
     ∃q,q≤ops.size∧h' =(S q).h∧(q=ops.size∨(c q=.write∧(q≠i∧L q=false)))∧∀k,k<q→c k=.write→(k=i∨L k=true):=by
   intro r' h1 h2 h3;obtain⟨rv,rh,rc⟩:=r'
   dsimp only at h2 h3
   subst h2;have hhh:=(I_ h1).1 h3
   dsimp only at hhh
   subst hhh;refine⟨(S q).h,rc,by rw[jh e2,h1];rfl,q,hq1,rfl,?_,fun k hk hw=>.inr (hq3 k hk hw)⟩
   rcases hq2 with h|⟨h1,h2⟩
   ·exact .inl h
   ·exact .inr ⟨h1,(fun e=>by rw[e,hc]at h1;cases h1),h2⟩
  have same:(S q).h=(S i).h→∃r',E.op (S i).σ (S q).h (bG P n fz aA ops o).op=some r' ∧r'.v=v i∧r'.c≠ .write:=by
   intro hs;exact⟨_,by rw[hs];exact e1,rfl,by simp⟩
  have steady:(∀k≤ops.size,∃r r',E.op (S i).σ (S i).h (bG P n fz aA ops o).op=some r∧E.op (S i).σ (S k).h (bG P n fz aA ops o).op=some r' ∧r.v=r'.v∧r'.c≠ .write)→
    ∃r',E.op (S i).σ (S q).h (bG P n fz aA ops o).op=some r' ∧r'.v=v i∧r'.c≠ .write:=by
   intro hs;obtain⟨r,r',h1,h2,h3,h4⟩:=hs q hq1
   rw[e1]at h1
   cases h1;exact⟨r',h2,h3.symm,h4⟩
  suffices h:∃r',E.op (S i).σ (S q).h (bG P n fz aA ops o).op=some r' ∧r'.v=v i∧r'.c≠ .write by
   obtain⟨r',h1,h2,h3⟩:=h
   exact done r' h1 h2 h3
  by_cases hiq:i≤q
  ·by_cases hw:∃k,i≤k∧k<q∧c k=.write
   ·obtain⟨k,k1,k2,k3⟩:=hw
    have hki:i≠k:=fun e=>by rw[←e,hc]at k3;cases k3
    have hko:=bbf (show k<ops.size by omega)
    have hLk:=hq3 k k2 k3
    by_cases ho:Ord ops i k
    ·have:=ju hL hr.off (by omega) ho
     rw[hLk]at this;cases this
    ·have:=hT.apart i k _ _ (by omega) hr.get hko ho
     rw[hc,k3]at this
     simp only[reduceCtorEq,false_and,and_false,false_or,true_and,or_false,and_self]at this
     exact steady this
   ·exact same (wZ hq hT q hiq hq1 fun k h1 h2 hw' =>hw ⟨k,h1,h2,hw'⟩)
  ·rcases hq2 with h|⟨h1,h2⟩
   ·omega
   ·have hqo:=bbf (show q<ops.size by omega)
    by_cases ho:Ord ops q i
    ·have:=pf hL hr ho
     rw[h2]at this;cases this
    ·have:=hT.apart q i _ _ (by omega) hqo hr.get ho
     rw[hc,h1]at this
     simp only[reduceCtorEq,false_and,false_or,true_and,and_self]at this
     exact steady this
theorem SS (hT:Text P E C n fz aA ops s s' S c v) {L L' :Nat→Bool} (hL:mZ ops L) {i:Nat} {o:Oper} (hr:s9 ops L i o) (hi' :L' i=true) (ho:∀k,k≠i→L' k=L k) {d:Nat}
  (hd:(bG P n fz aA ops o).dst=some d) (t:Nat):
  ((d_ s.σ (iD P n fz aA ops) v L ops.size).put d (v i)).get t=(d_ s.σ (iD P n fz aA ops) v L' ops.size).get t:=by
 have hlt:=n_ hr
 have hdi:iD P n fz aA ops i=some d:=by simp[iD,hr.get,hd]
 rw[ah.aa]
 by_cases h:t=d
 ·subst h
  rw[if_pos rfl];rw[pe (i:=i+1) ops.size (by omega) fun k h1 h2 hk=> ?_,kB,if_pos ⟨hi',hdi⟩]
  have hko:=bbf h2
  simp only[iD,hko,bag]at hk
  rw[ho k (by omega)]
  exact ju hL hr.off h2 (hT.mh i k _ _ (by omega) hr.get hko (SQ hd hk))
 ·rw[if_neg h]
  refine iM ops.size fun k hk hdk=> ?_
  have:k≠i:=by
   rintro rfl;rw[hdi]at hdk
   exact h (Option.some.inj hdk).symm
  exact(ho k this).symm
theorem Lt {L L' :Nat→Bool} {i:Nat} (ho:∀k,k≠i→L' k=L k) (hd:iD P n fz aA ops i=none) (t:Nat):
  (d_ s.σ (iD P n fz aA ops) v L ops.size).get t=(d_ s.σ (iD P n fz aA ops) v L' ops.size).get t:=by
 refine iM ops.size fun k hk hdk=> ?_
 have:k≠i:=by
  rintro rfl;rw[hd]at hdk;cases hdk
 exact(ho k this).symm
theorem AW (hT:Text P E C n fz aA ops s s' S c v) {L L' :Nat→Bool} (hL:mZ ops L) {i:Nat} {o:Oper} (hr:s9 ops L i o) (hi' :L' i=true) (ho:∀k,k≠i→L' k=L k)
  {X X' :RX} (hE:Ext X X') {tmps:Array Value} (k:jN X n (d_ s.σ (iD P n fz aA ops) v L ops.size) tmps) (hdo:(bG P n fz aA ops o).dst=o.dst) (hdn:∀d,o.dst=some d→d<n)
  {v' :Value} (hv:bo X' (v i) v'):jN X' n (d_ s.σ (iD P n fz aA ops) v L' ops.size) (match o.dst with|some d=>tmps.setIfInBounds d v' |none=>tmps):=by
 cases hd:o.dst with
 |none=>
  refine(k.ext hE).congr (Lt ho ?_)
  simp[iD,hr.get,hdo,hd]
 |some d=>
  refine((k.ext hE).put (hdn d hd) hv).congr (SS hT hL hr hi' ho ?_)
  rw[hdo,hd]
theorem yc {L L' :Nat→Bool} (hL:mZ ops L) {i:Nat} {o:Oper} (hr:s9 ops L i o) (hi' :L' i=true) (ho:∀k,k≠i→L' k=L k):mZ ops L' :=by
 have hup:∀k,L k=true→L' k=true:=fun k h=>by
  by_cases he:k=i
  ·subst he;exact hi'
  ·rw[ho k he];exact h
 intro j oj hj hLj e he hb
 by_cases hji:j=i
 ·subst hji
  have:=hr.get;rw[hj]at this;cases this
  exact hup _ (hr.aeo e he hb)
 ·rw[ho j hji]at hLj
  exact hup _ (hL j oj hj hLj e he hb)
theorem vi (a:Act) (d:Option Nat) (v:Value):(a.put d v).tmps=(match d with|some d=>a.tmps.setIfInBounds d v|none=>a.tmps):=by
 cases d<;>rfl
theorem qH (a:Act) (d:Option Nat) (v:Value):(a.put d v).defers=a.defers:=by
 cases d<;>rfl
theorem Lu (hC:lz P E C) (hq:Quiet C) (hT:Text P E C n fz aA ops s s' S c v) {L L' :Nat→Bool} {X:RX} (hR:Rel B w0 E X) {a:Act} (hI:Inv P n fz aA ops s S c v X a.tmps L) {i:Nat} {o:Oper}
  (hr:s9 ops L i o) (hi' :L' i=true) (ho:∀k,k≠i→L' k=L k) {K:Act→World→Prop} {Q:Exit→Act→World→Prop}
  (hK:∀X' a',Rel B w0 E X' →Ext X X' →Inv P n fz aA ops s S c v X' a'.tmps L' →a'.defers=a.defers→K a' X'.w):wpOp P ops Q i K a X.w:=by
 unfold wpOp
 simp only[hr.get]
 obtain⟨hdo,hg,hdn,htr⟩:=abk (hT.did i o hr.get)
 have hwr:=tv hI.fM hg (bG P n fz aA ops o) rfl
 have hwc:(bG P n fz aA ops o).wanted (d_ s.σ (iD P n fz aA ops) v L ops.size)=(bG P n fz aA ops o).wanted (S i).σ:=E8 fun t ht=>yb hT hI.closed hr ht
 rw[hwc]at hwr
 rcases(hT.did i o hr.get).how with⟨hw,hact⟩|⟨hw,hv,hcn,hh⟩
 ·rw[hw]at hwr
  rw[if_pos hwr]
  left
  obtain⟨fr,ht⟩:=htr hw
  obtain⟨h',k',hact',bcq⟩:=SR hq hT hI.closed hr hI.heap hact
  have hact2:E.act C (d_ s.σ (iD P n fz aA ops) v L ops.size) X.h (bG P n fz aA ops o).op=some (.ret ⟨v i,h',k'⟩):=by
   rw[←hact'];exact SO (fun t ht=>yb hT hI.closed hr (Jb ht)) C X.h
  refine UL (P2 hC hR hI.fM ht hact2) hR ?_ ?_
  ·rintro r hre X' v' g1 g2 g3 g4
   cases hre;refine hK X' _ g1 g2 ⟨?_,yc hI.closed hr hi' ho,?_⟩ (qH _ _ _)
   ·rw[vi]
    exact AW hT hI.closed hr hi' ho g2 hI.fM hdo hdn g4
   ·obtain⟨q,q1,q2,q3,q4⟩:=bcq
    refine⟨q,q1,g3.trans q2,?_,fun k hk hw=> ?_⟩
    ·rcases q3 with h|⟨h1,h2,h3⟩
     ·exact .inl h
     ·exact .inr ⟨h1,by rw[ho q h2];exact h3⟩
    ·rcases q4 k hk hw with rfl|h
     ·exact hi'
     ·by_cases he:k=i
      ·subst he;exact hi'
      ·rw[ho k he];exact h
  ·rintro v h hre;cases hre
 ·rw[hw]at hwr
  rw[if_neg (by simp[hwr])]
  refine hK X _ hR (Ext.refl X) ⟨?_,yc hI.closed hr hi' ho,?_⟩ (qH _ _ _)
  ·rw[vi]
   refine AW hT hI.closed hr hi' ho (Ext.refl X) hI.fM hdo hdn ?_
   rw[hv];exact bo.undef
  ·obtain⟨q,q1,q2,q3,q4⟩:=hI.heap
   refine⟨q,q1,q2,?_,fun k hk hw=> ?_⟩
   ·rcases q3 with h|⟨h1,h2⟩
    ·exact .inl h
    ·by_cases he:q=i
     ·rw[he,hcn]at h1;cases h1
     ·exact .inr ⟨h1,by rw[ho q he];exact h2⟩
   ·by_cases he:k=i
    ·subst he;exact hi'
    ·rw[ho k he];exact q4 k hk hw
theorem mem_ready {listed:Array Bool} {i:Nat} (hsz:listed.size=ops.size):i∈Region.ready .any ops listed↔∃o,s9 ops (fun k=>listed.getD k false) i o:=by
 simp only[Region.ready,List.mem_filter,List.mem_range,bau,Bool.not_eq_true']
 constructor
 ·rintro⟨hlt,h1,h2⟩
  have ho:=bbf hlt
  rw[ho]at h2
  simp only[baq,Option.getD_some]at h2
  refine⟨_,ho,?_,fun e he hb=> ?_⟩
  ·have hl:i<listed.size:=by omega
   simp only[bbk,bbf hl,Option.getD_some]at h1⊢
   exact h1
  ·rw[←Array.all_toList]at h2
   have:=List.all_eq_true.1 h2 e he
   simpa[hb]using this
 ·rintro⟨o,ho,h1,h2⟩
  have hlt:=(bbh.1 ho).1
  have hl:i<listed.size:=by omega
  refine⟨hlt,?_,?_⟩
  ·simp only[bbk,bbf hl,Option.getD_some]at h1⊢
   exact h1
  ·rw[ho]
   simp only[baq,Option.getD_some]
   rw[←Array.all_toList];refine List.all_eq_true.2 fun e he=> ?_
   cases hb:Region.binds .any e with
   |false=>simp
   |true=>simp[h2 e he hb]
theorem E9 (hT:Text P E C n fz aA ops s s' S c v) {L:Nat→Bool}:∀(i:Nat),i<ops.size→L i=false→∃j o,s9 ops L j o:=by
 intro i
 induction i using Nat.strongRecOn with
 |_ i ih=>
  intro hi hL;have ho:=bbf hi
  by_cases h:∃e∈ops[i].after.toList,Region.binds .any e=true∧L e.on=false
  ·obtain⟨e,he,hb,hLe⟩:=h
   have hlt:=hT.back i _ ho e he hb
   exact ih e.on hlt (by omega) hLe
  ·exact⟨i,_,ho,hL,fun e he hb=>by
    cases hLe:L e.on with
    |true=>rfl
    |false=>exact absurd ⟨e,he,hb,hLe⟩ h⟩
theorem Jc {L:Nat→Bool}:∀{N:Nat},left L N≠0→∃i,i<N∧L i=false
 |0,h=>absurd rfl h
 |N+1,h=>by
  cases hL:L N with
  |false=>exact⟨N,by omega,hL⟩
  |true=>
   simp only[left,hL,Nat.add_zero]at h
   obtain⟨i,h1,h2⟩:=Jc h
   exact⟨i,by omega,h2⟩
theorem Qh (hC:lz P E C) (hq:Quiet C) (hT:Text P E C n fz aA ops s s' S c v) {Q:Exit→Act→World→Prop}:∀(fuel:Nat) (listed:Array Bool),listed.size=ops.size→left (fun k=>listed.getD k false) ops.size=fuel→
  ∀{X:RX},Rel B w0 E X→∀{a:Act},Inv P n fz aA ops s S c v X a.tmps (fun k=>listed.getD k false)→a.defers=[]→(∀e' a' w',jg B w0 E X n .norm s' e' a' w' →Q e' a' w')→wpAny P .any ops Q fuel listed a X.w
 |0,listed,hsz,hf,X,hR,a,hI,hde,hQ=>by
  have r0:=DR _ hf
  refine⟨?_,?_⟩
  ·apply List.eq_nil_iff_forall_not_mem.2
   intro i hi;obtain⟨o,hr⟩:=(mem_ready hsz).1 hi
   have:=r0 i (n_ hr)
   rw[hr.off]at this;cases this
  ·refine hQ _ _ _ ⟨X,rfl,hR,Ext.refl X,⟨?_,?_,hde⟩,.norm⟩
   ·obtain⟨q,q1,q2,q3,q4⟩:=hI.heap
    rcases q3 with rfl|⟨h1,h2⟩
    ·rw[q2,hT.last]
    ·by_cases he:q=ops.size
     ·rw[q2,he,hT.last]
     ·have:=r0 q (by omega)
      rw[h2]at this;cases this
   ·refine hI.fM.congr fun t=> ?_
    rw[←hT.last,tz hT ops.size (bab _) t]
    exact iM ops.size fun k hk _=>r0 k hk
 |fuel+1,listed,hsz,hf,X,hR,a,hI,hde,hQ=>by
  obtain⟨i0,hi0,hL0⟩:=Jc (L:=fun k=>listed.getD k false) (N:=ops.size) (by omega)
  obtain⟨j,oj,hj⟩:=E9 hT (L:=fun k=>listed.getD k false) i0 hi0 hL0
  refine⟨fun h=> ?_,fun i hi=> ?_⟩
  ·have:=(mem_ready hsz).2 ⟨oj,hj⟩
   rw[h]at this;cases this
  ·obtain⟨o,hr⟩:=(mem_ready hsz).1 hi
   have hlt:=n_ hr
   have hset:(fun k=>(listed.setIfInBounds i true).getD k false) i=true:=by
    simp[bbk,hsz,hlt]
   have hoth:∀k,k≠i→(fun k=>(listed.setIfInBounds i true).getD k false) k=(fun k=>listed.getD k false) k:=by
    intro k hk;simp only[bbk,Array.getElem?_setIfInBounds]
    rw[if_neg (fun e=>hk e.symm)]
   refine Lu hC hq hT hR hI hr hset hoth fun X' a' g1 g2 g3 g4=> ?_
   refine Qh hC hq hT fuel _ (by simpa using hsz) ?_ g1 g3 (g4.trans hde) fun e' a' w' hp=>hQ _ _ _ (jg.trans g2 hp)
   have:=(Ja hr.off hset hoth ops.size).1 hlt
   omega
theorem UT (hC:lz P E C) (hq:Quiet C) (hm:P.follows .mixedOrders=true):E3 P E C:=by
 intro B w0 n fz aA ops id X s a e s' hR k hst h;obtain⟨rfl,S,c,v,hT⟩:=E7 hst h
 refine wp_region_any hm ?_
 have hb:Below X.w.heap.size X.w {X.w with drawn:=X.w.drawn+1}:=Below.drew (Below.refl _ X.w)
 have hR' :=hR.grow hb
 have hE:=Ext.grow X hb
 have bde:(fun k=>(Array.replicate ops.size false).getD k false)=fun _=>false:=by
  funext k
  simp only[bbk,Array.getElem?_replicate]
  split<;>rfl
 refine Qh hC hq hT ops.size (Array.replicate ops.size false) (by simp) ?_ hR' (X:={X with w:={X.w with drawn:=X.w.drawn+1}}) ?_ k.defers fun e' a' w' hp=>jg.trans hE hp
 ·rw[bde];exact DS _
 ·rw[bde]
  refine⟨?_,?_,?_⟩
  ·refine(k.fM.ext hE).congr fun t=> ?_
   rw[pe (i:=0) ops.size (by omega) fun _ _ _ _=>rfl]
   rfl
  ·intro j o hj hL;cases hL
  ·obtain⟨q,q1,q2,q3,q4⟩:=qG c ops.size ops.size 0 (by omega)
   refine⟨q,q2,?_,?_,fun k hk hw=>absurd hw (q4 k (by omega) hk)⟩
   ·rw[wZ hq hT q (by omega) q2 q4,hT.first]
    exact k.heap
   ·rcases q3 with h|h
    ·exact .inl h
    ·exact .inr ⟨h,rfl⟩
end
end Go.AM
