/- For BifCalls. -/
import Derived.Test.YtaielgjmhbjfhaaGreatDoorAmCore
set_option linter.unusedVariables false
set_option maxRecDepth 20000
namespace Go.AM
section
variable (E : Env)
def WP (c:AC) (s:St) (Q:aU→St→Prop):Prop:=∃e s',(∃n,∀m,n≤m→E.code (E.call m) m c s=some (e,s'))∧Q e s'
def iA (l:List aH) (s:St) (Q:aU→St→Prop):Prop:=∃e s',(∃n,∀m,n≤m→E.ops (E.call m) l s=some (e,s'))∧Q e s'
def WC (f:Nat) (args:List AV) (h:Heap) (Q:fC→Prop):Prop:=∃o,(∃n,∀m,n≤m→E.call m f args h=some o)∧Q o
def WPl (l:List aH) (s:St) (Q:St→List (aH×St×dB)→Prop):Prop:=∃s' log,(∃n,∀m,n≤m→E.mY (E.call m) l s=some (s',log))∧Q s' log
end
section
variable {E : Env}
theorem WP.mono {c:AC} {s:St} {Q R:aU→St→Prop} (h:WP E c s Q) (hr:∀e s',Q e s' →R e s'):WP E c s R:=by
 obtain⟨e,s',h1,h2⟩:=h;exact⟨e,s',h1,hr _ _ h2⟩
theorem WC.mono {f:Nat} {args:List AV} {h:Heap} {Q R:fC→Prop} (k:WC E f args h Q) (hr:∀o,Q o→R o):WC E f args h R:=by
 obtain⟨o,h1,h2⟩:=k;exact⟨o,h1,hr _ h2⟩
theorem wp_skip {s:St} {Q:aU→St→Prop} (h:Q .norm s):WP E .skip s Q:=⟨_,_,⟨0,fun m _=>rfl⟩,h⟩
theorem wp_ret {s:St} {Q:aU→St→Prop} (h:Q .ret s):WP E .ret s Q:=⟨_,_,⟨0,fun m _=>rfl⟩,h⟩
theorem wp_exit {id:Nat} {s:St} {Q:aU→St→Prop} (h:Q (.exit id) s):WP E (.exit id) s Q:=⟨_,_,⟨0,fun m _=>rfl⟩,h⟩
theorem Uj {b:AC} {s:St} {Q:aU→St→Prop} (h:WP E b s Q):WP E (.scope b) s Q:=h
theorem wp_ops {l:List aH} {s:St} {Q:aU→St→Prop} (h:iA E l s Q):WP E (.ops l) s Q:=h
def Iu (E:Env) (b:AC) (Q:aU→St→Prop):aU→St→Prop
 |.norm,s=>WP E b s Q
 |e,s=>Q e s
theorem wp_seq {a b:AC} {s:St} {Q:aU→St→Prop} (h:WP E a s (Iu E b Q)):WP E (.seq a b) s Q:=by
 obtain⟨e,s1,⟨n,hn⟩,hq⟩:=h
 have other:(∀m,n≤m→E.code (E.call m) m (.seq a b) s=some (e,s1))→Q e s1→WP E (.seq a b) s Q:=fun h1 h2=>⟨e,s1,⟨n,h1⟩,h2⟩
 cases e with
 |norm=>
  obtain⟨e2,s2,⟨k,hk⟩,hq2⟩:=hq
  refine⟨e2,s2,⟨max n k,fun m hm=> ?_⟩,hq2⟩
  simp only[Env.code]
  rw[hn m (by omega)]
  exact hk m (by omega)
 |ret=>exact other (fun m hm=>by simp only[Env.code];rw[hn m hm];rfl) hq
 |exit id=>exact other (fun m hm=>by simp only[Env.code];rw[hn m hm];rfl) hq
 |panic v=>exact other (fun m hm=>by simp only[Env.code];rw[hn m hm];rfl) hq
theorem wp_cond {c:eN} {x y:AC} {s:St} {Q:aU→St→Prop} {b:Bool} (hb:E.eM s.σ c=some (.bool b)) (ht:b=true→WP E x s Q) (hf:b=false→WP E y s Q):WP E (.cond c x y) s Q:=by
 cases b with
 |true=>
  obtain⟨e,s1,⟨n,hn⟩,hq⟩:=ht rfl
  exact⟨e,s1,⟨n,fun m hm=>by simp only[Env.code];rw[hb];exact hn m hm⟩,hq⟩
 |false=>
  obtain⟨e,s1,⟨n,hn⟩,hq⟩:=hf rfl
  exact⟨e,s1,⟨n,fun m hm=>by simp only[Env.code];rw[hb];exact hn m hm⟩,hq⟩
def Aj (id:Nat) (Q:aU→St→Prop):aU→St→Prop
 |.exit id',s=>if id' =id then Q .norm s else Q (.exit id') s
 |e,s=>Q e s
theorem wp_block {id:Nat} {b:AC} {s:St} {Q:aU→St→Prop} (h:WP E b s (Aj id Q)):WP E (.block id b) s Q:=by
 obtain⟨e,s1,⟨n,hn⟩,hq⟩:=h
 cases e with
 |exit id' =>
  simp only[Aj]at hq
  by_cases hid:id' =id
  ·rw[if_pos hid]at hq
   exact⟨.norm,s1,⟨n,fun m hm=>by simp only[Env.code];rw[hn m hm];simp[hid]⟩,hq⟩
  ·rw[if_neg hid]at hq
   exact⟨.exit id',s1,⟨n,fun m hm=>by simp only[Env.code];rw[hn m hm];simp[hid]⟩,hq⟩
 |norm=>exact⟨_,s1,⟨n,fun m hm=>by simp only[Env.code];rw[hn m hm];rfl⟩,hq⟩
 |ret=>exact⟨_,s1,⟨n,fun m hm=>by simp only[Env.code];rw[hn m hm];rfl⟩,hq⟩
 |panic v=>exact⟨_,s1,⟨n,fun m hm=>by simp only[Env.code];rw[hn m hm];rfl⟩,hq⟩
theorem Ak {f:St→Option (aU×St)}:∀(n:Nat) (s:St) (r:aU×St),mj f n s=some r→∀m,n≤m→mj f m s=some r
 |0,_,_,h,_,_=>by cases h
 |n+1,s,r,h,m,hm=>by
  cases m with
  |zero=>omega
  |succ m=>
   simp only[mj,bac]at h⊢
   obtain⟨⟨e,s1⟩,h1,h2⟩:=h
   refine⟨(e,s1),h1,?_⟩
   cases e with
   |norm=>exact Ak n s1 r h2 m (by omega)
   |_=>exact h2
def kz (E:Env) (b:AC) (s:St) (Q:aU→St→Prop):Prop:=∃e s',(∃n k,∀m,n≤m→mj (E.code (E.call m) m b) k s=some (e,s'))∧Q e s'
theorem wp_loop {b:AC} {s:St} {Q:aU→St→Prop} (h:kz E b s Q):WP E (.loop b) s Q:=by
 obtain⟨e,s1,⟨n,k,hn⟩,hq⟩:=h
 exact⟨e,s1,⟨max n k,fun m hm=>Ak k s _ (hn m (by omega)) m (by omega)⟩,hq⟩
def lF (E:Env) (b:AC) (Q:aU→St→Prop):aU→St→Prop
 |.norm,s=>kz E b s Q
 |e,s=>Q e s
theorem Uk {b:AC} {s:St} {Q:aU→St→Prop} (h:WP E b s (lF E b Q)):kz E b s Q:=by
 obtain⟨e,s1,⟨n,hn⟩,hq⟩:=h
 have other:e≠ .norm→(Q e s1)→kz E b s Q:=by
  intro hne hq;refine⟨e,s1,⟨n,1,fun m hm=> ?_⟩,hq⟩
  simp only[mj]
  rw[hn m hm];cases e<;>first|exact absurd rfl hne|rfl
 cases e with
 |norm=>
  obtain⟨e2,s2,⟨n2,k,hk⟩,hq2⟩:=hq
  refine⟨e2,s2,⟨max n n2,k+1,fun m hm=> ?_⟩,hq2⟩
  simp only[mj]
  rw[hn m (by omega)]
  exact hk m (by omega)
 |ret=>exact other (by simp) hq
 |exit id=>exact other (by simp) hq
 |panic v=>exact other (by simp) hq
def jo.calls:jo→Bool
 |.call .. |.kr .. |.panic _=>true
 |_=>false
theorem nY {C:eO} {σ:ah} {h:Heap} {op:jo} (hp:op.calls=false):E.act C σ h op=(E.op σ h op).map fC.ret:=by
 cases op<;>first|rfl|simp[jo.calls]at hp
theorem uU {o:aH} {l:List aH} {s s1:St} {c:dB} {Q:aU→St→Prop} (h:∃n,∀m,n≤m→E.one (E.call m) o s=some (s1,c,none)) (hl:iA E l s1 Q):iA E (o::l) s Q:=by
 obtain⟨n,hn⟩:=h
 obtain⟨e,s2,⟨k,hk⟩,hq⟩:=hl
 refine⟨e,s2,⟨max n k,fun m hm=> ?_⟩,hq⟩
 simp only[Env.ops]
 rw[hn m (by omega)]
 exact hk m (by omega)
end
section
variable {E : Env} {d : Option Nat} {l : List aH} {σ : ah} {h : Heap} {Q : aU → St → Prop}
@[simp] theorem Iv {d:Nat} {v:AV} {h' :Heap}:St.put ⟨σ,h⟩ (some d) v h' =⟨σ.put d v,h'⟩:=rfl
@[simp] theorem Iw {v:AV} {h' :Heap}:St.put ⟨σ,h⟩ none v h' =⟨σ,h'⟩:=rfl
theorem aa (σ:ah) (d:Nat) (v:AV) (t:Nat):(σ.put d v).get t=if t=d then v else σ.get t:=by
 have h:=Tr.o4 (α:=AV) σ d t (some v)
 unfold ah.get ah.put
 rw[h]
 by_cases ht:t=d
 ·rw[if_pos ht,if_pos ht]
 ·rw[if_neg ht,if_neg ht]
@[simp] theorem xQ {t:Nat}:E.eM σ (.t t)=some (σ.get t):=rfl
@[simp] theorem aej {v:AV}:E.eM σ (.c v)=some v:=rfl
@[simp] theorem xR {b:AC} {s:St}:lF E b Q .norm s=kz E b s Q:=rfl
@[simp] theorem Al {b:AC} {s:St}:lF E b Q .ret s=Q .ret s:=rfl
@[simp] theorem xS {b:AC} {s:St} {id:Nat}:lF E b Q (.exit id) s=Q (.exit id) s:=rfl
end
section
variable {E : Env}
theorem aa9 {f:Nat} {af:aS} (hp:E.nU f=none) (hf:E.func f=some af) {args:List AV} {h:Heap} (hu:E.kO f=false∨AV.aj args=false) {Q:fC→Prop}
  (hb:WP E af.body ⟨ah.bbw 0 args .empty,h⟩ (fun e s=>match e with
   |.norm|.ret=>∃vs,E.results s af.results=some vs∧Q (.ret ⟨dX vs,s.h,.write⟩)
   |.panic v=>Q (.panic v s.h)
   |.exit _=>False)):WC E f args h Q:=by
 obtain⟨e,s1,⟨n,hn⟩,hq⟩:=hb
 have key:∀o,Q o→(∀m,n≤m→E.body (E.call m) m af args h=some o)→WC E f args h Q:=by
  intro o ho r0;refine⟨o,⟨n+1,fun m hm=> ?_⟩,ho⟩
  cases m with
  |zero=>omega
  |succ m=>
   simp only[Env.call,hp,hf,bag]
   rcases hu with hu|hu
   ·rw[hu];exact r0 m (by omega)
   ·cases hpf:E.kO f with
    |false=>exact r0 m (by omega)
    |true=>rw[hu];exact r0 m (by omega)
 cases e with
 |norm=>
  obtain⟨vs,hvs,hq⟩:=hq
  exact key _ hq fun m hm=>by simp only[Env.body];rw[hn m hm];simp[hvs]
 |ret=>
  obtain⟨vs,hvs,hq⟩:=hq
  exact key _ hq fun m hm=>by simp only[Env.body];rw[hn m hm];simp[hvs]
 |panic v=>exact key _ hq fun m hm=>by simp only[Env.body];rw[hn m hm];rfl
 |exit id=>exact hq.elim
theorem aa_ {f:Nat} {af:aS} (hp:E.nU f=none) (hf:E.func f=some af) {args:List AV} {h:Heap} (hu:E.kO f=true) (hr:AV.aj args=true) {Q:fC→Prop}
  (hb:WP E af.body ⟨ah.bbw 0 args .empty,.empty⟩ (fun e s=>match e with
   |.norm|.ret=>∃vs v n,E.results s af.results=some vs∧freeze s.h n (dX vs)=some v∧(∀m,n≤m→freeze s.h m (dX vs)=some v)∧Q (.ret ⟨v,h,.none⟩)
   |_=>False)):WC E f args h Q:=by
 obtain⟨e,s1,⟨n,hn⟩,hq⟩:=hb
 have key:∀vs v k,freeze s1.h k (dX vs)=some v→(∀m,k≤m→freeze s1.h m (dX vs)=some v)→Q (.ret ⟨v,h,.none⟩)→(∀m,n≤m→E.body (E.call m) m af args .empty=some (.ret ⟨dX vs,s1.h,.write⟩))→WC E f args h Q:=by
  intro vs v k hk hkm ho r0;refine⟨_,⟨n+k+1,fun m hm=> ?_⟩,ho⟩
  cases m with
  |zero=>omega
  |succ m=>
   simp only[Env.call,hp,hf,bag,hu,hr]
   rw[r0 m (by omega)]
   simp[hkm m (by omega)]
 cases e with
 |norm=>
  obtain⟨vs,v,k,hvs,hk,hkm,hq⟩:=hq
  exact key _ _ _ hk hkm hq fun m hm=>by simp only[Env.body];rw[hn m hm];simp[hvs]
 |ret=>
  obtain⟨vs,v,k,hvs,hk,hkm,hq⟩:=hq
  exact key _ _ _ hk hkm hq fun m hm=>by simp only[Env.body];rw[hn m hm];simp[hvs]
 |panic v=>exact hq.elim
 |exit id=>exact hq.elim
theorem aba {s:St} {Q:St→List (aH×St×dB)→Prop} (h:Q s []):WPl E [] s Q:=⟨_,_,⟨0,fun m _=>rfl⟩,h⟩
theorem Am {o:aH} {l:List aH} {s s1:St} {c:dB} {Q:St→List (aH×St×dB)→Prop} (h:∃n,∀m,n≤m→E.one (E.call m) o s=some (s1,c,none)) (hl:WPl E l s1 (fun s' log=>Q s' ((o,s,c)::log))):WPl E (o::l) s Q:=by
 obtain⟨n,hn⟩:=h
 obtain⟨s2,log,⟨k,hk⟩,hq⟩:=hl
 refine⟨s2,_,⟨max n k,fun m hm=> ?_⟩,hq⟩
 simp only[Env.mY]
 rw[hn m (by omega)]
 simp[hk m (by omega)]
theorem abb {l:List aH} {b:List Nat} {s:St} {Q:aU→St→Prop} (h:WPl E l s (fun s' log=>E.gJ (s'.h::log.map (fun x=>x.2.1.h)) 0 log b=true∧Q .norm s')):WP E (.draw l b) s Q:=by
 obtain⟨s1,log,⟨n,hn⟩,h1,h2⟩:=h
 refine⟨_,s1,⟨n,fun m hm=> ?_⟩,h2⟩
 simp only[Env.code,Env.Dh]
 rw[hn m hm];simp[h1]
end
end Go.AM
namespace Go.AM
def An (w:Bool):AV→AV
 |.undef=>.bool (!w)
 |v=>v
@[simp] theorem fV {w b:Bool}:An w (.bool b)=.bool b:=id rfl
section
variable (E : Env)
def fS (op:jo) (d:Option Nat) (s:St) (K:St→dB→Prop) (Q:aU→St→Prop):Prop:=
 match op with
 |.call f args=>∃vs,E.nV s.σ args=some vs∧WC E f vs s.h (fun o=>match o with|.ret r=>K (s.put d r.v r.h) r.c|.panic v h=>Q (.panic v) ⟨s.σ,h⟩)
 |.kr f args=>∃g first cap vs,E.eM s.σ f=some (.fn (.func g) first cap)∧E.nV s.σ args=some vs∧WC E g (first++vs++cap) s.h (fun o=>match o with|.ret r=>K (s.put d r.v r.h) r.c|.panic v h=>Q (.panic v) ⟨s.σ,h⟩)
 |.panic x=>∃t v,E.eM s.σ x=some (.fN t v)∧Q (.panic (.fN t v)) s
 |op=>∃r,E.op s.σ s.h op=some r∧K (s.put d r.v r.h) r.c
def rW:List aH→St→(aU→St→Prop)→Prop
 |[],s,Q=>Q .norm s
 |o::l,s,Q=>
  match o.guard with
  |none=>fS E o.op o.dst s (fun s' _=>rW l s' Q) Q
  |some (t,w)=>∃b,An w (s.σ.get t)=.bool b∧(if b=w then fS E o.op o.dst s (fun s' _=>rW l s' Q) Q else rW l (s.put o.dst .undef s.h) Q)
def sY:List aH→St→(St→List (aH×St×dB)→Prop)→Prop
 |[],s,Q=>Q s []
 |o::l,s,Q=>
  match o.guard with
  |none=>fS E o.op o.dst s (fun s' c=>sY l s' (fun s2 log=>Q s2 ((o,s,c)::log))) (fun _ _=>False)
  |some (t,w)=>∃b,An w (s.σ.get t)=.bool b∧(if b=w then fS E o.op o.dst s (fun s' c=>sY l s' (fun s2 log=>Q s2 ((o,s,c)::log))) (fun _ _=>False)
    else sY l (s.put o.dst .undef s.h) (fun s2 log=>Q s2 ((o,s,.none)::log)))
def jK:AC→St→(aU→St→Prop)→Prop
 |.skip,s,Q=>Q .norm s
 |.ops l,s,Q=>rW E l s Q
 |.draw l b,s,Q=>sY E l s (fun s' log=>E.gJ (s'.h::log.map (fun x=>x.2.1.h)) 0 log b=true∧Q .norm s')
 |.seq a b,s,Q=>jK a s (fun e s' =>match e with|.norm=>jK b s' Q|e=>Q e s')
 |.cond c x y,s,Q=>∃b,E.eM s.σ c=some (.bool b)∧(if b=true then jK x s Q else jK y s Q)
 |.block id b,s,Q=>jK b s (fun e s' =>match e with|.exit id' =>if id' =id then Q .norm s' else Q (.exit id') s' |e=>Q e s')
 |.loop b,s,Q=>kz E b s Q
 |.exit id,s,Q=>Q (.exit id) s
 |.scope b,s,Q=>jK b s Q
 |.ret,s,Q=>Q .ret s
 |.bad,_,_=>False
end
section
variable {E : Env}
theorem zh {op:jo} {d:Option Nat} {s:St} {K:St→dB→Prop} {Q:aU→St→Prop} (h:fS E op d s K Q):
  (∃s' c,(∃n,∀m,n≤m→E.one (E.call m) ⟨d,op,none⟩ s=some (s',c,none))∧K s' c)∨
  (∃v h',(∃n,∀m,n≤m→E.one (E.call m) ⟨d,op,none⟩ s=some (⟨s.σ,h'⟩,.write,some v))∧Q (.panic v) ⟨s.σ,h'⟩):=by
 have plain:op.calls=false→(∃r,E.op s.σ s.h op=some r∧K (s.put d r.v r.h) r.c)→(∃s' c,(∃n,∀m,n≤m→E.one (E.call m) ⟨d,op,none⟩ s=some (s',c,none))∧K s' c):=by
  rintro hp ⟨r,hr,hk⟩
  exact⟨_,_,⟨0,fun m _=>by simp[Env.one,aH.wanted,nY hp,hr]⟩,hk⟩
 cases op
 case call f args=>
  obtain⟨vs,hvs,o,⟨n,hn⟩,hq⟩:=h
  cases o with
  |ret r=>exact .inl ⟨_,_,⟨n,fun m hm=>by simp[Env.one,aH.wanted,Env.act,hvs,hn m hm]⟩,hq⟩
  |panic v h' =>exact .inr ⟨v,h',⟨n,fun m hm=>by simp[Env.one,aH.wanted,Env.act,hvs,hn m hm]⟩,hq⟩
 case kr f args=>
  obtain⟨g,a,b,vs,hf,hvs,o,⟨n,hn⟩,hq⟩:=h
  have hn' :∀m,n≤m→E.call m g (a++(vs++b)) s.h=some o:=fun m hm=>by rw[←bbp];exact hn m hm
  cases o with
  |ret r=>exact .inl ⟨_,_,⟨n,fun m hm=>by simp[Env.one,aH.wanted,Env.act,hvs,hf,hn' m hm]⟩,hq⟩
  |panic v h' =>exact .inr ⟨v,h',⟨n,fun m hm=>by simp[Env.one,aH.wanted,Env.act,hvs,hf,hn' m hm]⟩,hq⟩
 case panic x=>
  obtain⟨t,v,hx,hq⟩:=h
  exact .inr ⟨_,s.h,⟨0,fun m hm=>by simp[Env.one,aH.wanted,Env.act,hx]⟩,hq⟩
 all_goals exact .inl (plain rfl h)
theorem o7 {d:Option Nat} {op:jo} {t:Nat} {w:Bool} {s:St} (hb:s.σ.get t=.bool w) (C:eO):E.one C ⟨d,op,some (t,w)⟩ s=E.one C ⟨d,op,none⟩ s:=by
 simp only[Env.one,aH.wanted,hb,beq_self_eq_true]
theorem CR {d:Option Nat} {op:jo} {t:Nat} {w b:Bool} {s:St} (hb:s.σ.get t=.bool b) (he:¬b=w) (C:eO):E.one C ⟨d,op,some (t,w)⟩ s=some (s.put d .undef s.h,.none,none):=by
 have hbw:(b==w)=false:=by simp[he]
 simp only[Env.one,aH.wanted,hb,hbw]
theorem EU {w:Bool} {v:AV} (h:An w v=.bool w):v=.bool w:=by
 unfold An at h
 split at h
 ·cases w<;>cases h
 ·exact h
theorem qv {d:Option Nat} {op:jo} {t:Nat} {w b:Bool} {s:St} (hb:An w (s.σ.get t)=.bool b) (he:¬b=w) (C:eO):E.one C ⟨d,op,some (t,w)⟩ s=some (s.put d .undef s.h,.none,none):=by
 by_cases hu:s.σ.get t=.undef
 ·have hw:aH.wanted ⟨d,op,some (t,w)⟩ s.σ=false:=by simp only[aH.wanted,hu];rfl
  simp only[Env.one,hw]
 ·have:s.σ.get t=.bool b:=by
   unfold An at hb
   split at hb
   ·rename_i hv;exact absurd hv hu
   ·exact hb
  exact CR this he C
theorem Di {o:aH} {l:List aH} {s s1:St} {c:dB} {v:AV} {Q:aU→St→Prop} (h:∃n,∀m,n≤m→E.one (E.call m) o s=some (s1,c,some v)) (hq:Q (.panic v) s1):iA E (o::l) s Q:=by
 obtain⟨n,hn⟩:=h
 exact⟨_,_,⟨n,fun m hm=>by simp[Env.ops,hn m hm]⟩,hq⟩
theorem rX:∀(l:List aH) (s:St) (Q:aU→St→Prop),rW E l s Q→iA E l s Q
 |[],s,Q,h=>⟨_,_,⟨0,fun m _=>rfl⟩,h⟩
 |⟨d,op,none⟩::l,s,Q,h=>by
  have h:fS E op d s (fun s' _=>rW E l s' Q) Q:=h
  rcases zh h with⟨s',c,h1,h2⟩|⟨v,h',h1,h2⟩
  ·exact uU h1 (rX l s' Q h2)
  ·exact Di h1 h2
 |⟨d,op,some (t,w)⟩::l,s,Q,h=>by
  obtain⟨b,hb,h⟩:=h
  by_cases he:b=w
  ·subst he
   rw[if_pos rfl]at h
   have h:fS E op d s (fun s' _=>rW E l s' Q) Q:=h
   rcases zh h with⟨s',c,⟨n,h1⟩,h2⟩|⟨v,h',⟨n,h1⟩,h2⟩
   ·exact uU ⟨n,fun m hm=>by rw[o7 (EU hb)];exact h1 m hm⟩ (rX l s' Q h2)
   ·exact Di ⟨n,fun m hm=>by rw[o7 (EU hb)];exact h1 m hm⟩ h2
  ·rw[if_neg he]at h
   exact uU ⟨0,fun m _=>qv hb he _⟩ (rX l _ Q h)
theorem rY:∀(l:List aH) (s:St) (Q:St→List (aH×St×dB)→Prop),sY E l s Q→WPl E l s Q
 |[],s,Q,h=>aba h
 |⟨d,op,none⟩::l,s,Q,h=>by
  have h:fS E op d s (fun s' c=>sY E l s' (fun s2 log=>Q s2 ((⟨d,op,none⟩,s,c)::log))) (fun _ _=>False):=h
  rcases zh h with⟨s',c,h1,h2⟩|⟨v,h',h1,h2⟩
  ·exact Am h1 (rY l s' _ h2)
  ·exact h2.elim
 |⟨d,op,some (t,w)⟩::l,s,Q,h=>by
  obtain⟨b,hb,h⟩:=h
  by_cases he:b=w
  ·subst he
   rw[if_pos rfl]at h
   have h:fS E op d s (fun s' c=>sY E l s' (fun s2 log=>Q s2 ((⟨d,op,some (t,b)⟩,s,c)::log))) (fun _ _=>False):=h
   rcases zh h with⟨s',c,⟨n,h1⟩,h2⟩|⟨v,h',⟨n,h1⟩,h2⟩
   ·exact Am ⟨n,fun m hm=>by rw[o7 (EU hb)];exact h1 m hm⟩ (rY l s' _ h2)
   ·exact h2.elim
  ·rw[if_neg he]at h
   exact Am ⟨0,fun m _=>qv hb he _⟩ (rY l _ _ h)
theorem il:∀(c:AC) (s:St) (Q:aU→St→Prop),jK E c s Q→WP E c s Q
 |.skip,s,Q,h=>wp_skip h
 |.ops l,s,Q,h=>wp_ops (rX l s Q h)
 |.draw l b,s,Q,h=>abb (rY l s _ h)
 |.seq a b,s,Q,h=>by
  refine wp_seq ((il a s _ h).mono fun e s' hq=> ?_)
  cases e with
  |norm=>exact il b s' Q hq
  |_=>exact hq
 |.cond c x y,s,Q,h=>by
  obtain⟨b,hb,h⟩:=h
  refine wp_cond hb (fun e=> ?_) (fun e=> ?_)
  ·subst e;exact il x s Q h
  ·subst e;exact il y s Q h
 |.block id b,s,Q,h=>by
  refine wp_block ((il b s _ h).mono fun e s' hq=> ?_)
  cases e<;>exact hq
 |.loop b,s,Q,h=>wp_loop h
 |.exit id,s,Q,h=>wp_exit h
 |.scope b,s,Q,h=>Uj (il b s Q h)
 |.ret,s,Q,h=>wp_ret h
 |.bad,s,Q,h=>h.elim
def uV (E:Env) (b:AC) (Q:aU→St→Prop):aU→St→Prop:=fun e s' =>match e with|.norm=>jK E b s' Q|e=>Q e s'
def Ix (E:Env) (l:List aH) (Q:aU→St→Prop):St→dB→Prop:=fun s' _=>rW E l s' Q
def Um (E:Env) (x y:AC) (s:St) (Q:aU→St→Prop):Bool→Prop:=fun b=>if b=true then jK E x s Q else jK E y s Q
def Ao (E:Env) (op:jo) (d:Option Nat) (l:List aH) (s:St) (Q:aU→St→Prop) (w:Bool):Bool→Prop:=fun b=>
 if b=w then fS E op d s (Ix E l Q) Q else rW E l (s.put d .undef s.h) Q
def P3 (s:St) (d:Option Nat) (K:St→dB→Prop) (Q:aU→St→Prop):fC→Prop:=fun o=>match o with|.ret r=>K (s.put d r.v r.h) r.c|.panic v h=>Q (.panic v) ⟨s.σ,h⟩
def Lg (o:aH) (s:St) (c:dB) (Q:St→List (aH×St×dB)→Prop):St→List (aH×St×dB)→Prop:=fun s2 log=>Q s2 ((o,s,c)::log)
def SC (E:Env) (o:aH) (l:List aH) (s:St) (Q:St→List (aH×St×dB)→Prop):St→dB→Prop:=fun s' c=>sY E l s' (Lg o s c Q)
def SD:aU→St→Prop:=fun _ _=>False
def Un (E:Env) (b:List Nat) (Q:aU→St→Prop):St→List (aH×St×dB)→Prop:=fun s' log=>E.gJ (s'.h::log.map (fun x=>x.2.1.h)) 0 log b=true∧Q .norm s'
def jt (id:Nat) (Q:aU→St→Prop):aU→St→Prop:=fun e s' =>match e with|.exit id' =>if id' =id then Q .norm s' else Q (.exit id') s' |e=>Q e s'
section
variable {a b x y : AC} {s : St} {Q : aU → St → Prop} {id : Nat} {l : List aH} {d : Option Nat} {op : jo} {K : St → dB → Prop}
@[simp] theorem Iy:jK E .skip s Q=Q .norm s:=rfl
@[simp] theorem P4:jK E (.ops l) s Q=rW E l s Q:=rfl
@[simp] theorem cN:jK E (.seq a b) s Q=jK E a s (uV E b Q):=rfl
@[simp] theorem Iz {c:eN}:jK E (.cond c x y) s Q=∃b,E.eM s.σ c=some (.bool b)∧Um E x y s Q b:=rfl
@[simp] theorem Dj:jK E (.block id b) s Q=jK E b s (jt id Q):=rfl
@[simp] theorem IA:jK E (.loop b) s Q=kz E b s Q:=rfl
@[simp] theorem IB:jK E (.exit id) s Q=Q (.exit id) s:=rfl
@[simp] theorem Dk:jK E (.scope b) s Q=jK E b s Q:=rfl
@[simp] theorem P5:jK E .ret s Q=Q .ret s:=rfl
@[simp] theorem Dl:uV E b Q .norm s=jK E b s Q:=rfl
@[simp] theorem IC:uV E b Q .ret s=Q .ret s:=rfl
@[simp] theorem Dm:uV E b Q (.exit id) s=Q (.exit id) s:=rfl
@[simp] theorem uX:jt id Q .norm s=Q .norm s:=rfl
@[simp] theorem xU:jt id Q .ret s=Q .ret s:=rfl
@[simp] theorem uY {id' :Nat}:jt id Q (.exit id') s=if id' =id then Q .norm s else Q (.exit id') s:=rfl
@[simp] theorem Aq:Um E x y s Q true=jK E x s Q:=rfl
@[simp] theorem xV:Um E x y s Q false=jK E y s Q:=rfl
@[simp] theorem ID:rW E [] s Q=Q .norm s:=rfl
@[simp] theorem IE:rW E (⟨d,op,none⟩::l) s Q=fS E op d s (Ix E l Q) Q:=rfl
@[simp] theorem qw {t:Nat} {w:Bool}:rW E (⟨d,op,some (t,w)⟩::l) s Q=∃b,An w (s.σ.get t)=.bool b∧Ao E op d l s Q w b:=rfl
@[simp] theorem uZ {Q:St→List (aH×St×dB)→Prop}:sY E [] s Q=Q s []:=rfl
@[simp] theorem u4 {Q:St→List (aH×St×dB)→Prop}:sY E (⟨d,op,none⟩::l) s Q=fS E op d s (SC E ⟨d,op,none⟩ l s Q) SD:=rfl
@[simp] theorem o8 {Q:St→List (aH×St×dB)→Prop} {o:aH} {s' :St} {c:dB} {log:List (aH×St×dB)}:Lg o s c Q s' log=Q s' ((o,s,c)::log):=rfl
@[simp] theorem IF {f:Nat} {args:List eN}:fS E (.call f args) d s K Q=∃vs,E.nV s.σ args=some vs∧WC E f vs s.h (P3 s d K Q):=rfl
@[simp] theorem Dn {r:cB}:P3 s d K Q (.ret r)=K (s.put d r.v r.h) r.c:=rfl
theorem agC {x}:fS E (.mv x) d s K Q=∃r,E.op s.σ s.h (.mv x)=some r∧K (s.put d r.v r.h) r.c:=rfl
theorem Uo {c a b}:fS E (.pick c a b) d s K Q=∃r,E.op s.σ s.h (.pick c a b)=some r∧K (s.put d r.v r.h) r.c:=rfl
theorem SE {z}:fS E (.alloc z) d s K Q=∃r,E.op s.σ s.h (.alloc z)=some r∧K (s.put d r.v r.h) r.c:=rfl
@[simp] theorem P6 {fr sz x}:fS E (.box fr sz x) d s K Q=∃r,E.op s.σ s.h (.box fr sz x)=some r∧K (s.put d r.v r.h) r.c:=rfl
@[simp] theorem Dp {z ps}:fS E (.build z ps) d s K Q=∃r,E.op s.σ s.h (.build z ps)=some r∧K (s.put d r.v r.h) r.c:=rfl
@[simp] theorem P7 {fr sz n cs ps}:fS E (.lit fr sz n cs ps) d s K Q=∃r,E.op s.σ s.h (.lit fr sz n cs ps)=some r∧K (s.put d r.v r.h) r.c:=rfl
theorem Up {ag sz x}:fS E (.load ag sz x) d s K Q=∃r,E.op s.σ s.h (.load ag sz x)=some r∧K (s.put d r.v r.h) r.c:=rfl
theorem SF {sz x y}:fS E (.store sz x y) d s K Q=∃r,E.op s.σ s.h (.store sz x y)=some r∧K (s.put d r.v r.h) r.c:=rfl
theorem EV {x}:fS E (.nilCheck x) d s K Q=∃r,E.op s.σ s.h (.nilCheck x)=some r∧K (s.put d r.v r.h) r.c:=rfl
theorem abc {o x y}:fS E (.bin o x y) d s K Q=∃r,E.op s.σ s.h (.bin o x y)=some r∧K (s.put d r.v r.h) r.c:=rfl
theorem agD {ng e x y}:fS E (.eq ng e x y) d s K Q=∃r,E.op s.σ s.h (.eq ng e x y)=some r∧K (s.put d r.v r.h) r.c:=rfl
theorem agE {o x}:fS E (.un o x) d s K Q=∃r,E.op s.σ s.h (.un o x)=some r∧K (s.put d r.v r.h) r.c:=rfl
theorem Uq {c x}:fS E (.conv c x) d s K Q=∃r,E.op s.σ s.h (.conv c x)=some r∧K (s.put d r.v r.h) r.c:=rfl
theorem IG {t x}:fS E (.dU t x) d s K Q=∃r,E.op s.σ s.h (.dU t x)=some r∧K (s.put d r.v r.h) r.c:=rfl
@[simp] theorem Ar {f a b}:fS E (.lC f a b) d s K Q=∃r,E.op s.σ s.h (.lC f a b)=some r∧K (s.put d r.v r.h) r.c:=rfl
@[simp] theorem Dq {sz x lo hi mx}:fS E (.slice sz x lo hi mx) d s K Q=∃r,E.op s.σ s.h (.slice sz x lo hi mx)=some r∧K (s.put d r.v r.h) r.c:=rfl
@[simp] theorem u6 {x lo hi}:fS E (.ey x lo hi) d s K Q=∃r,E.op s.σ s.h (.ey x lo hi)=some r∧K (s.put d r.v r.h) r.c:=rfl
theorem CS {o x}:fS E (.fieldAddr o x) d s K Q=∃r,E.op s.σ s.h (.fieldAddr o x)=some r∧K (s.put d r.v r.h) r.c:=rfl
theorem IH {sz x i}:fS E (.cL sz x i) d s K Q=∃r,E.op s.σ s.h (.cL sz x i)=some r∧K (s.put d r.v r.h) r.c:=rfl
@[simp] theorem bj {x i}:fS E (.dD x i) d s K Q=∃r,E.op s.σ s.h (.dD x i)=some r∧K (s.put d r.v r.h) r.c:=rfl
theorem II {x i}:fS E (.extract x i) d s K Q=∃r,E.op s.σ s.h (.extract x i)=some r∧K (s.put d r.v r.h) r.c:=rfl
theorem abe {b x}:fS E (.len b x) d s K Q=∃r,E.op s.σ s.h (.len b x)=some r∧K (s.put d r.v r.h) r.c:=rfl
theorem Lh {sz by_ x y}:fS E (.append sz by_ x y) d s K Q=∃r,E.op s.σ s.h (.append sz by_ x y)=some r∧K (s.put d r.v r.h) r.c:=rfl
@[simp] theorem eS {m x y}:fS E (.iF m x y) d s K Q=∃r,E.op s.σ s.h (.iF m x y)=some r∧K (s.put d r.v r.h) r.c:=rfl
end
def aN (str:Bool) (h:Heap) (v:AV):Option cB:=match str,v with
 |true,.str s=>some ⟨.int .i64 s.length,h,.none⟩
 |false,.ax=>some ⟨.int .i64 0,h,.none⟩
 |false,.fs _ n _=>some ⟨.int .i64 n,h,.none⟩
 |false,.sl _ _ _ _ n _=>some ⟨.int .i64 n,h,.none⟩
 |_,_=>none
def cm (i:Nat):AV→Option AV
 |.aF vs=>vs[i]?
 |_=>none
def aL (c a b:AV):Option AV:=match c with
 |.bool true=>some a
 |.bool false=>some b
 |_=>none
def Li:AV→Option AV
 |.ptr a b c=>some (.ptr a b c)
 |.fp cs=>some (.fp cs)
 |.fN t v=>some (.fN t v)
 |.fn (.func f) a b=>some (.fn (.func f) a b)
 |_=>none
def au (off:Nat):AV→Option AV
 |.ptr id gen o=>some (.ptr id gen (o+off))
 |.fp cs=>some (.fp (cs.drop off))
 |_=>none
def Env.rd (E:Env) (σ:ah):eN→AV
 |.t n=>σ.get n
 |.c v=>v
 |.g n=>match E.jn n with|some cs=>.fp cs|none=>.undef
def eN.ok:eN→Bool
 |.g _=>false
 |_=>true
section
variable {s : St} {Q : aU → St → Prop} {d : Option Nat} {K : St → dB → Prop} {x y z : eN}
@[simp] theorem ak6 {σ:ah} {n:Nat}:E.rd σ (.t n)=σ.get n:=rfl
@[simp] theorem ak7 {σ:ah} {v:AV}:E.rd σ (.c v)=v:=rfl
@[simp] theorem ak8 {n:Nat}:(eN.t n).ok=true:=id rfl
@[simp] theorem ak9 {v:AV}:(eN.c v).ok=true:=id rfl
theorem dE {σ:ah} (h:x.ok=true):E.eM σ x=some (E.rd σ x):=by
 cases x<;>first|rfl|cases h
@[simp] theorem P8 (hx:x.ok=true):fS E (.mv x) d s K Q↔K (s.put d (E.rd s.σ x) s.h) .none:=by
 rw[agC];simp[Env.op,dE hx]
@[simp] theorem IJ {o:BinOp} (hx:x.ok=true) (hy:y.ok=true):fS E (.bin o x y) d s K Q↔∃v,kx o (E.rd s.σ x) (E.rd s.σ y)=some v∧K (s.put d v s.h) .none:=by
 rw[abc];simp[Env.op,dE hx,dE hy]
 constructor
 ·rintro⟨r,⟨a,h1,rfl⟩,h2⟩;exact⟨a,h1,h2⟩
 ·rintro⟨a,h1,h2⟩;exact⟨_,⟨a,h1,rfl⟩,h2⟩
@[simp] theorem P9 {o:UnOp} (hx:x.ok=true):fS E (.un o x) d s K Q↔∃v,dm o (E.rd s.σ x)=some v∧K (s.put d v s.h) .none:=by
 rw[agE];simp[Env.op,dE hx]
 constructor
 ·rintro⟨r,⟨a,h1,rfl⟩,h2⟩;exact⟨a,h1,h2⟩
 ·rintro⟨a,h1,h2⟩;exact⟨_,⟨a,h1,rfl⟩,h2⟩
@[simp] theorem P_ {ng:Bool} {e:Le} (hx:x.ok=true) (hy:y.ok=true):fS E (.eq ng e x y) d s K Q↔∃v,uS e (E.rd s.σ x) (E.rd s.σ y)=some v∧K (s.put d (.bool (sX ng v)) s.h) .none:=by
 rw[agD];simp only[Env.op,dE hx,dE hy,bag,bai]
 constructor
 ·rintro⟨r,⟨a,h1,rfl⟩,h2⟩;exact⟨a,h1,h2⟩
 ·rintro⟨a,h1,h2⟩;exact⟨_,⟨a,h1,rfl⟩,h2⟩
@[simp] theorem u7 {i:Nat} (hx:x.ok=true):fS E (.extract x i) d s K Q↔∃v,cm i (E.rd s.σ x)=some v∧K (s.put d v s.h) .none:=by
 rw[II];simp only[Env.op,dE hx,bag]
 cases E.rd s.σ x<;>simp[cm]
 constructor
 ·rintro⟨r,⟨a,h1,rfl⟩,h2⟩;exact⟨a,h1,h2⟩
 ·rintro⟨a,h1,h2⟩;exact⟨_,⟨a,h1,rfl⟩,h2⟩
@[simp] theorem Dr (hx:x.ok=true) (hy:y.ok=true) (hz:z.ok=true):fS E (.pick x y z) d s K Q↔∃v,aL (E.rd s.σ x) (E.rd s.σ y) (E.rd s.σ z)=some v∧K (s.put d v s.h) .none:=by
 rw[Uo];simp only[Env.op,dE hx,dE hy,dE hz,bag]
 cases E.rd s.σ x<;>simp[aL]
 rename_i b;cases b<;>simp
@[simp] theorem IK {b:Bool} (hx:x.ok=true):fS E (.len b x) d s K Q↔∃r,aN b s.h (E.rd s.σ x)=some r∧K (s.put d r.v r.h) r.c:=by
 rw[abe];have:E.op s.σ s.h (.len b x)=(E.eM s.σ x).bind (aN b s.h):=rfl
 rw[this,dE hx];rfl
@[simp] theorem Ds {ag:Bool} {sz:Nat} (hx:x.ok=true):fS E (.load ag sz x) d s K Q↔∃r,bg s.h ag sz (E.rd s.σ x)=some r∧K (s.put d r.v r.h) r.c:=by
 rw[Up];simp[Env.op,dE hx]
@[simp] theorem Dt {c:CvT} (hx:x.ok=true):fS E (.conv c x) d s K Q↔∃r,di s.h c (E.rd s.σ x)=some r∧K (s.put d r.v r.h) r.c:=by
 rw[Uq];simp[Env.op,dE hx]
@[simp] theorem As {sz:Nat} (hx:x.ok=true) (hy:y.ok=true):fS E (.store sz x y) d s K Q↔∃r,bC s.h sz (E.rd s.σ x) (E.rd s.σ y)=some r∧K (s.put d r.v r.h) r.c:=by
 rw[SF];simp[Env.op,dE hx,dE hy]
@[simp] theorem u9 {sz:Nat} (hx:x.ok=true) (hy:y.ok=true):fS E (.cL sz x y) d s K Q↔∃v,aZ sz (E.rd s.σ x) (E.rd s.σ y)=some v∧K (s.put d v s.h) .none:=by
 rw[IH];simp[Env.op,dE hx,dE hy]
 constructor
 ·rintro⟨r,⟨a,h1,rfl⟩,h2⟩;exact⟨a,h1,h2⟩
 ·rintro⟨a,h1,h2⟩;exact⟨_,⟨a,h1,rfl⟩,h2⟩
@[simp] theorem xW {sz bt:Nat} (hx:x.ok=true) (hy:y.ok=true):fS E (.append sz bt x y) d s K Q↔∃r,b9 s.h sz bt (E.rd s.σ x) (E.rd s.σ y)=some r∧K (s.put d r.v r.h) r.c:=by
 rw[Lh];simp[Env.op,dE hx,dE hy]
@[simp] theorem u_ {t:TypeId} (hx:x.ok=true):fS E (.dU t x) d s K Q↔K (s.put d (.fN t (E.rd s.σ x)) s.h) .none:=by
 rw[IG];simp[Env.op,dE hx]
@[simp] theorem sZ (hx:x.ok=true):fS E (.nilCheck x) d s K Q↔∃v,Li (E.rd s.σ x)=some v∧K (s.put d v s.h) .none:=by
 rw[EV];simp only[Env.op,dE hx,bag]
 cases E.rd s.σ x<;>simp[Li]
 rename_i f _ _;cases f<;>simp
@[simp] theorem qx {o:Nat} (hx:x.ok=true):fS E (.fieldAddr o x) d s K Q↔∃v,au o (E.rd s.σ x)=some v∧K (s.put d v s.h) .none:=by
 rw[CS];simp only[Env.op,dE hx,bag]
 cases E.rd s.σ x<;>simp[au]
theorem IL (hx:x.ok=true):fS E (.cap x) d s K Q↔∃v,aa5 (E.rd s.σ x)=some v∧K (s.put d v s.h) .none:=by
 have e:fS E (.cap x) d s K Q=∃r,E.op s.σ s.h (.cap x)=some r∧K (s.put d r.v r.h) r.c:=rfl
 rw[e];simp only[Env.op,dE hx,bag,bai]
 constructor
 ·rintro⟨r,⟨a,h1,rfl⟩,h2⟩;exact⟨a,h1,h2⟩
 ·rintro⟨a,h1,h2⟩;exact⟨_,⟨a,h1,rfl⟩,h2⟩
theorem At (hx:x.ok=true):fS E (.range x) d s K Q↔∃t,E.rd s.σ x=.str t∧K (s.put d (.xO s.h.gg.length) (s.h.walk t)) .write:=by
 have e:fS E (.range x) d s K Q=∃r,E.op s.σ s.h (.range x)=some r∧K (s.put d r.v r.h) r.c:=rfl
 rw[e];simp only[Env.op,dE hx,bag]
 cases E.rd s.σ x<;>simp
theorem Du (hx:x.ok=true):fS E (.next x) d s K Q↔∃k r,E.rd s.σ x=.xO k∧uT s.h k=some r∧K (s.put d r.v r.h) r.c:=by
 have e:fS E (.next x) d s K Q=∃r,E.op s.σ s.h (.next x)=some r∧K (s.put d r.v r.h) r.c:=rfl
 rw[e];simp only[Env.op,dE hx,bag]
 cases E.rd s.σ x<;>simp
theorem Au {sz:Nat} {z:List AV} (hx:x.ok=true):fS E (.clear sz z x) d s K Q↔∃r,lE s.h sz z (E.rd s.σ x)=some r∧K (s.put d r.v r.h) r.c:=by
 have e:fS E (.clear sz z x) d s K Q=∃r,E.op s.σ s.h (.clear sz z x)=some r∧K (s.put d r.v r.h) r.c:=rfl
 rw[e];simp only[Env.op,dE hx,bag]
theorem Dv {sz:Nat} (hx:x.ok=true) (hy:y.ok=true):fS E (.copy sz x y) d s K Q↔∃r,xP s.h sz (E.rd s.σ x) (E.rd s.σ y)=some r∧K (s.put d r.v r.h) r.c:=by
 have e:fS E (.copy sz x y) d s K Q=∃r,E.op s.σ s.h (.copy sz x y)=some r∧K (s.put d r.v r.h) r.c:=rfl
 rw[e];simp only[Env.op,dE hx,dE hy,bag]
theorem vc {sz bt:Nat} {z:List AV} (hx:x.ok=true) (hy:y.ok=true):fS E (.kU sz bt z x y) d s K Q↔∃r,jr s.h sz bt z (E.rd s.σ x) (E.rd s.σ y)=some r∧K (s.put d r.v r.h) r.c:=by
 have e:fS E (.kU sz bt z x y) d s K Q=∃r,E.op s.σ s.h (.kU sz bt z x y)=some r∧K (s.put d r.v r.h) r.c:=rfl
 rw[e];simp only[Env.op,dE hx,dE hy,bag]
@[simp] theorem Av {z:List AV}:fS E (.alloc z) d s K Q↔K (s.put d (.ptr s.h.next 0 0) (s.h.new z)) .write:=by
 rw[SE];simp[Env.op]
end
theorem ai {f:Nat} {args:List AV} {h:Heap} {o:fC} (hs:WC E f args h (fun x=>x=o)) (K:fC→Prop):WC E f args h K↔K o:=by
 obtain⟨o',⟨n,hn⟩,rfl⟩:=hs
 constructor
 ·rintro⟨o2,⟨k,hk⟩,hq⟩
  have h1:=hn (max n k) (by omega)
  have h2:=hk (max n k) (by omega)
  rw[h1]at h2
  cases h2;exact hq
 ·intro hq;exact⟨o',⟨n,hn⟩,hq⟩
theorem SG {b:AC} {s:St} {Q:aU→St→Prop} (h:jK E b s (lF E b Q)):kz E b s Q:=Uk (il b s _ h)
theorem aC {b:AC} {s:St} {Q:aU→St→Prop} (h:∀b',b' =b→jK E b s (lF E b' Q)):kz E b s Q:=SG (h b rfl)
def Lj (E:Env) (rs:List ET) (Q:fC→Prop):aU→St→Prop
 |.norm,s|.ret,s=>∃vs,E.results s rs=some vs∧Q (.ret ⟨dX vs,s.h,.write⟩)
 |.panic v,s=>Q (.panic v s.h)
 |.exit _,_=>False
def xX (h:Heap) (v v' :AV):Prop:=∃n,∀m,n≤m→freeze h m v=some v'
def iB (E:Env) (rs:List ET) (h:Heap) (Q:fC→Prop):aU→St→Prop
 |.norm,s|.ret,s=>∃vs v,E.results s rs=some vs∧xX s.h (dX vs) v∧Q (.ret ⟨v,h,.none⟩)
 |_,_=>False
theorem ct {f:Nat} {af:aS} (hp:E.nU f=none) (hf:E.func f=some af) {args:List AV} {h:Heap} (hu:E.kO f=false∨AV.aj args=false) {Q:fC→Prop}
  (hb:jK E af.body ⟨ah.bbw 0 args .empty,h⟩ (Lj E af.results Q)):WC E f args h Q:=by
 refine aa9 hp hf hu ((il _ _ _ hb).mono fun e s hq=> ?_)
 cases e<;>exact hq
theorem ad {f:Nat} {af:aS} (hp:E.nU f=none) (hf:E.func f=some af) {args:List AV} {h:Heap} (hu:E.kO f=true) (hr:AV.aj args=true) {Q:fC→Prop}
  (hb:jK E af.body ⟨ah.bbw 0 args .empty,.empty⟩ (iB E af.results h Q)):WC E f args h Q:=by
 refine aa_ hp hf hu hr ((il _ _ _ hb).mono fun e s hq=> ?_)
 cases e with
 |norm=>obtain⟨vs,v,h1,⟨n,h2⟩,h3⟩:=hq;exact⟨vs,v,n,h1,h2 n (bab _),h2,h3⟩
 |ret=>obtain⟨vs,v,h1,⟨n,h2⟩,h3⟩:=hq;exact⟨vs,v,n,h1,h2 n (bab _),h2,h3⟩
 |panic v=>exact hq.elim
 |exit id=>exact hq.elim
@[simp] theorem Aw {b:Bool}:(AV.bool b).ae=true:=id rfl
@[simp] theorem Dw {k:IntKind} {n:Int}:(AV.int k n).ae=true:=id rfl
@[simp] theorem Dx {s:List UInt8}:(AV.str s).ae=true:=id rfl
@[simp] theorem Ax:(AV.gC).ae=true:=id rfl
@[simp] theorem Ay:(AV.ax).ae=true:=id rfl
@[simp] theorem Az:(AV.qt).ae=true:=id rfl
@[simp] theorem AA:(AV.qk).ae=true:=id rfl
@[simp] theorem AB:(AV.bL).ae=true:=id rfl
@[simp] theorem IM {cs:List AV}:(AV.fp cs).ae=AV.aj cs:=id rfl
@[simp] theorem IN {f:Bool} {n:Nat} {cs:List AV}:(AV.fs f n cs).ae=AV.aj cs:=id rfl
@[simp] theorem Dy {t:TypeId} {v:AV}:(AV.fN t v).ae=v.ae:=id rfl
@[simp] theorem Dz {cs:List AV}:(AV.aF cs).ae=AV.aj cs:=id rfl
@[simp] theorem AD:AV.aj []=true:=id rfl
@[simp] theorem xY {v:AV} {vs:List AV}:AV.aj (v::vs)=(v.ae&&AV.aj vs):=id rfl
@[simp] theorem dH {cs:List AV}:(AV.agg cs).row=some cs:=id rfl
theorem ay {hp:Heap} {v v' :AV} (h:v.ae=true):xX hp v v' ↔v=v' :=by
 constructor
 ·rintro⟨n,hn⟩
  have:=hn (n+1) (by omega)
  simp only[freeze,h,bae]at this
  exact this
 ·rintro rfl
  refine⟨1,fun m hm=> ?_⟩
  cases m with
  |zero=>omega
  |succ m=>simp only[freeze,h]
theorem xZ {h:Heap} {m:Nat}:∀(l:List AV),AV.aj l=true→l.mapM (freeze h (m+1))=some l
 |[],_=>rfl
 |v::l,hl=>by
  simp only[AV.aj,bau]at hl
  rw[bbn,xZ l hl.2];simp only[freeze,hl.1]
  rfl
theorem SH {h:Heap} {n id gen off sz len:Nat} {cap:Option Nat}:freeze h (n+1) (.sl id gen off sz len cap)=(h.at_ id gen).bind fun cs=>
  if off+len*sz≤cs.length then(((cs.drop off).take (len*sz)).mapM (freeze h n)).map (.fs (cap==some len) len)else none:=rfl
theorem AE {hp:Heap} {id gen off sz len:Nat} {cap:Option Nat} {cs:List AV} (hat:hp.at_ id gen=some cs) (hle:off+len*sz≤cs.length) (hn:AV.aj ((cs.drop off).take (len*sz))=true) {v:AV}:
  xX hp (.sl id gen off sz len cap) v↔v=.fs (cap==some len) len ((cs.drop off).take (len*sz)):=by
 have key:∀m,2≤m→freeze hp m (.sl id gen off sz len cap)=some (.fs (cap==some len) len ((cs.drop off).take (len*sz))):=by
  intro m hm;obtain⟨m,rfl⟩:∃k,m=k+2:=⟨m-2,by omega⟩
  rw[SH,hat,bag,if_pos hle,xZ _ hn];rfl
 constructor
 ·rintro⟨n,hn'⟩
  have:=hn' (n+2) (by omega)
  rw[key _ (by omega)]at this
  exact(Option.some.inj this).symm
 ·rintro rfl;exact⟨2,key⟩
def EW (h:Heap):List AV→List AV→Prop
 |[],vs=>vs=[]
 |v::l,vs=>∃a b,vs=a::b∧xX h v a∧EW h l b
theorem qy {h:Heap}:∀{l l' :List AV},EW h l l' →∃n,∀m,n≤m→l.mapM (freeze h m)=some l'
 |[],_,e=>by cases e;exact⟨0,fun m _=>rfl⟩
 |v::l,_,⟨a,b,e,⟨n,hn⟩,h2⟩=>by
  subst e;obtain⟨k,hk⟩:=qy h2
  refine⟨max n k,fun m hm=> ?_⟩
  rw[bbn,hn m (by omega),hk m (by omega)]
  rfl
theorem o9 {h:Heap} {l l' :List AV} (k:EW h l l'):xX h (.aF l) (.aF l'):=by
 cases hr:AV.ae (.aF l)with
 |true=>
  have:l=l' :=by
   simp only[AV.ae]at hr
   induction l generalizing l' with
   |nil=>exact Eq.symm k
   |cons v l ih=>
    obtain⟨a,b,rfl,ha,hb⟩:=k
    simp only[AV.aj,bau]at hr
    rw[(ay hr.1).1 ha,ih hb hr.2]
  subst this;exact(ay hr).2 rfl
 |false=>
  obtain⟨n,hn⟩:=qy k
  refine⟨n+1,fun m hm=> ?_⟩
  cases m with
  |zero=>omega
  |succ m=>simp only[freeze,hr,hn m (by omega),baq]
end
end Go.AM
namespace Go.AM
def AF (ordered:Bool) (x y:dB):Bool:=ordered||match x,y with
 |.none,_|_,.none|.read,.read=>true
 |_,_=>false
def EX (x:dB) (i:Nat):List dB→List Nat→Bool
 |y::ys,m::ms=>AF (Nat.testBit m i) x y&&EX x i ys ms
 |_,_=>true
def sd:Nat→List dB→List Nat→Bool
 |i,x::xs,_::ms=>EX x i xs ms&&sd (i+1) xs ms
 |_,_,_=>true
theorem EY {E:Env} {o:Bool} {hs:List Heap} {x y:aH×St×dB} (h:AF o x.2.2 y.2.2=true):E.apart o hs x y=true:=by
 unfold AF at h
 unfold Env.apart
 cases o
 ·simp only[Bool.false_or]at h⊢
  cases hx:x.2.2<;>cases hy:y.2.2<;>simp[hx,hy]at h⊢
 ·rfl
theorem AG {E:Env} {hs:List Heap} {x:aH×St×dB} {i:Nat}:∀{l:List (aH×St×dB)} {ms:List Nat},EX x.2.2 i (l.map fun y=>y.2.2) ms=true→E.gP hs x i l ms=true
 |[],_,_=>by simp[Env.gP]
 |_::_,[],_=>by simp[Env.gP]
 |y::l,m::ms,h=>by
  simp only[bba,EX,bau]at h
  simp only[Env.gP,bau]
  exact⟨EY h.1,AG h.2⟩
theorem x4 {E:Env} {hs:List Heap}:∀{l:List (aH×St×dB)} {ms:List Nat} {i:Nat},sd i (l.map fun y=>y.2.2) ms=true→E.gJ hs i l ms=true
 |[],_,_,_=>by simp[Env.gJ]
 |_::_,[],_,_=>by simp[Env.gJ]
 |y::l,m::ms,i,h=>by
  simp only[bba,sd,bau]at h
  simp only[Env.gJ,bau]
  exact⟨AG h.1,x4 h.2⟩
end Go.AM
namespace Go.AM
section
variable (E : Env)
def DA:List aH→St→(St→List dB→Prop)→Prop
 |[],s,Q=>Q s []
 |o::l,s,Q=>
  match o.guard with
  |none=>fS E o.op o.dst s (fun s' c=>DA l s' (fun s2 cs=>Q s2 (c::cs))) SD
  |some (t,w)=>∃b,An w (s.σ.get t)=.bool b∧(if b=w then fS E o.op o.dst s (fun s' c=>DA l s' (fun s2 cs=>Q s2 (c::cs))) SD
    else DA l (s.put o.dst .undef s.h) (fun s2 cs=>Q s2 (.none::cs)))
end
theorem nZ {E:Env} {op:jo} {d:Option Nat} {s:St} {K K' :St→dB→Prop} {Q:aU→St→Prop} (h:fS E op d s K Q) (hk:∀s c,K s c→K' s c):fS E op d s K' Q:=by
 cases op
 case call f args=>
  obtain⟨vs,h1,h2⟩:=h
  refine⟨vs,h1,h2.mono fun o=> ?_⟩
  cases o with
  |ret r=>exact hk _ _
  |panic v h=>exact fun x=>x
 case kr f args=>
  obtain⟨g,a,b,vs,h1,h2,h3⟩:=h
  refine⟨g,a,b,vs,h1,h2,h3.mono fun o=> ?_⟩
  cases o with
  |ret r=>exact hk _ _
  |panic v h=>exact fun x=>x
 case panic x=>exact h
 all_goals (obtain⟨r,h1,h2⟩:=h;exact⟨r,h1,hk _ _ h2⟩)
theorem zl {E:Env}:∀(l:List aH) (s:St) (Q:St→List dB→Prop),DA E l s Q→sY E l s (fun s' log=>Q s' (log.map fun y=>y.2.2))
 |[],s,Q,h=>h
 |⟨d,op,none⟩::l,s,Q,h=>by
  have h:fS E op d s (fun s' c=>DA E l s' (fun s2 cs=>Q s2 (c::cs))) SD:=h
  exact nZ (K' :=fun s' c=>sY E l s' (fun s2 log=>Q s2 (((⟨d,op,none⟩,s,c)::log).map fun(y:aH×St×dB)=>y.2.2))) h fun s' c x=>zl l s' _ x
 |⟨d,op,some (t,w)⟩::l,s,Q,h=>by
  obtain⟨b,hb,h⟩:=h
  refine⟨b,hb,?_⟩
  by_cases he:b=w
  ·rw[if_pos he]at h⊢
   exact nZ (K' :=fun s' c=>sY E l s' (fun s2 log=>Q s2 (((⟨d,op,some (t,w)⟩,s,c)::log).map fun(y:aH×St×dB)=>y.2.2))) h fun s' c x=>zl l s' _ x
  ·rw[if_neg he]at h⊢
   exact zl l _ _ h
def Lk (c:dB) (Q:St→List dB→Prop):St→List dB→Prop:=fun s2 cs=>Q s2 (c::cs)
def Us (E:Env) (l:List aH) (Q:St→List dB→Prop):St→dB→Prop:=fun s' c=>DA E l s' (Lk c Q)
def agG (E:Env) (op:jo) (d:Option Nat) (l:List aH) (s:St) (Q:St→List dB→Prop) (w:Bool):Bool→Prop:=fun b=>
 if b=w then fS E op d s (Us E l Q) SD else DA E l (s.put d .undef s.h) (Lk .none Q)
def Ut (b:List Nat) (Q:aU→St→Prop):St→List dB→Prop:=fun s' cs=>sd 0 cs b=true∧Q .norm s'
section
variable {E : Env} {s : St} {l : List aH} {d : Option Nat} {op : jo} {Q : St → List dB → Prop}
theorem Qa:DA E [] s Q=Q s []:=rfl
theorem IP:DA E (⟨d,op,none⟩::l) s Q=fS E op d s (Us E l Q) SD:=rfl
theorem qz {t:Nat} {w:Bool}:DA E (⟨d,op,some (t,w)⟩::l) s Q=∃b,An w (s.σ.get t)=.bool b∧agG E op d l s Q w b:=rfl
theorem AH {c:dB} {s' :St} {cs:List dB}:Lk c Q s' cs=Q s' (c::cs):=rfl
theorem x5 {b:List Nat} {Q:aU→St→Prop} {cs:List dB}:Ut b Q s cs=(sd 0 cs b=true∧Q .norm s):=rfl
end
section
variable {E : Env} {s : St} {l : List aH} {d : Option Nat} {op : jo} {t : Nat}
theorem Uu {Q:St→List dB→Prop} (h:s.σ.get t=.bool true):DA E (⟨d,op,some (t,true)⟩::l) s Q=fS E op d s (Us E l Q) SD:=by
 rw[qz,h,fV];exact propext ⟨fun⟨b,e,x⟩=>by cases e;exact x,fun x=>⟨true,rfl,x⟩⟩
theorem Uv {Q:St→List dB→Prop} (h:s.σ.get t=.bool false):DA E (⟨d,op,some (t,false)⟩::l) s Q=fS E op d s (Us E l Q) SD:=by
 rw[qz,h,fV];exact propext ⟨fun⟨b,e,x⟩=>by cases e;exact x,fun x=>⟨false,rfl,x⟩⟩
theorem Uw {Q:St→List dB→Prop} (h:s.σ.get t=.bool false):DA E (⟨d,op,some (t,true)⟩::l) s Q=DA E l (s.put d .undef s.h) (Lk .none Q):=by
 rw[qz,h,fV];exact propext ⟨fun⟨b,e,x⟩=>by cases e;exact x,fun x=>⟨false,rfl,x⟩⟩
theorem Ux {Q:St→List dB→Prop} (h:s.σ.get t=.bool true):DA E (⟨d,op,some (t,false)⟩::l) s Q=DA E l (s.put d .undef s.h) (Lk .none Q):=by
 rw[qz,h,fV];exact propext ⟨fun⟨b,e,x⟩=>by cases e;exact x,fun x=>⟨true,rfl,x⟩⟩
theorem Uy {Q:aU→St→Prop} (h:s.σ.get t=.bool true):rW E (⟨d,op,some (t,true)⟩::l) s Q=fS E op d s (Ix E l Q) Q:=by
 rw[qw,h,fV];exact propext ⟨fun⟨b,e,x⟩=>by cases e;exact x,fun x=>⟨true,rfl,x⟩⟩
theorem Uz {Q:aU→St→Prop} (h:s.σ.get t=.bool false):rW E (⟨d,op,some (t,false)⟩::l) s Q=fS E op d s (Ix E l Q) Q:=by
 rw[qw,h,fV];exact propext ⟨fun⟨b,e,x⟩=>by cases e;exact x,fun x=>⟨false,rfl,x⟩⟩
theorem UA {Q:aU→St→Prop} (h:s.σ.get t=.bool false):rW E (⟨d,op,some (t,true)⟩::l) s Q=rW E l (s.put d .undef s.h) Q:=by
 rw[qw,h,fV];exact propext ⟨fun⟨b,e,x⟩=>by cases e;exact x,fun x=>⟨false,rfl,x⟩⟩
theorem UB {Q:aU→St→Prop} (h:s.σ.get t=.bool true):rW E (⟨d,op,some (t,false)⟩::l) s Q=rW E l (s.put d .undef s.h) Q:=by
 rw[qw,h,fV];exact propext ⟨fun⟨b,e,x⟩=>by cases e;exact x,fun x=>⟨true,rfl,x⟩⟩
end
section
variable {E : Env} {s : St} {l : List aH} {d : Option Nat} {op : jo} {t : Nat} {w : Bool}
theorem AI {Q:St→List dB→Prop} (h:s.σ.get t=.undef):DA E (⟨d,op,some (t,w)⟩::l) s Q=DA E l (s.put d .undef s.h) (Lk .none Q):=by
 rw[qz,h];cases w<;>exact propext ⟨fun⟨b,e,x⟩=>by cases e;exact x,fun x=>⟨_,rfl,x⟩⟩
theorem aE {Q:aU→St→Prop} (h:s.σ.get t=.undef):rW E (⟨d,op,some (t,w)⟩::l) s Q=rW E l (s.put d .undef s.h) Q:=by
 rw[qw,h];cases w<;>exact propext ⟨fun⟨b,e,x⟩=>by cases e;exact x,fun x=>⟨_,rfl,x⟩⟩
end
def IsC (c:dB):Prop:=True
theorem iC (c:dB):IsC c=True:=id rfl
theorem IQ:IsC .none=True:=id rfl
theorem IS:IsC .read=True:=id rfl
theorem DB:IsC .write=True:=id rfl
theorem UC {E:Env} {l:List aH} {Q:aU→St→Prop} {s:St} {c:dB} (h:IsC c):Ix E l Q s c=rW E l s Q:=id rfl
theorem EZ {E:Env} {o:aH} {l:List aH} {s s' :St} {Q:St→List (aH×St×dB)→Prop} {c:dB} (h:IsC c):SC E o l s Q s' c=sY E l s' (Lg o s c Q):=id rfl
theorem UD {E:Env} {l:List aH} {Q:St→List dB→Prop} {s' :St} {c:dB} (h:IsC c):Us E l Q s' c=DA E l s' (Lk c Q):=id rfl
theorem aB {E:Env} {l:List aH} {bf:List Nat} {s:St} {Q:aU→St→Prop} (h:DA E l s (Ut bf Q)):jK E (.draw l bf) s Q:=by
 have x:=zl l s _ h
 have e:(fun(s' :St) (log:List (aH×St×dB))=>Ut bf Q s' (log.map fun y=>y.2.2))=(fun s' log=>sd 0 (log.map fun y=>y.2.2) bf=true∧Q .norm s'):=rfl
 rw[e]at x
 have mono:∀(l:List aH) (s:St) (P R:St→List (aH×St×dB)→Prop),(∀s log,P s log→R s log)→sY E l s P→sY E l s R:=by
  intro l
  induction l with
  |nil=>intro s P R hr h;exact hr _ _ h
  |cons o l ih=>
   obtain⟨d,op,g⟩:=o
   intro s P R hr h;cases g with
   |none=>
    have h:fS E op d s (fun s' c=>sY E l s' (fun s2 log=>P s2 ((⟨d,op,none⟩,s,c)::log))) SD:=h
    exact nZ (K' :=fun s' c=>sY E l s' (fun s2 log=>R s2 ((⟨d,op,none⟩,s,c)::log))) h fun s' c x=>ih s' _ _ (fun s2 log y=>hr _ _ y) x
   |some g=>
    obtain⟨t,w⟩:=g
    obtain⟨b,hb,h⟩:=h
    refine⟨b,hb,?_⟩
    by_cases he:b=w
    ·rw[if_pos he]at h⊢
     exact nZ (K' :=fun s' c=>sY E l s' (fun s2 log=>R s2 ((⟨d,op,some (t,w)⟩,s,c)::log))) h fun s' c x=>ih s' _ _ (fun s2 log y=>hr _ _ y) x
    ·rw[if_neg he]at h⊢
     exact ih _ _ _ (fun s2 log y=>hr _ _ y) h
 exact mono l s _ _ (fun s' log h=>⟨x4 h.1,h.2⟩) x
end Go.AM
namespace Go.AM
def CLe (C C' :eO):Prop:=∀f a h o,C f a h=some o→C' f a h=some o
section
variable {E : Env} {C C' : eO}
theorem agJ (hc:CLe C C') {σ:ah} {h:Heap} {op:jo} {o:fC} (e:E.act C σ h op=some o):E.act C' σ h op=some o:=by
 by_cases hp:op.calls=false
 ·rw[nY hp]at e⊢;exact e
 ·cases op<;>simp only[jo.calls,not_true_eq_false]at hp
  case call f args=>
   simp only[Env.act,bac]at e⊢
   obtain⟨l,h1,h2⟩:=e
   exact⟨l,h1,hc _ _ _ _ h2⟩
  case kr f args=>
   simp only[Env.act,bac]at e⊢
   obtain⟨fv,h1,h2⟩:=e
   refine⟨fv,h1,?_⟩
   cases fv with
   |fn g a b=>
    cases g with
    |func g=>
     simp only[bac]at h2⊢
     obtain⟨l,h3,h4⟩:=h2
     exact⟨l,h3,hc _ _ _ _ h4⟩
    |_=>cases h2
   |_=>cases h2
  case panic x=>exact e
theorem one_le (hc:CLe C C') {o:aH} {s:St} {r:St×dB×Option AV} (e:E.one C o s=some r):E.one C' o s=some r:=by
 unfold Env.one at e⊢
 cases hw:o.wanted s.σ with
 |true=>
  rw[hw]at e
  simp only[bai]at e⊢
  obtain⟨a,h1,h2⟩:=e
  exact⟨a,agJ hc h1,h2⟩
 |false=>rw[hw]at e;exact e
theorem UE (hc:CLe C C'):∀{l:List aH} {s:St} {r:aU×St},E.ops C l s=some r→E.ops C' l s=some r
 |[],_,_,e=>e
 |o::l,s,r,e=>by
  simp only[Env.ops,bac]at e⊢
  obtain⟨⟨s1,c,p⟩,h1,h2⟩:=e
  refine⟨_,one_le hc h1,?_⟩
  cases p with
  |none=>exact UE hc h2
  |some v=>exact h2
theorem DC (hc:CLe C C'):∀{l:List aH} {s:St} {r:St×List (aH×St×dB)},E.mY C l s=some r→E.mY C' l s=some r
 |[],_,_,e=>e
 |o::l,s,r,e=>by
  simp only[Env.mY,bac]at e⊢
  obtain⟨⟨s1,c,p⟩,h1,h2⟩:=e
  refine⟨_,one_le hc h1,?_⟩
  cases p with
  |none=>
   simp only[bai]at h2⊢
   obtain⟨x,h3,h4⟩:=h2
   exact⟨x,DC hc h3,h4⟩
  |some v=>exact h2
theorem Qb {f g:St→Option (aU×St)} (hf:∀s r,f s=some r→g s=some r):∀(n m:Nat),n≤m→∀{s:St} {r:aU×St},mj f n s=some r→mj g m s=some r
 |0,_,_,_,_,e=>by cases e
 |n+1,0,h,_,_,_=>by omega
 |n+1,m+1,h,s,r,e=>by
  simp only[mj,bac]at e⊢
  obtain⟨⟨x,s1⟩,h1,h2⟩:=e
  refine⟨_,hf _ _ h1,?_⟩
  cases x with
  |norm=>exact Qb hf n m (by omega) h2
  |_=>exact h2
theorem o_ (hc:CLe C C') {n m:Nat} (hn:n≤m):∀{c:AC} {s:St} {r:aU×St},E.code C n c s=some r→E.code C' m c s=some r
 |.skip,_,_,e=>e
 |.ops l,_,_,e=>UE hc e
 |.draw l b,s,r,e=>by
  simp only[Env.code,Env.Dh,bac]at e⊢
  obtain⟨x,h1,h2⟩:=e
  exact⟨x,DC hc h1,h2⟩
 |.seq a b,s,r,e=>by
  simp only[Env.code,bac]at e⊢
  obtain⟨⟨x,s1⟩,h1,h2⟩:=e
  refine⟨_,o_ hc hn h1,?_⟩
  cases x with
  |norm=>exact o_ hc hn h2
  |_=>exact h2
 |.cond c x y,s,r,e=>by
  simp only[Env.code,bac]at e⊢
  obtain⟨v,h1,h2⟩:=e
  refine⟨v,h1,?_⟩
  cases v with
  |bool b=>cases b<;>exact o_ hc hn h2
  |_=>cases h2
 |.block id b,s,r,e=>by
  simp only[Env.code,bai]at e⊢
  obtain⟨x,h1,h2⟩:=e
  exact⟨x,o_ hc hn h1,h2⟩
 |.loop b,s,r,e=>by
  simp only[Env.code]at e⊢
  exact Qb (fun s r h=>o_ (c:=b) hc hn h) n m hn e
 |.exit id,_,_,e=>e
 |.scope b,s,r,e=>by
  simp only[Env.code]at e⊢
  exact o_ hc hn e
 |.ret,_,_,e=>e
 |.bad,_,_,e=>by cases e
theorem pa {α β:Type} {f g:α→Option β} (h:∀a b,f a=some b→g a=some b):∀{l:List α} {r:List β},l.mapM f=some r→l.mapM g=some r
 |[],_,e=>e
 |a::l,r,e=>by
  rw[bbn]at e⊢
  simp only[bap,bam,jaa]at e⊢
  obtain⟨b,h1,bs,h2,h3⟩:=e
  exact⟨b,h a b h1,bs,pa h h2,h3⟩
theorem DD {h:Heap}:∀(n m:Nat),n≤m→∀{v u:AV},freeze h n v=some u→freeze h m v=some u
 |0,_,_,_,_,e=>by cases e
 |n+1,0,hn,_,_,_=>by omega
 |n+1,m+1,hn,v,u,e=>by
  have ih:∀a b,freeze h n a=some b→freeze h m a=some b:=fun a b e=>DD n m (by omega) e
  unfold freeze at e⊢
  cases hr:v.ae with
  |true=>rw[hr]at e;exact e
  |false=>
   rw[hr]at e
   dsimp only at e⊢
   cases v<;>simp only[reduceCtorEq,jac]at e⊢
   case ptr=>obtain⟨cs,h1,x,h2,h3⟩:=e;exact⟨cs,h1,x,pa ih h2,h3⟩
   case sl=>
    obtain⟨cs,h1,h2⟩:=e
    refine⟨cs,h1,?_⟩
    split at h2
    ·rename_i hle
     rw[if_pos hle];simp only[bai]at h2⊢
     obtain⟨x,h3,h4⟩:=h2
     exact⟨x,pa ih h3,h4⟩
    ·cases h2
   case fp=>obtain⟨x,h2,h3⟩:=e;exact⟨x,pa ih h2,h3⟩
   case fs=>obtain⟨x,h2,h3⟩:=e;exact⟨x,pa ih h2,h3⟩
   case fN=>obtain⟨x,h2,h3⟩:=e;exact⟨x,ih _ _ h2,h3⟩
   case agg=>obtain⟨x,h2,h3⟩:=e;exact⟨x,pa ih h2,h3⟩
   case aF=>obtain⟨x,h2,h3⟩:=e;exact⟨x,pa ih h2,h3⟩
theorem E0 (hc:CLe C C') {n m:Nat} (hn:n≤m) {fn:aS} {args:List AV} {h:Heap} {o:fC} (e:E.body C n fn args h=some o):E.body C' m fn args h=some o:=by
 simp only[Env.body,bac]at e⊢
 obtain⟨x,h1,h2⟩:=e
 exact⟨x,o_ hc hn h1,h2⟩
theorem Qc:∀(n m:Nat),n≤m→CLe (E.call n) (E.call m)
 |0,_,_=>fun f a h o e=>by cases e
 |n+1,0,hn=>by omega
 |n+1,m+1,hn=>by
  have ih:=Qc n m (by omega)
  intro f a h o e;simp only[Env.call]at e⊢
  cases hp:E.nU f with
  |some p=>rw[hp]at e;exact e
  |none=>
   rw[hp]at e
   simp only[bac]at e⊢
   obtain⟨fn,h1,h2⟩:=e
   refine⟨fn,h1,?_⟩
   cases hu:E.kO f with
   |false=>rw[hu]at h2;exact E0 ih (by omega) h2
   |true=>
    rw[hu]at h2
    cases hr:AV.aj a with
    |false=>rw[hr]at h2;exact E0 ih (by omega) h2
    |true=>
     rw[hr]at h2
     simp only[bac]at h2⊢
     obtain⟨x,h3,h4⟩:=h2
     refine⟨x,E0 ih (by omega) h3,?_⟩
     cases x with
     |panic v h' =>cases h4
     |ret r=>
      simp only[bai]at h4⊢
      obtain⟨u,h5,h6⟩:=h4
      exact⟨u,DD n m (by omega) h5,h6⟩
theorem bu {n f:Nat} {args:List AV} {h:Heap} {o:fC} (e:E.call n f args h=some o):WC E f args h (fun x=>x=o):=
 ⟨o,⟨n,fun m hm=>Qc n m hm _ _ _ _ e⟩,rfl⟩
theorem DE {f:Nat} {args:List AV} {h:Heap} {Q:fC→Prop} (k:WC E f args h Q):∃n o,E.call n f args h=some o∧Q o:=by
 obtain⟨o,⟨n,hn⟩,hq⟩:=k
 exact⟨n,o,hn n (bab _),hq⟩
end
end Go.AM
namespace Go.AM
def Ll (h:Heap) (sz:Nat) (v:AV) (a b c:Option AV):Option AV→Option cB
 |some v' =>some ⟨v',h,.none⟩
 |none=>jq h sz v a b c
theorem x6 {h:Heap} {sz:Nat} {v v' :AV} {a b c:Option AV}:Ll h sz v a b c (some v')=some ⟨v',h,.none⟩:=id rfl
theorem IT {h:Heap} {sz:Nat} {v:AV} {a b c:Option AV}:Ll h sz v a b c none=jq h sz v a b c:=id rfl
section
variable {E : Env} {σ : ah} {h : Heap}
@[simp] theorem IU {sz:Nat} {x:eN} {lo hi mx:Option eN}:E.op σ h (.slice sz x lo hi mx)=(E.eM σ x).bind fun v=>(E.kV σ lo).bind fun a=>(E.kV σ hi).bind fun b=>(E.kV σ mx).bind fun c=>Ll h sz v a b c (cU sz v a b c):=by
 simp only[Env.op]
 cases E.eM σ x with
 |none=>rfl
 |some v=>
  cases E.kV σ lo with
  |none=>rfl
  |some a=>
   cases E.kV σ hi with
   |none=>rfl
   |some b=>
    cases E.kV σ mx with
    |none=>rfl
    |some c=>
     simp only[bag]
     cases cU sz v a b c<;>rfl
@[simp] theorem UF {fr : Bool} {sz len : Nat} {cells : List AV} {ps : List (Nat × Nat × eN)} : E.op σ h (.lit fr sz len cells ps) = (E.parts σ ps).bind fun l => (bY cells l).bind fun cs => if cs.length = len * sz then
      match fr with
      | true => some ⟨.fs true len cs, h,.none⟩
      | false => some ⟨.sl h.next 0 0 sz len (some len), h.new cs,.write⟩
    else none := rfl
@[simp] theorem IV {z:List AV} {ps:List (Nat×Nat×eN)}:E.op σ h (.build z ps)=(E.parts σ ps).bind fun l=>(bY z l).map fun cs=>⟨.agg cs,h,.none⟩:=rfl
@[simp] theorem UG {fr : Bool} {sz : Nat} {x : eN} : E.op σ h (.box fr sz x) = (E.eM σ x).bind fun v => v.row.bind fun vs => if vs.length = sz then
      match fr with
      | true => some ⟨.fp vs, h,.none⟩
      | false => some ⟨.ptr h.next 0 0, h.new vs,.write⟩
    else none := rfl
@[simp] theorem DF:E.kV σ none=some none:=rfl
@[simp] theorem DG {x:eN}:E.kV σ (some x)=(E.eM σ x).map some:=rfl
@[simp] theorem IW:E.nV σ []=some []:=rfl
@[simp] theorem DH {x:eN} {xs:List eN}:E.nV σ (x::xs)=(E.eM σ x).bind fun v=>(E.nV σ xs).map fun vs=>v::vs:=rfl
@[simp] theorem DI:E.parts σ []=some []:=rfl
@[simp] theorem AJ {i s:Nat} {x:eN} {xs:List (Nat×Nat×eN)}:E.parts σ ((i,s,x)::xs)=(E.eM σ x).bind fun v=>(E.parts σ xs).map fun vs=>(i,s,v)::vs:=rfl
end
def AV.own:AV→Option Nat
 |.sl id _ _ _ _ _=>some id
 |_=>none
inductive Bytes (h:Heap):AV→List UInt8→Prop
 |ax:Bytes h .ax []
 |fs (full:Bool) (bs:List UInt8):Bytes h (.fs full bs.length (bs.map bK)) bs
 |sl (id gen off:Nat) (cap:Option Nat) (cs:List AV) (bs:List UInt8) (hat:h.at_ id gen=some cs) (hle:off+bs.length≤cs.length) (hc:(cs.drop off).take bs.length=bs.map bK) (r9:∀c,cap=some c→bs.length≤c):
   Bytes h (.sl id gen off 1 bs.length cap) bs
@[simp] theorem CT (b:UInt8):toByte (bK b)=some b:=by
 simp[toByte,bK]
theorem x7:∀(bs:List UInt8),(bs.map bK).mapM toByte=some bs
 |[]=>rfl
 |b::bs=>by
  rw[bba,bbn,x7 bs,CT];rfl
section
variable {h : Heap} {v : AV} {bs : List UInt8}
theorem Bytes.len (k:Bytes h v bs):cr v=some bs.length:=by
 cases k<;>rfl
theorem Bytes.cells (k:Bytes h v bs):∃c,c≠ .write∧aT h 1 bs.length v=some (bs.map bK,c):=by
 cases k with
 |ax=>exact⟨.none,by simp,rfl⟩
 |fs full=>exact⟨.none,by simp,by simp[aT,bar]⟩
 |sl id gen off cap cs _ hat hle hc r9=>exact⟨.read,by simp,by simp[aT,hat,hle,hc]⟩
theorem Bytes.Ld (k:Bytes h v bs):∃c,c≠ .write∧di h .Ld v=some ⟨.str bs,h,c⟩:=by
 obtain⟨c,hc,hs⟩:=k.cells
 refine⟨c,hc,?_⟩
 have hl:=k.len;have:di h .Ld v=(cr v).bind fun n=>(aT h 1 n v).bind fun(cs,k)=>(cs.mapM toByte).map fun bs=>⟨.str bs,h,k⟩:=by
  cases k<;>rfl
 rw[this,hl,bag,hs];simp only[x7,jab]
def Heap.le (h h' :Heap):Prop:=h.next≤h'.next∧∀id gen cs,h.at_ id gen=some cs→h'.at_ id gen=some cs
end
theorem DJ {y:Nat} {k:IntKind} {i:Nat} (h1:i≤y):lD y (.int k i)=some i:=by
 have h0:(0:Int)≤i:=Int.natCast_nonneg i
 have h2:(i:Int)≤y:=by exact_mod_cast h1
 simp[lD,h0,h2]
theorem qA {len cap l:Nat} {k:IntKind} (h1:l≤len):bounds len cap (some (.int k l)) none none=some (l,len,cap):=by
 simp[bounds,DJ h1]
theorem DK {len cap u:Nat} {k:IntKind} (h1:u≤cap):bounds len cap none (some (.int k u)) none=some (0,u,cap):=by
 simp[bounds,DJ h1]
theorem AK {α:Type} (cs:List α) (off n l u:Nat) (h1:l≤u) (h2:u≤n):(cs.drop (off+l)).take (u-l)=(((cs.drop off).take n).drop l).take (u-l):=by
 rw[List.drop_take,List.take_take,List.drop_drop]
 congr 1
 omega
section
variable {h : Heap} {v : AV} {bs : List UInt8}
def IX (full:Bool) (n u m:Nat):Option AV→Bool
 |some _=>m==u
 |none=>full&&u==n
theorem SI {sz n l u m:Nat} {full:Bool} {cs:List AV} {lo hi mx:Option AV} (hl:cs.length=n*sz) (hm:bounds n n lo hi mx=some (l,u,m)):
  cU sz (.fs full n cs) lo hi mx=some (.fs (IX full n u m mx) (u-l) ((cs.drop (l*sz)).take ((u-l)*sz))):=by
 unfold cU
 dsimp only;rw[if_pos hl,hm];cases mx<;>rfl
theorem Bytes.part (k:Bytes h v bs) {lo hi mx:Option AV} {l u:Nat} (h1:l≤u) (h2:u≤bs.length)
  (hb:∀cap,bs.length≤cap→∃m,u≤m∧m≤cap∧bounds bs.length cap lo hi mx=some (l,u,m)):
  ∃v',cU 1 v lo hi mx=some v' ∧Bytes h v' ((bs.drop l).take (u-l)):=by
 have hlen:((bs.drop l).take (u-l)).length=u-l:=by simp;omega
 cases k with
 |ax=>
  obtain⟨m,m1,m2,hm⟩:=hb 0 (by simp)
  simp only[List.length_nil]at hm
  refine⟨.ax,by simp[cU,hm],?_⟩
  simp only[List.drop_nil,List.take_nil]
  exact .ax
 |fs full=>
  obtain⟨m,m1,m2,hm⟩:=hb bs.length (bab _)
  have hs:=SI (sz:=1) (full:=full) (cs:=bs.map bK) (by simp) hm
  refine⟨_,hs,?_⟩
  have:=Bytes.fs (h:=h) (IX full bs.length u m mx) ((bs.drop l).take (u-l))
  rw[hlen]at this
  simpa[List.map_take,List.map_drop]using this
 |sl id gen off cap cs _ hat hle hc r9=>
  have key:∀cap',(∀c,cap' =some c→u-l≤c)→Bytes h (.sl id gen (off+l*1) 1 (u-l) cap') ((bs.drop l).take (u-l)):=by
   intro cap' hcap';have:=Bytes.sl (h:=h) id gen (off+l*1) cap' cs ((bs.drop l).take (u-l)) hat (by rw[hlen];omega) (by
    rw[hlen,Nat.mul_one,AK cs off bs.length l u h1 h2,hc];simp[List.map_take,List.map_drop]) (by rw[hlen];exact hcap')
   rw[hlen]at this
   exact this
  cases cap with
  |some c=>
   obtain⟨m,m1,m2,hm⟩:=hb c (r9 c rfl)
   have hs:cU 1 (.sl id gen off 1 bs.length (some c)) lo hi mx=some (.sl id gen (off+l*1) 1 (u-l) (some (m-l))):=by
    unfold cU
    dsimp only;rw[if_pos rfl,hm];rfl
   exact⟨_,hs,key _ (fun c' e=>by simp only[bae]at e;omega)⟩
  |none=>
   obtain⟨m,m1,m2,hm⟩:=hb bs.length (bab _)
   have hs:cU 1 (.sl id gen off 1 bs.length none) lo hi mx=some (.sl id gen (off+l*1) 1 (u-l) (mx.map fun _=>m-l)):=by
    unfold cU
    dsimp only;rw[if_pos rfl,hm];rfl
   refine⟨_,hs,key _ (fun c' e=> ?_)⟩
   cases mx with
   |none=>cases e
   |some x=>simp only[baq,bae]at e;omega
theorem Bytes.from (k:Bytes h v bs) {kd:IntKind} {l:Nat} (h1:l≤bs.length):∃v',cU 1 v (some (.int kd l)) none none=some v' ∧Bytes h v' (bs.drop l):=by
 obtain⟨v',g1,g2⟩:=k.part (lo:=some (.int kd l)) (hi:=none) (mx:=none) h1 (bab _) (fun cap hc=>⟨cap,hc,bab _,qA h1⟩)
 refine⟨v',g1,?_⟩
 rwa [bar (by simp)]at g2
theorem Bytes.to (k:Bytes h v bs) {kd:IntKind} {u:Nat} (h1:u≤bs.length):∃v',cU 1 v none (some (.int kd u)) none=some v' ∧Bytes h v' (bs.take u):=by
 obtain⟨v',g1,g2⟩:=k.part (lo:=none) (hi:=some (.int kd u)) (mx:=none) (l:=0) (Nat.zero_le _) h1 (fun cap hc=>⟨cap,by omega,bab _,DK (by omega)⟩)
 exact⟨v',g1,by simpa using g2⟩
theorem Bytes.elem (k:Bytes h v bs) {kd:IntKind} {i:Nat} (hi:i<bs.length):∃p c,aZ 1 v (.int kd i)=some p∧bg h false 1 p=some ⟨bK (bs.getD i 0),h,c⟩∧c≠ .write:=by
 have bct:c_ bs.length (.int kd i)=some i:=by
  have h0:(0:Int)≤i:=Int.natCast_nonneg i
  have h2:(i:Int)<bs.length:=by exact_mod_cast hi
  simp[c_,h0,h2]
 have bcm:bs[i]? =some (bs.getD i 0):=by
  rw[List.getD_eq_getElem?_getD,bbq hi];rfl
 cases k with
 |ax=>simp at hi
 |fs full=>
  cases hbs:bs.map bK with
  |nil=>simp at hbs;subst hbs;simp at hi
  |cons a l=>
   refine⟨.fp ((bs.map bK).drop (i*1)),.none,by simp[aZ,hbs,bct],?_,by simp⟩
   simp only[bg,bp,Nat.mul_one,List.head?_drop,List.getElem?_map,bcm,baq]
 |sl id gen off cap cs _ hat hle hc r9=>
  refine⟨.ptr id gen (off+i*1),.read,by simp[aZ,bct],?_,by simp⟩
  have:cs[off+i]? =some (bK (bs.getD i 0)):=by
   have h3:((cs.drop off).take bs.length)[i]? =some (bK (bs.getD i 0)):=by
    rw[hc,List.getElem?_map,bcm];rfl
   rw[List.getElem?_take,if_pos hi,List.getElem?_drop]at h3
   exact h3
  simp only[bg,hat,bp,Nat.mul_one,List.head?_drop,this,jab]
end
def an (h:Heap):Prop:=∀id,h.next≤id→h.look id=none
theorem an.empty:an .empty:=fun id _=>rfl
theorem cJ {h:Heap} {id gen:Nat} {cs:List AV}:h.at_ id gen=some cs↔h.look id=some ⟨gen,cs⟩:=by
 unfold Heap.at_ Heap.look
 constructor
 ·intro e
  cases ho:h.tr.get id with
  |none=>rw[ho]at e;cases e
  |some o=>
   rw[ho]at e
   dsimp only at e
   cases hb:Nat.beq o.gen gen with
   |false=>rw[hb]at e;cases e
   |true=>
    rw[hb]at e
    have:=Nat.eq_of_beq_eq_true hb
    obtain⟨g,c⟩:=o
    cases this;cases e;rfl
 ·intro e
  rw[e];dsimp only;rw[Nat.beq_refl]
theorem gx (h:Heap) (cs:List AV) (id:Nat):(h.new cs).look id=if id=h.next then some ⟨0,cs⟩else h.look id:=by
 simp only[Heap.look,Heap.new,Tr.o4]
theorem eZ (h:Heap) (id gen:Nat) (cs:List AV) (id' :Nat):(h.cD id gen cs).look id' =if id' =id then some ⟨gen,cs⟩else h.look id' :=by
 simp only[Heap.look,Heap.cD,Tr.o4]
theorem an.new {h:Heap} (k:an h) (cs:List AV):an (h.new cs):=by
 intro id hid;have h1:Nat.succ h.next≤id:=hid
 rw[gx,if_neg (by omega)]
 exact k id (by omega)
theorem an.cD {h:Heap} (k:an h) {id:Nat} {o:SA} (hl:h.look id=some o) (gen:Nat) (cs:List AV):an (h.cD id gen cs):=by
 intro id' hid;have h1:h.next≤id' :=hid
 rw[eZ,if_neg (fun e=>by subst e;rw[k _ h1]at hl;cases hl)]
 exact k id' h1
theorem cz {h:Heap} (k:an h) (cs:List AV):h.le (h.new cs):=by
 refine⟨Nat.le_succ _,fun id gen cs' hat=> ?_⟩
 rw[cJ]at hat⊢
 rw[gx,if_neg (fun e=>by subst e;rw[k _ (bab _)]at hat;cases hat)]
 exact hat
theorem aY {h:Heap} (cs:List AV):(h.new cs).at_ h.next 0=some cs:=by
 rw[cJ,gx,if_pos rfl]
theorem Heap.le_refl (h:Heap):h.le h:=⟨bab _,fun _ _ _ e=>e⟩
theorem Heap.le_trans {a b c:Heap} (h:a.le b) (k:b.le c):a.le c:=⟨bal h.1 k.1,fun id gen cs e=>k.2 id gen cs (h.2 id gen cs e)⟩
theorem Qd {f:Bool} {n:Nat} {cs:List AV}:cr (.fs f n cs)=some n:=rfl
theorem DL:cr .ax=some 0:=rfl
theorem zo {a b c d e:Nat} {f:Option Nat}:cr (.sl a b c d e f)=some e:=rfl
inductive Acc (h:Heap) (sz:Nat):AV→List AV→Prop
 |ax:Acc h sz .ax []
 |full (n:Nat) (cells:List AV) (hl:cells.length=n*sz):Acc h sz (.fs true n cells) cells
 |sl (id gen n:Nat) (cells:List AV) (hat:h.at_ id gen=some cells) (hl:cells.length=n*sz):Acc h sz (.sl id gen 0 sz n none) cells
def Heap.kP (o:Option Nat) (h h' :Heap):Prop:=h.next≤h'.next∧∀id gen cs,o≠some id→h.at_ id gen=some cs→h'.at_ id gen=some cs
theorem Heap.le.but {h h' :Heap} (k:h.le h') (o:Option Nat):Heap.kP o h h' :=⟨k.1,fun id gen cs _ e=>k.2 id gen cs e⟩
theorem an.lt {h:Heap} (k:an h) {id gen:Nat} {cs:List AV} (e:h.at_ id gen=some cs):id<h.next:=by
 rw[cJ]at e
 apply Nat.lt_of_not_le
 intro hle;rw[k id hle]at e;cases e
theorem Acc.len {h:Heap} {sz:Nat} {x:AV} {cells:List AV} (k:Acc h sz x cells):∃n,cr x=some n∧cells.length=n*sz:=by
 cases k with
 |ax=>exact⟨0,rfl,by simp⟩
 |full n _ hl=>exact⟨n,rfl,hl⟩
 |sl id gen n _ hat hl=>exact⟨n,rfl,hl⟩
theorem Acc.UH {h:Heap} {sz:Nat} {x:AV} {cells:List AV} (ho:an h) (k:Acc h sz x cells) {id:Nat} (e:x.own=some id):id<h.next:=by
 cases k with
 |ax=>cases e
 |full=>cases e
 |sl id' gen n _ hat hl=>cases e;exact ho.lt hat
theorem Acc.append {h:Heap} (ho:an h) {sz bt m n:Nat} (hsz:0<sz) {x y:AV} {cells new:List AV} {c:dB} (k:Acc h sz x cells) (hm:cr x=some m) (hy:cr y=some n) (hc:aT h sz n y=some (new,c))
  (hn:new.length=n*sz) (hb:(m+n)*bt≤70368744177664) (hb2:m+n≤70368744177664):
  ∃x' h' c',b9 h sz bt x y=some ⟨x',h',c'⟩∧Acc h' sz x' (cells++new)∧Heap.kP x.own h h' ∧an h' ∧(∀id,x'.own=some id→x.own=some id∨h.next≤id)∧cr x' =some (m+n):=by
 by_cases h0:n=0
 ·subst h0
  have hnew:new=[]:=bay.1 (by simpa using hn)
  subst hnew;refine⟨x,h,.none,?_,by simpa using k,⟨bab _,fun _ _ _ _ e=>e⟩,ho,fun id e=>.inl e,by simpa using hm⟩
  cases k<;>(unfold b9;rw[hy,bag,hm,bag,if_pos ⟨hb,hb2,hsz⟩,if_pos rfl])
 ·have grow:∀(old:List AV) (c2:dB),aT h sz m x=some (old,c2)→old=cells→x.own=none∨True→
    Acc (h.new (old++new)) sz (.sl h.next 0 0 sz (m+n) none) (cells++new)∧Heap.kP x.own h (h.new (old++new))∧an (h.new (old++new))∧
    (∀id,(AV.sl h.next 0 0 sz (m+n) none).own=some id→x.own=some id∨h.next≤id):=by
   rintro old c2 hs rfl _
   obtain⟨m',hm',hlc⟩:=k.len
   rw[hm]at hm'
   cases hm';refine⟨.sl _ _ _ _ (aY _) (by rw[ban,hlc,hn,Nat.add_mul]),(cz ho _).but _,ho.new _,fun id e=>.inr ?_⟩
   simp only[AV.own,bae]at e
   omega
  cases k with
  |ax=>
   simp only[DL,bae]at hm
   subst hm;obtain⟨g1,g2,g3,g4⟩:=grow [] .none (by simp[aT]) rfl (.inr trivial)
   refine⟨_,_,.write,?_,g1,g2,g3,g4,rfl⟩
   unfold b9
   rw[hy,bag,DL,bag,if_pos ⟨hb,hb2,hsz⟩,if_neg h0,hc];simp[aT]
  |full m' _ hl=>
   simp only[Qd,bae]at hm
   subst hm;have hs:aT h sz m' (.fs true m' cells)=some (cells,.none):=by
    simp[aT,hl,bar]
   obtain⟨g1,g2,g3,g4⟩:=grow cells .none hs rfl (.inr trivial)
   refine⟨_,_,.write,?_,g1,g2,g3,g4,rfl⟩
   unfold b9
   rw[hy,bag,Qd,bag,if_pos ⟨hb,hb2,hsz⟩,if_neg h0,hc];simp[hs]
  |sl id gen m' _ hat hl=>
   simp only[zo,bae]at hm
   subst hm;have bcn:0<n*sz:=Nat.mul_pos (by omega) hsz
   have hno:¬(0+(m' +n)*sz≤cells.length):=by
    rw[hl,Nat.add_mul];omega
   have hlk:h.look id=some ⟨gen,cells⟩:=cJ.1 hat
   refine⟨.sl id (Nat.succ gen) 0 sz (m' +n) none,h.cD id (Nat.succ gen) (cells.drop 0++new),.write,?_,?_,?_,ho.cD hlk _ _,fun id' e=>.inl e,rfl⟩
   ·unfold b9
    rw[hy,bag,zo,bag,if_pos ⟨hb,hb2,hsz⟩,if_neg h0,hc];simp only[bag,if_true,hat]
    rw[if_neg hno,if_pos (by rw[hl];omega)]
   ·refine .sl _ _ _ _ ?_ (by rw[ban,hl,hn,Nat.add_mul])
    rw[cJ,eZ,if_pos rfl];rfl
   ·refine⟨bab _,fun id' gen' cs' hne e=> ?_⟩
    rw[cJ]at e⊢
    rw[eZ,if_neg (fun he=>hne (by rw[he];rfl))]
    exact e
theorem Bytes.kP {h h' :Heap} {v:AV} {bs:List UInt8} {o:Option Nat} (k:Bytes h v bs) (hl:Heap.kP o h h') (hne:∀id,v.own=some id→o≠some id):Bytes h' v bs:=by
 cases k with
 |ax=>exact .ax
 |fs full=>exact .fs full _
 |sl id gen off cap cs _ hat hle hc r9=>exact .sl id gen off cap cs _ (hl.2 _ _ _ (hne id rfl) hat) hle hc r9
theorem Bytes.UH {h:Heap} {v:AV} {bs:List UInt8} (ho:an h) (k:Bytes h v bs) {id:Nat} (e:v.own=some id):id<h.next:=by
 cases k with
 |ax=>cases e
 |fs=>cases e
 |sl id' gen off cap cs _ hat hle hc r9=>cases e;exact ho.lt hat
theorem Acc.le {h h' :Heap} {sz:Nat} {x:AV} {cells:List AV} (k:Acc h sz x cells) (hl:h.le h'):Acc h' sz x cells:=by
 cases k with
 |ax=>exact .ax
 |full n _ hl=>exact .full n _ hl
 |sl id gen n _ hat hl' =>exact .sl id gen n _ (hl.2 _ _ _ hat) hl'
end Go.AM
namespace Go.AM
theorem bD {h:Heap} {id gen:Nat} {cs:List AV}:(h.cD id gen cs).at_ id gen=some cs:=by
 rw[cJ,eZ,if_pos rfl]
theorem cw {h:Heap} {id gen id' gen' :Nat} {cs:List AV} (hne:id' ≠id):(h.cD id gen cs).at_ id' gen' =h.at_ id' gen' :=by
 cases ha:h.at_ id' gen' with
 |some c=>rw[cJ]at ha⊢;rw[eZ,if_neg hne];exact ha
 |none=>
  cases hb:(h.cD id gen cs).at_ id' gen' with
  |none=>rfl
  |some c=>
   rw[cJ,eZ,if_neg hne]at hb
   rw[cJ.2 hb]at ha;cases ha
theorem wrap_small {n:Nat} (h:n<9223372036854775808):IntKind.wrap .i64 (n:Int)=n:=by
 have h0:(0:Int)≤n:=Int.natCast_nonneg n
 have h1:(n:Int)<9223372036854775808:=by omega
 have e:(n:Int) % 18446744073709551616=n:=by omega
 show(if(true&&decide ((n:Int) % 18446744073709551616≥9223372036854775808))=true then(n:Int) % 18446744073709551616-18446744073709551616 else(n:Int) % 18446744073709551616)=n
 rw[e,if_neg];simp only[bbb,decide_eq_true_eq]
 omega
theorem aX {e:Int} {n:Nat} (h:e=n) (hn:n<9223372036854775808):IntKind.wrap .i64 e=n:=by
 rw[h];exact wrap_small hn
theorem Acc.mo {h:Heap} {sz n:Nat} {x:AV} {cells:List AV} (k:Acc h sz x cells) (e:cr x=some n) (h2:Heap):aN false h2 x=some ⟨.int .i64 n,h2,.none⟩:=by
 cases k<;>(cases e;rfl)
theorem Acc.row {h:Heap} {sz:Nat} {x:AV} {cells:List AV} (k:Acc h sz x cells):x.row=some [x]:=by
 cases k<;>rfl
def jL (S:Nat→Prop) (h h' :Heap):Prop:=h.next≤h'.next∧∀id gen cs,¬S id→h.at_ id gen=some cs→h'.at_ id gen=some cs
theorem jL.refl {S:Nat→Prop} {h:Heap}:jL S h h:=⟨bab _,fun _ _ _ _ e=>e⟩
theorem jL.trans {S:Nat→Prop} {a b c:Heap} (x:jL S a b) (y:jL S b c):jL S a c:=⟨bal x.1 y.1,fun id gen cs n e=>y.2 id gen cs n (x.2 id gen cs n e)⟩
theorem Heap.le.wR {S:Nat→Prop} {a b:Heap} (x:a.le b):jL S a b:=⟨x.1,fun id gen cs _ e=>x.2 id gen cs e⟩
theorem Heap.kP.wR {S:Nat→Prop} {o:Option Nat} {a b:Heap} (x:Heap.kP o a b) (hs:∀i,o=some i→S i):jL S a b:=⟨x.1,fun id gen cs n e=>x.2 id gen cs (fun e2=>n (hs id e2)) e⟩
theorem fJ {S:Nat→Prop} {h:Heap} {id gen:Nat} {cs:List AV} (hs:S id):jL S h (h.cD id gen cs):=
 ⟨bab _,fun id' gen' cs' hne e=>by rw[cw (fun e2=>hne (by rw[e2];exact hs))];exact e⟩
theorem Acc.wR {h h' :Heap} {sz:Nat} {x:AV} {cells:List AV} {S:Nat→Prop} (k:Acc h sz x cells) (hl:jL S h h') (hne:∀id,x.own=some id→¬S id):Acc h' sz x cells:=by
 cases k with
 |ax=>exact .ax
 |full n _ hl=>exact .full n _ hl
 |sl id gen n _ hat hl' =>exact .sl id gen n _ (hl.2 _ _ _ (hne id rfl) hat) hl'
theorem Acc.zp {h:Heap} {v:AV} {bs:List UInt8} (k:Acc h 1 v (bs.map bK)):Bytes h v bs:=by
 generalize hc:bs.map bK=cells at k
 cases k with
 |ax=>
  simp at hc;subst hc;exact .ax
 |full n _ hl=>
  subst hc;have:n=bs.length:=by simp at hl;omega
  subst this;exact .fs true bs
 |sl id gen n _ hat hl=>
  subst hc;have:n=bs.length:=by simp at hl;omega
  subst this;exact .sl id gen 0 none _ bs hat (by simp) (by simp[bar]) (fun c e=>by cases e)
theorem SJ (a b:AV):([a,b]:List AV)[0]? =some a:=rfl
theorem SK (a b:AV):([a,b]:List AV)[1]? =some b:=rfl
theorem eq_nil:uS (.iface true) .bL .bL=some true:=rfl
theorem eq_self (bs:List UInt8):(bs==bs)=true:=by simp
theorem fW {E:Env} {σ:ah} {h:Heap} {m:Bool} {x y:eN}:E.op σ h (.iF m x y)=(E.eM σ x).bind fun a=>(E.eM σ y).bind fun b=>(gu m a b).map fun v=>⟨v,h,.none⟩:=rfl
theorem DM {E:Env} {σ:ah} {h:Heap} {f:Fn} {a b:List eN}:E.op σ h (.lC f a b)=(E.nV σ a).bind fun x=>(E.nV σ b).map fun y=>⟨.fn f x y,h,.none⟩:=rfl
theorem dF {id gen off:Nat}:Li (.ptr id gen off)=some (.ptr id gen off):=rfl
end Go.AM
namespace Go.AM
theorem xoz:type_of% (And.intro (@adP) (And.intro (@adQ) (And.intro (@adR) (And.intro (@adS) (And.intro (@adT) (And.intro (@adU) (And.intro (@adV) (And.intro (@adW) (And.intro (@adX) (And.intro (@adY) (And.intro (@adZ) (And.intro (@ad0) (And.intro (@ad1) (And.intro (@ad2) (And.intro (@ad3) (And.intro (@ad4) (And.intro (@ad5) (And.intro (@ad6) (And.intro (@ad7) (And.intro (@ad8) (And.intro (@ad9) (And.intro (@ad_) (And.intro (@aea) (@aeb)))))))))))))))))))))))):=(And.intro (@adP) (And.intro (@adQ) (And.intro (@adR) (And.intro (@adS) (And.intro (@adT) (And.intro (@adU) (And.intro (@adV) (And.intro (@adW) (And.intro (@adX) (And.intro (@adY) (And.intro (@adZ) (And.intro (@ad0) (And.intro (@ad1) (And.intro (@ad2) (And.intro (@ad3) (And.intro (@ad4) (And.intro (@ad5) (And.intro (@ad6) (And.intro (@ad7) (And.intro (@ad8) (And.intro (@ad9) (And.intro (@ad_) (And.intro (@aea) (@aeb))))))))))))))))))))))))
theorem qan:type_of% (And.intro (@xoz) (And.intro (@qah) (And.intro (@qai) (And.intro (@qaj) (And.intro (@qak) (And.intro (@qal) (@qam))))))):=(And.intro (@xoz) (And.intro (@qah) (And.intro (@qai) (And.intro (@qaj) (And.intro (@qak) (And.intro (@qal) (@qam)))))))
theorem s3:type_of% (And.intro (@qan) (And.intro (@Iy) (And.intro (@P4) (And.intro (@cN) (And.intro (@Iz) (And.intro (@Dj) (And.intro (@IA) (And.intro (@IB) (And.intro (@Dk) (And.intro (@P5) (And.intro (@Dl) (And.intro (@IC) (And.intro (@Dm) (And.intro (@uX) (And.intro (@xU) (And.intro (@uY) (And.intro (@xR) (And.intro (@Al) (And.intro (@xS) (And.intro (@Aq) (And.intro (@xV) (And.intro (@ID) (And.intro (@IE) (And.intro (@Uy) (And.intro (@Uz) (And.intro (@UA) (And.intro (@UB) (And.intro (@UC) (And.intro (@IQ) (And.intro (@IS) (And.intro (@DB) (And.intro (@IF) (And.intro (@Dn) (And.intro (@P8) (And.intro (@IJ) (And.intro (@P9) (And.intro (@P_) (And.intro (@u7) (And.intro (@Dr) (And.intro (@IK) (And.intro (@Ds) (And.intro (@Dt) (And.intro (@As) (And.intro (@u9) (And.intro (@xW) (And.intro (@u_) (And.intro (@Av) (And.intro (@ak6) (And.intro (@ak7) (And.intro (@ak8) (And.intro (@ak9) (And.intro (@Iv) (And.intro (@Iw) (And.intro (@aa) (And.intro (@AV.bool.injEq) (And.intro (@IW) (And.intro (@DH) (And.intro (@xQ) (And.intro (@aej) (And.intro (@decide_true) (And.intro (@decide_false) (And.intro (@sZ) (And.intro (@qx) (And.intro (@Dq) (And.intro (@IU) (And.intro (@x6) (And.intro (@IL) (And.intro (@Au) (And.intro (@At) (And.intro (@Du) (And.intro (@Dv) (And.intro (@vc) (And.intro (@aec) (And.intro (@aed) (And.intro (@aee) (And.intro (@aef) (And.intro (@DG) (And.intro (@DF) (And.intro (@P7) (And.intro (@UF) (And.intro (@DI) (And.intro (@AJ) (And.intro (@Dp) (And.intro (@IV) (And.intro (@P6) (@UG)))))))))))))))))))))))))))))))))))))))))))))))))))))))))))))))))))))))))))))))))))))):=And.intro (@qan) (And.intro (@Iy) (And.intro (@P4) (And.intro (@cN) (And.intro (@Iz) (And.intro (@Dj) (And.intro (@IA) (And.intro (@IB) (And.intro (@Dk) (And.intro (@P5) (And.intro (@Dl) (And.intro (@IC) (And.intro (@Dm) (And.intro (@uX) (And.intro (@xU) (And.intro (@uY) (And.intro (@xR) (And.intro (@Al) (And.intro (@xS) (And.intro (@Aq) (And.intro (@xV) (And.intro (@ID) (And.intro (@IE) (And.intro (@Uy) (And.intro (@Uz) (And.intro (@UA) (And.intro (@UB) (And.intro (@UC) (And.intro (@IQ) (And.intro (@IS) (And.intro (@DB) (And.intro (@IF) (And.intro (@Dn) (And.intro (@P8) (And.intro (@IJ) (And.intro (@P9) (And.intro (@P_) (And.intro (@u7) (And.intro (@Dr) (And.intro (@IK) (And.intro (@Ds) (And.intro (@Dt) (And.intro (@As) (And.intro (@u9) (And.intro (@xW) (And.intro (@u_) (And.intro (@Av) (And.intro (@ak6) (And.intro (@ak7) (And.intro (@ak8) (And.intro (@ak9) (And.intro (@Iv) (And.intro (@Iw) (And.intro (@aa) (And.intro (@AV.bool.injEq) (And.intro (@IW) (And.intro (@DH) (And.intro (@xQ) (And.intro (@aej) (And.intro (@decide_true) (And.intro (@decide_false) (And.intro (@sZ) (And.intro (@qx) (And.intro (@Dq) (And.intro (@IU) (And.intro (@x6) (And.intro (@IL) (And.intro (@Au) (And.intro (@At) (And.intro (@Du) (And.intro (@Dv) (And.intro (@vc) (And.intro (@aec) (And.intro (@aed) (And.intro (@aee) (And.intro (@aef) (And.intro (@DG) (And.intro (@DF) (And.intro (@P7) (And.intro (@UF) (And.intro (@DI) (And.intro (@AJ) (And.intro (@Dp) (And.intro (@IV) (And.intro (@P6) (@UG)))))))))))))))))))))))))))))))))))))))))))))))))))))))))))))))))))))))))))))))))))))
theorem k3:type_of% (And.intro (@Qa) (And.intro (@IP) (And.intro (@Uu) (And.intro (@Uv) (And.intro (@Uw) (And.intro (@Ux) (And.intro (@UD) (And.intro (@AH) (@x5))))))))):=And.intro (@Qa) (And.intro (@IP) (And.intro (@Uu) (And.intro (@Uv) (And.intro (@Uw) (And.intro (@Ux) (And.intro (@UD) (And.intro (@AH) (@x5))))))))
theorem qzc {a b:UInt8} {l m:List UInt8}:(a::l==b::m)=(decide (a.toNat=b.toNat)&&l==m):=by
 have:(a::l==b::m)=(decide (a=b)&&l==m):=rfl
 rw[this]
 congr 2
 exact propext UInt8.toNat_inj.symm
theorem qzn {b:UInt8} {m:List UInt8}:(([]:List UInt8)==b::m)=false:=_root_.id rfl
theorem qzm {b:UInt8} {m:List UInt8}:(b::m==([]:List UInt8))=false:=_root_.id rfl
theorem qz0:(([]:List UInt8)==([]:List UInt8))=true:=_root_.id rfl
theorem bQ:type_of% (And.intro (@qzc) (And.intro (@qzn) (And.intro (@qzm) (And.intro (@qz0) (And.intro (@bbb) (@bbd)))))):=(And.intro (@qzc) (And.intro (@qzn) (And.intro (@qzm) (And.intro (@qz0) (And.intro (@bbb) (@bbd))))))
theorem sz4:type_of% (And.intro (@s3) (And.intro (@bae.{0}) (And.intro (@exists_eq_left'.{1}) (And.intro (@baq.{0,0}) (@bag.{0,0}))))):=(And.intro (@s3) (And.intro (@bae.{0}) (And.intro (@exists_eq_left'.{1}) (And.intro (@baq.{0,0}) (@bag.{0,0})))))
theorem aw:type_of% (And.intro (@sz4) (And.intro (@kx.eq_1) (And.intro (@kx.eq_2) (And.intro (@kx.eq_3) (And.intro (@kx.eq_4) (And.intro (@kx.eq_5) (And.intro (@hS.eq_1) (And.intro (@hS.eq_2) (And.intro (@hS.eq_3) (And.intro (@hS.eq_4) (And.intro (@hS.eq_5) (And.intro (@hS.eq_6) (And.intro (@hS.eq_7) (And.intro (@hS.eq_8) (And.intro (@hS.eq_9) (And.intro (@hS.eq_10) (And.intro (@hS.eq_11) (And.intro (@hS.eq_12) (And.intro (@hS.eq_13) (And.intro (@hS.eq_14) (And.intro (@hS.eq_15) (And.intro (@hS.eq_16) (And.intro (@sX.eq_1) (@sX.eq_2)))))))))))))))))))))))):=(And.intro (@sz4) (And.intro (@kx.eq_1) (And.intro (@kx.eq_2) (And.intro (@kx.eq_3) (And.intro (@kx.eq_4) (And.intro (@kx.eq_5) (And.intro (@hS.eq_1) (And.intro (@hS.eq_2) (And.intro (@hS.eq_3) (And.intro (@hS.eq_4) (And.intro (@hS.eq_5) (And.intro (@hS.eq_6) (And.intro (@hS.eq_7) (And.intro (@hS.eq_8) (And.intro (@hS.eq_9) (And.intro (@hS.eq_10) (And.intro (@hS.eq_11) (And.intro (@hS.eq_12) (And.intro (@hS.eq_13) (And.intro (@hS.eq_14) (And.intro (@hS.eq_15) (And.intro (@hS.eq_16) (And.intro (@sX.eq_1) (@sX.eq_2))))))))))))))))))))))))
end Go.AM
namespace Go.AM
section
variable {h : Heap} {cs vs : List AV} {id n off sz gen : Nat} {a b c d e f v : AV} {ag : Bool}
theorem cY:(h.new cs).next=h.next+1:=_root_.id rfl
theorem AL:(h.cD id gen cs).next=h.next:=_root_.id rfl
theorem cG:Heap.empty.next=0:=_root_.id rfl
theorem n5:(h.new cs).at_ n 0=if n=h.next then some cs else h.at_ n 0:=by
 by_cases e:n=h.next
 ·rw[if_pos e,e];exact aY _
 ·rw[if_neg e]
  show(match(h.tr.set h.next (some ⟨0,cs⟩)).get n with|some o=>_|none=>_)=_
  rw[Tr.o4,if_neg e];rfl
theorem dC:(h.cD id gen cs).at_ n gen=if n=id then some cs else h.at_ n gen:=by
 by_cases e:n=id
 ·rw[if_pos e,e];exact bD
 ·rw[if_neg e];exact cw e
theorem aQ:bg h ag sz (.ptr id gen off)=(h.at_ id gen).bind fun cs=>(bp ag sz (cs.drop off)).map fun v=>⟨v,h,.read⟩:=_root_.id rfl
theorem bP:bg h ag sz (.fp cs)=(bp ag sz cs).map fun v=>⟨v,h,.none⟩:=_root_.id rfl
theorem cF:bC h sz (.ptr id gen 0) (.agg vs)=(h.at_ id gen).bind fun cs=>if vs.length=sz∧sz≤cs.length then some ⟨.undef,h.cD id gen (if cs.length≤vs.length then vs else bU cs 0 vs),.write⟩else none:=by
 show((h.at_ id gen).bind fun cs=>(some vs).bind fun vs=>if vs.length=sz∧0+sz≤cs.length then(some ⟨.undef,h.cD id gen (bU cs 0 vs),.write⟩:Option cB)else none)=_
 cases h.at_ id gen with
 |none=>rfl
 |some cs=>
  simp only[bag,baf]
  by_cases e:vs.length=sz∧sz≤cs.length
  ·rw[if_pos e,if_pos e]
   by_cases e2:cs.length≤vs.length
   ·rw[if_pos e2]
    simp only[bU,List.take_zero,bbe,baf,bao e2,bbj]
   ·rw[if_neg e2]
  ·rw[if_neg e,if_neg e]
theorem IY (hv:v.row=some [v]):bC h 1 (.ptr id gen off) v=(h.at_ id gen).bind fun cs=>if off<cs.length then some ⟨.undef,h.cD id gen (cs.set off v),.write⟩else none:=by
 show((h.at_ id gen).bind fun cs=>v.row.bind fun vs=>if vs.length=1∧off+1≤cs.length then(some ⟨.undef,h.cD id gen (bU cs off vs),.write⟩:Option cB)else none)=_
 rw[hv];cases h.at_ id gen with
 |none=>rfl
 |some cs=>
  simp only[bag,List.length_singleton,true_and]
  by_cases e:off<cs.length
  ·rw[if_pos (by omega),if_pos e,List.set_eq_take_append_cons_drop,if_pos e]
   simp[bU]
  ·rw[if_neg (by omega),if_neg e]
theorem E1:bp true 6 [a,b,c,d,e,f]=some (.agg [a,b,c,d,e,f]):=_root_.id rfl
theorem alh:bp true 4 [a,b,c,d]=some (.agg [a,b,c,d]):=_root_.id rfl
theorem ali:bp false n (v::cs)=some v:=_root_.id rfl
theorem UJ:Li (.ptr id gen off)=some (.ptr id gen off):=_root_.id rfl
theorem gh:au n (.ptr id gen off)=some (.ptr id gen (off+n)):=_root_.id rfl
theorem fw:au n (.fp cs)=some (.fp (cs.drop n)):=_root_.id rfl
theorem kA {l:List AV}:cm 0 (.aF (v::l))=some v:=_root_.id rfl
theorem n7 {l:List AV}:cm 1 (.aF (a::v::l))=some v:=_root_.id rfl
theorem Qe {l:List AV}:cm 2 (.aF (a::b::v::l))=some v:=_root_.id rfl
theorem df:aL (.bool true) a b=some a:=_root_.id rfl
theorem dj:aL (.bool false) a b=some b:=_root_.id rfl
theorem agM {b:Bool}:dm .not (.bool b)=some (.bool !b):=_root_.id rfl
end
theorem UK {h:Heap} {v:AV} {P:AV→Prop} (hv:v.ae=true):(∃v',xX h v v' ∧P v')=P v:=
 propext ⟨fun⟨v',h1,h2⟩=>by rw[(ay hv).1 h1];exact h2,fun h2=>⟨v,(ay hv).2 rfl,h2⟩⟩
section
variable {E : Env} {rs : List ET} {h : Heap} {Q : fC → Prop} {s : St} {P : List AV → Prop}
theorem x8:E.results s []=some []:=_root_.id rfl
theorem results_tmp {t:Nat} {l:List ET}:E.results s (.tmp t::l)=(E.results s l).map fun vs=>s.σ.get t::vs:=_root_.id rfl
theorem vd {t sz:Nat} {ag:Bool} {l:List ET}:E.results s (.cell t ag sz::l)=(bg s.h ag sz (s.σ.get t)).bind fun r=>(E.results s l).map fun vs=>r.v::vs:=_root_.id rfl
theorem jR:iB E rs h Q .ret s=∃vs,E.results s rs=some vs∧∃v,xX s.h (dX vs) v∧Q (.ret ⟨v,h,.none⟩):=by
 refine propext ⟨fun⟨vs,v,h1,h2,h3⟩=>⟨vs,h1,v,h2,h3⟩,fun⟨vs,h1,v,h2,h3⟩=>⟨vs,v,h1,h2,h3⟩⟩
theorem AN:iB E rs h Q .norm s=iB E rs h Q .ret s:=_root_.id rfl
theorem IZ:Lj E rs Q .ret s=∃vs,E.results s rs=some vs∧Q (.ret ⟨dX vs,s.h,.write⟩):=_root_.id rfl
theorem DN:Lj E rs Q .norm s=Lj E rs Q .ret s:=_root_.id rfl
theorem DO {a:AV}:dX [a]=a:=_root_.id rfl
theorem DP:dX []=.aF []:=_root_.id rfl
theorem DQ {a b:AV} {l:List AV}:dX (a::b::l)=.aF (a::b::l):=_root_.id rfl
end
theorem AO {l:List AV}:(AV.agg l).ae=AV.aj l:=_root_.id rfl
theorem x9:AV.undef.ae=true:=_root_.id rfl
theorem I2 {f:Fn} {a b:List AV}:(AV.fn f a b).ae=(AV.aj a&&AV.aj b):=_root_.id rfl
theorem h3:type_of% (And.intro (@cY) (And.intro (@AL) (And.intro (@cG) (And.intro (@n5) (And.intro (@dC) (And.intro (@aQ) (And.intro (@bP) (And.intro (@cF) (And.intro (@IY) (And.intro (@E1) (And.intro (@alh) (And.intro (@ali) (And.intro (@UJ) (And.intro (@gh) (And.intro (@fw) (And.intro (@kA) (And.intro (@n7) (And.intro (@Qe) (And.intro (@df) (And.intro (@dj) (And.intro (@agM) (And.intro (@UK) (And.intro (@x8) (And.intro (@results_tmp) (And.intro (@vd) (And.intro (@jR) (And.intro (@AN) (And.intro (@IZ) (And.intro (@DN) (And.intro (@DP) (And.intro (@DO) (And.intro (@DQ) (And.intro (@xY) (And.intro (@AD) (And.intro (@Dz) (And.intro (@AO) (And.intro (@IN) (And.intro (@IM) (And.intro (@Dy) (And.intro (@x9) (And.intro (@I2) (And.intro (@Aw) (And.intro (@Dw) (And.intro (@Dx) (And.intro (@Ax) (And.intro (@Ay) (And.intro (@Az) (And.intro (@AA) (And.intro (@AB) (And.intro (@dH) (And.intro (@aE) (And.intro (@AI) (And.intro (@baf) (@Nat.add_zero)))))))))))))))))))))))))))))))))))))))))))))))))))))):=And.intro (@cY) (And.intro (@AL) (And.intro (@cG) (And.intro (@n5) (And.intro (@dC) (And.intro (@aQ) (And.intro (@bP) (And.intro (@cF) (And.intro (@IY) (And.intro (@E1) (And.intro (@alh) (And.intro (@ali) (And.intro (@UJ) (And.intro (@gh) (And.intro (@fw) (And.intro (@kA) (And.intro (@n7) (And.intro (@Qe) (And.intro (@df) (And.intro (@dj) (And.intro (@agM) (And.intro (@UK) (And.intro (@x8) (And.intro (@results_tmp) (And.intro (@vd) (And.intro (@jR) (And.intro (@AN) (And.intro (@IZ) (And.intro (@DN) (And.intro (@DP) (And.intro (@DO) (And.intro (@DQ) (And.intro (@xY) (And.intro (@AD) (And.intro (@Dz) (And.intro (@AO) (And.intro (@IN) (And.intro (@IM) (And.intro (@Dy) (And.intro (@x9) (And.intro (@I2) (And.intro (@Aw) (And.intro (@Dw) (And.intro (@Dx) (And.intro (@Ax) (And.intro (@Ay) (And.intro (@Az) (And.intro (@AA) (And.intro (@AB) (And.intro (@dH) (And.intro (@aE) (And.intro (@AI) (And.intro (@baf) (@Nat.add_zero)))))))))))))))))))))))))))))))))))))))))))))))))))))
theorem aW:type_of% (And.intro (@h3) (And.intro (@bav.{0}) (And.intro (@List.length_nil.{0}) (And.intro (@bah.{0}) (And.intro (@List.drop_succ_cons.{0}) (And.intro (@bab) (And.intro (@and_self) (And.intro (@true_and) (And.intro (@if_true.{1}) (And.intro (@baa) (And.intro (@_root_.eq_self.{1}) (And.intro (@and_true) (@exists_eq'.{1}))))))))))))):=(And.intro (@h3) (And.intro (@bav.{0}) (And.intro (@List.length_nil.{0}) (And.intro (@bah.{0}) (And.intro (@List.drop_succ_cons.{0}) (And.intro (@bab) (And.intro (@and_self) (And.intro (@true_and) (And.intro (@if_true.{1}) (And.intro (@baa) (And.intro (@_root_.eq_self.{1}) (And.intro (@and_true) (@exists_eq'.{1})))))))))))))
end Go.AM
namespace Go.AM
def wW (ordered:Bool) (fx fy:Bool) (x y:dB):Bool:=ordered||match x,y with
 |.none,_|_,.none|.read,.read=>true
 |.write,.write=>false
 |.read,.write=>fx
 |.write,.read=>fy
def zq (F:List Nat) (x:dB) (i:Nat):Nat→List dB→List Nat→Bool
 |j,y::ys,m::ms=>wW (Nat.testBit m i) (F.elem i) (F.elem j) x y&&zq F x i (j+1) ys ms
 |_,_,_=>true
def ve (F:List Nat):Nat→List dB→List Nat→Bool
 |i,x::xs,_::ms=>zq F x i (i+1) xs ms&&ve F (i+1) xs ms
 |_,_,_=>true
def I3 (E:Env) (hs:List Heap) (l:List (aH×St×dB)) (j:Nat):Prop:=match l[j]? with
 |some y=>E.steady y.1 y.2.1 hs=true
 |none=>True
def vf (E:Env) (hs:List Heap) (l:List (aH×St×dB)):List Nat→Prop
 |[]=>True
 |j::js=>I3 E hs l j∧vf E hs l js
theorem vf.get {E:Env} {hs:List Heap} {l:List (aH×St×dB)}:∀{F:List Nat},vf E hs l F→∀{j:Nat} {y:aH×St×dB},F.elem j=true→l[j]? =some y→E.steady y.1 y.2.1 hs=true
 |[],_,_,_,h,_=>by simp at h
 |f::F,k,j,y,h,e=>by
  by_cases c:j=f
  ·subst c
   have:=k.1
   unfold I3 at this
   rw[e]at this
   exact this
  ·refine k.2.get ?_ e
   simpa[c]using h
theorem CU {E:Env} {o fx fy:Bool} {hs:List Heap} {x y:aH×St×dB} (h:wW o fx fy x.2.2 y.2.2=true) (hx:fx=true→E.steady x.1 x.2.1 hs=true) (hy:fy=true→E.steady y.1 y.2.1 hs=true):E.apart o hs x y=true:=by
 unfold wW at h
 unfold Env.apart
 cases o
 ·simp only[Bool.false_or]at h⊢
  cases hx2:x.2.2<;>cases hy2:y.2.2<;>simp[hx2,hy2]at h⊢
  ·exact hx h
  ·exact hy h
 ·rfl
theorem x_ {E:Env} {hs:List Heap} {x:aH×St×dB} {F:List Nat} {i:Nat} (hx:F.elem i=true→E.steady x.1 x.2.1 hs=true):∀{l:List (aH×St×dB)} {ms:List Nat} {j:Nat},zq F x.2.2 i j (l.map fun y=>y.2.2) ms=true→(∀k y,F.elem (j+k)=true→l[k]? =some y→E.steady y.1 y.2.1 hs=true)→E.gP hs x i l ms=true
 |[],_,_,_,_=>by simp[Env.gP]
 |_::_,[],_,_,_=>by simp[Env.gP]
 |y::l,m::ms,j,h,hr=>by
  simp only[bba,zq,bau]at h
  simp only[Env.gP,bau]
  exact⟨CU h.1 hx fun e=>hr 0 y e rfl,x_ hx h.2 fun k z e e2=>hr (k+1) z (by rw[←e];congr 1;omega) e2⟩
theorem s6 {E:Env} {hs:List Heap} {F:List Nat}:∀{l:List (aH×St×dB)} {ms:List Nat} {i:Nat},ve F i (l.map fun y=>y.2.2) ms=true→(∀k y,F.elem (i+k)=true→l[k]? =some y→E.steady y.1 y.2.1 hs=true)→E.gJ hs i l ms=true
 |[],_,_,_,_=>by simp[Env.gJ]
 |_::_,[],_,_,_=>by simp[Env.gJ]
 |y::l,m::ms,i,h,hr=>by
  simp only[bba,ve,bau]at h
  simp only[Env.gJ,bau]
  have hr' :∀k z,F.elem (i+1+k)=true→l[k]? =some z→E.steady z.1 z.2.1 hs=true:=fun k z e e2=>hr (k+1) z (by rw[←e];congr 1;omega) e2
  exact⟨x_ (fun e=>hr 0 y e rfl) h.1 hr',s6 h.2 hr'⟩
theorem kW {E:Env} {hs:List Heap} (F:List Nat) {l:List (aH×St×dB)} {ms:List Nat} (h:ve F 0 (l.map fun y=>y.2.2) ms=true) (hr:vf E hs l F):E.gJ hs 0 l ms=true:=
 s6 h fun k y e e2=>hr.get (by rw[baf]at e;exact e) e2
end Go.AM
namespace Go.AM
theorem vg {E:Env}:∀(l:List aH) (s:St) (P R:St→List (aH×St×dB)→Prop),(∀s log,P s log→R s log)→sY E l s P→sY E l s R
 |[],s,P,R,hr,h=>hr _ _ h
 |⟨d,op,none⟩::l,s,P,R,hr,h=>by
  have h:fS E op d s (fun s' c=>sY E l s' (fun s2 log=>P s2 ((⟨d,op,none⟩,s,c)::log))) SD:=h
  exact nZ (K' :=fun s' c=>sY E l s' (fun s2 log=>R s2 ((⟨d,op,none⟩,s,c)::log))) h fun s' c x=>vg l s' _ _ (fun s2 log y=>hr _ _ y) x
 |⟨d,op,some (t,w)⟩::l,s,P,R,hr,h=>by
  obtain⟨b,hb,h⟩:=h
  refine⟨b,hb,?_⟩
  by_cases he:b=w
  ·rw[if_pos he]at h⊢
   exact nZ (K' :=fun s' c=>sY E l s' (fun s2 log=>R s2 ((⟨d,op,some (t,w)⟩,s,c)::log))) h fun s' c x=>vg l s' _ _ (fun s2 log y=>hr _ _ y) x
  ·rw[if_neg he]at h⊢
   exact vg l _ _ _ (fun s2 log y=>hr _ _ y) h
def abf (E:Env) (b:List Nat) (s1:St):St→List (aH×St×dB)→Prop:=fun s' log=>E.gJ (s'.h::log.map (fun x=>x.2.1.h)) 0 log b=true∧s' =s1
theorem pb {E:Env} {b:List Nat} {s1 s' :St} {log:List (aH×St×dB)}:abf E b s1 s' log=(E.gJ (s'.h::log.map (fun x=>x.2.1.h)) 0 log b=true∧s' =s1):=rfl
theorem E2 {E:Env} {l:List aH} {b:List Nat} {s s1:St} {Q:aU→St→Prop} (h1:sY E l s (abf E b s1)) (h2:Q .norm s1):jK E (.draw l b) s Q:=
 vg l s (abf E b s1) (Un E b Q) (fun s' log h=>⟨h.1,by rw[h.2];exact h2⟩) h1
theorem AP {E:Env} {l:List aH} {b:List Nat} {s s1:St} {c:AC} {Q:aU→St→Prop} (h1:sY E l s (abf E b s1)) (h2:jK E c s1 Q):jK E (.seq (.draw l b) c) s Q:=by
 rw[cN];exact E2 h1 h2
mutual
theorem AV.wX:∀v:AV,v.same v=true
 |.bool _|.int _ _|.str _|.gC|.ax|.qt|.qk|.bL|.ptr _ _ _|.sl _ _ _ _ _ _|.xO _=>by simp[AV.same]
 |.fp a=>by rw[AV.same,AV.iU a]
 |.fs f n a=>by rw[AV.same,AV.iU a];simp
 |.fn f a b=>by rw[AV.same,AV.iU a,AV.iU b];simp
 |.fN t v=>by rw[AV.same,AV.wX v];simp
 |.agg a=>by rw[AV.same,AV.iU a]
 |.aF a=>by rw[AV.same,AV.iU a]
theorem AV.iU:∀l:List AV,AV.nX l l=true
 |[]=>rfl
 |v::l=>by rw[AV.nX,AV.wX v,AV.iU l];rfl
end
theorem I4 {E : Env} {o : aH} {s : St} {h : Heap} {hs : List Heap} : E.steady o s (h :: hs) = ((match E.op s.σ s.h o.op, E.op s.σ h o.op with
     | some r, some r' => r.v.same r'.v && (match r'.c with |.write => false | _ => true)
     | _, _ => false) && E.steady o s hs) := id rfl
def I5 (ag:Bool) (sz:Nat) (a v:AV):List Heap→Prop
 |[]=>True
 |h::hs=>bg h ag sz a=some ⟨v,h,.read⟩∧I5 ag sz a v hs
theorem lu {ag:Bool} {sz:Nat} {a v:AV}:I5 ag sz a v []=True:=id rfl
theorem jS {ag:Bool} {sz:Nat} {a v:AV} {h:Heap} {hs:List Heap}:I5 ag sz a v (h::hs)=(bg h ag sz a=some ⟨v,h,.read⟩∧I5 ag sz a v hs):=id rfl
theorem ji {E:Env} {d:Option Nat} {g:Option (Nat×Bool)} {ag:Bool} {sz:Nat} {x:eN} {s:St} (a v:AV) {hs:List Heap} (h1:E.eM s.σ x=some a) (h2:I5 ag sz a v (s.h::hs)):E.steady ⟨d,.load ag sz x,g⟩ s hs=true:=by
 obtain⟨e0,h2⟩:=h2
 have o0:E.op s.σ s.h (.load ag sz x)=some ⟨v,s.h,.read⟩:=by
  show(E.eM s.σ x).bind (bg s.h ag sz)=_
  rw[h1];exact e0
 induction hs with
 |nil=>rfl
 |cons h hs ih=>
  obtain⟨e1,h2⟩:=h2
  have o1:E.op s.σ h (.load ag sz x)=some ⟨v,h,.read⟩:=by
   show(E.eM s.σ x).bind (bg h ag sz)=_
   rw[h1];exact e1
  rw[I4,ih h2];show((match E.op s.σ s.h (.load ag sz x),E.op s.σ h (.load ag sz x)with
   |some r,some r' =>r.v.same r'.v&&(match r'.c with|.write=>false|_=>true)
   |_,_=>false)&&true)=true
  rw[o0,o1];show((v.same v&&true)&&true)=true
  rw[AV.wX];rfl
end Go.AM
