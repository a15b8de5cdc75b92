/- For BifCalls. -/
import Derived.Test.YtaielgjmhbjfhaaGreatDoorBfErr3
import Derived.Test.YtaielgjmhbjfhaaGreatDoorBfStrange
import Derived.Test.YtaielgjmhbjfhaaGreatDoorAmTop
set_option linter.unusedVariables false
namespace Go.Bf
open Go.AM Go.RowKit Go.Proofs Go.Proofs.YtaielgjmhbjfhaaGreatDoor
theorem an3 {B:Nat} {w0:World} {X:RX} (hR:Rel B w0 env X) {cs:List AV} {id gen off:Nat} {os:List AV} (hat:X.h.at_ id gen=some os) (hoff:off<os.length) {ab:List Value}
  (ha:a_ X [.fN 69 (.fp cs),.fN 71 (.ptr id gen off)] ab):Calls Tryz.prog 37 ab.toArray X.w (AM.Outcome B w0 env X (.ret ⟨.bool true,X.h.cD id gen (bU os off [.fp cs]),.write⟩)):=by
 cases ha with|cons _ c1 _ _ h1 hr=>
 cases hr with|cons _ c2 _ _ h2 hr=>
 cases hr with|nil=>
 cases h1 with|fN _ _ e1 h1=>
 cases h2 with|fN _ _ e2 h2=>
 have hfp:=h1;cases h1 with|fp _ b o vs hst bcl bcj hvs=>
 cases h2 with|ptr _ _ _ a hid mn=>
 have hl:=Heap.gY hat
 have e:=(mn _ hl).2 rfl
 subst e;have hO:=hR.obj id _ hl
 obtain⟨⟨arr,T,fz,g1,g2,g3,g4,g5⟩,hone2⟩:=hO
 dsimp only at g3 g5
 have hk:(X.ρ id).o+off<arr.size:=by omega
 have bdi:X.w.cell? ⟨(X.ρ id).b,(X.ρ id).o+off,none⟩=some arr[(X.ρ id).o+off]:=by simp[World.cell?,g1,hk]
 have hfro:=CX.frozen (w:=X.w) g1 (by rw[g2];exact g4) hk
 obtain⟨hB,hs,_,_⟩:=hR.start
 have hg:X.w.cell? ⟨0,0,none⟩=some (.iface 132 (.agg #[.pointer (some ⟨10,42,none⟩)])):=by
  rw[←hs];simp only[World.cell?,hR.below.block 0 (by omega)]
 refine(ajq ⟨b,o,none⟩ ⟨(X.ρ id).b,(X.ρ id).o+off,none⟩ _ X.w hg bdi hfro).mono ?_
 rintro ev w' ⟨rfl,rfl⟩
 generalize hw4:(((X.w.alloc (.cells #[.pointer (some ⟨(X.ρ id).b,(X.ρ id).o+off,none⟩)] 71)).alloc (.cells #[.pointer (some ⟨10,71,none⟩),.pointer (some ⟨X.w.heap.size,0,none⟩),.int .u64 150] 94)).alloc (.cells #[.pointer (some ⟨10,71,none⟩),.pointer (some ⟨X.w.heap.size,0,none⟩),.int .u64 150] 94)).alloc (.cells #[.pointer (some ⟨b,o,none⟩)] 69)=w4
 have hb:Below X.w.heap.size X.w w4:=by
  rw[←hw4];exact(((((Below.refl _ _).alloc (by simp) _).alloc (by simp<;>omega) _).alloc (by simp<;>omega) _).alloc (by simp<;>omega) _)
 have hR1:=hR.grow hb
 have hE1:=Ext.grow X hb
 obtain⟨X',q1,q2,q3,q4,_⟩:=lJ (P:=Tryz.prog) hR1 (id:=id) (o:=⟨gen,os⟩) hl (off:=off) (new:=[.fp cs]) (news:=[.pointer (some ⟨b,o,none⟩)]) (a_.one (hfp.ext hE1)) (fun v hv=>by simp at hv;subst hv;rfl) (by dsimp only[List.length];omega)
 have hc4:w4.cell? ⟨(X.ρ id).b,(X.ρ id).o+off,none⟩=some arr[(X.ρ id).o+off]:=by
  rw[←bdi];simp only[World.cell?,hb.block _ (hR.obj id _ hl).lt]
 have hf4:w4.frozen? ⟨(X.ρ id).b,(X.ρ id).o+off,none⟩=false:=by
  rw[←hfro];simp only[World.frozen?,hb.block _ (hR.obj id _ hl).lt]
 have hw' :X'.w=w4.setCell ⟨(X.ρ id).b,(X.ρ id).o+off,none⟩ (.pointer (some ⟨b,o,none⟩)):=by
  have hst:(store ((⟨(X.ρ id).b,(X.ρ id).o+off,none⟩:Addr).add 0) (.pointer (some ⟨b,o,none⟩))).run Tryz.prog w4=.ok () (w4.setCell ⟨(X.ρ id).b,(X.ρ id).o+off,none⟩ (.pointer (some ⟨b,o,none⟩))):=by
   have e:((⟨(X.ρ id).b,(X.ρ id).o+off,none⟩:Addr).add 0)=⟨(X.ρ id).b,(X.ρ id).o+off,none⟩:=by simp[Addr.add]
   rw[e,run_store Tryz.prog w4 _ _ _ rfl,hc4];simp[hf4]
  simp only[storeCells,Sem.run_bind]at q1
  rw[hst]at q1
  simp only[Result.andThen_ok,Sem.run_pure,Result.ok.injEq,true_and]at q1
  exact q1.symm
 exact⟨X',.bool true,hw',q2,q3,hE1.trans q4,.bool true,rfl⟩
theorem an4 {B:Nat} {w0:World} {X:RX} (hR:Rel B w0 env X) {l a:AV} {c c' :Int} {ab:List Value}
  (ha:a_ X [.fN 69 (.fp [l,a,.int .i64 c,.bL]),.fN 67 (.int .i64 c')] ab):Calls Tryz.prog 46 ab.toArray X.w (AM.Outcome B w0 env X (.ret ⟨.bool (c==c'),X.h,.write⟩)):=by
 cases ha with|cons _ c1 _ _ h1 hr=>
 cases hr with|cons _ c2 _ _ h2 hr=>
 cases hr with|nil=>
 cases h1 with|fN _ _ e1 h1=>
 cases h2 with|fN _ _ e2 h2=>
 cases h2 with|int=>
 cases h1 with|fp _ b o vs hst bcl bcj hvs=>
 cases hvs with|cons _ v0 _ _ k0 hvs=>
 cases hvs with|cons _ v1 _ _ k1 hvs=>
 cases hvs with|cons _ v2 _ _ k2 hvs=>
 cases hvs with|cons _ v3 _ _ k3 hvs=>
 cases k2 with|int=>
 cases k3 with|bL=>
 have h2:=bcl 2 _ rfl
 have h3:=bcl 3 _ rfl
 refine(ajr b o c c' X.w h2 h3).mono ?_
 rintro ev w' ⟨rfl,rfl⟩
 exact⟨X,.bool (c==c'),rfl,rfl,hR,Ext.refl X,.bool _,rfl⟩
theorem ajH {B:Nat} {w0:World} {X:RX} (hR:Rel B w0 env X) {l a x l2 a2:AV} {c c' :Int} {ab:List Value}
  (ha:a_ X [.fN 69 (.fp [l,a,x,.fN 69 (.fp [l2,a2,.int .i64 c,.bL])]),.fN 67 (.int .i64 c')] ab):Calls Tryz.prog 46 ab.toArray X.w (AM.Outcome B w0 env X (.ret ⟨.bool (c==c'),X.h,.write⟩)):=by
 cases ha with|cons _ c1 _ _ h1 hr=>
 cases hr with|cons _ c2 _ _ h2 hr=>
 cases hr with|nil=>
 cases h1 with|fN _ _ e1 h1=>
 cases h2 with|fN _ _ e2 h2=>
 cases h2 with|int=>
 cases h1 with|fp _ b o vs hst bcl bcj hvs=>
 cases hvs with|cons _ v0 _ _ k0 hvs=>
 cases hvs with|cons _ v1 _ _ k1 hvs=>
 cases hvs with|cons _ v2 _ _ k2 hvs=>
 cases hvs with|cons _ v3 _ _ k3 hvs=>
 cases k3 with|fN _ _ e3 k3=>
 cases k3 with|fp _ b' o' vs' hst' bcs hone' bci =>
 cases bci with|cons _ u0 _ _ m0 bci =>
 cases bci with|cons _ u1 _ _ m1 bci =>
 cases bci with|cons _ u2 _ _ m2 bci =>
 cases bci with|cons _ u3 _ _ m3 bci =>
 cases m2 with|int=>
 cases m3 with|bL=>
 refine(ada b o b' o' c c' X.w (bcl 3 _ rfl) (bcs 2 _ rfl) (bcs 3 _ rfl)).mono ?_
 rintro ev w' ⟨rfl,rfl⟩
 exact⟨X,.bool (c==c'),rfl,rfl,hR,Ext.refl X,.bool _,rfl⟩
theorem ajI {B:Nat} {w0:World} {X:RX} (hR:Rel B w0 env X) {l a x l2 a2 x2 l3 a3:AV} {c c' :Int} {ab:List Value}
  (ha:a_ X [.fN 69 (.fp [l,a,x,.fN 69 (.fp [l2,a2,x2,.fN 69 (.fp [l3,a3,.int .i64 c,.bL])])]),.fN 67 (.int .i64 c')] ab):Calls Tryz.prog 46 ab.toArray X.w (AM.Outcome B w0 env X (.ret ⟨.bool (c==c'),X.h,.write⟩)):=by
 cases ha with|cons _ c1 _ _ h1 hr=>
 cases hr with|cons _ c2 _ _ h2 hr=>
 cases hr with|nil=>
 cases h1 with|fN _ _ e1 h1=>
 cases h2 with|fN _ _ e2 h2=>
 cases h2 with|int=>
 cases h1 with|fp _ b o vs hst bcl bcj hvs=>
 cases hvs with|cons _ v0 _ _ k0 hvs=>
 cases hvs with|cons _ v1 _ _ k1 hvs=>
 cases hvs with|cons _ v2 _ _ k2 hvs=>
 cases hvs with|cons _ v3 _ _ k3 hvs=>
 cases k3 with|fN _ _ e3 k3=>
 cases k3 with|fp _ b' o' vs' hst' bcs hone' bci =>
 cases bci with|cons _ u0 _ _ m0 bci =>
 cases bci with|cons _ u1 _ _ m1 bci =>
 cases bci with|cons _ u2 _ _ m2 bci =>
 cases bci with|cons _ u3 _ _ m3 bci =>
 cases m3 with|fN _ _ e4 m3=>
 cases m3 with|fp _ b3 o3 vs3 hst3 bdj hone3 bcw=>
 cases bcw with|cons _ q0 _ _ n0 bcw=>
 cases bcw with|cons _ q1 _ _ n1 bcw=>
 cases bcw with|cons _ q2 _ _ n2 bcw=>
 cases bcw with|cons _ q3 _ _ n3 bcw=>
 cases n2 with|int=>
 cases n3 with|bL=>
 refine(adb b o b' o' b3 o3 c c' X.w (bcl 3 _ rfl) (bcs 3 _ rfl) (bdj 2 _ rfl) (bdj 3 _ rfl)).mono ?_
 rintro ev w' ⟨rfl,rfl⟩
 exact⟨X,.bool (c==c'),rfl,rfl,hR,Ext.refl X,.bool _,rfl⟩
theorem ajJ {B:Nat} {w0:World} {X:RX} (hR:Rel B w0 env X) {c' :Int} {ab:List Value}
  (ha:a_ X [.bL,.fN 67 (.int .i64 c')] ab):Calls Tryz.prog 46 ab.toArray X.w (AM.Outcome B w0 env X (.ret ⟨.bool false,X.h,.write⟩)):=by
 cases ha with|cons _ c1 _ _ h1 hr=>
 cases hr with|cons _ c2 _ _ h2 hr=>
 cases hr with|nil=>
 cases h1 with|bL=>
 cases h2 with|fN _ _ e2 h2=>
 cases h2 with|int=>
 refine(ajs c' X.w).mono ?_
 rintro ev w' ⟨rfl,rfl⟩
 exact⟨X,.bool false,rfl,rfl,hR,Ext.refl X,.bool _,rfl⟩
theorem PM {B:Nat} {w0:World} {X:RX} (hR:Rel B w0 env X) {s:List UInt8} {ab:List Value}
  (ha:a_ X [.str s] ab):Calls Tryz.prog 149 ab.toArray X.w (AM.Outcome B w0 env X (.ret ⟨.int .i64 (cj s (s.length+1) 0),X.h,.write⟩)):=by
 cases ha with|cons _ c1 _ _ h1 hr=>
 cases hr with|nil=>
 cases h1 with|str=>
 obtain⟨hB,_,hT,_⟩:=hR.start
 have key:∀{a:Addr} {v:Value},a.block<B→w0.cell? a=some v→X.w.cell? a=some v:=fun{a v} hb e=>by
  rw[←e];simp only[World.cell?,hR.below.block _ hb]
 have hT2:Lib.Utf8Tabs 4 5 X.w:=⟨fun c hc=>key (by show 4<B;omega) (hT.1 c hc),fun i hi=>⟨key (by show 5<B;omega) (hT.2 i hi).1,key (by show 5<B;omega) (hT.2 i hi).2⟩⟩
 refine(Ik ⟨s.toArray⟩ X.w hT2).mono ?_
 rintro ev w' ⟨rfl,hb⟩
 exact⟨{X with w:=w' },.int .i64 _,rfl,rfl,hR.grow hb,Ext.grow X hb,.int _ _,rfl⟩
theorem aaG {B:Nat} {w0:World} {X:RX} (hR:Rel B w0 env X) {s:List UInt8} {c:UInt8} {ab:List Value}
  (ha:a_ X [.str s,.str [c]] ab):Calls Tryz.prog 169 ab.toArray X.w (AM.Outcome B w0 env X (.ret ⟨.int .i64 (Lib.indexByte s c),X.h,.write⟩)):=by
 cases ha with|cons _ c1 _ _ h1 hr=>
 cases hr with|cons _ c2 _ _ h2 hr=>
 cases hr with|nil=>
 cases h1 with|str=>
 cases h2 with|str=>
 refine(Tryz.stringslite_Index_one ⟨s.toArray⟩ c X.w).mono ?_
 rintro ev w' ⟨rfl,rfl⟩
 exact⟨X,.int .i64 _,rfl,rfl,hR,Ext.refl X,.int _ _,rfl⟩
theorem ajK {B:Nat} {w0:World} {X:RX} (hR:Rel B w0 env X) {id gen off:Nat} {ab:List Value}
  (ha:a_ X [.bL,.fN 71 (.ptr id gen off)] ab):Calls Tryz.prog 37 ab.toArray X.w (AM.Outcome B w0 env X (.ret ⟨.bool false,X.h,.write⟩)):=by
 cases ha with|cons _ c1 _ _ h1 hr=>
 cases hr with|cons _ c2 _ _ h2 hr=>
 cases hr with|nil=>
 cases h1 with|bL=>
 cases h2 with|fN _ _ e2 h2=>
 refine(ajt e2 X.w).mono ?_
 rintro ev w' ⟨rfl,rfl⟩
 exact⟨X,.bool false,rfl,rfl,hR,Ext.refl X,.bool false,rfl⟩
theorem T8 {B:Nat} {w0:World} {X:RX} (hR:Rel B w0 env X) {n:Int} (h0: -9223372036854775808≤n) (h1:n≤9223372036854775807) {ab:List Value}
  (ha:a_ X [.int .i64 n,.int .i64 10] ab):Calls Tryz.prog 133 ab.toArray X.w (AM.Outcome B w0 env X (.ret ⟨.str (Lib.itoa n),X.h,.write⟩)):=by
 cases ha with|cons _ c1 _ _ g1 hr=>
 cases hr with|cons _ c2 _ _ g2 hr=>
 cases hr with|nil=>
 cases g1 with|int=>
 cases g2 with|int=>
 obtain⟨hB,hs,_,t,fz,hp⟩:=hR.start
 have hp3:X.w.heap[3]? =some (.cells (Lib.pow10Tab.map fun z=>Value.int .u64 z).toArray t fz):=by
  rw[←hp];exact hR.below.block 3 (by omega)
 have htab:Lib.TabIs Tryz.prog X.w "internal/strconv.uint64pow10" .u64 Lib.pow10Tab:=by
  have hg:Tryz.prog.globalNamed "internal/strconv.uint64pow10" =some 3:=by kernel_rfl
  rw[Lib.TabIs,World.var?,hg,bag,hp3]
 refine(Any.strconv_FormatInt_10 Tryz.aaH n h0 h1 X.w htab).mono ?_
 rintro ev w' ⟨rfl,k,os,rfl⟩
 have hb:Below X.w.heap.size X.w (Go.Sort.grow (X.w.drewN k) os):=⟨rfl,rfl,rfl,by simp[Go.Sort.grow,World.drewN],fun b hb=>by simp only[Go.Sort.grow,World.drewN];rw[Array.getElem?_append_left hb]⟩
 exact⟨{X with w:=Go.Sort.grow (X.w.drewN k) os},.string ⟨(Lib.itoa n).toArray⟩,rfl,rfl,hR.grow hb,Ext.grow X hb,.str _,rfl⟩
theorem PN:j_ Tryz.prog 133:=⟨_,Tryz.func133,by kernel_rfl,by decide⟩
theorem T9:j_ Tryz.prog 37:=⟨_,Tryz.func37,by kernel_rfl,by decide⟩
theorem PO:j_ Tryz.prog 149:=⟨_,Tryz.func149,by kernel_rfl,by decide⟩
theorem PQ:j_ Tryz.prog 169:=⟨_,Tryz.func169,by kernel_rfl,by decide⟩
theorem T_:j_ Tryz.prog 46:=⟨_,Tryz.func46,by kernel_rfl,by decide⟩
theorem adB:∀f p,env.nU f=some p→j_ Tryz.prog f∧∀args h v h',p args h=some (v,h')→∀(B:Nat) (w0:World) (X:RX) (ab:List Value),Rel B w0 env X→X.h=h→a_ X args ab→
  Calls Tryz.prog f ab.toArray X.w (AM.Outcome B w0 env X (.ret ⟨v,h',.write⟩)):=by
 intro f p hp;have hp' :aaq f=some p:=hp
 unfold aaq at hp'
 split at hp'
 ·cases hp'
  refine⟨T9,fun args h v h' hc B w0 X ab hR hX ha=> ?_⟩
  subst hX;unfold asP at hc
  split at hc
  ·simp only[bac]at hc
   obtain⟨os,hat,hc⟩:=hc
   split at hc
   ·rename_i hoff
    cases hc;exact an3 hR hat hoff ha
   ·cases hc
  ·cases hc
   exact ajK hR ha
  ·cases hc
 ·cases hp'
  refine⟨T_,fun args h v h' hc B w0 X ab hR hX ha=> ?_⟩
  subst hX;unfold isP at hc
  split at hc
  ·cases hc
   exact an4 hR ha
  ·cases hc
   exact ajH hR ha
  ·cases hc
   exact ajI hR ha
  ·cases hc
   exact ajJ hR ha
  ·cases hc
 ·cases hp'
  refine⟨PN,fun args h v h' hc B w0 X ab hR hX ha=> ?_⟩
  subst hX;unfold GG at hc
  split at hc
  ·split at hc
   ·rename_i hn
    cases hc;exact T8 hR hn.1 hn.2 ha
   ·cases hc
  ·cases hc
 ·cases hp'
  refine⟨PO,fun args h v h' hc B w0 X ab hR hX ha=> ?_⟩
  subst hX;unfold KO at hc
  split at hc
  ·cases hc
   exact PM hR ha
  ·cases hc
 ·cases hp'
  refine⟨PQ,fun args h v h' hc B w0 X ab hR hX ha=> ?_⟩
  subst hX;unfold aap at hc
  split at hc
  ·cases hc
   exact aaG hR ha
  ·cases hc
 ·cases hp'
end Go.Bf
