/- For BifCalls. -/
import Derived.Test.YtaielgjmhbjfhaaGreatDoorBfCalls10
set_option linter.unusedVariables false
set_option maxRecDepth 20000
namespace Go.Bf
open Go.AM
def Tl (l:List Tm) (f:Option Bool):Tm:=.mk 5 0 [] 0 none [] f l
theorem L5 {l:List Tm} (h:gW l) (f:Option Bool) (hn:l.length≤1000000000):(Tl l f).Ok:=by
 rw[Tl,Tm.Ok];exact⟨⟨by decide,by decide⟩,⟨by decide,by decide⟩,⟨by decide,by decide⟩,by simp,by decide,by decide,by omega,h⟩
theorem k_ {n:Int} (h1: -9223372036854775808≤n) (h2:n<9223372036854775808):(fD n).Ok:=by
 rw[fD,Tm.Ok,gW];exact⟨⟨by decide,by decide⟩,⟨h1,by omega⟩,⟨by decide,by decide⟩,by simp,by decide,by decide,by decide,trivial⟩
theorem abH {l:List Tm} (h:gW l) {w:Tm} (hw:w.Ok) (i:Nat):gW (l.set i w):=nK fun x m=>by
 rcases List.mem_or_eq_of_mem_set m with m|rfl
 ·exact h.get m
 ·exact hw
theorem Vu {l m:List Tm} (h:kY l=kY m) (f g:Option Bool):er (Tl l f)=er (Tl m g):=by
 rw[Tl,Tl,er,er,h]
theorem FK {l m:List Tm} (h:kY l=kY m) (i:Nat) (h1:i<l.length) (h2:i<m.length):er l[i]=er m[i]:=by
 rw[pG,pG]at h
 have e:(l.map er)[i]'(by simpa using h1)=(m.map er)[i]'(by simpa using h2):=by simp only[h]
 simpa using e
theorem Vv:∃p q r s,cx [115,101,116,101,108,101,109,101,110,116] 3=.aF [.agg [p,q,r,s],.bool true]:=⟨_,_,_,_,rfl⟩
theorem Vw:∃p q r s,cx [101,108,101,109,101,110,116] 2=.aF [.agg [p,q,r,s],.bool true]:=⟨_,_,_,_,rfl⟩
theorem apX {a b c:Tm} (oka:a.Ok) (okb:b.Ok) (okc:c.Ok):gW [a,b,c]:=⟨oka,okb,okc,trivial⟩
theorem apY {a b c:Tm} (ta:dk a=true) (tb:dk b=true) (td:dk c=true):∀t,t∈[a,b,c]→dk t=true:=by
 intro t m
 rcases bbi.1 m with rfl|m
 ·exact ta
 ·exact fT tb td t m
end Go.Bf
namespace Go.Bf
open Go.AM
abbrev fA (name:List UInt8) (v:AV):Prop:=tK name v∨py name v
theorem eJ {t:Tm} (h:dk t=true) (k:t.kind=1):Small t.int:=by
 rcases t with⟨k',i,s,c,nf,ns,af,ar⟩
 have k:k' =1:=k
 subst k;rw[vO,hJ,cR,if_neg (by decide),if_neg (by decide)]at h
 cases ef:bw (.mk 1 i s c nf ns af ar)with
 |some x=>rw[ef]at h;cases h
 |none=>
  rw[bw]at ef
  split at ef
  ·cases ef
  ·rw[if_pos rfl]at ef
   split at ef
   ·cases ef
   ·rename_i hn
    exact⟨by show _≤i;omega,by show i≤_;omega⟩
theorem lY {n:Int} (h:¬Small n):dk (fD n)=false:=by
 cases e:dk (fD n)with
 |false=>rfl
 |true=>exact absurd (eJ e rfl) h
theorem aha {t:Tm} (h:dk t=true) (k:t.kind=1):er t=er (fD t.int):=by
 have w:=dL h
 rcases t with⟨k',i,s,c,nf,ns,af,ar⟩
 have k:k' =1:=k
 subst k;have hk:=w.1.1;rw[kindOk,if_pos rfl]at hk
 simp[b7]at hk
 obtain⟨⟨hs,hn,hc⟩,ha⟩:=hk
 show er (.mk 1 i s c nf ns af ar)=er (.mk 1 i [] 0 none [] none [])
 rw[er,er,hs,hn,hc,ha]
theorem alk:∃p q r s,cx [61,61] 2=.aF [.agg [p,q,r,s],.bool true]:=⟨_,_,_,_,rfl⟩
theorem ahb:∃p q r s,cx [61,58,61] 2=.aF [.agg [p,q,r,s],.bool true]:=⟨_,_,_,_,rfl⟩
theorem alm:∃p q r s,cx [47,61] 2=.aF [.agg [p,q,r,s],.bool true]:=⟨_,_,_,_,rfl⟩
theorem ahc:∃p q r s,cx [61,47,61] 2=.aF [.agg [p,q,r,s],.bool true]:=⟨_,_,_,_,rfl⟩
theorem aln:∃p q r s,cx [61,60] 2=.aF [.agg [p,q,r,s],.bool true]:=⟨_,_,_,_,rfl⟩
theorem alo:∃p q r s,cx [60] 2=.aF [.agg [p,q,r,s],.bool true]:=⟨_,_,_,_,rfl⟩
theorem alp:∃p q r s,cx [62,61] 2=.aF [.agg [p,q,r,s],.bool true]:=⟨_,_,_,_,rfl⟩
theorem alq:∃p q r s,cx [62] 2=.aF [.agg [p,q,r,s],.bool true]:=⟨_,_,_,_,rfl⟩
theorem ahd:∃p q r s,cx [109,97,120] 2=.aF [.agg [p,q,r,s],.bool true]:=⟨_,_,_,_,rfl⟩
theorem ahe:∃p q r s,cx [109,105,110] 2=.aF [.agg [p,q,r,s],.bool true]:=⟨_,_,_,_,rfl⟩
theorem ahf:∃p q r s,cx [97,110,100] 2=.aF [.agg [p,q,r,s],.bool true]:=⟨_,_,_,_,rfl⟩
theorem alr:∃p q r s,cx [111,114] 2=.aF [.agg [p,q,r,s],.bool true]:=⟨_,_,_,_,rfl⟩
theorem ahg:∃p q r s,cx [120,111,114] 2=.aF [.agg [p,q,r,s],.bool true]:=⟨_,_,_,_,rfl⟩
theorem ahh:∃p q r s,cx [43] 2=.aF [.agg [p,q,r,s],.bool true]:=⟨_,_,_,_,rfl⟩
theorem ahi:∃p q r s,cx [45] 2=.aF [.agg [p,q,r,s],.bool true]:=⟨_,_,_,_,rfl⟩
theorem ahj:∃p q r s,cx [100,105,118] 2=.aF [.agg [p,q,r,s],.bool true]:=⟨_,_,_,_,rfl⟩
theorem ahk:∃p q r s,cx [114,101,109] 2=.aF [.agg [p,q,r,s],.bool true]:=⟨_,_,_,_,rfl⟩
theorem L6:∃p q r s,cx [105,115,95,97,116,111,109] 1=.aF [.agg [p,q,r,s],.bool true]:=⟨_,_,_,_,rfl⟩
theorem C3:∃p q r s,cx [105,115,95,105,110,116,101,103,101,114] 1=.aF [.agg [p,q,r,s],.bool true]:=⟨_,_,_,_,rfl⟩
theorem Tn:∃p q r s,cx [105,115,95,112,105,100] 1=.aF [.agg [p,q,r,s],.bool true]:=⟨_,_,_,_,rfl⟩
theorem yP:∃p q r s,cx [105,115,95,114,101,102,101,114,101,110,99,101] 1=.aF [.agg [p,q,r,s],.bool true]:=⟨_,_,_,_,rfl⟩
theorem JQ:∃p q r s,cx [105,115,95,116,117,112,108,101] 1=.aF [.agg [p,q,r,s],.bool true]:=⟨_,_,_,_,rfl⟩
theorem C4:∃p q r s,cx [105,115,95,98,111,111,108,101,97,110] 1=.aF [.agg [p,q,r,s],.bool true]:=⟨_,_,_,_,rfl⟩
theorem L7:∃p q r s,cx [105,115,95,108,105,115,116] 1=.aF [.agg [p,q,r,s],.bool true]:=⟨_,_,_,_,rfl⟩
theorem ahl:∃p q r s,cx [110,111,116] 1=.aF [.agg [p,q,r,s],.bool true]:=⟨_,_,_,_,rfl⟩
theorem To:∃p q r s,cx [108,101,110,103,116,104] 1=.aF [.agg [p,q,r,s],.bool true]:=⟨_,_,_,_,rfl⟩
theorem xl:∃p q r s,cx [108,105,115,116,95,116,111,95,116,117,112,108,101] 1=.aF [.agg [p,q,r,s],.bool true]:=⟨_,_,_,_,rfl⟩
theorem C5:∃p q r s,cx [116,117,112,108,101,95,115,105,122,101] 1=.aF [.agg [p,q,r,s],.bool true]:=⟨_,_,_,_,rfl⟩
theorem xm:∃p q r s,cx [116,117,112,108,101,95,116,111,95,108,105,115,116] 1=.aF [.agg [p,q,r,s],.bool true]:=⟨_,_,_,_,rfl⟩
theorem ahm:∃p q r s,cx [97,98,115] 1=.aF [.agg [p,q,r,s],.bool true]:=⟨_,_,_,_,rfl⟩
section
variable {v : AV} {a b : Tm} (kv : Sl v [a, b]) (oka : a.Ok) (okb : b.Ok) (ta : dk a = true) (tb : dk b = true)
include kv oka okb ta tb
theorem abI:fA [61,61] v:=by
 obtain⟨d1,d2,d3,d4,fp⟩:=alk
 exact bk (gb oka okb) kv (by simp) fp (fT ta tb) (bR _) (bR _) rfl (ahn kv oka okb ta tb) (ag3 kv oka okb ta tb)
theorem Vx:fA [61,58,61] v:=by
 obtain⟨d1,d2,d3,d4,fp⟩:=ahb
 exact bk (gb oka okb) kv (by simp) fp (fT ta tb) (bR _) (bR _) rfl (abJ kv oka okb ta tb) (abC kv oka okb ta tb)
theorem abK:fA [47,61] v:=by
 obtain⟨d1,d2,d3,d4,fp⟩:=alm
 exact bk (gb oka okb) kv (by simp) fp (fT ta tb) (bR _) (bR _) rfl (aho kv oka okb ta tb) (ag4 kv oka okb ta tb)
theorem Vy:fA [61,47,61] v:=by
 obtain⟨d1,d2,d3,d4,fp⟩:=ahc
 exact bk (gb oka okb) kv (by simp) fp (fT ta tb) (bR _) (bR _) rfl (abL kv oka okb ta tb) (abD kv oka okb ta tb)
theorem abM:fA [61,60] v:=by
 obtain⟨d1,d2,d3,d4,fp⟩:=aln
 exact bk (gb oka okb) kv (by simp) fp (fT ta tb) (bR _) (bR _) rfl (ahp kv oka okb ta tb) (ag5 kv oka okb ta tb)
theorem abN:fA [60] v:=by
 obtain⟨d1,d2,d3,d4,fp⟩:=alo
 exact bk (gb oka okb) kv (by simp) fp (fT ta tb) (bR _) (bR _) rfl (ahq kv oka okb ta tb) (ag6 kv oka okb ta tb)
theorem abO:fA [62,61] v:=by
 obtain⟨d1,d2,d3,d4,fp⟩:=alp
 exact bk (gb oka okb) kv (by simp) fp (fT ta tb) (bR _) (bR _) rfl (ahr kv oka okb ta tb) (ag7 kv oka okb ta tb)
theorem abP:fA [62] v:=by
 obtain⟨d1,d2,d3,d4,fp⟩:=alq
 exact bk (gb oka okb) kv (by simp) fp (fT ta tb) (bR _) (bR _) rfl (ahs kv oka okb ta tb) (ag8 kv oka okb ta tb)
theorem Vz:fA [109,97,120] v:=by
 obtain⟨d1,d2,d3,d4,fp⟩:=ahd
 refine bk (gb oka okb) kv (by simp) fp (fT ta tb) ?_ ?_ rfl (abQ kv oka okb ta tb) (abE kv oka okb ta tb)<;>(split<;>assumption)
theorem VA:fA [109,105,110] v:=by
 obtain⟨d1,d2,d3,d4,fp⟩:=ahe
 refine bk (gb oka okb) kv (by simp) fp (fT ta tb) ?_ ?_ rfl (abR kv oka okb ta tb) (abF kv oka okb ta tb)<;>(split<;>assumption)
theorem VB:fA [97,110,100] v:=by
 obtain⟨d1,d2,d3,d4,fp⟩:=ahf
 have w1:=Te a b
 have w2:=fun h=>LX kv h
 cases ea:cn a with
 |none=>
  rw[ea]at w1 w2
  exact bH (gb oka okb) kv (by simp) fp (fT ta tb) (by decide) (FL kv w1) (Fl kv.ae w2)
 |some x=>
  rw[ea]at w1 w2
  cases eb:cn b with
  |none=>
   rw[eb]at w1 w2
   exact bH (gb oka okb) kv (by simp) fp (fT ta tb) (by decide) (FL kv w1) (Fl kv.ae w2)
  |some y=>
   rw[eb]at w1 w2
   exact bk (gb oka okb) kv (by simp) fp (fT ta tb) (bR _) (bR _) rfl (FL kv w1) (Fl kv.ae w2)
theorem abS:fA [111,114] v:=by
 obtain⟨d1,d2,d3,d4,fp⟩:=alr
 have w1:=Vr a b
 have w2:=fun h=>Tf kv h
 cases ea:cn a with
 |none=>
  rw[ea]at w1 w2
  exact bH (gb oka okb) kv (by simp) fp (fT ta tb) (by decide) (L8 kv w1) (LN kv.ae w2)
 |some x=>
  rw[ea]at w1 w2
  cases eb:cn b with
  |none=>
   rw[eb]at w1 w2
   exact bH (gb oka okb) kv (by simp) fp (fT ta tb) (by decide) (L8 kv w1) (LN kv.ae w2)
  |some y=>
   rw[eb]at w1 w2
   exact bk (gb oka okb) kv (by simp) fp (fT ta tb) (bR _) (bR _) rfl (L8 kv w1) (LN kv.ae w2)
theorem VC:fA [120,111,114] v:=by
 obtain⟨d1,d2,d3,d4,fp⟩:=ahg
 have w1:=Ec a b
 have w2:=fun h=>LY kv h
 cases ea:cn a with
 |none=>
  rw[ea]at w1 w2
  exact bH (gb oka okb) kv (by simp) fp (fT ta tb) (by decide) (FM kv w1) (Fm kv.ae w2)
 |some x=>
  rw[ea]at w1 w2
  cases eb:cn b with
  |none=>
   rw[eb]at w1 w2
   exact bH (gb oka okb) kv (by simp) fp (fT ta tb) (by decide) (FM kv w1) (Fm kv.ae w2)
  |some y=>
   rw[eb]at w1 w2
   exact bk (gb oka okb) kv (by simp) fp (fT ta tb) (bR _) (bR _) rfl (FM kv w1) (Fm kv.ae w2)
theorem VD:fA [43] v:=by
 obtain⟨d1,d2,d3,d4,fp⟩:=ahh
 by_cases hk:a.kind=1∧b.kind=1
 ·obtain⟨ka,kb⟩:=hk
  have hx:=eJ ta ka
  have hy:=eJ tb kb
  by_cases hv:Small (a.int+b.int)
  ·exact bk (gb oka okb) kv (by simp) fp (fT ta tb) (ok_int hv) (ok_int hv) rfl (FN kv (JO ka kb hx hy hv)) (vA kv.ae (Ed kv ka kb hx hy))
  ·exact qR (gb oka okb) kv (by simp) fp (fT ta tb) (k_ (by have:=hx.1;have:=hx.2;have:=hy.1;have:=hy.2;omega) (by have:=hx.1;have:=hx.2;have:=hy.1;have:=hy.2;omega)) (lY hv) (FN kv (FH ka kb hx hy hv)) (vA kv.ae (Ed kv ka kb hx hy))
 ·have hk:a.kind≠1∨b.kind≠1:=by
   by_cases e:a.kind=1
   ·exact .inr fun e2=>hk ⟨e,e2⟩
   ·exact .inl e
  exact bH (gb oka okb) kv (by simp) fp (fT ta tb) (by decide) (FN kv (jZ _ hk)) (vA kv.ae (lX kv hk))
theorem VE:fA [45] v:=by
 obtain⟨d1,d2,d3,d4,fp⟩:=ahi
 by_cases hk:a.kind=1∧b.kind=1
 ·obtain⟨ka,kb⟩:=hk
  have hx:=eJ ta ka
  have hy:=eJ tb kb
  by_cases hv:Small (a.int-b.int)
  ·exact bk (gb oka okb) kv (by simp) fp (fT ta tb) (ok_int hv) (ok_int hv) rfl (FO kv (JP ka kb hx hy hv)) (so kv.ae (Ee kv ka kb hx hy))
  ·exact qR (gb oka okb) kv (by simp) fp (fT ta tb) (k_ (by have:=hx.1;have:=hx.2;have:=hy.1;have:=hy.2;omega) (by have:=hx.1;have:=hx.2;have:=hy.1;have:=hy.2;omega)) (lY hv) (FO kv (vN ka kb hx hy hv)) (so kv.ae (Ee kv ka kb hx hy))
 ·have hk:a.kind≠1∨b.kind≠1:=by
   by_cases e:a.kind=1
   ·exact .inr fun e2=>hk ⟨e,e2⟩
   ·exact .inl e
  exact bH (gb oka okb) kv (by simp) fp (fT ta tb) (by decide) (FO kv (jZ _ hk)) (so kv.ae (lX kv hk))
theorem VF:fA [100,105,118] v:=by
 obtain⟨d1,d2,d3,d4,fp⟩:=ahj
 by_cases hk:a.kind=1∧b.kind=1
 ·obtain⟨ka,kb⟩:=hk
  have hx:=eJ ta ka
  have hy:=eJ tb kb
  by_cases hy0:b.int=0
  ·exact bH (gb oka okb) kv (by simp) fp (fT ta tb) (by decide) (zB kv (C1 ka kb hy0)) (zy kv.ae (Bv kv ka kb hy0))
  by_cases hv:Small (a.int.tdiv b.int)
  ·exact bk (gb oka okb) kv (by simp) fp (fT ta tb) (ok_int hv) (ok_int hv) rfl (zB kv (Vs ka kb hx hy hy0 hv)) (zy kv.ae (Ef kv ka kb hx hy hy0))
  ·exact qR (gb oka okb) kv (by simp) fp (fT ta tb) (k_ (by have:=j0 (y:=b.int) hx;omega) (by have:=j0 (y:=b.int) hx;omega)) (lY hv) (zB kv (FI ka kb hx hy hy0 hv)) (zy kv.ae (Ef kv ka kb hx hy hy0))
 ·have hk:a.kind≠1∨b.kind≠1:=by
   by_cases e:a.kind=1
   ·exact .inr fun e2=>hk ⟨e,e2⟩
   ·exact .inl e
  exact bH (gb oka okb) kv (by simp) fp (fT ta tb) (by decide) (zB kv (jZ _ hk)) (zy kv.ae (lX kv hk))
theorem VG:fA [114,101,109] v:=by
 obtain⟨d1,d2,d3,d4,fp⟩:=ahk
 by_cases hk:a.kind=1∧b.kind=1
 ·obtain⟨ka,kb⟩:=hk
  have hx:=eJ ta ka
  have hy:=eJ tb kb
  by_cases hy0:b.int=0
  ·exact bH (gb oka okb) kv (by simp) fp (fT ta tb) (by decide) (zC kv (C2 ka kb hy0)) (zz kv.ae (Bw kv ka kb hy0))
  by_cases hv:Small (a.int.tmod b.int)
  ·exact bk (gb oka okb) kv (by simp) fp (fT ta tb) (ok_int hv) (ok_int hv) rfl (zC kv (Vt ka kb hx hy hy0 hv)) (zz kv.ae (Eg kv ka kb hx hy hy0))
  ·exact qR (gb oka okb) kv (by simp) fp (fT ta tb) (k_ (by have h9:=oC (y:=b.int) hx;have h8:=h9.1;omega) (by have h9:=oC (y:=b.int) hx;have h8:=h9.2;omega)) (lY hv) (zC kv (FJ ka kb hx hy hy0 hv)) (zz kv.ae (Eg kv ka kb hx hy hy0))
 ·have hk:a.kind≠1∨b.kind≠1:=by
   by_cases e:a.kind=1
   ·exact .inr fun e2=>hk ⟨e,e2⟩
   ·exact .inl e
  exact bH (gb oka okb) kv (by simp) fp (fT ta tb) (by decide) (zC kv (jZ _ hk)) (zz kv.ae (lX kv hk))
end
section
variable {v : AV} {t : Tm} (kv : Sl v [t]) (okt : t.Ok) (tt : dk t = true)
include kv okt tt
theorem FP:fA [105,115,95,97,116,111,109] v:=by
 obtain⟨d1,d2,d3,d4,fp⟩:=L6
 exact bk (ts:=[t]) ⟨okt,trivial⟩ kv (by simp) fp (gf tt) (bR _) (bR _) (rfl) (JE kv) (JC kv.ae (JF kv))
theorem yQ:fA [105,115,95,105,110,116,101,103,101,114] v:=by
 obtain⟨d1,d2,d3,d4,fp⟩:=C3
 exact bk (ts:=[t]) ⟨okt,trivial⟩ kv (by simp) fp (gf tt) (bR _) (bR _) (rfl) (Bq kv) (Be kv.ae (Br kv))
theorem JR:fA [105,115,95,112,105,100] v:=by
 obtain⟨d1,d2,d3,d4,fp⟩:=Tn
 exact bk (ts:=[t]) ⟨okt,trivial⟩ kv (by simp) fp (gf tt) (bR _) (bR _) (rfl) (LV kv) (LO kv.ae (LW kv))
theorem vP:fA [105,115,95,114,101,102,101,114,101,110,99,101] v:=by
 obtain⟨d1,d2,d3,d4,fp⟩:=yP
 exact bk (ts:=[t]) ⟨okt,trivial⟩ kv (by simp) fp (gf tt) (bR _) (bR _) (rfl) (xi kv) (xf kv.ae (xj kv))
theorem C6:fA [105,115,95,116,117,112,108,101] v:=by
 obtain⟨d1,d2,d3,d4,fp⟩:=JQ
 exact bk (ts:=[t]) ⟨okt,trivial⟩ kv (by simp) fp (gf tt) (bR _) (bR _) (rfl) (FB kv) (Fp kv.ae (FC kv))
theorem yR:fA [105,115,95,98,111,111,108,101,97,110] v:=by
 obtain⟨d1,d2,d3,d4,fp⟩:=C4
 exact bk (ts:=[t]) ⟨okt,trivial⟩ kv (by simp) fp (gf tt) (bR _) (bR _) (rfl) (Bs kv) (Bd kv.ae (Bt kv))
theorem FQ:fA [105,115,95,108,105,115,116] v:=by
 obtain⟨d1,d2,d3,d4,fp⟩:=L7
 exact bk (ts:=[t]) ⟨okt,trivial⟩ kv (by simp) fp (gf tt) (bR _) (bR _) (by rw[Bool.or_comm]) (JH kv) (JD kv.ae (JI kv))
theorem VH:fA [110,111,116] v:=by
 obtain⟨d1,d2,d3,d4,fp⟩:=ahl
 have w1:=Ec t (gZ [116,114,117,101])
 have eb:cn (gZ [116,114,117,101])=some true:=by decide
 rw[eb]at w1
 have w2:=fun h=>LZ kv h
 cases ea:cn t with
 |none=>
  rw[ea]at w1 w2
  exact bH (ts:=[t]) ⟨okt,trivial⟩ kv (by simp) fp (gf tt) (by decide) (Qw kv w1) (Qu kv.ae w2)
 |some x=>
  rw[ea]at w1 w2
  exact bk (ts:=[t]) ⟨okt,trivial⟩ kv (by simp) fp (gf tt) (bR _) (bR _) (by cases x<;>rfl) (Qw kv w1) (Qu kv.ae w2)
theorem yS:fA [116,117,112,108,101,95,115,105,122,101] v:=by
 obtain⟨d1,d2,d3,d4,fp⟩:=C5
 have w:=dL tt
 obtain⟨hl,_⟩:=j1 w
 by_cases k5:t.kind=5
 ·exact bk (ts:=[t]) ⟨okt,trivial⟩ kv (by simp) fp (gf tt) (ok_int ⟨by omega,by omega⟩) (ok_int ⟨by omega,by omega⟩) rfl (qT kv.ae (yN kv k5)) (qS kv.ae (qU kv (yT kv w k5)))
 ·exact bH (ts:=[t]) ⟨okt,trivial⟩ kv (by simp) fp (gf tt) (by decide) (qT kv.ae (tL kv k5)) (qS kv.ae (qU kv (tM kv w k5)))
theorem JS:fA [108,101,110,103,116,104] v:=by
 obtain⟨d1,d2,d3,d4,fp⟩:=To
 have w:=dL tt
 cases e:bW t with
 |some l=>
  have hl:=(dY w e).1
  exact bk (ts:=[t]) ⟨okt,trivial⟩ kv (by simp) fp (gf tt) (ok_int ⟨by omega,by omega⟩) (ok_int ⟨by omega,by omega⟩) rfl (Bx kv.ae (JT kv w e)) (Bh kv.ae (By kv (JU kv w e)))
 |none=>exact bH (ts:=[t]) ⟨okt,trivial⟩ kv (by simp) fp (gf tt) (by decide) (Bx kv.ae (Bz kv w e)) (Bh kv.ae (By kv (BA kv w e)))
theorem VI:fA [108,105,115,116,95,116,111,95,116,117,112,108,101] v:=by
 obtain⟨d1,d2,d3,d4,fp⟩:=xl
 have w:=dL tt
 cases e:bW t with
 |some l=>
  have hl:=(dY w e).1
  have okl:gW l:=nK fun x hx=>(eP okt).get ((dY w e).2 x hx)
  obtain⟨f,w1⟩:=VJ kv w e
  obtain⟨g,w2⟩:=tN kv w e
  exact bk (ts:=[t]) ⟨okt,trivial⟩ kv (by simp) fp (gf tt) (L5 okl f (by omega)) (L5 okl g (by omega)) (Vu rfl f g) (Qx kv.ae w1) (mz kv.ae (mG kv w2))
 |none=>exact bH (ts:=[t]) ⟨okt,trivial⟩ kv (by simp) fp (gf tt) (by decide) (Qx kv.ae (JV kv w e)) (mz kv.ae (mG kv (qm kv w e)))
theorem VK:fA [116,117,112,108,101,95,116,111,95,108,105,115,116] v:=by
 obtain⟨d1,d2,d3,d4,fp⟩:=xm
 have w:=dL tt
 obtain⟨hl,_⟩:=j1 w
 by_cases k5:t.kind=5
 ·obtain⟨f,w1⟩:=VL kv k5 (by omega)
  obtain⟨g,w2⟩:=tP kv w k5
  exact bk (ts:=[t]) ⟨okt,trivial⟩ kv (by simp) fp (gf tt) (iO (eP okt) pH f (by omega) (by show(0:Nat)≤_;omega)) (iO (eP okt) pH g (by omega) (by show(0:Nat)≤_;omega)) (BB rfl f g) (Qy kv.ae w1) (mC kv.ae (mH kv w2))
 ·exact bH (ts:=[t]) ⟨okt,trivial⟩ kv (by simp) fp (gf tt) (by decide) (Qy kv.ae (JW kv k5)) (mC kv.ae (mH kv (qn kv w k5)))
theorem VM:fA [97,98,115] v:=by
 obtain⟨d1,d2,d3,d4,fp⟩:=ahm
 by_cases k1:t.kind=1
 ·have hs:=eJ tt k1
  have s1:=hs.1;have s2:=hs.2
  by_cases hn:t.int<0
  ·have ea:Ti t.int= -t.int:=by rw[Ti,if_pos (by omega)]
   have w1:=JK kv k1 hs
   rw[ea]at w1
   exact bk (ts:=[t]) ⟨okt,trivial⟩ kv (by simp) fp (gf tt) (k_ (by omega) (by omega)) (k_ (by omega) (by omega)) rfl (FF kv.ae w1) (Fo kv.ae (JM kv k1 hs hn))
  ·have ea:Ti t.int=t.int:=by rw[Ti,if_neg (by omega)]
   have w1:=JK kv k1 hs
   rw[ea]at w1
   exact bk (ts:=[t]) ⟨okt,trivial⟩ kv (by simp) fp (gf tt) (ok_int hs) okt (aha tt k1).symm (FF kv.ae w1) (Fo kv.ae (JN kv k1 hn))
 ·exact bH (ts:=[t]) ⟨okt,trivial⟩ kv (by simp) fp (gf tt) (by decide) (FF kv.ae (JL kv k1)) (Fo kv.ae (L4 kv k1))
end
end Go.Bf
namespace Go.Bf
open Go.AM
theorem L9 (a b:Tm) (wa:Wf a) (hb:b.args.length≤4096) {l:List Tm} (e:bW a=some l):∃f,∀h,WC env 76 [.str [43,43],.agg (tc a),.agg (tc b)] h (fun o=>o=.ret ⟨.aF [.agg (tc (b_ l b f)),.int .i64 0],h,.none⟩):=by
 have hl:=(dY wa e).1
 obtain⟨v,kv,w1⟩:=bB a wa
 rw[e]at w1 kv
 have kv:Sl v l:=kv
 obtain⟨f,wl⟩:=lZ kv b (by omega) (by omega)
 refine⟨f,fun h=>ad rfl rfl rfl (by simp only[bdk,az]) ?_⟩
 simp only[a76,Ei,Ej,Ek,JX,VN,ah.bbw,aw,reduceIte,Nat.reduceEqDiff,aD,bQ,UInt8.reduceToNat,ai (w1 _),Option.isSome_some,baj,ai (wl _),aW,Nat.reduceAdd,t3]
theorem BC {N:List UInt8} (a b:Tm) (wa:Wf a) (e:bW a=none) (h:Heap):WC env 76 [.str N,.agg (tc a),.agg (tc b)] h (fun o=>o=.ret ⟨.aF [.agg (tc bZ),.int .i64 261],h,.none⟩):=by
 obtain⟨v,kv,w1⟩:=bB a wa
 rw[e]at w1 kv
 refine ad rfl rfl rfl (by simp only[bdk,az]) ?_
 simp only[a76,Ei,Ej,Ek,VO,ah.bbw,aw,reduceIte,Nat.reduceEqDiff,ai (w1 _),Option.isSome_none,bak,bc,aW,Nat.reduceAdd,t3]
theorem aey:∃p q r s,cx [43,43] 2=.aF [.agg [p,q,r,s],.bool true]:=⟨_,_,_,_,rfl⟩
theorem FR {v:AV} {a b:Tm} (kv:Sl v [a,b]) (oka:a.Ok) (okb:b.Ok) (ta:dk a=true) (tb:dk b=true) {l:List Tm} (e:bW a=some l):fA [43,43] v:=by
 obtain⟨d1,d2,d3,d4,fp⟩:=aey
 have wa:=dL ta
 have wb:=dL tb
 obtain⟨hb,_⟩:=j1 wb
 have hl:=(dY wa e).1
 have okl:gW l:=nK fun x hx=>(eP oka).get ((dY wa e).2 x hx)
 obtain⟨f,w1⟩:=Tp a b wa wb e
 obtain⟨g,w2⟩:=L9 a b wa hb e
 have same:er (b_ l b f)=er (b_ l b g):=by
  rw[b_,b_];split
  ·rfl
  ·split<;>rw[er,er]
 exact bk (gb oka okb) kv (by simp) fp (fT ta tb) (iO okl okb f (by omega) (by omega)) (iO okl okb g (by omega) (by omega)) same (VP kv w1) (Vq kv w2)
theorem Tq (a b:Tm) (wa:Wf a) (wb:Wf b) (e:bW a=none) (h:Heap):WC env 65 [.str [43,43],.agg (tc a),.agg (tc b)] h (fun o=>o=.ret ⟨.aF [.agg (tc bZ),.int .i64 261],h,.none⟩):=by
 obtain⟨v,kv,w1⟩:=cA a wa
 obtain⟨u,ku,w2⟩:=cA b wb
 rw[e]at w1 kv
 refine ad rfl rfl rfl (by simp only[bdk,az]) ?_
 simp only[a65,BD,BE,BF,BG,JY,JZ,Qz,QA,QB,FX,ah.bbw,aw,reduceIte,Nat.reduceEqDiff,aE,aW,Nat.reduceAdd,t3,ai (w1 _),ai (w2 _),Option.isSome_none,dm,bak,bc]
theorem abT {v:AV} {a b:Tm} (kv:Sl v [a,b]) (oka:a.Ok) (okb:b.Ok) (ta:dk a=true) (tb:dk b=true):fA [43,43] v:=by
 obtain⟨d1,d2,d3,d4,fp⟩:=aey
 have wa:=dL ta
 cases e:bW a with
 |some l=>exact FR kv oka okb ta tb e
 |none=>exact bH (gb oka okb) kv (by simp) fp (fT ta tb) (by decide) (VP kv (Tq a b wa (dL tb) e)) (Vq kv (BC a b wa e))
end Go.Bf
namespace Go.Bf
open Go.AM
inductive kM (h:Heap) (lo:Nat):AV→List Tm→Prop
 |full:kM h lo (.fs true 0 []) []
 |sl (id gen:Nat) (l:List Tm):h.at_ id gen=some (bq l)→lo≤id→kM h lo (.sl id gen 0 6 l.length none) l
theorem kM.mo {h:Heap} {lo:Nat} {v:AV} {l:List Tm} (k:kM h lo v l) (h2:Heap):aN false h2 v=some ⟨.int .i64 l.length,h2,.none⟩:=by
 cases k<;>rfl
theorem kM.mono {h:Heap} {lo lo' :Nat} {v:AV} {l:List Tm} (k:kM h lo v l) (hl:lo' ≤lo):kM h lo' v l:=by
 cases k with
 |full=>exact .full
 |sl id gen l h1 h2=>exact .sl id gen l h1 (bal hl h2)
theorem kM.acc {h:Heap} {lo:Nat} {v:AV} {l:List Tm} (k:kM h lo v l):Acc h 6 v (bq l)∧cr v=some l.length∧∀id,v.own=some id→lo≤id:=by
 cases k with
 |full=>exact⟨.full 0 [] rfl,rfl,fun id e=>by cases e⟩
 |sl id gen l h1 h2=>exact⟨.sl id gen _ _ h1 (bl l),rfl,fun id e=>by cases e;exact h2⟩
theorem kM.ld {h:Heap} {lo:Nat} {v:AV} {l:List Tm} (k:kM h lo v l) {i:Nat} (hi:i<l.length):∃p,aZ 6 v (.int .i64 i)=some p∧bg h true 6 p=some ⟨.agg (tc l[i]),h,.read⟩:=by
 cases k with
 |full=>simp at hi
 |sl id gen l h1 h2=>
  refine⟨.ptr id gen (0+i*6),?_,?_⟩
  ·simp only[aZ,gO (kd:=.i64) hi,jak]
  ·have e:bp true 6 ((bq l).drop (0+i*6))=some (.agg (tc l[i])):=by
    rw[baf,gQ l i hi];cases l[i];rfl
   rw[aQ,h1,bag,e];rfl
theorem xn {h:Heap} {v:AV} {l:List Tm} (k:Src h v l) (hn:l.length≤100000) (ho:an h):∃v' h' c,b9 h 6 88 (.fs true 0 []) v=some ⟨v',h',c⟩∧an h' ∧h.le h' ∧kM h' h.next v' l:=by
 by_cases hl:l=[]
 ·subst hl
  refine⟨.fs true 0 [],h,.none,?_,ho,Heap.le_refl h,.full⟩
  unfold b9
  rw[k.len];rfl
 ·have ll:l.length≠0:=fun e=>hl (bay.1 e)
  obtain⟨c,hc⟩:=k.cells
  refine⟨.sl h.next 0 0 6 l.length none,h.new (bq l),.write,?_,ho.new _,cz ho _,.sl _ _ _ (aY _) (bab _)⟩
  unfold b9
  rw[k.len,bag];simp only[cr,bag]
  rw[if_pos ⟨by omega,by omega,by omega⟩,if_neg ll,hc];simp[aT]
theorem VQ {h:Heap} {lo:Nat} {v w:AV} {l m:List Tm} (k:kM h lo v l) (s:Src h w m) (hlo:lo≤h.next) (hn:l.length+m.length≤100000) (ho:an h):∃v' h' c,b9 h 6 88 v w=some ⟨v',h',c⟩∧an h' ∧jL (fun j=>lo≤j) h h' ∧kM h' lo v' (l++m):=by
 cases k with
 |full=>
  obtain⟨v',h',c,e,ho',hl,k'⟩:=xn s (by simp at hn;omega) ho
  refine⟨v',h',c,e,ho',⟨hl.1,fun id gen cs _ e=>hl.2 _ _ _ e⟩,?_⟩
  rw[bbe];exact k'.mono hlo
 |sl id gen l h1 h2=>
  by_cases hm:m=[]
  ·subst hm
   refine⟨.sl id gen 0 6 l.length none,h,.none,?_,ho,jL.refl,by rw[bbj];exact .sl id gen l h1 h2⟩
   unfold b9
   rw[s.len,bag];simp only[cr,bag,List.length_nil]
   rw[if_pos ⟨by simp at hn;omega,by simp at hn;omega,by omega⟩,if_pos trivial]
  ·have ll:m.length≠0:=fun e=>hm (bay.1 e)
   obtain⟨c,hc⟩:=s.cells
   have tl:=bl l
   have e:b9 h 6 88 (.sl id gen 0 6 l.length none) w=some ⟨.sl id (Nat.succ gen) 0 6 (l++m).length none,h.cD id (Nat.succ gen) (bq (l++m)),.write⟩:=by
    unfold b9
    rw[s.len,bag];simp only[cr,bag]
    rw[if_pos ⟨by omega,by omega,by omega⟩,if_neg ll,hc,bag];simp only[if_true,h1,bag,tl]
    rw[if_neg (by omega),if_pos (by omega),bah,fG,ban]
   refine⟨_,_,_,e,ho.cD (cJ.1 h1) _ _,fJ h2,.sl _ _ _ bD h2⟩
theorem kM.parts {h:Heap} {lo:Nat} {v:AV} {l:List Tm} (k:kM h lo v l) {i:Nat} (hi:i<l.length):
  ∃a b,cU 6 v none (some (.int .i64 i)) none=some a∧Src h a (l.take i)∧cU 6 v (some (.int .i64 ((i+1:Nat):Int))) none none=some b∧∀h',h.le h' →Src h' b (l.drop (i+1)):=by
 cases k with
 |full=>simp at hi
 |sl id gen l h1 h2=>
  have tl:=bl l
  refine⟨.sl id gen 0 6 i none,.sl id gen (0+(i+1)*6) 6 (l.length-(i+1)) none,?_,?_,?_,?_⟩
  ·have hb:bounds l.length l.length none (some (.int .i64 i)) none=some (0,i,l.length):=by
    simp only[bounds,oD (show i≤l.length by omega),jab]
   simp only[cU,hb,Option.map_none,bbc,Nat.add_zero,Nat.sub_zero,jak]
  ·have hlen:(l.take i).length=i:=by rw[bbg];omega
   refine⟨by rw[hlen];rfl,⟨.read,?_⟩,⟨false,rfl,fun e=>by cases e⟩⟩
   rw[hlen];show(if 6=6∧i≤i then(h.at_ id gen).bind fun cs=>if 0+i*6≤cs.length then some ((cs.drop 0).take (i*6),dB.read)else none else none)=_
   rw[if_pos ⟨rfl,bab _⟩,h1,bag,if_pos (by omega),bah,qV]
  ·have hb:bounds l.length l.length (some (.int .i64 ((i+1:Nat):Int))) none none=some (i+1,l.length,l.length):=by
    simp only[bounds,oD (show i+1≤l.length by omega),jab]
   simp only[cU,hb,Option.map_none,jak]
  ·intro h' hl
   have hlen:(l.drop (i+1)).length=l.length-(i+1):=bbl
   refine⟨by rw[hlen];rfl,⟨.read,?_⟩,⟨false,rfl,fun e=>by cases e⟩⟩
   rw[hlen];show(if 6=6∧l.length-(i+1)≤l.length-(i+1)then(h'.at_ id gen).bind fun cs=>if 0+(i+1)*6+(l.length-(i+1))*6≤cs.length then some ((cs.drop (0+(i+1)*6)).take ((l.length-(i+1))*6),dB.read)else none else none)=_
   rw[if_pos ⟨rfl,bab _⟩,hl.2 _ _ _ h1,bag,if_pos (by omega),baf,xo]
   congr 2
   rw[bar (by rw[bl,hlen];exact bab _)]
def qf (x:Tm) (l:List Tm) (k:Nat):List Tm:=match fi x (l.drop k)with
 |some j=>l.eraseIdx (k+j)
 |none=>l
theorem abU {x y:Tm} (tx:dk x=true) (ty:dk y=true):(bV y x==0)=Ts x y:=by
 rw[Ts,tx,ty,bbb,bbb];have:=VR x y
 by_cases e:bV x y=0
 ·rw[e]at this;simp[e,this]
 ·have e2:bV y x≠0:=by omega
  rw[beq_eq_false_iff_ne.2 e2,beq_eq_false_iff_ne.2 e]
set_option maxHeartbeats 1000000 in
theorem aht {m cur:List Tm} {mv:AV} (km:Sl mv m) (okm:gW m) (tm:∀t,t∈m→dk t=true) (okc:gW cur) (tcu:∀t,t∈cur→dk t=true) (hcl:cur.length≤50000) {i i6 lo:Nat} (hi:i<m.length) (hm:m.length≤100000) (hlo:i6<lo) {Q:aU→St→Prop}:
  ∀(f k:Nat) (σ:ah) (h:Heap) (v:AV),cur.length-k<f→k≤cur.length→an h→lo≤h.next→h.at_ i6 0=some aK→kM h lo v cur→
  σ.get 6=.ptr i6 0 0→σ.get 10=mv→σ.get 12=v→σ.get 13=.int .i64 i→σ.get 14=.int .i64 k→
  (∀σ' h' v',an h' →lo≤h'.next→h'.at_ i6 0=some aK→kM h' lo v' (qf m[i] cur k)→σ'.get 6=.ptr i6 0 0→σ'.get 10=mv→σ'.get 12=v' →σ'.get 13=.int .i64 i→Q (.exit 2) ⟨σ',h'⟩)→kz env vQ ⟨σ,h⟩ Q:=by
 intro f
 induction f with
 |zero=>intro k σ h v p1;omega
 |succ f ih=>
  intro k σ h v hf hk ho hln a6 ko g6 g10 g12 g13 g14 hQ;refine aC fun b hb=> ?_
  have nl:=ko.mo
  by_cases c1:k<cur.length
  ·have z0:((k:Int)<(cur.length:Int))=True:=eq_true (by omega)
   have zk:IntKind.wrap .i64 ((k:Int)+1)=((k+1:Nat):Int):=aX (by omega) (by omega)
   have zm:m[i]∈m:=bas hi
   have zc:cur[k]∈cur:=bas c1
   obtain⟨p,ip,lp⟩:=ko.ld c1
   have lx:=km.idx hi
   have lt:bp true 6 ((bq m).drop (i*6))=some (.agg (tc m[i])):=by
    rw[gQ m i hi];cases m[i];rfl
   have wq:∀h,WC env 20 [.agg (tc cur[k]),.agg (tc m[i])] h (fun o=>o=.ret ⟨.int .i64 (bV cur[k] m[i]),h,.none⟩):=fun h=>dG _ _ (okc.get zc) (okm.get zm) (tcu _ zc) (tm _ zm) h
   have ze:=abU (tm _ zm) (tcu _ zc)
   have hd:cur.drop k=cur[k]::cur.drop (k+1):=bat c1
   cases e:Ts m[i] cur[k]with
   |true=>
    rw[e]at ze
    obtain⟨va,vb,s1,sa,s2,sb⟩:=ko.parts c1
    obtain⟨v1,h1,c1',w1,ho1,le1,k1⟩:=xn sa (by rw[bbg];omega) ho
    have k1' :=k1.mono hln
    obtain⟨v2,h2,c2',w2,ho2,ch2,k2⟩:=VQ k1' (sb h1 le1) (bal hln le1.1) (by rw[bbg,bbl];omega) ho1
    have b2:=ch2.2 _ _ _ (by omega) (le1.2 _ _ _ a6)
    have y1:bY [] []=some []:=rfl
    simp only[vQ,FY,aw,reduceIte,Nat.reduceEqDiff,g12,g14,nl,z0]
    refine aB ?_
    simp only[Ma,aw,reduceIte,Nat.reduceEqDiff,k3,g10,g12,g13,g14,ip,lp,lx,bP,lt,ai (wq _),ze]
    refine⟨rfl,?_⟩
    refine aB ?_
    simp only[VS,aw,reduceIte,Nat.reduceEqDiff,k3,g12,g14,y1,bbc,List.length_nil,if_true,s1,w1,iC c1',zk,s2,w2,iC c2']
    refine⟨by cases c1' <;>cases c2' <;>rfl,?_⟩
    refine hQ _ h2 v2 ho2 (bal (bal hln le1.1) ch2.1) b2 ?_ ?_ ?_ ?_ ?_
    ·rw[qf,hd,fi,if_pos e]
     show kM h2 lo v2 (cur.eraseIdx (k+0))
     rw[Nat.add_zero,erase_eq];exact k2
    ·simp only[aa,reduceIte,Nat.reduceEqDiff,g6]
    ·simp only[aa,reduceIte,Nat.reduceEqDiff,g10]
    ·simp only[aa,reduceIte,Nat.reduceEqDiff]
    ·simp only[aa,reduceIte,Nat.reduceEqDiff,g13]
   |false=>
    rw[e]at ze
    simp only[vQ,FY,aw,reduceIte,Nat.reduceEqDiff,g12,g14,nl,z0]
    refine aB ?_
    simp only[Ma,VT,aw,reduceIte,Nat.reduceEqDiff,k3,g10,g12,g13,g14,ip,lp,lx,bP,lt,ai (wq _),ze,zk]
    refine⟨rfl,?_⟩
    subst hb;refine ih (k+1) _ h v (by omega) (by omega) ho hln a6 ko ?_ ?_ ?_ ?_ ?_ ?_
    ·simp only[aa,reduceIte,Nat.reduceEqDiff,g6]
    ·simp only[aa,reduceIte,Nat.reduceEqDiff,g10]
    ·simp only[aa,reduceIte,Nat.reduceEqDiff,g12]
    ·simp only[aa,reduceIte,Nat.reduceEqDiff,g13]
    ·simp only[aa,reduceIte,Nat.reduceEqDiff]
    ·have ee:qf m[i] cur (k+1)=qf m[i] cur k:=by
      rw[qf,qf,hd,fi,if_neg (by rw[e];decide)]
      cases fi m[i] (cur.drop (k+1))with
      |none=>rfl
      |some j=>simp only[baq];congr 1;omega
     rw[ee];exact hQ
  ·have z0:((k:Int)<(cur.length:Int))=False:=eq_false (by omega)
   simp only[vQ,FY,aw,reduceIte,Nat.reduceEqDiff,g12,g14,nl,z0]
   refine hQ _ h v ho hln a6 ?_ ?_ ?_ ?_ ?_
   ·rw[qf,bao (by omega)]
    exact ko
   ·simp only[aa,reduceIte,Nat.reduceEqDiff,g6]
   ·simp only[aa,reduceIte,Nat.reduceEqDiff,g10]
   ·simp only[aa,reduceIte,Nat.reduceEqDiff,g12]
   ·simp only[aa,reduceIte,Nat.reduceEqDiff,g13]
end Go.Bf
namespace Go.Bf
open Go.AM
theorem mJ (x:Tm) (m l:List Tm):fH l (x::m)=fH (qf x l 0) m:=by
 rw[fH,qf,bah];cases fi x l with
 |none=>rfl
 |some j=>simp only[baf]
theorem su (x:Tm) (l:List Tm) (k:Nat):(∀t,t∈qf x l k→t∈l)∧(qf x l k).length≤l.length:=by
 rw[qf];cases fi x (l.drop k)with
 |none=>exact⟨fun t h=>h,bab _⟩
 |some j=>exact⟨fun t h=>List.mem_of_mem_eraseIdx h,by simp only[List.length_eraseIdx];split<;>omega⟩
theorem ahu {m:List Tm} {mv:AV} (km:Sl mv m) (okm:gW m) (tm:∀t,t∈m→dk t=true) (hm:m.length≤100000) {i6 lo:Nat} (hlo:i6<lo) {Q:aU→St→Prop}:
  ∀(f i:Nat) (σ:ah) (h:Heap) (v:AV) (cur:List Tm),m.length-i<f→i≤m.length→an h→lo≤h.next→h.at_ i6 0=some aK→kM h lo v cur→gW cur→(∀t,t∈cur→dk t=true)→cur.length≤50000→
  σ.get 6=.ptr i6 0 0→σ.get 10=mv→σ.get 12=v→σ.get 13=.int .i64 i→
  (∀σ' h' v',an h' →lo≤h'.next→h'.at_ i6 0=some aK→kM h' lo v' (fH cur (m.drop i))→σ'.get 6=.ptr i6 0 0→σ'.get 12=v' →Q (.exit 0) ⟨σ',h'⟩)→kz env vR ⟨σ,h⟩ Q:=by
 intro f
 induction f with
 |zero=>intro i σ h v cur p1;omega
 |succ f ih=>
  intro i σ h v cur hf hi ho hln a6 ko okc tcu hcl g6 g10 g12 g13 hQ;refine aC fun b hb=> ?_
  have nm:=km.len
  by_cases c1:i<m.length
  ·have z0:((i:Int)<(m.length:Int))=True:=eq_true (by omega)
   have zi:IntKind.wrap .i64 ((i:Int)+1)=((i+1:Nat):Int):=aX (by omega) (by omega)
   have hd:m.drop i=m[i]::m.drop (i+1):=bat c1
   rw[hd,mJ]at hQ
   obtain⟨sub,sl⟩:=su m[i] cur 0
   simp only[vR,Mb,VU,aw,reduceIte,Nat.reduceEqDiff,g10,g13,nm,z0]
   refine aht km okm tm okc tcu hcl (i6:=i6) (lo:=lo) c1 hm hlo (cur.length+1) 0 _ h v (by omega) (by omega) ho hln a6 ko ?_ ?_ ?_ ?_ ?_ fun σ' h' v' q1 q2 q3 q4 q5 q6 q7 q8=> ?_
   ·simp only[aa,reduceIte,Nat.reduceEqDiff,g6]
   ·simp only[aa,reduceIte,Nat.reduceEqDiff,g10]
   ·simp only[aa,reduceIte,Nat.reduceEqDiff,g12]
   ·simp only[aa,reduceIte,Nat.reduceEqDiff,g13]
   ·simp only[aa,reduceIte,Nat.reduceEqDiff];rfl
   simp only[VV,aw,reduceIte,Nat.reduceEqDiff,q8,zi]
   subst hb;refine ih (i+1) _ h' v' _ (by omega) (by omega) q1 q2 q3 q4 (nK fun x hx=>okc.get (sub x hx)) (fun t ht=>tcu t (sub t ht)) (by omega) ?_ ?_ ?_ ?_ hQ
   ·simp only[aa,reduceIte,Nat.reduceEqDiff,q5]
   ·simp only[aa,reduceIte,Nat.reduceEqDiff,q6]
   ·simp only[aa,reduceIte,Nat.reduceEqDiff,q7]
   ·simp only[aa,reduceIte,Nat.reduceEqDiff]
  ·have z0:((i:Int)<(m.length:Int))=False:=eq_false (by omega)
   have hd:m.drop i=[]:=bao (by omega)
   rw[hd,fH]at hQ
   simp only[vR,Mb,aw,reduceIte,Nat.reduceEqDiff,g10,g13,nm,z0]
   refine hQ _ h v ho hln a6 ko ?_ ?_
   ·simp only[aa,reduceIte,Nat.reduceEqDiff,g6]
   ·simp only[aa,reduceIte,Nat.reduceEqDiff,g12]
theorem El {h:Heap} {lo:Nat} {v:AV} {l:List Tm} (ho:an h) (ko:kM h lo v l) (hn:l.length≤50000):
  ∃r h' c,WC env 41 [v,.agg (tc cI)] h (fun o=>o=.ret ⟨.agg r,h',c⟩)∧an h' ∧h.le h' ∧r.length=6∧∃f,∀h'',jL (fun j=>j<h.next) h' h'' →xX h'' (.agg r) (.agg (tc (b_ l cI f))):=by
 have full:v=.fs true 0 []→l=[]→∃r h' c,WC env 41 [v,.agg (tc cI)] h (fun o=>o=.ret ⟨.agg r,h',c⟩)∧an h' ∧h.le h' ∧r.length=6∧∃f,∀h'',jL (fun j=>j<h.next) h' h'' →xX h'' (.agg r) (.agg (tc (b_ l cI f))):=by
  intro e1 e2;subst e1 e2;obtain⟨f,wf⟩:=lZ (.fs true []) cI (by simp) (by show(0:Nat)≤100000000;omega)
  exact⟨_,h,.none,wf h,ho,Heap.le_refl h,aR _,f,fun h'' _=>(ay (v:=.agg _) (az _)).2 rfl⟩
 have nl:=ko.mo;obtain⟨ka,na,oa⟩:=ko.acc
 cases ko with
 |full=>exact full rfl rfl
 |sl id gen l q1 q2=>
  obtain⟨H,eH⟩:∃H,H=(h.new (tc cI)).new [.int .i64 0,.int .i64 0,.str [],.int .u32 0,.ax,.ax]:=⟨_,rfl⟩
  have ho1:an H:=by rw[eH];exact(ho.new _).new _
  have hle1:h.le H:=by rw[eH];exact Heap.le_trans (cz ho _) (cz (ho.new _) _)
  have b0:H.at_ h.next 0=some (tc cI):=by rw[eH];exact(cz (ho.new _) _).2 _ _ _ (aY _)
  have b1:H.at_ (h.next+1) 0=some aK:=by rw[eH];exact aY _
  have hnx:H.next=h.next+2:=by rw[eH];rfl
  have y1:bY [] []=some []:=rfl
  have hr:AV.aj [AV.sl id gen 0 6 l.length none,.agg (tc cI)]=false:=by simp only[AV.aj,AV.ae,bbd]
  by_cases hl:l=[]
  ·have z0:(((l.length:Nat):Int)==0)=true:=by rw[hl];rfl
   refine⟨tc cI,H.cD (h.next+1) 0 (tc cI),.write,?_,ho1.cD (cJ.1 b1) _ _,⟨bal hle1.1 (bab _),fun id gen cs e=>by
    have:=ho.lt e
    rw[cw (by omega)];exact hle1.2 _ _ _ e⟩,aR _,none,fun h'' _=> ?_⟩
   ·refine ct rfl rfl (.inr hr) ?_
    simp only[a41,Em,En,VW,ah.bbw,aw,reduceIte,Nat.reduceEqDiff,dH,aR,cY,←eH,nl,z0,aQ,b0,b1,cF,t3,bab,and_self,jad]
    exact⟨[.agg (tc cI)],by simp only[Env.results,aa,reduceIte,Nat.reduceEqDiff,aQ,dC,t3,jab,jad]<;>rfl,rfl⟩
   ·rw[b_,if_pos hl]
    exact(ay (v:=.agg _) (az _)).2 rfl
  ·have z0:(((l.length:Nat):Int)==0)=false:=by
    have:l.length≠0:=fun e=>hl (bay.1 e)
    simp;omega
   have ks:Src H (.sl id gen 0 6 l.length none) l:=by
    refine⟨rfl,⟨.read,?_⟩,⟨false,rfl,fun e=>by cases e⟩⟩
    have tl:=bl l
    show(if 6=6∧l.length≤l.length then(H.at_ id gen).bind fun cs=>if 0+l.length*6≤cs.length then some ((cs.drop 0).take (l.length*6),dB.read)else none else none)=_
    rw[if_pos ⟨rfl,bab _⟩,hle1.2 _ _ _ q1,bag,if_pos (by omega),bah]
    congr 2
    rw[bar (by omega)]
   obtain⟨c0,hc0⟩:=ks.cells
   obtain⟨v1,g1,c1,w1,k1,lb1,ho2,ow1,n1⟩:=Acc.append (bt:=88) ho1 (by omega:0<6) (Acc.full (h:=H) (sz:=6) 0 [] rfl) (m:=0) rfl ks.len hc0 (bl l) (by omega) (by omega)
   rw[bbe]at k1
   rw[baf]at n1
   have fr1:∀id,v1.own=some id→h.next+2≤id:=fun id e=>(ow1 id e).elim (fun e2=>by cases e2) (fun e2=>by omega)
   have l1:∀id gen cs,H.at_ id gen=some cs→g1.at_ id gen=some cs:=fun id gen cs e=>lb1.2 _ _ _ (fun e=>by cases e) e
   have ht:bq [cI]=tc cI:=by simp[bq]
   obtain⟨v2,g2,c2,w2,k2,lb2,ho3,ow2,n2⟩:=Acc.append (bt:=88) ho2 (by omega:0<6) k1 n1 (y:=.fs true 1 (tc cI)) (n:=1) rfl (J1 g1 cI) (aR _) (by omega) (by omega)
   have l2:∀id gen cs,id<h.next+2→H.at_ id gen=some cs→g2.at_ id gen=some cs:=fun id gen cs hi e=>lb2.2 _ _ _ (fun e=>by have:=fr1 _ e;omega) (l1 _ _ _ e)
   have fr2:∀id,v2.own=some id→h.next+2≤id:=fun id e=>by
    rcases ow2 id e with e2|e2
    ·exact fr1 _ e2
    ·have:=lb1.1;omega
   have d0:g1.at_ h.next 0=some (tc cI):=l1 _ _ _ b0
   have d1:g2.at_ (h.next+1) 0=some aK:=l2 _ _ _ (by omega) b1
   have k3:Acc (g2.cD (h.next+1) 0 [.int .i64 7,.int .i64 0,.str [],.int .u32 0,.ax,v2]) 6 v2 (bq l++tc cI):=k2.wR (fJ (S:=fun j=>j=h.next+1) rfl) fun id e=>by have:=fr2 _ e;omega
   have z7:(cI.kind==7)=false:=by decide
   have fl:=qW (v:=v2) (k:=7) k2.row
   obtain⟨f,hf⟩:=BH k3 (by rw[←ht,←fG];exact eD _) n2
   refine⟨[.int .i64 7,.int .i64 0,.str [],.int .u32 0,.ax,v2],g2.cD (h.next+1) 0 [.int .i64 7,.int .i64 0,.str [],.int .u32 0,.ax,v2],.write,?_,ho3.cD (cJ.1 d1) _ _,⟨by have:=hle1.1;have:=lb1.1;have:=lb2.1;show h.next≤g2.next;omega,fun id gen cs e=>by
    have:=ho.lt e
    rw[cw (by omega)];exact l2 _ _ _ (by omega) (hle1.2 _ _ _ e)⟩,rfl,f,fun h'' ch=> ?_⟩
   ·refine ct rfl rfl (.inr hr) ?_
    have y2:bY [.int .i64 0,.int .i64 0,.str [],.int .u32 0,.ax,.ax] [(0,6,.agg (tc cI))]=some (tc cI):=rfl
    simp only[a41,Em,En,QC,QD,VX,ah.bbw,aw,reduceIte,Nat.reduceEqDiff,dH,aR,cY,←eH,nl,z0,y1,y2,Nat.reduceMul,bbc,w1,iC c1,gh,aQ,d0,t3,baf,z7,w2,iC c2,fl,cF,d1,Nat.reduceAdd,bab,and_self,jad,jaf]
    exact⟨[.agg [.int .i64 7,.int .i64 0,.str [],.int .u32 0,.ax,v2]],by simp only[Env.results,aa,reduceIte,Nat.reduceEqDiff,aQ,dC,E1,jab,jad]<;>rfl,rfl⟩
   ·have e7:¬cI.kind=7:=by decide
    rw[b_,if_neg hl,if_neg e7];refine lh ⟨_,_,rfl,(ay (v:=.int .i64 7) rfl).2 rfl,_,_,rfl,(ay (v:=.int .i64 0) rfl).2 rfl,_,_,rfl,(ay (v:=.str []) rfl).2 rfl,_,_,rfl,(ay (v:=.int .u32 0) rfl).2 rfl,_,_,rfl,(ay (v:=.ax) rfl).2 rfl,_,_,rfl,?_,rfl⟩
    have:=hf h'' (k3.wR ch fun id e=>by have:=fr2 _ e;omega)
    rw[←ht,←fG]at this
    rwa [show l.length+1=(l++[cI]).length by simp]at this
theorem Mc (a b:Tm) (oka:a.Ok) (okb:b.Ok) (ta:dk a=true) (tb:dk b=true) {l m:List Tm} (ea:bW a=some l) (eb:bW b=some m):
  ∃f,∀h,WC env 76 [.str [45,45],.agg (tc a),.agg (tc b)] h (fun o=>o=.ret ⟨.aF [.agg (tc (b_ (fH l m) cI f)),.int .i64 0],h,.none⟩):=by
 have wa:=dL ta
 have wb:=dL tb
 have hr:AV.aj [.str [45,45],.agg (tc a),.agg (tc b)]=true:=by simp only[bdk,az]
 obtain⟨v,kv,w1⟩:=bB a wa
 obtain⟨u,ku,w2⟩:=bB b wb
 rw[ea]at w1 kv
 rw[eb]at w2 ku
 have e1:(Option.isSome (some l:Option (List Tm)))=true:=rfl
 have e2:(Option.isSome (some m:Option (List Tm)))=true:=rfl
 rw[e1]at w1
 rw[e2]at w2
 have kv:Sl v l:=kv
 have ku:Sl u m:=ku
 obtain⟨hl,hsub⟩:=dY wa ea
 obtain⟨hm,bdc⟩:=dY wb eb
 have okl:gW l:=nK fun x hx=>(eP oka).get (hsub x hx)
 have okm:gW m:=nK fun x hx=>(eP okb).get (bdc x hx)
 have tl:∀t,t∈l→dk t=true:=fun x hx=>J2 ta x (hsub x hx)
 have tm:∀t,t∈m→dk t=true:=fun x hx=>J2 tb x (bdc x hx)
 have minlen:∀(m l:List Tm),(fH l m).length≤l.length:=by
  intro m
  induction m with
  |nil=>intro l;exact bab _
  |cons x m ih=>intro l;rw[mJ];exact bal (ih _) (su x l 0).2
 have hw:WC env 76 [.str [45,45],.agg (tc a),.agg (tc b)] .empty (fun o=>∃f,o=.ret ⟨.aF [.agg (tc (b_ (fH l m) cI f)),.int .i64 0],.empty,.none⟩):=by
  refine ad rfl rfl rfl hr ?_
  obtain⟨H,eH⟩:∃H,H=((Heap.empty.new (tc a)).new (tc b)).new [.int .i64 0,.int .i64 0,.str [],.int .u32 0,.ax,.ax]:=⟨_,rfl⟩
  have ho:an H:=by rw[eH];exact((an.empty.new _).new _).new _
  have hn3:H.next=3:=by rw[eH];rfl
  have a0:H.at_ 0 0=some (tc a):=by rw[eH];simp only[aW,Nat.reduceAdd,reduceIte,Nat.reduceEqDiff]
  have a1:H.at_ 1 0=some (tc b):=by rw[eH];simp only[aW,Nat.reduceAdd,reduceIte,Nat.reduceEqDiff]
  have a6:H.at_ 2 0=some aK:=by rw[eH];simp only[aW,Nat.reduceAdd,reduceIte,Nat.reduceEqDiff];rfl
  have y1:bY [] []=some []:=rfl
  obtain⟨v',h4,c4,w4,ho4,le4,k4⟩:=xn (kv.src H) (by omega) ho
  rw[hn3]at k4
  have nu:=ku.len;have eb' :a76.body=(.seq (.ops Ei) (.seq (.ops Ej) (.seq (.seq (.ops Ek) (.cond (.t 21) (.seq (.ops VO) .ret) .skip)) (.seq (.seq (.ops JX) (.cond (.t 24) (.seq (.ops VN) .ret) .skip)) (.seq (.ops QE) (.seq (.seq (.ops QF) (.cond (.t 34) (.seq (.ops VY) .ret) .skip)) (.seq (.ops VZ) (.seq (.seq (.ops Md) (.block 0 (.loop vR))) (.seq (.ops Me) .ret))))))))):=rfl
  rw[eb'];simp only[Ei,Ej,Ek,JX,QE,QF,VZ,Md,ah.bbw,aw,reduceIte,Nat.reduceEqDiff,dH,aR,cG,cY,Nat.reduceAdd,←eH,aQ,a0,a1,t3,ai (w1 _),ai (w2 _),dm,kA,n7,aD,bQ,UInt8.reduceToNat,y1,bbc,List.length_nil,w4,iC c4,jad,jag]
  refine ahu ku okm tm (by omega) (i6:=2) (lo:=3) (by omega) (m.length+1) 0 _ h4 v' l (by omega) (by omega) ho4 (by have:=le4.1;omega) (le4.2 _ _ _ a6) k4 okl tl (by omega) ?_ ?_ ?_ ?_ fun σ' h' v5 ho' hn' b6 k5 g6 g12=> ?_
  ·simp only[aa,reduceIte,Nat.reduceEqDiff]
  ·simp only[aa,reduceIte,Nat.reduceEqDiff]
  ·simp only[aa,reduceIte,Nat.reduceEqDiff]
  ·simp only[aa,reduceIte,Nat.reduceEqDiff];rfl
  rw[bah]at k5
  obtain⟨r,h6,c,wr,ho6,le6,rl,f,hf⟩:=El ho' k5 (by have:=minlen m l;omega)
  have c6:=le6.2 _ _ _ b6
  have lr:bp true 6 r=some (.agg r):=by
   show(if 6≤r.length then some (AV.agg (r.take 6))else none)=_
   rw[if_pos (by omega),bar (by omega)]
  have lt:=ho'.lt b6
  have yn:bY [.int .i64 0,.int .i64 0,.str [],.int .u32 0,.ax,.ax] [(0,1,.int .i64 6)]=some (tc cI):=rfl
  simp only[Me,aw,reduceIte,Nat.reduceEqDiff,g6,g12,yn,ai wr,iC c,cF,c6,rl,eQ,bab,and_self,if_true]
  refine⟨[.agg r,.int .i64 0],.aF [.agg (tc (b_ (fH l m) cI f)),.int .i64 0],by simp only[a76,Env.results,aa,reduceIte,Nat.reduceEqDiff,g6,aQ,dC,lr,jab,jad],?_,f,rfl⟩
  refine o9 ⟨_,_,rfl,hf _ ⟨bab _,fun id gen cs hne e=> ?_⟩,_,_,rfl,(ay (v:=.int .i64 0) rfl).2 rfl,rfl⟩
  rw[cw (fun e2=>hne (by rw[e2];exact lt))]
  exact e
 obtain⟨o,hn,f,e⟩:=hw
 subst e;exact⟨f,fun h=>iP rfl rfl rfl hr ⟨_,hn,rfl⟩⟩
theorem C7 (a b:Tm) (wa:Wf a) (wb:Wf b) {l:List Tm} (ea:bW a=some l) (eb:bW b=none) (h:Heap):WC env 76 [.str [45,45],.agg (tc a),.agg (tc b)] h (fun o=>o=.ret ⟨.aF [.agg (tc bZ),.int .i64 261],h,.none⟩):=by
 obtain⟨v,kv,w1⟩:=bB a wa
 obtain⟨u,ku,w2⟩:=bB b wb
 rw[ea]at w1 kv
 rw[eb]at w2 ku
 have e1:(Option.isSome (some l:Option (List Tm)))=true:=rfl
 have e2:(Option.isSome (none:Option (List Tm)))=false:=rfl
 rw[e1]at w1
 rw[e2]at w2
 refine ad rfl rfl rfl (by simp only[bdk,az]) ?_
 simp only[a76,Ei,Ej,Ek,JX,QE,QF,VY,ah.bbw,aw,reduceIte,Nat.reduceEqDiff,ai (w1 _),ai (w2 _),baj,bak,aD,bQ,UInt8.reduceToNat,bc,aW,Nat.reduceAdd,t3]
theorem als:∃p q r s,cx [45,45] 2=.aF [.agg [p,q,r,s],.bool true]:=⟨_,_,_,_,rfl⟩
theorem Eo:∀(m l:List Tm) (t:Tm),t∈fH l m→t∈l
 |[],l,t,h=>h
 |x::m,l,t,h=>by rw[mJ]at h;exact(su x l 0).1 _ (Eo m _ _ h)
theorem Ep:∀(m l:List Tm),(fH l m).length≤l.length
 |[],l=>bab _
 |x::m,l=>by rw[mJ];exact bal (Ep m _) (su x l 0).2
theorem abV {v:AV} {a b:Tm} (kv:Sl v [a,b]) (oka:a.Ok) (okb:b.Ok) (ta:dk a=true) (tb:dk b=true):fA [45,45] v:=by
 obtain⟨d1,d2,d3,d4,fp⟩:=als
 have wa:=dL ta
 have wb:=dL tb
 cases e:bW a with
 |none=>exact bH (gb oka okb) kv (by simp) fp (fT ta tb) (by decide) (r:=bZ) (Mf kv (fun h=>yk _ a b wa wb e h)) (LR kv (BC a b wa e))
 |some l=>
  cases e2:bW b with
  |none=>exact bH (gb oka okb) kv (by simp) fp (fT ta tb) (by decide) (r:=bZ) (Mf kv (fun h=>FZ a b wa wb e2 h)) (LR kv (C7 a b wa wb e e2))
  |some m=>
   obtain⟨f,w1⟩:=Tt a b oka okb wa wb e e2
   obtain⟨g,w2⟩:=Mc a b oka okb ta tb e e2
   obtain⟨hl,hsub⟩:=dY wa e
   have okl:gW (fH l m):=nK fun x hx=>(eP oka).get (hsub x (Eo m l x hx))
   have same:er (b_ (fH l m) cI f)=er (b_ (fH l m) cI g):=by
    rw[b_,b_];split
    ·rfl
    ·split<;>rw[er,er]
   have hn:=Ep m l
   have okn:=pH;exact bk (gb oka okb) kv (by simp) fp (fT ta tb) (iO okl okn f (by omega) (by show(0:Nat)≤_;omega)) (iO okl okn g (by omega) (by show(0:Nat)≤_;omega)) same (Mf kv w1) (LR kv w2)
end Go.Bf
namespace Go.Bf
open Go.AM
theorem ahw:∃p q r s,cx [43] 1=.aF [.agg [p,q,r,s],.bool true]:=⟨_,_,_,_,rfl⟩
theorem QG {v:AV} {t r:Tm} {cd:Int} (kv:Sl v [t]) (hr:∀h,WC env 60 [.str [43],.agg (tc (fD 0)),.agg (tc t)] h (fun o=>o=.ret ⟨.aF [.agg (tc r),.int .i64 cd],h,.none⟩)) (h:Heap):WC env 38 [.str [43],v] h (fun o=>o=.ret ⟨.aF [.agg (tc r),.int .i64 cd],h,.none⟩):=by
 obtain⟨A,x0,lA,nl⟩:=zA kv
 obtain⟨A',B',y0,y1,mA,mB,nl2⟩:=ql (V0 (fD 0) t)
 have u0:((1:Int)==1)=true:=rfl
 refine ad rfl rfl rfl (by simp only[bdk,kv.ae]) ?_
 simp only[mf,mD,ah.bbw,aw,reduceIte,Nat.reduceEqDiff,aD,bQ,UInt8.reduceToNat,nl,u0,aW]
 refine aB ?_
 simp only[aw,reduceIte,Nat.reduceEqDiff,k3,aW,t3,x0,lA,ai (fX _ _)]
 refine⟨rfl,?_⟩
 refine aB ?_
 simp only[aw,reduceIte,Nat.reduceEqDiff,k3,aW,Nat.reduceAdd,t3,y0,y1,mA,mB,ai (hr _)]
 rfl
theorem ahx:∃p q r s,cx [45] 1=.aF [.agg [p,q,r,s],.bool true]:=⟨_,_,_,_,rfl⟩
theorem F0 {v:AV} {t r:Tm} {cd:Int} (kv:Sl v [t]) (hr:∀h,WC env 60 [.str [45],.agg (tc (fD 0)),.agg (tc t)] h (fun o=>o=.ret ⟨.aF [.agg (tc r),.int .i64 cd],h,.none⟩)) (h:Heap):WC env 38 [.str [45],v] h (fun o=>o=.ret ⟨.aF [.agg (tc r),.int .i64 cd],h,.none⟩):=by
 obtain⟨A,x0,lA,nl⟩:=zA kv
 obtain⟨A',B',y0,y1,mA,mB,nl2⟩:=ql (V0 (fD 0) t)
 have u0:((1:Int)==1)=true:=rfl
 refine ad rfl rfl rfl (by simp only[bdk,kv.ae]) ?_
 simp only[mf,mD,ah.bbw,aw,reduceIte,Nat.reduceEqDiff,aD,bQ,UInt8.reduceToNat,nl,u0,aW]
 refine aB ?_
 simp only[aw,reduceIte,Nat.reduceEqDiff,k3,aW,t3,x0,lA,ai (fX _ _)]
 refine⟨rfl,?_⟩
 refine aB ?_
 simp only[aw,reduceIte,Nat.reduceEqDiff,k3,aW,Nat.reduceAdd,t3,y0,y1,mA,mB,ai (hr _)]
 rfl
section
variable {v : AV} {t : Tm} (kv : Sl v [t]) (okt : t.Ok) (tt : dk t = true)
include kv okt tt
theorem V1:fA [43] v:=by
 obtain⟨d1,d2,d3,d4,fp⟩:=ahw
 by_cases k1:t.kind=1
 ·have hx:=eJ tt k1
  have e0:(fD 0).int+t.int=t.int:=by show 0+t.int=t.int;omega
  have w1:=JO (a:=fD 0) (b:=t) rfl k1 ⟨by show(-576460752303423488:Int)≤0;decide,by show(0:Int)≤_;decide⟩ hx (by rw[e0];exact hx)
  rw[e0]at w1
  exact bk (ts:=[t]) ⟨okt,trivial⟩ kv (by simp) fp (gf tt) (ok_int hx) (ok_int hx) rfl (QG kv w1) (vA kv.ae (Tk kv k1 hx))
 ·exact bH (ts:=[t]) ⟨okt,trivial⟩ kv (by simp) fp (gf tt) (by decide) (QG kv (jZ _ (.inr k1))) (vA kv.ae (yj kv k1))
theorem V2:fA [45] v:=by
 obtain⟨d1,d2,d3,d4,fp⟩:=ahx
 by_cases k1:t.kind=1
 ·have hx:=eJ tt k1
  have s1:=hx.1;have s2:=hx.2;have e0:(fD 0).int-t.int= -t.int:=by show 0-t.int= -t.int;omega
  have h0:Small (fD 0).int:=⟨by show(-576460752303423488:Int)≤0;decide,by show(0:Int)≤_;decide⟩
  by_cases hv:Small (-t.int)
  ·have w1:=JP (a:=fD 0) (b:=t) rfl k1 h0 hx (by rw[e0];exact hv)
   rw[e0]at w1
   exact bk (ts:=[t]) ⟨okt,trivial⟩ kv (by simp) fp (gf tt) (ok_int hv) (ok_int hv) rfl (F0 kv w1) (so kv.ae (Eh kv k1 hx))
  ·have w1:=vN (a:=fD 0) (b:=t) rfl k1 h0 hx (by rw[e0];exact hv)
   exact qR (ts:=[t]) ⟨okt,trivial⟩ kv (by simp) fp (gf tt) (k_ (by omega) (by omega)) (lY hv) (F0 kv w1) (so kv.ae (Eh kv k1 hx))
 ·exact bH (ts:=[t]) ⟨okt,trivial⟩ kv (by simp) fp (gf tt) (by decide) (F0 kv (jZ _ (.inr k1))) (so kv.ae (yj kv k1))
end
end Go.Bf
namespace Go.Bf
open Go.AM
theorem qX {l:List Tm} {i:Nat} (hi:i<l.length):bp true 6 ((bq l).drop (i*6))=some (.agg (tc l[i])):=by
 rw[gQ _ _ hi];exact bJ
theorem QH {v:AV} {t:Tm} (kv:Sl v [t]) (w:Wf t) (k7:t.kind=7) (h0:0<t.args.length) (h:Heap):WC env 117 [.str [104,100],v] h (fun o=>o=.ret ⟨.aF [.agg (tc t.args[0]),.int .i64 0],h,.none⟩):=by
 have x0:=bE kv
 have z7:(t.kind !=7)=false:=by simpa using k7
 obtain⟨u,ku,wp⟩:=bB t w
 have lx:=(cW t).idx h0
 have ld:=qX h0
 have lx:aZ 6 (j2 t) (.int .i64 0)=some (.fp ((bq t.args).drop (0*6))):=lx
 refine ad rfl rfl rfl (by simp only[bdk,kv.ae]) ?_
 generalize ht:(bq t.args).drop (0*6)=cs at*
 simp only[a117,j3,ah.bbw,aw,reduceIte,Nat.reduceEqDiff,aD,bQ,UInt8.reduceToNat,x0,bJ,ai (wp _),z7,lx,ld,aW,Nat.reduceAdd,t3]
theorem Mg {v:AV} {t:Tm} (kv:Sl v [t]) (w:Wf t) (k7:t.kind≠7) (h:Heap):WC env 117 [.str [104,100],v] h (fun o=>o=.ret ⟨.aF [.agg (tc bZ),.int .i64 261],h,.none⟩):=by
 have x0:=bE kv
 have z7:(t.kind !=7)=true:=by simpa using k7
 obtain⟨u,ku,wp⟩:=bB t w
 refine ad rfl rfl rfl (by simp only[bdk,kv.ae]) ?_
 simp only[a117,j3,ah.bbw,aw,reduceIte,Nat.reduceEqDiff,aD,bQ,UInt8.reduceToNat,x0,bJ,ai (wp _),z7,bc,aW,Nat.reduceAdd,t3]
theorem Mh {v:AV} {t:Tm} (kv:Sl v [t]) (w:Wf t) (k7:t.kind≠7) (h:Heap):WC env 117 [.str [116,108],v] h (fun o=>o=.ret ⟨.aF [.agg (tc bZ),.int .i64 261],h,.none⟩):=by
 have x0:=bE kv
 have z7:(t.kind !=7)=true:=by simpa using k7
 obtain⟨u,ku,wp⟩:=bB t w
 refine ad rfl rfl rfl (by simp only[bdk,kv.ae]) ?_
 simp only[a117,j3,ah.bbw,aw,reduceIte,Nat.reduceEqDiff,aD,bQ,UInt8.reduceToNat,x0,bJ,ai (wp _),z7,bc,aW,Nat.reduceAdd,t3]
theorem V3 {v:AV} {t:Tm} (kv:Sl v [t]) (w:Wf t) (k7:t.kind=7) (h2:t.args.length=2) (h:Heap):WC env 117 [.str [116,108],v] h (fun o=>o=.ret ⟨.aF [.agg (tc (t.args[1]'(by omega))),.int .i64 0],h,.none⟩):=by
 have x0:=bE kv
 have z7:(t.kind !=7)=false:=by simpa using k7
 have nu:∀h,aN false h (j2 t)=some ⟨.int .i64 2,h,.none⟩:=by have:=(cW t).len;rw[h2]at this;exact this
 have u2:((2:Int)==2)=true:=rfl
 obtain⟨u,ku,wp⟩:=bB t w
 have lx:=(cW t).idx (i:=1) (by omega)
 have ld:=qX (l:=t.args) (i:=1) (by omega)
 have lx:aZ 6 (j2 t) (.int .i64 1)=some (.fp ((bq t.args).drop (1*6))):=lx
 refine ad rfl rfl rfl (by simp only[bdk,kv.ae]) ?_
 generalize ht:(bq t.args).drop (1*6)=cs at*
 simp only[a117,j3,ah.bbw,aw,reduceIte,Nat.reduceEqDiff,aD,bQ,UInt8.reduceToNat,x0,bJ,ai (wp _),z7,nu,u2,lx,ld,aW,Nat.reduceAdd,t3]
theorem abW {v:AV} {t:Tm} (kv:Sl v [t]) (w:Wf t) (k7:t.kind=7) (h2:2<t.args.length):∃f,∀h,WC env 117 [.str [116,108],v] h (fun o=>o=.ret ⟨.aF [.agg (tc (.mk 7 0 [] 0 none [] f (t.args.drop 1))),.int .i64 0],h,.none⟩):=by
 have x0:=bE kv
 have z7:(t.kind !=7)=false:=by simpa using k7
 have nu:=(cW t).len
 have u2:(((t.args.length:Nat):Int)==2)=false:=by rw[beq_eq_false_iff_ne];omega
 obtain⟨u,ku,wp⟩:=bB t w
 have hc:∃a l,t.args=a::l:=by
  cases e:t.args with
  |nil=>rw[e]at h2;simp at h2
  |cons a l=>exact⟨a,l,rfl⟩
 obtain⟨a,l,ea⟩:=hc
 have ks:=cW t
 rw[ea]at ks
 obtain⟨v',sv,kt⟩:=ks.tail
 obtain⟨f,ef⟩:=kt.eq
 have hn:=kt.ae;have fl:bY [.int .i64 0,.int .i64 0,.str [],.int .u32 0,.ax,.ax] [(0,1,.int .i64 7),(5,1,v')]=some (tc (.mk 7 0 [] 0 none [] f (t.args.drop 1))):=by
  rw[ea,ef];cases f with
  |none=>cases l<;>rfl
  |some b=>rfl
 refine⟨f,fun h=>ad rfl rfl rfl (by simp only[bdk,kv.ae]) ?_⟩
 simp only[a117,j3,ah.bbw,aw,reduceIte,Nat.reduceEqDiff,aD,bQ,UInt8.reduceToNat,x0,bJ,ai (wp _),z7,nu,u2,sv,fl,aW,Nat.reduceAdd,t3]
theorem F1 {v:AV} {t u:Tm} (kv:Sl v [t,u]) (w:Wf t) {i:Nat} (e:jl t u=some i) (hi:i<u.args.length) (hl:u.args.length<1000000000) (h:Heap):WC env 117 [.str [101,108,101,109,101,110,116],v] h (fun o=>o=.ret ⟨.aF [.agg (tc u.args[i]),.int .i64 0],h,.none⟩):=by
 obtain⟨k1,k5,_,hn⟩:=pI e
 obtain⟨A,B,x0,x1⟩:=yO kv
 obtain⟨q,kq,wp⟩:=bB t w
 have nl:∀h,aN false h v=some ⟨.int .i64 2,h,.none⟩:=kv.len
 have nu:=(cW u).len
 have l1:((2:Int)==1)=false:=by decide
 have z1:(t.kind !=1)=false:=by simpa using k1
 have z2:(u.kind !=5)=false:=by simpa using k5
 have z3:(t.int<1)=False:=eq_false (by omega)
 have z4:(t.int>(u.args.length:Int))=False:=eq_false (by omega)
 have wn:IntKind.wrap .i64 (t.int-1)=(i:Int):=aX (by omega) (by omega)
 have lx:=(cW u).idx hi
 have ld:=qX hi
 refine ad rfl rfl rfl (by simp only[bdk,kv.ae]) ?_
 simp only[a117,j3,ah.bbw,aw,reduceIte,Nat.reduceEqDiff,aD,bQ,UInt8.reduceToNat,x0,x1,iE,ai (wp _),nl,nu,l1,z1,z2,z3,z4,wn,lx,ld,aW,Nat.reduceAdd,t3]
end Go.Bf
namespace Go.Bf
open Go.AM
def sU:List Tm→Nat→Option Nat
 |[],V=>some V
 |x::l,V=>if x.kind=1∧48≤x.int∧x.int≤57 then sU l (10*V+(x.int-48).toNat)else none
def sV (minus:Bool) (V:Nat):Tm×Int:=
 if V≤576460752303423488∧(minus=true∨V≠576460752303423488)then(fD (if minus=true then-(V:Int)else V),0)else(bZ,262)
def tQ (minus:Bool) (l:List Tm):Tm×Int:=if l=[]then(bZ,261)else match sU l 0 with
 |some V=>sV minus V
 |none=>(bZ,261)
def nL:List Tm→Tm×Int
 |[]=>(bZ,261)
 |x::l=>if x.kind=1∧x.int=45 then tQ true l else if x.kind=1∧x.int=43 then tQ false l else tQ false (x::l)
def StA (V:Nat) (n:Int) (big:Bool):Prop:=(V≤576460752303423488∧big=false∧n=V)∨(576460752303423488<V∧576460752303423488<n∧n≤5764607523034234889)
theorem Mi {l:List Tm} {v:AV} (kv:Sl v l) (hn:l.length≤100000) {i2:Nat} {mi:AV} {Q:aU→St→Prop}:
  ∀(f i:Nat) (σ:ah) (h:Heap) (V:Nat) (n:Int) (big:Bool),l.length-i<f→i≤l.length→an h→h.at_ i2 0=some aK→σ.get 2=.ptr i2 0 0→σ.get 6=mi→σ.get 57=v→σ.get 58=.int .i64 l.length→σ.get 59=.int .i64 i→σ.get 7=.int .i64 n→σ.get 8=.bool big→StA V n big→
  (sU (l.drop i) V=none→∀σ' h',h'.at_ i2 0=some aK→σ'.get 2=.ptr i2 0 0→σ'.get 3=.int .i64 261→Q .ret ⟨σ',h'⟩)→
  (∀σ' h' V' n' big',sU (l.drop i) V=some V' →StA V' n' big' →an h' →h'.at_ i2 0=some aK→σ'.get 2=.ptr i2 0 0→σ'.get 6=mi→σ'.get 7=.int .i64 n' →σ'.get 8=.bool big' →Q (.exit 0) ⟨σ',h'⟩)→kz env jz ⟨σ,h⟩ Q:=by
 intro f
 induction f with
 |zero=>intro i σ h V n big p1;omega
 |succ f ih=>
  intro i σ h V n big hf hi ho a2 g2 g6 g57 g58 g59 g7 g8 st hR hQ;refine aC fun b hb=> ?_
  by_cases c1:i<l.length
  ·have z0:((i:Int)<(l.length:Int))=True:=eq_true (by omega)
   have zi:IntKind.wrap .i64 ((i:Int)+1)=((i+1:Nat):Int):=aX (by omega) (by omega)
   obtain⟨x,ex⟩:∃x,x=l[i]:=⟨_,rfl⟩
   have hd:l.drop i=x::l.drop (i+1):=by rw[ex];exact bat c1
   have lx:=kv.idx c1
   have lt:=qX c1
   rw[←ex]at lt
   generalize (bq l).drop (i*6)=C at lx lt
   obtain⟨h1,st1,ho1,le1,at1⟩:=kH ho x
   have b2:=le1.2 _ _ _ a2
   have se:bC h1 6 (.ptr i2 0 0) (.agg aK)=some ⟨.undef,h1.cD i2 0 aK,.write⟩:=by rw[cF,b2];rfl
   have bad:¬(x.kind=1∧48≤x.int∧x.int≤57)→sU (l.drop i) V=none:=fun hb=>by rw[hd,sU,if_neg hb]
   by_cases k1:x.kind=1
   ·have z1:(x.kind !=1)=false:=by simpa using k1
    by_cases k2:x.int<48
    ·have z2:(x.int<48)=True:=eq_true k2
     simp only[jz,pJ,sw,sy,zD,aw,reduceIte,Nat.reduceEqDiff,g2,g57,g58,g59,z0,lx,bP,lt,st1,aQ,gh,at1,t3,z1,z2,df,dj,se,jaj]
     refine hR (bad (by omega)) _ _ bD ?_ ?_
     ·simp only[aa,reduceIte,Nat.reduceEqDiff,g2]
     ·simp only[aa,reduceIte,Nat.reduceEqDiff]
    ·have z2:(x.int<48)=False:=eq_false k2
     by_cases k3:x.int>57
     ·have z3:(x.int>57)=True:=eq_true k3
      simp only[jz,pJ,sw,sy,zD,aw,reduceIte,Nat.reduceEqDiff,g2,g57,g58,g59,z0,lx,bP,lt,st1,aQ,gh,at1,t3,z1,z2,z3,dj,se,jaj]
      refine hR (bad (by omega)) _ _ bD ?_ ?_
      ·simp only[aa,reduceIte,Nat.reduceEqDiff,g2]
      ·simp only[aa,reduceIte,Nat.reduceEqDiff]
     ·have z3:(x.int>57)=False:=eq_false k3
      have ev:sU (l.drop i) V=sU (l.drop (i+1)) (10*V+(x.int-48).toNat):=by rw[hd,sU,if_pos ⟨k1,by omega,by omega⟩]
      rw[ev]at hR hQ
      by_cases k4:n>576460752303423488
      ·have z4:(n>576460752303423488)=True:=eq_true k4
       have st' :StA (10*V+(x.int-48).toNat) n true:=by
        rcases st with⟨p1,p2,p3⟩|⟨p1,p2,p3⟩
        ·omega
        ·exact .inr ⟨by omega,p2,p3⟩
       simp only[jz,pJ,sw,sy,F2,QI,F3,aw,reduceIte,Nat.reduceEqDiff,g7,g57,g58,g59,z0,lx,bP,lt,st1,aQ,gh,at1,t3,z1,z2,z3,z4,dj,zi,jaj]
       subst hb;refine ih (i+1) _ h1 _ n true (by omega) (by omega) ho1 b2 ?_ ?_ ?_ ?_ ?_ ?_ ?_ st' hR hQ
       all_goals simp only[aa,reduceIte,Nat.reduceEqDiff,g2,g6,g7,g57,g58]
      ·have z4:(n>576460752303423488)=False:=eq_false k4
       obtain⟨p1,p2,p3⟩:V≤576460752303423488∧big=false∧n=V:=by
        rcases st with s|⟨p1,p2,p3⟩
        ·exact s
        ·omega
       have w1:IntKind.wrap .i64 (n*10)=n*10:=cV (by omega)
       have w2:IntKind.wrap .i64 (n*10+x.int)=n*10+x.int:=cV (by omega)
       have w3:IntKind.wrap .i64 (n*10+x.int-48)=n*10+x.int-48:=cV (by omega)
       have st' :StA (10*V+(x.int-48).toNat) (n*10+x.int-48) big:=by
        by_cases c5:10*V+(x.int-48).toNat≤576460752303423488
        ·exact .inl ⟨c5,p2,by omega⟩
        ·exact .inr ⟨by omega,by omega,by omega⟩
       simp only[jz,pJ,sw,sy,F2,QJ,F3,aw,reduceIte,Nat.reduceEqDiff,g7,g57,g58,g59,z0,lx,bP,lt,st1,aQ,gh,at1,t3,z1,z2,z3,z4,dj,zi,w1,w2,w3,jaj]
       subst hb;refine ih (i+1) _ h1 _ _ big (by omega) (by omega) ho1 b2 ?_ ?_ ?_ ?_ ?_ ?_ ?_ st' hR hQ
       all_goals simp only[aa,reduceIte,Nat.reduceEqDiff,g2,g6,g8,g57,g58]
   ·have z1:(x.kind !=1)=true:=by simpa using k1
    simp only[jz,pJ,sw,sy,zD,aw,reduceIte,Nat.reduceEqDiff,g2,g57,g58,g59,z0,lx,bP,lt,st1,aQ,gh,at1,t3,z1,df,se,jaj]
    refine hR (bad (fun e=>k1 e.1)) _ _ bD ?_ ?_
    ·simp only[aa,reduceIte,Nat.reduceEqDiff,g2]
    ·simp only[aa,reduceIte,Nat.reduceEqDiff]
  ·have z0:((i:Int)<(l.length:Int))=False:=eq_false (by omega)
   simp only[jz,pJ,aw,reduceIte,g58,g59,z0]
   refine hQ _ h V n big (by rw[bao (by omega)];rfl) st ho a2 ?_ ?_ ?_ ?_
   ·simp only[aa,reduceIte,Nat.reduceEqDiff,g2]
   ·simp only[aa,reduceIte,Nat.reduceEqDiff,g6]
   ·simp only[aa,reduceIte,Nat.reduceEqDiff,g7]
   ·simp only[aa,reduceIte,Nat.reduceEqDiff,g8]
def Er:AC:=(.seq (.seq (.ops sA) (.cond (.t 97) (.seq (.ops vS) .ret) .skip)) (.seq (.ops F4) .ret))
theorem Es {σ:ah} {h:Heap} {n:Int} {big:Bool} {i2:Nat} (g2:σ.get 2=.ptr i2 0 0) (g7:σ.get 7=.int .i64 n) (g8:σ.get 8=.bool big) (a2:h.at_ i2 0=some aK) {Q:aU→St→Prop} {r:Tm} {cd:Int}
  (hr:(big=false∧Small n∧r=fD n∧cd=0)∨((big=true∨¬Small n)∧r=bZ∧cd=262)) (hQ:∀σ' h',h'.at_ i2 0=some (tc r)→σ'.get 2=.ptr i2 0 0→σ'.get 3=.int .i64 cd→Q .ret ⟨σ',h'⟩):jK env Er ⟨σ,h⟩ Q:=by
 have se:bC h 6 (.ptr i2 0 0) (.agg aK)=some ⟨.undef,h.cD i2 0 aK,.write⟩:=by rw[cF,a2];rfl
 rcases hr with⟨e1,e2,e3,e4⟩|⟨e1,e3,e4⟩
 ·subst e1 e3 e4
  have z1:(n< -576460752303423488)=False:=eq_false (by have:=e2.1;omega)
  have z2:(n>576460752303423487)=False:=eq_false (by have:=e2.2;omega)
  have sf:bC h 6 (.ptr i2 0 0) (.agg (tc (fD n)))=some ⟨.undef,h.cD i2 0 (tc (fD n)),.write⟩:=by rw[cF,a2];rfl
  simp only[Er,sA,F4,aw,reduceIte,Nat.reduceEqDiff,g2,g7,g8,z1,z2,dj,ai (fX _ _),sf]
  refine hQ _ _ bD ?_ ?_
  ·simp only[aa,reduceIte,Nat.reduceEqDiff,g2]
  ·simp only[aa,reduceIte,Nat.reduceEqDiff]
 ·subst e3 e4
  cases big with
  |true=>
   simp only[Er,sA,vS,aw,reduceIte,Nat.reduceEqDiff,g2,g8,df,t3,se]
   refine hQ _ _ bD ?_ ?_
   ·simp only[aa,reduceIte,Nat.reduceEqDiff,g2]
   ·simp only[aa,reduceIte,Nat.reduceEqDiff]
  |false=>
   have hs:¬Small n:=e1.resolve_left (by decide)
   by_cases z1:n< -576460752303423488
   ·have z1:(n< -576460752303423488)=True:=eq_true z1
    simp only[Er,sA,vS,aw,reduceIte,Nat.reduceEqDiff,g2,g7,g8,z1,df,dj,t3,se]
    refine hQ _ _ bD ?_ ?_
    ·simp only[aa,reduceIte,Nat.reduceEqDiff,g2]
    ·simp only[aa,reduceIte,Nat.reduceEqDiff]
   ·have z2:(n>576460752303423487)=True:=eq_true (by
     by_cases z:n≤576460752303423487
     ·exact absurd ⟨by omega,z⟩ hs
     ·omega)
    have z1:(n< -576460752303423488)=False:=eq_false z1
    simp only[Er,sA,vS,aw,reduceIte,Nat.reduceEqDiff,g2,g7,g8,z1,z2,dj,t3,se]
    refine hQ _ _ bD ?_ ?_
    ·simp only[aa,reduceIte,Nat.reduceEqDiff,g2]
    ·simp only[aa,reduceIte,Nat.reduceEqDiff]
theorem J4 {V:Nat} {n:Int} {big:Bool} (st:StA V n big) (minus:Bool):(big=false∧Small (if minus=true then-n else n)∧(sV minus V).1=fD (if minus=true then-n else n)∧(sV minus V).2=0)∨((big=true∨¬Small (if minus=true then-n else n))∧(sV minus V).1=bZ∧(sV minus V).2=262):=by
 rcases st with⟨p1,p2,p3⟩|⟨p1,p2,p3⟩
 ·subst p3
  by_cases c:minus=true∨V≠576460752303423488
  ·left
   refine⟨p2,?_,by rw[sV,if_pos ⟨p1,c⟩],by rw[sV,if_pos ⟨p1,c⟩]⟩
   cases minus with
   |true=>exact⟨by simp only[if_true];omega,by simp only[if_true];omega⟩
   |false=>
    have:V≠576460752303423488:=c.resolve_left (by decide)
    exact⟨by simp only[bbm,if_false];omega,by simp only[bbm,if_false];omega⟩
  ·right
   refine⟨.inr ?_,by rw[sV,if_neg (fun e=>c e.2)],by rw[sV,if_neg (fun e=>c e.2)]⟩
   cases minus with
   |true=>exact absurd (.inl rfl) c
   |false=>
    have:V=576460752303423488:=by
     by_cases e:V=576460752303423488
     ·exact e
     ·exact absurd (.inr e) c
    intro hs;have:=hs.2
    simp only[bbm,if_false]at this
    omega
 ·right
  refine⟨.inr ?_,by rw[sV,if_neg (fun e=>by omega)],by rw[sV,if_neg (fun e=>by omega)]⟩
  intro hs;have h1:=hs.1;have h2:=hs.2;cases minus with
  |true=>simp only[if_true]at h1;omega
  |false=>simp only[bbm,if_false]at h2;omega
end Go.Bf
namespace Go.Bf
open Go.AM
theorem QK {h:Heap} {v:AV} {l:List Tm} (k:Acc h 6 v (bq l)) (na:cr v=some l.length):Src h v l:=by
 generalize hc:bq l=cells at k
 have tl:=bl l
 cases k with
 |ax=>
  rw[←bay,tl]at hc
  have:l=[]:=bay.1 (by omega)
  subst this;exact Sl.nil.src h
 |full n _ hl=>
  subst hc;cases na;exact(Sl.fs true l).src h
 |sl id gen n _ hat hl=>
  subst hc;cases na;refine⟨rfl,⟨.read,?_⟩,⟨false,rfl,fun e=>by cases e⟩⟩
  show(if 6=6∧l.length≤l.length then(h.at_ id gen).bind fun cs=>if 0+l.length*6≤cs.length then some ((cs.drop 0).take (l.length*6),dB.read)else none else none)=_
  rw[if_pos ⟨rfl,bab _⟩,hat,bag,if_pos (by omega),bah,bar (by omega)]
theorem V4 {h:Heap} {v:AV} {l:List Tm} (ho:an h) (k:Acc h 6 v (bq l)) (na:cr v=some l.length) (hn:l.length≤50000):
  ∃r h' c,WC env 103 [v,.agg (tc cI)] h (fun o=>o=.ret ⟨.agg r,h',c⟩)∧an h' ∧h.le h' ∧r.length=6∧∃f,∀h'',jL (fun j=>j<h.next) h' h'' →xX h'' (.agg r) (.agg (tc (b_ l cI f))):=by
 have frozen:Sl v l→∃r h' c,WC env 103 [v,.agg (tc cI)] h (fun o=>o=.ret ⟨.agg r,h',c⟩)∧an h' ∧h.le h' ∧r.length=6∧∃f,∀h'',jL (fun j=>j<h.next) h' h'' →xX h'' (.agg r) (.agg (tc (b_ l cI f))):=by
  intro ks;obtain⟨f,wf⟩:=sB ks cI hn (by show(0:Nat)≤50000;omega) (fun e=>by cases e)
  exact⟨_,h,.none,wf h,ho,Heap.le_refl h,aR _,f,fun h'' _=>(ay (v:=.agg _) (az _)).2 rfl⟩
 have ks0:∀h',h.le h' →Src h' v l:=fun h' le=>QK (k.le le) na
 generalize hc:bq l=cells at k
 have tl:=bl l
 cases k with
 |ax=>
  rw[←bay,tl]at hc
  have:l=[]:=bay.1 (by omega)
  subst this;exact frozen .nil
 |full n _ hl=>
  subst hc;cases na;exact frozen (.fs true l)
 |sl id gen n _ hat hl=>
  subst hc;cases na;have ks:=ks0;have key:WC env 103 [.sl id gen 0 6 l.length none,.agg (tc cI)] h (fun o=>∃r h' c,o=.ret ⟨.agg r,h',c⟩∧an h' ∧h.le h' ∧r.length=6∧∃f,∀h'',jL (fun j=>j<h.next) h' h'' →xX h'' (.agg r) (.agg (tc (b_ l cI f)))):=by
   refine ct rfl rfl (.inr (by simp only[AV.aj,AV.ae,bbd])) (xp ho ks (by omega) (.inr (by decide)) fun σ' h' i4 cells ho' hle hat g4 c0 c1=> ?_)
   by_cases hl:l=[]
   ·have ec:=c0 hl
    subst ec;refine⟨[.agg (tc cI)],by simp only[yU,Env.results,g4,aQ,hat,bah,t3,jab],tc cI,h',.write,rfl,ho',hle,aR _,none,fun h'' _=> ?_⟩
    rw[b_,if_pos hl];exact(ay (v:=.agg _) (az _)).2 rfl
   ·obtain⟨v',rfl,ka,na,ow⟩:=c1 hl
    refine⟨[.agg [.int .i64 7,.int .i64 0,.str [],.int .u32 0,.ax,v']],by simp only[yU,Env.results,g4,aQ,hat,bah,E1,jab],_,h',.write,rfl,ho',hle,rfl,?_⟩
    obtain⟨f,hf⟩:=BH ka (eD _) na
    have hff:∀h'',jL (fun j=>j<h.next) h' h'' →xX h'' v' (aM f (l.length+1) (bq (l++[cI]))):=fun h'' ch=>hf h'' (ka.wR ch (fun id e=>by have:=(ow id e).1;omega))
    refine⟨f,fun h'' ch=> ?_⟩
    rw[b_,if_neg hl];have e7:¬cI.kind=7:=by decide
    rw[if_neg e7];refine lh ⟨_,_,rfl,(ay (v:=.int .i64 7) rfl).2 rfl,_,_,rfl,(ay (v:=.int .i64 0) rfl).2 rfl,_,_,rfl,(ay (v:=.str []) rfl).2 rfl,_,_,rfl,(ay (v:=.int .u32 0) rfl).2 rfl,_,_,rfl,(ay (v:=.ax) rfl).2 rfl,_,_,rfl,?_,rfl⟩
    have:=hff h'' ch
    rwa [show l.length+1=(l++[cI]).length by simp]at this
  obtain⟨o,hn,r,h',c,rfl,e1,e2,e3,e4⟩:=key
  exact⟨r,h',c,⟨_,hn,rfl⟩,e1,e2,e3,e4⟩
theorem Tu {h:Heap} {v:AV} {l:List Tm} (ho:an h) (k:Acc h 6 v (bq l)) (na:cr v=some l.length) (hn:l.length≤50000):
  ∃r h' c,WC env 41 [v,.agg (tc cI)] h (fun o=>o=.ret ⟨.agg r,h',c⟩)∧an h' ∧h.le h' ∧r.length=6∧∃f,∀h'',jL (fun j=>j<h.next) h' h'' →xX h'' (.agg r) (.agg (tc (b_ l cI f))):=by
 have frozen:Sl v l→∃r h' c,WC env 41 [v,.agg (tc cI)] h (fun o=>o=.ret ⟨.agg r,h',c⟩)∧an h' ∧h.le h' ∧r.length=6∧∃f,∀h'',jL (fun j=>j<h.next) h' h'' →xX h'' (.agg r) (.agg (tc (b_ l cI f))):=by
  intro ks;obtain⟨f,wf⟩:=lZ ks cI (by omega) (by show(0:Nat)≤100000000;omega)
  exact⟨_,h,.none,wf h,ho,Heap.le_refl h,aR _,f,fun h'' _=>(ay (v:=.agg _) (az _)).2 rfl⟩
 generalize hc:bq l=cells at k
 have tl:=bl l
 cases k with
 |ax=>
  rw[←bay,tl]at hc
  have:l=[]:=bay.1 (by omega)
  subst this;exact frozen .nil
 |full n _ hl=>
  subst hc;cases na;exact frozen (.fs true l)
 |sl id gen n _ hat hl=>
  subst hc;cases na;exact El (lo:=0) ho (.sl id gen l hat (Nat.zero_le _)) hn
structure RS (h:Heap) (v:AV) (cs:List Int):Prop where
 len:cr v=some cs.length
 rd:∀i (hi:i<cs.length),∃p c,aZ 1 v (.int .i64 i)=some p∧bg h false 1 p=some ⟨.int .i32 cs[i],h,c⟩
theorem RS.mo {h:Heap} {v:AV} {cs:List Int} (k:RS h v cs) (hr:v.ae=false) (h2:Heap):aN false h2 v=some ⟨.int .i64 cs.length,h2,.none⟩:=by
 have:=k.len
 cases v<;>first|(simp[cr]at this;done)|(simp[AV.ae]at hr;done)|skip
 all_goals
  simp only[cr,bae]at this
  rw[←this];rfl
theorem V5 {h:Heap} {v:AV} {cs:List Int} (k:Acc h 1 v (cs.map gH)) (na:cr v=some cs.length) (hr:v.ae=false):∀h',h.le h' →RS h' v cs:=by
 generalize hc:cs.map gH=cells at k
 intro h' le;cases k with
 |ax=>simp[AV.ae]at hr
 |full n _ hl=>
  subst hc;rw[AV.ae]at hr
  have:∀l:List Int,AV.aj (l.map gH)=true:=by
   intro l;induction l with
   |nil=>rfl
   |cons a l ih=>rw[bba,AV.aj,ih];exact baa _
  rw[this]at hr;cases hr
 |sl id gen n _ hat hl=>
  subst hc;cases na;refine⟨rfl,fun i hi=>⟨.ptr id gen (0+i*1),.read,?_,?_⟩⟩
  ·simp only[aZ,gO (kd:=.i64) hi,jak]
  ·rw[aQ,le.2 _ _ _ hat,bag]
   have:(cs.map gH).drop (0+i*1)=gH cs[i]::(cs.map gH).drop (i+1):=by
    rw[baf,Nat.mul_one,bat (by simpa using hi),List.getElem_map]
   rw[this];rfl
def cT (c:Int):Tm:=fD (IntKind.wrap .i64 c)
theorem F5 (t:Tm):bq [t]=tc t:=by simp[bq]
theorem ahy {h0 h h' :Heap} {o:Option Nat} (ho0:an h0) (l:h0.le h) (b:Heap.kP o h h') (hs:∀id,o=some id→h0.next≤id):h0.le h' :=
 ⟨bal l.1 b.1,fun id gen cs e=>b.2 _ _ _ (fun e2=>by have:=hs _ e2;have:=ho0.lt e;omega) (l.2 _ _ _ e)⟩
theorem QL {h:Heap} {w:AV} {l:List Tm} (ho:an h) (k:Acc h 6 w (bq l)) (na:cr w=some l.length) (hn:l.length≤100000) (t:Tm):
  ∃w' h' c,b9 h 6 88 w (.fs true 1 (tc t))=some ⟨w',h',c⟩∧Acc h' 6 w' (bq (l++[t]))∧cr w' =some (l++[t]).length∧an h' ∧Heap.kP w.own h h' ∧(∀id,w'.own=some id→w.own=some id∨h.next≤id):=by
 obtain⟨w',h',c,e,k',lb,ho',ow,n'⟩:=Acc.append (bt:=88) ho (by omega:0<6) k na (y:=.fs true 1 (tc t)) (n:=1) rfl (J1 h t) (aR _) (by omega) (by omega)
 refine⟨w',h',c,e,?_,by rw[ban];exact n',ho',lb,ow⟩
 rw[fG,F5];exact k'
theorem Mj {h0:Heap} (ho0:an h0) {cs:List Int} {v:AV} (hv:∀h',h0.le h' →RS h' v cs) (hn:cs.length≤50000) {i0:Nat} (hi0:h0.next≤i0) {Q:aU→St→Prop}:
  ∀(f i:Nat) (σ:ah) (h:Heap) (w:AV),cs.length-i<f→i≤cs.length→an h→h0.le h→h.at_ i0 0=some aK→i0<h.next→Acc h 6 w (bq ((cs.take i).map cT))→cr w=some i→(∀id,w.own=some id→i0<id)→
  σ.get 2=.ptr i0 0 0→σ.get 3=w→σ.get 6=v→σ.get 7=.int .i64 cs.length→σ.get 8=.int .i64 i→
  (∀σ' h' w',an h' →h0.le h' →h'.at_ i0 0=some aK→i0<h'.next→Acc h' 6 w' (bq (cs.map cT))→cr w' =some cs.length→σ'.get 2=.ptr i0 0 0→σ'.get 3=w' →Q (.exit 0) ⟨σ',h'⟩)→kz env vT ⟨σ,h⟩ Q:=by
 intro f
 induction f with
 |zero=>intro i σ h w q1;omega
 |succ f ih=>
  intro i σ h w hf hi ho le a2 hx k na ow g2 g3 g6 g7 g8 hQ;refine aC fun b hb=> ?_
  by_cases c1:i<cs.length
  ·have z0:((i:Int)<(cs.length:Int))=True:=eq_true (by omega)
   have zi:IntKind.wrap .i64 ((i:Int)+1)=((i+1:Nat):Int):=aX (by omega) (by omega)
   obtain⟨p,cc,ip,lp⟩:=(hv h le).rd i c1
   have cv:∀h,di h (.int .i64) (.int .i32 cs[i])=some ⟨.int .i64 (IntKind.wrap .i64 cs[i]),h,.none⟩:=fun h=>rfl
   have wn:∀h,WC env 59 [.int .i64 (IntKind.wrap .i64 cs[i])] h (fun o=>o=.ret ⟨.agg (tc (cT cs[i])),h,.none⟩):=fun h=>fX _ h
   have y2:bY [.int .i64 0,.int .i64 0,.str [],.int .u32 0,.ax,.ax] [(0,6,.agg (tc (cT cs[i])))]=some (tc (cT cs[i])):=tR
   have hlen:((cs.take i).map cT).length=i:=by rw[bax,bbg];omega
   obtain⟨w',h',c',e',k',n',ho',lb,ow'⟩:=QL ho k (by rw[hlen];exact na) (by omega) (cT cs[i])
   have et:(cs.take i).map cT++[cT cs[i]]=(cs.take (i+1)).map cT:=by rw[List.take_succ_eq_append_getElem c1,List.map_append];rfl
   rw[et]at k' n'
   have hl2:((cs.take (i+1)).map cT).length=i+1:=by rw[bax,bbg];omega
   rw[hl2]at n'
   have le' :h0.le h' :=ahy ho0 le lb fun id e=>by have:=ow id e;omega
   have b2:h'.at_ i0 0=some aK:=lb.2 _ _ _ (fun e=>absurd (ow _ e) (Nat.lt_irrefl _)) a2
   simp only[vT,Mk,V6,V7,V8,aw,reduceIte,Nat.reduceEqDiff,g3,g6,g7,g8,z0,ip,lp,iC cc,cv,ai (wn _),y2,Nat.reduceMul,aR,if_true,e',iC c',zi]
   subst hb;refine ih (i+1) _ h' w' (by omega) (by omega) ho' le' b2 (baz hx lb.1) k' n' (fun id e=> ?_) ?_ ?_ ?_ ?_ ?_ hQ
   ·rcases ow' id e with e|e
    ·exact ow _ e
    ·omega
   all_goals simp only[aa,reduceIte,Nat.reduceEqDiff,g2,g6,g7]
  ·have z0:((i:Int)<(cs.length:Int))=False:=eq_false (by omega)
   simp only[vT,Mk,aw,reduceIte,g7,g8,z0]
   have hi2:i=cs.length:=by omega
   subst hi2;rw[List.take_length]at k
   refine hQ _ h w ho le a2 hx k na ?_ ?_
   ·simp only[aa,reduceIte,Nat.reduceEqDiff,g2]
   ·simp only[aa,reduceIte,Nat.reduceEqDiff,g3]
theorem Tv (h:Heap):WC env 132 [.ax] h (fun o=>o=.ret ⟨.agg (tc cI),h,.none⟩):=bu (n:=60) (by kernel_rfl)
theorem Et {h:Heap} (ho:an h) {v:AV} {cs:List Int} (hv:∀h',h.le h' →RS h' v cs) (hr:v.ae=false) (hn:cs.length≤50000):
  ∃r h' c,WC env 132 [v] h (fun o=>o=.ret ⟨.agg r,h',c⟩)∧an h' ∧h.le h' ∧r.length=6∧∃f,∀h'',jL (fun j=>j<h.next) h' h'' →xX h'' (.agg r) (.agg (tc (b_ (cs.map cT) cI f))):=by
 have key:WC env 132 [v] h (fun o=>∃r h' c,o=.ret ⟨.agg r,h',c⟩∧an h' ∧h.le h' ∧r.length=6∧∃f,∀h'',jL (fun j=>j<h.next) h' h'' →xX h'' (.agg r) (.agg (tc (b_ (cs.map cT) cI f)))):=by
  have nl:=(hv h (Heap.le_refl h)).mo hr
  refine ct rfl rfl (.inr (by simp only[AV.aj,hr,bbd])) ?_
  have eb:abX.body=(.seq (.ops Ml) (.seq (.ops Mm) (.seq (.seq (.ops Mn) (.block 0 (.loop vT))) (.seq (.ops Mo) .ret)))):=rfl
  rw[eb];obtain⟨H,eH⟩:∃H,H=h.new [.int .i64 0,.int .i64 0,.str [],.int .u32 0,.ax,.ax]:=⟨_,rfl⟩
  have ho1:an H:=by rw[eH];exact ho.new _
  have le1:h.le H:=by rw[eH];exact cz ho _
  have a1:H.at_ h.next 0=some aK:=by rw[eH];exact aY _
  have hx:h.next<H.next:=by rw[eH];exact Nat.lt_succ_self _
  simp only[Ml,Mm,Mn,ah.bbw,aw,reduceIte,Nat.reduceEqDiff,←eH,nl]
  refine Mj ho hv hn (i0:=h.next) (bab _) (cs.length+1) 0 _ H .ax (by omega) (by omega) ho1 le1 a1 hx .ax rfl (fun id e=>by cases e) ?_ ?_ ?_ ?_ ?_ fun σ' h2 w ho2 le2 b2 hx2 kw nw g2 g3=> ?_
  ·simp only[aa,reduceIte,Nat.reduceEqDiff]
  ·simp only[aa,reduceIte,Nat.reduceEqDiff]
  ·simp only[aa,reduceIte,Nat.reduceEqDiff]
  ·simp only[aa,reduceIte,Nat.reduceEqDiff]
  ·simp only[aa,reduceIte,Nat.reduceEqDiff];rfl
  obtain⟨r,h3',c,wr,ho3,le3,rl,f,hf⟩:=V4 ho2 kw (by rw[bax];exact nw) (by rw[bax];exact hn)
  have b3:=le3.2 _ _ _ b2
  have lr:bp true 6 r=some (.agg r):=by
   show(if 6≤r.length then some (AV.agg (r.take 6))else none)=_
   rw[if_pos (by omega),bar (by omega)]
  simp only[Mo,aw,reduceIte,Nat.reduceEqDiff,g2,g3,ai (xq _),ai wr,iC c,cF,b3,rl,eQ,bab,and_self,if_true]
  refine⟨[.agg r],by simp only[abX,Env.results,aa,reduceIte,Nat.reduceEqDiff,g2,aQ,dC,lr,jab,jad],r,_,.write,rfl,ho3.cD (cJ.1 b3) _ _,⟨bal le2.1 le3.1,fun id gen cs e=> ?_⟩,rl,f,fun h'' ch=>hf h'' ⟨ch.1,fun id gen cs hne e=> ?_⟩⟩
  ·have:=ho.lt e
   rw[cw (by omega)]
   exact le3.2 _ _ _ (le2.2 _ _ _ e)
  ·refine ch.2 _ _ _ (fun hlt=>hne ?_) (by rw[cw (fun e2=>hne (by rw[e2];exact hx2))];exact e)
   have:=le2.1
   omega
 obtain⟨o,hn',r,h',c,rfl,e1,e2,e3,e4⟩:=key
 exact⟨r,h',c,⟨_,hn',rfl⟩,e1,e2,e3,e4⟩
end Go.Bf
namespace Go.Bf
open Go.AM
theorem wrap32 {v:Int} (h: -2147483648≤v∧v<2147483648):IntKind.wrap .i32 v=v:=by
 show(if(true&&decide (v % 4294967296≥2147483648))=true then v % 4294967296-4294967296 else v % 4294967296)=v
 split
 ·rename_i c
  simp only[bbb,decide_eq_true_eq]at c
  omega
 ·rename_i c
  simp only[bbb,decide_eq_true_eq]at c
  omega
def BI (c:Int):List UInt8:=(Utf8.encode c).data.toList
theorem J5 (c:Int):(BI c).length≤4:=by
 unfold BI Utf8.encode
 simp only[]
 repeat (first|split|simp)
def OkC (x:Tm):Prop:=x.kind=1∧0≤x.int∧x.int≤1114111∧(x.int<55296∨57343<x.int)
instance (x:Tm):Decidable (OkC x):=inferInstanceAs (Decidable (x.kind=1∧0≤x.int∧x.int≤1114111∧(x.int<55296∨57343<x.int)))
def mg:List Tm→List UInt8→Option (List UInt8)
 |[],b=>some b
 |x::l,b=>if OkC x then mg l (b++BI x.int)else none
def sW (l:List Tm):Tm×Int:=match mg l []with
 |some b=>if b.length>255 then(bZ,262)else(gZ b,0)
 |none=>(bZ,261)
theorem abY {h:Heap} {v:AV} {bs s:List UInt8} (ho:an h) (k:Acc h 1 v (bs.map bK)) (hl:cr v=some bs.length) (hb:bs.length+s.length≤100000000):
  ∃v' h' c,b9 h 1 1 v (.str s)=some ⟨v',h',c⟩∧Acc h' 1 v' ((bs++s).map bK)∧cr v' =some (bs++s).length∧an h' ∧Heap.kP v.own h h' ∧(∀id,v'.own=some id→v.own=some id∨h.next≤id):=by
 obtain⟨v',h',c,w,k',lb,ho',ow,n'⟩:=Acc.append (bt:=1) ho (by omega:0<1) k hl (show cr (.str s)=some s.length from rfl) (show aT h 1 s.length (.str s)=some (s.map bK,.none)by simp[aT]) (by simp) (by omega) (by omega)
 refine⟨v',h',c,w,by rw[List.map_append];exact k',by rw[ban];exact n',ho',lb,ow⟩
structure QM (h:Heap) (i2:Nat) (v:AV) (bs:List UInt8):Prop where
 acc:Acc h 1 v (bs.map bK)
 len:cr v=some bs.length
 own:∀id,v.own=some id→i2<id
theorem QM.mo {h:Heap} {i2:Nat} {v:AV} {bs:List UInt8} (k:QM h i2 v bs) (h2:Heap):aN false h2 v=some ⟨.int .i64 bs.length,h2,.none⟩:=k.acc.mo k.len h2
theorem QM.le {h h' :Heap} {i2:Nat} {v:AV} {bs:List UInt8} (k:QM h i2 v bs) (hl:h.le h'):QM h' i2 v bs:=⟨k.acc.le hl,k.len,k.own⟩
theorem QM.app {h:Heap} {i2:Nat} {v:AV} {bs s:List UInt8} (k:QM h i2 v bs) (ho:an h) (hi:i2<h.next) (hb:bs.length+s.length≤100000000) {z:List AV} (a2:h.at_ i2 0=some z):
  ∃v' h' c,b9 h 1 1 v (.str s)=some ⟨v',h',c⟩∧QM h' i2 v' (bs++s)∧an h' ∧i2<h'.next∧h'.at_ i2 0=some z:=by
 obtain⟨v',h',c,w,k',n',ho',lb,ow⟩:=abY ho k.acc k.len hb
 refine⟨v',h',c,w,⟨k',n',fun id e=> ?_⟩,ho',baz hi lb.1,lb.2 _ _ _ (fun e=>absurd (k.own _ e) (Nat.lt_irrefl _)) a2⟩
 rcases ow id e with e|e
 ·exact k.own _ e
 ·omega
theorem QM.ax {h:Heap} {i2:Nat}:QM h i2 .ax []:=⟨.ax,rfl,fun id e=>by cases e⟩
theorem J6 {l:List Tm} {v:AV} (kv:Sl v l) (hn:l.length≤100000) {i2:Nat} {Q:aU→St→Prop}:
  ∀(f i:Nat) (σ:ah) (h:Heap) (bs:List UInt8) (bv:AV),l.length-i<f→i≤l.length→an h→i2<h.next→h.at_ i2 0=some aK→σ.get 2=.ptr i2 0 0→σ.get 17=v→σ.get 18=.int .i64 l.length→σ.get 19=.int .i64 i→σ.get 6=bv→QM h i2 bv bs→bs.length≤4*i→
  (mg (l.drop i) bs=none→∀σ' h',h'.at_ i2 0=some aK→σ'.get 2=.ptr i2 0 0→σ'.get 3=.int .i64 261→Q .ret ⟨σ',h'⟩)→
  (∀σ' h' bs' bv',mg (l.drop i) bs=some bs' →an h' →h'.at_ i2 0=some aK→QM h' i2 bv' bs' →bs'.length≤4*l.length→σ'.get 2=.ptr i2 0 0→σ'.get 6=bv' →Q (.exit 0) ⟨σ',h'⟩)→kz env iQ ⟨σ,h⟩ Q:=by
 intro f
 induction f with
 |zero=>intro i σ h bs bv p1;omega
 |succ f ih=>
  intro i σ h bs bv hf hi ho hx a2 g2 g17 g18 g19 g6 kb hbl hR hQ;refine aC fun b hb=> ?_
  by_cases c1:i<l.length
  ·have z0:((i:Int)<(l.length:Int))=True:=eq_true (by omega)
   have zi:IntKind.wrap .i64 ((i:Int)+1)=((i+1:Nat):Int):=aX (by omega) (by omega)
   obtain⟨x,ex⟩:∃x,x=l[i]:=⟨_,rfl⟩
   have hd:l.drop i=x::l.drop (i+1):=by rw[ex];exact bat c1
   have lx:=kv.idx c1
   have lt:=qX c1
   rw[←ex]at lt
   generalize (bq l).drop (i*6)=C at lx lt
   obtain⟨h1,st1,ho1,le1,at1⟩:=kH ho x
   have b2:=le1.2 _ _ _ a2
   have hx1:i2<h1.next:=baz hx le1.1
   have se:bC h1 6 (.ptr i2 0 0) (.agg aK)=some ⟨.undef,h1.cD i2 0 aK,.write⟩:=by rw[cF,b2];rfl
   have bad:¬OkC x→mg (l.drop i) bs=none:=fun hb=>by rw[hd,mg,if_neg hb]
   by_cases k1:x.kind=1
   ·have z1:(x.kind !=1)=false:=by simpa using k1
    by_cases k2:x.int<0
    ·have z2:(x.int<0)=True:=eq_true k2
     simp only[iQ,qY,tS,tU,BJ,aw,reduceIte,Nat.reduceEqDiff,g2,g17,g18,g19,z0,lx,bP,lt,st1,aQ,gh,at1,t3,z1,z2,aE,df,dj,se,jaj]
     refine hR (bad (fun e=>by have:=e.2.1;omega)) _ _ bD ?_ ?_
     ·simp only[aa,reduceIte,Nat.reduceEqDiff,g2]
     ·simp only[aa,reduceIte,Nat.reduceEqDiff]
    have z2:(x.int<0)=False:=eq_false k2
    by_cases k3:x.int>1114111
    ·have z3:(x.int>1114111)=True:=eq_true k3
     simp only[iQ,qY,tS,tU,BJ,aw,reduceIte,Nat.reduceEqDiff,g2,g17,g18,g19,z0,lx,bP,lt,st1,aQ,gh,at1,t3,z1,z2,z3,aE,df,dj,se,jaj]
     refine hR (bad (fun e=>by have:=e.2.2.1;omega)) _ _ bD ?_ ?_
     ·simp only[aa,reduceIte,Nat.reduceEqDiff,g2]
     ·simp only[aa,reduceIte,Nat.reduceEqDiff]
    have z3:(x.int>1114111)=False:=eq_false k3
    have hel:=J5 x.int
    obtain⟨v2,h2,c2,w2,kb2,ho2,hx2,d2⟩:=(kb.le le1).app (s:=BI x.int) ho1 hx1 (by omega) b2
    have cv1:∀h,di h (.int .i32) (.int .i64 x.int)=some ⟨.int .i32 x.int,h,.none⟩:=fun h=>by
     show some (⟨.int .i32 (IntKind.wrap .i32 x.int),h,.none⟩:cB)=_
     rw[wrap32 (by omega)]
    have cv2:∀h,di h .rune (.int .i32 x.int)=some ⟨.str (BI x.int),h,.none⟩:=fun h=>rfl
    by_cases k4:x.int<55296
    ·have z4:(x.int≥55296)=False:=eq_false (by omega)
     have ev:mg (l.drop i) bs=mg (l.drop (i+1)) (bs++BI x.int):=by rw[hd,mg,if_pos ⟨k1,by omega,by omega,.inl k4⟩]
     rw[ev]at hR hQ
     simp only[iQ,qY,tS,tU,F6,F7,aw,reduceIte,Nat.reduceEqDiff,g6,g17,g18,g19,z0,lx,bP,lt,st1,aQ,gh,at1,t3,z1,z2,z3,z4,dj,cv1,cv2,w2,iC c2,zi,jaj]
     subst hb;refine ih (i+1) _ h2 _ v2 (by omega) (by omega) ho2 hx2 d2 ?_ ?_ ?_ ?_ ?_ kb2 (by rw[ban];omega) hR hQ
     all_goals simp only[aa,reduceIte,Nat.reduceEqDiff,g2,g17,g18]
    ·have z4:(x.int≥55296)=True:=eq_true (by omega)
     by_cases k5:x.int≤57343
     ·have z5:(x.int≤57343)=True:=eq_true k5
      simp only[iQ,qY,tS,tU,BJ,aw,reduceIte,Nat.reduceEqDiff,g2,g17,g18,g19,z0,lx,bP,lt,st1,aQ,gh,at1,t3,z1,z2,z3,z4,z5,df,dj,se,jaj]
      refine hR (bad (fun e=>by have:=e.2.2.2;omega)) _ _ bD ?_ ?_
      ·simp only[aa,reduceIte,Nat.reduceEqDiff,g2]
      ·simp only[aa,reduceIte,Nat.reduceEqDiff]
     ·have z5:(x.int≤57343)=False:=eq_false k5
      have ev:mg (l.drop i) bs=mg (l.drop (i+1)) (bs++BI x.int):=by rw[hd,mg,if_pos ⟨k1,by omega,by omega,.inr (by omega)⟩]
      rw[ev]at hR hQ
      simp only[iQ,qY,tS,tU,F6,F7,aw,reduceIte,Nat.reduceEqDiff,g6,g17,g18,g19,z0,lx,bP,lt,st1,aQ,gh,at1,t3,z1,z2,z3,z4,z5,df,dj,cv1,cv2,w2,iC c2,zi,jaj]
      subst hb;refine ih (i+1) _ h2 _ v2 (by omega) (by omega) ho2 hx2 d2 ?_ ?_ ?_ ?_ ?_ kb2 (by rw[ban];omega) hR hQ
      all_goals simp only[aa,reduceIte,Nat.reduceEqDiff,g2,g17,g18]
   ·have z1:(x.kind !=1)=true:=by simpa using k1
    simp only[iQ,qY,tS,tU,BJ,aw,reduceIte,Nat.reduceEqDiff,g2,g17,g18,g19,z0,lx,bP,lt,st1,aQ,gh,at1,t3,z1,aE,df,se,jaj]
    refine hR (bad (fun e=>k1 e.1)) _ _ bD ?_ ?_
    ·simp only[aa,reduceIte,Nat.reduceEqDiff,g2]
    ·simp only[aa,reduceIte,Nat.reduceEqDiff]
  ·have z0:((i:Int)<(l.length:Int))=False:=eq_false (by omega)
   simp only[iQ,qY,aw,reduceIte,g18,g19,z0]
   refine hQ _ h bs bv (by rw[bao (by omega)];rfl) ho a2 kb (by omega) ?_ ?_
   ·simp only[aa,reduceIte,Nat.reduceEqDiff,g2]
   ·simp only[aa,reduceIte,Nat.reduceEqDiff,g6]
def mL (t:Tm):Tm×Int:=match bW t with
 |some l=>sW l
 |none=>(bZ,261)
theorem J7 (t:Tm) (w:Wf t) (h:Heap):WC env 135 [.agg (tc t)] h (fun o=>o=.ret ⟨.aF [.agg (tc (mL t).1),.int .i64 (mL t).2],h,.none⟩):=by
 obtain⟨v,kv,w1⟩:=cA t w
 refine ad rfl rfl rfl (by simp only[bdk,az]) ?_
 have eb:V9.body=(.seq (.ops F8) (.seq (.ops F9) (.seq (.seq (.ops F_) (.cond (.t 15) (.seq (.ops Mp) .ret) .skip)) (.seq (.ops Mq) (.seq (.seq (.ops Mr) (.block 0 (.loop iQ))) (.seq (.seq (.ops zE) (.cond (.t 56) (.seq (.ops Ga) .ret) .skip)) (.seq (.ops Gb) .ret))))))):=rfl
 rw[eb];obtain⟨H,eH⟩:∃H,H=(Heap.empty.new (tc t)).new [.int .i64 0,.int .i64 0,.str [],.int .u32 0,.ax,.ax]:=⟨_,rfl⟩
 have ho:an H:=by rw[eH];exact(an.empty.new _).new _
 have b0:H.at_ 0 0=some (tc t):=by rw[eH];simp only[aW,reduceIte,Nat.reduceEqDiff]
 have b1:H.at_ 1 0=some aK:=by rw[eH];simp only[aW,reduceIte,Nat.reduceEqDiff];rfl
 have hx:1<H.next:=by rw[eH];exact Nat.lt_succ_self 1
 have se:∀{g:Heap},g.at_ 1 0=some aK→bC g 6 (.ptr 1 0 0) (.agg aK)=some ⟨.undef,g.cD 1 0 aK,.write⟩:=fun b1=>by rw[cF,b1];rfl
 have fin:∀{r:Tm} {cd:Int} {σ' :ah} {h' :Heap},h'.at_ 1 0=some (tc r)→σ'.get 2=.ptr 1 0 0→σ'.get 3=.int .i64 cd→iB env V9.results h (fun o=>o=.ret ⟨.aF [.agg (tc r),.int .i64 cd],h,.none⟩) .ret ⟨σ',h'⟩:=by
  intro r cd σ' h' c1 q2 q3;rw[jR];exact⟨[.agg (tc r),.int .i64 cd],by simp only[V9,Env.results,q2,q3,aQ,c1,bah,t3,jab],.aF [.agg (tc r),.int .i64 cd],(ay (v:=.aF [.agg (tc r),.int .i64 cd]) (by simp only[bdk,az])).2 rfl,rfl⟩
 cases e:bW t with
 |none=>
  rw[e]at w1 kv
  have e1:(Option.isSome (none:Option (List Tm)))=false:=rfl
  rw[e1]at w1
  rw[mL,e];simp only[F8,F9,F_,Mp,ah.bbw,aw,reduceIte,Nat.reduceEqDiff,dH,aR,cG,cY,←eH,aQ,b0,t3,ai (w1 _),kA,n7,dm,se b1,jad,jah]
  exact fin bD (by simp only[aa,reduceIte,Nat.reduceEqDiff]) (by simp only[aa,reduceIte,Nat.reduceEqDiff])
 |some l=>
  rw[e]at w1 kv
  have e1:(Option.isSome (some l:Option (List Tm)))=true:=rfl
  rw[e1]at w1
  have kv:Sl v l:=kv
  have hl:=(dY w e).1
  have nl:=kv.len;rw[mL,e];show jK env _ _ (iB env _ h (fun o=>o=.ret ⟨.aF [.agg (tc (sW l).1),.int .i64 (sW l).2],h,.none⟩))
  simp only[F8,F9,F_,Mq,Mr,ah.bbw,aw,reduceIte,Nat.reduceEqDiff,dH,aR,cG,cY,←eH,aQ,b0,t3,ai (w1 _),kA,n7,dm,nl,jad,jag]
  refine J6 kv (by omega) (i2:=1) (l.length+1) 0 _ H [] .ax (by omega) (by omega) ho hx b1 ?_ ?_ ?_ ?_ ?_ .ax (by simp) (fun hv σ' h' b2 q2 q3=> ?_) (fun σ' h' bs' bv' hv ho' b2 kb hbl q2 q6=> ?_)
  ·simp only[aa,reduceIte,Nat.reduceEqDiff]
  ·simp only[aa,reduceIte,Nat.reduceEqDiff]
  ·simp only[aa,reduceIte,Nat.reduceEqDiff]
  ·simp only[aa,reduceIte,Nat.reduceEqDiff];rfl
  ·simp only[aa,reduceIte,Nat.reduceEqDiff]
  ·rw[bah]at hv
   rw[sW,hv];exact fin b2 q2 q3
  ·rw[bah]at hv
   rw[sW,hv];have nb:=kb.mo
   by_cases c:bs'.length>255
   ·have z:((bs'.length:Int)>255)=True:=eq_true (by omega)
    simp only[if_pos c]
    simp only[zE,Ga,aw,reduceIte,Nat.reduceEqDiff,q2,q6,nb,z,t3,se b2]
    exact fin bD (by simp only[aa,reduceIte,Nat.reduceEqDiff,q2]) (by simp only[aa,reduceIte,Nat.reduceEqDiff])
   ·have z:((bs'.length:Int)>255)=False:=eq_false (by omega)
    obtain⟨c3,hc3,w3⟩:=kb.acc.zp.Ld
    have sf:bC h' 6 (.ptr 1 0 0) (.agg (tc (gZ bs')))=some ⟨.undef,h'.cD 1 0 (tc (gZ bs')),.write⟩:=by rw[cF,b2];rfl
    simp only[if_neg c]
    simp only[zE,Gb,aw,reduceIte,Nat.reduceEqDiff,q2,q6,nb,z,w3,iC c3,ai (im _ _),sf]
    exact fin bD (by simp only[aa,reduceIte,Nat.reduceEqDiff,q2]) (by simp only[aa,reduceIte,Nat.reduceEqDiff])
theorem Ms {l:List Tm} {v:AV} (kv:Sl v l) (hn:l.length≤100000) {i2:Nat} {Q:aU→St→Prop}:
  ∀(f i:Nat) (σ:ah) (h:Heap) (bs:List UInt8) (bv:AV),l.length-i<f→i≤l.length→an h→i2<h.next→h.at_ i2 0=some aK→σ.get 2=.ptr i2 0 0→σ.get 0=v→σ.get 5=.int .i64 i→σ.get 4=bv→QM h i2 bv bs→bs.length≤4*i→
  (mg (l.drop i) bs=none→∀σ' h',h'.at_ i2 0=some aK→σ'.get 2=.ptr i2 0 0→σ'.get 3=.int .i64 261→Q .ret ⟨σ',h'⟩)→
  (∀σ' h' bs' bv',mg (l.drop i) bs=some bs' →an h' →h'.at_ i2 0=some aK→QM h' i2 bv' bs' →bs'.length≤4*l.length→σ'.get 2=.ptr i2 0 0→σ'.get 4=bv' →Q (.exit 0) ⟨σ',h'⟩)→kz env kf ⟨σ,h⟩ Q:=by
 intro f
 induction f with
 |zero=>intro i σ h bs bv p1;omega
 |succ f ih=>
  intro i σ h bs bv hf hi ho hx a2 g2 g0 g5 g4 kb hbl hR hQ;refine aC fun b hb=> ?_
  have nl:=kv.len
  by_cases c1:i<l.length
  ·have z0:((i:Int)<(l.length:Int))=True:=eq_true (by omega)
   have zi:IntKind.wrap .i64 ((i:Int)+1)=((i+1:Nat):Int):=aX (by omega) (by omega)
   obtain⟨x,ex⟩:∃x,x=l[i]:=⟨_,rfl⟩
   have hd:l.drop i=x::l.drop (i+1):=by rw[ex];exact bat c1
   have lx:=kv.idx c1
   have l0:=ldk c1
   have l1:bp false 1 (((bq l).drop (i*6)).drop 1)=some (.int .i64 x.int):=by
    rw[gQ _ _ c1,←ex];cases x;rfl
   rw[←ex]at l0
   generalize (bq l).drop (i*6)=C at lx l0 l1
   have se:bC h 6 (.ptr i2 0 0) (.agg aK)=some ⟨.undef,h.cD i2 0 aK,.write⟩:=by rw[cF,a2];rfl
   have bad:¬OkC x→mg (l.drop i) bs=none:=fun hb=>by rw[hd,mg,if_neg hb]
   by_cases k1:x.kind=1
   ·have z1:(x.kind !=1)=false:=by simpa using k1
    by_cases k2:x.int<0
    ·have z2:(x.int<0)=True:=eq_true k2
     simp only[kf,qZ,tV,tW,BK,aw,reduceIte,Nat.reduceEqDiff,g0,g2,g5,nl,z0,lx,bP,fw,l0,l1,bah,t3,z1,z2,aE,df,dj,se]
     refine hR (bad (fun e=>by have:=e.2.1;omega)) _ _ bD ?_ ?_
     ·simp only[aa,reduceIte,Nat.reduceEqDiff,g2]
     ·simp only[aa,reduceIte,Nat.reduceEqDiff]
    have z2:(x.int<0)=False:=eq_false k2
    by_cases k3:x.int>1114111
    ·have z3:(x.int>1114111)=True:=eq_true k3
     simp only[kf,qZ,tV,tW,BK,aw,reduceIte,Nat.reduceEqDiff,g0,g2,g5,nl,z0,lx,bP,fw,l0,l1,bah,t3,z1,z2,z3,aE,df,dj,se]
     refine hR (bad (fun e=>by have:=e.2.2.1;omega)) _ _ bD ?_ ?_
     ·simp only[aa,reduceIte,Nat.reduceEqDiff,g2]
     ·simp only[aa,reduceIte,Nat.reduceEqDiff]
    have z3:(x.int>1114111)=False:=eq_false k3
    have hel:=J5 x.int
    obtain⟨v2,h2,c2,w2,kb2,ho2,hx2,d2⟩:=kb.app (s:=BI x.int) ho hx (by omega) a2
    have cv1:∀h,di h (.int .i32) (.int .i64 x.int)=some ⟨.int .i32 x.int,h,.none⟩:=fun h=>by
     show some (⟨.int .i32 (IntKind.wrap .i32 x.int),h,.none⟩:cB)=_
     rw[wrap32 (by omega)]
    have cv2:∀h,di h .rune (.int .i32 x.int)=some ⟨.str (BI x.int),h,.none⟩:=fun h=>rfl
    by_cases k4:x.int<55296
    ·have z4:(x.int≥55296)=False:=eq_false (by omega)
     have ev:mg (l.drop i) bs=mg (l.drop (i+1)) (bs++BI x.int):=by rw[hd,mg,if_pos ⟨k1,by omega,by omega,.inl k4⟩]
     rw[ev]at hR hQ
     simp only[kf,qZ,tV,tW,Mt,Mu,aw,reduceIte,Nat.reduceEqDiff,g0,g4,g5,nl,z0,lx,bP,fw,l0,l1,bah,z1,z2,z3,z4,dj,cv1,cv2,w2,iC c2,zi]
     subst hb;refine ih (i+1) _ h2 _ v2 (by omega) (by omega) ho2 hx2 d2 ?_ ?_ ?_ ?_ kb2 (by rw[ban];omega) hR hQ
     all_goals simp only[aa,reduceIte,Nat.reduceEqDiff,g2,g0]
    ·have z4:(x.int≥55296)=True:=eq_true (by omega)
     by_cases k5:x.int≤57343
     ·have z5:(x.int≤57343)=True:=eq_true k5
      simp only[kf,qZ,tV,tW,BK,aw,reduceIte,Nat.reduceEqDiff,g0,g2,g5,nl,z0,lx,bP,fw,l0,l1,bah,t3,z1,z2,z3,z4,z5,df,dj,se]
      refine hR (bad (fun e=>by have:=e.2.2.2;omega)) _ _ bD ?_ ?_
      ·simp only[aa,reduceIte,Nat.reduceEqDiff,g2]
      ·simp only[aa,reduceIte,Nat.reduceEqDiff]
     ·have z5:(x.int≤57343)=False:=eq_false k5
      have ev:mg (l.drop i) bs=mg (l.drop (i+1)) (bs++BI x.int):=by rw[hd,mg,if_pos ⟨k1,by omega,by omega,.inr (by omega)⟩]
      rw[ev]at hR hQ
      simp only[kf,qZ,tV,tW,Mt,Mu,aw,reduceIte,Nat.reduceEqDiff,g0,g4,g5,nl,z0,lx,bP,fw,l0,l1,bah,z1,z2,z3,z4,z5,df,dj,cv1,cv2,w2,iC c2,zi]
      subst hb;refine ih (i+1) _ h2 _ v2 (by omega) (by omega) ho2 hx2 d2 ?_ ?_ ?_ ?_ kb2 (by rw[ban];omega) hR hQ
      all_goals simp only[aa,reduceIte,Nat.reduceEqDiff,g2,g0]
   ·have z1:(x.kind !=1)=true:=by simpa using k1
    simp only[kf,qZ,tV,tW,BK,aw,reduceIte,Nat.reduceEqDiff,g0,g2,g5,nl,z0,lx,bP,fw,l0,l1,bah,t3,z1,aE,df,se]
    refine hR (bad (fun e=>k1 e.1)) _ _ bD ?_ ?_
    ·simp only[aa,reduceIte,Nat.reduceEqDiff,g2]
    ·simp only[aa,reduceIte,Nat.reduceEqDiff]
  ·have z0:((i:Int)<(l.length:Int))=False:=eq_false (by omega)
   simp only[kf,qZ,aw,reduceIte,Nat.reduceEqDiff,g0,g5,nl,z0]
   refine hQ _ h bs bv (by rw[bao (by omega)];rfl) ho a2 kb (by omega) ?_ ?_
   ·simp only[aa,reduceIte,Nat.reduceEqDiff,g2]
   ·simp only[aa,reduceIte,Nat.reduceEqDiff,g4]
theorem J8 {v:AV} {l:List Tm} (kv:Sl v l) (hl:l.length≤100000) (h:Heap):WC env 146 [v] h (fun o=>o=.ret ⟨.aF [.agg (tc (sW l).1),.int .i64 (sW l).2],h,.none⟩):=by
 refine ad rfl rfl rfl (by simp only[AV.aj,kv.ae,baa]) ?_
 have eb:a146.body=(.seq (.ops Mv) (.seq (.ops Mw) (.seq (.seq (.ops Mx) (.block 0 (.loop kf))) (.seq (.seq (.ops zF) (.cond (.t 48) (.seq (.ops Gc) .ret) .skip)) (.seq (.ops Gd) .ret))))):=rfl
 rw[eb];obtain⟨H,eH⟩:∃H,H=Heap.empty.new [.int .i64 0,.int .i64 0,.str [],.int .u32 0,.ax,.ax]:=⟨_,rfl⟩
 have ho:an H:=by rw[eH];exact an.empty.new _
 have hx:0<H.next:=by rw[eH];exact Nat.zero_lt_one
 have b1:H.at_ 0 0=some aK:=by rw[eH];simp only[aW];rfl
 have se:∀{g:Heap},g.at_ 0 0=some aK→bC g 6 (.ptr 0 0 0) (.agg aK)=some ⟨.undef,g.cD 0 0 aK,.write⟩:=fun b1=>by rw[cF,b1];rfl
 have fin:∀{r:Tm} {cd:Int} {σ' :ah} {h' :Heap},h'.at_ 0 0=some (tc r)→σ'.get 2=.ptr 0 0 0→σ'.get 3=.int .i64 cd→iB env a146.results h (fun o=>o=.ret ⟨.aF [.agg (tc r),.int .i64 cd],h,.none⟩) .ret ⟨σ',h'⟩:=by
  intro r cd σ' h' c1 q2 q3;rw[jR];exact⟨[.agg (tc r),.int .i64 cd],by simp only[a146,Env.results,q2,q3,aQ,c1,bah,t3,jab],.aF [.agg (tc r),.int .i64 cd],(ay (v:=.aF [.agg (tc r),.int .i64 cd]) (by simp only[bdk,az])).2 rfl,rfl⟩
 simp only[Mv,Mw,Mx,ah.bbw,aw,cG,←eH]
 refine Ms kv hl (i2:=0) (l.length+1) 0 _ H [] .ax (by omega) (by omega) ho hx b1 ?_ ?_ ?_ ?_ .ax (by simp) (fun hv σ' h' b2 q2 q3=> ?_) (fun σ' h' bs' bv' hv ho' b2 kb hbl q2 q4=> ?_)
 ·simp only[aa,reduceIte,Nat.reduceEqDiff]
 ·simp only[aa,reduceIte,Nat.reduceEqDiff]
 ·simp only[aa,reduceIte,Nat.reduceEqDiff];rfl
 ·simp only[aa,reduceIte,Nat.reduceEqDiff]
 ·rw[bah]at hv
  rw[sW,hv];exact fin b2 q2 q3
 ·rw[bah]at hv
  rw[sW,hv];have nb:=kb.mo
  by_cases c:bs'.length>255
  ·have z:((bs'.length:Int)>255)=True:=eq_true (by omega)
   simp only[if_pos c]
   simp only[zF,Gc,aw,reduceIte,Nat.reduceEqDiff,q2,q4,nb,z,t3,se b2]
   exact fin bD (by simp only[aa,reduceIte,Nat.reduceEqDiff,q2]) (by simp only[aa,reduceIte,Nat.reduceEqDiff])
  ·have z:((bs'.length:Int)>255)=False:=eq_false (by omega)
   obtain⟨c3,hc3,w3⟩:=kb.acc.zp.Ld
   have sf:bC h' 6 (.ptr 0 0 0) (.agg (tc (gZ bs')))=some ⟨.undef,h'.cD 0 0 (tc (gZ bs')),.write⟩:=by rw[cF,b2];rfl
   simp only[if_neg c]
   simp only[zF,Gd,aw,reduceIte,Nat.reduceEqDiff,q2,q4,nb,z,w3,iC c3,ai (iX _ _),sf]
   exact fin bD (by simp only[aa,reduceIte,Nat.reduceEqDiff,q2]) (by simp only[aa,reduceIte,Nat.reduceEqDiff])
end Go.Bf
namespace Go.Bf
open Go.AM
theorem vU {h:Heap} {sz bt:Nat} {x y:AV} {r:cB} (e:b9 h sz bt x y=some r):r.h.gg=h.gg∧(∀n,cr y=some n→n≠0→r.v.ae=false):=by
 simp only[b9,bac]at e
 obtain⟨n,hn,len,hlen,e⟩:=e
 split at e
 case isFalse=>cases e
 split at e
 ·rename_i h0
  have ne:∀m,cr y=some m→m≠0→False:=fun m hm h1=>by rw[hn]at hm;cases hm;exact h1 h0
  split at e
  ·cases e
  ·cases e;exact⟨rfl,fun m hm h1=>(ne m hm h1).elim⟩
 simp only[bac]at e
 obtain⟨⟨new,c⟩,hc,e⟩:=e
 have grown:∀{r:cB},((aT h sz len x).map fun(old,_)=>(⟨.sl h.next 0 0 sz (len+n) none,h.new (old++new),.write⟩:cB))=some r→r.h.gg=h.gg∧(∀n,cr y=some n→n≠0→r.v.ae=false):=by
  intro r e;simp only[bai]at e
  obtain⟨⟨old,c⟩,_,rfl⟩:=e
  exact⟨rfl,fun _ _ _=>rfl⟩
 split at e
 ·exact grown e
 ·exact grown e
 ·split at e
  ·split at e
   ·simp only[bac]at e
    obtain⟨cs,_,e⟩:=e
    split at e
    ·cases e;exact⟨rfl,fun _ _ _=>rfl⟩
    ·cases e
   ·exact grown e
  ·cases e
 ·split at e
  ·simp only[bac]at e
   obtain⟨cs,_,e⟩:=e
   split at e
   ·cases e;exact⟨rfl,fun _ _ _=>rfl⟩
   ·split at e
    ·cases e;exact⟨rfl,fun _ _ _=>rfl⟩
    ·cases e
  ·cases e
 ·cases e
theorem aeA (s:ByteArray) (i:Nat):1≤(Utf8.decode s i).2:=by
 unfold Utf8.decode
 simp only[]
 repeat (first|split|exact bab 1|(show(1:Nat)≤_;omega))
theorem le_step {h:Heap} {k:Nat} {s:List UInt8} {p:Nat}:h.le (h.step k s p):=⟨bab _,fun _ _ _ e=>e⟩
theorem QN {h:Heap} (ho:an h) {k:Nat} {s:List UInt8} {p:Nat}:an (h.step k s p):=fun id hid=>ho id hid
theorem Eu {h:Heap} {k:Nat} {s:List UInt8} {p:Nat} (it:h.gg[k]? =some (s,p)) (hp:p<s.length):
  uT h k=some ⟨.aF [.bool true,.int .i64 p,.int .i32 (Utf8.decode ⟨s.toArray⟩ p).1],h.step k s (p+(Utf8.decode ⟨s.toArray⟩ p).2),.write⟩:=by
 rw[uT,it];show(if p<s.length then _ else _)=_
 rw[if_pos hp]
theorem vV {h:Heap} {k:Nat} {s:List UInt8} {p:Nat} (it:h.gg[k]? =some (s,p)) (hp:¬p<s.length):uT h k=some ⟨.aF [.bool false],h,.write⟩:=by
 rw[uT,it];show(if p<s.length then _ else _)=_
 rw[if_neg hp]
theorem J9 {h:Heap} {k:Nat} {s:List UInt8} {p q:Nat} (it:h.gg[k]? =some (s,p)):(h.step k s q).gg[k]? =some (s,q):=by
 show(h.gg.set k (s,q))[k]? =_
 have:k<h.gg.length:=by
  rw[bbt]at it;exact it.1
 rw[List.getElem?_set_self this]
theorem tX {s:List UInt8} {b p:Nat} (hp:p<s.length):dW ⟨s.toArray⟩ (b+1) p=((Utf8.decode ⟨s.toArray⟩ p).1:Int)::dW ⟨s.toArray⟩ b (p+(Utf8.decode ⟨s.toArray⟩ p).2):=by
 rw[dW,if_pos (by simpa[ByteArray.size]using hp)];rfl
theorem lv {s:List UInt8} {b p:Nat} (hp:¬p<s.length):dW ⟨s.toArray⟩ b p=[]:=by
 cases b with
 |zero=>rfl
 |succ b=>rw[dW,if_neg (by simpa[ByteArray.size]using hp)]
theorem sC (s:ByteArray):∀b p,(dW s b p).length≤b
 |0,p=>bab _
 |b+1,p=>by
  rw[dW];split
  ·have:=sC s b (p+(Utf8.decode s p).2);simp only[bav];omega
  ·simp
theorem V_ {h:Heap} {w:AV} {l:List Int} (ho:an h) (k:Acc h 1 w (l.map gH)) (na:cr w=some l.length) (hn:l.length≤100000) (c:Int):
  ∃w' h' c',b9 h 1 4 w (.fs true 1 [.int .i32 c])=some ⟨w',h',c'⟩∧Acc h' 1 w' ((l++[c]).map gH)∧cr w' =some (l++[c]).length∧an h' ∧Heap.kP w.own h h' ∧(∀id,w'.own=some id→w.own=some id∨h.next≤id)∧h'.gg=h.gg∧w'.ae=false:=by
 obtain⟨w',h',c',e,k',lb,ho',ow,n'⟩:=Acc.append (bt:=4) ho (by omega:0<1) k na (y:=.fs true 1 [.int .i32 c]) (n:=1) rfl (show aT h 1 1 (.fs true 1 [.int .i32 c])=some ([.int .i32 c],.none)from rfl) rfl (by omega) (by omega)
 obtain⟨f1,f2⟩:=vU e
 refine⟨w',h',c',e,?_,by rw[ban];exact n',ho',lb,ow,f1,f2 1 rfl (by decide)⟩
 rw[List.map_append];exact k'
theorem My {s:List UInt8} {kk i4:Nat} {S0 S5:AV} (hs:s.length≤50000) {Q:aU→St→Prop}:
  ∀(b p:Nat) (σ:ah) (h:Heap) (w:AV) (cs:List Int),s.length-p≤b→cs.length+b≤50000→an h→h.gg[kk]? =some (s,p)→h.at_ i4 0=some aK→i4<h.next→Acc h 1 w (cs.map gH)→cr w=some cs.length→(w=.ax∨w.ae=false)→(∀id,w.own=some id→i4<id)→
  σ.get 27=.xO kk→σ.get 6=w→σ.get 4=S0→σ.get 5=S5→
  (∀σ' h' w',an h' →h'.at_ i4 0=some aK→i4<h'.next→Acc h' 1 w' ((cs++dW ⟨s.toArray⟩ b p).map gH)→cr w' =some (cs++dW ⟨s.toArray⟩ b p).length→(w' =.ax∨w'.ae=false)→σ'.get 6=w' →σ'.get 4=S0→σ'.get 5=S5→Q (.exit 1) ⟨σ',h'⟩)→kz env q_ ⟨σ,h⟩ Q:=by
 intro b
 induction b with
 |zero=>
  intro p σ h w cs hb hcs ho it a4 hx k na hw ow g27 g6 g4 g5 hQ;refine aC fun b hb=> ?_
  have nx:=vV it (by omega)
  rw[lv (by omega),bbj]at hQ
  simp only[q_,Ge,aw,reduceIte,Nat.reduceEqDiff,AV.xO.injEq,exists_and_left,g27,nx,kA]
  refine hQ _ h w ho a4 hx k na hw ?_ ?_ ?_
  ·simp only[aa,reduceIte,Nat.reduceEqDiff,g6]
  ·simp only[aa,reduceIte,Nat.reduceEqDiff,g4]
  ·simp only[aa,reduceIte,Nat.reduceEqDiff,g5]
 |succ b ih=>
  intro p σ h w cs hb hcs ho it a4 hx k na hw ow g27 g6 g4 g5 hQ;refine aC fun b' hb' => ?_
  by_cases hp:p<s.length
  ·have nx:=Eu it hp
   have wd:=aeA ⟨s.toArray⟩ p
   rw[tX hp]at hQ
   obtain⟨c,ec⟩:∃c:Int,c=((Utf8.decode ⟨s.toArray⟩ p).1:Int):=⟨_,rfl⟩
   rw[←ec]at nx hQ
   obtain⟨w',h',c',e',k',n',ho',lb,ow',i',nr'⟩:=V_ (h:=h.step kk s (p+(Utf8.decode ⟨s.toArray⟩ p).2)) (QN ho) (k.le le_step) na (by omega) c
   have y2:bY [.int .i32 0] [(0,1,.int .i32 c)]=some [.int .i32 c]:=rfl
   have it' :h'.gg[kk]? =some (s,p+(Utf8.decode ⟨s.toArray⟩ p).2):=by rw[i'];exact J9 it
   have b4:h'.at_ i4 0=some aK:=lb.2 _ _ _ (fun e=>absurd (ow _ e) (Nat.lt_irrefl _)) a4
   have hx' :i4<h'.next:=baz hx lb.1
   simp only[q_,Ge,QO,QP,aw,reduceIte,Nat.reduceEqDiff,AV.xO.injEq,exists_and_left,g27,g6,nx,kA,Qe,y2,Nat.reduceMul,Nat.reduceAdd,if_true,e',iC c',jaf]
   subst hb';have ea:cs++c::dW ⟨s.toArray⟩ b (p+(Utf8.decode ⟨s.toArray⟩ p).2)=(cs++[c])++dW ⟨s.toArray⟩ b (p+(Utf8.decode ⟨s.toArray⟩ p).2):=by rw[bbp];rfl
   rw[ea]at hQ
   refine ih (p+(Utf8.decode ⟨s.toArray⟩ p).2) _ h' w' (cs++[c]) (by omega) (by rw[ban];simp only[jaf];omega) ho' it' b4 hx' k' n' (.inr nr') (fun id e=> ?_) ?_ ?_ ?_ ?_ hQ
   ·rcases ow' id e with e|e
    ·exact ow _ e
    ·exact baz hx e
   all_goals simp only[aa,reduceIte,Nat.reduceEqDiff,g27,g4,g5]
  ·have nx:=vV it hp
   rw[lv hp,bbj]at hQ
   simp only[q_,Ge,aw,reduceIte,Nat.reduceEqDiff,AV.xO.injEq,exists_and_left,g27,nx,kA]
   refine hQ _ h w ho a4 hx k na hw ?_ ?_ ?_
   ·simp only[aa,reduceIte,Nat.reduceEqDiff,g6]
   ·simp only[aa,reduceIte,Nat.reduceEqDiff,g4]
   ·simp only[aa,reduceIte,Nat.reduceEqDiff,g5]
theorem Mz {s:List UInt8} {kk i8:Nat} {S0 S9:AV} (hs:s.length≤50000) {Q:aU→St→Prop}:
  ∀(b p:Nat) (σ:ah) (h:Heap) (w:AV) (cs:List Int),s.length-p≤b→cs.length+b≤50000→an h→h.gg[kk]? =some (s,p)→h.at_ i8 0=some aK→i8<h.next→Acc h 6 w (bq (cs.map cT))→cr w=some cs.length→(∀id,w.own=some id→i8<id)→
  σ.get 33=.xO kk→σ.get 10=w→σ.get 8=S0→σ.get 9=S9→
  (∀σ' h' w',an h' →h'.at_ i8 0=some aK→i8<h'.next→Acc h' 6 w' (bq ((cs++dW ⟨s.toArray⟩ b p).map cT))→cr w' =some (cs++dW ⟨s.toArray⟩ b p).length→σ'.get 10=w' →σ'.get 8=S0→σ'.get 9=S9→Q (.exit 1) ⟨σ',h'⟩)→kz env re ⟨σ,h⟩ Q:=by
 intro b
 induction b with
 |zero=>
  intro p σ h w cs hb hcs ho it a4 hx k na ow g33 g10 g8 g9 hQ;refine aC fun b hb=> ?_
  have nx:=vV it (by omega)
  rw[lv (by omega),bbj]at hQ
  simp only[re,zG,aw,reduceIte,Nat.reduceEqDiff,AV.xO.injEq,exists_and_left,g33,nx,kA]
  refine hQ _ h w ho a4 hx k na ?_ ?_ ?_
  ·simp only[aa,reduceIte,Nat.reduceEqDiff,g10]
  ·simp only[aa,reduceIte,Nat.reduceEqDiff,g8]
  ·simp only[aa,reduceIte,Nat.reduceEqDiff,g9]
 |succ b ih=>
  intro p σ h w cs hb hcs ho it a4 hx k na ow g33 g10 g8 g9 hQ;refine aC fun b' hb' => ?_
  by_cases hp:p<s.length
  ·have nx:=Eu it hp
   have wd:=aeA ⟨s.toArray⟩ p
   rw[tX hp]at hQ
   obtain⟨c,ec⟩:∃c:Int,c=((Utf8.decode ⟨s.toArray⟩ p).1:Int):=⟨_,rfl⟩
   rw[←ec]at nx hQ
   obtain⟨w',h',c',e',k',n',ho',lb,ow'⟩:=QL (h:=h.step kk s (p+(Utf8.decode ⟨s.toArray⟩ p).2)) (QN ho) (k.le le_step) (by rw[bax];exact na) (by rw[bax];omega) (cT c)
   have y2:bY [.int .i64 0,.int .i64 0,.str [],.int .u32 0,.ax,.ax] [(0,6,.agg (tc (cT c)))]=some (tc (cT c)):=tR
   have cv:∀h,di h (.int .i64) (.int .i32 c)=some ⟨.int .i64 (IntKind.wrap .i64 c),h,.none⟩:=fun h=>rfl
   have wn:∀h,WC env 22 [.int .i64 (IntKind.wrap .i64 c)] h (fun o=>o=.ret ⟨.agg (tc (cT c)),h,.none⟩):=fun h=>dK _ h
   have it' :h'.gg[kk]? =some (s,p+(Utf8.decode ⟨s.toArray⟩ p).2):=by rw[(vU e').1];exact J9 it
   have b4:h'.at_ i8 0=some aK:=lb.2 _ _ _ (fun e=>absurd (ow _ e) (Nat.lt_irrefl _)) a4
   have hx' :i8<h'.next:=baz hx lb.1
   have em:cs.map cT++[cT c]=(cs++[c]).map cT:=by rw[List.map_append];rfl
   rw[em]at k' n'
   rw[bax]at n'
   simp only[re,zG,QQ,QR,aw,reduceIte,Nat.reduceEqDiff,AV.xO.injEq,exists_and_left,g33,g10,nx,kA,Qe,cv,ai (wn _),y2,Nat.reduceMul,aR,if_true,e',iC c']
   subst hb';have ea:cs++c::dW ⟨s.toArray⟩ b (p+(Utf8.decode ⟨s.toArray⟩ p).2)=(cs++[c])++dW ⟨s.toArray⟩ b (p+(Utf8.decode ⟨s.toArray⟩ p).2):=by rw[bbp];rfl
   rw[ea]at hQ
   refine ih (p+(Utf8.decode ⟨s.toArray⟩ p).2) _ h' w' (cs++[c]) (by omega) (by rw[ban];simp only[jaf];omega) ho' it' b4 hx' k' n' (fun id e=> ?_) ?_ ?_ ?_ ?_ hQ
   ·rcases ow' id e with e|e
    ·exact ow _ e
    ·exact baz hx e
   all_goals simp only[aa,reduceIte,Nat.reduceEqDiff,g33,g8,g9]
  ·have nx:=vV it hp
   rw[lv hp,bbj]at hQ
   simp only[re,zG,aw,reduceIte,Nat.reduceEqDiff,AV.xO.injEq,exists_and_left,g33,nx,kA]
   refine hQ _ h w ho a4 hx k na ?_ ?_ ?_
   ·simp only[aa,reduceIte,Nat.reduceEqDiff,g10]
   ·simp only[aa,reduceIte,Nat.reduceEqDiff,g8]
   ·simp only[aa,reduceIte,Nat.reduceEqDiff,g9]
end Go.Bf
namespace Go.Bf
open Go.AM
def ahz (b:UInt8):Int:=(b.toNat:Int)
def qo (n:Nat):List Int:=(Lib.decDigits n).map ahz
theorem yl {k:Nat} (h:k<256):ahz (UInt8.ofNat k)=(k:Int):=by
 show((UInt8.ofNat k).toNat:Int)=_
 rw[UInt8.toNat_ofNat_of_lt' (by simpa[UInt8.size]using h)]
theorem pK {u:Nat} (h:u<10):qo u=[(48+u:Int)]:=by
 rw[qo,Lib.decDigits,dif_pos h,bba,List.map_nil,yl (by omega)]
 simp
theorem BL {u:Nat} (h:¬u<10):qo u=qo (u/10)++[(48+(u % 10:Nat):Int)]:=by
 rw[qo,Lib.decDigits,dif_neg h,List.map_append,bba,List.map_nil,yl (by omega)]
 simp[qo]
theorem vW:∀(k u:Nat),u<10^(k+1)→(qo u).length≤k+1
 |0,u,h=>by rw[pK (by simpa using h)];simp
 |k+1,u,h=>by
  by_cases c:u<10
  ·rw[pK c];simp
  ·rw[BL c,ban]
   have:=vW k (u/10) (by rw[Nat.pow_succ]at h;omega)
   simp only[jaf];omega
def dT (n:Int):List Int:=if n<0 then 45::qo n.natAbs else qo n.natAbs
theorem qg (u:Nat):∀b,b∈Lib.decDigits u→b.toNat<128:=by
 induction u using Nat.strongRecOn with
 |_ u ih=>
  intro b hb;rw[Lib.decDigits]at hb
  split at hb
  ·rename_i h
   simp only[List.mem_singleton]at hb
   subst hb;rw[UInt8.toNat_ofNat_of_lt' (by simp[UInt8.size];omega)];omega
  ·rename_i h
   rw[List.mem_append,List.mem_singleton]at hb
   rcases hb with hb|hb
   ·exact ih (u/10) (by omega) b hb
   ·subst hb
    rw[UInt8.toNat_ofNat_of_lt' (by simp[UInt8.size];omega)];omega
theorem decode_ascii {s:List UInt8} {p:Nat} (hp:p<s.length) (ha:s[p].toNat<128):Utf8.decode ⟨s.toArray⟩ p=(s[p].toNat,1):=by
 have e:(⟨s.toArray⟩:ByteArray).get! (p+0)=s[p]:=by
  show s.toArray[p+0]! =_
  simp[hp]
 unfold Utf8.decode
 simp only[e]
 rw[if_pos (by omega)]
theorem ym {s:List UInt8} (ha:∀b,b∈s→b.toNat<128):∀b p,s.length-p≤b→dW ⟨s.toArray⟩ b p=(s.drop p).map ahz
 |0,p,h=>by rw[lv (by omega),bao (by omega)];rfl
 |b+1,p,h=>by
  by_cases hp:p<s.length
  ·rw[tX hp,decode_ascii hp (ha _ (bas hp))]
   rw[ym ha b (p+1) (by omega),bat hp]
   rfl
  ·rw[lv hp,bao (by omega)];rfl
theorem MA (n:Int):dW ⟨(Lib.itoa n).toArray⟩ (Lib.itoa n).length 0=dT n:=by
 have ha:∀b,b∈Lib.itoa n→b.toNat<128:=by
  intro b hb;rw[Lib.itoa]at hb
  split at hb
  ·rcases bbi.1 hb with rfl|hb
   ·decide
   ·exact qg _ b hb
  ·exact qg _ b hb
 rw[ym ha _ 0 (by omega),bah,Lib.itoa,dT]
 split
 ·rfl
 ·rename_i h
  rw[qo,show n.natAbs=n.toNat by omega]
theorem MB {n:Int} (h:Small n):(dT n).length≤20:=by
 have:=vW 17 n.natAbs (by have:=h.1;have:=h.2;omega)
 rw[dT];split<;>(try simp only[bav])<;>omega
theorem QS {h:Heap} {w:AV} {l:List Tm} (ho:an h) (k:Acc h 6 w (bq l)) (na:cr w=some l.length) (hn:l.length≤100000) (t:Tm):
  ∃w' h' c,b9 h 6 88 (.fs true 1 (tc t)) w=some ⟨w',h',c⟩∧Acc h' 6 w' (bq (t::l))∧cr w' =some (t::l).length∧an h' :=by
 obtain⟨c,hc⟩:=(QK k na).cells
 obtain⟨w',h',c',e,k',lb,ho',ow,n'⟩:=Acc.append (bt:=88) ho (by omega:0<6) (Acc.full (h:=h) (sz:=6) 1 (tc t) (aR t)) (m:=1) rfl na hc (bl l) (by omega) (by omega)
 refine⟨w',h',c',e,?_,by rw[bav,Nat.add_comm];exact n',ho'⟩
 have:bq (t::l)=tc t++bq l:=by rw[show t::l=[t]++l from rfl,fG,F5]
 rw[this];exact k'
theorem Wa (d:Int) (h:Heap):WC env 22 [.int .i64 (IntKind.wrap .i64 d)] h (fun o=>o=.ret ⟨.agg (tc (cT d)),h,.none⟩):=dK _ h
def Wb (u:Nat):List Int:=if u<10 then[]else qo (u/10)
theorem J_ {N:Nat} (hN:N<1000000000000000000) {S3' :AV} {Q:aU→St→Prop}:
  ∀(f u:Nat) (σ:ah) (h:Heap) (w:AV) (cs:List Int),u<f→an h→Acc h 6 w (bq (cs.map cT))→cr w=some cs.length→qo N=Wb u++cs→u<1000000000000000000→
  σ.get 0=.int .i64 u→σ.get 4=w→σ.get 3=S3' →
  (∀σ' h' w',an h' →Acc h' 6 w' (bq ((qo N).map cT))→cr w' =some (qo N).length→σ'.get 4=w' →σ'.get 3=S3' →Q (.exit 0) ⟨σ',h'⟩)→kz env vX ⟨σ,h⟩ Q:=by
 have hlen:=vW 17 N (by omega)
 intro f
 induction f with
 |zero=>intro u σ h w cs q1;omega
 |succ f ih=>
  intro u σ h w cs hf ho k na inv hu g0 g4 g3 hQ;have hcs:cs.length≤18:=by rw[inv,ban]at hlen;omega
  refine aC fun b hb=> ?_
  by_cases c1:u<10
  ·have z0:((u:Int)≥10)=False:=eq_false (by omega)
   simp only[vX,MC,aw,reduceIte,Nat.reduceEqDiff,g0,z0]
   rw[Wb,if_pos c1,bbe]at inv
   rw[inv]at hQ
   refine hQ _ h w ho k na ?_ ?_
   ·simp only[aa,reduceIte,Nat.reduceEqDiff,g4]
   ·simp only[aa,reduceIte,Nat.reduceEqDiff,g3]
  ·have z0:((u:Int)≥10)=True:=eq_true (by omega)
   have t10:((10:Int)=0)=False:=eq_false (by decide)
   have w1:IntKind.wrap .i64 ((u:Int).tdiv 10)=((u/10:Nat):Int):=by
    rw[Int.tdiv_eq_ediv_of_nonneg (by omega),cV (by omega)];omega
   have w2:((u/10:Nat):Int).tmod 10=((u/10 % 10:Nat):Int):=by
    rw[Int.tmod_eq_emod_of_nonneg (by omega)];omega
   obtain⟨w',h',c',e',k',n',ho'⟩:=QS ho k (by rw[bax];exact na) (by rw[bax];omega) (cT (48+((u/10 % 10:Nat):Int)))
   have y2:bY [.int .i64 0,.int .i64 0,.str [],.int .u32 0,.ax,.ax] [(0,6,.agg (tc (cT (48+((u/10 % 10:Nat):Int)))))]=some (tc (cT (48+((u/10 % 10:Nat):Int)))):=tR
   simp only[vX,MC,Wc,Wd,aw,reduceIte,Nat.reduceEqDiff,g0,g4,z0,t10,w1,w2,ai (Wa _ _),y2,Nat.reduceMul,aR,if_true,e',iC c']
   subst hb;rw[bav,bax]at n'
   refine ih (u/10) _ h' w' ((48+((u/10 % 10:Nat):Int))::cs) (by omega) ho' k' n' ?_ (by omega) ?_ ?_ ?_ hQ
   ·rw[inv,Wb,if_neg c1,Wb]
    by_cases c2:u/10<10
    ·rw[if_pos c2,pK c2,Nat.mod_eq_of_lt c2];rfl
    ·rw[if_neg c2,BL c2,bbp];rfl
   all_goals simp only[aa,reduceIte,Nat.reduceEqDiff,g3]
def We:AC:=(.seq (.ops MD) (.seq (.block 0 (.loop vX)) (.seq (.seq (.ops Gf) (.cond (.t 26) (.ops Gg) .skip)) (.seq (.ops zH) .ret))))
theorem yo {σ:ah} {h:Heap} {N:Nat} {below:Bool} (ho:an h) (hN:N<1000000000000000000) (g0:σ.get 0=.int .i64 N) (g3:σ.get 3=.bool below) {Q:aU→St→Prop}
  (hQ:∀σ' h' w,an h' →Acc h' 6 w (bq ((if below=true then 45::qo N else qo N).map cT))→cr w=some (if below=true then 45::qo N else qo N).length→σ'.get 2=w→Q .ret ⟨σ',h'⟩):jK env We ⟨σ,h⟩ Q:=by
 have hlen:=vW 17 N (by omega)
 have t10:((10:Int)=0)=False:=eq_false (by decide)
 have w2:(N:Int).tmod 10=((N % 10:Nat):Int):=by
  rw[Int.tmod_eq_emod_of_nonneg (by omega)];omega
 have y2:bY [.int .i64 0,.int .i64 0,.str [],.int .u32 0,.ax,.ax] [(0,6,.agg (tc (cT (48+((N % 10:Nat):Int)))))]=some (tc (cT (48+((N % 10:Nat):Int)))):=tR
 simp only[We,MD,aw,reduceIte,Nat.reduceEqDiff,g0,t10,w2,ai (Wa _ _),y2,Nat.reduceMul,aR,if_true]
 refine J_ hN (S3' :=.bool below) (N+1) N _ h (.fs true 1 (tc (cT (48+((N % 10:Nat):Int))))) [48+((N % 10:Nat):Int)] (by omega) ho ?_ rfl ?_ hN ?_ ?_ ?_ fun σ' h' w' ho' k' n' g4 g3' => ?_
 ·rw[bba,List.map_nil,F5]
  exact .full 1 _ (aR _)
 ·rw[Wb]
  by_cases c:N<10
  ·rw[if_pos c,pK c,Nat.mod_eq_of_lt c];rfl
  ·rw[if_neg c,BL c]
 ·simp only[aa,reduceIte,Nat.reduceEqDiff,g0]
 ·simp only[aa,reduceIte,Nat.reduceEqDiff]
 ·simp only[aa,reduceIte,Nat.reduceEqDiff,g3]
 ·cases below with
  |false=>
   simp only[Gf,zH,aw,reduceIte,Nat.reduceEqDiff,g3',g4]
   refine hQ _ h' w' ho' (by simpa only[bbm,if_false]using k') (by simpa only[bbm,if_false]using n') ?_
   simp only[aa,reduceIte,Nat.reduceEqDiff]
  |true=>
   obtain⟨w2',h2,c2,e2,k2,n2,ho2⟩:=QS ho' k' (by rw[bax];exact n') (by rw[bax];omega) (cT 45)
   have y3:bY [.int .i64 0,.int .i64 0,.str [],.int .u32 0,.ax,.ax] [(0,6,.agg (tc (cT 45)))]=some (tc (cT 45)):=tR
   have w45:∀h,WC env 22 [.int .i64 45] h (fun o=>o=.ret ⟨.agg (tc (cT 45)),h,.none⟩):=fun h=>Wa 45 h
   simp only[Gf,Gg,zH,aw,reduceIte,Nat.reduceEqDiff,g3',g4,ai (w45 _),y3,Nat.reduceMul,aR,if_true,e2,iC c2]
   rw[bav,bax]at n2
   refine hQ _ h2 w2' ho2 (by simpa only[if_true,bba]using k2) (by simpa only[if_true,bav]using n2) ?_
   simp only[aa,reduceIte,Nat.reduceEqDiff]
theorem Gh {n:Int} (hn:Small n):∃f,∀h,WC env 145 [.int .i64 n] h (fun o=>o=.ret ⟨aM f ((dT n).map cT).length (bq ((dT n).map cT)),h,.none⟩):=by
 have hr:AV.aj [.int .i64 n]=true:=rfl
 have hw:WC env 145 [.int .i64 n] .empty (fun o=>∃f,o=.ret ⟨aM f ((dT n).map cT).length (bq ((dT n).map cT)),.empty,.none⟩):=by
  refine ad rfl rfl rfl hr ?_
  have eb:a145.body=(.seq (.ops Gi) (.seq (.ops Gj) (.seq (.seq (.ops Gk) (.cond (.t 7) (.ops ME) .skip)) We))):=rfl
  rw[eb];have fin:∀{σ' :ah} {h' :Heap} {w:AV},Acc h' 6 w (bq ((dT n).map cT))→cr w=some (dT n).length→σ'.get 2=w→iB env a145.results .empty (fun o=>∃f,o=.ret ⟨aM f ((dT n).map cT).length (bq ((dT n).map cT)),.empty,.none⟩) .ret ⟨σ',h'⟩:=by
   intro σ' h' w k na g2;obtain⟨f,hf⟩:=sD k (eD _) na
   rw[jR];refine⟨[w],by simp only[a145,Env.results,baq,g2],aM f ((dT n).map cT).length (bq ((dT n).map cT)),?_,f,rfl⟩
   rw[bax];exact hf
  by_cases c:n<0
  ·have z0:(n<0)=True:=eq_true c
   have zn:IntKind.wrap .i64 (0-n)=((n.natAbs:Nat):Int):=by rw[cV (by have:=hn.1;omega)];omega
   simp only[Gi,Gj,Gk,ME,ah.bbw,aw,reduceIte,Nat.reduceEqDiff,z0,dm,zn]
   refine yo (N:=n.natAbs) (below:=true) an.empty (by have:=hn.1;have:=hn.2;omega) ?_ ?_ fun σ' h' w ho' k na g2=>fin ?_ ?_ g2
   ·simp only[aa,reduceIte,Nat.reduceEqDiff]
   ·simp only[aa,reduceIte,Nat.reduceEqDiff]
   ·rw[dT,if_pos c];exact k
   ·rw[dT,if_pos c];exact na
  ·have z0:(n<0)=False:=eq_false c
   have en:n=((n.natAbs:Nat):Int):=by omega
   simp only[Gi,Gj,Gk,ah.bbw,aw,reduceIte,Nat.reduceEqDiff,z0]
   refine yo (N:=n.natAbs) (below:=false) an.empty (by have:=hn.1;have:=hn.2;omega) ?_ ?_ fun σ' h' w ho' k na g2=>fin ?_ ?_ g2
   ·simp only[aa,reduceIte,Nat.reduceEqDiff];rw[←en]
   ·simp only[aa,reduceIte,Nat.reduceEqDiff]
   ·rw[dT,if_neg c];exact k
   ·rw[dT,if_neg c];exact na
 obtain⟨o,hn',f,e⟩:=hw
 subst e;exact⟨f,fun h=>iP rfl rfl rfl hr ⟨_,hn',rfl⟩⟩
end Go.Bf
namespace Go.Bf
open Go.AM
def QT:AC:=(.seq (.seq (.ops Gl) (.cond (.t 55) (.seq (.ops MF) .ret) .skip)) (.seq (.ops MG) (.seq (.seq (.ops Gm) (.block 0 (.loop jz))) (.seq (.seq (.ops zI) (.cond (.t 86) (.ops Gn) .skip)) Er))))
theorem pL {σ:ah} {h:Heap} {l:List Tm} {v:AV} {minus:Bool} {i2:Nat} (kv:Sl v l) (hn:l.length≤100000) (g2:σ.get 2=.ptr i2 0 0) (g4:σ.get 4=v) (g6:σ.get 6=.bool minus) (a2:h.at_ i2 0=some aK) (ho:an h) {Q:aU→St→Prop}
  (hQ:∀σ' h',h'.at_ i2 0=some (tc (tQ minus l).1)→σ'.get 2=.ptr i2 0 0→σ'.get 3=.int .i64 (tQ minus l).2→Q .ret ⟨σ',h'⟩):jK env QT ⟨σ,h⟩ Q:=by
 have nl:=kv.len;have se:bC h 6 (.ptr i2 0 0) (.agg aK)=some ⟨.undef,h.cD i2 0 aK,.write⟩:=by rw[cF,a2];rfl
 by_cases hl:l=[]
 ·have z0:(((l.length:Nat):Int)==0)=true:=by rw[hl];rfl
  rw[tQ,if_pos hl]at hQ
  simp only[QT,Gl,MF,aw,reduceIte,Nat.reduceEqDiff,g2,g4,nl,z0,t3,se]
  refine hQ _ _ bD ?_ ?_
  ·simp only[aa,reduceIte,Nat.reduceEqDiff,g2]
  ·simp only[aa,reduceIte,Nat.reduceEqDiff]
 ·have z0:(((l.length:Nat):Int)==0)=false:=by
   have:l.length≠0:=fun e=>hl (bay.1 e)
   rw[beq_eq_false_iff_ne];omega
  rw[tQ,if_neg hl]at hQ
  simp only[QT,Gl,MG,Gm,aw,reduceIte,Nat.reduceEqDiff,g4,nl,z0]
  refine Mi kv hn (i2:=i2) (mi:=.bool minus) (l.length+1) 0 _ h 0 0 false (by omega) (by omega) ho a2 ?_ ?_ ?_ ?_ ?_ ?_ ?_ (.inl ⟨by omega,rfl,rfl⟩) (fun hv σ' h' b2 q2 q3=> ?_) (fun σ' h' V' n' big' hv st ho' b2 q2 q6 q7 q8=> ?_)
  ·simp only[aa,reduceIte,Nat.reduceEqDiff,g2]
  ·simp only[aa,reduceIte,Nat.reduceEqDiff,g6]
  ·simp only[aa,reduceIte,Nat.reduceEqDiff]
  ·simp only[aa,reduceIte,Nat.reduceEqDiff]
  ·simp only[aa,reduceIte,Nat.reduceEqDiff];rfl
  ·simp only[aa,reduceIte,Nat.reduceEqDiff]
  ·simp only[aa,reduceIte,Nat.reduceEqDiff]
  ·rw[bah]at hv
   rw[hv]at hQ
   exact hQ σ' h' b2 q2 q3
  ·rw[bah]at hv
   rw[hv]at hQ
   have hr:=J4 st minus
   cases minus with
   |true=>
    have w0: -9223372036854775808≤0-n' ∧0-n' <9223372036854775808:=by
     rcases st with⟨p1,p2,p3⟩|⟨p1,p2,p3⟩<;>omega
    have zn:IntKind.wrap .i64 (0-n')= -n' :=by rw[cV w0];omega
    simp only[zI,Gn,aw,reduceIte,Nat.reduceEqDiff,q6,q7,dm,zn]
    refine Es (n:= -n') (big:=big') ?_ ?_ ?_ b2 (by simpa only[if_true]using hr) fun σ2 h2 c2 p2 p3=>hQ σ2 h2 c2 p2 p3
    ·simp only[aa,reduceIte,Nat.reduceEqDiff,q2]
    ·simp only[aa,reduceIte,Nat.reduceEqDiff]
    ·simp only[aa,reduceIte,Nat.reduceEqDiff,q8]
   |false=>
    simp only[zI,aw,reduceIte,q6]
    refine Es (n:=n') (big:=big') ?_ ?_ ?_ b2 (by simpa only[bbm,if_false]using hr) fun σ2 h2 c2 p2 p3=>hQ σ2 h2 c2 p2 p3
    ·simp only[aa,reduceIte,Nat.reduceEqDiff,q2]
    ·simp only[aa,reduceIte,Nat.reduceEqDiff,q7]
    ·simp only[aa,reduceIte,Nat.reduceEqDiff,q8]
def rf (t:Tm):Tm×Int:=match bW t with
 |some l=>nL l
 |none=>(bZ,261)
theorem MH (t:Tm) (w:Wf t) (h:Heap):WC env 134 [.agg (tc t)] h (fun o=>o=.ret ⟨.aF [.agg (tc (rf t).1),.int .i64 (rf t).2],h,.none⟩):=by
 obtain⟨v,kv,w1⟩:=cA t w
 refine ad rfl rfl rfl (by simp only[bdk,az]) ?_
 have eb:Wg.body=(.seq (.ops ri) (.seq (.ops rj) (.seq (.seq (.ops rk) (.cond (.t 22) (.seq (.ops Gp) .ret) .skip)) (.seq (.ops xr) (.seq (.seq (.ops xt) (.cond (.t 50) (.ops Gq) .skip)) QT))))):=rfl
 rw[eb];obtain⟨H,eH⟩:∃H,H=(Heap.empty.new (tc t)).new [.int .i64 0,.int .i64 0,.str [],.int .u32 0,.ax,.ax]:=⟨_,rfl⟩
 have ho:an H:=by rw[eH];exact(an.empty.new _).new _
 have b0:H.at_ 0 0=some (tc t):=by rw[eH];simp only[aW,reduceIte,Nat.reduceEqDiff]
 have b1:H.at_ 1 0=some aK:=by rw[eH];simp only[aW,reduceIte,Nat.reduceEqDiff];rfl
 have se:bC H 6 (.ptr 1 0 0) (.agg aK)=some ⟨.undef,H.cD 1 0 aK,.write⟩:=by rw[cF,b1];rfl
 have fin:∀{r:Tm} {cd:Int} {σ' :ah} {h' :Heap},h'.at_ 1 0=some (tc r)→σ'.get 2=.ptr 1 0 0→σ'.get 3=.int .i64 cd→iB env Wg.results h (fun o=>o=.ret ⟨.aF [.agg (tc r),.int .i64 cd],h,.none⟩) .ret ⟨σ',h'⟩:=by
  intro r cd σ' h' c1 q2 q3;rw[jR];exact⟨[.agg (tc r),.int .i64 cd],by simp only[Wg,Env.results,q2,q3,aQ,c1,bah,t3,jab],.aF [.agg (tc r),.int .i64 cd],(ay (v:=.aF [.agg (tc r),.int .i64 cd]) (by simp only[bdk,az])).2 rfl,rfl⟩
 cases e:bW t with
 |none=>
  rw[e]at w1 kv
  have e1:(Option.isSome (none:Option (List Tm)))=false:=rfl
  rw[e1]at w1
  rw[rf,e];simp only[ri,rj,rk,Gp,ah.bbw,aw,reduceIte,Nat.reduceEqDiff,dH,aR,cG,cY,←eH,aQ,b0,t3,ai (w1 _),kA,n7,dm,df,se,jad,jah]
  exact fin bD (by simp only[aa,reduceIte,Nat.reduceEqDiff]) (by simp only[aa,reduceIte,Nat.reduceEqDiff])
 |some l=>
  rw[e]at w1 kv
  have e1:(Option.isSome (some l:Option (List Tm)))=true:=rfl
  rw[e1]at w1
  have kv:Sl v l:=kv
  have hl:=(dY w e).1
  have nl:=kv.len;rw[rf,e];show jK env _ _ (iB env _ h (fun o=>o=.ret ⟨.aF [.agg (tc (nL l).1),.int .i64 (nL l).2],h,.none⟩))
  cases l with
  |nil=>
   have z0:((([]:List Tm).length:Int)==0)=true:=rfl
   simp only[ri,rj,rk,Gp,ah.bbw,aw,reduceIte,Nat.reduceEqDiff,dH,aR,cG,cY,←eH,aQ,b0,t3,ai (w1 _),kA,n7,dm,nl,z0,dj,se,jad,jag]
   exact fin (r:=bZ) (cd:=261) bD (by simp only[aa,reduceIte,Nat.reduceEqDiff]) (by simp only[aa,reduceIte,Nat.reduceEqDiff])
  |cons x r=>
   have z0:(((x::r:List Tm).length:Int)==0)=false:=by rw[beq_eq_false_iff_ne,bav];omega
   have x0:=bE kv
   obtain⟨v',sv,kt⟩:=kv.tail
   have hr:r.length≤100000:=by rw[bav]at hl;omega
   have l0:bp false 1 (tc x++bq r)=some (.int .i64 x.kind):=by cases x;rfl
   have l1:bp false 1 ((tc x++bq r).drop 1)=some (.int .i64 x.int):=by cases x;rfl
   by_cases k1:x.kind=1
   ·have z1:(x.kind==1)=true:=by simpa using k1
    by_cases k2:x.int=45
    ·have z2:(x.int==45)=true:=by simpa using k2
     rw[nL,if_pos ⟨k1,k2⟩];simp only[ri,rj,rk,xr,xt,Gq,ah.bbw,aw,reduceIte,Nat.reduceEqDiff,dH,aR,cG,cY,←eH,aQ,bP,fw,b0,t3,ai (w1 _),kA,n7,dm,nl,z0,aE,df,dj,x0,l0,l1,z1,z2,sv,jad,jag]
     refine pL kt hr ?_ ?_ ?_ b1 ho fun σ' h' c1 q2 q3=>fin c1 q2 q3
     all_goals simp only[aa,reduceIte,Nat.reduceEqDiff]
    ·have z2:(x.int==45)=false:=by simpa using k2
     by_cases k3:x.int=43
     ·have z3:(x.int==43)=true:=by simpa using k3
      rw[nL,if_neg (fun e=>k2 e.2),if_pos ⟨k1,k3⟩]
      simp only[ri,rj,rk,xr,xt,Gq,ah.bbw,aw,reduceIte,Nat.reduceEqDiff,dH,aR,cG,cY,←eH,aQ,bP,fw,b0,t3,ai (w1 _),kA,n7,dm,nl,z0,df,dj,x0,l0,l1,z1,z2,z3,sv,jad,jag]
      refine pL kt hr ?_ ?_ ?_ b1 ho fun σ' h' c1 q2 q3=>fin c1 q2 q3
      all_goals simp only[aa,reduceIte,Nat.reduceEqDiff]
     ·have z3:(x.int==43)=false:=by simpa using k3
      rw[nL,if_neg (fun e=>k2 e.2),if_neg (fun e=>k3 e.2)]
      simp only[ri,rj,rk,xr,xt,ah.bbw,aw,reduceIte,Nat.reduceEqDiff,dH,aR,cG,cY,←eH,aQ,bP,fw,b0,t3,ai (w1 _),kA,n7,dm,nl,z0,df,dj,x0,l0,l1,z1,z2,z3,jad,jag]
      refine pL kv (by omega) ?_ ?_ ?_ b1 ho fun σ' h' c1 q2 q3=>fin c1 q2 q3
      all_goals simp only[aa,reduceIte,Nat.reduceEqDiff]
   ·have z1:(x.kind==1)=false:=by simpa using k1
    rw[nL,if_neg (fun e=>k1 e.1),if_neg (fun e=>k1 e.1)]
    simp only[ri,rj,rk,xr,xt,ah.bbw,aw,reduceIte,Nat.reduceEqDiff,dH,aR,cG,cY,←eH,aQ,bP,fw,b0,t3,ai (w1 _),kA,n7,dm,nl,z0,dj,x0,l0,z1,jad,jag]
    refine pL kv (by omega) ?_ ?_ ?_ b1 ho fun σ' h' c1 q2 q3=>fin c1 q2 q3
    all_goals simp only[aa,reduceIte,Nat.reduceEqDiff]
end Go.Bf
namespace Go.Bf
open Go.AM
theorem Ka (t:Tm) (k7:t.kind≠7) (h:Heap):WC env 111 [.agg (tc t)] h (fun o=>o=.ret ⟨.aF [.agg (tc bZ),.agg (tc bZ),.bool false],h,.none⟩):=by
 have z7:(t.kind !=7)=true:=by simpa using k7
 refine ad rfl rfl rfl (by simp only[bdk,az]) ?_
 simp only[Wh,Gr,Gs,Gt,Gu,Gv,MI,MJ,ah.bbw,aw,reduceIte,Nat.reduceEqDiff,aW,Nat.reduceAdd,t3,z7,bc]
theorem MK {v:AV} {t:Tm} (kv:Sl v [t]) (k7:t.kind≠7) (h:Heap):WC env 68 [.str [104,100],v] h (fun o=>o=.ret ⟨.aF [.agg (tc bZ),.int .i64 261],h,.none⟩):=by
 have x0:=bE kv
 have ws:=Ka t k7
 refine ad rfl rfl rfl (by simp only[bdk,kv.ae]) ?_
 simp only[xk,yM,ah.bbw,aw,reduceIte,Nat.reduceEqDiff,aD,bQ,UInt8.reduceToNat,x0,bJ,ai (ws _),bc,aW,Nat.reduceAdd,t3]
theorem ML {v:AV} {t:Tm} (kv:Sl v [t]) (k7:t.kind≠7) (h:Heap):WC env 68 [.str [116,108],v] h (fun o=>o=.ret ⟨.aF [.agg (tc bZ),.int .i64 261],h,.none⟩):=by
 have x0:=bE kv
 have ws:=Ka t k7
 refine ad rfl rfl rfl (by simp only[bdk,kv.ae]) ?_
 simp only[xk,yM,ah.bbw,aw,reduceIte,Nat.reduceEqDiff,aD,bQ,UInt8.reduceToNat,x0,bJ,ai (ws _),bc,aW,Nat.reduceAdd,t3]
end Go.Bf
namespace Go.Bf
open Go.AM
theorem Ev (t:Tm) (okt:t.Ok) (w:Wf t) (k7:t.kind=7) (h2:t.args.length=2):∃c:Tm,c.Ok∧er c=er t∧∃(h0:0<c.args.length) (h1:1<c.args.length),∀h,WC env 111 [.agg (tc t)] h (fun o=>o=.ret ⟨.aF [.agg (tc c.args[0]),.agg (tc c.args[1]),.bool true],h,.none⟩):=by
 obtain⟨c,okc,ec,wc⟩:=xu t okt w
 have lc:c.args.length=2:=by rw[←eE,←iS,ec,iS,eE];exact h2
 refine⟨c,okc,ec,by omega,by omega,fun h=> ?_⟩
 have z7:(t.kind !=7)=false:=by simpa using k7
 have nt:=(cW t).len
 have z2:((t.args.length:Int)<2)=False:=eq_false (by omega)
 have nc:∀h,aN false h (j2 c)=some ⟨.int .i64 2,h,.none⟩:=by have:=(cW c).len;rw[lc]at this;exact this
 have u2:((2:Int)==2)=true:=rfl
 have lx0:aZ 6 (j2 c) (.int .i64 0)=some (.fp ((bq c.args).drop (0*6))):=(cW c).idx (i:=0) (by omega)
 have lx1:aZ 6 (j2 c) (.int .i64 1)=some (.fp ((bq c.args).drop (1*6))):=(cW c).idx (i:=1) (by omega)
 have ld0:=qX (l:=c.args) (i:=0) (by omega)
 have ld1:=qX (l:=c.args) (i:=1) (by omega)
 generalize e0:(bq c.args).drop (0*6)=c0 at*
 generalize e1:(bq c.args).drop (1*6)=c1 at*
 refine ad rfl rfl rfl (by simp only[bdk,az]) ?_
 simp only[Wh,Gr,Gs,Gt,Gu,Gv,ah.bbw,aw,reduceIte,Nat.reduceEqDiff,aW,Nat.reduceAdd,t3,z7,nt,z2,ai (wc _),nc,u2]
 apply AP
 ·simp only[MI,aw,reduceIte,Nat.reduceEqDiff,uZ,u4,EZ,o8,pb,aW,Nat.reduceAdd,t3,lx0,lx1,ld0,ld1]
  refine⟨kW [1,5] rfl ⟨?_,?_,trivial⟩,rfl⟩
  ·refine ji (.ptr 3 0 5) (j2 c) ?_ ?_
   ·simp only[xQ,aa,reduceIte,Nat.reduceEqDiff]
   ·simp only[jS,lu,bba,List.map_nil,aW,Nat.reduceAdd,t3,reduceIte,Nat.reduceEqDiff,jab]
  ·refine ji (.ptr 3 0 5) (j2 c) ?_ ?_
   ·simp only[xQ,aa,reduceIte,Nat.reduceEqDiff]
   ·simp only[jS,lu,bba,List.map_nil,aW,Nat.reduceAdd,t3,reduceIte,Nat.reduceEqDiff,jab]
 simp only[aw,reduceIte,Nat.reduceEqDiff,aW,Nat.reduceAdd,t3]
theorem BM (t:Tm) (okt:t.Ok) (w:Wf t) (k7:t.kind=7) (h2:2<t.args.length):∃c:Tm,c.Ok∧er c=er t∧∃(f:Option Bool) (h0:0<c.args.length),∀h,WC env 111 [.agg (tc t)] h (fun o=>o=.ret ⟨.aF [.agg (tc c.args[0]),.agg (tc (.mk 7 0 [] 0 none [] f (c.args.drop 1))),.bool true],h,.none⟩):=by
 obtain⟨c,okc,ec,wc⟩:=xu t okt w
 have lc:c.args.length=t.args.length:=by rw[←eE,←iS,ec,iS,eE]
 have hc:∃a l,c.args=a::l:=by
  cases e:c.args with
  |nil=>rw[e]at lc;simp at lc;omega
  |cons a l=>exact⟨a,l,rfl⟩
 obtain⟨a,l,ea⟩:=hc
 have ks:=cW c
 rw[ea]at ks
 obtain⟨v',sv,kt⟩:=ks.tail
 obtain⟨f,ef⟩:=kt.eq
 have fl:bY [.int .i64 0,.int .i64 0,.str [],.int .u32 0,.ax,.ax] [(0,1,.int .i64 7),(5,1,v')]=some (tc (.mk 7 0 [] 0 none [] f (c.args.drop 1))):=by
  rw[ea,ef];cases f with
  |none=>cases l<;>rfl
  |some b=>rfl
 refine⟨c,okc,ec,f,by omega,fun h=> ?_⟩
 have z7:(t.kind !=7)=false:=by simpa using k7
 have nt:=(cW t).len
 have z2:((t.args.length:Int)<2)=False:=eq_false (by omega)
 have nc:=(cW c).len
 have u2:(((c.args.length:Nat):Int)==2)=false:=by rw[beq_eq_false_iff_ne];omega
 have lx0:aZ 6 (j2 c) (.int .i64 0)=some (.fp ((bq c.args).drop (0*6))):=(cW c).idx (i:=0) (by omega)
 have ld0:=qX (l:=c.args) (i:=0) (by omega)
 generalize e0:(bq c.args).drop (0*6)=c0 at*
 refine ad rfl rfl rfl (by simp only[bdk,az]) ?_
 simp only[Wh,Gr,Gs,Gt,Gu,Gv,ah.bbw,aw,reduceIte,Nat.reduceEqDiff,aW,Nat.reduceAdd,t3,z7,nt,z2,ai (wc _),nc,u2]
 apply AP
 ·simp only[MJ,aw,reduceIte,Nat.reduceEqDiff,uZ,u4,EZ,o8,pb,aW,Nat.reduceAdd,t3,lx0,ld0,sv,fl]
  refine⟨kW [1,5] rfl ⟨?_,?_,trivial⟩,rfl⟩
  ·refine ji (.ptr 3 0 5) (j2 c) ?_ ?_
   ·simp only[xQ,aa,reduceIte,Nat.reduceEqDiff]
   ·simp only[jS,lu,bba,List.map_nil,aW,Nat.reduceAdd,t3,reduceIte,Nat.reduceEqDiff,jab]
  ·refine ji (.ptr 3 0 5) (j2 c) ?_ ?_
   ·simp only[xQ,aa,reduceIte,Nat.reduceEqDiff]
   ·simp only[jS,lu,bba,List.map_nil,aW,Nat.reduceAdd,t3,reduceIte,Nat.reduceEqDiff,jab]
 simp only[aw,reduceIte,Nat.reduceEqDiff,aW,Nat.reduceAdd,t3]
end Go.Bf
namespace Go.Bf
open Go.AM
theorem QU {v:AV} {t p q:Tm} (kv:Sl v [t]) (ws:∀h,WC env 111 [.agg (tc t)] h (fun o=>o=.ret ⟨.aF [.agg (tc p),.agg (tc q),.bool true],h,.none⟩)) (h:Heap):WC env 68 [.str [104,100],v] h (fun o=>o=.ret ⟨.aF [.agg (tc p),.int .i64 0],h,.none⟩):=by
 have x0:=bE kv
 refine ad rfl rfl rfl (by simp only[bdk,kv.ae]) ?_
 simp only[xk,yM,ah.bbw,aw,reduceIte,Nat.reduceEqDiff,aD,bQ,UInt8.reduceToNat,x0,bJ,ai (ws _),aW,Nat.reduceAdd,t3]
theorem QV {v:AV} {t p q:Tm} (kv:Sl v [t]) (ws:∀h,WC env 111 [.agg (tc t)] h (fun o=>o=.ret ⟨.aF [.agg (tc p),.agg (tc q),.bool true],h,.none⟩)) (h:Heap):WC env 68 [.str [116,108],v] h (fun o=>o=.ret ⟨.aF [.agg (tc q),.int .i64 0],h,.none⟩):=by
 have x0:=bE kv
 refine ad rfl rfl rfl (by simp only[bdk,kv.ae]) ?_
 simp only[xk,yM,ah.bbw,aw,reduceIte,Nat.reduceEqDiff,aD,bQ,UInt8.reduceToNat,x0,bJ,ai (ws _),aW,Nat.reduceAdd,t3]
end Go.Bf
