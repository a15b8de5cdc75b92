/- For BifCalls. -/
import Derived.Test.YtaielgjmhbjfhaaGreatDoorCards
import Derived.Test.YtaielgjmhbjfhaaGreatDoorTie
import Derived.Test.YtaielgjmhbjfhaaGreatDoorBfTie
import Derived.Test.YtaielgjmhbjfhaaGreatDoorAmRead2
import Derived.ProofKit
import Derived.OpenShut
import Derived.LaidMore
import Derived.PinnedBridge
import Derived.Lib.LaidU8T
import Derived.Deep.DeepWitnessRowRef
set_option linter.unusedVariables false
namespace Go.Proofs.YtaielgjmhbjfhaaGreatDoor.kit
open Go.ChangeShapes Go.WideShapes Go.ChangeAt Go.RowKit
theorem own:ownKnob Tryz.prog.godebug=none:=by kernel_rfl
theorem laidOut:laidOutB Tryz.prog=true:=by kernel_rfl
theorem mixed:Tryz.prog.follows .mixedOrders=true:=by kernel_rfl
theorem et:Tryz.prog.globalNamed "errors.errorType" =some 0:=by kernel_rfl
theorem rt:(Tryz.prog.cutTypes.find? (·.1== "internal/reflectlite.rtype")).map (·.2)=some 132:=by kernel_rfl
theorem size:Tryz.prog.types.size=261:=by kernel_rfl
theorem ajV:((List.range 261).filter fun t=>Tryz.prog.rowNamed t [101,114,114,111,114])=[42]:=by kernel_rfl
def data:List (String×DataW Unit):=[("math/bits.deBruijn32tab",Rows.laid_math_bits_deBruijn32tab),("math/bits.deBruijn64tab",Rows.laid_math_bits_deBruijn64tab),("internal/strconv.uint64pow10",Rows.laid_internal_strconv_uint64pow10),("unicode/utf8.acceptRanges",Rows.laid_unicode_utf8_acceptRanges),("unicode.White_Space",Rows.laid_unicode_White_Space),("strings.asciiSpace",Rows.laid_strings_asciiSpace),("unicode/utf8.first",Rows.laid_unicode_utf8_first)]
def laid:List (String×DataW Unit):=[("math/bits.deBruijn32tab",Rows.laid_math_bits_deBruijn32tab),("math/bits.deBruijn64tab",Rows.laid_math_bits_deBruijn64tab),("internal/strconv.uint64pow10",Rows.laid_internal_strconv_uint64pow10),("unicode/utf8.acceptRanges",Rows.laid_unicode_utf8_acceptRanges),("errors.errorType",Rows.laid_errors_errorType),("unicode.White_Space",Rows.laid_unicode_White_Space),("strings.asciiSpace",Rows.laid_strings_asciiSpace),("unicode/utf8.first",Rows.laid_unicode_utf8_first)]
theorem iR {W:World} (h:laidMetH Tryz.prog laid W):laidMet Tryz.prog data W∧handlesMet Tryz.prog [("errors.errorType",Rows.laid_errors_errorType)] W:=by
 have e:laidMetH Tryz.prog laid W=(laidMet Tryz.prog data W∧handlesMet Tryz.prog [("errors.errorType",Rows.laid_errors_errorType)] W):=by kernel_rfl
 rw[e]at h
 exact h
theorem CP {W:World} (h:laidMetH Tryz.prog laid W):W.cell? ⟨0,0,none⟩=some (.iface 132 (.agg #[.pointer (some ⟨10,42,none⟩)])):=by
 obtain⟨name,u,ty,e1,e2,e3,e4,e5⟩:=(iR h).2 _ (List.mem_singleton.2 rfl)
 have en:name=[101,114,114,111,114]:=(Option.some.inj e1).symm
 subst en;obtain rfl:=Option.some.inj (rt.symm.trans e2)
 have hm:ty∈(List.range 261).filter fun t=>Tryz.prog.rowNamed t [101,114,114,111,114]:=List.mem_filter.2 ⟨List.mem_range.2 (by rw[←size];exact e3),e4⟩
 rw[ajV]at hm
 obtain rfl:=List.mem_singleton.1 hm
 have hh:typeHandle Tryz.prog 42=.pointer (some ⟨10,42,none⟩):=by kernel_rfl
 rw[hh]at e5
 simpa using World.var?_cell et e5 0
def space:List Int:=[0,0,0,0,0,0,0,0,0,1,1,1,1,1,0,0,0,0,0,0,0,0,0,0,0,0,0,0,0,0,0,0,1,0,0,0,0,0,0,0,0,0,0,0,0,0,0,0,0,0,0,0,0,0,0,0,0,0,0,0,0,0,0,0,0,0,0,0,0,0,0,0,0,0,0,0,0,0,0,0,0,0,0,0,0,0,0,0,0,0,0,0,0,0,0,0,0,0,0,0,0,0,0,0,0,0,0,0,0,0,0,0,0,0,0,0,0,0,0,0,0,0,0,0,0,0,0,0,0,0,0,0,0,0,0,0,0,0,0,0,0,0,0,0,0,0,0,0,0,0,0,0,0,0,0,0,0,0,0,0,0,0,0,0,0,0,0,0,0,0,0,0,0,0,0,0,0,0,0,0,0,0,0,0,0,0,0,0,0,0,0,0,0,0,0,0,0,0,0,0,0,0,0,0,0,0,0,0,0,0,0,0,0,0,0,0,0,0,0,0,0,0,0,0,0,0,0,0,0,0,0,0,0,0,0,0,0,0,0,0,0,0,0,0,0,0,0,0,0,0,0,0,0,0,0,0]
theorem aaW:Go.Bf.uK=space.map fun z=>Go.AM.AV.int .u8 z:=by kernel_rfl
theorem De {W:World} (h:laidMetH Tryz.prog laid W):∀(i:Nat) v,(space.map fun z=>Value.int .u8 z)[i]? =some v→W.cell? ⟨1,i,none⟩=some v:=by
 obtain⟨g,t,cs,fuel,p,hg,hty,hvar,hd⟩:=Lib.laidMet.reads (iR h).1 (n:= "strings.asciiSpace") (d:=Rows.laid_strings_asciiSpace) (.tail _ (.tail _ (.tail _ (.tail _ (.tail _ (.head _))))))
 obtain rfl:=Option.some.inj ((show Tryz.prog.globalNamed "strings.asciiSpace" =some 1 by kernel_rfl).symm.trans hg)
 obtain rfl:=Option.some.inj ((show(Tryz.prog.globals[1]?).map (·.type)=some 113 by kernel_rfl).symm.trans hty)
 have e:(Rows.laid_strings_asciiSpace:DataW Unit)=Lib.tabData .u8 space:=by kernel_rfl
 rw[e]at hd
 have hcs:=Lib.cells_of_tab Tryz.underlying113 Tryz.underlying5 (by kernel_rfl) (by kernel_rfl) hd
 intro i v hi;rw[World.var?_cell hg hvar i,←Array.getElem?_toList,hcs];exact hi
theorem adK:U8Extra Tryz.prog Tryz.yG:=⟨by kernel_rfl,by kernel_rfl,by kernel_rfl,by kernel_rfl,by kernel_rfl,by kernel_rfl,by kernel_rfl⟩
theorem Iq {W:World} (h:laidMetH Tryz.prog laid W):Lib.Utf8Tabs 4 5 W:=by
 have h3:=Lib.laidMet.reads (iR h).1 (n:= "unicode/utf8.first") (d:=Rows.laid_unicode_utf8_first) (.tail _ (.tail _ (.tail _ (.tail _ (.tail _ (.tail _ (.head _)))))))
 have h4:=Lib.laidMet.reads (iR h).1 (n:= "unicode/utf8.acceptRanges") (d:=Rows.laid_unicode_utf8_acceptRanges) (.tail _ (.tail _ (.tail _ (.head _))))
 have e3:Rows.laid_unicode_utf8_first=Lib.firstData:=Pinned.utf8First_eq
 have e4:(Rows.laid_unicode_utf8_acceptRanges:DataW Unit)=Lib.acceptData:=by kernel_rfl
 rw[e3]at h3
 rw[e4]at h4
 exact utf8Tabs_of_readsT (U8Types.of260 Tryz.adL) adK h3 h4
theorem K_ {W:World} (h:laidMetH Tryz.prog laid W):∃t fz,W.heap[3]? =some (.cells (Lib.pow10Tab.map fun z=>Value.int .u64 z).toArray t fz):=by
 obtain⟨g,t,cs,fuel,p,hg,hty,hvar,hd⟩:=Lib.laidMet.reads (iR h).1 (n:= "internal/strconv.uint64pow10") (d:=Rows.laid_internal_strconv_uint64pow10) (.tail _ (.tail _ (.head _)))
 obtain rfl:=Option.some.inj ((show Tryz.prog.globalNamed "internal/strconv.uint64pow10" =some 3 by kernel_rfl).symm.trans hg)
 have htt:=(show(Tryz.prog.globals[3]?).map (·.type)=some 221 by kernel_rfl).symm.trans hty
 obtain rfl:=Option.some.inj htt
 have e:(Rows.laid_internal_strconv_uint64pow10:DataW Unit)=Lib.tabData .u64 Lib.pow10Tab:=by kernel_rfl
 rw[e]at hd
 have hcs:=Lib.cells_of_tab (show Tryz.prog.underlying 221=some (.array 20 212)from Tryz.underlying221) Tryz.underlying212 (by kernel_rfl) (by kernel_rfl) hd
 rw[World.var?,hg,Option.bind_some]at hvar
 split at hvar
 ·rename_i cs' t' fz' hc
  cases hvar;refine⟨t',fz',?_⟩
  rw[hc,←hcs]
 ·cases hvar
theorem started {W:World} (h:laidMetH Tryz.prog laid W):Go.Bf.start W.heap.size W:=by
 have hT:=Iq h
 exact⟨block_lt_of_cell (hT.2 0 (by omega)).1,CP h,hT,K_ h⟩
theorem TB:∀g cs,Go.Bf.env.jn g=some cs→Go.AM.AV.aj cs=true:=by
 intro g cs h;have h' :Go.Bf.jn g=some cs:=h
 unfold Go.Bf.jn at h'
 split at h'
 ·cases h'
  exact(show Go.AM.AV.aj Go.Bf.uK=true by kernel_rfl)
 ·cases h'
theorem La {X:Go.AM.RX}:∀zs:List Int,Go.AM.a_ X (zs.map fun z=>Go.AM.AV.int .u8 z) (zs.map fun z=>Value.int .u8 z)
 |[]=>.nil
 |z::zs=>.cons _ _ _ _ (.int _ _) (La zs)
theorem WD {W:World} (h:laidMetH Tryz.prog laid W):∀g cs,Go.Bf.env.jn g=some cs→Go.AM.bo (Go.AM.RX.start W) (.fp cs) (.pointer (some ⟨g,0,none⟩)):=by
 intro g cs e;have e' :Go.Bf.jn g=some cs:=e
 unfold Go.Bf.jn at e'
 split at e'
 ·cases e'
  have hc:=De h
  have h0:W.cell? ⟨1,0,none⟩=some (.int .u8 0):=hc 0 _ rfl
  rw[aaW];refine .fp _ 1 0 _ (Go.AM.kG (block_lt_of_cell h0)) (fun i v hi=> ?_) (fun v hv=> ?_) (La space)
  ·rw[Nat.zero_add];exact hc i v hi
  ·obtain⟨z,_,rfl⟩:=List.mem_map.1 hv;rfl
 ·cases e'
def ints (k:IntKind) (zs:List Int):Array Value:=(zs.map fun z=>Value.int k z).toArray
def put (g:Nat) (cs:Array Value) (h:Array Obj):Array Obj:=h.modify g fun
 |.cells _ t frozen=>.cells cs t frozen
 |o=>o
def aoa:List Int:=[9,13,1,32,133,101,160,5760,5600,8192,8202,1,8232,8233,1,8239,8287,48,12288,12288,1]
noncomputable def xw (os:Os):World:=
 let w0:=World.holding Tryz.prog os ⟨#[.cells (ints .u16 aoa) 189,.cells #[.slice (some ⟨(World.settled Tryz.prog os).heap.size,0,none⟩) 7 7,.slice none 0 0,.int .i64 2] 186],#[],[]⟩
 {w0 with heap:=(put 0 #[.iface 132 (.agg #[.pointer (some ⟨10,42,none⟩)])]
   (put 1 (ints .u8 space)
   (put 2 #[.pointer (some ⟨(World.settled Tryz.prog os).heap.size+1,0,none⟩)]
   (put 3 (ints .u64 [1,10,100,1000,10000,100000,1000000,10000000,100000000,1000000000,10000000000,100000000000,1000000000000,10000000000000,100000000000000,1000000000000000,10000000000000000,100000000000000000,1000000000000000000,10000000000000000000])
   (put 4 (ints .u8 Lib.firstTab)
   (put 5 (ints .u8 [128,191,160,191,128,159,144,191,128,143,0,0,0,0,0,0,0,0,0,0,0,0,0,0,0,0,0,0,0,0,0,0])
   (put 7 (ints .u8 [0,1,28,2,29,14,24,3,30,22,20,15,25,17,4,8,31,27,13,23,21,19,16,7,26,12,18,6,11,5,10,9])
   (put 8 (ints .u8 [0,1,56,2,57,49,28,3,61,58,42,50,38,29,17,4,62,47,59,36,45,43,51,22,53,39,33,30,24,18,12,5,63,55,48,27,60,41,37,16,46,35,44,21,52,32,23,11,54,26,40,15,34,20,31,10,25,14,19,9,13,8,7,6]) w0.heap))))))))}
theorem zf {P:Program} {w:World} {l:List (String×DataW Unit)} (fuel M:Nat) (h:(DataW.laidRun P w fuel (l.map (·.1))).map (·.1)=some l)
  (hr:(DataW.laidRun P w fuel (l.map (·.1))).map (fun x=>nodupBits M x.2 0&&laidRowsB P w x.2)=some true):laidMet P l w:=by
 cases hx:DataW.laidRun P w fuel (l.map (·.1))with
 |none=>simp[hx]at h
 |some x=>
  obtain⟨l',ps⟩:=x
  simp only[hx,Option.map_some,Option.some.injEq]at h hr
  subst h;simp only[Bool.and_eq_true]at hr
  exact laidMet_of_run fuel hx (decide_eq_true (nodupBits_sound hr.1).1) hr.2
theorem WE (os:Os) (args:Array Value):laidMetH Tryz.prog laid ((xw os).forCall (fun _ _=>0) ⟨#[],args,[]⟩).memory:=
 laidMetH_of_parts (zf 8 257 (by kernel_rfl) (by kernel_rfl)) (by kernel_rfl)
end Go.Proofs.YtaielgjmhbjfhaaGreatDoor.kit
