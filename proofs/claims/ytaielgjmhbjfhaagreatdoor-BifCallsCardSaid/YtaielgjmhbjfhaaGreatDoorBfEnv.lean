/- For BifCalls. -/
import Derived.Test.YtaielgjmhbjfhaaGreatDoorAmTr
import Derived.Test.YtaielgjmhbjfhaaGreatDoorChecked
import Derived.Test.YtaielgjmhbjfhaaGreatDoorBfCode1
import Derived.Test.YtaielgjmhbjfhaaGreatDoorBfCode2
import Derived.Shelf.Unicode.DecodeSlow
import Derived.Lib.ItoaNum
set_option linter.unusedVariables false
namespace Go.Bf
open Go.AM
def fz:TypeId→Bool:=fun t=>t==73
def aA:Nat→Bool:=fun _=>false
open Go.Proofs in
noncomputable def func:Nat→Option aS
 |9=>some a9
 |11=>aJ Tryz.prog fz aA Tryz.f11
 |12=>aJ Tryz.prog fz aA Tryz.f12
 |13=>some a13
 |14=>some a14
 |15=>aJ Tryz.prog fz aA Tryz.f15
 |16=>some a16
 |17=>aJ Tryz.prog fz aA Tryz.f17
 |18=>some a18
 |19=>some a19
 |20=>some a20
 |22=>aJ Tryz.prog fz aA Tryz.f22
 |25=>some Vj
 |26=>some a26
 |27=>some a27
 |28=>some a28
 |29=>aJ Tryz.prog fz aA Tryz.f29
 |30=>aJ Tryz.prog fz aA Tryz.f30
 |31=>aJ Tryz.prog fz aA Tryz.f31
 |32=>some a32
 |33=>some a33
 |34=>aJ Tryz.prog fz aA Tryz.f34
 |35=>aJ Tryz.prog fz aA Tryz.f35
 |36=>some a36
 |38=>some mf
 |39=>some a39
 |40=>some a40
 |41=>some a41
 |42=>aJ Tryz.prog fz aA Tryz.f42
 |43=>aJ Tryz.prog fz aA Tryz.f43
 |44=>some my
 |45=>some a45
 |47=>aJ Tryz.prog fz aA Tryz.f47
 |48=>aJ Tryz.prog fz aA Tryz.f48
 |49=>some a49
 |50=>some a50
 |51=>some a51
 |52=>some a52
 |53=>some a53
 |54=>some a54
 |59=>aJ Tryz.prog fz aA Tryz.f59
 |60=>some sq
 |61=>some Qv
 |62=>aJ Tryz.prog fz aA Tryz.f62
 |63=>aJ Tryz.prog fz aA Tryz.f63
 |64=>some a64
 |65=>some a65
 |66=>aJ Tryz.prog fz aA Tryz.f66
 |67=>some a67
 |68=>some xk
 |69=>some a69
 |70=>some a70
 |71=>some a71
 |72=>some a72
 |73=>aJ Tryz.prog fz aA Tryz.f73
 |74=>some Tj
 |75=>some a75
 |76=>some a76
 |77=>aJ Tryz.prog fz aA Tryz.f77
 |78=>some wS
 |83=>some ux
 |84=>aJ Tryz.prog fz aA Tryz.f84
 |85=>some a85
 |86=>some a86
 |87=>some a87
 |88=>some a88
 |89=>some a89
 |90=>some a90
 |91=>some a91
 |92=>some a92
 |93=>some a93
 |94=>some a94
 |95=>some a95
 |96=>some a96
 |97=>some a97
 |100=>some GS
 |101=>some Td
 |102=>some TM
 |103=>some yU
 |104=>some KN
 |105=>some a105
 |106=>some aiM
 |107=>some a107
 |108=>aJ Tryz.prog fz aA Tryz.f108
 |109=>aJ Tryz.prog fz aA Tryz.f109
 |110=>some O7
 |111=>some Wh
 |112=>some Ke
 |113=>some acV
 |114=>some Km
 |115=>some LS
 |116=>some a116
 |117=>some a117
 |119=>some a119
 |120=>some ac1
 |121=>some ai3
 |122=>some ai4
 |123=>some ahL
 |124=>some a124
 |125=>some ahN
 |126=>some ahM
 |127=>some a127
 |128=>some ac2
 |129=>aJ Tryz.prog fz aA Tryz.f129
 |130=>some a130
 |131=>some a131
 |132=>some abX
 |134=>some Wg
 |135=>some V9
 |136=>some C8
 |139=>some a139
 |140=>some TN
 |141=>some a141
 |142=>aJ Tryz.prog fz aA Tryz.f142
 |143=>some a143
 |145=>some a145
 |146=>some a146
 |147=>some Wi
 |148=>aJ Tryz.prog fz aA Tryz.f148
 |150=>some Z3
 |151=>some ajl
 |152=>some a152
 |153=>some CH
 |159=>some a159
 |160=>some a160
 |161=>some ac5
 |162=>some a162
 |_=>none
def uK:List AV:=[.int .u8 0,.int .u8 0,.int .u8 0,.int .u8 0,.int .u8 0,.int .u8 0,.int .u8 0,.int .u8 0,.int .u8 0,.int .u8 1,.int .u8 1,.int .u8 1,.int .u8 1,.int .u8 1,.int .u8 0,.int .u8 0,.int .u8 0,.int .u8 0,.int .u8 0,.int .u8 0,.int .u8 0,.int .u8 0,.int .u8 0,.int .u8 0,.int .u8 0,.int .u8 0,.int .u8 0,.int .u8 0,.int .u8 0,.int .u8 0,.int .u8 0,.int .u8 0,.int .u8 1,.int .u8 0,.int .u8 0,.int .u8 0,.int .u8 0,.int .u8 0,.int .u8 0,.int .u8 0,.int .u8 0,.int .u8 0,.int .u8 0,.int .u8 0,.int .u8 0,.int .u8 0,.int .u8 0,.int .u8 0,.int .u8 0,.int .u8 0,.int .u8 0,.int .u8 0,.int .u8 0,.int .u8 0,.int .u8 0,.int .u8 0,.int .u8 0,.int .u8 0,.int .u8 0,.int .u8 0,.int .u8 0,.int .u8 0,.int .u8 0,.int .u8 0,.int .u8 0,.int .u8 0,.int .u8 0,.int .u8 0,.int .u8 0,.int .u8 0,.int .u8 0,.int .u8 0,.int .u8 0,.int .u8 0,.int .u8 0,.int .u8 0,.int .u8 0,.int .u8 0,.int .u8 0,.int .u8 0,.int .u8 0,.int .u8 0,.int .u8 0,.int .u8 0,.int .u8 0,.int .u8 0,.int .u8 0,.int .u8 0,.int .u8 0,.int .u8 0,.int .u8 0,.int .u8 0,.int .u8 0,.int .u8 0,.int .u8 0,.int .u8 0,.int .u8 0,.int .u8 0,.int .u8 0,.int .u8 0,.int .u8 0,.int .u8 0,.int .u8 0,.int .u8 0,.int .u8 0,.int .u8 0,.int .u8 0,.int .u8 0,.int .u8 0,.int .u8 0,.int .u8 0,.int .u8 0,.int .u8 0,.int .u8 0,.int .u8 0,.int .u8 0,.int .u8 0,.int .u8 0,.int .u8 0,.int .u8 0,.int .u8 0,.int .u8 0,.int .u8 0,.int .u8 0,.int .u8 0,.int .u8 0,.int .u8 0,.int .u8 0,.int .u8 0,.int .u8 0,.int .u8 0,.int .u8 0,.int .u8 0,.int .u8 0,.int .u8 0,.int .u8 0,.int .u8 0,.int .u8 0,.int .u8 0,.int .u8 0,.int .u8 0,.int .u8 0,.int .u8 0,.int .u8 0,.int .u8 0,.int .u8 0,.int .u8 0,.int .u8 0,.int .u8 0,.int .u8 0,.int .u8 0,.int .u8 0,.int .u8 0,.int .u8 0,.int .u8 0,.int .u8 0,.int .u8 0,.int .u8 0,.int .u8 0,.int .u8 0,.int .u8 0,.int .u8 0,.int .u8 0,.int .u8 0,.int .u8 0,.int .u8 0,.int .u8 0,.int .u8 0,.int .u8 0,.int .u8 0,.int .u8 0,.int .u8 0,.int .u8 0,.int .u8 0,.int .u8 0,.int .u8 0,.int .u8 0,.int .u8 0,.int .u8 0,.int .u8 0,.int .u8 0,.int .u8 0,.int .u8 0,.int .u8 0,.int .u8 0,.int .u8 0,.int .u8 0,.int .u8 0,.int .u8 0,.int .u8 0,.int .u8 0,.int .u8 0,.int .u8 0,.int .u8 0,.int .u8 0,.int .u8 0,.int .u8 0,.int .u8 0,.int .u8 0,.int .u8 0,.int .u8 0,.int .u8 0,.int .u8 0,.int .u8 0,.int .u8 0,.int .u8 0,.int .u8 0,.int .u8 0,.int .u8 0,.int .u8 0,.int .u8 0,.int .u8 0,.int .u8 0,.int .u8 0,.int .u8 0,.int .u8 0,.int .u8 0,.int .u8 0,.int .u8 0,.int .u8 0,.int .u8 0,.int .u8 0,.int .u8 0,.int .u8 0,.int .u8 0,.int .u8 0,.int .u8 0,.int .u8 0,.int .u8 0,.int .u8 0,.int .u8 0,.int .u8 0,.int .u8 0,.int .u8 0,.int .u8 0,.int .u8 0,.int .u8 0,.int .u8 0,.int .u8 0,.int .u8 0,.int .u8 0,.int .u8 0,.int .u8 0,.int .u8 0,.int .u8 0,.int .u8 0,.int .u8 0,.int .u8 0,.int .u8 0,.int .u8 0,.int .u8 0,.int .u8 0,.int .u8 0,.int .u8 0,.int .u8 0,.int .u8 0]
def jn:Nat→Option (List AV)
 |1=>some uK
 |_=>none
def asP:List AV→Heap→Option (AV×Heap)
 |[.fN 69 (.fp cs),.fN 71 (.ptr id gen off)],h=>(h.at_ id gen).bind fun os=>if off<os.length then some (.bool true,h.cD id gen (bU os off [.fp cs]))else none
 |[.bL,.fN 71 (.ptr id gen off)],h=>some (.bool false,h)
 |_,_=>none
def isP:List AV→Heap→Option (AV×Heap)
 |[.fN 69 (.fp [_,_,.int .i64 c,.bL]),.fN 67 (.int .i64 c')],h=>some (.bool (c==c'),h)
 |[.fN 69 (.fp [_,_,_,.fN 69 (.fp [_,_,.int .i64 c,.bL])]),.fN 67 (.int .i64 c')],h=>some (.bool (c==c'),h)
 |[.fN 69 (.fp [_,_,_,.fN 69 (.fp [_,_,_,.fN 69 (.fp [_,_,.int .i64 c,.bL])])]),.fN 67 (.int .i64 c')],h=>some (.bool (c==c'),h)
 |[.bL,.fN 67 (.int .i64 c')],h=>some (.bool false,h)
 |_,_=>none
def cj (s:List UInt8):Nat→Nat→Int
 |0,_=> -1
 |f+1,i=>if i<s.length then(if(Utf8.decode ⟨s.toArray⟩ i).1=65533∧(Utf8.decode ⟨s.toArray⟩ i).2<2 then(i:Int)else cj s f (i+(Utf8.decode ⟨s.toArray⟩ i).2))else-1
def KO:List AV→Heap→Option (AV×Heap)
 |[.str s],h=>some (.int .i64 (cj s (s.length+1) 0),h)
 |_,_=>none
def aap:List AV→Heap→Option (AV×Heap)
 |[.str s,.str [c]],h=>some (.int .i64 (Lib.indexByte s c),h)
 |_,_=>none
def GG:List AV→Heap→Option (AV×Heap)
 |[.int .i64 n,.int .i64 10],h=>if-9223372036854775808≤n∧n≤9223372036854775807 then some (.str (Lib.itoa n),h)else none
 |_,_=>none
def aaq:Nat→Option (List AV→Heap→Option (AV×Heap))
 |37=>some asP
 |46=>some isP
 |133=>some GG
 |149=>some KO
 |169=>some aap
 |_=>none
def start (B:Nat) (w:World):Prop:=5<B∧w.cell? ⟨0,0,none⟩=some (.iface 132 (.agg #[.pointer (some ⟨10,42,none⟩)]))∧Lib.Utf8Tabs 4 5 w∧∃t fz,w.heap[3]? =some (.cells (Lib.pow10Tab.map fun z=>Value.int .u64 z).toArray t fz)
def anV:List Nat:=[93,95,128,11,12,13,14,15,16,17,18,19,20,21,22,23,24,25,26,27,28,30,31,33,34,35,36,38,39,40,41,42,43,44,45,47,48,49,50,51,52,53,54,59,60,61,62,63,64,65,66,67,68,70,71,72,73,74,75,76,77,78,83,84,85,86,87,88,89,90,91,92,94,96,100,101,102,103,108,109,110,111,113,114,115,116,117,119,120,121,122,123,124,125,126,127,129,130,139,140,141,142,148,150,151,152,153,159,160,162,112,132,134,135,136,145,146,147]
noncomputable def env:Env:={func:=func,jn:=jn,kO:=fun n=>anV.elem n,nU:=aaq,ok:=start}
theorem j3:type_of% (And.intro (@O_.eq_1) (And.intro (@Pa.eq_1) (And.intro (@Pb.eq_1) (And.intro (@Pc.eq_1) (And.intro (@Pd.eq_1) (And.intro (@Pe.eq_1) (And.intro (@Pf.eq_1) (And.intro (@Pg.eq_1) (And.intro (@Ph.eq_1) (And.intro (@Pj.eq_1) (And.intro (@Hw.eq_1) (And.intro (@Hx.eq_1) (And.intro (@Hy.eq_1) (And.intro (@Hz.eq_1) (And.intro (@HA.eq_1) (And.intro (@HB.eq_1) (And.intro (@HC.eq_1) (And.intro (@HD.eq_1) (And.intro (@HE.eq_1) (And.intro (@HF.eq_1) (And.intro (@HG.eq_1) (And.intro (@HH.eq_1) (And.intro (@HI.eq_1) (And.intro (@HJ.eq_1) (And.intro (@HK.eq_1) (And.intro (@HL.eq_1) (And.intro (@HM.eq_1) (And.intro (@HN.eq_1) (And.intro (@HO.eq_1) (And.intro (@HP.eq_1) (And.intro (@HQ.eq_1) (And.intro (@HR.eq_1) (And.intro (@HS.eq_1) (And.intro (@HT.eq_1) (And.intro (@HU.eq_1) (And.intro (@HV.eq_1) (And.intro (@zM.eq_1) (@zN.eq_1)))))))))))))))))))))))))))))))))))))):=(And.intro (@O_.eq_1) (And.intro (@Pa.eq_1) (And.intro (@Pb.eq_1) (And.intro (@Pc.eq_1) (And.intro (@Pd.eq_1) (And.intro (@Pe.eq_1) (And.intro (@Pf.eq_1) (And.intro (@Pg.eq_1) (And.intro (@Ph.eq_1) (And.intro (@Pj.eq_1) (And.intro (@Hw.eq_1) (And.intro (@Hx.eq_1) (And.intro (@Hy.eq_1) (And.intro (@Hz.eq_1) (And.intro (@HA.eq_1) (And.intro (@HB.eq_1) (And.intro (@HC.eq_1) (And.intro (@HD.eq_1) (And.intro (@HE.eq_1) (And.intro (@HF.eq_1) (And.intro (@HG.eq_1) (And.intro (@HH.eq_1) (And.intro (@HI.eq_1) (And.intro (@HJ.eq_1) (And.intro (@HK.eq_1) (And.intro (@HL.eq_1) (And.intro (@HM.eq_1) (And.intro (@HN.eq_1) (And.intro (@HO.eq_1) (And.intro (@HP.eq_1) (And.intro (@HQ.eq_1) (And.intro (@HR.eq_1) (And.intro (@HS.eq_1) (And.intro (@HT.eq_1) (And.intro (@HU.eq_1) (And.intro (@HV.eq_1) (And.intro (@zM.eq_1) (@zN.eq_1))))))))))))))))))))))))))))))))))))))
theorem mD:type_of% (And.intro (@X9.eq_1) (And.intro (@X_.eq_1) (And.intro (@Ya.eq_1) (And.intro (@Yb.eq_1) (And.intro (@Yc.eq_1) (And.intro (@Yd.eq_1) (And.intro (@Ye.eq_1) (And.intro (@Yf.eq_1) (And.intro (@J3.eq_1) (And.intro (@tj.eq_1) (And.intro (@Nu.eq_1) (And.intro (@Nv.eq_1) (And.intro (@Nw.eq_1) (And.intro (@xA.eq_1) (And.intro (@Nx.eq_1) (And.intro (@FE.eq_1) (And.intro (@Ny.eq_1) (And.intro (@Nz.eq_1) (And.intro (@NA.eq_1) (And.intro (@NB.eq_1) (And.intro (@NC.eq_1) (And.intro (@ND.eq_1) (And.intro (@NF.eq_1) (And.intro (@NG.eq_1) (And.intro (@l9.eq_1) (And.intro (@NH.eq_1) (And.intro (@NI.eq_1) (And.intro (@uB.eq_1) (And.intro (@uC.eq_1) (And.intro (@Ca.eq_1) (And.intro (@Cb.eq_1) (And.intro (@NJ.eq_1) (And.intro (@NK.eq_1) (And.intro (@Cc.eq_1) (And.intro (@NL.eq_1) (And.intro (@NM.eq_1) (@NN.eq_1))))))))))))))))))))))))))))))))))))):=(And.intro (@X9.eq_1) (And.intro (@X_.eq_1) (And.intro (@Ya.eq_1) (And.intro (@Yb.eq_1) (And.intro (@Yc.eq_1) (And.intro (@Yd.eq_1) (And.intro (@Ye.eq_1) (And.intro (@Yf.eq_1) (And.intro (@J3.eq_1) (And.intro (@tj.eq_1) (And.intro (@Nu.eq_1) (And.intro (@Nv.eq_1) (And.intro (@Nw.eq_1) (And.intro (@xA.eq_1) (And.intro (@Nx.eq_1) (And.intro (@FE.eq_1) (And.intro (@Ny.eq_1) (And.intro (@Nz.eq_1) (And.intro (@NA.eq_1) (And.intro (@NB.eq_1) (And.intro (@NC.eq_1) (And.intro (@ND.eq_1) (And.intro (@NF.eq_1) (And.intro (@NG.eq_1) (And.intro (@l9.eq_1) (And.intro (@NH.eq_1) (And.intro (@NI.eq_1) (And.intro (@uB.eq_1) (And.intro (@uC.eq_1) (And.intro (@Ca.eq_1) (And.intro (@Cb.eq_1) (And.intro (@NJ.eq_1) (And.intro (@NK.eq_1) (And.intro (@Cc.eq_1) (And.intro (@NL.eq_1) (And.intro (@NM.eq_1) (@NN.eq_1)))))))))))))))))))))))))))))))))))))
theorem nR:type_of% (And.intro (@Yr.eq_1) (And.intro (@Ys.eq_1) (And.intro (@Yt.eq_1) (And.intro (@Yu.eq_1) (And.intro (@Yv.eq_1) (And.intro (@Yw.eq_1) (And.intro (@Yx.eq_1) (And.intro (@Yy.eq_1) (And.intro (@Yz.eq_1) (And.intro (@YA.eq_1) (And.intro (@NQ.eq_1) (And.intro (@NR.eq_1) (And.intro (@NS.eq_1) (And.intro (@NT.eq_1) (And.intro (@NU.eq_1) (And.intro (@Bi.eq_1) (And.intro (@NV.eq_1) (And.intro (@NW.eq_1) (And.intro (@Bj.eq_1) (And.intro (@NX.eq_1) (And.intro (@NY.eq_1) (And.intro (@Bk.eq_1) (And.intro (@NZ.eq_1) (And.intro (@Fq.eq_1) (And.intro (@N0.eq_1) (And.intro (@Fs.eq_1) (And.intro (@N1.eq_1) (And.intro (@Ft.eq_1) (And.intro (@N2.eq_1) (And.intro (@Fu.eq_1) (And.intro (@N3.eq_1) (And.intro (@Bl.eq_1) (And.intro (@Fv.eq_1) (And.intro (@Fw.eq_1) (And.intro (@N4.eq_1) (And.intro (@Bm.eq_1) (And.intro (@Fx.eq_1) (And.intro (@Fy.eq_1) (@N5.eq_1))))))))))))))))))))))))))))))))))))))):=(And.intro (@Yr.eq_1) (And.intro (@Ys.eq_1) (And.intro (@Yt.eq_1) (And.intro (@Yu.eq_1) (And.intro (@Yv.eq_1) (And.intro (@Yw.eq_1) (And.intro (@Yx.eq_1) (And.intro (@Yy.eq_1) (And.intro (@Yz.eq_1) (And.intro (@YA.eq_1) (And.intro (@NQ.eq_1) (And.intro (@NR.eq_1) (And.intro (@NS.eq_1) (And.intro (@NT.eq_1) (And.intro (@NU.eq_1) (And.intro (@Bi.eq_1) (And.intro (@NV.eq_1) (And.intro (@NW.eq_1) (And.intro (@Bj.eq_1) (And.intro (@NX.eq_1) (And.intro (@NY.eq_1) (And.intro (@Bk.eq_1) (And.intro (@NZ.eq_1) (And.intro (@Fq.eq_1) (And.intro (@N0.eq_1) (And.intro (@Fs.eq_1) (And.intro (@N1.eq_1) (And.intro (@Ft.eq_1) (And.intro (@N2.eq_1) (And.intro (@Fu.eq_1) (And.intro (@N3.eq_1) (And.intro (@Bl.eq_1) (And.intro (@Fv.eq_1) (And.intro (@Fw.eq_1) (And.intro (@N4.eq_1) (And.intro (@Bm.eq_1) (And.intro (@Fx.eq_1) (And.intro (@Fy.eq_1) (@N5.eq_1)))))))))))))))))))))))))))))))))))))))
theorem yM:type_of% (And.intro (@YN.eq_1) (And.intro (@YO.eq_1) (And.intro (@YP.eq_1) (And.intro (@YQ.eq_1) (And.intro (@YR.eq_1) (And.intro (@YS.eq_1) (And.intro (@YT.eq_1) (And.intro (@KK.eq_1) (And.intro (@KL.eq_1) (And.intro (@RU.eq_1) (And.intro (@Ob.eq_1) (And.intro (@Ck.eq_1) (And.intro (@Cl.eq_1) (And.intro (@Ho.eq_1) (And.intro (@Hp.eq_1) (And.intro (@Hq.eq_1) (And.intro (@Oc.eq_1) (And.intro (@Od.eq_1) (And.intro (@Oe.eq_1) (And.intro (@Of.eq_1) (And.intro (@Og.eq_1) (And.intro (@Oh.eq_1) (And.intro (@Oi.eq_1) (And.intro (@Oj.eq_1) (And.intro (@Ol.eq_1) (And.intro (@Om.eq_1) (And.intro (@On.eq_1) (And.intro (@Oo.eq_1) (And.intro (@Oq.eq_1) (And.intro (@Ot.eq_1) (And.intro (@Ou.eq_1) (And.intro (@Hr.eq_1) (And.intro (@Ov.eq_1) (And.intro (@Ow.eq_1) (And.intro (@Ox.eq_1) (And.intro (@Oy.eq_1) (And.intro (@Oz.eq_1) (And.intro (@OA.eq_1) (And.intro (@OB.eq_1) (And.intro (@OC.eq_1) (And.intro (@OD.eq_1) (@Cm.eq_1)))))))))))))))))))))))))))))))))))))))))):=(And.intro (@YN.eq_1) (And.intro (@YO.eq_1) (And.intro (@YP.eq_1) (And.intro (@YQ.eq_1) (And.intro (@YR.eq_1) (And.intro (@YS.eq_1) (And.intro (@YT.eq_1) (And.intro (@KK.eq_1) (And.intro (@KL.eq_1) (And.intro (@RU.eq_1) (And.intro (@Ob.eq_1) (And.intro (@Ck.eq_1) (And.intro (@Cl.eq_1) (And.intro (@Ho.eq_1) (And.intro (@Hp.eq_1) (And.intro (@Hq.eq_1) (And.intro (@Oc.eq_1) (And.intro (@Od.eq_1) (And.intro (@Oe.eq_1) (And.intro (@Of.eq_1) (And.intro (@Og.eq_1) (And.intro (@Oh.eq_1) (And.intro (@Oi.eq_1) (And.intro (@Oj.eq_1) (And.intro (@Ol.eq_1) (And.intro (@Om.eq_1) (And.intro (@On.eq_1) (And.intro (@Oo.eq_1) (And.intro (@Oq.eq_1) (And.intro (@Ot.eq_1) (And.intro (@Ou.eq_1) (And.intro (@Hr.eq_1) (And.intro (@Ov.eq_1) (And.intro (@Ow.eq_1) (And.intro (@Ox.eq_1) (And.intro (@Oy.eq_1) (And.intro (@Oz.eq_1) (And.intro (@OA.eq_1) (And.intro (@OB.eq_1) (And.intro (@OC.eq_1) (And.intro (@OD.eq_1) (@Cm.eq_1))))))))))))))))))))))))))))))))))))))))))
theorem yi:type_of% (And.intro (@Y4.eq_1) (And.intro (@Y5.eq_1) (And.intro (@Y6.eq_1) (And.intro (@Y7.eq_1) (And.intro (@Y8.eq_1) (And.intro (@Y9.eq_1) (And.intro (@Y_.eq_1) (And.intro (@Za.eq_1) (And.intro (@Zb.eq_1) (And.intro (@Zc.eq_1) (And.intro (@OF.eq_1) (And.intro (@OG.eq_1) (And.intro (@OH.eq_1) (And.intro (@OI.eq_1) (And.intro (@OJ.eq_1) (And.intro (@OK.eq_1) (And.intro (@OL.eq_1) (And.intro (@OM.eq_1) (And.intro (@ON.eq_1) (And.intro (@OO.eq_1) (And.intro (@OP.eq_1) (And.intro (@OQ.eq_1) (And.intro (@OR.eq_1) (And.intro (@OS.eq_1) (And.intro (@OT.eq_1) (And.intro (@OU.eq_1) (And.intro (@OV.eq_1) (And.intro (@OW.eq_1) (@OX.eq_1))))))))))))))))))))))))))))):=(And.intro (@Y4.eq_1) (And.intro (@Y5.eq_1) (And.intro (@Y6.eq_1) (And.intro (@Y7.eq_1) (And.intro (@Y8.eq_1) (And.intro (@Y9.eq_1) (And.intro (@Y_.eq_1) (And.intro (@Za.eq_1) (And.intro (@Zb.eq_1) (And.intro (@Zc.eq_1) (And.intro (@OF.eq_1) (And.intro (@OG.eq_1) (And.intro (@OH.eq_1) (And.intro (@OI.eq_1) (And.intro (@OJ.eq_1) (And.intro (@OK.eq_1) (And.intro (@OL.eq_1) (And.intro (@OM.eq_1) (And.intro (@ON.eq_1) (And.intro (@OO.eq_1) (And.intro (@OP.eq_1) (And.intro (@OQ.eq_1) (And.intro (@OR.eq_1) (And.intro (@OS.eq_1) (And.intro (@OT.eq_1) (And.intro (@OU.eq_1) (And.intro (@OV.eq_1) (And.intro (@OW.eq_1) (@OX.eq_1)))))))))))))))))))))))))))))
end Go.Bf
