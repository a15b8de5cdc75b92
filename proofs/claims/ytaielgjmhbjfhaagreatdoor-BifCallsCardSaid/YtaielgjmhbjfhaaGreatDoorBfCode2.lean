/- For BifCalls. -/
import Derived.Test.YtaielgjmhbjfhaaGreatDoorAmCore
set_option linter.unusedVariables false
namespace Go.Bf
open Go.AM
def vB:ak:=[
 qac 3 6 1,
 cE 4 false]
def vC:ak:=[
 mV 7 0]
def vD:ak:=[
 bF 9 7 [105,115,95,97,116,111,109],
 mV 8 9]
def vF:ak:=[
 aV 10 0 3,
 aP 11 1 10,
 cq 12 11 2,
 mV 4 12]
def vG:ak:=[
 bF 14 7 [105,115,95,98,111,111,108,101,97,110],
 mV 13 14]
def vH:ak:=[
 bm 16 6 3,
 bT 17 101 16,
 mV 15 17,
 bS 18 15 0,
 bS 19 15 1,
 mV 5 18,
 mV 6 19]
def vI:ak:=[
 mV 20 6,
 mV 4 20]
def vJ:ak:=[
 bF 22 7 [105,115,95,105,110,116,101,103,101,114],
 mV 21 22]
def vK:ak:=[
 aV 23 0 3,
 aP 24 1 23,
 cq 25 24 1,
 mV 4 25]
def vL:ak:=[
 bF 27 7 [105,115,95,108,105,115,116],
 mV 26 27]
def pA:ak:=[
 aV 28 0 3,
 aP 29 1 28,
 cq 30 29 7,
 mV 31 30,
 cM 32 0 3 31 false,
 cy 33 1 32 31 false,
 gR 34 33 6 31 false,
 db 35 31 34,
 mV 4 35]
def pB:ak:=[
 bF 37 7 [105,115,95,112,105,100],
 mV 36 37]
def pC:ak:=[
 aV 38 0 3,
 aP 39 1 38,
 cq 40 39 4,
 mV 4 40]
def pD:ak:=[
 bF 42 7 [105,115,95,114,101,102,101,114,101,110,99,101],
 mV 41 42]
def pE:ak:=[
 aV 43 0 3,
 aP 44 1 43,
 cq 45 44 3,
 mV 4 45]
def pF:ak:=[
 aV 46 0 3,
 aP 47 1 46,
 cq 48 47 5,
 mV 4 48]
def a67:aS:=⟨[.tmp 4],(bbu vB (.seq (bbu vC (.block 0 (bbu vD (bbv 8 (bbu vF .ret) (bbu vG (bbv 13 (bbu vH (bbu vI .ret)) (bbu vJ (bbv 21 (bbu vK .ret) (bbu vL (bbv 26 (bbu pA .ret) (bbu pB (bbv 36 (bbu pC .ret) (bbu pD (bbv 41 (bbu pE .ret) .skip)))))))))))))) (bbu pF .ret)))⟩
def YN:ak:=[
 qaf 4,
 aI 5 0]
def YO:ak:=[
 mV 17 1,
 dh 18 6 17 0,
 bm 19 6 18,
 qaf 6,
 aO 6 6 19]
def YP:ak:=[
 mV 20 0]
def YQ:ak:=[
 bF 27 20 [97,98,115],
 mV 26 27]
def YR:ak:=[
 aV 28 0 6,
 aP 29 1 28,
 cq 30 29 1]
def YS:ak:=[
 aV 31 1 6,
 aP 32 1 31,
 aV 33 1 6,
 aP 34 1 33,
 oP 35 (.un .neg (.t 34)),
 oP 36 (.iF true (.t 32) (.t 35)),
 bT 37 59 36,
 aO 6 4 37,
 aI 5 0]
def YT:ak:=[
 bF 39 20 [101,108,101,109,101,110,116],
 mV 38 39]
def KK:ak:=[
 bm 40 6 6,
 mV 41 1,
 dh 42 6 41 1,
 bm 43 6 42,
 cQ 44 110 40 43,
 mV 7 44]
def aiF:List Nat:=[0,0,2,6,15,31]
def KL:ak:=[
 mV 45 7,
 oP 46 (.bin .geq (.t 45) (.c (.int .i64 0)))]
def RU:ak:=[
 mV 47 1,
 dh 48 6 47 1,
 aV 49 5 48,
 aP 50 1 49,
 mV 51 7,
 dV 52 6 50 51,
 bm 53 6 52,
 aO 6 4 53,
 aI 5 0]
def Ob:ak:=[
 bF 55 20 [115,101,116,101,108,101,109,101,110,116],
 mV 54 55]
def Ck:ak:=[
 bm 56 6 6,
 mV 57 1,
 dh 58 6 57 1,
 bm 59 6 58,
 cQ 60 110 56 59,
 mV 8 60]
def acK:List Nat:=[0,0,2,6,15,31]
def Cl:ak:=[
 mV 61 8,
 oP 62 (.bin .geq (.t 61) (.c (.int .i64 0)))]
def Ho:ak:=[
 mV 63 1,
 dh 64 6 63 1,
 aV 65 5 64,
 aP 66 1 65,
 bT 67 104 66,
 oP 68 (.build bA [(0,1,(.c (.int .i64 5))),(5,1,(.t 67))]),
 qaf 9,
 aO 6 9 68]
def Hp:ak:=[
 aV 69 5 9,
 aP 70 1 69,
 mV 71 8,
 mV 72 1,
 dh 73 6 72 2,
 bm 74 6 73,
 dV 75 6 70 71,
 aO 6 75 74]
def acL:List Nat:=[0,1,0,0,8,24,63,127]
def Hq:ak:=[
 bm 76 6 9,
 aO 6 4 76,
 aI 5 0]
def Oc:ak:=[
 bF 78 20 [104,100],
 mV 77 78]
def Od:ak:=[
 bF 79 20 [116,108],
 mV 77 79]
def Oe:ak:=[
 bm 81 6 6,
 bT 82 111 81,
 mV 80 82,
 bS 83 80 0,
 bS 84 80 1,
 bS 85 80 2,
 qaf 10,
 qaf 11,
 aO 6 10 83,
 aO 6 11 84,
 mV 12 85]
def Of:ak:=[
 mV 86 12]
def Og:ak:=[
 mV 87 0,
 bF 88 87 [104,100]]
def Oh:ak:=[
 bm 89 6 10,
 aO 6 4 89,
 aI 5 0]
def Oi:ak:=[
 bm 90 6 11,
 aO 6 4 90,
 aI 5 0]
def Oj:ak:=[
 bF 92 20 [110,111,100,101],
 mV 91 92]
def Ol:ak:=[
 aV 93 0 6,
 aP 94 1 93,
 cq 95 94 4,
 mV 96 95,
 cM 97 0 6 96 false,
 cy 98 1 97 96 false,
 gR 99 98 3 96 false,
 db 100 96 99]
def Om:ak:=[
 aV 101 2 6,
 aP 102 1 101,
 bT 103 34 102,
 aO 6 4 103,
 aI 5 0]
def On:ak:=[
 bF 105 20 [116,117,112,108,101,95,115,105,122,101],
 mV 104 105]
def Oo:ak:=[
 aV 106 0 6,
 aP 107 1 106,
 cq 108 107 5]
def Oq:ak:=[
 aV 109 5 6,
 aP 110 1 109,
 cK 111 110,
 bT 112 59 111,
 aO 6 4 112,
 aI 5 0]
def Ot:ak:=[
 bF 114 20 [116,117,112,108,101,95,116,111,95,108,105,115,116],
 mV 113 114]
def Ou:ak:=[
 aV 115 0 6,
 aP 116 1 115,
 cq 117 116 5]
def Hr:ak:=[
 aV 118 5 6,
 aP 119 1 118,
 oP 120 (.call 108 []),
 cQ 121 103 119 120,
 aO 6 4 121,
 aI 5 0]
def acM:List Nat:=[0,1,0,7,15,31]
def Ov:ak:=[
 bF 123 20 [108,101,110,103,116,104],
 mV 122 123]
def Ow:ak:=[
 bm 125 6 6,
 bT 126 102 125,
 mV 124 126,
 bS 127 124 0,
 bS 128 124 1,
 mV 13 127,
 mV 14 128]
def Ox:ak:=[
 mV 129 14]
def Oy:ak:=[
 mV 130 13,
 cK 131 130,
 bT 132 59 131,
 aO 6 4 132,
 aI 5 0]
def Oz:ak:=[
 bF 134 20 [108,105,115,116,95,116,111,95,116,117,112,108,101],
 mV 133 134]
def OA:ak:=[
 bm 136 6 6,
 bT 137 102 136,
 mV 135 137,
 bS 138 135 0,
 bS 139 135 1,
 mV 15 138,
 mV 16 139]
def OB:ak:=[
 mV 140 16]
def OC:ak:=[
 mV 141 15,
 oP 142 (.build bA [(0,1,(.c (.int .i64 5))),(5,1,(.t 141))]),
 aO 6 4 142,
 aI 5 0]
def OD:ak:=[
 mV 21 0,
 bm 22 6 6,
 cQ 23 112 21 22,
 bS 24 23 0,
 bS 25 23 1,
 aO 6 4 24,
 mV 5 25]
def Cm:ak:=[
 qae 143,
 aO 6 4 143,
 aI 5 261]
def xk:aS:=⟨[.cell 4 true 6,.tmp 5],(bbu YN (bbu YO (.seq (bbu YP (.block 0 (bbu YQ (bbv 26 (bbu YR (bbv 30 (bbu YS .ret) .skip)) (bbu YT (bbv 38 (.seq (.draw KK aiF) (bbu KL (bbv 46 (bbu RU .ret) .skip))) (bbu Ob (bbv 54 (.seq (.draw Ck acK) (bbu Cl (bbv 62 (bbu Ho (.seq (.draw Hp acL) (bbu Hq .ret))) .skip))) (.seq (bbu Oc (bbv 77 .skip (.ops Od))) (bbv 77 (bbu Oe (bbu Of (bbv 86 (.seq (bbu Og (bbv 88 (bbu Oh .ret) .skip)) (bbu Oi .ret)) .skip))) (bbu Oj (bbv 91 (bbu Ol (bbv 100 (bbu Om .ret) .skip)) (bbu On (bbv 104 (bbu Oo (bbv 108 (bbu Oq .ret) .skip)) (bbu Ot (bbv 113 (bbu Ou (bbv 117 (.seq (.draw Hr acM) .ret) .skip)) (bbu Ov (bbv 122 (bbu Ow (bbu Ox (bbv 129 (bbu Oy .ret) .skip))) (bbu Oz (bbv 133 (bbu OA (bbu OB (bbv 140 (bbu OC .ret) .skip))) (bbu OD .ret))))))))))))))))))))) (bbu Cm .ret))))⟩
def YU:ak:=[
 oP 2 (.mv (.c .ax))]
def YV:ak:=[
 mV 3 0,
 oP 4 (.eq false .slice (.t 3) (.c .ax))]
def afz:ak:=[
 oP 2 (.mv (.c .ax))]
def afA:ak:=[
 oP 5 (.lit true 1 0 [] []),
 mV 6 0,
 qab 7 1 4 5 6,
 mV 2 7]
def a69:aS:=⟨[.tmp 2],(bbu YU (.seq (bbu YV (bbv 4 (bbu afz .ret) .skip)) (bbu afA .ret)))⟩
def RV:ak:=[
 aI 4 0]
def RW:ak:=[
 mV 5 0,
 mV 6 1,
 dQ 7 5 6]
def afB:ak:=[
 aI 4 (-1)]
def YW:ak:=[
 mV 8 0,
 mV 9 1,
 oP 10 (.bin .gtr (.t 8) (.t 9))]
def afC:ak:=[
 aI 4 1]
def afD:ak:=[
 aI 4 0]
def a70:aS:=⟨[.tmp 4],(bbu RV (.seq (bbu RW (bbv 7 (bbu afB .ret) .skip)) (.seq (bbu YW (bbv 10 (bbu afC .ret) .skip)) (bbu afD .ret))))⟩
def afE:ak:=[
 aI 4 0]
def afF:ak:=[
 aI 5 0]
def RY:ak:=[
 mV 6 5,
 mV 7 0,
 oP 8 (.len true (.t 7)),
 dQ 9 6 8,
 mV 10 9,
 br 11 5 10 true,
 br 12 1 10 true,
 oG 13 (.len true (.t 12)) 10 true,
 oG 14 (.bin .lss (.t 11) (.t 13)) 10 true,
 c9 15 10 14]
def YX:ak:=[
 mV 18 0,
 mV 19 5,
 oP 20 (.dD (.t 18) (.t 19)),
 mV 21 1,
 mV 22 5,
 oP 23 (.dD (.t 21) (.t 22)),
 dQ 24 20 23]
def aiG:List Nat:=[0,0,3,0,0,24,63]
def afG:ak:=[
 aI 4 (-1)]
def YY:ak:=[
 mV 25 0,
 mV 26 5,
 oP 27 (.dD (.t 25) (.t 26)),
 mV 28 1,
 mV 29 5,
 oP 30 (.dD (.t 28) (.t 29)),
 oP 31 (.bin .gtr (.t 27) (.t 30))]
def aiH:List Nat:=[0,0,3,0,0,24,63]
def afH:ak:=[
 aI 4 1]
def afI:ak:=[
 mV 16 5,
 dS 17 16 1,
 mV 5 17]
def Cn:AC:=(.seq (bbu RY (bbv 15 .skip (.exit 0))) (.seq (.block 1 (.seq (.seq (.draw YX aiG) (bbv 24 (bbu afG .ret) .skip)) (.seq (.draw YY aiH) (bbv 31 (bbu afH .ret) .skip)))) (.ops afI)))
def RZ:ak:=[
 mV 32 0,
 oP 33 (.len true (.t 32)),
 mV 34 1,
 oP 35 (.len true (.t 34)),
 dQ 36 33 35]
def YZ:ak:=[
 aI 4 (-1)]
def OE:ak:=[
 mV 37 0,
 oP 38 (.len true (.t 37)),
 mV 39 1,
 oP 40 (.len true (.t 39)),
 oP 41 (.bin .gtr (.t 38) (.t 40))]
def Y0:ak:=[
 aI 4 1]
def Y1:ak:=[
 aI 4 0]
def a71:aS:=⟨[.tmp 4],(bbu afE (.seq (bbu afF (.block 0 (.loop Cn))) (.seq (bbu RZ (bbv 36 (bbu YZ .ret) .skip)) (.seq (bbu OE (bbv 41 (bbu Y0 .ret) .skip)) (bbu Y1 .ret)))))⟩
def afJ:ak:=[
 qac 2 6 0,
 qac 3 6 1,
 aI 4 0]
def R0:ak:=[
 aV 6 0 2,
 aP 7 1 6,
 cq 8 7 7,
 mV 9 8,
 cM 10 0 3 9 true,
 cy 11 1 10 9 true,
 gR 12 11 7 9 true,
 c9 13 9 12]
def Y2:ak:=[
 aV 14 5 2,
 aP 15 1 14,
 dh 16 6 15 0,
 bm 17 6 16,
 aV 18 5 3,
 aP 19 1 18,
 dh 20 6 19 0,
 bm 21 6 20,
 cQ 22 40 17 21,
 mV 5 22]
def aiI:List Nat:=[0,1,3,7,0,16,48,112,255,511]
def Y3:ak:=[
 mV 23 5,
 oP 24 (.bin .neq (.t 23) (.c (.int .i64 0)))]
def afK:ak:=[
 mV 25 5,
 mV 4 25]
def afL:ak:=[
 bm 26 6 2,
 bT 27 113 26,
 aO 6 2 27]
def afM:ak:=[
 bm 28 6 3,
 bT 29 113 28,
 aO 6 3 29]
def Co:AC:=(.seq (bbu R0 (bbv 13 .skip (.exit 0))) (.block 1 (.seq (.draw Y2 aiI) (.seq (bbu Y3 (bbv 24 (bbu afK .ret) .skip)) (bbu afL (.ops afM))))))
def afN:ak:=[
 bm 30 6 2,
 bm 31 6 3,
 cQ 32 40 30 31,
 mV 4 32]
def a72:aS:=⟨[.tmp 4],(bbu afJ (.seq (.block 0 (.loop Co)) (bbu afN .ret)))⟩
def qd:ak:=[
 qaf 4,
 aI 5 0]
def qe:ak:=[
 aI 6 0]
def fO:ak:=[
 mV 9 6,
 mV 10 1,
 cK 11 10,
 dQ 12 9 11]
def fP:ak:=[
 mV 15 1,
 mV 16 6,
 dV 17 6 15 16,
 aV 18 0 17,
 aP 19 1 18,
 oP 20 (.bin .neq (.t 19) (.c (.int .i64 1)))]
def fQ:ak:=[
 qae 21,
 aO 6 4 21,
 aI 5 260]
def fR:ak:=[
 mV 13 6,
 dS 14 13 1,
 mV 6 14]
def dR:AC:=(.seq (bbu fO (bbv 12 .skip (.exit 0))) (.seq (.block 1 (bbu fP (bbv 20 (bbu fQ .ret) .skip))) (.ops fR)))
def tf:ak:=[
 mV 22 1,
 dh 23 6 22 0,
 aV 24 1 23,
 aP 25 1 24,
 mV 7 25]
def tg:ak:=[
 mV 26 1,
 cK 27 26,
 cq 28 27 1]
def th:ak:=[
 mV 29 0,
 bF 30 29 [45]]
def ni:ak:=[
 mV 31 7,
 oP 32 (.un .neg (.t 31)),
 mV 7 32]
def nj:ak:=[
 mV 33 7,
 bT 34 22 33,
 aO 6 4 34,
 aI 5 0]
def nk:ak:=[
 mV 35 1,
 dh 36 6 35 1,
 aV 37 1 36,
 aP 38 1 37,
 mV 8 38]
def nq:ak:=[
 mV 39 0]
def ny:ak:=[
 bF 41 39 [43],
 mV 40 41]
def nz:ak:=[
 mV 42 7,
 mV 43 8,
 oP 44 (.bin .add (.t 42) (.t 43)),
 bT 45 22 44,
 aO 6 4 45,
 aI 5 0]
def nA:ak:=[
 bF 47 39 [45],
 mV 46 47]
def nB:ak:=[
 mV 48 7,
 mV 49 8,
 oP 50 (.bin .sub (.t 48) (.t 49)),
 bT 51 22 50,
 aO 6 4 51,
 aI 5 0]
def nC:ak:=[
 bF 53 39 [42],
 mV 52 53]
def nD:ak:=[
 mV 54 7,
 mV 55 8,
 cQ 56 114 54 55,
 bS 57 56 0,
 bS 58 56 1,
 aO 6 4 57,
 mV 5 58]
def nF:ak:=[
 mV 59 8,
 cq 60 59 0]
def nG:ak:=[
 qae 61,
 aO 6 4 61,
 aI 5 260]
def nH:ak:=[
 mV 62 0,
 bF 63 62 [100,105,118]]
def nI:ak:=[
 mV 64 7,
 mV 65 8,
 oP 66 (.bin .quo (.t 64) (.t 65)),
 bT 67 22 66,
 aO 6 4 67,
 aI 5 0]
def nJ:ak:=[
 mV 68 7,
 mV 69 8,
 oP 70 (.bin .rem (.t 68) (.t 69)),
 bT 71 22 70,
 aO 6 4 71,
 aI 5 0]
def Tj:aS:=⟨[.cell 4 true 6,.tmp 5],(bbu qd (.seq (bbu qe (.block 0 (.loop dR))) (bbu tf (.seq (bbu tg (bbv 28 (.seq (bbu th (bbv 30 (.ops ni) .skip)) (bbu nj .ret)) .skip)) (bbu nk (.seq (bbu nq (.block 2 (bbu ny (bbv 40 (bbu nz .ret) (bbu nA (bbv 46 (bbu nB .ret) (bbu nC (bbv 52 (bbu nD .ret) .skip)))))))) (.seq (bbu nF (bbv 60 (bbu nG .ret) .skip)) (.seq (bbu nH (bbv 63 (bbu nI .ret) .skip)) (bbu nJ .ret)))))))))⟩
def lN:ak:=[
 qaf 4,
 aI 5 0]
def lO:ak:=[
 mV 12 1,
 dh 13 6 12 0,
 bm 14 6 13,
 bT 15 115 14,
 mV 11 15,
 bS 16 11 0,
 bS 17 11 1,
 mV 6 16,
 mV 7 17]
def lP:ak:=[
 mV 18 6,
 mV 8 18]
def lQ:ak:=[
 mV 19 1,
 cK 20 19,
 cq 21 20 2]
def lR:ak:=[
 mV 23 1,
 dh 24 6 23 1,
 bm 25 6 24,
 bT 26 115 25,
 mV 22 26,
 bS 27 22 0,
 bS 28 22 1,
 mV 9 27,
 mV 10 28]
def lS:ak:=[
 mV 29 9,
 mV 8 29]
def lT:ak:=[
 mV 30 7,
 mV 31 30,
 br 32 10 31 true,
 c9 33 31 32,
 mV 7 33]
def lU:ak:=[
 mV 34 7,
 oP 35 (.un .not (.t 34))]
def lV:ak:=[
 qae 36,
 aO 6 4 36,
 aI 5 261]
def lW:ak:=[
 mV 37 0]
def iY:ak:=[
 bF 39 37 [110,111,116],
 mV 38 39]
def iZ:ak:=[
 mV 40 6,
 oP 41 (.un .not (.t 40)),
 bT 42 77 41,
 aO 6 4 42,
 aI 5 0]
def i_:ak:=[
 bF 44 37 [97,110,100],
 mV 43 44]
def ja:ak:=[
 mV 45 6,
 mV 46 45,
 br 47 8 46 true,
 c9 48 46 47,
 bT 49 77 48,
 aO 6 4 49,
 aI 5 0]
def jb:ak:=[
 bF 51 37 [111,114],
 mV 50 51]
def jc:ak:=[
 mV 52 6,
 mV 53 52,
 br 54 8 53 false,
 db 55 53 54,
 bT 56 77 55,
 aO 6 4 56,
 aI 5 0]
def jd:ak:=[
 mV 57 6,
 mV 58 8,
 oP 59 (.eq true .bool (.t 57) (.t 58)),
 bT 60 77 59,
 aO 6 4 60,
 aI 5 0]
def a75:aS:=⟨[.cell 4 true 6,.tmp 5],(bbu lN (bbu lO (bbu lP (.seq (bbu lQ (bbv 21 (bbu lR (bbu lS (.ops lT))) .skip)) (.seq (bbu lU (bbv 35 (bbu lV .ret) .skip)) (.seq (bbu lW (.block 0 (bbu iY (bbv 38 (bbu iZ .ret) (bbu i_ (bbv 43 (bbu ja .ret) (bbu jb (bbv 50 (bbu jc .ret) .skip)))))))) (bbu jd .ret)))))))⟩
def Ei:ak:=[
 qac 4 6 1,
 qac 5 6 2,
 qaf 6,
 aI 7 0]
def Ej:ak:=[
 bm 16 6 4,
 bT 17 116 16,
 mV 15 17,
 bS 18 15 0,
 bS 19 15 1,
 mV 8 18,
 mV 9 19]
def Ek:ak:=[
 mV 20 9,
 oP 21 (.un .not (.t 20))]
def VO:ak:=[
 qae 22,
 aO 6 6 22,
 aI 7 261]
def JX:ak:=[
 mV 23 0,
 bF 24 23 [43,43]]
def VN:ak:=[
 mV 25 8,
 bm 26 6 5,
 cQ 27 41 25 26,
 aO 6 6 27,
 aI 7 0]
def QE:ak:=[
 bm 29 6 5,
 bT 30 116 29,
 mV 28 30,
 bS 31 28 0,
 bS 32 28 1,
 mV 10 31,
 mV 11 32]
def QF:ak:=[
 mV 33 11,
 oP 34 (.un .not (.t 33))]
def VY:ak:=[
 qae 35,
 aO 6 6 35,
 aI 7 261]
def VZ:ak:=[
 oP 36 (.lit true 6 0 [] []),
 mV 37 8,
 qab 38 6 88 36 37,
 mV 12 38]
def Md:ak:=[
 aI 13 0]
def Mb:ak:=[
 mV 39 13,
 mV 40 10,
 cK 41 40,
 dQ 42 39 41]
def VU:ak:=[
 aI 14 0]
def FY:ak:=[
 mV 45 14,
 mV 46 12,
 cK 47 46,
 dQ 48 45 47]
def Ma:ak:=[
 mV 51 12,
 mV 52 14,
 dV 53 6 51 52,
 bm 54 6 53,
 mV 55 10,
 mV 56 13,
 dV 57 6 55 56,
 bm 58 6 57,
 cQ 59 20 54 58,
 cq 60 59 0]
def acN:List Nat:=[0,0,3,7,0,0,48,112,255,511]
def VS:ak:=[
 oP 61 (.lit true 6 0 [] []),
 mV 62 12,
 mV 63 14,
 oP 64 (.slice 6 (.t 62) none (some (.t 63)) none),
 qab 65 6 88 61 64,
 mV 66 12,
 mV 67 14,
 dS 68 67 1,
 oP 69 (.slice 6 (.t 66) (some (.t 68)) none none),
 qab 70 6 88 65 69,
 mV 12 70]
def acO:List Nat:=[0,0,0,6,15,0,0,64,224,511,1023]
def VT:ak:=[
 mV 49 14,
 dS 50 49 1,
 mV 14 50]
def vQ:AC:=(.seq (bbu FY (bbv 48 .skip (.exit 2))) (.seq (.block 3 (.seq (.draw Ma acN) (bbv 60 (.seq (.draw VS acO) (.exit 2)) .skip))) (.ops VT)))
def VV:ak:=[
 mV 43 13,
 dS 44 43 1,
 mV 13 44]
def vR:AC:=(.seq (bbu Mb (bbv 42 .skip (.exit 0))) (.seq (.block 1 (bbu VU (.block 2 (.loop vQ)))) (.ops VV)))
def Me:ak:=[
 mV 71 12,
 oP 72 (.build bA [(0,1,(.c (.int .i64 6)))]),
 cQ 73 41 71 72,
 aO 6 6 73,
 aI 7 0]
def a76:aS:=⟨[.cell 6 true 6,.tmp 7],(bbu Ei (bbu Ej (.seq (bbu Ek (bbv 21 (bbu VO .ret) .skip)) (.seq (bbu JX (bbv 24 (bbu VN .ret) .skip)) (bbu QE (.seq (bbu QF (bbv 34 (bbu VY .ret) .skip)) (bbu VZ (.seq (bbu Md (.block 0 (.loop vR))) (bbu Me .ret)))))))))⟩
def Y4:ak:=[
 qaf 4,
 aI 5 0]
def Y5:ak:=[
 mV 9 1,
 dh 10 6 9 0,
 bm 11 6 10,
 qaf 6,
 aO 6 6 11]
def Y6:ak:=[
 mV 12 0]
def Y7:ak:=[
 bF 14 12 [97,98,115],
 mV 13 14]
def Y8:ak:=[
 aV 15 0 6,
 aP 16 1 15,
 oP 17 (.bin .neq (.t 16) (.c (.int .i64 1)))]
def Y9:ak:=[
 qae 18,
 aO 6 4 18,
 aI 5 261]
def Y_:ak:=[
 aV 19 1 6,
 aP 20 1 19,
 oP 21 (.bin .lss (.t 20) (.c (.int .i64 0)))]
def Za:ak:=[
 aV 22 1 6,
 aP 23 1 22,
 oP 24 (.un .neg (.t 23)),
 bT 25 22 24,
 aO 6 4 25,
 aI 5 0]
def Zb:ak:=[
 bm 26 6 6,
 aO 6 4 26,
 aI 5 0]
def Zc:ak:=[
 bF 28 12 [105,115,95,97,116,111,109],
 mV 27 28]
def OF:ak:=[
 aV 29 0 6,
 aP 30 1 29,
 cq 31 30 2,
 bT 32 77 31,
 aO 6 4 32,
 aI 5 0]
def OG:ak:=[
 bF 34 12 [105,115,95,98,111,111,108,101,97,110],
 mV 33 34]
def OH:ak:=[
 bm 36 6 6,
 bT 37 115 36,
 mV 35 37,
 bS 38 35 0,
 bS 39 35 1,
 mV 7 38,
 mV 8 39]
def OI:ak:=[
 mV 40 8,
 bT 41 77 40,
 aO 6 4 41,
 aI 5 0]
def OJ:ak:=[
 bF 43 12 [105,115,95,105,110,116,101,103,101,114],
 mV 42 43]
def OK:ak:=[
 aV 44 0 6,
 aP 45 1 44,
 cq 46 45 1,
 bT 47 77 46,
 aO 6 4 47,
 aI 5 0]
def OL:ak:=[
 bF 49 12 [105,115,95,108,105,115,116],
 mV 48 49]
def OM:ak:=[
 aV 50 0 6,
 aP 51 1 50,
 cq 52 51 6,
 mV 53 52,
 cM 54 0 6 53 false,
 cy 55 1 54 53 false,
 gR 56 55 7 53 false,
 db 57 53 56,
 bT 58 77 57,
 aO 6 4 58,
 aI 5 0]
def ON:ak:=[
 bF 60 12 [105,115,95,112,105,100],
 mV 59 60]
def OO:ak:=[
 aV 61 0 6,
 aP 62 1 61,
 cq 63 62 4,
 bT 64 77 63,
 aO 6 4 64,
 aI 5 0]
def OP:ak:=[
 bF 66 12 [105,115,95,114,101,102,101,114,101,110,99,101],
 mV 65 66]
def OQ:ak:=[
 aV 67 0 6,
 aP 68 1 67,
 cq 69 68 3,
 bT 70 77 69,
 aO 6 4 70,
 aI 5 0]
def OR:ak:=[
 bF 72 12 [105,115,95,116,117,112,108,101],
 mV 71 72]
def OS:ak:=[
 aV 73 0 6,
 aP 74 1 73,
 cq 75 74 5,
 bT 76 77 75,
 aO 6 4 76,
 aI 5 0]
def OT:ak:=[
 bF 78 12 [110,111,100,101],
 mV 77 78]
def OU:ak:=[
 aV 79 0 6,
 aP 80 1 79,
 oP 81 (.bin .neq (.t 80) (.c (.int .i64 4))),
 mV 82 81,
 cM 83 0 6 82 true,
 cy 84 1 83 82 true,
 oG 85 (.bin .neq (.t 84) (.c (.int .i64 3))) 82 true,
 c9 86 82 85]
def OV:ak:=[
 qae 87,
 aO 6 4 87,
 aI 5 261]
def OW:ak:=[
 aV 88 2 6,
 aP 89 1 88,
 bT 90 31 89,
 aO 6 4 90,
 aI 5 0]
def OX:ak:=[
 mV 91 0,
 mV 92 1,
 cQ 93 117 91 92,
 bS 94 93 0,
 bS 95 93 1,
 aO 6 4 94,
 mV 5 95]
def wS:aS:=⟨[.cell 4 true 6,.tmp 5],(bbu Y4 (bbu Y5 (.seq (bbu Y6 (.block 0 (bbu Y7 (bbv 13 (.seq (bbu Y8 (bbv 17 (bbu Y9 .ret) .skip)) (.seq (bbu Y_ (bbv 21 (bbu Za .ret) .skip)) (bbu Zb .ret))) (bbu Zc (bbv 27 (bbu OF .ret) (bbu OG (bbv 33 (bbu OH (bbu OI .ret)) (bbu OJ (bbv 42 (bbu OK .ret) (bbu OL (bbv 48 (bbu OM .ret) (bbu ON (bbv 59 (bbu OO .ret) (bbu OP (bbv 65 (bbu OQ .ret) (bbu OR (bbv 71 (bbu OS .ret) (bbu OT (bbv 77 (.seq (bbu OU (bbv 86 (bbu OV .ret) .skip)) (bbu OW .ret)) .skip)))))))))))))))))))) (bbu OX .ret))))⟩
def ang:ak:=[
 qac 2 6 0,
 cE 4 false]
def anh:ak:=[
 mV 6 1,
 bT 7 119 6,
 mV 5 7]
def ani:ak:=[
 mV 8 5,
 dh 9 1 8 0,
 aP 10 1 9,
 mV 11 10,
 cM 12 1 2 11 false,
 cy 13 1 12 11 false,
 gR 14 13 0 11 false,
 db 15 11 14,
 mV 16 15,
 br 17 5 16 true,
 oG 18 (.cL 1 (.t 17) (.c (.int .i64 1))) 16 true,
 cy 19 1 18 16 true,
 br 20 19 16 true,
 cM 21 2 2 20 false,
 cy 22 1 21 20 false,
 oG 23 (.bin .eql (.t 22) (.c (.str []))) 20 false,
 oG 24 (.pick (.t 20) (.c (.bool true)) (.t 23)) 16 true,
 c9 25 16 24,
 mV 26 25,
 br 27 5 26 true,
 oG 28 (.cL 1 (.t 27) (.c (.int .i64 2))) 26 true,
 cy 29 1 28 26 true,
 br 30 29 26 true,
 cM 31 3 2 30 false,
 cy 32 1 31 30 false,
 oG 33 (.bin .eql (.t 32) (.c (.int .u32 0))) 30 false,
 oG 34 (.pick (.t 30) (.c (.bool true)) (.t 33)) 26 true,
 c9 35 26 34,
 mV 36 35,
 br 37 5 36 true,
 oG 38 (.cL 1 (.t 37) (.c (.int .i64 3))) 36 true,
 cy 39 1 38 36 true,
 br 40 39 36 true,
 cM 41 4 2 40 false,
 cy 42 1 41 40 false,
 oG 43 (.len false (.t 42)) 40 false,
 gR 44 43 0 40 false,
 oG 45 (.pick (.t 40) (.c (.bool true)) (.t 44)) 36 true,
 c9 46 36 45,
 mV 47 46,
 br 48 5 47 true,
 oG 49 (.cL 1 (.t 48) (.c (.int .i64 4))) 47 true,
 cy 50 1 49 47 true,
 br 51 50 47 true,
 cM 52 5 2 51 false,
 cy 53 1 52 51 false,
 oG 54 (.len false (.t 53)) 51 false,
 gR 55 54 0 51 false,
 oG 56 (.pick (.t 51) (.c (.bool true)) (.t 55)) 47 true,
 c9 57 47 56,
 mV 4 57]
def ux:aS:=⟨[.tmp 4],(bbu ang (bbu anh (bbu ani .ret)))⟩
def afO:ak:=[
 aI 2 0]
def afP:ak:=[
 aI 3 0]
def R1:ak:=[
 mV 5 3,
 mV 6 0,
 oP 7 (.len true (.t 6)),
 dQ 8 5 7]
def Zd:ak:=[
 mV 9 0,
 mV 10 3,
 cQ 11 120 9 10,
 mV 4 11]
def Ze:ak:=[
 mV 12 4,
 cq 13 12 0]
def afQ:ak:=[
 mV 14 3,
 mV 2 14]
def afR:ak:=[
 mV 15 3,
 mV 16 4,
 oP 17 (.bin .add (.t 15) (.t 16)),
 mV 3 17]
def Cp:AC:=(.seq (bbu R1 (bbv 8 .skip (.exit 0))) (.block 1 (bbu Zd (.seq (bbu Ze (bbv 13 (bbu afQ .ret) .skip)) (.ops afR)))))
def afS:ak:=[
 aI 2 (-1)]
def a85:aS:=⟨[.tmp 2],(bbu afO (bbu afP (.seq (.block 0 (.loop Cp)) (bbu afS .ret))))⟩
def R2:ak:=[
 cE 2 false]
def R3:ak:=[
 mV 4 0,
 bF 5 4 [],
 mV 6 5,
 br 7 0 6 false,
 oG 8 (.dD (.t 7) (.c (.int .i64 0))) 6 false,
 oG 9 (.call 121 [(.t 8)]) 6 false,
 oG 10 (.un .not (.t 9)) 6 false,
 db 11 6 10,
 mV 12 11,
 br 13 0 12 false,
 oG 14 (.call 122 [(.t 13)]) 12 false,
 db 15 12 14]
def Zf:ak:=[
 cE 2 false]
def afT:ak:=[
 aI 3 0]
def R4:ak:=[
 mV 16 3,
 mV 17 0,
 oP 18 (.len true (.t 17)),
 dQ 19 16 18]
def Zg:ak:=[
 mV 22 0,
 mV 23 3,
 oP 24 (.dD (.t 22) (.t 23)),
 bT 25 87 24,
 oP 26 (.un .not (.t 25))]
def afU:ak:=[
 cE 2 false]
def afV:ak:=[
 mV 20 3,
 dS 21 20 1,
 mV 3 21]
def Cq:AC:=(.seq (bbu R4 (bbv 19 .skip (.exit 0))) (.seq (.block 1 (bbu Zg (bbv 26 (bbu afU .ret) .skip))) (.ops afV)))
def afW:ak:=[
 cE 2 true]
def a86:aS:=⟨[.tmp 2],(bbu R2 (.seq (bbu R3 (bbv 15 (bbu Zf .ret) .skip)) (.seq (bbu afT (.block 0 (.loop Cq))) (bbu afW .ret))))⟩
def anm:ak:=[
 cE 2 false]
def ann:ak:=[
 mV 3 0,
 bT 4 121 3,
 mV 5 4,
 br 6 0 5 false,
 oG 7 (.bin .geq (.t 6) (.c (.int .u8 65))) 5 false,
 br 8 7 5 false,
 br 9 0 8 true,
 oG 10 (.bin .leq (.t 9) (.c (.int .u8 90))) 8 true,
 oG 11 (.pick (.t 8) (.t 10) (.c (.bool false))) 5 false,
 db 12 5 11,
 mV 13 12,
 br 14 0 13 false,
 oG 15 (.bin .geq (.t 14) (.c (.int .u8 48))) 13 false,
 br 16 15 13 false,
 br 17 0 16 true,
 oG 18 (.bin .leq (.t 17) (.c (.int .u8 57))) 16 true,
 oG 19 (.pick (.t 16) (.t 18) (.c (.bool false))) 13 false,
 db 20 13 19,
 mV 21 20,
 br 22 0 21 false,
 oG 23 (.bin .eql (.t 22) (.c (.int .u8 95))) 21 false,
 db 24 21 23,
 mV 25 24,
 br 26 0 25 false,
 oG 27 (.bin .eql (.t 26) (.c (.int .u8 64))) 25 false,
 db 28 25 27,
 mV 2 28]
def a87:aS:=⟨[.tmp 2],(bbu anm (bbu ann .ret))⟩
def Rd:ak:=[
 aI 4 0]
def Re:ak:=[
 mV 7 0,
 bT 8 123 7,
 mV 5 8]
def Rf:ak:=[
 mV 9 1,
 bT 10 123 9,
 mV 6 10]
def Rh:ak:=[
 mV 11 5]
def ano:ak:=[
 mV 12 6]
def anp:ak:=[
 aI 4 0]
def anq:ak:=[
 aI 4 (-1)]
def Ri:ak:=[
 mV 13 6]
def anr:ak:=[
 aI 4 1]
def Rj:ak:=[
 mV 14 0,
 mV 15 1,
 dQ 16 14 15]
def Xx:ak:=[
 aI 4 (-1)]
def Nh:ak:=[
 mV 17 0,
 mV 18 1,
 oP 19 (.bin .gtr (.t 17) (.t 18))]
def Xy:ak:=[
 aI 4 1]
def Xz:ak:=[
 aI 4 0]
def a88:aS:=⟨[.tmp 4],(bbu Rd (bbu Re (bbu Rf (.seq (bbu Rh (bbv 11 (.seq (bbu ano (bbv 12 (bbu anp .ret) .skip)) (bbu anq .ret)) .skip)) (.seq (bbu Ri (bbv 13 (bbu anr .ret) .skip)) (.seq (bbu Rj (bbv 16 (bbu Xx .ret) .skip)) (.seq (bbu Nh (bbv 19 (bbu Xy .ret) .skip)) (bbu Xz .ret))))))))⟩
def Rk:ak:=[
 aI 4 0]
def Rl:ak:=[
 mV 7 0,
 bT 8 124 7,
 mV 5 8]
def Rm:ak:=[
 mV 9 1,
 bT 10 124 9,
 mV 6 10]
def Rn:ak:=[
 mV 11 5]
def ans:ak:=[
 mV 12 6]
def ant:ak:=[
 aI 4 0]
def anu:ak:=[
 aI 4 (-1)]
def Ro:ak:=[
 mV 13 6]
def anv:ak:=[
 aI 4 1]
def Rp:ak:=[
 mV 14 0,
 mV 15 1,
 dQ 16 14 15]
def XC:ak:=[
 aI 4 (-1)]
def Nj:ak:=[
 mV 17 0,
 mV 18 1,
 oP 19 (.bin .gtr (.t 17) (.t 18))]
def XD:ak:=[
 aI 4 1]
def XE:ak:=[
 aI 4 0]
def a89:aS:=⟨[.tmp 4],(bbu Rk (bbu Rl (bbu Rm (.seq (bbu Rn (bbv 11 (.seq (bbu ans (bbv 12 (bbu ant .ret) .skip)) (bbu anu .ret)) .skip)) (.seq (bbu Ro (bbv 13 (bbu anv .ret) .skip)) (.seq (bbu Rp (bbv 16 (bbu XC .ret) .skip)) (.seq (bbu Nj (bbv 19 (bbu XD .ret) .skip)) (bbu XE .ret))))))))⟩
def RD:ak:=[
 aI 4 0]
def RE:ak:=[
 mV 7 0,
 bT 8 125 7,
 mV 5 8]
def RF:ak:=[
 mV 9 1,
 bT 10 125 9,
 mV 6 10]
def RG:ak:=[
 mV 11 5]
def anw:ak:=[
 mV 12 6]
def anx:ak:=[
 aI 4 0]
def anz:ak:=[
 aI 4 (-1)]
def RH:ak:=[
 mV 13 6]
def anA:ak:=[
 aI 4 1]
def RI:ak:=[
 mV 14 0,
 mV 15 1,
 dQ 16 14 15]
def XS:ak:=[
 aI 4 (-1)]
def Nq:ak:=[
 mV 17 0,
 mV 18 1,
 oP 19 (.bin .gtr (.t 17) (.t 18))]
def XT:ak:=[
 aI 4 1]
def XU:ak:=[
 aI 4 0]
def a90:aS:=⟨[.tmp 4],(bbu RD (bbu RE (bbu RF (.seq (bbu RG (bbv 11 (.seq (bbu anw (bbv 12 (bbu anx .ret) .skip)) (bbu anz .ret)) .skip)) (.seq (bbu RH (bbv 13 (bbu anA .ret) .skip)) (.seq (bbu RI (bbv 16 (bbu XS .ret) .skip)) (.seq (bbu Nq (bbv 19 (bbu XT .ret) .skip)) (bbu XU .ret))))))))⟩
def anB:ak:=[
 aI 2 0]
def anC:ak:=[
 aI 3 0]
def anD:ak:=[
 mV 6 0,
 cK 7 6,
 aI 8 0]
def anE:ak:=[
 dQ 9 8 7]
def anF:ak:=[
 dV 10 1 6 8,
 aP 11 1 10,
 mV 5 11]
def anG:ak:=[
 mV 12 5,
 mV 13 3,
 oP 14 (.bin .neq (.t 12) (.t 13))]
def anH:ak:=[
 mV 15 5,
 mV 2 15]
def anI:ak:=[
 dS 16 8 1,
 mV 8 16]
def aiJ:AC:=(bbu anE (.seq (bbv 9 .skip (.exit 0)) (.seq (.block 1 (bbu anF (bbu anG (bbv 14 (bbu anH .ret) .skip)))) (.ops anI))))
def anJ:ak:=[
 mV 17 3,
 mV 2 17]
def a91:aS:=⟨[.tmp 2],(bbu anB (bbu anC (.seq (bbu anD (.block 0 (.loop aiJ))) (bbu anJ .ret))))⟩
def Rr:ak:=[
 aI 4 0]
def Rs:ak:=[
 mV 7 0,
 bT 8 126 7,
 mV 5 8]
def Rt:ak:=[
 mV 9 1,
 bT 10 126 9,
 mV 6 10]
def Ru:ak:=[
 mV 11 5]
def anK:ak:=[
 mV 12 6]
def anL:ak:=[
 aI 4 0]
def anM:ak:=[
 aI 4 (-1)]
def Rv:ak:=[
 mV 13 6]
def anN:ak:=[
 aI 4 1]
def Rw:ak:=[
 mV 14 0,
 mV 15 1,
 dQ 16 14 15]
def XH:ak:=[
 aI 4 (-1)]
def Nl:ak:=[
 mV 17 0,
 mV 18 1,
 oP 19 (.bin .gtr (.t 17) (.t 18))]
def XI:ak:=[
 aI 4 1]
def XJ:ak:=[
 aI 4 0]
def a92:aS:=⟨[.tmp 4],(bbu Rr (bbu Rs (bbu Rt (.seq (bbu Ru (bbv 11 (.seq (bbu anK (bbv 12 (bbu anL .ret) .skip)) (bbu anM .ret)) .skip)) (.seq (bbu Rv (bbv 13 (bbu anN .ret) .skip)) (.seq (bbu Rw (bbv 16 (bbu XH .ret) .skip)) (.seq (bbu Nl (bbv 19 (bbu XI .ret) .skip)) (bbu XJ .ret))))))))⟩
def aeU:ak:=[
 aI 4 0]
def aeV:ak:=[
 mV 9 0,
 cK 10 9,
 aI 11 0]
def KD:ak:=[
 dQ 12 11 10]
def RJ:ak:=[
 mV 13 11,
 dV 14 1 9 11,
 aP 15 1 14,
 mV 5 13,
 mV 6 15]
def RL:ak:=[
 mV 16 5,
 mV 17 1,
 cK 18 17,
 oP 19 (.bin .geq (.t 16) (.t 18))]
def aeT:ak:=[
 aI 4 1]
def XV:ak:=[
 mV 20 1,
 mV 21 5,
 dV 22 1 20 21,
 aP 23 1 22,
 mV 7 23]
def XW:ak:=[
 mV 24 6,
 mV 25 7,
 cQ 26 92 24 25,
 mV 8 26]
def XX:ak:=[
 mV 27 8,
 oP 28 (.bin .neq (.t 27) (.c (.int .i64 0)))]
def aeS:ak:=[
 mV 29 8,
 mV 4 29]
def XY:ak:=[
 dS 30 11 1,
 mV 11 30]
def sL:AC:=(bbu KD (.seq (bbv 12 .skip (.exit 0)) (.seq (.block 1 (bbu RJ (.seq (bbu RL (bbv 19 (bbu aeT .ret) .skip)) (bbu XV (bbu XW (bbu XX (bbv 28 (bbu aeS .ret) .skip))))))) (.ops XY))))
def Nr:ak:=[
 mV 31 0,
 cK 32 31,
 mV 33 1,
 cK 34 33,
 dQ 35 32 34]
def XZ:ak:=[
 aI 4 (-1)]
def X0:ak:=[
 aI 4 0]
def a93:aS:=⟨[.tmp 4],(bbu aeU (.seq (bbu aeV (.block 0 (.loop sL))) (.seq (bbu Nr (bbv 35 (bbu XZ .ret) .skip)) (bbu X0 .ret))))⟩
def Rx:ak:=[
 aI 4 0]
def Ry:ak:=[
 mV 7 0,
 bT 8 127 7,
 mV 5 8]
def Rz:ak:=[
 mV 9 1,
 bT 10 127 9,
 mV 6 10]
def RA:ak:=[
 mV 11 5]
def anO:ak:=[
 mV 12 6]
def anP:ak:=[
 aI 4 0]
def anQ:ak:=[
 aI 4 (-1)]
def RB:ak:=[
 mV 13 6]
def anR:ak:=[
 aI 4 1]
def RC:ak:=[
 mV 14 0,
 mV 15 1,
 dQ 16 14 15]
def XM:ak:=[
 aI 4 (-1)]
def No:ak:=[
 mV 17 0,
 mV 18 1,
 oP 19 (.bin .gtr (.t 17) (.t 18))]
def XN:ak:=[
 aI 4 1]
def XO:ak:=[
 aI 4 0]
def a94:aS:=⟨[.tmp 4],(bbu Rx (bbu Ry (bbu Rz (.seq (bbu RA (bbv 11 (.seq (bbu anO (bbv 12 (bbu anP .ret) .skip)) (bbu anQ .ret)) .skip)) (.seq (bbu RB (bbv 13 (bbu anR .ret) .skip)) (.seq (bbu RC (bbv 16 (bbu XM .ret) .skip)) (.seq (bbu No (bbv 19 (bbu XN .ret) .skip)) (bbu XO .ret))))))))⟩
def afX:ak:=[
 aI 6 0]
def afY:ak:=[
 mV 11 0,
 cK 12 11,
 aI 13 0]
def KM:ak:=[
 dQ 14 13 12]
def R5:ak:=[
 mV 15 13,
 dV 16 6 11 13,
 bm 17 6 16,
 qaf 8,
 mV 7 15,
 aO 6 8 17]
def R6:ak:=[
 mV 18 7,
 mV 19 1,
 cK 20 19,
 oP 21 (.bin .geq (.t 18) (.t 20))]
def afZ:ak:=[
 aI 6 1]
def Zh:ak:=[
 mV 22 1,
 mV 23 7,
 dV 24 6 22 23,
 bm 25 6 24,
 qaf 9,
 aO 6 9 25]
def Zi:ak:=[
 mV 26 2,
 bm 27 6 8,
 bm 28 6 9,
 oP 29 (.kr (.t 26) [(.t 27),(.t 28)]),
 mV 10 29]
def Zj:ak:=[
 mV 30 10,
 oP 31 (.bin .neq (.t 30) (.c (.int .i64 0)))]
def af0:ak:=[
 mV 32 10,
 mV 6 32]
def Zk:ak:=[
 dS 33 13 1,
 mV 13 33]
def sN:AC:=(bbu KM (.seq (bbv 14 .skip (.exit 0)) (.seq (.block 1 (bbu R5 (.seq (bbu R6 (bbv 21 (bbu afZ .ret) .skip)) (bbu Zh (bbu Zi (bbu Zj (bbv 31 (bbu af0 .ret) .skip))))))) (.ops Zk))))
def OY:ak:=[
 mV 34 0,
 cK 35 34,
 mV 36 1,
 cK 37 36,
 dQ 38 35 37]
def Zl:ak:=[
 aI 6 (-1)]
def Zm:ak:=[
 aI 6 0]
def a95:aS:=⟨[.tmp 6],(bbu afX (.seq (bbu afY (.block 0 (.loop sN))) (.seq (bbu OY (bbv 38 (bbu Zl .ret) .skip)) (bbu Zm .ret))))⟩
def af1:ak:=[
 aI 4 0]
def R7:ak:=[
 mV 7 0,
 cK 8 7,
 oP 9 (.bin .gtr (.t 8) (.c (.int .i64 1))),
 mV 10 9,
 br 11 1 10 true,
 oG 12 (.len false (.t 11)) 10 true,
 oG 13 (.bin .gtr (.t 12) (.c (.int .i64 1))) 10 true,
 c9 14 10 13]
def af2:ak:=[
 mV 15 0,
 dh 16 6 15 0,
 bm 17 6 16,
 mV 18 1,
 dh 19 6 18 0,
 bm 20 6 19,
 cQ 21 53 17 20,
 mV 5 21]
def aiK:List Nat:=[0,1,3,0,8,24,63,127]
def Zn:ak:=[
 mV 22 5,
 oP 23 (.bin .neq (.t 22) (.c (.int .i64 0)))]
def af3:ak:=[
 mV 24 5,
 mV 4 24]
def af4:ak:=[
 mV 25 0,
 oP 26 (.slice 6 (.t 25) (some (.c (.int .i64 1))) none none),
 mV 27 1,
 oP 28 (.slice 6 (.t 27) (some (.c (.int .i64 1))) none none),
 mV 0 26,
 mV 1 28]
def aiL:List Nat:=[0,1,0,4,3,31]
def Cr:AC:=(.seq (bbu R7 (bbv 14 .skip (.exit 0))) (.block 1 (.seq (.seq (.draw af2 aiK) (bbu Zn (bbv 23 (bbu af3 .ret) .skip))) (.draw af4 aiL))))
def af5:ak:=[
 oP 6 (.mv (.c (.fn (.func 128) [] [])))]
def af6:ak:=[
 mV 29 6,
 mV 30 0,
 oP 31 (.kr (.t 29) [(.t 30)]),
 mV 32 6,
 mV 33 1,
 oP 34 (.kr (.t 32) [(.t 33)]),
 cQ 35 53 31 34,
 mV 4 35]
def a96:aS:=⟨[.tmp 4],(bbu af1 (.seq (.block 0 (.loop Cr)) (bbu af5 (bbu af6 .ret))))⟩
def Ky:ak:=[
 qac 4 6 1,
 oP 6 (.mv (.c .bL))]
def Kz:ak:=[
 mV 12 0,
 oP 13 (.nilCheck (.t 12)),
 aV 14 0 13,
 aP 15 1 14,
 mV 7 15]
def KA:ak:=[
 mV 17 7,
 cq 18 17 4096,
 mV 16 18]
def aeF:ak:=[
 mV 19 7,
 oP 20 (.call 129 [(.t 19),(.c (.int .i64 5)),(.c .bL)]),
 mV 6 20]
def Rb:ak:=[
 mV 22 2,
 oP 23 (.bin .gtr (.t 22) (.c (.int .i64 256))),
 mV 21 23]
def aeG:ak:=[
 mV 24 7,
 oP 25 (.call 129 [(.t 24),(.c (.int .i64 9)),(.c .bL)]),
 mV 6 25]
def Xg:ak:=[
 bm 26 6 4,
 mV 27 7,
 cQ 28 130 26 27,
 mV 8 28]
def Xh:ak:=[
 mV 29 8,
 oP 30 (.eq true (.iface true) (.t 29) (.c .bL))]
def aeH:ak:=[
 mV 31 8,
 mV 6 31]
def aeI:ak:=[
 mV 32 0,
 oP 33 (.nilCheck (.t 32)),
 aV 34 0 33,
 aP 35 1 34,
 dS 36 35 1,
 oP 37 (.nilCheck (.t 32)),
 aV 38 0 37,
 aO 1 38 36]
def Xi:ak:=[
 mV 39 0,
 mV 40 0,
 oP 41 (.nilCheck (.t 40)),
 aV 42 1 41,
 aP 43 1 42,
 mV 44 2,
 oP 45 (.iF true (.t 43) (.t 44)),
 oP 46 (.nilCheck (.t 39)),
 aV 47 1 46,
 aO 1 47 45]
def Xj:ak:=[
 aV 48 5 4,
 aP 49 1 48,
 cK 50 49,
 aI 51 0]
def Ha:ak:=[
 dQ 52 51 50]
def M9:ak:=[
 dV 53 6 49 51,
 bm 54 6 53,
 qaf 10,
 aO 6 10 54]
def M_:ak:=[
 mV 55 0,
 bm 56 6 10,
 mV 57 2,
 dS 58 57 1,
 oP 59 (.call 97 [(.t 55),(.t 56),(.t 58)]),
 mV 11 59]
def Na:ak:=[
 mV 60 11,
 oP 61 (.eq true (.iface true) (.t 60) (.c .bL))]
def Xf:ak:=[
 mV 62 11,
 mV 6 62]
def Xe:ak:=[
 dS 63 51 1,
 mV 51 63]
def wj:AC:=(bbu Ha (.seq (bbv 52 .skip (.exit 1)) (.seq (.block 2 (bbu M9 (bbu M_ (bbu Na (bbv 61 (bbu Xf .ret) .skip))))) (.ops Xe))))
def Xk:ak:=[
 oP 6 (.mv (.c .bL))]
def a97:aS:=⟨[.tmp 6],(bbu Ky (bbu Kz (.seq (.block 0 (bbu KA (bbv 16 (bbu aeF .ret) (bbu Rb (bbv 21 (bbu aeG .ret) .skip))))) (.seq (bbu Xg (bbu Xh (bbv 30 (bbu aeH .ret) .skip))) (bbu aeI (bbu Xi (.seq (bbu Xj (.block 1 (.loop wj))) (bbu Xk .ret))))))))⟩
def rp:ak:=[
 aI 4 0,
 cE 5 false]
def rq:ak:=[
 mV 7 0,
 cq 8 7 0,
 mV 9 8,
 br 10 1 9 false,
 gR 11 10 0 9 false,
 db 12 9 11]
def GU:ak:=[
 aI 4 0,
 cE 5 true]
def BU:ak:=[
 mV 13 0,
 mV 14 1,
 oP 15 (.bin .mul (.t 13) (.t 14)),
 mV 6 15]
def BV:ak:=[
 mV 16 6,
 mV 17 6,
 mV 18 1,
 oP 19 (.bin .quo (.t 17) (.t 18)),
 mV 20 0,
 oP 21 (.bin .eql (.t 19) (.t 20)),
 mV 22 21,
 br 23 6 22 true,
 br 24 1 22 true,
 oG 25 (.bin .rem (.t 23) (.t 24)) 22 true,
 gR 26 25 0 22 true,
 c9 27 22 26,
 mV 4 16,
 mV 5 27]
def acP:List Nat:=[0,0,0,6,0,30,62,126,126,510,1022,2046,127,8191]
def GS:aS:=⟨[.tmp 4,.tmp 5],(bbu rp (.seq (bbu rq (bbv 12 (bbu GU .ret) .skip)) (bbu BU (.seq (.draw BV acP) .ret))))⟩
def Bn:ak:=[
 qac 1 6 0,
 cE 2 false,
 cE 3 false]
def Bo:ak:=[
 aV 4 0 1,
 aP 5 1 4,
 oP 6 (.bin .neq (.t 5) (.c (.int .i64 2)))]
def Bp:ak:=[
 cE 2 false,
 cE 3 false]
def Fz:ak:=[
 aV 7 2 1,
 aP 8 1 7,
 bF 9 8 [116,114,117,101],
 aV 10 2 1,
 aP 11 1 10,
 bF 12 11 [116,114,117,101],
 mV 13 12,
 cM 14 2 1 13 false,
 cy 15 1 14 13 false,
 oG 16 (.bin .eql (.t 15) (.c (.str [102,97,108,115,101]))) 13 false,
 db 17 13 16,
 mV 2 9,
 mV 3 17]
def acQ:List Nat:=[0,1,3,0,8,24,56,120,248,504,1016,127,4095]
def Td:aS:=⟨[.tmp 2,.tmp 3],(bbu Bn (.seq (bbu Bo (bbv 6 (bbu Bp .ret) .skip)) (.seq (.draw Fz acQ) .ret)))⟩
def Cs:ak:=[
 qac 1 6 0,
 oP 2 (.mv (.c .ax)),
 cE 3 false]
def Ct:ak:=[
 aV 5 5 1,
 aP 6 1 5,
 cK 7 6,
 oP 8 (.bin .sub (.t 7) (.c (.int .i64 1))),
 mV 4 8]
def Cu:ak:=[
 aV 10 0 1,
 aP 11 1 10,
 cq 12 11 6,
 mV 9 12]
def Zo:ak:=[
 oP 2 (.mv (.c .ax)),
 cE 3 true]
def Hs:ak:=[
 aV 14 0 1,
 aP 15 1 14,
 cq 16 15 7,
 mV 17 16,
 cM 18 5 1 17 true,
 cy 19 1 18 17 true,
 br 20 4 17 true,
 oG 21 (.cL 6 (.t 19) (.t 20)) 17 true,
 cM 22 0 21 17 true,
 cy 23 1 22 17 true,
 gR 24 23 6 17 true,
 c9 25 17 24,
 mV 13 25]
def Zp:ak:=[
 aV 26 5 1,
 aP 27 1 26,
 mV 28 4,
 mV 29 4,
 oP 30 (.slice 6 (.t 27) none (some (.t 28)) (some (.t 29))),
 mV 2 30,
 cE 3 true]
def OZ:ak:=[
 oP 2 (.mv (.c .ax)),
 cE 3 false]
def TM:aS:=⟨[.tmp 2,.tmp 3],(bbu Cs (.seq (bbu Ct (.block 0 (bbu Cu (bbv 9 (bbu Zo .ret) (bbu Hs (bbv 13 (bbu Zp .ret) .skip)))))) (bbu OZ .ret)))⟩
def Ht:ak:=[
 qac 3 6 1,
 qaf 4]
def Hu:ak:=[
 mV 6 0,
 cK 7 6,
 cq 8 7 0,
 mV 5 8]
def Zq:ak:=[
 bm 9 6 3,
 aO 6 4 9]
def O0:ak:=[
 aV 11 0 3,
 aP 12 1 11,
 cq 13 12 7,
 mV 10 13]
def Zr:ak:=[
 mV 14 0,
 aV 15 5 3,
 aP 16 1 15,
 oP 17 (.lit true 1 2 [.ax,.ax] [(0,1,(.t 14)),(1,1,(.t 16))]),
 bT 18 131 17,
 oP 19 (.build bA [(0,1,(.c (.int .i64 7))),(5,1,(.t 18))]),
 aO 6 4 19]
def Zs:ak:=[
 mV 20 0,
 bT 21 104 20,
 bm 22 6 3,
 oP 23 (.lit true 6 1 bA [(0,6,(.t 22))]),
 qab 24 6 88 21 23,
 oP 25 (.build bA [(0,1,(.c (.int .i64 7))),(5,1,(.t 24))]),
 aO 6 4 25]
def acR:List Nat:=[0,1,0,4,15,31,63]
def yU:aS:=⟨[.cell 4 true 6],(bbu Ht (.seq (.block 0 (bbu Hu (bbv 5 (bbu Zq .ret) (bbu O0 (bbv 10 (bbu Zr .ret) .skip))))) (.seq (.draw Zs acR) .ret)))⟩
def uF:ak:=[
 oP 2 (.mv (.c .ax))]
def uG:ak:=[
 mV 3 0,
 oP 4 (.eq false .slice (.t 3) (.c .ax))]
def O1:ak:=[
 oP 2 (.mv (.c .ax))]
def Cv:ak:=[
 oP 5 (.lit true 6 0 [] []),
 mV 6 0,
 qab 7 6 88 5 6,
 mV 2 7]
def KN:aS:=⟨[.tmp 2],(bbu uF (.seq (bbu uG (bbv 4 (bbu O1 .ret) .skip)) (bbu Cv .ret)))⟩
def O2:ak:=[
 aI 4 0]
def O3:ak:=[
 mV 6 0,
 cK 7 6,
 aI 8 0]
def Hv:ak:=[
 dQ 9 8 7]
def O4:ak:=[
 mV 10 8,
 mV 5 10]
def O5:ak:=[
 mV 11 1,
 mV 12 0,
 mV 13 5,
 dV 14 6 12 13,
 bm 15 6 14,
 oP 16 (.kr (.t 11) [(.t 15)])]
def Zt:ak:=[
 mV 17 5,
 mV 4 17]
def Zu:ak:=[
 dS 18 8 1,
 mV 8 18]
def sO:AC:=(bbu Hv (.seq (bbv 9 .skip (.exit 0)) (.seq (.block 1 (bbu O4 (bbu O5 (bbv 16 (bbu Zt .ret) .skip)))) (.ops Zu))))
def O6:ak:=[
 aI 4 (-1)]
def a105:aS:=⟨[.tmp 4],(bbu O2 (.seq (bbu O3 (.block 0 (.loop sO))) (bbu O6 .ret)))⟩
def Zv:ak:=[
 qac 2 6 0,
 cE 3 false]
def Zw:ak:=[
 bm 4 6 1,
 bm 5 6 2,
 cQ 6 33 4 5,
 mV 3 6]
def aiM:aS:=⟨[.tmp 3],(bbu Zv (bbu Zw .ret))⟩
def Zx:ak:=[
 oP 6 (.mv (.c .ax))]
def Zy:ak:=[
 mV 8 0,
 mV 9 1,
 mV 10 2,
 mV 11 0,
 cK 12 11,
 oP 13 (.slice 6 (.t 8) (some (.t 9)) (some (.t 10)) (some (.t 12)))]
def Zz:ak:=[
 mV 14 1,
 mV 15 2,
 oP 16 (.bin .eql (.t 14) (.t 15))]
def aiN:ak:=[
 mV 17 0,
 mV 6 17]
def ZA:ak:=[
 mV 18 0,
 cK 19 18,
 mV 7 19]
def ZB:ak:=[
 mV 20 0,
 mV 21 1,
 oP 22 (.slice 6 (.t 20) none (some (.t 21)) none),
 mV 23 0,
 mV 24 2,
 oP 25 (.slice 6 (.t 23) (some (.t 24)) none none),
 qab 26 6 88 22 25,
 mV 0 26]
def acS:List Nat:=[0,0,3,0,0,24,63,127]
def ZC:ak:=[
 mV 27 0,
 mV 28 0,
 cK 29 28,
 mV 30 7,
 oP 31 (.slice 6 (.t 27) (some (.t 29)) (some (.t 30)) none),
 oN (.clear 6 bA (.t 31))]
def ZD:ak:=[
 mV 32 0,
 mV 6 32]
def a107:aS:=⟨[.tmp 6],(bbu Zx (bbu Zy (.seq (bbu Zz (bbv 16 (bbu aiN .ret) .skip)) (bbu ZA (.seq (.draw ZB acS) (bbu ZC (bbu ZD .ret)))))))⟩
def xC:ak:=[
 qac 2 6 0,
 qac 3 6 1,
 aI 4 0]
def xD:ak:=[
 aV 5 0 2,
 aP 6 1 5,
 oP 7 (.bin .neq (.t 6) (.c (.int .i64 1))),
 mV 8 7,
 cM 9 0 3 8 false,
 cy 10 1 9 8 false,
 oG 11 (.bin .neq (.t 10) (.c (.int .i64 5))) 8 false,
 db 12 8 11,
 mV 13 12,
 cM 14 1 2 13 false,
 cy 15 1 14 13 false,
 oG 16 (.bin .lss (.t 15) (.c (.int .i64 1))) 13 false,
 db 17 13 16,
 mV 18 17,
 cM 19 1 2 18 false,
 cy 20 1 19 18 false,
 cM 21 5 3 18 false,
 cy 22 1 21 18 false,
 oG 23 (.len false (.t 22)) 18 false,
 oG 24 (.bin .gtr (.t 20) (.t 23)) 18 false,
 db 25 18 24]
def Cw:ak:=[
 aI 4 (-1)]
def ZE:ak:=[
 aV 26 1 2,
 aP 27 1 26,
 oP 28 (.bin .sub (.t 27) (.c (.int .i64 1))),
 mV 4 28]
def O7:aS:=⟨[.tmp 4],(bbu xC (.seq (bbu xD (bbv 25 (bbu Cw .ret) .skip)) (bbu ZE .ret)))⟩
def Gr:ak:=[
 qac 1 6 0,
 qaf 2,
 qaf 3,
 cE 4 false]
def Gs:ak:=[
 aV 6 0 1,
 aP 7 1 6,
 oP 8 (.bin .neq (.t 7) (.c (.int .i64 7))),
 mV 9 8,
 cM 10 5 1 9 false,
 cy 11 1 10 9 false,
 oG 12 (.len false (.t 11)) 9 false,
 oG 13 (.bin .lss (.t 12) (.c (.int .i64 2))) 9 false,
 db 14 9 13]
def Gt:ak:=[
 qae 15,
 qae 16,
 aO 6 2 15,
 aO 6 3 16,
 cE 4 false]
def Gu:ak:=[
 bm 17 6 1,
 bT 18 39 17,
 qaf 5,
 aO 6 5 18]
def Gv:ak:=[
 aV 19 5 5,
 aP 20 1 19,
 cK 21 20,
 cq 22 21 2]
def MI:ak:=[
 aV 23 5 5,
 aP 24 1 23,
 dh 25 6 24 0,
 bm 26 6 25,
 aV 27 5 5,
 aP 28 1 27,
 dh 29 6 28 1,
 bm 30 6 29,
 aO 6 2 26,
 aO 6 3 30,
 cE 4 true]
def acT:List Nat:=[0,1,3,7,0,16,48,112,15,511,1023]
def MJ:ak:=[
 aV 31 5 5,
 aP 32 1 31,
 dh 33 6 32 0,
 bm 34 6 33,
 aV 35 5 5,
 aP 36 1 35,
 oP 37 (.slice 6 (.t 36) (some (.c (.int .i64 1))) none none),
 oP 38 (.build bA [(0,1,(.c (.int .i64 7))),(5,1,(.t 37))]),
 aO 6 2 34,
 aO 6 3 38,
 cE 4 true]
def acU:List Nat:=[0,1,3,7,0,16,48,112,15,511,1023]
def Wh:aS:=⟨[.cell 2 true 6,.cell 3 true 6,.tmp 4],(bbu Gr (.seq (bbu Gs (bbv 14 (bbu Gt .ret) .skip)) (bbu Gu (.seq (bbu Gv (bbv 22 (.seq (.draw MI acT) .ret) .skip)) (.seq (.draw MJ acU) .ret)))))⟩
def ub:ak:=[
 qac 3 6 1,
 qaf 4,
 aI 5 0]
def ud:ak:=[
 mV 9 0]
def ue:ak:=[
 bF 11 9 [105,110,116,101,103,101,114,95,116,111,95,108,105,115,116],
 mV 10 11]
def MP:ak:=[
 aV 12 0 3,
 aP 13 1 12,
 cq 14 13 1]
def Wj:ak:=[
 aV 15 1 3,
 aP 16 1 15,
 oP 17 (.call 133 [(.t 16),(.c (.int .i64 10))]),
 oP 18 (.conv .s2r (.t 17)),
 bT 19 132 18,
 aO 6 4 19,
 aI 5 0]
def BP:ak:=[
 bF 21 9 [97,116,111,109,95,116,111,95,108,105,115,116],
 mV 20 21]
def MQ:ak:=[
 aV 22 0 3,
 aP 23 1 22,
 cq 24 23 2]
def Wk:ak:=[
 oP 6 (.mv (.c .ax))]
def Wl:ak:=[
 aV 25 2 3,
 aP 26 1 25,
 oP 27 (.range (.t 26))]
def Ge:ak:=[
 oP 28 (.next (.t 27)),
 bS 29 28 0]
def QO:ak:=[
 bS 30 28 2,
 mV 8 30]
def QP:ak:=[
 mV 31 6,
 mV 32 8,
 oP 33 (.lit true 1 1 [(.int .i32 0)] [(0,1,(.t 32))]),
 qab 34 1 4 31 33,
 mV 6 34]
def q_:AC:=(bbu Ge (.seq (bbv 29 .skip (.exit 1)) (.block 2 (bbu QO (.ops QP)))))
def QZ:ak:=[
 mV 35 6,
 bT 36 132 35,
 aO 6 4 36,
 aI 5 0]
def GJ:ak:=[
 bF 38 9 [108,105,115,116,95,116,111,95,105,110,116,101,103,101,114],
 mV 37 38]
def GK:ak:=[
 bm 39 6 3,
 bT 40 134 39,
 bS 41 40 0,
 bS 42 40 1,
 aO 6 4 41,
 mV 5 42]
def GL:ak:=[
 bF 44 9 [108,105,115,116,95,116,111,95,97,116,111,109],
 mV 43 44]
def GM:ak:=[
 bm 45 6 3,
 bT 46 135 45,
 bS 47 46 0,
 bS 48 46 1,
 aO 6 4 47,
 mV 5 48]
def GH:ak:=[
 qae 49,
 aO 6 4 49,
 aI 5 261]
def Ke:aS:=⟨[.cell 4 true 6,.tmp 5],(bbu ub (.seq (bbu ud (.block 0 (bbu ue (bbv 10 (bbu MP (bbv 14 (bbu Wj .ret) .skip)) (bbu BP (bbv 20 (bbu MQ (bbv 24 (bbu Wk (.seq (bbu Wl (.block 1 (.loop q_))) (bbu QZ .ret))) .skip)) (bbu GJ (bbv 37 (bbu GK .ret) (bbu GL (bbv 43 (bbu GM .ret) .skip)))))))))) (bbu GH .ret)))⟩
def O8:ak:=[
 qac 1 6 0,
 qaf 2]
def O9:ak:=[
 aV 3 5 1,
 aP 4 1 3,
 cK 5 4,
 cq 6 5 2]
def ZF:ak:=[
 aV 7 5 1,
 aP 8 1 7,
 dh 9 6 8 1,
 bm 10 6 9,
 aO 6 2 10]
def ZG:ak:=[
 aV 11 5 1,
 aP 12 1 11,
 oP 13 (.slice 6 (.t 12) (some (.c (.int .i64 1))) none none),
 oP 14 (.build bA [(0,1,(.c (.int .i64 7))),(5,1,(.t 13))]),
 aO 6 2 14]
def acV:aS:=⟨[.cell 2 true 6],(bbu O8 (.seq (bbu O9 (bbv 6 (bbu ZF .ret) .skip)) (bbu ZG .ret)))⟩
def uh:ak:=[
 qaf 4,
 aI 5 0]
def ui:ak:=[
 mV 7 0,
 cq 8 7 0,
 mV 9 8,
 br 10 1 9 false,
 gR 11 10 0 9 false,
 db 12 9 11]
def uj:ak:=[
 oP 13 (.call 22 [(.c (.int .i64 0))]),
 aO 6 4 13,
 aI 5 0]
def uk:ak:=[
 mV 14 0,
 mV 15 1,
 oP 16 (.bin .mul (.t 14) (.t 15)),
 mV 6 16]
def um:ak:=[
 mV 17 6,
 mV 18 1,
 oP 19 (.bin .quo (.t 17) (.t 18)),
 mV 20 0,
 oP 21 (.bin .neq (.t 19) (.t 20)),
 mV 22 21,
 br 23 6 22 false,
 oG 24 (.bin .lss (.t 23) (.c (.int .i64 (-576460752303423488)))) 22 false,
 db 25 22 24,
 mV 26 25,
 br 27 6 26 false,
 oG 28 (.bin .gtr (.t 27) (.c (.int .i64 576460752303423487))) 26 false,
 db 29 26 28]
def uo:ak:=[
 qae 30,
 aO 6 4 30,
 aI 5 262]
def uq:ak:=[
 mV 31 6,
 bT 32 22 31,
 aO 6 4 32,
 aI 5 0]
def Km:aS:=⟨[.cell 4 true 6,.tmp 5],(bbu uh (.seq (bbu ui (bbv 12 (bbu uj .ret) .skip)) (bbu uk (.seq (bbu um (bbv 29 (bbu uo .ret) .skip)) (bbu uq .ret)))))⟩
def xg:ak:=[
 qac 1 6 0,
 cE 2 false,
 cE 3 false]
def xh:ak:=[
 aV 4 2 1,
 aP 5 1 4,
 bF 6 5 [116,114,117,101],
 aV 7 0 1,
 aP 8 1 7,
 cq 9 8 2,
 mV 10 9,
 cM 11 2 1 10 true,
 cy 12 1 11 10 true,
 oG 13 (.bin .eql (.t 12) (.c (.str [116,114,117,101]))) 10 true,
 br 14 13 10 true,
 cM 15 2 1 14 false,
 cy 16 1 15 14 false,
 oG 17 (.bin .eql (.t 16) (.c (.str [102,97,108,115,101]))) 14 false,
 oG 18 (.pick (.t 14) (.c (.bool true)) (.t 17)) 10 true,
 c9 19 10 18,
 mV 2 6,
 mV 3 19]
def acW:List Nat:=[0,1,3,0,8,24,56,120,248,504,1016,2040,4088,8184,16376,32760,2047,131071]
def LS:aS:=⟨[.tmp 2,.tmp 3],(bbu xg (.seq (.draw xh acW) .ret))⟩
def Cx:ak:=[
 qac 1 6 0,
 oP 2 (.mv (.c .ax)),
 cE 3 false]
def Cy:ak:=[
 aV 4 0 1,
 aP 5 1 4,
 cq 6 5 6]
def Cz:ak:=[
 oP 2 (.mv (.c .ax)),
 cE 3 true]
def CA:ak:=[
 aV 7 0 1,
 aP 8 1 7,
 oP 9 (.bin .neq (.t 8) (.c (.int .i64 7))),
 mV 10 9,
 cM 11 5 1 10 false,
 cy 12 1 11 10 false,
 cM 13 5 1 10 false,
 cy 14 1 13 10 false,
 oG 15 (.len false (.t 14)) 10 false,
 oG 16 (.bin .sub (.t 15) (.c (.int .i64 1))) 10 false,
 oG 17 (.cL 6 (.t 12) (.t 16)) 10 false,
 cM 18 0 17 10 false,
 cy 19 1 18 10 false,
 oG 20 (.bin .neq (.t 19) (.c (.int .i64 6))) 10 false,
 db 21 10 20]
def CB:ak:=[
 oP 2 (.mv (.c .ax)),
 cE 3 false]
def CC:ak:=[
 aV 22 5 1,
 aP 23 1 22,
 aV 24 5 1,
 aP 25 1 24,
 cK 26 25,
 oP 27 (.bin .sub (.t 26) (.c (.int .i64 1))),
 oP 28 (.slice 6 (.t 23) none (some (.t 27)) none),
 mV 2 28,
 cE 3 true]
def a116:aS:=⟨[.tmp 2,.tmp 3],(bbu Cx (.seq (bbu Cy (bbv 6 (bbu Cz .ret) .skip)) (.seq (bbu CA (bbv 21 (bbu CB .ret) .skip)) (bbu CC .ret))))⟩
def O_:ak:=[
 qaf 4,
 aI 5 0]
def Pa:ak:=[
 mV 11 1,
 dh 12 6 11 0,
 bm 13 6 12,
 qaf 6,
 aO 6 6 13]
def Pb:ak:=[
 bm 15 6 6,
 bT 16 116 15,
 mV 14 16,
 bS 17 14 0,
 bS 18 14 1,
 mV 7 17,
 mV 8 18]
def Pc:ak:=[
 mV 19 0]
def Pd:ak:=[
 bF 21 19 [104,100],
 mV 20 21]
def Pe:ak:=[
 bF 22 19 [116,108],
 mV 20 22]
def Pf:ak:=[
 aV 23 0 6,
 aP 24 1 23,
 oP 25 (.bin .neq (.t 24) (.c (.int .i64 7)))]
def Pg:ak:=[
 qae 26,
 aO 6 4 26,
 aI 5 261]
def Ph:ak:=[
 mV 27 0,
 bF 28 27 [104,100]]
def Pj:ak:=[
 aV 29 5 6,
 aP 30 1 29,
 dh 31 6 30 0,
 bm 32 6 31,
 aO 6 4 32,
 aI 5 0]
def Hw:ak:=[
 aV 33 5 6,
 aP 34 1 33,
 cK 35 34,
 cq 36 35 2]
def Hx:ak:=[
 aV 37 5 6,
 aP 38 1 37,
 dh 39 6 38 1,
 bm 40 6 39,
 aO 6 4 40,
 aI 5 0]
def Hy:ak:=[
 aV 41 5 6,
 aP 42 1 41,
 oP 43 (.slice 6 (.t 42) (some (.c (.int .i64 1))) none none),
 oP 44 (.build bA [(0,1,(.c (.int .i64 7))),(5,1,(.t 43))]),
 aO 6 4 44,
 aI 5 0]
def Hz:ak:=[
 bF 46 19 [108,101,110,103,116,104],
 mV 45 46]
def HA:ak:=[
 mV 47 8,
 oP 48 (.un .not (.t 47))]
def HB:ak:=[
 qae 49,
 aO 6 4 49,
 aI 5 261]
def HC:ak:=[
 mV 50 7,
 cK 51 50,
 bT 52 22 51,
 aO 6 4 52,
 aI 5 0]
def HD:ak:=[
 bF 54 19 [108,105,115,116,95,116,111,95,116,117,112,108,101],
 mV 53 54]
def HE:ak:=[
 mV 55 8,
 oP 56 (.un .not (.t 55))]
def HF:ak:=[
 qae 57,
 aO 6 4 57,
 aI 5 261]
def HG:ak:=[
 mV 58 7,
 oP 59 (.build bA [(0,1,(.c (.int .i64 5))),(5,1,(.t 58))]),
 aO 6 4 59,
 aI 5 0]
def HH:ak:=[
 bF 61 19 [116,117,112,108,101,95,115,105,122,101],
 mV 60 61]
def HI:ak:=[
 bF 62 19 [116,117,112,108,101,95,116,111,95,108,105,115,116],
 mV 60 62]
def HJ:ak:=[
 aV 63 0 6,
 aP 64 1 63,
 oP 65 (.bin .neq (.t 64) (.c (.int .i64 5)))]
def HK:ak:=[
 qae 66,
 aO 6 4 66,
 aI 5 261]
def HL:ak:=[
 mV 67 0,
 bF 68 67 [116,117,112,108,101,95,115,105,122,101]]
def HM:ak:=[
 aV 69 5 6,
 aP 70 1 69,
 cK 71 70,
 bT 72 22 71,
 aO 6 4 72,
 aI 5 0]
def HN:ak:=[
 aV 73 5 6,
 aP 74 1 73,
 oP 75 (.build bA [(0,1,(.c (.int .i64 6)))]),
 cQ 76 41 74 75,
 aO 6 4 76,
 aI 5 0]
def HO:ak:=[
 mV 77 1,
 cK 78 77,
 cq 79 78 1]
def HP:ak:=[
 mV 80 0,
 bm 81 6 6,
 mV 82 7,
 mV 83 8,
 oP 84 (.call 136 [(.t 80),(.t 81),(.t 82),(.t 83)]),
 bS 85 84 0,
 bS 86 84 1,
 aO 6 4 85,
 mV 5 86]
def HQ:ak:=[
 mV 87 1,
 dh 88 6 87 1,
 bm 89 6 88,
 qaf 9,
 aO 6 9 89]
def HR:ak:=[
 aV 90 0 6,
 aP 91 1 90,
 oP 92 (.bin .neq (.t 91) (.c (.int .i64 1))),
 mV 93 92,
 cM 94 0 9 93 false,
 cy 95 1 94 93 false,
 oG 96 (.bin .neq (.t 95) (.c (.int .i64 5))) 93 false,
 db 97 93 96,
 mV 98 97,
 cM 99 1 6 98 false,
 cy 100 1 99 98 false,
 oG 101 (.bin .lss (.t 100) (.c (.int .i64 1))) 98 false,
 db 102 98 101,
 mV 103 102,
 cM 104 1 6 103 false,
 cy 105 1 104 103 false,
 cM 106 5 9 103 false,
 cy 107 1 106 103 false,
 oG 108 (.len false (.t 107)) 103 false,
 oG 109 (.bin .gtr (.t 105) (.t 108)) 103 false,
 db 110 103 109]
def HS:ak:=[
 qae 111,
 aO 6 4 111,
 aI 5 261]
def HT:ak:=[
 mV 112 0,
 bF 113 112 [101,108,101,109,101,110,116]]
def HU:ak:=[
 aV 114 5 9,
 aP 115 1 114,
 aV 116 1 6,
 aP 117 1 116,
 oP 118 (.bin .sub (.t 117) (.c (.int .i64 1))),
 dV 119 6 115 118,
 bm 120 6 119,
 aO 6 4 120,
 aI 5 0]
def HV:ak:=[
 oP 121 (.lit true 6 0 [] []),
 aV 122 5 9,
 aP 123 1 122,
 qab 124 6 88 121 123,
 mV 10 124]
def zM:ak:=[
 mV 125 10,
 aV 126 1 6,
 aP 127 1 126,
 oP 128 (.bin .sub (.t 127) (.c (.int .i64 1))),
 mV 129 1,
 dh 130 6 129 2,
 bm 131 6 130,
 dV 132 6 125 128,
 aO 6 132 131]
def ZH:List Nat:=[0,0,2,6,0,16,48,127,255]
def zN:ak:=[
 mV 133 10,
 oP 134 (.build bA [(0,1,(.c (.int .i64 5))),(5,1,(.t 133))]),
 aO 6 4 134,
 aI 5 0]
def a117:aS:=⟨[.cell 4 true 6,.tmp 5],(bbu O_ (bbu Pa (bbu Pb (.seq (bbu Pc (.block 0 (.seq (bbu Pd (bbv 20 .skip (.ops Pe))) (bbv 20 (.seq (bbu Pf (bbv 25 (bbu Pg .ret) .skip)) (.seq (bbu Ph (bbv 28 (bbu Pj .ret) .skip)) (.seq (bbu Hw (bbv 36 (bbu Hx .ret) .skip)) (bbu Hy .ret)))) (bbu Hz (bbv 45 (.seq (bbu HA (bbv 48 (bbu HB .ret) .skip)) (bbu HC .ret)) (bbu HD (bbv 53 (.seq (bbu HE (bbv 56 (bbu HF .ret) .skip)) (bbu HG .ret)) (.seq (bbu HH (bbv 60 .skip (.ops HI))) (bbv 60 (.seq (bbu HJ (bbv 65 (bbu HK .ret) .skip)) (.seq (bbu HL (bbv 68 (bbu HM .ret) .skip)) (bbu HN .ret))) .skip)))))))))) (.seq (bbu HO (bbv 79 (bbu HP .ret) .skip)) (bbu HQ (.seq (bbu HR (bbv 110 (bbu HS .ret) .skip)) (.seq (bbu HT (bbv 113 (bbu HU .ret) .skip)) (bbu HV (.seq (.draw zM ZH) (bbu zN .ret)))))))))))⟩
def aiS:ak:=[
 oP 2 (.mv (.c .ax))]
def aiT:ak:=[
 oP 3 (.mv (.c (.str [105,115,99,110,97])))]
def aiU:ak:=[
 oP 7 (.makeSlice 1 1 [(.bool false)] (.c (.int .i64 5)) (.c (.int .i64 5))),
 mV 4 7]
def aiV:ak:=[
 aI 5 0]
def aiW:ak:=[
 mV 8 5,
 oP 9 (.bin .lss (.t 8) (.c (.int .i64 5)))]
def aiX:ak:=[
 aI 6 0]
def aiY:ak:=[
 mV 12 6,
 mV 13 0,
 oP 14 (.len true (.t 13)),
 dQ 15 12 14]
def aiZ:ak:=[
 mV 18 4,
 mV 19 5,
 mV 20 4,
 mV 21 5,
 dV 22 1 20 21,
 aP 23 1 22,
 mV 24 23,
 br 25 3 24 false,
 br 26 5 24 false,
 oG 27 (.dD (.t 25) (.t 26)) 24 false,
 br 28 0 24 false,
 br 29 6 24 false,
 oG 30 (.dD (.t 28) (.t 29)) 24 false,
 oG 31 (.bin .eql (.t 27) (.t 30)) 24 false,
 db 32 24 31,
 dV 33 1 18 19,
 aO 1 33 32]
def acX:List Nat:=[0,0,0,0,12,28,60,124,124,508,124,124,3196,8188,16380,32767,65535]
def ai0:ak:=[
 mV 16 6,
 dS 17 16 1,
 mV 6 17]
def acY:AC:=(.seq (bbu aiY (bbv 15 .skip (.exit 2))) (.seq (.block 3 (.draw aiZ acX)) (.ops ai0)))
def acZ:ak:=[
 mV 10 5,
 dS 11 10 1,
 mV 5 11]
def ZI:AC:=(.seq (bbu aiW (bbv 9 .skip (.exit 0))) (.seq (.block 1 (bbu aiX (.block 2 (.loop acY)))) (.ops acZ)))
def ac0:ak:=[
 mV 34 4,
 mV 2 34]
def a119:aS:=⟨[.tmp 2],(bbu aiS (bbu aiT (bbu aiU (.seq (bbu aiV (.block 0 (.loop ZI))) (bbu ac0 .ret)))))⟩
def rJ:ak:=[
 aI 4 0]
def rK:ak:=[
 mV 10 0,
 mV 11 1,
 oP 12 (.dD (.t 10) (.t 11)),
 mV 5 12]
def rL:ak:=[
 aI 6 0]
def rM:ak:=[
 aI 7 0]
def rN:ak:=[
 mV 14 5,
 oP 15 (.bin .lss (.t 14) (.c (.int .u8 128))),
 mV 13 15]
def Pk:ak:=[
 aI 4 1]
def uH:ak:=[
 mV 17 5,
 oP 18 (.bin .geq (.t 17) (.c (.int .u8 194))),
 mV 19 18,
 br 20 5 19 true,
 oG 21 (.bin .leq (.t 20) (.c (.int .u8 223))) 19 true,
 c9 22 19 21,
 mV 16 22]
def Pl:ak:=[
 mV 23 5,
 oP 24 (.conv (.int .i64) (.t 23)),
 oP 25 (.bin .sub (.t 24) (.c (.int .i64 192))),
 aI 6 2,
 mV 7 25]
def xE:ak:=[
 mV 27 5,
 oP 28 (.bin .geq (.t 27) (.c (.int .u8 224))),
 mV 29 28,
 br 30 5 29 true,
 oG 31 (.bin .leq (.t 30) (.c (.int .u8 239))) 29 true,
 c9 32 29 31,
 mV 26 32]
def Pm:ak:=[
 mV 33 5,
 oP 34 (.conv (.int .i64) (.t 33)),
 oP 35 (.bin .sub (.t 34) (.c (.int .i64 224))),
 aI 6 3,
 mV 7 35]
def wF:ak:=[
 mV 37 5,
 oP 38 (.bin .geq (.t 37) (.c (.int .u8 240))),
 mV 39 38,
 br 40 5 39 true,
 oG 41 (.bin .leq (.t 40) (.c (.int .u8 244))) 39 true,
 c9 42 39 41,
 mV 36 42]
def HW:ak:=[
 mV 43 5,
 oP 44 (.conv (.int .i64) (.t 43)),
 oP 45 (.bin .sub (.t 44) (.c (.int .i64 240))),
 aI 6 4,
 mV 7 45]
def zU:ak:=[
 aI 4 0]
def sP:ak:=[
 mV 46 1,
 mV 47 6,
 oP 48 (.bin .add (.t 46) (.t 47)),
 mV 49 0,
 oP 50 (.len true (.t 49)),
 oP 51 (.bin .gtr (.t 48) (.t 50))]
def wG:ak:=[
 aI 4 0]
def wH:ak:=[
 aI 8 1]
def wI:ak:=[
 mV 52 8,
 mV 53 6,
 dQ 54 52 53]
def zV:ak:=[
 mV 57 0,
 mV 58 1,
 mV 59 8,
 oP 60 (.bin .add (.t 58) (.t 59)),
 oP 61 (.dD (.t 57) (.t 60)),
 mV 9 61]
def zW:ak:=[
 mV 62 9,
 oP 63 (.bin .lss (.t 62) (.c (.int .u8 128))),
 mV 64 63,
 br 65 9 64 false,
 oG 66 (.bin .gtr (.t 65) (.c (.int .u8 191))) 64 false,
 db 67 64 66]
def HX:ak:=[
 aI 4 0]
def R8:ak:=[
 mV 68 7,
 oP 69 (.bin .mul (.t 68) (.c (.int .i64 64))),
 mV 70 9,
 oP 71 (.conv (.int .i64) (.t 70)),
 oP 72 (.bin .add (.t 69) (.t 71)),
 oP 73 (.bin .sub (.t 72) (.c (.int .i64 128))),
 mV 7 73]
def R9:ak:=[
 mV 55 8,
 dS 56 55 1,
 mV 8 56]
def jF:AC:=(.seq (bbu wI (bbv 54 .skip (.exit 1))) (.seq (.block 2 (bbu zV (.seq (bbu zW (bbv 67 (bbu HX .ret) .skip)) (.ops R8)))) (.ops R9)))
def iT:ak:=[
 mV 74 6,
 cq 75 74 3,
 mV 76 75,
 br 77 7 76 true,
 oG 78 (.bin .lss (.t 77) (.c (.int .i64 2048))) 76 true,
 br 79 78 76 true,
 br 80 7 79 false,
 oG 81 (.bin .geq (.t 80) (.c (.int .i64 55296))) 79 false,
 br 82 81 79 false,
 br 83 7 82 true,
 oG 84 (.bin .leq (.t 83) (.c (.int .i64 57343))) 82 true,
 oG 85 (.pick (.t 82) (.t 84) (.c (.bool false))) 79 false,
 oG 86 (.pick (.t 79) (.c (.bool true)) (.t 85)) 76 true,
 c9 87 76 86,
 mV 88 87,
 br 89 6 88 false,
 gR 90 89 4 88 false,
 br 91 90 88 false,
 br 92 7 91 true,
 oG 93 (.bin .lss (.t 92) (.c (.int .i64 65536))) 91 true,
 br 94 93 91 true,
 br 95 7 94 false,
 oG 96 (.bin .gtr (.t 95) (.c (.int .i64 1114111))) 94 false,
 oG 97 (.pick (.t 94) (.c (.bool true)) (.t 96)) 91 true,
 oG 98 (.pick (.t 91) (.t 97) (.c (.bool false))) 88 false,
 db 99 88 98]
def mQ:ak:=[
 aI 4 0]
def mS:ak:=[
 mV 100 6,
 mV 4 100]
def ac1:aS:=⟨[.tmp 4],(bbu rJ (bbu rK (bbu rL (bbu rM (.seq (.block 0 (bbu rN (bbv 13 (bbu Pk .ret) (bbu uH (bbv 16 (.ops Pl) (bbu xE (bbv 26 (.ops Pm) (bbu wF (bbv 36 (.ops HW) (bbu zU .ret)))))))))) (.seq (bbu sP (bbv 51 (bbu wG .ret) .skip)) (.seq (bbu wH (.block 1 (.loop jF))) (.seq (bbu iT (bbv 99 (bbu mQ .ret) .skip)) (bbu mS .ret)))))))))⟩
def ai1:ak:=[
 cE 2 false]
def ai2:ak:=[
 mV 3 0,
 oP 4 (.bin .geq (.t 3) (.c (.int .u8 97))),
 mV 5 4,
 br 6 0 5 true,
 oG 7 (.bin .leq (.t 6) (.c (.int .u8 122))) 5 true,
 c9 8 5 7,
 mV 2 8]
def ai3:aS:=⟨[.tmp 2],(bbu ai1 (bbu ai2 .ret))⟩
def ZJ:ak:=[
 cE 2 false]
def ZK:ak:=[
 oP 5 (.lit true 1 19 [(.str []),(.str []),(.str []),(.str []),(.str []),(.str []),(.str []),(.str []),(.str []),(.str []),(.str []),(.str []),(.str []),(.str []),(.str []),(.str []),(.str []),(.str []),(.str [])] [(0,1,(.c (.str [97,102,116,101,114]))),(1,1,(.c (.str [97,110,100]))),(2,1,(.c (.str [97,110,100,97,108,115,111]))),(3,1,(.c (.str [98,101,103,105,110]))),(4,1,(.c (.str [99,97,115,101]))),(5,1,(.c (.str [99,97,116,99,104]))),(6,1,(.c (.str [100,105,118]))),(7,1,(.c (.str [101,110,100]))),(8,1,(.c (.str [102,117,110]))),(9,1,(.c (.str [105,102]))),(10,1,(.c (.str [110,111,116]))),(11,1,(.c (.str [111,102]))),(12,1,(.c (.str [111,114]))),(13,1,(.c (.str [111,114,101,108,115,101]))),(14,1,(.c (.str [114,101,99,101,105,118,101]))),(15,1,(.c (.str [114,101,109]))),(16,1,(.c (.str [116,114,121]))),(17,1,(.c (.str [119,104,101,110]))),(18,1,(.c (.str [120,111,114])))]),
 mV 3 5]
def ZL:ak:=[
 aI 4 0]
def HY:ak:=[
 mV 6 4,
 mV 7 3,
 cK 8 7,
 dQ 9 6 8]
def Pn:ak:=[
 mV 12 3,
 mV 13 4,
 dV 14 1 12 13,
 aP 15 1 14,
 mV 16 0,
 oP 17 (.bin .eql (.t 15) (.t 16))]
def ZM:ak:=[
 cE 2 true]
def ZN:ak:=[
 mV 10 4,
 dS 11 10 1,
 mV 4 11]
def wJ:AC:=(.seq (bbu HY (bbv 9 .skip (.exit 0))) (.seq (.block 1 (bbu Pn (bbv 17 (bbu ZM .ret) .skip))) (.ops ZN)))
def ZO:ak:=[
 cE 2 false]
def ai4:aS:=⟨[.tmp 2],(bbu ZJ (bbu ZK (.seq (bbu ZL (.block 0 (.loop wJ))) (bbu ZO .ret))))⟩
def Xv:ak:=[
 cE 2 false]
def Xw:ak:=[
 mV 3 0,
 mV 4 0,
 oP 5 (.bin .neq (.t 3) (.t 4)),
 mV 2 5]
def ahL:aS:=⟨[.tmp 2],(bbu Xv (bbu Xw .ret))⟩
def XA:ak:=[
 cE 2 false]
def XB:ak:=[
 mV 3 0,
 mV 4 0,
 oP 5 (.bin .neq (.t 3) (.t 4)),
 mV 2 5]
def a124:aS:=⟨[.tmp 2],(bbu XA (bbu XB .ret))⟩
def XP:ak:=[
 cE 2 false]
def XQ:ak:=[
 mV 3 0,
 mV 4 0,
 oP 5 (.bin .neq (.t 3) (.t 4)),
 mV 2 5]
def ahN:aS:=⟨[.tmp 2],(bbu XP (bbu XQ .ret))⟩
def XF:ak:=[
 cE 2 false]
def XG:ak:=[
 mV 3 0,
 mV 4 0,
 oP 5 (.bin .neq (.t 3) (.t 4)),
 mV 2 5]
def ahM:aS:=⟨[.tmp 2],(bbu XF (bbu XG .ret))⟩
def XK:ak:=[
 cE 2 false]
def XL:ak:=[
 mV 3 0,
 mV 4 0,
 oP 5 (.bin .neq (.t 3) (.t 4)),
 mV 2 5]
def a127:aS:=⟨[.tmp 2],(bbu XK (bbu XL .ret))⟩
def ai5:ak:=[
 qaf 2]
def ai6:ak:=[
 mV 3 0,
 cK 4 3,
 cq 5 4 1]
def ai7:ak:=[
 mV 6 0,
 dh 7 6 6 0,
 bm 8 6 7,
 aO 6 2 8]
def ai8:ak:=[
 mV 9 0,
 oP 10 (.build bA [(0,1,(.c (.int .i64 7))),(5,1,(.t 9))]),
 aO 6 2 10]
def ac2:aS:=⟨[.cell 2 true 6],(bbu ai5 (.seq (bbu ai6 (bbv 5 (bbu ai7 .ret) .skip)) (bbu ai8 .ret)))⟩
def eV:ak:=[
 qac 2 6 0,
 oP 4 (.mv (.c .bL))]
def eW:ak:=[
 cE 5 false]
def eX:ak:=[
 aV 7 0 2,
 aP 8 1 7]
def eY:ak:=[
 cq 10 8 1,
 mV 9 10]
def BZ:ak:=[
 bm 11 6 2,
 oP 12 (.call 139 [(.t 11),(.c (.bool false)),(.c (.bool false)),(.c (.bool false))]),
 mV 5 12]
def gm:ak:=[
 cq 14 8 2,
 mV 13 14]
def G3:ak:=[
 bm 15 6 2,
 oP 16 (.call 139 [(.t 15),(.c (.bool true)),(.c (.bool false)),(.c (.bool false))]),
 mV 5 16]
def gX:ak:=[
 cq 18 8 3,
 mV 17 18]
def B1:ak:=[
 bm 19 6 2,
 oP 20 (.call 139 [(.t 19),(.c (.bool true)),(.c (.bool true)),(.c (.bool false))]),
 mV 21 20,
 cM 22 4 2 21 true,
 cy 23 1 22 21 true,
 oG 24 (.len false (.t 23)) 21 true,
 gR 25 24 3 21 true,
 c9 26 21 25,
 mV 5 26]
def jE:ak:=[
 cq 28 8 4,
 mV 27 28]
def v8:ak:=[
 bm 29 6 2,
 oP 30 (.call 139 [(.t 29),(.c (.bool true)),(.c (.bool true)),(.c (.bool false))]),
 mV 31 30,
 cM 32 4 2 31 true,
 cy 33 1 32 31 true,
 oG 34 (.len false (.t 33)) 31 true,
 gR 35 34 2 31 true,
 c9 36 31 35,
 mV 5 36]
def kh:ak:=[
 cq 38 8 5,
 mV 37 38]
def G5:ak:=[
 bm 39 6 2,
 oP 40 (.call 139 [(.t 39),(.c (.bool false)),(.c (.bool false)),(.c (.bool true))]),
 mV 5 40]
def mP:ak:=[
 cq 42 8 6,
 mV 41 42]
def G6:ak:=[
 bm 43 6 2,
 oP 44 (.call 139 [(.t 43),(.c (.bool false)),(.c (.bool false)),(.c (.bool false))]),
 mV 5 44]
def sH:ak:=[
 cq 46 8 7,
 mV 45 46]
def v_:ak:=[
 bm 47 6 2,
 oP 48 (.call 139 [(.t 47),(.c (.bool false)),(.c (.bool false)),(.c (.bool true))]),
 mV 49 48,
 cM 50 5 2 49 true,
 cy 51 1 50 49 true,
 oG 52 (.len false (.t 51)) 49 true,
 oG 53 (.bin .geq (.t 52) (.c (.int .i64 2))) 49 true,
 c9 54 49 53,
 mV 55 54,
 cM 56 5 2 55 true,
 cy 57 1 56 55 true,
 cM 58 5 2 55 true,
 cy 59 1 58 55 true,
 oG 60 (.len false (.t 59)) 55 true,
 oG 61 (.bin .sub (.t 60) (.c (.int .i64 1))) 55 true,
 oG 62 (.cL 6 (.t 57) (.t 61)) 55 true,
 cM 63 0 62 55 true,
 cy 64 1 63 55 true,
 oG 65 (.bin .neq (.t 64) (.c (.int .i64 7))) 55 true,
 c9 66 55 65,
 mV 5 66]
def dI:ak:=[
 mV 67 5,
 oP 68 (.un .not (.t 67))]
def iq:ak:=[
 mV 69 1,
 oP 70 (.call 129 [(.t 69),(.c (.int .i64 40)),(.c .bL)]),
 mV 4 70]
def ir:ak:=[
 oP 6 (.mv (.c .bL))]
def iu:ak:=[
 aV 71 0 2,
 aP 72 1 71]
def iv:ak:=[
 cq 74 72 1,
 mV 73 74]
def zR:ak:=[
 aV 75 1 2,
 aP 76 1 75,
 oP 77 (.bin .lss (.t 76) (.c (.int .i64 (-576460752303423488)))),
 mV 78 77,
 cM 79 1 2 78 false,
 cy 80 1 79 78 false,
 oG 81 (.bin .gtr (.t 80) (.c (.int .i64 576460752303423487))) 78 false,
 db 82 78 81]
def G2:ak:=[
 mV 83 1,
 oP 84 (.call 129 [(.t 83),(.c (.int .i64 2)),(.c .bL)]),
 mV 4 84]
def kg:ak:=[
 cq 86 72 2,
 mV 85 86]
def G4:ak:=[
 aV 88 2 2,
 aP 89 1 88,
 bT 90 140 89,
 mV 87 90,
 bS 91 87 0,
 bS 92 87 1,
 mV 6 92]
def mO:ak:=[
 cq 94 72 3,
 mV 93 94]
def sG:ak:=[
 cq 95 72 4,
 mV 93 95]
def v7:ak:=[
 aV 97 2 2,
 aP 98 1 97,
 bT 99 141 98,
 mV 96 99,
 bS 100 96 0,
 bS 101 96 1,
 bS 102 96 2,
 mV 6 102]
def jD:ak:=[
 mV 103 6,
 oP 104 (.eq true (.iface true) (.t 103) (.c .bL))]
def zS:ak:=[
 mV 105 1,
 mV 106 6,
 bT 107 142 106,
 mV 108 6,
 oP 109 (.call 129 [(.t 105),(.t 107),(.t 108)]),
 mV 4 109]
def mN:ak:=[
 oP 4 (.mv (.c .bL))]
def a130:aS:=⟨[.tmp 4],(bbu eV (bbu eW (.seq (bbu eX (.block 0 (bbu eY (bbv 9 (.ops BZ) (bbu gm (bbv 13 (.ops G3) (bbu gX (bbv 17 (.ops B1) (bbu jE (bbv 27 (.ops v8) (bbu kh (bbv 37 (.ops G5) (bbu mP (bbv 41 (.ops G6) (bbu sH (bbv 45 (.ops v_) .skip)))))))))))))))) (.seq (bbu dI (bbv 68 (bbu iq .ret) .skip)) (bbu ir (.seq (bbu iu (.block 1 (bbu iv (bbv 73 (bbu zR (bbv 82 (bbu G2 .ret) .skip)) (bbu kg (bbv 85 (.ops G4) (.seq (bbu mO (bbv 93 .skip (.ops sG))) (bbv 93 (.ops v7) .skip)))))))) (.seq (bbu jD (bbv 104 (bbu zS .ret) .skip)) (bbu mN .ret))))))))⟩
def ZP:ak:=[
 oP 2 (.mv (.c .ax))]
def ZQ:ak:=[
 aI 3 0]
def ZR:ak:=[
 mV 9 0,
 cK 10 9,
 aI 11 0]
def HZ:ak:=[
 dQ 12 11 10]
def Po:ak:=[
 dV 13 1 9 11,
 aP 14 1 13,
 mV 5 14]
def Pp:ak:=[
 mV 15 3,
 mV 16 5,
 cK 17 16,
 oP 18 (.bin .add (.t 15) (.t 17)),
 mV 3 18]
def Pq:ak:=[
 mV 19 3,
 oP 20 (.bin .lss (.t 19) (.c (.int .i64 0)))]
def aja:ak:=[
 oP 21 (.dU 9 (.c (.str [108,101,110,32,111,117,116,32,111,102,32,114,97,110,103,101]))),
 oN (.panic (.t 21))]
def Pr:ak:=[
 dS 22 11 1,
 mV 11 22]
def zX:AC:=(bbu HZ (.seq (bbv 12 .skip (.exit 0)) (.seq (.block 1 (bbu Po (bbu Pp (bbu Pq (bbv 20 (.ops aja) .skip))))) (.ops Pr))))
def R_:ak:=[
 mV 23 3,
 oP 24 (.call 143 [(.c .ax),(.t 23)]),
 mV 6 24]
def Sa:ak:=[
 mV 25 0,
 cK 26 25,
 aI 27 0]
def zY:ak:=[
 dQ 28 27 26]
def H0:ak:=[
 dV 29 1 25 27,
 aP 30 1 29,
 mV 8 30]
def H2:ak:=[
 mV 31 6,
 mV 32 8,
 qab 33 6 88 31 32,
 mV 6 33]
def H3:ak:=[
 dS 34 27 1,
 mV 27 34]
def wK:AC:=(bbu zY (.seq (bbv 28 .skip (.exit 2)) (.seq (.block 3 (bbu H0 (.ops H2))) (.ops H3))))
def Sb:ak:=[
 mV 35 6,
 mV 2 35]
def a131:aS:=⟨[.tmp 2],(bbu ZP (bbu ZQ (.seq (bbu ZR (.block 0 (.loop zX))) (bbu R_ (.seq (bbu Sa (.block 2 (.loop wK))) (bbu Sb .ret))))))⟩
def Ml:ak:=[
 qaf 2]
def Mm:ak:=[
 oP 3 (.mv (.c .ax))]
def Mn:ak:=[
 mV 6 0,
 cK 7 6,
 aI 8 0]
def Mk:ak:=[
 dQ 9 8 7]
def V6:ak:=[
 dV 10 1 6 8,
 aP 11 1 10,
 mV 5 11]
def V7:ak:=[
 mV 12 3,
 mV 13 5,
 oP 14 (.conv (.int .i64) (.t 13)),
 bT 15 59 14,
 oP 16 (.lit true 6 1 bA [(0,6,(.t 15))]),
 qab 17 6 88 12 16,
 mV 3 17]
def V8:ak:=[
 dS 18 8 1,
 mV 8 18]
def vT:AC:=(bbu Mk (.seq (bbv 9 .skip (.exit 0)) (.seq (.block 1 (bbu V6 (.ops V7))) (.ops V8))))
def Mo:ak:=[
 mV 19 3,
 oP 20 (.call 108 []),
 cQ 21 103 19 20,
 aO 6 2 21]
def abX:aS:=⟨[.cell 2 true 6],(bbu Ml (bbu Mm (.seq (bbu Mn (.block 0 (.loop vT))) (bbu Mo .ret))))⟩
def ri:ak:=[
 qac 1 6 0,
 qaf 2,
 aI 3 0]
def rj:ak:=[
 bm 12 6 1,
 bT 13 102 12,
 mV 11 13,
 bS 14 11 0,
 bS 15 11 1,
 mV 4 14,
 mV 5 15]
def rk:ak:=[
 mV 16 5,
 oP 17 (.un .not (.t 16)),
 mV 18 17,
 br 19 4 18 false,
 oG 20 (.len false (.t 19)) 18 false,
 gR 21 20 0 18 false,
 db 22 18 21]
def Gp:ak:=[
 qae 23,
 aO 6 2 23,
 aI 3 261]
def xr:ak:=[
 mV 24 4,
 dh 25 6 24 0,
 aV 26 0 25,
 aP 27 1 26,
 cq 28 27 1,
 mV 29 28,
 br 30 4 29 true,
 oG 31 (.cL 6 (.t 30) (.c (.int .i64 0))) 29 true,
 cM 32 1 31 29 true,
 cy 33 1 32 29 true,
 gR 34 33 45 29 true,
 c9 35 29 34,
 mV 6 35]
def xt:ak:=[
 mV 36 6,
 mV 37 36,
 br 38 4 37 false,
 oG 39 (.cL 6 (.t 38) (.c (.int .i64 0))) 37 false,
 cM 40 0 39 37 false,
 cy 41 1 40 37 false,
 gR 42 41 1 37 false,
 br 43 42 37 false,
 br 44 4 43 true,
 oG 45 (.cL 6 (.t 44) (.c (.int .i64 0))) 43 true,
 cM 46 1 45 43 true,
 cy 47 1 46 43 true,
 gR 48 47 43 43 true,
 oG 49 (.pick (.t 43) (.t 48) (.c (.bool false))) 37 false,
 db 50 37 49]
def Gq:ak:=[
 mV 51 4,
 oP 52 (.slice 6 (.t 51) (some (.c (.int .i64 1))) none none),
 mV 4 52]
def Gl:ak:=[
 mV 53 4,
 cK 54 53,
 cq 55 54 0]
def MF:ak:=[
 qae 56,
 aO 6 2 56,
 aI 3 261]
def MG:ak:=[
 aI 7 0,
 cE 8 false]
def Gm:ak:=[
 mV 57 4,
 cK 58 57,
 aI 59 0]
def pJ:ak:=[
 dQ 60 59 58]
def sw:ak:=[
 dV 61 6 57 59,
 bm 62 6 61,
 qaf 10,
 aO 6 10 62]
def sy:ak:=[
 aV 63 0 10,
 aP 64 1 63,
 oP 65 (.bin .neq (.t 64) (.c (.int .i64 1))),
 mV 66 65,
 cM 67 1 10 66 false,
 cy 68 1 67 66 false,
 oG 69 (.bin .lss (.t 68) (.c (.int .i64 48))) 66 false,
 db 70 66 69,
 mV 71 70,
 cM 72 1 10 71 false,
 cy 73 1 72 71 false,
 oG 74 (.bin .gtr (.t 73) (.c (.int .i64 57))) 71 false,
 db 75 71 74]
def zD:ak:=[
 qae 76,
 aO 6 2 76,
 aI 3 261]
def F2:ak:=[
 mV 77 7,
 oP 78 (.bin .gtr (.t 77) (.c (.int .i64 576460752303423488)))]
def QI:ak:=[
 cE 8 true]
def QJ:ak:=[
 mV 79 7,
 oP 80 (.bin .mul (.t 79) (.c (.int .i64 10))),
 aV 81 1 10,
 aP 82 1 81,
 oP 83 (.bin .add (.t 80) (.t 82)),
 oP 84 (.bin .sub (.t 83) (.c (.int .i64 48))),
 mV 7 84]
def F3:ak:=[
 dS 85 59 1,
 mV 59 85]
def jz:AC:=(bbu pJ (.seq (bbv 60 .skip (.exit 0)) (.seq (.block 1 (bbu sw (.seq (bbu sy (bbv 75 (bbu zD .ret) .skip)) (.seq (bbu F2 (bbv 78 (bbu QI (.exit 1)) .skip)) (.ops QJ))))) (.ops F3))))
def zI:ak:=[
 mV 86 6]
def Gn:ak:=[
 mV 87 7,
 oP 88 (.un .neg (.t 87)),
 mV 7 88]
def sA:ak:=[
 mV 89 8,
 mV 90 89,
 br 91 7 90 false,
 oG 92 (.bin .lss (.t 91) (.c (.int .i64 (-576460752303423488)))) 90 false,
 db 93 90 92,
 mV 94 93,
 br 95 7 94 false,
 oG 96 (.bin .gtr (.t 95) (.c (.int .i64 576460752303423487))) 94 false,
 db 97 94 96]
def vS:ak:=[
 qae 98,
 aO 6 2 98,
 aI 3 262]
def F4:ak:=[
 mV 99 7,
 bT 100 59 99,
 aO 6 2 100,
 aI 3 0]
def Wg:aS:=⟨[.cell 2 true 6,.tmp 3],(bbu ri (bbu rj (.seq (bbu rk (bbv 22 (bbu Gp .ret) .skip)) (bbu xr (.seq (bbu xt (bbv 50 (.ops Gq) .skip)) (.seq (bbu Gl (bbv 55 (bbu MF .ret) .skip)) (bbu MG (.seq (bbu Gm (.block 0 (.loop jz))) (.seq (bbu zI (bbv 86 (.ops Gn) .skip)) (.seq (bbu sA (bbv 97 (bbu vS .ret) .skip)) (bbu F4 .ret)))))))))))⟩
def F8:ak:=[
 qac 1 6 0,
 qaf 2,
 aI 3 0]
def F9:ak:=[
 bm 10 6 1,
 bT 11 102 10,
 mV 9 11,
 bS 12 9 0,
 bS 13 9 1,
 mV 4 12,
 mV 5 13]
def F_:ak:=[
 mV 14 5,
 oP 15 (.un .not (.t 14))]
def Mp:ak:=[
 qae 16,
 aO 6 2 16,
 aI 3 261]
def Mq:ak:=[
 oP 6 (.mv (.c .ax))]
def Mr:ak:=[
 mV 17 4,
 cK 18 17,
 aI 19 0]
def qY:ak:=[
 dQ 20 19 18]
def tS:ak:=[
 dV 21 6 17 19,
 bm 22 6 21,
 qaf 8,
 aO 6 8 22]
def tU:ak:=[
 aV 23 0 8,
 aP 24 1 23,
 oP 25 (.bin .neq (.t 24) (.c (.int .i64 1))),
 mV 26 25,
 cM 27 1 8 26 false,
 cy 28 1 27 26 false,
 oG 29 (.bin .lss (.t 28) (.c (.int .i64 0))) 26 false,
 db 30 26 29,
 mV 31 30,
 cM 32 1 8 31 false,
 cy 33 1 32 31 false,
 oG 34 (.bin .gtr (.t 33) (.c (.int .i64 1114111))) 31 false,
 db 35 31 34,
 mV 36 35,
 cM 37 1 8 36 false,
 cy 38 1 37 36 false,
 oG 39 (.bin .geq (.t 38) (.c (.int .i64 55296))) 36 false,
 br 40 39 36 false,
 cM 41 1 8 40 true,
 cy 42 1 41 40 true,
 oG 43 (.bin .leq (.t 42) (.c (.int .i64 57343))) 40 true,
 oG 44 (.pick (.t 40) (.t 43) (.c (.bool false))) 36 false,
 db 45 36 44]
def BJ:ak:=[
 qae 46,
 aO 6 2 46,
 aI 3 261]
def F6:ak:=[
 mV 47 6,
 aV 48 1 8,
 aP 49 1 48,
 oP 50 (.conv (.int .i32) (.t 49)),
 oP 51 (.conv .rune (.t 50)),
 qab 52 1 1 47 51,
 mV 6 52]
def F7:ak:=[
 dS 53 19 1,
 mV 19 53]
def iQ:AC:=(bbu qY (.seq (bbv 20 .skip (.exit 0)) (.seq (.block 1 (bbu tS (.seq (bbu tU (bbv 45 (bbu BJ .ret) .skip)) (.ops F6)))) (.ops F7))))
def zE:ak:=[
 mV 54 6,
 cK 55 54,
 oP 56 (.bin .gtr (.t 55) (.c (.int .i64 255)))]
def Ga:ak:=[
 qae 57,
 aO 6 2 57,
 aI 3 262]
def Gb:ak:=[
 mV 58 6,
 oP 59 (.conv .Ld (.t 58)),
 bT 60 34 59,
 aO 6 2 60,
 aI 3 0]
def V9:aS:=⟨[.cell 2 true 6,.tmp 3],(bbu F8 (bbu F9 (.seq (bbu F_ (bbv 15 (bbu Mp .ret) .skip)) (bbu Mq (.seq (bbu Mr (.block 0 (.loop iQ))) (.seq (bbu zE (bbv 56 (bbu Ga .ret) .skip)) (bbu Gb .ret)))))))⟩
def pM:ak:=[
 qac 5 6 1,
 qaf 8,
 aI 9 0]
def pN:ak:=[
 mV 13 0]
def pO:ak:=[
 bF 15 13 [105,110,116,101,103,101,114,95,116,111,95,108,105,115,116],
 mV 14 15]
def MS:ak:=[
 aV 16 0 5,
 aP 17 1 16,
 oP 18 (.bin .neq (.t 17) (.c (.int .i64 1)))]
def Wn:ak:=[
 qae 19,
 aO 6 8 19,
 aI 9 261]
def Wm:ak:=[
 aV 20 1 5,
 aP 21 1 20,
 bT 22 145 21,
 oP 23 (.build bA [(0,1,(.c (.int .i64 6)))]),
 cQ 24 41 22 23,
 aO 6 8 24,
 aI 9 0]
def uf:ak:=[
 bF 26 13 [97,116,111,109,95,116,111,95,108,105,115,116],
 mV 25 26]
def MT:ak:=[
 aV 27 0 5,
 aP 28 1 27,
 oP 29 (.bin .neq (.t 28) (.c (.int .i64 2)))]
def Wo:ak:=[
 qae 30,
 aO 6 8 30,
 aI 9 261]
def Wp:ak:=[
 oP 10 (.mv (.c .ax))]
def Q0:ak:=[
 aV 31 2 5,
 aP 32 1 31,
 oP 33 (.range (.t 32))]
def zG:ak:=[
 oP 34 (.next (.t 33)),
 bS 35 34 0]
def QQ:ak:=[
 bS 36 34 2,
 mV 12 36]
def QR:ak:=[
 mV 37 10,
 mV 38 12,
 oP 39 (.conv (.int .i64) (.t 38)),
 bT 40 22 39,
 oP 41 (.lit true 6 1 bA [(0,6,(.t 40))]),
 qab 42 6 88 37 41,
 mV 10 42]
def re:AC:=(bbu zG (.seq (bbv 35 .skip (.exit 1)) (.block 2 (bbu QQ (.ops QR)))))
def Q1:ak:=[
 mV 43 10,
 oP 44 (.build bA [(0,1,(.c (.int .i64 6)))]),
 cQ 45 41 43 44,
 aO 6 8 45,
 aI 9 0]
def vZ:ak:=[
 mV 46 3,
 oP 47 (.un .not (.t 46))]
def GO:ak:=[
 qae 48,
 aO 6 8 48,
 aI 9 261]
def GN:ak:=[
 mV 49 0,
 bF 50 49 [108,105,115,116,95,116,111,95,97,116,111,109]]
def Q3:ak:=[
 mV 51 2,
 bT 52 146 51,
 bS 53 52 0,
 bS 54 52 1,
 aO 6 8 53,
 mV 9 54]
def Q2:ak:=[
 mV 55 2,
 bT 56 147 55,
 bS 57 56 0,
 bS 58 56 1,
 aO 6 8 57,
 mV 9 58]
def C8:aS:=⟨[.cell 8 true 6,.tmp 9],(bbu pM (.seq (bbu pN (.block 0 (bbu pO (bbv 14 (.seq (bbu MS (bbv 18 (bbu Wn .ret) .skip)) (bbu Wm .ret)) (bbu uf (bbv 25 (.seq (bbu MT (bbv 29 (bbu Wo .ret) .skip)) (bbu Wp (.seq (bbu Q0 (.block 1 (.loop re))) (bbu Q1 .ret)))) .skip)))))) (.seq (bbu vZ (bbv 47 (bbu GO .ret) .skip)) (.seq (bbu GN (bbv 50 (bbu Q3 .ret) .skip)) (bbu Q2 .ret)))))⟩
def ajb:ak:=[
 qac 4 6 0,
 cE 8 false]
def ajc:ak:=[
 mV 9 1,
 mV 10 9,
 cM 11 2 4 10 false,
 cy 12 1 11 10 false,
 oG 13 (.bin .eql (.t 12) (.c (.str []))) 10 false,
 db 14 10 13,
 mV 15 14,
 br 16 2 15 true,
 br 17 16 15 true,
 cM 18 4 4 17 false,
 cy 19 1 18 17 false,
 oG 20 (.len false (.t 19)) 17 false,
 gR 21 20 0 17 false,
 br 22 21 17 false,
 cM 23 3 4 22 true,
 cy 24 1 23 22 true,
 oG 25 (.bin .eql (.t 24) (.c (.int .u32 0))) 22 true,
 oG 26 (.pick (.t 22) (.t 25) (.c (.bool false))) 17 false,
 oG 27 (.pick (.t 17) (.c (.bool true)) (.t 26)) 15 true,
 c9 28 15 27,
 mV 29 28,
 br 30 3 29 true,
 br 31 30 29 true,
 cM 32 5 4 31 false,
 cy 33 1 32 31 false,
 oG 34 (.len false (.t 33)) 31 false,
 gR 35 34 0 31 false,
 oG 36 (.pick (.t 31) (.c (.bool true)) (.t 35)) 29 true,
 c9 37 29 36,
 mV 38 37,
 cM 39 0 4 38 true,
 cy 40 1 39 38 true,
 gR 41 40 1 38 true,
 br 42 41 38 true,
 cM 43 1 4 42 false,
 cy 44 1 43 42 false,
 gR 45 44 0 42 false,
 oG 46 (.pick (.t 42) (.c (.bool true)) (.t 45)) 38 true,
 c9 47 38 46,
 mV 8 47]
def a139:aS:=⟨[.tmp 8],(bbu ajb (bbu ajc .ret))⟩
def CD:ak:=[
 oP 2 (.mv (.c (.str []))),
 oP 3 (.mv (.c .bL))]
def CE:ak:=[
 mV 8 0,
 oP 9 (.len true (.t 8)),
 oP 10 (.bin .gtr (.t 9) (.c (.int .i64 255)))]
def ZS:ak:=[
 oP 11 (.call 148 [(.c (.int .i64 0)),(.c (.int .i64 4))]),
 oP 2 (.mv (.c (.str []))),
 mV 3 11]
def H4:ak:=[
 mV 12 0,
 bT 13 149 12,
 mV 4 13]
def H5:ak:=[
 mV 14 4,
 oP 15 (.bin .geq (.t 14) (.c (.int .i64 0)))]
def ZT:ak:=[
 mV 16 4,
 oP 17 (.call 148 [(.t 16),(.c (.int .i64 23))]),
 oP 2 (.mv (.c (.str []))),
 mV 3 17]
def Ps:ak:=[
 mV 18 0,
 bT 19 150 18]
def ZU:ak:=[
 mV 20 0,
 mV 2 20,
 oP 3 (.mv (.c .bL))]
def ZV:ak:=[
 oP 21 (.lit true 1 1 [(.int .u8 0)] [(0,1,(.c (.int .u8 39)))]),
 mV 5 21]
def ZW:ak:=[
 mV 22 0,
 oP 23 (.conv .Ui (.t 22)),
 cK 24 23,
 aI 25 0]
def jG:ak:=[
 dQ 26 25 24]
def kj:ak:=[
 dV 27 1 23 25,
 aP 28 1 27,
 mV 7 28]
def kl:ak:=[
 mV 29 7]
def kp:ak:=[
 oP 50 (.bin .eql (.t 29) (.c (.int .u8 39))),
 mV 49 50]
def lj:ak:=[
 oP 51 (.bin .eql (.t 29) (.c (.int .u8 92))),
 mV 49 51]
def zZ:ak:=[
 mV 52 5,
 mV 53 7,
 oP 54 (.lit true 1 2 [(.int .u8 0),(.int .u8 0)] [(0,1,(.c (.int .u8 92))),(1,1,(.t 53))]),
 qab 55 1 1 52 54,
 mV 5 55]
def mT:ak:=[
 oP 57 (.bin .eql (.t 29) (.c (.int .u8 10))),
 mV 56 57]
def H6:ak:=[
 mV 58 5,
 oP 59 (.append 1 1 (.t 58) (.c (.str [92,110]))),
 mV 5 59]
def pT:ak:=[
 oP 61 (.bin .eql (.t 29) (.c (.int .u8 9))),
 mV 60 61]
def H7:ak:=[
 mV 62 5,
 oP 63 (.append 1 1 (.t 62) (.c (.str [92,116]))),
 mV 5 63]
def sQ:ak:=[
 oP 65 (.bin .eql (.t 29) (.c (.int .u8 13))),
 mV 64 65]
def H8:ak:=[
 mV 66 5,
 oP 67 (.append 1 1 (.t 66) (.c (.str [92,114]))),
 mV 5 67]
def wL:ak:=[
 mV 30 7,
 oP 31 (.bin .lss (.t 30) (.c (.int .u8 32))),
 mV 32 31,
 br 33 7 32 false,
 oG 34 (.bin .eql (.t 33) (.c (.int .u8 127))) 32 false,
 db 35 32 34]
def z_:ak:=[
 mV 36 5,
 mV 37 7,
 oP 38 (.bin .shr (.t 37) (.c (.int .u64 4))),
 oP 39 (.dD (.c (.str [48,49,50,51,52,53,54,55,56,57,97,98,99,100,101,102])) (.t 38)),
 mV 40 7,
 oP 41 (.bin .and (.t 40) (.c (.int .u8 15))),
 oP 42 (.dD (.c (.str [48,49,50,51,52,53,54,55,56,57,97,98,99,100,101,102])) (.t 41)),
 oP 43 (.lit true 1 4 [(.int .u8 0),(.int .u8 0),(.int .u8 0),(.int .u8 0)] [(0,1,(.c (.int .u8 92))),(1,1,(.c (.int .u8 120))),(2,1,(.t 39)),(3,1,(.t 42))]),
 qab 44 1 1 36 43,
 mV 5 44]
def CF:List Nat:=[0,0,2,6,0,16,48,126,255,511]
def H9:ak:=[
 mV 45 5,
 mV 46 7,
 oP 47 (.lit true 1 1 [(.int .u8 0)] [(0,1,(.t 46))]),
 qab 48 1 1 45 47,
 mV 5 48]
def wM:ak:=[
 dS 68 25 1,
 mV 25 68]
def rO:AC:=(bbu jG (.seq (bbv 26 .skip (.exit 0)) (.seq (.block 1 (bbu kj (bbu kl (.block 2 (.seq (bbu kp (bbv 49 .skip (.ops lj))) (bbv 49 (.ops zZ) (bbu mT (bbv 56 (.ops H6) (bbu pT (bbv 60 (.ops H7) (bbu sQ (bbv 64 (.ops H8) (bbu wL (bbv 35 (.draw z_ CF) (.ops H9))))))))))))))) (.ops wM))))
def Sc:ak:=[
 mV 69 5,
 oP 70 (.lit true 1 1 [(.int .u8 0)] [(0,1,(.c (.int .u8 39)))]),
 qab 71 1 1 69 70,
 oP 72 (.conv .Ld (.t 71)),
 mV 2 72,
 oP 3 (.mv (.c .bL))]
def TN:aS:=⟨[.tmp 2,.tmp 3],(bbu CD (.seq (bbu CE (bbv 10 (bbu ZS .ret) .skip)) (.seq (bbu H4 (bbu H5 (bbv 15 (bbu ZT .ret) .skip))) (.seq (bbu Ps (bbv 19 (bbu ZU .ret) .skip)) (bbu ZV (.seq (bbu ZW (.block 0 (.loop rO))) (bbu Sc .ret)))))))⟩
def rP:ak:=[
 oP 2 (.mv (.c (.str []))),
 oP 3 (.mv (.c (.str []))),
 oP 4 (.mv (.c .bL))]
def rQ:ak:=[
 mV 14 0,
 oP 15 (.call 151 [(.t 14),(.c (.str [64]))]),
 mV 13 15,
 bS 16 13 0,
 bS 17 13 1,
 bS 18 13 2,
 mV 5 16,
 mV 6 17,
 mV 7 18]
def rR:ak:=[
 mV 19 7,
 mV 20 19,
 br 21 5 20 true,
 oG 22 (.bin .neq (.t 21) (.c (.str []))) 20 true,
 c9 23 20 22,
 mV 24 23,
 br 25 6 24 true,
 oG 26 (.bin .neq (.t 25) (.c (.str []))) 24 true,
 c9 27 24 26,
 mV 28 27,
 br 29 0 28 true,
 oG 30 (.len true (.t 29)) 28 true,
 oG 31 (.bin .leq (.t 30) (.c (.int .i64 64))) 28 true,
 c9 32 28 31,
 mV 33 32,
 br 34 6 33 true,
 oG 35 (.call 152 [(.t 34),(.c (.str [64]))]) 33 true,
 oG 36 (.un .not (.t 35)) 33 true,
 c9 37 33 36,
 mV 8 37]
def H_:ak:=[
 mV 38 5,
 oP 39 (.conv .Ui (.t 38)),
 cK 40 39,
 aI 41 0]
def uI:ak:=[
 dQ 42 41 40]
def xF:ak:=[
 dV 43 1 39 41,
 aP 44 1 43,
 mV 10 44]
def xG:ak:=[
 mV 45 8,
 mV 46 45,
 br 47 10 46 true,
 oG 48 (.call 153 [(.t 47)]) 46 true,
 oG 49 (.bin .neq (.t 48) (.c (.int .i64 0))) 46 true,
 br 50 49 46 true,
 br 51 10 50 false,
 oG 52 (.bin .eql (.t 51) (.c (.int .u8 45))) 50 false,
 oG 53 (.pick (.t 50) (.c (.bool true)) (.t 52)) 46 true,
 c9 54 46 53,
 mV 8 54]
def Ia:ak:=[
 dS 55 41 1,
 mV 41 55]
def sR:AC:=(bbu uI (.seq (bbv 42 .skip (.exit 0)) (.seq (.block 1 (bbu xF (.ops xG))) (.ops Ia))))
def Ib:ak:=[
 mV 56 6,
 oP 57 (.conv .Ui (.t 56)),
 cK 58 57,
 aI 59 0]
def mW:ak:=[
 dQ 60 59 58]
def pU:ak:=[
 dV 61 1 57 59,
 aP 62 1 61,
 mV 12 62]
def pV:ak:=[
 mV 63 8,
 mV 64 63,
 br 65 12 64 true,
 oG 66 (.call 153 [(.t 65)]) 64 true,
 oG 67 (.bin .neq (.t 66) (.c (.int .i64 0))) 64 true,
 br 68 67 64 true,
 br 69 12 68 false,
 oG 70 (.bin .eql (.t 69) (.c (.int .u8 45))) 68 false,
 oG 71 (.pick (.t 68) (.c (.bool true)) (.t 70)) 64 true,
 br 72 71 64 true,
 br 73 12 72 false,
 oG 74 (.bin .eql (.t 73) (.c (.int .u8 46))) 72 false,
 oG 75 (.pick (.t 72) (.c (.bool true)) (.t 74)) 64 true,
 c9 76 64 75,
 mV 8 76]
def Aa:ak:=[
 dS 77 59 1,
 mV 59 77]
def oU:AC:=(bbu mW (.seq (bbv 60 .skip (.exit 2)) (.seq (.block 3 (bbu pU (.ops pV))) (.ops Aa))))
def wN:ak:=[
 mV 78 8,
 oP 79 (.un .not (.t 78))]
def Ab:ak:=[
 oP 80 (.call 148 [(.c (.int .i64 0)),(.c (.int .i64 24))]),
 oP 2 (.mv (.c (.str []))),
 oP 3 (.mv (.c (.str []))),
 mV 4 80]
def Ac:ak:=[
 mV 81 5,
 mV 82 6,
 mV 2 81,
 mV 3 82,
 oP 4 (.mv (.c .bL))]
def a141:aS:=⟨[.tmp 2,.tmp 3,.tmp 4],(bbu rP (bbu rQ (bbu rR (.seq (bbu H_ (.block 0 (.loop sR))) (.seq (bbu Ib (.block 2 (.loop oU))) (.seq (bbu wN (bbv 79 (bbu Ab .ret) .skip)) (bbu Ac .ret)))))))⟩
def ZX:ak:=[
 oP 4 (.mv (.c .ax))]
def ZY:ak:=[
 mV 5 1,
 oP 6 (.bin .lss (.t 5) (.c (.int .i64 0)))]
def aji:ak:=[
 oP 7 (.dU 9 (.c (.str [99,97,110,110,111,116,32,98,101,32,110,101,103,97,116,105,118,101]))),
 oN (.panic (.t 7))]
def ZZ:ak:=[
 mV 8 1,
 mV 9 0,
 oP 10 (.cap (.t 9)),
 mV 11 0,
 cK 12 11,
 oP 13 (.bin .sub (.t 10) (.t 12)),
 oP 14 (.bin .sub (.t 8) (.t 13)),
 mV 1 14]
def Z0:ak:=[
 mV 15 1,
 oP 16 (.bin .gtr (.t 15) (.c (.int .i64 0)))]
def Z1:ak:=[
 mV 17 0,
 mV 18 0,
 oP 19 (.cap (.t 18)),
 oP 20 (.slice 6 (.t 17) none (some (.t 19)) none),
 mV 21 1,
 oP 22 (.kU 6 88 bA (.t 20) (.t 21)),
 mV 23 0,
 cK 24 23,
 oP 25 (.slice 6 (.t 22) none (some (.t 24)) none),
 mV 0 25]
def Z2:ak:=[
 mV 26 0,
 mV 4 26]
def a143:aS:=⟨[.tmp 4],(bbu ZX (.seq (bbu ZY (bbv 6 (.ops aji) .skip)) (.seq (bbu ZZ (bbu Z0 (bbv 16 (.ops Z1) .skip))) (bbu Z2 .ret))))⟩
def Gi:ak:=[
 oP 2 (.mv (.c .ax))]
def Gj:ak:=[
 mV 5 0,
 oP 6 (.bin .lss (.t 5) (.c (.int .i64 0))),
 mV 3 6]
def Gk:ak:=[
 mV 7 3]
def ME:ak:=[
 mV 8 0,
 oP 9 (.un .neg (.t 8)),
 mV 0 9]
def MD:ak:=[
 mV 10 0,
 oP 11 (.bin .rem (.t 10) (.c (.int .i64 10))),
 oP 12 (.bin .add (.c (.int .i64 48)) (.t 11)),
 bT 13 22 12,
 oP 14 (.lit true 6 1 bA [(0,6,(.t 13))]),
 mV 4 14]
def MC:ak:=[
 mV 15 0,
 oP 16 (.bin .geq (.t 15) (.c (.int .i64 10)))]
def Wc:ak:=[
 mV 17 0,
 oP 18 (.bin .quo (.t 17) (.c (.int .i64 10))),
 mV 0 18]
def Wd:ak:=[
 mV 19 0,
 oP 20 (.bin .rem (.t 19) (.c (.int .i64 10))),
 oP 21 (.bin .add (.c (.int .i64 48)) (.t 20)),
 bT 22 22 21,
 oP 23 (.lit true 6 1 bA [(0,6,(.t 22))]),
 mV 24 4,
 qab 25 6 88 23 24,
 mV 4 25]
def vX:AC:=(.seq (bbu MC (bbv 16 .skip (.exit 0))) (.block 1 (bbu Wc (.ops Wd))))
def Gf:ak:=[
 mV 26 3]
def Gg:ak:=[
 oP 27 (.call 22 [(.c (.int .i64 45))]),
 oP 28 (.lit true 6 1 bA [(0,6,(.t 27))]),
 mV 29 4,
 qab 30 6 88 28 29,
 mV 4 30]
def zH:ak:=[
 mV 31 4,
 mV 2 31]
def a145:aS:=⟨[.tmp 2],(bbu Gi (bbu Gj (.seq (bbu Gk (bbv 7 (.ops ME) .skip)) (bbu MD (.seq (.block 0 (.loop vX)) (.seq (bbu Gf (bbv 26 (.ops Gg) .skip)) (bbu zH .ret)))))))⟩
def Mv:ak:=[
 qaf 2,
 aI 3 0]
def Mw:ak:=[
 oP 4 (.mv (.c .ax))]
def Mx:ak:=[
 aI 5 0]
def qZ:ak:=[
 mV 7 5,
 mV 8 0,
 cK 9 8,
 dQ 10 7 9]
def tV:ak:=[
 mV 13 0,
 mV 14 5,
 dV 15 6 13 14,
 aV 16 1 15,
 aP 17 1 16,
 mV 6 17]
def tW:ak:=[
 mV 18 0,
 mV 19 5,
 dV 20 6 18 19,
 aV 21 0 20,
 aP 22 1 21,
 oP 23 (.bin .neq (.t 22) (.c (.int .i64 1))),
 mV 24 23,
 br 25 6 24 false,
 oG 26 (.bin .lss (.t 25) (.c (.int .i64 0))) 24 false,
 db 27 24 26,
 mV 28 27,
 br 29 6 28 false,
 oG 30 (.bin .gtr (.t 29) (.c (.int .i64 1114111))) 28 false,
 db 31 28 30,
 mV 32 31,
 br 33 6 32 false,
 oG 34 (.bin .geq (.t 33) (.c (.int .i64 55296))) 32 false,
 br 35 34 32 false,
 br 36 6 35 true,
 oG 37 (.bin .leq (.t 36) (.c (.int .i64 57343))) 35 true,
 oG 38 (.pick (.t 35) (.t 37) (.c (.bool false))) 32 false,
 db 39 32 38]
def BK:ak:=[
 qae 40,
 aO 6 2 40,
 aI 3 261]
def Mt:ak:=[
 mV 41 4,
 mV 42 6,
 oP 43 (.conv (.int .i32) (.t 42)),
 oP 44 (.conv .rune (.t 43)),
 qab 45 1 1 41 44,
 mV 4 45]
def Mu:ak:=[
 mV 11 5,
 dS 12 11 1,
 mV 5 12]
def kf:AC:=(.seq (bbu qZ (bbv 10 .skip (.exit 0))) (.seq (.block 1 (bbu tV (.seq (bbu tW (bbv 39 (bbu BK .ret) .skip)) (.ops Mt)))) (.ops Mu)))
def zF:ak:=[
 mV 46 4,
 cK 47 46,
 oP 48 (.bin .gtr (.t 47) (.c (.int .i64 255)))]
def Gc:ak:=[
 qae 49,
 aO 6 2 49,
 aI 3 262]
def Gd:ak:=[
 mV 50 4,
 oP 51 (.conv .Ld (.t 50)),
 bT 52 31 51,
 aO 6 2 52,
 aI 3 0]
def a146:aS:=⟨[.cell 2 true 6,.tmp 3],(bbu Mv (bbu Mw (.seq (bbu Mx (.block 0 (.loop kf))) (.seq (bbu zF (bbv 48 (bbu Gc .ret) .skip)) (bbu Gd .ret)))))⟩
def tZ:ak:=[
 qaf 2,
 aI 3 0]
def t_:ak:=[
 cE 4 false]
def ua:ak:=[
 mV 8 0,
 cK 9 8,
 oP 10 (.bin .gtr (.t 9) (.c (.int .i64 0))),
 mV 11 10,
 br 12 0 11 true,
 oG 13 (.cL 6 (.t 12) (.c (.int .i64 0))) 11 true,
 cM 14 0 13 11 true,
 cy 15 1 14 11 true,
 gR 16 15 1 11 true,
 c9 17 11 16,
 mV 18 17,
 br 19 0 18 true,
 oG 20 (.cL 6 (.t 19) (.c (.int .i64 0))) 18 true,
 cM 21 1 20 18 true,
 cy 22 1 21 18 true,
 gR 23 22 45 18 true,
 br 24 23 18 true,
 br 25 0 24 false,
 oG 26 (.cL 6 (.t 25) (.c (.int .i64 0))) 24 false,
 cM 27 1 26 24 false,
 cy 28 1 27 24 false,
 gR 29 28 43 24 false,
 oG 30 (.pick (.t 24) (.c (.bool true)) (.t 29)) 18 true,
 c9 31 18 30]
def GD:ak:=[
 mV 32 0,
 dh 33 6 32 0,
 aV 34 1 33,
 aP 35 1 34,
 cq 36 35 45,
 mV 4 36]
def GF:ak:=[
 mV 37 0,
 oP 38 (.slice 6 (.t 37) (some (.c (.int .i64 1))) none none),
 mV 0 38]
def GA:ak:=[
 mV 39 0,
 cK 40 39,
 cq 41 40 0]
def MM:ak:=[
 qae 42,
 aO 6 2 42,
 aI 3 261]
def MN:ak:=[
 aI 5 0]
def MO:ak:=[
 aI 6 0]
def tY:ak:=[
 mV 43 6,
 mV 44 0,
 cK 45 44,
 dQ 46 43 45]
def sE:ak:=[
 mV 49 0,
 mV 50 6,
 dV 51 6 49 50,
 aV 52 0 51,
 aP 53 1 52,
 oP 54 (.bin .neq (.t 53) (.c (.int .i64 1))),
 mV 55 54,
 br 56 0 55 false,
 br 57 6 55 false,
 oG 58 (.cL 6 (.t 56) (.t 57)) 55 false,
 cM 59 1 58 55 false,
 cy 60 1 59 55 false,
 oG 61 (.bin .lss (.t 60) (.c (.int .i64 48))) 55 false,
 db 62 55 61,
 mV 63 62,
 br 64 0 63 false,
 br 65 6 63 false,
 oG 66 (.cL 6 (.t 64) (.t 65)) 63 false,
 cM 67 1 66 63 false,
 cy 68 1 67 63 false,
 oG 69 (.bin .gtr (.t 68) (.c (.int .i64 57))) 63 false,
 db 70 63 69]
def zJ:ak:=[
 qae 71,
 aO 6 2 71,
 aI 3 261]
def Gw:ak:=[
 mV 72 0,
 mV 73 6,
 dV 74 6 72 73,
 aV 75 1 74,
 aP 76 1 75,
 oP 77 (.bin .sub (.t 76) (.c (.int .i64 48))),
 mV 7 77]
def Gx:ak:=[
 mV 78 5,
 mV 79 7,
 oP 80 (.bin .sub (.c (.int .i64 576460752303423488)) (.t 79)),
 oP 81 (.bin .quo (.t 80) (.c (.int .i64 10))),
 oP 82 (.bin .gtr (.t 78) (.t 81))]
def QW:ak:=[
 aI 5 576460752303423489]
def QX:ak:=[
 mV 83 5,
 oP 84 (.bin .mul (.t 83) (.c (.int .i64 10))),
 mV 85 7,
 oP 86 (.bin .add (.t 84) (.t 85)),
 mV 5 86]
def Gy:ak:=[
 mV 47 6,
 dS 48 47 1,
 mV 6 48]
def jA:AC:=(.seq (bbu tY (bbv 46 .skip (.exit 0))) (.seq (.block 1 (.seq (bbu sE (bbv 70 (bbu zJ .ret) .skip)) (bbu Gw (bbu Gx (bbv 82 (.ops QW) (.ops QX)))))) (.ops Gy)))
def zL:ak:=[
 mV 87 4]
def GB:ak:=[
 mV 88 5,
 oP 89 (.un .neg (.t 88)),
 mV 5 89]
def vY:ak:=[
 mV 90 5,
 oP 91 (.bin .lss (.t 90) (.c (.int .i64 (-576460752303423488)))),
 mV 92 91,
 br 93 5 92 false,
 oG 94 (.bin .gtr (.t 93) (.c (.int .i64 576460752303423487))) 92 false,
 db 95 92 94]
def zK:ak:=[
 qae 96,
 aO 6 2 96,
 aI 3 262]
def Gz:ak:=[
 mV 97 5,
 bT 98 22 97,
 aO 6 2 98,
 aI 3 0]
def Wi:aS:=⟨[.cell 2 true 6,.tmp 3],(bbu tZ (bbu t_ (.seq (bbu ua (bbv 31 (bbu GD (.ops GF)) .skip)) (.seq (bbu GA (bbv 41 (bbu MM .ret) .skip)) (bbu MN (.seq (bbu MO (.block 0 (.loop jA))) (.seq (bbu zL (bbv 87 (.ops GB) .skip)) (.seq (bbu vY (bbv 95 (bbu zK .ret) .skip)) (bbu Gz .ret)))))))))⟩
def Ic:ak:=[
 cE 2 false]
def Ie:ak:=[
 mV 3 0,
 oP 4 (.bin .neq (.t 3) (.c (.str []))),
 mV 5 4,
 br 6 0 5 true,
 oG 7 (.dD (.t 6) (.c (.int .i64 0))) 5 true,
 oG 8 (.call 153 [(.t 7)]) 5 true,
 gR 9 8 1 5 true,
 c9 10 5 9,
 mV 11 10,
 br 12 0 11 true,
 oG 13 (.call 159 [(.t 12),(.c (.int .i64 0))]) 11 true,
 br 14 0 11 true,
 oG 15 (.len true (.t 14)) 11 true,
 oG 16 (.bin .eql (.t 13) (.t 15)) 11 true,
 c9 17 11 16,
 mV 18 17,
 br 19 0 18 true,
 oG 20 (.call 160 [(.t 19)]) 18 true,
 oG 21 (.un .not (.t 20)) 18 true,
 c9 22 18 21,
 mV 2 22]
def Z3:aS:=⟨[.tmp 2],(bbu Ic (bbu Ie .ret))⟩
def Z4:ak:=[
 oP 4 (.mv (.c (.str []))),
 oP 5 (.mv (.c (.str []))),
 cE 6 false]
def Z5:ak:=[
 mV 7 0,
 mV 8 1,
 cQ 9 161 7 8,
 bS 10 9 0,
 bS 11 9 1,
 bS 12 9 2,
 mV 4 10,
 mV 5 11,
 mV 6 12]
def ajl:aS:=⟨[.tmp 4,.tmp 5,.tmp 6],(bbu Z4 (bbu Z5 .ret))⟩
def Pt:ak:=[
 cE 4 false]
def Pu:ak:=[
 mV 5 0,
 mV 6 1,
 cQ 7 162 5 6,
 oP 8 (.bin .geq (.t 7) (.c (.int .i64 0))),
 mV 4 8]
def a152:aS:=⟨[.tmp 4],(bbu Pt (bbu Pu .ret))⟩
def nP:ak:=[
 aI 2 0]
def nQ:ak:=[
 mV 4 0,
 oP 5 (.bin .geq (.t 4) (.c (.int .u8 97))),
 mV 6 5,
 br 7 0 6 true,
 oG 8 (.bin .leq (.t 7) (.c (.int .u8 122))) 6 true,
 c9 9 6 8,
 mV 3 9]
def Z6:ak:=[
 aI 2 1]
def pW:ak:=[
 mV 11 0,
 oP 12 (.bin .geq (.t 11) (.c (.int .u8 65))),
 mV 13 12,
 br 14 0 13 true,
 oG 15 (.bin .leq (.t 14) (.c (.int .u8 90))) 13 true,
 c9 16 13 15,
 mV 10 16]
def Z7:ak:=[
 aI 2 2]
def rS:ak:=[
 mV 18 0,
 oP 19 (.bin .geq (.t 18) (.c (.int .u8 48))),
 mV 20 19,
 br 21 0 20 true,
 oG 22 (.bin .leq (.t 21) (.c (.int .u8 57))) 20 true,
 c9 23 20 22,
 mV 17 23]
def Z8:ak:=[
 aI 2 3]
def uJ:ak:=[
 mV 25 0,
 oP 26 (.bin .eql (.t 25) (.c (.int .u8 95))),
 mV 27 26,
 br 28 0 27 false,
 oG 29 (.bin .eql (.t 28) (.c (.int .u8 64))) 27 false,
 db 30 27 29,
 mV 24 30]
def Pv:ak:=[
 aI 2 4]
def CG:ak:=[
 aI 2 0]
def CH:aS:=⟨[.tmp 2],(bbu nP (.seq (.block 0 (bbu nQ (bbv 3 (bbu Z6 .ret) (bbu pW (bbv 10 (bbu Z7 .ret) (bbu rS (bbv 17 (bbu Z8 .ret) (bbu uJ (bbv 24 (bbu Pv .ret) .skip))))))))) (bbu CG .ret)))⟩
def Z9:ak:=[
 aI 4 0]
def Ig:ak:=[
 mV 5 1,
 mV 6 0,
 oP 7 (.len true (.t 6)),
 dQ 8 5 7,
 mV 9 8,
 br 10 0 9 true,
 br 11 1 9 true,
 oG 12 (.dD (.t 10) (.t 11)) 9 true,
 oG 13 (.call 153 [(.t 12)]) 9 true,
 oG 14 (.bin .neq (.t 13) (.c (.int .i64 0))) 9 true,
 c9 15 9 14]
def Z_:ak:=[
 mV 16 1,
 dS 17 16 1,
 mV 1 17]
def wO:AC:=(.seq (bbu Ig (bbv 15 .skip (.exit 0))) (.block 1 (.ops Z_)))
def aaa:ak:=[
 mV 18 1,
 mV 4 18]
def a159:aS:=⟨[.tmp 4],(bbu Z9 (.seq (.block 0 (.loop wO)) (bbu aaa .ret)))⟩
def aab:ak:=[
 cE 2 false]
def aac:ak:=[
 mV 3 0]
def aad:ak:=[
 bF 5 3 [97,102,116,101,114],
 mV 4 5]
def aae:ak:=[
 bF 6 3 [97,110,100],
 mV 4 6]
def aaf:ak:=[
 bF 7 3 [97,110,100,97,108,115,111],
 mV 4 7]
def aag:ak:=[
 bF 8 3 [98,101,103,105,110],
 mV 4 8]
def aah:ak:=[
 bF 9 3 [99,97,115,101],
 mV 4 9]
def aai:ak:=[
 bF 10 3 [99,97,116,99,104],
 mV 4 10]
def aaj:ak:=[
 bF 11 3 [100,105,118],
 mV 4 11]
def aak:ak:=[
 bF 12 3 [101,110,100],
 mV 4 12]
def Sd:ak:=[
 bF 13 3 [102,117,110],
 mV 4 13]
def Se:ak:=[
 bF 14 3 [105,102],
 mV 4 14]
def Sf:ak:=[
 bF 16 3 [110,111,116],
 mV 15 16]
def Sg:ak:=[
 bF 17 3 [111,102],
 mV 15 17]
def Si:ak:=[
 bF 18 3 [111,114],
 mV 15 18]
def Sj:ak:=[
 bF 19 3 [111,114,101,108,115,101],
 mV 15 19]
def Sk:ak:=[
 bF 20 3 [114,101,99,101,105,118,101],
 mV 15 20]
def Sm:ak:=[
 bF 21 3 [114,101,109],
 mV 15 21]
def Sn:ak:=[
 bF 22 3 [116,114,121],
 mV 15 22]
def So:ak:=[
 bF 23 3 [119,104,101,110],
 mV 15 23]
def Sp:ak:=[
 bF 24 3 [120,111,114],
 mV 15 24]
def ac3:ak:=[
 cE 2 true]
def Sq:ak:=[
 cE 2 false]
def a160:aS:=⟨[.tmp 2],(bbu aab (.seq (bbu aac (.block 0 (.seq (.block 2 (.block 1 (.seq (.seq (.seq (bbu aad (bbv 4 .skip (bbu aae (bbv 4 .skip (bbu aaf (bbv 4 .skip (bbu aag (bbv 4 .skip (bbu aah (bbv 4 .skip (bbu aai (bbv 4 .skip (bbu aaj (bbv 4 .skip (bbu aak (bbv 4 .skip (bbu Sd (bbv 4 .skip (.ops Se))))))))))))))))))) (bbv 4 (.exit 1) .skip)) (.seq (bbu Sf (bbv 15 .skip (bbu Sg (bbv 15 .skip (bbu Si (bbv 15 .skip (bbu Sj (bbv 15 .skip (bbu Sk (bbv 15 .skip (bbu Sm (bbv 15 .skip (bbu Sn (bbv 15 .skip (bbu So (bbv 15 .skip (.ops Sp))))))))))))))))) (bbv 15 (.exit 2) .skip))) (.exit 0)))) (.seq (bbu ac3 .ret) (.exit 0))))) (bbu Sq .ret)))⟩
def Pw:ak:=[
 oP 4 (.mv (.c (.str []))),
 oP 5 (.mv (.c (.str []))),
 cE 6 false]
def Px:ak:=[
 mV 8 0,
 mV 9 1,
 cQ 10 169 8 9,
 mV 7 10]
def Py:ak:=[
 mV 11 7,
 oP 12 (.bin .geq (.t 11) (.c (.int .i64 0)))]
def aal:ak:=[
 mV 13 0,
 mV 14 7,
 oP 15 (.ey (.t 13) none (some (.t 14))),
 mV 16 0,
 mV 17 7,
 mV 18 1,
 oP 19 (.len true (.t 18)),
 oP 20 (.bin .add (.t 17) (.t 19)),
 oP 21 (.ey (.t 16) (some (.t 20)) none),
 mV 4 15,
 mV 5 21,
 cE 6 true]
def ac4:List Nat:=[0,0,3,0,0,0,32,112,248,7,1023,2047]
def aam:ak:=[
 mV 22 0,
 mV 4 22,
 oP 5 (.mv (.c (.str []))),
 cE 6 false]
def ac5:aS:=⟨[.tmp 4,.tmp 5,.tmp 6],(bbu Pw (.seq (bbu Px (bbu Py (bbv 12 (.seq (.draw aal ac4) .ret) .skip))) (bbu aam .ret)))⟩
def aan:ak:=[
 aI 4 0]
def aao:ak:=[
 mV 5 0,
 mV 6 1,
 cQ 7 169 5 6,
 mV 4 7]
def a162:aS:=⟨[.tmp 4],(bbu aan (bbu aao .ret))⟩
end Go.Bf
