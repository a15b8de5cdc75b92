/- For BifCalls. -/
import Derived.Test.YtaielgjmhbjfhaaGreatDoorAmCore
set_option linter.unusedVariables false
namespace Go.Bf
open Go.AM
def agT:ak:=[
 cE 4 false]
def agU:ak:=[
 mV 14 0,
 mV 15 1,
 cQ 16 18 14 15,
 mV 13 16,
 bS 17 13 0,
 bS 18 13 1,
 qaf 5,
 aO 6 5 17,
 mV 6 18]
def agV:ak:=[
 mV 20 0,
 mV 21 1,
 cQ 22 25 20 21,
 mV 19 22,
 bS 23 19 0,
 bS 24 19 1,
 qaf 7,
 aO 6 7 23,
 mV 8 24]
def agW:ak:=[
 mV 25 6,
 mV 26 8,
 cQ 27 26 25 26,
 oP 28 (.un .not (.t 27))]
def agX:ak:=[
 cE 4 false]
def agY:ak:=[
 mV 30 6,
 bT 31 27 30,
 mV 29 31,
 bS 32 29 0,
 bS 33 29 1,
 qaf 9,
 aO 6 9 32,
 mV 10 33]
def agZ:ak:=[
 mV 35 8,
 bT 36 28 35,
 mV 34 36,
 bS 37 34 0,
 bS 38 34 1,
 qaf 11,
 aO 6 11 37,
 mV 12 38]
def ag0:ak:=[
 mV 39 10,
 mV 40 12,
 oP 41 (.eq true .bool (.t 39) (.t 40)),
 mV 42 41,
 cM 43 0 9 42 false,
 cy 44 1 43 42 false,
 cM 45 0 11 42 false,
 cy 46 1 45 42 false,
 oG 47 (.bin .neq (.t 44) (.t 46)) 42 false,
 db 48 42 47,
 mV 49 48,
 cM 50 2 9 49 false,
 cy 51 1 50 49 false,
 cM 52 2 11 49 false,
 cy 53 1 52 49 false,
 oG 54 (.bin .neq (.t 51) (.t 53)) 49 false,
 db 55 49 54]
def ag1:ak:=[
 cE 4 false]
def ag2:ak:=[
 mV 56 8,
 cK 57 56,
 oP 58 (.bin .gtr (.t 57) (.c (.int .i64 0))),
 mV 59 58,
 cM 60 0 5 59 true,
 cy 61 1 60 59 true,
 gR 62 61 0 59 true,
 c9 63 59 62,
 mV 64 63,
 br 65 8 64 false,
 oG 66 (.len false (.t 65)) 64 false,
 gR 67 66 0 64 false,
 br 68 67 64 false,
 oG 69 (.load true 6 (.t 5)) 68 true,
 oG 70 (.load true 6 (.t 7)) 68 true,
 oG 71 (.call 19 [(.t 69),(.t 70)]) 68 true,
 oG 72 (.pick (.t 68) (.t 71) (.c (.bool false))) 64 false,
 db 73 64 72,
 mV 74 73,
 oG 75 (.call 15 []) 74 true,
 c9 76 74 75,
 mV 4 76]
def a9:aS:=⟨[.tmp 4],(bbu agT (bbu agU (bbu agV (.seq (bbu agW (bbv 28 (bbu agX .ret) .skip)) (bbu agY (bbu agZ (.seq (bbu ag0 (bbv 55 (bbu ag1 .ret) .skip)) (bbu ag2 .ret))))))))⟩
def aeW:ak:=[
 oP 4 (.alloc dM),
 cE 5 false]
def aeX:ak:=[
 oP 8 (.call 11 []),
 cK 9 8,
 aI 10 0]
def ED:ak:=[
 dQ 11 10 9]
def KE:ak:=[
 dV 12 4 8 10,
 bm 13 4 12,
 oP 7 (.alloc dM),
 aO 4 7 13]
def KF:ak:=[
 aV 14 0 7,
 aP 15 1 14,
 mV 16 0,
 oP 17 (.bin .eql (.t 15) (.t 16)),
 mV 18 17,
 cM 19 1 7 18 true,
 cy 20 1 19 18 true,
 br 21 1 18 true,
 oG 22 (.bin .eql (.t 20) (.t 21)) 18 true,
 c9 23 18 22]
def X2:ak:=[
 bm 24 4 7,
 aO 4 4 24,
 cE 5 true]
def RM:ak:=[
 dS 25 10 1,
 mV 10 25]
def B8:AC:=(bbu ED (.seq (bbv 11 .skip (.exit 0)) (.seq (.block 1 (bbu KE (bbu KF (bbv 23 (bbu X2 .ret) .skip)))) (.ops RM))))
def aeY:ak:=[
 oP 26 (.build dM []),
 aO 4 4 26,
 cE 5 false]
def a13:aS:=⟨[.cell 4 true 4,.tmp 5],(bbu aeW (.seq (bbu aeX (.block 0 (.loop B8))) (bbu aeY .ret)))⟩
def aeZ:ak:=[
 oP 4 (.alloc dM),
 cE 5 false]
def ae0:ak:=[
 oP 8 (.call 12 []),
 mV 6 8]
def ae1:ak:=[
 aI 7 0]
def EE:ak:=[
 mV 9 7,
 mV 10 6,
 cK 11 10,
 dQ 12 9 11]
def KG:ak:=[
 mV 15 6,
 mV 16 7,
 dV 17 4 15 16,
 aV 18 0 17,
 aP 19 1 18,
 mV 20 0,
 oP 21 (.bin .eql (.t 19) (.t 20)),
 mV 22 21,
 br 23 6 22 true,
 br 24 7 22 true,
 oG 25 (.cL 4 (.t 23) (.t 24)) 22 true,
 cM 26 1 25 22 true,
 cy 27 1 26 22 true,
 br 28 1 22 true,
 oG 29 (.bin .eql (.t 27) (.t 28)) 22 true,
 c9 30 22 29]
def X3:ak:=[
 mV 31 6,
 mV 32 7,
 dV 33 4 31 32,
 bm 34 4 33,
 aO 4 4 34,
 cE 5 true]
def RN:ak:=[
 mV 13 7,
 dS 14 13 1,
 mV 7 14]
def B9:AC:=(.seq (bbu EE (bbv 12 .skip (.exit 0))) (.seq (.block 1 (bbu KG (bbv 30 (bbu X3 .ret) .skip))) (.ops RN)))
def ae2:ak:=[
 oP 35 (.build dM []),
 aO 4 4 35,
 cE 5 false]
def a14:aS:=⟨[.cell 4 true 4,.tmp 5],(bbu aeZ (bbu ae0 (.seq (bbu ae1 (.block 0 (.loop B9))) (bbu ae2 .ret))))⟩
def aeO:ak:=[
 qac 1 6 0,
 oP 2 (.mv (.c .ax))]
def aeP:ak:=[
 oP 4 (.build [(.int .i64 0),(.int .i64 0),.ax] []),
 qac 5 3 4,
 mV 3 5]
def aeQ:ak:=[
 mV 6 3,
 bm 7 6 1,
 oP 8 (.call 32 [(.t 6),(.t 7),(.c (.int .i64 1))])]
def aeR:ak:=[
 mV 9 3,
 oP 10 (.nilCheck (.t 9)),
 aV 11 2 10,
 aP 12 1 11,
 mV 2 12]
def a16:aS:=⟨[.tmp 2],(bbu aeO (bbu aeP (bbu aeQ (bbu aeR .ret))))⟩
def DZ:ak:=[
 qaf 4,
 oP 5 (.mv (.c .bL))]
def D0:ak:=[
 mV 15 0,
 mV 16 1,
 cK 17 16,
 cQ 18 13 15 17,
 mV 14 18,
 bS 19 14 0,
 bS 20 14 1,
 oP 6 (.alloc dM),
 aO 4 6 19,
 mV 7 20]
def D1:ak:=[
 mV 21 7,
 oP 22 (.un .not (.t 21))]
def Qo:ak:=[
 qae 23,
 oP 24 (.call 35 [(.c (.int .i64 0)),(.c (.int .i64 263))]),
 aO 6 4 23,
 mV 5 24]
def Jt:ak:=[
 mV 25 1,
 cK 26 25,
 aI 27 0]
def Js:ak:=[
 dQ 28 27 26]
def Ql:ak:=[
 mV 29 27,
 dV 30 6 25 27,
 bm 31 6 30,
 qaf 9,
 mV 8 29,
 aO 6 9 31]
def Qm:ak:=[
 bm 32 6 9,
 bT 33 36 32,
 mV 10 33]
def Qn:ak:=[
 mV 34 10,
 oP 35 (.eq true (.iface true) (.t 34) (.c .bL))]
def aet:ak:=[
 oP 11 (.alloc [.gC])]
def Vd:ak:=[
 mV 36 10,
 oP 37 (.dU 71 (.t 11)),
 cQ 38 37 36 37]
def Ve:ak:=[
 qae 39,
 mV 40 8,
 aP 41 1 11,
 oP 42 (.nilCheck (.t 41)),
 aV 43 2 42,
 aP 44 1 43,
 mV 45 10,
 oP 46 (.build [(.str []),(.int .i64 0),(.int .i64 0),.bL] [(0,1,(.c (.str [98,105,102]))),(1,1,(.t 40)),(2,1,(.t 44)),(3,1,(.t 45))]),
 oP 47 (.box true 4 (.t 46)),
 oP 48 (.dU 69 (.t 47)),
 aO 6 4 39,
 mV 5 48]
def aci:List Nat:=[0,0,0,4,12,28,0,126,254,510,1,2047]
def LF:ak:=[
 dS 49 27 1,
 mV 27 49]
def k8:AC:=(bbu Js (.seq (bbv 28 .skip (.exit 0)) (.seq (.block 1 (bbu Ql (bbu Qm (bbu Qn (bbv 35 (bbu aet (bbu Vd (.seq (.draw Ve aci) .ret))) .skip))))) (.ops LF))))
def pr:ak:=[
 mV 51 0,
 mV 52 1,
 cQ 53 38 51 52,
 mV 50 53,
 bS 54 50 0,
 bS 55 50 1,
 qaf 12,
 aO 6 12 54,
 mV 13 55]
def pt:ak:=[
 mV 56 13,
 cq 57 56 0,
 mV 58 57,
 oG 59 (.load true 6 (.t 12)) 58 true,
 oG 60 (.call 36 [(.t 59)]) 58 true,
 oG 61 (.eq true (.iface true) (.t 60) (.c .bL)) 58 true,
 c9 62 58 61]
def tB:ak:=[
 aI 13 262]
def pv:ak:=[
 mV 63 13,
 oP 64 (.bin .neq (.t 63) (.c (.int .i64 0)))]
def qP:ak:=[
 qae 65,
 mV 66 13,
 oP 67 (.call 35 [(.c (.int .i64 0)),(.t 66)]),
 aO 6 4 65,
 mV 5 67]
def tC:ak:=[
 bm 68 6 12,
 bT 69 39 68,
 aO 6 4 69,
 oP 5 (.mv (.c .bL))]
def a18:aS:=⟨[.cell 4 true 6,.tmp 5],(bbu DZ (.seq (bbu D0 (bbu D1 (bbv 22 (bbu Qo .ret) .skip))) (.seq (bbu Jt (.block 0 (.loop k8))) (bbu pr (.seq (bbu pt (bbv 62 (.ops tB) .skip)) (.seq (bbu pv (bbv 64 (bbu qP .ret) .skip)) (bbu tC .ret)))))))⟩
def yx:ak:=[
 qac 2 6 0,
 qac 3 6 1,
 cE 4 false]
def yy:ak:=[
 aV 7 0 2,
 aP 8 1 7,
 aV 9 0 3,
 aP 10 1 9,
 oP 11 (.bin .neq (.t 8) (.t 10)),
 mV 12 11,
 cM 13 1 2 12 false,
 cy 14 1 13 12 false,
 cM 15 1 3 12 false,
 cy 16 1 15 12 false,
 oG 17 (.bin .neq (.t 14) (.t 16)) 12 false,
 db 18 12 17,
 mV 19 18,
 cM 20 2 2 19 false,
 cy 21 1 20 19 false,
 cM 22 2 3 19 false,
 cy 23 1 22 19 false,
 oG 24 (.bin .neq (.t 21) (.t 23)) 19 false,
 db 25 19 24,
 mV 26 25,
 cM 27 3 2 26 false,
 cy 28 1 27 26 false,
 cM 29 3 3 26 false,
 cy 30 1 29 26 false,
 oG 31 (.bin .neq (.t 28) (.t 30)) 26 false,
 db 32 26 31,
 mV 33 32,
 cM 34 4 2 33 false,
 cy 35 1 34 33 false,
 oG 36 (.len false (.t 35)) 33 false,
 cM 37 4 3 33 false,
 cy 38 1 37 33 false,
 oG 39 (.len false (.t 38)) 33 false,
 oG 40 (.bin .neq (.t 36) (.t 39)) 33 false,
 db 41 33 40,
 mV 42 41,
 cM 43 5 2 42 false,
 cy 44 1 43 42 false,
 oG 45 (.len false (.t 44)) 42 false,
 cM 46 5 3 42 false,
 cy 47 1 46 42 false,
 oG 48 (.len false (.t 47)) 42 false,
 oG 49 (.bin .neq (.t 45) (.t 48)) 42 false,
 db 50 42 49]
def B_:ak:=[
 cE 4 false]
def ae3:ak:=[
 aI 5 0]
def X4:ak:=[
 mV 51 5,
 aV 52 4 2,
 aP 53 1 52,
 cK 54 53,
 dQ 55 51 54]
def X5:ak:=[
 aV 58 4 2,
 aP 59 1 58,
 mV 60 5,
 dV 61 1 59 60,
 aP 62 1 61,
 aV 63 4 3,
 aP 64 1 63,
 mV 65 5,
 dV 66 1 64 65,
 aP 67 1 66,
 oP 68 (.bin .neq (.t 62) (.t 67))]
def ah1:List Nat:=[0,1,0,7,15,0,32,0,224,480,1023]
def ae4:ak:=[
 cE 4 false]
def ae5:ak:=[
 mV 56 5,
 dS 57 56 1,
 mV 5 57]
def Hg:AC:=(.seq (bbu X4 (bbv 55 .skip (.exit 0))) (.seq (.block 1 (.seq (.draw X5 ah1) (bbv 68 (bbu ae4 .ret) .skip))) (.ops ae5)))
def ae6:ak:=[
 aI 6 0]
def Ns:ak:=[
 mV 69 6,
 aV 70 5 2,
 aP 71 1 70,
 cK 72 71,
 dQ 73 69 72]
def Nt:ak:=[
 aV 76 5 2,
 aP 77 1 76,
 mV 78 6,
 dV 79 6 77 78,
 bm 80 6 79,
 aV 81 5 3,
 aP 82 1 81,
 mV 83 6,
 dV 84 6 82 83,
 bm 85 6 84,
 cQ 86 19 80 85,
 oP 87 (.un .not (.t 86))]
def acj:List Nat:=[0,1,0,7,15,0,32,0,224,480,1023,2047]
def X6:ak:=[
 cE 4 false]
def X7:ak:=[
 mV 74 6,
 dS 75 74 1,
 mV 6 75]
def zT:AC:=(.seq (bbu Ns (bbv 73 .skip (.exit 2))) (.seq (.block 3 (.seq (.draw Nt acj) (bbv 87 (bbu X6 .ret) .skip))) (.ops X7)))
def X8:ak:=[
 cE 4 true]
def a19:aS:=⟨[.tmp 4],(bbu yx (.seq (bbu yy (bbv 50 (bbu B_ .ret) .skip)) (.seq (bbu ae3 (.block 0 (.loop Hg))) (.seq (bbu ae6 (.block 2 (.loop zT))) (bbu X8 .ret)))))⟩
def ae7:ak:=[
 qac 2 6 0,
 qac 3 6 1,
 aI 4 0]
def ae8:ak:=[
 bm 5 6 2,
 bT 6 16 5,
 oP 7 (.eq true .slice (.t 6) (.c .ax)),
 mV 8 7,
 oG 9 (.load true 6 (.t 3)) 8 false,
 oG 10 (.call 16 [(.t 9)]) 8 false,
 oG 11 (.eq true .slice (.t 10) (.c .ax)) 8 false,
 db 12 8 11]
def ama:ak:=[
 aI 4 0]
def ae9:ak:=[
 bm 13 6 2,
 bm 14 6 3,
 cQ 15 40 13 14,
 mV 4 15]
def a20:aS:=⟨[.tmp 4],(bbu ae7 (.seq (bbu ae8 (bbv 12 (bbu ama .ret) .skip)) (bbu ae9 .ret)))⟩
def Qr:ak:=[
 qaf 4,
 oP 5 (.mv (.c .ax))]
def Qs:ak:=[
 mV 13 0,
 mV 14 1,
 cK 15 14,
 cQ 16 14 13 15,
 mV 12 16,
 bS 17 12 0,
 bS 18 12 1,
 oP 6 (.alloc dM),
 aO 4 6 17,
 mV 7 18]
def Qt:ak:=[
 mV 19 7,
 oP 20 (.un .not (.t 19))]
def Vk:ak:=[
 qae 21,
 oP 22 (.call 42 [(.c (.int .i64 0)),(.c (.int .i64 263))]),
 aO 6 4 21,
 mV 5 22]
def Vl:ak:=[
 aI 8 0]
def Qq:ak:=[
 mV 23 8,
 mV 24 1,
 cK 25 24,
 dQ 26 23 25]
def Vg:ak:=[
 mV 29 1,
 mV 30 8,
 dV 31 6 29 30,
 bm 32 6 31,
 bT 33 16 32,
 mV 9 33]
def Vh:ak:=[
 mV 34 9,
 cK 35 34,
 oP 36 (.bin .gtr (.t 35) (.c (.int .i64 0)))]
def aev:ak:=[
 qae 37,
 mV 38 8,
 mV 39 9,
 dh 40 3 39 0,
 aV 41 2 40,
 aP 42 1 41,
 mV 43 9,
 oP 44 (.call 43 [(.c (.str [98,105,102])),(.t 38),(.t 42),(.t 43)]),
 aO 6 4 37,
 mV 5 44]
def aeu:ak:=[
 mV 27 8,
 dS 28 27 1,
 mV 8 28]
def mw:AC:=(.seq (bbu Qq (bbv 26 .skip (.exit 0))) (.seq (.block 1 (bbu Vg (bbu Vh (bbv 36 (bbu aev .ret) .skip)))) (.ops aeu)))
def pw:ak:=[
 mV 46 0,
 mV 47 1,
 cQ 48 44 46 47,
 mV 45 48,
 bS 49 45 0,
 bS 50 45 1,
 qaf 10,
 aO 6 10 49,
 mV 11 50]
def px:ak:=[
 mV 51 11,
 oP 52 (.bin .neq (.t 51) (.c (.int .i64 0)))]
def tD:ak:=[
 qae 53,
 mV 54 11,
 oP 55 (.call 42 [(.c (.int .i64 0)),(.t 54)]),
 aO 6 4 53,
 mV 5 55]
def qQ:ak:=[
 bm 56 6 10,
 bT 57 16 56,
 cK 58 57,
 oP 59 (.bin .gtr (.t 58) (.c (.int .i64 0)))]
def tE:ak:=[
 qae 60,
 oP 61 (.call 42 [(.c (.int .i64 0)),(.c (.int .i64 262))]),
 aO 6 4 60,
 mV 5 61]
def tF:ak:=[
 bm 62 6 10,
 aO 6 4 62,
 oP 5 (.mv (.c .ax))]
def Vj:aS:=⟨[.cell 4 true 6,.tmp 5],(bbu Qr (bbu Qs (.seq (bbu Qt (bbv 20 (bbu Vk .ret) .skip)) (.seq (bbu Vl (.block 0 (.loop mw))) (bbu pw (.seq (bbu px (bbv 52 (bbu tD .ret) .skip)) (.seq (bbu qQ (bbv 59 (bbu tE .ret) .skip)) (bbu tF .ret))))))))⟩
def U9:ak:=[
 cE 4 false]
def U_:ak:=[
 mV 7 1,
 cK 8 7,
 cq 9 8 0]
def aer:ak:=[
 mV 10 0,
 oP 11 (.eq false (.iface true) (.t 10) (.c .bL)),
 mV 4 11]
def Va:ak:=[
 mV 12 0,
 bT 13 45 12,
 mV 5 13]
def Vb:ak:=[
 mV 14 5,
 cK 15 14,
 mV 16 1,
 cK 17 16,
 oP 18 (.bin .neq (.t 15) (.t 17))]
def aes:ak:=[
 cE 4 false]
def Vc:ak:=[
 aI 6 0]
def U7:ak:=[
 mV 19 6,
 mV 20 1,
 cK 21 20,
 dQ 22 19 21]
def aeq:ak:=[
 mV 25 5,
 mV 26 6,
 dV 27 3 25 26,
 bm 28 3 27,
 mV 29 1,
 mV 30 6,
 dV 31 3 29 30,
 bm 32 3 31,
 oP 33 (.eq true (.struct [(0,1,false,.str),(1,1,false,.int),(2,1,false,.int)]) (.t 28) (.t 32))]
def ah2:List Nat:=[0,0,3,7,0,0,48,112,255]
def amd:ak:=[
 cE 4 false]
def U8:ak:=[
 mV 23 6,
 dS 24 23 1,
 mV 6 24]
def vx:AC:=(.seq (bbu U7 (bbv 22 .skip (.exit 0))) (.seq (.block 1 (.seq (.draw aeq ah2) (bbv 33 (bbu amd .ret) .skip))) (.ops U8)))
def LD:ak:=[
 mV 34 0,
 mV 35 1,
 mV 36 1,
 cK 37 36,
 oP 38 (.bin .sub (.t 37) (.c (.int .i64 1))),
 dV 39 3 35 38,
 aV 40 2 39,
 aP 41 1 40,
 oP 42 (.dU 67 (.t 41)),
 cQ 43 46 34 42,
 mV 4 43]
def a26:aS:=⟨[.tmp 4],(bbu U9 (.seq (bbu U_ (bbv 9 (bbu aer .ret) .skip)) (bbu Va (.seq (bbu Vb (bbv 18 (bbu aes .ret) .skip)) (.seq (bbu Vc (.block 0 (.loop vx))) (bbu LD .ret))))))⟩
def A3:ak:=[
 qaf 2,
 cE 3 false]
def A4:ak:=[
 oP 4 (.alloc [.gC])]
def A5:ak:=[
 mV 5 0,
 oP 6 (.dU 71 (.t 4)),
 cQ 7 37 5 6,
 oP 8 (.un .not (.t 7)),
 mV 9 8,
 cy 10 1 4 9 false,
 oG 11 (.eq false .ptr (.t 10) (.c .gC)) 9 false,
 db 12 9 11]
def A6:ak:=[
 qae 13,
 aO 6 2 13,
 cE 3 false]
def A7:ak:=[
 aP 14 1 4,
 oP 15 (.nilCheck (.t 14)),
 aV 16 2 15,
 aP 17 1 16]
def A8:ak:=[
 cq 19 17 260,
 mV 18 19]
def A9:ak:=[
 qad 20 34 [98,97,100,97,114,105,116,104],
 aO 6 2 20,
 cE 3 true]
def A_:ak:=[
 cq 22 17 261,
 mV 21 22]
def Ba:ak:=[
 qad 23 34 [98,97,100,97,114,103],
 aO 6 2 23,
 cE 3 true]
def Bb:ak:=[
 cq 25 17 262,
 mV 24 25]
def tG:ak:=[
 qad 26 34 [115,121,115,116,101,109,95,108,105,109,105,116],
 aO 6 2 26,
 cE 3 true]
def tH:ak:=[
 cq 28 17 263,
 mV 27 28]
def tI:ak:=[
 qad 29 34 [117,110,100,101,102],
 aO 6 2 29,
 cE 3 true]
def tJ:ak:=[
 qae 30,
 aO 6 2 30,
 cE 3 false]
def a27:aS:=⟨[.cell 2 true 6,.tmp 3],(bbu A3 (bbu A4 (.seq (bbu A5 (bbv 12 (bbu A6 .ret) .skip)) (.seq (bbu A7 (.block 0 (bbu A8 (bbv 18 (bbu A9 .ret) (bbu A_ (bbv 21 (bbu Ba .ret) (bbu Bb (bbv 24 (bbu tG .ret) (bbu tH (bbv 27 (bbu tI .ret) .skip)))))))))) (bbu tJ .ret)))))⟩
def D2:ak:=[
 qaf 2,
 cE 3 false]
def D3:ak:=[
 mV 4 0,
 cK 5 4,
 cq 6 5 0]
def D4:ak:=[
 qae 7,
 aO 6 2 7,
 cE 3 false]
def D5:ak:=[
 mV 8 0,
 dh 9 3 8 0,
 aV 10 2 9,
 aP 11 1 10]
def D6:ak:=[
 cq 13 11 260,
 mV 12 13]
def D7:ak:=[
 qad 14 31 [98,97,100,97,114,105,116,104],
 aO 6 2 14,
 cE 3 true]
def D8:ak:=[
 cq 16 11 261,
 mV 15 16]
def D9:ak:=[
 qad 17 31 [98,97,100,97,114,103],
 aO 6 2 17,
 cE 3 true]
def D_:ak:=[
 cq 19 11 262,
 mV 18 19]
def Ea:ak:=[
 qad 20 31 [115,121,115,116,101,109,95,108,105,109,105,116],
 aO 6 2 20,
 cE 3 true]
def w_:ak:=[
 cq 22 11 263,
 mV 21 22]
def xc:ak:=[
 qad 23 31 [117,110,100,101,102],
 aO 6 2 23,
 cE 3 true]
def xd:ak:=[
 qae 24,
 aO 6 2 24,
 cE 3 false]
def a28:aS:=⟨[.cell 2 true 6,.tmp 3],(bbu D2 (.seq (bbu D3 (bbv 6 (bbu D4 .ret) .skip)) (.seq (bbu D5 (.block 0 (bbu D6 (bbv 12 (bbu D7 .ret) (bbu D8 (bbv 15 (bbu D9 .ret) (bbu D_ (bbv 18 (bbu Ea .ret) (bbu w_ (bbv 21 (bbu xc .ret) .skip)))))))))) (bbu xd .ret))))⟩
def oL:ak:=[
 qac 4 6 1]
def oM:ak:=[
 mV 13 0,
 oP 14 (.nilCheck (.t 13)),
 aV 15 2 14,
 aP 16 1 15,
 oP 17 (.eq true .slice (.t 16) (.c .ax))]
def oO:ak:=[
 mV 18 0,
 oP 19 (.nilCheck (.t 18)),
 aV 20 0 19,
 aP 21 1 20,
 mV 6 21]
def oQ:ak:=[
 mV 22 0,
 oP 23 (.nilCheck (.t 22)),
 aV 24 0 23,
 aP 25 1 24,
 dS 26 25 1,
 oP 27 (.nilCheck (.t 22)),
 aV 28 0 27,
 aO 1 28 26]
def oR:ak:=[
 mV 29 0,
 mV 30 0,
 oP 31 (.nilCheck (.t 30)),
 aV 32 1 31,
 aP 33 1 32,
 mV 34 2,
 oP 35 (.iF true (.t 33) (.t 34)),
 oP 36 (.nilCheck (.t 29)),
 aV 37 1 36,
 aO 1 37 35]
def oS:ak:=[
 mV 39 6,
 oP 40 (.bin .geq (.t 39) (.c (.int .i64 4096))),
 mV 38 40]
def Xt:ak:=[
 mV 41 0,
 mV 42 6,
 oP 43 (.call 48 [(.t 42),(.c (.int .i64 5))]),
 oP 44 (.nilCheck (.t 41)),
 aV 45 2 44,
 aO 1 45 43]
def qj:ak:=[
 mV 47 2,
 oP 48 (.bin .gtr (.t 47) (.c (.int .i64 256))),
 mV 46 48]
def Xu:ak:=[
 mV 49 0,
 mV 50 6,
 oP 51 (.call 48 [(.t 50),(.c (.int .i64 9))]),
 oP 52 (.nilCheck (.t 49)),
 aV 53 2 52,
 aO 1 53 51]
def rC:ak:=[
 bm 55 6 4,
 bT 56 49 55,
 oP 57 (.un .not (.t 56)),
 mV 54 57]
def Nd:ak:=[
 mV 58 0,
 mV 59 6,
 oP 60 (.call 48 [(.t 59),(.c (.int .i64 40))]),
 oP 61 (.nilCheck (.t 58)),
 aV 62 2 61,
 aO 1 62 60]
def nM:ak:=[
 aV 64 0 4,
 aP 65 1 64,
 cq 66 65 1,
 mV 67 66,
 cM 68 1 4 67 true,
 cy 69 1 68 67 true,
 oG 70 (.bin .lss (.t 69) (.c (.int .i64 (-576460752303423488)))) 67 true,
 br 71 70 67 true,
 cM 72 1 4 71 false,
 cy 73 1 72 71 false,
 oG 74 (.bin .gtr (.t 73) (.c (.int .i64 576460752303423487))) 71 false,
 oG 75 (.pick (.t 71) (.c (.bool true)) (.t 74)) 67 true,
 c9 76 67 75,
 mV 63 76]
def Hc:ak:=[
 mV 77 0,
 mV 78 6,
 oP 79 (.call 48 [(.t 78),(.c (.int .i64 2))]),
 oP 80 (.nilCheck (.t 77)),
 aV 81 2 80,
 aO 1 81 79]
def rD:ak:=[
 aV 83 0 4,
 aP 84 1 83,
 cq 85 84 2,
 mV 82 85]
def Hd:ak:=[
 aV 87 2 4,
 aP 88 1 87,
 bT 89 50 88,
 mV 86 89,
 bS 90 86 0,
 bS 91 86 1,
 mV 7 90,
 mV 8 91]
def He:ak:=[
 mV 92 8,
 oP 93 (.eq true .slice (.t 92) (.c .ax))]
def Nf:ak:=[
 mV 94 0,
 mV 95 6,
 mV 96 8,
 cQ 97 51 95 96,
 oP 98 (.nilCheck (.t 94)),
 aV 99 2 98,
 aO 1 99 97]
def xz:ak:=[
 aV 101 0 4,
 aP 102 1 101,
 cq 103 102 3,
 mV 104 103,
 cM 105 0 4 104 false,
 cy 106 1 105 104 false,
 gR 107 106 4 104 false,
 db 108 104 107,
 mV 100 108]
def B6:ak:=[
 aV 110 2 4,
 aP 111 1 110,
 bT 112 52 111,
 mV 109 112,
 bS 113 109 0,
 bS 114 109 1,
 bS 115 109 2,
 mV 9 113,
 mV 10 114,
 mV 11 115]
def B7:ak:=[
 mV 116 11,
 oP 117 (.eq true .slice (.t 116) (.c .ax))]
def Hf:ak:=[
 mV 118 0,
 mV 119 6,
 mV 120 11,
 cQ 121 51 119 120,
 oP 122 (.nilCheck (.t 118)),
 aV 123 2 122,
 aO 1 123 121]
def uz:ak:=[
 aI 12 0]
def B5:ak:=[
 mV 124 12,
 aV 125 5 4,
 aP 126 1 125,
 cK 127 126,
 dQ 128 124 127,
 mV 129 128,
 br 130 0 129 true,
 oG 131 (.nilCheck (.t 130)) 129 true,
 cM 132 2 131 129 true,
 cy 133 1 132 129 true,
 oG 134 (.eq false .slice (.t 133) (.c .ax)) 129 true,
 c9 135 129 134]
def Xr:ak:=[
 mV 138 0,
 aV 139 5 4,
 aP 140 1 139,
 mV 141 12,
 dV 142 6 140 141,
 bm 143 6 142,
 mV 144 2,
 dS 145 144 1,
 oP 146 (.call 32 [(.t 138),(.t 143),(.t 145)])]
def Xs:ak:=[
 mV 136 12,
 dS 137 136 1,
 mV 12 137]
def ki:AC:=(.seq (bbu B5 (bbv 135 .skip (.exit 1))) (.seq (.block 2 (.ops Xr)) (.ops Xs)))
def a32:aS:=⟨[],(bbu oL (.seq (bbu oM (bbv 17 .ret .skip)) (bbu oO (bbu oQ (bbu oR (.seq (.block 0 (bbu oS (bbv 38 (.ops Xt) (bbu qj (bbv 46 (.ops Xu) (bbu rC (bbv 54 (.ops Nd) (bbu nM (bbv 63 (.ops Hc) (bbu rD (bbv 82 (bbu Hd (bbu He (bbv 93 (.ops Nf) .skip))) (bbu xz (bbv 100 (bbu B6 (bbu B7 (bbv 117 (.ops Hf) .skip))) .skip))))))))))))) (bbu uz (.block 1 (.loop ki)))))))))⟩
def RO:ak:=[
 qac 2 6 0,
 qac 3 6 1,
 cE 4 false]
def RP:ak:=[
 bm 5 6 2,
 bT 6 36 5,
 oP 7 (.eq false (.iface true) (.t 6) (.c .bL)),
 mV 8 7,
 oG 9 (.load true 6 (.t 3)) 8 true,
 oG 10 (.call 36 [(.t 9)]) 8 true,
 oG 11 (.eq false (.iface true) (.t 10) (.c .bL)) 8 true,
 c9 12 8 11,
 mV 13 12,
 oG 14 (.load true 6 (.t 2)) 13 true,
 oG 15 (.load true 6 (.t 3)) 13 true,
 oG 16 (.call 53 [(.t 14),(.t 15)]) 13 true,
 gR 17 16 0 13 true,
 c9 18 13 17,
 mV 4 18]
def a33:aS:=⟨[.tmp 4],(bbu RO (bbu RP .ret))⟩
def aeL:ak:=[
 qac 1 6 0,
 oP 2 (.mv (.c .bL))]
def aeM:ak:=[
 bm 7 6 1,
 bT 8 54 7,
 mV 6 8,
 bS 9 6 0,
 bS 10 6 1,
 bS 11 6 2,
 mV 3 9,
 mV 4 10,
 mV 5 11]
def aeN:ak:=[
 mV 12 5,
 mV 2 12]
def a36:aS:=⟨[.tmp 2],(bbu aeL (bbu aeM (bbu aeN .ret)))⟩
def X9:ak:=[
 qaf 4,
 aI 5 0]
def X_:ak:=[
 mV 7 0]
def Ya:ak:=[
 bF 9 7 [43],
 mV 8 9]
def Yb:ak:=[
 bF 10 7 [45],
 mV 8 10]
def Yc:ak:=[
 bF 11 7 [42],
 mV 8 11]
def Yd:ak:=[
 bF 12 7 [100,105,118],
 mV 8 12]
def Ye:ak:=[
 bF 13 7 [114,101,109],
 mV 8 13]
def Yf:ak:=[
 mV 14 1,
 cK 15 14,
 cq 16 15 1]
def J3:ak:=[
 oP 17 (.call 59 [(.c (.int .i64 0))]),
 mV 18 1,
 dh 19 6 18 0,
 bm 20 6 19,
 oP 21 (.lit true 6 2 [(.int .i64 0),(.int .i64 0),(.str []),(.int .u32 0),.ax,.ax,(.int .i64 0),(.int .i64 0),(.str []),(.int .u32 0),.ax,.ax] [(0,6,(.t 17)),(6,6,(.t 20))]),
 mV 1 21]
def ah8:List Nat:=[0,0,2,6,15,31]
def tj:ak:=[
 mV 22 0,
 mV 23 1,
 dh 24 6 23 0,
 bm 25 6 24,
 mV 26 1,
 dh 27 6 26 1,
 bm 28 6 27,
 oP 29 (.call 60 [(.t 22),(.t 25),(.t 28)]),
 bS 30 29 0,
 bS 31 29 1,
 aO 6 4 30,
 mV 5 31]
def ah9:List Nat:=[0,0,2,6,0,16,48,127,255,255,1023,2047]
def Nu:ak:=[
 bF 33 7 [97,110,100],
 mV 32 33]
def Nv:ak:=[
 bF 34 7 [111,114],
 mV 32 34]
def Nw:ak:=[
 bF 35 7 [120,111,114],
 mV 32 35]
def xA:ak:=[
 mV 36 0,
 mV 37 1,
 dh 38 6 37 0,
 bm 39 6 38,
 mV 40 1,
 dh 41 6 40 1,
 bm 42 6 41,
 oP 43 (.call 61 [(.t 36),(.t 39),(.t 42)]),
 bS 44 43 0,
 bS 45 43 1,
 aO 6 4 44,
 mV 5 45]
def acn:List Nat:=[0,0,2,6,0,16,48,127,255,255,1023,2047]
def Nx:ak:=[
 bF 47 7 [110,111,116],
 mV 46 47]
def FE:ak:=[
 mV 48 1,
 dh 49 6 48 0,
 bm 50 6 49,
 qad 51 34 [116,114,117,101],
 oP 52 (.call 61 [(.c (.str [120,111,114])),(.t 50),(.t 51)]),
 bS 53 52 0,
 bS 54 52 1,
 aO 6 4 53,
 mV 5 54]
def aco:List Nat:=[0,1,3,0,15,31,31,127,255]
def Ny:ak:=[
 bF 56 7 [61,61],
 mV 55 56]
def Nz:ak:=[
 bF 57 7 [47,61],
 mV 55 57]
def NA:ak:=[
 bF 58 7 [61,60],
 mV 55 58]
def NB:ak:=[
 bF 59 7 [60],
 mV 55 59]
def NC:ak:=[
 bF 60 7 [62,61],
 mV 55 60]
def ND:ak:=[
 bF 61 7 [62],
 mV 55 61]
def NF:ak:=[
 bF 62 7 [61,58,61],
 mV 55 62]
def NG:ak:=[
 bF 63 7 [61,47,61],
 mV 55 63]
def l9:ak:=[
 mV 64 0,
 mV 65 1,
 dh 66 6 65 0,
 bm 67 6 66,
 mV 68 1,
 dh 69 6 68 1,
 bm 70 6 69,
 cQ 71 64 67 70,
 cQ 72 63 64 71,
 bT 73 62 72,
 aO 6 4 73,
 aI 5 0]
def acp:List Nat:=[0,0,2,6,0,16,48,126,255,511,1023,2047]
def NH:ak:=[
 bF 75 7 [109,97,120],
 mV 74 75]
def NI:ak:=[
 bF 76 7 [109,105,110],
 mV 74 76]
def uB:ak:=[
 mV 77 1,
 dh 78 6 77 0,
 bm 79 6 78,
 mV 80 1,
 dh 81 6 80 1,
 bm 82 6 81,
 cQ 83 64 79 82,
 mV 6 83]
def acq:List Nat:=[0,1,3,0,8,24,63,127]
def uC:ak:=[
 mV 84 0,
 bF 85 84 [109,97,120],
 mV 86 85,
 br 87 6 86 true,
 oG 88 (.bin .lss (.t 87) (.c (.int .i64 0))) 86 true,
 c9 89 86 88,
 mV 90 89,
 br 91 0 90 false,
 oG 92 (.bin .eql (.t 91) (.c (.str [109,105,110]))) 90 false,
 br 93 92 90 false,
 br 94 6 93 true,
 oG 95 (.bin .gtr (.t 94) (.c (.int .i64 0))) 93 true,
 oG 96 (.pick (.t 93) (.t 95) (.c (.bool false))) 90 false,
 db 97 90 96]
def Ca:ak:=[
 mV 98 1,
 dh 99 6 98 1,
 bm 100 6 99,
 aO 6 4 100,
 aI 5 0]
def Cb:ak:=[
 mV 101 1,
 dh 102 6 101 0,
 bm 103 6 102,
 aO 6 4 103,
 aI 5 0]
def NJ:ak:=[
 bF 105 7 [43,43],
 mV 104 105]
def NK:ak:=[
 bF 106 7 [45,45],
 mV 104 106]
def Cc:ak:=[
 mV 107 0,
 mV 108 1,
 dh 109 6 108 0,
 bm 110 6 109,
 mV 111 1,
 dh 112 6 111 1,
 bm 113 6 112,
 oP 114 (.call 65 [(.t 107),(.t 110),(.t 113)]),
 bS 115 114 0,
 bS 116 114 1,
 aO 6 4 115,
 mV 5 116]
def acr:List Nat:=[0,0,2,6,0,16,48,127,255,255,1023,2047]
def NL:ak:=[
 mV 117 0,
 oP 118 (.call 66 [(.t 117),(.c (.str [105,115,95]))])]
def NM:ak:=[
 mV 119 0,
 mV 120 1,
 dh 121 6 120 0,
 bm 122 6 121,
 cQ 123 67 119 122,
 bT 124 62 123,
 aO 6 4 124,
 aI 5 0]
def NN:ak:=[
 mV 125 0,
 mV 126 1,
 cQ 127 68 125 126,
 bS 128 127 0,
 bS 129 127 1,
 aO 6 4 128,
 mV 5 129]
def mf:aS:=⟨[.cell 4 true 6,.tmp 5],(bbu X9 (.seq (bbu X_ (.block 0 (.seq (bbu Ya (bbv 8 .skip (bbu Yb (bbv 8 .skip (bbu Yc (bbv 8 .skip (bbu Yd (bbv 8 .skip (.ops Ye))))))))) (bbv 8 (.seq (bbu Yf (bbv 16 (.draw J3 ah8) .skip)) (.seq (.draw tj ah9) .ret)) (.seq (bbu Nu (bbv 32 .skip (bbu Nv (bbv 32 .skip (.ops Nw))))) (bbv 32 (.seq (.draw xA acn) .ret) (bbu Nx (bbv 46 (.seq (.draw FE aco) .ret) (.seq (bbu Ny (bbv 55 .skip (bbu Nz (bbv 55 .skip (bbu NA (bbv 55 .skip (bbu NB (bbv 55 .skip (bbu NC (bbv 55 .skip (bbu ND (bbv 55 .skip (bbu NF (bbv 55 .skip (.ops NG))))))))))))))) (bbv 55 (.seq (.draw l9 acp) .ret) (.seq (bbu NH (bbv 74 .skip (.ops NI))) (bbv 74 (.seq (.draw uB acq) (.seq (bbu uC (bbv 97 (bbu Ca .ret) .skip)) (bbu Cb .ret))) (.seq (bbu NJ (bbv 104 .skip (.ops NK))) (bbv 104 (.seq (.draw Cc acr) .ret) .skip)))))))))))))) (.seq (bbu NL (bbv 118 (bbu NM .ret) .skip)) (bbu NN .ret))))⟩
def ae_:ak:=[
 qac 1 6 0,
 qaf 2]
def afa:ak:=[
 aV 6 4 1,
 aP 7 1 6,
 bT 8 69 7,
 aV 9 4 1,
 aO 1 9 8]
def afb:ak:=[
 oP 3 (.mv (.c .ax))]
def afc:ak:=[
 aV 10 5 1,
 aP 11 1 10,
 cK 12 11,
 aI 13 0]
def Yg:ak:=[
 dQ 14 13 12]
def afd:ak:=[
 dV 15 6 11 13,
 bm 16 6 15,
 qaf 5,
 aO 6 5 16]
def afe:ak:=[
 mV 17 3,
 bm 18 6 5,
 bT 19 39 18,
 oP 20 (.lit true 6 1 bA [(0,6,(.t 19))]),
 qab 21 6 88 17 20,
 mV 3 21]
def aff:ak:=[
 dS 22 13 1,
 mV 13 22]
def Hh:AC:=(bbu Yg (.seq (bbv 14 .skip (.exit 0)) (.seq (.block 1 (bbu afd (.ops afe))) (.ops aff))))
def afg:ak:=[
 mV 23 3,
 aV 24 5 1,
 aO 1 24 23]
def Yh:ak:=[
 bm 25 6 1,
 aO 6 2 25]
def a39:aS:=⟨[.cell 2 true 6],(bbu ae_ (bbu afa (bbu afb (.seq (bbu afc (.block 0 (.loop Hh))) (bbu afg (bbu Yh .ret))))))⟩
def rG:ak:=[
 qac 2 6 0,
 qac 3 6 1,
 aI 4 0]
def rH:ak:=[
 aV 9 0 2,
 aP 10 1 9,
 aV 11 0 3,
 aP 12 1 11,
 oP 13 (.bin .neq (.t 10) (.t 12))]
def afh:ak:=[
 aV 14 0 2,
 aP 15 1 14,
 aV 16 0 3,
 aP 17 1 16,
 cQ 18 70 15 17,
 mV 4 18]
def tn:ak:=[
 aV 19 0 2,
 aP 20 1 19]
def tp:ak:=[
 cq 22 20 1,
 mV 21 22]
def afi:ak:=[
 aV 23 1 2,
 aP 24 1 23,
 aV 25 1 3,
 aP 26 1 25,
 cQ 27 70 24 26,
 mV 4 27]
def wv:ak:=[
 cq 29 20 2,
 mV 28 29]
def afj:ak:=[
 aV 30 2 2,
 aP 31 1 30,
 aV 32 2 3,
 aP 33 1 32,
 cQ 34 71 31 33,
 mV 4 34]
def yz:ak:=[
 cq 36 20 3,
 mV 35 36]
def EF:ak:=[
 cq 37 20 4,
 mV 35 37]
def Cd:ak:=[
 aV 38 2 2,
 aP 39 1 38,
 aV 40 2 3,
 aP 41 1 40,
 cQ 42 71 39 41,
 mV 5 42]
def Ce:ak:=[
 mV 43 5,
 cq 44 43 0]
def NO:ak:=[
 aV 45 3 2,
 aP 46 1 45,
 oP 47 (.conv (.int .i64) (.t 46)),
 aV 48 3 3,
 aP 49 1 48,
 oP 50 (.conv (.int .i64) (.t 49)),
 cQ 51 70 47 50,
 mV 5 51]
def Cf:ak:=[
 aI 6 0]
def Hi:ak:=[
 mV 52 6,
 aV 53 4 2,
 aP 54 1 53,
 cK 55 54,
 dQ 56 52 55,
 mV 57 56,
 br 58 5 57 true,
 gR 59 58 0 57 true,
 c9 60 57 59]
def Yi:ak:=[
 aV 63 4 2,
 aP 64 1 63,
 mV 65 6,
 dV 66 1 64 65,
 aP 67 1 66,
 oP 68 (.conv (.int .i64) (.t 67)),
 aV 69 4 3,
 aP 70 1 69,
 mV 71 6,
 dV 72 1 70 71,
 aP 73 1 72,
 oP 74 (.conv (.int .i64) (.t 73)),
 cQ 75 70 68 74,
 mV 5 75]
def acs:List Nat:=[0,1,0,7,15,31,0,64,0,448,960,1984,4095,8191]
def Yj:ak:=[
 mV 61 6,
 dS 62 61 1,
 mV 6 62]
def wz:AC:=(.seq (bbu Hi (bbv 60 .skip (.exit 1))) (.seq (.block 2 (.draw Yi acs)) (.ops Yj)))
def Cg:ak:=[
 mV 76 5,
 mV 4 76]
def Hj:ak:=[
 cq 78 20 5,
 mV 77 78]
def Yk:ak:=[
 aV 79 5 2,
 aP 80 1 79,
 cK 81 80,
 aV 82 5 3,
 aP 83 1 82,
 cK 84 83,
 cQ 85 70 81 84,
 mV 7 85]
def Yl:ak:=[
 aI 8 0]
def Hk:ak:=[
 mV 86 8,
 aV 87 5 2,
 aP 88 1 87,
 cK 89 88,
 dQ 90 86 89,
 mV 91 90,
 br 92 7 91 true,
 gR 93 92 0 91 true,
 c9 94 91 93]
def Ym:ak:=[
 aV 97 5 2,
 aP 98 1 97,
 mV 99 8,
 dV 100 6 98 99,
 bm 101 6 100,
 aV 102 5 3,
 aP 103 1 102,
 mV 104 8,
 dV 105 6 103 104,
 bm 106 6 105,
 cQ 107 40 101 106,
 mV 7 107]
def acu:List Nat:=[0,1,0,7,15,0,32,0,224,480,1023,2047]
def Yn:ak:=[
 mV 95 8,
 dS 96 95 1,
 mV 8 96]
def wA:AC:=(.seq (bbu Hk (bbv 94 .skip (.exit 3))) (.seq (.block 4 (.draw Ym acu)) (.ops Yn)))
def Yo:ak:=[
 mV 108 7,
 mV 4 108]
def NP:ak:=[
 cq 110 20 7,
 mV 109 110]
def Yp:ak:=[
 bm 111 6 2,
 bm 112 6 3,
 cQ 113 72 111 112,
 mV 4 113]
def Yq:ak:=[
 aI 4 0]
def a40:aS:=⟨[.tmp 4],(bbu rG (.seq (bbu rH (bbv 13 (bbu afh .ret) .skip)) (.seq (bbu tn (.block 0 (bbu tp (bbv 21 (bbu afi .ret) (bbu wv (bbv 28 (bbu afj .ret) (.seq (bbu yz (bbv 35 .skip (.ops EF))) (bbv 35 (bbu Cd (.seq (bbu Ce (bbv 44 (.ops NO) .skip)) (.seq (bbu Cf (.block 1 (.loop wz))) (bbu Cg .ret)))) (bbu Hj (bbv 77 (bbu Yk (.seq (bbu Yl (.block 3 (.loop wA))) (bbu Yo .ret))) (bbu NP (bbv 109 (bbu Yp .ret) .skip)))))))))))) (bbu Yq .ret))))⟩
def Em:ak:=[
 qac 3 6 1,
 qaf 4]
def En:ak:=[
 mV 6 0,
 cK 7 6,
 cq 8 7 0]
def VW:ak:=[
 bm 9 6 3,
 aO 6 4 9]
def QC:ak:=[
 oP 10 (.lit true 6 0 [] []),
 mV 11 0,
 qab 12 6 88 10 11,
 mV 5 12]
def QD:ak:=[
 aV 13 0 3,
 aP 14 1 13,
 cq 15 14 7]
def afk:ak:=[
 mV 16 5,
 aV 17 5 3,
 aP 18 1 17,
 qab 19 6 88 16 18,
 oP 20 (.build bA [(0,1,(.c (.int .i64 7))),(5,1,(.t 19))]),
 aO 6 4 20]
def VX:ak:=[
 mV 21 5,
 bm 22 6 3,
 oP 23 (.lit true 6 1 bA [(0,6,(.t 22))]),
 qab 24 6 88 21 23,
 oP 25 (.build bA [(0,1,(.c (.int .i64 7))),(5,1,(.t 24))]),
 aO 6 4 25]
def a41:aS:=⟨[.cell 4 true 6],(bbu Em (.seq (bbu En (bbv 8 (bbu VW .ret) .skip)) (bbu QC (.seq (bbu QD (bbv 15 (bbu afk .ret) .skip)) (bbu VX .ret)))))⟩
def Yr:ak:=[
 qaf 4,
 aI 5 0]
def Ys:ak:=[
 mV 6 0]
def Yt:ak:=[
 bF 8 6 [43],
 mV 7 8]
def Yu:ak:=[
 bF 9 6 [45],
 mV 7 9]
def Yv:ak:=[
 bF 10 6 [42],
 mV 7 10]
def Yw:ak:=[
 bF 11 6 [100,105,118],
 mV 7 11]
def Yx:ak:=[
 bF 12 6 [114,101,109],
 mV 7 12]
def Yy:ak:=[
 mV 13 0,
 mV 14 1,
 cQ 15 74 13 14,
 bS 16 15 0,
 bS 17 15 1,
 aO 6 4 16,
 mV 5 17]
def Yz:ak:=[
 bF 19 6 [110,111,116],
 mV 18 19]
def YA:ak:=[
 bF 20 6 [97,110,100],
 mV 18 20]
def NQ:ak:=[
 bF 21 6 [111,114],
 mV 18 21]
def NR:ak:=[
 bF 22 6 [120,111,114],
 mV 18 22]
def NS:ak:=[
 mV 23 0,
 mV 24 1,
 cQ 25 75 23 24,
 bS 26 25 0,
 bS 27 25 1,
 aO 6 4 26,
 mV 5 27]
def NT:ak:=[
 bF 29 6 [43,43],
 mV 28 29]
def NU:ak:=[
 bF 30 6 [45,45],
 mV 28 30]
def Bi:ak:=[
 mV 31 0,
 mV 32 1,
 dh 33 6 32 0,
 bm 34 6 33,
 mV 35 1,
 dh 36 6 35 1,
 bm 37 6 36,
 oP 38 (.call 76 [(.t 31),(.t 34),(.t 37)]),
 bS 39 38 0,
 bS 40 38 1,
 aO 6 4 39,
 mV 5 40]
def acv:List Nat:=[0,0,2,6,0,16,48,127,255,255,1023,2047]
def NV:ak:=[
 bF 42 6 [61,61],
 mV 41 42]
def NW:ak:=[
 bF 43 6 [61,58,61],
 mV 41 43]
def Bj:ak:=[
 mV 44 1,
 dh 45 6 44 0,
 bm 46 6 45,
 mV 47 1,
 dh 48 6 47 1,
 bm 49 6 48,
 cQ 50 20 46 49,
 cq 51 50 0,
 bT 52 77 51,
 aO 6 4 52,
 aI 5 0]
def acw:List Nat:=[0,1,3,0,8,24,63,127,255,511,1023]
def NX:ak:=[
 bF 54 6 [47,61],
 mV 53 54]
def NY:ak:=[
 bF 55 6 [61,47,61],
 mV 53 55]
def Bk:ak:=[
 mV 56 1,
 dh 57 6 56 0,
 bm 58 6 57,
 mV 59 1,
 dh 60 6 59 1,
 bm 61 6 60,
 cQ 62 20 58 61,
 oP 63 (.bin .neq (.t 62) (.c (.int .i64 0))),
 bT 64 77 63,
 aO 6 4 64,
 aI 5 0]
def acx:List Nat:=[0,1,3,0,8,24,63,127,255,511,1023]
def NZ:ak:=[
 bF 66 6 [61,60],
 mV 65 66]
def Fq:ak:=[
 mV 67 1,
 dh 68 6 67 0,
 bm 69 6 68,
 mV 70 1,
 dh 71 6 70 1,
 bm 72 6 71,
 cQ 73 20 69 72,
 oP 74 (.bin .leq (.t 73) (.c (.int .i64 0))),
 bT 75 77 74,
 aO 6 4 75,
 aI 5 0]
def acy:List Nat:=[0,1,3,0,8,24,63,127,255,511,1023]
def N0:ak:=[
 bF 77 6 [60],
 mV 76 77]
def Fs:ak:=[
 mV 78 1,
 dh 79 6 78 0,
 bm 80 6 79,
 mV 81 1,
 dh 82 6 81 1,
 bm 83 6 82,
 cQ 84 20 80 83,
 oP 85 (.bin .lss (.t 84) (.c (.int .i64 0))),
 bT 86 77 85,
 aO 6 4 86,
 aI 5 0]
def acz:List Nat:=[0,1,3,0,8,24,63,127,255,511,1023]
def N1:ak:=[
 bF 88 6 [62,61],
 mV 87 88]
def Ft:ak:=[
 mV 89 1,
 dh 90 6 89 0,
 bm 91 6 90,
 mV 92 1,
 dh 93 6 92 1,
 bm 94 6 93,
 cQ 95 20 91 94,
 oP 96 (.bin .geq (.t 95) (.c (.int .i64 0))),
 bT 97 77 96,
 aO 6 4 97,
 aI 5 0]
def acA:List Nat:=[0,1,3,0,8,24,63,127,255,511,1023]
def N2:ak:=[
 bF 99 6 [62],
 mV 98 99]
def Fu:ak:=[
 mV 100 1,
 dh 101 6 100 0,
 bm 102 6 101,
 mV 103 1,
 dh 104 6 103 1,
 bm 105 6 104,
 cQ 106 20 102 105,
 oP 107 (.bin .gtr (.t 106) (.c (.int .i64 0))),
 bT 108 77 107,
 aO 6 4 108,
 aI 5 0]
def acB:List Nat:=[0,1,3,0,8,24,63,127,255,511,1023]
def N3:ak:=[
 bF 110 6 [109,97,120],
 mV 109 110]
def Bl:ak:=[
 mV 111 1,
 dh 112 6 111 0,
 bm 113 6 112,
 mV 114 1,
 dh 115 6 114 1,
 bm 116 6 115,
 cQ 117 20 113 116,
 oP 118 (.bin .lss (.t 117) (.c (.int .i64 0)))]
def acC:List Nat:=[0,1,3,0,8,24,63,127]
def Fv:ak:=[
 mV 119 1,
 dh 120 6 119 1,
 bm 121 6 120,
 aO 6 4 121,
 aI 5 0]
def Fw:ak:=[
 mV 122 1,
 dh 123 6 122 0,
 bm 124 6 123,
 aO 6 4 124,
 aI 5 0]
def N4:ak:=[
 bF 126 6 [109,105,110],
 mV 125 126]
def Bm:ak:=[
 mV 127 1,
 dh 128 6 127 0,
 bm 129 6 128,
 mV 130 1,
 dh 131 6 130 1,
 bm 132 6 131,
 cQ 133 20 129 132,
 oP 134 (.bin .gtr (.t 133) (.c (.int .i64 0)))]
def acD:List Nat:=[0,1,3,0,8,24,63,127]
def Fx:ak:=[
 mV 135 1,
 dh 136 6 135 1,
 bm 137 6 136,
 aO 6 4 137,
 aI 5 0]
def Fy:ak:=[
 mV 138 1,
 dh 139 6 138 0,
 bm 140 6 139,
 aO 6 4 140,
 aI 5 0]
def N5:ak:=[
 mV 141 0,
 mV 142 1,
 cQ 143 78 141 142,
 bS 144 143 0,
 bS 145 143 1,
 aO 6 4 144,
 mV 5 145]
def my:aS:=⟨[.cell 4 true 6,.tmp 5],(bbu Yr (.seq (bbu Ys (.block 0 (.seq (bbu Yt (bbv 7 .skip (bbu Yu (bbv 7 .skip (bbu Yv (bbv 7 .skip (bbu Yw (bbv 7 .skip (.ops Yx))))))))) (bbv 7 (bbu Yy .ret) (.seq (bbu Yz (bbv 18 .skip (bbu YA (bbv 18 .skip (bbu NQ (bbv 18 .skip (.ops NR))))))) (bbv 18 (bbu NS .ret) (.seq (bbu NT (bbv 28 .skip (.ops NU))) (bbv 28 (.seq (.draw Bi acv) .ret) (.seq (bbu NV (bbv 41 .skip (.ops NW))) (bbv 41 (.seq (.draw Bj acw) .ret) (.seq (bbu NX (bbv 53 .skip (.ops NY))) (bbv 53 (.seq (.draw Bk acx) .ret) (bbu NZ (bbv 65 (.seq (.draw Fq acy) .ret) (bbu N0 (bbv 76 (.seq (.draw Fs acz) .ret) (bbu N1 (bbv 87 (.seq (.draw Ft acA) .ret) (bbu N2 (bbv 98 (.seq (.draw Fu acB) .ret) (bbu N3 (bbv 109 (.seq (.seq (.draw Bl acC) (bbv 118 (bbu Fv .ret) .skip)) (bbu Fw .ret)) (bbu N4 (bbv 125 (.seq (.seq (.draw Bm acD) (bbv 134 (bbu Fx .ret) .skip)) (bbu Fy .ret)) .skip)))))))))))))))))))))))) (bbu N5 .ret)))⟩
def YB:ak:=[
 oP 2 (.mv (.c .ax))]
def YC:ak:=[
 oP 3 (.mv (.c .ax))]
def YD:ak:=[
 aI 4 0]
def YE:ak:=[
 mV 6 4,
 oP 7 (.bin .lss (.t 6) (.c (.int .i64 16))),
 mV 8 7,
 br 9 0 8 true,
 oG 10 (.eq true (.iface true) (.t 9) (.c .bL)) 8 true,
 c9 11 8 10]
def afl:ak:=[
 oP 5 (.alloc [.gC])]
def afm:ak:=[
 mV 14 0,
 oP 15 (.dU 71 (.t 5)),
 cQ 16 37 14 15,
 oP 17 (.un .not (.t 16)),
 mV 18 17,
 cy 19 1 5 18 false,
 oG 20 (.eq false .ptr (.t 19) (.c .gC)) 18 false,
 db 21 18 20]
def amC:ak:=[
 mV 22 3,
 mV 2 22]
def afn:ak:=[
 mV 23 3,
 aP 24 1 5,
 oP 25 (.nilCheck (.t 24)),
 aV 26 0 25,
 aP 27 1 26,
 aP 28 1 5,
 oP 29 (.nilCheck (.t 28)),
 aV 30 1 29,
 aP 31 1 30,
 aP 32 1 5,
 oP 33 (.nilCheck (.t 32)),
 aV 34 2 33,
 aP 35 1 34,
 oP 36 (.build [(.str []),(.int .i64 0),(.int .i64 0)] [(0,1,(.t 27)),(1,1,(.t 31)),(2,1,(.t 35))]),
 oP 37 (.lit true 3 1 [(.str []),(.int .i64 0),(.int .i64 0)] [(0,3,(.t 36))]),
 qab 38 3 32 23 37,
 mV 3 38]
def ah_:List Nat:=[0,0,2,6,14,0,32,96,224,0,512,1536,3584,8190,16382,32767,65535]
def afo:ak:=[
 aP 39 1 5,
 oP 40 (.nilCheck (.t 39)),
 aV 41 3 40,
 aP 42 1 41,
 mV 0 42]
def afp:ak:=[
 mV 12 4,
 dS 13 12 1,
 mV 4 13]
def wB:AC:=(.seq (bbu YE (bbv 11 .skip (.exit 0))) (.seq (.block 1 (bbu afl (.seq (bbu afm (bbv 21 (bbu amC .ret) .skip)) (.seq (.draw afn ah_) (.ops afo))))) (.ops afp)))
def N6:ak:=[
 mV 43 3,
 mV 2 43]
def a45:aS:=⟨[.tmp 2],(bbu YB (bbu YC (.seq (bbu YD (.block 0 (.loop wB))) (bbu N6 .ret))))⟩
def oI:ak:=[
 qac 1 6 0,
 cE 2 false]
def oJ:ak:=[
 aV 4 0 1,
 aP 5 1 4]
def oK:ak:=[
 cq 7 5 1,
 mV 6 7]
def aeD:ak:=[
 bm 8 6 1,
 oP 9 (.call 83 [(.t 8),(.c (.str [105]))]),
 mV 2 9]
def qi:ak:=[
 cq 11 5 2,
 mV 10 11]
def aeE:ak:=[
 bm 12 6 1,
 oP 13 (.call 83 [(.t 12),(.c (.str [115]))]),
 mV 2 13]
def rA:ak:=[
 cq 15 5 3,
 mV 14 15]
def W4:ak:=[
 bm 16 6 1,
 oP 17 (.call 83 [(.t 16),(.c (.str [115,99,110]))]),
 mV 18 17,
 cM 19 4 1 18 true,
 cy 20 1 19 18 true,
 oG 21 (.len false (.t 20)) 18 true,
 gR 22 21 3 18 true,
 c9 23 18 22,
 mV 2 23]
def wh:ak:=[
 cq 25 5 4,
 mV 24 25]
def W6:ak:=[
 bm 26 6 1,
 oP 27 (.call 83 [(.t 26),(.c (.str [115,99,110]))]),
 mV 28 27,
 cM 29 4 1 28 true,
 cy 30 1 29 28 true,
 oG 31 (.len false (.t 30)) 28 true,
 gR 32 31 2 28 true,
 c9 33 28 32,
 mV 2 33]
def uy:ak:=[
 cq 35 5 5,
 mV 34 35]
def W8:ak:=[
 bm 36 6 1,
 oP 37 (.call 83 [(.t 36),(.c (.str [97]))]),
 mV 2 37]
def xy:ak:=[
 cq 39 5 6,
 mV 38 39]
def W_:ak:=[
 bm 40 6 1,
 oP 41 (.call 83 [(.t 40),(.c (.str []))]),
 mV 2 41]
def B2:ak:=[
 cq 43 5 7,
 mV 42 43]
def G8:ak:=[
 aV 44 5 1,
 aP 45 1 44,
 cK 46 45,
 mV 3 46]
def G9:ak:=[
 bm 47 6 1,
 oP 48 (.call 83 [(.t 47),(.c (.str [97]))]),
 mV 49 48,
 br 50 3 49 true,
 oG 51 (.bin .geq (.t 50) (.c (.int .i64 2))) 49 true,
 c9 52 49 51,
 mV 53 52,
 cM 54 5 1 53 true,
 cy 55 1 54 53 true,
 br 56 3 53 true,
 oG 57 (.bin .sub (.t 56) (.c (.int .i64 1))) 53 true,
 oG 58 (.cL 6 (.t 55) (.t 57)) 53 true,
 cM 59 0 58 53 true,
 cy 60 1 59 53 true,
 oG 61 (.bin .neq (.t 60) (.c (.int .i64 7))) 53 true,
 c9 62 53 61,
 mV 2 62]
def Xc:ak:=[
 cE 2 false]
def a49:aS:=⟨[.tmp 2],(bbu oI (.seq (bbu oJ (.block 0 (bbu oK (bbv 6 (bbu aeD .ret) (bbu qi (bbv 10 (bbu aeE .ret) (bbu rA (bbv 14 (bbu W4 .ret) (bbu wh (bbv 24 (bbu W6 .ret) (bbu uy (bbv 34 (bbu W8 .ret) (bbu xy (bbv 38 (bbu W_ .ret) (bbu B2 (bbv 42 (bbu G8 (bbu G9 .ret)) .skip)))))))))))))))) (bbu Xc .ret)))⟩
def KH:ak:=[
 oP 2 (.mv (.c (.str []))),
 oP 3 (.mv (.c .ax))]
def KI:ak:=[
 mV 8 0,
 oP 9 (.len true (.t 8)),
 oP 10 (.bin .gtr (.t 9) (.c (.int .i64 255)))]
def afq:ak:=[
 oP 11 (.call 84 [(.c (.int .i64 0)),(.c (.int .i64 4))]),
 oP 2 (.mv (.c (.str []))),
 mV 3 11]
def RQ:ak:=[
 mV 12 0,
 bT 13 85 12,
 mV 4 13]
def RR:ak:=[
 mV 14 4,
 oP 15 (.bin .geq (.t 14) (.c (.int .i64 0)))]
def afr:ak:=[
 mV 16 4,
 oP 17 (.call 84 [(.t 16),(.c (.int .i64 23))]),
 oP 2 (.mv (.c (.str []))),
 mV 3 17]
def YF:ak:=[
 mV 18 0,
 bT 19 86 18]
def afs:ak:=[
 mV 20 0,
 mV 2 20,
 oP 3 (.mv (.c .ax))]
def aft:ak:=[
 oP 21 (.lit true 1 1 [(.int .u8 0)] [(0,1,(.c (.int .u8 39)))]),
 mV 5 21]
def afu:ak:=[
 aI 6 0]
def l_:ak:=[
 mV 22 6,
 mV 23 0,
 oP 24 (.len true (.t 23)),
 dQ 25 22 24]
def nN:ak:=[
 mV 28 0,
 mV 29 6,
 oP 30 (.dD (.t 28) (.t 29)),
 mV 7 30]
def nO:ak:=[
 mV 36 7,
 oP 37 (.bin .eql (.t 36) (.c (.int .u8 39))),
 mV 38 37,
 br 39 7 38 false,
 oG 40 (.bin .eql (.t 39) (.c (.int .u8 92))) 38 false,
 db 41 38 40,
 mV 35 41]
def Hl:ak:=[
 mV 42 5,
 mV 43 7,
 oP 44 (.lit true 1 2 [(.int .u8 0),(.int .u8 0)] [(0,1,(.c (.int .u8 92))),(1,1,(.t 43))]),
 qab 45 1 1 42 44,
 mV 5 45]
def rI:ak:=[
 mV 47 7,
 oP 48 (.bin .eql (.t 47) (.c (.int .u8 10))),
 mV 46 48]
def N7:ak:=[
 mV 49 5,
 oP 50 (.lit true 1 2 [(.int .u8 0),(.int .u8 0)] [(0,1,(.c (.int .u8 92))),(1,1,(.c (.int .u8 110)))]),
 qab 51 1 1 49 50,
 mV 5 51]
def uD:ak:=[
 mV 53 7,
 oP 54 (.bin .eql (.t 53) (.c (.int .u8 9))),
 mV 52 54]
def N8:ak:=[
 mV 55 5,
 oP 56 (.lit true 1 2 [(.int .u8 0),(.int .u8 0)] [(0,1,(.c (.int .u8 92))),(1,1,(.c (.int .u8 116)))]),
 qab 57 1 1 55 56,
 mV 5 57]
def xB:ak:=[
 mV 59 7,
 oP 60 (.bin .eql (.t 59) (.c (.int .u8 13))),
 mV 58 60]
def N9:ak:=[
 mV 61 5,
 oP 62 (.lit true 1 2 [(.int .u8 0),(.int .u8 0)] [(0,1,(.c (.int .u8 92))),(1,1,(.c (.int .u8 114)))]),
 qab 63 1 1 61 62,
 mV 5 63]
def Ch:ak:=[
 mV 65 7,
 oP 66 (.bin .lss (.t 65) (.c (.int .u8 32))),
 mV 67 66,
 br 68 7 67 false,
 oG 69 (.bin .eql (.t 68) (.c (.int .u8 127))) 67 false,
 db 70 67 69,
 mV 64 70]
def Hm:ak:=[
 mV 71 5,
 mV 72 7,
 oP 73 (.bin .quo (.t 72) (.c (.int .u8 16))),
 oP 74 (.dD (.c (.str [48,49,50,51,52,53,54,55,56,57,97,98,99,100,101,102])) (.t 73)),
 mV 75 7,
 oP 76 (.bin .rem (.t 75) (.c (.int .u8 16))),
 oP 77 (.dD (.c (.str [48,49,50,51,52,53,54,55,56,57,97,98,99,100,101,102])) (.t 76)),
 oP 78 (.lit true 1 4 [(.int .u8 0),(.int .u8 0),(.int .u8 0),(.int .u8 0)] [(0,1,(.c (.int .u8 92))),(1,1,(.c (.int .u8 120))),(2,1,(.t 74)),(3,1,(.t 77))]),
 qab 79 1 1 71 78,
 mV 5 79]
def Hn:List Nat:=[0,0,2,6,0,16,48,126,255,511]
def N_:ak:=[
 mV 31 5,
 mV 32 7,
 oP 33 (.lit true 1 1 [(.int .u8 0)] [(0,1,(.t 32))]),
 qab 34 1 1 31 33,
 mV 5 34]
def Ci:ak:=[
 mV 26 6,
 dS 27 26 1,
 mV 6 27]
def wC:AC:=(.seq (bbu l_ (bbv 25 .skip (.exit 0))) (.seq (.block 1 (bbu nN (.block 2 (bbu nO (bbv 35 (.ops Hl) (bbu rI (bbv 46 (.ops N7) (bbu uD (bbv 52 (.ops N8) (bbu xB (bbv 58 (.ops N9) (bbu Ch (bbv 64 (.draw Hm Hn) (.ops N_)))))))))))))) (.ops Ci)))
def YG:ak:=[
 mV 80 5,
 oP 81 (.lit true 1 1 [(.int .u8 0)] [(0,1,(.c (.int .u8 39)))]),
 qab 82 1 1 80 81,
 oP 83 (.conv .Ld (.t 82)),
 mV 2 83,
 oP 3 (.mv (.c .ax))]
def a50:aS:=⟨[.tmp 2,.tmp 3],(bbu KH (.seq (bbu KI (bbv 10 (bbu afq .ret) .skip)) (bbu RQ (.seq (bbu RR (bbv 15 (bbu afr .ret) .skip)) (.seq (bbu YF (bbv 19 (bbu afs .ret) .skip)) (bbu aft (.seq (bbu afu (.block 0 (.loop wC))) (bbu YG .ret))))))))⟩
def amP:ak:=[
 oP 4 (.mv (.c .ax))]
def amQ:ak:=[
 mV 5 0,
 mV 6 1,
 dh 7 3 6 0,
 aV 8 2 7,
 aP 9 1 8,
 mV 10 1,
 oP 11 (.call 43 [(.c (.str [116,101,114,109])),(.t 5),(.t 9),(.t 10)]),
 mV 4 11]
def a51:aS:=⟨[.tmp 4],(bbu amP (bbu amQ .ret))⟩
def Ks:ak:=[
 oP 2 (.mv (.c (.str []))),
 oP 3 (.mv (.c (.str []))),
 oP 4 (.mv (.c .ax))]
def Kt:ak:=[
 aI 5 (-1)]
def Ku:ak:=[
 mV 9 0,
 oP 10 (.len true (.t 9)),
 oP 11 (.bin .geq (.t 10) (.c (.int .i64 3))),
 mV 12 11,
 br 13 0 12 true,
 oG 14 (.len true (.t 13)) 12 true,
 oG 15 (.bin .leq (.t 14) (.c (.int .i64 64))) 12 true,
 c9 16 12 15,
 mV 6 16]
def Q7:ak:=[
 aI 7 0]
def qh:ak:=[
 mV 17 7,
 mV 18 0,
 oP 19 (.len true (.t 18)),
 dQ 20 17 19]
def ru:ak:=[
 mV 23 0,
 mV 24 7,
 oP 25 (.dD (.t 23) (.t 24)),
 mV 8 25]
def ry:ak:=[
 mV 26 8,
 oP 27 (.bin .eql (.t 26) (.c (.int .u8 64)))]
def Kq:ak:=[
 mV 28 6,
 mV 29 28,
 br 30 5 29 true,
 oG 31 (.bin .lss (.t 30) (.c (.int .i64 0))) 29 true,
 c9 32 29 31,
 mV 6 32]
def Kr:ak:=[
 mV 33 7,
 mV 5 33]
def yr:ak:=[
 mV 34 6,
 mV 35 34,
 br 36 8 35 true,
 oG 37 (.call 87 [(.t 36)]) 35 true,
 br 38 37 35 true,
 br 39 8 38 false,
 oG 40 (.bin .eql (.t 39) (.c (.int .u8 45))) 38 false,
 oG 41 (.pick (.t 38) (.c (.bool true)) (.t 40)) 35 true,
 br 42 41 35 true,
 br 43 8 42 false,
 oG 44 (.bin .eql (.t 43) (.c (.int .u8 46))) 42 false,
 br 45 44 42 false,
 br 46 5 45 true,
 oG 47 (.bin .geq (.t 46) (.c (.int .i64 0))) 45 true,
 oG 48 (.pick (.t 45) (.t 47) (.c (.bool false))) 42 false,
 oG 49 (.pick (.t 42) (.c (.bool true)) (.t 48)) 35 true,
 c9 50 35 49,
 mV 6 50]
def G0:ak:=[
 mV 21 7,
 dS 22 21 1,
 mV 7 22]
def sF:AC:=(.seq (bbu qh (bbv 20 .skip (.exit 0))) (.seq (.block 1 (bbu ru (.seq (bbu ry (bbv 27 (bbu Kq (bbu Kr (.exit 1))) .skip)) (.ops yr)))) (.ops G0)))
def uu:ak:=[
 mV 51 6,
 oP 52 (.un .not (.t 51)),
 mV 53 52,
 br 54 5 53 false,
 oG 55 (.bin .lss (.t 54) (.c (.int .i64 1))) 53 false,
 db 56 53 55,
 mV 57 56,
 br 58 5 57 false,
 br 59 0 57 false,
 oG 60 (.len true (.t 59)) 57 false,
 oG 61 (.bin .sub (.t 60) (.c (.int .i64 1))) 57 false,
 oG 62 (.bin .eql (.t 58) (.t 61)) 57 false,
 db 63 57 62]
def BX:ak:=[
 oP 64 (.call 84 [(.c (.int .i64 0)),(.c (.int .i64 24))]),
 oP 2 (.mv (.c (.str []))),
 oP 3 (.mv (.c (.str []))),
 mV 4 64]
def BY:ak:=[
 mV 65 0,
 mV 66 5,
 oP 67 (.ey (.t 65) none (some (.t 66))),
 mV 68 0,
 mV 69 5,
 dS 70 69 1,
 oP 71 (.ey (.t 68) (some (.t 70)) none),
 mV 2 67,
 mV 3 71,
 oP 4 (.mv (.c .ax))]
def zQ:List Nat:=[0,0,3,0,0,16,56,7,255,511]
def a52:aS:=⟨[.tmp 2,.tmp 3,.tmp 4],(bbu Ks (bbu Kt (bbu Ku (.seq (bbu Q7 (.block 0 (.loop sF))) (.seq (bbu uu (bbv 63 (bbu BX .ret) .skip)) (.seq (.draw BY zQ) .ret))))))⟩
def wD:ak:=[
 qac 2 6 0,
 qac 3 6 1,
 aI 4 0]
def wE:ak:=[
 aV 5 0 2,
 aP 6 1 5,
 aV 7 0 3,
 aP 8 1 7,
 oP 9 (.bin .neq (.t 6) (.t 8))]
def afv:ak:=[
 aV 10 0 2,
 aP 11 1 10,
 aV 12 0 3,
 aP 13 1 12,
 cQ 14 88 11 13,
 mV 4 14]
def yA:ak:=[
 aV 15 0 2,
 aP 16 1 15]
def yB:ak:=[
 cq 18 16 1,
 mV 17 18]
def Cj:ak:=[
 cq 20 16 2,
 mV 19 20]
def EG:ak:=[
 cq 22 16 3,
 mV 21 22]
def KJ:ak:=[
 cq 24 16 4,
 mV 23 24]
def RT:ak:=[
 cq 26 16 5,
 mV 25 26]
def YH:ak:=[
 cq 28 16 7,
 mV 27 28]
def YI:ak:=[
 aV 29 1 2,
 aP 30 1 29,
 aV 31 1 3,
 aP 32 1 31,
 cQ 33 89 30 32,
 mV 4 33]
def YJ:ak:=[
 aV 34 2 2,
 aP 35 1 34,
 aV 36 2 3,
 aP 37 1 36,
 cQ 38 90 35 37,
 mV 4 38]
def Oa:ak:=[
 aV 39 2 2,
 aP 40 1 39,
 aV 41 2 3,
 aP 42 1 41,
 cQ 43 90 40 42,
 aV 44 3 2,
 aP 45 1 44,
 aV 46 3 3,
 aP 47 1 46,
 cQ 48 92 45 47,
 aV 49 4 2,
 aP 50 1 49,
 aV 51 4 3,
 aP 52 1 51,
 cQ 53 93 50 52,
 oP 54 (.lit true 1 3 [(.int .i64 0),(.int .i64 0),(.int .i64 0)] [(0,1,(.t 43)),(1,1,(.t 48)),(2,1,(.t 53))]),
 bT 55 91 54,
 mV 4 55]
def acI:List Nat:=[0,1,0,4,15,0,32,0,128,511,0,1024,0,4096,16383,32767,65535,131071]
def YK:ak:=[
 aV 56 5 2,
 aP 57 1 56,
 cK 58 57,
 aV 59 5 3,
 aP 60 1 59,
 cK 61 60,
 cQ 62 94 58 61,
 aV 63 5 2,
 aP 64 1 63,
 aV 65 5 3,
 aP 66 1 65,
 oP 67 (.call 95 [(.t 64),(.t 66),(.c (.fn (.func 53) [] []))]),
 oP 68 (.lit true 1 2 [(.int .i64 0),(.int .i64 0)] [(0,1,(.t 62)),(1,1,(.t 67))]),
 bT 69 91 68,
 mV 4 69]
def acJ:List Nat:=[0,1,3,0,8,24,63,0,128,0,512,2047,4095,8191,16383]
def YL:ak:=[
 aV 70 5 2,
 aP 71 1 70,
 aV 72 5 3,
 aP 73 1 72,
 cQ 74 96 71 73,
 mV 4 74]
def YM:ak:=[
 aI 4 0]
def a53:aS:=⟨[.tmp 4],(bbu wD (.seq (bbu wE (bbv 9 (bbu afv .ret) .skip)) (.seq (bbu yA (.block 0 (.seq (.block 6 (.seq (.block 5 (.seq (.block 4 (.block 3 (.seq (.block 2 (.seq (.block 1 (.seq (.seq (bbu yB (bbv 17 (.exit 1) .skip)) (.seq (bbu Cj (bbv 19 (.exit 2) .skip)) (.seq (bbu EG (bbv 21 (.exit 3) .skip)) (.seq (bbu KJ (bbv 23 (.exit 4) .skip)) (.seq (bbu RT (bbv 25 (.exit 5) .skip)) (bbu YH (bbv 27 (.exit 6) .skip))))))) (.exit 0))) (.seq (bbu YI .ret) (.exit 0)))) (.seq (bbu YJ .ret) (.exit 0))))) (.seq (.seq (.draw Oa acI) .ret) (.exit 0)))) (.seq (.seq (.draw YK acJ) .ret) (.exit 0)))) (.seq (bbu YL .ret) (.exit 0))))) (bbu YM .ret))))⟩
def Xl:ak:=[
 qac 1 6 0,
 aI 2 0,
 aI 3 0,
 oP 4 (.mv (.c .bL))]
def Xm:ak:=[
 oP 5 (.alloc [(.int .i64 0),(.int .i64 0)])]
def Xn:ak:=[
 bm 7 6 1,
 oP 8 (.call 97 [(.t 5),(.t 7),(.c (.int .i64 1))]),
 mV 6 8]
def Xo:ak:=[
 mV 9 6,
 oP 10 (.eq true (.iface true) (.t 9) (.c .bL))]
def aeK:ak:=[
 mV 11 6,
 aI 2 0,
 aI 3 0,
 mV 4 11]
def aeJ:ak:=[
 aV 12 0 5,
 aP 13 1 12,
 aV 14 1 5,
 aP 15 1 14,
 mV 2 13,
 mV 3 15,
 oP 4 (.mv (.c .bL))]
def aiy:List Nat:=[0,1,0,4,3,31,63]
def a54:aS:=⟨[.tmp 2,.tmp 3,.tmp 4],(bbu Xl (bbu Xm (.seq (bbu Xn (bbu Xo (bbv 10 (bbu aeK .ret) .skip))) (.seq (.draw aeJ aiy) .ret))))⟩
def fc:ak:=[
 qac 4 6 1,
 qac 5 6 2,
 qaf 6,
 aI 7 0]
def fe:ak:=[
 aV 11 0 4,
 aP 12 1 11,
 oP 13 (.bin .neq (.t 12) (.c (.int .i64 1))),
 mV 14 13,
 cM 15 0 5 14 false,
 cy 16 1 15 14 false,
 oG 17 (.bin .neq (.t 16) (.c (.int .i64 1))) 14 false,
 db 18 14 17]
def fg:ak:=[
 qae 19,
 aO 6 6 19,
 aI 7 260]
def jy:ak:=[
 aV 20 1 4,
 aP 21 1 20,
 aV 22 1 5,
 aP 23 1 22,
 mV 8 21,
 mV 9 23,
 cE 10 true]
def aiz:List Nat:=[0,1,0,4,3,31,63]
def fh:ak:=[
 mV 24 0]
def fj:ak:=[
 bF 37 24 [43],
 mV 36 37]
def fk:ak:=[
 mV 38 8,
 mV 39 9,
 oP 40 (.bin .add (.t 38) (.t 39)),
 mV 8 40]
def fm:ak:=[
 bF 42 24 [45],
 mV 41 42]
def fq:ak:=[
 mV 43 8,
 mV 44 9,
 oP 45 (.bin .sub (.t 43) (.t 44)),
 mV 8 45]
def ft:ak:=[
 bF 47 24 [42],
 mV 46 47]
def dn:ak:=[
 mV 49 8,
 mV 50 9,
 cQ 51 100 49 50,
 mV 48 51,
 bS 52 48 0,
 bS 53 48 1,
 mV 8 52,
 mV 10 53]
def dq:ak:=[
 mV 25 9,
 cq 26 25 0]
def dr:ak:=[
 qae 27,
 aO 6 6 27,
 aI 7 260]
def dt:ak:=[
 mV 28 0,
 bF 29 28 [114,101,109]]
def du:ak:=[
 mV 30 8,
 mV 31 9,
 oP 32 (.bin .rem (.t 30) (.t 31)),
 mV 8 32]
def dv:ak:=[
 mV 33 8,
 mV 34 9,
 oP 35 (.bin .quo (.t 33) (.t 34)),
 mV 8 35]
def dw:ak:=[
 mV 54 10,
 oP 55 (.un .not (.t 54)),
 mV 56 55,
 br 57 8 56 false,
 oG 58 (.bin .lss (.t 57) (.c (.int .i64 (-576460752303423488)))) 56 false,
 db 59 56 58,
 mV 60 59,
 br 61 8 60 false,
 oG 62 (.bin .gtr (.t 61) (.c (.int .i64 576460752303423487))) 60 false,
 db 63 60 62]
def dx:ak:=[
 qae 64,
 aO 6 6 64,
 aI 7 262]
def dy:ak:=[
 mV 65 8,
 bT 66 59 65,
 aO 6 6 66,
 aI 7 0]
def sq:aS:=⟨[.cell 6 true 6,.tmp 7],(bbu fc (.seq (bbu fe (bbv 18 (bbu fg .ret) .skip)) (.seq (.draw jy aiz) (.seq (bbu fh (.block 0 (bbu fj (bbv 36 (.ops fk) (bbu fm (bbv 41 (.ops fq) (bbu ft (bbv 46 (.ops dn) (.seq (bbu dq (bbv 26 (bbu dr .ret) .skip)) (bbu dt (bbv 29 (.ops du) (.ops dv)))))))))))) (.seq (bbu dw (bbv 63 (bbu dx .ret) .skip)) (bbu dy .ret))))))⟩
def oe:ak:=[
 qac 4 6 1,
 qac 5 6 2,
 qaf 6,
 aI 7 0]
def og:ak:=[
 bm 13 6 4,
 bT 14 101 13,
 mV 12 14,
 bS 15 12 0,
 bS 16 12 1,
 mV 8 15,
 mV 9 16]
def oh:ak:=[
 bm 18 6 5,
 bT 19 101 18,
 mV 17 19,
 bS 20 17 0,
 bS 21 17 1,
 mV 10 20,
 mV 11 21]
def om:ak:=[
 mV 22 9,
 oP 23 (.un .not (.t 22)),
 mV 24 23,
 br 25 11 24 false,
 oG 26 (.un .not (.t 25)) 24 false,
 db 27 24 26]
def oq:ak:=[
 qae 28,
 aO 6 6 28,
 aI 7 261]
def ot:ak:=[
 mV 29 0]
def ou:ak:=[
 bF 31 29 [97,110,100],
 mV 30 31]
def ov:ak:=[
 mV 32 8,
 mV 33 32,
 br 34 10 33 true,
 c9 35 33 34,
 bT 36 62 35,
 aO 6 6 36,
 aI 7 0]
def oz:ak:=[
 bF 38 29 [111,114],
 mV 37 38]
def oA:ak:=[
 mV 39 8,
 mV 40 39,
 br 41 10 40 false,
 db 42 40 41,
 bT 43 62 42,
 aO 6 6 43,
 aI 7 0]
def jX:ak:=[
 mV 44 8,
 mV 45 10,
 oP 46 (.eq true .bool (.t 44) (.t 45)),
 bT 47 62 46,
 aO 6 6 47,
 aI 7 0]
def Qv:aS:=⟨[.cell 6 true 6,.tmp 7],(bbu oe (bbu og (bbu oh (.seq (bbu om (bbv 27 (bbu oq .ret) .skip)) (.seq (bbu ot (.block 0 (bbu ou (bbv 30 (bbu ov .ret) (bbu oz (bbv 37 (bbu oA .ret) .skip)))))) (bbu jX .ret))))))⟩
def afw:ak:=[
 qac 2 6 0,
 qac 3 6 1,
 aI 4 0]
def afx:ak:=[
 bm 5 6 2,
 bT 6 36 5,
 oP 7 (.eq true (.iface true) (.t 6) (.c .bL)),
 mV 8 7,
 oG 9 (.load true 6 (.t 3)) 8 false,
 oG 10 (.call 36 [(.t 9)]) 8 false,
 oG 11 (.eq true (.iface true) (.t 10) (.c .bL)) 8 false,
 db 12 8 11]
def am7:ak:=[
 aI 4 0]
def afy:ak:=[
 bm 13 6 2,
 bm 14 6 3,
 cQ 15 53 13 14,
 mV 4 15]
def a64:aS:=⟨[.tmp 4],(bbu afw (.seq (bbu afx (bbv 12 (bbu am7 .ret) .skip)) (bbu afy .ret)))⟩
def BD:ak:=[
 qac 4 6 1,
 qac 5 6 2,
 qaf 6,
 aI 7 0]
def BE:ak:=[
 bm 16 6 4,
 bT 17 102 16,
 mV 15 17,
 bS 18 15 0,
 bS 19 15 1,
 mV 8 18,
 mV 9 19]
def BF:ak:=[
 bm 21 6 5,
 bT 22 102 21,
 mV 20 22,
 bS 23 20 0,
 bS 24 20 1,
 mV 10 23,
 mV 11 24]
def BG:ak:=[
 mV 25 9,
 oP 26 (.un .not (.t 25)),
 mV 27 26,
 br 28 0 27 false,
 oG 29 (.bin .eql (.t 28) (.c (.str [45,45]))) 27 false,
 br 30 29 27 false,
 br 31 11 30 true,
 oG 32 (.un .not (.t 31)) 30 true,
 oG 33 (.pick (.t 30) (.t 32) (.c (.bool false))) 27 false,
 db 34 27 33]
def JY:ak:=[
 qae 35,
 aO 6 6 35,
 aI 7 261]
def JZ:ak:=[
 mV 36 0,
 bF 37 36 [43,43]]
def Qz:ak:=[
 mV 38 8,
 bm 39 6 5,
 cQ 40 103 38 39,
 aO 6 6 40,
 aI 7 0]
def QA:ak:=[
 mV 41 8,
 bT 42 104 41,
 mV 8 42]
def QB:ak:=[
 mV 43 10,
 cK 44 43,
 aI 45 0]
def J0:ak:=[
 dQ 46 45 44]
def FT:ak:=[
 dV 47 6 43 45,
 bm 48 6 47,
 qaf 13,
 aO 6 13 48]
def FU:ak:=[
 mV 49 8,
 oP 50 (.lC (.func 106) [] [(.t 13)]),
 cQ 51 105 49 50,
 mV 14 51]
def FV:ak:=[
 mV 52 14,
 oP 53 (.bin .geq (.t 52) (.c (.int .i64 0)))]
def L_:ak:=[
 mV 54 8,
 mV 55 14,
 mV 56 14,
 dS 57 56 1,
 oP 58 (.call 107 [(.t 54),(.t 55),(.t 57)]),
 mV 8 58]
def FW:ak:=[
 dS 59 45 1,
 mV 45 59]
def sM:AC:=(bbu J0 (.seq (bbv 46 .skip (.exit 0)) (.seq (.block 1 (bbu FT (bbu FU (bbu FV (bbv 53 (.ops L_) .skip))))) (.ops FW))))
def FX:ak:=[
 mV 60 8,
 oP 61 (.call 108 []),
 cQ 62 103 60 61,
 aO 6 6 62,
 aI 7 0]
def a65:aS:=⟨[.cell 6 true 6,.tmp 7],(bbu BD (bbu BE (bbu BF (.seq (bbu BG (bbv 34 (bbu JY .ret) .skip)) (.seq (bbu JZ (bbv 37 (bbu Qz .ret) .skip)) (bbu QA (.seq (bbu QB (.block 0 (.loop sM))) (bbu FX .ret))))))))⟩
end Go.Bf
