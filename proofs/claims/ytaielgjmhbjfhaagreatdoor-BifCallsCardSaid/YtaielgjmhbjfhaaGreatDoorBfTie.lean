/- For BifCalls. -/
import Derived.Test.YtaielgjmhbjfhaaGreatDoorBfTie1
import Derived.Test.YtaielgjmhbjfhaaGreatDoorBfPrim
set_option linter.unusedVariables false
namespace Go.Bf
open Go.AM Go.Proofs Go.Proofs.YtaielgjmhbjfhaaGreatDoor
theorem aob:aJ Tryz.prog fz aA Tryz.f78=some wS:=by kernel_rfl
theorem aoc:aJ Tryz.prog fz aA Tryz.f83=some ux:=by kernel_rfl
theorem aoe:aJ Tryz.prog fz aA Tryz.f85=some a85:=by kernel_rfl
theorem aof:aJ Tryz.prog fz aA Tryz.f86=some a86:=by kernel_rfl
theorem aog:aJ Tryz.prog fz aA Tryz.f87=some a87:=by kernel_rfl
theorem aoh:aJ Tryz.prog fz aA Tryz.f88=some a88:=by kernel_rfl
theorem aoi:aJ Tryz.prog fz aA Tryz.f89=some a89:=by kernel_rfl
theorem aoj:aJ Tryz.prog fz aA Tryz.f90=some a90:=by kernel_rfl
theorem aok:aJ Tryz.prog fz aA Tryz.f91=some a91:=by kernel_rfl
theorem aol:aJ Tryz.prog fz aA Tryz.f92=some a92:=by kernel_rfl
theorem aom:aJ Tryz.prog fz aA Tryz.f93=some a93:=by kernel_rfl
theorem aon:aJ Tryz.prog fz aA Tryz.f94=some a94:=by kernel_rfl
theorem aoo:aJ Tryz.prog fz aA Tryz.f95=some a95:=by kernel_rfl
theorem aop:aJ Tryz.prog fz aA Tryz.f96=some a96:=by kernel_rfl
theorem aoq:aJ Tryz.prog fz aA Tryz.f97=some a97:=by kernel_rfl
theorem ajW:aJ Tryz.prog fz aA Tryz.f100=some GS:=by kernel_rfl
theorem ajX:aJ Tryz.prog fz aA Tryz.f101=some Td:=by kernel_rfl
theorem ajY:aJ Tryz.prog fz aA Tryz.f102=some TM:=by kernel_rfl
theorem ajZ:aJ Tryz.prog fz aA Tryz.f103=some yU:=by kernel_rfl
theorem aj0:aJ Tryz.prog fz aA Tryz.f104=some KN:=by kernel_rfl
theorem aj1:aJ Tryz.prog fz aA Tryz.f105=some a105:=by kernel_rfl
theorem aj2:aJ Tryz.prog fz aA Tryz.f106=some aiM:=by kernel_rfl
theorem aj3:aJ Tryz.prog fz aA Tryz.f107=some a107:=by kernel_rfl
theorem aj6:aJ Tryz.prog fz aA Tryz.f110=some O7:=by kernel_rfl
theorem aj7:aJ Tryz.prog fz aA Tryz.f111=some Wh:=by kernel_rfl
theorem aj8:aJ Tryz.prog fz aA Tryz.f112=some Ke:=by kernel_rfl
theorem aj9:aJ Tryz.prog fz aA Tryz.f113=some acV:=by kernel_rfl
theorem aj_:aJ Tryz.prog fz aA Tryz.f114=some Km:=by kernel_rfl
theorem aka:aJ Tryz.prog fz aA Tryz.f115=some LS:=by kernel_rfl
theorem akb:aJ Tryz.prog fz aA Tryz.f116=some a116:=by kernel_rfl
theorem akc:aJ Tryz.prog fz aA Tryz.f117=some a117:=by kernel_rfl
theorem akd:aJ Tryz.prog fz aA Tryz.f119=some a119:=by kernel_rfl
theorem ake:aJ Tryz.prog fz aA Tryz.f120=some ac1:=by kernel_rfl
theorem akf:aJ Tryz.prog fz aA Tryz.f121=some ai3:=by kernel_rfl
theorem akg:aJ Tryz.prog fz aA Tryz.f122=some ai4:=by kernel_rfl
theorem akh:aJ Tryz.prog fz aA Tryz.f123=some ahL:=by kernel_rfl
theorem aki:aJ Tryz.prog fz aA Tryz.f124=some a124:=by kernel_rfl
theorem akj:aJ Tryz.prog fz aA Tryz.f125=some ahN:=by kernel_rfl
theorem akk:aJ Tryz.prog fz aA Tryz.f126=some ahM:=by kernel_rfl
theorem akl:aJ Tryz.prog fz aA Tryz.f127=some a127:=by kernel_rfl
theorem akm:aJ Tryz.prog fz aA Tryz.f128=some ac2:=by kernel_rfl
theorem ako:aJ Tryz.prog fz aA Tryz.f130=some a130:=by kernel_rfl
theorem akp:aJ Tryz.prog fz aA Tryz.f131=some a131:=by kernel_rfl
theorem akq:aJ Tryz.prog fz aA Tryz.f132=some abX:=by kernel_rfl
theorem akr:aJ Tryz.prog fz aA Tryz.f134=some Wg:=by kernel_rfl
theorem aks:aJ Tryz.prog fz aA Tryz.f135=some V9:=by kernel_rfl
theorem akt:aJ Tryz.prog fz aA Tryz.f136=some C8:=by kernel_rfl
theorem aku:aJ Tryz.prog fz aA Tryz.f139=some a139:=by kernel_rfl
theorem akv:aJ Tryz.prog fz aA Tryz.f140=some TN:=by kernel_rfl
theorem akw:aJ Tryz.prog fz aA Tryz.f141=some a141:=by kernel_rfl
theorem aky:aJ Tryz.prog fz aA Tryz.f143=some a143:=by kernel_rfl
theorem akz:aJ Tryz.prog fz aA Tryz.f145=some a145:=by kernel_rfl
theorem akA:aJ Tryz.prog fz aA Tryz.f146=some a146:=by kernel_rfl
theorem akB:aJ Tryz.prog fz aA Tryz.f147=some Wi:=by kernel_rfl
theorem akD:aJ Tryz.prog fz aA Tryz.f150=some Z3:=by kernel_rfl
theorem akE:aJ Tryz.prog fz aA Tryz.f151=some ajl:=by kernel_rfl
theorem akF:aJ Tryz.prog fz aA Tryz.f152=some a152:=by kernel_rfl
theorem akG:aJ Tryz.prog fz aA Tryz.f153=some CH:=by kernel_rfl
theorem akH:aJ Tryz.prog fz aA Tryz.f159=some a159:=by kernel_rfl
theorem akI:aJ Tryz.prog fz aA Tryz.f160=some a160:=by kernel_rfl
theorem akJ:aJ Tryz.prog fz aA Tryz.f161=some ac5:=by kernel_rfl
theorem akK:aJ Tryz.prog fz aA Tryz.f162=some a162:=by kernel_rfl
theorem ahG:UN Tryz.prog env where
 func f af h:=by
  have h' :func f=some af:=h
  unfold func at h'
  split at h'
  ·cases h';exact⟨_,fz,aA,Tryz.func9,aqr⟩
  ·exact⟨_,fz,aA,Tryz.func11,h'⟩
  ·exact⟨_,fz,aA,Tryz.func12,h'⟩
  ·cases h';exact⟨_,fz,aA,Tryz.func13,aot⟩
  ·cases h';exact⟨_,fz,aA,Tryz.func14,aou⟩
  ·exact⟨_,fz,aA,Tryz.func15,h'⟩
  ·cases h';exact⟨_,fz,aA,Tryz.func16,aow⟩
  ·exact⟨_,fz,aA,Tryz.func17,h'⟩
  ·cases h';exact⟨_,fz,aA,Tryz.func18,aoy⟩
  ·cases h';exact⟨_,fz,aA,Tryz.func19,aoz⟩
  ·cases h';exact⟨_,fz,aA,Tryz.func20,aoA⟩
  ·exact⟨_,fz,aA,Tryz.func22,h'⟩
  ·cases h';exact⟨_,fz,aA,Tryz.func25,aoC⟩
  ·cases h';exact⟨_,fz,aA,Tryz.func26,aoD⟩
  ·cases h';exact⟨_,fz,aA,Tryz.func27,aoE⟩
  ·cases h';exact⟨_,fz,aA,Tryz.func28,aoF⟩
  ·exact⟨_,fz,aA,Tryz.func29,h'⟩
  ·exact⟨_,fz,aA,Tryz.func30,h'⟩
  ·exact⟨_,fz,aA,Tryz.func31,h'⟩
  ·cases h';exact⟨_,fz,aA,Tryz.func32,aoJ⟩
  ·cases h';exact⟨_,fz,aA,Tryz.func33,aoK⟩
  ·exact⟨_,fz,aA,Tryz.func34,h'⟩
  ·exact⟨_,fz,aA,Tryz.func35,h'⟩
  ·cases h';exact⟨_,fz,aA,Tryz.func36,aoN⟩
  ·cases h';exact⟨_,fz,aA,Tryz.func38,aoO⟩
  ·cases h';exact⟨_,fz,aA,Tryz.func39,aoP⟩
  ·cases h';exact⟨_,fz,aA,Tryz.func40,aoQ⟩
  ·cases h';exact⟨_,fz,aA,Tryz.func41,aoR⟩
  ·exact⟨_,fz,aA,Tryz.func42,h'⟩
  ·exact⟨_,fz,aA,Tryz.func43,h'⟩
  ·cases h';exact⟨_,fz,aA,Tryz.func44,aoU⟩
  ·cases h';exact⟨_,fz,aA,Tryz.func45,aoV⟩
  ·exact⟨_,fz,aA,Tryz.func47,h'⟩
  ·exact⟨_,fz,aA,Tryz.func48,h'⟩
  ·cases h';exact⟨_,fz,aA,Tryz.func49,aoY⟩
  ·cases h';exact⟨_,fz,aA,Tryz.func50,aoZ⟩
  ·cases h';exact⟨_,fz,aA,Tryz.func51,ao0⟩
  ·cases h';exact⟨_,fz,aA,Tryz.func52,ao1⟩
  ·cases h';exact⟨_,fz,aA,Tryz.func53,ao2⟩
  ·cases h';exact⟨_,fz,aA,Tryz.func54,ao3⟩
  ·exact⟨_,fz,aA,Tryz.func59,h'⟩
  ·cases h';exact⟨_,fz,aA,Tryz.func60,ao5⟩
  ·cases h';exact⟨_,fz,aA,Tryz.func61,ao6⟩
  ·exact⟨_,fz,aA,Tryz.func62,h'⟩
  ·exact⟨_,fz,aA,Tryz.func63,h'⟩
  ·cases h';exact⟨_,fz,aA,Tryz.func64,ao9⟩
  ·cases h';exact⟨_,fz,aA,Tryz.func65,ao_⟩
  ·exact⟨_,fz,aA,Tryz.func66,h'⟩
  ·cases h';exact⟨_,fz,aA,Tryz.func67,apb⟩
  ·cases h';exact⟨_,fz,aA,Tryz.func68,apc⟩
  ·cases h';exact⟨_,fz,aA,Tryz.func69,apd⟩
  ·cases h';exact⟨_,fz,aA,Tryz.func70,ape⟩
  ·cases h';exact⟨_,fz,aA,Tryz.func71,apf⟩
  ·cases h';exact⟨_,fz,aA,Tryz.func72,apg⟩
  ·exact⟨_,fz,aA,Tryz.func73,h'⟩
  ·cases h';exact⟨_,fz,aA,Tryz.func74,api⟩
  ·cases h';exact⟨_,fz,aA,Tryz.func75,apj⟩
  ·cases h';exact⟨_,fz,aA,Tryz.func76,apk⟩
  ·exact⟨_,fz,aA,Tryz.func77,h'⟩
  ·cases h';exact⟨_,fz,aA,Tryz.func78,aob⟩
  ·cases h';exact⟨_,fz,aA,Tryz.func83,aoc⟩
  ·exact⟨_,fz,aA,Tryz.func84,h'⟩
  ·cases h';exact⟨_,fz,aA,Tryz.func85,aoe⟩
  ·cases h';exact⟨_,fz,aA,Tryz.func86,aof⟩
  ·cases h';exact⟨_,fz,aA,Tryz.func87,aog⟩
  ·cases h';exact⟨_,fz,aA,Tryz.func88,aoh⟩
  ·cases h';exact⟨_,fz,aA,Tryz.func89,aoi⟩
  ·cases h';exact⟨_,fz,aA,Tryz.func90,aoj⟩
  ·cases h';exact⟨_,fz,aA,Tryz.func91,aok⟩
  ·cases h';exact⟨_,fz,aA,Tryz.func92,aol⟩
  ·cases h';exact⟨_,fz,aA,Tryz.func93,aom⟩
  ·cases h';exact⟨_,fz,aA,Tryz.func94,aon⟩
  ·cases h';exact⟨_,fz,aA,Tryz.func95,aoo⟩
  ·cases h';exact⟨_,fz,aA,Tryz.func96,aop⟩
  ·cases h';exact⟨_,fz,aA,Tryz.func97,aoq⟩
  ·cases h';exact⟨_,fz,aA,Tryz.func100,ajW⟩
  ·cases h';exact⟨_,fz,aA,Tryz.func101,ajX⟩
  ·cases h';exact⟨_,fz,aA,Tryz.func102,ajY⟩
  ·cases h';exact⟨_,fz,aA,Tryz.func103,ajZ⟩
  ·cases h';exact⟨_,fz,aA,Tryz.func104,aj0⟩
  ·cases h';exact⟨_,fz,aA,Tryz.func105,aj1⟩
  ·cases h';exact⟨_,fz,aA,Tryz.func106,aj2⟩
  ·cases h';exact⟨_,fz,aA,Tryz.func107,aj3⟩
  ·exact⟨_,fz,aA,Tryz.func108,h'⟩
  ·exact⟨_,fz,aA,Tryz.func109,h'⟩
  ·cases h';exact⟨_,fz,aA,Tryz.func110,aj6⟩
  ·cases h';exact⟨_,fz,aA,Tryz.func111,aj7⟩
  ·cases h';exact⟨_,fz,aA,Tryz.func112,aj8⟩
  ·cases h';exact⟨_,fz,aA,Tryz.func113,aj9⟩
  ·cases h';exact⟨_,fz,aA,Tryz.func114,aj_⟩
  ·cases h';exact⟨_,fz,aA,Tryz.func115,aka⟩
  ·cases h';exact⟨_,fz,aA,Tryz.func116,akb⟩
  ·cases h';exact⟨_,fz,aA,Tryz.func117,akc⟩
  ·cases h';exact⟨_,fz,aA,Tryz.func119,akd⟩
  ·cases h';exact⟨_,fz,aA,Tryz.func120,ake⟩
  ·cases h';exact⟨_,fz,aA,Tryz.func121,akf⟩
  ·cases h';exact⟨_,fz,aA,Tryz.func122,akg⟩
  ·cases h';exact⟨_,fz,aA,Tryz.func123,akh⟩
  ·cases h';exact⟨_,fz,aA,Tryz.func124,aki⟩
  ·cases h';exact⟨_,fz,aA,Tryz.func125,akj⟩
  ·cases h';exact⟨_,fz,aA,Tryz.func126,akk⟩
  ·cases h';exact⟨_,fz,aA,Tryz.func127,akl⟩
  ·cases h';exact⟨_,fz,aA,Tryz.func128,akm⟩
  ·exact⟨_,fz,aA,Tryz.func129,h'⟩
  ·cases h';exact⟨_,fz,aA,Tryz.func130,ako⟩
  ·cases h';exact⟨_,fz,aA,Tryz.func131,akp⟩
  ·cases h';exact⟨_,fz,aA,Tryz.func132,akq⟩
  ·cases h';exact⟨_,fz,aA,Tryz.func134,akr⟩
  ·cases h';exact⟨_,fz,aA,Tryz.func135,aks⟩
  ·cases h';exact⟨_,fz,aA,Tryz.func136,akt⟩
  ·cases h';exact⟨_,fz,aA,Tryz.func139,aku⟩
  ·cases h';exact⟨_,fz,aA,Tryz.func140,akv⟩
  ·cases h';exact⟨_,fz,aA,Tryz.func141,akw⟩
  ·exact⟨_,fz,aA,Tryz.func142,h'⟩
  ·cases h';exact⟨_,fz,aA,Tryz.func143,aky⟩
  ·cases h';exact⟨_,fz,aA,Tryz.func145,akz⟩
  ·cases h';exact⟨_,fz,aA,Tryz.func146,akA⟩
  ·cases h';exact⟨_,fz,aA,Tryz.func147,akB⟩
  ·exact⟨_,fz,aA,Tryz.func148,h'⟩
  ·cases h';exact⟨_,fz,aA,Tryz.func150,akD⟩
  ·cases h';exact⟨_,fz,aA,Tryz.func151,akE⟩
  ·cases h';exact⟨_,fz,aA,Tryz.func152,akF⟩
  ·cases h';exact⟨_,fz,aA,Tryz.func153,akG⟩
  ·cases h';exact⟨_,fz,aA,Tryz.func159,akH⟩
  ·cases h';exact⟨_,fz,aA,Tryz.func160,akI⟩
  ·cases h';exact⟨_,fz,aA,Tryz.func161,akJ⟩
  ·cases h';exact⟨_,fz,aA,Tryz.func162,akK⟩
  ·cases h'
 nU:=adB
end Go.Bf
