/- For BifCalls. -/
import Derived.Test.YtaielgjmhbjfhaaGreatDoorBfEnv
import Derived.Test.YtaielgjmhbjfhaaGreatDoorRows
namespace Go.Bf
open Go.AM Go.Proofs Go.Proofs.YtaielgjmhbjfhaaGreatDoor
def aqr:aJ Tryz.prog fz aA Tryz.f9=some a9:=by kernel_rfl
def aot:aJ Tryz.prog fz aA Tryz.f13=some a13:=by kernel_rfl
def aou:aJ Tryz.prog fz aA Tryz.f14=some a14:=by kernel_rfl
def aow:aJ Tryz.prog fz aA Tryz.f16=some a16:=by kernel_rfl
def aoy:aJ Tryz.prog fz aA Tryz.f18=some a18:=by kernel_rfl
def aoz:aJ Tryz.prog fz aA Tryz.f19=some a19:=by kernel_rfl
def aoA:aJ Tryz.prog fz aA Tryz.f20=some a20:=by kernel_rfl
def aoC:aJ Tryz.prog fz aA Tryz.f25=some Vj:=by kernel_rfl
def aoD:aJ Tryz.prog fz aA Tryz.f26=some a26:=by kernel_rfl
def aoE:aJ Tryz.prog fz aA Tryz.f27=some a27:=by kernel_rfl
def aoF:aJ Tryz.prog fz aA Tryz.f28=some a28:=by kernel_rfl
def aoJ:aJ Tryz.prog fz aA Tryz.f32=some a32:=by kernel_rfl
def aoK:aJ Tryz.prog fz aA Tryz.f33=some a33:=by kernel_rfl
def aoN:aJ Tryz.prog fz aA Tryz.f36=some a36:=by kernel_rfl
def aoO:aJ Tryz.prog fz aA Tryz.f38=some mf:=by kernel_rfl
def aoP:aJ Tryz.prog fz aA Tryz.f39=some a39:=by kernel_rfl
def aoQ:aJ Tryz.prog fz aA Tryz.f40=some a40:=by kernel_rfl
def aoR:aJ Tryz.prog fz aA Tryz.f41=some a41:=by kernel_rfl
def aoU:aJ Tryz.prog fz aA Tryz.f44=some my:=by kernel_rfl
def aoV:aJ Tryz.prog fz aA Tryz.f45=some a45:=by kernel_rfl
def aoY:aJ Tryz.prog fz aA Tryz.f49=some a49:=by kernel_rfl
def aoZ:aJ Tryz.prog fz aA Tryz.f50=some a50:=by kernel_rfl
def ao0:aJ Tryz.prog fz aA Tryz.f51=some a51:=by kernel_rfl
def ao1:aJ Tryz.prog fz aA Tryz.f52=some a52:=by kernel_rfl
def ao2:aJ Tryz.prog fz aA Tryz.f53=some a53:=by kernel_rfl
def ao3:aJ Tryz.prog fz aA Tryz.f54=some a54:=by kernel_rfl
def ao5:aJ Tryz.prog fz aA Tryz.f60=some sq:=by kernel_rfl
def ao6:aJ Tryz.prog fz aA Tryz.f61=some Qv:=by kernel_rfl
def ao9:aJ Tryz.prog fz aA Tryz.f64=some a64:=by kernel_rfl
def ao_:aJ Tryz.prog fz aA Tryz.f65=some a65:=by kernel_rfl
def apb:aJ Tryz.prog fz aA Tryz.f67=some a67:=by kernel_rfl
def apc:aJ Tryz.prog fz aA Tryz.f68=some xk:=by kernel_rfl
def apd:aJ Tryz.prog fz aA Tryz.f69=some a69:=by kernel_rfl
def ape:aJ Tryz.prog fz aA Tryz.f70=some a70:=by kernel_rfl
def apf:aJ Tryz.prog fz aA Tryz.f71=some a71:=by kernel_rfl
def apg:aJ Tryz.prog fz aA Tryz.f72=some a72:=by kernel_rfl
def api:aJ Tryz.prog fz aA Tryz.f74=some Tj:=by kernel_rfl
def apj:aJ Tryz.prog fz aA Tryz.f75=some a75:=by kernel_rfl
def apk:aJ Tryz.prog fz aA Tryz.f76=some a76:=by kernel_rfl
end Go.Bf
