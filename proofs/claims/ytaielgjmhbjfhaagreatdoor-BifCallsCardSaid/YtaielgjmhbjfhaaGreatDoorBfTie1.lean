/- For BifCalls. -/
import Derived.Test.YtaielgjmhbjfhaaGreatDoorBfEnv
import Derived.Test.YtaielgjmhbjfhaaGreatDoorRows
set_option linter.unusedVariables false
namespace Go.Bf
open Go.AM Go.Proofs Go.Proofs.YtaielgjmhbjfhaaGreatDoor
theorem aqr:aJ Tryz.prog fz aA Tryz.f9=some a9:=by kernel_rfl
theorem aot:aJ Tryz.prog fz aA Tryz.f13=some a13:=by kernel_rfl
theorem aou:aJ Tryz.prog fz aA Tryz.f14=some a14:=by kernel_rfl
theorem aow:aJ Tryz.prog fz aA Tryz.f16=some a16:=by kernel_rfl
theorem aoy:aJ Tryz.prog fz aA Tryz.f18=some a18:=by kernel_rfl
theorem aoz:aJ Tryz.prog fz aA Tryz.f19=some a19:=by kernel_rfl
theorem aoA:aJ Tryz.prog fz aA Tryz.f20=some a20:=by kernel_rfl
theorem aoC:aJ Tryz.prog fz aA Tryz.f25=some Vj:=by kernel_rfl
theorem aoD:aJ Tryz.prog fz aA Tryz.f26=some a26:=by kernel_rfl
theorem aoE:aJ Tryz.prog fz aA Tryz.f27=some a27:=by kernel_rfl
theorem aoF:aJ Tryz.prog fz aA Tryz.f28=some a28:=by kernel_rfl
theorem aoJ:aJ Tryz.prog fz aA Tryz.f32=some a32:=by kernel_rfl
theorem aoK:aJ Tryz.prog fz aA Tryz.f33=some a33:=by kernel_rfl
theorem aoN:aJ Tryz.prog fz aA Tryz.f36=some a36:=by kernel_rfl
theorem aoO:aJ Tryz.prog fz aA Tryz.f38=some mf:=by kernel_rfl
theorem aoP:aJ Tryz.prog fz aA Tryz.f39=some a39:=by kernel_rfl
theorem aoQ:aJ Tryz.prog fz aA Tryz.f40=some a40:=by kernel_rfl
theorem aoR:aJ Tryz.prog fz aA Tryz.f41=some a41:=by kernel_rfl
theorem aoU:aJ Tryz.prog fz aA Tryz.f44=some my:=by kernel_rfl
theorem aoV:aJ Tryz.prog fz aA Tryz.f45=some a45:=by kernel_rfl
theorem aoY:aJ Tryz.prog fz aA Tryz.f49=some a49:=by kernel_rfl
theorem aoZ:aJ Tryz.prog fz aA Tryz.f50=some a50:=by kernel_rfl
theorem ao0:aJ Tryz.prog fz aA Tryz.f51=some a51:=by kernel_rfl
theorem ao1:aJ Tryz.prog fz aA Tryz.f52=some a52:=by kernel_rfl
theorem ao2:aJ Tryz.prog fz aA Tryz.f53=some a53:=by kernel_rfl
theorem ao3:aJ Tryz.prog fz aA Tryz.f54=some a54:=by kernel_rfl
theorem ao5:aJ Tryz.prog fz aA Tryz.f60=some sq:=by kernel_rfl
theorem ao6:aJ Tryz.prog fz aA Tryz.f61=some Qv:=by kernel_rfl
theorem ao9:aJ Tryz.prog fz aA Tryz.f64=some a64:=by kernel_rfl
theorem ao_:aJ Tryz.prog fz aA Tryz.f65=some a65:=by kernel_rfl
theorem apb:aJ Tryz.prog fz aA Tryz.f67=some a67:=by kernel_rfl
theorem apc:aJ Tryz.prog fz aA Tryz.f68=some xk:=by kernel_rfl
theorem apd:aJ Tryz.prog fz aA Tryz.f69=some a69:=by kernel_rfl
theorem ape:aJ Tryz.prog fz aA Tryz.f70=some a70:=by kernel_rfl
theorem apf:aJ Tryz.prog fz aA Tryz.f71=some a71:=by kernel_rfl
theorem apg:aJ Tryz.prog fz aA Tryz.f72=some a72:=by kernel_rfl
theorem api:aJ Tryz.prog fz aA Tryz.f74=some Tj:=by kernel_rfl
theorem apj:aJ Tryz.prog fz aA Tryz.f75=some a75:=by kernel_rfl
theorem apk:aJ Tryz.prog fz aA Tryz.f76=some a76:=by kernel_rfl
end Go.Bf
