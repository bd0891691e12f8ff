/- Configurations written and read: what each function gives. -/
import Derived.Test.YtflbjjpcjeinlaaDoorNj
namespace Go.Proofs.YtflbjjpcjeinlaaDoor
open Go.Ev Go.Cb
abbrev X_wN : Xns := [(35, x_wNum)]
abbrev X_rN : Xns := [(32, x_Num), (33, x_Must), (10, x_Err)]
theorem oks_rN : Xs X_rN := .cons ok_Num (.cons ok_Must (.cons ok_Err .nil))
noncomputable abbrev c_put : Cls := [(34, Tryd.f34)]
theorem okc_put : ClOk c_put := .cons Tryd.func34 (by kernel_rfl) .nil
noncomputable abbrev c_get : Cls := [(31, Tryd.f31)]
theorem okc_get : ClOk c_get := .cons Tryd.func31 (by kernel_rfl) .nil
end Go.Proofs.YtflbjjpcjeinlaaDoor
