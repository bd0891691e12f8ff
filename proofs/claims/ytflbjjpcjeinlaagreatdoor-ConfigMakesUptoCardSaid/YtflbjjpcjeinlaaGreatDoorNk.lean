/- Configurations written and read: what each function gives. -/
import Derived.Test.YtflbjjpcjeinlaaGreatDoorNj
namespace Go.Proofs.YtflbjjpcjeinlaaGreatDoor
open Go.Ev Go.Cb
abbrev X_wN : Xns := [(42, x_wNum)]
abbrev X_rN : Xns := [(45, x_Num), (46, x_Must), (47, x_Err)]
theorem oks_rN : Xs X_rN := .cons ok_Num (.cons ok_Must (.cons ok_Err .nil))
noncomputable abbrev c_put : Cls := [(41, Tryz.f41)]
theorem okc_put : ClOk c_put := .cons Tryz.func41 (by kernel_rfl) .nil
noncomputable abbrev c_get : Cls := [(44, Tryz.f44)]
theorem okc_get : ClOk c_get := .cons Tryz.func44 (by kernel_rfl) .nil
end Go.Proofs.YtflbjjpcjeinlaaGreatDoor
