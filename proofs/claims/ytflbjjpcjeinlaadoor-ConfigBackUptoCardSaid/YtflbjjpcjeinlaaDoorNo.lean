/- What must come of fixed calls. -/
import Derived.Test.YtflbjjpcjeinlaaDoorNn
namespace Go.Proofs.YtflbjjpcjeinlaaDoor
open Go.Ev Go.Cb
abbrev X_al : Xns := [(12, x_cWrite), (13, x_wBytes)]
theorem oks_al : Xs X_al := .cons ok_cWrite (.cons ok_wBytes .nil)
abbrev l_al : Ens := [(5, e_Parse), (7, e_cPrint), (6, e_cRight)]
theorem es_al : Es l_al := .cons ok_Parse (.cons ok_cPrint (.cons ok_cRight .nil))
abbrev e_alive : Fe := fn0 (B true)
theorem ok_alive : En 11 e_alive :=
  entry0 (callable Tryd.func11 (by kernel_rfl)) (spX es_al oks_al Tryd.func11 4 (by kernel_rfl))
end Go.Proofs.YtflbjjpcjeinlaaDoor
