/- What must come of fixed calls. -/
import Derived.Test.YtflbjjpcjeinlaaGreatDoorNn
namespace Go.Proofs.YtflbjjpcjeinlaaGreatDoor
open Go.Ev Go.Cb
abbrev X_al : Xns := [(11, x_cWrite), (16, x_wBytes)]
theorem oks_al : Xs X_al := .cons ok_cWrite (.cons ok_wBytes .nil)
abbrev l_al : Ens := [(6, e_Parse), (9, e_cPrint), (14, e_cRight)]
theorem es_al : Es l_al := .cons ok_Parse (.cons ok_cPrint (.cons ok_cRight .nil))
abbrev e_alive : Fe := fn0 (B true)
theorem ok_alive : En 8 e_alive :=
  entry0 (callable Tryz.func8 (by kernel_rfl)) (spX es_al oks_al Tryz.func8 4 (by kernel_rfl))
end Go.Proofs.YtflbjjpcjeinlaaGreatDoor
