/- What must come of fixed calls. -/
import Derived.Test.YtbjpkbolmpcmfaaDoorVm
namespace Go.Proofs.YtbjpkbolmpcmfaaDoor
open Go.Ev Go.Cb
abbrev l_alive14 : Ens := [(17, e_Write), (8, e_Read), (9, e_Recs), (18, e_vGap)]
theorem ev_alive14 : evalF (envOf l_alive14) tb 1 Tryd.f13 [] = some (B true) := by kernel_rfl
abbrev e_alive14 : Fe := fn0 (B true)
theorem ok_alive14 : En 13 e_alive14 :=
  entry0 (callable Tryd.func13 (by kernel_rfl)) (sp (.cons ok_Write (.cons ok_Read (.cons ok_Recs (.cons ok_vGap .nil)))) Tryd.func13 1 ev_alive14)
end Go.Proofs.YtbjpkbolmpcmfaaDoor
