/- ConfigBack: the law's run. -/
import Derived.Test.YtflbjjpcjeinlaaDoorNo
namespace Go.Cb
open Go.Ev Go.Proofs.YtflbjjpcjeinlaaDoor
def cfEq (a b : Cf) : Bool := (a.sh.kind == b.sh.kind) && ((a.sh.k == b.sh.k) && ((a.sh.cap == b.sh.cap) && ((a.sh.s.n == b.sh.s.n) && ((a.sh.s.d0.kind == b.sh.s.d0.kind) && ((a.sh.s.d0.side == b.sh.s.d0.side) && ((a.sh.s.d0.step == b.sh.s.d0.step) &&
  ((a.sh.s.d1.kind == b.sh.s.d1.kind) && ((a.sh.s.d1.side == b.sh.s.d1.side) && ((a.sh.s.d1.step == b.sh.s.d1.step) && ((a.by' == b.by') && ((a.a == b.a) && ((a.b == b.b) && true))))))))))))
end Go.Cb
namespace Go.Proofs.YtflbjjpcjeinlaaDoor
open Go.Ev Go.Cb
abbrev X_CB : Xns := [(12, x_cWrite), (13, x_wBytes), (8, x_From), (9, x_cRead), (15, x_End), (10, x_Err), (14, x_Left)]
theorem oks_CB : Xs X_CB := .cons ok_cWrite (.cons ok_wBytes (.cons ok_From (.cons ok_cRead (.cons ok_End (.cons ok_Err (.cons ok_Left .nil))))))
abbrev l_CB : Ens := [(11, e_alive), (5, e_Parse), (7, e_cPrint), (6, e_cRight)]
theorem es_CB : Es l_CB := .cons ok_alive (.cons ok_Parse (.cons ok_cPrint (.cons ok_cRight .nil)))
theorem ev_ConfigBack (c : Cf) (n : Int) : evalF (envX l_CB X_CB) tb 3 Tryd.f4 [cCf.enc c, I n] =
    let W := roL sU8 0 (cfgB c)
    let R := rdr W
    let t := cfgT c
    let m := n.toNat - (0 : Int).toNat
    let S : Rr := ⟨m, fun i => getE sU8 0 W ((0 : Int).toNat + i), 0⟩
    chk [okL sU8 0 (cfgB c) && decide (W.length ≤ 4294967296)] (bif !cfgRight c then (bif (W.length : Int) == 0 then some (B (t.toList == noT.toList)) else some (B false)) else
      chk [decide (W.length ≤ 4294967296), rgood R] (bif !cfEq (cfgRd R) c then some (B false) else bif endE (rOut R) != 0 then some (B false) else bif cfgE t != 0 then some (B false) else bif !cfEq (cfgV t) c then some (B false) else
        bif decide (n < 0) then some (B true) else bif decide (n ≥ W.length) then some (B true) else
          chk [decide ((0 : Int) ≤ 0) && (decide (0 ≤ n) && decide (n ≤ W.length)), decide (m ≤ 4294967296), rgood S] (bif cfEq (cfgRd S) cf0 then some (B (endE (rOut S) == 8)) else some (B false)))) := by kernel_rfl
end Go.Proofs.YtflbjjpcjeinlaaDoor
