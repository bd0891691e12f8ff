/- Configurations written: what Write gives. -/
import Derived.Test.YtflbjjpcjeinlaaGreatDoorNk
namespace Go.Cb
open Go.Ev Go.Proofs.YtflbjjpcjeinlaaGreatDoor
def wrN {α : Type} (n : Int) (c : Nat) (K : List Int → Option α) (l : List Int) : Option α :=
  bif okL sU8 0 l && wok (roL sU8 0 l) then K (roL sU8 0 l ++ numB (w64 n) c) else none
end Go.Cb
namespace Go.Proofs.YtflbjjpcjeinlaaGreatDoor
open Go.Ev Go.Cb
def endW (c : Cf) (l : List Int) : Option (D × List D) := some (.tup [], [wtD l, cCf.enc c])
def wrDm (d : Dm) (K : List Int → Option (D × List D)) : List Int → Option (D × List D) := wrN d.kind 1 (wrN d.side 1 (wrN d.step 1 K))
def tree_W (c : Cf) (l : List Int) : Option (D × List D) :=
  let one := i64 (0 + 1)
  let n := c.sh.s.n
  bif !cfgRight c then endW c l else
    wrN c.sh.kind 1 (wrN c.sh.k 2 (wrN c.sh.cap 2 (wrN c.by' 1 (wrN c.a 4 (wrN c.b 4 (wrN n 1 fun l =>
      bif decide (0 < n) then wrDm c.sh.s.d0 (fun l => bif decide (one < n) then wrDm c.sh.s.d1 (fun l => bif decide (i64 (one + 1) < n) then none else endW c l) l else endW c l) l else endW c l)))))) l
abbrev l_W : Ens := [(14, e_cRight)]
theorem ev_cWrite (l : List Int) (c : Cf) : evalX (envC l_W X_wN c_put) tb 4 Tryz.f11 [wtD l, cCf.enc c] = tree_W c l := by kernel_rfl
end Go.Proofs.YtflbjjpcjeinlaaGreatDoor
