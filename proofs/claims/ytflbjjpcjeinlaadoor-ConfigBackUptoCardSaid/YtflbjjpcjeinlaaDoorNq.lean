/- ConfigThere: the law's run. -/
import Derived.Test.YtflbjjpcjeinlaaDoorNp
namespace Go.Proofs.YtflbjjpcjeinlaaDoor
open Go.Ev Go.Cb
def restT (b : List Int) : Option D :=
  let C := cfgRd (rdr b)
  let Y := rOut (rdr b)
  let W := roL sU8 0 (cfgB C)
  let m := (W.length : Int).toNat - (0 : Int).toNat
  let G := fun i => getE sU8 0 b ((0 : Int).toNat + i)
  chk [decide (b.length ≤ 4294967296), rgood (rdr b)] (bif Y.e != 0 then some (B true) else chk [okL sU8 0 (cfgB C) && decide (W.length ≤ 4294967296)] (bif cfgRight C then (bif decide ((W.length : Int) ≤ b.length) then
    chk [allU8 W.length (getE sU8 0 W) && decide (W.length ≤ 4294967280), decide ((W.length : Int) ≤ b.length), allU8 m G && decide (m ≤ 4294967280)]
      (bif (strU8 W.length (getE sU8 0 W)).toList == (strU8 m G).toList then some (B ((bif Y.e != 0 then 0 else (Y.n : Int)) == i64 ((b.length : Int) - W.length))) else some (B false)) else some (B false)) else some (B false)))
theorem ev_ConfigThere (t : ByteArray) (b : List Int) : evalF (envX l_CB X_CB) tb 3 Tryd.f3 [T t, cBs.enc b] =
    let C := cfgV t
    let k := bif cfgE t != 0 then (bif !cfEq C cf0 then some (B false) else restT b) else restT b
    bif cfgE t == 0 then (bif !cfgRight C then some (B false) else bif !((cfgT C).toList == t.toList) then some (B false) else k) else k := by kernel_rfl
end Go.Proofs.YtflbjjpcjeinlaaDoor
