/- Configurations read: what Read gives. -/
import Derived.Test.YtflbjjpcjeinlaaGreatDoorNl
namespace Go.Cb
open Go.Ev Go.Proofs.YtflbjjpcjeinlaaGreatDoor
def rdN {α : Type} (c : Int) (K : Int → Rr → Option α) (x : Rr) : Option α := bif rck x c then K (i64 (rNum x c)) (rAdv x c) else none
end Go.Cb
namespace Go.Proofs.YtflbjjpcjeinlaaGreatDoor
open Go.Ev Go.Cb
def endR (c : Cf) (x : Rr) : Option (D × List D) :=
  let y := rd0 x (mustE x.e (cfgRight c))
  bif y.e != 0 then some (cCf.enc cf0, [rdD y]) else some (cCf.enc c, [rdD y])
def rdDm (K : Dm → Rr → Option (D × List D)) (x : Rr) : Option (D × List D) := rdN 1 (fun a => rdN 1 fun b => rdN 1 fun e => K ⟨a, b, e⟩) x
def tree_R (x : Rr) : Option (D × List D) :=
  let one := i64 (0 + 1)
  rdN 1 (fun kind => rdN 2 fun k => rdN 2 fun cap => rdN 1 fun w => rdN 4 fun a => rdN 4 fun b => rdN 1 fun n x =>
    let m := if 2 < n then 2 else n
    let c := fun d0 d1 : Dm => (⟨⟨kind, k, cap, ⟨n, d0, d1⟩⟩, w, a, b⟩ : Cf)
    bif decide (0 < m) then rdDm (fun d0 x => bif decide (one < m) then rdDm (fun d1 x => bif decide (i64 (one + 1) < m) then none else endR (c d0 d1) x) x else endR (c d0 dm0) x) x else endR (c dm0 dm0) x) x
theorem ev_cRead (x : Rr) : evalX (envC l_W X_rN c_get) tb 4 Tryz.f13 [rdD x] = tree_R x := by kernel_rfl
end Go.Proofs.YtflbjjpcjeinlaaGreatDoor
