/- Engines, shares, dimensions read. -/
import Derived.Test.YtflbjjpcjeinlaaGreatDoorNf
namespace Go.Cb
open Go.Ev
/-! A word's engine: its kind, its cap, whether it is none, whether a number is too great. -/
def engK (s : ByteArray) : Int := nameK enginesL (cutA s colonT)
def engC (s : ByteArray) : Int := bif !cutOk s colonT then 0 else numV (cutZ s colonT)
def engNo (s : ByteArray) : Bool := (nameNo enginesL (cutA s colonT) || !(cutOk s colonT == (engK s != 1))) || (bif !cutOk s colonT then false else numNo (cutZ s colonT))
def engGr (s : ByteArray) : Bool := bif !cutOk s colonT then false else numGr (cutZ s colonT)
def shA (s : ByteArray) : Int := numV (cutA s slashT)
def shB (s : ByteArray) : Int := numV (cutZ s slashT)
def shNo (s : ByteArray) : Bool := !cutOk s slashT || numNo (cutA s slashT) || numNo (cutZ s slashT)
def shGr (s : ByteArray) : Bool := numGr (cutA s slashT) || numGr (cutZ s slashT)
abbrev dW (s : ByteArray) (i : Nat) : ByteArray := (splitS s colonT).getD i noT
def dBad (s : ByteArray) : Bool := ((splitS s colonT).length : Int) != 3
def dimOf (s : ByteArray) : Dm := bif dBad s then ⟨0, 0, 0⟩ else ⟨nameK kindsL (dW s 0), nameK sidesL (dW s 1), numV (dW s 2)⟩
def dimNo (s : ByteArray) : Bool := bif dBad s then true else (nameNo kindsL (dW s 0) || nameNo sidesL (dW s 1) || numNo (dW s 2))
def dimGr (s : ByteArray) : Bool := bif dBad s then false else numGr (dW s 2)
end Go.Cb
namespace Go.Proofs.YtflbjjpcjeinlaaGreatDoor
open Go.Ev Go.Cb
abbrev X_sc : Xns := [(28, x_name), (26, x_number)]
theorem oks_sc : Xs X_sc := .cons ok_name (.cons ok_number .nil)
abbrev l_sc : Ens := [(61, e_Cut), (24, e_Split), (34, e_engines), (36, e_kinds), (37, e_sides)]
theorem es_sc : Es l_sc := .cons ok_Cut (.cons ok_Split (.cons ok_engines (.cons ok_kinds (.cons ok_sides .nil))))
theorem roE : roL sT noT enginesL = enginesL := roL_eq _ _ _
theorem roK : roL sT noT kindsL = kindsL := roL_eq _ _ _
theorem roS : roL sT noT sidesL = sidesL := roL_eq _ _ _
theorem roW : roL sT noT weightsL = weightsL := roL_eq _ _ _
abbrev x_engine : FeX := fx2 cSc xT (fun _ _ => true) fun x s => (.tup [I (engK s), I (engC s)], [scD (x.1 || engNo s) (x.2 || engGr s), T s])
theorem ev_engine (n g : Bool) (s : ByteArray) : evalX (envX l_sc X_sc) tb 3 Tryz.f25 [scD n g, T s] =
    let a := cutA s colonT
    let z := cutZ s colonT
    let k := nameK (roL sT noT enginesL) a
    let d := !(cutOk s colonT == (k != 1))
    bif n || nameNo (roL sT noT enginesL) a then (bif !cutOk s colonT then some (.tup [I k, I 0], [scD true g, T s]) else some (.tup [I k, I (numV z)], [scD true (g || numGr z), T s]))
    else (bif !cutOk s colonT then some (.tup [I k, I 0], [scD d g, T s]) else some (.tup [I k, I (numV z)], [scD (d || numNo z) (g || numGr z), T s])) := by kernel_rfl
theorem ok_engine : Enx 25 x_engine :=
  entryX2 (callable Tryz.func25 (by kernel_rfl)) fun x s _ => sxX es_sc oks_sc Tryz.func25 3 ((ev_engine x.1 x.2 s).trans (by
    obtain ⟨n, g⟩ := x
    simp only [roE]
    unfold engK engC engNo engGr engK
    cases n <;> cases nameNo enginesL (cutA s colonT) <;> cases cutOk s colonT <;> simp))
abbrev x_share : FeX := fx2 cSc xT (fun _ _ => true) fun x s => (.tup [I (shA s), I (shB s)], [scD (x.1 || shNo s) (x.2 || shGr s), T s])
theorem ev_share (n g : Bool) (s : ByteArray) : evalX (envX l_sc X_sc) tb 3 Tryz.f27 [scD n g, T s] =
    let a := cutA s slashT
    let z := cutZ s slashT
    bif n then some (.tup [I (numV a), I (numV z)], [scD true (g || numGr a || numGr z), T s])
    else some (.tup [I (numV a), I (numV z)], [scD (!cutOk s slashT || numNo a || numNo z) (g || numGr a || numGr z), T s]) := by kernel_rfl
theorem ok_share : Enx 27 x_share :=
  entryX2 (callable Tryz.func27 (by kernel_rfl)) fun x s _ => sxX es_sc oks_sc Tryz.func27 3 ((ev_share x.1 x.2 s).trans (by
    obtain ⟨n, g⟩ := x
    unfold shA shB shNo shGr
    cases n <;> simp [Bool.or_assoc]))
abbrev x_dim : FeX := fx2 cSc xT (fun _ _ => true) fun x s => (cDm.enc (dimOf s), [scD (x.1 || dimNo s) (x.2 || dimGr s), T s])
theorem ev_dim (n g : Bool) (s : ByteArray) : evalX (envX l_sc X_sc) tb 3 Tryz.f30 [scD n g, T s] =
    let L := (splitS s colonT).length
    let kk := roL sT noT kindsL
    let ss := roL sT noT sidesL
    bif dBad s then some (cDm.enc ⟨0, 0, 0⟩, [scD true g, T s])
    else chk [bnd 0 L, bnd 1 L, bnd 2 L] (some (cDm.enc ⟨nameK kk (dW s 0), nameK ss (dW s 1), numV (dW s 2)⟩, [scD (n || nameNo kk (dW s 0) || nameNo ss (dW s 1) || numNo (dW s 2)) (g || numGr (dW s 2)), T s])) := by kernel_rfl
theorem ok_dim : Enx 30 x_dim :=
  entryX2 (callable Tryz.func30 (by kernel_rfl)) fun x s _ => sxX es_sc oks_sc Tryz.func30 3 ((ev_dim x.1 x.2 s).trans (by
    obtain ⟨n, g⟩ := x
    simp only [roK, roS]
    unfold dimOf dimNo dimGr
    cases h : dBad s with
    | true => simp
    | false =>
      have hl : (splitS s colonT).length = 3 := by unfold dBad at h; simp at h; omega
      rw [chk_eq (by simp [hl, bnd])]
      simp [Bool.or_assoc]))
end Go.Proofs.YtflbjjpcjeinlaaGreatDoor
