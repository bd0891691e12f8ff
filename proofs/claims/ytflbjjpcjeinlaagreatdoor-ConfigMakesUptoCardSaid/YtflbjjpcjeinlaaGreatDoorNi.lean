/- Configurations read from texts. -/
import Derived.Test.YtflbjjpcjeinlaaGreatDoorNh
namespace Go.Cb
open Go.Ev
def pN (t : ByteArray) : Nat := (splitS t blankT).length
def pW (t : ByteArray) (i : Nat) : ByteArray := (splitS t blankT).getD i noT
def pNoC (w : Nat → ByteArray) : Bool := false || engNo (w 0) || numNo (w 1) || shNo (w 2) || nameNo weightsL (w 3) || dimNo (w 4)
def pGrC (w : Nat → ByteArray) : Bool := false || engGr (w 0) || numGr (w 1) || shGr (w 2) || dimGr (w 4)
def pCf (w : Nat → ByteArray) (n : Int) (d : Dm) : Cf := ⟨⟨engK (w 0), numV (w 1), engC (w 0), ⟨n, dimOf (w 4), d⟩⟩, nameK weightsL (w 3), shA (w 2), shB (w 2)⟩
/-- What is read: whether a word is none, whether a number is too great, and what it is. -/
def pNo (t : ByteArray) : Bool := bif Nat.beq (pN t) 5 then pNoC (pW t) else pNoC (pW t) || dimNo (pW t 5)
def pGr (t : ByteArray) : Bool := bif Nat.beq (pN t) 5 then pGrC (pW t) else pGrC (pW t) || dimGr (pW t 5)
def pCfg (t : ByteArray) : Cf := bif Nat.beq (pN t) 5 then pCf (pW t) 1 dm0 else pCf (pW t) 2 (dimOf (pW t 5))
def pIn (t : ByteArray) : Bool := Nat.beq (pN t) 5 || Nat.beq (pN t) 6
def cfgE (t : ByteArray) : Int := bif !pIn t then 3 else bif pNo t then 3 else bif pGr t then 1 else bif !cfgRight (pCfg t) then 1 else 0
def cfgV (t : ByteArray) : Cf := bif cfgE t == 0 then pCfg t else cf0
end Go.Cb
namespace Go.Proofs.YtflbjjpcjeinlaaGreatDoor
open Go.Ev Go.Cb
theorem splitS_len1 (p : ByteArray) (c : UInt8) : (splitS p ⟨#[c]⟩).length ≤ p.size + 1 := by
  have h1 := Lib.splitB_all (⟨#[c]⟩ : ByteArray) (by show 1 ≤ 1; exact Nat.le_refl _) 0 _ p rfl
  have h2 := Lib.countB_le (⟨#[c]⟩ : ByteArray) (by show 1 ≤ 1; exact Nat.le_refl _) _ p (Nat.le_refl _)
  unfold splitS
  omega
abbrev X_P : Xns := [(28, x_name), (26, x_number), (25, x_engine), (27, x_share), (30, x_dim)]
theorem oks_P : Xs X_P := .cons ok_name (.cons ok_number (.cons ok_engine (.cons ok_share (.cons ok_dim .nil))))
abbrev l_P : Ens := [(24, e_Split), (29, e_weights), (14, e_cRight)]
abbrev prD (c : Cf) (e : Int) : D := .tup [cCf.enc c, I e]
/-- What follows the words. -/
def endP (no gr : Bool) (c : Cf) : Option D := bif no then some (prD cf0 3) else bif gr then some (prD cf0 1) else bif !cfgRight c then some (prD cf0 1) else some (prD c 0)
def tree_P (L : List ByteArray) (N : Nat) : Option D :=
  let W := roL sT noT weightsL
  let w := fun i : Nat => L.getD i noT
  let n := i64 ((N : Int) - 4)
  let M : Nat := (N : Int).toNat - 4
  let m : Int := (((N : Int).toNat - (4 : Int).toNat : Nat) : Int)
  let one := i64 (0 + 1)
  let two := i64 (one + 1)
  let no := false || engNo (w 0) || numNo (w 1) || shNo (w 2) || nameNo W (w 3)
  let gr := false || engGr (w 0) || numGr (w 1) || shGr (w 2)
  let c := fun d0 d1 : Dm => (⟨⟨engK (w 0), numV (w 1), engC (w 0), ⟨n, d0, d1⟩⟩, nameK W (w 3), shA (w 2), shB (w 2)⟩ : Cf)
  bif decide (n < 1) then some (prD cf0 3) else bif decide (n > 2) then some (prD cf0 3) else
    chk [bnd 0 N, bnd 1 N, bnd 2 N, bnd 3 N, decide ((4 : Int) ≤ N) && decide ((N : Int) ≤ N)]
      (bif decide (0 < m) then chk [bnd 0 M] (bif decide (one < m) then chk [bnd one M] (bif decide (two < m) then chk [bnd two M, false] none else endP (no || dimNo (w 4) || dimNo (w 5)) (gr || dimGr (w 4) || dimGr (w 5)) (c (dimOf (w 4)) (dimOf (w 5))))
        else endP (no || dimNo (w 4)) (gr || dimGr (w 4)) (c (dimOf (w 4)) dm0))
      else endP no gr (c dm0 dm0))
theorem ev_Parse (t : ByteArray) : evalF (envX l_P X_P) tb 4 Tryz.f6 [T t] = tree_P (splitS t blankT) (splitS t blankT).length := by kernel_rfl
theorem endP_eq (no gr : Bool) (c : Cf) : endP no gr c = (let e : Int := bif no then 3 else bif gr then 1 else bif !cfgRight c then 1 else 0; some (prD (bif e == 0 then c else cf0) e)) := by
  unfold endP
  cases no <;> cases gr <;> cases cfgRight c <;> rfl
theorem tree_P_eq (t : ByteArray) (hs : (splitS t blankT).length ≤ 4294967296) : tree_P (splitS t blankT) (splitS t blankT).length = some (prD (cfgV t) (cfgE t)) := by
  have hpN : pN t = (splitS t blankT).length := rfl
  unfold cfgV cfgE pIn pNo pGr pCfg
  rw [hpN]
  have hw : pW t = fun i : Nat => (splitS t blankT).getD i noT := rfl
  rw [hw]
  unfold tree_P
  rw [roW]
  generalize splitS t blankT = L at hs ⊢
  generalize L.length = N at hs ⊢
  have hn : i64 ((N : Int) - 4) = (N : Int) - 4 := i64_in (by omega) (by omega)
  simp only [hn]
  by_cases h5 : N < 5
  · rw [decide_eq_true (show (N : Int) - 4 < 1 by omega), cond_true, show Nat.beq N 5 = false by rw [← Bool.not_eq_true, Nat.beq_eq]; omega, show Nat.beq N 6 = false by rw [← Bool.not_eq_true, Nat.beq_eq]; omega]
    rfl
  · by_cases h6 : 6 < N
    · rw [decide_eq_false (show ¬ (N : Int) - 4 < 1 by omega), cond_false, decide_eq_true (show (N : Int) - 4 > 2 by omega), cond_true, show Nat.beq N 5 = false by rw [← Bool.not_eq_true, Nat.beq_eq]; omega, show Nat.beq N 6 = false by rw [← Bool.not_eq_true, Nat.beq_eq]; omega]
      rfl
    · have : N = 5 ∨ N = 6 := by omega
      rcases this with rfl | rfl
      · refine (show _ = endP (pNoC fun i => L.getD i noT) (pGrC fun i => L.getD i noT) (pCf (fun i => L.getD i noT) 1 dm0) from rfl).trans ?_
        rw [endP_eq]
        rfl
      · refine (show _ = endP ((pNoC fun i => L.getD i noT) || dimNo (L.getD 5 noT)) ((pGrC fun i => L.getD i noT) || dimGr (L.getD 5 noT)) (pCf (fun i => L.getD i noT) 2 (dimOf (L.getD 5 noT))) from rfl).trans ?_
        rw [endP_eq]
        rfl
abbrev e_Parse : Fe := fn1 cT fun t => prD (cfgV t) (cfgE t)
theorem ok_Parse : En 6 e_Parse :=
  entry1 (callable Tryz.func6 (by kernel_rfl)) fun t => .str 0 rfl fun hs => spX (.cons ok_Split (.cons ok_weights (.cons ok_cRight .nil))) oks_P Tryz.func6 4
    ((ev_Parse t).trans (tree_P_eq t (Nat.le_trans (splitS_len1 t 32) (by omega))))
end Go.Proofs.YtflbjjpcjeinlaaGreatDoor
