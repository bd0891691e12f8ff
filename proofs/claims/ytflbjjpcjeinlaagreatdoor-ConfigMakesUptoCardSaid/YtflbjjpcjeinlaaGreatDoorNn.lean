/- Write's and Read's contracts. -/
import Derived.Test.YtflbjjpcjeinlaaGreatDoorNm
namespace Go.Cb
open Go.Ev Go.Proofs.YtflbjjpcjeinlaaGreatDoor
def dmB (d : Dm) : List Int := numB (w64 d.kind) 1 ++ (numB (w64 d.side) 1 ++ numB (w64 d.step) 1)
def cfgB0 (c : Cf) : List Int := numB (w64 c.sh.kind) 1 ++ (numB (w64 c.sh.k) 2 ++ (numB (w64 c.sh.cap) 2 ++ (numB (w64 c.by') 1 ++ (numB (w64 c.a) 4 ++ (numB (w64 c.b) 4 ++ (numB (w64 c.sh.s.n) 1 ++ (dmB c.sh.s.d0 ++ (bif c.sh.s.n == 1 then [] else dmB c.sh.s.d1))))))))
def cfgB (c : Cf) : List Int := bif cfgRight c then cfgB0 c else []
theorem wrN_eq {α : Type} {n : Int} {c : Nat} {K : List Int → Option α} {l : List Int} (h : l.length ≤ 1099511627776) : wrN n c K l = K (l ++ numB (w64 n) c) := by
  unfold wrN
  rw [roL_eq, okL_eq, show wok l = true by simpa [wok] using h]
  rfl
theorem wrDm_eq {d : Dm} {K : List Int → Option (D × List D)} {l : List Int} (h : l.length ≤ 1099511627000) : wrDm d K l = K (l ++ dmB d) := by
  unfold wrDm
  rw [wrN_eq (by omega), wrN_eq (by simp [numB_len]; omega), wrN_eq (by simp [numB_len]; omega)]
  simp only [dmB, List.append_assoc]
theorem dmB_len (d : Dm) : (dmB d).length = 3 := by simp [dmB, numB_len]
theorem tree_W_eq (c : Cf) (l : List Int) (hl : l.length ≤ 4294967296) : tree_W c l = some (.tup [], [wtD (l ++ cfgB c), cCf.enc c]) := by
  unfold tree_W cfgB
  cases hc : cfgRight c with
  | false => rw [Bool.not_false, cond_true, cond_false, List.append_nil]; rfl
  | true =>
    have h := cfg_in hc
    rw [Bool.not_true, cond_false, cond_true]
    have z1 : i64 (0 + 1) = 1 := by decide
    have z2 : i64 (1 + 1) = 2 := by decide
    simp only [z1, z2]
    rw [wrN_eq (by omega), wrN_eq (by simp [numB_len]; omega), wrN_eq (by simp [numB_len]; omega), wrN_eq (by simp [numB_len]; omega), wrN_eq (by simp [numB_len]; omega), wrN_eq (by simp [numB_len]; omega), wrN_eq (by simp [numB_len]; omega)]
    rcases h.d1 with ⟨n1, _⟩ | ⟨n2, _⟩
    · rw [n1, decide_eq_true (show (0 : Int) < 1 by omega), cond_true, wrDm_eq (by simp [numB_len]; omega), decide_eq_false (show ¬ (1 : Int) < 1 by omega), cond_false]
      unfold endW cfgB0
      rw [n1, show ((1 : Int) == 1) = true by decide, cond_true, List.append_nil]
      simp only [List.append_assoc]
    · rw [n2, decide_eq_true (show (0 : Int) < 2 by omega), cond_true, wrDm_eq (by simp [numB_len]; omega), decide_eq_true (show (1 : Int) < 2 by omega), cond_true, wrDm_eq (by simp [numB_len, dmB_len]; omega), decide_eq_false (show ¬ (2 : Int) < 2 by omega), cond_false]
      unfold endW cfgB0
      rw [n2, show ((2 : Int) == 1) = false by decide, cond_false]
      simp only [List.append_assoc]
/-! What is read. -/
abbrev hdL : List Int := [1, 2, 2, 1, 4, 4, 1]
abbrev dmL : List Int := [1, 1, 1]
def rI (l : List Int) (x : Rr) (c : Int) : Int := i64 (rAt l x c)
def rDm (x : Rr) : Dm := ⟨rI [] x 1, rI [1] x 1, rI [1, 1] x 1⟩
def rN (x : Rr) : Int := rI [1, 2, 2, 1, 4, 4] x 1
/-- The reader behind all that is read. -/
def rEnd (x : Rr) : Rr :=
  bif decide (rN x < 1) then advs hdL x else bif decide (rN x < 2) then advs dmL (advs hdL x) else advs dmL (advs dmL (advs hdL x))
def rCf (x : Rr) : Cf := ⟨⟨rI [] x 1, rI [1] x 2, rI [1, 2] x 2, ⟨rN x, bif decide (rN x < 1) then dm0 else rDm (advs hdL x), bif decide (rN x < 2) then dm0 else rDm (advs dmL (advs hdL x))⟩⟩,
  rI [1, 2, 2] x 1, rI [1, 2, 2, 1] x 4, rI [1, 2, 2, 1, 4] x 4⟩
def rErrC (x : Rr) : Int := mustE (rEnd x).e (cfgRight (rCf x))
def cfgRd (x : Rr) : Cf := bif rErrC x != 0 then cf0 else rCf x
def rOut (x : Rr) : Rr := rd0 (rEnd x) (rErrC x)
theorem rdN_eq {α : Type} {c : Int} {K : Int → Rr → Option α} {x : Rr} (h : rgood x = true) : rdN c K x = K (i64 (rNum x c)) (rAdv x c) := by
  unfold rdN
  rw [rgood_ck h]
  rfl
theorem endR_eq (c : Cf) (x : Rr) : endR c x = some (cCf.enc (bif mustE x.e (cfgRight c) != 0 then cf0 else c), [rdD (rd0 x (mustE x.e (cfgRight c)))]) := by
  unfold endR
  show (bif mustE x.e (cfgRight c) != 0 then _ else _) = _
  cases mustE x.e (cfgRight c) != 0 <;> rfl
theorem rdDm_eq {K : Dm → Rr → Option (D × List D)} {x : Rr} (h : rgood x = true) : rdDm K x = K (rDm x) (advs dmL x) := by
  unfold rdDm
  rw [rdN_eq h, rdN_eq (rgood_adv h 1), rdN_eq (rgood_adv (rgood_adv h 1) 1)]
  rfl
theorem tree_R_eq (x : Rr) (h : rgood x = true) : tree_R x = some (cCf.enc (cfgRd x), [rdD (rOut x)]) := by
  unfold tree_R
  have z1 : i64 (0 + 1) = 1 := by decide
  have z2 : i64 (1 + 1) = 2 := by decide
  simp only [z1, z2]
  have g1 := rgood_adv h 1
  have g2 := rgood_adv g1 2
  have g3 := rgood_adv g2 2
  have g4 := rgood_adv g3 1
  have g5 := rgood_adv g4 4
  have g6 := rgood_adv g5 4
  rw [rdN_eq h, rdN_eq g1, rdN_eq g2, rdN_eq g3, rdN_eq g4, rdN_eq g5, rdN_eq g6]
  have hx : rgood (advs hdL x) = true := rgood_advs _ h
  show (bif decide (0 < if 2 < rN x then 2 else rN x) then rdDm (fun d0 y => bif decide (1 < if 2 < rN x then 2 else rN x) then rdDm (fun d1 y => bif decide (2 < if 2 < rN x then 2 else rN x) then none else
      endR ⟨⟨rI [] x 1, rI [1] x 2, rI [1, 2] x 2, ⟨rN x, d0, d1⟩⟩, rI [1, 2, 2] x 1, rI [1, 2, 2, 1] x 4, rI [1, 2, 2, 1, 4] x 4⟩ y) y else
      endR ⟨⟨rI [] x 1, rI [1] x 2, rI [1, 2] x 2, ⟨rN x, d0, dm0⟩⟩, rI [1, 2, 2] x 1, rI [1, 2, 2, 1] x 4, rI [1, 2, 2, 1, 4] x 4⟩ y) (advs hdL x) else
      endR ⟨⟨rI [] x 1, rI [1] x 2, rI [1, 2] x 2, ⟨rN x, dm0, dm0⟩⟩, rI [1, 2, 2] x 1, rI [1, 2, 2, 1] x 4, rI [1, 2, 2, 1, 4] x 4⟩ (advs hdL x)) = _
  unfold cfgRd rOut rErrC rEnd rCf
  by_cases n1 : rN x < 1
  · have n2 : rN x < 2 := by omega
    have n3 : ¬ 2 < rN x := by omega
    rw [if_neg n3, decide_eq_false (show ¬ 0 < rN x by omega), decide_eq_true n1, decide_eq_true n2]
    simp only [cond_false, cond_true]
    exact endR_eq _ _
  · by_cases n2 : rN x < 2
    · have n3 : ¬ 2 < rN x := by omega
      rw [if_neg n3, decide_eq_true (show 0 < rN x by omega), decide_eq_false n1, decide_eq_true n2, decide_eq_false (show ¬ 1 < rN x by omega)]
      simp only [cond_false, cond_true]
      rw [rdDm_eq hx]
      exact endR_eq _ _
    · have e : (if 2 < rN x then 2 else rN x) = 2 := by split <;> omega
      rw [e, decide_eq_true (show (0 : Int) < 2 by omega), decide_eq_false n1, decide_eq_false n2, decide_eq_true (show (1 : Int) < 2 by omega), decide_eq_false (show ¬ (2 : Int) < 2 by omega)]
      simp only [cond_false, cond_true]
      rw [rdDm_eq hx, rdDm_eq (rgood_advs dmL hx)]
      exact endR_eq _ _
end Go.Cb
namespace Go.Proofs.YtflbjjpcjeinlaaGreatDoor
open Go.Ev Go.Cb
abbrev x_cWrite : FeX := fx2 cWt (xagg sCf) (fun l _ => decide (l.length ≤ 4294967296)) fun l c => (.tup [], [wtD (l ++ cfgB c), cCf.enc c])
theorem ok_cWrite : Enx 11 x_cWrite :=
  entryX2 (callable Tryz.func11 (by kernel_rfl)) fun l c h => sxC (.cons ok_cRight .nil) (.cons ok_wNum .nil) okc_put Tryz.func11 4 ((ev_cWrite l c).trans (tree_W_eq c l (of_decide_eq_true h)))
abbrev x_cRead : FeX := fx1 cRd (fun x => rgood x) fun x => (cCf.enc (cfgRd x), [rdD (rOut x)])
theorem ok_cRead : Enx 13 x_cRead :=
  entryX1 (callable Tryz.func13 (by kernel_rfl)) fun x h => sxC (.cons ok_cRight .nil) oks_rN okc_get Tryz.func13 4 ((ev_cRead x).trans (tree_R_eq x h))
end Go.Proofs.YtflbjjpcjeinlaaGreatDoor
