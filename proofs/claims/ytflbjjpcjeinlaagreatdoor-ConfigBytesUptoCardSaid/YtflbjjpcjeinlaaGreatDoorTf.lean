/- The reference's reading of a configuration. -/
import Derived.Test.YtflbjjpcjeinlaaGreatDoorTe
namespace Go.Cb
open Go.Ev Go.Proofs.YtflbjjpcjeinlaaGreatDoor
def reN {α : Type} (c : Int) (K : Int → Rf → Option α) (x : Rf) : Option α := bif fgood x then K (i64 (fNum x c)) (fAdv x c) else none
end Go.Cb
namespace Go.Proofs.YtflbjjpcjeinlaaGreatDoor
open Go.Ev Go.Cb
abbrev X_fR : Xns := [(52, x_fNum), (53, x_fMust)]
theorem oks_fR : Xs X_fR := .cons ok_fNum (.cons ok_fMust .nil)
abbrev l_fR : Ens := [(15, e_r32_Right)]
def endR2 (c : Cf) (x : Rf) : Option (D × List D) :=
  let y := rf0 x (mustE x.e (cfgRight c))
  bif y.e != 0 then some (cCf.enc cf0, [rfD y]) else some (cCf.enc c, [rfD y])
def reDm (K : Dm → Rf → Option (D × List D)) (x : Rf) : Option (D × List D) := reN 1 (fun a => reN 1 fun b => reN 1 fun e => K ⟨a, b, e⟩) x
def tree_R2 (x : Rf) : Option (D × List D) :=
  let one := i64 (0 + 1)
  reN 1 (fun kind => reN 2 fun k => reN 2 fun cap => reN 1 fun w => reN 4 fun a => reN 4 fun b => reN 1 fun n x =>
    let c := fun d0 d1 : Dm => (⟨⟨kind, k, cap, ⟨n, d0, d1⟩⟩, w, a, b⟩ : Cf)
    bif decide (0 < n) then reDm (fun d0 x => bif decide (one < n) then reDm (fun d1 x => bif decide (i64 (one + 1) < n) then endR2 (c d0 d1) x else endR2 (c d0 d1) x) x else endR2 (c d0 dm0) x) x else endR2 (c dm0 dm0) x) x
theorem ev_r32Read (x : Rf) : evalX (envX l_fR X_fR) tb 9 Tryz.f18 [rfD x] = tree_R2 x := by kernel_rfl
end Go.Proofs.YtflbjjpcjeinlaaGreatDoor
namespace Go.Cb
open Go.Ev Go.Proofs.YtflbjjpcjeinlaaGreatDoor
/-- A reader of the reference, all of whose bytes are bytes. -/
def fbytes (x : Rf) : Bool := (List.range x.n).all fun i => decide (0 ≤ decS sU8 0 (x.g i)) && decide (decS sU8 0 (x.g i) ≤ 255)
structure FG (x : Rf) : Prop where
  g : fgood x = true
  b : fbytes x = true
theorem FG.at' {x : Rf} (h : FG x) {i : Nat} (hi : i < x.n) : 0 ≤ decS sU8 0 (x.g i) ∧ decS sU8 0 (x.g i) ≤ 255 := by
  have := h.b
  simp only [fbytes, List.all_eq_true, List.mem_range, Bool.and_eq_true, decide_eq_true_eq] at this
  exact this i hi
theorem FG.adv {x : Rf} (h : FG x) {c : Int} (hc : 0 ≤ c) : FG (fAdv x c) := ⟨fgood_adv h.g hc, h.b⟩
/-- What is left of it. -/
def vw (x : Rf) : Rr := ⟨x.n - x.at'.toNat, fun i => x.g (x.at'.toNat + i), x.e⟩
theorem rawE_pos {x : Rr} {c : Int} (hc : 0 ≤ c) : rawE x c = x.e := by
  unfold rawE mustE
  rw [decide_eq_true (show c ≥ 0 by omega)]
  cases x.e == 0 <;> rfl
theorem vw_bad {x : Rf} (h : FG x) {c : Int} (hc : 0 ≤ c) : rBad (vw x) c = fBad x c := by
  obtain ⟨_, _, h3, h4⟩ := fgood_in h.g
  unfold rBad fBad
  rw [rawE_pos hc]
  show (x.e != 0 || decide (c > ((x.n - x.at'.toNat : Nat) : Int))) = _
  rw [show ((x.n - x.at'.toNat : Nat) : Int) = x.n - x.at' by omega]
theorem vw_err {x : Rf} (h : FG x) {c : Int} (hc : 0 ≤ c) : rErr (vw x) c = fErr x c := by
  obtain ⟨_, _, h3, h4⟩ := fgood_in h.g
  unfold rErr fErr
  rw [rawE_pos hc]
  show (bif x.e != 0 then x.e else bif decide (c > ((x.n - x.at'.toNat : Nat) : Int)) then 8 else x.e) = _
  rw [show ((x.n - x.at'.toNat : Nat) : Int) = x.n - x.at' by omega]
theorem vw_adv {x : Rf} (h : FG x) {c : Int} (hc : 0 ≤ c) : vw (fAdv x c) = rAdv (vw x) c := by
  obtain ⟨_, _, h3, h4⟩ := fgood_in h.g
  unfold rAdv
  rw [vw_bad h hc, vw_err h hc]
  unfold fAdv vw
  cases hb : fBad x c with
  | true => rfl
  | false =>
    simp only [cond_false, Rr.mk.injEq, and_true]
    refine ⟨by omega, ?_⟩
    funext i
    rw [show (x.at' + c).toNat + i = x.at'.toNat + (c.toNat + i) by omega]
theorem pow6 : ∀ j : Nat, j ≤ 6 → (256 : Int) ^ j ≤ 256 ^ 6 := by decide
theorem numG_two {g : Nat → List D} : ∀ (k j i : Nat) (n : Int), (∀ m, m < i + k → 0 ≤ decS sU8 0 (g m) ∧ decS sU8 0 (g m) ≤ 255) → 0 ≤ n → n < 256 ^ j → j + k ≤ 7 → numG g k i n = numG2 g k i n
  | 0, _, _, _, _, _, _, _ => rfl
  | k + 1, j, i, n, hb, h0, h1, hk => by
    have hp : (256 : Int) ^ j ≤ 256 ^ 6 := pow6 j (by omega)
    obtain ⟨b0, b1⟩ := hb i (by omega)
    have e1 := stepN_eq h0 (by omega) b0 b1
    have e2 : step2 n (decS sU8 0 (g i)) = 256 * n + decS sU8 0 (g i) := by
      unfold step2
      rw [w64_of' (n := 256 * n) (by omega) (by omega), w64_of' b0 (by omega), w64_of' (by omega) (by omega)]
    show numG g k (i + 1) (stepN n _) = numG2 g k (i + 1) (step2 n _)
    rw [e1, e2]
    exact numG_two k (j + 1) (i + 1) _ (fun m hm => hb m (by omega)) (by omega) (by rw [Int.pow_succ]; omega) (by omega)
theorem vw_num {x : Rf} (h : FG x) {c : Int} (hc : 0 ≤ c) (hc2 : c ≤ 4) : rNum (vw x) c = fNum x c := by
  obtain ⟨_, _, h3, h4⟩ := fgood_in h.g
  unfold rNum fNum
  have e : rLen (vw x) c = fLen x c := by unfold rLen fLen; rw [vw_bad h hc]
  rw [e]
  refine numG_two (g := fun i => x.g (x.at'.toNat + i)) _ 0 0 0 (fun m hm => ?_) (by decide) (by decide) (by have := @fLen_le x c; omega)
  unfold fLen at hm
  cases hb : fBad x c with
  | true => rw [hb] at hm; simp at hm
  | false =>
    rw [hb] at hm
    unfold fBad at hb
    simp at hb hm
    exact h.at' (by omega)
theorem reN_vw {α : Type} {x : Rf} (h : FG x) {c : Int} (hc : 0 ≤ c) (hc2 : c ≤ 4) {K : Int → Rf → Option α} : reN c K x = K (i64 (rNum (vw x) c)) (fAdv x c) := by
  unfold reN
  rw [h.g, cond_true, vw_num h hc hc2]
def fadvs : List Int → Rf → Rf
  | [], x => x
  | c :: r, x => fadvs r (fAdv x c)
theorem FG.advs : ∀ (l : List Int) {x : Rf}, FG x → (∀ c ∈ l, 0 ≤ c) → FG (fadvs l x)
  | [], _, h, _ => h
  | c :: r, _, h, hl => FG.advs r (h.adv (hl c (by simp))) fun c hc => hl c (by simp [hc])
theorem vw_advs : ∀ (l : List Int) {x : Rf}, FG x → (∀ c ∈ l, 0 ≤ c) → vw (fadvs l x) = advs l (vw x)
  | [], _, _, _ => rfl
  | c :: r, x, h, hl => by
    have hc := hl c (by simp)
    show vw (fadvs r (fAdv x c)) = advs r (rAdv (vw x) c)
    rw [vw_advs r (h.adv hc) fun c hc => hl c (by simp [hc]), vw_adv h hc]
theorem endR2_eq (c : Cf) (x : Rf) : endR2 c x = some (cCf.enc (bif mustE x.e (cfgRight c) != 0 then cf0 else c), [rfD (rf0 x (mustE x.e (cfgRight c)))]) := by
  unfold endR2
  show (bif mustE x.e (cfgRight c) != 0 then _ else _) = _
  cases mustE x.e (cfgRight c) != 0 <;> rfl
theorem reDm_eq {K : Dm → Rf → Option (D × List D)} {x : Rf} (h : FG x) : reDm K x = K (rDm (vw x)) (fadvs dmL x) := by
  unfold reDm
  have h1 := h.adv (c := 1) (by decide)
  have h2 := h1.adv (c := 1) (by decide)
  rw [reN_vw h (by decide) (by decide), reN_vw h1 (by decide) (by decide), reN_vw h2 (by decide) (by decide), vw_adv h1 (by decide), vw_adv h (by decide)]
  rfl
def fEnd (x : Rf) : Rf :=
  bif decide (rN (vw x) < 1) then fadvs hdL x else bif decide (rN (vw x) < 2) then fadvs dmL (fadvs hdL x) else fadvs dmL (fadvs dmL (fadvs hdL x))
def fOut (x : Rf) : Rf := rf0 (fEnd x) (rErrC (vw x))
theorem hd_pos : ∀ c ∈ hdL, (0 : Int) ≤ c := by decide
theorem dm_pos : ∀ c ∈ dmL, (0 : Int) ≤ c := by decide
theorem vw_end {x : Rf} (h : FG x) : vw (fEnd x) = rEnd (vw x) := by
  have h1 := h.advs hdL hd_pos
  have h2 := h1.advs dmL dm_pos
  unfold fEnd rEnd
  cases decide (rN (vw x) < 1) with
  | true => exact vw_advs hdL h hd_pos
  | false =>
    cases decide (rN (vw x) < 2) with
    | true =>
      rw [cond_false, cond_false, cond_true, cond_true, vw_advs dmL h1 dm_pos, vw_advs hdL h hd_pos]
    | false =>
      rw [cond_false, cond_false, cond_false, cond_false, vw_advs dmL h2 dm_pos, vw_advs dmL h1 dm_pos, vw_advs hdL h hd_pos]
theorem FG.fend {x : Rf} (h : FG x) : FG (fEnd x) := by
  have h1 := h.advs hdL hd_pos
  have h2 := h1.advs dmL dm_pos
  have h3 := h2.advs dmL dm_pos
  unfold fEnd
  cases decide (rN (vw x) < 1) with
  | true => exact h1
  | false =>
    cases decide (rN (vw x) < 2) with
    | true => exact h2
    | false => exact h3
theorem tree_R2_eq (x : Rf) (h : FG x) : tree_R2 x = some (cCf.enc (cfgRd (vw x)), [rfD (fOut x)]) := by
  have hE : (fEnd x).e = (rEnd (vw x)).e := by rw [← vw_end h]; rfl
  unfold tree_R2
  simp only [show i64 (0 + 1) = 1 by decide, show i64 (1 + 1) = 2 by decide]
  have g1 := h.adv (c := 1) (by decide)
  have g2 := g1.adv (c := 2) (by decide)
  have g3 := g2.adv (c := 2) (by decide)
  have g4 := g3.adv (c := 1) (by decide)
  have g5 := g4.adv (c := 4) (by decide)
  have g6 := g5.adv (c := 4) (by decide)
  have g7 : FG (fadvs hdL x) := g6.adv (c := 1) (by decide)
  have g8 : FG (fadvs dmL (fadvs hdL x)) := g7.advs dmL dm_pos
  rw [reN_vw h (by decide) (by decide), reN_vw g1 (by decide) (by decide), reN_vw g2 (by decide) (by decide), reN_vw g3 (by decide) (by decide), reN_vw g4 (by decide) (by decide), reN_vw g5 (by decide) (by decide), reN_vw g6 (by decide) (by decide)]
  rw [vw_adv g5 (by decide), vw_adv g4 (by decide), vw_adv g3 (by decide), vw_adv g2 (by decide), vw_adv g1 (by decide), vw_adv h (by decide)]
  have e7 : vw (fadvs hdL x) = advs hdL (vw x) := vw_advs hdL h hd_pos
  have e8 : vw (fadvs dmL (fadvs hdL x)) = advs dmL (advs hdL (vw x)) := by rw [vw_advs dmL g7 dm_pos, e7]
  show (bif decide (0 < rN (vw x)) then reDm (fun d0 y => bif decide (1 < rN (vw x)) then reDm (fun d1 y => bif decide (2 < rN (vw x)) then
        endR2 ⟨⟨rI [] (vw x) 1, rI [1] (vw x) 2, rI [1, 2] (vw x) 2, ⟨rN (vw x), d0, d1⟩⟩, rI [1, 2, 2] (vw x) 1, rI [1, 2, 2, 1] (vw x) 4, rI [1, 2, 2, 1, 4] (vw x) 4⟩ y else
        endR2 ⟨⟨rI [] (vw x) 1, rI [1] (vw x) 2, rI [1, 2] (vw x) 2, ⟨rN (vw x), d0, d1⟩⟩, rI [1, 2, 2] (vw x) 1, rI [1, 2, 2, 1] (vw x) 4, rI [1, 2, 2, 1, 4] (vw x) 4⟩ y) y else
      endR2 ⟨⟨rI [] (vw x) 1, rI [1] (vw x) 2, rI [1, 2] (vw x) 2, ⟨rN (vw x), d0, dm0⟩⟩, rI [1, 2, 2] (vw x) 1, rI [1, 2, 2, 1] (vw x) 4, rI [1, 2, 2, 1, 4] (vw x) 4⟩ y) (fadvs hdL x) else
      endR2 ⟨⟨rI [] (vw x) 1, rI [1] (vw x) 2, rI [1, 2] (vw x) 2, ⟨rN (vw x), dm0, dm0⟩⟩, rI [1, 2, 2] (vw x) 1, rI [1, 2, 2, 1] (vw x) 4, rI [1, 2, 2, 1, 4] (vw x) 4⟩ (fadvs hdL x)) = _
  unfold cfgRd fOut rErrC
  rw [← hE]
  unfold fEnd rCf
  by_cases n1 : rN (vw x) < 1
  · have n2 : rN (vw x) < 2 := by omega
    rw [decide_eq_false (show ¬ 0 < rN (vw x) by omega), decide_eq_true n1, decide_eq_true n2]
    simp only [cond_false, cond_true]
    exact endR2_eq _ _
  · rw [decide_eq_true (show 0 < rN (vw x) by omega), decide_eq_false n1, cond_true, reDm_eq g7, e7]
    by_cases n2 : rN (vw x) < 2
    · rw [decide_eq_true n2, decide_eq_false (show ¬ 1 < rN (vw x) by omega)]
      simp only [cond_false, cond_true]
      exact endR2_eq _ _
    · rw [decide_eq_false n2, decide_eq_true (show 1 < rN (vw x) by omega), cond_true, reDm_eq g8, e8]
      simp only [cond_false, cond_true]
      rw [show ∀ (b : Bool) (t : Option (D × List D)), (bif b then t else t) = t from fun b t => by cases b <;> rfl]
      exact endR2_eq _ _
end Go.Cb
namespace Go.Proofs.YtflbjjpcjeinlaaGreatDoor
open Go.Ev Go.Cb
abbrev x_fRead : FeX := fx1 cRf (fun x => fgood x && fbytes x) fun x => (cCf.enc (cfgRd (vw x)), [rfD (fOut x)])
theorem ok_fRead : Enx 18 x_fRead :=
  entryX1 (callable Tryz.func18 (by kernel_rfl)) fun x h => by
    simp only [Bool.and_eq_true] at h
    exact sxX (.cons ok_r32_Right .nil) oks_fR Tryz.func18 9 ((ev_r32Read x).trans (tree_R2_eq x ⟨h.1, h.2⟩))
end Go.Proofs.YtflbjjpcjeinlaaGreatDoor
