/- ConfigBytes: the law. -/
import Derived.Test.YtflbjjpcjeinlaaGreatDoorTf
namespace Go.Cb
open Go.Ev Go.Proofs.YtflbjjpcjeinlaaGreatDoor
def cfEq (a b : Cf) : Bool := (a.sh.kind == b.sh.kind) && ((a.sh.k == b.sh.k) && ((a.sh.cap == b.sh.cap) && ((a.sh.s.n == b.sh.s.n) && ((a.sh.s.d0.kind == b.sh.s.d0.kind) && ((a.sh.s.d0.side == b.sh.s.d0.side) && ((a.sh.s.d0.step == b.sh.s.d0.step) &&
  ((a.sh.s.d1.kind == b.sh.s.d1.kind) && ((a.sh.s.d1.side == b.sh.s.d1.side) && ((a.sh.s.d1.step == b.sh.s.d1.step) && ((a.by' == b.by') && ((a.a == b.a) && ((a.b == b.b) && true))))))))))))
theorem cfEq_refl (a : Cf) : cfEq a a = true := by simp [cfEq]
abbrev rfr (b : List Int) : Rf := ⟨b.length, getE sU8 0 b, 0, 0⟩
theorem vw_rfr (b : List Int) : vw (rfr b) = rdr b := by
  have e : (fun i => getE sU8 0 b (0 + i)) = fun i => sU8.enc (b.getD i 0) := by funext i; rw [Nat.zero_add]
  show (⟨b.length - 0, fun i => getE sU8 0 b (0 + i), 0⟩ : Rr) = _
  rw [e, Nat.sub_zero]
theorem FG_rfr {b : List Int} (h : b.length ≤ 4294967296) (hb : ∀ x ∈ b, byteIn x) : FG (rfr b) where
  g := by
    unfold fgood
    rw [Bool.and_eq_true, Bool.and_eq_true, Bool.and_eq_true]
    exact ⟨decide_eq_true h, all8_iff.2 fun i _ => isS_enc sU8 _, decide_eq_true (Int.le_refl 0), decide_eq_true (by show (0 : Int) ≤ (b.length : Int); omega)⟩
  b := by
    simp only [fbytes, List.all_eq_true, List.mem_range, Bool.and_eq_true, decide_eq_true_eq]
    intro i hi
    show 0 ≤ decS sU8 0 (sU8.enc (b.getD i 0)) ∧ decS sU8 0 (sU8.enc (b.getD i 0)) ≤ 255
    rw [decS_enc]
    exact getD_in hb i
theorem rgood_rdr' {b : List Int} (h : b.length ≤ 4294967296) : rgood (rdr b) = true := by
  unfold rgood
  rw [Bool.and_eq_true]
  exact ⟨decide_eq_true h, all8_iff.2 fun i _ => isS_enc sU8 _⟩
theorem end_vw {x : Rf} (h : FG x) : endF x = endE (vw x) := by
  obtain ⟨h1, _, h3, h4⟩ := fgood_in h.g
  have e : e_fLeft x = e_Left (vw x) := by
    unfold e_fLeft e_Left
    show _ = (bif x.e != 0 then 0 else ((x.n - x.at'.toNat : Nat) : Int))
    rw [i64_in (by omega) (by omega), show ((x.n - x.at'.toNat : Nat) : Int) = x.n - x.at' by omega]
  unfold endF endE
  rw [e]
  rfl
theorem out_vw {x : Rf} (h : FG x) : endF (fOut x) = endE (rOut (vw x)) := by
  have hf := h.fend
  have hg : FG (fOut x) := ⟨hf.g, hf.b⟩
  rw [end_vw hg]
  unfold fOut rOut
  rw [← vw_end h]
  rfl
theorem cfgB_len (c : Cf) : (cfgB c).length ≤ 21 := by
  unfold cfgB cfgB0
  cases cfgRight c with
  | false => simp
  | true =>
    cases c.sh.s.n == 1 <;> simp [numB_len, dmB_len]
end Go.Cb
namespace Go.Proofs.YtflbjjpcjeinlaaGreatDoor
open Go.Ev Go.Cb
abbrev X_Cy : Xns := [(11, x_cWrite), (16, x_wBytes), (12, x_From), (13, x_cRead), (19, x_End), (18, x_fRead), (20, x_fEnd)]
theorem oks_Cy : Xs X_Cy := .cons ok_cWrite (.cons ok_wBytes (.cons ok_From (.cons ok_cRead (.cons ok_End (.cons ok_fRead (.cons ok_fEnd .nil))))))
abbrev l_Cy : Ens := [(8, e_alive), (14, e_cRight), (15, e_r32_Right), (17, e_r32_Bytes)]
theorem es_Cy : Es l_Cy := .cons ok_alive (.cons ok_cRight (.cons ok_r32_Right (.cons ok_r32_Bytes .nil)))
theorem ev_ConfigBytes (c : Cf) (b : List Int) : evalF (envX l_Cy X_Cy) tb 3 Tryz.f4 [cCf.enc c, cBs.enc b] =
    let W := roL sU8 0 (cfgB c)
    let V := cfgB c
    let X := rdr b
    let Y := rfr b
    chk [decide (b.length ≤ 4294967296), rgood X] (bif cfgRight c == cfgRight c then
      chk [okL sU8 0 V && decide (W.length ≤ 4294967296), allU8 W.length (getE sU8 0 W) && decide (W.length ≤ 4294967280), allU8 V.length (getE sU8 0 V) && decide (V.length ≤ 4294967280)]
        (bif (strU8 W.length (getE sU8 0 W)).toList == (strU8 V.length (getE sU8 0 V)).toList then
          chk [fgood Y && fbytes Y] (bif cfEq (cfgRd X) (cfgRd (vw Y)) then some (B (endE (rOut X) == endF (fOut Y))) else some (B false)) else some (B false)) else some (B false)) := by kernel_rfl
theorem law_ConfigBytes (c : Cf) (b : List Int) (_ : True) (hb : b.length ≤ 1048576 ∧ ∀ x ∈ b, byteIn x) :
    Go.Ev.Spec Tryz.prog gl 4 [cCf.enc c, cBs.enc b] (B true) :=
  spX es_Cy oks_Cy Tryz.func4 3 ((ev_ConfigBytes c b).trans (by
    have hF := FG_rfr (b := b) (by omega) hb.2
    have hl := cfgB_len c
    simp only
    rw [okL_eq, roL_eq, chk_eq (by
      intro x hx
      simp only [List.mem_cons, List.not_mem_nil, or_false] at hx
      rcases hx with rfl | rfl
      · exact decide_eq_true (by omega)
      · exact rgood_rdr' (by omega)), beq_self_eq_true, cond_true, chk_eq (by
      intro x hx
      simp only [List.mem_cons, List.not_mem_nil, or_false] at hx
      rcases hx with rfl | rfl | rfl
      · rw [Bool.true_and]; exact decide_eq_true (by omega)
      · rw [show allU8 (cfgB c).length (getE sU8 0 (cfgB c)) = true from allU8_n _ _, Bool.true_and]; exact decide_eq_true (by omega)
      · rw [show allU8 (cfgB c).length (getE sU8 0 (cfgB c)) = true from allU8_n _ _, Bool.true_and]; exact decide_eq_true (by omega)), beq_self_eq_true, cond_true, chk_eq (by
      intro x hx
      simp only [List.mem_cons, List.not_mem_nil, or_false] at hx
      subst hx
      rw [hF.g, hF.b]; rfl), out_vw hF, vw_rfr, cfEq_refl, cond_true, beq_self_eq_true]))
end Go.Proofs.YtflbjjpcjeinlaaGreatDoor
