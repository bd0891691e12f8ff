/- ConfigThere: the law. -/
import Derived.Test.YtflbjjpcjeinlaaDoorNv
namespace Go.Cb
open Go.Ev Go.Proofs.YtflbjjpcjeinlaaDoor
theorem rgood_rdr {b : List Int} (h : b.length ≤ 4294967296) : rgood (rdr b) = true := by
  unfold rgood
  rw [Bool.and_eq_true]
  exact ⟨decide_eq_true h, all8_iff.2 fun i _ => isS_enc sU8 _⟩
theorem restT_eq {b : List Int} (hl : b.length ≤ 1048576) (hb : ∀ x ∈ b, byteIn x) : restT b = some (B true) := by
  unfold restT
  simp only
  rw [chk_eq (by
    intro x hx
    simp only [List.mem_cons, List.not_mem_nil, or_false] at hx
    rcases hx with rfl | rfl
    · exact decide_eq_true (by omega)
    · exact rgood_rdr (by omega))]
  cases he : (rOut (rdr b)).e != 0 with
  | true => rfl
  | false =>
    have he : (rOut (rdr b)).e = 0 := by simpa using he
    have hlong : 15 ≤ b.length ∧ 15 + dmN (be b 14 1) ≤ b.length := by
      apply Classical.byContradiction
      intro hn
      have := (out_short (read_short hb (by omega))).2.2
      omega
    obtain ⟨o1, o2⟩ := out_long hb hlong.1 hlong.2
    have hr : cfgRight (cfAt b) = true := by
      cases hr : cfgRight (cfAt b) with
      | true => rfl
      | false => have := (o2 hr).2; omega
    obtain ⟨p1, p2⟩ := o1 hr
    have hW : cfgB (cfAt b) = b.take (15 + dmN (be b 14 1)) := by
      unfold cfgB
      rw [hr, cond_true]
      exact cfg_there hb hlong.1 hlong.2 hr
    rw [p1, p2, hW, okL_eq, roL_eq, cond_false, hr, cond_true]
    generalize hL : 15 + dmN (be b 14 1) = L at hlong
    have hlen : (b.take L).length = L := by rw [List.length_take]; omega
    rw [hlen]
    rw [chk_eq (by
      intro x hx
      simp only [List.mem_cons, List.not_mem_nil, or_false] at hx
      subst hx
      rw [Bool.true_and]
      exact decide_eq_true (by omega)), decide_eq_true (show (L : Int) ≤ (b.length : Int) by omega), cond_true]
    have hm : (L : Int).toNat - (0 : Int).toNat = L := by simp
    rw [hm]
    rw [chk_eq (by
      intro x hx
      simp only [List.mem_cons, List.not_mem_nil, or_false] at hx
      rcases hx with rfl | rfl | rfl
      · rw [show allU8 L (getE sU8 0 (b.take L)) = true from allU8_n _ _, Bool.true_and]
        exact decide_eq_true (by omega)
      · rfl
      · rw [show allU8 L (fun i => getE sU8 0 b ((0 : Int).toNat + i)) = true from allU8_n _ _, Bool.true_and]
        exact decide_eq_true (by omega))]
    have hstr : strU8 L (getE sU8 0 (b.take L)) = strU8 L (fun i => getE sU8 0 b ((0 : Int).toNat + i)) := strU8_congr fun i hi => by
      unfold getE
      rw [List.getD_eq_getElem?_getD, List.getD_eq_getElem?_getD, List.getElem?_take_of_lt hi]
      simp
    rw [hstr, beq_self_eq_true, cond_true, i64_in (by omega) (by omega)]
    show some (B ((bif (0 : Int) != 0 then 0 else ((b.length - L : Nat) : Int)) == (b.length : Int) - L)) = some (B true)
    rw [show ((0 : Int) != 0) = false by decide, cond_false]
    congr 2
    congr 1
    rw [beq_iff_eq]
    omega
end Go.Cb
namespace Go.Proofs.YtflbjjpcjeinlaaDoor
open Go.Ev Go.Cb
theorem cfEq_refl (a : Cf) : cfEq a a = true := by simp [cfEq]
theorem law_ConfigThere (t : ByteArray) (b : List Int) (_ : t.size ≤ 1048576) (hb : b.length ≤ 1048576 ∧ ∀ x ∈ b, byteIn x) :
    Go.Ev.Spec Tryd.prog gl 3 [cT.enc t, cBs.enc b] (B true) :=
  spX es_CB oks_CB Tryd.func3 3 ((ev_ConfigThere t b).trans (by
    simp only [restT_eq hb.1 hb.2]
    cases h : cfgE t == 0 with
    | true =>
      have h0 : cfgE t = 0 := by simpa using h
      obtain ⟨h1, h2⟩ := text_there h0
      rw [h1, h2, h0]
      simp
    | false =>
      have h0 : cfgE t ≠ 0 := by simpa using h
      rw [text_not h0, cfEq_refl]
      cases cfgE t != 0 <;> rfl))
end Go.Proofs.YtflbjjpcjeinlaaDoor
