/- A configuration's text: what is printed is read, what is read is printed. -/
import Derived.Test.YtflbjjpcjeinlaaDoorNu
import Derived.KernelRfl
namespace Go.Cb
open Go.Ev Go.Proofs.YtflbjjpcjeinlaaDoor
theorem toL_app (a b : ByteArray) : (a ++ b).data.toList = a.data.toList ++ b.data.toList := by simp
/-! Names. -/
theorem idx_in (x : ByteArray) : ∀ (l : List ByteArray) (i : Nat), 0 ≤ Lib.idxFromS l x i → ∃ k, k < l.length ∧ Lib.idxFromS l x i = ((i + k : Nat) : Int) ∧ l.getD k noT = x
  | [], i, h => by simp [Lib.idxFromS] at h
  | z :: l, i, h => by
    unfold Lib.idxFromS at h ⊢
    by_cases hz : z = x
    · rw [if_pos hz]
      exact ⟨0, by simp, by simp, by simpa using hz⟩
    · rw [if_neg hz] at h ⊢
      obtain ⟨k, h1, h2, h3⟩ := idx_in x l (i + 1) h
      exact ⟨k + 1, by simpa using h1, by rw [h2]; congr 1; omega, by simpa using h3⟩
theorem name_there {l : List ByteArray} {w : ByteArray} (h : nameNo l w = false) (hl : l.length ≤ 100) : 1 ≤ nameK l w ∧ nameK l w ≤ l.length ∧ l.getD (i64 (nameK l w - 1)).toNat noT = w := by
  unfold nameNo at h
  have h0 : 0 ≤ Lib.idxOfS l w := by
    have := of_decide_eq_false h
    omega
  obtain ⟨k, h1, h2, h3⟩ := idx_in w l 0 h0
  have hk : nameK l w = (k : Int) + 1 := by
    unfold nameK Lib.idxOfS
    rw [h2, i64_in (by omega) (by omega)]
    omega
  rw [hk, i64_in (by omega) (by omega)]
  refine ⟨by omega, by omega, ?_⟩
  rw [show ((k : Int) + 1 - 1).toNat = k by omega]
  exact h3
/-! What is read is printed. -/
theorem eng_there {w : ByteArray} (h1 : engNo w = false) (h2 : engGr w = false) {c : Cf} (hk : c.sh.kind = engK w) (hc : c.sh.cap = engC w) : headT c = w := by
  unfold engNo at h1
  simp only [Bool.or_eq_false_iff, Bool.not_eq_false'] at h1
  obtain ⟨⟨hn, hok⟩, hnum⟩ := h1
  obtain ⟨n1, n2, n3⟩ := name_there hn (by decide)
  have he : engT c = cutA w colonT := by unfold engT; rw [hk]; exact n3
  have hok' : cutOk w colonT = (engK w != 1) := by simpa using hok
  unfold headT
  rw [hk, ← hok']
  rcases cut_parts w 58 with ⟨p1, p2⟩ | ⟨p1, p2⟩
  · have p1 : cutOk w colonT = true := p1
    have p2 : w = cutA w colonT ++ (colonT ++ cutZ w colonT) := p2
    rw [p1, cond_true, he, hc]
    unfold engC
    unfold engGr at h2
    rw [p1] at h2 hnum ⊢
    obtain ⟨q1, _, _⟩ := num_there hnum h2
    show cutA w colonT ++ (colonT ++ printN (numV (cutZ w colonT)).toNat) = w
    rw [q1]
    exact p2.symm
  · have p1 : cutOk w colonT = false := p1
    rw [p1, cond_false, he]
    exact p2
theorem share_there {w : ByteArray} (h1 : shNo w = false) (h2 : shGr w = false) : printN (shA w).toNat ++ slashT ++ printN (shB w).toNat = w := by
  unfold shNo at h1
  unfold shGr at h2
  simp only [Bool.or_eq_false_iff, Bool.not_eq_false'] at h1 h2
  obtain ⟨⟨hok, ha⟩, hb⟩ := h1
  obtain ⟨q1, _, _⟩ := num_there ha h2.1
  obtain ⟨q2, _, _⟩ := num_there hb h2.2
  rcases cut_parts w 47 with ⟨p1, p2⟩ | ⟨p1, _⟩
  · unfold shA shB
    rw [q1, q2]
    have p2 : w = cutA w slashT ++ (slashT ++ cutZ w slashT) := p2
    rw [ByteArray.append_assoc]
    exact p2.symm
  · have p1 : cutOk w slashT = false := p1
    rw [p1] at hok
    cases hok
theorem join3 (a b c : ByteArray) : joinS [a, b, c] colonT = a ++ colonT ++ b ++ colonT ++ c := by
  refine bytes_eq ?_
  show Lib.join [a.data.toList, b.data.toList, c.data.toList] [58] = _
  simp [Lib.join, List.intercalate]
theorem dim_there {w : ByteArray} (h1 : dimNo w = false) (h2 : dimGr w = false) : dimT (dimOf w) = w := by
  unfold dimNo at h1
  unfold dimGr at h2
  unfold dimOf
  cases hb : dBad w with
  | true => rw [hb] at h1; cases h1
  | false =>
    rw [hb, cond_false] at h1 h2
    simp only [Bool.or_eq_false_iff] at h1
    obtain ⟨⟨hk, hs⟩, hn⟩ := h1
    obtain ⟨_, _, k3⟩ := name_there hk (by decide)
    obtain ⟨_, _, s3⟩ := name_there hs (by decide)
    obtain ⟨q1, _, _⟩ := num_there hn h2
    rw [cond_false]
    unfold dimT kindT sideT
    simp only
    rw [k3, s3, q1, ← join3]
    have hl : (splitS w colonT).length = 3 := by unfold dBad at hb; simp at hb; omega
    have e : [dW w 0, dW w 1, dW w 2] = splitS w colonT := by
      unfold dW
      match h : splitS w colonT, hl with
      | [x, y, z], _ => rfl
    rw [e]
    exact join_split w 58
theorem text_there {t : ByteArray} (h : cfgE t = 0) : cfgRight (cfgV t) = true ∧ cfgT (cfgV t) = t := by
  have hV : cfgV t = pCfg t := by unfold cfgV; rw [h]; rfl
  have hE := h
  unfold cfgE at hE
  cases h1 : pIn t with
  | false => rw [h1] at hE; cases hE
  | true =>
  rw [h1] at hE
  cases h2 : pNo t with
  | true => rw [h2] at hE; cases hE
  | false =>
  rw [h2] at hE
  cases h3 : pGr t with
  | true => rw [h3] at hE; cases hE
  | false =>
  rw [h3] at hE
  cases h4 : cfgRight (pCfg t) with
  | false => rw [h4] at hE; cases hE
  | true =>
  rw [hV]
  refine ⟨h4, ?_⟩
  unfold cfgT
  rw [h4, cond_true]
  have hw : wordsC (pCfg t) = splitS t blankT := by
    have hN : pN t = (splitS t blankT).length := rfl
    have hW : ∀ i, pW t i = (splitS t blankT).getD i noT := fun _ => rfl
    by_cases h5 : pN t = 5
    · have e5 : Nat.beq (pN t) 5 = true := by rw [h5]; rfl
      unfold pNo at h2
      unfold pGr at h3
      rw [e5, cond_true] at h2 h3
      unfold pCfg
      rw [e5, cond_true]
      simp only [pNoC, pGrC, Bool.or_eq_false_iff] at h2 h3
      obtain ⟨⟨⟨⟨⟨_, a0⟩, a1⟩, a2⟩, a3⟩, a4⟩ := h2
      obtain ⟨⟨⟨⟨_, b0⟩, b1⟩, b2⟩, b4⟩ := h3
      have e0 : headT (pCf (pW t) 1 dm0) = pW t 0 := eng_there a0 b0 rfl rfl
      have e1 : printN (pCf (pW t) 1 dm0).sh.k.toNat = pW t 1 := (num_there a1 b1).1
      have e2 : shareT (pCf (pW t) 1 dm0) = pW t 2 := share_there a2 b2
      have e3 : weightT (pCf (pW t) 1 dm0) = pW t 3 := (name_there a3 (by decide)).2.2
      have e4 : dimT (pCf (pW t) 1 dm0).sh.s.d0 = pW t 4 := dim_there a4 b4
      unfold wordsC
      rw [e0, e1, e2, e3, e4]
      show [pW t 0, pW t 1, pW t 2, pW t 3] ++ [pW t 4] = _
      simp only [hW]
      rw [hN] at h5
      match hs : splitS t blankT, h5 with
      | [x0, x1, x2, x3, x4], _ => rfl
    · have h6 : pN t = 6 := by
        unfold pIn at h1
        rw [Bool.or_eq_true] at h1
        rcases h1 with h1 | h1
        · exact absurd (Nat.eq_of_beq_eq_true h1) h5
        · exact Nat.eq_of_beq_eq_true h1
      have e5 : Nat.beq (pN t) 5 = false := by rw [h6]; rfl
      unfold pNo at h2
      unfold pGr at h3
      rw [e5, cond_false] at h2 h3
      unfold pCfg
      rw [e5, cond_false]
      simp only [pNoC, pGrC, Bool.or_eq_false_iff] at h2 h3
      obtain ⟨⟨⟨⟨⟨⟨_, a0⟩, a1⟩, a2⟩, a3⟩, a4⟩, a5⟩ := h2
      obtain ⟨⟨⟨⟨⟨_, b0⟩, b1⟩, b2⟩, b4⟩, b5⟩ := h3
      have e0 : headT (pCf (pW t) 2 (dimOf (pW t 5))) = pW t 0 := eng_there a0 b0 rfl rfl
      have e1 : printN (pCf (pW t) 2 (dimOf (pW t 5))).sh.k.toNat = pW t 1 := (num_there a1 b1).1
      have e2 : shareT (pCf (pW t) 2 (dimOf (pW t 5))) = pW t 2 := share_there a2 b2
      have e3 : weightT (pCf (pW t) 2 (dimOf (pW t 5))) = pW t 3 := (name_there a3 (by decide)).2.2
      have e4 : dimT (pCf (pW t) 2 (dimOf (pW t 5))).sh.s.d0 = pW t 4 := dim_there a4 b4
      have e6 : dimT (pCf (pW t) 2 (dimOf (pW t 5))).sh.s.d1 = pW t 5 := dim_there a5 b5
      unfold wordsC
      rw [e0, e1, e2, e3, e4, e6]
      show [pW t 0, pW t 1, pW t 2, pW t 3] ++ [pW t 4, pW t 5] = _
      simp only [hW]
      rw [hN] at h6
      match hs : splitS t blankT, h6 with
      | [x0, x1, x2, x3, x4, x5], _ => rfl
  rw [hw]
  exact join_split t 32
theorem text_not {t : ByteArray} (h : cfgE t ≠ 0) : cfgV t = cf0 := by
  unfold cfgV
  have : (cfgE t == 0) = false := by simpa using h
  rw [this]; rfl
end Go.Cb
