/- ConfigBack: what is printed is read; the law. -/
import Derived.Test.YtflbjjpcjeinlaaDoorNw
namespace Go.Cb
open Go.Ev Go.Proofs.YtflbjjpcjeinlaaDoor
theorem eng_name {k : Int} (h : k = 1 ∨ k = 2 ∨ k = 3) : nameK enginesL (enginesL.getD (i64 (k - 1)).toNat noT) = k ∧ nameNo enginesL (enginesL.getD (i64 (k - 1)).toNat noT) = false ∧ (58 : UInt8) ∉ (enginesL.getD (i64 (k - 1)).toNat noT).data.toList ∧ (32 : UInt8) ∉ (enginesL.getD (i64 (k - 1)).toNat noT).data.toList := by
  rcases h with rfl | rfl | rfl <;> exact ⟨by kernel_rfl, by kernel_rfl, by decide, by decide⟩
theorem weight_name {k : Int} (h : k = 1 ∨ k = 2 ∨ k = 3) : nameK weightsL (weightsL.getD (i64 (k - 1)).toNat noT) = k ∧ nameNo weightsL (weightsL.getD (i64 (k - 1)).toNat noT) = false ∧ (32 : UInt8) ∉ (weightsL.getD (i64 (k - 1)).toNat noT).data.toList := by
  rcases h with rfl | rfl | rfl <;> exact ⟨by kernel_rfl, by kernel_rfl, by decide⟩
theorem kind_name {k : Int} (h : k = 1 ∨ k = 2 ∨ k = 3) : nameK kindsL (kindsL.getD (i64 (k - 1)).toNat noT) = k ∧ nameNo kindsL (kindsL.getD (i64 (k - 1)).toNat noT) = false ∧ (58 : UInt8) ∉ (kindsL.getD (i64 (k - 1)).toNat noT).data.toList ∧ (32 : UInt8) ∉ (kindsL.getD (i64 (k - 1)).toNat noT).data.toList := by
  rcases h with rfl | rfl | rfl <;> exact ⟨by kernel_rfl, by kernel_rfl, by decide, by decide⟩
theorem side_name {k : Int} (h : k = 1 ∨ k = 2) : nameK sidesL (sidesL.getD (i64 (k - 1)).toNat noT) = k ∧ nameNo sidesL (sidesL.getD (i64 (k - 1)).toNat noT) = false ∧ (58 : UInt8) ∉ (sidesL.getD (i64 (k - 1)).toNat noT).data.toList ∧ (32 : UInt8) ∉ (sidesL.getD (i64 (k - 1)).toNat noT).data.toList := by
  rcases h with rfl | rfl <;> exact ⟨by kernel_rfl, by kernel_rfl, by decide, by decide⟩
theorem no32 (n : Nat) : (32 : UInt8) ∉ (printN n).data.toList := printN_no n 32 (.inl (by decide))
theorem no58 (n : Nat) : (58 : UInt8) ∉ (printN n).data.toList := printN_no n 58 (.inr (by decide))
theorem no47 (n : Nat) : (47 : UInt8) ∉ (printN n).data.toList := printN_no n 47 (.inl (by decide))
theorem num_nat {n : Int} (h0 : 0 ≤ n) (h1 : n ≤ 2147483647) : numNo (printN n.toNat) = false ∧ numGr (printN n.toNat) = false ∧ numV (printN n.toNat) = n := by
  obtain ⟨a, b, c⟩ := num_back n.toNat (by omega)
  exact ⟨a, b, by rw [c]; omega⟩
theorem eng_back {c : Cf} (h : CfIn c) : engNo (headT c) = false ∧ engGr (headT c) = false ∧ engK (headT c) = c.sh.kind ∧ engC (headT c) = c.sh.cap := by
  have hk : c.sh.kind = 1 ∨ c.sh.kind = 2 ∨ c.sh.kind = 3 := by have := h.kind; omega
  obtain ⟨e1, e2, e3, _⟩ := eng_name hk
  have e1 : nameK enginesL (engT c) = c.sh.kind := e1
  have e2 : nameNo enginesL (engT c) = false := e2
  have e3 : (58 : UInt8) ∉ (engT c).data.toList := e3
  unfold engNo engGr engC engK
  rcases h.kind with ⟨k1, c0⟩ | ⟨k23, c1, c2, _⟩
  · have hh : headT c = engT c := by unfold headT; rw [k1]; rfl
    obtain ⟨q1, q2⟩ := cut_no e3
    have q1 : cutA (engT c) colonT = engT c := q1
    have q2 : cutOk (engT c) colonT = false := q2
    rw [hh, q1, q2, e1, e2, k1, c0]
    exact ⟨rfl, rfl, rfl, rfl⟩
  · have hne : (c.sh.kind != 1) = true := by rw [bne_iff_ne]; omega
    have hh : headT c = engT c ++ (colonT ++ printN c.sh.cap.toNat) := by unfold headT; rw [hne]; rfl
    obtain ⟨q1, q2, q3⟩ := cut_has (s := headT c) (c0 := 58) (a := (engT c).data.toList) (r := (printN c.sh.cap.toNat).data.toList) (by rw [hh, toL_app, toL_app]; rfl) e3
    have q1 : cutA (headT c) colonT = engT c := q1
    have q2 : cutZ (headT c) colonT = printN c.sh.cap.toNat := q2
    have q3 : cutOk (headT c) colonT = true := q3
    obtain ⟨n1, n2, n3⟩ := num_nat (n := c.sh.cap) (by omega) (by omega)
    rw [q1, q2, q3, e1, e2, hne, n1, n2, n3]
    exact ⟨rfl, rfl, rfl, rfl⟩
theorem share_back {c : Cf} (h : CfIn c) : shNo (shareT c) = false ∧ shGr (shareT c) = false ∧ shA (shareT c) = c.a ∧ shB (shareT c) = c.b := by
  have := h.a0; have := h.a1; have := h.b1
  obtain ⟨q1, q2, q3⟩ := cut_has (s := shareT c) (c0 := 47) (a := (printN c.a.toNat).data.toList) (r := (printN c.b.toNat).data.toList) (by unfold shareT; rw [toL_app, toL_app, List.append_assoc]; rfl) (no47 _)
  have q1 : cutA (shareT c) slashT = printN c.a.toNat := q1
  have q2 : cutZ (shareT c) slashT = printN c.b.toNat := q2
  have q3 : cutOk (shareT c) slashT = true := q3
  obtain ⟨n1, n2, n3⟩ := num_nat (n := c.a) (by omega) (by omega)
  obtain ⟨m1, m2, m3⟩ := num_nat (n := c.b) (by omega) (by omega)
  unfold shNo shGr shA shB
  rw [q1, q2, q3, n1, n2, n3, m1, m2, m3]
  exact ⟨rfl, rfl, rfl, rfl⟩
theorem dim_back {d : Dm} (h : DmIn d) : dimNo (dimT d) = false ∧ dimGr (dimT d) = false ∧ dimOf (dimT d) = d := by
  have := h.t0; have := h.t1
  obtain ⟨k1, k2, k3, _⟩ := kind_name h.k
  obtain ⟨s1, s2, s3, _⟩ := side_name h.s
  have hs : splitS (dimT d) colonT = [kindT d, sideT d, printN d.step.toNat] := by
    unfold dimT
    rw [← join3]
    refine split_join 58 _ (by simp) fun x hx => ?_
    simp only [List.mem_cons, List.not_mem_nil, or_false] at hx
    rcases hx with rfl | rfl | rfl
    · exact k3
    · exact s3
    · exact no58 _
  have hb : dBad (dimT d) = false := by unfold dBad; rw [hs]; rfl
  have w0 : dW (dimT d) 0 = kindT d := by unfold dW; rw [hs]; rfl
  have w1 : dW (dimT d) 1 = sideT d := by unfold dW; rw [hs]; rfl
  have w2 : dW (dimT d) 2 = printN d.step.toNat := by unfold dW; rw [hs]; rfl
  obtain ⟨n1, n2, n3⟩ := num_nat (n := d.step) (by omega) (by omega)
  have k1 : nameK kindsL (kindT d) = d.kind := k1
  have k2 : nameNo kindsL (kindT d) = false := k2
  have s1 : nameK sidesL (sideT d) = d.side := s1
  have s2 : nameNo sidesL (sideT d) = false := s2
  unfold dimNo dimGr dimOf
  rw [hb, w0, w1, w2, k1, k2, s1, s2, n1, n2, n3]
  exact ⟨rfl, rfl, rfl⟩
theorem dimT_no {d : Dm} (h : DmIn d) : (32 : UInt8) ∉ (dimT d).data.toList := by
  have a := (kind_name h.k).2.2.2
  have b := (side_name h.s).2.2.2
  have c := no32 d.step.toNat
  unfold dimT kindT sideT
  simp only [toL_app, List.mem_append]
  rintro ((((h | h) | h) | h) | h)
  · exact a h
  · exact absurd h (by decide)
  · exact b h
  · exact absurd h (by decide)
  · exact c h
theorem text_back {c : Cf} (hc : cfgRight c = true) : cfgE (cfgT c) = 0 ∧ cfgV (cfgT c) = c := by
  have h := cfg_in hc
  have hk : c.sh.kind = 1 ∨ c.sh.kind = 2 ∨ c.sh.kind = 3 := by have := h.kind; omega
  obtain ⟨_, _, _, e4⟩ := eng_name hk
  have e4 : (32 : UInt8) ∉ (engT c).data.toList := e4
  obtain ⟨w1, w2, w3⟩ := weight_name h.by0
  have w1 : nameK weightsL (weightT c) = c.by' := w1
  have w2 : nameNo weightsL (weightT c) = false := w2
  have w3 : (32 : UInt8) ∉ (weightT c).data.toList := w3
  obtain ⟨g1, g2, g3, g4⟩ := eng_back h
  obtain ⟨s1, s2, s3, s4⟩ := share_back h
  obtain ⟨d1, d2, d3⟩ := dim_back h.d0
  obtain ⟨n1, n2, n3⟩ := num_nat (n := c.sh.k) (by have := h.k0; omega) (by have := h.k1; omega)
  have hT : cfgT c = joinS (wordsC c) blankT := by unfold cfgT; rw [hc]; rfl
  have hhead : (32 : UInt8) ∉ (headT c).data.toList := by
    unfold headT
    cases c.sh.kind != 1
    · exact e4
    · rw [cond_true, toL_app, toL_app]
      simp only [List.mem_append]
      rintro (h | h | h)
      · exact e4 h
      · exact absurd h (by decide)
      · exact no32 _ h
  have hshare : (32 : UInt8) ∉ (shareT c).data.toList := by
    unfold shareT
    simp only [toL_app, List.mem_append]
    rintro ((h | h) | h)
    · exact no32 _ h
    · exact absurd h (by decide)
    · exact no32 _ h
  have hsplit : splitS (cfgT c) blankT = wordsC c := by
    rw [hT]
    refine split_join 32 _ (by unfold wordsC; simp) fun x hx => ?_
    unfold wordsC at hx
    simp only [List.mem_append, List.mem_cons, List.not_mem_nil, or_false] at hx
    rcases hx with (rfl | rfl | rfl | rfl) | hx
    · exact hhead
    · exact no32 _
    · exact hshare
    · exact w3
    · rcases h.d1 with ⟨q1, _⟩ | ⟨q2, hd1⟩
      · rw [q1, show ((1 : Int) == 1) = true by decide, cond_true, List.mem_singleton] at hx
        subst hx
        exact dimT_no h.d0
      · rw [q2, show ((2 : Int) == 1) = false by decide, cond_false] at hx
        simp only [List.mem_cons, List.not_mem_nil, or_false] at hx
        rcases hx with rfl | rfl
        · exact dimT_no h.d0
        · exact dimT_no hd1
  have hW : ∀ i, pW (cfgT c) i = (wordsC c).getD i noT := fun i => by unfold pW; rw [hsplit]
  have hN : pN (cfgT c) = (wordsC c).length := by unfold pN; rw [hsplit]
  have p0 : pW (cfgT c) 0 = headT c := by rw [hW]; rfl
  have p1 : pW (cfgT c) 1 = printN c.sh.k.toNat := by rw [hW]; rfl
  have p2 : pW (cfgT c) 2 = shareT c := by rw [hW]; rfl
  have p3 : pW (cfgT c) 3 = weightT c := by rw [hW]; rfl
  have fin : pIn (cfgT c) = true → pNo (cfgT c) = false → pGr (cfgT c) = false → pCfg (cfgT c) = c → cfgE (cfgT c) = 0 ∧ cfgV (cfgT c) = c := fun a b g d => by
    have hE : cfgE (cfgT c) = 0 := by unfold cfgE; rw [a, b, g, d, hc]; rfl
    exact ⟨hE, by unfold cfgV; rw [hE, d]; rfl⟩
  rcases h.d1 with ⟨q1, hd1⟩ | ⟨q2, hd1⟩
  · have hw : wordsC c = [headT c, printN c.sh.k.toNat, shareT c, weightT c, dimT c.sh.s.d0] := by unfold wordsC; rw [q1]; rfl
    have p4 : pW (cfgT c) 4 = dimT c.sh.s.d0 := by rw [hW, hw]; rfl
    have h5 : pN (cfgT c) = 5 := by rw [hN, hw]; rfl
    refine fin ?_ ?_ ?_ ?_
    · unfold pIn; rw [h5]; rfl
    · unfold pNo pNoC; rw [h5, p0, p1, p2, p3, p4, g1, n1, s1, w2, d1]; rfl
    · unfold pGr pGrC; rw [h5, p0, p1, p2, p4, g2, n2, s2, d2]; rfl
    · unfold pCfg pCf
      rw [h5, p0, p1, p2, p3, p4, g3, g4, n3, s3, s4, d3, w1]
      obtain ⟨⟨kind, k, cap, ⟨n, x, y⟩⟩, w, a, b⟩ := c
      simp only at q1 hd1
      subst q1 hd1
      rfl
  · obtain ⟨d4, d5, d6⟩ := dim_back hd1
    have hw : wordsC c = [headT c, printN c.sh.k.toNat, shareT c, weightT c, dimT c.sh.s.d0, dimT c.sh.s.d1] := by unfold wordsC; rw [q2]; rfl
    have p4 : pW (cfgT c) 4 = dimT c.sh.s.d0 := by rw [hW, hw]; rfl
    have p5 : pW (cfgT c) 5 = dimT c.sh.s.d1 := by rw [hW, hw]; rfl
    have h6 : pN (cfgT c) = 6 := by rw [hN, hw]; rfl
    refine fin ?_ ?_ ?_ ?_
    · unfold pIn; rw [h6]; rfl
    · unfold pNo pNoC; rw [h6, p0, p1, p2, p3, p4, p5, g1, n1, s1, w2, d1, d4]; rfl
    · unfold pGr pGrC; rw [h6, p0, p1, p2, p4, p5, g2, n2, s2, d2, d5]; rfl
    · unfold pCfg pCf
      rw [h6, p0, p1, p2, p3, p4, p5, g3, g4, n3, s3, s4, d3, d6, w1]
      obtain ⟨⟨kind, k, cap, ⟨n, x, y⟩⟩, w, a, b⟩ := c
      simp only at q2
      subst q2
      rfl
end Go.Cb
namespace Go.Proofs.YtflbjjpcjeinlaaDoor
open Go.Ev Go.Cb
theorem cut_short {c : Cf} (hc : cfgRight c = true) {n : Int} (h0 : 0 ≤ n) (h1 : n < ((cfgB0 c).length : Int)) :
    let S : Rr := ⟨n.toNat - (0 : Int).toNat, fun i => getE sU8 0 (cfgB0 c) ((0 : Int).toNat + i), 0⟩
    rgood S = true ∧ cfgRd S = cf0 ∧ endE (rOut S) = 8 := by
  intro S
  obtain ⟨hn, _, hlen⟩ := cfg_back hc
  have hin := cfgB0_in c
  generalize hm : n.toNat = m at *
  have hmn : (m : Int) = n := by omega
  have hS : S = ⟨m, fun i => getE sU8 0 (cfgB0 c) i, 0⟩ := by
    show (⟨n.toNat - (0 : Int).toNat, fun i => getE sU8 0 (cfgB0 c) ((0 : Int).toNat + i), 0⟩ : Rr) = _
    rw [hm]
    simp
  have hml : m < (cfgB0 c).length := by omega
  have hsim : sim S (rdr ((cfgB0 c).take m)) := by
    rw [hS]
    refine ⟨by show m = ((cfgB0 c).take m).length; rw [List.length_take]; omega, rfl, fun i hi => ?_⟩
    have hi : i < m := hi
    show sU8.enc ((cfgB0 c).getD i 0) = sU8.enc (((cfgB0 c).take m).getD i 0)
    rw [List.getD_eq_getElem?_getD, List.getD_eq_getElem?_getD, List.getElem?_take_of_lt hi]
  have hl : ((cfgB0 c).take m).length = m := by rw [List.length_take]; omega
  have he : (rEnd S).e = 8 := by
    rw [sim_end hsim]
    refine read_short (fun x hx => hin x (List.mem_of_mem_take hx)) ?_
    rw [hl]
    by_cases h15 : m < 15
    · exact .inl h15
    · right
      have e : be ((cfgB0 c).take m) 14 1 = c.sh.s.n := by
        rw [← hn]
        have := be_left (a := (cfgB0 c).take m) (b := (cfgB0 c).drop m) (o := 14) 1 (by rw [hl]; omega)
        rw [List.take_append_drop] at this
        exact this.symm
      rw [e]
      omega
  obtain ⟨o1, o2, _⟩ := out_short he
  refine ⟨?_, o1, o2⟩
  rw [hS]
  unfold rgood
  rw [Bool.and_eq_true]
  have hb : (cfgB0 c).length ≤ 21 := by
    rw [hlen]
    unfold dmN
    split
    · omega
    · split <;> omega
  exact ⟨decide_eq_true (by show m ≤ 4294967296; omega), all8_iff.2 fun i _ => isS_enc sU8 _⟩
theorem law_ConfigBack (c : Cf) (n : Int) (_ : True) (_ : -9223372036854775808 ≤ n ∧ n ≤ 9223372036854775807) : Go.Ev.Spec Tryd.prog gl 4 [cCf.enc c, cI.enc n] (B true) :=
  spX es_CB oks_CB Tryd.func4 3 ((ev_ConfigBack c n).trans (by
    rw [roL_eq, okL_eq]
    simp only [Bool.true_and]
    cases hc : cfgRight c with
    | false =>
      have hB : cfgB c = [] := by unfold cfgB; rw [hc]; rfl
      have hT : cfgT c = noT := by unfold cfgT; rw [hc]; rfl
      rw [hB, hT, Bool.not_false, cond_true, chk_eq (by intro x hx; simp only [List.mem_singleton] at hx; subst hx; rfl), beq_self_eq_true]
      rfl
    | true =>
      have hB : cfgB c = cfgB0 c := by unfold cfgB; rw [hc]; rfl
      rw [hB]
      obtain ⟨hn, hback, hlen⟩ := cfg_back hc
      have hin := cfgB0_in c
      have hb : (cfgB0 c).length ≤ 21 := by
        rw [hlen]
        unfold dmN
        split
        · omega
        · split <;> omega
      obtain ⟨t1, t2⟩ := text_back hc
      have hlong : 15 + dmN (be (cfgB0 c) 14 1) ≤ (cfgB0 c).length := by rw [hn]; omega
      obtain ⟨o1, _⟩ := out_long hin (by omega) hlong
      rw [hback] at o1
      obtain ⟨r1, r2⟩ := o1 hc
      have hend : endE (rOut (rdr (cfgB0 c))) = 0 := by
        rw [r2, hn, ← hlen, end_at (Nat.le_refl _), decide_eq_false (by omega)]
        rfl
      rw [Bool.not_true, cond_false, chk_eq (by intro x hx; simp only [List.mem_singleton] at hx; subst hx; exact decide_eq_true (by omega)), chk_eq (by
        intro x hx
        simp only [List.mem_cons, List.not_mem_nil, or_false] at hx
        rcases hx with rfl | rfl
        · exact decide_eq_true (by omega)
        · exact rgood_rdr (by omega)), r1, cfEq_refl, hend, t1, t2, cfEq_refl, Bool.not_true, cond_false, show ((0 : Int) != 0) = false by decide, cond_false, cond_false, cond_false]
      by_cases h0 : n < 0
      · rw [decide_eq_true h0]; rfl
      · rw [decide_eq_false h0, cond_false]
        by_cases h1 : n ≥ ((cfgB0 c).length : Int)
        · rw [decide_eq_true h1]; rfl
        · rw [decide_eq_false h1, cond_false]
          obtain ⟨g1, g2, g3⟩ := cut_short hc (n := n) (by omega) (by omega)
          rw [chk_eq (by
            intro x hx
            simp only [List.mem_cons, List.not_mem_nil, or_false] at hx
            rcases hx with rfl | rfl | rfl
            · rw [decide_eq_true (show (0 : Int) ≤ n by omega), decide_eq_true (show n ≤ ((cfgB0 c).length : Int) by omega)]
              rfl
            · exact decide_eq_true (by simp; omega)
            · exact g1), g2, g3, cfEq_refl]
          rfl))
end Go.Proofs.YtflbjjpcjeinlaaDoor
