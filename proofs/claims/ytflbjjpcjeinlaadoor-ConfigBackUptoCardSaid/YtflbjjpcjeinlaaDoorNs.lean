/- What is written is read; what is read is written; what is cut is missed. -/
import Derived.Test.YtflbjjpcjeinlaaDoorNr
namespace Go.Cb
open Go.Ev Go.Proofs.YtflbjjpcjeinlaaDoor
/-! Readers that are alike as far as they go. -/
def sim (x y : Rr) : Prop := x.n = y.n ∧ x.e = y.e ∧ ∀ i, i < x.n → x.g i = y.g i
theorem sim_adv {x y : Rr} (h : sim x y) (c : Int) : sim (rAdv x c) (rAdv y c) := by
  obtain ⟨h1, h2, h3⟩ := h
  have hb : rBad x c = rBad y c := by unfold rBad rawE; rw [h1, h2]
  have he : rErr x c = rErr y c := by unfold rErr rawE; rw [h1, h2]
  cases hx : rBad x c with
  | true =>
    rw [rAdv_bad hx, rAdv_bad (hb ▸ hx), he]
    exact ⟨h1, rfl, h3⟩
  | false =>
    rw [rAdv_ok hx, rAdv_ok (hb ▸ hx), he]
    exact ⟨by show x.n - c.toNat = y.n - c.toNat; rw [h1], rfl, fun i hi => h3 _ (by have hi : i < x.n - c.toNat := hi; omega)⟩
theorem numG_congr {f g : Nat → List D} : ∀ (k i : Nat) (n : Int), (∀ j, j < i + k → f j = g j) → numG f k i n = numG g k i n
  | 0, _, _, _ => rfl
  | k + 1, i, n, h => by
    show numG f k (i + 1) (stepN n (decS sU8 0 (f i))) = numG g k (i + 1) (stepN n (decS sU8 0 (g i)))
    rw [h i (by omega)]
    exact numG_congr k (i + 1) _ fun j hj => h j (by omega)
theorem sim_num {x y : Rr} (h : sim x y) (c : Int) : rNum x c = rNum y c := by
  obtain ⟨h1, h2, h3⟩ := h
  have hb : rBad x c = rBad y c := by unfold rBad rawE; rw [h1, h2]
  unfold rNum rLen
  rw [← hb]
  cases hx : rBad x c with
  | true => rfl
  | false =>
    refine numG_congr _ _ _ fun j hj => h3 j ?_
    unfold rBad at hx
    simp at hx
    simp only [cond_false] at hj
    omega
theorem sim_advs {x y : Rr} : ∀ (l : List Int), sim x y → sim (advs l x) (advs l y)
  | [], h => h
  | c :: l, h => sim_advs l (sim_adv h c)
theorem sim_end {x y : Rr} (h : sim x y) : (rEnd x).e = (rEnd y).e := by
  have hn : rN x = rN y := by unfold rN rI rAt; rw [sim_num (sim_advs _ h)]
  unfold rEnd
  rw [hn]
  have h0 := sim_advs hdL h
  cases decide (rN y < 1)
  · cases decide (rN y < 2)
    · exact (sim_advs dmL (sim_advs dmL h0)).2.1
    · exact (sim_advs dmL h0).2.1
  · exact h0.2.1
/-! What is written. -/
theorem dmB_in (d : Dm) : ∀ x ∈ dmB d, byteIn x := by
  intro x h
  simp only [dmB, List.mem_append] at h
  rcases h with h | h | h <;> exact numB_in _ _ x h
theorem cfgB0_in (c : Cf) : ∀ x ∈ cfgB0 c, byteIn x := by
  intro x h
  simp only [cfgB0, List.mem_append] at h
  rcases h with h | h | h | h | h | h | h | h | h
  · exact numB_in _ _ x h
  · exact numB_in _ _ x h
  · exact numB_in _ _ x h
  · exact numB_in _ _ x h
  · exact numB_in _ _ x h
  · exact numB_in _ _ x h
  · exact numB_in _ _ x h
  · exact dmB_in _ x h
  · revert h
    cases c.sh.s.n == 1
    · exact dmB_in _ x
    · intro h; simp at h
theorem dm_front {d : Dm} (h : DmIn d) (r : List Int) : dmAt (dmB d ++ r) 0 = d := by
  have := h.k; have := h.s; have := h.t0; have := h.t1
  have e : dmB d ++ r = numB (w64 d.kind) 1 ++ (numB (w64 d.side) 1 ++ (numB (w64 d.step) 1 ++ r)) := by simp [dmB, List.append_assoc]
  rw [e]
  have a1 : be (numB (w64 d.kind) 1 ++ (numB (w64 d.side) 1 ++ (numB (w64 d.step) 1 ++ r))) 0 1 = d.kind := be_here (by omega) (by omega) (by omega)
  have a2 : be (numB (w64 d.kind) 1 ++ (numB (w64 d.side) 1 ++ (numB (w64 d.step) 1 ++ r))) (1 + 0) 1 = d.side := by rw [be_skip]; exact be_here (by omega) (by omega) (by omega)
  have a3 : be (numB (w64 d.kind) 1 ++ (numB (w64 d.side) 1 ++ (numB (w64 d.step) 1 ++ r))) (1 + (1 + 0)) 1 = d.step := by rw [be_skip, be_skip]; exact be_here (by omega) (by omega) (by omega)
  unfold dmAt
  rw [a1]
  show (⟨d.kind, be _ (1 + 0) 1, be _ (1 + (1 + 0)) 1⟩ : Dm) = d
  rw [a2, a3]
theorem dmAt_skip {a r : List Int} {o : Nat} : dmAt (a ++ r) (a.length + o) = dmAt r o := by
  unfold dmAt
  rw [be_right, show a.length + o + 1 = a.length + (o + 1) by omega, be_right, show a.length + o + 2 = a.length + (o + 2) by omega, be_right]
theorem cfg_back {c : Cf} (hc : cfgRight c = true) : be (cfgB0 c) 14 1 = c.sh.s.n ∧ cfAt (cfgB0 c) = c ∧ (cfgB0 c).length = 15 + dmN c.sh.s.n := by
  have h := cfg_in hc
  have := h.kind; have := h.k0; have := h.k1; have := h.by0; have := h.a0; have := h.a1; have := h.b1; have := h.d1
  obtain ⟨⟨kind, k, cap, ⟨n, d0, d1⟩⟩, w, a, b⟩ := c
  simp only at *
  unfold cfgB0
  simp only
  have hr : ∀ r : List Int, (numB (w64 kind) 1 ++ (numB (w64 k) 2 ++ (numB (w64 cap) 2 ++ (numB (w64 w) 1 ++ (numB (w64 a) 4 ++ (numB (w64 b) 4 ++ (numB (w64 n) 1 ++ r))))))) = (numB (w64 kind) 1 ++ (numB (w64 k) 2 ++ (numB (w64 cap) 2 ++ (numB (w64 w) 1 ++ (numB (w64 a) 4 ++ (numB (w64 b) 4 ++ numB (w64 n) 1)))))) ++ r := fun r => by simp [List.append_assoc]
  generalize hR : dmB d0 ++ (bif n == 1 then [] else dmB d1) = r
  have f0 : be (numB (w64 kind) 1 ++ (numB (w64 k) 2 ++ (numB (w64 cap) 2 ++ (numB (w64 w) 1 ++ (numB (w64 a) 4 ++ (numB (w64 b) 4 ++ (numB (w64 n) 1 ++ r))))))) 0 1 = kind := be_here (by omega) (by omega) (by omega)
  have f1 : be (numB (w64 kind) 1 ++ (numB (w64 k) 2 ++ (numB (w64 cap) 2 ++ (numB (w64 w) 1 ++ (numB (w64 a) 4 ++ (numB (w64 b) 4 ++ (numB (w64 n) 1 ++ r))))))) (1 + 0) 2 = k := by rw [be_skip]; exact be_here (by omega) (by omega) (by omega)
  have f2 : be (numB (w64 kind) 1 ++ (numB (w64 k) 2 ++ (numB (w64 cap) 2 ++ (numB (w64 w) 1 ++ (numB (w64 a) 4 ++ (numB (w64 b) 4 ++ (numB (w64 n) 1 ++ r))))))) (1 + (2 + 0)) 2 = cap := by rw [be_skip, be_skip]; exact be_here (by omega) (by omega) (by omega)
  have f3 : be (numB (w64 kind) 1 ++ (numB (w64 k) 2 ++ (numB (w64 cap) 2 ++ (numB (w64 w) 1 ++ (numB (w64 a) 4 ++ (numB (w64 b) 4 ++ (numB (w64 n) 1 ++ r))))))) (1 + (2 + (2 + 0))) 1 = w := by rw [be_skip, be_skip, be_skip]; exact be_here (by omega) (by omega) (by omega)
  have f4 : be (numB (w64 kind) 1 ++ (numB (w64 k) 2 ++ (numB (w64 cap) 2 ++ (numB (w64 w) 1 ++ (numB (w64 a) 4 ++ (numB (w64 b) 4 ++ (numB (w64 n) 1 ++ r))))))) (1 + (2 + (2 + (1 + 0)))) 4 = a := by rw [be_skip, be_skip, be_skip, be_skip]; exact be_here (by omega) (by omega) (by omega)
  have f5 : be (numB (w64 kind) 1 ++ (numB (w64 k) 2 ++ (numB (w64 cap) 2 ++ (numB (w64 w) 1 ++ (numB (w64 a) 4 ++ (numB (w64 b) 4 ++ (numB (w64 n) 1 ++ r))))))) (1 + (2 + (2 + (1 + (4 + 0))))) 4 = b := by rw [be_skip, be_skip, be_skip, be_skip, be_skip]; exact be_here (by omega) (by omega) (by omega)
  have f6 : be (numB (w64 kind) 1 ++ (numB (w64 k) 2 ++ (numB (w64 cap) 2 ++ (numB (w64 w) 1 ++ (numB (w64 a) 4 ++ (numB (w64 b) 4 ++ (numB (w64 n) 1 ++ r))))))) (1 + (2 + (2 + (1 + (4 + (4 + 0)))))) 1 = n := by rw [be_skip, be_skip, be_skip, be_skip, be_skip, be_skip]; exact be_here (by omega) (by omega) (by omega)
  simp only [Nat.add_zero, Nat.reduceAdd] at f1 f2 f3 f4 f5 f6
  have hl : (numB (w64 kind) 1 ++ (numB (w64 k) 2 ++ (numB (w64 cap) 2 ++ (numB (w64 w) 1 ++ (numB (w64 a) 4 ++ (numB (w64 b) 4 ++ numB (w64 n) 1)))))).length = 15 := by simp [numB_len]
  have g0 : ∀ o, dmAt (numB (w64 kind) 1 ++ (numB (w64 k) 2 ++ (numB (w64 cap) 2 ++ (numB (w64 w) 1 ++ (numB (w64 a) 4 ++ (numB (w64 b) 4 ++ (numB (w64 n) 1 ++ r))))))) (15 + o) = dmAt r o := fun o => by
    rw [hr r]
    conv => lhs; rw [← hl]
    exact dmAt_skip
  have e0 : dmAt r 0 = d0 := by rw [← hR]; exact dm_front h.d0 _
  refine ⟨f6, ?_, ?_⟩
  · unfold cfAt
    rw [f0, f1, f2, f3, f4, f5, f6]
    have g15 := g0 0
    have g18 := g0 3
    simp only [Nat.add_zero, Nat.reduceAdd] at g15 g18
    rw [g15, g18, e0]
    rcases h.d1 with ⟨n1, hd1⟩ | ⟨n2, hd1⟩
    · simp only at n1 hd1
      subst n1 hd1
      rfl
    · simp only at n2 hd1
      subst n2
      have e3 : dmAt r 3 = d1 := by
        rw [← hR]
        have := dmAt_skip (a := dmB d0) (r := dmB d1 ++ []) (o := 0)
        rw [dmB_len, dm_front hd1] at this
        simpa using this
      rw [e3]
      rfl
  · rw [hr r, List.length_append, hl, ← hR, List.length_append, dmB_len]
    rcases h.d1 with ⟨n1, _⟩ | ⟨n2, _⟩
    · simp only at n1
      subst n1
      rfl
    · simp only at n2
      subst n2
      simp [dmB_len, dmN]
/-- What has been read is written. -/
theorem dm_there {b : List Int} (hb : ∀ x ∈ b, byteIn x) (o : Nat) (h : o + 3 ≤ b.length) : dmB (dmAt b o) = (b.drop o).take 3 := by
  unfold dmB dmAt
  rw [numB_w hb o 1 (by omega) (by omega), numB_w hb (o + 1) 1 (by omega) (by omega), numB_w hb (o + 2) 1 (by omega) (by omega), take_join b (o + 1) 1 1, take_join b o 1 2]
theorem cfg_there {b : List Int} (hb : ∀ x ∈ b, byteIn x) (h : 15 ≤ b.length) (h2 : 15 + dmN (be b 14 1) ≤ b.length) (hc : cfgRight (cfAt b) = true) : cfgB0 (cfAt b) = b.take (15 + dmN (be b 14 1)) := by
  have hd1 := (cfg_in hc).d1
  have hn : (cfAt b).sh.s.n = be b 14 1 := rfl
  rw [hn] at hd1
  unfold cfgB0 cfAt
  simp only
  rw [numB_w hb 0 1 (by omega) (by omega), numB_w hb 1 2 (by omega) (by omega), numB_w hb 3 2 (by omega) (by omega), numB_w hb 5 1 (by omega) (by omega), numB_w hb 6 4 (by omega) (by omega), numB_w hb 10 4 (by omega) (by omega), numB_w hb 14 1 (by omega) (by omega)]
  rcases hd1 with ⟨n1, _⟩ | ⟨n2, _⟩
  · rw [n1] at h2 ⊢
    have h2 : 18 ≤ b.length := h2
    rw [if_neg (by omega), dm_there hb 15 (by omega), show ((1 : Int) == 1) = true by decide, cond_true, List.append_nil, take_join b 14 1 3, take_join b 10 4 4, take_join b 6 4 8, take_join b 5 1 12, take_join b 3 2 13, take_join b 1 2 15, take_join b 0 1 17]
    rfl
  · rw [n2] at h2 ⊢
    have h2 : 21 ≤ b.length := h2
    rw [if_neg (by omega), if_neg (by omega), dm_there hb 15 (by omega), dm_there hb 18 (by omega), show ((2 : Int) == 1) = false by decide, cond_false, take_join b 15 3 3, take_join b 14 1 6, take_join b 10 4 7, take_join b 6 4 11, take_join b 5 1 15, take_join b 3 2 16, take_join b 1 2 18, take_join b 0 1 20]
    rfl
end Go.Cb
