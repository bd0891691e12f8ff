/- What Read gives is what the reference has. -/
import Derived.Test.YtbjpkbolmpcmfaaDoorVp
namespace Go.Cb
open Go.Ev Go.Proofs.YtbjpkbolmpcmfaaDoor
theorem i64_w16 {n : Int} (h : 0 ≤ n) (h2 : n < 65536) : i64 (w16 n) = n := by rw [w16_of h h2, i64_in (by omega) (by omega)]
theorem two0 {b : List Int} (hb : ∀ x ∈ b, byteIn x) (h : 24 ≤ b.length) : w16 (rNum (rdr b) 2) = be b 0 2 := by
  rw [← rdAt_zero, show rNum (rdAt b 0) 2 = be b 0 2 from num_at hb (c := 2) (by omega) (by omega), be2 hb]
theorem two2 {b : List Int} (hb : ∀ x ∈ b, byteIn x) (h : 24 ≤ b.length) : kRd (rdr b) = be b 2 2 := by
  have hr := be_range hb 2 2
  have e : rAdv (rdr b) 2 = rdAt b 2 := by rw [← rdAt_zero]; exact adv_at (c := 2) (by omega)
  unfold kRd
  rw [e, show rNum (rdAt b 2) 2 = be b 2 2 from num_at hb (c := 2) (by omega) (by omega), i64_w16 hr.1 (by omega)]
theorem x2_at {b : List Int} (h : 24 ≤ b.length) : x2 (rdr b) = rdAt b 4 := by
  unfold x2
  rw [← rdAt_zero, show rAdv (rdAt b 0) 2 = rdAt b 2 from adv_at (c := 2) (by omega)]
  exact adv_at (c := 2) (by omega)
theorem x3_at {b : List Int} (h : 24 ≤ b.length) : x3 (rdr b) = rdAt b 24 := by
  unfold x3
  rw [x2_at h]
  exact advs_at [4, 4, 4, 4, 1, 1, 2] 4 (by show 24 ≤ _; omega)
theorem n_be {b : List Int} (hb : ∀ x ∈ b, byteIn x) : r14_n b = be b 2 2 := by rw [(r14_n_at b).1]; exact atN_be hb 2 2 (by omega)
theorem readE_eq {b : List Int} (hb : ∀ x ∈ b, byteIn x) : readE (rdr b) = r14_Fault b := by
  unfold readE r14_Fault
  cases h1 : decide (((rdr b).n : Int) < 24) with
  | true => rfl
  | false =>
  have hl : 24 ≤ b.length := by have : ¬ ((b.length : Int) < 24) := by simpa using h1
                                omega
  simp only [cond_false]
  rw [two0 hb hl, show r14_At b 0 2 = be b 0 2 from r14_At_be hb 0 2 (by omega)]
  cases h2 : be b 0 2 != 5 with
  | true => rfl
  | false =>
  simp only [cond_false]
  have hr := be_range hb 2 2
  rw [two2 hb hl, n_be hb]
  by_cases h3 : be b 2 2 = 0
  · simp [h3]
  · rw [show (be b 2 2 == 0) = false by simpa using h3]
    by_cases h4 : be b 2 2 > 30
    · simp [h4]
    · rw [show (decide (be b 2 2 < 1) || decide (be b 2 2 > 30)) = false by simp; omega, show decide (be b 2 2 > 30) = false by simpa using h4]
      simp only [cond_false]
      have hk : kNum (rdr b) = (be b 2 2).toNat := by unfold kNum; rw [two2 hb hl]
      have ha : r14_all b = 24 + 48 * be b 2 2 := by
        unfold r14_all
        rw [n_be hb, i64_in (n := 48 * be b 2 2) (by omega) (by omega), i64_in (by omega) (by omega)]
      rw [x3_at hl, hk, ha]
      generalize hkk : (be b 2 2).toNat = k
      have hkk : be b 2 2 = k := by omega
      rw [hkk]
      by_cases h5 : b.length < 24 + 48 * k
      · rw [end_short (xs_short hl h5), show decide ((b.length : Int) < 24 + 48 * (k : Int)) = true by simp; omega]
        rfl
      · rw [xs_at k (by omega), end_at (by omega), show decide ((b.length : Int) < 24 + 48 * (k : Int)) = false by simp; omega]
        rw [show decide (24 + 48 * k < b.length) = decide ((b.length : Int) > 24 + 48 * (k : Int)) by simp; omega]
        rfl
theorem readH_eq {b : List Int} (hb : ∀ x ∈ b, byteIn x) (h : r14_Fault b = 0) : readH (rdr b) = r14_Head b := by
  have h1 := (whole_of h).1
  unfold readH
  rw [readE_eq hb, h]
  show rHead (x2 (rdr b)) = _
  rw [x2_at h1]
  exact head_at hb 4 rfl h1
theorem readL_eq {b : List Int} (hb : ∀ x ∈ b, byteIn x) (h : r14_Fault b = 0) : readL (rdr b) = r14_Flows b := by
  obtain ⟨h1, _, h3, h4, h5⟩ := whole_of h
  have hr := be_range hb 2 2
  unfold readL
  rw [readE_eq hb, h]
  show flowsR (x3 (rdr b)) (kNum (rdr b)) = _
  have hk : kNum (rdr b) = (r14_n b).toNat := by unfold kNum; rw [two2 hb h1, n_be hb]
  have hn : (b.length - 24 + 47) / 48 = (r14_n b).toNat := by omega
  rw [x3_at h1, hk]
  unfold flowsR r14_Flows
  rw [hn]
  apply List.map_congr_left
  intro i hi
  have hi : i < (r14_n b).toNat := by simpa using hi
  rw [xs_at i (by omega)]
  exact flow_at hb _ (by omega)
end Go.Cb
