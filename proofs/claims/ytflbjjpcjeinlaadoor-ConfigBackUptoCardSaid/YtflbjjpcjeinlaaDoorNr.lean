/- What is written is read, what is read is written: plain laws of a configuration's bytes. -/
import Derived.Test.YtflbjjpcjeinlaaDoorNq
namespace Go.Cb
open Go.Ev Go.Proofs.YtflbjjpcjeinlaaDoor
theorem w8_mod (n : Int) : w8 n = n % 256 := by
  unfold w8 IntKind.wrap
  simp [IntKind.signed, IntKind.bits]
theorem numB_in (n : Int) : ∀ k, ∀ x ∈ numB n k, byteIn x
  | 0, x, h => by simp [numB] at h
  | k + 1, x, h => by
    simp only [numB, List.mem_cons] at h
    rcases h with rfl | h
    · rw [w8_mod]; exact ⟨by omega, by omega⟩
    · exact numB_in n k x h
theorem be_left {a b : List Int} {o : Nat} : ∀ c, o + c ≤ a.length → be (a ++ b) o c = be a o c
  | 0, _ => rfl
  | c + 1, h => by
    simp only [be]
    rw [be_left c (by omega)]
    simp only [List.getD_eq_getElem?_getD]
    rw [List.getElem?_append_left (by omega)]
theorem be_right {a b : List Int} {o : Nat} : ∀ c, be (a ++ b) (a.length + o) c = be b o c
  | 0 => rfl
  | c + 1 => by
    simp only [be]
    rw [be_right c]
    simp only [List.getD_eq_getElem?_getD]
    rw [List.getElem?_append_right (by omega), show a.length + o + c - a.length = o + c by omega]
theorem be_cons (x : Int) (b : List Int) (o : Nat) : ∀ c, be (x :: b) (o + 1) c = be b o c
  | 0 => rfl
  | c + 1 => by
    simp only [be]
    rw [be_cons x b o c, show o + 1 + c = (o + c) + 1 by omega]
    rfl
theorem be_front (x : Int) (b : List Int) : ∀ c, be (x :: b) 0 (c + 1) = 256 ^ c * x + be b 0 c
  | 0 => by simp [be]
  | c + 1 => by
    have h := be_front x b c
    show 256 * be (x :: b) 0 (c + 1) + (x :: b).getD (0 + (c + 1)) 0 = _
    rw [h, show (x :: b).getD (0 + (c + 1)) 0 = b.getD (0 + c) 0 by rw [show 0 + (c + 1) = (0 + c) + 1 by omega]; rfl]
    show _ = 256 ^ (c + 1) * x + (256 * be b 0 c + b.getD (0 + c) 0)
    rw [Int.pow_succ, Int.mul_add, show (256 : Int) ^ c * 256 * x = 256 * (256 ^ c * x) by rw [Int.mul_comm (256 ^ c) 256, Int.mul_assoc]]
    omega
theorem two256 : ∀ k : Nat, (2 : Int) ^ (8 * k) = 256 ^ k
  | 0 => rfl
  | k + 1 => by rw [show 8 * (k + 1) = 8 * k + 8 by omega, Int.pow_add, two256 k, Int.pow_succ]; rfl
theorem fdiv_pos (n : Int) (k : Nat) : Int.fdiv n (256 ^ k) = n / 256 ^ k := by
  rw [Int.fdiv_eq_ediv_of_nonneg _ (Int.le_of_lt (Int.pow_pos (by decide)))]
theorem mod_mul (n : Int) {p : Int} (hp : 0 < p) : n % (p * 256) = p * (n / p % 256) + n % p := by
  have h1 := Int.mul_ediv_add_emod n p
  have h2 := Int.mul_ediv_add_emod (n / p) 256
  have h3 := Int.mul_ediv_add_emod n (p * 256)
  have h4 : n / (p * 256) = n / p / 256 := by rw [Int.ediv_ediv, if_neg (by omega)]; omega
  rw [h4] at h3
  have h5 : p * (n / p) = p * 256 * (n / p / 256) + p * (n / p % 256) := by
    rw [Int.mul_assoc, ← Int.mul_add, h2]
  omega
theorem be_num (n : Int) : ∀ (k : Nat) (r : List Int), be (numB n k ++ r) 0 k = n % 256 ^ k
  | 0, r => by simp [be, Int.emod_one]
  | k + 1, r => by
    have h := be_num n k r
    show be (w8 (Int.fdiv n (2 ^ (8 * k))) :: (numB n k ++ r)) 0 (k + 1) = _
    rw [be_front, h, w8_mod, two256, fdiv_pos, Int.pow_succ]
    have hp : (0 : Int) < 256 ^ k := Int.pow_pos (by decide)
    exact (mod_mul n hp).symm
theorem be_here {v : Int} {k : Nat} {r : List Int} (h : 0 ≤ v) (h2 : v < 256 ^ k) (h3 : v < 18446744073709551616) : be (numB (w64 v) k ++ r) 0 k = v := by
  rw [be_num, w64_of' h h3, Int.emod_eq_of_lt h h2]
theorem be_skip {v : Int} {k o c : Nat} {r : List Int} : be (numB v k ++ r) (k + o) c = be r o c := by
  have := be_right (a := numB v k) (b := r) (o := o) c
  rwa [numB_len] at this
theorem be_snoc (n : Int) : ∀ k, numB n (k + 1) = numB (n / 256) k ++ [w8 n]
  | 0 => by simp [numB, Int.fdiv_one]
  | k + 1 => by
    have ih := be_snoc n k
    show w8 (Int.fdiv n (2 ^ (8 * (k + 1)))) :: numB n (k + 1) = w8 (Int.fdiv (n / 256) (2 ^ (8 * k))) :: numB (n / 256) k ++ [w8 n]
    have e : n / 256 / 256 ^ k = n / 256 ^ (k + 1) := by
      rw [Int.ediv_ediv, if_neg (by omega), Int.pow_succ, Int.mul_comm 256]
      omega
    rw [ih, two256, two256, fdiv_pos, fdiv_pos, e]
    rfl
theorem numB_be {b : List Int} (hb : ∀ x ∈ b, byteIn x) (o : Nat) : ∀ k, o + k ≤ b.length → numB (be b o k) k = (b.drop o).take k
  | 0, _ => rfl
  | k + 1, h => by
    have ih := numB_be hb o k (by omega)
    have hx := getD_in hb (o + k)
    have e : be b o (k + 1) = 256 * be b o k + b.getD (o + k) 0 := rfl
    rw [be_snoc, e, show (256 * be b o k + b.getD (o + k) 0) / 256 = be b o k by omega, ih, w8_mod, show (256 * be b o k + b.getD (o + k) 0) % 256 = b.getD (o + k) 0 by omega]
    rw [List.take_succ_eq_append_getElem (by simp; omega)]
    simp [show o + k < b.length by omega]
theorem take_join (b : List Int) (o k m : Nat) : (b.drop o).take k ++ (b.drop (o + k)).take m = (b.drop o).take (k + m) := by
  rw [List.take_add, List.drop_drop]
theorem pow_le (k : Nat) (h : k ≤ 4) : (256 : Int) ^ k ≤ 256 ^ 4 := (by decide : ∀ i : Fin 5, (256 : Int) ^ (i : Nat) ≤ 256 ^ 4) ⟨k, by omega⟩
theorem numB_w {b : List Int} (hb : ∀ x ∈ b, byteIn x) (o k : Nat) (h : o + k ≤ b.length) (hk : k ≤ 4) : numB (w64 (be b o k)) k = (b.drop o).take k := by
  have h1 := be_range hb o k
  have h2 := pow_le k hk
  rw [w64_of' h1.1 (by omega), numB_be hb o k h]
/-! Readers of lists of bytes. -/
theorem rI_at {b : List Int} (hb : ∀ x ∈ b, byteIn x) (l : List Nat) (L : List Int) (hL : L = l.map fun c : Nat => (c : Int)) {o c : Nat} (h : o + (sumN l + c) ≤ b.length) (hc : c ≤ 4) : rI L (rdAt b o) c = be b (o + sumN l) c := by
  unfold rI
  have h1 := be_range hb (o + sumN l) c
  have h2 := pow_le c hc
  rw [hL, rAt_at hb l h (by omega), i64_in (by omega) (by omega)]
theorem rI_zero {l : List Int} {x : Rr} {c : Int} (h : rAt l x c = 0) : rI l x c = 0 := by unfold rI; rw [h]; rfl
theorem hd_at {b : List Int} (o : Nat) (h : o + 15 ≤ b.length) : advs hdL (rdAt b o) = rdAt b (o + 15) := advs_at [1, 2, 2, 1, 4, 4, 1] o h
theorem dm_at {b : List Int} (o : Nat) (h : o + 3 ≤ b.length) : advs dmL (rdAt b o) = rdAt b (o + 3) := advs_at [1, 1, 1] o h
theorem hd_short {b : List Int} (o : Nat) (ho : o ≤ b.length) (h : b.length < o + 15) : (advs hdL (rdAt b o)).e = 8 := advs_short [1, 2, 2, 1, 4, 4, 1] o ho h
theorem dm_short {b : List Int} (o : Nat) (ho : o ≤ b.length) (h : b.length < o + 3) : (advs dmL (rdAt b o)).e = 8 := advs_short [1, 1, 1] o ho h
def dmAt (b : List Int) (o : Nat) : Dm := ⟨be b o 1, be b (o + 1) 1, be b (o + 2) 1⟩
theorem rDm_at {b : List Int} (hb : ∀ x ∈ b, byteIn x) (o : Nat) (h : o + 3 ≤ b.length) : rDm (rdAt b o) = dmAt b o := by
  have f0 : rI [] (rdAt b o) 1 = be b o 1 := rI_at hb [] [] rfl (c := 1) (by simp [sumN]; omega) (by omega)
  have f1 : rI [1] (rdAt b o) 1 = be b (o + 1) 1 := rI_at hb [1] [1] rfl (c := 1) (by simp [sumN]; omega) (by omega)
  have f2 : rI [1, 1] (rdAt b o) 1 = be b (o + 2) 1 := rI_at hb [1, 1] [1, 1] rfl (c := 1) (by simp [sumN]; omega) (by omega)
  unfold rDm dmAt
  rw [f0, f1, f2]
/-- How many bytes dimensions have. -/
def dmN (n : Int) : Nat := if n < 1 then 0 else if n < 2 then 3 else 6
def cfAt (b : List Int) : Cf := ⟨⟨be b 0 1, be b 1 2, be b 3 2, ⟨be b 14 1, if be b 14 1 < 1 then dm0 else dmAt b 15, if be b 14 1 < 2 then dm0 else dmAt b 18⟩⟩, be b 5 1, be b 6 4, be b 10 4⟩
theorem rN_at {b : List Int} (hb : ∀ x ∈ b, byteIn x) (h : 15 ≤ b.length) : rN (rdr b) = be b 14 1 := by
  rw [← rdAt_zero]
  exact rI_at hb [1, 2, 2, 1, 4, 4] [1, 2, 2, 1, 4, 4] rfl (o := 0) (c := 1) (by simp [sumN]; omega) (by omega)
/-- Long enough. -/
theorem read_long {b : List Int} (hb : ∀ x ∈ b, byteIn x) (h : 15 ≤ b.length) (h2 : 15 + dmN (be b 14 1) ≤ b.length) : rEnd (rdr b) = rdAt b (15 + dmN (be b 14 1)) ∧ rCf (rdr b) = cfAt b := by
  have hn := rN_at hb h
  have hd : advs hdL (rdr b) = rdAt b 15 := by rw [← rdAt_zero]; have := hd_at (b := b) 0 (by omega); simpa using this
  have f0 : rI [] (rdr b) 1 = be b 0 1 := by rw [← rdAt_zero]; exact rI_at hb [] [] rfl (o := 0) (c := 1) (by simp [sumN]; omega) (by omega)
  have f1 : rI [1] (rdr b) 2 = be b 1 2 := by rw [← rdAt_zero]; exact rI_at hb [1] [1] rfl (o := 0) (c := 2) (by simp [sumN]; omega) (by omega)
  have f2 : rI [1, 2] (rdr b) 2 = be b 3 2 := by rw [← rdAt_zero]; exact rI_at hb [1, 2] [1, 2] rfl (o := 0) (c := 2) (by simp [sumN]; omega) (by omega)
  have f3 : rI [1, 2, 2] (rdr b) 1 = be b 5 1 := by rw [← rdAt_zero]; exact rI_at hb [1, 2, 2] [1, 2, 2] rfl (o := 0) (c := 1) (by simp [sumN]; omega) (by omega)
  have f4 : rI [1, 2, 2, 1] (rdr b) 4 = be b 6 4 := by rw [← rdAt_zero]; exact rI_at hb [1, 2, 2, 1] [1, 2, 2, 1] rfl (o := 0) (c := 4) (by simp [sumN]; omega) (by omega)
  have f5 : rI [1, 2, 2, 1, 4] (rdr b) 4 = be b 10 4 := by rw [← rdAt_zero]; exact rI_at hb [1, 2, 2, 1, 4] [1, 2, 2, 1, 4] rfl (o := 0) (c := 4) (by simp [sumN]; omega) (by omega)
  unfold rEnd rCf cfAt
  rw [hn, hd, f0, f1, f2, f3, f4, f5]
  unfold dmN at h2 ⊢
  by_cases n1 : be b 14 1 < 1
  · have n2 : be b 14 1 < 2 := by omega
    rw [decide_eq_true n1, decide_eq_true n2, if_pos n1, if_pos n1, if_pos n2]
    exact ⟨rfl, rfl⟩
  · rw [if_neg n1] at h2
    by_cases n2 : be b 14 1 < 2
    · rw [if_pos n2] at h2
      rw [decide_eq_false n1, decide_eq_true n2, if_neg n1, if_neg n1, if_pos n2, if_pos n2, cond_false, cond_true, cond_false, cond_true, dm_at 15 (by omega), rDm_at hb 15 (by omega)]
      exact ⟨rfl, rfl⟩
    · rw [if_neg n2] at h2
      rw [decide_eq_false n1, decide_eq_false n2, if_neg n1, if_neg n1, if_neg n2, if_neg n2, cond_false, cond_false, cond_false, cond_false, dm_at 15 (by omega), dm_at 18 (by omega), rDm_at hb 15 (by omega), rDm_at hb 18 (by omega)]
      exact ⟨rfl, rfl⟩
/-- Too short. -/
theorem read_short {b : List Int} (hb : ∀ x ∈ b, byteIn x) (h : b.length < 15 ∨ b.length < 15 + dmN (be b 14 1)) : (rEnd (rdr b)).e = 8 := by
  by_cases h15 : b.length < 15
  · have e : (advs hdL (rdr b)).e = 8 := by rw [← rdAt_zero]; exact hd_short 0 (by omega) (by omega)
    unfold rEnd
    cases decide (rN (rdr b) < 1)
    · cases decide (rN (rdr b) < 2)
      · exact stays (stays e dmL) dmL
      · exact stays e dmL
    · exact e
  · have h2 : b.length < 15 + dmN (be b 14 1) := by omega
    have hn := rN_at hb (by omega)
    have hd : advs hdL (rdr b) = rdAt b 15 := by rw [← rdAt_zero]; have := hd_at (b := b) 0 (by omega); simpa using this
    unfold rEnd
    rw [hn, hd]
    unfold dmN at h2
    by_cases n1 : be b 14 1 < 1
    · rw [if_pos n1] at h2; omega
    · rw [if_neg n1] at h2
      rw [decide_eq_false n1, cond_false]
      by_cases n2 : be b 14 1 < 2
      · rw [if_pos n2] at h2
        rw [decide_eq_true n2, cond_true]
        exact dm_short 15 (by omega) (by omega)
      · rw [if_neg n2] at h2
        rw [decide_eq_false n2, cond_false]
        by_cases h18 : b.length < 18
        · exact stays (dm_short 15 (by omega) (by omega)) dmL
        · rw [dm_at 15 (by omega)]
          exact dm_short 18 (by omega) (by omega)
theorem out_short {x : Rr} (h : (rEnd x).e = 8) : cfgRd x = cf0 ∧ endE (rOut x) = 8 ∧ (rOut x).e = 8 := by
  have e : rErrC x = 8 := by unfold rErrC mustE; rw [h]; rfl
  refine ⟨?_, ?_, ?_⟩
  · unfold cfgRd; rw [e]; rfl
  · exact end_short (by unfold rOut; exact e)
  · unfold rOut; exact e
/-- Reading what is long enough. -/
theorem out_long {b : List Int} (hb : ∀ x ∈ b, byteIn x) (h : 15 ≤ b.length) (h2 : 15 + dmN (be b 14 1) ≤ b.length) :
    (cfgRight (cfAt b) = true → cfgRd (rdr b) = cfAt b ∧ rOut (rdr b) = rdAt b (15 + dmN (be b 14 1))) ∧ (cfgRight (cfAt b) = false → cfgRd (rdr b) = cf0 ∧ (rOut (rdr b)).e = 3) := by
  obtain ⟨e1, e2⟩ := read_long hb h h2
  have hE : rErrC (rdr b) = bif cfgRight (cfAt b) then 0 else 3 := by
    unfold rErrC mustE
    rw [e1, e2]
    show (bif (0 : Int) == 0 then (bif !cfgRight (cfAt b) then 3 else 0) else 0) = _
    cases cfgRight (cfAt b) <;> rfl
  constructor
  · intro hr
    rw [hr] at hE
    unfold cfgRd rOut
    rw [hE, e1, e2]
    exact ⟨rfl, rfl⟩
  · intro hr
    rw [hr] at hE
    unfold cfgRd rOut
    rw [hE]
    exact ⟨rfl, rfl⟩
end Go.Cb
