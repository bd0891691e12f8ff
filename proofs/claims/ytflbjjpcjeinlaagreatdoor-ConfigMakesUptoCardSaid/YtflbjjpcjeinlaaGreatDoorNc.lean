/- Numbers printed: what each function gives. -/
import Derived.Test.YtflbjjpcjeinlaaGreatDoorNb
import Derived.Test.YtflbjjpcjeinlaaGreatDoorShelf
namespace Go.Cb
open Go.Ev
/-- A bit, the greatest first. -/
def bitLo (x : Int) (i : Nat) : Int := x / 2 ^ (127 - i) % 2
theorem and1 (n : Nat) : (BitVec.ofInt 64 (n : Int) &&& BitVec.ofInt 64 1).toNat = n % 2 := by
  rw [show (1 : Int) = ((1 : Nat) : Int) by rfl, BitVec.ofInt_natCast, BitVec.ofInt_natCast, BitVec.toNat_and, BitVec.toNat_ofNat, BitVec.toNat_ofNat, show 1 % 2 ^ 64 = 1 by decide, Nat.and_one_is_mod]
  omega
theorem or1 (n : Nat) (h : n < 9223372036854775808) : (BitVec.ofInt 64 ((2 * n : Nat) : Int) ||| BitVec.ofInt 64 1).toNat = 2 * n + 1 := by
  rw [show (1 : Int) = ((1 : Nat) : Int) by rfl, BitVec.ofInt_natCast, BitVec.ofInt_natCast, BitVec.toNat_or, BitVec.toNat_ofNat, BitVec.toNat_ofNat, show 1 % 2 ^ 64 = 1 by decide, Nat.mod_eq_of_lt (by omega)]
  have := (Nat.two_pow_add_eq_or_of_lt (i := 1) (b := 1) (by decide) n).symm
  simpa using this
theorem or0 (n : Nat) (h : n < 18446744073709551616) : (BitVec.ofInt 64 (n : Int) ||| BitVec.ofInt 64 0).toNat = n := by
  rw [show (0 : Int) = ((0 : Nat) : Int) by rfl, BitVec.ofInt_natCast, BitVec.ofInt_natCast, BitVec.toNat_or, BitVec.toNat_ofNat, BitVec.toNat_ofNat, show 0 % 2 ^ 64 = 0 by decide, Nat.or_zero, Nat.mod_eq_of_lt (by omega)]
def okLo (a : Wd) : Bool := (a.hi == 0) && (decide (0 ≤ a.lo) && decide (a.lo < 18446744073709551616))
theorem okLo_iff {a : Wd} (h : okLo a = true) : a = ⟨0, a.lo⟩ ∧ 0 ≤ a.lo ∧ a.lo < 18446744073709551616 := by
  simp only [okLo, Bool.and_eq_true, beq_iff_eq, decide_eq_true_eq] at h
  obtain ⟨hi, lo⟩ := a
  simp only at h
  obtain ⟨rfl, h1, h2⟩ := h
  exact ⟨rfl, h1, h2⟩
def wide_RightC {α : Type} (k : Wd → α) (z : α) (a : Wd) (n : Int) : α :=
  bif decide (n < 1) then k a
  else bif decide (n ≥ 128) then k ⟨0, 0⟩
  else bif decide (n ≥ 64) then (bif decide (0 ≤ i64 (n - 64)) then k ⟨0, shr64 a.hi (i64 (n - 64))⟩ else z)
  else bif decide (0 ≤ n) then (bif decide (0 ≤ n) then (bif decide (0 ≤ i64 (64 - n)) then
    k ⟨shr64 a.hi n, w64 (BitVec.ofInt 64 (shr64 a.lo n) ||| BitVec.ofInt 64 (shl64 a.hi (i64 (64 - n)))).toNat⟩ else z) else z) else z
theorem pow_nat (k : Nat) : ((2 : Int) ^ k) = ((2 ^ k : Nat) : Int) := by simp
theorem wide_RightC_lo {α : Type} (k : Wd → α) (z : α) {x : Int} (h0 : 0 ≤ x) (h1 : x < 18446744073709551616) (n : Nat) (hn : n < 128) : wide_RightC k z ⟨0, x⟩ n = k ⟨0, x / 2 ^ n⟩ := by
  obtain ⟨y, rfl⟩ := Int.eq_ofNat_of_zero_le h0
  have hz : ∀ i : Int, shr64 0 i = 0 := fun i => by unfold shr64; exact Int.zero_fdiv _
  have hz2 : ∀ i : Int, shl64 0 i = 0 := fun i => by unfold shl64; rw [Int.zero_mul]; rfl
  unfold wide_RightC
  by_cases a1 : n < 1
  · have : n = 0 := by omega
    subst this
    rw [show decide (((0 : Nat) : Int) < 1) = true by decide, cond_true]
    simp
  · rw [decide_eq_false (show ¬ (n : Int) < 1 by omega), cond_false, decide_eq_false (show ¬ (n : Int) ≥ 128 by omega), cond_false]
    by_cases a2 : n < 64
    · rw [decide_eq_false (show ¬ (n : Int) ≥ 64 by omega), cond_false, decide_eq_true (show (0 : Int) ≤ n by omega), cond_true, cond_true, i64_in (by omega) (by omega), decide_eq_true (show (0 : Int) ≤ 64 - n by omega), cond_true]
      simp only [hz, hz2]
      have e : shr64 (y : Int) n = ((y / 2 ^ n : Nat) : Int) := by
        unfold shr64
        rw [show min (n : Int).toNat 64 = n by omega, pow_nat, Int.fdiv_eq_ediv_of_nonneg _ (Int.natCast_nonneg _)]
        rfl
      have hlt : y / 2 ^ n < 18446744073709551616 := Nat.lt_of_le_of_lt (Nat.div_le_self _ _) (by omega)
      rw [e, or0 _ hlt, w64_of' (Int.natCast_nonneg _) (by omega), pow_nat]
      rfl
    · rw [decide_eq_true (show (n : Int) ≥ 64 by omega), cond_true, i64_in (by omega) (by omega), decide_eq_true (show (0 : Int) ≤ n - 64 by omega), cond_true]
      simp only [hz]
      have : y / 2 ^ n = 0 := Nat.div_eq_of_lt (Nat.lt_of_lt_of_le (show y < 2 ^ 64 by omega) (Nat.pow_le_pow_right (by decide) (by omega)))
      rw [pow_nat, show ((y : Int) / ((2 ^ n : Nat) : Int)) = ((y / 2 ^ n : Nat) : Int) from rfl, this]
      rfl
theorem strU8_congr {n : Nat} {f g : Nat → List D} (h : ∀ i, i < n → f i = g i) : strU8 n f = strU8 n g := by
  unfold strU8
  congr 1
  exact List.map_congr_left fun i hi => by rw [h i (List.mem_range.1 hi)]
theorem allU8_n (n : Nat) (f : Nat → Int) : allU8 n (fun i => [.v (.int .u8 (f i))]) = true := by
  unfold allU8
  rw [List.all_eq_true]
  intro i _
  rfl
end Go.Cb
namespace Go.Proofs.YtflbjjpcjeinlaaGreatDoor
open Go.Ev Go.Cb
abbrev e_wRight : Fe := fn2C cWd cI (fun a n => okLo a && (decide (0 ≤ n) && decide (n < 128))) fun a n => cWd.enc ⟨0, a.lo / 2 ^ n.toNat⟩
theorem ev_wRight (a : Wd) (n : Int) : evalF (envOf []) tb 3 Tryz.f136 [cWd.enc a, I n] = wide_RightC (fun w => some (cWd.enc w)) none a n := by kernel_rfl
theorem ok_wRight : En 136 e_wRight :=
  entry2C (callable Tryz.func136 (by kernel_rfl)) fun a n h => sp .nil Tryz.func136 3 ((ev_wRight a n).trans (by
    simp only [Bool.and_eq_true, decide_eq_true_eq] at h
    obtain ⟨ha, h1, h2⟩ := okLo_iff h.1
    obtain ⟨k, rfl⟩ := Int.eq_ofNat_of_zero_le h.2.1
    rw [ha]
    exact wide_RightC_lo _ _ h1 h2 k (by omega)))
abbrev l_Bit : Ens := [(136, e_wRight)]
abbrev e_wBit : Fe := fn2C cWd cI (fun a n => okLo a && (decide (0 ≤ n) && decide (n < 128))) fun a n => B (bitLo a.lo n.toNat == 1)
theorem ev_wBit (a : Wd) (n : Int) : evalF (envOf l_Bit) tb 3 Tryz.f129 [cWd.enc a, I n] =
    bif decide (n < 0) then some (B false) else bif decide (n ≥ 128) then some (B false) else
      bif okLo a && (decide (0 ≤ i64 (127 - n)) && decide (i64 (127 - n) < 128)) then some (B (w64 (BitVec.ofInt 64 (a.lo / 2 ^ (i64 (127 - n)).toNat) &&& BitVec.ofInt 64 1).toNat == 1)) else none := by kernel_rfl
theorem ok_wBit : En 129 e_wBit :=
  entry2C (callable Tryz.func129 (by kernel_rfl)) fun a n h => sp (.cons ok_wRight .nil) Tryz.func129 3 ((ev_wBit a n).trans (by
    simp only [Bool.and_eq_true, decide_eq_true_eq] at h
    obtain ⟨ho, h3, h4⟩ := h
    obtain ⟨ha, h1, h2⟩ := okLo_iff ho
    obtain ⟨k, rfl⟩ := Int.eq_ofNat_of_zero_le h3
    obtain ⟨y, hy⟩ := Int.eq_ofNat_of_zero_le h1
    rw [i64_in (by omega) (by omega), decide_eq_false (show ¬ ((k : Int)) < 0 by omega), cond_false, decide_eq_false (show ¬ ((k : Int)) ≥ 128 by omega), cond_false, ho, decide_eq_true (show (0 : Int) ≤ 127 - (k : Int) by omega), decide_eq_true (show 127 - (k : Int) < 128 by omega), Bool.and_self, Bool.and_self, cond_true]
    have e : a.lo / 2 ^ (127 - (k : Int)).toNat = ((y / 2 ^ (127 - k) : Nat) : Int) := by
      rw [hy, show (127 - (k : Int)).toNat = 127 - k by omega, pow_nat]; rfl
    have e2 : bitLo a.lo ((k : Int)).toNat = ((y / 2 ^ (127 - k) % 2 : Nat) : Int) := by
      unfold bitLo
      rw [hy, show ((k : Int)).toNat = k by omega, pow_nat]; rfl
    rw [e, and1, e2, w64_of' (by omega) (by omega)]))
/-! A tenth. -/
abbrev l_Te : Ens := [(129, e_wBit), (130, e_wide_Left)]
abbrev stTe (a q : Wd) (l i : Int) : S :=
  { t := stT 31 0 [(1, .loc 2097152 0), (2, .loc 2097280 0), (3, NumD .u8 0), (4, .loc 4194304 0), (5, U l), (7, I i)]
    m := [(4194304, .cells (sWd.enc q) wT), (2097280, .cells [U 0, U 0] wT), (2097152, .cells (sWd.enc a) wT)], k := 5242917 }
theorem st_Te (F : Nat) (a : Wd) (H : Nat → List Nat → S → Option D) : evalH (envOf l_Te) tb F Tryz.f111 0 H (Go.Ev.start Tryz.f111 [cWd.enc a]) (endK tb Tryz.f111) =
    H 5242880 [4194304, 2097280, 2097152] (stTe a ⟨0, 0⟩ 0 0) := by kernel_rfl
def orOne (q : Wd) : Wd := ⟨q.hi, w64 (BitVec.ofInt 64 q.lo ||| BitVec.ofInt 64 1).toNat⟩
theorem rnd_Te (F : Nat) (a q : Wd) (l i : Int) (R : S → Option D) : rndE (envOf l_Te) tb F Tryz.f111 0 (endK tb Tryz.f111) 5242880 [4194304, 2097280, 2097152] R (stTe a q l i) =
    let q2 := wide_Left q 1
    let l2 := w64 (l * 2 ^ 1)
    bif decide (i < 128) then (bif okLo a && (decide (0 ≤ i) && decide (i < 128)) then
      (bif bitLo a.lo i.toNat == 1 then (bif decide (w64 (l2 + 1) ≥ 10) then R (stTe a (orOne q2) (w64 (w64 (l2 + 1) - 10)) (i64 (i + 1))) else R (stTe a q2 (w64 (l2 + 1)) (i64 (i + 1))))
       else (bif decide (l2 ≥ 10) then R (stTe a (orOne q2) (w64 (l2 - 10)) (i64 (i + 1))) else R (stTe a q2 l2 (i64 (i + 1))))) else none)
    else some (.tup [cWd.enc q, NumD .u8 (w8 l)]) := by kernel_rfl
end Go.Proofs.YtflbjjpcjeinlaaGreatDoor
namespace Go.Cb
open Go.Ev Go.Proofs.YtflbjjpcjeinlaaGreatDoor
theorem orOne_eq {x : Int} (h0 : 0 ≤ x) (h1 : x < 9223372036854775808) : orOne ⟨0, 2 * x⟩ = ⟨0, 2 * x + 1⟩ := by
  obtain ⟨y, rfl⟩ := Int.eq_ofNat_of_zero_le h0
  unfold orOne
  simp only
  rw [show (2 * (y : Int)) = ((2 * y : Nat) : Int) by simp, or1 y (by omega), w64_of' (by omega) (by omega)]
  simp
theorem div_bit (x : Nat) (i : Nat) (h : i < 128) : x / 2 ^ (127 - i) = 2 * (x / 2 ^ (128 - i)) + x / 2 ^ (127 - i) % 2 := by
  have e : x / 2 ^ (128 - i) = x / 2 ^ (127 - i) / 2 := by
    rw [Nat.div_div_eq_div_mul, ← Nat.pow_succ, show 128 - i = (127 - i) + 1 by omega]
  rw [e]; omega
end Go.Cb
namespace Go.Proofs.YtflbjjpcjeinlaaGreatDoor
open Go.Ev Go.Cb Go.Sort
theorem lp_Te (F : Nat) (x : Nat) (hx : x < 18446744073709551616) : ∀ (r i N : Nat), 128 = i + r → r < N →
    lpE (envOf l_Te) tb F Tryz.f111 0 (endK tb Tryz.f111) N 5242880 [4194304, 2097280, 2097152] (stTe ⟨0, x⟩ ⟨0, ((x / 2 ^ (128 - i) / 10 : Nat) : Int)⟩ ((x / 2 ^ (128 - i) % 10 : Nat) : Int) i) =
      some (.tup [cWd.enc ⟨0, ((x / 10 : Nat) : Int)⟩, NumD .u8 ((x % 10 : Nat) : Int)]) := by
  intro r
  induction r with
  | zero =>
    intro i N e hN
    obtain ⟨N, rfl⟩ : ∃ k, N = k + 1 := ⟨N - 1, by omega⟩
    have hi : i = 128 := by omega
    subst hi
    rw [lpE_succ, rnd_Te]
    simp only [show decide (((128 : Nat) : Int) < 128) = false by decide, cond_false]
    rw [show x / 2 ^ (128 - 128) = x by simp, w8_of (by omega) (by omega)]
  | succ r ih =>
    intro i N e hN
    obtain ⟨N, rfl⟩ : ∃ k, N = k + 1 := ⟨N - 1, by omega⟩
    have ih := ih (i + 1) N (by omega) (by omega)
    have hok : okLo ⟨0, x⟩ = true := by simp [okLo]; omega
    have hb : bitLo (x : Int) i = ((x / 2 ^ (127 - i) % 2 : Nat) : Int) := by unfold bitLo; rw [pow_nat]; rfl
    have hd := div_bit x i (by omega)
    have hP : x / 2 ^ (127 - i) ≤ x := Nat.div_le_self _ _
    rw [show 128 - (i + 1) = 127 - i by omega] at ih
    generalize x / 2 ^ (127 - i) = P' at hb hd hP ih
    generalize x / 2 ^ (128 - i) = P at hd
    have hbit : P' % 2 = 0 ∨ P' % 2 = 1 := by omega
    rw [lpE_succ, rnd_Te]
    simp only [decide_eq_true (show (i : Int) < 128 by omega), decide_eq_true (show (0 : Int) ≤ i by omega), hok, cond_true, Bool.and_self, Int.toNat_natCast, hb, i64_succ (show i + 1 < 9223372036854775808 by omega)]
    rw [wide_Left1 (Int.natCast_nonneg _) (by omega), show (((P % 10 : Nat) : Int) * 2 ^ 1) = ((2 * (P % 10) : Nat) : Int) by omega, w64_of' (n := ((2 * (P % 10) : Nat) : Int)) (by omega) (by omega)]
    rcases hbit with h0 | h0
    · rw [h0, show (((0 : Nat) : Int) == 1) = false by decide, cond_false]
      by_cases h10 : 2 * (P % 10) ≥ 10
      · rw [decide_eq_true (show ((2 * (P % 10) : Nat) : Int) ≥ 10 by omega), cond_true, orOne_eq (Int.natCast_nonneg _) (by omega), w64_of' (by omega) (by omega)]
        rw [show (2 * ((P / 10 : Nat) : Int) + 1) = ((P' / 10 : Nat) : Int) by omega, show (((2 * (P % 10) : Nat) : Int) - 10) = ((P' % 10 : Nat) : Int) by omega]
        exact ih
      · rw [decide_eq_false (show ¬ ((2 * (P % 10) : Nat) : Int) ≥ 10 by omega), cond_false]
        rw [show (2 * ((P / 10 : Nat) : Int)) = ((P' / 10 : Nat) : Int) by omega, show ((2 * (P % 10) : Nat) : Int) = ((P' % 10 : Nat) : Int) by omega]
        exact ih
    · rw [h0, show (((1 : Nat) : Int) == 1) = true by decide, cond_true, w64_of' (n := ((2 * (P % 10) : Nat) : Int) + 1) (by omega) (by omega)]
      by_cases h10 : 2 * (P % 10) + 1 ≥ 10
      · rw [decide_eq_true (show ((2 * (P % 10) : Nat) : Int) + 1 ≥ 10 by omega), cond_true, orOne_eq (Int.natCast_nonneg _) (by omega), w64_of' (by omega) (by omega)]
        rw [show (2 * ((P / 10 : Nat) : Int) + 1) = ((P' / 10 : Nat) : Int) by omega, show (((2 * (P % 10) : Nat) : Int) + 1 - 10) = ((P' % 10 : Nat) : Int) by omega]
        exact ih
      · rw [decide_eq_false (show ¬ ((2 * (P % 10) : Nat) : Int) + 1 ≥ 10 by omega), cond_false]
        rw [show (2 * ((P / 10 : Nat) : Int)) = ((P' / 10 : Nat) : Int) by omega, show (((2 * (P % 10) : Nat) : Int) + 1) = ((P' % 10 : Nat) : Int) by omega]
        exact ih
abbrev e_tenth : Fe := fn1C cWd okLo fun a => .tup [cWd.enc ⟨0, ((a.lo.toNat / 10 : Nat) : Int)⟩, NumD .u8 ((a.lo.toNat % 10 : Nat) : Int)]
theorem ok_tenth : En 111 e_tenth :=
  entry1C (callable Tryz.func111 (by kernel_rfl)) fun a h => by
    obtain ⟨ha, h1, h2⟩ := okLo_iff h
    obtain ⟨y, hy⟩ := Int.eq_ofNat_of_zero_le h1
    refine sp (.cons ok_wBit (.cons ok_wide_Left .nil)) Tryz.func111 129 ((evalF_cut (fn := Tryz.f111) 0 rfl).trans ((st_Te _ a _).trans ?_))
    have := lp_Te 129 y (by rw [hy] at h2; omega) 128 0 129 (by omega) (by omega)
    have e0 : y / 2 ^ (128 - 0) = 0 := Nat.div_eq_of_lt (by rw [hy] at h2; omega)
    rw [e0] at this
    rw [ha, hy]
    exact this
/-! A number's text. -/
theorem revOk : RevOk Tryz.prog 112 := by
  refine ⟨callable Tryz.func112 (by kernel_rfl), fun b cap n v w ht hc hn => ?_, fun a cap w => ?_⟩
  · obtain ⟨cur, E, ht⟩ := ht
    let enc : Int → Value := Value.int .u8
    let zs : List Int := (List.range n).map v
    have hd : zs.length = n := by simp [zs]
    have hg : ∀ j, j < n → zs[j]? = some (v j) := fun j hj => by simp [zs, hj]
    have hgd : ∀ j, j < n → zs.toArray[j]! = v j := fun j hj => by simp [zs, hj]
    have hH : Holds enc w b 0 zs.toArray := fun j hj => by
      have hj : j < n := by simpa [zs] using hj
      rw [hgd j hj, Nat.zero_add]
      exact ⟨hc j hj, by simp [World.frozen?, ht]⟩
    have run := AnyE.slices_Reverse Tryz.reverseB enc (fun _ => rfl) b 0 cap zs w hH (by rw [hd]; exact hn)
    rw [hd] at run
    refine run.mono fun e w' ⟨he, m, hw⟩ => ?_
    subst hw
    have hs : zs.reverse.toArray.size = zs.toArray.size := by simp
    refine ⟨he, fun i hi => ?_, rfl, rfl, rfl, ?_, fun k hk => ?_⟩
    · have h2 : Holds enc (putRow enc (Sort.ahead w m) b 0 zs.reverse.toArray) b 0 zs.reverse.toArray := holds_putRow enc (Sort.ahead w m) b 0 zs.toArray zs.reverse.toArray (holds_ahead enc w m b 0 zs.toArray hH) hs
      have h3 := (h2 i (by simpa [zs] using hi)).1
      rw [Nat.zero_add] at h3
      rw [h3, getElem!_pos zs.reverse.toArray i (by simpa [zs] using hi)]
      simp [enc, zs]
    · simp [putRow, Go.Sort.mapBlock, Sort.ahead]
    · simp [putRow, Go.Sort.mapBlock, Sort.ahead, Array.getElem?_modify, Ne.symm hk]
  · refine (AnyE.slices_Reverse_empty Tryz.reverseB a cap w).mono fun e w' ⟨he, hw⟩ => ?_
    subst hw
    exact ⟨he, rfl, rfl, rfl, rfl, fun _ => rfl⟩
end Go.Proofs.YtflbjjpcjeinlaaGreatDoor
