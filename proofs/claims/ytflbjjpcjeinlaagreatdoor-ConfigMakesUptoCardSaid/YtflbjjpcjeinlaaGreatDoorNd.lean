/- A number's text. -/
import Derived.Test.YtflbjjpcjeinlaaGreatDoorNc
namespace Go.Cb
open Go.Ev Go.Proofs.YtflbjjpcjeinlaaGreatDoor
theorem rev_get (l : List Int) (d : Int) : ∀ i, i < l.length + 1 → getE sU8 0 (l ++ [d]) (l.length + 1 - 1 - i) = getE sU8 0 (l ++ [d]).reverse i := fun i hi => by
  unfold getE
  rw [List.getD_eq_getElem?_getD, List.getD_eq_getElem?_getD, List.getElem?_reverse (by simpa using hi)]
  simp
theorem txt_rev (l : List Int) (d : Int) : strU8 (l.length + 1) (fun i => getE sU8 0 (l ++ [d]) (l.length + 1 - 1 - i)) = txtL (l ++ [d]).reverse := by
  unfold txtL
  rw [strU8_congr (rev_get l d)]
  simp
theorem decR_len : ∀ k n, (decR k n).length ≤ k
  | 0, _ => Nat.le_refl _
  | k + 1, n => by
    unfold decR
    split
    · simp
    · have := decR_len k (n / 10); simp; omega
end Go.Cb
namespace Go.Proofs.YtflbjjpcjeinlaaGreatDoor
open Go.Ev Go.Cb
abbrev l_Wi : Ens := [(111, e_tenth)]
abbrev envW : Env := envR l_Wi 112
abbrev stWi (a : Wd) (m : Nat) (G : Nat → List D) : S :=
  { t := stT 24 0 [(1, .loc 2097152 0), (2, T ⟨#[]⟩), (3, .sl 1 m G (.tok 6291463))], m := [(6291463, .tok 5), (2097152, .cells (sWd.enc a) wT)], k := 3145754 }
theorem st_Wi (F : Nat) (a : Wd) (H : Nat → List Nat → S → Option D) : evalH envW tb F Tryz.f91 0 H (Go.Ev.start Tryz.f91 [cWd.enc a]) (endK tb Tryz.f91) =
    H 3145728 [2097152] (stWi a ([] : List Int).length (getE sU8 0 [])) := by kernel_rfl
theorem rnd_Wi (F : Nat) (x : Int) (m : Nat) (G : Nat → List D) (R : S → Option D) : rndE envW tb F Tryz.f91 0 (endK tb Tryz.f91) 3145728 [2097152] R (stWi ⟨0, x⟩ m G) =
    let a : Wd := ⟨0, x⟩
    let q := ((x.toNat / 10 : Nat) : Int)
    let d := w8 (48 + ((x.toNat % 10 : Nat) : Int))
    let g := pushD sU8 0 m G d
    bif okLo a then (bif decide ((m + 1) * 1 ≤ 140737488355328 ∧ m + 1 ≤ 9223372036854775807) then
      (bif (q == 0 && true) then (bif allU8 (m + 1) g && decide (m + 1 ≤ 9223372036854775807) then
        (bif allU8 (m + 1) (fun i => g (m + 1 - 1 - i)) && decide (m + 1 ≤ 4294967280) then some (T (strU8 (m + 1) (fun i => g (m + 1 - 1 - i)))) else none) else none)
      else R (stWi ⟨0, q⟩ (m + 1) g)) else none) else none := by kernel_rfl
theorem lp_Wi (F : Nat) : ∀ (k x N : Nat) (l : List Int), x < 10 ^ k → x < 18446744073709551616 → 0 < k → k < N → l.length + k ≤ 1000 →
    lpE envW tb F Tryz.f91 0 (endK tb Tryz.f91) N 3145728 [2097152] (stWi ⟨0, x⟩ l.length (getE sU8 0 l)) = some (T (txtL (l ++ decR k x).reverse)) := by
  intro k
  induction k with
  | zero => intro x N l _ _ h; omega
  | succ k ih =>
    intro x N l hx hx2 _ hN hl
    obtain ⟨N, rfl⟩ : ∃ j, N = j + 1 := ⟨N - 1, by omega⟩
    have hok : okLo ⟨0, x⟩ = true := by simp [okLo]; omega
    have hw : w8 (48 + ((x % 10 : Nat) : Int)) = 48 + ((x % 10 : Nat) : Int) := w8_of (by omega) (by omega)
    rw [lpE_succ, rnd_Wi]
    simp only [hok, cond_true, Int.toNat_natCast, hw, show decide ((l.length + 1) * 1 ≤ 140737488355328 ∧ l.length + 1 ≤ 9223372036854775807) = true by simp; omega, pushD_eq, Bool.and_true]
    by_cases h0 : x / 10 = 0
    · rw [show (((x / 10 : Nat) : Int) == 0) = true by simp; omega, cond_true]
      have a1 : allU8 (l.length + 1) (getE sU8 0 (l ++ [48 + ((x % 10 : Nat) : Int)])) = true := allU8_n _ _
      have a2 : allU8 (l.length + 1) (fun i => getE sU8 0 (l ++ [48 + ((x % 10 : Nat) : Int)]) (l.length + 1 - 1 - i)) = true := allU8_n _ _
      rw [a1, a2, show decide (l.length + 1 ≤ 9223372036854775807) = true by simp; omega, show decide (l.length + 1 ≤ 4294967280) = true by simp; omega, Bool.and_self, cond_true, cond_true, txt_rev]
      unfold decR
      rw [if_pos h0]
      rfl
    · rw [show (((x / 10 : Nat) : Int) == 0) = false by simp; omega, cond_false, len_push (l := l) (a := 48 + ((x % 10 : Nat) : Int))]
      have hk : 0 < k := by
        rcases Nat.eq_zero_or_pos k with h | h
        · subst h; simp at hx; omega
        · exact h
      have hx' : x / 10 < 10 ^ k := by rw [Nat.pow_succ] at hx; omega
      refine (ih (x / 10) N (l ++ [48 + ((x % 10 : Nat) : Int)]) hx' (by omega) hk (by omega) (by simp; omega)).trans ?_
      rw [show decR (k + 1) x = (48 + ((x % 10 : Nat) : Int)) :: decR k (x / 10) by rw [decR, if_neg h0]; rfl, List.append_assoc]
      rfl
abbrev e_nWide : Fe := fn1C cWd okLo fun a => T (printN a.lo.toNat)
theorem ok_nWide : En 91 e_nWide :=
  entry1C (callable Tryz.func91 (by kernel_rfl)) fun a h => by
    obtain ⟨ha, h1, h2⟩ := okLo_iff h
    obtain ⟨y, hy⟩ := Int.eq_ofNat_of_zero_le h1
    refine spR (.cons ok_tenth .nil) revOk Tryz.func91 21 ((evalF_cut (fn := Tryz.f91) 0 rfl).trans ((st_Wi _ a _).trans ?_))
    have hlt : y < 18446744073709551616 := by rw [hy] at h2; omega
    have := lp_Wi 21 20 y 21 [] (Nat.lt_of_lt_of_le hlt (by decide)) hlt (by omega) (by omega) (by simp)
    rw [ha, hy]
    exact this
abbrev l_Print : Ens := [(89, e_wide_Of), (91, e_nWide)]
abbrev e_nPrint : Fe := fn1C cU (fun n => decide (0 ≤ n) && decide (n < 18446744073709551616)) fun n => T (printN n.toNat)
theorem ok_nPrint : En 66 e_nPrint :=
  entry1C (callable Tryz.func66 (by kernel_rfl)) fun n h => sp (.cons ok_wide_Of (.cons ok_nWide .nil)) Tryz.func66 3
    (Eq.trans (b := bif okLo (wide_Of n) then some (T (printN n.toNat)) else none) (by kernel_rfl) (by
      have e : okLo (wide_Of n) = true := by
        show (((0 : Int) == 0) && (decide (0 ≤ n) && decide (n < 18446744073709551616))) = true
        rw [h]; rfl
      rw [e, cond_true]))
end Go.Proofs.YtflbjjpcjeinlaaGreatDoor
