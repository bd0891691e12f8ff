/- Plain laws of bytes. -/
import Derived.Test.YtflbjjpcjeinlaaGreatDoorGb
namespace Go.Cb
open Go.Ev Go.Proofs.YtflbjjpcjeinlaaGreatDoor
abbrev cBs : Cd (List Int) := sU8.list 1 0
def endE (x : Rr) : Int := bif decide (e_Left x > 0) then 2 else x.e
abbrev rdr (b : List Int) : Rr := ⟨b.length, fun i => sU8.enc (b.getD i 0), 0⟩
def byteIn (x : Int) : Prop := 0 ≤ x ∧ x ≤ 255
theorem getD_in {b : List Int} (hb : ∀ x ∈ b, byteIn x) (i : Nat) : 0 ≤ b.getD i 0 ∧ b.getD i 0 ≤ 255 := by
  rw [List.getD_eq_getElem?_getD]
  cases h : b[i]? with
  | none => simp
  | some x => exact hb x (List.mem_of_getElem? h)
/-- The number of bytes from a place on. -/
def be (b : List Int) (o : Nat) : Nat → Int
  | 0 => 0
  | i + 1 => 256 * be b o i + b.getD (o + i) 0
theorem be_range {b : List Int} (hb : ∀ x ∈ b, byteIn x) (o : Nat) : ∀ i, 0 ≤ be b o i ∧ be b o i < 256 ^ i
  | 0 => by simp [be]
  | i + 1 => by
    have h1 := be_range hb o i
    have h2 := getD_in hb (o + i)
    simp only [be, Int.pow_succ]
    omega
theorem pw7 (i : Nat) (h : i ≤ 7) : (256 : Int) ^ i ≤ 256 ^ 7 := (by decide : ∀ i : Fin 8, (256 : Int) ^ (i : Nat) ≤ 256 ^ 7) ⟨i, by omega⟩
theorem pw3 (i : Nat) (h : i ≤ 3) : (256 : Int) ^ i ≤ 256 ^ 3 := (by decide : ∀ i : Fin 4, (256 : Int) ^ (i : Nat) ≤ 256 ^ 3) ⟨i, by omega⟩
theorem be_drop (b : List Int) (o f : Nat) : ∀ i, be (b.drop o) f i = be b (o + f) i
  | 0 => rfl
  | i + 1 => by
    simp only [be, be_drop b o f i, List.getD_eq_getElem?_getD, List.getElem?_drop, Nat.add_assoc]
theorem w32_of {n : Int} (h : 0 ≤ n) (h2 : n < 4294967296) : w32 n = n := by
  unfold w32 IntKind.wrap
  simp [IntKind.signed, IntKind.bits]
  omega
theorem w16_of {n : Int} (h : 0 ≤ n) (h2 : n < 65536) : w16 n = n := by
  unfold w16 IntKind.wrap
  simp [IntKind.signed, IntKind.bits]
  omega
theorem w8_of {n : Int} (h : 0 ≤ n) (h2 : n < 256) : w8 n = n := by
  unfold w8 IntKind.wrap
  simp [IntKind.signed, IntKind.bits]
  omega
theorem w64_of' {n : Int} (h : 0 ≤ n) (h2 : n < 18446744073709551616) : w64 n = n := by
  unfold w64 IntKind.wrap
  simp [IntKind.signed, IntKind.bits]
  omega
theorem or_low (a b : Nat) (h : b < 256) : 256 * a ||| b = 256 * a + b := by
  rw [show 256 * a = 2 ^ 8 * a by rfl]
  exact (Nat.two_pow_add_eq_or_of_lt (i := 8) h a).symm
theorem stepN_eq {n x : Int} (h : 0 ≤ n) (h2 : n < 72057594037927936) (hx : 0 ≤ x) (hx2 : x ≤ 255) : stepN n x = 256 * n + x := by
  unfold stepN
  rw [w64_of' hx (by omega), show (n * 2 ^ (min (8 : Int).toNat 64)) = 256 * n by rw [show min (8 : Int).toNat 64 = 8 by decide]; omega, w64_of' (n := 256 * n) (by omega) (by omega)]
  obtain ⟨a, rfl⟩ := Int.eq_ofNat_of_zero_le h
  obtain ⟨c, rfl⟩ := Int.eq_ofNat_of_zero_le hx
  rw [show (256 * (a : Int)) = ((256 * a : Nat) : Int) by omega, BitVec.ofInt_natCast, BitVec.ofInt_natCast, BitVec.toNat_or, BitVec.toNat_ofNat, BitVec.toNat_ofNat, Nat.mod_eq_of_lt (by omega), Nat.mod_eq_of_lt (by omega), or_low _ _ (by omega)]
  rw [w64_of' (by omega) (by omega)]
  omega
/-- A reader at a place. -/
def rdAt (b : List Int) (o : Nat) : Rr := ⟨b.length - o, fun i => sU8.enc (b.getD (o + i) 0), 0⟩
theorem rdAt_zero (b : List Int) : rdAt b 0 = rdr b := by simp [rdAt]
theorem ok_at {b : List Int} {o c : Nat} (h : o + c ≤ b.length) : rBad (rdAt b o) c = false := by
  simp [rBad, rawE, mustE, rdAt]
  omega
theorem adv_at {b : List Int} {o c : Nat} (h : o + c ≤ b.length) : rAdv (rdAt b o) c = rdAt b (o + c) := by
  rw [rAdv_ok (ok_at h)]
  have hb : ¬ ((c : Int) > ((b.length - o : Nat) : Int)) := by omega
  simp only [rdAt, rErr, rawE, mustE, Int.toNat_natCast, Rr.mk.injEq]
  refine ⟨by omega, ?_, ?_⟩
  · funext i; rw [Nat.add_assoc]
  · simp [hb]
theorem numG_be {b : List Int} (hb : ∀ x ∈ b, byteIn x) (o : Nat) : ∀ (k i : Nat), i + k ≤ 8 → numG (rdAt b o).g k i (be b o i) = be b o (i + k)
  | 0, i, _ => rfl
  | k + 1, i, h => by
    have h1 := be_range hb o i
    have h2 := getD_in hb (o + i)
    have h3 : (256 : Int) ^ i ≤ 256 ^ 7 := pw7 _ (by omega)
    show numG (rdAt b o).g k (i + 1) (stepN (be b o i) (decS sU8 0 (sU8.enc (b.getD (o + i) 0)))) = _
    rw [decS_enc, stepN_eq h1.1 (by omega) h2.1 h2.2]
    have := numG_be hb o k (i + 1) (by omega)
    rw [show i + 1 + k = i + (k + 1) by omega] at this
    exact this
theorem num_at {b : List Int} (hb : ∀ x ∈ b, byteIn x) {o c : Nat} (h : o + c ≤ b.length) (hc : c ≤ 8) : rNum (rdAt b o) c = be b o c := by
  unfold rNum rLen
  rw [ok_at h]
  have := numG_be hb o c 0 (by omega)
  rw [Nat.zero_add] at this
  exact this
theorem be1 {b : List Int} (hb : ∀ x ∈ b, byteIn x) (o : Nat) : w8 (be b o 1) = b.getD o 0 := by
  have h2 := getD_in hb o
  simp only [be, Nat.add_zero]
  rw [w8_of (by omega) (by omega)]; omega
theorem be2 {b : List Int} (hb : ∀ x ∈ b, byteIn x) (o : Nat) : w16 (be b o 2) = be b o 2 := by
  have h := be_range hb o 2
  exact w16_of h.1 (by omega)
theorem be4 {b : List Int} (hb : ∀ x ∈ b, byteIn x) (o : Nat) : w32 (be b o 4) = be b o 4 := by
  have h := be_range hb o 4
  exact w32_of h.1 (by omega)
/-- Sizes as numbers of bytes. -/
def sumN : List Nat → Nat
  | [] => 0
  | c :: r => c + sumN r
theorem advs_at {b : List Int} : ∀ (l : List Nat) (o : Nat), o + sumN l ≤ b.length → advs (l.map fun c : Nat => (c : Int)) (rdAt b o) = rdAt b (o + sumN l)
  | [], _, _ => rfl
  | c :: r, o, h => by
    simp only [sumN] at h
    show advs (r.map fun c : Nat => (c : Int)) (rAdv (rdAt b o) c) = _
    rw [adv_at (by omega), advs_at r (o + c) (by omega)]
    simp only [sumN, Nat.add_assoc]
theorem rAt_at {b : List Int} (hb : ∀ x ∈ b, byteIn x) (l : List Nat) {o c : Nat} (h : o + (sumN l + c) ≤ b.length) (hc : c ≤ 8) : rAt (l.map fun c : Nat => (c : Int)) (rdAt b o) c = be b (o + sumN l) c := by
  unfold rAt
  rw [advs_at l o (by omega), num_at hb (by omega) hc]
/-! A fault stays. -/
theorem stay {x : Rr} (h : x.e = 8) (c : Int) : (rAdv x c).e = 8 := by
  simp [rAdv, rErr, rawE, mustE, h]
theorem stays {x : Rr} (h : x.e = 8) : ∀ l : List Int, (advs l x).e = 8
  | [] => h
  | c :: r => by
    show (advs r (rAdv x c)).e = 8
    exact stays (stay h c) r
theorem short_at {b : List Int} {o c : Nat} (ho : o ≤ b.length) (h : b.length < o + c) : (rAdv (rdAt b o) c).e = 8 := by
  simp [rAdv, rErr, rawE, mustE, rdAt]
  rw [show decide (b.length - o < c) = true by simp; omega]
  rfl
theorem advs_short {b : List Int} : ∀ (l : List Nat) (o : Nat), o ≤ b.length → b.length < o + sumN l → (advs (l.map fun c : Nat => (c : Int)) (rdAt b o)).e = 8
  | [], o, h, h2 => by simp only [sumN] at h2; omega
  | c :: r, o, h, h2 => by
    simp only [sumN] at h2
    show (advs (r.map fun c : Nat => (c : Int)) (rAdv (rdAt b o) c)).e = 8
    by_cases hc : o + c ≤ b.length
    · rw [adv_at hc]
      exact advs_short r (o + c) hc (by omega)
    · exact stays (short_at h (by omega)) _
theorem end_short {x : Rr} (h : x.e = 8) : endE x = 8 := by simp [endE, e_Left, h]
theorem end_at {b : List Int} {o : Nat} (h : o ≤ b.length) : endE (rdAt b o) = bif decide (o < b.length) then 2 else 0 := by
  have e : endE (rdAt b o) = bif decide (((b.length - o : Nat) : Int) > 0) then 2 else 0 := rfl
  rw [e]
  congr 1
  simp
  omega
/-! Heads and flows. -/
end Go.Cb
