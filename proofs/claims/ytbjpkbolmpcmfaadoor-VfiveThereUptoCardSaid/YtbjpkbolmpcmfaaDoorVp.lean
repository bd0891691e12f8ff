/- What is read is what the reference has: plain laws of bytes. -/
import Derived.Test.YtbjpkbolmpcmfaaDoorVn
namespace Go.Cb
open Go.Ev Go.Proofs.YtbjpkbolmpcmfaaDoor
def byteIn (x : Int) : Prop := 0 ≤ x ∧ x ≤ 255
theorem getD_in {b : List Int} (hb : ∀ x ∈ b, byteIn x) (i : Nat) : 0 ≤ b.getD i 0 ∧ b.getD i 0 ≤ 255 := by
  rw [List.getD_eq_getElem?_getD]
  cases h : b[i]? with
  | none => simp
  | some x => exact hb x (List.mem_of_getElem? h)
/-- The number of bytes from a place on. -/
def be (b : List Int) (o : Nat) : Nat → Int
  | 0 => 0
  | i + 1 => 256 * be b o i + b.getD (o + i) 0
theorem be_range {b : List Int} (hb : ∀ x ∈ b, byteIn x) (o : Nat) : ∀ i, 0 ≤ be b o i ∧ be b o i < 256 ^ i
  | 0 => by simp [be]
  | i + 1 => by
    have h1 := be_range hb o i
    have h2 := getD_in hb (o + i)
    simp only [be, Int.pow_succ]
    omega
theorem pw7 (i : Nat) (h : i ≤ 7) : (256 : Int) ^ i ≤ 256 ^ 7 := (by decide : ∀ i : Fin 8, (256 : Int) ^ (i : Nat) ≤ 256 ^ 7) ⟨i, by omega⟩
theorem pw3 (i : Nat) (h : i ≤ 3) : (256 : Int) ^ i ≤ 256 ^ 3 := (by decide : ∀ i : Fin 4, (256 : Int) ^ (i : Nat) ≤ 256 ^ 3) ⟨i, by omega⟩
theorem be_drop (b : List Int) (o f : Nat) : ∀ i, be (b.drop o) f i = be b (o + f) i
  | 0 => rfl
  | i + 1 => by
    simp only [be, be_drop b o f i, List.getD_eq_getElem?_getD, List.getElem?_drop, Nat.add_assoc]
theorem w32_of {n : Int} (h : 0 ≤ n) (h2 : n < 4294967296) : w32 n = n := by
  unfold w32 IntKind.wrap
  simp [IntKind.signed, IntKind.bits]
  omega
theorem w16_of {n : Int} (h : 0 ≤ n) (h2 : n < 65536) : w16 n = n := by
  unfold w16 IntKind.wrap
  simp [IntKind.signed, IntKind.bits]
  omega
theorem w8_of {n : Int} (h : 0 ≤ n) (h2 : n < 256) : w8 n = n := by
  unfold w8 IntKind.wrap
  simp [IntKind.signed, IntKind.bits]
  omega
theorem w64_of' {n : Int} (h : 0 ≤ n) (h2 : n < 18446744073709551616) : w64 n = n := by
  unfold w64 IntKind.wrap
  simp [IntKind.signed, IntKind.bits]
  omega
theorem or_low (a b : Nat) (h : b < 256) : 256 * a ||| b = 256 * a + b := by
  rw [show 256 * a = 2 ^ 8 * a by rfl]
  exact (Nat.two_pow_add_eq_or_of_lt (i := 8) h a).symm
theorem stepN_eq {n x : Int} (h : 0 ≤ n) (h2 : n < 72057594037927936) (hx : 0 ≤ x) (hx2 : x ≤ 255) : stepN n x = 256 * n + x := by
  unfold stepN
  rw [w64_of' hx (by omega), show (n * 2 ^ (min (8 : Int).toNat 64)) = 256 * n by rw [show min (8 : Int).toNat 64 = 8 by decide]; omega, w64_of' (n := 256 * n) (by omega) (by omega)]
  obtain ⟨a, rfl⟩ := Int.eq_ofNat_of_zero_le h
  obtain ⟨c, rfl⟩ := Int.eq_ofNat_of_zero_le hx
  rw [show (256 * (a : Int)) = ((256 * a : Nat) : Int) by omega, BitVec.ofInt_natCast, BitVec.ofInt_natCast, BitVec.toNat_or, BitVec.toNat_ofNat, BitVec.toNat_ofNat, Nat.mod_eq_of_lt (by omega), Nat.mod_eq_of_lt (by omega), or_low _ _ (by omega)]
  rw [w64_of' (by omega) (by omega)]
  omega
/-- A reader at a place. -/
def rdAt (b : List Int) (o : Nat) : Rr := ⟨b.length - o, fun i => sU8.enc (b.getD (o + i) 0), 0⟩
theorem rdAt_zero (b : List Int) : rdAt b 0 = rdr b := by simp [rdAt]
theorem ok_at {b : List Int} {o c : Nat} (h : o + c ≤ b.length) : rBad (rdAt b o) c = false := by
  simp [rBad, rawE, mustE, rdAt]
  omega
theorem adv_at {b : List Int} {o c : Nat} (h : o + c ≤ b.length) : rAdv (rdAt b o) c = rdAt b (o + c) := by
  rw [rAdv_ok (ok_at h)]
  have hb : ¬ ((c : Int) > ((b.length - o : Nat) : Int)) := by omega
  simp only [rdAt, rErr, rawE, mustE, Int.toNat_natCast, Rr.mk.injEq]
  refine ⟨by omega, ?_, ?_⟩
  · funext i; rw [Nat.add_assoc]
  · simp [hb]
theorem numG_be {b : List Int} (hb : ∀ x ∈ b, byteIn x) (o : Nat) : ∀ (k i : Nat), i + k ≤ 8 → numG (rdAt b o).g k i (be b o i) = be b o (i + k)
  | 0, i, _ => rfl
  | k + 1, i, h => by
    have h1 := be_range hb o i
    have h2 := getD_in hb (o + i)
    have h3 : (256 : Int) ^ i ≤ 256 ^ 7 := pw7 _ (by omega)
    show numG (rdAt b o).g k (i + 1) (stepN (be b o i) (decS sU8 0 (sU8.enc (b.getD (o + i) 0)))) = _
    rw [decS_enc, stepN_eq h1.1 (by omega) h2.1 h2.2]
    have := numG_be hb o k (i + 1) (by omega)
    rw [show i + 1 + k = i + (k + 1) by omega] at this
    exact this
theorem num_at {b : List Int} (hb : ∀ x ∈ b, byteIn x) {o c : Nat} (h : o + c ≤ b.length) (hc : c ≤ 8) : rNum (rdAt b o) c = be b o c := by
  unfold rNum rLen
  rw [ok_at h]
  have := numG_be hb o c 0 (by omega)
  rw [Nat.zero_add] at this
  exact this
theorem atN_be {b : List Int} (hb : ∀ x ∈ b, byteIn x) (f : Nat) : ∀ s, s ≤ 4 → atN b f s = be b f s
  | 0, _ => rfl
  | s + 1, h => by
    have h1 := be_range hb f s
    have h2 := getD_in hb (f + s)
    have h3 : (256 : Int) ^ s ≤ 256 ^ 3 := pw3 _ (by omega)
    simp only [atN, be, atN_be hb f s (by omega)]
    rw [w32_of (n := b.getD (f + s) 0) (by omega) (by omega), w32_of (n := 256 * be b f s) (by omega) (by omega), w32_of (by omega) (by omega)]
theorem be1 {b : List Int} (hb : ∀ x ∈ b, byteIn x) (o : Nat) : w8 (be b o 1) = b.getD o 0 := by
  have h2 := getD_in hb o
  simp only [be, Nat.add_zero]
  rw [w8_of (by omega) (by omega)]; omega
theorem be2 {b : List Int} (hb : ∀ x ∈ b, byteIn x) (o : Nat) : w16 (be b o 2) = be b o 2 := by
  have h := be_range hb o 2
  exact w16_of h.1 (by omega)
theorem be4 {b : List Int} (hb : ∀ x ∈ b, byteIn x) (o : Nat) : w32 (be b o 4) = be b o 4 := by
  have h := be_range hb o 4
  exact w32_of h.1 (by omega)
/-- Sizes as numbers of bytes. -/
def sumN : List Nat → Nat
  | [] => 0
  | c :: r => c + sumN r
theorem advs_at {b : List Int} : ∀ (l : List Nat) (o : Nat), o + sumN l ≤ b.length → advs (l.map fun c : Nat => (c : Int)) (rdAt b o) = rdAt b (o + sumN l)
  | [], _, _ => rfl
  | c :: r, o, h => by
    simp only [sumN] at h
    show advs (r.map fun c : Nat => (c : Int)) (rAdv (rdAt b o) c) = _
    rw [adv_at (by omega), advs_at r (o + c) (by omega)]
    simp only [sumN, Nat.add_assoc]
theorem rAt_at {b : List Int} (hb : ∀ x ∈ b, byteIn x) (l : List Nat) {o c : Nat} (h : o + (sumN l + c) ≤ b.length) (hc : c ≤ 8) : rAt (l.map fun c : Nat => (c : Int)) (rdAt b o) c = be b (o + sumN l) c := by
  unfold rAt
  rw [advs_at l o (by omega), num_at hb (by omega) hc]
/-! A fault stays. -/
theorem stay {x : Rr} (h : x.e = 8) (c : Int) : (rAdv x c).e = 8 := by
  simp [rAdv, rErr, rawE, mustE, h]
theorem stays {x : Rr} (h : x.e = 8) : ∀ l : List Int, (advs l x).e = 8
  | [] => h
  | c :: r => by
    show (advs r (rAdv x c)).e = 8
    exact stays (stay h c) r
theorem short_at {b : List Int} {o c : Nat} (ho : o ≤ b.length) (h : b.length < o + c) : (rAdv (rdAt b o) c).e = 8 := by
  simp [rAdv, rErr, rawE, mustE, rdAt]
  rw [show decide (b.length - o < c) = true by simp; omega]
  rfl
theorem advs_short {b : List Int} : ∀ (l : List Nat) (o : Nat), o ≤ b.length → b.length < o + sumN l → (advs (l.map fun c : Nat => (c : Int)) (rdAt b o)).e = 8
  | [], o, h, h2 => by simp only [sumN] at h2; omega
  | c :: r, o, h, h2 => by
    simp only [sumN] at h2
    show (advs (r.map fun c : Nat => (c : Int)) (rAdv (rdAt b o) c)).e = 8
    by_cases hc : o + c ≤ b.length
    · rw [adv_at hc]
      exact advs_short r (o + c) hc (by omega)
    · exact stays (short_at h (by omega)) _
theorem xs_at {b : List Int} {o : Nat} : ∀ i, o + 48 * i ≤ b.length → xs (rdAt b o) i = rdAt b (o + 48 * i)
  | 0, _ => rfl
  | i + 1, h => by
    show advs flowL (xs (rdAt b o) i) = _
    rw [xs_at i (by omega)]
    exact advs_at [4, 4, 4, 2, 2, 4, 4, 4, 4, 2, 2, 1, 1, 1, 1, 2, 2, 1, 1, 2] (o + 48 * i) (by show o + 48 * i + 48 ≤ _; omega)
theorem xs_stay {x : Rr} : ∀ (j i : Nat), (xs x i).e = 8 → (xs x (i + j)).e = 8
  | 0, _, h => h
  | j + 1, i, h => stays (xs_stay j i h) flowL
theorem xs_short {b : List Int} {o k : Nat} (ho : o ≤ b.length) (h : b.length < o + 48 * k) : (xs (rdAt b o) k).e = 8 := by
  have hk : (b.length - o) / 48 < k := by omega
  generalize hi : (b.length - o) / 48 = i at hk
  have h1 : (xs (rdAt b o) (i + 1)).e = 8 := by
    show (advs flowL (xs (rdAt b o) i)).e = 8
    rw [xs_at i (by omega)]
    exact advs_short [4, 4, 4, 2, 2, 4, 4, 4, 4, 2, 2, 1, 1, 1, 1, 2, 2, 1, 1, 2] (o + 48 * i) (by omega) (by show _ < o + 48 * i + 48; omega)
  have := xs_stay (k - (i + 1)) (i + 1) h1
  rwa [show i + 1 + (k - (i + 1)) = k by omega] at this
theorem end_short {x : Rr} (h : x.e = 8) : endE x = 8 := by simp [endE, e_Left, h]
theorem end_at {b : List Int} {o : Nat} (h : o ≤ b.length) : endE (rdAt b o) = bif decide (o < b.length) then 2 else 0 := by
  have e : endE (rdAt b o) = bif decide (((b.length - o : Nat) : Int) > 0) then 2 else 0 := rfl
  rw [e]
  congr 1
  simp
  omega
/-! Heads and flows. -/
theorem r14_At_be {b : List Int} (hb : ∀ x ∈ b, byteIn x) (f s : Nat) (h : s ≤ 4) : r14_At b f s = be b f s := atN_be hb f s h
theorem head_at {b : List Int} (hb : ∀ x ∈ b, byteIn x) (o : Nat) (ho : o = 4) (h : 24 ≤ b.length) : rHead (rdAt b o) = r14_Head b := by
  have a0 : rAt [] (rdAt b o) 4 = be b (o + 0) 4 := rAt_at hb [] (o := o) (c := 4) (by simp [sumN]; omega) (by omega)
  have a1 : rAt [4] (rdAt b o) 4 = be b (o + 4) 4 := rAt_at hb [4] (o := o) (c := 4) (by simp [sumN]; omega) (by omega)
  have a2 : rAt [4, 4] (rdAt b o) 4 = be b (o + 8) 4 := rAt_at hb [4, 4] (o := o) (c := 4) (by simp [sumN]; omega) (by omega)
  have a3 : rAt [4, 4, 4] (rdAt b o) 4 = be b (o + 12) 4 := rAt_at hb [4, 4, 4] (o := o) (c := 4) (by simp [sumN]; omega) (by omega)
  have a4 : rAt [4, 4, 4, 4] (rdAt b o) 1 = be b (o + 16) 1 := rAt_at hb [4, 4, 4, 4] (o := o) (c := 1) (by simp [sumN]; omega) (by omega)
  have a5 : rAt [4, 4, 4, 4, 1] (rdAt b o) 1 = be b (o + 17) 1 := rAt_at hb [4, 4, 4, 4, 1] (o := o) (c := 1) (by simp [sumN]; omega) (by omega)
  have a6 : rAt [4, 4, 4, 4, 1, 1] (rdAt b o) 2 = be b (o + 18) 2 := rAt_at hb [4, 4, 4, 4, 1, 1] (o := o) (c := 2) (by simp [sumN]; omega) (by omega)
  subst ho
  unfold rHead r14_Head
  rw [a0, a1, a2, a3, a4, a5, a6]
  rw [be4 hb, be4 hb, be4 hb, be4 hb, be1 hb, be1 hb, show r14_At b 4 4 = be b 4 4 from r14_At_be hb 4 4 (by omega), show r14_At b 8 4 = be b 8 4 from r14_At_be hb 8 4 (by omega), show r14_At b 12 4 = be b 12 4 from r14_At_be hb 12 4 (by omega),
    show r14_At b 16 4 = be b 16 4 from r14_At_be hb 16 4 (by omega), show r14_At b 22 2 = be b 22 2 from r14_At_be hb 22 2 (by omega)]
theorem flow_at {b : List Int} (hb : ∀ x ∈ b, byteIn x) (o : Nat) (h : o + 48 ≤ b.length) : rFlow (rdAt b o) = r14_flow (b.drop o) := by
  have hd : ∀ x ∈ b.drop o, byteIn x := fun x hx => hb x (List.mem_of_mem_drop hx)
  have hy : advs [4, 4, 4, 2, 2, 4, 4, 4, 4, 2, 2, 1] (rdAt b o) = rdAt b (o + 37) := advs_at [4, 4, 4, 2, 2, 4, 4, 4, 4, 2, 2, 1] o (by show o + 37 ≤ _; omega)
  have a0 : rAt [] (rdAt b o) 4 = be b (o + 0) 4 := rAt_at hb [] (o := o) (c := 4) (by simp [sumN]; omega) (by omega)
  have a1 : rAt [4] (rdAt b o) 4 = be b (o + 4) 4 := rAt_at hb [4] (o := o) (c := 4) (by simp [sumN]; omega) (by omega)
  have a2 : rAt [4, 4] (rdAt b o) 4 = be b (o + 8) 4 := rAt_at hb [4, 4] (o := o) (c := 4) (by simp [sumN]; omega) (by omega)
  have a3 : rAt [4, 4, 4] (rdAt b o) 2 = be b (o + 12) 2 := rAt_at hb [4, 4, 4] (o := o) (c := 2) (by simp [sumN]; omega) (by omega)
  have a4 : rAt [4, 4, 4, 2] (rdAt b o) 2 = be b (o + 14) 2 := rAt_at hb [4, 4, 4, 2] (o := o) (c := 2) (by simp [sumN]; omega) (by omega)
  have a5 : rAt [4, 4, 4, 2, 2] (rdAt b o) 4 = be b (o + 16) 4 := rAt_at hb [4, 4, 4, 2, 2] (o := o) (c := 4) (by simp [sumN]; omega) (by omega)
  have a6 : rAt [4, 4, 4, 2, 2, 4] (rdAt b o) 4 = be b (o + 20) 4 := rAt_at hb [4, 4, 4, 2, 2, 4] (o := o) (c := 4) (by simp [sumN]; omega) (by omega)
  have a7 : rAt [4, 4, 4, 2, 2, 4, 4] (rdAt b o) 4 = be b (o + 24) 4 := rAt_at hb [4, 4, 4, 2, 2, 4, 4] (o := o) (c := 4) (by simp [sumN]; omega) (by omega)
  have a8 : rAt [4, 4, 4, 2, 2, 4, 4, 4] (rdAt b o) 4 = be b (o + 28) 4 := rAt_at hb [4, 4, 4, 2, 2, 4, 4, 4] (o := o) (c := 4) (by simp [sumN]; omega) (by omega)
  have a9 : rAt [4, 4, 4, 2, 2, 4, 4, 4, 4] (rdAt b o) 2 = be b (o + 32) 2 := rAt_at hb [4, 4, 4, 2, 2, 4, 4, 4, 4] (o := o) (c := 2) (by simp [sumN]; omega) (by omega)
  have a10 : rAt [4, 4, 4, 2, 2, 4, 4, 4, 4, 2] (rdAt b o) 2 = be b (o + 34) 2 := rAt_at hb [4, 4, 4, 2, 2, 4, 4, 4, 4, 2] (o := o) (c := 2) (by simp [sumN]; omega) (by omega)
  have c0 : rAt [] (rdAt b (o + 37)) 1 = be b (o + 37 + 0) 1 := rAt_at hb [] (o := o + 37) (c := 1) (by simp [sumN]; omega) (by omega)
  have c1 : rAt [1] (rdAt b (o + 37)) 1 = be b (o + 37 + 1) 1 := rAt_at hb [1] (o := o + 37) (c := 1) (by simp [sumN]; omega) (by omega)
  have c2 : rAt [1, 1] (rdAt b (o + 37)) 1 = be b (o + 37 + 2) 1 := rAt_at hb [1, 1] (o := o + 37) (c := 1) (by simp [sumN]; omega) (by omega)
  have c3 : rAt [1, 1, 1] (rdAt b (o + 37)) 2 = be b (o + 37 + 3) 2 := rAt_at hb [1, 1, 1] (o := o + 37) (c := 2) (by simp [sumN]; omega) (by omega)
  have c4 : rAt [1, 1, 1, 2] (rdAt b (o + 37)) 2 = be b (o + 37 + 5) 2 := rAt_at hb [1, 1, 1, 2] (o := o + 37) (c := 2) (by simp [sumN]; omega) (by omega)
  have c5 : rAt [1, 1, 1, 2, 2] (rdAt b (o + 37)) 1 = be b (o + 37 + 7) 1 := rAt_at hb [1, 1, 1, 2, 2] (o := o + 37) (c := 1) (by simp [sumN]; omega) (by omega)
  have c6 : rAt [1, 1, 1, 2, 2, 1] (rdAt b (o + 37)) 1 = be b (o + 37 + 8) 1 := rAt_at hb [1, 1, 1, 2, 2, 1] (o := o + 37) (c := 1) (by simp [sumN]; omega) (by omega)
  unfold rFlow r14_flow
  simp only [hy]
  rw [a0, a1, a2, a3, a4, a5, a6, a7, a8, a9, a10, c0, c1, c2, c3, c4, c5, c6]
  rw [show r14_At (b.drop o) 0 4 = be b (o + 0) 4 from (r14_At_be hd 0 4 (by omega)).trans (be_drop b o 0 4), show r14_At (b.drop o) 4 4 = be b (o + 4) 4 from (r14_At_be hd 4 4 (by omega)).trans (be_drop b o 4 4), show r14_At (b.drop o) 8 4 = be b (o + 8) 4 from (r14_At_be hd 8 4 (by omega)).trans (be_drop b o 8 4), show r14_At (b.drop o) 12 2 = be b (o + 12) 2 from (r14_At_be hd 12 2 (by omega)).trans (be_drop b o 12 2), show r14_At (b.drop o) 14 2 = be b (o + 14) 2 from (r14_At_be hd 14 2 (by omega)).trans (be_drop b o 14 2), show r14_At (b.drop o) 16 4 = be b (o + 16) 4 from (r14_At_be hd 16 4 (by omega)).trans (be_drop b o 16 4), show r14_At (b.drop o) 20 4 = be b (o + 20) 4 from (r14_At_be hd 20 4 (by omega)).trans (be_drop b o 20 4), show r14_At (b.drop o) 24 4 = be b (o + 24) 4 from (r14_At_be hd 24 4 (by omega)).trans (be_drop b o 24 4), show r14_At (b.drop o) 28 4 = be b (o + 28) 4 from (r14_At_be hd 28 4 (by omega)).trans (be_drop b o 28 4), show r14_At (b.drop o) 32 2 = be b (o + 32) 2 from (r14_At_be hd 32 2 (by omega)).trans (be_drop b o 32 2), show r14_At (b.drop o) 34 2 = be b (o + 34) 2 from (r14_At_be hd 34 2 (by omega)).trans (be_drop b o 34 2), show r14_At (b.drop o) 40 2 = be b (o + 40) 2 from (r14_At_be hd 40 2 (by omega)).trans (be_drop b o 40 2), show r14_At (b.drop o) 42 2 = be b (o + 42) 2 from (r14_At_be hd 42 2 (by omega)).trans (be_drop b o 42 2)]
  simp only [be4 hb, be2 hb, be1 hb, List.getD_eq_getElem?_getD, List.getElem?_drop, Nat.add_assoc, Nat.reduceAdd]
end Go.Cb
