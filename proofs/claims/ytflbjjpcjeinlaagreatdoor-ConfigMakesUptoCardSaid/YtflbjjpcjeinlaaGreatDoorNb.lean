/- Numbers as texts: what each function gives. -/
import Derived.Test.YtflbjjpcjeinlaaGreatDoorNa
namespace Go.Cb
open Go.Ev
theorem wide_Left1 {x : Int} (h0 : 0 ≤ x) (h1 : x < 9223372036854775808) : wide_Left ⟨0, x⟩ 1 = ⟨0, 2 * x⟩ := by
  have e : wide_Left ⟨0, x⟩ 1 = ⟨w64 (BitVec.ofInt 64 (shl64 0 1) ||| BitVec.ofInt 64 (shr64 x (i64 (64 - 1)))).toNat, shl64 x 1⟩ := by
    unfold wide_Left wide_LeftC
    simp only [show decide ((1 : Int) < 1) = false by decide, show decide ((1 : Int) ≥ 128) = false by decide, show decide ((1 : Int) ≥ 64) = false by decide, show decide ((0 : Int) ≤ 1) = true by decide, show decide (0 ≤ i64 (64 - 1)) = true by decide, cond_false, cond_true, id]
  have e1 : i64 (64 - 1) = 63 := by decide
  have e2 : shr64 x 63 = 0 := by
    unfold shr64
    rw [show min (63 : Int).toNat 64 = 63 by decide, Int.fdiv_eq_ediv_of_nonneg _ (by decide)]
    omega
  have e3 : shl64 x 1 = 2 * x := by
    unfold shl64
    rw [show min (1 : Int).toNat 64 = 1 by decide, w64_of' (by omega) (by omega)]
    omega
  rw [e, e1, e2, e3]
  rfl
/-- Bytes as a text. -/
def txtL (l : List Int) : ByteArray := strU8 l.length (getE (sNum .u8) 0 l)
/-- Digits, the last one first. -/
def decR : Nat → Nat → List Int
  | 0, _ => []
  | k + 1, n => (48 + n % 10 : Int) :: (if n / 10 = 0 then [] else decR k (n / 10))
def digs (n : Nat) : List Int := (decR 20 n).reverse
def printN (n : Nat) : ByteArray := txtL (digs n)
/-- The value of digits. -/
def valL (l : List UInt8) : Nat := l.foldl (fun n c => 10 * n + (c.toNat - 48)) 0
def digB (c : Int) : Bool := !decide (c < 48) && !decide (c > 57)
def allDig (s : ByteArray) : Nat → Nat → Bool
  | 0, _ => true
  | n + 1, i => digB (byteAt s i) && allDig s n (i + 1)
def isTextB (s : ByteArray) : Bool := allDig s s.size 0 && (bif (s.size : Int) == 1 then true else bif decide ((s.size : Int) > 1) then byteAt s 0 != 48 else false)
theorem valL_snoc (l : List UInt8) (c : UInt8) : valL (l ++ [c]) = 10 * valL l + (c.toNat - 48) := by simp [valL]
theorem fold_ge (l : List UInt8) : ∀ n : Nat, n ≤ l.foldl (fun n c => 10 * n + (c.toNat - 48)) n := by
  induction l with
  | nil => intro n; exact Nat.le_refl _
  | cons c l ih => intro n; have := ih (10 * n + (c.toNat - 48)); simp only [List.foldl_cons]; omega
theorem valL_take (l : List UInt8) (i : Nat) : valL (l.take i) ≤ valL l := by
  have e : valL l = (l.drop i).foldl (fun n c => 10 * n + (c.toNat - 48)) (valL (l.take i)) := by
    unfold valL
    rw [← List.foldl_append, List.take_append_drop]
  rw [e]; exact fold_ge _ _
theorem allDig_at {s : ByteArray} : ∀ (n i j : Nat), allDig s n i = true → i ≤ j → j < i + n → digB (byteAt s j) = true
  | 0, i, j, _, h1, h2 => by omega
  | n + 1, i, j, h, h1, h2 => by
    simp only [allDig, Bool.and_eq_true] at h
    by_cases e : j = i
    · subst e; exact h.1
    · exact allDig_at n (i + 1) j h.2 (by omega) (by omega)
def wval (s : ByteArray) : Nat := valL s.data.toList
def pwE (s : ByteArray) : Int := bif isTextB s then (bif decide ((wval s : Int) < m128) then 0 else 11) else 3
def pwV (s : ByteArray) : Wd := bif isTextB s then (bif decide ((wval s : Int) < m128) then wOf (wval s) else ⟨0, 0⟩) else ⟨0, 0⟩
/-- What a number's text gives: a fault, and the number. -/
def parE (s : ByteArray) (most : Int) : Int := bif isTextB s then (bif decide ((wval s : Int) ≤ most) then 0 else 11) else 3
def parV (s : ByteArray) (most : Int) : Int := bif isTextB s then (bif decide ((wval s : Int) ≤ most) then wval s else 0) else 0
theorem u8_lt (c : UInt8) : (c.toNat : Int) ≤ 255 := by have := c.toNat_lt; omega
theorem cmpW_gt {v m : Int} (h0 : 0 ≤ v) (h1 : v < m128) (h2 : 0 ≤ m) (h3 : m < 18446744073709551616) : decide (cmpW (wOf v) (wide_Of m) > 0) = decide (m < v) := by
  unfold cmpW cmp64 wOf wide_Of m128 at *
  simp only [Bool.cond_eq_ite, decide_eq_true_eq, bne_iff_ne]
  rw [decide_eq_decide]
  by_cases a1 : v / 18446744073709551616 < 0
  · omega
  · by_cases a2 : v / 18446744073709551616 > 0
    · simp [a1, a2]; omega
    · by_cases b1 : v % 18446744073709551616 < m
      · simp [a1, a2, b1]; omega
      · by_cases b2 : v % 18446744073709551616 > m
        · simp [a1, a2, b1, b2]; omega
        · simp [a1, a2, b1, b2]; omega
end Go.Cb
namespace Go.Proofs.YtflbjjpcjeinlaaGreatDoor
open Go.Ev Go.Cb
/-! A text of digits? -/
abbrev stIt (s : ByteArray) (i : Int) : S := { t := stT 33 0 [(0, T s), (2, B false), (5, I s.size), (6, I i)], m := [], k := 3145761 }
theorem st_It (F : Nat) (s : ByteArray) (H : Nat → List Nat → S → Option D) : evalH (envOf []) tb F Tryz.f107 0 H (Go.Ev.start Tryz.f107 [T s]) (endK tb Tryz.f107) = H 3145728 [] (stIt s 0) := by kernel_rfl
theorem rnd_It (F : Nat) (s : ByteArray) (i : Int) (R : S → Option D) : rndE (envOf []) tb F Tryz.f107 0 (endK tb Tryz.f107) 3145728 [] R (stIt s i) =
    bif decide (i < s.size) then (bif bnd i s.size then (bif decide (byteAt s i.toNat < 48) then some (B false) else bif bnd i s.size then (bif decide (byteAt s i.toNat > 57) then some (B false) else R (stIt s (i64 (i + 1)))) else none) else none)
    else bif (s.size : Int) == 1 then some (B true) else bif decide ((s.size : Int) > 1) then (bif bnd 0 s.size then some (B (byteAt s 0 != 48)) else none) else some (B false) := by kernel_rfl
theorem lp_It (F : Nat) (s : ByteArray) (hs : s.size ≤ 4294967280) : ∀ (r i N : Nat), s.size = i + r → r < N →
    lpE (envOf []) tb F Tryz.f107 0 (endK tb Tryz.f107) N 3145728 [] (stIt s i) = some (B (allDig s r i && (bif (s.size : Int) == 1 then true else bif decide ((s.size : Int) > 1) then byteAt s 0 != 48 else false)))
  | 0, i, N + 1, e, _ => by
    rw [lpE_succ, rnd_It, show decide ((i : Int) < (s.size : Int)) = false by simp; omega]
    simp only [cond_false, allDig, Bool.true_and]
    cases h1 : (s.size : Int) == 1 with
    | true => rfl
    | false => cases h2 : decide ((s.size : Int) > 1) with
      | true =>
        rw [show bnd 0 s.size = true by simp [bnd]; simp at h2; omega]
        rfl
      | false => rfl
  | r + 1, i, N + 1, e, h2 => by
    have ih := lp_It F s hs r (i + 1) N (by omega) (by omega)
    rw [lpE_succ, rnd_It, show decide ((i : Int) < (s.size : Int)) = true by simp; omega, bnd_nat, show decide (i < s.size) = true by simp; omega, Int.toNat_natCast, i64_succ (show i + 1 < 9223372036854775808 by omega), ih]
    simp only [cond_true, allDig, digB]
    cases decide (byteAt s i < 48) <;> cases decide (byteAt s i > 57) <;> simp
abbrev e_isText : Fe := fn1 cT fun s => B (isTextB s)
theorem ok_isText : En 107 e_isText :=
  entry1 (callable Tryz.func107 (by kernel_rfl)) fun s => .str 0 rfl fun hs => sp .nil Tryz.func107 (s.size + 1)
    ((evalF_cut (fn := Tryz.f107) 0 rfl).trans ((st_It _ s _).trans (lp_It _ s hs s.size 0 (s.size + 1) (by omega) (by omega))))
/-! Ten times a number, and a digit. -/
abbrev wT : Nat := 151
abbrev l_more : Ens := [(89, e_wide_Of), (127, e_wAdd)]
abbrev stMo (a s : Wd) (d : Int) (o : Bool) (i : Int) : S :=
  { t := stT 40 0 [(1, NumD .u8 d), (2, .loc 2097152 0), (4, .loc 2097280 0), (5, B false), (6, .loc 4194432 0), (7, B o), (13, I i)]
    m := [(4194432, .cells (sWd.enc s) wT), (2097280, .cells [U 0, U 0] wT), (2097152, .cells (sWd.enc a) wT)], k := 4194350 }
theorem st_Mo (F : Nat) (a : Wd) (d : Int) (H : Nat → List Nat → S → Option D) : evalH (envOf l_more) tb F Tryz.f108 0 H (Go.Ev.start Tryz.f108 [cWd.enc a, NumD .u8 d]) (endK tb Tryz.f108) =
    H 4194304 [4194432, 2097280, 2097152] (stMo a ⟨0, 0⟩ d false 0) := by kernel_rfl
theorem rnd_Mo (F : Nat) (a s : Wd) (d : Int) (o : Bool) (i : Int) (R : S → Option D) : rndE (envOf l_more) tb F Tryz.f108 0 (endK tb Tryz.f108) 4194304 [4194432, 2097280, 2097152] R (stMo a s d o i) =
    bif decide (i < 10) then (bif okW s && okW a then (bif o then R (stMo a (addW s a) d true (i64 (i + 1))) else R (stMo a (addW s a) d (addO s a) (i64 (i + 1)))) else none)
    else bif okW s && okW (wide_Of (w64 d)) then (bif o then some (.tup [cWd.enc (addW s (wide_Of (w64 d))), B true]) else some (.tup [cWd.enc (addW s (wide_Of (w64 d))), B (addO s (wide_Of (w64 d)))])) else none := by kernel_rfl
theorem lp_Mo (F : Nat) (a : Wd) (d : Int) (ha : okW a = true) (hd0 : 0 ≤ d) (hd : d ≤ 255) : ∀ (r i N : Nat), 10 = i + r → r < N →
    lpE (envOf l_more) tb F Tryz.f108 0 (endK tb Tryz.f108) N 4194304 [4194432, 2097280, 2097152] (stMo a (wOf ((i * wv a) % m128)) d (decide (m128 ≤ i * wv a)) i) =
      some (.tup [cWd.enc (wOf ((10 * wv a + d) % m128)), B (decide (m128 ≤ 10 * wv a + d))])
  | 0, i, N + 1, e, _ => by
    obtain ⟨v0, v1⟩ := wv_in ha
    have hi : (i : Int) = 10 := by omega
    have hw : okW (wide_Of (w64 d)) = true := by
      rw [w64_of' hd0 (by omega)]
      simp only [okW, wide_Of, Bool.and_eq_true]
      exact ⟨decide_eq_true (by omega), decide_eq_true (by omega), decide_eq_true (by omega), decide_eq_true (by omega)⟩
    have hm : okW (wOf ((10 * wv a) % m128)) = true := okW_wOf (by unfold m128; omega) (by unfold m128; omega)
    have hwv : wv (wide_Of (w64 d)) = d := by rw [w64_of' hd0 (by omega)]; simp [wv, wide_Of]
    rw [lpE_succ, rnd_Mo, hi, show decide ((10 : Int) < 10) = false by decide, hm, hw]
    simp only [cond_false, Bool.and_self, cond_true, addW, addO, wv_wOf, hwv]
    rw [show ((10 * wv a) % m128 + d) % m128 = (10 * wv a + d) % m128 by unfold m128; omega]
    cases h1 : decide (m128 ≤ 10 * wv a) with
    | true =>
      have := of_decide_eq_true h1
      rw [show decide (m128 ≤ 10 * wv a + d) = true from decide_eq_true (by omega)]
      rfl
    | false =>
      have h2 := of_decide_eq_false h1
      rw [show (10 * wv a) % m128 = 10 * wv a by unfold m128 at *; omega]
      rfl
  | r + 1, i, N + 1, e, h2 => by
    obtain ⟨v0, v1⟩ := wv_in ha
    have ih := lp_Mo F a d ha hd0 hd r (i + 1) N (by omega) (by omega)
    have hm : okW (wOf ((i * wv a) % m128)) = true := okW_wOf (by unfold m128; omega) (by unfold m128; omega)
    have hmul : ((i + 1 : Nat) : Int) * wv a = i * wv a + wv a := by rw [Int.natCast_add, Int.add_mul]; simp
    rw [hmul] at ih
    rw [lpE_succ, rnd_Mo, show decide ((i : Int) < 10) = true by simp; omega, hm, ha, i64_succ (show i + 1 < 9223372036854775808 by omega)]
    simp only [Bool.and_self, cond_true, addW, addO, wv_wOf]
    have hnn : (0 : Int) ≤ i * wv a := Int.mul_nonneg (by omega) v0
    rw [show ((i * wv a) % m128 + wv a) % m128 = (i * wv a + wv a) % m128 by unfold m128; omega]
    cases h1 : decide (m128 ≤ i * wv a) with
    | true =>
      have := of_decide_eq_true h1
      rw [show decide (m128 ≤ i * wv a + wv a) = true from decide_eq_true (by omega)] at ih
      exact ih
    | false =>
      have h2 := of_decide_eq_false h1
      rw [show (i * wv a) % m128 = i * wv a by unfold m128 at *; omega]
      exact ih
abbrev e_more : Fe := fn2C cWd (cNum .u8) (fun a d => okW a && (decide (0 ≤ d) && decide (d ≤ 255))) fun a d => .tup [cWd.enc (wOf ((10 * wv a + d) % m128)), B (decide (m128 ≤ 10 * wv a + d))]
theorem ok_more : En 108 e_more :=
  entry2C (callable Tryz.func108 (by kernel_rfl)) fun a d h => by
    simp only [Bool.and_eq_true, decide_eq_true_eq] at h
    refine sp (.cons ok_wide_Of (.cons ok_wAdd .nil)) Tryz.func108 11 ((evalF_cut (fn := Tryz.f108) 0 rfl).trans ((st_Mo _ a d _).trans ?_))
    have := lp_Mo 11 a d h.1 h.2.1 h.2.2 10 0 11 (by omega) (by omega)
    rw [show ((0 : Nat) : Int) * wv a = 0 by simp] at this
    exact this
/-! The number of a text. -/
abbrev l_PW : Ens := [(107, e_isText), (108, e_more)]
abbrev stPw (s : ByteArray) (a : Wd) (i : Int) : S :=
  { t := stT 32 0 [(2, .loc 2097152 0), (3, I 0), (4, .loc 8388608 0), (14, .sl 1 s.size (fun i => [.v (.int .u8 (s.data.toList.getD i 0).toNat)]) .none), (15, I s.size), (16, I i)]
    m := [(8388608, .cells (sWd.enc a) wT), (2097152, .cells [U 0, U 0] wT)], k := 6291492 }
abbrev pwD (a : Wd) (e : Int) : D := .tup [cWd.enc a, I e]
theorem st_Pw (F : Nat) (s : ByteArray) (H : Nat → List Nat → S → Option D) : evalH (envOf l_PW) tb F Tryz.f87 0 H (Go.Ev.start Tryz.f87 [T s]) (endK tb Tryz.f87) =
    bif !isTextB s then some (pwD ⟨0, 0⟩ 3) else H 6291456 [8388608, 2097152] (stPw s ⟨0, 0⟩ 0) := by kernel_rfl
theorem rnd_Pw (F : Nat) (s : ByteArray) (a : Wd) (i : Int) (R : S → Option D) : rndE (envOf l_PW) tb F Tryz.f87 0 (endK tb Tryz.f87) 6291456 [8388608, 2097152] R (stPw s a i) =
    let d := w8 (byteAt s i.toNat - 48)
    bif decide (i < s.size) then (bif bnd i s.size then (bif okW a && (decide (0 ≤ d) && decide (d ≤ 255)) then
      (bif decide (m128 ≤ 10 * wv a + d) then some (pwD ⟨0, 0⟩ 11) else R (stPw s (wOf ((10 * wv a + d) % m128)) (i64 (i + 1)))) else none) else none)
    else some (pwD a 0) := by kernel_rfl
theorem lp_Pw (F : Nat) (s : ByteArray) (hs : s.size ≤ 4294967280) (ht : allDig s s.size 0 = true) : ∀ (r i N : Nat), s.size = i + r → r < N → (valL (s.data.toList.take i) : Int) < m128 →
    lpE (envOf l_PW) tb F Tryz.f87 0 (endK tb Tryz.f87) N 6291456 [8388608, 2097152] (stPw s (wOf (valL (s.data.toList.take i))) i) =
      some (bif decide ((wval s : Int) < m128) then pwD (wOf (wval s)) 0 else pwD ⟨0, 0⟩ 11) := by
  intro r
  induction r with
  | zero =>
    intro i N e hN hv
    obtain ⟨N, rfl⟩ : ∃ k, N = k + 1 := ⟨N - 1, by omega⟩
    have hl : s.data.toList.take i = s.data.toList := List.take_of_length_le (by rw [Array.length_toList]; show s.size ≤ i; omega)
    rw [lpE_succ, rnd_Pw]
    rw [hl] at hv ⊢
    simp only [show decide ((i : Int) < (s.size : Int)) = false by simp; omega, cond_false]
    rw [show decide ((wval s : Int) < m128) = true from decide_eq_true hv, cond_true]
    rfl
  | succ r ihr =>
    intro i N e hN hv
    obtain ⟨N, rfl⟩ : ∃ k, N = k + 1 := ⟨N - 1, by omega⟩
    have hlt : i < s.data.toList.length := by rw [Array.length_toList]; show i < s.size; omega
    have hb : byteAt s i = (s.data.toList[i].toNat : Int) := by unfold byteAt; rw [List.getD_eq_getElem?_getD, List.getElem?_eq_getElem hlt]; rfl
    have hd := allDig_at s.size 0 i ht (by omega) (by omega)
    have hdd : 48 ≤ byteAt s i ∧ byteAt s i ≤ 57 := by
      simp only [digB, Bool.and_eq_true, Bool.not_eq_true', decide_eq_false_iff_not] at hd
      omega
    have hw : w8 (byteAt s i - 48) = byteAt s i - 48 := w8_of (by omega) (by omega)
    have hval : (valL (s.data.toList.take (i + 1)) : Int) = 10 * (valL (s.data.toList.take i) : Int) + (byteAt s i - 48) := by
      rw [List.take_succ_eq_append_getElem hlt, valL_snoc, hb]
      omega
    rw [lpE_succ, rnd_Pw]
    simp only [show decide ((i : Int) < (s.size : Int)) = true by simp; omega, bnd_nat, show decide (i < s.size) = true by simp; omega, Int.toNat_natCast, cond_true, hw, okW_wOf (Int.natCast_nonneg _) hv, wv_wOf, Bool.true_and,
      show decide (0 ≤ byteAt s i - 48) = true by simp; omega, show decide (byteAt s i - 48 ≤ 255) = true by simp; omega, i64_succ (show i + 1 < 9223372036854775808 by omega)]
    rw [← hval]
    cases h1 : decide (m128 ≤ (valL (s.data.toList.take (i + 1)) : Int)) with
    | true =>
      have h1 := of_decide_eq_true h1
      have := valL_take s.data.toList (i + 1)
      rw [show decide ((wval s : Int) < m128) = false from decide_eq_false (by unfold wval; omega), cond_true, cond_false]
    | false =>
      have h1 := of_decide_eq_false h1
      have h3 : (valL (s.data.toList.take (i + 1)) : Int) < m128 := by omega
      have ih := ihr (i + 1) N (by omega) (by omega) h3
      rw [Int.emod_eq_of_lt (Int.natCast_nonneg _) h3, cond_false]
      exact ih
abbrev e_ParseWide : Fe := fn1 cT fun s => pwD (pwV s) (pwE s)
theorem pw_no {s : ByteArray} (h : isTextB s = false) : pwE s = 3 ∧ pwV s = ⟨0, 0⟩ := by
  unfold pwE pwV; rw [h]; exact ⟨rfl, rfl⟩
theorem pw_in {s : ByteArray} (h : isTextB s = true) (h1 : (wval s : Int) < m128) : pwE s = 0 ∧ pwV s = wOf (wval s) := by
  unfold pwE pwV; rw [h, decide_eq_true h1]; exact ⟨rfl, cond_true _ _ ▸ cond_true _ _⟩
theorem pw_out {s : ByteArray} (h : isTextB s = true) (h1 : ¬ (wval s : Int) < m128) : pwE s = 11 ∧ pwV s = ⟨0, 0⟩ := by
  unfold pwE pwV; rw [h, decide_eq_false h1]; exact ⟨rfl, cond_true _ _ ▸ cond_false _ _⟩
theorem ok_ParseWide : En 87 e_ParseWide :=
  entry1 (callable Tryz.func87 (by kernel_rfl)) fun s => .str 0 rfl fun hs => sp (.cons ok_isText (.cons ok_more .nil)) Tryz.func87 (s.size + 1)
    ((evalF_cut (fn := Tryz.f87) 0 rfl).trans ((st_Pw _ s _).trans (by
      cases h : isTextB s with
      | false => rw [(pw_no h).1, (pw_no h).2, Bool.not_false, cond_true]
      | true =>
        have ht : allDig s s.size 0 = true := by unfold isTextB at h; rw [Bool.and_eq_true] at h; exact h.1
        have z : (⟨0, 0⟩ : Wd) = wOf (valL (s.data.toList.take 0)) := by
          rw [List.take_zero]
          show _ = (⟨((0 : Nat) : Int) / 18446744073709551616, ((0 : Nat) : Int) % 18446744073709551616⟩ : Wd)
          rfl
        have z2 : stPw s ⟨0, 0⟩ 0 = stPw s (wOf (valL (s.data.toList.take 0))) 0 := congrArg (fun a => stPw s a 0) z
        have run := lp_Pw (s.size + 1) s hs ht s.size 0 (s.size + 1) (by omega) (by omega) (by rw [List.take_zero]; show ((0 : Nat) : Int) < m128; unfold m128; omega)
        rw [Bool.not_true, cond_false, z2]
        refine run.trans ?_
        by_cases h1 : (wval s : Int) < m128
        · rw [(pw_in h h1).1, (pw_in h h1).2, decide_eq_true h1, cond_true]
        · rw [(pw_out h h1).1, (pw_out h h1).2, decide_eq_false h1, cond_false])))
abbrev l_Parse : Ens := [(87, e_ParseWide), (89, e_wide_Of), (88, e_wCmp)]
abbrev parD (v e : Int) : D := .tup [U v, I e]
abbrev e_nParse : Fe := fn2C cT cU (fun _ m => decide (0 ≤ m) && decide (m < 18446744073709551616)) fun s m => parD (parV s m) (parE s m)
theorem ev_nParse (s : ByteArray) (m : Int) : evalF (envOf l_Parse) tb 3 Tryz.f62 [T s, U m] =
    bif pwE s != 0 then some (parD 0 (pwE s)) else bif decide (cmpW (pwV s) (wide_Of m) > 0) then some (parD 0 11) else some (parD (pwV s).lo 0) := by kernel_rfl
theorem par_law (s : ByteArray) (m : Int) (h0 : 0 ≤ m) (h3 : m < 18446744073709551616) :
    (bif pwE s != 0 then some (parD 0 (pwE s)) else bif decide (cmpW (pwV s) (wide_Of m) > 0) then some (parD 0 11) else some (parD (pwV s).lo 0)) = some (parD (parV s m) (parE s m)) := by
  have z0 : ((0 : Int) != 0) = false := by decide
  have z1 : ((11 : Int) != 0) = true := by decide
  have z3 : ((3 : Int) != 0) = true := by decide
  cases h : isTextB s with
  | false =>
    obtain ⟨e1, e2⟩ := pw_no h
    have p : parV s m = 0 ∧ parE s m = 3 := by unfold parV parE; rw [h]; exact ⟨rfl, rfl⟩
    rw [e1, p.1, p.2, z3, cond_true]
  | true =>
    by_cases h1 : (wval s : Int) < m128
    · obtain ⟨e1, e2⟩ := pw_in h h1
      have c := cmpW_gt (Int.natCast_nonneg (wval s)) h1 h0 h3
      have l2 : (wOf (wval s)).lo = (wval s : Int) % 18446744073709551616 := by simp only [wOf]
      rw [e1, e2, z0, cond_false, c]
      by_cases h2 : (wval s : Int) ≤ m
      · have p : parV s m = wval s ∧ parE s m = 0 := by unfold parV parE; rw [h, decide_eq_true h2]; exact ⟨rfl, rfl⟩
        rw [p.1, p.2, decide_eq_false (show ¬ m < (wval s : Int) by omega), cond_false, l2, Int.emod_eq_of_lt (Int.natCast_nonneg _) (by omega)]
      · have p : parV s m = 0 ∧ parE s m = 11 := by unfold parV parE; rw [h, decide_eq_false h2]; exact ⟨rfl, rfl⟩
        rw [p.1, p.2, decide_eq_true (show m < (wval s : Int) by omega), cond_true]
    · obtain ⟨e1, e2⟩ := pw_out h h1
      have p : parV s m = 0 ∧ parE s m = 11 := by unfold parV parE; rw [h, decide_eq_false (show ¬ (wval s : Int) ≤ m by unfold m128 at h1; omega)]; exact ⟨rfl, rfl⟩
      rw [e1, p.1, p.2, z1, cond_true]
theorem ok_nParse : En 62 e_nParse :=
  entry2C (callable Tryz.func62 (by kernel_rfl)) fun s m h => sp (.cons ok_ParseWide (.cons ok_wide_Of (.cons ok_wCmp .nil))) Tryz.func62 3 ((ev_nParse s m).trans (by
    simp only [Bool.and_eq_true, decide_eq_true_eq] at h
    exact par_law s m h.1 h.2))
end Go.Proofs.YtflbjjpcjeinlaaGreatDoor
