/- The reference's numbers of 128 bits, bit by bit. The reference's numbers of 128 bits: what each function gives. The reference's numbers as texts: what each function gives. The reference's doubling of digits: walked by hand, as it writes into a text's bytes. The reference's cutting of texts, places of words, printing of numbers: what each function gives. -/
import Derived.Test.YtflbjjpcjeinlaaGreatDoorNb
import Derived.WalkKit
import Derived.Lib.Hide
import Derived.Lib.ConvBytes
import Derived.Lib.SmallJoins
namespace Go.Cb
open Go.Ev
/-! An array of 128 numbers. -/
def isU64D : D → Bool
  | .v (.int k _) => ikEq k .u64
  | _ => false
def u64D : D → Int
  | .v (.int _ n) => n
  | _ => 0
def lsA (f : Nat → Int) : List D := (List.range 128).map fun i => U (f i)
def encA (f : Nat → Int) : D := .agg (lsA f)
def gA (l : List D) (i : Nat) : Int := u64D (l.getD i (U 0))
def decA : D → Option (Bool × (Nat → Int))
  | .agg l => some (Nat.beq l.length 128 && l.all isU64D, gA l)
  | _ => none
theorem gA_ls (f : Nat → Int) {i : Nat} (h : i < 128) : gA (lsA f) i = f i := by simp [gA, lsA, h, u64D]
theorem isU64D_eq {x : D} (h : isU64D x = true) : x = U (u64D x) := by
  unfold isU64D at h
  split at h
  · rw [ikEq_eq h]; rfl
  · cases h
theorem decA_ok {x : D} {f : Nat → Int} (h : decA x = some (true, f)) : x = encA f := by
  unfold decA at h
  split at h
  · rename_i l
    simp only [Option.some.injEq, Prod.mk.injEq, Bool.and_eq_true, List.all_eq_true] at h
    obtain ⟨⟨h1, h2⟩, rfl⟩ := h
    have h1 := Nat.eq_of_beq_eq_true h1
    unfold encA lsA
    congr 1
    apply List.ext_getElem
    · simp [h1]
    · intro i hi _
      simp only [List.getElem_map, List.getElem_range, gA]
      rw [show l.getD i (U 0) = l[i] by simp [hi]]
      exact isU64D_eq (h2 _ (List.getElem_mem hi))
  · cases h
def cA : Cd (Nat → Int) where
  enc := encA
  dec := decA
  ok := by
    intro x f h K w r hr
    rw [← decA_ok h]
    exact hr
/-! Bits, from below: plain numbers. -/
def upN (h : Nat → Nat) : Nat → Nat
  | 0 => 0
  | n + 1 => upN h n + 2 ^ n * h n
def ofN (f : Nat → Nat) : Nat → Nat
  | 0 => 0
  | n + 1 => 2 * ofN f n + f n
def crN (h g : Nat → Nat) : Nat → Nat
  | 0 => 0
  | n + 1 => (h n + g n + crN h g n) / 2
theorem upN_congr {h g : Nat → Nat} : ∀ n, (∀ j, j < n → h j = g j) → upN h n = upN g n
  | 0, _ => rfl
  | n + 1, e => by rw [upN, upN, upN_congr n fun j hj => e j (by omega), e n (by omega)]
theorem upN_shift (h : Nat → Nat) : ∀ n, upN h (n + 1) = h 0 + 2 * upN (fun j => h (j + 1)) n
  | 0 => by simp [upN]
  | n + 1 => by
    rw [upN, upN_shift h n, upN, Nat.pow_succ, Nat.mul_add, ← Nat.mul_assoc, Nat.mul_comm 2 (2 ^ n)]
    omega
theorem ofN_up (f : Nat → Nat) : ∀ n, ofN f n = upN (fun j => f (n - 1 - j)) n
  | 0 => rfl
  | n + 1 => by
    rw [ofN, ofN_up f n, upN_shift]
    have e : (fun j => f (n + 1 - 1 - (j + 1))) = fun j => f (n - 1 - j) := by
      funext j
      rw [show n + 1 - 1 - (j + 1) = n - 1 - j by omega]
    rw [e]
    simp only [Nat.add_sub_cancel, Nat.sub_zero]
    omega
theorem upN_add (h : Nat → Nat) (m : Nat) : ∀ n, upN h (m + n) = upN h m + 2 ^ m * upN (fun j => h (m + j)) n
  | 0 => by simp [upN]
  | n + 1 => by
    rw [← Nat.add_assoc, upN, upN_add h m n, upN, Nat.pow_add, Nat.mul_add, Nat.mul_assoc, Nat.add_assoc]
theorem upN_lt {h : Nat → Nat} : ∀ n, (∀ j, j < n → h j ≤ 1) → upN h n < 2 ^ n
  | 0, _ => by simp [upN]
  | n + 1, e => by
    have ih := upN_lt n fun j hj => e j (by omega)
    have h1 := e n (by omega)
    have h2 : 2 ^ n * h n ≤ 2 ^ n * 1 := Nat.mul_le_mul_left _ h1
    rw [upN, Nat.pow_succ]
    omega
theorem upN_bits (a : Nat) : ∀ n, upN (fun j => a / 2 ^ j % 2) n = a % 2 ^ n
  | 0 => by simp [upN, Nat.mod_one]
  | n + 1 => by rw [upN, upN_bits a n, Nat.mod_pow_succ]
theorem crN_le {h g : Nat → Nat} (hh : ∀ j, h j ≤ 1) (hg : ∀ j, g j ≤ 1) : ∀ n, crN h g n ≤ 1
  | 0 => by simp [crN]
  | n + 1 => by
    have := crN_le hh hg n; have := hh n; have := hg n
    rw [crN]; omega
theorem crN_sum (h g : Nat → Nat) : ∀ n, upN (fun j => (h j + g j + crN h g j) % 2) n + 2 ^ n * crN h g n = upN h n + upN g n
  | 0 => by simp [upN, crN]
  | n + 1 => by
    have ih := crN_sum h g n
    have hd := Nat.div_add_mod (h n + g n + crN h g n) 2
    have e : 2 ^ n * (h n + g n + crN h g n) = 2 ^ n * (2 * ((h n + g n + crN h g n) / 2)) + 2 ^ n * ((h n + g n + crN h g n) % 2) := by rw [← Nat.mul_add, hd]
    rw [Nat.mul_add, Nat.mul_add, ← Nat.mul_assoc] at e
    rw [upN, crN, upN, upN, Nat.pow_succ]
    omega
/-! The same, as the machine has it. -/
def bitA : Int → Nat → Int
  | x, 0 => x
  | x, n + 1 => w64 ((bitA x n).tdiv 2)
def bitF (a : Wd) (i : Nat) : Int := bif Nat.blt i 64 then (bitA a.hi (63 - i)).tmod 2 else (bitA a.lo (127 - i)).tmod 2
def ofA (f : Nat → Int) : Nat → Int
  | 0 => 0
  | n + 1 => w64 (w64 (2 * ofA f n) + f n)
def ofW (f : Nat → Int) : Wd := ⟨ofA f 64, ofA (fun i => f (64 + i)) 64⟩
def crA (x y : Nat → Int) : Nat → Int
  | 0 => 0
  | n + 1 => w64 ((w64 (w64 (x (127 - n) + y (127 - n)) + crA x y n)).tdiv 2)
def sumF (x y : Nat → Int) (i : Nat) : Int := (w64 (w64 (x i + y i) + crA x y (127 - i))).tmod 2
theorem bitA_eq {x : Nat} (hx : x < 18446744073709551616) : ∀ n, bitA (x : Int) n = ((x / 2 ^ n : Nat) : Int)
  | 0 => by simp [bitA]
  | n + 1 => by
    rw [bitA, bitA_eq hx n, Int.tdiv_eq_ediv_of_nonneg (Int.natCast_nonneg _), show (((x / 2 ^ n : Nat) : Int) / 2) = ((x / 2 ^ n / 2 : Nat) : Int) from rfl, Nat.div_div_eq_div_mul, show 2 ^ n * 2 = 2 ^ (n + 1) from rfl]
    have : x / 2 ^ (n + 1) ≤ x := Nat.div_le_self _ _
    exact w64_of' (Int.natCast_nonneg _) (by omega)
theorem ofA_congr {f g : Nat → Int} : ∀ n, (∀ i, i < n → f i = g i) → ofA f n = ofA g n
  | 0, _ => rfl
  | n + 1, h => by rw [ofA, ofA, ofA_congr n fun i hi => h i (by omega), h n (by omega)]
theorem ofW_ls (f : Nat → Int) : ofW (gA (lsA f)) = ofW f := by
  unfold ofW
  rw [ofA_congr 64 fun i hi => gA_ls f (show i < 128 by omega), ofA_congr 64 fun i hi => gA_ls f (show 64 + i < 128 by omega)]
/-- A number's value. -/
def wN (a : Wd) : Nat := (wv a).toNat
def bN (a : Nat) (j : Nat) : Nat := a / 2 ^ j % 2
theorem bN_le (a j : Nat) : bN a j ≤ 1 := by unfold bN; omega
theorem okW_nat {a : Wd} (h : okW a = true) : ∃ x y : Nat, a = ⟨x, y⟩ ∧ x < 18446744073709551616 ∧ y < 18446744073709551616 ∧ wN a = x * 18446744073709551616 + y := by
  simp only [okW, Bool.and_eq_true, decide_eq_true_eq] at h
  obtain ⟨hi, lo⟩ := a
  simp only at h
  refine ⟨hi.toNat, lo.toNat, ?_, by omega, by omega, ?_⟩
  · rw [Int.toNat_of_nonneg h.1, Int.toNat_of_nonneg h.2.2.1]
  · unfold wN wv; simp only; omega
theorem bitF_eq {a : Wd} (h : okW a = true) {j : Nat} (hj : j < 128) : bitF a (127 - j) = (bN (wN a) j : Int) := by
  obtain ⟨x, y, rfl, hx, hy, hw⟩ := okW_nat h
  rw [hw]
  unfold bitF bN
  by_cases h64 : j < 64
  · rw [show Nat.blt (127 - j) 64 = false by rw [← Bool.not_eq_true, Nat.blt_eq]; omega, cond_false]
    show (bitA (y : Int) (127 - (127 - j))).tmod 2 = _
    rw [show 127 - (127 - j) = j by omega, bitA_eq hy, Int.tmod_eq_emod_of_nonneg (Int.natCast_nonneg _)]
    have e : (18446744073709551616 : Nat) = 2 ^ j * (2 * 2 ^ (63 - j)) := by
      rw [← Nat.pow_succ', ← Nat.pow_add, show j + (63 - j).succ = 64 by omega]
    rw [show x * 18446744073709551616 + y = y + 2 ^ j * (x * (2 * 2 ^ (63 - j))) by rw [e, Nat.add_comm, Nat.mul_left_comm], Nat.add_mul_div_left _ _ (Nat.two_pow_pos j), Nat.mul_left_comm, Nat.add_mul_mod_self_left]
    rfl
  · rw [show Nat.blt (127 - j) 64 = true by rw [Nat.blt_eq]; omega, cond_true]
    show (bitA (x : Int) (63 - (127 - j))).tmod 2 = _
    rw [show 63 - (127 - j) = j - 64 by omega, bitA_eq hx, Int.tmod_eq_emod_of_nonneg (Int.natCast_nonneg _)]
    have e : 2 ^ j = 18446744073709551616 * 2 ^ (j - 64) := by
      rw [show (18446744073709551616 : Nat) = 2 ^ 64 by decide, ← Nat.pow_add, show 64 + (j - 64) = j by omega]
    rw [e, ← Nat.div_div_eq_div_mul, show (x * 18446744073709551616 + y) / 18446744073709551616 = x by omega]
    rfl
/-- Bits as a number. -/
theorem ofA_eq {f : Nat → Int} {g : Nat → Nat} : ∀ n, n ≤ 64 → (∀ i, i < n → f i = (g i : Int)) → (∀ i, i < n → g i ≤ 1) → ofA f n = (ofN g n : Int)
  | 0, _, _, _ => rfl
  | n + 1, hn, e, h1 => by
    have ih := ofA_eq n (by omega) (fun i hi => e i (by omega)) (fun i hi => h1 i (by omega))
    have hlt : ofN g (n + 1) < 2 ^ (n + 1) := by
      rw [ofN_up]
      exact upN_lt _ fun j hj => h1 _ (by omega)
    have hp : 2 ^ (n + 1) ≤ 2 ^ 64 := Nat.pow_le_pow_right (by decide) hn
    have hb : ofN g (n + 1) < 18446744073709551616 := Nat.lt_of_lt_of_le hlt hp
    rw [ofN] at hb ⊢
    rw [ofA, ih, e n (by omega), w64_of' (n := 2 * (ofN g n : Int)) (by omega) (by omega), w64_of' (by omega) (by omega)]
    omega
theorem ofW_eq {f : Nat → Int} {h : Nat → Nat} (e : ∀ j, j < 128 → f (127 - j) = (h j : Int)) (h1 : ∀ j, h j ≤ 1) : ofW f = wOf (upN h 128 : Int) := by
  have e1 : ofA f 64 = (upN (fun j => h (64 + j)) 64 : Int) := by
    rw [ofA_eq (g := fun i => h (127 - i)) 64 (Nat.le_refl _) (fun i hi => by have := e (127 - i) (by omega); rwa [show 127 - (127 - i) = i by omega] at this) (fun i _ => h1 _), ofN_up]
    rw [upN_congr 64 (g := fun j => h (64 + j)) fun j hj => by show h (127 - (64 - 1 - j)) = _; rw [show 127 - (64 - 1 - j) = 64 + j by omega]]
  have e2 : ofA (fun i => f (64 + i)) 64 = (upN h 64 : Int) := by
    rw [ofA_eq (g := fun i => h (63 - i)) 64 (Nat.le_refl _) (fun i hi => by have := e (63 - i) (by omega); rwa [show 127 - (63 - i) = 64 + i by omega] at this) (fun i _ => h1 _), ofN_up]
    rw [upN_congr 64 (g := h) fun j hj => by show h (63 - (64 - 1 - j)) = _; rw [show 63 - (64 - 1 - j) = j by omega]]
  have e3 := upN_add h 64 64
  have l1 : upN h 64 < 2 ^ 64 := upN_lt 64 fun j _ => h1 j
  rw [show (2 : Nat) ^ 64 = 18446744073709551616 by decide] at e3 l1
  unfold ofW wOf
  rw [e1, e2, show (128 : Nat) = 64 + 64 from rfl, e3]
  simp only [Wd.mk.injEq]
  omega
theorem crA_eq {x y : Nat → Int} {h g : Nat → Nat} (ex : ∀ j, j < 128 → x (127 - j) = (h j : Int)) (ey : ∀ j, j < 128 → y (127 - j) = (g j : Int)) (hh : ∀ j, h j ≤ 1) (hg : ∀ j, g j ≤ 1) : ∀ n, n ≤ 128 → crA x y n = (crN h g n : Int)
  | 0, _ => rfl
  | n + 1, hn => by
    have ih := crA_eq ex ey hh hg n (by omega)
    have := hh n; have := hg n; have := crN_le hh hg n
    rw [crA, crN, ih, ex n (by omega), ey n (by omega), w64_of' (n := (h n : Int) + (g n : Int)) (by omega) (by omega), w64_of' (n := (h n : Int) + (g n : Int) + _) (by omega) (by omega), Int.tdiv_eq_ediv_of_nonneg (by omega), w64_of' (by omega) (by omega)]
    omega
theorem sumF_eq {x y : Nat → Int} {h g : Nat → Nat} (ex : ∀ j, j < 128 → x (127 - j) = (h j : Int)) (ey : ∀ j, j < 128 → y (127 - j) = (g j : Int)) (hh : ∀ j, h j ≤ 1) (hg : ∀ j, g j ≤ 1) {j : Nat} (hj : j < 128) : sumF x y (127 - j) = (((h j + g j + crN h g j) % 2 : Nat) : Int) := by
  have := hh j; have := hg j; have := crN_le hh hg j
  unfold sumF
  rw [show 127 - (127 - j) = j by omega, crA_eq ex ey hh hg j (by omega), ex j hj, ey j hj, w64_of' (n := (h j : Int) + (g j : Int)) (by omega) (by omega), w64_of' (n := (h j : Int) + (g j : Int) + _) (by omega) (by omega), Int.tmod_eq_emod_of_nonneg (by omega)]
  omega
/-- The sum, bit by bit, is the sum. -/
theorem add_bits {a b : Wd} (ha : okW a = true) (hb : okW b = true) : ofW (sumF (bitF a) (bitF b)) = addW a b ∧ (crA (bitF a) (bitF b) 128 == 1) = addO a b := by
  have ex : ∀ j, j < 128 → bitF a (127 - j) = (bN (wN a) j : Int) := fun j hj => bitF_eq ha hj
  have ey : ∀ j, j < 128 → bitF b (127 - j) = (bN (wN b) j : Int) := fun j hj => bitF_eq hb hj
  have hs := crN_sum (bN (wN a)) (bN (wN b)) 128
  have ba : upN (bN (wN a)) 128 = wN a % 2 ^ 128 := upN_bits _ 128
  have bb : upN (bN (wN b)) 128 = wN b % 2 ^ 128 := upN_bits _ 128
  have hl : upN (fun j => (bN (wN a) j + bN (wN b) j + crN (bN (wN a)) (bN (wN b)) j) % 2) 128 < 2 ^ 128 := upN_lt 128 fun j _ => by omega
  have hc := crN_le (bN_le (wN a)) (bN_le (wN b)) 128
  obtain ⟨a0, a1⟩ := wv_in ha
  obtain ⟨b0, b1⟩ := wv_in hb
  have wa : (wN a : Int) = wv a := Int.toNat_of_nonneg a0
  have wb : (wN b : Int) = wv b := Int.toNat_of_nonneg b0
  rw [show (2 : Nat) ^ 128 = 340282366920938463463374607431768211456 by decide] at hs ba bb hl
  rw [ba, bb, Nat.mod_eq_of_lt (by omega), Nat.mod_eq_of_lt (by omega)] at hs
  rw [ofW_eq (fun j hj => sumF_eq ex ey (bN_le _) (bN_le _) hj) (fun j => by omega), crA_eq ex ey (bN_le _) (bN_le _) 128 (Nat.le_refl _)]
  generalize upN (fun j => (bN (wN a) j + bN (wN b) j + crN (bN (wN a)) (bN (wN b)) j) % 2) 128 = S at *
  generalize crN (bN (wN a)) (bN (wN b)) 128 = C at *
  unfold addW addO m128
  have hC : C = 0 ∨ C = 1 := by omega
  rcases hC with rfl | rfl
  · refine ⟨?_, ?_⟩
    · congr 1; omega
    · rw [decide_eq_false (by omega)]; rfl
  · refine ⟨?_, ?_⟩
    · congr 1; omega
    · rw [decide_eq_true (by omega)]; rfl
end Go.Cb
namespace Go.Proofs.YtflbjjpcjeinlaaGreatDoor
open Go.Ev Go.Cb
theorem ev_Bits (a : Wd) : evalF (envOf []) tb 65 Tryz.f94 [cWd.enc a] = some (encA (bitF a)) := by kernel_rfl
abbrev e_Bits : Fe := fn1 cWd fun a => cA.enc (bitF a)
theorem ok_Bits : En 94 e_Bits :=
  entry1 (callable Tryz.func94 (by kernel_rfl)) fun a => sp .nil Tryz.func94 65 (ev_Bits a)
theorem ev_Of (f : Nat → Int) : evalF (envOf []) tb 65 Tryz.f110 [encA f] = some (cWd.enc (ofW f)) := by kernel_rfl
abbrev e_Of : Fe := fn1 cA fun f => cWd.enc (ofW f)
theorem ok_Of : En 110 e_Of :=
  entry1 (callable Tryz.func110 (by kernel_rfl)) fun f => sp .nil Tryz.func110 65 (ev_Of f)
abbrev l_r1 : Ens := [(94, e_Bits), (110, e_Of)]
theorem ev_r1Add (a b : Wd) : evalF (envOf l_r1) tb 129 Tryz.f90 [cWd.enc a, cWd.enc b] =
    some (.tup [cWd.enc (ofW (gA (lsA (sumF (bitF a) (bitF b))))), B (crA (bitF a) (bitF b) 128 == 1)]) := by kernel_rfl
abbrev e_r1Add : Fe := fn2C cWd cWd (fun a b => okW a && okW b) fun a b => .tup [cWd.enc (addW a b), B (addO a b)]
theorem ok_r1Add : En 90 e_r1Add :=
  entry2C (callable Tryz.func90 (by kernel_rfl)) fun a b h => sp (.cons ok_Bits (.cons ok_Of .nil)) Tryz.func90 129 ((ev_r1Add a b).trans (by
    rw [Bool.and_eq_true] at h
    obtain ⟨h1, h2⟩ := add_bits h.1 h.2
    rw [ofW_ls, h1, h2]))
end Go.Proofs.YtflbjjpcjeinlaaGreatDoor
namespace Go.Cb
open Go.Ev
theorem addW_of {x y : Int} (h0 : 0 ≤ x) (h1 : 0 ≤ y) (h2 : x + y < m128) : addW (wOf x) (wOf y) = wOf (x + y) := by
  unfold addW
  rw [wv_wOf, wv_wOf, Int.emod_eq_of_lt (by omega) h2]
theorem wOf_lo {d : Int} (h0 : 0 ≤ d) (h1 : d < 18446744073709551616) : (⟨0, d⟩ : Wd) = wOf d := by
  simp only [wOf, Wd.mk.injEq]; omega
theorem valL_lt : ∀ (m : Nat) (l : List UInt8), l.length = m → (∀ c ∈ l, 48 ≤ c.toNat ∧ c.toNat ≤ 57) → valL l < 10 ^ m
  | 0, l, hm, _ => by
    rw [List.length_eq_zero_iff.1 hm]; simp [valL]
  | m + 1, l, hm, h => by
    rcases List.eq_nil_or_concat l with e | ⟨r, c, e⟩
    · subst e; simp at hm
    · rw [List.concat_eq_append] at e
      subst e
      have ih := valL_lt m r (by simp at hm; omega) fun x hx => h x (by simp [hx])
      have hc := h c (by simp)
      rw [valL_snoc, Nat.pow_succ]
      omega
theorem text_digs {s : ByteArray} (h : isTextB s = true) : ∀ c ∈ s.data.toList, 48 ≤ c.toNat ∧ c.toNat ≤ 57 := fun c hc => by
  unfold isTextB at h
  rw [Bool.and_eq_true] at h
  obtain ⟨i, hi, rfl⟩ := List.getElem_of_mem hc
  have := allDig_at s.size 0 i h.1 (by omega) (by have : s.data.toList.length = s.size := Array.length_toList; omega)
  have hb : byteAt s i = (s.data.toList[i].toNat : Int) := by unfold byteAt; rw [List.getD_eq_getElem?_getD, List.getElem?_eq_getElem hi]; rfl
  rw [hb] at this
  simp only [digB, Bool.and_eq_true, Bool.not_eq_true', decide_eq_false_iff_not] at this
  omega
end Go.Cb
namespace Go.Proofs.YtflbjjpcjeinlaaGreatDoor
open Go.Ev Go.Cb
abbrev stIs (s : ByteArray) (i : Int) : S := { t := stT 33 0 [(0, T s), (2, B false), (3, I i)], m := [], k := 3145761 }
theorem st_Is (F : Nat) (s : ByteArray) (H : Nat → List Nat → S → Option D) : evalH (envOf []) tb F Tryz.f64 0 H (Go.Ev.start Tryz.f64 [T s]) (endK tb Tryz.f64) = H 3145728 [] (stIs s 0) := by kernel_rfl
theorem rnd_Is (F : Nat) (s : ByteArray) (i : Int) (R : S → Option D) : rndE (envOf []) tb F Tryz.f64 0 (endK tb Tryz.f64) 3145728 [] R (stIs s i) =
    bif decide (i < s.size) then (bif bnd i s.size then (bif decide (byteAt s i.toNat < 48) then some (B false) else bif bnd i s.size then (bif decide (byteAt s i.toNat > 57) then some (B false) else R (stIs s (i64 (i + 1)))) else none) else none)
    else bif (s.size : Int) == 1 then some (B true) else bif decide ((s.size : Int) > 1) then (bif bnd 0 s.size then some (B (decide (byteAt s 0 > 48))) else none) else some (B false) := by kernel_rfl
theorem lp_Is (F : Nat) (s : ByteArray) (hs : s.size ≤ 4294967280) : ∀ (r i N : Nat), s.size = i + r → r < N →
    lpE (envOf []) tb F Tryz.f64 0 (endK tb Tryz.f64) N 3145728 [] (stIs s i) = some (B (allDig s r i && (bif (s.size : Int) == 1 then true else bif decide ((s.size : Int) > 1) then decide (byteAt s 0 > 48) else false)))
  | 0, i, N + 1, e, _ => by
    rw [lpE_succ, rnd_Is, show decide ((i : Int) < (s.size : Int)) = false by simp; omega]
    simp only [cond_false, allDig, Bool.true_and]
    cases h1 : (s.size : Int) == 1 with
    | true => rfl
    | false => cases h2 : decide ((s.size : Int) > 1) with
      | true =>
        rw [show bnd 0 s.size = true by simp [bnd]; simp at h2; omega]
        rfl
      | false => rfl
  | r + 1, i, N + 1, e, h2 => by
    have ih := lp_Is F s hs r (i + 1) N (by omega) (by omega)
    rw [lpE_succ, rnd_Is, show decide ((i : Int) < (s.size : Int)) = true by simp; omega, bnd_nat, show decide (i < s.size) = true by simp; omega, Int.toNat_natCast, i64_succ (show i + 1 < 9223372036854775808 by omega), ih]
    simp only [cond_true, allDig, digB]
    cases decide (byteAt s i < 48) <;> cases decide (byteAt s i > 57) <;> simp
theorem isText_r6 (s : ByteArray) : (allDig s s.size 0 && (bif (s.size : Int) == 1 then true else bif decide ((s.size : Int) > 1) then decide (byteAt s 0 > 48) else false)) = isTextB s := by
  unfold isTextB
  cases h : allDig s s.size 0 with
  | false => rfl
  | true =>
    simp only [Bool.true_and]
    cases h2 : decide ((s.size : Int) > 1) with
    | false => rfl
    | true =>
      have h2 := of_decide_eq_true h2
      have := allDig_at s.size 0 0 h (by omega) (by omega)
      simp only [digB, Bool.and_eq_true, Bool.not_eq_true', decide_eq_false_iff_not] at this
      rw [cond_true, cond_true]
      by_cases h3 : byteAt s 0 = 48
      · rw [h3]; rfl
      · rw [decide_eq_true (show byteAt s 0 > 48 by omega), show (byteAt s 0 != 48) = true by simpa using h3]
abbrev e_r6Is : Fe := fn1 cT fun s => B (isTextB s)
theorem ok_r6Is : En 64 e_r6Is :=
  entry1 (callable Tryz.func64 (by kernel_rfl)) fun s => .str 0 rfl fun hs => sp .nil Tryz.func64 (s.size + 1)
    ((evalF_cut (fn := Tryz.f64) 0 rfl).trans ((st_Is _ s _).trans ((lp_Is _ s hs s.size 0 (s.size + 1) (by omega) (by omega)).trans (by rw [isText_r6]))))
/-! The number of a text. -/
abbrev wR : Nat := 113
abbrev stPa (s : ByteArray) (a : Wd) (i : Int) : S := { t := stT 56 0 [(0, T s), (2, .loc 2097152 0), (3, .loc 4194432 0), (4, I i)], m := [(4194432, .cells (sWd.enc a) wR), (2097152, .cells [U 0, U 0] wR)], k := 4194364 }
abbrev l_r6P : Ens := [(90, e_r1Add)]
theorem st_Pa (F : Nat) (s : ByteArray) (H : Nat → List Nat → S → Option D) : evalH (envOf l_r6P) tb F Tryz.f65 0 H (Go.Ev.start Tryz.f65 [T s]) (endK tb Tryz.f65) = H 4194304 [4194432, 2097152] (stPa s ⟨0, 0⟩ 0) := by kernel_rfl
theorem rnd_Pa (F : Nat) (s : ByteArray) (a : Wd) (i : Int) (R : S → Option D) : rndE (envOf l_r6P) tb F Tryz.f65 0 (endK tb Tryz.f65) 4194304 [4194432, 2097152] R (stPa s a i) =
    let a2 := addW a a
    let a4 := addW a2 a2
    let a5 := addW a4 a
    let aa := addW a5 a5
    let d : Wd := ⟨0, w64 (w64 (byteAt s i.toNat) - 48)⟩
    bif decide (i < s.size) then (bif okW a && okW a then (bif okW a2 && okW a2 then (bif okW a4 && okW a then (bif okW a5 && okW a5 then (bif bnd i s.size then (bif okW aa && okW d then R (stPa s (addW aa d) (i64 (i + 1))) else none) else none) else none) else none) else none) else none)
    else some (cWd.enc a) := by kernel_rfl
theorem lp_Pa (F : Nat) (s : ByteArray) (ht : isTextB s = true) (hs : s.size ≤ 20) : ∀ (r i N : Nat), s.size = i + r → r < N →
    lpE (envOf l_r6P) tb F Tryz.f65 0 (endK tb Tryz.f65) N 4194304 [4194432, 2097152] (stPa s (wOf (valL (s.data.toList.take i))) i) = some (cWd.enc (wOf (wval s)))
  | 0, i, N + 1, e, _ => by
    have hl : s.data.toList.take i = s.data.toList := List.take_of_length_le (by rw [Array.length_toList]; show s.size ≤ i; omega)
    rw [lpE_succ, rnd_Pa, hl]
    simp only [show decide ((i : Int) < (s.size : Int)) = false by simp; omega, cond_false]
    rfl
  | r + 1, i, N + 1, e, hN => by
    have ih := lp_Pa F s ht hs r (i + 1) N (by omega) (by omega)
    have hlt : i < s.data.toList.length := by rw [Array.length_toList]; show i < s.size; omega
    have hb : byteAt s i = (s.data.toList[i].toNat : Int) := by unfold byteAt; rw [List.getD_eq_getElem?_getD, List.getElem?_eq_getElem hlt]; rfl
    have hd := text_digs ht _ (List.getElem_mem hlt)
    have hv : valL (s.data.toList.take i) < 10 ^ i := valL_lt i _ (by rw [List.length_take]; omega) fun c hc => text_digs ht c (List.mem_of_mem_take hc)
    have hp : 10 ^ i ≤ 10 ^ 20 := Nat.pow_le_pow_right (by decide) (by omega)
    have hv2 : valL (s.data.toList.take i) < 100000000000000000000 := Nat.lt_of_lt_of_le hv hp
    have hval : (valL (s.data.toList.take (i + 1)) : Int) = 10 * (valL (s.data.toList.take i) : Int) + (byteAt s i - 48) := by
      rw [List.take_succ_eq_append_getElem hlt, valL_snoc, hb]
      omega
    rw [hval] at ih
    rw [lpE_succ, rnd_Pa]
    simp only [Int.toNat_natCast]
    generalize hV : (valL (s.data.toList.take i) : Int) = V at *
    have hV0 : 0 ≤ V := by rw [← hV]; exact Int.natCast_nonneg _
    have hV1 : V < 100000000000000000000 := by omega
    have hbb : 48 ≤ byteAt s i ∧ byteAt s i ≤ 57 := by rw [hb]; omega
    have hm : m128 = 340282366920938463463374607431768211456 := rfl
    rw [w64_of' (n := byteAt s i) (by omega) (by omega), w64_of' (n := byteAt s i - 48) (by omega) (by omega), wOf_lo (d := byteAt s i - 48) (by omega) (by omega), addW_of (x := V) (y := V) (by omega) (by omega) (by omega), addW_of (x := V + V) (y := V + V) (by omega) (by omega) (by omega), addW_of (x := V + V + (V + V)) (y := V) (by omega) (by omega) (by omega),
      addW_of (x := V + V + (V + V) + V) (y := V + V + (V + V) + V) (by omega) (by omega) (by omega), addW_of (y := byteAt s i - 48) (by omega) (by omega) (by omega), okW_wOf (n := V) (by omega) (by omega), okW_wOf (n := V + V) (by omega) (by omega), okW_wOf (n := V + V + (V + V)) (by omega) (by omega),
      okW_wOf (n := V + V + (V + V) + V) (by omega) (by omega), okW_wOf (n := V + V + (V + V) + V + (V + V + (V + V) + V)) (by omega) (by omega), okW_wOf (n := byteAt s i - 48) (by omega) (by omega),
      show decide ((i : Int) < (s.size : Int)) = true by simp; omega, bnd_nat, show decide (i < s.size) = true by simp; omega, i64_succ (show i + 1 < 9223372036854775808 by omega)]
    simp only [Bool.and_self, cond_true]
    rw [show V + V + (V + V) + V + (V + V + (V + V) + V) + (byteAt s i - 48) = 10 * V + (byteAt s i - 48) by omega]
    exact ih
abbrev e_r6Parse : Fe := fn1C cT (fun s => isTextB s && decide (s.size ≤ 20)) fun s => cWd.enc (wOf (wval s))
theorem ok_r6Parse : En 65 e_r6Parse :=
  entry1C (callable Tryz.func65 (by kernel_rfl)) fun s h => by
    simp only [Bool.and_eq_true, decide_eq_true_eq] at h
    have e0 : (⟨0, 0⟩ : Wd) = wOf (valL (s.data.toList.take 0) : Int) := by simp [wOf, valL]
    exact sp (.cons ok_r1Add .nil) Tryz.func65 (s.size + 1)
      ((evalF_cut (fn := Tryz.f65) 0 rfl).trans ((st_Pa _ s _).trans (by
        rw [e0]
        exact lp_Pa _ s h.1 h.2 s.size 0 (s.size + 1) (by omega) (by omega))))
end Go.Proofs.YtflbjjpcjeinlaaGreatDoor
namespace Go.Cb
open Go.Ev
/-- Digits, doubled from the right: what stands there then, and what is carried. -/
def dblN (x c : Int) : Int := 2 * (x - 48) + c
def dbl : List Int → Int → List Int × Int
  | [], c => ([], c)
  | x :: r, c => ((48 + dblN x (dbl r c).2 % 10) :: (dbl r c).1, dblN x (dbl r c).2 / 10)
def digI (x : Int) : Prop := 48 ≤ x ∧ x ≤ 57
theorem dbl_len : ∀ (l : List Int) (c : Int), (dbl l c).1.length = l.length
  | [], _ => rfl
  | x :: r, c => by simp [dbl, dbl_len r c]
theorem dbl_in {c : Int} (hc : 0 ≤ c ∧ c ≤ 1) : ∀ (l : List Int), (∀ x ∈ l, digI x) → (0 ≤ (dbl l c).2 ∧ (dbl l c).2 ≤ 1) ∧ ∀ x ∈ (dbl l c).1, digI x
  | [], _ => ⟨hc, by simp [dbl]⟩
  | x :: r, h => by
    obtain ⟨h1, h2⟩ := dbl_in hc r fun y hy => h y (by simp [hy])
    have hx := h x (by simp)
    unfold digI at hx
    refine ⟨?_, fun y hy => ?_⟩
    · show 0 ≤ dblN x (dbl r c).2 / 10 ∧ dblN x (dbl r c).2 / 10 ≤ 1
      unfold dblN; omega
    · simp only [dbl, List.mem_cons] at hy
      rcases hy with rfl | hy
      · unfold digI; omega
      · exact h2 y hy
theorem dbl_drop {L : List Int} {c : Int} {m : Nat} (h : m < L.length) : dbl (L.drop m) c = ((48 + dblN (L.getD m 0) (dbl (L.drop (m + 1)) c).2 % 10) :: (dbl (L.drop (m + 1)) c).1, dblN (L.getD m 0) (dbl (L.drop (m + 1)) c).2 / 10) := by
  rw [List.drop_eq_getElem_cons h]
  simp only [dbl]
  rw [show L.getD m 0 = L[m] by simp [h]]
/-- What stands in the row when all from the k-th on has been doubled. -/
def twL (L : List Int) (c : Int) (k : Nat) : List Int := L.take k ++ (dbl (L.drop k) c).1
theorem twL_len {L : List Int} {c : Int} {k : Nat} (h : k ≤ L.length) : (twL L c k).length = L.length := by
  unfold twL; rw [List.length_append, List.length_take, dbl_len, List.length_drop]; omega
theorem twL_here {L : List Int} {c : Int} {m : Nat} (h : m < L.length) : (twL L c (m + 1)).getD m 0 = L.getD m 0 := by
  unfold twL
  rw [List.getD_eq_getElem?_getD, List.getElem?_append_left (by simp; omega), List.getElem?_take_of_lt (by omega), ← List.getD_eq_getElem?_getD]
theorem twL_step {L : List Int} {c : Int} {m j : Nat} (h : m < L.length) : (twL L c m).getD j 0 = if j = m then 48 + dblN (L.getD m 0) (dbl (L.drop (m + 1)) c).2 % 10 else (twL L c (m + 1)).getD j 0 := by
  unfold twL
  rw [dbl_drop h]
  simp only [List.getD_eq_getElem?_getD]
  by_cases h1 : j < m
  · rw [if_neg (by omega), List.getElem?_append_left (by simp; omega), List.getElem?_append_left (by simp; omega), List.getElem?_take_of_lt h1, List.getElem?_take_of_lt (by omega)]
  · by_cases h2 : j = m
    · subst h2
      have e : (L.take j).length = j := by rw [List.length_take]; omega
      rw [if_pos rfl, List.getElem?_append_right (by omega), e, Nat.sub_self]
      rfl
    · rw [if_neg h2, List.getElem?_append_right (by simp; omega), List.getElem?_append_right (by simp; omega)]
      simp only [List.length_take]
      rw [show j - min m L.length = (j - min (m + 1) L.length) + 1 by omega]
      rfl
def oneB : ByteArray := ⟨#[49]⟩
theorem push_size (l : List Int) : ∀ r : ByteArray, (l.foldl (fun r n => r.push (UInt8.ofNat n.toNat)) r).size = r.size + l.length := by
  induction l with
  | nil => intro r; rfl
  | cons x l ih => intro r; rw [List.foldl_cons, ih]; simp [ByteArray.size_push]; omega
theorem txtL_size (l : List Int) : (txtL l).size = l.length := by
  unfold txtL strU8
  rw [push_size]
  simp
/-- The text doubled. -/
def twT (L : List Int) (c : Int) : ByteArray := bif decide ((dbl L c).2 > 0) then oneB ++ txtL (dbl L c).1 else txtL (dbl L c).1
end Go.Cb
namespace Go.Proofs.YtflbjjpcjeinlaaGreatDoor
open Go Go.RowKit Go.Cb
/-- The row, as it stands in a round. -/
structure TwR (L : List Int) (c : Int) (w : World) (k : Nat) (wr : World) : Prop where
  cell : ∀ j, j < L.length → wr.cell? ⟨w.heap.size, j, none⟩ = some (.int .u8 ((twL L c k).getD j 0))
  froz : ∀ j, j < L.length → wr.frozen? ⟨w.heap.size, j, none⟩ = false
  below : Go.RowKit.Below w.heap.size w wr
theorem tw_string {L : List Int} {c : Int} {w wr : World} (h : TwR L c w 0 wr) {cap : Nat} : (convert 37 9 (.slice (some ⟨w.heap.size, 0, none⟩) L.length cap)).run Tryz.prog wr = .ok (.string (txtL (dbl L c).1)) wr := by
  have hl := dbl_len L c
  rw [run_convert_bytes_string wr _ _ 5 _ _ _ (by kernel_rfl) (by kernel_rfl) (by kernel_rfl), run_bytesToString wr ⟨w.heap.size, 0, none⟩ L.length cap (dbl L c).1 ?_]
  · have e : txtL (dbl L c).1 = (dbl L c).1.foldl (fun r n => r.push (UInt8.ofNat n.toNat)) ByteArray.empty := by
      unfold txtL Go.Ev.strU8
      congr 1
      apply List.ext_getElem
      · simp
      · intro i h1 h2
        simp [Go.Ev.getE, Go.Ev.sNum, Go.Ev.u8Of, Go.Ev.ikEq, h2]
    rw [e]
  · have := run_loadCells_list (P := Tryz.prog) wr ⟨w.heap.size, 0, none⟩ ((dbl L c).1.map (Value.int .u8)) (fun j v hj => by
      rw [Addr.add_lit, Nat.zero_add]
      have hj' : j < (dbl L c).1.length := by
        have := (List.getElem?_eq_some_iff.1 hj).1
        simpa using this
      have := h.cell j (by omega)
      rw [this]
      unfold twL
      rw [List.take_zero, List.nil_append, List.drop_zero]
      simp [hj'] at hj ⊢
      exact hj)
    simpa [hl] using this
set_option maxHeartbeats 4000000 in
set_option maxRecDepth 100000 in
theorem twice_run (s : ByteArray) (L : List Int) (hL : L = s.data.toList.map fun b => (b.toNat : Int)) (hd : ∀ x ∈ L, digI x) (c : Int) (hc0 : 0 ≤ c) (hc1 : c ≤ 1) (w : World) (hs : s.size ≤ 4294967280) :
    Calls Tryz.prog 95 #[.string s, .int .u64 c] w fun e w' => e = .returned (.string (twT L c)) ∧ Go.RowKit.Below w.heap.size w w' := by
  have hcv := Lib.run_convert_string_bytes (P := Tryz.prog) w 9 37 5 s (u := .string) (by kernel_rfl) (by kernel_rfl) (by kernel_rfl)
  have hlen : L.length = s.size := by rw [hL, List.length_map, Array.length_toList]; rfl
  have HT : ∀ (wr : World), TwR L c w 0 wr → Hid ((convert 37 9 (.slice (some ⟨w.heap.size, 0, none⟩) s.size (grownCap w s.size 0 5))).run Tryz.prog wr = .ok (.string (txtL (dbl L c).1)) wr) := fun wr h => by
    have := tw_string h (cap := grownCap w s.size 0 5)
    rw [hlen] at this
    exact Lib.hid this
  have HT := Lib.hid HT
  have HL := Lib.hid hL
  clear hL
  have HH := Lib.hid hlen
  clear hlen
  have HD := Lib.hid hd
  clear hd
  go_enter Tryz.func95, Tryz.ntmps95
  go_wp2
  clear hcv
  go_loopw [6, 7] (fun cv iv wr => ∃ k : Nat, k ≤ s.size ∧ iv = .int .i64 ((k : Int) - 1) ∧ cv = .int .u8 (dbl (L.drop k) c).2 ∧ Hid (TwR L c w k wr)) (fun _ iv _ => (intOf iv + 1).toNat)
  case atStart =>
    refine ⟨s.size, Nat.le_refl _, rfl, ?_, Lib.hid ⟨fun j hj => ?_, fun j hj => ?_, ?_⟩⟩
    · rw [List.drop_of_length_le (by rw [HH.out]; exact Nat.le_refl _)]
      rfl
    · have hj' : j < s.size := by have := HH.out; omega
      rw [Lib.bytesWorld_cell w _ s j hj']
      unfold twL
      rw [List.take_of_length_le (by rw [HH.out]; exact Nat.le_refl _), List.drop_of_length_le (by rw [HH.out]; exact Nat.le_refl _), HL.out]
      have hj2 : j < s.data.toList.length := by rw [Array.length_toList]; exact hj'
      have e : s.data.toList.getD j 0 = s.data.toList[j] := by simp [List.getD_eq_getElem?_getD, List.getElem?_eq_getElem hj2]
      rw [e]
      simp only [dbl, List.append_nil, List.getD_eq_getElem?_getD, List.getElem?_map, List.getElem?_eq_getElem hj2, Option.map_some, Option.getD_some]
    · have hj' : j < s.size := by have := HH.out; omega
      have hb : s.size ≤ (Lib.bytesCells w 5 s).size := by
        unfold Lib.bytesCells
        rw [Array.size_append, Array.size_map]
        exact Nat.le_add_right _ _
      simp [World.frozen?, Lib.bytesWorld_at_new]
      omega
    · exact Go.Joins.below_bytesWorld _ w _ s (Nat.le_refl _)
  case round =>
    obtain ⟨k, hk, rfl, rfl, HR⟩ := hrel
    cases k with
    | zero =>
      have hcs := (HT.out wr HR.out).out
      have HB := Lib.hid HR.out.below
      rw [List.drop_zero]
      generalize hC : (dbl L c).2 = C at *
      have hts : (txtL (dbl L c).1).size ≤ 4294967280 := by
        rw [txtL_size, dbl_len]
        have := HH.out
        omega
      go_wp2
      · go_ret
        have hp : 0 < C := by assumption
        refine ⟨?_, HB.out⟩
        unfold twT
        rw [hC, decide_eq_true (show C > 0 from hp), cond_true]
        rfl
      · go_ret
        have hp : C ≤ 0 := by assumption
        refine ⟨?_, HB.out⟩
        unfold twT
        rw [hC, decide_eq_false (show ¬ C > 0 by omega), cond_false]
        rfl
    | succ m =>
      have hm : m < L.length := by have := HH.out; omega
      have HM := Lib.hid hm
      have hcell : wr.cell? ⟨w.heap.size, m, none⟩ = some (.int .u8 (L.getD m 0)) := by rw [HR.out.cell m hm, twL_here hm]
      have hfz : wr.frozen? ⟨w.heap.size, m, none⟩ = false := HR.out.froz m hm
      have hx : digI (L.getD m 0) := HD.out _ (by simp [hm])
      obtain ⟨hx0, hx1⟩ := hx
      have hcc := (dbl_in ⟨hc0, hc1⟩ (L.drop (m + 1)) fun x hx => HD.out x (List.mem_of_mem_drop hx)).1
      obtain ⟨hcc0, hcc1⟩ := hcc
      have hdr := Lib.hid (dbl_drop (c := c) hm)
      have hst := Lib.hid (fun j => twL_step (c := c) (j := j) hm)
      clear hm
      rw [show ((m + 1 : Nat) : Int) - 1 = (m : Int) by omega]
      generalize hX : L.getD m 0 = X at *
      generalize hC : (dbl (L.drop (m + 1)) c).2 = C at *
      have HX := Lib.hid hX
      have HC := Lib.hid hC
      clear hX hC
      have hsome : (wr.cell? ⟨w.heap.size, m, none⟩).isSome = true := by rw [hcell]; rfl
      have HS := Lib.hid hsome
      clear hsome
      go_wp2
      go_roundw
      case rel =>
        refine ⟨m, by omega, rfl, ?_, Lib.hid ⟨fun j hj => ?_, fun j hj => ?_, ?_⟩⟩
        · rw [hdr.out]
          simp only [dblN]
        · by_cases hjm : j = m
          · subst hjm
            rw [World.cell?_setCell_same' _ _ _ HS.out, hst.out, if_pos rfl]
            rfl
          · have hne : (⟨w.heap.size, m, none⟩ : Addr) ≠ ⟨w.heap.size, j, none⟩ := fun e => hjm (congrArg Addr.off e).symm
            refine (World.cell?_setCell_other _ _ _ _ hne).trans ?_
            rw [HR.out.cell j hj, hst.out, if_neg hjm]
        · rw [World.frozen?_setCell]; exact HR.out.froz j hj
        · exact HR.out.below.setCell (Nat.le_refl _) _
      case measure => simp [intOf]
/-- A text's bytes. -/
def bL (s : ByteArray) : List Int := s.data.toList.map fun b => (b.toNat : Int)
def digsB (s : ByteArray) : Bool := (bL s).all fun x => decide (48 ≤ x) && decide (x ≤ 57)
theorem digsB_iff {s : ByteArray} : digsB s = true ↔ ∀ x ∈ bL s, digI x := by
  simp only [digsB, List.all_eq_true, Bool.and_eq_true, decide_eq_true_eq, digI]
theorem bL_len (s : ByteArray) : (bL s).length = s.size := by unfold bL; rw [List.length_map, Array.length_toList]; rfl
open Go.Ev in
abbrev e_twice : Fe := fn2C cT cU (fun s c => digsB s && (decide (0 ≤ c) && (decide (c ≤ 1) && decide (s.size ≤ 4294967000)))) fun s c => T (twT (bL s) c)
open Go.Ev in
theorem ok_twice : En 95 e_twice :=
  entry2C (callable Tryz.func95 (by kernel_rfl)) fun s c h => by
    simp only [Bool.and_eq_true, decide_eq_true_eq] at h
    obtain ⟨h1, h2, h3, h4⟩ := h
    intro K w rs hgl hK hsz hrs
    have e0 := hrs 0 _ rfl
    have e1 := hrs 1 _ rfl
    match rs, hsz with
    | ⟨[r0, r1]⟩, _ =>
      simp only [List.getElem?_cons_zero, List.getElem?_cons_succ, Array.getD_eq_getD_getElem?, List.getElem?_toArray, Option.getD_some] at e0 e1
      have e0 : r0 = .string s := by cases e0; rfl
      have e1 : r1 = .int .u64 c := by cases e1; rfl
      subst e0 e1
      refine (twice_run s (bL s) rfl (digsB_iff.1 h1) c h2 h3 w (by omega)).mono fun e w' ⟨he, hb⟩ => ?_
      subst he
      have hk : okV (.string (twT (bL s) c)) = true := by
        have hl := dbl_len (bL s) c
        have hz := bL_len s
        have ht := txtL_size (dbl (bL s) c).1
        unfold twT
        cases decide ((dbl (bL s) c).2 > 0) with
        | false => simp only [cond_false, okV, decide_eq_true_eq]; omega
        | true =>
          simp only [cond_true, okV, decide_eq_true_eq]
          rw [ByteArray.size_append, show oneB.size = 1 from rfl]
          omega
      exact ⟨_, K, rfl, fun _ _ h => h, fun _ _ h => .inl h, fun b o h => Nat.lt_of_lt_of_le (hK b o h) hb.size, .v _ hk, hb⟩
end Go.Proofs.YtflbjjpcjeinlaaGreatDoor
namespace Go.Cb
open Go.Ev Go.Proofs.YtflbjjpcjeinlaaGreatDoor
/-- The rounds: n of them left, what stands there. -/
def prR (x : Nat → Int) : Nat → ByteArray → Option D
  | 0, s => some (T s)
  | n + 1, s => bif digsB s && (decide (0 ≤ x (127 - n)) && (decide (x (127 - n) ≤ 1) && decide (s.size ≤ 4294967000))) then prR x n (twT (bL s) (x (127 - n))) else none
def zeroB : ByteArray := ⟨#[48]⟩
/-- A word's place. -/
def plc (s : ByteArray) : Nat → List ByteArray → Int
  | _, [] => -1
  | i, x :: r => bif x.toList == s.toList then (i : Int) else plc s (i + 1) r
end Go.Cb
namespace Go.Proofs.YtflbjjpcjeinlaaGreatDoor
open Go.Ev Go.Cb
abbrev l_r6Pr : Ens := [(94, e_Bits), (95, e_twice)]
theorem ev_r6Print (a : Wd) : evalF (envOf l_r6Pr) tb 129 Tryz.f70 [cWd.enc a] = prR (bitF a) 128 zeroB := by kernel_rfl
/-! Cut. -/
abbrev stCu (s : ByteArray) (c : Int) (m : Nat) (G : Nat → List D) (a i : Int) : S :=
  { t := stT 34 0 [(0, T s), (1, NumD .u8 c), (4, .sl 1 0 (fun _ => [T noT]) (.tok 10485769)), (5, .sl 1 m G (.tok 10485771)), (6, I a), (7, I i)], m := [(10485771, .tok 9), (10485769, .tok 9)], k := 5242914 }
theorem st_Cu (F : Nat) (s : ByteArray) (c : Int) (H : Nat → List Nat → S → Option D) : evalH (envOf []) tb F Tryz.f31 0 H (Go.Ev.start Tryz.f31 [T s, NumD .u8 c]) (endK tb Tryz.f31) =
    H 5242880 [] (stCu s c 0 (fun _ => [T noT]) 0 0) := by kernel_rfl
theorem rnd_Cu (F : Nat) (s : ByteArray) (c : Int) (m : Nat) (G : Nat → List D) (a i : Int) (R : S → Option D) : rndE (envOf []) tb F Tryz.f31 0 (endK tb Tryz.f31) 5242880 [] R (stCu s c m G a i) =
    let room := decide ((m + 1) * 16 ≤ 140737488355328 ∧ m + 1 ≤ 9223372036854775807)
    bif decide (i < s.size) then (bif bnd i s.size then (bif byteAt s i.toNat == c then (bif decide (0 ≤ a) && (decide (a ≤ i) && decide (i ≤ s.size)) then (bif room then R (stCu s c (m + 1) (pushD sT noT m G (s.extract a.toNat i.toNat)) (i64 (i + 1)) (i64 (i + 1))) else none) else none)
      else R (stCu s c m G a (i64 (i + 1)))) else none)
    else bif decide (0 ≤ a) && (decide (a ≤ s.size) && decide ((s.size : Int) ≤ s.size)) then (bif room then some (.sl 1 (m + 1) (pushD sT noT m G (s.extract a.toNat (s.size : Int).toNat)) .none) else none) else none := by kernel_rfl
/-! A word's place. -/
abbrev stPl (s : ByteArray) (l : List ByteArray) (i : Int) : S := { t := stT 19 0 [(0, T s), (1, cTs.enc l), (4, I 0), (5, I i)], m := [], k := 3145747 }
theorem st_Pl (F : Nat) (s : ByteArray) (l : List ByteArray) (H : Nat → List Nat → S → Option D) : evalH (envOf []) tb F Tryz.f32 0 H (Go.Ev.start Tryz.f32 [T s, cTs.enc l]) (endK tb Tryz.f32) = H 3145728 [] (stPl s l 0) := by kernel_rfl
theorem rnd_Pl (F : Nat) (s : ByteArray) (l : List ByteArray) (i : Int) (R : S → Option D) : rndE (envOf []) tb F Tryz.f32 0 (endK tb Tryz.f32) 3145728 [] R (stPl s l i) =
    bif decide (i < l.length) then (bif bnd i l.length then (bif (l.getD i.toNat noT).toList == s.toList then some (I i) else R (stPl s l (i64 (i + 1)))) else none) else some (I (-1)) := by kernel_rfl
theorem lp_Pl (F : Nat) (s : ByteArray) (l : List ByteArray) (hl : l.length ≤ 4294967296) : ∀ (r i N : Nat), l.length = i + r → r < N →
    lpE (envOf []) tb F Tryz.f32 0 (endK tb Tryz.f32) N 3145728 [] (stPl s l i) = some (I (plc s i (l.drop i)))
  | 0, i, N + 1, e, _ => by
    rw [lpE_succ, rnd_Pl, show decide ((i : Int) < (l.length : Int)) = false by simp; omega, List.drop_of_length_le (by omega)]
    rfl
  | r + 1, i, N + 1, e, h2 => by
    have ih := lp_Pl F s l hl r (i + 1) N (by omega) (by omega)
    have hi : i < l.length := by omega
    rw [lpE_succ, rnd_Pl, show decide ((i : Int) < (l.length : Int)) = true by simp; omega, bnd_nat, decide_eq_true hi, Int.toNat_natCast, i64_succ (show i + 1 < 9223372036854775808 by omega), ih, List.drop_eq_getElem_cons hi]
    simp only [cond_true, plc]
    rw [show l.getD i noT = l[i] by simp [hi]]
    cases l[i].toList == s.toList <;> rfl
abbrev e_place : Fe := fn2C cT cTs (fun _ l => decide (l.length ≤ 4294967296)) fun s l => I (plc s 0 l)
theorem ok_place : En 32 e_place :=
  entry2C (callable Tryz.func32 (by kernel_rfl)) fun s l h => sp .nil Tryz.func32 (l.length + 1)
    ((evalF_cut (fn := Tryz.f32) 0 rfl).trans ((st_Pl _ s l _).trans (lp_Pl _ s l (of_decide_eq_true h) l.length 0 (l.length + 1) (by omega) (by omega))))
end Go.Proofs.YtflbjjpcjeinlaaGreatDoor
