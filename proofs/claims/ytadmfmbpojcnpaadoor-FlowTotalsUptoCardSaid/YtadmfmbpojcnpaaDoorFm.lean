/- The reference says of keys, prefixes and flows what the program says. -/
import Derived.Test.YtadmfmbpojcnpaaDoorFl
import Derived.Test.YtadmfmbpojcnpaaDoorOa
namespace Go.Cb
open Go.Ev Go.Proofs.YtadmfmbpojcnpaaDoor
/-! ## Bits -/
theorem noneFrom_iff (hi lo len : Int) : ∀ (n i : Nat), noneFrom hi lo len n i = true ↔ ∀ j, i ≤ j → j < i + n → len ≤ (j : Int) → bitOf hi lo j ≠ 1
  | 0, i => by simp [noneFrom]; intro j h1 h2; omega
  | n + 1, i => by
    have ih := noneFrom_iff hi lo len n (i + 1)
    rw [noneFrom]
    by_cases hl : (i : Int) ≥ len
    · rw [show decide ((i : Int) ≥ len) = true by simpa using hl]
      by_cases hb : bitOf hi lo i = 1
      · rw [show (bitOf hi lo i == 1) = true by simpa using hb]
        simp only [cond_true, Bool.false_eq_true, false_iff]
        exact fun h => h i (by omega) (by omega) hl hb
      · rw [show (bitOf hi lo i == 1) = false by simpa using hb]
        simp only [cond_true, cond_false]
        rw [ih]
        constructor
        · intro h j h1 h2 h3
          by_cases hj : j = i
          · subst hj; exact hb
          · exact h j (by omega) (by omega) h3
        · exact fun h j h1 h2 h3 => h j (by omega) (by omega) h3
    · rw [show decide ((i : Int) ≥ len) = false by simpa using hl]
      simp only [cond_false]
      rw [ih]
      constructor
      · intro h j h1 h2 h3
        by_cases hj : j = i
        · subst hj; exact absurd h3 hl
        · exact h j (by omega) (by omega) h3
      · exact fun h j h1 h2 h3 => h j (by omega) (by omega) h3
theorem fdiv_nat (h k : Nat) : (((h : Int).fdiv (2 ^ k)).tmod 2 = 1) ↔ h.testBit k = true := by
  have e : ((h : Int).fdiv (2 ^ k)) = ((h / 2 ^ k : Nat) : Int) := by
    rw [Int.fdiv_eq_ediv_of_nonneg _ (Int.le_of_lt (Int.pow_pos (by decide)))]
    simp
  rw [e, Nat.testBit_eq_decide_div_mod_eq, decide_eq_true_eq, Int.tmod_eq_emod_of_nonneg (Int.natCast_nonneg _)]
  omega
theorem bitOf_hi {h l i : Nat} (hi : i < 64) : bitOf h l i ≠ 1 ↔ h.testBit (63 - i) = false := by
  unfold bitOf
  rw [show decide (i < 64) = true by simpa using hi, cond_true, Ne, fdiv_nat]
  simp
theorem bitOf_lo {h l i : Nat} (hi : ¬ i < 64) : bitOf h l i ≠ 1 ↔ l.testBit (127 - i) = false := by
  unfold bitOf
  rw [show decide (i < 64) = false by simpa using hi, cond_false, Ne, fdiv_nat]
  simp
theorem and_mask {h k : Nat} (hh : h < 2 ^ 64) (hk : k ≤ 64) : h &&& (2 ^ 64 - 2 ^ k) = h ↔ ∀ j, j < k → h.testBit j = false := by
  have em : 2 ^ 64 - 2 ^ k = (2 ^ (64 - k) - 1) <<< k := by
    rw [Nat.shiftLeft_eq, Nat.sub_mul, ← Nat.pow_add, Nat.sub_add_cancel hk, Nat.one_mul]
  have tm : ∀ j, (2 ^ 64 - 2 ^ k).testBit j = (decide (k ≤ j) && decide (j - k < 64 - k)) := fun j => by
    rw [em, Nat.testBit_shiftLeft, Nat.testBit_two_pow_sub_one]
  constructor
  · intro he j hj
    have : (h &&& (2 ^ 64 - 2 ^ k)).testBit j = h.testBit j := by rw [he]
    rw [Nat.testBit_and, tm, show decide (k ≤ j) = false by simp; omega] at this
    simpa using this.symm
  · intro hz
    apply Nat.eq_of_testBit_eq
    intro j
    rw [Nat.testBit_and, tm]
    by_cases hj : j < k
    · rw [hz j hj]; rfl
    · by_cases h64 : j < 64
      · rw [show decide (k ≤ j) = true by simp; omega, show decide (j - k < 64 - k) = true by simp; omega]; simp
      · rw [Nat.testBit_lt_two_pow (Nat.lt_of_lt_of_le hh (Nat.pow_le_pow_right (by decide) (by omega)))]; rfl
/-- The masks, reckoned. -/
def mask1 (n : Nat) : Nat := 2 ^ 64 - 2 ^ (64 - min n 64)
def mask2 (n : Nat) : Nat := 2 ^ 64 - 2 ^ (128 - max n 64)
theorem masks : ((List.range 129).all fun n => (wide_Mask n).hi == (mask1 n : Int) && (wide_Mask n).lo == (mask2 n : Int)) = true := by kernel_rfl
theorem mask_eq {n : Nat} (h : n ≤ 128) : (wide_Mask n).hi = (mask1 n : Int) ∧ (wide_Mask n).lo = (mask2 n : Int) := by
  have := List.all_eq_true.1 masks n (by simp; omega)
  simpa using this
theorem and64 {h m : Nat} (hh : h < 2 ^ 64) (hm : m < 2 ^ 64) : w64 (BitVec.ofInt 64 (h : Int) &&& BitVec.ofInt 64 (m : Int)).toNat = ((h &&& m : Nat) : Int) := by
  rw [BitVec.ofInt_natCast, BitVec.ofInt_natCast, BitVec.toNat_and, BitVec.toNat_ofNat, BitVec.toNat_ofNat, Nat.mod_eq_of_lt hh, Nat.mod_eq_of_lt hm]
  have : h &&& m ≤ h := Nat.and_le_left
  exact w64_of (by omega) (by omega)
theorem top_iff {h l n : Nat} (hh : h < 2 ^ 64) (hl : l < 2 ^ 64) (hn : n ≤ 128) :
    ((h : Int) = (wide_Top ⟨h, l⟩ n).hi ∧ (l : Int) = (wide_Top ⟨h, l⟩ n).lo) ↔ noneFrom h l n 128 0 = true := by
  obtain ⟨m1, m2⟩ := mask_eq hn
  have e1 : (wide_Top ⟨h, l⟩ n).hi = ((h &&& mask1 n : Nat) : Int) := by
    unfold wide_Top wide_And; rw [m1]
    exact and64 hh (by unfold mask1; have : 0 < 2 ^ (64 - min n 64) := Nat.pow_pos (by decide); omega)
  have e2 : (wide_Top ⟨h, l⟩ n).lo = ((l &&& mask2 n : Nat) : Int) := by
    unfold wide_Top wide_And; rw [m2]
    exact and64 hl (by unfold mask2; have : 0 < 2 ^ (128 - max n 64) := Nat.pow_pos (by decide); omega)
  have a1 := and_mask hh (k := 64 - min n 64) (by omega)
  have a2 := and_mask hl (k := 128 - max n 64) (by omega)
  rw [e1, e2, noneFrom_iff]
  unfold mask1 mask2
  constructor
  · intro ⟨h1, h2⟩ j _ hj hnj
    by_cases h6 : j < 64
    · rw [bitOf_hi h6]
      exact a1.1 (by omega) _ (by omega)
    · rw [bitOf_lo h6]
      exact a2.1 (by omega) _ (by omega)
  · intro hb
    refine ⟨congrArg Nat.cast (a1.2 fun j hj => ?_).symm, congrArg Nat.cast (a2.2 fun j hj => ?_).symm⟩
    · have := hb (63 - j) (by omega) (by omega) (by omega)
      rw [bitOf_hi (by omega)] at this
      rwa [show 63 - (63 - j) = j by omega] at this
    · have := hb (127 - j) (by omega) (by omega) (by omega)
      rw [bitOf_lo (by omega)] at this
      rwa [show 127 - (127 - j) = j by omega] at this
/-! ## Keys -/
theorem key_Width_1 : key_Width 1 = 32 := by decide
theorem key_Width_2 : key_Width 2 = 128 := by decide
theorem key_Width_0 {n : Int} (h1 : n ≠ 1) (h2 : n ≠ 2) (h3 : n ≠ 3) : key_Width n = 0 := by
  unfold key_Width key_WidthC
  rw [beq_f h1, beq_f h2, beq_f h3]; rfl
theorem bytes_nil {a : ByteArray} : (a.toList == noT.toList) = true ↔ a = noT := by
  rw [beq_iff_eq]; exact ⟨bytes_ext, fun h => by rw [h]⟩
theorem letters_bits {N : Nat} {a : Ky} (h : KyIn N a) (hk : a.kind = 1 ∨ a.kind = 2) : letters a = key_Right a := by
  obtain ⟨_, _, h3, h4, _⟩ := h
  obtain ⟨w0, w1⟩ := key_Width_in a.kind
  have hw : key_Width a.kind ≠ 0 := by rcases hk with e | e <;> rw [e] <;> decide
  have hkr : key_Right a = bif decide (a.len ≥ 0) then (bif decide (a.len ≤ key_Width a.kind) then kyEq a (key_ofBits a.kind a.len (key_bits a)) else false) else false := by
    unfold key_Right key_RightC
    rcases hk with e | e <;> rw [e] <;> rfl
  have hle : letters a = bif decide (a.len < 0) then false else bif decide (a.len > key_Width a.kind) then false else bif !(a.path.toList == noT.toList) then false else noneFrom a.hi a.lo a.len 128 0 := by
    unfold letters lettersC
    rw [beq_f (show ¬ a.kind = 3 by omega), beq_f hw]; rfl
  rw [hkr, hle]
  by_cases l0 : a.len < 0
  · rw [show decide (a.len < 0) = true by simpa using l0, show decide (a.len ≥ 0) = false by simp; omega]; rfl
  · rw [show decide (a.len < 0) = false by simpa using l0, show decide (a.len ≥ 0) = true by simp; omega]
    by_cases lw : a.len > key_Width a.kind
    · rw [show decide (a.len > key_Width a.kind) = true by simpa using lw, show decide (a.len ≤ key_Width a.kind) = false by simp; omega]; rfl
    · rw [show decide (a.len > key_Width a.kind) = false by simpa using lw, show decide (a.len ≤ key_Width a.kind) = true by simp; omega]
      simp only [cond_true, cond_false]
      apply Bool.eq_iff_iff.2
      rw [kyEq_iff]
      cases a with | mk kind len hi lo path =>
      simp only at *
      unfold inU at h3 h4
      obtain ⟨hn, rfl⟩ : ∃ n : Nat, hi = n := ⟨hi.toNat, by omega⟩
      obtain ⟨ln, rfl⟩ : ∃ n : Nat, lo = n := ⟨lo.toNat, by omega⟩
      obtain ⟨nn, rfl⟩ : ∃ n : Nat, len = n := ⟨len.toNat, by omega⟩
      have key := top_iff (h := hn) (l := ln) (n := nn) (by omega) (by omega) (by omega)
      simp only [key_ofBits, key_bits, Ky.mk.injEq, true_and]
      rw [← and_assoc, key]
      cases hp : path.toList == noT.toList with
      | true => have := bytes_nil.1 hp; simp [this]
      | false =>
        simp only [Bool.not_false, cond_true, Bool.false_eq_true, false_iff]
        rintro ⟨_, e⟩
        rw [bytes_nil.2 e] at hp; cases hp
theorem letters_eq {N : Nat} {a : Ky} (h : KyIn N a) : letters a = key_Right a := by
  by_cases k1 : a.kind = 1
  · exact letters_bits h (.inl k1)
  by_cases k2 : a.kind = 2
  · exact letters_bits h (.inr k2)
  by_cases k3 : a.kind = 3
  · unfold letters lettersC key_Right key_RightC
    rw [k3]
    simp only [show ((3 : Int) == 1) = false by decide, show ((3 : Int) == 2) = false by decide, beq_self_eq_true, cond_true, cond_false, id]
    cases pathRight a.path with
    | false => rfl
    | true =>
      simp only [Bool.not_true, cond_false, cond_true]
      apply Bool.eq_iff_iff.2
      rw [kyEq_iff]
      cases a with | mk kind len hi lo path =>
      simp only at *
      subst k3
      simp only [key_ofPath, Ky.mk.injEq, true_and, and_true]
      by_cases e1 : ((pathL path).length : Int) = len
      · by_cases e2 : hi = 0
        · by_cases e3 : lo = 0
          · simp [e1, e2, e3]
          · simp [e1, e2, e3]
        · simp [e1, e2]
      · simp [e1]; intro e; exact absurd e.symm e1
  · unfold letters lettersC key_Right key_RightC
    rw [beq_f k1, beq_f k2, beq_f k3, key_Width_0 k1 k2 k3]
    rfl
end Go.Cb
namespace Go.Cb
open Go.Ev Go.Proofs.YtadmfmbpojcnpaaDoor
/-! ## Prefixes and flows -/
theorem r8_On_eq {N : Nat} {a : Ky} (h : KyIn N a) (d : Dm) (n : Int) : r8_On d n a = dim_On d n a := by
  unfold r8_On r8_OnC dim_On dim_OnC
  rw [letters_eq h]
  cases decide (dim_Len d n < 0) with
  | true => rfl
  | false =>
    cases key_Right a <;> cases a.kind != d.kind <;> simp only [Bool.not_true, Bool.not_false, cond_true, cond_false, id]
    by_cases e : a.len = dim_Len d n
    · rw [e]; cases a.kind == 3 <;> simp
    · rw [beq_f e]
      cases a.kind == 3
      · rfl
      · exact decide_eq_decide.2 (by omega)
theorem r9_Right_eq {N : Nat} {s : Sp} {p : Px} (h0 : KyIn N p.k0) (h1 : KyIn N p.k1) : r9_Right s p = prefix_Right s p := by
  unfold r9_Right r9_RightC prefix_Right prefix_RightC
  rw [r8_On_eq h0, r8_On_eq h1]
  cases h : prefix_Sound s with
  | false => rfl
  | true =>
    rcases prefix_Sound_n h with hn | hn <;> rw [hn]
    · cases dim_On s.d0 p.at0 p.k0 <;> rfl
    · cases dim_On s.d0 p.at0 p.k0 <;> cases dim_On s.d1 p.at1 p.k1 <;> rfl
theorem r9_LeafOk_eq {N : Nat} {s : Sp} {a b : Ky} (h0 : KyIn N a) (h1 : KyIn N b) : r9_LeafOk s a b = prefix_LeafOk s a b := r9_Right_eq (p := ⟨0, 0, a, b⟩) h0 h1
theorem r9_Leaf_eq' {N : Nat} {s : Sp} {a b : Ky} (h0 : KyIn N a) (h1 : KyIn N b) : r9_Leaf s a b = prefix_Leaf s a b := by
  unfold r9_Leaf prefix_Leaf prefix_orNone
  rw [r9_LeafOk_eq h0 h1]
  rfl
theorem KyIn_k0 {N : Nat} : KyIn N k0 := ⟨⟨by decide, by decide⟩, ⟨by decide, by decide⟩, ⟨by decide, by decide⟩, ⟨by decide, by decide⟩, Nat.zero_le _⟩
theorem r13_addr_eq {N : Nat} {a : Ky} (h : KyIn N a) : r13_addr a = flow_rightAddr a := by
  unfold r13_addr r13_addrC flow_rightAddr flow_rightAddrC
  rw [letters_eq h]
  by_cases k1 : a.kind = 1
  · rw [k1, key_Width_1]
    cases a.len == 32 <;> cases key_Right a <;> cases kyEq a k0 <;> rfl
  by_cases k2 : a.kind = 2
  · rw [k2, key_Width_2]
    cases a.len == 128 <;> cases key_Right a <;> cases kyEq a k0 <;> rfl
  rw [beq_f k1, beq_f k2]
  by_cases k3 : a.kind = 3
  · rw [k3]
    cases kyEq a k0 <;> rfl
  · have : key_Right a = false := by
      unfold key_Right key_RightC
      rw [beq_f k1, beq_f k2, beq_f k3]; rfl
    rw [this]
    cases kyEq a k0 <;> cases a.kind != 3 <;> rfl
theorem r13_path_eq {N : Nat} {a : Ky} (h : KyIn N a) : r13_path a = flow_rightPath a := by
  unfold r13_path r13_pathC flow_rightPath flow_rightPathC
  rw [letters_eq h]
  simp only [bne]
  cases a.kind == 3 <;> cases key_Right a <;> cases kyEq a k0 <;> rfl
theorem r13_Right_eq {N : Nat} {f : Rc} (h : RcIn N f) : r13_Right f = flow_Right f := by
  obtain ⟨h1, h2, h3, h4, _⟩ := h
  unfold r13_Right flow_Right flow_RightC
  rw [r13_addr_eq h1, r13_addr_eq h2, r13_path_eq h3, r13_path_eq h4]
  cases flow_rightAddr f.a0 <;> cases flow_rightPath f.p0 <;> cases flow_rightAddr f.a1 <;> cases flow_rightPath f.p1 <;> rfl
theorem addr_kind {a : Ky} (h : flow_rightAddr a = true) : a.kind ≠ 3 := by
  rcases rightAddr_of h with rfl | ⟨h1, _⟩
  · decide
  · exact h1
theorem path_kind {a : Ky} (h : flow_rightPath a = true) : a.kind = 0 ∨ a.kind = 3 := by
  rcases rightPath_of h with rfl | ⟨h1, _⟩
  · exact .inl rfl
  · exact .inr h1
theorem r13_Key_eq {N : Nat} {f : Rc} (h : RcIn N f) (d : Dm) : r13_Key f d = (flow_Key f d, flow_KeyOk f d) := by
  unfold r13_Key flow_Key flow_KeyOk
  rw [r13_Right_eq h]
  cases hr : flow_Right f with
  | false => rfl
  | true =>
    cases hd : dim_Right d with
    | false => rfl
    | true =>
      obtain ⟨a0, p0, a1, p1⟩ := flow_Right_sides hr
      have hk := dim_kind hd
      have go : ∀ a p : Ky, flow_rightAddr a = true → flow_rightPath p = true → (bif a.kind == d.kind then (a, true) else bif p.kind == d.kind then (p, true) else (k0, false)) =
          ((bif (bif d.kind == 3 then p else a).kind == d.kind then (bif d.kind == 3 then p else a) else k0), ((bif d.kind == 3 then p else a).kind == d.kind)) := fun a p ha hp => by
        have h1 := addr_kind ha
        have h2 := path_kind hp
        by_cases h3 : d.kind = 3
        · rw [h3, beq_f h1]
          simp only [beq_self_eq_true, cond_true, cond_false]
          cases p.kind == 3 <;> rfl
        · rw [beq_f h3, beq_f (show ¬ p.kind = d.kind by omega)]
          simp only [cond_false]
          cases a.kind == d.kind <;> rfl
      unfold r13_all flow_side
      simp only [Bool.true_and, cond_true]
      cases d.side == 1
      · exact go _ _ a1 p1
      · exact go _ _ a0 p0
theorem flow_Key_in {N : Nat} {f : Rc} (h : RcIn N f) (d : Dm) : KyIn N (flow_Key f d) := by
  obtain ⟨h1, h2, h3, h4, _⟩ := h
  unfold flow_Key flow_side
  cases flow_KeyOk f d <;> cases d.kind == 3 <;> cases d.side == 1 <;> first | exact KyIn_k0 | assumption
theorem r13_Leaf_eq {N : Nat} {s : Sp} {f : Rc} (h : RcIn N f) : r13_Leaf s f = (flow_Leaf s f, flow_LeafOk s f) := by
  unfold r13_Leaf r13_LeafC flow_Leaf flow_LeafOk flow_has flow_snd
  rw [r13_Key_eq h, r13_Key_eq h]
  simp only
  rw [r9_Leaf_eq' (flow_Key_in h s.d0) KyIn_k0, r9_LeafOk_eq (flow_Key_in h s.d0) KyIn_k0, r9_Leaf_eq' (flow_Key_in h s.d0) (flow_Key_in h s.d1), r9_LeafOk_eq (flow_Key_in h s.d0) (flow_Key_in h s.d1)]
  cases prefix_Sound s <;> cases s.n == 1 <;> cases flow_KeyOk f s.d0 <;> cases flow_KeyOk f s.d1 <;> rfl
def tells (f : Rc) (s : Sp) (d : Dm) (b : Int) : Option D :=
  bif flow_Right f == r13_Right f then (bif kyEq (flow_Key f d) (r13_Key f d).1 then (bif flow_KeyOk f d == (r13_Key f d).2 then (bif pxEq (flow_Leaf s f) (r13_Leaf s f).1 then (bif flow_LeafOk s f == (r13_Leaf s f).2 then
    some (B (flow_Weight f b == flow_Weight f b)) else some (B false)) else some (B false)) else some (B false)) else some (B false)) else some (B false)
theorem tells_true {N : Nat} {f : Rc} (h : RcIn N f) (s : Sp) (d : Dm) (b : Int) : tells f s d b = some (B true) := by
  unfold tells
  rw [r13_Right_eq h, r13_Key_eq h, r13_Leaf_eq h]
  simp [kyEq_refl, pxEq_refl]
theorem r13_TotalFrom_eq {N : Nat} (s : Sp) (b : Int) : ∀ {l : List Rc} {left : Int}, (∀ a ∈ l, RcIn N a) → 0 ≤ left → left ≤ 4611686018427387904 →
    r13_TotalFrom s b l left = flow_TotalFrom s b l (4611686018427387904 - left)
  | [], left, _, h0, h1 => by
    simp only [r13_TotalFrom, flow_TotalFrom]
    rw [w64_of (by omega) (by omega)]
  | f :: r, left, h, h0, h1 => by
    have hf := h f (by simp)
    have hw : 0 ≤ flow_Weight f b := by
      obtain ⟨_, _, _, _, h5, h6⟩ := hf
      unfold flow_Weight flow_WeightC
      simp only [Bool.cond_eq_ite, id]
      unfold inU at h5 h6
      repeat (first | omega | split)
    have ih := fun {left : Int} => r13_TotalFrom_eq (N := N) s b (l := r) (left := left) (fun a ha => h a (by simp [ha]))
    simp only [r13_TotalFrom, flow_TotalFrom]
    rw [r13_Leaf_eq hf]
    cases flow_LeafOk s f with
    | false => exact ih h0 h1
    | true =>
      simp only [cond_true, Bool.not_true, cond_false]
      rw [w64_of (n := 4611686018427387904 - (4611686018427387904 - left)) (by omega) (by omega), show 4611686018427387904 - (4611686018427387904 - left) = left by omega]
      by_cases hgt : flow_Weight f b > left
      · rw [show decide (flow_Weight f b > left) = true by simpa using hgt]; rfl
      · rw [show decide (flow_Weight f b > left) = false by simpa using hgt]
        simp only [cond_false]
        rw [w64_of (n := left - flow_Weight f b) (by omega) (by omega), ih (by omega) (by omega), w64_of (by omega) (by omega)]
        rw [show 4611686018427387904 - (left - flow_Weight f b) = 4611686018427387904 - left + flow_Weight f b by omega]
theorem r13_Total_eq {N : Nat} (s : Sp) (b : Int) {l : List Rc} (h : ∀ a ∈ l, RcIn N a) : r13_Total l s b = flow_Total l s b := r13_TotalFrom_eq s b h (by decide) (by decide)
end Go.Cb
namespace Go.Proofs.YtadmfmbpojcnpaaDoor
open Go.Ev Go.Cb
theorem law_FlowTells_C (f : Rc) (s : Sp) (d : Dm) (b : Int) : evalF (envOf [(12, e_alive), (8, e_flow_Key), (9, e_r13_Key), (10, e_flow_Leaf), (11, e_r13_Leaf), (13, e_flow_Right), (14, e_r13_Right), (15, e_flow_Weight), (16, e_flow_Weight)]) tb 3 Tryd.f3 [cRc.enc f, cSp.enc s, cDm.enc d, cI.enc b] = tells f s d b := by kernel_rfl
theorem law_FlowTells {N : Nat} (f : Rc) (s : Sp) (d : Dm) (b : Int) (h : RcIn N f) (_ : SpIn s) (_ : DmIn d) (_ : inI b) : Go.Ev.Spec Tryd.prog gl 3 [cRc.enc f, cSp.enc s, cDm.enc d, cI.enc b] (B true) :=
  sp (.cons ok_alive (.cons ok_flow_Key (.cons ok_r13_Key (.cons ok_flow_Leaf (.cons ok_r13_Leaf (.cons ok_flow_Right (.cons ok_r13_Right (.cons ok_flow_Weight (.cons ok_r13_Weight .nil))))))))) Tryd.func3 3 ((law_FlowTells_C f s d b).trans (tells_true h s d b))
end Go.Proofs.YtadmfmbpojcnpaaDoor
