/- Digits: plain laws. -/
import Derived.Test.YtflbjjpcjeinlaaDoorNs
namespace Go.Cb
open Go.Ev Go.Proofs.YtflbjjpcjeinlaaDoor
def u8i (n : Int) : UInt8 := UInt8.ofNat n.toNat
def dE (k n : Nat) : List UInt8 := (decR k n).reverse.map u8i
theorem dE_succ (k n : Nat) : dE (k + 1) n = (if n / 10 = 0 then [] else dE k (n / 10)) ++ [UInt8.ofNat (48 + n % 10)] := by
  unfold dE
  rw [decR]
  have e : u8i (48 + (n : Int) % 10) = UInt8.ofNat (48 + n % 10) := by
    unfold u8i
    congr 1
  split
  · simp [e]
  · simp [e]
theorem printN_list (n : Nat) : (printN n).data.toList = dE 20 n := by
  rw [printN, txtL_list]; rfl
theorem u8_dig {m : Nat} (h : m < 10) : (UInt8.ofNat (48 + m)).toNat = 48 + m := by
  simp [UInt8.toNat_ofNat']
  omega
theorem dE_digit : ∀ (k n : Nat), ∀ c ∈ dE k n, 48 ≤ c.toNat ∧ c.toNat ≤ 57
  | 0, n, c, h => by simp [dE, decR] at h
  | k + 1, n, c, h => by
    rw [dE_succ, List.mem_append] at h
    rcases h with h | h
    · split at h
      · simp at h
      · exact dE_digit k _ c h
    · simp only [List.mem_singleton] at h
      subst h
      rw [u8_dig (by omega)]
      omega
theorem dE_val : ∀ (k n : Nat), n < 10 ^ k → 0 < k → valL (dE k n) = n
  | 0, n, _, h => by omega
  | k + 1, n, h, _ => by
    rw [dE_succ, valL_snoc, u8_dig (by omega)]
    split
    · simp [valL]; omega
    · have hk : 0 < k := by
        rcases Nat.eq_zero_or_pos k with hk | hk
        · subst hk; simp at h; omega
        · exact hk
      rw [dE_val k (n / 10) (by rw [Nat.pow_succ] at h; omega) hk]
      omega
theorem dE_ne (k n : Nat) : dE (k + 1) n ≠ [] := by rw [dE_succ]; simp
theorem dE_head : ∀ (k n : Nat), 0 < n → n < 10 ^ k → ∃ c r, dE k n = c :: r ∧ c.toNat ≠ 48
  | 0, n, h, h2 => by simp at h2; omega
  | k + 1, n, h, h2 => by
    rw [dE_succ]
    split
    · exact ⟨_, [], rfl, by rw [u8_dig (by omega)]; omega⟩
    · obtain ⟨c, r, e, hc⟩ := dE_head k (n / 10) (by omega) (by rw [Nat.pow_succ] at h2; omega)
      exact ⟨c, r ++ [UInt8.ofNat (48 + n % 10)], by rw [e]; rfl, hc⟩
theorem dE_one (k n : Nat) (h : n < 10) : dE (k + 1) n = [UInt8.ofNat (48 + n)] := by
  rw [dE_succ, if_pos (by omega), Nat.mod_eq_of_lt h]; rfl
/-- A list of digits that a number's text may be. -/
def isDig (l : List UInt8) : Prop := (∀ c ∈ l, 48 ≤ c.toNat ∧ c.toNat ≤ 57) ∧ ∃ c r, l = c :: r ∧ (r = [] ∨ c.toNat ≠ 48)
theorem dE_isDig (n : Nat) (h : n < 10 ^ 20) : isDig (dE 20 n) := by
  refine ⟨dE_digit 20 n, ?_⟩
  by_cases h0 : n < 10
  · exact ⟨_, [], dE_one 19 n h0, .inl rfl⟩
  · obtain ⟨c, r, e, hc⟩ := dE_head 20 n (by omega) h
    exact ⟨c, r, e, .inr hc⟩
theorem val_cons (c : UInt8) (r : List UInt8) : c.toNat - 48 ≤ valL (c :: r) := by
  unfold valL
  rw [List.foldl_cons]
  have := fold_ge r (10 * 0 + (c.toNat - 48))
  omega
theorem dig_back : ∀ (m : Nat) (l : List UInt8), l.length = m → isDig l → ∀ k, valL l < 10 ^ (k + 1) → dE (k + 1) (valL l) = l
  | m, l, hm, ⟨h1, c0, r0, h2, h3⟩, k, hk => by
    rcases List.eq_nil_or_concat l with h | ⟨l', c, h⟩
    · subst h; cases h2
    · rw [List.concat_eq_append] at h
      have hc := h1 c (by rw [h]; simp)
      have hv : valL l = 10 * valL l' + (c.toNat - 48) := by rw [h, valL_snoc]
      have hcc : UInt8.ofNat (48 + (c.toNat - 48)) = c := by
        rw [show 48 + (c.toNat - 48) = c.toNat by omega]; simp
      cases l' with
      | nil =>
        have hv0 : valL l = c.toNat - 48 := by rw [hv]; simp [valL]
        rw [hv0, dE_one k _ (by omega), hcc, h]
        rfl
      | cons a b =>
        have ha : a = c0 := by rw [h] at h2; simp at h2; exact h2.1
        have hr0 : r0 ≠ [] := by rw [h] at h2; simp at h2; intro e; rw [e] at h2; simp at h2
        have ha' : a.toNat ≠ 48 := by rw [ha]; exact h3.resolve_left hr0
        have had := h1 a (by rw [h]; simp)
        have hpos := val_cons a b
        obtain ⟨k', hk'⟩ : ∃ k', k = k' + 1 := by
          cases k with
          | zero => simp at hk; omega
          | succ k => exact ⟨k, rfl⟩
        subst hk'
        have hlen : m = b.length + 2 := by rw [h] at hm; simp at hm; omega
        have ih := dig_back (b.length + 1) (a :: b) rfl ⟨fun x hx => h1 x (by rw [h]; exact List.mem_append.2 (.inl hx)), a, b, rfl, .inr ha'⟩ k' (by rw [Nat.pow_succ] at hk; omega)
        rw [dE_succ, hv, if_neg (by omega), show (10 * valL (a :: b) + (c.toNat - 48)) / 10 = valL (a :: b) by omega, show (10 * valL (a :: b) + (c.toNat - 48)) % 10 = c.toNat - 48 by omega, hcc, ih, h]
  termination_by m => m
  decreasing_by omega
/-! Texts of digits. -/
theorem allDig_of {s : ByteArray} (h : ∀ c ∈ s.data.toList, 48 ≤ c.toNat ∧ c.toNat ≤ 57) : ∀ (r i : Nat), i + r = s.size → allDig s r i = true
  | 0, _, _ => rfl
  | r + 1, i, e => by
    have hlt : i < s.data.toList.length := by rw [← size_list]; omega
    have hb : byteAt s i = (s.data.toList[i].toNat : Int) := by unfold byteAt; rw [List.getD_eq_getElem?_getD, List.getElem?_eq_getElem hlt]; rfl
    have hc := h _ (List.getElem_mem hlt)
    simp only [allDig, Bool.and_eq_true]
    refine ⟨?_, allDig_of h r (i + 1) (by omega)⟩
    rw [hb]
    simp only [digB, Bool.and_eq_true, Bool.not_eq_true', decide_eq_false_iff_not]
    omega
theorem isText_iff {s : ByteArray} : isTextB s = true ↔ isDig s.data.toList := by
  have hsz := size_list s
  constructor
  · intro h
    unfold isTextB at h
    rw [Bool.and_eq_true] at h
    have hd : ∀ c ∈ s.data.toList, 48 ≤ c.toNat ∧ c.toNat ≤ 57 := fun c hc => by
      obtain ⟨i, hi, rfl⟩ := List.getElem_of_mem hc
      have := allDig_at s.size 0 i h.1 (by omega) (by omega)
      have hb : byteAt s i = (s.data.toList[i].toNat : Int) := by unfold byteAt; rw [List.getD_eq_getElem?_getD, List.getElem?_eq_getElem hi]; rfl
      rw [hb] at this
      simp only [digB, Bool.and_eq_true, Bool.not_eq_true', decide_eq_false_iff_not] at this
      omega
    refine ⟨hd, ?_⟩
    have h2 := h.2
    have hb0 : byteAt s 0 = ((s.data.toList.getD 0 0).toNat : Int) := rfl
    rw [hb0, hsz] at h2
    cases hl : s.data.toList with
    | nil => rw [hl] at h2; cases h2
    | cons c r =>
      refine ⟨c, r, rfl, ?_⟩
      rw [hl] at h2
      cases r with
      | nil => exact .inl rfl
      | cons d r =>
        right
        rw [show ((((c :: d :: r).length : Nat) : Int) == 1) = false by simp; omega, cond_false, show decide ((((c :: d :: r).length : Nat) : Int) > 1) = true by simp; omega, cond_true] at h2
        have h2 : ((c.toNat : Int) != 48) = true := by simpa using h2
        rw [bne_iff_ne] at h2
        omega
  · rintro ⟨hd, c, r, hl, hr⟩
    unfold isTextB
    rw [Bool.and_eq_true]
    refine ⟨allDig_of hd s.size 0 (by omega), ?_⟩
    have hb0 : byteAt s 0 = (c.toNat : Int) := by unfold byteAt; rw [hl]; rfl
    rw [hb0, hsz, hl]
    cases r with
    | nil => rfl
    | cons d r =>
      have := hr.resolve_left (by simp)
      rw [show ((((c :: d :: r).length : Nat) : Int) == 1) = false by simp; omega, cond_false, show decide ((((c :: d :: r).length : Nat) : Int) > 1) = true by simp; omega, cond_true]
      rw [bne_iff_ne]
      omega
/-- What is printed is read. -/
theorem num_back (n : Nat) (h : n ≤ 2147483647) : numNo (printN n) = false ∧ numGr (printN n) = false ∧ numV (printN n) = n := by
  have ht : isTextB (printN n) = true := isText_iff.2 (by rw [printN_list]; exact dE_isDig n (by omega))
  have hv : wval (printN n) = n := by unfold wval; rw [printN_list]; exact dE_val 20 n (by omega) (by omega)
  have hE : parE (printN n) mostN = 0 := by unfold parE; rw [ht, hv, decide_eq_true (show (n : Int) ≤ mostN by show (n : Int) ≤ 2147483647; omega)]; rfl
  have hV : parV (printN n) mostN = n := by unfold parV; rw [ht, hv, decide_eq_true (show (n : Int) ≤ mostN by show (n : Int) ≤ 2147483647; omega)]; rfl
  refine ⟨by unfold numNo; rw [hE]; rfl, by unfold numGr; rw [hE]; rfl, ?_⟩
  unfold numV
  rw [hV, i64_in (by omega) (by omega)]
/-- What is read is printed. -/
theorem num_there {s : ByteArray} (h1 : numNo s = false) (h2 : numGr s = false) : printN (numV s).toNat = s ∧ 0 ≤ numV s ∧ numV s ≤ mostN := by
  have ht : isTextB s = true := by
    cases h : isTextB s with
    | true => rfl
    | false => unfold numNo parE at h1; rw [h] at h1; cases h1
  have hle : (wval s : Int) ≤ mostN := by
    apply Classical.byContradiction
    intro hn
    unfold numGr parE at h2
    rw [ht, decide_eq_false hn] at h2
    cases h2
  have hV : parV s mostN = wval s := by unfold parV; rw [ht, decide_eq_true hle]; rfl
  have hm : mostN = 2147483647 := rfl
  have hN : numV s = wval s := by unfold numV; rw [hV, i64_in (by omega) (by omega)]
  refine ⟨?_, by omega, by omega⟩
  rw [hN, Int.toNat_natCast]
  refine bytes_eq ?_
  rw [printN_list]
  exact dig_back _ _ rfl (isText_iff.1 ht) 19 (by have : wval s = valL s.data.toList := rfl; omega)
theorem printN_no (n : Nat) (c : UInt8) (h : c.toNat < 48 ∨ 57 < c.toNat) : c ∉ (printN n).data.toList := by
  rw [printN_list]
  intro hc
  have := dE_digit 20 n c hc
  omega
end Go.Cb
