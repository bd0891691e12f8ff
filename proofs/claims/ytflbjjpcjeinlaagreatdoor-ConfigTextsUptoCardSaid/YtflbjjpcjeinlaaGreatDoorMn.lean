/- Digits: plain laws. Texts cut, split and joined at a sign: plain laws. The reference's printing of numbers, bit by bit: plain laws. -/
import Derived.Test.YtflbjjpcjeinlaaGreatDoorNo
import Derived.Test.YtflbjjpcjeinlaaGreatDoorMi
namespace Go.Cb
open Go.Ev Go.Proofs.YtflbjjpcjeinlaaGreatDoor
def u8i (n : Int) : UInt8 := UInt8.ofNat n.toNat
def dE (k n : Nat) : List UInt8 := (decR k n).reverse.map u8i
theorem dE_succ (k n : Nat) : dE (k + 1) n = (if n / 10 = 0 then [] else dE k (n / 10)) ++ [UInt8.ofNat (48 + n % 10)] := by
  unfold dE
  rw [decR]
  have e : u8i (48 + (n : Int) % 10) = UInt8.ofNat (48 + n % 10) := by
    unfold u8i
    congr 1
  split
  · simp [e]
  · simp [e]
theorem printN_list (n : Nat) : (printN n).data.toList = dE 20 n := by
  rw [printN, txtL_list]; rfl
theorem u8_dig {m : Nat} (h : m < 10) : (UInt8.ofNat (48 + m)).toNat = 48 + m := by
  simp [UInt8.toNat_ofNat']
  omega
theorem dE_digit : ∀ (k n : Nat), ∀ c ∈ dE k n, 48 ≤ c.toNat ∧ c.toNat ≤ 57
  | 0, n, c, h => by simp [dE, decR] at h
  | k + 1, n, c, h => by
    rw [dE_succ, List.mem_append] at h
    rcases h with h | h
    · split at h
      · simp at h
      · exact dE_digit k _ c h
    · simp only [List.mem_singleton] at h
      subst h
      rw [u8_dig (by omega)]
      omega
theorem dE_val : ∀ (k n : Nat), n < 10 ^ k → 0 < k → valL (dE k n) = n
  | 0, n, _, h => by omega
  | k + 1, n, h, _ => by
    rw [dE_succ, valL_snoc, u8_dig (by omega)]
    split
    · simp [valL]; omega
    · have hk : 0 < k := by
        rcases Nat.eq_zero_or_pos k with hk | hk
        · subst hk; simp at h; omega
        · exact hk
      rw [dE_val k (n / 10) (by rw [Nat.pow_succ] at h; omega) hk]
      omega
theorem dE_ne (k n : Nat) : dE (k + 1) n ≠ [] := by rw [dE_succ]; simp
theorem dE_head : ∀ (k n : Nat), 0 < n → n < 10 ^ k → ∃ c r, dE k n = c :: r ∧ c.toNat ≠ 48
  | 0, n, h, h2 => by simp at h2; omega
  | k + 1, n, h, h2 => by
    rw [dE_succ]
    split
    · exact ⟨_, [], rfl, by rw [u8_dig (by omega)]; omega⟩
    · obtain ⟨c, r, e, hc⟩ := dE_head k (n / 10) (by omega) (by rw [Nat.pow_succ] at h2; omega)
      exact ⟨c, r ++ [UInt8.ofNat (48 + n % 10)], by rw [e]; rfl, hc⟩
theorem dE_one (k n : Nat) (h : n < 10) : dE (k + 1) n = [UInt8.ofNat (48 + n)] := by
  rw [dE_succ, if_pos (by omega), Nat.mod_eq_of_lt h]; rfl
/-- A list of digits that a number's text may be. -/
def isDig (l : List UInt8) : Prop := (∀ c ∈ l, 48 ≤ c.toNat ∧ c.toNat ≤ 57) ∧ ∃ c r, l = c :: r ∧ (r = [] ∨ c.toNat ≠ 48)
theorem dE_isDig (n : Nat) (h : n < 10 ^ 20) : isDig (dE 20 n) := by
  refine ⟨dE_digit 20 n, ?_⟩
  by_cases h0 : n < 10
  · exact ⟨_, [], dE_one 19 n h0, .inl rfl⟩
  · obtain ⟨c, r, e, hc⟩ := dE_head 20 n (by omega) h
    exact ⟨c, r, e, .inr hc⟩
theorem val_cons (c : UInt8) (r : List UInt8) : c.toNat - 48 ≤ valL (c :: r) := by
  unfold valL
  rw [List.foldl_cons]
  have := fold_ge r (10 * 0 + (c.toNat - 48))
  omega
theorem dig_back : ∀ (m : Nat) (l : List UInt8), l.length = m → isDig l → ∀ k, valL l < 10 ^ (k + 1) → dE (k + 1) (valL l) = l
  | m, l, hm, ⟨h1, c0, r0, h2, h3⟩, k, hk => by
    rcases List.eq_nil_or_concat l with h | ⟨l', c, h⟩
    · subst h; cases h2
    · rw [List.concat_eq_append] at h
      have hc := h1 c (by rw [h]; simp)
      have hv : valL l = 10 * valL l' + (c.toNat - 48) := by rw [h, valL_snoc]
      have hcc : UInt8.ofNat (48 + (c.toNat - 48)) = c := by
        rw [show 48 + (c.toNat - 48) = c.toNat by omega]; simp
      cases l' with
      | nil =>
        have hv0 : valL l = c.toNat - 48 := by rw [hv]; simp [valL]
        rw [hv0, dE_one k _ (by omega), hcc, h]
        rfl
      | cons a b =>
        have ha : a = c0 := by rw [h] at h2; simp at h2; exact h2.1
        have hr0 : r0 ≠ [] := by rw [h] at h2; simp at h2; intro e; rw [e] at h2; simp at h2
        have ha' : a.toNat ≠ 48 := by rw [ha]; exact h3.resolve_left hr0
        have had := h1 a (by rw [h]; simp)
        have hpos := val_cons a b
        obtain ⟨k', hk'⟩ : ∃ k', k = k' + 1 := by
          cases k with
          | zero => simp at hk; omega
          | succ k => exact ⟨k, rfl⟩
        subst hk'
        have hlen : m = b.length + 2 := by rw [h] at hm; simp at hm; omega
        have ih := dig_back (b.length + 1) (a :: b) rfl ⟨fun x hx => h1 x (by rw [h]; exact List.mem_append.2 (.inl hx)), a, b, rfl, .inr ha'⟩ k' (by rw [Nat.pow_succ] at hk; omega)
        rw [dE_succ, hv, if_neg (by omega), show (10 * valL (a :: b) + (c.toNat - 48)) / 10 = valL (a :: b) by omega, show (10 * valL (a :: b) + (c.toNat - 48)) % 10 = c.toNat - 48 by omega, hcc, ih, h]
  termination_by m => m
  decreasing_by omega
/-! Texts of digits. -/
theorem allDig_of {s : ByteArray} (h : ∀ c ∈ s.data.toList, 48 ≤ c.toNat ∧ c.toNat ≤ 57) : ∀ (r i : Nat), i + r = s.size → allDig s r i = true
  | 0, _, _ => rfl
  | r + 1, i, e => by
    have hlt : i < s.data.toList.length := by rw [← size_list]; omega
    have hb : byteAt s i = (s.data.toList[i].toNat : Int) := by unfold byteAt; rw [List.getD_eq_getElem?_getD, List.getElem?_eq_getElem hlt]; rfl
    have hc := h _ (List.getElem_mem hlt)
    simp only [allDig, Bool.and_eq_true]
    refine ⟨?_, allDig_of h r (i + 1) (by omega)⟩
    rw [hb]
    simp only [digB, Bool.and_eq_true, Bool.not_eq_true', decide_eq_false_iff_not]
    omega
theorem isText_iff {s : ByteArray} : isTextB s = true ↔ isDig s.data.toList := by
  have hsz := size_list s
  constructor
  · intro h
    unfold isTextB at h
    rw [Bool.and_eq_true] at h
    have hd : ∀ c ∈ s.data.toList, 48 ≤ c.toNat ∧ c.toNat ≤ 57 := fun c hc => by
      obtain ⟨i, hi, rfl⟩ := List.getElem_of_mem hc
      have := allDig_at s.size 0 i h.1 (by omega) (by omega)
      have hb : byteAt s i = (s.data.toList[i].toNat : Int) := by unfold byteAt; rw [List.getD_eq_getElem?_getD, List.getElem?_eq_getElem hi]; rfl
      rw [hb] at this
      simp only [digB, Bool.and_eq_true, Bool.not_eq_true', decide_eq_false_iff_not] at this
      omega
    refine ⟨hd, ?_⟩
    have h2 := h.2
    have hb0 : byteAt s 0 = ((s.data.toList.getD 0 0).toNat : Int) := rfl
    rw [hb0, hsz] at h2
    cases hl : s.data.toList with
    | nil => rw [hl] at h2; cases h2
    | cons c r =>
      refine ⟨c, r, rfl, ?_⟩
      rw [hl] at h2
      cases r with
      | nil => exact .inl rfl
      | cons d r =>
        right
        rw [show ((((c :: d :: r).length : Nat) : Int) == 1) = false by simp; omega, cond_false, show decide ((((c :: d :: r).length : Nat) : Int) > 1) = true by simp; omega, cond_true] at h2
        have h2 : ((c.toNat : Int) != 48) = true := by simpa using h2
        rw [bne_iff_ne] at h2
        omega
  · rintro ⟨hd, c, r, hl, hr⟩
    unfold isTextB
    rw [Bool.and_eq_true]
    refine ⟨allDig_of hd s.size 0 (by omega), ?_⟩
    have hb0 : byteAt s 0 = (c.toNat : Int) := by unfold byteAt; rw [hl]; rfl
    rw [hb0, hsz, hl]
    cases r with
    | nil => rfl
    | cons d r =>
      have := hr.resolve_left (by simp)
      rw [show ((((c :: d :: r).length : Nat) : Int) == 1) = false by simp; omega, cond_false, show decide ((((c :: d :: r).length : Nat) : Int) > 1) = true by simp; omega, cond_true]
      rw [bne_iff_ne]
      omega
/-- What is printed is read. -/
theorem num_back (n : Nat) (h : n ≤ 2147483647) : numNo (printN n) = false ∧ numGr (printN n) = false ∧ numV (printN n) = n := by
  have ht : isTextB (printN n) = true := isText_iff.2 (by rw [printN_list]; exact dE_isDig n (by omega))
  have hv : wval (printN n) = n := by unfold wval; rw [printN_list]; exact dE_val 20 n (by omega) (by omega)
  have hE : parE (printN n) mostN = 0 := by unfold parE; rw [ht, hv, decide_eq_true (show (n : Int) ≤ mostN by show (n : Int) ≤ 2147483647; omega)]; rfl
  have hV : parV (printN n) mostN = n := by unfold parV; rw [ht, hv, decide_eq_true (show (n : Int) ≤ mostN by show (n : Int) ≤ 2147483647; omega)]; rfl
  refine ⟨by unfold numNo; rw [hE]; rfl, by unfold numGr; rw [hE]; rfl, ?_⟩
  unfold numV
  rw [hV, i64_in (by omega) (by omega)]
/-- What is read is printed. -/
theorem num_there {s : ByteArray} (h1 : numNo s = false) (h2 : numGr s = false) : printN (numV s).toNat = s ∧ 0 ≤ numV s ∧ numV s ≤ mostN := by
  have ht : isTextB s = true := by
    cases h : isTextB s with
    | true => rfl
    | false => unfold numNo parE at h1; rw [h] at h1; cases h1
  have hle : (wval s : Int) ≤ mostN := by
    apply Classical.byContradiction
    intro hn
    unfold numGr parE at h2
    rw [ht, decide_eq_false hn] at h2
    cases h2
  have hV : parV s mostN = wval s := by unfold parV; rw [ht, decide_eq_true hle]; rfl
  have hm : mostN = 2147483647 := rfl
  have hN : numV s = wval s := by unfold numV; rw [hV, i64_in (by omega) (by omega)]
  refine ⟨?_, by omega, by omega⟩
  rw [hN, Int.toNat_natCast]
  refine bytes_eq ?_
  rw [printN_list]
  exact dig_back _ _ rfl (isText_iff.1 ht) 19 (by have : wval s = valL s.data.toList := rfl; omega)
theorem printN_no (n : Nat) (c : UInt8) (h : c.toNat < 48 ∨ 57 < c.toNat) : c ∉ (printN n).data.toList := by
  rw [printN_list]
  intro hc
  have := dE_digit 20 n c hc
  omega
end Go.Cb
namespace Go.Cb
open Go.Ev
/-- What lies between signs, one behind the other (cur: what has been read since the last one). -/
def piecesC (c0 : UInt8) : List UInt8 → List UInt8 → List ByteArray
  | [], cur => [⟨cur.toArray⟩]
  | c :: r, cur => bif c == c0 then ⟨cur.toArray⟩ :: piecesC c0 r [] else piecesC c0 r (cur ++ [c])
theorem pieces_none {c0 : UInt8} : ∀ (l cur : List UInt8), (∀ c ∈ l, c ≠ c0) → piecesC c0 l cur = [⟨(cur ++ l).toArray⟩]
  | [], cur, _ => by simp [piecesC]
  | c :: r, cur, h => by
    have h1 : (c == c0) = false := by simpa using h c (by simp)
    rw [piecesC, h1, cond_false, pieces_none r (cur ++ [c]) (fun x hx => h x (by simp [hx]))]
    simp
theorem pieces_dot {c0 : UInt8} : ∀ (l cur r : List UInt8), (∀ c ∈ l, c ≠ c0) → piecesC c0 (l ++ c0 :: r) cur = ⟨(cur ++ l).toArray⟩ :: piecesC c0 r []
  | [], cur, r, _ => by simp [piecesC]
  | c :: l, cur, r, h => by
    have h1 : (c == c0) = false := by simpa using h c (by simp)
    rw [List.cons_append, piecesC, h1, cond_false, pieces_dot l (cur ++ [c]) r (fun x hx => h x (by simp [hx]))]
    simp
theorem pieces_ne {c0 : UInt8} (l cur : List UInt8) : piecesC c0 l cur ≠ [] := by
  induction l generalizing cur with
  | nil => simp [piecesC]
  | cons c r ih =>
    rw [piecesC]
    cases c == c0
    · exact ih _
    · simp
end Go.Cb
namespace Go.Cb
open Go.Ev Go.Lib
theorem byte_hit {c0 : UInt8} : ∀ (l : List UInt8) (i : Nat), indexByte l c0 = i → ∃ a r, l = a ++ c0 :: r ∧ a.length = i ∧ ∀ c ∈ a, c ≠ c0
  | [], i, h => by simp [indexByte] at h
  | c :: l, i, h => by
    unfold indexByte at h
    by_cases hc : c = c0
    · subst hc
      simp at h
      exact ⟨[], l, rfl, by simp at h ⊢; omega, by simp⟩
    · have hc' : (c == c0) = false := by simpa using hc
      simp only [hc', Bool.false_eq_true, if_false] at h
      have ge := indexByte_ge l c0
      by_cases hm : indexByte l c0 = -1
      · simp [hm] at h
      · have hm' : (indexByte l c0 == -1) = false := by simpa using hm
        simp [hm'] at h
        obtain ⟨a, r, h1, h2, h3⟩ := byte_hit (c0 := c0) l (i - 1) (by omega)
        refine ⟨c :: a, r, by rw [h1]; rfl, by simp [h2]; omega, ?_⟩
        intro x hx
        rcases List.mem_cons.1 hx with rfl | hx
        · exact hc
        · exact h3 x hx
theorem byte_miss {c0 : UInt8} : ∀ (l : List UInt8), indexByte l c0 = -1 → ∀ c ∈ l, c ≠ c0
  | [], _ => by simp
  | c :: l, h => by
    unfold indexByte at h
    by_cases hc : c = c0
    · subst hc; simp at h
    · have hc' : (c == c0) = false := by simpa using hc
      simp only [hc', Bool.false_eq_true, if_false] at h
      have ge := indexByte_ge l c0
      by_cases hm : indexByte l c0 = -1
      · intro x hx
        rcases List.mem_cons.1 hx with rfl | hx
        · exact hc
        · exact byte_miss l hm x hx
      · have hm' : (indexByte l c0 == -1) = false := by simpa using hm
        simp [hm'] at h; omega
theorem splitK_pieces {c0 : UInt8} : ∀ (n : Nat) (s : ByteArray), s.size ≤ n → splitB ⟨#[c0]⟩ 0 (countB s ⟨#[c0]⟩) s = piecesC c0 s.data.toList []
  | n, s, hn => by
    have hi : indexB s ⟨#[c0]⟩ = indexByte s.data.toList c0 := index_one s.data.toList c0
    have ge := indexByte_ge s.data.toList c0
    by_cases hm : indexByte s.data.toList c0 = -1
    · rw [countB_miss _ _ (hi.trans hm), splitB_zero, pieces_none _ _ (byte_miss _ hm)]
      rfl
    · obtain ⟨i, h⟩ : ∃ i : Nat, indexByte s.data.toList c0 = i := ⟨(indexByte s.data.toList c0).toNat, by omega⟩
      obtain ⟨a, r, h1, h2, h3⟩ := byte_hit _ i h
      have hsz : s.size = a.length + (r.length + 1) := by
        have : s.size = s.data.toList.length := Array.length_toList.symm
        rw [this, h1]; simp
      have e1 : s.extract 0 (i + 0) = ⟨a.toArray⟩ := bytes_eq (by
        simp [h1, ← h2])
      have e2 : s.extract (i + 1) s.size = ⟨r.toArray⟩ := bytes_eq (by
        simp [h1, ← h2]
        rw [List.take_of_length_le (by omega)])
      rw [countB_hit s ⟨#[c0]⟩ i (Nat.le_refl 1) (hi.trans h), Nat.add_comm 1, splitB_hit _ _ _ _ i (hi.trans h), e1]
      show _ :: splitB _ 0 (countB (s.extract (i + 1) s.size) _) (s.extract (i + 1) s.size) = _
      rw [e2, splitK_pieces (n - 1) ⟨r.toArray⟩ (by show r.toArray.size ≤ _; simp; omega), h1, pieces_dot _ _ _ h3]
      rfl
theorem splitS_pieces (p : ByteArray) (c0 : UInt8) : splitS p ⟨#[c0]⟩ = piecesC c0 p.data.toList [] := splitK_pieces _ p (Nat.le_refl _)
/-- Joined, what was split is as it was. -/
theorem pieces_join {c0 : UInt8} : ∀ (l cur : List UInt8), Lib.join ((piecesC c0 l cur).map (·.data.toList)) [c0] = cur ++ l
  | [], cur => by simp [piecesC, Lib.join, List.intercalate]
  | c :: r, cur => by
    rw [piecesC]
    cases h : c == c0 with
    | true =>
      have hc : c = c0 := by simpa using h
      have ih := pieces_join (c0 := c0) r []
      rw [cond_true]
      obtain ⟨x, xs, e⟩ := List.exists_cons_of_ne_nil (pieces_ne (c0 := c0) r [])
      rw [e] at ih ⊢
      unfold Lib.join at ih ⊢
      rw [List.map_cons, List.map_cons, List.intercalate_cons_cons]
      rw [List.map_cons] at ih
      rw [ih, hc]
      simp
    | false =>
      rw [cond_false, pieces_join r (cur ++ [c])]
      simp
theorem join_split (s : ByteArray) (c0 : UInt8) : joinS (splitS s ⟨#[c0]⟩) ⟨#[c0]⟩ = s := by
  refine bytes_eq ?_
  rw [splitS_pieces]
  show (Lib.join _ [c0]) = _
  rw [pieces_join, List.nil_append]
/-- Split, what was joined is as it was. -/
theorem split_join (c0 : UInt8) : ∀ (l : List ByteArray), l ≠ [] → (∀ x ∈ l, c0 ∉ x.data.toList) → splitS (joinS l ⟨#[c0]⟩) ⟨#[c0]⟩ = l := by
  intro l hne h
  rw [splitS_pieces]
  show piecesC c0 (Lib.join (l.map (·.data.toList)) [c0]) [] = l
  have nb : ∀ x ∈ l, ∀ c ∈ x.data.toList, c ≠ c0 := fun x hx c hc e => h x hx (e ▸ hc)
  clear h
  induction l with
  | nil => exact absurd rfl hne
  | cons x l ih =>
    cases l with
    | nil =>
      unfold Lib.join
      rw [List.map_cons, List.map_nil, List.intercalate_singleton, pieces_none _ _ (nb x (by simp))]
      simp
    | cons y l =>
      have ih := ih (by simp) fun z hz => nb z (by simp at hz ⊢; right; exact hz)
      unfold Lib.join at ih ⊢
      rw [List.map_cons, List.map_cons, List.intercalate_cons_cons, List.append_assoc, List.singleton_append, pieces_dot _ _ _ (nb x (by simp))]
      rw [List.map_cons] at ih
      rw [ih]
      simp
/-! Cut at a sign. -/
theorem index_has {c0 : UInt8} : ∀ (a r : List UInt8), c0 ∉ a → Lib.index (a ++ c0 :: r) [c0] = a.length
  | [], r, _ => by simp [Lib.index, List.isPrefixOf]
  | x :: a, r, h => by
    have hx : ¬ c0 = x := fun e => h (by simp [e])
    have ha : c0 ∉ a := fun hc => h (List.mem_cons_of_mem _ hc)
    have ih := index_has a r ha
    rw [List.cons_append, Lib.index, ih]
    have e1 : (List.isPrefixOf [c0] (x :: (a ++ c0 :: r))) = false := by simp [List.isPrefixOf, hx]
    rw [if_neg (by rw [e1]; simp), if_neg (by simp)]
    simp
theorem index_no {c0 : UInt8} : ∀ (l : List UInt8), c0 ∉ l → Lib.index l [c0] = -1
  | [], _ => by simp [Lib.index]
  | x :: l, h => by
    have hx : ¬ c0 = x := fun e => h (by simp [e])
    have ha : c0 ∉ l := fun hc => h (List.mem_cons_of_mem _ hc)
    have ih := index_no l ha
    rw [Lib.index, ih]
    have e1 : (List.isPrefixOf [c0] (x :: l)) = false := by simp [List.isPrefixOf, hx]
    rw [if_neg (by rw [e1]; simp), if_pos (by simp)]
theorem cut_has {s : ByteArray} {c0 : UInt8} {a r : List UInt8} (hs : s.data.toList = a ++ c0 :: r) (h : c0 ∉ a) : cutA s ⟨#[c0]⟩ = ⟨a.toArray⟩ ∧ cutZ s ⟨#[c0]⟩ = ⟨r.toArray⟩ ∧ cutOk s ⟨#[c0]⟩ = true := by
  have e : Lib.cut s.data.toList [c0] = (a, r, true) := by
    unfold Lib.cut
    rw [hs, index_has a r h, if_pos (by omega)]
    simp
  unfold cutA cutZ cutOk
  show (⟨(Lib.cut s.data.toList [c0]).1.toArray⟩ : ByteArray) = _ ∧ (⟨(Lib.cut s.data.toList [c0]).2.1.toArray⟩ : ByteArray) = _ ∧ (Lib.cut s.data.toList [c0]).2.2 = true
  rw [e]
  exact ⟨rfl, rfl, rfl⟩
theorem cut_no {s : ByteArray} {c0 : UInt8} (h : c0 ∉ s.data.toList) : cutA s ⟨#[c0]⟩ = s ∧ cutOk s ⟨#[c0]⟩ = false := by
  have e : Lib.cut s.data.toList [c0] = (s.data.toList, [], false) := by
    unfold Lib.cut
    rw [index_no _ h, if_neg (by decide)]
  unfold cutA cutOk
  show (⟨(Lib.cut s.data.toList [c0]).1.toArray⟩ : ByteArray) = _ ∧ (Lib.cut s.data.toList [c0]).2.2 = false
  rw [e]
  exact ⟨bytes_eq (by simp), rfl⟩
theorem first_of {c0 : UInt8} : ∀ (l : List UInt8), c0 ∈ l → ∃ a r, l = a ++ c0 :: r ∧ c0 ∉ a
  | [], h => by simp at h
  | x :: l, h => by
    by_cases hx : c0 = x
    · exact ⟨[], l, by rw [hx]; rfl, by simp⟩
    · obtain ⟨a, r, e, ha⟩ := first_of l (by simpa [hx] using h)
      exact ⟨x :: a, r, by rw [e]; rfl, by simp [hx, ha]⟩
/-- A text is what stands ahead of the first sign, the sign, and what stands behind it. -/
theorem cut_parts (s : ByteArray) (c0 : UInt8) : (cutOk s ⟨#[c0]⟩ = true ∧ s = cutA s ⟨#[c0]⟩ ++ (⟨#[c0]⟩ ++ cutZ s ⟨#[c0]⟩)) ∨ (cutOk s ⟨#[c0]⟩ = false ∧ cutA s ⟨#[c0]⟩ = s) := by
  by_cases h : c0 ∈ s.data.toList
  · obtain ⟨a, r, e, ha⟩ := first_of _ h
    obtain ⟨h1, h2, h3⟩ := cut_has e ha
    refine .inl ⟨h3, bytes_eq ?_⟩
    rw [h1, h2, e]
    simp
  · obtain ⟨h1, h2⟩ := cut_no h
    exact .inr ⟨h2, h1⟩
end Go.Cb
namespace Go.Cb
open Go.Ev Go.Proofs.YtflbjjpcjeinlaaGreatDoor
def valR : List Int → Int
  | [] => 0
  | x :: r => (x - 48) * 10 ^ r.length + valR r
def digL (l : List Int) : Prop := (∀ x ∈ l, digI x) ∧ ∃ c r, l = c :: r ∧ (r = [] ∨ c ≠ 48)
def twD (L : List Int) (c : Int) : List Int := bif decide ((dbl L c).2 > 0) then 49 :: (dbl L c).1 else (dbl L c).1
theorem dbl_val : ∀ (l : List Int) (c : Int), 10 ^ l.length * (dbl l c).2 + valR (dbl l c).1 = 2 * valR l + c
  | [], c => by simp [dbl, valR]
  | x :: r, c => by
    have ih := dbl_val r c
    have h := Int.mul_ediv_add_emod (dblN x (dbl r c).2) 10
    simp only [dbl, valR, dbl_len, List.length_cons, Int.pow_succ]
    have e : (10 : Int) ^ r.length * dblN x (dbl r c).2 = 10 ^ r.length * (10 * (dblN x (dbl r c).2 / 10)) + 10 ^ r.length * (dblN x (dbl r c).2 % 10) := by rw [← Int.mul_add, h]
    have e2 : (10 : Int) ^ r.length * dblN x (dbl r c).2 = 2 * ((x - 48) * 10 ^ r.length) + 10 ^ r.length * (dbl r c).2 := by
      unfold dblN
      rw [Int.mul_add, Int.mul_comm (x - 48), Int.mul_left_comm]
    rw [show (48 + dblN x (dbl r c).2 % 10 - 48) = dblN x (dbl r c).2 % 10 by omega, Int.mul_comm (dblN x (dbl r c).2 % 10), Int.mul_assoc]
    omega
theorem twD_val {l : List Int} {c : Int} (h : ∀ x ∈ l, digI x) (hc : 0 ≤ c ∧ c ≤ 1) : valR (twD l c) = 2 * valR l + c := by
  have h1 := dbl_val l c
  have h2 := (dbl_in hc l h).1
  unfold twD
  by_cases h3 : (dbl l c).2 > 0
  · rw [decide_eq_true h3, cond_true, valR, dbl_len]
    rw [show (dbl l c).2 = 1 by omega] at h1
    omega
  · rw [decide_eq_false h3, cond_false]
    rw [show (dbl l c).2 = 0 by omega] at h1
    omega
theorem twD_len (l : List Int) (c : Int) : (twD l c).length ≤ l.length + 1 := by
  have := dbl_len l c
  unfold twD
  cases decide ((dbl l c).2 > 0)
  · rw [cond_false]; omega
  · rw [cond_true, List.length_cons]; omega
theorem twD_dig {l : List Int} {c : Int} (h : digL l) (hc : 0 ≤ c ∧ c ≤ 1) : digL (twD l c) := by
  obtain ⟨h1, x, r, rfl, h2⟩ := h
  obtain ⟨h3, h4⟩ := dbl_in hc _ h1
  unfold twD
  by_cases h5 : (dbl (x :: r) c).2 > 0
  · rw [decide_eq_true h5, cond_true]
    refine ⟨fun y hy => ?_, 49, _, rfl, .inr (by decide)⟩
    rcases List.mem_cons.1 hy with rfl | hy
    · exact ⟨by decide, by decide⟩
    · exact h4 y hy
  · rw [decide_eq_false h5, cond_false]
    refine ⟨h4, _, _, rfl, ?_⟩
    rcases h2 with rfl | h2
    · exact .inl rfl
    · right
      have hx : digI x := h1 x (by simp)
      have hr := (dbl_in hc r fun y hy => h1 y (by simp [hy])).1
      unfold digI at hx
      simp only [dbl] at h5
      unfold dblN at h5 ⊢
      omega
theorem bL_txtL {l : List Int} (h : ∀ x ∈ l, digI x) : bL (txtL l) = l := by
  unfold bL
  rw [txtL_list, List.map_map]
  conv => rhs; rw [← List.map_id l]
  refine List.map_congr_left fun x hx => ?_
  have hd := h x hx
  unfold digI at hd
  simp only [Function.comp, id, UInt8.toNat_ofNat']
  omega
theorem bL_twT {l : List Int} {c : Int} (h : ∀ x ∈ l, digI x) (hc : 0 ≤ c ∧ c ≤ 1) : bL (twT l c) = twD l c := by
  have h4 := (dbl_in hc l h).2
  unfold twT twD
  cases decide ((dbl l c).2 > 0) with
  | false => exact bL_txtL h4
  | true =>
    rw [cond_true, cond_true]
    have e := bL_txtL h4
    unfold bL at e ⊢
    rw [ByteArray.data_append, Array.toList_append, List.map_append, e]
    rfl
theorem prR_eq {x : Nat → Int} {N : Nat} (hx : ∀ j, j < 128 → x (127 - j) = (bN N j : Int)) : ∀ (n : Nat) (s : ByteArray), n ≤ 128 → digL (bL s) → s.size + n ≤ 4294967000 → valR (bL s) = ((N / 2 ^ n : Nat) : Int) →
    ∃ s', prR x n s = some (T s') ∧ digL (bL s') ∧ valR (bL s') = (N : Int)
  | 0, s, _, h1, _, h3 => ⟨s, rfl, h1, by simpa using h3⟩
  | n + 1, s, hn, h1, h2, h3 => by
    have hb := bN_le N n
    have hc : 0 ≤ x (127 - n) ∧ x (127 - n) ≤ 1 := by rw [hx n (by omega)]; omega
    have e1 : digsB s = true := digsB_iff.2 h1.1
    have e2 := bL_twT h1.1 hc
    have hlen : (twT (bL s) (x (127 - n))).size ≤ s.size + 1 := by
      have := twD_len (bL s) (x (127 - n))
      rw [← e2, bL_len, bL_len] at this
      exact this
    rw [prR, e1, decide_eq_true hc.1, decide_eq_true hc.2, decide_eq_true (show s.size ≤ 4294967000 by omega)]
    simp only [Bool.and_self, cond_true]
    refine prR_eq hx n _ (by omega) (by rw [e2]; exact twD_dig h1 hc) (by omega) ?_
    rw [e2, twD_val h1.1 hc, h3, hx n (by omega)]
    unfold bN
    rw [Nat.pow_succ, ← Nat.div_div_eq_div_mul]
    omega
/-! Such a text is the number's. -/
theorem fold_val (l : List UInt8) : ∀ n : Nat, l.foldl (fun n c => 10 * n + (c.toNat - 48)) n = n * 10 ^ l.length + valL l := by
  induction l with
  | nil => intro n; simp [valL]
  | cons c r ih =>
    intro n
    have e : valL (c :: r) = (10 * 0 + (c.toNat - 48)) * 10 ^ r.length + valL r := by
      unfold valL
      rw [List.foldl_cons]
      exact ih _
    rw [List.foldl_cons, ih, e, List.length_cons, Nat.pow_succ, Nat.add_mul, Nat.mul_zero, Nat.zero_add, Nat.mul_comm 10 n, Nat.mul_assoc, Nat.mul_comm 10]
    omega
theorem valL_valR : ∀ (l : List UInt8), (∀ c ∈ l, 48 ≤ c.toNat ∧ c.toNat ≤ 57) → (valL l : Int) = valR (l.map fun b => (b.toNat : Int))
  | [], _ => rfl
  | c :: r, h => by
    have ih := valL_valR r fun x hx => h x (by simp [hx])
    have hc := h c (by simp)
    have e : valL (c :: r) = (10 * 0 + (c.toNat - 48)) * 10 ^ r.length + valL r := by
      unfold valL
      rw [List.foldl_cons]
      exact fold_val r _
    rw [e, List.map_cons, valR, ← ih, List.length_map, Int.natCast_add, Int.natCast_mul, Int.natCast_pow, show ((10 * 0 + (c.toNat - 48) : Nat) : Int) = (c.toNat : Int) - 48 by omega]
    rfl
theorem digL_isDig {s : ByteArray} (h : digL (bL s)) : isDig s.data.toList := by
  obtain ⟨h1, c, r, h2, h3⟩ := h
  refine ⟨fun x hx => ?_, ?_⟩
  · have := h1 (x.toNat : Int) (by unfold bL; exact List.mem_map.2 ⟨x, hx, rfl⟩)
    unfold digI at this
    omega
  · unfold bL at h2
    cases hl : s.data.toList with
    | nil => rw [hl] at h2; cases h2
    | cons y l =>
      rw [hl, List.map_cons, List.cons.injEq] at h2
      refine ⟨y, l, rfl, ?_⟩
      rcases h3 with h3 | h3
      · left
        rw [h3] at h2
        exact List.map_eq_nil_iff.1 h2.2
      · right
        omega
theorem print_of {s : ByteArray} {N : Nat} (h : digL (bL s)) (hv : valR (bL s) = (N : Int)) (hN : N < 10 ^ 20) : s = printN N := by
  have hd := digL_isDig h
  have e : valL s.data.toList = N := by
    have := valL_valR _ hd.1
    have hb : valR (bL s) = valR (s.data.toList.map fun b => (b.toNat : Int)) := rfl
    omega
  refine bytes_eq ?_
  rw [printN_list, ← e]
  exact (dig_back _ _ rfl hd 19 (by rw [e]; exact hN)).symm
theorem prR_all {a : Wd} (ha : okW a = true) (hN : wN a < 10 ^ 20) : prR (bitF a) 128 zeroB = some (T (printN (wN a))) := by
  obtain ⟨s, h1, h2, h3⟩ := prR_eq (N := wN a) (fun j hj => bitF_eq ha hj) 128 zeroB (Nat.le_refl _) ⟨fun x hx => by rw [show bL zeroB = [48] from rfl, List.mem_singleton] at hx; subst hx; exact ⟨by decide, by decide⟩, 48, [], rfl, .inl rfl⟩ (by decide) (by
    rw [Nat.div_eq_of_lt (Nat.lt_trans hN (by decide))]; rfl)
  rw [h1, print_of h2 h3 hN]
end Go.Cb
