/- Texts cut, split and joined at a sign: plain laws. -/
import Derived.Test.YtflbjjpcjeinlaaDoorNt
namespace Go.Cb
open Go.Ev
/-- What lies between signs, one behind the other (cur: what has been read since the last one). -/
def piecesC (c0 : UInt8) : List UInt8 → List UInt8 → List ByteArray
  | [], cur => [⟨cur.toArray⟩]
  | c :: r, cur => bif c == c0 then ⟨cur.toArray⟩ :: piecesC c0 r [] else piecesC c0 r (cur ++ [c])
theorem pieces_none {c0 : UInt8} : ∀ (l cur : List UInt8), (∀ c ∈ l, c ≠ c0) → piecesC c0 l cur = [⟨(cur ++ l).toArray⟩]
  | [], cur, _ => by simp [piecesC]
  | c :: r, cur, h => by
    have h1 : (c == c0) = false := by simpa using h c (by simp)
    rw [piecesC, h1, cond_false, pieces_none r (cur ++ [c]) (fun x hx => h x (by simp [hx]))]
    simp
theorem pieces_dot {c0 : UInt8} : ∀ (l cur r : List UInt8), (∀ c ∈ l, c ≠ c0) → piecesC c0 (l ++ c0 :: r) cur = ⟨(cur ++ l).toArray⟩ :: piecesC c0 r []
  | [], cur, r, _ => by simp [piecesC]
  | c :: l, cur, r, h => by
    have h1 : (c == c0) = false := by simpa using h c (by simp)
    rw [List.cons_append, piecesC, h1, cond_false, pieces_dot l (cur ++ [c]) r (fun x hx => h x (by simp [hx]))]
    simp
theorem pieces_ne {c0 : UInt8} (l cur : List UInt8) : piecesC c0 l cur ≠ [] := by
  induction l generalizing cur with
  | nil => simp [piecesC]
  | cons c r ih =>
    rw [piecesC]
    cases c == c0
    · exact ih _
    · simp
end Go.Cb
namespace Go.Cb
open Go.Ev Go.Lib
theorem byte_hit {c0 : UInt8} : ∀ (l : List UInt8) (i : Nat), indexByte l c0 = i → ∃ a r, l = a ++ c0 :: r ∧ a.length = i ∧ ∀ c ∈ a, c ≠ c0
  | [], i, h => by simp [indexByte] at h
  | c :: l, i, h => by
    unfold indexByte at h
    by_cases hc : c = c0
    · subst hc
      simp at h
      exact ⟨[], l, rfl, by simp at h ⊢; omega, by simp⟩
    · have hc' : (c == c0) = false := by simpa using hc
      simp only [hc', Bool.false_eq_true, if_false] at h
      have ge := indexByte_ge l c0
      by_cases hm : indexByte l c0 = -1
      · simp [hm] at h
      · have hm' : (indexByte l c0 == -1) = false := by simpa using hm
        simp [hm'] at h
        obtain ⟨a, r, h1, h2, h3⟩ := byte_hit (c0 := c0) l (i - 1) (by omega)
        refine ⟨c :: a, r, by rw [h1]; rfl, by simp [h2]; omega, ?_⟩
        intro x hx
        rcases List.mem_cons.1 hx with rfl | hx
        · exact hc
        · exact h3 x hx
theorem byte_miss {c0 : UInt8} : ∀ (l : List UInt8), indexByte l c0 = -1 → ∀ c ∈ l, c ≠ c0
  | [], _ => by simp
  | c :: l, h => by
    unfold indexByte at h
    by_cases hc : c = c0
    · subst hc; simp at h
    · have hc' : (c == c0) = false := by simpa using hc
      simp only [hc', Bool.false_eq_true, if_false] at h
      have ge := indexByte_ge l c0
      by_cases hm : indexByte l c0 = -1
      · intro x hx
        rcases List.mem_cons.1 hx with rfl | hx
        · exact hc
        · exact byte_miss l hm x hx
      · have hm' : (indexByte l c0 == -1) = false := by simpa using hm
        simp [hm'] at h; omega
theorem splitK_pieces {c0 : UInt8} : ∀ (n : Nat) (s : ByteArray), s.size ≤ n → splitB ⟨#[c0]⟩ 0 (countB s ⟨#[c0]⟩) s = piecesC c0 s.data.toList []
  | n, s, hn => by
    have hi : indexB s ⟨#[c0]⟩ = indexByte s.data.toList c0 := index_one s.data.toList c0
    have ge := indexByte_ge s.data.toList c0
    by_cases hm : indexByte s.data.toList c0 = -1
    · rw [countB_miss _ _ (hi.trans hm), splitB_zero, pieces_none _ _ (byte_miss _ hm)]
      rfl
    · obtain ⟨i, h⟩ : ∃ i : Nat, indexByte s.data.toList c0 = i := ⟨(indexByte s.data.toList c0).toNat, by omega⟩
      obtain ⟨a, r, h1, h2, h3⟩ := byte_hit _ i h
      have hsz : s.size = a.length + (r.length + 1) := by
        have : s.size = s.data.toList.length := Array.length_toList.symm
        rw [this, h1]; simp
      have e1 : s.extract 0 (i + 0) = ⟨a.toArray⟩ := bytes_eq (by
        simp [h1, ← h2])
      have e2 : s.extract (i + 1) s.size = ⟨r.toArray⟩ := bytes_eq (by
        simp [h1, ← h2]
        rw [List.take_of_length_le (by omega)])
      rw [countB_hit s ⟨#[c0]⟩ i (Nat.le_refl 1) (hi.trans h), Nat.add_comm 1, splitB_hit _ _ _ _ i (hi.trans h), e1]
      show _ :: splitB _ 0 (countB (s.extract (i + 1) s.size) _) (s.extract (i + 1) s.size) = _
      rw [e2, splitK_pieces (n - 1) ⟨r.toArray⟩ (by show r.toArray.size ≤ _; simp; omega), h1, pieces_dot _ _ _ h3]
      rfl
theorem splitS_pieces (p : ByteArray) (c0 : UInt8) : splitS p ⟨#[c0]⟩ = piecesC c0 p.data.toList [] := splitK_pieces _ p (Nat.le_refl _)
/-- Joined, what was split is as it was. -/
theorem pieces_join {c0 : UInt8} : ∀ (l cur : List UInt8), Lib.join ((piecesC c0 l cur).map (·.data.toList)) [c0] = cur ++ l
  | [], cur => by simp [piecesC, Lib.join, List.intercalate]
  | c :: r, cur => by
    rw [piecesC]
    cases h : c == c0 with
    | true =>
      have hc : c = c0 := by simpa using h
      have ih := pieces_join (c0 := c0) r []
      rw [cond_true]
      obtain ⟨x, xs, e⟩ := List.exists_cons_of_ne_nil (pieces_ne (c0 := c0) r [])
      rw [e] at ih ⊢
      unfold Lib.join at ih ⊢
      rw [List.map_cons, List.map_cons, List.intercalate_cons_cons]
      rw [List.map_cons] at ih
      rw [ih, hc]
      simp
    | false =>
      rw [cond_false, pieces_join r (cur ++ [c])]
      simp
theorem join_split (s : ByteArray) (c0 : UInt8) : joinS (splitS s ⟨#[c0]⟩) ⟨#[c0]⟩ = s := by
  refine bytes_eq ?_
  rw [splitS_pieces]
  show (Lib.join _ [c0]) = _
  rw [pieces_join, List.nil_append]
/-- Split, what was joined is as it was. -/
theorem split_join (c0 : UInt8) : ∀ (l : List ByteArray), l ≠ [] → (∀ x ∈ l, c0 ∉ x.data.toList) → splitS (joinS l ⟨#[c0]⟩) ⟨#[c0]⟩ = l := by
  intro l hne h
  rw [splitS_pieces]
  show piecesC c0 (Lib.join (l.map (·.data.toList)) [c0]) [] = l
  have nb : ∀ x ∈ l, ∀ c ∈ x.data.toList, c ≠ c0 := fun x hx c hc e => h x hx (e ▸ hc)
  clear h
  induction l with
  | nil => exact absurd rfl hne
  | cons x l ih =>
    cases l with
    | nil =>
      unfold Lib.join
      rw [List.map_cons, List.map_nil, List.intercalate_singleton, pieces_none _ _ (nb x (by simp))]
      simp
    | cons y l =>
      have ih := ih (by simp) fun z hz => nb z (by simp at hz ⊢; right; exact hz)
      unfold Lib.join at ih ⊢
      rw [List.map_cons, List.map_cons, List.intercalate_cons_cons, List.append_assoc, List.singleton_append, pieces_dot _ _ _ (nb x (by simp))]
      rw [List.map_cons] at ih
      rw [ih]
      simp
/-! Cut at a sign. -/
theorem index_has {c0 : UInt8} : ∀ (a r : List UInt8), c0 ∉ a → Lib.index (a ++ c0 :: r) [c0] = a.length
  | [], r, _ => by simp [Lib.index, List.isPrefixOf]
  | x :: a, r, h => by
    have hx : ¬ c0 = x := fun e => h (by simp [e])
    have ha : c0 ∉ a := fun hc => h (List.mem_cons_of_mem _ hc)
    have ih := index_has a r ha
    rw [List.cons_append, Lib.index, ih]
    have e1 : (List.isPrefixOf [c0] (x :: (a ++ c0 :: r))) = false := by simp [List.isPrefixOf, hx]
    rw [if_neg (by rw [e1]; simp), if_neg (by simp)]
    simp
theorem index_no {c0 : UInt8} : ∀ (l : List UInt8), c0 ∉ l → Lib.index l [c0] = -1
  | [], _ => by simp [Lib.index]
  | x :: l, h => by
    have hx : ¬ c0 = x := fun e => h (by simp [e])
    have ha : c0 ∉ l := fun hc => h (List.mem_cons_of_mem _ hc)
    have ih := index_no l ha
    rw [Lib.index, ih]
    have e1 : (List.isPrefixOf [c0] (x :: l)) = false := by simp [List.isPrefixOf, hx]
    rw [if_neg (by rw [e1]; simp), if_pos (by simp)]
theorem cut_has {s : ByteArray} {c0 : UInt8} {a r : List UInt8} (hs : s.data.toList = a ++ c0 :: r) (h : c0 ∉ a) : cutA s ⟨#[c0]⟩ = ⟨a.toArray⟩ ∧ cutZ s ⟨#[c0]⟩ = ⟨r.toArray⟩ ∧ cutOk s ⟨#[c0]⟩ = true := by
  have e : Lib.cut s.data.toList [c0] = (a, r, true) := by
    unfold Lib.cut
    rw [hs, index_has a r h, if_pos (by omega)]
    simp
  unfold cutA cutZ cutOk
  show (⟨(Lib.cut s.data.toList [c0]).1.toArray⟩ : ByteArray) = _ ∧ (⟨(Lib.cut s.data.toList [c0]).2.1.toArray⟩ : ByteArray) = _ ∧ (Lib.cut s.data.toList [c0]).2.2 = true
  rw [e]
  exact ⟨rfl, rfl, rfl⟩
theorem cut_no {s : ByteArray} {c0 : UInt8} (h : c0 ∉ s.data.toList) : cutA s ⟨#[c0]⟩ = s ∧ cutOk s ⟨#[c0]⟩ = false := by
  have e : Lib.cut s.data.toList [c0] = (s.data.toList, [], false) := by
    unfold Lib.cut
    rw [index_no _ h, if_neg (by decide)]
  unfold cutA cutOk
  show (⟨(Lib.cut s.data.toList [c0]).1.toArray⟩ : ByteArray) = _ ∧ (Lib.cut s.data.toList [c0]).2.2 = false
  rw [e]
  exact ⟨bytes_eq (by simp), rfl⟩
theorem first_of {c0 : UInt8} : ∀ (l : List UInt8), c0 ∈ l → ∃ a r, l = a ++ c0 :: r ∧ c0 ∉ a
  | [], h => by simp at h
  | x :: l, h => by
    by_cases hx : c0 = x
    · exact ⟨[], l, by rw [hx]; rfl, by simp⟩
    · obtain ⟨a, r, e, ha⟩ := first_of l (by simpa [hx] using h)
      exact ⟨x :: a, r, by rw [e]; rfl, by simp [hx, ha]⟩
/-- A text is what stands ahead of the first sign, the sign, and what stands behind it. -/
theorem cut_parts (s : ByteArray) (c0 : UInt8) : (cutOk s ⟨#[c0]⟩ = true ∧ s = cutA s ⟨#[c0]⟩ ++ (⟨#[c0]⟩ ++ cutZ s ⟨#[c0]⟩)) ∨ (cutOk s ⟨#[c0]⟩ = false ∧ cutA s ⟨#[c0]⟩ = s) := by
  by_cases h : c0 ∈ s.data.toList
  · obtain ⟨a, r, e, ha⟩ := first_of _ h
    obtain ⟨h1, h2, h3⟩ := cut_has e ha
    refine .inl ⟨h3, bytes_eq ?_⟩
    rw [h1, h2, e]
    simp
  · obtain ⟨h1, h2⟩ := cut_no h
    exact .inr ⟨h2, h1⟩
end Go.Cb
