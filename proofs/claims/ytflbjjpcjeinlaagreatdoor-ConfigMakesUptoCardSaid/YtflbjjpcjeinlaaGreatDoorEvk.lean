/- Regions that draw their order: whatever order is drawn, the end is that of the text's order. -/
import Derived.Test.YtflbjjpcjeinlaaGreatDoorEvj
namespace Go.Ev
open Go Go.RowKit

/-! ### What comes ahead of what -/
theorem testBit_foldl (acc : List Nat) (k : Nat) : ∀ (l : List Edge) (s : Nat), (l.foldl (fun s e => s ||| 2 ^ e.on ||| acc.getD e.on 0) s).testBit k = true → s.testBit k = true ∨ ∃ e ∈ l, e.on = k ∨ (acc.getD e.on 0).testBit k = true
  | [], s, h => .inl h
  | e :: l, s, h => by
    rcases testBit_foldl acc k l _ h with h | ⟨e', he', h⟩
    · simp only [Nat.testBit_or, Bool.or_eq_true] at h
      rcases h with (h | h) | h
      · exact .inl h
      · rw [Nat.testBit_two_pow] at h
        exact .inr ⟨e, by simp, .inl (by simpa using h)⟩
      · exact .inr ⟨e, by simp, .inr h⟩
    · exact .inr ⟨e', by simp [he'], h⟩

theorem ahead_len : ∀ (l : List Oper) (acc : List Nat), (ahead l acc).length = acc.length + l.length
  | [], acc => by simp [ahead]
  | o :: l, acc => by simp only [ahead]; rw [ahead_len l]; simp; omega

theorem ahead_prefix : ∀ (l : List Oper) (acc : List Nat) (i : Nat), i < acc.length → (ahead l acc)[i]? = acc[i]?
  | [], acc, i, h => rfl
  | o :: l, acc, i, h => by
    simp only [ahead]
    rw [ahead_prefix l _ i (by simp; omega), List.getElem?_append_left h]

theorem ahead_at : ∀ (l : List Oper) (acc : List Nat) (j : Nat) (o : Oper), l[j]? = some o →
    ∃ acc' : List Nat, acc'.length = acc.length + j ∧ (∀ i, i < acc'.length → (ahead l acc)[i]? = acc'[i]?) ∧ (ahead l acc)[acc.length + j]? = some ((aft o).foldl (fun s e => s ||| 2 ^ e.on ||| acc'.getD e.on 0) 0)
  | [], acc, j, o, h => by simp at h
  | x :: l, acc, 0, o, h => by
    simp at h
    subst h
    refine ⟨acc, rfl, fun i hi => ?_, ?_⟩
    · exact ahead_prefix (x :: l) acc i hi
    · simp only [ahead]
      rw [ahead_prefix l _ _ (by simp)]
      simp
  | x :: l, acc, j + 1, o, h => by
    obtain ⟨acc', h1, h2, h3⟩ := ahead_at l (acc ++ [(aft x).foldl (fun s e => s ||| 2 ^ e.on ||| acc.getD e.on 0) 0]) j o (by simpa using h)
    refine ⟨acc', by rw [h1]; simp; omega, fun i hi => by simp only [ahead]; exact h2 i hi, ?_⟩
    simp only [ahead]
    simp only [List.length_append, List.length_singleton] at h3
    rw [show acc.length + (j + 1) = acc.length + 1 + j by omega]
    exact h3

section
variable {X : List (FuncId × FeX)} {L : List Tmp} {ops : Array Oper}

theorem edges_at : ∀ (l : List Oper) (i : Nat), edgesOk i l = true → ∀ (j : Nat) (o : Oper), l[j]? = some o → ∀ e ∈ aft o, e.on < i + j
  | [], _, _, j, o, h => by simp at h
  | x :: l, i, hk, j, o, h => by
    simp only [edgesOk, Bool.and_eq_true, List.all_eq_true] at hk
    cases j with
    | zero =>
      simp at h
      subst h
      intro e he
      have := hk.1 e he
      simp only [Nat.blt_eq] at this
      simpa using this
    | succ j =>
      intro e he
      have := edges_at l (i + 1) hk.2 j o (by simpa using h) e he
      omega

/-- The bits lead back along the edges. -/
theorem ahead_bit (hk : edgesOk 0 ops.toList = true) {j k : Nat} {o : Oper} (ho : ops[j]? = some o) (h : ((ahead ops.toList []).getD j 0).testBit k = true) :
    ∃ e ∈ aft o, e.on < j ∧ (e.on = k ∨ ((ahead ops.toList []).getD e.on 0).testBit k = true) := by
  obtain ⟨acc', h1, h2, h3⟩ := ahead_at ops.toList [] j o (by simpa using ho)
  simp only [List.length_nil, Nat.zero_add] at h1 h3
  rw [List.getD_eq_getElem?_getD, h3] at h
  simp only [Option.getD_some] at h
  rcases testBit_foldl acc' k _ _ h with h | ⟨e, he, h⟩
  · simp at h
  · have hlt := (edges_at _ 0 hk j o (by simpa using ho) e he)
    refine ⟨e, he, by omega, h.imp id fun h => ?_⟩
    rw [List.getD_eq_getElem?_getD, h2 e.on (by omega), ← List.getD_eq_getElem?_getD]
    exact h

/-- A set of operations that holds what comes ahead of each. -/
def Closed (ops : Array Oper) (E : Nat → Bool) : Prop := ∀ i o, ops[i]? = some o → E i = true → ∀ e ∈ aft o, E e.on = true

theorem Closed.bits (hk : edgesOk 0 ops.toList = true) {E : Nat → Bool} (hE : Closed ops E) : ∀ (j k : Nat) (o : Oper), ops[j]? = some o → (∀ e ∈ aft o, E e.on = true) → ((ahead ops.toList []).getD j 0).testBit k = true → E k = true ∧ k < j := by
  intro j
  induction j using Nat.strongRecOn with
  | _ j ih =>
    intro k o ho hall h
    obtain ⟨e, he, hlt, h⟩ := ahead_bit hk ho h
    have hEe := hall e he
    rcases h with rfl | h
    · exact ⟨hEe, hlt⟩
    · have hsz : e.on < ops.size := by
        have := (Array.getElem?_eq_some_iff.1 ho).1
        omega
      have ho' : ops[e.on]? = some ops[e.on] := by simp [hsz]
      have := ih e.on hlt k _ ho' (hE _ _ ho' hEe) h
      exact ⟨this.1, by omega⟩

theorem pairs_at {ah : List Nat} {i : Nat} {x : Oper} : ∀ (j : Nat) (l : List Oper), pairsOk X L ops ah i x j l = true → ∀ (k : Nat) (y : Oper), l[k]? = some y → pairOk X L ops ah i x (j + k) y = true
  | _, [], _, k, y, h => by simp at h
  | j, z :: l, hk, k, y, h => by
    simp only [pairsOk, Bool.and_eq_true] at hk
    cases k with
    | zero => simp at h; subst h; exact hk.1
    | succ k => have := pairs_at (j + 1) l hk.2 k y (by simpa using h); rwa [show j + 1 + k = j + (k + 1) by omega] at this

theorem all_at {ah : List Nat} : ∀ (i : Nat) (l : List Oper), allOk X L ops ah i l = true → ∀ (j k : Nat) (x y : Oper), j < k → l[j]? = some x → l[k]? = some y → pairOk X L ops ah (i + j) x (i + k) y = true
  | _, [], _, j, k, x, y, _, h, _ => by simp at h
  | i, z :: l, hk, j, k, x, y, hlt, hx, hy => by
    simp only [allOk, Bool.and_eq_true] at hk
    cases k with
    | zero => omega
    | succ k =>
      cases j with
      | zero =>
        simp at hx
        subst hx
        have := pairs_at (i + 1) l hk.1 k y (by simpa using hy)
        rwa [show i + 1 + k = i + (k + 1) by omega] at this
      | succ j =>
        have := all_at (i + 1) l hk.2 j k x y (by omega) (by simpa using hx) (by simpa using hy)
        rwa [show i + 1 + j = i + (j + 1) by omega, show i + 1 + k = i + (k + 1) by omega] at this

/-- Two operations that clash. -/
def Clash (X : List (FuncId × FeX)) (L : List Tmp) (ops : Array Oper) (x y : Oper) : Prop :=
  (∃ d, x.dst = some d ∧ (d ∈ names ops y ∨ y.dst = some d)) ∨ (∃ d, y.dst = some d ∧ d ∈ names ops x) ∨
  (stores x.op = true ∧ looks y.op = true) ∨ (looks x.op = true ∧ stores y.op = true) ∨ (appends x.op = true ∧ appends y.op = true) ∨
  (mayX X x.op = true ∧ memL L X y.op = true) ∨ (memL L X x.op = true ∧ mayX X y.op = true)

theorem clash_cmp (hd : drawOk X L ops = true) {j k : Nat} {x y : Oper} (hlt : j < k) (hx : ops[j]? = some x) (hy : ops[k]? = some y) (hc : Clash X L ops x y) : cmpb (ahead ops.toList []) j k = true := by
  simp only [drawOk, Bool.and_eq_true] at hd
  have := all_at 0 _ hd.2 j k x y hlt (by simpa using hx) (by simpa using hy)
  simp only [Nat.zero_add] at this
  unfold pairOk at this
  simp only [Bool.and_eq_true, Bool.or_eq_true, Bool.not_eq_true'] at this
  obtain ⟨⟨h1, h2⟩, h3⟩ := this
  rcases hc with ⟨d, hd', h⟩ | ⟨d, hd', h⟩ | h | h | h | h | h
  · rw [hd'] at h1
    simp only [Bool.or_eq_true, Bool.not_eq_true', Bool.or_eq_false_iff] at h1
    rcases h1 with h1 | h1
    · rcases h with h | h
      · have := h1.1; simp [h] at this
      · have := h1.2; simp [h] at this
    · exact h1
  · rw [hd'] at h2
    simp only [Bool.or_eq_true, Bool.not_eq_true'] at h2
    rcases h2 with h2 | h2
    · simp [h] at h2
    · exact h2
  · simp only [Bool.or_eq_false_iff, Bool.and_eq_false_iff] at h3
    rcases h3 with h3 | h3
    · simp [h.1, h.2] at h3
    · exact h3
  · simp only [Bool.or_eq_false_iff, Bool.and_eq_false_iff] at h3
    rcases h3 with h3 | h3
    · simp [h.1, h.2] at h3
    · exact h3
  · simp only [Bool.or_eq_false_iff, Bool.and_eq_false_iff] at h3
    rcases h3 with h3 | h3
    · simp [h.1, h.2] at h3
    · exact h3
  · simp only [Bool.or_eq_false_iff, Bool.and_eq_false_iff] at h3
    rcases h3 with h3 | h3
    · simp [h.1, h.2] at h3
    · exact h3
  · simp only [Bool.or_eq_false_iff, Bool.and_eq_false_iff] at h3
    rcases h3 with h3 | h3
    · simp [h.1, h.2] at h3
    · exact h3

theorem Clash.symm {x y : Oper} (h : Clash X L ops x y) : Clash X L ops y x := by
  rcases h with ⟨d, hd, h | h⟩ | ⟨d, hd, h⟩ | h | h | h | h | h
  · exact .inr (.inl ⟨d, hd, h⟩)
  · exact .inl ⟨d, h, .inr hd⟩
  · exact .inl ⟨d, hd, .inl h⟩
  · exact .inr (.inr (.inr (.inl ⟨h.2, h.1⟩)))
  · exact .inr (.inr (.inl ⟨h.2, h.1⟩))
  · exact .inr (.inr (.inr (.inr (.inl ⟨h.2, h.1⟩))))
  · exact .inr (.inr (.inr (.inr (.inr (.inr ⟨h.2, h.1⟩)))))
  · exact .inr (.inr (.inr (.inr (.inr (.inl ⟨h.2, h.1⟩)))))

/-- Of two that clash, one of which may come up now, the other one has come up just if it stands ahead. -/
theorem clash_iff (hd : drawOk X L ops = true) {E : Nat → Bool} (hE : Closed ops E) {j k : Nat} {x y : Oper} (hx : ops[j]? = some x) (hy : ops[k]? = some y) (hne : k ≠ j) (hc : Clash X L ops x y)
    (hready : ∀ e ∈ aft x, E e.on = true) (hj : E j = false) : (E k = true ↔ k < j) := by
  have hk : edgesOk 0 ops.toList = true := by simp only [drawOk, Bool.and_eq_true] at hd; exact hd.1
  have hcmp : cmpb (ahead ops.toList []) j k = true ∨ cmpb (ahead ops.toList []) k j = true := by
    rcases Nat.lt_or_gt_of_ne hne with h | h
    · exact .inr (clash_cmp hd h hy hx hc.symm)
    · exact .inl (clash_cmp hd h hx hy hc)
  have hbit : ((ahead ops.toList []).getD j 0).testBit k = true ∨ ((ahead ops.toList []).getD k 0).testBit j = true := by
    rcases hcmp with h | h
    · simp only [cmpb, Bool.or_eq_true] at h; exact h.symm
    · simp only [cmpb, Bool.or_eq_true] at h; exact h
  constructor
  · intro hEk
    rcases hbit with h | h
    · exact (hE.bits hk j k x hx hready h).2
    · have := (hE.bits hk k j y hy (hE k y hy hEk) h).1
      rw [hj] at this; cases this
  · intro hlt
    rcases hbit with h | h
    · exact (hE.bits hk j k x hx hready h).1
    · exfalso
      -- j comes ahead of k by the bits, but stands behind it
      have hall : Closed ops (fun _ => true) := fun _ _ _ _ _ _ => rfl
      have := (hall.bits hk k j y hy (fun _ _ => rfl) h).2
      omega
end
end Go.Ev
