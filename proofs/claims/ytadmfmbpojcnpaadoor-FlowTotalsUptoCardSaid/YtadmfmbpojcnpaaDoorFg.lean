/- The reference's functions: labels and paths. -/
import Derived.Test.YtadmfmbpojcnpaaDoorFh
namespace Go.Cb
open Go.Ev
theorem bytes_eq {a b : ByteArray} (h : a.data.toList = b.data.toList) : a = b := by
  cases a; cases b
  simp only [Array.toList_inj] at h
  rw [h]
/-- What lies between dots, one behind the other (cur: what has been read since the last one). -/
def pieces : List UInt8 → List UInt8 → List ByteArray
  | [], cur => [⟨cur.toArray⟩]
  | c :: r, cur => bif c == 46 then ⟨cur.toArray⟩ :: pieces r [] else pieces r (cur ++ [c])
theorem pieces_none : ∀ (l cur : List UInt8), (∀ c ∈ l, c ≠ 46) → pieces l cur = [⟨(cur ++ l).toArray⟩]
  | [], cur, _ => by simp [pieces]
  | c :: r, cur, h => by
    have h1 : (c == 46) = false := by simpa using h c (by simp)
    rw [pieces, h1, cond_false, pieces_none r (cur ++ [c]) (fun x hx => h x (by simp [hx]))]
    simp
theorem pieces_dot : ∀ (l cur r : List UInt8), (∀ c ∈ l, c ≠ 46) → pieces (l ++ 46 :: r) cur = ⟨(cur ++ l).toArray⟩ :: pieces r []
  | [], cur, r, _ => by simp [pieces]
  | c :: l, cur, r, h => by
    have h1 : (c == 46) = false := by simpa using h c (by simp)
    rw [List.cons_append, pieces, h1, cond_false, pieces_dot l (cur ++ [c]) r (fun x hx => h x (by simp [hx]))]
    simp
theorem pieces_pos (l cur : List UInt8) : 1 ≤ (pieces l cur).length := by
  induction l generalizing cur with
  | nil => simp [pieces]
  | cons c r ih =>
    rw [pieces]
    cases c == 46
    · exact ih _
    · simp
end Go.Cb
namespace Go.Cb
open Go.Ev Go.Lib
theorem byte_hit : ∀ (l : List UInt8) (i : Nat), indexByte l 46 = i → ∃ a r, l = a ++ 46 :: r ∧ a.length = i ∧ ∀ c ∈ a, c ≠ 46
  | [], i, h => by simp [indexByte] at h
  | c :: l, i, h => by
    unfold indexByte at h
    by_cases hc : c = 46
    · subst hc
      simp at h
      exact ⟨[], l, rfl, by simp at h ⊢; omega, by simp⟩
    · have hc' : (c == 46) = false := by simpa using hc
      simp only [hc', Bool.false_eq_true, if_false] at h
      have ge := indexByte_ge l 46
      by_cases hm : indexByte l 46 = -1
      · simp [hm] at h
      · have hm' : (indexByte l 46 == -1) = false := by simpa using hm
        simp [hm'] at h
        obtain ⟨a, r, h1, h2, h3⟩ := byte_hit l (i - 1) (by omega)
        refine ⟨c :: a, r, by rw [h1]; rfl, by simp [h2]; omega, ?_⟩
        intro x hx
        rcases List.mem_cons.1 hx with rfl | hx
        · exact hc
        · exact h3 x hx
theorem byte_miss : ∀ (l : List UInt8), indexByte l 46 = -1 → ∀ c ∈ l, c ≠ 46
  | [], _ => by simp
  | c :: l, h => by
    unfold indexByte at h
    by_cases hc : c = 46
    · subst hc; simp at h
    · have hc' : (c == 46) = false := by simpa using hc
      simp only [hc', Bool.false_eq_true, if_false] at h
      have ge := indexByte_ge l 46
      by_cases hm : indexByte l 46 = -1
      · intro x hx
        rcases List.mem_cons.1 hx with rfl | hx
        · exact hc
        · exact byte_miss l hm x hx
      · have hm' : (indexByte l 46 == -1) = false := by simpa using hm
        simp [hm'] at h; omega
theorem splitK_pieces : ∀ (n : Nat) (s : ByteArray), s.size ≤ n → splitB ⟨#[46]⟩ 0 (countB s ⟨#[46]⟩) s = pieces s.data.toList []
  | n, s, hn => by
    have hi : indexB s ⟨#[46]⟩ = indexByte s.data.toList 46 := index_one s.data.toList 46
    have ge := indexByte_ge s.data.toList 46
    by_cases hm : indexByte s.data.toList 46 = -1
    · rw [countB_miss _ _ (hi.trans hm), splitB_zero, pieces_none _ _ (byte_miss _ hm)]
      rfl
    · obtain ⟨i, h⟩ : ∃ i : Nat, indexByte s.data.toList 46 = i := ⟨(indexByte s.data.toList 46).toNat, by omega⟩
      obtain ⟨a, r, h1, h2, h3⟩ := byte_hit _ i h
      have hsz : s.size = a.length + (r.length + 1) := by
        have : s.size = s.data.toList.length := Array.length_toList.symm
        rw [this, h1]; simp
      have e1 : s.extract 0 (i + 0) = ⟨a.toArray⟩ := bytes_eq (by
        simp [h1, ← h2])
      have e2 : s.extract (i + 1) s.size = ⟨r.toArray⟩ := bytes_eq (by
        simp [h1, ← h2]
        rw [List.take_of_length_le (by omega)])
      rw [countB_hit s ⟨#[46]⟩ i (by decide) (hi.trans h), Nat.add_comm 1, splitB_hit _ _ _ _ i (hi.trans h), e1]
      show _ :: splitB _ 0 (countB (s.extract (i + 1) s.size) _) (s.extract (i + 1) s.size) = _
      rw [e2, splitK_pieces (n - 1) ⟨r.toArray⟩ (by show r.toArray.size ≤ _; simp; omega), h1, pieces_dot _ _ _ h3]
      rfl
theorem splitS_pieces (p : ByteArray) : splitS p ⟨#[46]⟩ = pieces p.data.toList [] := splitK_pieces _ p (Nat.le_refl _)
end Go.Cb

namespace Go.Cb
open Go.Ev
/-- The reference's scan: the labels from here on, or that there is no path. -/
def scan : List UInt8 → List UInt8 → List ByteArray → Option (List ByteArray)
  | [], cur, acc => bif !isLabel ⟨cur.toArray⟩ then none else bif decide (8 ≤ acc.length) then none else some (acc ++ [⟨cur.toArray⟩])
  | c :: r, cur, acc => bif c == 46 then (bif !isLabel ⟨cur.toArray⟩ then none else bif decide (8 ≤ acc.length) then none else scan r [] (acc ++ [⟨cur.toArray⟩])) else scan r (cur ++ [c]) acc
theorem ble_not {a b : Nat} : Nat.ble a b = !decide (b < a) := by
  by_cases h : b < a
  · rw [show decide (b < a) = true by simpa using h]
    cases hb : Nat.ble a b with
    | false => rfl
    | true => have := Nat.le_of_ble_eq_true hb; omega
  · rw [show decide (b < a) = false by simpa using h, Nat.ble_eq_true_of_le (by omega)]; rfl
theorem scan_eq : ∀ (l cur : List UInt8) (acc : List ByteArray), acc.length ≤ 8 → scan l cur acc = bif Nat.ble (acc.length + (pieces l cur).length) 8 && !((pieces l cur).any fun s => !isLabel s) then some (acc ++ pieces l cur) else none
  | [], cur, acc, h => by
    simp only [scan, pieces, List.length_singleton, List.any_cons, List.any_nil, Bool.or_false]
    rw [ble_not, show decide (8 < acc.length + 1) = decide (8 ≤ acc.length) by by_cases h8 : 8 ≤ acc.length <;> simp [h8] <;> omega]
    cases isLabel ⟨cur.toArray⟩ <;> cases decide (8 ≤ acc.length) <;> rfl
  | c :: r, cur, acc, h => by
    rw [scan, pieces]
    cases c == 46
    · exact scan_eq r (cur ++ [c]) acc h
    · have hp := pieces_pos r []
      simp only [cond_true, List.length_cons, List.any_cons]
      cases isLabel ⟨cur.toArray⟩
      · simp
      · by_cases h8 : 8 ≤ acc.length
        · rw [ble_not, show decide (8 < acc.length + ((pieces r []).length + 1)) = true by simp; omega]; simp [h8]
        · rw [scan_eq r [] _ (by simp; omega)]
          simp only [Bool.not_true, cond_false, show decide (8 ≤ acc.length) = false by simp; omega, List.length_append, List.length_singleton, Bool.false_or, List.append_assoc, List.singleton_append]
          rw [show acc.length + 1 + (pieces r []).length = acc.length + ((pieces r []).length + 1) by omega]
theorem scan_path {p : ByteArray} (h : (p.toList == []) = false) : scan p.data.toList [] [] = bif pathOk p then some (pathL p) else none := by
  rw [scan_eq _ _ _ (by simp), pathL, h]
  unfold pathOk
  rw [splitS_pieces, ble_not]
  simp only [List.length_nil, Nat.zero_add, List.nil_append, cond_false]
  cases (pieces p.data.toList []).any fun s => !isLabel s <;> cases decide (8 < (pieces p.data.toList []).length) <;> rfl
end Go.Cb
namespace Go.Proofs.YtadmfmbpojcnpaaDoor
open Go.Ev Go.Cb
abbrev l_r5_IsLabel : Ens := []
theorem lp_r5_IsLabel_step (F : Nat) (s : ByteArray) (n i : Nat) : lp (envOf []) tb F Tryd.f57 [T s] 0 (n + 1) [(3, I i)] =
    bif decide ((i : Int) < s.size) then (bif bnd i s.size then
      isByteC (fun b => bif !b then some (B false) else lp (envOf []) tb F Tryd.f57 [T s] 0 n [(3, I (i64 (i + 1)))]) (byteAt s ((i : Int).toNat)) else none)
    else (bif decide ((s.size : Int) > 0) then some (B (decide ((s.size : Int) < 17))) else some (B false)) := by kernel_rfl
theorem lp_r5_IsLabel (F : Nat) (s : ByteArray) (hs : s.size ≤ 4294967280) : ∀ n i, i ≤ s.size → s.size - i < n → lp (envOf []) tb F Tryd.f57 [T s] 0 n [(3, I i)] = some (B (allB s (s.size - i) i && okLen s))
  | 0, i, _, h => by omega
  | n + 1, i, h1, h2 => by
    rw [lp_r5_IsLabel_step, bnd_nat, Int.toNat_natCast, isByteC_eq]
    by_cases hi : i < s.size
    · rw [show s.size - i = (s.size - (i + 1)) + 1 by omega]
      have ih := lp_r5_IsLabel F s hs n (i + 1) (by omega) (by omega)
      rw [i64_succ (by omega), ih]
      simp [hi, allB]
      cases isByte (byteAt s i) <;> simp
    · have : s.size - i = 0 := by omega
      simp only [this, allB, okLen]
      rw [show decide ((i : Int) < (s.size : Int)) = false by simp; omega]
      by_cases h1 : 1 ≤ s.size
      · rw [show decide ((s.size : Int) > 0) = true by simp; omega]
        simp [h1]
        constructor <;> omega
      · rw [show decide ((s.size : Int) > 0) = false by rw [decide_eq_false_iff_not]; omega]
        simp [h1]
theorem st_r5_IsLabel (F : Nat) (s : ByteArray) : evalF (envOf []) tb F Tryd.f57 [cT.enc s] = lp (envOf []) tb F Tryd.f57 [T s] 0 F [(3, I 0)] := by kernel_rfl
theorem ok_r5_IsLabel : En 57 e_IsLabel :=
  entry1 (callable Tryd.func57 (by kernel_rfl)) fun s => .str 0 rfl fun hs => sp .nil Tryd.func57 (s.size + 1)
    ((st_r5_IsLabel _ s).trans (lp_r5_IsLabel _ s hs _ 0 (by omega) (by omega)))
/-! Split. -/
abbrev l_r5_Split : Ens := [(57, e_IsLabel)]
noncomputable abbrev lpS5 (F : Nat) (s : ByteArray) (n m : Nat) (g : Nat → List D) (fr i : Int) : Option D :=
  lp (envOf l_r5_Split) tb F Tryd.f49 [T s] 0 n [(4, .sl 1 m g (.tok (hd 4 4))), (5, I fr), (6, I i)]
abbrev noS5 : D := .tup [.sl 1 0 (fun _ => []) .none, B false]
/-- One element behind others. -/
def pushG (m : Nat) (g : Nat → List D) (x : D) (i : Nat) : List D := match Nat.blt i m with | true => g i | false => [x]
theorem lp_r5_Split_step (F : Nat) (s : ByteArray) (n m : Nat) (g : Nat → List D) (fr : Int) (i : Nat) : lpS5 F s (n + 1) m g fr i =
    let cut : Option D :=
      bif decide (0 ≤ fr) && (decide (fr ≤ i) && decide ((i : Int) ≤ s.size)) then
        (bif !isLabel (s.extract fr.toNat (i : Int).toNat) then some noS5 else bif decide ((m : Int) ≥ 8) then some noS5
         else bif decide (0 ≤ fr) && (decide (fr ≤ i) && decide ((i : Int) ≤ s.size)) then
          (bif decide ((m + 1) * 16 ≤ 140737488355328 ∧ m + 1 ≤ 9223372036854775807) then lpS5 F s n (m + 1) (pushG m g (T (s.extract fr.toNat (i : Int).toNat))) (i64 (i + 1)) (i64 (i + 1)) else none) else none) else none
    let fin : Option D := some (.tup [.sl 1 m g .none, B true])
    bif decide ((i : Int) ≤ s.size) then (bif decide ((s.size : Int) > 0) then
      (bif decide ((i : Int) < s.size) then (bif bnd i s.size then (bif byteAt s (i : Int).toNat != 46 then lpS5 F s n m g fr (i64 (i + 1)) else cut) else none) else cut) else fin) else fin := by kernel_rfl
/-- What stands for a list. -/
def RepT (m : Nat) (g : Nat → List D) (l : List ByteArray) : Prop := l.length = m ∧ ∀ j, j < m → g j = [T (l.getD j noT)]
theorem RepT.push {m : Nat} {g : Nat → List D} {l : List ByteArray} (h : RepT m g l) (x : ByteArray) : RepT (m + 1) (pushG m g (T x)) (l ++ [x]) := by
  obtain ⟨h1, h2⟩ := h
  refine ⟨by simp [h1], fun j hj => ?_⟩
  unfold pushG
  by_cases hjm : j < m
  · rw [show Nat.blt j m = true from Nat.ble_eq_true_of_le hjm, h2 j hjm]
    simp [List.getElem?_append_left (show j < l.length by omega)]
  · have : j = m := by omega
    subst this
    rw [blt_f hjm]
    simp [← h1]
theorem RepT.res {m : Nat} {g : Nat → List D} {l : List ByteArray} (h : RepT m g l) {K : Nat → Nat → Prop} {w : World} {r : Value} {p : Pm} (hr : KR K w (.sl 1 m g p) r) : KR K w (cTs.enc l) r := by
  obtain ⟨rfl, h2⟩ := h
  exact hr.sl_congr h2
def ansS5 : Option (List ByteArray) → D
  | some l => .tup [cTs.enc l, B true]
  | none => noS5
theorem lp_r5_Split (F : Nat) (s : ByteArray) (h0 : 0 < s.size) (hs : s.size ≤ 4294967280) : ∀ (n m : Nat) (g : Nat → List D) (acc : List ByteArray) (fr i : Nat), i ≤ s.size → fr ≤ i → m ≤ 8 → RepT m g acc → s.size - i + 1 < n →
    ∃ d, lpS5 F s n m g fr i = some d ∧ ∀ {K w r}, KR K w d r → KR K w (ansS5 (scan (s.data.toList.drop i) ((s.data.toList.take i).drop fr) acc)) r
  | 0, _, _, _, _, _, _, _, _, _, h => by omega
  | n + 1, m, g, acc, fr, i, hi, hf, hm, hg, hn => by
    have hsz : s.data.toList.length = s.size := Array.length_toList
    rw [lp_r5_Split_step]
    have m8 : decide ((m + 1) * 16 ≤ 140737488355328 ∧ m + 1 ≤ 9223372036854775807) = true := by simp; omega
    have ex : s.extract fr i = ⟨((s.data.toList.take i).drop fr).toArray⟩ := bytes_eq (by simp [List.drop_take])
    have i1 : i64 ((i : Int) + 1) = ((i + 1 : Nat) : Int) := i64_succ (by omega)
    simp only [show decide ((0 : Int) ≤ fr) = true by simp, show decide ((fr : Int) ≤ i) = true by simp; omega, Bool.and_self, m8, cond_true, Int.toNat_natCast, ex, i1, show decide ((i : Int) ≤ s.size) = true by simp; omega, show decide ((s.size : Int) > 0) = true by simp; omega]
    have d8 : decide ((m : Int) ≥ 8) = decide (8 ≤ acc.length) := by rw [hg.1]; by_cases h : 8 ≤ m <;> simp [h] <;> omega
    rw [d8]
    generalize hc : (s.data.toList.take i).drop fr = cur
    by_cases hlt : i < s.size
    · have hd : s.data.toList.drop i = s.data.toList[i] :: s.data.toList.drop (i + 1) := List.drop_eq_getElem_cons (by omega)
      have hb : (byteAt s i != 46) = !(s.data.toList[i] == 46) := by
        have e : s.data.toList.getD i 0 = s.data.toList[i] := by simp [hsz, hlt]
        unfold byteAt
        rw [e]
        generalize s.data.toList[i] = c
        by_cases hc : c = 46
        · subst hc; rfl
        · have : c.toNat ≠ 46 := fun h => hc (UInt8.toNat_inj.1 h)
          have h2 : (c == 46) = false := by simpa using hc
          rw [h2]
          simp; omega
      rw [hb, hd, scan, bnd_nat]
      simp only [show decide ((i : Int) < s.size) = true by simp; omega, show decide (i < s.size) = true by simp; omega, cond_true]
      cases h46 : s.data.toList[i] == 46
      · simp only [Bool.not_false, cond_true, cond_false]
        obtain ⟨d, h1, h2⟩ := lp_r5_Split F s h0 hs n m g acc fr (i + 1) (by omega) (by omega) hm hg (by omega)
        refine ⟨d, h1, fun h => ?_⟩
        have := h2 h
        rwa [List.take_succ_eq_append_getElem (by omega), List.drop_append_of_le_length (by simp; omega), hc] at this
      · simp only [Bool.not_true, cond_true, cond_false]
        cases isLabel ⟨cur.toArray⟩
        · exact ⟨_, rfl, fun h => h⟩
        · cases h8 : decide (8 ≤ acc.length)
          · simp only [Bool.not_true, cond_false]
            obtain ⟨d, h1, h2⟩ := lp_r5_Split F s h0 hs n (m + 1) _ (acc ++ [⟨cur.toArray⟩]) (i + 1) (i + 1) (by omega) (by omega) (by have := hg.1; simp at h8; omega) (hg.push _) (by omega)
            refine ⟨d, h1, fun h => ?_⟩
            have := h2 h
            rwa [show ((s.data.toList.take (i + 1)).drop (i + 1)) = [] by simp] at this
          · exact ⟨_, rfl, fun h => h⟩
    · have hd : s.data.toList.drop i = [] := by simp; omega
      rw [hd, scan]
      simp only [show decide ((i : Int) < s.size) = false by simp; omega, cond_false]
      cases isLabel ⟨cur.toArray⟩
      · exact ⟨_, rfl, fun h => h⟩
      · cases h8 : decide (8 ≤ acc.length)
        · simp only [Bool.not_true, cond_false]
          match n, hn with
          | n + 1, _ =>
            rw [lp_r5_Split_step]
            simp only [show decide (((i + 1 : Nat) : Int) ≤ s.size) = false by simp; omega, cond_false]
            exact ⟨_, rfl, fun h => h.fst fun h => (hg.push _).res h⟩
        · exact ⟨_, rfl, fun h => h⟩
theorem st_r5_Split (F : Nat) (s : ByteArray) : evalF (envOf l_r5_Split) tb F Tryd.f49 [T s] = lpS5 F s F 0 (fun _ => []) 0 0 := by kernel_rfl
theorem ok_r5_Split : En 49 e_split :=
  entry1 (callable Tryd.func49 (by kernel_rfl)) fun s => .str 0 rfl fun hs => by
    by_cases h0 : (s.toList == []) = true
    · have hz : s.size = 0 := by
        have := Lib.toList_data s
        have h2 : s.data.toList = [] := by rw [← this]; simpa using h0
        show s.data.size = 0
        rw [← Array.length_toList, h2]; rfl
      have e1 : pathL s = [] := by unfold pathL; rw [h0]; rfl
      have e2 : pathRight s = true := by unfold pathRight; rw [h0]; rfl
      rw [e1, e2]
      refine .res (d := .tup [.sl 1 0 (fun _ => []) .none, B true]) (fun h => h.fst fun h => h.nil rfl) (sp (.cons ok_r5_IsLabel .nil) Tryd.func49 1 ((st_r5_Split 1 s).trans ((lp_r5_Split_step 1 s 0 0 _ 0 0).trans ?_)))
      rw [hz]; rfl
    · have hz : 0 < s.size := by
        apply Nat.pos_of_ne_zero
        intro h
        apply h0
        have := Lib.toList_data s
        have h2 : s.data.toList = [] := List.eq_nil_of_length_eq_zero (by rw [Array.length_toList]; exact h)
        rw [this, h2]; rfl
      have h0' : (s.toList == []) = false := by simpa using h0
      obtain ⟨d, h1, h2⟩ := lp_r5_Split (s.size + 2) s hz hs (s.size + 2) 0 (fun _ => []) [] 0 0 (by omega) (by omega) (by omega) ⟨rfl, fun j hj => by omega⟩ (by omega)
      refine .res ?_ (sp (.cons ok_r5_IsLabel .nil) Tryd.func49 _ ((st_r5_Split _ s).trans h1))
      intro K w r hr
      have := h2 hr
      simp only [List.drop_zero, List.take_zero] at this
      rw [scan_path h0'] at this
      have e2 : pathRight s = pathOk s := by unfold pathRight; rw [h0']; rfl
      rw [e2]
      unfold pathL at this ⊢
      rw [h0'] at this ⊢
      revert this
      cases pathOk s
      · intro this; exact this.fst fun h => h.nil rfl
      · exact fun h => h
end Go.Proofs.YtadmfmbpojcnpaaDoor
