/- The reference's records; lists held against each other. -/
import Derived.Test.YtbjpkbolmpcmfaaDoorVi
namespace Go.Proofs.YtbjpkbolmpcmfaaDoor
open Go.Ev Go.Cb
abbrev l_r14r : Ens := [(16, e_r14_Flows), (11, e_r14_Fault), (20, e_r14_Record)]
abbrev stR14 (L : List Fw) (m : Nat) (G : Nat → List D) (i : Int) : S :=
  { t := stT 29 0 [(2, .sl 22 0 (getE sRc rc0 []) (.tok 14680069)), (3, I 0), (4, .sl 22 m G (.tok 14680073)), (5, cFws.enc L), (6, I i)]
    m := [(14680073, .tok 49), (14680069, .tok 49)], k := 7340061 }
theorem st_r14_Recs (F : Nat) (b : List Int) (H : Nat → List Nat → S → Option D) : evalH (envOf l_r14r) tb F Tryd.f10 0 H (Go.Ev.start Tryd.f10 [cBs.enc b]) (endK tb Tryd.f10) =
    let a := allS sU8 b.length (getE sU8 0 b)
    let B := listS sU8 0 b.length (getE sU8 0 b)
    bif a && decide (B.length ≤ 4294967296) then (bif r14_Fault B != 0 then (bif a && decide (B.length ≤ 4294967296) then some (.tup [cRcs.enc [], I (r14_Fault B)]) else none)
      else bif a && (whole48 B && decide (B.length ≤ 4294967296)) then H 7340032 [] (stR14 (r14_Flows B) 0 (getE sRc rc0 []) 0) else none) else none := by kernel_rfl
theorem rnd_r14_Recs (F : Nat) (L : List Fw) (m : Nat) (G : Nat → List D) (i : Int) (R : S → Option D) :
    rndE (envOf l_r14r) tb F Tryd.f10 0 (endK tb Tryd.f10) 7340032 [] R (stR14 L m G i) =
    bif decide (i < L.length) then (bif bnd i L.length then (bif decide ((m + 1) * 208 ≤ 140737488355328 ∧ m + 1 ≤ 9223372036854775807) then R (stR14 L (m + 1) (pushD sRc rc0 m G (r14_Record (L.getD i.toNat fw0))) (i64 (i + 1))) else none) else none)
    else some (.tup [.sl 22 m G .none, I 0]) := by kernel_rfl
theorem lp_r14_Recs (F : Nat) (L : List Fw) (hL : L.length ≤ 4294967296) : ∀ (r i n : Nat), L.length = i + r → r < n →
    lpE (envOf l_r14r) tb F Tryd.f10 0 (endK tb Tryd.f10) n 7340032 [] (stR14 L ((L.take i).map r14_Record).length (getE sRc rc0 ((L.take i).map r14_Record)) i) = some (.tup [cRcs.enc (L.map r14_Record), I 0])
  | 0, i, n + 1, e, _ => by
    rw [lpE_succ, rnd_r14_Recs, show decide ((i : Int) < (L.length : Int)) = false by simp; omega, show L.take i = L from List.take_of_length_le (by omega)]
    rfl
  | r + 1, i, n + 1, e, h2 => by
    have ih := lp_r14_Recs F L hL r (i + 1) n (by omega) (by omega)
    have hi : i < L.length := by omega
    rw [lpE_succ, rnd_r14_Recs, show decide ((i : Int) < (L.length : Int)) = true by simp; omega, bnd_nat, show decide (i < L.length) = true by simpa using hi, Int.toNat_natCast, i64_succ (by omega)]
    rw [show decide ((((L.take i).map r14_Record).length + 1) * 208 ≤ 140737488355328 ∧ ((L.take i).map r14_Record).length + 1 ≤ 9223372036854775807) = true by simp; omega, pushD_eq, len_push (l := (L.take i).map r14_Record)]
    rw [List.take_succ_eq_append_getElem hi, List.map_append] at ih
    simp only [cond_true, List.getD_eq_getElem?_getD, List.getElem?_eq_getElem hi, Option.getD_some]
    exact ih
abbrev e_r14_Recs : Fe := fn1C cBs (fun b => decide (b.length ≤ 4294967296)) fun b => .tup [cRcs.enc (r14_Recs b), I (r14_Fault b)]
theorem w32_range (n : Int) : 0 ≤ w32 n ∧ w32 n < 4294967296 := by
  unfold w32 IntKind.wrap
  simp [IntKind.signed, IntKind.bits]
  omega
theorem atN_range (b : List Int) (f : Nat) : ∀ s, 0 ≤ atN b f s ∧ atN b f s < 4294967296
  | 0 => by simp [atN]
  | s + 1 => w32_range _
theorem r14_n_at (b : List Int) : r14_n b = atN b 2 2 ∧ 0 ≤ r14_n b ∧ r14_n b < 4294967296 := by
  have h := atN_range b 2 2
  have e : r14_n b = atN b 2 2 := i64_in (n := atN b 2 2) (by omega) (by omega)
  exact ⟨e, by omega, by omega⟩
theorem whole_of {b : List Int} (h : r14_Fault b = 0) : 24 ≤ b.length ∧ r14_At b 0 2 = 5 ∧ 1 ≤ r14_n b ∧ r14_n b ≤ 30 ∧ b.length = 24 + 48 * (r14_n b).toNat := by
  unfold r14_Fault at h
  cases h1 : decide ((b.length : Int) < 24) with
  | true => rw [h1] at h; cases h
  | false =>
  cases h2 : r14_At b 0 2 != 5 with
  | true => rw [h1, h2] at h; cases h
  | false =>
  cases h3 : r14_n b == 0 with
  | true => rw [h1, h2, h3] at h; cases h
  | false =>
  cases h4 : decide (r14_n b > 30) with
  | true => rw [h1, h2, h3, h4] at h; cases h
  | false =>
  cases h5 : decide ((b.length : Int) < r14_all b) with
  | true => rw [h1, h2, h3, h4, h5] at h; cases h
  | false =>
  cases h6 : decide ((b.length : Int) > r14_all b) with
  | true => rw [h1, h2, h3, h4, h5, h6] at h; cases h
  | false =>
    simp only [decide_eq_false_iff_not, bne_eq_false_iff_eq, beq_eq_false_iff_ne] at h1 h2 h3 h4 h5 h6
    obtain ⟨_, n1, n2⟩ := r14_n_at b
    have ha : r14_all b = 24 + 48 * r14_n b := by
      unfold r14_all
      rw [i64_in (n := 48 * r14_n b) (by omega) (by omega), i64_in (by omega) (by omega)]
    rw [ha] at h5 h6
    exact ⟨by omega, h2, by omega, by omega, by omega⟩
theorem ok_r14_Recs : En 10 e_r14_Recs :=
  entry1C (callable Tryd.func10 (by kernel_rfl)) fun b h => sp (.cons ok_r14_Flows (.cons ok_r14_Fault (.cons ok_r14_Record .nil))) Tryd.func10 ((r14_Flows b).length + 1) (by
    have e := (evalF_cut (env := envOf l_r14r) (tb := tb) (F := (r14_Flows b).length + 1) (fn := Tryd.f10) (args := [cBs.enc b]) 0 rfl).trans (st_r14_Recs _ b _)
    simp only [allS_enc, listS_enc, Bool.true_and, h, cond_true] at e
    have hb : b.length ≤ 4294967296 := by simpa using h
    refine e.trans ?_
    unfold r14_Recs
    cases h0 : r14_Fault b != 0 with
    | true => rfl
    | false =>
      have h0 : r14_Fault b = 0 := by simpa using h0
      obtain ⟨_, _, _, _, hl⟩ := whole_of h0
      have hw : whole48 b = true := by simp [whole48]; omega
      have hlen : (r14_Flows b).length ≤ 4294967296 := by simp [r14_Flows]; omega
      rw [hw, h0]
      exact lp_r14_Recs _ _ hlen (r14_Flows b).length 0 ((r14_Flows b).length + 1) (by omega) (by omega))
/-! Lists held against each other. -/
abbrev stSf (a b : List Fw) (i : Int) : S := { t := stT 26 0 [(0, cFws.enc a), (1, cFws.enc b), (4, B false), (5, I i)], m := [], k := 5242906 }
theorem st_sameFlows (F : Nat) (a b : List Fw) (H : Nat → List Nat → S → Option D) : evalH (envOf []) tb F Tryd.f15 0 H (Go.Ev.start Tryd.f15 [cFws.enc a, cFws.enc b]) (endK tb Tryd.f15) =
    bif (a.length : Int) != b.length then some (B false) else H 5242880 [] (stSf a b 0) := by kernel_rfl
theorem rnd_sameFlows (F : Nat) (a b : List Fw) (i : Int) (R : S → Option D) :
    rndE (envOf []) tb F Tryd.f15 0 (endK tb Tryd.f15) 5242880 [] R (stSf a b i) =
    bif decide (i < a.length) then (bif bnd i a.length then (bif bnd i b.length then (bif !eqFw (a.getD i.toNat fw0) (b.getD i.toNat fw0) then some (B false) else R (stSf a b (i64 (i + 1)))) else none) else none) else some (B true) := by kernel_rfl
abbrev stSr (a b : List Rc) (i : Int) : S := { t := stT 26 0 [(0, cRcs.enc a), (1, cRcs.enc b), (4, B false), (5, I i)], m := [], k := 5242906 }
theorem st_SameRecords (F : Nat) (a b : List Rc) (H : Nat → List Nat → S → Option D) : evalH (envOf []) tb F Tryd.f12 0 H (Go.Ev.start Tryd.f12 [cRcs.enc a, cRcs.enc b]) (endK tb Tryd.f12) =
    bif (a.length : Int) != b.length then some (B false) else H 5242880 [] (stSr a b 0) := by kernel_rfl
theorem rnd_SameRecords (F : Nat) (a b : List Rc) (i : Int) (R : S → Option D) :
    rndE (envOf []) tb F Tryd.f12 0 (endK tb Tryd.f12) 5242880 [] R (stSr a b i) =
    bif decide (i < a.length) then (bif bnd i a.length then (bif bnd i b.length then (bif !eqRc (a.getD i.toNat rc0) (b.getD i.toNat rc0) then some (B false) else R (stSr a b (i64 (i + 1)))) else none) else none) else some (B true) := by kernel_rfl
/-- A loop that holds two lists against each other. -/
theorem same_loop {A : Type} {eq : A → A → Bool} {z : A} {a b : List A} {st : Int → S} {lp : Nat → S → Option D} (ha : a.length ≤ 4294967296) (hab : a.length = b.length)
    (step : ∀ n (i : Int), lp (n + 1) (st i) = bif decide (i < a.length) then (bif bnd i a.length then (bif bnd i b.length then (bif !eq (a.getD i.toNat z) (b.getD i.toNat z) then some (B false) else lp n (st (i64 (i + 1)))) else none) else none) else some (B true)) :
    ∀ (r i n : Nat), a.length = i + r → r < n → (∀ j, j < i → eq (a.getD j z) (b.getD j z) = true) → lp n (st i) = some (B (sameL eq z a b))
  | 0, i, n + 1, e, _, h => by
    rw [step, show decide ((i : Int) < (a.length : Int)) = false by simp; omega]
    have : sameL eq z a b = true := by
      simp only [sameL, Bool.and_eq_true, beq_iff_eq, List.all_eq_true, List.mem_range]
      exact ⟨hab, fun j hj => h j (by omega)⟩
    rw [this]; rfl
  | r + 1, i, n + 1, e, h2, h => by
    have hi : i < a.length := by omega
    rw [step, show decide ((i : Int) < (a.length : Int)) = true by simp; omega, bnd_nat, bnd_nat, show decide (i < a.length) = true by simpa using hi, show decide (i < b.length) = true by simp; omega, Int.toNat_natCast, i64_succ (by omega)]
    cases he : eq (a.getD i z) (b.getD i z) with
    | true =>
      exact same_loop ha hab step r (i + 1) n (by omega) (by omega) fun j hj => by
        by_cases hji : j = i
        · subst hji; exact he
        · exact h j (by omega)
    | false =>
      have : sameL eq z a b = false := by
        simp only [sameL, Bool.and_eq_false_iff]
        right
        rw [List.all_eq_false]
        exact ⟨i, by simpa using hi, by simpa using he⟩
      rw [this]; rfl
theorem same_ne {A : Type} {eq : A → A → Bool} {z : A} {a b : List A} (h : ((a.length : Int) != b.length) = true) : sameL eq z a b = false := by
  have : a.length ≠ b.length := by simp at h; omega
  simp [sameL, this]
abbrev e_sameFlows : Fe := fn2C cFws cFws (fun a _ => decide (a.length ≤ 4294967296)) fun a b => B (sameL eqFw fw0 a b)
theorem ok_sameFlows : En 15 e_sameFlows :=
  entry2C (callable Tryd.func15 (by kernel_rfl)) fun a b h => sp .nil Tryd.func15 (a.length + 1) (by
    have e := (evalF_cut (env := envOf []) (tb := tb) (F := a.length + 1) (fn := Tryd.f15) (args := [cFws.enc a, cFws.enc b]) 0 rfl).trans (st_sameFlows _ a b _)
    refine e.trans ?_
    cases hl : (a.length : Int) != b.length with
    | true => rw [same_ne hl]; rfl
    | false => exact same_loop (eq := eqFw) (z := fw0) (a := a) (b := b) (st := stSf a b) (lp := fun n => lpE (envOf []) tb (a.length + 1) Tryd.f15 0 (endK tb Tryd.f15) n 5242880 []) (by simpa using h) (by simp at hl; omega) (fun n i => by rw [lpE_succ, rnd_sameFlows]) a.length 0 (a.length + 1) (by omega) (by omega) fun j hj => by omega)
abbrev e_SameRecords : Fe := fn2C cRcs cRcs (fun a _ => decide (a.length ≤ 4294967296)) fun a b => B (sameL eqRc rc0 a b)
theorem ok_SameRecords : En 12 e_SameRecords :=
  entry2C (callable Tryd.func12 (by kernel_rfl)) fun a b h => sp .nil Tryd.func12 (a.length + 1) (by
    have e := (evalF_cut (env := envOf []) (tb := tb) (F := a.length + 1) (fn := Tryd.f12) (args := [cRcs.enc a, cRcs.enc b]) 0 rfl).trans (st_SameRecords _ a b _)
    refine e.trans ?_
    cases hl : (a.length : Int) != b.length with
    | true => rw [same_ne hl]; rfl
    | false => exact same_loop (eq := eqRc) (z := rc0) (a := a) (b := b) (st := stSr a b) (lp := fun n => lpE (envOf []) tb (a.length + 1) Tryd.f12 0 (endK tb Tryd.f12) n 5242880 []) (by simpa using h) (by simp at hl; omega) (fun n i => by rw [lpE_succ, rnd_SameRecords]) a.length 0 (a.length + 1) (by omega) (by omega) fun j hj => by omega)
end Go.Proofs.YtbjpkbolmpcmfaaDoor
