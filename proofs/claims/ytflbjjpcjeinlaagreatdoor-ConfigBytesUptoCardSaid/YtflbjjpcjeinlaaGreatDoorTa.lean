/- The reference's dimensions, spaces and measures. -/
import Derived.Test.YtflbjjpcjeinlaaGreatDoorNo
namespace Go.Cb
open Go.Ev Go.Proofs.YtflbjjpcjeinlaaGreatDoor
def max0 (x : Int) : Int := if 0 < x then x else 0
theorem key_Width_in (n : Int) : 0 ≤ key_Width n ∧ key_Width n ≤ 128 := by
  rcases width_in n with h | h | h | h <;> omega
theorem dim_Right_all {d : Dm} (h : dim_Right d = true) : 1 ≤ d.step ∧ d.step ≤ key_Width d.kind := ⟨(dim_in h).1.t0, (dim_in h).2⟩
/-- The lengths of the levels. -/
def lenAt (d : Dm) (j : Nat) : Int := max0 (key_Width d.kind - j * d.step)
def lens (d : Dm) : List Int := bif dim_Right d then (List.range ((dim_Depth d).toNat + 1)).map (lenAt d) else []
theorem dim_Depth_of {d : Dm} (h : dim_Right d = true) : 1 ≤ dim_Depth d ∧ dim_Depth d ≤ 256 ∧ key_Width d.kind ≤ dim_Depth d * d.step ∧ dim_Depth d * d.step < key_Width d.kind + d.step := by
  obtain ⟨h1, h2⟩ := dim_Right_all h
  obtain ⟨w0, w1⟩ := key_Width_in d.kind
  have hd : dim_Depth d = (key_Width d.kind + d.step - 1) / d.step := by
    unfold dim_Depth dim_DepthC
    rw [h, show (d.step != 0) = true by simp; omega]
    simp only [Bool.not_true, cond_false, cond_true, id]
    rw [i64_in (n := key_Width d.kind + d.step) (by omega) (by omega), i64_in (n := key_Width d.kind + d.step - 1) (by omega) (by omega)]
    have h3 : 0 ≤ (key_Width d.kind + d.step - 1).tdiv d.step := Int.tdiv_nonneg (by omega) (by omega)
    have h4 : (key_Width d.kind + d.step - 1).tdiv d.step ≤ key_Width d.kind + d.step - 1 := Int.tdiv_le_self _ (by omega)
    rw [i64_in (by omega) (by omega), Int.tdiv_eq_ediv_of_nonneg (by omega)]
  have e1 := Int.mul_ediv_add_emod (key_Width d.kind + d.step - 1) d.step
  have e2 := Int.emod_nonneg (key_Width d.kind + d.step - 1) (b := d.step) (by omega)
  have e3 := Int.emod_lt_of_pos (key_Width d.kind + d.step - 1) (b := d.step) (by omega)
  rw [← hd, Int.mul_comm] at e1
  generalize hq : dim_Depth d = q at *
  have hlo : 1 ≤ q := by
    apply Classical.byContradiction
    intro hn
    have : q * d.step ≤ 0 * d.step := Int.mul_le_mul_of_nonneg_right (by omega) (by omega)
    omega
  have hhi : q ≤ 256 := by
    apply Classical.byContradiction
    intro hn
    have : 257 * d.step ≤ q * d.step := Int.mul_le_mul_of_nonneg_right (by omega) (by omega)
    omega
  exact ⟨hlo, hhi, by omega, by omega⟩
/-- A level's length is above 0 just ahead of the last one. -/
theorem lenAt_pos {d : Dm} (h : dim_Right d = true) (j : Nat) : 0 < lenAt d j ↔ (j : Int) < dim_Depth d := by
  obtain ⟨h1, h2⟩ := dim_Right_all h
  obtain ⟨d1, d2, d3, d4⟩ := dim_Depth_of h
  unfold lenAt max0
  constructor
  · intro hp
    apply Classical.byContradiction
    intro hn
    have : dim_Depth d * d.step ≤ (j : Int) * d.step := Int.mul_le_mul_of_nonneg_right (by omega) (by omega)
    split at hp <;> omega
  · intro hj
    have : ((j : Int) + 1) * d.step ≤ dim_Depth d * d.step := Int.mul_le_mul_of_nonneg_right (by omega) (by omega)
    rw [Int.add_mul, Int.one_mul] at this
    split <;> omega
theorem lenAt_le {d : Dm} (j : Nat) (h : dim_Right d = true) : 0 ≤ lenAt d j ∧ lenAt d j ≤ 128 := by
  obtain ⟨h1, h2⟩ := dim_Right_all h
  obtain ⟨w0, w1⟩ := key_Width_in d.kind
  have : 0 ≤ (j : Int) * d.step := Int.mul_nonneg (by omega) (by omega)
  unfold lenAt max0
  split <;> omega
theorem lenAt_succ {d : Dm} {j : Nat} (hp : 0 < lenAt d j) : lenAt d (j + 1) = max0 (lenAt d j - d.step) := by
  unfold lenAt at hp ⊢
  have e : ((j + 1 : Nat) : Int) * d.step = (j : Int) * d.step + d.step := by rw [Int.natCast_add, Int.add_mul]; simp
  rw [e]
  generalize (j : Int) * d.step = x at *
  unfold max0 at hp ⊢
  repeat (first | omega | split at * | split)
theorem lens_snoc {d : Dm} {m : Nat} : (List.range (m + 1)).map (lenAt d) = (List.range m).map (lenAt d) ++ [lenAt d m] := by rw [List.range_succ, List.map_append]; rfl
/-- The list of one number, as it is laid. -/
def litI (x : Int) (i : Nat) : List D := [[I x]].getD i [I 0]
theorem litI_eq (x : Int) : litI x = getE (sNum .i64) 0 [x] := by
  funext i
  unfold litI getE
  match i with
  | 0 => rfl
  | i + 1 => simp [sNum]
/-- A dimension that may not be: which test tells. -/
theorem dim_not {d : Dm} (h : dim_Right d = false) (h1 : d.side = 1 ∨ d.side = 2) (h2 : 1 ≤ d.step) : key_Width d.kind < d.step := by
  apply Classical.byContradiction
  intro hn
  have e1 : decide (d.step ≥ 1) = true := decide_eq_true h2
  have e2 : decide (d.step ≤ key_Width d.kind) = true := decide_eq_true (by omega)
  unfold dim_Right dim_RightC at h
  rw [e1, e2] at h
  rcases h1 with h1 | h1
  · rw [h1] at h; cases h
  · rw [h1] at h; cases h
end Go.Cb
namespace Go.Proofs.YtflbjjpcjeinlaaGreatDoor
open Go.Ev Go.Cb
abbrev e_r7_Width : Fe := fn1 cI fun n => I (key_Width n)
theorem ok_r7_Width : En 131 e_r7_Width :=
  entry1 (callable Tryz.func131 (by kernel_rfl)) fun n => sp .nil Tryz.func131 3
    (Eq.trans (b := key_WidthC (fun x => some (I x)) n) (by kernel_rfl) (key_WidthC_eq _ n))
abbrev l_Lens : Ens := [(131, e_r7_Width)]
abbrev sI : Cs Int := sNum .i64
abbrev stLe (d : Dm) (m : Nat) (G : Nat → List D) : S :=
  { t := stT 57 0 [(1, .loc 2097152 0), (2, .sl 1 0 (fun _ => [I 0]) (.tok 12582917)), (4, .sl 1 m G (.tok 12582921))]
    m := [(12582921, .tok 3), (12582917, .tok 3), (2097152, .cells (sDm.enc d) 23)], k := 6291516 }
abbrev nilI : D := .sl 1 0 (fun _ => [I 0]) .none
theorem st_Le (F : Nat) (d : Dm) (H : Nat → List Nat → S → Option D) : evalH (envOf l_Lens) tb F Tryz.f115 0 H (Go.Ev.start Tryz.f115 [cDm.enc d]) (endK tb Tryz.f115) =
    let a : Option D := bif decide (d.step < 1) then some nilI else (bif decide (d.step > key_Width d.kind) then some nilI else H 6291456 [10485889, 2097152] (stLe d 1 (litI (key_Width d.kind))))
    bif key_Width d.kind == 0 then some nilI else (bif d.side != 1 then (bif d.side != 2 then some nilI else a) else a) := by kernel_rfl
theorem rnd_Le (F : Nat) (d : Dm) (m : Nat) (l : List Int) (R : S → Option D) : rndE (envOf l_Lens) tb F Tryz.f115 0 (endK tb Tryz.f115) 6291456 [10485889, 2097152] R (stLe d m (getE sI 0 l)) =
    let i := i64 ((m : Int) - 1)
    let x := l.getD i.toNat 0
    let push (y : Int) : Option D := bif decide ((m + 1) * 8 ≤ 140737488355328 ∧ m + 1 ≤ 9223372036854775807) then R (stLe d (m + 1) (pushD sI 0 m (getE sI 0 l) y)) else none
    bif bnd i m then (bif decide (x > 0) then (bif bnd i m then (bif decide (i64 (x - d.step) < 0) then push 0 else push (i64 (x - d.step))) else none) else some (.sl 1 m (getE sI 0 l) .none)) else none := by kernel_rfl
theorem lp_Le {d : Dm} (h : dim_Right d = true) (F : Nat) : ∀ (r m N : Nat), (dim_Depth d).toNat + 1 = m + 1 + r → r < N →
    lpE (envOf l_Lens) tb F Tryz.f115 0 (endK tb Tryz.f115) N 6291456 [10485889, 2097152] (stLe d ((List.range (m + 1)).map (lenAt d)).length (getE sI 0 ((List.range (m + 1)).map (lenAt d)))) = some (cIs.enc (lens d)) := by
  obtain ⟨h1, h2⟩ := dim_Right_all h
  obtain ⟨w0, w1⟩ := key_Width_in d.kind
  obtain ⟨d1, d2, d3, d4⟩ := dim_Depth_of h
  intro r
  induction r with
  | zero =>
    intro m N e hN
    obtain ⟨N, rfl⟩ : ∃ k, N = k + 1 := ⟨N - 1, by omega⟩
    have hlen : ((List.range (m + 1)).map (lenAt d)).length = m + 1 := by simp
    have hx : ((List.range (m + 1)).map (lenAt d)).getD m 0 = lenAt d m := by simp
    have hj : ¬ 0 < lenAt d m := fun hp => by have := (lenAt_pos h m).1 hp; omega
    have hm : (dim_Depth d).toNat = m := by omega
    rw [lpE_succ, rnd_Le]
    simp only [hlen]
    rw [i64_in (by omega) (by omega), show (((m + 1 : Nat) : Int) - 1) = (m : Int) by omega, Int.toNat_natCast, hx, bnd_nat, decide_eq_true (show m < m + 1 by omega), cond_true, decide_eq_false (show ¬ lenAt d m > 0 by omega), cond_false]
    unfold lens
    rw [h, cond_true, hm]
    show some (D.sl 1 (m + 1) (getE sI 0 _) .none) = some (D.sl 1 _ (getE sI 0 _) .none)
    rw [hlen]
  | succ r ih =>
    intro m N e hN
    obtain ⟨N, rfl⟩ : ∃ k, N = k + 1 := ⟨N - 1, by omega⟩
    have hlen : ((List.range (m + 1)).map (lenAt d)).length = m + 1 := by simp
    have hx : ((List.range (m + 1)).map (lenAt d)).getD m 0 = lenAt d m := by simp
    have hj : 0 < lenAt d m := (lenAt_pos h m).2 (by omega)
    have hb := lenAt_le m h
    have hs := lenAt_succ hj
    have ih := ih (m + 1) N (by omega) (by omega)
    rw [lens_snoc (m := m + 1)] at ih
    rw [lpE_succ, rnd_Le]
    simp only [hlen]
    rw [i64_in (n := ((m + 1 : Nat) : Int) - 1) (by omega) (by omega), show (((m + 1 : Nat) : Int) - 1) = (m : Int) by omega, Int.toNat_natCast, hx, bnd_nat, decide_eq_true (show m < m + 1 by omega), cond_true, decide_eq_true (show lenAt d m > 0 by omega), cond_true, cond_true,
      i64_in (n := lenAt d m - d.step) (by omega) (by omega), decide_eq_true (show (m + 1 + 1) * 8 ≤ 140737488355328 ∧ m + 1 + 1 ≤ 9223372036854775807 by omega), cond_true, cond_true]
    have hp : ∀ y, pushD sI 0 (m + 1) (getE sI 0 ((List.range (m + 1)).map (lenAt d))) y = getE sI 0 ((List.range (m + 1)).map (lenAt d) ++ [y]) := fun y => by
      have := pushD_eq (c := sI) (z := 0) (l := (List.range (m + 1)).map (lenAt d)) (a := y)
      rwa [hlen] at this
    have hl2 : ((List.range (m + 1)).map (lenAt d) ++ [lenAt d (m + 1)]).length = m + 1 + 1 := by simp
    rw [hl2] at ih
    by_cases hneg : lenAt d m - d.step < 0
    · have hz : lenAt d (m + 1) = 0 := by rw [hs]; unfold max0; rw [if_neg (by omega)]
      rw [hz] at ih
      rw [decide_eq_true hneg, cond_true, hp]
      exact ih
    · rw [decide_eq_false hneg, cond_false, hp, show lenAt d m - d.step = lenAt d (m + 1) by rw [hs]; unfold max0; split <;> omega]
      exact ih
abbrev e_Lens : Fe := fn1 cDm fun d => cIs.enc (lens d)
theorem ok_Lens : En 115 e_Lens :=
  entry1 (callable Tryz.func115 (by kernel_rfl)) fun d => sp (.cons ok_r7_Width .nil) Tryz.func115 258
    ((evalF_cut (fn := Tryz.f115) 0 rfl).trans ((st_Le _ d _).trans (by
      simp only
      cases h : dim_Right d with
      | false =>
        have hn : some nilI = some (cIs.enc (lens d)) := by unfold lens; rw [h]; rfl
        rw [← hn]
        by_cases h0 : key_Width d.kind = 0
        · rw [h0]; rfl
        · rw [show (key_Width d.kind == 0) = false by simpa using h0, cond_false]
          by_cases ht : d.step < 1
          · rw [decide_eq_true ht]
            cases d.side != 1 <;> cases d.side != 2 <;> rfl
          · rw [decide_eq_false ht]
            by_cases s1 : d.side = 1
            · rw [decide_eq_true (dim_not h (.inl s1) (by omega)), s1]; rfl
            · by_cases s2 : d.side = 2
              · rw [decide_eq_true (dim_not h (.inr s2) (by omega)), s2]; rfl
              · rw [show (d.side != 1) = true by simpa using s1, show (d.side != 2) = true by simpa using s2]; rfl
      | true =>
        obtain ⟨h1, h2⟩ := dim_Right_all h
        obtain ⟨d1, d2, d3, d4⟩ := dim_Depth_of h
        have run := lp_Le h 258 (dim_Depth d).toNat 0 258 (by omega) (by omega)
        have e0 : (List.range (0 + 1)).map (lenAt d) = [key_Width d.kind] := by
          show [lenAt d 0] = _
          unfold lenAt max0
          rw [if_pos (by omega)]
          simp
        rw [e0] at run
        rw [show (key_Width d.kind == 0) = false by rw [beq_eq_false_iff_ne]; omega, cond_false, decide_eq_false (show ¬ d.step < 1 by omega), cond_false, decide_eq_false (show ¬ d.step > key_Width d.kind by omega), cond_false]
        have hrun : lpE (envOf l_Lens) tb 258 Tryz.f115 0 (endK tb Tryz.f115) 258 6291456 [10485889, 2097152] (stLe d 1 (litI (key_Width d.kind))) = some (cIs.enc (lens d)) := by
          rw [litI_eq]; exact run
        rcases (dim_in h).1.s with s | s
        · rw [s, show ((1 : Int) != 1) = false by decide, cond_false]
          exact hrun
        · rw [s, show ((2 : Int) != 1) = true by decide, cond_true, show ((2 : Int) != 2) = false by decide, cond_false]
          exact hrun)))
theorem lens_len {d : Dm} : (lens d).length = bif dim_Right d then (dim_Depth d).toNat + 1 else 0 := by
  unfold lens
  cases dim_Right d <;> simp
abbrev l_r8 : Ens := [(115, e_Lens)]
abbrev e_r8_Right : Fe := fn1 cDm fun d => B (dim_Right d)
theorem ok_r8_Right : En 96 e_r8_Right :=
  entry1 (callable Tryz.func96 (by kernel_rfl)) fun d => sp (.cons ok_Lens .nil) Tryz.func96 1
    (Eq.trans (b := some (B (decide (((lens d).length : Int) > 0)))) (by kernel_rfl) (by
      rw [lens_len]
      cases dim_Right d with
      | false => rfl
      | true => rw [cond_true, decide_eq_true (show (((dim_Depth d).toNat + 1 : Nat) : Int) > 0 by omega)]))
abbrev e_r8_Depth : Fe := fn1 cDm fun d => I (dim_Depth d)
theorem ok_r8_Depth : En 97 e_r8_Depth :=
  entry1 (callable Tryz.func97 (by kernel_rfl)) fun d => sp (.cons ok_Lens .nil) Tryz.func97 1
    (Eq.trans (b := bif ((lens d).length : Int) == 0 then some (I 0) else some (I (i64 (((lens d).length : Int) - 1)))) (by kernel_rfl) (by
      rw [lens_len]
      cases h : dim_Right d with
      | false =>
        have : dim_Depth d = 0 := by unfold dim_Depth dim_DepthC; rw [h]; rfl
        rw [this]; rfl
      | true =>
        obtain ⟨d1, d2, _, _⟩ := dim_Depth_of h
        rw [cond_true, show ((((dim_Depth d).toNat + 1 : Nat) : Int) == 0) = false by rw [beq_eq_false_iff_ne]; omega, cond_false, i64_in (by omega) (by omega)]
        rw [show (((dim_Depth d).toNat + 1 : Nat) : Int) - 1 = dim_Depth d by omega]))
abbrev l_r9 : Ens := [(96, e_r8_Right)]
abbrev e_r9_Sound : Fe := fn1 cSp fun s => B (prefix_Sound s)
theorem ok_r9_Sound : En 73 e_r9_Sound :=
  entry1 (callable Tryz.func73 (by kernel_rfl)) fun s => sp (.cons ok_r8_Right .nil) Tryz.func73 3
    (Eq.trans (b := prefix_SoundC (fun x => some (B x)) s) (by kernel_rfl) (prefix_SoundC_eq _ s))
abbrev e_r12_Right : Fe := fn3 cI cI cI fun a b c => B (ratio_Right a b c)
theorem ok_r12_Right : En 50 e_r12_Right :=
  entry3 (callable Tryz.func50 (by kernel_rfl)) fun a b c => sp .nil Tryz.func50 3
    (Eq.trans (b := bif decide (a < 1) then some (B false) else bif decide (a > 200) then some (B false) else bif decide (b < 1) then some (B false) else bif decide (b > c) then some (B false) else bif decide (c > 1048576) then some (B false) else some (B (decide (i64 (a * b) > c)))) (by kernel_rfl) (by
      unfold ratio_Right ratio_RightC
      simp only [Bool.cond_eq_ite, decide_eq_true_eq, id]
      by_cases h1 : a < 1
      · rw [if_pos h1, if_neg (by omega)]
      · by_cases h2 : a > 200
        · rw [if_neg h1, if_pos h2, if_pos (by omega), if_neg (by omega)]
        · by_cases h3 : b < 1
          · rw [if_neg h1, if_neg h2, if_pos h3, if_pos (by omega), if_pos (by omega), if_neg (by omega)]
          · by_cases h4 : b > c
            · rw [if_neg h1, if_neg h2, if_neg h3, if_pos h4, if_pos (by omega), if_pos (by omega), if_pos (by omega), if_neg (by omega)]
            · by_cases h5 : c > 1048576
              · rw [if_neg h1, if_neg h2, if_neg h3, if_neg h4, if_pos h5, if_pos (by omega), if_pos (by omega), if_pos (by omega), if_pos (by omega), if_neg (by omega)]
              · rw [if_neg h1, if_neg h2, if_neg h3, if_neg h4, if_neg h5, if_pos (by omega), if_pos (by omega), if_pos (by omega), if_pos (by omega), if_pos (by omega)]))
end Go.Proofs.YtflbjjpcjeinlaaGreatDoor
