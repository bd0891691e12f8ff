/- The reference's functions: dimensions and their levels. -/
import Derived.Test.YtadmfmbpojcnpaaDoorFg
namespace Go.Cb
open Go.Ev
abbrev cIs : Cd (List Int) := (sNum .i64).list 1 0
def pushI (m : Nat) (f : Nat → Int) (y : Int) (i : Nat) : Int := match Nat.blt i m with | true => f i | false => y
def pushGI (m : Nat) (f : Nat → Int) (y : Int) (i : Nat) : List D := match Nat.blt i m with | true => [I (f i)] | false => [I y]
theorem pushI_eq (m : Nat) (f : Nat → Int) (y : Int) : pushGI m f y = fun i => [I (pushI m f y i)] := by
  funext i; unfold pushGI pushI; cases Nat.blt i m <;> rfl
theorem pushI_lt {m i : Nat} {f : Nat → Int} {y : Int} (h : i < m) : pushI m f y i = f i := by
  unfold pushI; rw [show Nat.blt i m = true from Nat.ble_eq_true_of_le h]
theorem pushI_at {m : Nat} {f : Nat → Int} {y : Int} : pushI m f y m = y := by
  unfold pushI; rw [blt_f (by omega)]
/-- The lengths of the levels. -/
def lenAt (d : Dm) (j : Nat) : Int := max0 (key_Width d.kind - j * d.step)
def lens (d : Dm) : List Int := bif dim_Right d then (List.range ((dim_Depth d).toNat + 1)).map (lenAt d) else []
theorem dim_Depth_of {d : Dm} (h : dim_Right d = true) : 1 ≤ dim_Depth d ∧ dim_Depth d ≤ 256 ∧ key_Width d.kind ≤ dim_Depth d * d.step ∧ dim_Depth d * d.step < key_Width d.kind + d.step := by
  obtain ⟨h1, h2⟩ := dim_Right_all h
  obtain ⟨w0, w1⟩ := key_Width_in d.kind
  have hd : dim_Depth d = (key_Width d.kind + d.step - 1) / d.step := by
    unfold dim_Depth dim_DepthC
    rw [h, show (d.step != 0) = true by simp; omega]
    simp only [Bool.not_true, cond_false, cond_true, id]
    rw [i64_in (n := key_Width d.kind + d.step) (by omega) (by omega), i64_in (n := key_Width d.kind + d.step - 1) (by omega) (by omega)]
    have h3 : 0 ≤ (key_Width d.kind + d.step - 1).tdiv d.step := Int.tdiv_nonneg (by omega) (by omega)
    have h4 : (key_Width d.kind + d.step - 1).tdiv d.step ≤ key_Width d.kind + d.step - 1 := Int.tdiv_le_self _ (by omega)
    rw [i64_in (by omega) (by omega), Int.tdiv_eq_ediv_of_nonneg (by omega)]
  have e1 := Int.mul_ediv_add_emod (key_Width d.kind + d.step - 1) d.step
  have e2 := Int.emod_nonneg (key_Width d.kind + d.step - 1) (b := d.step) (by omega)
  have e3 := Int.emod_lt_of_pos (key_Width d.kind + d.step - 1) (b := d.step) (by omega)
  rw [← hd, Int.mul_comm] at e1
  generalize hq : dim_Depth d = q at *
  have hlo : 1 ≤ q := by
    apply Classical.byContradiction
    intro hn
    have : q * d.step ≤ 0 * d.step := Int.mul_le_mul_of_nonneg_right (by omega) (by omega)
    omega
  have hhi : q ≤ 256 := by
    apply Classical.byContradiction
    intro hn
    have : 257 * d.step ≤ q * d.step := Int.mul_le_mul_of_nonneg_right (by omega) (by omega)
    omega
  exact ⟨hlo, hhi, by omega, by omega⟩
/-- A level's length is above 0 just ahead of the last one. -/
theorem lenAt_pos {d : Dm} (h : dim_Right d = true) (j : Nat) : 0 < lenAt d j ↔ (j : Int) < dim_Depth d := by
  obtain ⟨h1, h2⟩ := dim_Right_all h
  obtain ⟨d1, d2, d3, d4⟩ := dim_Depth_of h
  unfold lenAt max0
  constructor
  · intro hp
    apply Classical.byContradiction
    intro hn
    have : dim_Depth d * d.step ≤ (j : Int) * d.step := Int.mul_le_mul_of_nonneg_right (by omega) (by omega)
    split at hp <;> omega
  · intro hj
    have : ((j : Int) + 1) * d.step ≤ dim_Depth d * d.step := Int.mul_le_mul_of_nonneg_right (by omega) (by omega)
    rw [Int.add_mul, Int.one_mul] at this
    split <;> omega
theorem lenAt_le {d : Dm} (j : Nat) (h : dim_Right d = true) : 0 ≤ lenAt d j ∧ lenAt d j ≤ 128 := by
  obtain ⟨h1, h2⟩ := dim_Right_all h
  obtain ⟨w0, w1⟩ := key_Width_in d.kind
  have : 0 ≤ (j : Int) * d.step := Int.mul_nonneg (by omega) (by omega)
  unfold lenAt max0
  split <;> omega
theorem lenAt_succ {d : Dm} {j : Nat} (hp : 0 < lenAt d j) : lenAt d (j + 1) = max0 (lenAt d j - d.step) := by
  unfold lenAt at hp ⊢
  have e : ((j + 1 : Nat) : Int) * d.step = (j : Int) * d.step + d.step := by rw [Int.natCast_add, Int.add_mul]; simp
  rw [e]
  generalize (j : Int) * d.step = x at *
  unfold max0 at hp ⊢
  repeat (first | omega | split at * | split)
theorem dim_Len_lens (d : Dm) (n : Int) : (bif decide (n < 0) then (-1) else bif decide (n ≥ ((lens d).length : Int)) then (-1) else (lens d).getD n.toNat 0) = dim_Len d n := by
  unfold lens
  cases h : dim_Right d with
  | false =>
    simp only [dim_Len, dim_LenC, h, cond_false, Bool.not_false, cond_true, List.length_nil, id]
    by_cases h0 : n < 0
    · simp [h0]
    · simp [h0, show n ≥ 0 by omega]
  | true =>
    obtain ⟨h1, h2⟩ := dim_Right_all h
    obtain ⟨d1, d2, d3, d4⟩ := dim_Depth_of h
    obtain ⟨w0, w1⟩ := key_Width_in d.kind
    unfold dim_Len dim_LenC
    rw [h]
    simp only [cond_true, Bool.not_true, cond_false, id, List.length_map, List.length_range]
    by_cases h0 : n < 0
    · simp [h0]
    · rw [show decide (n < 0) = false by simp; omega]
      by_cases hn : n > dim_Depth d
      · rw [show decide (n > dim_Depth d) = true by simp; omega, show decide (n ≥ ((dim_Depth d).toNat + 1 : Nat)) = true by simp; omega]; rfl
      · rw [show decide (n > dim_Depth d) = false by simp; omega, show decide (n ≥ ((dim_Depth d).toNat + 1 : Nat)) = false by simp; omega]
        simp only [cond_false]
        have hm : n * d.step ≤ dim_Depth d * d.step := Int.mul_le_mul_of_nonneg_right (by omega) (by omega)
        have hm0 : 0 ≤ n * d.step := Int.mul_nonneg (by omega) (by omega)
        rw [i64_in (n := n * d.step) (by omega) (by omega), i64_in (by omega) (by omega)]
        have hlt : n.toNat < (dim_Depth d).toNat + 1 := by omega
        simp only [List.getD_eq_getElem?_getD, List.getElem?_map, List.getElem?_range hlt, Option.map_some, Option.getD_some, lenAt]
        rw [show ((n.toNat : Nat) : Int) = n by omega]
end Go.Cb
namespace Go.Proofs.YtadmfmbpojcnpaaDoor
open Go.Ev Go.Cb
theorem ok_r7_Width : En 43 e_key_Width :=
  entry1 (callable Tryd.func43 (by kernel_rfl)) fun n => sp .nil Tryd.func43 3
    (Eq.trans (b := key_WidthC (fun x => some (I x)) n) (by kernel_rfl) (key_WidthC_eq _ n))
abbrev l_Lens : Ens := [(43, e_key_Width)]
noncomputable abbrev lpL (F : Nat) (d : Dm) (n m : Nat) (f : Nat → Int) : Option D :=
  lp (envOf l_Lens) tb F Tryd.f35 [cDm.enc d] 0 n [(4, .sl 1 m (fun i => [I (f i)]) (.tok (hd 5 4)))]
noncomputable abbrev lpLG (F : Nat) (d : Dm) (n m : Nat) (g : Nat → List D) : Option D :=
  lp (envOf l_Lens) tb F Tryd.f35 [cDm.enc d] 0 n [(4, .sl 1 m g (.tok (hd 5 4)))]
theorem lp_Lens_step (F : Nat) (d : Dm) (n m : Nat) (f : Nat → Int) : lpL F d (n + 1) m f =
    let x := f (i64 ((m : Int) - 1)).toNat
    let push (y : Int) : Option D := bif decide ((m + 1) * 8 ≤ 140737488355328 ∧ m + 1 ≤ 9223372036854775807) then lpLG F d n (m + 1) (pushGI m f y) else none
    bif bnd (i64 ((m : Int) - 1)) m then (bif decide (x > 0) then (bif bnd (i64 ((m : Int) - 1)) m then (bif decide (i64 (x - d.step) < 0) then push 0 else push (i64 (x - d.step))) else none)
      else some (.sl 1 m (fun i => [I (f i)]) .none)) else none := by kernel_rfl
theorem lp_Lens {d : Dm} (h : dim_Right d = true) (F : Nat) : ∀ (n m : Nat) (f : Nat → Int), 1 ≤ m → (m : Int) ≤ dim_Depth d + 1 → (∀ j, j < m → f j = lenAt d j) → (dim_Depth d).toNat + 1 - m < n →
    ∃ g, lpL F d n m f = some (.sl 1 ((dim_Depth d).toNat + 1) g .none) ∧ ∀ j, j < (dim_Depth d).toNat + 1 → g j = [I (lenAt d j)]
  | 0, _, _, _, _, _, hn => by omega
  | n + 1, m, f, hm, hd1, hf, hn => by
    obtain ⟨h1, h2⟩ := dim_Right_all h
    obtain ⟨w0, w1⟩ := key_Width_in d.kind
    obtain ⟨d1, d2, d3, d4⟩ := dim_Depth_of h
    rw [lp_Lens_step]
    have ei : i64 ((m : Int) - 1) = ((m - 1 : Nat) : Int) := by rw [i64_in (by omega) (by omega)]; omega
    have hx := hf (m - 1) (by omega)
    have hb := lenAt_le (m - 1) h
    have m8 : decide ((m + 1) * 8 ≤ 140737488355328 ∧ m + 1 ≤ 9223372036854775807) = true := by simp; omega
    simp only [ei, Int.toNat_natCast, hx, bnd_nat, show decide (m - 1 < m) = true by simp; omega, cond_true, m8]
    by_cases hp : 0 < lenAt d (m - 1)
    · have hj := (lenAt_pos h (m - 1)).1 hp
      have hs := lenAt_succ hp
      rw [Nat.sub_add_cancel hm] at hs
      simp only [show decide (lenAt d (m - 1) > 0) = true by simp; omega, cond_true]
      rw [i64_in (by omega) (by omega)]
      have go : ∀ y, y = lenAt d m → ∃ g, lpLG F d n (m + 1) (pushGI m f y) = some (.sl 1 ((dim_Depth d).toNat + 1) g .none) ∧ ∀ j, j < (dim_Depth d).toNat + 1 → g j = [I (lenAt d j)] := fun y hy => by
        unfold lpLG
        rw [pushI_eq]
        exact lp_Lens h F n (m + 1) _ (by omega) (by omega) (fun j hj => by
          by_cases hjm : j < m
          · rw [pushI_lt hjm, hf j hjm]
          · have : j = m := by omega
            subst this
            rw [pushI_at, hy]) (by omega)
      by_cases hneg : lenAt d (m - 1) - d.step < 0
      · rw [show decide (lenAt d (m - 1) - d.step < 0) = true by simpa using hneg]
        exact go 0 (by rw [hs]; unfold max0; rw [if_neg (by omega)])
      · rw [show decide (lenAt d (m - 1) - d.step < 0) = false by simpa using hneg]
        exact go _ (by rw [hs]; unfold max0; split <;> omega)
    · have hj : ¬ ((m - 1 : Nat) : Int) < dim_Depth d := fun hc => hp ((lenAt_pos h (m - 1)).2 hc)
      simp only [show decide (lenAt d (m - 1) > 0) = false by simp; omega, cond_false]
      have : m = (dim_Depth d).toNat + 1 := by omega
      rw [this]
      refine ⟨_, rfl, fun j hj => ?_⟩
      rw [hf j (by omega)]
abbrev nilI : D := .sl 1 0 (fun _ => []) .none
theorem st_Lens (F : Nat) (d : Dm) : evalF (envOf l_Lens) tb F Tryd.f35 [cDm.enc d] =
    let a : Option D := bif decide (d.step < 1) then some nilI else (bif decide (d.step > key_Width d.kind) then some nilI else lpL F d F 1 fun _ => key_Width d.kind)
    bif key_Width d.kind == 0 then some nilI else (bif d.side != 1 then (bif d.side != 2 then some nilI else a) else a) := by kernel_rfl
abbrev e_Lens : Fe := fn1 cDm fun d => cIs.enc (lens d)
theorem ok_Lens : En 35 e_Lens :=
  entry1 (callable Tryd.func35 (by kernel_rfl)) fun d => by
    have run : ∀ F r, evalF (envOf l_Lens) tb F Tryd.f35 [cDm.enc d] = some r → Go.Ev.Spec Tryd.prog gl 35 [cDm.enc d] r := fun F r h => sp (.cons ok_r7_Width .nil) Tryd.func35 F h
    unfold lens
    cases h : dim_Right d with
    | false =>
      refine .res (d := nilI) (fun h => h.nil rfl) (run 1 _ ?_)
      rw [st_Lens]
      unfold dim_Right dim_RightC at h
      simp only [id] at h
      have hw : (key_Width d.kind == 0) = true ∨ (key_Width d.kind == 0) = false := by cases key_Width d.kind == 0 <;> simp
      rcases hw with hw | hw
      · rw [hw]; rfl
      · rw [hw]
        have w0 := (key_Width_in d.kind).1
        have hw' : 1 ≤ key_Width d.kind := by simp at hw; omega
        by_cases hst : d.step < 1
        · simp only [show decide (d.step < 1) = true by simpa using hst, cond_true, cond_false]
          cases d.side != 1 <;> cases d.side != 2 <;> rfl
        · by_cases hgt : d.step > key_Width d.kind
          · simp only [show decide (d.step < 1) = false by simpa using hst, show decide (d.step > key_Width d.kind) = true by simpa using hgt, cond_true, cond_false]
            cases d.side != 1 <;> cases d.side != 2 <;> rfl
          · rw [show decide (d.step ≥ 1) = true by simp; omega, show decide (d.step ≤ key_Width d.kind) = true by simp; omega] at h
            simp only [bne]
            cases h1 : d.side == 1 <;> cases h2 : d.side == 2 <;> rw [h1, h2] at h <;> first | rfl | cases h
    | true =>
      obtain ⟨h1, h2⟩ := dim_Right_all h
      obtain ⟨d1, d2, d3, d4⟩ := dim_Depth_of h
      obtain ⟨g, e1, e2⟩ := lp_Lens h ((dim_Depth d).toNat + 1) ((dim_Depth d).toNat + 1) 1 (fun _ => key_Width d.kind) (by omega) (by omega) (fun j hj => by
        have : j = 0 := by omega
        subst this
        rw [show lenAt d 0 = max0 (key_Width d.kind) by simp [lenAt]]
        unfold max0; split <;> omega) (by omega)
      refine .res (d := .sl 1 ((dim_Depth d).toNat + 1) g .none) (fun hk => ?_) (run ((dim_Depth d).toNat + 1) _ ?_)
      · have hl : ((List.range ((dim_Depth d).toNat + 1)).map (lenAt d)).length = (dim_Depth d).toNat + 1 := by simp
        show KR _ _ (slD _ _ _ _) _
        unfold slD
        simp only [cond_true, hl]
        refine hk.sl_congr fun j hj => ?_
        rw [e2 j hj]
        simp [sNum, hj]
      · rw [st_Lens, e1]
        simp only [show (key_Width d.kind == 0) = false by simp; omega, show decide (d.step < 1) = false by simp; omega, show decide (d.step > key_Width d.kind) = false by simp; omega, cond_false]
        rcases dim_Right_side h with hs | hs <;> simp [hs]
abbrev e_r8_Right : Fe := fn1 cDm fun d => B (dim_Right d)
theorem ok_r8_Right : En 23 e_r8_Right :=
  entry1 (callable Tryd.func23 (by kernel_rfl)) fun d => sp (.cons ok_Lens .nil) Tryd.func23 1
    (Eq.trans (b := some (B (decide (((lens d).length : Int) > 0)))) (by kernel_rfl) (by
      unfold lens
      cases dim_Right d with
      | false => rfl
      | true => simp only [cond_true, List.length_map, List.length_range]; rw [show decide ((((dim_Depth d).toNat + 1 : Nat) : Int) > 0) = true by simp; omega]))
abbrev e_r8_Len : Fe := fn2 cDm cI fun d n => I (dim_Len d n)
theorem bnd_of {n : Int} {l : Nat} (h0 : decide (n < 0) = false) (h1 : decide (n ≥ (l : Int)) = false) : bnd n l = true := by
  simp at h0 h1; simp [bnd]; omega
theorem ok_r8_Len : En 52 e_r8_Len :=
  entry2 (callable Tryd.func52 (by kernel_rfl)) fun d n => sp (.cons ok_Lens .nil) Tryd.func52 1
    (Eq.trans (b := bif decide (n < 0) then some (I (-1)) else bif decide (n ≥ ((lens d).length : Int)) then some (I (-1)) else bif bnd n (lens d).length then some (I ((lens d).getD n.toNat 0)) else none) (by kernel_rfl) (by
      rw [← dim_Len_lens]
      cases h0 : decide (n < 0) with
      | true => rfl
      | false =>
        cases h1 : decide (n ≥ ((lens d).length : Int)) with
        | true => rfl
        | false => rw [bnd_of h0 h1]; rfl))
end Go.Proofs.YtadmfmbpojcnpaaDoor
