/- The reference's dimensions, spaces and measures. The reference's nodes, and which shapes and configurations may be by it. Which configurations may be by the reference, and their bytes. -/
import Derived.Test.YtflbjjpcjeinlaaGreatDoorNo
namespace Go.Cb
open Go.Ev Go.Proofs.YtflbjjpcjeinlaaGreatDoor
def max0 (x : Int) : Int := if 0 < x then x else 0
theorem key_Width_in (n : Int) : 0 ≤ key_Width n ∧ key_Width n ≤ 128 := by
  rcases width_in n with h | h | h | h <;> omega
theorem dim_Right_all {d : Dm} (h : dim_Right d = true) : 1 ≤ d.step ∧ d.step ≤ key_Width d.kind := ⟨(dim_in h).1.t0, (dim_in h).2⟩
/-- The lengths of the levels. -/
def lenAt (d : Dm) (j : Nat) : Int := max0 (key_Width d.kind - j * d.step)
def lens (d : Dm) : List Int := bif dim_Right d then (List.range ((dim_Depth d).toNat + 1)).map (lenAt d) else []
theorem dim_Depth_of {d : Dm} (h : dim_Right d = true) : 1 ≤ dim_Depth d ∧ dim_Depth d ≤ 256 ∧ key_Width d.kind ≤ dim_Depth d * d.step ∧ dim_Depth d * d.step < key_Width d.kind + d.step := by
  obtain ⟨h1, h2⟩ := dim_Right_all h
  obtain ⟨w0, w1⟩ := key_Width_in d.kind
  have hd : dim_Depth d = (key_Width d.kind + d.step - 1) / d.step := by
    unfold dim_Depth dim_DepthC
    rw [h, show (d.step != 0) = true by simp; omega]
    simp only [Bool.not_true, cond_false, cond_true, id]
    rw [i64_in (n := key_Width d.kind + d.step) (by omega) (by omega), i64_in (n := key_Width d.kind + d.step - 1) (by omega) (by omega)]
    have h3 : 0 ≤ (key_Width d.kind + d.step - 1).tdiv d.step := Int.tdiv_nonneg (by omega) (by omega)
    have h4 : (key_Width d.kind + d.step - 1).tdiv d.step ≤ key_Width d.kind + d.step - 1 := Int.tdiv_le_self _ (by omega)
    rw [i64_in (by omega) (by omega), Int.tdiv_eq_ediv_of_nonneg (by omega)]
  have e1 := Int.mul_ediv_add_emod (key_Width d.kind + d.step - 1) d.step
  have e2 := Int.emod_nonneg (key_Width d.kind + d.step - 1) (b := d.step) (by omega)
  have e3 := Int.emod_lt_of_pos (key_Width d.kind + d.step - 1) (b := d.step) (by omega)
  rw [← hd, Int.mul_comm] at e1
  generalize hq : dim_Depth d = q at *
  have hlo : 1 ≤ q := by
    apply Classical.byContradiction
    intro hn
    have : q * d.step ≤ 0 * d.step := Int.mul_le_mul_of_nonneg_right (by omega) (by omega)
    omega
  have hhi : q ≤ 256 := by
    apply Classical.byContradiction
    intro hn
    have : 257 * d.step ≤ q * d.step := Int.mul_le_mul_of_nonneg_right (by omega) (by omega)
    omega
  exact ⟨hlo, hhi, by omega, by omega⟩
/-- A level's length is above 0 just ahead of the last one. -/
theorem lenAt_pos {d : Dm} (h : dim_Right d = true) (j : Nat) : 0 < lenAt d j ↔ (j : Int) < dim_Depth d := by
  obtain ⟨h1, h2⟩ := dim_Right_all h
  obtain ⟨d1, d2, d3, d4⟩ := dim_Depth_of h
  unfold lenAt max0
  constructor
  · intro hp
    apply Classical.byContradiction
    intro hn
    have : dim_Depth d * d.step ≤ (j : Int) * d.step := Int.mul_le_mul_of_nonneg_right (by omega) (by omega)
    split at hp <;> omega
  · intro hj
    have : ((j : Int) + 1) * d.step ≤ dim_Depth d * d.step := Int.mul_le_mul_of_nonneg_right (by omega) (by omega)
    rw [Int.add_mul, Int.one_mul] at this
    split <;> omega
theorem lenAt_le {d : Dm} (j : Nat) (h : dim_Right d = true) : 0 ≤ lenAt d j ∧ lenAt d j ≤ 128 := by
  obtain ⟨h1, h2⟩ := dim_Right_all h
  obtain ⟨w0, w1⟩ := key_Width_in d.kind
  have : 0 ≤ (j : Int) * d.step := Int.mul_nonneg (by omega) (by omega)
  unfold lenAt max0
  split <;> omega
theorem lenAt_succ {d : Dm} {j : Nat} (hp : 0 < lenAt d j) : lenAt d (j + 1) = max0 (lenAt d j - d.step) := by
  unfold lenAt at hp ⊢
  have e : ((j + 1 : Nat) : Int) * d.step = (j : Int) * d.step + d.step := by rw [Int.natCast_add, Int.add_mul]; simp
  rw [e]
  generalize (j : Int) * d.step = x at *
  unfold max0 at hp ⊢
  repeat (first | omega | split at * | split)
theorem lens_snoc {d : Dm} {m : Nat} : (List.range (m + 1)).map (lenAt d) = (List.range m).map (lenAt d) ++ [lenAt d m] := by rw [List.range_succ, List.map_append]; rfl
/-- The list of one number, as it is laid. -/
def litI (x : Int) (i : Nat) : List D := [[I x]].getD i [I 0]
theorem litI_eq (x : Int) : litI x = getE (sNum .i64) 0 [x] := by
  funext i
  unfold litI getE
  match i with
  | 0 => rfl
  | i + 1 => simp [sNum]
/-- A dimension that may not be: which test tells. -/
theorem dim_not {d : Dm} (h : dim_Right d = false) (h1 : d.side = 1 ∨ d.side = 2) (h2 : 1 ≤ d.step) : key_Width d.kind < d.step := by
  apply Classical.byContradiction
  intro hn
  have e1 : decide (d.step ≥ 1) = true := decide_eq_true h2
  have e2 : decide (d.step ≤ key_Width d.kind) = true := decide_eq_true (by omega)
  unfold dim_Right dim_RightC at h
  rw [e1, e2] at h
  rcases h1 with h1 | h1
  · rw [h1] at h; cases h
  · rw [h1] at h; cases h
end Go.Cb
namespace Go.Proofs.YtflbjjpcjeinlaaGreatDoor
open Go.Ev Go.Cb
abbrev e_r7_Width : Fe := fn1 cI fun n => I (key_Width n)
theorem ok_r7_Width : En 131 e_r7_Width :=
  entry1 (callable Tryz.func131 (by kernel_rfl)) fun n => sp .nil Tryz.func131 3
    (Eq.trans (b := key_WidthC (fun x => some (I x)) n) (by kernel_rfl) (key_WidthC_eq _ n))
abbrev l_Lens : Ens := [(131, e_r7_Width)]
abbrev sI : Cs Int := sNum .i64
abbrev stLe (d : Dm) (m : Nat) (G : Nat → List D) : S :=
  { t := stT 57 0 [(1, .loc 2097152 0), (2, .sl 1 0 (fun _ => [I 0]) (.tok 12582917)), (4, .sl 1 m G (.tok 12582921))]
    m := [(12582921, .tok 3), (12582917, .tok 3), (2097152, .cells (sDm.enc d) 23)], k := 6291516 }
abbrev nilI : D := .sl 1 0 (fun _ => [I 0]) .none
theorem st_Le (F : Nat) (d : Dm) (H : Nat → List Nat → S → Option D) : evalH (envOf l_Lens) tb F Tryz.f115 0 H (Go.Ev.start Tryz.f115 [cDm.enc d]) (endK tb Tryz.f115) =
    let a : Option D := bif decide (d.step < 1) then some nilI else (bif decide (d.step > key_Width d.kind) then some nilI else H 6291456 [10485889, 2097152] (stLe d 1 (litI (key_Width d.kind))))
    bif key_Width d.kind == 0 then some nilI else (bif d.side != 1 then (bif d.side != 2 then some nilI else a) else a) := by kernel_rfl
theorem rnd_Le (F : Nat) (d : Dm) (m : Nat) (l : List Int) (R : S → Option D) : rndE (envOf l_Lens) tb F Tryz.f115 0 (endK tb Tryz.f115) 6291456 [10485889, 2097152] R (stLe d m (getE sI 0 l)) =
    let i := i64 ((m : Int) - 1)
    let x := l.getD i.toNat 0
    let push (y : Int) : Option D := bif decide ((m + 1) * 8 ≤ 140737488355328 ∧ m + 1 ≤ 9223372036854775807) then R (stLe d (m + 1) (pushD sI 0 m (getE sI 0 l) y)) else none
    bif bnd i m then (bif decide (x > 0) then (bif bnd i m then (bif decide (i64 (x - d.step) < 0) then push 0 else push (i64 (x - d.step))) else none) else some (.sl 1 m (getE sI 0 l) .none)) else none := by kernel_rfl
theorem lp_Le {d : Dm} (h : dim_Right d = true) (F : Nat) : ∀ (r m N : Nat), (dim_Depth d).toNat + 1 = m + 1 + r → r < N →
    lpE (envOf l_Lens) tb F Tryz.f115 0 (endK tb Tryz.f115) N 6291456 [10485889, 2097152] (stLe d ((List.range (m + 1)).map (lenAt d)).length (getE sI 0 ((List.range (m + 1)).map (lenAt d)))) = some (cIs.enc (lens d)) := by
  obtain ⟨h1, h2⟩ := dim_Right_all h
  obtain ⟨w0, w1⟩ := key_Width_in d.kind
  obtain ⟨d1, d2, d3, d4⟩ := dim_Depth_of h
  intro r
  induction r with
  | zero =>
    intro m N e hN
    obtain ⟨N, rfl⟩ : ∃ k, N = k + 1 := ⟨N - 1, by omega⟩
    have hlen : ((List.range (m + 1)).map (lenAt d)).length = m + 1 := by simp
    have hx : ((List.range (m + 1)).map (lenAt d)).getD m 0 = lenAt d m := by simp
    have hj : ¬ 0 < lenAt d m := fun hp => by have := (lenAt_pos h m).1 hp; omega
    have hm : (dim_Depth d).toNat = m := by omega
    rw [lpE_succ, rnd_Le]
    simp only [hlen]
    rw [i64_in (by omega) (by omega), show (((m + 1 : Nat) : Int) - 1) = (m : Int) by omega, Int.toNat_natCast, hx, bnd_nat, decide_eq_true (show m < m + 1 by omega), cond_true, decide_eq_false (show ¬ lenAt d m > 0 by omega), cond_false]
    unfold lens
    rw [h, cond_true, hm]
    show some (D.sl 1 (m + 1) (getE sI 0 _) .none) = some (D.sl 1 _ (getE sI 0 _) .none)
    rw [hlen]
  | succ r ih =>
    intro m N e hN
    obtain ⟨N, rfl⟩ : ∃ k, N = k + 1 := ⟨N - 1, by omega⟩
    have hlen : ((List.range (m + 1)).map (lenAt d)).length = m + 1 := by simp
    have hx : ((List.range (m + 1)).map (lenAt d)).getD m 0 = lenAt d m := by simp
    have hj : 0 < lenAt d m := (lenAt_pos h m).2 (by omega)
    have hb := lenAt_le m h
    have hs := lenAt_succ hj
    have ih := ih (m + 1) N (by omega) (by omega)
    rw [lens_snoc (m := m + 1)] at ih
    rw [lpE_succ, rnd_Le]
    simp only [hlen]
    rw [i64_in (n := ((m + 1 : Nat) : Int) - 1) (by omega) (by omega), show (((m + 1 : Nat) : Int) - 1) = (m : Int) by omega, Int.toNat_natCast, hx, bnd_nat, decide_eq_true (show m < m + 1 by omega), cond_true, decide_eq_true (show lenAt d m > 0 by omega), cond_true, cond_true,
      i64_in (n := lenAt d m - d.step) (by omega) (by omega), decide_eq_true (show (m + 1 + 1) * 8 ≤ 140737488355328 ∧ m + 1 + 1 ≤ 9223372036854775807 by omega), cond_true, cond_true]
    have hp : ∀ y, pushD sI 0 (m + 1) (getE sI 0 ((List.range (m + 1)).map (lenAt d))) y = getE sI 0 ((List.range (m + 1)).map (lenAt d) ++ [y]) := fun y => by
      have := pushD_eq (c := sI) (z := 0) (l := (List.range (m + 1)).map (lenAt d)) (a := y)
      rwa [hlen] at this
    have hl2 : ((List.range (m + 1)).map (lenAt d) ++ [lenAt d (m + 1)]).length = m + 1 + 1 := by simp
    rw [hl2] at ih
    by_cases hneg : lenAt d m - d.step < 0
    · have hz : lenAt d (m + 1) = 0 := by rw [hs]; unfold max0; rw [if_neg (by omega)]
      rw [hz] at ih
      rw [decide_eq_true hneg, cond_true, hp]
      exact ih
    · rw [decide_eq_false hneg, cond_false, hp, show lenAt d m - d.step = lenAt d (m + 1) by rw [hs]; unfold max0; split <;> omega]
      exact ih
abbrev e_Lens : Fe := fn1 cDm fun d => cIs.enc (lens d)
theorem ok_Lens : En 115 e_Lens :=
  entry1 (callable Tryz.func115 (by kernel_rfl)) fun d => sp (.cons ok_r7_Width .nil) Tryz.func115 258
    ((evalF_cut (fn := Tryz.f115) 0 rfl).trans ((st_Le _ d _).trans (by
      simp only
      cases h : dim_Right d with
      | false =>
        have hn : some nilI = some (cIs.enc (lens d)) := by unfold lens; rw [h]; rfl
        rw [← hn]
        by_cases h0 : key_Width d.kind = 0
        · rw [h0]; rfl
        · rw [show (key_Width d.kind == 0) = false by simpa using h0, cond_false]
          by_cases ht : d.step < 1
          · rw [decide_eq_true ht]
            cases d.side != 1 <;> cases d.side != 2 <;> rfl
          · rw [decide_eq_false ht]
            by_cases s1 : d.side = 1
            · rw [decide_eq_true (dim_not h (.inl s1) (by omega)), s1]; rfl
            · by_cases s2 : d.side = 2
              · rw [decide_eq_true (dim_not h (.inr s2) (by omega)), s2]; rfl
              · rw [show (d.side != 1) = true by simpa using s1, show (d.side != 2) = true by simpa using s2]; rfl
      | true =>
        obtain ⟨h1, h2⟩ := dim_Right_all h
        obtain ⟨d1, d2, d3, d4⟩ := dim_Depth_of h
        have run := lp_Le h 258 (dim_Depth d).toNat 0 258 (by omega) (by omega)
        have e0 : (List.range (0 + 1)).map (lenAt d) = [key_Width d.kind] := by
          show [lenAt d 0] = _
          unfold lenAt max0
          rw [if_pos (by omega)]
          simp
        rw [e0] at run
        rw [show (key_Width d.kind == 0) = false by rw [beq_eq_false_iff_ne]; omega, cond_false, decide_eq_false (show ¬ d.step < 1 by omega), cond_false, decide_eq_false (show ¬ d.step > key_Width d.kind by omega), cond_false]
        have hrun : lpE (envOf l_Lens) tb 258 Tryz.f115 0 (endK tb Tryz.f115) 258 6291456 [10485889, 2097152] (stLe d 1 (litI (key_Width d.kind))) = some (cIs.enc (lens d)) := by
          rw [litI_eq]; exact run
        rcases (dim_in h).1.s with s | s
        · rw [s, show ((1 : Int) != 1) = false by decide, cond_false]
          exact hrun
        · rw [s, show ((2 : Int) != 1) = true by decide, cond_true, show ((2 : Int) != 2) = false by decide, cond_false]
          exact hrun)))
theorem lens_len {d : Dm} : (lens d).length = bif dim_Right d then (dim_Depth d).toNat + 1 else 0 := by
  unfold lens
  cases dim_Right d <;> simp
abbrev l_r8 : Ens := [(115, e_Lens)]
abbrev e_r8_Right : Fe := fn1 cDm fun d => B (dim_Right d)
theorem ok_r8_Right : En 96 e_r8_Right :=
  entry1 (callable Tryz.func96 (by kernel_rfl)) fun d => sp (.cons ok_Lens .nil) Tryz.func96 1
    (Eq.trans (b := some (B (decide (((lens d).length : Int) > 0)))) (by kernel_rfl) (by
      rw [lens_len]
      cases dim_Right d with
      | false => rfl
      | true => rw [cond_true, decide_eq_true (show (((dim_Depth d).toNat + 1 : Nat) : Int) > 0 by omega)]))
abbrev e_r8_Depth : Fe := fn1 cDm fun d => I (dim_Depth d)
theorem ok_r8_Depth : En 97 e_r8_Depth :=
  entry1 (callable Tryz.func97 (by kernel_rfl)) fun d => sp (.cons ok_Lens .nil) Tryz.func97 1
    (Eq.trans (b := bif ((lens d).length : Int) == 0 then some (I 0) else some (I (i64 (((lens d).length : Int) - 1)))) (by kernel_rfl) (by
      rw [lens_len]
      cases h : dim_Right d with
      | false =>
        have : dim_Depth d = 0 := by unfold dim_Depth dim_DepthC; rw [h]; rfl
        rw [this]; rfl
      | true =>
        obtain ⟨d1, d2, _, _⟩ := dim_Depth_of h
        rw [cond_true, show ((((dim_Depth d).toNat + 1 : Nat) : Int) == 0) = false by rw [beq_eq_false_iff_ne]; omega, cond_false, i64_in (by omega) (by omega)]
        rw [show (((dim_Depth d).toNat + 1 : Nat) : Int) - 1 = dim_Depth d by omega]))
abbrev l_r9 : Ens := [(96, e_r8_Right)]
abbrev e_r9_Sound : Fe := fn1 cSp fun s => B (prefix_Sound s)
theorem ok_r9_Sound : En 73 e_r9_Sound :=
  entry1 (callable Tryz.func73 (by kernel_rfl)) fun s => sp (.cons ok_r8_Right .nil) Tryz.func73 3
    (Eq.trans (b := prefix_SoundC (fun x => some (B x)) s) (by kernel_rfl) (prefix_SoundC_eq _ s))
abbrev e_r12_Right : Fe := fn3 cI cI cI fun a b c => B (ratio_Right a b c)
theorem ok_r12_Right : En 50 e_r12_Right :=
  entry3 (callable Tryz.func50 (by kernel_rfl)) fun a b c => sp .nil Tryz.func50 3
    (Eq.trans (b := bif decide (a < 1) then some (B false) else bif decide (a > 200) then some (B false) else bif decide (b < 1) then some (B false) else bif decide (b > c) then some (B false) else bif decide (c > 1048576) then some (B false) else some (B (decide (i64 (a * b) > c)))) (by kernel_rfl) (by
      unfold ratio_Right ratio_RightC
      simp only [Bool.cond_eq_ite, decide_eq_true_eq, id]
      by_cases h1 : a < 1
      · rw [if_pos h1, if_neg (by omega)]
      · by_cases h2 : a > 200
        · rw [if_neg h1, if_pos h2, if_pos (by omega), if_neg (by omega)]
        · by_cases h3 : b < 1
          · rw [if_neg h1, if_neg h2, if_pos h3, if_pos (by omega), if_pos (by omega), if_neg (by omega)]
          · by_cases h4 : b > c
            · rw [if_neg h1, if_neg h2, if_neg h3, if_pos h4, if_pos (by omega), if_pos (by omega), if_pos (by omega), if_neg (by omega)]
            · by_cases h5 : c > 1048576
              · rw [if_neg h1, if_neg h2, if_neg h3, if_neg h4, if_pos h5, if_pos (by omega), if_pos (by omega), if_pos (by omega), if_pos (by omega), if_neg (by omega)]
              · rw [if_neg h1, if_neg h2, if_neg h3, if_neg h4, if_neg h5, if_pos (by omega), if_pos (by omega), if_pos (by omega), if_pos (by omega), if_pos (by omega)]))
end Go.Proofs.YtflbjjpcjeinlaaGreatDoor
namespace Go.Cb
open Go.Ev Go.Proofs.YtflbjjpcjeinlaaGreatDoor
def sPr : Cs (Int × Int) where
  enc p := [I p.1, I p.2]
  dec
    | .v (.int .i64 a) :: .v (.int .i64 b) :: r => some ((a, b), r)
    | _ => none
  ok := by intro l a r h; split at h <;> cases h; rfl
  re := by intro a r; rfl
abbrev cPrs : Cd (List (Int × Int)) := sPr.list 2 (0, 0)
abbrev oneAt (a b h : Nat) : Bool := decide (a ≤ h) && decide (h ≤ a + b)
def nrow (a b h : Nat) : List (Int × Int) := ((List.range a).filter fun (i : Nat) => oneAt i b h).map fun (i : Nat) => ((i : Int), (h : Int) - (i : Int))
def nodes (a b n : Nat) : List (Int × Int) := (List.range n).flatMap (nrow (a + 1) b)
theorem nrow_succ {a b h : Nat} : nrow (a + 1) b h = nrow a b h ++ bif oneAt a b h then [((a : Int), (h : Int) - (a : Int))] else [] := by
  unfold nrow
  rw [List.range_succ, List.filter_append, List.map_append]
  cases hh : oneAt a b h with
  | true => simp [List.filter_cons, hh]
  | false => simp [List.filter_cons, hh]
theorem nodes_succ {a b n : Nat} : nodes a b (n + 1) = nodes a b n ++ nrow (a + 1) b n := by
  unfold nodes
  rw [List.range_succ]
  simp
theorem nrow_len {a b h : Nat} : (nrow a b h).length ≤ a := by
  unfold nrow
  rw [List.length_map]
  exact Nat.le_trans (List.length_filter_le _ _) (by simp)
theorem nodes_len {a b n : Nat} : (nodes a b n).length ≤ n * (a + 1) := by
  induction n with
  | zero => simp [nodes]
  | succ n ih =>
    rw [nodes_succ, List.length_append, Nat.succ_mul]
    have := nrow_len (a := a + 1) (b := b) (h := n)
    omega
/-- How many there are. -/
theorem nodes_cnt0 {a b : Nat} : ∀ n, (((List.range n).flatMap (nrow (a + 1) b)).length : Int) = ((List.range n).flatMap (nrow a b)).length + (min n (a + b + 1) - min n a : Nat)
  | 0 => by simp
  | n + 1 => by
    have ih := nodes_cnt0 (a := a) (b := b) n
    rw [List.range_succ, List.flatMap_append, List.flatMap_append, List.length_append, List.length_append]
    simp only [List.flatMap_cons, List.flatMap_nil, List.append_nil]
    rw [nrow_succ, List.length_append]
    have e : ((bif oneAt a b n then [((a : Int), (n : Int) - (a : Int))] else []).length : Int) = (min (n + 1) (a + b + 1) - min (n + 1) a : Nat) - (min n (a + b + 1) - min n a : Nat) := by
      by_cases h : a ≤ n ∧ n ≤ a + b
      · rw [show oneAt a b n = true by simp [oneAt]; exact h]
        simp only [cond_true, List.length_cons, List.length_nil]
        omega
      · rw [show oneAt a b n = false by simp only [oneAt, Bool.and_eq_false_iff, decide_eq_false_iff_not]; omega]
        simp only [cond_false, List.length_nil]
        omega
    push_cast at *
    omega
theorem nodes_cnt {b : Nat} : ∀ a n, a + b ≤ n → ((List.range n).flatMap (nrow a b)).length = a * (b + 1)
  | 0, n, _ => by
    have : nrow 0 b = fun _ => [] := by funext h; rfl
    rw [this]; simp [List.flatMap_eq_nil_iff.2]
  | a + 1, n, h => by
    have ih := nodes_cnt (b := b) a n (by omega)
    have e := nodes_cnt0 (a := a) (b := b) n
    rw [ih] at e
    rw [Nat.succ_mul]
    omega
theorem nodes_all {a b : Nat} : (nodes a b (a + b + 1)).length = (a + 1) * (b + 1) := nodes_cnt (a + 1) _ (by omega)
end Go.Cb
namespace Go.Proofs.YtflbjjpcjeinlaaGreatDoor
open Go.Ev Go.Cb
abbrev l_No : Ens := [(97, e_r8_Depth), (73, e_r9_Sound)]
abbrev stNo (s : Sp) (a b : Int) (m : Nat) (G : Nat → List D) (h : Int) : S :=
  { t := stT 51 0 [(3, .sl 2 m G (.tok 16777223)), (4, I a), (5, I b), (6, I h)]
    m := [(16777223, .tok 136), (2097152, .cells (sSp.enc s) 26)], k := 8388666 }
abbrev stNi (s : Sp) (a b : Int) (m : Nat) (G : Nat → List D) (h i : Int) : S :=
  { t := stT 51 0 [(3, .sl 2 m G (.tok 23068679)), (4, I a), (5, I b), (6, I h), (7, I i)]
    m := [(23068679, .tok 136), (2097152, .cells (sSp.enc s) 26)], k := 11534394 }
noncomputable abbrev kNo (F : Nat) (R : S → Option D) : Xt → S → Option D := kR (envOf l_No) tb (rdsF Tryz.f74) F (bodyF Tryz.f74) 0 (endK tb Tryz.f74) 8388608 [2097152] R
theorem rnd_No (F : Nat) (s : Sp) (a b h : Int) (m : Nat) (G : Nat → List D) (H : Nat → List Nat → S → Option D) (R : S → Option D) :
    rndI (envOf l_No) tb (rdsF Tryz.f74) F (bodyF Tryz.f74) 0 (endK tb Tryz.f74) 8388608 [2097152] 0 H R (stNo s a b m G h) =
    bif decide (h ≤ i64 (a + b)) then H 11534336 [16777223, 2097152] (stNi s a b m G h 0) else some (.sl 2 m G .none) := by kernel_rfl
theorem rnd_Ni (F : Nat) (s : Sp) (a b h i : Int) (m : Nat) (G : Nat → List D) (R R2 : S → Option D) :
    rndG (envOf l_No) tb (rdsF Tryz.f74) F (lpC (bodyF Tryz.f74) 0) 0 (kNo F R) 11534336 [16777223, 2097152] R2 (stNi s a b m G h i) =
    bif decide (i ≤ a) then
      (bif decide (i64 (h - i) ≥ 0) then
        (bif decide (i64 (h - i) ≤ b) then
          (bif decide ((m + 1) * 16 ≤ 140737488355328 ∧ m + 1 ≤ 9223372036854775807) then R2 (stNi s a b (m + 1) (pushD sPr (0, 0) m G (i, i64 (h - i))) h (i64 (i + 1))) else none)
        else R2 (stNi s a b m G h (i64 (i + 1))))
      else R2 (stNi s a b m G h (i64 (i + 1))))
    else R (stNo s a b m G (i64 (h + 1))) := by kernel_rfl
theorem st_No (F : Nat) (s : Sp) (H : Nat → List Nat → S → Option D) : evalH (envOf l_No) tb F Tryz.f74 0 H (Go.Ev.start Tryz.f74 [cSp.enc s]) (endK tb Tryz.f74) =
    bif !prefix_Sound s then some (.sl 2 0 (fun _ => [I 0, I 0]) .none) else H 8388608 [2097152] (stNo s (dim_Depth s.d0) (dim_Depth s.d1) 0 (fun _ => [I 0, I 0]) 0) := by kernel_rfl
theorem lp_Ni (F : Nat) (s : Sp) (a b h : Nat) (ha : a ≤ 256) (hb : b ≤ 256) (hh : h ≤ 600) (P : List (Int × Int)) (hP : P.length ≤ 200000) (R : S → Option D) : ∀ (r i n : Nat), a + 1 = i + r → r < n →
    lpG (envOf l_No) tb (rdsF Tryz.f74) F (lpC (bodyF Tryz.f74) 0) 0 (kNo F R) n 11534336 [16777223, 2097152] (stNi s a b (P ++ nrow i b h).length (getE sPr (0, 0) (P ++ nrow i b h)) h i) =
      R (stNo s a b (P ++ nrow (a + 1) b h).length (getE sPr (0, 0) (P ++ nrow (a + 1) b h)) (i64 ((h : Int) + 1)))
  | 0, i, n + 1, e, _ => by
    have e : i = a + 1 := by omega
    subst e
    rw [lpG_succ, rnd_Ni, decide_eq_false (show ¬ (((a + 1 : Nat) : Int) ≤ (a : Int)) by omega), cond_false]
  | r + 1, i, n + 1, e, h2 => by
    have ih := lp_Ni F s a b h ha hb hh P hP R r (i + 1) n (by omega) (by omega)
    have hl := nrow_len (a := i) (b := b) (h := h)
    have hlen : (P ++ nrow i b h).length ≤ 200256 := by rw [List.length_append]; omega
    rw [lpG_succ, rnd_Ni, decide_eq_true (show ((i : Nat) : Int) ≤ (a : Int) by omega), cond_true, i64_in (n := (h : Int) - (i : Int)) (by omega) (by omega), i64_succ (by omega)]
    by_cases c1 : (i : Int) ≤ (h : Int)
    · rw [decide_eq_true (show (h : Int) - (i : Int) ≥ 0 by omega), cond_true]
      by_cases c2 : (h : Int) - (i : Int) ≤ (b : Int)
      · rw [decide_eq_true c2, cond_true, decide_eq_true (show ((P ++ nrow i b h).length + 1) * 16 ≤ 140737488355328 ∧ (P ++ nrow i b h).length + 1 ≤ 9223372036854775807 by omega), cond_true, pushD_eq]
        have hn : P ++ nrow i b h ++ [((i : Int), (h : Int) - (i : Int))] = P ++ nrow (i + 1) b h := by
          rw [nrow_succ, show oneAt i b h = true by simp only [oneAt, Bool.and_eq_true, decide_eq_true_eq]; omega, cond_true, List.append_assoc]
        rw [hn, show (P ++ nrow i b h).length + 1 = (P ++ nrow (i + 1) b h).length by rw [← hn]; simp [Nat.add_assoc]]
        exact ih
      · have hn : nrow (i + 1) b h = nrow i b h := by
          rw [nrow_succ, show oneAt i b h = false by simp only [oneAt, Bool.and_eq_false_iff, decide_eq_false_iff_not]; omega, cond_false, List.append_nil]
        rw [decide_eq_false c2, cond_false]
        rw [hn] at ih
        exact ih
    · have hn : nrow (i + 1) b h = nrow i b h := by
        rw [nrow_succ, show oneAt i b h = false by simp only [oneAt, Bool.and_eq_false_iff, decide_eq_false_iff_not]; omega, cond_false, List.append_nil]
      rw [decide_eq_false (show ¬ ((h : Int) - (i : Int) ≥ 0) by omega), cond_false]
      rw [hn] at ih
      exact ih
theorem lp_No (F : Nat) (hF : 258 ≤ F) (s : Sp) (a b : Nat) (ha : a ≤ 256) (hb : b ≤ 256) : ∀ (r h n : Nat), a + b + 1 = h + r → r < n →
    lpE (envOf l_No) tb F Tryz.f74 0 (endK tb Tryz.f74) n 8388608 [2097152] (stNo s a b (nodes a b h).length (getE sPr (0, 0) (nodes a b h)) h) = some (cPrs.enc (nodes a b (a + b + 1)))
  | 0, h, n + 1, e, _ => by
    have e : h = a + b + 1 := by omega
    subst e
    rw [lpE_succ, rndI_eq 0, rnd_No, i64_in (n := (a : Int) + (b : Int)) (by omega) (by omega), decide_eq_false (show ¬ (((a + b + 1 : Nat) : Int) ≤ (a : Int) + (b : Int)) by omega), cond_false]
    rfl
  | r + 1, h, n + 1, e, h2 => by
    have ih := lp_No F hF s a b ha hb r (h + 1) n (by omega) (by omega)
    have hP : (nodes a b h).length ≤ 200000 := Nat.le_trans nodes_len (Nat.le_trans (Nat.mul_le_mul (show h ≤ 512 by omega) (show a + 1 ≤ 257 by omega)) (by decide))
    rw [lpE_succ, rndI_eq 0, rnd_No, i64_in (n := (a : Int) + (b : Int)) (by omega) (by omega), decide_eq_true (show ((h : Nat) : Int) ≤ (a : Int) + (b : Int) by omega), cond_true]
    have hin := lp_Ni F s a b h ha hb (by omega) (nodes a b h) hP (lpE (envOf l_No) tb F Tryz.f74 0 (endK tb Tryz.f74) n 8388608 [2097152]) (a + 1) 0 F (by omega) (by omega)
    rw [show nodes a b h ++ nrow 0 b h = nodes a b h from List.append_nil _] at hin
    refine hin.trans ?_
    rw [i64_succ (by omega), ← nodes_succ]
    exact ih
end Go.Proofs.YtflbjjpcjeinlaaGreatDoor
namespace Go.Cb
open Go.Ev Go.Proofs.YtflbjjpcjeinlaaGreatDoor
theorem dim_Depth_not {d : Dm} (h : dim_Right d = false) : dim_Depth d = 0 := by unfold dim_Depth dim_DepthC; rw [h]; rfl
theorem dim_Depth_in (d : Dm) : 0 ≤ dim_Depth d ∧ dim_Depth d ≤ 256 := by
  cases h : dim_Right d with
  | false => rw [dim_Depth_not h]; omega
  | true =>
    obtain ⟨h1, h2, _, _⟩ := dim_Depth_of h
    omega
def spNodes (s : Sp) : List (Int × Int) := bif prefix_Sound s then nodes (dim_Depth s.d0).toNat (dim_Depth s.d1).toNat ((dim_Depth s.d0).toNat + (dim_Depth s.d1).toNat + 1) else []
theorem spNodes_len (s : Sp) : ((spNodes s).length : Int) = grid_Count s := by
  unfold spNodes grid_Count
  cases prefix_Sound s with
  | false => rfl
  | true =>
    obtain ⟨a0, a1⟩ := dim_Depth_in s.d0
    obtain ⟨b0, b1⟩ := dim_Depth_in s.d1
    obtain ⟨a, ha⟩ := Int.eq_ofNat_of_zero_le a0
    obtain ⟨b, hb⟩ := Int.eq_ofNat_of_zero_le b0
    rw [ha, hb]
    simp only [cond_true, Bool.not_true, cond_false, Int.toNat_natCast]
    rw [nodes_all, i64_succ (by omega), i64_succ (by omega)]
    have : (a + 1) * (b + 1) ≤ 257 * 257 := Nat.mul_le_mul (by omega) (by omega)
    rw [show (((a + 1 : Nat) : Int) * ((b + 1 : Nat) : Int)) = (((a + 1) * (b + 1) : Nat) : Int) from (Int.natCast_mul _ _).symm, i64_nat (by omega)]
end Go.Cb
namespace Go.Proofs.YtflbjjpcjeinlaaGreatDoor
open Go.Ev Go.Cb
abbrev e_Nodes : Fe := fn1 cSp fun s => cPrs.enc (spNodes s)
theorem ok_Nodes : En 74 e_Nodes :=
  entry1 (callable Tryz.func74 (by kernel_rfl)) fun s => sp (.cons ok_r8_Depth (.cons ok_r9_Sound .nil)) Tryz.func74 600
    ((evalF_cut (fn := Tryz.f74) 0 rfl).trans ((st_No _ s _).trans (by
      unfold spNodes
      cases h : prefix_Sound s with
      | false => rfl
      | true =>
        obtain ⟨a0, a1⟩ := dim_Depth_in s.d0
        obtain ⟨b0, b1⟩ := dim_Depth_in s.d1
        obtain ⟨a, ha⟩ := Int.eq_ofNat_of_zero_le a0
        obtain ⟨b, hb⟩ := Int.eq_ofNat_of_zero_le b0
        rw [ha, hb, Int.toNat_natCast, Int.toNat_natCast, Bool.not_true, cond_false, cond_true]
        exact lp_No 600 (by omega) s a b (by omega) (by omega) (a + b + 1) 0 600 (by omega) (by omega))))
abbrev l_r27 : Ens := [(73, e_r9_Sound), (74, e_Nodes)]
abbrev e_r27_May : Fe := fn1 cSh fun s => B (lattice_May s)
end Go.Proofs.YtflbjjpcjeinlaaGreatDoor
namespace Go.Cb
open Go.Ev Go.Proofs.YtflbjjpcjeinlaaGreatDoor
def rowU (L : List Int) : List D := L.map fun x => .v (.int .u8 x)
theorem rowU_len (L : List Int) : (rowU L).length = L.length := by simp [rowU]
theorem rowGet_U {M : List Int} {i : Nat} (h : i < M.length) : rowGet 1 (rowU M) i = getE sU8 0 M i := by
  unfold rowGet rowU
  rw [Nat.mul_one, List.drop_eq_getElem_cons (by simpa using h)]
  have e : M.getD i 0 = M[i] := by simp [h]
  unfold getE
  rw [e]
  simp
  rfl
/-- A number's bytes, as the reference has them. -/
def num2 (n k : Int) : List Int :=
  let a := w64 (n.tdiv 256)
  let b := w64 (a.tdiv 256)
  bif k == 1 then [w8 (n.tmod 256)] else bif k == 2 then [w8 (a.tmod 256), w8 (n.tmod 256)] else [w8 ((w64 (b.tdiv 256)).tmod 256), w8 (b.tmod 256), w8 (a.tmod 256), w8 (n.tmod 256)]
theorem may_of {s : Sh} : (bif !prefix_Sound s.s then false else bif decide (s.k < 1) then false else bif decide (s.k > 200) then false else bif decide (grid_Count s.s > 1100) then false else
    bif s.kind == 1 then s.cap == 0 else bif s.kind == 2 then (bif s.s.n == 1 then (bif decide (s.cap ≥ 1) then decide (s.cap ≤ 5000) else false) else false)
    else bif s.kind == 3 then (bif s.s.n == 1 then (bif decide (s.cap ≥ 1) then decide (s.cap ≤ 5000) else false) else false) else false) = lattice_May s := by
  unfold lattice_May lattice_MayC
  cases h : prefix_Sound s.s with
  | false =>
    have : grid_Count s.s = 0 := by unfold grid_Count; rw [h]; rfl
    rw [this]; rfl
  | true =>
    have hc : 1 ≤ grid_Count s.s := by
      rw [← spNodes_len, spNodes, h, cond_true, nodes_all]
      have : 1 * 1 ≤ ((dim_Depth s.s.d0).toNat + 1) * ((dim_Depth s.s.d1).toNat + 1) := Nat.mul_le_mul (by omega) (by omega)
      omega
    rw [decide_eq_false (show ¬ grid_Count s.s < 1 by omega)]
    simp only [Bool.not_true, cond_false, id]
    cases decide (s.k < 1) <;> cases decide (s.k > 200) <;> cases decide (grid_Count s.s > 1100) <;> rfl
theorem bB (b x y : Bool) : (bif b then some (B x) else some (B y)) = some (B (bif b then x else y)) := by cases b <;> rfl
end Go.Cb
namespace Go.Proofs.YtflbjjpcjeinlaaGreatDoor
open Go.Ev Go.Cb
theorem ok_r27_May : En 49 e_r27_May :=
  entry1 (callable Tryz.func49 (by kernel_rfl)) fun s => sp (.cons ok_r9_Sound (.cons ok_Nodes .nil)) Tryz.func49 3
    (Eq.trans (b := bif !prefix_Sound s.s then some (B false) else bif decide (s.k < 1) then some (B false) else bif decide (s.k > 200) then some (B false) else bif decide (((spNodes s.s).length : Int) > 1100) then some (B false) else
      bif s.kind == 1 then some (B (s.cap == 0)) else bif s.kind == 2 then (bif s.s.n == 1 then (bif decide (s.cap ≥ 1) then some (B (decide (s.cap ≤ 5000))) else some (B false)) else some (B false))
      else bif s.kind == 3 then (bif s.s.n == 1 then (bif decide (s.cap ≥ 1) then some (B (decide (s.cap ≤ 5000))) else some (B false)) else some (B false)) else some (B false)) (by kernel_rfl) (by
      rw [spNodes_len]
      simp only [bB]
      rw [may_of]))
abbrev l_r32R : Ens := [(50, e_r12_Right), (49, e_r27_May)]
abbrev e_r32_Right : Fe := fn1 cCf fun c => B (cfgRight c)
theorem ok_r32_Right : En 15 e_r32_Right :=
  entry1 (callable Tryz.func15 (by kernel_rfl)) fun c => sp (.cons ok_r12_Right (.cons ok_r27_May .nil)) Tryz.func15 3
    (Eq.trans (b := bif lattice_May c.sh then (bif c.by' == 1 then some (B (ratio_Right c.sh.k c.a c.b)) else bif c.by' == 2 then some (B (ratio_Right c.sh.k c.a c.b)) else bif c.by' == 3 then some (B (ratio_Right c.sh.k c.a c.b)) else some (B false)) else some (B false)) (by kernel_rfl) (by
      unfold cfgRight
      cases lattice_May c.sh with
      | false => rfl
      | true =>
        rw [cond_true, Bool.true_and]
        by_cases h1 : c.by' = 1
        · rw [h1]; rfl
        · by_cases h2 : c.by' = 2
          · rw [h2]; rfl
          · by_cases h3 : c.by' = 3
            · rw [h3]; rfl
            · rw [show (c.by' == 1) = false by simpa using h1, show (c.by' == 2) = false by simpa using h2, show (c.by' == 3) = false by simpa using h3, cond_false, cond_false, cond_false]
              by_cases h4 : c.by' ≥ 1
              · rw [decide_eq_true h4, decide_eq_false (show ¬ c.by' ≤ 3 by omega)]; rfl
              · rw [decide_eq_false h4]; rfl))
abbrev e_r2_size : Fe := fn1 cI fun n => I (bif decide (n < 1) then 1 else bif decide (n > 8) then 8 else n)
theorem ok_r2_size : En 75 e_r2_size :=
  entry1 (callable Tryz.func75 (by kernel_rfl)) fun n => sp .nil Tryz.func75 3
    (Eq.trans (b := bif decide (n < 1) then some (I 1) else bif decide (n > 8) then some (I 8) else some (I n)) (by kernel_rfl) (by cases decide (n < 1) <;> cases decide (n > 8) <;> rfl))
abbrev l_02 : Ens := [(75, e_r2_size)]
abbrev e_r2_Num : Fe := fn2C cU cI (fun _ k => (k == 1) || ((k == 2) || (k == 4))) fun n k => cBs.enc (num2 n k)
theorem ok_r2_Num : En 51 e_r2_Num :=
  entry2C (callable Tryz.func51 (by kernel_rfl)) fun n k h => by
    have run : ∀ (k' : Int) (M : List Int), evalF (envOf l_02) tb 10 Tryz.f51 [cU.enc n, I k'] = some (.sl 1 M.length (rowGet 1 (rowU M)) .none) → Go.Ev.Spec Tryz.prog gl 51 [cU.enc n, I k'] (cBs.enc M) :=
      fun k' M e => .res (fun hk => hk.sl_congr fun i hi => rowGet_U hi) (sp (.cons ok_r2_size .nil) Tryz.func51 10 e)
    by_cases h1 : k = 1
    · subst h1; exact run 1 (num2 n 1) (by kernel_rfl)
    · by_cases h2 : k = 2
      · subst h2; exact run 2 (num2 n 2) (by kernel_rfl)
      · have h4 : k = 4 := by simpa [h1, h2] using h
        subst h4; exact run 4 (num2 n 4) (by kernel_rfl)
end Go.Proofs.YtflbjjpcjeinlaaGreatDoor
