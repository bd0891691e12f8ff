/- The reference's nodes, and which shapes and configurations may be by it. -/
import Derived.Test.YtflbjjpcjeinlaaGreatDoorTa
namespace Go.Cb
open Go.Ev Go.Proofs.YtflbjjpcjeinlaaGreatDoor
def sPr : Cs (Int × Int) where
  enc p := [I p.1, I p.2]
  dec
    | .v (.int .i64 a) :: .v (.int .i64 b) :: r => some ((a, b), r)
    | _ => none
  ok := by intro l a r h; split at h <;> cases h; rfl
  re := by intro a r; rfl
abbrev cPrs : Cd (List (Int × Int)) := sPr.list 2 (0, 0)
abbrev oneAt (a b h : Nat) : Bool := decide (a ≤ h) && decide (h ≤ a + b)
def nrow (a b h : Nat) : List (Int × Int) := ((List.range a).filter fun (i : Nat) => oneAt i b h).map fun (i : Nat) => ((i : Int), (h : Int) - (i : Int))
def nodes (a b n : Nat) : List (Int × Int) := (List.range n).flatMap (nrow (a + 1) b)
theorem nrow_succ {a b h : Nat} : nrow (a + 1) b h = nrow a b h ++ bif oneAt a b h then [((a : Int), (h : Int) - (a : Int))] else [] := by
  unfold nrow
  rw [List.range_succ, List.filter_append, List.map_append]
  cases hh : oneAt a b h with
  | true => simp [List.filter_cons, hh]
  | false => simp [List.filter_cons, hh]
theorem nodes_succ {a b n : Nat} : nodes a b (n + 1) = nodes a b n ++ nrow (a + 1) b n := by
  unfold nodes
  rw [List.range_succ]
  simp
theorem nrow_len {a b h : Nat} : (nrow a b h).length ≤ a := by
  unfold nrow
  rw [List.length_map]
  exact Nat.le_trans (List.length_filter_le _ _) (by simp)
theorem nodes_len {a b n : Nat} : (nodes a b n).length ≤ n * (a + 1) := by
  induction n with
  | zero => simp [nodes]
  | succ n ih =>
    rw [nodes_succ, List.length_append, Nat.succ_mul]
    have := nrow_len (a := a + 1) (b := b) (h := n)
    omega
/-- How many there are. -/
theorem nodes_cnt0 {a b : Nat} : ∀ n, (((List.range n).flatMap (nrow (a + 1) b)).length : Int) = ((List.range n).flatMap (nrow a b)).length + (min n (a + b + 1) - min n a : Nat)
  | 0 => by simp
  | n + 1 => by
    have ih := nodes_cnt0 (a := a) (b := b) n
    rw [List.range_succ, List.flatMap_append, List.flatMap_append, List.length_append, List.length_append]
    simp only [List.flatMap_cons, List.flatMap_nil, List.append_nil]
    rw [nrow_succ, List.length_append]
    have e : ((bif oneAt a b n then [((a : Int), (n : Int) - (a : Int))] else []).length : Int) = (min (n + 1) (a + b + 1) - min (n + 1) a : Nat) - (min n (a + b + 1) - min n a : Nat) := by
      by_cases h : a ≤ n ∧ n ≤ a + b
      · rw [show oneAt a b n = true by simp [oneAt]; exact h]
        simp only [cond_true, List.length_cons, List.length_nil]
        omega
      · rw [show oneAt a b n = false by simp only [oneAt, Bool.and_eq_false_iff, decide_eq_false_iff_not]; omega]
        simp only [cond_false, List.length_nil]
        omega
    push_cast at *
    omega
theorem nodes_cnt {b : Nat} : ∀ a n, a + b ≤ n → ((List.range n).flatMap (nrow a b)).length = a * (b + 1)
  | 0, n, _ => by
    have : nrow 0 b = fun _ => [] := by funext h; rfl
    rw [this]; simp [List.flatMap_eq_nil_iff.2]
  | a + 1, n, h => by
    have ih := nodes_cnt (b := b) a n (by omega)
    have e := nodes_cnt0 (a := a) (b := b) n
    rw [ih] at e
    rw [Nat.succ_mul]
    omega
theorem nodes_all {a b : Nat} : (nodes a b (a + b + 1)).length = (a + 1) * (b + 1) := nodes_cnt (a + 1) _ (by omega)
end Go.Cb
namespace Go.Proofs.YtflbjjpcjeinlaaGreatDoor
open Go.Ev Go.Cb
abbrev l_No : Ens := [(97, e_r8_Depth), (73, e_r9_Sound)]
abbrev stNo (s : Sp) (a b : Int) (m : Nat) (G : Nat → List D) (h : Int) : S :=
  { t := stT 51 0 [(3, .sl 2 m G (.tok 16777223)), (4, I a), (5, I b), (6, I h)]
    m := [(16777223, .tok 136), (2097152, .cells (sSp.enc s) 26)], k := 8388666 }
abbrev stNi (s : Sp) (a b : Int) (m : Nat) (G : Nat → List D) (h i : Int) : S :=
  { t := stT 51 0 [(3, .sl 2 m G (.tok 23068679)), (4, I a), (5, I b), (6, I h), (7, I i)]
    m := [(23068679, .tok 136), (2097152, .cells (sSp.enc s) 26)], k := 11534394 }
noncomputable abbrev kNo (F : Nat) (R : S → Option D) : Xt → S → Option D := kR (envOf l_No) tb (rdsF Tryz.f74) F (bodyF Tryz.f74) 0 (endK tb Tryz.f74) 8388608 [2097152] R
theorem rnd_No (F : Nat) (s : Sp) (a b h : Int) (m : Nat) (G : Nat → List D) (H : Nat → List Nat → S → Option D) (R : S → Option D) :
    rndI (envOf l_No) tb (rdsF Tryz.f74) F (bodyF Tryz.f74) 0 (endK tb Tryz.f74) 8388608 [2097152] 0 H R (stNo s a b m G h) =
    bif decide (h ≤ i64 (a + b)) then H 11534336 [16777223, 2097152] (stNi s a b m G h 0) else some (.sl 2 m G .none) := by kernel_rfl
theorem rnd_Ni (F : Nat) (s : Sp) (a b h i : Int) (m : Nat) (G : Nat → List D) (R R2 : S → Option D) :
    rndG (envOf l_No) tb (rdsF Tryz.f74) F (lpC (bodyF Tryz.f74) 0) 0 (kNo F R) 11534336 [16777223, 2097152] R2 (stNi s a b m G h i) =
    bif decide (i ≤ a) then
      (bif decide (i64 (h - i) ≥ 0) then
        (bif decide (i64 (h - i) ≤ b) then
          (bif decide ((m + 1) * 16 ≤ 140737488355328 ∧ m + 1 ≤ 9223372036854775807) then R2 (stNi s a b (m + 1) (pushD sPr (0, 0) m G (i, i64 (h - i))) h (i64 (i + 1))) else none)
        else R2 (stNi s a b m G h (i64 (i + 1))))
      else R2 (stNi s a b m G h (i64 (i + 1))))
    else R (stNo s a b m G (i64 (h + 1))) := by kernel_rfl
theorem st_No (F : Nat) (s : Sp) (H : Nat → List Nat → S → Option D) : evalH (envOf l_No) tb F Tryz.f74 0 H (Go.Ev.start Tryz.f74 [cSp.enc s]) (endK tb Tryz.f74) =
    bif !prefix_Sound s then some (.sl 2 0 (fun _ => [I 0, I 0]) .none) else H 8388608 [2097152] (stNo s (dim_Depth s.d0) (dim_Depth s.d1) 0 (fun _ => [I 0, I 0]) 0) := by kernel_rfl
theorem lp_Ni (F : Nat) (s : Sp) (a b h : Nat) (ha : a ≤ 256) (hb : b ≤ 256) (hh : h ≤ 600) (P : List (Int × Int)) (hP : P.length ≤ 200000) (R : S → Option D) : ∀ (r i n : Nat), a + 1 = i + r → r < n →
    lpG (envOf l_No) tb (rdsF Tryz.f74) F (lpC (bodyF Tryz.f74) 0) 0 (kNo F R) n 11534336 [16777223, 2097152] (stNi s a b (P ++ nrow i b h).length (getE sPr (0, 0) (P ++ nrow i b h)) h i) =
      R (stNo s a b (P ++ nrow (a + 1) b h).length (getE sPr (0, 0) (P ++ nrow (a + 1) b h)) (i64 ((h : Int) + 1)))
  | 0, i, n + 1, e, _ => by
    have e : i = a + 1 := by omega
    subst e
    rw [lpG_succ, rnd_Ni, decide_eq_false (show ¬ (((a + 1 : Nat) : Int) ≤ (a : Int)) by omega), cond_false]
  | r + 1, i, n + 1, e, h2 => by
    have ih := lp_Ni F s a b h ha hb hh P hP R r (i + 1) n (by omega) (by omega)
    have hl := nrow_len (a := i) (b := b) (h := h)
    have hlen : (P ++ nrow i b h).length ≤ 200256 := by rw [List.length_append]; omega
    rw [lpG_succ, rnd_Ni, decide_eq_true (show ((i : Nat) : Int) ≤ (a : Int) by omega), cond_true, i64_in (n := (h : Int) - (i : Int)) (by omega) (by omega), i64_succ (by omega)]
    by_cases c1 : (i : Int) ≤ (h : Int)
    · rw [decide_eq_true (show (h : Int) - (i : Int) ≥ 0 by omega), cond_true]
      by_cases c2 : (h : Int) - (i : Int) ≤ (b : Int)
      · rw [decide_eq_true c2, cond_true, decide_eq_true (show ((P ++ nrow i b h).length + 1) * 16 ≤ 140737488355328 ∧ (P ++ nrow i b h).length + 1 ≤ 9223372036854775807 by omega), cond_true, pushD_eq]
        have hn : P ++ nrow i b h ++ [((i : Int), (h : Int) - (i : Int))] = P ++ nrow (i + 1) b h := by
          rw [nrow_succ, show oneAt i b h = true by simp only [oneAt, Bool.and_eq_true, decide_eq_true_eq]; omega, cond_true, List.append_assoc]
        rw [hn, show (P ++ nrow i b h).length + 1 = (P ++ nrow (i + 1) b h).length by rw [← hn]; simp [Nat.add_assoc]]
        exact ih
      · have hn : nrow (i + 1) b h = nrow i b h := by
          rw [nrow_succ, show oneAt i b h = false by simp only [oneAt, Bool.and_eq_false_iff, decide_eq_false_iff_not]; omega, cond_false, List.append_nil]
        rw [decide_eq_false c2, cond_false]
        rw [hn] at ih
        exact ih
    · have hn : nrow (i + 1) b h = nrow i b h := by
        rw [nrow_succ, show oneAt i b h = false by simp only [oneAt, Bool.and_eq_false_iff, decide_eq_false_iff_not]; omega, cond_false, List.append_nil]
      rw [decide_eq_false (show ¬ ((h : Int) - (i : Int) ≥ 0) by omega), cond_false]
      rw [hn] at ih
      exact ih
theorem lp_No (F : Nat) (hF : 258 ≤ F) (s : Sp) (a b : Nat) (ha : a ≤ 256) (hb : b ≤ 256) : ∀ (r h n : Nat), a + b + 1 = h + r → r < n →
    lpE (envOf l_No) tb F Tryz.f74 0 (endK tb Tryz.f74) n 8388608 [2097152] (stNo s a b (nodes a b h).length (getE sPr (0, 0) (nodes a b h)) h) = some (cPrs.enc (nodes a b (a + b + 1)))
  | 0, h, n + 1, e, _ => by
    have e : h = a + b + 1 := by omega
    subst e
    rw [lpE_succ, rndI_eq 0, rnd_No, i64_in (n := (a : Int) + (b : Int)) (by omega) (by omega), decide_eq_false (show ¬ (((a + b + 1 : Nat) : Int) ≤ (a : Int) + (b : Int)) by omega), cond_false]
    rfl
  | r + 1, h, n + 1, e, h2 => by
    have ih := lp_No F hF s a b ha hb r (h + 1) n (by omega) (by omega)
    have hP : (nodes a b h).length ≤ 200000 := Nat.le_trans nodes_len (Nat.le_trans (Nat.mul_le_mul (show h ≤ 512 by omega) (show a + 1 ≤ 257 by omega)) (by decide))
    rw [lpE_succ, rndI_eq 0, rnd_No, i64_in (n := (a : Int) + (b : Int)) (by omega) (by omega), decide_eq_true (show ((h : Nat) : Int) ≤ (a : Int) + (b : Int) by omega), cond_true]
    have hin := lp_Ni F s a b h ha hb (by omega) (nodes a b h) hP (lpE (envOf l_No) tb F Tryz.f74 0 (endK tb Tryz.f74) n 8388608 [2097152]) (a + 1) 0 F (by omega) (by omega)
    rw [show nodes a b h ++ nrow 0 b h = nodes a b h from List.append_nil _] at hin
    refine hin.trans ?_
    rw [i64_succ (by omega), ← nodes_succ]
    exact ih
end Go.Proofs.YtflbjjpcjeinlaaGreatDoor
namespace Go.Cb
open Go.Ev Go.Proofs.YtflbjjpcjeinlaaGreatDoor
theorem dim_Depth_not {d : Dm} (h : dim_Right d = false) : dim_Depth d = 0 := by unfold dim_Depth dim_DepthC; rw [h]; rfl
theorem dim_Depth_in (d : Dm) : 0 ≤ dim_Depth d ∧ dim_Depth d ≤ 256 := by
  cases h : dim_Right d with
  | false => rw [dim_Depth_not h]; omega
  | true =>
    obtain ⟨h1, h2, _, _⟩ := dim_Depth_of h
    omega
def spNodes (s : Sp) : List (Int × Int) := bif prefix_Sound s then nodes (dim_Depth s.d0).toNat (dim_Depth s.d1).toNat ((dim_Depth s.d0).toNat + (dim_Depth s.d1).toNat + 1) else []
theorem spNodes_len (s : Sp) : ((spNodes s).length : Int) = grid_Count s := by
  unfold spNodes grid_Count
  cases prefix_Sound s with
  | false => rfl
  | true =>
    obtain ⟨a0, a1⟩ := dim_Depth_in s.d0
    obtain ⟨b0, b1⟩ := dim_Depth_in s.d1
    obtain ⟨a, ha⟩ := Int.eq_ofNat_of_zero_le a0
    obtain ⟨b, hb⟩ := Int.eq_ofNat_of_zero_le b0
    rw [ha, hb]
    simp only [cond_true, Bool.not_true, cond_false, Int.toNat_natCast]
    rw [nodes_all, i64_succ (by omega), i64_succ (by omega)]
    have : (a + 1) * (b + 1) ≤ 257 * 257 := Nat.mul_le_mul (by omega) (by omega)
    rw [show (((a + 1 : Nat) : Int) * ((b + 1 : Nat) : Int)) = (((a + 1) * (b + 1) : Nat) : Int) from (Int.natCast_mul _ _).symm, i64_nat (by omega)]
end Go.Cb
namespace Go.Proofs.YtflbjjpcjeinlaaGreatDoor
open Go.Ev Go.Cb
abbrev e_Nodes : Fe := fn1 cSp fun s => cPrs.enc (spNodes s)
theorem ok_Nodes : En 74 e_Nodes :=
  entry1 (callable Tryz.func74 (by kernel_rfl)) fun s => sp (.cons ok_r8_Depth (.cons ok_r9_Sound .nil)) Tryz.func74 600
    ((evalF_cut (fn := Tryz.f74) 0 rfl).trans ((st_No _ s _).trans (by
      unfold spNodes
      cases h : prefix_Sound s with
      | false => rfl
      | true =>
        obtain ⟨a0, a1⟩ := dim_Depth_in s.d0
        obtain ⟨b0, b1⟩ := dim_Depth_in s.d1
        obtain ⟨a, ha⟩ := Int.eq_ofNat_of_zero_le a0
        obtain ⟨b, hb⟩ := Int.eq_ofNat_of_zero_le b0
        rw [ha, hb, Int.toNat_natCast, Int.toNat_natCast, Bool.not_true, cond_false, cond_true]
        exact lp_No 600 (by omega) s a b (by omega) (by omega) (a + b + 1) 0 600 (by omega) (by omega))))
abbrev l_r27 : Ens := [(73, e_r9_Sound), (74, e_Nodes)]
abbrev e_r27_May : Fe := fn1 cSh fun s => B (lattice_May s)
end Go.Proofs.YtflbjjpcjeinlaaGreatDoor
