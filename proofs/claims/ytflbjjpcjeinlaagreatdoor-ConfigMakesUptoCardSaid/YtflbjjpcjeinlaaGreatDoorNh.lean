/- Which configurations may be. -/
import Derived.Test.YtflbjjpcjeinlaaGreatDoorNg
namespace Go.Cb
open Go.Ev
def key_WidthC {α : Type} (k : Int → α) (n : Int) : α := bif n == 1 then k 32 else bif n == 2 then k 128 else bif n == 3 then k 8 else k 0
def key_Width (n : Int) : Int := key_WidthC id n
theorem key_WidthC_eq {α : Type} (k : Int → α) (n : Int) : key_WidthC k n = k (key_Width n) := by
  unfold key_Width key_WidthC
  simp only [Bool.cond_eq_ite, id]
  repeat (first | rfl | split)
def dim_RightC {α : Type} (k : Bool → α) (d : Dm) : α :=
  bif d.side == 1 then (bif decide (d.step ≥ 1) then k (decide (d.step ≤ key_Width d.kind)) else k false)
  else bif d.side == 2 then (bif decide (d.step ≥ 1) then k (decide (d.step ≤ key_Width d.kind)) else k false) else k false
def dim_Right (d : Dm) : Bool := dim_RightC id d
theorem dim_RightC_eq {α : Type} (k : Bool → α) (d : Dm) : dim_RightC k d = k (dim_Right d) := by
  unfold dim_Right dim_RightC
  simp only [Bool.cond_eq_ite, id]
  repeat (first | rfl | split)
def dim_DepthC {α : Type} (k : Int → α) (z : α) (d : Dm) : α :=
  bif !dim_Right d then k 0 else bif (d.step != 0) then k (i64 ((i64 (i64 (key_Width d.kind + d.step) - 1)).tdiv d.step)) else z
def dim_Depth (d : Dm) : Int := dim_DepthC id 0 d
theorem dim_Right_step {d : Dm} (h : dim_Right d = true) : 1 ≤ d.step := by
  unfold dim_Right dim_RightC at h
  simp only [Bool.cond_eq_ite, id] at h
  split at h
  · split at h
    · simpa using (by assumption : decide (d.step ≥ 1) = true)
    · cases h
  · split at h
    · split at h
      · simpa using (by assumption : decide (d.step ≥ 1) = true)
      · cases h
    · cases h
theorem dim_DepthC_eq {α : Type} (k : Int → α) (z : α) (d : Dm) : dim_DepthC k z d = k (dim_Depth d) := by
  unfold dim_Depth dim_DepthC
  cases h : dim_Right d with
  | false => rfl
  | true =>
    have := dim_Right_step h
    rw [show (d.step != 0) = true by simp; omega]
    rfl
def prefix_SoundC {α : Type} (k : Bool → α) (s : Sp) : α :=
  bif s.n == 1 then (bif dim_Right s.d0 then k (dmEq s.d1 dm0) else k false)
  else bif s.n == 2 then (bif dim_Right s.d0 then k (dim_Right s.d1) else k false) else k false
def prefix_Sound (s : Sp) : Bool := prefix_SoundC id s
theorem prefix_SoundC_eq {α : Type} (k : Bool → α) (s : Sp) : prefix_SoundC k s = k (prefix_Sound s) := by
  unfold prefix_Sound prefix_SoundC
  simp only [Bool.cond_eq_ite, id]
  repeat (first | rfl | split)
def key_Root (n : Int) : Int := bif key_Width n == 0 then 0 else n
abbrev rootD (n : Int) : List D := [I n, I 0, U 0, U 0, T noT]
def topD0 (s : Sp) (x : Int) : Int := bif !prefix_Sound s then 0 else x
def grid_Count (s : Sp) : Int := bif !prefix_Sound s then 0 else i64 (i64 (dim_Depth s.d0 + 1) * i64 (dim_Depth s.d1 + 1))
def lattice_MayC {α : Type} (k : Bool → α) (s : Sh) : α :=
  bif decide (grid_Count s.s < 1) then k false else bif decide (grid_Count s.s > 1100) then k false
  else bif decide (s.k < 1) then k false else bif decide (s.k > 200) then k false
  else bif s.kind == 1 then k (s.cap == 0)
  else bif s.kind == 2 then (bif s.s.n == 1 then (bif decide (s.cap ≥ 1) then k (decide (s.cap ≤ 5000)) else k false) else k false)
  else bif s.kind == 3 then (bif s.s.n == 1 then (bif decide (s.cap ≥ 1) then k (decide (s.cap ≤ 5000)) else k false) else k false)
  else k false
def lattice_May (s : Sh) : Bool := lattice_MayC id s
theorem lattice_MayC_eq {α : Type} (k : Bool → α) (s : Sh) : lattice_MayC k s = k (lattice_May s) := by
  unfold lattice_May lattice_MayC
  simp only [Bool.cond_eq_ite, id]
  repeat (first | rfl | split)
def ratio_RightC {α : Type} (k : Bool → α) (a b c : Int) : α :=
  bif decide (a ≥ 1) then (bif decide (a ≤ 200) then (bif decide (b ≥ 1) then (bif decide (b ≤ c) then (bif decide (c ≤ 1048576) then k (decide (i64 (a * b) > c)) else k false) else k false) else k false) else k false) else k false
def ratio_Right (a b c : Int) : Bool := ratio_RightC id a b c
theorem ratio_RightC_eq {α : Type} (k : Bool → α) (a b c : Int) : ratio_RightC k a b c = k (ratio_Right a b c) := by
  unfold ratio_Right ratio_RightC
  simp only [Bool.cond_eq_ite, id]
  repeat (first | rfl | split)
def cfgRight (c : Cf) : Bool := lattice_May c.sh && (decide (c.by' ≥ 1) && (decide (c.by' ≤ 3) && ratio_Right c.sh.k c.a c.b))
end Go.Cb
namespace Go.Proofs.YtflbjjpcjeinlaaGreatDoor
open Go.Ev Go.Cb
abbrev e_key_Width : Fe := fn1 cI fun n => I (key_Width n)
theorem ok_key_Width : En 118 e_key_Width :=
  entry1 (callable Tryz.func118 (by kernel_rfl)) fun n => sp .nil Tryz.func118 3 (by
    rw [show evalF (envOf []) tb 3 Tryz.f118 [cI.enc n] = key_WidthC (fun x => some (I x)) n by kernel_rfl, key_WidthC_eq])
abbrev l_kW : Ens := [(118, e_key_Width)]
abbrev e_dim_Right : Fe := fn1 cDm fun d => B (dim_Right d)
theorem ok_dim_Right : En 99 e_dim_Right :=
  entry1 (callable Tryz.func99 (by kernel_rfl)) fun d => sp (.cons ok_key_Width .nil) Tryz.func99 3 (by
    rw [show evalF (envOf l_kW) tb 3 Tryz.f99 [cDm.enc d] = dim_RightC (fun x => some (B x)) d by kernel_rfl, dim_RightC_eq])
abbrev l_dD : Ens := [(118, e_key_Width), (99, e_dim_Right)]
abbrev e_dim_Depth : Fe := fn1 cDm fun d => I (dim_Depth d)
theorem ok_dim_Depth : En 116 e_dim_Depth :=
  entry1 (callable Tryz.func116 (by kernel_rfl)) fun d => sp (.cons ok_key_Width (.cons ok_dim_Right .nil)) Tryz.func116 3 (by
    rw [show evalF (envOf l_dD) tb 3 Tryz.f116 [cDm.enc d] = dim_DepthC (fun x => some (I x)) none d by kernel_rfl, dim_DepthC_eq])
abbrev l_pS : Ens := [(99, e_dim_Right)]
abbrev e_prefix_Sound : Fe := fn1 cSp fun s => B (prefix_Sound s)
theorem ok_prefix_Sound : En 79 e_prefix_Sound :=
  entry1 (callable Tryz.func79 (by kernel_rfl)) fun s => sp (.cons ok_dim_Right .nil) Tryz.func79 3 (by
    rw [show evalF (envOf l_pS) tb 3 Tryz.f79 [cSp.enc s] = prefix_SoundC (fun x => some (B x)) s by kernel_rfl, prefix_SoundC_eq])
abbrev e_key_Root : Fe := fn1 cI fun n => .agg (rootD (key_Root n))
theorem ok_key_Root : En 117 e_key_Root :=
  entry1 (callable Tryz.func117 (by kernel_rfl)) fun n => sp (.cons ok_key_Width .nil) Tryz.func117 3
    (Eq.trans (b := bif key_Width n == 0 then some (.agg (rootD 0)) else some (.agg (rootD n))) (by kernel_rfl) (by unfold key_Root; cases key_Width n == 0 <;> rfl))
abbrev l_Top : Ens := [(117, e_key_Root), (116, e_dim_Depth), (79, e_prefix_Sound)]
abbrev topD (s : Sp) (a b c d : Int) : D := .agg (I (topD0 s a) :: I (topD0 s b) :: (rootD (topD0 s c) ++ rootD (topD0 s d)))
abbrev e_Top : Fe := fn1 cSp fun s => topD s (dim_Depth s.d0) (dim_Depth s.d1) (key_Root s.d0.kind) (key_Root s.d1.kind)
theorem ok_Top : En 98 e_Top :=
  entry1 (callable Tryz.func98 (by kernel_rfl)) fun s => sp (.cons ok_key_Root (.cons ok_dim_Depth (.cons ok_prefix_Sound .nil))) Tryz.func98 4
    (Eq.trans (b := bif !prefix_Sound s then some (.agg (I 0 :: I 0 :: (rootD 0 ++ rootD 0))) else some (.agg (I (dim_Depth s.d0) :: I (dim_Depth s.d1) :: (rootD (key_Root s.d0.kind) ++ rootD (key_Root s.d1.kind))))) (by kernel_rfl) (by
      unfold topD topD0; cases prefix_Sound s <;> rfl))
abbrev e_ends : Fe := fn1 cSp fun s => .agg [I (topD0 s (dim_Depth s.d0)), I (topD0 s (dim_Depth s.d1))]
theorem ok_ends : En 80 e_ends :=
  entry1 (callable Tryz.func80 (by kernel_rfl)) fun s => sp (.cons ok_Top .nil) Tryz.func80 3 (by kernel_rfl)
abbrev l_Cnt : Ens := [(79, e_prefix_Sound), (80, e_ends)]
abbrev e_Count : Fe := fn1 cSp fun s => I (grid_Count s)
theorem ok_Count : En 57 e_Count :=
  entry1 (callable Tryz.func57 (by kernel_rfl)) fun s => sp (.cons ok_prefix_Sound (.cons ok_ends .nil)) Tryz.func57 3
    (Eq.trans (b := bif !prefix_Sound s then some (I 0) else some (I (i64 (i64 (topD0 s (dim_Depth s.d0) + 1) * i64 (topD0 s (dim_Depth s.d1) + 1))))) (by kernel_rfl) (by
      unfold grid_Count topD0; cases prefix_Sound s <;> rfl))
abbrev l_May : Ens := [(57, e_Count)]
abbrev e_May : Fe := fn1 cSh fun s => B (lattice_May s)
theorem ok_May : En 48 e_May :=
  entry1 (callable Tryz.func48 (by kernel_rfl)) fun s => sp (.cons ok_Count .nil) Tryz.func48 3 (by
    rw [show evalF (envOf l_May) tb 3 Tryz.f48 [cSh.enc s] = lattice_MayC (fun x => some (B x)) s by kernel_rfl, lattice_MayC_eq])
abbrev e_rRight : Fe := fn3 cI cI cI fun a b c => B (ratio_Right a b c)
theorem ok_rRight : En 23 e_rRight :=
  entry3 (callable Tryz.func23 (by kernel_rfl)) fun a b c => sp .nil Tryz.func23 3 (by
    rw [show evalF (envOf []) tb 3 Tryz.f23 [cI.enc a, cI.enc b, cI.enc c] = ratio_RightC (fun x => some (B x)) a b c by kernel_rfl, ratio_RightC_eq])
abbrev l_cR : Ens := [(48, e_May), (23, e_rRight)]
abbrev e_cRight : Fe := fn1 cCf fun c => B (cfgRight c)
theorem ok_cRight : En 14 e_cRight :=
  entry1 (callable Tryz.func14 (by kernel_rfl)) fun c => sp (.cons ok_May (.cons ok_rRight .nil)) Tryz.func14 3
    (Eq.trans (b := bif lattice_May c.sh then (bif decide (c.by' ≥ 1) then (bif decide (c.by' ≤ 3) then some (B (ratio_Right c.sh.k c.a c.b)) else some (B false)) else some (B false)) else some (B false)) (by kernel_rfl) (by
      unfold cfgRight; cases lattice_May c.sh <;> cases decide (c.by' ≥ 1) <;> cases decide (c.by' ≤ 3) <;> rfl))
end Go.Proofs.YtflbjjpcjeinlaaGreatDoor
