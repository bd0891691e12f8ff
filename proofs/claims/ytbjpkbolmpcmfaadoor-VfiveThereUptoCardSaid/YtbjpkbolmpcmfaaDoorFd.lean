/- Keys, dimensions, spaces: what each function of the program gives. -/
import Derived.Test.YtbjpkbolmpcmfaaDoorFc
namespace Go.Cb
open Go.Ev
def key_WidthC {α : Type} (k : Int → α) (n : Int) : α := bif n == 1 then k 32 else bif n == 2 then k 128 else bif n == 3 then k 8 else k 0
def key_Width (n : Int) : Int := key_WidthC id n
theorem key_WidthC_eq {α : Type} (k : Int → α) (n : Int) : key_WidthC k n = k (key_Width n) := by
  unfold key_Width key_WidthC
  simp only [Bool.cond_eq_ite, id]
  repeat (first | rfl | split)
def key_bits (k : Ky) : Wd := ⟨k.hi, k.lo⟩
def key_ofBits (kind n : Int) (a : Wd) : Ky := ⟨kind, n, (wide_Top a n).hi, (wide_Top a n).lo, noT⟩
def key_ofPath (p : ByteArray) : Ky := ⟨3, (pathL p).length, 0, 0, p⟩
def key_RightC {α : Type} (k : Bool → α) (a : Ky) : α :=
  bif a.kind == 1 then (bif decide (a.len ≥ 0) then (bif decide (a.len ≤ key_Width a.kind) then k (kyEq a (key_ofBits a.kind a.len (key_bits a))) else k false) else k false)
  else bif a.kind == 2 then (bif decide (a.len ≥ 0) then (bif decide (a.len ≤ key_Width a.kind) then k (kyEq a (key_ofBits a.kind a.len (key_bits a))) else k false) else k false)
  else bif a.kind == 3 then (bif pathRight a.path then k (kyEq a (key_ofPath a.path)) else k false) else k false
def key_Right (a : Ky) : Bool := key_RightC id a
theorem key_RightC_eq {α : Type} (k : Bool → α) (a : Ky) : key_RightC k a = k (key_Right a) := by
  unfold key_Right key_RightC
  simp only [Bool.cond_eq_ite, id]
  repeat (first | rfl | split)
def key_Four (a : Int) : Ky := key_ofBits 1 32 (wide_Left (wide_Of (w64 a)) 96)
def key_Six (a : Wd) : Ky := key_ofBits 2 128 a

def dim_RightC {α : Type} (k : Bool → α) (d : Dm) : α :=
  bif d.side == 1 then (bif decide (d.step ≥ 1) then k (decide (d.step ≤ key_Width d.kind)) else k false)
  else bif d.side == 2 then (bif decide (d.step ≥ 1) then k (decide (d.step ≤ key_Width d.kind)) else k false) else k false
def dim_Right (d : Dm) : Bool := dim_RightC id d
theorem dim_RightC_eq {α : Type} (k : Bool → α) (d : Dm) : dim_RightC k d = k (dim_Right d) := by
  unfold dim_Right dim_RightC
  simp only [Bool.cond_eq_ite, id]
  repeat (first | rfl | split)
end Go.Cb
namespace Go.Proofs.YtbjpkbolmpcmfaaDoor
open Go.Ev Go.Cb
abbrev e_key_Width : Fe := fn1 cI fun n => I (key_Width n)
theorem ok_key_Width : En 53 e_key_Width :=
  entry1 (callable Tryd.func53 (by kernel_rfl)) fun n => sp .nil Tryd.func53 3 (by
    rw [show evalF (envOf []) tb 3 Tryd.f53 [cI.enc n] = key_WidthC (fun x => some (I x)) n by kernel_rfl, key_WidthC_eq])
abbrev e_key_bits : Fe := fn1 cKy fun a => cWd.enc (key_bits a)
theorem ok_key_bits : En 57 e_key_bits :=
  entry1 (callable Tryd.func57 (by kernel_rfl)) fun n => sp .nil Tryd.func57 3 (by kernel_rfl)
abbrev e_key_ofBits : Fe := fn3 cI cI cWd fun a b c => cKy.enc (key_ofBits a b c)
theorem ok_key_ofBits : En 49 e_key_ofBits :=
  entry3 (callable Tryd.func49 (by kernel_rfl)) fun a b c => sp (.cons ok_wide_Top .nil) Tryd.func49 3 (by kernel_rfl)
abbrev e_key_ofPath : Fe := fn1 cT fun a => cKy.enc (key_ofPath a)
theorem ok_key_ofPath : En 59 e_key_ofPath :=
  entry1 (callable Tryd.func59 (by kernel_rfl)) fun a => sp (.cons ok_pathLen .nil) Tryd.func59 3 (by kernel_rfl)
abbrev l_key_Right : Ens := [(53, e_key_Width), (57, e_key_bits), (49, e_key_ofBits), (58, e_pathRight), (59, e_key_ofPath)]
abbrev e_key_Right : Fe := fn1 cKy fun a => B (key_Right a)
theorem ok_key_Right : En 52 e_key_Right :=
  entry1 (callable Tryd.func52 (by kernel_rfl)) fun a => sp (.cons ok_key_Width (.cons ok_key_bits (.cons ok_key_ofBits (.cons ok_pathRight (.cons ok_key_ofPath .nil))))) Tryd.func52 3 (by
    rw [show evalF (envOf l_key_Right) tb 3 Tryd.f52 [cKy.enc a] = key_RightC (fun x => some (B x)) a by kernel_rfl, key_RightC_eq])
abbrev e_key_Four : Fe := fn1 (cNum .u32) fun a => cKy.enc (key_Four a)
theorem ok_key_Four : En 36 e_key_Four :=
  entry1 (callable Tryd.func36 (by kernel_rfl)) fun a => sp (.cons ok_wide_Of (.cons ok_wide_Left (.cons ok_key_ofBits .nil))) Tryd.func36 3 (by kernel_rfl)
end Go.Proofs.YtbjpkbolmpcmfaaDoor
