/- Dimensions, spaces, prefixes: what each function of the program gives. -/
import Derived.Test.YtbjpkbolmpcmfaaDoorFd
namespace Go.Cb
open Go.Ev
def dim_DepthC {α : Type} (k : Int → α) (z : α) (d : Dm) : α :=
  bif !dim_Right d then k 0 else bif (d.step != 0) then k (i64 ((i64 (i64 (key_Width d.kind + d.step) - 1)).tdiv d.step)) else z
def dim_Depth (d : Dm) : Int := dim_DepthC id 0 d
theorem dim_Right_step {d : Dm} (h : dim_Right d = true) : 1 ≤ d.step := by
  unfold dim_Right dim_RightC at h
  simp only [Bool.cond_eq_ite, id] at h
  split at h
  · split at h
    · simpa using (by assumption : decide (d.step ≥ 1) = true)
    · cases h
  · split at h
    · split at h
      · simpa using (by assumption : decide (d.step ≥ 1) = true)
      · cases h
    · cases h
theorem dim_DepthC_eq {α : Type} (k : Int → α) (z : α) (d : Dm) : dim_DepthC k z d = k (dim_Depth d) := by
  unfold dim_Depth dim_DepthC
  cases h : dim_Right d with
  | false => rfl
  | true =>
    have := dim_Right_step h
    rw [show (d.step != 0) = true by simp; omega]
    rfl
def max0 (x : Int) : Int := if 0 < x then x else 0
def dim_LenC {α : Type} (k : Int → α) (d : Dm) (n : Int) : α :=
  bif !dim_Right d then k (-1) else bif decide (n < 0) then k (-1) else bif decide (n > dim_Depth d) then k (-1)
  else k (max0 (i64 (key_Width d.kind - i64 (n * d.step))))
def dim_Len (d : Dm) (n : Int) : Int := dim_LenC id d n
theorem dim_LenC_eq {α : Type} (k : Int → α) (d : Dm) (n : Int) : dim_LenC k d n = k (dim_Len d n) := by
  unfold dim_Len dim_LenC
  simp only [Bool.cond_eq_ite, id]
  repeat (first | rfl | split)
def dim_OnC {α : Type} (k : Bool → α) (d : Dm) (n : Int) (a : Ky) : α :=
  bif decide (dim_Len d n < 0) then k false else bif (a.kind != d.kind) then k false else bif !key_Right a then k false
  else bif (a.len == dim_Len d n) then k true else bif (a.kind == 3) then k (decide (a.len < dim_Len d n)) else k false
def dim_On (d : Dm) (n : Int) (a : Ky) : Bool := dim_OnC id d n a
theorem dim_OnC_eq {α : Type} (k : Bool → α) (d : Dm) (n : Int) (a : Ky) : dim_OnC k d n a = k (dim_On d n a) := by
  unfold dim_On dim_OnC
  simp only [Bool.cond_eq_ite, id]
  repeat (first | rfl | split)
def dmEq (a b : Dm) : Bool := (a.kind == b.kind) && ((a.side == b.side) && ((a.step == b.step) && true))
def dm0 : Dm := ⟨0, 0, 0⟩
def prefix_SoundC {α : Type} (k : Bool → α) (s : Sp) : α :=
  bif s.n == 1 then (bif dim_Right s.d0 then k (dmEq s.d1 dm0) else k false)
  else bif s.n == 2 then (bif dim_Right s.d0 then k (dim_Right s.d1) else k false) else k false
def prefix_Sound (s : Sp) : Bool := prefix_SoundC id s
theorem prefix_SoundC_eq {α : Type} (k : Bool → α) (s : Sp) : prefix_SoundC k s = k (prefix_Sound s) := by
  unfold prefix_Sound prefix_SoundC
  simp only [Bool.cond_eq_ite, id]
  repeat (first | rfl | split)
def prefix_RightC {α : Type} (k : Bool → α) (s : Sp) (p : Px) : α :=
  bif !prefix_Sound s then k false
  else bif decide ((0 : Int) ≥ s.n) then (bif p.at0 == 0 then k (kyEq p.k0 k0) else k false)
  else bif !dim_On s.d0 p.at0 p.k0 then k false
  else bif decide ((1 : Int) ≥ s.n) then (bif p.at1 == 0 then k (kyEq p.k1 k0) else k false)
  else bif !dim_On s.d1 p.at1 p.k1 then k false
  else k true
def prefix_Right (s : Sp) (p : Px) : Bool := prefix_RightC id s p
theorem prefix_RightC_eq {α : Type} (k : Bool → α) (s : Sp) (p : Px) : prefix_RightC k s p = k (prefix_Right s p) := by
  unfold prefix_Right prefix_RightC
  simp only [Bool.cond_eq_ite, id]
  repeat (first | rfl | split)
def prefix_orNone (s : Sp) (p : Px) : Px := bif !prefix_Right s p then px0 else p
theorem prefix_orNone_eq {α : Type} (k : Px → Bool → α) (s : Sp) (p : Px) : (bif !prefix_Right s p then k px0 false else k p true) = k (prefix_orNone s p) (prefix_Right s p) := by
  unfold prefix_orNone; cases prefix_Right s p <;> rfl
def prefix_Leaf (s : Sp) (a b : Ky) : Px := prefix_orNone s ⟨0, 0, a, b⟩
def prefix_LeafOk (s : Sp) (a b : Ky) : Bool := prefix_Right s ⟨0, 0, a, b⟩

def flow_rightAddrC {α : Type} (k : Bool → α) (a : Ky) : α :=
  bif kyEq a k0 then k true else bif (a.kind != 3) then (bif key_Right a then k (a.len == key_Width a.kind) else k false) else k false
def flow_rightAddr (a : Ky) : Bool := flow_rightAddrC id a
theorem flow_rightAddrC_eq {α : Type} (k : Bool → α) (a : Ky) : flow_rightAddrC k a = k (flow_rightAddr a) := by
  unfold flow_rightAddr flow_rightAddrC
  simp only [Bool.cond_eq_ite, id]
  repeat (first | rfl | split)
def flow_rightPathC {α : Type} (k : Bool → α) (a : Ky) : α :=
  bif kyEq a k0 then k true else bif (a.kind == 3) then k (key_Right a) else k false
def flow_rightPath (a : Ky) : Bool := flow_rightPathC id a
theorem flow_rightPathC_eq {α : Type} (k : Bool → α) (a : Ky) : flow_rightPathC k a = k (flow_rightPath a) := by
  unfold flow_rightPath flow_rightPathC
  simp only [Bool.cond_eq_ite, id]
  repeat (first | rfl | split)
def flow_RightC {α : Type} (k : Bool → α) (f : Rc) : α :=
  bif !flow_rightAddr f.a0 then k false else bif !flow_rightPath f.p0 then k false
  else bif !flow_rightAddr f.a1 then k false else bif !flow_rightPath f.p1 then k false else k true
def flow_Right (f : Rc) : Bool := flow_RightC id f
theorem flow_RightC_eq {α : Type} (k : Bool → α) (f : Rc) : flow_RightC k f = k (flow_Right f) := by
  unfold flow_Right flow_RightC
  simp only [Bool.cond_eq_ite, id]
  repeat (first | rfl | split)
end Go.Cb
namespace Go.Proofs.YtbjpkbolmpcmfaaDoor
open Go.Ev Go.Cb
abbrev l_flow_rightAddr : Ens := [(52, e_key_Right), (53, e_key_Width)]
abbrev e_flow_rightAddr : Fe := fn1 cKy fun a => B (flow_rightAddr a)
theorem ok_flow_rightAddr : En 39 e_flow_rightAddr :=
  entry1 (callable Tryd.func39 (by kernel_rfl)) fun a => sp (.cons ok_key_Right (.cons ok_key_Width .nil)) Tryd.func39 3 (by
    rw [show evalF (envOf l_flow_rightAddr) tb 3 Tryd.f39 [cKy.enc a] = flow_rightAddrC (fun x => some (B x)) a by kernel_rfl, flow_rightAddrC_eq])
abbrev e_flow_rightPath : Fe := fn1 cKy fun a => B (flow_rightPath a)
abbrev l_flow_rightPath : Ens := [(52, e_key_Right)]
theorem ok_flow_rightPath : En 40 e_flow_rightPath :=
  entry1 (callable Tryd.func40 (by kernel_rfl)) fun a => sp (.cons ok_key_Right .nil) Tryd.func40 3 (by
    rw [show evalF (envOf l_flow_rightPath) tb 3 Tryd.f40 [cKy.enc a] = flow_rightPathC (fun x => some (B x)) a by kernel_rfl, flow_rightPathC_eq])
abbrev l_flow_Right : Ens := [(39, e_flow_rightAddr), (40, e_flow_rightPath)]
abbrev e_flow_Right : Fe := fn1 cRc fun a => B (flow_Right a)
theorem ok_flow_Right : En 22 e_flow_Right :=
  entry1 (callable Tryd.func22 (by kernel_rfl)) fun a => sp (.cons ok_flow_rightAddr (.cons ok_flow_rightPath .nil)) Tryd.func22 3 (by
    rw [show evalF (envOf l_flow_Right) tb 3 Tryd.f22 [cRc.enc a] = flow_RightC (fun x => some (B x)) a by kernel_rfl, flow_RightC_eq])
end Go.Proofs.YtbjpkbolmpcmfaaDoor
