/- Wide numbers and keys: what each function of the program gives. -/
import Derived.Test.YtbjpkbolmpcmfaaDoorCd
namespace Go.Cb
open Go.Ev
/-! ## The data -/
structure Wd where
  hi : Int
  lo : Int
structure Ky where
  kind : Int
  len : Int
  hi : Int
  lo : Int
  path : ByteArray
structure Dm where
  kind : Int
  side : Int
  step : Int
structure Sp where
  n : Int
  d0 : Dm
  d1 : Dm
structure Px where
  at0 : Int
  at1 : Int
  k0 : Ky
  k1 : Ky
structure Rc where
  a0 : Ky
  a1 : Ky
  p0 : Ky
  p1 : Ky
  packets : Int
  bytes : Int

def sWd : Cs Wd where
  enc w := [U w.hi, U w.lo]
  dec
    | .v (.int .u64 a) :: .v (.int .u64 b) :: r => some (⟨a, b⟩, r)
    | _ => none
  ok := by intro l a r h; split at h <;> cases h; rfl
  re := by intro a r; rfl
def sKy : Cs Ky where
  enc k := [I k.kind, I k.len, U k.hi, U k.lo, T k.path]
  dec
    | .v (.int .i64 a) :: .v (.int .i64 b) :: .v (.int .u64 c) :: .v (.int .u64 d) :: .v (.string p) :: r => some (⟨a, b, c, d, p⟩, r)
    | _ => none
  ok := by intro l a r h; split at h <;> cases h; rfl
  re := by intro a r; rfl
def sDm : Cs Dm where
  enc k := [I k.kind, I k.side, I k.step]
  dec
    | .v (.int .i64 a) :: .v (.int .i64 b) :: .v (.int .i64 c) :: r => some (⟨a, b, c⟩, r)
    | _ => none
  ok := by intro l a r h; split at h <;> cases h; rfl
  re := by intro a r; rfl
def sSp : Cs Sp where
  enc s := I s.n :: (sDm.enc s.d0 ++ sDm.enc s.d1)
  dec
    | .v (.int .i64 n) :: r => match sDm.dec r with
      | some (a, r1) => match sDm.dec r1 with
        | some (b, r2) => some (⟨n, a, b⟩, r2)
        | none => none
      | none => none
    | _ => none
  ok := by
    intro l a r h
    split at h
    · split at h
      · rename_i h1
        split at h
        · rename_i h2; cases h; rw [sDm.ok h1, sDm.ok h2]; simp
        · cases h
      · cases h
    · cases h
  re := by intro a r; simp [sDm.re]
def sPx : Cs Px where
  enc p := I p.at0 :: I p.at1 :: (sKy.enc p.k0 ++ sKy.enc p.k1)
  dec
    | .v (.int .i64 n) :: .v (.int .i64 m) :: r => match sKy.dec r with
      | some (a, r1) => match sKy.dec r1 with
        | some (b, r2) => some (⟨n, m, a, b⟩, r2)
        | none => none
      | none => none
    | _ => none
  ok := by
    intro l a r h
    split at h
    · split at h
      · rename_i h1
        split at h
        · rename_i h2; cases h; rw [sKy.ok h1, sKy.ok h2]; simp
        · cases h
      · cases h
    · cases h
  re := by intro a r; simp [sKy.re]
def sRc : Cs Rc where
  enc f := sKy.enc f.a0 ++ (sKy.enc f.a1 ++ (sKy.enc f.p0 ++ (sKy.enc f.p1 ++ [U f.packets, U f.bytes])))
  dec l := match sKy.dec l with
    | some (a, l) => match sKy.dec l with
      | some (b, l) => match sKy.dec l with
        | some (c, l) => match sKy.dec l with
          | some (d, .v (.int .u64 x) :: .v (.int .u64 y) :: r) => some (⟨a, b, c, d, x, y⟩, r)
          | _ => none
        | none => none
      | none => none
    | none => none
  ok := by
    intro l a r h
    split at h
    · rename_i h1
      split at h
      · rename_i h2
        split at h
        · rename_i h3
          split at h
          · rename_i h4; cases h; rw [sKy.ok h1, sKy.ok h2, sKy.ok h3, sKy.ok h4]; simp
          · cases h
        · cases h
      · cases h
    · cases h
  re := by intro a r; simp [sKy.re]
abbrev cWd : Cd Wd := sWd.agg
abbrev cKy : Cd Ky := sKy.agg
abbrev cDm : Cd Dm := sDm.agg
abbrev cSp : Cd Sp := sSp.agg
abbrev cPx : Cd Px := sPx.agg
abbrev cRc : Cd Rc := sRc.agg
def kyEq (a b : Ky) : Bool := (a.kind == b.kind) && ((a.len == b.len) && ((a.hi == b.hi) && ((a.lo == b.lo) && ((a.path.toList == b.path.toList) && true))))
def k0 : Ky := ⟨0, 0, 0, 0, ⟨#[]⟩⟩
def rc0 : Rc := ⟨k0, k0, k0, k0, 0, 0⟩
abbrev cRcs : Cd (List Rc) := sRc.list 22 rc0
def px0 : Px := ⟨0, 0, k0, k0⟩
def w64 (n : Int) : Int := IntKind.u64.wrap n
def i64 (n : Int) : Int := IntKind.i64.wrap n

/-! ## Wide numbers -/
def wide_Of (n : Int) : Wd := ⟨0, n⟩
def wide_And (a b : Wd) : Wd := ⟨w64 (BitVec.ofInt 64 a.hi &&& BitVec.ofInt 64 b.hi).toNat, w64 (BitVec.ofInt 64 a.lo &&& BitVec.ofInt 64 b.lo).toNat⟩
def shl64 (a n : Int) : Int := w64 (a * 2 ^ (min n.toNat 64))
def shr64 (a n : Int) : Int := a.fdiv (2 ^ (min n.toNat 64))
def wide_LeftC {α : Type} (k : Wd → α) (z : α) (a : Wd) (n : Int) : α :=
  bif decide (n < 1) then k a
  else bif decide (n ≥ 128) then k ⟨0, 0⟩
  else bif decide (n ≥ 64) then (bif decide (0 ≤ i64 (n - 64)) then k ⟨shl64 a.lo (i64 (n - 64)), 0⟩ else z)
  else bif decide (0 ≤ n) then (bif decide (0 ≤ i64 (64 - n)) then (bif decide (0 ≤ n) then
    k ⟨w64 (BitVec.ofInt 64 (shl64 a.hi n) ||| BitVec.ofInt 64 (shr64 a.lo (i64 (64 - n)))).toNat, shl64 a.lo n⟩ else z) else z) else z
def wide_Left (a : Wd) (n : Int) : Wd := wide_LeftC id a a n
theorem i64_in {n : Int} (h : -9223372036854775808 ≤ n) (h2 : n ≤ 9223372036854775807) : i64 n = n := by
  unfold i64 IntKind.wrap
  simp only [IntKind.bits, IntKind.signed]
  simp
  omega
theorem wide_LeftC_eq {α : Type} (k : Wd → α) (z : α) (a : Wd) (n : Int) : wide_LeftC k z a n = k (wide_Left a n) := by
  unfold wide_Left wide_LeftC
  simp only [Bool.cond_eq_ite, decide_eq_true_eq, id]
  split
  · rfl
  split
  · rfl
  split
  · rw [i64_in (by omega) (by omega)]
    rw [if_pos (by omega), if_pos (by omega)]
  · rw [i64_in (by omega) (by omega)]
    repeat rw [if_pos (by omega)]

def wide_MaskC {α : Type} (k : Wd → α) (n : Int) : α :=
  bif decide (n ≤ 0) then k ⟨0, 0⟩
  else k (wide_Left ⟨18446744073709551615, 18446744073709551615⟩ (i64 (128 - (if 128 < n then 128 else n))))
def wide_Mask (n : Int) : Wd := wide_MaskC id n
theorem wide_MaskC_eq {α : Type} (k : Wd → α) (n : Int) : wide_MaskC k n = k (wide_Mask n) := by
  unfold wide_Mask wide_MaskC; cases decide (n ≤ 0) <;> rfl
def wide_Top (a : Wd) (n : Int) : Wd := wide_And a (wide_Mask n)
end Go.Cb
namespace Go.Proofs.YtbjpkbolmpcmfaaDoor
open Go.Ev Go.Cb

abbrev e_wide_Of : Fe := fn1 cU fun n => cWd.enc (wide_Of n)
theorem ok_wide_Of : En 51 e_wide_Of :=
  entry1 (callable Tryd.func51 (by kernel_rfl)) fun a => sp .nil Tryd.func51 3 (by kernel_rfl)
abbrev e_wide_And : Fe := fn2 cWd cWd fun a b => cWd.enc (wide_And a b)
theorem ok_wide_And : En 60 e_wide_And :=
  entry2 (callable Tryd.func60 (by kernel_rfl)) fun a b => sp .nil Tryd.func60 3 (by kernel_rfl)
abbrev e_wide_Left : Fe := fn2 cWd cI fun a n => cWd.enc (wide_Left a n)
theorem ok_wide_Left : En 50 e_wide_Left :=
  entry2 (callable Tryd.func50 (by kernel_rfl)) fun a n => sp .nil Tryd.func50 3 (by
    rw [show evalF (envOf []) tb 3 Tryd.f50 [cWd.enc a, cI.enc n] = wide_LeftC (fun w => some (cWd.enc w)) none a n by kernel_rfl, wide_LeftC_eq])
abbrev l_wide_Mask : Ens := [(50, e_wide_Left)]
abbrev e_wide_Mask : Fe := fn1 cI fun n => cWd.enc (wide_Mask n)
theorem ok_wide_Mask : En 61 e_wide_Mask :=
  entry1 (callable Tryd.func61 (by kernel_rfl)) fun n => sp (.cons ok_wide_Left .nil) Tryd.func61 3 (by
    rw [show evalF (envOf l_wide_Mask) tb 3 Tryd.f61 [cI.enc n] = wide_MaskC (fun w => some (cWd.enc w)) n by kernel_rfl, wide_MaskC_eq])
abbrev e_wide_Top : Fe := fn2 cWd cI fun a n => cWd.enc (wide_Top a n)
theorem ok_wide_Top : En 56 e_wide_Top :=
  entry2 (callable Tryd.func56 (by kernel_rfl)) fun a n => sp (.cons ok_wide_And (.cons ok_wide_Mask .nil)) Tryd.func56 3 (by kernel_rfl)
end Go.Proofs.YtbjpkbolmpcmfaaDoor
