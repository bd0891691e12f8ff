/- Data: numbers of 128 bits, dimensions, spaces, shapes, configurations. -/
import Derived.Test.YtflbjjpcjeinlaaGreatDoorXc
namespace Go.Cb
open Go.Ev
structure Wd where
  hi : Int
  lo : Int
structure Dm where
  kind : Int
  side : Int
  step : Int
structure Sp where
  n : Int
  d0 : Dm
  d1 : Dm
structure Sh where
  kind : Int
  k : Int
  cap : Int
  s : Sp
structure Cf where
  sh : Sh
  by' : Int
  a : Int
  b : Int
def sWd : Cs Wd where
  enc w := [U w.hi, U w.lo]
  dec
    | .v (.int .u64 a) :: .v (.int .u64 b) :: r => some (⟨a, b⟩, r)
    | _ => none
  ok := by intro l a r h; split at h <;> cases h; rfl
  re := by intro a r; rfl
def sDm : Cs Dm where
  enc k := [I k.kind, I k.side, I k.step]
  dec
    | .v (.int .i64 a) :: .v (.int .i64 b) :: .v (.int .i64 c) :: r => some (⟨a, b, c⟩, r)
    | _ => none
  ok := by intro l a r h; split at h <;> cases h; rfl
  re := by intro a r; rfl
def sSp : Cs Sp where
  enc s := I s.n :: (sDm.enc s.d0 ++ sDm.enc s.d1)
  dec
    | .v (.int .i64 n) :: r => match sDm.dec r with
      | some (a, r1) => match sDm.dec r1 with
        | some (b, r2) => some (⟨n, a, b⟩, r2)
        | none => none
      | none => none
    | _ => none
  ok := by
    intro l a r h
    split at h
    · split at h
      · rename_i h1
        split at h
        · rename_i h2; cases h; rw [sDm.ok h1, sDm.ok h2]; simp
        · cases h
      · cases h
    · cases h
  re := by intro a r; simp [sDm.re]
def sSh : Cs Sh where
  enc s := I s.kind :: I s.k :: I s.cap :: sSp.enc s.s
  dec
    | .v (.int .i64 a) :: .v (.int .i64 b) :: .v (.int .i64 c) :: r => match sSp.dec r with
      | some (s, r1) => some (⟨a, b, c, s⟩, r1)
      | none => none
    | _ => none
  ok := by
    intro l a r h
    split at h
    · split at h
      · rename_i h1; cases h; rw [sSp.ok h1]; simp
      · cases h
    · cases h
  re := by intro a r; simp [sSp.re]
def sCf : Cs Cf where
  enc s := sSh.enc s.sh ++ [I s.by', I s.a, I s.b]
  dec l := match sSh.dec l with
    | some (s, .v (.int .i64 a) :: .v (.int .i64 b) :: .v (.int .i64 c) :: r) => some (⟨s, a, b, c⟩, r)
    | _ => none
  ok := by
    intro l a r h
    split at h
    · rename_i h1; cases h; rw [sSh.ok h1]; simp
    · cases h
  re := by intro a r; simp [sSh.re]
abbrev cWd : Cd Wd := sWd.agg
abbrev cDm : Cd Dm := sDm.agg
abbrev cSp : Cd Sp := sSp.agg
abbrev cSh : Cd Sh := sSh.agg
abbrev cCf : Cd Cf := sCf.agg
abbrev noT : ByteArray := ⟨#[]⟩
abbrev cTs : Cd (List ByteArray) := sT.list 1 noT
def dm0 : Dm := ⟨0, 0, 0⟩
def cf0 : Cf := ⟨⟨0, 0, 0, ⟨0, dm0, dm0⟩⟩, 0, 0, 0⟩
def dmEq (a b : Dm) : Bool := (a.kind == b.kind) && ((a.side == b.side) && ((a.step == b.step) && true))
def w64 (n : Int) : Int := IntKind.u64.wrap n
def i64 (n : Int) : Int := IntKind.i64.wrap n
theorem i64_in {n : Int} (h : -9223372036854775808 ≤ n) (h2 : n ≤ 9223372036854775807) : i64 n = n := by
  unfold i64 IntKind.wrap
  simp only [IntKind.bits, IntKind.signed]
  simp
  omega
def byteAt (s : ByteArray) (i : Nat) : Int := (s.data.toList.getD i 0).toNat
theorem i64_nat {i : Nat} (h : i < 9223372036854775808) : i64 (i : Int) = i := i64_in (by omega) (by omega)
theorem i64_succ {i : Nat} (h : i + 1 < 9223372036854775808) : i64 ((i : Int) + 1) = ((i + 1 : Nat) : Int) := i64_nat (i := i + 1) h
theorem bnd_nat {i n : Nat} : bnd (i : Int) n = decide (i < n) := by simp [bnd]
def chk {α : Type} : List Bool → Option α → Option α
  | [], k => k
  | c :: r, k => bif c then chk r k else none
theorem chk_eq {α : Type} {k : Option α} : ∀ {l : List Bool}, (∀ c ∈ l, c = true) → chk l k = k
  | [], _ => rfl
  | c :: r, h => by
    show (bif c then chk r k else none) = k
    rw [h c (by simp), cond_true, chk_eq fun d hd => h d (by simp [hd])]
end Go.Cb
