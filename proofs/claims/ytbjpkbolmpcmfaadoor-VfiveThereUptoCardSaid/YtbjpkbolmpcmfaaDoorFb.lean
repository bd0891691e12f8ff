/- Labels and paths: what each function of the program gives. -/
import Derived.Test.YtbjpkbolmpcmfaaDoorFa
namespace Go.Cb
open Go.Ev
def isByteC {α : Type} (k : Bool → α) (c : Int) : α :=
  bif decide (c ≥ 97) then (bif decide (c ≤ 122) then k true else (bif decide (c ≥ 48) then (bif decide (c ≤ 57) then k true else k (c == 95)) else k (c == 95)))
  else (bif decide (c ≥ 48) then (bif decide (c ≤ 57) then k true else k (c == 95)) else k (c == 95))
def isByte (c : Int) : Bool := isByteC id c
theorem isByteC_eq {α : Type} (k : Bool → α) (c : Int) : isByteC k c = k (isByte c) := by
  unfold isByte isByteC
  simp only [Bool.cond_eq_ite, decide_eq_true_eq, id]
  repeat (first | rfl | split)
def byteAt (s : ByteArray) (i : Nat) : Int := (s.data.toList.getD i 0).toNat
/-- All bytes from a place on are of labels. -/
def allB (s : ByteArray) : Nat → Nat → Bool
  | 0, _ => true
  | n + 1, i => isByte (byteAt s i) && allB s n (i + 1)
def okLen (s : ByteArray) : Bool := decide (1 ≤ s.size) && decide (s.size ≤ 16)
def isLabel (s : ByteArray) : Bool := allB s s.size 0 && okLen s
theorem i64_nat {i : Nat} (h : i < 9223372036854775808) : i64 (i : Int) = i := i64_in (by omega) (by omega)
theorem i64_succ {i : Nat} (h : i + 1 < 9223372036854775808) : i64 ((i : Int) + 1) = ((i + 1 : Nat) : Int) := i64_nat (i := i + 1) h
theorem bnd_nat {i n : Nat} : bnd (i : Int) n = decide (i < n) := by simp [bnd]
end Go.Cb
namespace Go.Proofs.YtbjpkbolmpcmfaaDoor
open Go.Ev Go.Cb
abbrev e_isByte : Fe := fn1 (cNum .u8) fun n => B (isByte n)
theorem ok_isByte : En 69 e_isByte :=
  entry1 (callable Tryd.func69 (by kernel_rfl)) fun n => sp .nil Tryd.func69 3 (by
    rw [show evalF (envOf []) tb 3 Tryd.f69 [(cNum .u8).enc n] = isByteC (fun b => some (B b)) n by kernel_rfl, isByteC_eq])
abbrev l_IsLabel : Ens := [(69, e_isByte)]
theorem lp_IsLabel_step (F : Nat) (s : ByteArray) (n i : Nat) : lp (envOf l_IsLabel) tb F Tryd.f66 [T s] 0 (n + 1) [(8, I i)] =
    bif decide ((i : Int) < s.size) then (bif bnd i s.size then (bif !isByte (byteAt s ((i : Int).toNat)) then some (B false) else lp (envOf l_IsLabel) tb F Tryd.f66 [T s] 0 n [(8, I (i64 (i + 1)))]) else none)
    else (bif decide ((1 : Int) ≤ s.size) then some (B (decide ((s.size : Int) ≤ 16))) else some (B false)) := by kernel_rfl
theorem lp_IsLabel (F : Nat) (s : ByteArray) (hs : s.size ≤ 4294967280) : ∀ n i, i ≤ s.size → s.size - i < n → lp (envOf l_IsLabel) tb F Tryd.f66 [T s] 0 n [(8, I i)] = some (B (allB s (s.size - i) i && okLen s))
  | 0, i, _, h => by omega
  | n + 1, i, h1, h2 => by
    rw [lp_IsLabel_step, bnd_nat, Int.toNat_natCast]
    by_cases hi : i < s.size
    · rw [show s.size - i = (s.size - (i + 1)) + 1 by omega]
      have ih := lp_IsLabel F s hs n (i + 1) (by omega) (by omega)
      rw [i64_succ (by omega), ih]
      simp [hi, allB]
      cases isByte (byteAt s i) <;> simp
    · have : s.size - i = 0 := by omega
      simp only [this, allB, okLen]
      rw [show decide ((i : Int) < (s.size : Int)) = false by simp; omega]
      by_cases h1 : 1 ≤ s.size
      · rw [show decide ((1 : Int) ≤ (s.size : Int)) = true by simp; omega]
        simp [h1]
        constructor <;> omega
      · rw [show decide ((1 : Int) ≤ (s.size : Int)) = false by simp; omega]
        simp [h1]
abbrev e_IsLabel : Fe := fn1 cT fun s => B (isLabel s)
theorem ok_IsLabel : En 66 e_IsLabel :=
  entry1 (callable Tryd.func66 (by kernel_rfl)) fun s => .str 0 rfl fun hs => sp (.cons ok_isByte .nil) Tryd.func66 (s.size + 1) (by
    rw [show evalF (envOf l_IsLabel) tb (s.size + 1) Tryd.f66 [cT.enc s] = lp (envOf l_IsLabel) tb (s.size + 1) Tryd.f66 [T s] 0 (s.size + 1) [(8, I (0 : Nat))] by kernel_rfl, lp_IsLabel _ s hs _ 0 (by omega) (by omega)]
    rfl)
end Go.Proofs.YtbjpkbolmpcmfaaDoor
