/- Numbers read: what each function of the program gives, and leaves in its reader. -/
import Derived.Test.YtbjpkbolmpcmfaaDoorVa
namespace Go.Cb
open Go.Ev Go.Proofs.YtbjpkbolmpcmfaaDoor
def stepN (n b : Int) : Int := w64 (BitVec.ofInt 64 (w64 (n * 2 ^ (min (8 : Int).toNat 64))) ||| BitVec.ofInt 64 (w64 b)).toNat
def numT {α : Type} (g : Nat → List D) (L : Nat) (K : Int → Option α) : (fuel i : Nat) → Int → Option α
  | 0, _, _ => none
  | f + 1, i, n => bif decide ((i : Int) < L) then (bif bnd i L then numT g L K f (i + 1) (stepN n (decS sU8 0 (g i))) else none) else K n
/-- The number of the first bytes. -/
def numG (g : Nat → List D) : (k i : Nat) → Int → Int
  | 0, _, n => n
  | k + 1, i, n => numG g k (i + 1) (stepN n (decS sU8 0 (g i)))
theorem numT_eq {α : Type} (g : Nat → List D) (L : Nat) (K : Int → Option α) : ∀ (f i : Nat) (n : Int), i ≤ L → L - i < f → numT g L K f i n = K (numG g (L - i) i n)
  | 0, i, n, _, h => by omega
  | f + 1, i, n, hi, h => by
    unfold numT
    by_cases hl : i < L
    · rw [show decide ((i : Int) < L) = true by simp; omega, bnd_nat, show decide (i < L) = true by simpa using hl]
      simp only [cond_true]
      rw [numT_eq g L K f (i + 1) _ (by omega) (by omega), show L - i = (L - (i + 1)) + 1 by omega]
      rfl
    · rw [show decide ((i : Int) < L) = false by simp; omega, show L - i = 0 by omega]
      rfl
def rLen (x : Rr) (c : Int) : Nat := bif rBad x c then 0 else c.toNat
def rNum (x : Rr) (c : Int) : Int := numG x.g (rLen x c) 0 0
end Go.Cb
namespace Go.Proofs.YtbjpkbolmpcmfaaDoor
open Go.Ev Go.Cb
abbrev X_Num : Xns := [(45, x_Raw)]
abbrev l_rNum : Ens := [(54, e_size)]
theorem ev_Num1 (x : Rr) : evalX (envX l_rNum X_Num) tb 2 Tryd.f42 [rdD x, I 1] = bif true && (true && rck x 1) then numT x.g (rLen x 1) (fun n => some (U n, [rdD (rAdv x 1), I 1])) 2 0 0 else none := by kernel_rfl
theorem ev_Num2 (x : Rr) : evalX (envX l_rNum X_Num) tb 3 Tryd.f42 [rdD x, I 2] = bif true && (true && rck x 2) then numT x.g (rLen x 2) (fun n => some (U n, [rdD (rAdv x 2), I 2])) 3 0 0 else none := by kernel_rfl
theorem ev_Num4 (x : Rr) : evalX (envX l_rNum X_Num) tb 5 Tryd.f42 [rdD x, I 4] = bif true && (true && rck x 4) then numT x.g (rLen x 4) (fun n => some (U n, [rdD (rAdv x 4), I 4])) 5 0 0 else none := by kernel_rfl
theorem rLen_le {x : Rr} {c : Int} : rLen x c ≤ c.toNat := by unfold rLen; cases rBad x c <;> simp
abbrev x_Num : FeX := fx2 cRd (xNum .i64) (fun x c => ((c == 1) || ((c == 2) || (c == 4))) && rck x c) fun x c => (U (rNum x c), [rdD (rAdv x c), I c])
theorem ok_Num : Enx 42 x_Num :=
  entryX2 (callable Tryd.func42 (by kernel_rfl)) fun x c h => by
    simp only [Bool.and_eq_true, Bool.or_eq_true, beq_iff_eq] at h
    obtain ⟨hc, hck⟩ := h
    have go : ∀ (F : Nat) (c : Int), c.toNat < F → rck x c = true → evalX (envX l_rNum X_Num) tb F Tryd.f42 [rdD x, I c] = (bif true && (true && rck x c) then numT x.g (rLen x c) (fun n => some (U n, [rdD (rAdv x c), I c])) F 0 0 else none) →
        Go.Ev.SpecX Tryd.prog gl tb 42 [rdD x, I c] (U (rNum x c)) [rdD (rAdv x c), I c] := fun F c hF hck h =>
      sxX (.cons ok_size .nil) (.cons ok_Raw .nil) Tryd.func42 F (h.trans (by
        rw [hck, numT_eq _ _ _ _ _ _ (Nat.zero_le _) (by have := @rLen_le x c; omega)]
        rfl))
    rcases hc with rfl | rfl | rfl
    · exact go 2 1 (by decide) hck (ev_Num1 x)
    · exact go 3 2 (by decide) hck (ev_Num2 x)
    · exact go 5 4 (by decide) hck (ev_Num4 x)
/-! Sources. -/
abbrev srD (x : Rr) : D := .agg [rdD x]
def cSr : Cx Rr where
  enc := srD
  dec x := match x with
    | .agg [y] => cRd.dec y
    | _ => none
  ok := by
    intro x a h tb K w av r L hr
    split at h
    · rename_i y
      exact hr.agg_congr rfl fun i d d' hd hd' {_ _} hx => by
        match i with
        | 0 => simp at hd hd'; subst hd hd'; exact cRd.ok h hx
        | i + 1 => simp at hd
    · cases h
abbrev NumX (k : IntKind) (n : Int) : D := .v (.int k (k.wrap n))
abbrev X_src : Xns := [(42, x_Num)]
abbrev x_one : FeX := fx1 cSr (fun x => rck x 1) fun x => (NumX .u8 (rNum x 1), [srD (rAdv x 1)])
abbrev x_two : FeX := fx1 cSr (fun x => rck x 2) fun x => (NumX .u16 (rNum x 2), [srD (rAdv x 2)])
abbrev x_four : FeX := fx1 cSr (fun x => rck x 4) fun x => (NumX .u32 (rNum x 4), [srD (rAdv x 4)])
theorem ok_one : Enx 44 x_one :=
  entryX1 (callable Tryd.func44 (by kernel_rfl)) fun x h => sxX .nil (.cons ok_Num .nil) Tryd.func44 1
    (Eq.trans (b := bif true && (true && (true && rck x 1)) then some (NumX .u8 (rNum x 1), [srD (rAdv x 1)]) else none) (by kernel_rfl) (by rw [h]; rfl))
theorem ok_two : Enx 25 x_two :=
  entryX1 (callable Tryd.func25 (by kernel_rfl)) fun x h => sxX .nil (.cons ok_Num .nil) Tryd.func25 1
    (Eq.trans (b := bif true && (true && (true && rck x 2)) then some (NumX .u16 (rNum x 2), [srD (rAdv x 2)]) else none) (by kernel_rfl) (by rw [h]; rfl))
theorem ok_four : Enx 43 x_four :=
  entryX1 (callable Tryd.func43 (by kernel_rfl)) fun x h => sxX .nil (.cons ok_Num .nil) Tryd.func43 1
    (Eq.trans (b := bif true && (true && (true && rck x 4)) then some (NumX .u32 (rNum x 4), [srD (rAdv x 4)]) else none) (by kernel_rfl) (by rw [h]; rfl))
end Go.Proofs.YtbjpkbolmpcmfaaDoor
