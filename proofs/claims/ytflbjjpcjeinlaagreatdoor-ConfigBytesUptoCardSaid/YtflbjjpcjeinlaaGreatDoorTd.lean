/- The reference's bytes of a configuration. -/
import Derived.Test.YtflbjjpcjeinlaaGreatDoorTc
namespace Go.Cb
open Go.Ev Go.Proofs.YtflbjjpcjeinlaaGreatDoor
theorem w8_mod (n : Int) : w8 n = n % 256 := by
  unfold w8 IntKind.wrap
  simp [IntKind.signed, IntKind.bits]
theorem two256 : ∀ k : Nat, (2 : Int) ^ (8 * k) = 256 ^ k
  | 0 => rfl
  | k + 1 => by rw [show 8 * (k + 1) = 8 * k + 8 by omega, Int.pow_add, two256 k, Int.pow_succ]; rfl
theorem fdiv_pos (n : Int) (k : Nat) : Int.fdiv n (256 ^ k) = n / 256 ^ k := by
  rw [Int.fdiv_eq_ediv_of_nonneg _ (Int.le_of_lt (Int.pow_pos (by decide)))]
theorem be_snoc (n : Int) : ∀ k, numB n (k + 1) = numB (n / 256) k ++ [w8 n]
  | 0 => by simp [numB, Int.fdiv_one]
  | k + 1 => by
    have ih := be_snoc n k
    show w8 (Int.fdiv n (2 ^ (8 * (k + 1)))) :: numB n (k + 1) = w8 (Int.fdiv (n / 256) (2 ^ (8 * k))) :: numB (n / 256) k ++ [w8 n]
    have e : n / 256 / 256 ^ k = n / 256 ^ (k + 1) := by
      rw [Int.ediv_ediv, if_neg (by omega), Int.pow_succ, Int.mul_comm 256]
      omega
    rw [ih, two256, two256, fdiv_pos, fdiv_pos, e]
    rfl
theorem w64_mod (n : Int) : w64 n = n % 18446744073709551616 := by
  unfold w64 IntKind.wrap
  simp [IntKind.signed, IntKind.bits]
theorem w8_tmod {n : Int} (h : 0 ≤ n) : w8 (n.tmod 256) = w8 n := by
  rw [w8_mod, w8_mod, Int.tmod_eq_emod_of_nonneg h]; omega
theorem w64_tdiv {n : Int} (h : 0 ≤ n) (h2 : n < 18446744073709551616) : w64 (n.tdiv 256) = n / 256 := by
  rw [w64_mod, Int.tdiv_eq_ediv_of_nonneg h]; omega
theorem num2_eq {n k : Int} (h : 0 ≤ n) (h2 : n < 18446744073709551616) (hk : k = 1 ∨ k = 2 ∨ k = 4) : num2 n k = numB n k.toNat := by
  unfold num2
  simp only
  rw [w64_tdiv h h2, w64_tdiv (n := n / 256) (by omega) (by omega), w64_tdiv (n := n / 256 / 256) (by omega) (by omega), w8_tmod h, w8_tmod (n := n / 256) (by omega), w8_tmod (n := n / 256 / 256) (by omega), w8_tmod (n := n / 256 / 256 / 256) (by omega)]
  rcases hk with rfl | rfl | rfl
  · show [w8 n] = numB n 1
    rw [be_snoc]; rfl
  · show [w8 (n / 256), w8 n] = numB n 2
    rw [be_snoc, be_snoc]; rfl
  · show [w8 (n / 256 / 256 / 256), w8 (n / 256 / 256), w8 (n / 256), w8 n] = numB n 4
    rw [be_snoc, be_snoc, be_snoc, be_snoc]; rfl
theorem num2_w (n : Int) {k : Int} (hk : k = 1 ∨ k = 2 ∨ k = 4) : num2 (w64 n) k = numB (w64 n) k.toNat := by
  have := w64_mod n
  exact num2_eq (by omega) (by omega) hk
theorem num2_1 (n : Int) : num2 (w64 n) 1 = numB (w64 n) 1 := num2_w n (by omega)
theorem num2_2 (n : Int) : num2 (w64 n) 2 = numB (w64 n) 2 := num2_w n (by omega)
theorem num2_4 (n : Int) : num2 (w64 n) 4 = numB (w64 n) 4 := num2_w n (by omega)
/-- Three bytes, as they are laid. -/
def lit3 (a b c : Int) (i : Nat) : List D := [sU8.enc a, sU8.enc b, sU8.enc c].getD i (sU8.enc 0)
def app3 (m : Nat) (G : Nat → List D) (d : Dm) (j : Nat) : List D := match Nat.blt j m with | true => G j | false => lit3 (w8 d.kind) (w8 d.side) (w8 d.step) (j - m)
theorem lit3_eq (a b c : Int) : lit3 a b c = getE sU8 0 [a, b, c] := by
  funext i
  unfold lit3 getE
  match i with
  | 0 => rfl
  | 1 => rfl
  | 2 => rfl
  | i + 3 => simp
theorem w8_w64 (n : Int) : w8 (w64 n) = w8 n := by rw [w8_mod, w8_mod, w64_mod]; omega
theorem dmB_eq (d : Dm) : dmB d = [w8 d.kind, w8 d.side, w8 d.step] := by
  have e : ∀ n : Int, numB (w64 n) 1 = [w8 n] := fun n => by rw [be_snoc, w8_w64]; rfl
  unfold dmB
  rw [e, e, e]
  rfl
theorem app3_eq {l : List Int} {d : Dm} : app3 l.length (getE sU8 0 l) d = getE sU8 0 (l ++ dmB d) := by
  rw [dmB_eq, ← appD_eq]
  funext j
  unfold app3 appD
  rw [lit3_eq]
  rfl
def hdG (c : Cf) : Nat → List D :=
  appD sU8 0 14 (appD sU8 0 10 (appD sU8 0 6 (appD sU8 0 5 (appD sU8 0 3 (appD sU8 0 1 (getE sU8 0 (num2 (w64 c.sh.kind) 1)) (num2 (w64 c.sh.k) 2)) (num2 (w64 c.sh.cap) 2)) (num2 (w64 c.by') 1)) (num2 (w64 c.a) 4)) (num2 (w64 c.b) 4)) (num2 (w64 c.sh.s.n) 1)
def hdB2 (c : Cf) : List Int := numB (w64 c.sh.kind) 1 ++ (numB (w64 c.sh.k) 2 ++ (numB (w64 c.sh.cap) 2 ++ (numB (w64 c.by') 1 ++ (numB (w64 c.a) 4 ++ (numB (w64 c.b) 4 ++ numB (w64 c.sh.s.n) 1)))))
theorem hdB2_len (c : Cf) : (hdB2 c).length = 15 := by simp [hdB2, numB_len]
theorem appN {l r : List Int} {m : Nat} (h : l.length = m) : appD sU8 0 m (getE sU8 0 l) r = getE sU8 0 (l ++ r) := by subst h; exact appD_eq
theorem hdG_eq (c : Cf) : hdG c = getE sU8 0 (hdB2 c) := by
  unfold hdG
  rw [num2_1, num2_1, num2_1, num2_2, num2_2, num2_4, num2_4]
  rw [appN (by simp [numB_len]), appN (by simp [numB_len]), appN (by simp [numB_len]), appN (by simp [numB_len]), appN (by simp [numB_len]), appN (by simp [numB_len])]
  unfold hdB2
  simp only [List.append_assoc]
end Go.Cb
namespace Go.Proofs.YtflbjjpcjeinlaaGreatDoor
open Go.Ev Go.Cb
abbrev l_r32B : Ens := [(15, e_r32_Right), (51, e_r2_Num)]
theorem ev_r32B (c : Cf) : evalF (envOf l_r32B) tb 9 Tryz.f17 [cCf.enc c] =
    let one := i64 (0 + 1)
    bif !cfgRight c then some (.sl 1 0 (fun _ => [.v (.int .u8 0)]) .none) else
      bif decide (0 < c.sh.s.n) then (bif decide (one < c.sh.s.n) then (bif decide (i64 (one + 1) < c.sh.s.n) then none else some (.sl 1 21 (app3 18 (app3 15 (hdG c) c.sh.s.d0) c.sh.s.d1) .none))
        else some (.sl 1 18 (app3 15 (hdG c) c.sh.s.d0) .none)) else some (.sl 1 15 (hdG c) .none) := by kernel_rfl
abbrev e_r32_Bytes : Fe := fn1 cCf fun c => cBs.enc (cfgB c)
theorem ok_r32_Bytes : En 17 e_r32_Bytes :=
  entry1 (callable Tryz.func17 (by kernel_rfl)) fun c => sp (.cons ok_r32_Right (.cons ok_r2_Num .nil)) Tryz.func17 9
    ((ev_r32B c).trans (by
      simp only
      unfold cfgB
      cases hc : cfgRight c with
      | false => rfl
      | true =>
        have h := cfg_in hc
        rw [Bool.not_true, cond_false, cond_true, show i64 (0 + 1) = 1 by decide, show i64 (1 + 1) = 2 by decide, hdG_eq]
        have e0 : app3 15 (getE sU8 0 (hdB2 c)) c.sh.s.d0 = getE sU8 0 (hdB2 c ++ dmB c.sh.s.d0) := by rw [← app3_eq, hdB2_len]
        have l0 : (hdB2 c ++ dmB c.sh.s.d0).length = 18 := by rw [List.length_append, hdB2_len, dmB_len]
        have e1 : app3 18 (getE sU8 0 (hdB2 c ++ dmB c.sh.s.d0)) c.sh.s.d1 = getE sU8 0 (hdB2 c ++ dmB c.sh.s.d0 ++ dmB c.sh.s.d1) := by have h := app3_eq (l := hdB2 c ++ dmB c.sh.s.d0) (d := c.sh.s.d1); rwa [l0] at h
        have l1 : (hdB2 c ++ dmB c.sh.s.d0 ++ dmB c.sh.s.d1).length = 21 := by rw [List.length_append, l0, dmB_len]
        rw [e0, e1]
        rcases h.d1 with ⟨n1, _⟩ | ⟨n2, _⟩
        · have e : cfgB0 c = hdB2 c ++ dmB c.sh.s.d0 := by
            unfold cfgB0 hdB2
            rw [n1, show ((1 : Int) == 1) = true by decide, cond_true]
            simp only [List.append_assoc, List.append_nil]
          rw [n1, decide_eq_true (show (0 : Int) < 1 by omega), cond_true, decide_eq_false (show ¬ (1 : Int) < 1 by omega), cond_false, e]
          show _ = some (D.sl 1 _ _ _)
          rw [l0]
        · have e : cfgB0 c = hdB2 c ++ dmB c.sh.s.d0 ++ dmB c.sh.s.d1 := by
            unfold cfgB0 hdB2
            rw [n2, show ((2 : Int) == 1) = false by decide, cond_false]
            simp only [List.append_assoc]
          rw [n2, decide_eq_true (show (0 : Int) < 2 by omega), cond_true, decide_eq_true (show (1 : Int) < 2 by omega), cond_true, decide_eq_false (show ¬ (2 : Int) < 2 by omega), cond_false, e]
          show _ = some (D.sl 1 _ _ _)
          rw [l1]))
end Go.Proofs.YtflbjjpcjeinlaaGreatDoor
