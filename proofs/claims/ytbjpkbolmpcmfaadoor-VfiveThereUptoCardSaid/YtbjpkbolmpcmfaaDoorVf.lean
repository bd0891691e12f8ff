/- Read's loop run to its end: what Read gives for any bytes. -/
import Derived.Test.YtbjpkbolmpcmfaaDoorVe
namespace Go.Cb
open Go.Ev Go.Proofs.YtbjpkbolmpcmfaaDoor
/-- The reader behind so many flows. -/
def xs (x : Rr) : Nat → Rr
  | 0 => x
  | i + 1 => advs flowL (xs x i)
theorem rgood_xs {x : Rr} (h : rgood x = true) : ∀ i, rgood (xs x i) = true
  | 0 => h
  | i + 1 => rgood_advs flowL (rgood_xs h i)
def flowsR (x : Rr) (k : Nat) : List Fw := (List.range k).map fun i => rFlow (xs x i)
theorem flowsR_len (x : Rr) (k : Nat) : (flowsR x k).length = k := by simp [flowsR]
theorem flowsR_succ (x : Rr) (k : Nat) : flowsR x (k + 1) = flowsR x k ++ [rFlow (xs x k)] := by simp [flowsR, List.range_succ]
/-- The reader behind the version and the count; behind the head. -/
abbrev x2 (x : Rr) : Rr := rAdv (rAdv x 2) 2
abbrev x3 (x : Rr) : Rr := advs headL (x2 x)
def kNum (x : Rr) : Nat := (kRd x).toNat
/-- The fault. -/
def readE (x : Rr) : Int := bif decide ((x.n : Int) < 24) then 8 else bif w16 (rNum x 2) != 5 then 16 else bif decide (kRd x < 1) || decide (kRd x > 30) then 3 else endE (xs (x3 x) (kNum x))
def readH (x : Rr) : Hd := bif readE x != 0 then hd0 else rHead (x2 x)
def readL (x : Rr) : List Fw := bif readE x != 0 then [] else flowsR (x3 x) (kNum x)
/-- A reader of bytes. -/
abbrev rdr (b : List Int) : Rr := ⟨b.length, fun i => sU8.enc (b.getD i 0), 0⟩
theorem rgood_rdr {b : List Int} (h : b.length ≤ 4294967296) : rgood (rdr b) = true := by
  unfold rgood
  simp only [Bool.and_eq_true, decide_eq_true_eq]
  exact ⟨h, allS_enc sU8 0 b⟩
end Go.Cb
namespace Go.Proofs.YtbjpkbolmpcmfaaDoor
open Go.Ev Go.Cb
noncomputable abbrev lpRead (F n : Nat) (s : S) : Option D := lpE (envX l_Read X_Read) tb F Tryd.f8 0 (endK tb Tryd.f8) n 14680064 idsRd s
def outRd (h : Hd) (x : Rr) (k : Nat) : D := bif endE (xs x k) != 0 then noneD (endE (xs x k)) else .tup [cHd.enc h, cFws.enc (flowsR x k), I 0]
theorem lp_Read (F : Nat) (h : Hd) (x : Rr) (hx : rgood x = true) (k : Nat) (hk : k ≤ 30) : ∀ (r j n : Nat), k = j + r → r < n → lpRead F n (stRd (flowsR x j).length (getE sFw fw0 (flowsR x j)) k j h (xs x j)) = some (outRd h x k)
  | 0, j, n + 1, e, _ => by
    have e : k = j := by omega
    subst e
    unfold lpRead
    rw [lpE_succ, rnd_Read, show decide ((k : Int) < (k : Int)) = false by simp]
    unfold outRd
    simp only [cond_false]
    cases endE (xs x k) != 0 <;> rfl
  | r + 1, j, n + 1, e, h2 => by
    have ih := lp_Read F h x hx k hk r (j + 1) n (by omega) (by omega)
    unfold lpRead
    rw [lpE_succ, rnd_Read, show decide ((j : Int) < (k : Int)) = true by simp; omega, rgood_xs hx, show decide (((flowsR x j).length + 1) * 48 ≤ 140737488355328 ∧ (flowsR x j).length + 1 ≤ 9223372036854775807) = true by rw [flowsR_len]; simp; omega, i64_succ (by omega),
      pushD_eq, len_push (l := flowsR x j) (a := rFlow (xs x j)), ← flowsR_succ]
    exact ih
abbrev readD (b : List Int) : D := .tup [cHd.enc (readH (rdr b)), cFws.enc (readL (rdr b)), I (readE (rdr b))]
abbrev e_Read : Fe := fn1C cBs (fun b => decide (b.length ≤ 4294967296)) readD
theorem ok_Read : En 8 e_Read :=
  entry1C (callable Tryd.func8 (by kernel_rfl)) fun b hb => by
    have hb : b.length ≤ 4294967296 := by simpa using hb
    have oks : Xs X_Read := .cons ok_From (.cons ok_two (.cons ok_head (.cons ok_flow (.cons ok_End .nil))))
    have run := fun d (h : evalF (envX l_Read X_Read) tb 31 Tryd.f8 [cBs.enc b] = some d) => spX (.cons ok_none .nil) oks Tryd.func8 31 h
    have g0 := rgood_rdr hb
    have e := st_Read 31 b.length (fun i => sU8.enc (b.getD i 0)) (fun k0 ids s => lpE (envX l_Read X_Read) tb 31 Tryd.f8 0 (endK tb Tryd.f8) 31 k0 ids s)
    have e := (evalF_cut (env := envX l_Read X_Read) (tb := tb) (F := 31) (fn := Tryd.f8) (args := [cBs.enc b]) 0 rfl).trans e
    rw [rgood_ck g0, rgood_ck (rgood_adv g0 2), rgood_adv (rgood_adv g0 2) 2, show decide (b.length ≤ 4294967296) = true by simpa using hb] at e
    simp only [cond_true] at e
    have fault : ∀ E, E ≠ 0 → readE (rdr b) = E → evalF (envX l_Read X_Read) tb 31 Tryd.f8 [cBs.enc b] = some (noneD E) → Go.Ev.Spec Tryd.prog gl 8 [cBs.enc b] (readD b) := fun E h0 hE h => by
      unfold readD readH readL
      rw [hE, show (E != 0) = true by simpa using h0]
      exact run _ h
    cases h1 : decide ((b.length : Int) < 24) with
    | true =>
      rw [h1] at e
      exact fault 8 (by decide) (by unfold readE; rw [h1]; rfl) e
    | false =>
    cases h2 : w16 (rNum (rdr b) 2) != 5 with
    | true =>
      rw [h1, h2] at e
      exact fault 16 (by decide) (by unfold readE; rw [h1, h2]; rfl) e
    | false =>
    cases h3 : decide (kRd (rdr b) < 1) with
    | true =>
      rw [h1, h2, h3] at e
      exact fault 3 (by decide) (by unfold readE; rw [h1, h2, h3]; rfl) e
    | false =>
    cases h4 : decide (kRd (rdr b) > 30) with
    | true =>
      rw [h1, h2, h3, h4] at e
      exact fault 3 (by decide) (by unfold readE; rw [h1, h2, h3, h4]; rfl) e
    | false =>
      have k1 : ¬ kRd (rdr b) < 1 := by simpa using h3
      have k2 : ¬ kRd (rdr b) > 30 := by simpa using h4
      have hk : kRd (rdr b) = (kNum (rdr b) : Int) := by unfold kNum; omega
      have hl := lp_Read 31 (rHead (x2 (rdr b))) (x3 (rdr b)) (rgood_advs headL (rgood_adv (rgood_adv g0 2) 2)) (kNum (rdr b)) (by omega) (kNum (rdr b)) 0 31 (by omega) (by omega)
      rw [h1, h2, h3, h4, hk] at e
      have := run _ (e.trans hl)
      have hE : readE (rdr b) = endE (xs (x3 (rdr b)) (kNum (rdr b))) := by unfold readE; rw [h1, h2, h3, h4]; rfl
      cases h5 : endE (xs (x3 (rdr b)) (kNum (rdr b))) != 0 with
      | true =>
        unfold outRd at this
        rw [h5] at this
        exact fault _ (by simpa using h5) hE ((e.trans hl).trans (by unfold outRd; rw [h5]; rfl))
      | false =>
        unfold outRd at this
        rw [h5] at this
        have hE0 : readE (rdr b) = 0 := by rw [hE]; simpa using h5
        unfold readD readH readL
        rw [hE0]
        exact this
end Go.Proofs.YtbjpkbolmpcmfaaDoor
