/- A function's run cut at a loop: what happens up to there, with what the loop does left open. -/
import Derived.Test.YtflbjjpcjeinlaaGreatDoorEvm
namespace Go.Ev
open Go Go.RowKit

/-- Slots of which few are told. -/
def stT : Nat → Nat → List (Nat × D) → List D
  | 0, _, _ => []
  | n + 1, i, [] => .no :: stT n (i + 1) []
  | n + 1, i, (j, d) :: r => match Nat.beq j i with
    | true => d :: stT n (i + 1) r
    | false => .no :: stT n (i + 1) ((j, d) :: r)
section
variable {α : Type} (env : Env) (tb : Tb) (rd : Rd) (F : Nat)
/-- As exE; the j-th loop is left to H, which is told the number, the memory's entries and the state at its head. -/
noncomputable def exH (H : Nat → List Nat → S → Option α) : Code → Nat → S → (Xt → S → Option α) → Option α
  | .seq a b, j, s, k => match Nat.blt j (loops a) with
    | true => exH H a j s fun x s => match x with
      | .normal => exE env tb rd F b s k
      | x => k x s
    | false => exE env tb rd F a s fun x s => match x with
      | .normal => exH H b (j - loops a) s k
      | x => k x s
  | .cond c a b, j, s, k => match c with
    | .tmp i => match s.t.getD i .no with
      | .v (.bool c) => match c with
        | true => match Nat.blt j (loops a) with
          | true => exH H a j { s with t := s.t.set i (.v (.bool true)) } k
          | false => exE env tb rd F a { s with t := s.t.set i (.v (.bool true)) } k
        | false => match Nat.blt j (loops a) with
          | true => exE env tb rd F b { s with t := s.t.set i (.v (.bool false)) } k
          | false => exH H b (j - loops a) { s with t := s.t.set i (.v (.bool false)) } k
      | _ => none
    | .const (.bool c) => match c with
      | true => match Nat.blt j (loops a) with
        | true => exH H a j s k
        | false => exE env tb rd F a s k
      | false => match Nat.blt j (loops a) with
        | true => exE env tb rd F b s k
        | false => exH H b (j - loops a) s k
    | _ => none
  | .block id c, j, s, k => exH H c j s fun x s => match x with
    | .exit i => match Nat.beq i id with
      | true => k .normal s
      | false => k (.exit i) s
    | x => k x s
  | .loop c, j, s, k => match j with
    | 0 => force (up (minId c) s.k) fun b => H b (idsOf [] s.m) (canon b (fgs rd c) (idsOf [] s.m) s)
    | _ => exE env tb rd F (.loop c) s k
  | c, _, s, k => exE env tb rd F c s k

theorem exH_eq : ∀ (c : Code) (j : Nat) (s : S) (k : Xt → S → Option α),
    exE env tb rd F c s k = exH env tb rd F (fun k0 ids s => loopE env tb rd F (lpC c j) (canon k0 (fgs rd (lpC c j)) ids) (lpK env tb rd F c j k) F s) c j s k := by
  intro c
  induction c with
  | skip | label | region | exit | goto | ret | rangeFunc | refuse => intros; rfl
  | scope c ih => intros; rfl
  | seq a b iha ihb =>
    intro j s k
    cases hb : Nat.blt j (loops a) with
    | true =>
      show exE env tb rd F a s _ = _
      rw [iha j s]
      simp only [exH, hb, lpC, lpK]
      rfl
    | false =>
      simp only [exH, exE, hb, lpC, lpK]
      congr 1
      funext x s
      cases x with
      | normal => exact ihb (j - loops a) s k
      | _ => rfl
  | cond c a b iha ihb =>
    intro j s k
    cases hb : Nat.blt j (loops a) with
    | true =>
      simp only [exH, exE, hb, lpC, lpK, iha j]
      rfl
    | false =>
      simp only [exH, exE, hb, lpC, lpK, ihb (j - loops a)]
      rfl
  | block id c ih =>
    intro j s k
    show exE env tb rd F c s _ = _
    rw [ih j s]
    simp only [exH, lpC, lpK]
    rfl
  | loop c ih =>
    intro j s k
    cases j with
    | zero => simp only [exH, exE, force_eq]; rfl
    | succ j => rfl
end

/-- A function's run, cut at its j-th loop. -/
noncomputable def evalH {α : Type} (env : Env) (tb : Tb) (F : Nat) (fn : Func) (j : Nat) (H : Nat → List Nat → S → Option α) (s : S) (k : Xt → S → Option α) : Option α := exH env tb (rdsF fn) F H (bodyF fn) j s k
/-- The j-th loop, from a state at its head. -/
noncomputable def lpE {α : Type} (env : Env) (tb : Tb) (F : Nat) (fn : Func) (j : Nat) (k : Xt → S → Option α) (n k0 : Nat) (ids : List Nat) (s : S) : Option α :=
  loopE env tb (rdsF fn) F (lpC (bodyF fn) j) (canon k0 (fgs (rdsF fn) (lpC (bodyF fn) j)) ids) (lpK env tb (rdsF fn) F (bodyF fn) j k) n s
/-- One round of the j-th loop; what follows it in R. -/
noncomputable def rndE {α : Type} (env : Env) (tb : Tb) (F : Nat) (fn : Func) (j : Nat) (k : Xt → S → Option α) (k0 : Nat) (ids : List Nat) (R : S → Option α) (s : S) : Option α :=
  exE env tb (rdsF fn) F (lpC (bodyF fn) j) s fun x s => match x with
    | .normal => R (canon k0 (fgs (rdsF fn) (lpC (bodyF fn) j)) ids s)
    | x => lpK env tb (rdsF fn) F (bodyF fn) j k x (canon k0 (fgs (rdsF fn) (lpC (bodyF fn) j)) ids s)
theorem lpE_succ {α : Type} {env : Env} {tb : Tb} {F : Nat} {fn : Func} {j : Nat} {k : Xt → S → Option α} {n k0 : Nat} {ids : List Nat} {s : S} :
    lpE env tb F fn j k (n + 1) k0 ids s = rndE env tb F fn j k k0 ids (lpE env tb F fn j k n k0 ids) s := rfl
/-- What follows the j-th loop, cut at the loop that comes next. -/
noncomputable def lpKH {α : Type} (env : Env) (tb : Tb) (rd : Rd) (F : Nat) (H : Nat → List Nat → S → Option α) : Code → Nat → (Xt → S → Option α) → Xt → S → Option α
  | .seq a b, j, k => match Nat.blt j (loops a) with
    | true => match Nat.blt (j + 1) (loops a) with
      | true => lpKH env tb rd F H a j fun x s => match x with
        | .normal => exE env tb rd F b s k
        | x => k x s
      | false => lpK env tb rd F a j fun x s => match x with
        | .normal => exH env tb rd F H b 0 s k
        | x => k x s
    | false => lpKH env tb rd F H b (j - loops a) k
  | .cond _ a b, j, k => match Nat.blt j (loops a) with
    | true => match Nat.blt (j + 1) (loops a) with
      | true => lpKH env tb rd F H a j k
      | false => lpK env tb rd F a j k
    | false => lpKH env tb rd F H b (j - loops a) k
  | .block id c, j, k => lpKH env tb rd F H c j fun x s => match x with
      | .exit i => match Nat.beq i id with
        | true => k .normal s
        | false => k (.exit i) s
      | x => k x s
  | c, j, k => lpK env tb rd F c j k
/-- The loop's code, its head and what follows, from a state at its head. -/
noncomputable def lpG {α : Type} (env : Env) (tb : Tb) (rd : Rd) (F : Nat) (c : Code) (j : Nat) (k : Xt → S → Option α) (n k0 : Nat) (ids : List Nat) (s : S) : Option α :=
  loopE env tb rd F (lpC c j) (canon k0 (fgs rd (lpC c j)) ids) (lpK env tb rd F c j k) n s
theorem lpKH_eq {α : Type} {env : Env} {tb : Tb} {rd : Rd} {F : Nat} : ∀ (c : Code) (j : Nat) (k : Xt → S → Option α), j + 1 < loops c →
    lpK env tb rd F c j k = lpKH env tb rd F (fun k0 ids s => lpG env tb rd F c (j + 1) k F k0 ids s) c j k := by
  intro c
  induction c with
  | seq a b iha ihb =>
    intro j k h
    simp only [loops] at h
    cases h1 : Nat.blt j (loops a) with
    | true =>
      cases h2 : Nat.blt (j + 1) (loops a) with
      | true =>
        simp only [lpK, lpKH, h1, h2]
        rw [iha j _ (by simpa [Nat.blt_eq] using h2)]
        simp only [lpG, lpC, lpK, h2]
        rfl
      | false =>
        simp only [lpK, lpKH, h1, h2]
        congr 1
        funext x s
        cases x with
        | normal =>
          have e : j + 1 - loops a = 0 := by
            have : j < loops a := by simpa [Nat.blt_eq] using h1
            omega
          simp only [lpG, lpC, lpK, h2, e]
          exact exH_eq env tb rd F b 0 s k
        | _ => rfl
    | false =>
      have h2 : Nat.blt (j + 1) (loops a) = false := by
        have : ¬ j < loops a := by simpa [← Bool.not_eq_true, Nat.blt_eq] using h1
        simp only [← Bool.not_eq_true, Nat.blt_eq]; omega
      have h3 : ¬ j < loops a := by simpa [← Bool.not_eq_true, Nat.blt_eq] using h1
      simp only [lpK, lpKH, h1]
      rw [ihb (j - loops a) k (by omega)]
      simp only [lpG, lpC, lpK, h2, show j + 1 - loops a = j - loops a + 1 by omega]
  | cond c a b iha ihb =>
    intro j k h
    simp only [loops] at h
    cases h1 : Nat.blt j (loops a) with
    | true =>
      cases h2 : Nat.blt (j + 1) (loops a) with
      | true =>
        simp only [lpK, lpKH, h1, h2]
        rw [iha j _ (by simpa [Nat.blt_eq] using h2)]
        simp only [lpG, lpC, lpK, h2]
      | false => simp only [lpK, lpKH, h1, h2]
    | false =>
      have h2 : Nat.blt (j + 1) (loops a) = false := by
        have : ¬ j < loops a := by simpa [← Bool.not_eq_true, Nat.blt_eq] using h1
        simp only [← Bool.not_eq_true, Nat.blt_eq]; omega
      have h3 : ¬ j < loops a := by simpa [← Bool.not_eq_true, Nat.blt_eq] using h1
      simp only [lpK, lpKH, h1]
      rw [ihb (j - loops a) k (by omega)]
      simp only [lpG, lpC, lpK, h2, show j + 1 - loops a = j - loops a + 1 by omega]
  | block id c ih =>
    intro j k h
    simp only [loops] at h
    simp only [lpK, lpKH]
    rw [ih j _ h]
    simp only [lpG, lpC, lpK]
    rfl
  | loop c ih => intro j k h; rfl
  | scope c ih => intro j k h; rfl
  | _ => intro j k h; rfl
/-- One round of the j-th loop, cut at the loop that comes next. -/
noncomputable def rndN {α : Type} (env : Env) (tb : Tb) (F : Nat) (fn : Func) (j : Nat) (k : Xt → S → Option α) (k0 : Nat) (ids : List Nat) (H : Nat → List Nat → S → Option α) (R : S → Option α) (s : S) : Option α :=
  exE env tb (rdsF fn) F (lpC (bodyF fn) j) s fun x s => match x with
    | .normal => R (canon k0 (fgs (rdsF fn) (lpC (bodyF fn) j)) ids s)
    | x => lpKH env tb (rdsF fn) F H (bodyF fn) j k x (canon k0 (fgs (rdsF fn) (lpC (bodyF fn) j)) ids s)
theorem rndN_eq {α : Type} {env : Env} {tb : Tb} {F : Nat} {fn : Func} {j : Nat} {k : Xt → S → Option α} {k0 : Nat} {ids : List Nat} {R : S → Option α} {s : S} (h : Nat.blt (j + 1) (loops (bodyF fn)) = true) :
    rndE env tb F fn j k k0 ids R s = rndN env tb F fn j k k0 ids (lpE env tb F fn (j + 1) k F) R s := by
  unfold rndE rndN
  rw [lpKH_eq (bodyF fn) j k (by simpa [Nat.blt_eq] using h)]
  rfl
/-- One round, cut at a loop within it. -/
noncomputable def rndI {α : Type} (env : Env) (tb : Tb) (rd : Rd) (F : Nat) (c : Code) (j : Nat) (k : Xt → S → Option α) (k0 : Nat) (ids : List Nat) (j' : Nat) (H : Nat → List Nat → S → Option α) (R : S → Option α) (s : S) : Option α :=
  exH env tb rd F H (lpC c j) j' s fun x s => match x with
    | .normal => R (canon k0 (fgs rd (lpC c j)) ids s)
    | x => lpK env tb rd F c j k x (canon k0 (fgs rd (lpC c j)) ids s)
/-- What follows a round. -/
noncomputable def kR {α : Type} (env : Env) (tb : Tb) (rd : Rd) (F : Nat) (c : Code) (j : Nat) (k : Xt → S → Option α) (k0 : Nat) (ids : List Nat) (R : S → Option α) (x : Xt) (s : S) : Option α := match x with
    | .normal => R (canon k0 (fgs rd (lpC c j)) ids s)
    | x => lpK env tb rd F c j k x (canon k0 (fgs rd (lpC c j)) ids s)
theorem rndI_eq {α : Type} {env : Env} {tb : Tb} {F : Nat} {fn : Func} {j : Nat} {k : Xt → S → Option α} {k0 : Nat} {ids : List Nat} {R : S → Option α} {s : S} (j' : Nat) :
    rndE env tb F fn j k k0 ids R s = rndI env tb (rdsF fn) F (bodyF fn) j k k0 ids j' (lpG env tb (rdsF fn) F (lpC (bodyF fn) j) j' (kR env tb (rdsF fn) F (bodyF fn) j k k0 ids R) F) R s := by
  unfold rndE rndI
  rw [exH_eq env tb (rdsF fn) F (lpC (bodyF fn) j) j']
  rfl
/-- One round of a loop within. -/
noncomputable def rndG {α : Type} (env : Env) (tb : Tb) (rd : Rd) (F : Nat) (c : Code) (j : Nat) (k : Xt → S → Option α) (k0 : Nat) (ids : List Nat) (R : S → Option α) (s : S) : Option α :=
  exE env tb rd F (lpC c j) s fun x s => match x with
    | .normal => R (canon k0 (fgs rd (lpC c j)) ids s)
    | x => lpK env tb rd F c j k x (canon k0 (fgs rd (lpC c j)) ids s)
theorem lpG_succ {α : Type} {env : Env} {tb : Tb} {rd : Rd} {F : Nat} {c : Code} {j : Nat} {k : Xt → S → Option α} {n k0 : Nat} {ids : List Nat} {s : S} :
    lpG env tb rd F c j k (n + 1) k0 ids s = rndG env tb rd F c j k k0 ids (lpG env tb rd F c j k n k0 ids) s := rfl
theorem evalF_cut {env : Env} {tb : Tb} {F : Nat} {fn : Func} {args : List D} (j : Nat) (hb : fn.body.isSome = true) :
    evalF env tb F fn args = evalH env tb F fn j (lpE env tb F fn j (endK tb fn) F) (start fn args) (endK tb fn) := by
  unfold evalF evalR evalH lpE
  cases h : fn.body with
  | none => rw [h] at hb; cases hb
  | some c =>
    show exE _ _ _ _ _ _ _ = _
    rw [show bodyF fn = c by simp [bodyF, h]]
    exact exH_eq env tb (rdsF fn) F c j _ _
/-- The same for a function that is handed places. -/
def startX (fn : Func) (args : List D) : S := match inL (inD 6) 0 args with | (as, m, k) => { t := as ++ List.replicate (fn.ntmps - as.length) .no, m := m, k := 2 * k }
theorem evalX_cut {env : Env} {tb : Tb} {F : Nat} {fn : Func} {args : List D} (j : Nat) (hb : fn.body.isSome = true) :
    evalX env tb F fn args = evalH env tb F fn j (lpE env tb F fn j (endX tb fn (inL (inD 6) 0 args).1) F) (startX fn args) (endX tb fn (inL (inD 6) 0 args).1) := by
  unfold evalX evalH lpE
  cases h : fn.body with
  | none => rw [h] at hb; cases hb
  | some c =>
    show exE _ _ _ _ _ _ _ = _
    rw [show bodyF fn = c by simp [bodyF, h]]
    exact exH_eq env tb (rdsF fn) F c j _ _
end Go.Ev
