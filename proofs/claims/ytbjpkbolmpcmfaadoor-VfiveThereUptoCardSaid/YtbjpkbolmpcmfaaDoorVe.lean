/- Read: a message's head and flows. -/
import Derived.Test.YtbjpkbolmpcmfaaDoorVd
namespace Go.Cb
open Go.Ev Go.Proofs.YtbjpkbolmpcmfaaDoor
def hd0 : Hd := ⟨0, 0, 0, 0, 0, 0, 0⟩
def fw0 : Fw := ⟨0, 0, 0, 0, 0, 0, 0, 0, 0, 0, 0, 0, 0, 0, 0, 0, 0, 0⟩
abbrev cFws : Cd (List Fw) := sFw.list 18 fw0
abbrev cBs : Cd (List Int) := sU8.list 1 0
def endE (x : Rr) : Int := bif decide (e_Left x > 0) then 2 else x.e
end Go.Cb
namespace Go.Proofs.YtbjpkbolmpcmfaaDoor
open Go.Ev Go.Cb
abbrev e_none : Fe := fn1 cI fun e => .tup [cHd.enc hd0, cFws.enc [], I e]
theorem ok_none : En 23 e_none :=
  entry1 (callable Tryd.func23 (by kernel_rfl)) fun e => sp .nil Tryd.func23 1 (by kernel_rfl)
abbrev l_Read : Ens := [(23, e_none)]
abbrev X_Read : Xns := [(24, x_From), (25, x_two), (26, x_head), (27, x_flow), (28, x_End)]
/-- The state at the loop's head, written out. -/
abbrev stRd (m : Nat) (G : Nat → List D) (k i : Int) (h : Hd) (x : Rr) : S :=
  { t := [.no, .no, .loc 2097152 0, .sl 18 0 (fun _ => sFw.enc fw0) (.tok 29360135), I 0, .v (.func (.func 23) #[] #[]), .loc 10486144 0, .no, .loc 23068928 0, .sl 18 m G (.tok 29360147), .no, .no, .no, .no, .no, .no, .no, .no, .no, .no, .no, .no, .no, .no, .no, .no, .no, .no, .no, .no, .no, .no, .no, .no, .no, .no, .no, .no, .no, .no, .no, .no, .no, .no, .no, .no, I k, I i, .no, .no, .no, .no, .no, .no, .no, .no, .no, .no, .no, .no, .no, .no, .no, .no, .no, .no, .no, .no]
    m := [(29360147, .tok 52), (29360135, .tok 52), (23068928, .cells (sHd.enc h) 26), (10485892, .cells [B true, .sl 1 x.n x.g .none, I x.e] rrT), (10486144, .cells [.loc 10485892 0] 62), (2097152, .cells (sHd.enc hd0) 26)]
    k := 14680150 }
abbrev noneD (e : Int) : D := .tup [cHd.enc hd0, cFws.enc [], I e]
abbrev idsRd : List Nat := [23068928, 10485892, 10486144, 2097152]
theorem rnd_Read (F : Nat) (m : Nat) (G : Nat → List D) (k : Int) (i : Nat) (h : Hd) (x : Rr) (R : S → Option D) :
    rndE (envX l_Read X_Read) tb F Tryd.f8 0 (endK tb Tryd.f8) 14680064 idsRd R (stRd m G k i h x) =
    bif decide ((i : Int) < k) then (bif rgood x then (bif decide ((m + 1) * 48 ≤ 140737488355328 ∧ m + 1 ≤ 9223372036854775807) then R (stRd (m + 1) (pushD sFw fw0 m G (rFlow x)) k (i64 (i + 1)) h (advs flowL x)) else none) else none)
    else (bif endE x != 0 then some (noneD (endE x)) else some (.tup [cHd.enc h, .sl 18 m G .none, I 0])) := by kernel_rfl
abbrev kRd (x : Rr) : Int := i64 (w16 (rNum (rAdv x 2) 2))
theorem st_Read (F n : Nat) (g : Nat → List D) (H : Nat → List Nat → S → Option D) :
    evalH (envX l_Read X_Read) tb F Tryd.f8 0 H (Go.Ev.start Tryd.f8 [.sl 1 n g .none]) (endK tb Tryd.f8) =
    bif decide ((n : Int) < 24) then some (noneD 8) else bif decide (n ≤ 4294967296) then
      bif rck ⟨n, g, 0⟩ 2 then
        bif w16 (rNum ⟨n, g, 0⟩ 2) != 5 then some (noneD 16) else
          bif rck (rAdv ⟨n, g, 0⟩ 2) 2 then
            bif decide (kRd ⟨n, g, 0⟩ < 1) then some (noneD 3) else bif decide (kRd ⟨n, g, 0⟩ > 30) then some (noneD 3)
            else bif rgood (rAdv (rAdv ⟨n, g, 0⟩ 2) 2) then
              H 14680064 idsRd (stRd 0 (getE sFw fw0 []) (kRd ⟨n, g, 0⟩) 0 (rHead (rAdv (rAdv ⟨n, g, 0⟩ 2) 2)) (advs headL (rAdv (rAdv ⟨n, g, 0⟩ 2) 2))) else none
          else none
      else none else none := by kernel_rfl
end Go.Proofs.YtbjpkbolmpcmfaaDoor
