/- Sinks: numbers of one, two, four bytes, written one behind the other. -/
import Derived.Test.YtbjpkbolmpcmfaaDoorVk
namespace Go.Proofs.YtbjpkbolmpcmfaaDoor
open Go.Ev Go.Cb
abbrev x_s_one : FeX := fx2 cSk (xown sU8 1 0 5) (fun l L => decide (l.length + 8 * L.length ≤ 549755813888)) fun l L => (.tup [], [skD (l ++ numsB L 1), slD sU8 1 0 L])
noncomputable abbrev kS_one (l L : List Int) : Xt → S → Option (D × List D) := endX tb Tryd.f33 (inL (inD 6) 0 [skD l, .sl 1 L.length (getE sU8 0 L) (.own 5)]).1
theorem st_s_one (F : Nat) (l L : List Int) (H : Nat → List Nat → S → Option (D × List D)) : evalH (envX [] X_wNum) tb F Tryd.f33 0 H (startX Tryd.f33 [skD l, .sl 1 L.length (getE sU8 0 L) (.own 5)]) (kS_one l L) =
    H 3145728 [2097152, 9, 0, 5] (stSk sU8 5 L l.length (getE sU8 0 l) 0) := by kernel_rfl
theorem rnd_s_one (F : Nat) (l L : List Int) (m : Nat) (G : Nat → List D) (i : Int) (R : S → Option (D × List D)) :
    rndE (envX [] X_wNum) tb F Tryd.f33 0 (kS_one l L) 3145728 [2097152, 9, 0, 5] R (stSk sU8 5 L m G i) =
    let M := listS sU8 0 m G ++ numB (w64 (L.getD i.toNat 0)) (sizeOf' 1).toNat
    bif decide (i < L.length) then (bif bnd i L.length then (bif allS sU8 m G && wok (listS sU8 0 m G) then R (stSk sU8 5 L M.length (getE sU8 0 M) (i64 (i + 1))) else none) else none)
    else some (.tup [], [.agg [.box wtT [.sl 1 m G (.own 5)]], slD sU8 1 0 L]) := by kernel_rfl
theorem lp_s_one (F : Nat) (l0 L : List Int) (l : List Int) (hl : l.length + 8 * L.length ≤ 549755813888) : ∀ (r i N : Nat), L.length = i + r → r < N →
    lpE (envX [] X_wNum) tb F Tryd.f33 0 (kS_one l0 L) N 3145728 [2097152, 9, 0, 5] (stSk sU8 5 L (l ++ numsB (L.take i) 1).length (getE sU8 0 (l ++ numsB (L.take i) 1)) i) = some (.tup [], [skD (l ++ numsB L 1), slD sU8 1 0 L])
  | 0, i, N + 1, e, _ => by
    rw [lpE_succ, rnd_s_one]
    simp only [show decide ((i : Int) < (L.length : Int)) = false by simp; omega, cond_false, show L.take i = L from List.take_of_length_le (by omega)]
  | r + 1, i, N + 1, e, h2 => by
    have ih := lp_s_one F l0 L l hl r (i + 1) N (by omega) (by omega)
    have hi : i < L.length := by omega
    rw [lpE_succ, rnd_s_one]
    simp only [allS_enc, listS_enc, Bool.true_and, bnd_nat, Int.toNat_natCast, show decide ((i : Int) < (L.length : Int)) = true by simp; omega, show decide (i < L.length) = true by simpa using hi, cond_true, show (sizeOf' 1).toNat = 1 by decide,
      show wok (l ++ numsB (L.take i) 1) = true by simp only [wok, List.length_append, numsB_len, List.length_take]; simp; omega, i64_succ (show i + 1 < 9223372036854775808 by omega)]
    rw [List.append_assoc, ← numsB_take hi]
    exact ih
theorem ok_s_one : Enx 33 x_s_one :=
  entryX2 (callable Tryd.func33 (by kernel_rfl)) fun l L h => sxX .nil (.cons ok_wNum .nil) Tryd.func33 (L.length + 1) (by
    have e := (evalX_cut (env := envX [] X_wNum) (tb := tb) (F := L.length + 1) (fn := Tryd.f33) (args := [skD l, .sl 1 L.length (getE sU8 0 L) (.own 5)]) 0 rfl).trans (st_s_one _ l L _)
    have := lp_s_one (L.length + 1) l L l (by simpa using h) L.length 0 (L.length + 1) (by omega) (by omega)
    rw [show l ++ numsB (L.take 0) 1 = l by simp [numsB]] at this
    exact e.trans this)
abbrev x_s_two : FeX := fx2 cSk (xown sU16 1 0 24) (fun l L => decide (l.length + 8 * L.length ≤ 549755813888)) fun l L => (.tup [], [skD (l ++ numsB L 2), slD sU16 1 0 L])
noncomputable abbrev kS_two (l L : List Int) : Xt → S → Option (D × List D) := endX tb Tryd.f31 (inL (inD 6) 0 [skD l, .sl 1 L.length (getE sU16 0 L) (.own 24)]).1
theorem st_s_two (F : Nat) (l L : List Int) (H : Nat → List Nat → S → Option (D × List D)) : evalH (envX [] X_wNum) tb F Tryd.f31 0 H (startX Tryd.f31 [skD l, .sl 1 L.length (getE sU16 0 L) (.own 24)]) (kS_two l L) =
    H 3145728 [2097152, 9, 0, 5] (stSk sU16 24 L l.length (getE sU8 0 l) 0) := by kernel_rfl
theorem rnd_s_two (F : Nat) (l L : List Int) (m : Nat) (G : Nat → List D) (i : Int) (R : S → Option (D × List D)) :
    rndE (envX [] X_wNum) tb F Tryd.f31 0 (kS_two l L) 3145728 [2097152, 9, 0, 5] R (stSk sU16 24 L m G i) =
    let M := listS sU8 0 m G ++ numB (w64 (L.getD i.toNat 0)) (sizeOf' 2).toNat
    bif decide (i < L.length) then (bif bnd i L.length then (bif allS sU8 m G && wok (listS sU8 0 m G) then R (stSk sU16 24 L M.length (getE sU8 0 M) (i64 (i + 1))) else none) else none)
    else some (.tup [], [.agg [.box wtT [.sl 1 m G (.own 5)]], slD sU16 1 0 L]) := by kernel_rfl
theorem lp_s_two (F : Nat) (l0 L : List Int) (l : List Int) (hl : l.length + 8 * L.length ≤ 549755813888) : ∀ (r i N : Nat), L.length = i + r → r < N →
    lpE (envX [] X_wNum) tb F Tryd.f31 0 (kS_two l0 L) N 3145728 [2097152, 9, 0, 5] (stSk sU16 24 L (l ++ numsB (L.take i) 2).length (getE sU8 0 (l ++ numsB (L.take i) 2)) i) = some (.tup [], [skD (l ++ numsB L 2), slD sU16 1 0 L])
  | 0, i, N + 1, e, _ => by
    rw [lpE_succ, rnd_s_two]
    simp only [show decide ((i : Int) < (L.length : Int)) = false by simp; omega, cond_false, show L.take i = L from List.take_of_length_le (by omega)]
  | r + 1, i, N + 1, e, h2 => by
    have ih := lp_s_two F l0 L l hl r (i + 1) N (by omega) (by omega)
    have hi : i < L.length := by omega
    rw [lpE_succ, rnd_s_two]
    simp only [allS_enc, listS_enc, Bool.true_and, bnd_nat, Int.toNat_natCast, show decide ((i : Int) < (L.length : Int)) = true by simp; omega, show decide (i < L.length) = true by simpa using hi, cond_true, show (sizeOf' 2).toNat = 2 by decide,
      show wok (l ++ numsB (L.take i) 2) = true by simp only [wok, List.length_append, numsB_len, List.length_take]; simp; omega, i64_succ (show i + 1 < 9223372036854775808 by omega)]
    rw [List.append_assoc, ← numsB_take hi]
    exact ih
theorem ok_s_two : Enx 31 x_s_two :=
  entryX2 (callable Tryd.func31 (by kernel_rfl)) fun l L h => sxX .nil (.cons ok_wNum .nil) Tryd.func31 (L.length + 1) (by
    have e := (evalX_cut (env := envX [] X_wNum) (tb := tb) (F := L.length + 1) (fn := Tryd.f31) (args := [skD l, .sl 1 L.length (getE sU16 0 L) (.own 24)]) 0 rfl).trans (st_s_two _ l L _)
    have := lp_s_two (L.length + 1) l L l (by simpa using h) L.length 0 (L.length + 1) (by omega) (by omega)
    rw [show l ++ numsB (L.take 0) 2 = l by simp [numsB]] at this
    exact e.trans this)
abbrev x_s_four : FeX := fx2 cSk (xown sU32 1 0 23) (fun l L => decide (l.length + 8 * L.length ≤ 549755813888)) fun l L => (.tup [], [skD (l ++ numsB L 4), slD sU32 1 0 L])
noncomputable abbrev kS_four (l L : List Int) : Xt → S → Option (D × List D) := endX tb Tryd.f32 (inL (inD 6) 0 [skD l, .sl 1 L.length (getE sU32 0 L) (.own 23)]).1
theorem st_s_four (F : Nat) (l L : List Int) (H : Nat → List Nat → S → Option (D × List D)) : evalH (envX [] X_wNum) tb F Tryd.f32 0 H (startX Tryd.f32 [skD l, .sl 1 L.length (getE sU32 0 L) (.own 23)]) (kS_four l L) =
    H 3145728 [2097152, 9, 0, 5] (stSk sU32 23 L l.length (getE sU8 0 l) 0) := by kernel_rfl
theorem rnd_s_four (F : Nat) (l L : List Int) (m : Nat) (G : Nat → List D) (i : Int) (R : S → Option (D × List D)) :
    rndE (envX [] X_wNum) tb F Tryd.f32 0 (kS_four l L) 3145728 [2097152, 9, 0, 5] R (stSk sU32 23 L m G i) =
    let M := listS sU8 0 m G ++ numB (w64 (L.getD i.toNat 0)) (sizeOf' 4).toNat
    bif decide (i < L.length) then (bif bnd i L.length then (bif allS sU8 m G && wok (listS sU8 0 m G) then R (stSk sU32 23 L M.length (getE sU8 0 M) (i64 (i + 1))) else none) else none)
    else some (.tup [], [.agg [.box wtT [.sl 1 m G (.own 5)]], slD sU32 1 0 L]) := by kernel_rfl
theorem lp_s_four (F : Nat) (l0 L : List Int) (l : List Int) (hl : l.length + 8 * L.length ≤ 549755813888) : ∀ (r i N : Nat), L.length = i + r → r < N →
    lpE (envX [] X_wNum) tb F Tryd.f32 0 (kS_four l0 L) N 3145728 [2097152, 9, 0, 5] (stSk sU32 23 L (l ++ numsB (L.take i) 4).length (getE sU8 0 (l ++ numsB (L.take i) 4)) i) = some (.tup [], [skD (l ++ numsB L 4), slD sU32 1 0 L])
  | 0, i, N + 1, e, _ => by
    rw [lpE_succ, rnd_s_four]
    simp only [show decide ((i : Int) < (L.length : Int)) = false by simp; omega, cond_false, show L.take i = L from List.take_of_length_le (by omega)]
  | r + 1, i, N + 1, e, h2 => by
    have ih := lp_s_four F l0 L l hl r (i + 1) N (by omega) (by omega)
    have hi : i < L.length := by omega
    rw [lpE_succ, rnd_s_four]
    simp only [allS_enc, listS_enc, Bool.true_and, bnd_nat, Int.toNat_natCast, show decide ((i : Int) < (L.length : Int)) = true by simp; omega, show decide (i < L.length) = true by simpa using hi, cond_true, show (sizeOf' 4).toNat = 4 by decide,
      show wok (l ++ numsB (L.take i) 4) = true by simp only [wok, List.length_append, numsB_len, List.length_take]; simp; omega, i64_succ (show i + 1 < 9223372036854775808 by omega)]
    rw [List.append_assoc, ← numsB_take hi]
    exact ih
theorem ok_s_four : Enx 32 x_s_four :=
  entryX2 (callable Tryd.func32 (by kernel_rfl)) fun l L h => sxX .nil (.cons ok_wNum .nil) Tryd.func32 (L.length + 1) (by
    have e := (evalX_cut (env := envX [] X_wNum) (tb := tb) (F := L.length + 1) (fn := Tryd.f32) (args := [skD l, .sl 1 L.length (getE sU32 0 L) (.own 23)]) 0 rfl).trans (st_s_four _ l L _)
    have := lp_s_four (L.length + 1) l L l (by simpa using h) L.length 0 (L.length + 1) (by omega) (by omega)
    rw [show l ++ numsB (L.take 0) 4 = l by simp [numsB]] at this
    exact e.trans this)
end Go.Proofs.YtbjpkbolmpcmfaaDoor
