/- Record, Gap, Records. -/
import Derived.Test.YtbjpkbolmpcmfaaDoorVf
import Derived.Test.YtbjpkbolmpcmfaaDoorFe
namespace Go.Cb
open Go.Ev Go.Proofs.YtbjpkbolmpcmfaaDoor
def vRecord (f : Fw) : Rc := ⟨key_Four f.src, key_Four f.dst, k0, k0, w64 f.packets, w64 f.bytes⟩
def vGap (a : Hd) (n : Int) (b : Hd) : Int := w32 (w32 (b.seq - a.seq) - w32 n)
/-- The records that may be. -/
def vRecs (l : List Fw) : List Rc := (l.map vRecord).filter flow_Right
theorem vRecs_take {l : List Fw} {i : Nat} (h : i < l.length) : vRecs (l.take (i + 1)) = bif flow_Right (vRecord (l.getD i fw0)) then vRecs (l.take i) ++ [vRecord (l.getD i fw0)] else vRecs (l.take i) := by
  unfold vRecs
  rw [List.take_succ_eq_append_getElem h, List.map_append, List.filter_append]
  simp only [List.map_cons, List.map_nil, List.filter_cons, List.filter_nil, List.getD_eq_getElem?_getD, List.getElem?_eq_getElem h, Option.getD_some]
  cases flow_Right (vRecord l[i]) <;> simp
theorem vRecs_le (l : List Fw) : (vRecs l).length ≤ l.length := by
  unfold vRecs
  exact Nat.le_trans (List.length_filter_le _ _) (by simp)
end Go.Cb
namespace Go.Proofs.YtbjpkbolmpcmfaaDoor
open Go.Ev Go.Cb
abbrev e_vRecord : Fe := fn1 cFw fun f => cRc.enc (vRecord f)
theorem ok_vRecord : En 19 e_vRecord :=
  entry1 (callable Tryd.func19 (by kernel_rfl)) fun f => sp (.cons ok_key_Four .nil) Tryd.func19 1 (by kernel_rfl)
abbrev e_vGap : Fe := fn3 cHd cI cHd fun a n b => NumD .u32 (vGap a n b)
theorem ok_vGap : En 18 e_vGap :=
  entry3 (callable Tryd.func18 (by kernel_rfl)) fun a n b => sp .nil Tryd.func18 1 (by kernel_rfl)
abbrev l_Recs : Ens := [(8, e_Read), (19, e_vRecord), (22, e_flow_Right)]
abbrev idsRc : List Nat := [4195072]
abbrev stRc (hh : Hd) (L : List Fw) (e : Int) (m : Nat) (G : Nat → List D) (i : Int) : S :=
  { t := stT 34 0 [(2, .sl 22 0 (getE sRc rc0 []) (.tok 10485765)), (3, I 0), (6, I e), (7, .sl 22 m G (.tok 10485775)), (17, cFws.enc L), (18, I L.length), (19, I i)]
    m := [(10485775, .tok 49), (10485765, .tok 49), (4195072, .cells (sHd.enc hh) 26)]
    k := 5242921 }
theorem st_Recs (F : Nat) (b : List Int) (H : Nat → List Nat → S → Option D) : evalH (envOf l_Recs) tb F Tryd.f9 0 H (Go.Ev.start Tryd.f9 [cBs.enc b]) (endK tb Tryd.f9) =
    let B := listS sU8 0 b.length (getE sU8 0 b)
    bif allS sU8 b.length (getE sU8 0 b) && decide (B.length ≤ 4294967296) then H 5242880 idsRc (stRc (readH (rdr B)) (readL (rdr B)) (readE (rdr B)) 0 (getE sRc rc0 []) 0) else none := by kernel_rfl
theorem rnd_Recs (F : Nat) (hh : Hd) (L : List Fw) (e : Int) (m : Nat) (G : Nat → List D) (i : Nat) (R : S → Option D) :
    rndE (envOf l_Recs) tb F Tryd.f9 0 (endK tb Tryd.f9) 5242880 idsRc R (stRc hh L e m G i) =
    bif decide ((i : Int) < L.length) then (bif bnd i L.length then
      (let r := vRecord (L.getD (i : Int).toNat fw0)
       bif flow_Right r then (bif decide ((m + 1) * 208 ≤ 140737488355328 ∧ m + 1 ≤ 9223372036854775807) then R (stRc hh L e (m + 1) (pushD sRc rc0 m G r) (i64 (i + 1))) else none)
       else R (stRc hh L e m G (i64 (i + 1)))) else none)
    else some (.tup [.sl 22 m G .none, I e]) := by kernel_rfl
noncomputable abbrev lpRecs (F n : Nat) (s : S) : Option D := lpE (envOf l_Recs) tb F Tryd.f9 0 (endK tb Tryd.f9) n 5242880 idsRc s
abbrev stRcL (hh : Hd) (L : List Fw) (e : Int) (i : Nat) : S := stRc hh L e (vRecs (L.take i)).length (getE sRc rc0 (vRecs (L.take i))) i
theorem lp_Recs (F : Nat) (hh : Hd) (L : List Fw) (hL : L.length ≤ 4294967296) (e : Int) : ∀ (r i n : Nat), L.length = i + r → r < n → lpRecs F n (stRcL hh L e i) = some (.tup [cRcs.enc (vRecs L), I e])
  | 0, i, n + 1, h, _ => by
    unfold lpRecs
    rw [lpE_succ, rnd_Recs, show decide ((i : Int) < (L.length : Int)) = false by simp; omega, show L.take i = L from List.take_of_length_le (by omega)]
    rfl
  | r + 1, i, n + 1, h, h2 => by
    have ih := lp_Recs F hh L hL e r (i + 1) n (by omega) (by omega)
    have hi : i < L.length := by omega
    unfold lpRecs
    rw [lpE_succ, rnd_Recs, show decide ((i : Int) < (L.length : Int)) = true by simp; omega, bnd_nat, show decide (i < L.length) = true by simpa using hi, Int.toNat_natCast, i64_succ (by omega)]
    unfold stRcL at ih
    rw [vRecs_take hi] at ih
    have hl := vRecs_le (L.take i)
    simp only [List.length_take] at hl
    cases hr : flow_Right (vRecord (L.getD i fw0)) with
    | true =>
      rw [hr] at ih
      simp only [cond_true, hr]
      rw [show decide (((vRecs (L.take i)).length + 1) * 208 ≤ 140737488355328 ∧ (vRecs (L.take i)).length + 1 ≤ 9223372036854775807) = true by simp; omega, pushD_eq, len_push (l := vRecs (L.take i))]
      exact ih
    | false =>
      rw [hr] at ih
      simp only [cond_true, hr, cond_false]
      exact ih
abbrev e_Recs : Fe := fn1C cBs (fun b => decide (b.length ≤ 4294967296)) fun b => .tup [cRcs.enc (vRecs (readL (rdr b))), I (readE (rdr b))]
theorem readE_k {x : Rr} (h : readE x = 0) : 24 ≤ x.n ∧ w16 (rNum x 2) = 5 ∧ 1 ≤ kRd x ∧ kRd x ≤ 30 ∧ endE (xs (x3 x) (kNum x)) = 0 := by
  unfold readE at h
  cases h1 : decide ((x.n : Int) < 24) with
  | true => rw [h1] at h; cases h
  | false =>
  cases h2 : w16 (rNum x 2) != 5 with
  | true => rw [h1, h2] at h; cases h
  | false =>
  cases h3 : (decide (kRd x < 1) || decide (kRd x > 30)) with
  | true => rw [h1, h2, h3] at h; cases h
  | false =>
    rw [h1, h2, h3] at h
    simp only [decide_eq_false_iff_not, bne_eq_false_iff_eq, Bool.or_eq_false_iff] at h1 h2 h3
    exact ⟨by omega, h2, by omega, by omega, h⟩
theorem readL_le (b : List Int) : (readL (rdr b)).length ≤ 30 := by
  unfold readL
  cases h : readE (rdr b) != 0 with
  | true => simp
  | false =>
    rw [cond_false, flowsR_len]
    obtain ⟨_, _, h1, h2, _⟩ := readE_k (x := rdr b) (by simpa using h)
    unfold kNum
    omega
theorem ok_Recs : En 9 e_Recs :=
  entry1C (callable Tryd.func9 (by kernel_rfl)) fun b hb => sp (.cons ok_Read (.cons ok_vRecord (.cons ok_flow_Right .nil))) Tryd.func9 ((readL (rdr b)).length + 1) (by
    have e := st_Recs ((readL (rdr b)).length + 1) b (lpE (envOf l_Recs) tb ((readL (rdr b)).length + 1) Tryd.f9 0 (endK tb Tryd.f9) ((readL (rdr b)).length + 1))
    have e := (evalF_cut (env := envOf l_Recs) (tb := tb) (fn := Tryd.f9) (args := [cBs.enc b]) 0 rfl).trans e
    simp only [allS_enc, listS_enc, Bool.true_and, hb, cond_true] at e
    exact e.trans (lp_Recs _ _ _ (Nat.le_trans (readL_le b) (by decide)) _ (readL (rdr b)).length 0 ((readL (rdr b)).length + 1) (by omega) (by omega)))
end Go.Proofs.YtbjpkbolmpcmfaaDoor
