/- VfiveThere: the law's run. -/
import Derived.Test.YtbjpkbolmpcmfaaDoorVw
namespace Go.Proofs.YtbjpkbolmpcmfaaDoor
open Go.Ev Go.Cb
abbrev l_VThere : Ens := [(13, e_alive14), (8, e_Read), (17, e_Write), (9, e_Recs), (19, e_vRecord), (22, e_flow_Right)]
theorem oks_VThere : Es l_VThere := .cons ok_alive14 (.cons ok_Read (.cons ok_Write (.cons ok_Recs (.cons ok_vRecord (.cons ok_flow_Right .nil)))))
abbrev memT (h : Hd) : Mem := [(4195072, .cells (sHd.enc h) 26)]
abbrev stT1 (b C : List Int) (L : List Fw) (h : Hd) (i : Int) : S := { t := stT 121 0 [(0, cBs.enc b), (2, B false), (4, cFws.enc L), (6, cBs.enc C), (8, I i)], m := memT h, k := 9437312 }
abbrev stT2 (h : Hd) (L : List Fw) (Q : List Rc) (e : Int) (i : Int) : S := { t := stT 121 0 [(2, B false), (4, cFws.enc L), (11, cRcs.enc Q), (12, I e), (13, I i)], m := memT h, k := 17825920 }
theorem st_VThere (F : Nat) (b : List Int) (H : Nat → List Nat → S → Option D) : evalH (envOf l_VThere) tb F Tryd.f6 0 H (Go.Ev.start Tryd.f6 [cBs.enc b]) (endK tb Tryd.f6) =
    let C := roL sU8 0 b
    let L := readL (rdr C)
    let W := writeB (readH (rdr C)) (roL sFw fw0 L)
    chk [okL sU8 0 b && decide (C.length ≤ 4294967296)] (bif readE (rdr C) != 0 then some (B true) else chk [okL sFw fw0 L && true] (bif writeE (roL sFw fw0 L) != 0 then some (B false) else bif (W.length : Int) != b.length then some (B false) else
      H 9437184 [4195072] (stT1 b W L (readH (rdr C)) 0))) := by kernel_rfl
theorem rnd_VThere1 (F : Nat) (b C : List Int) (L : List Fw) (h : Hd) (i : Int) (R : S → Option D) (H : Nat → List Nat → S → Option D) :
    rndN (envOf l_VThere) tb F Tryd.f6 0 (endK tb Tryd.f6) 9437184 [4195072] H R (stT1 b C L h i) =
    let v := Int.tmod (i64 (i - 24)) 48
    let Y := R (stT1 b C L h (i64 (i + 1)))
    let X := bif bnd i C.length then (bif bnd i b.length then (bif C.getD i.toNat 0 != b.getD i.toNat 0 then some (B false) else Y) else none) else none
    let B' := roL sU8 0 b
    bif decide (i < b.length) then
      (bif decide (i ≥ 24) then
        (bif v == 36 then (bif bnd i C.length then (bif C.getD i.toNat 0 != 0 then some (B false) else Y) else none)
        else bif decide (v ≥ 46) then (bif bnd i C.length then (bif C.getD i.toNat 0 != 0 then some (B false) else (bif !decide (v ≥ 46) then X else Y)) else none)
        else (bif !decide (v ≥ 46) then X else Y))
      else X)
    else chk [okL sU8 0 b && decide (B'.length ≤ 4294967296)] (H 17825792 [4195072] (stT2 h L (vRecs (readL (rdr B'))) (readE (rdr B')) 0)) := by kernel_rfl
theorem rnd_VThere2 (F : Nat) (L : List Fw) (h : Hd) (Q : List Rc) (e i : Int) (R : S → Option D) :
    rndE (envOf l_VThere) tb F Tryd.f6 1 (endK tb Tryd.f6) 17825792 [4195072] R (stT2 h L Q e i) =
    let q := Q.getD i.toNat rc0
    bif decide (i < Q.length) then chk [bnd i Q.length] (bif !flow_Right q then some (B false) else chk [bnd i Q.length, bnd i L.length] (bif !eqRc q (vRecord (L.getD i.toNat fw0)) then some (B false) else R (stT2 h L Q e (i64 (i + 1)))))
    else bif e == 0 then some (B ((Q.length : Int) == L.length)) else some (B false) := by kernel_rfl
noncomputable abbrev lpT2 (F n : Nat) (s : S) : Option D := lpE (envOf l_VThere) tb F Tryd.f6 1 (endK tb Tryd.f6) n 17825792 [4195072] s
theorem lp_VThere2 (F : Nat) (L : List Fw) (h : Hd) (hl : L.length ≤ 30) (hr : ∀ f ∈ L, flow_Right (vRecord f) = true) : ∀ (r i n : Nat), L.length = i + r → r < n → lpT2 F n (stT2 h L (L.map vRecord) 0 i) = some (B true)
  | 0, i, n + 1, e, _ => by
    unfold lpT2
    rw [lpE_succ, rnd_VThere2]
    simp only [List.length_map, show decide ((i : Int) < (L.length : Int)) = false by simp; omega, cond_false]
    simp
  | r + 1, i, n + 1, e, h2 => by
    have ih := lp_VThere2 F L h hl hr r (i + 1) n (by omega) (by omega)
    have hi : i < L.length := by omega
    have hq : (L.map vRecord).getD i rc0 = vRecord (L.getD i fw0) := by simp [hi]
    have hm : L.getD i fw0 ∈ L := by simp [hi]
    unfold lpT2
    rw [lpE_succ, rnd_VThere2]
    simp only [List.length_map, show decide ((i : Int) < (L.length : Int)) = true by simp; omega, cond_true, bnd_nat, show decide (i < L.length) = true by simpa using hi, Int.toNat_natCast, hq, hr _ hm, eqRc_refl, Bool.not_true, cond_false, chk, i64_succ (show i + 1 < 9223372036854775808 by omega)]
    exact ih
theorem lp_VThere1 (F : Nat) (hF : 31 ≤ F) (b : List Int) (hb : ∀ x ∈ b, byteIn x) (hl : b.length ≤ 1048576) (h0 : r14_Fault b = 0) : ∀ (r i n : Nat), b.length = i + r → r < n →
    lpE (envOf l_VThere) tb F Tryd.f6 0 (endK tb Tryd.f6) n 9437184 [4195072] (stT1 b (msg (r14_Head b) (r14_Flows b)) (r14_Flows b) (r14_Head b) i) = some (B true)
  | 0, i, n + 1, e, _ => by
    rw [lpE_succ, rndN_eq (by kernel_rfl), rnd_VThere1]
    have hm := vRecs_all (flows_in b)
    have hL : (r14_Flows b).length ≤ 30 := by rw [(there hb h0).2.1]; have := whole_of h0; omega
    have hmap : (r14_Flows b).map r14_Record = (r14_Flows b).map vRecord := List.map_congr_left fun f hf => (rec_eq (flows_in b f hf).1 (flows_in b f hf).2).symm
    simp only [listS_enc, allS_enc, show decide ((i : Int) < (b.length : Int)) = false by simp; omega, cond_false, chk, Bool.true_and, show decide (b.length ≤ 4294967296) = true by simp; omega, cond_true]
    rw [readL_eq hb h0, readE_eq hb, h0, hm, hmap]
    exact lp_VThere2 F (r14_Flows b) (r14_Head b) hL (fun f hf => right_rec (flows_in b f hf).1 (flows_in b f hf).2) (r14_Flows b).length 0 F (by omega) (by omega)
  | r + 1, i, n + 1, e, h2 => by
    have ih := lp_VThere1 F hF b hb hl h0 r (i + 1) n (by omega) (by omega)
    have hi : i < b.length := by omega
    obtain ⟨t1, _, t3⟩ := there hb h0
    have hc := t3 i hi
    rw [lpE_succ, rndN_eq (by kernel_rfl), rnd_VThere1]
    simp only [show decide ((i : Int) < (b.length : Int)) = true by simp; omega, cond_true, t1, bnd_nat, show decide (i < b.length) = true by simpa using hi, Int.toNat_natCast, i64_succ (show i + 1 < 9223372036854775808 by omega), ih]
    by_cases h24 : 24 ≤ i
    · have hv : Int.tmod (i64 ((i : Int) - 24)) 48 = (((i - 24) % 48 : Nat) : Int) := by
        rw [i64_in (by omega) (by omega), show (i : Int) - 24 = ((i - 24 : Nat) : Int) by omega]
        rfl
      rw [show decide ((i : Int) ≥ 24) = true by simp; omega, hv, cond_true]
      by_cases hidle : idle i
      · rw [if_pos hidle] at hc
        rw [hc]
        simp only [show ((0 : Int) != 0) = false by decide, cond_false]
        unfold idle at hidle
        by_cases h36 : (i - 24) % 48 = 36
        · rw [h36]; rfl
        · rw [show ((((i - 24) % 48 : Nat) : Int) == 36) = false by rw [beq_eq_false_iff_ne]; omega, show decide ((((i - 24) % 48 : Nat) : Int) ≥ 46) = true by simp; omega]
          rfl
      · rw [if_neg hidle] at hc
        rw [hc]
        unfold idle at hidle
        rw [show ((((i - 24) % 48 : Nat) : Int) == 36) = false by rw [beq_eq_false_iff_ne]; omega, show decide ((((i - 24) % 48 : Nat) : Int) ≥ 46) = false by simp; omega, show (b.getD i 0 != b.getD i 0) = false by simp]
        rfl
    · have hidle : ¬ idle i := by unfold idle; omega
      rw [if_neg hidle] at hc
      rw [show decide ((i : Int) ≥ 24) = false by simp; omega, hc, show (b.getD i 0 != b.getD i 0) = false by simp]
      rfl
theorem law_VfiveThere (b : List Int) (hb : b.length ≤ 1048576 ∧ ∀ x ∈ b, byteIn x) : Go.Ev.Spec Tryd.prog gl 6 [cBs.enc b] (B true) :=
  sp oks_VThere Tryd.func6 (b.length + 31) (by
    obtain ⟨hl, hb⟩ := hb
    have e := (evalF_cut (env := envOf l_VThere) (tb := tb) (F := b.length + 31) (fn := Tryd.f6) (args := [cBs.enc b]) 0 rfl).trans (st_VThere _ b _)
    refine e.trans ?_
    simp only [listS_enc, allS_enc, Bool.true_and, chk, show decide (b.length ≤ 4294967296) = true by simp; omega, cond_true]
    rw [readE_eq hb]
    cases h0 : r14_Fault b != 0 with
    | true => rfl
    | false =>
      have h0 : r14_Fault b = 0 := by simpa using h0
      obtain ⟨w1, w2, w3, w4, w5⟩ := whole_of h0
      obtain ⟨t1, t2, t3⟩ := there hb h0
      rw [readL_eq hb h0, readH_eq hb h0, msg_writeB (h := r14_Head b) (L := r14_Flows b) (by omega) (by omega)]
      rw [show writeE (r14_Flows b) = 0 by unfold writeE; rw [show (((r14_Flows b).length : Int) == 0) = false by rw [beq_eq_false_iff_ne]; omega, show decide (((r14_Flows b).length : Int) > 30) = false by simp; omega]; rfl, t1]
      simp only [show ((0 : Int) != 0) = false by decide, cond_false, show ((b.length : Int) != (b.length : Int)) = false by simp]
      exact lp_VThere1 (b.length + 31) (by omega) b hb hl h0 b.length 0 (b.length + 31) (by omega) (by omega))
end Go.Proofs.YtbjpkbolmpcmfaaDoor
