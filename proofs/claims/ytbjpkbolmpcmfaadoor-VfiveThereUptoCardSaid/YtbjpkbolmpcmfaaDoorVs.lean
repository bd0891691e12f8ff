/- VfiveReads, VfiveGaps: the laws' runs. -/
import Derived.Test.YtbjpkbolmpcmfaaDoorVr
namespace Go.Cb
open Go.Ev Go.Proofs.YtbjpkbolmpcmfaaDoor
def eqHd (a b : Hd) : Bool := a.up == b.up && (a.secs == b.secs && (a.nanos == b.nanos && (a.seq == b.seq && (a.engine == b.engine && (a.ident == b.ident && (a.sampling == b.sampling && true))))))
theorem eqHd_refl (a : Hd) : eqHd a a = true := by simp [eqHd]
def u8In (n : Int) : Prop := 0 ≤ n ∧ n ≤ 255
def u16In (n : Int) : Prop := 0 ≤ n ∧ n ≤ 65535
def inI (n : Int) : Prop := -9223372036854775808 ≤ n ∧ n ≤ 9223372036854775807
def HdIn (h : Hd) : Prop := u32In h.up ∧ u32In h.secs ∧ u32In h.nanos ∧ u32In h.seq ∧ u8In h.engine ∧ u8In h.ident ∧ u16In h.sampling
end Go.Cb
namespace Go.Proofs.YtbjpkbolmpcmfaaDoor
open Go.Ev Go.Cb
abbrev l_VReads : Ens := [(13, e_alive14), (8, e_Read), (9, e_Recs), (10, e_r14_Recs), (11, e_r14_Fault), (14, e_r14_Head), (16, e_r14_Flows), (15, e_sameFlows), (12, e_SameRecords)]
theorem ev_VfiveReads (b : List Int) : evalF (envOf l_VReads) tb 1 Tryd.f3 [cBs.enc b] =
    let C := roL sU8 0 b
    let a := okL sU8 0 b && decide (C.length ≤ 4294967296)
    let R := vRecs (readL (rdr C))
    chk [a, a, a, a] (bif readE (rdr C) != r14_Fault C then some (B false) else bif readE (rdr C) != r14_Fault C then some (B false) else
      chk [okL sRc rc0 R && (okL sRc rc0 (r14_Recs C) && decide ((roL sRc rc0 R).length ≤ 4294967296))] (bif !sameL eqRc rc0 (roL sRc rc0 R) (roL sRc rc0 (r14_Recs C)) then some (B false) else
        bif readE (rdr C) != 0 then (bif eqHd (readH (rdr C)) hd0 then some (B (((readL (rdr C)).length : Int) == 0)) else some (B false))
        else chk [okL sU8 0 b && (decide (24 ≤ C.length) && decide (C.length ≤ 4294967296))] (bif eqHd (readH (rdr C)) (r14_Head C) then
          chk [okL sU8 0 b && (whole48 C && decide (C.length ≤ 4294967296)), okL sFw fw0 (readL (rdr C)) && (okL sFw fw0 (r14_Flows C) && decide ((roL sFw fw0 (readL (rdr C))).length ≤ 4294967296))]
            (some (B (sameL eqFw fw0 (roL sFw fw0 (readL (rdr C))) (roL sFw fw0 (r14_Flows C)))))
          else some (B false)))) := by kernel_rfl
theorem law_VfiveReads (b : List Int) (hb : b.length ≤ 1048576 ∧ ∀ x ∈ b, byteIn x) : Go.Ev.Spec Tryd.prog gl 3 [cBs.enc b] (B true) :=
  sp (.cons ok_alive14 (.cons ok_Read (.cons ok_Recs (.cons ok_r14_Recs (.cons ok_r14_Fault (.cons ok_r14_Head (.cons ok_r14_Flows (.cons ok_sameFlows (.cons ok_SameRecords .nil))))))))) Tryd.func3 1 ((ev_VfiveReads b).trans (by
    obtain ⟨hl, hb⟩ := hb
    simp only [listS_enc, allS_enc, Bool.true_and]
    rw [readE_eq hb, recs_eq hb, chk_eq (by simp; omega), show (r14_Fault b != r14_Fault b) = false by simp, sameL_refl eqRc_refl]
    simp only [cond_false, Bool.not_true]
    have hr : (r14_Recs b).length ≤ 4294967296 := by
      rw [← recs_eq hb]
      exact Nat.le_trans (vRecs_le _) (Nat.le_trans (readL_le b) (by decide))
    rw [chk_eq (by simpa using hr)]
    cases h : r14_Fault b != 0 with
    | true =>
      have hE : readE (rdr b) ≠ 0 := by rw [readE_eq hb]; simpa using h
      rw [show readH (rdr b) = hd0 by unfold readH; rw [show (readE (rdr b) != 0) = true by simpa using hE]; rfl, show readL (rdr b) = [] by unfold readL; rw [show (readE (rdr b) != 0) = true by simpa using hE]; rfl]
      rfl
    | false =>
      have h : r14_Fault b = 0 := by simpa using h
      obtain ⟨h1, _, h3, h4, h5⟩ := whole_of h
      rw [readH_eq hb h, readL_eq hb h, eqHd_refl, sameL_refl eqFw_refl, cond_false, chk_eq (by simp; omega), cond_true, chk_eq (by simp [whole48, r14_Flows]; omega)]))
abbrev l_VGaps : Ens := [(13, e_alive14), (18, e_vGap)]
theorem ev_VfiveGaps (a b c : Hd) (m n : Int) : evalF (envOf l_VGaps) tb 1 Tryd.f7 [cHd.enc a, cHd.enc b, cHd.enc c, cI.enc m, cI.enc n] =
    bif (vGap a m b == 0) == (b.seq == w32 (a.seq + w32 m)) then
      (bif w32 (w32 (w32 (vGap a m b + vGap b n c) + w32 m) + w32 n) == vGap a 0 c then some (B (vGap a m ⟨0, 0, 0, w32 (a.seq + w32 m), 0, 0, 0⟩ == 0)) else some (B false)) else some (B false) := by kernel_rfl
theorem w32_mod (n : Int) : w32 n = n % 4294967296 := by
  unfold w32 IntKind.wrap
  simp [IntKind.signed, IntKind.bits]
theorem law_VfiveGaps (a b c : Hd) (m n : Int) (_ : HdIn a) (hb : HdIn b) (_ : HdIn c) (_ : inI m) (_ : inI n) : Go.Ev.Spec Tryd.prog gl 7 [cHd.enc a, cHd.enc b, cHd.enc c, cI.enc m, cI.enc n] (B true) :=
  sp (.cons ok_alive14 (.cons ok_vGap .nil)) Tryd.func7 1 ((ev_VfiveGaps a b c m n).trans (by
    obtain ⟨_, _, _, ⟨b1, b2⟩, _⟩ := hb
    simp only [vGap, w32_mod]
    have e1 : (((b.seq - a.seq) % 4294967296 - m % 4294967296) % 4294967296 == 0) = (b.seq == (a.seq + m % 4294967296) % 4294967296) := by
      rw [Bool.eq_iff_iff, beq_iff_eq, beq_iff_eq]; omega
    rw [e1]
    simp only [beq_self_eq_true, cond_true]
    have e2 : (((((b.seq - a.seq) % 4294967296 - m % 4294967296) % 4294967296 + ((c.seq - b.seq) % 4294967296 - n % 4294967296) % 4294967296) % 4294967296 + m % 4294967296) % 4294967296 + n % 4294967296) % 4294967296 = ((c.seq - a.seq) % 4294967296 - 0 % 4294967296) % 4294967296 := by omega
    rw [e2]
    simp only [beq_self_eq_true, cond_true]
    have e3 : (((a.seq + m % 4294967296) % 4294967296 - a.seq) % 4294967296 - m % 4294967296) % 4294967296 = 0 := by omega
    rw [e3]
    rfl))
end Go.Proofs.YtbjpkbolmpcmfaaDoor
