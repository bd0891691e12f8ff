/- VfiveBack: the law's run. -/
import Derived.Test.YtbjpkbolmpcmfaaDoorVu
namespace Go.Proofs.YtbjpkbolmpcmfaaDoor
open Go.Ev Go.Cb
abbrev l_VBack : Ens := [(13, e_alive14), (8, e_Read), (17, e_Write), (15, e_sameFlows)]
theorem ev_VfiveBack (h : Hd) (L : List Fw) (cut more : Int) : evalF (envOf l_VBack) tb 1 Tryd.f5 [cHd.enc h, cFws.enc L, cI.enc cut, (cNum .u8).enc more] =
    let LL := roL sFw fw0 L
    let W := writeB h LL
    let C := roL sU8 0 W
    let v := 0 + W.length
    let G := pushD sU8 0 v (getE sU8 0 W) more
    let N := listS sU8 0 (v + 1) G
    let g : Nat → List D := fun i => sU8.enc (W.getD (0 + i) 0)
    let T := listS sU8 0 (cut.toNat - 0) g
    bif decide ((L.length : Int) < 1) then some (B true) else bif decide ((L.length : Int) > 30) then some (B true) else
    chk [okL sFw fw0 L && true, okL sU8 0 W && decide (C.length ≤ 4294967296)] (bif writeE LL != 0 then some (B false) else bif readE (rdr C) != 0 then some (B false) else bif !eqHd (readH (rdr C)) h then some (B false) else
      chk [okL sFw fw0 L && (okL sFw fw0 (readL (rdr C)) && decide (LL.length ≤ 4294967296))] (bif !sameL eqFw fw0 LL (roL sFw fw0 (readL (rdr C))) then some (B false) else bif (W.length : Int) != i64 (24 + i64 (48 * (L.length : Int))) then some (B false) else
        chk [decide (v * 1 ≤ 140737488355328 ∧ v ≤ 9223372036854775807), decide ((v + 1) * 1 ≤ 140737488355328 ∧ v + 1 ≤ 9223372036854775807), allS sU8 (v + 1) G && decide (N.length ≤ 4294967296)] (bif readE (rdr N) != 2 then some (B false) else
          bif decide (cut < 0) then some (B true) else bif decide (cut ≥ W.length) then some (B true) else
            chk [decide (0 ≤ cut) && decide (cut ≤ W.length), allS sU8 (cut.toNat - 0) g && decide (T.length ≤ 4294967296)] (some (B (readE (rdr T) == 8)))))) := by kernel_rfl
theorem pushD_all {A : Type} {c : Cs A} {z : A} {l : List A} {a : A} : allS c (0 + l.length + 1) (pushD c z (0 + l.length) (getE c z l) a) = true ∧ listS c z (0 + l.length + 1) (pushD c z (0 + l.length) (getE c z l) a) = l ++ [a] := by
  rw [Nat.zero_add, pushD_eq, len_push (l := l) (a := a)]
  exact ⟨allS_enc c z _, listS_enc c z _⟩
theorem listS_take {l : List Int} {k : Nat} (h : k ≤ l.length) : listS sU8 0 (k - 0) (fun i => sU8.enc (l.getD (0 + i) 0)) = l.take k := by
  unfold listS
  apply List.ext_getElem
  · simp; omega
  · intro i h1 h2
    simp at h1
    simp [decS_enc, List.getElem?_eq_getElem (show i < l.length by omega)]
theorem law_VfiveBack (h : Hd) (L : List Fw) (cut more : Int) (hh : HdIn h) (hL : L.length ≤ 1048576 ∧ ∀ f ∈ L, FwIn f) (_ : inI cut) (hm : byteIn more) :
    Go.Ev.Spec Tryd.prog gl 5 [cHd.enc h, cFws.enc L, cI.enc cut, (cNum .u8).enc more] (B true) :=
  sp (.cons ok_alive14 (.cons ok_Read (.cons ok_Write (.cons ok_sameFlows .nil)))) Tryd.func5 1 ((ev_VfiveBack h L cut more).trans (by
    simp only [listS_enc, allS_enc, Bool.true_and, pushD_all.1, pushD_all.2]
    cases h1 : decide ((L.length : Int) < 1) with
    | true => rfl
    | false =>
    cases h2 : decide ((L.length : Int) > 30) with
    | true => rfl
    | false =>
    have h1 : 1 ≤ L.length := by have : ¬ (L.length : Int) < 1 := by simpa using h1
                                 omega
    have h2 : L.length ≤ 30 := by have : ¬ (L.length : Int) > 30 := by simpa using h2
                                  omega
    have hw := msg_writeB (h := h) h1 h2
    have hlen := msg_len (h := h) (L := L)
    rw [hw]
    simp only [cond_false]
    rw [chk_eq (by simp [headB_len, flowsB_len]; omega), show writeE L = 0 by unfold writeE; rw [show ((L.length : Int) == 0) = false by rw [beq_eq_false_iff_ne]; omega, show decide ((L.length : Int) > 30) = false by simp; omega]; rfl,
      show readE (rdr (msg h L)) = 0 by rw [readE_eq msg_in]; exact msg_fault h1 h2, msg_head hh h1 h2, msg_flows hL.2 h1 h2, eqHd_refl, sameL_refl eqFw_refl]
    simp only [show ((0 : Int) != 0) = false by decide, cond_false, Bool.not_true]
    rw [chk_eq (by simp; omega), show (((msg h L).length : Int) != i64 (24 + i64 (48 * (L.length : Int)))) = false by
      rw [hlen, i64_in (n := 48 * (L.length : Int)) (by omega) (by omega), i64_in (by omega) (by omega)]
      simp]
    simp only [cond_false]
    rw [chk_eq (by simp [headB_len, flowsB_len]; omega), show readE (rdr (msg h L ++ [more])) = 2 by
      rw [readE_eq fun x hx => by
        rcases List.mem_append.1 hx with hx | hx
        · exact msg_in x hx
        · rw [List.mem_singleton] at hx; rw [hx]; exact hm]
      exact msg_long h1 h2 more hm]
    simp only [show ((2 : Int) != 2) = false by decide, cond_false]
    cases h3 : decide (cut < 0) with
    | true => rfl
    | false =>
    cases h4 : decide (cut ≥ ((msg h L).length : Int)) with
    | true => rfl
    | false =>
      have h3 : ¬ cut < 0 := by simpa using h3
      have h4 : ¬ cut ≥ ((msg h L).length : Int) := by simpa using h4
      have hk : cut.toNat < (msg h L).length := by omega
      rw [listS_take (by omega)]
      simp only [cond_false]
      rw [chk_eq (by
        intro c hc
        simp only [List.mem_cons, List.mem_nil_iff, or_false] at hc
        rcases hc with rfl | rfl
        · simp only [Bool.and_eq_true, decide_eq_true_eq]; exact ⟨by omega, by omega⟩
        · rw [allS_fn sU8 _ fun i => (msg h L).getD (0 + i) 0]
          simp only [List.length_take, Bool.true_and, decide_eq_true_eq]
          omega),
        show readE (rdr ((msg h L).take cut.toNat)) = 8 by
          rw [readE_eq fun x hx => msg_in x (List.mem_of_mem_take hx)]
          exact msg_short h1 h2 _ hk]
      rfl))
end Go.Proofs.YtbjpkbolmpcmfaaDoor
