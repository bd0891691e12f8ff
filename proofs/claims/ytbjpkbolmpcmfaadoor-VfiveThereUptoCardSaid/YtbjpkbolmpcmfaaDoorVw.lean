/- What is read, written again, is the same bytes, but for those that say nothing. -/
import Derived.Test.YtbjpkbolmpcmfaaDoorVu
namespace Go.Cb
open Go.Ev Go.Proofs.YtbjpkbolmpcmfaaDoor
theorem be_ext {a b : List Int} (ha : ∀ x ∈ a, byteIn x) (hb : ∀ x ∈ b, byteIn x) {o p : Nat} : ∀ k, be a o k = be b p k → ∀ j, j < k → a.getD (o + j) 0 = b.getD (p + j) 0
  | 0, _, j, h => by omega
  | k + 1, e, j, h => by
    have h1 := getD_in ha (o + k)
    have h2 := getD_in hb (p + k)
    simp only [be] at e
    by_cases hj : j = k
    · subst hj; omega
    · exact be_ext ha hb k (by omega) j (by omega)
theorem w16_range (n : Int) : u16In (w16 n) := by
  unfold w16 IntKind.wrap u16In
  simp [IntKind.signed, IntKind.bits]
  omega
theorem at_range (b : List Int) (f s : Int) : u32In (r14_At b f s) := by
  have h := atN_range b f.toNat s.toNat
  exact ⟨h.1, by show atN _ _ _ ≤ _; omega⟩
theorem flow_in {c : List Int} (hc : ∀ x ∈ c, byteIn x) : FwIn (r14_flow c) :=
  ⟨at_range _ _ _, at_range _ _ _, at_range _ _ _, w16_range _, w16_range _, at_range _ _ _, at_range _ _ _, at_range _ _ _, at_range _ _ _, w16_range _, w16_range _, getD_in hc _, getD_in hc _, getD_in hc _, w16_range _, w16_range _, getD_in hc _, getD_in hc _⟩
theorem head_in {b : List Int} (hb : ∀ x ∈ b, byteIn x) : HdIn (r14_Head b) :=
  ⟨at_range _ _ _, at_range _ _ _, at_range _ _ _, at_range _ _ _, getD_in hb _, getD_in hb _, w16_range _⟩
theorem flow_idle {f : Fw} {r : List Int} : be (flowB f ++ r) 36 1 = 0 ∧ be (flowB f ++ r) 46 2 = 0 := by
  rw [flowB_flat]
  constructor
  · rw [show (36 : Nat) = 4 + (4 + (4 + (2 + (2 + (4 + (4 + (4 + (4 + (2 + (2 + (0))))))))))) from rfl, be_skip, be_skip, be_skip, be_skip, be_skip, be_skip, be_skip, be_skip, be_skip, be_skip, be_skip]
    exact be_here (by decide) (by decide) (by decide)
  · rw [show (46 : Nat) = 4 + (4 + (4 + (2 + (2 + (4 + (4 + (4 + (4 + (2 + (2 + (1 + (1 + (1 + (1 + (2 + (2 + (1 + (1 + (0))))))))))))))))))) from rfl, be_skip, be_skip, be_skip, be_skip, be_skip, be_skip, be_skip, be_skip, be_skip, be_skip, be_skip, be_skip, be_skip, be_skip, be_skip, be_skip, be_skip, be_skip, be_skip]
    exact be_here (by decide) (by decide) (by decide)
theorem flow_same {c r : List Int} (hc : ∀ x ∈ c, byteIn x) (hr : ∀ x ∈ flowB (r14_flow c) ++ r, byteIn x) (p : Nat) (h : p < 48) :
    (flowB (r14_flow c) ++ r).getD p 0 = if p = 36 ∨ 46 ≤ p then 0 else c.getD p 0 := by
  have hf := flow_in hc
  rcases (by omega : (0 ≤ p ∧ p < 4) ∨ (4 ≤ p ∧ p < 8) ∨ (8 ≤ p ∧ p < 12) ∨ (12 ≤ p ∧ p < 14) ∨ (14 ≤ p ∧ p < 16) ∨ (16 ≤ p ∧ p < 20) ∨ (20 ≤ p ∧ p < 24) ∨ (24 ≤ p ∧ p < 28) ∨ (28 ≤ p ∧ p < 32) ∨ (32 ≤ p ∧ p < 34) ∨ (34 ≤ p ∧ p < 36) ∨ (36 ≤ p ∧ p < 37) ∨ (37 ≤ p ∧ p < 38) ∨ (38 ≤ p ∧ p < 39) ∨ (39 ≤ p ∧ p < 40) ∨ (40 ≤ p ∧ p < 42) ∨ (42 ≤ p ∧ p < 44) ∨ (44 ≤ p ∧ p < 45) ∨ (45 ≤ p ∧ p < 46) ∨ (46 ≤ p ∧ p < 48)) with hp | hp | hp | hp | hp | hp | hp | hp | hp | hp | hp | hp | hp | hp | hp | hp | hp | hp | hp | hp
  · rw [if_neg (by omega)]
    have e : be (flowB (r14_flow c) ++ r) 0 4 = be c 0 4 := (fb_src hf).trans (atN_be hc 0 4 (by omega))
    have := be_ext hr hc _ e (p - 0) (by omega)
    rwa [show 0 + (p - 0) = p by omega] at this
  · rw [if_neg (by omega)]
    have e : be (flowB (r14_flow c) ++ r) 4 4 = be c 4 4 := (fb_dst hf).trans (atN_be hc 4 4 (by omega))
    have := be_ext hr hc _ e (p - 4) (by omega)
    rwa [show 4 + (p - 4) = p by omega] at this
  · rw [if_neg (by omega)]
    have e : be (flowB (r14_flow c) ++ r) 8 4 = be c 8 4 := (fb_next hf).trans (atN_be hc 8 4 (by omega))
    have := be_ext hr hc _ e (p - 8) (by omega)
    rwa [show 8 + (p - 8) = p by omega] at this
  · rw [if_neg (by omega)]
    have e : be (flowB (r14_flow c) ++ r) 12 2 = be c 12 2 := (fb_inp hf).trans ((congrArg w16 (atN_be hc 12 2 (by omega))).trans (be2 hc 12))
    have := be_ext hr hc _ e (p - 12) (by omega)
    rwa [show 12 + (p - 12) = p by omega] at this
  · rw [if_neg (by omega)]
    have e : be (flowB (r14_flow c) ++ r) 14 2 = be c 14 2 := (fb_out hf).trans ((congrArg w16 (atN_be hc 14 2 (by omega))).trans (be2 hc 14))
    have := be_ext hr hc _ e (p - 14) (by omega)
    rwa [show 14 + (p - 14) = p by omega] at this
  · rw [if_neg (by omega)]
    have e : be (flowB (r14_flow c) ++ r) 16 4 = be c 16 4 := (fb_packets hf).trans (atN_be hc 16 4 (by omega))
    have := be_ext hr hc _ e (p - 16) (by omega)
    rwa [show 16 + (p - 16) = p by omega] at this
  · rw [if_neg (by omega)]
    have e : be (flowB (r14_flow c) ++ r) 20 4 = be c 20 4 := (fb_bytes hf).trans (atN_be hc 20 4 (by omega))
    have := be_ext hr hc _ e (p - 20) (by omega)
    rwa [show 20 + (p - 20) = p by omega] at this
  · rw [if_neg (by omega)]
    have e : be (flowB (r14_flow c) ++ r) 24 4 = be c 24 4 := (fb_first hf).trans (atN_be hc 24 4 (by omega))
    have := be_ext hr hc _ e (p - 24) (by omega)
    rwa [show 24 + (p - 24) = p by omega] at this
  · rw [if_neg (by omega)]
    have e : be (flowB (r14_flow c) ++ r) 28 4 = be c 28 4 := (fb_last hf).trans (atN_be hc 28 4 (by omega))
    have := be_ext hr hc _ e (p - 28) (by omega)
    rwa [show 28 + (p - 28) = p by omega] at this
  · rw [if_neg (by omega)]
    have e : be (flowB (r14_flow c) ++ r) 32 2 = be c 32 2 := (fb_srcPort hf).trans ((congrArg w16 (atN_be hc 32 2 (by omega))).trans (be2 hc 32))
    have := be_ext hr hc _ e (p - 32) (by omega)
    rwa [show 32 + (p - 32) = p by omega] at this
  · rw [if_neg (by omega)]
    have e : be (flowB (r14_flow c) ++ r) 34 2 = be c 34 2 := (fb_dstPort hf).trans ((congrArg w16 (atN_be hc 34 2 (by omega))).trans (be2 hc 34))
    have := be_ext hr hc _ e (p - 34) (by omega)
    rwa [show 34 + (p - 34) = p by omega] at this
  · rw [if_pos (by omega)]
    have e : be (flowB (r14_flow c) ++ r) 36 1 = be (List.replicate 2 0) 0 1 := flow_idle.1
    have := be_ext hr (by intro x hx; have := List.eq_of_mem_replicate hx; subst this; exact ⟨by decide, by decide⟩) _ e (p - 36) (by omega)
    rw [show 36 + (p - 36) = p by omega] at this
    rw [this]
    rcases (by omega : p - 36 = 0 ∨ p - 36 = 1) with h0 | h0 <;> rw [h0] <;> rfl
  · rw [if_neg (by omega)]
    have e : be (flowB (r14_flow c) ++ r) 37 1 = be c 37 1 := (fb_flags hf).trans (getD_be)
    have := be_ext hr hc _ e (p - 37) (by omega)
    rwa [show 37 + (p - 37) = p by omega] at this
  · rw [if_neg (by omega)]
    have e : be (flowB (r14_flow c) ++ r) 38 1 = be c 38 1 := (fb_proto hf).trans (getD_be)
    have := be_ext hr hc _ e (p - 38) (by omega)
    rwa [show 38 + (p - 38) = p by omega] at this
  · rw [if_neg (by omega)]
    have e : be (flowB (r14_flow c) ++ r) 39 1 = be c 39 1 := (fb_tos hf).trans (getD_be)
    have := be_ext hr hc _ e (p - 39) (by omega)
    rwa [show 39 + (p - 39) = p by omega] at this
  · rw [if_neg (by omega)]
    have e : be (flowB (r14_flow c) ++ r) 40 2 = be c 40 2 := (fb_srcAs hf).trans ((congrArg w16 (atN_be hc 40 2 (by omega))).trans (be2 hc 40))
    have := be_ext hr hc _ e (p - 40) (by omega)
    rwa [show 40 + (p - 40) = p by omega] at this
  · rw [if_neg (by omega)]
    have e : be (flowB (r14_flow c) ++ r) 42 2 = be c 42 2 := (fb_dstAs hf).trans ((congrArg w16 (atN_be hc 42 2 (by omega))).trans (be2 hc 42))
    have := be_ext hr hc _ e (p - 42) (by omega)
    rwa [show 42 + (p - 42) = p by omega] at this
  · rw [if_neg (by omega)]
    have e : be (flowB (r14_flow c) ++ r) 44 1 = be c 44 1 := (fb_srcMask hf).trans (getD_be)
    have := be_ext hr hc _ e (p - 44) (by omega)
    rwa [show 44 + (p - 44) = p by omega] at this
  · rw [if_neg (by omega)]
    have e : be (flowB (r14_flow c) ++ r) 45 1 = be c 45 1 := (fb_dstMask hf).trans (getD_be)
    have := be_ext hr hc _ e (p - 45) (by omega)
    rwa [show 45 + (p - 45) = p by omega] at this
  · rw [if_pos (by omega)]
    have e : be (flowB (r14_flow c) ++ r) 46 2 = be (List.replicate 2 0) 0 2 := flow_idle.2
    have := be_ext hr (by intro x hx; have := List.eq_of_mem_replicate hx; subst this; exact ⟨by decide, by decide⟩) _ e (p - 46) (by omega)
    rw [show 46 + (p - 46) = p by omega] at this
    rw [this]
    rcases (by omega : p - 46 = 0 ∨ p - 46 = 1) with h0 | h0 <;> rw [h0] <;> rfl
theorem head_same {b r : List Int} {n : Int} (hb : ∀ x ∈ b, byteIn x) (hr : ∀ x ∈ headB (r14_Head b) n ++ r, byteIn x) (e0 : be b 0 2 = 5) (en : be b 2 2 = n) (h0 : 0 ≤ n) (h1 : n < 65536) (p : Nat) (h : p < 24) :
    (headB (r14_Head b) n ++ r).getD p 0 = b.getD p 0 := by
  have hh := head_in hb
  rcases (by omega : (0 ≤ p ∧ p < 2) ∨ (2 ≤ p ∧ p < 4) ∨ (4 ≤ p ∧ p < 8) ∨ (8 ≤ p ∧ p < 12) ∨ (12 ≤ p ∧ p < 16) ∨ (16 ≤ p ∧ p < 20) ∨ (20 ≤ p ∧ p < 21) ∨ (21 ≤ p ∧ p < 22) ∨ (22 ≤ p ∧ p < 24)) with hp | hp | hp | hp | hp | hp | hp | hp | hp
  · have e : be (headB (r14_Head b) n ++ r) 0 2 = be b 0 2 := hb_five.trans e0.symm
    have := be_ext hr hb _ e (p - 0) (by omega)
    rwa [show 0 + (p - 0) = p by omega] at this
  · have e : be (headB (r14_Head b) n ++ r) 2 2 = be b 2 2 := (hb_n h0 h1).trans en.symm
    have := be_ext hr hb _ e (p - 2) (by omega)
    rwa [show 2 + (p - 2) = p by omega] at this
  · have e : be (headB (r14_Head b) n ++ r) 4 4 = be b 4 4 := (hb_up hh).trans (atN_be hb 4 4 (by omega))
    have := be_ext hr hb _ e (p - 4) (by omega)
    rwa [show 4 + (p - 4) = p by omega] at this
  · have e : be (headB (r14_Head b) n ++ r) 8 4 = be b 8 4 := (hb_secs hh).trans (atN_be hb 8 4 (by omega))
    have := be_ext hr hb _ e (p - 8) (by omega)
    rwa [show 8 + (p - 8) = p by omega] at this
  · have e : be (headB (r14_Head b) n ++ r) 12 4 = be b 12 4 := (hb_nanos hh).trans (atN_be hb 12 4 (by omega))
    have := be_ext hr hb _ e (p - 12) (by omega)
    rwa [show 12 + (p - 12) = p by omega] at this
  · have e : be (headB (r14_Head b) n ++ r) 16 4 = be b 16 4 := (hb_seq hh).trans (atN_be hb 16 4 (by omega))
    have := be_ext hr hb _ e (p - 16) (by omega)
    rwa [show 16 + (p - 16) = p by omega] at this
  · have e : be (headB (r14_Head b) n ++ r) 20 1 = be b 20 1 := (hb_engine hh).trans getD_be
    have := be_ext hr hb _ e (p - 20) (by omega)
    rwa [show 20 + (p - 20) = p by omega] at this
  · have e : be (headB (r14_Head b) n ++ r) 21 1 = be b 21 1 := (hb_ident hh).trans getD_be
    have := be_ext hr hb _ e (p - 21) (by omega)
    rwa [show 21 + (p - 21) = p by omega] at this
  · have e : be (headB (r14_Head b) n ++ r) 22 2 = be b 22 2 := (hb_sampling hh).trans ((congrArg w16 (atN_be hb 22 2 (by omega))).trans (be2 hb 22))
    have := be_ext hr hb _ e (p - 22) (by omega)
    rwa [show 22 + (p - 22) = p by omega] at this
/-- The bytes that say nothing. -/
def idle (i : Nat) : Prop := 24 ≤ i ∧ ((i - 24) % 48 = 36 ∨ 46 ≤ (i - 24) % 48)
instance (i : Nat) : Decidable (idle i) := by unfold idle; infer_instance
theorem there {b : List Int} (hb : ∀ x ∈ b, byteIn x) (h : r14_Fault b = 0) : (msg (r14_Head b) (r14_Flows b)).length = b.length ∧ (r14_Flows b).length = (r14_n b).toNat ∧ ∀ i, i < b.length →
    (msg (r14_Head b) (r14_Flows b)).getD i 0 = if idle i then 0 else b.getD i 0 := by
  obtain ⟨w1, w2, w3, w4, w5⟩ := whole_of h
  have hL : (r14_Flows b).length = (r14_n b).toNat := by simp [r14_Flows]; omega
  have hlen : (msg (r14_Head b) (r14_Flows b)).length = b.length := by rw [msg_len, hL]; omega
  refine ⟨hlen, hL, fun i hi => ?_⟩
  by_cases h24 : i < 24
  · rw [if_neg (by unfold idle; omega)]
    exact head_same hb msg_in ((atN_be hb 0 2 (by omega)).symm.trans w2) (by rw [← n_be hb, hL]; omega) (by omega) (by omega) i h24
  · have hq : (i - 24) / 48 < (r14_Flows b).length := by omega
    generalize hqq : (i - 24) / 48 = q at hq
    have hd : (msg (r14_Head b) (r14_Flows b)).drop (24 + 48 * q) = flowB (r14_Flows b)[q] ++ flowsB ((r14_Flows b).drop (q + 1)) := by
      rw [← flowsB_drop _ q hq, List.drop_append, headB_len, List.drop_eq_nil_of_le (by rw [headB_len]; omega), List.nil_append, show 24 + 48 * q - 24 = 48 * q by omega]
    have hf : (r14_Flows b)[q] = r14_flow (b.drop (24 + 48 * q)) := by simp [r14_Flows]
    rw [hf] at hd
    have hc : ∀ x ∈ b.drop (24 + 48 * q), byteIn x := fun x hx => hb x (List.mem_of_mem_drop hx)
    have hr : ∀ x ∈ flowB (r14_flow (b.drop (24 + 48 * q))) ++ flowsB ((r14_Flows b).drop (q + 1)), byteIn x := fun x hx => by
      rw [← hd] at hx
      exact msg_in x (List.mem_of_mem_drop hx)
    have := flow_same hc hr ((i - 24) % 48) (by omega)
    rw [← hd] at this
    have e : 24 + 48 * q + (i - 24) % 48 = i := by omega
    simp only [List.getD_eq_getElem?_getD, List.getElem?_drop, e] at this ⊢
    rw [this]
    congr 1
    unfold idle
    simp only [eq_iff_iff]
    omega
end Go.Cb
