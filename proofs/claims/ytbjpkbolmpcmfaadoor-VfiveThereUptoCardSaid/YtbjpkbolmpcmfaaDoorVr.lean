/- Records of what is read. -/
import Derived.Test.YtbjpkbolmpcmfaaDoorVq
namespace Go.Cb
open Go.Ev Go.Proofs.YtbjpkbolmpcmfaaDoor
theorem top_and (a : Nat) (h : a < 4294967296) : (BitVec.ofInt 64 ((a : Int) * 4294967296) &&& BitVec.ofInt 64 18446744069414584320).toNat = a * 4294967296 := by
  rw [show ((a : Int) * 4294967296) = ((a * 4294967296 : Nat) : Int) by omega, show (18446744069414584320 : Int) = ((4294967295 * 4294967296 : Nat) : Int) by decide, BitVec.ofInt_natCast, BitVec.ofInt_natCast, BitVec.toNat_and, BitVec.toNat_ofNat, BitVec.toNat_ofNat, Nat.mod_eq_of_lt (by omega), Nat.mod_eq_of_lt (by omega)]
  rw [show a * 4294967296 = a <<< 32 by rw [Nat.shiftLeft_eq], show 4294967295 * 4294967296 = 4294967295 <<< 32 by rw [Nat.shiftLeft_eq], ← Nat.shiftLeft_and_distrib]
  congr 1
  rw [show (4294967295 : Nat) = 2 ^ 32 - 1 by rfl, Nat.and_two_pow_sub_one_eq_mod]
  omega
def u32In (n : Int) : Prop := 0 ≤ n ∧ n ≤ 4294967295
theorem top32 {a : Int} (h : u32In a) : key_ofBits 1 32 ⟨a * 4294967296, 0⟩ = ⟨1, 32, a * 4294967296, 0, noT⟩ := by
  obtain ⟨h1, h2⟩ := h
  obtain ⟨n, rfl⟩ := Int.eq_ofNat_of_zero_le h1
  have hm : wide_Mask 32 = ⟨18446744069414584320, 0⟩ := by kernel_rfl
  unfold key_ofBits wide_Top
  rw [hm]
  simp only [wide_And]
  rw [top_and n (by omega)]
  have z : (BitVec.ofInt 64 0 &&& BitVec.ofInt 64 0).toNat = 0 := by decide
  rw [z, w64_of' (by omega) (by omega), w64_of' (by omega) (by omega)]
  simp
theorem key_Four_eq {a : Int} (h : u32In a) : key_Four a = ⟨1, 32, a * 4294967296, 0, noT⟩ := by
  unfold key_Four
  have hw : wide_Left (wide_Of (w64 a)) 96 = ⟨a * 4294967296, 0⟩ := by
    rw [w64_of' h.1 (by have := h.2; omega)]
    unfold wide_Left wide_LeftC wide_Of shl64
    simp only [show decide ((96 : Int) < 1) = false by decide, show decide ((96 : Int) ≥ 128) = false by decide, show decide ((96 : Int) ≥ 64) = true by decide, show i64 (96 - 64) = 32 by decide, show decide ((0 : Int) ≤ 32) = true by decide, cond_true, cond_false, id]
    rw [show a * 2 ^ (min (32 : Int).toNat 64) = a * 4294967296 by rfl, w64_of' (by have := h.1; omega) (by have := h.2; omega)]
  rw [hw, top32 h]
theorem four_eq {a : Int} (h : u32In a) : key_Four a = r7_Four a := by
  rw [key_Four_eq h]
  unfold r7_Four
  have := h.1; have := h.2
  rw [w64_of' (n := a) (by omega) (by omega), w64_of' (by omega) (by omega)]
theorem kyEq_refl (a : Ky) : kyEq a a = true := by simp [kyEq]
theorem right_four {a : Int} (h : u32In a) : flow_rightAddr (key_Four a) = true := by
  have hk := key_Four_eq h
  have hr : key_Right (key_Four a) = true := by
    have e : key_Right ⟨1, 32, a * 4294967296, 0, noT⟩ = kyEq ⟨1, 32, a * 4294967296, 0, noT⟩ (key_ofBits 1 32 ⟨a * 4294967296, 0⟩) := by kernel_rfl
    rw [hk, e, top32 h, kyEq_refl]
  have e : flow_rightAddr (key_Four a) = bif kyEq (key_Four a) k0 then true else bif (key_Four a).kind != 3 then (bif key_Right (key_Four a) then (key_Four a).len == key_Width (key_Four a).kind else false) else false := by kernel_rfl
  rw [e, hr, hk]
  have e1 : ((1 : Int) != 3) = true := by kernel_rfl
  have e2 : ((32 : Int) == key_Width 1) = true := by kernel_rfl
  rw [e1, e2]
  cases kyEq ⟨1, 32, a * 4294967296, 0, noT⟩ k0 <;> rfl
theorem right_rec {f : Fw} (h1 : u32In f.src) (h2 : u32In f.dst) : flow_Right (vRecord f) = true := by
  unfold flow_Right flow_RightC vRecord
  simp only [right_four h1, right_four h2, show flow_rightPath k0 = true by kernel_rfl, Bool.not_true, cond_false, id]
theorem rec_eq {f : Fw} (h1 : u32In f.src) (h2 : u32In f.dst) : vRecord f = r14_Record f := by
  unfold vRecord r14_Record
  rw [four_eq h1, four_eq h2]
theorem vRecs_all {L : List Fw} (h : ∀ f ∈ L, u32In f.src ∧ u32In f.dst) : vRecs L = L.map r14_Record := by
  unfold vRecs
  rw [List.filter_eq_self.2 fun r hr => by
    obtain ⟨f, hf, rfl⟩ := List.mem_map.1 hr
    exact right_rec (h f hf).1 (h f hf).2]
  exact List.map_congr_left fun f hf => rec_eq (h f hf).1 (h f hf).2
theorem flows_in (b : List Int) : ∀ f ∈ r14_Flows b, u32In f.src ∧ u32In f.dst := by
  intro f hf
  obtain ⟨i, _, rfl⟩ := List.mem_map.1 hf
  have h0 := atN_range (b.drop (24 + 48 * i)) 0 4
  have h1 := atN_range (b.drop (24 + 48 * i)) 4 4
  exact ⟨⟨h0.1, by show atN _ 0 4 ≤ _; omega⟩, ⟨h1.1, by show atN _ 4 4 ≤ _; omega⟩⟩
theorem recs_eq {b : List Int} (hb : ∀ x ∈ b, byteIn x) : vRecs (readL (rdr b)) = r14_Recs b := by
  unfold r14_Recs
  cases h : r14_Fault b != 0 with
  | true =>
    unfold readL
    rw [readE_eq hb, h]
    rfl
  | false =>
    have h : r14_Fault b = 0 := by simpa using h
    rw [readL_eq hb h, cond_false, vRecs_all (flows_in b)]
end Go.Cb
