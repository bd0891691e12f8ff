/- What is written is read again: plain laws of bytes. -/
import Derived.Test.YtbjpkbolmpcmfaaDoorVs
namespace Go.Cb
open Go.Ev Go.Proofs.YtbjpkbolmpcmfaaDoor
def FwIn (f : Fw) : Prop := u32In f.src ∧ u32In f.dst ∧ u32In f.next ∧ u16In f.inp ∧ u16In f.out ∧ u32In f.packets ∧ u32In f.bytes ∧ u32In f.first ∧ u32In f.last ∧ u16In f.srcPort ∧ u16In f.dstPort ∧ u8In f.flags ∧ u8In f.proto ∧ u8In f.tos ∧ u16In f.srcAs ∧ u16In f.dstAs ∧ u8In f.srcMask ∧ u8In f.dstMask
theorem w8_mod (n : Int) : w8 n = n % 256 := by
  unfold w8 IntKind.wrap
  simp [IntKind.signed, IntKind.bits]
theorem numB_in (n : Int) : ∀ k, ∀ x ∈ numB n k, byteIn x
  | 0, x, h => by simp [numB] at h
  | k + 1, x, h => by
    simp only [numB, List.mem_cons] at h
    rcases h with rfl | h
    · rw [w8_mod]; exact ⟨by omega, by omega⟩
    · exact numB_in n k x h
theorem numsB_in (L : List Int) (k : Nat) : ∀ x ∈ numsB L k, byteIn x := by
  intro x h
  obtain ⟨a, _, h⟩ := List.mem_flatMap.1 h
  exact numB_in _ k x h
theorem flowB_in (f : Fw) : ∀ x ∈ flowB f, byteIn x := by
  intro x h
  simp only [flowB, List.mem_append] at h
  rcases h with h | h | h | h | h | h | h | h <;> exact numsB_in _ _ x h
theorem headB_in (h : Hd) (n : Int) : ∀ x ∈ headB h n, byteIn x := by
  intro x hx
  simp only [headB, List.mem_append] at hx
  rcases hx with hx | hx | hx | hx <;> exact numsB_in _ _ x hx
theorem flowsB_in (L : List Fw) : ∀ x ∈ flowsB L, byteIn x := by
  intro x h
  obtain ⟨f, _, h⟩ := List.mem_flatMap.1 h
  exact flowB_in f x h
/-! Numbers read out of what is written. -/
theorem be_left {a b : List Int} {o : Nat} : ∀ c, o + c ≤ a.length → be (a ++ b) o c = be a o c
  | 0, _ => rfl
  | c + 1, h => by
    simp only [be]
    rw [be_left c (by omega)]
    simp only [List.getD_eq_getElem?_getD]
    rw [List.getElem?_append_left (by omega)]
theorem be_right {a b : List Int} {o : Nat} : ∀ c, be (a ++ b) (a.length + o) c = be b o c
  | 0 => rfl
  | c + 1 => by
    simp only [be]
    rw [be_right c]
    simp only [List.getD_eq_getElem?_getD]
    rw [List.getElem?_append_right (by omega), show a.length + o + c - a.length = o + c by omega]
theorem be_cons (x : Int) (b : List Int) (o : Nat) : ∀ c, be (x :: b) (o + 1) c = be b o c
  | 0 => rfl
  | c + 1 => by
    simp only [be]
    rw [be_cons x b o c, show o + 1 + c = (o + c) + 1 by omega]
    rfl
theorem be_front (x : Int) (b : List Int) : ∀ c, be (x :: b) 0 (c + 1) = 256 ^ c * x + be b 0 c
  | 0 => by simp [be]
  | c + 1 => by
    have h := be_front x b c
    show 256 * be (x :: b) 0 (c + 1) + (x :: b).getD (0 + (c + 1)) 0 = _
    rw [h, show (x :: b).getD (0 + (c + 1)) 0 = b.getD (0 + c) 0 by rw [show 0 + (c + 1) = (0 + c) + 1 by omega]; rfl]
    show _ = 256 ^ (c + 1) * x + (256 * be b 0 c + b.getD (0 + c) 0)
    rw [Int.pow_succ, Int.mul_add, show (256 : Int) ^ c * 256 * x = 256 * (256 ^ c * x) by rw [Int.mul_comm (256 ^ c) 256, Int.mul_assoc]]
    omega
theorem two256 : ∀ k : Nat, (2 : Int) ^ (8 * k) = 256 ^ k
  | 0 => rfl
  | k + 1 => by rw [show 8 * (k + 1) = 8 * k + 8 by omega, Int.pow_add, two256 k, Int.pow_succ]; rfl
theorem fdiv_pos (n : Int) (k : Nat) : Int.fdiv n (256 ^ k) = n / 256 ^ k := by
  rw [Int.fdiv_eq_ediv_of_nonneg _ (Int.le_of_lt (Int.pow_pos (by decide)))]
theorem mod_mul (n : Int) {p : Int} (hp : 0 < p) : n % (p * 256) = p * (n / p % 256) + n % p := by
  have h1 := Int.mul_ediv_add_emod n p
  have h2 := Int.mul_ediv_add_emod (n / p) 256
  have h3 := Int.mul_ediv_add_emod n (p * 256)
  have h4 : n / (p * 256) = n / p / 256 := by rw [Int.ediv_ediv, if_neg (by omega)]; omega
  rw [h4] at h3
  have h5 : p * (n / p) = p * 256 * (n / p / 256) + p * (n / p % 256) := by
    rw [Int.mul_assoc, ← Int.mul_add, h2]
  omega
theorem be_num (n : Int) : ∀ (k : Nat) (r : List Int), be (numB n k ++ r) 0 k = n % 256 ^ k
  | 0, r => by simp [be, Int.emod_one]
  | k + 1, r => by
    have h := be_num n k r
    show be (w8 (Int.fdiv n (2 ^ (8 * k))) :: (numB n k ++ r)) 0 (k + 1) = _
    rw [be_front, h, w8_mod, two256, fdiv_pos, Int.pow_succ]
    have hp : (0 : Int) < 256 ^ k := Int.pow_pos (by decide)
    exact (mod_mul n hp).symm
theorem be_here {v : Int} {k : Nat} {r : List Int} (h : 0 ≤ v) (h2 : v < 256 ^ k) (h3 : v < 18446744073709551616) : be (numB (w64 v) k ++ r) 0 k = v := by
  rw [be_num, w64_of' h h3, Int.emod_eq_of_lt h h2]
theorem be_skip {v : Int} {k o c : Nat} {r : List Int} : be (numB v k ++ r) (k + o) c = be r o c := by
  have := be_right (a := numB v k) (b := r) (o := o) c
  rwa [numB_len] at this
theorem getD_be {b : List Int} {o : Nat} : b.getD o 0 = be b o 1 := by simp [be]
end Go.Cb
