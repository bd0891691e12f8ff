/- The reference's functions: keys, prefixes, flows. -/
import Derived.Test.YtadmfmbpojcnpaaDoorFj
namespace Go.Cb
open Go.Ev
/-- The bit i of two halves, the greatest one first. -/
def bitC {α : Type} (k : Int → α) (z : α) (hi lo i : Int) : α :=
  bif decide (i < 64) then (bif decide (0 ≤ w64 (i64 (63 - i))) then k ((shr64 hi (w64 (i64 (63 - i)))).tmod 2) else z)
  else (bif decide (0 ≤ w64 (i64 (127 - i))) then k ((shr64 lo (w64 (i64 (127 - i)))).tmod 2) else z)
def bitOf (hi lo : Int) (i : Nat) : Int := bif decide (i < 64) then (hi.fdiv (2 ^ (63 - i))).tmod 2 else (lo.fdiv (2 ^ (127 - i))).tmod 2
theorem w64_of {n : Int} (h : 0 ≤ n) (h2 : n ≤ 18446744073709551615) : w64 n = n := by
  unfold w64 IntKind.wrap
  simp only [IntKind.bits, IntKind.signed]
  simp
  omega
theorem shr64_nat (a : Int) {n : Nat} (h : n ≤ 64) : shr64 a n = a.fdiv (2 ^ n) := by
  unfold shr64
  rw [Int.toNat_natCast, Nat.min_eq_left h]
theorem bitC_eq {α : Type} (k : Int → α) (z : α) (hi lo : Int) {i : Nat} (h : i < 128) : bitC k z hi lo i = k (bitOf hi lo i) := by
  unfold bitC bitOf
  by_cases h6 : i < 64
  · rw [show decide ((i : Int) < 64) = true by simp; omega, show decide (i < 64) = true by simp; omega]
    rw [i64_in (by omega) (by omega), show (63 - (i : Int)) = ((63 - i : Nat) : Int) by omega, w64_of (by omega) (by omega), shr64_nat _ (by omega)]
    rw [show decide ((0 : Int) ≤ ((63 - i : Nat) : Int)) = true by simp]
    rfl
  · rw [show decide ((i : Int) < 64) = false by simp; omega, show decide (i < 64) = false by simp; omega]
    simp only [cond_false]
    rw [i64_in (by omega) (by omega), show (127 - (i : Int)) = ((127 - i : Nat) : Int) by omega, w64_of (by omega) (by omega), shr64_nat _ (by omega)]
    rw [show decide ((0 : Int) ≤ ((127 - i : Nat) : Int)) = true by simp]
    rfl
/-- No bit stands from here on, behind the length. -/
def noneFrom (hi lo len : Int) : (n i : Nat) → Bool
  | 0, _ => true
  | n + 1, i => bif decide ((i : Int) ≥ len) then (bif bitOf hi lo i == 1 then false else noneFrom hi lo len n (i + 1)) else noneFrom hi lo len n (i + 1)
def lettersC {α : Type} (k : Bool → α) (a : Ky) : α :=
  bif a.kind == 3 then (bif !pathRight a.path then k false else bif (((pathL a.path).length : Int) != a.len) then k false else bif (a.hi != 0) then k false else bif (a.lo != 0) then k false else k true)
  else bif key_Width a.kind == 0 then k false else bif decide (a.len < 0) then k false else bif decide (a.len > key_Width a.kind) then k false else bif !(a.path.toList == noT.toList) then k false
  else k (noneFrom a.hi a.lo a.len 128 0)
def letters (a : Ky) : Bool := lettersC id a
theorem lettersC_eq {α : Type} (k : Bool → α) (a : Ky) : lettersC k a = k (letters a) := by
  unfold letters lettersC
  simp only [Bool.cond_eq_ite, id]
  repeat (first | rfl | split)
end Go.Cb
namespace Go.Proofs.YtadmfmbpojcnpaaDoor
open Go.Ev Go.Cb
abbrev e_Bit : Fe := fn3C cU cU cI (fun _ _ i => decide (0 ≤ i) && decide (i < 128)) fun hi lo i => U (bitOf hi lo i.toNat)
theorem ok_Bit : En 50 e_Bit :=
  entry3C (callable Tryd.func50 (by kernel_rfl)) fun hi lo i h => sp .nil Tryd.func50 1
    (Eq.trans (b := bitC (fun x => some (U x)) none hi lo i) (by kernel_rfl) (by
      simp only [Bool.and_eq_true, decide_eq_true_eq] at h
      obtain ⟨n, rfl⟩ : ∃ n : Nat, i = n := ⟨i.toNat, by omega⟩
      rw [bitC_eq _ _ _ _ (by omega), Int.toNat_natCast]))
abbrev l_Letters : Ens := [(49, e_split), (43, e_key_Width), (50, e_Bit)]
noncomputable abbrev lpK7 (F : Nat) (k : Ky) (n m : Nat) (g : Nat → List D) (i : Int) : Option D :=
  lp (envOf l_Letters) tb F Tryd.f41 [cKy.enc k] 0 n [(6, .sl 1 m g (.tok (hd 10 6))), (7, I i)]
abbrev noK7 : D := .tup [.sl 1 0 (fun _ => []) .none, B false]
theorem lp_Letters_step (F : Nat) (k : Ky) (n m : Nat) (g : Nat → List D) (i : Nat) : lpK7 F k (n + 1) m g i =
    let one : Bool := bitOf k.hi k.lo (i : Int).toNat == 1
    let next (m : Nat) (g : Nat → List D) : Option D := lpK7 F k n m g (i64 (i + 1))
    let push (m : Nat) (g : Nat → List D) (x : ByteArray) (K : Nat → (Nat → List D) → Option D) : Option D := bif decide ((m + 1) * 16 ≤ 140737488355328 ∧ m + 1 ≤ 9223372036854775807) then K (m + 1) (pushG m g (T x)) else none
    let c3 (m : Nat) (g : Nat → List D) : Option D := bif decide ((i : Int) < k.len) then (bif !one then push m g ⟨#[48]⟩ next else next m g) else next m g
    let c2 : Option D := bif decide ((i : Int) < k.len) then (bif one then push m g ⟨#[49]⟩ c3 else c3 m g) else c3 m g
    bif decide ((i : Int) < 128) then (bif true && (true && (true && (decide (0 ≤ (i : Int)) && decide ((i : Int) < 128)))) then
      (bif decide ((i : Int) ≥ k.len) then (bif one then some noK7 else c2) else c2) else none) else some (.tup [.sl 1 m g .none, B true]) := by kernel_rfl
abbrev ansK7 (b : Bool) : D := .tup [.no, B b]
theorem KR.any {K : Nat → Nat → Prop} {w : World} {d : D} {b : Bool} {r : Value} (h : KR K w (.tup [d, B b]) r) : KR K w (ansK7 b) r := h.fst fun {r} _ => .no r
theorem lp_Letters (F : Nat) (k : Ky) : ∀ (n m : Nat) (g : Nat → List D) (i : Nat), i ≤ 128 → m ≤ i → 128 - i < n →
    ∃ d, lpK7 F k n m g i = some d ∧ ∀ {K w r}, KR K w d r → KR K w (ansK7 (noneFrom k.hi k.lo k.len (128 - i) i)) r
  | 0, _, _, _, _, _, h => by omega
  | n + 1, m, g, i, hi, hm, hn => by
    rw [lp_Letters_step]
    by_cases hlt : i < 128
    · have i1 : i64 ((i : Int) + 1) = ((i + 1 : Nat) : Int) := i64_succ (by omega)
      have m8 : decide ((m + 1) * 16 ≤ 140737488355328 ∧ m + 1 ≤ 9223372036854775807) = true := by simp; omega
      have ih := fun m g hm => lp_Letters F k n m g (i + 1) (by omega) hm (by omega)
      rw [show 128 - i = (128 - (i + 1)) + 1 by omega]
      simp only [noneFrom, i1, Int.toNat_natCast, m8, cond_true, show decide ((i : Int) < 128) = true by simp; omega, show decide ((0 : Int) ≤ i) = true by simp, Bool.and_self]
      have hge : decide ((i : Int) ≥ k.len) = !decide ((i : Int) < k.len) := by by_cases h : (i : Int) < k.len <;> simp [h] <;> omega
      rw [hge]
      cases bitOf k.hi k.lo i == 1 <;> cases decide ((i : Int) < k.len) <;> simp only [Bool.not_true, Bool.not_false, cond_true, cond_false]
      · exact ih _ _ (by omega)
      · exact ih _ _ (by omega)
      · exact ⟨_, rfl, fun h => KR.any h⟩
      · exact ih _ _ (by omega)
    · rw [show decide ((i : Int) < 128) = false by simp; omega, show 128 - i = 0 by omega]
      exact ⟨_, rfl, fun h => KR.any h⟩
theorem st_Letters (F : Nat) (k : Ky) : evalF (envOf l_Letters) tb F Tryd.f41 [cKy.enc k] =
    bif k.kind == 3 then (bif !pathRight k.path then some noK7 else bif (((pathL k.path).length : Int) != k.len) then some noK7 else bif (k.hi != 0) then some noK7 else bif (k.lo != 0) then some noK7 else some (.tup [cTs.enc (pathL k.path), B true]))
    else bif key_Width k.kind == 0 then some noK7 else bif decide (k.len < 0) then some noK7 else bif decide (k.len > key_Width k.kind) then some noK7 else bif !(k.path.toList == noT.toList) then some noK7
    else lpK7 F k F 0 (fun _ => []) 0 := by kernel_rfl
abbrev e_Letters : Fe := fn1 cKy fun k => ansK7 (letters k)
theorem ok_Letters : En 41 e_Letters :=
  entry1 (callable Tryd.func41 (by kernel_rfl)) fun k => by
    obtain ⟨d, h1, h2⟩ := lp_Letters 129 k 129 0 (fun _ => []) 0 (by omega) (by omega) (by omega)
    have key : ∃ d, evalF (envOf l_Letters) tb 129 Tryd.f41 [cKy.enc k] = some d ∧ ∀ {K w r}, KR K w d r → KR K w (ansK7 (letters k)) r := by
      rw [st_Letters]
      unfold letters lettersC
      have h1' : lpK7 129 k 129 0 (fun _ => []) 0 = some d := h1
      rw [h1']
      simp only [Bool.cond_eq_ite, id]
      repeat (first | exact ⟨_, rfl, fun h => KR.any h⟩ | exact ⟨_, rfl, fun h => h2 h⟩ | split)
    obtain ⟨d, h1, h2⟩ := key
    exact .res h2 (sp (.cons ok_r5_Split (.cons ok_r7_Width (.cons ok_Bit .nil))) Tryd.func41 129 h1)
abbrev e_r7_Right : Fe := fn1 cKy fun k => B (letters k)
theorem ok_r7_Right : En 32 e_r7_Right :=
  entry1 (callable Tryd.func32 (by kernel_rfl)) fun k => sp (.cons ok_Letters .nil) Tryd.func32 1 (by kernel_rfl)
end Go.Proofs.YtadmfmbpojcnpaaDoor
