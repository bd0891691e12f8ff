/- Numbers of 128 bits: sums, order; what stands in for the machine's sum. -/
import Derived.Test.YtflbjjpcjeinlaaGreatDoorGc
import Derived.Laws.Externs
namespace Go.Cb
open Go.Ev
def e_Add64 : Fe
  | [.v (.int .u64 x), .v (.int .u64 y), .v (.int .u64 c)] => some (decide (0 ≤ x) && (decide (0 ≤ y) && (c == 0 || c == 1)), .tup [U ((x + y + c) % 18446744073709551616), U ((x + y + c) / 18446744073709551616)])
  | _ => none
abbrev cIs : Cd (List Int) := (sNum .i64).list 1 0
/-! Numbers of 128 bits. -/
def wv (a : Wd) : Int := a.hi * 18446744073709551616 + a.lo
def wOf (n : Int) : Wd := ⟨n / 18446744073709551616, n % 18446744073709551616⟩
def okW (a : Wd) : Bool := decide (0 ≤ a.hi) && (decide (a.hi < 18446744073709551616) && (decide (0 ≤ a.lo) && decide (a.lo < 18446744073709551616)))
theorem okW_wOf {n : Int} (h0 : 0 ≤ n) (h1 : n < 340282366920938463463374607431768211456) : okW (wOf n) = true := by
  simp only [okW, wOf, Bool.and_eq_true]
  exact ⟨decide_eq_true (by omega), decide_eq_true (by omega), decide_eq_true (by omega), decide_eq_true (by omega)⟩
theorem wv_wOf (n : Int) : wv (wOf n) = n := by
  simp only [wv, wOf]; omega
theorem wOf_wv {a : Wd} (h : okW a = true) : wOf (wv a) = a := by
  simp only [okW, Bool.and_eq_true, decide_eq_true_eq] at h
  obtain ⟨hi, lo⟩ := a
  simp only [wOf, wv, Wd.mk.injEq] at h ⊢
  omega
theorem wv_in {a : Wd} (h : okW a = true) : 0 ≤ wv a ∧ wv a < 340282366920938463463374607431768211456 := by
  simp only [okW, Bool.and_eq_true, decide_eq_true_eq] at h
  simp only [wv]; omega
def m128 : Int := 340282366920938463463374607431768211456
def addW (a b : Wd) : Wd := wOf ((wv a + wv b) % m128)
def addO (a b : Wd) : Bool := decide (m128 ≤ wv a + wv b)
theorem add_eq {a b : Wd} (ha : okW a = true) (hb : okW b = true) :
    (⟨(a.hi + b.hi + (a.lo + b.lo + 0) / 18446744073709551616) % 18446744073709551616, (a.lo + b.lo + 0) % 18446744073709551616⟩ : Wd) = addW a b ∧ ((a.hi + b.hi + (a.lo + b.lo + 0) / 18446744073709551616) / 18446744073709551616 == 1) = addO a b := by
  simp only [okW, Bool.and_eq_true, decide_eq_true_eq] at ha hb
  obtain ⟨ah, al⟩ := a
  obtain ⟨bh, bl⟩ := b
  simp only [addW, addO, wOf, wv, m128, Wd.mk.injEq] at ha hb ⊢
  refine ⟨by omega, ?_⟩
  rw [Bool.eq_iff_iff, beq_iff_eq]
  constructor
  · intro h; exact decide_eq_true (by omega)
  · intro h; have := of_decide_eq_true h; omega
def wide_Of (n : Int) : Wd := ⟨0, n⟩
def shl64 (a n : Int) : Int := w64 (a * 2 ^ (min n.toNat 64))
def shr64 (a n : Int) : Int := a.fdiv (2 ^ (min n.toNat 64))
def wide_LeftC {α : Type} (k : Wd → α) (z : α) (a : Wd) (n : Int) : α :=
  bif decide (n < 1) then k a
  else bif decide (n ≥ 128) then k ⟨0, 0⟩
  else bif decide (n ≥ 64) then (bif decide (0 ≤ i64 (n - 64)) then k ⟨shl64 a.lo (i64 (n - 64)), 0⟩ else z)
  else bif decide (0 ≤ n) then (bif decide (0 ≤ i64 (64 - n)) then (bif decide (0 ≤ n) then
    k ⟨w64 (BitVec.ofInt 64 (shl64 a.hi n) ||| BitVec.ofInt 64 (shr64 a.lo (i64 (64 - n)))).toNat, shl64 a.lo n⟩ else z) else z) else z
def wide_Left (a : Wd) (n : Int) : Wd := wide_LeftC id a a n
theorem wide_LeftC_eq {α : Type} (k : Wd → α) (z : α) (a : Wd) (n : Int) : wide_LeftC k z a n = k (wide_Left a n) := by
  unfold wide_Left wide_LeftC
  simp only [Bool.cond_eq_ite, decide_eq_true_eq, id]
  split
  · rfl
  split
  · rfl
  split
  · rw [i64_in (by omega) (by omega)]
    rw [if_pos (by omega), if_pos (by omega)]
  · rw [i64_in (by omega) (by omega)]
    repeat rw [if_pos (by omega)]


def cmp64 (a b : Int) : Int := bif decide (a < b) then -1 else bif decide (a > b) then 1 else 0
def cmpW (a b : Wd) : Int := bif cmp64 a.hi b.hi != 0 then cmp64 a.hi b.hi else cmp64 a.lo b.lo
end Go.Cb
namespace Go.Proofs.YtflbjjpcjeinlaaGreatDoor
open Go.Ev Go.Cb
theorem val_Add64 : ∀ args d, e_Add64 args = some (true, d) → Vals Tryz.prog 135 args d := fun args d he => by
  unfold e_Add64 at he
  split at he
  · rename_i x y c
    simp only [Option.some.injEq, Prod.mk.injEq, Bool.and_eq_true, decide_eq_true_eq, Bool.or_eq_true, beq_iff_eq] at he
    obtain ⟨⟨h1, h2, h3⟩, rfl⟩ := he
    intro K w rs hsz hrs
    have e0 := hrs 0 _ rfl
    have e1 := hrs 1 _ rfl
    have e2 := hrs 2 _ rfl
    match rs, hsz with
    | ⟨[r0, r1, r2]⟩, _ =>
      simp at e0 e1 e2
      have e0 : r0 = .int .u64 x := by cases e0; rfl
      have e1 : r1 = .int .u64 y := by cases e1; rfl
      have e2 : r2 = .int .u64 c := by cases e2; rfl
      subst e0 e1 e2
      refine ⟨_, (run_callFunc_extern (e := add64Entry) Tryz.func135 (by kernel_rfl) (by kernel_rfl) (by kernel_rfl) (by kernel_rfl) _ w).trans (by
        rw [run_add64 x y c h1 h2 (by omega) (by omega)]; rfl), ?_⟩
      refine .tup _ _ rfl fun i d hd => ?_
      match i with
      | 0 => simp at hd; subst hd; exact .v _ rfl
      | 1 => simp at hd; subst hd; exact .v _ rfl
      | i + 2 => simp at hd
  · cases he
abbrev e_isNaN : Fe := fn1 cU fun _ => B false
theorem ok_isNaN : En 128 e_isNaN :=
  entry1 (callable Tryz.func128 (by kernel_rfl)) fun n => sp .nil Tryz.func128 3 (Eq.trans (b := some (B (n != n))) (by kernel_rfl) (by simp))
abbrev e_Compare : Fe := fn2 cU cU fun a b => I (cmp64 a b)
theorem ok_Compare : En 109 e_Compare :=
  entry2 (callable Tryz.func109 (by kernel_rfl)) fun a b => sp (.cons ok_isNaN .nil) Tryz.func109 3
    (Eq.trans (b := bif decide (a < b) then some (I (-1)) else bif decide (a > b) then some (I 1) else some (I 0)) (by kernel_rfl) (by unfold cmp64; cases decide (a < b) <;> cases decide (a > b) <;> rfl))
/-- The first of two that is not zero. -/
abbrev e_Or : Fe := fn1C cIs (fun l => Nat.beq l.length 2) fun l => I (bif l.getD 0 0 != 0 then l.getD 0 0 else l.getD 1 0)
theorem ok_Or : En 100 e_Or :=
  entry1C (callable Tryz.func100 (by kernel_rfl)) fun l h => by
    match l, Nat.eq_of_beq_eq_true h with
    | [a, b], _ => exact sp .nil Tryz.func100 3 (Eq.trans (b := bif a != 0 then some (I a) else bif b != 0 then some (I b) else some (I 0)) (by kernel_rfl) (by
        cases h1 : a != 0 with
        | true => simp [h1]
        | false => cases h2 : b != 0 with
          | true => simp [h1]
          | false => simp at h2; subst h2; simp [h1]))
abbrev e_wide_Of : Fe := fn1 cU fun n => cWd.enc (wide_Of n)
theorem ok_wide_Of : En 89 e_wide_Of :=
  entry1 (callable Tryz.func89 (by kernel_rfl)) fun a => sp .nil Tryz.func89 3 (by kernel_rfl)
abbrev l_wAdd : Ens := [(135, e_Add64)]
theorem es_wAdd : Es l_wAdd := .ext val_Add64 .nil
abbrev e_wAdd : Fe := fn2C cWd cWd (fun a b => okW a && okW b) fun a b => .tup [cWd.enc (addW a b), B (addO a b)]
theorem ev_wAdd (a b : Wd) : evalF (envOf l_wAdd) tb 3 Tryz.f127 [cWd.enc a, cWd.enc b] =
    let v0 := a.lo + b.lo + 0
    let v1 := v0 / 18446744073709551616
    let v2 := a.hi + b.hi + v1
    bif decide (0 ≤ a.lo) && (decide (0 ≤ b.lo) && true) then bif decide (0 ≤ a.hi) && (decide (0 ≤ b.hi) && (v1 == 0 || v1 == 1)) then
        some (D.tup [cWd.enc ⟨v2 % 18446744073709551616, v0 % 18446744073709551616⟩, B (v2 / 18446744073709551616 == 1)]) else none else none := by kernel_rfl
theorem ok_wAdd : En 127 e_wAdd :=
  entry2C (callable Tryz.func127 (by kernel_rfl)) fun a b h => sp es_wAdd Tryz.func127 3 ((ev_wAdd a b).trans (by
    rw [Bool.and_eq_true] at h
    obtain ⟨e1, e2⟩ := add_eq h.1 h.2
    simp only [okW, Bool.and_eq_true, decide_eq_true_eq] at h
    simp only
    rw [e1, e2, show decide (0 ≤ a.lo) = true by simp; omega, show decide (0 ≤ b.lo) = true by simp; omega, show decide (0 ≤ a.hi) = true by simp; omega, show decide (0 ≤ b.hi) = true by simp; omega,
      show ((a.lo + b.lo + 0) / 18446744073709551616 == 0 || (a.lo + b.lo + 0) / 18446744073709551616 == 1) = true by simp; omega]
    rfl))
abbrev l_wCmp : Ens := [(109, e_Compare), (100, e_Or)]
abbrev e_wCmp : Fe := fn2 cWd cWd fun a b => I (cmpW a b)
theorem ok_wCmp : En 88 e_wCmp :=
  entry2 (callable Tryz.func88 (by kernel_rfl)) fun a b => sp (.cons ok_Compare (.cons ok_Or .nil)) Tryz.func88 3 (by kernel_rfl)
abbrev e_wide_Left : Fe := fn2 cWd cI fun a n => cWd.enc (wide_Left a n)
theorem ok_wide_Left : En 130 e_wide_Left :=
  entry2 (callable Tryz.func130 (by kernel_rfl)) fun a n => sp .nil Tryz.func130 3 (by
    rw [show evalF (envOf []) tb 3 Tryz.f130 [cWd.enc a, cI.enc n] = wide_LeftC (fun w => some (cWd.enc w)) none a n by kernel_rfl, wide_LeftC_eq])
end Go.Proofs.YtflbjjpcjeinlaaGreatDoor
