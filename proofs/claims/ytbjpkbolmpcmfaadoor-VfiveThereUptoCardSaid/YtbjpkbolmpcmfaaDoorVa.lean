/- Readers of bytes: what each function of the program gives, and leaves in its reader. -/
import Derived.Test.YtbjpkbolmpcmfaaDoorXc
import Derived.Test.YtbjpkbolmpcmfaaDoorFb
namespace Go.Cb
open Go.Ev
/-- A reader: the bytes that are left, as data, and its fault. -/
structure Rr where
  n : Nat
  g : Nat → List D
  e : Int
abbrev sU8 : Cs Int := sNum .u8
end Go.Cb
namespace Go.Proofs.YtbjpkbolmpcmfaaDoor
open Go.Ev Go.Cb
abbrev rrT : Nat := 85
abbrev rdD (x : Rr) : D := .box rrT [B true, .sl 1 x.n x.g .none, I x.e]
def cRd : Cx Rr where
  enc := rdD
  dec x := match x with
    | .box T [.v (.bool b), .sl sz n g .none, .v (.int .i64 e)] => some (Nat.beq T rrT && (b && Nat.beq sz 1), ⟨n, g, e⟩)
    | _ => none
  ok := by
    intro x a h tb K w av r L hr
    split at h
    · rename_i T b sz n g e
      simp only [Option.some.injEq, Prod.mk.injEq, Bool.and_eq_true] at h
      obtain ⟨⟨h1, h2, h3⟩, rfl⟩ := h
      have h1 := Nat.eq_of_beq_eq_true h1
      have h3 := Nat.eq_of_beq_eq_true h3
      subst h1 h2 h3
      exact hr
    · cases h
abbrev rd0 (x : Rr) (e : Int) : Rr := ⟨x.n, x.g, e⟩
def sizeOf' (n : Int) : Int := if 8 < (if n < 1 then 1 else n) then 8 else (if n < 1 then 1 else n)
abbrev e_size : Fe := fn1 cI fun n => I (sizeOf' n)
theorem ok_size : En 54 e_size :=
  entry1 (callable Tryd.func54 (by kernel_rfl)) fun n => sp .nil Tryd.func54 1 (by kernel_rfl)
abbrev x_Err : FeX := fx1 cRd (fun _ => true) fun x => (I x.e, [rdD x])
theorem ok_Err : Enx 47 x_Err :=
  entryX1 (callable Tryd.func47 (by kernel_rfl)) fun x _ => sxX .nil .nil Tryd.func47 1 (by kernel_rfl)
abbrev e_Left (x : Rr) : Int := bif x.e != 0 then 0 else x.n
abbrev x_Left : FeX := fx1 cRd (fun _ => true) fun x => (I (e_Left x), [rdD x])
theorem ok_Left : Enx 46 x_Left :=
  entryX1 (callable Tryd.func46 (by kernel_rfl)) fun x _ => sxX .nil (.cons ok_Err .nil) Tryd.func46 1
    (Eq.trans (b := bif x.e != 0 then some (I 0, [rdD x]) else some (I x.n, [rdD x])) (by kernel_rfl) (by cases h : x.e != 0 <;> simp [e_Left, h]))
abbrev x_End : FeX := fx1 cRd (fun _ => true) fun x => (I (bif decide (e_Left x > 0) then 2 else x.e), [rdD x])
theorem ok_End : Enx 28 x_End :=
  entryX1 (callable Tryd.func28 (by kernel_rfl)) fun x _ => sxX .nil (.cons ok_Left (.cons ok_Err .nil)) Tryd.func28 1
    (Eq.trans (b := bif decide (e_Left x > 0) then some (I 2, [rdD x]) else some (I x.e, [rdD x])) (by kernel_rfl) (by cases decide (e_Left x > 0) <;> rfl))
def mustE (e : Int) (b : Bool) : Int := bif e == 0 then (bif !b then 3 else e) else e
abbrev x_Must : FeX := fx2 cRd xB (fun _ _ => true) fun x b => (.tup [], [rdD (rd0 x (mustE x.e b)), B b])
theorem ok_Must : Enx 55 x_Must :=
  entryX2 (callable Tryd.func55 (by kernel_rfl)) fun x b _ => sxX .nil (.cons ok_Err .nil) Tryd.func55 1
    (Eq.trans (b := bif x.e == 0 then (bif !b then some (.tup [], [rdD (rd0 x 3), B b]) else some (.tup [], [rdD x, B b])) else some (.tup [], [rdD x, B b])) (by kernel_rfl) (by
      unfold mustE; cases x.e == 0 <;> cases b <;> rfl))
end Go.Proofs.YtbjpkbolmpcmfaaDoor
namespace Go.Cb
open Go.Ev Go.Proofs.YtbjpkbolmpcmfaaDoor
abbrev u8G (g : Nat → List D) (i : Nat) : List D := [.v (.int .u8 (decS sU8 0 (g i)))]
def all8 (k : Nat) (g : Nat → List D) : Bool := (List.range k).all fun i => isS sU8 (g i)
theorem all8_at {k i : Nat} {g : Nat → List D} (h : all8 k g = true) (hi : i < k) : g i = u8G g i := isS_ok (c := sU8) (z := 0) (by
  simp only [all8, List.all_eq_true, List.mem_range] at h
  exact h i hi)
theorem flat8 {g : Nat → List D} : ∀ (k : Nat), all8 k g = true → (List.range k).flatMap g = (List.range k).map fun i => .v (.int .u8 (decS sU8 0 (g i)))
  | 0, _ => rfl
  | k + 1, h => by
    have h' : all8 k g = true := by
      simp only [all8, List.all_eq_true, List.mem_range] at h ⊢
      exact fun i hi => h i (by omega)
    rw [List.range_succ, List.flatMap_append, List.map_append, flat8 k h']
    congr 1
    simp [all8_at h (show k < k + 1 by omega)]
theorem cpy_zero {c : List D} {k : Nat} {g : Nat → List D} (hc : c.length = k) (h : all8 k g = true) : cpy c 0 k g = (List.range k).map fun i => .v (.int .u8 (decS sU8 0 (g i))) := by
  unfold cpy
  rw [flat8 k h]
  simp [List.drop_eq_nil_of_le (show c.length ≤ k by omega)]
def rawE (x : Rr) (c : Int) : Int := mustE x.e (decide (c ≥ 0))
def rBad (x : Rr) (c : Int) : Bool := (rawE x c != 0) || decide (c > x.n)
def rErr (x : Rr) (c : Int) : Int := bif rawE x c != 0 then rawE x c else bif decide (c > x.n) then 8 else rawE x c
def rAdv (x : Rr) (c : Int) : Rr := ⟨bif rBad x c then x.n else x.n - c.toNat, fun i => bif rBad x c then x.g i else x.g (c.toNat + i), rErr x c⟩
def rck (x : Rr) (c : Int) : Bool := decide (x.n ≤ 4294967296) && (rBad x c || all8 c.toNat x.g)
end Go.Cb
namespace Go.Proofs.YtbjpkbolmpcmfaaDoor
open Go.Ev Go.Cb
abbrev nil8 : D := .sl 1 0 (fun _ => sU8.enc 0) (.own 5)
def raw_C (x : Rr) (c : Int) : Option (D × List D) :=
  let k := c.toNat
  let R := cpy (repD [i0 .u8] k) 0 (Nat.min (k - (0 : Int).toNat) k) (fun i => x.g ((0 : Int).toNat + i))
  bif rawE x c != 0 then some (nil8, [rdD (rd0 x (rawE x c)), I c])
  else bif decide (c > x.n) then some (nil8, [rdD (rd0 x 8), I c])
  else bif decide (0 ≤ c) && (decide (c = c) && (decide (((1 : Nat) : Int) * c ≤ 281474976710656) && decide (c ≤ 9223372036854775807))) then
    (bif decide ((0 : Int) ≤ 0) && (decide (0 ≤ c) && (decide (c ≤ c) && decide (c ≤ x.n))) then
      (bif Nat.ble (0 + Nat.min (k - (0 : Int).toNat) k) (repD [i0 .u8] k).length then
        (bif decide (0 ≤ c) && (decide (c ≤ x.n) && decide ((x.n : Int) ≤ x.n)) then
          (bif decide (R.length = k * 1) && decide (k ≤ 9223372036854775807) && true then
            some (.sl 1 k (rowGet 1 (R.map kp0)) (.own 5), [rdD ⟨(x.n : Int).toNat - k, fun i => x.g (k + i), rawE x c⟩, I c]) else none) else none) else none) else none) else none
theorem ev_raw (x : Rr) (c : Int) : evalX (envX [] [(55, x_Must), (47, x_Err)]) tb 1 Tryd.f45 [rdD x, I c] = raw_C x c := by kernel_rfl
abbrev x_Raw : FeX := fx2 cRd (xNum .i64) (fun x c => rck x c) fun x c => (.sl 1 (bif rBad x c then 0 else c.toNat) (u8G x.g) (.own 5), [rdD (rAdv x c), I c])
theorem rAdv_bad {x : Rr} {c : Int} (h : rBad x c = true) : rAdv x c = ⟨x.n, x.g, rErr x c⟩ := by unfold rAdv; simp [h]
theorem rAdv_ok {x : Rr} {c : Int} (h : rBad x c = false) : rAdv x c = ⟨x.n - c.toNat, fun i => x.g (c.toNat + i), rErr x c⟩ := by unfold rAdv; simp [h]
theorem res2 {f : FuncId} {args : List D} {d d' y y' z : D} (h1 : ∀ {K w av r L}, XR tb K w av d r L → XR tb K w av d' r L) (h2 : y = y') (hs : Go.Ev.SpecX Tryd.prog gl tb f args d [y, z]) : Go.Ev.SpecX Tryd.prog gl tb f args d' [y', z] := by
  subst h2
  refine SpecX.res (ys' := [y, z]) rfl (fun i a b ha hb {_ _ _ _ _} hx => ?_) hs
  match i with
  | 0 => simp at ha hb; subst ha hb; exact h1 hx
  | 1 => simp at ha hb; subst ha hb; exact hx
  | 2 => simp at ha hb; subst ha hb; exact hx
  | i + 3 => simp at ha
theorem ok_Raw : Enx 45 x_Raw :=
  entryX2 (callable Tryd.func45 (by kernel_rfl)) fun x c h => by
    have run : ∀ d ys, raw_C x c = some (d, ys) → Go.Ev.SpecX Tryd.prog gl tb 45 [cRd.enc x, (xNum .i64).enc c] d ys := fun d ys h =>
      sxX .nil (.cons ok_Must (.cons ok_Err .nil)) Tryd.func45 1 ((ev_raw x c).trans h)
    simp only [rck, Bool.and_eq_true, decide_eq_true_eq, Bool.or_eq_true] at h
    obtain ⟨hn, hb⟩ := h
    unfold raw_C at run
    cases h1 : rawE x c != 0 with
    | true =>
      have bad : rBad x c = true := by unfold rBad; rw [h1]; rfl
      have err : rErr x c = rawE x c := by unfold rErr; rw [h1]; rfl
      rw [bad, rAdv_bad bad, err]
      refine res2 (fun hx => ?_) rfl (run _ _ (by rw [h1]; rfl))
      exact hx.sl_congr (fun i hi => by omega) (.inr ⟨_, rfl⟩)
    | false =>
      have h0 : rawE x c = 0 := by simpa using h1
      have hc0 : 0 ≤ c := by
        apply Classical.byContradiction
        intro hc
        unfold rawE mustE at h0
        rw [show decide (c ≥ 0) = false by simp; omega] at h0
        cases he : x.e == 0 <;> rw [he] at h0 <;> simp at h0
        simp [h0] at he
      cases h2 : decide (c > x.n) with
      | true =>
        have bad : rBad x c = true := by unfold rBad; rw [h2]; simp
        have err : rErr x c = 8 := by unfold rErr; rw [h1, h2]; rfl
        rw [bad, rAdv_bad bad, err]
        refine res2 (fun hx => ?_) rfl (run _ _ (by rw [h1, h2]; rfl))
        exact hx.sl_congr (fun i hi => by omega) (.inr ⟨_, rfl⟩)
      | false =>
        have bad : rBad x c = false := by unfold rBad; rw [h1, h2]; rfl
        have err : rErr x c = rawE x c := by unfold rErr; rw [h1, h2]; rfl
        have hle : c ≤ x.n := by simpa using h2
        rw [bad] at hb
        have h8 : all8 c.toNat x.g = true := by simpa using hb
        have hl : (repD [i0 .u8] c.toNat).length = c.toNat := by rw [(repD_get _ _ 0).1]; simp
        have hR : cpy (repD [i0 .u8] c.toNat) 0 (Nat.min (c.toNat - (0 : Int).toNat) c.toNat) (fun i => x.g ((0 : Int).toNat + i)) = (List.range c.toNat).map fun i => .v (.int .u8 (decS sU8 0 (x.g i))) := by
          have e1 : Nat.min (c.toNat - (0 : Int).toNat) c.toNat = c.toNat := by simp
          have e2 : (fun i => x.g ((0 : Int).toNat + i)) = x.g := by funext i; simp
          rw [e1, e2, cpy_zero hl h8]
        rw [bad, rAdv_ok bad, err]
        refine res2 (d := .sl 1 c.toNat (rowGet 1 ((cpy (repD [i0 .u8] c.toNat) 0 (Nat.min (c.toNat - (0 : Int).toNat) c.toNat) (fun i => x.g ((0 : Int).toNat + i))).map kp0)) (.own 5)) (fun hx => ?_) rfl (run _ _ (by
          have d2 : decide (((1 : Nat) : Int) * c ≤ 281474976710656) = true := by simp; omega
          have d6 : Nat.ble (0 + Nat.min (c.toNat - (0 : Int).toNat) c.toNat) c.toNat = true := by simp
          simp only [h1, h2, cond_false]
          rw [hR, hl, d2, d6]
          simp only [show decide (0 ≤ c) = true by simpa using hc0, show decide (c ≤ 9223372036854775807) = true by simp; omega, show decide (c ≤ (x.n : Int)) = true by simpa using hle, show decide (c.toNat ≤ 9223372036854775807) = true by simp; omega,
            List.length_map, List.length_range, Nat.mul_one, decide_true, Int.le_refl, Bool.and_self, cond_true, Int.toNat_natCast]))
        simp only [cond_false]
        refine hx.sl_congr (fun i hi => ?_) (.inr ⟨_, rfl⟩)
        rw [hR]
        unfold rowGet
        rw [Nat.mul_one, List.drop_eq_getElem_cons (by simpa using hi)]
        simp [kp0]
end Go.Proofs.YtbjpkbolmpcmfaaDoor
