/- Words read: names, numbers. -/
import Derived.Test.YtflbjjpcjeinlaaGreatDoorNe
namespace Go.Cb
open Go.Ev
def xT : Cx ByteArray where
  enc s := .v (.string s)
  dec x := match decStr x with | some n => some (true, n) | none => none
  ok := by
    intro x a h
    split at h
    · rename_i he; cases h; rw [decStr_ok he]; exact fun h => h
    · cases h
abbrev xTs : Cx (List ByteArray) := sT.xlist 1 noT
def kindsL : List ByteArray := [⟨#[118, 52]⟩, ⟨#[118, 54]⟩, ⟨#[112, 97, 116, 104]⟩]
def sidesL : List ByteArray := [⟨#[115, 114, 99]⟩, ⟨#[100, 115, 116]⟩]
def weightsL : List ByteArray := [⟨#[102, 108, 111, 119, 115]⟩, ⟨#[112, 97, 99, 107, 101, 116, 115]⟩, ⟨#[98, 121, 116, 101, 115]⟩]
def enginesL : List ByteArray := [⟨#[115, 97, 118, 105, 110, 103]⟩, ⟨#[102, 117, 108, 108]⟩, ⟨#[112, 97, 114, 116, 105, 97, 108]⟩]
def nameK (l : List ByteArray) (s : ByteArray) : Int := i64 (Lib.idxOfS l s + 1)
def nameNo (l : List ByteArray) (s : ByteArray) : Bool := decide (Lib.idxOfS l s < 0)
abbrev mostN : Int := 2147483647
def numV (s : ByteArray) : Int := i64 (parV s mostN)
def numNo (s : ByteArray) : Bool := parE s mostN == 3
def numGr (s : ByteArray) : Bool := parE s mostN == 11
theorem roL_eq {A : Type} (c : Cs A) (z : A) (l : List A) : roL c z l = l := listS_enc c z l
theorem okL_eq {A : Type} (c : Cs A) (z : A) (l : List A) : okL c z l = true := allS_enc c z l
theorem or_if {α : Type} (a b : Bool) (f : Bool → α) : (bif a then f true else f b) = f (a || b) := by cases a <;> rfl
abbrev blankT : ByteArray := ⟨#[32]⟩
abbrev colonT : ByteArray := ⟨#[58]⟩
abbrev slashT : ByteArray := ⟨#[47]⟩
end Go.Cb
namespace Go.Proofs.YtflbjjpcjeinlaaGreatDoor
open Go.Ev Go.Cb
abbrev scT : Nat := 60
/-- What reads words: whether one was none, whether a number was too great. -/
abbrev scD (n g : Bool) : D := .box scT [B n, B g]
def cSc : Cx (Bool × Bool) where
  enc x := scD x.1 x.2
  dec x := match x with
    | .box T [.v (.bool n), .v (.bool g)] => some (Nat.beq T scT, (n, g))
    | _ => none
  ok := by
    intro x a h tb K w av r L hr
    split at h
    · simp only [Option.some.injEq, Prod.mk.injEq] at h
      obtain ⟨h1, rfl⟩ := h
      have h1 := Nat.eq_of_beq_eq_true h1
      subst h1
      exact hr
    · cases h
theorem sl3 {K : Nat → Nat → Prop} {w : World} {a b c : ByteArray} {g : Nat → List D} {r : Value} (h : KR K w (.sl 1 3 g .none) r) (h0 : g 0 = [T a]) (h1 : g 1 = [T b]) (h2 : g 2 = [T c]) : KR K w (cTs.enc [a, b, c]) r :=
  h.sl_congr fun i hi => match i, hi with
    | 0, _ => h0
    | 1, _ => h1
    | 2, _ => h2
theorem sl2 {K : Nat → Nat → Prop} {w : World} {a b : ByteArray} {g : Nat → List D} {r : Value} (h : KR K w (.sl 1 2 g .none) r) (h0 : g 0 = [T a]) (h1 : g 1 = [T b]) : KR K w (cTs.enc [a, b]) r :=
  h.sl_congr fun i hi => match i, hi with
    | 0, _ => h0
    | 1, _ => h1
abbrev litG (l : List ByteArray) (i : Nat) : List D := (l.map fun s => [T s]).getD i [T noT]
abbrev e_kinds : Fe := fn0 (cTs.enc kindsL)
theorem ok_kinds : En 36 e_kinds := entry0 (callable Tryz.func36 (by kernel_rfl))
  (.res (fun h => sl3 h rfl rfl rfl) (sp .nil Tryz.func36 3 (d := .sl 1 3 (litG kindsL) .none) (by kernel_rfl)))
abbrev e_sides : Fe := fn0 (cTs.enc sidesL)
theorem ok_sides : En 37 e_sides := entry0 (callable Tryz.func37 (by kernel_rfl))
  (.res (fun h => sl2 h rfl rfl) (sp .nil Tryz.func37 3 (d := .sl 1 2 (litG sidesL) .none) (by kernel_rfl)))
abbrev e_weights : Fe := fn0 (cTs.enc weightsL)
theorem ok_weights : En 29 e_weights := entry0 (callable Tryz.func29 (by kernel_rfl))
  (.res (fun h => sl3 h rfl rfl rfl) (sp .nil Tryz.func29 3 (d := .sl 1 3 (litG weightsL) .none) (by kernel_rfl)))
abbrev e_engines : Fe := fn0 (cTs.enc enginesL)
theorem ok_engines : En 34 e_engines := entry0 (callable Tryz.func34 (by kernel_rfl))
  (.res (fun h => sl3 h rfl rfl rfl) (sp .nil Tryz.func34 3 (d := .sl 1 3 (litG enginesL) .none) (by kernel_rfl)))
abbrev e_digits : Fe := fn1C cI (fun n => decide (0 ≤ n) && decide (n ≤ 9223372036854775807)) fun n => T (printN n.toNat)
theorem ok_digits : En 35 e_digits :=
  entry1C (callable Tryz.func35 (by kernel_rfl)) fun n h => sp (.cons ok_nPrint .nil) Tryz.func35 3
    (Eq.trans (b := bif decide (0 ≤ w64 n) && decide (w64 n < 18446744073709551616) then some (T (printN (w64 n).toNat)) else none) (by kernel_rfl) (by
      simp only [Bool.and_eq_true, decide_eq_true_eq] at h
      rw [w64_of' h.1 (by omega), decide_eq_true h.1, decide_eq_true (show n < 18446744073709551616 by omega)]
      rfl))
abbrev x_name : FeX := fx3 cSc xT xTs (fun _ _ l => decide (l.length ≤ 4294967296)) fun x s l => (I (nameK l s), [scD (x.1 || nameNo l s) x.2, T s, xTs.enc l])
theorem ok_name : Enx 28 x_name :=
  entryX3 (callable Tryz.func28 (by kernel_rfl)) fun x s l h => sxX (.cons ok_Index .nil) .nil Tryz.func28 3
    (Eq.trans (b := bif okL sT noT l && decide ((roL sT noT l).length ≤ 4294967296) then
        (bif x.1 then some (I (nameK (roL sT noT l) s), [scD true x.2, T s, xTs.enc l]) else some (I (nameK (roL sT noT l) s), [scD (nameNo (roL sT noT l) s) x.2, T s, xTs.enc l])) else none) (by kernel_rfl) (by
      rw [roL_eq, okL_eq, h, Bool.and_self, cond_true]
      exact or_if x.1 (nameNo l s) fun b => some (I (nameK l s), [scD b x.2, T s, xTs.enc l])))
abbrev x_number : FeX := fx2 cSc xT (fun _ _ => true) fun x s => (I (numV s), [scD (x.1 || numNo s) (x.2 || numGr s), T s])
theorem ok_number : Enx 26 x_number :=
  entryX2 (callable Tryz.func26 (by kernel_rfl)) fun x s _ => sxX (.cons ok_nParse .nil) .nil Tryz.func26 3
    (Eq.trans (b := bif x.1 then (bif x.2 then some (I (numV s), [scD true true, T s]) else some (I (numV s), [scD true (numGr s), T s]))
        else (bif x.2 then some (I (numV s), [scD (numNo s) true, T s]) else some (I (numV s), [scD (numNo s) (numGr s), T s]))) (by kernel_rfl) (by
      obtain ⟨a, b⟩ := x
      cases a <;> cases b <;> rfl))
end Go.Proofs.YtflbjjpcjeinlaaGreatDoor
