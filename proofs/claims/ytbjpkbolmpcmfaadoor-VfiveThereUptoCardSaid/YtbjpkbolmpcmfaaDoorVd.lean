/- Clone, From, Read. -/
import Derived.Test.YtbjpkbolmpcmfaaDoorVc
namespace Go.Proofs.YtbjpkbolmpcmfaaDoor
open Go.Ev Go.Cb
def e_Clone : Fe
  | [.sl sz n g .none] => some (Nat.beq sz 1 && decide (n ≤ 4294967296), .sl 1 n g .none)
  | _ => none
abbrev cloneG (g : Nat → List D) (i : Nat) : List D := match Nat.blt i 0 with | true => sU8.enc 0 | false => g (i - 0)
theorem ev_Clone (n : Nat) (g : Nat → List D) : evalF (envOf []) tb 1 Tryd.f41 [.sl 1 n g .nn] =
    bif decide ((0 + n) * 1 ≤ 140737488355328 ∧ 0 + n ≤ 9223372036854775807) then some (.sl 1 (0 + n) (cloneG g) .none) else none := by kernel_rfl
theorem ev_Clone0 (n : Nat) (g : Nat → List D) : evalF (envOf []) tb 1 Tryd.f41 [.sl 1 n g .nl] = some (.sl 1 0 (fun _ => sU8.enc 0) .none) := by kernel_rfl
theorem ok_Clone : En 41 e_Clone := ⟨callable Tryd.func41 (by kernel_rfl), fun args d he => by
  unfold e_Clone at he
  split at he
  · rename_i sz n g
    simp only [Option.some.injEq, Prod.mk.injEq, Bool.and_eq_true, decide_eq_true_eq] at he
    obtain ⟨⟨h1, h2⟩, rfl⟩ := he
    have h1 := Nat.eq_of_beq_eq_true h1
    subst h1
    intro K w rs hgl hK hsz hrs
    have h0 := hrs 0 _ rfl
    have envok : EnvOk Tryd.prog gl tb (envOf []) := ⟨fun _ _ _ h => (by cases h), fun _ _ h => (by cases h)⟩
    by_cases hnil : ∃ n' c', rs.getD 0 undef = .slice none n' c'
    · have hn0 : n = 0 := by
        obtain ⟨n', c', e⟩ := hnil
        rw [e] at h0
        cases h0; rfl
      refine (calls_of mix tb_ok envok Tryd.func41 (ev_Clone0 n g) K w rs hgl hK hsz fun i d hd => ?_).mono fun e w' ⟨r, K', e1, e2, e3, e4, e5, e6⟩ => ⟨r, K', e1, e2, e3, e4, ?_, e6⟩
      · match i with
        | 0 => simp at hd; subst hd; exact .sl _ _ _ _ _ h0 hnil
        | i + 1 => simp at hd
      · subst hn0; exact e5.nil rfl
    · have hrun : evalF (envOf []) tb 1 Tryd.f41 [.sl 1 n g .nn] = some (.sl 1 (0 + n) (cloneG g) .none) := (ev_Clone n g).trans (by rw [show decide ((0 + n) * 1 ≤ 140737488355328 ∧ 0 + n ≤ 9223372036854775807) = true by simp; omega]; rfl)
      refine (calls_of mix tb_ok envok Tryd.func41 hrun K w rs hgl hK hsz fun i d hd => ?_).mono fun e w' ⟨r, K', e1, e2, e3, e4, e5, e6⟩ => ⟨r, K', e1, e2, e3, e4, ?_, e6⟩
      · match i with
        | 0 => simp at hd; subst hd; exact .sl _ _ _ _ _ h0 fun n' c' e => hnil ⟨n', c', e⟩
        | i + 1 => simp at hd
      · rw [Nat.zero_add] at e5
        refine e5.sl_congr fun i hi => ?_
        unfold cloneG
        rw [show Nat.blt i 0 = false by cases i <;> rfl]
        rfl
  · cases he⟩
/-- A list of bytes, as it goes over: nothing but its data. -/
def xSl : Cx (Nat × (Nat → List D)) where
  enc x := .sl 1 x.1 x.2 .none
  dec x := match x with
    | .sl sz n g .none => some (Nat.beq sz 1, (n, g))
    | _ => none
  ok := by
    intro x a h tb K w av r L hr
    split at h
    · simp only [Option.some.injEq, Prod.mk.injEq] at h
      obtain ⟨h1, rfl⟩ := h
      have h1 := Nat.eq_of_beq_eq_true h1
      subst h1
      exact hr
    · cases h
abbrev x_From : FeX := fx1 xSl (fun x => decide (x.1 ≤ 4294967296)) fun x => (rdD ⟨x.1, x.2, 0⟩, [xSl.enc x])
theorem ok_From : Enx 24 x_From :=
  entryX1 (callable Tryd.func24 (by kernel_rfl)) fun x h => sxX (.cons ok_Clone .nil) .nil Tryd.func24 1
    (Eq.trans (b := bif true && decide (x.1 ≤ 4294967296) then some (rdD ⟨x.1, x.2, 0⟩, [xSl.enc x]) else none) (by kernel_rfl) (by rw [h]; rfl))
end Go.Proofs.YtbjpkbolmpcmfaaDoor
