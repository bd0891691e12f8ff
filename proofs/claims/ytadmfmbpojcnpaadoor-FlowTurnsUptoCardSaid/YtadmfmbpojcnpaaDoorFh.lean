/- The statements of flows that ask the program alone: the laws give true. -/
import Derived.Test.YtadmfmbpojcnpaaDoorFf
namespace Go.Cb
open Go.Ev
def kyEqK (a b : Ky) (r : Bool) : Bool := (a.kind == b.kind) && ((a.len == b.len) && ((a.hi == b.hi) && ((a.lo == b.lo) && ((a.path.toList == b.path.toList) && r))))
def rcEq (a b : Rc) : Bool := kyEqK a.a0 b.a0 (kyEqK a.a1 b.a1 (kyEqK a.p0 b.p0 (kyEqK a.p1 b.p1 ((a.packets == b.packets) && ((a.bytes == b.bytes) && true)))))
def pxEq (a b : Px) : Bool := (a.at0 == b.at0) && ((a.at1 == b.at1) && kyEqK a.k0 b.k0 (kyEqK a.k1 b.k1 true))
theorem kyEqK_refl (a : Ky) (r : Bool) : kyEqK a a r = r := by simp [kyEqK]
theorem kyEq_refl (a : Ky) : kyEq a a = true := by simp [kyEq]
theorem rcEq_refl (a : Rc) : rcEq a a = true := by simp [rcEq, kyEqK_refl]
theorem pxEq_refl (a : Px) : pxEq a a = true := by simp [pxEq, kyEqK_refl]
theorem beq_f {a b : Int} (h : ¬ a = b) : (a == b) = false := by simpa using h
def dm_other (d : Dm) : Dm := bif d.side == 1 then ⟨d.kind, 2, d.step⟩ else bif d.side == 2 then ⟨d.kind, 1, d.step⟩ else d
def law_Turns (f : Rc) (d o : Dm) (b : Int) : Option D :=
  bif rcEq (flow_Turned (flow_Turned f)) f then
    (bif kyEq (flow_Key (flow_Turned f) d) (flow_Key f o) then
      (bif flow_KeyOk (flow_Turned f) d == flow_KeyOk f o then
        (bif flow_Right (flow_Turned f) == flow_Right f then some (B (flow_Weight (flow_Turned f) b == flow_Weight f b)) else some (B false)) else some (B false)) else some (B false)) else some (B false)
theorem flow_Right_turned (f : Rc) : flow_Right (flow_Turned f) = flow_Right f := by
  unfold flow_Right flow_RightC flow_Turned
  simp only [id]
  cases flow_rightAddr f.a0 <;> cases flow_rightPath f.p0 <;> cases flow_rightAddr f.a1 <;> cases flow_rightPath f.p1 <;> rfl
theorem dim_Right_other (d : Dm) : dim_Right (dm_other d) = dim_Right d := by
  unfold dm_other
  by_cases h1 : d.side = 1
  · simp [h1, dim_Right, dim_RightC]
  · by_cases h2 : d.side = 2
    · simp [h2, dim_Right, dim_RightC]
    · rw [beq_f h1, beq_f h2]; rfl
theorem flow_side_turned (f : Rc) (d : Dm) (h : dim_Right d = true) : flow_side (flow_Turned f) d = flow_side f (dm_other d) := by
  unfold flow_side dm_other flow_Turned
  rcases dim_Right_side h with h1 | h1 <;> simp [h1]
theorem dm_other_kind (d : Dm) : (dm_other d).kind = d.kind := by
  unfold dm_other
  cases d.side == 1 <;> cases d.side == 2 <;> rfl
theorem flow_KeyOk_turned (f : Rc) (d : Dm) : flow_KeyOk (flow_Turned f) d = flow_KeyOk f (dm_other d) := by
  unfold flow_KeyOk
  rw [flow_Right_turned, dim_Right_other, dm_other_kind]
  cases h : dim_Right d with
  | false => simp
  | true => rw [flow_side_turned f d h]
theorem flow_Key_turned (f : Rc) (d : Dm) : flow_Key (flow_Turned f) d = flow_Key f (dm_other d) := by
  unfold flow_Key
  rw [flow_KeyOk_turned]
  cases h : flow_KeyOk f (dm_other d) with
  | false => rfl
  | true =>
    have : dim_Right d = true := by
      rw [← dim_Right_other]
      unfold flow_KeyOk at h
      simp only [Bool.and_eq_true] at h
      exact h.2.1
    simp [flow_side_turned f d this]
theorem law_Turns_true (f : Rc) (d : Dm) (b : Int) : law_Turns f d (dm_other d) b = some (B true) := by
  unfold law_Turns
  have e1 : flow_Turned (flow_Turned f) = f := by cases f; rfl
  have e2 : flow_Weight (flow_Turned f) b = flow_Weight f b := by cases f; rfl
  rw [e1, rcEq_refl, flow_Key_turned, kyEq_refl, flow_KeyOk_turned, flow_Right_turned, e2]
  simp
end Go.Cb
namespace Go.Proofs.YtadmfmbpojcnpaaDoor
open Go.Ev Go.Cb
abbrev e_alive : Fe := fn0 (B true)
theorem ok_alive : En 12 e_alive :=
  entry0 (callable Tryd.func12 (by kernel_rfl)) (sp (.cons ok_wide_Of (.cons ok_key_Four (.cons ok_key_Six (.cons ok_flow_Key (.cons ok_flow_Leaf (.cons ok_flow_Turned (.cons ok_flow_Total (.cons ok_flow_Weight (.cons ok_flow_Right .nil))))))))) Tryd.func12 3 (by kernel_rfl))
theorem law_FlowTurns (f : Rc) (d : Dm) (b : Int) : Go.Ev.Spec Tryd.prog gl 5 [cRc.enc f, cDm.enc d, cI.enc b] (B true) :=
  sp (.cons ok_alive (.cons ok_flow_Turned (.cons ok_flow_Key (.cons ok_flow_Right (.cons ok_flow_Weight .nil))))) Tryd.func5 3
    (Eq.trans (b := bif d.side == 1 then (bif d.side == 2 then law_Turns f d ⟨d.kind, 1, d.step⟩ b else law_Turns f d ⟨d.kind, 2, d.step⟩ b) else (bif d.side == 2 then law_Turns f d ⟨d.kind, 1, d.step⟩ b else law_Turns f d d b)) (by kernel_rfl) (by
      have := law_Turns_true f d b
      unfold dm_other at this
      by_cases h1 : d.side = 1
      · simp [h1] at this ⊢; exact this
      · by_cases h2 : d.side = 2
        · simp [h2] at this ⊢; exact this
        · rw [beq_f h1, beq_f h2] at this ⊢; exact this))
end Go.Proofs.YtadmfmbpojcnpaaDoor
