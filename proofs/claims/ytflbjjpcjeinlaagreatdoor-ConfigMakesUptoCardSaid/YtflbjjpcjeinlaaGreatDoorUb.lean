/- ConfigMakes: the law. -/
import Derived.Test.YtflbjjpcjeinlaaGreatDoorUa
import Derived.Test.YtflbjjpcjeinlaaGreatDoorNo
namespace Go.Proofs.YtflbjjpcjeinlaaGreatDoor
open Go.Ev Go.Cb
abbrev l_CM : Ens := [(8, e_alive), (14, e_cRight), (23, e_rRight)]
theorem es_CM : Es l_CM := .cons ok_alive (.cons ok_cRight (.cons ok_rRight .nil))
noncomputable abbrev x_CM (x : FeX) : Xns := [(21, x), (22, e_lShape)]
def mkT (c : Cf) : Option D :=
  bif c.sh.kind == c.sh.kind && (c.sh.k == c.sh.k && (c.sh.cap == c.sh.cap && (c.sh.s.n == c.sh.s.n && (c.sh.s.d0.kind == c.sh.s.d0.kind && (c.sh.s.d0.side == c.sh.s.d0.side &&
    (c.sh.s.d0.step == c.sh.s.d0.step && (c.sh.s.d1.kind == c.sh.s.d1.kind && (c.sh.s.d1.side == c.sh.s.d1.side && (c.sh.s.d1.step == c.sh.s.d1.step && true))))))))) then
    bif ratio_Right c.sh.k c.a c.b then
      bif decide (c.by' > 0) then some (B (cfgRight c == decide (c.by' < 4))) else some (B (cfgRight c == false))
    else some (B (cfgRight c == false))
  else some (B (cfgRight c == false))
theorem ev_CM0 (c : Cf) : evalF (envX l_CM (x_CM x_lNew0)) tb 3 Tryz.f5 [cCf.enc c] = bif !lattice_May c.sh then some (B (cfgRight c == false)) else none := by kernel_rfl
theorem ev_CM1 (c : Cf) : evalF (envX l_CM (x_CM x_lNew1)) tb 3 Tryz.f5 [cCf.enc c] = bif lattice_May c.sh && (c.sh.kind != 1) then mkT c else none := by kernel_rfl
theorem ev_CM2 (c : Cf) : evalF (envX l_CM (x_CM x_lNew2)) tb 3 Tryz.f5 [cCf.enc c] = bif lattice_May c.sh && (c.sh.kind == 1) then mkT c else none := by kernel_rfl
theorem mkT_true {c : Cf} (h : lattice_May c.sh = true) : mkT c = some (B true) := by
  unfold mkT cfgRight
  simp only [beq_self_eq_true, Bool.and_self, Bool.true_and, cond_true, h]
  cases hr : ratio_Right c.sh.k c.a c.b with
  | false => simp
  | true =>
    rw [cond_true]
    cases hb : decide (c.by' > 0) with
    | false =>
      have : decide (c.by' ≥ 1) = false := by simp at hb ⊢; omega
      simp [this]
    | true =>
      have h1 : decide (c.by' ≥ 1) = true := by simp at hb ⊢; omega
      have h2 : decide (c.by' < 4) = decide (c.by' ≤ 3) := by
        congr 1
        exact propext ⟨fun h => by omega, fun h => by omega⟩
      rw [h1, h2]; simp
theorem law_ConfigMakes (c : Cf) (_ : True) : Go.Ev.Spec Tryz.prog gl 5 [cCf.enc c] (B true) := by
  cases hm : lattice_May c.sh with
  | false =>
    refine spX es_CM (.cons ok_lNew0 (.cons ok_lShape .nil)) Tryz.func5 3 ((ev_CM0 c).trans ?_)
    rw [hm]
    unfold cfgRight
    rw [hm]
    rfl
  | true =>
    cases hk : c.sh.kind == 1 with
    | true =>
      refine spX es_CM (.cons ok_lNew2 (.cons ok_lShape .nil)) Tryz.func5 3 ((ev_CM2 c).trans ?_)
      rw [hm, hk]
      exact mkT_true hm
    | false =>
      refine spX es_CM (.cons ok_lNew1 (.cons ok_lShape .nil)) Tryz.func5 3 ((ev_CM1 c).trans ?_)
      rw [hm, show (c.sh.kind != 1) = true by simp [bne, hk]]
      exact mkT_true hm
end Go.Proofs.YtflbjjpcjeinlaaGreatDoor
