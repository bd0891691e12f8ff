/- Functions that are gone into where they are called; codecs for aggregates that go over. -/
import Derived.Test.YtflbjjpcjeinlaaGreatDoorXc
namespace Go.Ev
open Go Go.RowKit
/-- A call answered by the evaluator itself. -/
noncomputable def inP (env : Env) (tb : Tb) (F : Nat) (fn : Func) : Fe := fun args => match evalF env tb F fn args with
  | some d => some (true, d)
  | none => none
noncomputable def inX (env : Env) (tb : Tb) (F : Nat) (fn : Func) : FeX := fun args => match evalX env tb F fn args with
  | some (d, ys) => some (true, d, ys)
  | none => none
/-- An aggregate that goes over. -/
def Cs.xagg {A : Type} (c : Cs A) : Cx A where
  enc a := .agg (c.enc a)
  dec x := match decAgg c x with | some a => some (true, a) | none => none
  ok := by
    intro x a h tb K w av r L hr
    split at h
    · rename_i he; cases h; rw [← decAgg_ok he]; exact hr
    · cases h
end Go.Ev
namespace Go.Proofs.YtflbjjpcjeinlaaGreatDoor
open Go.Ev
theorem ok_inP {l : Ens} (hl : Es l) {f : FuncId} {fn : Func} (hf : Tryz.prog.funcs[f]? = some fn) (h : (fn.body.isSome && !(fn.name == "runtime.NumGoroutine")) = true) (F : Nat) : En f (inP (envOf l) tb F fn) :=
  ⟨callable hf h, fun args d he => by
    unfold inP at he
    split at he
    · rename_i he'; cases he; exact sp hl hf F he'
    · cases he⟩
theorem ok_inPX {l : Ens} {xs : Xns} (hl : Es l) (hx : Xs xs) {f : FuncId} {fn : Func} (hf : Tryz.prog.funcs[f]? = some fn) (h : (fn.body.isSome && !(fn.name == "runtime.NumGoroutine")) = true) (F : Nat) : En f (inP (envX l xs) tb F fn) :=
  ⟨callable hf h, fun args d he => by
    unfold inP at he
    split at he
    · rename_i he'; cases he; exact spX hl hx hf F he'
    · cases he⟩
theorem ok_inX {l : Ens} {xs : Xns} (hl : Es l) (hx : Xs xs) {f : FuncId} {fn : Func} (hf : Tryz.prog.funcs[f]? = some fn) (h : (fn.body.isSome && !(fn.name == "runtime.NumGoroutine")) = true) (F : Nat) : Enx f (inX (envX l xs) tb F fn) :=
  ⟨callable hf h, fun args d ys he => by
    unfold inX at he
    split at he
    · rename_i he'; cases he; exact sxX hl hx hf F he'
    · cases he⟩
end Go.Proofs.YtflbjjpcjeinlaaGreatDoor
