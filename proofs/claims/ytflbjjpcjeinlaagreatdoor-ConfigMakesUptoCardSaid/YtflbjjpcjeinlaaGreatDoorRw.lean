/- A world for the witnesses: the listed tables hold what their initialisers lay; and what the rows ask of any world. -/
import Derived.Test.YtflbjjpcjeinlaaGreatDoorRo
import Derived.Test.YtflbjjpcjeinlaaGreatDoorCards
import Derived.Test.YtflbjjpcjeinlaaGreatDoorTie
import Derived.WalkKit
import Derived.Deep.DeepHandedRow
import Derived.Lib.LaidTab
namespace Go.Proofs.YtflbjjpcjeinlaaGreatDoor
open Go Go.Ev Go.ChangeShapes Go.WideShapes Go.ChangeAt Go.RowKit
theorem own : ownKnob Tryz.prog.godebug = none := by kernel_rfl
theorem laidOut : laidOutB Tryz.prog = true := by kernel_rfl
def litVal : Lit → Value
  | .int k n => .int k n
  | .bool b => .bool b
  | _ => .bool false
mutual
def dataCells {H : Type} : DataW H → List Value
  | .lit l => [litVal l]
  | .agg l => dataCellsAll l
  | _ => []
def dataCellsAll {H : Type} : List (DataW H) → List Value
  | [] => []
  | d :: r => dataCells d ++ dataCellsAll r
end
def putCells (g : Nat) (d : DataW Unit) (h : Array Obj) : Array Obj := h.modify g fun
  | .cells _ t frozen => .cells (dataCells d).toArray t frozen
  | o => o
noncomputable def laidWorld (os : Os) : World :=
  { World.holding Tryz.prog os ⟨#[], #[], []⟩ with heap := putCells 1 Rows.laid_unicode_utf8_first (putCells 2 Rows.laid_unicode_utf8_acceptRanges (World.holding Tryz.prog os ⟨#[], #[], []⟩).heap) }
theorem whole_small {H : Type} {o : Option (List (DataW H) × List (DataW H) × List MemPlace)} (h : (o.any fun x => Rows.uptoSmall H x.1 && x.2.1.isEmpty) = true) : ∃ ds places, o = some (ds, [], places) ∧ Rows.uptoSmall H (ds ++ []) = true := by
  cases o with
  | none => cases h
  | some x =>
    obtain ⟨ds, gs, ps⟩ := x
    simp only [Option.any_some, Bool.and_eq_true, List.isEmpty_iff] at h
    obtain ⟨h1, rfl⟩ := h
    exact ⟨ds, ps, rfl, by rw [List.append_nil]; exact h1⟩
theorem bulk_app {H : Type} (l r : List (DataW H)) : Rows.uptoBulkAll l ≤ Rows.uptoBulkAll (l ++ r) := by
  induction l with
  | nil => simp [Rows.uptoBulkAll]
  | cons x l ih => simp only [List.cons_append, Rows.uptoBulkAll]; omega
theorem bulk_of {H : Type} {ds gs : List (DataW H)} (h : Rows.uptoSmall H (ds ++ gs) = true) : Rows.uptoBulkAll ds ≤ 1048576 :=
  Nat.le_trans (bulk_app ds gs) (of_decide_eq_true h)
theorem stand_of {P : Program} {ts : Array TypeId} (h : (ts.toList.all fun t => !P.wantsStandIn t) = true) : ∀ (j : Nat) t, ts[j]? = some t → P.wantsStandIn t = false := fun j t ht => by
  have := List.all_eq_true.1 h t (by simpa using Array.mem_of_getElem? ht)
  simpa using this
theorem gl_of {W : World} (h : W.ShapedOpen Tryz.prog) : Gl gl (allK W) W := by
  intro x hx
  simp only [gl, List.mem_cons, List.mem_nil_iff, or_false] at hx
  subst hx
  obtain ⟨m, hm⟩ := Tryz.laysM146.s1_3 W h
  exact ⟨World.block_lt_of_cell? W _ hm, _, hm, m, rfl⟩
end Go.Proofs.YtflbjjpcjeinlaaGreatDoor
