/- FlowTotals: the reference's total is the program's. -/
import Derived.Test.YtadmfmbpojcnpaaDoorFm
namespace Go.Proofs.YtadmfmbpojcnpaaDoor
open Go.Ev Go.Cb
abbrev l_r13_Total : Ens := [(11, e_r13_Leaf), (16, e_flow_Weight)]
noncomputable abbrev lpT13 (F : Nat) (l : List Rc) (s : Sp) (b : Int) (n : Nat) (left i : Int) : Option D :=
  lp (envOf l_r13_Total) tb F Tryd.f18 [cRcs.enc l, cSp.enc s, cI.enc b] 0 n [(8, U left), (9, I i)]
theorem lp_r13_Total_step (F : Nat) (l : List Rc) (s : Sp) (b : Int) (n i : Nat) (left : Int) : lpT13 F l s b (n + 1) left i =
    let f := l.getD (i : Int).toNat rc0
    let after : Option D := bif (r13_Leaf s f).2 then (bif bnd i l.length then lpT13 F l s b n (w64 (left - flow_Weight f b)) (i64 (i + 1)) else none) else lpT13 F l s b n left (i64 (i + 1))
    bif decide ((i : Int) < l.length) then (bif bnd i l.length then
      (bif (r13_Leaf s f).2 then (bif bnd i l.length then (bif decide (flow_Weight f b > left) then some (.tup [U 0, I 13]) else after) else none) else after) else none)
    else some (.tup [U (w64 (4611686018427387904 - left)), I 0]) := by kernel_rfl
theorem lp_r13_Total (F : Nat) (l : List Rc) (s : Sp) (b : Int) (hs : l.length ≤ 4294967296) : ∀ (n i : Nat) (left : Int), i ≤ l.length → l.length - i < n →
    lpT13 F l s b n left i = some (.tup [U (r13_TotalFrom s b (l.drop i) left).1, I (r13_TotalFrom s b (l.drop i) left).2])
  | 0, i, _, _, h => by omega
  | n + 1, i, left, h1, h2 => by
    rw [lp_r13_Total_step]
    by_cases hi : i < l.length
    · have ih := fun left => lp_r13_Total F l s b hs n (i + 1) left (by omega) (by omega)
      rw [i64_succ (by omega), List.drop_eq_getElem_cons hi]
      simp only [bnd_nat, Int.toNat_natCast, ih, show l.getD i rc0 = l[i] by simp [hi], show decide ((i : Int) < l.length) = true by simp; omega, show decide (i < l.length) = true by simp; omega, cond_true, r13_TotalFrom]
      cases (r13_Leaf s l[i]).2 <;> cases decide (flow_Weight l[i] b > left) <;> rfl
    · have : l.drop i = [] := by simp; omega
      rw [show decide ((i : Int) < l.length) = false by simp; omega, this]
      rfl
theorem st_r13_Total (F : Nat) (l : List Rc) (s : Sp) (b : Int) : evalF (envOf l_r13_Total) tb F Tryd.f18 [cRcs.enc l, cSp.enc s, cI.enc b] = lpT13 F l s b F 4611686018427387904 0 := by kernel_rfl
abbrev e_r13_Total : Fe := fn3C cRcs cSp cI (fun l _ _ => decide (l.length ≤ 4294967296)) fun l s b => .tup [U (r13_Total l s b).1, I (r13_Total l s b).2]
theorem ok_r13_Total : En 18 e_r13_Total :=
  entry3C (callable Tryd.func18 (by kernel_rfl)) fun l s b h => sp (.cons ok_r13_Leaf (.cons ok_r13_Weight .nil)) Tryd.func18 (l.length + 1)
    ((st_r13_Total _ l s b).trans (lp_r13_Total _ l s b (by simpa using h) _ 0 _ (by omega) (by omega)))
abbrev okRcl (n : Nat) (g : Nat → List D) : Bool := allS sRc n g && (true && (true && decide ((listS sRc rc0 n g).length ≤ 4294967296)))
theorem law_FlowTotals_C (l : List Rc) (s : Sp) (b : Int) : evalF (envOf [(12, e_alive), (17, e_flow_Total), (18, e_r13_Total)]) tb 3 Tryd.f4 [cRcs.enc l, cSp.enc s, cI.enc b] =
    let g : Nat → List D := fun i => sRc.enc (l.getD i rc0)
    let L := listS sRc rc0 l.length g
    bif okRcl l.length g then (bif okRcl l.length g then (bif (flow_Total L s b).1 == (r13_Total L s b).1 then some (B ((flow_Total L s b).2 == (r13_Total L s b).2)) else some (B false)) else none) else none := by kernel_rfl
theorem law_FlowTotals (l : List Rc) (s : Sp) (b : Int) (hl : l.length ≤ 1048576 ∧ ∀ a ∈ l, RcIn 1048576 a) (_ : SpIn s) (_ : inI b) :
    Go.Ev.Spec Tryd.prog gl 4 [cRcs.enc l, cSp.enc s, cI.enc b] (B true) :=
  sp (.cons ok_alive (.cons ok_flow_Total (.cons ok_r13_Total .nil))) Tryd.func4 3 ((law_FlowTotals_C l s b).trans (by
    unfold okRcl
    simp only [allS_enc, listS_enc, show decide (l.length ≤ 4294967296) = true by simp; omega, r13_Total_eq s b hl.2]
    simp))
end Go.Proofs.YtadmfmbpojcnpaaDoor
