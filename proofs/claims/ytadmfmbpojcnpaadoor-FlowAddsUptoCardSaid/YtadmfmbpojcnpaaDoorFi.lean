/- FlowAdds: the total of two lists one behind the other. -/
import Derived.Test.YtadmfmbpojcnpaaDoorFh
namespace Go.Cb
open Go.Ev Go.Proofs.YtadmfmbpojcnpaaDoor
/-- What the flows of a list weigh together that have a leaf. -/
def tot (s : Sp) (b : Int) : List Rc → Int
  | [] => 0
  | f :: r => (bif flow_LeafOk s f then flow_Weight f b else 0) + tot s b r
theorem w64_in {n : Int} (h : 0 ≤ n) (h2 : n ≤ 18446744073709551615) : w64 n = n := by
  unfold w64 IntKind.wrap
  simp only [IntKind.bits, IntKind.signed]
  simp
  omega
theorem flow_Weight_nonneg {N : Nat} {f : Rc} (h : RcIn N f) (b : Int) : 0 ≤ flow_Weight f b := by
  obtain ⟨_, _, _, _, h5, h6⟩ := h
  unfold flow_Weight flow_WeightC
  simp only [Bool.cond_eq_ite, id]
  unfold inU at h5 h6
  repeat (first | omega | split)
theorem tot_nonneg {N : Nat} (s : Sp) (b : Int) : ∀ {l : List Rc}, (∀ a ∈ l, RcIn N a) → 0 ≤ tot s b l
  | [], _ => by simp [tot]
  | f :: r, h => by
    have h1 := flow_Weight_nonneg (h f (by simp)) b
    have h2 := tot_nonneg s b (l := r) (fun a ha => h a (by simp [ha]))
    simp only [tot]
    cases flow_LeafOk s f <;> simp <;> omega
theorem tot_app (s : Sp) (b : Int) : ∀ (l m : List Rc), tot s b (l ++ m) = tot s b l + tot s b m
  | [], m => by simp [tot]
  | f :: r, m => by simp only [List.cons_append, tot, tot_app s b r m]; omega
theorem TotalFrom_eq {N : Nat} (s : Sp) (b : Int) : ∀ {l : List Rc} {sum : Int}, (∀ a ∈ l, RcIn N a) → 0 ≤ sum → sum ≤ 4611686018427387904 →
    flow_TotalFrom s b l sum = if sum + tot s b l ≤ 4611686018427387904 then (sum + tot s b l, 0) else (0, 13)
  | [], sum, _, h0, h1 => by simp only [flow_TotalFrom, tot, Int.add_zero]; rw [if_pos h1]
  | f :: r, sum, h, h0, h1 => by
    have hw := flow_Weight_nonneg (h f (by simp)) b
    have hr : ∀ a ∈ r, RcIn N a := fun a ha => h a (by simp [ha])
    have ht := tot_nonneg s b hr
    by_cases hl : flow_LeafOk s f = true
    · have et : tot s b (f :: r) = flow_Weight f b + tot s b r := by simp [tot, hl]
      have es : flow_TotalFrom s b (f :: r) sum = bif decide (flow_Weight f b > w64 (4611686018427387904 - sum)) then (0, 13) else flow_TotalFrom s b r (w64 (sum + flow_Weight f b)) := by simp [flow_TotalFrom, hl]
      rw [es, et, w64_in (n := 4611686018427387904 - sum) (by omega) (by omega)]
      by_cases hgt : flow_Weight f b > 4611686018427387904 - sum
      · rw [show decide (flow_Weight f b > 4611686018427387904 - sum) = true by simpa using hgt, if_neg (by omega)]; rfl
      · rw [show decide (flow_Weight f b > 4611686018427387904 - sum) = false by simpa using hgt, w64_in (by omega) (by omega)]
        simp only [cond_false]
        rw [TotalFrom_eq s b hr (by omega) (by omega), Int.add_assoc]
    · have et : tot s b (f :: r) = tot s b r := by simp [tot, hl]
      have es : flow_TotalFrom s b (f :: r) sum = flow_TotalFrom s b r sum := by simp [flow_TotalFrom, hl]
      rw [es, et]
      exact TotalFrom_eq s b hr h0 h1
def addsEnd (n e k f both g : Int) : Option D :=
  let A : Option D := bif g == 13 then some (B (both == 0)) else some (B false)
  let C : Option D := bif g == 0 then (bif both == w64 (n + k) then some (B (decide (n ≤ 4611686018427387904))) else some (B false)) else some (B false)
  bif e != 0 then A else bif f != 0 then A else bif decide (n > w64 (4611686018427387904 - k)) then A else C
theorem addsEnd_true {N : Nat} (s : Sp) (b : Int) {l m : List Rc} (hl : ∀ a ∈ l, RcIn N a) (hm : ∀ a ∈ m, RcIn N a) :
    addsEnd (flow_Total l s b).1 (flow_Total l s b).2 (flow_Total m s b).1 (flow_Total m s b).2 (flow_Total (l ++ m) s b).1 (flow_Total (l ++ m) s b).2 = some (B true) := by
  have h1 := tot_nonneg s b hl
  have h2 := tot_nonneg s b hm
  unfold flow_Total
  rw [TotalFrom_eq s b hl (by omega) (by omega), TotalFrom_eq s b hm (by omega) (by omega), TotalFrom_eq s b (l := l ++ m) (fun a ha => (List.mem_append.1 ha).elim (hl a) (hm a)) (by omega) (by omega), tot_app]
  simp only [Int.zero_add]
  unfold addsEnd
  by_cases c1 : tot s b l ≤ 4611686018427387904
  · by_cases c2 : tot s b m ≤ 4611686018427387904
    · rw [if_pos c1, if_pos c2]
      simp only [bne_self_eq_false, cond_false]
      rw [w64_in (n := 4611686018427387904 - tot s b m) (by omega) (by omega)]
      by_cases c3 : tot s b l + tot s b m ≤ 4611686018427387904
      · rw [if_pos c3, show decide (tot s b l > 4611686018427387904 - tot s b m) = false by simp; omega, w64_in (by omega) (by omega)]
        simp [c1]
      · rw [if_neg c3, show decide (tot s b l > 4611686018427387904 - tot s b m) = true by simp; omega]
        rfl
    · rw [if_pos c1, if_neg c2, if_neg (by omega)]; rfl
  · rw [if_neg c1, if_neg (by omega)]; rfl
/-- Two lists one behind the other, as append lays them. -/
def appG (l m : List Rc) (i : Nat) : List D :=
  match Nat.blt i (0 + l.length) with
  | true => (match Nat.blt i 0 with | true => [] | false => sRc.enc (l.getD (i - 0) rc0))
  | false => sRc.enc (m.getD (i - (0 + l.length)) rc0)
end Go.Cb
namespace Go.Proofs.YtadmfmbpojcnpaaDoor
open Go.Ev Go.Cb
abbrev okRcs (n : Nat) (g : Nat → List D) : Bool := allS sRc n g && (true && (true && decide ((listS sRc rc0 n g).length ≤ 4294967296)))
def law_Adds (l m : List Rc) (s : Sp) (b : Int) (G : Nat → List D) : Option D :=
  let gl_ : Nat → List D := fun i => sRc.enc (l.getD i rc0)
  let gm : Nat → List D := fun i => sRc.enc (m.getD i rc0)
  let L := listS sRc rc0 l.length gl_
  let M := listS sRc rc0 m.length gm
  let X := listS sRc rc0 (0 + l.length + m.length) G
  bif okRcs l.length gl_ then (bif okRcs m.length gm then
    (bif decide ((0 + l.length) * 208 ≤ 140737488355328 ∧ 0 + l.length ≤ 9223372036854775807) then
      (bif decide ((0 + l.length + m.length) * 208 ≤ 140737488355328 ∧ 0 + l.length + m.length ≤ 9223372036854775807) then
        (bif okRcs (0 + l.length + m.length) G then
          addsEnd (flow_Total L s b).1 (flow_Total L s b).2 (flow_Total M s b).1 (flow_Total M s b).2 (flow_Total X s b).1 (flow_Total X s b).2
        else none) else none) else none) else none) else none
theorem law_FlowAdds_C (l m : List Rc) (s : Sp) (b : Int) : evalF (envOf [(12, e_alive), (17, e_flow_Total)]) tb 3 Tryd.f7 [cRcs.enc l, cRcs.enc m, cSp.enc s, cI.enc b] =
    law_Adds l m s b (appG l m) := by kernel_rfl
theorem appG_eq (l m : List Rc) : appG l m = fun i => sRc.enc (if i < l.length then l.getD i rc0 else m.getD (i - l.length) rc0) := by
  funext i
  unfold appG
  rw [Nat.zero_add, show Nat.blt i 0 = false by cases i <;> rfl]
  by_cases h : i < l.length
  · rw [show Nat.blt i l.length = true from Nat.ble_eq_true_of_le h, if_pos h]; rfl
  · rw [blt_f h, if_neg h]
theorem appL_eq (l m : List Rc) : (List.range (l.length + m.length)).map (fun i => if i < l.length then l.getD i rc0 else m.getD (i - l.length) rc0) = l ++ m := by
  apply List.ext_getElem
  · simp
  · intro i h1 h2
    simp at h1
    simp only [List.getElem_map, List.getElem_range]
    split
    · rename_i h; rw [List.getElem_append_left h]; simp [h]
    · rename_i h
      rw [List.getElem_append_right (by omega)]
      simp [show i - l.length < m.length by omega]
theorem law_Adds_true {N : Nat} {l m : List Rc} (s : Sp) (b : Int) (hl : ∀ a ∈ l, RcIn N a) (hm : ∀ a ∈ m, RcIn N a) (nl : l.length ≤ 1048576) (nm : m.length ≤ 1048576) : law_Adds l m s b (appG l m) = some (B true) := by
  unfold law_Adds okRcs
  rw [appG_eq]
  simp only [allS_enc, listS_enc]
  simp only [allS_fn, listS_fn, Nat.zero_add, Bool.true_and]
  rw [appL_eq, show decide (l.length ≤ 4294967296) = true by simp; omega, show decide (m.length ≤ 4294967296) = true by simp; omega, show decide ((l ++ m).length ≤ 4294967296) = true by simp; omega,
    show decide (l.length * 208 ≤ 140737488355328 ∧ l.length ≤ 9223372036854775807) = true by simp; omega, show decide ((l.length + m.length) * 208 ≤ 140737488355328 ∧ l.length + m.length ≤ 9223372036854775807) = true by simp; omega]
  exact addsEnd_true s b hl hm
theorem law_FlowAdds (l m : List Rc) (s : Sp) (b : Int) (hl : l.length ≤ 1048576 ∧ ∀ a ∈ l, RcIn 1048576 a) (hm : m.length ≤ 1048576 ∧ ∀ a ∈ m, RcIn 1048576 a) (_ : SpIn s) (_ : inI b) :
    Go.Ev.Spec Tryd.prog gl 7 [cRcs.enc l, cRcs.enc m, cSp.enc s, cI.enc b] (B true) :=
  sp (.cons ok_alive (.cons ok_flow_Total .nil)) Tryd.func7 3 ((law_FlowAdds_C l m s b).trans (law_Adds_true s b hl.2 hm.2 hl.1 hm.1))
end Go.Proofs.YtadmfmbpojcnpaaDoor
