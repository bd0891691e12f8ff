/- '==' cell by cell; cells filled by parts; loads. -/
import Derived.Test.YtflbjjpcjeinlaaGreatDoorEve
import Derived.ChangeKeysEq
import Derived.Laws.MakeOwn
namespace Go.Ev
open Go Go.RowKit

def eqV : Kd → Value → Value → Option Bool
  | .int k, .int k1 a, .int k2 b => if k1 = k ∧ k2 = k then some (a == b) else none
  | .bool, .bool a, .bool b => some (a == b)
  | .str, .string a, .string b => some (a.toList == b.toList)
  | _, _, _ => none
def eqVs : List Kd → List Value → List Value → Option Bool
  | [], [], [] => some true
  | k :: ks, x :: xs, y :: ys => match eqV k x y, eqVs ks xs ys with
    | some b, some c => some (b && c)
    | _, _ => none
  | _, _, _ => none

theorem eqVs_len : ∀ {ks : List Kd} {xs ys : List Value} {b : Bool}, eqVs ks xs ys = some b → xs.length = ks.length ∧ ys.length = ks.length
  | [], [], [], _, _ => ⟨rfl, rfl⟩
  | [], _ :: _, _, _, h => by simp [eqVs] at h
  | [], [], _ :: _, _, h => by simp [eqVs] at h
  | _ :: _, [], _, _, h => by simp [eqVs] at h
  | _ :: _, _ :: _, [], _, h => by simp [eqVs] at h
  | k :: ks, x :: xs, y :: ys, b, h => by
    simp only [eqVs] at h
    split at h
    · rename_i h1
      have := eqVs_len h1
      simp [this.1, this.2]
    · cases h

theorem eqVs_append : ∀ {ks ks' : List Kd} {xs ys : List Value} {b : Bool}, eqVs (ks ++ ks') xs ys = some b →
    ∃ b1 b2, eqVs ks (xs.take ks.length) (ys.take ks.length) = some b1 ∧ eqVs ks' (xs.drop ks.length) (ys.drop ks.length) = some b2 ∧ b = (b1 && b2)
  | [], ks', xs, ys, b, h => ⟨true, b, by simp [eqVs], by simpa using h, by simp⟩
  | k :: ks, ks', [], ys, b, h => by simp [eqVs] at h
  | k :: ks, ks', x :: xs, [], b, h => by simp [eqVs] at h
  | k :: ks, ks', x :: xs, y :: ys, b, h => by
    simp only [List.cons_append, eqVs] at h
    split at h
    · rename_i b1 b2 h1 h2
      cases h
      obtain ⟨c1, c2, e1, e2, rfl⟩ := eqVs_append h2
      refine ⟨b1 && c1, c2, ?_, by simpa using e2, by simp [Bool.and_assoc]⟩
      simp only [List.length_cons, List.take_succ_cons, eqVs, h1, e1]
    · cases h

/-- A type's value of its cells. -/
def mkV (P : Program) (t : TypeId) (l : List Value) : Value :=
  match P.underlying t with
  | some (.struct _) | some (.array _ _) => .agg l.toArray
  | _ => l.headD undef

theorem kFs_len {kT : TypeId → Option (List Kd)} {size : TypeId → Nat} : ∀ {o : Nat} {fs : List Field} {ks : List Kd}, kFs kT size o fs = some ks → ∀ f ∈ fs, ∃ a, kT f.type = some a
  | _, [], _, _, f, hf => by simp at hf
  | o, g :: r, ks, h, f, hf => by
    simp only [kFs] at h
    split at h
    · rename_i a _ ha
      split at h
      · rename_i b _ hb
        rcases List.mem_cons.1 hf with rfl | hf
        · exact ⟨a, ha⟩
        · exact kFs_len hb f hf
      · cases h
    · cases h

section
variable {P : Program}

theorem run_part {w : World} {t : TypeId} {i : TypeInfo} {d : TypeDesc} (hi : P.info? t = some i) (hu : P.underlying t = some d) (cs : Array Value) (off : Nat)
    (h : off + i.size ≤ cs.size) (h0 : aggD d = false → i.size = 1) :
    (part t cs off).run P w = .ok (mkV P t ((cs.toList.drop off).take i.size)) w := by
  have hagg : (isAgg t).run P w = .ok (aggD d) w := by
    unfold isAgg
    rw [Sem.run_bind, run_underlying hu w]
    cases d <;> simp [aggD]
  have hs : (sizeOf t).run P w = .ok i.size w := by simp [sizeOf, typeInfo, hi]
  unfold mkV
  simp only [part, Sem.run_bind, hagg, Result.andThen_ok, hu]
  cases hd : aggD d with
  | true =>
    have he : (cs.extract off (off + i.size)) = ((cs.toList.drop off).take i.size).toArray := by
      apply Array.ext'
      rw [Array.toList_extract, List.extract_eq_take_drop]
      simp
    cases d <;> simp [aggD] at hd <;> simp [hs, he]
  | false =>
    have h1 := h0 hd
    have hlt : off < cs.size := by omega
    have hh : ((cs.toList.drop off).take i.size).headD undef = cs[off] := by
      rw [h1]
      have : cs.toList.drop off = cs[off] :: cs.toList.drop (off + 1) := by
        rw [List.drop_eq_getElem_cons (by simpa using hlt)]; simp
      rw [this]; rfl
    cases d <;> simp [aggD] at hd <;> simp [hlt] <;> simpa using hh.symm

/-- '==' of two values, the kinds of whose cells the type tells. -/
theorem run_equalIn_kT (w : World) : ∀ (d : Nat) {t : TypeId} {ks : List Kd}, kT P d t = some ks → ∀ (n : Nat), d ≤ n → ∀ {xs ys : List Value} {b : Bool}, eqVs ks xs ys = some b →
    ks.length = P.cellsOf t ∨ True → (Op.equalIn n t (mkV P t xs) (mkV P t ys)).run P w = .ok b w
  | 0, _, _, h, _, _, _, _, _, _, _ => by simp [kT] at h
  | d + 1, t, ks, h, n, hn, xs, ys, b, he, _ => by
    obtain ⟨n, rfl⟩ : ∃ m, n = m + 1 := ⟨n - 1, by omega⟩
    simp only [kT] at h
    have scalar : ∀ (k : Kd), ks = [k] → ∃ x y, xs = [x] ∧ ys = [y] ∧ eqV k x y = some b := by
      intro k hk
      subst hk
      have hl := eqVs_len he
      match xs, ys, hl with
      | [x], [y], _ =>
        simp only [eqVs] at he
        split at he
        · rename_i h1 h2
          cases h2; cases he
          exact ⟨x, y, rfl, rfl, by simp [h1]⟩
        · cases he
    split at h
    · rename_i k hu
      cases h
      obtain ⟨x, y, rfl, rfl, hxy⟩ := scalar _ rfl
      cases x <;> simp [eqV] at hxy
      cases y <;> simp at hxy
      obtain ⟨⟨rfl, rfl⟩, rfl⟩ := hxy
      simp only [mkV, hu, List.headD_cons]
      exact run_equalIn_int w n t _ _ _ _ hu
    · rename_i hu
      cases h
      obtain ⟨x, y, rfl, rfl, hxy⟩ := scalar _ rfl
      cases x <;> simp [eqV] at hxy
      cases y <;> simp at hxy
      subst hxy
      simp only [mkV, hu, List.headD_cons]
      exact run_equalIn_bool w n t _ _ hu
    · rename_i hu
      cases h
      obtain ⟨x, y, rfl, rfl, hxy⟩ := scalar _ rfl
      cases x <;> simp [eqV] at hxy
      cases y <;> simp at hxy
      subst hxy
      simp only [mkV, hu, List.headD_cons]
      exact run_equalIn_string w n t _ _ hu
    · rename_i fs hu
      split at h
      · rename_i hheld
        have hfs : P.fieldsOf t = fs := by simp [Program.fieldsOf, hu]
        have e1 : ∀ l, mkV P t l = .agg l.toArray := fun l => by simp [mkV, hu]
        rw [e1, e1, run_equalIn_struct w n t _ _ (by rw [hfs]; exact hu) hheld, hfs]
        -- field by field
        have key : ∀ (gs : List Field) (o : Nat) (ks : List Kd) (b : Bool), kFs (kT P d) P.cellsOf o gs = some ks → o + ks.length = xs.length → o + ks.length = ys.length → eqVs ks (xs.drop o) (ys.drop o) = some b →
            (Op.eqFields n xs.toArray ys.toArray gs).run P w = .ok b w := by
          intro gs
          induction gs with
          | nil =>
            intro o ks b hk _ _ hb
            cases hk
            have hl := eqVs_len hb
            match hx : xs.drop o, hy : ys.drop o, hl with
            | [], [], _ =>
              rw [hx, hy] at hb
              simp [eqVs] at hb
              subst hb
              simp [Op.eqFields]
          | cons f gs ih =>
            intro o ks b hk hlx hly hb
            simp only [kFs] at hk
            split at hk
            · rename_i a hfo hka
              split at hk
              · rename_i c hal hkc
                cases hk
                simp only [Bool.and_eq_true, beq_iff_eq, bne_iff_ne, ne_eq] at hfo hal
                obtain ⟨b1, b2, hb1, hb2, rfl⟩ := eqVs_append hb
                simp only [List.length_append] at hlx hly
                rw [List.drop_drop] at hb2
                rw [List.drop_drop] at hb2
                -- the field's own information
                obtain ⟨i, hi⟩ : ∃ i, P.info? f.type = some i := by
                  cases hq : P.info? f.type with
                  | some i => exact ⟨i, rfl⟩
                  | none =>
                    exfalso
                    have hl0 : a.length = 0 := by rw [hal]; simp [Program.cellsOf, hq]
                    cases d with
                    | zero => simp [kT] at hka
                    | succ d =>
                      have hun : P.underlying f.type = none := by simp [Program.underlying, hq]
                      simp [kT, hun] at hka
                have hisz : i.size = a.length := by rw [hal]; simp [Program.cellsOf, hi]
                have hud : ∃ dd, P.underlying f.type = some dd ∧ (aggD dd = false → a.length = 1) := by
                  cases d with
                  | zero => simp [kT] at hka
                  | succ d =>
                    simp only [kT] at hka
                    cases hq : P.underlying f.type with
                    | none => simp [hq] at hka
                    | some dd =>
                      refine ⟨dd, rfl, fun hdd => ?_⟩
                      rw [hq] at hka
                      cases dd <;> simp [aggD] at hdd hka <;> (subst hka; rfl)
                obtain ⟨dd, hud, h1⟩ := hud
                have px := run_part (w := w) hi hud xs.toArray o (by simp; omega) (fun h => by rw [hisz]; exact h1 h)
                have py := run_part (w := w) hi hud ys.toArray o (by simp; omega) (fun h => by rw [hisz]; exact h1 h)
                rw [hisz] at px py
                have heq := run_equalIn_kT w d hka n (by omega) hb1 (.inr trivial)
                simp only [Op.eqFields, hfo.2, ne_eq, not_false_eq_true, if_true, Sem.run_bind, hfo.1, px, py, Result.andThen_ok, heq]
                have hrest := ih (o + a.length) c b2 hkc (by omega) (by omega) hb2
                cases b1
                · simp
                · simp [hrest]
              · cases hk
            · cases hk
        have hl := eqVs_len he
        exact key fs.toList 0 ks b h (by omega) (by omega) (by simpa using he)
      · cases h
    · rename_i m e hu
      split at h
      · rename_i a hka
        split at h
        · rename_i hal
          cases h
          simp only [beq_iff_eq] at hal
          obtain ⟨i, hi⟩ : ∃ i, P.info? e = some i := by
            cases hq : P.info? e with
            | some i => exact ⟨i, rfl⟩
            | none =>
              exfalso
              cases d with
              | zero => simp [kT] at hka
              | succ d =>
                have hun : P.underlying e = none := by simp [Program.underlying, hq]
                simp [kT, hun] at hka
          have hisz : i.size = a.length := by rw [hal]; simp [Program.cellsOf, hi]
          have hud : ∃ dd, P.underlying e = some dd ∧ (aggD dd = false → a.length = 1) := by
            cases d with
            | zero => simp [kT] at hka
            | succ d =>
              simp only [kT] at hka
              cases hq : P.underlying e with
              | none => simp [hq] at hka
              | some dd =>
                refine ⟨dd, rfl, fun hdd => ?_⟩
                rw [hq] at hka
                cases dd <;> simp [aggD] at hdd hka <;> (subst hka; rfl)
          obtain ⟨dd, hud, h1⟩ := hud
          have e1 : ∀ l, mkV P t l = .agg l.toArray := fun l => by simp [mkV, hu]
          rw [e1, e1, run_equalIn_array w n _ _ hu hi, List.range_eq_range']
          have key : ∀ (r j : Nat) (b : Bool), (j + r) * a.length = xs.length → (j + r) * a.length = ys.length → eqVs (repK a r) (xs.drop (j * a.length)) (ys.drop (j * a.length)) = some b →
              (Op.eqItems n e (P.cellsOf e) xs.toArray ys.toArray (List.range' j r)).run P w = .ok b w := by
            intro r
            induction r with
            | zero =>
              intro j b _ _ hb
              have hl := eqVs_len hb
              match hx : xs.drop (j * a.length), hy : ys.drop (j * a.length), hl with
              | [], [], _ =>
                rw [hx, hy] at hb
                simp [repK, eqVs] at hb
                subst hb
                simp [Op.eqItems]
            | succ r ih =>
              intro j b hlx hly hb
              obtain ⟨b1, b2, hb1, hb2, rfl⟩ := eqVs_append hb
              have hj : j * a.length + a.length = (j + 1) * a.length := by rw [Nat.add_mul]; simp
              have hjr : (j + 1) * a.length ≤ (j + (r + 1)) * a.length := Nat.mul_le_mul_right _ (by omega)
              rw [List.drop_drop, hj] at hb2
              rw [List.drop_drop, hj] at hb2
              have px := run_part (w := w) hi hud xs.toArray (j * a.length) (by simp; omega) (fun h => by rw [hisz]; exact h1 h)
              have py := run_part (w := w) hi hud ys.toArray (j * a.length) (by simp; omega) (fun h => by rw [hisz]; exact h1 h)
              rw [hisz] at px py
              have heq := run_equalIn_kT w d hka n (by omega) hb1 (.inr trivial)
              simp only [List.range'_succ, Op.eqItems, Sem.run_bind, ← hal, px, py, Result.andThen_ok, heq]
              have hrest := ih (j + 1) b2 (by rw [← hlx]; congr 1; omega) (by rw [← hly]; congr 1; omega) hb2
              rw [← hal] at hrest
              cases b1
              · simp
              · simp [hrest]
          have hl := eqVs_len he
          have hrep : ∀ r, (repK a r).length = r * a.length := fun r => by
            induction r with
            | zero => simp [repK]
            | succ r ih => simp [repK, ih, Nat.add_mul]; omega
          exact key m 0 b (by rw [hl.1, hrep]; simp) (by rw [hl.2, hrep]; simp) (by simpa using he)
        · cases h
      · cases h
    · cases h

/-- Out of the evaluator's cells. -/
theorem eqVs_of {g : G} {w : World} : ∀ {zs xs ys : List D} {ks : List Kd} {b : Bool}, eqCells zs xs ys = some b → kdsOk zs ks = true → ∀ {vx vy : List Value}, vx.length = xs.length → vy.length = ys.length →
    (∀ (i : Nat) (d : D), xs[i]? = some d → VR g w d (vx.getD i undef)) → (∀ (i : Nat) (d : D), ys[i]? = some d → VR g w d (vy.getD i undef)) → eqVs ks vx vy = some b
  | [], [], [], ks, b, h, hk, vx, vy, hx, hy, _, _ => by
    have e1 : vx = [] := List.eq_nil_of_length_eq_zero hx
    have e2 : vy = [] := List.eq_nil_of_length_eq_zero hy
    subst e1; subst e2
    cases ks with
    | nil => simpa [eqCells, eqVs] using h
    | cons k ks => simp [kdsOk] at hk
  | [], _ :: _, _, _, _, h, _, _, _, _, _, _, _ => by simp [eqCells] at h
  | [], [], _ :: _, _, _, h, _, _, _, _, _, _, _ => by simp [eqCells] at h
  | _ :: _, [], _, _, _, h, _, _, _, _, _, _, _ => by simp [eqCells] at h
  | _ :: _, _ :: _, [], _, _, h, _, _, _, _, _, _, _ => by simp [eqCells] at h
  | z :: zs, x :: xs, y :: ys, ks, b, h, hk, vx, vy, hx, hy, rx, ry => by
    match vx, vy, hx, hy with
    | ux :: vx, uy :: vy, hx, hy =>
    simp only [eqCells] at h
    split at h
    · rename_i b1 b2 h1 h2
      cases h
      have hx0 : VR g w x ux := by simpa using rx 0 x rfl
      have hy0 : VR g w y uy := by simpa using ry 0 y rfl
      have rest : ∀ {ks : List Kd}, kdsOk zs ks = true → eqVs ks vx vy = some b2 := fun hk => eqVs_of h2 hk (by simpa using hx) (by simpa using hy) (fun i d hd => by simpa using rx (i + 1) d (by simpa using hd)) (fun i d hd => by simpa using ry (i + 1) d (by simpa using hd))
      unfold eqCell at h1
      split at h1
      · split at h1
        · rename_i hkk
          cases h1
          cases hx0.val; cases hy0.val
          simp only [Bool.and_eq_true] at hkk
          have hkk := And.intro (ikEq_eq hkk.1) (ikEq_eq hkk.2)
          cases ks with
          | nil => simp [kdsOk] at hk
          | cons k ks =>
            cases k <;> simp [kdsOk] at hk
            obtain ⟨rfl, hk⟩ := hk
            simp [eqVs, eqV, hkk, rest hk]
        · cases h1
      · cases h1
        cases hx0.val; cases hy0.val
        cases ks with
        | nil => simp [kdsOk] at hk
        | cons k ks =>
          cases k <;> simp [kdsOk] at hk
          simp [eqVs, eqV, rest hk]
      · cases h1
        cases hx0.val; cases hy0.val
        cases ks with
        | nil => simp [kdsOk] at hk
        | cons k ks =>
          cases k <;> simp [kdsOk] at hk
          simp [eqVs, eqV, rest hk]
      · cases h1
    · cases h

/-- Two aggregates under '=='. -/
theorem run_eql_agg {g : G} {w : World} {t : TypeId} {dd : TypeDesc} (hu : P.underlying t = some dd) (hd : aggD dd = true) {zs xs ys : List D} {vx vy : Value} {b : Bool} (ht : eqOk P t zs = true) (h : eqCells zs xs ys = some b) (hx : VR g w (.agg xs) vx) (hy : VR g w (.agg ys) vy) (x y : Operand) :
    (∀ op, (eqGuard op t x y vx vy).run P w = .ok () w) ∧ (binOp .eql t vx vy).run P w = .ok (.bool b) w ∧ (binOp .neq t vx vy).run P w = .ok (.bool (!b)) w := by
  obtain ⟨cx, rfl, hlx, _, hcx⟩ := hx.isAgg
  obtain ⟨cy, rfl, hly, _, hcy⟩ := hy.isAgg
  unfold eqOk at ht
  split at ht
  · rename_i ks hks
    simp only [Bool.and_eq_true, Bool.not_eq_true'] at ht
    have he : eqVs ks cx.toList cy.toList = some b := eqVs_of h ht.1 (by simpa using hlx) (by simpa using hly) (fun i d hd => by simpa using hcx i d hd) (fun i d hd => by simpa using hcy i d hd)
    have hrun := run_equalIn_kT w 8 hks 10000 (by omega) he (.inr trivial)
    have hmk : ∀ l : List Value, mkV P t l = .agg l.toArray := fun l => by
      unfold mkV
      rw [hu]
      cases dd <;> simp [aggD] at hd <;> rfl
    rw [hmk, hmk] at hrun
    simp only [Array.toArray_toList] at hrun
    refine ⟨fun op => run_eqGuard_agg w op t x y cx cy ht.2, ?_, ?_⟩
    · rw [run_eql_struct, hrun]; rfl
    · rw [run_neq_struct, hrun]; rfl
  · cases ht
end
end Go.Ev
