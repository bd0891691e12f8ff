/- Maps whose keys are plain: what the operations do. -/
import Derived.Test.YtflbjjpcjeinlaaGreatDoorEvf
import Derived.WideKeyRuns
import Derived.Lib.SlicesS
namespace Go.Ev
open Go Go.RowKit

theorem kdVs_len : ∀ {ks : List Kd} {xs : List Value}, kdVs ks xs = true → xs.length = ks.length
  | [], [], _ => rfl
  | [], _ :: _, h => by cases h
  | _ :: _, [], h => by cases h
  | k :: ks, x :: xs, h => by
    simp only [kdVs, Bool.and_eq_true] at h
    simp [kdVs_len h.2]
theorem kdVs_append : ∀ {ks ks' : List Kd} {xs : List Value}, kdVs (ks ++ ks') xs = true → kdVs ks (xs.take ks.length) = true ∧ kdVs ks' (xs.drop ks.length) = true
  | [], ks', xs, h => ⟨by simp [kdVs], by simpa using h⟩
  | k :: ks, ks', [], h => by cases h
  | k :: ks, ks', x :: xs, h => by
    simp only [List.cons_append, kdVs, Bool.and_eq_true] at h
    obtain ⟨h1, h2⟩ := kdVs_append h.2
    exact ⟨by simp only [List.length_cons, List.take_succ_cons, kdVs, h.1, h1]; rfl, by simpa using h2⟩
theorem eqVs_hit : ∀ {ks : List Kd} {xs ys : List Value}, kdVs ks xs = true → kdVs ks ys = true → eqVs ks xs ys = some (hitVs xs ys)
  | [], [], [], _, _ => rfl
  | [], _ :: _, _, h, _ => by cases h
  | [], [], _ :: _, _, h => by cases h
  | _ :: _, [], _, h, _ => by cases h
  | _ :: _, _ :: _, [], _, h => by cases h
  | k :: ks, x :: xs, y :: ys, hx, hy => by
    simp only [kdVs, Bool.and_eq_true] at hx hy
    have ih := eqVs_hit hx.2 hy.2
    have h1 : eqV k x y = some (hitV x y) := by
      have a := hx.1
      have b := hy.1
      cases k <;> cases x <;> simp [kdV] at a <;> cases y <;> simp [kdV] at b
      · subst a b; simp [eqV, hitV]
      · simp [eqV, hitV]
      · simp [eqV, hitV]
    simp only [eqVs, h1, ih, hitVs]

section
variable {P : Program}
theorem kT_info {d : Nat} {t : TypeId} {a : List Kd} (hka : kT P d t = some a) : ∃ i dd, P.info? t = some i ∧ P.underlying t = some dd ∧ (aggD dd = false → a.length = 1) := by
  cases d with
  | zero => simp [kT] at hka
  | succ d =>
    cases hq : P.info? t with
    | none =>
      have hun : P.underlying t = none := by simp [Program.underlying, hq]
      simp [kT, hun] at hka
    | some i =>
      simp only [kT] at hka
      cases hu : P.underlying t with
      | none => simp [hu] at hka
      | some dd =>
        refine ⟨i, dd, rfl, rfl, fun hdd => ?_⟩
        rw [hu] at hka
        cases dd <;> simp [aggD] at hdd hka <;> (subst hka; rfl)
theorem run_checkKey_kT (em : Bool) (w : World) : ∀ (d : Nat) {t : TypeId} {ks : List Kd}, kT P d t = some ks → ∀ (n : Nat), d ≤ n → ∀ {xs : List Value}, kdVs ks xs = true → (Instr.checkKey em n t (mkV P t xs)).run P w = .ok () w
  | 0, _, _, h, _, _, _, _ => by simp [kT] at h
  | d + 1, t, ks, h, n, hn, xs, hx => by
    obtain ⟨n, rfl⟩ : ∃ m, n = m + 1 := ⟨n - 1, by omega⟩
    have hlen := kdVs_len hx
    simp only [kT] at h
    have scalar : ∀ (k : Kd), ks = [k] → ∃ x, xs = [x] ∧ kdV k x = true := by
      intro k hk
      subst hk
      match xs, hlen with
      | [x], _ =>
        simp only [kdVs, Bool.and_eq_true] at hx
        exact ⟨x, rfl, hx.1⟩
    split at h
    · rename_i k hu
      cases h
      obtain ⟨x, rfl, hxy⟩ := scalar _ rfl
      cases x <;> simp [kdV] at hxy
      simp [Instr.checkKey, run_underlying hu, mkV, hu]
    · rename_i hu
      cases h
      obtain ⟨x, rfl, hxy⟩ := scalar _ rfl
      cases x <;> simp [kdV] at hxy
      simp [Instr.checkKey, run_underlying hu, mkV, hu]
    · rename_i hu
      cases h
      obtain ⟨x, rfl, hxy⟩ := scalar _ rfl
      cases x <;> simp [kdV] at hxy
      simp [Instr.checkKey, run_underlying hu, mkV, hu]
    · rename_i fs hu
      split at h
      · rename_i hheld
        have e1 : ∀ l, mkV P t l = .agg l.toArray := fun l => by simp [mkV, hu]
        rw [e1, Instr.checkKey]
        simp only [Sem.run_bind, run_underlying hu, Result.andThen_ok]
        rw [← Array.forIn_toList]
        have key : ∀ (gs : List Field) (o : Nat) (ks : List Kd), kFs (kT P d) P.cellsOf o gs = some ks → o + ks.length = xs.length → kdVs ks (xs.drop o) = true →
            (forIn gs PUnit.unit fun f _ => (if f.name ≠ "_" then do Instr.checkKey em n f.type (← part f.type xs.toArray f.offset); pure (ForInStep.yield PUnit.unit) else pure (ForInStep.yield PUnit.unit) : Sem (ForInStep PUnit))).run P w = .ok PUnit.unit w := by
          intro gs
          induction gs with
          | nil => intro o ks _ _ _; simp
          | cons f gs ih =>
            intro o ks hk hlx hb
            simp only [kFs] at hk
            split at hk
            · rename_i a hfo hka
              split at hk
              · rename_i c hal hkc
                cases hk
                simp only [Bool.and_eq_true, beq_iff_eq, bne_iff_ne, ne_eq] at hfo hal
                obtain ⟨hb1, hb2⟩ := kdVs_append hb
                simp only [List.length_append] at hlx
                rw [List.drop_drop] at hb2
                obtain ⟨i, dd, hi, hud, h1⟩ := kT_info hka
                have hisz : i.size = a.length := by rw [hal]; simp [Program.cellsOf, hi]
                have px := run_part (w := w) hi hud xs.toArray o (by simp; omega) (fun h => by rw [hisz]; exact h1 h)
                rw [hisz] at px
                have p2 := run_checkKey_kT em w d hka n (by omega) hb1
                rw [List.forIn_cons]
                simp only [hfo.2, ne_eq, not_false_eq_true, if_true, Sem.run_bind, hfo.1, px, Result.andThen_ok, p2, Sem.run_pure]
                exact ih (o + a.length) c hkc (by omega) hb2
              · cases hk
            · cases hk
        have this := key fs.toList 0 ks h (by omega) (by simpa using hx)
        simp at this
        simp [this]
      · cases h
    · rename_i m e hu
      split at h
      · rename_i a hka
        split at h
        · rename_i hal
          cases h
          simp only [beq_iff_eq] at hal
          obtain ⟨i, dd, hi, hud, h1⟩ := kT_info hka
          have hisz : i.size = a.length := by rw [hal]; simp [Program.cellsOf, hi]
          have e1 : ∀ l, mkV P t l = .agg l.toArray := fun l => by simp [mkV, hu]
          rw [e1, Instr.checkKey]
          simp only [Sem.run_bind, run_underlying hu, Result.andThen_ok]
          simp only [Std.Legacy.Range.forIn_eq_forIn_range', Std.Legacy.Range.size, Nat.sub_zero, Nat.add_one_sub_one, Nat.div_one]
          have hrep : ∀ r, (repK a r).length = r * a.length := fun r => by
            induction r with
            | zero => simp [repK]
            | succ r ih => simp [repK, ih, Nat.add_mul]; omega
          have key : ∀ (r j : Nat), (j + r) * a.length = xs.length → kdVs (repK a r) (xs.drop (j * a.length)) = true →
              (forIn (List.range' j r) PUnit.unit fun i' _ => (do Instr.checkKey em n e (← part e xs.toArray (i' * (← sizeOf e))); pure (ForInStep.yield PUnit.unit) : Sem (ForInStep PUnit))).run P w = .ok PUnit.unit w := by
            intro r
            induction r with
            | zero => intro j _ _; simp
            | succ r ih =>
              intro j hlx hb
              obtain ⟨hb1, hb2⟩ := kdVs_append hb
              have hj : j * a.length + a.length = (j + 1) * a.length := by rw [Nat.add_mul]; simp
              have hjr : (j + 1) * a.length ≤ (j + (r + 1)) * a.length := Nat.mul_le_mul_right _ (by omega)
              rw [List.drop_drop, hj] at hb2
              have px := run_part (w := w) hi hud xs.toArray (j * a.length) (by simp; omega) (fun h => by rw [hisz]; exact h1 h)
              rw [hisz] at px
              have p2 := run_checkKey_kT em w d hka n (by omega) hb1
              simp only [List.range'_succ, List.forIn_cons, Sem.run_bind, run_sizeOf w hi, ← hal, px, Result.andThen_ok, p2, Sem.run_pure]
              exact ih (j + 1) (by rw [← hlx]; congr 1; omega) hb2
          have this := key m 0 (by rw [hlen, hrep]; simp) (by simpa using hx)
          simp at this
          simp [this]
        · cases h
      · cases h
    · cases h

/-! Where a key stands. -/
def fndC (xs : List Value) : List (List Value × List Value) → Nat → Option Nat
  | [], _ => none
  | c :: r, i => match hitVs xs c.1 with | true => some i | false => fndC xs r (i + 1)
theorem fndC_some {xs : List Value} : ∀ {C : List (List Value × List Value)} {i j : Nat}, fndC xs C i = some j → ∃ c, i ≤ j ∧ C[j - i]? = some c ∧ hitVs xs c.1 = true
  | [], i, j, h => by cases h
  | c :: r, i, j, h => by
    unfold fndC at h
    split at h
    · rename_i hh
      cases h
      exact ⟨c, Nat.le_refl _, by simp, hh⟩
    · obtain ⟨c', h1, h2, h3⟩ := fndC_some h
      refine ⟨c', by omega, ?_, h3⟩
      rw [show j - i = (j - (i + 1)) + 1 by omega]
      exact h2
def putC (xs ys : List Value) (C : List (List Value × List Value)) : List (List Value × List Value) := match fndC xs C 0 with
  | some j => C.set j (xs, ys)
  | none => C ++ [(xs, ys)]
def delC (xs : List Value) (C : List (List Value × List Value)) : List (List Value × List Value) := match fndC xs C 0 with
  | some j => C.eraseIdx j
  | none => C
theorem hit_eq : ∀ {ks : List Kd} {xs ys : List Value}, kdVs ks xs = true → kdVs ks ys = true → hitVs xs ys = true → xs = ys
  | [], [], [], _, _, _ => rfl
  | [], _ :: _, _, h, _, _ => by cases h
  | [], [], _ :: _, _, h, _ => by cases h
  | _ :: _, [], _, h, _, _ => by cases h
  | _ :: _, _ :: _, [], _, h, _ => by cases h
  | k :: ks, x :: xs, y :: ys, hx, hy, h => by
    simp only [kdVs, Bool.and_eq_true] at hx hy
    simp only [hitVs, Bool.and_eq_true] at h
    rw [hit_eq hx.2 hy.2 h.2]
    have a := hx.1
    have b := hy.1
    have c := h.1
    cases k <;> cases x <;> simp [kdV] at a <;> cases y <;> simp [kdV] at b
    · subst a b; simp [hitV] at c; rw [c]
    · simp [hitV] at c; rw [c]
    · have c := (Lib.bytes_beq_iff _ _).1 c; rw [c]
/-- A block of another content. -/
def putB (w : World) (b : Nat) (o : Obj) : World := { w with heap := w.heap.setIfInBounds b o }
def wideT (P : Program) (k : TypeId) : Bool := match P.underlying k with | some (.array _ _) | some (.struct _) => true | _ => false
variable {k e t : TypeId} {ks vs : List Kd} {es : Array MapEntry} {clock b : Nat} {C : List (List Value × List Value)} {w : World} {xs ys : List Value}

theorem run_equal_kT (hk : kT P 8 k = some ks) (hx : kdVs ks xs = true) (hy : kdVs ks ys = true) : (Op.equal k (mkV P k xs) (mkV P k ys)).run P w = .ok (hitVs xs ys) w :=
  run_equalIn_kT w 8 hk 10000 (by omega) (eqVs_hit hx hy) (.inr trivial)
theorem run_findAsking_kT (hk : kT P 8 k = some ks) (hx : kdVs ks xs = true) : ∀ (L : List MapEntry) (C : List (List Value × List Value)) (i : Nat), L.length = C.length →
    (∀ (j : Nat) x, L[j]? = some x → ∃ c, C[j]? = some c ∧ x.key = mkV P k c.1 ∧ kdVs ks c.1 = true) →
    (fndC xs C i = none ∧ (Instr.findAsking k (mkV P k xs) L i).run P w = .ok none w) ∨ ∃ j x, fndC xs C i = some (i + j) ∧ L[j]? = some x ∧ (Instr.findAsking k (mkV P k xs) L i).run P w = .ok (some (i + j, x.val)) w
  | [], [], i, _, _ => .inl ⟨rfl, by simp [Instr.findAsking]⟩
  | [], _ :: _, _, h, _ => by simp at h
  | _ :: _, [], _, h, _ => by simp at h
  | x :: L, c :: C, i, hl, he => by
    obtain ⟨c', h1, h2, h3⟩ := he 0 x rfl
    simp only [List.getElem?_cons_zero, Option.some.injEq] at h1
    subst h1
    have heq := run_equal_kT (w := w) hk hx h3
    rw [← h2] at heq
    unfold fndC
    cases hh : hitVs xs c.1 with
    | true =>
      right
      rw [hh] at heq
      exact ⟨0, x, rfl, rfl, by simp [Instr.findAsking, heq]⟩
    | false =>
      rw [hh] at heq
      rcases run_findAsking_kT hk hx L C (i + 1) (by simpa using hl) (fun j y hy => by simpa using he (j + 1) y (by simpa using hy)) with ⟨g1, g2⟩ | ⟨j, y, g1, g2, g3⟩
      · exact .inl ⟨g1, by simp [Instr.findAsking, heq, g2]⟩
      · exact .inr ⟨j + 1, y, by rw [g1, Nat.add_assoc, Nat.add_comm 1 j], by simpa using g2, by simp [Instr.findAsking, heq, g3, Nat.add_assoc, Nat.add_comm 1 j]⟩
theorem run_findKey_kT (hw : wideT P k = true) (hk : kT P 8 k = some ks) (hx : kdVs ks xs = true) (h : MOk (mkV P k) (mkV P e) ks vs es clock C) :
    (fndC xs C 0 = none ∧ (Instr.findKey k (mkV P k xs) es.toList).run P w = .ok none w) ∨ ∃ j x, fndC xs C 0 = some j ∧ es[j]? = some x ∧ (Instr.findKey k (mkV P k xs) es.toList).run P w = .ok (some (j, x.val)) w := by
  have hf := run_findKey_eq (P := P) (w := w) (k := k) (by unfold wideT at hw; exact hw) (mkV P k xs) es.toList
  simp only [hf]
  have := run_findAsking_kT (w := w) hk hx es.toList C 0 (by simpa using h.size) (fun j x hj => by
    obtain ⟨c, h1, h2, _, h3, _⟩ := h.ent j x (by simpa using hj)
    exact ⟨c, h1, h2, h3⟩)
  rcases this with h1 | ⟨j, x, h1, h2, h3⟩
  · exact .inl h1
  · exact .inr ⟨j, x, by simpa using h1, by simpa using h2, by simpa using h3⟩
theorem mk_sameBits {x : List Value} (hk : kdVs ks x = true) (hw : wideT P k = true) : Instr.sameBits 10000 (mkV P k x) (mkV P k x) = true := by
  have e1 : mkV P k x = .agg x.toArray := by
    unfold wideT at hw
    unfold mkV
    split at hw <;> simp_all
  have hone : ∀ {ks : List Kd} {x : List Value}, kdVs ks x = true → ∀ v ∈ x, Instr.sameBits 9999 v v = true := by
    intro ks
    induction ks with
    | nil =>
      intro x h v hv
      cases x with
      | nil => cases hv
      | cons _ _ => cases h
    | cons k ks ih =>
      intro x h v hv
      cases x with
      | nil => cases hv
      | cons y x =>
        simp only [kdVs, Bool.and_eq_true] at h
        rcases List.mem_cons.1 hv with rfl | hv
        · have a := h.1
          cases k <;> cases v <;> simp [kdV] at a <;> simp [Instr.sameBits, MapKept.bytes_beq]
        · exact ih h.2 v hv
  rw [e1]
  show (_ && _) = true
  simp only [beq_self_eq_true, Bool.true_and, List.all_eq_true]
  intro p hp
  have hz : ∀ (l : List Value), ∀ p ∈ l.zip l, p.1 = p.2 ∧ p.1 ∈ l := by
    intro l
    induction l with
    | nil => intro p hp; cases hp
    | cons a l ih =>
      intro p hp
      rw [List.zip_cons_cons] at hp
      rcases List.mem_cons.1 hp with rfl | hp
      · exact ⟨rfl, by simp⟩
      · exact ⟨(ih p hp).1, List.mem_cons_of_mem _ (ih p hp).2⟩
  obtain ⟨h1, h2⟩ := hz x.toArray.toList p (by simpa using hp)
  obtain ⟨p1, p2⟩ := p
  simp only at h1 h2 ⊢
  subst h1
  exact hone hk _ (by simpa using h2)
theorem run_stays {x : List Value} (hk : kdVs ks x = true) (hw : wideT P k = true) : (Instr.keyThatStays (mkV P k x) (mkV P k x)).run P w = .ok (mkV P k x) w := by
  unfold Instr.keyThatStays
  rw [mk_sameBits hk hw]
  simp
/-- A look-up. -/
theorem run_lookup_kT (hw : wideT P k = true) (ht : P.underlying t = some (.map k e)) (hk : kT P 8 k = some ks) (hx : kdVs ks xs = true) (hb : w.heap[b]? = some (.map es clock)) (h : MOk (mkV P k) (mkV P e) ks vs es clock C) {z : Value} (hz : (zeroValue e).run P w = .ok z w) (ok : Bool) :
    ∃ v, (Instr.lookup t (.map (some b)) (mkV P k xs) ok).run P w = .ok (if ok then .tuple #[v, .bool (fndC xs C 0).isSome] else v) w ∧
      (fndC xs C 0 = none ∧ v = z ∨ ∃ j c, fndC xs C 0 = some j ∧ C[j]? = some c ∧ v = mkV P e c.2) := by
  have hc := run_checkKey_kT (P := P) es.isEmpty w 8 hk 10000 (by omega) hx
  rcases run_findKey_kT (w := w) hw hk hx h with ⟨h1, h2⟩ | ⟨j, x, h1, h2, h3⟩
  · refine ⟨z, ?_, .inl ⟨h1, rfl⟩⟩
    rw [h1]
    cases ok <;> simp [Instr.lookup, run_underlying ht, MapKept.run_getObj_map hb, hc, h2, hz]
  · obtain ⟨c, g1, _, g2, _⟩ := h.ent j x h2
    refine ⟨x.val, ?_, .inr ⟨j, c, h1, g1, g2⟩⟩
    rw [h1]
    cases ok <;> simp [Instr.lookup, run_underlying ht, MapKept.run_getObj_map hb, hc, h3]
theorem MOk.push (h : MOk (mkV P k) (mkV P e) ks vs es clock C) (hx : kdVs ks xs = true) (hy : kdVs vs ys = true) (hf : fndC xs C 0 = none) : MOk (mkV P k) (mkV P e) ks vs (es.push ⟨mkV P k xs, mkV P e ys, clock⟩) (clock + 1) (putC xs ys C) := by
  have hC : putC xs ys C = C ++ [(xs, ys)] := by unfold putC; rw [hf]
  rw [hC]
  have get : ∀ (j : Nat) x, (es.push ⟨mkV P k xs, mkV P e ys, clock⟩)[j]? = some x → es[j]? = some x ∨ (j = es.size ∧ x = ⟨mkV P k xs, mkV P e ys, clock⟩) := fun j x hj => by
    rw [Array.getElem?_push] at hj
    split at hj
    · rename_i h1; cases hj; exact .inr ⟨h1, rfl⟩
    · exact .inl hj
  refine ⟨by simp [h.size], fun j x hj => ?_, fun j x hj => ?_, fun i j x y hi hj hb => ?_⟩
  · rcases get j x hj with hj | ⟨rfl, rfl⟩
    · obtain ⟨c, h1, h2⟩ := h.ent j x hj
      exact ⟨c, by rw [List.getElem?_append_left (List.getElem?_eq_some_iff.1 h1).1]; exact h1, h2⟩
    · exact ⟨(xs, ys), by rw [h.size, List.getElem?_append_right (Nat.le_refl _)]; simp, rfl, rfl, hx, hy⟩
  · rcases get j x hj with hj | ⟨rfl, rfl⟩
    · have := h.born j x hj; omega
    · exact Nat.lt_succ_self _
  · rcases get i x hi with hi | ⟨rfl, rfl⟩ <;> rcases get j y hj with hj | ⟨rfl, rfl⟩
    · exact h.inj i j x y hi hj hb
    · have := h.born i x hi; simp only at hb; omega
    · have := h.born j y hj; simp only at hb; omega
    · rfl
theorem MOk.modify (h : MOk (mkV P k) (mkV P e) ks vs es clock C) (hx : kdVs ks xs = true) (hy : kdVs vs ys = true) {j : Nat} (hf : fndC xs C 0 = some j) : MOk (mkV P k) (mkV P e) ks vs (es.modify j fun e' => { e' with key := mkV P k xs, val := mkV P e ys }) clock (putC xs ys C) := by
  have hC : putC xs ys C = C.set j (xs, ys) := by unfold putC; rw [hf]
  rw [hC]
  have get : ∀ (i : Nat) x, (es.modify j fun e' => { e' with key := mkV P k xs, val := mkV P e ys })[i]? = some x → ∃ x0, es[i]? = some x0 ∧ x = if j = i then { x0 with key := mkV P k xs, val := mkV P e ys } else x0 := fun i x hi => by
    rw [Array.getElem?_modify] at hi
    split at hi
    · rename_i hji
      rw [Option.map_eq_some_iff] at hi
      obtain ⟨x0, h1, h2⟩ := hi
      exact ⟨x0, h1, by rw [if_pos hji]; exact h2.symm⟩
    · rename_i hji
      exact ⟨x, hi, by rw [if_neg hji]⟩
  refine ⟨by simp [h.size], fun i x hi => ?_, fun i x hi => ?_, fun i i' x y hi hi' hb => ?_⟩
  · obtain ⟨x0, h1, h2⟩ := get i x hi
    obtain ⟨c, g1, g2⟩ := h.ent i x0 h1
    by_cases hji : j = i
    · subst hji
      rw [if_pos rfl] at h2
      subst h2
      exact ⟨(xs, ys), by rw [List.getElem?_set_self (List.getElem?_eq_some_iff.1 g1).1], rfl, rfl, hx, hy⟩
    · rw [if_neg hji] at h2
      subst h2
      exact ⟨c, by rw [List.getElem?_set_ne hji]; exact g1, g2⟩
  · obtain ⟨x0, h1, h2⟩ := get i x hi
    have := h.born i x0 h1
    rw [h2]
    split
    · exact this
    · exact this
  · obtain ⟨x0, h1, h2⟩ := get i x hi
    obtain ⟨y0, h3, h4⟩ := get i' y hi'
    refine h.inj i i' x0 y0 h1 h3 ?_
    have e1 : x.born = x0.born := by rw [h2]; split <;> rfl
    have e2 : y.born = y0.born := by rw [h4]; split <;> rfl
    rw [← e1, ← e2, hb]
/-- An entry is put in. -/
theorem run_mapUpdate_kT (hw : wideT P k = true) (ht : P.underlying t = some (.map k e)) (hk : kT P 8 k = some ks) (hx : kdVs ks xs = true) (hy : kdVs vs ys = true) (hb : w.heap[b]? = some (.map es clock)) (h : MOk (mkV P k) (mkV P e) ks vs es clock C) :
    ∃ es' clock', (Instr.mapUpdate t (.map (some b)) (mkV P k xs) (mkV P e ys)).run P w = .ok () (putB w b (.map es' clock')) ∧ MOk (mkV P k) (mkV P e) ks vs es' clock' (putC xs ys C) := by
  have hc := run_checkKey_kT (P := P) false w 8 hk 10000 (by omega) hx
  rcases run_findKey_kT (w := w) hw hk hx h with ⟨h1, h2⟩ | ⟨j, x, h1, h2, h3⟩
  · exact ⟨_, _, by simp [Instr.mapUpdate, run_underlying ht, MapKept.run_getObj_map hb, hc, h2, MapKept.run_setObj_map _ hb, putB], h.push hx hy h1⟩
  · obtain ⟨c, g1, g2, _, g3, _⟩ := h.ent j x h2
    obtain ⟨c', _, f1, f2⟩ := fndC_some h1
    rw [Nat.sub_zero, g1] at f1
    cases f1
    have hkey : x.key = mkV P k xs := by rw [g2, hit_eq hx g3 f2]
    exact ⟨_, _, by simp [Instr.mapUpdate, run_underlying ht, MapKept.run_getObj_map hb, hc, h3, h2, hkey, run_stays hx hw, MapKept.run_setObj_map _ hb, putB], h.modify hx hy h1⟩
/-- What an entry holds, or would. -/
def getC (xs zs : List Value) (C : List (List Value × List Value)) : List Value := match fndC xs C 0 with
  | some j => (C.getD j ([], [])).2
  | none => zs
theorem fndC_push {xs ys : List Value} : ∀ {C : List (List Value × List Value)} {i : Nat}, fndC xs C i = none → hitVs xs xs = true → fndC xs (C ++ [(xs, ys)]) i = some (i + C.length)
  | [], i, _, hh => by simp [fndC, hh]
  | c :: C, i, h, hh => by
    unfold fndC at h
    split at h
    · cases h
    · rename_i hc
      rw [List.cons_append, fndC, hc]
      simp only
      rw [fndC_push h hh, List.length_cons]
      congr 1
      omega
theorem hit_self : ∀ {ks : List Kd} {xs : List Value}, kdVs ks xs = true → hitVs xs xs = true
  | [], [], _ => rfl
  | [], _ :: _, h => by cases h
  | _ :: _, [], h => by cases h
  | k :: ks, x :: xs, h => by
    simp only [kdVs, Bool.and_eq_true] at h
    have a := h.1
    have ih := hit_self h.2
    cases k <;> cases x <;> simp [kdV] at a <;> simp [hitVs, hitV, ih]
theorem fndC_set {xs ys : List Value} (hh : hitVs xs xs = true) : ∀ {C : List (List Value × List Value)} {i j : Nat}, fndC xs C i = some j → fndC xs (C.set (j - i) (xs, ys)) i = some j
  | [], i, j, h => by cases h
  | c :: C, i, j, h => by
    unfold fndC at h
    split at h
    · cases h
      simp [fndC, hh]
    · rename_i hc
      obtain ⟨_, h1, _⟩ := fndC_some h
      rw [show j - i = (j - (i + 1)) + 1 by omega, List.set_cons_succ, fndC, hc]
      exact fndC_set hh h
theorem fndC_put (hx : kdVs ks xs = true) : fndC xs (putC xs ys C) 0 = some ((fndC xs C 0).getD C.length) := by
  unfold putC
  cases h : fndC xs C 0 with
  | none => rw [fndC_push h (hit_self hx)]; simp
  | some j => exact fndC_set (hit_self hx) h
/-- The place of an entry, put in where there is none. -/
theorem run_mapEntry_kT (hw : wideT P k = true) (ht : P.underlying t = some (.map k e)) (hk : kT P 8 k = some ks) (hx : kdVs ks xs = true) {zs : List Value} (hz : ∀ u : World, (zeroValue e).run P u = .ok (mkV P e zs) u) (hzs : kdVs vs zs = true) (hb : w.heap[b]? = some (.map es clock)) (h : MOk (mkV P k) (mkV P e) ks vs es clock C) :
    ∃ (es' : Array MapEntry) (clock' j : Nat) (x : MapEntry), (Instr.mapEntry t (.map (some b)) (mkV P k xs)).run P w = .ok (.tuple #[mkV P e (getC xs zs C), .int .i64 x.born]) (putB w b (.map es' clock')) ∧ MOk (mkV P k) (mkV P e) ks vs es' clock' (putC xs (getC xs zs C) C) ∧
      es'[j]? = some x ∧ fndC xs (putC xs (getC xs zs C) C) 0 = some j := by
  have hc := run_checkKey_kT (P := P) false w 8 hk 10000 (by omega) hx
  rcases run_findKey_kT (w := w) hw hk hx h with ⟨h1, h2⟩ | ⟨j, x, h1, h2, h3⟩
  · have hg : getC xs zs C = zs := by unfold getC; rw [h1]
    rw [hg]
    refine ⟨_, _, es.size, ⟨mkV P k xs, mkV P e zs, clock⟩, ?_, h.push hx hzs h1, by simp, by rw [fndC_put hx, h1, h.size]; rfl⟩
    simp [Instr.mapEntry, run_underlying ht, MapKept.run_getObj_map hb, hc, h2, hz, MapKept.run_setObj_map _ hb, putB, goInt]
  · obtain ⟨c, g1, g2, g4, g3, g5⟩ := h.ent j x h2
    obtain ⟨c', _, f1, f2⟩ := fndC_some h1
    rw [Nat.sub_zero, g1] at f1
    cases f1
    have hkey : x.key = mkV P k xs := by rw [g2, hit_eq hx g3 f2]
    have hg : getC xs zs C = c.2 := by unfold getC; rw [h1]; simp [g1]
    rw [hg]
    have hm := h.modify hx g5 h1
    have hes : (es.modify j fun e' => { e' with key := mkV P k xs, val := mkV P e c.2 }) = es.modify j fun e' => { e' with key := mkV P k xs } := by
      apply Array.ext_getElem?
      intro i
      rw [Array.getElem?_modify, Array.getElem?_modify]
      split
      · rename_i hji
        subst hji
        rw [h2]
        simp [g4]
      · rfl
    rw [hes] at hm
    refine ⟨_, _, j, { x with key := mkV P k xs }, ?_, hm, by rw [Array.getElem?_modify, if_pos rfl, h2]; rfl, by rw [fndC_put hx, h1]; rfl⟩
    simp [Instr.mapEntry, run_underlying ht, MapKept.run_getObj_map hb, hc, h3, h2, hkey, run_stays hx hw, MapKept.run_setObj_map _ hb, putB, goInt, g4]
theorem MOk.setVal (h : MOk (mkV P k) (mkV P e) ks vs es clock C) (hy : kdVs vs ys = true) {j : Nat} {c : List Value × List Value} (hj : C[j]? = some c) : MOk (mkV P k) (mkV P e) ks vs (es.modify j fun e' => { e' with val := mkV P e ys }) clock (C.set j (c.1, ys)) := by
  have get : ∀ (i : Nat) x, (es.modify j fun e' => { e' with val := mkV P e ys })[i]? = some x → ∃ x0, es[i]? = some x0 ∧ x = if j = i then { x0 with val := mkV P e ys } else x0 := fun i x hi => by
    rw [Array.getElem?_modify] at hi
    split at hi
    · rename_i hji
      rw [Option.map_eq_some_iff] at hi
      obtain ⟨x0, h1, h2⟩ := hi
      exact ⟨x0, h1, by rw [if_pos hji]; exact h2.symm⟩
    · rename_i hji
      exact ⟨x, hi, by rw [if_neg hji]⟩
  refine ⟨by simp [h.size], fun i x hi => ?_, fun i x hi => ?_, fun i i' x y hi hi' hb => ?_⟩
  · obtain ⟨x0, h1, h2⟩ := get i x hi
    obtain ⟨c', g1, g2, g3, g4, g5⟩ := h.ent i x0 h1
    by_cases hji : j = i
    · subst hji
      rw [if_pos rfl] at h2
      subst h2
      rw [hj] at g1
      cases g1
      exact ⟨(c.1, ys), by rw [List.getElem?_set_self (List.getElem?_eq_some_iff.1 hj).1], g2, rfl, g4, hy⟩
    · rw [if_neg hji] at h2
      subst h2
      exact ⟨c', by rw [List.getElem?_set_ne hji]; exact g1, g2, g3, g4, g5⟩
  · obtain ⟨x0, h1, h2⟩ := get i x hi
    have := h.born i x0 h1
    rw [h2]
    split
    · exact this
    · exact this
  · obtain ⟨x0, h1, h2⟩ := get i x hi
    obtain ⟨y0, h3, h4⟩ := get i' y hi'
    refine h.inj i i' x0 y0 h1 h3 ?_
    have e1 : x.born = x0.born := by rw [h2]; split <;> rfl
    have e2 : y.born = y0.born := by rw [h4]; split <;> rfl
    rw [← e1, ← e2, hb]
theorem run_entryStore_kT (hy : kdVs vs ys = true) (hb : w.heap[b]? = some (.map es clock)) (h : MOk (mkV P k) (mkV P e) ks vs es clock C) {j : Nat} {x : MapEntry} (hj : es[j]? = some x) {c : List Value × List Value} (hc : C[j]? = some c) :
    ∃ es' : Array MapEntry, (Instr.entryStore t (.map (some b)) (.int .i64 x.born) (mkV P e ys)).run P w = .ok () (putB w b (.map es' clock)) ∧ MOk (mkV P k) (mkV P e) ks vs es' clock (C.set j (c.1, ys)) := by
  have hf : es.findIdx? (fun e => (e.born : Int) == (x.born : Int)) = some j := by
    rw [Array.findIdx?_eq_some_iff_getElem]
    obtain ⟨hlt, hget⟩ := Array.getElem?_eq_some_iff.1 hj
    refine ⟨hlt, by rw [hget]; simp, fun i hi => ?_⟩
    intro heq
    have hi' : i < es.size := by omega
    have hbb : (es[i].born : Int) = x.born := by simpa using heq
    have := h.inj i j es[i] x (Array.getElem?_eq_getElem hi') hj (by omega)
    omega
  exact ⟨_, by simp [Instr.entryStore, MapKept.run_getObj_map hb, asInt, asIntOf, hf, MapKept.run_setObj_map _ hb, putB], h.setVal hy hc⟩
/-- An entry is struck out. -/
theorem MOk.erase (h : MOk (mkV P k) (mkV P e) ks vs es clock C) (j : Nat) : MOk (mkV P k) (mkV P e) ks vs (es.eraseIdxIfInBounds j) clock (C.eraseIdx j) := by
  have hes : (es.eraseIdxIfInBounds j).toList = es.toList.eraseIdx j := by simp
  have hC : es.toList.length = C.length := by simpa using h.size
  have get : ∀ (i : Nat) x, (es.eraseIdxIfInBounds j)[i]? = some x → es[if i < j then i else i + 1]? = some x := fun i x hi => by
    rw [← Array.getElem?_toList, hes, List.getElem?_eraseIdx] at hi
    split at hi
    · rename_i h1; rw [if_pos h1]; simpa using hi
    · rename_i h1; rw [if_neg h1]; simpa using hi
  refine ⟨?_, fun i x hi => ?_, fun i x hi => h.born _ x (get i x hi), fun i i' x y hi hi' hb => ?_⟩
  · rw [← Array.length_toList, hes, List.length_eraseIdx, List.length_eraseIdx, hC]
  · obtain ⟨c, g1, g2⟩ := h.ent _ x (get i x hi)
    refine ⟨c, ?_, g2⟩
    rw [List.getElem?_eraseIdx]
    split at g1
    · rename_i h1; rw [if_pos h1]; exact g1
    · rename_i h1; rw [if_neg h1]; exact g1
  · have := h.inj _ _ x y (get i x hi) (get i' y hi') hb
    split at this <;> split at this <;> omega
theorem run_delete_kT (hw : wideT P k = true) (ht : P.underlying t = some (.map k e)) (hk : kT P 8 k = some ks) (hx : kdVs ks xs = true) (hb : w.heap[b]? = some (.map es clock)) (h : MOk (mkV P k) (mkV P e) ks vs es clock C) {ats : Array TypeId} (hat : ats[0]? = some t) (ty : TypeId) :
    ∃ es' : Array MapEntry, (Builtin.delete_ ats ty #[.map (some b), mkV P k xs]).run P w = .ok (.tuple #[]) (putB w b (.map es' clock)) ∧ MOk (mkV P k) (mkV P e) ks vs es' clock (delC xs C) := by
  have hc := run_checkKey_kT (P := P) es.isEmpty w 8 hk 10000 (by omega) hx
  unfold delC
  rcases run_findKey_kT (w := w) hw hk hx h with ⟨h1, h2⟩ | ⟨j, x, h1, h2, h3⟩
  · rw [h1]
    exact ⟨es, by simp [Builtin.delete_, hat, run_underlying ht, MapKept.run_getObj_map hb, hc, h2, MapKept.run_setObj_map _ hb, putB], h⟩
  · rw [h1]
    exact ⟨_, by simp [Builtin.delete_, hat, run_underlying ht, MapKept.run_getObj_map hb, hc, h3, MapKept.run_setObj_map _ hb, putB], h.erase j⟩
end
end Go.Ev
