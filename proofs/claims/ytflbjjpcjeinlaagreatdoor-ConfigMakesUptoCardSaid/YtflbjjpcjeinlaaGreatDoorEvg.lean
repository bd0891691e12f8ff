/- What each operation comes to, by the evaluator: all operations but pick. -/
import Derived.Test.YtflbjjpcjeinlaaGreatDoorEvf
namespace Go.Ev
open Go Go.RowKit

section
variable {P : Program} {w0 : W0} {K0 : Nat → Nat → Prop} {tb : Tb} {t : List D} {m : Mem} {g : G} {a : Act} {w : World}

/-- What follows an operation. -/
def Kont (w0 : W0) (K0 : Nat → Nat → Prop) (tb : Tb) (t : List D) (m : Mem) (g : G) (a : Act) (w : World) (id idt fr : Nat) (dst : Option Tmp) (d : D) (δ : Mem) (K : Act → World → Prop) : Prop :=
  ∀ r g' w', Ext g g' w w' → (∀ i, g'.C i → g.C i ∨ i = id ∨ i = idt ∨ (4 * fr ≤ i ∧ i < 4 * (fr + 31))) → VR g' w' d r → RS w0 K0 tb t (look (δ ++ m)) g' a w' → K (a.put dst r) w'

theorem Kont.same {id idt fr : Nat} {dst : Option Tmp} {d : D} {K : Act → World → Prop} (hk : Kont w0 K0 tb t m g a w id idt fr dst d [] K) (hr : RS w0 K0 tb t (look m) g a w) {r : Value} (hv : VR g w d r) : K (a.put dst r) w :=
  hk r g w (Ext.refl g w) (fun _ h => .inl h) hv hr

theorem wp_val {o : Oper} {K : Act → World → Prop} {Q : Exit → Act → World → Prop} {r : Value} {w' : World} (hx : (execOp a.eval o).run P w = .ok (.value r) w') (h : K (a.put o.dst r) w') : o.wp P a w K Q := by
  unfold Oper.wp
  rw [hx]
  exact h

theorem wp_skp {o : Oper} {K : Act → World → Prop} {Q : Exit → Act → World → Prop} {w' : World} (hx : (execOp a.eval o).run P w = .ok .skip w') (h : K (a.put o.dst undef) w') : o.wp P a w K Q := by
  unfold Oper.wp
  rw [hx]
  exact h

/-! ### Cells filled by parts -/
theorem fold_cells (l : List Value) : ∀ (off : Nat) (k : Nat) (cs : Array Value), off + k + l.length ≤ cs.size →
    ((l.zipIdx k).foldl (fun cs (x : Value × Nat) => cs.setIfInBounds (off + x.2) x.1) cs).toList = cs.toList.take (off + k) ++ l ++ cs.toList.drop (off + k + l.length) := by
  induction l with
  | nil => intro off k cs h; simp
  | cons v l ih =>
    intro off k cs h
    simp only [List.zipIdx_cons, List.foldl_cons]
    rw [ih off (k + 1) _ (by simp at h ⊢; omega)]
    have e := list_seg_step cs.toList (off + k) v l (by simp at h ⊢; omega)
    simpa [Array.toList_setIfInBounds, Nat.add_assoc] using e

theorem fillD_ok {place place' : Nat → Option (Nat × Nat)} (hpl : ∀ i x, place i = some x → place' i = some x) : ∀ {ps : List (Nat × D)} {c c' : List D} {vs : List (Nat × Value)} {cs : Array Value},
    fillD place c ps = some c' → vs.length = ps.length → (∀ (j i : Nat) (d : D), ps[j]? = some (i, d) → ∃ v, vs[j]? = some (i, v) ∧ VR g w d v) →
    cs.size = c.length → (∀ i, i < c.length → oneC (cs.getD i undef) = true) → (∀ (i : Nat) (d : D), c[i]? = some d → VR g w d (cs.getD i undef)) →
    ∃ cs', Instr.fill place' cs vs = some cs' ∧ cs'.size = c'.length ∧ (∀ i, i < c'.length → oneC (cs'.getD i undef) = true) ∧ ∀ (i : Nat) (d : D), c'[i]? = some d → VR g w d (cs'.getD i undef)
  | [], c, c', [], cs, h, _, _, hs, h1, hc => by cases h; exact ⟨cs, rfl, hs, h1, hc⟩
  | [], _, _, _ :: _, _, _, hl, _, _, _, _ => by simp at hl
  | _ :: _, _, _, [], _, _, hl, _, _, _, _ => by simp at hl
  | (i, d) :: ps, c, c', (i', v) :: vs, cs, h, hl, hv, hs, h1, hc => by
    obtain ⟨v', hv', hvr⟩ := hv 0 i d rfl
    simp at hv'
    obtain ⟨rfl, rfl⟩ := hv'
    simp only [fillD] at h
    split at h
    · rename_i off size l hp hcl
      split at h
      · rename_i hb
        simp only [Bool.and_eq_true] at hb
        have hb1 := Nat.eq_of_beq_eq_true hb.1
        have hb2 := Nat.le_of_ble_eq_true hb.2
        obtain ⟨e1, e2, e3⟩ := cellsOf_ok hvr hcl
        have hp' := hpl _ _ hp
        simp only [Instr.fill, hp']
        have hc1 : (decide (v.cells.size ≠ size) || decide (off + v.cells.size > cs.size)) = false := by simp; omega
        rw [hc1]
        simp only [Bool.false_eq_true, if_false]
        have hfold := fold_cells v.cells.toList off 0 cs (by simp; omega)
        have hfe : (v.cells.zipIdx.foldl (fun cs (x : Value × Nat) => cs.setIfInBounds (off + x.2) x.1) cs).toList = cs.toList.take off ++ v.cells.toList ++ cs.toList.drop (off + v.cells.toList.length) := by
          rw [← Array.foldl_toList, Array.toList_zipIdx]
          simpa using hfold
        have hget : ∀ j, (v.cells.zipIdx.foldl (fun cs (x : Value × Nat) => cs.setIfInBounds (off + x.2) x.1) cs).getD j undef = (cs.toList.take off ++ v.cells.toList ++ cs.toList.drop (off + v.cells.toList.length)).getD j undef := fun j => by
          rw [← hfe]; simp
        have hsz : (v.cells.zipIdx.foldl (fun cs (x : Value × Nat) => cs.setIfInBounds (off + x.2) x.1) cs).size = c.length := by
          rw [← Array.length_toList, hfe]; simp; omega
        have hlen : (splice c off l).length = c.length := by unfold splice; simp; omega
        refine fillD_ok hpl h (by simpa using hl) (fun j i d hd => by simpa using hv (j + 1) i d (by simpa using hd)) (by rw [hsz, hlen]) (fun j hj => ?_) (fun j d hd => ?_)
        · rw [hget]
          rw [hlen] at hj
          by_cases hj1 : j < off
          · rw [List.append_assoc, List.getD_eq_getElem?_getD, List.getElem?_append_left (by simp; omega), List.getElem?_take_of_lt hj1]
            have := h1 j hj
            simpa using this
          · by_cases hj2 : j < off + l.length
            · rw [List.append_assoc, List.getD_eq_getElem?_getD, List.getElem?_append_right (by simp; omega), List.getElem?_append_left (by simp; omega)]
              have := e2 (j - off) (by omega)
              simpa [show min off cs.size = off by omega] using this
            · rw [List.getD_eq_getElem?_getD, List.getElem?_append_right (by simp; omega), List.getElem?_drop]
              have := h1 j hj
              simpa [show min off cs.size = off by omega, show off + v.cells.size + (j - (off + v.cells.size)) = j by omega] using this
        · rw [hget]
          unfold splice at hd
          by_cases hj1 : j < off
          · rw [List.append_assoc, List.getElem?_append_left (by simp; omega), List.getElem?_take_of_lt hj1] at hd
            rw [List.append_assoc, List.getD_eq_getElem?_getD, List.getElem?_append_left (by simp; omega), List.getElem?_take_of_lt hj1]
            have := hc j d hd
            simpa using this
          · by_cases hj2 : j < off + l.length
            · rw [List.append_assoc, List.getElem?_append_right (by simp; omega), List.getElem?_append_left (by simp; omega)] at hd
              rw [List.append_assoc, List.getD_eq_getElem?_getD, List.getElem?_append_right (by simp; omega), List.getElem?_append_left (by simp; omega)]
              have := e3 (j - off) d (by simpa [show min off c.length = off by omega] using hd)
              simpa [show min off cs.size = off by omega] using this
            · rw [List.getElem?_append_right (by simp; omega), List.getElem?_drop] at hd
              rw [List.getD_eq_getElem?_getD, List.getElem?_append_right (by simp; omega), List.getElem?_drop]
              have hj3 : off + l.length + (j - (c.take off ++ l).length) = j := by simp; omega
              rw [hj3] at hd
              have := hc j d hd
              simpa [show min off cs.size = off by omega, show off + v.cells.size + (j - (off + v.cells.size)) = j by omega] using this
      · cases h
    · cases h

theorem run_sizeOf' {t : TypeId} {i : TypeInfo} (hi : P.info? t = some i) (w : World) : (sizeOf t).run P w = .ok i.size w := by simp [sizeOf, typeInfo, hi]

theorem run_isAgg {t : TypeId} {d : TypeDesc} (hu : P.underlying t = some d) (w : World) : (isAgg t).run P w = .ok (aggD d) w := by
  unfold isAgg
  rw [Sem.run_bind, run_underlying hu w]
  cases d <;> simp [aggD]

/-- A load. -/
theorem run_load_cells (hT : TbOk P tb) {T : TypeId} {ti : Ti} (ht : tb T = some ti) {b off : Nat} {l : List D} {d : D} (f : Nat → Value) (hcell : ∀ i, i < l.length → w.cell? ⟨b, off + i, none⟩ = some (f i))
    (hf : ∀ (i : Nat) (e : D), l[i]? = some e → VR g w e (f i)) (h1 : ∀ i, i < l.length → oneC (f i) = true) (h : ofCells ti.d.isAgg ti.size l = some d) :
    ∃ r, (Instr.loadAt T (.pointer (some ⟨b, off, none⟩))).run P w = .ok r w ∧ VR g w d r := by
  obtain ⟨i, dd, z, hi, hu, hsize, _, _, _, _, hdd, _⟩ := hT.info ht
  have hagg := run_isAgg hu w
  rw [descOk_agg hdd] at hagg
  have := ofCells_ok f hf h1 h
  cases ha : ti.d.isAgg with
  | true =>
    rw [ha] at hagg
    obtain ⟨hle, cs, hcs, hget, hv⟩ := this.1 ha
    refine ⟨.agg cs, ?_, hv⟩
    have hl := run_loadCells_list (P := P) w ⟨b, off, none⟩ cs.toList (fun j v hj => by
      rw [Addr.add_lit]
      have hlt : j < ti.size := by
        have := (List.getElem?_eq_some_iff.1 hj).1
        simpa [hcs] using this
      rw [hcell j (by omega)]
      have := hget j hlt
      simp at hj
      rw [← this]; exact hj.symm ▸ rfl)
    simp only [Array.length_toList, Array.toArray_toList, hcs] at hl
    simp [Instr.loadAt, Instr.sureAddr, loadVar, hagg, run_sizeOf' hi, hsize, hl]
  | false =>
    rw [ha] at hagg
    obtain ⟨hpos, hv⟩ := this.2 ha
    refine ⟨f 0, ?_, hv⟩
    have h0 := hcell 0 hpos
    simp only [Nat.add_zero] at h0
    simp [Instr.loadAt, Instr.sureAddr, loadVar, hagg, h0]

theorem run_nil_bounds {P : Program} {w : World} {n : Nat} {k : IntKind} {i : Int} {c : BoundsCode} (h : 0 ≤ i ∧ i ≤ (n : Int)) : (Instr.sliceBound (.int k i) n c).run P w = .ok i.toNat w := by
  simp [Instr.sliceBound, asIntOf, h]

theorem run_binI {op : BinOp} {T : TypeId} {k : IntKind} {x y : Int} {r : Value} (h : binI op k x y = some (true, r)) : (binOp op T (.int k x) (.int k y)).run P w = .ok r w := by
  cases op <;> simp only [binI, Option.some.injEq, Prod.mk.injEq, reduceCtorEq, true_and] at h <;>
    first
      | (subst h; simp [binOp, Op.intArith, Op.intBits, Op.intCmp]; done)
      | skip
  · obtain ⟨h1, rfl⟩ := h
    simp only [bne_iff_ne, ne_eq] at h1
    simp [binOp, Op.intDiv, h1]
  · obtain ⟨h1, rfl⟩ := h
    simp only [bne_iff_ne, ne_eq] at h1
    simp [binOp, Op.intDiv, h1]

theorem okV_binS {op : BinOp} {x y : ByteArray} {r : Value} (h : binS op x y = some (true, r)) : okV r = true := by
  cases op <;> simp only [binS, Option.some.injEq, Prod.mk.injEq, reduceCtorEq, true_and] at h <;> first | (subst h; rfl) | skip
  obtain ⟨h1, rfl⟩ := h
  simp only [decide_eq_true_eq] at h1
  simp only [okV, decide_eq_true_eq, ByteArray.size_append]
  exact h1
theorem okV_binI {op : BinOp} {k : IntKind} {x y : Int} {r : Value} (h : binI op k x y = some (true, r)) : okV r = true := by
  cases op <;> simp only [binI, Option.some.injEq, Prod.mk.injEq, reduceCtorEq, true_and] at h <;> first | (subst h; rfl) | (obtain ⟨_, rfl⟩ := h; rfl)
theorem run_binS {op : BinOp} {T : TypeId} {x y : ByteArray} {r : Value} (h : binS op x y = some (true, r)) : (binOp op T (.string x) (.string y)).run P w = .ok r w := by
  cases op <;> simp only [binS, Option.some.injEq, Prod.mk.injEq, reduceCtorEq, true_and] at h <;>
    first
      | (subst h; simp [binOp, Op.stringOp]; done)
      | skip
  obtain ⟨h1, rfl⟩ := h
  simp only [decide_eq_true_eq] at h1
  have h2 : ¬ (((x.size + y.size : Nat) : Int) > IntKind.i64.max) := by rw [IntKind.max_i64]; omega
  simp [binOp, Op.stringOp]
  omega

/-- A binary operation. -/
theorem run_binD (hT : TbOk P tb) {op : BinOp} {T : TypeId} {x y d : D} {vx vy : Value} (h : binD (tb T) op x y = some (true, d)) (hx : VR g w x vx) (hy : VR g w y vy) (ox oy : Operand) :
    ∃ r, ((do eqGuard op T ox oy vx vy; binOp op T vx vy : Sem Value)).run P w = .ok r w ∧ VR g w d r := by
  unfold binD at h
  split at h
  · cases hx.val; cases hy.val
    split at h
    · simp only [Option.some.injEq, Prod.mk.injEq, decide_eq_true_eq] at h
      obtain ⟨h1, rfl⟩ := h
      refine ⟨_, ?_, .v _⟩
      simp [eqGuard_at_int, binOp, Op.shift, show ¬ (_ : Int) < 0 from Int.not_lt.2 h1]
    · simp only [Option.some.injEq, Prod.mk.injEq, decide_eq_true_eq] at h
      obtain ⟨h1, rfl⟩ := h
      refine ⟨_, ?_, .v _⟩
      simp [eqGuard_at_int, binOp, Op.shift, show ¬ (_ : Int) < 0 from Int.not_lt.2 h1]
    · split at h
      · rename_i hk
        have hk := ikEq_eq hk
        subst hk
        simp only [Option.map_eq_some_iff] at h
        obtain ⟨⟨c, r⟩, h1, h2⟩ := h
        simp only [Prod.mk.injEq] at h2
        obtain ⟨rfl, rfl⟩ := h2
        refine ⟨r, ?_, .v _ (okV_binI h1)⟩
        rw [Sem.run_bind, eqGuard_at_int]
        exact run_binI h1
      · cases h
  · cases hx.val; cases hy.val
    simp only [Option.map_eq_some_iff] at h
    obtain ⟨⟨c, r⟩, h1, h2⟩ := h
    simp only [Prod.mk.injEq] at h2
    obtain ⟨rfl, rfl⟩ := h2
    refine ⟨r, ?_, .v _ (okV_binS h1)⟩
    rw [Sem.run_bind, eqGuard_at_string]
    exact run_binS h1
  · cases hx.val; cases hy.val
    split at h
    · rename_i ht
      obtain ⟨i, dd, z, hi, hu, _, _, _, _, _, hdd, _⟩ := hT.info ht
      have hub : P.underlying T = some .bool := by
        cases dd <;> simp [descOk] at hdd
        exact hu
      split at h
      · cases h
        refine ⟨_, ?_, .v _⟩
        simp [eqGuard_at_bool, binOp, run_equal_bool w T _ _ hub]
      · cases h
        refine ⟨_, ?_, .v _⟩
        simp [eqGuard_at_bool, binOp, run_equal_bool w T _ _ hub]
      · cases h
    · cases h
  · split at h
    · cases h
    · rename_i ti ht
      obtain ⟨i, dd, z, hi, hu, _, _, _, _, _, hdd, _, heq⟩ := hT.info ht
      split at h
      · rename_i b he hb
        cases h
        simp only [Bool.and_eq_true] at he
        obtain ⟨h1, h2, h3⟩ := run_eql_agg (P := P) hu (by rw [descOk_agg hdd]; exact he.2) (heq he.1) hb hx hy ox oy
        exact ⟨_, by rw [Sem.run_bind, h1]; exact h2, .v _⟩
      · rename_i b he hb
        cases h
        simp only [Bool.and_eq_true] at he
        obtain ⟨h1, h2, h3⟩ := run_eql_agg (P := P) hu (by rw [descOk_agg hdd]; exact he.2) (heq he.1) hb hx hy ox oy
        exact ⟨_, by rw [Sem.run_bind, h1]; exact h3, .v _⟩
      · cases h
  · obtain ⟨_, rfl⟩ := hx.isLoc
    cases hy.val
    split at h
    · rename_i ht
      obtain ⟨i, dd, z, hi, hu, _, _, _, _, _, hdd, _⟩ := hT.info ht
      obtain ⟨te, hup⟩ : ∃ te, P.underlying T = some (.pointer te) := by
        cases dd <;> simp [descOk] at hdd
        exact ⟨_, hu⟩
      have hg : ∀ (op : BinOp) (a : Option Addr), (eqGuard op T ox oy (.pointer a) (.pointer none)).run P w = .ok () w := fun op a => by unfold eqGuard; cases op <;> rfl
      have he : ∀ a : Addr, (Op.equal T (.pointer (some a)) (.pointer none)).run P w = .ok false w := fun a => by
        show (Op.equalIn (9999 + 1) T _ _).run P w = _
        rw [Op.equalIn, Sem.run_bind, run_underlying hup]
        rfl
      split at h
      · cases h
        refine ⟨_, ?_, .v _⟩
        rw [Sem.run_bind, hg]
        simp [binOp, he]
      · cases h
        refine ⟨_, ?_, .v _⟩
        rw [Sem.run_bind, hg]
        simp [binOp, he]
      · cases h
    · cases h
  · have hk := hx.isRef
    cases hk
    cases hy.val
    split at h
    · rename_i ht
      obtain ⟨i, dd, z, hi, hu, _, _, _, _, _, hdd, _⟩ := hT.info ht
      obtain ⟨te, hup⟩ : ∃ te, P.underlying T = some (.pointer te) := by
        cases dd <;> simp [descOk] at hdd
        exact ⟨_, hu⟩
      have hg : ∀ (op : BinOp) (a : Option Addr), (eqGuard op T ox oy (.pointer a) (.pointer none)).run P w = .ok () w := fun op a => by unfold eqGuard; cases op <;> rfl
      have he : ∀ a : Addr, (Op.equal T (.pointer (some a)) (.pointer none)).run P w = .ok false w := fun a => by
        show (Op.equalIn (9999 + 1) T _ _).run P w = _
        rw [Op.equalIn, Sem.run_bind, run_underlying hup]
        rfl
      split at h
      · cases h
        refine ⟨_, ?_, .v _⟩
        rw [Sem.run_bind, hg]
        simp [binOp, he]
      · cases h
        refine ⟨_, ?_, .v _⟩
        rw [Sem.run_bind, hg]
        simp [binOp, he]
      · cases h
    · cases h
  · cases hx.val
    cases hy.val
    split at h
    · rename_i ht
      obtain ⟨i, dd, z, hi, hu, _, _, _, _, _, hdd, _⟩ := hT.info ht
      obtain ⟨te, hup⟩ : ∃ te, P.underlying T = some (.pointer te) := by
        cases dd <;> simp [descOk] at hdd
        exact ⟨_, hu⟩
      have hg : ∀ (op : BinOp) (a : Option Addr), (eqGuard op T ox oy (.pointer a) (.pointer none)).run P w = .ok () w := fun op a => by unfold eqGuard; cases op <;> rfl
      have he : (Op.equal T (.pointer none) (.pointer none)).run P w = .ok true w := by
        show (Op.equalIn (9999 + 1) T _ _).run P w = _
        rw [Op.equalIn, Sem.run_bind, run_underlying hup]
        rfl
      split at h
      · cases h
        refine ⟨_, ?_, .v _⟩
        rw [Sem.run_bind, hg]
        simp [binOp, he]
      · cases h
        refine ⟨_, ?_, .v _⟩
        rw [Sem.run_bind, hg]
        simp [binOp, he]
      · cases h
    · cases h
  · cases h

theorem equal_nil {T e : TypeId} (hu : P.underlying T = some (.slice e)) {a : Option Addr} {n c : Nat} : (Op.equal T (.slice a n c) (.slice none 0 0)).run P w = .ok a.isNone w := by
  show (Op.equalIn (9999 + 1) T _ _).run P w = _
  cases a <;> (rw [Op.equalIn, Sem.run_bind, run_underlying hu]; rfl)
theorem run_nilC0 (hT : TbOk P tb) {T : TypeId} {y : Operand} {x : D} {vx : Value} {b : Bool} (h : nilC0 (tb T) y x = some b) (hx : VR g w x vx) (ox : Operand) :
    ∃ vy, y = .const vy ∧ (∀ op : BinOp, op = .eql ∨ op = .neq → (eqGuard op T ox y vx vy).run P w = .ok () w) ∧ (Op.equal T vx vy).run P w = .ok b w ∧ (∀ op : BinOp, op = .eql ∨ op = .neq → binOp op T vx vy = (match op with | .eql => do pure (.bool (← Op.equal T vx vy)) | _ => do pure (.bool (!(← Op.equal T vx vy))))) := by
  unfold nilC0 at h
  have nil : ∀ (a : Option Addr) (n c : Nat) {e : TypeId}, P.underlying T = some (.slice e) → b = a.isNone → y = .const (.slice none 0 0) → vx = .slice a n c → ∃ vy, y = .const vy ∧ (∀ op : BinOp, op = .eql ∨ op = .neq → (eqGuard op T ox y vx vy).run P w = .ok () w) ∧ (Op.equal T vx vy).run P w = .ok b w ∧ (∀ op : BinOp, op = .eql ∨ op = .neq → binOp op T vx vy = (match op with | .eql => do pure (.bool (← Op.equal T vx vy)) | _ => do pure (.bool (!(← Op.equal T vx vy))))) := fun a n c e hu hb hy hv => by
    subst hb hy hv
    exact ⟨_, rfl, fun op ho => by rcases ho with rfl | rfl <;> (unfold eqGuard; rfl), equal_nil hu, fun op ho => by rcases ho with rfl | rfl <;> rfl⟩
  split at h
  · rename_i sz n get E e _ _ _ _ ht
    cases h
    obtain ⟨i, dd, z, hi, hu, _, _, _, _, _, hdd, _⟩ := hT.info ht
    have e1 := descOk_sl hdd
    subst e1
    have hr : vx = .slice none 0 0 := hx.isSl.2
    exact nil none 0 0 hu rfl rfl hr
  · rename_i sz n get e _ _ _ _ ht
    cases h
    obtain ⟨i, dd, z, hi, hu, _, _, _, _, _, hdd, _⟩ := hT.info ht
    have e1 := descOk_sl hdd
    subst e1
    obtain ⟨h1, h2⟩ := hx.isSl
    have h2 : ∀ n c, vx ≠ .slice none n c := h2
    obtain ⟨a, n', c', rfl⟩ : ∃ a n' c', vx = .slice (some a) n' c' := by
      cases h1 with
      | sl _ _ _ b off cap => exact ⟨_, _, _, rfl⟩
      | sl0 _ _ a cap =>
        cases a with
        | none => exact absurd rfl (h2 _ _)
        | some a => exact ⟨_, _, _, rfl⟩
    exact nil _ _ _ hu rfl rfl rfl
  · rename_i sz n get e _ _ _ _ ht
    cases h
    obtain ⟨i, dd, z, hi, hu, _, _, _, _, _, hdd, _⟩ := hT.info ht
    have e1 := descOk_sl hdd
    subst e1
    obtain ⟨n', c', rfl⟩ : ∃ n c, vx = .slice none n c := hx.isSl.2
    exact nil _ _ _ hu rfl rfl rfl
  · rename_i ht
    cases h
    obtain ⟨i, dd, z, hi, hu, _, _, _, _, _, hdd, _⟩ := hT.info ht
    cases dd <;> simp [descOk] at hdd
    cases hx.val
    exact ⟨_, rfl, fun op ho => by rcases ho with rfl | rfl <;> (unfold eqGuard; rfl), by
      show (Op.equalIn (9999 + 1) T _ _).run P w = _
      rw [Op.equalIn, Sem.run_bind, run_underlying hu]; rfl, fun op ho => by rcases ho with rfl | rfl <;> rfl⟩
  · rename_i ht
    cases h
    obtain ⟨i, dd, z, hi, hu, _, _, _, _, _, hdd, _⟩ := hT.info ht
    cases dd <;> simp [descOk] at hdd
    obtain ⟨cs, rfl, _⟩ := hx.isClo
    exact ⟨_, rfl, fun op ho => by rcases ho with rfl | rfl <;> (unfold eqGuard; rfl), by
      show (Op.equalIn (9999 + 1) T _ _).run P w = _
      rw [Op.equalIn, Sem.run_bind, run_underlying hu]; rfl, fun op ho => by rcases ho with rfl | rfl <;> rfl⟩
  · rename_i ht
    cases h
    obtain ⟨i, dd, z, hi, hu, _, _, _, _, _, hdd, _⟩ := hT.info ht
    cases dd <;> simp [descOk] at hdd
    obtain ⟨cs, rfl, _⟩ := hx.isIfc
    exact ⟨_, rfl, fun op ho => by rcases ho with rfl | rfl <;> (unfold eqGuard; rfl), by
      show (Op.equalIn (9999 + 1) T _ _).run P w = _
      rw [Op.equalIn, Sem.run_bind, run_underlying hu]; rfl, fun op ho => by rcases ho with rfl | rfl <;> rfl⟩
  · rename_i ht
    cases h
    obtain ⟨i, dd, z, hi, hu, _, _, _, _, _, hdd, _⟩ := hT.info ht
    cases dd <;> simp [descOk] at hdd
    cases hx.val
    exact ⟨_, rfl, fun op ho => by rcases ho with rfl | rfl <;> (unfold eqGuard; cases ox <;> rfl), by
      show (Op.equalIn (9999 + 1) T _ _).run P w = _
      rw [Op.equalIn, Sem.run_bind, run_underlying hu]; rfl, fun op ho => by rcases ho with rfl | rfl <;> rfl⟩
  · rename_i ht
    cases h
    obtain ⟨i, dd, z, hi, hu, _, _, _, _, _, hdd, _⟩ := hT.info ht
    cases dd <;> simp [descOk] at hdd
    obtain ⟨_, rfl⟩ := hx.isMp
    exact ⟨_, rfl, fun op ho => by rcases ho with rfl | rfl <;> (unfold eqGuard; rfl), by
      show (Op.equalIn (9999 + 1) T _ _).run P w = _
      rw [Op.equalIn, Sem.run_bind, run_underlying hu]; rfl, fun op ho => by rcases ho with rfl | rfl <;> rfl⟩
  · rename_i ht
    cases h
    obtain ⟨i, dd, z, hi, hu, _, _, _, _, _, hdd, _⟩ := hT.info ht
    cases dd <;> simp [descOk] at hdd
    cases hx.val
    exact ⟨_, rfl, fun op ho => by rcases ho with rfl | rfl <;> (unfold eqGuard; rfl), by
      show (Op.equalIn (9999 + 1) T _ _).run P w = _
      rw [Op.equalIn, Sem.run_bind, run_underlying hu]; rfl, fun op ho => by rcases ho with rfl | rfl <;> rfl⟩
  · cases h
theorem run_nilC (hT : TbOk P tb) {op : BinOp} {T : TypeId} {y : Operand} {x : D} {vx : Value} {b : Bool} (h : nilC op (tb T) y x = some b) (hx : VR g w x vx) (ox : Operand) :
    ∃ vy, y = .const vy ∧ ((do eqGuard op T ox y vx vy; binOp op T vx vy : Sem Value)).run P w = .ok (.bool b) w := by
  unfold nilC at h
  split at h
  · obtain ⟨vy, h1, h2, h3, h4⟩ := run_nilC0 (P := P) (w := w) hT h hx ox
    refine ⟨vy, h1, ?_⟩
    rw [Sem.run_bind, h2 _ (.inl rfl)]
    simp only [h4 _ (.inl rfl)]
    simp [h3]
  · split at h
    · cases h
      rename_i h
      obtain ⟨vy, h1, h2, h3, h4⟩ := run_nilC0 (P := P) (w := w) hT h hx ox
      refine ⟨vy, h1, ?_⟩
      rw [Sem.run_bind, h2 _ (.inr rfl)]
      simp only [h4 _ (.inr rfl)]
      simp [h3]
    · cases h
      rename_i h
      obtain ⟨vy, h1, h2, h3, h4⟩ := run_nilC0 (P := P) (w := w) hT h hx ox
      refine ⟨vy, h1, ?_⟩
      rw [Sem.run_bind, h2 _ (.inr rfl)]
      simp only [h4 _ (.inr rfl)]
      simp [h3]
    · cases h
  · cases h

theorem run_unD {op : UnOp} {x d : D} {vx : Value} (h : unD op x = some d) (hx : VR g w x vx) : ∃ r, (Op.unary op vx).run P w = .ok r w ∧ VR g w d r := by
  unfold unD at h
  split at h
  · cases h; cases hx.val; exact ⟨_, by simp [Op.unary], .v _⟩
  · cases h; cases hx.val; exact ⟨_, by simp [Op.unary, Op.intArith], .v _⟩
  · cases h; cases hx.val; exact ⟨_, by simp [Op.unary, Op.intBits], .v _⟩
  · cases h

end
end Go.Ev
