/- Slices over a row that may be written; all operations. -/
import Derived.Test.YtflbjjpcjeinlaaGreatDoorEvz
import Derived.Laws.BytesString
namespace Go.Ev
open Go Go.RowKit

section
variable {P : Program} {w0 : W0} {K0 : Nat → Nat → Prop} {tb : Tb} {env : Env} {t : List D} {m : Mem} {g : G} {a : Act} {w : World}

theorem numD_ok (hr : RS w0 K0 tb t (look m) g a w) {x : Operand} {n : Int} (h : numD (ev t x) = some n) : ∃ k, a.eval x = .int k n := by
  unfold numD at h
  split at h
  · rename_i k n' hx
    cases h
    have := hr.ev x
    rw [hx] at this
    exact ⟨k, this.val⟩
  · cases h
theorem bndD_ok (hr : RS w0 K0 tb t (look m) g a w) {z l : Int} {x : Option Operand} (h : bndD t z x = some l) : (x.map a.eval = none ∧ l = z) ∨ ∃ k, x.map a.eval = some (.int k l) := by
  unfold bndD at h
  split at h
  · cases h; exact .inl ⟨rfl, rfl⟩
  · obtain ⟨k, hk⟩ := numD_ok hr h
    exact .inr ⟨k, by simp [hk]⟩
theorem repD_get (z : List D) : ∀ (n j : Nat), (repD z n).length = n * z.length ∧ (j < n * z.length → (repD z n)[j]? = z[j % z.length]?)
  | 0, j => by simp [repD]
  | n + 1, j => by
    obtain ⟨h1, h2⟩ := repD_get z n (j - z.length)
    refine ⟨by simp only [repD, List.length_append, h1]; rw [Nat.add_mul, Nat.one_mul, Nat.add_comm], fun hj => ?_⟩
    simp only [repD]
    by_cases hz : j < z.length
    · rw [List.getElem?_append_left hz, Nat.mod_eq_of_lt hz]
    · rw [List.getElem?_append_right (by omega), h2 (by rw [Nat.add_mul, Nat.one_mul] at hj; omega)]
      congr 1
      exact (Nat.mod_eq_sub_mod (by omega)).symm
theorem run_bounds3 (len cap : Nat) {low : Option Value} {k kh : IntKind} {l h q : Int} (hlow : (low = none ∧ l = 0) ∨ ∃ k, low = some (.int k l))
    (h0 : 0 ≤ l) (h1 : l ≤ h) (h2 : h ≤ q) (h3 : q ≤ cap) : (Instr.sliceBounds true len cap low (some (.int kh h)) (some (.int k q))).run P w = .ok (l.toNat, h.toNat, q.toNat) w := by
  have hh : (0 ≤ h ∧ h ≤ max q 0) := ⟨by omega, by omega⟩
  have hq : (0 ≤ q ∧ q ≤ (cap : Int)) := ⟨by omega, h3⟩
  have hl : (0 ≤ l ∧ l ≤ max h 0) := ⟨h0, by omega⟩
  rcases hlow with ⟨rfl, rfl⟩ | ⟨k, rfl⟩ <;> simp [Instr.sliceBounds, Instr.sliceBound, asIntOf, hh, hl, hq]

theorem evRow_ok (hT : TbOk P tb) {id idt fr : Nat} {o : Oper} {d : D} {δ : Mem} (h : evRow tb fr o t m = some (true, d, δ)) (hr : RS w0 K0 tb t (look m) g a w) (hfr : ∀ i, 4 * fr ≤ i → i < 4 * (fr + 31) → ¬ g.C i)
    {K : Act → World → Prop} {Q : Exit → Act → World → Prop} (hk : Kont w0 K0 tb t m g a w id idt fr o.dst d δ K) : o.wp P a w K Q := by
  unfold evRow at h
  split at h
  · -- makeSlice
    rename_i T l c ho
    split at h
    · rename_i e _ _ _ _ n n' hTs hl hc
      split at h
      · rename_i ie hie
        split at h
        · rename_i hz
          have hz := Nat.eq_of_beq_eq_true hz
          simp only [Option.some.injEq, Prod.mk.injEq, Bool.and_eq_true, decide_eq_true_eq] at h
          obtain ⟨⟨h0, rfl, h2, h3⟩, rfl, rfl⟩ := h
          obtain ⟨_, sd, _, _, hsu, _, _, _, _, _, hsd, _⟩ := hT.info hTs
          have := descOk_sl hsd
          subst this
          obtain ⟨f, _, z, hf, _, hsize, hbytes, hzz, hzo, hzs, _⟩ := hT.info hie
          obtain ⟨e1, e2⟩ := zeroOk_ok (g := g) (w := w) hzo
          simp only [Array.length_toList] at e1
          obtain ⟨kl, hkl⟩ := numD_ok hr hl
          obtain ⟨kc, hkc⟩ := numD_ok hr hc
          have hrun := run_make (P := P) w T e f z hsu hf hzz kl kc n n h0 (Int.le_refl _) (by rw [hbytes]; exact h2) h3
          have hcell : ∀ j, j < n.toNat * f.size → (madeCells z.cells (n.toNat * f.size)).getD j undef = z.cells.getD (j % z.cells.size) undef := fun j hj => by
            have hp : 0 < z.cells.size := by
              rw [hzs, ← hsize]
              rcases Nat.eq_zero_or_pos f.size with h | h
              · rw [h] at hj; omega
              · exact h
            have hm : j % z.cells.size < z.cells.size := Nat.mod_lt _ hp
            simp [madeCells, hj, hm]
          have hlen : (repD ie.zero n.toNat).length = n.toNat * f.size := by rw [(repD_get ie.zero n.toNat 0).1, hz, hsize]
          have hat : ∀ j d, (repD ie.zero n.toNat)[j]? = some d → VR g w d ((madeCells z.cells (n.toNat * f.size)).getD j undef) ∧ oneC ((madeCells z.cells (n.toNat * f.size)).getD j undef) = true := fun j d hd => by
            have hj : j < n.toNat * f.size := by rw [← hlen]; exact (List.getElem?_eq_some_iff.1 hd).1
            rw [(repD_get ie.zero n.toNat j).2 (by rw [hz, ← hsize]; exact hj)] at hd
            rw [hcell j hj]
            obtain ⟨v, hv, h1, h2⟩ := e2 _ d hd
            have : z.cells.size = ie.zero.length := e1
            rw [this, getD_congr (by simpa using hv)]
            exact ⟨h1, h2⟩
          obtain ⟨g', he, hC, hCid, hσ, hrs⟩ := hr.alloc (id := 4 * fr + 2) (hfr _ (by omega) (by omega)) (c := repD ie.zero n.toNat) (T := e) (cs := madeCells z.cells (n.toNat * f.size)) (by rw [size_madeCells, hlen]) (fun j hj => by
              obtain ⟨d, hd⟩ : ∃ d, (repD ie.zero n.toNat)[j]? = some d := ⟨_, List.getElem?_eq_getElem hj⟩
              exact (hat j d hd).2) (fun j d hd => (hat j d hd).1)
          refine wp_val (r := .slice (some ⟨w.heap.size, 0, none⟩) n.toNat n.toNat) (w' := w.alloc (.cells (madeCells z.cells (n.toNat * f.size)) e)) (by simp only [execOp, ho, hkl, hkc]; rw [Sem.run_bind, hrun]; rfl) (hk _ g' _ he (fun i hi => ?_) ?_ (hrs.congr fun j => look_cons _ _ m j))
          · rcases hC i hi with h | h
            · exact .inl h
            · exact .inr (.inr (.inr (by omega)))
          · have := VR.slm (g := g') (w := w.alloc (.cells (madeCells z.cells (n.toNat * f.size)) e)) ie.size (4 * fr + 2) 0 n.toNat hCid
            rw [hσ, Nat.zero_mul] at this
            exact this
        · cases h
      · cases h
    · cases h
  · -- indexAddr
    rename_i T x ix ho
    split at h
    · rename_i e _ _ _ _ sz i off n k hTs hx hi
      split at h
      · rename_i ie hie
        split at h
        · rename_i hsz
          have hsz := Nat.eq_of_beq_eq_true hsz
          simp only [Option.some.injEq, Prod.mk.injEq] at h
          obtain ⟨hb, rfl, rfl⟩ := h
          have hb := bnd_ok hb
          obtain ⟨_, sd, _, _, hsu, _, _, _, _, _, hsd, _⟩ := hT.info hTs
          have := descOk_sl hsd
          subst this
          obtain ⟨f, _, _, hf, _, hsize, _⟩ := hT.info hie
          obtain ⟨kk, hki⟩ := numD_ok hr hi
          obtain ⟨hC, hvx⟩ := (hx ▸ hr.ev x : VR g w (.slm sz i off n) (a.eval x)).isSlm
          exact wp_val (r := .pointer (some ⟨g.σ i, off * sz + k.toNat * ie.size, none⟩)) (w' := w) (by simp [execOp, ho, hvx, hki, Instr.indexAt, run_underlying hsu, asIntOf, hb, run_sizeOf' hf, hsize, Addr.add_lit]) (hk.same hr (.loc i _ hC))
        · cases h
      · cases h
    · cases h
  · -- slice with a greatest one
    rename_i T x lo hi mx ho
    split at h
    · rename_i e _ _ _ _ sz n get p hTs hx
      split at h
      · rename_i ie l u q hie hl hu hq
        split at h
        · rename_i hsz
          have hsz := Nat.eq_of_beq_eq_true hsz
          simp only [Option.some.injEq, Prod.mk.injEq, Bool.and_eq_true, decide_eq_true_eq] at h
          obtain ⟨⟨h0, h1, h2, h3⟩, rfl, rfl⟩ := h
          obtain ⟨_, sd, _, _, hsu, _, _, _, _, _, hsd, _⟩ := hT.info hTs
          have := descOk_sl hsd
          subst this
          obtain ⟨f, _, _, hf, _, hsize, _⟩ := hT.info hie
          have hv := hr.ev x
          rw [hx] at hv
          have hv' := hv.isSl.1
          obtain ⟨kq, hkq⟩ := numD_ok hr hq
          obtain ⟨ku, hku⟩ := numD_ok hr hu
          obtain ⟨ad, cap, hvx, hcap⟩ : ∃ ad cap, a.eval x = .slice ad n cap ∧ n ≤ cap := by
            generalize a.eval x = vx at *
            cases hv' with
            | sl _ _ _ b o cap _ hn => exact ⟨_, _, rfl, hn⟩
            | sl0 => exact ⟨_, _, rfl, Nat.zero_le _⟩
          have hb := run_bounds3 (P := P) (w := w) n cap (k := kq) (kh := ku) (bndD_ok hr hl) h0 h1 h2 (by omega)
          refine wp_val (r := .slice (if q.toNat = l.toNat then ad else ad.map (·.add (l.toNat * ie.size))) (u.toNat - l.toNat) (q.toNat - l.toNat)) (w' := w)
            (by simp [execOp, ho, hvx, hkq, hku, Instr.sliceAt, Instr.slice, run_underlying hsu, hb, run_sizeOf' hf, hsize]) (hk.same hr ?_)
          rw [hvx] at hv'
          by_cases hlen : u.toNat - l.toNat = 0
          · rw [hlen]; exact .kr _ _ (.sl0 _ _ _ _)
          · cases hv' with
            | sl0 => omega
            | sl _ _ _ b o _ f' hn hgl hkk hc =>
              have hne : ¬ (q.toNat = l.toNat) := by omega
              rw [if_neg hne]
              simp only [Option.map_some, Addr.add_lit]
              refine .kr _ _ (.sl sz _ _ b (o + l.toNat * ie.size) _ (fun i k => f' (l.toNat + i) k) (by omega) (fun i hi => hgl _ (by omega)) (fun i k hi hk' => ?_) (fun i k d hi hd => hc _ k d (by omega) hd))
              have := hkk (l.toNat + i) k (by omega) hk'
              rw [Nat.add_mul, ← Nat.add_assoc] at this
              rwa [hsz] at this ⊢
        · cases h
      · cases h
    · cases h
  · -- len
    rename_i args ats ho
    split at h
    · rename_i sz i off n T hargs hats
      split at h
      · rename_i e _ _ _ _ hTs
        simp only [Option.some.injEq, Prod.mk.injEq, true_and] at h
        obtain ⟨rfl, rfl⟩ := h
        obtain ⟨_, sd, _, _, hsu, _, _, _, _, _, hsd, _⟩ := hT.info hTs
        have := descOk_sl hsd
        subst this
        obtain ⟨x, hx, hxd⟩ := one_arg hargs
        have e1 : args = #[x] := by cases args; simp_all
        have e2 : ats = #[T] := by cases ats; simp_all
        subst e1 e2
        obtain ⟨hC, hvx⟩ := (hxd ▸ hr.ev x : VR g w (.slm sz i off n) (a.eval x)).isSlm
        exact wp_val (r := .int .i64 n) (w' := w) (by simp [execOp, ho, resolve, invoke, hvx, builtin, Builtin.len_, goInt, run_underlying hsu]) (hk.same hr (.v _))
      · cases h
    · cases h
  · -- copy
    rename_i args ats ho
    split at h
    · rename_i sz i off n sz' n' get p T T' hargs hats
      split at h
      · rename_i e _ _ _ _ hTs
        split at h
        · rename_i ie c E hie hl
          split at h
          · rename_i hb
            simp only [Bool.and_eq_true] at hb
            obtain ⟨b1, b2, b3, _⟩ := hb
            have b1 := Nat.eq_of_beq_eq_true b1
            have b2 := Nat.eq_of_beq_eq_true b2
            have b3 := Nat.eq_of_beq_eq_true b3
            subst b1 b2
            simp only [Option.some.injEq, Prod.mk.injEq] at h
            obtain ⟨hle, rfl, rfl⟩ := h
            have hle := Nat.le_of_ble_eq_true hle
            obtain ⟨_, sd, _, _, hsu, _, _, _, _, _, hsd, _⟩ := hT.info hTs
            have := descOk_sl hsd
            subst this
            obtain ⟨f, _, _, hf, _, hsize, _⟩ := hT.info hie
            obtain ⟨x, y, hxy, hxd, hyd⟩ := two_args hargs
            have e1 : args = #[x, y] := by cases args; simp_all
            have e2 : ats = #[T, T'] := by cases ats; simp_all
            subst e1 e2
            obtain ⟨hC, hvx⟩ := (hxd ▸ hr.ev x : VR g w (.slm 1 i off n) (a.eval x)).isSlm
            have hvy := (hyd ▸ hr.ev y : VR g w (.sl 1 n' get p) (a.eval y)).isSl.1
            obtain ⟨_, _, _, cs, hh, hcs, hone, hvr⟩ := hr.bx i c E hl
            -- what is copied
            obtain ⟨ad, cap', vs, hvy', hvl, hvc, hv1, hvv⟩ : ∃ ad cap' , ∃ vs : List Value, a.eval y = .slice ad n' cap' ∧ vs.length = Nat.min n' n ∧ (∀ j v, vs[j]? = some v → ∃ a0, ad = some a0 ∧ w.cell? (a0.add j) = some v) ∧ (∀ v ∈ vs, oneC v = true) ∧
                ∀ (j : Nat) d, ((List.range (Nat.min n' n)).flatMap get)[j]? = some d → VR g w d (vs.getD j undef) := by
              generalize a.eval y = vy at *
              cases hvy with
              | sl0 _ _ ad cap' =>
                refine ⟨ad, cap', [], rfl, by simp, fun j v h => by simp at h, fun v h => by simp at h, fun j d h => by simp at h⟩
              | sl _ _ _ b o cap' f' hn' hgl hkk hc =>
                have hmin : Nat.min n' n ≤ n' := Nat.min_le_left _ _
                have hfl : ∀ k, k ≤ n' → (List.range k).flatMap get = (List.range k).map (fun j => (get j).getD 0 .no) := fun k hk => by
                  induction k with
                  | zero => rfl
                  | succ k ih =>
                    rw [List.range_succ, List.flatMap_append, List.map_append, ih (by omega)]
                    congr 1
                    have := hgl k (by omega)
                    match hgk : get k, this with
                    | [d], _ => simp [hgk]
                refine ⟨some ⟨b, o, none⟩, cap', (List.range (Nat.min n' n)).map fun j => f' j 0, rfl, by simp, fun j v hj => ?_, fun v hv => ?_, fun j d hj => ?_⟩
                · simp only [List.getElem?_map, Option.map_eq_some_iff] at hj
                  obtain ⟨j', hj', rfl⟩ := hj
                  obtain ⟨hlt, e⟩ := List.getElem?_eq_some_iff.1 hj'
                  simp at e hlt
                  subst e
                  have := hkk j 0 (by omega) (by omega)
                  refine ⟨_, rfl, ?_⟩
                  rw [Addr.add_lit]
                  simpa using this.2.1
                · simp only [List.mem_map, List.mem_range] at hv
                  obtain ⟨j, hj, rfl⟩ := hv
                  exact (hkk j 0 (by omega) (by omega)).2.2
                · rw [hfl _ hmin] at hj
                  simp only [List.getElem?_map, Option.map_eq_some_iff] at hj
                  obtain ⟨j', hj', rfl⟩ := hj
                  obtain ⟨hlt, e⟩ := List.getElem?_eq_some_iff.1 hj'
                  simp at e hlt
                  subst e
                  have hlen := hgl j (by omega)
                  have := hc j 0 ((get j).getD 0 .no) (by omega) (by
                    match hgk : get j, hlen with
                    | [d], _ => simp)
                  simpa [hlt] using (VR.kr (g := g) _ _ this)
            have hfit : off + vs.length ≤ cs.size := by rw [hvl, hcs]; exact hle
            have hgt : ∀ j, (cs.toList.take off ++ vs ++ cs.toList.drop (off + vs.length)).toArray.getD j undef = (cs.toList.take off ++ vs ++ cs.toList.drop (off + vs.length)).getD j undef := fun j => by simp
            have hfl : ((List.range (Nat.min n' n)).flatMap get).length = vs.length := by
              rw [hvl]
              generalize a.eval y = vy at *
              cases hvy with
              | sl0 => simp
              | sl _ _ _ b o cap' f' hn' hgl hkk hc =>
                have hmin : Nat.min n' n ≤ n' := Nat.min_le_left _ _
                have : ∀ k, k ≤ n' → ((List.range k).flatMap get).length = k := fun k hk => by
                  induction k with
                  | zero => rfl
                  | succ k ih => rw [List.range_succ, List.flatMap_append, List.length_append, ih (by omega)]; simp [hgl k (by omega)]
                exact this _ hmin
            have hclen : (cpy c off (Nat.min n' n) get).length = c.length := by
              unfold cpy
              simp only [List.length_append, List.length_take, List.length_drop, hfl]
              omega
            have hpt : ∀ j d, (cpy c off (Nat.min n' n) get)[j]? = some d → VR g w d ((cs.toList.take off ++ vs ++ cs.toList.drop (off + vs.length)).getD j undef) ∧ oneC ((cs.toList.take off ++ vs ++ cs.toList.drop (off + vs.length)).getD j undef) = true := fun j d hd => by
              have hj : j < c.length := by rw [← hclen]; exact (List.getElem?_eq_some_iff.1 hd).1
              unfold cpy at hd
              by_cases h1 : j < off
              · rw [List.append_assoc, List.getElem?_append_left (by simp; omega), List.getElem?_take_of_lt h1] at hd
                rw [List.append_assoc, List.getD_eq_getElem?_getD, List.getElem?_append_left (by simp; omega), List.getElem?_take_of_lt h1]
                have h2 := hvr j d hd
                have h3 := hone j hj
                simp only [Array.getD_eq_getD_getElem?] at h2 h3
                simpa using And.intro h2 h3
              · by_cases h2 : j < off + vs.length
                · rw [List.append_assoc, List.getElem?_append_right (by simp; omega), List.getElem?_append_left (by simp [hfl]; omega)] at hd
                  rw [List.append_assoc, List.getD_eq_getElem?_getD, List.getElem?_append_right (by simp; omega), List.getElem?_append_left (by simp; omega)]
                  have e3 : j - (cs.toList.take off).length = j - (c.take off).length := by simp [hcs]
                  rw [e3]
                  have h4 := hvv _ d hd
                  rw [List.getD_eq_getElem?_getD] at h4
                  refine ⟨h4, ?_⟩
                  have hlt : j - (c.take off).length < vs.length := by simp; omega
                  rw [List.getElem?_eq_getElem hlt]
                  exact hv1 _ (List.getElem_mem hlt)
                · rw [List.getElem?_append_right (by simp [hfl]; omega), List.getElem?_drop] at hd
                  rw [List.getD_eq_getElem?_getD, List.getElem?_append_right (by simp; omega), List.getElem?_drop]
                  have e3 : off + Nat.min n' n + (j - (c.take off ++ (List.range (Nat.min n' n)).flatMap get).length) = j := by rw [List.length_append, hfl, List.length_take, ← hvl]; omega
                  have e4 : off + vs.length + (j - (cs.toList.take off ++ vs).length) = j := by simp; omega
                  rw [e3] at hd
                  rw [e4]
                  have h2 := hvr j d hd
                  have h3 := hone j hj
                  simp only [Array.getD_eq_getD_getElem?] at h2 h3
                  simpa using And.intro h2 h3
            obtain ⟨he, hrs⟩ := hr.store hl hh (c' := cpy c off (Nat.min n' n) get) (cs' := (cs.toList.take off ++ vs ++ cs.toList.drop (off + vs.length)).toArray) (by rw [hclen, ← hcs]; simp; omega) (fun j hj => by
                rw [hgt]; exact (hpt j _ (List.getElem?_eq_getElem hj)).2) (fun j d hd => by rw [hgt]; exact (hpt j d hd).1)
            have hrun : (Builtin.copy_ #[T, T'] o.type #[a.eval x, a.eval y]).run P w = .ok (goInt vs.length) (w.setRow (g.σ i) (cs.toList.take off ++ vs ++ cs.toList.drop (off + vs.length)).toArray) := by
              rw [hvx, hvy', Nat.mul_one]
              cases ad with
              | some a0 =>
                exact run_copy_row P w T T' o.type e (g.σ i) off n n a0 n' cap' cs E vs hsu (by simp [hf, hsize, b3]) hh (by rw [hvl]) (fun j v hj => by
                  obtain ⟨a1, e, h⟩ := hvc j v hj
                  cases e; exact h) hfit (fun v hv => by rw [← oneC_eq]; exact hv1 v hv)
              | none =>
                have hv0 : vs = [] := by
                  cases vs with
                  | nil => rfl
                  | cons v r => obtain ⟨a1, e, _⟩ := hvc 0 v rfl; cases e
                subst hv0
                have hm0 : Nat.min n' n = 0 := by rw [← hvl]; rfl
                simp only [List.append_nil, List.length_nil, Nat.add_zero, List.take_append_drop, Array.toArray_toList]
                rw [setRow_self w (g.σ i) cs E (0, 0) hh]
                simp [Builtin.copy_, run_underlying hsu, Builtin.lenOf, Builtin.firstCells, sizeOf, typeInfo, hf, hm0, storeCells]
            refine wp_val (r := .int .i64 vs.length) (w' := w.setRow (g.σ i) (cs.toList.take off ++ vs ++ cs.toList.drop (off + vs.length)).toArray) ?_ (hk _ g _ he (fun i hi => .inl hi) (by rw [hvl]; exact .v _) (hrs.congr fun j => look_cons i _ m j))
            simp [execOp, ho, resolve, invoke, builtin, hrun, goInt]
          · cases h
        · cases h
      · cases h
    · cases h
  · -- bytes as a text
    rename_i src dst x ho
    split at h
    · rename_i e _ _ _ _ _ _ _ _ sz n get p hs hd hx
      split at h
      · rename_i k _ _ _ _ hte
        split at h
        · rename_i hku
          simp only [Bool.and_eq_true] at hku
          have hk8 := ikEq_eq hku.1
          have hsz := Nat.eq_of_beq_eq_true hku.2
          subst hk8
          subst hsz
          simp only [Option.some.injEq, Prod.mk.injEq, Bool.and_eq_true, decide_eq_true_eq] at h
          obtain ⟨⟨hall, hlen⟩, rfl, rfl⟩ := h
          obtain ⟨_, sd, _, _, hsu, _, _, _, _, _, hsd, _⟩ := hT.info hs
          obtain ⟨_, dd, _, _, hdu, _, _, _, _, _, hdd, _⟩ := hT.info hd
          obtain ⟨_, ed, _, _, heu, _, _, _, _, _, hed, _⟩ := hT.info hte
          have e1 := descOk_sl hsd
          subst e1
          have e2 := descOk_int hed
          subst e2
          have e3 := descOk_str hdd
          subst e3
          have hv := (hx ▸ hr.ev x : VR g w (.sl 1 n get p) (a.eval x)).isSl.1
          have hstr : (Conv.bytesToString (a.eval x)).run P w = .ok (.string (strU8 n get)) w := by
            generalize a.eval x = vx at hv
            cases hv with
            | sl0 _ _ ad cap =>
              cases ad with
              | none => rfl
              | some ad => exact run_bytesToString w ad 0 cap [] rfl
            | sl _ _ _ b off cap f hn hl hkk hc =>
              refine run_bytesToString w _ n cap _ ?_
              have := run_loadCells (P := P) (w := w) ⟨b, off, none⟩ n (fun i => f i 0) (fun i hi => by
                have := (hkk i 0 hi (by omega)).2.1
                rw [Nat.mul_one, Nat.add_zero] at this
                have e : (Addr.add ⟨b, off, none⟩ i) = ⟨b, off + i, none⟩ := Addr.add_lit b off i
                rw [e]; exact this)
              rw [this, List.map_map]
              congr 2
              refine List.map_congr_left fun i hi => ?_
              have hi : i < n := by simpa using hi
              have hsome := List.all_eq_true.1 hall i (by simpa using hi)
              obtain ⟨y, hy⟩ := Option.isSome_iff_exists.1 hsome
              have hgy : get i = [.v (.int .u8 y)] := by
                unfold u8Of at hy
                split at hy
                · rename_i k' n' he
                  split at hy
                  · rename_i hk'; rw [he, ikEq_eq hk']; cases hy; rfl
                  · cases hy
                · cases hy
              have := hc i 0 _ hi (by rw [hgy]; rfl)
              show f i 0 = Value.int .u8 ((u8Of (get i)).getD 0)
              rw [hy]
              generalize f i 0 = vv at this
              cases this with
              | v _ _ => rfl
          have hrun : (convert src dst (a.eval x)).run P w = .ok (.string (strU8 n get)) w := by
            rw [← hstr]
            generalize a.eval x = vx at hv
            cases hv with
            | sl0 _ _ ad cap => exact run_convert_bytes_string w src dst e ad 0 cap hsu heu hdu
            | sl _ _ _ b off cap f hn hl hkk hc => exact run_convert_bytes_string w src dst e _ n cap hsu heu hdu
          have hstrlen : okV (.string (strU8 n get)) = true := by
            have : (strU8 n get).size = n := by
              unfold strU8
              have gen : ∀ (l : List Int) (s : ByteArray), (l.foldl (fun r n => r.push (UInt8.ofNat n.toNat)) s).size = s.size + l.length := by
                intro l
                induction l with
                | nil => intro s; rfl
                | cons x l ih =>
                  intro s
                  rw [List.foldl_cons, ih]
                  have : (s.push (UInt8.ofNat x.toNat)).size = s.size + 1 := Array.size_push _
                  rw [this, List.length_cons]; omega
              rw [gen]
              simp
            simp only [okV, this, decide_eq_true_eq]
            exact hlen
          exact wp_val (by simp only [execOp, ho]; rw [Sem.run_bind, hrun]; rfl) (hk.same hr (.v _ hstrlen))
        · cases h
      · cases h
    · cases h
  · cases h

/-- A row that is written no more: a slice of kept cells, with the permission to append to it. -/
theorem RS.freeze (hr : RS w0 K0 tb t (look m) g a w) {q sz i n : Nat} {c : List D} {T : TypeId} {ti : Ti} {r : Value} (hq : ¬ g.C q) (hv : VR g w (.slm sz i 0 n) r) (hl : look m i = some (.cells c T)) (hT : tb T = some ti) (hsz : ti.size = sz) (hlen : c.length = n * sz)
    (hmax : n ≤ maxLen) :
    ∃ g', Ext g g' w w ∧ (∀ j, g'.C j → g.C j ∨ j = q) ∧ VR g' w (.sl sz n (rowGet sz (c.map kp0)) (.tok q)) r ∧ RS w0 K0 tb t (look ((q, .tok T) :: (i, .dead) :: m)) g' a w := by
  obtain ⟨hCi, rfl⟩ := hv.isSlm
  obtain ⟨_, hmine, hnK, cs, hh, hcs, hone, hvr⟩ := hr.bx i c T hl
  subst hsz
  rw [Nat.zero_mul]
  let r : Value := .slice (some ⟨g.σ i, 0, none⟩) n n
  let g' : G := ⟨fun j => g.C j ∨ j = q, g.σ, fun j => if j = q then r else g.ρ j, fun b o => g.K b o ∨ (b = g.σ i ∧ o < n * ti.size)⟩
  have hlt : g.σ i < w.heap.size := (Array.getElem?_eq_some_iff.1 hh).1
  have he : Ext g g' w w := ⟨fun j hj => .inl hj, fun _ _ => rfl, fun j hj => by
    have : j ≠ q := fun e => hq (e ▸ hj)
    simp [g', this], fun b o h => ⟨.inl h, rfl⟩⟩
  have hρ : g'.ρ q = r := by simp [g']
  have hk := hr.kill i hCi
  have hlk : ∀ j, look ((i, Bx.dead) :: m) j = if i = j then some .dead else look m j := fun j => look_cons i _ m j
  have hmid : RS w0 K0 tb t (fun j => if i = j then some .dead else look m j) g' a w := by
    have hbox : ∀ j c T, (if i = j then some Bx.dead else look m j) = some (.cells c T) → i ≠ j ∧ look m j = some (.cells c T) := fun j c T h => by
      by_cases e : i = j
      · simp [e] at h
      · simp only [e, if_false] at h; exact ⟨e, h⟩
    have htok : ∀ j E, (if i = j then some Bx.dead else look m j) = some (.tok E) → i ≠ j ∧ look m j = some (.tok E) := fun j E h => by
      by_cases e : i = j
      · simp [e] at h
      · simp only [e, if_false] at h; exact ⟨e, h⟩
    exact {
      len := hr.len
      tm := fun j d hd => (hr.tm j d hd).mono he
      df := hr.df
      bx := fun j c' T' hj => by
        obtain ⟨hne, hj'⟩ := hbox j c' T' hj
        obtain ⟨g1, g2, g3, cs', g4, g5, g6, g7⟩ := hr.bx j c' T' hj'
        refine ⟨.inl g1, g2, fun o ho => ?_, cs', g4, g5, g6, fun k d hd => (g7 k d hd).mono he⟩
        rcases ho with ho | ⟨e, _⟩
        · exact g3 o ho
        · exact hne (hr.bd j i c' T' c T hj' hl e).symm
      bd := hk.bd
      tk := fun p E hp => by
        obtain ⟨hne, hp'⟩ := htok p E hp
        obtain ⟨g1, g2⟩ := hr.tk p E hp'
        refine ⟨.inl g1, ?_⟩
        rw [he.ρ p g1]
        rcases g2 with g2 | ⟨b, n', cap, cur, ti', e1, e2, e3, e4, e5, e6, e7, e8⟩
        · exact .inl g2
        · refine .inr ⟨b, n', cap, cur, ti', e1, e2, e3, e4, e5, e6, e7, fun o ho hko => ?_⟩
          rcases hko with hko | ⟨e, _⟩
          · exact e8 o ho hko
          · exact hr.td p E i c T hp' hl (by rw [e1, ← e]; rfl)
      td := fun p E j c' T' hp hj => by
        rw [he.ρ p (hk.tk p E hp).1]
        exact hk.td p E j c' T' hp hj
      tt := fun p p' E1 E2 b hp hp' e e' => by
        rw [he.ρ p (hk.tk p E1 hp).1] at e
        rw [he.ρ p' (hk.tk p' E2 hp').1] at e'
        exact hk.tt p p' E1 E2 b hp hp' e e'
      dd := fun j hj => .inl (hk.dd j hj)
      kb := fun b o ho => by
        rcases ho with ho | ⟨e, _⟩
        · exact hr.kb b o ho
        · omega
      k0 := fun b o ho => .inl (hr.k0 b o ho)
      k1 := fun b o ho => by
        rcases ho with ho | ⟨e, _⟩
        · exact hr.k1 b o ho
        · exact .inr (e ▸ hmine)
      kv := hr.kv
      ar := fun j b hA => ⟨.inl (hr.ar j b hA).1, (hr.ar j b hA).2⟩
      ext := hr.ext
      rm := hk.rm.ghost he }
  have hown : Own w0 tb g' w T (g'.ρ q) := by
    rw [hρ]
    refine .inr ⟨g.σ i, n, n, cs, ti, rfl, hmine, hh, Nat.le_refl _, hmax, hT, by rw [hcs, hlen], fun o ho hko => ?_⟩
    rcases hko with hko | ⟨_, ho'⟩
    · exact hnK o hko
    · omega
  refine ⟨g', he, fun j hj => hj, .sl _ _ _ _ _ ?_ ⟨.inr rfl, hρ.symm⟩, ?_⟩
  · have hlt' : ∀ j k, j < n → k < ti.size → j * ti.size + k < n * ti.size := fun j k hj hk => by
      calc j * ti.size + k < j * ti.size + ti.size := by omega
        _ = (j + 1) * ti.size := by rw [Nat.add_mul]; simp
        _ ≤ n * ti.size := Nat.mul_le_mul_right _ (by omega)
    refine .sl ti.size n _ (g.σ i) 0 n (fun j k => cs.getD (j * ti.size + k) undef) (Nat.le_refl _) (fun j hj => ?_) (fun j k hj hk => ⟨.inr ⟨rfl, by have := hlt' j k hj hk; omega⟩, ?_, hone _ (by rw [hlen]; exact hlt' j k hj hk)⟩) (fun j k d hj hd => ?_)
    · unfold rowGet
      simp only [List.length_take, List.length_drop, List.length_map, hlen]
      have : (j + 1) * ti.size ≤ n * ti.size := Nat.mul_le_mul_right _ (by omega)
      rw [Nat.add_mul] at this
      omega
    · rw [cell_of_row w _ _ cs T _ hh, Nat.zero_add]
      have := hlt' j k hj hk
      simp [show j * ti.size + k < cs.size by omega]
    · unfold rowGet at hd
      have hk' : k < ti.size := by
        have := (List.getElem?_eq_some_iff.1 hd).1
        simp at this; omega
      rw [List.getElem?_take_of_lt hk', List.getElem?_drop, List.getElem?_map, Option.map_eq_some_iff] at hd
      obtain ⟨d', hd', rfl⟩ := hd
      exact kp0_ok ((hvr _ d' hd').mono he)
  · have ht := hmid.addTok (id := q) (E := T) (.inr rfl) hown (fun j c' T' hj _ e => ?_) (fun p E b hp _ hb e => ?_)
    · refine ht.congr fun j => ?_
      rw [look_cons, hlk]
    · rw [hρ] at e
      simp [r, Value.ownBlock] at e
      by_cases e' : i = j
      · simp [e'] at hj
      · simp only [e', if_false] at hj
        exact e' (hr.bd i j c T c' T' hl hj e)
    · rw [hρ] at e
      simp [r, Value.ownBlock] at e
      by_cases e' : i = p
      · simp [e'] at hp
      · simp only [e', if_false] at hp
        rw [he.ρ p (hr.tk p E hp).1] at hb
        exact hr.td p E i c T hp hl (by rw [hb, e])
theorem evOp_ok (hT : TbOk P tb) (hE : EnvAt P tb env w0 K0) {id idt fr : Nat} {o : Oper} {d : D} {δ : Mem} (h : evOp env tb id idt fr o t m = some (true, d, δ)) (hr : RS w0 K0 tb t (look m) g a w) (hid : ¬ g.C id) (hit : ¬ g.C idt) (hfr : ∀ i, 4 * fr ≤ i → i < 4 * (fr + 31) → ¬ g.C i)
    {K : Act → World → Prop} {Q : Exit → Act → World → Prop} (hk : Kont w0 K0 tb t m g a w id idt fr o.dst d δ K) : o.wp P a w K Q := by
  unfold evOp at h
  split at h
  · rename_i r hmap
    cases h
    exact evMap_ok hT hmap hr hit hk
  · split at h
    · rename_i r hrow
      cases h
      exact evRow_ok hT hrow hr hfr hk
    · exact evOp0_ok hT hE h hr hid hit hfr hk
end
end Go.Ev
