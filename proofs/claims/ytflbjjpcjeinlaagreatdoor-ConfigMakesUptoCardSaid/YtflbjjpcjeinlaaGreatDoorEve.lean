/- What each operation comes to, by the evaluator: first part. -/
import Derived.Test.YtflbjjpcjeinlaaGreatDoorEvd
namespace Go.Ev
open Go Go.RowKit

theorem TbOk.info {P : Program} {tb : Tb} (h : TbOk P tb) {t : TypeId} {i : Ti} (ht : tb t = some i) :
    ∃ f d z, P.info? t = some f ∧ P.underlying t = some d ∧ f.size = i.size ∧ f.bytes = i.bytes ∧ f.zero = some z ∧ zeroOk i.zero z.cells.toList = true ∧ z.cells.size = i.size ∧ descOk d i.d = true ∧
      (fieldsInfo P d = true ∧ (i.eq = true → eqOk P t i.zero = true)) := by
  have := h t i ht
  unfold tiOk at this
  split at this
  · rename_i f d hf hd
    simp only [Bool.and_eq_true, beq_iff_eq, Bool.or_eq_true, Bool.not_eq_true'] at this
    obtain ⟨⟨⟨⟨⟨h1, h2⟩, h3⟩, h4⟩, h6⟩, h5⟩ := this
    split at h3
    · rename_i z hz
      simp only [Bool.and_eq_true, beq_iff_eq] at h3
      refine ⟨f, d, z, hf, hd, h1, h2, hz, h3.1.1, h3.1.2, h4, h6, fun he => ?_⟩
      rcases h5 with h5 | h5
      · rw [he] at h5; cases h5
      · exact h5
    · cases h3
  · cases this

theorem TbOk.zagg {P : Program} {tb : Tb} (h : TbOk P tb) {t : TypeId} {i : Ti} (ht : tb t = some i) {f : TypeInfo} {d : TypeDesc} {z : Value} (hf : P.info? t = some f) (hd : P.underlying t = some d) (hz : f.zero = some z) : zAgg d z = true := by
  have := h t i ht
  unfold tiOk at this
  rw [hf, hd] at this
  simp only [hz, Bool.and_eq_true] at this
  exact this.1.1.1.2.2

theorem blt_f {i n : Nat} (h : ¬ i < n) : Nat.blt i n = false := by
  cases hb : Nat.blt i n with
  | false => rfl
  | true => exact absurd (by simpa [Nat.blt_eq] using hb) h
theorem descOk_sl {d : TypeDesc} {e : TypeId} (h : descOk d (.sl e) = true) : d = .slice e := by
  cases d <;> simp [descOk] at h; subst h; rfl
theorem descOk_arr {d : TypeDesc} {n : Nat} {e : TypeId} (h : descOk d (.arr n e) = true) : d = .array n e := by
  cases d <;> simp [descOk] at h; obtain ⟨rfl, rfl⟩ := h; rfl
theorem descOk_int {d : TypeDesc} {k : IntKind} (h : descOk d (.int k) = true) : d = .int k := by
  cases d <;> simp [descOk] at h; subst h; rfl
theorem descOk_str {d : TypeDesc} (h : descOk d .str = true) : d = .string := by
  cases d <;> simp [descOk] at h; rfl
theorem descOk_struct {d : TypeDesc} {fs : List (Nat × TypeId)} (h : descOk d (.struct fs) = true) : ∃ gs, d = .struct gs ∧ fieldsOk fs gs.toList = true := by
  cases d <;> simp [descOk] at h
  exact ⟨_, rfl, h⟩
theorem descOk_agg {d : TypeDesc} {i : Td} (h : descOk d i = true) : aggD d = i.isAgg := by
  cases d <;> cases i <;> simp [descOk] at h <;> rfl
theorem fieldsOk_get : ∀ {fs : List (Nat × TypeId)} {gs : List Field} (_ : fieldsOk fs gs = true) (j : Nat) {o : Nat} {ft : TypeId}, fs[j]? = some (o, ft) → ∃ f, gs[j]? = some f ∧ f.offset = o ∧ f.type = ft
  | [], _, _, j, _, _, hj => by simp at hj
  | _ :: _, [], h, _, _, _, _ => by simp [fieldsOk] at h
  | (o', t') :: fs, f :: gs, h, j, o, ft, hj => by
    simp only [fieldsOk, Bool.and_eq_true, beq_iff_eq] at h
    cases j with
    | zero => simp at hj; exact ⟨f, rfl, by rw [← hj.1]; exact h.1.1, by rw [← hj.2]; exact h.1.2⟩
    | succ j => simpa using fieldsOk_get h.2 j (by simpa using hj)

theorem cellOk_ok {g : G} {w : World} {d : D} {v : Value} (h : cellOk d v = true) : VR g w d v ∧ oneC v = true := by
  unfold cellOk at h
  split at h <;> first
    | (simp only [Bool.and_eq_true, decide_eq_true_eq, beq_iff_eq] at h; obtain ⟨rfl, rfl⟩ := h; exact ⟨.v _, rfl⟩)
    | (simp only [beq_iff_eq] at h; subst h; exact ⟨.v _, rfl⟩)
    | exact ⟨.v _, rfl⟩
    | skip
  · rename_i a b
    simp only [Bool.and_eq_true, beq_iff_eq] at h
    have e : a = b := by
      have ha : a.data = #[] := Array.eq_empty_of_size_eq_zero h.1
      have hb : b.data = #[] := Array.eq_empty_of_size_eq_zero h.2
      cases a; cases b; simp_all
    subst e
    exact ⟨.v _ (by simp [okV, h.1]), rfl⟩
  · simp only [beq_iff_eq] at h
    subst h
    exact ⟨.sl _ _ _ _ _ (.sl0 _ _ none 0) rfl, rfl⟩
  · cases h

theorem zeroOk_ok {g : G} {w : World} : ∀ {l : List D} {r : List Value}, zeroOk l r = true → r.length = l.length ∧ ∀ (i : Nat) (d : D), l[i]? = some d → ∃ v, r[i]? = some v ∧ VR g w d v ∧ oneC v = true
  | [], [], _ => ⟨rfl, fun i d h => by simp at h⟩
  | [], _ :: _, h => by simp [zeroOk] at h
  | _ :: _, [], h => by simp [zeroOk] at h
  | e :: l, v :: r, h => by
    simp only [zeroOk, Bool.and_eq_true] at h
    obtain ⟨h1, h2⟩ := zeroOk_ok (g := g) (w := w) h.2
    refine ⟨by simp [h1], fun i d hd => ?_⟩
    cases i with
    | zero => simp at hd; subst hd; exact ⟨v, rfl, cellOk_ok h.1⟩
    | succ i => simpa using h2 i d (by simpa using hd)

section
variable {P : Program} {w0 : W0} {K0 : Nat → Nat → Prop} {tb : Tb} {t : List D} {lk : Nat → Option Bx} {g : G} {a : Act} {w : World}

theorem RS.append (hT : TbOk P tb) (h : RS w0 K0 tb t lk g a w) {id : Nat} (hid : ¬ g.C id) {T E ty : TypeId} {sT : Ti} (hs : tb T = some sT) (hsd : sT.d = .sl E) {ie : Ti} (hE : tb E = some ie) (hz : 1 ≤ ie.size)
    {n n' : Nat} {get get' : Nat → List D} {r xr : Value} (hr : KR g.K w (.sl ie.size n get .none) r) (hx : KR g.K w (.sl ie.size n' get' .none) xr)
    (hb : (n + n') * ie.bytes ≤ 140737488355328) (hm : n + n' ≤ 9223372036854775807) {lk1 : Nat → Option Bx}
    (hp : (r = .slice none 0 0 ∧ lk1 = lk) ∨ (∃ q, r = g.ρ q ∧ lk q = some (.tok E) ∧ lk1 = fun j => if q = j then some .dead else lk j)) :
    ∃ v' w' g', (Builtin.append_ #[T, T] ty #[r, xr]).run P w = .ok v' w' ∧ Ext g g' w w' ∧ (∀ i, g'.C i → g.C i ∨ i = id) ∧
      VR g' w' (.sl ie.size (n + n') (fun i => match Nat.blt i n with | true => get i | false => get' (i - n)) (.tok id)) v' ∧
      RS w0 K0 tb t (fun j => if id = j then some (.tok E) else lk1 j) g' a w' := by
  obtain ⟨sf, sd, _, hsf, hsu, _, _, _, _, _, hsd', _⟩ := hT.info hs
  rw [hsd] at hsd'
  have := descOk_sl hsd'
  subst this
  obtain ⟨f, _, z, hf, _, hsize, hbytes, hzero, _, hzc, _, _⟩ := hT.info hE
  have hml : maxLen = 9223372036854775807 := rfl
  -- what becomes of the old permission
  have hlk1 : RS w0 K0 tb t lk1 g a w := by
    rcases hp with ⟨_, rfl⟩ | ⟨q, _, h2, rfl⟩
    · exact h
    · exact h.kill q (h.tk q E h2).1
  have hown : Own w0 tb g w E r := by
    rcases hp with ⟨h1, _⟩ | ⟨q, h1, h2, _⟩
    · exact .inl h1
    · rw [h1]; exact (h.tk q E h2).2
  -- the cells of what is appended
  rcases Nat.eq_zero_or_pos n' with e0 | hpos
  · -- nothing is appended
    subst e0
    obtain ⟨bx, cx, rfl⟩ : ∃ bx cx, xr = .slice bx 0 cx := by cases hx <;> exact ⟨_, _, rfl⟩
    obtain ⟨br, cr, rfl, hle⟩ : ∃ br cr, r = .slice br n cr ∧ n ≤ cr := by
      cases hr with
      | sl _ _ _ b off cap _ hn => exact ⟨_, _, rfl, hn⟩
      | sl0 => exact ⟨_, _, rfl, Nat.zero_le _⟩
    obtain ⟨g', he, hC, hCid, hρ, hrs⟩ := hlk1.rename hid hown (fun i c T hi e => by
        rcases hp with ⟨h1, rfl⟩ | ⟨q, h1, h2, rfl⟩
        · rw [h1] at e; simp [Value.ownBlock] at e
        · by_cases hqi : q = i
          · simp [hqi] at hi
          · simp only [hqi, if_false] at hi
            exact h.td q E i c T h2 hi (by rw [← h1]; exact e)) (fun q' E' b hq' hb' e => by
        rcases hp with ⟨h1, rfl⟩ | ⟨q, h1, h2, rfl⟩
        · rw [h1] at e; simp [Value.ownBlock] at e
        · by_cases hqi : q = q'
          · simp [hqi] at hq'
          · simp only [hqi, if_false] at hq'
            exact hqi (h.tt q q' E E' b h2 hq' (by rw [← h1]; exact e) hb'))
    refine ⟨_, w, g', run_append_empty w T ty E f hsu hf br n cr hle bx cx, he, hC, .sl _ _ _ _ _ ?_ ⟨hCid, hρ.symm⟩, hrs⟩
    have hr' := hr.mono he.K
    cases hr' with
    | sl _ _ _ b off _ fc hn hl hk hc =>
      refine .sl _ _ _ b off _ fc hn (fun i hi => ?_) (fun i k hi hk' => hk i k hi hk') (fun i k d hi hd => ?_)
      · have : Nat.blt i n = true := by simpa [Nat.blt_eq] using hi
        simp only [this]; exact hl i hi
      · have : Nat.blt i n = true := by simpa [Nat.blt_eq] using hi
        simp only [this] at hd; exact hc i k d hi hd
    | sl0 => exact .sl0 _ _ _ _
  · obtain ⟨xb, xo, xc, news, rfl, _, hnl, hnk, hn1, hngl, hngc⟩ := hx.cells hpos
    have hnl' : news.length = n' * f.size := by rw [hnl, hsize]
    have hget : ∀ i, i < n + n' → ((fun i => match Nat.blt i n with | true => get i | false => get' (i - n)) i).length = ie.size := fun i hi => by
      by_cases hin : i < n
      · have : Nat.blt i n = true := by simpa [Nat.blt_eq] using hin
        simp only [this]
        obtain ⟨_, _, _, _, _, _, _, _, _, hl, _⟩ := hr.cells (by omega)
        exact hl i hin
      · have : Nat.blt i n = false := blt_f hin
        simp only [this]
        exact hngl (i - n) (by omega)
    -- the row, told by its first cells
    have rowOf : ∀ (olds rest : List Value), olds.length = n * ie.size → (∀ u ∈ olds, u.oneCell' = true) → (∀ i k d, i < n → (get i)[k]? = some d → KR g.K w d (olds.getD (i * ie.size + k) undef)) →
        ∀ cs : Array Value, cs.toList = olds ++ news ++ rest →
        (∀ i k, i < n + n' → k < ie.size → oneC (cs.getD (i * ie.size + k) undef) = true) ∧
        (∀ i k d, i < n + n' → ((fun i => match Nat.blt i n with | true => get i | false => get' (i - n)) i)[k]? = some d → KR g.K w d (cs.getD (i * ie.size + k) undef)) := by
      intro olds rest hol ho1 hoc cs hcs
      have hcell : ∀ j, cs.getD j undef = (olds ++ news ++ rest).getD j undef := fun j => by
        rw [← hcs]; simp
      have old : ∀ i k, i < n → k < ie.size → cs.getD (i * ie.size + k) undef = olds.getD (i * ie.size + k) undef := fun i k hi hk => by
        have h2 := idx_lt hi hk
        rw [hcell, List.append_assoc, List.getD_eq_getElem?_getD, List.getElem?_append_left (by omega), ← List.getD_eq_getElem?_getD]
      have new : ∀ i k, n ≤ i → i < n + n' → k < ie.size → cs.getD (i * ie.size + k) undef = news.getD ((i - n) * ie.size + k) undef := fun i k h0 hi hk => by
        have h2 := idx_lt (i := i - n) (n := n') (by omega) hk
        have h3 : i * ie.size + k = n * ie.size + ((i - n) * ie.size + k) := by
          rw [← Nat.add_assoc, ← Nat.add_mul]; congr 2; omega
        rw [hcell, List.append_assoc, List.getD_eq_getElem?_getD, h3, List.getElem?_append_right (by omega), hol, Nat.add_sub_cancel_left, List.getElem?_append_left (by omega), ← List.getD_eq_getElem?_getD]
      refine ⟨fun i k hi hk => ?_, fun i k d hi hd => ?_⟩
      · by_cases hin : i < n
        · rw [old i k hin hk, oneC_eq]
          have h2 := idx_lt hin hk
          exact ho1 _ (by rw [List.getD_eq_getElem?_getD, List.getElem?_eq_getElem (by omega)]; exact List.getElem_mem _)
        · rw [new i k (by omega) hi hk, oneC_eq]
          have h2 := idx_lt (i := i - n) (n := n') (by omega) hk
          exact hn1 _ (by rw [List.getD_eq_getElem?_getD, List.getElem?_eq_getElem (by omega)]; exact List.getElem_mem _)
      · have hk : k < ie.size := by
          have := (List.getElem?_eq_some_iff.1 hd).1
          rwa [hget i hi] at this
        by_cases hin : i < n
        · have hb' : Nat.blt i n = true := by simpa [Nat.blt_eq] using hin
          simp only [hb'] at hd
          rw [old i k hin hk]
          exact hoc i k d hin hd
        · have hb' : Nat.blt i n = false := blt_f hin
          simp only [hb'] at hd
          rw [new i k (by omega) hi hk]
          exact hngc (i - n) k d (by omega) hd
    have hbel : Below w.heap.size w w.drew := (Below.refl _ _).drew
    -- a new row
    have fresh : ∀ (olds : List Value) (old : Nat), olds.length = n * ie.size → (∀ u ∈ olds, u.oneCell' = true) → (∀ i k d, i < n → (get i)[k]? = some d → KR g.K w d (olds.getD (i * ie.size + k) undef)) →
        (Builtin.append_ #[T, T] ty #[r, .slice (some ⟨xb, xo, none⟩) n' xc]).run P w = .ok (.slice (some ⟨w.heap.size, 0, none⟩) (n + n') (grownCap w (n + n') old E))
          (w.drew.alloc (.cells (olds.toArray ++ news.toArray ++ Builtin.zeroCells z.cells (grownCap w (n + n') old E - (n + n'))) E)) →
        ∃ v' w' g', (Builtin.append_ #[T, T] ty #[r, .slice (some ⟨xb, xo, none⟩) n' xc]).run P w = .ok v' w' ∧ Ext g g' w w' ∧ (∀ i, g'.C i → g.C i ∨ i = id) ∧
          VR g' w' (.sl ie.size (n + n') (fun i => match Nat.blt i n with | true => get i | false => get' (i - n)) (.tok id)) v' ∧
          RS w0 K0 tb t (fun j => if id = j then some (.tok E) else lk1 j) g' a w' := by
      intro olds old hol ho1 hoc hrun
      have hge := grownCap_ge w (n + n') old E
      have hle := grownCap_le_maxLen w (n + n') old E (by omega)
      obtain ⟨c1, c2⟩ := rowOf olds _ hol ho1 hoc (olds.toArray ++ news.toArray ++ Builtin.zeroCells z.cells (grownCap w (n + n') old E - (n + n'))) (by simp; rfl)
      obtain ⟨g', he, hC, hv, hrs⟩ := hlk1.row hid (w1 := w.drew.alloc (.cells (olds.toArray ++ news.toArray ++ Builtin.zeroCells z.cells (grownCap w (n + n') old E - (n + n'))) E)) (E := E) (ti := ie) (n := n + n') (cap := grownCap w (n + n') old E)
        (hbel.alloc (Nat.le_refl _) _) hE (by
          simp only [Array.size_append, List.size_toArray, size_zeroCells, hzc, hol, hnl, ← Nat.add_mul]
          congr 1; omega) hge hle (heap_alloc_new w.drew _) hget c1 c2
      exact ⟨_, _, g', hrun, he, hC, hv, hrs⟩
    rcases hown with hnil | ⟨b, n1, cap, cur, ti, hr1, hb0, hbh, hnc, hcm, htE, hcsz, hKb⟩
    · -- nil
      subst hnil
      have hn0 : n = 0 := by cases hr; rfl
      subst hn0
      refine fresh [] 0 (by simp) (fun u hu => by simp at hu) (fun i k d hi => by omega) ?_
      have := run_append_nil (P := P) w T ty E f z hsu hf hzero ⟨xb, xo, none⟩ n' xc news hnl' (fun j v hv => (hnk j v hv).2) hpos (by omega) (by rw [hbytes]; simp at hb; omega)
      simpa using this
    · obtain rfl : ti = ie := Option.some.inj (htE.symm.trans hE)
      subst hr1
      have hn1' : n1 = n := by cases hr <;> rfl
      subst hn1'
      have hpre : n1 * ti.size ≤ cur.size := by rw [hcsz]; exact Nat.mul_le_mul_right _ hnc
      -- the old cells
      have hold : ∀ i k d, i < n1 → (get i)[k]? = some d → KR g.K w d ((cur.toList.take (n1 * ti.size)).getD (i * ti.size + k) undef) := fun i k d hi hd => by
        cases hr with
        | sl0 => omega
        | sl _ _ _ _ _ _ fc hn hl hk hc =>
          have hk' : k < ti.size := by
            have := (List.getElem?_eq_some_iff.1 hd).1
            rwa [hl i hi] at this
          have h2 := idx_lt hi hk'
          obtain ⟨_, hcell, _⟩ := hk i k hi hk'
          rw [cell_of_row w b _ cur E _ hbh, Nat.zero_add] at hcell
          have e : (cur.toList.take (n1 * ti.size)).getD (i * ti.size + k) undef = fc i k := by
            rw [List.getD_eq_getElem?_getD, List.getElem?_take_of_lt h2, Array.getElem?_toList, hcell]; rfl
          rw [e]; exact hc i k d hi hd
      have hold1 : ∀ u ∈ cur.toList.take (n1 * ti.size), u.oneCell' = true := fun u hu => by
        obtain ⟨j, hj, rfl⟩ := List.mem_iff_getElem.1 hu
        simp only [List.length_take, Array.length_toList] at hj
        have hj' : j < n1 * ti.size := by omega
        obtain ⟨h1, h2, h3⟩ := div_lt' hj'
        cases hr with
        | sl0 => omega
        | sl _ _ _ _ _ _ fc hn hl hk hc =>
          obtain ⟨_, hcell, ho⟩ := hk _ _ h1 h2
          rw [cell_of_row w b _ cur E _ hbh, Nat.zero_add, h3] at hcell
          have : (cur.toList.take (n1 * ti.size))[j] = fc (j / ti.size) (j % ti.size) := by
            rw [List.getElem_take]
            simpa using (Array.getElem?_eq_some_iff.1 hcell).2
          rw [this, ← oneC_eq]; exact ho
      have holdl : (cur.toList.take (n1 * ti.size)).length = n1 * ti.size := by simp; omega
      by_cases hroom : n1 + n' ≤ cap
      · -- in its row
        rcases hp with ⟨h1, _⟩ | ⟨q, h1, h2, h3⟩
        · cases h1
        subst h3
        have hfit : n1 * f.size + news.length ≤ cur.size := by rw [hnl, hsize, hcsz, ← Nat.add_mul]; exact Nat.mul_le_mul_right _ hroom
        have hrun := run_append_room (P := P) w T ty E f hsu hf b n1 cap cur hbh ⟨xb, xo, none⟩ n' xc news hnl' (fun j v hv => (hnk j v hv).2) hn1 hroom hfit
        rw [hsize] at hrun hfit
        obtain ⟨c1, c2⟩ := rowOf _ (cur.toList.drop (n1 * ti.size + news.length)) holdl hold1 hold (cur.toList.take (n1 * ti.size) ++ news ++ cur.toList.drop (n1 * ti.size + news.length)).toArray (by simp)
        obtain ⟨g', he, hC, hv, hrs⟩ := h.inplace hid h2 hE h1.symm hb0 hbh hroom hcm hcsz hKb (cs := (cur.toList.take (n1 * ti.size) ++ news ++ cur.toList.drop (n1 * ti.size + news.length)).toArray)
          (by simp; omega) (fun o ho => by
            simp only [List.getElem?_toArray, List.append_assoc]
            rw [List.getElem?_append_left (by rw [holdl]; exact ho), List.getElem?_take_of_lt ho]
            simp) hget c1 c2
        exact ⟨_, _, g', hrun, he, hC, hv, hrs⟩
      · refine fresh (cur.toList.take (n1 * ti.size)) cap holdl hold1 hold ?_
        have hf2 := growslice_fits (need := n1 + n') (old := cap) (bytes := f.bytes) (by omega) (by rw [hbytes]; exact hb)
        exact run_append_grow (P := P) w T ty E f z hsu hf hzero ⟨b, 0, none⟩ n1 cap (cur.toList.take (n1 * ti.size)) (by rw [hsize]; exact holdl) (fun j v hv => by
          rw [Addr.add_lit, cell_of_row w b _ cur E _ hbh, Nat.zero_add]
          have hj : j < n1 * ti.size := by
            have := (List.getElem?_eq_some_iff.1 hv).1
            rwa [holdl] at this
          rw [List.getElem?_take_of_lt hj] at hv
          simpa using hv) ⟨xb, xo, none⟩ n' xc news hnl' (fun j v hv => (hnk j v hv).2) (by omega) (by omega) hf2
end
end Go.Ev
