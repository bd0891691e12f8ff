/- 'append' as the evaluator has it. -/
import Derived.Test.YtflbjjpcjeinlaaGreatDoorEvc
namespace Go.Ev
open Go Go.RowKit

theorem divmod {i k s : Nat} (hk : k < s) : (i * s + k) / s = i ∧ (i * s + k) % s = k := by
  have h0 : 0 < s := by omega
  rw [Nat.mul_comm, Nat.mul_add_div h0, Nat.mul_add_mod, Nat.div_eq_of_lt hk, Nat.mod_eq_of_lt hk]
  exact ⟨by omega, rfl⟩
theorem idx_lt {i k n s : Nat} (hi : i < n) (hk : k < s) : i * s + k < n * s := by
  calc i * s + k < i * s + s := by omega
    _ = (i + 1) * s := by rw [Nat.add_mul]; simp
    _ ≤ n * s := Nat.mul_le_mul_right _ (by omega)
theorem div_lt' {j n s : Nat} (h : j < n * s) : j / s < n ∧ j % s < s ∧ j / s * s + j % s = j := by
  have h0 : 0 < s := by
    rcases Nat.eq_zero_or_pos s with e | e
    · subst e; simp at h
    · exact e
  exact ⟨(Nat.div_lt_iff_lt_mul h0).2 h, Nat.mod_lt _ h0, by rw [Nat.mul_comm]; exact Nat.div_add_mod j s⟩

/-- The cells of a kept slice that is not empty. -/
theorem KR.cells {K : Nat → Nat → Prop} {w : World} {sz n : Nat} {get : Nat → List D} {r : Value} (h : KR K w (.sl sz n get .none) r) (h0 : 0 < n) :
    ∃ (b off cap : Nat) (l : List Value), r = .slice (some ⟨b, off, none⟩) n cap ∧ n ≤ cap ∧ l.length = n * sz ∧ (∀ j u, l[j]? = some u → K b (off + j) ∧ w.cell? ((⟨b, off, none⟩ : Addr).add j) = some u) ∧
      (∀ u ∈ l, u.oneCell' = true) ∧ (∀ i, i < n → (get i).length = sz) ∧ ∀ i k d, i < n → (get i)[k]? = some d → KR K w d (l.getD (i * sz + k) undef) := by
  cases h with
  | sl0 => omega
  | sl _ _ _ b off cap f hn hl hk hc =>
    have hcell : ∀ j, j < n * sz → K b (off + j) ∧ w.cell? ⟨b, off + j, none⟩ = some (f (j / sz) (j % sz)) ∧ oneC (f (j / sz) (j % sz)) = true := fun j hj => by
      obtain ⟨h1, h2, h3⟩ := div_lt' hj
      have := hk _ _ h1 h2
      rwa [Nat.add_assoc, h3] at this
    refine ⟨b, off, cap, (List.range (n * sz)).map fun j => f (j / sz) (j % sz), rfl, hn, by simp, fun j u hu => ?_, fun u hu => ?_, hl, fun i k d hi hd => ?_⟩
    · simp only [List.getElem?_map, Option.map_eq_some_iff] at hu
      obtain ⟨j', hj', rfl⟩ := hu
      have hlt : j < n * sz := by
        have := (List.getElem?_eq_some_iff.1 hj').1
        simpa using this
      have e : j' = j := by
        rw [List.getElem?_range hlt] at hj'
        exact (Option.some.inj hj').symm
      subst e
      rw [Addr.add_lit]
      exact ⟨(hcell _ hlt).1, (hcell _ hlt).2.1⟩
    · simp only [List.mem_map, List.mem_range] at hu
      obtain ⟨j, hj, rfl⟩ := hu
      rw [← oneC_eq]
      exact (hcell j hj).2.2
    · have hk' : k < sz := by
        have := (List.getElem?_eq_some_iff.1 hd).1
        rwa [hl i hi] at this
      have h1 := idx_lt hi hk'
      have h2 := divmod (i := i) hk'
      have e : ((List.range (n * sz)).map fun j => f (j / sz) (j % sz)).getD (i * sz + k) undef = f i k := by
        rw [List.getD_eq_getElem?_getD, List.getElem?_map, List.getElem?_range h1]
        simp [h2.1, h2.2]
      rw [e]
      exact hc i k d hi hd

section
variable {w0 : W0} {K0 : Nat → Nat → Prop} {tb : Tb} {t : List D} {lk : Nat → Option Bx} {g : G} {a : Act} {w : World}

/-- An append that stays in its row. -/
theorem RS.inplace (h : RS w0 K0 tb t lk g a w) {id q : Nat} (hid : ¬ g.C id) {E : TypeId} (hq : lk q = some (.tok E)) {ti : Ti} (hT : tb E = some ti) {b n m cap : Nat} {cur cs : Array Value} (hr : g.ρ q = .slice (some ⟨b, 0, none⟩) n cap)
    (h0 : w0.mine b) (hh : w.heap[b]? = some (.cells cur E (0, 0))) (hn : n + m ≤ cap) (hcap : cap ≤ maxLen) (hcur : cur.size = cap * ti.size) (hK : ∀ o, n * ti.size ≤ o → ¬ g.K b o)
    (hcs : cs.size = cur.size) (hsame : ∀ o, o < n * ti.size → cs[o]? = cur[o]?) {get : Nat → List D}
    (hl : ∀ i, i < n + m → (get i).length = ti.size) (h1 : ∀ i k, i < n + m → k < ti.size → oneC (cs.getD (i * ti.size + k) undef) = true)
    (hc : ∀ i k d, i < n + m → (get i)[k]? = some d → KR g.K w d (cs.getD (i * ti.size + k) undef)) :
    ∃ g' : G, Ext g g' w (w.setRow b cs) ∧ (∀ i, g'.C i → g.C i ∨ i = id) ∧ VR g' (w.setRow b cs) (.sl ti.size (n + m) get (.tok id)) (.slice (some ⟨b, 0, none⟩) (n + m) cap) ∧
      RS w0 K0 tb t (fun j => if id = j then some (.tok E) else if q = j then some .dead else lk j) g' a (w.setRow b cs) := by
  let r : Value := .slice (some ⟨b, 0, none⟩) (n + m) cap
  let g' : G := ⟨fun i => g.C i ∨ i = id, g.σ, fun i => if i = id then r else g.ρ i, fun b' o => g.K b' o ∨ (b' = b ∧ o < (n + m) * ti.size)⟩
  have hkk : ∀ o, g.K b o → o < n * ti.size := fun o hk => by
    rcases Nat.lt_or_ge o (n * ti.size) with h' | h'
    · exact h'
    · exact absurd hk (hK o h')
  have hcell : ∀ b' o, g.K b' o → (w.setRow b cs).cell? ⟨b', o, none⟩ = w.cell? ⟨b', o, none⟩ := fun b' o hk => by
    by_cases e : b' = b
    · subst e
      rw [cell_setRow_same w b' o cur cs E _ hh, cell_of_row w b' o cur E _ hh]
      exact hsame o (hkk o hk)
    · exact cell_setRow_other w b cs ⟨b', o, none⟩ e
  have he : Ext g g' w (w.setRow b cs) := ⟨fun i hi => .inl hi, fun _ _ => rfl, fun i hi => by
    have : i ≠ id := fun e => hid (e ▸ hi)
    simp [g', this], fun b' o hk => ⟨.inl hk, hcell b' o hk⟩⟩
  have hrr : g'.ρ id = r := by simp [g']
  have hb : b < w.heap.size := (Array.getElem?_eq_some_iff.1 hh).1
  have hh' : (w.setRow b cs).heap[b]? = some (.cells cs E (0, 0)) := setRow_heap w b cur cs E _ hh
  have hblk : (g.ρ q).ownBlock = some b := by rw [hr]; rfl
  have hmid : RS w0 K0 tb t (fun j => if q = j then some .dead else lk j) g' a (w.setRow b cs) := by
    have hk := h.kill q (h.tk q E hq).1
    exact {
      len := h.len
      tm := fun j d hd => (h.tm j d hd).mono he
      df := h.df
      bx := fun j c T hj => by
        obtain ⟨g1, g2, g3, cs', g4, g5, g6, g7⟩ := hk.bx j c T hj
        have hqj : q ≠ j := by intro e; simp [e] at hj
        simp only [hqj, if_false] at hj
        have hne : g.σ j ≠ b := fun e => h.td q E j c T hq hj (by rw [hblk, e])
        refine ⟨.inl g1, g2, fun o hko => ?_, cs', (setRow_other w b _ cs hne).trans g4, g5, g6, fun k d hd => (g7 k d hd).mono he⟩
        rcases hko with hko | ⟨e, _⟩
        · exact g3 o hko
        · exact hne e
      bd := hk.bd
      tk := fun p E' hp => by
        obtain ⟨g1, g2⟩ := hk.tk p E' hp
        have hqp : q ≠ p := by intro e; simp [e] at hp
        simp only [hqp, if_false] at hp
        refine ⟨.inl g1, ?_⟩
        rw [he.ρ p g1]
        rcases g2 with g2 | ⟨b', n', cap', cur', ti', e1, e2, e3, e4, e5, e6, e7, e8⟩
        · exact .inl g2
        · have hne : b' ≠ b := fun e => hqp (h.tt q p E E' b hq hp hblk (by rw [e1, e]; rfl))
          refine .inr ⟨b', n', cap', cur', ti', e1, e2, (setRow_other w b b' cs hne).trans e3, e4, e5, e6, e7, fun o ho hko => ?_⟩
          rcases hko with hko | ⟨e, _⟩
          · exact e8 o ho hko
          · exact hne e
      td := fun p E' i c T hp hi => by
        rw [he.ρ p (hk.tk p E' hp).1]
        exact hk.td p E' i c T hp hi
      tt := fun p p' E1 E2 b' hp hp' e e' => by
        rw [he.ρ p (hk.tk p E1 hp).1] at e
        rw [he.ρ p' (hk.tk p' E2 hp').1] at e'
        exact hk.tt p p' E1 E2 b' hp hp' e e'
      dd := fun i hi => .inl (hk.dd i hi)
      kb := fun b' o hko => by
        rw [setRow_size]
        rcases hko with hko | ⟨e, _⟩
        · exact h.kb b' o hko
        · omega
      k0 := fun b' o hko => .inl (h.k0 b' o hko)
      k1 := fun b' o hko => by
        rcases hko with hko | ⟨e, _⟩
        · exact h.k1 b' o hko
        · exact .inr (e ▸ h0)
      kv := fun b o hk => (he.K b o (h.k0 b o hk)).2.trans (h.kv b o hk)
      ar := fun i b hA => ⟨.inl (h.ar i b hA).1, (h.ar i b hA).2⟩
      ext := h.ext.set h0 cs
      rm := (hk.rm.setRow hh).ghost he }
  refine ⟨g', he, fun i hi => hi, .sl _ _ _ _ _ ?_ ⟨.inr rfl, hrr.symm⟩, ?_⟩
  · refine .sl ti.size (n + m) get b 0 cap (fun i k => cs.getD (i * ti.size + k) undef) hn hl (fun i k hi hk => ⟨.inr ⟨rfl, by have := idx_lt hi hk; omega⟩, ?_, h1 i k hi hk⟩) (fun i k d hi hd => (hc i k d hi hd).mono he.K)
    have h2 := idx_lt hi hk
    have h3 : (n + m) * ti.size ≤ cap * ti.size := Nat.mul_le_mul_right _ hn
    rw [cell_of_row _ _ _ cs E _ hh', Nat.zero_add]
    have : i * ti.size + k < cs.size := by omega
    simp [this]
  · refine hmid.addTok (.inr rfl) ?_ (fun i c T hi _ e => ?_) (fun p E' b' hp _ hb' e => ?_)
    · rw [hrr]
      refine .inr ⟨b, n + m, cap, cs, ti, rfl, h0, hh', hn, hcap, hT, by omega, fun o ho hko => ?_⟩
      rcases hko with hko | ⟨_, hko⟩
      · have := hkk o hko
        have : n * ti.size ≤ (n + m) * ti.size := Nat.mul_le_mul_right _ (by omega)
        omega
      · omega
    · rw [hrr] at e
      simp [r, Value.ownBlock] at e
      by_cases hqi : q = i
      · simp [hqi] at hi
      · simp only [hqi, if_false] at hi
        exact h.td q E i c T hq hi (by rw [hblk, e])
    · rw [hrr] at e
      simp [r, Value.ownBlock] at e
      by_cases hqp : q = p
      · simp [hqp] at hp
      · simp only [hqp, if_false] at hp
        rw [he.ρ p (h.tk p E' hp).1] at hb'
        exact hqp (h.tt q p E E' b hq hp hblk (by rw [hb', e]))

/-- Nothing changes but for the permission's name. -/
theorem RS.rename (h : RS w0 K0 tb t lk g a w) {id : Nat} (hid : ¬ g.C id) {E : TypeId} {r : Value} (ho : Own w0 tb g w E r)
    (h5 : ∀ i c T, lk i = some (.cells c T) → r.ownBlock ≠ some (g.σ i)) (h6 : ∀ q E b, lk q = some (.tok E) → (g.ρ q).ownBlock = some b → r.ownBlock ≠ some b) :
    ∃ g' : G, Ext g g' w w ∧ (∀ i, g'.C i → g.C i ∨ i = id) ∧ g'.C id ∧ g'.ρ id = r ∧ RS w0 K0 tb t (fun j => if id = j then some (.tok E) else lk j) g' a w := by
  let g' : G := ⟨fun i => g.C i ∨ i = id, g.σ, fun i => if i = id then r else g.ρ i, g.K⟩
  have he : Ext g g' w w := ⟨fun i hi => .inl hi, fun _ _ => rfl, fun i hi => by
    have : i ≠ id := fun e => hid (e ▸ hi)
    simp [g', this], fun b o hk => ⟨hk, rfl⟩⟩
  have hg := h.grow (Below.refl _ _) he (fun b o hk => .inl hk) h.kb
  have hr : g'.ρ id = r := by simp [g']
  refine ⟨g', he, fun i hi => hi, .inr rfl, hr, hg.addTok (.inr rfl) (by rw [hr]; exact ho) (fun i c T hi _ => by rw [hr]; exact h5 i c T hi) (fun q E b hq _ hb => ?_)⟩
  rw [hr]
  rw [he.ρ q (h.tk q E hq).1] at hb
  exact h6 q E b hq hb

end

theorem run_append_empty {P : Program} (w : World) (T ty E : TypeId) (i : TypeInfo) (ht : P.underlying T = some (.slice E)) (hi : P.info? E = some i) (b : Option Addr) (n cap : Nat) (hn : n ≤ cap) (x : Option Addr) (c : Nat) :
    (Builtin.append_ #[T, T] ty #[.slice b n cap, .slice x 0 c]).run P w = .ok (.slice b n cap) w := by
  cases x <;> cases b <;> simp [Builtin.append_, run_underlying ht, sizeOf, typeInfo, hi, Builtin.lenOf, hn, Builtin.firstCells, loadCells, loadCellsFrom, storeCells]

end Go.Ev
