/- What the evaluator's state keeps through each kind of change of the memory. -/
import Derived.Test.YtflbjjpcjeinlaaGreatDoorEvb
namespace Go.Ev
open Go Go.RowKit

theorem Ext.refl (g : G) (w : World) : Ext g g w w := ⟨fun _ h => h, fun _ _ => rfl, fun _ _ => rfl, fun _ _ h => ⟨h, rfl⟩⟩
theorem Ext.trans {a b c : G} {u v w : World} (h : Ext a b u v) (k : Ext b c v w) : Ext a c u w :=
  ⟨fun i hi => k.C i (h.C i hi), fun i hi => (k.σ i (h.C i hi)).trans (h.σ i hi), fun i hi => (k.ρ i (h.C i hi)).trans (h.ρ i hi),
   fun b o hK => let ⟨h1, h2⟩ := h.K b o hK; let ⟨h3, h4⟩ := k.K b o h1; ⟨h3, h4.trans h2⟩⟩

theorem cell_of_below {B : Nat} {w w' : World} (hb : Below B w w') {b o : Nat} (h : b < B) : w'.cell? ⟨b, o, none⟩ = w.cell? ⟨b, o, none⟩ := hb.cell (p := ⟨b, o, none⟩) h

theorem Off.set {w0 : W0} {w : World} (h : Off w0 w) {b : Nat} (hm : w0.mine b) (cs : Array Value) : Off w0 (w.setRow b cs) :=
  ⟨h.os, h.tape, h.output, by rw [setRow_size]; exact h.size, fun k hk hF => (setRow_other w b k cs (by
    rcases hm with hm | hm
    · intro e; subst e; exact hF hm
    · omega)).trans (h.block k hk hF)⟩
section
variable {w0 : W0} {K0 : Nat → Nat → Prop} {tb : Tb} {t : List D} {lk : Nat → Option Bx} {g : G} {a : Act} {w : World}

theorem RS.ev (h : RS w0 K0 tb t lk g a w) (x : Operand) : VR g w (ev t x) (a.eval x) := by
  cases x with
  | tmp i =>
    show VR g w (t.getD i .no) (a.tmps.getD i undef)
    cases hd : t[i]? with
    | none => rw [List.getD_eq_getElem?_getD, hd]; exact .no _
    | some d => rw [List.getD_eq_getElem?_getD, hd]; exact h.tm i d hd
  | const c =>
    show VR g w (constD c) c
    unfold constD
    split
    · exact .kr _ _ (.sl0 0 _ none 0)
    · exact okD_ok _
  | global n => exact .no _
  | func f => exact .v _

theorem RS.evx (h : RS w0 K0 tb t lk g a w) (ty : TypeId) (x : Operand) : VR g w (evx tb ty t x) (a.eval x) := by
  cases x with
  | tmp i => exact h.ev (.tmp i)
  | const c =>
    show VR g w (constT tb ty c) c
    unfold constT
    split
    · split
      · split
        · exact .sl _ _ _ _ _ (.sl0 _ _ none 0) rfl
        · exact .kr _ _ (.sl0 0 _ none 0)
      · exact .kr _ _ (.sl0 0 _ none 0)
    · exact okD_ok _
  | global n => exact .no _
  | func f => exact .v _

/-- Arguments. -/
theorem evL_len : ∀ (Ts : List TypeId) (xs : List Operand), (evL tb t Ts xs).length = xs.length
  | _ :: Ts, _ :: xs => by simp [evL, evL_len Ts xs]
  | [], [] => rfl
  | _ :: _, [] => rfl
  | [], _ :: xs => by simp [evL, evL_len [] xs]
theorem RS.evL (h : RS w0 K0 tb t lk g a w) : ∀ (Ts : List TypeId) (xs : List Operand) (i : Nat) (d : D), (evL tb t Ts xs)[i]? = some d → ∃ x, xs[i]? = some x ∧ VR g w d (a.eval x)
  | _ :: Ts, x :: xs, 0, d, hd => by simp only [Go.Ev.evL, List.getElem?_cons_zero, Option.some.injEq] at hd; subst hd; exact ⟨x, rfl, h.evx _ x⟩
  | _ :: Ts, x :: xs, i + 1, d, hd => by simpa using h.evL Ts xs i d (by simpa [Go.Ev.evL] using hd)
  | [], x :: xs, 0, d, hd => by simp only [Go.Ev.evL, List.getElem?_cons_zero, Option.some.injEq] at hd; subst hd; exact ⟨x, rfl, h.ev x⟩
  | [], x :: xs, i + 1, d, hd => by simpa using h.evL [] xs i d (by simpa [Go.Ev.evL] using hd)
  | [], [], i, d, hd => by simp [Go.Ev.evL] at hd
  | _ :: _, [], i, d, hd => by simp [Go.Ev.evL] at hd

/-- A value put into a temporary. -/
theorem RS.put (h : RS w0 K0 tb t lk g a w) (dst : Option Tmp) {d : D} {r : Value} (hv : VR g w d r) :
    RS w0 K0 tb (match dst with | some i => t.set i d | none => t) lk g (a.put dst r) w := by
  cases dst with
  | none => exact h
  | some i =>
    refine { h with len := by simpa [Act.put] using h.len, tm := fun j e he => ?_, df := h.df }
    simp only at he
    show VR g w e ((a.tmps.setIfInBounds i r).getD j undef)
    by_cases hij : i = j
    · subst hij
      rw [List.getElem?_set_self' ] at he
      cases ht : t[i]? with
      | none => simp [ht] at he
      | some x =>
        simp [ht] at he
        subst he
        have hi : i < a.tmps.size := by rw [h.len]; exact (List.getElem?_eq_some_iff.1 ht).1
        simp [Array.getElem?_setIfInBounds_self_of_lt hi]
        exact hv
    · rw [List.getElem?_set_ne hij] at he
      have := h.tm j e he
      simpa [Array.getElem?_setIfInBounds_ne hij] using this

theorem RM.grow (h : RM w0 tb lk g w) {g' : G} {w' : World} (hb : Below w.heap.size w w') (he : Ext g g' w w') : RM w0 tb lk g' w' :=
  h.mono fun i _ hm hi => ⟨hi, ⟨he.C i (h.C hi hm), fun j hj => he.C j (h.T hi hj)⟩, he.ρ i (h.C hi hm), fun hB => ⟨he.σ i (h.C hi hm), hb.block _ (h.lt hi hB)⟩⟩
theorem RM.ghost (h : RM w0 tb lk g w) {g' : G} {w1 w2 : World} (he : Ext g g' w1 w2) : RM w0 tb lk g' w :=
  h.mono fun i _ hm hi => ⟨hi, ⟨he.C i (h.C hi hm), fun j hj => he.C j (h.T hi hj)⟩, he.ρ i (h.C hi hm), fun _ => ⟨he.σ i (h.C hi hm), rfl⟩⟩
theorem RM.over (h : RM w0 tb lk g w) {id : Nat} {b0 : Bx} (hb0 : isMp b0 = false) : RM w0 tb (fun j => if id = j then some b0 else lk j) g w :=
  h.mono fun i b hm hi => by
    by_cases e : id = i
    · simp only [e, if_true, Option.some.injEq] at hi
      subst hi
      rw [hm] at hb0
      cases hb0
    · simp only [e, if_false] at hi
      exact ⟨hi, ⟨h.C hi hm, fun j hj => h.T hi hj⟩, rfl, fun _ => ⟨rfl, rfl⟩⟩
theorem RM.setRow (h : RM w0 tb lk g w) {x : Nat} {cs cs' : Array Value} {T : TypeId} {f : Nat × Nat} (hx : w.heap[x]? = some (.cells cs T f)) : RM w0 tb lk g (w.setRow x cs') :=
  h.mono fun i _ hm hi => ⟨hi, ⟨h.C hi hm, fun j hj => h.T hi hj⟩, rfl, fun hB => ⟨rfl, setRow_other w x (g.σ i) cs' (h.ne hi hB hx)⟩⟩

/-- Blocks that are new, nothing else: with what is known of them. -/
theorem RS.grow (h : RS w0 K0 tb t lk g a w) {g' : G} {w' : World} (hb : Below w.heap.size w w') (he : Ext g g' w w')
    (hk1 : ∀ b o, g'.K b o → g.K b o ∨ w.heap.size ≤ b) (hkb : ∀ b o, g'.K b o → b < w'.heap.size) : RS w0 K0 tb t lk g' a w' where
  len := h.len
  tm i d hd := (h.tm i d hd).mono he
  df := h.df
  bx i c T hi := by
    obtain ⟨hC, h0, hK, cs, h1, h2, h3, h4⟩ := h.bx i c T hi
    have hlt : g.σ i < w.heap.size := (Array.getElem?_eq_some_iff.1 h1).1
    rw [he.σ i hC]
    refine ⟨he.C i hC, h0, fun o hc => ?_, cs, (hb.block _ hlt).trans h1, h2, h3, fun j d hd => (h4 j d hd).mono he⟩
    rcases hk1 _ _ hc with hc | hc
    · exact hK o hc
    · omega
  bd i j c T c' T' hi hj e := by
    rw [he.σ i (h.bx i c T hi).1, he.σ j (h.bx j c' T' hj).1] at e
    exact h.bd i j c T c' T' hi hj e
  tk q E hq := by
    obtain ⟨hC, ho⟩ := h.tk q E hq
    refine ⟨he.C q hC, ?_⟩
    rw [he.ρ q hC]
    rcases ho with ho | ⟨b, n, cap, cur, ti, h1, h2, h3, h4, h5, h6, h7, h8⟩
    · exact .inl ho
    · have hlt : b < w.heap.size := (Array.getElem?_eq_some_iff.1 h3).1
      refine .inr ⟨b, n, cap, cur, ti, h1, h2, (hb.block _ hlt).trans h3, h4, h5, h6, h7, fun o ho hc => ?_⟩
      rcases hk1 _ _ hc with hc | hc
      · exact h8 o ho hc
      · omega
  td q E i c T hq hi := by
    rw [he.ρ q (h.tk q E hq).1, he.σ i (h.bx i c T hi).1]
    exact h.td q E i c T hq hi
  tt q q' E E' b hq hq' e e' := by
    rw [he.ρ q (h.tk q E hq).1] at e
    rw [he.ρ q' (h.tk q' E' hq').1] at e'
    exact h.tt q q' E E' b hq hq' e e'
  dd i hi := he.C i (h.dd i hi)
  kb := hkb
  k0 b o hk := (he.K b o (h.k0 b o hk)).1
  k1 b o hk := by
    rcases hk1 b o hk with hk | hk
    · exact h.k1 b o hk
    · exact .inr (.inr (Nat.le_trans h.ext.size hk))
  kv b o hk := (he.K b o (h.k0 b o hk)).2.trans (h.kv b o hk)
  ar i b hA := ⟨he.C i (h.ar i b hA).1, (he.σ i (h.ar i b hA).1).trans (h.ar i b hA).2⟩
  ext := h.ext.grow hb
  rm := h.rm.grow hb he

/-- One entry of the evaluator's own is told anew: a box. -/
theorem RS.addBox (h : RS w0 K0 tb t lk g a w) {id : Nat} {c : List D} {T : TypeId} {cs : Array Value} (hC : g.C id) (h0 : w0.mine (g.σ id)) (hK : ∀ o, ¬ g.K (g.σ id) o)
    (h1 : w.heap[g.σ id]? = some (.cells cs T (0, 0))) (h2 : cs.size = c.length) (h3 : ∀ j, j < c.length → oneC (cs.getD j undef) = true) (h4 : ∀ j d, c[j]? = some d → VR g w d (cs.getD j undef))
    (h5 : ∀ i c T, lk i = some (.cells c T) → i ≠ id → g.σ i ≠ g.σ id) (h6 : ∀ q E, lk q = some (.tok E) → q ≠ id → (g.ρ q).ownBlock ≠ some (g.σ id)) :
    RS w0 K0 tb t (fun j => if id = j then some (.cells c T) else lk j) g a w where
  len := h.len
  tm := h.tm
  df := h.df
  bx i c' T' hi := by
    by_cases e : id = i
    · subst e
      simp only [if_true] at hi
      cases hi
      exact ⟨hC, h0, hK, cs, h1, h2, h3, h4⟩
    · simp only [e, if_false] at hi
      exact h.bx i c' T' hi
  bd i j c1 T1 c2 T2 hi hj e := by
    by_cases e1 : id = i <;> by_cases e2 : id = j
    · exact e1.symm.trans e2
    · simp only [e2, if_false] at hj
      subst e1
      exact absurd e.symm (h5 j c2 T2 hj (Ne.symm e2))
    · simp only [e1, if_false] at hi
      subst e2
      exact absurd e (h5 i c1 T1 hi (Ne.symm e1))
    · simp only [e1, e2, if_false] at hi hj
      exact h.bd i j c1 T1 c2 T2 hi hj e
  tk q E hq := by
    by_cases e : id = q
    · simp [e] at hq
    · simp only [e, if_false] at hq
      exact h.tk q E hq
  td q E i c' T' hq hi := by
    by_cases e : id = q
    · simp [e] at hq
    · simp only [e, if_false] at hq
      by_cases e' : id = i
      · subst e'; exact h6 q E hq (Ne.symm e)
      · simp only [e', if_false] at hi
        exact h.td q E i c' T' hq hi
  tt q q' E E' b hq hq' := by
    by_cases e : id = q
    · simp [e] at hq
    · by_cases e' : id = q'
      · simp [e'] at hq'
      · simp only [e, e', if_false] at hq hq'
        exact h.tt q q' E E' b hq hq'
  dd i hi := by
    by_cases e : id = i
    · simp [e] at hi
    · simp only [e, if_false] at hi; exact h.dd i hi
  kb := h.kb
  k0 := h.k0
  k1 := h.k1
  kv := h.kv
  ar := h.ar
  ext := h.ext
  rm := h.rm.over rfl

/-- A permission. -/
theorem RS.addTok (h : RS w0 K0 tb t lk g a w) {id : Nat} {E : TypeId} (hC : g.C id) (ho : Own w0 tb g w E (g.ρ id))
    (h5 : ∀ i c T, lk i = some (.cells c T) → i ≠ id → (g.ρ id).ownBlock ≠ some (g.σ i)) (h6 : ∀ q E b, lk q = some (.tok E) → q ≠ id → (g.ρ q).ownBlock = some b → (g.ρ id).ownBlock ≠ some b) :
    RS w0 K0 tb t (fun j => if id = j then some (.tok E) else lk j) g a w where
  len := h.len
  tm := h.tm
  df := h.df
  bx i c' T' hi := by
    by_cases e : id = i
    · simp [e] at hi
    · simp only [e, if_false] at hi
      exact h.bx i c' T' hi
  bd i j c1 T1 c2 T2 hi hj e := by
    by_cases e1 : id = i
    · simp [e1] at hi
    · by_cases e2 : id = j
      · simp [e2] at hj
      · simp only [e1, e2, if_false] at hi hj
        exact h.bd i j c1 T1 c2 T2 hi hj e
  tk q E' hq := by
    by_cases e : id = q
    · subst e
      simp only [if_true] at hq
      cases hq
      exact ⟨hC, ho⟩
    · simp only [e, if_false] at hq
      exact h.tk q E' hq
  td q E' i c' T' hq hi := by
    by_cases e' : id = i
    · simp [e'] at hi
    · simp only [e', if_false] at hi
      by_cases e : id = q
      · subst e; exact h5 i c' T' hi (Ne.symm e')
      · simp only [e, if_false] at hq
        exact h.td q E' i c' T' hq hi
  tt q q' E1 E2 b hq hq' hb hb' := by
    by_cases e : id = q <;> by_cases e' : id = q'
    · exact e.symm.trans e'
    · simp only [e', if_false] at hq'
      subst e
      exact absurd hb (h6 q' E2 b hq' (Ne.symm e') hb')
    · simp only [e, if_false] at hq
      subst e'
      exact absurd hb' (h6 q E1 b hq (Ne.symm e) hb)
    · simp only [e, e', if_false] at hq hq'
      exact h.tt q q' E1 E2 b hq hq' hb hb'
  dd i hi := by
    by_cases e : id = i
    · simp [e] at hi
    · simp only [e, if_false] at hi; exact h.dd i hi
  kb := h.kb
  k0 := h.k0
  k1 := h.k1
  kv := h.kv
  ar := h.ar
  ext := h.ext
  rm := h.rm.over rfl

/-- Nothing is known any more of one entry. -/
theorem RS.kill (h : RS w0 K0 tb t lk g a w) (id : Nat) (hC : g.C id) : RS w0 K0 tb t (fun j => if id = j then some .dead else lk j) g a w where
  len := h.len
  tm := h.tm
  df := h.df
  bx i c' T' hi := by
    by_cases e : id = i
    · simp [e] at hi
    · simp only [e, if_false] at hi; exact h.bx i c' T' hi
  bd i j c1 T1 c2 T2 hi hj e := by
    by_cases e1 : id = i
    · simp [e1] at hi
    · by_cases e2 : id = j
      · simp [e2] at hj
      · simp only [e1, e2, if_false] at hi hj; exact h.bd i j c1 T1 c2 T2 hi hj e
  tk q E' hq := by
    by_cases e : id = q
    · simp [e] at hq
    · simp only [e, if_false] at hq; exact h.tk q E' hq
  td q E' i c' T' hq hi := by
    by_cases e' : id = i
    · simp [e'] at hi
    · by_cases e : id = q
      · simp [e] at hq
      · simp only [e, e', if_false] at hq hi; exact h.td q E' i c' T' hq hi
  tt q q' E1 E2 b hq hq' hb hb' := by
    by_cases e : id = q
    · simp [e] at hq
    · by_cases e' : id = q'
      · simp [e'] at hq'
      · simp only [e, e', if_false] at hq hq'; exact h.tt q q' E1 E2 b hq hq' hb hb'
  dd i hi := by
    by_cases e : id = i
    · exact e ▸ hC
    · simp only [e, if_false] at hi; exact h.dd i hi
  kb := h.kb
  k0 := h.k0
  k1 := h.k1
  kv := h.kv
  ar := h.ar
  ext := h.ext
  rm := h.rm.over rfl

theorem RS.congr (h : RS w0 K0 tb t lk g a w) {lk' : Nat → Option Bx} (e : ∀ i, lk' i = lk i) : RS w0 K0 tb t lk' g a w := by
  have : lk' = lk := funext e
  rw [this]; exact h

theorem look_cons (i : Nat) (b : Bx) (m : Mem) (j : Nat) : look ((i, b) :: m) j = if i = j then some b else look m j := by
  simp only [look]
  by_cases h : i = j
  · subst h; simp
  · have hb : Nat.beq i j = false := by
      cases hb : Nat.beq i j with
      | false => rfl
      | true => exact absurd (Nat.eq_of_beq_eq_true hb) h
    simp [h, hb]

/-- A store into a box. -/
theorem RS.store (h : RS w0 K0 tb t lk g a w) {i : Nat} {c c' : List D} {T : TypeId} {cs cs' : Array Value} (hi : lk i = some (.cells c T)) (h1 : w.heap[g.σ i]? = some (.cells cs T (0, 0)))
    (h2 : cs'.size = c'.length) (h3 : ∀ j, j < c'.length → oneC (cs'.getD j undef) = true) (h4 : ∀ j d, c'[j]? = some d → VR g w d (cs'.getD j undef)) :
    Ext g g w (w.setRow (g.σ i) cs') ∧ RS w0 K0 tb t (fun j => if i = j then some (.cells c' T) else lk j) g a (w.setRow (g.σ i) cs') := by
  obtain ⟨hC, h0, hK, _⟩ := h.bx i c T hi
  have hcell : ∀ b o, g.K b o → (w.setRow (g.σ i) cs').cell? ⟨b, o, none⟩ = w.cell? ⟨b, o, none⟩ := fun b o hk => cell_setRow_other w (g.σ i) cs' ⟨b, o, none⟩ (by
    rintro rfl
    exact hK _ hk)
  have he : Ext g g w (w.setRow (g.σ i) cs') := ⟨fun _ h => h, fun _ _ => rfl, fun _ _ => rfl, fun b o hk => ⟨hk, hcell b o hk⟩⟩
  refine ⟨he, ?_⟩
  have hmid : RS w0 K0 tb t (fun j => if i = j then some .dead else lk j) g a (w.setRow (g.σ i) cs') := by
    have hk := h.kill i hC
    exact {
      len := h.len
      tm := fun j d hd => (h.tm j d hd).mono he
      df := h.df
      bx := fun j c'' T'' hj => by
        obtain ⟨g1, g2, g3, cs'', g4, g5, g6, g7⟩ := hk.bx j c'' T'' hj
        have hij : i ≠ j := by intro e; simp [e] at hj
        simp only [hij, if_false] at hj
        refine ⟨g1, g2, g3, cs'', (setRow_other w (g.σ i) (g.σ j) cs' (fun e => hij (h.bd i j c T c'' T'' hi hj e.symm))).trans g4, g5, g6, fun k d hd => (g7 k d hd).mono he⟩
      bd := hk.bd
      tk := fun q E hq => by
        obtain ⟨g1, g2⟩ := hk.tk q E hq
        refine ⟨g1, ?_⟩
        have hiq : i ≠ q := by intro e; simp [e] at hq
        simp only [hiq, if_false] at hq
        rcases g2 with g2 | ⟨b, n, cap, cur, ti, e1, e2, e3, e4, e5, e6, e7, e8⟩
        · exact .inl g2
        · refine .inr ⟨b, n, cap, cur, ti, e1, e2, (setRow_other w (g.σ i) b cs' (fun e => ?_)).trans e3, e4, e5, e6, e7, e8⟩
          have := h.td q E i c T hq hi
          rw [e1] at this
          simp [Value.ownBlock, e] at this
      td := hk.td
      tt := hk.tt
      dd := hk.dd
      kb := fun b o hk => by rw [setRow_size]; exact h.kb b o hk
      k0 := h.k0
      k1 := h.k1
      kv := fun b o hk => (he.K b o (h.k0 b o hk)).2.trans (h.kv b o hk)
      ar := h.ar
      ext := h.ext.set h0 cs'
      rm := hk.rm.setRow h1 }
  have := hmid.addBox (id := i) (c := c') (T := T) (cs := cs') hC h0 hK (setRow_heap w _ cs cs' T _ h1) h2 h3 (fun j d hd => (h4 j d hd).mono he)
    (fun j c'' T'' hj hne e => by
      simp only [Ne.symm hne, if_false] at hj
      exact hne (h.bd j i c'' T'' c T hj hi e))
    (fun q E hq hne => by
      simp only [Ne.symm hne, if_false] at hq
      exact h.td q E i c T hq hi)
  refine this.congr fun j => ?_
  by_cases e : i = j <;> simp [e]

/-- A new block that is a box. -/
theorem RS.alloc (h : RS w0 K0 tb t lk g a w) {id : Nat} (hid : ¬ g.C id) {c : List D} {T : TypeId} {cs : Array Value} (h2 : cs.size = c.length) (h3 : ∀ j, j < c.length → oneC (cs.getD j undef) = true)
    (h4 : ∀ j d, c[j]? = some d → VR g w d (cs.getD j undef)) :
    ∃ g' : G, Ext g g' w (w.alloc (.cells cs T)) ∧ (∀ i, g'.C i → g.C i ∨ i = id) ∧ g'.C id ∧ g'.σ id = w.heap.size ∧
      RS w0 K0 tb t (fun j => if id = j then some (.cells c T) else lk j) g' a (w.alloc (.cells cs T)) := by
  let g' : G := ⟨fun i => g.C i ∨ i = id, fun i => if i = id then w.heap.size else g.σ i, g.ρ, g.K⟩
  have hb : Below w.heap.size w (w.alloc (.cells cs T)) := (Below.refl _ _).alloc (Nat.le_refl _) _
  have he : Ext g g' w (w.alloc (.cells cs T)) := ⟨fun i hi => .inl hi, fun i hi => by
    have : i ≠ id := fun e => hid (e ▸ hi)
    simp [g', this], fun _ _ => rfl, fun b o hk => ⟨hk, cell_of_below hb (h.kb b o hk)⟩⟩
  have hg := h.grow hb he (fun b o hk => .inl hk) (fun b o hk => by have := h.kb b o hk; simp; omega)
  have hs : g'.σ id = w.heap.size := by simp [g']
  refine ⟨g', he, fun i hi => hi, .inr rfl, hs, ?_⟩
  refine hg.addBox (cs := cs) (.inr rfl) (by rw [hs]; exact .inr h.ext.size) (fun o hk => ?_) (by rw [hs]; exact heap_alloc_new w _) h2 h3 (fun j d hd => (h4 j d hd).mono he) (fun i c T hi hne e => ?_) (fun q E hq _ e => ?_)
  · rw [hs] at hk
    have := h.kb _ _ hk
    omega
  · obtain ⟨hC, _, _, cs', h1', _⟩ := h.bx i c T hi
    rw [hs, he.σ i hC] at e
    have := (Array.getElem?_eq_some_iff.1 h1').1
    omega
  · obtain ⟨hC, ho⟩ := h.tk q E hq
    rw [hs, he.ρ q hC] at e
    rcases ho with ho | ⟨b, n, cap, cur, ti, h1', _, h3', _⟩
    · rw [ho] at e; simp [Value.ownBlock] at e
    · rw [h1'] at e
      simp [Value.ownBlock] at e
      have := (Array.getElem?_eq_some_iff.1 h3').1
      omega

/-- A new row that is kept, with the permission to append to it. -/
theorem RS.row (h : RS w0 K0 tb t lk g a w) {id : Nat} (hid : ¬ g.C id) {w1 : World} (hb : Below w.heap.size w w1) {cs : Array Value} {E : TypeId} {ti : Ti} {n cap : Nat} {get : Nat → List D}
    (hT : tb E = some ti) (hsz : cs.size = cap * ti.size) (hn : n ≤ cap) (hcap : cap ≤ maxLen) (hh : w1.heap[w.heap.size]? = some (.cells cs E (0, 0)))
    (hl : ∀ i, i < n → (get i).length = ti.size) (h1 : ∀ i k, i < n → k < ti.size → oneC (cs.getD (i * ti.size + k) undef) = true)
    (hc : ∀ i k d, i < n → (get i)[k]? = some d → KR g.K w d (cs.getD (i * ti.size + k) undef)) :
    ∃ g' : G, Ext g g' w w1 ∧ (∀ i, g'.C i → g.C i ∨ i = id) ∧ VR g' w1 (.sl ti.size n get (.tok id)) (.slice (some ⟨w.heap.size, 0, none⟩) n cap) ∧
      RS w0 K0 tb t (fun j => if id = j then some (.tok E) else lk j) g' a w1 := by
  let r : Value := .slice (some ⟨w.heap.size, 0, none⟩) n cap
  let g' : G := ⟨fun i => g.C i ∨ i = id, g.σ, fun i => if i = id then r else g.ρ i, fun b o => g.K b o ∨ (b = w.heap.size ∧ o < n * ti.size)⟩
  have hlt1 : w.heap.size < w1.heap.size := (Array.getElem?_eq_some_iff.1 hh).1
  have he : Ext g g' w w1 := ⟨fun i hi => .inl hi, fun _ _ => rfl, fun i hi => by
    have : i ≠ id := fun e => hid (e ▸ hi)
    simp [g', this], fun b o hk => ⟨.inl hk, cell_of_below hb (h.kb b o hk)⟩⟩
  have hg := h.grow hb he (fun b o hk => hk.elim .inl fun ⟨e, _⟩ => .inr (by omega)) (fun b o hk => hk.elim (fun hk => by have := h.kb b o hk; omega) fun ⟨e, _⟩ => by omega)
  have hr : g'.ρ id = r := by simp [g']
  have hlt : ∀ i k, i < n → k < ti.size → i * ti.size + k < n * ti.size := fun i k hi hk => by
    calc i * ti.size + k < i * ti.size + ti.size := by omega
      _ = (i + 1) * ti.size := by rw [Nat.add_mul]; simp
      _ ≤ n * ti.size := Nat.mul_le_mul_right _ (by omega)
  refine ⟨g', he, fun i hi => hi, .sl _ _ _ _ _ ?_ ⟨.inr rfl, hr.symm⟩, ?_⟩
  · refine .sl ti.size n get w.heap.size 0 cap (fun i k => cs.getD (i * ti.size + k) undef) hn hl (fun i k hi hk => ⟨.inr ⟨rfl, by have := hlt i k hi hk; omega⟩, ?_, h1 i k hi hk⟩) (fun i k d hi hd => (hc i k d hi hd).mono he.K)
    have h2 := hlt i k hi hk
    have h3 : n * ti.size ≤ cap * ti.size := Nat.mul_le_mul_right _ hn
    rw [cell_of_row w1 _ _ cs E _ hh, Nat.zero_add]
    have : i * ti.size + k < cs.size := by omega
    simp [this]
  · refine hg.addTok (.inr rfl) ?_ (fun i c T hi _ e => ?_) (fun q E' b hq _ hb' e => ?_)
    · rw [hr]
      refine .inr ⟨w.heap.size, n, cap, cs, ti, rfl, .inr h.ext.size, hh, hn, hcap, hT, hsz, fun o ho hk => ?_⟩
      rcases hk with hk | ⟨_, hk⟩
      · have := h.kb _ _ hk; omega
      · omega
    · rw [hr] at e
      simp [r, Value.ownBlock] at e
      obtain ⟨hC, _, _, cs', h1', _⟩ := h.bx i c T hi
      have := (Array.getElem?_eq_some_iff.1 h1').1
      have e2 : g'.σ i = g.σ i := rfl
      omega
    · rw [hr] at e
      simp [r, Value.ownBlock] at e
      obtain ⟨hC, ho⟩ := h.tk q E' hq
      rw [he.ρ q hC] at hb'
      rcases ho with ho | ⟨b', n', cap', cur, ti', h1', _, h3', _⟩
      · rw [ho] at hb'; simp [Value.ownBlock] at hb'
      · rw [h1'] at hb'
        simp [Value.ownBlock] at hb'
        have := (Array.getElem?_eq_some_iff.1 h3').1
        omega

/-- A new row of kept cells. -/
theorem RS.keepRow (h : RS w0 K0 tb t lk g a w) {w1 : World} (hb : Below w.heap.size w w1) (hs : w.heap.size < w1.heap.size) {sz n cap : Nat} {get : Nat → List D} {f : Nat → Nat → Value} (hn : n ≤ cap)
    (hl : ∀ i, i < n → (get i).length = sz) (h1 : ∀ i k, i < n → k < sz → w1.cell? ⟨w.heap.size, i * sz + k, none⟩ = some (f i k) ∧ oneC (f i k) = true)
    (hc : ∀ i k d, i < n → (get i)[k]? = some d → KR g.K w d (f i k)) :
    ∃ g' : G, Ext g g' w w1 ∧ (∀ i, g'.C i → g.C i) ∧ KR g'.K w1 (.sl sz n get .none) (.slice (some ⟨w.heap.size, 0, none⟩) n cap) ∧ RS w0 K0 tb t lk g' a w1 := by
  let g' : G := ⟨g.C, g.σ, g.ρ, fun b o => g.K b o ∨ (b = w.heap.size ∧ o < n * sz)⟩
  have he : Ext g g' w w1 := ⟨fun i hi => hi, fun _ _ => rfl, fun i hi => rfl, fun b o hk => ⟨.inl hk, cell_of_below hb (h.kb b o hk)⟩⟩
  refine ⟨g', he, fun i hi => hi, ?_, h.grow hb he (fun b o hk => hk.elim .inl fun ⟨e, _⟩ => .inr (by omega)) (fun b o hk => hk.elim (fun hk => by have := h.kb b o hk; omega) fun ⟨e, _⟩ => by omega)⟩
  refine .sl sz n get w.heap.size 0 cap f hn hl (fun i k hi hk => ⟨.inr ⟨rfl, ?_⟩, ?_⟩) (fun i k d hi hd => (hc i k d hi hd).mono he.K)
  · calc 0 + i * sz + k < i * sz + sz := by omega
      _ = (i + 1) * sz := by rw [Nat.add_mul]; simp
      _ ≤ n * sz := Nat.mul_le_mul_right _ (by omega)
  · rw [Nat.zero_add]; exact h1 i k hi hk
end
end Go.Ev
