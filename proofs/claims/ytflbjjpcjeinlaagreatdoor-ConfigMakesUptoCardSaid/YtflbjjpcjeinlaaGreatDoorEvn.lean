/- A loop's head: the state made canonical is still a state. -/
import Derived.Test.YtflbjjpcjeinlaaGreatDoorEvl
namespace Go.Ev
open Go Go.RowKit

section
variable {P : Program} {w0 : W0} {K0 : Nat → Nat → Prop} {tb : Tb} {t : List D} {m : Mem} {g : G} {a : Act} {w : World}

/-- The ghost behind the head: places below B as they were, and N places of its own. -/
def G.head (g : G) (B N : Nat) (Rs : List Value) : G :=
  ⟨fun i => (g.C i ∧ i < B) ∨ (B ≤ i ∧ i < B + 2 * N), g.σ, fun i => if i < B then g.ρ i else Rs.getD ((i - B) / 2) undef, g.K⟩

theorem blt_of {i B : Nat} (h : Nat.blt i B = true) : i < B := Nat.le_of_ble_eq_true h

theorem cut0_ok {B N : Nat} {Rs : List Value} {d : D} {r : Value} (h : VR g w d r) : VR (g.head B N Rs) w (cut0 B d) r := by
  have kr : ∀ {d : D}, KR g.K w d r → VR (g.head B N Rs) w d r := fun h => .kr _ _ h
  unfold cut0
  split
  · cases h with | kr _ _ h => exact kr h
  · exact kr h.isRef
  · rename_i i o
    obtain ⟨hC, rfl⟩ := h.isLoc
    split
    · rename_i hb; exact .loc (g := g.head B N Rs) i o (.inl ⟨hC, blt_of hb⟩)
    · exact .no _
  · rename_i sz i off n
    obtain ⟨hC, rfl⟩ := h.isSlm
    split
    · rename_i hb; exact .slm (g := g.head B N Rs) sz i off n (.inl ⟨hC, blt_of hb⟩)
    · exact .no _
  · exact kr h.isSl.1
  · rename_i sz n get p hp
    obtain ⟨h1, h2⟩ := h.isSl
    cases p with
    | none => exact kr h1
    | nil E => exact .sl _ _ _ _ _ h1 h2
    | tok q => exact absurd rfl (hp q)
    | own E => exact .sl _ _ _ _ _ h1 trivial
    | nn => exact .sl _ _ _ _ _ h1 h2
    | nl => exact .sl _ _ _ _ _ h1 h2
  · rename_i i
    obtain ⟨hC, rfl⟩ := h.isMp
    split
    · rename_i hb; exact .mp (g := g.head B N Rs) i (.inl ⟨hC, blt_of hb⟩)
    · exact .no _
  · rename_i i
    obtain ⟨hC, rfl⟩ := h.isIt
    split
    · rename_i hb; exact .it (g := g.head B N Rs) i (.inl ⟨hC, blt_of hb⟩)
    · exact .no _
  · exact .no _
theorem cut1_ok {B N : Nat} {Rs : List Value} {d : D} {r : Value} (h : VR g w d r) : VR (g.head B N Rs) w (cut1 B d) r := by
  cases d with
  | agg l =>
    obtain ⟨cs, rfl, hl, h1, hc⟩ := h.isAgg
    refine .agg _ cs (by simpa using hl) (fun i hi => h1 i (by simpa using hi)) (fun i d hd => ?_)
    simp only [List.getElem?_map, Option.map_eq_some_iff] at hd
    obtain ⟨d', hd', rfl⟩ := hd
    exact cut0_ok (hc i d' hd')
  | clo f l =>
    obtain ⟨cs, rfl, hl, hc⟩ := h.isClo
    refine .clo f _ cs (by simpa using hl) (fun i d hd => ?_)
    simp only [List.getElem?_map, Option.map_eq_some_iff] at hd
    obtain ⟨d', hd', rfl⟩ := hd
    exact cut0_ok (hc i d' hd')
  | _ => exact cut0_ok h

/-- Where an entry comes from. -/
def Src (m : Mem) (g : G) (B : Nat) (Rs : List Value) (x : Nat × Option Nat × TypeId) : Prop :=
  ∃ p, x.1 = B + 2 * p + 1 ∧ ((x.2.1 = none ∧ Rs.getD p undef = .slice none 0 0) ∨ ∃ q, x.2.1 = some q ∧ look m q = some (.tok x.2.2) ∧ Rs.getD p undef = g.ρ q)
structure AccOk (m : Mem) (g : G) (B : Nat) (Rs : List Value) (i : Nat) (acc : Acc) : Prop where
  src : ∀ x ∈ acc, Src m g B Rs x ∧ x.1 < B + 2 * i
  one : acc.Pairwise fun x y => ∀ q, x.2.1 = some q → y.2.1 ≠ some q
theorem AccOk.mono {B : Nat} {Rs : List Value} {i j : Nat} {acc : Acc} (h : AccOk m g B Rs i acc) (hij : i ≤ j) : AccOk m g B Rs j acc :=
  ⟨fun x hx => ⟨(h.src x hx).1, by have := (h.src x hx).2; omega⟩, h.one⟩

theorem hasQ_f {q : Nat} : ∀ {acc : Acc}, hasQ q acc = false → ∀ x ∈ acc, x.2.1 ≠ some q
  | [], _, x, hx => by cases hx
  | (id, some q', E) :: r, h, x, hx => by
    simp only [hasQ] at h
    split at h
    · cases h
    · rename_i hb
      rcases List.mem_cons.1 hx with rfl | hx
      · intro e
        simp only [Option.some.injEq] at e
        subst e
        simp at hb
      · exact hasQ_f h x hx
  | (id, none, E) :: r, h, x, hx => by
    simp only [hasQ] at h
    rcases List.mem_cons.1 hx with rfl | hx
    · intro e; cases e
    · exact hasQ_f h x hx

theorem cnD_ok {B N i : Nat} {Rs : List Value} {acc : Acc} {d : D} {r : Value} (hv : VR g w d r) (hR : Rs.getD i undef = r) (hi : i < N) (ha : AccOk m g B Rs i acc) :
    VR (g.head B N Rs) w (cnD B m (B + 2 * i + 1) acc d).1 r ∧ AccOk m g B Rs (i + 1) (cnD B m (B + 2 * i + 1) acc d).2 := by
  have hρ : (g.head B N Rs).ρ (B + 2 * i + 1) = r := by
    have h1 : ¬ (B + 2 * i + 1 < B) := by omega
    have h2 : (B + 2 * i + 1 - B) / 2 = i := by omega
    simp only [G.head, h1, if_false, h2]; exact hR
  have hC : (g.head B N Rs).C (B + 2 * i + 1) := .inr ⟨by omega, by omega⟩
  unfold cnD
  split
  · rename_i sz n get q
    obtain ⟨h1, h2⟩ := hv.isSl
    split
    · rename_i E hq hl
      refine ⟨.sl _ _ _ _ _ h1 ⟨hC, hρ.symm⟩, ⟨fun x hx => ?_, ?_⟩⟩
      · rcases List.mem_cons.1 hx with rfl | hx
        · exact ⟨⟨i, rfl, .inr ⟨q, rfl, hl, by rw [hR, h2.2]⟩⟩, by simp only; omega⟩
        · exact ⟨(ha.src x hx).1, by have := (ha.src x hx).2; omega⟩
      · refine List.Pairwise.cons (fun y hy q' e e2 => ?_) ha.one
        simp only [Option.some.injEq] at e
        subst e
        exact hasQ_f hq y hy e2
    · exact ⟨.kr _ _ h1, ha.mono (by omega)⟩
  · rename_i sz n get E
    obtain ⟨h1, h2⟩ := hv.isSl
    refine ⟨.sl _ _ _ _ _ h1 ⟨hC, hρ.symm⟩, ⟨fun x hx => ?_, ?_⟩⟩
    · rcases List.mem_cons.1 hx with rfl | hx
      · exact ⟨⟨i, rfl, .inl ⟨rfl, by rw [hR]; exact h2⟩⟩, by simp only; omega⟩
      · exact ⟨(ha.src x hx).1, by have := (ha.src x hx).2; omega⟩
    · refine List.Pairwise.cons (fun y hy q' e e2 => ?_) ha.one
      cases e
  · exact ⟨cut1_ok hv, ha.mono (by omega)⟩

theorem cnT_ok {B N : Nat} {Rs : List Value} {fg : List Tmp} (hlk : ∀ q E, look m q = some (.tok E) → g.C q) : ∀ (t : List D) (i : Nat) (acc : Acc), (∀ j d, t[j]? = some d → VR g w d (Rs.getD (i + j) undef)) → i + t.length ≤ N → AccOk m g B Rs i acc →
    (cnT B m fg i t acc).1.length = t.length ∧ (∀ j d, (cnT B m fg i t acc).1[j]? = some d → VR (g.head B N Rs) w d (Rs.getD (i + j) undef)) ∧ AccOk m g B Rs (i + t.length) (cnT B m fg i t acc).2
  | [], i, acc, _, _, ha => by simp [cnT]; exact ha
  | d :: r, i, acc, hv, hN, ha => by
    simp only [List.length_cons] at hN
    have hv0 := hv 0 d rfl
    have hv1 : ∀ j d, r[j]? = some d → VR g w d (Rs.getD (i + 1 + j) undef) := fun j d hd => by
      have := hv (j + 1) d (by simpa using hd)
      rwa [show i + 1 + j = i + (j + 1) by omega]
    simp only [cnT]
    split
    · obtain ⟨h1, h2, h3⟩ := cnT_ok (N := N) (fg := fg) hlk r (i + 1) acc hv1 (by omega) (ha.mono (by omega))
      refine ⟨by simp [h1], fun j d hd => ?_, by rw [List.length_cons, show i + (r.length + 1) = i + 1 + r.length by omega]; exact h3⟩
      cases j with
      | zero => simp at hd; subst hd; exact .no _
      | succ j =>
        have := h2 j d (by simpa using hd)
        rwa [show i + (j + 1) = i + 1 + j by omega]
    · obtain ⟨e1, e2⟩ := cnD_ok (N := N) hv0 (by simp) (by omega) ha
      obtain ⟨h1, h2, h3⟩ := cnT_ok (N := N) (fg := fg) hlk r (i + 1) _ hv1 (by omega) e2
      refine ⟨by simp [h1], fun j d hd => ?_, by rw [List.length_cons, show i + (r.length + 1) = i + 1 + r.length by omega]; exact h3⟩
      cases j with
      | zero => simp at hd; subst hd; simpa using e1
      | succ j =>
        have := h2 j d (by simpa using hd)
        rwa [show i + (j + 1) = i + 1 + j by omega]

def valsOf (w : World) (b n : Nat) : List Value := match w.heap[b]? with
  | some (.cells cs _ _) => cs.toList.take n
  | _ => []
/-- The values of the boxes' places. -/
def plM (B : Nat) (m : Mem) (g : G) (w : World) : List Nat → List Value
  | [] => []
  | id :: r => match Nat.blt id B, look m id with
    | true, some (.cells c _) => match Nat.beq (id % 4) 2 with
      | true => plM B m g w r
      | false => valsOf w (g.σ id) c.length ++ plM B m g w r
    | _, _ => plM B m g w r

/-- What a kept entry is. -/
def Good (w : World) (m : Mem) (g g' : G) (B : Nat) (x : Nat × Bx) : Prop :=
  x.1 < B ∧ ((∃ c c' T, look m x.1 = some (.cells c T) ∧ x.2 = .cells c' T ∧ c'.length = c.length ∧
    ∀ j d, c'[j]? = some d → VR g' w d ((valsOf w (g.σ x.1) c.length).getD j undef)) ∨ (isMp x.2 = true ∧ look m x.1 = some x.2 ∧ ∀ j ∈ tgts x.2, j < B))

theorem cnM_ok {B N : Nat} {Rs : List Value} (hr : RS w0 K0 tb t (look m) g a w) : ∀ (ids : List Nat) (pre : List Value) (acc : Acc), Rs = pre ++ plM B m g w ids → Rs.length = N → AccOk m g B Rs pre.length acc →
    (∀ x ∈ (cnM B m pre.length ids acc).1, Good w m g (g.head B N Rs) B x) ∧ AccOk m g B Rs (cnM B m pre.length ids acc).2.2 (cnM B m pre.length ids acc).2.1 ∧ (cnM B m pre.length ids acc).2.2 = N
  | [], pre, acc, hR, hN, ha => by
    simp only [plM, List.append_nil] at hR
    simp only [cnM]
    exact ⟨fun x hx => (by cases hx), ha, by rw [← hN, hR]⟩
  | id :: r, pre, acc, hR, hN, ha => by
    have hlk : ∀ q E, look m q = some (.tok E) → g.C q := fun q E h => (hr.tk q E h).1
    simp only [cnM]
    split
    · rename_i c T hb hl
      obtain ⟨_, _, _, cs, hh, hcs, hone, hvr⟩ := hr.bx id c T hl
      split
      · rename_i hrow
        simp only [plM, hb, hl, hrow] at hR
        have ih := cnM_ok (N := N) hr r pre acc hR hN ha
        refine ⟨fun x hx => ?_, ih.2⟩
        rcases List.mem_cons.1 hx with rfl | hx
        · refine ⟨blt_of hb, .inl ⟨c, c.map (cut0 B), T, hl, rfl, by simp, fun j d hd => ?_⟩⟩
          simp only [List.getElem?_map, Option.map_eq_some_iff] at hd
          obtain ⟨d', hd', rfl⟩ := hd
          have hvl : valsOf w (g.σ id) c.length = cs.toList := by
            simp only [valsOf, hh, ← hcs]; exact List.take_of_length_le (by simp)
          have := cut0_ok (B := B) (N := N) (Rs := Rs) (hvr j d' hd')
          simpa [hvl] using this
        · exact ih.1 x hx
      rename_i hrow
      simp only [plM, hb, hl, hrow] at hR
      have hvl : valsOf w (g.σ id) c.length = cs.toList := by
        simp only [valsOf, hh, ← hcs]; exact List.take_of_length_le (by simp)
      have hlen : (valsOf w (g.σ id) c.length).length = c.length := by rw [hvl]; simpa using hcs
      have hget : ∀ j, j < c.length → Rs.getD (pre.length + j) undef = cs.getD j undef := fun j hj => by
        rw [hR, List.getD_eq_getElem?_getD, List.getElem?_append_right (by omega), List.getElem?_append_left (by rw [hlen]; omega), hvl]
        simp
      have hNle : pre.length + c.length ≤ N := by
        rw [← hN, hR]; simp only [List.length_append, hlen]; omega
      obtain ⟨e1, e2, e3⟩ := cnT_ok (N := N) (fg := []) hlk c pre.length acc (fun j d hd => by
        rw [hget j (List.getElem?_eq_some_iff.1 hd).1]; exact hvr j d hd) hNle ha
      have ih := cnM_ok (N := N) hr r (pre ++ valsOf w (g.σ id) c.length) _ (by rw [hR, List.append_assoc]) hN (by rw [List.length_append, hlen]; exact e3)
      rw [List.length_append, hlen] at ih
      refine ⟨fun x hx => ?_, ih.2⟩
      rcases List.mem_cons.1 hx with rfl | hx
      · refine ⟨blt_of hb, .inl ⟨c, _, T, hl, rfl, e1, fun j d hd => ?_⟩⟩
        have := e2 j d hd
        rw [hget j (by rw [← e1]; exact (List.getElem?_eq_some_iff.1 hd).1)] at this
        simpa [hvl] using this
      · exact ih.1 x hx
    · rename_i T n gt ws hb hl
      have hR' : Rs = pre ++ plM B m g w r := by
        rw [hR]
        simp only [plM, hb, hl]
      have ih := cnM_ok (N := N) hr r pre acc hR' hN ha
      split
      · rename_i hws
        refine ⟨fun x hx => ?_, ih.2⟩
        rcases List.mem_cons.1 hx with rfl | hx
        · exact ⟨blt_of hb, .inr ⟨rfl, hl, fun j hj => blt_of (List.all_eq_true.1 hws j hj)⟩⟩
        · exact ih.1 x hx
      · exact ih
    · rename_i j sn hb hl
      have hR' : Rs = pre ++ plM B m g w r := by
        rw [hR]
        simp only [plM, hb, hl]
      have ih := cnM_ok (N := N) hr r pre acc hR' hN ha
      split
      · rename_i hj
        refine ⟨fun x hx => ?_, ih.2⟩
        rcases List.mem_cons.1 hx with rfl | hx
        · refine ⟨blt_of hb, .inr ⟨rfl, hl, fun j' hj' => ?_⟩⟩
          simp [tgts] at hj'
          subst hj'
          exact blt_of hj
        · exact ih.1 x hx
      · exact ih
    · rename_i h1 h2 h3 h4
      have hR' : Rs = pre ++ plM B m g w r := by
        rw [hR]
        simp only [plM]
      exact cnM_ok (N := N) hr r pre acc hR' hN ha

theorem look_mem : ∀ {m : Mem} {i : Nat} {b : Bx}, look m i = some b → (i, b) ∈ m
  | [], _, _, h => by cases h
  | (j, c) :: r, i, b, h => by
    simp only [look] at h
    split at h
    · rename_i hb
      cases h
      have := Nat.eq_of_beq_eq_true hb
      subst this
      exact List.mem_cons_self
    · exact List.mem_cons_of_mem _ (look_mem h)

theorem pair_one {q : Nat} : ∀ {acc : Acc}, acc.Pairwise (fun x y => ∀ q, x.2.1 = some q → y.2.1 ≠ some q) → ∀ {x y}, x ∈ acc → y ∈ acc → x.2.1 = some q → y.2.1 = some q → x = y
  | [], _, x, y, hx, _, _, _ => by cases hx
  | z :: r, h, x, y, hx, hy, ex, ey => by
    cases h with
    | cons h1 h2 =>
      rcases List.mem_cons.1 hx with e | hx' <;> rcases List.mem_cons.1 hy with e' | hy'
      · rw [e, e']
      · subst e; exact absurd ey (h1 y hy' q ex)
      · subst e'; exact absurd ex (h1 x hx' q ey)
      · exact pair_one h2 hx' hy' ex ey

theorem Own.head {B N : Nat} {Rs : List Value} {E : TypeId} {r : Value} (h : Own w0 tb g w E r) : Own w0 tb (g.head B N Rs) w E r := h

theorem canon_ok {s : S} (hr : RS w0 K0 tb s.t (look s.m) g a w) (k0 : Nat) (fg : List Tmp) (ids : List Nat) (hA : ∀ i b, w0.A i b → i < 2 * k0) :
    ∃ g', RS w0 K0 tb (canon k0 fg ids s).t (look (canon k0 fg ids s).m) g' a w ∧ (∀ i, g'.C i → i < 2 * (canon k0 fg ids s).k) ∧ g'.K = g.K ∧ g'.σ = g.σ ∧ (∀ i, i < 2 * k0 → g.C i → g'.C i ∧ g'.ρ i = g.ρ i) := by
  obtain ⟨B, hB⟩ : ∃ B, B = 2 * k0 := ⟨_, rfl⟩
  obtain ⟨Rs, hRs⟩ : ∃ Rs, Rs = a.tmps.toList ++ plM B s.m g w ids := ⟨_, rfl⟩
  have hlk : ∀ q E, look s.m q = some (.tok E) → g.C q := fun q E h => (hr.tk q E h).1
  have hlen : a.tmps.toList.length = s.t.length := by simpa using hr.len
  have hget : ∀ j, j < s.t.length → Rs.getD j undef = a.tmps.getD j undef := fun j hj => by
    rw [hRs, List.getD_eq_getElem?_getD, List.getElem?_append_left (by omega)]; simp
  obtain ⟨e1, e2, e3⟩ := cnT_ok (N := Rs.length) (B := B) (fg := fg) hlk s.t 0 [] (fun j d hd => by
    rw [Nat.zero_add, hget j (List.getElem?_eq_some_iff.1 hd).1]; exact hr.tm j d hd) (by rw [hRs, List.length_append, hlen]; omega) ⟨fun x hx => (by cases hx), .nil⟩
  rw [Nat.zero_add, ← hlen] at e3
  have hm := cnM_ok (N := Rs.length) (B := B) hr ids a.tmps.toList _ hRs rfl e3
  rw [hlen] at hm
  unfold canon
  rw [← hB]
  generalize cnT B s.m fg 0 s.t [] = X at *
  obtain ⟨t', a1⟩ := X
  simp only at e1 e2 hm ⊢
  generalize cnM B s.m s.t.length ids a1 = Y at *
  obtain ⟨mm, acc, n⟩ := Y
  simp only at hm ⊢
  obtain ⟨hgood, hacc, hn⟩ := hm
  subst hn
  -- what the new memory has
  have hmem : ∀ i b, look (acc.map (fun x => (x.1, Bx.tok x.2.2)) ++ mm) i = some b → (∃ x ∈ acc, x.1 = i ∧ b = .tok x.2.2) ∨ Good w s.m g (g.head B Rs.length Rs) B (i, b) := fun i b h => by
    have := look_mem h
    rcases List.mem_append.1 this with h | h
    · obtain ⟨x, hx, he⟩ := List.mem_map.1 h
      cases he
      exact .inl ⟨x, hx, rfl, rfl⟩
    · exact .inr (hgood _ h)
  have hρnew : ∀ p, (g.head B Rs.length Rs).ρ (B + 2 * p + 1) = Rs.getD p undef := fun p => by
    have h1 : ¬ (B + 2 * p + 1 < B) := by omega
    have h2 : (B + 2 * p + 1 - B) / 2 = p := by omega
    simp only [G.head, h1, if_false, h2]
  have hρold : ∀ i, i < B → (g.head B Rs.length Rs).ρ i = g.ρ i := fun i hi => by simp [G.head, hi]
  -- a permission of the new memory: an old one's, or of nothing
  have htok : ∀ q E, look (acc.map (fun x => (x.1, Bx.tok x.2.2)) ++ mm) q = some (.tok E) → (g.head B Rs.length Rs).C q ∧
      ((g.head B Rs.length Rs).ρ q = .slice none 0 0 ∨ ∃ q0, look s.m q0 = some (.tok E) ∧ (g.head B Rs.length Rs).ρ q = g.ρ q0 ∧ ∃ x ∈ acc, x.1 = q ∧ x.2.1 = some q0) := fun q E h => by
    rcases hmem q _ h with ⟨x, hx, hxq, he⟩ | ⟨hq, hg⟩
    · obtain ⟨⟨p, hp, hs⟩, hlt⟩ := hacc.src x hx
      have hq : q = B + 2 * p + 1 := hxq.symm.trans hp
      refine ⟨.inr ⟨by omega, by omega⟩, ?_⟩
      rw [hq, hρnew]
      rcases hs with ⟨_, h0⟩ | ⟨q0, h1, h3, h4⟩
      · exact .inl h0
      · refine .inr ⟨q0, by injection he with he; rw [he]; exact h3, h4, x, hx, by rw [hxq, hq], h1⟩
    · simp only at hq hg
      rcases hg with ⟨c, c', T, _, h2, _⟩ | ⟨h2, _⟩
      · cases h2
      · cases h2
  have hbox : ∀ i c' T, look (acc.map (fun x => (x.1, Bx.tok x.2.2)) ++ mm) i = some (.cells c' T) → i < B ∧ ∃ c, look s.m i = some (.cells c T) ∧ c'.length = c.length ∧
      ∀ j d, c'[j]? = some d → VR (g.head B Rs.length Rs) w d ((valsOf w (g.σ i) c.length).getD j undef) := fun i c' T h => by
    rcases hmem i _ h with ⟨x, _, _, he⟩ | ⟨hq, hg⟩
    · cases he
    · simp only at hq hg
      rcases hg with ⟨c, c1, T', h1, h2, h3, h4⟩ | ⟨h2, _⟩
      · cases h2
        exact ⟨hq, c, h1, h3, h4⟩
      · cases h2
  refine ⟨g.head B Rs.length Rs, ?_, fun i hi => ?_, rfl, rfl, fun i hi hC => ⟨.inl ⟨hC, by omega⟩, hρold i (by omega)⟩⟩
  · refine { len := by rw [e1]; exact hr.len, tm := fun i d hd => ?_, df := hr.df, bx := fun i c' T h => ?_, bd := fun i j c T c2 T2 hi hj e => ?_, tk := fun q E h => ?_, td := fun q E i c T hq hi => ?_, tt := fun q q' E E' b hq hq' hb hb' => ?_,
             dd := fun i h => ?_, rm := ?_, kb := hr.kb, k0 := hr.k0, k1 := hr.k1, kv := hr.kv, ar := fun i b hi => ⟨.inl ⟨(hr.ar i b hi).1, by have := hA i b hi; omega⟩, (hr.ar i b hi).2⟩, ext := hr.ext }
    · have := e2 i d hd
      rw [Nat.zero_add, hget i (by rw [← e1]; exact (List.getElem?_eq_some_iff.1 hd).1)] at this
      exact this
    · obtain ⟨hq, c, h1, h3, h4⟩ := hbox i c' T h
      obtain ⟨hC, h0, hK, cs, hh, hcs, hone, hvr⟩ := hr.bx i c T h1
      have hvl : valsOf w (g.σ i) c.length = cs.toList := by
        simp only [valsOf, hh, ← hcs]; exact List.take_of_length_le (by simp)
      refine ⟨.inl ⟨hC, hq⟩, h0, hK, cs, hh, by rw [h3]; exact hcs, fun j hj => hone j (by omega), fun j d hd => ?_⟩
      have := h4 j d hd
      rw [hvl] at this
      simpa using this
    · obtain ⟨_, c, h1, _⟩ := hbox i _ _ hi
      obtain ⟨_, c', h2, _⟩ := hbox j _ _ hj
      exact hr.bd i j _ _ _ _ h1 h2 e
    · obtain ⟨hC, hs⟩ := htok q E h
      refine ⟨hC, ?_⟩
      rcases hs with h0 | ⟨q0, h1, h2, _⟩
      · exact .inl h0
      · rw [h2]; exact (hr.tk q0 E h1).2
    · obtain ⟨_, hs⟩ := htok q E hq
      obtain ⟨_, c', h2, _⟩ := hbox i _ _ hi
      rcases hs with h0 | ⟨q0, h1, hρ, _⟩
      · rw [h0]; simp [Value.ownBlock]
      · rw [hρ]; exact hr.td q0 E i c' T h1 h2
    · obtain ⟨_, hs⟩ := htok q E hq
      obtain ⟨_, hs'⟩ := htok q' E' hq'
      rcases hs with h0 | ⟨q0, h1, hρ, hw⟩
      · rw [h0] at hb; simp [Value.ownBlock] at hb
      rcases hs' with h0' | ⟨q1, h1', hρ', hw'⟩
      · rw [h0'] at hb'; simp [Value.ownBlock] at hb'
      rw [hρ] at hb
      rw [hρ'] at hb'
      have e := hr.tt q0 q1 E E' b h1 h1' hb hb'
      subst e
      obtain ⟨x, hx, hxq, hxs⟩ := hw
      obtain ⟨y, hy, hyq, hys⟩ := hw'
      have := pair_one hacc.one hx hy hxs hys
      rw [← hxq, ← hyq, this]
    · rcases hmem i _ h with ⟨x, _, _, he⟩ | ⟨_, hg⟩
      · cases he
      · rcases hg with ⟨c, c', T, _, h2, _⟩ | ⟨h2, _⟩
        · cases h2
        · cases h2
    · refine hr.rm.mono fun i b hm hi => ?_
      rcases hmem i _ hi with ⟨x, _, _, he⟩ | ⟨hq, hg⟩
      · rw [he] at hm; cases hm
      · simp only at hq hg
        rcases hg with ⟨c, c', T, _, h2, _⟩ | ⟨_, h2, h3⟩
        · rw [h2] at hm; cases hm
        · exact ⟨h2, ⟨.inl ⟨hr.rm.C h2 hm, hq⟩, fun j hj => .inl ⟨hr.rm.T h2 hj, h3 j hj⟩⟩, hρold i hq, fun _ => ⟨rfl, rfl⟩⟩
  · rcases hi with ⟨_, h⟩ | ⟨_, h⟩ <;> omega
end
end Go.Ev
