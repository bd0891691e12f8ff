/- Places written out, a call that changes them, and what the caller knows behind it. -/
import Derived.Test.YtflbjjpcjeinlaaGreatDoorEvx
namespace Go.Ev
open Go Go.RowKit

section
variable {w0 : W0} {K0 : Nat → Nat → Prop} {tb : Tb} {t : List D} {m : Mem} {g : G} {a : Act} {w : World} {as : List Value}

/-- The blocks of an entry. -/
def blk (m : Mem) (g : G) (i : Nat) : List Nat :=
  match look m i with
  | some (.cells _ _) => [g.σ i]
  | some (.tok _) => (g.ρ i).ownBlock.toList
  | some (.map _ _ _ _) => [g.σ i]
  | _ => []
/-- An entry that goes over; what looks at it goes too. -/
def Live (m : Mem) (u : List Nat) (i : Nat) : Prop := (∃ b, look m i = some b) ∧ ∀ T n get ws, look m i = some (.map T n get ws) → ∀ q ∈ ws, isLk (look m q) = true → q ∈ u
theorem Live.sub {u u' : List Nat} (h : ∀ i ∈ u, i ∈ u') {i : Nat} (hl : Live m u i) : Live m u' i := ⟨hl.1, fun T n get ws hi q hq hk => h q (hl.2 T n get ws hi q hq hk)⟩
theorem Live.cells {u : List Nat} {i : Nat} {c : List D} {T : TypeId} (h : look m i = some (.cells c T)) : Live m u i := ⟨⟨_, h⟩, fun T n get ws hi => by rw [h] at hi; cases hi⟩
theorem Live.tok {u : List Nat} {i : Nat} {E : TypeId} (h : look m i = some (.tok E)) : Live m u i := ⟨⟨_, h⟩, fun T n get ws hi => by rw [h] at hi; cases hi⟩
theorem RS.cOf (hr : RS w0 K0 tb t (look m) g a w) {i : Nat} {b : Bx} (h : look m i = some b) : g.C i := by
  cases b with
  | cells c T => exact (hr.bx i c T h).1
  | tok E => exact (hr.tk i E h).1
  | dead => exact hr.dd i h
  | map T n get ws => exact hr.rm.C h rfl
  | iter j sn => exact hr.rm.C h rfl
  | stamp j kc => exact hr.rm.C h rfl

def OutOk (tb : Tb) (m : Mem) (g : G) (w : World) (as : List Value) (h : D → D × List Nat) : Prop :=
  ∀ (d : D) (r : Value), VR g w d r → XR tb g.K w as (h d).1 r ((h d).2.flatMap (blk m g)) ∧ ∀ i ∈ (h d).2, Live m (h d).2 i

theorem outL_ok {h : D → D × List Nat} (hh : OutOk tb m g w as h) : ∀ (l : List D) (rs : List Value), rs.length = l.length → (∀ i d, l[i]? = some d → VR g w d (rs.getD i undef)) →
    XRs tb g.K w as (outL h l).1 rs ((outL h l).2.flatMap (blk m g)) ∧ (∀ i ∈ (outL h l).2, Live m (outL h l).2 i) ∧ (outL h l).1.length = l.length
  | [], [], _, _ => ⟨.nil, fun i hi => by simp [outL] at hi, rfl⟩
  | d :: l, r :: rs, hl, hv => by
    have e : outL h (d :: l) = ((h d).1 :: (outL h l).1, (h d).2 ++ (outL h l).2) := rfl
    rw [e]
    obtain ⟨x1, x2⟩ := hh d r (by simpa using hv 0 d rfl)
    obtain ⟨y1, y2, y3⟩ := outL_ok hh l rs (by simpa using hl) (fun i d hd => by simpa using hv (i + 1) d (by simpa using hd))
    refine ⟨?_, fun i hi => ?_, by simp [y3]⟩
    · simp only [List.flatMap_append]
      exact .cons x1 y1
    · rcases List.mem_append.1 hi with h | h
      · exact (x2 i h).sub fun i hi => List.mem_append.2 (.inl hi)
      · exact (y2 i h).sub fun i hi => List.mem_append.2 (.inr hi)
  | [], r :: rs, hl, _ => by simp at hl
  | d :: l, [], hl, _ => by simp at hl

theorem own_x {E : TypeId} {r : Value} (h : Own w0 tb g w E r) : OwnX tb g.K w E r := by
  rcases h with h | ⟨b, n, cap, cur, ti, h1, _, h3, h4, h5, h6, h7, h8⟩
  · exact .inl h
  · exact .inr ⟨b, n, cap, cur, ti, h1, h3, h4, h5, h6, h7, h8⟩

theorem outD_ok (hr : RS w0 K0 tb t (look m) g a w) : ∀ f, OutOk tb m g w as (outD m f)
  | 0 => fun d r _ => ⟨.kr _ _ (.no _), fun i hi => by simp [outD] at hi⟩
  | f + 1 => by
    have ih : OutOk tb m g w as (outD m f) := outD_ok hr f
    intro d r hv
    have no : XR tb g.K w as .no r (([] : List Nat).flatMap (blk m g)) ∧ ∀ i ∈ ([] : List Nat), Live m [] i := ⟨.kr _ _ (.no _), fun i hi => by simp at hi⟩
    cases d with
    | loc i off =>
      cases off with
      | succ o => exact no
      | zero =>
        obtain ⟨hC, rfl⟩ := hv.isLoc
        cases hl : look m i with
        | none => simp only [outD, hl]; exact no
        | some b => cases b with
          | tok E => simp only [outD, hl]; exact no
          | dead => simp only [outD, hl]; exact no
          | map T n get ws => simp only [outD, hl]; exact no
          | iter j sn => simp only [outD, hl]; exact no
          | stamp j kc => simp only [outD, hl]; exact no
          | cells c T =>
            obtain ⟨_, _, hK, cs, hh, hs, h1, hc⟩ := hr.bx i c T hl
            obtain ⟨x1, x2, x3⟩ := outL_ok ih c cs.toList (by simpa using hs) (fun j d hd => by simpa using hc j d hd)
            have e : outD m (f + 1) (.loc i 0) = (.box T (outL (outD m f) c).1, i :: (outL (outD m f) c).2) := by simp only [outD, hl]
            rw [e]
            refine ⟨?_, fun j hj => ?_⟩
            · obtain ⟨y1, Ls, y2, y3⟩ := x1.idx
              have : (i :: (outL (outD m f) c).2).flatMap (blk m g) = g.σ i :: (List.range (outL (outD m f) c).1.length).flatMap Ls := by
                rw [List.flatMap_cons, ← y3]; simp [blk, hl]
              rw [this]
              exact .box T _ _ cs Ls hh (by rw [x3]; exact hs) (fun j hj => h1 j (by rw [← x3]; exact hj)) hK (fun j d hd => by simpa using y2 j d hd)
            · rcases List.mem_cons.1 hj with rfl | hj
              · exact .cells hl
              · exact (x2 j hj).sub fun i hi => List.mem_cons_of_mem _ hi
    | sl sz n get p =>
      obtain ⟨h1, h2⟩ := hv.isSl
      have dead : XR tb g.K w as (.sl sz n get .none) r (([] : List Nat).flatMap (blk m g)) ∧ ∀ i ∈ ([] : List Nat), Live m [] i := ⟨.kr _ _ h1, fun i hi => by simp at hi⟩
      cases p with
      | none => exact dead
      | own E => exact dead
      | nn => exact dead
      | nl => exact dead
      | nil E =>
        have e : r = .slice none 0 0 := h2
        subst e
        exact ⟨XR.own sz n get E _ h1 (.inl rfl), fun i hi => by simp [outD] at hi⟩
      | tok q =>
        obtain ⟨_, h3⟩ := h2
        cases hl : look m q with
        | none => simp only [outD, hl]; exact dead
        | some b => cases b with
          | cells c T => simp only [outD, hl]; exact dead
          | dead => simp only [outD, hl]; exact dead
          | map T n get ws => simp only [outD, hl]; exact dead
          | iter j sn => simp only [outD, hl]; exact dead
          | stamp j kc => simp only [outD, hl]; exact dead
          | tok E =>
            simp only [outD, hl]
            have ho := own_x (hr.tk q E hl).2
            rw [← h3] at ho
            refine ⟨?_, fun j hj => ?_⟩
            · have : [q].flatMap (blk m g) = r.ownBlock.toList := by simp [blk, hl, h3]
              rw [this]
              exact .own sz n get E r h1 ho
            · simp at hj; subst hj; exact .tok hl
    | agg l =>
      obtain ⟨cs, rfl, hs, h1, hc⟩ := hv.isAgg
      obtain ⟨x1, x2, x3⟩ := outL_ok ih l cs.toList (by simpa using hs) (fun j d hd => by simpa using hc j d hd)
      obtain ⟨y1, Ls, y2, y3⟩ := x1.idx
      refine ⟨?_, x2⟩
      show XR tb g.K w as (.agg (outL (outD m f) l).1) _ ((outL (outD m f) l).2.flatMap (blk m g))
      rw [y3]
      exact .agg _ cs Ls (by rw [x3]; exact hs) (fun j hj => h1 j (by rw [← x3]; exact hj)) (fun j d hd => by simpa using y2 j d hd)
    | tup l =>
      obtain ⟨cs, rfl, hs, hc⟩ := hv.isTup
      obtain ⟨x1, x2, x3⟩ := outL_ok ih l cs.toList (by simpa using hs) (fun j d hd => by simpa using hc j d hd)
      obtain ⟨y1, Ls, y2, y3⟩ := x1.idx
      refine ⟨?_, x2⟩
      show XR tb g.K w as (.tup (outL (outD m f) l).1) _ ((outL (outD m f) l).2.flatMap (blk m g))
      rw [y3]
      exact .tup _ cs Ls (by rw [x3]; exact hs) (fun j d hd => by simpa using y2 j d hd)
    | clo i l =>
      obtain ⟨cs, rfl, hs, hc⟩ := hv.isClo
      obtain ⟨x1, x2, x3⟩ := outL_ok ih l cs.toList (by simpa using hs) (fun j d hd => by simpa using hc j d hd)
      obtain ⟨y1, Ls, y2, y3⟩ := x1.idx
      refine ⟨?_, x2⟩
      show XR tb g.K w as (.clo i (outL (outD m f) l).1) _ ((outL (outD m f) l).2.flatMap (blk m g))
      rw [y3]
      exact .clo i _ cs Ls (by rw [x3]; exact hs) (fun j d hd => by simpa using y2 j d hd)
    | v x => exact ⟨.kr _ _ (by cases hv with | kr _ _ h => exact h), fun i hi => by simp [outD] at hi⟩
    | ref l => exact ⟨.kr _ _ hv.isRef, fun i hi => by simp [outD] at hi⟩
    | no => exact no
    | box T c => exact no
    | argp j => exact no
    | row sz n T c => exact no
    | mp i =>
      obtain ⟨hC, rfl⟩ := hv.isMp
      cases hl : look m i with
      | none => simp only [outD, hl]; exact no
      | some b => cases b with
        | tok E => simp only [outD, hl]; exact no
        | dead => simp only [outD, hl]; exact no
        | cells c T => simp only [outD, hl]; exact no
        | iter j sn => simp only [outD, hl]; exact no
        | stamp j kc => simp only [outD, hl]; exact no
        | map T n get ws =>
          obtain ⟨_, _, _, es, clock, hh, hM⟩ := hr.rm.mp i T n get ws hl
          simp only [outD, hl]
          have hz : (ws.filter fun q => isLk (look m q)).flatMap (blk m g) = [] := by
            rw [List.flatMap_eq_nil_iff]
            intro q hq
            have := (List.mem_filter.1 hq).2
            unfold blk
            split
            · rename_i h; rw [h] at this; cases this
            · rename_i h; rw [h] at this; cases this
            · rename_i h; rw [h] at this; cases this
            · rfl
          refine ⟨?_, fun j hj => ?_⟩
          · rw [List.flatMap_cons, hz]
            have : blk m g i = [g.σ i] := by simp [blk, hl]
            rw [this]
            exact .mpx T n get _ es clock hh hM
          · rcases List.mem_cons.1 hj with rfl | hj
            · refine ⟨⟨_, hl⟩, fun T' n' get' ws' hi q hq hk => ?_⟩
              rw [hl] at hi
              cases hi
              exact List.mem_cons_of_mem _ (List.mem_filter.2 ⟨hq, hk⟩)
            · have := (List.mem_filter.1 hj).2
              cases hb : look m j with
              | none => rw [hb] at this; cases this
              | some b =>
                refine ⟨⟨_, hb⟩, fun T' n' get' ws' hi => ?_⟩
                rw [hi] at this
                cases this
    | mpx T n get => exact no
    | it q => exact no
    | stm q => exact no
    | ifc T d =>
      obtain ⟨x, rfl, hx⟩ := hv.isIfc
      obtain ⟨y1, y2⟩ := ih d x hx
      exact ⟨.ifc _ _ _ _ y1, y2⟩
    | slm sz i off n =>
      cases off with
      | succ o => exact no
      | zero =>
        obtain ⟨hC, rfl⟩ := hv.isSlm
        cases hl : look m i with
        | none => simp only [outD, hl]; exact no
        | some b => cases b with
          | tok E => simp only [outD, hl]; exact no
          | dead => simp only [outD, hl]; exact no
          | map T n get ws => simp only [outD, hl]; exact no
          | iter j sn => simp only [outD, hl]; exact no
          | stamp j kc => simp only [outD, hl]; exact no
          | cells c T =>
            obtain ⟨_, _, hK, cs, hh, hs, h1, hc⟩ := hr.bx i c T hl
            simp only [outD, hl]
            refine ⟨?_, fun j hj => ?_⟩
            · have e : [i].flatMap (blk m g) = [g.σ i] := by simp [blk, hl]
              rw [e, Nat.zero_mul]
              refine .row sz n T _ _ cs hh (by simpa using hs) (fun j hj => h1 j (by simpa using hj)) hK (fun j d hd => ?_)
              simp only [List.getElem?_map, Option.map_eq_some_iff] at hd
              obtain ⟨d', hd', rfl⟩ := hd
              exact kp0_ok (hc j d' hd')
            · simp at hj; subst hj; exact .cells hl

theorem hasI_iff {x : Nat} : ∀ {l : List Nat}, hasI x l = true ↔ x ∈ l
  | [] => by simp [hasI]
  | y :: r => by
    have ih := @hasI_iff x r
    simp only [hasI]
    cases h : Nat.beq y x with
    | true => have := Nat.eq_of_beq_eq_true h; simp [this]
    | false =>
      have : x ≠ y := fun e => by subst e; simp at h
      simp [ih, this]
theorem onceI_nodup : ∀ {l : List Nat}, onceI l = true → l.Nodup
  | [], _ => .nil
  | x :: r, h => by
    simp only [onceI] at h
    cases hx : hasI x r with
    | true => rw [hx] at h; cases h
    | false =>
      rw [hx] at h
      refine List.nodup_cons.2 ⟨fun hm => ?_, onceI_nodup h⟩
      rw [hasI_iff.2 hm] at hx; cases hx

theorem blk_nodup (i : Nat) : (blk m g i).Nodup := by
  unfold blk
  split
  · simp
  · cases (g.ρ i).ownBlock <;> simp
  · simp
  · simp
theorem tok_cells (hr : RS w0 K0 tb t (look m) g a w) {q b : Nat} {E : TypeId} (hq : look m q = some (.tok E)) (hb : (g.ρ q).ownBlock = some b) : ∃ cs T, w.heap[b]? = some (.cells cs T (0, 0)) := by
  rcases (hr.tk q E hq).2 with h0 | ⟨b', n, cap, cur, ti, h1, _, h3, _⟩
  · rw [h0] at hb; simp [Value.ownBlock] at hb
  · rw [h1] at hb; simp [Value.ownBlock] at hb; subst hb; exact ⟨cur, E, h3⟩
theorem box_cells (hr : RS w0 K0 tb t (look m) g a w) {i : Nat} {c : List D} {T : TypeId} (hi : look m i = some (.cells c T)) : ∃ cs T, w.heap[g.σ i]? = some (.cells cs T (0, 0)) := by
  obtain ⟨_, _, _, cs, h1, _⟩ := hr.bx i c T hi
  exact ⟨cs, T, h1⟩
theorem blk_disj (hr : RS w0 K0 tb t (look m) g a w) {i j b : Nat} (hi : b ∈ blk m g i) (hj : b ∈ blk m g j) : i = j := by
  unfold blk at hi hj
  split at hi
  · rename_i c T hl
    simp at hi
    split at hj
    · rename_i c' T' hl'
      simp at hj
      exact hr.bd i j _ _ _ _ hl hl' (by omega)
    · rename_i E hl'
      simp at hj
      exact absurd (by rw [hj, hi]) (hr.td j E i c T hl' hl)
    · rename_i hl'
      simp at hj
      obtain ⟨cs, T, hc⟩ := box_cells hr hl
      rw [← hi, hj] at hc
      exact absurd rfl (hr.rm.ne hl' rfl hc)
    · simp at hj
  · rename_i E hl
    simp at hi
    split at hj
    · rename_i c' T' hl'
      simp at hj
      exact absurd (by rw [hi, hj]) (hr.td i E j c' T' hl hl')
    · rename_i E' hl'
      simp at hj
      exact hr.tt i j E E' b hl hl' hi hj
    · rename_i hl'
      simp at hj
      obtain ⟨cs, T, hc⟩ := tok_cells hr hl hi
      rw [hj] at hc
      exact absurd rfl (hr.rm.ne hl' rfl hc)
    · simp at hj
  · rename_i T n get ws hl
    simp at hi
    split at hj
    · rename_i hl'
      simp at hj
      obtain ⟨cs, T, hc⟩ := box_cells hr hl'
      rw [← hj, hi] at hc
      exact absurd rfl (hr.rm.ne hl rfl hc)
    · rename_i E' hl'
      simp at hj
      obtain ⟨cs, T, hc⟩ := tok_cells hr hl' hj
      rw [hi] at hc
      exact absurd rfl (hr.rm.ne hl rfl hc)
    · rename_i T' n' get' ws' hl'
      simp at hj
      exact hr.rm.md i j _ _ _ _ _ _ _ _ hl hl' (by omega)
    · simp at hj
  · simp at hi
theorem flat_nodup (hr : RS w0 K0 tb t (look m) g a w) : ∀ {u : List Nat}, u.Nodup → (u.flatMap (blk m g)).Nodup
  | [], _ => .nil
  | i :: u, h => by
    obtain ⟨h1, h2⟩ := List.nodup_cons.1 h
    rw [List.flatMap_cons]
    refine List.nodup_append.2 ⟨blk_nodup i, flat_nodup hr h2, fun x hx y hy e => ?_⟩
    subst e
    obtain ⟨j, hj, hy⟩ := List.mem_flatMap.1 hy
    have := blk_disj hr hx hy
    subst this
    exact h1 hj
theorem blk_mine (hr : RS w0 K0 tb t (look m) g a w) {i b : Nat} (h : b ∈ blk m g i) : w0.mine b := by
  unfold blk at h
  split at h
  · rename_i c T hl
    simp at h; subst h
    exact (hr.bx i c T hl).2.1
  · rename_i E hl
    simp at h
    rcases (hr.tk i E hl).2 with h0 | ⟨b', n, cap, cur, ti, h1, h2, _⟩
    · rw [h0] at h; simp [Value.ownBlock] at h
    · rw [h1] at h; simp [Value.ownBlock] at h; subst h; exact h2
  · rename_i T n get ws hl
    simp at h; subst h
    exact (hr.rm.mp i T n get ws hl).2.2.1
  · simp at h
theorem blk_cells (hr : RS w0 K0 tb t (look m) g a w) {i b : Nat} (h : b ∈ blk m g i) : (∃ cs T, w.heap[b]? = some (.cells cs T (0, 0))) ∨ (b = g.σ i ∧ ∃ T n get ws, look m i = some (.map T n get ws)) := by
  unfold blk at h
  split at h
  · rename_i c T hl
    simp at h; subst h
    exact .inl (box_cells hr hl)
  · rename_i E hl
    simp at h
    exact .inl (tok_cells hr hl h)
  · rename_i T n get ws hl
    simp at h
    exact .inr ⟨h, T, n, get, ws, hl⟩
  · simp at h
theorem look_dead (u : List Nat) (i : Nat) : look ((u.map fun i => (i, Bx.dead)) ++ m) i = if i ∈ u then some .dead else look m i := by
  induction u with
  | nil => simp
  | cons x u ih =>
    rw [List.map_cons, List.cons_append, look_cons, ih]
    by_cases h : x = i
    · simp [h]
    · have : ¬ i = x := fun e => h e.symm
      simp [h, this]

/-- Behind a call: what went over is gone, all else is as it was. -/
theorem RS.handed (hr : RS w0 K0 tb t (look m) g a w) {u : List Nat} (hu : ∀ i ∈ u, Live m u i) {K' : Nat → Nat → Prop} {w' : World}
    (h1 : ∀ b o, g.K b o → K' b o ∧ w'.cell? ⟨b, o, none⟩ = w.cell? ⟨b, o, none⟩) (h2 : ∀ b o, K' b o → g.K b o ∨ b ∈ u.flatMap (blk m g) ∨ w.heap.size ≤ b) (h3 : ∀ b o, K' b o → b < w'.heap.size)
    (hos : w'.os = w.os) (htp : w'.tape = w.tape) (hou : w'.output = w.output) (hsz : w.heap.size ≤ w'.heap.size) (hb : ∀ k, k < w.heap.size → k ∉ u.flatMap (blk m g) → w'.heap[k]? = w.heap[k]?) :
    RS w0 K0 tb t (look ((u.map fun i => (i, Bx.dead)) ++ m)) ⟨g.C, g.σ, g.ρ, K'⟩ a w' ∧ Ext g ⟨g.C, g.σ, g.ρ, K'⟩ w w' ∧
      (∀ b, (b ∈ u.flatMap (blk m g) ∨ w.heap.size ≤ b) → Free ((u.map fun i => (i, Bx.dead)) ++ m) ⟨g.C, g.σ, g.ρ, K'⟩ b) ∧
      ∀ i ∈ u, isMapB (look m i) = true → ∀ q x, look ((u.map fun i => (i, Bx.dead)) ++ m) q = some x → i ∉ tgI x := by
  let g' : G := ⟨g.C, g.σ, g.ρ, K'⟩
  have he : Ext g g' w w' := ⟨fun _ h => h, fun _ _ => rfl, fun _ _ => rfl, h1⟩
  have hmine : ∀ b, b ∈ u.flatMap (blk m g) → w0.mine b := fun b hb => by
    obtain ⟨i, _, hb⟩ := List.mem_flatMap.1 hb
    exact blk_mine hr hb
  have hnb : ∀ i b, i ∉ u → b ∈ blk m g i → b ∉ u.flatMap (blk m g) := fun i b hi hb hm => by
    obtain ⟨j, hj, hb'⟩ := List.mem_flatMap.1 hm
    have := blk_disj hr hb hb'
    subst this
    exact hi hj
  have hlk : ∀ {i : Nat} {b : Bx}, b ≠ .dead → look ((u.map fun i => (i, Bx.dead)) ++ m) i = some b → i ∉ u ∧ look m i = some b := fun {i b} hne h => by
    rw [look_dead] at h
    split at h
    · exact absurd (Option.some.inj h).symm hne
    · rename_i hi; exact ⟨hi, h⟩
  have hbox : ∀ i c T, look ((u.map fun i => (i, Bx.dead)) ++ m) i = some (.cells c T) → i ∉ u ∧ look m i = some (.cells c T) := fun i c T h => hlk (by simp) h
  have htok : ∀ q E, look ((u.map fun i => (i, Bx.dead)) ++ m) q = some (.tok E) → q ∉ u ∧ look m q = some (.tok E) := fun q E h => hlk (by simp) h
  have hblt : ∀ {i c T}, look m i = some (.cells c T) → g.σ i < w.heap.size := fun {i c T} hi => by
    obtain ⟨_, _, _, cs, h1', _⟩ := hr.bx i c T hi
    exact (Array.getElem?_eq_some_iff.1 h1').1
  have htlt : ∀ {q E b}, look m q = some (.tok E) → (g.ρ q).ownBlock = some b → b < w.heap.size := fun {q E b} hq hb => by
    rcases (hr.tk q E hq).2 with h0 | ⟨b', n, cap, cur, ti, e1, _, e3, _⟩
    · rw [h0] at hb; simp [Value.ownBlock] at hb
    · rw [e1] at hb; simp [Value.ownBlock] at hb; subst hb
      exact (Array.getElem?_eq_some_iff.1 e3).1
  have hbl : ∀ {i : Nat} {x : Bx}, i ∉ u → isBl x = true → look m i = some x → g.σ i ∉ u.flatMap (blk m g) := fun {i x} hiu hB hi hmem => by
    obtain ⟨j, hj, hj'⟩ := List.mem_flatMap.1 hmem
    rcases blk_cells hr hj' with ⟨cs, T, hc⟩ | ⟨e, T, n, get, ws, hl⟩
    · exact hr.rm.ne hi hB hc rfl
    · cases x with
      | map T' n' get' ws' =>
        have := hr.rm.md i j _ _ _ _ _ _ _ _ hi hl e
        subst this
        exact hiu hj
      | iter k sn =>
        obtain ⟨_, _, _, b, s, se, l, h1, _⟩ := hr.rm.it i k sn hi
        obtain ⟨_, _, _, es, clock, h2, _⟩ := hr.rm.mp j T n get ws hl
        rw [e, h2] at h1
        cases h1
      | _ => cases hB
  refine ⟨?_, he, fun b hb' => ⟨fun i c T hi e => ?_, fun q E hq e => ?_, fun i x hi hB e => ?_⟩, fun i hiu hm q x hq ht => ?_⟩
  · exact {
      len := hr.len
      tm := fun i d hd => (hr.tm i d hd).mono he
      df := hr.df
      bx := fun i c T hi => by
        obtain ⟨hiu, hi⟩ := hbox i c T hi
        obtain ⟨hC, hm, hK, cs, e1, e2, e3, e4⟩ := hr.bx i c T hi
        have hn : g.σ i ∉ u.flatMap (blk m g) := hnb i _ hiu (by simp [blk, hi])
        refine ⟨hC, hm, fun o hk => ?_, cs, (hb _ (hblt hi) hn).trans e1, e2, e3, fun j d hd => (e4 j d hd).mono he⟩
        rcases h2 _ _ hk with h | h | h
        · exact hK o h
        · exact hn h
        · have := hblt hi
          have h' : w.heap.size ≤ g.σ i := h
          omega
      bd := fun i j c T c' T' hi hj e => hr.bd i j _ _ _ _ (hbox i c T hi).2 (hbox j c' T' hj).2 e
      tk := fun q E hq => by
        obtain ⟨hqu, hq⟩ := htok q E hq
        obtain ⟨hC, ho⟩ := hr.tk q E hq
        refine ⟨hC, ?_⟩
        rcases ho with h0 | ⟨b, n, cap, cur, ti, e1, e2, e3, e4, e5, e6, e7, e8⟩
        · exact .inl h0
        · have hn : b ∉ u.flatMap (blk m g) := hnb q _ hqu (by simp [blk, hq, e1, Value.ownBlock])
          have hlt := (Array.getElem?_eq_some_iff.1 e3).1
          refine .inr ⟨b, n, cap, cur, ti, e1, e2, (hb _ hlt hn).trans e3, e4, e5, e6, e7, fun o ho hk => ?_⟩
          rcases h2 _ _ hk with h | h | h
          · exact e8 o ho h
          · exact hn h
          · omega
      td := fun q E i c T hq hi => hr.td q E i c T (htok q E hq).2 (hbox i c T hi).2
      tt := fun q q' E E' b hq hq' e e' => hr.tt q q' E E' b (htok q E hq).2 (htok q' E' hq').2 e e'
      dd := fun i hi => by
        rw [look_dead] at hi
        split at hi
        · rename_i hiu
          obtain ⟨⟨b, h⟩, _⟩ := hu i hiu
          exact hr.cOf h
        · exact hr.dd i hi
      kb := h3
      k0 := fun b o h => (h1 b o (hr.k0 b o h)).1
      k1 := fun b o h => by
        rcases h2 b o h with h | h | h
        · exact hr.k1 b o h
        · exact .inr (hmine b h)
        · exact .inr (.inr (Nat.le_trans hr.ext.size h))
      kv := fun b o h => (h1 b o (hr.k0 b o h)).2.trans (hr.kv b o h)
      ar := hr.ar
      ext := ⟨hos.trans hr.ext.os, htp.trans hr.ext.tape, hou.trans hr.ext.output, Nat.le_trans hr.ext.size hsz, fun k hk hF => (hb k (Nat.lt_of_lt_of_le hk hr.ext.size) (fun hm => by
        rcases hmine k hm with h | h
        · exact hF h
        · omega)).trans (hr.ext.block k hk hF)⟩
      rm := hr.rm.mono fun i b hm hi => by
        obtain ⟨hiu, hi⟩ := hlk (by rintro rfl; cases hm) hi
        exact ⟨hi, ⟨hr.rm.C hi hm, fun j hj => hr.rm.T hi hj⟩, rfl, fun hB => ⟨rfl, hb _ (hr.rm.lt hi hB) (hbl hiu hB hi)⟩⟩ }
  · obtain ⟨hiu, hi⟩ := hbox i c T hi
    have e : g.σ i = b := e
    rcases hb' with h | h
    · exact hnb i b hiu (by simp [blk, hi, e]) h
    · have := hblt hi; omega
  · obtain ⟨hqu, hq⟩ := htok q E hq
    have e : (g.ρ q).ownBlock = some b := e
    rcases hb' with h | h
    · exact hnb q b hqu (by simp [blk, hq, e]) h
    · have := htlt hq e; omega
  · obtain ⟨hiu, hi⟩ := hlk (by rintro rfl; cases hB) hi
    have e : g.σ i = b := e
    rcases hb' with h | h
    · exact hbl hiu hB hi (by rw [e]; exact h)
    · have := hr.rm.lt hi hB; omega
  · obtain ⟨hqu, hq⟩ := hlk (by rintro rfl; simp [tgI] at ht) hq
    cases hl : look m i with
    | none => rw [hl] at hm; cases hm
    | some y =>
      cases y with
      | map T n get ws =>
        have hw : q ∈ ws := by
          cases x with
          | iter j sn =>
            simp [tgI] at ht
            subst ht
            obtain ⟨_, _, _, b, s, se, l, _, h2⟩ := hr.rm.it q _ sn hq
            exact (h2 T n get ws hl).1
          | stamp j kc =>
            simp [tgI] at ht
            subst ht
            exact ((hr.rm.st q _ kc hq).2.2 T n get ws hl).1
          | _ => simp [tgI] at ht
        refine hqu ((hu i hiu).2 T n get ws hl q hw ?_)
        rw [hq]
        cases x <;> first | rfl | (simp [tgI] at ht)
      | _ => rw [hl] at hm; cases hm

/-! ### The arguments' places told anew -/
def UpdOk (w0 : W0) (K0 : Nat → Nat → Prop) (tb : Tb) (t : List D) (a : Act) (w : World) (as : List Value) (m0 : Mem) (u : List Nat) (h : Nat → D → D → Mem × Nat) : Prop :=
  (∀ k d0 d, k ≤ (h k d0 d).2) ∧ ∀ (k : Nat) (d0 d : D) (r : Value) (L : List Nat) (m : Mem) (g : G), VR g w d0 r → XR tb g.K w as d r L → RS w0 K0 tb t (look m) g a w → L.Nodup → (∀ b ∈ L, w0.mine b ∧ Free m g b) → (∀ i ∈ u, g.C i) → (∀ i ∈ u, isMapB (look m0 i) = true → ∀ q x, look m q = some x → i ∉ tgI x) →
    (∀ i, 4 * k ≤ i → i < 4 * (h k d0 d).2 → ¬ g.C i) → ∃ g', Took w0 K0 tb t m g a w k (h k d0 d).2 (h k d0 d).1 L g'
theorem updL_le {h : Nat → D → D → Mem × Nat} (hh : ∀ k d0 d, k ≤ (h k d0 d).2) : ∀ (l0 l : List D) (k : Nat), k ≤ (updL h k l0 l).2
  | [], _, _ => by simp [updL]
  | _ :: _, [], _ => by simp [updL]
  | d0 :: l0, d :: l, k => Nat.le_trans (hh k d0 d) (updL_le hh l0 l (h k d0 d).2)
theorem updL_ok {m0 : Mem} {u : List Nat} {h : Nat → D → D → Mem × Nat} (hh : UpdOk w0 K0 tb t a w as m0 u h) : ∀ (l0 l : List D) (k : Nat) (rs : List Value) (L : List Nat) (m : Mem) (g : G), (∀ i d, l0[i]? = some d → VR g w d (rs.getD i undef)) → XRs tb g.K w as l rs L →
    RS w0 K0 tb t (look m) g a w → L.Nodup → (∀ b ∈ L, w0.mine b ∧ Free m g b) → (∀ i ∈ u, g.C i) → (∀ i ∈ u, isMapB (look m0 i) = true → ∀ q x, look m q = some x → i ∉ tgI x) → (∀ i, 4 * k ≤ i → i < 4 * (updL h k l0 l).2 → ¬ g.C i) → ∃ g', Took w0 K0 tb t m g a w k (updL h k l0 l).2 (updL h k l0 l).1 L g'
  | [], l, k, rs, L, m, g, _, _, hr, _, _, _, _, _ => ⟨g, by simpa [updL] using Took.refl hr k L⟩
  | _ :: _, [], k, rs, L, m, g, _, _, hr, _, _, _, _, _ => ⟨g, by simpa [updL] using Took.refl hr k L⟩
  | d0 :: l0, d :: l, k, rs, L, m, g, hv, hx, hr, hnd, hL, hu, hn, hC => by
    cases hx with
    | @cons _ r L M _ rs hx hxl =>
      have e : updL h k (d0 :: l0) (d :: l) = ((updL h (h k d0 d).2 l0 l).1 ++ (h k d0 d).1, (updL h (h k d0 d).2 l0 l).2) := rfl
      rw [e] at hC ⊢
      simp only at hC ⊢
      have le1 := hh.1 k d0 d
      have le2 := updL_le hh.1 l0 l (h k d0 d).2
      obtain ⟨n1, n2, n3⟩ := List.nodup_append.1 hnd
      obtain ⟨g1, T1⟩ := hh.2 k d0 d r L m g (by simpa using hv 0 d0 rfl) hx hr n1 (fun b hb => hL b (by simp [hb])) hu hn (fun i h1 h2 => hC i h1 (by omega))
      have T1' := T1
      obtain ⟨a1, a2, a3, a4, a5, a6⟩ := T1
      obtain ⟨g2, T2⟩ := updL_ok hh l0 l (h k d0 d).2 rs M _ g1 (fun i d hd => by simpa using (hv (i + 1) d (by simpa using hd)).mono a1) (by rw [a2]; exact hxl) a4 n2
        (fun b hb => ⟨(hL b (by simp [hb])).1, a5 b (fun hb' => n3 b hb' b hb rfl) (hL b (by simp [hb])).2⟩) (fun i hi => a1.C i (hu i hi)) (fun i hi hm q x hq ht => hn i hi hm q x (a6 q x hq (fun e => by rw [e] at ht; cases ht)) ht) (fun i h1 h2 h3 => by
          rcases a3 i h3 with h | h
          · exact hC i (by omega) h2 h
          · omega)
      exact ⟨g2, T1'.trans T2 le1 le2⟩
theorem updD_ok {m0 : Mem} {u : List Nat} : ∀ f, UpdOk w0 K0 tb t a w as m0 u (updD m0 u f)
  | 0 => ⟨fun k d0 d => by simp [updD], fun k d0 d r L m g _ _ hr _ _ _ _ _ => ⟨g, by simpa [updD] using Took.refl hr k L⟩⟩
  | f + 1 => by
    have ih : UpdOk w0 K0 tb t a w as m0 u (updD m0 u f) := updD_ok f
    have inn : InOk w0 K0 tb t a w as (fun _ => True) (inD f) := inD_ok f
    refine ⟨fun k d0 d => ?_, fun k d0 d r L m g hv hx hr hnd hL hu hn hC => ?_⟩
    · unfold updD
      split
      · split
        · exact inL_le inn.1 _ k
        · exact Nat.le_refl _
      · split <;> exact Nat.le_refl _
      · exact updL_le ih.1 _ _ k
      · exact updL_le ih.1 _ _ k
      · split <;> exact Nat.le_refl _
      · exact ih.1 k _ _
      · exact Nat.le_refl _
    · revert hC
      simp only [updD]
      split
      · rename_i i T c
        cases hi : hasI i u with
        | false => exact fun _ => ⟨g, Took.refl hr k L⟩
        | true =>
          intro hC
          simp only at hC ⊢
          have hiu := hu i (hasI_iff.1 hi)
          obtain ⟨_, rfl⟩ := hv.isLoc
          cases hx with
          | kr _ _ h => cases h
          | box _ _ b cs Ls hh hs h1 hK hc =>
            obtain ⟨g', c1, c2, c3, c4, c5, c6, c7, c8⟩ := box_in inn (id := i) (k := k) hr hnd hL hh hs h1 hK (XRs.of (by simpa using hs) fun j d hd => by simpa using hc j d hd) hC (.inl ⟨hiu, rfl⟩)
            refine ⟨g', c1, c2, fun j hj => ?_, c6, c7, c8⟩
            rcases c3 j hj with h | h | h
            · exact .inl h
            · exact .inl (h ▸ hiu)
            · exact .inr h
      · rename_i _ i n _ n' T c
        cases hi : hasI i u with
        | false => exact fun _ => ⟨g, Took.refl hr k L⟩
        | true =>
          intro hC
          simp only at hC ⊢
          have hiu := hu i (hasI_iff.1 hi)
          obtain ⟨_, rfl⟩ := hv.isSlm
          rw [Nat.zero_mul] at hx
          cases hx with
          | kr _ _ h => cases h
          | row _ _ _ _ b cs hh hs h1 hK hc =>
            obtain ⟨g', c1, c2, c3, c4, c5, c6, c7, c8⟩ := row_in (id := i) hr (hL _ (by simp)) hh hs h1 hK hc (.inl ⟨hiu, rfl⟩)
            refine ⟨g', c1, c2, fun j hj => ?_, c6, c7, c8⟩
            rcases c3 j hj with h | h
            · exact .inl h
            · exact .inl (h ▸ hiu)
      · intro hC
        obtain ⟨cs, rfl, _, _, hc⟩ := hv.isAgg
        obtain ⟨cs', e, _, _, hxl⟩ := hx.isAgg
        cases e
        exact updL_ok ih _ _ k cs.toList L m g (fun i d hd => by simpa using hc i d hd) hxl hr hnd hL hu hn hC
      · intro hC
        obtain ⟨cs, rfl, _, hc⟩ := hv.isClo
        obtain ⟨cs', e, _, hxl⟩ := hx.isClo
        cases e
        exact updL_ok ih _ _ k cs.toList L m g (fun i d hd => by simpa using hc i d hd) hxl hr hnd hL hu hn hC
      · rename_i i T n get
        cases hi : (hasI i u && isMapB (look m0 i)) with
        | false => exact fun _ => ⟨g, Took.refl hr k L⟩
        | true =>
          intro hC
          simp only [Bool.and_eq_true] at hi
          simp only at hC ⊢
          have hiu := hu i (hasI_iff.1 hi.1)
          obtain ⟨_, rfl⟩ := hv.isMp
          cases hx with
          | kr _ _ h => cases h
          | mpx _ _ _ b es clock hh hM =>
            obtain ⟨g', c1, c2, c3, c4, c5, c6, c7, c8⟩ := map_in (id := i) hr (hL _ (by simp)) hh hM (.inl ⟨hiu, rfl, hn i (hasI_iff.1 hi.1) hi.2⟩)
            refine ⟨g', c1, c2, fun j hj => ?_, c6, c7, c8⟩
            rcases c3 j hj with h | h
            · exact .inl h
            · exact .inl (h ▸ hiu)
      · intro hC
        obtain ⟨x, rfl, hx0⟩ := hv.isIfc
        cases hx with
        | kr _ _ h => cases h
        | ifc _ _ _ _ h => exact ih.2 k _ _ x L m g hx0 h hr hnd hL hu hn hC
      · exact fun _ => ⟨g, Took.refl hr k L⟩

/-! ### The result -/
def ArgsOk (asD : List D) (as : List Value) (w : World) (g : G) : Prop := ∀ (j : Nat) (d : D) (r : Value), asD[j]? = some d → as[j]? = some r → VR g w d r
theorem inR_ok {asD : List D} : ∀ f, InOk w0 K0 tb t a w as (ArgsOk asD as w) (inR asD f)
  | 0 => ⟨fun k d => Nat.le_refl _, fun k d r L m g _ _ hr _ _ _ => ⟨g, Took.refl hr k L, .no _⟩⟩
  | f + 1 => by
    have ih : InOk w0 K0 tb t a w as (ArgsOk asD as w) (inR asD f) := inR_ok f
    have inn : InOk w0 K0 tb t a w as (fun _ => True) (inD (f + 1)) := inD_ok (f + 1)
    have hP : ∀ g g' : G, ArgsOk asD as w g → Ext g g' w w → ArgsOk asD as w g' := fun g g' h he j d r h1 h2 => (h j d r h1 h2).mono he
    refine ⟨fun k d => ?_, fun k d r L m g hg hx hr hnd hL hC => ?_⟩
    · cases d with
      | argp j => exact Nat.le_refl _
      | tup l => exact inL_le ih.1 l k
      | agg l => exact inL_le ih.1 l k
      | _ => exact inn.1 k _
    · cases d with
      | argp j =>
        refine ⟨g, Took.refl hr k L, ?_⟩
        show VR g w (asD.getD j .no) r
        cases hx with
        | kr _ _ h => cases h
        | argp _ _ h =>
          rw [List.getD_eq_getElem?_getD]
          cases hd : asD[j]? with
          | none => exact .no _
          | some d => exact hg j d r hd h
      | tup l =>
        obtain ⟨cs, rfl, hs, hxl⟩ := hx.isTup
        obtain ⟨g', T1, e1, v1⟩ := inL_ok hP ih l k cs.toList L m g hg hxl hr hnd hL hC
        exact ⟨g', T1, .tup _ cs (by rw [e1]; exact hs) (fun i d hd => by simpa using v1 i d hd)⟩
      | agg l =>
        obtain ⟨cs, rfl, hs, h1, hxl⟩ := hx.isAgg
        obtain ⟨g', T1, e1, v1⟩ := inL_ok hP ih l k cs.toList L m g hg hxl hr hnd hL hC
        exact ⟨g', T1, .agg _ cs (by rw [e1]; exact hs) (fun i hi => h1 i (by rw [← e1]; exact hi)) (fun i d hd => by simpa using v1 i d hd)⟩
      | _ => exact inn.2 k _ r L m g trivial hx hr hnd hL hC

/-- **A call that is handed places.** -/
theorem callX_ok {P : Program} {gl : Gls} {e : FeX} {f : FuncId} (he : ∀ args d ys, e args = some (true, d, ys) → SpecX P gl tb f args d ys) {fr : Nat} {ds : List D} {rs : List Value} (hl : rs.length = ds.length) (hv : ∀ i d, ds[i]? = some d → VR g w d (rs.getD i undef))
    {d : D} {δ : Mem} (h : callX e fr ds m = some (true, d, δ)) (hr : RS w0 K0 tb t (look m) g a w) (hC : ∀ i, 4 * fr ≤ i → i < 4 * (fr + 31) → ¬ g.C i) (hgl : Gl gl g.K w) :
    Calls P f rs.toArray w fun ex w' => ∃ r g', ex = .returned r ∧ Ext g g' w w' ∧ (∀ i, g'.C i → g.C i ∨ (4 * fr ≤ i ∧ i < 4 * (fr + 31))) ∧ VR g' w' d r ∧ RS w0 K0 tb t (look (δ ++ m)) g' a w' := by
  unfold callX at h
  obtain ⟨x1, x2, x3⟩ := outL_ok (as := []) (outD_ok hr 6) ds rs hl hv
  generalize outL (outD m 6) ds = X at h x1 x2 x3
  obtain ⟨xs, u⟩ := X
  try simp only at h x1 x2 x3
  split at h
  · cases h
  · rename_i c d1 ys hey
    have le1 := updL_le (updD_ok (w0 := w0) (K0 := K0) (tb := tb) (t := t) (a := a) (w := w) (as := rs) (m0 := m) (u := u) 6).1 ds ys fr
    generalize hum : updL (updD m u 6) fr ds ys = U at h le1
    obtain ⟨um, k⟩ := U
    try simp only at h le1
    split at h
    · rename_i um' k' hon hpe
      cases hpe
      have le2 := (inR_ok (w0 := w0) (K0 := K0) (tb := tb) (t := t) (a := a) (w := w) (as := rs) (asD := ds) 7).1 k d1
      generalize hrm : inR ds 7 k d1 = R at h le2
      obtain ⟨d2, rm, k2⟩ := R
      try simp only at h le2
      split at h
      · rename_i hle
        have hle := Nat.le_of_ble_eq_true hle
        simp only [Option.some.injEq, Prod.mk.injEq] at h
        obtain ⟨rfl, rfl, rfl⟩ := h
        simp only [Bool.and_eq_true] at hon
        have hnd := onceI_nodup hon.1
        refine (he xs d1 ys hey g.K w rs _ hgl hr.kb x1 (flat_nodup hr hnd)).mono fun ex w' ⟨r, K', L', e1, h1, h2, h3, hx, hnd', hL', hos, htp, hou, hsz, hb⟩ => ?_
        obtain ⟨hr0, he0, hfree, hnl⟩ := hr.handed x2 h1 h2 h3 hos htp hou hsz hb
        generalize hg0 : (⟨g.C, g.σ, g.ρ, K'⟩ : G) = g0 at hr0 he0 hfree
        have hgC : g0.C = g.C := by rw [← hg0]
        have hgK : g0.K = K' := by rw [← hg0]
        cases hx with
        | @cons _ _ L M _ _ hxd hxy =>
          obtain ⟨n1, n2, n3⟩ := List.nodup_append.1 hnd'
          have hLM : ∀ b, b ∈ L ++ M → w0.mine b ∧ Free ((u.map fun i => (i, Bx.dead)) ++ m) g0 b := fun b hb => by
            refine ⟨?_, hfree b (hL' b hb)⟩
            rcases hL' b hb with h | h
            · obtain ⟨i, _, hb⟩ := List.mem_flatMap.1 h
              exact blk_mine hr hb
            · exact .inr (Nat.le_trans hr.ext.size h)
          have hv0 : ∀ i d, ds[i]? = some d → VR g0 w' d (rs.getD i undef) := fun i d hd => (hv i d hd).mono he0
          obtain ⟨g1, T1⟩ := updL_ok (updD_ok 6) ds ys fr rs M _ g0 hv0 (by rw [hgK]; exact hxy) hr0 n2 (fun b hb => hLM b (by simp [hb])) (fun i hi => by
            rw [hgC]
            obtain ⟨⟨b, h⟩, _⟩ := x2 i hi
            exact hr.cOf h) hnl (fun i h1 h2 => by rw [hgC]; rw [hum] at h2; exact hC i h1 (by simp only at h2; omega))
          rw [hum] at T1
          have T1' := T1
          obtain ⟨a1, a2, a3, a4, a5, _⟩ := T1
          try simp only at a3 a4 a5
          obtain ⟨g2, T2, v2⟩ := (inR_ok (asD := ds) 7).2 k d1 r L _ g1 (fun j d r hd hj => by
            have := (hv0 j d hd).mono a1
            rwa [List.getD_eq_getElem?_getD, hj] at this) (by rw [a2, hgK]; exact hxd) a4 n1 (fun b hb => ⟨(hLM b (by simp [hb])).1, a5 b (fun hb' => n3 b hb b hb' rfl) (hLM b (by simp [hb])).2⟩) (fun i h1 h2 h3 => by
              rw [hrm] at h2
              rcases a3 i h3 with h | h
              · rw [hgC] at h
                exact hC i (by omega) (by simp only at h2; omega) h
              · omega)
          rw [hrm] at T2 v2
          obtain ⟨b1, b2, b3, b4, b5, _⟩ := T2
          try simp only at b3 b4 v2
          refine ⟨r, g2, e1, he0.trans (a1.trans b1), fun i hi => ?_, v2, ?_⟩
          · rcases b3 i hi with h | h
            · rcases a3 i h with h | h
              · rw [hgC] at h; exact .inl h
              · exact .inr (by omega)
            · exact .inr (by omega)
          · simpa [List.append_assoc] using b4
      · cases h
    · cases h
end
end Go.Ev
