/- Regions that draw their order, first part: what an effect hangs on, and what comes ahead of what. -/
import Derived.Test.YtflbjjpcjeinlaaGreatDoorEvi
namespace Go.Ev
open Go Go.RowKit

section
variable {tb : Tb} {env : Env} {ops : Array Oper}

/-! ### What an effect hangs on -/
theorem ev_congr {t t' : List D} {x : Operand} (h : ∀ i ∈ rTmp x, t.getD i .no = t'.getD i .no) : ev t x = ev t' x := by
  cases x with
  | tmp i => exact h i (by simp [rTmp])
  | const c => rfl
  | global n => rfl
  | func f => rfl
theorem evx_congr {ty : TypeId} {t t' : List D} {x : Operand} (h : ∀ i ∈ rTmp x, t.getD i .no = t'.getD i .no) : evx tb ty t x = evx tb ty t' x := by
  cases x with
  | tmp i => exact h i (by simp [rTmp])
  | const c => rfl
  | global n => rfl
  | func f => rfl

def relLoc : D → List Nat
  | .loc i _ => match Nat.beq (i % 2) 0 with | true => [i] | false => []
  | _ => []
def relTok : List D → List Nat
  | .sl _ _ _ (.tok q) :: _ => match Nat.beq (q % 2) 1 with | true => [q] | false => []
  | _ => []
/-- The entries of the evaluator's own that an operation looks at. -/
def rel (o : Oper) (t : List D) : List Nat :=
  match o.op with
  | .load _ a => relLoc (ev t a)
  | .store _ a _ => relLoc (ev t a)
  | .call ⟨.builtin .append, args, _⟩ => relTok (args.toList.map (ev t))
  | _ => []

theorem lookX_some {X : List (FuncId × FeX)} {f : FuncId} {e : FeX} (h : lookX X f = some e) : hasF f X = true ∧ X.isEmpty = false := by
  induction X with
  | nil => cases h
  | cons x r ih =>
    obtain ⟨i, y⟩ := x
    refine ⟨?_, rfl⟩
    simp only [lookX] at h
    simp only [hasF]
    cases hb : Nat.beq i f with
    | true => rfl
    | false => rw [hb] at h; exact (ih h).1
theorem outL_congr {h h' : D → D × List Nat} (e : ∀ d, h d = h' d) : ∀ l, outL h l = outL h' l
  | [] => rfl
  | d :: r => by simp only [outL, e d, outL_congr e r]
theorem outD_congr {m m' : Mem} (e : ∀ i, look m i = look m' i) : ∀ f d, outD m f d = outD m' f d
  | 0, _ => rfl
  | f + 1, d => by
    have ih := outL_congr (outD_congr e f)
    unfold outD
    split
    · rw [e]; split <;> simp only [ih]
    · rw [e]
    · rw [e]
    · rfl
    · simp only [ih]
    · simp only [ih]
    · simp only [ih]
    · rfl
    · rfl
    · simp only [e]
    · simp only [outD_congr e f]
    · rfl
    · rfl
theorem updD_congr {m m' : Mem} (e : ∀ i, look m i = look m' i) {u : List Nat} : ∀ f, updD m u f = updD m' u f
  | 0 => by funext k a d; rfl
  | f + 1 => by
    funext k a d
    unfold updD
    simp only [updD_congr e f, e]
theorem callX_congr {e : FeX} {fr : Nat} {ds : List D} {m m' : Mem} (h : ∀ i, look m i = look m' i) : callX e fr ds m = callX e fr ds m' := by
  unfold callX
  rw [outL_congr (outD_congr h 6)]
  simp only [updD_congr h 6]
/-- The numbers that are given out. -/
theorem inL_ids {h : Nat → D → D × Mem × Nat} (hle : ∀ k d, k ≤ (h k d).2.2) (hh : ∀ k d i, i ∈ (h k d).2.1.map Prod.fst → 4 * k ≤ i ∧ i < 4 * (h k d).2.2) : ∀ (l : List D) (k i : Nat), i ∈ (inL h k l).2.1.map Prod.fst → 4 * k ≤ i ∧ i < 4 * (inL h k l).2.2
  | [], k, i, hi => by simp [inL] at hi
  | d :: r, k, i, hi => by
    have e : inL h k (d :: r) = ((h k d).1 :: (inL h (h k d).2.2 r).1, (inL h (h k d).2.2 r).2.1 ++ (h k d).2.1, (inL h (h k d).2.2 r).2.2) := rfl
    rw [e] at hi ⊢
    have l1 := hle k d
    have l2 := inL_le hle r (h k d).2.2
    simp only [List.map_append, List.mem_append] at hi
    rcases hi with hi | hi
    · have := inL_ids hle hh r _ i hi; exact ⟨by omega, this.2⟩
    · have := hh k d i hi; exact ⟨this.1, by show i < 4 * (inL h (h k d).2.2 r).2.2; omega⟩
theorem inD_le : ∀ f k d, k ≤ (inD f k d).2.2
  | 0, _, _ => Nat.le_refl _
  | f + 1, k, d => by
    have ih := inD_le f
    cases d with
    | box T c => exact Nat.le_trans (Nat.le_succ k) (inL_le ih c (k + 1))
    | sl sz n get p => cases p <;> simp [inD]
    | agg l => exact inL_le ih l k
    | tup l => exact inL_le ih l k
    | clo i l => exact inL_le ih l k
    | row sz n T c => exact Nat.le_succ k
    | mpx T n get => exact Nat.le_succ k
    | ifc T d => exact ih k d
    | _ => exact Nat.le_refl _
theorem inD_ids : ∀ f k d i, i ∈ (inD f k d).2.1.map Prod.fst → 4 * k ≤ i ∧ i < 4 * (inD f k d).2.2
  | 0, _, _, i, hi => by simp [inD] at hi
  | f + 1, k, d, i, hi => by
    have ih := inL_ids (inD_le f) (inD_ids f)
    cases d with
    | box T c =>
      have l1 := inL_le (inD_le f) c (k + 1)
      have e : inD (f + 1) k (.box T c) = (.loc (4 * k) 0, (4 * k, .cells (inL (inD f) (k + 1) c).1 T) :: (inL (inD f) (k + 1) c).2.1, (inL (inD f) (k + 1) c).2.2) := rfl
      rw [e] at hi ⊢
      simp only [List.map_cons, List.mem_cons] at hi
      rcases hi with rfl | hi
      · exact ⟨Nat.le_refl _, by show 4 * k < 4 * (inL (inD f) (k + 1) c).2.2; omega⟩
      · have := ih c (k + 1) i hi; exact ⟨by omega, this.2⟩
    | sl sz n get p =>
      cases p with
      | own E =>
        have hi : i ∈ [4 * k + 1] := hi
        simp at hi; subst hi
        exact ⟨by omega, by show 4 * k + 1 < 4 * (k + 1); omega⟩
      | _ => simp [inD] at hi
    | agg l => exact ih l k i hi
    | tup l => exact ih l k i hi
    | clo j l => exact ih l k i hi
    | row sz n T c =>
      have hi : i ∈ [4 * k + 2] := hi
      simp at hi; subst hi
      exact ⟨by omega, by show 4 * k + 2 < 4 * (k + 1); omega⟩
    | mpx T n get =>
      have hi : i ∈ [4 * k + 3] := hi
      simp at hi; subst hi
      exact ⟨by omega, by show 4 * k + 3 < 4 * (k + 1); omega⟩
    | ifc T d => exact inD_ids f k d i hi
    | _ => simp [inD] at hi
theorem updL_ids {u : List Nat} {h : Nat → D → D → Mem × Nat} (hle : ∀ k d0 d, k ≤ (h k d0 d).2) (hh : ∀ k d0 d i, i ∈ (h k d0 d).1.map Prod.fst → i ∈ u ∨ (4 * k ≤ i ∧ i < 4 * (h k d0 d).2)) : ∀ (l0 l : List D) (k i : Nat), i ∈ (updL h k l0 l).1.map Prod.fst → i ∈ u ∨ (4 * k ≤ i ∧ i < 4 * (updL h k l0 l).2)
  | [], _, _, i, hi => by simp [updL] at hi
  | _ :: _, [], _, i, hi => by simp [updL] at hi
  | d0 :: l0, d :: l, k, i, hi => by
    have e : updL h k (d0 :: l0) (d :: l) = ((updL h (h k d0 d).2 l0 l).1 ++ (h k d0 d).1, (updL h (h k d0 d).2 l0 l).2) := rfl
    rw [e] at hi ⊢
    have l1 := hle k d0 d
    have l2 := updL_le hle l0 l (h k d0 d).2
    simp only [List.map_append, List.mem_append] at hi
    rcases hi with hi | hi
    · exact (updL_ids hle hh l0 l _ i hi).imp (fun h => h) fun h => ⟨by omega, h.2⟩
    · exact (hh k d0 d i hi).imp (fun h => h) fun h' => ⟨h'.1, by show i < 4 * (updL h (h k d0 d).2 l0 l).2; omega⟩
theorem updD_le {m0 : Mem} {u : List Nat} : ∀ f k d0 d, k ≤ (updD m0 u f k d0 d).2
  | 0, _, _, _ => by simp [updD]
  | f + 1, k, d0, d => by
    unfold updD
    split
    · split
      · exact inL_le (inD_le f) _ k
      · exact Nat.le_refl _
    · split <;> exact Nat.le_refl _
    · exact updL_le (updD_le f) _ _ k
    · exact updL_le (updD_le f) _ _ k
    · split <;> exact Nat.le_refl _
    · exact updD_le f k _ _
    · exact Nat.le_refl _
theorem updD_ids {m0 : Mem} {u : List Nat} : ∀ f k d0 d i, i ∈ (updD m0 u f k d0 d).1.map Prod.fst → i ∈ u ∨ (4 * k ≤ i ∧ i < 4 * (updD m0 u f k d0 d).2)
  | 0, _, _, _, i, hi => by simp [updD] at hi
  | f + 1, k, d0, d, i, hi => by
    revert hi
    simp only [updD]
    split
    · rename_i j T c
      cases hj : hasI j u with
      | false => exact fun hi => by simp at hi
      | true =>
        intro hi
        simp only [List.map_cons, List.mem_cons] at hi ⊢
        rcases hi with rfl | hi
        · exact .inl (hasI_iff.1 hj)
        · exact .inr (inL_ids (inD_le f) (inD_ids f) c k i hi)
    · rename_i j _ _ _ T c
      cases hj : hasI j u with
      | false => exact fun hi => by simp at hi
      | true =>
        intro hi
        simp only [List.map_cons, List.map_nil, List.mem_cons, List.mem_nil_iff, or_false] at hi
        exact .inl (hi ▸ hasI_iff.1 hj)
    · exact fun hi => updL_ids (updD_le f) (updD_ids f) _ _ k i hi
    · exact fun hi => updL_ids (updD_le f) (updD_ids f) _ _ k i hi
    · rename_i j T n get
      cases hj : (hasI j u && isMapB (look m0 j)) with
      | false => exact fun hi => by simp at hi
      | true =>
        intro hi
        simp only [Bool.and_eq_true] at hj
        simp only [List.map_cons, List.map_nil, List.mem_cons, List.mem_nil_iff, or_false] at hi
        exact .inl (hi ▸ hasI_iff.1 hj.1)
    · exact fun hi => updD_ids f k _ _ i hi
    · exact fun hi => by simp at hi
theorem inR_le {as : List D} : ∀ f k d, k ≤ (inR as f k d).2.2
  | 0, _, _ => Nat.le_refl _
  | f + 1, k, d => by
    cases d with
    | argp j => exact Nat.le_refl _
    | tup l => exact inL_le (inR_le f) l k
    | agg l => exact inL_le (inR_le f) l k
    | _ => exact inD_le (f + 1) k _
theorem inR_ids {as : List D} : ∀ f k d i, i ∈ (inR as f k d).2.1.map Prod.fst → 4 * k ≤ i ∧ i < 4 * (inR as f k d).2.2
  | 0, _, _, i, hi => by simp [inR] at hi
  | f + 1, k, d, i, hi => by
    cases d with
    | argp j => simp [inR] at hi
    | tup l => exact inL_ids (inR_le f) (inR_ids f) l k i hi
    | agg l => exact inL_ids (inR_le f) (inR_ids f) l k i hi
    | _ => exact inD_ids (f + 1) k _ i hi
theorem outL_live {m : Mem} {h : D → D × List Nat} (hh : ∀ d i, i ∈ (h d).2 → look m i ≠ none) : ∀ l i, i ∈ (outL h l).2 → look m i ≠ none
  | [], i, hi => by simp [outL] at hi
  | d :: r, i, hi => by
    have e : outL h (d :: r) = ((h d).1 :: (outL h r).1, (h d).2 ++ (outL h r).2) := rfl
    rw [e] at hi
    rcases List.mem_append.1 hi with hi | hi
    · exact hh d i hi
    · exact outL_live hh r i hi
theorem outD_live {m : Mem} : ∀ f d i, i ∈ (outD m f d).2 → look m i ≠ none
  | 0, _, i, hi => by simp [outD] at hi
  | f + 1, d, i, hi => by
    have ih := outL_live (outD_live (m := m) f)
    revert hi
    unfold outD
    split
    · split
      · rename_i hl
        intro hi
        simp only [List.mem_cons] at hi
        rcases hi with rfl | hi
        · rw [hl]; simp
        · exact ih _ i hi
      · exact fun hi => by simp at hi
    · split
      · rename_i hl
        intro hi
        simp at hi; subst hi; rw [hl]; simp
      · exact fun hi => by simp at hi
    · split
      · rename_i hl
        intro hi
        simp at hi; subst hi; rw [hl]; simp
      · exact fun hi => by simp at hi
    · exact fun hi => by simp at hi
    · exact fun hi => ih _ i hi
    · exact fun hi => ih _ i hi
    · exact fun hi => ih _ i hi
    · exact fun hi => by simp at hi
    · exact fun hi => by simp at hi
    · split
      · rename_i hl
        intro hi
        rcases List.mem_cons.1 hi with rfl | hi
        · rw [hl]; simp
        · have := (List.mem_filter.1 hi).2
          intro e
          rw [e] at this
          cases this
      · exact fun hi => by simp at hi
    · exact fun hi => outD_live f _ i hi
    · exact fun hi => by simp at hi
    · exact fun hi => by simp at hi
theorem callX_ids {e : FeX} {fr : Nat} {ds : List D} {m : Mem} {c : Bool} {d : D} {δ : Mem} (h : callX e fr ds m = some (c, d, δ)) (i : Nat) (hi : i ∈ δ.map Prod.fst) : (4 * fr ≤ i ∧ i < 4 * (fr + 31)) ∨ look m i ≠ none := by
  unfold callX at h
  have hlive := outL_live (outD_live (m := m) 6) ds
  generalize outL (outD m 6) ds = X at h hlive
  obtain ⟨xs, u⟩ := X
  simp only at h hlive
  split at h
  · cases h
  · rename_i c d1 ys hey
    have le1 := updL_le (updD_le (m0 := m) (u := u) 6) ds ys fr
    have id1 := updL_ids (updD_le (m0 := m) (u := u) 6) (updD_ids 6) ds ys fr
    generalize updL (updD m u 6) fr ds ys = U at h le1 id1
    obtain ⟨um, k⟩ := U
    simp only at h le1 id1
    split at h
    · rename_i um' k' hon hpe
      cases hpe
      have le2 := inR_le (as := ds) 7 k d1
      have id2 := inR_ids (as := ds) 7 k d1
      generalize inR ds 7 k d1 = R at h le2 id2
      obtain ⟨d2, rm, k2⟩ := R
      simp only at h le2 id2
      split at h
      · rename_i hle
        have hle := Nat.le_of_ble_eq_true hle
        simp only [Option.some.injEq, Prod.mk.injEq] at h
        obtain ⟨_, _, rfl⟩ := h
        simp only [List.map_append, List.mem_append] at hi
        rcases hi with hi | hi | hi
        · have := id2 i hi; exact .inl (by omega)
        · rcases id1 i hi with h | h
          · exact .inr (hlive i h)
          · exact .inl (by omega)
        · simp at hi
          exact .inr (hlive i hi)
      · cases h
    · cases h

abbrev SameT (t t' : List D) (l : List Operand) : Prop := ∀ x ∈ l, ∀ i ∈ rTmp x, t.getD i .no = t'.getD i .no

theorem SameT.map {t t' : List D} {l : List Operand} (h : SameT t t' l) : l.map (ev t) = l.map (ev t') := List.map_congr_left fun x hx => ev_congr (h x hx)

theorem evBuiltin_congr {idt : Nat} {b : Builtin} {ats : Array TypeId} {args : List D} {m m' : Mem} (hm : b = .append → ∀ i ∈ relTok args, look m i = look m' i) : evBuiltin tb idt b ats args m = evBuiltin tb idt b ats args m' := by
  unfold evBuiltin
  split <;> first | rfl | skip
  rename_i sz n get p sz' n' get' p' T T' hats
  split <;> first | rfl | skip
  split <;> first | rfl | skip
  simp only
  split <;> first | rfl | skip
  rename_i q hok
  cases hp : Nat.beq (q % 2) 1 with
  | true => rw [hm rfl q (by simp [relTok, hp])]
  | false => rcases look m q with _ | (_ | _ | _) <;> rcases look m' q with _ | (_ | _ | _) <;> simp

theorem evL_congr {t t' : List D} : ∀ (Ts : List TypeId) (xs : List Operand), SameT t t' xs → evL tb t Ts xs = evL tb t' Ts xs
  | T :: Ts, x :: xs, h => by simp only [evL]; rw [evx_congr (h x (by simp)), evL_congr Ts xs fun y hy => h y (by simp [hy])]
  | [], [], _ => rfl
  | _ :: _, [], _ => rfl
  | [], x :: xs, h => by simp only [evL]; rw [ev_congr (h x (by simp)), evL_congr [] xs fun y hy => h y (by simp [hy])]
theorem evOp0_congr {id idt fr : Nat} {o : Oper} {t t' : List D} {m m' : Mem} (ht : SameT t t' o.op.operands.toList) (hm : ∀ i ∈ rel o t, look m i = look m' i) (hX : mayX env.x o.op = true → ∀ i, look m i = look m' i) :
    evOp0 env tb id idt fr o t m = evOp0 env tb id idt fr o t' m' := by
  cases ho : o.op with
  | move x => rw [ho] at ht; simp only [evOp0, ho, evx_congr (ht x (by simp [Op.operands]))]
  | assign x => rw [ho] at ht; simp only [evOp0, ho, evx_congr (ht x (by simp [Op.operands]))]
  | alloc T => simp only [evOp0, ho]
  | box T x => rw [ho] at ht; simp only [evOp0, ho, evx_congr (ht x (by simp [Op.operands]))]
  | build T ps =>
    rw [ho] at ht
    have e : (ps.toList.map fun p => (p.1, ev t p.2)) = ps.toList.map fun p => (p.1, ev t' p.2) := List.map_congr_left fun p hp => by rw [ev_congr (ht p.2 (by simp only [Op.operands, List.mem_map]; exact ⟨p, hp, rfl⟩))]
    simp only [evOp0, ho, e]
  | buildSlice T n ps =>
    rw [ho] at ht
    have e : (ps.toList.map fun p => (p.1, ev t p.2)) = ps.toList.map fun p => (p.1, ev t' p.2) := List.map_congr_left fun p hp => by rw [ev_congr (ht p.2 (by simp only [Op.operands, List.mem_map]; exact ⟨p, hp, rfl⟩))]
    simp only [evOp0, ho, e]
  | load T x =>
    rw [ho] at ht
    have e := ev_congr (ht x (by simp [Op.operands]))
    simp only [rel, ho, e] at hm
    simp only [evOp0, ho, e]
    rcases tb T with _ | ti
    · cases ev t' x <;> rfl
    cases hx : ev t' x with
    | loc i off =>
      rw [hx] at hm
      simp only
      cases hp : Nat.beq (i % 2) 0 with
      | true => rw [hm i (by simp [relLoc, hp])]
      | false => rcases look m i with _ | (_ | _ | _) <;> rcases look m' i with _ | (_ | _ | _) <;> rfl
    | _ => rfl
  | store T x y =>
    rw [ho] at ht
    have e := ev_congr (ht x (by simp [Op.operands]))
    have e2 := evx_congr (tb := tb) (ty := T) (ht y (by simp [Op.operands]))
    simp only [rel, ho, e] at hm
    simp only [evOp0, ho, e, e2]
    rcases tb T with _ | ti
    · cases ev t' x <;> rfl
    cases hx : ev t' x with
    | loc i off =>
      rw [hx] at hm
      simp only
      cases hp : Nat.beq (i % 2) 0 with
      | true => rw [hm i (by simp [relLoc, hp])]
      | false => cases cellsOf (evx tb T t' y) <;> rcases look m i with _ | (_ | _ | _) <;> rcases look m' i with _ | (_ | _ | _) <;> simp
    | _ => rfl
  | binOp op T x y T' => rw [ho] at ht; simp only [evOp0, ho, ev_congr (ht x (by simp [Op.operands])), ev_congr (ht y (by simp [Op.operands]))]
  | unOp op T x => rw [ho] at ht; simp only [evOp0, ho, ev_congr (ht x (by simp [Op.operands]))]
  | convert T T' x => rw [ho] at ht; simp only [evOp0, ho, ev_congr (ht x (by simp [Op.operands]))]
  | fieldAddr T x f => rw [ho] at ht; simp only [evOp0, ho, ev_congr (ht x (by simp [Op.operands]))]
  | field T x f => rw [ho] at ht; simp only [evOp0, ho, ev_congr (ht x (by simp [Op.operands]))]
  | indexAddr T x y => rw [ho] at ht; simp only [evOp0, ho, ev_congr (ht x (by simp [Op.operands])), ev_congr (ht y (by simp [Op.operands]))]
  | index T x y => rw [ho] at ht; simp only [evOp0, ho, ev_congr (ht x (by simp [Op.operands])), ev_congr (ht y (by simp [Op.operands]))]
  | extract x i => rw [ho] at ht; simp only [evOp0, ho, ev_congr (ht x (by simp [Op.operands]))]
  | nilCheck x => rw [ho] at ht; simp only [evOp0, ho, ev_congr (ht x (by simp [Op.operands]))]
  | makeFunc fn first caps =>
    rw [ho] at ht
    have e : caps.toList.map (ev t) = caps.toList.map (ev t') := List.map_congr_left fun x hx => ev_congr (ht x (by simp [Op.operands]; right; simpa using hx))
    unfold evOp0
    rw [ho]
    cases fn with
    | func f =>
      obtain ⟨first⟩ := first
      cases first with
      | nil => simp only [e]
      | cons _ _ => rfl
    | _ => rfl
  | slice T x lo hi mx =>
    rw [ho] at ht
    have e := ev_congr (ht x (by simp [Op.operands]))
    have e1 : ∀ y, lo = some y → ev t y = ev t' y := fun y hy => ev_congr (ht y (by simp [Op.operands, hy]))
    have e2 : ∀ y, hi = some y → ev t y = ev t' y := fun y hy => ev_congr (ht y (by simp [Op.operands, hy]))
    cases mx with
    | some z => simp only [evOp0, ho]
    | none =>
      cases lo with
      | none => cases hi with
        | none => simp only [evOp0, ho, e]
        | some v => simp only [evOp0, ho, e, e2 v rfl]
      | some u => cases hi with
        | none => simp only [evOp0, ho, e, e1 u rfl]
        | some v => simp only [evOp0, ho, e, e1 u rfl, e2 v rfl]
  | call c =>
    rw [ho] at ht
    obtain ⟨callee, args, ats⟩ := c
    cases callee with
    | value f =>
      have e := ev_congr (ht f (by simp [Op.operands, Call.operands]))
      have e1 : evL tb t ats.toList args.toList = evL tb t' ats.toList args.toList := evL_congr _ _ fun x hx => ht x (by simp [Op.operands, Call.operands]; exact .inr (by simpa using hx))
      have hmay : ∀ {fid : FuncId} {ee : FeX}, (ev t' f = .v (.func (.func fid) ⟨[]⟩ ⟨[]⟩) ∨ ∃ caps, ev t' f = .clo fid caps) → lookX env.x fid = some ee → ∀ i, look m i = look m' i := fun {fid ee} hf hl => by
        refine hX ?_
        rw [ho]
        obtain ⟨l1, l2⟩ := lookX_some hl
        cases f with
        | func i =>
          rcases hf with hf | ⟨caps, hf⟩
          · have : i = fid := by simpa [ev] using hf
            subst this; exact l1
          · simp [ev] at hf
        | _ => simp [mayX, l2]
      simp only [evOp0, ho, e, e1]
      split
      · rename_i fid hf
        cases hl : lookX env.x fid with
        | none => rfl
        | some ee => exact callX_congr (hmay (.inl hf) hl)
      · rename_i fid caps hf
        cases hl : lookX env.x fid with
        | none => rfl
        | some ee => exact callX_congr (hmay (.inr ⟨caps, hf⟩) hl)
      · rfl
    | invoke r n => simp only [evOp0, ho]
    | builtin b =>
      have e1 : args.toList.map (ev t) = args.toList.map (ev t') := List.map_congr_left fun x hx => ev_congr (ht x (by simp [Op.operands, Call.operands]; simpa using hx))
      simp only [evOp0, ho, e1]
      refine evBuiltin_congr fun hb => ?_
      subst hb
      simp only [rel, ho, e1] at hm
      exact hm
  | _ => simp only [evOp0, ho]

theorem numD_congr {t t' : List D} {x : Operand} (h : ∀ i ∈ rTmp x, t.getD i .no = t'.getD i .no) : numD (ev t x) = numD (ev t' x) := by rw [ev_congr h]
theorem evRow_congr {fr : Nat} {o : Oper} {t t' : List D} {m m' : Mem} (ht : SameT t t' o.op.operands.toList) (hX : mayX env.x o.op = true → ∀ i, look m i = look m' i) : evRow tb fr o t m = evRow tb fr o t' m' := by
  cases ho : o.op with
  | makeSlice T l c => rw [ho] at ht; simp only [evRow, ho, ev_congr (ht l (by simp [Op.operands])), ev_congr (ht c (by simp [Op.operands]))]
  | indexAddr T x y => rw [ho] at ht; simp only [evRow, ho, ev_congr (ht x (by simp [Op.operands])), ev_congr (ht y (by simp [Op.operands]))]
  | slice T x lo hi mx =>
    rw [ho] at ht
    have e := ev_congr (ht x (by simp [Op.operands]))
    cases mx with
    | none => simp only [evRow, ho]
    | some z =>
      have ez := ev_congr (ht z (by simp [Op.operands]))
      cases hi with
      | none => simp only [evRow, ho]
      | some v =>
        have ev' := ev_congr (ht v (by simp [Op.operands]))
        cases lo with
        | none => simp only [evRow, ho, e, ez, ev', bndD]
        | some u =>
          have eu := ev_congr (ht u (by simp [Op.operands]))
          simp only [evRow, ho, e, ez, ev', bndD, eu]
  | convert T T' x => rw [ho] at ht; simp only [evRow, ho, ev_congr (ht x (by simp [Op.operands]))]
  | call c =>
    obtain ⟨callee, args, ats⟩ := c
    cases callee with
    | value f => simp only [evRow, ho]
    | invoke r n => simp only [evRow, ho]
    | builtin b =>
      rw [ho] at ht
      have e1 : args.toList.map (ev t) = args.toList.map (ev t') := List.map_congr_left fun x hx => ev_congr (ht x (by simp [Op.operands, Call.operands]; simpa using hx))
      cases b with
      | copy =>
        have hm := hX (by rw [ho]; rfl)
        simp only [evRow, ho, e1, hm]
      | len => simp only [evRow, ho, e1]
      | _ => simp only [evRow, ho]
  | _ => simp only [evRow, ho]
theorem killW_congr {m m' : Mem} (h : ∀ i, look m i = look m' i) (ws : List Nat) : killW m ws = killW m' ws := by
  unfold killW
  congr 1
  congr 1
  funext q
  rw [h q]
theorem evMap_congr {idt : Nat} {o : Oper} {t t' : List D} {m m' : Mem} (ht : SameT t t' o.op.operands.toList) (hX : mayX env.x o.op = true → ∀ i, look m i = look m' i) :
    evMap tb idt o t m = evMap tb idt o t' m' := by
  cases ho : o.op with
  | makeMap T r => cases r <;> simp only [evMap, ho]
  | lookup T x ix ok =>
    rw [ho] at ht
    have e := ev_congr (ht x (by simp [Op.operands]))
    have e2 : ∀ k, evx tb k t ix = evx tb k t' ix := fun k => evx_congr (ht ix (by simp [Op.operands]))
    have hm' := hX (by rw [ho]; rfl)
    simp only [evMap, ho, e, e2, hm']
  | mapUpdate T x ix y =>
    rw [ho] at ht
    have hm' := hX (by rw [ho]; rfl)
    have e2 : ∀ k, evx tb k t ix = evx tb k t' ix := fun k => evx_congr (ht ix (by simp [Op.operands]))
    have e3 : ∀ k, evx tb k t y = evx tb k t' y := fun k => evx_congr (ht y (by simp [Op.operands]))
    simp only [evMap, ho, ev_congr (ht x (by simp [Op.operands])), e2, e3, hm', killW_congr hm']
  | insert T x ix y =>
    rw [ho] at ht
    have hm' := hX (by rw [ho]; rfl)
    have e2 : ∀ k, evx tb k t ix = evx tb k t' ix := fun k => evx_congr (ht ix (by simp [Op.operands]))
    have e3 : ∀ k, evx tb k t y = evx tb k t' y := fun k => evx_congr (ht y (by simp [Op.operands]))
    simp only [evMap, ho, ev_congr (ht x (by simp [Op.operands])), e2, e3, hm', killW_congr hm']
  | mapEntry T x ix =>
    rw [ho] at ht
    have hm' := hX (by rw [ho]; rfl)
    have e2 : ∀ k, evx tb k t ix = evx tb k t' ix := fun k => evx_congr (ht ix (by simp [Op.operands]))
    simp only [evMap, ho, ev_congr (ht x (by simp [Op.operands])), e2, hm', killW_congr hm']
  | entryStore T x st y =>
    rw [ho] at ht
    have hm' := hX (by rw [ho]; rfl)
    have e3 : ∀ k, evx tb k t y = evx tb k t' y := fun k => evx_congr (ht y (by simp [Op.operands]))
    simp only [evMap, ho, ev_congr (ht x (by simp [Op.operands])), ev_congr (ht st (by simp [Op.operands])), e3, hm', killW_congr hm']
  | range T x =>
    rw [ho] at ht
    have hm' := hX (by rw [ho]; rfl)
    simp only [evMap, ho, ev_congr (ht x (by simp [Op.operands])), hm']
  | entry x =>
    rw [ho] at ht
    have hm' := hX (by rw [ho]; rfl)
    simp only [evMap, ho, ev_congr (ht x (by simp [Op.operands])), hm']
  | makeInterface T x =>
    rw [ho] at ht
    simp only [evMap, ho, ev_congr (ht x (by simp [Op.operands]))]
  | call c =>
    obtain ⟨callee, args, ats⟩ := c
    cases callee with
    | value f => simp only [evMap, ho]
    | invoke r n => simp only [evMap, ho]
    | builtin b =>
      rw [ho] at ht
      have e0 : ∀ x ∈ args.toList, ev t x = ev t' x := fun x hx => ev_congr (ht x (by simp [Op.operands, Call.operands]; simpa using hx))
      cases b with
      | delete =>
        have hm' := hX (by rw [ho]; rfl)
        have e2 : ∀ k, ∀ x ∈ args.toList, evx tb k t x = evx tb k t' x := fun k x hx => evx_congr (ht x (by simp [Op.operands, Call.operands]; simpa using hx))
        simp only [evMap, ho]
        generalize args.toList = L at e0 e2
        match L with
        | [] => rfl
        | [_] => rfl
        | [x, ix] =>
          have f0 : ev t x = ev t' x := e0 x (by simp)
          have f2 : ∀ k, evx tb k t ix = evx tb k t' ix := fun k => e2 k ix (by simp)
          cases ats.toList with
          | nil => rfl
          | cons T r => simp only [f0, f2, hm', killW_congr hm']
        | _ :: _ :: _ :: _ => rfl
      | _ => simp only [evMap, ho]
  | _ => simp only [evMap, ho]
theorem evOp_congr {id idt fr : Nat} {o : Oper} {t t' : List D} {m m' : Mem} (ht : SameT t t' o.op.operands.toList) (hm : ∀ i ∈ rel o t, look m i = look m' i) (hX : mayX env.x o.op = true → ∀ i, look m i = look m' i) :
    evOp env tb id idt fr o t m = evOp env tb id idt fr o t' m' := by
  unfold evOp
  rw [evMap_congr ht hX, evRow_congr ht hX, evOp0_congr ht hm hX]

theorem killW_look {m : Mem} {ws : List Nat} {q : Nat} (h : q ∈ (killW m ws).map Prod.fst) : look m q ≠ none := by
  unfold killW at h
  simp only [List.map_map, List.mem_map, List.mem_filter, Function.comp] at h
  obtain ⟨a, ⟨_, h⟩, rfl⟩ := h
  intro e
  rw [e] at h
  cases h
/-- What a map's operation mentions. -/
theorem evMap_mention {idt : Nat} {o : Oper} {t : List D} {m : Mem} {d : D} {δ : Mem} (h : evMap tb idt o t m = some (true, d, δ)) (i : Nat) (hi : i ∈ δ.map Prod.fst) :
    (i = idt ∨ (mayX env.x o.op = true ∧ look m i ≠ none)) ∧ memy env.x o.op = true := by
  have none' : δ = [] → (i = idt ∨ (mayX env.x o.op = true ∧ look m i ≠ none)) ∧ memy env.x o.op = true := fun e => by subst e; simp at hi
  unfold evMap at h
  split at h
  · rename_i ho
    split at h
    · simp only [Option.some.injEq, Prod.mk.injEq, true_and] at h
      obtain ⟨_, rfl⟩ := h
      simp at hi
      exact ⟨.inl hi, by rw [ho]; rfl⟩
    · cases h
  · ((repeat' split at h) <;> first | (cases h; done) | skip)
    all_goals (simp only [Option.some.injEq, Prod.mk.injEq, true_and] at h; exact none' h.2.symm)
  · rename_i T x ix y ho
    split at h
    · rename_i j hx
      split at h
      · rename_i T' n g ws k e ki ei hl hm
        split at h
        · split at h
          · simp only [Option.some.injEq, Prod.mk.injEq, true_and] at h
            obtain ⟨_, rfl⟩ := h
            refine ⟨.inr ⟨by rw [ho]; rfl, ?_⟩, by rw [ho]; rfl⟩
            rw [List.map_cons, List.mem_cons] at hi
            rcases hi with rfl | hi
            · rw [hl]; simp
            · exact killW_look hi
          · cases h
        · cases h
      · cases h
    · cases h
  · rename_i T x ix y ho
    split at h
    · rename_i j hx
      split at h
      · rename_i T' n g ws k e ki ei hl hm
        split at h
        · split at h
          · simp only [Option.some.injEq, Prod.mk.injEq, true_and] at h
            obtain ⟨_, rfl⟩ := h
            refine ⟨.inr ⟨by rw [ho]; rfl, ?_⟩, by rw [ho]; rfl⟩
            rw [List.map_cons, List.mem_cons] at hi
            rcases hi with rfl | hi
            · rw [hl]; simp
            · exact killW_look hi
          · cases h
        · cases h
      · cases h
    · cases h
  · rename_i T x ix ho
    split at h
    · rename_i j hx
      split at h
      · rename_i T' n g ws k e ki ei hl hm
        split at h
        · split at h
          · simp only [Option.some.injEq, Prod.mk.injEq, true_and] at h
            obtain ⟨_, rfl⟩ := h
            refine ⟨?_, by rw [ho]; rfl⟩
            rw [List.map_cons, List.mem_cons, List.map_cons, List.mem_cons] at hi
            rcases hi with rfl | rfl | hi
            · exact .inl rfl
            · exact .inr ⟨by rw [ho]; rfl, by rw [hl]; simp⟩
            · exact .inr ⟨by rw [ho]; rfl, killW_look hi⟩
          · cases h
        · cases h
      · cases h
    · cases h
  · rename_i T x st y ho
    split at h
    · rename_i j q hx hst
      split at h
      · rename_i T' n g ws i' kc k e ki ei hl hlq hm
        split at h
        · split at h
          · simp only [Option.some.injEq, Prod.mk.injEq, true_and] at h
            obtain ⟨_, rfl⟩ := h
            refine ⟨.inr ⟨by rw [ho]; rfl, ?_⟩, by rw [ho]; rfl⟩
            rw [List.map_cons, List.mem_cons] at hi
            rcases hi with rfl | hi
            · rw [hl]; simp
            · exact killW_look hi
          · cases h
        · cases h
      · cases h
    · cases h
  · rename_i T x ho
    split at h
    · rename_i j hx
      split at h
      · rename_i T' n g ws y hl hm
        split at h
        · simp only [Option.some.injEq, Prod.mk.injEq, true_and] at h
          obtain ⟨_, rfl⟩ := h
          refine ⟨?_, by rw [ho]; rfl⟩
          simp only [List.map_cons, List.map_nil, List.mem_cons, List.not_mem_nil, or_false] at hi
          rcases hi with rfl | rfl
          · exact .inl rfl
          · exact .inr ⟨by rw [ho]; rfl, by rw [hl]; simp⟩
        · cases h
      · cases h
    · cases h
  · ((repeat' split at h) <;> first | (cases h; done) | skip)
    all_goals (simp only [Option.some.injEq, Prod.mk.injEq] at h; exact none' h.2.2.symm)
  · rename_i args ats ho
    split at h
    · split at h
      · rename_i j hx
        split at h
        · rename_i T' n g ws k e ki ei hl hm
          split at h
          · split at h
            · simp only [Option.some.injEq, Prod.mk.injEq, true_and] at h
              obtain ⟨_, rfl⟩ := h
              refine ⟨.inr ⟨by rw [ho]; rfl, ?_⟩, by rw [ho]; rfl⟩
              rw [List.map_cons, List.mem_cons] at hi
              rcases hi with rfl | hi
              · rw [hl]; simp
              · exact killW_look hi
            · cases h
          · cases h
        · cases h
      · cases h
    · cases h
  · ((repeat' split at h) <;> first | (cases h; done) | skip)
    all_goals (simp only [Option.some.injEq, Prod.mk.injEq] at h; exact none' h.2.2.symm)
  · cases h
/-- What a row's operation mentions. -/
theorem evRow_mention {fr : Nat} {o : Oper} {t : List D} {m : Mem} {d : D} {δ : Mem} (h : evRow tb fr o t m = some (true, d, δ)) (i : Nat) (hi : i ∈ δ.map Prod.fst) :
    ((4 * fr ≤ i ∧ i < 4 * (fr + 31)) ∨ (mayX env.x o.op = true ∧ look m i ≠ none)) ∧ memy env.x o.op = true := by
  unfold evRow at h
  split at h
  · rename_i ho
    ((repeat' split at h) <;> first | (cases h; done) | skip)
    simp only [Option.some.injEq, Prod.mk.injEq] at h
    obtain ⟨_, _, rfl⟩ := h
    simp at hi
    exact ⟨.inl (by omega), by rw [ho]; rfl⟩
  · ((repeat' split at h) <;> first | (cases h; done) | (simp only [Option.some.injEq, Prod.mk.injEq] at h; obtain ⟨_, _, rfl⟩ := h; simp at hi))
  · ((repeat' split at h) <;> first | (cases h; done) | (simp only [Option.some.injEq, Prod.mk.injEq] at h; obtain ⟨_, _, rfl⟩ := h; simp at hi))
  · ((repeat' split at h) <;> first | (cases h; done) | (simp only [Option.some.injEq, Prod.mk.injEq] at h; obtain ⟨_, _, rfl⟩ := h; simp at hi))
  · rename_i ho
    split at h
    · split at h
      · split at h
        · rename_i hl
          split at h
          · simp only [Option.some.injEq, Prod.mk.injEq] at h
            obtain ⟨_, _, rfl⟩ := h
            simp at hi
            subst hi
            exact ⟨.inr ⟨by rw [ho]; rfl, by rw [hl]; simp⟩, by rw [ho]; rfl⟩
          · cases h
        · cases h
      · cases h
    · cases h
  · ((repeat' split at h) <;> first | (cases h; done) | (simp only [Option.some.injEq, Prod.mk.injEq] at h; obtain ⟨_, _, rfl⟩ := h; simp at hi))
  · cases h

/-! ### What an effect mentions -/
theorem runEff_pick {c : Nat} {o : Oper} {t : List D} {m : Mem} {e : D × Mem} (h : runEff env tb c o t m = some e) : (∃ d, e = (d, [])) ∨ evOp env tb (2 * c) (2 * c + 1) (c / 2 + 1) o t m = some (true, e.1, e.2) := by
  unfold runEff at h
  split at h
  · split at h <;> cases h <;> exact .inl ⟨_, rfl⟩
  · split at h
    · rename_i d δ he; cases h; exact .inr he
    · cases h

theorem eff_mention {c : Nat} {o : Oper} {t : List D} {m : Mem} {e : D × Mem} (h : eff env tb ops c o t m = some e) (i : Nat) (hi : i ∈ e.2.map Prod.fst) :
    ((2 * c ≤ i ∧ i < 2 * (c + 64)) ∨ (look m i ≠ none ∧ ((i ∈ rel o t ∧ ((stores o.op = true ∧ i % 2 = 0) ∨ (appends o.op = true ∧ i % 2 = 1))) ∨ mayX env.x o.op = true))) ∧ memy env.x o.op = true := by
  have run0 : runEff env tb c o t m = some e → (i = 2 * c ∨ i = 2 * c + 1 ∨ (i ∈ rel o t ∧ look m i ≠ none ∧ ((stores o.op = true ∧ i % 2 = 0) ∨ (appends o.op = true ∧ i % 2 = 1))) ∨ (4 * (c / 2 + 1) ≤ i ∧ i < 4 * (c / 2 + 1 + 31)) ∨ (mayX env.x o.op = true ∧ look m i ≠ none)) ∧ memy env.x o.op = true := by
    intro h
    rcases runEff_pick h with ⟨d, rfl⟩ | h
    · simp at hi
    · obtain ⟨d, δ⟩ := e
      simp only at h hi
      unfold evOp at h
      split at h
      · rename_i r hmap
        cases h
        obtain ⟨h1, h2⟩ := evMap_mention (env := env) hmap i hi
        exact ⟨h1.elim (fun h => .inr (.inl h)) fun h => .inr (.inr (.inr (.inr h))), h2⟩
      split at h
      · rename_i r hrow
        cases h
        obtain ⟨h1, h2⟩ := evRow_mention (env := env) hrow i hi
        exact ⟨h1.elim (fun h => .inr (.inr (.inr (.inl h)))) fun h => .inr (.inr (.inr (.inr h))), h2⟩
      cases ho : o.op with
      | alloc T =>
        simp only [evOp0, ho] at h
        split at h
        · simp only [Option.some.injEq, Prod.mk.injEq] at h; obtain ⟨_, _, rfl⟩ := h; simp at hi; exact ⟨.inl hi, rfl⟩
        · cases h
      | box T x =>
        simp only [evOp0, ho] at h
        split at h
        · simp only [Option.some.injEq, Prod.mk.injEq] at h; obtain ⟨_, _, rfl⟩ := h; simp at hi; exact ⟨.inl hi, rfl⟩
        · cases h
      | buildSlice T n ps =>
        simp only [evOp0, ho] at h
        split at h
        · split at h
          · split at h
            · split at h
              · simp only [Option.some.injEq, Prod.mk.injEq] at h; obtain ⟨_, _, rfl⟩ := h; simp at hi; exact ⟨.inr (.inr (.inr (.inl (by omega)))), rfl⟩
              · simp only [Option.some.injEq, Prod.mk.injEq] at h; obtain ⟨_, _, rfl⟩ := h; simp at hi; exact ⟨.inr (.inl hi), rfl⟩
            · cases h
          · cases h
        · cases h
      | store T x y =>
        simp only [evOp0, ho] at h
        split at h
        · rename_i ti j off hti hx
          split at h
          · rename_i c' T' l hl hcl
            split at h
            · rename_i hb
              simp only [Option.some.injEq, Prod.mk.injEq] at h
              obtain ⟨_, _, rfl⟩ := h
              simp at hi
              subst hi
              simp only [Bool.and_eq_true] at hb
              refine ⟨.inr (.inr (.inl ⟨?_, by rw [hl]; simp, .inl ⟨by simp [stores], Nat.eq_of_beq_eq_true hb.2⟩⟩)), rfl⟩
              simp [rel, ho, hx, relLoc, hb.2]
            · cases h
          · cases h
        · cases h
      | call c' =>
        obtain ⟨callee, args, ats⟩ := c'
        cases callee with
        | value f =>
          simp only [evOp0, ho] at h
          have may : ∀ {fid : FuncId} {ee : FeX}, (ev t f = .v (.func (.func fid) ⟨[]⟩ ⟨[]⟩) ∨ ∃ caps, ev t f = .clo fid caps) → lookX env.x fid = some ee → mayX env.x (.call ⟨.value f, args, ats⟩) = true := fun {fid ee} hf hl => by
            obtain ⟨l1, l2⟩ := lookX_some hl
            cases f with
            | func i =>
              rcases hf with hf | ⟨caps, hf⟩
              · have : i = fid := by simpa [ev] using hf
                subst this; exact l1
              · simp [ev] at hf
            | _ => simp [mayX, l2]
          split at h
          · rename_i fid hf
            split at h
            · split at h
              · simp only [Option.some.injEq, Prod.mk.injEq] at h; obtain ⟨_, _, rfl⟩ := h; simp at hi
              · cases h
            · rename_i ee hl
              have hm := may (.inl hf) hl
              exact ⟨(callX_ids h i hi).elim (fun h => .inr (.inr (.inr (.inl h)))) fun h => .inr (.inr (.inr (.inr ⟨hm, h⟩))), hm⟩
          · rename_i fid caps hf
            split at h
            · cases h
            · rename_i ee hl
              have hm := may (.inr ⟨caps, hf⟩) hl
              exact ⟨(callX_ids h i hi).elim (fun h => .inr (.inr (.inr (.inl h)))) fun h => .inr (.inr (.inr (.inr ⟨hm, h⟩))), hm⟩
          · cases h
        | invoke r n => simp only [evOp0, ho] at h; cases h
        | builtin b =>
          simp only [evOp0, ho] at h
          unfold evBuiltin at h
          split at h
          · ((repeat' split at h) <;> first | (cases h; done) | (simp only [Option.some.injEq, Prod.mk.injEq] at h; obtain ⟨_, _, rfl⟩ := h; simp at hi; done) | (obtain ⟨_, _, h2⟩ := map_some_pair h; simp only [Prod.mk.injEq] at h2; obtain ⟨_, _, rfl⟩ := h2; simp at hi; done))
          · ((repeat' split at h) <;> first | (cases h; done) | (simp only [Option.some.injEq, Prod.mk.injEq] at h; obtain ⟨_, _, rfl⟩ := h; simp at hi; done) | (obtain ⟨_, _, h2⟩ := map_some_pair h; simp only [Prod.mk.injEq] at h2; obtain ⟨_, _, rfl⟩ := h2; simp at hi; done))
          · ((repeat' split at h) <;> first | (cases h; done) | (simp only [Option.some.injEq, Prod.mk.injEq] at h; obtain ⟨_, _, rfl⟩ := h; simp at hi; done) | (obtain ⟨_, _, h2⟩ := map_some_pair h; simp only [Prod.mk.injEq] at h2; obtain ⟨_, _, rfl⟩ := h2; simp at hi; done))
          · ((repeat' split at h) <;> first | (cases h; done) | (simp only [Option.some.injEq, Prod.mk.injEq] at h; obtain ⟨_, _, rfl⟩ := h; simp at hi; done) | (obtain ⟨_, _, h2⟩ := map_some_pair h; simp only [Prod.mk.injEq] at h2; obtain ⟨_, _, rfl⟩ := h2; simp at hi; done))
          · rename_i sz n get p sz' n' get' p' T T' hargs hats
            split at h
            · split at h
              · simp only at h
                split at h
                · split at h
                  · simp only [Option.some.injEq, Prod.mk.injEq] at h; obtain ⟨_, _, rfl⟩ := h; simp at hi; exact ⟨.inr (.inl hi), rfl⟩
                  · cases h
                · rename_i q hok
                  split at h
                  · rename_i e' hq
                    split at h
                    · rename_i hb
                      simp only [Option.some.injEq, Prod.mk.injEq] at h
                      obtain ⟨_, _, rfl⟩ := h
                      simp only [Bool.and_eq_true] at hb
                      simp at hi
                      rcases hi with hi | hi
                      · exact ⟨.inr (.inl hi), rfl⟩
                      · subst hi
                        refine ⟨.inr (.inr (.inl ⟨?_, by rw [hq]; simp, .inr ⟨by simp [appends], Nat.eq_of_beq_eq_true hb.2⟩⟩)), rfl⟩
                        simp [rel, ho, hargs, relTok, hb.2]
                    · cases h
                  · cases h
                · cases h
              · cases h
            · cases h
          · cases h
      | makeFunc fn first caps =>
        unfold evOp0 at h
        rw [ho] at h
        cases fn with
        | func f =>
          obtain ⟨first⟩ := first
          cases first with
          | nil => simp only [Option.some.injEq, Prod.mk.injEq] at h; obtain ⟨_, _, rfl⟩ := h; simp at hi
          | cons _ _ => cases h
        | _ => cases h
      | load T x => simp only [evOp0, ho] at h; ((repeat' split at h) <;> first | (cases h; done) | (simp only [Option.some.injEq, Prod.mk.injEq] at h; obtain ⟨_, _, rfl⟩ := h; simp at hi; done) | (obtain ⟨_, _, h2⟩ := map_some_pair h; simp only [Prod.mk.injEq] at h2; obtain ⟨_, _, rfl⟩ := h2; simp at hi; done))
      | slice T x lo hi' mx => cases mx <;> simp only [evOp0, ho] at h <;> ((repeat' split at h) <;> first | (cases h; done) | (simp only [Option.some.injEq, Prod.mk.injEq] at h; obtain ⟨_, _, rfl⟩ := h; simp at hi; done) | (obtain ⟨_, _, h2⟩ := map_some_pair h; simp only [Prod.mk.injEq] at h2; obtain ⟨_, _, rfl⟩ := h2; simp at hi; done))
      | _ => simp only [evOp0, ho] at h; ((repeat' split at h) <;> first | (cases h; done) | (simp only [Option.some.injEq, Prod.mk.injEq] at h; obtain ⟨_, _, rfl⟩ := h; simp at hi; done) | (obtain ⟨_, _, h2⟩ := map_some_pair h; simp only [Prod.mk.injEq] at h2; obtain ⟨_, _, rfl⟩ := h2; simp at hi; done))
  have run : runEff env tb c o t m = some e → ((2 * c ≤ i ∧ i < 2 * (c + 64)) ∨ (look m i ≠ none ∧ ((i ∈ rel o t ∧ ((stores o.op = true ∧ i % 2 = 0) ∨ (appends o.op = true ∧ i % 2 = 1))) ∨ mayX env.x o.op = true))) ∧ memy env.x o.op = true := fun h => by
    obtain ⟨h1, h2⟩ := run0 h
    refine ⟨?_, h2⟩
    rcases h1 with h | h | ⟨h, h3, h4⟩ | h3 | ⟨h, h3⟩
    · exact .inl (by omega)
    · exact .inl (by omega)
    · exact .inr ⟨h3, .inl ⟨h, h4⟩⟩
    · exact .inl (by omega)
    · exact .inr ⟨h3, .inr h⟩
  unfold eff at h
  split at h
  · exact run h
  · split at h
    · cases h
    · split at h
      · split at h
        · exact run h
        · cases h; simp at hi
      · cases h; simp at hi
      · cases h
end
end Go.Ev
