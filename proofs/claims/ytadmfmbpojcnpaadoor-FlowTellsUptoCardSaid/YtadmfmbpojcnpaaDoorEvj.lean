/- Regions that draw their order, first part: what an effect hangs on, and what comes ahead of what. -/
import Derived.Test.YtadmfmbpojcnpaaDoorEvi
namespace Go.Ev
open Go Go.RowKit

section
variable {tb : Tb} {env : Env} {ops : Array Oper}

/-! ### What an effect hangs on -/
theorem ev_congr {t t' : List D} {x : Operand} (h : ∀ i ∈ rTmp x, t.getD i .no = t'.getD i .no) : ev t x = ev t' x := by
  cases x with
  | tmp i => exact h i (by simp [rTmp])
  | const c => rfl
  | global n => rfl
  | func f => rfl
theorem evx_congr {ty : TypeId} {t t' : List D} {x : Operand} (h : ∀ i ∈ rTmp x, t.getD i .no = t'.getD i .no) : evx tb ty t x = evx tb ty t' x := by
  cases x with
  | tmp i => exact h i (by simp [rTmp])
  | const c => rfl
  | global n => rfl
  | func f => rfl

def relLoc : D → List Nat
  | .loc i _ => match Nat.beq (i % 2) 0 with | true => [i] | false => []
  | _ => []
def relTok : List D → List Nat
  | .sl _ _ _ (.tok q) :: _ => match Nat.beq (q % 2) 1 with | true => [q] | false => []
  | _ => []
/-- The entries of the evaluator's own that an operation looks at. -/
def rel (o : Oper) (t : List D) : List Nat :=
  match o.op with
  | .load _ a => relLoc (ev t a)
  | .store _ a _ => relLoc (ev t a)
  | .call ⟨.builtin .append, args, _⟩ => relTok (args.toList.map (ev t))
  | _ => []

abbrev SameT (t t' : List D) (l : List Operand) : Prop := ∀ x ∈ l, ∀ i ∈ rTmp x, t.getD i .no = t'.getD i .no

theorem SameT.map {t t' : List D} {l : List Operand} (h : SameT t t' l) : l.map (ev t) = l.map (ev t') := List.map_congr_left fun x hx => ev_congr (h x hx)

theorem evBuiltin_congr {idt : Nat} {b : Builtin} {ats : Array TypeId} {args : List D} {m m' : Mem} (hm : b = .append → ∀ i ∈ relTok args, look m i = look m' i) : evBuiltin tb idt b ats args m = evBuiltin tb idt b ats args m' := by
  unfold evBuiltin
  split <;> first | rfl | skip
  rename_i sz n get p sz' n' get' p' T T' hats
  split <;> first | rfl | skip
  split <;> first | rfl | skip
  simp only
  split <;> first | rfl | skip
  rename_i q hok
  cases hp : Nat.beq (q % 2) 1 with
  | true => rw [hm rfl q (by simp [relTok, hp])]
  | false => rcases look m q with _ | (_ | _ | _) <;> rcases look m' q with _ | (_ | _ | _) <;> simp

theorem evOp_congr {id idt : Nat} {o : Oper} {t t' : List D} {m m' : Mem} (ht : SameT t t' o.op.operands.toList) (hm : ∀ i ∈ rel o t, look m i = look m' i) :
    evOp env tb id idt o t m = evOp env tb id idt o t' m' := by
  cases ho : o.op with
  | move x => rw [ho] at ht; simp only [evOp, ho, evx_congr (ht x (by simp [Op.operands]))]
  | assign x => rw [ho] at ht; simp only [evOp, ho, evx_congr (ht x (by simp [Op.operands]))]
  | alloc T => simp only [evOp, ho]
  | box T x => rw [ho] at ht; simp only [evOp, ho, evx_congr (ht x (by simp [Op.operands]))]
  | build T ps =>
    rw [ho] at ht
    have e : (ps.toList.map fun p => (p.1, ev t p.2)) = ps.toList.map fun p => (p.1, ev t' p.2) := List.map_congr_left fun p hp => by rw [ev_congr (ht p.2 (by simp only [Op.operands, List.mem_map]; exact ⟨p, hp, rfl⟩))]
    simp only [evOp, ho, e]
  | buildSlice T n ps =>
    rw [ho] at ht
    have e : (ps.toList.map fun p => (p.1, ev t p.2)) = ps.toList.map fun p => (p.1, ev t' p.2) := List.map_congr_left fun p hp => by rw [ev_congr (ht p.2 (by simp only [Op.operands, List.mem_map]; exact ⟨p, hp, rfl⟩))]
    simp only [evOp, ho, e]
  | load T x =>
    rw [ho] at ht
    have e := ev_congr (ht x (by simp [Op.operands]))
    simp only [rel, ho, e] at hm
    simp only [evOp, ho, e]
    rcases tb T with _ | ti
    · cases ev t' x <;> rfl
    cases hx : ev t' x with
    | loc i off =>
      rw [hx] at hm
      simp only
      cases hp : Nat.beq (i % 2) 0 with
      | true => rw [hm i (by simp [relLoc, hp])]
      | false => rcases look m i with _ | (_ | _ | _) <;> rcases look m' i with _ | (_ | _ | _) <;> rfl
    | _ => rfl
  | store T x y =>
    rw [ho] at ht
    have e := ev_congr (ht x (by simp [Op.operands]))
    have e2 := evx_congr (tb := tb) (ty := T) (ht y (by simp [Op.operands]))
    simp only [rel, ho, e] at hm
    simp only [evOp, ho, e, e2]
    rcases tb T with _ | ti
    · cases ev t' x <;> rfl
    cases hx : ev t' x with
    | loc i off =>
      rw [hx] at hm
      simp only
      cases hp : Nat.beq (i % 2) 0 with
      | true => rw [hm i (by simp [relLoc, hp])]
      | false => cases cellsOf (evx tb T t' y) <;> rcases look m i with _ | (_ | _ | _) <;> rcases look m' i with _ | (_ | _ | _) <;> simp
    | _ => rfl
  | binOp op T x y T' => rw [ho] at ht; simp only [evOp, ho, ev_congr (ht x (by simp [Op.operands])), ev_congr (ht y (by simp [Op.operands]))]
  | unOp op T x => rw [ho] at ht; simp only [evOp, ho, ev_congr (ht x (by simp [Op.operands]))]
  | convert T T' x => rw [ho] at ht; simp only [evOp, ho, ev_congr (ht x (by simp [Op.operands]))]
  | fieldAddr T x f => rw [ho] at ht; simp only [evOp, ho, ev_congr (ht x (by simp [Op.operands]))]
  | field T x f => rw [ho] at ht; simp only [evOp, ho, ev_congr (ht x (by simp [Op.operands]))]
  | indexAddr T x y => rw [ho] at ht; simp only [evOp, ho, ev_congr (ht x (by simp [Op.operands])), ev_congr (ht y (by simp [Op.operands]))]
  | index T x y => rw [ho] at ht; simp only [evOp, ho, ev_congr (ht x (by simp [Op.operands])), ev_congr (ht y (by simp [Op.operands]))]
  | extract x i => rw [ho] at ht; simp only [evOp, ho, ev_congr (ht x (by simp [Op.operands]))]
  | nilCheck x => rw [ho] at ht; simp only [evOp, ho, ev_congr (ht x (by simp [Op.operands]))]
  | slice T x lo hi mx =>
    rw [ho] at ht
    have e := ev_congr (ht x (by simp [Op.operands]))
    have e1 : ∀ y, lo = some y → ev t y = ev t' y := fun y hy => ev_congr (ht y (by simp [Op.operands, hy]))
    have e2 : ∀ y, hi = some y → ev t y = ev t' y := fun y hy => ev_congr (ht y (by simp [Op.operands, hy]))
    cases mx with
    | some z => simp only [evOp, ho]
    | none =>
      cases lo with
      | none => cases hi with
        | none => simp only [evOp, ho, e]
        | some v => simp only [evOp, ho, e, e2 v rfl]
      | some u => cases hi with
        | none => simp only [evOp, ho, e, e1 u rfl]
        | some v => simp only [evOp, ho, e, e1 u rfl, e2 v rfl]
  | call c =>
    rw [ho] at ht
    obtain ⟨callee, args, ats⟩ := c
    cases callee with
    | value f =>
      have e := ev_congr (ht f (by simp [Op.operands, Call.operands]))
      have e1 : (args.toList.map fun x => kp1 (ev t x)) = args.toList.map fun x => kp1 (ev t' x) := List.map_congr_left fun x hx => by rw [ev_congr (ht x (by simp [Op.operands, Call.operands]; exact .inr (by simpa using hx)))]
      simp only [evOp, ho, e, e1]
    | invoke r n => simp only [evOp, ho]
    | builtin b =>
      have e1 : args.toList.map (ev t) = args.toList.map (ev t') := List.map_congr_left fun x hx => ev_congr (ht x (by simp [Op.operands, Call.operands]; simpa using hx))
      simp only [evOp, ho, e1]
      refine evBuiltin_congr fun hb => ?_
      subst hb
      simp only [rel, ho, e1] at hm
      exact hm
  | _ => simp only [evOp, ho]

/-! ### What an effect mentions -/
theorem runEff_pick {c : Nat} {o : Oper} {t : List D} {m : Mem} {e : D × Mem} (h : runEff env tb c o t m = some e) : (∃ d, e = (d, [])) ∨ evOp env tb (2 * c) (2 * c + 1) o t m = some (true, e.1, e.2) := by
  unfold runEff at h
  split at h
  · split at h <;> cases h <;> exact .inl ⟨_, rfl⟩
  · split at h
    · rename_i d δ he; cases h; exact .inr he
    · cases h

theorem eff_mention {c : Nat} {o : Oper} {t : List D} {m : Mem} {e : D × Mem} (h : eff env tb ops c o t m = some e) (i : Nat) (hi : i ∈ e.2.map Prod.fst) :
    i = 2 * c ∨ i = 2 * c + 1 ∨ (i ∈ rel o t ∧ look m i ≠ none ∧ ((stores o.op = true ∧ i % 2 = 0) ∨ (appends o.op = true ∧ i % 2 = 1))) := by
  have run : runEff env tb c o t m = some e → i = 2 * c ∨ i = 2 * c + 1 ∨ (i ∈ rel o t ∧ look m i ≠ none ∧ ((stores o.op = true ∧ i % 2 = 0) ∨ (appends o.op = true ∧ i % 2 = 1))) := by
    intro h
    rcases runEff_pick h with ⟨d, rfl⟩ | h
    · simp at hi
    · obtain ⟨d, δ⟩ := e
      simp only at h hi
      cases ho : o.op with
      | alloc T =>
        simp only [evOp, ho] at h
        split at h
        · simp only [Option.some.injEq, Prod.mk.injEq] at h; obtain ⟨_, _, rfl⟩ := h; simp at hi; exact .inl hi
        · cases h
      | box T x =>
        simp only [evOp, ho] at h
        split at h
        · simp only [Option.some.injEq, Prod.mk.injEq] at h; obtain ⟨_, _, rfl⟩ := h; simp at hi; exact .inl hi
        · cases h
      | buildSlice T n ps =>
        simp only [evOp, ho] at h
        split at h
        · split at h
          · split at h
            · simp only [Option.some.injEq, Prod.mk.injEq] at h; obtain ⟨_, _, rfl⟩ := h; simp at hi; exact .inr (.inl hi)
            · cases h
          · cases h
        · cases h
      | store T x y =>
        simp only [evOp, ho] at h
        split at h
        · rename_i ti j off hti hx
          split at h
          · rename_i c' T' l hl hcl
            split at h
            · rename_i hb
              simp only [Option.some.injEq, Prod.mk.injEq] at h
              obtain ⟨_, _, rfl⟩ := h
              simp at hi
              subst hi
              simp only [Bool.and_eq_true] at hb
              refine .inr (.inr ⟨?_, by rw [hl]; simp, .inl ⟨by simp [stores], Nat.eq_of_beq_eq_true hb.2.2⟩⟩)
              simp [rel, ho, hx, relLoc, hb.2.2]
            · cases h
          · cases h
        · cases h
      | call c' =>
        obtain ⟨callee, args, ats⟩ := c'
        cases callee with
        | value f => simp only [evOp, ho] at h; ((repeat' split at h) <;> first | (cases h; done) | (simp only [Option.some.injEq, Prod.mk.injEq] at h; obtain ⟨_, _, rfl⟩ := h; simp at hi; done) | (obtain ⟨_, _, h2⟩ := map_some_pair h; simp only [Prod.mk.injEq] at h2; obtain ⟨_, _, rfl⟩ := h2; simp at hi; done))
        | invoke r n => simp only [evOp, ho] at h; cases h
        | builtin b =>
          simp only [evOp, ho] at h
          unfold evBuiltin at h
          split at h
          · ((repeat' split at h) <;> first | (cases h; done) | (simp only [Option.some.injEq, Prod.mk.injEq] at h; obtain ⟨_, _, rfl⟩ := h; simp at hi; done) | (obtain ⟨_, _, h2⟩ := map_some_pair h; simp only [Prod.mk.injEq] at h2; obtain ⟨_, _, rfl⟩ := h2; simp at hi; done))
          · ((repeat' split at h) <;> first | (cases h; done) | (simp only [Option.some.injEq, Prod.mk.injEq] at h; obtain ⟨_, _, rfl⟩ := h; simp at hi; done) | (obtain ⟨_, _, h2⟩ := map_some_pair h; simp only [Prod.mk.injEq] at h2; obtain ⟨_, _, rfl⟩ := h2; simp at hi; done))
          · ((repeat' split at h) <;> first | (cases h; done) | (simp only [Option.some.injEq, Prod.mk.injEq] at h; obtain ⟨_, _, rfl⟩ := h; simp at hi; done) | (obtain ⟨_, _, h2⟩ := map_some_pair h; simp only [Prod.mk.injEq] at h2; obtain ⟨_, _, rfl⟩ := h2; simp at hi; done))
          · ((repeat' split at h) <;> first | (cases h; done) | (simp only [Option.some.injEq, Prod.mk.injEq] at h; obtain ⟨_, _, rfl⟩ := h; simp at hi; done) | (obtain ⟨_, _, h2⟩ := map_some_pair h; simp only [Prod.mk.injEq] at h2; obtain ⟨_, _, rfl⟩ := h2; simp at hi; done))
          · rename_i sz n get p sz' n' get' p' T T' hargs hats
            split at h
            · split at h
              · simp only at h
                split at h
                · split at h
                  · simp only [Option.some.injEq, Prod.mk.injEq] at h; obtain ⟨_, _, rfl⟩ := h; simp at hi; exact .inr (.inl hi)
                  · cases h
                · rename_i q hok
                  split at h
                  · rename_i e' hq
                    split at h
                    · rename_i hb
                      simp only [Option.some.injEq, Prod.mk.injEq] at h
                      obtain ⟨_, _, rfl⟩ := h
                      simp only [Bool.and_eq_true] at hb
                      simp at hi
                      rcases hi with hi | hi
                      · exact .inr (.inl hi)
                      · subst hi
                        refine .inr (.inr ⟨?_, by rw [hq]; simp, .inr ⟨by simp [appends], Nat.eq_of_beq_eq_true hb.2⟩⟩)
                        simp [rel, ho, hargs, relTok, hb.2]
                    · cases h
                  · cases h
                · cases h
              · cases h
            · cases h
          · cases h
      | load T x => simp only [evOp, ho] at h; ((repeat' split at h) <;> first | (cases h; done) | (simp only [Option.some.injEq, Prod.mk.injEq] at h; obtain ⟨_, _, rfl⟩ := h; simp at hi; done) | (obtain ⟨_, _, h2⟩ := map_some_pair h; simp only [Prod.mk.injEq] at h2; obtain ⟨_, _, rfl⟩ := h2; simp at hi; done))
      | slice T x lo hi' mx => cases mx <;> simp only [evOp, ho] at h <;> ((repeat' split at h) <;> first | (cases h; done) | (simp only [Option.some.injEq, Prod.mk.injEq] at h; obtain ⟨_, _, rfl⟩ := h; simp at hi; done) | (obtain ⟨_, _, h2⟩ := map_some_pair h; simp only [Prod.mk.injEq] at h2; obtain ⟨_, _, rfl⟩ := h2; simp at hi; done))
      | _ => simp only [evOp, ho] at h; ((repeat' split at h) <;> first | (cases h; done) | (simp only [Option.some.injEq, Prod.mk.injEq] at h; obtain ⟨_, _, rfl⟩ := h; simp at hi; done) | (obtain ⟨_, _, h2⟩ := map_some_pair h; simp only [Prod.mk.injEq] at h2; obtain ⟨_, _, rfl⟩ := h2; simp at hi; done))
  unfold eff at h
  split at h
  · exact run h
  · split at h
    · cases h
    · split at h
      · split at h
        · exact run h
        · cases h; simp at hi
      · cases h; simp at hi
      · cases h
end
end Go.Ev
