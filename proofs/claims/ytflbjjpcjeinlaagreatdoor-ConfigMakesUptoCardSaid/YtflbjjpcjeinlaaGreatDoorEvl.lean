/- Regions that draw their order: the theorem. -/
import Derived.Test.YtflbjjpcjeinlaaGreatDoorEvk
namespace Go.Ev
open Go Go.RowKit

section
variable {P : Program} {w0 : W0} {K0 : Nat → Nat → Prop} {tb : Tb} {env : Env} {ops : Array Oper} {base : Nat} {s0 : S}

/-- The canonical states and effects. -/
noncomputable def cst (env : Env) (tb : Tb) (ops : Array Oper) (base : Nat) (s0 : S) : Nat → S
  | 0 => s0
  | k + 1 => match ops[k]? with
    | some o => app o ((eff env tb ops (base + 64 * k) o (cst env tb ops base s0 k).t (cst env tb ops base s0 k).m).getD (.no, [])) (cst env tb ops base s0 k)
    | none => cst env tb ops base s0 k
noncomputable def cef (env : Env) (tb : Tb) (ops : Array Oper) (base : Nat) (s0 : S) (k : Nat) : D × Mem :=
  match ops[k]? with
  | some o => (eff env tb ops (base + 64 * k) o (cst env tb ops base s0 k).t (cst env tb ops base s0 k).m).getD (.no, [])
  | none => (.no, [])
/-- The state when just the operations in E have come up. -/
noncomputable def sE (env : Env) (tb : Tb) (ops : Array Oper) (base : Nat) (s0 : S) (E : Nat → Bool) : Nat → S
  | 0 => s0
  | k + 1 => match ops[k]? with
    | some o => if E k = true then app o (cef env tb ops base s0 k) (sE env tb ops base s0 E k) else sE env tb ops base s0 E k
    | none => sE env tb ops base s0 E k

theorem sE_all (k : Nat) : sE env tb ops base s0 (fun _ => true) k = cst env tb ops base s0 k := by
  induction k with
  | zero => rfl
  | succ k ih =>
    simp only [sE, cst, cef, ih]
    cases ops[k]? <;> simp

theorem chain_cst : ∀ (r j : Nat) (l : List Oper) (sn : S), l.length = r → (∀ i, l[i]? = ops[j + i]?) → chain env tb ops base l j (cst env tb ops base s0 j) = some sn →
    cst env tb ops base s0 (j + r) = sn ∧ ∀ k o, j ≤ k → ops[k]? = some o → eff env tb ops (base + 64 * k) o (cst env tb ops base s0 k).t (cst env tb ops base s0 k).m = some (cef env tb ops base s0 k)
  | 0, j, l, sn, hl, hi, h => by
    have : l = [] := List.eq_nil_of_length_eq_zero hl
    subst this
    cases h
    refine ⟨rfl, fun k o hk ho => ?_⟩
    have h0 := hi 0
    simp only [List.length_nil] at hl
    have : ops.size ≤ j := by
      rcases Nat.lt_or_ge j ops.size with h | h
      · simp [h] at h0
      · exact h
    have := (Array.getElem?_eq_some_iff.1 ho).1
    omega
  | r + 1, j, o :: l, sn, hl, hi, h => by
    have ho : ops[j]? = some o := by simpa using (hi 0).symm
    simp only [chain] at h
    split at h
    · rename_i e he
      have hc : cst env tb ops base s0 (j + 1) = app o e (cst env tb ops base s0 j) := by simp [cst, ho, he]
      rw [← hc] at h
      obtain ⟨h1, h2⟩ := chain_cst r (j + 1) l sn (by simpa using hl) (fun i => by have := hi (i + 1); simpa [Nat.add_assoc, Nat.add_comm 1] using this) h
      refine ⟨by rw [← h1]; congr 1; omega, fun k o' hk ho' => ?_⟩
      rcases Nat.eq_or_lt_of_le hk with rfl | hk
      · rw [ho] at ho'
        cases ho'
        simp [cef, ho, he]
      · exact h2 k o' hk ho'
    · cases h

theorem app_t (o : Oper) (e : D × Mem) (s : S) (x : Nat) : (app o e s).t[x]? = if o.dst = some x then (s.t[x]?).map (fun _ => e.1) else s.t[x]? := by
  cases hd : o.dst with
  | none => simp [app, S.put, hd]
  | some i =>
    simp only [app, S.put, hd, Option.some.injEq]
    by_cases h : i = x
    · subst h; simp [List.getElem?_set_self']; rfl
    · simp [h, List.getElem?_set_ne h]
theorem app_m (o : Oper) (e : D × Mem) (s : S) : (app o e s).m = e.2 ++ s.m := rfl

theorem look_app (δ m : Mem) (i : Nat) : look (δ ++ m) i = if i ∈ δ.map Prod.fst then look δ i else look m i := by
  induction δ with
  | nil => simp
  | cons x δ ih =>
    obtain ⟨a, b⟩ := x
    rw [List.cons_append, look_cons, ih, look_cons]
    by_cases h : a = i
    · simp [h]
    · have : ¬ i = a := fun e => h e.symm
      simp only [h, if_false, List.map_cons, List.mem_cons, this, false_or]
theorem look_ne {δ : Mem} {i : Nat} (h : i ∈ δ.map Prod.fst) : look δ i ≠ none := by
  induction δ with
  | nil => simp at h
  | cons x δ ih =>
    obtain ⟨a, b⟩ := x
    rw [look_cons]
    by_cases e : a = i
    · simp [e]
    · simp only [e, if_false]
      refine ih ?_
      simp only [List.map_cons, List.mem_cons] at h
      exact h.resolve_left fun h => e h.symm

/-- What the slots hold that the operation j names. -/
theorem tE_eq {E : Nat → Bool} {j x : Nat} (hj : E j = false) (h : ∀ k o, ops[k]? = some o → o.dst = some x → k ≠ j → (E k = true ↔ k < j)) :
    ∀ k, (sE env tb ops base s0 E k).t[x]? = (cst env tb ops base s0 (min k j)).t[x]?
  | 0 => by simp [sE, cst]
  | k + 1 => by
    have ih := tE_eq hj h k
    simp only [sE]
    cases ho : ops[k]? with
    | none =>
      simp only
      rw [ih]
      by_cases hk : k < j
      · rw [show min k j = k by omega, show min (k + 1) j = k + 1 by omega]; simp [cst, ho]
      · rw [show min k j = j by omega, show min (k + 1) j = j by omega]
    | some o =>
      simp only
      by_cases hk : k < j
      · rw [show min (k + 1) j = k + 1 by omega]
        rw [show min k j = k by omega] at ih
        have hc : cst env tb ops base s0 (k + 1) = app o (cef env tb ops base s0 k) (cst env tb ops base s0 k) := by simp [cst, cef, ho]
        rw [hc, app_t]
        by_cases hd : o.dst = some x
        · have hEk := (h k o ho hd (by omega)).2 hk
          rw [if_pos hEk, app_t, ih]
        · rw [if_neg hd]
          split
          · rw [app_t, if_neg hd, ih]
          · exact ih
      · rw [show min (k + 1) j = j by omega]
        rw [show min k j = j by omega] at ih
        by_cases hd : o.dst = some x
        · have hEk : ¬ (E k = true) := fun he => by
            by_cases e : k = j
            · subst e; rw [hj] at he; cases he
            · exact hk ((h k o ho hd e).1 he)
          rw [if_neg hEk, ih]
        · split
          · rw [app_t, if_neg hd, ih]
          · exact ih

theorem mE_eq {E : Nat → Bool} {j i : Nat} (hj : E j = false) (h : ∀ k o, ops[k]? = some o → i ∈ (cef env tb ops base s0 k).2.map Prod.fst → k ≠ j → (E k = true ↔ k < j)) :
    ∀ k, look (sE env tb ops base s0 E k).m i = look (cst env tb ops base s0 (min k j)).m i
  | 0 => by simp [sE, cst]
  | k + 1 => by
    have ih := mE_eq hj h k
    simp only [sE]
    cases ho : ops[k]? with
    | none =>
      simp only
      rw [ih]
      by_cases hk : k < j
      · rw [show min k j = k by omega, show min (k + 1) j = k + 1 by omega]; simp [cst, ho]
      · rw [show min k j = j by omega, show min (k + 1) j = j by omega]
    | some o =>
      simp only
      by_cases hk : k < j
      · rw [show min (k + 1) j = k + 1 by omega]
        rw [show min k j = k by omega] at ih
        have hc : cst env tb ops base s0 (k + 1) = app o (cef env tb ops base s0 k) (cst env tb ops base s0 k) := by simp [cst, cef, ho]
        rw [hc, app_m, look_app]
        by_cases hd : i ∈ (cef env tb ops base s0 k).2.map Prod.fst
        · have hEk := (h k o ho hd (by omega)).2 hk
          rw [if_pos hEk, app_m, look_app, if_pos hd, if_pos hd]
        · rw [if_neg hd]
          split
          · rw [app_m, look_app, if_neg hd, ih]
          · exact ih
      · rw [show min (k + 1) j = j by omega]
        rw [show min k j = j by omega] at ih
        by_cases hd : i ∈ (cef env tb ops base s0 k).2.map Prod.fst
        · have hEk : ¬ (E k = true) := fun he => by
            by_cases e : k = j
            · subst e; rw [hj] at he; cases he
            · exact hk ((h k o ho hd e).1 he)
          rw [if_neg hEk, ih]
        · split
          · rw [app_m, look_app, if_neg hd, ih]
          · exact ih

/-- An entry that an operation in E made or changed is there. -/
theorem sE_there {E : Nat → Bool} {k i : Nat} {o : Oper} (ho : ops[k]? = some o) (hE : E k = true) (hi : i ∈ (cef env tb ops base s0 k).2.map Prod.fst) : ∀ n, k < n → look (sE env tb ops base s0 E n).m i ≠ none
  | 0, h => by omega
  | n + 1, h => by
    simp only [sE]
    rcases Nat.lt_succ_iff_lt_or_eq.1 h with h | rfl
    · have ih := sE_there ho hE hi n h
      cases ops[n]? with
      | none => exact ih
      | some o' =>
        simp only
        split
        · rw [app_m, look_app]
          split
          · rename_i hm; exact look_ne hm
          · exact ih
        · exact ih
    · rw [ho]
      simp only [hE, if_true]
      rw [app_m, look_app, if_pos hi]
      exact look_ne hi

/-- Which entries the canonical states know. -/
theorem cst_there (h0 : ∀ i, look s0.m i ≠ none → i < 2 * base) (hef : ∀ k o, ops[k]? = some o → eff env tb ops (base + 64 * k) o (cst env tb ops base s0 k).t (cst env tb ops base s0 k).m = some (cef env tb ops base s0 k)) :
    ∀ n i, look (cst env tb ops base s0 n).m i ≠ none → i < 2 * base ∨ ∃ k, k < n ∧ (2 * (base + 64 * k) ≤ i ∧ i < 2 * (base + 64 * k + 64))
  | 0, i, h => .inl (h0 i h)
  | n + 1, i, h => by
    have up : ∀ {P : Prop}, (i < 2 * base ∨ ∃ k, k < n ∧ (2 * (base + 64 * k) ≤ i ∧ i < 2 * (base + 64 * k + 64))) → (i < 2 * base ∨ ∃ k, k < n + 1 ∧ (2 * (base + 64 * k) ≤ i ∧ i < 2 * (base + 64 * k + 64))) := fun h =>
      h.imp (fun h => h) fun ⟨k, h1, h2⟩ => ⟨k, by omega, h2⟩
    cases ho : ops[n]? with
    | none =>
      simp only [cst, ho] at h
      exact up (P := True) (cst_there h0 hef n i h)
    | some o =>
      have hc : cst env tb ops base s0 (n + 1) = app o (cef env tb ops base s0 n) (cst env tb ops base s0 n) := by simp [cst, cef, ho]
      rw [hc, app_m, look_app] at h
      split at h
      · rename_i hm
        rcases (eff_mention (hef n o ho) i hm).1 with e | ⟨e, _⟩
        · exact .inr ⟨n, by omega, by omega⟩
        · exact up (P := True) (cst_there h0 hef n i e)
      · exact up (P := True) (cst_there h0 hef n i h)

/-! ### An operation's turn -/
theorem rel_parity {o : Oper} {t : List D} {i : Nat} (h : i ∈ rel o t) : (looks o.op = true ∧ i % 2 = 0) ∨ (appends o.op = true ∧ i % 2 = 1) := by
  have hl : ∀ d, i ∈ relLoc d → i % 2 = 0 := fun d hd => by
    unfold relLoc at hd
    split at hd
    · split at hd
      · rename_i hp; simp at hd; subst hd; exact Nat.eq_of_beq_eq_true hp
      · simp at hd
    · simp at hd
  unfold rel at h
  split at h
  · rename_i ho; exact .inl ⟨by simp [looks, ho], hl _ h⟩
  · rename_i ho; exact .inl ⟨by simp [looks, ho], hl _ h⟩
  · rename_i ho
    refine .inr ⟨by simp [appends, ho], ?_⟩
    unfold relTok at h
    split at h
    · split at h
      · rename_i hp; simp at h; subst h; exact Nat.eq_of_beq_eq_true hp
      · simp at h
    · simp at h
  · simp at h

theorem rel_memy {X : List (FuncId × FeX)} {o : Oper} {t : List D} {i : Nat} (h : i ∈ rel o t) : memy X o.op = true := by
  unfold rel at h
  split at h
  · rename_i ho; simp [ho, memy]
  · rename_i ho; simp [ho, memy]
  · rename_i ho; simp [ho, memy]
  · simp at h
theorem rel_memL {X : List (FuncId × FeX)} {L : List Tmp} {o : Oper} {t : List D} {i : Nat} (hp : ∀ T a, o.op = .load T (.tmp a) → a ∈ L → False) (h : i ∈ rel o t) : memL L X o.op = true := by
  have h1 := rel_memy (X := X) h
  unfold memL
  split
  · rename_i T a ho
    cases hc : L.contains a with
    | false => rfl
    | true =>
      have hm : a ∈ L := by simpa using hc
      exact (hp T a ho hm).elim
  · exact h1
theorem eff_load_nil {c : Nat} {o : Oper} {t : List D} {m : Mem} {e : D × Mem} {T : TypeId} {x : Operand} (ho : o.op = .load T x) (h : eff env tb ops c o t m = some e) : e.2 = [] := by
  have run : runEff env tb c o t m = some e → e.2 = [] := fun h => by
    simp only [runEff, ho, evOp, evMap, evRow, evOp0] at h
    split at h
    · rename_i d δ he
      cases h
      (repeat' split at he) <;> first | (cases he; done) | (obtain ⟨_, _, h2⟩ := map_some_pair he; simp only [Prod.mk.injEq] at h2; obtain ⟨_, _, rfl⟩ := h2; rfl)
    · cases h
  unfold eff at h
  split at h
  · exact run h
  · split at h
    · cases h
    · split at h
      · split at h
        · exact run h
        · cases h; rfl
      · cases h; rfl
      · cases h
theorem eff_memL {L : List Tmp} {c : Nat} {o : Oper} {t : List D} {m : Mem} {e : D × Mem} (h : eff env tb ops c o t m = some e) (i : Nat) (hi : i ∈ e.2.map Prod.fst) : memL L env.x o.op = true := by
  have h2 := (eff_mention h i hi).2
  unfold memL
  split
  · rename_i T a ho
    rw [eff_load_nil ho h] at hi
    simp at hi
  · exact h2
theorem rel_C {g : G} {a : Act} {w : World} {t : List D} {m : Mem} (hr : RS w0 K0 tb t (look m) g a w) {o : Oper} {i : Nat} (h : i ∈ rel o t) : g.C i := by
  have hl : ∀ x : Operand, i ∈ relLoc (ev t x) → g.C i := fun x hd => by
    have hv := hr.ev x
    unfold relLoc at hd
    split at hd
    · rename_i j off hx
      rw [hx] at hv
      split at hd
      · simp at hd; subst hd; exact hv.isLoc.1
      · simp at hd
    · simp at hd
  unfold rel at h
  split at h
  · exact hl _ h
  · exact hl _ h
  · rename_i args ats ho
    unfold relTok at h
    split at h
    · rename_i sz n get q r hx
      split at h
      · simp at h
        subst h
        cases hargs : args.toList with
        | nil => rw [hargs] at hx; simp at hx
        | cons x l =>
          rw [hargs] at hx
          simp only [List.map_cons, List.cons.injEq] at hx
          have hv := hr.ev x
          rw [hx.1] at hv
          exact hv.isSl.2.1
      · simp at h
    · simp at h
  · simp at h

theorem names_ops {o : Oper} {x : Operand} {i : Nat} (hx : x ∈ o.op.operands.toList) (hi : i ∈ rTmp x) : i ∈ names ops o := by
  unfold names
  rw [List.mem_append]
  exact .inl (List.mem_flatMap.2 ⟨x, hx, hi⟩)
theorem names_guard {o : Oper} {g gt : Nat} {want : Bool} (hg : o.guard = some (g, want)) (hgt : (ops[g]?).bind (·.dst) = some gt) : gt ∈ names ops o := by
  unfold names
  rw [List.mem_append]
  refine .inr ?_
  rw [hg]
  simp [hgt]

/-- The same slots, the same entries: the same effect. -/
theorem eff_congr {c : Nat} {o : Oper} {t t' : List D} {m m' : Mem} (ht : ∀ i ∈ names ops o, t.getD i .no = t'.getD i .no) (hm : ∀ i ∈ rel o t, look m i = look m' i) (hX : mayX env.x o.op = true → ∀ i, look m i = look m' i) : eff env tb ops c o t m = eff env tb ops c o t' m' := by
  have hs : SameT t t' o.op.operands.toList := fun x hx i hi => ht i (names_ops hx hi)
  have hrun : runEff env tb c o t m = runEff env tb c o t' m' := by
    unfold runEff
    split
    · rename_i x u v ho
      rw [ho] at hs
      rw [ev_congr (hs x (by simp [Op.operands])), evx_congr (tb := tb) (ty := o.type) (hs u (by simp [Op.operands])), evx_congr (tb := tb) (ty := o.type) (hs v (by simp [Op.operands]))]
    · rw [evOp_congr hs hm hX]
  unfold eff
  split
  · exact hrun
  · rename_i gj want hg
    split
    · rfl
    · rename_i gt hgt
      rw [ht gt (names_guard hg hgt), hrun]

/-- A set, and one more. -/
def addE (E : Nat → Bool) (j : Nat) : Nat → Bool := fun k => if k = j then true else E k

/-- With one operation more: as if it had come up last. -/
theorem sE_add {E : Nat → Bool} {j : Nat} {oj : Oper} (hoj : ops[j]? = some oj) (hj : E j = false)
    (hdst : ∀ k o, ops[k]? = some o → E k = true → j < k → ∀ d, oj.dst = some d → o.dst ≠ some d)
    (hmem : ∀ k o, ops[k]? = some o → E k = true → j < k → ∀ i, i ∈ (cef env tb ops base s0 k).2.map Prod.fst → i ∉ (cef env tb ops base s0 j).2.map Prod.fst) :
    ∀ k, (k ≤ j → sE env tb ops base s0 (addE E j) k = sE env tb ops base s0 E k) ∧
      (j < k → (∀ x : Nat, (sE env tb ops base s0 (addE E j) k).t[x]? = (app oj (cef env tb ops base s0 j) (sE env tb ops base s0 E k)).t[x]?) ∧
        ∀ i, look (sE env tb ops base s0 (addE E j) k).m i = look (app oj (cef env tb ops base s0 j) (sE env tb ops base s0 E k)).m i)
  | 0 => ⟨fun _ => rfl, fun h => by omega⟩
  | k + 1 => by
    obtain ⟨ih1, ih2⟩ := sE_add hoj hj hdst hmem k
    refine ⟨fun hk => ?_, fun hk => ?_⟩
    · have hne : k ≠ j := by omega
      simp only [sE, ih1 (by omega), addE, hne, if_false]
    · rcases Nat.lt_succ_iff_lt_or_eq.1 hk with hk | rfl
      · obtain ⟨e1, e2⟩ := ih2 hk
        have hne : k ≠ j := by omega
        cases ho : ops[k]? with
        | none => simp only [sE, ho]; exact ⟨e1, e2⟩
        | some o =>
          simp only [sE, ho, addE, hne, if_false]
          by_cases hE : E k = true
          · rw [if_pos hE, if_pos hE]
            refine ⟨fun x => ?_, fun i => ?_⟩
            · rw [app_t, e1, app_t, app_t, app_t]
              by_cases h1 : o.dst = some x <;> by_cases h2 : oj.dst = some x
              · exact absurd h1 (hdst k o ho hE hk x h2)
              · simp [h1, h2]
              · simp [h1, h2]
              · simp [h1, h2]
            · rw [app_m, look_app, e2, app_m, look_app, app_m, look_app, app_m, look_app]
              by_cases h1 : i ∈ (cef env tb ops base s0 k).2.map Prod.fst
              · have h2 := hmem k o ho hE hk i h1
                simp only [h1, h2, if_true, if_false]
              · simp only [h1, if_false]
          · rw [if_neg hE, if_neg hE]
            exact ⟨e1, e2⟩
      · rw [show sE env tb ops base s0 (addE E j) (j + 1) = app oj (cef env tb ops base s0 j) (sE env tb ops base s0 E j) from by simp [sE, hoj, addE, ih1 (Nat.le_refl _)],
          show sE env tb ops base s0 E (j + 1) = sE env tb ops base s0 E j from by simp [sE, hoj, hj]]
        exact ⟨fun _ => rfl, fun _ => rfl⟩

theorem sE_len {E : Nat → Bool} : ∀ k, (sE env tb ops base s0 E k).t.length = s0.t.length
  | 0 => rfl
  | k + 1 => by
    have ih := sE_len (E := E) k
    simp only [sE]
    cases ops[k]? with
    | none => exact ih
    | some o =>
      simp only
      split
      · rw [← ih]; cases hd : o.dst <;> simp [app, S.put, hd]
      · exact ih

/-- How many have not come up. -/
def cnt (E : Nat → Bool) : Nat → Nat
  | 0 => 0
  | n + 1 => cnt E n + if E n = true then 0 else 1
theorem cnt_add {E : Nat → Bool} {j : Nat} (hj : E j = false) : ∀ n, cnt (addE E j) n + (if j < n then 1 else 0) = cnt E n
  | 0 => by simp [cnt]
  | n + 1 => by
    have ih := cnt_add hj n
    simp only [cnt]
    by_cases e : n = j
    · subst e
      simp [addE, hj]
      simpa using ih
    · have h1 : (addE E j n = true) = (E n = true) := by simp [addE, e]
      simp only [h1]
      by_cases h2 : j < n
      · have h3 : j < n + 1 := by omega
        simp only [h2, h3, if_true] at ih ⊢
        omega
      · have h3 : ¬ j < n + 1 := by omega
        simp only [h2, h3, if_false] at ih ⊢
        omega
theorem cnt_zero {E : Nat → Bool} : ∀ n, cnt E n = 0 → ∀ i, i < n → E i = true
  | 0, _, i, h => by omega
  | n + 1, h, i, hi => by
    simp only [cnt] at h
    have h1 : cnt E n = 0 := by omega
    by_cases e : i = n
    · subst e
      by_cases h2 : E i = true
      · exact h2
      · simp [h2] at h
    · exact cnt_zero n h1 i (by omega)
theorem exists_least {E : Nat → Bool} : ∀ n, cnt E n ≠ 0 → ∃ i, i < n ∧ E i = false ∧ ∀ k, k < i → E k = true
  | 0, h => by simp [cnt] at h
  | n + 1, h => by
    by_cases h0 : cnt E n = 0
    · refine ⟨n, by omega, ?_, cnt_zero n h0⟩
      cases hE : E n with
      | false => rfl
      | true => simp [cnt, h0, hE] at h
    · obtain ⟨i, h1, h2, h3⟩ := exists_least n h0
      exact ⟨i, by omega, h2, h3⟩

theorem sE_full {E : Nat → Bool} : ∀ n, (∀ i, i < n → E i = true) → sE env tb ops base s0 E n = cst env tb ops base s0 n
  | 0, _ => rfl
  | n + 1, h => by
    have ih := sE_full n (fun i hi => h i (by omega))
    simp only [sE, cst, cef, ih]
    cases ops[n]? <;> simp [h n (by omega)]

theorem RS.eq {t : List D} {lk : Nat → Option Bx} {g : G} {a : Act} {w : World} (h : RS w0 K0 tb t lk g a w) {t' : List D} {lk' : Nat → Option Bx} (ht : ∀ x : Nat, t'[x]? = t[x]?) (hl : ∀ i, lk' i = lk i) : RS w0 K0 tb t' lk' g a w := by
  have e : t' = t := List.ext_getElem? ht
  rw [e]
  exact h.congr hl

theorem stores_looks {o : Op} (h : stores o = true) : looks o = true := by cases o <;> simp [stores] at h <;> rfl

theorem rs_there {s : S} {g : G} {a : Act} {w : World} {X : Nat → Prop} (hr : RS w0 K0 tb s.t (look s.m) g a w) (hC : ∀ i, g.C i → X i) {i : Nat} (h : look s.m i ≠ none) : X i := by
  cases hl : look s.m i with
  | none => exact absurd hl h
  | some b =>
    cases b with
    | cells c T => exact hC i (hr.bx i c T hl).1
    | tok E => exact hC i (hr.tk i E hl).1
    | dead => exact hC i (hr.dd i hl)
    | map T n g1 ws => exact hC i (hr.rm.C hl rfl)
    | iter j sn => exact hC i (hr.rm.C hl rfl)
    | stamp j kc => exact hC i (hr.rm.C hl rfl)

theorem evBuiltin_absent {m : Mem} {q : Nat} (hl : look m q = none) {idt : Nat} {ats : Array TypeId} {sz n : Nat} {get : Nat → List D} {r : List D} : evBuiltin tb idt .append ats (.sl sz n get (.tok q) :: r) m = none := by
  unfold evBuiltin
  split <;> first | rfl | skip
  all_goals first | (rename_i h1 h2 h3; cases h1; done) | (rename_i h1 h2; cases h1; done) | skip
  rename_i sz1 n1 get1 p sz' n' get' p' T T' hb hargs hats
  cases hargs
  split
  · split
    · simp only
      split <;> first | rfl | skip
      · rename_i h; cases h
      · rename_i h; cases h; rw [hl]
    · rfl
  · rfl

/-- An operation whose entry is not there was guarded off, or does not look. -/
theorem eff_absent {c : Nat} {o : Oper} {t t' : List D} {m m' : Mem} {e : D × Mem} (h : eff env tb ops c o t m = some e) (hn : ¬ ∀ i ∈ rel o t, look m i ≠ none) (ht : ∀ i ∈ names ops o, t'.getD i .no = t.getD i .no) :
    eff env tb ops c o t' m' = some e := by
  have hrun : runEff env tb c o t m = none := by
    obtain ⟨i, hi⟩ : ∃ i, i ∈ rel o t ∧ look m i = none := by
      apply Classical.byContradiction
      intro hne
      exact hn fun i hi hl => hne ⟨i, hi, hl⟩
    obtain ⟨hi, hl⟩ := hi
    have loc : ∀ {d : D}, i ∈ relLoc d → ∃ off, d = .loc i off := fun {d} hd => by
      unfold relLoc at hd
      split at hd
      · split at hd
        · simp at hd; subst hd; exact ⟨_, rfl⟩
        · simp at hd
      · simp at hd
    unfold rel at hi
    split at hi
    · rename_i T x ho
      obtain ⟨off, hx⟩ := loc hi
      simp only [runEff, ho, evOp, evMap, evRow, evOp0, hx]
      cases tb T with
      | none => rfl
      | some ti => simp [hl]
    · rename_i T x y ho
      obtain ⟨off, hx⟩ := loc hi
      simp only [runEff, ho, evOp, evMap, evRow, evOp0, hx]
      cases tb T with
      | none => rfl
      | some ti => simp [hl]
    · rename_i args ats ho
      unfold relTok at hi
      split at hi
      · rename_i sz n get q r hx
        split at hi
        · simp at hi
          subst hi
          simp only [runEff, ho, evOp, evMap, evRow, evOp0, hx, evBuiltin_absent hl]
        · simp at hi
      · simp at hi
    · simp at hi
  unfold eff at h ⊢
  split at h
  · rw [hrun] at h; cases h
  · rename_i gj want hg
    split at h
    · cases h
    · rename_i gt hgt
      have hg' := ht gt (names_guard hg hgt)
      split at h
      · rename_i b hb
        split at h
        · rw [hrun] at h; cases h
        · rename_i hbw
          simp only [hg', hb, if_neg hbw]
          exact h
      · rename_i vs hb
        simp only [hg', hb]
        exact h
      · cases h

/-- Any order. -/
theorem any_ok (hT : TbOk P tb) (hEnv : EnvAt P tb env w0 K0) {L : List Tmp} (hd : drawOk env.x L ops = true) (hL : ∀ (k : Nat) (o : Oper) (T : TypeId) (a : Tmp), ops[k]? = some o → o.op = .load T (.tmp a) → a ∈ L → ∀ i ∈ rel o (cst env tb ops base s0 k).t, ∀ (k' : Nat) (y : Oper), ops[k']? = some y → mayX env.x y.op = true → i ∉ (cef env tb ops base s0 k').2.map Prod.fst)  {sn : S} (hch : chain env tb ops base ops.toList 0 s0 = some sn) {Q : Exit → Act → World → Prop} (hf : Fin w0 K0 tb sn (base + 64 * ops.size) (Q .normal))
    (h0 : ∀ i, look s0.m i ≠ none → i < 2 * base) :
    ∀ (fuel : Nat) (listed : Array Bool) (g : G) (a : Act) (w : World), listed.size = ops.size → cnt (fun i => listed.getD i true) ops.size ≤ fuel → Closed ops (fun i => listed.getD i true) →
      RS w0 K0 tb (sE env tb ops base s0 (fun i => listed.getD i true) ops.size).t (look (sE env tb ops base s0 (fun i => listed.getD i true) ops.size).m) g a w →
      (∀ i, g.C i → i < 2 * base ∨ ∃ k, k < ops.size ∧ listed.getD k true = true ∧ (2 * (base + 64 * k) ≤ i ∧ i < 2 * (base + 64 * k + 64))) → wpAny P .any ops Q fuel listed a w := by
  have hcc := chain_cst (env := env) (tb := tb) (ops := ops) (base := base) (s0 := s0) ops.size 0 ops.toList sn (by simp) (by simp) hch
  simp only [Nat.zero_add, Nat.zero_le, true_implies] at hcc
  obtain ⟨hend, hef⟩ := hcc
  have hk : edgesOk 0 ops.toList = true := by simp only [drawOk, Bool.and_eq_true] at hd; exact hd.1
  have hth := cst_there (env := env) (tb := tb) (ops := ops) h0 (fun k o ho => hef k o ho)
  -- all have come up
  have done : ∀ (listed : Array Bool) (g : G) (a : Act) (w : World), (∀ i, i < ops.size → listed.getD i true = true) →
      RS w0 K0 tb (sE env tb ops base s0 (fun i => listed.getD i true) ops.size).t (look (sE env tb ops base s0 (fun i => listed.getD i true) ops.size).m) g a w →
      (∀ i, g.C i → i < 2 * base ∨ ∃ k, k < ops.size ∧ listed.getD k true = true ∧ (2 * (base + 64 * k) ≤ i ∧ i < 2 * (base + 64 * k + 64))) → Q .normal a w := fun listed g a w hall hr hC => by
    rw [sE_full ops.size hall, hend] at hr
    refine hf g a w hr fun i hi => ?_
    rcases hC i hi with h | ⟨k, h1, _, h2⟩ <;> omega
  intro fuel
  induction fuel with
  | zero =>
    intro listed g a w hsz hcnt hcl hr hC
    have hall := cnt_zero (E := fun i => listed.getD i true) ops.size (by omega)
    refine ⟨?_, done listed g a w hall hr hC⟩
    refine List.eq_nil_iff_forall_not_mem.2 fun j hj => ?_
    obtain ⟨h1, o, ho, _⟩ := mem_ready.1 hj
    have := hall j (Array.getElem?_eq_some_iff.1 ho).1
    have this : listed.getD j true = true := this
    rw [h1] at this; cases this
  | succ fuel ih =>
    intro listed g a w hsz hcnt hcl hr hC
    let E : Nat → Bool := fun i => listed.getD i true
    refine ⟨fun hnil => ?_, fun j hj => ?_⟩
    · by_cases hz : cnt E ops.size = 0
      · exact done listed g a w (cnt_zero ops.size hz) hr hC
      · exfalso
        obtain ⟨i, h1, h2, h3⟩ := exists_least ops.size hz
        have ho : ops[i]? = some ops[i] := by simp [h1]
        have : i ∈ Region.ready .any ops listed := mem_ready.2 ⟨h2, _, ho, fun e he hb => by
          have hlt := edges_at _ 0 hk i ops[i] (by simp [h1]) e (by simpa [aft] using ⟨he, hb⟩)
          have := h3 e.on (by omega)
          simp only [E] at this
          have hs : e.on < listed.size := by omega
          simpa [hs] using this⟩
        rw [hnil] at this
        cases this
    · obtain ⟨hj0, o, ho, hedge⟩ := mem_ready.1 hj
      have hjE : E j = false := hj0
      have hjn : j < ops.size := (Array.getElem?_eq_some_iff.1 ho).1
      have hready : ∀ e ∈ aft o, E e.on = true := fun e he => by
        have hlt := edges_at _ 0 hk j o (by simpa using ho) e he
        have he' : e ∈ o.after ∧ Region.binds .any e = true := by simpa [aft] using he
        have := hedge e he'.1 he'.2
        have hs : e.on < listed.size := by omega
        simpa [E, hs] using this
      have hcmp : ∀ k y, ops[k]? = some y → k ≠ j → Clash env.x L ops o y → (E k = true ↔ k < j) := fun k y hy hne hc => clash_iff hd hcl ho hy hne hc hready hjE
      -- the slots that it names
      have htn : ∀ x ∈ names ops o, (sE env tb ops base s0 E ops.size).t[x]? = (cst env tb ops base s0 j).t[x]? := fun x hx => by
        have := tE_eq (env := env) (tb := tb) (ops := ops) (base := base) (s0 := s0) (x := x) hjE (fun k y hy hdst hne => hcmp k y hy hne (.inr (.inl ⟨x, hdst, hx⟩))) ops.size
        rwa [show min ops.size j = j by omega] at this
      have htg : ∀ x ∈ names ops o, (sE env tb ops base s0 E ops.size).t.getD x .no = (cst env tb ops base s0 j).t.getD x .no := fun x hx => by
        rw [List.getD_eq_getElem?_getD, List.getD_eq_getElem?_getD, htn x hx]
      have hrel : rel o (sE env tb ops base s0 E ops.size).t = rel o (cst env tb ops base s0 j).t := by
        have hs : SameT (sE env tb ops base s0 E ops.size).t (cst env tb ops base s0 j).t o.op.operands.toList := fun x hx i hi => htg i (names_ops hx hi)
        unfold rel
        split
        · rename_i ho'; rw [ho'] at hs; rw [ev_congr (hs _ (by simp [Op.operands]))]
        · rename_i ho'; rw [ho'] at hs; rw [ev_congr (hs _ (by simp [Op.operands]))]
        · rename_i args ats ho'
          rw [ho'] at hs
          have : args.toList.map (ev (sE env tb ops base s0 E ops.size).t) = args.toList.map (ev (cst env tb ops base s0 j).t) := List.map_congr_left fun x hx => ev_congr (hs x (by simp [Op.operands, Call.operands]; simpa using hx))
          rw [this]
        · rfl
      -- the entries that it looks at
      have heffj := hef j o ho
      have hmn : (∃ d, cef env tb ops base s0 j = (d, [])) ∨ True := .inr trivial
      have hlookE : ∀ i ∈ rel o (cst env tb ops base s0 j).t, look (cst env tb ops base s0 j).m i ≠ none → look (sE env tb ops base s0 E ops.size).m i = look (cst env tb ops base s0 j).m i := fun i hi hne => by
        have hCi := hC i (rel_C hr (by rw [hrel]; exact hi))
        have hb := hth j i hne
        have := mE_eq (env := env) (tb := tb) (ops := ops) (base := base) (s0 := s0) (i := i) hjE (fun k y hy hm hnk => by
          rcases (eff_mention (hef k y hy) i hm).1 with e | ⟨_, ⟨_, e⟩ | e⟩
          · have h1 : E k = true := by
              rcases hCi with h | ⟨k', _, h, h'⟩
              · omega
              · have : k' = k := by omega
                subst this; exact h
            refine ⟨fun _ => ?_, fun _ => h1⟩
            rcases hb with h | ⟨k', h, h'⟩ <;> omega
          · rcases rel_parity hi with ⟨h1, h2⟩ | ⟨h1, h2⟩
            · rcases e with ⟨h3, h4⟩ | ⟨h3, h4⟩
              · exact hcmp k y hy hnk (.inr (.inr (.inr (.inl ⟨h1, h3⟩))))
              · omega
            · rcases e with ⟨h3, h4⟩ | ⟨h3, h4⟩
              · omega
              · exact hcmp k y hy hnk (.inr (.inr (.inr (.inr (.inl ⟨h1, h3⟩)))))
          · exact hcmp k y hy hnk (.inr (.inr (.inr (.inr (.inr (.inr ⟨rel_memL (fun T a h1 h2 => hL j o T a ho h1 h2 i hi k y hy e hm) hi, e⟩))))))) ops.size
        rwa [show min ops.size j = j by omega] at this
      have hlookX : mayX env.x o.op = true → ∀ i, look (sE env tb ops base s0 E ops.size).m i = look (cst env tb ops base s0 j).m i := fun hmx i => by
        have := mE_eq (env := env) (tb := tb) (ops := ops) (base := base) (s0 := s0) (i := i) hjE (fun k y hy hm hnk => hcmp k y hy hnk (.inr (.inr (.inr (.inr (.inr (.inl ⟨hmx, eff_memL (hef k y hy) i hm⟩))))))) ops.size
        rwa [show min ops.size j = j by omega] at this
      -- its effect is the canonical one
      have heff : eff env tb ops (base + 64 * j) o (sE env tb ops base s0 E ops.size).t (sE env tb ops base s0 E ops.size).m = some (cef env tb ops base s0 j) := by
        by_cases hall : ∀ i ∈ rel o (cst env tb ops base s0 j).t, look (cst env tb ops base s0 j).m i ≠ none
        · rw [eff_congr htg (fun i hi => hlookE i (by rw [← hrel]; exact hi) (hall i (by rw [← hrel]; exact hi))) hlookX]
          exact heffj
        · exact eff_absent heffj hall htg
      -- its turn
      unfold wpOp
      simp only [ho]
      have hne1 : ¬ g.C (2 * (base + 64 * j)) := fun h => by
        rcases hC _ h with h | ⟨k, _, h1, h2⟩
        · omega
        · have : k = j := by omega
          subst this; rw [hj0] at h1; cases h1
      have hne2 : ¬ g.C (2 * (base + 64 * j) + 1) := fun h => by
        rcases hC _ h with h | ⟨k, _, h1, h2⟩
        · omega
        · have : k = j := by omega
          subst this; rw [hj0] at h1; cases h1
      have hne3 : ∀ i, 4 * ((base + 64 * j) / 2 + 1) ≤ i → i < 4 * ((base + 64 * j) / 2 + 1 + 31) → ¬ g.C i := fun i h1 h2 h => by
        rcases hC _ h with h | ⟨k, _, h1', h2'⟩
        · omega
        · have : k = j := by omega
          subst this; rw [hj0] at h1'; cases h1'
      have hadd : (fun i => (listed.setIfInBounds j true).getD i true) = addE E j := by
        funext i
        by_cases e : i = j
        · subst e
          have : i < listed.size := by omega
          simp [addE, this]
        · have : ¬ j = i := fun h => e h.symm
          simp [addE, e, E, Array.getElem?_setIfInBounds_ne this]
      have hcl' : Closed ops (addE E j) := fun i y hy hi e he => by
        by_cases e1 : i = j
        · subst e1
          rw [ho] at hy
          cases hy
          have := hready e he
          simp only [addE]; split <;> simp_all
        · have hi' : E i = true := by
            have h2 : (if i = j then true else E i) = true := hi
            rwa [if_neg e1] at h2
          have := hcl i y hy hi' e he
          simp only [addE]; split
          · rfl
          · exact this
      have hcnt' : cnt (addE E j) ops.size ≤ fuel := by
        have := cnt_add hjE ops.size
        simp only [hjn, if_true] at this
        have h2 : cnt E ops.size ≤ fuel + 1 := hcnt
        omega
      have key := eff_ok (P := P) (ops := ops) hT hEnv heff hr hne1 hne2 hne3 (K := wpAny P .any ops Q fuel (listed.setIfInBounds j true)) (Q := Q) (fun r g' w' hext hC' hv hrs => by
        refine ih (listed.setIfInBounds j true) g' _ w' (by simpa using hsz) (by rw [hadd]; exact hcnt') (by rw [hadd]; exact hcl') ?_ (fun i hi => ?_)
        · rw [hadd]
          have hsum := (sE_add (env := env) (tb := tb) (ops := ops) (base := base) (s0 := s0) ho hjE (fun k y hy hEk hjk d hdj hdk => by
              have := (hcmp k y hy (by omega) (.inl ⟨d, hdj, .inr hdk⟩)).1 hEk
              omega) (fun k y hy hEk hjk i hi1 hi2 => by
              -- two effects on one entry
              have hmy : memL L env.x o.op = true := eff_memL heffj i hi2
              have hmk : memL L env.x y.op = true := eff_memL (hef k y hy) i hi1
              rcases (eff_mention heffj i hi2).1 with e | ⟨h2, ⟨h1, h3⟩ | hmx⟩
              · have := rs_there hr hC (sE_there hy hEk hi1 ops.size (Array.getElem?_eq_some_iff.1 hy).1)
                rcases this with h | ⟨k', _, h, h'⟩
                · omega
                · have : k' = j := by omega
                  subst this; rw [hj0] at h; cases h
              · have hb := hth j i h2
                rcases (eff_mention (hef k y hy) i hi1).1 with e | ⟨_, ⟨_, e⟩ | e⟩
                · rcases hb with h | ⟨k', h, h'⟩ <;> omega
                · rcases h3 with ⟨h3, h4⟩ | ⟨h3, h4⟩ <;> rcases e with ⟨h5, h6⟩ | ⟨h5, h6⟩
                  · have := (hcmp k y hy (by omega) (.inr (.inr (.inl ⟨h3, stores_looks h5⟩)))).1 hEk
                    omega
                  · omega
                  · omega
                  · have := (hcmp k y hy (by omega) (.inr (.inr (.inr (.inr (.inl ⟨h3, h5⟩)))))).1 hEk
                    omega
                · have := (hcmp k y hy (by omega) (.inr (.inr (.inr (.inr (.inr (.inr ⟨hmy, e⟩))))))).1 hEk
                  omega
              · have := (hcmp k y hy (by omega) (.inr (.inr (.inr (.inr (.inr (.inl ⟨hmx, hmk⟩))))))).1 hEk
                omega) ops.size).2 hjn
          exact (RS.app (o := o) hrs hv).eq hsum.1 hsum.2
        · rcases hC' i hi with h | h | h
          · rcases hC i h with h | ⟨k, h1, h2, h3⟩
            · exact .inl h
            · refine .inr ⟨k, h1, ?_, h3⟩
              have : (listed.setIfInBounds j true).getD k true = addE E j k := congrFun hadd k
              rw [this]
              simp only [addE]; split
              · rfl
              · exact h2
          · exact .inr ⟨j, hjn, by have : (listed.setIfInBounds j true).getD j true = addE E j j := congrFun hadd j; rw [this]; simp [addE], by omega⟩
          · exact .inr ⟨j, hjn, by have : (listed.setIfInBounds j true).getD j true = addE E j j := congrFun hadd j; rw [this]; simp [addE], by omega⟩)
      split
      · rename_i hw
        rw [if_pos hw] at key
        exact .inl key
      · rename_i hw
        rw [if_neg hw] at key
        exact key

theorem chain_pre : ∀ (i j : Nat) (l : List Oper) (s sn : S), chain env tb ops base l j s = some sn → ∃ si, chain env tb ops base (l.take i) j s = some si
  | 0, j, l, s, sn, _ => ⟨s, by simp [chain]⟩
  | i + 1, j, [], s, sn, h => ⟨s, by simp [chain]⟩
  | i + 1, j, o :: l, s, sn, h => by
    simp only [chain] at h
    split at h
    · rename_i e he
      obtain ⟨si, h1⟩ := chain_pre i (j + 1) l _ sn h
      exact ⟨si, by simp only [List.take_succ_cons, chain, he]; exact h1⟩
    · cases h
theorem chain_take : ∀ (i j : Nat) (l : List Oper) (si : S), i ≤ l.length → (∀ x, l[x]? = ops[j + x]?) → chain env tb ops base (l.take i) j (cst env tb ops base s0 j) = some si → cst env tb ops base s0 (j + i) = si
  | 0, j, l, si, _, _, h => by
    simp only [List.take_zero, chain, Option.some.injEq] at h
    simpa using h
  | i + 1, j, [], si, hl, _, _ => by simp at hl
  | i + 1, j, o :: l, si, hl, hx, h => by
    have ho : ops[j]? = some o := by simpa using (hx 0).symm
    simp only [List.take_succ_cons, chain] at h
    split at h
    · rename_i e he
      have hc : cst env tb ops base s0 (j + 1) = app o e (cst env tb ops base s0 j) := by simp [cst, ho, he]
      rw [← hc] at h
      have := chain_take i (j + 1) l si (by simpa using hl) (fun x => by have := hx (x + 1); simpa [Nat.add_assoc, Nat.add_comm 1] using this) h
      rw [← this]; congr 1; omega
    · cases h
theorem refs_ok {L : List (Tmp × Option Nat)} {I : List Nat} {sn : S} (hch : chain env tb ops base ops.toList 0 s0 = some sn)
    (h1 : ∀ i o si x, ops.toList[i]? = some o → chain env tb ops base (ops.toList.take i) 0 s0 = some si → ldRef o si = some x → x ∈ L)
    (h3 : ∀ i o si e, ops.toList[i]? = some o → mayX env.x o.op = true → chain env tb ops base (ops.toList.take i) 0 s0 = some si → eff env tb ops (base + 64 * (0 + i)) o si.t si.m = some e → ∀ n ∈ e.2.map Prod.fst, n ∈ I)
    (k : Nat) (o : Oper) (T : TypeId) (a : Tmp) (ho : ops[k]? = some o) (hop : o.op = .load T (.tmp a)) (ha : a ∈ farLd ops.toList I L) (n : Nat) (hn : n ∈ rel o (cst env tb ops base s0 k).t) (k' : Nat) (y : Oper) (hy : ops[k']? = some y) (hmx : mayX env.x y.op = true) :
    n ∉ (cef env tb ops base s0 k').2.map Prod.fst := by
  intro hmem
  have hcc := chain_cst (env := env) (tb := tb) (ops := ops) (base := base) (s0 := s0) ops.size 0 ops.toList sn (by simp) (by simp) hch
  simp only [Nat.zero_add, Nat.zero_le, true_implies] at hcc
  have hk : k < ops.size := (Array.getElem?_eq_some_iff.1 ho).1
  have hk' : k' < ops.size := (Array.getElem?_eq_some_iff.1 hy).1
  obtain ⟨si, hsi⟩ := chain_pre k 0 ops.toList s0 sn hch
  obtain ⟨sk, hsk⟩ := chain_pre k' 0 ops.toList s0 sn hch
  have hc := chain_take (s0 := s0) k 0 ops.toList si (by simp; omega) (fun x => by simp) hsi
  have hck := chain_take (s0 := s0) k' 0 ops.toList sk (by simp; omega) (fun x => by simp) hsk
  rw [Nat.zero_add] at hc hck
  rw [hc] at hn
  unfold farLd at ha
  rw [List.mem_filter, List.all_eq_true] at ha
  have far : ∀ x, ldRef o si = some x → farL I x.2 = true := fun x hx => by
    have h := ha.2 x (h1 k o si x (by simpa using ho) hsi hx)
    obtain ⟨⟨T', hT'⟩, _⟩ := ldRef_some hx
    rw [hop] at hT'
    cases hT'
    simpa using h
  have hev : ∃ off, si.t.getD a .no = .loc n off := by
    simp only [rel, hop] at hn
    have he : ev si.t (.tmp a) = si.t.getD a .no := rfl
    rw [he] at hn
    generalize si.t.getD a .no = d at hn
    cases d with
    | loc i off =>
      simp only [relLoc] at hn
      split at hn
      · simp at hn; subst hn; exact ⟨off, rfl⟩
      · simp at hn
    | _ => simp [relLoc] at hn
  obtain ⟨off, hr⟩ := hev
  have hfar := far (a, some n) (by
    have e1 : ldAt o.op = some a := by rw [hop]; rfl
    have e2 : plD (si.t.getD a .no) = some (some n) := by rw [hr]; rfl
    unfold ldRef
    rw [e1]
    simp only [e2])
  have heff := hcc.2 k' y hy
  rw [hck] at heff
  have := h3 k' y sk _ (by simpa using hy) hmx hsk (by rw [Nat.zero_add]; exact heff) n hmem
  have hcon : I.contains n = true := by simpa using this
  simp only [farL, hcon] at hfar
  cases hfar
/-- A region that draws its order. -/
theorem draw_ok (hmix : P.follows .mixedOrders = true) (hT : TbOk P tb) (hEnv : EnvAt P tb env w0 K0) {L : List Tmp} (hd : drawOk env.x L ops = true) (hL : ∀ (k : Nat) (o : Oper) (T : TypeId) (a : Tmp), ops[k]? = some o → o.op = .load T (.tmp a) → a ∈ L → ∀ i ∈ rel o (cst env tb ops base s0 k).t, ∀ (k' : Nat) (y : Oper), ops[k']? = some y → mayX env.x y.op = true → i ∉ (cef env tb ops base s0 k').2.map Prod.fst) {id : Nat} {sn : S} (hch : chain env tb ops base ops.toList 0 s0 = some sn) {Q : Exit → Act → World → Prop} (hf : Fin w0 K0 tb sn (base + 64 * ops.size) (Q .normal))
    {g : G} {a : Act} {w : World} (hr : RS w0 K0 tb s0.t (look s0.m) g a w) (hC : ∀ i, g.C i → i < 2 * base) : (Code.region id ops true).wp P Q a w := by
  refine wp_region_any hmix ?_
  have hb : Below w.heap.size w { w with drawn := w.drawn + 1 } := ⟨rfl, rfl, rfl, Nat.le_refl _, fun _ _ => rfl⟩
  have he : Ext g g w { w with drawn := w.drawn + 1 } := ⟨fun _ h => h, fun _ _ => rfl, fun _ _ => rfl, fun _ _ h => ⟨h, rfl⟩⟩
  have hr' := hr.grow hb he (fun b o h => .inl h) (fun b o h => hr.kb b o h)
  have hE : (fun i => (Array.replicate ops.size false).getD i true) = fun i => decide (ops.size ≤ i) := by
    funext i
    by_cases h : i < ops.size
    · simp [h]
    · simp [h]; omega
  have hs : ∀ n, n ≤ ops.size → sE env tb ops base s0 (fun i => (Array.replicate ops.size false).getD i true) n = s0 := by
    intro n
    rw [hE]
    induction n with
    | zero => intro _; rfl
    | succ n ih =>
      intro hn
      have hn' : ¬ (decide (ops.size ≤ n) = true) := by simp; omega
      simp only [sE, ih (by omega)]
      cases ops[n]? <;> simp [hn']
  have hcnt : ∀ E n, cnt E n ≤ n := by
    intro E n
    induction n with
    | zero => exact Nat.le_refl _
    | succ n ih => simp only [cnt]; split <;> omega
  refine any_ok hT hEnv hd hL hch hf (fun i hi => ?_) ops.size _ g a _ (by simp) (hcnt _ _) (fun i o ho hi e he => ?_) (by rw [hs _ (Nat.le_refl _)]; exact hr') (fun i hi => .inl (hC i hi))
  · cases hl : look s0.m i with
    | none => exact absurd hl hi
    | some b =>
      cases b with
      | cells c T => exact hC i (hr.bx i c T hl).1
      | tok E => exact hC i (hr.tk i E hl).1
      | dead => exact hC i (hr.dd i hl)
      | map T n g1 ws => exact hC i (hr.rm.C hl rfl)
      | iter j sn => exact hC i (hr.rm.C hl rfl)
      | stamp j kc => exact hC i (hr.rm.C hl rfl)
  · have := (Array.getElem?_eq_some_iff.1 ho).1
    simp [this] at hi
end
end Go.Ev
