/- Regions: in the text's order, and in any order that their edges allow. -/
import Derived.Test.YtflbjjpcjeinlaaGreatDoorEvr
namespace Go.Ev
open Go Go.RowKit

section
variable {P : Program} {w0 : W0} {K0 : Nat → Nat → Prop} {tb : Tb} {env : Env} {ops : Array Oper}

/-- An operation's effect, guards in place. -/
def runEff (env : Env) (tb : Tb) (c : Nat) (o : Oper) (t : List D) (m : Mem) : Option (D × Mem) :=
  match o.op with
  | .pick x a b => match ev t x with
    | .v (.bool true) => some (evx tb o.type t a, [])
    | .v (.bool false) => some (evx tb o.type t b, [])
    | _ => none
  | _ => match evOp env tb (2 * c) (2 * c + 1) (c / 2 + 1) o t m with
    | some (true, d, δ) => some (d, δ)
    | _ => none
def eff (env : Env) (tb : Tb) (ops : Array Oper) (c : Nat) (o : Oper) (t : List D) (m : Mem) : Option (D × Mem) :=
  match o.guard with
  | none => runEff env tb c o t m
  | some (g, want) => match (ops[g]?).bind (·.dst) with
    | none => none
    | some gt => match t.getD gt .no with
      | .v (.bool b) => if b = want then runEff env tb c o t m else some (skD, [])
      | .v (.tuple _) => some (skD, [])
      | _ => none

def app (o : Oper) (e : D × Mem) (s : S) : S := { (s.put o.dst e.1) with m := e.2 ++ s.m }

/-- The operations one behind the other. -/
def chain (env : Env) (tb : Tb) (ops : Array Oper) (base : Nat) : List Oper → Nat → S → Option S
  | [], _, s => some s
  | o :: l, j, s => match eff env tb ops (base + 64 * j) o s.t s.m with
    | some e => chain env tb ops base l (j + 1) (app o e s)
    | none => none

theorem app_nil (o : Oper) (d : D) (s : S) : app o (d, []) s = s.put o.dst d := by cases hd : o.dst <;> simp [app, S.put, hd]

theorem S.set_self {s : S} {i : Nat} {d : D} (h : s.t.getD i .no = d) : { s with t := s.t.set i d } = s := by
  have : s.t.set i d = s.t := by
    apply List.ext_getElem?
    intro j
    by_cases e : i = j
    · subst e
      rw [List.getElem?_set_self']
      cases hq : s.t[i]? with
      | none => rfl
      | some x =>
        rw [List.getD_eq_getElem?_getD, hq] at h
        simp at h
        simp [h]
    · rw [List.getElem?_set_ne e]
  rw [this]

theorem stepE_eff {α : Type} {base j : Nat} {o : Oper} {s : S} {k : S → Option α} {r : α} (h : stepE env tb base j o s k = some r) :
    ∃ e, runEff env tb (base + 64 * j) o s.t s.m = some e ∧ k (app o e s) = some r := by
  unfold stepE at h
  split at h
  · rename_i c x y ho
    split at h
    · rename_i b hb
      split at h
      · exact ⟨(evx tb o.type s.t x, []), by simp [runEff, ho, hb], by rw [app_nil]; exact h⟩
      · exact ⟨(evx tb o.type s.t y, []), by simp [runEff, ho, hb], by rw [app_nil]; exact h⟩
    · cases h
  · rename_i hno
    split at h
    · rename_i c d δ he
      split at h
      · refine ⟨(d, δ), ?_, h⟩
        unfold runEff
        split
        · rename_i c' x y ho; exact absurd ho (hno c' x y)
        · rw [he]
      · cases h
    · cases h

theorem selE_some {α : Type} {r : α} {x : Int} : ∀ {n j : Nat} {k : Nat → Option α}, selE n j x k = some r → ∃ y : Nat, x = y ∧ k y = some r
  | 0, j, k, h => by cases h
  | n + 1, j, k, h => by
    simp only [selE] at h
    split at h
    · rename_i hb; exact ⟨j, by simpa using hb, h⟩
    · exact selE_some h
theorem stepX_eff {α : Type} {base j : Nat} {o : Oper} {s : S} {k : S → Option α} {r : α} (h : stepX env tb base j o s k = some r) :
    ∃ e, runEff env tb (base + 64 * j) o s.t s.m = some e ∧ k (app o e s) = some r := by
  unfold stepX at h
  split at h
  · exact stepE_eff h
  · split at h
    · rename_i kk x hx
      obtain ⟨y, hy, h'⟩ := selE_some h
      subst hy
      have h' : stepE env tb base j o s k = some r := by rw [S.set_self hx] at h'; exact h'
      exact stepE_eff h'
    · exact stepE_eff h

theorem rgE_chain {α : Type} {base : Nat} : ∀ (l : List Oper) (j : Nat) (s : S) (k : S → Option α) (r : α), rgE env tb ops base l j s k = some r → ∃ s', chain env tb ops base l j s = some s' ∧ k s' = some r
  | [], j, s, k, r, h => ⟨s, rfl, h⟩
  | o :: l, j, s, k, r, h => by
    simp only [rgE] at h
    have go : ∀ (h' : stepX env tb base j o s (fun s => rgE env tb ops base l (j + 1) s k) = some r), (∀ e, runEff env tb (base + 64 * j) o s.t s.m = some e → eff env tb ops (base + 64 * j) o s.t s.m = some e) → ∃ s', chain env tb ops base (o :: l) j s = some s' ∧ k s' = some r := by
      intro h' he
      obtain ⟨e, h1, h2⟩ := stepX_eff h'
      obtain ⟨s', h3, h4⟩ := rgE_chain l (j + 1) _ k r h2
      exact ⟨s', by simp only [chain, he e h1]; exact h3, h4⟩
    have skip : ∀ (h' : rgE env tb ops base l (j + 1) (S.put s o.dst skD) k = some r), eff env tb ops (base + 64 * j) o s.t s.m = some (skD, []) → ∃ s', chain env tb ops base (o :: l) j s = some s' ∧ k s' = some r := by
      intro h' he
      obtain ⟨s', h3, h4⟩ := rgE_chain l (j + 1) _ k r h'
      refine ⟨s', ?_, h4⟩
      simp only [chain, he]
      rw [app_nil]; exact h3
    split at h
    · rename_i hg
      exact go h (fun e he => by simp [eff, hg, he])
    · rename_i g want hg
      split at h
      · cases h
      · rename_i gt hgt
        split at h
        · rename_i b hb
          cases b
          · rw [S.set_self hb] at h
            cases want
            · exact go h (fun e he => by simp only [eff, hg, hgt, hb, if_true]; exact he)
            · exact skip h (by simp only [eff, hg, hgt, hb]; simp)
          · rw [S.set_self hb] at h
            cases want
            · exact skip h (by simp only [eff, hg, hgt, hb]; simp)
            · exact go h (fun e he => by simp only [eff, hg, hgt, hb, if_true]; exact he)
        · rename_i vs hb
          exact skip h (by simp only [eff, hg, hgt, hb])
        · cases h

theorem plD_some {d : D} {x : Option Nat} (h : plD d = some x) : (∃ l, d = .ref l ∧ x = none) ∨ ∃ i o, d = .loc i o ∧ x = some i := by
  cases d with
  | ref l => cases h; exact .inl ⟨l, rfl, rfl⟩
  | loc i o => cases h; exact .inr ⟨i, o, rfl, rfl⟩
  | _ => cases h
theorem ldAt_some {o : Op} {a : Tmp} (h : ldAt o = some a) : ∃ T, o = .load T (.tmp a) := by
  unfold ldAt at h
  split at h
  · cases h; exact ⟨_, rfl⟩
  · cases h
theorem ldRef_some {o : Oper} {s : S} {x : Tmp × Option Nat} (h : ldRef o s = some x) : (∃ T, o.op = .load T (.tmp x.1)) ∧ plD (s.t.getD x.1 .no) = some x.2 := by
  unfold ldRef at h
  split at h
  · rename_i a ha
    split at h
    · rename_i p hp
      cases h
      exact ⟨ldAt_some ha, hp⟩
    · cases h
  · cases h
theorem chgd_app (o : Oper) (e : D × Mem) (s : S) : chgd s.m (app o e s).m = e.2.map Prod.fst := by
  unfold chgd app
  simp
theorem recL_mem {o : Oper} {s : S} {acc : List (Tmp × Option Nat)} {x : Tmp × Option Nat} (h : x ∈ acc) : x ∈ recL o s acc := by
  unfold recL
  split
  · exact List.mem_cons_of_mem _ h
  · exact h
theorem stepL_eff {α : Type} {base j : Nat} {o : Oper} {s : S} {ids : List Nat} {f : S → List Nat → Option α} {r : α} (h : stepL env tb base j o s ids f = some r) :
    ∃ e ids', runEff env tb (base + 64 * j) o s.t s.m = some e ∧ f (app o e s) ids' = some r ∧ (∀ i ∈ ids, i ∈ ids') ∧ (mayX env.x o.op = true → ∀ i ∈ e.2.map Prod.fst, i ∈ ids') := by
  unfold stepL at h
  split at h
  · obtain ⟨e, h1, h2⟩ := stepX_eff h
    exact ⟨e, _, h1, h2, fun i hi => List.mem_append.2 (.inr hi), fun _ i hi => List.mem_append.2 (.inl (by rw [chgd_app]; exact hi))⟩
  · rename_i hm
    obtain ⟨e, h1, h2⟩ := stepX_eff h
    exact ⟨e, _, h1, h2, fun i hi => hi, fun h => by rw [h] at hm; cases hm⟩
def RgL {α : Type} (env : Env) (tb : Tb) (ops : Array Oper) (base : Nat) (l : List Oper) (j : Nat) (s : S) (acc : List (Tmp × Option Nat)) (ids : List Nat) (k : S → List (Tmp × Option Nat) → List Nat → Option α) (r : α) : Prop :=
    ∃ s' L I, chain env tb ops base l j s = some s' ∧ k s' L I = some r ∧ (∀ i ∈ ids, i ∈ I) ∧ (∀ x ∈ acc, x ∈ L) ∧
      (∀ i o si x, l[i]? = some o → chain env tb ops base (l.take i) j s = some si → ldRef o si = some x → x ∈ L) ∧
      ∀ i o si e, l[i]? = some o → mayX env.x o.op = true → chain env tb ops base (l.take i) j s = some si → eff env tb ops (base + 64 * (j + i)) o si.t si.m = some e → ∀ n ∈ e.2.map Prod.fst, n ∈ I
theorem rgL_chain {α : Type} {base : Nat} : ∀ (l : List Oper) (j : Nat) (s : S) (acc : List (Tmp × Option Nat)) (ids : List Nat) (k : S → List (Tmp × Option Nat) → List Nat → Option α) (r : α), rgL env tb ops base l j s acc ids k = some r → RgL env tb ops base l j s acc ids k r
  | [], j, s, acc, ids, k, r, h => ⟨s, acc, ids, rfl, h, fun _ h => h, fun _ h => h, fun i o si x hi => by simp at hi, fun i o si e hi => by simp at hi⟩
  | o :: l, j, s, acc, ids, k, r, h => by
    simp only [rgL] at h
    -- one that comes up, and what it gives
    have next : ∀ (e : D × Mem) (ids' : List Nat), eff env tb ops (base + 64 * j) o s.t s.m = some e → rgL env tb ops base l (j + 1) (app o e s) (recL o s acc) ids' k = some r → (∀ i ∈ ids, i ∈ ids') → (mayX env.x o.op = true → ∀ i ∈ e.2.map Prod.fst, i ∈ ids') →
        RgL env tb ops base (o :: l) j s acc ids k r := fun e ids' he h2 h3 h4 => by
      obtain ⟨s', L, I, y1, y2, y3, y4, y5, y6⟩ := rgL_chain l (j + 1) _ _ _ k r h2
      refine ⟨s', L, I, by simp only [chain, he]; exact y1, y2, fun i hi => y3 i (h3 i hi), fun x hx => y4 x (recL_mem hx), fun i o' si x z1 z2 z3 => ?_, fun i o' si e' z1 z2 z3 z4 n hn => ?_⟩
      · cases i with
        | zero =>
          simp only [List.getElem?_cons_zero, Option.some.injEq] at z1
          subst z1
          simp only [List.take_zero, chain, Option.some.injEq] at z2
          subst z2
          refine y4 x ?_
          unfold recL
          rw [z3]
          exact List.mem_cons_self
        | succ i =>
          simp only [List.take_succ_cons, chain, he] at z2
          exact y5 i o' si x (by simpa using z1) z2 z3
      · cases i with
        | zero =>
          simp only [List.getElem?_cons_zero, Option.some.injEq] at z1
          subst z1
          simp only [List.take_zero, chain, Option.some.injEq] at z3
          subst z3
          rw [Nat.add_zero, he] at z4
          cases z4
          exact y3 n (h4 z2 n hn)
        | succ i =>
          simp only [List.take_succ_cons, chain, he] at z3
          exact y6 i o' si e' (by simpa using z1) z2 z3 (by rw [show j + 1 + i = j + (i + 1) by omega]; exact z4) n hn
    have go : (∀ e, runEff env tb (base + 64 * j) o s.t s.m = some e → eff env tb ops (base + 64 * j) o s.t s.m = some e) → stepL env tb base j o s ids (fun s' ids' => rgL env tb ops base l (j + 1) s' (recL o s acc) ids' k) = some r → RgL env tb ops base (o :: l) j s acc ids k r := fun he h' => by
      obtain ⟨e, ids', h1, h2, h3, h4⟩ := stepL_eff h'
      exact next e ids' (he e h1) h2 h3 h4
    have skip : eff env tb ops (base + 64 * j) o s.t s.m = some (skD, []) → rgL env tb ops base l (j + 1) (S.put s o.dst skD) (recL o s acc) ids k = some r → RgL env tb ops base (o :: l) j s acc ids k r := fun he h' =>
      next (skD, []) ids he (by rw [app_nil]; exact h') (fun i hi => hi) (fun _ i hi => by simp at hi)
    split at h
    · rename_i hg
      exact go (fun e he => by simp [eff, hg, he]) h
    · rename_i g want hg
      split at h
      · cases h
      · rename_i gt hgt
        split at h
        · rename_i b hb
          cases b
          · rw [S.set_self hb] at h
            cases want
            · exact go (fun e he => by simp only [eff, hg, hgt, hb, if_true]; exact he) h
            · exact skip (by simp only [eff, hg, hgt, hb]; simp) h
          · rw [S.set_self hb] at h
            cases want
            · exact skip (by simp only [eff, hg, hgt, hb]; simp) h
            · exact go (fun e he => by simp only [eff, hg, hgt, hb, if_true]; exact he) h
        · rename_i vs hb
          exact skip (by simp only [eff, hg, hgt, hb]) h
        · cases h

section
variable {t : List D} {m : Mem} {g : G} {a : Act} {w : World}

theorem runEff_ok (hT : TbOk P tb) (hE : EnvAt P tb env w0 K0) {c : Nat} {o : Oper} {e : D × Mem} (h : runEff env tb c o t m = some e) (hr : RS w0 K0 tb t (look m) g a w) (hid : ¬ g.C (2 * c)) (hit : ¬ g.C (2 * c + 1)) (hfr : ∀ i, 4 * (c / 2 + 1) ≤ i → i < 4 * (c / 2 + 1 + 31) → ¬ g.C i)
    {K : Act → World → Prop} {Q : Exit → Act → World → Prop} (hk : Kont w0 K0 tb t m g a w (2 * c) (2 * c + 1) (c / 2 + 1) o.dst e.1 e.2 K) : o.wp P a w K Q := by
  unfold runEff at h
  split at h
  · rename_i x u v ho
    have hv := hr.ev x
    split at h
    · rename_i hx
      cases h
      rw [hx] at hv
      exact wp_val (r := a.eval u) (w' := w) (by simp [execOp, ho, hv.val, asBool]) (hk.same hr (hr.evx o.type u))
    · rename_i hx
      cases h
      rw [hx] at hv
      exact wp_val (r := a.eval v) (w' := w) (by simp [execOp, ho, hv.val, asBool]) (hk.same hr (hr.evx o.type v))
    · cases h
  · split at h
    · rename_i d δ he
      cases h
      exact evOp_ok hT hE he hr hid hit hfr hk
    · cases h

theorem yielded_of (hr : RS w0 K0 tb t (look m) g a w) {j gt : Nat} {b : Bool} (hgt : (ops[j]?).bind (·.dst) = some gt) (hb : t.getD gt .no = .v (.bool b)) : yielded ops a.tmps j = some b := by
  unfold yielded
  rw [hgt]
  rw [List.getD_eq_getElem?_getD] at hb
  cases hq : t[gt]? with
  | none => simp [hq] at hb
  | some d =>
    simp [hq] at hb
    subst hb
    have hv := (hr.tm gt _ hq).val
    have hlt : gt < a.tmps.size := by rw [hr.len]; exact (List.getElem?_eq_some_iff.1 hq).1
    simp [hlt] at hv
    simp [hlt, hv]

theorem yielded_tup (hr : RS w0 K0 tb t (look m) g a w) {j gt : Nat} {vs : Array Value} (hgt : (ops[j]?).bind (·.dst) = some gt) (hb : t.getD gt .no = .v (.tuple vs)) : yielded ops a.tmps j = none := by
  unfold yielded
  rw [hgt]
  rw [List.getD_eq_getElem?_getD] at hb
  cases hq : t[gt]? with
  | none => simp [hq] at hb
  | some d =>
    simp [hq] at hb
    subst hb
    have hv := (hr.tm gt _ hq).val
    have hlt : gt < a.tmps.size := by rw [hr.len]; exact (List.getElem?_eq_some_iff.1 hq).1
    simp [hlt] at hv
    simp [hlt, hv]

/-- One operation, as the model asks it. -/
theorem eff_ok (hT : TbOk P tb) (hE : EnvAt P tb env w0 K0) {c : Nat} {o : Oper} {e : D × Mem} (h : eff env tb ops c o t m = some e) (hr : RS w0 K0 tb t (look m) g a w) (hid : ¬ g.C (2 * c)) (hit : ¬ g.C (2 * c + 1)) (hfr : ∀ i, 4 * (c / 2 + 1) ≤ i → i < 4 * (c / 2 + 1 + 31) → ¬ g.C i)
    {K : Act → World → Prop} {Q : Exit → Act → World → Prop} (hk : Kont w0 K0 tb t m g a w (2 * c) (2 * c + 1) (c / 2 + 1) o.dst e.1 e.2 K) :
    if Region.wanted o (yielded ops a.tmps) then o.wp P a w K Q else K (a.put o.dst undef) w := by
  unfold eff at h
  split at h
  · rename_i hg
    rw [if_pos (by simp [Region.wanted, hg])]
    exact runEff_ok hT hE h hr hid hit hfr hk
  · rename_i j want hg
    split at h
    · cases h
    · rename_i gt hgt
      split at h
      · rename_i b hb
        have hy := yielded_of hr hgt hb
        split at h
        · rename_i hbw
          subst hbw
          rw [if_pos (by simp [Region.wanted, hg, hy])]
          exact runEff_ok hT hE h hr hid hit hfr hk
        · rename_i hbw
          cases h
          rw [if_neg (by simp [Region.wanted, hg, hy, hbw])]
          exact hk.same hr (.v _)
      · rename_i vs hb
        have hy := yielded_tup hr hgt hb
        cases h
        rw [if_neg (by simp [Region.wanted, hg, hy])]
        exact hk.same hr (.v _)
      · cases h
end

/-- What follows a region. -/
def Fin (w0 : W0) (K0 : Nat → Nat → Prop) (tb : Tb) (s : S) (bnd : Nat) (Q : Act → World → Prop) : Prop :=
  ∀ g a w, RS w0 K0 tb s.t (look s.m) g a w → (∀ i, g.C i → i < 2 * bnd) → Q a w

theorem RS.app {s : S} {g : G} {a : Act} {w : World} {o : Oper} {d : D} {δ : Mem} {r : Value} (hr : RS w0 K0 tb s.t (look (δ ++ s.m)) g a w) (hv : VR g w d r) : RS w0 K0 tb (app o (d, δ) s).t (look (app o (d, δ) s).m) g (a.put o.dst r) w := by
  have := hr.put o.dst hv
  cases hd : o.dst with
  | none => simp only [hd] at this; simp only [Ev.app, S.put, hd]; exact this
  | some i => simp only [hd] at this; simp only [Ev.app, S.put, hd]; exact this

/-- In the text's order. -/
theorem chain_ok (hT : TbOk P tb) (hE : EnvAt P tb env w0 K0) {base : Nat} {Q : Exit → Act → World → Prop} : ∀ (l : List Oper) (j : Nat) (s s' : S), chain env tb ops base l j s = some s' → Fin w0 K0 tb s' (base + 64 * j + 64 * l.length) (Q .normal) →
    ∀ g a w, RS w0 K0 tb s.t (look s.m) g a w → (∀ i, g.C i → i < 2 * (base + 64 * j)) → wpList P ops Q l a w
  | [], j, s, s', h, hf, g, a, w, hr, hC => by
    cases h
    exact hf g a w hr (by simpa using hC)
  | o :: l, j, s, s', h, hf, g, a, w, hr, hC => by
    simp only [chain] at h
    split at h
    · rename_i e he
      obtain ⟨d, δ⟩ := e
      refine wpList_step fun K hK => ?_
      refine eff_ok hT hE he hr (fun h => by have := hC _ h; omega) (fun h => by have := hC _ h; omega) (fun i h1 h2 h => by have := hC _ h; omega) (fun r g' w' hext hC' hv hrs => hK _ _ ?_)
      refine chain_ok hT hE l (j + 1) _ s' h (by rw [show base + 64 * (j + 1) + 64 * l.length = base + 64 * j + 64 * (o :: l).length by simp; omega]; exact hf) g' _ w' (RS.app hrs hv) (fun i hi => ?_)
      rcases hC' i hi with h1 | h1 | h1 | h1
      · have := hC i h1; omega
      · omega
      · omega
      · omega
    · cases h

end
end Go.Ev
