/- Code, and functions: what the evaluator gives is what the call returns. -/
import Derived.Test.YtadmfmbpojcnpaaDoorEvn
namespace Go.Ev
open Go Go.RowKit

section
variable {P : Program} {w0 : World} {K0 : Nat → Nat → Prop} {tb : Tb} {env : Env} {α : Type}

/-- How a piece of code may end, by the evaluator. -/
def Ends (w0 : World) (K0 : Nat → Nat → Prop) (tb : Tb) (k : Xt → S → Option α) (r : α) : Exit → Act → World → Prop :=
  fun ex a w => ∃ x s g, ex = x.toExit ∧ RS w0 K0 tb s.t (look s.m) g a w ∧ (∀ i, g.C i → i < 2 * s.k) ∧ k x s = some r

/-- A loop, round by round. -/
noncomputable def loopE (env : Env) (tb : Tb) (rd : Rd) (F : Nat) (c : Code) (cn : S → S) (k : Xt → S → Option α) (n : Nat) : S → Option α :=
  Nat.rec (motive := fun _ => S → Option α) (fun _ => none) (fun _ ih s => exE env tb rd F c s fun x s => match x with
        | .normal => ih (cn s)
        | x => k x (cn s)) n
theorem loopE_zero (rd : Rd) (F : Nat) (c : Code) (cn : S → S) (k : Xt → S → Option α) (s : S) : loopE env tb rd F c cn k 0 s = none := rfl
theorem loopE_succ (rd : Rd) (F n : Nat) (c : Code) (cn : S → S) (k : Xt → S → Option α) (s : S) : loopE env tb rd F c cn k (n + 1) s = exE env tb rd F c s fun x s => match x with
    | .normal => loopE env tb rd F c cn k n (cn s)
    | x => k x (cn s) := rfl

theorem exE_ok (hmix : P.follows .mixedOrders = true) (hT : TbOk P tb) (hE : EnvAt P env w0 K0) (rd : Rd) (F : Nat) : ∀ (c : Code) (s : S) (k : Xt → S → Option α) (r : α), exE env tb rd F c s k = some r →
    ∀ (g : G) (a : Act) (w : World), RS w0 K0 tb s.t (look s.m) g a w → (∀ i, g.C i → i < 2 * s.k) → c.wp P (Ends w0 K0 tb k r) a w := by
  intro c
  induction c with
  | skip => intro s k r h g a w hr hC; exact wp_skip ⟨.normal, s, g, rfl, hr, hC, by simpa only [exE] using h⟩
  | label l => intro s k r h g a w hr hC; exact wp_label ⟨.normal, s, g, rfl, hr, hC, by simpa only [exE] using h⟩
  | exit i => intro s k r h g a w hr hC; exact wp_exit ⟨.exit i, s, g, rfl, hr, hC, by simpa only [exE] using h⟩
  | goto i => intro s k r h g a w hr hC; exact wp_goto ⟨.goto i, s, g, rfl, hr, hC, by simpa only [exE] using h⟩
  | ret => intro s k r h g a w hr hC; exact wp_ret ⟨.ret, s, g, rfl, hr, hC, by simpa only [exE] using h⟩
  | rangeFunc => intro s k r h; simp only [exE] at h; cases h
  | scope => intro s k r h; simp only [exE] at h; cases h
  | refuse => intro s k r h; simp only [exE] at h; cases h
  | region id ops draw =>
    intro s k r h g a w hr hC
    simp only [exE] at h
    split at h
    · rename_i hd
      obtain ⟨sn, hch, hk⟩ := rgE_chain _ _ _ _ _ h
      have hC : ∀ i, g.C i → i < 2 * up id s.k := fun i hi => by have := hC i hi; have := le_up id s.k; omega
      have hf : Fin w0 K0 tb sn (up id s.k + ops.size) (Ends w0 K0 tb k r .normal) := fun g a w hr hC => ⟨.normal, { sn with k := up id s.k + ops.size }, g, rfl, hr, hC, hk⟩
      cases draw with
      | false => exact wp_region_list (chain_ok (base := up id s.k) hT hE ops.toList 0 s sn hch (by simpa using hf) g a w hr (by simpa using hC))
      | true => exact draw_ok hmix hT hE (by simpa using hd) hch hf hr hC
    · cases h
  | seq x y ihx ihy =>
    intro s k r h g a w hr hC
    simp only [exE] at h
    refine wp_seq (wp_mono (ihx s _ r h g a w hr hC) fun ex a' w' ⟨x', s', g', hx, hr', hC', hk⟩ => ?_)
    subst hx
    cases x' with
    | normal => exact ihy s' k r hk g' a' w' hr' hC'
    | exit i => exact ⟨.exit i, s', g', rfl, hr', hC', hk⟩
    | goto i => exact ⟨.goto i, s', g', rfl, hr', hC', hk⟩
    | ret => exact ⟨.ret, s', g', rfl, hr', hC', hk⟩
  | cond c x y ihx ihy =>
    intro s k r h g a w hr hC
    simp only [exE] at h
    split at h
    · rename_i i
      split at h
      · rename_i b hb
        have hv := hr.ev (.tmp i)
        have hev : ev s.t (.tmp i) = .v (.bool b) := hb
        rw [hev] at hv
        cases b with
        | true =>
          simp only [S.set_self hb] at h
          exact wp_cond_true hv.val (ihx s k r h g a w hr hC)
        | false =>
          simp only [S.set_self hb] at h
          exact wp_cond_false hv.val (ihy s k r h g a w hr hC)
      · cases h
    · rename_i b
      cases b with
      | true => exact wp_cond_true rfl (ihx s k r h g a w hr hC)
      | false => exact wp_cond_false rfl (ihy s k r h g a w hr hC)
    · cases h
  | block id c ih =>
    intro s k r h g a w hr hC
    simp only [exE] at h
    refine wp_block (wp_mono (ih s _ r h g a w hr hC) fun ex a' w' ⟨x', s', g', hx, hr', hC', hk⟩ => ?_)
    subst hx
    cases x' with
    | normal => exact ⟨.normal, s', g', rfl, hr', hC', hk⟩
    | exit i =>
      simp only at hk
      simp only [Xt.toExit, Exit.inBlock]
      split at hk
      · rename_i hi
        rw [if_pos (Nat.eq_of_beq_eq_true hi)]
        exact ⟨.normal, s', g', rfl, hr', hC', hk⟩
      · rename_i hi
        rw [if_neg (fun e => by subst e; simp at hi)]
        exact ⟨.exit i, s', g', rfl, hr', hC', hk⟩
    | goto i => exact ⟨.goto i, s', g', rfl, hr', hC', hk⟩
    | ret => exact ⟨.ret, s', g', rfl, hr', hC', hk⟩
  | loop c ih =>
    intro s k r h g a w hr hC
    simp only [exE] at h
    let cn : S → S := canon (up (minId c) s.k) (fgs rd c) (idsOf [] s.m)
    have h : loopE env tb rd F c cn k F (cn s) = some r := h
    refine wp_loop_rounds F ?_
    have key : ∀ (n : Nat) (s : S) (g : G) (a : Act) (w : World), loopE env tb rd F c cn k n s = some r → RS w0 K0 tb s.t (look s.m) g a w → (∀ i, g.C i → i < 2 * s.k) → Code.rounds P c (Ends w0 K0 tb k r) n a w := by
      intro n
      induction n with
      | zero => intro s g a w h; rw [loopE_zero] at h; cases h
      | succ n ihn =>
        intro s g a w h hr hC
        rw [rounds_succ]
        rw [loopE_succ] at h
        refine wp_mono (ih s _ r h g a w hr hC) fun ex a' w' ⟨x', s', g', hx, hr', hC', hk⟩ => ?_
        subst hx
        obtain ⟨g2, hr2, hC2, _⟩ := canon_ok hr' _ (fgs rd c) _
        cases x' with
        | normal => exact ihn _ g2 a' w' hk hr2 hC2
        | exit i => exact ⟨.exit i, _, g2, rfl, hr2, hC2, hk⟩
        | goto i => exact ⟨.goto i, _, g2, rfl, hr2, hC2, hk⟩
        | ret => exact ⟨.ret, _, g2, rfl, hr2, hC2, hk⟩
    obtain ⟨g2, hr2, hC2, _⟩ := canon_ok hr (up (minId c) s.k) (fgs rd c) (idsOf [] s.m)
    exact key F _ g2 a w h hr2 hC2

/-! ### What a function gives -/
def resSem (tmps : Array Value) : ResultVar → Sem Value
  | .tmp t => pure (tmps.getD t undef)
  | .cell x t => do loadVar t (← asAddr (tmps.getD x undef))
theorem results_eq (fn : Func) (tmps : Array Value) : results fn tmps = (fn.results.mapM (resSem tmps) >>= fun vs => pure (if h : vs.size = 1 then vs[0] else .tuple vs)) := by
  have e : (fun x : ResultVar => (match x with
      | .tmp t => pure (tmps.getD t undef)
      | .cell a t => do loadVar t (← asAddr (tmps.getD a undef)) : Sem Value)) = resSem tmps := by
    funext rv; cases rv <;> rfl
  rw [← e]
  rfl

theorem resD_ok (hT : TbOk P tb) {s : S} {g : G} {a : Act} {w : World} (hr : RS w0 K0 tb s.t (look s.m) g a w) {rv : ResultVar} {d : D} (h : resD tb s rv = some d) :
    ∃ v, (resSem a.tmps rv).run P w = .ok v w ∧ VR g w d v := by
  cases rv with
  | tmp i =>
    simp only [resD, Option.some.injEq] at h
    subst h
    exact ⟨_, rfl, hr.ev (.tmp i)⟩
  | cell x T =>
    simp only [resD] at h
    split at h
    · rename_i ti i off hti hx
      split at h
      · rename_i c T' hl
        have hv := hr.ev (.tmp x)
        have hev : ev s.t (.tmp x) = .loc i off := hx
        rw [hev] at hv
        obtain ⟨hC, hv⟩ := hv.isLoc
        obtain ⟨_, _, _, cs, hh, hcs, hone, hvr⟩ := hr.bx i c T' hl
        obtain ⟨r, hrun, hres⟩ := run_load_cells (g := g) (w := w) hT hti (b := g.σ i) (off := off) (l := c.drop off) (fun j => cs.getD (off + j) undef) (fun j hj => by
            rw [cell_of_row w _ _ cs T' _ hh]
            have : off + j < cs.size := by simp at hj; omega
            simp [this]) (fun j e he => by
            rw [List.getElem?_drop] at he
            exact hvr _ e he) (fun j hj => hone _ (by simp at hj; omega)) h
        refine ⟨r, ?_, hres⟩
        have hv' : a.tmps.getD x undef = .pointer (some ⟨g.σ i, off, none⟩) := hv
        simp only [resSem, hv', Sem.run_bind, asAddr, Sem.run_pure, Result.andThen_ok]
        simpa [Instr.loadAt, Instr.sureAddr] using hrun
      · cases h
    · cases h

theorem resDs_ok (hT : TbOk P tb) {s : S} {g : G} {a : Act} {w : World} (hr : RS w0 K0 tb s.t (look s.m) g a w) : ∀ {l : List ResultVar} {ds : List D}, resDs tb s l = some ds →
    ∃ vs : List Value, (l.mapM (resSem a.tmps)).run P w = .ok vs w ∧ vs.length = ds.length ∧ ∀ (i : Nat) (d : D), ds[i]? = some d → VR g w d (vs.getD i undef)
  | [], ds, h => by cases h; exact ⟨[], by simp, rfl, fun i d h => by simp at h⟩
  | rv :: l, ds, h => by
    simp only [resDs] at h
    split at h
    · rename_i d ds' hd hds
      cases h
      obtain ⟨v, h1, h2⟩ := resD_ok hT hr hd
      obtain ⟨vs, h3, h4, h5⟩ := resDs_ok hT hr hds
      refine ⟨v :: vs, by simp only [List.mapM_cons, Sem.run_bind, h1, Result.andThen_ok, h3, Sem.run_pure], by simp [h4], fun i d hd => ?_⟩
      cases i with
      | zero => simp at hd; subst hd; simpa using h2
      | succ i => simpa using h5 i d (by simpa using hd)
    · cases h

theorem result_ok (hT : TbOk P tb) {s : S} {g : G} {a : Act} {w : World} (hr : RS w0 K0 tb s.t (look s.m) g a w) {fn : Func} {d : D} (h : resultD tb s fn.results.toList = some d) :
    ∃ v, (results fn a.tmps).run P w = .ok v w ∧ KR g.K w d v := by
  unfold resultD at h
  have hrun : ∀ (vs : List Value), (fn.results.toList.mapM (resSem a.tmps)).run P w = .ok vs w →
      (results fn a.tmps).run P w = .ok (if h : vs.toArray.size = 1 then vs.toArray[0] else .tuple vs.toArray) w := fun vs hvs => by
    rw [results_eq, Array.mapM_eq_mapM_toList, Sem.run_bind, Sem.run_map, hvs]
    rfl
  split at h
  · rename_i d' hds
    cases h
    obtain ⟨vs, h1, h2, h3⟩ := resDs_ok hT hr hds
    have h1' := hrun vs h1
    match vs, h2 with
    | [v], _ => exact ⟨v, by rw [h1']; rfl, kp1_ok (by simpa using h3 0 d' rfl)⟩
  · rename_i ds hne hds
    cases h
    obtain ⟨vs, h1, h2, h3⟩ := resDs_ok hT hr hds
    have h1' := hrun vs h1
    have hn : ¬ (vs.toArray.size = 1) := fun e => by
      simp at e
      match ds, (h2.symm.trans e) with
      | [d], _ => exact hne d rfl
    refine ⟨.tuple vs.toArray, by rw [h1', dif_neg hn], ?_⟩
    exact kp2_ok (.tup ds vs.toArray (by simpa using h2) fun i d hd => by simpa using h3 i d hd)
  · cases h

/-- **What the evaluator gives is what the call returns.** -/
theorem spec_of (hmix : P.follows .mixedOrders = true) (hT : TbOk P tb) {gl : Gls} (hE : EnvOk P gl env) {f : FuncId} {fn : Func} (hf : P.funcs[f]? = some fn) {rd : Rd} {F : Nat} {args : List D} {d : D} (h : evalR env tb rd F fn args = some d) : Spec P gl f args d := by
  intro K w rs hgl hKw hsz hrs
  unfold evalR at h
  split at h
  · cases h
  · rename_i c hc
    refine calls_of_wp hf hc ?_
    let s : S := { t := args ++ List.replicate (fn.ntmps - args.length) .no, m := [], k := 0 }
    have hr : RS w K tb s.t (look s.m) (G.pure K) { tmps := rs ++ Array.replicate (fn.ntmps - rs.size) undef, defers := [] } w := {
      len := by simp [s, hsz]
      tm := fun i d hd => by
        simp only [s] at hd
        by_cases hi : i < args.length
        · rw [List.getElem?_append_left hi] at hd
          have := hrs i d hd
          have hi' : i < rs.size := by omega
          refine .kr _ _ ?_
          simp only [Array.getD_eq_getD_getElem?] at this ⊢
          rw [Array.getElem?_append_left hi']
          exact this
        · rw [List.getElem?_append_right (by omega), List.getElem?_replicate] at hd
          split at hd
          · cases hd; exact .no _
          · cases hd
      df := rfl
      bx := fun i c T h => by simp [s, look] at h
      bd := fun i j c T c' T' h => by simp [s, look] at h
      tk := fun q E h => by simp [s, look] at h
      td := fun q E i c T h => by simp [s, look] at h
      tt := fun q q' E E' b h => by simp [s, look] at h
      dd := fun i h => by simp [s, look] at h
      kb := hKw
      k0 := fun b o h => h
      k1 := fun b o h => .inl h
      ext := Below.refl _ _ }
    refine wp_mono (exE_ok hmix hT ⟨gl, hgl, hE⟩ rd F c s _ d h (G.pure K) _ w hr (fun i hi => hi.elim)) fun ex a' w' ⟨x, s', g', hx, hr', hC', hk⟩ => ?_
    subst hx
    have fin : resultD tb s' fn.results.toList = some d → a'.defers = [] ∧ ∃ v, (results fn a'.tmps).run P w' = .ok v w' ∧
        ∃ r K', Ending.returned v = .returned r ∧ (∀ b o, K b o → K' b o) ∧ (∀ b o, K' b o → K b o ∨ w.heap.size ≤ b) ∧ (∀ b o, K' b o → b < w'.heap.size) ∧ KR K' w' d r ∧ Below w.heap.size w w' := fun hres => by
      obtain ⟨v, h1, h2⟩ := result_ok hT hr' hres
      exact ⟨hr'.df, v, h1, v, g'.K, rfl, hr'.k0, hr'.k1, hr'.kb, h2, hr'.ext⟩
    cases x with
    | normal => exact fin hk
    | ret => exact fin hk
    | exit i => cases hk
    | goto i => cases hk
end

/-- The j-th loop of a function, n rounds to go, its head's state as at the beginning but for l. -/
noncomputable def lp (env : Env) (tb : Tb) (F : Nat) (fn : Func) (args : List D) (j n : Nat) (l : List (Nat × D)) : Option D :=
  loopE env tb (rdsF fn) F (lpC (bodyF fn) j) (canon (up (minId (lpC (bodyF fn) j)) (lpS env tb fn args j).k) (fgs (rdsF fn) (lpC (bodyF fn) j)) (idsOf [] (lpS env tb fn args j).m))
    (lpK env tb (rdsF fn) F (bodyF fn) j (endK tb fn)) n
    ((canon (up (minId (lpC (bodyF fn) j)) (lpS env tb fn args j).k) (fgs (rdsF fn) (lpC (bodyF fn) j)) (idsOf [] (lpS env tb fn args j).m) (lpS env tb fn args j)).setT l)
end Go.Ev
