/- Code, and functions: what the evaluator gives is what the call returns. -/
import Derived.Test.YtflbjjpcjeinlaaGreatDoorEvn
import Derived.Scope
namespace Go.Ev
open Go Go.RowKit

section
variable {P : Program} {w0 : W0} {K0 : Nat → Nat → Prop} {tb : Tb} {env : Env} {α : Type}

/-- How a piece of code may end, by the evaluator. -/
def Ends (w0 : W0) (K0 : Nat → Nat → Prop) (tb : Tb) (k : Xt → S → Option α) (r : α) : Exit → Act → World → Prop :=
  fun ex a w => ∃ x s g, ex = x.toExit ∧ RS w0 K0 tb s.t (look s.m) g a w ∧ (∀ i, g.C i → i < 2 * s.k) ∧ k x s = some r

/-- A loop, round by round. -/
noncomputable def loopE (env : Env) (tb : Tb) (rd : Rd) (F : Nat) (c : Code) (cn : S → S) (k : Xt → S → Option α) (n : Nat) : S → Option α :=
  Nat.rec (motive := fun _ => S → Option α) (fun _ => none) (fun _ ih s => exE env tb rd F c s fun x s => match x with
        | .normal => ih (cn s)
        | x => k x (cn s)) n
theorem loopE_zero (rd : Rd) (F : Nat) (c : Code) (cn : S → S) (k : Xt → S → Option α) (s : S) : loopE env tb rd F c cn k 0 s = none := rfl
theorem loopE_succ (rd : Rd) (F n : Nat) (c : Code) (cn : S → S) (k : Xt → S → Option α) (s : S) : loopE env tb rd F c cn k (n + 1) s = exE env tb rd F c s fun x s => match x with
    | .normal => loopE env tb rd F c cn k n (cn s)
    | x => k x (cn s) := rfl

theorem allU8_get {n : Nat} {get : Nat → List D} (h : allU8 n get = true) {i : Nat} (hi : i < n) : ∃ x, get i = [.v (.int .u8 x)] := by
  simp only [allU8, List.all_eq_true, List.mem_range] at h
  have := h i hi
  unfold u8Of at this
  split at this
  · rename_i k n' hg
    split at this
    · rename_i hk; rw [ikEq_eq hk] at hg; exact ⟨n', hg⟩
    · cases this
  · cases this
theorem revPat_len {c : Bool} {ol l : List Oper} {draw : Bool} {s s1 : S} (h : revPat env ol draw s = some (c, s1, l)) : draw = false ∧ ol.length = l.length + 2 := by
  unfold revPat at h
  (repeat' split at h) <;> first | (cases h; done) | skip
  simp only [Option.some.injEq, Prod.mk.injEq] at h
  obtain ⟨_, _, rfl⟩ := h
  exact ⟨rfl, rfl⟩
/-- A slice of bytes that has been made here is turned round. -/
theorem revPat_ok (hE : EnvAt P tb env w0 K0) {ol l : List Oper} {draw : Bool} {s s1 : S} (h : revPat env ol draw s = some (true, s1, l)) {g : G} {a : Act} {w : World} (hr : RS w0 K0 tb s.t (look s.m) g a w) {ops : Array Oper} {Q : Exit → Act → World → Prop}
    (hK : ∀ a' w', RS w0 K0 tb s1.t (look s1.m) g a' w' → wpList P ops Q l a' w') : wpList P ops Q ol a w := by
  obtain ⟨gl, hgl, hEo, hno⟩ := hE
  unfold revPat at h
  split at h
  · rename_i f o1 o l' hf
    obtain ⟨hF, hK0⟩ := hno (by rw [hf]; rfl)
    obtain ⟨⟨fn, hfn, hbody, hname⟩, hrev, hrev0⟩ := hEo.r f hf
    split at h
    · rename_i i1 d hg1 ho1 hd1
      split at h
      · rename_i f' args ats hg ho
        split at h
        · rename_i i hff hargs
          have hv1 := hr.ev (.tmp i1)
          have hr1 := hr.put (some d) hv1
          have e1 : ev s.t (.tmp i1) = s.t.getD i1 .no := rfl
          rw [e1] at hr1
          simp only at hr1
          generalize s.t.set d (s.t.getD i1 .no) = t1 at h hr1
          split at h
          · rename_i sz n get q hti
            split at h
            · rename_i E hq
              simp only [Option.some.injEq, Prod.mk.injEq, Bool.and_eq_true, decide_eq_true_eq] at h
              obtain ⟨⟨hsz, hall, hn⟩, rfl, rfl⟩ := h
              have hsz := Nat.eq_of_beq_eq_true hsz
              have hff := Nat.eq_of_beq_eq_true hff
              subst hsz hff
              refine wpList_step fun K1 hK1 => ?_
              rw [if_pos (by simp [Region.wanted, hg1])]
              refine wp_val (r := a.eval (.tmp i1)) (w' := w) (by simp [execOp, ho1]) (hK1 _ _ ?_)
              rw [hd1]
              generalize a.put (some d) (a.eval (.tmp i1)) = a1 at hr1
              refine wpList_step fun K2 hK2 => ?_
              rw [if_pos (by simp [Region.wanted, hg])]
              have hb' : ¬ fn.body = none := by intro e; simp [e] at hbody
              have hn' : ¬ fn.name = "runtime.NumGoroutine" := by simpa using hname
              have hargs' : args = #[.tmp i] := by apply Array.ext'; simpa using hargs
              have hrun : (execOp a1.eval o).run P w = .ok (.enter f' #[a1.eval (.tmp i)]) w := by
                simp [execOp, ho, resolve, Act.eval, Deferred.ofValue, invoke, callFunc, hfn, hb', hn', hargs']
              unfold Oper.wp
              rw [hrun]
              show Calls P f' #[a1.eval (.tmp i)] w _
              have hev : ev t1 (.tmp i) = .sl 1 n get (.tok q) := hti
              have hvi := hr1.ev (.tmp i)
              rw [hev] at hvi
              obtain ⟨hkr, hperm⟩ := hvi.isSl
              obtain ⟨hCq, hown⟩ := hr1.tk q E hq
              obtain ⟨hCq', hρ⟩ := (hperm : g.C q ∧ _)
              have fin : ∀ (w' : World), KR g.K w' (.sl 1 n (fun j => get (n - 1 - j)) .none) (a1.eval (.tmp i)) → w'.os = w.os → w'.tape = w.tape → w'.output = w.output → w'.heap.size = w.heap.size →
                  (∀ k, k < w0.w.heap.size → w'.heap[k]? = w.heap[k]?) → K2 (a1.put o.dst (.tuple #[])) w' := fun w' hv h1 h2 h3 h4 h5 => by
                refine hK2 _ _ (hK _ _ ?_)
                have hrs : RS w0 K0 tb (t1.map (bk q n get)) (look []) g a1 w' := {
                  len := by simpa using hr1.len
                  tm := fun j d hd => by
                    simp only [List.getElem?_map, Option.map_eq_some_iff] at hd
                    obtain ⟨d', hd', rfl⟩ := hd
                    have hv' := hr1.tm j d' hd'
                    cases d' with
                    | v x => have := hv'.val; rw [this]; exact .kr _ _ (.v _ hv'.okv)
                    | sl sz' n' g' p =>
                      cases p with
                      | tok q' =>
                        simp only [bk]
                        split
                        · rename_i hqq
                          have := Nat.eq_of_beq_eq_true hqq
                          subst this
                          have hρ' : _ = g.ρ q' := (hv'.isSl.2 : g.C q' ∧ _).2
                          rw [hρ', ← hρ]
                          exact .kr _ _ hv
                        · exact .no _
                      | _ => exact .no _
                    | _ => exact .no _
                  df := hr1.df
                  bx := fun i c T h => by simp [look] at h
                  bd := fun i j c T c' T' h => by simp [look] at h
                  tk := fun q E h => by simp [look] at h
                  td := fun q E i c T h => by simp [look] at h
                  tt := fun q q' E E' b h => by simp [look] at h
                  dd := fun i h => by simp [look] at h
                  rm := RM.nil fun i b h => by simp [look] at h
                  kb := fun b o h => by rw [h4]; exact hr1.kb b o h
                  k0 := hr1.k0
                  k1 := hr1.k1
                  kv := fun b o h => by
                    rw [← hr1.kv b o h]
                    simp only [World.cell?, h5 b (hK0 b o h)]
                  ar := hr1.ar
                  ext := ⟨h1.trans hr1.ext.os, h2.trans hr1.ext.tape, h3.trans hr1.ext.output, by rw [h4]; exact hr1.ext.size, fun k hk hk' => (h5 k hk).trans (hr1.ext.block k hk hk')⟩ }
                have := hrs.put o.dst (.no (.tuple #[]))
                cases hd : o.dst with
                | none => simp only [hd] at this; simp only [S.put]; exact this
                | some x => simp only [hd] at this; simp only [S.put]; exact this
              generalize hva : a1.eval (.tmp i) = va at *
              cases hkr with
              | sl0 _ _ ad cap =>
                exact (hrev0 ad cap w).mono fun e w' ⟨he, h1, h2, h3, h4, h5⟩ => by subst he; exact fin w' (.sl0 _ _ _ _) h1 h2 h3 h4 fun k _ => h5 k
              | sl _ _ _ b off cap v hcap hl hkk hcc =>
                have hO : off = 0 ∧ w0.mine b ∧ ∃ cur E, w.heap[b]? = some (.cells cur E (0, 0)) := by
                  rcases hown with hown | ⟨b', n', cap', cur, ti, h1, h2, h3, _⟩
                  · rw [← hρ] at hown; cases hown
                  · rw [← hρ] at h1; cases h1; exact ⟨rfl, h2, cur, E, h3⟩
                obtain ⟨rfl, hmine, htag⟩ := hO
                have hbig : w0.w.heap.size ≤ b := hmine.resolve_left (hF b)
                obtain ⟨x, hx⟩ : ∃ x : Nat → Int, ∀ i, i < n → get i = [.v (.int .u8 (x i))] := ⟨fun i => (u8Of (get i)).getD 0, fun i hi => by obtain ⟨y, hy⟩ := allU8_get hall hi; show _ = [D.v (.int .u8 ((u8Of (get i)).getD 0))]; rw [hy]; rfl⟩
                have hcell : ∀ j, j < n → w.cell? ⟨b, j, none⟩ = some (.int .u8 (x j)) := fun j hj => by
                  obtain ⟨_, h2, _⟩ := hkk j 0 hj (by omega)
                  have h3 := hcc j 0 (.v (.int .u8 (x j))) hj (by rw [hx j hj]; rfl)
                  have h4 : v j 0 = .int .u8 (x j) := by generalize v j 0 = vj at h3 ⊢; cases h3; rfl
                  rw [h4] at h2
                  simpa using h2
                refine (hrev b cap n x w htag hcell hn).mono fun e w' ⟨he, h0, h1, h2, h3, h4, h5⟩ => ?_
                subst he
                refine fin w' ?_ h1 h2 h3 h4 fun k hk => h5 k (by omega)
                refine .sl 1 n _ b 0 cap (fun j _ => .int .u8 (x (n - 1 - j))) hcap (fun j hj => by rw [hx _ (by omega)]; rfl) (fun j k hj hk => ?_) (fun j k d hj hd => ?_)
                · have : k = 0 := by omega
                  subst this
                  refine ⟨(hkk j 0 hj hk).1, ?_, rfl⟩
                  have := h0 j hj
                  simpa using this
                · rw [hx _ (by omega)] at hd
                  cases k with
                  | zero => cases hd; exact .v _ rfl
                  | succ k => simp at hd
            · cases h
          · cases h
        · cases h
      · cases h
    · cases h
  · cases h
/-! ### What a function gives -/
def resSem (tmps : Array Value) : ResultVar → Sem Value
  | .tmp t => pure (tmps.getD t undef)
  | .cell x t => do loadVar t (← asAddr (tmps.getD x undef))
theorem results_eq (fn : Func) (tmps : Array Value) : results fn tmps = (fn.results.mapM (resSem tmps) >>= fun vs => pure (if h : vs.size = 1 then vs[0] else .tuple vs)) := by
  have e : (fun x : ResultVar => (match x with
      | .tmp t => pure (tmps.getD t undef)
      | .cell a t => do loadVar t (← asAddr (tmps.getD a undef)) : Sem Value)) = resSem tmps := by
    funext rv; cases rv <;> rfl
  rw [← e]
  rfl

theorem resD_ok (hT : TbOk P tb) {s : S} {g : G} {a : Act} {w : World} (hr : RS w0 K0 tb s.t (look s.m) g a w) {rv : ResultVar} {d : D} (h : resD tb s rv = some d) :
    ∃ v, (resSem a.tmps rv).run P w = .ok v w ∧ VR g w d v := by
  cases rv with
  | tmp i =>
    simp only [resD, Option.some.injEq] at h
    subst h
    exact ⟨_, rfl, hr.ev (.tmp i)⟩
  | cell x T =>
    simp only [resD] at h
    split at h
    · rename_i ti i off hti hx
      split at h
      · rename_i c T' hl
        have hv := hr.ev (.tmp x)
        have hev : ev s.t (.tmp x) = .loc i off := hx
        rw [hev] at hv
        obtain ⟨hC, hv⟩ := hv.isLoc
        obtain ⟨_, _, _, cs, hh, hcs, hone, hvr⟩ := hr.bx i c T' hl
        obtain ⟨r, hrun, hres⟩ := run_load_cells (g := g) (w := w) hT hti (b := g.σ i) (off := off) (l := c.drop off) (fun j => cs.getD (off + j) undef) (fun j hj => by
            rw [cell_of_row w _ _ cs T' _ hh]
            have : off + j < cs.size := by simp at hj; omega
            simp [this]) (fun j e he => by
            rw [List.getElem?_drop] at he
            exact hvr _ e he) (fun j hj => hone _ (by simp at hj; omega)) h
        refine ⟨r, ?_, hres⟩
        have hv' : a.tmps.getD x undef = .pointer (some ⟨g.σ i, off, none⟩) := hv
        simp only [resSem, hv', Sem.run_bind, asAddr, Sem.run_pure, Result.andThen_ok]
        simpa [Instr.loadAt, Instr.sureAddr] using hrun
      · cases h
    · cases h

theorem resDs_ok (hT : TbOk P tb) {s : S} {g : G} {a : Act} {w : World} (hr : RS w0 K0 tb s.t (look s.m) g a w) : ∀ {l : List ResultVar} {ds : List D}, resDs tb s l = some ds →
    ∃ vs : List Value, (l.mapM (resSem a.tmps)).run P w = .ok vs w ∧ vs.length = ds.length ∧ ∀ (i : Nat) (d : D), ds[i]? = some d → VR g w d (vs.getD i undef)
  | [], ds, h => by cases h; exact ⟨[], by simp, rfl, fun i d h => by simp at h⟩
  | rv :: l, ds, h => by
    simp only [resDs] at h
    split at h
    · rename_i d ds' hd hds
      cases h
      obtain ⟨v, h1, h2⟩ := resD_ok hT hr hd
      obtain ⟨vs, h3, h4, h5⟩ := resDs_ok hT hr hds
      refine ⟨v :: vs, by simp only [List.mapM_cons, Sem.run_bind, h1, Result.andThen_ok, h3, Sem.run_pure], by simp [h4], fun i d hd => ?_⟩
      cases i with
      | zero => simp at hd; subst hd; simpa using h2
      | succ i => simpa using h5 i d (by simpa using hd)
    · cases h

/-- In the text's order; what was known still holds. -/
theorem chain_okX {ops : Array Oper} (hT : TbOk P tb) (hE : EnvAt P tb env w0 K0) {base : Nat} {g0 : G} {w00 : World} {Q : Exit → Act → World → Prop} : ∀ (l : List Oper) (j : Nat) (s s' : S), chain env tb ops base l j s = some s' →
    (∀ g a w, RS w0 K0 tb s'.t (look s'.m) g a w → (∀ i, g.C i → i < 2 * (base + 64 * j + 64 * l.length)) → Ext g0 g w00 w → Q .normal a w) →
    ∀ g a w, RS w0 K0 tb s.t (look s.m) g a w → (∀ i, g.C i → i < 2 * (base + 64 * j)) → Ext g0 g w00 w → wpList P ops Q l a w
  | [], j, s, s', h, hf, g, a, w, hr, hC, he => by
    cases h
    exact hf g a w hr (by simpa using hC) he
  | o :: l, j, s, s', h, hf, g, a, w, hr, hC, he => by
    simp only [chain] at h
    split at h
    · rename_i e hee
      obtain ⟨d, δ⟩ := e
      refine wpList_step fun K hK => ?_
      refine eff_ok hT hE hee hr (fun h => by have := hC _ h; omega) (fun h => by have := hC _ h; omega) (fun i h1 h2 h => by have := hC _ h; omega) (fun r g' w' hext hC' hv hrs => hK _ _ ?_)
      refine chain_okX hT hE l (j + 1) _ s' h (by rw [show base + 64 * (j + 1) + 64 * l.length = base + 64 * j + 64 * (o :: l).length by simp; omega]; exact hf) g' _ w' (RS.app hrs hv) (fun i hi => ?_) (he.trans hext)
      rcases hC' i hi with h1 | h1 | h1 | h1
      · have := hC i h1; omega
      · omega
      · omega
      · omega
    · cases h
def EndsX (w0 : W0) (K0 : Nat → Nat → Prop) (tb : Tb) (g0 : G) (w00 : World) (k : Xt → S → Option α) (r : α) : Exit → Act → World → Prop :=
  fun ex a w => ∃ x s g, ex = x.toExit ∧ RS w0 K0 tb s.t (look s.m) g a w ∧ (∀ i, g.C i → i < 2 * s.k) ∧ Ext g0 g w00 w ∧ k x s = some r
theorem exS_okX (hT : TbOk P tb) (hE : EnvAt P tb env w0 K0) {g0 : G} {w00 : World} : ∀ (c : Code) (s : S) (k : Xt → S → Option α) (r : α), exS env tb c s k = some r →
    ∀ (g : G) (a : Act) (w : World), RS w0 K0 tb s.t (look s.m) g a w → (∀ i, g.C i → i < 2 * s.k) → Ext g0 g w00 w → c.wp P (EndsX w0 K0 tb g0 w00 (fun x s => match x with | .goto _ => none | x => k x s) r) a w := by
  intro c
  induction c with
  | skip => intro s k r h g a w hr hC he; exact wp_skip ⟨.normal, s, g, rfl, hr, hC, he, by simpa only [exS] using h⟩
  | label l => intro s k r h g a w hr hC he; exact wp_label ⟨.normal, s, g, rfl, hr, hC, he, by simpa only [exS] using h⟩
  | ret => intro s k r h g a w hr hC he; exact wp_ret ⟨.ret, s, g, rfl, hr, hC, he, by simpa only [exS] using h⟩
  | region id ops draw =>
    intro s k r h g a w hr hC he
    cases draw with
    | true => simp only [exS] at h; cases h
    | false =>
      simp only [exS, force_eq] at h
      obtain ⟨sn, hch, hk⟩ := rgE_chain _ _ _ _ _ h
      have hC : ∀ i, g.C i → i < 2 * up id s.k := fun i hi => by have := hC i hi; have := le_up id s.k; omega
      exact wp_region_list (chain_okX (base := up id s.k) hT hE ops.toList 0 s sn hch (fun g a w hr hC he => ⟨.normal, { sn with k := up id s.k + 64 * ops.size }, g, rfl, hr, by simpa using hC, he, hk⟩) g a w hr (by simpa using hC) he)
  | seq x y ihx ihy =>
    intro s k r h g a w hr hC he
    simp only [exS] at h
    refine wp_seq (wp_mono (ihx s _ r h g a w hr hC he) fun ex a' w' ⟨x', s', g', hx, hr', hC', he', hk⟩ => ?_)
    subst hx
    cases x' with
    | normal => exact ihy s' k r hk g' a' w' hr' hC' he'
    | exit i => exact ⟨.exit i, s', g', rfl, hr', hC', he', hk⟩
    | goto i => cases hk
    | ret => exact ⟨.ret, s', g', rfl, hr', hC', he', hk⟩
  | _ => intro s k r h; simp only [exS] at h; cases h
theorem exS_ok (hT : TbOk P tb) (hE : EnvAt P tb env w0 K0) (c : Code) (s : S) (k : Xt → S → Option α) (r : α) (h : exS env tb c s k = some r) (g : G) (a : Act) (w : World) (hr : RS w0 K0 tb s.t (look s.m) g a w) (hC : ∀ i, g.C i → i < 2 * s.k) :
    c.wp P (Ends w0 K0 tb (fun x s => match x with | .goto _ => none | x => k x s) r) a w :=
  wp_mono (exS_okX hT hE c s k r h g a w hr hC (Ext.refl g w)) fun _ _ _ ⟨x, s', g', h1, h2, h3, _, h5⟩ => ⟨x, s', g', h1, h2, h3, h5⟩
theorem clSplit_eq : ∀ {l p r : List Oper} {o : Oper}, clSplit l = some (p, o, r) → l = p ++ o :: r ∧ isCl o = true
  | [], p, r, o, h => by cases h
  | x :: l, p, r, o, h => by
    unfold clSplit at h
    split at h
    · rename_i hx; cases h; exact ⟨rfl, hx⟩
    · split at h
      · rename_i p' q' r' hl
        cases h
        obtain ⟨h1, h2⟩ := clSplit_eq hl
        exact ⟨by rw [h1]; rfl, h2⟩
      · cases h
theorem clPat_eq {l p r : List Oper} {o : Oper} {draw : Bool} (h : clPat env l draw = some (p, o, r)) : draw = false ∧ l = p ++ o :: r ∧ isCl o = true := by
  unfold clPat at h
  split at h
  · exact ⟨rfl, clSplit_eq h⟩
  · cases h
theorem tupD_ok {g : G} {w : World} {ds : List D} {vs : List Value} (hl : vs.length = ds.length) (h : ∀ (i : Nat) (d : D), ds[i]? = some d → VR g w d (vs.getD i undef)) : VR g w (tupD ds) (if h : vs.toArray.size = 1 then vs.toArray[0] else .tuple vs.toArray) := by
  match ds, vs, hl with
  | [], [], _ => exact .tup [] _ rfl fun i d hd => by simp at hd
  | [d], [v], _ => simpa [tupD] using h 0 d rfl
  | d1 :: d2 :: ds, v1 :: v2 :: vs, hl =>
    have : ¬ (v1 :: v2 :: vs).toArray.size = 1 := by simp
    rw [dif_neg this]
    exact .tup _ _ (by simpa using hl) fun i d hd => by simpa using h i d hd
/-- A closure is gone into. -/
theorem inC_ok (hT : TbOk P tb) (hE : EnvAt P tb env w0 K0) {o : Oper} {s : S} {K1 : Nat} {k : S → Option α} {r : α} (h : inC env tb o s K1 k = some r) {g : G} {a : Act} {w : World} (hr : RS w0 K0 tb s.t (look s.m) g a w) (hC : ∀ i, g.C i → i < 2 * K1)
    {Kt : Act → World → Prop} {Q : Exit → Act → World → Prop} (hk : ∀ a' w' s2 g', RS w0 K0 tb s2.t (look s2.m) g' a' w' → (∀ i, g'.C i → i < 2 * s2.k) → k s2 = some r → Kt a' w') : o.wp P a w Kt Q := by
  unfold inC at h
  split at h
  · rename_i f args ats ho
    split at h
    · rename_i fid caps hf
      split at h
      · rename_i fn hfn
        split at h
        · rename_i c hc
          obtain ⟨gl, hgl, hEo, hno⟩ := hE
          obtain ⟨hP, hname⟩ := hEo.c fid fn hfn
          obtain ⟨cs, hv', hcs, hcc⟩ := (hf ▸ hr.ev f : VR g w (.clo fid caps) (a.eval f)).isClo
          have hn' : ¬ fn.name = "runtime.NumGoroutine" := by simpa using hname
          have hrun : (execOp a.eval o).run P w = .ok (.enter fid (args.map a.eval ++ cs)) w := by
            simp [execOp, ho, resolve, hv', Deferred.ofValue, invoke, callFunc, hP, hc, hn']
          unfold Oper.wp
          rw [hrun]
          show Calls P fid (args.map a.eval ++ cs) w _
          refine calls_of_wp hP hc ?_
          have hlen : (evL tb s.t ats.toList args.toList ++ caps).length = (args.map a.eval ++ cs).size := by simp [evL_len, hcs]
          generalize hrs : args.map a.eval ++ cs = rs at hlen ⊢
          generalize hxs : evL tb s.t ats.toList args.toList ++ caps = xs at h hlen
          have hx : ∀ i d, xs[i]? = some d → VR g w d (rs.getD i undef) := fun i d hd => by
            rw [← hxs] at hd
            rw [← hrs]
            by_cases hi : i < args.size
            · rw [List.getElem?_append_left (by simpa [evL_len] using hi)] at hd
              obtain ⟨x, hx, hv0⟩ := hr.evL _ _ i d hd
              have hx' : args[i]? = some x := by simpa using hx
              simp only [Array.getD_eq_getD_getElem?]
              rw [Array.getElem?_append_left (by simpa using hi), Array.getElem?_map, hx']
              exact hv0
            · rw [List.getElem?_append_right (by simp [evL_len]; omega)] at hd
              have := hcc _ d hd
              simp only [Array.getD_eq_getD_getElem?] at this ⊢
              rw [Array.getElem?_append_right (by simp; omega)]
              simpa [evL_len] using this
          have hr0 : RS w0 K0 tb (xs ++ List.replicate (fn.ntmps - xs.length) .no) (look s.m) g { tmps := rs ++ Array.replicate (fn.ntmps - rs.size) undef, defers := [] } w := { hr with
            len := by simp [hlen]
            tm := fun i d hd => by
              by_cases hi : i < xs.length
              · rw [List.getElem?_append_left hi] at hd
                have := hx i d hd
                have hi' : i < rs.size := by omega
                simp only [Array.getD_eq_getD_getElem?] at this ⊢
                rw [Array.getElem?_append_left hi']
                exact this
              · rw [List.getElem?_append_right (by omega), List.getElem?_replicate] at hd
                split at hd
                · cases hd; exact .no _
                · cases hd
            df := rfl }
          refine wp_mono (exS_okX hT ⟨gl, hgl, hEo, hno⟩ c _ _ r h g _ w hr0 hC (Ext.refl g w)) fun ex a' w' ⟨x, s', g', hx', hr', hC', he', hk'⟩ => ?_
          subst hx'
          have fin : (match resDs tb s' fn.results.toList with | some ds => k { (s.put o.dst (tupD ds)) with m := s'.m, k := s'.k } | none => none) = some r →
              a'.defers = [] ∧ ∃ v, (results fn a'.tmps).run P w' = .ok v w' ∧ Kt (a.put o.dst v) w' := fun hres => by
            split at hres
            · rename_i ds hds
              obtain ⟨vs, h1, h2, h3⟩ := resDs_ok hT hr' hds
              refine ⟨hr'.df, (if h : vs.toArray.size = 1 then vs.toArray[0] else .tuple vs.toArray), ?_, ?_⟩
              · rw [results_eq, Array.mapM_eq_mapM_toList, Sem.run_bind, Sem.run_map, h1]; rfl
              · have hcall : RS w0 K0 tb s.t (look s'.m) g' a w' := { hr' with
                  len := hr.len
                  tm := fun i d hd => (hr.tm i d hd).mono he'
                  df := hr.df }
                have := hcall.put o.dst (tupD_ok h2 h3)
                refine hk _ _ { (s.put o.dst (tupD ds)) with m := s'.m, k := s'.k } g' ?_ hC' hres
                cases hd : o.dst with
                | none => simp only [hd] at this; simp only [S.put]; exact this
                | some x => simp only [hd] at this; simp only [S.put]; exact this
            · cases hres
          cases x with
          | normal => exact fin hk'
          | ret => exact fin hk'
          | exit i => cases hk'
          | goto i => cases hk'
        · cases h
      · cases h
    · cases h
  · cases h
theorem wpList_cl {ops : Array Oper} {o : Oper} {l : List Oper} {a : Act} {w : World} {Q : Exit → Act → World → Prop} (ho : isCl o = true) (h : ∀ K : Act → World → Prop, (∀ a w, wpList P ops Q l a w → K a w) → o.wp P a w K Q) : wpList P ops Q (o :: l) a w := by
  refine wpList_step fun K hK => ?_
  have hg : o.guard = none := by
    unfold isCl at ho
    split at ho
    · assumption
    · cases ho
  rw [if_pos (by simp [Region.wanted, hg])]
  exact h K hK
/-- Some ahead of others. -/
theorem chain_okX_app {ops : Array Oper} (hT : TbOk P tb) (hE : EnvAt P tb env w0 K0) {base : Nat} {Q : Exit → Act → World → Prop} : ∀ (p l : List Oper) (j : Nat) (s s' : S), chain env tb ops base p j s = some s' →
    (∀ g a w, RS w0 K0 tb s'.t (look s'.m) g a w → (∀ i, g.C i → i < 2 * (base + 64 * j + 64 * p.length)) → wpList P ops Q l a w) →
    ∀ g a w, RS w0 K0 tb s.t (look s.m) g a w → (∀ i, g.C i → i < 2 * (base + 64 * j)) → wpList P ops Q (p ++ l) a w
  | [], l, j, s, s', h, hf, g, a, w, hr, hC => by
    cases h
    exact hf g a w hr (by simpa using hC)
  | o :: p, l, j, s, s', h, hf, g, a, w, hr, hC => by
    simp only [chain] at h
    split at h
    · rename_i e hee
      obtain ⟨d, δ⟩ := e
      refine wpList_step fun K hK => ?_
      refine eff_ok hT hE hee hr (fun h => by have := hC _ h; omega) (fun h => by have := hC _ h; omega) (fun i h1 h2 h => by have := hC _ h; omega) (fun r g' w' hext hC' hv hrs => hK _ _ ?_)
      refine chain_okX_app hT hE p l (j + 1) _ s' h (by rw [show base + 64 * (j + 1) + 64 * p.length = base + 64 * j + 64 * (o :: p).length by simp; omega]; exact hf) g' _ w' (RS.app hrs hv) (fun i hi => ?_)
      rcases hC' i hi with h1 | h1 | h1 | h1
      · have := hC i h1; omega
      · omega
      · omega
      · omega
    · cases h
theorem allE_ok {n : Nat} {p : Nat → Bool} {k : Nat → Option α} {r : α} (h : allE n p k = some r) : ∀ j, j < n → p j = true → k j = some r := by
  unfold allE at h
  split at h
  · rename_i hh
    cases h
    exact hh.choose_spec
  · cases h
theorem nxPat_eq {ol l : List Oper} {draw : Bool} {s : S} {o : Oper} {q i n : Nat} {sn : List Nat} (h : nxPat ol draw s = some (o, q, i, sn, n, l)) :
    draw = false ∧ ol = o :: l ∧ o.guard = none ∧ ∃ x T get ws, o.op = .next x false ∧ ev s.t x = .it q ∧ look s.m q = some (.iter i sn) ∧ look s.m i = some (.map T n get ws) := by
  unfold nxPat at h
  split at h
  · split at h
    · rename_i hg ho
      split at h
      · rename_i hx
        split at h
        · rename_i hq
          split at h
          · rename_i hi
            cases h
            exact ⟨rfl, rfl, hg, _, _, _, _, ho, hx, hq, hi⟩
          · cases h
        · cases h
      · cases h
    · cases h
  · cases h
theorem exE_ok (hmix : P.follows .mixedOrders = true) (hT : TbOk P tb) (hE : EnvAt P tb env w0 K0) (rd : Rd) (F : Nat) : ∀ (c : Code) (s : S) (k : Xt → S → Option α) (r : α), exE env tb rd F c s k = some r →
    ∀ (g : G) (a : Act) (w : World), RS w0 K0 tb s.t (look s.m) g a w → (∀ i, g.C i → i < 2 * s.k) → c.wp P (Ends w0 K0 tb k r) a w := by
  intro c
  induction c with
  | skip => intro s k r h g a w hr hC; exact wp_skip ⟨.normal, s, g, rfl, hr, hC, by simpa only [exE] using h⟩
  | label l => intro s k r h g a w hr hC; exact wp_label ⟨.normal, s, g, rfl, hr, hC, by simpa only [exE] using h⟩
  | exit i => intro s k r h g a w hr hC; exact wp_exit ⟨.exit i, s, g, rfl, hr, hC, by simpa only [exE] using h⟩
  | goto i => intro s k r h g a w hr hC; exact wp_goto ⟨.goto i, s, g, rfl, hr, hC, by simpa only [exE] using h⟩
  | ret => intro s k r h g a w hr hC; exact wp_ret ⟨.ret, s, g, rfl, hr, hC, by simpa only [exE] using h⟩
  | rangeFunc => intro s k r h; simp only [exE] at h; cases h
  | scope c ih =>
    intro s k r h g a w hr hC
    simp only [exE] at h
    have first := ih s _ r h g a w hr hC
    intro b kk cs
    obtain ⟨e, a1, w1, ⟨x1, s1, g1, hx, hr1, hC1, hk⟩, harr⟩ := first b (.inScope c :: kk) cs
    subst hx
    cases x1 with
    | normal => exact ⟨.normal, a1, w1, ⟨.normal, s1, g1, rfl, hr1, hC1, hk⟩, .head step_scope (Steps.trans harr (.one step_inScope))⟩
    | exit id => exact ⟨.exit id, a1, w1, ⟨.exit id, s1, g1, rfl, hr1, hC1, hk⟩, fun k' hk => .head step_scope (harr k' (by simp [exitTo, hk]))⟩
    | ret => exact ⟨_, a1, w1, ⟨.ret, s1, g1, rfl, hr1, hC1, hk⟩, .of_steps (.one step_scope) harr⟩
    | goto l =>
      dsimp only at hk
      split at hk
      · rename_i rest hf
        obtain ⟨e2, a2, w2, ⟨x2, s2, g2, hx2, hr2, hC2, hk2⟩, harr2⟩ := exS_ok hT hE rest s1 k r hk g1 a1 w1 hr1 hC1 b (.inScope c :: kk) cs
        subst hx2
        have go := harr (.code rest :: .inScope c :: kk) (by simp [gotoIn, hf])
        cases x2 with
        | normal => exact ⟨.normal, a2, w2, ⟨.normal, s2, g2, rfl, hr2, hC2, hk2⟩, .head step_scope (Steps.trans go (Steps.trans harr2 (.one step_inScope)))⟩
        | exit id => exact ⟨.exit id, a2, w2, ⟨.exit id, s2, g2, rfl, hr2, hC2, hk2⟩, fun k' hk => .head step_scope (Steps.trans go (harr2 k' (by simp [exitTo, hk])))⟩
        | goto _ => cases hk2
        | ret => exact ⟨_, a2, w2, ⟨.ret, s2, g2, rfl, hr2, hC2, hk2⟩, .of_steps (.head step_scope go) harr2⟩
      · rename_i hf
        exact ⟨.goto l, a1, w1, ⟨.goto l, s1, g1, rfl, hr1, hC1, hk⟩, fun k' hk => .head step_scope (harr k' (by simp [gotoIn, hf, hk]))⟩
  | refuse => intro s k r h; simp only [exE] at h; cases h
  | region id ops draw =>
    intro s k r h g a w hr hC
    simp only [exE, force_eq] at h
    split at h
    · rename_i c1 s1 l hrev
      split at h
      · obtain ⟨sn, hch, hk⟩ := rgE_chain _ _ _ _ _ h
        have hC : ∀ i, g.C i → i < 2 * up id s.k := fun i hi => by have := hC i hi; have := le_up id s.k; omega
        have hf : Fin w0 K0 tb sn (up id s.k + 64 * ops.size) (Ends w0 K0 tb k r .normal) := fun g a w hr hC => ⟨.normal, { sn with k := up id s.k + 64 * ops.size }, g, rfl, hr, hC, hk⟩
        have hlen : ∀ {n : Nat}, ops.toList.length = n → ops.size = n := fun h => by rw [← Array.length_toList, h]
        obtain ⟨hdraw, h2⟩ := revPat_len hrev
        have hsz := hlen h2
        have h3 := revPat_ok (ops := ops) (Q := Ends w0 K0 tb k r) hE hrev hr fun a' w' hr' =>
          chain_ok (base := up id s.k) hT hE l 2 s1 sn hch (by rw [show up id s.k + 64 * 2 + 64 * l.length = up id s.k + 64 * ops.size by omega]; exact hf) g a' w' hr' (fun i hi => by have := hC i hi; omega)
        subst hdraw
        exact wp_region_list h3
      · cases h
    · split at h
      · rename_i o q i seen n l hnx
        obtain ⟨hdraw, hl, hg, x, T, get, ws, ho, hx, hq, hi⟩ := nxPat_eq hnx
        subst hdraw
        have hC : ∀ i, g.C i → i < 2 * up id s.k := fun i hi => by have := hC i hi; have := le_up id s.k; omega
        have hsz : ops.size = 1 + l.length := by rw [← Array.length_toList, hl]; simp; omega
        have fin : ∀ sn, k .normal { sn with k := up id s.k + 64 * ops.size } = some r → Fin w0 K0 tb sn (up id s.k + 64 * ops.size) (Ends w0 K0 tb k r .normal) := fun sn hk g a w hr hC => ⟨.normal, { sn with k := up id s.k + 64 * ops.size }, g, rfl, hr, hC, hk⟩
        refine wp_region_list ?_
        rw [hl]
        refine wpList_step fun K hK => ?_
        rw [if_pos (by simp [Region.wanted, hg])]
        refine next_wp ho hx hq hi hr (fun hf => ?_) (fun hf j hj hjs rv w' hv hext hrs => ?_)
        · rw [hf] at h
          obtain ⟨sn, hch, hk⟩ := rgE_chain _ _ _ _ _ h
          have hp : RS w0 K0 tb (S.put s o.dst (.tup [.v (.bool false)])).t (look (S.put s o.dst (.tup [.v (.bool false)])).m) g (a.put o.dst (.tuple #[.bool false])) w := by
            have hv : VR g w (.tup [.v (.bool false)]) (.tuple #[.bool false]) := .tup _ _ rfl fun p d hd => by
              match p with
              | 0 => simp at hd; subst hd; exact .v _
              | p + 1 => simp at hd
            have := hr.put o.dst hv
            cases hd : o.dst with
            | none => simp only [hd] at this; simp only [S.put]; exact this
            | some x => simp only [hd] at this; simp only [S.put]; exact this
          exact hK _ _ (chain_ok (base := up id s.k) hT hE l 1 _ sn hch (by rw [show up id s.k + 64 * 1 + 64 * l.length = up id s.k + 64 * ops.size by omega]; exact fin sn hk) g _ w hp (fun i hi => by have := hC i hi; omega))
        · rw [hf] at h
          obtain ⟨sn, hch, hk⟩ := rgE_chain _ _ _ _ _ (allE_ok h j hj (by rw [hjs]; rfl))
          have hp : RS w0 K0 tb (S.put s o.dst (.tup [.v (.bool true), .no, .no])).t (look ((q, .iter i (j :: seen)) :: s.m)) g (a.put o.dst rv) w' := by
            have := hrs.put o.dst hv
            cases hd : o.dst with
            | none => simp only [hd] at this; simp only [S.put]; exact this
            | some x => simp only [hd] at this; simp only [S.put]; exact this
          exact hK _ _ (chain_ok (base := up id s.k) hT hE l 1 _ sn hch (by rw [show up id s.k + 64 * 1 + 64 * l.length = up id s.k + 64 * ops.size by omega]; exact fin sn hk) g _ w' hp (fun i hi => by have := hC i hi; omega))
      split at h
      rotate_left
      split at h
      · rename_i hd
        obtain ⟨sn, hch, hk⟩ := rgE_chain _ _ _ _ _ h
        have hC : ∀ i, g.C i → i < 2 * up id s.k := fun i hi => by have := hC i hi; have := le_up id s.k; omega
        have hf : Fin w0 K0 tb sn (up id s.k + 64 * ops.size) (Ends w0 K0 tb k r .normal) := fun g a w hr hC => ⟨.normal, { sn with k := up id s.k + 64 * ops.size }, g, rfl, hr, hC, hk⟩
        cases draw with
        | false => exact wp_region_list (chain_ok (base := up id s.k) hT hE ops.toList 0 s sn hch (by simpa using hf) g a w hr (by simpa using hC))
        | true => exact draw_ok (L := []) hmix hT hE (by simpa using hd) (fun k o T a _ _ ha => by cases ha) hch hf hr hC
      · rename_i hd
        cases draw with
        | false => cases hd
        | true =>
          obtain ⟨sn, L, I, hch, hk, _, _, hL, hI⟩ := rgL_chain _ _ _ _ _ _ _ h
          have hC : ∀ i, g.C i → i < 2 * up id s.k := fun i hi => by have := hC i hi; have := le_up id s.k; omega
          dsimp only at hk
          split at hk
          · rename_i hdL
            have hf : Fin w0 K0 tb sn (up id s.k + 64 * ops.size) (Ends w0 K0 tb k r .normal) := fun g a w hr hC => ⟨.normal, { sn with k := up id s.k + 64 * ops.size }, g, rfl, hr, hC, hk⟩
            exact draw_ok hmix hT hE hdL (refs_ok hch hL hI) hch hf hr hC
          · cases hk
      · rename_i p o l hcl
        obtain ⟨hdraw, hl, _⟩ := clPat_eq hcl
        subst hdraw
        obtain ⟨s1, hch1, h⟩ := rgE_chain _ _ _ _ _ h
        have hC : ∀ i, g.C i → i < 2 * up id s.k := fun i hi => by have := hC i hi; have := le_up id s.k; omega
        have hsz : ops.size = p.length + 1 + l.length := by rw [← Array.length_toList, hl]; simp; omega
        refine wp_region_list ?_
        rw [hl]
        refine chain_okX_app (base := up id s.k) hT hE p (o :: l) 0 s s1 hch1 (fun g a w hr hC => ?_) g a w hr (by simpa using hC)
        refine wpList_cl (clPat_eq hcl).2.2 (fun K hK => inC_ok hT hE h hr (fun i hi => by have := hC i hi; simp only [Nat.mul_zero] at this; omega) fun a' w' s2 g' hr' hC' hk' => hK _ _ ?_)
        obtain ⟨sn, hch2, hk2⟩ := rgE_chain _ _ _ _ _ hk'
        have hb := le_up id s2.k
        exact chain_ok (base := up id s2.k) hT hE l (p.length + 1) s2 sn hch2 (fun g a w hr hC => ⟨.normal, { sn with k := up id s2.k + 64 * ops.size }, g, rfl, hr, fun i hi => by have := hC i hi; simp only; omega, hk2⟩) g' a' w' hr' (fun i hi => by have := hC' i hi; omega)
  | seq x y ihx ihy =>
    intro s k r h g a w hr hC
    simp only [exE] at h
    refine wp_seq (wp_mono (ihx s _ r h g a w hr hC) fun ex a' w' ⟨x', s', g', hx, hr', hC', hk⟩ => ?_)
    subst hx
    cases x' with
    | normal => exact ihy s' k r hk g' a' w' hr' hC'
    | exit i => exact ⟨.exit i, s', g', rfl, hr', hC', hk⟩
    | goto i => exact ⟨.goto i, s', g', rfl, hr', hC', hk⟩
    | ret => exact ⟨.ret, s', g', rfl, hr', hC', hk⟩
  | cond c x y ihx ihy =>
    intro s k r h g a w hr hC
    simp only [exE] at h
    split at h
    · rename_i i
      split at h
      · rename_i b hb
        have hv := hr.ev (.tmp i)
        have hev : ev s.t (.tmp i) = .v (.bool b) := hb
        rw [hev] at hv
        cases b with
        | true =>
          simp only [S.set_self hb] at h
          exact wp_cond_true hv.val (ihx s k r h g a w hr hC)
        | false =>
          simp only [S.set_self hb] at h
          exact wp_cond_false hv.val (ihy s k r h g a w hr hC)
      · cases h
    · rename_i b
      cases b with
      | true => exact wp_cond_true rfl (ihx s k r h g a w hr hC)
      | false => exact wp_cond_false rfl (ihy s k r h g a w hr hC)
    · cases h
  | block id c ih =>
    intro s k r h g a w hr hC
    simp only [exE] at h
    refine wp_block (wp_mono (ih s _ r h g a w hr hC) fun ex a' w' ⟨x', s', g', hx, hr', hC', hk⟩ => ?_)
    subst hx
    cases x' with
    | normal => exact ⟨.normal, s', g', rfl, hr', hC', hk⟩
    | exit i =>
      simp only at hk
      simp only [Xt.toExit, Exit.inBlock]
      split at hk
      · rename_i hi
        rw [if_pos (Nat.eq_of_beq_eq_true hi)]
        exact ⟨.normal, s', g', rfl, hr', hC', hk⟩
      · rename_i hi
        rw [if_neg (fun e => by subst e; simp at hi)]
        exact ⟨.exit i, s', g', rfl, hr', hC', hk⟩
    | goto i => exact ⟨.goto i, s', g', rfl, hr', hC', hk⟩
    | ret => exact ⟨.ret, s', g', rfl, hr', hC', hk⟩
  | loop c ih =>
    intro s k r h g a w hr hC
    simp only [exE, force_eq] at h
    let cn : S → S := canon (up (minId c) s.k) (fgs rd c) (idsOf [] s.m)
    have h : loopE env tb rd F c cn k F (cn s) = some r := h
    refine wp_loop_rounds F ?_
    have hA : ∀ i b, w0.A i b → i < 2 * up (minId c) s.k := fun i b h => by have := hC i (hr.ar i b h).1; have := le_up (minId c) s.k; omega
    have key : ∀ (n : Nat) (s : S) (g : G) (a : Act) (w : World), loopE env tb rd F c cn k n s = some r → RS w0 K0 tb s.t (look s.m) g a w → (∀ i, g.C i → i < 2 * s.k) → Code.rounds P c (Ends w0 K0 tb k r) n a w := by
      intro n
      induction n with
      | zero => intro s g a w h; rw [loopE_zero] at h; cases h
      | succ n ihn =>
        intro s g a w h hr hC
        rw [rounds_succ]
        rw [loopE_succ] at h
        refine wp_mono (ih s _ r h g a w hr hC) fun ex a' w' ⟨x', s', g', hx, hr', hC', hk⟩ => ?_
        subst hx
        obtain ⟨g2, hr2, hC2, _⟩ := canon_ok hr' _ (fgs rd c) _ hA
        cases x' with
        | normal => exact ihn _ g2 a' w' hk hr2 hC2
        | exit i => exact ⟨.exit i, _, g2, rfl, hr2, hC2, hk⟩
        | goto i => exact ⟨.goto i, _, g2, rfl, hr2, hC2, hk⟩
        | ret => exact ⟨.ret, _, g2, rfl, hr2, hC2, hk⟩
    obtain ⟨g2, hr2, hC2, _⟩ := canon_ok hr (up (minId c) s.k) (fgs rd c) (idsOf [] s.m) hA
    exact key F _ g2 a w h hr2 hC2

theorem frzD_ok (_hT : TbOk P tb) {t : List D} {m : Mem} {g : G} {a : Act} {w : World} (hr : RS w0 K0 tb t (look m) g a w) {q : Nat} (hq : ¬ g.C q) {d d' : D} {m' : Mem} {r : Value} (hv : VR g w d r) (h : frzD tb q m d = (true, d', m')) :
    ∃ g', Ext g g' w w ∧ (∀ j, g'.C j → g.C j ∨ j = q) ∧ VR g' w d' r ∧ RS w0 K0 tb t (look m') g' a w := by
  have same : ∀ {d' : D} {m' : Mem}, VR g w d' r → ((true, d', m) : Bool × D × Mem) = (true, d', m') → ∃ g', Ext g g' w w ∧ (∀ j, g'.C j → g.C j ∨ j = q) ∧ VR g' w d' r ∧ RS w0 K0 tb t (look m') g' a w := fun hv h => by
    simp only [Prod.mk.injEq, true_and] at h
    subst h
    exact ⟨g, Ext.refl _ _, fun _ h => .inl h, hv, hr⟩
  unfold frzD at h
  split at h
  · rename_i sz i n
    split at h
    · rename_i c T hl
      split at h
      · rename_i ti hti
        split at h
        · rename_i hsz
          have hsz := Nat.eq_of_beq_eq_true hsz
          simp only [Prod.mk.injEq, Bool.and_eq_true, decide_eq_true_eq] at h
          obtain ⟨⟨h1, h2⟩, rfl, rfl⟩ := h
          exact hr.freeze hq hv hl hti hsz h1 (by simpa [maxLen] using h2)
        · cases h; exact same (.no _) rfl
      · cases h; exact same (.no _) rfl
    · cases h; exact same (.no _) rfl
  · cases h; exact same hv rfl
theorem frzL_ok (hT : TbOk P tb) {t : List D} {a : Act} {w : World} : ∀ (ds : List D) (q : Nat) (m : Mem) (g : G) (vs : List Value) (ds' : List D) (m' : Mem), RS w0 K0 tb t (look m) g a w → (∀ i, g.C i → i < q) → vs.length = ds.length → (∀ (i : Nat) d, ds[i]? = some d → VR g w d (vs.getD i undef)) →
    frzL tb q m ds = (true, ds', m') → ∃ g', Ext g g' w w ∧ ds'.length = ds.length ∧ (∀ (i : Nat) d, ds'[i]? = some d → VR g' w d (vs.getD i undef)) ∧ RS w0 K0 tb t (look m') g' a w
  | [], q, m, g, vs, ds', m', hr, _, _, _, h => by
    cases h; exact ⟨g, Ext.refl _ _, rfl, fun i d h => by simp at h, hr⟩
  | d :: r, q, m, g, v :: vs, ds', m', hr, hq, hl, hv, h => by
    unfold frzL at h
    generalize hX : frzD tb q m d = X at h
    obtain ⟨c, d1, m1⟩ := X
    simp only at h
    generalize hY : frzL tb (q + 2) m1 r = Y at h
    obtain ⟨c2, r1, m2⟩ := Y
    simp only [Prod.mk.injEq, Bool.and_eq_true] at h
    obtain ⟨⟨rfl, rfl⟩, rfl, rfl⟩ := h
    obtain ⟨g1, a1, a2, a3, a4⟩ := frzD_ok hT hr (fun h => by have := hq q h; omega) (by simpa using hv 0 d rfl) hX
    obtain ⟨g2, b1, b2, b3, b4⟩ := frzL_ok hT r (q + 2) m1 g1 vs r1 m2 a4 (fun i hi => by
      rcases a2 i hi with h | h
      · have := hq i h; omega
      · omega) (by simpa using hl) (fun i d hd => by simpa using (hv (i + 1) d (by simpa using hd)).mono a1) hY
    refine ⟨g2, a1.trans b1, by simp [b2], fun i d hd => ?_, b4⟩
    cases i with
    | zero => simp at hd; subst hd; simpa using a3.mono b1
    | succ i => simpa using b3 i d (by simpa using hd)
  | _ :: _, _, _, _, [], _, _, _, _, hl, _, _ => by simp at hl

theorem resV_ok (hT : TbOk P tb) {s : S} {g : G} {a : Act} {w : World} (hr : RS w0 K0 tb s.t (look s.m) g a w) (hC : ∀ i, g.C i → i < 2 * s.k) {fn : Func} {d : D} {m' : Mem} (h : resV tb s fn.results.toList = some (true, d, m')) :
    ∃ v g', (results fn a.tmps).run P w = .ok v w ∧ VR g' w d v ∧ RS w0 K0 tb s.t (look m') g' a w ∧ Ext g g' w w := by
  unfold resV at h
  have hrun : ∀ (vs : List Value), (fn.results.toList.mapM (resSem a.tmps)).run P w = .ok vs w →
      (results fn a.tmps).run P w = .ok (if h : vs.toArray.size = 1 then vs.toArray[0] else .tuple vs.toArray) w := fun vs hvs => by
    rw [results_eq, Array.mapM_eq_mapM_toList, Sem.run_bind, Sem.run_map, hvs]
    rfl
  split at h
  · rename_i ds hds
    generalize hX : frzL tb (2 * s.k + 1) s.m ds = X at h
    obtain ⟨c, ds', m1⟩ := X
    simp only [Option.some.injEq, Prod.mk.injEq] at h
    obtain ⟨rfl, rfl, rfl⟩ := h
    obtain ⟨vs, h1, h2, h3⟩ := resDs_ok hT hr hds
    obtain ⟨g', b1, b2, b3, b4⟩ := frzL_ok hT ds (2 * s.k + 1) s.m g vs ds' m1 hr (fun i hi => by have := hC i hi; omega) h2 h3 hX
    have h1' := hrun vs h1
    have hlen : vs.length = ds'.length := by omega
    by_cases h1l : vs.length = 1
    · match vs, ds', hlen, h1l with
      | [v], [d], _, _ => exact ⟨v, g', by rw [h1']; rfl, by simpa [tupD] using b3 0 d rfl, b4, b1⟩
    · refine ⟨.tuple vs.toArray, g', by rw [h1', dif_neg (by simpa using h1l)], ?_, b4, b1⟩
      have e : tupD ds' = .tup ds' := by
        match ds', hlen with
        | [], _ => rfl
        | [d], h => exact absurd h (by simpa using h1l)
        | d :: e :: r, _ => rfl
      rw [e]
      exact .tup ds' vs.toArray (by simpa using hlen) fun i d hd => by simpa using b3 i d hd
  · cases h
theorem result_ok (hT : TbOk P tb) {s : S} {g : G} {a : Act} {w : World} (hr : RS w0 K0 tb s.t (look s.m) g a w) (hC : ∀ i, g.C i → i < 2 * s.k) {fn : Func} {d : D} (h : resultD tb s fn.results.toList = some d) :
    ∃ v g' m', (results fn a.tmps).run P w = .ok v w ∧ KR g'.K w d v ∧ RS w0 K0 tb s.t (look m') g' a w := by
  unfold resultD at h
  split at h
  · rename_i c d' m' hres
    split at h
    · cases h
      obtain ⟨v, g', h1, h2, h3, _⟩ := resV_ok hT hr hC hres
      exact ⟨v, g', m', h1, kp2_ok h2, h3⟩
    · cases h
  · cases h

/-- What the evaluator gives is what the call returns, at arguments of which more may be known. -/
theorem calls_of (hmix : P.follows .mixedOrders = true) (hT : TbOk P tb) {gl : Gls} (hE : EnvOk P gl tb env) {f : FuncId} {fn : Func} (hf : P.funcs[f]? = some fn) {rd : Rd} {F : Nat} {args : List D} {d : D} (h : evalR env tb rd F fn args = some d)
    (K : Nat → Nat → Prop) (w : World) (rs : Array Value) (hgl : Gl gl K w) (hKw : ∀ b o, K b o → b < w.heap.size) (hsz : rs.size = args.length) (hrs : ∀ i d, args[i]? = some d → VR (G.pure K) w d (rs.getD i undef)) :
    Calls P f rs w fun e w' => ∃ r K', e = .returned r ∧ (∀ b o, K b o → K' b o) ∧ (∀ b o, K' b o → K b o ∨ w.heap.size ≤ b) ∧ (∀ b o, K' b o → b < w'.heap.size) ∧ KR K' w' d r ∧ Below w.heap.size w w' := by
  unfold evalR at h
  split at h
  · cases h
  · rename_i c hc
    refine calls_of_wp hf hc ?_
    let s : S := { t := args ++ List.replicate (fn.ntmps - args.length) .no, m := [], k := 0 }
    have hr : RS ⟨w, fun _ => False, fun _ _ => False⟩ K tb s.t (look s.m) (G.pure K) { tmps := rs ++ Array.replicate (fn.ntmps - rs.size) undef, defers := [] } w := {
      len := by simp [s, hsz]
      tm := fun i d hd => by
        simp only [s] at hd
        by_cases hi : i < args.length
        · rw [List.getElem?_append_left hi] at hd
          have := hrs i d hd
          have hi' : i < rs.size := by omega
          simp only [Array.getD_eq_getD_getElem?] at this ⊢
          rw [Array.getElem?_append_left hi']
          exact this
        · rw [List.getElem?_append_right (by omega), List.getElem?_replicate] at hd
          split at hd
          · cases hd; exact .no _
          · cases hd
      df := rfl
      bx := fun i c T h => by simp [s, look] at h
      bd := fun i j c T c' T' h => by simp [s, look] at h
      tk := fun q E h => by simp [s, look] at h
      td := fun q E i c T h => by simp [s, look] at h
      tt := fun q q' E E' b h => by simp [s, look] at h
      dd := fun i h => by simp [s, look] at h
      rm := RM.nil fun i b h => by simp [s, look] at h
      kb := hKw
      k0 := fun b o h => h
      k1 := fun b o h => .inl h
      kv := fun b o h => rfl
      ar := fun i b h => h.elim
      ext := Off.refl _ }
    refine wp_mono (exE_ok hmix hT ⟨gl, hgl, hE, fun _ => ⟨fun _ => id, hKw⟩⟩ rd F c s _ d h (G.pure K) _ w hr (fun i hi => hi.elim)) fun ex a' w' ⟨x, s', g', hx, hr', hC', hk⟩ => ?_
    subst hx
    have fin : resultD tb s' fn.results.toList = some d → a'.defers = [] ∧ ∃ v, (results fn a'.tmps).run P w' = .ok v w' ∧
        ∃ r K', Ending.returned v = .returned r ∧ (∀ b o, K b o → K' b o) ∧ (∀ b o, K' b o → K b o ∨ w.heap.size ≤ b) ∧ (∀ b o, K' b o → b < w'.heap.size) ∧ KR K' w' d r ∧ Below w.heap.size w w' := fun hres => by
      obtain ⟨v, g', m', h1, h2, hr'⟩ := result_ok hT hr' hC' hres
      exact ⟨hr'.df, v, h1, v, g'.K, rfl, hr'.k0, fun b o h => (hr'.k1 b o h).imp id fun h => h.resolve_left id, hr'.kb, h2, ⟨hr'.ext.os, hr'.ext.tape, hr'.ext.output, hr'.ext.size, fun k hk => hr'.ext.block k hk id⟩⟩
    cases x with
    | normal => exact fin hk
    | ret => exact fin hk
    | exit i => cases hk
    | goto i => cases hk
/-- **What the evaluator gives is what the call returns.** -/
theorem spec_of (hmix : P.follows .mixedOrders = true) (hT : TbOk P tb) {gl : Gls} (hE : EnvOk P gl tb env) {f : FuncId} {fn : Func} (hf : P.funcs[f]? = some fn) {rd : Rd} {F : Nat} {args : List D} {d : D} (h : evalR env tb rd F fn args = some d) : Spec P gl f args d :=
  fun K w rs hgl hKw hsz hrs => calls_of hmix hT hE hf h K w rs hgl hKw hsz fun i d hd => .kr _ _ (hrs i d hd)
/-! ### A function that is handed places -/
theorem stripT_ok {g g' : G} {w w' : World} (hC : ∀ i, g.C i → g'.C i ∧ g'.σ i = g.σ i) (hK : ∀ b o, g.K b o → g'.K b o ∧ w'.cell? ⟨b, o, none⟩ = w.cell? ⟨b, o, none⟩) : ∀ (f : Nat) (d : D) (r : Value), VR g w d r → VR g' w' (stripT f d) r
  | 0, _, r, _ => .no r
  | f + 1, d, r, h => by
    have ih := stripT_ok hC hK f
    cases d with
    | sl sz n get p => exact .kr _ _ (h.isSl.1.mono hK)
    | agg l =>
      obtain ⟨cs, rfl, hl, h1, hc⟩ := h.isAgg
      refine .agg _ cs (by simpa using hl) (fun i hi => h1 i (by simpa using hi)) (fun i d hd => ?_)
      simp only [List.getElem?_map, Option.map_eq_some_iff] at hd
      obtain ⟨d', hd', rfl⟩ := hd
      exact ih _ _ (hc i d' hd')
    | tup l =>
      obtain ⟨cs, rfl, hl, hc⟩ := h.isTup
      refine .tup _ cs (by simpa using hl) (fun i d hd => ?_)
      simp only [List.getElem?_map, Option.map_eq_some_iff] at hd
      obtain ⟨d', hd', rfl⟩ := hd
      exact ih _ _ (hc i d' hd')
    | clo j l =>
      obtain ⟨cs, rfl, hl, hc⟩ := h.isClo
      refine .clo j _ cs (by simpa using hl) (fun i d hd => ?_)
      simp only [List.getElem?_map, Option.map_eq_some_iff] at hd
      obtain ⟨d', hd', rfl⟩ := hd
      exact ih _ _ (hc i d' hd')
    | v x => cases h with | kr _ _ h => exact .kr _ _ (h.mono hK)
    | ref l => exact .kr _ _ (h.isRef.mono hK)
    | loc i o =>
      obtain ⟨h1, rfl⟩ := h.isLoc
      obtain ⟨h2, h3⟩ := hC i h1
      rw [← h3]; exact .loc i o h2
    | slm sz i off n =>
      obtain ⟨h1, rfl⟩ := h.isSlm
      obtain ⟨h2, h3⟩ := hC i h1
      rw [← h3]; exact .slm sz i off n h2
    | mp i =>
      obtain ⟨h1, rfl⟩ := h.isMp
      obtain ⟨h2, h3⟩ := hC i h1
      rw [← h3]; exact .mp i h2
    | ifc T d =>
      obtain ⟨x, rfl, hx⟩ := h.isIfc
      exact .ifc _ _ _ (ih _ _ hx)
    | _ => exact .no r
theorem argOf_some {i : Nat} : ∀ {l : List D} {j n : Nat}, argOf i n l = some j → n ≤ j ∧ l[j - n]? = some (.loc i 0)
  | [], j, n, h => by cases h
  | d :: r, j, n, h => by
    unfold argOf at h
    split at h
    · rename_i k
      split at h
      · rename_i hb
        cases h
        have := Nat.eq_of_beq_eq_true hb
        subst this
        exact ⟨Nat.le_refl _, by simp⟩
      · obtain ⟨h1, h2⟩ := argOf_some h
        exact ⟨by omega, by rw [show j - n = (j - (n + 1)) + 1 by omega]; simpa using h2⟩
    · obtain ⟨h1, h2⟩ := argOf_some h
      exact ⟨by omega, by rw [show j - n = (j - (n + 1)) + 1 by omega]; simpa using h2⟩
theorem outR_ok {t : List D} {m : Mem} {g : G} {a : Act} {w : World} (hr : RS w0 K0 tb t (look m) g a w) {asD : List D} {rs : List Value} (hA : ∀ (j i : Nat), asD[j]? = some (D.loc i 0) → rs[j]? = some (Value.pointer (some ⟨g.σ i, 0, none⟩))) : ∀ f, OutOk tb m g w rs (outR m asD f)
  | 0 => fun d r _ => ⟨.kr _ _ (.no _), fun i hi => by simp [outR] at hi⟩
  | f + 1 => by
    have ih : OutOk tb m g w rs (outR m asD f) := outR_ok hr hA f
    have inn : OutOk tb m g w rs (outD m (f + 1)) := outD_ok hr (f + 1)
    intro d r hv
    cases d with
    | loc i off =>
      cases off with
      | succ o => exact inn _ r hv
      | zero =>
        simp only [outR]
        cases ha : argOf i 0 asD with
        | none => exact inn _ r hv
        | some j =>
          obtain ⟨_, h2⟩ := argOf_some ha
          obtain ⟨_, rfl⟩ := hv.isLoc
          exact ⟨.argp j _ (hA j i (by simpa using h2)), fun i hi => by simp at hi⟩
    | tup l =>
      obtain ⟨cs, rfl, hs, hc⟩ := hv.isTup
      obtain ⟨x1, x2, x3⟩ := outL_ok ih l cs.toList (by simpa using hs) (fun j d hd => by simpa using hc j d hd)
      obtain ⟨y1, Ls, y2, y3⟩ := x1.idx
      refine ⟨?_, x2⟩
      show XR tb g.K w rs (.tup (outL (outR m asD f) l).1) _ ((outL (outR m asD f) l).2.flatMap (blk m g))
      rw [y3]
      exact .tup _ cs Ls (by rw [x3]; exact hs) (fun j d hd => by simpa using y2 j d hd)
    | agg l =>
      obtain ⟨cs, rfl, hs, h1, hc⟩ := hv.isAgg
      obtain ⟨x1, x2, x3⟩ := outL_ok ih l cs.toList (by simpa using hs) (fun j d hd => by simpa using hc j d hd)
      obtain ⟨y1, Ls, y2, y3⟩ := x1.idx
      refine ⟨?_, x2⟩
      show XR tb g.K w rs (.agg (outL (outR m asD f) l).1) _ ((outL (outR m asD f) l).2.flatMap (blk m g))
      rw [y3]
      exact .agg _ cs Ls (by rw [x3]; exact hs) (fun j hj => h1 j (by rw [← x3]; exact hj)) (fun j d hd => by simpa using y2 j d hd)
    | _ => exact inn _ r hv

/-- **A function that is handed places: what the evaluator gives is what the call returns.** -/
theorem specX_of (hmix : P.follows .mixedOrders = true) (hT : TbOk P tb) {gl : Gls} (hE : EnvOk P gl tb env) (hno : env.r = none) {f : FuncId} {fn : Func} (hf : P.funcs[f]? = some fn) {F : Nat} {args : List D} {d : D} {ys : List D} (h : evalX env tb F fn args = some (d, ys)) : SpecX P gl tb f args d ys := by
  intro K w rs L hgl hKw hx hnd
  unfold evalX at h
  have hle := inL_le (inD_le 6) args 0
  have hr0 : RS ⟨w, fun b => b ∈ L, fun _ _ => False⟩ K tb [] (look []) (G.pure K) { tmps := #[], defers := [] } w := {
    len := rfl
    tm := fun i d hd => by simp at hd
    df := rfl
    bx := fun i c T h => by simp [look] at h
    bd := fun i j c T c' T' h => by simp [look] at h
    tk := fun q E h => by simp [look] at h
    td := fun q E i c T h => by simp [look] at h
    tt := fun q q' E E' b h => by simp [look] at h
    dd := fun i h => by simp [look] at h
    rm := RM.nil fun i b h => by simp [look] at h
    kb := hKw
    k0 := fun b o h => h
    k1 := fun b o h => .inl h
    kv := fun b o h => rfl
    ar := fun i b h => h.elim
    ext := Off.refl _ }
  obtain ⟨g1, T1, e1, v1⟩ := inL_ok (fun _ _ _ _ => trivial) (inD_ok (as := []) 6) args 0 rs L [] (G.pure K) trivial hx hr0 hnd (fun b hb => ⟨.inl hb, fun i c T h => by simp [look] at h, fun q E h => by simp [look] at h, fun i x h => by simp [look] at h⟩) (fun i _ _ h => h)
  generalize inL (inD 6) 0 args = X at h T1 e1 v1 hle
  obtain ⟨as, m, k⟩ := X
  simp only at h T1 e1 v1
  obtain ⟨a1, a2, a3, a4, _⟩ := T1
  rw [List.append_nil] at a4
  split at h
  · rename_i c as' m' k' hc hpe
    cases hpe
    have hlen : rs.length = as.length := by rw [e1]; exact hx.idx.1
    refine calls_of_wp hf hc ?_
    let wA : W0 := ⟨w, fun b => b ∈ L, fun i b => g1.C i ∧ g1.σ i = b⟩
    let s : S := { t := as ++ List.replicate (fn.ntmps - as.length) .no, m := m, k := 2 * k }
    have hr : RS wA K tb s.t (look s.m) g1 { tmps := rs.toArray ++ Array.replicate (fn.ntmps - rs.toArray.size) undef, defers := [] } w := {
      len := by simp [s, hlen]
      tm := fun i d hd => by
        simp only [s] at hd
        by_cases hi : i < as.length
        · rw [List.getElem?_append_left hi] at hd
          have := v1 i d hd
          have hi' : i < rs.toArray.size := by simp; omega
          simp only [Array.getD_eq_getD_getElem?] 
          rw [Array.getElem?_append_left hi']
          simpa using this
        · rw [List.getElem?_append_right (by omega), List.getElem?_replicate] at hd
          split at hd
          · cases hd; exact .no _
          · cases hd
      df := rfl
      bx := a4.bx
      bd := a4.bd
      tk := a4.tk
      td := a4.td
      tt := a4.tt
      dd := a4.dd
      rm := ⟨a4.rm.mp, a4.rm.md, a4.rm.it, a4.rm.id, a4.rm.st⟩
      kb := a4.kb
      k0 := a4.k0
      k1 := a4.k1
      kv := a4.kv
      ar := fun i b h => h
      ext := ⟨a4.ext.os, a4.ext.tape, a4.ext.output, a4.ext.size, a4.ext.block⟩ }
    refine wp_mono (exE_ok hmix hT ⟨gl, hgl, hE, fun h => by rw [hno] at h; cases h⟩ (rdsF fn) F c s _ (d, ys) h g1 _ w hr (fun i hi => by
      rcases a3 i hi with h | h
      · exact h.elim
      · show i < 2 * (2 * k); omega)) fun ex a' w' ⟨x, s', g', hxx, hr', hC', hk⟩ => ?_
    subst hxx
    have fin : (match resV tb s' fn.results.toList with
        | none => none
        | some (c, d, m) => match c with
          | false => none
          | true => match outL (outD m 6) (as.map (stripT 6)), outR m as 7 d with
            | (ys, u), (d', v) => match onceI (v ++ u) with
              | true => some (d', ys)
              | false => none) = some (d, ys) → a'.defers = [] ∧ ∃ v, (results fn a'.tmps).run P w' = .ok v w' ∧
        ∃ r K' L', Ending.returned v = .returned r ∧ (∀ b o, K b o → K' b o ∧ w'.cell? ⟨b, o, none⟩ = w.cell? ⟨b, o, none⟩) ∧ (∀ b o, K' b o → K b o ∨ b ∈ L ∨ w.heap.size ≤ b) ∧ (∀ b o, K' b o → b < w'.heap.size) ∧
          XRs tb K' w' rs (d :: ys) (r :: rs) L' ∧ L'.Nodup ∧ (∀ b ∈ L', b ∈ L ∨ w.heap.size ≤ b) ∧
          w'.os = w.os ∧ w'.tape = w.tape ∧ w'.output = w.output ∧ w.heap.size ≤ w'.heap.size ∧ ∀ k, k < w.heap.size → k ∉ L → w'.heap[k]? = w.heap[k]? := fun hres => by
      split at hres
      · cases hres
      rename_i c0 d0 m0 hd0
      cases c0 with
      | false => cases hres
      | true =>
        simp only at hres
        obtain ⟨v, g', hv1, hv2, hr', _⟩ := resV_ok hT hr' hC' hd0
        have hCσ : ∀ i, g1.C i → g'.C i ∧ g'.σ i = g1.σ i := fun i hi => hr'.ar i _ ⟨hi, rfl⟩
        have hKK : ∀ b o, K b o → g'.K b o ∧ w'.cell? ⟨b, o, none⟩ = w.cell? ⟨b, o, none⟩ := fun b o h => ⟨hr'.k0 b o h, hr'.kv b o h⟩
        obtain ⟨x1, x2, x3⟩ := outL_ok (as := rs) (outD_ok hr' 6) (as.map (stripT 6)) rs (by simpa using hlen) (fun i d hd => by
          simp only [List.getElem?_map, Option.map_eq_some_iff] at hd
          obtain ⟨d', hd', rfl⟩ := hd
          exact stripT_ok hCσ (by rw [a2]; exact hKK) 6 _ _ (v1 i d' hd'))
        obtain ⟨y1, y2⟩ := outR_ok hr' (asD := as) (rs := rs) (fun j i hj => by
          have hv := v1 j _ hj
          obtain ⟨h1, h2⟩ := hv.isLoc
          have hlt : j < rs.length := by rw [hlen]; exact (List.getElem?_eq_some_iff.1 hj).1
          rw [(hCσ i h1).2, ← h2]
          simp [hlt]) 7 d0 v hv2
        generalize outL (outD m0 6) (as.map (stripT 6)) = Y at hres x1 x2
        obtain ⟨ys', u⟩ := Y
        generalize outR m0 as 7 d0 = Z at hres y1 y2
        obtain ⟨d', v'⟩ := Z
        simp only at hres x1 x2 y1 y2
        split at hres
        · rename_i hon
          cases hres
          have hflat := flat_nodup hr' (onceI_nodup hon)
          rw [List.flatMap_append] at hflat
          refine ⟨hr'.df, v, hv1, v, g'.K, _, rfl, hKK, fun b o h => hr'.k1 b o h, hr'.kb, .cons y1 x1, hflat, fun b hb => ?_, hr'.ext.os, hr'.ext.tape, hr'.ext.output, hr'.ext.size, fun k hk hkL => hr'.ext.block k hk hkL⟩
          rcases List.mem_append.1 hb with h | h
          · obtain ⟨i, _, h⟩ := List.mem_flatMap.1 h
            exact blk_mine hr' h
          · obtain ⟨i, _, h⟩ := List.mem_flatMap.1 h
            exact blk_mine hr' h
        · cases hres
    cases x with
    | normal => exact fin hk
    | ret => exact fin hk
    | exit i => cases hk
    | goto i => cases hk
  · cases h
end

/-- The j-th loop of a function, n rounds to go, its head's state as at the beginning but for l. -/
noncomputable def lp (env : Env) (tb : Tb) (F : Nat) (fn : Func) (args : List D) (j n : Nat) (l : List (Nat × D)) : Option D :=
  loopE env tb (rdsF fn) F (lpC (bodyF fn) j) (canon (up (minId (lpC (bodyF fn) j)) (lpS env tb fn args j).k) (fgs (rdsF fn) (lpC (bodyF fn) j)) (idsOf [] (lpS env tb fn args j).m))
    (lpK env tb (rdsF fn) F (bodyF fn) j (endK tb fn)) n
    ((canon (up (minId (lpC (bodyF fn) j)) (lpS env tb fn args j).k) (fgs (rdsF fn) (lpC (bodyF fn) j)) (idsOf [] (lpS env tb fn args j).m) (lpS env tb fn args j)).setT l)
/-- The same, with some of the memory's entries told. -/
def setB : List (Nat × Bx) → Nat → Bx → Bx
  | [], _, b => b
  | (i, b') :: r, j, b => match Nat.beq i j with | true => b' | false => setB r j b
def setM : Mem → List (Nat × Bx) → Mem
  | [], _ => []
  | (i, b) :: r, l => (i, setB l i b) :: setM r l
noncomputable def lpM (env : Env) (tb : Tb) (F : Nat) (fn : Func) (args : List D) (j n : Nat) (l : List (Nat × D)) (lm : List (Nat × Bx)) : Option D :=
  loopE env tb (rdsF fn) F (lpC (bodyF fn) j) (canon (up (minId (lpC (bodyF fn) j)) (lpS env tb fn args j).k) (fgs (rdsF fn) (lpC (bodyF fn) j)) (idsOf [] (lpS env tb fn args j).m))
    (lpK env tb (rdsF fn) F (bodyF fn) j (endK tb fn)) n
    (match (canon (up (minId (lpC (bodyF fn) j)) (lpS env tb fn args j).k) (fgs (rdsF fn) (lpC (bodyF fn) j)) (idsOf [] (lpS env tb fn args j).m) (lpS env tb fn args j)).setT l with
      | s => { s with m := setM s.m lm })
end Go.Ev
