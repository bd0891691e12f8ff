/- What each operation comes to, by the evaluator: the theorem over all operations but pick. -/
import Derived.Test.YtflbjjpcjeinlaaGreatDoorEvy
import Derived.Lib.ConvBytes
import Derived.Lib.AtoiErrMem
namespace Go.Ev
open Go Go.RowKit

theorem map_some_pair {α β : Type} {o : Option α} {f : α → β} {b : β} (h : o.map f = some b) : ∃ x, o = some x ∧ f x = b := by simpa [Option.map_eq_some_iff] using h

theorem rep_get (sz : Nat) (z : List D) (hz : z.length = sz) : ∀ (n j : Nat), (repD z n).length = n * sz ∧ (j < n * sz → (repD z n)[j]? = z[j % sz]?)
  | 0, j => by simp [repD]
  | n + 1, j => by
    obtain ⟨h1, h2⟩ := rep_get sz z hz n (j - sz)
    refine ⟨by simp [repD, h1, hz, Nat.add_mul]; omega, fun hj => ?_⟩
    simp only [repD]
    by_cases hlt : j < sz
    · rw [List.getElem?_append_left (by omega), Nat.mod_eq_of_lt hlt]
    · rw [List.getElem?_append_right (by omega), hz, h2 (by rw [Nat.add_mul] at hj; omega), ← Nat.mod_eq_sub_mod (by omega)]

section
variable {P : Program} {w0 : W0} {K0 : Nat → Nat → Prop} {tb : Tb} {t : List D} {m : Mem} {g : G} {a : Act} {w : World} {env : Env}

theorem getD_congr {c : Array Value} {i : Nat} {v : Value} (h : c[i]? = some v) : c.getD i undef = v := by simp [h]

theorem bnd_ok {i : Int} {n : Nat} (h : bnd i n = true) : 0 ≤ i ∧ i < (n : Int) := by
  simp only [bnd, Bool.and_eq_true, decide_eq_true_eq] at h
  exact h

/-- A part of an aggregate. -/
theorem run_part_of (hT : TbOk P tb) {T : TypeId} {ti : Ti} (ht : tb T = some ti) {c : List D} {cs : Array Value} (hcs : cs.size = c.length) (hone : ∀ i, i < c.length → oneC (cs.getD i undef) = true)
    (hvr : ∀ (i : Nat) (d : D), c[i]? = some d → VR g w d (cs.getD i undef)) {off : Nat} {d : D} (h : ofCells ti.d.isAgg ti.size (c.drop off) = some d) : ∃ r, (part T cs off).run P w = .ok r w ∧ VR g w d r := by
  obtain ⟨i, dd, z, hi, hu, hsize, _, _, _, _, hdd, _⟩ := hT.info ht
  have hagg := run_isAgg hu w
  rw [descOk_agg hdd] at hagg
  have := ofCells_ok (g := g) (w := w) (fun j => cs.getD (off + j) undef) (fun j e he => by rw [List.getElem?_drop] at he; exact hvr _ e he) (fun j hj => hone _ (by simp at hj; omega)) h
  cases ha : ti.d.isAgg with
  | true =>
    rw [ha] at hagg
    obtain ⟨hle, cs', hcs', hget, hv⟩ := this.1 ha
    simp only [List.length_drop] at hle
    refine ⟨.agg cs', ?_, hv⟩
    have he : cs.extract off (off + ti.size) = cs' := by
      apply Array.ext
      · simp; omega
      · intro j h1 h2
        have h3 := hget j (by omega)
        rw [Array.getElem?_eq_getElem h2, Option.some.injEq] at h3
        rw [h3]
        simp at h1
        rw [Array.getElem_extract]
        simp [show off + j < cs.size by omega]
    simp [part, hagg, run_sizeOf' hi, hsize, he]
  | false =>
    rw [ha] at hagg
    obtain ⟨hpos, hv⟩ := this.2 ha
    simp only [List.length_drop] at hpos
    have hlt : off < cs.size := by omega
    refine ⟨cs[off], by simp [part, hagg, hlt], ?_⟩
    simpa [hlt] using hv

theorem run_bounds (isSlice : Bool) (len cap : Nat) {low high : Option Value} {l h : Int} (hlow : (low = none ∧ l = 0) ∨ ∃ k, low = some (.int k l)) (hhigh : (high = none ∧ h = len) ∨ ∃ k, high = some (.int k h))
    (h0 : 0 ≤ l) (h1 : l ≤ h) (h2 : h ≤ cap) : (Instr.sliceBounds isSlice len cap low high none).run P w = .ok (l.toNat, h.toNat, cap) w := by
  have hh : (0 ≤ h ∧ h ≤ (cap : Int)) := ⟨by omega, h2⟩
  have hl : (0 ≤ l ∧ l ≤ ((h.toNat : Nat) : Int)) := ⟨h0, by omega⟩
  rcases hlow with ⟨rfl, rfl⟩ | ⟨k, rfl⟩ <;> rcases hhigh with ⟨rfl, rfl⟩ | ⟨k', rfl⟩ <;> simp [Instr.sliceBounds, Instr.sliceBound, asIntOf, hh, hl] <;> (try omega) <;> (intro hc; omega)

/-- A bound as the evaluator reads it. -/
def bndOf (t : List D) (dflt : Int) (x : Option Operand) : Option Int := match x with | none => some dflt | some y => match ev t y with | .v (.int _ n) => some n | _ => none

theorem bndOf_ok (hr : RS w0 K0 tb t (look m) g a w) {dflt l : Int} {x : Option Operand} (h : (match x with | none => some dflt | some y => match ev t y with | .v (.int _ n) => some n | _ => none) = some l) :
    (x.map a.eval = none ∧ l = dflt) ∨ ∃ k, x.map a.eval = some (.int k l) := by
  cases x with
  | none => cases h; exact .inl ⟨rfl, rfl⟩
  | some y =>
    simp only at h
    split at h
    · rename_i k n hy
      cases h
      have hv := hr.ev y
      rw [hy] at hv
      exact .inr ⟨k, by simp [hv.val]⟩
    · cases h

theorem RS.gl {lk : Nat → Option Bx} (h : RS w0 K0 tb t lk g a w) {gl : Gls} (hg : Gl gl K0 w0.w) : Gl gl g.K w := fun x hx => by
  obtain ⟨h1, v, h2, h3⟩ := hg x hx
  refine ⟨h.k0 _ _ h1, v, ?_, h3⟩
  rw [h.kv _ _ h1]; exact h2
theorem one_arg {xs : List Operand} {d : D} (h : xs.map (ev t) = [d]) : ∃ x, xs = [x] ∧ ev t x = d := by
  match xs, h with
  | [x], h => simpa using h
theorem two_args {xs : List Operand} {d e : D} (h : xs.map (ev t) = [d, e]) : ∃ x y, xs = [x, y] ∧ ev t x = d ∧ ev t y = e := by
  match xs, h with
  | [x, y], h => exact ⟨x, y, rfl, by simpa using h⟩

theorem evBuiltin_ok (hT : TbOk P tb) {id idt fr : Nat} {o : Oper} {b : Builtin} {args : Array Operand} {ats : Array TypeId} {d : D} {δ : Mem} (h : evBuiltin tb idt b ats (args.toList.map (ev t)) m = some (true, d, δ))
    (ho : o.op = .call ⟨.builtin b, args, ats⟩) (hr : RS w0 K0 tb t (look m) g a w) (hit : ¬ g.C idt) {K : Act → World → Prop} {Q : Exit → Act → World → Prop} (hk : Kont w0 K0 tb t m g a w id idt fr o.dst d δ K) : o.wp P a w K Q := by
  have hargs : ∀ {l : List D}, args.toList.map (ev t) = l → ∃ xs : List Operand, args = xs.toArray ∧ xs.map (ev t) = l := fun {l} hl => ⟨args.toList, by simp, hl⟩
  have hats : ∀ {l : List TypeId}, ats.toList = l → ats = l.toArray := fun {l} hl => by rw [← hl]
  unfold evBuiltin at h
  split at h
  · -- len of a string
    rename_i s T hb1 hb2
    obtain ⟨xs, rfl, hx⟩ := hargs hb1
    cases hats hb2
    split at h
    · rename_i hTs
      simp only [Option.some.injEq, Prod.mk.injEq, true_and] at h
      obtain ⟨rfl, rfl⟩ := h
      obtain ⟨x, rfl, hx'⟩ := one_arg hx
      have hv := hr.ev x
      rw [hx'] at hv
      obtain ⟨_, sd, _, _, hsu, _, _, _, _, _, hsd, _⟩ := hT.info hTs
      have := descOk_str hsd
      subst this
      exact wp_val (r := .int .i64 s.size) (w' := w) (by simp [execOp, ho, resolve, invoke, builtin, hv.val, run_len_string w T o.type s hsu, goInt]) (hk.same hr (.v _))
    · cases h
  · -- len of a slice
    rename_i sz n get p T hb1 hb2
    obtain ⟨xs, rfl, hx⟩ := hargs hb1
    cases hats hb2
    split at h
    · rename_i e _ _ _ _ hTs
      simp only [Option.some.injEq, Prod.mk.injEq, true_and] at h
      obtain ⟨rfl, rfl⟩ := h
      obtain ⟨x, rfl, hx'⟩ := one_arg hx
      have hv := hr.ev x
      rw [hx'] at hv
      obtain ⟨_, sd, _, _, hsu, _, _, _, _, _, hsd, _⟩ := hT.info hTs
      have := descOk_sl hsd
      subst this
      obtain ⟨ad, cap, hvx⟩ : ∃ ad cap, a.eval x = .slice ad n cap := by
        have hv' := hv.isSl.1
        generalize a.eval x = vx at *
        cases hv' <;> exact ⟨_, _, rfl⟩
      exact wp_val (r := .int .i64 n) (w' := w) (by simp [execOp, ho, resolve, invoke, builtin, hvx, Builtin.len_, run_underlying hsu, goInt]) (hk.same hr (.v _))
    · cases h
  · -- max
    rename_i k x k' y hb1
    obtain ⟨xs, rfl, hx⟩ := hargs hb1
    split at h
    · rename_i hkk
      simp only [Option.some.injEq, Prod.mk.injEq, true_and] at h
      obtain ⟨rfl, rfl⟩ := h
      obtain ⟨u, v, rfl, hu, hv⟩ := two_args hx
      have h1 := hr.ev u
      have h2 := hr.ev v
      rw [hu] at h1
      rw [hv] at h2
      exact wp_val (r := .int k (if x < y then y else x)) (w' := w) (by simp [execOp, ho, resolve, invoke, builtin, h1.val, h2.val, run_max_int2]) (hk.same hr (.v _))
    · cases h
  · -- min
    rename_i k x k' y hb1
    obtain ⟨xs, rfl, hx⟩ := hargs hb1
    split at h
    · rename_i hkk
      simp only [Option.some.injEq, Prod.mk.injEq, true_and] at h
      obtain ⟨rfl, rfl⟩ := h
      obtain ⟨u, v, rfl, hu, hv⟩ := two_args hx
      have h1 := hr.ev u
      have h2 := hr.ev v
      rw [hu] at h1
      rw [hv] at h2
      exact wp_val (r := .int k (if y < x then y else x)) (w' := w) (by simp [execOp, ho, resolve, invoke, builtin, h1.val, h2.val, run_min_int2]) (hk.same hr (.v _))
    · cases h
  · -- append
    rename_i sz n get p sz' n' get' p' T T' hb1 hb2
    obtain ⟨xs, rfl, hx⟩ := hargs hb1
    cases hats hb2
    split at h
    · rename_i e _ _ _ _ hTT hTs
      have hTT := Nat.eq_of_beq_eq_true hTT
      subst hTT
      split at h
      · rename_i ie hie
        obtain ⟨u, v, rfl, hu, hv⟩ := two_args hx
        have h1 := hr.ev u
        have h2 := hr.ev v
        rw [hu] at h1
        rw [hv] at h2
        obtain ⟨k1, hp1⟩ := h1.isSl
        have k2 := h2.isSl.1
        have hfin : ∀ {lk1 : Nat → Option Bx} {δ' : Mem}, (Nat.ble 1 ie.size && (Nat.beq sz ie.size && Nat.beq sz' ie.size)) = true →
            (decide ((n + n') * ie.bytes ≤ 140737488355328 ∧ n + n' ≤ 9223372036854775807)) = true →
            ((a.eval u = .slice none 0 0 ∧ lk1 = look m) ∨ (∃ q, a.eval u = g.ρ q ∧ look m q = some (.tok e) ∧ lk1 = fun j => if q = j then some .dead else look m j)) →
            (∀ j, look ((idt, .tok e) :: δ' ++ m) j = if idt = j then some (.tok e) else lk1 j) →
            Kont w0 K0 tb t m g a w id idt fr o.dst (.sl ie.size (n + n') (fun i => match Nat.blt i n with | true => get i | false => get' (i - n)) (.tok idt)) ((idt, .tok e) :: δ') K → o.wp P a w K Q := by
          intro lk1 δ' hok hc hp hlk hk
          simp only [Bool.and_eq_true] at hok
          have e1 := Nat.le_of_ble_eq_true hok.1
          have e2 := Nat.eq_of_beq_eq_true hok.2.1
          have e3 := Nat.eq_of_beq_eq_true hok.2.2
          simp only [decide_eq_true_eq] at hc
          rw [e2] at k1
          rw [e3] at k2
          obtain ⟨v', w', g', hrun, he, hC, hvr, hrs⟩ := hr.append (P := P) (ty := o.type) hT hit hTs rfl hie e1 k1 k2 hc.1 hc.2 hp
          exact wp_val (r := v') (w' := w') (by simp [execOp, ho, resolve, invoke, builtin, hrun]) (hk v' g' w' he (fun i hi => (hC i hi).imp (fun h => h) fun h => .inr (.inl h)) hvr (hrs.congr hlk))
        simp only at h
        split at h
        · rename_i e' hok
          split at h
          · rename_i he
            have he := Nat.eq_of_beq_eq_true he
            subst he
            simp only [Option.some.injEq, Prod.mk.injEq] at h
            obtain ⟨hc, rfl, rfl⟩ := h
            exact hfin hok hc (.inl ⟨hp1, rfl⟩) (fun j => by rw [List.cons_append, look_cons]; rfl) hk
          · cases h
        · rename_i q hok
          split at h
          · rename_i e' hq
            split at h
            · rename_i he
              simp only [Bool.and_eq_true] at he
              have he := Nat.eq_of_beq_eq_true he.1
              subst he
              simp only [Option.some.injEq, Prod.mk.injEq] at h
              obtain ⟨hc, rfl, rfl⟩ := h
              exact hfin hok hc (.inr ⟨q, hp1.2, hq, rfl⟩) (fun j => by rw [List.cons_append, look_cons, List.cons_append, look_cons, List.nil_append]) hk
            · cases h
          · cases h
        · cases h
      · cases h
    · cases h
  · cases h

theorem evOp0_ok (hT : TbOk P tb) (hE : EnvAt P tb env w0 K0) {id idt fr : Nat} {o : Oper} {d : D} {δ : Mem} (h : evOp0 env tb id idt fr o t m = some (true, d, δ)) (hr : RS w0 K0 tb t (look m) g a w) (hid : ¬ g.C id) (hit : ¬ g.C idt) (hfr : ∀ i, 4 * fr ≤ i → i < 4 * (fr + 31) → ¬ g.C i)
    {K : Act → World → Prop} {Q : Exit → Act → World → Prop} (hk : Kont w0 K0 tb t m g a w id idt fr o.dst d δ K) : o.wp P a w K Q := by
  unfold evOp0 at h
  split at h
  · -- move
    rename_i x ho
    simp only [Option.some.injEq, Prod.mk.injEq, true_and] at h
    obtain ⟨rfl, rfl⟩ := h
    exact wp_val (by simp [execOp, ho]) (hk.same hr (hr.evx o.type x))
  · -- assign
    rename_i x ho
    simp only [Option.some.injEq, Prod.mk.injEq, true_and] at h
    obtain ⟨rfl, rfl⟩ := h
    exact wp_val (by simp [execOp, ho]) (hk.same hr (hr.evx o.type x))
  · -- alloc
    rename_i T ho
    split at h
    · rename_i i hi
      simp only [Option.some.injEq, Prod.mk.injEq, true_and] at h
      obtain ⟨rfl, rfl⟩ := h
      obtain ⟨f, dd, z, hf, hu, hsize, _, hz, hzo, hzs, _⟩ := hT.info hi
      obtain ⟨e1, e2⟩ := zeroOk_ok (g := g) (w := w) hzo
      simp only [Array.length_toList] at e1
      obtain ⟨g', he, hC, hCid, hσ, hrs⟩ := hr.alloc hid (c := i.zero) (T := T) (cs := z.cells) e1 (fun j hj => by
          obtain ⟨v, hv, _, h1⟩ := e2 j _ (List.getElem?_eq_getElem hj)
          rw [getD_congr (by simpa using hv)]; exact h1) (fun j d hd => by
          obtain ⟨v, hv, h0, _⟩ := e2 j d hd
          rw [getD_congr (by simpa using hv)]; exact h0)
      refine wp_val (r := .pointer (some ⟨w.heap.size, 0, none⟩)) (w' := w.alloc (.cells z.cells T)) ?_ (hk _ g' _ he (fun i hi => (hC i hi).imp (fun h => h) .inl) ?_ ?_)
      · simp [execOp, ho, Instr.alloc, zeroValue, typeInfo, hf, hz, newVar, newRow]
      · rw [← hσ]; exact .loc id 0 hCid
      · exact hrs.congr fun j => look_cons id _ m j
    · cases h
  · -- box
    rename_i T x ho
    split at h
    · rename_i c hc
      simp only [Option.some.injEq, Prod.mk.injEq, true_and] at h
      obtain ⟨rfl, rfl⟩ := h
      obtain ⟨e1, e2, e3⟩ := cellsOf_ok (hr.evx T x) hc
      obtain ⟨g', he, hC, hCid, hσ, hrs⟩ := hr.alloc hid (c := c) (T := T) (cs := (a.eval x).cells) e1 e2 e3
      refine wp_val (r := .pointer (some ⟨w.heap.size, 0, none⟩)) (w' := w.alloc (.cells (a.eval x).cells T)) ?_ (hk _ g' _ he (fun i hi => (hC i hi).imp (fun h => h) .inl) ?_ ?_)
      · simp [execOp, ho, Instr.box, newVar, newRow]
      · rw [← hσ]; exact .loc id 0 hCid
      · exact hrs.congr fun j => look_cons id _ m j
    · cases h
  · -- build
    rename_i T ps ho
    split at h
    · rename_i ti hti
      split at h
      · rename_i c hagg hfill
        simp only [Option.some.injEq, Prod.mk.injEq, true_and] at h
        obtain ⟨rfl, rfl⟩ := h
        obtain ⟨f, dd, z, hf, hu, hsize, _, hz, hzo, hzs, hdd, hfi, _⟩ := hT.info hti
        obtain ⟨e1, e2⟩ := zeroOk_ok (g := g) (w := w) hzo
        simp only [Array.length_toList] at e1
        have base : ∀ (place' : Nat → Option (Nat × Nat)), (∀ i x, placeOf tb ti i = some x → place' i = some x) →
            ∃ cs', Instr.fill place' z.cells (ps.toList.map fun p => (p.1, a.eval p.2)) = some cs' ∧ cs'.size = c.length ∧ (∀ i, i < c.length → oneC (cs'.getD i undef) = true) ∧ ∀ (i : Nat) (d : D), c[i]? = some d → VR g w d (cs'.getD i undef) := fun place' hp =>
          fillD_ok hp hfill (by simp) (fun j i d hd => by
            simp only [List.getElem?_map, Option.map_eq_some_iff] at hd
            obtain ⟨p, hp, hpe⟩ := hd
            cases hpe
            exact ⟨a.eval p.2, by simp [hp], hr.ev p.2⟩) e1 (fun j hj => by
            obtain ⟨v, hv, _, h1⟩ := e2 j _ (List.getElem?_eq_getElem hj)
            rw [getD_congr (by simpa using hv)]; exact h1) (fun j d hd => by
            obtain ⟨v, hv, h0, _⟩ := e2 j d hd
            rw [getD_congr (by simpa using hv)]; exact h0)
        have run : ∃ cs', P.built T (ps.map fun (i, x) => (i, a.eval x)).toList = some cs' ∧ cs'.size = c.length ∧ (∀ i, i < c.length → oneC (cs'.getD i undef) = true) ∧ ∀ (i : Nat) (d : D), c[i]? = some d → VR g w d (cs'.getD i undef) := by
          unfold Program.built
          cases hd : ti.d with
          | struct fs =>
            rw [hd] at hdd
            obtain ⟨gs, rfl, hfo⟩ := descOk_struct hdd
            have hmap : ∃ places, gs.toList.mapM (fun f => (P.info? f.type).map fun i => (f.offset, i.size)) = some places ∧ ∀ (j : Nat) (f : Field) (i : TypeInfo), gs.toList[j]? = some f → P.info? f.type = some i → places[j]? = some (f.offset, i.size) := by
              simp only [fieldsInfo, List.all_eq_true] at hfi
              clear hfo base hu hdd
              generalize gs.toList = l at hfi
              induction l with
              | nil => exact ⟨[], rfl, fun j f i hj => by simp at hj⟩
              | cons f l ih =>
                obtain ⟨pl, hpl, hg⟩ := ih (fun x hx => hfi x (by simp [hx]))
                obtain ⟨i, hi⟩ := Option.isSome_iff_exists.1 (hfi f (by simp))
                refine ⟨(f.offset, i.size) :: pl, by simp [List.mapM_cons, hi, hpl], fun j f' i' hj hi' => ?_⟩
                cases j with
                | zero => simp at hj; subst hj; rw [hi] at hi'; cases hi'; rfl
                | succ j => simpa using hg j f' i' (by simpa using hj) hi'
            obtain ⟨places, hpl, hg⟩ := hmap
            obtain ⟨cs', h1, h2⟩ := base (places.toArray[·]?) (fun i x hx => by
              unfold placeOf at hx
              rw [hd] at hx
              simp only at hx
              split at hx
              · rename_i off ft hfs
                split at hx
                · rename_i fi hfi'
                  cases hx
                  obtain ⟨f', hf', ho', ht'⟩ := fieldsOk_get hfo i hfs
                  obtain ⟨i', _, _, hi', _, hs', _⟩ := hT.info hfi'
                  have := hg i f' i' hf' (by rw [ht']; exact hi')
                  simp [this, ho', hs']
                · cases hx
              · cases hx)
            refine ⟨cs', ?_, h2⟩
            simp only [hf, hu, hz, hpl]
            simpa using h1
          | arr n e =>
            rw [hd] at hdd
            have := descOk_arr hdd
            subst this
            simp only [fieldsInfo] at hfi
            obtain ⟨ie, hie⟩ := Option.isSome_iff_exists.1 hfi
            obtain ⟨cs', h1, h2⟩ := base (fun i => some (i * ie.size, ie.size)) (fun i x hx => by
              unfold placeOf at hx
              rw [hd] at hx
              simp only at hx
              split at hx
              · rename_i fi hfi'
                cases hx
                obtain ⟨i', _, _, hi', _, hs', _⟩ := hT.info hfi'
                rw [hie] at hi'
                cases hi'
                rw [hs']
              · cases hx)
            refine ⟨cs', ?_, h2⟩
            simp only [hf, hu, hz, hie]
            simpa using h1
          | _ => rw [hd] at hagg; simp [Td.isAgg] at hagg
        obtain ⟨cs', h1, h2, h3, h4⟩ := run
        exact wp_build T ps ho (by rw [h1]; rfl) (by rw [h1]; exact hk.same hr (.agg _ _ h2 h3 h4))
      · cases h
    · cases h
  · -- buildSlice
    rename_i T n ps ho
    split at h
    · rename_i e _ _ _ _ hTs
      split at h
      · rename_i ie hie
        split at h
        · rename_i c hb hfill
          simp only [Bool.and_eq_true] at hb
          have hb1 := Nat.le_of_ble_eq_true hb.1.1
          have hb2 := Nat.le_of_ble_eq_true hb.1.2
          have hb3 := Nat.eq_of_beq_eq_true hb.2
          obtain ⟨_, sd, _, _, hsu, _, _, _, _, _, hsd, _⟩ := hT.info hTs
          have := descOk_sl hsd
          subst this
          obtain ⟨f, dd, z, hf, hu, hsize, _, hz, hzo, hzs, hdd, _⟩ := hT.info hie
          obtain ⟨e1, e2⟩ := zeroOk_ok (g := g) (w := w) hzo
          simp only [Array.length_toList] at e1
          have hcs0 : ∀ j, j < n * ie.size → ((Array.range (n * ie.size)).map fun x => z.cells[x % z.cells.size]!)[j]? = z.cells[j % ie.size]? := fun j hj => by
            have hm : j % ie.size < z.cells.size := by rw [hzs]; exact Nat.mod_lt _ hb1
            simp [hj, hzs]
            rw [getElem!_pos z.cells _ hm, getElem?_pos z.cells _ hm]
          have hrl := rep_get ie.size ie.zero hb3 n
          obtain ⟨cs', h1, h2, h3, h4⟩ := fillD_ok (g := g) (w := w) (place := fun i => some (i * ie.size, ie.size)) (place' := fun i => some (i * ie.size, ie.size)) (fun i x hx => hx)
            (vs := ps.toList.map fun p => (p.1, a.eval p.2)) (cs := (Array.range (n * ie.size)).map fun x => z.cells[x % z.cells.size]!) hfill (by simp) (fun j i d hd => by
              simp only [List.getElem?_map, Option.map_eq_some_iff] at hd
              obtain ⟨p, hp, hpe⟩ := hd
              cases hpe
              exact ⟨a.eval p.2, by simp [hp], hr.ev p.2⟩) (by simp [(hrl 0).1]) (fun j hj => by
              rw [(hrl 0).1] at hj
              have hm : j % ie.size < ie.zero.length := by rw [hb3]; exact Nat.mod_lt _ hb1
              obtain ⟨v, hv, _, h1⟩ := e2 (j % ie.size) _ (List.getElem?_eq_getElem hm)
              rw [getD_congr (by rw [hcs0 j hj]; simpa using hv)]; exact h1) (fun j d hd => by
              have hj : j < n * ie.size := by
                have := (List.getElem?_eq_some_iff.1 hd).1
                rwa [(hrl 0).1] at this
              rw [(hrl j).2 hj] at hd
              obtain ⟨v, hv, h0, _⟩ := e2 (j % ie.size) d hd
              rw [getD_congr (by rw [hcs0 j hj]; simpa using hv)]; exact h0)
          have hcl : c.length = n * ie.size := by
            have hfl : ∀ (ps : List (Nat × D)) (c0 c : List D), fillD (fun i => some (i * ie.size, ie.size)) c0 ps = some c → c.length = c0.length := by
              intro ps
              induction ps with
              | nil => intro c0 c hc; cases hc; rfl
              | cons p ps ih =>
                intro c0 c hc
                obtain ⟨i, d⟩ := p
                simp only [fillD] at hc
                split at hc
                · split at hc
                  · rename_i hbb
                    simp only [Bool.and_eq_true] at hbb
                    have := Nat.le_of_ble_eq_true hbb.2
                    rw [ih _ _ hc]; unfold splice; simp; omega
                  · cases hc
                · cases hc
            rw [hfl _ _ _ hfill, (hrl 0).1]
          have hexec : (execOp a.eval o).run P w = .ok (.value (.slice (some ⟨w.heap.size, 0, none⟩) n n)) (w.alloc (.cells cs' e)) := by
            have h1' : Instr.fill (fun i => some (i * ie.size, ie.size)) ((Array.range (n * ie.size)).map fun x => z.cells[x % z.cells.size]!) (ps.map fun (i, x) => (i, a.eval x)).toList = some cs' := by
              rw [← h1]; simp
            have hno : ¬ (16777216 < n * ie.size) := by omega
            by_cases hn0 : n * ie.size = 0
            · have hz0 : ((Array.range 0).map fun x => (#[] : Array Value)[x % (#[] : Array Value).size]!) = (Array.range 0).map fun x => z.cells[x % z.cells.size]! := by simp
              have h1'' := h1'
              rw [hn0] at h1''
              simp only [execOp, ho, Sem.run_bind, Instr.buildSlice, run_underlying hsu, Result.andThen_ok, run_sizeOf' hf, hsize, hn0]
              have hr0 : Array.range 0 = #[] := rfl
              simp [hr0] at h1''
              simp [hr0, h1'', newRow]
            · simp only [execOp, ho, Sem.run_bind, Instr.buildSlice, run_underlying hsu, Result.andThen_ok, run_sizeOf' hf, hsize]
              have hz' : (zeroValue e).run P w = .ok z w := by simp [zeroValue, typeInfo, hf, hz]
              simp at h1'
              simp [hno, hn0, hz', h1', newRow]
          split at h
          · simp only [Option.some.injEq, Prod.mk.injEq, true_and] at h
            obtain ⟨rfl, rfl⟩ := h
            obtain ⟨g', he, hC, hCid, hσ, hrs⟩ := hr.alloc (id := 4 * fr + 2) (hfr _ (by omega) (by omega)) (c := c) (T := e) (cs := cs') (by rw [h2]) (fun j hj => h3 j hj) (fun j d hd => h4 j d hd)
            refine wp_val (r := .slice (some ⟨w.heap.size, 0, none⟩) n n) (w' := w.alloc (.cells cs' e)) hexec (hk _ g' _ he (fun i hi => ?_) ?_ (hrs.congr fun j => look_cons _ _ m j))
            · rcases hC i hi with h | h
              · exact .inl h
              · exact .inr (.inr (.inr (by omega)))
            · have := VR.slm (g := g') (w := w.alloc (.cells cs' e)) ie.size (4 * fr + 2) 0 n hCid
              rw [hσ, Nat.zero_mul] at this
              exact this
          · simp only [Option.some.injEq, Prod.mk.injEq, true_and] at h
            obtain ⟨rfl, rfl⟩ := h
            have hlen : ∀ i, i < n → (bsGet n ie.size (ie.zero.map kq0) (c.map kp0) i).length = ie.size := fun i hi => by
              rw [bsGet_eq hi]
              unfold rowGet
              have := Nat.mul_le_mul_right ie.size (show i + 1 ≤ n by omega)
              rw [Nat.add_mul] at this
              simp [hcl]; omega
            have hcell : ∀ i k, i < n → k < ie.size → (bsGet n ie.size (ie.zero.map kq0) (c.map kp0) i)[k]? = (c.map kp0)[i * ie.size + k]? := fun i k hi hk => by
              rw [bsGet_eq hi]
              unfold rowGet
              rw [List.getElem?_take_of_lt hk, List.getElem?_drop]
            obtain ⟨g', he, hC, hv, hrs⟩ := hr.row hit (w1 := w.alloc (.cells cs' e)) (cs := cs') (E := e) (ti := ie) (n := n) (cap := n) (get := bsGet n ie.size (ie.zero.map kq0) (c.map kp0)) ((Below.refl _ _).alloc (Nat.le_refl _) _) hie
              (by rw [h2, hcl]) (Nat.le_refl _) (by have h5 : n ≤ n * ie.size := Nat.le_mul_of_pos_right _ hb1; simp only [maxLen]; omega) (heap_alloc_new w _) hlen (fun i k hi hk => h3 _ (by rw [hcl]; exact idx_lt hi hk))
              (fun i k d hi hd => by
                have hk : k < ie.size := by
                  have := (List.getElem?_eq_some_iff.1 hd).1
                  rwa [hlen i hi] at this
                rw [hcell i k hi hk, List.getElem?_map, Option.map_eq_some_iff] at hd
                obtain ⟨d', hd', rfl⟩ := hd
                exact kp0_ok (h4 _ d' hd'))
            refine wp_val (r := .slice (some ⟨w.heap.size, 0, none⟩) n n) (w' := w.alloc (.cells cs' e)) hexec (hk _ g' _ he (fun i hi => (hC i hi).imp (fun h => h) fun h => .inr (.inl h)) hv (hrs.congr fun j => look_cons idt _ m j))
        · cases h
      · cases h
    · cases h
  · -- load
    rename_i T x ho
    split at h
    · rename_i ti i off hti hx
      split at h
      · rename_i c T' hl _
        obtain ⟨d', h1, h2⟩ := map_some_pair h
        simp only [Prod.mk.injEq, true_and] at h2
        obtain ⟨rfl, rfl⟩ := h2
        have hv := hr.ev x
        rw [hx] at hv
        obtain ⟨hC, hv⟩ := hv.isLoc
        obtain ⟨_, _, _, cs, hh, hcs, hone, hvr⟩ := hr.bx i c T' hl
        obtain ⟨r, hrun, hres⟩ := run_load_cells (g := g) (w := w) hT hti (b := g.σ i) (off := off) (l := c.drop off) (fun j => cs.getD (off + j) undef) (fun j hj => by
            rw [cell_of_row w _ _ cs T' _ hh]
            have : off + j < cs.size := by simp at hj; omega
            simp [this]) (fun j e he => by
            rw [List.getElem?_drop] at he
            exact hvr _ e he) (fun j hj => hone _ (by simp at hj; omega)) h1
        exact wp_val (by simp only [execOp, ho, hv, Sem.run_bind, hrun, Result.andThen_ok]; rfl) (hk.same hr hres)
      · cases h
    · rename_i ti l hti hx
      obtain ⟨d', h1, h2⟩ := map_some_pair h
      simp only [Prod.mk.injEq, true_and] at h2
      obtain ⟨rfl, rfl⟩ := h2
      have hv := hr.ev x
      rw [hx] at hv
      have hv' := hv.isRef
      generalize hvx : a.eval x = vx at *
      cases hv' with
      | ref _ b off f hkk hc =>
        obtain ⟨r, hrun, hres⟩ := run_load_cells (g := g) (w := w) hT hti (b := b) (off := off) (l := l) f (fun j hj => (hkk j hj).2.1) (fun j e he => .kr _ _ (hc j e he)) (fun j hj => (hkk j hj).2.2) h1
        exact wp_val (by simp only [execOp, ho, hvx, Sem.run_bind, hrun, Result.andThen_ok]; rfl) (hk.same hr hres)
    · cases h
  · -- store
    rename_i T x y ho
    split at h
    · rename_i ti i off hti hx
      split at h
      · rename_i c T' l hl hcl
        split at h
        · rename_i hb
          simp only [Option.some.injEq, Prod.mk.injEq] at h
          obtain ⟨hb2, rfl, rfl⟩ := h
          simp only [Bool.and_eq_true] at hb
          have hb1 := Nat.eq_of_beq_eq_true hb.1
          have hb2 := Nat.le_of_ble_eq_true hb2
          obtain ⟨f, dd, z, hf, hu, hsize, _⟩ := hT.info hti
          have hv := hr.ev x
          rw [hx] at hv
          obtain ⟨hC, hv⟩ := hv.isLoc
          obtain ⟨_, _, _, cs, hh, hcs, hone, hvr⟩ := hr.bx i c T' hl
          obtain ⟨e1, e2, e3⟩ := cellsOf_ok (hr.evx T y) hcl
          have hone' : ∀ u ∈ (a.eval y).cells.toList, u.oneCell' = true := fun u hu => by
            obtain ⟨j, hj, rfl⟩ := List.mem_iff_getElem.1 hu
            simp only [Array.length_toList] at hj
            have := e2 j (by omega)
            rw [oneC_eq] at this
            simpa [hj] using this
          have hst := run_storeCells_at P (g.σ i) off T' (a.eval y).cells.toList 0 cs w hh (by simp; omega) hone'
          simp only [Nat.add_zero] at hst
          have hsz : ((a.eval y).cells.size ≠ f.size) = False := by simp; omega
          have hlen : (splice c off l).length = c.length := by unfold splice; simp; omega
          have hget : ∀ j, (cs.toList.take off ++ (a.eval y).cells.toList ++ cs.toList.drop (off + (a.eval y).cells.toList.length)).toArray.getD j undef = (cs.toList.take off ++ (a.eval y).cells.toList ++ cs.toList.drop (off + (a.eval y).cells.toList.length)).getD j undef := fun j => by simp
          obtain ⟨he, hrs⟩ := hr.store hl hh (c' := splice c off l) (cs' := (cs.toList.take off ++ (a.eval y).cells.toList ++ cs.toList.drop (off + (a.eval y).cells.toList.length)).toArray) (by rw [hlen]; simp; omega) (fun j hj => by
              rw [hlen] at hj
              rw [hget]
              by_cases hj1 : j < off
              · rw [List.append_assoc, List.getD_eq_getElem?_getD, List.getElem?_append_left (by simp; omega), List.getElem?_take_of_lt hj1]
                have := hone j hj
                simpa using this
              · by_cases hj2 : j < off + l.length
                · rw [List.append_assoc, List.getD_eq_getElem?_getD, List.getElem?_append_right (by simp; omega), List.getElem?_append_left (by simp; omega)]
                  have := e2 (j - off) (by omega)
                  simpa [show min off cs.size = off by omega] using this
                · rw [List.getD_eq_getElem?_getD, List.getElem?_append_right (by simp; omega), List.getElem?_drop]
                  have := hone j hj
                  simpa [show min off cs.size = off by omega, show off + (a.eval y).cells.size + (j - (off + (a.eval y).cells.size)) = j by omega] using this) (fun j d hd => by
              rw [hget]
              unfold splice at hd
              by_cases hj1 : j < off
              · rw [List.append_assoc, List.getElem?_append_left (by simp; omega), List.getElem?_take_of_lt hj1] at hd
                rw [List.append_assoc, List.getD_eq_getElem?_getD, List.getElem?_append_left (by simp; omega), List.getElem?_take_of_lt hj1]
                have := hvr j d hd
                simpa using this
              · by_cases hj2 : j < off + l.length
                · rw [List.append_assoc, List.getElem?_append_right (by simp; omega), List.getElem?_append_left (by simp; omega)] at hd
                  rw [List.append_assoc, List.getD_eq_getElem?_getD, List.getElem?_append_right (by simp; omega), List.getElem?_append_left (by simp; omega)]
                  have := e3 (j - off) d (by simpa [show min off c.length = off by omega] using hd)
                  simpa [show min off cs.size = off by omega] using this
                · rw [List.getElem?_append_right (by simp; omega), List.getElem?_drop] at hd
                  rw [List.getD_eq_getElem?_getD, List.getElem?_append_right (by simp; omega), List.getElem?_drop]
                  have hj3 : off + l.length + (j - (c.take off ++ l).length) = j := by simp; omega
                  rw [hj3] at hd
                  have := hvr j d hd
                  simpa [show min off cs.size = off by omega, show off + (a.eval y).cells.size + (j - (off + (a.eval y).cells.size)) = j by omega] using this)
          refine wp_skp ?_ (hk _ g _ he (fun i hi => .inl hi) (.no _) (hrs.congr fun j => look_cons i _ m j))
          simp only [execOp, ho, hv, Instr.storeAt, Instr.sureAddr, storeVar, Sem.run_bind, Sem.run_pure, Result.andThen_ok, run_sizeOf' hf, Sem.run_ite, hsz, if_false, hst]
        · cases h
      · cases h
    · cases h
  · -- binOp
    rename_i op T x y T' ho
    split at h
    · rename_i b hb
      cases h
      obtain ⟨vy, hy, hrun⟩ := run_nilC (P := P) (w := w) hT hb (hr.ev x) x
      subst hy
      exact wp_val (by simp only [execOp, ho]; rw [Sem.run_bind]; show ((do eqGuard op T x (.const vy) (a.eval x) vy; binOp op T (a.eval x) vy : Sem Value).run P w).andThen _ = _; rw [hrun]; rfl) (hk.same hr (.v _))
    · obtain ⟨⟨c, d'⟩, h1, h2⟩ := map_some_pair h
      simp only [Prod.mk.injEq] at h2
      obtain ⟨rfl, rfl, rfl⟩ := h2
      obtain ⟨r, hrun, hv⟩ := run_binD (P := P) (w := w) hT h1 (hr.ev x) (hr.ev y) x y
      exact wp_val (by simp only [execOp, ho]; rw [Sem.run_bind, hrun]; rfl) (hk.same hr hv)
  · -- unOp
    rename_i op T x ho
    obtain ⟨d', h1, h2⟩ := map_some_pair h
    simp only [Prod.mk.injEq, true_and] at h2
    obtain ⟨rfl, rfl⟩ := h2
    obtain ⟨r, hrun, hv⟩ := run_unD (P := P) (w := w) h1 (hr.ev x)
    exact wp_val (by simp only [execOp, ho]; rw [Sem.run_bind, hrun]; rfl) (hk.same hr hv)
  · -- convert
    rename_i src dst x ho
    split at h
    · rename_i k1 _ _ _ _ k2 _ _ _ _ k3 n hs hd hx
      simp only [Option.some.injEq, Prod.mk.injEq, true_and] at h
      obtain ⟨rfl, rfl⟩ := h
      obtain ⟨_, sd, _, _, hsu, _, _, _, _, _, hsd, _⟩ := hT.info hs
      obtain ⟨_, dd, _, _, hdu, _, _, _, _, _, hdd, _⟩ := hT.info hd
      have e1 := descOk_int hdd
      subst e1
      have hv := hr.ev x
      rw [hx] at hv
      have hki : P.intKind dst = k2 := by simp [Program.intKind, hdu]
      have hrun := run_convert_int (P := P) w src dst k3 n (by rw [hsu]; rfl) (by rw [hki]; exact hdu)
      rw [hki] at hrun
      exact wp_val (by simp only [execOp, ho, hv.val]; rw [Sem.run_bind, hrun]; rfl) (hk.same hr (.v _))
    · rename_i e _ _ _ _ s hs hd hx
      split at h
      · rename_i k _ _ _ _ hte
        split at h
        · rename_i hku
          have hku := ikEq_eq hku
          subst hku
          simp only [Option.some.injEq, Prod.mk.injEq, true_and] at h
          obtain ⟨rfl, rfl⟩ := h
          obtain ⟨_, sd, _, _, hsu, _, _, _, _, _, hsd, _⟩ := hT.info hs
          obtain ⟨_, dd, _, _, hdu, _, _, _, _, _, hdd, _⟩ := hT.info hd
          obtain ⟨_, ed, _, _, heu, _, _, _, _, _, hed, _⟩ := hT.info hte
          have e1 := descOk_sl hdd
          subst e1
          have e2 := descOk_int hed
          subst e2
          have hv := hr.ev x
          rw [hx] at hv
          have hrun := Lib.run_convert_string_bytes (P := P) w src dst e s hsu hdu heu
          obtain ⟨g', he, hC, hkr, hrs⟩ := hr.keepRow (Lib.bytesWorld_below w e s) (by rw [Lib.bytesWorld_size]; omega) (sz := 1) (n := s.size) (cap := grownCap w s.size 0 e)
            (get := fun i => [.v (.int .u8 (s.data.toList.getD i 0).toNat)]) (f := fun i _ => .int .u8 (s.data.toList.getD i 0).toNat) (grownCap_ge w s.size 0 e) (fun _ _ => rfl)
            (fun i k hi hk => by
              have : k = 0 := by omega
              subst this
              rw [Nat.mul_one, Nat.add_zero]
              exact ⟨Lib.bytesWorld_cell w e s i hi, rfl⟩)
            (fun i k d hi hd => by
              cases k with
              | zero => cases hd; exact .v _ rfl
              | succ k => simp at hd)
          exact wp_val (by simp only [execOp, ho, hv.val]; rw [Sem.run_bind, hrun]; rfl) (hk _ g' _ he (fun i hi => .inl (hC i hi)) (.kr _ _ hkr) hrs)
        · cases h
      · cases h
    · cases h
  · -- fieldAddr
    rename_i T x fi ho
    split at h
    · rename_i fs _ _ _ _ hTs
      split at h
      · rename_i off ft hfs
        split at h
        · rename_i fti hft
          obtain ⟨_, sd, _, _, hsu, _, _, _, _, _, hsd, _⟩ := hT.info hTs
          obtain ⟨gs, rfl, hfo⟩ := descOk_struct hsd
          obtain ⟨f', hf', hof, htf⟩ := fieldsOk_get hfo fi hfs
          obtain ⟨i', _, _, hi', _, hs', _⟩ := hT.info hft
          have hne : ∀ (b o : Nat), 1 ≤ fti.size → (Instr.fieldAt T (.pointer (some ⟨b, o, none⟩)) fi).run P w = .ok (.pointer (some ⟨b, o + off, none⟩)) w := fun b o h1 => by
            have hg : gs[fi]? = some f' := by simpa using hf'
            have h0 : ¬ (i'.size = 0) := by omega
            simp [Instr.fieldAt, run_underlying hsu, hg, Instr.sureAddr, fieldPlace, htf, run_sizeOf' hi', h0, Addr.add_lit, hof]
          split at h
          · rename_i i o hb hx
            simp only [Option.some.injEq, Prod.mk.injEq, true_and] at h
            obtain ⟨rfl, rfl⟩ := h
            have hv := hr.ev x
            rw [hx] at hv
            obtain ⟨hC, hv⟩ := hv.isLoc
            exact wp_val (by simp only [execOp, ho, hv]; rw [Sem.run_bind, hne _ _ (Nat.le_of_ble_eq_true hb)]; rfl) (hk.same hr (.loc i _ hC))
          · rename_i l hb hx
            split at h
            · rename_i hle
              simp only [Option.some.injEq, Prod.mk.injEq, true_and] at h
              obtain ⟨rfl, rfl⟩ := h
              have hv := hr.ev x
              rw [hx] at hv
              have hv' := hv.isRef
              generalize hvx : a.eval x = vx at *
              cases hv' with
              | ref _ b o f hkk hc =>
                refine wp_val (r := .pointer (some ⟨b, o + off, none⟩)) (w' := w) (by simp only [execOp, ho, hvx]; rw [Sem.run_bind, hne _ _ (Nat.le_of_ble_eq_true hb)]; rfl) (hk.same hr (.kr _ _ (.ref _ b (o + off) (fun j => f (off + j)) (fun j hj => ?_) (fun j d hd => ?_))))
                · simp at hj
                  have := hkk (off + j) (by omega)
                  rwa [← Nat.add_assoc] at this
                · rw [List.getElem?_drop] at hd
                  exact hc _ d hd
            · cases h
          · cases h
        · cases h
      · cases h
    · cases h
  · -- field
    rename_i T x fi ho
    split at h
    · rename_i fs _ _ _ _ c hTs hx
      split at h
      · rename_i off ft hfs
        split at h
        · rename_i fti hft
          obtain ⟨d', h1, h2⟩ := map_some_pair h
          simp only [Prod.mk.injEq, true_and] at h2
          obtain ⟨rfl, rfl⟩ := h2
          obtain ⟨_, sd, _, _, hsu, _, _, _, _, _, hsd, _⟩ := hT.info hTs
          obtain ⟨gs, rfl, hfo⟩ := descOk_struct hsd
          obtain ⟨f', hf', hof, htf⟩ := fieldsOk_get hfo fi hfs
          have hg : gs[fi]? = some f' := by simpa using hf'
          have hv := hr.ev x
          rw [hx] at hv
          obtain ⟨cs, hvx, hcs, hone, hvr⟩ := hv.isAgg
          obtain ⟨r, hrun, hres⟩ := run_part_of (g := g) (w := w) hT hft hcs hone hvr h1
          refine wp_val (by simp only [execOp, ho, hvx]; rw [Sem.run_bind]; simp only [Instr.field, Sem.run_bind, run_underlying hsu, Result.andThen_ok, hg, asAgg, Sem.run_pure, htf, hof, hrun]) (hk.same hr hres)
        · cases h
      · cases h
    · cases h
  · -- indexAddr
    rename_i T x ix ho
    split at h
    · rename_i n e _ _ _ _ b off k i hTs hx hi
      split at h
      · rename_i ie hie
        simp only [Option.some.injEq, Prod.mk.injEq] at h
        obtain ⟨hb, rfl, rfl⟩ := h
        have hb := bnd_ok hb
        obtain ⟨_, sd, _, _, hsu, _, _, _, _, _, hsd, _⟩ := hT.info hTs
        have := descOk_arr hsd
        subst this
        obtain ⟨f, _, _, hf, _, hsize, _⟩ := hT.info hie
        have hv := hr.ev x
        rw [hx] at hv
        obtain ⟨hC, hv⟩ := hv.isLoc
        have hvi := hr.ev ix
        rw [hi] at hvi
        exact wp_val (r := .pointer (some ⟨g.σ b, off + i.toNat * ie.size, none⟩)) (w' := w) (by simp [execOp, ho, hv, hvi.val, Instr.indexAt, run_underlying hsu, asIntOf, Instr.sureAddr, hb, run_sizeOf' hf, hsize, Addr.add_lit]) (hk.same hr (.loc b _ hC))
      · cases h
    · rename_i n e _ _ _ _ l k i hTs hx hi
      split at h
      · rename_i ie hie
        simp only [Option.some.injEq, Prod.mk.injEq, Bool.and_eq_true] at h
        obtain ⟨⟨hb, hle⟩, rfl, rfl⟩ := h
        have hb := bnd_ok hb
        have hle := Nat.le_of_ble_eq_true hle
        obtain ⟨_, sd, _, _, hsu, _, _, _, _, _, hsd, _⟩ := hT.info hTs
        have := descOk_arr hsd
        subst this
        obtain ⟨f, _, _, hf, _, hsize, _⟩ := hT.info hie
        have hv := hr.ev x
        rw [hx] at hv
        have hvi := hr.ev ix
        rw [hi] at hvi
        have hv' := hv.isRef
        generalize hvx : a.eval x = vx at *
        cases hv' with
        | ref _ b o f' hkk hc =>
          refine wp_val (r := .pointer (some ⟨b, o + i.toNat * ie.size, none⟩)) (w' := w) (by simp [execOp, ho, hvx, hvi.val, Instr.indexAt, run_underlying hsu, asIntOf, Instr.sureAddr, hb, run_sizeOf' hf, hsize, Addr.add_lit]) (hk.same hr (.kr _ _ (.ref _ b _ (fun j => f' (i.toNat * ie.size + j)) (fun j hj => ?_) (fun j d hd => ?_))))
          · simp at hj
            have := hkk (i.toNat * ie.size + j) (by omega)
            rwa [← Nat.add_assoc] at this
          · rw [List.getElem?_drop] at hd
            exact hc _ d hd
      · cases h
    · rename_i e _ _ _ _ sz n get p k i hTs hx hi
      split at h
      · rename_i ie hie
        split at h
        · rename_i hsz
          have hsz := Nat.eq_of_beq_eq_true hsz
          simp only [Option.some.injEq, Prod.mk.injEq] at h
          obtain ⟨hb, rfl, rfl⟩ := h
          have hb := bnd_ok hb
          obtain ⟨_, sd, _, _, hsu, _, _, _, _, _, hsd, _⟩ := hT.info hTs
          have := descOk_sl hsd
          subst this
          obtain ⟨f, _, _, hf, _, hsize, _⟩ := hT.info hie
          have hv := hr.ev x
          rw [hx] at hv
          have hvi := hr.ev ix
          rw [hi] at hvi
          have hv' := hv.isSl.1
          generalize hvx : a.eval x = vx at *
          have hlt : i.toNat < n := by omega
          cases hv' with
          | sl0 => omega
          | sl _ _ _ b o cap f' hn hl hkk hc =>
            refine wp_val (r := .pointer (some ⟨b, o + i.toNat * ie.size, none⟩)) (w' := w) (by simp [execOp, ho, hvx, hvi.val, Instr.indexAt, run_underlying hsu, asIntOf, hb, run_sizeOf' hf, hsize, Addr.add_lit]) (hk.same hr (.kr _ _ (.ref _ b _ (fun j => f' i.toNat j) (fun j hj => ?_) (fun j d hd => ?_))))
            · rw [hl _ hlt] at hj
              have := hkk i.toNat j hlt hj
              rwa [hsz] at this
            · exact hc _ _ d hlt hd
        · cases h
      · cases h
    · cases h
  · -- index
    rename_i T x ix ho
    split at h
    · rename_i n e _ _ _ _ c k i hTs hx hi
      split at h
      · rename_i ie hie
        obtain ⟨d', h1, h2⟩ := map_some_pair h
        simp only [Prod.mk.injEq] at h2
        obtain ⟨hb, rfl, rfl⟩ := h2
        have hb := bnd_ok hb
        obtain ⟨_, sd, _, _, hsu, _, _, _, _, _, hsd, _⟩ := hT.info hTs
        have := descOk_arr hsd
        subst this
        obtain ⟨f, _, _, hf, _, hsize, _⟩ := hT.info hie
        have hv := hr.ev x
        rw [hx] at hv
        obtain ⟨cs, hvx, hcs, hone, hvr⟩ := hv.isAgg
        have hvi := hr.ev ix
        rw [hi] at hvi
        obtain ⟨r, hrun, hres⟩ := run_part_of (g := g) (w := w) hT hie hcs hone hvr h1
        exact wp_val (r := r) (w' := w) (by simp [execOp, ho, hvx, hvi.val, Instr.index, run_underlying hsu, asIntOf, hb, run_sizeOf' hf, hsize, hrun]) (hk.same hr hres)
      · cases h
    · rename_i s k i hTs hx hi
      simp only [Option.some.injEq, Prod.mk.injEq] at h
      obtain ⟨hb, rfl, rfl⟩ := h
      have hb := bnd_ok hb
      obtain ⟨_, sd, _, _, hsu, _, _, _, _, _, hsd, _⟩ := hT.info hTs
      have := descOk_str hsd
      subst this
      have hv := hr.ev x
      rw [hx] at hv
      have hvi := hr.ev ix
      rw [hi] at hvi
      have hlt : i.toNat < s.size := by omega
      have hget : s[i.toNat]? = some s[i.toNat] := getElem?_pos s i.toNat hlt
      have hd : s.data.toList.getD i.toNat 0 = s[i.toNat] := by
        rw [List.getD_eq_getElem?_getD, List.getElem?_eq_getElem (by simpa using hlt)]
        rfl
      refine wp_val (r := .int .u8 (s[i.toNat]).toNat) (w' := w) (by simp [execOp, ho, hv.val, hvi.val, Instr.index, run_underlying hsu, asIntOf, hb.1, hget]) (hk.same hr ?_)
      rw [hd]; exact .v _
    · cases h
  · -- extract
    rename_i x i ho
    split at h
    · rename_i l hx
      split at h
      · rename_i d' hl
        simp only [Option.some.injEq, Prod.mk.injEq, true_and] at h
        obtain ⟨rfl, rfl⟩ := h
        have hv := hr.ev x
        rw [hx] at hv
        obtain ⟨cs, hvx, hcs, hvr⟩ := hv.isTup
        have hlt : i < cs.size := by rw [hcs]; exact (List.getElem?_eq_some_iff.1 hl).1
        have := hvr i d' hl
        refine wp_val (r := cs[i]) (w' := w) (by simp [execOp, ho, hvx, Instr.extract, hlt]) (hk.same hr (by simpa [hlt] using this))
      · cases h
    · cases h
  · -- slice
    rename_i T x lo hi ho
    split at h
    · rename_i s hTs hx
      split at h
      · rename_i l u hl hu
        simp only [Option.some.injEq, Prod.mk.injEq, Bool.and_eq_true, decide_eq_true_eq] at h
        obtain ⟨⟨h0, h1, h2⟩, rfl, rfl⟩ := h
        obtain ⟨_, sd, _, _, hsu, _, _, _, _, _, hsd, _⟩ := hT.info hTs
        have := descOk_str hsd
        subst this
        have hv := hr.ev x
        rw [hx] at hv
        have hb := run_bounds (P := P) (w := w) false s.size s.size (bndOf_ok hr hl) (bndOf_ok hr hu) h0 h1 h2
        exact wp_val (r := .string (s.extract l.toNat u.toNat)) (w' := w) (by simp [execOp, ho, hv.val, Instr.sliceAt, Instr.slice, run_underlying hsu, hb]) (hk.same hr (.v _ (by
          have h3 := hv.okv
          simp only [okV, decide_eq_true_eq, ByteArray.size_extract] at h3 ⊢
          omega)))
      · cases h
    · rename_i e _ _ _ _ sz n get p hTs hx
      split at h
      · rename_i ie l u hie hl hu
        split at h
        · rename_i hsz
          have hsz := Nat.eq_of_beq_eq_true hsz
          simp only [Option.some.injEq, Prod.mk.injEq, Bool.and_eq_true, decide_eq_true_eq] at h
          obtain ⟨⟨h0, h1, h2⟩, rfl, rfl⟩ := h
          obtain ⟨_, sd, _, _, hsu, _, _, _, _, _, hsd, _⟩ := hT.info hTs
          have := descOk_sl hsd
          subst this
          obtain ⟨f, _, _, hf, _, hsize, _⟩ := hT.info hie
          have hv := hr.ev x
          rw [hx] at hv
          have hv' := hv.isSl.1
          obtain ⟨ad, cap, hvx, hcap⟩ : ∃ ad cap, a.eval x = .slice ad n cap ∧ n ≤ cap := by
            generalize a.eval x = vx at *
            cases hv' with
            | sl _ _ _ b o cap _ hn => exact ⟨_, _, rfl, hn⟩
            | sl0 => exact ⟨_, _, rfl, Nat.zero_le _⟩
          have hb := run_bounds (P := P) (w := w) true n cap (bndOf_ok hr hl) (bndOf_ok hr hu) h0 h1 (by omega)
          refine wp_val (r := .slice (if cap = l.toNat then ad else ad.map (·.add (l.toNat * ie.size))) (u.toNat - l.toNat) (cap - l.toNat)) (w' := w)
            (by simp [execOp, ho, hvx, Instr.sliceAt, Instr.slice, run_underlying hsu, hb, run_sizeOf' hf, hsize]) (hk.same hr ?_)
          rw [hvx] at hv'
          by_cases hlen : u.toNat - l.toNat = 0
          · rw [hlen]; exact .kr _ _ (.sl0 _ _ _ _)
          · cases hv' with
            | sl0 => omega
            | sl _ _ _ b o _ f' hn hgl hkk hc =>
              have hne : ¬ (cap = l.toNat) := by omega
              rw [if_neg hne]
              simp only [Option.map_some, Addr.add_lit]
              refine .kr _ _ (.sl sz _ _ b (o + l.toNat * ie.size) _ (fun i k => f' (l.toNat + i) k) (by omega) (fun i hi => hgl _ (by omega)) (fun i k hi hk' => ?_) (fun i k d hi hd => hc _ k d (by omega) hd))
              have := hkk (l.toNat + i) k (by omega) hk'
              rw [Nat.add_mul, ← Nat.add_assoc] at this
              rwa [hsz] at this ⊢
        · cases h
      · cases h
    · cases h
  · -- nilCheck
    rename_i x ho
    split at h
    · rename_i i off hx
      simp only [Option.some.injEq, Prod.mk.injEq, true_and] at h
      obtain ⟨rfl, rfl⟩ := h
      have hv := hr.ev x
      rw [hx] at hv
      obtain ⟨hC, hv⟩ := hv.isLoc
      exact wp_val (r := .pointer (some ⟨g.σ i, off, none⟩)) (w' := w) (by simp [execOp, ho, hv]) (hk.same hr (.loc i _ hC))
    · rename_i l hx
      simp only [Option.some.injEq, Prod.mk.injEq, true_and] at h
      obtain ⟨rfl, rfl⟩ := h
      have hv := hr.ev x
      rw [hx] at hv
      have hv' := hv.isRef
      generalize hvx : a.eval x = vx at *
      cases hv' with
      | ref _ b o f hkk hc => exact wp_val (r := .pointer (some ⟨b, o, none⟩)) (w' := w) (by simp [execOp, ho, hvx]) (hk.same hr (.kr _ _ (.ref _ b o f hkk hc)))
    · rename_i f c1 c2 hx
      simp only [Option.some.injEq, Prod.mk.injEq, true_and] at h
      obtain ⟨rfl, rfl⟩ := h
      have hv := hr.ev x
      rw [hx] at hv
      exact wp_val (r := .func (.func f) c1 c2) (w' := w) (by simp [execOp, ho, hv.val]) (hk.same hr (.v _))
    · cases h
  · -- makeFunc
    rename_i f caps ho
    simp only [Option.some.injEq, Prod.mk.injEq, true_and] at h
    obtain ⟨rfl, rfl⟩ := h
    exact wp_val (r := .func (.func f) #[] (caps.map a.eval)) (w' := w) (by simp [execOp, ho, Instr.makeFunc]) (hk.same hr (.clo f _ _ (by simp) (fun i d hd => by
      simp only [List.getElem?_map, Option.map_eq_some_iff] at hd
      obtain ⟨x, hx, rfl⟩ := hd
      have hlt : i < caps.size := by simpa using (List.getElem?_eq_some_iff.1 hx).1
      have hx' : caps[i] = x := by simpa [hlt] using hx
      have := hr.ev x
      simpa [hlt, hx'] using this)))
  · -- builtin
    rename_i b args ats ho
    exact evBuiltin_ok hT h ho hr hit hk
  · -- call
    rename_i f args ats ho
    obtain ⟨gl, hgl, hE, _⟩ := hE
    have enter : ∀ {fid : FuncId} {cs : Array Value}, Callable P fid → a.eval f = .func (.func fid) #[] cs → (execOp a.eval o).run P w = .ok (.enter fid (args.map a.eval ++ cs)) w := fun {fid cs} hc hv' => by
      obtain ⟨fn, hfn, hbody, hname⟩ := hc
      have hb' : ¬ fn.body = none := by intro e; simp [e] at hbody
      have hn' : ¬ fn.name = "runtime.NumGoroutine" := by simpa using hname
      simp [execOp, ho, resolve, hv', Deferred.ofValue, invoke, callFunc, hfn, hb', hn']
    split at h
    · rename_i fid hf
      have hv := hr.ev f
      rw [hf] at hv
      have hv' : a.eval f = .func (.func fid) #[] #[] := hv.val
      split at h
      · rename_i hx
        split at h
        · rename_i c' d' hd
          simp only [Option.some.injEq, Prod.mk.injEq] at h
          obtain ⟨rfl, rfl, rfl⟩ := h
          have hvals : ∀ i d, ((evL tb t ats.toList args.toList).map kp1)[i]? = some d → KR g.K w d ((args.map a.eval).getD i undef) := fun i d hd => by
            simp only [List.getElem?_map, Option.map_eq_some_iff] at hd
            obtain ⟨d0, hd0, rfl⟩ := hd
            obtain ⟨x, hx, hv0⟩ := hr.evL _ _ i d0 hd0
            have hlt : i < args.size := by simpa using (List.getElem?_eq_some_iff.1 hx).1
            have hx' : args[i] = x := by simpa [hlt] using hx
            have := kp1_ok hv0
            simpa [hlt, hx'] using this
          rcases hE.p _ _ _ hd with ⟨hcall0, hspec⟩ | hval
          rotate_left
          · obtain ⟨r, hrun, hkr⟩ := hval g.K w (args.map a.eval) (by simp [evL_len]) hvals
            exact wp_val (r := r) (w' := w) (by simp [execOp, ho, resolve, hv', Deferred.ofValue, invoke, hrun]) (hk.same hr (.kr _ _ hkr))
          have hcall := hspec g.K w (args.map a.eval) (hr.gl hgl) hr.kb (by simp [evL_len]) hvals
          unfold Oper.wp
          have hrun := enter hcall0 hv'
          rw [Array.append_empty] at hrun
          rw [hrun]
          show Calls P fid (args.map a.eval) w _
          refine hcall.mono fun e w' ⟨r, K', he, hK1, hK2, hK3, hres, hb⟩ => ?_
          subst he
          let g' : G := ⟨g.C, g.σ, g.ρ, K'⟩
          have hext : Ext g g' w w' := ⟨fun _ h => h, fun _ _ => rfl, fun _ _ => rfl, fun b o hk => ⟨hK1 b o hk, cell_of_below hb (hr.kb b o hk)⟩⟩
          exact hk r g' w' hext (fun i hi => .inl hi) (.kr _ _ hres) (hr.grow hb hext hK2 hK3)
        · cases h
      · rename_i e hx
        obtain ⟨hcall0, hspec⟩ := hE.x _ _ hx
        have hcall := callX_ok (rs := args.toList.map a.eval) hspec (by simp [evL_len]) (fun i d hd => by
          obtain ⟨x, hx, hv0⟩ := hr.evL _ _ i d hd
          simpa [hx] using hv0) h hr hfr (hr.gl hgl)
        unfold Oper.wp
        have hrun := enter hcall0 hv'
        rw [Array.append_empty] at hrun
        rw [hrun]
        show Calls P fid (args.map a.eval) w _
        have e1 : args.map a.eval = (args.toList.map a.eval).toArray := by apply Array.ext'; simp
        rw [e1]
        refine hcall.mono fun ex w' ⟨r, g', he, h1, h2, h3, h4⟩ => ?_
        subst he
        exact hk r g' w' h1 (fun i hi => (h2 i hi).imp (fun h => h) fun h => .inr (.inr h)) h3 h4
    · rename_i fid caps hf
      obtain ⟨cs, hv', hcs, hcc⟩ := (hf ▸ hr.ev f : VR g w (.clo fid caps) (a.eval f)).isClo
      split at h
      · cases h
      · rename_i e hx
        obtain ⟨hcall0, hspec⟩ := hE.x _ _ hx
        have hcall := callX_ok (rs := args.toList.map a.eval ++ cs.toList) hspec (by simp [hcs, evL_len]) (fun i d hd => by
          by_cases hi : i < args.size
          · rw [List.getElem?_append_left (by simpa [evL_len] using hi)] at hd
            obtain ⟨x, hx, hv0⟩ := hr.evL _ _ i d hd
            rw [List.getD_eq_getElem?_getD, List.getElem?_append_left (by simpa using hi), List.getElem?_map, hx]
            exact hv0
          · rw [List.getElem?_append_right (by simp [evL_len]; omega)] at hd
            have := hcc _ d hd
            rw [List.getD_eq_getElem?_getD, List.getElem?_append_right (by simp; omega)]
            simpa [evL_len] using this) h hr hfr (hr.gl hgl)
        unfold Oper.wp
        rw [enter hcall0 hv']
        show Calls P fid (args.map a.eval ++ cs) w _
        have e1 : args.map a.eval ++ cs = (args.toList.map a.eval ++ cs.toList).toArray := by
          apply Array.ext'
          simp
        rw [e1]
        refine hcall.mono fun ex w' ⟨r, g', he, h1, h2, h3, h4⟩ => ?_
        subst he
        exact hk r g' w' h1 (fun i hi => (h2 i hi).imp (fun h => h) fun h => .inr (.inr h)) h3 h4
    · cases h
  · cases h

end
end Go.Ev
