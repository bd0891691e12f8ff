/- Maps: the operations. -/
import Derived.Test.YtflbjjpcjeinlaaGreatDoorEvw
import Derived.Maps.RangeRun
import Derived.Carry
namespace Go.Ev
open Go Go.RowKit

section
variable {P : Program} {w0 : W0} {K0 : Nat → Nat → Prop} {tb : Tb} {env : Env} {t : List D} {m : Mem} {g : G} {a : Act} {w : World}

theorem cellsA_ok {agg : Bool} {z c : List D} {d : D} {r : Value} (hv : VR g w d r) (hc : cellsA agg d = some c) (hp : plainC z c = true) :
    ∃ xs : List Value, c = xs.map D.v ∧ kdVs (kdsZ z) xs = true ∧ r = oneV agg xs ∧ ∀ x ∈ xs, okV x = true := by
  obtain ⟨xs, hx, hk⟩ := plain_vals hp
  refine ⟨xs, hx, hk, ?_⟩
  unfold cellsA at hc
  split at hc
  · cases hc
    obtain ⟨cs, rfl, hl, _, hcc⟩ := hv.isAgg
    subst hx
    rw [List.length_map] at hl
    have hcs : ∀ i (h : i < xs.length), VR g w (.v xs[i]) (cs.getD i undef) := fun i h => hcc i _ (by simp [h])
    refine ⟨?_, fun x hm => ?_⟩
    · show Value.agg cs = .agg xs.toArray
      congr 1
      apply Array.ext
      · simp [hl]
      · intro i h1 h2
        have := (hcs i (by simpa using h2)).val
        rw [getD_of (Array.getElem?_eq_getElem h1)] at this
        simpa using this
    · obtain ⟨i, hi, rfl⟩ := List.getElem_of_mem hm
      exact (hcs i hi).okv
  · cases hc
    cases xs with
    | nil => cases hx
    | cons x r' =>
      simp only [List.map_cons, List.cons.injEq, D.v.injEq] at hx
      obtain ⟨rfl, h2⟩ := hx
      have h2 : r' = [] := List.map_eq_nil_iff.1 h2.symm
      subst h2
      exact ⟨hv.val, fun x hm => by simp at hm; subst hm; exact hv.okv⟩
  · cases hc
theorem kd_one : ∀ {ks : List Kd} {xs : List Value}, kdVs ks xs = true → ∀ x ∈ xs, oneC x = true
  | [], [], _, x, hx => by cases hx
  | [], _ :: _, h, _, _ => by cases h
  | _ :: _, [], h, _, _ => by cases h
  | k :: ks, y :: xs, h, x, hx => by
    simp only [kdVs, Bool.and_eq_true] at h
    rcases List.mem_cons.1 hx with rfl | hx
    · have a := h.1
      cases k <;> cases x <;> simp [kdV] at a <;> rfl
    · exact kd_one h.2 x hx
theorem oneD_ok {agg : Bool} {ks : List Kd} {xs : List Value} (hk : kdVs ks xs = true) (ho : ∀ x ∈ xs, okV x = true) : VR g w (oneD agg (xs.map D.v)) (oneV agg xs) := by
  cases agg with
  | true =>
    refine .agg _ _ (by simp) (fun i hi => ?_) (fun i d hd => ?_)
    · have hi : i < xs.length := by simpa using hi
      have : xs.toArray.getD i undef = xs[i] := by simp [hi]
      rw [this]
      exact kd_one hk _ (List.getElem_mem hi)
    · rw [List.getElem?_map, Option.map_eq_some_iff] at hd
      obtain ⟨x, hx, rfl⟩ := hd
      have : xs.toArray.getD i undef = x := by simp [hx]
      rw [this]
      exact .v x (ho x (List.mem_of_getElem? hx))
  | false =>
    cases xs with
    | nil => exact .no _
    | cons x r => exact .v x (ho x (by simp))
theorem getC_ok {T k e : TypeId} {ki ei : Ti} {es : Array MapEntry} {clock n : Nat} {get : Nat → List D} {C : List (List Value × List Value)} (h : MC T k e ki ei es clock n get C) {xs zs : List Value} (hz : kdVs (kdsZ ei.zero) zs = true) (hzo : ∀ x ∈ zs, okV x = true) :
    kdVs (kdsZ ei.zero) (getC xs zs C) = true ∧ ∀ x ∈ getC xs zs C, okV x = true := by
  unfold getC
  cases hf : fndC xs C 0 with
  | none => exact ⟨hz, hzo⟩
  | some j =>
    obtain ⟨c, _, hc, _⟩ := fndC_some hf
    rw [Nat.sub_zero] at hc
    simp only [show C.getD j ([], []) = c by simp [hc]]
    exact ⟨(h.kd hc).2, fun x hx => (h.get j c hc).2 x (by simp [hx])⟩
theorem MT.fk {T k e : TypeId} {ki ei : Ti} (h : MT P tb T k e ki ei) : oneV ki.d.isAgg = mkV P k := by
  funext l
  rw [h.kv, h.kagg]
  rfl
theorem MT.fe {T k e : TypeId} {ki ei : Ti} (h : MT P tb T k e ki ei) : oneV ei.d.isAgg = mkV P e := funext fun l => (h.ev l).symm
theorem map_at (hr : RS w0 K0 tb t (look m) g a w) {x : Operand} {i : Nat} (hx : ev t x = .mp i) : a.eval x = .map (some (g.σ i)) := by
  have := hr.ev x
  rw [hx] at this
  exact this.isMp.2
theorem prjC_congr {has : Bool} {l l' : List D} : ∀ (z : List D) (j : Nat), (∀ i, i < z.length → l.getD (j + i) .no = l'.getD (j + i) .no) → prjC has l z j = prjC has l' z j
  | [], _, _ => rfl
  | d :: z, j, h => by
    have ih : prjC has l z (j + 1) = prjC has l' z (j + 1) := prjC_congr z (j + 1) (fun i hi => by
      rw [show j + 1 + i = j + (i + 1) by omega]
      exact h (i + 1) (by simp only [List.length_cons]; omega))
    have h0 : l.getD j .no = l'.getD j .no := h 0 (by simp)
    cases d with
    | v x => cases x <;> simp only [prjC, ih, h0]
    | _ => simp only [prjC, ih]
/-- What is known where an operation meets a map. -/
theorem map_open (hT : TbOk P tb) (hr : RS w0 K0 tb t (look m) g a w) {i n : Nat} {T k e : TypeId} {ki ei : Ti} {get : Nat → List D} {ws : List Nat} (hl : look m i = some (.map T n get ws)) (hm : mapT tb T = some (k, e, ki, ei)) :
    MT P tb T k e ki ei ∧ ∃ es clock C, w.heap[g.σ i]? = some (.map es clock) ∧ MC T k e ki ei es clock n get C ∧ MOk (mkV P k) (mkV P e) (kdsZ ki.zero) (kdsZ ei.zero) es clock C := by
  obtain ⟨_, _, _, es, clock, hb, hM⟩ := hr.rm.mp i T n get ws hl
  have mt := mapT_ok hT hm
  obtain ⟨C, hC⟩ := MC.of hM hm
  exact ⟨mt, es, clock, C, hb, hC, by rw [← mt.fk, ← mt.fe]; exact hC.ok⟩
theorem key_open (hr : RS w0 K0 tb t (look m) g a w) {T k e : TypeId} {ki ei : Ti} (mt : MT P tb T k e ki ei) {ix : Operand} {kc : List D} (hc : cellsA true (evx tb k t ix) = some kc) (hp : plainC ki.zero kc = true) :
    ∃ xs : List Value, kc = xs.map D.v ∧ kdVs (kdsZ ki.zero) xs = true ∧ a.eval ix = mkV P k xs ∧ ∀ x ∈ xs, okV x = true := by
  obtain ⟨xs, h1, h2, h3, h4⟩ := cellsA_ok (hr.evx k ix) hc hp
  exact ⟨xs, h1, h2, by rw [h3, mt.kv]; rfl, h4⟩
theorem val_open (hr : RS w0 K0 tb t (look m) g a w) {T k e : TypeId} {ki ei : Ti} (mt : MT P tb T k e ki ei) {y : Operand} {vc : List D} (hc : cellsA ei.d.isAgg (evx tb e t y) = some vc) (hp : plainC ei.zero vc = true) :
    ∃ ys : List Value, vc = ys.map D.v ∧ kdVs (kdsZ ei.zero) ys = true ∧ a.eval y = mkV P e ys ∧ ∀ x ∈ ys, okV x = true := by
  obtain ⟨ys, h1, h2, h3, h4⟩ := cellsA_ok (hr.evx e y) hc hp
  exact ⟨ys, h1, h2, by rw [h3, mt.ev], h4⟩
theorem okV_app {xs ys : List Value} (h1 : ∀ x ∈ xs, okV x = true) (h2 : ∀ x ∈ ys, okV x = true) : ∀ x ∈ xs ++ ys, okV x = true := fun x hx => (List.mem_append.1 hx).elim (h1 x) (h2 x)
theorem upd_wp (hT : TbOk P tb) {id idt fr : Nat} {o : Oper} {d : D} {δ : Mem} {T : TypeId} {x ix y : Operand} (hex : (execOp a.eval o).run P w = ((Instr.mapUpdate T (a.eval x) (a.eval ix) (a.eval y)).run P w).andThen fun _ w' => .ok .skip w')
    (h : (match ev t x with
      | .mp i => match look m i, mapT tb T with
        | some (.map T' n g ws), some (k, e, ki, ei) => match cellsA true (evx tb k t ix), cellsA ei.d.isAgg (evx tb e t y) with
          | some kc, some vc => match Nat.beq T T' && (plainC ki.zero kc && plainC ei.zero vc) with
            | true => some (true, D.no, (i, Bx.map T (putN n g kc) (putG n g kc vc) []) :: killW m ws)
            | false => none
          | _, _ => none
        | _, _ => none
      | _ => none) = some (true, d, δ)) (hr : RS w0 K0 tb t (look m) g a w)
    {K : Act → World → Prop} {Q : Exit → Act → World → Prop} (hk : Kont w0 K0 tb t m g a w id idt fr o.dst d δ K) : o.wp P a w K Q := by
  split at h
  · rename_i i hx
    split at h
    · rename_i T' n get ws k e ki ei hl hm
      split at h
      · rename_i kc vc hkc hvc
        split at h
        · rename_i hb
          simp only [Option.some.injEq, Prod.mk.injEq, true_and] at h
          obtain ⟨rfl, rfl⟩ := h
          simp only [Bool.and_eq_true] at hb
          have := Nat.eq_of_beq_eq_true hb.1
          subst this
          obtain ⟨mt, es, clock, C, hh, hMC, hok⟩ := map_open hT hr hl hm
          obtain ⟨xs, rfl, hxs, hkv, hxo⟩ := key_open hr mt hkc hb.2.1
          obtain ⟨ys, rfl, hys, hyv, hyo⟩ := val_open hr mt hvc hb.2.2
          obtain ⟨es', clock', hrun, hok'⟩ := run_mapUpdate_kT (w := w) mt.wide mt.und mt.kt hxs hys hh hok
          have hok'' := hok'
          rw [← mt.fk, ← mt.fe] at hok''
          have hMC' := hMC.put hxs (okV_app hxo hyo) hok''
          obtain ⟨he, hrs⟩ := hr.mapSet hl (hMC'.to hm)
          exact wp_skp (by rw [hex, map_at hr hx, hkv, hyv, hrun]; rfl) (hk _ g _ he (fun i hi => .inl hi) (.no _) hrs)
        · cases h
      · cases h
    · cases h
  · cases h
/-- An operation on a map, or an interface made: what the evaluator says holds. -/
theorem evMap_ok (hT : TbOk P tb) {id idt fr : Nat} {o : Oper} {d : D} {δ : Mem} (h : evMap tb idt o t m = some (true, d, δ)) (hr : RS w0 K0 tb t (look m) g a w) (hit : ¬ g.C idt)
    {K : Act → World → Prop} {Q : Exit → Act → World → Prop} (hk : Kont w0 K0 tb t m g a w id idt fr o.dst d δ K) : o.wp P a w K Q := by
  unfold evMap at h
  split at h
  · -- makeMap
    rename_i T ho
    split at h
    · rename_i x hm
      obtain ⟨k, e, ki, ei⟩ := x
      simp only [Option.some.injEq, Prod.mk.injEq, true_and] at h
      obtain ⟨rfl, rfl⟩ := h
      obtain ⟨g', he, hC, hCid, hσ, hrs, hnew, _⟩ := hr.allocM hit (.map #[] 0)
      have hMC : MC T k e ki ei (#[] : Array MapEntry) 0 0 (fun _ => []) [] := ⟨rfl, fun j c hc => by simp at hc, ⟨rfl, fun j x hj => by simp at hj, fun j x hj => by simp at hj, fun i j x y hi => by simp at hi⟩⟩
      have hrm := hrs.rm.addMap (id := idt) (n := 0) (T := T) (get := fun _ => []) hCid (by rw [hσ]; exact .inr hr.ext.size) (by rw [hσ]; exact hnew) (hMC.to hm) (fun i b hB hi hne e => by
        have h1 := hr.rm.lt hi hB
        rw [he.σ i (hr.rm.C hi (isMp_bl hB)), hσ] at e
        omega) (fun q b hq ht => hit (hr.rm.T hq (tgI_sub ht)))
      refine wp_val (r := .map (some w.heap.size)) (w' := w.alloc (.map #[] 0)) (by simp only [execOp, ho, Option.map_none, Sem.run_bind, run_makeMap, Result.andThen_ok]; rfl) (hk _ g' _ he (fun i hi => (hC i hi).imp (fun h => h) fun h => .inr (.inl h)) ?_ ?_)
      · have := VR.mp (g := g') (w := w.alloc (.map #[] 0)) idt hCid
        rwa [hσ] at this
      · refine (hrs.relk (fun i b hb hi => ?_) hrm).congr fun j => look_cons _ _ m j
        by_cases e : idt = i
        · rw [if_pos e] at hi; cases hi; cases hb
        · rw [if_neg e] at hi; exact .inl hi
    · cases h
  · -- lookup
    rename_i T x ix ok ho
    split at h
    · rename_i i hx
      split at h
      · rename_i T' n get ws k e ki ei hl hm
        split at h
        · rename_i kc hkc
          split at h
          · rename_i hb
            simp only [Option.some.injEq, Prod.mk.injEq, true_and] at h
            obtain ⟨rfl, rfl⟩ := h
            simp only [Bool.and_eq_true] at hb
            have := Nat.eq_of_beq_eq_true hb.1
            subst this
            obtain ⟨mt, es, clock, C, hh, hMC, hok⟩ := map_open hT hr hl hm
            obtain ⟨xs, rfl, hxs, hkv, _⟩ := key_open hr mt hkc hb.2
            obtain ⟨zs, hz, hzz, hzk, hzo⟩ := mt.zero
            obtain ⟨v, hrun, hv⟩ := run_lookup_kT (w := w) mt.wide mt.und mt.kt hxs hh hok (hz w) ok
            have hvv : v = mkV P e (getC xs zs C) := by
              unfold getC
              rcases hv with ⟨h1, rfl⟩ | ⟨j, c, h1, h2, rfl⟩
              · rw [h1]
              · rw [h1]; simp [h2]
            obtain ⟨g1, g2⟩ := getC_ok hMC hzk hzo (xs := xs)
            have hpr := hMC.prj hxs mt.klen mt.ep hzz
            have hval : VR g w (oneD ei.d.isAgg (prjC (hasM n get (xs.map D.v)) (get (atM n get (xs.map D.v))) ei.zero ki.size)) v := by
              rw [hpr, hvv, mt.ev]
              exact oneD_ok g1 g2
            refine wp_val (by simp only [execOp, ho, map_at hr hx, hkv, Sem.run_bind, hrun, Result.andThen_ok]; rfl) (hk.same hr ?_)
            cases ok with
            | true =>
              refine .tup _ _ rfl fun i d hd => ?_
              match i with
              | 0 => simp at hd; subst hd; exact hval
              | 1 => simp at hd; subst hd; rw [(hMC.at' hxs).2]; exact .v _
              | i + 2 => simp at hd
            | false => exact hval
          · cases h
        · cases h
      · cases h
    · cases h
  · -- mapUpdate
    rename_i T x ix y ho
    exact upd_wp hT (by simp only [execOp, ho, Sem.run_bind]; rfl) h hr hk
  · -- insert
    rename_i T x ix y ho
    exact upd_wp hT (by simp only [execOp, ho, Sem.run_bind]; rfl) h hr hk
  · -- mapEntry
    rename_i T x ix ho
    split at h
    · rename_i i hx
      split at h
      · rename_i T' n get ws k e ki ei hl hm
        split at h
        · rename_i kc hkc
          split at h
          · rename_i hb
            simp only [Option.some.injEq, Prod.mk.injEq, true_and] at h
            obtain ⟨rfl, rfl⟩ := h
            simp only [Bool.and_eq_true] at hb
            have := Nat.eq_of_beq_eq_true hb.1
            subst this
            obtain ⟨mt, es, clock, C, hh, hMC, hok⟩ := map_open hT hr hl hm
            obtain ⟨xs, rfl, hxs, hkv, hxo⟩ := key_open hr mt hkc hb.2
            obtain ⟨zs, hz, hzz, hzk, hzo⟩ := mt.zero
            obtain ⟨g1, g2⟩ := getC_ok hMC hzk hzo (xs := xs)
            have hpr := hMC.prj hxs mt.klen mt.ep hzz
            obtain ⟨es', clock', j, x0, hrun, hok', hj, hfj⟩ := run_mapEntry_kT (w := w) mt.wide mt.und mt.kt hxs hz hzk hh hok
            have hok'' := hok'
            rw [← mt.fk, ← mt.fe] at hok''
            have hMC' := hMC.put hxs (okV_app hxo g2) hok''
            obtain ⟨he, hrs⟩ := hr.mapSet hl (hMC'.to hm)
            -- the stamp's own place
            obtain ⟨g', he', hC', hCid, hρ, hrs', hσ'⟩ := hrs.addC hit (.int .i64 x0.born)
            have hCi : g'.C i := he'.C i (hr.rm.C hl rfl)
            have hne : i ≠ idt := fun e => hit (e ▸ hr.rm.C hl rfl)
            have hat := hMC'.at' hxs
            rw [hfj] at hat
            have hii : look ((i, .map T (putN n get (xs.map D.v)) (putG n get (xs.map D.v) ((getC xs zs C).map D.v)) []) :: killW m ws ++ m) i = some (.map T (putN n get (xs.map D.v)) (putG n get (xs.map D.v) ((getC xs zs C).map D.v)) []) := by
              rw [List.cons_append, look_cons, if_pos rfl]
            have hrw := hrs'.rm.watch hii hCid
            have hrm := hrw.addSt (id := idt) (i := i) (kc := xs.map D.v) hCid hCi hne (fun T1 n1 g1 ws1 hi => by
              rw [if_pos rfl] at hi
              cases hi
              refine ⟨by simp, es', clock', j, x0, ?_, hj, hρ, hat.1, (getC xs zs C).map D.v, ?_⟩
              · rw [hσ']
                exact putB_same hh
              · have hjj : j = atM n get (xs.map D.v) := by
                  rw [fndC_put hxs, Option.some.injEq] at hfj
                  rw [(hMC.at' hxs).1, ← hfj, hMC.len]
                unfold putG
                rw [hjj, show Nat.beq (atM n get (xs.map D.v)) (atM n get (xs.map D.v)) = true by simp])
            have hfin := hrs'.relk (fun q b hb hq => by
              by_cases e : idt = q
              · rw [if_pos e] at hq; cases hq; cases hb
              · rw [if_neg e] at hq
                by_cases e' : i = q
                · rw [if_pos e'] at hq; cases hq; cases hb
                · rw [if_neg e'] at hq; exact .inl hq) hrm
            rw [hpr] at hk
            refine wp_val (by simp only [execOp, ho, map_at hr hx, hkv, Sem.run_bind, hrun, Result.andThen_ok]; rfl) (hk _ g' _ (he.trans he') (fun q hq => (hC' q hq).imp (fun h => h) fun h => .inr (.inl h)) ?_ (hfin.congr fun q => by
              rw [List.cons_append, look_cons, List.cons_append, look_cons, List.cons_append, look_cons]
              by_cases e : idt = q
              · rw [if_pos e, if_pos e]
              · rw [if_neg e, if_neg e]
                by_cases e' : i = q
                · rw [if_pos e', if_pos e']
                · rw [if_neg e', if_neg e', if_neg e']))
            refine .tup _ _ rfl fun q d hd => ?_
            match q with
            | 0 => simp at hd; subst hd; rw [mt.ev]; exact oneD_ok g1 g2
            | 1 =>
              simp at hd; subst hd
              have := VR.stm (g := g') (w := putB w (g.σ i) (.map es' clock')) idt hCid
              rwa [hρ] at this
            | q + 2 => simp at hd
          · cases h
        · cases h
      · cases h
    · cases h
  · -- entryStore
    rename_i T x st y ho
    split at h
    · rename_i i q hx hst
      split at h
      · rename_i T' n get ws i' kc k e ki ei hl hlq hm
        split at h
        · rename_i vc hvc
          split at h
          · rename_i hb
            simp only [Option.some.injEq, Prod.mk.injEq, true_and] at h
            obtain ⟨rfl, rfl⟩ := h
            simp only [Bool.and_eq_true] at hb
            obtain ⟨hb1, hb2, hb3, hb4⟩ := hb
            have := Nat.eq_of_beq_eq_true hb1
            subst this
            have := Nat.eq_of_beq_eq_true hb2
            subst this
            have hkl := Nat.eq_of_beq_eq_true hb3
            obtain ⟨mt, es, clock, C, hh, hMC, hok⟩ := map_open hT hr hl hm
            obtain ⟨ys, rfl, hys, hyv, hyo⟩ := val_open hr mt hvc hb4
            obtain ⟨_, _, hs⟩ := hr.rm.st q i kc hlq
            obtain ⟨_, es1, cl1, j, x0, f1, f2, f3, f4, vc0, f5⟩ := hs T n get ws hl
            rw [hh] at f1
            cases f1
            obtain ⟨c, hc, e1, e2, e3, e4⟩ := hok.ent j x0 f2
            have hstv : a.eval st = .int .i64 x0.born := by
              have := hr.ev st
              rw [hst] at this
              rw [this.isStm.2, f3]
            obtain ⟨es', hrun, hok'⟩ := run_entryStore_kT (w := w) (P := P) (k := k) (e := e) (t := T) hys hh hok f2 hc
            have hok'' := hok'
            rw [← mt.fk, ← mt.fe] at hok''
            obtain ⟨d1, d2⟩ := hMC.get j c hc
            have hkc : kc = c.1.map D.v := by
              rw [f5, List.map_append] at d1
              have hlen : kc.length = (c.1.map D.v).length := by rw [List.length_map, kdVs_len (hMC.kd hc).1, mt.klen, hkl]
              exact (List.append_inj d1 hlen).1
            have hMC' : MC T k e ki ei es' clock n (putG n get kc (ys.map D.v)) (C.set j (c.1, ys)) := by
              refine ⟨by rw [List.length_set]; exact hMC.len, fun i c' hc' => ?_, hok''⟩
              unfold putG
              rw [f4]
              by_cases hji : j = i
              · subst hji
                rw [List.getElem?_set_self (List.getElem?_eq_some_iff.1 hc).1] at hc'
                cases hc'
                rw [show Nat.beq j j = true by simp, hkc]
                exact ⟨by simp, okV_app (fun x hx => d2 x (by simp [hx])) hyo⟩
              · rw [List.getElem?_set_ne hji] at hc'
                rw [show Nat.beq i j = false by rw [← Bool.not_eq_true, Nat.beq_eq]; omega]
                exact hMC.get i c' hc'
            obtain ⟨he, hrs⟩ := hr.mapSet hl (hMC'.to hm)
            exact wp_skp (by simp only [execOp, ho, map_at hr hx, hstv, hyv, Sem.run_bind, hrun, Result.andThen_ok]; rfl) (hk _ g _ he (fun i hi => .inl hi) (.no _) hrs)
          · cases h
        · cases h
      · cases h
    · cases h
  · -- range
    rename_i T x ho
    split at h
    · rename_i i hx
      split at h
      · rename_i T' n get ws y hl hm
        obtain ⟨k, e, ki, ei⟩ := y
        split at h
        · rename_i hb
          simp only [Option.some.injEq, Prod.mk.injEq, true_and] at h
          obtain ⟨rfl, rfl⟩ := h
          have := Nat.eq_of_beq_eq_true hb
          subst this
          obtain ⟨mt, es, clock, C, hh, hMC, hok⟩ := map_open hT hr hl hm
          obtain ⟨g', he, hC, hCid, hσ, hrs, hnew, _⟩ := hr.allocM hit (.mapIter (some (g.σ i)) clock #[] clock)
          have hCi := hr.rm.C hl rfl
          have hne : i ≠ idt := fun e => hit (e ▸ hCi)
          have hrw := hrs.rm.watch hl hCid
          have hrm := hrw.addIt (id := idt) (i := i) (sn := []) hCid (he.C i hCi) (by rw [hσ]; exact .inr hr.ext.size) (by rw [hσ]; exact hnew) hne (fun T1 n1 g1 ws1 hi => by
            rw [if_pos rfl] at hi
            cases hi
            refine ⟨by simp, (he.σ i hCi).symm, es, clock, ?_, ⟨fun j hj => (by cases hj), rfl, hok.born, Nat.le_refl _, fun h => absurd rfl h, Nat.le_refl _⟩⟩
            rw [he.σ i hCi]
            have hb2 : Below w.heap.size w (w.alloc (.mapIter (some (g.σ i)) clock #[] clock)) := (Below.refl _ _).alloc (Nat.le_refl _) _
            exact (hb2.block _ (hr.rm.lt hl rfl)).trans hh) (fun q b hB hq hneq e => by
            have hq' : ∃ b, isBl b = true ∧ look m q = some b := by
              by_cases e' : i = q
              · subst e'; exact ⟨_, rfl, hl⟩
              · rw [if_neg e'] at hq; exact ⟨b, hB, hq⟩
            obtain ⟨b, hB, hq⟩ := hq'
            have h1 := hr.rm.lt hq hB
            rw [he.σ q (hr.rm.C hq (isMp_bl hB)), hσ] at e
            omega)
          refine wp_val (r := .pointer (some ⟨w.heap.size, 0, none⟩)) (w' := w.alloc (.mapIter (some (g.σ i)) clock #[] clock)) (by
            simp only [execOp, ho, map_at hr hx, Instr.range, Sem.run_bind, run_underlying mt.und, Result.andThen_ok, MapKept.run_getObj_map hh]
            rfl) (hk _ g' _ he (fun i hi => (hC i hi).imp (fun h => h) fun h => .inr (.inl h)) ?_ ?_)
          · have := VR.it (g := g') (w := w.alloc (.mapIter (some (g.σ i)) clock #[] clock)) idt hCid
            rwa [hσ] at this
          · refine (hrs.relk (fun q b hb hq => ?_) hrm).congr fun q => by rw [List.cons_append, look_cons, List.cons_append, look_cons]; rfl
            by_cases e : idt = q
            · rw [if_pos e] at hq; cases hq; cases hb
            · rw [if_neg e] at hq
              by_cases e' : i = q
              · rw [if_pos e'] at hq; cases hq; cases hb
              · rw [if_neg e'] at hq; exact .inl hq
        · cases h
      · cases h
    · cases h
  · -- entry
    rename_i x ho
    split at h
    · rename_i q hx
      split at h
      · rename_i i j sn hlq
        split at h
        · rename_i T n get ws hl
          split at h
          · rename_i k e ki ei hm
            simp only [Option.some.injEq, Prod.mk.injEq] at h
            obtain ⟨hlt, rfl, rfl⟩ := h
            rw [Nat.blt_eq] at hlt
            obtain ⟨mt, es, clock, C, hh, hMC, hok⟩ := map_open hT hr hl hm
            obtain ⟨_, _, _, b, since, seen, last, f1, f2⟩ := hr.rm.it q i (j :: sn) hlq
            obtain ⟨_, rfl, es1, cl1, f3, f4⟩ := f2 T n get ws hl
            rw [hh] at f3
            cases f3
            have hj : j < es.size := f4.lt j (by simp)
            obtain ⟨c, hc, e1, e2, e3, e4⟩ := hok.ent j es[j] (Array.getElem?_eq_getElem hj)
            obtain ⟨d1, d2⟩ := hMC.get j c hc
            have hlast : last = clock := f4.cl (by simp)
            have hseen : seen = (sn.reverse.map (bornAt es)).toArray.push es[j].born := by
              rw [f4.sen]
              simp [bornAt, hj]
            have hxv : a.eval x = .pointer (some ⟨g.σ q, 0, none⟩) := by
              have := hr.ev x
              rw [hx] at this
              exact this.isIt.2
            have hrun := run_entry_at (P := P) w (g.σ q) (g.σ i) since (sn.reverse.map (bornAt es)).toArray es clock es[j] (by rw [f1, hseen, hlast]) hh (by simp) (by
              rw [List.nodup_iff_pairwise_ne, List.pairwise_iff_getElem]
              intro p r hp hr' hpr heq
              simp only [List.getElem_map, Array.getElem_toList] at heq
              have := hok.inj p r _ _ (Array.getElem?_eq_getElem (by simpa using hp)) (Array.getElem?_eq_getElem (by simpa using hr')) heq
              omega)
            have hk1 : prjC true (get j) ki.zero 0 = c.1.map D.v := by
              have := prjC_true (hMC.kd hc).1 mt.kp []
              rw [List.nil_append, List.length_nil] at this
              rw [d1, ← this]
              refine prjC_congr _ _ fun p hp => ?_
              have hp' : p < c.1.length := by rw [kdVs_len (hMC.kd hc).1, kdsZ_len mt.kp]; exact hp
              simp only [List.getD_eq_getElem?_getD, List.getElem?_map, Nat.zero_add]
              rw [List.getElem?_append_left hp']
            have hv1 : prjC true (get j) ei.zero ki.size = c.2.map D.v := by
              have := prjC_true (hMC.kd hc).2 mt.ep c.1
              rwa [kdVs_len (hMC.kd hc).1, mt.klen, ← d1] at this
            refine wp_val (by simp only [execOp, ho, hxv, Sem.run_bind, hrun, Result.andThen_ok]; rfl) (hk.same hr (.tup _ _ rfl fun p d hd => ?_))
            match p with
            | 0 =>
              simp at hd; subst hd
              rw [hk1]
              show VR g w _ es[j].key
              rw [e1, ← mt.fk]
              exact oneD_ok (hMC.kd hc).1 fun x hx => d2 x (by simp [hx])
            | 1 =>
              simp at hd; subst hd
              rw [hv1]
              show VR g w _ es[j].val
              rw [e2, ← mt.fe]
              exact oneD_ok (hMC.kd hc).2 fun x hx => d2 x (by simp [hx])
            | p + 2 => simp at hd
          · cases h
        · cases h
      · cases h
    · cases h
  · -- delete
    rename_i args ats ho
    split at h
    · rename_i x ix T r hargs hats
      split at h
      · rename_i i hx
        split at h
        · rename_i T' n get ws k e ki ei hl hm
          split at h
          · rename_i kc hkc
            split at h
            · rename_i hb
              simp only [Option.some.injEq, Prod.mk.injEq, true_and] at h
              obtain ⟨rfl, rfl⟩ := h
              simp only [Bool.and_eq_true] at hb
              have := Nat.eq_of_beq_eq_true hb.1
              subst this
              obtain ⟨mt, es, clock, C, hh, hMC, hok⟩ := map_open hT hr hl hm
              obtain ⟨xs, rfl, hxs, hkv, hxo⟩ := key_open hr mt hkc hb.2
              obtain ⟨args⟩ := args
              obtain ⟨ats⟩ := ats
              simp only at hargs hats
              subst hargs hats
              obtain ⟨es', hrun, hok'⟩ := run_delete_kT (w := w) (P := P) mt.wide mt.und mt.kt hxs hh hok (ats := ⟨T :: r⟩) rfl o.type
              have hok'' := hok'
              rw [← mt.fk, ← mt.fe] at hok''
              have hMC' := hMC.del hxs hok''
              obtain ⟨he, hrs⟩ := hr.mapSet hl (hMC'.to hm)
              refine wp_val (r := .tuple #[]) ?_ (hk _ g _ he (fun i hi => .inl hi) (.tup _ _ rfl fun p d hd => by simp at hd) hrs)
              simp [execOp, ho, resolve, invoke, builtin, map_at hr hx, hkv, hrun]
            · cases h
          · cases h
        · cases h
      · cases h
    · cases h
  · -- makeInterface
    rename_i T x ho
    split at h
    · cases h
    · rename_i hTs hno
      simp only [Option.some.injEq, Prod.mk.injEq, true_and] at h
      obtain ⟨rfl, rfl⟩ := h
      obtain ⟨_, sd, _, _, hsu, _, _, _, _, _, hsd, _⟩ := hT.info hTs
      refine wp_val (r := .iface T (a.eval x)) (w' := w) ?_ (hk.same hr (.ifc _ _ _ (hr.ev x)))
      cases sd <;> simp [descOk] at hsd <;> simp [execOp, ho, Instr.makeInterface, run_underlying hsu]
    · cases h
  · cases h
/-! An iteration's step. -/
theorem hasN_iff {x : Nat} : ∀ {l : List Nat}, hasN x l = true ↔ x ∈ l
  | [] => by simp [hasN]
  | y :: r => by
    have ih := @hasN_iff x r
    simp only [hasN]
    cases h : Nat.beq y x with
    | true => have := Nat.eq_of_beq_eq_true h; simp [this]
    | false =>
      have : x ≠ y := fun e => by subst e; simp at h
      simp [ih, this]
theorem RS.drew (h : RS w0 K0 tb t (look m) g a w) : Ext g g w w.drew ∧ RS w0 K0 tb t (look m) g a w.drew := by
  have hb : Below w.heap.size w w.drew := ⟨rfl, rfl, rfl, Nat.le_refl _, fun _ _ => rfl⟩
  have he : Ext g g w w.drew := ⟨fun _ h => h, fun _ _ => rfl, fun _ _ => rfl, fun b o hk => ⟨hk, rfl⟩⟩
  exact ⟨he, h.grow hb he (fun b o hk => .inl hk) h.kb⟩
/-- An iteration that has gone one entry on. -/
theorem RS.itStep (h : RS w0 K0 tb t (look m) g a w) {q i n j : Nat} {sn : List Nat} {T : TypeId} {get : Nat → List D} {ws : List Nat} (hq : look m q = some (.iter i sn)) (hi : look m i = some (.map T n get ws)) {since last : Nat} {seen : Array Nat} {es : Array MapEntry} {clock : Nat}
    (h1 : w.heap[g.σ q]? = some (.mapIter (some (g.σ i)) since seen last)) (h2 : w.heap[g.σ i]? = some (.map es clock)) (h3 : ItOk es clock since last seen sn) (hw : q ∈ ws) (hj : j < es.size) :
    Ext g g w (Go.Ev.putB w (g.σ q) (.mapIter (some (g.σ i)) since (seen.push (bornAt es j)) clock)) ∧ RS w0 K0 tb t (look ((q, .iter i (j :: sn)) :: m)) g a (Go.Ev.putB w (g.σ q) (.mapIter (some (g.σ i)) since (seen.push (bornAt es j)) clock)) := by
  obtain ⟨hCq, hCi, hm, _⟩ := h.rm.it q i sn hq
  have hne : i ≠ q := by rintro rfl; rw [hq] at hi; cases hi
  have hoth : ∀ z b, isBl b = true → look m z = some b → z ≠ q → g.σ z ≠ g.σ q := fun z b hB hz hzq e => by
    cases b with
    | map T1 n1 g1 ws1 =>
      obtain ⟨_, _, _, es1, cl1, f1, _⟩ := h.rm.mp z T1 n1 g1 ws1 hz
      rw [e, h1] at f1
      cases f1
    | iter j' sn' => exact hzq (h.rm.id z q j' i sn' sn hz hq e)
    | _ => cases hB
  have hlk : ∀ z, look ((q, .iter i (j :: sn)) :: m) z = if q = z then some (.iter i (j :: sn)) else look m z := fun z => look_cons _ _ _ _
  refine h.putB h1 rfl rfl hm (fun z b hb hz => ?_) ?_
  · rw [hlk] at hz
    by_cases e : q = z
    · rw [if_pos e] at hz; cases hz; cases hb
    · rw [if_neg e] at hz; exact .inl hz
  · have rm0 : RM w0 tb (fun z => if q = z then some .dead else look m z) g (Go.Ev.putB w (g.σ q) (.mapIter (some (g.σ i)) since (seen.push (bornAt es j)) clock)) := h.rm.mono fun z b hmb hz => by
      by_cases e : q = z
      · simp only [if_pos e] at hz; cases hz; cases hmb
      · simp only [if_neg e] at hz
        exact ⟨hz, ⟨h.rm.C hz hmb, fun x hx => h.rm.T hz hx⟩, rfl, fun hB => ⟨rfl, putB_other h1 (hoth z b hB hz (Ne.symm e))⟩⟩
    have rm1 := rm0.addIt (id := q) (i := i) (sn := j :: sn) hCq hCi hm (putB_same h1) hne (fun T1 n1 g1 ws1 hz => by
      simp only [if_neg (Ne.symm hne)] at hz
      rw [hi] at hz
      cases hz
      refine ⟨hw, rfl, es, clock, (putB_other h1 (hoth i _ rfl hi hne)).trans h2, ⟨fun x hx => ?_, ?_, h3.old, h3.sc, fun _ => rfl, h3.sc⟩⟩
      · rcases List.mem_cons.1 hx with rfl | hx
        · exact hj
        · exact h3.lt x hx
      · rw [h3.sen]; simp) (fun z b hB hz hzq => by
      simp only [if_neg (Ne.symm hzq)] at hz
      exact hoth z b hB hz hzq)
    have e : (fun z => look ((q, .iter i (j :: sn)) :: m) z) = fun z => if q = z then some (.iter i (j :: sn)) else (fun z => if q = z then some .dead else look m z) z := by
      funext z
      rw [hlk]
      by_cases e : q = z
      · simp [e]
      · simp [e]
    show RM w0 tb (fun z => look ((q, .iter i (j :: sn)) :: m) z) g _
    rw [e]
    exact rm1
theorem next_wp {o : Oper} {x : Operand} {q i n : Nat} {sn : List Nat} {T : TypeId} {get : Nat → List D} {ws : List Nat} (ho : o.op = .next x false) (hx : ev t x = .it q) (hq : look m q = some (.iter i sn)) (hi : look m i = some (.map T n get ws)) (hr : RS w0 K0 tb t (look m) g a w)
    {K : Act → World → Prop} {Q : Exit → Act → World → Prop} (hend : fullS n sn = true → K (a.put o.dst (.tuple #[.bool false])) w)
    (hstep : fullS n sn = false → ∀ j, j < n → hasN j sn = false → ∀ r w', VR g w' (.tup [.v (.bool true), .no, .no]) r → Ext g g w w' → RS w0 K0 tb t (look ((q, .iter i (j :: sn)) :: m)) g a w' → K (a.put o.dst r) w') : o.wp P a w K Q := by
  obtain ⟨_, _, _, b, since, seen, last, f1, f2⟩ := hr.rm.it q i sn hq
  obtain ⟨hw, rfl, es, clock, f3, f4⟩ := f2 T n get ws hi
  obtain ⟨_, _, _, es1, cl1, f5, k, e, ki, ei, C, m1, m2, m3, m4⟩ := hr.rm.mp i T n get ws hi
  rw [f3] at f5
  cases f5
  have hn : es.size = n := by rw [m4.size, m2]
  have hxv : a.eval x = .pointer (some ⟨g.σ q, 0, none⟩) := by
    have := hr.ev x
    rw [hx] at this
    exact this.isIt.2
  -- an entry has been seen just where its place has
  have hseen : ∀ j (hj : j < es.size), seen.contains es[j].born = true ↔ j ∈ sn := fun j hj => by
    rw [f4.sen]
    simp only [List.contains_toArray, List.contains_iff_mem, List.mem_map, List.mem_reverse]
    constructor
    · rintro ⟨j', h1, h2⟩
      have hj' := f4.lt j' h1
      have : j' = j := m4.inj j' j es[j'] es[j] (Array.getElem?_eq_getElem hj') (Array.getElem?_eq_getElem hj) (by
        unfold bornAt at h2
        rw [Array.getElem?_eq_getElem hj'] at h2
        exact h2)
      exact this ▸ h1
    · intro h1
      exact ⟨j, h1, by simp [bornAt, hj]⟩
  rcases run_next_at (P := P) w o.type (g.σ q) (g.σ i) since last seen es clock f1 f3 (fun y hy => by
      obtain ⟨j, hj, rfl⟩ := List.getElem_of_mem hy
      exact f4.old j _ (by rw [← Array.getElem?_toList, List.getElem?_eq_getElem hj])) f4.sl with ⟨h1, h2⟩ | ⟨y, hy, w1, hw1, h2⟩
  · refine wp_val (by simp only [execOp, ho, hxv, Sem.run_bind, h2, Result.andThen_ok]; rfl) (hend ?_)
    unfold fullS
    rw [List.all_eq_true]
    intro j hj
    rw [List.mem_range] at hj
    rw [hasN_iff, ← hseen j (by omega)]
    apply Classical.byContradiction
    intro hno
    have hmem : es[j] ∈ leftOf es seen := by
      unfold leftOf
      simp only [Array.mem_filter]
      exact ⟨Array.getElem_mem _, by simpa using hno⟩
    have := Array.size_pos_of_mem hmem
    omega
  · unfold leftOf at hy
    simp only [Array.toList_filter, List.mem_filter, Array.mem_toList_iff] at hy
    obtain ⟨hy1, hy2⟩ := hy
    obtain ⟨j, hj, rfl⟩ := Array.getElem_of_mem hy1
    have hjs : j ∉ sn := fun hc => by
      rw [(hseen j hj).2 hc] at hy2
      cases hy2
    have hfull : fullS n sn = false := by
      rw [← Bool.not_eq_true]
      unfold fullS
      rw [List.all_eq_true]
      intro hall
      exact hjs (hasN_iff.1 (hall j (by rw [List.mem_range]; omega)))
    have hb : bornAt es j = es[j].born := by simp [bornAt, hj]
    have step : ∀ w1, Ext g g w w1 → RS w0 K0 tb t (look m) g a w1 → w1.heap = w.heap → (Instr.next (.pointer (some ⟨g.σ q, 0, none⟩)) false o.type).run P w = .ok (.tuple #[.bool true, es[j].key, es[j].val]) (Go.Ev.putB w1 (g.σ q) (.mapIter (some (g.σ i)) since (seen.push es[j].born) clock)) → o.wp P a w K Q := fun w1 he hr1 hh h2 => by
      obtain ⟨he2, hr2⟩ := hr1.itStep hq hi (by rw [hh]; exact f1) (by rw [hh]; exact f3) f4 hw hj
      rw [hb] at he2 hr2
      refine wp_val (by simp only [execOp, ho, hxv, Sem.run_bind, h2, Result.andThen_ok]; rfl) (hstep hfull j (by omega) (by rw [← Bool.not_eq_true, hasN_iff]; exact hjs) _ _ ?_ (he.trans he2) hr2)
      refine .tup _ _ rfl fun p d hd => ?_
      match p with
      | 0 => simp at hd; subst hd; exact .v _
      | 1 => simp at hd; subst hd; exact .no _
      | 2 => simp at hd; subst hd; exact .no _
      | p + 3 => simp at hd
    rcases hw1 with rfl | rfl
    · exact step w1 ⟨fun _ h => h, fun _ _ => rfl, fun _ _ => rfl, fun b o hk => ⟨hk, rfl⟩⟩ hr rfl h2
    · obtain ⟨he, hr1⟩ := hr.drew
      exact step w.drew he hr1 rfl h2
end
end Go.Ev
