/- Maps: what the evaluator says of them holds: cells, keys, content. -/
import Derived.Test.YtflbjjpcjeinlaaGreatDoorEvh
import Derived.Test.YtflbjjpcjeinlaaGreatDoorEvs
namespace Go.Ev
open Go Go.RowKit

section
variable {P : Program} {tb : Tb}
theorem kdsOk_eq : ∀ {z : List D} {ks : List Kd}, kdsOk z ks = true → kdsZ z = ks ∧ plainC z z = true
  | [], [], _ => ⟨rfl, rfl⟩
  | [], _ :: _, h => by cases h
  | d :: z, [], h => by
    unfold kdsOk at h
    split at h <;> first | (cases h; done) | simp_all
  | d :: z, k :: ks, h => by
    unfold kdsOk at h
    split at h
    · simp_all
    · rename_i h1 h2
      cases h1; cases h2
      simp only [Bool.and_eq_true, decide_eq_true_eq] at h
      obtain ⟨rfl, h⟩ := h
      obtain ⟨h3, h4⟩ := kdsOk_eq h
      exact ⟨by simp [kdsZ, h3], by simp only [plainC, h4, Bool.and_true]; unfold ikEq; simp⟩
    · rename_i h1 h2
      cases h1; cases h2
      obtain ⟨h3, h4⟩ := kdsOk_eq h
      exact ⟨by simp [kdsZ, h3], by simp [plainC, h4]⟩
    · rename_i h1 h2
      cases h1; cases h2
      obtain ⟨h3, h4⟩ := kdsOk_eq h
      exact ⟨by simp [kdsZ, h3], by simp [plainC, h4]⟩
    · cases h
theorem kdsZ_len : ∀ {z c : List D}, plainC z c = true → (kdsZ z).length = z.length
  | [], [], _ => rfl
  | [], _ :: _, h => by cases h
  | _ :: _, [], h => by simp [plainC] at h
  | d :: z, e :: c, h => by
    unfold plainC at h
    split at h
    · simp_all
    · rename_i h1 h2; cases h1; cases h2; simp only [Bool.and_eq_true] at h; simp [kdsZ, kdsZ_len h.2]
    · rename_i h1 h2; cases h1; cases h2; simp [kdsZ, kdsZ_len h]
    · rename_i h1 h2; cases h1; cases h2; simp [kdsZ, kdsZ_len h]
    · cases h
/-- Plain cells are values. -/
theorem plain_vals : ∀ {z c : List D}, plainC z c = true → ∃ xs : List Value, c = xs.map D.v ∧ kdVs (kdsZ z) xs = true
  | [], [], _ => ⟨[], rfl, rfl⟩
  | [], _ :: _, h => by cases h
  | _ :: _, [], h => by simp [plainC] at h
  | d :: z, e :: c, h => by
    unfold plainC at h
    split at h
    · simp_all
    · rename_i k a z' k' a' l h1 h2
      cases h1; cases h2
      simp only [Bool.and_eq_true] at h
      obtain ⟨xs, rfl, h3⟩ := plain_vals h.2
      exact ⟨.int k' a' :: xs, rfl, by simp [kdsZ, kdVs, kdV, h3, (ikEq_eq h.1).symm]⟩
    · rename_i a z' a' l h1 h2
      cases h1; cases h2
      obtain ⟨xs, rfl, h3⟩ := plain_vals h
      exact ⟨.bool a' :: xs, rfl, by simp [kdsZ, kdVs, kdV, h3]⟩
    · rename_i a z' a' l h1 h2
      cases h1; cases h2
      obtain ⟨xs, rfl, h3⟩ := plain_vals h
      exact ⟨.string a' :: xs, rfl, by simp [kdsZ, kdVs, kdV, h3]⟩
    · cases h
theorem hitC_eq : ∀ {ks : List Kd} {xs ys : List Value}, kdVs ks xs = true → kdVs ks ys = true → ∀ zs : List D, hitC (xs.map D.v) (ys.map D.v ++ zs) = hitVs xs ys
  | [], [], [], _, _, zs => rfl
  | [], _ :: _, _, h, _, _ => by cases h
  | [], [], _ :: _, _, h, _ => by cases h
  | _ :: _, [], _, h, _, _ => by cases h
  | _ :: _, _ :: _, [], _, h, _ => by cases h
  | k :: ks, x :: xs, y :: ys, hx, hy, zs => by
    simp only [kdVs, Bool.and_eq_true] at hx hy
    have ih := hitC_eq hx.2 hy.2 zs
    have a := hx.1
    have b := hy.1
    simp only [List.map_cons, List.cons_append, hitVs]
    cases k <;> cases x <;> simp [kdV] at a <;> cases y <;> simp [kdV] at b <;> simp only [hitC, hitV, ih]
/-- An entry's cells, out of it. -/
theorem prjC_true : ∀ {z : List D} {ys : List Value}, kdVs (kdsZ z) ys = true → plainC z z = true → ∀ pre : List Value, prjC true ((pre ++ ys).map D.v) z pre.length = ys.map D.v
  | [], [], _, _, _ => rfl
  | [], _ :: _, h, _, _ => by cases h
  | d :: z, ys, h, hp, pre => by
    have at' : ∀ (y : Value) (r : List Value), ((pre ++ y :: r).map D.v).getD pre.length .no = D.v y := fun y r => by simp
    unfold plainC at hp
    split at hp
    · simp_all
    · rename_i k a z' k' a' l h1 h2
      cases h1; cases h2
      simp only [Bool.and_eq_true] at hp
      cases ys with
      | nil => cases h
      | cons y ys =>
        simp only [kdsZ, kdVs, Bool.and_eq_true] at h
        obtain ⟨nn, rfl⟩ : ∃ nn, y = .int k nn := by
          have hy := h.1
          cases y <;> simp [kdV] at hy
          subst hy
          exact ⟨_, rfl⟩
        have ih := prjC_true h.2 hp.2 (pre ++ [.int k nn])
        rw [List.append_assoc, List.length_append] at ih
        simp only [prjC, cond_true, List.map_cons, at', intD]
        exact congrArg _ ih
    · rename_i a z' a' l h1 h2
      cases h1; cases h2
      cases ys with
      | nil => cases h
      | cons y ys =>
        simp only [kdsZ, kdVs, Bool.and_eq_true] at h
        obtain ⟨nn, rfl⟩ : ∃ nn, y = .bool nn := by
          have hy := h.1
          cases y <;> simp [kdV] at hy
          exact ⟨_, rfl⟩
        have ih := prjC_true h.2 hp (pre ++ [.bool nn])
        rw [List.append_assoc, List.length_append] at ih
        simp only [prjC, cond_true, List.map_cons, at', boolD]
        exact congrArg _ ih
    · rename_i a z' a' l h1 h2
      cases h1; cases h2
      cases ys with
      | nil => cases h
      | cons y ys =>
        simp only [kdsZ, kdVs, Bool.and_eq_true] at h
        obtain ⟨nn, rfl⟩ : ∃ nn, y = .string nn := by
          have hy := h.1
          cases y <;> simp [kdV] at hy
          exact ⟨_, rfl⟩
        have ih := prjC_true h.2 hp (pre ++ [.string nn])
        rw [List.append_assoc, List.length_append] at ih
        simp only [prjC, cond_true, List.map_cons, at', strD]
        exact congrArg _ ih
    · cases hp
theorem prjC_false : ∀ {z : List D}, plainC z z = true → ∀ (l : List D) (j : Nat), prjC false l z j = z
  | [], _, _, _ => rfl
  | d :: z, hp, l, j => by
    unfold plainC at hp
    split at hp
    · simp_all
    · rename_i h1 h2
      cases h1; cases h2
      simp only [Bool.and_eq_true] at hp
      simp only [prjC, cond_false, prjC_false hp.2]
    · rename_i h1 h2
      cases h1; cases h2
      simp only [prjC, cond_false, prjC_false hp]
    · rename_i h1 h2
      cases h1; cases h2
      simp only [prjC, cond_false, prjC_false hp]
    · cases hp
/-- A zero value's cells. -/
theorem zero_vals : ∀ {z : List D} {vs : List Value}, plainC z z = true → zeroOk z vs = true → z = vs.map D.v ∧ kdVs (kdsZ z) vs = true
  | [], [], _, _ => ⟨rfl, rfl⟩
  | [], _ :: _, _, h => by cases h
  | _ :: _, [], _, h => by cases h
  | d :: z, v :: vs, hp, h => by
    simp only [zeroOk, Bool.and_eq_true] at h
    obtain ⟨h1, h2⟩ := h
    unfold plainC at hp
    split at hp
    · simp_all
    · rename_i k a z' k' a' l e1 e2
      cases e1; cases e2
      simp only [Bool.and_eq_true] at hp
      obtain ⟨h3, h4⟩ := zero_vals hp.2 h2
      cases v <;> simp [cellOk] at h1
      obtain ⟨rfl, rfl⟩ := h1
      exact ⟨by rw [List.map_cons, ← h3], by simp [kdsZ, kdVs, kdV, h4]⟩
    · rename_i a z' a' l e1 e2
      cases e1; cases e2
      obtain ⟨h3, h4⟩ := zero_vals hp h2
      cases v <;> simp [cellOk] at h1
      subst h1
      exact ⟨by rw [List.map_cons, ← h3], by simp [kdsZ, kdVs, kdV, h4]⟩
    · rename_i a z' a' l e1 e2
      cases e1; cases e2
      obtain ⟨h3, h4⟩ := zero_vals hp h2
      cases v <;> simp [cellOk] at h1
      rename_i s
      have e : a = s := by rw [h1.1, h1.2]
      subst e
      exact ⟨by rw [List.map_cons, ← h3], by simp [kdsZ, kdVs, kdV, h4]⟩
    · cases hp
theorem zero_ok : ∀ {z : List D} {zs : List Value}, plainC z z = true → zeroOk z zs = true → ∀ x ∈ zs, okV x = true
  | [], [], _, _, x, hx => by cases hx
  | [], _ :: _, _, h, _, _ => by cases h
  | _ :: _, [], _, h, _, _ => by cases h
  | d :: z, v :: vs, hp, h, x, hx => by
    simp only [zeroOk, Bool.and_eq_true] at h
    obtain ⟨h1, h2⟩ := h
    have hp' : plainC z z = true := by
      unfold plainC at hp
      split at hp
      · simp_all
      · rename_i e1 e2; cases e1; cases e2; simp only [Bool.and_eq_true] at hp; exact hp.2
      · rename_i e1 e2; cases e1; cases e2; exact hp
      · rename_i e1 e2; cases e1; cases e2; exact hp
      · cases hp
    rcases List.mem_cons.1 hx with rfl | hx
    · cases x <;> first | rfl | skip
      rename_i s
      cases d <;> simp only [cellOk, Bool.false_eq_true] at h1
      rename_i y
      cases y <;> simp at h1
      rw [h1.2]
      decide
    · exact zero_ok hp' h2 x hx
/-- What a map's type says. -/
structure MT (P : Program) (tb : Tb) (T k e : TypeId) (ki ei : Ti) : Prop where
  und : P.underlying T = some (.map k e)
  kt : kT P 8 k = some (kdsZ ki.zero)
  wide : wideT P k = true
  kagg : ki.d.isAgg = true
  klen : (kdsZ ki.zero).length = ki.size
  kv : ∀ l, mkV P k l = .agg l.toArray
  ev : ∀ l, mkV P e l = oneV ei.d.isAgg l
  kp : plainC ki.zero ki.zero = true
  ep : plainC ei.zero ei.zero = true
  zero : ∃ zs, (∀ w : World, (zeroValue e).run P w = .ok (mkV P e zs) w) ∧ ei.zero = zs.map D.v ∧ kdVs (kdsZ ei.zero) zs = true ∧ ∀ x ∈ zs, okV x = true
theorem mapT_ok (hT : TbOk P tb) {T k e : TypeId} {ki ei : Ti} (h : mapT tb T = some (k, e, ki, ei)) : MT P tb T k e ki ei := by
  unfold mapT at h
  split at h
  · rename_i k' e' _ _ _ _ hTs
    split at h
    · rename_i ki' ei' hk he
      split at h
      · rename_i hb
        cases h
        simp only [Bool.and_eq_true] at hb
        obtain ⟨hq, hagg, hpe⟩ := hb
        obtain ⟨_, sd, _, _, hsu, _, _, _, _, _, hsd, _⟩ := hT.info hTs
        obtain ⟨fk, dk, zk, hfk, huk, hsk, _, hzk, hzok, hzsk, hdk, _, heq⟩ := hT.info hk
        obtain ⟨fe, de, ze, hfe, hue, hse, _, hze, hzoe, hzse, hde, _, _⟩ := hT.info he
        have hund : P.underlying T = some (.map k e) := by
          cases sd <;> simp [descOk] at hsd
          obtain ⟨rfl, rfl⟩ := hsd
          exact hsu
        have heqk := heq hq
        unfold eqOk at heqk
        split at heqk
        · rename_i ks hks
          simp only [Bool.and_eq_true] at heqk
          obtain ⟨h1, h2⟩ := kdsOk_eq heqk.1
          have hwk : aggD dk = true := by
            cases dk <;> cases hd : ki.d <;> simp [descOk, hd] at hdk <;> simp [hd, Td.isAgg] at hagg <;> rfl
          have hkl : ki.zero.length = ki.size := by
            have := zeroOk_ok (g := ⟨fun _ => False, fun _ => 0, fun _ => undef, fun _ _ => False⟩) (w := default) hzok
            have h3 := this.1
            simp only [Array.length_toList] at h3
            omega
          have hev : ∀ l, mkV P e l = oneV ei.d.isAgg l := fun l => by
            unfold mkV oneV
            rw [hue]
            cases de <;> cases hd : ei.d <;> simp [descOk, hd] at hde <;> simp [Td.isAgg]
          obtain ⟨hz1, hz2⟩ := zero_vals hpe hzoe
          refine ⟨hund, by rw [hks, h1], ?_, hagg, by rw [kdsZ_len h2, hkl], fun l => ?_, hev, h2, hpe, ze.cells.toList, fun w => ?_, hz1, hz2, zero_ok hpe hzoe⟩
          · unfold wideT; rw [huk]; cases dk <;> simp [aggD] at hwk <;> rfl
          · unfold mkV; rw [huk]; cases dk <;> simp [aggD] at hwk <;> rfl
          · have hzv : mkV P e ze.cells.toList = ze := by
              have hza := hT.zagg he hfe hue hze
              unfold mkV
              rw [hue]
              cases ze <;> cases de <;> simp [zAgg, aggD] at hza <;> simp [Value.cells]
            rw [hzv]
            simp [zeroValue, typeInfo, hfe, hze]
        · cases heqk
      · cases h
    · cases h
  · cases h
end

/-! Content. -/
section
variable {tb : Tb} {T : TypeId} {es es' : Array MapEntry} {clock clock' n : Nat} {get : Nat → List D} {C : List (List Value × List Value)} {xs ys : List Value} {ks vs : List Kd}
theorem find_range {p : Nat → Bool} : ∀ (C : List (List Value × List Value)) (i : Nat), (∀ (j : Nat) c, C[j]? = some c → p (i + j) = hitVs xs c.1) → (List.range' i C.length).find? p = fndC xs C i
  | [], _, _ => rfl
  | c :: C, i, h => by
    have h0 := h 0 c rfl
    rw [Nat.add_zero] at h0
    rw [List.length_cons, List.range'_succ, List.find?_cons, h0, fndC]
    cases hitVs xs c.1 with
    | true => rfl
    | false =>
      simp only
      exact find_range C (i + 1) fun j c' hc => by
        have := h (j + 1) c' (by simpa using hc)
        rwa [show i + 1 + j = i + (j + 1) by omega]
theorem at_of {kc : List D} (hn : C.length = n) (h : ∀ (j : Nat) c, C[j]? = some c → hitC kc (get j) = hitVs xs c.1) : atM n get kc = (fndC xs C 0).getD n ∧ hasM n get kc = (fndC xs C 0).isSome := by
  have e := find_range (p := fun j => hitC kc (get j)) (xs := xs) C 0 (fun j c hc => by rw [Nat.zero_add]; exact h j c hc)
  rw [hn] at e
  unfold atM hasM
  rw [List.range_eq_range', e]
  refine ⟨rfl, ?_⟩
  rw [← e, Bool.eq_iff_iff, List.any_eq_true, List.find?_isSome]
/-- What is known of a map's content. -/
structure MC (T k e : TypeId) (ki ei : Ti) (es : Array MapEntry) (clock n : Nat) (get : Nat → List D) (C : List (List Value × List Value)) : Prop where
  len : C.length = n
  get : ∀ (j : Nat) c, C[j]? = some c → get j = (c.1 ++ c.2).map D.v ∧ ∀ x ∈ c.1 ++ c.2, okV x = true
  ok : MOk (oneV ki.d.isAgg) (oneV ei.d.isAgg) (kdsZ ki.zero) (kdsZ ei.zero) es clock C
variable {k e : TypeId} {ki ei : Ti}
theorem MC.of (h : MapC tb T es clock n get) (hm : mapT tb T = some (k, e, ki, ei)) : ∃ C, MC T k e ki ei es clock n get C := by
  obtain ⟨k', e', ki', ei', C, h1, h2, h3, h4⟩ := h
  rw [hm] at h1
  cases h1
  exact ⟨C, h2, h3, h4⟩
theorem MC.to (h : MC T k e ki ei es clock n get C) (hm : mapT tb T = some (k, e, ki, ei)) : MapC tb T es clock n get := ⟨k, e, ki, ei, C, hm, h.len, h.get, h.ok⟩
theorem MC.kd (h : MC T k e ki ei es clock n get C) {j : Nat} {c : List Value × List Value} (hc : C[j]? = some c) : kdVs (kdsZ ki.zero) c.1 = true ∧ kdVs (kdsZ ei.zero) c.2 = true := by
  have hj : j < es.size := by rw [h.ok.size]; exact (List.getElem?_eq_some_iff.1 hc).1
  obtain ⟨c', h1, _, _, h2, h3⟩ := h.ok.ent j es[j] (Array.getElem?_eq_getElem hj)
  rw [hc] at h1
  cases h1
  exact ⟨h2, h3⟩
theorem MC.hit (h : MC T k e ki ei es clock n get C) (hx : kdVs (kdsZ ki.zero) xs = true) {j : Nat} {c : List Value × List Value} (hc : C[j]? = some c) : hitC (xs.map D.v) (get j) = hitVs xs c.1 := by
  rw [(h.get j c hc).1, List.map_append]
  exact hitC_eq hx (h.kd hc).1 _
theorem MC.at' (h : MC T k e ki ei es clock n get C) (hx : kdVs (kdsZ ki.zero) xs = true) : atM n get (xs.map D.v) = (fndC xs C 0).getD n ∧ hasM n get (xs.map D.v) = (fndC xs C 0).isSome :=
  at_of h.len fun _ _ hc => h.hit hx hc
/-- Another content. -/
theorem MC.put (h : MC T k e ki ei es clock n get C) (hx : kdVs (kdsZ ki.zero) xs = true) (ho : ∀ x ∈ xs ++ ys, okV x = true) (hok : MOk (oneV ki.d.isAgg) (oneV ei.d.isAgg) (kdsZ ki.zero) (kdsZ ei.zero) es' clock' (putC xs ys C)) :
    MC T k e ki ei es' clock' (putN n get (xs.map D.v)) (putG n get (xs.map D.v) (ys.map D.v)) (putC xs ys C) := by
  obtain ⟨h1, h2⟩ := h.at' hx
  have hset : ∀ j0, fndC xs C 0 = some j0 → j0 < C.length := fun j0 hj => by
    obtain ⟨c, _, hc, _⟩ := fndC_some hj
    rw [Nat.sub_zero] at hc
    exact (List.getElem?_eq_some_iff.1 hc).1
  refine ⟨?_, fun j c hc => ?_, hok⟩
  · unfold putN putC
    rw [h2]
    cases fndC xs C 0 with
    | none => simp [h.len]
    | some j => simp [h.len]
  · unfold putG
    rw [h1]
    unfold putC at hc
    cases hf : fndC xs C 0 with
    | none =>
      rw [hf] at hc
      simp only [Option.getD_none] at hc ⊢
      by_cases hj : j < C.length
      · rw [List.getElem?_append_left hj] at hc
        rw [show Nat.beq j n = false by rw [← Bool.not_eq_true, Nat.beq_eq]; have := h.len; omega]
        exact h.get j c hc
      · rw [List.getElem?_append_right (by omega)] at hc
        have hj0 : j - C.length = 0 := by
          have := (List.getElem?_eq_some_iff.1 hc).1
          simp at this
          omega
        rw [hj0] at hc
        simp at hc
        subst hc
        rw [show Nat.beq j n = true by rw [Nat.beq_eq]; have := h.len; omega]
        exact ⟨by simp, ho⟩
    | some j0 =>
      rw [hf] at hc
      simp only [Option.getD_some] at hc ⊢
      by_cases hj : j0 = j
      · subst hj
        rw [List.getElem?_set_self (hset _ hf)] at hc
        cases hc
        rw [show Nat.beq j0 j0 = true by simp]
        exact ⟨by simp, ho⟩
      · rw [List.getElem?_set_ne hj] at hc
        rw [show Nat.beq j j0 = false by rw [← Bool.not_eq_true, Nat.beq_eq]; omega]
        exact h.get j c hc
theorem MC.del (h : MC T k e ki ei es clock n get C) (hx : kdVs (kdsZ ki.zero) xs = true) (hok : MOk (oneV ki.d.isAgg) (oneV ei.d.isAgg) (kdsZ ki.zero) (kdsZ ei.zero) es' clock' (delC xs C)) :
    MC T k e ki ei es' clock' (delN n get (xs.map D.v)) (delG n get (xs.map D.v)) (delC xs C) := by
  obtain ⟨h1, h2⟩ := h.at' hx
  refine ⟨?_, fun j c hc => ?_, hok⟩
  · unfold delN delC
    rw [h2]
    cases hf : fndC xs C 0 with
    | none => simp [h.len]
    | some j =>
      obtain ⟨c, _, hc, _⟩ := fndC_some hf
      rw [Nat.sub_zero] at hc
      have := (List.getElem?_eq_some_iff.1 hc).1
      simp only [Option.isSome_some, cond_true]
      rw [List.length_eraseIdx_of_lt this, h.len]
  · unfold delG
    rw [h1]
    unfold delC at hc
    cases hf : fndC xs C 0 with
    | none =>
      rw [hf] at hc
      simp only [Option.getD_none] at hc ⊢
      have hj := (List.getElem?_eq_some_iff.1 hc).1
      rw [show Nat.blt j n = true by rw [Nat.blt_eq]; have := h.len; omega]
      exact h.get j c hc
    | some j0 =>
      rw [hf] at hc
      simp only [Option.getD_some] at hc ⊢
      rw [List.getElem?_eraseIdx] at hc
      by_cases hj : j < j0
      · rw [if_pos hj] at hc
        rw [show Nat.blt j j0 = true by rw [Nat.blt_eq]; exact hj]
        exact h.get j c hc
      · rw [if_neg hj] at hc
        rw [show Nat.blt j j0 = false by rw [← Bool.not_eq_true, Nat.blt_eq]; exact hj]
        exact h.get (j + 1) c hc
/-- An entry's element, or what stands for it. -/
theorem MC.prj (h : MC T k e ki ei es clock n get C) (hx : kdVs (kdsZ ki.zero) xs = true) (hkl : (kdsZ ki.zero).length = ki.size) (hep : plainC ei.zero ei.zero = true) {zs : List Value} (hz : ei.zero = zs.map D.v) :
    prjC (hasM n get (xs.map D.v)) (get (atM n get (xs.map D.v))) ei.zero ki.size = (getC xs zs C).map D.v := by
  obtain ⟨h1, h2⟩ := h.at' hx
  rw [h1, h2]
  unfold getC
  cases hf : fndC xs C 0 with
  | none => simp only [Option.isSome_none]; rw [prjC_false hep, hz]
  | some j =>
    obtain ⟨c, _, hc, _⟩ := fndC_some hf
    rw [Nat.sub_zero] at hc
    obtain ⟨g1, g2⟩ := h.kd hc
    simp only [Option.isSome_some, Option.getD_some]
    rw [(h.get j c hc).1, show C.getD j ([], []) = c by simp [hc]]
    have := prjC_true g2 hep c.1
    rwa [kdVs_len g1, hkl] at this
end
end Go.Ev
