/- Configurations printed. -/
import Derived.Test.YtflbjjpcjeinlaaGreatDoorNi
namespace Go.Cb
open Go.Ev
def engT (c : Cf) : ByteArray := enginesL.getD (i64 (c.sh.kind - 1)).toNat noT
def headT (c : Cf) : ByteArray := bif c.sh.kind != 1 then engT c ++ (colonT ++ printN c.sh.cap.toNat) else engT c
def shareT (c : Cf) : ByteArray := printN c.a.toNat ++ slashT ++ printN c.b.toNat
def weightT (c : Cf) : ByteArray := weightsL.getD (i64 (c.by' - 1)).toNat noT
def kindT (d : Dm) : ByteArray := kindsL.getD (i64 (d.kind - 1)).toNat noT
def sideT (d : Dm) : ByteArray := sidesL.getD (i64 (d.side - 1)).toNat noT
def dimT (d : Dm) : ByteArray := kindT d ++ colonT ++ sideT d ++ colonT ++ printN d.step.toNat
/-- A configuration's words. -/
def wordsC (c : Cf) : List ByteArray := [headT c, printN c.sh.k.toNat, shareT c, weightT c] ++ (bif c.sh.s.n == 1 then [dimT c.sh.s.d0] else [dimT c.sh.s.d0, dimT c.sh.s.d1])
def cfgT (c : Cf) : ByteArray := bif cfgRight c then joinS (wordsC c) blankT else noT
def okSz (a b : ByteArray) : Bool := decide (a.size + b.size ≤ 4294967280)
def okNum (n : Int) : Bool := decide (0 ≤ n) && decide (n ≤ 9223372036854775807)
def prEnd (l : List ByteArray) : Option D := chk [decide ((joinS l blankT).size ≤ 4294967280)] (some (T (joinS l blankT)))
def dimChk (d : Dm) : List Bool := [bnd (i64 (d.kind - 1)) kindsL.length, okSz (kindT d) colonT, bnd (i64 (d.side - 1)) sidesL.length, okSz (kindT d ++ colonT) (sideT d), okSz (kindT d ++ colonT ++ sideT d) colonT, okNum d.step,
  okSz (kindT d ++ colonT ++ sideT d ++ colonT) (printN d.step.toNat)]
def prDims (c : Cf) (h : ByteArray) : Option D :=
  let one := i64 (0 + 1)
  let l := [h, printN c.sh.k.toNat, shareT c, weightT c]
  chk [okNum c.sh.k, okNum c.a, okSz (printN c.a.toNat) slashT, okNum c.b, okSz (printN c.a.toNat ++ slashT) (printN c.b.toNat), bnd (i64 (c.by' - 1)) weightsL.length]
    (bif decide (0 < c.sh.s.n) then chk (dimChk c.sh.s.d0) (bif decide (one < c.sh.s.n) then chk (dimChk c.sh.s.d1) (bif decide (i64 (one + 1) < c.sh.s.n) then none else prEnd (l ++ [dimT c.sh.s.d0, dimT c.sh.s.d1])) else prEnd (l ++ [dimT c.sh.s.d0]))
      else prEnd l)
def tree_Pr (c : Cf) : Option D := bif !cfgRight c then some (T noT) else chk [bnd (i64 (c.sh.kind - 1)) enginesL.length]
  (bif c.sh.kind != 1 then chk [okNum c.sh.cap, okSz colonT (printN c.sh.cap.toNat), okSz (engT c) (colonT ++ printN c.sh.cap.toNat)] (prDims c (engT c ++ (colonT ++ printN c.sh.cap.toNat))) else prDims c (engT c))
/-! What may be, in plain words. -/
structure DmIn (d : Dm) : Prop where
  k : d.kind = 1 ∨ d.kind = 2 ∨ d.kind = 3
  s : d.side = 1 ∨ d.side = 2
  t0 : 1 ≤ d.step
  t1 : d.step ≤ 128
theorem width_in (n : Int) : (n = 1 ∧ key_Width n = 32) ∨ (n = 2 ∧ key_Width n = 128) ∨ (n = 3 ∧ key_Width n = 8) ∨ key_Width n = 0 := by
  unfold key_Width key_WidthC
  by_cases h1 : n = 1
  · exact .inl ⟨h1, by rw [h1]; rfl⟩
  · by_cases h2 : n = 2
    · exact .inr (.inl ⟨h2, by rw [h2]; rfl⟩)
    · by_cases h3 : n = 3
      · exact .inr (.inr (.inl ⟨h3, by rw [h3]; rfl⟩))
      · have e1 : (n == 1) = false := by simpa using h1
        have e2 : (n == 2) = false := by simpa using h2
        have e3 : (n == 3) = false := by simpa using h3
        exact .inr (.inr (.inr (by rw [e1, e2, e3]; rfl)))
theorem dim_in {d : Dm} (h : dim_Right d = true) : DmIn d ∧ d.step ≤ key_Width d.kind := by
  unfold dim_Right dim_RightC at h
  simp only [Bool.cond_eq_ite, id, beq_iff_eq, decide_eq_true_eq] at h
  have hw := width_in d.kind
  split at h
  · split at h
    · rename_i h1 h2
      have h : d.step ≤ key_Width d.kind := by simpa using h
      exact ⟨⟨by omega, .inl h1, h2, by omega⟩, h⟩
    · cases h
  · split at h
    · split at h
      · rename_i h1 h2
        rename_i h3
        have h : d.step ≤ key_Width d.kind := by simpa using h
        exact ⟨⟨by omega, .inr (by assumption), by assumption, by omega⟩, h⟩
      · cases h
    · cases h
structure CfIn (c : Cf) : Prop where
  kind : c.sh.kind = 1 ∧ c.sh.cap = 0 ∨ (c.sh.kind = 2 ∨ c.sh.kind = 3) ∧ 1 ≤ c.sh.cap ∧ c.sh.cap ≤ 5000 ∧ c.sh.s.n = 1
  k0 : 1 ≤ c.sh.k
  k1 : c.sh.k ≤ 200
  by0 : c.by' = 1 ∨ c.by' = 2 ∨ c.by' = 3
  a0 : 1 ≤ c.a
  a1 : c.a ≤ c.b
  b1 : c.b ≤ 1048576
  d0 : DmIn c.sh.s.d0
  d1 : c.sh.s.n = 1 ∧ c.sh.s.d1 = dm0 ∨ c.sh.s.n = 2 ∧ DmIn c.sh.s.d1
theorem dmEq_eq {a b : Dm} (h : dmEq a b = true) : a = b := by
  obtain ⟨x, y, z⟩ := a
  obtain ⟨u, v, w⟩ := b
  simp only [dmEq, Bool.and_eq_true, beq_iff_eq] at h
  obtain ⟨rfl, rfl, rfl, _⟩ := h
  rfl
theorem sound_in {s : Sp} (h : prefix_Sound s = true) : DmIn s.d0 ∧ (s.n = 1 ∧ s.d1 = dm0 ∨ s.n = 2 ∧ DmIn s.d1) := by
  unfold prefix_Sound prefix_SoundC at h
  simp only [Bool.cond_eq_ite, id, beq_iff_eq] at h
  split at h
  · split at h
    · rename_i h1 h2
      exact ⟨(dim_in h2).1, .inl ⟨h1, dmEq_eq h⟩⟩
    · cases h
  · split at h
    · split at h
      · rename_i h1 h2
        exact ⟨(dim_in (by assumption)).1, .inr ⟨by assumption, (dim_in h).1⟩⟩
      · cases h
    · cases h
theorem cfg_in {c : Cf} (h : cfgRight c = true) : CfIn c := by
  simp only [cfgRight, Bool.and_eq_true, decide_eq_true_eq] at h
  obtain ⟨h1, h2, h3, h4⟩ := h
  have hr : 1 ≤ c.a ∧ c.a ≤ c.b ∧ c.b ≤ 1048576 := by
    unfold ratio_Right ratio_RightC at h4
    simp only [Bool.cond_eq_ite, id, decide_eq_true_eq] at h4
    (repeat' split at h4) <;> first | (cases h4; done) | exact ⟨by assumption, by assumption, by assumption⟩
  have hs : prefix_Sound c.sh.s = true := by
    cases hs : prefix_Sound c.sh.s with
    | true => rfl
    | false =>
      have : grid_Count c.sh.s = 0 := by unfold grid_Count; rw [hs]; rfl
      unfold lattice_May lattice_MayC at h1
      rw [this] at h1
      cases h1
  have hm : 1 ≤ c.sh.k ∧ c.sh.k ≤ 200 ∧ (c.sh.kind = 1 ∧ c.sh.cap = 0 ∨ (c.sh.kind = 2 ∨ c.sh.kind = 3) ∧ 1 ≤ c.sh.cap ∧ c.sh.cap ≤ 5000 ∧ c.sh.s.n = 1) := by
    unfold lattice_May lattice_MayC at h1
    simp only [Bool.cond_eq_ite, id, decide_eq_true_eq, beq_iff_eq] at h1
    (repeat' split at h1) <;> first | (cases h1; done) | skip
    all_goals (have h1 := h1; simp only [beq_iff_eq, decide_eq_true_eq] at h1; refine ⟨by omega, by omega, ?_⟩; omega)
  obtain ⟨s1, s2⟩ := sound_in hs
  exact ⟨hm.2.2, hm.1, hm.2.1, by omega, hr.1, hr.2.1, hr.2.2, s1, s2⟩
/-! Lengths. -/
theorem txtL_list (l : List Int) : (txtL l).data.toList = l.map fun n => UInt8.ofNat n.toNat := by
  unfold txtL strU8
  have e : ((List.range l.length).map fun i => (u8Of (getE (sNum .u8) 0 l i)).getD 0) = l := by
    apply List.ext_getElem
    · simp
    · intro i h1 h2
      simp only [List.getElem_map, List.getElem_range]
      show (u8Of [.v (.int .u8 (l.getD i 0))]).getD 0 = _
      simp [u8Of, ikEq, ikN, h2]
  rw [e]
  have f : ∀ (l : List Int) (r : ByteArray), (l.foldl (fun r n => r.push (UInt8.ofNat n.toNat)) r).data.toList = r.data.toList ++ l.map fun n => UInt8.ofNat n.toNat := by
    intro l
    induction l with
    | nil => intro r; simp
    | cons a l ih => intro r; rw [List.foldl_cons, ih]; simp
  rw [f]
  rfl
theorem size_list (s : ByteArray) : s.size = s.data.toList.length := Array.length_toList.symm
theorem printN_len (n : Nat) : (printN n).size ≤ 20 := by
  rw [size_list, printN, txtL_list]
  have := decR_len 20 n
  simp [digs]
  omega
theorem getD_len {m : Nat} {l : List ByteArray} (h : ∀ x ∈ l, x.size ≤ m) (i : Nat) : (l.getD i noT).size ≤ m := by
  rw [List.getD_eq_getElem?_getD]
  cases hi : l[i]? with
  | none => exact Nat.zero_le _
  | some x => exact h x (List.mem_of_getElem? hi)
theorem engT_len (c : Cf) : (engT c).size ≤ 7 := getD_len (by decide) _
theorem weightT_len (c : Cf) : (weightT c).size ≤ 7 := getD_len (by decide) _
theorem kindT_len (d : Dm) : (kindT d).size ≤ 4 := getD_len (by decide) _
theorem sideT_len (d : Dm) : (sideT d).size ≤ 3 := getD_len (by decide) _
theorem dimT_len (d : Dm) : (dimT d).size ≤ 29 := by
  have := kindT_len d; have := sideT_len d; have := printN_len d.step.toNat
  simp only [dimT, ByteArray.size_append]
  have e : colonT.size = 1 := rfl
  omega
theorem headT_len (c : Cf) : (headT c).size ≤ 28 := by
  have := engT_len c; have := printN_len c.sh.cap.toNat
  unfold headT
  have e : colonT.size = 1 := rfl
  cases c.sh.kind != 1
  · simp only [cond_false]; omega
  · simp only [cond_true, ByteArray.size_append]; omega
theorem shareT_len (c : Cf) : (shareT c).size ≤ 41 := by
  have := printN_len c.a.toNat; have := printN_len c.b.toNat
  simp only [shareT, ByteArray.size_append]
  have e : slashT.size = 1 := rfl
  omega
theorem joinS_len (l : List ByteArray) (m : Nat) (h : ∀ x ∈ l, x.size ≤ m) : (joinS l blankT).size ≤ l.length * (m + 1) := by
  rw [size_list]
  show ((Lib.join (l.map (·.data.toList)) [32])).length ≤ _
  unfold Lib.join
  induction l with
  | nil => simp [List.intercalate]
  | cons x l ih =>
    have ih := ih fun y hy => h y (by simp [hy])
    have hx := h x (by simp)
    rw [size_list] at hx
    cases l with
    | nil => simp [List.intercalate]; simp at hx; omega
    | cons y l =>
      rw [List.map_cons, List.map_cons, List.intercalate_cons_cons, List.length_append, List.length_append, List.length_singleton]
      rw [List.map_cons] at ih
      simp only [List.length_cons] at ih ⊢
      rw [Nat.add_mul (l.length + 1) 1 (m + 1)]
      omega
theorem num_ok {n : Int} (h0 : 0 ≤ n) (h1 : n ≤ 9223372036854775807) : okNum n = true := by unfold okNum; rw [decide_eq_true h0, decide_eq_true h1]; rfl
theorem sz_ok {a b : ByteArray} (h : a.size + b.size ≤ 4294967280) : okSz a b = true := decide_eq_true h
theorem bnd_ok3 {n : Int} {m : Nat} (h0 : 1 ≤ n) (h1 : n ≤ m) (h2 : m ≤ 3) : bnd (i64 (n - 1)) m = true := by
  rw [i64_in (by omega) (by omega)]
  unfold bnd
  rw [decide_eq_true (show (0 : Int) ≤ n - 1 by omega), decide_eq_true (show n - 1 < (m : Int) by omega)]
  rfl
theorem dimChk_ok {d : Dm} (h : DmIn d) : ∀ x ∈ dimChk d, x = true := by
  have a1 := kindT_len d; have a2 := sideT_len d; have a3 := printN_len d.step.toNat
  have := h.k; have := h.s; have := h.t0; have := h.t1
  have e : colonT.size = 1 := rfl
  intro x hx
  simp only [dimChk, List.mem_cons, List.not_mem_nil, or_false] at hx
  rcases hx with rfl | rfl | rfl | rfl | rfl | rfl | rfl
  · exact bnd_ok3 (by omega) (show d.kind ≤ 3 by omega) (by decide)
  · exact sz_ok (by omega)
  · exact bnd_ok3 (by omega) (show d.side ≤ 2 by omega) (by decide)
  · exact sz_ok (by rw [ByteArray.size_append]; omega)
  · exact sz_ok (by rw [ByteArray.size_append, ByteArray.size_append]; omega)
  · exact num_ok (by omega) (by omega)
  · exact sz_ok (by rw [ByteArray.size_append, ByteArray.size_append, ByteArray.size_append]; omega)
theorem prEnd_ok {l : List ByteArray} (h : ∀ x ∈ l, x.size ≤ 100) (hl : l.length ≤ 6) : prEnd l = some (T (joinS l blankT)) := by
  have := joinS_len l 100 h
  unfold prEnd
  rw [chk_eq (by
    intro x hx
    simp only [List.mem_singleton] at hx
    subst hx
    exact decide_eq_true (by omega))]
theorem tree_Pr_eq (c : Cf) : tree_Pr c = some (T (cfgT c)) := by
  unfold tree_Pr cfgT
  cases hc : cfgRight c with
  | false => rfl
  | true =>
    have h := cfg_in hc
    have := h.kind; have := h.k0; have := h.k1; have := h.by0; have := h.a0; have := h.a1; have := h.b1; have := h.d1
    have p1 := printN_len c.a.toNat; have p2 := printN_len c.b.toNat; have p3 := printN_len c.sh.cap.toNat; have p4 := printN_len c.sh.k.toNat
    have q1 := engT_len c; have q2 := weightT_len c; have q3 := dimT_len c.sh.s.d0; have q4 := dimT_len c.sh.s.d1; have q5 := headT_len c; have q6 := shareT_len c
    have e : colonT.size = 1 := rfl
    have e2 : slashT.size = 1 := rfl
    have dims : ∀ hd : ByteArray, hd.size ≤ 28 → prDims c hd = some (T (joinS ([hd, printN c.sh.k.toNat, shareT c, weightT c] ++ (bif c.sh.s.n == 1 then [dimT c.sh.s.d0] else [dimT c.sh.s.d0, dimT c.sh.s.d1])) blankT)) := by
      intro hd hhd
      unfold prDims
      rw [chk_eq (by
        intro x hx
        simp only [List.mem_cons, List.not_mem_nil, or_false] at hx
        rcases hx with rfl | rfl | rfl | rfl | rfl | rfl
        · exact num_ok (by omega) (by omega)
        · exact num_ok (by omega) (by omega)
        · exact sz_ok (by omega)
        · exact num_ok (by omega) (by omega)
        · exact sz_ok (by rw [ByteArray.size_append]; omega)
        · exact bnd_ok3 (by omega) (show c.by' ≤ 3 by omega) (by decide))]
      have z1 : i64 (0 + 1) = 1 := by decide
      have z2 : i64 (1 + 1) = 2 := by decide
      simp only [z1, z2]
      rw [decide_eq_true (show (0 : Int) < c.sh.s.n by omega), cond_true, chk_eq (dimChk_ok h.d0)]
      rcases h.d1 with ⟨n1, _⟩ | ⟨n2, hd1⟩
      · rw [n1, decide_eq_false (show ¬ (1 : Int) < 1 by omega), cond_false, show ((1 : Int) == 1) = true by decide, cond_true]
        refine prEnd_ok (fun x hx => ?_) (by simp)
        simp only [List.mem_append, List.mem_cons, List.not_mem_nil, or_false] at hx
        rcases hx with (rfl | rfl | rfl | rfl) | rfl <;> omega
      · rw [n2, decide_eq_true (show (1 : Int) < 2 by omega), cond_true, chk_eq (dimChk_ok hd1), decide_eq_false (show ¬ (2 : Int) < 2 by omega), cond_false, show ((2 : Int) == 1) = false by decide, cond_false]
        refine prEnd_ok (fun x hx => ?_) (by simp)
        simp only [List.mem_append, List.mem_cons, List.not_mem_nil, or_false] at hx
        rcases hx with (rfl | rfl | rfl | rfl) | rfl | rfl <;> omega
    rw [Bool.not_true, cond_false, cond_true, chk_eq (by
      intro x hx
      simp only [List.mem_singleton] at hx
      subst hx
      exact bnd_ok3 (by omega) (show c.sh.kind ≤ 3 by omega) (by decide))]
    unfold wordsC headT
    cases hk : c.sh.kind != 1 with
    | false => rw [cond_false, cond_false]; exact dims _ (by omega)
    | true =>
      rw [cond_true, cond_true, chk_eq (by
        intro x hx
        simp only [List.mem_cons, List.not_mem_nil, or_false] at hx
        rcases hx with rfl | rfl | rfl
        · exact num_ok (by omega) (by omega)
        · exact sz_ok (by omega)
        · exact sz_ok (by rw [ByteArray.size_append]; omega))]
      exact dims _ (by rw [ByteArray.size_append, ByteArray.size_append]; omega)
end Go.Cb
namespace Go.Proofs.YtflbjjpcjeinlaaGreatDoor
open Go.Ev Go.Cb
abbrev l_Pr : Ens := [(38, e_Join), (29, e_weights), (34, e_engines), (36, e_kinds), (37, e_sides), (35, e_digits), (14, e_cRight)]
theorem es_Pr : Es l_Pr := .cons ok_Join (.cons ok_weights (.cons ok_engines (.cons ok_kinds (.cons ok_sides (.cons ok_digits (.cons ok_cRight .nil))))))
theorem ev_cPrint (c : Cf) : evalF (envOf l_Pr) tb 4 Tryz.f9 [cCf.enc c] = tree_Pr c := by kernel_rfl
abbrev e_cPrint : Fe := fn1 cCf fun c => T (cfgT c)
theorem ok_cPrint : En 9 e_cPrint :=
  entry1 (callable Tryz.func9 (by kernel_rfl)) fun c => sp es_Pr Tryz.func9 4 ((ev_cPrint c).trans (tree_Pr_eq c))
end Go.Proofs.YtflbjjpcjeinlaaGreatDoor
