/- Codecs for what is handed over; entries of functions that are handed places. -/
import Derived.Test.YtflbjjpcjeinlaaGreatDoorCd
import Derived.Test.YtflbjjpcjeinlaaGreatDoorEvq
namespace Go.Ev
open Go Go.RowKit

/-- Data in the form in which it goes over. -/
structure Cx (A : Type) where
  enc : A → D
  dec : D → Option (Bool × A)
  ok : ∀ {x : D} {a : A}, dec x = some (true, a) → ∀ {tb K w av r L}, XR tb K w av x r L → XR tb K w av (enc a) r L

theorem XR.v' {tb : Tb} {K : Nat → Nat → Prop} {w : World} {av : List Value} {x : Value} {r : Value} {L : List Nat} (h : XR tb K w av (.v x) r L) : L = [] := by cases h; rfl
/-- A number that goes over. -/
def xNum (k : IntKind) : Cx Int where
  enc n := .v (.int k n)
  dec x := match decNum k x with | some n => some (true, n) | none => none
  ok := by
    intro x a h
    split at h
    · rename_i he; cases h; rw [decNum_ok he]; exact fun h => h
    · cases h
def xB : Cx Bool where
  enc b := .v (.bool b)
  dec x := match decBool x with | some n => some (true, n) | none => none
  ok := by
    intro x a h
    split at h
    · rename_i he; cases h; rw [decBool_ok he]; exact fun h => h
    · cases h
theorem XR.sl_congr {tb : Tb} {K : Nat → Nat → Prop} {w : World} {av : List Value} {sz n : Nat} {f g : Nat → List D} {p : Pm} {r : Value} {L : List Nat} (h : XR tb K w av (.sl sz n f p) r L) (hfg : ∀ i, i < n → f i = g i) (hp : p = .none ∨ ∃ E, p = .own E) : XR tb K w av (.sl sz n g p) r L := by
  cases h with
  | kr _ _ h =>
    rcases hp with rfl | ⟨E, rfl⟩
    · exact .kr _ _ (h.sl_congr hfg)
    · cases h
  | own _ _ _ E _ h ho => exact .own sz n g E r (h.sl_congr hfg) ho
theorem XR.sl_off {tb : Tb} {K : Nat → Nat → Prop} {w : World} {av : List Value} {sz n : Nat} {f g : Nat → List D} {r : Value} {L : List Nat} (h : XR tb K w av (.sl sz n f .none) r L) (hfg : ∀ i, i < n → f i = g i) : XR tb K w av (.sl sz n g .none) r L := h.sl_congr hfg (.inl rfl)
/-- A list that goes over, nothing said of its permission. -/
def Cs.xlist {A : Type} (c : Cs A) (sz : Nat) (z : A) : Cx (List A) where
  enc := slD c sz z
  dec x := match x with
    | .sl sz' n g .none => some (Nat.beq sz' sz && allS c n g, listS c z n g)
    | _ => none
  ok := by
    intro x a h tb K w av r L hr
    split at h
    · rename_i sz' n g
      simp only [Option.some.injEq, Prod.mk.injEq, Bool.and_eq_true] at h
      obtain ⟨⟨h1, h2⟩, rfl⟩ := h
      have h1 := Nat.eq_of_beq_eq_true h1
      subst h1
      have hl : (listS c z n g).length = n := by simp [listS]
      unfold slD
      rw [hl]
      refine hr.sl_off fun i hi => ?_
      have : isS c (g i) = true := by
        simp only [allS, List.all_eq_true, List.mem_range] at h2
        exact h2 i hi
      rw [isS_ok (z := z) this]
      congr 1
      simp [listS, hi]
    · cases h

/-! Entries. -/
theorem XRs.map {tb : Tb} {K : Nat → Nat → Prop} {w : World} {av : List Value} : ∀ {l l' : List D} {rs : List Value} {L : List Nat}, XRs tb K w av l rs L → l'.length = l.length → (∀ (i : Nat) d d', l[i]? = some d → l'[i]? = some d' → ∀ {r M}, XR tb K w av d r M → XR tb K w av d' r M) → XRs tb K w av l' rs L
  | _, l', _, _, .nil, hl, _ => by
    have : l' = [] := List.eq_nil_of_length_eq_zero (by simpa using hl)
    subst this; exact .nil
  | _, [], _, _, .cons _ _, hl, _ => by simp at hl
  | _, d' :: l', _, _, .cons hx hxl, hl, h => .cons (h 0 _ _ rfl rfl hx) (XRs.map hxl (by simpa using hl) fun i d e hd he => h (i + 1) d e (by simpa using hd) (by simpa using he))
theorem SpecX.args {P : Program} {gl : Gls} {tb : Tb} {f : FuncId} {args args' : List D} {d : D} {ys : List D} (hl : args'.length = args.length) (h : ∀ (i : Nat) x y, args[i]? = some x → args'[i]? = some y → ∀ {K w av r L}, XR tb K w av x r L → XR tb K w av y r L) (hs : SpecX P gl tb f args' d ys) : SpecX P gl tb f args d ys :=
  fun K w rs L hgl hk hx hn => hs K w rs L hgl hk (hx.map hl fun i d e hd he {_ _} hr => h i d e hd he hr) hn
/-- What comes back may be said less exactly. -/
theorem SpecX.res {P : Program} {gl : Gls} {tb : Tb} {f : FuncId} {args : List D} {d d' : D} {ys ys' : List D} (hl : ys'.length = ys.length) (h : ∀ (i : Nat) x y, (d :: ys)[i]? = some x → (d' :: ys')[i]? = some y → ∀ {K w av r L}, XR tb K w av x r L → XR tb K w av y r L) (hs : SpecX P gl tb f args d ys) : SpecX P gl tb f args d' ys' :=
  fun K w rs L hgl hk hx hn => (hs K w rs L hgl hk hx hn).mono fun e w' ⟨r, K', L', h1, h2, h3, h4, h5, h6⟩ => ⟨r, K', L', h1, h2, h3, h4, h5.map (by simp [hl]) fun i d e hd he {_ _} hr => h i d e hd he hr, h6⟩

section
variable {A B C E4 : Type} {P : Program} {gl : Gls} {tb : Tb} {f : FuncId}
def fx1 (c : Cx A) (k : A → Bool) (F : A → D × List D) : FeX
  | [x] => match c.dec x with | some (p, a) => some (p && k a, F a) | _ => none
  | _ => none
def fx2 (c : Cx A) (c2 : Cx B) (k : A → B → Bool) (F : A → B → D × List D) : FeX
  | [x, y] => match c.dec x, c2.dec y with | some (p, a), some (q, b) => some (p && (q && k a b), F a b) | _, _ => none
  | _ => none
def fx3 (c : Cx A) (c2 : Cx B) (c3 : Cx C) (k : A → B → C → Bool) (F : A → B → C → D × List D) : FeX
  | [x, y, z] => match c.dec x, c2.dec y, c3.dec z with | some (p, a), some (q, b), some (r, e) => some (p && (q && (r && k a b e)), F a b e) | _, _, _ => none
  | _ => none
def fx4 (c : Cx A) (c2 : Cx B) (c3 : Cx C) (c4 : Cx E4) (k : A → B → C → E4 → Bool) (F : A → B → C → E4 → D × List D) : FeX
  | [x, y, z, u] => match c.dec x, c2.dec y, c3.dec z, c4.dec u with | some (p, a), some (q, b), some (r, e), some (s, h) => some (p && (q && (r && (s && k a b e h))), F a b e h) | _, _, _, _ => none
  | _ => none
theorem entryX4 {c : Cx A} {c2 : Cx B} {c3 : Cx C} {c4 : Cx E4} {k : A → B → C → E4 → Bool} {F : A → B → C → E4 → D × List D} (hc : Callable P f) (hh : ∀ a b e h, k a b e h = true → SpecX P gl tb f [c.enc a, c2.enc b, c3.enc e, c4.enc h] (F a b e h).1 (F a b e h).2) : EntryX P gl tb f (fx4 c c2 c3 c4 k F) := ⟨hc, fun args d ys he => by
  unfold fx4 at he
  split at he
  · split at he
    · rename_i p0 v0 p1 v1 p2 v2 p3 v3 h0 h1 h2 h3
      simp only [Option.some.injEq, Prod.mk.injEq, Bool.and_eq_true] at he
      obtain ⟨⟨k0, k1, k2, k3, hk⟩, e⟩ := he
      subst k0 k1 k2 k3
      have := hh v0 v1 v2 v3 hk
      rw [e] at this
      refine SpecX.args (args' := [c.enc v0, c2.enc v1, c3.enc v2, c4.enc v3]) rfl (fun i x y hx hy {_ _ _ _ _} hr => ?_) this
      match i with
      | 0 => simp at hx hy; subst hx hy; exact c.ok h0 hr
      | 1 => simp at hx hy; subst hx hy; exact c2.ok h1 hr
      | 2 => simp at hx hy; subst hx hy; exact c3.ok h2 hr
      | 3 => simp at hx hy; subst hx hy; exact c4.ok h3 hr
      | i + 4 => simp at hx
    · cases he
  · cases he⟩
theorem entryX1 {c : Cx A} {k : A → Bool} {F : A → D × List D} (hc : Callable P f) (hh : ∀ a, k a = true → SpecX P gl tb f [c.enc a] (F a).1 (F a).2) : EntryX P gl tb f (fx1 c k F) := ⟨hc, fun args d ys he => by
  unfold fx1 at he
  split at he
  · split at he
    · rename_i p0 v0 h0
      simp only [Option.some.injEq, Prod.mk.injEq, Bool.and_eq_true] at he
      obtain ⟨⟨k0, hk⟩, e⟩ := he
      subst k0
      have := hh v0 hk
      rw [e] at this
      refine SpecX.args (args' := [c.enc v0]) rfl (fun i x y hx hy {_ _ _ _ _} hr => ?_) this
      match i with
      | 0 => simp at hx hy; subst hx hy; exact c.ok h0 hr
      | i + 1 => simp at hx
    · cases he
  · cases he⟩
theorem entryX2 {c : Cx A} {c2 : Cx B} {k : A → B → Bool} {F : A → B → D × List D} (hc : Callable P f) (hh : ∀ a b, k a b = true → SpecX P gl tb f [c.enc a, c2.enc b] (F a b).1 (F a b).2) : EntryX P gl tb f (fx2 c c2 k F) := ⟨hc, fun args d ys he => by
  unfold fx2 at he
  split at he
  · split at he
    · rename_i p0 v0 p1 v1 h0 h1
      simp only [Option.some.injEq, Prod.mk.injEq, Bool.and_eq_true] at he
      obtain ⟨⟨k0, k1, hk⟩, e⟩ := he
      subst k0 k1
      have := hh v0 v1 hk
      rw [e] at this
      refine SpecX.args (args' := [c.enc v0, c2.enc v1]) rfl (fun i x y hx hy {_ _ _ _ _} hr => ?_) this
      match i with
      | 0 => simp at hx hy; subst hx hy; exact c.ok h0 hr
      | 1 => simp at hx hy; subst hx hy; exact c2.ok h1 hr
      | i + 2 => simp at hx
    · cases he
  · cases he⟩
theorem entryX3 {c : Cx A} {c2 : Cx B} {c3 : Cx C} {k : A → B → C → Bool} {F : A → B → C → D × List D} (hc : Callable P f) (hh : ∀ a b e, k a b e = true → SpecX P gl tb f [c.enc a, c2.enc b, c3.enc e] (F a b e).1 (F a b e).2) : EntryX P gl tb f (fx3 c c2 c3 k F) := ⟨hc, fun args d ys he => by
  unfold fx3 at he
  split at he
  · split at he
    · rename_i p0 v0 p1 v1 p2 v2 h0 h1 h2
      simp only [Option.some.injEq, Prod.mk.injEq, Bool.and_eq_true] at he
      obtain ⟨⟨k0, k1, k2, hk⟩, e⟩ := he
      subst k0 k1 k2
      have := hh v0 v1 v2 hk
      rw [e] at this
      refine SpecX.args (args' := [c.enc v0, c2.enc v1, c3.enc v2]) rfl (fun i x y hx hy {_ _ _ _ _} hr => ?_) this
      match i with
      | 0 => simp at hx hy; subst hx hy; exact c.ok h0 hr
      | 1 => simp at hx hy; subst hx hy; exact c2.ok h1 hr
      | 2 => simp at hx hy; subst hx hy; exact c3.ok h2 hr
      | i + 3 => simp at hx
    · cases he
  · cases he⟩
end

/-- A box of three cells, the middle one a list of numbers. -/
theorem XR.box_congr {tb : Tb} {K : Nat → Nat → Prop} {w : World} {av : List Value} {T : TypeId} {c c' : List D} {r : Value} {L : List Nat} (h : XR tb K w av (.box T c) r L) (hl : c'.length = c.length) (hc : ∀ (i : Nat) d d', c[i]? = some d → c'[i]? = some d' → ∀ {r M}, XR tb K w av d r M → XR tb K w av d' r M) : XR tb K w av (.box T c') r L := by
  cases h with
  | kr _ _ h => cases h
  | box _ _ b cs Ls hh hs h1 hK hcc =>
    rw [← hl]
    refine .box T c' b cs Ls hh (hs.trans hl.symm) (fun j hj => h1 j (by omega)) hK (fun j d' hd' => ?_)
    have hj : j < c.length := by rw [← hl]; exact (List.getElem?_eq_some_iff.1 hd').1
    exact hc j _ d' (List.getElem?_eq_getElem hj) hd' (hcc j _ (List.getElem?_eq_getElem hj))
theorem XR.agg_congr {tb : Tb} {K : Nat → Nat → Prop} {w : World} {av : List Value} {c c' : List D} {r : Value} {L : List Nat} (h : XR tb K w av (.agg c) r L) (hl : c'.length = c.length) (hc : ∀ (i : Nat) d d', c[i]? = some d → c'[i]? = some d' → ∀ {r M}, XR tb K w av d r M → XR tb K w av d' r M) : XR tb K w av (.agg c') r L := by
  obtain ⟨cs, rfl, hs, h1, hx⟩ := h.isAgg
  have := hx.map hl hc
  obtain ⟨_, Ls, y2, y3⟩ := this.idx
  rw [y3]
  exact .agg _ cs Ls (hs.trans hl.symm) (fun j hj => h1 j (by omega)) (fun j d hd => by simpa using y2 j d hd)
end Go.Ev
