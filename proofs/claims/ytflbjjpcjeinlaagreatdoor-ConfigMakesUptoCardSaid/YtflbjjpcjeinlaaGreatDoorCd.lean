/- Codecs between plain data and the evaluator's; entries of an environment. -/
import Derived.Test.YtflbjjpcjeinlaaGreatDoorEvm
import Derived.Test.YtflbjjpcjeinlaaGreatDoorEvt
import Derived.Test.YtflbjjpcjeinlaaGreatDoorChecked
namespace Go.Ev
open Go Go.RowKit

/-- Data of a kind: how it is written, and how it is read: whether it is of the kind, and as what. -/
structure Cd (A : Type) where
  enc : A → D
  dec : D → Option (Bool × A)
  ok : ∀ {x : D} {a : A}, dec x = some (true, a) → ∀ {K w r}, KR K w x r → KR K w (enc a) r

/-- Read outright. -/
def Cd.of {A : Type} (enc : A → D) (dec : D → Option A) (ok : ∀ {x : D} {a : A}, dec x = some a → x = enc a) : Cd A where
  enc := enc
  dec x := match dec x with | some a => some (true, a) | none => none
  ok := by
    intro x a h K w r hr
    split at h
    · rename_i he; cases h; rw [← ok he]; exact hr
    · cases h

abbrev I (n : Int) : D := .v (.int .i64 n)
abbrev U (n : Int) : D := .v (.int .u64 n)
abbrev B (b : Bool) : D := .v (.bool b)
abbrev T (s : ByteArray) : D := .v (.string s)
abbrev NumD (k : IntKind) (n : Int) : D := .v (.int k n)

def decNum (k : IntKind) : D → Option Int
  | .v (.int k' n) => match ikEq k' k with | true => some n | false => none
  | _ => none
theorem decNum_ok {k : IntKind} {x : D} {n : Int} (h : decNum k x = some n) : x = .v (.int k n) := by
  unfold decNum at h
  split at h
  · split at h
    · rename_i hk; cases h; rw [ikEq_eq hk]
    · cases h
  · cases h
def cNum (k : IntKind) : Cd Int := .of (fun n => .v (.int k n)) (decNum k) decNum_ok
abbrev cI : Cd Int := cNum .i64
abbrev cU : Cd Int := cNum .u64
def decBool : D → Option Bool
  | .v (.bool b) => some b
  | _ => none
theorem decBool_ok {x : D} {b : Bool} (h : decBool x = some b) : x = .v (.bool b) := by
  unfold decBool at h
  split at h
  · cases h; rfl
  · cases h
def cB : Cd Bool := .of (fun b => .v (.bool b)) decBool decBool_ok
def decStr : D → Option ByteArray
  | .v (.string s) => some s
  | _ => none
theorem decStr_ok {x : D} {s : ByteArray} (h : decStr x = some s) : x = .v (.string s) := by
  unfold decStr at h
  split at h
  · cases h; rfl
  · cases h
def cT : Cd ByteArray := .of (fun s => .v (.string s)) decStr decStr_ok

/-! A struct: cells one behind the other. -/
structure Cs (A : Type) where
  enc : A → List D
  dec : List D → Option (A × List D)
  ok : ∀ {l : List D} {a : A} {r : List D}, dec l = some (a, r) → l = enc a ++ r
  re : ∀ a r, dec (enc a ++ r) = some (a, r)

def decAgg {A : Type} (c : Cs A) : D → Option A
  | .agg l => match c.dec l with
    | some (a, []) => some a
    | _ => none
  | _ => none
theorem decAgg_ok {A : Type} {c : Cs A} {x : D} {a : A} (h : decAgg c x = some a) : x = .agg (c.enc a) := by
  unfold decAgg at h
  split at h
  · split at h
    · rename_i h1; cases h; rw [c.ok h1, List.append_nil]
    · cases h
  · cases h
def Cs.agg {A : Type} (c : Cs A) : Cd A := .of (fun a => .agg (c.enc a)) (decAgg c) decAgg_ok

def sT : Cs ByteArray where
  enc s := [T s]
  dec
    | .v (.string s) :: r => some (s, r)
    | _ => none
  ok := by intro l a r h; split at h <;> cases h; rfl
  re := by intro a r; rfl
def sNum (k : IntKind) : Cs Int where
  enc n := [.v (.int k n)]
  dec
    | x :: r => match decNum k x with | some n => some (n, r) | none => none
    | _ => none
  ok := by
    intro l a r h
    split at h
    · split at h
      · rename_i h1; cases h; rw [decNum_ok h1]; rfl
      · cases h
    · cases h
  re := by intro a r; cases k <;> rfl

theorem KR.sl_congr {K : Nat → Nat → Prop} {w : World} {sz n : Nat} {f g : Nat → List D} {p : Pm} {r : Value} (h : KR K w (.sl sz n f p) r) (hfg : ∀ i, i < n → f i = g i) : KR K w (.sl sz n g .none) r := by
  cases h with
  | sl _ _ _ b off cap F hn hl hk hc => exact .sl sz n g b off cap F hn (fun i hi => by rw [← hfg i hi]; exact hl i hi) hk (fun i k d hi hd => hc i k d hi (by rw [hfg i hi]; exact hd))
  | sl0 _ _ a cap => exact .sl0 sz g a cap

/-! Lists of such. -/
def decS {A : Type} (c : Cs A) (z : A) (x : List D) : A := match c.dec x with | some (a, []) => a | _ => z
def isS {A : Type} (c : Cs A) (x : List D) : Bool := match c.dec x with | some (_, []) => true | _ => false
def allS {A : Type} (c : Cs A) (n : Nat) (g : Nat → List D) : Bool := (List.range n).all fun i => isS c (g i)
def listS {A : Type} (c : Cs A) (z : A) (n : Nat) (g : Nat → List D) : List A := (List.range n).map fun i => decS c z (g i)
theorem isS_enc {A : Type} (c : Cs A) (a : A) : isS c (c.enc a) = true := by
  unfold isS
  rw [show c.dec (c.enc a) = some (a, []) by have := c.re a []; rwa [List.append_nil] at this]
theorem decS_enc {A : Type} (c : Cs A) (z a : A) : decS c z (c.enc a) = a := by
  unfold decS
  rw [show c.dec (c.enc a) = some (a, []) by have := c.re a []; rwa [List.append_nil] at this]
theorem isS_ok {A : Type} {c : Cs A} {z : A} {x : List D} (h : isS c x = true) : x = c.enc (decS c z x) := by
  unfold isS at h
  split at h
  · rename_i a h1
    unfold decS
    rw [h1]
    have := c.ok h1
    rwa [List.append_nil] at this
  · cases h
theorem allS_enc {A : Type} (c : Cs A) (z : A) (l : List A) : allS c l.length (fun i => c.enc (l.getD i z)) = true := by simp [allS, isS_enc]
theorem listS_enc {A : Type} (c : Cs A) (z : A) (l : List A) : listS c z l.length (fun i => c.enc (l.getD i z)) = l := by
  unfold listS
  apply List.ext_getElem
  · simp
  · intro i h1 h2
    simp at h1
    simp [h1, decS_enc]
theorem allS_fn {A : Type} (c : Cs A) (n : Nat) (f : Nat → A) : allS c n (fun i => c.enc (f i)) = true := by simp [allS, isS_enc]
theorem listS_fn {A : Type} (c : Cs A) (z : A) (n : Nat) (f : Nat → A) : listS c z n (fun i => c.enc (f i)) = (List.range n).map f := by simp [listS, decS_enc]
/-- A list of elements of a struct's cells. -/
def slD {A : Type} (c : Cs A) (sz : Nat) (z : A) (l : List A) : D := .sl sz l.length (fun i => c.enc (l.getD i z)) .none
def decL {A : Type} (c : Cs A) (sz : Nat) (z : A) : D → Option (Bool × List A)
  | .sl sz' n g _ => some (Nat.beq sz' sz && allS c n g, listS c z n g)
  | _ => none
def Cs.list {A : Type} (c : Cs A) (sz : Nat) (z : A) : Cd (List A) where
  enc := slD c sz z
  dec := decL c sz z
  ok := by
    intro x a h K w r hr
    unfold decL at h
    split at h
    · rename_i sz' n g p
      simp only [Option.some.injEq, Prod.mk.injEq, Bool.and_eq_true] at h
      obtain ⟨⟨h1, h2⟩, rfl⟩ := h
      have h1 := Nat.eq_of_beq_eq_true h1
      subst h1
      have hl : (listS c z n g).length = n := by simp [listS]
      unfold slD
      rw [hl]
      refine hr.sl_congr fun i hi => ?_
      have : isS c (g i) = true := by
        simp only [allS, List.all_eq_true, List.mem_range] at h2
        exact h2 i hi
      rw [isS_ok (z := z) this]
      congr 1
      simp [listS, hi]
    · cases h
/-- Elements of a list, by their places. -/
abbrev getE {A : Type} (c : Cs A) (z : A) (l : List A) : Nat → List D := fun i => c.enc (l.getD i z)
abbrev roL {A : Type} (c : Cs A) (z : A) (l : List A) : List A := listS c z l.length (getE c z l)
abbrev okL {A : Type} (c : Cs A) (z : A) (l : List A) : Bool := allS c l.length (getE c z l)
/-- One put behind others. -/
def pushD {A : Type} (c : Cs A) (z : A) (m : Nat) (G : Nat → List D) (a : A) (j : Nat) : List D := match Nat.blt j m with | true => G j | false => [c.enc a].getD (j - m) (c.enc z)
theorem pushD_eq {A : Type} {c : Cs A} {z : A} {l : List A} {a : A} : pushD c z l.length (getE c z l) a = getE c z (l ++ [a]) := by
  funext j
  unfold pushD getE
  by_cases hj : j < l.length
  · rw [show Nat.blt j l.length = true by simpa [Nat.blt_eq] using hj]
    simp [List.getElem?_append_left hj]
  · rw [show Nat.blt j l.length = false by simpa [← Bool.not_eq_true, Nat.blt_eq] using hj]
    simp only [List.getD_eq_getElem?_getD]
    rw [List.getElem?_append_right (by omega)]
    cases j - l.length <;> simp
/-- Others put behind them. -/
def appD {A : Type} (c : Cs A) (z : A) (m : Nat) (G : Nat → List D) (l : List A) (j : Nat) : List D := match Nat.blt j m with | true => G j | false => c.enc (l.getD (j - m) z)
theorem appD_eq {A : Type} {c : Cs A} {z : A} {l r : List A} : appD c z l.length (getE c z l) r = getE c z (l ++ r) := by
  funext j
  unfold appD getE
  by_cases hj : j < l.length
  · rw [show Nat.blt j l.length = true by simpa [Nat.blt_eq] using hj]
    simp [List.getElem?_append_left hj]
  · rw [show Nat.blt j l.length = false by simpa [← Bool.not_eq_true, Nat.blt_eq] using hj]
    simp only [List.getD_eq_getElem?_getD]
    rw [List.getElem?_append_right (by omega)]
theorem len_push {A : Type} {l : List A} {a : A} : l.length + 1 = (l ++ [a]).length := by simp
/-- A function as a value. -/
def decF (f : FuncId) : D → Option Unit
  | .v (.func (.func g) ⟨[]⟩ ⟨[]⟩) => match Nat.beq g f with | true => some () | false => none
  | _ => none
theorem decF_ok {f : FuncId} {x : D} {a : Unit} (h : decF f x = some a) : x = .v (.func (.func f) #[] #[]) := by
  unfold decF at h
  split at h
  · split at h
    · rename_i hb; rw [Nat.eq_of_beq_eq_true hb]
    · cases h
  · cases h
def cF (f : FuncId) : Cd Unit := .of (fun _ => .v (.func (.func f) #[] #[])) (decF f) decF_ok

theorem Spec.args {P : Program} {gl : Gls} {f : FuncId} {args args' : List D} {d : D} (hl : args.length = args'.length) (h : ∀ (i : Nat) x y, args[i]? = some x → args'[i]? = some y → ∀ {K w r}, KR K w x r → KR K w y r) (hs : Spec P gl f args' d) : Spec P gl f args d := by
  intro K w rs hgl hk hsz hrs
  refine hs K w rs hgl hk (hsz.trans hl) fun i y hy => ?_
  have hi : i < args.length := by rw [hl]; exact (List.getElem?_eq_some_iff.1 hy).1
  exact h i _ y (List.getElem?_eq_getElem hi) hy (hrs i _ (List.getElem?_eq_getElem hi))

/-! Entries. -/
abbrev Fe := List D → Option (Bool × D)
def Entry (P : Program) (gl : Gls) (f : FuncId) (e : Fe) : Prop := Callable P f ∧ ∀ args d, e args = some (true, d) → Spec P gl f args d

abbrev Ens := List (FuncId × Fe)
abbrev Xns := List (FuncId × FeX)
def pOf : Ens → FuncId → List D → Option (Bool × D)
  | [], _, _ => none
  | (i, e) :: r, f, args => match Nat.beq i f with | true => e args | false => pOf r f args
abbrev envOf (l : Ens) : Env := { p := pOf l, x := [] }
abbrev envX (l : Ens) (xs : Xns) : Env := { p := pOf l, x := xs }
abbrev envW (l : Ens) (e : TypeId) : Env := { p := pOf l, x := [], w := some e }
abbrev envR (l : Ens) (f : FuncId) : Env := { p := pOf l, x := [], r := some f }
def EntryX (P : Program) (gl : Gls) (tb : Tb) (f : FuncId) (e : FeX) : Prop := Callable P f ∧ ∀ args d ys, e args = some (true, d, ys) → SpecX P gl tb f args d ys
inductive XntOk (P : Program) (gl : Gls) (tb : Tb) : Xns → Prop
  | nil : XntOk P gl tb []
  | cons {i : FuncId} {e : FeX} {l : Xns} (h : EntryX P gl tb i e) (hl : XntOk P gl tb l) : XntOk P gl tb ((i, e) :: l)
theorem XntOk.ok {P : Program} {gl : Gls} {tb : Tb} {l : Xns} (h : XntOk P gl tb l) : ∀ f e, lookX l f = some e → EntryX P gl tb f e := by
  induction h with
  | nil => intro f e h; cases h
  | cons h _ ih =>
    intro f e he
    simp only [lookX] at he
    split at he
    · rename_i hb
      have := Nat.eq_of_beq_eq_true hb
      subst this
      cases he
      exact h
    · exact ih f e he

inductive EntOk (P : Program) (gl : Gls) : Ens → Prop
  | nil : EntOk P gl []
  | cons {i : FuncId} {e : Fe} {l : Ens} (h : Entry P gl i e) (hl : EntOk P gl l) : EntOk P gl ((i, e) :: l)
  | ext {i : FuncId} {e : Fe} {l : Ens} (h : ∀ args d, e args = some (true, d) → Vals P i args d) (hl : EntOk P gl l) : EntOk P gl ((i, e) :: l)

theorem EntOk.ok {P : Program} {gl : Gls} {l : Ens} (h : EntOk P gl l) : ∀ f args d, pOf l f args = some (true, d) → (Callable P f ∧ Spec P gl f args d) ∨ Vals P f args d := by
  induction h with
  | nil => intro f args d h; cases h
  | cons h _ ih =>
    intro f args d he
    simp only [pOf] at he
    split at he
    · rename_i hb
      have := Nat.eq_of_beq_eq_true hb
      subst this
      exact .inl ⟨h.1, h.2 args d he⟩
    · exact ih f args d he
  | ext h _ ih =>
    intro f args d he
    simp only [pOf] at he
    split at he
    · rename_i hb
      have := Nat.eq_of_beq_eq_true hb
      subst this
      exact .inr (h args d he)
    · exact ih f args d he

section
variable {A B C A4 A5 : Type}
def fn0 (F : D) : Fe
  | [] => some (true, F)
  | _ => none
def fn1C (c : Cd A) (k : A → Bool) (F : A → D) : Fe
  | [x] => match c.dec x with | some (p, a) => some (p && k a, F a) | _ => none
  | _ => none
abbrev fn1 (c : Cd A) (F : A → D) : Fe := fn1C c (fun _ => true) F
def fn2C (c : Cd A) (c2 : Cd B) (k : A → B → Bool) (F : A → B → D) : Fe
  | [x, y] => match c.dec x, c2.dec y with | some (p, a), some (q, b) => some (p && (q && k a b), F a b) | _, _ => none
  | _ => none
abbrev fn2 (c : Cd A) (c2 : Cd B) (F : A → B → D) : Fe := fn2C c c2 (fun _ _ => true) F
def fn3C (c : Cd A) (c2 : Cd B) (c3 : Cd C) (k : A → B → C → Bool) (F : A → B → C → D) : Fe
  | [x, y, z] => match c.dec x, c2.dec y, c3.dec z with | some (p, a), some (q, b), some (r, e) => some (p && (q && (r && k a b e)), F a b e) | _, _, _ => none
  | _ => none
abbrev fn3 (c : Cd A) (c2 : Cd B) (c3 : Cd C) (F : A → B → C → D) : Fe := fn3C c c2 c3 (fun _ _ _ => true) F
def fn4C (c : Cd A) (c2 : Cd B) (c3 : Cd C) (c4 : Cd A4) (k : A → B → C → A4 → Bool) (F : A → B → C → A4 → D) : Fe
  | [x, y, z, u] => match c.dec x, c2.dec y, c3.dec z, c4.dec u with | some (p, a), some (q, b), some (r, e), some (s, h) => some (p && (q && (r && (s && k a b e h))), F a b e h) | _, _, _, _ => none
  | _ => none
abbrev fn4 (c : Cd A) (c2 : Cd B) (c3 : Cd C) (c4 : Cd A4) (F : A → B → C → A4 → D) : Fe := fn4C c c2 c3 c4 (fun _ _ _ _ => true) F
def fn5C (c : Cd A) (c2 : Cd B) (c3 : Cd C) (c4 : Cd A4) (c5 : Cd A5) (k : A → B → C → A4 → A5 → Bool) (F : A → B → C → A4 → A5 → D) : Fe
  | [x, y, z, u, t] => match c.dec x, c2.dec y, c3.dec z, c4.dec u, c5.dec t with | some (p, a), some (q, b), some (r, e), some (s, h), some (v, i) => some (p && (q && (r && (s && (v && k a b e h i)))), F a b e h i) | _, _, _, _, _ => none
  | _ => none
abbrev fn5 (c : Cd A) (c2 : Cd B) (c3 : Cd C) (c4 : Cd A4) (c5 : Cd A5) (F : A → B → C → A4 → A5 → D) : Fe := fn5C c c2 c3 c4 c5 (fun _ _ _ _ _ => true) F

variable {P : Program} {gl : Gls} {f : FuncId}
theorem entry0 {F : D} (hc : Callable P f) (hh : Spec P gl f [] F) : Entry P gl f (fn0 F) := ⟨hc, fun args d he => by
  unfold fn0 at he
  split at he
  · cases he; exact hh
  · cases he⟩
theorem entry1C {c : Cd A} {k : A → Bool} {F : A → D} (hc : Callable P f) (hh : ∀ a, k a = true → Spec P gl f [c.enc a] (F a)) : Entry P gl f (fn1C c k F) := ⟨hc, fun args d he => by
  unfold fn1C at he
  split at he
  · split at he
    · rename_i p0 v0 h0
      simp only [Option.some.injEq, Prod.mk.injEq, Bool.and_eq_true] at he
      obtain ⟨⟨k0, hk⟩, rfl⟩ := he
      subst k0
      refine Spec.args (args' := [c.enc v0]) rfl (fun i x y hx hy K w r hr => ?_) (hh v0 hk)
      match i with
      | 0 => simp at hx hy; subst hx hy; exact c.ok h0 hr
      | i + 1 => simp at hx
    · cases he
  · cases he⟩
theorem entry1 {c : Cd A} {F : A → D} (hc : Callable P f) (hh : ∀ a, Spec P gl f [c.enc a] (F a)) : Entry P gl f (fn1 c F) := entry1C hc fun a _ => hh a
theorem entry2C {c : Cd A} {c2 : Cd B} {k : A → B → Bool} {F : A → B → D} (hc : Callable P f) (hh : ∀ a b, k a b = true → Spec P gl f [c.enc a, c2.enc b] (F a b)) : Entry P gl f (fn2C c c2 k F) := ⟨hc, fun args d he => by
  unfold fn2C at he
  split at he
  · split at he
    · rename_i p0 v0 p1 v1 h0 h1
      simp only [Option.some.injEq, Prod.mk.injEq, Bool.and_eq_true] at he
      obtain ⟨⟨k0, k1, hk⟩, rfl⟩ := he
      subst k0
      subst k1
      refine Spec.args (args' := [c.enc v0, c2.enc v1]) rfl (fun i x y hx hy K w r hr => ?_) (hh v0 v1 hk)
      match i with
      | 0 => simp at hx hy; subst hx hy; exact c.ok h0 hr
      | 1 => simp at hx hy; subst hx hy; exact c2.ok h1 hr
      | i + 2 => simp at hx
    · cases he
  · cases he⟩
theorem entry2 {c : Cd A} {c2 : Cd B} {F : A → B → D} (hc : Callable P f) (hh : ∀ a b, Spec P gl f [c.enc a, c2.enc b] (F a b)) : Entry P gl f (fn2 c c2 F) := entry2C hc fun a b _ => hh a b
theorem entry3C {c : Cd A} {c2 : Cd B} {c3 : Cd C} {k : A → B → C → Bool} {F : A → B → C → D} (hc : Callable P f) (hh : ∀ a b e, k a b e = true → Spec P gl f [c.enc a, c2.enc b, c3.enc e] (F a b e)) : Entry P gl f (fn3C c c2 c3 k F) := ⟨hc, fun args d he => by
  unfold fn3C at he
  split at he
  · split at he
    · rename_i p0 v0 p1 v1 p2 v2 h0 h1 h2
      simp only [Option.some.injEq, Prod.mk.injEq, Bool.and_eq_true] at he
      obtain ⟨⟨k0, k1, k2, hk⟩, rfl⟩ := he
      subst k0
      subst k1
      subst k2
      refine Spec.args (args' := [c.enc v0, c2.enc v1, c3.enc v2]) rfl (fun i x y hx hy K w r hr => ?_) (hh v0 v1 v2 hk)
      match i with
      | 0 => simp at hx hy; subst hx hy; exact c.ok h0 hr
      | 1 => simp at hx hy; subst hx hy; exact c2.ok h1 hr
      | 2 => simp at hx hy; subst hx hy; exact c3.ok h2 hr
      | i + 3 => simp at hx
    · cases he
  · cases he⟩
theorem entry3 {c : Cd A} {c2 : Cd B} {c3 : Cd C} {F : A → B → C → D} (hc : Callable P f) (hh : ∀ a b e, Spec P gl f [c.enc a, c2.enc b, c3.enc e] (F a b e)) : Entry P gl f (fn3 c c2 c3 F) := entry3C hc fun a b e _ => hh a b e
theorem entry4C {c : Cd A} {c2 : Cd B} {c3 : Cd C} {c4 : Cd A4} {k : A → B → C → A4 → Bool} {F : A → B → C → A4 → D} (hc : Callable P f) (hh : ∀ a b e h, k a b e h = true → Spec P gl f [c.enc a, c2.enc b, c3.enc e, c4.enc h] (F a b e h)) : Entry P gl f (fn4C c c2 c3 c4 k F) := ⟨hc, fun args d he => by
  unfold fn4C at he
  split at he
  · split at he
    · rename_i p0 v0 p1 v1 p2 v2 p3 v3 h0 h1 h2 h3
      simp only [Option.some.injEq, Prod.mk.injEq, Bool.and_eq_true] at he
      obtain ⟨⟨k0, k1, k2, k3, hk⟩, rfl⟩ := he
      subst k0
      subst k1
      subst k2
      subst k3
      refine Spec.args (args' := [c.enc v0, c2.enc v1, c3.enc v2, c4.enc v3]) rfl (fun i x y hx hy K w r hr => ?_) (hh v0 v1 v2 v3 hk)
      match i with
      | 0 => simp at hx hy; subst hx hy; exact c.ok h0 hr
      | 1 => simp at hx hy; subst hx hy; exact c2.ok h1 hr
      | 2 => simp at hx hy; subst hx hy; exact c3.ok h2 hr
      | 3 => simp at hx hy; subst hx hy; exact c4.ok h3 hr
      | i + 4 => simp at hx
    · cases he
  · cases he⟩
theorem entry4 {c : Cd A} {c2 : Cd B} {c3 : Cd C} {c4 : Cd A4} {F : A → B → C → A4 → D} (hc : Callable P f) (hh : ∀ a b e h, Spec P gl f [c.enc a, c2.enc b, c3.enc e, c4.enc h] (F a b e h)) : Entry P gl f (fn4 c c2 c3 c4 F) := entry4C hc fun a b e h _ => hh a b e h
theorem entry5C {c : Cd A} {c2 : Cd B} {c3 : Cd C} {c4 : Cd A4} {c5 : Cd A5} {k : A → B → C → A4 → A5 → Bool} {F : A → B → C → A4 → A5 → D} (hc : Callable P f) (hh : ∀ a b e h i, k a b e h i = true → Spec P gl f [c.enc a, c2.enc b, c3.enc e, c4.enc h, c5.enc i] (F a b e h i)) : Entry P gl f (fn5C c c2 c3 c4 c5 k F) := ⟨hc, fun args d he => by
  unfold fn5C at he
  split at he
  · split at he
    · rename_i p0 v0 p1 v1 p2 v2 p3 v3 p4 v4 h0 h1 h2 h3 h4
      simp only [Option.some.injEq, Prod.mk.injEq, Bool.and_eq_true] at he
      obtain ⟨⟨k0, k1, k2, k3, k4, hk⟩, rfl⟩ := he
      subst k0
      subst k1
      subst k2
      subst k3
      subst k4
      refine Spec.args (args' := [c.enc v0, c2.enc v1, c3.enc v2, c4.enc v3, c5.enc v4]) rfl (fun i x y hx hy K w r hr => ?_) (hh v0 v1 v2 v3 v4 hk)
      match i with
      | 0 => simp at hx hy; subst hx hy; exact c.ok h0 hr
      | 1 => simp at hx hy; subst hx hy; exact c2.ok h1 hr
      | 2 => simp at hx hy; subst hx hy; exact c3.ok h2 hr
      | 3 => simp at hx hy; subst hx hy; exact c4.ok h3 hr
      | 4 => simp at hx hy; subst hx hy; exact c5.ok h4 hr
      | i + 5 => simp at hx
    · cases he
  · cases he⟩
theorem entry5 {c : Cd A} {c2 : Cd B} {c3 : Cd C} {c4 : Cd A4} {c5 : Cd A5} {F : A → B → C → A4 → A5 → D} (hc : Callable P f) (hh : ∀ a b e h i, Spec P gl f [c.enc a, c2.enc b, c3.enc e, c4.enc h, c5.enc i] (F a b e h i)) : Entry P gl f (fn5 c c2 c3 c4 c5 F) := entry5C hc fun a b e h i _ => hh a b e h i
end

theorem Spec.res {P : Program} {gl : Gls} {f : FuncId} {args : List D} {d d' : D} (h : ∀ {K w r}, KR K w d r → KR K w d' r) (hs : Spec P gl f args d) : Spec P gl f args d' := by
  intro K w rs hgl hk hsz hrs
  exact (hs K w rs hgl hk hsz hrs).mono fun e w' ⟨r, K', h1, h2, h3, h4, h5, h6⟩ => ⟨r, K', h1, h2, h3, h4, h h5, h6⟩
theorem KR.tup_congr {K : Nat → Nat → Prop} {w : World} {l l' : List D} {r : Value} (hr : KR K w (.tup l) r) (hl : l'.length = l.length) (h : ∀ (i : Nat) d d', l[i]? = some d → l'[i]? = some d' → ∀ {r}, KR K w d r → KR K w d' r) : KR K w (.tup l') r := by
  cases hr with
  | tup _ cs h1 h2 =>
    refine .tup l' cs (h1.trans hl.symm) fun i d' hd' => ?_
    have hi : i < l.length := by rw [← hl]; exact (List.getElem?_eq_some_iff.1 hd').1
    exact h i _ d' (List.getElem?_eq_getElem hi) hd' (h2 i _ (List.getElem?_eq_getElem hi))
/-- A pair's first. -/
theorem KR.fst {K : Nat → Nat → Prop} {w : World} {d d' e : D} {r : Value} (hr : KR K w (.tup [d, e]) r) (h : ∀ {r}, KR K w d r → KR K w d' r) : KR K w (.tup [d', e]) r :=
  hr.tup_congr rfl fun i x y hx hy => match i with
    | 0 => by simp at hx hy; subst hx hy; exact h
    | 1 => by simp at hx hy; subst hx hy; exact fun h => h
    | i + 2 => by simp at hx
/-- No element: whatever stands for the elements. -/
theorem KR.nil {K : Nat → Nat → Prop} {w : World} {sz n : Nat} {f g : Nat → List D} {p : Pm} {r : Value} (h : KR K w (.sl sz n f p) r) (h0 : n = 0) : KR K w (.sl sz 0 g .none) r := by
  subst h0; exact h.sl_congr fun i hi => by omega

/-- A string that is handed over is not too long. -/
theorem Spec.str {P : Program} {gl : Gls} {f : FuncId} {args : List D} {d : D} (i : Nat) {s : ByteArray} (hi : args[i]? = some (T s)) (h : s.size ≤ 4294967280 → Spec P gl f args d) : Spec P gl f args d := by
  intro K w rs hgl hk hs hrs
  refine h ?_ K w rs hgl hk hs hrs
  have := hrs i _ hi
  generalize rs.getD i undef = r at this
  cases this with
  | v _ hx => simpa [okV] using hx
theorem Spec.strIn {P : Program} {gl : Gls} {f : FuncId} {args : List D} {d : D} (i j : Nat) {l : List D} {s : ByteArray} (hi : args[i]? = some (.agg l)) (hj : l[j]? = some (T s)) (h : s.size ≤ 4294967280 → Spec P gl f args d) : Spec P gl f args d := by
  intro K w rs hgl hk hs hrs
  refine h ?_ K w rs hgl hk hs hrs
  have := hrs i _ hi
  generalize rs.getD i undef = r at this
  cases this with
  | agg _ cs hl h1 hc =>
    have := hc j _ hj
    generalize cs.getD j undef = r at this
    cases this with
    | v _ hx => simpa [okV] using hx

end Go.Ev

namespace Go.Proofs.YtflbjjpcjeinlaaGreatDoor
open Go.Ev
theorem mix : Tryz.prog.follows .mixedOrders = true := by kernel_rfl
theorem callable {f : FuncId} {fn : Func} (hf : Tryz.prog.funcs[f]? = some fn) (h : (fn.body.isSome && !(fn.name == "runtime.NumGoroutine")) = true) : Callable Tryz.prog f := by
  simp only [Bool.and_eq_true, Bool.not_eq_true'] at h
  exact ⟨fn, hf, h.1, h.2⟩
/-- What the functions lean on: that bytealg.MaxLen holds some number. -/
def gl : Gls := [
  (0, fun v => ∃ m, v = .int .i64 m)
  ]
abbrev En (f : FuncId) (e : Fe) : Prop := Entry Tryz.prog gl f e
abbrev Es (l : Ens) : Prop := EntOk Tryz.prog gl l
/-- By the evaluator. -/
theorem sp {l : Ens} (hl : Es l) {f : FuncId} {fn : Func} (hf : Tryz.prog.funcs[f]? = some fn) (F : Nat) {args : List D} {d : D} (h : evalF (envOf l) tb F fn args = some d) : Go.Ev.Spec Tryz.prog gl f args d :=
  spec_of mix tb_ok ⟨hl.ok, fun _ _ h => (by cases h), fun _ h => (by cases h), fun _ _ h => (by cases h)⟩ hf h
/-- The same, where a slice of bytes is turned round. -/
theorem spR {l : Ens} (hl : Es l) {r : FuncId} (hr : RevOk Tryz.prog r) {f : FuncId} {fn : Func} (hf : Tryz.prog.funcs[f]? = some fn) (F : Nat) {args : List D} {d : D} (h : evalF (envR l r) tb F fn args = some d) : Go.Ev.Spec Tryz.prog gl f args d :=
  spec_of mix tb_ok ⟨hl.ok, fun _ _ h => (by cases h), (fun _ h => by cases h; exact hr), fun _ _ h => (by cases h)⟩ hf h
abbrev Enx (f : FuncId) (e : FeX) : Prop := EntryX Tryz.prog gl tb f e
abbrev Xs (l : Xns) : Prop := XntOk Tryz.prog gl tb l
/-- The same, over functions that may be handed places. -/
theorem spX {l : Ens} {xs : Xns} (hl : Es l) (hx : Xs xs) {f : FuncId} {fn : Func} (hf : Tryz.prog.funcs[f]? = some fn) (F : Nat) {args : List D} {d : D} (h : evalF (envX l xs) tb F fn args = some d) : Go.Ev.Spec Tryz.prog gl f args d :=
  spec_of mix tb_ok ⟨hl.ok, hx.ok, fun _ h => (by cases h), fun _ _ h => (by cases h)⟩ hf h
/-- Closures that are gone into. -/
abbrev Cls := List (FuncId × Func)
inductive ClOk : Cls → Prop
  | nil : ClOk []
  | cons {i : FuncId} {fn : Func} {l : Cls} (h : Tryz.prog.funcs[i]? = some fn) (hn : (fn.name == "runtime.NumGoroutine") = false) (hl : ClOk l) : ClOk ((i, fn) :: l)
theorem ClOk.ok {l : Cls} (h : ClOk l) : ∀ f fn, lookC l f = some fn → Tryz.prog.funcs[f]? = some fn ∧ (fn.name == "runtime.NumGoroutine") = false := by
  induction h with
  | nil => intro f fn h; cases h
  | cons h hn _ ih =>
    intro f fn' he
    simp only [lookC] at he
    split at he
    · rename_i hb
      have := Nat.eq_of_beq_eq_true hb
      subst this
      cases he
      exact ⟨h, hn⟩
    · exact ih f fn' he
abbrev envC (l : Ens) (xs : Xns) (cs : Cls) : Env := { p := pOf l, x := xs, c := cs }
theorem sxC {l : Ens} {xs : Xns} {cs : Cls} (hl : Es l) (hx : Xs xs) (hc : ClOk cs) {f : FuncId} {fn : Func} (hf : Tryz.prog.funcs[f]? = some fn) (F : Nat) {args : List D} {d : D} {ys : List D} (h : evalX (envC l xs cs) tb F fn args = some (d, ys)) : Go.Ev.SpecX Tryz.prog gl tb f args d ys :=
  specX_of mix tb_ok ⟨hl.ok, hx.ok, fun _ h => (by cases h), hc.ok⟩ rfl hf h
/-- A function that may be handed places. -/
theorem sxX {l : Ens} {xs : Xns} (hl : Es l) (hx : Xs xs) {f : FuncId} {fn : Func} (hf : Tryz.prog.funcs[f]? = some fn) (F : Nat) {args : List D} {d : D} {ys : List D} (h : evalX (envX l xs) tb F fn args = some (d, ys)) : Go.Ev.SpecX Tryz.prog gl tb f args d ys :=
  specX_of mix tb_ok ⟨hl.ok, hx.ok, fun _ h => (by cases h), fun _ _ h => (by cases h)⟩ rfl hf h
end Go.Proofs.YtflbjjpcjeinlaaGreatDoor
