/- The relation between the evaluator's data and the model's memory, and what it keeps. -/
import Derived.Test.YtflbjjpcjeinlaaGreatDoorEva
namespace Go.Ev
open Go Go.RowKit

/-! ## The table of types, held against a program -/
def i0 (k : IntKind) : D := .v (.int k 0)
def b0 : D := .v (.bool false)
def s0 : D := .v (.string ⟨#[]⟩)
def p0 : D := .v (.pointer none)
def m0 : D := .v (.map none)
def f0 : D := .v .nilFunc
def n0 : D := .v .nilIface
def l0 (sz : Nat) (e : TypeId) (z : List D) : D := .sl sz 0 (fun _ => z) (.nil e)
/-- A nil slice within an element. -/
def lk (sz : Nat) (z : List D) : D := .sl sz 0 (fun _ => z) .none

def tbGet : List (Nat × Ti) → Tb
  | [], _ => none
  | (i, x) :: r, t => match Nat.beq i t with | true => some x | false => tbGet r t

/-- A cell of a zero value. -/
def cellOk : D → Value → Bool
  | .v (.int k a), .int k' b => decide (k = k') && a == b
  | .v (.bool a), .bool b => a == b
  | .v (.string a), .string b => a.size == 0 && b.size == 0
  | .v (.pointer none), .pointer none => true
  | .v (.map none), .map none => true
  | .v .nilFunc, .nilFunc => true
  | .v .nilIface, .nilIface => true
  | .sl _ n _ (.nil _), .slice none 0 0 => n == 0
  | _, _ => false
def zeroOk : List D → List Value → Bool
  | [], [] => true
  | d :: l, v :: r => cellOk d v && zeroOk l r
  | _, _ => false

def fieldsOk : List (Nat × TypeId) → List Field → Bool
  | [], [] => true
  | (o, t) :: l, f :: r => f.offset == o && f.type == t && fieldsOk l r
  | _, _ => false
def aggD : TypeDesc → Bool
  | .struct _ | .array _ _ => true
  | _ => false
def descOk : TypeDesc → Td → Bool
  | .int k, .int k' => decide (k = k')
  | .bool, .bool => true
  | .string, .str => true
  | .struct fs, .struct gs => fieldsOk gs fs.toList
  | .array n e, .arr n' e' => n == n' && e == e'
  | .slice e, .sl e' => e == e'
  | .map k e, .map k' e' => k == k' && e == e'
  | .pointer _, .ptr | .map .., .other | .func .., .other | .interface _, .other | .chan .., .other | .func .., .fn | .interface _, .ifc => true
  | _, _ => false

/-- Values of this type are compared cell by cell: the cells' kinds; o: where the next cell must lie. -/
inductive Kd where
  | int (k : IntKind) | bool | str
def kFs (kT : TypeId → Option (List Kd)) (size : TypeId → Nat) : Nat → List Field → Option (List Kd)
  | _, [] => some []
  | o, f :: r => match f.offset == o && f.name != "_", kT f.type with
    | true, some a => match a.length == size f.type, kFs kT size (o + a.length) r with
      | true, some b => some (a ++ b)
      | _, _ => none
    | _, _ => none
def repK (a : List Kd) : Nat → List Kd
  | 0 => []
  | n + 1 => a ++ repK a n
def kT (P : Program) : Nat → TypeId → Option (List Kd)
  | 0, _ => none
  | d + 1, t => match P.underlying t with
    | some (.int k) => some [.int k]
    | some .bool => some [.bool]
    | some .string => some [.str]
    | some (.struct fs) => match P.stoodInHeld t with
      | false => kFs (kT P d) P.cellsOf 0 fs.toList
      | true => none
    | some (.array n e) => match kT P d e with
      | some a => match a.length == P.cellsOf e with
        | true => some (repK a n)
        | false => none
      | none => none
    | _ => none
def kdsOk : List D → List Kd → Bool
  | [], [] => true
  | .v (.int k _) :: l, .int k' :: r => decide (k = k') && kdsOk l r
  | .v (.bool _) :: l, .bool :: r => kdsOk l r
  | .v (.string _) :: l, .str :: r => kdsOk l r
  | _, _ => false
def eqOk (P : Program) (t : TypeId) (z : List D) : Bool :=
  match kT P 8 t with
  | some ks => kdsOk z ks && !P.eqGuardType P.depth t
  | none => false
def fieldsInfo (P : Program) : TypeDesc → Bool
  | .struct fs => fs.toList.all fun f => (P.info? f.type).isSome
  | .array _ e => (P.info? e).isSome
  | _ => true

def zAgg (d : TypeDesc) : Value → Bool
  | .agg _ => aggD d
  | _ => !aggD d
def tiOk (P : Program) (t : TypeId) (i : Ti) : Bool :=
  match P.info? t, P.underlying t with
  | some f, some d => f.size == i.size && f.bytes == i.bytes && (match f.zero with | some z => zeroOk i.zero z.cells.toList && z.cells.size == i.size && zAgg d z | none => false) &&
      descOk d i.d && fieldsInfo P d && (!i.eq || eqOk P t i.zero)
  | _, _ => false
def TbOk (P : Program) (tb : Tb) : Prop := ∀ t i, tb t = some i → tiOk P t i = true

theorem tbOk_of {P : Program} {l : List (Nat × Ti)} (h : (l.all fun x => tiOk P x.1 x.2) = true) : TbOk P (tbGet l) := by
  intro t i hi
  induction l with
  | nil => cases hi
  | cons x r ih =>
    obtain ⟨j, y⟩ := x
    simp only [List.all_cons, Bool.and_eq_true] at h
    simp only [tbGet] at hi
    split at hi
    · rename_i hb
      cases hi
      have : j = t := Nat.eq_of_beq_eq_true hb
      subst this
      exact h.1
    · exact ih h.2 hi

/-! ## The relation -/
/-- What is known of the real memory: which places exist, their blocks, the owners' values, which cells are kept. -/
structure G where
  C : Nat → Prop
  σ : Nat → Nat
  ρ : Nat → Value
  K : Nat → Nat → Prop

/-- Data that is kept: no place of the evaluator's own in it. -/
inductive KR (K : Nat → Nat → Prop) (w : World) : D → Value → Prop
  | v (x : Value) (hx : okV x = true) : KR K w (.v x) x
  | no (x : Value) : KR K w .no x
  | agg (l : List D) (cs : Array Value) (hl : cs.size = l.length) (h1 : ∀ i, i < l.length → oneC (cs.getD i undef) = true) (hc : ∀ i d, l[i]? = some d → KR K w d (cs.getD i undef)) : KR K w (.agg l) (.agg cs)
  | tup (l : List D) (cs : Array Value) (hl : cs.size = l.length) (hc : ∀ i d, l[i]? = some d → KR K w d (cs.getD i undef)) : KR K w (.tup l) (.tuple cs)
  | ref (l : List D) (b off : Nat) (f : Nat → Value) (hk : ∀ i, i < l.length → K b (off + i) ∧ w.cell? ⟨b, off + i, none⟩ = some (f i) ∧ oneC (f i) = true) (hc : ∀ i d, l[i]? = some d → KR K w d (f i)) :
      KR K w (.ref l) (.pointer (some ⟨b, off, none⟩))
  | sl (sz n : Nat) (get : Nat → List D) (b off cap : Nat) (f : Nat → Nat → Value) (hn : n ≤ cap) (hl : ∀ i, i < n → (get i).length = sz)
      (hk : ∀ i k, i < n → k < sz → K b (off + i * sz + k) ∧ w.cell? ⟨b, off + i * sz + k, none⟩ = some (f i k) ∧ oneC (f i k) = true)
      (hc : ∀ i k d, i < n → (get i)[k]? = some d → KR K w d (f i k)) : KR K w (.sl sz n get .none) (.slice (some ⟨b, off, none⟩) n cap)
  | sl0 (sz : Nat) (get : Nat → List D) (a : Option Addr) (cap : Nat) : KR K w (.sl sz 0 get .none) (.slice a 0 cap)

def PermOk (g : G) : Pm → Value → Prop
  | .none, _ => True
  | .nil _, r => r = .slice none 0 0
  | .tok q, r => g.C q ∧ r = g.ρ q
  | .own _, _ => True
  | .nn, r => ∀ n c, r ≠ .slice none n c
  | .nl, r => ∃ n c, r = .slice none n c

inductive VR (g : G) (w : World) : D → Value → Prop
  | kr (d : D) (r : Value) (h : KR g.K w d r) : VR g w d r
  | loc (i off : Nat) (hC : g.C i) : VR g w (.loc i off) (.pointer (some ⟨g.σ i, off, none⟩))
  | sl (sz n : Nat) (get : Nat → List D) (p : Pm) (r : Value) (h : KR g.K w (.sl sz n get .none) r) (hp : PermOk g p r) : VR g w (.sl sz n get p) r
  | agg (l : List D) (cs : Array Value) (hl : cs.size = l.length) (h1 : ∀ i, i < l.length → oneC (cs.getD i undef) = true) (hc : ∀ i d, l[i]? = some d → VR g w d (cs.getD i undef)) : VR g w (.agg l) (.agg cs)
  | tup (l : List D) (cs : Array Value) (hl : cs.size = l.length) (hc : ∀ i d, l[i]? = some d → VR g w d (cs.getD i undef)) : VR g w (.tup l) (.tuple cs)
  | clo (f : FuncId) (l : List D) (cs : Array Value) (hl : cs.size = l.length) (hc : ∀ i d, l[i]? = some d → VR g w d (cs.getD i undef)) : VR g w (.clo f l) (.func (.func f) #[] cs)
  | slm (sz i off n : Nat) (hC : g.C i) : VR g w (.slm sz i off n) (.slice (some ⟨g.σ i, off * sz, none⟩) n n)
  | mp (i : Nat) (hC : g.C i) : VR g w (.mp i) (.map (some (g.σ i)))
  | it (i : Nat) (hC : g.C i) : VR g w (.it i) (.pointer (some ⟨g.σ i, 0, none⟩))
  | stm (q : Nat) (hC : g.C q) : VR g w (.stm q) (g.ρ q)
  | ifc (T : TypeId) (d : D) (r : Value) (h : VR g w d r) : VR g w (.ifc T d) (.iface T r)

theorem KR.mono {K K' : Nat → Nat → Prop} {w w' : World} (hK : ∀ b o, K b o → K' b o ∧ w'.cell? ⟨b, o, none⟩ = w.cell? ⟨b, o, none⟩) {d : D} {r : Value} (h : KR K w d r) : KR K' w' d r := by
  induction h with
  | v x hx => exact .v x hx
  | no x => exact .no x
  | agg l cs hl h1 _ ih => exact .agg l cs hl h1 ih
  | tup l cs hl _ ih => exact .tup l cs hl ih
  | ref l b off f hk _ ih => exact .ref l b off f (fun i hi => by obtain ⟨a, c, e⟩ := hk i hi; obtain ⟨a', c'⟩ := hK _ _ a; exact ⟨a', c'.trans c, e⟩) ih
  | sl sz n get b off cap f hn hl hk _ ih =>
    exact .sl sz n get b off cap f hn hl (fun i k hi hk' => by obtain ⟨a, c, e⟩ := hk i k hi hk'; obtain ⟨a', c'⟩ := hK _ _ a; exact ⟨a', c'.trans c, e⟩) ih
  | sl0 sz get a cap => exact .sl0 sz get a cap

/-- More is known, and what was known still holds. -/
structure Ext (g g' : G) (w w' : World) : Prop where
  C : ∀ i, g.C i → g'.C i
  σ : ∀ i, g.C i → g'.σ i = g.σ i
  ρ : ∀ i, g.C i → g'.ρ i = g.ρ i
  K : ∀ b o, g.K b o → g'.K b o ∧ w'.cell? ⟨b, o, none⟩ = w.cell? ⟨b, o, none⟩

theorem VR.mono {g g' : G} {w w' : World} (e : Ext g g' w w') {d : D} {r : Value} (h : VR g w d r) : VR g' w' d r := by
  induction h with
  | kr d r h => exact .kr d r (h.mono e.K)
  | loc i off hC => rw [← e.σ i hC]; exact .loc i off (e.C i hC)
  | sl sz n get p r h hp =>
    refine .sl sz n get p r (h.mono e.K) ?_
    cases p with
    | none => trivial
    | nil E => exact hp
    | tok q => exact ⟨e.C q hp.1, hp.2.trans (e.ρ q hp.1).symm⟩
    | own E => trivial
    | nn => exact hp
    | nl => exact hp
  | agg l cs hl h1 _ ih => exact .agg l cs hl h1 ih
  | tup l cs hl _ ih => exact .tup l cs hl ih
  | clo f l cs hl _ ih => exact .clo f l cs hl ih
  | slm sz i off n hC => rw [← e.σ i hC]; exact .slm sz i off n (e.C i hC)
  | mp i hC => rw [← e.σ i hC]; exact .mp i (e.C i hC)
  | it i hC => rw [← e.σ i hC]; exact .it i (e.C i hC)
  | stm q hC => rw [← e.ρ q hC]; exact .stm q (e.C q hC)
  | ifc T d r _ ih => exact .ifc T d r ih

/-- Where a function began; the blocks that were handed over to it; which of its own places stand for which block from the beginning. -/
structure W0 where
  w : World
  F : Nat → Prop
  A : Nat → Nat → Prop
def W0.mine (w0 : W0) (b : Nat) : Prop := w0.F b ∨ w0.w.heap.size ≤ b
/-- All else is as it was. -/
structure Off (w0 : W0) (w : World) : Prop where
  os : w.os = w0.w.os
  tape : w.tape = w0.w.tape
  output : w.output = w0.w.output
  size : w0.w.heap.size ≤ w.heap.size
  block : ∀ k, k < w0.w.heap.size → ¬ w0.F k → w.heap[k]? = w0.w.heap[k]?
theorem Off.refl (w0 : W0) : Off w0 w0.w := ⟨rfl, rfl, rfl, Nat.le_refl _, fun _ _ _ => rfl⟩
theorem Off.grow {w0 : W0} {w w' : World} (h : Off w0 w) (hb : Below w.heap.size w w') : Off w0 w' :=
  ⟨hb.os.trans h.os, hb.tape.trans h.tape, hb.output.trans h.output, Nat.le_trans h.size hb.size, fun k hk hF => (hb.block k (Nat.lt_of_lt_of_le hk h.size)).trans (h.block k hk hF)⟩
/-- An owner's value: nil, or a row of its own whose cells behind its length are not kept. -/
def Own (w0 : W0) (tb : Tb) (g : G) (w : World) (E : TypeId) (r : Value) : Prop :=
  r = .slice none 0 0 ∨ ∃ b n cap cur ti, r = .slice (some ⟨b, 0, none⟩) n cap ∧ w0.mine b ∧ w.heap[b]? = some (.cells cur E (0, 0)) ∧ n ≤ cap ∧ cap ≤ maxLen ∧
    tb E = some ti ∧ cur.size = cap * ti.size ∧ ∀ o, n * ti.size ≤ o → ¬ g.K b o

/-! Maps. -/
/-- Values of the kinds that are told. -/
def kdV : Kd → Value → Bool
  | .int k, .int k' _ => decide (k' = k)
  | .bool, .bool _ => true
  | .str, .string _ => true
  | _, _ => false
def kdVs : List Kd → List Value → Bool
  | [], [] => true
  | k :: ks, x :: xs => kdV k x && kdVs ks xs
  | _, _ => false
def hitV : Value → Value → Bool
  | .int _ a, .int _ b => a == b
  | .bool a, .bool b => a == b
  | .string a, .string b => a.toList == b.toList
  | _, _ => false
def hitVs : List Value → List Value → Bool
  | [], [] => true
  | x :: xs, y :: ys => hitV x y && hitVs xs ys
  | _, _ => false
/-- A map's entries: plain keys and elements; when each was put in. -/
structure MOk (fk fe : List Value → Value) (ks vs : List Kd) (es : Array MapEntry) (clock : Nat) (C : List (List Value × List Value)) : Prop where
  size : es.size = C.length
  ent : ∀ (j : Nat) (x : MapEntry), es[j]? = some x → ∃ c, C[j]? = some c ∧ x.key = fk c.1 ∧ x.val = fe c.2 ∧ kdVs ks c.1 = true ∧ kdVs vs c.2 = true
  born : ∀ (j : Nat) (x : MapEntry), es[j]? = some x → x.born < clock
  inj : ∀ (i j : Nat) (x y : MapEntry), es[i]? = some x → es[j]? = some y → x.born = y.born → i = j
def oneV (agg : Bool) (l : List Value) : Value := match agg with
  | true => .agg l.toArray
  | false => l.headD undef
/-- The kinds of a zero value's cells. -/
def kdsZ : List D → List Kd
  | [] => []
  | .v (.int k _) :: r => .int k :: kdsZ r
  | .v (.bool _) :: r => .bool :: kdsZ r
  | .v (.string _) :: r => .str :: kdsZ r
  | _ :: r => kdsZ r
/-- A map's block, and what the evaluator has of it. -/
def MapC (tb : Tb) (T : TypeId) (es : Array MapEntry) (clock n : Nat) (get : Nat → List D) : Prop :=
  ∃ k e ki ei C, mapT tb T = some (k, e, ki, ei) ∧ C.length = n ∧ (∀ (j : Nat) c, C[j]? = some c → get j = (c.1 ++ c.2).map D.v ∧ ∀ x ∈ c.1 ++ c.2, okV x = true) ∧
    MOk (oneV ki.d.isAgg) (oneV ei.d.isAgg) (kdsZ ki.zero) (kdsZ ei.zero) es clock C
def bornAt (es : Array MapEntry) (j : Nat) : Nat := ((es[j]?).map (·.born)).getD 0
/-- How far an iteration has come. -/
structure ItOk (es : Array MapEntry) (clock since last : Nat) (seen : Array Nat) (sn : List Nat) : Prop where
  lt : ∀ j ∈ sn, j < es.size
  sen : seen = (sn.reverse.map (bornAt es)).toArray
  old : ∀ (j : Nat) (x : MapEntry), es[j]? = some x → x.born < since
  sl : since ≤ last
  cl : sn ≠ [] → last = clock
  sc : since ≤ clock
/-- The maps, and what looks at them. -/
structure RM (w0 : W0) (tb : Tb) (lk : Nat → Option Bx) (g : G) (w : World) : Prop where
  mp : ∀ i T n get ws, lk i = some (.map T n get ws) → g.C i ∧ (∀ q ∈ ws, g.C q) ∧ w0.mine (g.σ i) ∧ ∃ es clock, w.heap[g.σ i]? = some (.map es clock) ∧ MapC tb T es clock n get
  md : ∀ i j T n get ws T' n' get' ws', lk i = some (.map T n get ws) → lk j = some (.map T' n' get' ws') → g.σ i = g.σ j → i = j
  it : ∀ q i sn, lk q = some (.iter i sn) → g.C q ∧ g.C i ∧ w0.mine (g.σ q) ∧ ∃ b since seen last, w.heap[g.σ q]? = some (.mapIter (some b) since seen last) ∧
    ∀ T n get ws, lk i = some (.map T n get ws) → q ∈ ws ∧ b = g.σ i ∧ ∃ es clock, w.heap[g.σ i]? = some (.map es clock) ∧ ItOk es clock since last seen sn
  id : ∀ q q' i i' sn sn', lk q = some (.iter i sn) → lk q' = some (.iter i' sn') → g.σ q = g.σ q' → q = q'
  st : ∀ q i kc, lk q = some (.stamp i kc) → g.C q ∧ g.C i ∧ ∀ T n get ws, lk i = some (.map T n get ws) → q ∈ ws ∧ ∃ es clock j x, w.heap[g.σ i]? = some (.map es clock) ∧ es[j]? = some x ∧ g.ρ q = .int .i64 x.born ∧ atM n get kc = j ∧ ∃ vc, get j = kc ++ vc
def isMp : Bx → Bool
  | .map .. | .iter .. | .stamp .. => true
  | _ => false
def tgts : Bx → List Nat
  | .iter i _ => [i]
  | .stamp i _ => [i]
  | .map _ _ _ ws => ws
  | _ => []
def tgI : Bx → List Nat
  | .iter i _ => [i]
  | .stamp i _ => [i]
  | _ => []
theorem tgI_sub {i : Nat} {b : Bx} (h : i ∈ tgI b) : i ∈ tgts b := by cases b <;> first | exact h | cases h
def isBl : Bx → Bool
  | .map .. | .iter .. => true
  | _ => false
theorem RM.mono {w0 : W0} {tb : Tb} {lk lk' : Nat → Option Bx} {g g' : G} {w w' : World} (h : RM w0 tb lk g w)
    (hl : ∀ i b, isMp b = true → lk' i = some b → lk i = some b ∧ (g'.C i ∧ ∀ j ∈ tgts b, g'.C j) ∧ g'.ρ i = g.ρ i ∧ (isBl b = true → g'.σ i = g.σ i ∧ w'.heap[g.σ i]? = w.heap[g.σ i]?)) : RM w0 tb lk' g' w' where
  mp i T n get ws hi := by
    obtain ⟨h1, h2, _, h3⟩ := hl i _ rfl hi
    obtain ⟨h3, h4⟩ := h3 rfl
    obtain ⟨_, _, a1, a2⟩ := h.mp i T n get ws h1
    rw [h3, h4]
    exact ⟨h2.1, h2.2, a1, a2⟩
  md i j T n get ws T' n' get' ws' hi hj e := by
    obtain ⟨h1, _, _, h3⟩ := hl i _ rfl hi
    obtain ⟨g1, _, _, g3⟩ := hl j _ rfl hj
    rw [(h3 rfl).1, (g3 rfl).1] at e
    exact h.md i j T n get ws T' n' get' ws' h1 g1 e
  it q i sn hq := by
    obtain ⟨h1, h2, _, h3⟩ := hl q _ rfl hq
    obtain ⟨h3, h4⟩ := h3 rfl
    obtain ⟨_, _, a1, b, since, seen, last, a2, a3⟩ := h.it q i sn h1
    rw [h3, h4]
    refine ⟨h2.1, h2.2 i (by simp [tgts]), a1, b, since, seen, last, a2, fun T n get ws hi => ?_⟩
    obtain ⟨g1, _, _, g3⟩ := hl i _ rfl hi
    obtain ⟨g3, g4⟩ := g3 rfl
    rw [g3, g4]
    exact a3 T n get ws g1
  id q q' i i' sn sn' hq hq' e := by
    obtain ⟨h1, _, _, h3⟩ := hl q _ rfl hq
    obtain ⟨g1, _, _, g3⟩ := hl q' _ rfl hq'
    rw [(h3 rfl).1, (g3 rfl).1] at e
    exact h.id q q' i i' sn sn' h1 g1 e
  st q i kc hq := by
    obtain ⟨h1, h2, h3, _⟩ := hl q _ rfl hq
    obtain ⟨_, _, a⟩ := h.st q i kc h1
    refine ⟨h2.1, h2.2 i (by simp [tgts]), fun T n get ws hi => ?_⟩
    obtain ⟨g1, _, _, g3⟩ := hl i _ rfl hi
    obtain ⟨g3, g4⟩ := g3 rfl
    rw [h3, g3, g4]
    exact a T n get ws g1
/-- A map's block holds no cells. -/
theorem RM.ne {w0 : W0} {tb : Tb} {lk : Nat → Option Bx} {g : G} {w : World} (h : RM w0 tb lk g w) {i : Nat} {b : Bx} (hi : lk i = some b) (hm : isBl b = true) {x : Nat} {cs : Array Value} {T : TypeId} {f : Nat × Nat} (hx : w.heap[x]? = some (.cells cs T f)) : g.σ i ≠ x := by
  intro e
  subst e
  cases b with
  | map T n get ws => obtain ⟨_, _, _, es, clock, h1, _⟩ := h.mp i T n get ws hi; rw [h1] at hx; cases hx
  | iter j sn => obtain ⟨_, _, _, b, s, se, l, h1, _⟩ := h.it i j sn hi; rw [h1] at hx; cases hx
  | _ => cases hm
theorem RM.lt {w0 : W0} {tb : Tb} {lk : Nat → Option Bx} {g : G} {w : World} (h : RM w0 tb lk g w) {i : Nat} {b : Bx} (hi : lk i = some b) (hm : isBl b = true) : g.σ i < w.heap.size := by
  cases b with
  | map T n get ws => obtain ⟨_, _, _, es, clock, h1, _⟩ := h.mp i T n get ws hi; exact (Array.getElem?_eq_some_iff.1 h1).1
  | iter j sn => obtain ⟨_, _, _, b, s, se, l, h1, _⟩ := h.it i j sn hi; exact (Array.getElem?_eq_some_iff.1 h1).1
  | _ => cases hm
theorem RM.C {w0 : W0} {tb : Tb} {lk : Nat → Option Bx} {g : G} {w : World} (h : RM w0 tb lk g w) {i : Nat} {b : Bx} (hi : lk i = some b) (hm : isMp b = true) : g.C i := by
  cases b with
  | map T n get ws => exact (h.mp i T n get ws hi).1
  | iter j sn => exact (h.it i j sn hi).1
  | stamp j kc => exact (h.st i j kc hi).1
  | _ => cases hm
theorem RM.T {w0 : W0} {tb : Tb} {lk : Nat → Option Bx} {g : G} {w : World} (h : RM w0 tb lk g w) {i j : Nat} {b : Bx} (hi : lk i = some b) (ht : j ∈ tgts b) : g.C j := by
  cases b with
  | iter j' sn => simp [tgts] at ht; subst ht; exact (h.it i _ sn hi).2.1
  | stamp j' kc => simp [tgts] at ht; subst ht; exact (h.st i _ kc hi).2.1
  | map T n get ws => exact (h.mp i T n get ws hi).2.1 j ht
  | _ => simp [tgts] at ht
theorem isMp_bl {b : Bx} (h : isBl b = true) : isMp b = true := by cases b <;> first | rfl | cases h
theorem RM.nil {w0 : W0} {tb : Tb} {lk : Nat → Option Bx} {g : G} {w : World} (h : ∀ i b, lk i = some b → isMp b = false) : RM w0 tb lk g w where
  mp i T n get ws hi := by have := h i _ hi; cases this
  md i j T n get ws T' n' get' ws' hi hj e := by have := h i _ hi; cases this
  it q i sn hq := by have := h q _ hq; cases this
  id q q' i i' sn sn' hq hq' e := by have := h q _ hq; cases this
  st q i kc hq := by have := h q _ hq; cases this

/-- The evaluator's state and the real one. -/
structure RS (w0 : W0) (K0 : Nat → Nat → Prop) (tb : Tb) (t : List D) (lk : Nat → Option Bx) (g : G) (a : Act) (w : World) : Prop where
  len : a.tmps.size = t.length
  tm : ∀ i d, t[i]? = some d → VR g w d (a.tmps.getD i undef)
  df : a.defers = []
  bx : ∀ i c T, lk i = some (.cells c T) → g.C i ∧ w0.mine (g.σ i) ∧ (∀ o, ¬ g.K (g.σ i) o) ∧
    ∃ cs : Array Value, w.heap[g.σ i]? = some (.cells cs T (0, 0)) ∧ cs.size = c.length ∧ (∀ j, j < c.length → oneC (cs.getD j undef) = true) ∧ ∀ j d, c[j]? = some d → VR g w d (cs.getD j undef)
  bd : ∀ i j c T c' T', lk i = some (.cells c T) → lk j = some (.cells c' T') → g.σ i = g.σ j → i = j
  tk : ∀ q E, lk q = some (.tok E) → g.C q ∧ Own w0 tb g w E (g.ρ q)
  td : ∀ q E i c T, lk q = some (.tok E) → lk i = some (.cells c T) → (g.ρ q).ownBlock ≠ some (g.σ i)
  tt : ∀ q q' E E' b, lk q = some (.tok E) → lk q' = some (.tok E') → (g.ρ q).ownBlock = some b → (g.ρ q').ownBlock = some b → q = q'
  dd : ∀ i, lk i = some .dead → g.C i
  kb : ∀ b o, g.K b o → b < w.heap.size
  k0 : ∀ b o, K0 b o → g.K b o
  k1 : ∀ b o, g.K b o → K0 b o ∨ w0.mine b
  kv : ∀ b o, K0 b o → w.cell? ⟨b, o, none⟩ = w0.w.cell? ⟨b, o, none⟩
  ar : ∀ i b, w0.A i b → g.C i ∧ g.σ i = b
  ext : Off w0 w
  rm : RM w0 tb lk g w

/-- The ghost of a function that begins: nothing is its own. -/
def G.pure (K : Nat → Nat → Prop) : G := ⟨fun _ => False, fun _ => 0, fun _ => undef, K⟩

/-- What is asked of a function that is called. -/
def Callable (P : Program) (f : FuncId) : Prop := ∃ fn, P.funcs[f]? = some fn ∧ fn.body.isSome = true ∧ (fn.name == "runtime.NumGoroutine") = false

/-- Variables of the program's own or of the library's: each is kept, and what it holds is as told. -/
abbrev Gls := List (Nat × (Value → Prop))
def Gl (gl : Gls) (K : Nat → Nat → Prop) (w : World) : Prop := ∀ x ∈ gl, K x.1 0 ∧ ∃ v, w.cell? ⟨x.1, 0, none⟩ = some v ∧ x.2 v

def Spec (P : Program) (gl : Gls) (f : FuncId) (args : List D) (d : D) : Prop :=
  ∀ (K : Nat → Nat → Prop) (w : World) (rs : Array Value), Gl gl K w → (∀ b o, K b o → b < w.heap.size) → rs.size = args.length → (∀ i d, args[i]? = some d → KR K w d (rs.getD i undef)) →
    Calls P f rs w fun e w' => ∃ r K', e = .returned r ∧ (∀ b o, K b o → K' b o) ∧ (∀ b o, K' b o → K b o ∨ w.heap.size ≤ b) ∧ (∀ b o, K' b o → b < w'.heap.size) ∧ KR K' w' d r ∧ Below w.heap.size w w'

/-- An owner's value, on its own. -/
def OwnX (tb : Tb) (K : Nat → Nat → Prop) (w : World) (E : TypeId) (r : Value) : Prop :=
  r = .slice none 0 0 ∨ ∃ b n cap cur ti, r = .slice (some ⟨b, 0, none⟩) n cap ∧ w.heap[b]? = some (.cells cur E (0, 0)) ∧ n ≤ cap ∧ cap ≤ maxLen ∧
    tb E = some ti ∧ cur.size = cap * ti.size ∧ ∀ o, n * ti.size ≤ o → ¬ K b o
/-- What goes over to a function, or comes back: the blocks that go with it in the last place; as: the arguments. -/
inductive XR (tb : Tb) (K : Nat → Nat → Prop) (w : World) (as : List Value) : D → Value → List Nat → Prop
  | kr (d : D) (r : Value) (h : KR K w d r) : XR tb K w as d r []
  | argp (j : Nat) (r : Value) (h : as[j]? = some r) : XR tb K w as (.argp j) r []
  | box (T : TypeId) (c : List D) (b : Nat) (cs : Array Value) (Ls : Nat → List Nat) (hh : w.heap[b]? = some (.cells cs T (0, 0))) (hs : cs.size = c.length) (h1 : ∀ j, j < c.length → oneC (cs.getD j undef) = true)
      (hK : ∀ o, ¬ K b o) (hc : ∀ j d, c[j]? = some d → XR tb K w as d (cs.getD j undef) (Ls j)) : XR tb K w as (.box T c) (.pointer (some ⟨b, 0, none⟩)) (b :: (List.range c.length).flatMap Ls)
  | row (sz n : Nat) (T : TypeId) (c : List D) (b : Nat) (cs : Array Value) (hh : w.heap[b]? = some (.cells cs T (0, 0))) (hs : cs.size = c.length) (h1 : ∀ j, j < c.length → oneC (cs.getD j undef) = true)
      (hK : ∀ o, ¬ K b o) (hc : ∀ j d, c[j]? = some d → KR K w d (cs.getD j undef)) : XR tb K w as (.row sz n T c) (.slice (some ⟨b, 0, none⟩) n n) [b]
  | own (sz n : Nat) (get : Nat → List D) (E : TypeId) (r : Value) (h : KR K w (.sl sz n get .none) r) (ho : OwnX tb K w E r) : XR tb K w as (.sl sz n get (.own E)) r r.ownBlock.toList
  | agg (l : List D) (cs : Array Value) (Ls : Nat → List Nat) (hl : cs.size = l.length) (h1 : ∀ j, j < l.length → oneC (cs.getD j undef) = true) (hc : ∀ j d, l[j]? = some d → XR tb K w as d (cs.getD j undef) (Ls j)) :
      XR tb K w as (.agg l) (.agg cs) ((List.range l.length).flatMap Ls)
  | tup (l : List D) (cs : Array Value) (Ls : Nat → List Nat) (hl : cs.size = l.length) (hc : ∀ j d, l[j]? = some d → XR tb K w as d (cs.getD j undef) (Ls j)) :
      XR tb K w as (.tup l) (.tuple cs) ((List.range l.length).flatMap Ls)
  | clo (f : FuncId) (l : List D) (cs : Array Value) (Ls : Nat → List Nat) (hl : cs.size = l.length) (hc : ∀ j d, l[j]? = some d → XR tb K w as d (cs.getD j undef) (Ls j)) :
      XR tb K w as (.clo f l) (.func (.func f) #[] cs) ((List.range l.length).flatMap Ls)
  | mpx (T : TypeId) (n : Nat) (get : Nat → List D) (b : Nat) (es : Array MapEntry) (clock : Nat) (hh : w.heap[b]? = some (.map es clock)) (hM : MapC tb T es clock n get) : XR tb K w as (.mpx T n get) (.map (some b)) [b]
  | ifc (T : TypeId) (d : D) (r : Value) (L : List Nat) (h : XR tb K w as d r L) : XR tb K w as (.ifc T d) (.iface T r) L
/-- Several, one behind the other. -/
inductive XRs (tb : Tb) (K : Nat → Nat → Prop) (w : World) (as : List Value) : List D → List Value → List Nat → Prop
  | nil : XRs tb K w as [] [] []
  | cons {d : D} {r : Value} {L M : List Nat} {l : List D} {rs : List Value} (h : XR tb K w as d r L) (hl : XRs tb K w as l rs M) : XRs tb K w as (d :: l) (r :: rs) (L ++ M)
/-- A function that may be handed places over: what it gives, and what the arguments' places hold then. -/
def SpecX (P : Program) (gl : Gls) (tb : Tb) (f : FuncId) (args : List D) (d : D) (ys : List D) : Prop :=
  ∀ (K : Nat → Nat → Prop) (w : World) (rs : List Value) (L : List Nat), Gl gl K w → (∀ b o, K b o → b < w.heap.size) → XRs tb K w [] args rs L → L.Nodup →
    Calls P f rs.toArray w fun e w' => ∃ r K' L', e = .returned r ∧ (∀ b o, K b o → K' b o ∧ w'.cell? ⟨b, o, none⟩ = w.cell? ⟨b, o, none⟩) ∧ (∀ b o, K' b o → K b o ∨ b ∈ L ∨ w.heap.size ≤ b) ∧ (∀ b o, K' b o → b < w'.heap.size) ∧
      XRs tb K' w' rs (d :: ys) (r :: rs) L' ∧ L'.Nodup ∧ (∀ b ∈ L', b ∈ L ∨ w.heap.size ≤ b) ∧
      w'.os = w.os ∧ w'.tape = w.tape ∧ w'.output = w.output ∧ w.heap.size ≤ w'.heap.size ∧ ∀ k, k < w.heap.size → k ∉ L → w'.heap[k]? = w.heap[k]?

/-- A function that turns a slice of bytes round. -/
def RevOk (P : Program) (f : FuncId) : Prop := Callable P f ∧ (∀ (b cap n : Nat) (v : Nat → Int) (w : World), (∃ cur E, w.heap[b]? = some (.cells cur E (0, 0))) → (∀ i, i < n → w.cell? ⟨b, i, none⟩ = some (.int .u8 (v i))) → n ≤ 9223372036854775807 →
    Calls P f #[.slice (some ⟨b, 0, none⟩) n cap] w fun e w' => e = .returned (.tuple #[]) ∧ (∀ i, i < n → w'.cell? ⟨b, i, none⟩ = some (.int .u8 (v (n - 1 - i)))) ∧
      w'.os = w.os ∧ w'.tape = w.tape ∧ w'.output = w.output ∧ w'.heap.size = w.heap.size ∧ ∀ k, k ≠ b → w'.heap[k]? = w.heap[k]?) ∧
  ∀ (a : Option Addr) (cap : Nat) (w : World), Calls P f #[.slice a 0 cap] w fun e w' => e = .returned (.tuple #[]) ∧ w'.os = w.os ∧ w'.tape = w.tape ∧ w'.output = w.output ∧ w'.heap.size = w.heap.size ∧ ∀ k : Nat, w'.heap[k]? = w.heap[k]?

/-- A function that the model itself stands in for: what it gives. -/
def Vals (P : Program) (f : FuncId) (args : List D) (d : D) : Prop :=
  ∀ (K : Nat → Nat → Prop) (w : World) (rs : Array Value), rs.size = args.length → (∀ i d, args[i]? = some d → KR K w d (rs.getD i undef)) → ∃ r, (callFunc f rs).run P w = .ok (.value r) w ∧ KR K w d r

structure EnvOk (P : Program) (gl : Gls) (tb : Tb) (env : Env) : Prop where
  p : ∀ f args d, env.p f args = some (true, d) → (Callable P f ∧ Spec P gl f args d) ∨ Vals P f args d
  x : ∀ f e, lookX env.x f = some e → Callable P f ∧ ∀ args d ys, e args = some (true, d, ys) → SpecX P gl tb f args d ys
  r : ∀ f, env.r = some f → RevOk P f
  c : ∀ f fn, lookC env.c f = some fn → P.funcs[f]? = some fn ∧ (fn.name == "runtime.NumGoroutine") = false
/-- In a function that began in w0. -/
def EnvAt (P : Program) (tb : Tb) (env : Env) (w0 : W0) (K0 : Nat → Nat → Prop) : Prop := ∃ gl, Gl gl K0 w0.w ∧ EnvOk P gl tb env ∧ (env.r.isSome = true → (∀ b, ¬ w0.F b) ∧ ∀ b o, K0 b o → b < w0.w.heap.size)

/-! ## Small lemmas -/
theorem getD_of {cs : Array Value} {i : Nat} {v : Value} (h : cs[i]? = some v) : cs.getD i undef = v := by simp [h]

theorem VR.int {g : G} {w : World} {k : IntKind} {n : Int} {r : Value} (h : VR g w (.v (.int k n)) r) : r = .int k n := by cases h with | kr _ _ h => cases h; rfl
theorem VR.val {g : G} {w : World} {x r : Value} (h : VR g w (.v x) r) : r = x := by cases h with | kr _ _ h => cases h; rfl
theorem VR.v {g : G} {w : World} (x : Value) (hx : okV x = true := by rfl) : VR g w (.v x) x := .kr _ _ (.v x hx)
theorem VR.okv {g : G} {w : World} {x r : Value} (h : VR g w (.v x) r) : okV x = true := by cases h with | kr _ _ h => cases h; assumption
theorem okD_ok {g : G} {w : World} (x : Value) : VR g w (okD x) x := by
  unfold okD
  split
  · rename_i h; exact .v x h
  · exact .kr _ _ (.no x)
theorem VR.no {g : G} {w : World} (x : Value) : VR g w .no x := .kr _ _ (.no x)

theorem VR.isAgg {g : G} {w : World} {l : List D} {r : Value} (h : VR g w (.agg l) r) :
    ∃ cs : Array Value, r = .agg cs ∧ cs.size = l.length ∧ (∀ i, i < l.length → oneC (cs.getD i undef) = true) ∧ ∀ i d, l[i]? = some d → VR g w d (cs.getD i undef) := by
  cases h with
  | kr _ _ h => cases h with | agg _ cs hl h1 hc => exact ⟨cs, rfl, hl, h1, fun i d hd => .kr _ _ (hc i d hd)⟩
  | agg _ cs hl h1 hc => exact ⟨cs, rfl, hl, h1, hc⟩
theorem VR.isTup {g : G} {w : World} {l : List D} {r : Value} (h : VR g w (.tup l) r) :
    ∃ cs : Array Value, r = .tuple cs ∧ cs.size = l.length ∧ ∀ i d, l[i]? = some d → VR g w d (cs.getD i undef) := by
  cases h with
  | kr _ _ h => cases h with | tup _ cs hl hc => exact ⟨cs, rfl, hl, fun i d hd => .kr _ _ (hc i d hd)⟩
  | tup _ cs hl hc => exact ⟨cs, rfl, hl, hc⟩
theorem VR.isLoc {g : G} {w : World} {i off : Nat} {r : Value} (h : VR g w (.loc i off) r) : g.C i ∧ r = .pointer (some ⟨g.σ i, off, none⟩) := by
  cases h with
  | kr _ _ h => cases h
  | loc _ _ hC => exact ⟨hC, rfl⟩
theorem VR.isSl {g : G} {w : World} {sz n : Nat} {get : Nat → List D} {p : Pm} {r : Value} (h : VR g w (.sl sz n get p) r) : KR g.K w (.sl sz n get .none) r ∧ PermOk g p r := by
  cases h with
  | kr _ _ h => cases h with
    | sl _ _ _ b off cap f hn hl hk hc => exact ⟨.sl sz n get b off cap f hn hl hk hc, trivial⟩
    | sl0 _ _ a cap => exact ⟨.sl0 sz get a cap, trivial⟩
  | sl _ _ _ _ _ h hp => exact ⟨h, hp⟩
theorem VR.isClo {g : G} {w : World} {f : FuncId} {l : List D} {r : Value} (h : VR g w (.clo f l) r) :
    ∃ cs : Array Value, r = .func (.func f) #[] cs ∧ cs.size = l.length ∧ ∀ i d, l[i]? = some d → VR g w d (cs.getD i undef) := by
  cases h with
  | kr _ _ h => cases h
  | clo _ _ cs hl hc => exact ⟨cs, rfl, hl, hc⟩
theorem VR.isSlm {g : G} {w : World} {sz i off n : Nat} {r : Value} (h : VR g w (.slm sz i off n) r) : g.C i ∧ r = .slice (some ⟨g.σ i, off * sz, none⟩) n n := by
  cases h with
  | kr _ _ h => cases h
  | slm _ _ _ _ hC => exact ⟨hC, rfl⟩
theorem VR.isMp {g : G} {w : World} {i : Nat} {r : Value} (h : VR g w (.mp i) r) : g.C i ∧ r = .map (some (g.σ i)) := by
  cases h with
  | kr _ _ h => cases h
  | mp _ hC => exact ⟨hC, rfl⟩
theorem VR.isIt {g : G} {w : World} {i : Nat} {r : Value} (h : VR g w (.it i) r) : g.C i ∧ r = .pointer (some ⟨g.σ i, 0, none⟩) := by
  cases h with
  | kr _ _ h => cases h
  | it _ hC => exact ⟨hC, rfl⟩
theorem VR.isStm {g : G} {w : World} {i : Nat} {r : Value} (h : VR g w (.stm i) r) : g.C i ∧ r = g.ρ i := by
  cases h with
  | kr _ _ h => cases h
  | stm _ hC => exact ⟨hC, rfl⟩
theorem VR.isIfc {g : G} {w : World} {T : TypeId} {d : D} {r : Value} (h : VR g w (.ifc T d) r) : ∃ x, r = .iface T x ∧ VR g w d x := by
  cases h with
  | kr _ _ h => cases h
  | ifc _ _ x h => exact ⟨x, rfl, h⟩
theorem VR.isRef {g : G} {w : World} {l : List D} {r : Value} (h : VR g w (.ref l) r) : KR g.K w (.ref l) r := by
  cases h with
  | kr _ _ h => exact h

theorem kp0_ok {g : G} {w : World} {d : D} {r : Value} (h : VR g w d r) : KR g.K w (kp0 d) r := by
  cases h with
  | kr _ _ h => cases h with
    | v _ hx => exact .v _ hx
    | no _ => exact .no _
    | agg l cs => exact .no _
    | tup l cs => exact .no _
    | ref l b off f hk hc => exact .ref l b off f hk hc
    | sl sz n get b off cap f hn hl hk hc => exact .sl sz n get b off cap f hn hl hk hc
    | sl0 sz get a cap => exact .sl0 sz get a cap
  | loc i off _ => exact .ref [] _ _ (fun _ => undef) (fun i h => absurd h (Nat.not_lt_zero _)) (fun i d h => by simp at h)
  | sl sz n get p r h _ => exact h
  | agg l cs => exact .no _
  | tup l cs => exact .no _
  | clo f l cs => exact .no _
  | slm sz i off n => exact .no _
  | mp i => exact .no _
  | it i => exact .no _
  | stm i => exact .no _
  | ifc T d r => exact .no _
theorem kp1_ok {g : G} {w : World} {d : D} {r : Value} (h : VR g w d r) : KR g.K w (kp1 d) r := by
  cases d with
  | agg l =>
    obtain ⟨cs, rfl, hl, h1, hc⟩ := h.isAgg
    refine .agg _ cs (by simpa using hl) (fun i hi => h1 i (by simpa using hi)) (fun i d hd => ?_)
    simp only [List.getElem?_map, Option.map_eq_some_iff] at hd
    obtain ⟨d', hd', rfl⟩ := hd
    exact kp0_ok (hc i d' hd')
  | _ => exact kp0_ok h
theorem kp2_ok {g : G} {w : World} {d : D} {r : Value} (h : VR g w d r) : KR g.K w (kp2 d) r := by
  cases d with
  | tup l =>
    obtain ⟨cs, rfl, hl, hc⟩ := h.isTup
    refine .tup _ cs (by simpa using hl) (fun i d hd => ?_)
    simp only [List.getElem?_map, Option.map_eq_some_iff] at hd
    obtain ⟨d', hd', rfl⟩ := hd
    exact kp1_ok (hc i d' hd')
  | _ => exact kp1_ok h

theorem oneC_eq (v : Value) : oneC v = v.oneCell' := by cases v <;> rfl

/-- A value's cells, and theirs. -/
theorem cellsOf_ok {g : G} {w : World} {d : D} {r : Value} {c : List D} (h : VR g w d r) (hc : cellsOf d = some c) :
    r.cells.size = c.length ∧ (∀ i, i < c.length → oneC (r.cells.getD i undef) = true) ∧ ∀ i e, c[i]? = some e → VR g w e (r.cells.getD i undef) := by
  have one : ∀ (d : D) (r : Value), VR g w d r → oneC r = true → r.cells.size = [d].length ∧ (∀ i, i < [d].length → oneC (r.cells.getD i undef) = true) ∧ ∀ i e, [d][i]? = some e → VR g w e (r.cells.getD i undef) := by
    intro d r hv ho
    have hr : r.cells = #[r] := by cases r <;> first | rfl | simp [oneC] at ho
    rw [hr]
    refine ⟨rfl, fun i hi => ?_, fun i e he => ?_⟩
    · have : i = 0 := by simpa using hi
      subst this; simpa using ho
    · cases i with
      | zero => simp at he; subst he; simpa using hv
      | succ i => simp at he
  cases d with
  | v x =>
    simp only [cellsOf] at hc
    split at hc
    · rename_i ho
      cases hc
      have := h.val
      subst this
      exact one _ _ h ho
    · cases hc
  | agg l =>
    cases hc
    obtain ⟨cs, rfl, hl, h1, hcc⟩ := h.isAgg
    exact ⟨hl, h1, hcc⟩
  | tup l => cases hc
  | sl sz n get p =>
    cases hc
    refine one _ _ h ?_
    obtain ⟨h, _⟩ := h.isSl
    cases h <;> rfl
  | loc i off =>
    cases hc
    obtain ⟨_, rfl⟩ := h.isLoc
    exact one _ _ h rfl
  | ref l =>
    cases hc
    have := h.isRef
    cases this
    exact one _ _ h rfl
  | no => cases hc
  | box T c => cases hc
  | argp j => cases hc
  | clo f l =>
    cases hc
    obtain ⟨cs, rfl, _⟩ := h.isClo
    exact one _ _ h rfl
  | row sz n T c => cases hc
  | slm sz i off n =>
    cases hc
    obtain ⟨_, rfl⟩ := h.isSlm
    exact one _ _ h rfl
  | mp i =>
    cases hc
    obtain ⟨_, rfl⟩ := h.isMp
    exact one _ _ h rfl
  | mpx T n get => cases hc
  | it q => cases hc
  | stm q => cases hc
  | ifc T d =>
    cases hc
    obtain ⟨_, rfl, _⟩ := h.isIfc
    exact one _ _ h rfl

/-- A run of cells as a value of a type. -/
theorem ofCells_ok {g : G} {w : World} {l : List D} {size : Nat} {d : D} {agg : Bool} (f : Nat → Value) (hf : ∀ (i : Nat) (e : D), l[i]? = some e → VR g w e (f i)) (h1 : ∀ i, i < l.length → oneC (f i) = true)
    (h : ofCells agg size l = some d) :
    (agg = true → size ≤ l.length ∧ ∃ cs : Array Value, cs.size = size ∧ (∀ i, i < size → cs[i]? = some (f i)) ∧ VR g w d (.agg cs)) ∧ (agg = false → 0 < l.length ∧ VR g w d (f 0)) := by
  cases agg with
  | true =>
    refine ⟨fun _ => ?_, fun e => by cases e⟩
    simp only [ofCells] at h
    split at h
    · rename_i hb
      cases h
      have hle : size ≤ l.length := Nat.le_of_ble_eq_true hb
      refine ⟨hle, ((List.range size).map f).toArray, by simp, fun i hi => by simp [hi], ?_⟩
      refine .agg _ _ (by simp; omega) (fun i hi => ?_) (fun i d hd => ?_)
      · have : i < size := by simp at hi; omega
        simp [this, h1 i (by omega)]
      · rw [List.getElem?_take] at hd
        split at hd
        · rename_i hi
          simp [hi]
          exact hf i d hd
        · cases hd
    · cases h
  | false =>
    refine ⟨fun e => (by cases e), fun _ => ?_⟩
    simp only [ofCells] at h
    cases l with
    | nil => cases h
    | cons e l =>
      cases h
      exact ⟨by simp, hf 0 _ rfl⟩

end Go.Ev
