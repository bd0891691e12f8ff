/- An evaluator of the model's code on plain data, and the relation between its data and the model's memory: definitions, and what the relation keeps. -/
import Derived.Calls
import Derived.Orders
import Derived.LoopN
import Derived.Below
import Derived.Laws.AppendOwn
import Derived.Laws.AppendOwnNone
import Derived.Laws.Rows
import Derived.Laws.StructEq
import Derived.KernelRfl
namespace Go.Ev
open Go Go.RowKit

/-- May a slice be appended to: no; it is the nil slice; by the permission q. -/
inductive Pm where
  | none
  | nil (E : TypeId)
  | tok (q : Nat)
  | own (E : TypeId)
  | nn
  | nl

/-- Data as the evaluator has it. -/
inductive D where
  | v (x : Value)
  | agg (l : List D)
  | tup (l : List D)
  | sl (sz n : Nat) (get : Nat → List D) (p : Pm)
  | loc (i off : Nat)
  | ref (l : List D)
  | no
  | box (T : TypeId) (c : List D)
  | argp (j : Nat)
  | clo (f : FuncId) (c : List D)
  | slm (sz i off n : Nat)
  | row (sz n : Nat) (T : TypeId) (c : List D)
  | mp (i : Nat)
  | mpx (T : TypeId) (n : Nat) (get : Nat → List D)
  | it (q : Nat)
  | stm (q : Nat)
  | ifc (T : TypeId) (d : D)

/-- What stands at a place of the evaluator's own. -/
inductive Bx where
  | cells (c : List D) (T : TypeId)
  | tok (E : TypeId)
  | dead
  | map (T : TypeId) (n : Nat) (get : Nat → List D) (ws : List Nat)
  | iter (i : Nat) (sn : List Nat)
  | stamp (i : Nat) (kc : List D)

def ikN : IntKind → Nat
  | .i8 => 0 | .i16 => 1 | .i32 => 2 | .i64 => 3 | .u8 => 4 | .u16 => 5 | .u32 => 6 | .u64 => 7
def ikEq (a b : IntKind) : Bool := Nat.beq (ikN a) (ikN b)
theorem ikEq_eq {a b : IntKind} (h : ikEq a b = true) : a = b := by cases a <;> cases b <;> first | rfl | cases h

abbrev Mem := List (Nat × Bx)
structure S where
  t : List D
  m : Mem
  k : Nat

inductive Td where
  | int (k : IntKind) | bool | str
  | struct (fs : List (Nat × TypeId))
  | arr (n : Nat) (e : TypeId)
  | sl (e : TypeId)
  | ptr
  | map (k e : TypeId)
  | fn
  | ifc
  | other

structure Ti where
  d : Td
  size : Nat
  bytes : Nat
  zero : List D
  eq : Bool

abbrev Tb := TypeId → Option Ti
def Td.isAgg : Td → Bool
  | .struct _ | .arr _ _ => true
  | _ => false

def look : Mem → Nat → Option Bx
  | [], _ => none
  | (i, b) :: r, j => match Nat.beq i j with | true => some b | false => look r j

def oneC : Value → Bool
  | .agg _ | .tuple _ => false
  | _ => true

/-- A string is not too long. -/
def okV : Value → Bool
  | .string s => decide (s.size ≤ 4294967280)
  | _ => true
def okD (x : Value) : D := match okV x with | true => .v x | false => .no
/-- A zero cell as an element has it. -/
def kq0 : D → D
  | .sl sz n g _ => .sl sz n g .none
  | d => d
/-- A constant, where a type is known; and where none is. -/
def constT (tb : Tb) (ty : TypeId) : Value → D
  | .slice none 0 0 => match tb ty with
    | some ⟨.sl e, _, _, _, _⟩ => match tb e with
      | some ie => .sl ie.size 0 (fun _ => ie.zero.map kq0) (.nil e)
      | none => .sl 0 0 (fun _ => []) .none
    | _ => .sl 0 0 (fun _ => []) .none
  | x => okD x
def constD : Value → D
  | .slice none 0 0 => .sl 0 0 (fun _ => []) .none
  | x => okD x
/-- An operand, where a type is known; and where none is. -/
def evx (tb : Tb) (ty : TypeId) (t : List D) : Operand → D
  | .tmp i => t.getD i .no
  | .const c => constT tb ty c
  | .global _ => .no
  | .func f => .v (.func (.func f) #[] #[])
def ev (t : List D) : Operand → D
  | .tmp i => t.getD i .no
  | .const c => constD c
  | .global _ => .no
  | .func f => .v (.func (.func f) #[] #[])

/-- Arguments, of types that are told. -/
def evL (tb : Tb) (t : List D) : List TypeId → List Operand → List D
  | T :: Ts, x :: xs => evx tb T t x :: evL tb t Ts xs
  | _, [] => []
  | [], x :: xs => ev t x :: evL tb t [] xs

/-- A value's cells. -/
def cellsOf : D → Option (List D)
  | .agg l => some l
  | .v x => match oneC x with | true => some [.v x] | false => none
  | .sl sz n g p => some [.sl sz n g p]
  | .loc i o => some [.loc i o]
  | .ref l => some [.ref l]
  | .clo f l => some [.clo f l]
  | .slm sz i off n => some [.slm sz i off n]
  | .mp i => some [.mp i]
  | .ifc T d => some [.ifc T d]
  | _ => none

/-- Cells as a value of a type. -/
def ofCells (agg : Bool) (size : Nat) (l : List D) : Option D :=
  match agg with
  | true => match Nat.ble size l.length with | true => some (.agg (l.take size)) | false => none
  | false => match l with | [] => none | d :: _ => some d

def binI (op : BinOp) (k : IntKind) (a b : Int) : Option (Bool × Value) :=
  match op with
  | .add => some (true, .int k (k.wrap (a + b)))
  | .sub => some (true, .int k (k.wrap (a - b)))
  | .mul => some (true, .int k (k.wrap (a * b)))
  | .quo => some (b != 0, .int k (k.wrap (a.tdiv b)))
  | .rem => some (b != 0, .int k (a.tmod b))
  | .and => some (true, .int k (k.wrap (BitVec.ofInt k.bits a &&& BitVec.ofInt k.bits b).toNat))
  | .or => some (true, .int k (k.wrap (BitVec.ofInt k.bits a ||| BitVec.ofInt k.bits b).toNat))
  | .xor => some (true, .int k (k.wrap (BitVec.ofInt k.bits a ^^^ BitVec.ofInt k.bits b).toNat))
  | .eql => some (true, .bool (a == b))
  | .neq => some (true, .bool (a != b))
  | .lss => some (true, .bool (decide (a < b)))
  | .leq => some (true, .bool (decide (a ≤ b)))
  | .gtr => some (true, .bool (decide (a > b)))
  | .geq => some (true, .bool (decide (a ≥ b)))
  | _ => none

def binS (op : BinOp) (a b : ByteArray) : Option (Bool × Value) :=
  match op with
  | .add => some (decide (a.size + b.size ≤ 4294967280), .string (a ++ b))
  | .eql => some (true, .bool (a.toList == b.toList))
  | .neq => some (true, .bool (!(a.toList == b.toList)))
  | _ => none

/-- Two cells of one kind (the kind told by a third one). -/
def eqCell : D → D → D → Option Bool
  | .v (.int k _), .v (.int k1 a), .v (.int k2 b) => match ikEq k1 k && ikEq k2 k with | true => some (a == b) | false => none
  | .v (.bool _), .v (.bool a), .v (.bool b) => some (a == b)
  | .v (.string _), .v (.string a), .v (.string b) => some (a.toList == b.toList)
  | _, _, _ => none
def eqCells : List D → List D → List D → Option Bool
  | [], [], [] => some true
  | z :: zs, x :: xs, y :: ys => match eqCell z x y, eqCells zs xs ys with
    | some b, some c => some (b && c)
    | _, _ => none
  | _, _, _ => none

def binD (eq : Option Ti) (op : BinOp) (x y : D) : Option (Bool × D) :=
  match x, y with
  | .v (.int k a), .v (.int k' b) =>
    match op with
    | .shl => some (decide (0 ≤ b), .v (.int k (k.wrap (a * 2 ^ (min b.toNat k.bits)))))
    | .shr => some (decide (0 ≤ b), .v (.int k (a.fdiv (2 ^ (min b.toNat k.bits)))))
    | op => match ikEq k k' with
      | true => (binI op k a b).map fun r => (r.1, .v r.2)
      | false => none
  | .v (.string a), .v (.string b) => (binS op a b).map fun r => (r.1, .v r.2)
  | .v (.bool a), .v (.bool b) => match eq with
    | some ⟨.bool, _, _, _, _⟩ => match op with
      | .eql => some (true, .v (.bool (a == b)))
      | .neq => some (true, .v (.bool (!(a == b))))
      | _ => none
    | _ => none
  | .agg xs, .agg ys => match eq with
    | none => none
    | some ti => match ti.eq && ti.d.isAgg, op, eqCells ti.zero xs ys with
      | true, .eql, some b => some (true, .v (.bool b))
      | true, .neq, some b => some (true, .v (.bool (!b)))
      | _, _, _ => none
  | .loc _ _, .v (.pointer none) => match eq with
    | some ⟨.ptr, _, _, _, _⟩ => match op with
      | .eql => some (true, .v (.bool false))
      | .neq => some (true, .v (.bool true))
      | _ => none
    | _ => none
  | .ref _, .v (.pointer none) => match eq with
    | some ⟨.ptr, _, _, _, _⟩ => match op with
      | .eql => some (true, .v (.bool false))
      | .neq => some (true, .v (.bool true))
      | _ => none
    | _ => none
  | .v (.pointer none), .v (.pointer none) => match eq with
    | some ⟨.ptr, _, _, _, _⟩ => match op with
      | .eql => some (true, .v (.bool true))
      | .neq => some (true, .v (.bool false))
      | _ => none
    | _ => none
  | _, _ => none

/-- A slice held against nil, where it is known. -/
def nilC0 (ti : Option Ti) (y : Operand) (x : D) : Option Bool :=
  match y, x, ti with
  | .const (.slice none 0 0), .sl _ _ _ (.nil _), some ⟨.sl _, _, _, _, _⟩ => some true
  | .const (.slice none 0 0), .sl _ _ _ .nn, some ⟨.sl _, _, _, _, _⟩ => some false
  | .const (.slice none 0 0), .sl _ _ _ .nl, some ⟨.sl _, _, _, _, _⟩ => some true
  | .const .nilFunc, .v (.func _ _ _), some ⟨.fn, _, _, _, _⟩ => some false
  | .const .nilFunc, .clo _ _, some ⟨.fn, _, _, _, _⟩ => some false
  | .const .nilIface, .ifc _ _, some ⟨.ifc, _, _, _, _⟩ => some false
  | .const .nilIface, .v .nilIface, some ⟨.ifc, _, _, _, _⟩ => some true
  | .const (.map none), .mp _, some ⟨.map _ _, _, _, _, _⟩ => some false
  | .const (.map none), .v (.map none), some ⟨.map _ _, _, _, _, _⟩ => some true
  | _, _, _ => none
def nilC (op : BinOp) (ti : Option Ti) (y : Operand) (x : D) : Option Bool :=
  match op with
  | .eql => nilC0 ti y x
  | .neq => match nilC0 ti y x with
    | some true => some false
    | some false => some true
    | none => none
  | _ => none
def unD (op : UnOp) (x : D) : Option D :=
  match op, x with
  | .not, .v (.bool b) => some (.v (.bool (!b)))
  | .neg, .v (.int k n) => some (.v (.int k (k.wrap (0 - n))))
  | .xor, .v (.int k n) => some (.v (.int k (k.wrap (BitVec.ofInt k.bits (if k.signed then -1 else k.max) ^^^ BitVec.ofInt k.bits n).toNat)))
  | _, _ => none

/-- A part put into cells. -/
def splice (c : List D) (off : Nat) (l : List D) : List D := c.take off ++ l ++ c.drop (off + l.length)

def fillD (place : Nat → Option (Nat × Nat)) (c : List D) : List (Nat × D) → Option (List D)
  | [] => some c
  | (i, d) :: r => match place i, cellsOf d with
    | some (off, size), some l =>
      match Nat.beq l.length size && Nat.ble (off + l.length) c.length with
      | true => fillD place (splice c off l) r
      | false => none
    | _, _ => none

def placeOf (tb : Tb) (ti : Ti) (i : Nat) : Option (Nat × Nat) :=
  match ti.d with
  | .struct fs => match fs[i]? with
    | some (off, T) => match tb T with
      | some f => some (off, f.size)
      | none => none
    | none => none
  | .arr _ e => match tb e with
    | some f => some (i * f.size, f.size)
    | none => none
  | _ => none

/-- An argument without the evaluator's own places. -/
def kp0 : D → D
  | .v x => .v x
  | .sl sz n g _ => .sl sz n g .none
  | .ref l => .ref l
  | .loc _ _ => .ref []
  | _ => .no
def kp1 : D → D
  | .agg l => .agg (l.map kp0)
  | d => kp0 d
def kp2 : D → D
  | .tup l => .tup (l.map kp1)
  | d => kp1 d

/-- Cells by n of them. -/
def rowGet (sz : Nat) (c : List D) (i : Nat) : List D := (c.drop (i * sz)).take sz
/-- The same as a list, made ahead. -/
def chunks (sz : Nat) (c : List D) : Nat → Nat → List (List D)
  | 0, _ => []
  | n + 1, i => rowGet sz c i :: chunks sz c n (i + 1)
theorem chunks_get (sz : Nat) (c : List D) (z : List D) : ∀ (n i j : Nat), j < n → (chunks sz c n i).getD j z = rowGet sz c (i + j)
  | n + 1, i, 0, _ => rfl
  | n + 1, i, j + 1, h => by
    show (chunks sz c n (i + 1)).getD j z = _
    rw [chunks_get sz c z n (i + 1) j (by omega), show i + 1 + j = i + (j + 1) by omega]
def bsGet (n sz : Nat) (z c : List D) (i : Nat) : List D := (chunks sz c n 0).getD i z
theorem bsGet_eq {n sz i : Nat} {z c : List D} (h : i < n) : bsGet n sz z c i = rowGet sz c i := by
  unfold bsGet
  rw [chunks_get _ _ _ _ _ _ h, Nat.zero_add]
def repD (z : List D) : Nat → List D
  | 0 => []
  | n + 1 => z ++ repD z n

/-- What a function gives: whether the arguments are such that it does, and what. -/
abbrev FeX := List D → Option (Bool × D × List D)
structure Env where
  p : FuncId → List D → Option (Bool × D)
  x : List (FuncId × FeX)
  r : Option FuncId := none
  c : List (FuncId × Func) := []
  w : Option TypeId := none
/-- Literal slices of such elements may be written. -/
def wOk : Option TypeId → TypeId → Bool
  | some e, e' => Nat.beq e e'
  | none, _ => false
def lookX : List (FuncId × FeX) → FuncId → Option FeX
  | [], _ => none
  | (i, e) :: r, f => match Nat.beq i f with | true => some e | false => lookX r f

/-! What goes over to a function and comes back: the evaluator's own places written out. -/
def inL (h : Nat → D → D × Mem × Nat) : Nat → List D → List D × Mem × Nat
  | k, [] => ([], [], k)
  | k, d :: r => match h k d with
    | (d', m, k1) => match inL h k1 r with
      | (r', m', k2) => (d' :: r', m' ++ m, k2)
def inD : Nat → Nat → D → D × Mem × Nat
  | 0, k, _ => (.no, [], k)
  | f + 1, k, d => match d with
    | .box T c => match inL (inD f) (k + 1) c with
      | (c', m, k') => (.loc (4 * k) 0, (4 * k, .cells c' T) :: m, k')
    | .sl sz n g (.own E) => (.sl sz n g (.tok (4 * k + 1)), [(4 * k + 1, .tok E)], k + 1)
    | .row sz n T c => (.slm sz (4 * k + 2) 0 n, [(4 * k + 2, .cells c T)], k + 1)
    | .agg l => match inL (inD f) k l with
      | (l', m, k') => (.agg l', m, k')
    | .tup l => match inL (inD f) k l with
      | (l', m, k') => (.tup l', m, k')
    | .clo i l => match inL (inD f) k l with
      | (l', m, k') => (.clo i l', m, k')
    | .v x => (.v x, [], k)
    | .ref l => (.ref l, [], k)
    | .mpx T n g => (.mp (4 * k + 3), [(4 * k + 3, .map T n g [])], k + 1)
    | .ifc T d => match inD f k d with
      | (d', m, k') => (.ifc T d', m, k')
    | .sl sz n g _ => (.sl sz n g .none, [], k)
    | _ => (.no, [], k)
def isLk : Option Bx → Bool
  | some (.iter ..) | some (.stamp ..) => true
  | _ => false
def outL (h : D → D × List Nat) : List D → List D × List Nat
  | [] => ([], [])
  | d :: r => match h d with
    | (d', u) => match outL h r with
      | (r', v) => (d' :: r', u ++ v)
def outD (m : Mem) : Nat → D → D × List Nat
  | 0, _ => (.no, [])
  | f + 1, d => match d with
    | .loc i 0 => match look m i with
      | some (.cells c T) => match outL (outD m f) c with
        | (c', u) => (.box T c', i :: u)
      | _ => (.no, [])
    | .slm sz i 0 n => match look m i with
      | some (.cells c T) => (.row sz n T (c.map kp0), [i])
      | _ => (.no, [])
    | .sl sz n g (.tok q) => match look m q with
      | some (.tok E) => (.sl sz n g (.own E), [q])
      | _ => (.sl sz n g .none, [])
    | .sl sz n g (.nil E) => (.sl sz n g (.own E), [])
    | .agg l => match outL (outD m f) l with
      | (l', u) => (.agg l', u)
    | .tup l => match outL (outD m f) l with
      | (l', u) => (.tup l', u)
    | .clo i l => match outL (outD m f) l with
      | (l', u) => (.clo i l', u)
    | .v x => (.v x, [])
    | .ref l => (.ref l, [])
    | .mp i => match look m i with
      | some (.map T n g ws) => (.mpx T n g, i :: ws.filter fun q => isLk (look m q))
      | _ => (.no, [])
    | .ifc T d => match outD m f d with
      | (d', u) => (.ifc T d', u)
    | .sl sz n g _ => (.sl sz n g .none, [])
    | _ => (.no, [])
def hasI (x : Nat) : List Nat → Bool
  | [] => false
  | y :: r => match Nat.beq y x with | true => true | false => hasI x r
def onceI : List Nat → Bool
  | [] => true
  | x :: r => match hasI x r with | true => false | false => onceI r
/-- What an argument's own places hold behind the call. -/
def updL (h : Nat → D → D → Mem × Nat) : Nat → List D → List D → Mem × Nat
  | k, a :: as, d :: ds => match h k a d with
    | (m, k1) => match updL h k1 as ds with
      | (m', k2) => (m' ++ m, k2)
  | k, _, _ => ([], k)
def isMapB : Option Bx → Bool
  | some (.map ..) => true
  | _ => false
def updD (m0 : Mem) (u : List Nat) : Nat → Nat → D → D → Mem × Nat
  | 0, k, _, _ => ([], k)
  | f + 1, k, a, d => match a, d with
    | .loc i 0, .box T c => match hasI i u with
      | true => match inL (inD f) k c with
        | (c', m, k') => ((i, .cells c' T) :: m, k')
      | false => ([], k)
    | .slm _ i 0 _, .row _ _ T c => match hasI i u with
      | true => ([(i, .cells c T)], k)
      | false => ([], k)
    | .agg l, .agg l' => updL (updD m0 u f) k l l'
    | .clo _ l, .clo _ l' => updL (updD m0 u f) k l l'
    | .mp i, .mpx T n g => match hasI i u && isMapB (look m0 i) with
      | true => ([(i, .map T n g [])], k)
      | false => ([], k)
    | .ifc _ d, .ifc _ d' => updD m0 u f k d d'
    | _, _ => ([], k)
def argD (as : List D) : D → Option D
  | .argp j => as[j]?
  | _ => none
def inR (as : List D) : Nat → Nat → D → D × Mem × Nat
  | 0, k, _ => (.no, [], k)
  | f + 1, k, d => match d with
    | .argp j => (as.getD j .no, [], k)
    | .tup l => match inL (inR as f) k l with
      | (l', m, k') => (.tup l', m, k')
    | .agg l => match inL (inR as f) k l with
      | (l', m, k') => (.agg l', m, k')
    | d => inD (f + 1) k d
def callX (e : FeX) (fr : Nat) (as : List D) (m : Mem) : Option (Bool × D × Mem) :=
  match outL (outD m 6) as with
  | (xs, u) => match e xs with
    | none => none
    | some (c, d, ys) => match onceI u && Nat.beq ys.length xs.length, updL (updD m u 6) fr as ys with
      | true, (um, k) => match inR as 7 k d with
        | (d', rm, k') => match Nat.ble k' (fr + 31) with
          | true => some (c, d', rm ++ (um ++ u.map fun i => (i, .dead)))
          | false => none
      | false, _ => none

/-- Two bounds hold. -/
def bnd (i : Int) (n : Nat) : Bool := decide (0 ≤ i) && decide (i < (n : Int))

def evBuiltin (tb : Tb) (id : Nat) (b : Builtin) (ats : Array TypeId) (args : List D) (m : Mem) : Option (Bool × D × Mem) :=
  match b, args, ats.toList with
  | .len, [.v (.string s)], [T] => match tb T with
    | some ⟨.str, _, _, _, _⟩ => some (true, .v (.int .i64 s.size), [])
    | _ => none
  | .len, [.sl _ n _ _], [T] => match tb T with
    | some ⟨.sl _, _, _, _, _⟩ => some (true, .v (.int .i64 n), [])
    | _ => none
  | .max, [.v (.int k a), .v (.int k' b)], _ => match ikEq k k' with | true => some (true, .v (.int k (if a < b then b else a)), []) | false => none
  | .min, [.v (.int k a), .v (.int k' b)], _ => match ikEq k k' with | true => some (true, .v (.int k (if b < a then b else a)), []) | false => none
  | .append, [.sl sz n g p, .sl sz' n' g' _], [T, T'] =>
    match Nat.beq T T', tb T with
    | true, some ⟨.sl e, _, _, _, _⟩ => match tb e with
      | some ie =>
        let ok := Nat.ble 1 ie.size && (Nat.beq sz ie.size && Nat.beq sz' ie.size)
        let r : D := .sl ie.size (n + n') (fun i => match Nat.blt i n with | true => g i | false => g' (i - n)) (.tok id)
        let c := decide ((n + n') * ie.bytes ≤ 140737488355328 ∧ n + n' ≤ 9223372036854775807)
        match ok, p with
        | true, .nil e' => match Nat.beq e e' with | true => some (c, r, [(id, .tok e)]) | false => none
        | true, .tok q => match look m q with
          | some (.tok e') => match Nat.beq e e' && Nat.beq (q % 2) 1 with | true => some (c, r, [(id, .tok e), (q, .dead)]) | false => none
          | _ => none
        | _, _ => none
      | none => none
    | _, _ => none
  | _, _, _ => none

/-- Cells laid over others. -/
def cpy (c : List D) (o k : Nat) (g : Nat → List D) : List D := c.take o ++ (List.range k).flatMap g ++ c.drop (o + k)
def numD : D → Option Int
  | .v (.int _ n) => some n
  | _ => none
def bndD (t : List D) (z : Int) : Option Operand → Option Int
  | none => some z
  | some y => numD (ev t y)
/-- A byte; a slice's bytes as a text. -/
def u8Of : List D → Option Int
  | [.v (.int k n)] => match ikEq k .u8 with | true => some n | false => none
  | _ => none
def allU8 (n : Nat) (g : Nat → List D) : Bool := (List.range n).all fun i => (u8Of (g i)).isSome
def strU8 (n : Nat) (g : Nat → List D) : ByteArray := ((List.range n).map fun i => (u8Of (g i)).getD 0).foldl (fun r n => r.push (UInt8.ofNat n.toNat)) ByteArray.empty
/-- Slices over a row that may be written. -/
def evRow (tb : Tb) (fr : Nat) (o : Oper) (t : List D) (m : Mem) : Option (Bool × D × Mem) :=
  match o.op with
  | .makeSlice T l c => match tb T, numD (ev t l), numD (ev t c) with
    | some ⟨.sl e, _, _, _, _⟩, some n, some n' => match tb e with
      | some ie => match Nat.beq ie.zero.length ie.size with
        | true => some (decide (0 ≤ n) && (decide (n = n') && (decide ((ie.bytes : Int) * n ≤ 281474976710656) && decide (n ≤ 9223372036854775807))), .slm ie.size (4 * fr + 2) 0 n.toNat, [(4 * fr + 2, .cells (repD ie.zero n.toNat) e)])
        | false => none
      | none => none
    | _, _, _ => none
  | .indexAddr T x ix => match tb T, ev t x, numD (ev t ix) with
    | some ⟨.sl e, _, _, _, _⟩, .slm sz i off n, some k => match tb e with
      | some ie => match Nat.beq sz ie.size with
        | true => some (bnd k n, .loc i (off * sz + k.toNat * ie.size), [])
        | false => none
      | none => none
    | _, _, _ => none
  | .slice T x lo (some hi) (some mx) => match tb T, ev t x with
    | some ⟨.sl e, _, _, _, _⟩, .sl sz n g _ => match tb e, bndD t 0 lo, numD (ev t hi), numD (ev t mx) with
      | some ie, some l, some h, some q => match Nat.beq sz ie.size with
        | true => some (decide (0 ≤ l) && (decide (l ≤ h) && (decide (h ≤ q) && decide (q ≤ (n : Int)))), .sl sz (h.toNat - l.toNat) (fun i => g (l.toNat + i)) .none, [])
        | false => none
      | _, _, _, _ => none
    | _, _ => none
  | .call ⟨.builtin .len, args, ats⟩ => match args.toList.map (ev t), ats.toList with
    | [.slm _ _ _ n], [T] => match tb T with
      | some ⟨.sl _, _, _, _, _⟩ => some (true, .v (.int .i64 n), [])
      | _ => none
    | _, _ => none
  | .call ⟨.builtin .copy, args, ats⟩ => match args.toList.map (ev t), ats.toList with
    | [.slm sz i off n, .sl sz' n' g _], [T, _] => match tb T with
      | some ⟨.sl e, _, _, _, _⟩ => match tb e, look m i with
        | some ie, some (.cells c E) => match Nat.beq sz 1 && (Nat.beq sz' 1 && (Nat.beq ie.size 1 && Nat.beq (i % 2) 0)) with
          | true => some (Nat.ble (off + Nat.min n' n) c.length, .v (.int .i64 (Nat.min n' n)), [(i, .cells (cpy c off (Nat.min n' n) g) E)])
          | false => none
        | _, _ => none
      | _ => none
    | _, _ => none
  | .convert src dst x => match tb src, tb dst, ev t x with
    | some ⟨.sl e, _, _, _, _⟩, some ⟨.str, _, _, _, _⟩, .sl sz n g _ => match tb e with
      | some ⟨.int k, _, _, _, _⟩ => match ikEq k .u8 && Nat.beq sz 1 with
        | true => some (allU8 n g && decide (n ≤ 4294967280), .v (.string (strU8 n g)), [])
        | false => none
      | _ => none
    | _, _, _ => none
  | _ => none

/-- One operation: whether it may go on, what it gives, what it changes. -/
def evOp0 (env : Env) (tb : Tb) (id idt fr : Nat) (o : Oper) (t : List D) (m : Mem) : Option (Bool × D × Mem) :=
  match o.op with
  | .move x | .assign x => some (true, evx tb o.type t x, [])
  | .alloc T => match tb T with
    | some i => some (true, .loc id 0, [(id, .cells i.zero T)])
    | none => none
  | .box T x => match cellsOf (evx tb T t x) with
    | some c => some (true, .loc id 0, [(id, .cells c T)])
    | none => none
  | .build T ps => match tb T with
    | some ti => match ti.d.isAgg, fillD (placeOf tb ti) ti.zero (ps.toList.map fun p => (p.1, ev t p.2)) with
      | true, some c => some (true, .agg c, [])
      | _, _ => none
    | none => none
  | .buildSlice T n ps => match tb T with
    | some ⟨.sl e, _, _, _, _⟩ => match tb e with
      | some ie =>
        match Nat.ble 1 ie.size && Nat.ble (n * ie.size) 16777216 && Nat.beq ie.zero.length ie.size, fillD (fun i => some (i * ie.size, ie.size)) (repD ie.zero n) (ps.toList.map fun p => (p.1, ev t p.2)) with
        | true, some c => match wOk env.w e with
          | true => some (true, .slm ie.size (4 * fr + 2) 0 n, [(4 * fr + 2, .cells c e)])
          | false => some (true, .sl ie.size n (bsGet n ie.size (ie.zero.map kq0) (c.map kp0)) (.tok idt), [(idt, .tok e)])
        | _, _ => none
      | none => none
    | _ => none
  | .load T a => match tb T, ev t a with
    | some ti, .loc i off => match look m i, Nat.beq (i % 2) 0 with
      | some (.cells c _), true => (ofCells ti.d.isAgg ti.size (c.drop off)).map fun d => (true, d, [])
      | _, _ => none
    | some ti, .ref l => (ofCells ti.d.isAgg ti.size l).map fun d => (true, d, [])
    | _, _ => none
  | .store T a x => match tb T, ev t a with
    | some ti, .loc i off => match look m i, cellsOf (evx tb T t x) with
      | some (.cells c T'), some l => match Nat.beq l.length ti.size && Nat.beq (i % 2) 0 with
        | true => some (Nat.ble (off + l.length) c.length, .no, [(i, .cells (splice c off l) T')])
        | false => none
      | _, _ => none
    | _, _ => none
  | .binOp op T x y _ => match nilC op (tb T) y (ev t x) with
    | some b => some (true, .v (.bool b), [])
    | none => (binD (tb T) op (ev t x) (ev t y)).map fun r => (r.1, r.2, [])
  | .unOp op _ x => (unD op (ev t x)).map fun d => (true, d, [])
  | .convert src dst x => match tb src, tb dst, ev t x with
    | some ⟨.int _, _, _, _, _⟩, some ⟨.int k, _, _, _, _⟩, .v (.int _ n) => some (true, .v (.int k (k.wrap n)), [])
    | some ⟨.str, _, _, _, _⟩, some ⟨.sl e, _, _, _, _⟩, .v (.string s) => match tb e with
      | some ⟨.int k, _, _, _, _⟩ => match ikEq k .u8 with
        | true => some (true, .sl 1 s.size (fun i => [.v (.int .u8 (s.data.toList.getD i 0).toNat)]) .none, [])
        | false => none
      | _ => none
    | _, _, _ => none
  | .fieldAddr T x f => match tb T with
    | some ⟨.struct fs, _, _, _, _⟩ => match fs[f]? with
      | some (off, ft) => match tb ft with
        | some fi => match Nat.ble 1 fi.size, ev t x with
          | true, .loc i o => some (true, .loc i (o + off), [])
          | true, .ref l => match Nat.ble off l.length with | true => some (true, .ref (l.drop off), []) | false => none
          | _, _ => none
        | none => none
      | none => none
    | _ => none
  | .field T x f => match tb T, ev t x with
    | some ⟨.struct fs, _, _, _, _⟩, .agg c => match fs[f]? with
      | some (off, ft) => match tb ft with
        | some fi => (ofCells fi.d.isAgg fi.size (c.drop off)).map fun d => (true, d, [])
        | none => none
      | none => none
    | _, _ => none
  | .indexAddr T x ix => match tb T, ev t x, ev t ix with
    | some ⟨.arr n e, _, _, _, _⟩, .loc b off, .v (.int _ i) => match tb e with
      | some ie => some (bnd i n, .loc b (off + i.toNat * ie.size), [])
      | none => none
    | some ⟨.arr n e, _, _, _, _⟩, .ref l, .v (.int _ i) => match tb e with
      | some ie => some (bnd i n && Nat.ble (i.toNat * ie.size) l.length, .ref (l.drop (i.toNat * ie.size)), [])
      | none => none
    | some ⟨.sl e, _, _, _, _⟩, .sl sz n g _, .v (.int _ i) => match tb e with
      | some ie => match Nat.beq sz ie.size with
        | true => some (bnd i n, .ref (g i.toNat), [])
        | false => none
      | none => none
    | _, _, _ => none
  | .index T x ix => match tb T, ev t x, ev t ix with
    | some ⟨.arr n e, _, _, _, _⟩, .agg c, .v (.int _ i) => match tb e with
      | some ie => (ofCells ie.d.isAgg ie.size (c.drop (i.toNat * ie.size))).map fun d => (bnd i n, d, [])
      | none => none
    | some ⟨.str, _, _, _, _⟩, .v (.string s), .v (.int _ i) => some (bnd i s.size, .v (.int .u8 (s.data.toList.getD i.toNat 0).toNat), [])
    | _, _, _ => none
  | .extract x i => match ev t x with
    | .tup l => match l[i]? with
      | some d => some (true, d, [])
      | none => none
    | _ => none
  | .slice T x lo hi none =>
    match tb T, ev t x with
    | some ⟨.str, _, _, _, _⟩, .v (.string s) =>
      match (match lo with | none => some (0 : Int) | some y => match ev t y with | .v (.int _ n) => some n | _ => none),
            (match hi with | none => some (s.size : Int) | some y => match ev t y with | .v (.int _ n) => some n | _ => none) with
      | some l, some h => some (decide (0 ≤ l) && (decide (l ≤ h) && decide (h ≤ (s.size : Int))), .v (.string (s.extract l.toNat h.toNat)), [])
      | _, _ => none
    | some ⟨.sl e, _, _, _, _⟩, .sl sz n g _ =>
      match tb e, (match lo with | none => some (0 : Int) | some y => match ev t y with | .v (.int _ n) => some n | _ => none),
            (match hi with | none => some (n : Int) | some y => match ev t y with | .v (.int _ n) => some n | _ => none) with
      | some ie, some l, some h => match Nat.beq sz ie.size with
        | true => some (decide (0 ≤ l) && (decide (l ≤ h) && decide (h ≤ (n : Int))), .sl sz (h.toNat - l.toNat) (fun i => g (l.toNat + i)) .none, [])
        | false => none
      | _, _, _ => none
    | _, _ => none
  | .nilCheck x => match ev t x with
    | .loc i off => some (true, .loc i off, [])
    | .ref l => some (true, .ref l, [])
    | .v (.func (.func f) a b) => some (true, .v (.func (.func f) a b), [])
    | _ => none
  | .makeFunc (.func f) ⟨[]⟩ caps => some (true, .clo f (caps.toList.map (ev t)), [])
  | .call ⟨.builtin b, args, ats⟩ => evBuiltin tb idt b ats (args.toList.map (ev t)) m
  | .call ⟨.value f, args, ats⟩ => match ev t f with
    | .v (.func (.func fid) ⟨[]⟩ ⟨[]⟩) => match lookX env.x fid with
      | none => match env.p fid ((evL tb t ats.toList args.toList).map kp1) with
        | some (c, d) => some (c, d, [])
        | none => none
      | some e => callX e fr (evL tb t ats.toList args.toList) m
    | .clo fid caps => match lookX env.x fid with
      | none => none
      | some e => callX e fr (evL tb t ats.toList args.toList ++ caps) m
    | _ => none
  | _ => none

/-! Maps whose keys and elements are plain: an entry's cells are the key's, then the element's. -/
/-- Cells of the kinds that a type's zero cells have. -/
def plainC : List D → List D → Bool
  | [], [] => true
  | .v (.int k _) :: z, .v (.int k' _) :: l => ikEq k k' && plainC z l
  | .v (.bool _) :: z, .v (.bool _) :: l => plainC z l
  | .v (.string _) :: z, .v (.string _) :: l => plainC z l
  | _, _ => false
/-- A key's cells stand here. -/
def hitC : List D → List D → Bool
  | [], _ => true
  | .v (.int _ a) :: l, .v (.int _ b) :: r => (a == b) && hitC l r
  | .v (.bool a) :: l, .v (.bool b) :: r => (a == b) && hitC l r
  | .v (.string a) :: l, .v (.string b) :: r => (a.toList == b.toList) && hitC l r
  | _, _ => false
def hasM (n : Nat) (g : Nat → List D) (kc : List D) : Bool := (List.range n).any fun j => hitC kc (g j)
def atM (n : Nat) (g : Nat → List D) (kc : List D) : Nat := ((List.range n).find? fun j => hitC kc (g j)).getD n
def putN (n : Nat) (g : Nat → List D) (kc : List D) : Nat := bif hasM n g kc then n else n + 1
def putG (n : Nat) (g : Nat → List D) (kc vc : List D) (j : Nat) : List D := match Nat.beq j (atM n g kc) with | true => kc ++ vc | false => g j
def delN (n : Nat) (g : Nat → List D) (kc : List D) : Nat := bif hasM n g kc then n - 1 else n
def delG (n : Nat) (g : Nat → List D) (kc : List D) (j : Nat) : List D := match Nat.blt j (atM n g kc) with | true => g j | false => g (j + 1)
def intD : D → Int
  | .v (.int _ n) => n
  | _ => 0
def boolD : D → Bool
  | .v (.bool b) => b
  | _ => false
def strD : D → ByteArray
  | .v (.string s) => s
  | _ => ⟨#[]⟩
/-- Cells of the kinds told, out of an entry from place j on, where there is one. -/
def prjC (has : Bool) (l : List D) : List D → Nat → List D
  | [], _ => []
  | .v (.int k a) :: z, j => .v (.int k (bif has then intD (l.getD j .no) else a)) :: prjC has l z (j + 1)
  | .v (.bool a) :: z, j => .v (.bool (bif has then boolD (l.getD j .no) else a)) :: prjC has l z (j + 1)
  | .v (.string a) :: z, j => .v (.string (bif has then strD (l.getD j .no) else a)) :: prjC has l z (j + 1)
  | _ :: z, j => .no :: prjC has l z (j + 1)
def oneD (agg : Bool) (l : List D) : D := match agg with
  | true => .agg l
  | false => l.headD .no
/-- The cells of a plain value. -/
def cellsA (agg : Bool) (d : D) : Option (List D) := match agg, d with
  | true, .agg l => some l
  | false, .v x => some [.v x]
  | _, _ => none
/-- What looks at a map is no longer known when the map has changed. -/
def killW (m : Mem) (ws : List Nat) : Mem := (ws.filter fun q => (look m q).isSome).map fun q => (q, .dead)
/-- A map's type: the key's information, the element's. -/
def mapT (tb : Tb) (T : TypeId) : Option (TypeId × TypeId × Ti × Ti) :=
  match tb T with
  | some ⟨.map k e, _, _, _, _⟩ => match tb k, tb e with
    | some ki, some ei => match ki.eq && (ki.d.isAgg && plainC ei.zero ei.zero) with
      | true => some (k, e, ki, ei)
      | false => none
    | _, _ => none
  | _ => none
def evMap (tb : Tb) (idt : Nat) (o : Oper) (t : List D) (m : Mem) : Option (Bool × D × Mem) :=
  match o.op with
  | .makeMap T none => match mapT tb T with
    | some _ => some (true, .mp idt, [(idt, .map T 0 (fun _ => []) [])])
    | none => none
  | .lookup T x ix ok => match ev t x with
    | .mp i => match look m i, mapT tb T with
      | some (.map T' n g _), some (k, _, ki, ei) => match cellsA true (evx tb k t ix) with
        | some kc => match Nat.beq T T' && plainC ki.zero kc with
          | true => match oneD ei.d.isAgg (prjC (hasM n g kc) (g (atM n g kc)) ei.zero ki.size) with
            | d => some (true, (match ok with | true => .tup [d, .v (.bool (hasM n g kc))] | false => d), [])
          | false => none
        | none => none
      | _, _ => none
    | _ => none
  | .mapUpdate T x ix y | .insert T x ix y => match ev t x with
    | .mp i => match look m i, mapT tb T with
      | some (.map T' n g ws), some (k, e, ki, ei) => match cellsA true (evx tb k t ix), cellsA ei.d.isAgg (evx tb e t y) with
        | some kc, some vc => match Nat.beq T T' && (plainC ki.zero kc && plainC ei.zero vc) with
          | true => some (true, .no, (i, .map T (putN n g kc) (putG n g kc vc) []) :: killW m ws)
          | false => none
        | _, _ => none
      | _, _ => none
    | _ => none
  | .mapEntry T x ix => match ev t x with
    | .mp i => match look m i, mapT tb T with
      | some (.map T' n g ws), some (k, _, ki, ei) => match cellsA true (evx tb k t ix) with
        | some kc => match Nat.beq T T' && plainC ki.zero kc with
          | true => match prjC (hasM n g kc) (g (atM n g kc)) ei.zero ki.size with
            | vc => some (true, .tup [oneD ei.d.isAgg vc, .stm idt], (idt, .stamp i kc) :: (i, .map T (putN n g kc) (putG n g kc vc) [idt]) :: killW m ws)
          | false => none
        | none => none
      | _, _ => none
    | _ => none
  | .entryStore T x st y => match ev t x, ev t st with
    | .mp i, .stm q => match look m i, look m q, mapT tb T with
      | some (.map T' n g ws), some (.stamp i' kc), some (_, e, ki, ei) => match cellsA ei.d.isAgg (evx tb e t y) with
        | some vc => match Nat.beq T T' && (Nat.beq i i' && (Nat.beq kc.length ki.size && plainC ei.zero vc)) with
          | true => some (true, .no, (i, .map T n (putG n g kc vc) []) :: killW m ws)
          | false => none
        | none => none
      | _, _, _ => none
    | _, _ => none
  | .range T x => match ev t x with
    | .mp i => match look m i, mapT tb T with
      | some (.map T' n g ws), some _ => match Nat.beq T T' with
        | true => some (true, .it idt, [(idt, .iter i []), (i, .map T n g (idt :: ws))])
        | false => none
      | _, _ => none
    | _ => none
  | .entry x => match ev t x with
    | .it q => match look m q with
      | some (.iter i (j :: _)) => match look m i with
        | some (.map T n g _) => match mapT tb T with
          | some (_, _, ki, ei) => some (Nat.blt j n, .tup [oneD ki.d.isAgg (prjC true (g j) ki.zero 0), oneD ei.d.isAgg (prjC true (g j) ei.zero ki.size)], [])
          | none => none
        | _ => none
      | _ => none
    | _ => none
  | .call ⟨.builtin .delete, args, ats⟩ => match args.toList, ats.toList with
    | [x, ix], T :: _ => match ev t x with
      | .mp i => match look m i, mapT tb T with
        | some (.map T' n g ws), some (k, _, ki, _) => match cellsA true (evx tb k t ix) with
          | some kc => match Nat.beq T T' && plainC ki.zero kc with
            | true => some (true, .tup [], (i, .map T (delN n g kc) (delG n g kc) []) :: killW m ws)
            | false => none
          | none => none
        | _, _ => none
      | _ => none
    | _, _ => none
  | .makeInterface T x => match tb T, ev t x with
    | some ⟨.ptr, _, _, _, _⟩, .no => none
    | some ⟨.ptr, _, _, _, _⟩, d => some (true, .ifc T d, [])
    | _, _ => none
  | _ => none

def evOp (env : Env) (tb : Tb) (id idt fr : Nat) (o : Oper) (t : List D) (m : Mem) : Option (Bool × D × Mem) :=
  match evMap tb idt o t m with
  | some r => some r
  | none => match evRow tb fr o t m with
    | some r => some r
    | none => evOp0 env tb id idt fr o t m

/-- How code may end. -/
inductive Xt where
  | normal | exit (id : Nat) | goto (l : Nat) | ret

def Xt.toExit : Xt → Exit
  | .normal => .normal
  | .exit i => .exit i
  | .goto l => .goto l
  | .ret => .ret

def S.put (s : S) (dst : Option Tmp) (d : D) : S := match dst with | some i => { s with t := s.t.set i d } | none => s

/-- What an operation gives that its guard leaves out. -/
abbrev skD : D := .v (.tuple ⟨[]⟩)

section
variable {α : Type} (env : Env) (tb : Tb) (ops : Array Oper)

/-- One operation of a region, what follows in k. -/
def stepE (base j : Nat) (o : Oper) (s : S) (k : S → Option α) : Option α :=
  match o.op with
  | .pick c a b => match ev s.t c with
    | .v (.bool c) => match c with
      | true => k (s.put o.dst (evx tb o.type s.t a))
      | false => k (s.put o.dst (evx tb o.type s.t b))
    | _ => none
  | _ => match evOp env tb (2 * (base + 64 * j)) (2 * (base + 64 * j) + 1) ((base + 64 * j) / 2 + 1) o s.t s.m with
    | some (c, d, δ) => match c with
      | true => k { (s.put o.dst d) with m := δ ++ s.m }
      | false => none
    | none => none

/-- An index into a short array: one case a place. -/
def selE : (n j : Nat) → Int → (Nat → Option α) → Option α
  | 0, _, _, _ => none
  | n + 1, j, x, k => match x == (j : Int) with
    | true => k j
    | false => selE n (j + 1) x k
def idxN (tb : Tb) : Op → Option (Nat × Tmp)
  | .indexAddr T _ (.tmp i) => match tb T with
    | some ⟨.arr n _, _, _, _, _⟩ => match Nat.ble n 8 with | true => some (n, i) | false => none
    | _ => none
  | .index T _ (.tmp i) => match tb T with
    | some ⟨.arr n _, _, _, _, _⟩ => match Nat.ble n 8 with | true => some (n, i) | false => none
    | _ => none
  | _ => none
def stepX (base j : Nat) (o : Oper) (s : S) (k : S → Option α) : Option α :=
  match idxN tb o.op with
  | none => stepE env tb base j o s k
  | some (n, i) => match s.t.getD i .no with
    | .v (.int kk x) => selE n 0 x fun y => stepE env tb base j o { s with t := s.t.set i (.v (.int kk y)) } k
    | _ => stepE env tb base j o s k

def rgE (base : Nat) : List Oper → Nat → S → (S → Option α) → Option α
  | [], _, s, k => k s
  | o :: l, j, s, k => match o.guard with
    | none => stepX env tb base j o s fun s => rgE base l (j + 1) s k
    | some (g, want) => match (ops[g]?).bind (·.dst) with
      | none => none
      | some gt => match s.t.getD gt .no with
        | .v (.bool b) => match b with
          | true => match want with
            | true => stepX env tb base j o { s with t := s.t.set gt (.v (.bool true)) } fun s => rgE base l (j + 1) s k
            | false => rgE base l (j + 1) (S.put { s with t := s.t.set gt (.v (.bool true)) } o.dst skD) k
          | false => match want with
            | false => stepX env tb base j o { s with t := s.t.set gt (.v (.bool false)) } fun s => rgE base l (j + 1) s k
            | true => rgE base l (j + 1) (S.put { s with t := s.t.set gt (.v (.bool false)) } o.dst skD) k
        | .v (.tuple _) => rgE base l (j + 1) (s.put o.dst skD) k
        | _ => none
end

/-! May a region's operations be taken in any order that its edges allow? -/
def rTmp : Operand → List Tmp
  | .tmp t => [t]
  | _ => []
def names (ops : Array Oper) (o : Oper) : List Tmp :=
  o.op.operands.toList.flatMap rTmp ++ (match o.guard with | some (g, _) => ((ops[g]?).bind (·.dst)).toList | none => [])
/-- It looks at a box; changes one; appends. -/
def looks : Op → Bool
  | .load .. | .store .. => true
  | _ => false
def stores : Op → Bool
  | .store .. => true
  | _ => false
def appends : Op → Bool
  | .call ⟨.builtin .append, _, _⟩ => true
  | _ => false
/-- It may hand over places of the evaluator's own. -/
def hasF (x : FuncId) : List (FuncId × FeX) → Bool
  | [] => false
  | (y, _) :: r => match Nat.beq y x with | true => true | false => hasF x r
def mayX (X : List (FuncId × FeX)) (o : Op) : Bool :=
  match o with
  | .call ⟨.value f, _, _⟩ => match f with
    | .func i => hasF i X
    | _ => !X.isEmpty
  | .call ⟨.builtin .copy, _, _⟩ => true
  | .call ⟨.builtin .delete, _, _⟩ => true
  | .mapUpdate .. | .insert .. | .mapEntry .. | .entryStore .. | .range .. | .entry .. | .lookup .. => true
  | _ => false
/-- It looks at, changes or makes an entry of the evaluator's own. -/
def memy (X : List (FuncId × FeX)) (o : Op) : Bool :=
  match o with
  | .alloc .. | .box .. | .buildSlice .. | .load .. | .store .. | .makeSlice .. => true
  | .makeMap .. => true
  | .call ⟨.builtin .append, _, _⟩ => true
  | o => mayX X o
/-- The edges that bind. -/
def aft (o : Oper) : List Edge := o.after.toList.filter (Region.binds .any)
/-- What must come ahead, by all edges: bits. -/
def ahead (l : List Oper) : List Nat → List Nat
  | acc => match l with
    | [] => acc
    | o :: r => ahead r (acc ++ [(aft o).foldl (fun s e => s ||| 2 ^ e.on ||| acc.getD e.on 0) 0])
def cmpb (ah : List Nat) (i j : Nat) : Bool := (ah.getD j 0).testBit i || (ah.getD i 0).testBit j
/-- The same, but for loads at addresses of which it is known that nothing of the evaluator's own stands there. -/
def memL (L : List Tmp) (X : List (FuncId × FeX)) (o : Op) : Bool :=
  match o with
  | .load _ (.tmp a) => !L.contains a
  | o => memy X o
def pairOk (X : List (FuncId × FeX)) (L : List Tmp) (ops : Array Oper) (ah : List Nat) (i : Nat) (x : Oper) (j : Nat) (y : Oper) : Bool :=
  (match x.dst with
   | some d => !((names ops y).contains d || y.dst == some d) || cmpb ah i j
   | none => true) &&
  (match y.dst with
   | some d => !((names ops x).contains d) || cmpb ah i j
   | none => true) &&
  (!((stores x.op && looks y.op) || (looks x.op && stores y.op) || (appends x.op && appends y.op) || (mayX X x.op && memL L X y.op) || (memL L X x.op && mayX X y.op)) || cmpb ah i j)
def pairsOk (X : List (FuncId × FeX)) (L : List Tmp) (ops : Array Oper) (ah : List Nat) (i : Nat) (x : Oper) : Nat → List Oper → Bool
  | _, [] => true
  | j, y :: r => pairOk X L ops ah i x j y && pairsOk X L ops ah i x (j + 1) r
def allOk (X : List (FuncId × FeX)) (L : List Tmp) (ops : Array Oper) (ah : List Nat) : Nat → List Oper → Bool
  | _, [] => true
  | i, x :: r => pairsOk X L ops ah i x (i + 1) r && allOk X L ops ah (i + 1) r
def edgesOk : Nat → List Oper → Bool
  | _, [] => true
  | i, x :: r => (aft x).all (fun e => Nat.blt e.on i) && edgesOk (i + 1) r
def drawOk (X : List (FuncId × FeX)) (L : List Tmp) (ops : Array Oper) : Bool := edgesOk 0 ops.toList && allOk X L ops (ahead ops.toList []) 0 ops.toList

/-- The same; which loads look at nothing of the evaluator's own. -/
def isRef : D → Bool
  | .ref _ => true
  | _ => false
/-- An address of a load, and the place there. -/
def plD : D → Option (Option Nat)
  | .ref _ => some none
  | .loc i _ => some (some i)
  | _ => none
def ldAt (o : Op) : Option Tmp :=
  match o with
  | .load _ (.tmp a) => some a
  | _ => none
def ldRef (o : Oper) (s : S) : Option (Tmp × Option Nat) :=
  match ldAt o.op with
  | some a => match plD (s.t.getD a .no) with
    | some p => some (a, p)
    | none => none
  | none => none
/-- The places that an operation has changed. -/
def chgd (m m' : Mem) : List Nat := (m'.take (m'.length - m.length)).map (·.1)
def recL (o : Oper) (s : S) (acc : List (Tmp × Option Nat)) : List (Tmp × Option Nat) :=
  match ldRef o s with
  | some x => x :: acc
  | none => acc
def stepL {α : Type} (env : Env) (tb : Tb) (base j : Nat) (o : Oper) (s : S) (ids : List Nat) (f : S → List Nat → Option α) : Option α :=
  match mayX env.x o.op with
  | true => stepX env tb base j o s fun s' => f s' (chgd s.m s'.m ++ ids)
  | false => stepX env tb base j o s fun s' => f s' ids
def rgL {α : Type} (env : Env) (tb : Tb) (ops : Array Oper) (base : Nat) : List Oper → Nat → S → List (Tmp × Option Nat) → List Nat → (S → List (Tmp × Option Nat) → List Nat → Option α) → Option α
  | [], _, s, acc, ids, k => k s acc ids
  | o :: l, j, s, acc, ids, k => match o.guard with
    | none => stepL env tb base j o s ids fun s' ids' => rgL env tb ops base l (j + 1) s' (recL o s acc) ids' k
    | some (g, want) => match (ops[g]?).bind (·.dst) with
      | none => none
      | some gt => match s.t.getD gt .no with
        | .v (.bool b) => match b with
          | true => match want with
            | true => stepL env tb base j o { s with t := s.t.set gt (.v (.bool true)) } ids fun s' ids' => rgL env tb ops base l (j + 1) s' (recL o { s with t := s.t.set gt (.v (.bool true)) } acc) ids' k
            | false => rgL env tb ops base l (j + 1) (S.put { s with t := s.t.set gt (.v (.bool true)) } o.dst skD) (recL o { s with t := s.t.set gt (.v (.bool true)) } acc) ids k
          | false => match want with
            | false => stepL env tb base j o { s with t := s.t.set gt (.v (.bool false)) } ids fun s' ids' => rgL env tb ops base l (j + 1) s' (recL o { s with t := s.t.set gt (.v (.bool false)) } acc) ids' k
            | true => rgL env tb ops base l (j + 1) (S.put { s with t := s.t.set gt (.v (.bool false)) } o.dst skD) (recL o { s with t := s.t.set gt (.v (.bool false)) } acc) ids k
        | .v (.tuple _) => rgL env tb ops base l (j + 1) (s.put o.dst skD) (recL o s acc) ids k
        | _ => none
/-- Loads that no function can have changed anything for. -/
def farL (ids : List Nat) (x : Option Nat) : Bool := match x with | none => true | some i => !ids.contains i
def ldAts : List Oper → List Tmp
  | [] => []
  | o :: l => match ldAt o.op with
    | some a => a :: ldAts l
    | none => ldAts l
def farLd (ops : List Oper) (ids : List Nat) (L : List (Tmp × Option Nat)) : List Tmp := (ldAts ops).filter fun a => L.all fun x => !Nat.beq x.1 a || farL ids x.2

/-! ### At a loop's head: what a round leaves behind is forgotten, and what goes on gets its place's own number. -/
def hasN (x : Nat) : List Nat → Bool
  | [] => false
  | y :: r => match Nat.beq y x with | true => true | false => hasN x r
def cntN (x : Nat) : List Nat → Nat
  | [] => 0
  | y :: r => match Nat.beq y x with | true => cntN x r + 1 | false => cntN x r
/-- What a list of operations reads (false) and writes (true), in the text's order. -/
def accOps (ops : Array Oper) : List Oper → List (Bool × Tmp)
  | [] => []
  | o :: r => (names ops o).map (fun x => (false, x)) ++ (o.dst.toList.map fun x => (true, x)) ++ accOps ops r
def accCode : Code → List (Bool × Tmp)
  | .region _ ops _ => accOps ops ops.toList
  | .seq a b => accCode a ++ accCode b
  | .cond c a b => (rTmp c).map (fun x => (false, x)) ++ accCode a ++ accCode b
  | .block _ c => accCode c
  | .loop c => accCode c
  | .scope c => accCode c
  | _ => []
def rdsOf : List (Bool × Tmp) → List Tmp
  | [] => []
  | (false, x) :: r => x :: rdsOf r
  | (true, _) :: r => rdsOf r
/-- Written first; read nowhere but here (rd: what the whole function reads). -/
def fgsOf (rd mine : List Tmp) : (seen : List Nat) → List (Bool × Tmp) → List Tmp
  | _, [] => []
  | seen, (b, x) :: r => match hasN x seen with
    | true => fgsOf rd mine seen r
    | false => match b && Nat.beq (cntN x rd) (cntN x mine) with
      | true => x :: fgsOf rd mine (x :: seen) r
      | false => fgsOf rd mine (x :: seen) r
/-- What a function reads: how many temporaries there are, which region reads which, and for each loop the first region of the outermost loop about it. -/
structure Rd where
  n : Nat
  l : List (Nat × Tmp)
  o : List (Nat × Nat)
  h : List (Nat × Nat) := []
/-- The first region's number. -/
def minId : Code → Nat
  | .region id _ _ => id
  | .seq a b => match minId a with | x => match minId b with | y => match Nat.ble x y with | true => x | false => y
  | .cond _ a b => match minId a with | x => match minId b with | y => match Nat.ble x y with | true => x | false => y
  | .block _ c => minId c
  | .loop c => minId c
  | .scope c => minId c
  | _ => 999999999
def up (i k : Nat) : Nat := match Nat.ble k (1048576 * (i + 1)) with | true => 1048576 * (i + 1) | false => 64 * (k / 64 + 1)
/-- A number, reckoned out. -/
def force {α : Type} (n : Nat) (f : Nat → α) : α := match n with
  | 0 => f 0
  | m + 1 => f (m + 1)
theorem force_eq {α : Type} (n : Nat) (f : Nat → α) : force n f = f n := by cases n <;> rfl
theorem le_up (i k : Nat) : k ≤ up i k := by
  unfold up; split
  · rename_i h; exact Nat.le_of_ble_eq_true h
  · omega
/-- The number of the permission at a loop's head (r: its first region). -/
def hd (r slot : Nat) : Nat := 2 * (1048576 * (r + 1) + slot) + 1
def atR (id : Nat) : List Tmp → List (Nat × Tmp)
  | [] => []
  | x :: r => (id, x) :: atR id r
def rdL : Code → List (Nat × Tmp)
  | .region id ops _ => atR id (rdsOf (accOps ops ops.toList))
  | .seq a b => rdL a ++ rdL b
  | .cond c a b => atR (minId (.seq a b)) (rTmp c) ++ (rdL a ++ rdL b)
  | .block _ c => rdL c
  | .loop c => rdL c
  | .scope c => rdL c
  | _ => []
/-- The loops' first regions (q: that of the outermost one). -/
def rdO : Option Nat → Code → List (Nat × Nat)
  | q, .seq a b => rdO q a ++ rdO q b
  | q, .cond _ a b => rdO q a ++ rdO q b
  | q, .block _ c => rdO q c
  | q, .loop c => match q with
    | some x => (minId c, x) :: rdO q c
    | none => (minId c, minId c) :: rdO (some (minId c)) c
  | q, .scope c => rdO q c
  | _, _ => []
def lookN (i : Nat) : List (Nat × Nat) → Nat
  | [] => 0
  | (a, b) :: r => match Nat.beq a i with | true => b | false => lookN i r
/-- Those that are read from a region on. -/
def live (lo : Nat) : List (Nat × Tmp) → List Tmp
  | [] => []
  | (i, x) :: r => match Nat.ble lo i with | true => x :: live lo r | false => live lo r
def notIn (l : List Tmp) : (k i : Nat) → List Tmp
  | 0, _ => []
  | k + 1, i => match hasN i l with | true => notIn l k (i + 1) | false => i :: notIn l k (i + 1)
/-! What is read later on (sets as numbers' bits): for loops within loops. -/
def bitsS (m : Nat) : List Tmp → Nat
  | [] => m
  | t :: r => bitsS (m ||| 2 ^ t) r
def bitC (m : Nat) : Option Tmp → Nat
  | none => m
  | some t => match m.testBit t with | true => m ^^^ 2 ^ t | false => m
def lvOps (ops : Array Oper) : List Oper → Nat → Nat
  | [], m => m
  | o :: r, m => bitsS (bitC (lvOps ops r m) o.dst) (names ops o)
def lvC (ret all : Nat) : Code → Nat → List (Nat × Nat) → Nat × List (Nat × Nat)
  | .region _ ops _, m, _ => (lvOps ops ops.toList m, [])
  | .seq a b, m, e => match lvC ret all b m e with
    | (m1, h1) => match lvC ret all a m1 e with
      | (m2, h2) => (m2, h2 ++ h1)
  | .cond c a b, m, e => match lvC ret all a m e, lvC ret all b m e with
    | (m1, h1), (m2, h2) => (bitsS (m1 ||| m2) (rTmp c), h1 ++ h2)
  | .block id c, m, e => lvC ret all c m ((id, m) :: e)
  | .loop c, _, e => match lvC ret all c 0 e with
    | (m1, _) => match lvC ret all c m1 e with
      | (m2, _) => match lvC ret all c (m1 ||| m2) e with
        | (m3, h) => (m1 ||| m2 ||| m3, (minId c, m1 ||| m2 ||| m3) :: h)
  | .exit id, _, e => (lookN id e, [])
  | .ret, _, _ => (ret, [])
  | .goto _, _, _ => (all, [])
  | .scope c, m, e => lvC ret all c m e
  | _, m, _ => (m, [])
def bitsOut (m : Nat) : (k i : Nat) → List Tmp
  | 0, _ => []
  | k + 1, i => match m.testBit i with | true => bitsOut m k (i + 1) | false => i :: bitsOut m k (i + 1)
def hasL : Code → Bool
  | .seq a b => match hasL a with | true => true | false => hasL b
  | .cond _ a b => match hasL a with | true => true | false => hasL b
  | .block _ c => hasL c
  | .loop _ => true
  | .scope c => hasL c
  | _ => false
def fgs (rd : Rd) (c : Code) : List Tmp := (match Nat.beq (lookN (minId c) rd.o) (minId c) && !hasL c with | true => [] | false => bitsOut (lookN (minId c) rd.h) rd.n 0) ++ notIn (live (lookN (minId c) rd.o) rd.l) rd.n 0 ++ fgsOf (rd.l.map (·.2)) (rdsOf (accCode c)) [] (accCode c)

def cut0 (B : Nat) : D → D
  | .v x => .v x
  | .ref l => .ref l
  | .loc i o => match Nat.blt i B with | true => .loc i o | false => .no
  | .slm sz i off n => match Nat.blt i B with | true => .slm sz i off n | false => .no
  | .sl sz n g (.tok _) => .sl sz n g .none
  | .sl sz n g p => .sl sz n g p
  | .mp i => match Nat.blt i B with | true => .mp i | false => .no
  | .it i => match Nat.blt i B with | true => .it i | false => .no
  | _ => .no
def cut1 (B : Nat) : D → D
  | .agg l => .agg (l.map (cut0 B))
  | .clo f l => .clo f (l.map (cut0 B))
  | d => cut0 B d
abbrev Acc := List (Nat × Option Nat × TypeId)
def hasQ (q : Nat) : Acc → Bool
  | [] => false
  | (_, some q', _) :: r => match Nat.beq q' q with | true => true | false => hasQ q r
  | (_, none, _) :: r => hasQ q r
def cnD (B : Nat) (m : Mem) (id : Nat) (acc : Acc) : D → D × Acc
  | .sl sz n g (.tok q) => match hasQ q acc, look m q with
    | false, some (.tok E) => (.sl sz n g (.tok id), (id, some q, E) :: acc)
    | _, _ => (.sl sz n g .none, acc)
  | .sl sz n g (.nil E) => (.sl sz n g (.tok id), (id, none, E) :: acc)
  | d => (cut1 B d, acc)
def cnT (B : Nat) (m : Mem) (fg : List Tmp) : (i : Nat) → List D → Acc → List D × Acc
  | _, [], acc => ([], acc)
  | i, d :: r, acc => match hasN i fg with
    | true => match cnT B m fg (i + 1) r acc with
      | (r', a) => (.no :: r', a)
    | false => match cnD B m (B + 2 * i + 1) acc d with
      | (d', a) => match cnT B m fg (i + 1) r a with
        | (r', a) => (d' :: r', a)
def cnM (B : Nat) (m : Mem) : (i : Nat) → List Nat → Acc → Mem × Acc × Nat
  | i, [], acc => ([], acc, i)
  | i, id :: r, acc => match Nat.blt id B, look m id with
    | true, some (.cells c T) => match Nat.beq (id % 4) 2 with
     | true => match cnM B m i r acc with
      | (mm, a, n) => ((id, .cells (c.map (cut0 B)) T) :: mm, a, n)
     | false => match cnT B m [] i c acc with
      | (c', a) => match cnM B m (i + c.length) r a with
        | (mm, a, n) => ((id, .cells c' T) :: mm, a, n)
    | true, some (.map T n g ws) => match ws.all fun q => Nat.blt q B with
      | true => match cnM B m i r acc with
        | (mm, a, k) => ((id, .map T n g ws) :: mm, a, k)
      | false => cnM B m i r acc
    | true, some (.iter j sn) => match Nat.blt j B with
      | true => match cnM B m i r acc with
        | (mm, a, k) => ((id, .iter j sn) :: mm, a, k)
      | false => cnM B m i r acc
    | _, _ => cnM B m i r acc
def idsOf : (seen : List Nat) → Mem → List Nat
  | _, [] => []
  | seen, (i, _) :: r => match hasN i seen with
    | true => idsOf seen r
    | false => i :: idsOf (i :: seen) r
def canon (k0 : Nat) (fg : List Tmp) (ids : List Nat) (s : S) : S :=
  match cnT (2 * k0) s.m fg 0 s.t [] with
  | (t', a) => match cnM (2 * k0) s.m s.t.length ids a with
    | (mm, a, n) => { t := t', m := a.map (fun x => (x.1, .tok x.2.2)) ++ mm, k := k0 + n }

/-- A slice of bytes that has been made here is turned round: nothing else is known behind it. -/
def bk (q n : Nat) (g : Nat → List D) : D → D
  | .v x => .v x
  | .sl _ _ _ (.tok q') => match Nat.beq q' q with | true => .sl 1 n (fun j => g (n - 1 - j)) .none | false => .no
  | _ => .no
def revPat (env : Env) (ops : List Oper) (draw : Bool) (s : S) : Option (Bool × S × List Oper) :=
  match env.r, ops, draw with
  | some f, o1 :: o :: l, false => match o1.guard, o1.op, o1.dst with
    | none, .move (.tmp i1), some d => match o.guard, o.op with
      | none, .call ⟨.value (.func f'), args, _⟩ => match Nat.beq f' f, args.toList with
        | true, [.tmp i] => match (s.t.set d (s.t.getD i1 .no)).getD i .no with
          | .sl sz n g (.tok q) => match look s.m q with
            | some (.tok _) => some (Nat.beq sz 1 && (allU8 n g && decide (n ≤ 9223372036854775807)), { (S.put { s with t := ((s.t.set d (s.t.getD i1 .no)).map (bk q n g)) } o.dst .no) with m := [] }, l)
            | _ => none
          | _ => none
        | _, _ => none
      | _, _ => none
    | _, _, _ => none
  | _, _, _ => none
/-! An iteration over a map goes on: in whatever order. -/
def fullS (n : Nat) (sn : List Nat) : Bool := (List.range n).all fun j => hasN j sn
open Classical in
/-- The same, whichever place it is. -/
noncomputable def allE {α : Type} (n : Nat) (p : Nat → Bool) (k : Nat → Option α) : Option α := if h : ∃ r, ∀ j, j < n → p j = true → k j = some r then some h.choose else none
def nxPat (ops : List Oper) (draw : Bool) (s : S) : Option (Oper × Nat × Nat × List Nat × Nat × List Oper) :=
  match ops, draw with
  | o :: l, false => match o.guard, o.op with
    | none, .next x false => match ev s.t x with
      | .it q => match look s.m q with
        | some (.iter i sn) => match look s.m i with
          | some (.map _ n _ _) => some (o, q, i, sn, n, l)
          | _ => none
        | _ => none
      | _ => none
    | _, _ => none
  | _, _ => none
/-- Code without ways: what follows a label. -/
def exS {α : Type} (env : Env) (tb : Tb) : Code → S → (Xt → S → Option α) → Option α
  | .skip, s, k => k .normal s
  | .label _, s, k => k .normal s
  | .region id ops draw, s, k =>
    match draw with
    | false => force (up id s.k) fun b => rgE env tb ops b ops.toList 0 s fun s' => k .normal { s' with k := b + 64 * ops.size }
    | true => none
  | .seq a b, s, k => exS env tb a s fun x s => match x with
    | .normal => exS env tb b s k
    | x => k x s
  | .ret, s, k => k .ret s
  | _, _, _ => none
/-- What a function gives. -/
def resD (tb : Tb) (s : S) : ResultVar → Option D
  | .tmp i => some (s.t.getD i .no)
  | .cell a T => match tb T, s.t.getD a .no with
    | some ti, .loc i off => match look s.m i with
      | some (.cells c _) => ofCells ti.d.isAgg ti.size (c.drop off)
      | _ => none
    | _, _ => none
def resDs (tb : Tb) (s : S) : List ResultVar → Option (List D)
  | [] => some []
  | r :: l => match resD tb s r, resDs tb s l with
    | some d, some ds => some (d :: ds)
    | _, _ => none
def tupD : List D → D
  | [d] => d
  | ds => .tup ds
/-- Closures without ways are gone into. -/
def isCl (o : Oper) : Bool :=
  match o.guard, o.op with
  | none, .call ⟨.value (.tmp _), _, _⟩ => true
  | _, _ => false
def clSplit : List Oper → Option (List Oper × Oper × List Oper)
  | [] => none
  | o :: l => match isCl o with
    | true => some ([], o, l)
    | false => match clSplit l with
      | some (p, q, r) => some (o :: p, q, r)
      | none => none
def clPat (env : Env) (ops : List Oper) (draw : Bool) : Option (List Oper × Oper × List Oper) :=
  match env.c, draw with
  | _ :: _, false => clSplit ops
  | _, _ => none
def lookC : List (FuncId × Func) → FuncId → Option Func
  | [], _ => none
  | (i, e) :: r, f => match Nat.beq i f with | true => some e | false => lookC r f
def inC {α : Type} (env : Env) (tb : Tb) (o : Oper) (s : S) (K : Nat) (k : S → Option α) : Option α :=
  match o.op with
  | .call ⟨.value f, args, ats⟩ => match ev s.t f with
    | .clo fid caps => match lookC env.c fid with
      | some fn => match fn.body with
        | some c => exS env tb c { t := (evL tb s.t ats.toList args.toList ++ caps) ++ List.replicate (fn.ntmps - (evL tb s.t ats.toList args.toList ++ caps).length) .no, m := s.m, k := K } fun x s' =>
          match x with
          | .normal | .ret => match resDs tb s' fn.results.toList with
            | some ds => k { (s.put o.dst (tupD ds)) with m := s'.m, k := s'.k }
            | none => none
          | _ => none
        | none => none
      | none => none
    | _ => none
  | _ => none
section
variable {α : Type} (env : Env) (tb : Tb) (rd : Rd)
noncomputable def exE (fuel : Nat) : Code → S → (Xt → S → Option α) → Option α
  | .skip, s, k => k .normal s
  | .label _, s, k => k .normal s
  | .region id ops draw, s, k =>
    match revPat env ops.toList draw s with
    | some (c, s1, l) => match c with
      | true => force (up id s.k) fun b => rgE env tb ops b l 2 s1 fun s' => k .normal { s' with k := b + 64 * ops.size }
      | false => none
    | none => match nxPat ops.toList draw s with
     | some (o, q, i, sn, n, l) => force (up id s.k) fun b => match fullS n sn with
      | true => rgE env tb ops b l 1 (s.put o.dst (.tup [.v (.bool false)])) fun s' => k .normal { s' with k := b + 64 * ops.size }
      | false => allE n (fun j => !hasN j sn) fun j => rgE env tb ops b l 1 { (s.put o.dst (.tup [.v (.bool true), .no, .no])) with m := (q, .iter i (j :: sn)) :: s.m } fun s' => k .normal { s' with k := b + 64 * ops.size }
     | none => match clPat env ops.toList draw with
     | some (p, o, l) => force (up id s.k) fun b => rgE env tb ops b p 0 s fun s1 => inC env tb o s1 (b + 64 * ops.size) fun s2 => force (up id s2.k) fun b2 => rgE env tb ops b2 l (p.length + 1) s2 fun s' => k .normal { s' with k := b2 + 64 * ops.size }
     | none => match !draw || drawOk env.x [] ops with
      | true => force (up id s.k) fun b => rgE env tb ops b ops.toList 0 s fun s' => k .normal { s' with k := b + 64 * ops.size }
      | false => force (up id s.k) fun b => rgL env tb ops b ops.toList 0 s [] [] fun s' L ids => match drawOk env.x (farLd ops.toList ids L) ops with
        | true => k .normal { s' with k := b + 64 * ops.size }
        | false => none
  | .seq a b, s, k => exE fuel a s fun x s => match x with
    | .normal => exE fuel b s k
    | x => k x s
  | .cond c a b, s, k => match c with
    | .tmp i => match s.t.getD i .no with
      | .v (.bool c) => match c with
        | true => exE fuel a { s with t := s.t.set i (.v (.bool true)) } k
        | false => exE fuel b { s with t := s.t.set i (.v (.bool false)) } k
      | _ => none
    | .const (.bool c) => match c with
      | true => exE fuel a s k
      | false => exE fuel b s k
    | _ => none
  | .block id c, s, k => exE fuel c s fun x s => match x with
    | .exit i => match Nat.beq i id with
      | true => k .normal s
      | false => k (.exit i) s
    | x => k x s
  | .loop c, s, k => force (up (minId c) s.k) fun b => Nat.rec (motive := fun _ => S → Option α) (fun _ => none)
      (fun _ ih s' => exE fuel c s' fun x s' => match x with
        | .normal => ih (canon b (fgs rd c) (idsOf [] s.m) s')
        | x => k x (canon b (fgs rd c) (idsOf [] s.m) s')) fuel (canon b (fgs rd c) (idsOf [] s.m) s)
  | .exit id, s, k => k (.exit id) s
  | .goto l, s, k => k (.goto l) s
  | .ret, s, k => k .ret s
  | .scope c, s, k => exE fuel c s fun x s => match x with
    | .goto l => match findLabel c l with
      | some rest => exS env tb rest s k
      | none => k (.goto l) s
    | x => k x s
  | _, _, _ => none
end

/-- Rows that go back are written no more. -/
def frzD (tb : Tb) (q : Nat) (m : Mem) (d : D) : Bool × D × Mem :=
  match d with
  | .slm sz i 0 n => match look m i with
    | some (.cells c T) => match tb T with
      | some ti => match Nat.beq ti.size sz with
        | true => (decide (c.length = n * sz) && decide (n ≤ 9223372036854775807), .sl sz n (rowGet sz (c.map kp0)) (.tok q), (q, .tok T) :: (i, .dead) :: m)
        | false => (true, .no, m)
      | none => (true, .no, m)
    | _ => (true, .no, m)
  | d => (true, d, m)
def frzL (tb : Tb) : Nat → Mem → List D → Bool × List D × Mem
  | _, m, [] => (true, [], m)
  | q, m, d :: r => match frzD tb q m d with
    | (c, d', m') => match frzL tb (q + 2) m' r with
      | (c', r', m'') => (c && c', d' :: r', m'')
def resV (tb : Tb) (s : S) (l : List ResultVar) : Option (Bool × D × Mem) :=
  match resDs tb s l with
  | some ds => match frzL tb (2 * s.k + 1) s.m ds with
    | (c, ds', m') => some (c, tupD ds', m')
  | none => none
def resultD (tb : Tb) (s : S) (l : List ResultVar) : Option D :=
  match resV tb s l with
  | some (c, d, _) => match c with
    | true => some (kp2 d)
    | false => none
  | none => none

def rdsF (fn : Func) : Rd :=
  { n := fn.ntmps
    l := (match fn.body with | some c => rdL c | none => []) ++ fn.results.toList.map fun r => match r with | .tmp i => (999999999, i) | .cell a _ => (999999999, a)
    o := match fn.body with | some c => rdO none c | none => []
    h := match fn.body with
      | some c => (lvC (bitsS 0 (fn.results.toList.map fun r => match r with | .tmp i => i | .cell a _ => a)) (2 ^ fn.ntmps - 1) c (bitsS 0 (fn.results.toList.map fun r => match r with | .tmp i => i | .cell a _ => a)) []).2
      | none => [] }
def endK (tb : Tb) (fn : Func) (x : Xt) (s : S) : Option D :=
  match x with
  | .normal => resultD tb s fn.results.toList
  | .ret => resultD tb s fn.results.toList
  | _ => none
def start (fn : Func) (args : List D) : S := { t := args ++ List.replicate (fn.ntmps - args.length) .no, m := [], k := 0 }
noncomputable def evalR (env : Env) (tb : Tb) (rd : Rd) (fuel : Nat) (fn : Func) (args : List D) : Option D :=
  match fn.body with
  | none => none
  | some c => exE env tb rd fuel c (start fn args) (endK tb fn)
noncomputable abbrev evalF (env : Env) (tb : Tb) (fuel : Nat) (fn : Func) (args : List D) : Option D := evalR env tb (rdsF fn) fuel fn args

/-! A function that is handed places. -/
def stripT : Nat → D → D
  | 0, _ => .no
  | f + 1, d => match d with
    | .sl sz n g _ => .sl sz n g .none
    | .agg l => .agg (l.map (stripT f))
    | .tup l => .tup (l.map (stripT f))
    | .clo i l => .clo i (l.map (stripT f))
    | .v x => .v x
    | .ref l => .ref l
    | .loc i o => .loc i o
    | .slm sz i off n => .slm sz i off n
    | .mp i => .mp i
    | .ifc T d => .ifc T (stripT f d)
    | _ => .no
def argOf (i : Nat) : Nat → List D → Option Nat
  | _, [] => none
  | j, d :: r => match d with
    | .loc k 0 => match Nat.beq k i with | true => some j | false => argOf i (j + 1) r
    | _ => argOf i (j + 1) r
def outR (m : Mem) (as : List D) : Nat → D → D × List Nat
  | 0, _ => (.no, [])
  | f + 1, d => match d with
    | .loc i 0 => match argOf i 0 as with
      | some j => (.argp j, [])
      | none => outD m (f + 1) (.loc i 0)
    | .tup l => match outL (outR m as f) l with
      | (l', u) => (.tup l', u)
    | .agg l => match outL (outR m as f) l with
      | (l', u) => (.agg l', u)
    | d => outD m (f + 1) d
def endX (tb : Tb) (fn : Func) (as : List D) (x : Xt) (s : S) : Option (D × List D) :=
  match x with
  | .normal | .ret => match resV tb s fn.results.toList with
    | none => none
    | some (c, d, m) => match c with
      | false => none
      | true => match outL (outD m 6) (as.map (stripT 6)), outR m as 7 d with
        | (ys, u), (d', v) => match onceI (v ++ u) with
          | true => some (d', ys)
          | false => none
  | _ => none
noncomputable def evalX (env : Env) (tb : Tb) (fuel : Nat) (fn : Func) (args : List D) : Option (D × List D) :=
  match fn.body, inL (inD 6) 0 args with
  | some c, (as, m, k) => exE env tb (rdsF fn) fuel c { t := as ++ List.replicate (fn.ntmps - as.length) .no, m := m, k := 2 * k } (endX tb fn as)
  | none, _ => none

/-! ### To speak of a function's loops: which code, what follows, which state at its head. -/
def loops : Code → Nat
  | .seq a b => loops a + loops b
  | .cond _ a b => loops a + loops b
  | .block _ c => loops c
  | .loop c => loops c + 1
  | .scope c => loops c
  | _ => 0
/-- The code of the j-th loop's round. -/
def lpC : Code → Nat → Code
  | .seq a b, j => match Nat.blt j (loops a) with | true => lpC a j | false => lpC b (j - loops a)
  | .cond _ a b, j => match Nat.blt j (loops a) with | true => lpC a j | false => lpC b (j - loops a)
  | .block _ c, j => lpC c j
  | .loop c, j => match j with | 0 => c | j + 1 => lpC c j
  | .scope c, j => lpC c j
  | _, _ => .skip
section
variable {α : Type} (env : Env) (tb : Tb) (rd : Rd) (F : Nat)
/-- What follows the j-th loop (of those that lie in no other loop). -/
noncomputable def lpK : Code → Nat → (Xt → S → Option α) → Xt → S → Option α
  | .seq a b, j, k => match Nat.blt j (loops a) with
    | true => lpK a j fun x s => match x with
      | .normal => exE env tb rd F b s k
      | x => k x s
    | false => lpK b (j - loops a) k
  | .cond _ a b, j, k => match Nat.blt j (loops a) with | true => lpK a j k | false => lpK b (j - loops a) k
  | .block id c, j, k => lpK c j fun x s => match x with
      | .exit i => match Nat.beq i id with
        | true => k .normal s
        | false => k (.exit i) s
      | x => k x s
  | .loop _, _, k => k
  | _, _, k => k
end
def bodyF (fn : Func) : Code := match fn.body with | some c => c | none => .skip
/-- What stands at a loop's head, but for what the ways that lead there leave open. -/
def rgP (env : Env) (tb : Tb) (base : Nat) : List Oper → Nat → S → S
  | [], _, s => s
  | o :: l, j, s => match o.guard with
    | some _ => rgP env tb base l (j + 1) (s.put o.dst .no)
    | none => match o.op with
      | .pick .. => rgP env tb base l (j + 1) (s.put o.dst .no)
      | _ => match evOp env tb (2 * (base + 64 * j)) (2 * (base + 64 * j) + 1) ((base + 64 * j) / 2 + 1) o s.t s.m with
        | some (_, d, δ) => rgP env tb base l (j + 1) { (s.put o.dst d) with m := δ ++ s.m }
        | none => rgP env tb base l (j + 1) (s.put o.dst .no)
def exP (env : Env) (tb : Tb) : Code → S → S
  | .region id ops _, s => match rgP env tb (up id s.k) ops.toList 0 s with
    | s' => { s' with k := up id s.k + 64 * ops.size }
  | .seq a b, s => exP env tb b (exP env tb a s)
  | .block _ c, s => exP env tb c s
  | _, s => s
def headOf (rd : Rd) (c : Code) (s : S) : S := canon (up (minId c) s.k) (fgs rd c) (idsOf [] s.m) s
def toP (env : Env) (tb : Tb) (rd : Rd) : Code → Nat → S → S
  | .seq a b, j, s => match Nat.blt j (loops a) with | true => toP env tb rd a j s | false => toP env tb rd b (j - loops a) (exP env tb a s)
  | .cond _ a b, j, s => match Nat.blt j (loops a) with | true => toP env tb rd a j s | false => toP env tb rd b (j - loops a) s
  | .block _ c, j, s => toP env tb rd c j s
  | .loop c, j, s => match j with | 0 => s | j + 1 => toP env tb rd c j (headOf rd c s)
  | _, _, s => s
/-- The state where the j-th loop begins. -/
def lpS (env : Env) (tb : Tb) (fn : Func) (args : List D) (j : Nat) : S := toP env tb (rdsF fn) (bodyF fn) j (start fn args)
def setT : List D → List (Nat × D) → List D
  | t, [] => t
  | t, (i, d) :: r => setT (t.set i d) r
def S.setT (s : S) (l : List (Nat × D)) : S := { s with t := Ev.setT s.t l }

end Go.Ev
