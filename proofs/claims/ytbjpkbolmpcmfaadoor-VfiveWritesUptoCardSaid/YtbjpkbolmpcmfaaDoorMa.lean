/- An evaluator of the model's code on plain data, and the relation between its data and the model's memory: definitions, and what the relation keeps. The relation between the evaluator's data and the model's memory, and what it keeps. What the evaluator's state keeps through each kind of change of the memory. 'append' as the evaluator has it. What each operation comes to, by the evaluator: first part. '==' cell by cell; cells filled by parts; loads. What each operation comes to, by the evaluator: all operations but pick. What goes over to a function and comes back: places of the evaluator's own, written out and taken in again. Places written out, a call that changes them, and what the caller knows behind it. -/
import Derived.Calls
import Derived.Orders
import Derived.LoopN
import Derived.Below
import Derived.Laws.AppendOwn
import Derived.Laws.AppendOwnNone
import Derived.Laws.Rows
import Derived.Laws.StructEq
import Derived.KernelRfl
import Derived.ChangeKeysEq
import Derived.Laws.MakeOwn
namespace Go.Ev
open Go Go.RowKit

/-- May a slice be appended to: no; it is the nil slice; by the permission q. -/
inductive Pm where
  | none
  | nil (E : TypeId)
  | tok (q : Nat)
  | own (E : TypeId)
  | nn
  | nl

/-- Data as the evaluator has it. -/
inductive D where
  | v (x : Value)
  | agg (l : List D)
  | tup (l : List D)
  | sl (sz n : Nat) (get : Nat → List D) (p : Pm)
  | loc (i off : Nat)
  | ref (l : List D)
  | no
  | box (T : TypeId) (c : List D)
  | argp (j : Nat)
  | clo (f : FuncId) (c : List D)
  | slm (sz i off n : Nat)
  | row (sz n : Nat) (T : TypeId) (c : List D)

/-- What stands at a place of the evaluator's own. -/
inductive Bx where
  | cells (c : List D) (T : TypeId)
  | tok (E : TypeId)
  | dead

def ikN : IntKind → Nat
  | .i8 => 0 | .i16 => 1 | .i32 => 2 | .i64 => 3 | .u8 => 4 | .u16 => 5 | .u32 => 6 | .u64 => 7
def ikEq (a b : IntKind) : Bool := Nat.beq (ikN a) (ikN b)
theorem ikEq_eq {a b : IntKind} (h : ikEq a b = true) : a = b := by cases a <;> cases b <;> first | rfl | cases h

abbrev Mem := List (Nat × Bx)
structure S where
  t : List D
  m : Mem
  k : Nat

inductive Td where
  | int (k : IntKind) | bool | str
  | struct (fs : List (Nat × TypeId))
  | arr (n : Nat) (e : TypeId)
  | sl (e : TypeId)
  | ptr
  | other

structure Ti where
  d : Td
  size : Nat
  bytes : Nat
  zero : List D
  eq : Bool

abbrev Tb := TypeId → Option Ti
def Td.isAgg : Td → Bool
  | .struct _ | .arr _ _ => true
  | _ => false

def look : Mem → Nat → Option Bx
  | [], _ => none
  | (i, b) :: r, j => match Nat.beq i j with | true => some b | false => look r j

def oneC : Value → Bool
  | .agg _ | .tuple _ => false
  | _ => true

/-- A string is not too long. -/
def okV : Value → Bool
  | .string s => decide (s.size ≤ 4294967280)
  | _ => true
def okD (x : Value) : D := match okV x with | true => .v x | false => .no
/-- A zero cell as an element has it. -/
def kq0 : D → D
  | .sl sz n g _ => .sl sz n g .none
  | d => d
/-- A constant, where a type is known; and where none is. -/
def constT (tb : Tb) (ty : TypeId) : Value → D
  | .slice none 0 0 => match tb ty with
    | some ⟨.sl e, _, _, _, _⟩ => match tb e with
      | some ie => .sl ie.size 0 (fun _ => ie.zero.map kq0) (.nil e)
      | none => .sl 0 0 (fun _ => []) .none
    | _ => .sl 0 0 (fun _ => []) .none
  | x => okD x
def constD : Value → D
  | .slice none 0 0 => .sl 0 0 (fun _ => []) .none
  | x => okD x
/-- An operand, where a type is known; and where none is. -/
def evx (tb : Tb) (ty : TypeId) (t : List D) : Operand → D
  | .tmp i => t.getD i .no
  | .const c => constT tb ty c
  | .global _ => .no
  | .func f => .v (.func (.func f) #[] #[])
def ev (t : List D) : Operand → D
  | .tmp i => t.getD i .no
  | .const c => constD c
  | .global _ => .no
  | .func f => .v (.func (.func f) #[] #[])

/-- Arguments, of types that are told. -/
def evL (tb : Tb) (t : List D) : List TypeId → List Operand → List D
  | T :: Ts, x :: xs => evx tb T t x :: evL tb t Ts xs
  | _, [] => []
  | [], x :: xs => ev t x :: evL tb t [] xs

/-- A value's cells. -/
def cellsOf : D → Option (List D)
  | .agg l => some l
  | .v x => match oneC x with | true => some [.v x] | false => none
  | .sl sz n g p => some [.sl sz n g p]
  | .loc i o => some [.loc i o]
  | .ref l => some [.ref l]
  | .clo f l => some [.clo f l]
  | .slm sz i off n => some [.slm sz i off n]
  | _ => none

/-- Cells as a value of a type. -/
def ofCells (agg : Bool) (size : Nat) (l : List D) : Option D :=
  match agg with
  | true => match Nat.ble size l.length with | true => some (.agg (l.take size)) | false => none
  | false => match l with | [] => none | d :: _ => some d

def binI (op : BinOp) (k : IntKind) (a b : Int) : Option (Bool × Value) :=
  match op with
  | .add => some (true, .int k (k.wrap (a + b)))
  | .sub => some (true, .int k (k.wrap (a - b)))
  | .mul => some (true, .int k (k.wrap (a * b)))
  | .quo => some (b != 0, .int k (k.wrap (a.tdiv b)))
  | .rem => some (b != 0, .int k (a.tmod b))
  | .and => some (true, .int k (k.wrap (BitVec.ofInt k.bits a &&& BitVec.ofInt k.bits b).toNat))
  | .or => some (true, .int k (k.wrap (BitVec.ofInt k.bits a ||| BitVec.ofInt k.bits b).toNat))
  | .xor => some (true, .int k (k.wrap (BitVec.ofInt k.bits a ^^^ BitVec.ofInt k.bits b).toNat))
  | .eql => some (true, .bool (a == b))
  | .neq => some (true, .bool (a != b))
  | .lss => some (true, .bool (decide (a < b)))
  | .leq => some (true, .bool (decide (a ≤ b)))
  | .gtr => some (true, .bool (decide (a > b)))
  | .geq => some (true, .bool (decide (a ≥ b)))
  | _ => none

def binS (op : BinOp) (a b : ByteArray) : Option (Bool × Value) :=
  match op with
  | .add => some (decide (a.size + b.size ≤ 4294967280), .string (a ++ b))
  | .eql => some (true, .bool (a.toList == b.toList))
  | .neq => some (true, .bool (!(a.toList == b.toList)))
  | _ => none

/-- Two cells of one kind (the kind told by a third one). -/
def eqCell : D → D → D → Option Bool
  | .v (.int k _), .v (.int k1 a), .v (.int k2 b) => match ikEq k1 k && ikEq k2 k with | true => some (a == b) | false => none
  | .v (.bool _), .v (.bool a), .v (.bool b) => some (a == b)
  | .v (.string _), .v (.string a), .v (.string b) => some (a.toList == b.toList)
  | _, _, _ => none
def eqCells : List D → List D → List D → Option Bool
  | [], [], [] => some true
  | z :: zs, x :: xs, y :: ys => match eqCell z x y, eqCells zs xs ys with
    | some b, some c => some (b && c)
    | _, _ => none
  | _, _, _ => none

def binD (eq : Option Ti) (op : BinOp) (x y : D) : Option (Bool × D) :=
  match x, y with
  | .v (.int k a), .v (.int k' b) =>
    match op with
    | .shl => some (decide (0 ≤ b), .v (.int k (k.wrap (a * 2 ^ (min b.toNat k.bits)))))
    | .shr => some (decide (0 ≤ b), .v (.int k (a.fdiv (2 ^ (min b.toNat k.bits)))))
    | op => match ikEq k k' with
      | true => (binI op k a b).map fun r => (r.1, .v r.2)
      | false => none
  | .v (.string a), .v (.string b) => (binS op a b).map fun r => (r.1, .v r.2)
  | .v (.bool a), .v (.bool b) => match eq with
    | some ⟨.bool, _, _, _, _⟩ => match op with
      | .eql => some (true, .v (.bool (a == b)))
      | .neq => some (true, .v (.bool (!(a == b))))
      | _ => none
    | _ => none
  | .agg xs, .agg ys => match eq with
    | none => none
    | some ti => match ti.eq && ti.d.isAgg, op, eqCells ti.zero xs ys with
      | true, .eql, some b => some (true, .v (.bool b))
      | true, .neq, some b => some (true, .v (.bool (!b)))
      | _, _, _ => none
  | .loc _ _, .v (.pointer none) => match eq with
    | some ⟨.ptr, _, _, _, _⟩ => match op with
      | .eql => some (true, .v (.bool false))
      | .neq => some (true, .v (.bool true))
      | _ => none
    | _ => none
  | _, _ => none

/-- A slice held against nil, where it is known. -/
def nilC (op : BinOp) (ti : Option Ti) (y : Operand) (x : D) : Option Bool :=
  match op, y, x, ti with
  | .eql, .const (.slice none 0 0), .sl _ _ _ (.nil _), some ⟨.sl _, _, _, _, _⟩ => some true
  | .eql, .const (.slice none 0 0), .sl _ _ _ .nn, some ⟨.sl _, _, _, _, _⟩ => some false
  | .eql, .const (.slice none 0 0), .sl _ _ _ .nl, some ⟨.sl _, _, _, _, _⟩ => some true
  | _, _, _, _ => none
def unD (op : UnOp) (x : D) : Option D :=
  match op, x with
  | .not, .v (.bool b) => some (.v (.bool (!b)))
  | .neg, .v (.int k n) => some (.v (.int k (k.wrap (0 - n))))
  | .xor, .v (.int k n) => some (.v (.int k (k.wrap (BitVec.ofInt k.bits (if k.signed then -1 else k.max) ^^^ BitVec.ofInt k.bits n).toNat)))
  | _, _ => none

/-- A part put into cells. -/
def splice (c : List D) (off : Nat) (l : List D) : List D := c.take off ++ l ++ c.drop (off + l.length)

def fillD (place : Nat → Option (Nat × Nat)) (c : List D) : List (Nat × D) → Option (List D)
  | [] => some c
  | (i, d) :: r => match place i, cellsOf d with
    | some (off, size), some l =>
      match Nat.beq l.length size && Nat.ble (off + l.length) c.length with
      | true => fillD place (splice c off l) r
      | false => none
    | _, _ => none

def placeOf (tb : Tb) (ti : Ti) (i : Nat) : Option (Nat × Nat) :=
  match ti.d with
  | .struct fs => match fs[i]? with
    | some (off, T) => match tb T with
      | some f => some (off, f.size)
      | none => none
    | none => none
  | .arr _ e => match tb e with
    | some f => some (i * f.size, f.size)
    | none => none
  | _ => none

/-- An argument without the evaluator's own places. -/
def kp0 : D → D
  | .v x => .v x
  | .sl sz n g _ => .sl sz n g .none
  | .ref l => .ref l
  | _ => .no
def kp1 : D → D
  | .agg l => .agg (l.map kp0)
  | d => kp0 d
def kp2 : D → D
  | .tup l => .tup (l.map kp1)
  | d => kp1 d

/-- Cells by n of them. -/
def rowGet (sz : Nat) (c : List D) (i : Nat) : List D := (c.drop (i * sz)).take sz
/-- The same as a list, made ahead. -/
def chunks (sz : Nat) (c : List D) : Nat → Nat → List (List D)
  | 0, _ => []
  | n + 1, i => rowGet sz c i :: chunks sz c n (i + 1)
theorem chunks_get (sz : Nat) (c : List D) (z : List D) : ∀ (n i j : Nat), j < n → (chunks sz c n i).getD j z = rowGet sz c (i + j)
  | n + 1, i, 0, _ => rfl
  | n + 1, i, j + 1, h => by
    show (chunks sz c n (i + 1)).getD j z = _
    rw [chunks_get sz c z n (i + 1) j (by omega), show i + 1 + j = i + (j + 1) by omega]
def bsGet (n sz : Nat) (z c : List D) (i : Nat) : List D := (chunks sz c n 0).getD i z
theorem bsGet_eq {n sz i : Nat} {z c : List D} (h : i < n) : bsGet n sz z c i = rowGet sz c i := by
  unfold bsGet
  rw [chunks_get _ _ _ _ _ _ h, Nat.zero_add]
def repD (z : List D) : Nat → List D
  | 0 => []
  | n + 1 => z ++ repD z n

/-- What a function gives: whether the arguments are such that it does, and what. -/
abbrev FeX := List D → Option (Bool × D × List D)
structure Env where
  p : FuncId → List D → Option (Bool × D)
  x : List (FuncId × FeX)
def lookX : List (FuncId × FeX) → FuncId → Option FeX
  | [], _ => none
  | (i, e) :: r, f => match Nat.beq i f with | true => some e | false => lookX r f

/-! What goes over to a function and comes back: the evaluator's own places written out. -/
def inL (h : Nat → D → D × Mem × Nat) : Nat → List D → List D × Mem × Nat
  | k, [] => ([], [], k)
  | k, d :: r => match h k d with
    | (d', m, k1) => match inL h k1 r with
      | (r', m', k2) => (d' :: r', m' ++ m, k2)
def inD : Nat → Nat → D → D × Mem × Nat
  | 0, k, _ => (.no, [], k)
  | f + 1, k, d => match d with
    | .box T c => match inL (inD f) (k + 1) c with
      | (c', m, k') => (.loc (4 * k) 0, (4 * k, .cells c' T) :: m, k')
    | .sl sz n g (.own E) => (.sl sz n g (.tok (4 * k + 1)), [(4 * k + 1, .tok E)], k + 1)
    | .row sz n T c => (.slm sz (4 * k + 2) 0 n, [(4 * k + 2, .cells c T)], k + 1)
    | .agg l => match inL (inD f) k l with
      | (l', m, k') => (.agg l', m, k')
    | .tup l => match inL (inD f) k l with
      | (l', m, k') => (.tup l', m, k')
    | .clo i l => match inL (inD f) k l with
      | (l', m, k') => (.clo i l', m, k')
    | .v x => (.v x, [], k)
    | .ref l => (.ref l, [], k)
    | .sl sz n g _ => (.sl sz n g .none, [], k)
    | _ => (.no, [], k)
def outL (h : D → D × List Nat) : List D → List D × List Nat
  | [] => ([], [])
  | d :: r => match h d with
    | (d', u) => match outL h r with
      | (r', v) => (d' :: r', u ++ v)
def outD (m : Mem) : Nat → D → D × List Nat
  | 0, _ => (.no, [])
  | f + 1, d => match d with
    | .loc i 0 => match look m i with
      | some (.cells c T) => match outL (outD m f) c with
        | (c', u) => (.box T c', i :: u)
      | _ => (.no, [])
    | .slm sz i 0 n => match look m i with
      | some (.cells c T) => (.row sz n T (c.map kp0), [i])
      | _ => (.no, [])
    | .sl sz n g (.tok q) => match look m q with
      | some (.tok E) => (.sl sz n g (.own E), [q])
      | _ => (.sl sz n g .none, [])
    | .sl sz n g (.nil E) => (.sl sz n g (.own E), [])
    | .agg l => match outL (outD m f) l with
      | (l', u) => (.agg l', u)
    | .tup l => match outL (outD m f) l with
      | (l', u) => (.tup l', u)
    | .clo i l => match outL (outD m f) l with
      | (l', u) => (.clo i l', u)
    | .v x => (.v x, [])
    | .ref l => (.ref l, [])
    | .sl sz n g _ => (.sl sz n g .none, [])
    | _ => (.no, [])
def hasI (x : Nat) : List Nat → Bool
  | [] => false
  | y :: r => match Nat.beq y x with | true => true | false => hasI x r
def onceI : List Nat → Bool
  | [] => true
  | x :: r => match hasI x r with | true => false | false => onceI r
/-- What an argument's own places hold behind the call. -/
def updL (h : Nat → D → D → Mem × Nat) : Nat → List D → List D → Mem × Nat
  | k, a :: as, d :: ds => match h k a d with
    | (m, k1) => match updL h k1 as ds with
      | (m', k2) => (m' ++ m, k2)
  | k, _, _ => ([], k)
def updD (u : List Nat) : Nat → Nat → D → D → Mem × Nat
  | 0, k, _, _ => ([], k)
  | f + 1, k, a, d => match a, d with
    | .loc i 0, .box T c => match hasI i u with
      | true => match inL (inD f) k c with
        | (c', m, k') => ((i, .cells c' T) :: m, k')
      | false => ([], k)
    | .slm _ i 0 _, .row _ _ T c => match hasI i u with
      | true => ([(i, .cells c T)], k)
      | false => ([], k)
    | .agg l, .agg l' => updL (updD u f) k l l'
    | .clo _ l, .clo _ l' => updL (updD u f) k l l'
    | _, _ => ([], k)
def argD (as : List D) : D → Option D
  | .argp j => as[j]?
  | _ => none
def inR (as : List D) : Nat → Nat → D → D × Mem × Nat
  | 0, k, _ => (.no, [], k)
  | f + 1, k, d => match d with
    | .argp j => (as.getD j .no, [], k)
    | .tup l => match inL (inR as f) k l with
      | (l', m, k') => (.tup l', m, k')
    | .agg l => match inL (inR as f) k l with
      | (l', m, k') => (.agg l', m, k')
    | d => inD (f + 1) k d
def callX (e : FeX) (fr : Nat) (as : List D) (m : Mem) : Option (Bool × D × Mem) :=
  match outL (outD m 6) as with
  | (xs, u) => match e xs with
    | none => none
    | some (c, d, ys) => match onceI u && Nat.beq ys.length xs.length, updL (updD u 6) fr as ys with
      | true, (um, k) => match inR as 7 k d with
        | (d', rm, k') => match Nat.ble k' (fr + 31) with
          | true => some (c, d', rm ++ (um ++ u.map fun i => (i, .dead)))
          | false => none
      | false, _ => none

/-- Two bounds hold. -/
def bnd (i : Int) (n : Nat) : Bool := decide (0 ≤ i) && decide (i < (n : Int))

def evBuiltin (tb : Tb) (id : Nat) (b : Builtin) (ats : Array TypeId) (args : List D) (m : Mem) : Option (Bool × D × Mem) :=
  match b, args, ats.toList with
  | .len, [.v (.string s)], [T] => match tb T with
    | some ⟨.str, _, _, _, _⟩ => some (true, .v (.int .i64 s.size), [])
    | _ => none
  | .len, [.sl _ n _ _], [T] => match tb T with
    | some ⟨.sl _, _, _, _, _⟩ => some (true, .v (.int .i64 n), [])
    | _ => none
  | .max, [.v (.int k a), .v (.int k' b)], _ => match ikEq k k' with | true => some (true, .v (.int k (if a < b then b else a)), []) | false => none
  | .min, [.v (.int k a), .v (.int k' b)], _ => match ikEq k k' with | true => some (true, .v (.int k (if b < a then b else a)), []) | false => none
  | .append, [.sl sz n g p, .sl sz' n' g' _], [T, T'] =>
    match Nat.beq T T', tb T with
    | true, some ⟨.sl e, _, _, _, _⟩ => match tb e with
      | some ie =>
        let ok := Nat.ble 1 ie.size && (Nat.beq sz ie.size && Nat.beq sz' ie.size)
        let r : D := .sl ie.size (n + n') (fun i => match Nat.blt i n with | true => g i | false => g' (i - n)) (.tok id)
        let c := decide ((n + n') * ie.bytes ≤ 140737488355328 ∧ n + n' ≤ 9223372036854775807)
        match ok, p with
        | true, .nil e' => match Nat.beq e e' with | true => some (c, r, [(id, .tok e)]) | false => none
        | true, .tok q => match look m q with
          | some (.tok e') => match Nat.beq e e' && Nat.beq (q % 2) 1 with | true => some (c, r, [(id, .tok e), (q, .dead)]) | false => none
          | _ => none
        | _, _ => none
      | none => none
    | _, _ => none
  | _, _, _ => none

/-- Cells laid over others. -/
def cpy (c : List D) (o k : Nat) (g : Nat → List D) : List D := c.take o ++ (List.range k).flatMap g ++ c.drop (o + k)
def numD : D → Option Int
  | .v (.int _ n) => some n
  | _ => none
def bndD (t : List D) (z : Int) : Option Operand → Option Int
  | none => some z
  | some y => numD (ev t y)
/-- A byte; a slice's bytes as a text. -/
def u8Of : List D → Option Int
  | [.v (.int k n)] => match ikEq k .u8 with | true => some n | false => none
  | _ => none
def allU8 (n : Nat) (g : Nat → List D) : Bool := (List.range n).all fun i => (u8Of (g i)).isSome
def strU8 (n : Nat) (g : Nat → List D) : ByteArray := ((List.range n).map fun i => (u8Of (g i)).getD 0).foldl (fun r n => r.push (UInt8.ofNat n.toNat)) ByteArray.empty
/-- Slices over a row that may be written. -/
def evRow (tb : Tb) (fr : Nat) (o : Oper) (t : List D) (m : Mem) : Option (Bool × D × Mem) :=
  match o.op with
  | .makeSlice T l c => match tb T, numD (ev t l), numD (ev t c) with
    | some ⟨.sl e, _, _, _, _⟩, some n, some n' => match tb e with
      | some ie => match Nat.beq ie.zero.length ie.size with
        | true => some (decide (0 ≤ n) && (decide (n = n') && (decide ((ie.bytes : Int) * n ≤ 281474976710656) && decide (n ≤ 9223372036854775807))), .slm ie.size (4 * fr + 2) 0 n.toNat, [(4 * fr + 2, .cells (repD ie.zero n.toNat) e)])
        | false => none
      | none => none
    | _, _, _ => none
  | .indexAddr T x ix => match tb T, ev t x, numD (ev t ix) with
    | some ⟨.sl e, _, _, _, _⟩, .slm sz i off n, some k => match tb e with
      | some ie => match Nat.beq sz ie.size with
        | true => some (bnd k n, .loc i (off * sz + k.toNat * ie.size), [])
        | false => none
      | none => none
    | _, _, _ => none
  | .slice T x lo (some hi) (some mx) => match tb T, ev t x with
    | some ⟨.sl e, _, _, _, _⟩, .sl sz n g _ => match tb e, bndD t 0 lo, numD (ev t hi), numD (ev t mx) with
      | some ie, some l, some h, some q => match Nat.beq sz ie.size with
        | true => some (decide (0 ≤ l) && (decide (l ≤ h) && (decide (h ≤ q) && decide (q ≤ (n : Int)))), .sl sz (h.toNat - l.toNat) (fun i => g (l.toNat + i)) .none, [])
        | false => none
      | _, _, _, _ => none
    | _, _ => none
  | .call ⟨.builtin .len, args, ats⟩ => match args.toList.map (ev t), ats.toList with
    | [.slm _ _ _ n], [T] => match tb T with
      | some ⟨.sl _, _, _, _, _⟩ => some (true, .v (.int .i64 n), [])
      | _ => none
    | _, _ => none
  | .call ⟨.builtin .copy, args, ats⟩ => match args.toList.map (ev t), ats.toList with
    | [.slm sz i off n, .sl sz' n' g _], [T, _] => match tb T with
      | some ⟨.sl e, _, _, _, _⟩ => match tb e, look m i with
        | some ie, some (.cells c E) => match Nat.beq sz 1 && (Nat.beq sz' 1 && (Nat.beq ie.size 1 && Nat.beq (i % 2) 0)) with
          | true => some (Nat.ble (off + Nat.min n' n) c.length, .v (.int .i64 (Nat.min n' n)), [(i, .cells (cpy c off (Nat.min n' n) g) E)])
          | false => none
        | _, _ => none
      | _ => none
    | _, _ => none
  | .convert src dst x => match tb src, tb dst, ev t x with
    | some ⟨.sl e, _, _, _, _⟩, some ⟨.str, _, _, _, _⟩, .sl sz n g _ => match tb e with
      | some ⟨.int k, _, _, _, _⟩ => match ikEq k .u8 && Nat.beq sz 1 with
        | true => some (allU8 n g && decide (n ≤ 4294967280), .v (.string (strU8 n g)), [])
        | false => none
      | _ => none
    | _, _, _ => none
  | _ => none

/-- One operation: whether it may go on, what it gives, what it changes. -/
def evOp0 (env : Env) (tb : Tb) (id idt fr : Nat) (o : Oper) (t : List D) (m : Mem) : Option (Bool × D × Mem) :=
  match o.op with
  | .move x | .assign x => some (true, evx tb o.type t x, [])
  | .alloc T => match tb T with
    | some i => some (true, .loc id 0, [(id, .cells i.zero T)])
    | none => none
  | .box T x => match cellsOf (evx tb T t x) with
    | some c => some (true, .loc id 0, [(id, .cells c T)])
    | none => none
  | .build T ps => match tb T with
    | some ti => match ti.d.isAgg, fillD (placeOf tb ti) ti.zero (ps.toList.map fun p => (p.1, ev t p.2)) with
      | true, some c => some (true, .agg c, [])
      | _, _ => none
    | none => none
  | .buildSlice T n ps => match tb T with
    | some ⟨.sl e, _, _, _, _⟩ => match tb e with
      | some ie =>
        match Nat.ble 1 ie.size && Nat.ble (n * ie.size) 16777216 && Nat.beq ie.zero.length ie.size, fillD (fun i => some (i * ie.size, ie.size)) (repD ie.zero n) (ps.toList.map fun p => (p.1, ev t p.2)) with
        | true, some c => some (true, .sl ie.size n (bsGet n ie.size (ie.zero.map kq0) (c.map kp0)) (.tok idt), [(idt, .tok e)])
        | _, _ => none
      | none => none
    | _ => none
  | .load T a => match tb T, ev t a with
    | some ti, .loc i off => match look m i, Nat.beq (i % 2) 0 with
      | some (.cells c _), true => (ofCells ti.d.isAgg ti.size (c.drop off)).map fun d => (true, d, [])
      | _, _ => none
    | some ti, .ref l => (ofCells ti.d.isAgg ti.size l).map fun d => (true, d, [])
    | _, _ => none
  | .store T a x => match tb T, ev t a with
    | some ti, .loc i off => match look m i, cellsOf (evx tb T t x) with
      | some (.cells c T'), some l => match Nat.beq l.length ti.size && Nat.beq (i % 2) 0 with
        | true => some (Nat.ble (off + l.length) c.length, .no, [(i, .cells (splice c off l) T')])
        | false => none
      | _, _ => none
    | _, _ => none
  | .binOp op T x y _ => match nilC op (tb T) y (ev t x) with
    | some b => some (true, .v (.bool b), [])
    | none => (binD (tb T) op (ev t x) (ev t y)).map fun r => (r.1, r.2, [])
  | .unOp op _ x => (unD op (ev t x)).map fun d => (true, d, [])
  | .convert src dst x => match tb src, tb dst, ev t x with
    | some ⟨.int _, _, _, _, _⟩, some ⟨.int k, _, _, _, _⟩, .v (.int _ n) => some (true, .v (.int k (k.wrap n)), [])
    | some ⟨.str, _, _, _, _⟩, some ⟨.sl e, _, _, _, _⟩, .v (.string s) => match tb e with
      | some ⟨.int k, _, _, _, _⟩ => match ikEq k .u8 with
        | true => some (true, .sl 1 s.size (fun i => [.v (.int .u8 (s.data.toList.getD i 0).toNat)]) .none, [])
        | false => none
      | _ => none
    | _, _, _ => none
  | .fieldAddr T x f => match tb T with
    | some ⟨.struct fs, _, _, _, _⟩ => match fs[f]? with
      | some (off, ft) => match tb ft with
        | some fi => match Nat.ble 1 fi.size, ev t x with
          | true, .loc i o => some (true, .loc i (o + off), [])
          | true, .ref l => match Nat.ble off l.length with | true => some (true, .ref (l.drop off), []) | false => none
          | _, _ => none
        | none => none
      | none => none
    | _ => none
  | .field T x f => match tb T, ev t x with
    | some ⟨.struct fs, _, _, _, _⟩, .agg c => match fs[f]? with
      | some (off, ft) => match tb ft with
        | some fi => (ofCells fi.d.isAgg fi.size (c.drop off)).map fun d => (true, d, [])
        | none => none
      | none => none
    | _, _ => none
  | .indexAddr T x ix => match tb T, ev t x, ev t ix with
    | some ⟨.arr n e, _, _, _, _⟩, .loc b off, .v (.int _ i) => match tb e with
      | some ie => some (bnd i n, .loc b (off + i.toNat * ie.size), [])
      | none => none
    | some ⟨.arr n e, _, _, _, _⟩, .ref l, .v (.int _ i) => match tb e with
      | some ie => some (bnd i n && Nat.ble (i.toNat * ie.size) l.length, .ref (l.drop (i.toNat * ie.size)), [])
      | none => none
    | some ⟨.sl e, _, _, _, _⟩, .sl sz n g _, .v (.int _ i) => match tb e with
      | some ie => match Nat.beq sz ie.size with
        | true => some (bnd i n, .ref (g i.toNat), [])
        | false => none
      | none => none
    | _, _, _ => none
  | .index T x ix => match tb T, ev t x, ev t ix with
    | some ⟨.arr n e, _, _, _, _⟩, .agg c, .v (.int _ i) => match tb e with
      | some ie => (ofCells ie.d.isAgg ie.size (c.drop (i.toNat * ie.size))).map fun d => (bnd i n, d, [])
      | none => none
    | some ⟨.str, _, _, _, _⟩, .v (.string s), .v (.int _ i) => some (bnd i s.size, .v (.int .u8 (s.data.toList.getD i.toNat 0).toNat), [])
    | _, _, _ => none
  | .extract x i => match ev t x with
    | .tup l => match l[i]? with
      | some d => some (true, d, [])
      | none => none
    | _ => none
  | .slice T x lo hi none =>
    match tb T, ev t x with
    | some ⟨.str, _, _, _, _⟩, .v (.string s) =>
      match (match lo with | none => some (0 : Int) | some y => match ev t y with | .v (.int _ n) => some n | _ => none),
            (match hi with | none => some (s.size : Int) | some y => match ev t y with | .v (.int _ n) => some n | _ => none) with
      | some l, some h => some (decide (0 ≤ l) && (decide (l ≤ h) && decide (h ≤ (s.size : Int))), .v (.string (s.extract l.toNat h.toNat)), [])
      | _, _ => none
    | some ⟨.sl e, _, _, _, _⟩, .sl sz n g _ =>
      match tb e, (match lo with | none => some (0 : Int) | some y => match ev t y with | .v (.int _ n) => some n | _ => none),
            (match hi with | none => some (n : Int) | some y => match ev t y with | .v (.int _ n) => some n | _ => none) with
      | some ie, some l, some h => match Nat.beq sz ie.size with
        | true => some (decide (0 ≤ l) && (decide (l ≤ h) && decide (h ≤ (n : Int))), .sl sz (h.toNat - l.toNat) (fun i => g (l.toNat + i)) .none, [])
        | false => none
      | _, _, _ => none
    | _, _ => none
  | .nilCheck x => match ev t x with
    | .loc i off => some (true, .loc i off, [])
    | .ref l => some (true, .ref l, [])
    | .v (.func (.func f) a b) => some (true, .v (.func (.func f) a b), [])
    | _ => none
  | .call ⟨.builtin b, args, ats⟩ => evBuiltin tb idt b ats (args.toList.map (ev t)) m
  | .call ⟨.value f, args, ats⟩ => match ev t f with
    | .v (.func (.func fid) ⟨[]⟩ ⟨[]⟩) => match lookX env.x fid with
      | none => match env.p fid ((evL tb t ats.toList args.toList).map kp1) with
        | some (c, d) => some (c, d, [])
        | none => none
      | some e => callX e fr (evL tb t ats.toList args.toList) m
    | .clo fid caps => match lookX env.x fid with
      | none => none
      | some e => callX e fr (evL tb t ats.toList args.toList ++ caps) m
    | _ => none
  | _ => none

def evOp (env : Env) (tb : Tb) (id idt fr : Nat) (o : Oper) (t : List D) (m : Mem) : Option (Bool × D × Mem) :=
  match evRow tb fr o t m with
  | some r => some r
  | none => evOp0 env tb id idt fr o t m

/-- How code may end. -/
inductive Xt where
  | normal | exit (id : Nat) | goto (l : Nat) | ret

def Xt.toExit : Xt → Exit
  | .normal => .normal
  | .exit i => .exit i
  | .goto l => .goto l
  | .ret => .ret

def S.put (s : S) (dst : Option Tmp) (d : D) : S := match dst with | some i => { s with t := s.t.set i d } | none => s

/-- What an operation gives that its guard leaves out. -/
abbrev skD : D := .v (.tuple ⟨[]⟩)

section
variable {α : Type} (env : Env) (tb : Tb) (ops : Array Oper)

/-- One operation of a region, what follows in k. -/
def stepE (base j : Nat) (o : Oper) (s : S) (k : S → Option α) : Option α :=
  match o.op with
  | .pick c a b => match ev s.t c with
    | .v (.bool c) => match c with
      | true => k (s.put o.dst (evx tb o.type s.t a))
      | false => k (s.put o.dst (evx tb o.type s.t b))
    | _ => none
  | _ => match evOp env tb (2 * (base + 64 * j)) (2 * (base + 64 * j) + 1) ((base + 64 * j) / 2 + 1) o s.t s.m with
    | some (c, d, δ) => match c with
      | true => k { (s.put o.dst d) with m := δ ++ s.m }
      | false => none
    | none => none

/-- An index into a short array: one case a place. -/
def selE : (n j : Nat) → Int → (Nat → Option α) → Option α
  | 0, _, _, _ => none
  | n + 1, j, x, k => match x == (j : Int) with
    | true => k j
    | false => selE n (j + 1) x k
def idxN (tb : Tb) : Op → Option (Nat × Tmp)
  | .indexAddr T _ (.tmp i) => match tb T with
    | some ⟨.arr n _, _, _, _, _⟩ => match Nat.ble n 8 with | true => some (n, i) | false => none
    | _ => none
  | .index T _ (.tmp i) => match tb T with
    | some ⟨.arr n _, _, _, _, _⟩ => match Nat.ble n 8 with | true => some (n, i) | false => none
    | _ => none
  | _ => none
def stepX (base j : Nat) (o : Oper) (s : S) (k : S → Option α) : Option α :=
  match idxN tb o.op with
  | none => stepE env tb base j o s k
  | some (n, i) => match s.t.getD i .no with
    | .v (.int kk x) => selE n 0 x fun y => stepE env tb base j o { s with t := s.t.set i (.v (.int kk y)) } k
    | _ => stepE env tb base j o s k

def rgE (base : Nat) : List Oper → Nat → S → (S → Option α) → Option α
  | [], _, s, k => k s
  | o :: l, j, s, k => match o.guard with
    | none => stepX env tb base j o s fun s => rgE base l (j + 1) s k
    | some (g, want) => match (ops[g]?).bind (·.dst) with
      | none => none
      | some gt => match s.t.getD gt .no with
        | .v (.bool b) => match b with
          | true => match want with
            | true => stepX env tb base j o { s with t := s.t.set gt (.v (.bool true)) } fun s => rgE base l (j + 1) s k
            | false => rgE base l (j + 1) (S.put { s with t := s.t.set gt (.v (.bool true)) } o.dst skD) k
          | false => match want with
            | false => stepX env tb base j o { s with t := s.t.set gt (.v (.bool false)) } fun s => rgE base l (j + 1) s k
            | true => rgE base l (j + 1) (S.put { s with t := s.t.set gt (.v (.bool false)) } o.dst skD) k
        | .v (.tuple _) => rgE base l (j + 1) (s.put o.dst skD) k
        | _ => none
end

/-! May a region's operations be taken in any order that its edges allow? -/
def rTmp : Operand → List Tmp
  | .tmp t => [t]
  | _ => []
def names (ops : Array Oper) (o : Oper) : List Tmp :=
  o.op.operands.toList.flatMap rTmp ++ (match o.guard with | some (g, _) => ((ops[g]?).bind (·.dst)).toList | none => [])
/-- It looks at a box; changes one; appends. -/
def looks : Op → Bool
  | .load .. | .store .. => true
  | _ => false
def stores : Op → Bool
  | .store .. => true
  | _ => false
def appends : Op → Bool
  | .call ⟨.builtin .append, _, _⟩ => true
  | _ => false
/-- It may hand over places of the evaluator's own. -/
def hasF (x : FuncId) : List (FuncId × FeX) → Bool
  | [] => false
  | (y, _) :: r => match Nat.beq y x with | true => true | false => hasF x r
def mayX (X : List (FuncId × FeX)) (o : Op) : Bool :=
  match o with
  | .call ⟨.value f, _, _⟩ => match f with
    | .func i => hasF i X
    | _ => !X.isEmpty
  | .call ⟨.builtin .copy, _, _⟩ => true
  | _ => false
/-- It looks at, changes or makes an entry of the evaluator's own. -/
def memy (X : List (FuncId × FeX)) (o : Op) : Bool :=
  match o with
  | .alloc .. | .box .. | .buildSlice .. | .load .. | .store .. | .makeSlice .. => true
  | .call ⟨.builtin .append, _, _⟩ => true
  | o => mayX X o
/-- The edges that bind. -/
def aft (o : Oper) : List Edge := o.after.toList.filter (Region.binds .any)
/-- What must come ahead, by all edges: bits. -/
def ahead (l : List Oper) : List Nat → List Nat
  | acc => match l with
    | [] => acc
    | o :: r => ahead r (acc ++ [(aft o).foldl (fun s e => s ||| 2 ^ e.on ||| acc.getD e.on 0) 0])
def cmpb (ah : List Nat) (i j : Nat) : Bool := (ah.getD j 0).testBit i || (ah.getD i 0).testBit j
def pairOk (X : List (FuncId × FeX)) (ops : Array Oper) (ah : List Nat) (i : Nat) (x : Oper) (j : Nat) (y : Oper) : Bool :=
  (match x.dst with
   | some d => !((names ops y).contains d || y.dst == some d) || cmpb ah i j
   | none => true) &&
  (match y.dst with
   | some d => !((names ops x).contains d) || cmpb ah i j
   | none => true) &&
  (!((stores x.op && looks y.op) || (looks x.op && stores y.op) || (appends x.op && appends y.op) || (mayX X x.op && memy X y.op) || (memy X x.op && mayX X y.op)) || cmpb ah i j)
def pairsOk (X : List (FuncId × FeX)) (ops : Array Oper) (ah : List Nat) (i : Nat) (x : Oper) : Nat → List Oper → Bool
  | _, [] => true
  | j, y :: r => pairOk X ops ah i x j y && pairsOk X ops ah i x (j + 1) r
def allOk (X : List (FuncId × FeX)) (ops : Array Oper) (ah : List Nat) : Nat → List Oper → Bool
  | _, [] => true
  | i, x :: r => pairsOk X ops ah i x (i + 1) r && allOk X ops ah (i + 1) r
def edgesOk : Nat → List Oper → Bool
  | _, [] => true
  | i, x :: r => (aft x).all (fun e => Nat.blt e.on i) && edgesOk (i + 1) r
def drawOk (X : List (FuncId × FeX)) (ops : Array Oper) : Bool := edgesOk 0 ops.toList && allOk X ops (ahead ops.toList []) 0 ops.toList

/-! ### At a loop's head: what a round leaves behind is forgotten, and what goes on gets its place's own number. -/
def hasN (x : Nat) : List Nat → Bool
  | [] => false
  | y :: r => match Nat.beq y x with | true => true | false => hasN x r
def cntN (x : Nat) : List Nat → Nat
  | [] => 0
  | y :: r => match Nat.beq y x with | true => cntN x r + 1 | false => cntN x r
/-- What a list of operations reads (false) and writes (true), in the text's order. -/
def accOps (ops : Array Oper) : List Oper → List (Bool × Tmp)
  | [] => []
  | o :: r => (names ops o).map (fun x => (false, x)) ++ (o.dst.toList.map fun x => (true, x)) ++ accOps ops r
def accCode : Code → List (Bool × Tmp)
  | .region _ ops _ => accOps ops ops.toList
  | .seq a b => accCode a ++ accCode b
  | .cond c a b => (rTmp c).map (fun x => (false, x)) ++ accCode a ++ accCode b
  | .block _ c => accCode c
  | .loop c => accCode c
  | .scope c => accCode c
  | _ => []
def rdsOf : List (Bool × Tmp) → List Tmp
  | [] => []
  | (false, x) :: r => x :: rdsOf r
  | (true, _) :: r => rdsOf r
/-- Written first; read nowhere but here (rd: what the whole function reads). -/
def fgsOf (rd mine : List Tmp) : (seen : List Nat) → List (Bool × Tmp) → List Tmp
  | _, [] => []
  | seen, (b, x) :: r => match hasN x seen with
    | true => fgsOf rd mine seen r
    | false => match b && Nat.beq (cntN x rd) (cntN x mine) with
      | true => x :: fgsOf rd mine (x :: seen) r
      | false => fgsOf rd mine (x :: seen) r
/-- What a function reads: how many temporaries there are, which region reads which, and for each loop the first region of the outermost loop about it. -/
structure Rd where
  n : Nat
  l : List (Nat × Tmp)
  o : List (Nat × Nat)
  h : List (Nat × Nat) := []
/-- The first region's number. -/
def minId : Code → Nat
  | .region id _ _ => id
  | .seq a b => match minId a with | x => match minId b with | y => match Nat.ble x y with | true => x | false => y
  | .cond _ a b => match minId a with | x => match minId b with | y => match Nat.ble x y with | true => x | false => y
  | .block _ c => minId c
  | .loop c => minId c
  | .scope c => minId c
  | _ => 999999999
def up (i k : Nat) : Nat := match Nat.ble k (1048576 * (i + 1)) with | true => 1048576 * (i + 1) | false => 64 * (k / 64 + 1)
/-- A number, reckoned out. -/
def force {α : Type} (n : Nat) (f : Nat → α) : α := match n with
  | 0 => f 0
  | m + 1 => f (m + 1)
theorem force_eq {α : Type} (n : Nat) (f : Nat → α) : force n f = f n := by cases n <;> rfl
theorem le_up (i k : Nat) : k ≤ up i k := by
  unfold up; split
  · rename_i h; exact Nat.le_of_ble_eq_true h
  · omega
/-- The number of the permission at a loop's head (r: its first region). -/
def hd (r slot : Nat) : Nat := 2 * (1048576 * (r + 1) + slot) + 1
def atR (id : Nat) : List Tmp → List (Nat × Tmp)
  | [] => []
  | x :: r => (id, x) :: atR id r
def rdL : Code → List (Nat × Tmp)
  | .region id ops _ => atR id (rdsOf (accOps ops ops.toList))
  | .seq a b => rdL a ++ rdL b
  | .cond c a b => atR (minId (.seq a b)) (rTmp c) ++ (rdL a ++ rdL b)
  | .block _ c => rdL c
  | .loop c => rdL c
  | .scope c => rdL c
  | _ => []
/-- The loops' first regions (q: that of the outermost one). -/
def rdO : Option Nat → Code → List (Nat × Nat)
  | q, .seq a b => rdO q a ++ rdO q b
  | q, .cond _ a b => rdO q a ++ rdO q b
  | q, .block _ c => rdO q c
  | q, .loop c => match q with
    | some x => (minId c, x) :: rdO q c
    | none => (minId c, minId c) :: rdO (some (minId c)) c
  | q, .scope c => rdO q c
  | _, _ => []
def lookN (i : Nat) : List (Nat × Nat) → Nat
  | [] => 0
  | (a, b) :: r => match Nat.beq a i with | true => b | false => lookN i r
/-- Those that are read from a region on. -/
def live (lo : Nat) : List (Nat × Tmp) → List Tmp
  | [] => []
  | (i, x) :: r => match Nat.ble lo i with | true => x :: live lo r | false => live lo r
def notIn (l : List Tmp) : (k i : Nat) → List Tmp
  | 0, _ => []
  | k + 1, i => match hasN i l with | true => notIn l k (i + 1) | false => i :: notIn l k (i + 1)
/-! What is read later on (sets as numbers' bits): for loops within loops. -/
def bitsS (m : Nat) : List Tmp → Nat
  | [] => m
  | t :: r => bitsS (m ||| 2 ^ t) r
def bitC (m : Nat) : Option Tmp → Nat
  | none => m
  | some t => match m.testBit t with | true => m ^^^ 2 ^ t | false => m
def lvOps (ops : Array Oper) : List Oper → Nat → Nat
  | [], m => m
  | o :: r, m => bitsS (bitC (lvOps ops r m) o.dst) (names ops o)
def lvC (ret all : Nat) : Code → Nat → List (Nat × Nat) → Nat × List (Nat × Nat)
  | .region _ ops _, m, _ => (lvOps ops ops.toList m, [])
  | .seq a b, m, e => match lvC ret all b m e with
    | (m1, h1) => match lvC ret all a m1 e with
      | (m2, h2) => (m2, h2 ++ h1)
  | .cond c a b, m, e => match lvC ret all a m e, lvC ret all b m e with
    | (m1, h1), (m2, h2) => (bitsS (m1 ||| m2) (rTmp c), h1 ++ h2)
  | .block id c, m, e => lvC ret all c m ((id, m) :: e)
  | .loop c, _, e => match lvC ret all c 0 e with
    | (m1, _) => match lvC ret all c m1 e with
      | (m2, _) => match lvC ret all c (m1 ||| m2) e with
        | (m3, h) => (m1 ||| m2 ||| m3, (minId c, m1 ||| m2 ||| m3) :: h)
  | .exit id, _, e => (lookN id e, [])
  | .ret, _, _ => (ret, [])
  | .goto _, _, _ => (all, [])
  | .scope c, m, e => lvC ret all c m e
  | _, m, _ => (m, [])
def bitsOut (m : Nat) : (k i : Nat) → List Tmp
  | 0, _ => []
  | k + 1, i => match m.testBit i with | true => bitsOut m k (i + 1) | false => i :: bitsOut m k (i + 1)
def hasL : Code → Bool
  | .seq a b => match hasL a with | true => true | false => hasL b
  | .cond _ a b => match hasL a with | true => true | false => hasL b
  | .block _ c => hasL c
  | .loop _ => true
  | .scope c => hasL c
  | _ => false
def fgs (rd : Rd) (c : Code) : List Tmp := (match Nat.beq (lookN (minId c) rd.o) (minId c) && !hasL c with | true => [] | false => bitsOut (lookN (minId c) rd.h) rd.n 0) ++ notIn (live (lookN (minId c) rd.o) rd.l) rd.n 0 ++ fgsOf (rd.l.map (·.2)) (rdsOf (accCode c)) [] (accCode c)

def cut0 (B : Nat) : D → D
  | .v x => .v x
  | .ref l => .ref l
  | .loc i o => match Nat.blt i B with | true => .loc i o | false => .no
  | .slm sz i off n => match Nat.blt i B with | true => .slm sz i off n | false => .no
  | .sl sz n g (.tok _) => .sl sz n g .none
  | .sl sz n g p => .sl sz n g p
  | _ => .no
def cut1 (B : Nat) : D → D
  | .agg l => .agg (l.map (cut0 B))
  | .clo f l => .clo f (l.map (cut0 B))
  | d => cut0 B d
abbrev Acc := List (Nat × Option Nat × TypeId)
def hasQ (q : Nat) : Acc → Bool
  | [] => false
  | (_, some q', _) :: r => match Nat.beq q' q with | true => true | false => hasQ q r
  | (_, none, _) :: r => hasQ q r
def cnD (B : Nat) (m : Mem) (id : Nat) (acc : Acc) : D → D × Acc
  | .sl sz n g (.tok q) => match hasQ q acc, look m q with
    | false, some (.tok E) => (.sl sz n g (.tok id), (id, some q, E) :: acc)
    | _, _ => (.sl sz n g .none, acc)
  | .sl sz n g (.nil E) => (.sl sz n g (.tok id), (id, none, E) :: acc)
  | d => (cut1 B d, acc)
def cnT (B : Nat) (m : Mem) (fg : List Tmp) : (i : Nat) → List D → Acc → List D × Acc
  | _, [], acc => ([], acc)
  | i, d :: r, acc => match hasN i fg with
    | true => match cnT B m fg (i + 1) r acc with
      | (r', a) => (.no :: r', a)
    | false => match cnD B m (B + 2 * i + 1) acc d with
      | (d', a) => match cnT B m fg (i + 1) r a with
        | (r', a) => (d' :: r', a)
def cnM (B : Nat) (m : Mem) : (i : Nat) → List Nat → Acc → Mem × Acc × Nat
  | i, [], acc => ([], acc, i)
  | i, id :: r, acc => match Nat.blt id B, look m id with
    | true, some (.cells c T) => match Nat.beq (id % 4) 2 with
     | true => match cnM B m i r acc with
      | (mm, a, n) => ((id, .cells (c.map (cut0 B)) T) :: mm, a, n)
     | false => match cnT B m [] i c acc with
      | (c', a) => match cnM B m (i + c.length) r a with
        | (mm, a, n) => ((id, .cells c' T) :: mm, a, n)
    | _, _ => cnM B m i r acc
def idsOf : (seen : List Nat) → Mem → List Nat
  | _, [] => []
  | seen, (i, _) :: r => match hasN i seen with
    | true => idsOf seen r
    | false => i :: idsOf (i :: seen) r
def canon (k0 : Nat) (fg : List Tmp) (ids : List Nat) (s : S) : S :=
  match cnT (2 * k0) s.m fg 0 s.t [] with
  | (t', a) => match cnM (2 * k0) s.m s.t.length ids a with
    | (mm, a, n) => { t := t', m := a.map (fun x => (x.1, .tok x.2.2)) ++ mm, k := k0 + n }

section
variable {α : Type} (env : Env) (tb : Tb) (rd : Rd)
def exE (fuel : Nat) : Code → S → (Xt → S → Option α) → Option α
  | .skip, s, k => k .normal s
  | .label _, s, k => k .normal s
  | .region id ops draw, s, k =>
    match !draw || drawOk env.x ops with
    | true => force (up id s.k) fun b => rgE env tb ops b ops.toList 0 s fun s' => k .normal { s' with k := b + 64 * ops.size }
    | false => none
  | .seq a b, s, k => exE fuel a s fun x s => match x with
    | .normal => exE fuel b s k
    | x => k x s
  | .cond c a b, s, k => match c with
    | .tmp i => match s.t.getD i .no with
      | .v (.bool c) => match c with
        | true => exE fuel a { s with t := s.t.set i (.v (.bool true)) } k
        | false => exE fuel b { s with t := s.t.set i (.v (.bool false)) } k
      | _ => none
    | .const (.bool c) => match c with
      | true => exE fuel a s k
      | false => exE fuel b s k
    | _ => none
  | .block id c, s, k => exE fuel c s fun x s => match x with
    | .exit i => match Nat.beq i id with
      | true => k .normal s
      | false => k (.exit i) s
    | x => k x s
  | .loop c, s, k => force (up (minId c) s.k) fun b => Nat.rec (motive := fun _ => S → Option α) (fun _ => none)
      (fun _ ih s' => exE fuel c s' fun x s' => match x with
        | .normal => ih (canon b (fgs rd c) (idsOf [] s.m) s')
        | x => k x (canon b (fgs rd c) (idsOf [] s.m) s')) fuel (canon b (fgs rd c) (idsOf [] s.m) s)
  | .exit id, s, k => k (.exit id) s
  | .goto l, s, k => k (.goto l) s
  | .ret, s, k => k .ret s
  | _, _, _ => none
end

/-- What a function gives. -/
def resD (tb : Tb) (s : S) : ResultVar → Option D
  | .tmp i => some (s.t.getD i .no)
  | .cell a T => match tb T, s.t.getD a .no with
    | some ti, .loc i off => match look s.m i with
      | some (.cells c _) => ofCells ti.d.isAgg ti.size (c.drop off)
      | _ => none
    | _, _ => none
def resDs (tb : Tb) (s : S) : List ResultVar → Option (List D)
  | [] => some []
  | r :: l => match resD tb s r, resDs tb s l with
    | some d, some ds => some (d :: ds)
    | _, _ => none
/-- Rows that go back are written no more. -/
def frzD (tb : Tb) (q : Nat) (m : Mem) (d : D) : Bool × D × Mem :=
  match d with
  | .slm sz i 0 n => match look m i with
    | some (.cells c T) => match tb T with
      | some ti => match Nat.beq ti.size sz with
        | true => (decide (c.length = n * sz) && decide (n ≤ 9223372036854775807), .sl sz n (rowGet sz (c.map kp0)) (.tok q), (q, .tok T) :: (i, .dead) :: m)
        | false => (true, .no, m)
      | none => (true, .no, m)
    | _ => (true, .no, m)
  | d => (true, d, m)
def frzL (tb : Tb) : Nat → Mem → List D → Bool × List D × Mem
  | _, m, [] => (true, [], m)
  | q, m, d :: r => match frzD tb q m d with
    | (c, d', m') => match frzL tb (q + 2) m' r with
      | (c', r', m'') => (c && c', d' :: r', m'')
def tupD : List D → D
  | [d] => d
  | ds => .tup ds
def resV (tb : Tb) (s : S) (l : List ResultVar) : Option (Bool × D × Mem) :=
  match resDs tb s l with
  | some ds => match frzL tb (2 * s.k + 1) s.m ds with
    | (c, ds', m') => some (c, tupD ds', m')
  | none => none
def resultD (tb : Tb) (s : S) (l : List ResultVar) : Option D :=
  match resV tb s l with
  | some (c, d, _) => match c with
    | true => some (kp2 d)
    | false => none
  | none => none

def rdsF (fn : Func) : Rd :=
  { n := fn.ntmps
    l := (match fn.body with | some c => rdL c | none => []) ++ fn.results.toList.map fun r => match r with | .tmp i => (999999999, i) | .cell a _ => (999999999, a)
    o := match fn.body with | some c => rdO none c | none => []
    h := match fn.body with
      | some c => (lvC (bitsS 0 (fn.results.toList.map fun r => match r with | .tmp i => i | .cell a _ => a)) (2 ^ fn.ntmps - 1) c (bitsS 0 (fn.results.toList.map fun r => match r with | .tmp i => i | .cell a _ => a)) []).2
      | none => [] }
def endK (tb : Tb) (fn : Func) (x : Xt) (s : S) : Option D :=
  match x with
  | .normal => resultD tb s fn.results.toList
  | .ret => resultD tb s fn.results.toList
  | _ => none
def start (fn : Func) (args : List D) : S := { t := args ++ List.replicate (fn.ntmps - args.length) .no, m := [], k := 0 }
def evalR (env : Env) (tb : Tb) (rd : Rd) (fuel : Nat) (fn : Func) (args : List D) : Option D :=
  match fn.body with
  | none => none
  | some c => exE env tb rd fuel c (start fn args) (endK tb fn)
abbrev evalF (env : Env) (tb : Tb) (fuel : Nat) (fn : Func) (args : List D) : Option D := evalR env tb (rdsF fn) fuel fn args

/-! A function that is handed places. -/
def stripT : Nat → D → D
  | 0, _ => .no
  | f + 1, d => match d with
    | .sl sz n g _ => .sl sz n g .none
    | .agg l => .agg (l.map (stripT f))
    | .tup l => .tup (l.map (stripT f))
    | .clo i l => .clo i (l.map (stripT f))
    | .v x => .v x
    | .ref l => .ref l
    | .loc i o => .loc i o
    | .slm sz i off n => .slm sz i off n
    | _ => .no
def argOf (i : Nat) : Nat → List D → Option Nat
  | _, [] => none
  | j, d :: r => match d with
    | .loc k 0 => match Nat.beq k i with | true => some j | false => argOf i (j + 1) r
    | _ => argOf i (j + 1) r
def outR (m : Mem) (as : List D) : Nat → D → D × List Nat
  | 0, _ => (.no, [])
  | f + 1, d => match d with
    | .loc i 0 => match argOf i 0 as with
      | some j => (.argp j, [])
      | none => outD m (f + 1) (.loc i 0)
    | .tup l => match outL (outR m as f) l with
      | (l', u) => (.tup l', u)
    | .agg l => match outL (outR m as f) l with
      | (l', u) => (.agg l', u)
    | d => outD m (f + 1) d
def endX (tb : Tb) (fn : Func) (as : List D) (x : Xt) (s : S) : Option (D × List D) :=
  match x with
  | .normal | .ret => match resV tb s fn.results.toList with
    | none => none
    | some (c, d, m) => match c with
      | false => none
      | true => match outL (outD m 6) (as.map (stripT 6)), outR m as 7 d with
        | (ys, u), (d', v) => match onceI (v ++ u) with
          | true => some (d', ys)
          | false => none
  | _ => none
def evalX (env : Env) (tb : Tb) (fuel : Nat) (fn : Func) (args : List D) : Option (D × List D) :=
  match fn.body, inL (inD 6) 0 args with
  | some c, (as, m, k) => exE env tb (rdsF fn) fuel c { t := as ++ List.replicate (fn.ntmps - as.length) .no, m := m, k := 2 * k } (endX tb fn as)
  | none, _ => none

/-! ### To speak of a function's loops: which code, what follows, which state at its head. -/
def loops : Code → Nat
  | .seq a b => loops a + loops b
  | .cond _ a b => loops a + loops b
  | .block _ c => loops c
  | .loop c => loops c + 1
  | .scope c => loops c
  | _ => 0
/-- The code of the j-th loop's round. -/
def lpC : Code → Nat → Code
  | .seq a b, j => match Nat.blt j (loops a) with | true => lpC a j | false => lpC b (j - loops a)
  | .cond _ a b, j => match Nat.blt j (loops a) with | true => lpC a j | false => lpC b (j - loops a)
  | .block _ c, j => lpC c j
  | .loop c, j => match j with | 0 => c | j + 1 => lpC c j
  | .scope c, j => lpC c j
  | _, _ => .skip
section
variable {α : Type} (env : Env) (tb : Tb) (rd : Rd) (F : Nat)
/-- What follows the j-th loop (of those that lie in no other loop). -/
def lpK : Code → Nat → (Xt → S → Option α) → Xt → S → Option α
  | .seq a b, j, k => match Nat.blt j (loops a) with
    | true => lpK a j fun x s => match x with
      | .normal => exE env tb rd F b s k
      | x => k x s
    | false => lpK b (j - loops a) k
  | .cond _ a b, j, k => match Nat.blt j (loops a) with | true => lpK a j k | false => lpK b (j - loops a) k
  | .block id c, j, k => lpK c j fun x s => match x with
      | .exit i => match Nat.beq i id with
        | true => k .normal s
        | false => k (.exit i) s
      | x => k x s
  | .loop _, _, k => k
  | _, _, k => k
end
def bodyF (fn : Func) : Code := match fn.body with | some c => c | none => .skip
/-- What stands at a loop's head, but for what the ways that lead there leave open. -/
def rgP (env : Env) (tb : Tb) (base : Nat) : List Oper → Nat → S → S
  | [], _, s => s
  | o :: l, j, s => match o.guard with
    | some _ => rgP env tb base l (j + 1) (s.put o.dst .no)
    | none => match o.op with
      | .pick .. => rgP env tb base l (j + 1) (s.put o.dst .no)
      | _ => match evOp env tb (2 * (base + 64 * j)) (2 * (base + 64 * j) + 1) ((base + 64 * j) / 2 + 1) o s.t s.m with
        | some (_, d, δ) => rgP env tb base l (j + 1) { (s.put o.dst d) with m := δ ++ s.m }
        | none => rgP env tb base l (j + 1) (s.put o.dst .no)
def exP (env : Env) (tb : Tb) : Code → S → S
  | .region id ops _, s => match rgP env tb (up id s.k) ops.toList 0 s with
    | s' => { s' with k := up id s.k + 64 * ops.size }
  | .seq a b, s => exP env tb b (exP env tb a s)
  | .block _ c, s => exP env tb c s
  | _, s => s
def headOf (rd : Rd) (c : Code) (s : S) : S := canon (up (minId c) s.k) (fgs rd c) (idsOf [] s.m) s
def toP (env : Env) (tb : Tb) (rd : Rd) : Code → Nat → S → S
  | .seq a b, j, s => match Nat.blt j (loops a) with | true => toP env tb rd a j s | false => toP env tb rd b (j - loops a) (exP env tb a s)
  | .cond _ a b, j, s => match Nat.blt j (loops a) with | true => toP env tb rd a j s | false => toP env tb rd b (j - loops a) s
  | .block _ c, j, s => toP env tb rd c j s
  | .loop c, j, s => match j with | 0 => s | j + 1 => toP env tb rd c j (headOf rd c s)
  | _, _, s => s
/-- The state where the j-th loop begins. -/
def lpS (env : Env) (tb : Tb) (fn : Func) (args : List D) (j : Nat) : S := toP env tb (rdsF fn) (bodyF fn) j (start fn args)
def setT : List D → List (Nat × D) → List D
  | t, [] => t
  | t, (i, d) :: r => setT (t.set i d) r
def S.setT (s : S) (l : List (Nat × D)) : S := { s with t := Ev.setT s.t l }

end Go.Ev
namespace Go.Ev
open Go Go.RowKit

/-! ## The table of types, held against a program -/
def i0 (k : IntKind) : D := .v (.int k 0)
def b0 : D := .v (.bool false)
def s0 : D := .v (.string ⟨#[]⟩)
def p0 : D := .v (.pointer none)
def m0 : D := .v (.map none)
def f0 : D := .v .nilFunc
def n0 : D := .v .nilIface
def l0 (sz : Nat) (e : TypeId) (z : List D) : D := .sl sz 0 (fun _ => z) (.nil e)
/-- A nil slice within an element. -/
def lk (sz : Nat) (z : List D) : D := .sl sz 0 (fun _ => z) .none

def tbGet : List (Nat × Ti) → Tb
  | [], _ => none
  | (i, x) :: r, t => match Nat.beq i t with | true => some x | false => tbGet r t

/-- A cell of a zero value. -/
def cellOk : D → Value → Bool
  | .v (.int k a), .int k' b => decide (k = k') && a == b
  | .v (.bool a), .bool b => a == b
  | .v (.string a), .string b => a.size == 0 && b.size == 0
  | .v (.pointer none), .pointer none => true
  | .v (.map none), .map none => true
  | .v .nilFunc, .nilFunc => true
  | .v .nilIface, .nilIface => true
  | .sl _ n _ (.nil _), .slice none 0 0 => n == 0
  | _, _ => false
def zeroOk : List D → List Value → Bool
  | [], [] => true
  | d :: l, v :: r => cellOk d v && zeroOk l r
  | _, _ => false

def fieldsOk : List (Nat × TypeId) → List Field → Bool
  | [], [] => true
  | (o, t) :: l, f :: r => f.offset == o && f.type == t && fieldsOk l r
  | _, _ => false
def aggD : TypeDesc → Bool
  | .struct _ | .array _ _ => true
  | _ => false
def descOk : TypeDesc → Td → Bool
  | .int k, .int k' => decide (k = k')
  | .bool, .bool => true
  | .string, .str => true
  | .struct fs, .struct gs => fieldsOk gs fs.toList
  | .array n e, .arr n' e' => n == n' && e == e'
  | .slice e, .sl e' => e == e'
  | .pointer _, .ptr | .map .., .other | .func .., .other | .interface _, .other | .chan .., .other => true
  | _, _ => false

/-- Values of this type are compared cell by cell: the cells' kinds; o: where the next cell must lie. -/
inductive Kd where
  | int (k : IntKind) | bool | str
def kFs (kT : TypeId → Option (List Kd)) (size : TypeId → Nat) : Nat → List Field → Option (List Kd)
  | _, [] => some []
  | o, f :: r => match f.offset == o && f.name != "_", kT f.type with
    | true, some a => match a.length == size f.type, kFs kT size (o + a.length) r with
      | true, some b => some (a ++ b)
      | _, _ => none
    | _, _ => none
def repK (a : List Kd) : Nat → List Kd
  | 0 => []
  | n + 1 => a ++ repK a n
def kT (P : Program) : Nat → TypeId → Option (List Kd)
  | 0, _ => none
  | d + 1, t => match P.underlying t with
    | some (.int k) => some [.int k]
    | some .bool => some [.bool]
    | some .string => some [.str]
    | some (.struct fs) => match P.stoodInHeld t with
      | false => kFs (kT P d) P.cellsOf 0 fs.toList
      | true => none
    | some (.array n e) => match kT P d e with
      | some a => match a.length == P.cellsOf e with
        | true => some (repK a n)
        | false => none
      | none => none
    | _ => none
def kdsOk : List D → List Kd → Bool
  | [], [] => true
  | .v (.int k _) :: l, .int k' :: r => decide (k = k') && kdsOk l r
  | .v (.bool _) :: l, .bool :: r => kdsOk l r
  | .v (.string _) :: l, .str :: r => kdsOk l r
  | _, _ => false
def eqOk (P : Program) (t : TypeId) (z : List D) : Bool :=
  match kT P 8 t with
  | some ks => kdsOk z ks && !P.eqGuardType P.depth t
  | none => false
def fieldsInfo (P : Program) : TypeDesc → Bool
  | .struct fs => fs.toList.all fun f => (P.info? f.type).isSome
  | .array _ e => (P.info? e).isSome
  | _ => true

def tiOk (P : Program) (t : TypeId) (i : Ti) : Bool :=
  match P.info? t, P.underlying t with
  | some f, some d => f.size == i.size && f.bytes == i.bytes && (match f.zero with | some z => zeroOk i.zero z.cells.toList && z.cells.size == i.size | none => false) &&
      descOk d i.d && fieldsInfo P d && (!i.eq || eqOk P t i.zero)
  | _, _ => false
def TbOk (P : Program) (tb : Tb) : Prop := ∀ t i, tb t = some i → tiOk P t i = true

theorem tbOk_of {P : Program} {l : List (Nat × Ti)} (h : (l.all fun x => tiOk P x.1 x.2) = true) : TbOk P (tbGet l) := by
  intro t i hi
  induction l with
  | nil => cases hi
  | cons x r ih =>
    obtain ⟨j, y⟩ := x
    simp only [List.all_cons, Bool.and_eq_true] at h
    simp only [tbGet] at hi
    split at hi
    · rename_i hb
      cases hi
      have : j = t := Nat.eq_of_beq_eq_true hb
      subst this
      exact h.1
    · exact ih h.2 hi

/-! ## The relation -/
/-- What is known of the real memory: which places exist, their blocks, the owners' values, which cells are kept. -/
structure G where
  C : Nat → Prop
  σ : Nat → Nat
  ρ : Nat → Value
  K : Nat → Nat → Prop

/-- Data that is kept: no place of the evaluator's own in it. -/
inductive KR (K : Nat → Nat → Prop) (w : World) : D → Value → Prop
  | v (x : Value) (hx : okV x = true) : KR K w (.v x) x
  | no (x : Value) : KR K w .no x
  | agg (l : List D) (cs : Array Value) (hl : cs.size = l.length) (h1 : ∀ i, i < l.length → oneC (cs.getD i undef) = true) (hc : ∀ i d, l[i]? = some d → KR K w d (cs.getD i undef)) : KR K w (.agg l) (.agg cs)
  | tup (l : List D) (cs : Array Value) (hl : cs.size = l.length) (hc : ∀ i d, l[i]? = some d → KR K w d (cs.getD i undef)) : KR K w (.tup l) (.tuple cs)
  | ref (l : List D) (b off : Nat) (f : Nat → Value) (hk : ∀ i, i < l.length → K b (off + i) ∧ w.cell? ⟨b, off + i, none⟩ = some (f i) ∧ oneC (f i) = true) (hc : ∀ i d, l[i]? = some d → KR K w d (f i)) :
      KR K w (.ref l) (.pointer (some ⟨b, off, none⟩))
  | sl (sz n : Nat) (get : Nat → List D) (b off cap : Nat) (f : Nat → Nat → Value) (hn : n ≤ cap) (hl : ∀ i, i < n → (get i).length = sz)
      (hk : ∀ i k, i < n → k < sz → K b (off + i * sz + k) ∧ w.cell? ⟨b, off + i * sz + k, none⟩ = some (f i k) ∧ oneC (f i k) = true)
      (hc : ∀ i k d, i < n → (get i)[k]? = some d → KR K w d (f i k)) : KR K w (.sl sz n get .none) (.slice (some ⟨b, off, none⟩) n cap)
  | sl0 (sz : Nat) (get : Nat → List D) (a : Option Addr) (cap : Nat) : KR K w (.sl sz 0 get .none) (.slice a 0 cap)

def PermOk (g : G) : Pm → Value → Prop
  | .none, _ => True
  | .nil _, r => r = .slice none 0 0
  | .tok q, r => g.C q ∧ r = g.ρ q
  | .own _, _ => True
  | .nn, r => ∀ n c, r ≠ .slice none n c
  | .nl, r => ∃ n c, r = .slice none n c

inductive VR (g : G) (w : World) : D → Value → Prop
  | kr (d : D) (r : Value) (h : KR g.K w d r) : VR g w d r
  | loc (i off : Nat) (hC : g.C i) : VR g w (.loc i off) (.pointer (some ⟨g.σ i, off, none⟩))
  | sl (sz n : Nat) (get : Nat → List D) (p : Pm) (r : Value) (h : KR g.K w (.sl sz n get .none) r) (hp : PermOk g p r) : VR g w (.sl sz n get p) r
  | agg (l : List D) (cs : Array Value) (hl : cs.size = l.length) (h1 : ∀ i, i < l.length → oneC (cs.getD i undef) = true) (hc : ∀ i d, l[i]? = some d → VR g w d (cs.getD i undef)) : VR g w (.agg l) (.agg cs)
  | tup (l : List D) (cs : Array Value) (hl : cs.size = l.length) (hc : ∀ i d, l[i]? = some d → VR g w d (cs.getD i undef)) : VR g w (.tup l) (.tuple cs)
  | clo (f : FuncId) (l : List D) (cs : Array Value) (hl : cs.size = l.length) (hc : ∀ i d, l[i]? = some d → VR g w d (cs.getD i undef)) : VR g w (.clo f l) (.func (.func f) #[] cs)
  | slm (sz i off n : Nat) (hC : g.C i) : VR g w (.slm sz i off n) (.slice (some ⟨g.σ i, off * sz, none⟩) n n)

theorem KR.mono {K K' : Nat → Nat → Prop} {w w' : World} (hK : ∀ b o, K b o → K' b o ∧ w'.cell? ⟨b, o, none⟩ = w.cell? ⟨b, o, none⟩) {d : D} {r : Value} (h : KR K w d r) : KR K' w' d r := by
  induction h with
  | v x hx => exact .v x hx
  | no x => exact .no x
  | agg l cs hl h1 _ ih => exact .agg l cs hl h1 ih
  | tup l cs hl _ ih => exact .tup l cs hl ih
  | ref l b off f hk _ ih => exact .ref l b off f (fun i hi => by obtain ⟨a, c, e⟩ := hk i hi; obtain ⟨a', c'⟩ := hK _ _ a; exact ⟨a', c'.trans c, e⟩) ih
  | sl sz n get b off cap f hn hl hk _ ih =>
    exact .sl sz n get b off cap f hn hl (fun i k hi hk' => by obtain ⟨a, c, e⟩ := hk i k hi hk'; obtain ⟨a', c'⟩ := hK _ _ a; exact ⟨a', c'.trans c, e⟩) ih
  | sl0 sz get a cap => exact .sl0 sz get a cap

/-- More is known, and what was known still holds. -/
structure Ext (g g' : G) (w w' : World) : Prop where
  C : ∀ i, g.C i → g'.C i
  σ : ∀ i, g.C i → g'.σ i = g.σ i
  ρ : ∀ i, g.C i → g'.ρ i = g.ρ i
  K : ∀ b o, g.K b o → g'.K b o ∧ w'.cell? ⟨b, o, none⟩ = w.cell? ⟨b, o, none⟩

theorem VR.mono {g g' : G} {w w' : World} (e : Ext g g' w w') {d : D} {r : Value} (h : VR g w d r) : VR g' w' d r := by
  induction h with
  | kr d r h => exact .kr d r (h.mono e.K)
  | loc i off hC => rw [← e.σ i hC]; exact .loc i off (e.C i hC)
  | sl sz n get p r h hp =>
    refine .sl sz n get p r (h.mono e.K) ?_
    cases p with
    | none => trivial
    | nil E => exact hp
    | tok q => exact ⟨e.C q hp.1, hp.2.trans (e.ρ q hp.1).symm⟩
    | own E => trivial
    | nn => exact hp
    | nl => exact hp
  | agg l cs hl h1 _ ih => exact .agg l cs hl h1 ih
  | tup l cs hl _ ih => exact .tup l cs hl ih
  | clo f l cs hl _ ih => exact .clo f l cs hl ih
  | slm sz i off n hC => rw [← e.σ i hC]; exact .slm sz i off n (e.C i hC)

/-- Where a function began; the blocks that were handed over to it; which of its own places stand for which block from the beginning. -/
structure W0 where
  w : World
  F : Nat → Prop
  A : Nat → Nat → Prop
def W0.mine (w0 : W0) (b : Nat) : Prop := w0.F b ∨ w0.w.heap.size ≤ b
/-- All else is as it was. -/
structure Off (w0 : W0) (w : World) : Prop where
  os : w.os = w0.w.os
  tape : w.tape = w0.w.tape
  output : w.output = w0.w.output
  size : w0.w.heap.size ≤ w.heap.size
  block : ∀ k, k < w0.w.heap.size → ¬ w0.F k → w.heap[k]? = w0.w.heap[k]?
theorem Off.refl (w0 : W0) : Off w0 w0.w := ⟨rfl, rfl, rfl, Nat.le_refl _, fun _ _ _ => rfl⟩
theorem Off.grow {w0 : W0} {w w' : World} (h : Off w0 w) (hb : Below w.heap.size w w') : Off w0 w' :=
  ⟨hb.os.trans h.os, hb.tape.trans h.tape, hb.output.trans h.output, Nat.le_trans h.size hb.size, fun k hk hF => (hb.block k (Nat.lt_of_lt_of_le hk h.size)).trans (h.block k hk hF)⟩
/-- An owner's value: nil, or a row of its own whose cells behind its length are not kept. -/
def Own (w0 : W0) (tb : Tb) (g : G) (w : World) (E : TypeId) (r : Value) : Prop :=
  r = .slice none 0 0 ∨ ∃ b n cap cur ti, r = .slice (some ⟨b, 0, none⟩) n cap ∧ w0.mine b ∧ w.heap[b]? = some (.cells cur E (0, 0)) ∧ n ≤ cap ∧ cap ≤ maxLen ∧
    tb E = some ti ∧ cur.size = cap * ti.size ∧ ∀ o, n * ti.size ≤ o → ¬ g.K b o

/-- The evaluator's state and the real one. -/
structure RS (w0 : W0) (K0 : Nat → Nat → Prop) (tb : Tb) (t : List D) (lk : Nat → Option Bx) (g : G) (a : Act) (w : World) : Prop where
  len : a.tmps.size = t.length
  tm : ∀ i d, t[i]? = some d → VR g w d (a.tmps.getD i undef)
  df : a.defers = []
  bx : ∀ i c T, lk i = some (.cells c T) → g.C i ∧ w0.mine (g.σ i) ∧ (∀ o, ¬ g.K (g.σ i) o) ∧
    ∃ cs : Array Value, w.heap[g.σ i]? = some (.cells cs T (0, 0)) ∧ cs.size = c.length ∧ (∀ j, j < c.length → oneC (cs.getD j undef) = true) ∧ ∀ j d, c[j]? = some d → VR g w d (cs.getD j undef)
  bd : ∀ i j c T c' T', lk i = some (.cells c T) → lk j = some (.cells c' T') → g.σ i = g.σ j → i = j
  tk : ∀ q E, lk q = some (.tok E) → g.C q ∧ Own w0 tb g w E (g.ρ q)
  td : ∀ q E i c T, lk q = some (.tok E) → lk i = some (.cells c T) → (g.ρ q).ownBlock ≠ some (g.σ i)
  tt : ∀ q q' E E' b, lk q = some (.tok E) → lk q' = some (.tok E') → (g.ρ q).ownBlock = some b → (g.ρ q').ownBlock = some b → q = q'
  dd : ∀ i, lk i = some .dead → g.C i
  kb : ∀ b o, g.K b o → b < w.heap.size
  k0 : ∀ b o, K0 b o → g.K b o
  k1 : ∀ b o, g.K b o → K0 b o ∨ w0.mine b
  kv : ∀ b o, K0 b o → w.cell? ⟨b, o, none⟩ = w0.w.cell? ⟨b, o, none⟩
  ar : ∀ i b, w0.A i b → g.C i ∧ g.σ i = b
  ext : Off w0 w

/-- The ghost of a function that begins: nothing is its own. -/
def G.pure (K : Nat → Nat → Prop) : G := ⟨fun _ => False, fun _ => 0, fun _ => undef, K⟩

/-- What is asked of a function that is called. -/
def Callable (P : Program) (f : FuncId) : Prop := ∃ fn, P.funcs[f]? = some fn ∧ fn.body.isSome = true ∧ (fn.name == "runtime.NumGoroutine") = false

/-- Variables of the program's own or of the library's: each is kept, and what it holds is as told. -/
abbrev Gls := List (Nat × (Value → Prop))
def Gl (gl : Gls) (K : Nat → Nat → Prop) (w : World) : Prop := ∀ x ∈ gl, K x.1 0 ∧ ∃ v, w.cell? ⟨x.1, 0, none⟩ = some v ∧ x.2 v

def Spec (P : Program) (gl : Gls) (f : FuncId) (args : List D) (d : D) : Prop :=
  ∀ (K : Nat → Nat → Prop) (w : World) (rs : Array Value), Gl gl K w → (∀ b o, K b o → b < w.heap.size) → rs.size = args.length → (∀ i d, args[i]? = some d → KR K w d (rs.getD i undef)) →
    Calls P f rs w fun e w' => ∃ r K', e = .returned r ∧ (∀ b o, K b o → K' b o) ∧ (∀ b o, K' b o → K b o ∨ w.heap.size ≤ b) ∧ (∀ b o, K' b o → b < w'.heap.size) ∧ KR K' w' d r ∧ Below w.heap.size w w'

/-- An owner's value, on its own. -/
def OwnX (tb : Tb) (K : Nat → Nat → Prop) (w : World) (E : TypeId) (r : Value) : Prop :=
  r = .slice none 0 0 ∨ ∃ b n cap cur ti, r = .slice (some ⟨b, 0, none⟩) n cap ∧ w.heap[b]? = some (.cells cur E (0, 0)) ∧ n ≤ cap ∧ cap ≤ maxLen ∧
    tb E = some ti ∧ cur.size = cap * ti.size ∧ ∀ o, n * ti.size ≤ o → ¬ K b o
/-- What goes over to a function, or comes back: the blocks that go with it in the last place; as: the arguments. -/
inductive XR (tb : Tb) (K : Nat → Nat → Prop) (w : World) (as : List Value) : D → Value → List Nat → Prop
  | kr (d : D) (r : Value) (h : KR K w d r) : XR tb K w as d r []
  | argp (j : Nat) (r : Value) (h : as[j]? = some r) : XR tb K w as (.argp j) r []
  | box (T : TypeId) (c : List D) (b : Nat) (cs : Array Value) (Ls : Nat → List Nat) (hh : w.heap[b]? = some (.cells cs T (0, 0))) (hs : cs.size = c.length) (h1 : ∀ j, j < c.length → oneC (cs.getD j undef) = true)
      (hK : ∀ o, ¬ K b o) (hc : ∀ j d, c[j]? = some d → XR tb K w as d (cs.getD j undef) (Ls j)) : XR tb K w as (.box T c) (.pointer (some ⟨b, 0, none⟩)) (b :: (List.range c.length).flatMap Ls)
  | row (sz n : Nat) (T : TypeId) (c : List D) (b : Nat) (cs : Array Value) (hh : w.heap[b]? = some (.cells cs T (0, 0))) (hs : cs.size = c.length) (h1 : ∀ j, j < c.length → oneC (cs.getD j undef) = true)
      (hK : ∀ o, ¬ K b o) (hc : ∀ j d, c[j]? = some d → KR K w d (cs.getD j undef)) : XR tb K w as (.row sz n T c) (.slice (some ⟨b, 0, none⟩) n n) [b]
  | own (sz n : Nat) (get : Nat → List D) (E : TypeId) (r : Value) (h : KR K w (.sl sz n get .none) r) (ho : OwnX tb K w E r) : XR tb K w as (.sl sz n get (.own E)) r r.ownBlock.toList
  | agg (l : List D) (cs : Array Value) (Ls : Nat → List Nat) (hl : cs.size = l.length) (h1 : ∀ j, j < l.length → oneC (cs.getD j undef) = true) (hc : ∀ j d, l[j]? = some d → XR tb K w as d (cs.getD j undef) (Ls j)) :
      XR tb K w as (.agg l) (.agg cs) ((List.range l.length).flatMap Ls)
  | tup (l : List D) (cs : Array Value) (Ls : Nat → List Nat) (hl : cs.size = l.length) (hc : ∀ j d, l[j]? = some d → XR tb K w as d (cs.getD j undef) (Ls j)) :
      XR tb K w as (.tup l) (.tuple cs) ((List.range l.length).flatMap Ls)
  | clo (f : FuncId) (l : List D) (cs : Array Value) (Ls : Nat → List Nat) (hl : cs.size = l.length) (hc : ∀ j d, l[j]? = some d → XR tb K w as d (cs.getD j undef) (Ls j)) :
      XR tb K w as (.clo f l) (.func (.func f) #[] cs) ((List.range l.length).flatMap Ls)
/-- Several, one behind the other. -/
inductive XRs (tb : Tb) (K : Nat → Nat → Prop) (w : World) (as : List Value) : List D → List Value → List Nat → Prop
  | nil : XRs tb K w as [] [] []
  | cons {d : D} {r : Value} {L M : List Nat} {l : List D} {rs : List Value} (h : XR tb K w as d r L) (hl : XRs tb K w as l rs M) : XRs tb K w as (d :: l) (r :: rs) (L ++ M)
/-- A function that may be handed places over: what it gives, and what the arguments' places hold then. -/
def SpecX (P : Program) (gl : Gls) (tb : Tb) (f : FuncId) (args : List D) (d : D) (ys : List D) : Prop :=
  ∀ (K : Nat → Nat → Prop) (w : World) (rs : List Value) (L : List Nat), Gl gl K w → (∀ b o, K b o → b < w.heap.size) → XRs tb K w [] args rs L → L.Nodup →
    Calls P f rs.toArray w fun e w' => ∃ r K' L', e = .returned r ∧ (∀ b o, K b o → K' b o ∧ w'.cell? ⟨b, o, none⟩ = w.cell? ⟨b, o, none⟩) ∧ (∀ b o, K' b o → K b o ∨ b ∈ L ∨ w.heap.size ≤ b) ∧ (∀ b o, K' b o → b < w'.heap.size) ∧
      XRs tb K' w' rs (d :: ys) (r :: rs) L' ∧ L'.Nodup ∧ (∀ b ∈ L', b ∈ L ∨ w.heap.size ≤ b) ∧
      w'.os = w.os ∧ w'.tape = w.tape ∧ w'.output = w.output ∧ w.heap.size ≤ w'.heap.size ∧ ∀ k, k < w.heap.size → k ∉ L → w'.heap[k]? = w.heap[k]?

structure EnvOk (P : Program) (gl : Gls) (tb : Tb) (env : Env) : Prop where
  p : ∀ f args d, env.p f args = some (true, d) → Callable P f ∧ Spec P gl f args d
  x : ∀ f e, lookX env.x f = some e → Callable P f ∧ ∀ args d ys, e args = some (true, d, ys) → SpecX P gl tb f args d ys
/-- In a function that began in w0. -/
def EnvAt (P : Program) (tb : Tb) (env : Env) (w0 : W0) (K0 : Nat → Nat → Prop) : Prop := ∃ gl, Gl gl K0 w0.w ∧ EnvOk P gl tb env

/-! ## Small lemmas -/
theorem getD_of {cs : Array Value} {i : Nat} {v : Value} (h : cs[i]? = some v) : cs.getD i undef = v := by simp [h]

theorem VR.int {g : G} {w : World} {k : IntKind} {n : Int} {r : Value} (h : VR g w (.v (.int k n)) r) : r = .int k n := by cases h with | kr _ _ h => cases h; rfl
theorem VR.val {g : G} {w : World} {x r : Value} (h : VR g w (.v x) r) : r = x := by cases h with | kr _ _ h => cases h; rfl
theorem VR.v {g : G} {w : World} (x : Value) (hx : okV x = true := by rfl) : VR g w (.v x) x := .kr _ _ (.v x hx)
theorem VR.okv {g : G} {w : World} {x r : Value} (h : VR g w (.v x) r) : okV x = true := by cases h with | kr _ _ h => cases h; assumption
theorem okD_ok {g : G} {w : World} (x : Value) : VR g w (okD x) x := by
  unfold okD
  split
  · rename_i h; exact .v x h
  · exact .kr _ _ (.no x)
theorem VR.no {g : G} {w : World} (x : Value) : VR g w .no x := .kr _ _ (.no x)

theorem VR.isAgg {g : G} {w : World} {l : List D} {r : Value} (h : VR g w (.agg l) r) :
    ∃ cs : Array Value, r = .agg cs ∧ cs.size = l.length ∧ (∀ i, i < l.length → oneC (cs.getD i undef) = true) ∧ ∀ i d, l[i]? = some d → VR g w d (cs.getD i undef) := by
  cases h with
  | kr _ _ h => cases h with | agg _ cs hl h1 hc => exact ⟨cs, rfl, hl, h1, fun i d hd => .kr _ _ (hc i d hd)⟩
  | agg _ cs hl h1 hc => exact ⟨cs, rfl, hl, h1, hc⟩
theorem VR.isTup {g : G} {w : World} {l : List D} {r : Value} (h : VR g w (.tup l) r) :
    ∃ cs : Array Value, r = .tuple cs ∧ cs.size = l.length ∧ ∀ i d, l[i]? = some d → VR g w d (cs.getD i undef) := by
  cases h with
  | kr _ _ h => cases h with | tup _ cs hl hc => exact ⟨cs, rfl, hl, fun i d hd => .kr _ _ (hc i d hd)⟩
  | tup _ cs hl hc => exact ⟨cs, rfl, hl, hc⟩
theorem VR.isLoc {g : G} {w : World} {i off : Nat} {r : Value} (h : VR g w (.loc i off) r) : g.C i ∧ r = .pointer (some ⟨g.σ i, off, none⟩) := by
  cases h with
  | kr _ _ h => cases h
  | loc _ _ hC => exact ⟨hC, rfl⟩
theorem VR.isSl {g : G} {w : World} {sz n : Nat} {get : Nat → List D} {p : Pm} {r : Value} (h : VR g w (.sl sz n get p) r) : KR g.K w (.sl sz n get .none) r ∧ PermOk g p r := by
  cases h with
  | kr _ _ h => cases h with
    | sl _ _ _ b off cap f hn hl hk hc => exact ⟨.sl sz n get b off cap f hn hl hk hc, trivial⟩
    | sl0 _ _ a cap => exact ⟨.sl0 sz get a cap, trivial⟩
  | sl _ _ _ _ _ h hp => exact ⟨h, hp⟩
theorem VR.isClo {g : G} {w : World} {f : FuncId} {l : List D} {r : Value} (h : VR g w (.clo f l) r) :
    ∃ cs : Array Value, r = .func (.func f) #[] cs ∧ cs.size = l.length ∧ ∀ i d, l[i]? = some d → VR g w d (cs.getD i undef) := by
  cases h with
  | kr _ _ h => cases h
  | clo _ _ cs hl hc => exact ⟨cs, rfl, hl, hc⟩
theorem VR.isSlm {g : G} {w : World} {sz i off n : Nat} {r : Value} (h : VR g w (.slm sz i off n) r) : g.C i ∧ r = .slice (some ⟨g.σ i, off * sz, none⟩) n n := by
  cases h with
  | kr _ _ h => cases h
  | slm _ _ _ _ hC => exact ⟨hC, rfl⟩
theorem VR.isRef {g : G} {w : World} {l : List D} {r : Value} (h : VR g w (.ref l) r) : KR g.K w (.ref l) r := by
  cases h with
  | kr _ _ h => exact h

theorem kp0_ok {g : G} {w : World} {d : D} {r : Value} (h : VR g w d r) : KR g.K w (kp0 d) r := by
  cases h with
  | kr _ _ h => cases h with
    | v _ hx => exact .v _ hx
    | no _ => exact .no _
    | agg l cs => exact .no _
    | tup l cs => exact .no _
    | ref l b off f hk hc => exact .ref l b off f hk hc
    | sl sz n get b off cap f hn hl hk hc => exact .sl sz n get b off cap f hn hl hk hc
    | sl0 sz get a cap => exact .sl0 sz get a cap
  | loc i off _ => exact .no _
  | sl sz n get p r h _ => exact h
  | agg l cs => exact .no _
  | tup l cs => exact .no _
  | clo f l cs => exact .no _
  | slm sz i off n => exact .no _
theorem kp1_ok {g : G} {w : World} {d : D} {r : Value} (h : VR g w d r) : KR g.K w (kp1 d) r := by
  cases d with
  | agg l =>
    obtain ⟨cs, rfl, hl, h1, hc⟩ := h.isAgg
    refine .agg _ cs (by simpa using hl) (fun i hi => h1 i (by simpa using hi)) (fun i d hd => ?_)
    simp only [List.getElem?_map, Option.map_eq_some_iff] at hd
    obtain ⟨d', hd', rfl⟩ := hd
    exact kp0_ok (hc i d' hd')
  | _ => exact kp0_ok h
theorem kp2_ok {g : G} {w : World} {d : D} {r : Value} (h : VR g w d r) : KR g.K w (kp2 d) r := by
  cases d with
  | tup l =>
    obtain ⟨cs, rfl, hl, hc⟩ := h.isTup
    refine .tup _ cs (by simpa using hl) (fun i d hd => ?_)
    simp only [List.getElem?_map, Option.map_eq_some_iff] at hd
    obtain ⟨d', hd', rfl⟩ := hd
    exact kp1_ok (hc i d' hd')
  | _ => exact kp1_ok h

theorem oneC_eq (v : Value) : oneC v = v.oneCell' := by cases v <;> rfl

/-- A value's cells, and theirs. -/
theorem cellsOf_ok {g : G} {w : World} {d : D} {r : Value} {c : List D} (h : VR g w d r) (hc : cellsOf d = some c) :
    r.cells.size = c.length ∧ (∀ i, i < c.length → oneC (r.cells.getD i undef) = true) ∧ ∀ i e, c[i]? = some e → VR g w e (r.cells.getD i undef) := by
  have one : ∀ (d : D) (r : Value), VR g w d r → oneC r = true → r.cells.size = [d].length ∧ (∀ i, i < [d].length → oneC (r.cells.getD i undef) = true) ∧ ∀ i e, [d][i]? = some e → VR g w e (r.cells.getD i undef) := by
    intro d r hv ho
    have hr : r.cells = #[r] := by cases r <;> first | rfl | simp [oneC] at ho
    rw [hr]
    refine ⟨rfl, fun i hi => ?_, fun i e he => ?_⟩
    · have : i = 0 := by simpa using hi
      subst this; simpa using ho
    · cases i with
      | zero => simp at he; subst he; simpa using hv
      | succ i => simp at he
  cases d with
  | v x =>
    simp only [cellsOf] at hc
    split at hc
    · rename_i ho
      cases hc
      have := h.val
      subst this
      exact one _ _ h ho
    · cases hc
  | agg l =>
    cases hc
    obtain ⟨cs, rfl, hl, h1, hcc⟩ := h.isAgg
    exact ⟨hl, h1, hcc⟩
  | tup l => cases hc
  | sl sz n get p =>
    cases hc
    refine one _ _ h ?_
    obtain ⟨h, _⟩ := h.isSl
    cases h <;> rfl
  | loc i off =>
    cases hc
    obtain ⟨_, rfl⟩ := h.isLoc
    exact one _ _ h rfl
  | ref l =>
    cases hc
    have := h.isRef
    cases this
    exact one _ _ h rfl
  | no => cases hc
  | box T c => cases hc
  | argp j => cases hc
  | clo f l =>
    cases hc
    obtain ⟨cs, rfl, _⟩ := h.isClo
    exact one _ _ h rfl
  | row sz n T c => cases hc
  | slm sz i off n =>
    cases hc
    obtain ⟨_, rfl⟩ := h.isSlm
    exact one _ _ h rfl

/-- A run of cells as a value of a type. -/
theorem ofCells_ok {g : G} {w : World} {l : List D} {size : Nat} {d : D} {agg : Bool} (f : Nat → Value) (hf : ∀ (i : Nat) (e : D), l[i]? = some e → VR g w e (f i)) (h1 : ∀ i, i < l.length → oneC (f i) = true)
    (h : ofCells agg size l = some d) :
    (agg = true → size ≤ l.length ∧ ∃ cs : Array Value, cs.size = size ∧ (∀ i, i < size → cs[i]? = some (f i)) ∧ VR g w d (.agg cs)) ∧ (agg = false → 0 < l.length ∧ VR g w d (f 0)) := by
  cases agg with
  | true =>
    refine ⟨fun _ => ?_, fun e => by cases e⟩
    simp only [ofCells] at h
    split at h
    · rename_i hb
      cases h
      have hle : size ≤ l.length := Nat.le_of_ble_eq_true hb
      refine ⟨hle, ((List.range size).map f).toArray, by simp, fun i hi => by simp [hi], ?_⟩
      refine .agg _ _ (by simp; omega) (fun i hi => ?_) (fun i d hd => ?_)
      · have : i < size := by simp at hi; omega
        simp [this, h1 i (by omega)]
      · rw [List.getElem?_take] at hd
        split at hd
        · rename_i hi
          simp [hi]
          exact hf i d hd
        · cases hd
    · cases h
  | false =>
    refine ⟨fun e => (by cases e), fun _ => ?_⟩
    simp only [ofCells] at h
    cases l with
    | nil => cases h
    | cons e l =>
      cases h
      exact ⟨by simp, hf 0 _ rfl⟩

end Go.Ev
namespace Go.Ev
open Go Go.RowKit

theorem Ext.refl (g : G) (w : World) : Ext g g w w := ⟨fun _ h => h, fun _ _ => rfl, fun _ _ => rfl, fun _ _ h => ⟨h, rfl⟩⟩
theorem Ext.trans {a b c : G} {u v w : World} (h : Ext a b u v) (k : Ext b c v w) : Ext a c u w :=
  ⟨fun i hi => k.C i (h.C i hi), fun i hi => (k.σ i (h.C i hi)).trans (h.σ i hi), fun i hi => (k.ρ i (h.C i hi)).trans (h.ρ i hi),
   fun b o hK => let ⟨h1, h2⟩ := h.K b o hK; let ⟨h3, h4⟩ := k.K b o h1; ⟨h3, h4.trans h2⟩⟩

theorem cell_of_below {B : Nat} {w w' : World} (hb : Below B w w') {b o : Nat} (h : b < B) : w'.cell? ⟨b, o, none⟩ = w.cell? ⟨b, o, none⟩ := hb.cell (p := ⟨b, o, none⟩) h

theorem Off.set {w0 : W0} {w : World} (h : Off w0 w) {b : Nat} (hm : w0.mine b) (cs : Array Value) : Off w0 (w.setRow b cs) :=
  ⟨h.os, h.tape, h.output, by rw [setRow_size]; exact h.size, fun k hk hF => (setRow_other w b k cs (by
    rcases hm with hm | hm
    · intro e; subst e; exact hF hm
    · omega)).trans (h.block k hk hF)⟩
section
variable {w0 : W0} {K0 : Nat → Nat → Prop} {tb : Tb} {t : List D} {lk : Nat → Option Bx} {g : G} {a : Act} {w : World}

theorem RS.ev (h : RS w0 K0 tb t lk g a w) (x : Operand) : VR g w (ev t x) (a.eval x) := by
  cases x with
  | tmp i =>
    show VR g w (t.getD i .no) (a.tmps.getD i undef)
    cases hd : t[i]? with
    | none => rw [List.getD_eq_getElem?_getD, hd]; exact .no _
    | some d => rw [List.getD_eq_getElem?_getD, hd]; exact h.tm i d hd
  | const c =>
    show VR g w (constD c) c
    unfold constD
    split
    · exact .kr _ _ (.sl0 0 _ none 0)
    · exact okD_ok _
  | global n => exact .no _
  | func f => exact .v _

theorem RS.evx (h : RS w0 K0 tb t lk g a w) (ty : TypeId) (x : Operand) : VR g w (evx tb ty t x) (a.eval x) := by
  cases x with
  | tmp i => exact h.ev (.tmp i)
  | const c =>
    show VR g w (constT tb ty c) c
    unfold constT
    split
    · split
      · split
        · exact .sl _ _ _ _ _ (.sl0 _ _ none 0) rfl
        · exact .kr _ _ (.sl0 0 _ none 0)
      · exact .kr _ _ (.sl0 0 _ none 0)
    · exact okD_ok _
  | global n => exact .no _
  | func f => exact .v _

/-- Arguments. -/
theorem evL_len : ∀ (Ts : List TypeId) (xs : List Operand), (evL tb t Ts xs).length = xs.length
  | _ :: Ts, _ :: xs => by simp [evL, evL_len Ts xs]
  | [], [] => rfl
  | _ :: _, [] => rfl
  | [], _ :: xs => by simp [evL, evL_len [] xs]
theorem RS.evL (h : RS w0 K0 tb t lk g a w) : ∀ (Ts : List TypeId) (xs : List Operand) (i : Nat) (d : D), (evL tb t Ts xs)[i]? = some d → ∃ x, xs[i]? = some x ∧ VR g w d (a.eval x)
  | _ :: Ts, x :: xs, 0, d, hd => by simp only [Go.Ev.evL, List.getElem?_cons_zero, Option.some.injEq] at hd; subst hd; exact ⟨x, rfl, h.evx _ x⟩
  | _ :: Ts, x :: xs, i + 1, d, hd => by simpa using h.evL Ts xs i d (by simpa [Go.Ev.evL] using hd)
  | [], x :: xs, 0, d, hd => by simp only [Go.Ev.evL, List.getElem?_cons_zero, Option.some.injEq] at hd; subst hd; exact ⟨x, rfl, h.ev x⟩
  | [], x :: xs, i + 1, d, hd => by simpa using h.evL [] xs i d (by simpa [Go.Ev.evL] using hd)
  | [], [], i, d, hd => by simp [Go.Ev.evL] at hd
  | _ :: _, [], i, d, hd => by simp [Go.Ev.evL] at hd

/-- A value put into a temporary. -/
theorem RS.put (h : RS w0 K0 tb t lk g a w) (dst : Option Tmp) {d : D} {r : Value} (hv : VR g w d r) :
    RS w0 K0 tb (match dst with | some i => t.set i d | none => t) lk g (a.put dst r) w := by
  cases dst with
  | none => exact h
  | some i =>
    refine { h with len := by simpa [Act.put] using h.len, tm := fun j e he => ?_, df := h.df }
    simp only at he
    show VR g w e ((a.tmps.setIfInBounds i r).getD j undef)
    by_cases hij : i = j
    · subst hij
      rw [List.getElem?_set_self' ] at he
      cases ht : t[i]? with
      | none => simp [ht] at he
      | some x =>
        simp [ht] at he
        subst he
        have hi : i < a.tmps.size := by rw [h.len]; exact (List.getElem?_eq_some_iff.1 ht).1
        simp [Array.getElem?_setIfInBounds_self_of_lt hi]
        exact hv
    · rw [List.getElem?_set_ne hij] at he
      have := h.tm j e he
      simpa [Array.getElem?_setIfInBounds_ne hij] using this

/-- Blocks that are new, nothing else: with what is known of them. -/
theorem RS.grow (h : RS w0 K0 tb t lk g a w) {g' : G} {w' : World} (hb : Below w.heap.size w w') (he : Ext g g' w w')
    (hk1 : ∀ b o, g'.K b o → g.K b o ∨ w.heap.size ≤ b) (hkb : ∀ b o, g'.K b o → b < w'.heap.size) : RS w0 K0 tb t lk g' a w' where
  len := h.len
  tm i d hd := (h.tm i d hd).mono he
  df := h.df
  bx i c T hi := by
    obtain ⟨hC, h0, hK, cs, h1, h2, h3, h4⟩ := h.bx i c T hi
    have hlt : g.σ i < w.heap.size := (Array.getElem?_eq_some_iff.1 h1).1
    rw [he.σ i hC]
    refine ⟨he.C i hC, h0, fun o hc => ?_, cs, (hb.block _ hlt).trans h1, h2, h3, fun j d hd => (h4 j d hd).mono he⟩
    rcases hk1 _ _ hc with hc | hc
    · exact hK o hc
    · omega
  bd i j c T c' T' hi hj e := by
    rw [he.σ i (h.bx i c T hi).1, he.σ j (h.bx j c' T' hj).1] at e
    exact h.bd i j c T c' T' hi hj e
  tk q E hq := by
    obtain ⟨hC, ho⟩ := h.tk q E hq
    refine ⟨he.C q hC, ?_⟩
    rw [he.ρ q hC]
    rcases ho with ho | ⟨b, n, cap, cur, ti, h1, h2, h3, h4, h5, h6, h7, h8⟩
    · exact .inl ho
    · have hlt : b < w.heap.size := (Array.getElem?_eq_some_iff.1 h3).1
      refine .inr ⟨b, n, cap, cur, ti, h1, h2, (hb.block _ hlt).trans h3, h4, h5, h6, h7, fun o ho hc => ?_⟩
      rcases hk1 _ _ hc with hc | hc
      · exact h8 o ho hc
      · omega
  td q E i c T hq hi := by
    rw [he.ρ q (h.tk q E hq).1, he.σ i (h.bx i c T hi).1]
    exact h.td q E i c T hq hi
  tt q q' E E' b hq hq' e e' := by
    rw [he.ρ q (h.tk q E hq).1] at e
    rw [he.ρ q' (h.tk q' E' hq').1] at e'
    exact h.tt q q' E E' b hq hq' e e'
  dd i hi := he.C i (h.dd i hi)
  kb := hkb
  k0 b o hk := (he.K b o (h.k0 b o hk)).1
  k1 b o hk := by
    rcases hk1 b o hk with hk | hk
    · exact h.k1 b o hk
    · exact .inr (.inr (Nat.le_trans h.ext.size hk))
  kv b o hk := (he.K b o (h.k0 b o hk)).2.trans (h.kv b o hk)
  ar i b hA := ⟨he.C i (h.ar i b hA).1, (he.σ i (h.ar i b hA).1).trans (h.ar i b hA).2⟩
  ext := h.ext.grow hb

/-- One entry of the evaluator's own is told anew: a box. -/
theorem RS.addBox (h : RS w0 K0 tb t lk g a w) {id : Nat} {c : List D} {T : TypeId} {cs : Array Value} (hC : g.C id) (h0 : w0.mine (g.σ id)) (hK : ∀ o, ¬ g.K (g.σ id) o)
    (h1 : w.heap[g.σ id]? = some (.cells cs T (0, 0))) (h2 : cs.size = c.length) (h3 : ∀ j, j < c.length → oneC (cs.getD j undef) = true) (h4 : ∀ j d, c[j]? = some d → VR g w d (cs.getD j undef))
    (h5 : ∀ i c T, lk i = some (.cells c T) → i ≠ id → g.σ i ≠ g.σ id) (h6 : ∀ q E, lk q = some (.tok E) → q ≠ id → (g.ρ q).ownBlock ≠ some (g.σ id)) :
    RS w0 K0 tb t (fun j => if id = j then some (.cells c T) else lk j) g a w where
  len := h.len
  tm := h.tm
  df := h.df
  bx i c' T' hi := by
    by_cases e : id = i
    · subst e
      simp only [if_true] at hi
      cases hi
      exact ⟨hC, h0, hK, cs, h1, h2, h3, h4⟩
    · simp only [e, if_false] at hi
      exact h.bx i c' T' hi
  bd i j c1 T1 c2 T2 hi hj e := by
    by_cases e1 : id = i <;> by_cases e2 : id = j
    · exact e1.symm.trans e2
    · simp only [e2, if_false] at hj
      subst e1
      exact absurd e.symm (h5 j c2 T2 hj (Ne.symm e2))
    · simp only [e1, if_false] at hi
      subst e2
      exact absurd e (h5 i c1 T1 hi (Ne.symm e1))
    · simp only [e1, e2, if_false] at hi hj
      exact h.bd i j c1 T1 c2 T2 hi hj e
  tk q E hq := by
    by_cases e : id = q
    · simp [e] at hq
    · simp only [e, if_false] at hq
      exact h.tk q E hq
  td q E i c' T' hq hi := by
    by_cases e : id = q
    · simp [e] at hq
    · simp only [e, if_false] at hq
      by_cases e' : id = i
      · subst e'; exact h6 q E hq (Ne.symm e)
      · simp only [e', if_false] at hi
        exact h.td q E i c' T' hq hi
  tt q q' E E' b hq hq' := by
    by_cases e : id = q
    · simp [e] at hq
    · by_cases e' : id = q'
      · simp [e'] at hq'
      · simp only [e, e', if_false] at hq hq'
        exact h.tt q q' E E' b hq hq'
  dd i hi := by
    by_cases e : id = i
    · simp [e] at hi
    · simp only [e, if_false] at hi; exact h.dd i hi
  kb := h.kb
  k0 := h.k0
  k1 := h.k1
  kv := h.kv
  ar := h.ar
  ext := h.ext

/-- A permission. -/
theorem RS.addTok (h : RS w0 K0 tb t lk g a w) {id : Nat} {E : TypeId} (hC : g.C id) (ho : Own w0 tb g w E (g.ρ id))
    (h5 : ∀ i c T, lk i = some (.cells c T) → i ≠ id → (g.ρ id).ownBlock ≠ some (g.σ i)) (h6 : ∀ q E b, lk q = some (.tok E) → q ≠ id → (g.ρ q).ownBlock = some b → (g.ρ id).ownBlock ≠ some b) :
    RS w0 K0 tb t (fun j => if id = j then some (.tok E) else lk j) g a w where
  len := h.len
  tm := h.tm
  df := h.df
  bx i c' T' hi := by
    by_cases e : id = i
    · simp [e] at hi
    · simp only [e, if_false] at hi
      exact h.bx i c' T' hi
  bd i j c1 T1 c2 T2 hi hj e := by
    by_cases e1 : id = i
    · simp [e1] at hi
    · by_cases e2 : id = j
      · simp [e2] at hj
      · simp only [e1, e2, if_false] at hi hj
        exact h.bd i j c1 T1 c2 T2 hi hj e
  tk q E' hq := by
    by_cases e : id = q
    · subst e
      simp only [if_true] at hq
      cases hq
      exact ⟨hC, ho⟩
    · simp only [e, if_false] at hq
      exact h.tk q E' hq
  td q E' i c' T' hq hi := by
    by_cases e' : id = i
    · simp [e'] at hi
    · simp only [e', if_false] at hi
      by_cases e : id = q
      · subst e; exact h5 i c' T' hi (Ne.symm e')
      · simp only [e, if_false] at hq
        exact h.td q E' i c' T' hq hi
  tt q q' E1 E2 b hq hq' hb hb' := by
    by_cases e : id = q <;> by_cases e' : id = q'
    · exact e.symm.trans e'
    · simp only [e', if_false] at hq'
      subst e
      exact absurd hb (h6 q' E2 b hq' (Ne.symm e') hb')
    · simp only [e, if_false] at hq
      subst e'
      exact absurd hb' (h6 q E1 b hq (Ne.symm e) hb)
    · simp only [e, e', if_false] at hq hq'
      exact h.tt q q' E1 E2 b hq hq' hb hb'
  dd i hi := by
    by_cases e : id = i
    · simp [e] at hi
    · simp only [e, if_false] at hi; exact h.dd i hi
  kb := h.kb
  k0 := h.k0
  k1 := h.k1
  kv := h.kv
  ar := h.ar
  ext := h.ext

/-- Nothing is known any more of one entry. -/
theorem RS.kill (h : RS w0 K0 tb t lk g a w) (id : Nat) (hC : g.C id) : RS w0 K0 tb t (fun j => if id = j then some .dead else lk j) g a w where
  len := h.len
  tm := h.tm
  df := h.df
  bx i c' T' hi := by
    by_cases e : id = i
    · simp [e] at hi
    · simp only [e, if_false] at hi; exact h.bx i c' T' hi
  bd i j c1 T1 c2 T2 hi hj e := by
    by_cases e1 : id = i
    · simp [e1] at hi
    · by_cases e2 : id = j
      · simp [e2] at hj
      · simp only [e1, e2, if_false] at hi hj; exact h.bd i j c1 T1 c2 T2 hi hj e
  tk q E' hq := by
    by_cases e : id = q
    · simp [e] at hq
    · simp only [e, if_false] at hq; exact h.tk q E' hq
  td q E' i c' T' hq hi := by
    by_cases e' : id = i
    · simp [e'] at hi
    · by_cases e : id = q
      · simp [e] at hq
      · simp only [e, e', if_false] at hq hi; exact h.td q E' i c' T' hq hi
  tt q q' E1 E2 b hq hq' hb hb' := by
    by_cases e : id = q
    · simp [e] at hq
    · by_cases e' : id = q'
      · simp [e'] at hq'
      · simp only [e, e', if_false] at hq hq'; exact h.tt q q' E1 E2 b hq hq' hb hb'
  dd i hi := by
    by_cases e : id = i
    · exact e ▸ hC
    · simp only [e, if_false] at hi; exact h.dd i hi
  kb := h.kb
  k0 := h.k0
  k1 := h.k1
  kv := h.kv
  ar := h.ar
  ext := h.ext

theorem RS.congr (h : RS w0 K0 tb t lk g a w) {lk' : Nat → Option Bx} (e : ∀ i, lk' i = lk i) : RS w0 K0 tb t lk' g a w := by
  have : lk' = lk := funext e
  rw [this]; exact h

theorem look_cons (i : Nat) (b : Bx) (m : Mem) (j : Nat) : look ((i, b) :: m) j = if i = j then some b else look m j := by
  simp only [look]
  by_cases h : i = j
  · subst h; simp
  · have hb : Nat.beq i j = false := by
      cases hb : Nat.beq i j with
      | false => rfl
      | true => exact absurd (Nat.eq_of_beq_eq_true hb) h
    simp [h, hb]

/-- A store into a box. -/
theorem RS.store (h : RS w0 K0 tb t lk g a w) {i : Nat} {c c' : List D} {T : TypeId} {cs cs' : Array Value} (hi : lk i = some (.cells c T)) (h1 : w.heap[g.σ i]? = some (.cells cs T (0, 0)))
    (h2 : cs'.size = c'.length) (h3 : ∀ j, j < c'.length → oneC (cs'.getD j undef) = true) (h4 : ∀ j d, c'[j]? = some d → VR g w d (cs'.getD j undef)) :
    Ext g g w (w.setRow (g.σ i) cs') ∧ RS w0 K0 tb t (fun j => if i = j then some (.cells c' T) else lk j) g a (w.setRow (g.σ i) cs') := by
  obtain ⟨hC, h0, hK, _⟩ := h.bx i c T hi
  have hcell : ∀ b o, g.K b o → (w.setRow (g.σ i) cs').cell? ⟨b, o, none⟩ = w.cell? ⟨b, o, none⟩ := fun b o hk => cell_setRow_other w (g.σ i) cs' ⟨b, o, none⟩ (by
    rintro rfl
    exact hK _ hk)
  have he : Ext g g w (w.setRow (g.σ i) cs') := ⟨fun _ h => h, fun _ _ => rfl, fun _ _ => rfl, fun b o hk => ⟨hk, hcell b o hk⟩⟩
  refine ⟨he, ?_⟩
  have hmid : RS w0 K0 tb t (fun j => if i = j then some .dead else lk j) g a (w.setRow (g.σ i) cs') := by
    have hk := h.kill i hC
    exact {
      len := h.len
      tm := fun j d hd => (h.tm j d hd).mono he
      df := h.df
      bx := fun j c'' T'' hj => by
        obtain ⟨g1, g2, g3, cs'', g4, g5, g6, g7⟩ := hk.bx j c'' T'' hj
        have hij : i ≠ j := by intro e; simp [e] at hj
        simp only [hij, if_false] at hj
        refine ⟨g1, g2, g3, cs'', (setRow_other w (g.σ i) (g.σ j) cs' (fun e => hij (h.bd i j c T c'' T'' hi hj e.symm))).trans g4, g5, g6, fun k d hd => (g7 k d hd).mono he⟩
      bd := hk.bd
      tk := fun q E hq => by
        obtain ⟨g1, g2⟩ := hk.tk q E hq
        refine ⟨g1, ?_⟩
        have hiq : i ≠ q := by intro e; simp [e] at hq
        simp only [hiq, if_false] at hq
        rcases g2 with g2 | ⟨b, n, cap, cur, ti, e1, e2, e3, e4, e5, e6, e7, e8⟩
        · exact .inl g2
        · refine .inr ⟨b, n, cap, cur, ti, e1, e2, (setRow_other w (g.σ i) b cs' (fun e => ?_)).trans e3, e4, e5, e6, e7, e8⟩
          have := h.td q E i c T hq hi
          rw [e1] at this
          simp [Value.ownBlock, e] at this
      td := hk.td
      tt := hk.tt
      dd := hk.dd
      kb := fun b o hk => by rw [setRow_size]; exact h.kb b o hk
      k0 := h.k0
      k1 := h.k1
      kv := fun b o hk => (he.K b o (h.k0 b o hk)).2.trans (h.kv b o hk)
      ar := h.ar
      ext := h.ext.set h0 cs' }
  have := hmid.addBox (id := i) (c := c') (T := T) (cs := cs') hC h0 hK (setRow_heap w _ cs cs' T _ h1) h2 h3 (fun j d hd => (h4 j d hd).mono he)
    (fun j c'' T'' hj hne e => by
      simp only [Ne.symm hne, if_false] at hj
      exact hne (h.bd j i c'' T'' c T hj hi e))
    (fun q E hq hne => by
      simp only [Ne.symm hne, if_false] at hq
      exact h.td q E i c T hq hi)
  refine this.congr fun j => ?_
  by_cases e : i = j <;> simp [e]

/-- A new block that is a box. -/
theorem RS.alloc (h : RS w0 K0 tb t lk g a w) {id : Nat} (hid : ¬ g.C id) {c : List D} {T : TypeId} {cs : Array Value} (h2 : cs.size = c.length) (h3 : ∀ j, j < c.length → oneC (cs.getD j undef) = true)
    (h4 : ∀ j d, c[j]? = some d → VR g w d (cs.getD j undef)) :
    ∃ g' : G, Ext g g' w (w.alloc (.cells cs T)) ∧ (∀ i, g'.C i → g.C i ∨ i = id) ∧ g'.C id ∧ g'.σ id = w.heap.size ∧
      RS w0 K0 tb t (fun j => if id = j then some (.cells c T) else lk j) g' a (w.alloc (.cells cs T)) := by
  let g' : G := ⟨fun i => g.C i ∨ i = id, fun i => if i = id then w.heap.size else g.σ i, g.ρ, g.K⟩
  have hb : Below w.heap.size w (w.alloc (.cells cs T)) := (Below.refl _ _).alloc (Nat.le_refl _) _
  have he : Ext g g' w (w.alloc (.cells cs T)) := ⟨fun i hi => .inl hi, fun i hi => by
    have : i ≠ id := fun e => hid (e ▸ hi)
    simp [g', this], fun _ _ => rfl, fun b o hk => ⟨hk, cell_of_below hb (h.kb b o hk)⟩⟩
  have hg := h.grow hb he (fun b o hk => .inl hk) (fun b o hk => by have := h.kb b o hk; simp; omega)
  have hs : g'.σ id = w.heap.size := by simp [g']
  refine ⟨g', he, fun i hi => hi, .inr rfl, hs, ?_⟩
  refine hg.addBox (cs := cs) (.inr rfl) (by rw [hs]; exact .inr h.ext.size) (fun o hk => ?_) (by rw [hs]; exact heap_alloc_new w _) h2 h3 (fun j d hd => (h4 j d hd).mono he) (fun i c T hi hne e => ?_) (fun q E hq _ e => ?_)
  · rw [hs] at hk
    have := h.kb _ _ hk
    omega
  · obtain ⟨hC, _, _, cs', h1', _⟩ := h.bx i c T hi
    rw [hs, he.σ i hC] at e
    have := (Array.getElem?_eq_some_iff.1 h1').1
    omega
  · obtain ⟨hC, ho⟩ := h.tk q E hq
    rw [hs, he.ρ q hC] at e
    rcases ho with ho | ⟨b, n, cap, cur, ti, h1', _, h3', _⟩
    · rw [ho] at e; simp [Value.ownBlock] at e
    · rw [h1'] at e
      simp [Value.ownBlock] at e
      have := (Array.getElem?_eq_some_iff.1 h3').1
      omega

/-- A new row that is kept, with the permission to append to it. -/
theorem RS.row (h : RS w0 K0 tb t lk g a w) {id : Nat} (hid : ¬ g.C id) {w1 : World} (hb : Below w.heap.size w w1) {cs : Array Value} {E : TypeId} {ti : Ti} {n cap : Nat} {get : Nat → List D}
    (hT : tb E = some ti) (hsz : cs.size = cap * ti.size) (hn : n ≤ cap) (hcap : cap ≤ maxLen) (hh : w1.heap[w.heap.size]? = some (.cells cs E (0, 0)))
    (hl : ∀ i, i < n → (get i).length = ti.size) (h1 : ∀ i k, i < n → k < ti.size → oneC (cs.getD (i * ti.size + k) undef) = true)
    (hc : ∀ i k d, i < n → (get i)[k]? = some d → KR g.K w d (cs.getD (i * ti.size + k) undef)) :
    ∃ g' : G, Ext g g' w w1 ∧ (∀ i, g'.C i → g.C i ∨ i = id) ∧ VR g' w1 (.sl ti.size n get (.tok id)) (.slice (some ⟨w.heap.size, 0, none⟩) n cap) ∧
      RS w0 K0 tb t (fun j => if id = j then some (.tok E) else lk j) g' a w1 := by
  let r : Value := .slice (some ⟨w.heap.size, 0, none⟩) n cap
  let g' : G := ⟨fun i => g.C i ∨ i = id, g.σ, fun i => if i = id then r else g.ρ i, fun b o => g.K b o ∨ (b = w.heap.size ∧ o < n * ti.size)⟩
  have hlt1 : w.heap.size < w1.heap.size := (Array.getElem?_eq_some_iff.1 hh).1
  have he : Ext g g' w w1 := ⟨fun i hi => .inl hi, fun _ _ => rfl, fun i hi => by
    have : i ≠ id := fun e => hid (e ▸ hi)
    simp [g', this], fun b o hk => ⟨.inl hk, cell_of_below hb (h.kb b o hk)⟩⟩
  have hg := h.grow hb he (fun b o hk => hk.elim .inl fun ⟨e, _⟩ => .inr (by omega)) (fun b o hk => hk.elim (fun hk => by have := h.kb b o hk; omega) fun ⟨e, _⟩ => by omega)
  have hr : g'.ρ id = r := by simp [g']
  have hlt : ∀ i k, i < n → k < ti.size → i * ti.size + k < n * ti.size := fun i k hi hk => by
    calc i * ti.size + k < i * ti.size + ti.size := by omega
      _ = (i + 1) * ti.size := by rw [Nat.add_mul]; simp
      _ ≤ n * ti.size := Nat.mul_le_mul_right _ (by omega)
  refine ⟨g', he, fun i hi => hi, .sl _ _ _ _ _ ?_ ⟨.inr rfl, hr.symm⟩, ?_⟩
  · refine .sl ti.size n get w.heap.size 0 cap (fun i k => cs.getD (i * ti.size + k) undef) hn hl (fun i k hi hk => ⟨.inr ⟨rfl, by have := hlt i k hi hk; omega⟩, ?_, h1 i k hi hk⟩) (fun i k d hi hd => (hc i k d hi hd).mono he.K)
    have h2 := hlt i k hi hk
    have h3 : n * ti.size ≤ cap * ti.size := Nat.mul_le_mul_right _ hn
    rw [cell_of_row w1 _ _ cs E _ hh, Nat.zero_add]
    have : i * ti.size + k < cs.size := by omega
    simp [this]
  · refine hg.addTok (.inr rfl) ?_ (fun i c T hi _ e => ?_) (fun q E' b hq _ hb' e => ?_)
    · rw [hr]
      refine .inr ⟨w.heap.size, n, cap, cs, ti, rfl, .inr h.ext.size, hh, hn, hcap, hT, hsz, fun o ho hk => ?_⟩
      rcases hk with hk | ⟨_, hk⟩
      · have := h.kb _ _ hk; omega
      · omega
    · rw [hr] at e
      simp [r, Value.ownBlock] at e
      obtain ⟨hC, _, _, cs', h1', _⟩ := h.bx i c T hi
      have := (Array.getElem?_eq_some_iff.1 h1').1
      have e2 : g'.σ i = g.σ i := rfl
      omega
    · rw [hr] at e
      simp [r, Value.ownBlock] at e
      obtain ⟨hC, ho⟩ := h.tk q E' hq
      rw [he.ρ q hC] at hb'
      rcases ho with ho | ⟨b', n', cap', cur, ti', h1', _, h3', _⟩
      · rw [ho] at hb'; simp [Value.ownBlock] at hb'
      · rw [h1'] at hb'
        simp [Value.ownBlock] at hb'
        have := (Array.getElem?_eq_some_iff.1 h3').1
        omega

/-- A new row of kept cells. -/
theorem RS.keepRow (h : RS w0 K0 tb t lk g a w) {w1 : World} (hb : Below w.heap.size w w1) (hs : w.heap.size < w1.heap.size) {sz n cap : Nat} {get : Nat → List D} {f : Nat → Nat → Value} (hn : n ≤ cap)
    (hl : ∀ i, i < n → (get i).length = sz) (h1 : ∀ i k, i < n → k < sz → w1.cell? ⟨w.heap.size, i * sz + k, none⟩ = some (f i k) ∧ oneC (f i k) = true)
    (hc : ∀ i k d, i < n → (get i)[k]? = some d → KR g.K w d (f i k)) :
    ∃ g' : G, Ext g g' w w1 ∧ (∀ i, g'.C i → g.C i) ∧ KR g'.K w1 (.sl sz n get .none) (.slice (some ⟨w.heap.size, 0, none⟩) n cap) ∧ RS w0 K0 tb t lk g' a w1 := by
  let g' : G := ⟨g.C, g.σ, g.ρ, fun b o => g.K b o ∨ (b = w.heap.size ∧ o < n * sz)⟩
  have he : Ext g g' w w1 := ⟨fun i hi => hi, fun _ _ => rfl, fun i hi => rfl, fun b o hk => ⟨.inl hk, cell_of_below hb (h.kb b o hk)⟩⟩
  refine ⟨g', he, fun i hi => hi, ?_, h.grow hb he (fun b o hk => hk.elim .inl fun ⟨e, _⟩ => .inr (by omega)) (fun b o hk => hk.elim (fun hk => by have := h.kb b o hk; omega) fun ⟨e, _⟩ => by omega)⟩
  refine .sl sz n get w.heap.size 0 cap f hn hl (fun i k hi hk => ⟨.inr ⟨rfl, ?_⟩, ?_⟩) (fun i k d hi hd => (hc i k d hi hd).mono he.K)
  · calc 0 + i * sz + k < i * sz + sz := by omega
      _ = (i + 1) * sz := by rw [Nat.add_mul]; simp
      _ ≤ n * sz := Nat.mul_le_mul_right _ (by omega)
  · rw [Nat.zero_add]; exact h1 i k hi hk
end
end Go.Ev
namespace Go.Ev
open Go Go.RowKit

theorem divmod {i k s : Nat} (hk : k < s) : (i * s + k) / s = i ∧ (i * s + k) % s = k := by
  have h0 : 0 < s := by omega
  rw [Nat.mul_comm, Nat.mul_add_div h0, Nat.mul_add_mod, Nat.div_eq_of_lt hk, Nat.mod_eq_of_lt hk]
  exact ⟨by omega, rfl⟩
theorem idx_lt {i k n s : Nat} (hi : i < n) (hk : k < s) : i * s + k < n * s := by
  calc i * s + k < i * s + s := by omega
    _ = (i + 1) * s := by rw [Nat.add_mul]; simp
    _ ≤ n * s := Nat.mul_le_mul_right _ (by omega)
theorem div_lt' {j n s : Nat} (h : j < n * s) : j / s < n ∧ j % s < s ∧ j / s * s + j % s = j := by
  have h0 : 0 < s := by
    rcases Nat.eq_zero_or_pos s with e | e
    · subst e; simp at h
    · exact e
  exact ⟨(Nat.div_lt_iff_lt_mul h0).2 h, Nat.mod_lt _ h0, by rw [Nat.mul_comm]; exact Nat.div_add_mod j s⟩

/-- The cells of a kept slice that is not empty. -/
theorem KR.cells {K : Nat → Nat → Prop} {w : World} {sz n : Nat} {get : Nat → List D} {r : Value} (h : KR K w (.sl sz n get .none) r) (h0 : 0 < n) :
    ∃ (b off cap : Nat) (l : List Value), r = .slice (some ⟨b, off, none⟩) n cap ∧ n ≤ cap ∧ l.length = n * sz ∧ (∀ j u, l[j]? = some u → K b (off + j) ∧ w.cell? ((⟨b, off, none⟩ : Addr).add j) = some u) ∧
      (∀ u ∈ l, u.oneCell' = true) ∧ (∀ i, i < n → (get i).length = sz) ∧ ∀ i k d, i < n → (get i)[k]? = some d → KR K w d (l.getD (i * sz + k) undef) := by
  cases h with
  | sl0 => omega
  | sl _ _ _ b off cap f hn hl hk hc =>
    have hcell : ∀ j, j < n * sz → K b (off + j) ∧ w.cell? ⟨b, off + j, none⟩ = some (f (j / sz) (j % sz)) ∧ oneC (f (j / sz) (j % sz)) = true := fun j hj => by
      obtain ⟨h1, h2, h3⟩ := div_lt' hj
      have := hk _ _ h1 h2
      rwa [Nat.add_assoc, h3] at this
    refine ⟨b, off, cap, (List.range (n * sz)).map fun j => f (j / sz) (j % sz), rfl, hn, by simp, fun j u hu => ?_, fun u hu => ?_, hl, fun i k d hi hd => ?_⟩
    · simp only [List.getElem?_map, Option.map_eq_some_iff] at hu
      obtain ⟨j', hj', rfl⟩ := hu
      have hlt : j < n * sz := by
        have := (List.getElem?_eq_some_iff.1 hj').1
        simpa using this
      have e : j' = j := by
        rw [List.getElem?_range hlt] at hj'
        exact (Option.some.inj hj').symm
      subst e
      rw [Addr.add_lit]
      exact ⟨(hcell _ hlt).1, (hcell _ hlt).2.1⟩
    · simp only [List.mem_map, List.mem_range] at hu
      obtain ⟨j, hj, rfl⟩ := hu
      rw [← oneC_eq]
      exact (hcell j hj).2.2
    · have hk' : k < sz := by
        have := (List.getElem?_eq_some_iff.1 hd).1
        rwa [hl i hi] at this
      have h1 := idx_lt hi hk'
      have h2 := divmod (i := i) hk'
      have e : ((List.range (n * sz)).map fun j => f (j / sz) (j % sz)).getD (i * sz + k) undef = f i k := by
        rw [List.getD_eq_getElem?_getD, List.getElem?_map, List.getElem?_range h1]
        simp [h2.1, h2.2]
      rw [e]
      exact hc i k d hi hd

section
variable {w0 : W0} {K0 : Nat → Nat → Prop} {tb : Tb} {t : List D} {lk : Nat → Option Bx} {g : G} {a : Act} {w : World}

/-- An append that stays in its row. -/
theorem RS.inplace (h : RS w0 K0 tb t lk g a w) {id q : Nat} (hid : ¬ g.C id) {E : TypeId} (hq : lk q = some (.tok E)) {ti : Ti} (hT : tb E = some ti) {b n m cap : Nat} {cur cs : Array Value} (hr : g.ρ q = .slice (some ⟨b, 0, none⟩) n cap)
    (h0 : w0.mine b) (hh : w.heap[b]? = some (.cells cur E (0, 0))) (hn : n + m ≤ cap) (hcap : cap ≤ maxLen) (hcur : cur.size = cap * ti.size) (hK : ∀ o, n * ti.size ≤ o → ¬ g.K b o)
    (hcs : cs.size = cur.size) (hsame : ∀ o, o < n * ti.size → cs[o]? = cur[o]?) {get : Nat → List D}
    (hl : ∀ i, i < n + m → (get i).length = ti.size) (h1 : ∀ i k, i < n + m → k < ti.size → oneC (cs.getD (i * ti.size + k) undef) = true)
    (hc : ∀ i k d, i < n + m → (get i)[k]? = some d → KR g.K w d (cs.getD (i * ti.size + k) undef)) :
    ∃ g' : G, Ext g g' w (w.setRow b cs) ∧ (∀ i, g'.C i → g.C i ∨ i = id) ∧ VR g' (w.setRow b cs) (.sl ti.size (n + m) get (.tok id)) (.slice (some ⟨b, 0, none⟩) (n + m) cap) ∧
      RS w0 K0 tb t (fun j => if id = j then some (.tok E) else if q = j then some .dead else lk j) g' a (w.setRow b cs) := by
  let r : Value := .slice (some ⟨b, 0, none⟩) (n + m) cap
  let g' : G := ⟨fun i => g.C i ∨ i = id, g.σ, fun i => if i = id then r else g.ρ i, fun b' o => g.K b' o ∨ (b' = b ∧ o < (n + m) * ti.size)⟩
  have hkk : ∀ o, g.K b o → o < n * ti.size := fun o hk => by
    rcases Nat.lt_or_ge o (n * ti.size) with h' | h'
    · exact h'
    · exact absurd hk (hK o h')
  have hcell : ∀ b' o, g.K b' o → (w.setRow b cs).cell? ⟨b', o, none⟩ = w.cell? ⟨b', o, none⟩ := fun b' o hk => by
    by_cases e : b' = b
    · subst e
      rw [cell_setRow_same w b' o cur cs E _ hh, cell_of_row w b' o cur E _ hh]
      exact hsame o (hkk o hk)
    · exact cell_setRow_other w b cs ⟨b', o, none⟩ e
  have he : Ext g g' w (w.setRow b cs) := ⟨fun i hi => .inl hi, fun _ _ => rfl, fun i hi => by
    have : i ≠ id := fun e => hid (e ▸ hi)
    simp [g', this], fun b' o hk => ⟨.inl hk, hcell b' o hk⟩⟩
  have hrr : g'.ρ id = r := by simp [g']
  have hb : b < w.heap.size := (Array.getElem?_eq_some_iff.1 hh).1
  have hh' : (w.setRow b cs).heap[b]? = some (.cells cs E (0, 0)) := setRow_heap w b cur cs E _ hh
  have hblk : (g.ρ q).ownBlock = some b := by rw [hr]; rfl
  have hmid : RS w0 K0 tb t (fun j => if q = j then some .dead else lk j) g' a (w.setRow b cs) := by
    have hk := h.kill q (h.tk q E hq).1
    exact {
      len := h.len
      tm := fun j d hd => (h.tm j d hd).mono he
      df := h.df
      bx := fun j c T hj => by
        obtain ⟨g1, g2, g3, cs', g4, g5, g6, g7⟩ := hk.bx j c T hj
        have hqj : q ≠ j := by intro e; simp [e] at hj
        simp only [hqj, if_false] at hj
        have hne : g.σ j ≠ b := fun e => h.td q E j c T hq hj (by rw [hblk, e])
        refine ⟨.inl g1, g2, fun o hko => ?_, cs', (setRow_other w b _ cs hne).trans g4, g5, g6, fun k d hd => (g7 k d hd).mono he⟩
        rcases hko with hko | ⟨e, _⟩
        · exact g3 o hko
        · exact hne e
      bd := hk.bd
      tk := fun p E' hp => by
        obtain ⟨g1, g2⟩ := hk.tk p E' hp
        have hqp : q ≠ p := by intro e; simp [e] at hp
        simp only [hqp, if_false] at hp
        refine ⟨.inl g1, ?_⟩
        rw [he.ρ p g1]
        rcases g2 with g2 | ⟨b', n', cap', cur', ti', e1, e2, e3, e4, e5, e6, e7, e8⟩
        · exact .inl g2
        · have hne : b' ≠ b := fun e => hqp (h.tt q p E E' b hq hp hblk (by rw [e1, e]; rfl))
          refine .inr ⟨b', n', cap', cur', ti', e1, e2, (setRow_other w b b' cs hne).trans e3, e4, e5, e6, e7, fun o ho hko => ?_⟩
          rcases hko with hko | ⟨e, _⟩
          · exact e8 o ho hko
          · exact hne e
      td := fun p E' i c T hp hi => by
        rw [he.ρ p (hk.tk p E' hp).1]
        exact hk.td p E' i c T hp hi
      tt := fun p p' E1 E2 b' hp hp' e e' => by
        rw [he.ρ p (hk.tk p E1 hp).1] at e
        rw [he.ρ p' (hk.tk p' E2 hp').1] at e'
        exact hk.tt p p' E1 E2 b' hp hp' e e'
      dd := fun i hi => .inl (hk.dd i hi)
      kb := fun b' o hko => by
        rw [setRow_size]
        rcases hko with hko | ⟨e, _⟩
        · exact h.kb b' o hko
        · omega
      k0 := fun b' o hko => .inl (h.k0 b' o hko)
      k1 := fun b' o hko => by
        rcases hko with hko | ⟨e, _⟩
        · exact h.k1 b' o hko
        · exact .inr (e ▸ h0)
      kv := fun b o hk => (he.K b o (h.k0 b o hk)).2.trans (h.kv b o hk)
      ar := fun i b hA => ⟨.inl (h.ar i b hA).1, (h.ar i b hA).2⟩
      ext := h.ext.set h0 cs }
  refine ⟨g', he, fun i hi => hi, .sl _ _ _ _ _ ?_ ⟨.inr rfl, hrr.symm⟩, ?_⟩
  · refine .sl ti.size (n + m) get b 0 cap (fun i k => cs.getD (i * ti.size + k) undef) hn hl (fun i k hi hk => ⟨.inr ⟨rfl, by have := idx_lt hi hk; omega⟩, ?_, h1 i k hi hk⟩) (fun i k d hi hd => (hc i k d hi hd).mono he.K)
    have h2 := idx_lt hi hk
    have h3 : (n + m) * ti.size ≤ cap * ti.size := Nat.mul_le_mul_right _ hn
    rw [cell_of_row _ _ _ cs E _ hh', Nat.zero_add]
    have : i * ti.size + k < cs.size := by omega
    simp [this]
  · refine hmid.addTok (.inr rfl) ?_ (fun i c T hi _ e => ?_) (fun p E' b' hp _ hb' e => ?_)
    · rw [hrr]
      refine .inr ⟨b, n + m, cap, cs, ti, rfl, h0, hh', hn, hcap, hT, by omega, fun o ho hko => ?_⟩
      rcases hko with hko | ⟨_, hko⟩
      · have := hkk o hko
        have : n * ti.size ≤ (n + m) * ti.size := Nat.mul_le_mul_right _ (by omega)
        omega
      · omega
    · rw [hrr] at e
      simp [r, Value.ownBlock] at e
      by_cases hqi : q = i
      · simp [hqi] at hi
      · simp only [hqi, if_false] at hi
        exact h.td q E i c T hq hi (by rw [hblk, e])
    · rw [hrr] at e
      simp [r, Value.ownBlock] at e
      by_cases hqp : q = p
      · simp [hqp] at hp
      · simp only [hqp, if_false] at hp
        rw [he.ρ p (h.tk p E' hp).1] at hb'
        exact hqp (h.tt q p E E' b hq hp hblk (by rw [hb', e]))

/-- Nothing changes but for the permission's name. -/
theorem RS.rename (h : RS w0 K0 tb t lk g a w) {id : Nat} (hid : ¬ g.C id) {E : TypeId} {r : Value} (ho : Own w0 tb g w E r)
    (h5 : ∀ i c T, lk i = some (.cells c T) → r.ownBlock ≠ some (g.σ i)) (h6 : ∀ q E b, lk q = some (.tok E) → (g.ρ q).ownBlock = some b → r.ownBlock ≠ some b) :
    ∃ g' : G, Ext g g' w w ∧ (∀ i, g'.C i → g.C i ∨ i = id) ∧ g'.C id ∧ g'.ρ id = r ∧ RS w0 K0 tb t (fun j => if id = j then some (.tok E) else lk j) g' a w := by
  let g' : G := ⟨fun i => g.C i ∨ i = id, g.σ, fun i => if i = id then r else g.ρ i, g.K⟩
  have he : Ext g g' w w := ⟨fun i hi => .inl hi, fun _ _ => rfl, fun i hi => by
    have : i ≠ id := fun e => hid (e ▸ hi)
    simp [g', this], fun b o hk => ⟨hk, rfl⟩⟩
  have hg := h.grow (Below.refl _ _) he (fun b o hk => .inl hk) h.kb
  have hr : g'.ρ id = r := by simp [g']
  refine ⟨g', he, fun i hi => hi, .inr rfl, hr, hg.addTok (.inr rfl) (by rw [hr]; exact ho) (fun i c T hi _ => by rw [hr]; exact h5 i c T hi) (fun q E b hq _ hb => ?_)⟩
  rw [hr]
  rw [he.ρ q (h.tk q E hq).1] at hb
  exact h6 q E b hq hb

end

theorem run_append_empty {P : Program} (w : World) (T ty E : TypeId) (i : TypeInfo) (ht : P.underlying T = some (.slice E)) (hi : P.info? E = some i) (b : Option Addr) (n cap : Nat) (hn : n ≤ cap) (x : Option Addr) (c : Nat) :
    (Builtin.append_ #[T, T] ty #[.slice b n cap, .slice x 0 c]).run P w = .ok (.slice b n cap) w := by
  cases x <;> cases b <;> simp [Builtin.append_, run_underlying ht, sizeOf, typeInfo, hi, Builtin.lenOf, hn, Builtin.firstCells, loadCells, loadCellsFrom, storeCells]

end Go.Ev
namespace Go.Ev
open Go Go.RowKit

theorem TbOk.info {P : Program} {tb : Tb} (h : TbOk P tb) {t : TypeId} {i : Ti} (ht : tb t = some i) :
    ∃ f d z, P.info? t = some f ∧ P.underlying t = some d ∧ f.size = i.size ∧ f.bytes = i.bytes ∧ f.zero = some z ∧ zeroOk i.zero z.cells.toList = true ∧ z.cells.size = i.size ∧ descOk d i.d = true ∧
      (fieldsInfo P d = true ∧ (i.eq = true → eqOk P t i.zero = true)) := by
  have := h t i ht
  unfold tiOk at this
  split at this
  · rename_i f d hf hd
    simp only [Bool.and_eq_true, beq_iff_eq, Bool.or_eq_true, Bool.not_eq_true'] at this
    obtain ⟨⟨⟨⟨⟨h1, h2⟩, h3⟩, h4⟩, h6⟩, h5⟩ := this
    split at h3
    · rename_i z hz
      simp only [Bool.and_eq_true, beq_iff_eq] at h3
      refine ⟨f, d, z, hf, hd, h1, h2, hz, h3.1, h3.2, h4, h6, fun he => ?_⟩
      rcases h5 with h5 | h5
      · rw [he] at h5; cases h5
      · exact h5
    · cases h3
  · cases this

theorem blt_f {i n : Nat} (h : ¬ i < n) : Nat.blt i n = false := by
  cases hb : Nat.blt i n with
  | false => rfl
  | true => exact absurd (by simpa [Nat.blt_eq] using hb) h
theorem descOk_sl {d : TypeDesc} {e : TypeId} (h : descOk d (.sl e) = true) : d = .slice e := by
  cases d <;> simp [descOk] at h; subst h; rfl
theorem descOk_arr {d : TypeDesc} {n : Nat} {e : TypeId} (h : descOk d (.arr n e) = true) : d = .array n e := by
  cases d <;> simp [descOk] at h; obtain ⟨rfl, rfl⟩ := h; rfl
theorem descOk_int {d : TypeDesc} {k : IntKind} (h : descOk d (.int k) = true) : d = .int k := by
  cases d <;> simp [descOk] at h; subst h; rfl
theorem descOk_str {d : TypeDesc} (h : descOk d .str = true) : d = .string := by
  cases d <;> simp [descOk] at h; rfl
theorem descOk_struct {d : TypeDesc} {fs : List (Nat × TypeId)} (h : descOk d (.struct fs) = true) : ∃ gs, d = .struct gs ∧ fieldsOk fs gs.toList = true := by
  cases d <;> simp [descOk] at h
  exact ⟨_, rfl, h⟩
theorem descOk_agg {d : TypeDesc} {i : Td} (h : descOk d i = true) : aggD d = i.isAgg := by
  cases d <;> cases i <;> simp [descOk] at h <;> rfl
theorem fieldsOk_get : ∀ {fs : List (Nat × TypeId)} {gs : List Field} (_ : fieldsOk fs gs = true) (j : Nat) {o : Nat} {ft : TypeId}, fs[j]? = some (o, ft) → ∃ f, gs[j]? = some f ∧ f.offset = o ∧ f.type = ft
  | [], _, _, j, _, _, hj => by simp at hj
  | _ :: _, [], h, _, _, _, _ => by simp [fieldsOk] at h
  | (o', t') :: fs, f :: gs, h, j, o, ft, hj => by
    simp only [fieldsOk, Bool.and_eq_true, beq_iff_eq] at h
    cases j with
    | zero => simp at hj; exact ⟨f, rfl, by rw [← hj.1]; exact h.1.1, by rw [← hj.2]; exact h.1.2⟩
    | succ j => simpa using fieldsOk_get h.2 j (by simpa using hj)

theorem cellOk_ok {g : G} {w : World} {d : D} {v : Value} (h : cellOk d v = true) : VR g w d v ∧ oneC v = true := by
  unfold cellOk at h
  split at h <;> first
    | (simp only [Bool.and_eq_true, decide_eq_true_eq, beq_iff_eq] at h; obtain ⟨rfl, rfl⟩ := h; exact ⟨.v _, rfl⟩)
    | (simp only [beq_iff_eq] at h; subst h; exact ⟨.v _, rfl⟩)
    | exact ⟨.v _, rfl⟩
    | skip
  · rename_i a b
    simp only [Bool.and_eq_true, beq_iff_eq] at h
    have e : a = b := by
      have ha : a.data = #[] := Array.eq_empty_of_size_eq_zero h.1
      have hb : b.data = #[] := Array.eq_empty_of_size_eq_zero h.2
      cases a; cases b; simp_all
    subst e
    exact ⟨.v _ (by simp [okV, h.1]), rfl⟩
  · simp only [beq_iff_eq] at h
    subst h
    exact ⟨.sl _ _ _ _ _ (.sl0 _ _ none 0) rfl, rfl⟩
  · cases h

theorem zeroOk_ok {g : G} {w : World} : ∀ {l : List D} {r : List Value}, zeroOk l r = true → r.length = l.length ∧ ∀ (i : Nat) (d : D), l[i]? = some d → ∃ v, r[i]? = some v ∧ VR g w d v ∧ oneC v = true
  | [], [], _ => ⟨rfl, fun i d h => by simp at h⟩
  | [], _ :: _, h => by simp [zeroOk] at h
  | _ :: _, [], h => by simp [zeroOk] at h
  | e :: l, v :: r, h => by
    simp only [zeroOk, Bool.and_eq_true] at h
    obtain ⟨h1, h2⟩ := zeroOk_ok (g := g) (w := w) h.2
    refine ⟨by simp [h1], fun i d hd => ?_⟩
    cases i with
    | zero => simp at hd; subst hd; exact ⟨v, rfl, cellOk_ok h.1⟩
    | succ i => simpa using h2 i d (by simpa using hd)

section
variable {P : Program} {w0 : W0} {K0 : Nat → Nat → Prop} {tb : Tb} {t : List D} {lk : Nat → Option Bx} {g : G} {a : Act} {w : World}

theorem RS.append (hT : TbOk P tb) (h : RS w0 K0 tb t lk g a w) {id : Nat} (hid : ¬ g.C id) {T E ty : TypeId} {sT : Ti} (hs : tb T = some sT) (hsd : sT.d = .sl E) {ie : Ti} (hE : tb E = some ie) (hz : 1 ≤ ie.size)
    {n n' : Nat} {get get' : Nat → List D} {r xr : Value} (hr : KR g.K w (.sl ie.size n get .none) r) (hx : KR g.K w (.sl ie.size n' get' .none) xr)
    (hb : (n + n') * ie.bytes ≤ 140737488355328) (hm : n + n' ≤ 9223372036854775807) {lk1 : Nat → Option Bx}
    (hp : (r = .slice none 0 0 ∧ lk1 = lk) ∨ (∃ q, r = g.ρ q ∧ lk q = some (.tok E) ∧ lk1 = fun j => if q = j then some .dead else lk j)) :
    ∃ v' w' g', (Builtin.append_ #[T, T] ty #[r, xr]).run P w = .ok v' w' ∧ Ext g g' w w' ∧ (∀ i, g'.C i → g.C i ∨ i = id) ∧
      VR g' w' (.sl ie.size (n + n') (fun i => match Nat.blt i n with | true => get i | false => get' (i - n)) (.tok id)) v' ∧
      RS w0 K0 tb t (fun j => if id = j then some (.tok E) else lk1 j) g' a w' := by
  obtain ⟨sf, sd, _, hsf, hsu, _, _, _, _, _, hsd', _⟩ := hT.info hs
  rw [hsd] at hsd'
  have := descOk_sl hsd'
  subst this
  obtain ⟨f, _, z, hf, _, hsize, hbytes, hzero, _, hzc, _, _⟩ := hT.info hE
  have hml : maxLen = 9223372036854775807 := rfl
  -- what becomes of the old permission
  have hlk1 : RS w0 K0 tb t lk1 g a w := by
    rcases hp with ⟨_, rfl⟩ | ⟨q, _, h2, rfl⟩
    · exact h
    · exact h.kill q (h.tk q E h2).1
  have hown : Own w0 tb g w E r := by
    rcases hp with ⟨h1, _⟩ | ⟨q, h1, h2, _⟩
    · exact .inl h1
    · rw [h1]; exact (h.tk q E h2).2
  -- the cells of what is appended
  rcases Nat.eq_zero_or_pos n' with e0 | hpos
  · -- nothing is appended
    subst e0
    obtain ⟨bx, cx, rfl⟩ : ∃ bx cx, xr = .slice bx 0 cx := by cases hx <;> exact ⟨_, _, rfl⟩
    obtain ⟨br, cr, rfl, hle⟩ : ∃ br cr, r = .slice br n cr ∧ n ≤ cr := by
      cases hr with
      | sl _ _ _ b off cap _ hn => exact ⟨_, _, rfl, hn⟩
      | sl0 => exact ⟨_, _, rfl, Nat.zero_le _⟩
    obtain ⟨g', he, hC, hCid, hρ, hrs⟩ := hlk1.rename hid hown (fun i c T hi e => by
        rcases hp with ⟨h1, rfl⟩ | ⟨q, h1, h2, rfl⟩
        · rw [h1] at e; simp [Value.ownBlock] at e
        · by_cases hqi : q = i
          · simp [hqi] at hi
          · simp only [hqi, if_false] at hi
            exact h.td q E i c T h2 hi (by rw [← h1]; exact e)) (fun q' E' b hq' hb' e => by
        rcases hp with ⟨h1, rfl⟩ | ⟨q, h1, h2, rfl⟩
        · rw [h1] at e; simp [Value.ownBlock] at e
        · by_cases hqi : q = q'
          · simp [hqi] at hq'
          · simp only [hqi, if_false] at hq'
            exact hqi (h.tt q q' E E' b h2 hq' (by rw [← h1]; exact e) hb'))
    refine ⟨_, w, g', run_append_empty w T ty E f hsu hf br n cr hle bx cx, he, hC, .sl _ _ _ _ _ ?_ ⟨hCid, hρ.symm⟩, hrs⟩
    have hr' := hr.mono he.K
    cases hr' with
    | sl _ _ _ b off _ fc hn hl hk hc =>
      refine .sl _ _ _ b off _ fc hn (fun i hi => ?_) (fun i k hi hk' => hk i k hi hk') (fun i k d hi hd => ?_)
      · have : Nat.blt i n = true := by simpa [Nat.blt_eq] using hi
        simp only [this]; exact hl i hi
      · have : Nat.blt i n = true := by simpa [Nat.blt_eq] using hi
        simp only [this] at hd; exact hc i k d hi hd
    | sl0 => exact .sl0 _ _ _ _
  · obtain ⟨xb, xo, xc, news, rfl, _, hnl, hnk, hn1, hngl, hngc⟩ := hx.cells hpos
    have hnl' : news.length = n' * f.size := by rw [hnl, hsize]
    have hget : ∀ i, i < n + n' → ((fun i => match Nat.blt i n with | true => get i | false => get' (i - n)) i).length = ie.size := fun i hi => by
      by_cases hin : i < n
      · have : Nat.blt i n = true := by simpa [Nat.blt_eq] using hin
        simp only [this]
        obtain ⟨_, _, _, _, _, _, _, _, _, hl, _⟩ := hr.cells (by omega)
        exact hl i hin
      · have : Nat.blt i n = false := blt_f hin
        simp only [this]
        exact hngl (i - n) (by omega)
    -- the row, told by its first cells
    have rowOf : ∀ (olds rest : List Value), olds.length = n * ie.size → (∀ u ∈ olds, u.oneCell' = true) → (∀ i k d, i < n → (get i)[k]? = some d → KR g.K w d (olds.getD (i * ie.size + k) undef)) →
        ∀ cs : Array Value, cs.toList = olds ++ news ++ rest →
        (∀ i k, i < n + n' → k < ie.size → oneC (cs.getD (i * ie.size + k) undef) = true) ∧
        (∀ i k d, i < n + n' → ((fun i => match Nat.blt i n with | true => get i | false => get' (i - n)) i)[k]? = some d → KR g.K w d (cs.getD (i * ie.size + k) undef)) := by
      intro olds rest hol ho1 hoc cs hcs
      have hcell : ∀ j, cs.getD j undef = (olds ++ news ++ rest).getD j undef := fun j => by
        rw [← hcs]; simp
      have old : ∀ i k, i < n → k < ie.size → cs.getD (i * ie.size + k) undef = olds.getD (i * ie.size + k) undef := fun i k hi hk => by
        have h2 := idx_lt hi hk
        rw [hcell, List.append_assoc, List.getD_eq_getElem?_getD, List.getElem?_append_left (by omega), ← List.getD_eq_getElem?_getD]
      have new : ∀ i k, n ≤ i → i < n + n' → k < ie.size → cs.getD (i * ie.size + k) undef = news.getD ((i - n) * ie.size + k) undef := fun i k h0 hi hk => by
        have h2 := idx_lt (i := i - n) (n := n') (by omega) hk
        have h3 : i * ie.size + k = n * ie.size + ((i - n) * ie.size + k) := by
          rw [← Nat.add_assoc, ← Nat.add_mul]; congr 2; omega
        rw [hcell, List.append_assoc, List.getD_eq_getElem?_getD, h3, List.getElem?_append_right (by omega), hol, Nat.add_sub_cancel_left, List.getElem?_append_left (by omega), ← List.getD_eq_getElem?_getD]
      refine ⟨fun i k hi hk => ?_, fun i k d hi hd => ?_⟩
      · by_cases hin : i < n
        · rw [old i k hin hk, oneC_eq]
          have h2 := idx_lt hin hk
          exact ho1 _ (by rw [List.getD_eq_getElem?_getD, List.getElem?_eq_getElem (by omega)]; exact List.getElem_mem _)
        · rw [new i k (by omega) hi hk, oneC_eq]
          have h2 := idx_lt (i := i - n) (n := n') (by omega) hk
          exact hn1 _ (by rw [List.getD_eq_getElem?_getD, List.getElem?_eq_getElem (by omega)]; exact List.getElem_mem _)
      · have hk : k < ie.size := by
          have := (List.getElem?_eq_some_iff.1 hd).1
          rwa [hget i hi] at this
        by_cases hin : i < n
        · have hb' : Nat.blt i n = true := by simpa [Nat.blt_eq] using hin
          simp only [hb'] at hd
          rw [old i k hin hk]
          exact hoc i k d hin hd
        · have hb' : Nat.blt i n = false := blt_f hin
          simp only [hb'] at hd
          rw [new i k (by omega) hi hk]
          exact hngc (i - n) k d (by omega) hd
    have hbel : Below w.heap.size w w.drew := (Below.refl _ _).drew
    -- a new row
    have fresh : ∀ (olds : List Value) (old : Nat), olds.length = n * ie.size → (∀ u ∈ olds, u.oneCell' = true) → (∀ i k d, i < n → (get i)[k]? = some d → KR g.K w d (olds.getD (i * ie.size + k) undef)) →
        (Builtin.append_ #[T, T] ty #[r, .slice (some ⟨xb, xo, none⟩) n' xc]).run P w = .ok (.slice (some ⟨w.heap.size, 0, none⟩) (n + n') (grownCap w (n + n') old E))
          (w.drew.alloc (.cells (olds.toArray ++ news.toArray ++ Builtin.zeroCells z.cells (grownCap w (n + n') old E - (n + n'))) E)) →
        ∃ v' w' g', (Builtin.append_ #[T, T] ty #[r, .slice (some ⟨xb, xo, none⟩) n' xc]).run P w = .ok v' w' ∧ Ext g g' w w' ∧ (∀ i, g'.C i → g.C i ∨ i = id) ∧
          VR g' w' (.sl ie.size (n + n') (fun i => match Nat.blt i n with | true => get i | false => get' (i - n)) (.tok id)) v' ∧
          RS w0 K0 tb t (fun j => if id = j then some (.tok E) else lk1 j) g' a w' := by
      intro olds old hol ho1 hoc hrun
      have hge := grownCap_ge w (n + n') old E
      have hle := grownCap_le_maxLen w (n + n') old E (by omega)
      obtain ⟨c1, c2⟩ := rowOf olds _ hol ho1 hoc (olds.toArray ++ news.toArray ++ Builtin.zeroCells z.cells (grownCap w (n + n') old E - (n + n'))) (by simp; rfl)
      obtain ⟨g', he, hC, hv, hrs⟩ := hlk1.row hid (w1 := w.drew.alloc (.cells (olds.toArray ++ news.toArray ++ Builtin.zeroCells z.cells (grownCap w (n + n') old E - (n + n'))) E)) (E := E) (ti := ie) (n := n + n') (cap := grownCap w (n + n') old E)
        (hbel.alloc (Nat.le_refl _) _) hE (by
          simp only [Array.size_append, List.size_toArray, size_zeroCells, hzc, hol, hnl, ← Nat.add_mul]
          congr 1; omega) hge hle (heap_alloc_new w.drew _) hget c1 c2
      exact ⟨_, _, g', hrun, he, hC, hv, hrs⟩
    rcases hown with hnil | ⟨b, n1, cap, cur, ti, hr1, hb0, hbh, hnc, hcm, htE, hcsz, hKb⟩
    · -- nil
      subst hnil
      have hn0 : n = 0 := by cases hr; rfl
      subst hn0
      refine fresh [] 0 (by simp) (fun u hu => by simp at hu) (fun i k d hi => by omega) ?_
      have := run_append_nil (P := P) w T ty E f z hsu hf hzero ⟨xb, xo, none⟩ n' xc news hnl' (fun j v hv => (hnk j v hv).2) hpos (by omega) (by rw [hbytes]; simp at hb; omega)
      simpa using this
    · obtain rfl : ti = ie := Option.some.inj (htE.symm.trans hE)
      subst hr1
      have hn1' : n1 = n := by cases hr <;> rfl
      subst hn1'
      have hpre : n1 * ti.size ≤ cur.size := by rw [hcsz]; exact Nat.mul_le_mul_right _ hnc
      -- the old cells
      have hold : ∀ i k d, i < n1 → (get i)[k]? = some d → KR g.K w d ((cur.toList.take (n1 * ti.size)).getD (i * ti.size + k) undef) := fun i k d hi hd => by
        cases hr with
        | sl0 => omega
        | sl _ _ _ _ _ _ fc hn hl hk hc =>
          have hk' : k < ti.size := by
            have := (List.getElem?_eq_some_iff.1 hd).1
            rwa [hl i hi] at this
          have h2 := idx_lt hi hk'
          obtain ⟨_, hcell, _⟩ := hk i k hi hk'
          rw [cell_of_row w b _ cur E _ hbh, Nat.zero_add] at hcell
          have e : (cur.toList.take (n1 * ti.size)).getD (i * ti.size + k) undef = fc i k := by
            rw [List.getD_eq_getElem?_getD, List.getElem?_take_of_lt h2, Array.getElem?_toList, hcell]; rfl
          rw [e]; exact hc i k d hi hd
      have hold1 : ∀ u ∈ cur.toList.take (n1 * ti.size), u.oneCell' = true := fun u hu => by
        obtain ⟨j, hj, rfl⟩ := List.mem_iff_getElem.1 hu
        simp only [List.length_take, Array.length_toList] at hj
        have hj' : j < n1 * ti.size := by omega
        obtain ⟨h1, h2, h3⟩ := div_lt' hj'
        cases hr with
        | sl0 => omega
        | sl _ _ _ _ _ _ fc hn hl hk hc =>
          obtain ⟨_, hcell, ho⟩ := hk _ _ h1 h2
          rw [cell_of_row w b _ cur E _ hbh, Nat.zero_add, h3] at hcell
          have : (cur.toList.take (n1 * ti.size))[j] = fc (j / ti.size) (j % ti.size) := by
            rw [List.getElem_take]
            simpa using (Array.getElem?_eq_some_iff.1 hcell).2
          rw [this, ← oneC_eq]; exact ho
      have holdl : (cur.toList.take (n1 * ti.size)).length = n1 * ti.size := by simp; omega
      by_cases hroom : n1 + n' ≤ cap
      · -- in its row
        rcases hp with ⟨h1, _⟩ | ⟨q, h1, h2, h3⟩
        · cases h1
        subst h3
        have hfit : n1 * f.size + news.length ≤ cur.size := by rw [hnl, hsize, hcsz, ← Nat.add_mul]; exact Nat.mul_le_mul_right _ hroom
        have hrun := run_append_room (P := P) w T ty E f hsu hf b n1 cap cur hbh ⟨xb, xo, none⟩ n' xc news hnl' (fun j v hv => (hnk j v hv).2) hn1 hroom hfit
        rw [hsize] at hrun hfit
        obtain ⟨c1, c2⟩ := rowOf _ (cur.toList.drop (n1 * ti.size + news.length)) holdl hold1 hold (cur.toList.take (n1 * ti.size) ++ news ++ cur.toList.drop (n1 * ti.size + news.length)).toArray (by simp)
        obtain ⟨g', he, hC, hv, hrs⟩ := h.inplace hid h2 hE h1.symm hb0 hbh hroom hcm hcsz hKb (cs := (cur.toList.take (n1 * ti.size) ++ news ++ cur.toList.drop (n1 * ti.size + news.length)).toArray)
          (by simp; omega) (fun o ho => by
            simp only [List.getElem?_toArray, List.append_assoc]
            rw [List.getElem?_append_left (by rw [holdl]; exact ho), List.getElem?_take_of_lt ho]
            simp) hget c1 c2
        exact ⟨_, _, g', hrun, he, hC, hv, hrs⟩
      · refine fresh (cur.toList.take (n1 * ti.size)) cap holdl hold1 hold ?_
        have hf2 := growslice_fits (need := n1 + n') (old := cap) (bytes := f.bytes) (by omega) (by rw [hbytes]; exact hb)
        exact run_append_grow (P := P) w T ty E f z hsu hf hzero ⟨b, 0, none⟩ n1 cap (cur.toList.take (n1 * ti.size)) (by rw [hsize]; exact holdl) (fun j v hv => by
          rw [Addr.add_lit, cell_of_row w b _ cur E _ hbh, Nat.zero_add]
          have hj : j < n1 * ti.size := by
            have := (List.getElem?_eq_some_iff.1 hv).1
            rwa [holdl] at this
          rw [List.getElem?_take_of_lt hj] at hv
          simpa using hv) ⟨xb, xo, none⟩ n' xc news hnl' (fun j v hv => (hnk j v hv).2) (by omega) (by omega) hf2
end
end Go.Ev
namespace Go.Ev
open Go Go.RowKit

def eqV : Kd → Value → Value → Option Bool
  | .int k, .int k1 a, .int k2 b => if k1 = k ∧ k2 = k then some (a == b) else none
  | .bool, .bool a, .bool b => some (a == b)
  | .str, .string a, .string b => some (a.toList == b.toList)
  | _, _, _ => none
def eqVs : List Kd → List Value → List Value → Option Bool
  | [], [], [] => some true
  | k :: ks, x :: xs, y :: ys => match eqV k x y, eqVs ks xs ys with
    | some b, some c => some (b && c)
    | _, _ => none
  | _, _, _ => none

theorem eqVs_len : ∀ {ks : List Kd} {xs ys : List Value} {b : Bool}, eqVs ks xs ys = some b → xs.length = ks.length ∧ ys.length = ks.length
  | [], [], [], _, _ => ⟨rfl, rfl⟩
  | [], _ :: _, _, _, h => by simp [eqVs] at h
  | [], [], _ :: _, _, h => by simp [eqVs] at h
  | _ :: _, [], _, _, h => by simp [eqVs] at h
  | _ :: _, _ :: _, [], _, h => by simp [eqVs] at h
  | k :: ks, x :: xs, y :: ys, b, h => by
    simp only [eqVs] at h
    split at h
    · rename_i h1
      have := eqVs_len h1
      simp [this.1, this.2]
    · cases h

theorem eqVs_append : ∀ {ks ks' : List Kd} {xs ys : List Value} {b : Bool}, eqVs (ks ++ ks') xs ys = some b →
    ∃ b1 b2, eqVs ks (xs.take ks.length) (ys.take ks.length) = some b1 ∧ eqVs ks' (xs.drop ks.length) (ys.drop ks.length) = some b2 ∧ b = (b1 && b2)
  | [], ks', xs, ys, b, h => ⟨true, b, by simp [eqVs], by simpa using h, by simp⟩
  | k :: ks, ks', [], ys, b, h => by simp [eqVs] at h
  | k :: ks, ks', x :: xs, [], b, h => by simp [eqVs] at h
  | k :: ks, ks', x :: xs, y :: ys, b, h => by
    simp only [List.cons_append, eqVs] at h
    split at h
    · rename_i b1 b2 h1 h2
      cases h
      obtain ⟨c1, c2, e1, e2, rfl⟩ := eqVs_append h2
      refine ⟨b1 && c1, c2, ?_, by simpa using e2, by simp [Bool.and_assoc]⟩
      simp only [List.length_cons, List.take_succ_cons, eqVs, h1, e1]
    · cases h

/-- A type's value of its cells. -/
def mkV (P : Program) (t : TypeId) (l : List Value) : Value :=
  match P.underlying t with
  | some (.struct _) | some (.array _ _) => .agg l.toArray
  | _ => l.headD undef

theorem kFs_len {kT : TypeId → Option (List Kd)} {size : TypeId → Nat} : ∀ {o : Nat} {fs : List Field} {ks : List Kd}, kFs kT size o fs = some ks → ∀ f ∈ fs, ∃ a, kT f.type = some a
  | _, [], _, _, f, hf => by simp at hf
  | o, g :: r, ks, h, f, hf => by
    simp only [kFs] at h
    split at h
    · rename_i a _ ha
      split at h
      · rename_i b _ hb
        rcases List.mem_cons.1 hf with rfl | hf
        · exact ⟨a, ha⟩
        · exact kFs_len hb f hf
      · cases h
    · cases h

section
variable {P : Program}

theorem run_part {w : World} {t : TypeId} {i : TypeInfo} {d : TypeDesc} (hi : P.info? t = some i) (hu : P.underlying t = some d) (cs : Array Value) (off : Nat)
    (h : off + i.size ≤ cs.size) (h0 : aggD d = false → i.size = 1) :
    (part t cs off).run P w = .ok (mkV P t ((cs.toList.drop off).take i.size)) w := by
  have hagg : (isAgg t).run P w = .ok (aggD d) w := by
    unfold isAgg
    rw [Sem.run_bind, run_underlying hu w]
    cases d <;> simp [aggD]
  have hs : (sizeOf t).run P w = .ok i.size w := by simp [sizeOf, typeInfo, hi]
  unfold mkV
  simp only [part, Sem.run_bind, hagg, Result.andThen_ok, hu]
  cases hd : aggD d with
  | true =>
    have he : (cs.extract off (off + i.size)) = ((cs.toList.drop off).take i.size).toArray := by
      apply Array.ext'
      rw [Array.toList_extract, List.extract_eq_take_drop]
      simp
    cases d <;> simp [aggD] at hd <;> simp [hs, he]
  | false =>
    have h1 := h0 hd
    have hlt : off < cs.size := by omega
    have hh : ((cs.toList.drop off).take i.size).headD undef = cs[off] := by
      rw [h1]
      have : cs.toList.drop off = cs[off] :: cs.toList.drop (off + 1) := by
        rw [List.drop_eq_getElem_cons (by simpa using hlt)]; simp
      rw [this]; rfl
    cases d <;> simp [aggD] at hd <;> simp [hlt] <;> simpa using hh.symm

/-- '==' of two values, the kinds of whose cells the type tells. -/
theorem run_equalIn_kT (w : World) : ∀ (d : Nat) {t : TypeId} {ks : List Kd}, kT P d t = some ks → ∀ (n : Nat), d ≤ n → ∀ {xs ys : List Value} {b : Bool}, eqVs ks xs ys = some b →
    ks.length = P.cellsOf t ∨ True → (Op.equalIn n t (mkV P t xs) (mkV P t ys)).run P w = .ok b w
  | 0, _, _, h, _, _, _, _, _, _, _ => by simp [kT] at h
  | d + 1, t, ks, h, n, hn, xs, ys, b, he, _ => by
    obtain ⟨n, rfl⟩ : ∃ m, n = m + 1 := ⟨n - 1, by omega⟩
    simp only [kT] at h
    have scalar : ∀ (k : Kd), ks = [k] → ∃ x y, xs = [x] ∧ ys = [y] ∧ eqV k x y = some b := by
      intro k hk
      subst hk
      have hl := eqVs_len he
      match xs, ys, hl with
      | [x], [y], _ =>
        simp only [eqVs] at he
        split at he
        · rename_i h1 h2
          cases h2; cases he
          exact ⟨x, y, rfl, rfl, by simp [h1]⟩
        · cases he
    split at h
    · rename_i k hu
      cases h
      obtain ⟨x, y, rfl, rfl, hxy⟩ := scalar _ rfl
      cases x <;> simp [eqV] at hxy
      cases y <;> simp at hxy
      obtain ⟨⟨rfl, rfl⟩, rfl⟩ := hxy
      simp only [mkV, hu, List.headD_cons]
      exact run_equalIn_int w n t _ _ _ _ hu
    · rename_i hu
      cases h
      obtain ⟨x, y, rfl, rfl, hxy⟩ := scalar _ rfl
      cases x <;> simp [eqV] at hxy
      cases y <;> simp at hxy
      subst hxy
      simp only [mkV, hu, List.headD_cons]
      exact run_equalIn_bool w n t _ _ hu
    · rename_i hu
      cases h
      obtain ⟨x, y, rfl, rfl, hxy⟩ := scalar _ rfl
      cases x <;> simp [eqV] at hxy
      cases y <;> simp at hxy
      subst hxy
      simp only [mkV, hu, List.headD_cons]
      exact run_equalIn_string w n t _ _ hu
    · rename_i fs hu
      split at h
      · rename_i hheld
        have hfs : P.fieldsOf t = fs := by simp [Program.fieldsOf, hu]
        have e1 : ∀ l, mkV P t l = .agg l.toArray := fun l => by simp [mkV, hu]
        rw [e1, e1, run_equalIn_struct w n t _ _ (by rw [hfs]; exact hu) hheld, hfs]
        -- field by field
        have key : ∀ (gs : List Field) (o : Nat) (ks : List Kd) (b : Bool), kFs (kT P d) P.cellsOf o gs = some ks → o + ks.length = xs.length → o + ks.length = ys.length → eqVs ks (xs.drop o) (ys.drop o) = some b →
            (Op.eqFields n xs.toArray ys.toArray gs).run P w = .ok b w := by
          intro gs
          induction gs with
          | nil =>
            intro o ks b hk _ _ hb
            cases hk
            have hl := eqVs_len hb
            match hx : xs.drop o, hy : ys.drop o, hl with
            | [], [], _ =>
              rw [hx, hy] at hb
              simp [eqVs] at hb
              subst hb
              simp [Op.eqFields]
          | cons f gs ih =>
            intro o ks b hk hlx hly hb
            simp only [kFs] at hk
            split at hk
            · rename_i a hfo hka
              split at hk
              · rename_i c hal hkc
                cases hk
                simp only [Bool.and_eq_true, beq_iff_eq, bne_iff_ne, ne_eq] at hfo hal
                obtain ⟨b1, b2, hb1, hb2, rfl⟩ := eqVs_append hb
                simp only [List.length_append] at hlx hly
                rw [List.drop_drop] at hb2
                rw [List.drop_drop] at hb2
                -- the field's own information
                obtain ⟨i, hi⟩ : ∃ i, P.info? f.type = some i := by
                  cases hq : P.info? f.type with
                  | some i => exact ⟨i, rfl⟩
                  | none =>
                    exfalso
                    have hl0 : a.length = 0 := by rw [hal]; simp [Program.cellsOf, hq]
                    cases d with
                    | zero => simp [kT] at hka
                    | succ d =>
                      have hun : P.underlying f.type = none := by simp [Program.underlying, hq]
                      simp [kT, hun] at hka
                have hisz : i.size = a.length := by rw [hal]; simp [Program.cellsOf, hi]
                have hud : ∃ dd, P.underlying f.type = some dd ∧ (aggD dd = false → a.length = 1) := by
                  cases d with
                  | zero => simp [kT] at hka
                  | succ d =>
                    simp only [kT] at hka
                    cases hq : P.underlying f.type with
                    | none => simp [hq] at hka
                    | some dd =>
                      refine ⟨dd, rfl, fun hdd => ?_⟩
                      rw [hq] at hka
                      cases dd <;> simp [aggD] at hdd hka <;> (subst hka; rfl)
                obtain ⟨dd, hud, h1⟩ := hud
                have px := run_part (w := w) hi hud xs.toArray o (by simp; omega) (fun h => by rw [hisz]; exact h1 h)
                have py := run_part (w := w) hi hud ys.toArray o (by simp; omega) (fun h => by rw [hisz]; exact h1 h)
                rw [hisz] at px py
                have heq := run_equalIn_kT w d hka n (by omega) hb1 (.inr trivial)
                simp only [Op.eqFields, hfo.2, ne_eq, not_false_eq_true, if_true, Sem.run_bind, hfo.1, px, py, Result.andThen_ok, heq]
                have hrest := ih (o + a.length) c b2 hkc (by omega) (by omega) hb2
                cases b1
                · simp
                · simp [hrest]
              · cases hk
            · cases hk
        have hl := eqVs_len he
        exact key fs.toList 0 ks b h (by omega) (by omega) (by simpa using he)
      · cases h
    · rename_i m e hu
      split at h
      · rename_i a hka
        split at h
        · rename_i hal
          cases h
          simp only [beq_iff_eq] at hal
          obtain ⟨i, hi⟩ : ∃ i, P.info? e = some i := by
            cases hq : P.info? e with
            | some i => exact ⟨i, rfl⟩
            | none =>
              exfalso
              cases d with
              | zero => simp [kT] at hka
              | succ d =>
                have hun : P.underlying e = none := by simp [Program.underlying, hq]
                simp [kT, hun] at hka
          have hisz : i.size = a.length := by rw [hal]; simp [Program.cellsOf, hi]
          have hud : ∃ dd, P.underlying e = some dd ∧ (aggD dd = false → a.length = 1) := by
            cases d with
            | zero => simp [kT] at hka
            | succ d =>
              simp only [kT] at hka
              cases hq : P.underlying e with
              | none => simp [hq] at hka
              | some dd =>
                refine ⟨dd, rfl, fun hdd => ?_⟩
                rw [hq] at hka
                cases dd <;> simp [aggD] at hdd hka <;> (subst hka; rfl)
          obtain ⟨dd, hud, h1⟩ := hud
          have e1 : ∀ l, mkV P t l = .agg l.toArray := fun l => by simp [mkV, hu]
          rw [e1, e1, run_equalIn_array w n _ _ hu hi, List.range_eq_range']
          have key : ∀ (r j : Nat) (b : Bool), (j + r) * a.length = xs.length → (j + r) * a.length = ys.length → eqVs (repK a r) (xs.drop (j * a.length)) (ys.drop (j * a.length)) = some b →
              (Op.eqItems n e (P.cellsOf e) xs.toArray ys.toArray (List.range' j r)).run P w = .ok b w := by
            intro r
            induction r with
            | zero =>
              intro j b _ _ hb
              have hl := eqVs_len hb
              match hx : xs.drop (j * a.length), hy : ys.drop (j * a.length), hl with
              | [], [], _ =>
                rw [hx, hy] at hb
                simp [repK, eqVs] at hb
                subst hb
                simp [Op.eqItems]
            | succ r ih =>
              intro j b hlx hly hb
              obtain ⟨b1, b2, hb1, hb2, rfl⟩ := eqVs_append hb
              have hj : j * a.length + a.length = (j + 1) * a.length := by rw [Nat.add_mul]; simp
              have hjr : (j + 1) * a.length ≤ (j + (r + 1)) * a.length := Nat.mul_le_mul_right _ (by omega)
              rw [List.drop_drop, hj] at hb2
              rw [List.drop_drop, hj] at hb2
              have px := run_part (w := w) hi hud xs.toArray (j * a.length) (by simp; omega) (fun h => by rw [hisz]; exact h1 h)
              have py := run_part (w := w) hi hud ys.toArray (j * a.length) (by simp; omega) (fun h => by rw [hisz]; exact h1 h)
              rw [hisz] at px py
              have heq := run_equalIn_kT w d hka n (by omega) hb1 (.inr trivial)
              simp only [List.range'_succ, Op.eqItems, Sem.run_bind, ← hal, px, py, Result.andThen_ok, heq]
              have hrest := ih (j + 1) b2 (by rw [← hlx]; congr 1; omega) (by rw [← hly]; congr 1; omega) hb2
              rw [← hal] at hrest
              cases b1
              · simp
              · simp [hrest]
          have hl := eqVs_len he
          have hrep : ∀ r, (repK a r).length = r * a.length := fun r => by
            induction r with
            | zero => simp [repK]
            | succ r ih => simp [repK, ih, Nat.add_mul]; omega
          exact key m 0 b (by rw [hl.1, hrep]; simp) (by rw [hl.2, hrep]; simp) (by simpa using he)
        · cases h
      · cases h
    · cases h

/-- Out of the evaluator's cells. -/
theorem eqVs_of {g : G} {w : World} : ∀ {zs xs ys : List D} {ks : List Kd} {b : Bool}, eqCells zs xs ys = some b → kdsOk zs ks = true → ∀ {vx vy : List Value}, vx.length = xs.length → vy.length = ys.length →
    (∀ (i : Nat) (d : D), xs[i]? = some d → VR g w d (vx.getD i undef)) → (∀ (i : Nat) (d : D), ys[i]? = some d → VR g w d (vy.getD i undef)) → eqVs ks vx vy = some b
  | [], [], [], ks, b, h, hk, vx, vy, hx, hy, _, _ => by
    have e1 : vx = [] := List.eq_nil_of_length_eq_zero hx
    have e2 : vy = [] := List.eq_nil_of_length_eq_zero hy
    subst e1; subst e2
    cases ks with
    | nil => simpa [eqCells, eqVs] using h
    | cons k ks => simp [kdsOk] at hk
  | [], _ :: _, _, _, _, h, _, _, _, _, _, _, _ => by simp [eqCells] at h
  | [], [], _ :: _, _, _, h, _, _, _, _, _, _, _ => by simp [eqCells] at h
  | _ :: _, [], _, _, _, h, _, _, _, _, _, _, _ => by simp [eqCells] at h
  | _ :: _, _ :: _, [], _, _, h, _, _, _, _, _, _, _ => by simp [eqCells] at h
  | z :: zs, x :: xs, y :: ys, ks, b, h, hk, vx, vy, hx, hy, rx, ry => by
    match vx, vy, hx, hy with
    | ux :: vx, uy :: vy, hx, hy =>
    simp only [eqCells] at h
    split at h
    · rename_i b1 b2 h1 h2
      cases h
      have hx0 : VR g w x ux := by simpa using rx 0 x rfl
      have hy0 : VR g w y uy := by simpa using ry 0 y rfl
      have rest : ∀ {ks : List Kd}, kdsOk zs ks = true → eqVs ks vx vy = some b2 := fun hk => eqVs_of h2 hk (by simpa using hx) (by simpa using hy) (fun i d hd => by simpa using rx (i + 1) d (by simpa using hd)) (fun i d hd => by simpa using ry (i + 1) d (by simpa using hd))
      unfold eqCell at h1
      split at h1
      · split at h1
        · rename_i hkk
          cases h1
          cases hx0.val; cases hy0.val
          simp only [Bool.and_eq_true] at hkk
          have hkk := And.intro (ikEq_eq hkk.1) (ikEq_eq hkk.2)
          cases ks with
          | nil => simp [kdsOk] at hk
          | cons k ks =>
            cases k <;> simp [kdsOk] at hk
            obtain ⟨rfl, hk⟩ := hk
            simp [eqVs, eqV, hkk, rest hk]
        · cases h1
      · cases h1
        cases hx0.val; cases hy0.val
        cases ks with
        | nil => simp [kdsOk] at hk
        | cons k ks =>
          cases k <;> simp [kdsOk] at hk
          simp [eqVs, eqV, rest hk]
      · cases h1
        cases hx0.val; cases hy0.val
        cases ks with
        | nil => simp [kdsOk] at hk
        | cons k ks =>
          cases k <;> simp [kdsOk] at hk
          simp [eqVs, eqV, rest hk]
      · cases h1
    · cases h

/-- Two aggregates under '=='. -/
theorem run_eql_agg {g : G} {w : World} {t : TypeId} {dd : TypeDesc} (hu : P.underlying t = some dd) (hd : aggD dd = true) {zs xs ys : List D} {vx vy : Value} {b : Bool} (ht : eqOk P t zs = true) (h : eqCells zs xs ys = some b) (hx : VR g w (.agg xs) vx) (hy : VR g w (.agg ys) vy) (x y : Operand) :
    (∀ op, (eqGuard op t x y vx vy).run P w = .ok () w) ∧ (binOp .eql t vx vy).run P w = .ok (.bool b) w ∧ (binOp .neq t vx vy).run P w = .ok (.bool (!b)) w := by
  obtain ⟨cx, rfl, hlx, _, hcx⟩ := hx.isAgg
  obtain ⟨cy, rfl, hly, _, hcy⟩ := hy.isAgg
  unfold eqOk at ht
  split at ht
  · rename_i ks hks
    simp only [Bool.and_eq_true, Bool.not_eq_true'] at ht
    have he : eqVs ks cx.toList cy.toList = some b := eqVs_of h ht.1 (by simpa using hlx) (by simpa using hly) (fun i d hd => by simpa using hcx i d hd) (fun i d hd => by simpa using hcy i d hd)
    have hrun := run_equalIn_kT w 8 hks 10000 (by omega) he (.inr trivial)
    have hmk : ∀ l : List Value, mkV P t l = .agg l.toArray := fun l => by
      unfold mkV
      rw [hu]
      cases dd <;> simp [aggD] at hd <;> rfl
    rw [hmk, hmk] at hrun
    simp only [Array.toArray_toList] at hrun
    refine ⟨fun op => run_eqGuard_agg w op t x y cx cy ht.2, ?_, ?_⟩
    · rw [run_eql_struct, hrun]; rfl
    · rw [run_neq_struct, hrun]; rfl
  · cases ht
end
end Go.Ev
namespace Go.Ev
open Go Go.RowKit

section
variable {P : Program} {w0 : W0} {K0 : Nat → Nat → Prop} {tb : Tb} {t : List D} {m : Mem} {g : G} {a : Act} {w : World}

/-- What follows an operation. -/
def Kont (w0 : W0) (K0 : Nat → Nat → Prop) (tb : Tb) (t : List D) (m : Mem) (g : G) (a : Act) (w : World) (id idt fr : Nat) (dst : Option Tmp) (d : D) (δ : Mem) (K : Act → World → Prop) : Prop :=
  ∀ r g' w', Ext g g' w w' → (∀ i, g'.C i → g.C i ∨ i = id ∨ i = idt ∨ (4 * fr ≤ i ∧ i < 4 * (fr + 31))) → VR g' w' d r → RS w0 K0 tb t (look (δ ++ m)) g' a w' → K (a.put dst r) w'

theorem Kont.same {id idt fr : Nat} {dst : Option Tmp} {d : D} {K : Act → World → Prop} (hk : Kont w0 K0 tb t m g a w id idt fr dst d [] K) (hr : RS w0 K0 tb t (look m) g a w) {r : Value} (hv : VR g w d r) : K (a.put dst r) w :=
  hk r g w (Ext.refl g w) (fun _ h => .inl h) hv hr

theorem wp_val {o : Oper} {K : Act → World → Prop} {Q : Exit → Act → World → Prop} {r : Value} {w' : World} (hx : (execOp a.eval o).run P w = .ok (.value r) w') (h : K (a.put o.dst r) w') : o.wp P a w K Q := by
  unfold Oper.wp
  rw [hx]
  exact h

theorem wp_skp {o : Oper} {K : Act → World → Prop} {Q : Exit → Act → World → Prop} {w' : World} (hx : (execOp a.eval o).run P w = .ok .skip w') (h : K (a.put o.dst undef) w') : o.wp P a w K Q := by
  unfold Oper.wp
  rw [hx]
  exact h

/-! ### Cells filled by parts -/
theorem fold_cells (l : List Value) : ∀ (off : Nat) (k : Nat) (cs : Array Value), off + k + l.length ≤ cs.size →
    ((l.zipIdx k).foldl (fun cs (x : Value × Nat) => cs.setIfInBounds (off + x.2) x.1) cs).toList = cs.toList.take (off + k) ++ l ++ cs.toList.drop (off + k + l.length) := by
  induction l with
  | nil => intro off k cs h; simp
  | cons v l ih =>
    intro off k cs h
    simp only [List.zipIdx_cons, List.foldl_cons]
    rw [ih off (k + 1) _ (by simp at h ⊢; omega)]
    have e := list_seg_step cs.toList (off + k) v l (by simp at h ⊢; omega)
    simpa [Array.toList_setIfInBounds, Nat.add_assoc] using e

theorem fillD_ok {place place' : Nat → Option (Nat × Nat)} (hpl : ∀ i x, place i = some x → place' i = some x) : ∀ {ps : List (Nat × D)} {c c' : List D} {vs : List (Nat × Value)} {cs : Array Value},
    fillD place c ps = some c' → vs.length = ps.length → (∀ (j i : Nat) (d : D), ps[j]? = some (i, d) → ∃ v, vs[j]? = some (i, v) ∧ VR g w d v) →
    cs.size = c.length → (∀ i, i < c.length → oneC (cs.getD i undef) = true) → (∀ (i : Nat) (d : D), c[i]? = some d → VR g w d (cs.getD i undef)) →
    ∃ cs', Instr.fill place' cs vs = some cs' ∧ cs'.size = c'.length ∧ (∀ i, i < c'.length → oneC (cs'.getD i undef) = true) ∧ ∀ (i : Nat) (d : D), c'[i]? = some d → VR g w d (cs'.getD i undef)
  | [], c, c', [], cs, h, _, _, hs, h1, hc => by cases h; exact ⟨cs, rfl, hs, h1, hc⟩
  | [], _, _, _ :: _, _, _, hl, _, _, _, _ => by simp at hl
  | _ :: _, _, _, [], _, _, hl, _, _, _, _ => by simp at hl
  | (i, d) :: ps, c, c', (i', v) :: vs, cs, h, hl, hv, hs, h1, hc => by
    obtain ⟨v', hv', hvr⟩ := hv 0 i d rfl
    simp at hv'
    obtain ⟨rfl, rfl⟩ := hv'
    simp only [fillD] at h
    split at h
    · rename_i off size l hp hcl
      split at h
      · rename_i hb
        simp only [Bool.and_eq_true] at hb
        have hb1 := Nat.eq_of_beq_eq_true hb.1
        have hb2 := Nat.le_of_ble_eq_true hb.2
        obtain ⟨e1, e2, e3⟩ := cellsOf_ok hvr hcl
        have hp' := hpl _ _ hp
        simp only [Instr.fill, hp']
        have hc1 : (decide (v.cells.size ≠ size) || decide (off + v.cells.size > cs.size)) = false := by simp; omega
        rw [hc1]
        simp only [Bool.false_eq_true, if_false]
        have hfold := fold_cells v.cells.toList off 0 cs (by simp; omega)
        have hfe : (v.cells.zipIdx.foldl (fun cs (x : Value × Nat) => cs.setIfInBounds (off + x.2) x.1) cs).toList = cs.toList.take off ++ v.cells.toList ++ cs.toList.drop (off + v.cells.toList.length) := by
          rw [← Array.foldl_toList, Array.toList_zipIdx]
          simpa using hfold
        have hget : ∀ j, (v.cells.zipIdx.foldl (fun cs (x : Value × Nat) => cs.setIfInBounds (off + x.2) x.1) cs).getD j undef = (cs.toList.take off ++ v.cells.toList ++ cs.toList.drop (off + v.cells.toList.length)).getD j undef := fun j => by
          rw [← hfe]; simp
        have hsz : (v.cells.zipIdx.foldl (fun cs (x : Value × Nat) => cs.setIfInBounds (off + x.2) x.1) cs).size = c.length := by
          rw [← Array.length_toList, hfe]; simp; omega
        have hlen : (splice c off l).length = c.length := by unfold splice; simp; omega
        refine fillD_ok hpl h (by simpa using hl) (fun j i d hd => by simpa using hv (j + 1) i d (by simpa using hd)) (by rw [hsz, hlen]) (fun j hj => ?_) (fun j d hd => ?_)
        · rw [hget]
          rw [hlen] at hj
          by_cases hj1 : j < off
          · rw [List.append_assoc, List.getD_eq_getElem?_getD, List.getElem?_append_left (by simp; omega), List.getElem?_take_of_lt hj1]
            have := h1 j hj
            simpa using this
          · by_cases hj2 : j < off + l.length
            · rw [List.append_assoc, List.getD_eq_getElem?_getD, List.getElem?_append_right (by simp; omega), List.getElem?_append_left (by simp; omega)]
              have := e2 (j - off) (by omega)
              simpa [show min off cs.size = off by omega] using this
            · rw [List.getD_eq_getElem?_getD, List.getElem?_append_right (by simp; omega), List.getElem?_drop]
              have := h1 j hj
              simpa [show min off cs.size = off by omega, show off + v.cells.size + (j - (off + v.cells.size)) = j by omega] using this
        · rw [hget]
          unfold splice at hd
          by_cases hj1 : j < off
          · rw [List.append_assoc, List.getElem?_append_left (by simp; omega), List.getElem?_take_of_lt hj1] at hd
            rw [List.append_assoc, List.getD_eq_getElem?_getD, List.getElem?_append_left (by simp; omega), List.getElem?_take_of_lt hj1]
            have := hc j d hd
            simpa using this
          · by_cases hj2 : j < off + l.length
            · rw [List.append_assoc, List.getElem?_append_right (by simp; omega), List.getElem?_append_left (by simp; omega)] at hd
              rw [List.append_assoc, List.getD_eq_getElem?_getD, List.getElem?_append_right (by simp; omega), List.getElem?_append_left (by simp; omega)]
              have := e3 (j - off) d (by simpa [show min off c.length = off by omega] using hd)
              simpa [show min off cs.size = off by omega] using this
            · rw [List.getElem?_append_right (by simp; omega), List.getElem?_drop] at hd
              rw [List.getD_eq_getElem?_getD, List.getElem?_append_right (by simp; omega), List.getElem?_drop]
              have hj3 : off + l.length + (j - (c.take off ++ l).length) = j := by simp; omega
              rw [hj3] at hd
              have := hc j d hd
              simpa [show min off cs.size = off by omega, show off + v.cells.size + (j - (off + v.cells.size)) = j by omega] using this
      · cases h
    · cases h

theorem run_sizeOf' {t : TypeId} {i : TypeInfo} (hi : P.info? t = some i) (w : World) : (sizeOf t).run P w = .ok i.size w := by simp [sizeOf, typeInfo, hi]

theorem run_isAgg {t : TypeId} {d : TypeDesc} (hu : P.underlying t = some d) (w : World) : (isAgg t).run P w = .ok (aggD d) w := by
  unfold isAgg
  rw [Sem.run_bind, run_underlying hu w]
  cases d <;> simp [aggD]

/-- A load. -/
theorem run_load_cells (hT : TbOk P tb) {T : TypeId} {ti : Ti} (ht : tb T = some ti) {b off : Nat} {l : List D} {d : D} (f : Nat → Value) (hcell : ∀ i, i < l.length → w.cell? ⟨b, off + i, none⟩ = some (f i))
    (hf : ∀ (i : Nat) (e : D), l[i]? = some e → VR g w e (f i)) (h1 : ∀ i, i < l.length → oneC (f i) = true) (h : ofCells ti.d.isAgg ti.size l = some d) :
    ∃ r, (Instr.loadAt T (.pointer (some ⟨b, off, none⟩))).run P w = .ok r w ∧ VR g w d r := by
  obtain ⟨i, dd, z, hi, hu, hsize, _, _, _, _, hdd, _⟩ := hT.info ht
  have hagg := run_isAgg hu w
  rw [descOk_agg hdd] at hagg
  have := ofCells_ok f hf h1 h
  cases ha : ti.d.isAgg with
  | true =>
    rw [ha] at hagg
    obtain ⟨hle, cs, hcs, hget, hv⟩ := this.1 ha
    refine ⟨.agg cs, ?_, hv⟩
    have hl := run_loadCells_list (P := P) w ⟨b, off, none⟩ cs.toList (fun j v hj => by
      rw [Addr.add_lit]
      have hlt : j < ti.size := by
        have := (List.getElem?_eq_some_iff.1 hj).1
        simpa [hcs] using this
      rw [hcell j (by omega)]
      have := hget j hlt
      simp at hj
      rw [← this]; exact hj.symm ▸ rfl)
    simp only [Array.length_toList, Array.toArray_toList, hcs] at hl
    simp [Instr.loadAt, Instr.sureAddr, loadVar, hagg, run_sizeOf' hi, hsize, hl]
  | false =>
    rw [ha] at hagg
    obtain ⟨hpos, hv⟩ := this.2 ha
    refine ⟨f 0, ?_, hv⟩
    have h0 := hcell 0 hpos
    simp only [Nat.add_zero] at h0
    simp [Instr.loadAt, Instr.sureAddr, loadVar, hagg, h0]

theorem run_nil_bounds {P : Program} {w : World} {n : Nat} {k : IntKind} {i : Int} {c : BoundsCode} (h : 0 ≤ i ∧ i ≤ (n : Int)) : (Instr.sliceBound (.int k i) n c).run P w = .ok i.toNat w := by
  simp [Instr.sliceBound, asIntOf, h]

theorem run_binI {op : BinOp} {T : TypeId} {k : IntKind} {x y : Int} {r : Value} (h : binI op k x y = some (true, r)) : (binOp op T (.int k x) (.int k y)).run P w = .ok r w := by
  cases op <;> simp only [binI, Option.some.injEq, Prod.mk.injEq, reduceCtorEq, true_and] at h <;>
    first
      | (subst h; simp [binOp, Op.intArith, Op.intBits, Op.intCmp]; done)
      | skip
  · obtain ⟨h1, rfl⟩ := h
    simp only [bne_iff_ne, ne_eq] at h1
    simp [binOp, Op.intDiv, h1]
  · obtain ⟨h1, rfl⟩ := h
    simp only [bne_iff_ne, ne_eq] at h1
    simp [binOp, Op.intDiv, h1]

theorem okV_binS {op : BinOp} {x y : ByteArray} {r : Value} (h : binS op x y = some (true, r)) : okV r = true := by
  cases op <;> simp only [binS, Option.some.injEq, Prod.mk.injEq, reduceCtorEq, true_and] at h <;> first | (subst h; rfl) | skip
  obtain ⟨h1, rfl⟩ := h
  simp only [decide_eq_true_eq] at h1
  simp only [okV, decide_eq_true_eq, ByteArray.size_append]
  exact h1
theorem okV_binI {op : BinOp} {k : IntKind} {x y : Int} {r : Value} (h : binI op k x y = some (true, r)) : okV r = true := by
  cases op <;> simp only [binI, Option.some.injEq, Prod.mk.injEq, reduceCtorEq, true_and] at h <;> first | (subst h; rfl) | (obtain ⟨_, rfl⟩ := h; rfl)
theorem run_binS {op : BinOp} {T : TypeId} {x y : ByteArray} {r : Value} (h : binS op x y = some (true, r)) : (binOp op T (.string x) (.string y)).run P w = .ok r w := by
  cases op <;> simp only [binS, Option.some.injEq, Prod.mk.injEq, reduceCtorEq, true_and] at h <;>
    first
      | (subst h; simp [binOp, Op.stringOp]; done)
      | skip
  obtain ⟨h1, rfl⟩ := h
  simp only [decide_eq_true_eq] at h1
  have h2 : ¬ (((x.size + y.size : Nat) : Int) > IntKind.i64.max) := by rw [IntKind.max_i64]; omega
  simp [binOp, Op.stringOp]
  omega

/-- A binary operation. -/
theorem run_binD (hT : TbOk P tb) {op : BinOp} {T : TypeId} {x y d : D} {vx vy : Value} (h : binD (tb T) op x y = some (true, d)) (hx : VR g w x vx) (hy : VR g w y vy) (ox oy : Operand) :
    ∃ r, ((do eqGuard op T ox oy vx vy; binOp op T vx vy : Sem Value)).run P w = .ok r w ∧ VR g w d r := by
  unfold binD at h
  split at h
  · cases hx.val; cases hy.val
    split at h
    · simp only [Option.some.injEq, Prod.mk.injEq, decide_eq_true_eq] at h
      obtain ⟨h1, rfl⟩ := h
      refine ⟨_, ?_, .v _⟩
      simp [eqGuard_at_int, binOp, Op.shift, show ¬ (_ : Int) < 0 from Int.not_lt.2 h1]
    · simp only [Option.some.injEq, Prod.mk.injEq, decide_eq_true_eq] at h
      obtain ⟨h1, rfl⟩ := h
      refine ⟨_, ?_, .v _⟩
      simp [eqGuard_at_int, binOp, Op.shift, show ¬ (_ : Int) < 0 from Int.not_lt.2 h1]
    · split at h
      · rename_i hk
        have hk := ikEq_eq hk
        subst hk
        simp only [Option.map_eq_some_iff] at h
        obtain ⟨⟨c, r⟩, h1, h2⟩ := h
        simp only [Prod.mk.injEq] at h2
        obtain ⟨rfl, rfl⟩ := h2
        refine ⟨r, ?_, .v _ (okV_binI h1)⟩
        rw [Sem.run_bind, eqGuard_at_int]
        exact run_binI h1
      · cases h
  · cases hx.val; cases hy.val
    simp only [Option.map_eq_some_iff] at h
    obtain ⟨⟨c, r⟩, h1, h2⟩ := h
    simp only [Prod.mk.injEq] at h2
    obtain ⟨rfl, rfl⟩ := h2
    refine ⟨r, ?_, .v _ (okV_binS h1)⟩
    rw [Sem.run_bind, eqGuard_at_string]
    exact run_binS h1
  · cases hx.val; cases hy.val
    split at h
    · rename_i ht
      obtain ⟨i, dd, z, hi, hu, _, _, _, _, _, hdd, _⟩ := hT.info ht
      have hub : P.underlying T = some .bool := by
        cases dd <;> simp [descOk] at hdd
        exact hu
      split at h
      · cases h
        refine ⟨_, ?_, .v _⟩
        simp [eqGuard_at_bool, binOp, run_equal_bool w T _ _ hub]
      · cases h
        refine ⟨_, ?_, .v _⟩
        simp [eqGuard_at_bool, binOp, run_equal_bool w T _ _ hub]
      · cases h
    · cases h
  · split at h
    · cases h
    · rename_i ti ht
      obtain ⟨i, dd, z, hi, hu, _, _, _, _, _, hdd, _, heq⟩ := hT.info ht
      split at h
      · rename_i b he hb
        cases h
        simp only [Bool.and_eq_true] at he
        obtain ⟨h1, h2, h3⟩ := run_eql_agg (P := P) hu (by rw [descOk_agg hdd]; exact he.2) (heq he.1) hb hx hy ox oy
        exact ⟨_, by rw [Sem.run_bind, h1]; exact h2, .v _⟩
      · rename_i b he hb
        cases h
        simp only [Bool.and_eq_true] at he
        obtain ⟨h1, h2, h3⟩ := run_eql_agg (P := P) hu (by rw [descOk_agg hdd]; exact he.2) (heq he.1) hb hx hy ox oy
        exact ⟨_, by rw [Sem.run_bind, h1]; exact h3, .v _⟩
      · cases h
  · obtain ⟨_, rfl⟩ := hx.isLoc
    cases hy.val
    split at h
    · rename_i ht
      obtain ⟨i, dd, z, hi, hu, _, _, _, _, _, hdd, _⟩ := hT.info ht
      obtain ⟨te, hup⟩ : ∃ te, P.underlying T = some (.pointer te) := by
        cases dd <;> simp [descOk] at hdd
        exact ⟨_, hu⟩
      have hg : ∀ (op : BinOp) (a : Option Addr), (eqGuard op T ox oy (.pointer a) (.pointer none)).run P w = .ok () w := fun op a => by unfold eqGuard; cases op <;> rfl
      have he : ∀ a : Addr, (Op.equal T (.pointer (some a)) (.pointer none)).run P w = .ok false w := fun a => by
        show (Op.equalIn (9999 + 1) T _ _).run P w = _
        rw [Op.equalIn, Sem.run_bind, run_underlying hup]
        rfl
      split at h
      · cases h
        refine ⟨_, ?_, .v _⟩
        rw [Sem.run_bind, hg]
        simp [binOp, he]
      · cases h
        refine ⟨_, ?_, .v _⟩
        rw [Sem.run_bind, hg]
        simp [binOp, he]
      · cases h
    · cases h
  · cases h

theorem equal_nil {T e : TypeId} (hu : P.underlying T = some (.slice e)) {a : Option Addr} {n c : Nat} : (Op.equal T (.slice a n c) (.slice none 0 0)).run P w = .ok a.isNone w := by
  show (Op.equalIn (9999 + 1) T _ _).run P w = _
  cases a <;> (rw [Op.equalIn, Sem.run_bind, run_underlying hu]; rfl)
theorem run_nilC (hT : TbOk P tb) {op : BinOp} {T : TypeId} {y : Operand} {x : D} {vx : Value} {b : Bool} (h : nilC op (tb T) y x = some b) (hx : VR g w x vx) (ox : Operand) :
    ∃ vy, y = .const vy ∧ ((do eqGuard op T ox y vx vy; binOp op T vx vy : Sem Value)).run P w = .ok (.bool b) w := by
  unfold nilC at h
  have eg : ∀ (v : Value) (ox oy : Operand) , (∃ a n c, v = .slice a n c) → (eqGuard .eql T ox oy v (.slice none 0 0)).run P w = .ok () w := fun v ox oy ⟨a, n, c, e⟩ => by subst e; unfold eqGuard; rfl
  split at h
  · rename_i sz n get E e _ _ _ _ ht
    cases h
    obtain ⟨i, dd, z, hi, hu, _, _, _, _, _, hdd, _⟩ := hT.info ht
    have e1 := descOk_sl hdd
    subst e1
    have hr : vx = .slice none 0 0 := hx.isSl.2
    subst hr
    refine ⟨_, rfl, ?_⟩
    rw [Sem.run_bind, eg _ _ _ ⟨_, _, _, rfl⟩]
    simp [binOp, equal_nil hu]
  · rename_i sz n get e _ _ _ _ ht
    cases h
    obtain ⟨i, dd, z, hi, hu, _, _, _, _, _, hdd, _⟩ := hT.info ht
    have e1 := descOk_sl hdd
    subst e1
    obtain ⟨h1, h2⟩ := hx.isSl
    have h2 : ∀ n c, vx ≠ .slice none n c := h2
    obtain ⟨a, n', c', rfl⟩ : ∃ a n' c', vx = .slice (some a) n' c' := by
      cases h1 with
      | sl _ _ _ b off cap => exact ⟨_, _, _, rfl⟩
      | sl0 _ _ a cap =>
        cases a with
        | none => exact absurd rfl (h2 _ _)
        | some a => exact ⟨_, _, _, rfl⟩
    refine ⟨_, rfl, ?_⟩
    rw [Sem.run_bind, eg _ _ _ ⟨_, _, _, rfl⟩]
    simp [binOp, equal_nil hu]
  · rename_i sz n get e _ _ _ _ ht
    cases h
    obtain ⟨i, dd, z, hi, hu, _, _, _, _, _, hdd, _⟩ := hT.info ht
    have e1 := descOk_sl hdd
    subst e1
    obtain ⟨n', c', rfl⟩ : ∃ n c, vx = .slice none n c := hx.isSl.2
    refine ⟨_, rfl, ?_⟩
    rw [Sem.run_bind, eg _ _ _ ⟨_, _, _, rfl⟩]
    simp [binOp, equal_nil hu]
  · cases h

theorem run_unD {op : UnOp} {x d : D} {vx : Value} (h : unD op x = some d) (hx : VR g w x vx) : ∃ r, (Op.unary op vx).run P w = .ok r w ∧ VR g w d r := by
  unfold unD at h
  split at h
  · cases h; cases hx.val; exact ⟨_, by simp [Op.unary], .v _⟩
  · cases h; cases hx.val; exact ⟨_, by simp [Op.unary, Op.intArith], .v _⟩
  · cases h; cases hx.val; exact ⟨_, by simp [Op.unary, Op.intBits], .v _⟩
  · cases h

end
end Go.Ev
namespace Go.Ev
open Go Go.RowKit

section
variable {w0 : W0} {K0 : Nat → Nat → Prop} {tb : Tb} {t : List D} {m : Mem} {g : G} {a : Act} {w : World} {as : List Value}

/-- No entry owns this block. -/
def Free (m : Mem) (g : G) (b : Nat) : Prop := (∀ i c T, look m i = some (.cells c T) → g.σ i ≠ b) ∧ (∀ q E, look m q = some (.tok E) → (g.ρ q).ownBlock ≠ some b)

theorem look_append (δ m : Mem) (i : Nat) : look (δ ++ m) i = match look δ i with | some b => some b | none => look m i := by
  induction δ with
  | nil => rfl
  | cons x δ ih =>
    obtain ⟨j, b⟩ := x
    rw [List.cons_append, look_cons, ih, look_cons]
    by_cases h : j = i
    · simp [h]
    · simp [h]
theorem look_assoc (x y m : Mem) : look (x ++ (y ++ m)) = look ((x ++ y) ++ m) := by rw [List.append_assoc]

/-! ### Lists of them -/
theorem XRs.idx {K : Nat → Nat → Prop} {l : List D} {rs : List Value} {L : List Nat} (h : XRs tb K w as l rs L) :
    rs.length = l.length ∧ ∃ Ls : Nat → List Nat, (∀ j d, l[j]? = some d → XR tb K w as d (rs.getD j undef) (Ls j)) ∧ L = (List.range l.length).flatMap Ls := by
  induction h with
  | nil => exact ⟨rfl, fun _ => [], fun j d h => by simp at h, rfl⟩
  | @cons d r L M l rs h _ ih =>
    obtain ⟨hl, Ls, h1, h2⟩ := ih
    refine ⟨by simp [hl], fun j => match j with | 0 => L | j + 1 => Ls j, fun j d hd => ?_, ?_⟩
    · cases j with
      | zero => simp at hd; subst hd; simpa using h
      | succ j => simpa using h1 j d (by simpa using hd)
    · simp only [List.length_cons, List.range_succ_eq_map, List.flatMap_cons, h2]
      rw [List.flatMap_map]
theorem XRs.of {K : Nat → Nat → Prop} : ∀ {l : List D} {rs : List Value} {Ls : Nat → List Nat}, rs.length = l.length → (∀ j d, l[j]? = some d → XR tb K w as d (rs.getD j undef) (Ls j)) → XRs tb K w as l rs ((List.range l.length).flatMap Ls)
  | [], [], Ls, _, _ => .nil
  | d :: l, r :: rs, Ls, hl, h => by
    simp only [List.length_cons, List.range_succ_eq_map, List.flatMap_cons]
    rw [List.flatMap_map]
    exact .cons (by simpa using h 0 d rfl) (XRs.of (Ls := fun j => Ls (j + 1)) (by simpa using hl) (fun j d hd => by simpa using h (j + 1) d (by simpa using hd)))
  | [], r :: rs, _, hl, _ => by simp at hl
  | d :: l, [], _, hl, _ => by simp at hl
theorem flat_nil {n : Nat} : ([] : List Nat) = (List.range n).flatMap (fun _ => []) := by
  induction (List.range n) with
  | nil => rfl
  | cons x l ih => simp
theorem XR.isAgg {K : Nat → Nat → Prop} {l : List D} {r : Value} {L : List Nat} (h : XR tb K w as (.agg l) r L) :
    ∃ cs : Array Value, r = .agg cs ∧ cs.size = l.length ∧ (∀ j, j < l.length → oneC (cs.getD j undef) = true) ∧ XRs tb K w as l cs.toList L := by
  cases h with
  | kr _ _ h =>
    cases h with
    | agg _ cs hl h1 hc =>
      refine ⟨cs, rfl, hl, h1, ?_⟩
      rw [flat_nil (n := l.length)]
      exact XRs.of (by simpa using hl) fun j d hd => .kr _ _ (by simpa using hc j d hd)
  | agg _ cs Ls hl h1 hc => exact ⟨cs, rfl, hl, h1, XRs.of (by simpa using hl) fun j d hd => by simpa using hc j d hd⟩
theorem XR.isTup {K : Nat → Nat → Prop} {l : List D} {r : Value} {L : List Nat} (h : XR tb K w as (.tup l) r L) :
    ∃ cs : Array Value, r = .tuple cs ∧ cs.size = l.length ∧ XRs tb K w as l cs.toList L := by
  cases h with
  | kr _ _ h =>
    cases h with
    | tup _ cs hl hc =>
      refine ⟨cs, rfl, hl, ?_⟩
      rw [flat_nil (n := l.length)]
      exact XRs.of (by simpa using hl) fun j d hd => .kr _ _ (by simpa using hc j d hd)
  | tup _ cs Ls hl hc => exact ⟨cs, rfl, hl, XRs.of (by simpa using hl) fun j d hd => by simpa using hc j d hd⟩
theorem XR.isClo {K : Nat → Nat → Prop} {f : FuncId} {l : List D} {r : Value} {L : List Nat} (h : XR tb K w as (.clo f l) r L) :
    ∃ cs : Array Value, r = .func (.func f) #[] cs ∧ cs.size = l.length ∧ XRs tb K w as l cs.toList L := by
  cases h with
  | kr _ _ h => cases h
  | clo _ _ cs Ls hl hc => exact ⟨cs, rfl, hl, XRs.of (by simpa using hl) fun j d hd => by simpa using hc j d hd⟩
theorem XR.isV {K : Nat → Nat → Prop} {x r : Value} {L : List Nat} (h : XR tb K w as (.v x) r L) : KR K w (.v x) r := by cases h with | kr _ _ h => exact h
theorem XR.isRef {K : Nat → Nat → Prop} {l : List D} {r : Value} {L : List Nat} (h : XR tb K w as (.ref l) r L) : KR K w (.ref l) r := by cases h with | kr _ _ h => exact h
theorem XR.isSl {K : Nat → Nat → Prop} {sz n : Nat} {get : Nat → List D} {p : Pm} {r : Value} {L : List Nat} (h : XR tb K w as (.sl sz n get p) r L) : KR K w (.sl sz n get .none) r := by
  cases h with
  | kr _ _ h => cases h with
    | sl _ _ _ b off cap f hn hl hk hc => exact .sl sz n get b off cap f hn hl hk hc
    | sl0 _ _ a cap => exact .sl0 sz get a cap
  | own _ _ _ _ _ h _ => exact h

/-! ### Taken in -/
/-- What taking in leaves. -/
def Took (w0 : W0) (K0 : Nat → Nat → Prop) (tb : Tb) (t : List D) (m : Mem) (g : G) (a : Act) (w : World) (k k' : Nat) (m' : Mem) (L : List Nat) (g' : G) : Prop :=
  Ext g g' w w ∧ g'.K = g.K ∧ (∀ i, g'.C i → g.C i ∨ (4 * k ≤ i ∧ i < 4 * k')) ∧ RS w0 K0 tb t (look (m' ++ m)) g' a w ∧ (∀ b, b ∉ L → Free m g b → Free (m' ++ m) g' b)
theorem Took.refl (hr : RS w0 K0 tb t (look m) g a w) (k : Nat) (L : List Nat) : Took w0 K0 tb t m g a w k k [] L g :=
  ⟨Ext.refl _ _, rfl, fun _ h => .inl h, hr, fun _ _ h => h⟩
theorem Took.trans {k k1 k2 : Nat} {m1 m2 : Mem} {L M : List Nat} {g1 g2 : G} (h1 : Took w0 K0 tb t m g a w k k1 m1 L g1) (h2 : Took w0 K0 tb t (m1 ++ m) g1 a w k1 k2 m2 M g2) (hk : k ≤ k1) (hk2 : k1 ≤ k2) :
    Took w0 K0 tb t m g a w k k2 (m2 ++ m1) (L ++ M) g2 := by
  obtain ⟨a1, a2, a3, a4, a5⟩ := h1
  obtain ⟨b1, b2, b3, b4, b5⟩ := h2
  refine ⟨a1.trans b1, b2.trans a2, fun i hi => ?_, by rw [← look_assoc]; exact b4, fun b hb hf => ?_⟩
  · rcases b3 i hi with h | h
    · rcases a3 i h with h | h
      · exact .inl h
      · exact .inr (by omega)
    · exact .inr (by omega)
  · simp only [List.mem_append, not_or] at hb
    have := b5 b hb.2 (a5 b hb.1 hf)
    rwa [← List.append_assoc] at this

def InOk (w0 : W0) (K0 : Nat → Nat → Prop) (tb : Tb) (t : List D) (a : Act) (w : World) (as : List Value) (Pg : G → Prop) (h : Nat → D → D × Mem × Nat) : Prop :=
  (∀ k d, k ≤ (h k d).2.2) ∧ ∀ (k : Nat) (d : D) (r : Value) (L : List Nat) (m : Mem) (g : G), Pg g → XR tb g.K w as d r L → RS w0 K0 tb t (look m) g a w → L.Nodup → (∀ b ∈ L, w0.mine b ∧ Free m g b) →
    (∀ i, 4 * k ≤ i → i < 4 * (h k d).2.2 → ¬ g.C i) → ∃ g', Took w0 K0 tb t m g a w k (h k d).2.2 (h k d).2.1 L g' ∧ VR g' w (h k d).1 r

theorem inL_le {h : Nat → D → D × Mem × Nat} (hh : ∀ k d, k ≤ (h k d).2.2) : ∀ (l : List D) (k : Nat), k ≤ (inL h k l).2.2
  | [], _ => Nat.le_refl _
  | d :: r, k => Nat.le_trans (hh k d) (inL_le hh r (h k d).2.2)

theorem inL_ok {Pg : G → Prop} (hP : ∀ g g', Pg g → Ext g g' w w → Pg g') {h : Nat → D → D × Mem × Nat} (hh : InOk w0 K0 tb t a w as Pg h) : ∀ (l : List D) (k : Nat) (rs : List Value) (L : List Nat) (m : Mem) (g : G), Pg g → XRs tb g.K w as l rs L → RS w0 K0 tb t (look m) g a w → L.Nodup → (∀ b ∈ L, w0.mine b ∧ Free m g b) →
    (∀ i, 4 * k ≤ i → i < 4 * (inL h k l).2.2 → ¬ g.C i) → ∃ g', Took w0 K0 tb t m g a w k (inL h k l).2.2 (inL h k l).2.1 L g' ∧ (inL h k l).1.length = l.length ∧ ∀ i d, (inL h k l).1[i]? = some d → VR g' w d (rs.getD i undef)
  | [], k, rs, L, m, g, _, hx, hr, _, _, _ => by
    cases hx
    exact ⟨g, Took.refl hr k _, rfl, fun i d hd => by simp [inL] at hd⟩
  | d :: l, k, rs, L, m, g, hg, hx, hr, hnd, hL, hC => by
    cases hx with
    | cons hx hxl =>
      rename_i r L M rs
      have e : inL h k (d :: l) = ((h k d).1 :: (inL h (h k d).2.2 l).1, (inL h (h k d).2.2 l).2.1 ++ (h k d).2.1, (inL h (h k d).2.2 l).2.2) := rfl
      rw [e] at hC ⊢
      simp only at hC ⊢
      have le1 := hh.1 k d
      have le2 := inL_le hh.1 l (h k d).2.2
      obtain ⟨n1, n2, n3⟩ := List.nodup_append.1 hnd
      obtain ⟨g1, T1, v1⟩ := hh.2 k d r L m g hg hx hr n1 (fun b hb => hL b (by simp [hb])) (fun i h1 h2 => hC i h1 (by omega))
      have T1' := T1
      obtain ⟨a1, a2, a3, a4, a5⟩ := T1
      obtain ⟨g2, T2, e2, v2⟩ := inL_ok hP hh l (h k d).2.2 rs M _ g1 (hP g g1 hg a1) (by rw [a2]; exact hxl) a4 n2 (fun b hb => ⟨(hL b (by simp [hb])).1, a5 b (fun hb' => n3 b hb' b hb rfl) (hL b (by simp [hb])).2⟩) (fun i h1 h2 h3 => by
        rcases a3 i h3 with h | h
        · exact hC i (by omega) h2 h
        · omega)
      refine ⟨g2, T1'.trans T2 le1 le2, by simp [e2], fun i d' hd' => ?_⟩
      cases i with
      | zero => simp at hd'; subst hd'; simpa using v1.mono T2.1
      | succ i => simpa using v2 i d' (by simpa using hd')

/-- A number is given to a block. -/
theorem RS.name (hr : RS w0 K0 tb t (look m) g a w) {id : Nat} (hid : ¬ g.C id) (b : Nat) (r : Value) : ∃ g', Ext g g' w w ∧ g'.K = g.K ∧ (∀ i, g'.C i → g.C i ∨ i = id) ∧ g'.C id ∧ g'.σ id = b ∧ g'.ρ id = r ∧ RS w0 K0 tb t (look m) g' a w := by
  let g' : G := ⟨fun i => g.C i ∨ i = id, fun i => if i = id then b else g.σ i, fun i => if i = id then r else g.ρ i, g.K⟩
  have he : Ext g g' w w := ⟨fun i hi => .inl hi, fun i hi => by
    have : i ≠ id := fun e => hid (e ▸ hi)
    simp [g', this], fun i hi => by
    have : i ≠ id := fun e => hid (e ▸ hi)
    simp [g', this], fun _ _ h => ⟨h, rfl⟩⟩
  exact ⟨g', he, rfl, fun i h => h, .inr rfl, by simp [g'], by simp [g'], hr.grow (Below.refl _ _) he (fun _ _ h => .inl h) hr.kb⟩
theorem Free.ext {g' : G} (h : ∀ b, Free m g b → Free m g' b) {b : Nat} (hf : Free m g b) : Free m g' b := h b hf
theorem Free.named (hr : RS w0 K0 tb t (look m) g a w) {g' : G} (he : Ext g g' w w) {b : Nat} (hf : Free m g b) : Free m g' b :=
  ⟨fun i c T hi => by rw [he.σ i (hr.bx i c T hi).1]; exact hf.1 i c T hi, fun q E hq => by rw [he.ρ q (hr.tk q E hq).1]; exact hf.2 q E hq⟩

/-- A box is taken in: its cells first. -/
theorem box_in {h : Nat → D → D × Mem × Nat} (hh : InOk w0 K0 tb t a w as (fun _ => True) h) {k id : Nat} {T : TypeId} {c : List D} {b : Nat} {cs : Array Value} {M : List Nat} {g : G} {m : Mem} (hr : RS w0 K0 tb t (look m) g a w) (hnd : (b :: M).Nodup) (hL : ∀ x ∈ b :: M, w0.mine x ∧ Free m g x)
    (hh1 : w.heap[b]? = some (.cells cs T (0, 0))) (hs : cs.size = c.length) (h1 : ∀ j, j < c.length → oneC (cs.getD j undef) = true) (hK : ∀ o, ¬ g.K b o) (hx : XRs tb g.K w as c cs.toList M)
    (hC : ∀ i, 4 * k ≤ i → i < 4 * (inL h k c).2.2 → ¬ g.C i) (hid : (g.C id ∧ g.σ id = b) ∨ (¬ g.C id ∧ (id < 4 * k ∨ 4 * (inL h k c).2.2 ≤ id))) :
    ∃ g', Ext g g' w w ∧ g'.K = g.K ∧ (∀ i, g'.C i → g.C i ∨ i = id ∨ (4 * k ≤ i ∧ i < 4 * (inL h k c).2.2)) ∧ g'.C id ∧ g'.σ id = b ∧ RS w0 K0 tb t (look (((id, .cells (inL h k c).1 T) :: (inL h k c).2.1) ++ m)) g' a w ∧
      (∀ x, x ∉ b :: M → Free m g x → Free (((id, .cells (inL h k c).1 T) :: (inL h k c).2.1) ++ m) g' x) := by
  obtain ⟨hbM, hndM⟩ := List.nodup_cons.1 hnd
  obtain ⟨g1, ⟨a1, a2, a3, a4, a5⟩, e1, v1⟩ := inL_ok (fun _ _ _ _ => trivial) hh c k cs.toList M m g trivial hx hr hndM (fun x hx => hL x (by simp [hx])) hC
  have key : ∃ g2, Ext g1 g2 w w ∧ g2.K = g.K ∧ (∀ i, g2.C i → g1.C i ∨ i = id) ∧ g2.C id ∧ g2.σ id = b ∧ RS w0 K0 tb t (look ((inL h k c).2.1 ++ m)) g2 a w := by
    rcases hid with ⟨h1, h2⟩ | ⟨h1, h2⟩
    · exact ⟨g1, Ext.refl _ _, a2, fun i hi => .inl hi, a1.C _ h1, (a1.σ _ h1).trans h2, a4⟩
    · obtain ⟨g2, b1, b2, b3, b4, b5, _, b7⟩ := a4.name (id := id) (fun hc => by
        rcases a3 id hc with h | h
        · exact h1 h
        · omega) b undef
      exact ⟨g2, b1, b2.trans a2, b3, b4, b5, b7⟩
  obtain ⟨g2, b1, b2, b3, b4, b5, b6⟩ := key
  have hfb : Free ((inL h k c).2.1 ++ m) g2 b := (a5 b hbM (hL b (by simp)).2).named a4 b1
  have hbx := b6.addBox (id := id) (c := (inL h k c).1) (T := T) (cs := cs) b4 (by rw [b5]; exact (hL b (by simp)).1) (by rw [b5, b2]; exact hK) (by rw [b5]; exact hh1) (by rw [hs, e1]) (fun j hj => h1 j (by rw [← e1]; exact hj)) (fun j d hd => by
      have := (v1 j d hd).mono b1
      simpa using this)
    (fun i c' T' hi _ => by rw [b5]; exact hfb.1 i c' T' hi) (fun q E hq _ => by rw [b5]; exact hfb.2 q E hq)
  have hlk : ∀ j, look (((id, .cells (inL h k c).1 T) :: (inL h k c).2.1) ++ m) j = if id = j then some (.cells (inL h k c).1 T) else look ((inL h k c).2.1 ++ m) j := fun j => by rw [List.cons_append, look_cons]
  refine ⟨g2, a1.trans b1, b2, fun i hi => ?_, b4, b5, hbx.congr hlk, fun x hx hf => ?_⟩
  · rcases b3 i hi with h | h
    · rcases a3 i h with h | h
      · exact .inl h
      · exact .inr (.inr h)
    · exact .inr (.inl h)
  · simp only [List.mem_cons, not_or] at hx
    have hf2 := (a5 x hx.2 hf).named a4 b1
    refine ⟨fun i c' T' hi => ?_, fun q E hq => ?_⟩
    · rw [hlk] at hi
      split at hi
      · rename_i e; rw [← e, b5]; exact fun e => hx.1 e.symm
      · exact hf2.1 i c' T' hi
    · rw [hlk] at hq
      split at hq
      · cases hq
      · exact hf2.2 q E hq

/-- A row is taken in. -/
theorem row_in {k id : Nat} {T : TypeId} {c : List D} {b : Nat} {cs : Array Value} (hr : RS w0 K0 tb t (look m) g a w) (hL : w0.mine b ∧ Free m g b)
    (hh1 : w.heap[b]? = some (.cells cs T (0, 0))) (hs : cs.size = c.length) (h1 : ∀ j, j < c.length → oneC (cs.getD j undef) = true) (hK : ∀ o, ¬ g.K b o) (hx : ∀ j d, c[j]? = some d → KR g.K w d (cs.getD j undef))
    (hid : (g.C id ∧ g.σ id = b) ∨ ¬ g.C id) :
    ∃ g', Ext g g' w w ∧ g'.K = g.K ∧ (∀ i, g'.C i → g.C i ∨ i = id) ∧ g'.C id ∧ g'.σ id = b ∧ RS w0 K0 tb t (look ([(id, .cells c T)] ++ m)) g' a w ∧
      (∀ x, x ∉ [b] → Free m g x → Free ([(id, .cells c T)] ++ m) g' x) := by
  have key : ∃ g2, Ext g g2 w w ∧ g2.K = g.K ∧ (∀ i, g2.C i → g.C i ∨ i = id) ∧ g2.C id ∧ g2.σ id = b ∧ RS w0 K0 tb t (look m) g2 a w := by
    rcases hid with ⟨h1, h2⟩ | h1
    · exact ⟨g, Ext.refl _ _, rfl, fun i hi => .inl hi, h1, h2, hr⟩
    · obtain ⟨g2, b1, b2, b3, b4, b5, _, b7⟩ := hr.name (id := id) h1 b undef
      exact ⟨g2, b1, b2, b3, b4, b5, b7⟩
  obtain ⟨g2, b1, b2, b3, b4, b5, b6⟩ := key
  have hfb : Free m g2 b := hL.2.named hr b1
  have hbx := b6.addBox (id := id) (c := c) (T := T) (cs := cs) b4 (by rw [b5]; exact hL.1) (by rw [b5, b2]; exact hK) (by rw [b5]; exact hh1) hs h1 (fun j d hd => .kr _ _ (by rw [b2]; exact hx j d hd))
    (fun i c' T' hi _ => by rw [b5]; exact hfb.1 i c' T' hi) (fun q E hq _ => by rw [b5]; exact hfb.2 q E hq)
  have hlk : ∀ j, look ([(id, .cells c T)] ++ m) j = if id = j then some (.cells c T) else look m j := fun j => by rw [List.cons_append, look_cons, List.nil_append]
  refine ⟨g2, b1, b2, b3, b4, b5, hbx.congr hlk, fun x hx hf => ?_⟩
  simp only [List.mem_singleton] at hx
  have hf2 := hf.named hr b1
  refine ⟨fun i c' T' hi => ?_, fun q E hq => ?_⟩
  · have hi : look ([(id, .cells c T)] ++ m) i = some (.cells c' T') := hi
    rw [hlk] at hi
    split at hi
    · rename_i e; rw [← e, b5]; exact fun e => hx e.symm
    · exact hf2.1 i c' T' hi
  · have hq : look ([(id, .cells c T)] ++ m) q = some (.tok E) := hq
    rw [hlk] at hq
    split at hq
    · cases hq
    · exact hf2.2 q E hq

theorem inD_ok : ∀ f, InOk w0 K0 tb t a w as (fun _ => True) (inD f)
  | 0 => ⟨fun k d => Nat.le_refl _, fun k d r L m g _ _ hr _ _ _ => ⟨g, Took.refl hr k L, .no _⟩⟩
  | f + 1 => by
    have ih : InOk w0 K0 tb t a w as (fun _ => True) (inD f) := inD_ok f
    refine ⟨fun k d => ?_, fun k d r L m g _ hx hr hnd hL hC => ?_⟩
    · cases d with
      | box T c => exact Nat.le_trans (Nat.le_succ k) (inL_le ih.1 c (k + 1))
      | sl sz n get p => cases p <;> simp [inD]
      | agg l => exact inL_le ih.1 l k
      | tup l => exact inL_le ih.1 l k
      | clo i l => exact inL_le ih.1 l k
      | row sz n T c => exact Nat.le_succ k
      | _ => exact Nat.le_refl _
    · cases d with
      | box T c =>
        have e : inD (f + 1) k (.box T c) = (.loc (4 * k) 0, (4 * k, .cells (inL (inD f) (k + 1) c).1 T) :: (inL (inD f) (k + 1) c).2.1, (inL (inD f) (k + 1) c).2.2) := rfl
        rw [e] at hC ⊢
        simp only at hC ⊢
        have le1 := inL_le ih.1 c (k + 1)
        cases hx with
        | kr _ _ h => cases h
        | box _ _ b cs Ls hh hs h1 hK hc =>
          obtain ⟨g', c1, c2, c3, c4, c5, c6, c7⟩ := box_in ih (id := 4 * k) (k := k + 1) hr hnd hL hh hs h1 hK (XRs.of (by simpa using hs) fun j d hd => by simpa using hc j d hd) (fun i h1 h2 => hC i (by omega) h2) (.inr ⟨hC _ (by omega) (by omega), .inl (by omega)⟩)
          refine ⟨g', ⟨c1, c2, fun i hi => ?_, c6, c7⟩, ?_⟩
          · rcases c3 i hi with h | h | h
            · exact .inl h
            · exact .inr (by omega)
            · exact .inr (by omega)
          · rw [← c5]; exact .loc _ _ c4
      | sl sz n get p =>
        have hk := hx.isSl
        cases p with
        | own E =>
          cases hx with
          | kr _ _ h => cases h
          | own _ _ _ _ _ h ho =>
            have hC' : ¬ g.C (4 * k + 1) := hC _ (by omega) (by show 4 * k + 1 < 4 * (k + 1); omega)
            obtain ⟨g', b1, b2, b3, b4, _, b6, b7⟩ := hr.name hC' 0 r
            have hown : Own w0 tb g' w E (g'.ρ (4 * k + 1)) := by
              rw [b6]
              rcases ho with h0 | ⟨b, n', cap, cur, ti, e1, e2, e3, e4, e5, e6, e7⟩
              · exact .inl h0
              · exact .inr ⟨b, n', cap, cur, ti, e1, (hL b (by rw [e1]; simp [Value.ownBlock])).1, e2, e3, e4, e5, e6, by rw [b2]; exact e7⟩
            have hf : ∀ b, r.ownBlock = some b → Free m g' b := fun b hb => ((hL b (by rw [hb]; simp)).2).named hr b1
            have ht := b7.addTok b4 hown (fun i c T hi _ e => by rw [b6] at e; exact (hf _ e).1 i c T hi rfl) (fun q E' b hq _ hb e => by rw [b6] at e; exact (hf _ e).2 q E' hq hb)
            have hlk : ∀ j, look ([(4 * k + 1, .tok E)] ++ m) j = if 4 * k + 1 = j then some (.tok E) else look m j := fun j => by rw [List.cons_append, look_cons, List.nil_append]
            refine ⟨g', ⟨b1, b2, fun i hi => ?_, ht.congr hlk, fun b hb hf => ?_⟩, .sl _ _ _ _ _ (by rw [b2]; exact hk) ⟨b4, b6.symm⟩⟩
            · rcases b3 i hi with h | h
              · exact .inl h
              · refine .inr ⟨by omega, ?_⟩
                show i < 4 * (k + 1)
                omega
            · have hf2 := hf.named hr b1
              refine ⟨fun i c' T' hi => ?_, fun q E' hq => ?_⟩
              · have hi : look ([(4 * k + 1, .tok E)] ++ m) i = some (.cells c' T') := hi
                rw [hlk] at hi
                split at hi
                · cases hi
                · exact hf2.1 i c' T' hi
              · have hq : look ([(4 * k + 1, .tok E)] ++ m) q = some (.tok E') := hq
                rw [hlk] at hq
                split at hq
                · rename_i e; rw [← e, b6]
                  intro e'
                  exact hb (by rw [e']; simp)
                · exact hf2.2 q E' hq
        | none => exact ⟨g, Took.refl hr k L, .kr _ _ hk⟩
        | nil E => exact ⟨g, Took.refl hr k L, .kr _ _ hk⟩
        | tok q => exact ⟨g, Took.refl hr k L, .kr _ _ hk⟩
        | nn => exact ⟨g, Took.refl hr k L, .kr _ _ hk⟩
        | nl => exact ⟨g, Took.refl hr k L, .kr _ _ hk⟩
      | agg l =>
        obtain ⟨cs, rfl, hs, h1, hxl⟩ := hx.isAgg
        obtain ⟨g', T1, e1, v1⟩ := inL_ok (fun _ _ _ _ => trivial) ih l k cs.toList L m g trivial hxl hr hnd hL hC
        exact ⟨g', T1, .agg _ cs (by rw [e1]; exact hs) (fun i hi => h1 i (by rw [← e1]; exact hi)) (fun i d hd => by simpa using v1 i d hd)⟩
      | tup l =>
        obtain ⟨cs, rfl, hs, hxl⟩ := hx.isTup
        obtain ⟨g', T1, e1, v1⟩ := inL_ok (fun _ _ _ _ => trivial) ih l k cs.toList L m g trivial hxl hr hnd hL hC
        exact ⟨g', T1, .tup _ cs (by rw [e1]; exact hs) (fun i d hd => by simpa using v1 i d hd)⟩
      | clo i l =>
        obtain ⟨cs, rfl, hs, hxl⟩ := hx.isClo
        obtain ⟨g', T1, e1, v1⟩ := inL_ok (fun _ _ _ _ => trivial) ih l k cs.toList L m g trivial hxl hr hnd hL hC
        exact ⟨g', T1, .clo _ _ cs (by rw [e1]; exact hs) (fun i d hd => by simpa using v1 i d hd)⟩
      | row sz n T c =>
        cases hx with
        | kr _ _ h => cases h
        | row _ _ _ _ b cs hh hs h1 hK hc =>
          have hC' : ¬ g.C (4 * k + 2) := hC _ (by omega) (by show 4 * k + 2 < 4 * (k + 1); omega)
          obtain ⟨g', c1, c2, c3, c4, c5, c6, c7⟩ := row_in (k := k) (id := 4 * k + 2) hr (hL b (by simp)) hh hs h1 hK hc (.inr hC')
          refine ⟨g', ⟨c1, c2, fun i hi => ?_, c6, c7⟩, ?_⟩
          · rcases c3 i hi with h | h
            · exact .inl h
            · refine .inr ⟨by omega, ?_⟩
              show i < 4 * (k + 1)
              omega
          · have := VR.slm (g := g') (w := w) sz (4 * k + 2) 0 n c4
            rw [c5, Nat.zero_mul] at this
            exact this
      | v x => exact ⟨g, Took.refl hr k L, .kr _ _ hx.isV⟩
      | ref l => exact ⟨g, Took.refl hr k L, .kr _ _ hx.isRef⟩
      | _ => exact ⟨g, Took.refl hr k L, .no _⟩
end
end Go.Ev
namespace Go.Ev
open Go Go.RowKit

section
variable {w0 : W0} {K0 : Nat → Nat → Prop} {tb : Tb} {t : List D} {m : Mem} {g : G} {a : Act} {w : World} {as : List Value}

/-- The blocks of an entry. -/
def blk (m : Mem) (g : G) (i : Nat) : List Nat :=
  match look m i with
  | some (.cells _ _) => [g.σ i]
  | some (.tok _) => (g.ρ i).ownBlock.toList
  | _ => []
def Live (m : Mem) (i : Nat) : Prop := (∃ c T, look m i = some (.cells c T)) ∨ ∃ E, look m i = some (.tok E)

def OutOk (tb : Tb) (m : Mem) (g : G) (w : World) (as : List Value) (h : D → D × List Nat) : Prop :=
  ∀ (d : D) (r : Value), VR g w d r → XR tb g.K w as (h d).1 r ((h d).2.flatMap (blk m g)) ∧ ∀ i ∈ (h d).2, Live m i

theorem outL_ok {h : D → D × List Nat} (hh : OutOk tb m g w as h) : ∀ (l : List D) (rs : List Value), rs.length = l.length → (∀ i d, l[i]? = some d → VR g w d (rs.getD i undef)) →
    XRs tb g.K w as (outL h l).1 rs ((outL h l).2.flatMap (blk m g)) ∧ (∀ i ∈ (outL h l).2, Live m i) ∧ (outL h l).1.length = l.length
  | [], [], _, _ => ⟨.nil, fun i hi => by simp [outL] at hi, rfl⟩
  | d :: l, r :: rs, hl, hv => by
    have e : outL h (d :: l) = ((h d).1 :: (outL h l).1, (h d).2 ++ (outL h l).2) := rfl
    rw [e]
    obtain ⟨x1, x2⟩ := hh d r (by simpa using hv 0 d rfl)
    obtain ⟨y1, y2, y3⟩ := outL_ok hh l rs (by simpa using hl) (fun i d hd => by simpa using hv (i + 1) d (by simpa using hd))
    refine ⟨?_, fun i hi => ?_, by simp [y3]⟩
    · simp only [List.flatMap_append]
      exact .cons x1 y1
    · rcases List.mem_append.1 hi with h | h
      · exact x2 i h
      · exact y2 i h
  | [], r :: rs, hl, _ => by simp at hl
  | d :: l, [], hl, _ => by simp at hl

theorem own_x {E : TypeId} {r : Value} (h : Own w0 tb g w E r) : OwnX tb g.K w E r := by
  rcases h with h | ⟨b, n, cap, cur, ti, h1, _, h3, h4, h5, h6, h7, h8⟩
  · exact .inl h
  · exact .inr ⟨b, n, cap, cur, ti, h1, h3, h4, h5, h6, h7, h8⟩

theorem outD_ok (hr : RS w0 K0 tb t (look m) g a w) : ∀ f, OutOk tb m g w as (outD m f)
  | 0 => fun d r _ => ⟨.kr _ _ (.no _), fun i hi => by simp [outD] at hi⟩
  | f + 1 => by
    have ih : OutOk tb m g w as (outD m f) := outD_ok hr f
    intro d r hv
    have no : XR tb g.K w as .no r (([] : List Nat).flatMap (blk m g)) ∧ ∀ i ∈ ([] : List Nat), Live m i := ⟨.kr _ _ (.no _), fun i hi => by simp at hi⟩
    cases d with
    | loc i off =>
      cases off with
      | succ o => exact no
      | zero =>
        obtain ⟨hC, rfl⟩ := hv.isLoc
        cases hl : look m i with
        | none => simp only [outD, hl]; exact no
        | some b => cases b with
          | tok E => simp only [outD, hl]; exact no
          | dead => simp only [outD, hl]; exact no
          | cells c T =>
            obtain ⟨_, _, hK, cs, hh, hs, h1, hc⟩ := hr.bx i c T hl
            obtain ⟨x1, x2, x3⟩ := outL_ok ih c cs.toList (by simpa using hs) (fun j d hd => by simpa using hc j d hd)
            have e : outD m (f + 1) (.loc i 0) = (.box T (outL (outD m f) c).1, i :: (outL (outD m f) c).2) := by simp only [outD, hl]
            rw [e]
            refine ⟨?_, fun j hj => ?_⟩
            · obtain ⟨y1, Ls, y2, y3⟩ := x1.idx
              have : (i :: (outL (outD m f) c).2).flatMap (blk m g) = g.σ i :: (List.range (outL (outD m f) c).1.length).flatMap Ls := by
                rw [List.flatMap_cons, ← y3]; simp [blk, hl]
              rw [this]
              exact .box T _ _ cs Ls hh (by rw [x3]; exact hs) (fun j hj => h1 j (by rw [← x3]; exact hj)) hK (fun j d hd => by simpa using y2 j d hd)
            · rcases List.mem_cons.1 hj with rfl | hj
              · exact .inl ⟨c, T, hl⟩
              · exact x2 j hj
    | sl sz n get p =>
      obtain ⟨h1, h2⟩ := hv.isSl
      have dead : XR tb g.K w as (.sl sz n get .none) r (([] : List Nat).flatMap (blk m g)) ∧ ∀ i ∈ ([] : List Nat), Live m i := ⟨.kr _ _ h1, fun i hi => by simp at hi⟩
      cases p with
      | none => exact dead
      | own E => exact dead
      | nn => exact dead
      | nl => exact dead
      | nil E =>
        have e : r = .slice none 0 0 := h2
        subst e
        exact ⟨XR.own sz n get E _ h1 (.inl rfl), fun i hi => by simp [outD] at hi⟩
      | tok q =>
        obtain ⟨_, h3⟩ := h2
        cases hl : look m q with
        | none => simp only [outD, hl]; exact dead
        | some b => cases b with
          | cells c T => simp only [outD, hl]; exact dead
          | dead => simp only [outD, hl]; exact dead
          | tok E =>
            simp only [outD, hl]
            have ho := own_x (hr.tk q E hl).2
            rw [← h3] at ho
            refine ⟨?_, fun j hj => ?_⟩
            · have : [q].flatMap (blk m g) = r.ownBlock.toList := by simp [blk, hl, h3]
              rw [this]
              exact .own sz n get E r h1 ho
            · simp at hj; subst hj; exact .inr ⟨E, hl⟩
    | agg l =>
      obtain ⟨cs, rfl, hs, h1, hc⟩ := hv.isAgg
      obtain ⟨x1, x2, x3⟩ := outL_ok ih l cs.toList (by simpa using hs) (fun j d hd => by simpa using hc j d hd)
      obtain ⟨y1, Ls, y2, y3⟩ := x1.idx
      refine ⟨?_, x2⟩
      show XR tb g.K w as (.agg (outL (outD m f) l).1) _ ((outL (outD m f) l).2.flatMap (blk m g))
      rw [y3]
      exact .agg _ cs Ls (by rw [x3]; exact hs) (fun j hj => h1 j (by rw [← x3]; exact hj)) (fun j d hd => by simpa using y2 j d hd)
    | tup l =>
      obtain ⟨cs, rfl, hs, hc⟩ := hv.isTup
      obtain ⟨x1, x2, x3⟩ := outL_ok ih l cs.toList (by simpa using hs) (fun j d hd => by simpa using hc j d hd)
      obtain ⟨y1, Ls, y2, y3⟩ := x1.idx
      refine ⟨?_, x2⟩
      show XR tb g.K w as (.tup (outL (outD m f) l).1) _ ((outL (outD m f) l).2.flatMap (blk m g))
      rw [y3]
      exact .tup _ cs Ls (by rw [x3]; exact hs) (fun j d hd => by simpa using y2 j d hd)
    | clo i l =>
      obtain ⟨cs, rfl, hs, hc⟩ := hv.isClo
      obtain ⟨x1, x2, x3⟩ := outL_ok ih l cs.toList (by simpa using hs) (fun j d hd => by simpa using hc j d hd)
      obtain ⟨y1, Ls, y2, y3⟩ := x1.idx
      refine ⟨?_, x2⟩
      show XR tb g.K w as (.clo i (outL (outD m f) l).1) _ ((outL (outD m f) l).2.flatMap (blk m g))
      rw [y3]
      exact .clo i _ cs Ls (by rw [x3]; exact hs) (fun j d hd => by simpa using y2 j d hd)
    | v x => exact ⟨.kr _ _ (by cases hv with | kr _ _ h => exact h), fun i hi => by simp [outD] at hi⟩
    | ref l => exact ⟨.kr _ _ hv.isRef, fun i hi => by simp [outD] at hi⟩
    | no => exact no
    | box T c => exact no
    | argp j => exact no
    | row sz n T c => exact no
    | slm sz i off n =>
      cases off with
      | succ o => exact no
      | zero =>
        obtain ⟨hC, rfl⟩ := hv.isSlm
        cases hl : look m i with
        | none => simp only [outD, hl]; exact no
        | some b => cases b with
          | tok E => simp only [outD, hl]; exact no
          | dead => simp only [outD, hl]; exact no
          | cells c T =>
            obtain ⟨_, _, hK, cs, hh, hs, h1, hc⟩ := hr.bx i c T hl
            simp only [outD, hl]
            refine ⟨?_, fun j hj => ?_⟩
            · have e : [i].flatMap (blk m g) = [g.σ i] := by simp [blk, hl]
              rw [e, Nat.zero_mul]
              refine .row sz n T _ _ cs hh (by simpa using hs) (fun j hj => h1 j (by simpa using hj)) hK (fun j d hd => ?_)
              simp only [List.getElem?_map, Option.map_eq_some_iff] at hd
              obtain ⟨d', hd', rfl⟩ := hd
              exact kp0_ok (hc j d' hd')
            · simp at hj; subst hj; exact .inl ⟨c, T, hl⟩

theorem hasI_iff {x : Nat} : ∀ {l : List Nat}, hasI x l = true ↔ x ∈ l
  | [] => by simp [hasI]
  | y :: r => by
    have ih := @hasI_iff x r
    simp only [hasI]
    cases h : Nat.beq y x with
    | true => have := Nat.eq_of_beq_eq_true h; simp [this]
    | false =>
      have : x ≠ y := fun e => by subst e; simp at h
      simp [ih, this]
theorem onceI_nodup : ∀ {l : List Nat}, onceI l = true → l.Nodup
  | [], _ => .nil
  | x :: r, h => by
    simp only [onceI] at h
    cases hx : hasI x r with
    | true => rw [hx] at h; cases h
    | false =>
      rw [hx] at h
      refine List.nodup_cons.2 ⟨fun hm => ?_, onceI_nodup h⟩
      rw [hasI_iff.2 hm] at hx; cases hx

theorem blk_nodup (i : Nat) : (blk m g i).Nodup := by
  unfold blk
  split
  · simp
  · cases (g.ρ i).ownBlock <;> simp
  · simp
theorem blk_disj (hr : RS w0 K0 tb t (look m) g a w) {i j b : Nat} (hi : b ∈ blk m g i) (hj : b ∈ blk m g j) : i = j := by
  unfold blk at hi hj
  split at hi
  · rename_i c T hl
    simp at hi
    split at hj
    · rename_i c' T' hl'
      simp at hj
      exact hr.bd i j _ _ _ _ hl hl' (by omega)
    · rename_i E hl'
      simp at hj
      exact absurd (by rw [hj, hi]) (hr.td j E i c T hl' hl)
    · simp at hj
  · rename_i E hl
    simp at hi
    split at hj
    · rename_i c' T' hl'
      simp at hj
      exact absurd (by rw [hi, hj]) (hr.td i E j c' T' hl hl')
    · rename_i E' hl'
      simp at hj
      exact hr.tt i j E E' b hl hl' hi hj
    · simp at hj
  · simp at hi
theorem flat_nodup (hr : RS w0 K0 tb t (look m) g a w) : ∀ {u : List Nat}, u.Nodup → (u.flatMap (blk m g)).Nodup
  | [], _ => .nil
  | i :: u, h => by
    obtain ⟨h1, h2⟩ := List.nodup_cons.1 h
    rw [List.flatMap_cons]
    refine List.nodup_append.2 ⟨blk_nodup i, flat_nodup hr h2, fun x hx y hy e => ?_⟩
    subst e
    obtain ⟨j, hj, hy⟩ := List.mem_flatMap.1 hy
    have := blk_disj hr hx hy
    subst this
    exact h1 hj
theorem blk_mine (hr : RS w0 K0 tb t (look m) g a w) {i b : Nat} (h : b ∈ blk m g i) : w0.mine b := by
  unfold blk at h
  split at h
  · rename_i c T hl
    simp at h; subst h
    exact (hr.bx i c T hl).2.1
  · rename_i E hl
    simp at h
    rcases (hr.tk i E hl).2 with h0 | ⟨b', n, cap, cur, ti, h1, h2, _⟩
    · rw [h0] at h; simp [Value.ownBlock] at h
    · rw [h1] at h; simp [Value.ownBlock] at h; subst h; exact h2
  · simp at h
theorem look_dead (u : List Nat) (i : Nat) : look ((u.map fun i => (i, Bx.dead)) ++ m) i = if i ∈ u then some .dead else look m i := by
  induction u with
  | nil => simp
  | cons x u ih =>
    rw [List.map_cons, List.cons_append, look_cons, ih]
    by_cases h : x = i
    · simp [h]
    · have : ¬ i = x := fun e => h e.symm
      simp [h, this]

/-- Behind a call: what went over is gone, all else is as it was. -/
theorem RS.handed (hr : RS w0 K0 tb t (look m) g a w) {u : List Nat} (hu : ∀ i ∈ u, Live m i) {K' : Nat → Nat → Prop} {w' : World}
    (h1 : ∀ b o, g.K b o → K' b o ∧ w'.cell? ⟨b, o, none⟩ = w.cell? ⟨b, o, none⟩) (h2 : ∀ b o, K' b o → g.K b o ∨ b ∈ u.flatMap (blk m g) ∨ w.heap.size ≤ b) (h3 : ∀ b o, K' b o → b < w'.heap.size)
    (hos : w'.os = w.os) (htp : w'.tape = w.tape) (hou : w'.output = w.output) (hsz : w.heap.size ≤ w'.heap.size) (hb : ∀ k, k < w.heap.size → k ∉ u.flatMap (blk m g) → w'.heap[k]? = w.heap[k]?) :
    RS w0 K0 tb t (look ((u.map fun i => (i, Bx.dead)) ++ m)) ⟨g.C, g.σ, g.ρ, K'⟩ a w' ∧ Ext g ⟨g.C, g.σ, g.ρ, K'⟩ w w' ∧
      ∀ b, (b ∈ u.flatMap (blk m g) ∨ w.heap.size ≤ b) → Free ((u.map fun i => (i, Bx.dead)) ++ m) ⟨g.C, g.σ, g.ρ, K'⟩ b := by
  let g' : G := ⟨g.C, g.σ, g.ρ, K'⟩
  have he : Ext g g' w w' := ⟨fun _ h => h, fun _ _ => rfl, fun _ _ => rfl, h1⟩
  have hmine : ∀ b, b ∈ u.flatMap (blk m g) → w0.mine b := fun b hb => by
    obtain ⟨i, _, hb⟩ := List.mem_flatMap.1 hb
    exact blk_mine hr hb
  have hnb : ∀ i b, i ∉ u → b ∈ blk m g i → b ∉ u.flatMap (blk m g) := fun i b hi hb hm => by
    obtain ⟨j, hj, hb'⟩ := List.mem_flatMap.1 hm
    have := blk_disj hr hb hb'
    subst this
    exact hi hj
  have hlk : ∀ {i : Nat} {b : Bx}, b ≠ .dead → look ((u.map fun i => (i, Bx.dead)) ++ m) i = some b → i ∉ u ∧ look m i = some b := fun {i b} hne h => by
    rw [look_dead] at h
    split at h
    · exact absurd (Option.some.inj h).symm hne
    · rename_i hi; exact ⟨hi, h⟩
  have hbox : ∀ i c T, look ((u.map fun i => (i, Bx.dead)) ++ m) i = some (.cells c T) → i ∉ u ∧ look m i = some (.cells c T) := fun i c T h => hlk (by simp) h
  have htok : ∀ q E, look ((u.map fun i => (i, Bx.dead)) ++ m) q = some (.tok E) → q ∉ u ∧ look m q = some (.tok E) := fun q E h => hlk (by simp) h
  have hblt : ∀ {i c T}, look m i = some (.cells c T) → g.σ i < w.heap.size := fun {i c T} hi => by
    obtain ⟨_, _, _, cs, h1', _⟩ := hr.bx i c T hi
    exact (Array.getElem?_eq_some_iff.1 h1').1
  have htlt : ∀ {q E b}, look m q = some (.tok E) → (g.ρ q).ownBlock = some b → b < w.heap.size := fun {q E b} hq hb => by
    rcases (hr.tk q E hq).2 with h0 | ⟨b', n, cap, cur, ti, e1, _, e3, _⟩
    · rw [h0] at hb; simp [Value.ownBlock] at hb
    · rw [e1] at hb; simp [Value.ownBlock] at hb; subst hb
      exact (Array.getElem?_eq_some_iff.1 e3).1
  refine ⟨?_, he, fun b hb' => ⟨fun i c T hi e => ?_, fun q E hq e => ?_⟩⟩
  · exact {
      len := hr.len
      tm := fun i d hd => (hr.tm i d hd).mono he
      df := hr.df
      bx := fun i c T hi => by
        obtain ⟨hiu, hi⟩ := hbox i c T hi
        obtain ⟨hC, hm, hK, cs, e1, e2, e3, e4⟩ := hr.bx i c T hi
        have hn : g.σ i ∉ u.flatMap (blk m g) := hnb i _ hiu (by simp [blk, hi])
        refine ⟨hC, hm, fun o hk => ?_, cs, (hb _ (hblt hi) hn).trans e1, e2, e3, fun j d hd => (e4 j d hd).mono he⟩
        rcases h2 _ _ hk with h | h | h
        · exact hK o h
        · exact hn h
        · have := hblt hi
          have h' : w.heap.size ≤ g.σ i := h
          omega
      bd := fun i j c T c' T' hi hj e => hr.bd i j _ _ _ _ (hbox i c T hi).2 (hbox j c' T' hj).2 e
      tk := fun q E hq => by
        obtain ⟨hqu, hq⟩ := htok q E hq
        obtain ⟨hC, ho⟩ := hr.tk q E hq
        refine ⟨hC, ?_⟩
        rcases ho with h0 | ⟨b, n, cap, cur, ti, e1, e2, e3, e4, e5, e6, e7, e8⟩
        · exact .inl h0
        · have hn : b ∉ u.flatMap (blk m g) := hnb q _ hqu (by simp [blk, hq, e1, Value.ownBlock])
          have hlt := (Array.getElem?_eq_some_iff.1 e3).1
          refine .inr ⟨b, n, cap, cur, ti, e1, e2, (hb _ hlt hn).trans e3, e4, e5, e6, e7, fun o ho hk => ?_⟩
          rcases h2 _ _ hk with h | h | h
          · exact e8 o ho h
          · exact hn h
          · omega
      td := fun q E i c T hq hi => hr.td q E i c T (htok q E hq).2 (hbox i c T hi).2
      tt := fun q q' E E' b hq hq' e e' => hr.tt q q' E E' b (htok q E hq).2 (htok q' E' hq').2 e e'
      dd := fun i hi => by
        rw [look_dead] at hi
        split at hi
        · rename_i hiu
          rcases hu i hiu with ⟨c, T, h⟩ | ⟨E, h⟩
          · exact (hr.bx i c T h).1
          · exact (hr.tk i E h).1
        · exact hr.dd i hi
      kb := h3
      k0 := fun b o h => (h1 b o (hr.k0 b o h)).1
      k1 := fun b o h => by
        rcases h2 b o h with h | h | h
        · exact hr.k1 b o h
        · exact .inr (hmine b h)
        · exact .inr (.inr (Nat.le_trans hr.ext.size h))
      kv := fun b o h => (h1 b o (hr.k0 b o h)).2.trans (hr.kv b o h)
      ar := hr.ar
      ext := ⟨hos.trans hr.ext.os, htp.trans hr.ext.tape, hou.trans hr.ext.output, Nat.le_trans hr.ext.size hsz, fun k hk hF => (hb k (Nat.lt_of_lt_of_le hk hr.ext.size) (fun hm => by
        rcases hmine k hm with h | h
        · exact hF h
        · omega)).trans (hr.ext.block k hk hF)⟩ }
  · obtain ⟨hiu, hi⟩ := hbox i c T hi
    have e : g.σ i = b := e
    rcases hb' with h | h
    · exact hnb i b hiu (by simp [blk, hi, e]) h
    · have := hblt hi; omega
  · obtain ⟨hqu, hq⟩ := htok q E hq
    have e : (g.ρ q).ownBlock = some b := e
    rcases hb' with h | h
    · exact hnb q b hqu (by simp [blk, hq, e]) h
    · have := htlt hq e; omega

/-! ### The arguments' places told anew -/
def UpdOk (w0 : W0) (K0 : Nat → Nat → Prop) (tb : Tb) (t : List D) (a : Act) (w : World) (as : List Value) (u : List Nat) (h : Nat → D → D → Mem × Nat) : Prop :=
  (∀ k d0 d, k ≤ (h k d0 d).2) ∧ ∀ (k : Nat) (d0 d : D) (r : Value) (L : List Nat) (m : Mem) (g : G), VR g w d0 r → XR tb g.K w as d r L → RS w0 K0 tb t (look m) g a w → L.Nodup → (∀ b ∈ L, w0.mine b ∧ Free m g b) → (∀ i ∈ u, g.C i) →
    (∀ i, 4 * k ≤ i → i < 4 * (h k d0 d).2 → ¬ g.C i) → ∃ g', Took w0 K0 tb t m g a w k (h k d0 d).2 (h k d0 d).1 L g'
theorem updL_le {h : Nat → D → D → Mem × Nat} (hh : ∀ k d0 d, k ≤ (h k d0 d).2) : ∀ (l0 l : List D) (k : Nat), k ≤ (updL h k l0 l).2
  | [], _, _ => by simp [updL]
  | _ :: _, [], _ => by simp [updL]
  | d0 :: l0, d :: l, k => Nat.le_trans (hh k d0 d) (updL_le hh l0 l (h k d0 d).2)
theorem updL_ok {u : List Nat} {h : Nat → D → D → Mem × Nat} (hh : UpdOk w0 K0 tb t a w as u h) : ∀ (l0 l : List D) (k : Nat) (rs : List Value) (L : List Nat) (m : Mem) (g : G), (∀ i d, l0[i]? = some d → VR g w d (rs.getD i undef)) → XRs tb g.K w as l rs L →
    RS w0 K0 tb t (look m) g a w → L.Nodup → (∀ b ∈ L, w0.mine b ∧ Free m g b) → (∀ i ∈ u, g.C i) → (∀ i, 4 * k ≤ i → i < 4 * (updL h k l0 l).2 → ¬ g.C i) → ∃ g', Took w0 K0 tb t m g a w k (updL h k l0 l).2 (updL h k l0 l).1 L g'
  | [], l, k, rs, L, m, g, _, _, hr, _, _, _, _ => ⟨g, by simpa [updL] using Took.refl hr k L⟩
  | _ :: _, [], k, rs, L, m, g, _, _, hr, _, _, _, _ => ⟨g, by simpa [updL] using Took.refl hr k L⟩
  | d0 :: l0, d :: l, k, rs, L, m, g, hv, hx, hr, hnd, hL, hu, hC => by
    cases hx with
    | @cons _ r L M _ rs hx hxl =>
      have e : updL h k (d0 :: l0) (d :: l) = ((updL h (h k d0 d).2 l0 l).1 ++ (h k d0 d).1, (updL h (h k d0 d).2 l0 l).2) := rfl
      rw [e] at hC ⊢
      simp only at hC ⊢
      have le1 := hh.1 k d0 d
      have le2 := updL_le hh.1 l0 l (h k d0 d).2
      obtain ⟨n1, n2, n3⟩ := List.nodup_append.1 hnd
      obtain ⟨g1, T1⟩ := hh.2 k d0 d r L m g (by simpa using hv 0 d0 rfl) hx hr n1 (fun b hb => hL b (by simp [hb])) hu (fun i h1 h2 => hC i h1 (by omega))
      have T1' := T1
      obtain ⟨a1, a2, a3, a4, a5⟩ := T1
      obtain ⟨g2, T2⟩ := updL_ok hh l0 l (h k d0 d).2 rs M _ g1 (fun i d hd => by simpa using (hv (i + 1) d (by simpa using hd)).mono a1) (by rw [a2]; exact hxl) a4 n2
        (fun b hb => ⟨(hL b (by simp [hb])).1, a5 b (fun hb' => n3 b hb' b hb rfl) (hL b (by simp [hb])).2⟩) (fun i hi => a1.C i (hu i hi)) (fun i h1 h2 h3 => by
          rcases a3 i h3 with h | h
          · exact hC i (by omega) h2 h
          · omega)
      exact ⟨g2, T1'.trans T2 le1 le2⟩
theorem updD_ok {u : List Nat} : ∀ f, UpdOk w0 K0 tb t a w as u (updD u f)
  | 0 => ⟨fun k d0 d => by simp [updD], fun k d0 d r L m g _ _ hr _ _ _ _ => ⟨g, by simpa [updD] using Took.refl hr k L⟩⟩
  | f + 1 => by
    have ih : UpdOk w0 K0 tb t a w as u (updD u f) := updD_ok f
    have inn : InOk w0 K0 tb t a w as (fun _ => True) (inD f) := inD_ok f
    refine ⟨fun k d0 d => ?_, fun k d0 d r L m g hv hx hr hnd hL hu hC => ?_⟩
    · unfold updD
      split
      · split
        · exact inL_le inn.1 _ k
        · exact Nat.le_refl _
      · split <;> exact Nat.le_refl _
      · exact updL_le ih.1 _ _ k
      · exact updL_le ih.1 _ _ k
      · exact Nat.le_refl _
    · revert hC
      simp only [updD]
      split
      · rename_i i T c
        cases hi : hasI i u with
        | false => exact fun _ => ⟨g, Took.refl hr k L⟩
        | true =>
          intro hC
          simp only at hC ⊢
          have hiu := hu i (hasI_iff.1 hi)
          obtain ⟨_, rfl⟩ := hv.isLoc
          cases hx with
          | kr _ _ h => cases h
          | box _ _ b cs Ls hh hs h1 hK hc =>
            obtain ⟨g', c1, c2, c3, c4, c5, c6, c7⟩ := box_in inn (id := i) (k := k) hr hnd hL hh hs h1 hK (XRs.of (by simpa using hs) fun j d hd => by simpa using hc j d hd) hC (.inl ⟨hiu, rfl⟩)
            refine ⟨g', c1, c2, fun j hj => ?_, c6, c7⟩
            rcases c3 j hj with h | h | h
            · exact .inl h
            · exact .inl (h ▸ hiu)
            · exact .inr h
      · rename_i _ i n _ n' T c
        cases hi : hasI i u with
        | false => exact fun _ => ⟨g, Took.refl hr k L⟩
        | true =>
          intro hC
          simp only at hC ⊢
          have hiu := hu i (hasI_iff.1 hi)
          obtain ⟨_, rfl⟩ := hv.isSlm
          rw [Nat.zero_mul] at hx
          cases hx with
          | kr _ _ h => cases h
          | row _ _ _ _ b cs hh hs h1 hK hc =>
            obtain ⟨g', c1, c2, c3, c4, c5, c6, c7⟩ := row_in (k := k) (id := i) hr (hL _ (by simp)) hh hs h1 hK hc (.inl ⟨hiu, rfl⟩)
            refine ⟨g', c1, c2, fun j hj => ?_, c6, c7⟩
            rcases c3 j hj with h | h
            · exact .inl h
            · exact .inl (h ▸ hiu)
      · intro hC
        obtain ⟨cs, rfl, _, _, hc⟩ := hv.isAgg
        obtain ⟨cs', e, _, _, hxl⟩ := hx.isAgg
        cases e
        exact updL_ok ih _ _ k cs.toList L m g (fun i d hd => by simpa using hc i d hd) hxl hr hnd hL hu hC
      · intro hC
        obtain ⟨cs, rfl, _, hc⟩ := hv.isClo
        obtain ⟨cs', e, _, hxl⟩ := hx.isClo
        cases e
        exact updL_ok ih _ _ k cs.toList L m g (fun i d hd => by simpa using hc i d hd) hxl hr hnd hL hu hC
      · exact fun _ => ⟨g, Took.refl hr k L⟩

/-! ### The result -/
def ArgsOk (asD : List D) (as : List Value) (w : World) (g : G) : Prop := ∀ (j : Nat) (d : D) (r : Value), asD[j]? = some d → as[j]? = some r → VR g w d r
theorem inR_ok {asD : List D} : ∀ f, InOk w0 K0 tb t a w as (ArgsOk asD as w) (inR asD f)
  | 0 => ⟨fun k d => Nat.le_refl _, fun k d r L m g _ _ hr _ _ _ => ⟨g, Took.refl hr k L, .no _⟩⟩
  | f + 1 => by
    have ih : InOk w0 K0 tb t a w as (ArgsOk asD as w) (inR asD f) := inR_ok f
    have inn : InOk w0 K0 tb t a w as (fun _ => True) (inD (f + 1)) := inD_ok (f + 1)
    have hP : ∀ g g' : G, ArgsOk asD as w g → Ext g g' w w → ArgsOk asD as w g' := fun g g' h he j d r h1 h2 => (h j d r h1 h2).mono he
    refine ⟨fun k d => ?_, fun k d r L m g hg hx hr hnd hL hC => ?_⟩
    · cases d with
      | argp j => exact Nat.le_refl _
      | tup l => exact inL_le ih.1 l k
      | agg l => exact inL_le ih.1 l k
      | _ => exact inn.1 k _
    · cases d with
      | argp j =>
        refine ⟨g, Took.refl hr k L, ?_⟩
        show VR g w (asD.getD j .no) r
        cases hx with
        | kr _ _ h => cases h
        | argp _ _ h =>
          rw [List.getD_eq_getElem?_getD]
          cases hd : asD[j]? with
          | none => exact .no _
          | some d => exact hg j d r hd h
      | tup l =>
        obtain ⟨cs, rfl, hs, hxl⟩ := hx.isTup
        obtain ⟨g', T1, e1, v1⟩ := inL_ok hP ih l k cs.toList L m g hg hxl hr hnd hL hC
        exact ⟨g', T1, .tup _ cs (by rw [e1]; exact hs) (fun i d hd => by simpa using v1 i d hd)⟩
      | agg l =>
        obtain ⟨cs, rfl, hs, h1, hxl⟩ := hx.isAgg
        obtain ⟨g', T1, e1, v1⟩ := inL_ok hP ih l k cs.toList L m g hg hxl hr hnd hL hC
        exact ⟨g', T1, .agg _ cs (by rw [e1]; exact hs) (fun i hi => h1 i (by rw [← e1]; exact hi)) (fun i d hd => by simpa using v1 i d hd)⟩
      | _ => exact inn.2 k _ r L m g trivial hx hr hnd hL hC

/-- **A call that is handed places.** -/
theorem callX_ok {P : Program} {gl : Gls} {e : FeX} {f : FuncId} (he : ∀ args d ys, e args = some (true, d, ys) → SpecX P gl tb f args d ys) {fr : Nat} {ds : List D} {rs : List Value} (hl : rs.length = ds.length) (hv : ∀ i d, ds[i]? = some d → VR g w d (rs.getD i undef))
    {d : D} {δ : Mem} (h : callX e fr ds m = some (true, d, δ)) (hr : RS w0 K0 tb t (look m) g a w) (hC : ∀ i, 4 * fr ≤ i → i < 4 * (fr + 31) → ¬ g.C i) (hgl : Gl gl g.K w) :
    Calls P f rs.toArray w fun ex w' => ∃ r g', ex = .returned r ∧ Ext g g' w w' ∧ (∀ i, g'.C i → g.C i ∨ (4 * fr ≤ i ∧ i < 4 * (fr + 31))) ∧ VR g' w' d r ∧ RS w0 K0 tb t (look (δ ++ m)) g' a w' := by
  unfold callX at h
  obtain ⟨x1, x2, x3⟩ := outL_ok (as := []) (outD_ok hr 6) ds rs hl hv
  generalize outL (outD m 6) ds = X at h x1 x2 x3
  obtain ⟨xs, u⟩ := X
  try simp only at h x1 x2 x3
  split at h
  · cases h
  · rename_i c d1 ys hey
    have le1 := updL_le (updD_ok (w0 := w0) (K0 := K0) (tb := tb) (t := t) (a := a) (w := w) (as := rs) (u := u) 6).1 ds ys fr
    generalize hum : updL (updD u 6) fr ds ys = U at h le1
    obtain ⟨um, k⟩ := U
    try simp only at h le1
    split at h
    · rename_i um' k' hon hpe
      cases hpe
      have le2 := (inR_ok (w0 := w0) (K0 := K0) (tb := tb) (t := t) (a := a) (w := w) (as := rs) (asD := ds) 7).1 k d1
      generalize hrm : inR ds 7 k d1 = R at h le2
      obtain ⟨d2, rm, k2⟩ := R
      try simp only at h le2
      split at h
      · rename_i hle
        have hle := Nat.le_of_ble_eq_true hle
        simp only [Option.some.injEq, Prod.mk.injEq] at h
        obtain ⟨rfl, rfl, rfl⟩ := h
        simp only [Bool.and_eq_true] at hon
        have hnd := onceI_nodup hon.1
        refine (he xs d1 ys hey g.K w rs _ hgl hr.kb x1 (flat_nodup hr hnd)).mono fun ex w' ⟨r, K', L', e1, h1, h2, h3, hx, hnd', hL', hos, htp, hou, hsz, hb⟩ => ?_
        obtain ⟨hr0, he0, hfree⟩ := hr.handed x2 h1 h2 h3 hos htp hou hsz hb
        generalize hg0 : (⟨g.C, g.σ, g.ρ, K'⟩ : G) = g0 at hr0 he0 hfree
        have hgC : g0.C = g.C := by rw [← hg0]
        have hgK : g0.K = K' := by rw [← hg0]
        cases hx with
        | @cons _ _ L M _ _ hxd hxy =>
          obtain ⟨n1, n2, n3⟩ := List.nodup_append.1 hnd'
          have hLM : ∀ b, b ∈ L ++ M → w0.mine b ∧ Free ((u.map fun i => (i, Bx.dead)) ++ m) g0 b := fun b hb => by
            refine ⟨?_, hfree b (hL' b hb)⟩
            rcases hL' b hb with h | h
            · obtain ⟨i, _, hb⟩ := List.mem_flatMap.1 h
              exact blk_mine hr hb
            · exact .inr (Nat.le_trans hr.ext.size h)
          have hv0 : ∀ i d, ds[i]? = some d → VR g0 w' d (rs.getD i undef) := fun i d hd => (hv i d hd).mono he0
          obtain ⟨g1, T1⟩ := updL_ok (updD_ok 6) ds ys fr rs M _ g0 hv0 (by rw [hgK]; exact hxy) hr0 n2 (fun b hb => hLM b (by simp [hb])) (fun i hi => by
            rw [hgC]
            rcases x2 i hi with ⟨c, T, h⟩ | ⟨E, h⟩
            · exact (hr.bx i c T h).1
            · exact (hr.tk i E h).1) (fun i h1 h2 => by rw [hgC]; rw [hum] at h2; exact hC i h1 (by simp only at h2; omega))
          rw [hum] at T1
          have T1' := T1
          obtain ⟨a1, a2, a3, a4, a5⟩ := T1
          try simp only at a3 a4 a5
          obtain ⟨g2, T2, v2⟩ := (inR_ok (asD := ds) 7).2 k d1 r L _ g1 (fun j d r hd hj => by
            have := (hv0 j d hd).mono a1
            rwa [List.getD_eq_getElem?_getD, hj] at this) (by rw [a2, hgK]; exact hxd) a4 n1 (fun b hb => ⟨(hLM b (by simp [hb])).1, a5 b (fun hb' => n3 b hb b hb' rfl) (hLM b (by simp [hb])).2⟩) (fun i h1 h2 h3 => by
              rw [hrm] at h2
              rcases a3 i h3 with h | h
              · rw [hgC] at h
                exact hC i (by omega) (by simp only at h2; omega) h
              · omega)
          rw [hrm] at T2 v2
          obtain ⟨b1, b2, b3, b4, b5⟩ := T2
          try simp only at b3 b4 v2
          refine ⟨r, g2, e1, he0.trans (a1.trans b1), fun i hi => ?_, v2, ?_⟩
          · rcases b3 i hi with h | h
            · rcases a3 i h with h | h
              · rw [hgC] at h; exact .inl h
              · exact .inr (by omega)
            · exact .inr (by omega)
          · simpa [List.append_assoc] using b4
      · cases h
    · cases h
end
end Go.Ev
