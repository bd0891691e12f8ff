/- Lists of strings; strings.Split; paths. -/
import Derived.Test.YtbjpkbolmpcmfaaDoorFb
import Derived.Test.YtbjpkbolmpcmfaaDoorShelf
namespace Go.Cb
open Go.Ev
abbrev noT : ByteArray := ⟨#[]⟩
/-- A list of strings. -/
abbrev cTs : Cd (List ByteArray) := sT.list 1 noT
end Go.Cb
namespace Go.Ev
open Go Go.RowKit
/-- A new row of kept cells is given back. -/
theorem KR.row {K : Nat → Nat → Prop} {w : World} {T : TypeId} {cs : Array Value} {sz n : Nat} {get : Nat → List D} (hK : ∀ b o, K b o → b < w.heap.size) (hn : n * sz ≤ cs.size) (cap : Nat) (hcap : n ≤ cap) (hl : ∀ i, i < n → (get i).length = sz)
    (h1 : ∀ i k, i < n → k < sz → oneC (cs.getD (i * sz + k) undef) = true) (hc : ∀ i k d, i < n → (get i)[k]? = some d → KR K w d (cs.getD (i * sz + k) undef)) :
    ∃ K' : Nat → Nat → Prop, (∀ b o, K b o → K' b o) ∧ (∀ b o, K' b o → K b o ∨ w.heap.size ≤ b) ∧ (∀ b o, K' b o → b < (w.alloc (.cells cs T)).heap.size) ∧
      KR K' (w.alloc (.cells cs T)) (.sl sz n get .none) (.slice (some ⟨w.heap.size, 0, none⟩) n cap) ∧ Below w.heap.size w (w.alloc (.cells cs T)) := by
  have hb : Below w.heap.size w (w.alloc (.cells cs T)) := (Below.refl _ w).alloc (Nat.le_refl _) _
  have hsz : (w.alloc (.cells cs T)).heap.size = w.heap.size + 1 := by simp
  have hh : (w.alloc (.cells cs T)).heap[w.heap.size]? = some (.cells cs T (0, 0)) := by
    show (w.heap.push _)[w.heap.size]? = _
    simp
  refine ⟨fun b o => K b o ∨ (b = w.heap.size ∧ o < n * sz), fun b o h => .inl h, fun b o h => h.imp (fun h => h) fun h => by omega, fun b o h => ?_, ?_, hb⟩
  · rw [hsz]; rcases h with h | h
    · have := hK b o h; omega
    · omega
  · have hlt : ∀ i k, i < n → k < sz → i * sz + k < n * sz := fun i k hi hk => by
      calc i * sz + k < i * sz + sz := by omega
        _ = (i + 1) * sz := by rw [Nat.add_mul]; simp
        _ ≤ n * sz := Nat.mul_le_mul_right _ (by omega)
    refine .sl sz n get w.heap.size 0 cap (fun i k => cs.getD (i * sz + k) undef) hcap hl (fun i k hi hk => ⟨.inr ⟨rfl, by have := hlt i k hi hk; omega⟩, ?_, h1 i k hi hk⟩) (fun i k d hi hd => (hc i k d hi hd).mono fun b o h => ⟨.inl h, cell_of_below hb (hK b o h)⟩)
    rw [cell_of_row _ _ _ cs T _ hh, Nat.zero_add]
    have := hlt i k hi hk
    simp [show i * sz + k < cs.size by omega]
end Go.Ev
namespace Go.Cb
open Go.Ev
theorem splitB_size (sep : ByteArray) (save : Nat) : ∀ (k : Nat) (s : ByteArray), ∀ x ∈ Lib.splitB sep save k s, x.size ≤ s.size
  | 0, s, x, h => by simp [Lib.splitB] at h; subst h; exact Nat.le_refl _
  | k + 1, s, x, h => by
    unfold Lib.splitB at h
    split at h
    · simp at h; subst h; exact Nat.le_refl _
    · rcases List.mem_cons.1 h with rfl | h
      · simp; omega
      · have := splitB_size sep save k _ x h
        simp at this; omega
def splitS (s sep : ByteArray) : List ByteArray := Lib.splitB sep 0 (Lib.countB s sep) s
end Go.Cb
namespace Go.Proofs.YtbjpkbolmpcmfaaDoor
open Go.Ev Go.Cb
def e_Split : Fe
  | [.v (.string s), .v (.string sep)] => some (decide (1 ≤ sep.size), cTs.enc (splitS s sep))
  | _ => none
theorem ok_Split : En 64 e_Split := ⟨callable Tryd.func64 (by kernel_rfl), fun args d he => by
  unfold e_Split at he
  split at he
  · rename_i s sep
    simp only [Option.some.injEq, Prod.mk.injEq, decide_eq_true_eq] at he
    obtain ⟨h1, rfl⟩ := he
    refine .str 0 rfl fun hs => ?_
    intro K w rs hgl hK hsz hrs
    have e0 := hrs 0 _ rfl
    have e1 := hrs 1 _ rfl
    match rs, hsz with
    | ⟨[r0, r1]⟩, _ =>
      simp at e0 e1
      have e0 : r0 = .string s := by cases e0; rfl
      have e1 : r1 = .string sep := by cases e1; rfl
      subst e0 e1
      obtain ⟨_, v, hv, m, rfl⟩ := hgl _ List.mem_cons_self
      have hlen := Lib.splitB_all sep h1 0 _ s rfl
      refine (Tryd.strings_Split s sep m w (by omega) hv h1).mono fun e w' ⟨h2, h3⟩ => ?_
      subst h2 h3
      obtain ⟨K', k1, k2, k3, k4, k5⟩ := KR.row (K := K) (w := w) (T := 9) (cs := ((Lib.splitB sep 0 (Lib.countB s sep) s).map Value.string).toArray) (sz := 1) (n := (splitS s sep).length) (get := fun i => [T ((splitS s sep).getD i noT)])
        hK (by simp [splitS]) (Lib.countB s sep + 1) (by unfold splitS; omega) (fun _ _ => rfl) (fun i k hi hk => by
          have : k = 0 := by omega
          subst this
          have hi' : i < (Lib.splitB sep 0 (Lib.countB s sep) s).length := hi
          simp [hi', oneC]) (fun i k d hi hd => by
          have hi' : i < (Lib.splitB sep 0 (Lib.countB s sep) s).length := hi
          cases k with
          | zero =>
            cases hd
            have e : (splitS s sep).getD i noT = (Lib.splitB sep 0 (Lib.countB s sep) s)[i] := by unfold splitS; simp [hi']
            rw [e]
            simp [hi']
            refine .v _ ?_
            have := splitB_size sep 0 _ s _ (List.getElem_mem hi')
            simp only [okV, decide_eq_true_eq]; omega
          | succ k => simp at hd)
      exact ⟨_, K', rfl, k1, k2, k3, (show (splitS s sep).length = Lib.countB s sep + 1 from hlen) ▸ k4, k5⟩
  · cases he⟩
end Go.Proofs.YtbjpkbolmpcmfaaDoor
namespace Go.Cb
open Go.Ev
/-- Where the first text stands that is no label. -/
def idxNo : List ByteArray → Nat → Int
  | [], _ => -1
  | s :: r, i => bif !isLabel s then i else idxNo r (i + 1)
theorem idxNo_ge : ∀ (l : List ByteArray) (i : Nat), decide (idxNo l i ≥ 0) = l.any fun s => !isLabel s
  | [], i => by simp [idxNo]
  | s :: r, i => by
    rw [List.any_cons, ← idxNo_ge r (i + 1)]
    by_cases h : isLabel s = true
    · simp [idxNo, h]
    · simp [idxNo, h]
/-- A path's labels, and whether it is one. -/
def pathOk (p : ByteArray) : Bool := !(decide (8 < (splitS p ⟨#[46]⟩).length) || (splitS p ⟨#[46]⟩).any fun s => !isLabel s)
def pathL (p : ByteArray) : List ByteArray := bif p.toList == [] then [] else bif pathOk p then splitS p ⟨#[46]⟩ else []
def pathRight (p : ByteArray) : Bool := (p.toList == []) || pathOk p
end Go.Cb
namespace Go.Proofs.YtbjpkbolmpcmfaaDoor
open Go.Ev Go.Cb
abbrev e_no : Fe := fn1 cT fun s => B (!isLabel s)
theorem ok_no : En 65 e_no :=
  entry1 (callable Tryd.func65 (by kernel_rfl)) fun s => sp (.cons ok_IsLabel .nil) Tryd.func65 3 (by kernel_rfl)
abbrev l_IndexNo : Ens := [(65, e_no)]
abbrev aIx (l : List ByteArray) : List D := [cTs.enc l, (cF 65).enc ()]
theorem lp_IndexNo_step (F : Nat) (l : List ByteArray) (n i : Nat) : lp (envOf l_IndexNo) tb F Tryd.f70 (aIx l) 0 (n + 1) [(8, I i)] =
    bif decide ((i : Int) < l.length) then (bif bnd i l.length then (bif !isLabel (l.getD (i : Int).toNat noT) then some (I i) else lp (envOf l_IndexNo) tb F Tryd.f70 (aIx l) 0 n [(8, I (i64 (i + 1)))]) else none)
    else some (I (-1)) := by kernel_rfl
theorem lp_IndexNo (F : Nat) (l : List ByteArray) (hs : l.length ≤ 4294967296) : ∀ n i, i ≤ l.length → l.length - i < n → lp (envOf l_IndexNo) tb F Tryd.f70 (aIx l) 0 n [(8, I i)] = some (I (idxNo (l.drop i) i))
  | 0, i, _, h => by omega
  | n + 1, i, h1, h2 => by
    rw [lp_IndexNo_step, bnd_nat, Int.toNat_natCast]
    by_cases hi : i < l.length
    · have ih := lp_IndexNo F l hs n (i + 1) (by omega) (by omega)
      rw [i64_succ (by omega), ih, List.drop_eq_getElem_cons hi]
      simp [hi, idxNo]
      cases isLabel l[i] <;> simp
    · have : l.drop i = [] := by simp; omega
      simp [hi, this, idxNo]
abbrev e_IndexNo : Fe := fn2C cTs (cF 65) (fun l _ => decide (l.length ≤ 4294967296)) fun l _ => I (idxNo l 0)
theorem ok_IndexNo : En 70 e_IndexNo :=
  entry2C (callable Tryd.func70 (by kernel_rfl)) fun l _ h => sp (.cons ok_no .nil) Tryd.func70 (l.length + 1) (by
    rw [show evalF (envOf l_IndexNo) tb (l.length + 1) Tryd.f70 [cTs.enc l, (cF 65).enc ()] = lp (envOf l_IndexNo) tb (l.length + 1) Tryd.f70 (aIx l) 0 (l.length + 1) [(8, I (0 : Nat))] by kernel_rfl,
      lp_IndexNo _ l (by simpa using h) _ 0 (by omega) (by omega)]
    rfl)
abbrev e_HasNo : Fe := fn2C cTs (cF 65) (fun l _ => decide (l.length ≤ 4294967296)) fun l _ => B (l.any fun s => !isLabel s)
abbrev l_HasNo : Ens := [(70, e_IndexNo)]
theorem ok_HasNo : En 67 e_HasNo :=
  entry2C (callable Tryd.func67 (by kernel_rfl)) fun l _ h => sp (.cons ok_IndexNo .nil) Tryd.func67 3 (by
    rw [show evalF (envOf l_HasNo) tb 3 Tryd.f67 [cTs.enc l, (cF 65).enc ()] =
      bif allS sT l.length (fun i => sT.enc (l.getD i noT)) && (true && decide ((listS sT noT l.length (fun i => sT.enc (l.getD i noT))).length ≤ 4294967296)) then some (B (decide (idxNo (listS sT noT l.length (fun i => sT.enc (l.getD i noT))) 0 ≥ 0))) else none by kernel_rfl,
      allS_enc, listS_enc, h, idxNo_ge]
    rfl)
abbrev l_split : Ens := [(64, e_Split), (67, e_HasNo)]
abbrev e_split : Fe := fn1 cT fun p => .tup [cTs.enc (pathL p), B (pathRight p)]
theorem splitS_len (p : ByteArray) : (splitS p ⟨#[46]⟩).length ≤ p.size + 1 := by
  have h1 := Lib.splitB_all (⟨#[46]⟩ : ByteArray) (by decide) 0 _ p rfl
  have h2 := Lib.countB_le (⟨#[46]⟩ : ByteArray) (by decide) _ p (Nat.le_refl _)
  unfold splitS
  omega
def split_C (p : ByteArray) (l : List ByteArray) : Option D :=
  bif p.toList == [] then some (.tup [cTs.enc [], B true])
  else bif decide ((l.length : Int) > 8) then some (.tup [cTs.enc [], B false])
  else bif allS sT l.length (fun i => sT.enc (l.getD i noT)) && (true && decide ((listS sT noT l.length (fun i => sT.enc (l.getD i noT))).length ≤ 4294967296)) then
    (bif (listS sT noT l.length (fun i => sT.enc (l.getD i noT))).any (fun s => !isLabel s) then some (.tup [cTs.enc [], B false]) else some (.tup [cTs.enc l, B true]))
    else none
theorem ev_split (p : ByteArray) : evalF (envOf l_split) tb 3 Tryd.f62 [T p] = split_C p (splitS p ⟨#[46]⟩) := by kernel_rfl
theorem ok_split : En 62 e_split := entry1 (callable Tryd.func62 (by kernel_rfl)) fun p => .str 0 rfl fun hs => by
  have run : ∀ d, split_C p (splitS p ⟨#[46]⟩) = some d → Go.Ev.Spec Tryd.prog gl 62 [cT.enc p] d := fun d h => sp (.cons ok_Split (.cons ok_HasNo .nil)) Tryd.func62 3 ((ev_split p).trans h)
  have hlen := splitS_len p
  unfold split_C at run
  rw [allS_enc, listS_enc, show decide ((splitS p ⟨#[46]⟩).length ≤ 4294967296) = true by simp; omega] at run
  have e8 : decide (((splitS p ⟨#[46]⟩).length : Int) > 8) = decide (8 < (splitS p ⟨#[46]⟩).length) := by simp; omega
  rw [e8] at run
  unfold pathL pathRight pathOk
  revert run
  cases p.toList == [] <;> cases decide (8 < (splitS p ⟨#[46]⟩).length) <;> cases (splitS p ⟨#[46]⟩).any (fun s => !isLabel s) <;> intro run
  all_goals first
    | exact run _ rfl
    | exact .res (fun h => h.fst fun h => h.nil rfl) (run _ rfl)
abbrev l_pr : Ens := [(62, e_split)]
abbrev e_pathRight : Fe := fn1 cT fun p => B (pathRight p)
theorem ok_pathRight : En 58 e_pathRight :=
  entry1 (callable Tryd.func58 (by kernel_rfl)) fun p => sp (.cons ok_split .nil) Tryd.func58 3 (by kernel_rfl)
abbrev e_pathLen : Fe := fn1 cT fun p => I (pathL p).length
theorem ok_pathLen : En 63 e_pathLen :=
  entry1 (callable Tryd.func63 (by kernel_rfl)) fun p => sp (.cons ok_split .nil) Tryd.func63 3 (by kernel_rfl)
end Go.Proofs.YtbjpkbolmpcmfaaDoor
