/- The reference's functions: prefixes and flows. -/
import Derived.Test.YtadmfmbpojcnpaaDoorFk
namespace Go.Cb
open Go.Ev
def r8_OnC {α : Type} (k : Bool → α) (d : Dm) (n : Int) (a : Ky) : α :=
  bif decide (dim_Len d n < 0) then k false else bif !letters a then k false else bif (a.kind != d.kind) then k false
  else bif a.kind == 3 then k (decide (a.len ≤ dim_Len d n)) else k (a.len == dim_Len d n)
def r8_On (d : Dm) (n : Int) (a : Ky) : Bool := r8_OnC id d n a
theorem r8_OnC_eq {α : Type} (k : Bool → α) (d : Dm) (n : Int) (a : Ky) : r8_OnC k d n a = k (r8_On d n a) := by
  unfold r8_On r8_OnC
  simp only [Bool.cond_eq_ite, id]
  repeat (first | rfl | split)
def r9_RightC {α : Type} (k : Bool → α) (s : Sp) (p : Px) : α :=
  bif !prefix_Sound s then k false else bif !r8_On s.d0 p.at0 p.k0 then k false
  else bif s.n == 1 then (bif p.at1 == 0 then k (kyEq p.k1 k0) else k false) else k (r8_On s.d1 p.at1 p.k1)
def r9_Right (s : Sp) (p : Px) : Bool := r9_RightC id s p
theorem r9_RightC_eq {α : Type} (k : Bool → α) (s : Sp) (p : Px) : r9_RightC k s p = k (r9_Right s p) := by
  unfold r9_Right r9_RightC
  simp only [Bool.cond_eq_ite, id]
  repeat (first | rfl | split)
def r9_LeafOk (s : Sp) (a b : Ky) : Bool := r9_Right s ⟨0, 0, a, b⟩
def r9_Leaf (s : Sp) (a b : Ky) : Px := bif !r9_LeafOk s a b then px0 else ⟨0, 0, a, b⟩
theorem r9_Leaf_eq {α : Type} (k : Px → Bool → α) (s : Sp) (a b : Ky) : (bif !r9_Right s ⟨0, 0, a, b⟩ then k px0 false else k ⟨0, 0, a, b⟩ true) = k (r9_Leaf s a b) (r9_LeafOk s a b) := by
  unfold r9_Leaf r9_LeafOk; cases r9_Right s ⟨0, 0, a, b⟩ <;> rfl
/-- An address that may be; a path that may be. -/
def r13_addrC {α : Type} (k : Bool → α) (a : Ky) : α :=
  let four (q : Bool → α) : α := bif a.kind == 1 then (bif a.len == 32 then q (letters a) else q false) else q false
  let six (q : Bool → α) : α := bif a.kind == 2 then (bif a.len == 128 then q (letters a) else q false) else q false
  four fun x => six fun y => bif !kyEq a k0 then (bif !x then (bif !y then k false else k true) else k true) else k true
def r13_pathC {α : Type} (k : Bool → α) (p : Ky) : α :=
  bif !kyEq p k0 then (bif (p.kind != 3) then k false else (bif !letters p then k false else k true)) else k true
def r13_addr (a : Ky) : Bool := r13_addrC id a
def r13_path (a : Ky) : Bool := r13_pathC id a
theorem r13_addrC_eq {α : Type} (k : Bool → α) (a : Ky) : r13_addrC k a = k (r13_addr a) := by
  unfold r13_addr r13_addrC
  cases a.kind == 1 <;> cases a.len == 32 <;> cases a.kind == 2 <;> cases a.len == 128 <;> cases letters a <;> cases kyEq a k0 <;> rfl
theorem r13_pathC_eq {α : Type} (k : Bool → α) (a : Ky) : r13_pathC k a = k (r13_path a) := by
  unfold r13_path r13_pathC
  cases (a.kind != 3) <;> cases letters a <;> cases kyEq a k0 <;> rfl
def r13_roundC {α : Type} (k : Bool → α) (a p : Ky) : α :=
  r13_addrC (fun x => match x with
    | true => r13_pathC k p
    | false => k false) a
theorem r13_roundC_eq {α : Type} (k : Bool → α) (a p : Ky) : r13_roundC k a p = k (r13_addr a && r13_path p) := by
  unfold r13_roundC
  simp only [r13_addrC_eq, r13_pathC_eq]
  cases r13_addr a <;> rfl
def r13_Right (f : Rc) : Bool := r13_addr f.a0 && (r13_path f.p0 && (r13_addr f.a1 && r13_path f.p1))
def r13_KeyC {α : Type} (k : Ky → Bool → α) (z : α) (f : Rc) (d : Dm) : α :=
  let sel (x y : Ky) (q : Ky → α) : α := bif i64 (d.side - 1) == 0 then q x else bif i64 (d.side - 1) == 1 then q y else z
  bif !r13_Right f then k k0 false else bif !dim_Right d then k k0 false
  else sel f.a0 f.a1 fun a => sel f.p0 f.p1 fun p => bif a.kind == d.kind then k a true else bif p.kind == d.kind then k p true else k k0 false
/-- The key that a flow has, by the reference. -/
def r13_all (f : Rc) (d : Dm) : Ky × Bool :=
  let a := bif d.side == 1 then f.a0 else f.a1
  let p := bif d.side == 1 then f.p0 else f.p1
  bif a.kind == d.kind then (a, true) else bif p.kind == d.kind then (p, true) else (k0, false)
def r13_Key (f : Rc) (d : Dm) : Ky × Bool := bif r13_Right f && dim_Right d then r13_all f d else (k0, false)
theorem r13_KeyC_eq {α : Type} (k : Ky → Bool → α) (z : α) (f : Rc) (d : Dm) : r13_KeyC k z f d = k (r13_Key f d).1 (r13_Key f d).2 := by
  unfold r13_Key r13_KeyC r13_all
  cases r13_Right f with
  | false => rfl
  | true =>
    cases h : dim_Right d with
    | false => rfl
    | true =>
      rcases dim_Right_side h with h1 | h1
      · simp only [h1]
        rw [show i64 (1 - 1) = 0 by decide]
        simp
        cases f.a0.kind == d.kind <;> cases f.p0.kind == d.kind <;> rfl
      · simp only [h1]
        rw [show i64 (2 - 1) = 1 by decide]
        simp
        cases f.a1.kind == d.kind <;> cases f.p1.kind == d.kind <;> rfl
def r13_LeafC {α : Type} (k : Px → Bool → α) (s : Sp) (f : Rc) : α :=
  bif !prefix_Sound s then k px0 false
  else bif s.n == 1 then (bif !(r13_Key f s.d0).2 then k px0 false else k (r9_Leaf s (r13_Key f s.d0).1 k0) (r9_LeafOk s (r13_Key f s.d0).1 k0))
  else bif !(r13_Key f s.d0).2 then k px0 false else bif !(r13_Key f s.d1).2 then k px0 false
  else k (r9_Leaf s (r13_Key f s.d0).1 (r13_Key f s.d1).1) (r9_LeafOk s (r13_Key f s.d0).1 (r13_Key f s.d1).1)
def r13_Leaf (s : Sp) (f : Rc) : Px × Bool := r13_LeafC Prod.mk s f
theorem r13_LeafC_eq {α : Type} (k : Px → Bool → α) (s : Sp) (f : Rc) : r13_LeafC k s f = k (r13_Leaf s f).1 (r13_Leaf s f).2 := by
  unfold r13_Leaf r13_LeafC
  simp only [Bool.cond_eq_ite]
  repeat (first | rfl | split)
def r13_TotalFrom (s : Sp) (by_ : Int) : List Rc → Int → Int × Int
  | [], left => (w64 (4611686018427387904 - left), 0)
  | f :: r, left => bif (r13_Leaf s f).2 then (bif decide (flow_Weight f by_ > left) then (0, 13) else r13_TotalFrom s by_ r (w64 (left - flow_Weight f by_))) else r13_TotalFrom s by_ r left
def r13_Total (l : List Rc) (s : Sp) (b : Int) : Int × Int := r13_TotalFrom s b l 4611686018427387904
end Go.Cb
namespace Go.Proofs.YtadmfmbpojcnpaaDoor
open Go.Ev Go.Cb
abbrev e_r8_On : Fe := fn3 cDm cI cKy fun a n b => B (r8_On a n b)
theorem ok_r8_On : En 44 e_r8_On :=
  entry3 (callable Tryd.func44 (by kernel_rfl)) fun a n b => sp (.cons ok_r8_Len (.cons ok_r7_Right .nil)) Tryd.func44 3
    (Eq.trans (b := r8_OnC (fun x => some (B x)) a n b) (by kernel_rfl) (r8_OnC_eq _ a n b))
abbrev l_r9_Sound : Ens := [(23, e_r8_Right)]
theorem ok_r9_Sound : En 25 e_prefix_Sound :=
  entry1 (callable Tryd.func25 (by kernel_rfl)) fun a => sp (.cons ok_r8_Right .nil) Tryd.func25 3
    (Eq.trans (b := prefix_SoundC (fun x => some (B x)) a) (by kernel_rfl) (prefix_SoundC_eq _ a))
abbrev e_r9_Right : Fe := fn2 cSp cPx fun s p => B (r9_Right s p)
theorem ok_r9_Right : En 37 e_r9_Right :=
  entry2 (callable Tryd.func37 (by kernel_rfl)) fun s p => sp (.cons ok_r9_Sound (.cons ok_r8_On .nil)) Tryd.func37 3
    (Eq.trans (b := r9_RightC (fun x => some (B x)) s p) (by kernel_rfl) (r9_RightC_eq _ s p))
abbrev e_r9_Leaf : Fe := fn3 cSp cKy cKy fun s a b => .tup [cPx.enc (r9_Leaf s a b), B (r9_LeafOk s a b)]
theorem ok_r9_Leaf : En 26 e_r9_Leaf :=
  entry3 (callable Tryd.func26 (by kernel_rfl)) fun s a b => sp (.cons ok_r9_Right .nil) Tryd.func26 3
    (Eq.trans (b := bif !r9_Right s ⟨0, 0, a, b⟩ then some (D.tup [cPx.enc px0, B false]) else some (D.tup [cPx.enc ⟨0, 0, a, b⟩, B true])) (by kernel_rfl) (r9_Leaf_eq (fun (x : Px) b => some (D.tup [cPx.enc x, B b])) s a b))
abbrev e_r13_Right : Fe := fn1 cRc fun f => B (r13_Right f)
abbrev l_r13_Right : Ens := [(32, e_r7_Right)]
noncomputable abbrev lpR13 (F : Nat) (f : Rc) (n : Nat) (i : Int) : Option D := lp (envOf l_r13_Right) tb F Tryd.f14 [cRc.enc f] 0 n [(3, I i)]
theorem lp_r13_Right_0 (F : Nat) (f : Rc) (n : Nat) : lpR13 F f (n + 1) 0 = r13_roundC (fun x => match x with | true => lpR13 F f n 1 | false => some (B false)) f.a0 f.p0 := by kernel_rfl
theorem lp_r13_Right_1 (F : Nat) (f : Rc) (n : Nat) : lpR13 F f (n + 1) 1 = r13_roundC (fun x => match x with | true => lpR13 F f n 2 | false => some (B false)) f.a1 f.p1 := by kernel_rfl
theorem lp_r13_Right_2 (F : Nat) (f : Rc) (n : Nat) : lpR13 F f (n + 1) 2 = some (B true) := by kernel_rfl
theorem st_r13_Right (F : Nat) (f : Rc) : evalF (envOf l_r13_Right) tb F Tryd.f14 [cRc.enc f] = lpR13 F f F 0 := by kernel_rfl
theorem ok_r13_Right : En 14 e_r13_Right :=
  entry1 (callable Tryd.func14 (by kernel_rfl)) fun f => sp (.cons ok_r7_Right .nil) Tryd.func14 3 (by
    rw [st_r13_Right, lp_r13_Right_0, r13_roundC_eq, lp_r13_Right_1, r13_roundC_eq, lp_r13_Right_2]
    unfold r13_Right
    cases r13_addr f.a0 <;> cases r13_path f.p0 <;> cases r13_addr f.a1 <;> cases r13_path f.p1 <;> rfl)
abbrev e_r13_Key : Fe := fn2 cRc cDm fun f d => .tup [cKy.enc (r13_Key f d).1, B (r13_Key f d).2]
theorem ok_r13_Key : En 9 e_r13_Key :=
  entry2 (callable Tryd.func9 (by kernel_rfl)) fun f d => sp (.cons ok_r13_Right (.cons ok_r8_Right .nil)) Tryd.func9 3
    (Eq.trans (b := r13_KeyC (fun (x : Ky) b => some (D.tup [cKy.enc x, B b])) none f d) (by kernel_rfl) (r13_KeyC_eq _ _ f d))
abbrev e_r13_Leaf : Fe := fn2 cSp cRc fun s f => .tup [cPx.enc (r13_Leaf s f).1, B (r13_Leaf s f).2]
theorem ok_r13_Leaf : En 11 e_r13_Leaf :=
  entry2 (callable Tryd.func11 (by kernel_rfl)) fun s f => sp (.cons ok_r9_Sound (.cons ok_r13_Key (.cons ok_r9_Leaf .nil))) Tryd.func11 3
    (Eq.trans (b := r13_LeafC (fun (x : Px) b => some (D.tup [cPx.enc x, B b])) s f) (by kernel_rfl) (r13_LeafC_eq _ s f))
theorem ok_r13_Weight : En 16 e_flow_Weight :=
  entry2 (callable Tryd.func16 (by kernel_rfl)) fun f n => sp .nil Tryd.func16 4
    (Eq.trans (b := flow_WeightC (fun x => some (U x)) f n) (by kernel_rfl) (flow_WeightC_eq _ f n))
end Go.Proofs.YtadmfmbpojcnpaaDoor
