/- Flows: what each function of the program gives. -/
import Derived.Test.YtadmfmbpojcnpaaDoorFe
namespace Go.Cb
open Go.Ev
def rc0 : Rc := ⟨k0, k0, k0, k0, 0, 0⟩
def flow_KeyC {α : Type} (k : Ky → Bool → α) (z : α) (f : Rc) (d : Dm) : α :=
  let at1 : Ky → α := fun a =>
    bif d.kind == 3 then
      (bif i64 (d.side - 1) == 0 then (bif f.p0.kind != d.kind then k k0 false else k f.p0 true)
       else bif i64 (d.side - 1) == 1 then (bif f.p1.kind != d.kind then k k0 false else k f.p1 true) else z)
    else (bif a.kind != d.kind then k k0 false else k a true)
  bif !flow_Right f then k k0 false else bif !dim_Right d then k k0 false
  else bif i64 (d.side - 1) == 0 then at1 f.a0
  else bif i64 (d.side - 1) == 1 then at1 f.a1 else z
/-- The key that a side has: its address, or its path. -/
def flow_side (f : Rc) (d : Dm) : Ky := bif d.kind == 3 then (bif d.side == 1 then f.p0 else f.p1) else (bif d.side == 1 then f.a0 else f.a1)
def flow_KeyOk (f : Rc) (d : Dm) : Bool := flow_Right f && (dim_Right d && ((flow_side f d).kind == d.kind))
def flow_Key (f : Rc) (d : Dm) : Ky := bif flow_KeyOk f d then flow_side f d else k0
theorem dim_Right_side {d : Dm} (h : dim_Right d = true) : d.side = 1 ∨ d.side = 2 := by
  unfold dim_Right dim_RightC at h
  simp only [Bool.cond_eq_ite, id, beq_iff_eq] at h
  by_cases h1 : d.side = 1
  · exact .inl h1
  · by_cases h2 : d.side = 2
    · exact .inr h2
    · simp [h1, h2] at h
theorem flow_KeyC_eq {α : Type} (k : Ky → Bool → α) (z : α) (f : Rc) (d : Dm) : flow_KeyC k z f d = k (flow_Key f d) (flow_KeyOk f d) := by
  unfold flow_Key flow_KeyOk flow_KeyC flow_side
  cases flow_Right f with
  | false => rfl
  | true =>
    cases h : dim_Right d with
    | false => rfl
    | true =>
      rcases dim_Right_side h with h1 | h1
      · simp only [h1]
        rw [show i64 (1 - 1) = 0 by decide]
        cases hk : d.kind == 3 <;> simp [bne] <;> cases (f.a0.kind == d.kind) <;> cases (f.p0.kind == d.kind) <;> simp
      · simp only [h1]
        rw [show i64 (2 - 1) = 1 by decide]
        cases hk : d.kind == 3 <;> simp [bne] <;> cases (f.a1.kind == d.kind) <;> cases (f.p1.kind == d.kind) <;> simp
def flow_LeafC {α : Type} (k : Px → Bool → α) (z : α) (s : Sp) (f : Rc) : α :=
  let e : Ky → Ky → α := fun a b => k (prefix_Leaf s a b) (prefix_LeafOk s a b)
  bif !prefix_Sound s then k px0 false
  else bif decide ((0 : Int) < s.n) then (bif !flow_KeyOk f s.d0 then k px0 false
    else bif decide ((1 : Int) < s.n) then (bif !flow_KeyOk f s.d1 then k px0 false
      else bif decide ((2 : Int) < s.n) then z else e (flow_Key f s.d0) (flow_Key f s.d1))
    else e (flow_Key f s.d0) k0)
  else e k0 k0
theorem prefix_Sound_n {s : Sp} (h : prefix_Sound s = true) : s.n = 1 ∨ s.n = 2 := by
  unfold prefix_Sound prefix_SoundC at h
  simp only [Bool.cond_eq_ite, id, beq_iff_eq] at h
  by_cases h1 : s.n = 1
  · exact .inl h1
  · by_cases h2 : s.n = 2
    · exact .inr h2
    · simp [h1, h2] at h
/-- A leaf's second key. -/
def flow_snd (s : Sp) (f : Rc) : Ky := bif s.n == 1 then k0 else flow_Key f s.d1
def flow_has (s : Sp) (f : Rc) : Bool := prefix_Sound s && (flow_KeyOk f s.d0 && ((s.n == 1) || flow_KeyOk f s.d1))
def flow_Leaf (s : Sp) (f : Rc) : Px := bif flow_has s f then prefix_Leaf s (flow_Key f s.d0) (flow_snd s f) else px0
def flow_LeafOk (s : Sp) (f : Rc) : Bool := flow_has s f && prefix_LeafOk s (flow_Key f s.d0) (flow_snd s f)
theorem flow_LeafC_eq {α : Type} (k : Px → Bool → α) (z : α) (s : Sp) (f : Rc) : flow_LeafC k z s f = k (flow_Leaf s f) (flow_LeafOk s f) := by
  unfold flow_Leaf flow_LeafOk flow_LeafC flow_has flow_snd
  cases h : prefix_Sound s with
  | false => rfl
  | true =>
    rcases prefix_Sound_n h with h1 | h1
    · simp only [h1]
      cases flow_KeyOk f s.d0 <;> simp
    · simp only [h1]
      cases flow_KeyOk f s.d0 <;> simp
      cases flow_KeyOk f s.d1 <;> simp
def flow_WeightC {α : Type} (k : Int → α) (f : Rc) (by_ : Int) : α := bif by_ == 1 then k 1 else bif by_ == 2 then k f.packets else bif by_ == 3 then k f.bytes else k 0
def flow_Weight (f : Rc) (by_ : Int) : Int := flow_WeightC id f by_
theorem flow_WeightC_eq {α : Type} (k : Int → α) (f : Rc) (n : Int) : flow_WeightC k f n = k (flow_Weight f n) := by
  unfold flow_Weight flow_WeightC
  simp only [Bool.cond_eq_ite, id]
  repeat (first | rfl | split)
def flow_Turned (f : Rc) : Rc := ⟨f.a1, f.a0, f.p1, f.p0, f.packets, f.bytes⟩
/-- The total of a list's rest. -/
def flow_TotalFrom (s : Sp) (by_ : Int) : List Rc → Int → Int × Int
  | [], sum => (sum, 0)
  | f :: r, sum => bif !flow_LeafOk s f then flow_TotalFrom s by_ r sum
    else bif decide (flow_Weight f by_ > w64 (4611686018427387904 - sum)) then (0, 13) else flow_TotalFrom s by_ r (w64 (sum + flow_Weight f by_))
end Go.Cb
namespace Go.Proofs.YtadmfmbpojcnpaaDoor
open Go.Ev Go.Cb
abbrev e_flow_Key : Fe := fn2 cRc cDm fun f d => .tup [cKy.enc (flow_Key f d), B (flow_KeyOk f d)]
theorem ok_flow_Key : En 8 e_flow_Key :=
  entry2 (callable Tryd.func8 (by kernel_rfl)) fun f d => sp (.cons ok_flow_Right (.cons ok_dim_Right .nil)) Tryd.func8 3
    (Eq.trans (b := flow_KeyC (fun (x : Ky) b => some (D.tup [cKy.enc x, B b])) none f d) (by kernel_rfl) (flow_KeyC_eq _ _ f d))
abbrev e_flow_Leaf : Fe := fn2 cSp cRc fun s f => .tup [cPx.enc (flow_Leaf s f), B (flow_LeafOk s f)]
theorem ok_flow_Leaf : En 10 e_flow_Leaf :=
  entry2 (callable Tryd.func10 (by kernel_rfl)) fun s f => sp (.cons ok_prefix_Sound (.cons ok_flow_Key (.cons ok_prefix_Leaf .nil))) Tryd.func10 4
    (Eq.trans (b := flow_LeafC (fun (x : Px) b => some (D.tup [cPx.enc x, B b])) none s f) (by kernel_rfl) (flow_LeafC_eq _ _ s f))
abbrev e_flow_Weight : Fe := fn2 cRc cI fun f n => U (flow_Weight f n)
theorem ok_flow_Weight : En 15 e_flow_Weight :=
  entry2 (callable Tryd.func15 (by kernel_rfl)) fun f n => sp .nil Tryd.func15 4
    (Eq.trans (b := flow_WeightC (fun x => some (U x)) f n) (by kernel_rfl) (flow_WeightC_eq _ f n))
abbrev e_flow_Turned : Fe := fn1 cRc fun f => cRc.enc (flow_Turned f)
theorem ok_flow_Turned : En 19 e_flow_Turned :=
  entry1 (callable Tryd.func19 (by kernel_rfl)) fun f => sp .nil Tryd.func19 4 (by kernel_rfl)
abbrev cRcs : Cd (List Rc) := sRc.list 22 rc0
abbrev l_flow_Total : Ens := [(15, e_flow_Weight), (10, e_flow_Leaf)]
theorem lp_flow_Total_step (F : Nat) (l : List Rc) (s : Sp) (b : Int) (n i : Nat) (sum : Int) :
    lp (envOf l_flow_Total) tb F Tryd.f17 [cRcs.enc l, cSp.enc s, cI.enc b] 0 (n + 1) [(8, U sum), (16, I i)] =
    bif decide ((i : Int) < l.length) then (bif bnd i l.length then
      (bif !flow_LeafOk s (l.getD (i : Int).toNat rc0) then lp (envOf l_flow_Total) tb F Tryd.f17 [cRcs.enc l, cSp.enc s, cI.enc b] 0 n [(8, U sum), (16, I (i64 (i + 1)))]
       else bif decide (flow_Weight (l.getD (i : Int).toNat rc0) b > w64 (4611686018427387904 - sum)) then some (.tup [U 0, I 13])
       else lp (envOf l_flow_Total) tb F Tryd.f17 [cRcs.enc l, cSp.enc s, cI.enc b] 0 n [(8, U (w64 (sum + flow_Weight (l.getD (i : Int).toNat rc0) b))), (16, I (i64 (i + 1)))]) else none)
    else some (.tup [U sum, I 0]) := by kernel_rfl
theorem lp_flow_Total (F : Nat) (l : List Rc) (s : Sp) (b : Int) (hs : l.length ≤ 4294967296) : ∀ (n i : Nat) (sum : Int), i ≤ l.length → l.length - i < n →
    lp (envOf l_flow_Total) tb F Tryd.f17 [cRcs.enc l, cSp.enc s, cI.enc b] 0 n [(8, U sum), (16, I i)] = some (.tup [U (flow_TotalFrom s b (l.drop i) sum).1, I (flow_TotalFrom s b (l.drop i) sum).2])
  | 0, i, _, _, h => by omega
  | n + 1, i, sum, h1, h2 => by
    rw [lp_flow_Total_step, bnd_nat, Int.toNat_natCast]
    by_cases hi : i < l.length
    · have ih := fun sum => lp_flow_Total F l s b hs n (i + 1) sum (by omega) (by omega)
      rw [i64_succ (by omega), ih, ih, List.drop_eq_getElem_cons hi]
      rw [show l.getD i rc0 = l[i] by simp [hi]]
      simp only [flow_TotalFrom]
      rw [show decide ((i : Int) < l.length) = true by simp; omega, show decide (i < l.length) = true by simp; omega]
      cases flow_LeafOk s l[i] <;> cases decide (flow_Weight l[i] b > w64 (4611686018427387904 - sum)) <;> rfl
    · have : l.drop i = [] := by simp; omega
      rw [show decide ((i : Int) < l.length) = false by simp; omega, this]
      rfl
def flow_Total (l : List Rc) (s : Sp) (b : Int) : Int × Int := flow_TotalFrom s b l 0
abbrev e_flow_Total : Fe := fn3C cRcs cSp cI (fun l _ _ => decide (l.length ≤ 4294967296)) fun l s b => .tup [U (flow_Total l s b).1, I (flow_Total l s b).2]
theorem ok_flow_Total : En 17 e_flow_Total :=
  entry3C (callable Tryd.func17 (by kernel_rfl)) fun l s b h => sp (.cons ok_flow_Weight (.cons ok_flow_Leaf .nil)) Tryd.func17 (l.length + 1)
    (Eq.trans (b := lp (envOf l_flow_Total) tb (l.length + 1) Tryd.f17 [cRcs.enc l, cSp.enc s, cI.enc b] 0 (l.length + 1) [(8, U 0), (16, I (0 : Nat))]) (by kernel_rfl)
      (lp_flow_Total _ l s b (by simpa using h) _ 0 0 (by omega) (by omega)))
end Go.Proofs.YtadmfmbpojcnpaaDoor
