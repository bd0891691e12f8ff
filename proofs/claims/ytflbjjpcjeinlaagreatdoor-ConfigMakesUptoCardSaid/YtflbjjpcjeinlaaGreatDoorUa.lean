/- Lattices, engines, summaries made: what New gives. -/
import Derived.Test.YtflbjjpcjeinlaaGreatDoorNh
import Derived.Test.YtflbjjpcjeinlaaGreatDoorXi
namespace Go.Cb
open Go.Ev Go.Proofs.YtflbjjpcjeinlaaGreatDoor
def kOk (k : Int) : Bool := decide (k ≥ 1) && decide (k ≤ 200)
def eMay (k m : Int) : Bool := bif decide (k ≥ 1) then (bif decide (k ≤ 200) then (bif decide (m ≥ 1) then decide (m ≤ 5000) else false) else false) else false
def tOk (s : Sp) : Bool := s.n == 1 && prefix_Sound s
/-- So many pointers. -/
def gRef : Nat → Nat → List D
  | 0 => fun _ => [.v (.pointer none)]
  | m + 1 => fun i => match Nat.blt i m with
    | true => gRef m i
    | false => List.getD [[D.ref []]] (i - m) [D.v (Value.pointer none)]
abbrev spL (s : Sp) : List D := [I s.n, I s.d0.kind, I s.d0.side, I s.d0.step, I s.d1.kind, I s.d1.side, I s.d1.step]
abbrev shL (s : Sh) : List D := I s.kind :: I s.k :: I s.cap :: spL s.s
end Go.Cb
namespace Go.Proofs.YtflbjjpcjeinlaaGreatDoor
open Go.Ev Go.Cb
noncomputable abbrev e_hNew : Fe := inP (envOf []) tb 3 Tryz.f81
theorem ok_hNew : En 81 e_hNew := ok_inP .nil Tryz.func81 (by kernel_rfl) 3
noncomputable abbrev l_sN : Ens := [(81, e_hNew)]
abbrev e_sNew : Fe := fn1C cI kOk fun _ => .ref []
theorem ok_sNew : En 58 e_sNew :=
  entry1C (callable Tryz.func58 (by kernel_rfl)) fun k hk => sp (.cons ok_hNew .nil) Tryz.func58 3
    (Eq.trans (b := bif decide (k < 1) then some (.v (.pointer none)) else bif decide (k > 200) then some (.v (.pointer none)) else some (.ref [])) (by kernel_rfl) (by
      simp only [kOk, Bool.and_eq_true, decide_eq_true_eq] at hk
      rw [decide_eq_false (by omega), decide_eq_false (by omega)]; rfl))
abbrev l_tN : Ens := [(79, e_prefix_Sound), (98, e_Top)]
abbrev e_tNew : Fe := fn2C cSp cB (fun s _ => tOk s) fun _ _ => .ref []
theorem ok_tNew : En 77 e_tNew :=
  entry2C (callable Tryz.func77 (by kernel_rfl)) fun s b hk => sp (.cons ok_prefix_Sound (.cons ok_Top .nil)) Tryz.func77 3
    (Eq.trans (b := bif s.n != 1 then some (.v (.pointer none)) else bif !prefix_Sound s then some (.v (.pointer none)) else some (.ref [])) (by kernel_rfl) (by
      simp only [tOk, Bool.and_eq_true, beq_iff_eq] at hk
      rw [hk.1, hk.2]; rfl))
abbrev e_eMay : Fe := fn2 cI cI fun k m => B (eMay k m)
theorem ok_eMay : En 78 e_eMay :=
  entry2 (callable Tryz.func78 (by kernel_rfl)) fun k m => sp .nil Tryz.func78 3
    (Eq.trans (b := bif decide (k ≥ 1) then bif decide (k ≤ 200) then bif decide (m ≥ 1) then some (B (decide (m ≤ 5000))) else some (B false) else some (B false) else some (B false)) (by kernel_rfl) (by
      unfold eMay; cases decide (k ≥ 1) <;> cases decide (k ≤ 200) <;> cases decide (m ≥ 1) <;> rfl))
abbrev l_eN : Ens := [(77, e_tNew), (78, e_eMay)]
abbrev e_eNew : Fe := fn4C cSp cB cI cI (fun s _ k m => tOk s && eMay k m) fun _ _ _ _ => .ref []
theorem ok_eNew : En 56 e_eNew :=
  entry4C (callable Tryz.func56 (by kernel_rfl)) fun s b k m hk => sp (.cons ok_tNew (.cons ok_eMay .nil)) Tryz.func56 3
    (Eq.trans (b := bif tOk s then bif !eMay k m then some (.v (.pointer none)) else some (.ref []) else none) (by kernel_rfl) (by
      simp only [Bool.and_eq_true] at hk
      rw [hk.1, hk.2]; rfl))
abbrev l_lN : Ens := [(48, e_May), (56, e_eNew), (57, e_Count), (58, e_sNew)]
theorem es_lN : Es l_lN := .cons ok_May (.cons ok_eNew (.cons ok_Count (.cons ok_sNew .nil)))
noncomputable abbrev kLN (s : Sh) : Xt → S → Option (D × List D) := endX tb Tryz.f21 (inL (inD 6) 0 [cSh.enc s]).1
abbrev stLN (s : Sh) (m : Nat) (G : Nat → List D) (c i : Int) : S :=
  { t := stT 60 0 [(1, .loc 2097152 0), (2, .v (.pointer none)), (3, I 0), (4, .loc 8388864 0), (5, .loc 16777600 0), (38, I c), (39, I i)],
    m := [(20971655, .tok 102), (16777600, .cells (spL s.s ++ [.sl 1 m G (.tok 20971655)]) 100), (8388864, .cells (shL s ++ [U 0, .v .nilIface]) 91), (2097152, .cells (shL s) 28)],
    k := 10485850 }
abbrev latD (s : Sh) (d : D) : D := .box 91 (shL s ++ [U 0, d])
abbrev lnR0 (s : Sh) : D × List D := (.tup [.v (.pointer none), I 1], [.agg (shL s)])
abbrev lnR1 (s : Sh) : D × List D := (.tup [latD s (.ifc 92 (.box 96 [.ref []])), I 0], [.agg (shL s)])
abbrev lnR2 (s : Sh) (m : Nat) (G : Nat → List D) : D × List D := (.tup [latD s (.ifc 97 (.box 100 (spL s.s ++ [.sl 1 m G (.own 102)]))), I 0], [.agg (shL s)])
theorem st_LN (F : Nat) (s : Sh) (H : Nat → List Nat → S → Option (D × List D)) : evalH (envX l_lN []) tb F Tryz.f21 0 H (startX Tryz.f21 [cSh.enc s]) (kLN s) =
    bif !lattice_May s then some (lnR0 s) else bif s.kind != 1 then (bif tOk s.s && eMay s.k s.cap then some (lnR1 s) else none)
    else H 10485760 [16777600, 8388864, 2097152] (stLN s 0 (gRef 0) (grid_Count s.s) 0) := by kernel_rfl
theorem rnd_LN (F : Nat) (s : Sh) (m : Nat) (c i : Int) (R : S → Option (D × List D)) :
    rndE (envX l_lN []) tb F Tryz.f21 0 (kLN s) 10485760 [16777600, 8388864, 2097152] R (stLN s m (gRef m) c i) =
    bif decide (i < c) then (bif kOk s.k then (bif decide ((m + 1) * 8 ≤ 140737488355328 ∧ m + 1 ≤ 9223372036854775807) then R (stLN s (m + 1) (gRef (m + 1)) c (i64 (i + 1))) else none) else none)
    else some (lnR2 s m (gRef m)) := by kernel_rfl
theorem lp_LN (F : Nat) (s : Sh) (hk : kOk s.k = true) (c : Nat) (hc : c ≤ 1100) : ∀ (k m N : Nat), m + k = c → k < N →
    lpE (envX l_lN []) tb F Tryz.f21 0 (kLN s) N 10485760 [16777600, 8388864, 2097152] (stLN s m (gRef m) c m) = some (lnR2 s c (gRef c))
  | 0, m, N + 1, h, _ => by
    have h : m = c := by omega
    subst h
    rw [lpE_succ, rnd_LN, decide_eq_false (by omega)]
    rfl
  | k + 1, m, N + 1, h, hN => by
    have ih := lp_LN F s hk c hc k (m + 1) N (by omega) (by omega)
    rw [lpE_succ, rnd_LN, decide_eq_true (by omega), hk, decide_eq_true (by omega), i64_in (by omega) (by omega)]
    exact ih
theorem may_k {s : Sh} (h : lattice_May s = true) : 1 ≤ grid_Count s.s ∧ grid_Count s.s ≤ 1100 ∧ kOk s.k = true ∧ (s.kind = 1 ∨ (tOk s.s && eMay s.k s.cap) = true) := by
  unfold lattice_May lattice_MayC at h
  cases h1 : decide (grid_Count s.s < 1) with
  | true => rw [h1] at h; cases h
  | false =>
  cases h2 : decide (grid_Count s.s > 1100) with
  | true => rw [h1, h2] at h; cases h
  | false =>
  cases h3 : decide (s.k < 1) with
  | true => rw [h1, h2, h3] at h; cases h
  | false =>
  cases h4 : decide (s.k > 200) with
  | true => rw [h1, h2, h3, h4] at h; cases h
  | false =>
  rw [h1, h2, h3, h4] at h
  simp only [decide_eq_false_iff_not] at h1 h2 h3 h4
  have hk : kOk s.k = true := by simp only [kOk, Bool.and_eq_true, decide_eq_true_eq]; omega
  have hs : prefix_Sound s.s = true := by
    cases hs : prefix_Sound s.s with
    | true => rfl
    | false => unfold grid_Count at h1; rw [hs] at h1; simp at h1
  refine ⟨by omega, by omega, hk, ?_⟩
  have key : (bif s.s.n == 1 then (bif decide (s.cap ≥ 1) then id (decide (s.cap ≤ 5000)) else id false) else id false) = true → (tOk s.s && eMay s.k s.cap) = true := by
    intro h
    cases e1 : s.s.n == 1 with
    | false => rw [e1] at h; cases h
    | true =>
    cases e2 : decide (s.cap ≥ 1) with
    | false => rw [e1, e2] at h; cases h
    | true =>
    rw [e1, e2] at h
    unfold tOk eMay
    rw [e1, hs, e2, decide_eq_true (show s.k ≥ 1 by omega), decide_eq_true (show s.k ≤ 200 by omega)]
    exact h
  cases e1 : s.kind == 1 with
  | true => exact .inl (by simpa using e1)
  | false =>
  cases e2 : s.kind == 2 with
  | true => rw [e1, e2] at h; exact .inr (key h)
  | false =>
  cases e3 : s.kind == 3 with
  | true => rw [e1, e2, e3] at h; exact .inr (key h)
  | false => rw [e1, e2, e3] at h; cases h
theorem ev_lNew (F : Nat) (hF : 1101 < F) (s : Sh) : evalX (envX l_lN []) tb F Tryz.f21 [cSh.enc s] =
    bif !lattice_May s then some (lnR0 s) else bif s.kind != 1 then some (lnR1 s) else some (lnR2 s (grid_Count s.s).toNat (gRef (grid_Count s.s).toNat)) := by
  have e := (evalX_cut (env := envX l_lN []) (tb := tb) (F := F) (fn := Tryz.f21) (args := [cSh.enc s]) 0 rfl).trans (st_LN F s _)
  refine e.trans ?_
  cases hm : lattice_May s with
  | false => rfl
  | true =>
    obtain ⟨h1, h2, h3, h4⟩ := may_k hm
    cases hk : s.kind != 1 with
    | true =>
      have : s.kind ≠ 1 := by simpa using hk
      rw [h4.resolve_left this]
      rfl
    | false =>
      have := lp_LN F s h3 (grid_Count s.s).toNat (by omega) (grid_Count s.s).toNat 0 F (by omega) (by omega)
      rw [show (((grid_Count s.s).toNat : Nat) : Int) = grid_Count s.s by omega] at this
      exact this
abbrev xSh : Cx Sh := sSh.xagg
abbrev x_lNew0 : FeX := fx1 xSh (fun s => !lattice_May s) lnR0
abbrev x_lNew1 : FeX := fx1 xSh (fun s => lattice_May s && (s.kind != 1)) lnR1
abbrev x_lNew2 : FeX := fx1 xSh (fun s => lattice_May s && (s.kind == 1)) fun s => lnR2 s (grid_Count s.s).toNat (gRef (grid_Count s.s).toNat)
theorem ok_lNew0 : Enx 21 x_lNew0 :=
  entryX1 (callable Tryz.func21 (by kernel_rfl)) fun s h => sxX es_lN .nil Tryz.func21 1102 ((ev_lNew 1102 (by omega) s).trans (by rw [h]; rfl))
theorem ok_lNew1 : Enx 21 x_lNew1 :=
  entryX1 (callable Tryz.func21 (by kernel_rfl)) fun s h => sxX es_lN .nil Tryz.func21 1102 ((ev_lNew 1102 (by omega) s).trans (by simp only [Bool.and_eq_true] at h; rw [h.1, h.2]; rfl))
theorem ok_lNew2 : Enx 21 x_lNew2 :=
  entryX1 (callable Tryz.func21 (by kernel_rfl)) fun s h => sxX es_lN .nil Tryz.func21 1102 ((ev_lNew 1102 (by omega) s).trans (by
    simp only [Bool.and_eq_true, beq_iff_eq] at h; rw [h.1, h.2]; rfl))
noncomputable abbrev e_lmade : FeX := inX (envX [] []) tb 3 Tryz.f59
theorem ok_lmade : Enx 59 e_lmade := ok_inX .nil .nil Tryz.func59 (by kernel_rfl) 3
noncomputable abbrev e_lShape : FeX := inX (envX [] [(59, e_lmade)]) tb 3 Tryz.f22
theorem ok_lShape : Enx 22 e_lShape := ok_inX .nil (.cons ok_lmade .nil) Tryz.func22 (by kernel_rfl) 3
end Go.Proofs.YtflbjjpcjeinlaaGreatDoor
