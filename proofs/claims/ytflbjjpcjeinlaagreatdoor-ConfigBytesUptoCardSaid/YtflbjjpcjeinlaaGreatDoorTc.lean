/- Which configurations may be by the reference, and their bytes. -/
import Derived.Test.YtflbjjpcjeinlaaGreatDoorTb
namespace Go.Cb
open Go.Ev Go.Proofs.YtflbjjpcjeinlaaGreatDoor
def rowU (L : List Int) : List D := L.map fun x => .v (.int .u8 x)
theorem rowU_len (L : List Int) : (rowU L).length = L.length := by simp [rowU]
theorem rowGet_U {M : List Int} {i : Nat} (h : i < M.length) : rowGet 1 (rowU M) i = getE sU8 0 M i := by
  unfold rowGet rowU
  rw [Nat.mul_one, List.drop_eq_getElem_cons (by simpa using h)]
  have e : M.getD i 0 = M[i] := by simp [h]
  unfold getE
  rw [e]
  simp
  rfl
/-- A number's bytes, as the reference has them. -/
def num2 (n k : Int) : List Int :=
  let a := w64 (n.tdiv 256)
  let b := w64 (a.tdiv 256)
  bif k == 1 then [w8 (n.tmod 256)] else bif k == 2 then [w8 (a.tmod 256), w8 (n.tmod 256)] else [w8 ((w64 (b.tdiv 256)).tmod 256), w8 (b.tmod 256), w8 (a.tmod 256), w8 (n.tmod 256)]
theorem may_of {s : Sh} : (bif !prefix_Sound s.s then false else bif decide (s.k < 1) then false else bif decide (s.k > 200) then false else bif decide (grid_Count s.s > 1100) then false else
    bif s.kind == 1 then s.cap == 0 else bif s.kind == 2 then (bif s.s.n == 1 then (bif decide (s.cap ≥ 1) then decide (s.cap ≤ 5000) else false) else false)
    else bif s.kind == 3 then (bif s.s.n == 1 then (bif decide (s.cap ≥ 1) then decide (s.cap ≤ 5000) else false) else false) else false) = lattice_May s := by
  unfold lattice_May lattice_MayC
  cases h : prefix_Sound s.s with
  | false =>
    have : grid_Count s.s = 0 := by unfold grid_Count; rw [h]; rfl
    rw [this]; rfl
  | true =>
    have hc : 1 ≤ grid_Count s.s := by
      rw [← spNodes_len, spNodes, h, cond_true, nodes_all]
      have : 1 * 1 ≤ ((dim_Depth s.s.d0).toNat + 1) * ((dim_Depth s.s.d1).toNat + 1) := Nat.mul_le_mul (by omega) (by omega)
      omega
    rw [decide_eq_false (show ¬ grid_Count s.s < 1 by omega)]
    simp only [Bool.not_true, cond_false, id]
    cases decide (s.k < 1) <;> cases decide (s.k > 200) <;> cases decide (grid_Count s.s > 1100) <;> rfl
theorem bB (b x y : Bool) : (bif b then some (B x) else some (B y)) = some (B (bif b then x else y)) := by cases b <;> rfl
end Go.Cb
namespace Go.Proofs.YtflbjjpcjeinlaaGreatDoor
open Go.Ev Go.Cb
theorem ok_r27_May : En 49 e_r27_May :=
  entry1 (callable Tryz.func49 (by kernel_rfl)) fun s => sp (.cons ok_r9_Sound (.cons ok_Nodes .nil)) Tryz.func49 3
    (Eq.trans (b := bif !prefix_Sound s.s then some (B false) else bif decide (s.k < 1) then some (B false) else bif decide (s.k > 200) then some (B false) else bif decide (((spNodes s.s).length : Int) > 1100) then some (B false) else
      bif s.kind == 1 then some (B (s.cap == 0)) else bif s.kind == 2 then (bif s.s.n == 1 then (bif decide (s.cap ≥ 1) then some (B (decide (s.cap ≤ 5000))) else some (B false)) else some (B false))
      else bif s.kind == 3 then (bif s.s.n == 1 then (bif decide (s.cap ≥ 1) then some (B (decide (s.cap ≤ 5000))) else some (B false)) else some (B false)) else some (B false)) (by kernel_rfl) (by
      rw [spNodes_len]
      simp only [bB]
      rw [may_of]))
abbrev l_r32R : Ens := [(50, e_r12_Right), (49, e_r27_May)]
abbrev e_r32_Right : Fe := fn1 cCf fun c => B (cfgRight c)
theorem ok_r32_Right : En 15 e_r32_Right :=
  entry1 (callable Tryz.func15 (by kernel_rfl)) fun c => sp (.cons ok_r12_Right (.cons ok_r27_May .nil)) Tryz.func15 3
    (Eq.trans (b := bif lattice_May c.sh then (bif c.by' == 1 then some (B (ratio_Right c.sh.k c.a c.b)) else bif c.by' == 2 then some (B (ratio_Right c.sh.k c.a c.b)) else bif c.by' == 3 then some (B (ratio_Right c.sh.k c.a c.b)) else some (B false)) else some (B false)) (by kernel_rfl) (by
      unfold cfgRight
      cases lattice_May c.sh with
      | false => rfl
      | true =>
        rw [cond_true, Bool.true_and]
        by_cases h1 : c.by' = 1
        · rw [h1]; rfl
        · by_cases h2 : c.by' = 2
          · rw [h2]; rfl
          · by_cases h3 : c.by' = 3
            · rw [h3]; rfl
            · rw [show (c.by' == 1) = false by simpa using h1, show (c.by' == 2) = false by simpa using h2, show (c.by' == 3) = false by simpa using h3, cond_false, cond_false, cond_false]
              by_cases h4 : c.by' ≥ 1
              · rw [decide_eq_true h4, decide_eq_false (show ¬ c.by' ≤ 3 by omega)]; rfl
              · rw [decide_eq_false h4]; rfl))
abbrev e_r2_size : Fe := fn1 cI fun n => I (bif decide (n < 1) then 1 else bif decide (n > 8) then 8 else n)
theorem ok_r2_size : En 75 e_r2_size :=
  entry1 (callable Tryz.func75 (by kernel_rfl)) fun n => sp .nil Tryz.func75 3
    (Eq.trans (b := bif decide (n < 1) then some (I 1) else bif decide (n > 8) then some (I 8) else some (I n)) (by kernel_rfl) (by cases decide (n < 1) <;> cases decide (n > 8) <;> rfl))
abbrev l_02 : Ens := [(75, e_r2_size)]
abbrev e_r2_Num : Fe := fn2C cU cI (fun _ k => (k == 1) || ((k == 2) || (k == 4))) fun n k => cBs.enc (num2 n k)
theorem ok_r2_Num : En 51 e_r2_Num :=
  entry2C (callable Tryz.func51 (by kernel_rfl)) fun n k h => by
    have run : ∀ (k' : Int) (M : List Int), evalF (envOf l_02) tb 10 Tryz.f51 [cU.enc n, I k'] = some (.sl 1 M.length (rowGet 1 (rowU M)) .none) → Go.Ev.Spec Tryz.prog gl 51 [cU.enc n, I k'] (cBs.enc M) :=
      fun k' M e => .res (fun hk => hk.sl_congr fun i hi => rowGet_U hi) (sp (.cons ok_r2_size .nil) Tryz.func51 10 e)
    by_cases h1 : k = 1
    · subst h1; exact run 1 (num2 n 1) (by kernel_rfl)
    · by_cases h2 : k = 2
      · subst h2; exact run 2 (num2 n 2) (by kernel_rfl)
      · have h4 : k = 4 := by simpa [h1, h2] using h
        subst h4; exact run 4 (num2 n 4) (by kernel_rfl)
end Go.Proofs.YtflbjjpcjeinlaaGreatDoor
