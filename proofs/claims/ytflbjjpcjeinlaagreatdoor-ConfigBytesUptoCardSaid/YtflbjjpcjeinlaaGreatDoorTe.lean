/- The reference's reader. -/
import Derived.Test.YtflbjjpcjeinlaaGreatDoorTd
namespace Go.Ev
open Go Go.RowKit
/-- What comes back as a slice of one's own, seen as a mere slice. -/
theorem SpecX.drop {P : Program} {gl : Gls} {tb : Tb} {f : FuncId} {args ys : List D} {sz n : Nat} {g : Nat → List D} {p : Pm} (h : SpecX P gl tb f args (.sl sz n g p) ys) : SpecX P gl tb f args (.sl sz n g .none) ys := by
  intro K w rs L h1 h2 h3 h4
  refine (h K w rs L h1 h2 h3 h4).mono fun e w' ⟨r, K', L', e0, e1, e2, e3, e4, e5, e6, e7⟩ => ?_
  cases e4 with
  | @cons _ _ L1 M _ _ hx hl =>
    refine ⟨r, K', M, e0, e1, e2, e3, ?_, (List.nodup_append.1 e5).2.1, fun b hb => e6 b (List.mem_append_right _ hb), e7⟩
    exact .cons (L := []) (.kr _ _ hx.isSl) hl
end Go.Ev
namespace Go.Cb
open Go.Ev Go.Proofs.YtflbjjpcjeinlaaGreatDoor
structure Rf where
  n : Nat
  g : Nat → List D
  at' : Int
  e : Int
end Go.Cb
namespace Go.Proofs.YtflbjjpcjeinlaaGreatDoor
open Go.Ev Go.Cb
abbrev rfT : Nat := 46
abbrev rfD (x : Rf) : D := .box rfT [.sl 1 x.n x.g .none, I x.at', I x.e]
def cRf : Cx Rf where
  enc := rfD
  dec x := match x with
    | .box T [.sl sz n g .none, .v (.int .i64 at'), .v (.int .i64 e)] => some (Nat.beq T rfT && Nat.beq sz 1, ⟨n, g, at', e⟩)
    | _ => none
  ok := by
    intro x a h tb K w av r L hr
    split at h
    · rename_i T sz n g at' e
      simp only [Option.some.injEq, Prod.mk.injEq, Bool.and_eq_true] at h
      obtain ⟨⟨h1, h3⟩, rfl⟩ := h
      have h1 := Nat.eq_of_beq_eq_true h1
      have h3 := Nat.eq_of_beq_eq_true h3
      subst h1 h3
      exact hr
    · cases h
abbrev rf0 (x : Rf) (e : Int) : Rf := ⟨x.n, x.g, x.at', e⟩
abbrev x_fMust : FeX := fx2 cRf xB (fun _ _ => true) fun x b => (.tup [], [rfD (rf0 x (mustE x.e b)), B b])
theorem ok_fMust : Enx 53 x_fMust :=
  entryX2 (callable Tryz.func53 (by kernel_rfl)) fun x b _ => sxX .nil .nil Tryz.func53 1
    (Eq.trans (b := bif x.e == 0 then (bif !b then some (.tup [], [rfD (rf0 x 3), B b]) else some (.tup [], [rfD x, B b])) else some (.tup [], [rfD x, B b])) (by kernel_rfl) (by
      unfold mustE; cases x.e == 0 <;> cases b <;> rfl))
end Go.Proofs.YtflbjjpcjeinlaaGreatDoor
namespace Go.Cb
open Go.Ev Go.Proofs.YtflbjjpcjeinlaaGreatDoor
def fgood (x : Rf) : Bool := decide (x.n ≤ 4294967296) && (all8 x.n x.g && (decide (0 ≤ x.at') && decide (x.at' ≤ x.n)))
def fBad (x : Rf) (c : Int) : Bool := (x.e != 0) || decide (c > x.n - x.at')
def fErr (x : Rf) (c : Int) : Int := bif x.e != 0 then x.e else bif decide (c > x.n - x.at') then 8 else x.e
def fAdv (x : Rf) (c : Int) : Rf := ⟨x.n, x.g, bif fBad x c then x.at' else x.at' + c, fErr x c⟩
def fLen (x : Rf) (c : Int) : Nat := bif fBad x c then 0 else c.toNat
theorem fgood_in {x : Rf} (h : fgood x = true) : x.n ≤ 4294967296 ∧ all8 x.n x.g = true ∧ 0 ≤ x.at' ∧ x.at' ≤ x.n := by
  simpa [fgood] using h
theorem fgood_adv {x : Rf} (h : fgood x = true) {c : Int} (hc : 0 ≤ c) : fgood (fAdv x c) = true := by
  obtain ⟨h1, h2, h3, h4⟩ := fgood_in h
  unfold fgood fAdv
  cases hb : fBad x c with
  | true => simp [h1, h2, h3, h4]
  | false =>
    unfold fBad at hb
    simp at hb
    simp [h1, h2]
    omega
def raw2 (x : Rf) (c : Int) : Option (D × List D) :=
  let bad (e : Int) : Option (D × List D) := some (.sl 1 0 (fun _ => sU8.enc 0) (.own 5), [rfD (rf0 x e), I c])
  let v0 := i64 (x.at' + c)
  let v2 := (i64 (v0 - c)).toNat
  let v8 := mustE x.e (decide (c ≥ 0))
  let ok : Option (D × List D) := bif v8 != 0 then bad v8 else bif decide (0 ≤ i64 (v0 - c)) && (decide (i64 (v0 - c) ≤ v0) && decide (v0 ≤ x.n)) then some (.sl 1 (v0.toNat - v2) (fun i => x.g (v2 + i)) .none, [rfD ⟨x.n, x.g, v0, v8⟩, I c]) else none
  bif v8 == 0 then (bif decide (c > i64 ((x.n : Int) - x.at')) then bad 8 else ok) else ok
end Go.Cb
namespace Go.Proofs.YtflbjjpcjeinlaaGreatDoor
open Go.Ev Go.Cb
theorem ev_fRaw (x : Rf) (c : Int) : evalX (envX [] [(53, x_fMust)]) tb 1 Tryz.f76 [rfD x, I c] = raw2 x c := by kernel_rfl
abbrev x_fRaw : FeX := fx2 cRf (xNum .i64) (fun x c => fgood x && (decide (0 ≤ c) && decide (c ≤ 8))) fun x c => (.sl 1 (fLen x c) (u8G fun i => x.g (x.at'.toNat + i)) .none, [rfD (fAdv x c), I c])
theorem ok_fRaw : Enx 76 x_fRaw :=
  entryX2 (callable Tryz.func76 (by kernel_rfl)) fun x c h => by
    simp only [Bool.and_eq_true, decide_eq_true_eq] at h
    obtain ⟨hg, hc0, hc8⟩ := h
    obtain ⟨h1, h2, h3, h4⟩ := fgood_in hg
    have run : ∀ d ys, raw2 x c = some (d, ys) → Go.Ev.SpecX Tryz.prog gl tb 76 [cRf.enc x, (xNum .i64).enc c] d ys := fun d ys h =>
      sxX .nil (.cons ok_fMust .nil) Tryz.func76 1 ((ev_fRaw x c).trans h)
    have hm : mustE x.e (decide (c ≥ 0)) = x.e := by
      rw [decide_eq_true (show c ≥ 0 by omega)]
      unfold mustE
      cases x.e == 0 <;> rfl
    unfold raw2 at run
    simp only [hm] at run
    have bad : ∀ e, fBad x c = true → fErr x c = e → Go.Ev.SpecX Tryz.prog gl tb 76 [cRf.enc x, (xNum .i64).enc c] (.sl 1 0 (fun _ => sU8.enc 0) (.own 5)) [rfD (rf0 x e), I c] →
        Go.Ev.SpecX Tryz.prog gl tb 76 [cRf.enc x, (xNum .i64).enc c] (.sl 1 (fLen x c) (u8G fun i => x.g (x.at'.toNat + i)) .none) [rfD (fAdv x c), I c] := fun e hb he hs => by
      unfold fAdv fLen
      rw [hb, cond_true, cond_true, he]
      exact res2 (fun hx => by cases hx with | kr _ _ hk => exact .kr _ _ (hk.sl_congr fun i hi => by omega)) rfl hs.drop
    by_cases he : x.e = 0
    · by_cases hs : c > x.n - x.at'
      · refine bad 8 (by unfold fBad; rw [decide_eq_true hs]; simp) (by unfold fErr; rw [he, decide_eq_true hs]; rfl) (run _ _ ?_)
        rw [i64_in (by omega) (by omega), decide_eq_true hs, he]
        rfl
      · have hb : fBad x c = false := by unfold fBad; rw [he, decide_eq_false hs]; rfl
        have hE : fErr x c = 0 := by unfold fErr; rw [he, decide_eq_false hs]; rfl
        have hx : x.at'.toNat + c.toNat = (x.at' + c).toNat := by omega
        unfold fAdv fLen
        rw [hb, cond_false, cond_false, hE]
        refine res2 (d := .sl 1 ((x.at' + c).toNat - x.at'.toNat) (fun i => x.g (x.at'.toNat + i)) .none) (fun hx => ?_) rfl (run _ _ (by
          rw [i64_in (n := (x.n : Int) - x.at') (by omega) (by omega), decide_eq_false hs, i64_in (n := x.at' + c) (by omega) (by omega), show x.at' + c - c = x.at' by omega, i64_in (n := x.at') (by omega) (by omega),
            decide_eq_true (show (0 : Int) ≤ x.at' by omega), decide_eq_true (show x.at' ≤ x.at' + c by omega), decide_eq_true (show x.at' + c ≤ x.n by omega), he]
          rfl))
        rw [show (x.at' + c).toNat - x.at'.toNat = c.toNat by omega] at hx
        cases hx with
        | kr _ _ hk =>
          exact .kr _ _ (hk.sl_congr fun i hi => all8_at (g := fun i => x.g (x.at'.toNat + i)) (k := c.toNat) (by
            rw [all8_iff] at h2 ⊢
            exact fun i hi => h2 _ (by omega)) hi)
    · have hn : (x.e == 0) = false := by simpa using he
      have hn2 : (x.e != 0) = true := by simpa using he
      refine bad x.e (by unfold fBad; rw [hn2]; rfl) (by unfold fErr; rw [hn2]; rfl) (run _ _ ?_)
      rw [hn, hn2]
      rfl
end Go.Proofs.YtflbjjpcjeinlaaGreatDoor
namespace Go.Cb
open Go.Ev Go.Proofs.YtflbjjpcjeinlaaGreatDoor
def step2 (n b : Int) : Int := w64 (w64 (256 * n) + w64 b)
def numT2 {α : Type} (g : Nat → List D) (L : Nat) (K : Int → Option α) : (fuel i : Nat) → Int → Option α
  | 0, _, _ => none
  | f + 1, i, n => bif decide ((i : Int) < L) then (bif bnd i L then numT2 g L K f (i + 1) (step2 n (decS sU8 0 (g i))) else none) else K n
def numG2 (g : Nat → List D) : (k i : Nat) → Int → Int
  | 0, _, n => n
  | k + 1, i, n => numG2 g k (i + 1) (step2 n (decS sU8 0 (g i)))
theorem numT2_eq {α : Type} (g : Nat → List D) (L : Nat) (K : Int → Option α) : ∀ (f i : Nat) (n : Int), i ≤ L → L - i < f → numT2 g L K f i n = K (numG2 g (L - i) i n)
  | 0, i, n, _, h => by omega
  | f + 1, i, n, hi, h => by
    unfold numT2
    by_cases hl : i < L
    · rw [show decide ((i : Int) < L) = true by simp; omega, bnd_nat, show decide (i < L) = true by simpa using hl]
      simp only [cond_true]
      rw [numT2_eq g L K f (i + 1) _ (by omega) (by omega), show L - i = (L - (i + 1)) + 1 by omega]
      rfl
    · rw [show decide ((i : Int) < L) = false by simp; omega, show L - i = 0 by omega]
      rfl
def fNum (x : Rf) (c : Int) : Int := numG2 (fun i => x.g (x.at'.toNat + i)) (fLen x c) 0 0
end Go.Cb
namespace Go.Proofs.YtflbjjpcjeinlaaGreatDoor
open Go.Ev Go.Cb
abbrev X_fNum : Xns := [(76, x_fRaw)]
abbrev fNumT (x : Rf) (c : Int) (F : Nat) : Option (D × List D) := bif fgood x && true then numT2 (fun i => x.g (x.at'.toNat + i)) (fLen x c) (fun n => some (U n, [rfD (fAdv x c), I c])) F 0 0 else none
theorem ev_fNum1 (x : Rf) : evalX (envX l_02 X_fNum) tb 2 Tryz.f52 [rfD x, I 1] = fNumT x 1 2 := by kernel_rfl
theorem ev_fNum2 (x : Rf) : evalX (envX l_02 X_fNum) tb 3 Tryz.f52 [rfD x, I 2] = fNumT x 2 3 := by kernel_rfl
theorem ev_fNum4 (x : Rf) : evalX (envX l_02 X_fNum) tb 5 Tryz.f52 [rfD x, I 4] = fNumT x 4 5 := by kernel_rfl
abbrev x_fNum : FeX := fx2 cRf (xNum .i64) (fun x c => ((c == 1) || ((c == 2) || (c == 4))) && fgood x) fun x c => (U (fNum x c), [rfD (fAdv x c), I c])
theorem fLen_le {x : Rf} {c : Int} : fLen x c ≤ c.toNat := by unfold fLen; cases fBad x c <;> simp
theorem ok_fNum : Enx 52 x_fNum :=
  entryX2 (callable Tryz.func52 (by kernel_rfl)) fun x c h => by
    simp only [Bool.and_eq_true, Bool.or_eq_true, beq_iff_eq] at h
    obtain ⟨hc, hck⟩ := h
    have go : ∀ (F : Nat) (c : Int), c.toNat < F → evalX (envX l_02 X_fNum) tb F Tryz.f52 [rfD x, I c] = fNumT x c F →
        Go.Ev.SpecX Tryz.prog gl tb 52 [rfD x, I c] (U (fNum x c)) [rfD (fAdv x c), I c] := fun F c hF h =>
      sxX (.cons ok_r2_size .nil) (.cons ok_fRaw .nil) Tryz.func52 F (h.trans (by
        unfold fNumT
        rw [hck, numT2_eq _ _ _ _ _ _ (Nat.zero_le _) (by have := @fLen_le x c; omega)]
        rfl))
    rcases hc with rfl | rfl | rfl
    · exact go 2 1 (by decide) (ev_fNum1 x)
    · exact go 3 2 (by decide) (ev_fNum2 x)
    · exact go 5 4 (by decide) (ev_fNum4 x)
abbrev e_fLeft (x : Rf) : Int := bif x.e != 0 then 0 else i64 ((x.n : Int) - x.at')
abbrev x_fLeft : FeX := fx1 cRf (fun _ => true) fun x => (I (e_fLeft x), [rfD x])
theorem ok_fLeft : Enx 55 x_fLeft :=
  entryX1 (callable Tryz.func55 (by kernel_rfl)) fun x _ => sxX .nil .nil Tryz.func55 1
    (Eq.trans (b := bif x.e != 0 then some (I 0, [rfD x]) else some (I (i64 ((x.n : Int) - x.at')), [rfD x])) (by kernel_rfl) (by cases h : x.e != 0 <;> simp [e_fLeft, h]))
abbrev endF (x : Rf) : Int := bif decide (e_fLeft x > 0) then 2 else x.e
abbrev x_fEnd : FeX := fx1 cRf (fun _ => true) fun x => (I (endF x), [rfD x])
theorem ok_fEnd : Enx 20 x_fEnd :=
  entryX1 (callable Tryz.func20 (by kernel_rfl)) fun x _ => sxX .nil (.cons ok_fLeft .nil) Tryz.func20 1
    (Eq.trans (b := bif decide (e_fLeft x > 0) then some (I 2, [rfD x]) else some (I x.e, [rfD x])) (by kernel_rfl) (by unfold endF; cases decide (e_fLeft x > 0) <;> rfl))
end Go.Proofs.YtflbjjpcjeinlaaGreatDoor
