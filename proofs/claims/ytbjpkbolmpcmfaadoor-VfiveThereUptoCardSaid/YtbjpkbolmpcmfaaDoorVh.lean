/- The reference's numbers, heads and flows. -/
import Derived.Test.YtbjpkbolmpcmfaaDoorVg
namespace Go.Cb
open Go.Ev Go.Proofs.YtbjpkbolmpcmfaaDoor
/-- Tests, one behind the other. -/
def chk {α : Type} : List Bool → Option α → Option α
  | [], k => k
  | c :: r, k => bif c then chk r k else none
theorem chk_eq {α : Type} {k : Option α} : ∀ {l : List Bool}, (∀ c ∈ l, c = true) → chk l k = k
  | [], _ => rfl
  | c :: r, h => by
    show (bif c then chk r k else none) = k
    rw [h c (by simp), cond_true, chk_eq fun d hd => h d (by simp [hd])]
def atN (b : List Int) (f : Nat) : Nat → Int
  | 0 => 0
  | i + 1 => w32 (w32 (256 * atN b f i) + w32 (b.getD (f + i) 0))
def okAt (b : List Int) (f s : Int) : Bool := decide (0 ≤ f) && (decide (0 ≤ s) && (decide (s ≤ 8) && (decide (f + s ≤ b.length) && decide (b.length ≤ 4294967296))))
def r14_At (b : List Int) (f s : Int) : Int := atN b f.toNat s.toNat
end Go.Cb
namespace Go.Proofs.YtbjpkbolmpcmfaaDoor
open Go.Ev Go.Cb
abbrev e_r14_At : Fe := fn3C cBs cI cI okAt fun b f s => NumD .u32 (r14_At b f s)
abbrev stAt (b : List Int) (f s n i : Int) : S := { t := stT 25 0 [(0, cBs.enc b), (1, I f), (2, I s), (6, NumD .u32 0), (7, NumD .u32 n), (8, I i)], m := [], k := 4194329 }
theorem st_At (F : Nat) (b : List Int) (f s : Int) (H : Nat → List Nat → S → Option D) :
    evalH (envOf []) tb F Tryd.f29 0 H (Go.Ev.start Tryd.f29 [cBs.enc b, I f, I s]) (endK tb Tryd.f29) = H 4194304 [] (stAt b f s 0 0) := by kernel_rfl
theorem rnd_At (F : Nat) (b : List Int) (f s n i : Int) (R : S → Option D) :
    rndE (envOf []) tb F Tryd.f29 0 (endK tb Tryd.f29) 4194304 [] R (stAt b f s n i) =
    bif decide (i < s) then (bif bnd (i64 (f + i)) b.length then R (stAt b f s (w32 (w32 (256 * n) + w32 (b.getD (i64 (f + i)).toNat 0))) (i64 (i + 1))) else none) else some (NumD .u32 n) := by kernel_rfl
theorem lp_At (F : Nat) (b : List Int) (f s : Nat) (h : f + s ≤ b.length) (hs : s ≤ 8) (hb : b.length ≤ 4294967296) : ∀ (r i n : Nat), s = i + r → r < n →
    lpE (envOf []) tb F Tryd.f29 0 (endK tb Tryd.f29) n 4194304 [] (stAt b f s (atN b f i) i) = some (NumD .u32 (atN b f s))
  | 0, i, n + 1, e, _ => by
    have e : s = i := by omega
    subst e
    rw [lpE_succ, rnd_At, show decide ((s : Int) < (s : Int)) = false by simp]
    rfl
  | r + 1, i, n + 1, e, h2 => by
    rw [lpE_succ, rnd_At, show decide ((i : Int) < (s : Int)) = true by simp; omega, show ((f : Int) + (i : Int)) = ((f + i : Nat) : Int) by omega, i64_nat (by omega), bnd_nat, show decide (f + i < b.length) = true by simp; omega,
      Int.toNat_natCast, i64_succ (by omega)]
    exact lp_At F b f s h hs hb r (i + 1) n (by omega) (by omega)
theorem ok_r14_At : En 29 e_r14_At :=
  entry3C (callable Tryd.func29 (by kernel_rfl)) fun b f s h => sp .nil Tryd.func29 9 (by
    simp only [okAt, Bool.and_eq_true, decide_eq_true_eq] at h
    obtain ⟨h1, h2, h3, h4, h5⟩ := h
    have e := (evalF_cut (env := envOf []) (tb := tb) (F := 9) (fn := Tryd.f29) (args := [cBs.enc b, I f, I s]) 0 rfl).trans (st_At 9 b f s _)
    have l := lp_At 9 b f.toNat s.toNat (by omega) (by omega) h5 s.toNat 0 9 (by omega) (by omega)
    rw [show ((f.toNat : Nat) : Int) = f by omega, show ((s.toNat : Nat) : Int) = s by omega] at l
    exact e.trans l)
abbrev l_r14 : Ens := [(29, e_r14_At)]
end Go.Proofs.YtbjpkbolmpcmfaaDoor
namespace Go.Cb
open Go.Ev Go.Proofs.YtbjpkbolmpcmfaaDoor
/-- The count. -/
def r14_n (b : List Int) : Int := i64 (r14_At b 2 2)
def r14_all (b : List Int) : Int := i64 (24 + i64 (48 * r14_n b))
def r14_Fault (b : List Int) : Int := bif decide ((b.length : Int) < 24) then 8 else bif r14_At b 0 2 != 5 then 16 else bif r14_n b == 0 then 3 else bif decide (r14_n b > 30) then 3 else
  bif decide ((b.length : Int) < r14_all b) then 8 else bif decide ((b.length : Int) > r14_all b) then 2 else 0
def r14_Head (b : List Int) : Hd := ⟨r14_At b 4 4, r14_At b 8 4, r14_At b 12 4, r14_At b 16 4, b.getD 20 0, b.getD 21 0, w16 (r14_At b 22 2)⟩
/-- The flow at the front. -/
def r14_flow (c : List Int) : Fw := ⟨r14_At c 0 4, r14_At c 4 4, r14_At c 8 4, w16 (r14_At c 12 2), w16 (r14_At c 14 2), r14_At c 16 4, r14_At c 20 4, r14_At c 24 4, r14_At c 28 4, w16 (r14_At c 32 2), w16 (r14_At c 34 2),
  c.getD 37 0, c.getD 38 0, c.getD 39 0, w16 (r14_At c 40 2), w16 (r14_At c 42 2), c.getD 44 0, c.getD 45 0⟩
def r14_Flow (b : List Int) (f : Int) : Fw := r14_flow (b.drop f.toNat)
def r7_Four (a : Int) : Ky := ⟨1, 32, w64 (w64 a * 4294967296), 0, ⟨#[]⟩⟩
def r14_Record (f : Fw) : Rc := ⟨r7_Four f.src, r7_Four f.dst, k0, k0, w64 f.packets, w64 f.bytes⟩
theorem listS_drop {A : Type} (c : Cs A) (z : A) (l : List A) (o : Nat) : listS c z (l.length - o) (fun i => c.enc (l.getD (o + i) z)) = l.drop o := by
  unfold listS
  apply List.ext_getElem
  · simp
  · intro i h1 h2
    simp at h1
    simp [decS_enc, List.getElem?_eq_getElem (show o + i < l.length by omega)]
end Go.Cb
namespace Go.Proofs.YtbjpkbolmpcmfaaDoor
open Go.Ev Go.Cb
abbrev e_r14_Fault : Fe := fn1C cBs (fun b => decide (b.length ≤ 4294967296)) fun b => I (r14_Fault b)
theorem ev_r14_Fault (b : List Int) : evalF (envOf l_r14) tb 1 Tryd.f11 [cBs.enc b] =
    let a := allS sU8 b.length (getE sU8 0 b)
    let B := listS sU8 0 b.length (getE sU8 0 b)
    let N : Int := i64 (24 + i64 (48 * r14_n B))
    bif decide ((b.length : Int) < 24) then some (I 8) else bif a && okAt B 0 2 then (bif r14_At B 0 2 != 5 then some (I 16) else bif a && okAt B 2 2 then (bif r14_n B == 0 then some (I 3) else bif decide (r14_n B > 30) then some (I 3) else
      bif decide ((b.length : Int) < N) then some (I 8) else bif decide ((b.length : Int) > N) then some (I 2) else some (I 0)) else none) else none := by kernel_rfl
theorem ok_r14_Fault : En 11 e_r14_Fault :=
  entry1C (callable Tryd.func11 (by kernel_rfl)) fun b hb => sp (.cons ok_r14_At .nil) Tryd.func11 1 ((ev_r14_Fault b).trans (by
    simp only [allS_enc, listS_enc, Bool.true_and]
    unfold r14_Fault r14_all
    cases h1 : decide ((b.length : Int) < 24) with
    | true => rfl
    | false =>
      have h1 : ¬ (b.length : Int) < 24 := by simpa using h1
      have hb : b.length ≤ 4294967296 := by simpa using hb
      rw [show okAt b 0 2 = true by simp [okAt]; omega, show okAt b 2 2 = true by simp [okAt]; omega]
      simp only [cond_true, cond_false]
      simp only [Bool.cond_eq_ite]
      repeat' (first | rfl | split)))
abbrev e_r14_Head : Fe := fn1C cBs (fun b => decide (24 ≤ b.length) && decide (b.length ≤ 4294967296)) fun b => cHd.enc (r14_Head b)
theorem ev_r14_Head (b : List Int) : evalF (envOf l_r14) tb 1 Tryd.f14 [cBs.enc b] =
    let a := allS sU8 b.length (getE sU8 0 b)
    let B := listS sU8 0 b.length (getE sU8 0 b)
    chk [a && okAt B 4 4, a && okAt B 8 4, a && okAt B 12 4, a && okAt B 16 4, bnd 20 b.length, bnd 21 b.length, a && okAt B 22 2]
      (some (cHd.enc ⟨r14_At B 4 4, r14_At B 8 4, r14_At B 12 4, r14_At B 16 4, b.getD 20 0, b.getD 21 0, w16 (r14_At B 22 2)⟩)) := by kernel_rfl
theorem ok_r14_Head : En 14 e_r14_Head :=
  entry1C (callable Tryd.func14 (by kernel_rfl)) fun b hb => sp (.cons ok_r14_At .nil) Tryd.func14 1 ((ev_r14_Head b).trans (by
    simp only [Bool.and_eq_true, decide_eq_true_eq] at hb
    simp only [allS_enc, listS_enc, Bool.true_and]
    rw [chk_eq (by simp [okAt, bnd]; omega)]
    rfl))
abbrev e_r14_Flow : Fe := fn2C cBs cI (fun b f => decide (0 ≤ f) && (decide (f + 48 ≤ b.length) && decide (b.length ≤ 4294967296))) fun b f => cFw.enc (r14_Flow b f)
theorem ev_r14_Flow (b : List Int) (f : Int) : evalF (envOf l_r14) tb 1 Tryd.f30 [cBs.enc b, I f] =
    let n := (b.length : Int).toNat - f.toNat
    let g : Nat → List D := fun i => sU8.enc (b.getD (f.toNat + i) 0)
    let a := allS sU8 n g
    let B := listS sU8 0 n g
    let e (i : Nat) : Int := b.getD (f.toNat + i) 0
    chk [decide (0 ≤ f) && (decide (f ≤ b.length) && decide ((b.length : Int) ≤ b.length)), a && okAt B 0 4, a && okAt B 4 4, a && okAt B 8 4, a && okAt B 12 2, a && okAt B 14 2, a && okAt B 16 4, a && okAt B 20 4, a && okAt B 24 4, a && okAt B 28 4, a && okAt B 32 2, a && okAt B 34 2,
      bnd 37 n, bnd 38 n, bnd 39 n, a && okAt B 40 2, a && okAt B 42 2, bnd 44 n, bnd 45 n]
      (some (cFw.enc ⟨r14_At B 0 4, r14_At B 4 4, r14_At B 8 4, w16 (r14_At B 12 2), w16 (r14_At B 14 2), r14_At B 16 4, r14_At B 20 4, r14_At B 24 4, r14_At B 28 4, w16 (r14_At B 32 2), w16 (r14_At B 34 2), e 37, e 38, e 39, w16 (r14_At B 40 2), w16 (r14_At B 42 2), e 44, e 45⟩)) := by kernel_rfl
theorem ok_r14_Flow : En 30 e_r14_Flow :=
  entry2C (callable Tryd.func30 (by kernel_rfl)) fun b f hb => sp (.cons ok_r14_At .nil) Tryd.func30 1 ((ev_r14_Flow b f).trans (by
    simp only [Bool.and_eq_true, decide_eq_true_eq] at hb
    have e1 : (b.length : Int).toNat - f.toNat = (b.drop f.toNat).length := by simp
    have e2 : allS sU8 ((b.length : Int).toNat - f.toNat) (fun i => sU8.enc (b.getD (f.toNat + i) 0)) = true := allS_fn sU8 _ _
    have e3 : listS sU8 0 ((b.length : Int).toNat - f.toNat) (fun i => sU8.enc (b.getD (f.toNat + i) 0)) = b.drop f.toNat := by rw [Int.toNat_natCast]; exact listS_drop sU8 0 b f.toNat
    simp only [e2, e3, Bool.true_and]
    rw [chk_eq (by simp [okAt, bnd]; omega)]
    unfold r14_Flow r14_flow
    simp only [List.getD_eq_getElem?_getD, List.getElem?_drop]))
end Go.Proofs.YtbjpkbolmpcmfaaDoor
