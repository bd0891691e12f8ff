/- Flows written; messages written. -/
import Derived.Test.YtbjpkbolmpcmfaaDoorVl
namespace Go.Cb
open Go.Ev Go.Proofs.YtbjpkbolmpcmfaaDoor
def roB (l : List Int) : List Int := listS sU8 0 l.length (getE sU8 0 l)
theorem roB_eq (l : List Int) : roB l = l := listS_enc sU8 0 l
/-- Numbers written, and what follows. -/
def wr {α : Type} (k : Nat) (L : List Int) (K : List Int → Option α) (l : List Int) : Option α :=
  bif allS sU8 l.length (getE sU8 0 l) && decide ((roB l).length + 8 * L.length ≤ 549755813888) then K (roB l ++ numsB L k) else none
theorem wr_eq {α : Type} {k : Nat} {L : List Int} {K : List Int → Option α} {l : List Int} (h : l.length + 8 * L.length ≤ 549755813888) : wr k L K l = K (l ++ numsB L k) := by
  unfold wr
  rw [roB_eq, allS_enc, show decide (l.length + 8 * L.length ≤ 549755813888) = true by simpa using h]
  rfl
/-- A struct that goes over. -/
def xagg {A : Type} (c : Cs A) : Cx A where
  enc a := .agg (c.enc a)
  dec x := match decAgg c x with | some a => some (true, a) | none => none
  ok := by
    intro x a h
    split at h
    · rename_i he; cases h; rw [decAgg_ok he]; exact fun h => h
    · cases h
def flowB (f : Fw) : List Int := numsB [f.src, f.dst, f.next] 4 ++ (numsB [f.inp, f.out] 2 ++ (numsB [f.packets, f.bytes, f.first, f.last] 4 ++ (numsB [f.srcPort, f.dstPort] 2 ++ (numsB [0, f.flags, f.proto, f.tos] 1 ++ (numsB [f.srcAs, f.dstAs] 2 ++ (numsB [f.srcMask, f.dstMask] 1 ++ numsB [0] 2))))))
theorem flowB_len (f : Fw) : (flowB f).length = 48 := by simp [flowB, numsB_len]
end Go.Cb
namespace Go.Proofs.YtbjpkbolmpcmfaaDoor
open Go.Ev Go.Cb
abbrev X_sk : Xns := [(33, x_s_one), (31, x_s_two), (32, x_s_four)]
theorem oks_sk : Xs X_sk := .cons ok_s_one (.cons ok_s_two (.cons ok_s_four .nil))
theorem ev_put (l : List Int) (f : Fw) : evalX (envX [] X_sk) tb 1 Tryd.f34 [skD l, cFw.enc f] =
    wr 4 [f.src, f.dst, f.next] (wr 2 [f.inp, f.out] (wr 4 [f.packets, f.bytes, f.first, f.last] (wr 2 [f.srcPort, f.dstPort] (wr 1 [0, f.flags, f.proto, f.tos] (wr 2 [f.srcAs, f.dstAs] (wr 1 [f.srcMask, f.dstMask] (wr 2 [0] fun l => some (.tup [], [skD l, cFw.enc f])))))))) l := by kernel_rfl
abbrev x_put : FeX := fx2 cSk (xagg sFw) (fun l _ => decide (l.length ≤ 274877906944)) fun l f => (.tup [], [skD (l ++ flowB f), cFw.enc f])
theorem ok_put : Enx 34 x_put :=
  entryX2 (callable Tryd.func34 (by kernel_rfl)) fun l f h => sxX .nil oks_sk Tryd.func34 1 ((ev_put l f).trans (by
    have h : l.length ≤ 274877906944 := by simpa using h
    rw [wr_eq (by simp; omega), wr_eq (by simp [numsB_len]; omega), wr_eq (by simp [numsB_len]; omega), wr_eq (by simp [numsB_len]; omega), wr_eq (by simp [numsB_len]; omega), wr_eq (by simp [numsB_len]; omega), wr_eq (by simp [numsB_len]; omega), wr_eq (by simp [numsB_len]; omega)]
    simp only [flowB, List.append_assoc]))
abbrev x_wBytes : FeX := fx1 cWt (fun l => decide (l.length ≤ 4294967296)) fun l => (.sl 1 l.length (getE sU8 0 l) .none, [wtD l])
theorem ok_wBytes : Enx 35 x_wBytes :=
  entryX1 (callable Tryd.func35 (by kernel_rfl)) fun l h => sxX (.cons ok_Clone .nil) .nil Tryd.func35 1
    (Eq.trans (b := bif decide (l.length ≤ 4294967296) then some (.sl 1 l.length (getE sU8 0 l) .none, [wtD l]) else none) (by kernel_rfl) (by rw [h]; rfl))
/-! Messages. -/
abbrev X_Wr : Xns := [(33, x_s_one), (31, x_s_two), (32, x_s_four), (34, x_put), (35, x_wBytes)]
theorem oks_Wr : Xs X_Wr := .cons ok_s_one (.cons ok_s_two (.cons ok_s_four (.cons ok_put (.cons ok_wBytes .nil))))
abbrev idsWr : List Nat := [12582912, 20972037, 18875141, 20971905, 16778501, 18875009, 14680709, 16778369, 14680577, 12583168, 2097152]
abbrev stWr (h : Hd) (L : List Fw) (m : Nat) (G : Nat → List D) (i : Int) : S :=
  { t := stT 59 0 [(4, .sl 1 0 (getE sU8 0 []) (.tok 25165833)), (5, I 0), (6, .loc 12583168 0), (46, cFws.enc L), (47, I L.length), (48, I i)]
    m := [(25165943, .tok 5), (25165833, .tok 5), (12582912, .cells [.sl 1 m G (.tok 25165943)] wtT), (12583168, .cells [.loc 12582912 0] 73), (2097152, .cells (sHd.enc h) 26)]
    k := 12582980 }
abbrev wrE (e : Int) : D := .tup [cBs.enc [], I e]
theorem st_Write (F : Nat) (h : Hd) (L : List Fw) (H : Nat → List Nat → S → Option D) : evalH (envX [] X_Wr) tb F Tryd.f17 0 H (Go.Ev.start Tryd.f17 [cHd.enc h, cFws.enc L]) (endK tb Tryd.f17) =
    bif (L.length : Int) == 0 then some (wrE 1) else bif decide ((L.length : Int) > 30) then some (wrE 2) else
      wr 2 [5, w16 L.length] (wr 4 [h.up, h.secs, h.nanos, h.seq] (wr 1 [h.engine, h.ident] (wr 2 [h.sampling] fun M => H 12582912 idsWr (stWr h L M.length (getE sU8 0 M) 0)))) [] := by kernel_rfl
theorem rnd_Write (F : Nat) (h : Hd) (L : List Fw) (M : List Int) (i : Int) (R : S → Option D) :
    rndE (envX [] X_Wr) tb F Tryd.f17 0 (endK tb Tryd.f17) 12582912 idsWr R (stWr h L M.length (getE sU8 0 M) i) =
    let a := allS sU8 M.length (getE sU8 0 M)
    bif decide (i < L.length) then (bif bnd i L.length then (bif a && decide ((roB M).length ≤ 274877906944) then
      (let N := roB M ++ flowB (L.getD i.toNat fw0)
       R (stWr h L N.length (getE sU8 0 N) (i64 (i + 1)))) else none) else none)
    else (bif a && decide ((roB M).length ≤ 4294967296) then some (.tup [cBs.enc (roB M), I 0]) else none) := by kernel_rfl
end Go.Proofs.YtbjpkbolmpcmfaaDoor
namespace Go.Cb
open Go.Ev Go.Proofs.YtbjpkbolmpcmfaaDoor
def headB (h : Hd) (n : Int) : List Int := numsB [5, w16 n] 2 ++ (numsB [h.up, h.secs, h.nanos, h.seq] 4 ++ (numsB [h.engine, h.ident] 1 ++ numsB [h.sampling] 2))
theorem headB_len (h : Hd) (n : Int) : (headB h n).length = 24 := by simp [headB, numsB_len]
def flowsB (L : List Fw) : List Int := L.flatMap flowB
theorem flowsB_len : ∀ L : List Fw, (flowsB L).length = 48 * L.length
  | [] => rfl
  | a :: L => by
    show (flowB a ++ flowsB L).length = _
    rw [List.length_append, flowB_len, flowsB_len L, List.length_cons]; omega
theorem flowsB_take {L : List Fw} {i : Nat} (h : i < L.length) : flowsB (L.take (i + 1)) = flowsB (L.take i) ++ flowB (L.getD i fw0) := by
  unfold flowsB
  rw [List.take_succ_eq_append_getElem h, List.flatMap_append]
  simp [h]
/-- The bytes of a message; why there are none. -/
def writeE (L : List Fw) : Int := bif (L.length : Int) == 0 then 1 else bif decide ((L.length : Int) > 30) then 2 else 0
def writeB (h : Hd) (L : List Fw) : List Int := bif writeE L != 0 then [] else headB h L.length ++ flowsB L
end Go.Cb
namespace Go.Proofs.YtbjpkbolmpcmfaaDoor
open Go.Ev Go.Cb
theorem lp_Write (F : Nat) (h : Hd) (L : List Fw) (hL : L.length ≤ 30) (B : List Int) (hB : B.length ≤ 24) : ∀ (r i N : Nat), L.length = i + r → r < N →
    lpE (envX [] X_Wr) tb F Tryd.f17 0 (endK tb Tryd.f17) N 12582912 idsWr (stWr h L (B ++ flowsB (L.take i)).length (getE sU8 0 (B ++ flowsB (L.take i))) i) = some (.tup [cBs.enc (B ++ flowsB L), I 0])
  | 0, i, N + 1, e, _ => by
    rw [lpE_succ, rnd_Write]
    simp only [show decide ((i : Int) < (L.length : Int)) = false by simp; omega, cond_false, show L.take i = L from List.take_of_length_le (by omega), allS_enc, roB_eq, Bool.true_and,
      show decide ((B ++ flowsB L).length ≤ 4294967296) = true by rw [List.length_append, flowsB_len]; simp; omega, cond_true]
  | r + 1, i, N + 1, e, h2 => by
    have ih := lp_Write F h L hL B hB r (i + 1) N (by omega) (by omega)
    have hi : i < L.length := by omega
    rw [lpE_succ, rnd_Write]
    simp only [allS_enc, roB_eq, Bool.true_and, bnd_nat, Int.toNat_natCast, show decide ((i : Int) < (L.length : Int)) = true by simp; omega, show decide (i < L.length) = true by simpa using hi, cond_true,
      show decide ((B ++ flowsB (L.take i)).length ≤ 274877906944) = true by rw [List.length_append, flowsB_len, List.length_take]; simp; omega, i64_succ (show i + 1 < 9223372036854775808 by omega)]
    rw [List.append_assoc, ← flowsB_take hi]
    exact ih
abbrev e_Write : Fe := fn2 cHd cFws fun h L => .tup [cBs.enc (writeB h L), I (writeE L)]
theorem ok_Write : En 17 e_Write :=
  entry2 (callable Tryd.func17 (by kernel_rfl)) fun h L => spX .nil oks_Wr Tryd.func17 31 (by
    have e := (evalF_cut (env := envX [] X_Wr) (tb := tb) (F := 31) (fn := Tryd.f17) (args := [cHd.enc h, cFws.enc L]) 0 rfl).trans (st_Write 31 h L _)
    refine e.trans ?_
    unfold writeB writeE
    cases h0 : (L.length : Int) == 0 with
    | true => rfl
    | false =>
    cases h1 : decide ((L.length : Int) > 30) with
    | true => rfl
    | false =>
      simp only [cond_false]
      rw [wr_eq (by simp), wr_eq (by simp [numsB_len]), wr_eq (by simp [numsB_len]), wr_eq (by simp [numsB_len])]
      have hl : L.length ≤ 30 := by simp at h1; omega
      have := lp_Write 31 h L hl (headB h L.length) (by rw [headB_len]; omega) L.length 0 31 (by omega) (by omega)
      rw [show headB h (L.length : Int) ++ flowsB (L.take 0) = headB h L.length by simp [flowsB]] at this
      rw [show (((([] ++ numsB [5, w16 (L.length : Int)] 2) ++ numsB [h.up, h.secs, h.nanos, h.seq] 4) ++ numsB [h.engine, h.ident] 1) ++ numsB [h.sampling] 2) = headB h L.length by simp [headB]]
      exact this)
end Go.Proofs.YtbjpkbolmpcmfaaDoor
