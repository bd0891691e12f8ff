/- The reference's flows and records; lists held against each other. -/
import Derived.Test.YtbjpkbolmpcmfaaDoorVh
namespace Go.Cb
open Go.Ev Go.Proofs.YtbjpkbolmpcmfaaDoor
def r14_Flows (b : List Int) : List Fw := (List.range ((b.length - 24 + 47) / 48)).map fun i => r14_flow (b.drop (24 + 48 * i))
def flowsTo (b : List Int) (k : Nat) : List Fw := (List.range k).map fun i => r14_flow (b.drop (24 + 48 * i))
theorem flowsTo_succ (b : List Int) (k : Nat) : flowsTo b (k + 1) = flowsTo b k ++ [r14_flow (b.drop (24 + 48 * k))] := by simp [flowsTo, List.range_succ]
theorem flowsTo_len (b : List Int) (k : Nat) : (flowsTo b k).length = k := by simp [flowsTo]
def whole48 (b : List Int) : Bool := decide (24 ≤ b.length) && ((b.length - 24) % 48 == 0)
def r14_Recs (b : List Int) : List Rc := bif r14_Fault b != 0 then [] else (r14_Flows b).map r14_Record
def eqFw (a b : Fw) : Bool := a.src == b.src && (a.dst == b.dst && (a.next == b.next && (a.inp == b.inp && (a.out == b.out && (a.packets == b.packets && (a.bytes == b.bytes && (a.first == b.first && (a.last == b.last && (a.srcPort == b.srcPort && (a.dstPort == b.dstPort &&
  (a.flags == b.flags && (a.proto == b.proto && (a.tos == b.tos && (a.srcAs == b.srcAs && (a.dstAs == b.dstAs && (a.srcMask == b.srcMask && (a.dstMask == b.dstMask && true)))))))))))))))))
theorem eqFw_refl (a : Fw) : eqFw a a = true := by simp [eqFw]
theorem eqFw_eq {a b : Fw} (h : eqFw a b = true) : a = b := by
  simp only [eqFw, Bool.and_eq_true, beq_iff_eq, and_true] at h
  obtain ⟨h1, h2, h3, h4, h5, h6, h7, h8, h9, h10, h11, h12, h13, h14, h15, h16, h17, h18⟩ := h
  cases a; cases b; simp_all
def eqKyK (a b : Ky) (k : Bool) : Bool := a.kind == b.kind && (a.len == b.len && (a.hi == b.hi && (a.lo == b.lo && (a.path.toList == b.path.toList && k))))
def eqRc (a b : Rc) : Bool := eqKyK a.a0 b.a0 (eqKyK a.a1 b.a1 (eqKyK a.p0 b.p0 (eqKyK a.p1 b.p1 (a.packets == b.packets && (a.bytes == b.bytes && true)))))
theorem eqRc_refl (a : Rc) : eqRc a a = true := by simp [eqRc, eqKyK]
/-- Lists of one length, element by element. -/
def sameL {A : Type} (eq : A → A → Bool) (z : A) (a b : List A) : Bool := (a.length == b.length) && (List.range a.length).all fun i => eq (a.getD i z) (b.getD i z)
theorem sameL_refl {A : Type} {eq : A → A → Bool} {z : A} (h : ∀ a, eq a a = true) (a : List A) : sameL eq z a a = true := by simp [sameL, h]
end Go.Cb
namespace Go.Proofs.YtbjpkbolmpcmfaaDoor
open Go.Ev Go.Cb
abbrev e_r7_Four : Fe := fn1 (cNum .u32) fun a => cKy.enc (r7_Four a)
theorem ok_r7_Four : En 37 e_r7_Four :=
  entry1 (callable Tryd.func37 (by kernel_rfl)) fun a => sp .nil Tryd.func37 1 (by kernel_rfl)
abbrev e_r14_Record : Fe := fn1 cFw fun f => cRc.enc (r14_Record f)
theorem ok_r14_Record : En 20 e_r14_Record :=
  entry1 (callable Tryd.func20 (by kernel_rfl)) fun f => sp (.cons ok_r7_Four .nil) Tryd.func20 1 (by kernel_rfl)
/-! Flows. -/
abbrev l_r14f : Ens := [(30, e_r14_Flow)]
abbrev stF14 (b : List Int) (m : Nat) (G : Nat → List D) (i : Int) : S :=
  { t := stT 18 0 [(0, cBs.enc b), (2, .sl 18 0 (getE sFw fw0 []) (.tok 8388613)), (3, .sl 18 m G (.tok 8388615)), (4, I i)]
    m := [(8388615, .tok 52), (8388613, .tok 52)], k := 4194322 }
theorem st_r14_Flows (F : Nat) (b : List Int) (H : Nat → List Nat → S → Option D) : evalH (envOf l_r14f) tb F Tryd.f16 0 H (Go.Ev.start Tryd.f16 [cBs.enc b]) (endK tb Tryd.f16) =
    H 4194304 [] (stF14 b 0 (getE sFw fw0 []) 24) := by kernel_rfl
theorem rnd_r14_Flows (F : Nat) (b : List Int) (m : Nat) (G : Nat → List D) (i : Int) (R : S → Option D) :
    rndE (envOf l_r14f) tb F Tryd.f16 0 (endK tb Tryd.f16) 4194304 [] R (stF14 b m G i) =
    let B := listS sU8 0 b.length (getE sU8 0 b)
    bif decide (i < b.length) then (bif allS sU8 b.length (getE sU8 0 b) && (decide (0 ≤ i) && (decide (i + 48 ≤ B.length) && decide (B.length ≤ 4294967296))) then
      (bif decide ((m + 1) * 48 ≤ 140737488355328 ∧ m + 1 ≤ 9223372036854775807) then R (stF14 b (m + 1) (pushD sFw fw0 m G (r14_Flow B i)) (i64 (i + 48))) else none) else none)
    else some (.sl 18 m G .none) := by kernel_rfl
theorem lp_r14_Flows (F : Nat) (b : List Int) (k : Nat) (hk : b.length = 24 + 48 * k) (hb : b.length ≤ 4294967296) : ∀ (r i n : Nat), k = i + r → r < n →
    lpE (envOf l_r14f) tb F Tryd.f16 0 (endK tb Tryd.f16) n 4194304 [] (stF14 b (flowsTo b i).length (getE sFw fw0 (flowsTo b i)) ((24 + 48 * i : Nat) : Int)) = some (cFws.enc (flowsTo b k))
  | 0, i, n + 1, e, _ => by
    have e : k = i := by omega
    subst e
    rw [lpE_succ, rnd_r14_Flows, show decide (((24 + 48 * k : Nat) : Int) < (b.length : Int)) = false by simp; omega]
    rfl
  | r + 1, i, n + 1, e, h2 => by
    have ih := lp_r14_Flows F b k hk hb r (i + 1) n (by omega) (by omega)
    rw [lpE_succ, rnd_r14_Flows, show decide (((24 + 48 * i : Nat) : Int) < (b.length : Int)) = true by simp; omega]
    simp only [allS_enc, listS_enc, Bool.true_and, cond_true]
    rw [show (decide (0 ≤ ((24 + 48 * i : Nat) : Int)) && (decide (((24 + 48 * i : Nat) : Int) + 48 ≤ (b.length : Int)) && decide (b.length ≤ 4294967296))) = true by simp; omega, cond_true,
      show decide (((flowsTo b i).length + 1) * 48 ≤ 140737488355328 ∧ (flowsTo b i).length + 1 ≤ 9223372036854775807) = true by rw [flowsTo_len]; simp; omega, cond_true, pushD_eq, len_push (l := flowsTo b i),
      show i64 (((24 + 48 * i : Nat) : Int) + 48) = ((24 + 48 * (i + 1) : Nat) : Int) by rw [show ((24 + 48 * i : Nat) : Int) + 48 = ((24 + 48 * (i + 1) : Nat) : Int) by omega, i64_nat (by omega)]]
    unfold r14_Flow
    rw [Int.toNat_natCast, ← flowsTo_succ]
    exact ih
abbrev e_r14_Flows : Fe := fn1C cBs (fun b => whole48 b && decide (b.length ≤ 4294967296)) fun b => cFws.enc (r14_Flows b)
theorem ok_r14_Flows : En 16 e_r14_Flows :=
  entry1C (callable Tryd.func16 (by kernel_rfl)) fun b h => sp (.cons ok_r14_Flow .nil) Tryd.func16 ((b.length - 24 + 47) / 48 + 1) (by
    simp only [whole48, Bool.and_eq_true, decide_eq_true_eq, beq_iff_eq] at h
    obtain ⟨⟨h1, h2⟩, h3⟩ := h
    have hk : b.length = 24 + 48 * ((b.length - 24 + 47) / 48) := by omega
    generalize hkk : (b.length - 24 + 47) / 48 = k at *
    have e := (evalF_cut (env := envOf l_r14f) (tb := tb) (F := k + 1) (fn := Tryd.f16) (args := [cBs.enc b]) 0 rfl).trans (st_r14_Flows _ b _)
    refine e.trans ((lp_r14_Flows (k + 1) b k hk h3 k 0 (k + 1) (by omega) (by omega)).trans ?_)
    unfold r14_Flows
    rw [hkk]; rfl)
end Go.Proofs.YtbjpkbolmpcmfaaDoor
