/- FlowTurns: whatever a flow, a dimension and a measure are: the law gives true. -/
import Derived.Test.YtadmfmbpojcnpaaDoorRw
import Derived.Test.YtadmfmbpojcnpaaDoorFh
namespace Go.Cb
open Go Go.Ev
def kKy : List Ck := [.int .i64, .int .i64, .int .u64, .int .u64, .str]
def kDm : List Ck := [.int .i64, .int .i64, .int .i64]
def kSp : List Ck := .int .i64 :: (kDm ++ kDm)
def kRc : List Ck := kKy ++ (kKy ++ (kKy ++ (kKy ++ [.int .u64, .int .u64])))
def inI (n : Int) : Prop := -9223372036854775808 ≤ n ∧ n ≤ 9223372036854775807
def inU (n : Int) : Prop := 0 ≤ n ∧ n ≤ 18446744073709551615
theorem ck_I {N : Nat} {d : D} (h : CkOk N (.int .i64) d) : ∃ n, d = I n ∧ inI n := by
  cases h with
  | int _ n h => exact ⟨n, rfl, by simpa [Lit.wf, IntKind.min, IntKind.max, IntKind.signed, IntKind.bits, inI] using h⟩
theorem ck_U {N : Nat} {d : D} (h : CkOk N (.int .u64) d) : ∃ n, d = U n ∧ inU n := by
  cases h with
  | int _ n h => exact ⟨n, rfl, by simpa [Lit.wf, IntKind.min, IntKind.max, IntKind.signed, IntKind.bits, inU] using h⟩
theorem ck_T {N : Nat} {d : D} (h : CkOk N .str d) : ∃ s, d = T s ∧ s.size ≤ N := by
  cases h with
  | str s h => exact ⟨s, rfl, h⟩
def KyIn (N : Nat) (a : Ky) : Prop := inI a.kind ∧ inI a.len ∧ inU a.hi ∧ inU a.lo ∧ a.path.size ≤ N
def DmIn (a : Dm) : Prop := inI a.kind ∧ inI a.side ∧ inI a.step
def SpIn (a : Sp) : Prop := inI a.n ∧ DmIn a.d0 ∧ DmIn a.d1
def RcIn (N : Nat) (a : Rc) : Prop := KyIn N a.a0 ∧ KyIn N a.a1 ∧ KyIn N a.p0 ∧ KyIn N a.p1 ∧ inU a.packets ∧ inU a.bytes
theorem op_Ky {N : Nat} {l : List D} (h : AllOk N kKy l) : ∃ a : Ky, l = sKy.enc a ∧ KyIn N a := by
  obtain ⟨_, _, rfl, h1, h⟩ := h.cons
  obtain ⟨_, _, rfl, h2, h⟩ := h.cons
  obtain ⟨_, _, rfl, h3, h⟩ := h.cons
  obtain ⟨_, _, rfl, h4, h⟩ := h.cons
  obtain ⟨_, _, rfl, h5, h⟩ := h.cons
  obtain rfl := h.nil
  obtain ⟨n1, rfl, i1⟩ := ck_I h1
  obtain ⟨n2, rfl, i2⟩ := ck_I h2
  obtain ⟨n3, rfl, i3⟩ := ck_U h3
  obtain ⟨n4, rfl, i4⟩ := ck_U h4
  obtain ⟨s, rfl, i5⟩ := ck_T h5
  exact ⟨⟨n1, n2, n3, n4, s⟩, rfl, i1, i2, i3, i4, i5⟩
theorem op_Dm {N : Nat} {l : List D} (h : AllOk N kDm l) : ∃ a : Dm, l = sDm.enc a ∧ DmIn a := by
  obtain ⟨_, _, rfl, h1, h⟩ := h.cons
  obtain ⟨_, _, rfl, h2, h⟩ := h.cons
  obtain ⟨_, _, rfl, h3, h⟩ := h.cons
  obtain rfl := h.nil
  obtain ⟨n1, rfl, i1⟩ := ck_I h1
  obtain ⟨n2, rfl, i2⟩ := ck_I h2
  obtain ⟨n3, rfl, i3⟩ := ck_I h3
  exact ⟨⟨n1, n2, n3⟩, rfl, i1, i2, i3⟩
theorem op_Sp {N : Nat} {l : List D} (h : AllOk N kSp l) : ∃ a : Sp, l = sSp.enc a ∧ SpIn a := by
  obtain ⟨_, _, rfl, h1, h⟩ := h.cons
  obtain ⟨_, _, rfl, h2, h3⟩ := h.app
  obtain ⟨n1, rfl, i1⟩ := ck_I h1
  obtain ⟨a, rfl, i2⟩ := op_Dm h2
  obtain ⟨b, rfl, i3⟩ := op_Dm h3
  exact ⟨⟨n1, a, b⟩, rfl, i1, i2, i3⟩
theorem op_Rc {N : Nat} {l : List D} (h : AllOk N kRc l) : ∃ a : Rc, l = sRc.enc a ∧ RcIn N a := by
  obtain ⟨_, _, rfl, h1, h⟩ := h.app
  obtain ⟨_, _, rfl, h2, h⟩ := h.app
  obtain ⟨_, _, rfl, h3, h⟩ := h.app
  obtain ⟨_, _, rfl, h4, h⟩ := h.app
  obtain ⟨_, _, rfl, h5, h⟩ := h.cons
  obtain ⟨_, _, rfl, h6, h⟩ := h.cons
  obtain rfl := h.nil
  obtain ⟨a, rfl, i1⟩ := op_Ky h1
  obtain ⟨b, rfl, i2⟩ := op_Ky h2
  obtain ⟨c, rfl, i3⟩ := op_Ky h3
  obtain ⟨d, rfl, i4⟩ := op_Ky h4
  obtain ⟨x, rfl, i5⟩ := ck_U h5
  obtain ⟨y, rfl, i6⟩ := ck_U h6
  exact ⟨⟨a, b, c, d, x, y⟩, rfl, i1, i2, i3, i4, i5, i6⟩
/-! Zero arguments for the witnesses. -/
abbrev zK : List Value := [.int .i64 0, .int .i64 0, .int .u64 0, .int .u64 0, .string ⟨#[]⟩]
abbrev zRc : Value := .agg (zK ++ zK ++ zK ++ zK ++ [Value.int .u64 0, Value.int .u64 0]).toArray
abbrev zDm : Value := .agg #[.int .i64 0, .int .i64 0, .int .i64 0]
abbrev zSp : Value := .agg #[.int .i64 0, .int .i64 0, .int .i64 0, .int .i64 0, .int .i64 0, .int .i64 0, .int .i64 0]
abbrev zI : Value := .int .i64 0
abbrev zU : Value := .int .u64 0
end Go.Cb
namespace Go.Proofs.YtadmfmbpojcnpaaDoor
open Go Go.Ev Go.Cb Go.ChangeShapes Go.WideShapes Go.ChangeAt Go.RowKit
section
variable {w : World} {N base : Nat} {v : Value} {H : Type} {enc : TypeId × Value → H} {d : DataW H} {ps : List MemPlace}
/-! Arguments of each kind, opened. -/
theorem arg_Rc (hN : N ≤ 4294967280) (hv : Value.okWide Tryd.prog w .any base 27 v) (h : DataW.Trod enc Tryd.prog w 0 (fun _ => true) true 27 v d ps) (hb : Rows.uptoBulk d ≤ N) :
    ∃ a : Rc, KR (allK w) w (cRc.enc a) v ∧ RcIn N a := by
  obtain ⟨l, h1, h2⟩ := open_agg tb_ok hN (ks := kRc) (by kernel_rfl) (by kernel_rfl) hv h hb
  obtain ⟨a, rfl, ha⟩ := op_Rc h1
  exact ⟨a, h2, ha⟩
theorem arg_Dm (hN : N ≤ 4294967280) (hv : Value.okWide Tryd.prog w .any base 29 v) (h : DataW.Trod enc Tryd.prog w 0 (fun _ => true) true 29 v d ps) (hb : Rows.uptoBulk d ≤ N) :
    ∃ a : Dm, KR (allK w) w (cDm.enc a) v ∧ DmIn a := by
  obtain ⟨l, h1, h2⟩ := open_agg tb_ok hN (ks := kDm) (by kernel_rfl) (by kernel_rfl) hv h hb
  obtain ⟨a, rfl, ha⟩ := op_Dm h1
  exact ⟨a, h2, ha⟩
theorem arg_Sp (hN : N ≤ 4294967280) (hv : Value.okWide Tryd.prog w .any base 32 v) (h : DataW.Trod enc Tryd.prog w 0 (fun _ => true) true 32 v d ps) (hb : Rows.uptoBulk d ≤ N) :
    ∃ a : Sp, KR (allK w) w (cSp.enc a) v ∧ SpIn a := by
  obtain ⟨l, h1, h2⟩ := open_agg tb_ok hN (ks := kSp) (by kernel_rfl) (by kernel_rfl) hv h hb
  obtain ⟨a, rfl, ha⟩ := op_Sp h1
  exact ⟨a, h2, ha⟩
theorem arg_I (hN : N ≤ 4294967280) (hv : Value.okWide Tryd.prog w .any base 3 v) (h : DataW.Trod enc Tryd.prog w 0 (fun _ => true) true 3 v d ps) (hb : Rows.uptoBulk d ≤ N) :
    ∃ n, KR (allK w) w (cI.enc n) v ∧ inI n := by
  obtain ⟨e, h1, h2⟩ := open_one tb_ok hN (k := .int .i64) (by kernel_rfl) (by kernel_rfl) hv h hb
  obtain ⟨n, rfl, hn⟩ := ck_I h1
  exact ⟨n, h2, hn⟩
theorem arg_U (hN : N ≤ 4294967280) (hv : Value.okWide Tryd.prog w .any base 22 v) (h : DataW.Trod enc Tryd.prog w 0 (fun _ => true) true 22 v d ps) (hb : Rows.uptoBulk d ≤ N) :
    ∃ n, KR (allK w) w (cU.enc n) v ∧ inU n := by
  obtain ⟨e, h1, h2⟩ := open_one tb_ok hN (k := .int .u64) (by kernel_rfl) (by kernel_rfl) hv h hb
  obtain ⟨n, rfl, hn⟩ := ck_U h1
  exact ⟨n, h2, hn⟩
end
end Go.Proofs.YtadmfmbpojcnpaaDoor
namespace Go.Proofs.YtadmfmbpojcnpaaDoor.flowTurns
open Go Go.Ev Go.Cb Go.ChangeShapes Go.WideShapes Go.ChangeAt Go.RowKit
theorem contract (H : Type) (enc : TypeId × Value → H) (W : World) (base : Nat) (args : Array Value) (ds gs : List (DataW H)) (before : List MemPlace)
    (hval : ∀ (j : Nat) t v, Tryd.f5.params[j]? = some t → args[j]? = some v → Value.okWide Tryd.prog W .any base t v)
    (hW : DataW.Whole enc Tryd.prog Tryd.f5.params.toList Rows.flowTurnsSpec.vars false W args.toList ds gs before) (hb : Rows.uptoBulkAll ds ≤ 1048576) (hsh : W.ShapedOpen Tryd.prog) :
    Calls Tryd.prog 5 args W fun e W' => ∃ v, e = .returned v ∧ Rows.flowTurnsSpec.post enc Tryd.prog Tryd.f5 false true false false W args v W' := by
  have hW0 := hW
  obtain ⟨p, q, hA, hV, _, _, _⟩ := hW0
  obtain ⟨rfl, rfl⟩ := trodVars_none hV
  have hpar : Tryd.f5.params = #[27, 29, 3] := by kernel_rfl
  rw [hpar] at hA hval
  obtain ⟨v0, vs0, d0, ds0, p0, q0, hargs, rfl, _, h0, r0⟩ := trodAll_cons hA
  obtain ⟨v1, vs1, d1, ds1, p1, q1, rfl, rfl, _, h1, r1⟩ := trodAll_cons r0
  obtain ⟨v2, vs2, d2, ds2, p2, q2, rfl, rfl, _, h2, r2⟩ := trodAll_cons r1
  obtain ⟨rfl, rfl, _⟩ := trodAll_nil r2
  obtain rfl : args = #[v0, v1, v2] := by cases args; simp_all
  simp only [Rows.uptoBulkAll] at hb
  obtain ⟨x0, k0, _⟩ := arg_Rc (N := 1048576) (by omega) (hval 0 _ v0 rfl rfl) h0 (by omega)
  obtain ⟨x1, k1, _⟩ := arg_Dm (N := 1048576) (by omega) (hval 1 _ v1 rfl rfl) h1 (by omega)
  obtain ⟨x2, k2, _⟩ := arg_I (N := 1048576) (by omega) (hval 2 _ v2 rfl rfl) h2 (by omega)
  refine row_close laidOut rfl (tb_ := 4) (by kernel_rfl) Tryd.underlying4 (fun t ht => ?_) hW rfl (gl_of hsh) (law_FlowTurns x0 x1 x2) rfl (fun i d hd => ?_)
  · rw [hpar] at ht
    simp at ht
    rcases ht with rfl | rfl | rfl <;> exact ⟨by kernel_rfl, of_decide_eq_true (by kernel_rfl)⟩
  · match i with
    | 0 => cases hd; exact k0
    | 1 => cases hd; exact k1
    | 2 => cases hd; exact k2
    | i + 3 => simp at hd

noncomputable abbrev wit : Array Value := #[zRc, zDm, zI]
theorem laid_met (os : Os) : laidMet Tryd.prog Rows.flowTurnsRow.laid ((laidWorld os).forCall (fun _ _ => 0) ⟨#[], wit, []⟩).memory :=
  laidMet_of_run' 8 (by kernel_rfl) (by kernel_rfl)
theorem reads (os : Os) {H : Type} (enc : TypeId × Value → H) : ∃ ds places, DataW.whole enc Tryd.prog ((laidWorld os).forCall (fun _ _ => 0) ⟨#[], wit, []⟩).memory Tryd.f5.params.toList Rows.flowTurnsSpec.vars false wit.toList 8 = some (ds, [], places) ∧ Rows.uptoSmall H (ds ++ []) = true :=
  whole_small (by kernel_rfl)
set_option maxRecDepth 100000 in
theorem lifted (os : Os) (started : os.Started) (H : Type) (enc : TypeId × Value → H) (F : Stop.Interp) :
    ReturnsInHanded {} Tryd.checked os 5 .any ((Rows.OpenSpec.upto Rows.flowTurnsSpec).preRow enc Tryd.prog Tryd.f5 Rows.flowTurnsUptoRow.domain false Rows.flowTurnsUptoRow.laid) (((Rows.OpenSpec.upto Rows.flowTurnsSpec).at F).post enc Tryd.prog Tryd.f5 false true false false) := by
  obtain ⟨ds, places, hx, hsm⟩ := reads os enc
  refine returnsInHanded_of_row (C := Tryd.checked) (s := Rows.OpenSpec.upto Rows.flowTurnsSpec) own started (by kernel_rfl) Tryd.func5
    (witness_row_at (enc := enc) (C := Tryd.checked) false (laidWorld os) wit rfl (by kernel_rfl) (by kernel_rfl) (by kernel_rfl)
      (OpenSpec.preRow_of_cond 8 hx (by kernel_rfl) (fun k hk => by cases hk; exact hsm) (by kernel_rfl) (laid_met os))) ?_
  intro W base args ds gs before hval hW _ hcond _ _ hsh _
  exact contract H enc W base args ds gs before hval hW (bulk_of (hcond _ rfl)) hsh
theorem said : Rows.FlowTurnsUptoSaid :=
  OpenClaim.holds_of_cond 5 Tryd.f5 rfl rfl rfl rfl rfl rfl rfl ⟨rfl, rfl, rfl, rfl, rfl⟩ rfl rfl rfl rfl rfl (by kernel_rfl) Tryd.func5 (by kernel_rfl)
    (of_decide_eq_true (by kernel_rfl)) (by unfold Func.isWrapper; first | (rw [if_pos (by decide +kernel)]; kernel_rfl) | (rw [if_neg (by decide +kernel)]; exact ⟨rfl, rfl⟩))
    (fun os started H enc _ F => by rw [OpenClaim.pre_eq_preRow]; exact lifted os started H enc F)
theorem plain (f : FuncId) (fn : Func) (hf : Tryd.pinned.checked.prog.funcNamed "cribble/cribblelaw13.FlowTurns" = some f) (hfn : Tryd.pinned.checked.prog.funcs[f]? = some fn) :
    false = Tryd.pinned.checked.prog.looks [] ∧ ∀ (j : Nat) t, fn.params[j]? = some t → Tryd.pinned.checked.prog.wantsStandIn t = false := by
  obtain rfl : f = 5 := Option.some.inj ((show Tryd.prog.funcNamed "cribble/cribblelaw13.FlowTurns" = some 5 by kernel_rfl).symm.trans hf) |>.symm
  obtain rfl : fn = Tryd.f5 := (Option.some.inj (Tryd.func5.symm.trans hfn)).symm
  exact ⟨by kernel_rfl, stand_of (by kernel_rfl)⟩
/-- The card: whatever a flow, a dimension and a measure are (of bulk at most 1048576). -/
theorem card : Rows.FlowTurnsUptoCardSaid :=
  Claim7.holds_tied_plain_at .later [] _ _ _ _ said (fun _ h => by cases h) (by kernel_rfl) (fun _ h => by cases h) flowTurnsUpto_row_tie rfl ⟨rfl, rfl⟩ (by kernel_rfl) rfl plain (by kernel_rfl)
end Go.Proofs.YtadmfmbpojcnpaaDoor.flowTurns
