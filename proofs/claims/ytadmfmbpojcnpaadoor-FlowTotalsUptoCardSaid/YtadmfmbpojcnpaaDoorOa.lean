/- Arguments of flows' laws, opened: records, spaces, dimensions, numbers, lists of records. -/
import Derived.Test.YtadmfmbpojcnpaaDoorRw
import Derived.Test.YtadmfmbpojcnpaaDoorFf
namespace Go.Cb
open Go Go.Ev
def kKy : List Ck := [.int .i64, .int .i64, .int .u64, .int .u64, .str]
def kDm : List Ck := [.int .i64, .int .i64, .int .i64]
def kSp : List Ck := .int .i64 :: (kDm ++ kDm)
def kRc : List Ck := kKy ++ (kKy ++ (kKy ++ (kKy ++ [.int .u64, .int .u64])))
def inI (n : Int) : Prop := -9223372036854775808 ≤ n ∧ n ≤ 9223372036854775807
def inU (n : Int) : Prop := 0 ≤ n ∧ n ≤ 18446744073709551615
theorem ck_I {N : Nat} {d : D} (h : CkOk N (.int .i64) d) : ∃ n, d = I n ∧ inI n := by
  cases h with
  | int _ n h => exact ⟨n, rfl, by simpa [Lit.wf, IntKind.min, IntKind.max, IntKind.signed, IntKind.bits, inI] using h⟩
theorem ck_U {N : Nat} {d : D} (h : CkOk N (.int .u64) d) : ∃ n, d = U n ∧ inU n := by
  cases h with
  | int _ n h => exact ⟨n, rfl, by simpa [Lit.wf, IntKind.min, IntKind.max, IntKind.signed, IntKind.bits, inU] using h⟩
theorem ck_T {N : Nat} {d : D} (h : CkOk N .str d) : ∃ s, d = T s ∧ s.size ≤ N := by
  cases h with
  | str s h => exact ⟨s, rfl, h⟩
def KyIn (N : Nat) (a : Ky) : Prop := inI a.kind ∧ inI a.len ∧ inU a.hi ∧ inU a.lo ∧ a.path.size ≤ N
def DmIn (a : Dm) : Prop := inI a.kind ∧ inI a.side ∧ inI a.step
def SpIn (a : Sp) : Prop := inI a.n ∧ DmIn a.d0 ∧ DmIn a.d1
def RcIn (N : Nat) (a : Rc) : Prop := KyIn N a.a0 ∧ KyIn N a.a1 ∧ KyIn N a.p0 ∧ KyIn N a.p1 ∧ inU a.packets ∧ inU a.bytes
theorem op_Ky {N : Nat} {l : List D} (h : AllOk N kKy l) : ∃ a : Ky, l = sKy.enc a ∧ KyIn N a := by
  obtain ⟨_, _, rfl, h1, h⟩ := h.cons
  obtain ⟨_, _, rfl, h2, h⟩ := h.cons
  obtain ⟨_, _, rfl, h3, h⟩ := h.cons
  obtain ⟨_, _, rfl, h4, h⟩ := h.cons
  obtain ⟨_, _, rfl, h5, h⟩ := h.cons
  obtain rfl := h.nil
  obtain ⟨n1, rfl, i1⟩ := ck_I h1
  obtain ⟨n2, rfl, i2⟩ := ck_I h2
  obtain ⟨n3, rfl, i3⟩ := ck_U h3
  obtain ⟨n4, rfl, i4⟩ := ck_U h4
  obtain ⟨s, rfl, i5⟩ := ck_T h5
  exact ⟨⟨n1, n2, n3, n4, s⟩, rfl, i1, i2, i3, i4, i5⟩
theorem op_Dm {N : Nat} {l : List D} (h : AllOk N kDm l) : ∃ a : Dm, l = sDm.enc a ∧ DmIn a := by
  obtain ⟨_, _, rfl, h1, h⟩ := h.cons
  obtain ⟨_, _, rfl, h2, h⟩ := h.cons
  obtain ⟨_, _, rfl, h3, h⟩ := h.cons
  obtain rfl := h.nil
  obtain ⟨n1, rfl, i1⟩ := ck_I h1
  obtain ⟨n2, rfl, i2⟩ := ck_I h2
  obtain ⟨n3, rfl, i3⟩ := ck_I h3
  exact ⟨⟨n1, n2, n3⟩, rfl, i1, i2, i3⟩
theorem op_Sp {N : Nat} {l : List D} (h : AllOk N kSp l) : ∃ a : Sp, l = sSp.enc a ∧ SpIn a := by
  obtain ⟨_, _, rfl, h1, h⟩ := h.cons
  obtain ⟨_, _, rfl, h2, h3⟩ := h.app
  obtain ⟨n1, rfl, i1⟩ := ck_I h1
  obtain ⟨a, rfl, i2⟩ := op_Dm h2
  obtain ⟨b, rfl, i3⟩ := op_Dm h3
  exact ⟨⟨n1, a, b⟩, rfl, i1, i2, i3⟩
theorem op_Rc {N : Nat} {l : List D} (h : AllOk N kRc l) : ∃ a : Rc, l = sRc.enc a ∧ RcIn N a := by
  obtain ⟨_, _, rfl, h1, h⟩ := h.app
  obtain ⟨_, _, rfl, h2, h⟩ := h.app
  obtain ⟨_, _, rfl, h3, h⟩ := h.app
  obtain ⟨_, _, rfl, h4, h⟩ := h.app
  obtain ⟨_, _, rfl, h5, h⟩ := h.cons
  obtain ⟨_, _, rfl, h6, h⟩ := h.cons
  obtain rfl := h.nil
  obtain ⟨a, rfl, i1⟩ := op_Ky h1
  obtain ⟨b, rfl, i2⟩ := op_Ky h2
  obtain ⟨c, rfl, i3⟩ := op_Ky h3
  obtain ⟨d, rfl, i4⟩ := op_Ky h4
  obtain ⟨x, rfl, i5⟩ := ck_U h5
  obtain ⟨y, rfl, i6⟩ := ck_U h6
  exact ⟨⟨a, b, c, d, x, y⟩, rfl, i1, i2, i3, i4, i5, i6⟩
theorem ck_list {A : Type} {N : Nat} {c : Cs A} {ks : List Ck} {In : A → Prop} (z : A) (hop : ∀ l, AllOk N ks l → ∃ a, l = c.enc a ∧ In a) {d : D} (h : CkOk N (.sl ks) d) :
    ∃ l : List A, l.length ≤ N ∧ (∀ a ∈ l, In a) ∧ ∀ {K w r}, KR K w d r → KR K w ((c.list ks.length z).enc l) r := by
  cases h with
  | sl _ n g hn hl hk =>
    have : Inhabited A := ⟨z⟩
    obtain ⟨F, hF⟩ := Go.Deep.choose_lt (n := n) (p := fun i (a : A) => g i = c.enc a ∧ In a) (fun i hi => hop (g i) ⟨hl i hi, fun j kd e h1 h2 => hk i j kd e hi h1 h2⟩)
    refine ⟨(List.range n).map F, by simpa using hn, fun a ha => ?_, fun {K w r} hr => ?_⟩
    · obtain ⟨i, hi, rfl⟩ := List.mem_map.1 ha
      exact (hF i (by simpa using hi)).2
    · have hlen : ((List.range n).map F).length = n := by simp
      show KR K w (slD c ks.length z ((List.range n).map F)) r
      unfold slD
      rw [hlen]
      refine hr.sl_congr fun i hi => ?_
      rw [(hF i hi).1]
      congr 1
      simp [hi]
/-! Zero arguments for the witnesses. -/
abbrev zK : List Value := [.int .i64 0, .int .i64 0, .int .u64 0, .int .u64 0, .string ⟨#[]⟩]
abbrev zRc : Value := .agg (zK ++ zK ++ zK ++ zK ++ [Value.int .u64 0, Value.int .u64 0]).toArray
abbrev zDm : Value := .agg #[.int .i64 0, .int .i64 0, .int .i64 0]
abbrev zSp : Value := .agg #[.int .i64 0, .int .i64 0, .int .i64 0, .int .i64 0, .int .i64 0, .int .i64 0, .int .i64 0]
abbrev zI : Value := .int .i64 0
abbrev zU : Value := .int .u64 0
abbrev zRcs : Value := .slice none 0 0
end Go.Cb
namespace Go.Proofs.YtadmfmbpojcnpaaDoor
open Go Go.Ev Go.Cb Go.ChangeShapes Go.WideShapes Go.ChangeAt Go.RowKit
section
variable {w : World} {N base : Nat} {v : Value} {H : Type} {enc : TypeId × Value → H} {d : DataW H} {ps : List MemPlace}
/-! Arguments of each kind, opened. -/
theorem arg_Rc (hN : N ≤ 4294967280) (hv : Value.okWide Tryd.prog w .any base 27 v) (h : DataW.Trod enc Tryd.prog w 0 (fun _ => true) true 27 v d ps) (hb : Rows.uptoBulk d ≤ N) :
    ∃ a : Rc, KR (allK w) w (cRc.enc a) v ∧ RcIn N a := by
  obtain ⟨l, h1, h2⟩ := open_agg tb_ok hN (ks := kRc) (by kernel_rfl) (by kernel_rfl) hv h hb
  obtain ⟨a, rfl, ha⟩ := op_Rc h1
  exact ⟨a, h2, ha⟩
theorem arg_Dm (hN : N ≤ 4294967280) (hv : Value.okWide Tryd.prog w .any base 29 v) (h : DataW.Trod enc Tryd.prog w 0 (fun _ => true) true 29 v d ps) (hb : Rows.uptoBulk d ≤ N) :
    ∃ a : Dm, KR (allK w) w (cDm.enc a) v ∧ DmIn a := by
  obtain ⟨l, h1, h2⟩ := open_agg tb_ok hN (ks := kDm) (by kernel_rfl) (by kernel_rfl) hv h hb
  obtain ⟨a, rfl, ha⟩ := op_Dm h1
  exact ⟨a, h2, ha⟩
theorem arg_Sp (hN : N ≤ 4294967280) (hv : Value.okWide Tryd.prog w .any base 32 v) (h : DataW.Trod enc Tryd.prog w 0 (fun _ => true) true 32 v d ps) (hb : Rows.uptoBulk d ≤ N) :
    ∃ a : Sp, KR (allK w) w (cSp.enc a) v ∧ SpIn a := by
  obtain ⟨l, h1, h2⟩ := open_agg tb_ok hN (ks := kSp) (by kernel_rfl) (by kernel_rfl) hv h hb
  obtain ⟨a, rfl, ha⟩ := op_Sp h1
  exact ⟨a, h2, ha⟩
theorem arg_I (hN : N ≤ 4294967280) (hv : Value.okWide Tryd.prog w .any base 3 v) (h : DataW.Trod enc Tryd.prog w 0 (fun _ => true) true 3 v d ps) (hb : Rows.uptoBulk d ≤ N) :
    ∃ n, KR (allK w) w (cI.enc n) v ∧ inI n := by
  obtain ⟨e, h1, h2⟩ := open_one tb_ok hN (k := .int .i64) (by kernel_rfl) (by kernel_rfl) hv h hb
  obtain ⟨n, rfl, hn⟩ := ck_I h1
  exact ⟨n, h2, hn⟩
theorem arg_U (hN : N ≤ 4294967280) (hv : Value.okWide Tryd.prog w .any base 22 v) (h : DataW.Trod enc Tryd.prog w 0 (fun _ => true) true 22 v d ps) (hb : Rows.uptoBulk d ≤ N) :
    ∃ n, KR (allK w) w (cU.enc n) v ∧ inU n := by
  obtain ⟨e, h1, h2⟩ := open_one tb_ok hN (k := .int .u64) (by kernel_rfl) (by kernel_rfl) hv h hb
  obtain ⟨n, rfl, hn⟩ := ck_U h1
  exact ⟨n, h2, hn⟩
theorem arg_Rcs (hN : N ≤ 4294967280) (hv : Value.okWide Tryd.prog w .any base 44 v) (h : DataW.Trod enc Tryd.prog w 0 (fun _ => true) true 44 v d ps) (hb : Rows.uptoBulk d ≤ N) :
    ∃ l : List Rc, KR (allK w) w (cRcs.enc l) v ∧ l.length ≤ N ∧ ∀ a ∈ l, RcIn N a := by
  obtain ⟨e, h1, h2⟩ := open_one tb_ok hN (k := .sl kRc) (by kernel_rfl) (by kernel_rfl) hv h hb
  obtain ⟨l, l1, l2, l3⟩ := ck_list rc0 (fun _ h => op_Rc h) h1
  exact ⟨l, l3 h2, l1, l2⟩
end
end Go.Proofs.YtadmfmbpojcnpaaDoor
