/- Arguments of chapter 32's laws, opened. -/
import Derived.Test.YtflbjjpcjeinlaaGreatDoorRw
import Derived.Test.YtflbjjpcjeinlaaGreatDoorNo
namespace Go.Cb
open Go Go.Ev
def inI (n : Int) : Prop := -9223372036854775808 ≤ n ∧ n ≤ 9223372036854775807
def u8In (n : Int) : Prop := 0 ≤ n ∧ n ≤ 255
theorem ck_I {N : Nat} {d : D} (h : CkOk N (.int .i64) d) : ∃ n, d = I n ∧ inI n := by
  cases h with
  | int _ n h => exact ⟨n, rfl, by simpa [Lit.wf, IntKind.min, IntKind.max, IntKind.signed, IntKind.bits, inI] using h⟩
theorem ck_u8 {N : Nat} {d : D} (h : CkOk N (.int .u8) d) : ∃ n, d = NumD .u8 n ∧ u8In n := by
  cases h with
  | int _ n h => exact ⟨n, rfl, by simpa [Lit.wf, IntKind.min, IntKind.max, IntKind.signed, IntKind.bits, u8In] using h⟩
theorem ck_T {N : Nat} {d : D} (h : CkOk N .str d) : ∃ s, d = T s ∧ s.size ≤ N := by
  cases h with
  | str s h => exact ⟨s, rfl, h⟩
def kCf : List Ck := [.int .i64, .int .i64, .int .i64, .int .i64, .int .i64, .int .i64, .int .i64, .int .i64, .int .i64, .int .i64, .int .i64, .int .i64, .int .i64]
def CfI (_ : Cf) : Prop := True
theorem op_Cf {N : Nat} {l : List D} (h : AllOk N kCf l) : ∃ a : Cf, l = sCf.enc a ∧ CfI a := by
  obtain ⟨_, _, rfl, h0, h⟩ := h.cons
  obtain ⟨_, _, rfl, h1, h⟩ := h.cons
  obtain ⟨_, _, rfl, h2, h⟩ := h.cons
  obtain ⟨_, _, rfl, h3, h⟩ := h.cons
  obtain ⟨_, _, rfl, h4, h⟩ := h.cons
  obtain ⟨_, _, rfl, h5, h⟩ := h.cons
  obtain ⟨_, _, rfl, h6, h⟩ := h.cons
  obtain ⟨_, _, rfl, h7, h⟩ := h.cons
  obtain ⟨_, _, rfl, h8, h⟩ := h.cons
  obtain ⟨_, _, rfl, h9, h⟩ := h.cons
  obtain ⟨_, _, rfl, h10, h⟩ := h.cons
  obtain ⟨_, _, rfl, h11, h⟩ := h.cons
  obtain ⟨_, _, rfl, h12, h⟩ := h.cons
  obtain rfl := h.nil
  obtain ⟨n0, rfl, _⟩ := ck_I h0
  obtain ⟨n1, rfl, _⟩ := ck_I h1
  obtain ⟨n2, rfl, _⟩ := ck_I h2
  obtain ⟨n3, rfl, _⟩ := ck_I h3
  obtain ⟨n4, rfl, _⟩ := ck_I h4
  obtain ⟨n5, rfl, _⟩ := ck_I h5
  obtain ⟨n6, rfl, _⟩ := ck_I h6
  obtain ⟨n7, rfl, _⟩ := ck_I h7
  obtain ⟨n8, rfl, _⟩ := ck_I h8
  obtain ⟨n9, rfl, _⟩ := ck_I h9
  obtain ⟨n10, rfl, _⟩ := ck_I h10
  obtain ⟨n11, rfl, _⟩ := ck_I h11
  obtain ⟨n12, rfl, _⟩ := ck_I h12
  exact ⟨⟨⟨n0, n1, n2, ⟨n3, ⟨n4, n5, n6⟩, ⟨n7, n8, n9⟩⟩⟩, n10, n11, n12⟩, rfl, trivial⟩
def kB8 : List Ck := [.int .u8]
theorem op_B8 {N : Nat} {l : List D} (h : AllOk N kB8 l) : ∃ a : Int, l = sU8.enc a ∧ byteIn a := by
  obtain ⟨_, _, rfl, h0, h⟩ := h.cons
  obtain rfl := h.nil
  obtain ⟨n, rfl, i⟩ := ck_u8 h0
  exact ⟨n, rfl, i⟩
theorem ck_list {A : Type} {N : Nat} {c : Cs A} {ks : List Ck} {In : A → Prop} (z : A) (hop : ∀ l, AllOk N ks l → ∃ a, l = c.enc a ∧ In a) {d : D} (h : CkOk N (.sl ks) d) :
    ∃ l : List A, l.length ≤ N ∧ (∀ a ∈ l, In a) ∧ ∀ {K w r}, KR K w d r → KR K w ((c.list ks.length z).enc l) r := by
  cases h with
  | sl _ n g hn hl hk =>
    have : Inhabited A := ⟨z⟩
    obtain ⟨F, hF⟩ := Go.Deep.choose_lt (n := n) (p := fun i (a : A) => g i = c.enc a ∧ In a) (fun i hi => hop (g i) ⟨hl i hi, fun j kd e h1 h2 => hk i j kd e hi h1 h2⟩)
    refine ⟨(List.range n).map F, by simpa using hn, fun a ha => ?_, fun {K w r} hr => ?_⟩
    · obtain ⟨i, hi, rfl⟩ := List.mem_map.1 ha
      exact (hF i (by simpa using hi)).2
    · have hlen : ((List.range n).map F).length = n := by simp
      show KR K w (slD c ks.length z ((List.range n).map F)) r
      unfold slD
      rw [hlen]
      refine hr.sl_congr fun i hi => ?_
      rw [(hF i hi).1]
      congr 1
      simp [hi]
/-! Zero arguments for the witnesses. -/
abbrev zI : Value := .int .i64 0
abbrev zBs : Value := .slice none 0 0
abbrev zT : Value := .string ⟨#[]⟩
abbrev zCf : Value := .agg #[zI, zI, zI, zI, zI, zI, zI, zI, zI, zI, zI, zI, zI]
end Go.Cb
namespace Go.Proofs.YtflbjjpcjeinlaaGreatDoor
open Go Go.Ev Go.Cb Go.ChangeShapes Go.WideShapes Go.ChangeAt Go.RowKit
section
set_option maxRecDepth 100000
variable {w : World} {N base : Nat} {v : Value} {H : Type} {enc : TypeId × Value → H} {d : DataW H} {ps : List MemPlace}
theorem arg_Cf (hN : N ≤ 4294967280) (hv : Value.okWide Tryz.prog w .any base 30 v) (h : DataW.Trod enc Tryz.prog w 0 (fun _ => true) true 30 v d ps) (hb : Rows.uptoBulk d ≤ N) :
    ∃ a : Cf, KR (allK w) w (cCf.enc a) v ∧ CfI a := by
  obtain ⟨l, h1, h2⟩ := open_agg tb_ok hN (ks := kCf) (by kernel_rfl) (by kernel_rfl) hv h hb
  obtain ⟨a, rfl, ha⟩ := op_Cf h1
  exact ⟨a, h2, ha⟩
theorem arg_T (hN : N ≤ 4294967280) (hv : Value.okWide Tryz.prog w .any base 9 v) (h : DataW.Trod enc Tryz.prog w 0 (fun _ => true) true 9 v d ps) (hb : Rows.uptoBulk d ≤ N) :
    ∃ s, KR (allK w) w (cT.enc s) v ∧ s.size ≤ N := by
  obtain ⟨e, h1, h2⟩ := open_one tb_ok hN (k := .str) (by kernel_rfl) (by kernel_rfl) hv h hb
  obtain ⟨s, rfl, hs⟩ := ck_T h1
  exact ⟨s, h2, hs⟩
theorem arg_I (hN : N ≤ 4294967280) (hv : Value.okWide Tryz.prog w .any base 3 v) (h : DataW.Trod enc Tryz.prog w 0 (fun _ => true) true 3 v d ps) (hb : Rows.uptoBulk d ≤ N) :
    ∃ n, KR (allK w) w (cI.enc n) v ∧ inI n := by
  obtain ⟨e, h1, h2⟩ := open_one tb_ok hN (k := .int .i64) (by kernel_rfl) (by kernel_rfl) hv h hb
  obtain ⟨n, rfl, hn⟩ := ck_I h1
  exact ⟨n, h2, hn⟩
theorem arg_Bs (hN : N ≤ 4294967280) (hv : Value.okWide Tryz.prog w .any base 37 v) (h : DataW.Trod enc Tryz.prog w 0 (fun _ => true) true 37 v d ps) (hb : Rows.uptoBulk d ≤ N) :
    ∃ l : List Int, KR (allK w) w (cBs.enc l) v ∧ l.length ≤ N ∧ ∀ a ∈ l, byteIn a := by
  obtain ⟨e, h1, h2⟩ := open_one tb_ok hN (k := .sl kB8) (by kernel_rfl) (by kernel_rfl) hv h hb
  obtain ⟨l, l1, l2, l3⟩ := ck_list 0 (fun _ h => op_B8 h) h1
  exact ⟨l, l3 h2, l1, l2⟩
end
end Go.Proofs.YtflbjjpcjeinlaaGreatDoor
