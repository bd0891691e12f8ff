/- Arguments of chapter 14's laws, opened. -/
import Derived.Test.YtbjpkbolmpcmfaaDoorRw
import Derived.Test.YtbjpkbolmpcmfaaDoorVt
namespace Go.Cb
open Go Go.Ev
theorem ck_I {N : Nat} {d : D} (h : CkOk N (.int .i64) d) : ∃ n, d = I n ∧ inI n := by
  cases h with
  | int _ n h => exact ⟨n, rfl, by simpa [Lit.wf, IntKind.min, IntKind.max, IntKind.signed, IntKind.bits, inI] using h⟩
theorem ck_u8 {N : Nat} {d : D} (h : CkOk N (.int .u8) d) : ∃ n, d = NumD .u8 n ∧ u8In n := by
  cases h with
  | int _ n h => exact ⟨n, rfl, by simpa [Lit.wf, IntKind.min, IntKind.max, IntKind.signed, IntKind.bits, u8In] using h⟩
theorem ck_u16 {N : Nat} {d : D} (h : CkOk N (.int .u16) d) : ∃ n, d = NumD .u16 n ∧ u16In n := by
  cases h with
  | int _ n h => exact ⟨n, rfl, by simpa [Lit.wf, IntKind.min, IntKind.max, IntKind.signed, IntKind.bits, u16In] using h⟩
theorem ck_u32 {N : Nat} {d : D} (h : CkOk N (.int .u32) d) : ∃ n, d = NumD .u32 n ∧ u32In n := by
  cases h with
  | int _ n h => exact ⟨n, rfl, by simpa [Lit.wf, IntKind.min, IntKind.max, IntKind.signed, IntKind.bits, u32In] using h⟩
def kHd : List Ck := [.int .u32, .int .u32, .int .u32, .int .u32, .int .u8, .int .u8, .int .u16]
theorem op_Hd {N : Nat} {l : List D} (h : AllOk N kHd l) : ∃ a : Hd, l = sHd.enc a ∧ HdIn a := by
  obtain ⟨_, _, rfl, h0, h⟩ := h.cons
  obtain ⟨_, _, rfl, h1, h⟩ := h.cons
  obtain ⟨_, _, rfl, h2, h⟩ := h.cons
  obtain ⟨_, _, rfl, h3, h⟩ := h.cons
  obtain ⟨_, _, rfl, h4, h⟩ := h.cons
  obtain ⟨_, _, rfl, h5, h⟩ := h.cons
  obtain ⟨_, _, rfl, h6, h⟩ := h.cons
  obtain rfl := h.nil
  obtain ⟨n0, rfl, i0⟩ := ck_u32 h0
  obtain ⟨n1, rfl, i1⟩ := ck_u32 h1
  obtain ⟨n2, rfl, i2⟩ := ck_u32 h2
  obtain ⟨n3, rfl, i3⟩ := ck_u32 h3
  obtain ⟨n4, rfl, i4⟩ := ck_u8 h4
  obtain ⟨n5, rfl, i5⟩ := ck_u8 h5
  obtain ⟨n6, rfl, i6⟩ := ck_u16 h6
  exact ⟨⟨n0, n1, n2, n3, n4, n5, n6⟩, rfl, i0, i1, i2, i3, i4, i5, i6⟩
def kFw : List Ck := [.int .u32, .int .u32, .int .u32, .int .u16, .int .u16, .int .u32, .int .u32, .int .u32, .int .u32, .int .u16, .int .u16, .int .u8, .int .u8, .int .u8, .int .u16, .int .u16, .int .u8, .int .u8]
theorem op_Fw {N : Nat} {l : List D} (h : AllOk N kFw l) : ∃ a : Fw, l = sFw.enc a ∧ FwIn a := by
  obtain ⟨_, _, rfl, h0, h⟩ := h.cons
  obtain ⟨_, _, rfl, h1, h⟩ := h.cons
  obtain ⟨_, _, rfl, h2, h⟩ := h.cons
  obtain ⟨_, _, rfl, h3, h⟩ := h.cons
  obtain ⟨_, _, rfl, h4, h⟩ := h.cons
  obtain ⟨_, _, rfl, h5, h⟩ := h.cons
  obtain ⟨_, _, rfl, h6, h⟩ := h.cons
  obtain ⟨_, _, rfl, h7, h⟩ := h.cons
  obtain ⟨_, _, rfl, h8, h⟩ := h.cons
  obtain ⟨_, _, rfl, h9, h⟩ := h.cons
  obtain ⟨_, _, rfl, h10, h⟩ := h.cons
  obtain ⟨_, _, rfl, h11, h⟩ := h.cons
  obtain ⟨_, _, rfl, h12, h⟩ := h.cons
  obtain ⟨_, _, rfl, h13, h⟩ := h.cons
  obtain ⟨_, _, rfl, h14, h⟩ := h.cons
  obtain ⟨_, _, rfl, h15, h⟩ := h.cons
  obtain ⟨_, _, rfl, h16, h⟩ := h.cons
  obtain ⟨_, _, rfl, h17, h⟩ := h.cons
  obtain rfl := h.nil
  obtain ⟨n0, rfl, i0⟩ := ck_u32 h0
  obtain ⟨n1, rfl, i1⟩ := ck_u32 h1
  obtain ⟨n2, rfl, i2⟩ := ck_u32 h2
  obtain ⟨n3, rfl, i3⟩ := ck_u16 h3
  obtain ⟨n4, rfl, i4⟩ := ck_u16 h4
  obtain ⟨n5, rfl, i5⟩ := ck_u32 h5
  obtain ⟨n6, rfl, i6⟩ := ck_u32 h6
  obtain ⟨n7, rfl, i7⟩ := ck_u32 h7
  obtain ⟨n8, rfl, i8⟩ := ck_u32 h8
  obtain ⟨n9, rfl, i9⟩ := ck_u16 h9
  obtain ⟨n10, rfl, i10⟩ := ck_u16 h10
  obtain ⟨n11, rfl, i11⟩ := ck_u8 h11
  obtain ⟨n12, rfl, i12⟩ := ck_u8 h12
  obtain ⟨n13, rfl, i13⟩ := ck_u8 h13
  obtain ⟨n14, rfl, i14⟩ := ck_u16 h14
  obtain ⟨n15, rfl, i15⟩ := ck_u16 h15
  obtain ⟨n16, rfl, i16⟩ := ck_u8 h16
  obtain ⟨n17, rfl, i17⟩ := ck_u8 h17
  exact ⟨⟨n0, n1, n2, n3, n4, n5, n6, n7, n8, n9, n10, n11, n12, n13, n14, n15, n16, n17⟩, rfl, i0, i1, i2, i3, i4, i5, i6, i7, i8, i9, i10, i11, i12, i13, i14, i15, i16, i17⟩
def kB8 : List Ck := [.int .u8]
theorem op_B8 {N : Nat} {l : List D} (h : AllOk N kB8 l) : ∃ a : Int, l = sU8.enc a ∧ byteIn a := by
  obtain ⟨_, _, rfl, h0, h⟩ := h.cons
  obtain rfl := h.nil
  obtain ⟨n, rfl, i⟩ := ck_u8 h0
  exact ⟨n, rfl, i⟩
theorem ck_list {A : Type} {N : Nat} {c : Cs A} {ks : List Ck} {In : A → Prop} (z : A) (hop : ∀ l, AllOk N ks l → ∃ a, l = c.enc a ∧ In a) {d : D} (h : CkOk N (.sl ks) d) :
    ∃ l : List A, l.length ≤ N ∧ (∀ a ∈ l, In a) ∧ ∀ {K w r}, KR K w d r → KR K w ((c.list ks.length z).enc l) r := by
  cases h with
  | sl _ n g hn hl hk =>
    have : Inhabited A := ⟨z⟩
    obtain ⟨F, hF⟩ := Go.Deep.choose_lt (n := n) (p := fun i (a : A) => g i = c.enc a ∧ In a) (fun i hi => hop (g i) ⟨hl i hi, fun j kd e h1 h2 => hk i j kd e hi h1 h2⟩)
    refine ⟨(List.range n).map F, by simpa using hn, fun a ha => ?_, fun {K w r} hr => ?_⟩
    · obtain ⟨i, hi, rfl⟩ := List.mem_map.1 ha
      exact (hF i (by simpa using hi)).2
    · have hlen : ((List.range n).map F).length = n := by simp
      show KR K w (slD c ks.length z ((List.range n).map F)) r
      unfold slD
      rw [hlen]
      refine hr.sl_congr fun i hi => ?_
      rw [(hF i hi).1]
      congr 1
      simp [hi]
/-! Zero arguments for the witnesses. -/
abbrev zHd : Value := .agg #[.int .u32 0, .int .u32 0, .int .u32 0, .int .u32 0, .int .u8 0, .int .u8 0, .int .u16 0]
abbrev zI : Value := .int .i64 0
abbrev zB : Value := .int .u8 0
abbrev zBs : Value := .slice none 0 0
abbrev zFws : Value := .slice none 0 0
end Go.Cb
namespace Go.Proofs.YtbjpkbolmpcmfaaDoor
open Go Go.Ev Go.Cb Go.ChangeShapes Go.WideShapes Go.ChangeAt Go.RowKit
section
set_option maxRecDepth 100000
variable {w : World} {N base : Nat} {v : Value} {H : Type} {enc : TypeId × Value → H} {d : DataW H} {ps : List MemPlace}
theorem arg_Hd (hN : N ≤ 4294967280) (hv : Value.okWide Tryd.prog w .any base 26 v) (h : DataW.Trod enc Tryd.prog w 0 (fun _ => true) true 26 v d ps) (hb : Rows.uptoBulk d ≤ N) :
    ∃ a : Hd, KR (allK w) w (cHd.enc a) v ∧ HdIn a := by
  obtain ⟨l, h1, h2⟩ := open_agg tb_ok hN (ks := kHd) (by kernel_rfl) (by kernel_rfl) hv h hb
  obtain ⟨a, rfl, ha⟩ := op_Hd h1
  exact ⟨a, h2, ha⟩
theorem arg_I (hN : N ≤ 4294967280) (hv : Value.okWide Tryd.prog w .any base 3 v) (h : DataW.Trod enc Tryd.prog w 0 (fun _ => true) true 3 v d ps) (hb : Rows.uptoBulk d ≤ N) :
    ∃ n, KR (allK w) w (cI.enc n) v ∧ inI n := by
  obtain ⟨e, h1, h2⟩ := open_one tb_ok hN (k := .int .i64) (by kernel_rfl) (by kernel_rfl) hv h hb
  obtain ⟨n, rfl, hn⟩ := ck_I h1
  exact ⟨n, h2, hn⟩
theorem arg_B (hN : N ≤ 4294967280) (hv : Value.okWide Tryd.prog w .any base 5 v) (h : DataW.Trod enc Tryd.prog w 0 (fun _ => true) true 5 v d ps) (hb : Rows.uptoBulk d ≤ N) :
    ∃ n, KR (allK w) w ((cNum .u8).enc n) v ∧ byteIn n := by
  obtain ⟨e, h1, h2⟩ := open_one tb_ok hN (k := .int .u8) (by kernel_rfl) (by kernel_rfl) hv h hb
  obtain ⟨n, rfl, hn⟩ := ck_u8 h1
  exact ⟨n, h2, hn⟩
theorem arg_Fws (hN : N ≤ 4294967280) (hv : Value.okWide Tryd.prog w .any base 27 v) (h : DataW.Trod enc Tryd.prog w 0 (fun _ => true) true 27 v d ps) (hb : Rows.uptoBulk d ≤ N) :
    ∃ l : List Fw, KR (allK w) w (cFws.enc l) v ∧ l.length ≤ N ∧ ∀ a ∈ l, FwIn a := by
  obtain ⟨e, h1, h2⟩ := open_one tb_ok hN (k := .sl kFw) (by kernel_rfl) (by kernel_rfl) hv h hb
  obtain ⟨l, l1, l2, l3⟩ := ck_list fw0 (fun _ h => op_Fw h) h1
  exact ⟨l, l3 h2, l1, l2⟩
theorem arg_Bs (hN : N ≤ 4294967280) (hv : Value.okWide Tryd.prog w .any base 22 v) (h : DataW.Trod enc Tryd.prog w 0 (fun _ => true) true 22 v d ps) (hb : Rows.uptoBulk d ≤ N) :
    ∃ l : List Int, KR (allK w) w (cBs.enc l) v ∧ l.length ≤ N ∧ ∀ a ∈ l, byteIn a := by
  obtain ⟨e, h1, h2⟩ := open_one tb_ok hN (k := .sl kB8) (by kernel_rfl) (by kernel_rfl) hv h hb
  obtain ⟨l, l1, l2, l3⟩ := ck_list 0 (fun _ h => op_B8 h) h1
  exact ⟨l, l3 h2, l1, l2⟩
end
end Go.Proofs.YtbjpkbolmpcmfaaDoor
