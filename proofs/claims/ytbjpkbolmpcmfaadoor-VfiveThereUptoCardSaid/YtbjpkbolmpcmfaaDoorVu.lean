/- What is written is read as the same. -/
import Derived.Test.YtbjpkbolmpcmfaaDoorVt
namespace Go.Cb
open Go.Ev Go.Proofs.YtbjpkbolmpcmfaaDoor
theorem flowB_flat (f : Fw) (r : List Int) : flowB f ++ r = numB (w64 f.src) 4 ++ (numB (w64 f.dst) 4 ++ (numB (w64 f.next) 4 ++ (numB (w64 f.inp) 2 ++ (numB (w64 f.out) 2 ++ (numB (w64 f.packets) 4 ++ (numB (w64 f.bytes) 4 ++ (numB (w64 f.first) 4 ++ (numB (w64 f.last) 4 ++ (numB (w64 f.srcPort) 2 ++ (numB (w64 f.dstPort) 2 ++ (numB (w64 0) 1 ++ (numB (w64 f.flags) 1 ++ (numB (w64 f.proto) 1 ++ (numB (w64 f.tos) 1 ++ (numB (w64 f.srcAs) 2 ++ (numB (w64 f.dstAs) 2 ++ (numB (w64 f.srcMask) 1 ++ (numB (w64 f.dstMask) 1 ++ (numB (w64 0) 2 ++ r))))))))))))))))))) := by
  simp [flowB, numsB]
theorem headB_flat (h : Hd) (n : Int) (r : List Int) : headB h n ++ r = numB (w64 5) 2 ++ (numB (w64 (w16 n)) 2 ++ (numB (w64 h.up) 4 ++ (numB (w64 h.secs) 4 ++ (numB (w64 h.nanos) 4 ++ (numB (w64 h.seq) 4 ++ (numB (w64 h.engine) 1 ++ (numB (w64 h.ident) 1 ++ (numB (w64 h.sampling) 2 ++ r)))))))) := by
  simp [headB, numsB]
section
variable {f : Fw} {r : List Int} (hf : FwIn f)
include hf
theorem fb_src : be (flowB f ++ r) 0 4 = f.src := by
  rw [flowB_flat]
  exact be_here (hf.1).1 (by have := (hf.1).2; omega) (by have := (hf.1).2; omega)
theorem fb_dst : be (flowB f ++ r) 4 4 = f.dst := by
  rw [flowB_flat, show (4 : Nat) = 4 + (0) from rfl, be_skip]
  exact be_here (hf.2.1).1 (by have := (hf.2.1).2; omega) (by have := (hf.2.1).2; omega)
theorem fb_next : be (flowB f ++ r) 8 4 = f.next := by
  rw [flowB_flat, show (8 : Nat) = 4 + (4 + (0)) from rfl, be_skip, be_skip]
  exact be_here (hf.2.2.1).1 (by have := (hf.2.2.1).2; omega) (by have := (hf.2.2.1).2; omega)
theorem fb_inp : be (flowB f ++ r) 12 2 = f.inp := by
  rw [flowB_flat, show (12 : Nat) = 4 + (4 + (4 + (0))) from rfl, be_skip, be_skip, be_skip]
  exact be_here (hf.2.2.2.1).1 (by have := (hf.2.2.2.1).2; omega) (by have := (hf.2.2.2.1).2; omega)
theorem fb_out : be (flowB f ++ r) 14 2 = f.out := by
  rw [flowB_flat, show (14 : Nat) = 4 + (4 + (4 + (2 + (0)))) from rfl, be_skip, be_skip, be_skip, be_skip]
  exact be_here (hf.2.2.2.2.1).1 (by have := (hf.2.2.2.2.1).2; omega) (by have := (hf.2.2.2.2.1).2; omega)
theorem fb_packets : be (flowB f ++ r) 16 4 = f.packets := by
  rw [flowB_flat, show (16 : Nat) = 4 + (4 + (4 + (2 + (2 + (0))))) from rfl, be_skip, be_skip, be_skip, be_skip, be_skip]
  exact be_here (hf.2.2.2.2.2.1).1 (by have := (hf.2.2.2.2.2.1).2; omega) (by have := (hf.2.2.2.2.2.1).2; omega)
theorem fb_bytes : be (flowB f ++ r) 20 4 = f.bytes := by
  rw [flowB_flat, show (20 : Nat) = 4 + (4 + (4 + (2 + (2 + (4 + (0)))))) from rfl, be_skip, be_skip, be_skip, be_skip, be_skip, be_skip]
  exact be_here (hf.2.2.2.2.2.2.1).1 (by have := (hf.2.2.2.2.2.2.1).2; omega) (by have := (hf.2.2.2.2.2.2.1).2; omega)
theorem fb_first : be (flowB f ++ r) 24 4 = f.first := by
  rw [flowB_flat, show (24 : Nat) = 4 + (4 + (4 + (2 + (2 + (4 + (4 + (0))))))) from rfl, be_skip, be_skip, be_skip, be_skip, be_skip, be_skip, be_skip]
  exact be_here (hf.2.2.2.2.2.2.2.1).1 (by have := (hf.2.2.2.2.2.2.2.1).2; omega) (by have := (hf.2.2.2.2.2.2.2.1).2; omega)
theorem fb_last : be (flowB f ++ r) 28 4 = f.last := by
  rw [flowB_flat, show (28 : Nat) = 4 + (4 + (4 + (2 + (2 + (4 + (4 + (4 + (0)))))))) from rfl, be_skip, be_skip, be_skip, be_skip, be_skip, be_skip, be_skip, be_skip]
  exact be_here (hf.2.2.2.2.2.2.2.2.1).1 (by have := (hf.2.2.2.2.2.2.2.2.1).2; omega) (by have := (hf.2.2.2.2.2.2.2.2.1).2; omega)
theorem fb_srcPort : be (flowB f ++ r) 32 2 = f.srcPort := by
  rw [flowB_flat, show (32 : Nat) = 4 + (4 + (4 + (2 + (2 + (4 + (4 + (4 + (4 + (0))))))))) from rfl, be_skip, be_skip, be_skip, be_skip, be_skip, be_skip, be_skip, be_skip, be_skip]
  exact be_here (hf.2.2.2.2.2.2.2.2.2.1).1 (by have := (hf.2.2.2.2.2.2.2.2.2.1).2; omega) (by have := (hf.2.2.2.2.2.2.2.2.2.1).2; omega)
theorem fb_dstPort : be (flowB f ++ r) 34 2 = f.dstPort := by
  rw [flowB_flat, show (34 : Nat) = 4 + (4 + (4 + (2 + (2 + (4 + (4 + (4 + (4 + (2 + (0)))))))))) from rfl, be_skip, be_skip, be_skip, be_skip, be_skip, be_skip, be_skip, be_skip, be_skip, be_skip]
  exact be_here (hf.2.2.2.2.2.2.2.2.2.2.1).1 (by have := (hf.2.2.2.2.2.2.2.2.2.2.1).2; omega) (by have := (hf.2.2.2.2.2.2.2.2.2.2.1).2; omega)
theorem fb_flags : be (flowB f ++ r) 37 1 = f.flags := by
  rw [flowB_flat, show (37 : Nat) = 4 + (4 + (4 + (2 + (2 + (4 + (4 + (4 + (4 + (2 + (2 + (1 + (0)))))))))))) from rfl, be_skip, be_skip, be_skip, be_skip, be_skip, be_skip, be_skip, be_skip, be_skip, be_skip, be_skip, be_skip]
  exact be_here (hf.2.2.2.2.2.2.2.2.2.2.2.1).1 (by have := (hf.2.2.2.2.2.2.2.2.2.2.2.1).2; omega) (by have := (hf.2.2.2.2.2.2.2.2.2.2.2.1).2; omega)
theorem fb_proto : be (flowB f ++ r) 38 1 = f.proto := by
  rw [flowB_flat, show (38 : Nat) = 4 + (4 + (4 + (2 + (2 + (4 + (4 + (4 + (4 + (2 + (2 + (1 + (1 + (0))))))))))))) from rfl, be_skip, be_skip, be_skip, be_skip, be_skip, be_skip, be_skip, be_skip, be_skip, be_skip, be_skip, be_skip, be_skip]
  exact be_here (hf.2.2.2.2.2.2.2.2.2.2.2.2.1).1 (by have := (hf.2.2.2.2.2.2.2.2.2.2.2.2.1).2; omega) (by have := (hf.2.2.2.2.2.2.2.2.2.2.2.2.1).2; omega)
theorem fb_tos : be (flowB f ++ r) 39 1 = f.tos := by
  rw [flowB_flat, show (39 : Nat) = 4 + (4 + (4 + (2 + (2 + (4 + (4 + (4 + (4 + (2 + (2 + (1 + (1 + (1 + (0)))))))))))))) from rfl, be_skip, be_skip, be_skip, be_skip, be_skip, be_skip, be_skip, be_skip, be_skip, be_skip, be_skip, be_skip, be_skip, be_skip]
  exact be_here (hf.2.2.2.2.2.2.2.2.2.2.2.2.2.1).1 (by have := (hf.2.2.2.2.2.2.2.2.2.2.2.2.2.1).2; omega) (by have := (hf.2.2.2.2.2.2.2.2.2.2.2.2.2.1).2; omega)
theorem fb_srcAs : be (flowB f ++ r) 40 2 = f.srcAs := by
  rw [flowB_flat, show (40 : Nat) = 4 + (4 + (4 + (2 + (2 + (4 + (4 + (4 + (4 + (2 + (2 + (1 + (1 + (1 + (1 + (0))))))))))))))) from rfl, be_skip, be_skip, be_skip, be_skip, be_skip, be_skip, be_skip, be_skip, be_skip, be_skip, be_skip, be_skip, be_skip, be_skip, be_skip]
  exact be_here (hf.2.2.2.2.2.2.2.2.2.2.2.2.2.2.1).1 (by have := (hf.2.2.2.2.2.2.2.2.2.2.2.2.2.2.1).2; omega) (by have := (hf.2.2.2.2.2.2.2.2.2.2.2.2.2.2.1).2; omega)
theorem fb_dstAs : be (flowB f ++ r) 42 2 = f.dstAs := by
  rw [flowB_flat, show (42 : Nat) = 4 + (4 + (4 + (2 + (2 + (4 + (4 + (4 + (4 + (2 + (2 + (1 + (1 + (1 + (1 + (2 + (0)))))))))))))))) from rfl, be_skip, be_skip, be_skip, be_skip, be_skip, be_skip, be_skip, be_skip, be_skip, be_skip, be_skip, be_skip, be_skip, be_skip, be_skip, be_skip]
  exact be_here (hf.2.2.2.2.2.2.2.2.2.2.2.2.2.2.2.1).1 (by have := (hf.2.2.2.2.2.2.2.2.2.2.2.2.2.2.2.1).2; omega) (by have := (hf.2.2.2.2.2.2.2.2.2.2.2.2.2.2.2.1).2; omega)
theorem fb_srcMask : be (flowB f ++ r) 44 1 = f.srcMask := by
  rw [flowB_flat, show (44 : Nat) = 4 + (4 + (4 + (2 + (2 + (4 + (4 + (4 + (4 + (2 + (2 + (1 + (1 + (1 + (1 + (2 + (2 + (0))))))))))))))))) from rfl, be_skip, be_skip, be_skip, be_skip, be_skip, be_skip, be_skip, be_skip, be_skip, be_skip, be_skip, be_skip, be_skip, be_skip, be_skip, be_skip, be_skip]
  exact be_here (hf.2.2.2.2.2.2.2.2.2.2.2.2.2.2.2.2.1).1 (by have := (hf.2.2.2.2.2.2.2.2.2.2.2.2.2.2.2.2.1).2; omega) (by have := (hf.2.2.2.2.2.2.2.2.2.2.2.2.2.2.2.2.1).2; omega)
theorem fb_dstMask : be (flowB f ++ r) 45 1 = f.dstMask := by
  rw [flowB_flat, show (45 : Nat) = 4 + (4 + (4 + (2 + (2 + (4 + (4 + (4 + (4 + (2 + (2 + (1 + (1 + (1 + (1 + (2 + (2 + (1 + (0)))))))))))))))))) from rfl, be_skip, be_skip, be_skip, be_skip, be_skip, be_skip, be_skip, be_skip, be_skip, be_skip, be_skip, be_skip, be_skip, be_skip, be_skip, be_skip, be_skip, be_skip]
  exact be_here (hf.2.2.2.2.2.2.2.2.2.2.2.2.2.2.2.2.2).1 (by have := (hf.2.2.2.2.2.2.2.2.2.2.2.2.2.2.2.2.2).2; omega) (by have := (hf.2.2.2.2.2.2.2.2.2.2.2.2.2.2.2.2.2).2; omega)
theorem flow_back (hb : ∀ x ∈ flowB f ++ r, byteIn x) : r14_flow (flowB f ++ r) = f := by
  unfold r14_flow
  rw [show r14_At (flowB f ++ r) 0 4 = f.src from (atN_be hb 0 4 (by omega)).trans (fb_src hf), show r14_At (flowB f ++ r) 4 4 = f.dst from (atN_be hb 4 4 (by omega)).trans (fb_dst hf), show r14_At (flowB f ++ r) 8 4 = f.next from (atN_be hb 8 4 (by omega)).trans (fb_next hf), show r14_At (flowB f ++ r) 12 2 = f.inp from (atN_be hb 12 2 (by omega)).trans (fb_inp hf), show r14_At (flowB f ++ r) 14 2 = f.out from (atN_be hb 14 2 (by omega)).trans (fb_out hf), show r14_At (flowB f ++ r) 16 4 = f.packets from (atN_be hb 16 4 (by omega)).trans (fb_packets hf), show r14_At (flowB f ++ r) 20 4 = f.bytes from (atN_be hb 20 4 (by omega)).trans (fb_bytes hf), show r14_At (flowB f ++ r) 24 4 = f.first from (atN_be hb 24 4 (by omega)).trans (fb_first hf), show r14_At (flowB f ++ r) 28 4 = f.last from (atN_be hb 28 4 (by omega)).trans (fb_last hf), show r14_At (flowB f ++ r) 32 2 = f.srcPort from (atN_be hb 32 2 (by omega)).trans (fb_srcPort hf), show r14_At (flowB f ++ r) 34 2 = f.dstPort from (atN_be hb 34 2 (by omega)).trans (fb_dstPort hf), show (flowB f ++ r).getD 37 0 = f.flags from getD_be.trans (fb_flags hf), show (flowB f ++ r).getD 38 0 = f.proto from getD_be.trans (fb_proto hf), show (flowB f ++ r).getD 39 0 = f.tos from getD_be.trans (fb_tos hf), show r14_At (flowB f ++ r) 40 2 = f.srcAs from (atN_be hb 40 2 (by omega)).trans (fb_srcAs hf), show r14_At (flowB f ++ r) 42 2 = f.dstAs from (atN_be hb 42 2 (by omega)).trans (fb_dstAs hf), show (flowB f ++ r).getD 44 0 = f.srcMask from getD_be.trans (fb_srcMask hf), show (flowB f ++ r).getD 45 0 = f.dstMask from getD_be.trans (fb_dstMask hf)]
  rw [w16_of (n := f.inp) (hf.2.2.2.1).1 (by have := (hf.2.2.2.1).2; omega), w16_of (n := f.out) (hf.2.2.2.2.1).1 (by have := (hf.2.2.2.2.1).2; omega), w16_of (n := f.srcPort) (hf.2.2.2.2.2.2.2.2.2.1).1 (by have := (hf.2.2.2.2.2.2.2.2.2.1).2; omega), w16_of (n := f.dstPort) (hf.2.2.2.2.2.2.2.2.2.2.1).1 (by have := (hf.2.2.2.2.2.2.2.2.2.2.1).2; omega), w16_of (n := f.srcAs) (hf.2.2.2.2.2.2.2.2.2.2.2.2.2.2.1).1 (by have := (hf.2.2.2.2.2.2.2.2.2.2.2.2.2.2.1).2; omega), w16_of (n := f.dstAs) (hf.2.2.2.2.2.2.2.2.2.2.2.2.2.2.2.1).1 (by have := (hf.2.2.2.2.2.2.2.2.2.2.2.2.2.2.2.1).2; omega)]
end
section
variable {h : Hd} {n : Int} {r : List Int} (hh : HdIn h)
theorem hb_five : be (headB h n ++ r) 0 2 = 5 := by
  rw [headB_flat]
  exact be_here (by decide) (by decide) (by decide)
theorem hb_n (h0 : 0 ≤ n) (h1 : n < 65536) : be (headB h n ++ r) 2 2 = n := by
  rw [headB_flat, show (2 : Nat) = 2 + 0 from rfl, be_skip, w16_of h0 h1]
  exact be_here h0 (by omega) (by omega)
include hh
theorem hb_up : be (headB h n ++ r) 4 4 = h.up := by
  rw [headB_flat, show (4 : Nat) = 2 + (2 + (0)) from rfl, be_skip, be_skip]
  exact be_here (hh.1).1 (by have := (hh.1).2; omega) (by have := (hh.1).2; omega)
theorem hb_secs : be (headB h n ++ r) 8 4 = h.secs := by
  rw [headB_flat, show (8 : Nat) = 2 + (2 + (4 + (0))) from rfl, be_skip, be_skip, be_skip]
  exact be_here (hh.2.1).1 (by have := (hh.2.1).2; omega) (by have := (hh.2.1).2; omega)
theorem hb_nanos : be (headB h n ++ r) 12 4 = h.nanos := by
  rw [headB_flat, show (12 : Nat) = 2 + (2 + (4 + (4 + (0)))) from rfl, be_skip, be_skip, be_skip, be_skip]
  exact be_here (hh.2.2.1).1 (by have := (hh.2.2.1).2; omega) (by have := (hh.2.2.1).2; omega)
theorem hb_seq : be (headB h n ++ r) 16 4 = h.seq := by
  rw [headB_flat, show (16 : Nat) = 2 + (2 + (4 + (4 + (4 + (0))))) from rfl, be_skip, be_skip, be_skip, be_skip, be_skip]
  exact be_here (hh.2.2.2.1).1 (by have := (hh.2.2.2.1).2; omega) (by have := (hh.2.2.2.1).2; omega)
theorem hb_engine : be (headB h n ++ r) 20 1 = h.engine := by
  rw [headB_flat, show (20 : Nat) = 2 + (2 + (4 + (4 + (4 + (4 + (0)))))) from rfl, be_skip, be_skip, be_skip, be_skip, be_skip, be_skip]
  exact be_here (hh.2.2.2.2.1).1 (by have := (hh.2.2.2.2.1).2; omega) (by have := (hh.2.2.2.2.1).2; omega)
theorem hb_ident : be (headB h n ++ r) 21 1 = h.ident := by
  rw [headB_flat, show (21 : Nat) = 2 + (2 + (4 + (4 + (4 + (4 + (1 + (0))))))) from rfl, be_skip, be_skip, be_skip, be_skip, be_skip, be_skip, be_skip]
  exact be_here (hh.2.2.2.2.2.1).1 (by have := (hh.2.2.2.2.2.1).2; omega) (by have := (hh.2.2.2.2.2.1).2; omega)
theorem hb_sampling : be (headB h n ++ r) 22 2 = h.sampling := by
  rw [headB_flat, show (22 : Nat) = 2 + (2 + (4 + (4 + (4 + (4 + (1 + (1 + (0)))))))) from rfl, be_skip, be_skip, be_skip, be_skip, be_skip, be_skip, be_skip, be_skip]
  exact be_here (hh.2.2.2.2.2.2).1 (by have := (hh.2.2.2.2.2.2).2; omega) (by have := (hh.2.2.2.2.2.2).2; omega)
theorem head_back (hb : ∀ x ∈ headB h n ++ r, byteIn x) : r14_Head (headB h n ++ r) = h := by
  unfold r14_Head
  rw [show r14_At (headB h n ++ r) 4 4 = h.up from (atN_be hb 4 4 (by omega)).trans (hb_up hh), show r14_At (headB h n ++ r) 8 4 = h.secs from (atN_be hb 8 4 (by omega)).trans (hb_secs hh), show r14_At (headB h n ++ r) 12 4 = h.nanos from (atN_be hb 12 4 (by omega)).trans (hb_nanos hh), show r14_At (headB h n ++ r) 16 4 = h.seq from (atN_be hb 16 4 (by omega)).trans (hb_seq hh), show (headB h n ++ r).getD 20 0 = h.engine from getD_be.trans (hb_engine hh), show (headB h n ++ r).getD 21 0 = h.ident from getD_be.trans (hb_ident hh), show r14_At (headB h n ++ r) 22 2 = h.sampling from (atN_be hb 22 2 (by omega)).trans (hb_sampling hh), w16_of (n := h.sampling) (hh.2.2.2.2.2.2).1 (by have := (hh.2.2.2.2.2.2).2; omega)]
end
/-! Whole messages. -/
section
variable {h : Hd} {L : List Fw} (hh : HdIn h) (hL : ∀ f ∈ L, FwIn f) (h1 : 1 ≤ L.length) (h2 : L.length ≤ 30)
abbrev msg (h : Hd) (L : List Fw) : List Int := headB h L.length ++ flowsB L
theorem msg_len : (msg h L).length = 24 + 48 * L.length := by simp [headB_len, flowsB_len]
theorem msg_in : ∀ x ∈ msg h L, byteIn x := by
  intro x hx
  rcases List.mem_append.1 hx with hx | hx
  · exact headB_in _ _ x hx
  · exact flowsB_in _ x hx
theorem flowsB_drop : ∀ (L : List Fw) (i : Nat) (hi : i < L.length), (flowsB L).drop (48 * i) = flowB L[i] ++ flowsB (L.drop (i + 1))
  | f :: L, 0, _ => rfl
  | f :: L, i + 1, hi => by
    have h := flowsB_drop L i (by simpa using hi)
    show (flowB f ++ flowsB L).drop (48 * (i + 1)) = _
    rw [List.drop_append, flowB_len, List.drop_eq_nil_of_le (by rw [flowB_len]; omega), List.nil_append, show 48 * (i + 1) - 48 = 48 * i by omega, h]
    rfl
include h1 h2
theorem msg_writeB : writeB h L = msg h L := by
  unfold writeB writeE
  rw [show ((L.length : Int) == 0) = false by rw [beq_eq_false_iff_ne]; omega, show decide ((L.length : Int) > 30) = false by simp; omega]
  rfl
theorem msg_n : r14_n (msg h L) = L.length := by
  rw [n_be msg_in]
  exact hb_n (by omega) (by omega)
theorem msg_fault_at {c : List Int} (hc : ∀ x ∈ c, byteIn x) (h24 : 24 ≤ c.length) (e0 : be c 0 2 = 5) (e2 : be c 2 2 = L.length) :
    r14_Fault c = bif decide (c.length < 24 + 48 * L.length) then 8 else bif decide (c.length > 24 + 48 * L.length) then 2 else 0 := by
  have hn : r14_n c = L.length := by rw [n_be hc, e2]
  have ha : r14_all c = 24 + 48 * (L.length : Int) := by
    unfold r14_all
    rw [hn, i64_in (n := 48 * (L.length : Int)) (by omega) (by omega), i64_in (by omega) (by omega)]
  unfold r14_Fault
  rw [show r14_At c 0 2 = 5 from (atN_be hc 0 2 (by omega)).trans e0, hn, ha, show decide ((c.length : Int) < 24) = false by simp; omega, show ((5 : Int) != 5) = false by decide, show ((L.length : Int) == 0) = false by rw [beq_eq_false_iff_ne]; omega,
    show decide ((L.length : Int) > 30) = false by simp; omega]
  simp only [cond_false]
  congr 1
  · simp; omega
  · congr 1; simp; omega
theorem msg_fault : r14_Fault (msg h L) = 0 := by
  rw [msg_fault_at h1 h2 msg_in (by rw [msg_len]; omega) hb_five (hb_n (by omega) (by omega)), msg_len]
  simp
theorem msg_long (x : Int) (hx : byteIn x) : r14_Fault (msg h L ++ [x]) = 2 := by
  have e : msg h L ++ [x] = headB h L.length ++ (flowsB L ++ [x]) := by simp
  have hin : ∀ y ∈ msg h L ++ [x], byteIn y := fun y hy => by
    rcases List.mem_append.1 hy with hy | hy
    · exact msg_in y hy
    · rw [List.mem_singleton] at hy; rw [hy]; exact hx
  rw [msg_fault_at h1 h2 hin (by rw [List.length_append, msg_len]; omega) (by rw [e]; exact hb_five) (by rw [e]; exact hb_n (by omega) (by omega)), List.length_append, msg_len]
  rw [show decide (24 + 48 * L.length + [x].length < 24 + 48 * L.length) = false by simp, show decide (24 + 48 * L.length + [x].length > 24 + 48 * L.length) = true by simp]
  rfl
theorem msg_short (k : Nat) (hk : k < (msg h L).length) : r14_Fault ((msg h L).take k) = 8 := by
  have hl : ((msg h L).take k).length = k := by rw [List.length_take]; omega
  by_cases h24 : 24 ≤ k
  · have e : msg h L = (msg h L).take k ++ (msg h L).drop k := (List.take_append_drop _ _).symm
    have e0 : be ((msg h L).take k) 0 2 = 5 := by
      rw [← be_left (b := (msg h L).drop k) 2 (by omega), ← e]; exact hb_five
    have e2 : be ((msg h L).take k) 2 2 = L.length := by
      rw [← be_left (b := (msg h L).drop k) 2 (by omega), ← e]; exact hb_n (by omega) (by omega)
    rw [msg_fault_at h1 h2 (fun x hx => msg_in x (List.mem_of_mem_take hx)) (by omega) e0 e2, hl]
    rw [msg_len] at hk
    rw [show decide (k < 24 + 48 * L.length) = true by simpa using hk]
    rfl
  · unfold r14_Fault
    rw [show decide ((((msg h L).take k).length : Int) < 24) = true by rw [hl]; simp; omega]
    rfl
include hh in
theorem msg_head : readH (rdr (msg h L)) = h := by rw [readH_eq msg_in (msg_fault h1 h2)]; exact head_back hh msg_in
include hL in
theorem msg_flows : readL (rdr (msg h L)) = L := by
  rw [readL_eq msg_in (msg_fault h1 h2)]
  unfold r14_Flows
  rw [msg_len, show (24 + 48 * L.length - 24 + 47) / 48 = L.length by omega]
  apply List.ext_getElem
  · simp
  · intro i a b
    simp only [List.getElem_map, List.getElem_range]
    have hd : (msg h L).drop (24 + 48 * i) = flowB L[i] ++ flowsB (L.drop (i + 1)) := by
      rw [← flowsB_drop L i b, List.drop_append, headB_len, List.drop_eq_nil_of_le (by rw [headB_len]; omega), List.nil_append, show 24 + 48 * i - 24 = 48 * i by omega]
    rw [hd]
    refine flow_back (hL _ (List.getElem_mem b)) fun x hx => msg_in (h := h) (L := L) x ?_
    rw [← hd] at hx
    exact List.mem_of_mem_drop hx
end
end Go.Cb
