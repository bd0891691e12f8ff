/- Heads and flows read. -/
import Derived.Test.YtbjpkbolmpcmfaaDoorVb
namespace Go.Cb
open Go.Ev Go.Proofs.YtbjpkbolmpcmfaaDoor
/-- All bytes are bytes. -/
def rgood (x : Rr) : Bool := decide (x.n ≤ 4294967296) && all8 x.n x.g
theorem all8_iff {k : Nat} {g : Nat → List D} : all8 k g = true ↔ ∀ i, i < k → isS sU8 (g i) = true := by simp [all8]
theorem rgood_ck {x : Rr} (h : rgood x = true) (c : Int) : rck x c = true := by
  simp only [rgood, Bool.and_eq_true, decide_eq_true_eq, all8_iff] at h
  unfold rck
  rw [show decide (x.n ≤ 4294967296) = true by simpa using h.1]
  cases hb : rBad x c with
  | true => rfl
  | false =>
    unfold rBad at hb
    simp at hb
    simp only [Bool.true_and, Bool.false_or, all8_iff]
    exact fun i hi => h.2 i (by omega)
theorem rgood_adv {x : Rr} (h : rgood x = true) (c : Int) : rgood (rAdv x c) = true := by
  cases hb : rBad x c with
  | true => rw [rAdv_bad hb]; exact h
  | false =>
    rw [rAdv_ok hb]
    simp only [rgood, Bool.and_eq_true, decide_eq_true_eq, all8_iff] at h ⊢
    exact ⟨by omega, fun i hi => h.2 _ (by omega)⟩
/-- Reads, one behind the other. -/
def seqC {α : Type} : List Int → Rr → Option α → Option α
  | [], _, k => k
  | c :: r, x, k => bif rck x c then seqC r (rAdv x c) k else none
theorem seqC_eq {α : Type} {k : Option α} : ∀ (l : List Int) {x : Rr}, rgood x = true → seqC l x k = k
  | [], _, _ => rfl
  | c :: r, x, h => by
    unfold seqC
    rw [rgood_ck h, cond_true, seqC_eq r (rgood_adv h c)]
def advs : List Int → Rr → Rr
  | [], x => x
  | c :: r, x => advs r (rAdv x c)
theorem rgood_advs : ∀ (l : List Int) {x : Rr}, rgood x = true → rgood (advs l x) = true
  | [], _, h => h
  | c :: r, _, h => rgood_advs r (rgood_adv h c)
structure Hd where
  up : Int
  secs : Int
  nanos : Int
  seq : Int
  engine : Int
  ident : Int
  sampling : Int
structure Fw where
  src : Int
  dst : Int
  next : Int
  inp : Int
  out : Int
  packets : Int
  bytes : Int
  first : Int
  last : Int
  srcPort : Int
  dstPort : Int
  flags : Int
  proto : Int
  tos : Int
  srcAs : Int
  dstAs : Int
  srcMask : Int
  dstMask : Int
abbrev W (k : IntKind) (n : Int) : D := .v (.int k n)
def sHd : Cs Hd where
  enc h := [W .u32 h.up, W .u32 h.secs, W .u32 h.nanos, W .u32 h.seq, W .u8 h.engine, W .u8 h.ident, W .u16 h.sampling]
  dec
    | .v (.int .u32 a) :: .v (.int .u32 b) :: .v (.int .u32 c) :: .v (.int .u32 d) :: .v (.int .u8 e) :: .v (.int .u8 f) :: .v (.int .u16 g) :: r => some (⟨a, b, c, d, e, f, g⟩, r)
    | _ => none
  ok := by intro l a r h; split at h <;> cases h; rfl
  re := by intro a r; rfl
def sFw : Cs Fw where
  enc f := [W .u32 f.src, W .u32 f.dst, W .u32 f.next, W .u16 f.inp, W .u16 f.out, W .u32 f.packets, W .u32 f.bytes, W .u32 f.first, W .u32 f.last, W .u16 f.srcPort, W .u16 f.dstPort, W .u8 f.flags, W .u8 f.proto, W .u8 f.tos, W .u16 f.srcAs, W .u16 f.dstAs, W .u8 f.srcMask, W .u8 f.dstMask]
  dec
    | .v (.int .u32 a) :: .v (.int .u32 b) :: .v (.int .u32 c) :: .v (.int .u16 d) :: .v (.int .u16 e) :: .v (.int .u32 f) :: .v (.int .u32 g) :: .v (.int .u32 h) :: .v (.int .u32 i) :: .v (.int .u16 j) :: .v (.int .u16 k) ::
        .v (.int .u8 l) :: .v (.int .u8 m) :: .v (.int .u8 n) :: .v (.int .u16 o) :: .v (.int .u16 p) :: .v (.int .u8 q) :: .v (.int .u8 s) :: r => some (⟨a, b, c, d, e, f, g, h, i, j, k, l, m, n, o, p, q, s⟩, r)
    | _ => none
  ok := by intro l a r h; split at h <;> cases h; rfl
  re := by intro a r; rfl
abbrev cHd : Cd Hd := sHd.agg
abbrev cFw : Cd Fw := sFw.agg
def w32 (n : Int) : Int := IntKind.u32.wrap n
def w16 (n : Int) : Int := IntKind.u16.wrap n
def w8 (n : Int) : Int := IntKind.u8.wrap n
/-- The number that stands behind others. -/
def rAt (l : List Int) (x : Rr) (c : Int) : Int := rNum (advs l x) c
abbrev headL : List Int := [4, 4, 4, 4, 1, 1, 2]
def rHead (x : Rr) : Hd := ⟨w32 (rAt [] x 4), w32 (rAt [4] x 4), w32 (rAt [4, 4] x 4), w32 (rAt [4, 4, 4] x 4), w8 (rAt [4, 4, 4, 4] x 1), w8 (rAt [4, 4, 4, 4, 1] x 1), w16 (rAt [4, 4, 4, 4, 1, 1] x 2)⟩
abbrev flowL : List Int := [4, 4, 4, 2, 2, 4, 4, 4, 4, 2, 2, 1, 1, 1, 1, 2, 2, 1, 1, 2]
def rFlow (x : Rr) : Fw :=
  let y := advs [4, 4, 4, 2, 2, 4, 4, 4, 4, 2, 2, 1] x
  ⟨w32 (rAt [] x 4), w32 (rAt [4] x 4), w32 (rAt [4, 4] x 4), w16 (rAt [4, 4, 4] x 2), w16 (rAt [4, 4, 4, 2] x 2), w32 (rAt [4, 4, 4, 2, 2] x 4), w32 (rAt [4, 4, 4, 2, 2, 4] x 4), w32 (rAt [4, 4, 4, 2, 2, 4, 4] x 4), w32 (rAt [4, 4, 4, 2, 2, 4, 4, 4] x 4),
   w16 (rAt [4, 4, 4, 2, 2, 4, 4, 4, 4] x 2), w16 (rAt [4, 4, 4, 2, 2, 4, 4, 4, 4, 2] x 2), w8 (rAt [] y 1), w8 (rAt [1] y 1), w8 (rAt [1, 1] y 1), w16 (rAt [1, 1, 1] y 2), w16 (rAt [1, 1, 1, 2] y 2), w8 (rAt [1, 1, 1, 2, 2] y 1), w8 (rAt [1, 1, 1, 2, 2, 1] y 1)⟩
end Go.Cb
namespace Go.Proofs.YtbjpkbolmpcmfaaDoor
open Go.Ev Go.Cb
abbrev X_rd : Xns := [(43, x_four), (44, x_one), (25, x_two), (45, x_Raw)]
theorem oks_rd : Xs X_rd := .cons ok_four (.cons ok_one (.cons ok_two (.cons ok_Raw .nil)))
abbrev x_head : FeX := fx1 cSr (fun x => rgood x) fun x => (cHd.enc (rHead x), [srD (advs headL x)])
theorem ok_head : Enx 26 x_head :=
  entryX1 (callable Tryd.func26 (by kernel_rfl)) fun x h => sxX .nil oks_rd Tryd.func26 1
    (Eq.trans (b := seqC headL x (some (cHd.enc (rHead x), [srD (advs headL x)]))) (by kernel_rfl) (seqC_eq _ h))
abbrev x_flow : FeX := fx1 cSr (fun x => rgood x) fun x => (cFw.enc (rFlow x), [srD (advs flowL x)])
theorem ok_flow : Enx 27 x_flow :=
  entryX1 (callable Tryd.func27 (by kernel_rfl)) fun x h => sxX .nil oks_rd Tryd.func27 1
    (Eq.trans (b := seqC flowL x (some (cFw.enc (rFlow x), [srD (advs flowL x)]))) (by kernel_rfl) (seqC_eq _ h))
end Go.Proofs.YtbjpkbolmpcmfaaDoor
