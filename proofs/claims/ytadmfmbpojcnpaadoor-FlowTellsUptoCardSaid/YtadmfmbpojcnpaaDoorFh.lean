/- The statements of flows that ask the program alone: the laws give true. -/
import Derived.Test.YtadmfmbpojcnpaaDoorOa
namespace Go.Cb
open Go.Ev
def kyEqK (a b : Ky) (r : Bool) : Bool := (a.kind == b.kind) && ((a.len == b.len) && ((a.hi == b.hi) && ((a.lo == b.lo) && ((a.path.toList == b.path.toList) && r))))
def rcEq (a b : Rc) : Bool := kyEqK a.a0 b.a0 (kyEqK a.a1 b.a1 (kyEqK a.p0 b.p0 (kyEqK a.p1 b.p1 ((a.packets == b.packets) && ((a.bytes == b.bytes) && true)))))
def pxEq (a b : Px) : Bool := (a.at0 == b.at0) && ((a.at1 == b.at1) && kyEqK a.k0 b.k0 (kyEqK a.k1 b.k1 true))
theorem kyEqK_refl (a : Ky) (r : Bool) : kyEqK a a r = r := by simp [kyEqK]
theorem kyEq_refl (a : Ky) : kyEq a a = true := by simp [kyEq]
theorem rcEq_refl (a : Rc) : rcEq a a = true := by simp [rcEq, kyEqK_refl]
theorem pxEq_refl (a : Px) : pxEq a a = true := by simp [pxEq, kyEqK_refl]
theorem beq_f {a b : Int} (h : ¬ a = b) : (a == b) = false := by simpa using h
def dm_other (d : Dm) : Dm := bif d.side == 1 then ⟨d.kind, 2, d.step⟩ else bif d.side == 2 then ⟨d.kind, 1, d.step⟩ else d
def law_Turns (f : Rc) (d o : Dm) (b : Int) : Option D :=
  bif rcEq (flow_Turned (flow_Turned f)) f then
    (bif kyEq (flow_Key (flow_Turned f) d) (flow_Key f o) then
      (bif flow_KeyOk (flow_Turned f) d == flow_KeyOk f o then
        (bif flow_Right (flow_Turned f) == flow_Right f then some (B (flow_Weight (flow_Turned f) b == flow_Weight f b)) else some (B false)) else some (B false)) else some (B false)) else some (B false)
theorem flow_Right_turned (f : Rc) : flow_Right (flow_Turned f) = flow_Right f := by
  unfold flow_Right flow_RightC flow_Turned
  simp only [id]
  cases flow_rightAddr f.a0 <;> cases flow_rightPath f.p0 <;> cases flow_rightAddr f.a1 <;> cases flow_rightPath f.p1 <;> rfl
theorem dim_Right_other (d : Dm) : dim_Right (dm_other d) = dim_Right d := by
  unfold dm_other
  by_cases h1 : d.side = 1
  · simp [h1, dim_Right, dim_RightC]
  · by_cases h2 : d.side = 2
    · simp [h2, dim_Right, dim_RightC]
    · rw [beq_f h1, beq_f h2]; rfl
theorem flow_side_turned (f : Rc) (d : Dm) (h : dim_Right d = true) : flow_side (flow_Turned f) d = flow_side f (dm_other d) := by
  unfold flow_side dm_other flow_Turned
  rcases dim_Right_side h with h1 | h1 <;> simp [h1]
theorem dm_other_kind (d : Dm) : (dm_other d).kind = d.kind := by
  unfold dm_other
  cases d.side == 1 <;> cases d.side == 2 <;> rfl
theorem flow_KeyOk_turned (f : Rc) (d : Dm) : flow_KeyOk (flow_Turned f) d = flow_KeyOk f (dm_other d) := by
  unfold flow_KeyOk
  rw [flow_Right_turned, dim_Right_other, dm_other_kind]
  cases h : dim_Right d with
  | false => simp
  | true => rw [flow_side_turned f d h]
theorem flow_Key_turned (f : Rc) (d : Dm) : flow_Key (flow_Turned f) d = flow_Key f (dm_other d) := by
  unfold flow_Key
  rw [flow_KeyOk_turned]
  cases h : flow_KeyOk f (dm_other d) with
  | false => rfl
  | true =>
    have : dim_Right d = true := by
      rw [← dim_Right_other]
      unfold flow_KeyOk at h
      simp only [Bool.and_eq_true] at h
      exact h.2.1
    simp [flow_side_turned f d this]
theorem law_Turns_true (f : Rc) (d : Dm) (b : Int) : law_Turns f d (dm_other d) b = some (B true) := by
  unfold law_Turns
  have e1 : flow_Turned (flow_Turned f) = f := by cases f; rfl
  have e2 : flow_Weight (flow_Turned f) b = flow_Weight f b := by cases f; rfl
  rw [e1, rcEq_refl, flow_Key_turned, kyEq_refl, flow_KeyOk_turned, flow_Right_turned, e2]
  simp
end Go.Cb
namespace Go.Proofs.YtadmfmbpojcnpaaDoor
open Go.Ev Go.Cb
abbrev e_alive : Fe := fn0 (B true)
theorem ok_alive : En 12 e_alive :=
  entry0 (callable Tryd.func12 (by kernel_rfl)) (sp (.cons ok_wide_Of (.cons ok_key_Four (.cons ok_key_Six (.cons ok_flow_Key (.cons ok_flow_Leaf (.cons ok_flow_Turned (.cons ok_flow_Total (.cons ok_flow_Weight (.cons ok_flow_Right .nil))))))))) Tryd.func12 3 (by kernel_rfl))
theorem law_FlowTurns {N : Nat} (f : Rc) (d : Dm) (b : Int) (_ : RcIn N f) (_ : DmIn d) (_ : inI b) : Go.Ev.Spec Tryd.prog gl 5 [cRc.enc f, cDm.enc d, cI.enc b] (B true) :=
  sp (.cons ok_alive (.cons ok_flow_Turned (.cons ok_flow_Key (.cons ok_flow_Right (.cons ok_flow_Weight .nil))))) Tryd.func5 3
    (Eq.trans (b := bif d.side == 1 then (bif d.side == 2 then law_Turns f d ⟨d.kind, 1, d.step⟩ b else law_Turns f d ⟨d.kind, 2, d.step⟩ b) else (bif d.side == 2 then law_Turns f d ⟨d.kind, 1, d.step⟩ b else law_Turns f d d b)) (by kernel_rfl) (by
      have := law_Turns_true f d b
      unfold dm_other at this
      by_cases h1 : d.side = 1
      · simp [h1] at this ⊢; exact this
      · by_cases h2 : d.side = 2
        · simp [h2] at this ⊢; exact this
        · rw [beq_f h1, beq_f h2] at this ⊢; exact this))
/-! FlowLeaf. -/
end Go.Proofs.YtadmfmbpojcnpaaDoor
namespace Go.Cb
open Go.Ev
def rc_with (f : Rc) (n m : Int) : Rc := ⟨f.a0, f.a1, f.p0, f.p1, n, m⟩
/-- The law's last look. -/
def law_LeafEnd (s : Sp) (f : Rc) : Option D :=
  let last : Option D :=
    bif !flow_LeafOk s f then some (B true)
    else bif kyEq (flow_Leaf s f).k0 (flow_Key f s.d0) then (bif s.n == 1 then some (B true) else some (B (kyEq (flow_Leaf s f).k1 (flow_Key f s.d1)))) else some (B false)
  let two (b : Bool) : Option D := bif flow_LeafOk s f == b then last else some (B false)
  bif flow_KeyOk f s.d0 then (bif flow_KeyOk f s.d1 then two true else two (s.n == 1)) else two false
def law_Leaf (s : Sp) (f : Rc) (n m : Int) : Option D :=
  let cont : Option D := bif !prefix_Sound s then some (B (!flow_LeafOk s f)) else law_LeafEnd s f
  let tail : Option D := bif !flow_LeafOk s f then (bif !pxEq (flow_Leaf s f) px0 then some (B false) else cont) else cont
  bif !pxEq (flow_Leaf s f) (flow_Leaf s (rc_with f n m)) then some (B false)
  else bif !(flow_LeafOk s f == flow_LeafOk s (rc_with f n m)) then some (B false)
  else bif flow_LeafOk s f then (bif !prefix_Right s (flow_Leaf s f) then some (B false) else tail) else tail
theorem key_Width_in (n : Int) : 0 ≤ key_Width n ∧ key_Width n ≤ 128 := by
  unfold key_Width key_WidthC
  simp only [Bool.cond_eq_ite, id]
  repeat (first | omega | split)
theorem dim_Right_all {d : Dm} (h : dim_Right d = true) : 1 ≤ d.step ∧ d.step ≤ key_Width d.kind := by
  refine ⟨dim_Right_step h, ?_⟩
  unfold dim_Right dim_RightC at h
  simp only [Bool.cond_eq_ite, id] at h
  split at h
  · split at h
    · simpa using h
    · cases h
  · split at h
    · split at h
      · simpa using h
      · cases h
    · cases h
theorem dim_Len_zero {d : Dm} (h : dim_Right d = true) : dim_Len d 0 = key_Width d.kind := by
  obtain ⟨h1, h2⟩ := dim_Right_all h
  obtain ⟨w0, w1⟩ := key_Width_in d.kind
  have hd : 0 ≤ dim_Depth d := by
    unfold dim_Depth dim_DepthC
    rw [h, show (d.step != 0) = true by simp; omega]
    simp only [Bool.not_true, cond_false, cond_true, id]
    rw [i64_in (n := key_Width d.kind + d.step) (by omega) (by omega), i64_in (n := key_Width d.kind + d.step - 1) (by omega) (by omega)]
    have h3 : 0 ≤ (key_Width d.kind + d.step - 1).tdiv d.step := Int.tdiv_nonneg (by omega) (by omega)
    have h4 : (key_Width d.kind + d.step - 1).tdiv d.step ≤ key_Width d.kind + d.step - 1 := Int.tdiv_le_self _ (by omega)
    rw [i64_in (by omega) (by omega)]
    exact h3
  unfold dim_Len dim_LenC
  rw [h]
  simp only [Bool.not_true, cond_false, id, Int.zero_mul]
  rw [show decide ((0 : Int) < 0) = false by decide, show decide ((0 : Int) > dim_Depth d) = false by simp; omega, i64_in (n := 0) (by omega) (by omega)]
  simp only [cond_false, Int.sub_zero]
  rw [i64_in (by omega) (by omega)]
  unfold max0
  split <;> omega
theorem bytes_ext {a b : ByteArray} (h : a.toList = b.toList) : a = b := by
  rw [Lib.toList_data, Lib.toList_data] at h
  cases a; cases b
  simp only [Array.toList_inj] at h
  rw [h]
theorem kyEq_iff {a b : Ky} : kyEq a b = true ↔ a = b := by
  constructor
  · intro h
    cases a with | mk a1 a2 a3 a4 a5 =>
    cases b with | mk b1 b2 b3 b4 b5 =>
    simp only [kyEq, Bool.and_eq_true, beq_iff_eq, Bool.and_true] at h
    obtain ⟨rfl, rfl, rfl, rfl, h5⟩ := h
    rw [bytes_ext h5]
  · rintro rfl; exact kyEq_refl _
theorem pathL_len (p : ByteArray) : (pathL p).length ≤ 8 := by
  unfold pathL pathOk
  cases p.toList == []
  · simp only [cond_false]
    cases h : decide (8 < (splitS p ⟨#[46]⟩).length)
    · simp only [Bool.false_or]
      cases (splitS p ⟨#[46]⟩).any (fun s => !isLabel s)
      · simp at h; simpa using h
      · simp
    · simp
  · simp
theorem flow_Right_sides {f : Rc} (h : flow_Right f = true) : flow_rightAddr f.a0 = true ∧ flow_rightPath f.p0 = true ∧ flow_rightAddr f.a1 = true ∧ flow_rightPath f.p1 = true := by
  unfold flow_Right flow_RightC at h
  revert h
  cases flow_rightAddr f.a0 <;> cases flow_rightPath f.p0 <;> cases flow_rightAddr f.a1 <;> cases flow_rightPath f.p1 <;> simp
theorem rightAddr_of {a : Ky} (h : flow_rightAddr a = true) : a = k0 ∨ (a.kind ≠ 3 ∧ key_Right a = true ∧ a.len = key_Width a.kind) := by
  unfold flow_rightAddr flow_rightAddrC at h
  simp only [Bool.cond_eq_ite, id] at h
  split at h
  · rename_i h1; exact .inl (kyEq_iff.1 h1)
  · split at h
    · rename_i h1
      split at h
      · rename_i h2; exact .inr ⟨by simpa using h1, h2, by simpa using h⟩
      · cases h
    · cases h
theorem rightPath_of {a : Ky} (h : flow_rightPath a = true) : a = k0 ∨ (a.kind = 3 ∧ key_Right a = true) := by
  unfold flow_rightPath flow_rightPathC at h
  simp only [Bool.cond_eq_ite, id] at h
  split at h
  · rename_i h1; exact .inl (kyEq_iff.1 h1)
  · split at h
    · rename_i h1; exact .inr ⟨by simpa using h1, h⟩
    · cases h
theorem key_path_len {a : Ky} (h : key_Right a = true) (h3 : a.kind = 3) : a.len ≤ 8 := by
  unfold key_Right key_RightC at h
  rw [h3] at h
  simp only [Bool.cond_eq_ite, id] at h
  rw [if_neg (by decide), if_neg (by decide), if_pos (by decide)] at h
  split at h
  · have := kyEq_iff.1 h
    have h8 := pathL_len a.path
    rw [this]
    simp only [key_ofPath]
    omega
  · cases h
theorem dim_kind {d : Dm} (h : dim_Right d = true) : d.kind = 1 ∨ d.kind = 2 ∨ d.kind = 3 := by
  obtain ⟨h1, h2⟩ := dim_Right_all h
  unfold key_Width key_WidthC at h2
  simp only [Bool.cond_eq_ite, id, beq_iff_eq] at h2
  by_cases e1 : d.kind = 1
  · exact .inl e1
  by_cases e2 : d.kind = 2
  · exact .inr (.inl e2)
  by_cases e3 : d.kind = 3
  · exact .inr (.inr e3)
  · rw [if_neg e1, if_neg e2, if_neg e3] at h2; omega
/-- What a key that a flow has is. -/
theorem flow_side_of {f : Rc} {d : Dm} (h : flow_KeyOk f d = true) : dim_Right d = true ∧ (flow_side f d).kind = d.kind ∧ key_Right (flow_side f d) = true ∧ (flow_side f d).len ≤ key_Width d.kind ∧ (d.kind ≠ 3 → (flow_side f d).len = key_Width d.kind) := by
  unfold flow_KeyOk at h
  simp only [Bool.and_eq_true, beq_iff_eq] at h
  obtain ⟨hr, hd, hk⟩ := h
  obtain ⟨a0, p0, a1, p1⟩ := flow_Right_sides hr
  have hkind := dim_kind hd
  have w3 : key_Width 3 = 8 := by decide
  refine ⟨hd, hk, ?_⟩
  have hp : ∀ a, flow_rightPath a = true → a.kind = d.kind → d.kind = 3 → key_Right a = true ∧ a.len ≤ key_Width d.kind ∧ (d.kind ≠ 3 → a.len = key_Width d.kind) := fun a ha hak h3 => by
    rcases rightPath_of ha with rfl | ⟨h1, h2⟩
    · simp only [k0] at hak; omega
    · exact ⟨h2, by rw [h3, w3]; exact key_path_len h2 h1, fun h => absurd h3 h⟩
  have ha : ∀ a, flow_rightAddr a = true → a.kind = d.kind → key_Right a = true ∧ a.len ≤ key_Width d.kind ∧ (d.kind ≠ 3 → a.len = key_Width d.kind) := fun a ha hak => by
    rcases rightAddr_of ha with rfl | ⟨_, h2, h3⟩
    · simp only [k0] at hak; omega
    · rw [hak] at h3; exact ⟨h2, by omega, fun _ => h3⟩
  unfold flow_side at hk ⊢
  by_cases h3 : d.kind = 3
  · rw [show (d.kind == 3) = true by simpa using h3] at hk ⊢
    simp only [cond_true] at hk ⊢
    cases hs : d.side == 1 <;> rw [hs] at hk <;> simp only [cond_true, cond_false] at hk ⊢
    · exact hp _ p1 hk h3
    · exact hp _ p0 hk h3
  · rw [beq_f h3] at hk ⊢
    simp only [cond_false] at hk ⊢
    cases hs : d.side == 1 <;> rw [hs] at hk <;> simp only [cond_true, cond_false] at hk ⊢
    · exact ha _ a1 hk
    · exact ha _ a0 hk
theorem flow_Key_of {f : Rc} {d : Dm} (h : flow_KeyOk f d = true) : flow_Key f d = flow_side f d := by unfold flow_Key; rw [h]; rfl
theorem flow_Key_on {f : Rc} {d : Dm} (h : flow_KeyOk f d = true) : dim_On d 0 (flow_Key f d) = true := by
  obtain ⟨hd, hk, hr, hl, he⟩ := flow_side_of h
  rw [flow_Key_of h]
  obtain ⟨w0, w1⟩ := key_Width_in d.kind
  unfold dim_On dim_OnC
  rw [dim_Len_zero hd, hr, hk]
  simp only [Bool.cond_eq_ite, id]
  rw [if_neg (by simp; omega), if_neg (by simp), if_neg (by simp)]
  split
  · rfl
  · rename_i hne
    by_cases h3 : d.kind = 3
    · rw [if_pos (by simpa using h3)]
      have : (flow_side f d).len ≠ key_Width d.kind := by simpa using hne
      simp; omega
    · have := he h3
      simp [this] at hne
end Go.Cb
namespace Go.Proofs.YtadmfmbpojcnpaaDoor
open Go.Ev Go.Cb
theorem law_FlowLeaf_C (f : Rc) (s : Sp) (n m : Int) : evalF (envOf [(12, e_alive), (10, e_flow_Leaf), (8, e_flow_Key), (20, e_prefix_Right), (21, e_prefix_Sound)]) tb 3 Tryd.f6 [cRc.enc f, cSp.enc s, cU.enc n, cU.enc m] = law_Leaf s f n m := by kernel_rfl
end Go.Proofs.YtadmfmbpojcnpaaDoor
namespace Go.Cb
open Go.Ev
theorem flow_has_leaf {s : Sp} {f : Rc} (h : flow_has s f = true) : prefix_LeafOk s (flow_Key f s.d0) (flow_snd s f) = true := by
  unfold flow_has at h
  simp only [Bool.and_eq_true, Bool.or_eq_true, beq_iff_eq] at h
  obtain ⟨hs, h0, h1⟩ := h
  have on0 := flow_Key_on h0
  unfold prefix_LeafOk prefix_Right prefix_RightC flow_snd
  rw [hs, on0]
  rcases prefix_Sound_n hs with hn | hn
  · rw [hn]; simp [kyEq_refl]
  · rw [hn]
    have h1' : flow_KeyOk f s.d1 = true := h1.resolve_left (by omega)
    have on1 := flow_Key_on h1'
    simp [on1]
theorem flow_LeafOk_eq (s : Sp) (f : Rc) : flow_LeafOk s f = flow_has s f := by
  unfold flow_LeafOk
  cases h : flow_has s f with
  | false => rfl
  | true => rw [flow_has_leaf h]; rfl
theorem flow_Leaf_of {s : Sp} {f : Rc} (h : flow_has s f = true) : flow_Leaf s f = ⟨0, 0, flow_Key f s.d0, flow_snd s f⟩ := by
  have := flow_has_leaf h
  unfold prefix_LeafOk at this
  unfold flow_Leaf prefix_Leaf prefix_orNone
  rw [h, this]
  rfl
theorem flow_Leaf_no {s : Sp} {f : Rc} (h : flow_has s f = false) : flow_Leaf s f = px0 := by unfold flow_Leaf; rw [h]; rfl
theorem law_Leaf_true (s : Sp) (f : Rc) (n m : Int) : law_Leaf s f n m = some (B true) := by
  have e1 : flow_Leaf s (rc_with f n m) = flow_Leaf s f := rfl
  have e2 : flow_LeafOk s (rc_with f n m) = flow_LeafOk s f := rfl
  unfold law_Leaf law_LeafEnd
  rw [e1, e2, pxEq_refl, flow_LeafOk_eq]
  simp only [Bool.not_true, cond_false, beq_self_eq_true]
  cases h : flow_has s f with
  | false =>
    have hp := flow_Leaf_no h
    simp only [hp, pxEq_refl, Bool.not_true, Bool.not_false, cond_false, cond_true]
    cases hs : prefix_Sound s with
    | false => rfl
    | true =>
      unfold flow_has at h
      rw [hs] at h
      cases h0 : flow_KeyOk f s.d0 <;> cases h1 : flow_KeyOk f s.d1 <;> cases hn : s.n == 1 <;> rw [h0, h1, hn] at h <;> first | rfl | cases h
  | true =>
    have hp := flow_Leaf_of h
    have hr : prefix_Right s (flow_Leaf s f) = true := by rw [hp]; exact flow_has_leaf h
    rw [hr]
    unfold flow_has at h
    simp only [Bool.and_eq_true] at h
    obtain ⟨hs, h0, h1⟩ := h
    rw [hs, h0, hp]
    simp only [Bool.not_true, cond_false, cond_true, kyEq_refl]
    unfold flow_snd
    cases hk : flow_KeyOk f s.d1 <;> cases hn : s.n == 1 <;> rw [hk, hn] at h1 <;> first | (cases h1; done) | simp [kyEq_refl]
end Go.Cb
namespace Go.Proofs.YtadmfmbpojcnpaaDoor
open Go.Ev Go.Cb
theorem law_FlowLeaf {N : Nat} (f : Rc) (s : Sp) (n m : Int) (_ : RcIn N f) (_ : SpIn s) (_ : inU n) (_ : inU m) : Go.Ev.Spec Tryd.prog gl 6 [cRc.enc f, cSp.enc s, cU.enc n, cU.enc m] (B true) :=
  sp (.cons ok_alive (.cons ok_flow_Leaf (.cons ok_flow_Key (.cons ok_prefix_Right (.cons ok_prefix_Sound .nil))))) Tryd.func6 3 ((law_FlowLeaf_C f s n m).trans (law_Leaf_true s f n m))
end Go.Proofs.YtadmfmbpojcnpaaDoor
