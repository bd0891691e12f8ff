/- The reference's cutting, printing, numbers of words: what each function gives. The reference's words: what each function gives. The reference's text of a configuration. The reference's text of a configuration: its contract. What the reference reads of words: plain laws. -/
import Derived.Test.YtflbjjpcjeinlaaGreatDoorMn
import Derived.Test.YtflbjjpcjeinlaaGreatDoorMs
namespace Go.Cb
open Go.Ev Go.Proofs.YtflbjjpcjeinlaaGreatDoor
theorem extract_list (s : ByteArray) (a b : Nat) : s.extract a b = ⟨((s.data.toList.take b).drop a).toArray⟩ := bytes_eq (by simp [List.drop_take])
/-- A word's number: -1: it is none, 2^31: it is too great. -/
def numR (s : ByteArray) : Int := bif !isTextB s then -1 else bif decide ((s.size : Int) > 10) then 2147483648 else bif decide ((wval s : Int) > 2147483647) then 2147483648 else wval s
theorem plc_shift (s : ByteArray) : ∀ (l : List ByteArray) (i : Nat), plc s (i + 1) l = bif plc s i l == -1 then -1 else plc s i l + 1
  | [], _ => rfl
  | x :: r, i => by
    unfold plc
    cases x.toList == s.toList with
    | true =>
      rw [cond_true, cond_true, show ((i : Int) == -1) = false by rw [beq_eq_false_iff_ne]; omega, cond_false]
      rfl
    | false => rw [cond_false, cond_false, plc_shift s r (i + 1)]
end Go.Cb
namespace Go.Proofs.YtflbjjpcjeinlaaGreatDoor
open Go.Ev Go.Cb
theorem lp_Cu (F : Nat) (s : ByteArray) (c : UInt8) (hs : s.size ≤ 4294967280) : ∀ (r i N : Nat) (l : List ByteArray) (a : Nat), s.size = i + r → r < N → a ≤ i → l.length ≤ i →
    lpE (envOf []) tb F Tryz.f31 0 (endK tb Tryz.f31) N 5242880 [] (stCu s c.toNat l.length (getE sT noT l) a i) =
      some (cTs.enc (l ++ piecesC c (s.data.toList.drop i) ((s.data.toList.take i).drop a)))
  | 0, i, N + 1, l, a, e, _, ha, hl => by
    have hz : s.data.toList.length = s.size := Array.length_toList
    have hroom : decide ((l.length + 1) * 16 ≤ 140737488355328 ∧ l.length + 1 ≤ 9223372036854775807) = true := decide_eq_true ⟨by omega, by omega⟩
    rw [lpE_succ, rnd_Cu]
    simp only [hroom, cond_true]
    rw [show decide ((i : Int) < (s.size : Int)) = false by simp; omega, cond_false, decide_eq_true (show (0 : Int) ≤ a by omega), decide_eq_true (show (a : Int) ≤ s.size by omega), decide_eq_true (Int.le_refl _), List.drop_of_length_le (by omega)]
    simp only [Bool.and_self, cond_true, piecesC, Int.toNat_natCast]
    rw [pushD_eq, extract_list, show s.size = i by omega]
    show some (D.sl 1 _ (getE sT noT _) .none) = some (D.sl 1 _ (getE sT noT _) .none)
    rw [len_push]
  | r + 1, i, N + 1, l, a, e, h2, ha, hl => by
    have hz : s.data.toList.length = s.size := Array.length_toList
    have hlt : i < s.data.toList.length := by omega
    have hroom : decide ((l.length + 1) * 16 ≤ 140737488355328 ∧ l.length + 1 ≤ 9223372036854775807) = true := decide_eq_true ⟨by omega, by omega⟩
    have hb : byteAt s i = (s.data.toList[i].toNat : Int) := by unfold byteAt; rw [List.getD_eq_getElem?_getD, List.getElem?_eq_getElem hlt]; rfl
    rw [lpE_succ, rnd_Cu]
    simp only [hroom, cond_true]
    rw [show decide ((i : Int) < (s.size : Int)) = true by simp; omega, bnd_nat, show decide (i < s.size) = true by simp; omega, Int.toNat_natCast, i64_succ (show i + 1 < 9223372036854775808 by omega), List.drop_eq_getElem_cons hlt, hb, decide_eq_true (show (0 : Int) ≤ a by omega), decide_eq_true (show (a : Int) ≤ i by omega), decide_eq_true (show (i : Int) ≤ s.size by omega)]
    simp only [Bool.and_self, cond_true, piecesC, Int.toNat_natCast]
    by_cases hc : s.data.toList[i] = c
    · have ih := lp_Cu F s c hs r (i + 1) N (l ++ [s.extract a i]) (i + 1) (by omega) (by omega) (by omega) (by simp; omega)
      rw [← len_push] at ih
      rw [show ((s.data.toList[i].toNat : Int) == (c.toNat : Int)) = true by rw [hc]; simp, show (s.data.toList[i] == c) = true by simp [hc], cond_true, cond_true, pushD_eq, ih, List.drop_of_length_le (l := s.data.toList.take (i + 1)) (by rw [List.length_take]; omega), extract_list]
      simp
    · have ih := lp_Cu F s c hs r (i + 1) N l a (by omega) (by omega) (by omega) (by omega)
      have hne : s.data.toList[i].toNat ≠ c.toNat := fun h => hc (UInt8.toNat_inj.1 h)
      rw [show ((s.data.toList[i].toNat : Int) == (c.toNat : Int)) = false by rw [beq_eq_false_iff_ne]; omega, show (s.data.toList[i] == c) = false by simpa using hc, cond_false, cond_false, ih, List.take_succ_eq_append_getElem hlt, List.drop_append_of_le_length (by rw [List.length_take]; omega)]
def cByte (n : Int) : UInt8 := UInt8.ofNat n.toNat
abbrev e_r18Cut : Fe := fn2C cT (cNum .u8) (fun _ c => decide (0 ≤ c) && decide (c ≤ 255)) fun s c => cTs.enc (splitS s ⟨#[cByte c]⟩)
theorem ok_r18Cut : En 31 e_r18Cut :=
  entry2C (callable Tryz.func31 (by kernel_rfl)) fun s c h => .str 0 rfl fun hs => by
    simp only [Bool.and_eq_true, decide_eq_true_eq] at h
    refine sp .nil Tryz.func31 (s.size + 1) ((evalF_cut (fn := Tryz.f31) 0 rfl).trans ((st_Cu _ s c _).trans ?_))
    have hc : ((cByte c).toNat : Int) = c := by
      unfold cByte
      rw [UInt8.toNat_ofNat']
      omega
    have := lp_Cu (s.size + 1) s (cByte c) hs s.size 0 (s.size + 1) [] 0 (by omega) (by omega) (by omega) (by simp)
    rw [hc] at this
    refine this.trans ?_
    rw [splitS_pieces]
    simp
abbrev e_r6Print : Fe := fn1C cWd (fun a => okW a && decide (wN a < 100000000000000000000)) fun a => T (printN (wN a))
theorem ok_r6Print : En 70 e_r6Print :=
  entry1C (callable Tryz.func70 (by kernel_rfl)) fun a h => by
    simp only [Bool.and_eq_true, decide_eq_true_eq] at h
    exact sp (.cons ok_Bits (.cons ok_twice .nil)) Tryz.func70 129 ((ev_r6Print a).trans (prR_all h.1 h.2))
abbrev l_r32d : Ens := [(70, e_r6Print)]
theorem ev_r32digits (n : Int) : evalF (envOf l_r32d) tb 3 Tryz.f39 [I n] =
    let a : Wd := ⟨0, w64 n⟩
    bif okW a && decide (wN a < 100000000000000000000) then some (T (printN (wN a))) else none := by kernel_rfl
abbrev e_r32digits : Fe := fn1C cI okNum fun n => T (printN n.toNat)
theorem ok_r32digits : En 39 e_r32digits :=
  entry1C (callable Tryz.func39 (by kernel_rfl)) fun n h => sp (.cons ok_r6Print .nil) Tryz.func39 3 ((ev_r32digits n).trans (by
    simp only [okNum, Bool.and_eq_true, decide_eq_true_eq] at h
    have e : wN ⟨0, n⟩ = n.toNat := by simp [wN, wv]
    simp only
    rw [w64_of' (n := n) (by omega) (by omega), e, show okW ⟨0, n⟩ = true by simp only [okW, Bool.and_eq_true]; exact ⟨rfl, rfl, decide_eq_true (by show 0 ≤ n; omega), decide_eq_true (by show n < 18446744073709551616; omega)⟩, decide_eq_true (by omega)]
    rfl))
abbrev l_r32n : Ens := [(64, e_r6Is), (65, e_r6Parse)]
end Go.Proofs.YtflbjjpcjeinlaaGreatDoor
namespace Go.Cb
open Go.Ev Go.Proofs.YtflbjjpcjeinlaaGreatDoor
def dmOk (d : Dm) : Bool := (decide (1 ≤ d.kind) && decide (d.kind ≤ 3)) && ((decide (1 ≤ d.side) && decide (d.side ≤ 2)) && okNum d.step)
theorem dmOk_in {d : Dm} (h : DmIn d) : dmOk d = true := by
  have := h.k; have := h.s; have := h.t0; have := h.t1
  unfold dmOk
  rw [decide_eq_true (show 1 ≤ d.kind by omega), decide_eq_true (show d.kind ≤ 3 by omega), decide_eq_true (show 1 ≤ d.side by omega), decide_eq_true (show d.side ≤ 2 by omega), num_ok (by omega) (by omega)]
  rfl
end Go.Cb
namespace Go.Proofs.YtflbjjpcjeinlaaGreatDoor
open Go.Ev Go.Cb
theorem ev_r32number (s : ByteArray) : evalF (envOf l_r32n) tb 4 Tryz.f33 [T s] =
    bif !isTextB s then some (I (-1)) else bif decide ((s.size : Int) > 10) then some (I 2147483648) else bif isTextB s && decide (s.size ≤ 20) then
      (bif decide ((wOf (wval s)).lo > 2147483647) then some (I 2147483648) else some (I (i64 (wOf (wval s)).lo))) else none := by kernel_rfl
abbrev e_r32number : Fe := fn1 cT fun s => I (numR s)
theorem ok_r32number : En 33 e_r32number :=
  entry1 (callable Tryz.func33 (by kernel_rfl)) fun s => sp (.cons ok_r6Is (.cons ok_r6Parse .nil)) Tryz.func33 4 ((ev_r32number s).trans (by
    unfold numR
    cases ht : isTextB s with
    | false => rfl
    | true =>
      rw [Bool.not_true, cond_false, cond_false]
      by_cases h10 : (s.size : Int) > 10
      · rw [decide_eq_true h10]; rfl
      · rw [decide_eq_false h10, cond_false, cond_false, decide_eq_true (show s.size ≤ 20 by omega), Bool.and_self, cond_true]
        have hv : wval s < 10 ^ s.size := valL_lt s.size _ Array.length_toList (text_digs ht)
        have hp : 10 ^ s.size ≤ 10 ^ 10 := Nat.pow_le_pow_right (by decide) (by omega)
        have hv2 : wval s < 10000000000 := Nat.lt_of_lt_of_le hv hp
        have e : (wOf (wval s : Int)).lo = wval s := by unfold wOf; simp only; omega
        rw [e, i64_in (by omega) (by omega)]
        cases decide ((wval s : Int) > 2147483647) <;> rfl))
abbrev l_r32w : Ens := [(39, e_r32digits)]
/-- A dimension's word, as it is put together. -/
def dimR (a b : ByteArray) (t : Int) : Option D := chk [okNum t, okSz (a ++ colonT ++ b ++ colonT) (printN t.toNat)] (some (T (a ++ colonT ++ b ++ colonT ++ printN t.toNat)))
theorem ev_w11 (t : Int) : evalF (envOf l_r32w) tb 4 Tryz.f40 [cDm.enc ⟨1, 1, t⟩] = dimR (kindsL.getD 0 noT) (sidesL.getD 0 noT) t := by kernel_rfl
theorem ev_w12 (t : Int) : evalF (envOf l_r32w) tb 4 Tryz.f40 [cDm.enc ⟨1, 2, t⟩] = dimR (kindsL.getD 0 noT) (sidesL.getD 1 noT) t := by kernel_rfl
theorem ev_w21 (t : Int) : evalF (envOf l_r32w) tb 4 Tryz.f40 [cDm.enc ⟨2, 1, t⟩] = dimR (kindsL.getD 1 noT) (sidesL.getD 0 noT) t := by kernel_rfl
theorem ev_w22 (t : Int) : evalF (envOf l_r32w) tb 4 Tryz.f40 [cDm.enc ⟨2, 2, t⟩] = dimR (kindsL.getD 1 noT) (sidesL.getD 1 noT) t := by kernel_rfl
theorem ev_w31 (t : Int) : evalF (envOf l_r32w) tb 4 Tryz.f40 [cDm.enc ⟨3, 1, t⟩] = dimR (kindsL.getD 2 noT) (sidesL.getD 0 noT) t := by kernel_rfl
theorem ev_w32 (t : Int) : evalF (envOf l_r32w) tb 4 Tryz.f40 [cDm.enc ⟨3, 2, t⟩] = dimR (kindsL.getD 2 noT) (sidesL.getD 1 noT) t := by kernel_rfl
theorem dimR_eq {d : Dm} (h : okNum d.step = true) : dimR (kindT d) (sideT d) d.step = some (T (dimT d)) := by
  have a1 := kindT_len d; have a2 := sideT_len d; have a3 := printN_len d.step.toNat
  have e : colonT.size = 1 := rfl
  unfold dimR
  rw [chk_eq (by
    intro x hx
    simp only [List.mem_cons, List.not_mem_nil, or_false] at hx
    rcases hx with rfl | rfl
    · exact h
    · exact sz_ok (by rw [ByteArray.size_append, ByteArray.size_append, ByteArray.size_append]; omega))]
  rfl
abbrev e_r32word : Fe := fn1C cDm dmOk fun d => T (dimT d)
theorem ok_r32word : En 40 e_r32word :=
  entry1C (callable Tryz.func40 (by kernel_rfl)) fun d h => by
    obtain ⟨k, s, t⟩ := d
    simp only [dmOk, Bool.and_eq_true, decide_eq_true_eq] at h
    obtain ⟨⟨h1, h2⟩, ⟨h3, h4⟩, h5⟩ := h
    have hk : k = 1 ∨ k = 2 ∨ k = 3 := by omega
    have hs : s = 1 ∨ s = 2 := by omega
    have fin : ∀ d : Dm, okNum d.step = true → evalF (envOf l_r32w) tb 4 Tryz.f40 [cDm.enc d] = dimR (kindT d) (sideT d) d.step → Go.Ev.Spec Tryz.prog gl 40 [cDm.enc d] (T (dimT d)) :=
      fun d h e => sp (.cons ok_r32digits .nil) Tryz.func40 4 (e.trans (dimR_eq h))
    rcases hk with rfl | rfl | rfl <;> rcases hs with rfl | rfl
    · exact fin _ h5 (ev_w11 t)
    · exact fin _ h5 (ev_w12 t)
    · exact fin _ h5 (ev_w21 t)
    · exact fin _ h5 (ev_w22 t)
    · exact fin _ h5 (ev_w31 t)
    · exact fin _ h5 (ev_w32 t)
end Go.Proofs.YtflbjjpcjeinlaaGreatDoor
namespace Go.Cb
open Go.Ev Go.Proofs.YtflbjjpcjeinlaaGreatDoor
def apC (a b : ByteArray) (K : ByteArray → Option D) : Option D := bif okSz a b then K (a ++ b) else none
def nuC (n : Int) (K : ByteArray → Option D) : Option D := bif okNum n then K (printN n.toNat) else none
def wdC (d : Dm) (K : ByteArray → Option D) : Option D := bif dmOk d then K (dimT d) else none
def tailR (sh : Sh) (a b : Int) (w h : ByteArray) : Option D :=
  apC h blankT fun t => nuC sh.k fun x => apC t x fun t => apC t blankT fun t => nuC a fun x => apC t x fun t => apC t slashT fun t => nuC b fun x => apC t x fun t => apC t blankT fun t => apC t w fun t =>
    bif decide (0 < sh.s.n) then apC t blankT fun t => wdC sh.s.d0 fun x => apC t x fun t =>
      bif decide (i64 (0 + 1) < sh.s.n) then apC t blankT fun t => wdC sh.s.d1 fun x => apC t x fun t =>
        bif decide (i64 (i64 (0 + 1) + 1) < sh.s.n) then apC t blankT fun _ => none else some (T t)
      else some (T t)
    else some (T t)
def savingB : ByteArray := ⟨#[115, 97, 118, 105, 110, 103]⟩
def fullB : ByteArray := ⟨#[102, 117, 108, 108, 58]⟩
def partB : ByteArray := ⟨#[112, 97, 114, 116, 105, 97, 108, 58]⟩
def treeR (c : Cf) (w : ByteArray) : Option D :=
  let go := tailR c.sh c.a c.b w
  bif !cfgRight c then some (T noT)
  else bif c.sh.kind == 2 then nuC c.sh.cap fun x => apC fullB x fun h => bif c.sh.kind == 3 then nuC c.sh.cap fun x => apC partB x go else go h
  else bif c.sh.kind == 3 then nuC c.sh.cap fun x => apC partB x go else go savingB
theorem apC_eq {a b : ByteArray} {K : ByteArray → Option D} {m n : Nat} (h1 : a.size ≤ m) (h2 : b.size ≤ n) (h3 : m + n ≤ 4000000000) : apC a b K = K (a ++ b) := by
  unfold apC
  rw [sz_ok (by omega), cond_true]
theorem nuC_eq {n : Int} {K : ByteArray → Option D} (h0 : 0 ≤ n) (h1 : n ≤ 2147483648) : nuC n K = K (printN n.toNat) := by
  unfold nuC
  rw [num_ok h0 (by omega), cond_true]
theorem wdC_eq {d : Dm} {K : ByteArray → Option D} (h : DmIn d) : wdC d K = K (dimT d) := by
  unfold wdC
  rw [dmOk_in h, cond_true]
theorem sz_app {a b : ByteArray} {m n : Nat} (h1 : a.size ≤ m) (h2 : b.size ≤ n) : (a ++ b).size ≤ m + n := by
  rw [ByteArray.size_append]; omega
theorem joinS_cons (x y : ByteArray) (l : List ByteArray) : joinS (x :: y :: l) blankT = x ++ blankT ++ joinS (y :: l) blankT := by
  refine bytes_eq ?_
  rw [ByteArray.data_append, ByteArray.data_append, Array.toList_append, Array.toList_append]
  show Lib.join (x.data.toList :: y.data.toList :: l.map (·.data.toList)) [32] = x.data.toList ++ [32] ++ Lib.join (y.data.toList :: l.map (·.data.toList)) [32]
  unfold Lib.join
  rw [List.intercalate_cons_cons]
theorem joinS_one (x : ByteArray) : joinS [x] blankT = x := by
  refine bytes_eq ?_
  show Lib.join [x.data.toList] [32] = x.data.toList
  unfold Lib.join
  rw [List.intercalate_singleton]
theorem tailR_eq {c : Cf} (hc : CfIn c) (h w : ByteArray) (hh : h.size ≤ 28) (hw : w.size ≤ 7) : tailR c.sh c.a c.b w h =
    some (T (joinS ([h, printN c.sh.k.toNat, shareT c, w] ++ (bif c.sh.s.n == 1 then [dimT c.sh.s.d0] else [dimT c.sh.s.d0, dimT c.sh.s.d1])) blankT)) := by
  have := hc.k0; have := hc.k1; have := hc.a0; have := hc.a1; have := hc.b1
  have p1 := printN_len c.a.toNat; have p2 := printN_len c.b.toNat; have p4 := printN_len c.sh.k.toNat
  have q3 := dimT_len c.sh.s.d0; have q4 := dimT_len c.sh.s.d1
  have e1 : blankT.size ≤ 1 := Nat.le_refl 1
  have e2 : slashT.size ≤ 1 := Nat.le_refl 1
  have z1 : i64 (0 + 1) = 1 := by decide
  have z2 : i64 (1 + 1) = 2 := by decide
  have s1 := sz_app hh e1
  have s2 := sz_app s1 p4
  have s3 := sz_app s2 e1
  have s4 := sz_app s3 p1
  have s5 := sz_app s4 e2
  have s6 := sz_app s5 p2
  have s7 := sz_app s6 e1
  have s8 := sz_app s7 hw
  have s9 := sz_app s8 e1
  have s10 := sz_app s9 q3
  have s11 := sz_app s10 e1
  unfold tailR
  simp only [z1, z2]
  rw [apC_eq hh e1 (by decide), nuC_eq (by omega) (by omega), apC_eq s1 p4 (by decide), apC_eq s2 e1 (by decide), nuC_eq (by omega) (by omega), apC_eq s3 p1 (by decide), apC_eq s4 e2 (by decide), nuC_eq (by omega) (by omega), apC_eq s5 p2 (by decide), apC_eq s6 e1 (by decide), apC_eq s7 hw (by decide)]
  rcases hc.d1 with ⟨n1, _⟩ | ⟨n2, hd1⟩
  · rw [n1, decide_eq_true (show (0 : Int) < 1 by decide), cond_true, apC_eq s8 e1 (by decide), wdC_eq hc.d0, apC_eq s9 q3 (by decide), decide_eq_false (show ¬ (1 : Int) < 1 by decide), cond_false, show ((1 : Int) == 1) = true by decide, cond_true]
    simp only [List.cons_append, List.nil_append, joinS_cons, joinS_one, shareT, ByteArray.append_assoc]
  · rw [n2, decide_eq_true (show (0 : Int) < 2 by decide), cond_true, apC_eq s8 e1 (by decide), wdC_eq hc.d0, apC_eq s9 q3 (by decide), decide_eq_true (show (1 : Int) < 2 by decide), cond_true, apC_eq s10 e1 (by decide), wdC_eq hd1, apC_eq s11 q4 (by decide), decide_eq_false (show ¬ (2 : Int) < 2 by decide), cond_false, show ((2 : Int) == 1) = false by decide, cond_false]
    simp only [List.cons_append, List.nil_append, joinS_cons, joinS_one, shareT, ByteArray.append_assoc]
theorem treeR_eq (c : Cf) : treeR c (weightT c) = some (T (cfgT c)) := by
  unfold treeR cfgT
  cases hr : cfgRight c with
  | false => rfl
  | true =>
    have h := cfg_in hr
    have p3 := printN_len c.sh.cap.toNat
    have q2 := weightT_len c
    have f1 : fullB.size ≤ 5 := Nat.le_refl 5
    have f2 : partB.size ≤ 8 := Nat.le_refl 8
    simp only [Bool.not_true, cond_false, cond_true]
    unfold wordsC headT engT
    rcases h.kind with ⟨k1, _⟩ | ⟨k1 | k1, c0, c1, _⟩
    · rw [k1]
      rw [show ((1 : Int) == 2) = false by decide, cond_false, show ((1 : Int) == 3) = false by decide, cond_false, show ((1 : Int) != 1) = false by decide, cond_false, tailR_eq h _ _ (by decide) q2]
      rfl
    · rw [k1]
      rw [show ((2 : Int) == 2) = true by decide, cond_true, nuC_eq (by omega) (by omega), apC_eq f1 p3 (by decide), show ((2 : Int) == 3) = false by decide, cond_false, show ((2 : Int) != 1) = true by decide, cond_true, tailR_eq h _ _ (by have := sz_app f1 p3; omega) q2]
      rw [show enginesL.getD (i64 (2 - 1)).toNat noT ++ (colonT ++ printN c.sh.cap.toNat) = fullB ++ printN c.sh.cap.toNat by rw [← ByteArray.append_assoc]; rfl]
    · rw [k1]
      rw [show ((3 : Int) == 2) = false by decide, cond_false, show ((3 : Int) == 3) = true by decide, cond_true, nuC_eq (by omega) (by omega), apC_eq f2 p3 (by decide), show ((3 : Int) != 1) = true by decide, cond_true, tailR_eq h _ _ (by have := sz_app f2 p3; omega) q2]
      rw [show enginesL.getD (i64 (3 - 1)).toNat noT ++ (colonT ++ printN c.sh.cap.toNat) = partB ++ printN c.sh.cap.toNat by rw [← ByteArray.append_assoc]; rfl]
end Go.Cb
namespace Go.Proofs.YtflbjjpcjeinlaaGreatDoor
open Go.Ev Go.Cb
abbrev l_r32Pr : Ens := [(39, e_r32digits), (40, e_r32word), (15, e_r32_Right)]
theorem es_r32Pr : Es l_r32Pr := .cons ok_r32digits (.cons ok_r32word (.cons ok_r32_Right .nil))
theorem ev_Pr1 (sh : Sh) (a b : Int) : evalF (envOf l_r32Pr) tb 4 Tryz.f10 [cCf.enc ⟨sh, 1, a, b⟩] = treeR ⟨sh, 1, a, b⟩ (weightsL.getD 0 noT) := by kernel_rfl
theorem ev_Pr2 (sh : Sh) (a b : Int) : evalF (envOf l_r32Pr) tb 4 Tryz.f10 [cCf.enc ⟨sh, 2, a, b⟩] = treeR ⟨sh, 2, a, b⟩ (weightsL.getD 1 noT) := by kernel_rfl
theorem ev_Pr3 (sh : Sh) (a b : Int) : evalF (envOf l_r32Pr) tb 4 Tryz.f10 [cCf.enc ⟨sh, 3, a, b⟩] = treeR ⟨sh, 3, a, b⟩ (weightsL.getD 2 noT) := by kernel_rfl
end Go.Proofs.YtflbjjpcjeinlaaGreatDoor
namespace Go.Proofs.YtflbjjpcjeinlaaGreatDoor
open Go.Ev Go.Cb
abbrev e_R0 : Fe := fn1C cCf (fun c => !cfgRight c) fun _ => B false
theorem ok_R0 : En 15 e_R0 := entry1C ok_r32_Right.1 fun c h => by
  have := ok_r32_Right.2 [cCf.enc c] (B (cfgRight c)) (by rfl)
  rw [show cfgRight c = false by simpa using h] at this
  exact this
abbrev l_R0 : Ens := [(15, e_R0)]
theorem ev_Pr0 (c : Cf) : evalF (envOf l_R0) tb 4 Tryz.f10 [cCf.enc c] = bif !cfgRight c then some (T noT) else none := by kernel_rfl
abbrev e_r32Print : Fe := fn1 cCf fun c => T (cfgT c)
theorem ok_r32Print : En 10 e_r32Print :=
  entry1 (callable Tryz.func10 (by kernel_rfl)) fun c => by
    cases hr : cfgRight c with
    | false => exact sp (.cons ok_R0 .nil) Tryz.func10 4 ((ev_Pr0 c).trans (by unfold cfgT; rw [hr]; rfl))
    | true =>
      have h := (cfg_in hr).by0
      obtain ⟨sh, y, a, b⟩ := c
      simp only at h
      rcases h with rfl | rfl | rfl
      · have e := treeR_eq ⟨sh, 1, a, b⟩
        rw [show weightT ⟨sh, 1, a, b⟩ = weightsL.getD 0 noT from rfl] at e
        exact sp es_r32Pr Tryz.func10 4 ((ev_Pr1 sh a b).trans e)
      · have e := treeR_eq ⟨sh, 2, a, b⟩
        rw [show weightT ⟨sh, 2, a, b⟩ = weightsL.getD 1 noT from rfl] at e
        exact sp es_r32Pr Tryz.func10 4 ((ev_Pr2 sh a b).trans e)
      · have e := treeR_eq ⟨sh, 3, a, b⟩
        rw [show weightT ⟨sh, 3, a, b⟩ = weightsL.getD 2 noT from rfl] at e
        exact sp es_r32Pr Tryz.func10 4 ((ev_Pr3 sh a b).trans e)
end Go.Proofs.YtflbjjpcjeinlaaGreatDoor
namespace Go.Cb
open Go.Ev Go.Proofs.YtflbjjpcjeinlaaGreatDoor
theorem plc_idx (s : ByteArray) : ∀ (l : List ByteArray) (i : Nat), plc s i l = Lib.idxFromS l s i
  | [], _ => rfl
  | x :: r, i => by
    unfold plc Lib.idxFromS
    by_cases h : x = s
    · rw [(Lib.bytes_beq_iff x s).2 h, cond_true, if_pos h]
    · rw [(Lib.bytes_beq_false_iff x s).2 h, cond_false, if_neg h, plc_idx s r (i + 1)]
theorem plc_name (s : ByteArray) (l : List ByteArray) : i64 (1 + plc s 0 l) = nameK l s := by
  unfold nameK Lib.idxOfS
  rw [plc_idx, Int.add_comm]
theorem idx_lt (x : ByteArray) : ∀ (l : List ByteArray) (i : Nat), Lib.idxFromS l x i = -1 ∨ ((i : Int) ≤ Lib.idxFromS l x i ∧ Lib.idxFromS l x i < i + l.length)
  | [], i => .inl rfl
  | z :: l, i => by
    unfold Lib.idxFromS
    by_cases hz : z = x
    · rw [if_pos hz]; right; simp only [List.length_cons]; omega
    · rw [if_neg hz]
      rcases idx_lt x l (i + 1) with h | h
      · exact .inl h
      · right; simp only [List.length_cons]; omega
theorem nameK_in (l : List ByteArray) (s : ByteArray) (hl : l.length ≤ 100) : (nameNo l s = true ∧ nameK l s = 0) ∨ (nameNo l s = false ∧ 1 ≤ nameK l s ∧ nameK l s ≤ l.length) := by
  unfold nameNo nameK Lib.idxOfS
  rcases idx_lt s l 0 with h | ⟨h1, h2⟩
  · left; rw [h]; exact ⟨rfl, rfl⟩
  · right
    rw [i64_in (by omega) (by omega)]
    exact ⟨decide_eq_false (by omega), by omega, by omega⟩
theorem nameK_0 (l : List ByteArray) (s : ByteArray) (hl : l.length ≤ 100) : (nameK l s == 0) = nameNo l s := by
  rcases nameK_in l s hl with ⟨h1, h2⟩ | ⟨h1, h2, _⟩
  · rw [h1, h2]; rfl
  · rw [h1, beq_eq_false_iff_ne]; omega
/-! Cut, and split. -/
theorem split_cut (s : ByteArray) (c0 : UInt8) : (cutOk s ⟨#[c0]⟩ = false ∧ splitS s ⟨#[c0]⟩ = [s] ∧ cutA s ⟨#[c0]⟩ = s) ∨ (cutOk s ⟨#[c0]⟩ = true ∧ splitS s ⟨#[c0]⟩ = cutA s ⟨#[c0]⟩ :: splitS (cutZ s ⟨#[c0]⟩) ⟨#[c0]⟩) := by
  by_cases h : c0 ∈ s.data.toList
  · obtain ⟨a, r, e, ha⟩ := first_of _ h
    obtain ⟨h1, h2, h3⟩ := cut_has e ha
    refine .inr ⟨h3, ?_⟩
    rw [h1, h2, splitS_pieces, splitS_pieces, e, pieces_dot _ _ _ fun c hc hn => ha (by rw [← hn]; exact hc)]
    rfl
  · obtain ⟨h1, h2⟩ := cut_no h
    refine .inl ⟨h2, ?_, h1⟩
    rw [splitS_pieces, pieces_none _ _ fun c hc hn => h (by rw [← hn]; exact hc)]
    rfl
theorem split_pos (s : ByteArray) (c0 : UInt8) : 1 ≤ (splitS s ⟨#[c0]⟩).length := by
  rw [splitS_pieces]
  exact List.length_pos_iff.2 (pieces_ne _ _)
theorem numNo_eq (s : ByteArray) : numNo s = !isTextB s := by
  unfold numNo parE
  cases isTextB s with
  | false => rfl
  | true => rw [cond_true]; cases decide ((wval s : Int) ≤ mostN) <;> rfl
theorem split_no {s : ByteArray} {c0 : UInt8} (h : (splitS s ⟨#[c0]⟩).length ≠ 1) (hc : c0.toNat < 48 ∨ 57 < c0.toNat) : numNo s = true := by
  rw [numNo_eq]
  have hm : c0 ∈ s.data.toList := by
    apply Classical.byContradiction
    intro hn
    apply h
    rw [splitS_pieces, pieces_none _ _ fun c hc hn2 => hn (by rw [← hn2]; exact hc)]
    rfl
  cases ht : isTextB s with
  | false => rfl
  | true =>
    have := text_digs ht c0 hm
    omega
/-! Numbers. -/
theorem text_ge {s : ByteArray} (h : isTextB s = true) (h2 : 10 < s.size) : 10000000000 ≤ wval s := by
  obtain ⟨hd, c, r, hl, hr⟩ := isText_iff.1 h
  have hz : s.data.toList.length = s.size := Array.length_toList
  have hlen : r.length + 1 = s.size := by rw [← hz, hl]; rfl
  have hc := hd c (by rw [hl]; simp)
  have hc2 : c.toNat ≠ 48 := by
    rcases hr with hr | hr
    · rw [hr] at hlen; simp at hlen; omega
    · exact hr
  have e : valL (c :: r) = (10 * 0 + (c.toNat - 48)) * 10 ^ r.length + valL r := by
    unfold valL
    rw [List.foldl_cons]
    exact fold_val r _
  have hp : 10 ^ 10 ≤ 10 ^ r.length := Nat.pow_le_pow_right (by decide) (by omega)
  have hm : 1 * 10 ^ r.length ≤ (10 * 0 + (c.toNat - 48)) * 10 ^ r.length := Nat.mul_le_mul_right _ (by omega)
  unfold wval
  rw [hl, e]
  omega
theorem numR_in (s : ByteArray) : (numNo s = true ∧ numR s = -1) ∨ (numNo s = false ∧ numGr s = true ∧ numR s = 2147483648) ∨ (numNo s = false ∧ numGr s = false ∧ numR s = numV s ∧ 0 ≤ numR s ∧ numR s ≤ 2147483647) := by
  have hm : mostN = 2147483647 := rfl
  rw [numNo_eq]
  unfold numR numGr numV parE parV
  cases ht : isTextB s with
  | false => exact .inl ⟨rfl, rfl⟩
  | true =>
    right
    simp only [Bool.not_true, cond_false, cond_true]
    by_cases h10 : (s.size : Int) > 10
    · have := text_ge ht (by omega)
      rw [decide_eq_true h10, decide_eq_false (show ¬ (wval s : Int) ≤ mostN by omega)]
      exact .inl ⟨by simp, by simp, by simp⟩
    · rw [decide_eq_false h10, cond_false]
      by_cases hg : (wval s : Int) > 2147483647
      · rw [decide_eq_true hg, decide_eq_false (show ¬ (wval s : Int) ≤ mostN by omega)]
        exact .inl ⟨by simp, by simp, by simp⟩
      · rw [decide_eq_false hg, decide_eq_true (show (wval s : Int) ≤ mostN by omega)]
        simp only [cond_false, cond_true]
        rw [i64_in (by omega) (by omega)]
        exact .inr ⟨by simp, by simp, by simp, by omega, by omega⟩
theorem numR_neg (s : ByteArray) : decide (numR s < 0) = numNo s := by
  rcases numR_in s with ⟨h1, h2⟩ | ⟨h1, _, h2⟩ | ⟨h1, _, _, h2, _⟩
  · rw [h1, h2]; rfl
  · rw [h1, h2]; rfl
  · rw [h1, decide_eq_false (by omega)]
theorem numR_small {s : ByteArray} (h : numNo s = false) (h2 : numR s ≤ 2147483647) : numGr s = false ∧ numR s = numV s := by
  rcases numR_in s with ⟨h1, _⟩ | ⟨_, _, h3⟩ | ⟨_, h3, h4, _⟩
  · rw [h] at h1; cases h1
  · omega
  · exact ⟨h3, h4⟩
theorem numR_of {s : ByteArray} (h : numNo s = false) (h2 : numGr s = false) : numR s = numV s := by
  rcases numR_in s with ⟨h1, _⟩ | ⟨_, h1, _⟩ | ⟨_, _, h4, _⟩
  · rw [h] at h1; cases h1
  · rw [h2] at h1; cases h1
  · exact h4
/-! A head's words. -/
def hdK (w : ByteArray) : Int := nameK enginesL ((splitS w colonT).getD 0 noT)
def hdN (w : ByteArray) : Nat := (splitS w colonT).length
def hdC (w : ByteArray) : Int := bif Nat.beq (hdN w) 2 then numR ((splitS w colonT).getD 1 noT) else 0
def hdBad (w : ByteArray) : Bool := (hdK w == 0) || ((hdK w == 1) && !Nat.beq (hdN w) 1) || (decide (hdK w > 1) && !Nat.beq (hdN w) 2) || decide (hdC w < 0)
theorem beq_nat (a b : Nat) : Nat.beq a b = decide (a = b) := by
  rw [Bool.eq_iff_iff, Nat.beq_eq, decide_eq_true_eq]
theorem hd_eq (w : ByteArray) : hdK w = engK w ∧ hdBad w = engNo w ∧ (engNo w = false → (engGr w = false → hdC w = engC w) ∧ (hdC w ≤ 2147483647 → engGr w = false)) := by
  unfold hdBad hdC hdN
  rcases split_cut w 58 with ⟨h1, h2, h3⟩ | ⟨h1, h2⟩
  · have hK : hdK w = engK w := by
      unfold hdK engK
      rw [show splitS w colonT = [w] from h2, show cutA w colonT = w from h3]; rfl
    have h1 : cutOk w colonT = false := h1
    have h2 : splitS w colonT = [w] := h2
    refine ⟨hK, ?_, fun _ => ⟨fun _ => ?_, fun _ => ?_⟩⟩
    · rw [hK, h2]
      unfold engNo
      rw [h1]
      have e : nameNo enginesL (cutA w colonT) = (engK w == 0) := (nameK_0 _ _ (by decide)).symm
      rw [e]
      simp only [List.length_cons, List.length_nil, beq_nat]
      by_cases k0 : engK w = 0
      · rw [k0]; rfl
      · have k1 : 1 ≤ engK w := by
          rcases nameK_in enginesL (cutA w colonT) (by decide) with ⟨_, h⟩ | ⟨_, h, _⟩
          · exact absurd h k0
          · exact h
        rw [show (engK w == 0) = false by simpa using k0]
        by_cases k2 : engK w = 1
        · rw [k2]; rfl
        · rw [show (engK w == 1) = false by simpa using k2, decide_eq_true (show engK w > 1 by omega), show (engK w != 1) = true by simpa using k2]; rfl
    · unfold engC; rw [h1, h2]; rfl
    · unfold engGr; rw [h1]; rfl
  · have hK : hdK w = engK w := by
      unfold hdK engK
      rw [show splitS w colonT = _ from h2]; rfl
    have h1 : cutOk w colonT = true := h1
    have h2 : splitS w colonT = cutA w colonT :: splitS (cutZ w colonT) colonT := h2
    have hpos := split_pos (cutZ w colonT) 58
    have hsp : (splitS (cutZ w colonT) colonT).length = 1 → (splitS (cutZ w colonT) colonT).getD 0 noT = cutZ w colonT := fun h => by
      rcases split_cut (cutZ w colonT) 58 with ⟨_, g, _⟩ | ⟨_, g⟩
      · rw [show splitS (cutZ w colonT) colonT = _ from g]; rfl
      · have := split_pos (cutZ (cutZ w colonT) colonT) 58
        rw [show splitS (cutZ w colonT) colonT = _ from g, List.length_cons] at h
        have e : (splitS (cutZ (cutZ w colonT) colonT) (⟨#[58]⟩ : ByteArray)).length = (splitS (cutZ (cutZ w colonT) ⟨#[58]⟩) (⟨#[58]⟩ : ByteArray)).length := rfl
        omega
    have hbad : (splitS (cutZ w colonT) colonT).length ≠ 1 → numNo (cutZ w colonT) = true := fun h => split_no (c0 := 58) h (by decide)
    have hpos : 1 ≤ (splitS (cutZ w colonT) colonT).length := hpos
    rw [h2, List.length_cons, List.getD_cons_succ]
    generalize hn : (splitS (cutZ w colonT) colonT).length = n at *
    refine ⟨hK, ?_, fun he => ?_⟩
    · rw [hK]
      unfold engNo
      rw [h1]
      have e : nameNo enginesL (cutA w colonT) = (engK w == 0) := (nameK_0 _ _ (by decide)).symm
      rw [e]
      simp only [beq_nat, Bool.not_true, cond_false]
      rw [decide_eq_false (show ¬ n + 1 = 1 by omega)]
      by_cases k0 : engK w = 0
      · rw [k0]; rfl
      · have k1 : 1 ≤ engK w := by
          rcases nameK_in enginesL (cutA w colonT) (by decide) with ⟨_, h⟩ | ⟨_, h, _⟩
          · exact absurd h k0
          · exact h
        rw [show (engK w == 0) = false by simpa using k0]
        by_cases k2 : engK w = 1
        · rw [k2]; rfl
        · rw [show (engK w == 1) = false by simpa using k2, decide_eq_true (show engK w > 1 by omega), show (engK w != 1) = true by simpa using k2]
          by_cases hn1 : n = 1
          · rw [decide_eq_true (show n + 1 = 2 by omega), cond_true, hsp hn1, numR_neg]
            cases numNo (cutZ w colonT) <;> rfl
          · rw [decide_eq_false (show ¬ n + 1 = 2 by omega), hbad hn1]; rfl
    · have hz : numNo (cutZ w colonT) = false := by
        unfold engNo at he
        rw [h1] at he
        simp only [Bool.or_eq_false_iff] at he
        exact he.2
      have hn1 : n = 1 := by
        apply Classical.byContradiction
        intro hn1
        rw [hbad hn1] at hz
        cases hz
      have e2 : Nat.beq (n + 1) 2 = true := by rw [hn1]; rfl
      rw [e2, cond_true, hsp hn1]
      unfold engGr engC
      rw [h1]
      exact ⟨fun hg => numR_of hz hg, fun hg => (numR_small hz hg).1⟩
/-! A share's words. -/
def shR (w : ByteArray) (i : Nat) : Int := numR ((splitS w slashT).getD i noT)
def shBad (w : ByteArray) : Bool := !Nat.beq (splitS w slashT).length 2 || (decide (shR w 0 < 0) || decide (shR w 1 < 0))
theorem sh_eq (w : ByteArray) : shBad w = shNo w ∧ (shNo w = false → (shGr w = false → shR w 0 = shA w ∧ shR w 1 = shB w) ∧ (shR w 0 ≤ 2147483647 → shR w 1 ≤ 2147483647 → shGr w = false)) := by
  unfold shBad shR
  rcases split_cut w 47 with ⟨h1, h2, h3⟩ | ⟨h1, h2⟩
  · have h1 : cutOk w slashT = false := h1
    have h2 : splitS w slashT = [w] := h2
    have e : shNo w = true := by unfold shNo; rw [h1]; rfl
    rw [h2, e]
    exact ⟨rfl, fun h => by cases h⟩
  · have h1 : cutOk w slashT = true := h1
    have h2 : splitS w slashT = cutA w slashT :: splitS (cutZ w slashT) slashT := h2
    have hpos : 1 ≤ (splitS (cutZ w slashT) slashT).length := split_pos (cutZ w slashT) 47
    have hsp : (splitS (cutZ w slashT) slashT).length = 1 → (splitS (cutZ w slashT) slashT).getD 0 noT = cutZ w slashT := fun h => by
      rcases split_cut (cutZ w slashT) 47 with ⟨_, g, _⟩ | ⟨_, g⟩
      · rw [show splitS (cutZ w slashT) slashT = _ from g]; rfl
      · have := split_pos (cutZ (cutZ w slashT) slashT) 47
        rw [show splitS (cutZ w slashT) slashT = _ from g, List.length_cons] at h
        have e : (splitS (cutZ (cutZ w slashT) slashT) (⟨#[47]⟩ : ByteArray)).length = (splitS (cutZ (cutZ w slashT) ⟨#[47]⟩) (⟨#[47]⟩ : ByteArray)).length := rfl
        omega
    have hbad : (splitS (cutZ w slashT) slashT).length ≠ 1 → numNo (cutZ w slashT) = true := fun h => split_no (c0 := 47) h (by decide)
    rw [h2, List.length_cons, List.getD_cons_succ, List.getD_cons_zero]
    generalize hn : (splitS (cutZ w slashT) slashT).length = n at *
    unfold shNo shGr shA shB
    rw [h1]
    by_cases hn1 : n = 1
    · rw [hsp hn1, hn1, numR_neg, numR_neg]
      refine ⟨by cases numNo (cutA w slashT) <;> cases numNo (cutZ w slashT) <;> rfl, fun he => ?_⟩
      simp only [Bool.not_true, Bool.false_or, Bool.or_eq_false_iff] at he
      refine ⟨fun hg => ?_, fun g1 g2 => ?_⟩
      · simp only [Bool.or_eq_false_iff] at hg
        exact ⟨numR_of he.1 hg.1, numR_of he.2 hg.2⟩
      · rw [(numR_small he.1 g1).1, (numR_small he.2 g2).1]; rfl
    · rw [hbad hn1, beq_nat, decide_eq_false (show ¬ n + 1 = 2 by omega)]
      refine ⟨by simp, fun he => ?_⟩
      simp at he
/-! A dimension's words. -/
def dimR3 (w : ByteArray) : Dm := ⟨nameK kindsL (dW w 0), nameK sidesL (dW w 1), numR (dW w 2)⟩
def dimBad (w : ByteArray) : Bool := dBad w || ((nameK kindsL (dW w 0) == 0) || ((nameK sidesL (dW w 1) == 0) || decide (numR (dW w 2) < 0)))
theorem dimBad_eq (w : ByteArray) : dimBad w = dimNo w ∧ (dimNo w = false → (dimGr w = false → dimR3 w = dimOf w) ∧ ((dimR3 w).step ≤ 2147483647 → dimGr w = false)) := by
  unfold dimBad dimNo dimGr dimOf
  cases hb : dBad w with
  | true => exact ⟨rfl, fun h => by cases h⟩
  | false =>
    rw [nameK_0 _ _ (by decide), nameK_0 _ _ (by decide), numR_neg]
    simp only [Bool.false_or, cond_false]
    refine ⟨by rw [Bool.or_assoc], fun he => ?_⟩
    simp only [Bool.or_eq_false_iff] at he
    refine ⟨fun hg => ?_, fun hg => (numR_small he.2 hg).1⟩
    unfold dimR3
    rw [numR_of he.2 hg]
end Go.Cb
