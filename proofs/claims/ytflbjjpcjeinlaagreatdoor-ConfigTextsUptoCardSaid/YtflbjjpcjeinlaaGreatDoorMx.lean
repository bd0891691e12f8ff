/- The reference's configuration of a text: what it gives. The reference's configuration of a text: ahead of the loop. The reference's configuration of a text: its contract. The reference's configuration of a text is the program's. ConfigTexts: the law. -/
import Derived.Test.YtflbjjpcjeinlaaGreatDoorMw
namespace Go.Proofs.YtflbjjpcjeinlaaGreatDoor
open Go.Ev Go.Cb
theorem spW {l : Ens} (hl : Es l) {e : TypeId} {f : FuncId} {fn : Func} (hf : Tryz.prog.funcs[f]? = some fn) (F : Nat) {args : List D} {d : D} (h : evalF (Go.Ev.envW l e) tb F fn args = some d) : Go.Ev.Spec Tryz.prog gl f args d :=
  spec_of mix tb_ok ⟨hl.ok, fun _ _ h => (by cases h), (fun _ h => (by cases h)), fun _ _ h => (by cases h)⟩ hf h
abbrev l_r32Pa : Ens := [(31, e_r18Cut), (32, e_place), (33, e_r32number), (15, e_r32_Right)]
theorem es_r32Pa : Es l_r32Pa := .cons ok_r18Cut (.cons ok_place (.cons ok_r32number (.cons ok_r32_Right .nil)))
abbrev cfT : Nat := 30
abbrev eP : Env := Go.Ev.envW l_r32Pa 3
abbrev idsP : List Nat := [14680960, 29361670, 16777601, 14680449, 4194432, 2097152]
abbrev stP (L : List ByteArray) (c : Cf) (n0 n1 n2 n3 n4 n5 i : Int) : S :=
  { t := stT 217 0 [(2, .loc 2097152 0), (3, I 0), (4, .loc 4194432 0), (5, .sl 1 L.length (getE sT noT L) .none), (7, .loc 14680960 0), (9, .slm 1 29361670 0 6), (10, I i)]
    m := [(14680960, .cells (sCf.enc c) cfT), (29361670, .cells [I n0, I n1, I n2, I n3, I n4, I n5] 3), (4194432, .cells (sCf.enc cf0) cfT), (2097152, .cells (sCf.enc cf0) cfT)], k := 19923200 }
def er3 : Option D := some (prD cf0 3)
def negs : List Int → Option D → Option D
  | [], k => k
  | x :: r, k => bif decide (x < 0) then er3 else negs r k
def fixC (c : Cf) (n0 n1 n2 n3 : Int) : Cf := ⟨⟨c.sh.kind, n1, n0, c.sh.s⟩, c.by', n2, n3⟩
def finR (c : Cf) (n0 n1 n2 n3 n4 n5 : Int) : Option D := negs [n0, n1, n2, n3, n4, n5] (bif !cfgRight (fixC c n0 n1 n2 n3) then some (prD cf0 1) else some (prD (fixC c n0 n1 n2 n3) 0))
def dmC (L : List ByteArray) (i : Nat) (K : Dm → Option D) : Option D :=
  let d := splitS (L.getD (4 + i) noT) colonT
  let k := i64 (1 + plc (d.getD 0 noT) 0 kindsL)
  let s := i64 (1 + plc (d.getD 1 noT) 0 sidesL)
  chk [bnd (i64 (4 + (i : Int))) L.length] (bif (d.length : Int) != 3 then er3 else chk [bnd 0 d.length, bnd 1 d.length, bnd 2 d.length] (bif k == 0 then er3 else bif s == 0 then er3 else K ⟨k, s, numR (d.getD 2 noT)⟩))
def set0 (c : Cf) (d : Dm) : Cf := ⟨⟨c.sh.kind, c.sh.k, c.sh.cap, ⟨c.sh.s.n, d, c.sh.s.d1⟩⟩, c.by', c.a, c.b⟩
def set1 (c : Cf) (d : Dm) : Cf := ⟨⟨c.sh.kind, c.sh.k, c.sh.cap, ⟨c.sh.s.n, c.sh.s.d0, d⟩⟩, c.by', c.a, c.b⟩
theorem rnd_P0 (L : List ByteArray) (c : Cf) (n0 n1 n2 n3 n4 n5 : Int) (R : S → Option D) : rndE eP tb 8 Tryz.f7 0 (endK tb Tryz.f7) 19922944 idsP R (stP L c n0 n1 n2 n3 n4 n5 0) =
    bif decide (0 < c.sh.s.n) then dmC L 0 fun d => R (stP L (set0 c d) n0 n1 n2 n3 d.step n5 1) else finR c n0 n1 n2 n3 n4 n5 := by kernel_rfl
theorem rnd_P1 (L : List ByteArray) (c : Cf) (n0 n1 n2 n3 n4 n5 : Int) (R : S → Option D) : rndE eP tb 8 Tryz.f7 0 (endK tb Tryz.f7) 19922944 idsP R (stP L c n0 n1 n2 n3 n4 n5 1) =
    bif decide (1 < c.sh.s.n) then dmC L 1 fun d => R (stP L (set1 c d) n0 n1 n2 n3 n4 d.step 2) else finR c n0 n1 n2 n3 n4 n5 := by kernel_rfl
end Go.Proofs.YtflbjjpcjeinlaaGreatDoor
namespace Go.Proofs.YtflbjjpcjeinlaaGreatDoor
open Go.Ev Go.Cb
def cfK (L : List ByteArray) (kind by' : Int) : Cf := ⟨⟨kind, 0, 0, ⟨i64 ((L.length : Int) - 4), dm0, dm0⟩⟩, by', 0, 0⟩
def shS (L : List ByteArray) (H : List ByteArray) (K : Int → List ByteArray → Option D) : Option D :=
  let S := splitS (L.getD 2 noT) slashT
  chk [bnd 2 L.length] (bif (S.length : Int) != 2 then er3 else chk [bnd 1 L.length, bnd 0 S.length, bnd 1 S.length] (
      bif (H.length : Int) == 2 then chk [bnd 1 H.length] (K (numR (H.getD 1 noT)) S) else K 0 S))
def parS (L : List ByteArray) (K : Int → Int → Int → List ByteArray → Option D) : Option D :=
  let H := splitS (L.getD 0 noT) colonT
  let by' := i64 (1 + plc (L.getD 3 noT) 0 weightsL)
  let kind := i64 (1 + plc (H.getD 0 noT) 0 enginesL)
  bif decide ((L.length : Int) < 5) then er3 else bif decide ((L.length : Int) > 6) then er3 else chk [bnd 0 L.length, bnd 3 L.length, bnd 0 H.length] (
      bif by' == 0 then er3 else bif kind == 0 then er3 else
        bif kind == 1 then (bif (H.length : Int) != 1 then er3 else bif decide (kind > 1) then (bif (H.length : Int) != 2 then er3 else shS L H (K kind by')) else shS L H (K kind by'))
        else bif decide (kind > 1) then (bif (H.length : Int) != 2 then er3 else shS L H (K kind by')) else shS L H (K kind by'))
theorem st_P (t : ByteArray) (H : Nat → List Nat → S → Option D) : evalH eP tb 8 Tryz.f7 0 H (Go.Ev.start Tryz.f7 [T t]) (endK tb Tryz.f7) =
    parS (splitS t blankT) fun kind by' n0 S => H 19922944 idsP (stP (splitS t blankT) (cfK (splitS t blankT) kind by') n0 (numR ((splitS t blankT).getD 1 noT)) (numR (S.getD 0 noT)) (numR (S.getD 1 noT)) 0 0 0) := by kernel_rfl
end Go.Proofs.YtflbjjpcjeinlaaGreatDoor
namespace Go.Proofs.YtflbjjpcjeinlaaGreatDoor
open Go.Ev Go.Cb
theorem rnd_P2 (L : List ByteArray) (kind k cap by' a b : Int) (d0 d1 : Dm) (n0 n1 n2 n3 n4 n5 : Int) (R : S → Option D) : rndE eP tb 8 Tryz.f7 0 (endK tb Tryz.f7) 19922944 idsP R (stP L ⟨⟨kind, k, cap, ⟨2, d0, d1⟩⟩, by', a, b⟩ n0 n1 n2 n3 n4 n5 2) =
    finR ⟨⟨kind, k, cap, ⟨2, d0, d1⟩⟩, by', a, b⟩ n0 n1 n2 n3 n4 n5 := by kernel_rfl
end Go.Proofs.YtflbjjpcjeinlaaGreatDoor
namespace Go.Cb
open Go.Ev Go.Proofs.YtflbjjpcjeinlaaGreatDoor
/-! Put together. -/
theorem bnd_of {i : Int} {n : Nat} (h0 : 0 ≤ i) (h1 : i < (n : Int)) : bnd i n = true := by
  unfold bnd
  rw [decide_eq_true h0, decide_eq_true h1]; rfl
def badE (p : Bool) (k : Option D) : Option D := bif p then er3 else k
def fin2 (c : Cf) : Option D := bif !cfgRight c then some (prD cf0 1) else some (prD c 0)
theorem negs_eq (k : Option D) : ∀ l : List Int, negs l k = badE (l.any fun x => decide (x < 0)) k
  | [] => rfl
  | x :: r => by
    unfold negs
    rw [negs_eq k r, List.any_cons]
    unfold badE
    cases decide (x < 0) <;> rfl
theorem dmC_eq (L : List ByteArray) (i : Nat) (hi : 4 + i < L.length) (hl : L.length ≤ 6) (K : Dm → Option D) (p : Bool) (k : Option D) (hK : K (dimR3 (L.getD (4 + i) noT)) = badE (p || decide (numR (dW (L.getD (4 + i) noT) 2) < 0)) k) :
    dmC L i K = badE (dimBad (L.getD (4 + i) noT) || p) k := by
  unfold dmC dimBad
  simp only
  rw [chk_eq (by
    intro x hx
    simp only [List.mem_singleton] at hx
    subst hx
    rw [i64_in (by omega) (by omega)]
    exact bnd_of (by omega) (by omega))]
  unfold dBad
  by_cases h3 : (splitS (L.getD (4 + i) noT) colonT).length = 3
  · rw [show (((splitS (L.getD (4 + i) noT) colonT).length : Int) != 3) = false by rw [h3]; rfl, cond_false, h3, chk_eq (by
      intro x hx
      simp only [List.mem_cons, List.not_mem_nil, or_false] at hx
      rcases hx with rfl | rfl | rfl <;> rfl), plc_name, plc_name]
    show (bif nameK kindsL (dW (L.getD (4 + i) noT) 0) == 0 then er3 else bif nameK sidesL (dW (L.getD (4 + i) noT) 1) == 0 then er3 else K (dimR3 (L.getD (4 + i) noT))) = _
    rw [hK]
    unfold badE
    cases nameK kindsL (dW (L.getD (4 + i) noT) 0) == 0 <;> cases nameK sidesL (dW (L.getD (4 + i) noT) 1) == 0 <;> cases decide (numR (dW (L.getD (4 + i) noT) 2) < 0) <;> cases p <;> rfl
  · rw [show (((splitS (L.getD (4 + i) noT) colonT).length : Int) != 3) = true by rw [bne_iff_ne]; omega]
    rfl
theorem shS_eq (L : List ByteArray) (h5 : 5 ≤ L.length) (hl : L.length ≤ 6) (K : Int → List ByteArray → Option D) :
    shS L (splitS (L.getD 0 noT) colonT) K = badE (!Nat.beq (splitS (L.getD 2 noT) slashT).length 2) (K (hdC (L.getD 0 noT)) (splitS (L.getD 2 noT) slashT)) := by
  unfold shS
  simp only
  rw [chk_eq (by
    intro x hx
    simp only [List.mem_singleton] at hx
    subst hx
    exact bnd_of (by omega) (by omega))]
  by_cases h2 : (splitS (L.getD 2 noT) slashT).length = 2
  · rw [show (((splitS (L.getD 2 noT) slashT).length : Int) != 2) = false by rw [h2]; rfl, cond_false, h2, chk_eq (by
      intro x hx
      simp only [List.mem_cons, List.not_mem_nil, or_false] at hx
      rcases hx with rfl | rfl | rfl
      · exact bnd_of (by omega) (by omega)
      · rfl
      · rfl)]
    unfold hdC hdN
    by_cases hh : (splitS (L.getD 0 noT) colonT).length = 2
    · rw [hh, show (((2 : Nat) : Int) == 2) = true by decide, show Nat.beq 2 2 = true by decide, cond_true, cond_true, chk_eq (by
        intro x hx
        simp only [List.mem_singleton] at hx
        subst hx
        rfl)]
      rfl
    · rw [show (((splitS (L.getD 0 noT) colonT).length : Int) == 2) = false by rw [beq_eq_false_iff_ne]; omega, beq_nat (splitS (L.getD 0 noT) colonT).length 2, decide_eq_false hh]
      rfl
  · rw [show (((splitS (L.getD 2 noT) slashT).length : Int) != 2) = true by rw [bne_iff_ne]; omega, beq_nat (splitS (L.getD 2 noT) slashT).length 2, decide_eq_false h2]
    rfl
def hdHead (w : ByteArray) : Bool := (hdK w == 0) || ((hdK w == 1) && !Nat.beq (hdN w) 1) || (decide (hdK w > 1) && !Nat.beq (hdN w) 2)
theorem parS_eq (L : List ByteArray) (h5 : 5 ≤ L.length) (hl : L.length ≤ 6) (K : Int → Int → Int → List ByteArray → Option D) :
    parS L K = badE (nameNo weightsL (L.getD 3 noT) || (hdHead (L.getD 0 noT) || !Nat.beq (splitS (L.getD 2 noT) slashT).length 2)) (K (hdK (L.getD 0 noT)) (nameK weightsL (L.getD 3 noT)) (hdC (L.getD 0 noT)) (splitS (L.getD 2 noT) slashT)) := by
  have hpos : 1 ≤ (splitS (L.getD 0 noT) colonT).length := split_pos _ 58
  unfold parS
  simp only
  rw [decide_eq_false (show ¬ (L.length : Int) < 5 by omega), cond_false, decide_eq_false (show ¬ (L.length : Int) > 6 by omega), cond_false, chk_eq (by
    intro x hx
    simp only [List.mem_cons, List.not_mem_nil, or_false] at hx
    rcases hx with rfl | rfl | rfl
    · exact bnd_of (by omega) (by omega)
    · exact bnd_of (by omega) (by omega)
    · exact bnd_of (by omega) (by omega)), plc_name, plc_name, nameK_0 _ _ (by decide), shS_eq L h5 hl]
  have e : nameK enginesL ((splitS (L.getD 0 noT) colonT).getD 0 noT) = hdK (L.getD 0 noT) := rfl
  rw [e]
  unfold hdHead hdN
  have e1 : (((splitS (L.getD 0 noT) colonT).length : Int) != 1) = !Nat.beq (splitS (L.getD 0 noT) colonT).length 1 := by
    rw [Bool.eq_iff_iff, beq_nat, bne_iff_ne]; simp; omega
  have e2 : (((splitS (L.getD 0 noT) colonT).length : Int) != 2) = !Nat.beq (splitS (L.getD 0 noT) colonT).length 2 := by
    rw [Bool.eq_iff_iff, beq_nat, bne_iff_ne]; simp; omega
  rw [e1, e2]
  unfold badE
  cases nameNo weightsL (L.getD 3 noT) <;> cases hdK (L.getD 0 noT) == 0 <;> cases hdK (L.getD 0 noT) == 1 <;> cases Nat.beq (splitS (L.getD 0 noT) colonT).length 1 <;> cases decide (hdK (L.getD 0 noT) > 1) <;> cases Nat.beq (splitS (L.getD 0 noT) colonT).length 2 <;> rfl
theorem hdBad_head (w : ByteArray) : hdBad w = (hdHead w || decide (hdC w < 0)) := rfl
/-- The configuration as the reference has it. -/
def refCf (w : Nat → ByteArray) (n : Int) (d0 d1 : Dm) : Cf := ⟨⟨hdK (w 0), numR (w 1), hdC (w 0), ⟨n, d0, d1⟩⟩, nameK weightsL (w 3), shR (w 2) 0, shR (w 2) 1⟩
def pGr5 (w : Nat → ByteArray) : Bool := engGr (w 0) || (numGr (w 1) || shGr (w 2))
theorem refCf_eq {w : Nat → ByteArray} (h0 : engNo (w 0) = false) (h1 : numNo (w 1) = false) (h2 : shNo (w 2) = false) (hg : pGr5 w = false) (n : Int) (d0 d1 : Dm) :
    refCf w n d0 d1 = ⟨⟨engK (w 0), numV (w 1), engC (w 0), ⟨n, d0, d1⟩⟩, nameK weightsL (w 3), shA (w 2), shB (w 2)⟩ := by
  simp only [pGr5, Bool.or_eq_false_iff] at hg
  obtain ⟨k, _, e⟩ := hd_eq (w 0)
  obtain ⟨s1, s2⟩ := ((sh_eq (w 2)).2 h2).1 hg.2.2
  unfold refCf
  rw [k, (e h0).1 hg.1, numR_of h1 hg.2.1, s1, s2]
theorem refCf_gr {w : Nat → ByteArray} (h0 : engNo (w 0) = false) (h1 : numNo (w 1) = false) (h2 : shNo (w 2) = false) {n : Int} {d0 d1 : Dm} (h : cfgRight (refCf w n d0 d1) = true) : pGr5 w = false := by
  have hc := cfg_in h
  have c1 : hdC (w 0) ≤ 5000 := by
    have := hc.kind
    simp only [refCf] at this
    omega
  have c2 : numR (w 1) ≤ 200 := hc.k1
  have c3 : shR (w 2) 0 ≤ shR (w 2) 1 := hc.a1
  have c4 : shR (w 2) 1 ≤ 1048576 := hc.b1
  obtain ⟨_, _, e⟩ := hd_eq (w 0)
  unfold pGr5
  rw [(e h0).2 (by omega), (numR_small h1 (by omega)).1, ((sh_eq (w 2)).2 h2).2 (by omega) (by omega)]
  rfl
/-- What follows, of words that are none too ill. -/
theorem last_eq {c p : Cf} {g : Bool} (h1 : cfgRight c = true → g = false) (h2 : g = false → c = p) : fin2 c = some (prD (bif (bif g then 1 else bif !cfgRight p then 1 else 0 : Int) == 0 then p else cf0) (bif g then 1 else bif !cfgRight p then 1 else 0)) := by
  unfold fin2
  cases g with
  | true =>
    cases hc : cfgRight c with
    | true => cases h1 hc
    | false => rfl
  | false =>
    rw [h2 rfl]
    cases cfgRight p <;> rfl
end Go.Cb
namespace Go.Proofs.YtflbjjpcjeinlaaGreatDoor
open Go.Ev Go.Cb
theorem go_P0 (L : List ByteArray) (c : Cf) (n0 n1 n2 n3 n4 n5 : Int) : lpE eP tb 8 Tryz.f7 0 (endK tb Tryz.f7) (7 + 1) 19922944 idsP (stP L c n0 n1 n2 n3 n4 n5 0) =
    bif decide (0 < c.sh.s.n) then dmC L 0 fun d => lpE eP tb 8 Tryz.f7 0 (endK tb Tryz.f7) (6 + 1) 19922944 idsP (stP L (set0 c d) n0 n1 n2 n3 d.step n5 1) else finR c n0 n1 n2 n3 n4 n5 := by
  rw [lpE_succ, rnd_P0]
theorem go_P1 (L : List ByteArray) (c : Cf) (n0 n1 n2 n3 n4 n5 : Int) : lpE eP tb 8 Tryz.f7 0 (endK tb Tryz.f7) (6 + 1) 19922944 idsP (stP L c n0 n1 n2 n3 n4 n5 1) =
    bif decide (1 < c.sh.s.n) then dmC L 1 fun d => lpE eP tb 8 Tryz.f7 0 (endK tb Tryz.f7) (5 + 1) 19922944 idsP (stP L (set1 c d) n0 n1 n2 n3 n4 d.step 2) else finR c n0 n1 n2 n3 n4 n5 := by
  rw [lpE_succ, rnd_P1]
theorem go_P2 (L : List ByteArray) (c : Cf) (hc : c.sh.s.n = 2) (n0 n1 n2 n3 n4 n5 : Int) : lpE eP tb 8 Tryz.f7 0 (endK tb Tryz.f7) (5 + 1) 19922944 idsP (stP L c n0 n1 n2 n3 n4 n5 2) =
    finR c n0 n1 n2 n3 n4 n5 := by
  obtain ⟨⟨kind, k, cap, ⟨n, d0, d1⟩⟩, by', a, b⟩ := c
  simp only at hc
  subst hc
  rw [lpE_succ, rnd_P2]
end Go.Proofs.YtflbjjpcjeinlaaGreatDoor
namespace Go.Cb
open Go.Ev Go.Proofs.YtflbjjpcjeinlaaGreatDoor
theorem bad_bad (a b : Bool) (k : Option D) : badE a (badE b k) = badE (a || b) k := by cases a <;> rfl
def nB (w : Nat → ByteArray) : Bool := decide (hdC (w 0) < 0) || (decide (numR (w 1) < 0) || (decide (shR (w 2) 0 < 0) || decide (shR (w 2) 1 < 0)))
/-- What is left to say when no word is ill. -/
theorem end_P (t : ByteArray) (hin : pIn t = true) (c : Cf) (h1 : pNo t = false → cfgRight c = true → pGr t = false) (h2 : pNo t = false → pGr t = false → c = pCfg t) :
    badE (pNo t) (fin2 c) = some (prD (cfgV t) (cfgE t)) := by
  unfold cfgV cfgE
  rw [hin]
  cases hn : pNo t with
  | true => rfl
  | false =>
    rw [hn] at h1 h2
    exact last_eq (h1 rfl) (h2 rfl)
theorem no5 (a b c d e f g h : Bool) : ((a || (b || c)) || (d || (e || (f || (g || h))))) = (false || (b || e) || f || (c || (g || h)) || a || d) := by
  cases a <;> cases b <;> cases c <;> cases d <;> cases e <;> cases f <;> cases g <;> cases h <;> rfl
theorem no6 (a b c d d' e f g h : Bool) : ((a || (b || c)) || (d || (d' || (e || (f || (g || h)))))) = ((false || (b || e) || f || (c || (g || h)) || a || d) || d') := by
  cases a <;> cases b <;> cases c <;> cases d <;> cases d' <;> cases e <;> cases f <;> cases g <;> cases h <;> rfl
theorem pNoC_eq (w : Nat → ByteArray) : pNoC w = (false || (hdHead (w 0) || decide (hdC (w 0) < 0)) || decide (numR (w 1) < 0) || (!Nat.beq (splitS (w 2) slashT).length 2 || (decide (shR (w 2) 0 < 0) || decide (shR (w 2) 1 < 0))) || nameNo weightsL (w 3) || dimBad (w 4)) := by
  unfold pNoC
  rw [← (hd_eq (w 0)).2.1, hdBad_head, ← numR_neg, ← (sh_eq (w 2)).1, ← (dimBad_eq (w 4)).1]
  rfl
theorem pNoC_in {w : Nat → ByteArray} (h : pNoC w = false) : engNo (w 0) = false ∧ numNo (w 1) = false ∧ shNo (w 2) = false ∧ dimNo (w 4) = false := by
  unfold pNoC at h
  simp only [Bool.or_eq_false_iff] at h
  exact ⟨h.1.1.1.1.2, h.1.1.1.2, h.1.1.2, h.2⟩
end Go.Cb
namespace Go.Proofs.YtflbjjpcjeinlaaGreatDoor
open Go.Ev Go.Cb
theorem run_P5 (t : ByteArray) (L : List ByteArray) (hL : splitS t blankT = L) (h5 : L.length = 5) :
    (parS L fun kind by' n0 S => lpE eP tb 8 Tryz.f7 0 (endK tb Tryz.f7) (7 + 1) 19922944 idsP (stP L (cfK L kind by') n0 (numR (L.getD 1 noT)) (numR (S.getD 0 noT)) (numR (S.getD 1 noT)) 0 0 0)) = some (prD (cfgV t) (cfgE t)) := by
  have hw : pW t = fun i => L.getD i noT := by unfold pW; rw [hL]
  have hN : pN t = 5 := by unfold pN; rw [hL, h5]
  have hn : i64 ((L.length : Int) - 4) = 1 := by rw [h5]; decide
  rw [parS_eq L (by omega) (by omega), go_P0]
  have e0 : (cfK L (hdK (L.getD 0 noT)) (nameK weightsL (L.getD 3 noT))).sh.s.n = 1 := hn
  rw [e0, decide_eq_true (show (0 : Int) < 1 by decide), cond_true]
  rw [dmC_eq L 0 (by omega) (by omega) _ (nB fun i => L.getD i noT) (fin2 (refCf (fun i => L.getD i noT) 1 (dimR3 (L.getD 4 noT)) dm0)) (by
    rw [go_P1]
    have e1 : (set0 (cfK L (hdK (L.getD 0 noT)) (nameK weightsL (L.getD 3 noT))) (dimR3 (L.getD (4 + 0) noT))).sh.s.n = 1 := hn
    rw [e1, decide_eq_false (show ¬ (1 : Int) < 1 by decide), cond_false]
    unfold finR
    rw [negs_eq]
    have e2 : fixC (set0 (cfK L (hdK (L.getD 0 noT)) (nameK weightsL (L.getD 3 noT))) (dimR3 (L.getD (4 + 0) noT))) (hdC (L.getD 0 noT)) (numR (L.getD 1 noT)) (numR ((splitS (L.getD 2 noT) slashT).getD 0 noT)) (numR ((splitS (L.getD 2 noT) slashT).getD 1 noT)) = refCf (fun i => L.getD i noT) 1 (dimR3 (L.getD 4 noT)) dm0 := by
      unfold fixC set0 cfK refCf
      rw [hn]
      rfl
    rw [e2]
    show badE _ (fin2 _) = badE _ (fin2 _)
    congr 1
    simp only [List.any_cons, List.any_nil]
    show (decide (hdC (L.getD 0 noT) < 0) || (decide (numR (L.getD 1 noT) < 0) || (decide (shR (L.getD 2 noT) 0 < 0) || (decide (shR (L.getD 2 noT) 1 < 0) || (decide (numR (dW (L.getD 4 noT) 2) < 0) || (decide ((0 : Int) < 0) || false)))))) = ((nB fun i => L.getD i noT) || decide (numR (dW (L.getD 4 noT) 2) < 0))
    unfold nB
    rw [show decide ((0 : Int) < 0) = false by decide]
    cases decide (hdC (L.getD 0 noT) < 0) <;> cases decide (numR (L.getD 1 noT) < 0) <;> cases decide (shR (L.getD 2 noT) 0 < 0) <;> cases decide (shR (L.getD 2 noT) 1 < 0) <;> cases decide (numR (dW (L.getD 4 noT) 2) < 0) <;> rfl)]
  rw [bad_bad]
  have hno : pNo t = pNoC fun i => L.getD i noT := by unfold pNo; rw [hN, hw]; rfl
  have hgr : pGr t = (pGr5 (fun i => L.getD i noT) || dimGr (L.getD 4 noT)) := by
    unfold pGr
    rw [hN, hw]
    show (false || engGr (L.getD 0 noT) || numGr (L.getD 1 noT) || shGr (L.getD 2 noT) || dimGr (L.getD 4 noT)) = _
    unfold pGr5
    cases engGr (L.getD 0 noT) <;> cases numGr (L.getD 1 noT) <;> cases shGr (L.getD 2 noT) <;> rfl
  have hcf : pCfg t = ⟨⟨engK (L.getD 0 noT), numV (L.getD 1 noT), engC (L.getD 0 noT), ⟨1, dimOf (L.getD 4 noT), dm0⟩⟩, nameK weightsL (L.getD 3 noT), shA (L.getD 2 noT), shB (L.getD 2 noT)⟩ := by unfold pCfg; rw [hN, hw]; rfl
  have key : (nameNo weightsL (L.getD 3 noT) || (hdHead (L.getD 0 noT) || !Nat.beq (splitS (L.getD 2 noT) slashT).length 2) || (dimBad (L.getD (4 + 0) noT) || nB fun i => L.getD i noT)) = pNo t := by
    rw [hno, pNoC_eq]
    exact no5 _ _ _ _ _ _ _ _
  rw [key]
  refine end_P t (by unfold pIn; rw [hN]; rfl) _ (fun h hr => ?_) (fun h hg => ?_)
  · obtain ⟨a0, a1, a2, a4⟩ := pNoC_in (hno ▸ h)
    rw [hgr, refCf_gr (w := fun i => L.getD i noT) a0 a1 a2 hr, Bool.false_or]
    have hd : (dimR3 (L.getD 4 noT)).step ≤ 128 := (cfg_in hr).d0.t1
    exact ((dimBad_eq _).2 a4).2 (by omega)
  · obtain ⟨a0, a1, a2, a4⟩ := pNoC_in (hno ▸ h)
    rw [hgr, Bool.or_eq_false_iff] at hg
    rw [hcf, refCf_eq (w := fun i => L.getD i noT) a0 a1 a2 hg.1, ((dimBad_eq _).2 a4).1 hg.2]
theorem run_P6 (t : ByteArray) (L : List ByteArray) (hL : splitS t blankT = L) (h6 : L.length = 6) :
    (parS L fun kind by' n0 S => lpE eP tb 8 Tryz.f7 0 (endK tb Tryz.f7) (7 + 1) 19922944 idsP (stP L (cfK L kind by') n0 (numR (L.getD 1 noT)) (numR (S.getD 0 noT)) (numR (S.getD 1 noT)) 0 0 0)) = some (prD (cfgV t) (cfgE t)) := by
  have hw : pW t = fun i => L.getD i noT := by unfold pW; rw [hL]
  have hN : pN t = 6 := by unfold pN; rw [hL, h6]
  have hn : i64 ((L.length : Int) - 4) = 2 := by rw [h6]; decide
  rw [parS_eq L (by omega) (by omega), go_P0]
  have e0 : (cfK L (hdK (L.getD 0 noT)) (nameK weightsL (L.getD 3 noT))).sh.s.n = 2 := hn
  rw [e0, decide_eq_true (show (0 : Int) < 2 by decide), cond_true]
  rw [dmC_eq L 0 (by omega) (by omega) _ (dimBad (L.getD 5 noT) || nB fun i => L.getD i noT) (fin2 (refCf (fun i => L.getD i noT) 2 (dimR3 (L.getD 4 noT)) (dimR3 (L.getD 5 noT)))) (by
    rw [go_P1]
    have e1 : (set0 (cfK L (hdK (L.getD 0 noT)) (nameK weightsL (L.getD 3 noT))) (dimR3 (L.getD (4 + 0) noT))).sh.s.n = 2 := hn
    rw [e1, decide_eq_true (show (1 : Int) < 2 by decide), cond_true]
    rw [dmC_eq L 1 (by omega) (by omega) _ ((nB fun i => L.getD i noT) || decide (numR (dW (L.getD 4 noT) 2) < 0)) (fin2 (refCf (fun i => L.getD i noT) 2 (dimR3 (L.getD 4 noT)) (dimR3 (L.getD 5 noT)))) (by
      rw [go_P2 _ _ hn]
      unfold finR
      rw [negs_eq]
      have e2 : fixC (set1 (set0 (cfK L (hdK (L.getD 0 noT)) (nameK weightsL (L.getD 3 noT))) (dimR3 (L.getD (4 + 0) noT))) (dimR3 (L.getD (4 + 1) noT))) (hdC (L.getD 0 noT)) (numR (L.getD 1 noT)) (numR ((splitS (L.getD 2 noT) slashT).getD 0 noT)) (numR ((splitS (L.getD 2 noT) slashT).getD 1 noT)) = refCf (fun i => L.getD i noT) 2 (dimR3 (L.getD 4 noT)) (dimR3 (L.getD 5 noT)) := by
        unfold fixC set1 set0 cfK refCf
        rw [hn]
        rfl
      rw [e2]
      show badE _ (fin2 _) = badE _ (fin2 _)
      congr 1
      simp only [List.any_cons, List.any_nil]
      show (decide (hdC (L.getD 0 noT) < 0) || (decide (numR (L.getD 1 noT) < 0) || (decide (shR (L.getD 2 noT) 0 < 0) || (decide (shR (L.getD 2 noT) 1 < 0) || (decide (numR (dW (L.getD 4 noT) 2) < 0) || (decide (numR (dW (L.getD 5 noT) 2) < 0) || false)))))) = (((nB fun i => L.getD i noT) || decide (numR (dW (L.getD 4 noT) 2) < 0)) || decide (numR (dW (L.getD 5 noT) 2) < 0))
      unfold nB
      cases decide (hdC (L.getD 0 noT) < 0) <;> cases decide (numR (L.getD 1 noT) < 0) <;> cases decide (shR (L.getD 2 noT) 0 < 0) <;> cases decide (shR (L.getD 2 noT) 1 < 0) <;> cases decide (numR (dW (L.getD 4 noT) 2) < 0) <;> cases decide (numR (dW (L.getD 5 noT) 2) < 0) <;> rfl)]
    congr 1
    show (dimBad (L.getD 5 noT) || ((nB fun i => L.getD i noT) || decide (numR (dW (L.getD 4 noT) 2) < 0))) = ((dimBad (L.getD 5 noT) || nB fun i => L.getD i noT) || decide (numR (dW (L.getD 4 noT) 2) < 0))
    rw [Bool.or_assoc])]
  rw [bad_bad]
  have hno : pNo t = (pNoC (fun i => L.getD i noT) || dimNo (L.getD 5 noT)) := by unfold pNo; rw [hN, hw]; rfl
  have hgr : pGr t = (pGr5 (fun i => L.getD i noT) || dimGr (L.getD 4 noT) || dimGr (L.getD 5 noT)) := by
    unfold pGr
    rw [hN, hw]
    show ((false || engGr (L.getD 0 noT) || numGr (L.getD 1 noT) || shGr (L.getD 2 noT) || dimGr (L.getD 4 noT)) || dimGr (L.getD 5 noT)) = _
    unfold pGr5
    cases engGr (L.getD 0 noT) <;> cases numGr (L.getD 1 noT) <;> cases shGr (L.getD 2 noT) <;> rfl
  have hcf : pCfg t = ⟨⟨engK (L.getD 0 noT), numV (L.getD 1 noT), engC (L.getD 0 noT), ⟨2, dimOf (L.getD 4 noT), dimOf (L.getD 5 noT)⟩⟩, nameK weightsL (L.getD 3 noT), shA (L.getD 2 noT), shB (L.getD 2 noT)⟩ := by unfold pCfg; rw [hN, hw]; rfl
  have key : (nameNo weightsL (L.getD 3 noT) || (hdHead (L.getD 0 noT) || !Nat.beq (splitS (L.getD 2 noT) slashT).length 2) || (dimBad (L.getD (4 + 0) noT) || (dimBad (L.getD 5 noT) || nB fun i => L.getD i noT))) = pNo t := by
    rw [hno, pNoC_eq, ← (dimBad_eq (L.getD 5 noT)).1]
    exact no6 _ _ _ _ _ _ _ _ _
  rw [key]
  refine end_P t (by unfold pIn; rw [hN]; rfl) _ (fun h hr => ?_) (fun h hg => ?_)
  · rw [hno, Bool.or_eq_false_iff] at h
    obtain ⟨a0, a1, a2, a4⟩ := pNoC_in h.1
    have hc := cfg_in hr
    have hd : (dimR3 (L.getD 4 noT)).step ≤ 128 := hc.d0.t1
    have hd2 : (dimR3 (L.getD 5 noT)).step ≤ 128 := by
      rcases hc.d1 with ⟨n1, _⟩ | ⟨_, d⟩
      · have n1 : (2 : Int) = 1 := n1
        omega
      · exact d.t1
    rw [hgr, refCf_gr (w := fun i => L.getD i noT) a0 a1 a2 hr, Bool.false_or, ((dimBad_eq _).2 a4).2 (by omega), ((dimBad_eq _).2 h.2).2 (by omega)]
    rfl
  · rw [hno, Bool.or_eq_false_iff] at h
    obtain ⟨a0, a1, a2, a4⟩ := pNoC_in h.1
    rw [hgr, Bool.or_eq_false_iff, Bool.or_eq_false_iff] at hg
    rw [hcf, refCf_eq (w := fun i => L.getD i noT) a0 a1 a2 hg.1.1, ((dimBad_eq _).2 a4).1 hg.1.2, ((dimBad_eq _).2 h.2).1 hg.2]
theorem ev_r32Parse (t : ByteArray) : evalF eP tb 8 Tryz.f7 [T t] = some (prD (cfgV t) (cfgE t)) := by
  refine (evalF_cut (fn := Tryz.f7) 0 rfl).trans ((st_P t _).trans ?_)
  generalize hL : splitS t blankT = L
  by_cases h5 : L.length = 5
  · exact run_P5 t L hL h5
  · by_cases h6 : L.length = 6
    · exact run_P6 t L hL h6
    · have hN : pN t = L.length := by unfold pN; rw [hL]
      have hin : pIn t = false := by
        unfold pIn
        rw [hN, beq_nat, beq_nat, decide_eq_false h5, decide_eq_false h6]; rfl
      have hE : cfgE t = 3 := by unfold cfgE; rw [hin]; rfl
      have hV : cfgV t = cf0 := by unfold cfgV; rw [hE]; rfl
      rw [hE, hV]
      unfold parS
      simp only
      by_cases hs : (L.length : Int) < 5
      · rw [decide_eq_true hs]; rfl
      · rw [decide_eq_false hs, cond_false, decide_eq_true (show (L.length : Int) > 6 by omega)]; rfl
abbrev e_r32Parse : Fe := fn1 cT fun t => prD (cfgV t) (cfgE t)
theorem ok_r32Parse : En 7 e_r32Parse :=
  entry1 (callable Tryz.func7 (by kernel_rfl)) fun t => spW es_r32Pa Tryz.func7 8 (ev_r32Parse t)
end Go.Proofs.YtflbjjpcjeinlaaGreatDoor
namespace Go.Cb
open Go.Ev Go.Proofs.YtflbjjpcjeinlaaGreatDoor
def cfSame (a b : Cf) : Bool := (a.sh.kind == b.sh.kind) && ((a.sh.k == b.sh.k) && ((a.sh.cap == b.sh.cap) && ((a.sh.s.n == b.sh.s.n) && ((a.sh.s.d0.kind == b.sh.s.d0.kind) && ((a.sh.s.d0.side == b.sh.s.d0.side) && ((a.sh.s.d0.step == b.sh.s.d0.step) &&
  ((a.sh.s.d1.kind == b.sh.s.d1.kind) && ((a.sh.s.d1.side == b.sh.s.d1.side) && ((a.sh.s.d1.step == b.sh.s.d1.step) && ((a.by' == b.by') && ((a.a == b.a) && ((a.b == b.b) && true))))))))))))
theorem cfSame_refl (a : Cf) : cfSame a a = true := by simp [cfSame]
end Go.Cb
namespace Go.Proofs.YtflbjjpcjeinlaaGreatDoor
open Go.Ev Go.Cb
abbrev l_CT : Ens := [(8, e_alive), (6, e_Parse), (9, e_cPrint), (7, e_r32Parse), (10, e_r32Print)]
theorem es_CT : Es l_CT := .cons ok_alive (.cons ok_Parse (.cons ok_cPrint (.cons ok_r32Parse (.cons ok_r32Print .nil))))
theorem ev_ConfigTexts (c : Cf) (t : ByteArray) : evalF (envOf l_CT) tb 3 Tryz.f3 [cCf.enc c, T t] =
    bif (cfgT c).toList == (cfgT c).toList then (bif cfSame (cfgV t) (cfgV t) then some (B (cfgE t == cfgE t)) else some (B false)) else some (B false) := by kernel_rfl
theorem law_ConfigTexts (c : Cf) (t : ByteArray) (_ : True) (_ : t.size ≤ 1048576) : Go.Ev.Spec Tryz.prog gl 3 [cCf.enc c, T t] (B true) :=
  sp es_CT Tryz.func3 3 ((ev_ConfigTexts c t).trans (by rw [cfSame_refl, beq_self_eq_true, beq_self_eq_true]; rfl))
end Go.Proofs.YtflbjjpcjeinlaaGreatDoor
