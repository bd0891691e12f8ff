/- What goes over to a function and comes back: places of the evaluator's own, written out and taken in again. -/
import Derived.Test.YtflbjjpcjeinlaaGreatDoorEvg
namespace Go.Ev
open Go Go.RowKit

section
variable {w0 : W0} {K0 : Nat → Nat → Prop} {tb : Tb} {t : List D} {m : Mem} {g : G} {a : Act} {w : World} {as : List Value}

/-- No entry owns this block. -/
def Free (m : Mem) (g : G) (b : Nat) : Prop := (∀ i c T, look m i = some (.cells c T) → g.σ i ≠ b) ∧ (∀ q E, look m q = some (.tok E) → (g.ρ q).ownBlock ≠ some b) ∧ (∀ i x, look m i = some x → isBl x = true → g.σ i ≠ b)
section
variable {lk lk' : Nat → Option Bx}
/-- Other words on maps; nothing new on cells and permissions. -/
theorem RS.relk (h : RS w0 K0 tb t lk g a w) (hl : ∀ i b, isMp b = false → lk' i = some b → lk i = some b ∨ (b = .dead ∧ g.C i)) (hm : RM w0 tb lk' g w) : RS w0 K0 tb t lk' g a w := by
  have hc : ∀ i c T, lk' i = some (.cells c T) → lk i = some (.cells c T) := fun i c T hi => (hl i _ rfl hi).elim id fun h => by cases h.1
  have ht : ∀ i E, lk' i = some (.tok E) → lk i = some (.tok E) := fun i E hi => (hl i _ rfl hi).elim id fun h => by cases h.1
  exact { len := h.len, tm := h.tm, df := h.df, bx := fun i c T hi => h.bx i c T (hc i c T hi), bd := fun i j c T c' T' hi hj => h.bd i j c T c' T' (hc i c T hi) (hc j c' T' hj),
          tk := fun q E hq => h.tk q E (ht q E hq), td := fun q E i c T hq hi => h.td q E i c T (ht q E hq) (hc i c T hi), tt := fun q q' E E' b hq hq' => h.tt q q' E E' b (ht q E hq) (ht q' E' hq'),
          dd := fun i hi => (hl i _ rfl hi).elim (h.dd i) fun h => h.2, kb := h.kb, k0 := h.k0, k1 := h.k1, kv := h.kv, ar := h.ar, ext := h.ext, rm := hm }
/-- A word more: on maps. -/
theorem RM.addMap (h : RM w0 tb lk g w) {id n : Nat} {T : TypeId} {get : Nat → List D} (hC : g.C id) (hm : w0.mine (g.σ id)) {es : Array MapEntry} {clock : Nat} (hb : w.heap[g.σ id]? = some (.map es clock)) (hM : MapC tb T es clock n get)
    (hd : ∀ i b, isBl b = true → lk i = some b → i ≠ id → g.σ i ≠ g.σ id) (ht : ∀ q b, lk q = some b → id ∉ tgI b) : RM w0 tb (fun j => if id = j then some (.map T n get []) else lk j) g w := by
  have left : ∀ q b, (if id = q then some (Bx.map T n get []) else lk q) = some b → (id = q ∧ b = .map T n get []) ∨ (id ≠ q ∧ lk q = some b) := fun q b hq => by
    by_cases e : id = q
    · rw [if_pos e] at hq; cases hq; exact .inl ⟨e, rfl⟩
    · rw [if_neg e] at hq; exact .inr ⟨e, hq⟩
  refine { mp := fun q T1 n1 g1 ws1 hq => ?_, md := fun q q' T1 n1 g1 ws1 T2 n2 g2 ws2 hq hq' e => ?_, it := fun q j sn hq => ?_, id := fun q q' j j' sn sn' hq hq' e => ?_, st := fun q j kc hq => ?_ }
  · rcases left q _ hq with ⟨rfl, e⟩ | ⟨_, hq⟩
    · cases e; exact ⟨hC, fun q hq => (by cases hq), hm, es, clock, hb, hM⟩
    · exact h.mp q T1 n1 g1 ws1 hq
  · rcases left q _ hq with ⟨rfl, _⟩ | ⟨hne, hq⟩ <;> rcases left q' _ hq' with ⟨rfl, _⟩ | ⟨hne', hq'⟩
    · rfl
    · exact absurd e.symm (hd q' _ rfl hq' (Ne.symm hne'))
    · exact absurd e (hd q _ rfl hq (Ne.symm hne))
    · exact h.md q q' T1 n1 g1 ws1 T2 n2 g2 ws2 hq hq' e
  · rcases left q _ hq with ⟨_, e⟩ | ⟨_, hq⟩
    · cases e
    · obtain ⟨c1, c1', c2, b, s, se, l, c3, c4⟩ := h.it q j sn hq
      refine ⟨c1, c1', c2, b, s, se, l, c3, fun T1 n1 g1 ws1 hj => ?_⟩
      rcases left j _ hj with ⟨rfl, _⟩ | ⟨_, hj⟩
      · exact absurd (by simp [tgI]) (ht q _ hq)
      · exact c4 T1 n1 g1 ws1 hj
  · rcases left q _ hq with ⟨_, e1⟩ | ⟨_, hq⟩
    · cases e1
    rcases left q' _ hq' with ⟨_, e1⟩ | ⟨_, hq'⟩
    · cases e1
    exact h.id q q' j j' sn sn' hq hq' e
  · rcases left q _ hq with ⟨_, e⟩ | ⟨_, hq⟩
    · cases e
    · obtain ⟨c1, c1', c2⟩ := h.st q j kc hq
      refine ⟨c1, c1', fun T1 n1 g1 ws1 hj => ?_⟩
      rcases left j _ hj with ⟨rfl, _⟩ | ⟨_, hj⟩
      · exact absurd (by simp [tgI]) (ht q _ hq)
      · exact c2 T1 n1 g1 ws1 hj
end

theorem look_append (δ m : Mem) (i : Nat) : look (δ ++ m) i = match look δ i with | some b => some b | none => look m i := by
  induction δ with
  | nil => rfl
  | cons x δ ih =>
    obtain ⟨j, b⟩ := x
    rw [List.cons_append, look_cons, ih, look_cons]
    by_cases h : j = i
    · simp [h]
    · simp [h]
theorem look_assoc (x y m : Mem) : look (x ++ (y ++ m)) = look ((x ++ y) ++ m) := by rw [List.append_assoc]

/-! ### Lists of them -/
theorem XRs.idx {K : Nat → Nat → Prop} {l : List D} {rs : List Value} {L : List Nat} (h : XRs tb K w as l rs L) :
    rs.length = l.length ∧ ∃ Ls : Nat → List Nat, (∀ j d, l[j]? = some d → XR tb K w as d (rs.getD j undef) (Ls j)) ∧ L = (List.range l.length).flatMap Ls := by
  induction h with
  | nil => exact ⟨rfl, fun _ => [], fun j d h => by simp at h, rfl⟩
  | @cons d r L M l rs h _ ih =>
    obtain ⟨hl, Ls, h1, h2⟩ := ih
    refine ⟨by simp [hl], fun j => match j with | 0 => L | j + 1 => Ls j, fun j d hd => ?_, ?_⟩
    · cases j with
      | zero => simp at hd; subst hd; simpa using h
      | succ j => simpa using h1 j d (by simpa using hd)
    · simp only [List.length_cons, List.range_succ_eq_map, List.flatMap_cons, h2]
      rw [List.flatMap_map]
theorem XRs.of {K : Nat → Nat → Prop} : ∀ {l : List D} {rs : List Value} {Ls : Nat → List Nat}, rs.length = l.length → (∀ j d, l[j]? = some d → XR tb K w as d (rs.getD j undef) (Ls j)) → XRs tb K w as l rs ((List.range l.length).flatMap Ls)
  | [], [], Ls, _, _ => .nil
  | d :: l, r :: rs, Ls, hl, h => by
    simp only [List.length_cons, List.range_succ_eq_map, List.flatMap_cons]
    rw [List.flatMap_map]
    exact .cons (by simpa using h 0 d rfl) (XRs.of (Ls := fun j => Ls (j + 1)) (by simpa using hl) (fun j d hd => by simpa using h (j + 1) d (by simpa using hd)))
  | [], r :: rs, _, hl, _ => by simp at hl
  | d :: l, [], _, hl, _ => by simp at hl
theorem flat_nil {n : Nat} : ([] : List Nat) = (List.range n).flatMap (fun _ => []) := by
  induction (List.range n) with
  | nil => rfl
  | cons x l ih => simp
theorem XR.isAgg {K : Nat → Nat → Prop} {l : List D} {r : Value} {L : List Nat} (h : XR tb K w as (.agg l) r L) :
    ∃ cs : Array Value, r = .agg cs ∧ cs.size = l.length ∧ (∀ j, j < l.length → oneC (cs.getD j undef) = true) ∧ XRs tb K w as l cs.toList L := by
  cases h with
  | kr _ _ h =>
    cases h with
    | agg _ cs hl h1 hc =>
      refine ⟨cs, rfl, hl, h1, ?_⟩
      rw [flat_nil (n := l.length)]
      exact XRs.of (by simpa using hl) fun j d hd => .kr _ _ (by simpa using hc j d hd)
  | agg _ cs Ls hl h1 hc => exact ⟨cs, rfl, hl, h1, XRs.of (by simpa using hl) fun j d hd => by simpa using hc j d hd⟩
theorem XR.isTup {K : Nat → Nat → Prop} {l : List D} {r : Value} {L : List Nat} (h : XR tb K w as (.tup l) r L) :
    ∃ cs : Array Value, r = .tuple cs ∧ cs.size = l.length ∧ XRs tb K w as l cs.toList L := by
  cases h with
  | kr _ _ h =>
    cases h with
    | tup _ cs hl hc =>
      refine ⟨cs, rfl, hl, ?_⟩
      rw [flat_nil (n := l.length)]
      exact XRs.of (by simpa using hl) fun j d hd => .kr _ _ (by simpa using hc j d hd)
  | tup _ cs Ls hl hc => exact ⟨cs, rfl, hl, XRs.of (by simpa using hl) fun j d hd => by simpa using hc j d hd⟩
theorem XR.isClo {K : Nat → Nat → Prop} {f : FuncId} {l : List D} {r : Value} {L : List Nat} (h : XR tb K w as (.clo f l) r L) :
    ∃ cs : Array Value, r = .func (.func f) #[] cs ∧ cs.size = l.length ∧ XRs tb K w as l cs.toList L := by
  cases h with
  | kr _ _ h => cases h
  | clo _ _ cs Ls hl hc => exact ⟨cs, rfl, hl, XRs.of (by simpa using hl) fun j d hd => by simpa using hc j d hd⟩
theorem XR.isV {K : Nat → Nat → Prop} {x r : Value} {L : List Nat} (h : XR tb K w as (.v x) r L) : KR K w (.v x) r := by cases h with | kr _ _ h => exact h
theorem XR.isRef {K : Nat → Nat → Prop} {l : List D} {r : Value} {L : List Nat} (h : XR tb K w as (.ref l) r L) : KR K w (.ref l) r := by cases h with | kr _ _ h => exact h
theorem XR.isSl {K : Nat → Nat → Prop} {sz n : Nat} {get : Nat → List D} {p : Pm} {r : Value} {L : List Nat} (h : XR tb K w as (.sl sz n get p) r L) : KR K w (.sl sz n get .none) r := by
  cases h with
  | kr _ _ h => cases h with
    | sl _ _ _ b off cap f hn hl hk hc => exact .sl sz n get b off cap f hn hl hk hc
    | sl0 _ _ a cap => exact .sl0 sz get a cap
  | own _ _ _ _ _ h _ => exact h

/-! ### Taken in -/
/-- What taking in leaves. -/
def Took (w0 : W0) (K0 : Nat → Nat → Prop) (tb : Tb) (t : List D) (m : Mem) (g : G) (a : Act) (w : World) (k k' : Nat) (m' : Mem) (L : List Nat) (g' : G) : Prop :=
  Ext g g' w w ∧ g'.K = g.K ∧ (∀ i, g'.C i → g.C i ∨ (4 * k ≤ i ∧ i < 4 * k')) ∧ RS w0 K0 tb t (look (m' ++ m)) g' a w ∧ (∀ b, b ∉ L → Free m g b → Free (m' ++ m) g' b) ∧ (∀ q x, look (m' ++ m) q = some x → tgI x ≠ [] → look m q = some x)
theorem Took.refl (hr : RS w0 K0 tb t (look m) g a w) (k : Nat) (L : List Nat) : Took w0 K0 tb t m g a w k k [] L g :=
  ⟨Ext.refl _ _, rfl, fun _ h => .inl h, hr, fun _ _ h => h, fun _ _ h _ => h⟩
theorem Took.trans {k k1 k2 : Nat} {m1 m2 : Mem} {L M : List Nat} {g1 g2 : G} (h1 : Took w0 K0 tb t m g a w k k1 m1 L g1) (h2 : Took w0 K0 tb t (m1 ++ m) g1 a w k1 k2 m2 M g2) (hk : k ≤ k1) (hk2 : k1 ≤ k2) :
    Took w0 K0 tb t m g a w k k2 (m2 ++ m1) (L ++ M) g2 := by
  obtain ⟨a1, a2, a3, a4, a5, a6⟩ := h1
  obtain ⟨b1, b2, b3, b4, b5, b6⟩ := h2
  refine ⟨a1.trans b1, b2.trans a2, fun i hi => ?_, by rw [← look_assoc]; exact b4, fun b hb hf => ?_, fun q x hq ht => a6 q x (b6 q x (by rw [look_assoc]; exact hq) ht) ht⟩
  · rcases b3 i hi with h | h
    · rcases a3 i h with h | h
      · exact .inl h
      · exact .inr (by omega)
    · exact .inr (by omega)
  · simp only [List.mem_append, not_or] at hb
    have := b5 b hb.2 (a5 b hb.1 hf)
    rwa [← List.append_assoc] at this

def InOk (w0 : W0) (K0 : Nat → Nat → Prop) (tb : Tb) (t : List D) (a : Act) (w : World) (as : List Value) (Pg : G → Prop) (h : Nat → D → D × Mem × Nat) : Prop :=
  (∀ k d, k ≤ (h k d).2.2) ∧ ∀ (k : Nat) (d : D) (r : Value) (L : List Nat) (m : Mem) (g : G), Pg g → XR tb g.K w as d r L → RS w0 K0 tb t (look m) g a w → L.Nodup → (∀ b ∈ L, w0.mine b ∧ Free m g b) →
    (∀ i, 4 * k ≤ i → i < 4 * (h k d).2.2 → ¬ g.C i) → ∃ g', Took w0 K0 tb t m g a w k (h k d).2.2 (h k d).2.1 L g' ∧ VR g' w (h k d).1 r

theorem inL_le {h : Nat → D → D × Mem × Nat} (hh : ∀ k d, k ≤ (h k d).2.2) : ∀ (l : List D) (k : Nat), k ≤ (inL h k l).2.2
  | [], _ => Nat.le_refl _
  | d :: r, k => Nat.le_trans (hh k d) (inL_le hh r (h k d).2.2)

theorem inL_ok {Pg : G → Prop} (hP : ∀ g g', Pg g → Ext g g' w w → Pg g') {h : Nat → D → D × Mem × Nat} (hh : InOk w0 K0 tb t a w as Pg h) : ∀ (l : List D) (k : Nat) (rs : List Value) (L : List Nat) (m : Mem) (g : G), Pg g → XRs tb g.K w as l rs L → RS w0 K0 tb t (look m) g a w → L.Nodup → (∀ b ∈ L, w0.mine b ∧ Free m g b) →
    (∀ i, 4 * k ≤ i → i < 4 * (inL h k l).2.2 → ¬ g.C i) → ∃ g', Took w0 K0 tb t m g a w k (inL h k l).2.2 (inL h k l).2.1 L g' ∧ (inL h k l).1.length = l.length ∧ ∀ i d, (inL h k l).1[i]? = some d → VR g' w d (rs.getD i undef)
  | [], k, rs, L, m, g, _, hx, hr, _, _, _ => by
    cases hx
    exact ⟨g, Took.refl hr k _, rfl, fun i d hd => by simp [inL] at hd⟩
  | d :: l, k, rs, L, m, g, hg, hx, hr, hnd, hL, hC => by
    cases hx with
    | cons hx hxl =>
      rename_i r L M rs
      have e : inL h k (d :: l) = ((h k d).1 :: (inL h (h k d).2.2 l).1, (inL h (h k d).2.2 l).2.1 ++ (h k d).2.1, (inL h (h k d).2.2 l).2.2) := rfl
      rw [e] at hC ⊢
      simp only at hC ⊢
      have le1 := hh.1 k d
      have le2 := inL_le hh.1 l (h k d).2.2
      obtain ⟨n1, n2, n3⟩ := List.nodup_append.1 hnd
      obtain ⟨g1, T1, v1⟩ := hh.2 k d r L m g hg hx hr n1 (fun b hb => hL b (by simp [hb])) (fun i h1 h2 => hC i h1 (by omega))
      have T1' := T1
      obtain ⟨a1, a2, a3, a4, a5, _⟩ := T1
      obtain ⟨g2, T2, e2, v2⟩ := inL_ok hP hh l (h k d).2.2 rs M _ g1 (hP g g1 hg a1) (by rw [a2]; exact hxl) a4 n2 (fun b hb => ⟨(hL b (by simp [hb])).1, a5 b (fun hb' => n3 b hb' b hb rfl) (hL b (by simp [hb])).2⟩) (fun i h1 h2 h3 => by
        rcases a3 i h3 with h | h
        · exact hC i (by omega) h2 h
        · omega)
      refine ⟨g2, T1'.trans T2 le1 le2, by simp [e2], fun i d' hd' => ?_⟩
      cases i with
      | zero => simp at hd'; subst hd'; simpa using v1.mono T2.1
      | succ i => simpa using v2 i d' (by simpa using hd')

/-- A number is given to a block. -/
theorem RS.name (hr : RS w0 K0 tb t (look m) g a w) {id : Nat} (hid : ¬ g.C id) (b : Nat) (r : Value) : ∃ g', Ext g g' w w ∧ g'.K = g.K ∧ (∀ i, g'.C i → g.C i ∨ i = id) ∧ g'.C id ∧ g'.σ id = b ∧ g'.ρ id = r ∧ RS w0 K0 tb t (look m) g' a w := by
  let g' : G := ⟨fun i => g.C i ∨ i = id, fun i => if i = id then b else g.σ i, fun i => if i = id then r else g.ρ i, g.K⟩
  have he : Ext g g' w w := ⟨fun i hi => .inl hi, fun i hi => by
    have : i ≠ id := fun e => hid (e ▸ hi)
    simp [g', this], fun i hi => by
    have : i ≠ id := fun e => hid (e ▸ hi)
    simp [g', this], fun _ _ h => ⟨h, rfl⟩⟩
  exact ⟨g', he, rfl, fun i h => h, .inr rfl, by simp [g'], by simp [g'], hr.grow (Below.refl _ _) he (fun _ _ h => .inl h) hr.kb⟩
theorem Free.ext {g' : G} (h : ∀ b, Free m g b → Free m g' b) {b : Nat} (hf : Free m g b) : Free m g' b := h b hf
theorem Free.named (hr : RS w0 K0 tb t (look m) g a w) {g' : G} (he : Ext g g' w w) {b : Nat} (hf : Free m g b) : Free m g' b :=
  ⟨fun i c T hi => by rw [he.σ i (hr.bx i c T hi).1]; exact hf.1 i c T hi, fun q E hq => by rw [he.ρ q (hr.tk q E hq).1]; exact hf.2.1 q E hq, fun i x hi hB => by rw [he.σ i (hr.rm.C hi (isMp_bl hB))]; exact hf.2.2 i x hi hB⟩

/-- A box is taken in: its cells first. -/
theorem box_in {h : Nat → D → D × Mem × Nat} (hh : InOk w0 K0 tb t a w as (fun _ => True) h) {k id : Nat} {T : TypeId} {c : List D} {b : Nat} {cs : Array Value} {M : List Nat} {g : G} {m : Mem} (hr : RS w0 K0 tb t (look m) g a w) (hnd : (b :: M).Nodup) (hL : ∀ x ∈ b :: M, w0.mine x ∧ Free m g x)
    (hh1 : w.heap[b]? = some (.cells cs T (0, 0))) (hs : cs.size = c.length) (h1 : ∀ j, j < c.length → oneC (cs.getD j undef) = true) (hK : ∀ o, ¬ g.K b o) (hx : XRs tb g.K w as c cs.toList M)
    (hC : ∀ i, 4 * k ≤ i → i < 4 * (inL h k c).2.2 → ¬ g.C i) (hid : (g.C id ∧ g.σ id = b) ∨ (¬ g.C id ∧ (id < 4 * k ∨ 4 * (inL h k c).2.2 ≤ id))) :
    ∃ g', Ext g g' w w ∧ g'.K = g.K ∧ (∀ i, g'.C i → g.C i ∨ i = id ∨ (4 * k ≤ i ∧ i < 4 * (inL h k c).2.2)) ∧ g'.C id ∧ g'.σ id = b ∧ RS w0 K0 tb t (look (((id, .cells (inL h k c).1 T) :: (inL h k c).2.1) ++ m)) g' a w ∧
      (∀ x, x ∉ b :: M → Free m g x → Free (((id, .cells (inL h k c).1 T) :: (inL h k c).2.1) ++ m) g' x) ∧
      (∀ q x, look (((id, .cells (inL h k c).1 T) :: (inL h k c).2.1) ++ m) q = some x → tgI x ≠ [] → look m q = some x) := by
  obtain ⟨hbM, hndM⟩ := List.nodup_cons.1 hnd
  obtain ⟨g1, ⟨a1, a2, a3, a4, a5, a6⟩, e1, v1⟩ := inL_ok (fun _ _ _ _ => trivial) hh c k cs.toList M m g trivial hx hr hndM (fun x hx => hL x (by simp [hx])) hC
  have key : ∃ g2, Ext g1 g2 w w ∧ g2.K = g.K ∧ (∀ i, g2.C i → g1.C i ∨ i = id) ∧ g2.C id ∧ g2.σ id = b ∧ RS w0 K0 tb t (look ((inL h k c).2.1 ++ m)) g2 a w := by
    rcases hid with ⟨h1, h2⟩ | ⟨h1, h2⟩
    · exact ⟨g1, Ext.refl _ _, a2, fun i hi => .inl hi, a1.C _ h1, (a1.σ _ h1).trans h2, a4⟩
    · obtain ⟨g2, b1, b2, b3, b4, b5, _, b7⟩ := a4.name (id := id) (fun hc => by
        rcases a3 id hc with h | h
        · exact h1 h
        · omega) b undef
      exact ⟨g2, b1, b2.trans a2, b3, b4, b5, b7⟩
  obtain ⟨g2, b1, b2, b3, b4, b5, b6⟩ := key
  have hfb : Free ((inL h k c).2.1 ++ m) g2 b := (a5 b hbM (hL b (by simp)).2).named a4 b1
  have hbx := b6.addBox (id := id) (c := (inL h k c).1) (T := T) (cs := cs) b4 (by rw [b5]; exact (hL b (by simp)).1) (by rw [b5, b2]; exact hK) (by rw [b5]; exact hh1) (by rw [hs, e1]) (fun j hj => h1 j (by rw [← e1]; exact hj)) (fun j d hd => by
      have := (v1 j d hd).mono b1
      simpa using this)
    (fun i c' T' hi _ => by rw [b5]; exact hfb.1 i c' T' hi) (fun q E hq _ => by rw [b5]; exact hfb.2.1 q E hq)
  have hlk : ∀ j, look (((id, .cells (inL h k c).1 T) :: (inL h k c).2.1) ++ m) j = if id = j then some (.cells (inL h k c).1 T) else look ((inL h k c).2.1 ++ m) j := fun j => by rw [List.cons_append, look_cons]
  refine ⟨g2, a1.trans b1, b2, fun i hi => ?_, b4, b5, hbx.congr hlk, fun x hx hf => ?_, fun q x hq ht => ?_⟩
  · rcases b3 i hi with h | h
    · rcases a3 i h with h | h
      · exact .inl h
      · exact .inr (.inr h)
    · exact .inr (.inl h)
  · simp only [List.mem_cons, not_or] at hx
    have hf2 := (a5 x hx.2 hf).named a4 b1
    refine ⟨fun i c' T' hi => ?_, fun q E hq => ?_, fun i x' hi hB => ?_⟩
    · rw [hlk] at hi
      split at hi
      · rename_i e; rw [← e, b5]; exact fun e => hx.1 e.symm
      · exact hf2.1 i c' T' hi
    · rw [hlk] at hq
      split at hq
      · cases hq
      · exact hf2.2.1 q E hq
    · rw [hlk] at hi
      split at hi
      · cases hi; cases hB
      · exact hf2.2.2 i x' hi hB
  · rw [hlk] at hq
    split at hq
    · cases hq; exact absurd rfl ht
    · exact a6 q x hq ht

/-- A row is taken in. -/
theorem row_in {id : Nat} {T : TypeId} {c : List D} {b : Nat} {cs : Array Value} (hr : RS w0 K0 tb t (look m) g a w) (hL : w0.mine b ∧ Free m g b)
    (hh1 : w.heap[b]? = some (.cells cs T (0, 0))) (hs : cs.size = c.length) (h1 : ∀ j, j < c.length → oneC (cs.getD j undef) = true) (hK : ∀ o, ¬ g.K b o) (hx : ∀ j d, c[j]? = some d → KR g.K w d (cs.getD j undef))
    (hid : (g.C id ∧ g.σ id = b) ∨ ¬ g.C id) :
    ∃ g', Ext g g' w w ∧ g'.K = g.K ∧ (∀ i, g'.C i → g.C i ∨ i = id) ∧ g'.C id ∧ g'.σ id = b ∧ RS w0 K0 tb t (look ([(id, .cells c T)] ++ m)) g' a w ∧
      (∀ x, x ∉ [b] → Free m g x → Free ([(id, .cells c T)] ++ m) g' x) ∧ (∀ q x, look ([(id, .cells c T)] ++ m) q = some x → tgI x ≠ [] → look m q = some x) := by
  have key : ∃ g2, Ext g g2 w w ∧ g2.K = g.K ∧ (∀ i, g2.C i → g.C i ∨ i = id) ∧ g2.C id ∧ g2.σ id = b ∧ RS w0 K0 tb t (look m) g2 a w := by
    rcases hid with ⟨h1, h2⟩ | h1
    · exact ⟨g, Ext.refl _ _, rfl, fun i hi => .inl hi, h1, h2, hr⟩
    · obtain ⟨g2, b1, b2, b3, b4, b5, _, b7⟩ := hr.name (id := id) h1 b undef
      exact ⟨g2, b1, b2, b3, b4, b5, b7⟩
  obtain ⟨g2, b1, b2, b3, b4, b5, b6⟩ := key
  have hfb : Free m g2 b := hL.2.named hr b1
  have hbx := b6.addBox (id := id) (c := c) (T := T) (cs := cs) b4 (by rw [b5]; exact hL.1) (by rw [b5, b2]; exact hK) (by rw [b5]; exact hh1) hs h1 (fun j d hd => .kr _ _ (by rw [b2]; exact hx j d hd))
    (fun i c' T' hi _ => by rw [b5]; exact hfb.1 i c' T' hi) (fun q E hq _ => by rw [b5]; exact hfb.2.1 q E hq)
  have hlk : ∀ j, look ([(id, .cells c T)] ++ m) j = if id = j then some (.cells c T) else look m j := fun j => by rw [List.cons_append, look_cons, List.nil_append]
  refine ⟨g2, b1, b2, b3, b4, b5, hbx.congr hlk, fun x hx hf => ?_, fun q x hq ht => ?_⟩
  · simp only [List.mem_singleton] at hx
    have hf2 := hf.named hr b1
    refine ⟨fun i c' T' hi => ?_, fun q E hq => ?_, fun i x' hi hB => ?_⟩
    · have hi : look ([(id, .cells c T)] ++ m) i = some (.cells c' T') := hi
      rw [hlk] at hi
      split at hi
      · rename_i e; rw [← e, b5]; exact fun e => hx e.symm
      · exact hf2.1 i c' T' hi
    · have hq : look ([(id, .cells c T)] ++ m) q = some (.tok E) := hq
      rw [hlk] at hq
      split at hq
      · cases hq
      · exact hf2.2.1 q E hq
    · have hi : look ([(id, .cells c T)] ++ m) i = some x' := hi
      rw [hlk] at hi
      split at hi
      · cases hi; cases hB
      · exact hf2.2.2 i x' hi hB
  · have hq : look ([(id, .cells c T)] ++ m) q = some x := hq
    rw [hlk] at hq
    split at hq
    · cases hq; exact absurd rfl ht
    · exact hq

/-- A map is taken in. -/
theorem map_in {id n : Nat} {T : TypeId} {get : Nat → List D} {b : Nat} {es : Array MapEntry} {clock : Nat} (hr : RS w0 K0 tb t (look m) g a w) (hL : w0.mine b ∧ Free m g b)
    (hh : w.heap[b]? = some (.map es clock)) (hM : MapC tb T es clock n get) (hid : (g.C id ∧ g.σ id = b ∧ ∀ q x, look m q = some x → id ∉ tgI x) ∨ ¬ g.C id) :
    ∃ g', Ext g g' w w ∧ g'.K = g.K ∧ (∀ i, g'.C i → g.C i ∨ i = id) ∧ g'.C id ∧ g'.σ id = b ∧ RS w0 K0 tb t (look ([(id, .map T n get [])] ++ m)) g' a w ∧
      (∀ x, x ∉ [b] → Free m g x → Free ([(id, .map T n get [])] ++ m) g' x) ∧ (∀ q x, look ([(id, .map T n get [])] ++ m) q = some x → tgI x ≠ [] → look m q = some x) := by
  have hnt : ∀ q x, look m q = some x → id ∉ tgI x := by
    rcases hid with ⟨_, _, h⟩ | h
    · exact h
    · intro q x hq hi
      refine h (hr.rm.T hq ?_)
      cases x <;> first | exact hi | (simp [tgI] at hi)
  have key : ∃ g2, Ext g g2 w w ∧ g2.K = g.K ∧ (∀ i, g2.C i → g.C i ∨ i = id) ∧ g2.C id ∧ g2.σ id = b ∧ RS w0 K0 tb t (look m) g2 a w := by
    rcases hid with ⟨h1, h2, _⟩ | h1
    · exact ⟨g, Ext.refl _ _, rfl, fun i hi => .inl hi, h1, h2, hr⟩
    · obtain ⟨g2, b1, b2, b3, b4, b5, _, b7⟩ := hr.name (id := id) h1 b undef
      exact ⟨g2, b1, b2, b3, b4, b5, b7⟩
  obtain ⟨g2, b1, b2, b3, b4, b5, b6⟩ := key
  have hfb : Free m g2 b := hL.2.named hr b1
  have hlk : ∀ j, look ([(id, .map T n get [])] ++ m) j = if id = j then some (.map T n get []) else look m j := fun j => by rw [List.cons_append, look_cons, List.nil_append]
  have hrm := b6.rm.addMap (id := id) (n := n) (T := T) (get := get) b4 (by rw [b5]; exact hL.1) (by rw [b5]; exact hh) hM (fun i x hB hi _ => by rw [b5]; exact hfb.2.2 i x hi hB) hnt
  have hbx : RS w0 K0 tb t (fun j => if id = j then some (.map T n get []) else look m j) g2 a w := b6.relk (fun i x hx hi => by
    by_cases e : id = i
    · simp only [if_pos e] at hi; cases hi; cases hx
    · simp only [if_neg e] at hi; exact .inl hi) hrm
  refine ⟨g2, b1, b2, b3, b4, b5, hbx.congr hlk, fun x hx hf => ?_, fun q x hq ht => ?_⟩
  · simp only [List.mem_singleton] at hx
    have hf2 := hf.named hr b1
    refine ⟨fun i c' T' hi => ?_, fun q E hq => ?_, fun i x' hi hB => ?_⟩
    · have hi : look ([(id, .map T n get [])] ++ m) i = some (.cells c' T') := hi
      rw [hlk] at hi
      split at hi
      · cases hi
      · exact hf2.1 i c' T' hi
    · have hq : look ([(id, .map T n get [])] ++ m) q = some (.tok E) := hq
      rw [hlk] at hq
      split at hq
      · cases hq
      · exact hf2.2.1 q E hq
    · have hi : look ([(id, .map T n get [])] ++ m) i = some x' := hi
      rw [hlk] at hi
      split at hi
      · rename_i e; rw [← e, b5]; exact fun e => hx e.symm
      · exact hf2.2.2 i x' hi hB
  · have hq : look ([(id, .map T n get [])] ++ m) q = some x := hq
    rw [hlk] at hq
    split at hq
    · cases hq; exact absurd rfl ht
    · exact hq

theorem inD_ok : ∀ f, InOk w0 K0 tb t a w as (fun _ => True) (inD f)
  | 0 => ⟨fun k d => Nat.le_refl _, fun k d r L m g _ _ hr _ _ _ => ⟨g, Took.refl hr k L, .no _⟩⟩
  | f + 1 => by
    have ih : InOk w0 K0 tb t a w as (fun _ => True) (inD f) := inD_ok f
    refine ⟨fun k d => ?_, fun k d r L m g _ hx hr hnd hL hC => ?_⟩
    · cases d with
      | box T c => exact Nat.le_trans (Nat.le_succ k) (inL_le ih.1 c (k + 1))
      | sl sz n get p => cases p <;> simp [inD]
      | agg l => exact inL_le ih.1 l k
      | tup l => exact inL_le ih.1 l k
      | clo i l => exact inL_le ih.1 l k
      | row sz n T c => exact Nat.le_succ k
      | mpx T n get => exact Nat.le_succ k
      | ifc T d => exact ih.1 k d
      | _ => exact Nat.le_refl _
    · cases d with
      | box T c =>
        have e : inD (f + 1) k (.box T c) = (.loc (4 * k) 0, (4 * k, .cells (inL (inD f) (k + 1) c).1 T) :: (inL (inD f) (k + 1) c).2.1, (inL (inD f) (k + 1) c).2.2) := rfl
        rw [e] at hC ⊢
        simp only at hC ⊢
        have le1 := inL_le ih.1 c (k + 1)
        cases hx with
        | kr _ _ h => cases h
        | box _ _ b cs Ls hh hs h1 hK hc =>
          obtain ⟨g', c1, c2, c3, c4, c5, c6, c7, c8⟩ := box_in ih (id := 4 * k) (k := k + 1) hr hnd hL hh hs h1 hK (XRs.of (by simpa using hs) fun j d hd => by simpa using hc j d hd) (fun i h1 h2 => hC i (by omega) h2) (.inr ⟨hC _ (by omega) (by omega), .inl (by omega)⟩)
          refine ⟨g', ⟨c1, c2, fun i hi => ?_, c6, c7, c8⟩, ?_⟩
          · rcases c3 i hi with h | h | h
            · exact .inl h
            · exact .inr (by omega)
            · exact .inr (by omega)
          · rw [← c5]; exact .loc _ _ c4
      | sl sz n get p =>
        have hk := hx.isSl
        cases p with
        | own E =>
          cases hx with
          | kr _ _ h => cases h
          | own _ _ _ _ _ h ho =>
            have hC' : ¬ g.C (4 * k + 1) := hC _ (by omega) (by show 4 * k + 1 < 4 * (k + 1); omega)
            obtain ⟨g', b1, b2, b3, b4, _, b6, b7⟩ := hr.name hC' 0 r
            have hown : Own w0 tb g' w E (g'.ρ (4 * k + 1)) := by
              rw [b6]
              rcases ho with h0 | ⟨b, n', cap, cur, ti, e1, e2, e3, e4, e5, e6, e7⟩
              · exact .inl h0
              · exact .inr ⟨b, n', cap, cur, ti, e1, (hL b (by rw [e1]; simp [Value.ownBlock])).1, e2, e3, e4, e5, e6, by rw [b2]; exact e7⟩
            have hf : ∀ b, r.ownBlock = some b → Free m g' b := fun b hb => ((hL b (by rw [hb]; simp)).2).named hr b1
            have ht := b7.addTok b4 hown (fun i c T hi _ e => by rw [b6] at e; exact (hf _ e).1 i c T hi rfl) (fun q E' b hq _ hb e => by rw [b6] at e; exact (hf _ e).2.1 q E' hq hb)
            have hlk : ∀ j, look ([(4 * k + 1, .tok E)] ++ m) j = if 4 * k + 1 = j then some (.tok E) else look m j := fun j => by rw [List.cons_append, look_cons, List.nil_append]
            refine ⟨g', ⟨b1, b2, fun i hi => ?_, ht.congr hlk, fun b hb hf => ?_, fun q x hq hx => by
              have hq : look ([(4 * k + 1, .tok E)] ++ m) q = some x := hq
              rw [hlk] at hq
              split at hq
              · cases hq; exact absurd rfl hx
              · exact hq⟩, .sl _ _ _ _ _ (by rw [b2]; exact hk) ⟨b4, b6.symm⟩⟩
            · rcases b3 i hi with h | h
              · exact .inl h
              · refine .inr ⟨by omega, ?_⟩
                show i < 4 * (k + 1)
                omega
            · have hf2 := hf.named hr b1
              refine ⟨fun i c' T' hi => ?_, fun q E' hq => ?_, fun i x' hi hB => ?_⟩
              · have hi : look ([(4 * k + 1, .tok E)] ++ m) i = some (.cells c' T') := hi
                rw [hlk] at hi
                split at hi
                · cases hi
                · exact hf2.1 i c' T' hi
              · have hq : look ([(4 * k + 1, .tok E)] ++ m) q = some (.tok E') := hq
                rw [hlk] at hq
                split at hq
                · rename_i e; rw [← e, b6]
                  intro e'
                  exact hb (by rw [e']; simp)
                · exact hf2.2.1 q E' hq
              · have hi : look ([(4 * k + 1, .tok E)] ++ m) i = some x' := hi
                rw [hlk] at hi
                split at hi
                · cases hi; cases hB
                · exact hf2.2.2 i x' hi hB
        | none => exact ⟨g, Took.refl hr k L, .kr _ _ hk⟩
        | nil E => exact ⟨g, Took.refl hr k L, .kr _ _ hk⟩
        | tok q => exact ⟨g, Took.refl hr k L, .kr _ _ hk⟩
        | nn => exact ⟨g, Took.refl hr k L, .kr _ _ hk⟩
        | nl => exact ⟨g, Took.refl hr k L, .kr _ _ hk⟩
      | agg l =>
        obtain ⟨cs, rfl, hs, h1, hxl⟩ := hx.isAgg
        obtain ⟨g', T1, e1, v1⟩ := inL_ok (fun _ _ _ _ => trivial) ih l k cs.toList L m g trivial hxl hr hnd hL hC
        exact ⟨g', T1, .agg _ cs (by rw [e1]; exact hs) (fun i hi => h1 i (by rw [← e1]; exact hi)) (fun i d hd => by simpa using v1 i d hd)⟩
      | tup l =>
        obtain ⟨cs, rfl, hs, hxl⟩ := hx.isTup
        obtain ⟨g', T1, e1, v1⟩ := inL_ok (fun _ _ _ _ => trivial) ih l k cs.toList L m g trivial hxl hr hnd hL hC
        exact ⟨g', T1, .tup _ cs (by rw [e1]; exact hs) (fun i d hd => by simpa using v1 i d hd)⟩
      | clo i l =>
        obtain ⟨cs, rfl, hs, hxl⟩ := hx.isClo
        obtain ⟨g', T1, e1, v1⟩ := inL_ok (fun _ _ _ _ => trivial) ih l k cs.toList L m g trivial hxl hr hnd hL hC
        exact ⟨g', T1, .clo _ _ cs (by rw [e1]; exact hs) (fun i d hd => by simpa using v1 i d hd)⟩
      | row sz n T c =>
        cases hx with
        | kr _ _ h => cases h
        | row _ _ _ _ b cs hh hs h1 hK hc =>
          have hC' : ¬ g.C (4 * k + 2) := hC _ (by omega) (by show 4 * k + 2 < 4 * (k + 1); omega)
          obtain ⟨g', c1, c2, c3, c4, c5, c6, c7, c8⟩ := row_in (id := 4 * k + 2) hr (hL b (by simp)) hh hs h1 hK hc (.inr hC')
          refine ⟨g', ⟨c1, c2, fun i hi => ?_, c6, c7, c8⟩, ?_⟩
          · rcases c3 i hi with h | h
            · exact .inl h
            · refine .inr ⟨by omega, ?_⟩
              show i < 4 * (k + 1)
              omega
          · have := VR.slm (g := g') (w := w) sz (4 * k + 2) 0 n c4
            rw [c5, Nat.zero_mul] at this
            exact this
      | mpx T n get =>
        cases hx with
        | kr _ _ h => cases h
        | mpx _ _ _ b es clock hh hM =>
          have hC' : ¬ g.C (4 * k + 3) := hC _ (by omega) (by show 4 * k + 3 < 4 * (k + 1); omega)
          obtain ⟨g', c1, c2, c3, c4, c5, c6, c7, c8⟩ := map_in (id := 4 * k + 3) hr (hL b (by simp)) hh hM (.inr hC')
          refine ⟨g', ⟨c1, c2, fun i hi => ?_, c6, c7, c8⟩, ?_⟩
          · rcases c3 i hi with h | h
            · exact .inl h
            · refine .inr ⟨by omega, ?_⟩
              show i < 4 * (k + 1)
              omega
          · have := VR.mp (g := g') (w := w) (4 * k + 3) c4
            rw [c5] at this
            exact this
      | ifc T d =>
        cases hx with
        | kr _ _ h => cases h
        | ifc _ _ r L h =>
          obtain ⟨g', T1, v1⟩ := ih.2 k d r L m g trivial h hr hnd hL hC
          exact ⟨g', T1, .ifc _ _ _ v1⟩
      | v x => exact ⟨g, Took.refl hr k L, .kr _ _ hx.isV⟩
      | ref l => exact ⟨g, Took.refl hr k L, .kr _ _ hx.isRef⟩
      | _ => exact ⟨g, Took.refl hr k L, .no _⟩
end
end Go.Ev
