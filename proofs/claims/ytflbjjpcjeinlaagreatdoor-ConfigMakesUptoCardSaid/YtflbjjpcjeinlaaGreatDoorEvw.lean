/- Maps: the state behind an operation. -/
import Derived.Test.YtflbjjpcjeinlaaGreatDoorEvu
namespace Go.Ev
open Go Go.RowKit

section
variable {P : Program} {w0 : W0} {K0 : Nat → Nat → Prop} {tb : Tb} {env : Env} {t : List D} {lk lk' : Nat → Option Bx} {m : Mem} {g : G} {a : Act} {w : World}

def isCells : Obj → Bool
  | .cells .. => true
  | _ => false
theorem putB_other {b x : Nat} {o o' : Obj} (hb : w.heap[b]? = some o') (h : x ≠ b) : (putB w b o).heap[x]? = w.heap[x]? := by
  have hlt := (Array.getElem?_eq_some_iff.1 hb).1
  simp [putB, Array.getElem?_setIfInBounds_ne (Ne.symm h)]
theorem putB_same {b : Nat} {o o' : Obj} (hb : w.heap[b]? = some o') : (putB w b o).heap[b]? = some o := by
  have hlt := (Array.getElem?_eq_some_iff.1 hb).1
  simp [putB, hlt]
theorem putB_size {b : Nat} {o : Obj} : (putB w b o).heap.size = w.heap.size := by simp [putB]
theorem cell_putB {b : Nat} {o o' : Obj} (hb : w.heap[b]? = some o') (h1 : isCells o' = false) (h2 : isCells o = false) (x : Addr) : (putB w b o).cell? x = w.cell? x := by
  unfold World.cell?
  by_cases e : x.block = b
  · rw [e, putB_same hb, hb]
    cases o <;> cases o' <;> first | rfl | (cases h1; done) | (cases h2; done)
  · rw [putB_other hb e]
/-- A block that is no row gets another content. -/
theorem RS.putB (h : RS w0 K0 tb t lk g a w) {b : Nat} {o o' : Obj} (hb : w.heap[b]? = some o') (h1 : isCells o' = false) (h2 : isCells o = false) (hm : w0.mine b)
    (hl : ∀ i b, isMp b = false → lk' i = some b → lk i = some b ∨ (b = .dead ∧ g.C i)) (rm : RM w0 tb lk' g (putB w b o)) : Ext g g w (putB w b o) ∧ RS w0 K0 tb t lk' g a (putB w b o) := by
  have hcell := cell_putB hb h1 h2
  have he : Ext g g w (Go.Ev.putB w b o) := ⟨fun _ h => h, fun _ _ => rfl, fun _ _ => rfl, fun b o hk => ⟨hk, hcell _⟩⟩
  have hne : ∀ {x : Nat} {cs T f}, w.heap[x]? = some (.cells cs T f) → x ≠ b := fun hx e => by
    subst e
    rw [hb] at hx
    cases hx
    cases h1
  have hc : ∀ i c T, lk' i = some (.cells c T) → lk i = some (.cells c T) := fun i c T hi => (hl i _ rfl hi).elim id fun h => by cases h.1
  have ht : ∀ i E, lk' i = some (.tok E) → lk i = some (.tok E) := fun i E hi => (hl i _ rfl hi).elim id fun h => by cases h.1
  refine ⟨he, ?_⟩
  exact { len := h.len, tm := fun i d hd => (h.tm i d hd).mono he, df := h.df,
          bx := fun i c T hi => by
            obtain ⟨g1, g2, g3, cs, g4, g5, g6, g7⟩ := h.bx i c T (hc i c T hi)
            exact ⟨g1, g2, g3, cs, (putB_other hb (hne g4)).trans g4, g5, g6, fun j d hd => (g7 j d hd).mono he⟩
          bd := fun i j c T c' T' hi hj => h.bd i j c T c' T' (hc i c T hi) (hc j c' T' hj),
          tk := fun q E hq => by
            obtain ⟨g1, g2⟩ := h.tk q E (ht q E hq)
            refine ⟨g1, ?_⟩
            rcases g2 with g2 | ⟨x, n, cap, cur, ti, e1, e2, e3, e4⟩
            · exact .inl g2
            · exact .inr ⟨x, n, cap, cur, ti, e1, e2, (putB_other hb (hne e3)).trans e3, e4⟩
          td := fun q E i c T hq hi => h.td q E i c T (ht q E hq) (hc i c T hi), tt := fun q q' E E' b hq hq' => h.tt q q' E E' b (ht q E hq) (ht q' E' hq'),
          dd := fun i hi => (hl i _ rfl hi).elim (h.dd i) fun h => h.2, kb := fun x o hk => by rw [putB_size]; exact h.kb x o hk, k0 := h.k0, k1 := h.k1, kv := fun x o hk => (hcell _).trans (h.kv x o hk), ar := h.ar,
          ext := ⟨h.ext.os, h.ext.tape, h.ext.output, by rw [putB_size]; exact h.ext.size, fun k hk hF => (putB_other hb (by
            rcases hm with hm | hm
            · rintro rfl; exact hF hm
            · omega)).trans (h.ext.block k hk hF)⟩, rm := rm }
/-! What is struck out when a map changes. -/
/-- A map of another content. -/
theorem RS.mapSet (h : RS w0 K0 tb t (look m) g a w) {i n n' : Nat} {T : TypeId} {get get' : Nat → List D} {ws : List Nat} (hi : look m i = some (.map T n get ws)) {es' : Array MapEntry} {clock' : Nat} (hM : MapC tb T es' clock' n' get') :
    Ext g g w (Go.Ev.putB w (g.σ i) (.map es' clock')) ∧ RS w0 K0 tb t (look ((i, .map T n' get' []) :: killW m ws ++ m)) g a (Go.Ev.putB w (g.σ i) (.map es' clock')) := by
  obtain ⟨hC, hws, hmine, es, clock, hb, _⟩ := h.rm.mp i T n get ws hi
  have hlk : ∀ q, look ((i, .map T n' get' []) :: killW m ws ++ m) q = if i = q then some (.map T n' get' []) else if q ∈ (ws.filter fun q => (look m q).isSome) then some .dead else look m q := fun q => by
    rw [List.cons_append, look_cons, killW, look_dead]
  have hleft : ∀ q b, isMp b = true → look ((i, .map T n' get' []) :: killW m ws ++ m) q = some b → (i = q ∧ b = .map T n' get' []) ∨ (i ≠ q ∧ look m q = some b ∧ q ∉ ws) := fun q b hm hq => by
    rw [hlk] at hq
    by_cases e : i = q
    · rw [if_pos e] at hq; cases hq; exact .inl ⟨e, rfl⟩
    · rw [if_neg e] at hq
      split at hq
      · cases hq; cases hm
      · rename_i hL
        refine .inr ⟨e, hq, fun hw => hL ?_⟩
        rw [List.mem_filter, hq]
        exact ⟨hw, rfl⟩
  have hheap : ∀ q b, isBl b = true → look m q = some b → i ≠ q → g.σ q ≠ g.σ i := fun q b hB hq hne e => by
    cases b with
    | map T1 n1 g1 ws1 => exact hne (h.rm.md i q T n get ws T1 n1 g1 ws1 hi hq e.symm)
    | iter j sn =>
      obtain ⟨_, _, _, b, s, se, l, h1, _⟩ := h.rm.it q j sn hq
      rw [e, hb] at h1
      cases h1
    | _ => cases hB
  refine h.putB hb rfl rfl hmine (fun q b hm hq => ?_) ?_
  · rw [hlk] at hq
    by_cases e : i = q
    · rw [if_pos e] at hq; cases hq; cases hm
    · rw [if_neg e] at hq
      split at hq
      · rename_i hL
        cases hq
        exact .inr ⟨rfl, hws q (List.mem_filter.1 hL).1⟩
      · exact .inl hq
  · refine { mp := fun q T1 n1 g1 ws1 hq => ?_, md := fun q q' T1 n1 g1 ws1 T2 n2 g2 ws2 hq hq' e => ?_, it := fun q j sn hq => ?_, id := fun q q' j j' sn sn' hq hq' e => ?_, st := fun q j kc hq => ?_ }
    · rcases hleft q _ rfl hq with ⟨rfl, e⟩ | ⟨hne, hq, _⟩
      · cases e
        exact ⟨hC, fun q hq => (by cases hq), hmine, es', clock', putB_same hb, hM⟩
      · obtain ⟨c1, c1', c2, es1, cl1, c3, c4⟩ := h.rm.mp q T1 n1 g1 ws1 hq
        exact ⟨c1, c1', c2, es1, cl1, (putB_other hb (hheap q _ rfl hq hne)).trans c3, c4⟩
    · rcases hleft q _ rfl hq with ⟨rfl, e1⟩ | ⟨hne, hq, _⟩ <;> rcases hleft q' _ rfl hq' with ⟨rfl, e2⟩ | ⟨hne', hq', _⟩
      · rfl
      · exact absurd e.symm (hheap q' _ rfl hq' hne')
      · exact absurd e (hheap q _ rfl hq hne)
      · exact h.rm.md q q' T1 n1 g1 ws1 T2 n2 g2 ws2 hq hq' e
    · rcases hleft q _ rfl hq with ⟨_, e⟩ | ⟨hne, hq, hL⟩
      · cases e
      · obtain ⟨c1, c1', c2, b, s, se, l, c3, c4⟩ := h.rm.it q j sn hq
        refine ⟨c1, c1', c2, b, s, se, l, (putB_other hb (hheap q _ rfl hq hne)).trans c3, fun T1 n1 g1 ws1 hj => ?_⟩
        have hji : i ≠ j := by
          rintro rfl
          exact hL (c4 T n get ws hi).1
        rcases hleft j _ rfl hj with ⟨e, _⟩ | ⟨_, hj, _⟩
        · exact absurd e hji
        · obtain ⟨d0, d1, es1, cl1, d2, d3⟩ := c4 T1 n1 g1 ws1 hj
          exact ⟨d0, d1, es1, cl1, (putB_other hb (hheap j _ rfl hj hji)).trans d2, d3⟩
    · rcases hleft q _ rfl hq with ⟨_, e1⟩ | ⟨_, hq, _⟩
      · cases e1
      rcases hleft q' _ rfl hq' with ⟨_, e1⟩ | ⟨_, hq', _⟩
      · cases e1
      exact h.rm.id q q' j j' sn sn' hq hq' e
    · rcases hleft q _ rfl hq with ⟨_, e⟩ | ⟨hne, hq, hL⟩
      · cases e
      · obtain ⟨c1, c1', c2⟩ := h.rm.st q j kc hq
        refine ⟨c1, c1', fun T1 n1 g1 ws1 hj => ?_⟩
        have hji : i ≠ j := by
          rintro rfl
          exact hL (c2 T n get ws hi).1
        rcases hleft j _ rfl hj with ⟨e, _⟩ | ⟨_, hj, _⟩
        · exact absurd e hji
        · obtain ⟨d0, es1, cl1, j1, x1, d1, d2⟩ := c2 T1 n1 g1 ws1 hj
          exact ⟨d0, es1, cl1, j1, x1, (putB_other hb (hheap j _ rfl hj hji)).trans d1, d2⟩
/-- A new block that is no row, and what is said of it. -/
theorem RS.allocM (h : RS w0 K0 tb t lk g a w) {id : Nat} (hid : ¬ g.C id) (o : Obj) :
    ∃ g' : G, Ext g g' w (w.alloc o) ∧ (∀ i, g'.C i → g.C i ∨ i = id) ∧ g'.C id ∧ g'.σ id = w.heap.size ∧ RS w0 K0 tb t lk g' a (w.alloc o) ∧ (w.alloc o).heap[w.heap.size]? = some o ∧ g'.K = g.K := by
  let g' : G := ⟨fun i => g.C i ∨ i = id, fun i => if i = id then w.heap.size else g.σ i, g.ρ, g.K⟩
  have hb : Below w.heap.size w (w.alloc o) := (Below.refl _ _).alloc (Nat.le_refl _) _
  have he : Ext g g' w (w.alloc o) := ⟨fun i hi => .inl hi, fun i hi => by
    have : i ≠ id := fun e => hid (e ▸ hi)
    simp [g', this], fun _ _ => rfl, fun b o hk => ⟨hk, cell_of_below hb (h.kb b o hk)⟩⟩
  have hg := h.grow hb he (fun b o hk => .inl hk) (fun b o hk => by have := h.kb b o hk; simp; omega)
  exact ⟨g', he, fun i hi => hi, .inr rfl, by simp [g'], hg, (MapKept.heap_alloc w _).1, rfl⟩
/-- One more looks at a map. -/
theorem RM.watch (h : RM w0 tb lk g w) {id i n : Nat} {T : TypeId} {get : Nat → List D} {ws : List Nat} (hi : lk i = some (.map T n get ws)) (hC : g.C id) : RM w0 tb (fun j => if i = j then some (.map T n get (id :: ws)) else lk j) g w := by
  have left : ∀ q b, (if i = q then some (Bx.map T n get (id :: ws)) else lk q) = some b → (i = q ∧ b = .map T n get (id :: ws)) ∨ (i ≠ q ∧ lk q = some b) := fun q b hq => by
    by_cases e : i = q
    · rw [if_pos e] at hq; cases hq; exact .inl ⟨e, rfl⟩
    · rw [if_neg e] at hq; exact .inr ⟨e, hq⟩
  refine { mp := fun q T1 n1 g1 ws1 hq => ?_, md := fun q q' T1 n1 g1 ws1 T2 n2 g2 ws2 hq hq' e => ?_, it := fun q j sn hq => ?_, id := fun q q' j j' sn sn' hq hq' e => ?_, st := fun q j kc hq => ?_ }
  · rcases left q _ hq with ⟨rfl, e⟩ | ⟨_, hq⟩
    · cases e
      obtain ⟨c1, c2, c3⟩ := h.mp i T n get ws hi
      exact ⟨c1, fun q hq => (by rcases List.mem_cons.1 hq with rfl | hq; · exact hC
                                 · exact c2 q hq), c3⟩
    · exact h.mp q T1 n1 g1 ws1 hq
  · rcases left q _ hq with ⟨rfl, _⟩ | ⟨hne, hq⟩ <;> rcases left q' _ hq' with ⟨rfl, _⟩ | ⟨hne', hq'⟩
    · rfl
    · exact h.md _ _ _ _ _ _ _ _ _ _ hi hq' e
    · exact h.md _ _ _ _ _ _ _ _ _ _ hq hi e
    · exact h.md q q' T1 n1 g1 ws1 T2 n2 g2 ws2 hq hq' e
  · rcases left q _ hq with ⟨_, e⟩ | ⟨_, hq⟩
    · cases e
    · obtain ⟨c1, c1', c2, b, s, se, l, c3, c4⟩ := h.it q j sn hq
      refine ⟨c1, c1', c2, b, s, se, l, c3, fun T1 n1 g1 ws1 hj => ?_⟩
      rcases left j _ hj with ⟨rfl, e⟩ | ⟨_, hj⟩
      · cases e
        obtain ⟨d0, d1⟩ := c4 T n get ws hi
        exact ⟨List.mem_cons_of_mem _ d0, d1⟩
      · exact c4 T1 n1 g1 ws1 hj
  · rcases left q _ hq with ⟨_, e1⟩ | ⟨_, hq⟩
    · cases e1
    rcases left q' _ hq' with ⟨_, e1⟩ | ⟨_, hq'⟩
    · cases e1
    exact h.id q q' j j' sn sn' hq hq' e
  · rcases left q _ hq with ⟨_, e⟩ | ⟨_, hq⟩
    · cases e
    · obtain ⟨c1, c1', c2⟩ := h.st q j kc hq
      refine ⟨c1, c1', fun T1 n1 g1 ws1 hj => ?_⟩
      rcases left j _ hj with ⟨rfl, e⟩ | ⟨_, hj⟩
      · cases e
        obtain ⟨d0, d1⟩ := c2 T n get ws hi
        exact ⟨List.mem_cons_of_mem _ d0, d1⟩
      · exact c2 T1 n1 g1 ws1 hj
/-- .. on an iteration. -/
theorem RM.addIt (h : RM w0 tb lk g w) {id i : Nat} {sn : List Nat} (hC : g.C id) (hi : g.C i) (hm : w0.mine (g.σ id)) {b since last : Nat} {seen : Array Nat} (hb : w.heap[g.σ id]? = some (.mapIter (some b) since seen last)) (hne : i ≠ id)
    (hM : ∀ T n get ws, lk i = some (.map T n get ws) → id ∈ ws ∧ b = g.σ i ∧ ∃ es clock, w.heap[g.σ i]? = some (.map es clock) ∧ ItOk es clock since last seen sn)
    (hd : ∀ q b, isBl b = true → lk q = some b → q ≠ id → g.σ q ≠ g.σ id) : RM w0 tb (fun j => if id = j then some (.iter i sn) else lk j) g w := by
  have left : ∀ q b, (if id = q then some (Bx.iter i sn) else lk q) = some b → (id = q ∧ b = .iter i sn) ∨ (id ≠ q ∧ lk q = some b) := fun q b hq => by
    by_cases e : id = q
    · rw [if_pos e] at hq; cases hq; exact .inl ⟨e, rfl⟩
    · rw [if_neg e] at hq; exact .inr ⟨e, hq⟩
  refine { mp := fun q T1 n1 g1 ws1 hq => ?_, md := fun q q' T1 n1 g1 ws1 T2 n2 g2 ws2 hq hq' e => ?_, it := fun q j sn1 hq => ?_, id := fun q q' j j' sn sn' hq hq' e => ?_, st := fun q j kc hq => ?_ }
  · rcases left q _ hq with ⟨_, e⟩ | ⟨_, hq⟩
    · cases e
    · exact h.mp q T1 n1 g1 ws1 hq
  · rcases left q _ hq with ⟨_, e1⟩ | ⟨_, hq⟩
    · cases e1
    rcases left q' _ hq' with ⟨_, e1⟩ | ⟨_, hq'⟩
    · cases e1
    exact h.md q q' T1 n1 g1 ws1 T2 n2 g2 ws2 hq hq' e
  · rcases left q _ hq with ⟨rfl, e⟩ | ⟨_, hq⟩
    · injection e with e1 e2
      subst e1 e2
      refine ⟨hC, hi, hm, b, since, seen, last, hb, fun T1 n1 g1 ws1 hj => ?_⟩
      rcases left _ _ hj with ⟨e, _⟩ | ⟨_, hj⟩
      · exact absurd e.symm hne
      · exact hM T1 n1 g1 ws1 hj
    · obtain ⟨c1, c1', c2, b, s, se, l, c3, c4⟩ := h.it q j sn1 hq
      refine ⟨c1, c1', c2, b, s, se, l, c3, fun T1 n1 g1 ws1 hj => ?_⟩
      rcases left j _ hj with ⟨_, e⟩ | ⟨_, hj⟩
      · cases e
      · exact c4 T1 n1 g1 ws1 hj
  · rcases left q _ hq with ⟨rfl, e1⟩ | ⟨hne1, hq⟩ <;> rcases left q' _ hq' with ⟨rfl, e2⟩ | ⟨hne2, hq'⟩
    · rfl
    · exact absurd e.symm (hd q' _ rfl hq' (Ne.symm hne2))
    · exact absurd e (hd q _ rfl hq (Ne.symm hne1))
    · exact h.id q q' j j' sn sn' hq hq' e
  · rcases left q _ hq with ⟨_, e⟩ | ⟨_, hq⟩
    · cases e
    · obtain ⟨c1, c1', c2⟩ := h.st q j kc hq
      refine ⟨c1, c1', fun T1 n1 g1 ws1 hj => ?_⟩
      rcases left j _ hj with ⟨_, e⟩ | ⟨_, hj⟩
      · cases e
      · exact c2 T1 n1 g1 ws1 hj
/-- .. on a stamp. -/
theorem RM.addSt (h : RM w0 tb lk g w) {id i : Nat} {kc : List D} (hC : g.C id) (hi : g.C i) (hne : i ≠ id)
    (hM : ∀ T n get ws, lk i = some (.map T n get ws) → id ∈ ws ∧ ∃ es clock j x, w.heap[g.σ i]? = some (.map es clock) ∧ es[j]? = some x ∧ g.ρ id = .int .i64 x.born ∧ atM n get kc = j ∧ ∃ vc, get j = kc ++ vc) : RM w0 tb (fun j => if id = j then some (.stamp i kc) else lk j) g w := by
  have left : ∀ q b, (if id = q then some (Bx.stamp i kc) else lk q) = some b → (id = q ∧ b = .stamp i kc) ∨ (id ≠ q ∧ lk q = some b) := fun q b hq => by
    by_cases e : id = q
    · rw [if_pos e] at hq; cases hq; exact .inl ⟨e, rfl⟩
    · rw [if_neg e] at hq; exact .inr ⟨e, hq⟩
  refine { mp := fun q T1 n1 g1 ws1 hq => ?_, md := fun q q' T1 n1 g1 ws1 T2 n2 g2 ws2 hq hq' e => ?_, it := fun q j sn hq => ?_, id := fun q q' j j' sn sn' hq hq' e => ?_, st := fun q j kc1 hq => ?_ }
  · rcases left q _ hq with ⟨_, e⟩ | ⟨_, hq⟩
    · cases e
    · exact h.mp q T1 n1 g1 ws1 hq
  · rcases left q _ hq with ⟨_, e1⟩ | ⟨_, hq⟩
    · cases e1
    rcases left q' _ hq' with ⟨_, e1⟩ | ⟨_, hq'⟩
    · cases e1
    exact h.md q q' T1 n1 g1 ws1 T2 n2 g2 ws2 hq hq' e
  · rcases left q _ hq with ⟨_, e⟩ | ⟨_, hq⟩
    · cases e
    · obtain ⟨c1, c1', c2, b, s, se, l, c3, c4⟩ := h.it q j sn hq
      refine ⟨c1, c1', c2, b, s, se, l, c3, fun T1 n1 g1 ws1 hj => ?_⟩
      rcases left j _ hj with ⟨_, e⟩ | ⟨_, hj⟩
      · cases e
      · exact c4 T1 n1 g1 ws1 hj
  · rcases left q _ hq with ⟨_, e1⟩ | ⟨_, hq⟩
    · cases e1
    rcases left q' _ hq' with ⟨_, e1⟩ | ⟨_, hq'⟩
    · cases e1
    exact h.id q q' j j' sn sn' hq hq' e
  · rcases left q _ hq with ⟨rfl, e⟩ | ⟨_, hq⟩
    · injection e with e1 e2
      subst e1 e2
      refine ⟨hC, hi, fun T1 n1 g1 ws1 hj => ?_⟩
      rcases left _ _ hj with ⟨e, _⟩ | ⟨_, hj⟩
      · exact absurd e.symm hne
      · exact hM T1 n1 g1 ws1 hj
    · obtain ⟨c1, c1', c2⟩ := h.st q j kc1 hq
      refine ⟨c1, c1', fun T1 n1 g1 ws1 hj => ?_⟩
      rcases left j _ hj with ⟨_, e⟩ | ⟨_, hj⟩
      · cases e
      · exact c2 T1 n1 g1 ws1 hj
/-- A place that stands for a value. -/
theorem RS.addC (h : RS w0 K0 tb t lk g a w) {id : Nat} (hid : ¬ g.C id) (r : Value) :
    ∃ g' : G, Ext g g' w w ∧ (∀ i, g'.C i → g.C i ∨ i = id) ∧ g'.C id ∧ g'.ρ id = r ∧ RS w0 K0 tb t lk g' a w ∧ g'.σ = g.σ := by
  let g' : G := ⟨fun i => g.C i ∨ i = id, g.σ, fun i => if i = id then r else g.ρ i, g.K⟩
  have he : Ext g g' w w := ⟨fun i hi => .inl hi, fun _ _ => rfl, fun i hi => by
    have : i ≠ id := fun e => hid (e ▸ hi)
    simp [g', this], fun b o hk => ⟨hk, rfl⟩⟩
  exact ⟨g', he, fun i hi => hi, .inr rfl, by simp [g'], h.grow (Below.refl _ _) he (fun b o hk => .inl hk) h.kb, rfl⟩
end
end Go.Ev
