/- Texts cut, split, joined, looked up: the library's functions. -/
import Derived.Test.YtflbjjpcjeinlaaGreatDoorNd
namespace Go.Ev
open Go Go.RowKit
/-- A new row of kept cells is given back. -/
theorem KR.row {K : Nat → Nat → Prop} {w : World} {T : TypeId} {cs : Array Value} {sz n : Nat} {get : Nat → List D} (hK : ∀ b o, K b o → b < w.heap.size) (hn : n * sz ≤ cs.size) (cap : Nat) (hcap : n ≤ cap) (hl : ∀ i, i < n → (get i).length = sz)
    (h1 : ∀ i k, i < n → k < sz → oneC (cs.getD (i * sz + k) undef) = true) (hc : ∀ i k d, i < n → (get i)[k]? = some d → KR K w d (cs.getD (i * sz + k) undef)) :
    ∃ K' : Nat → Nat → Prop, (∀ b o, K b o → K' b o) ∧ (∀ b o, K' b o → K b o ∨ w.heap.size ≤ b) ∧ (∀ b o, K' b o → b < (w.alloc (.cells cs T)).heap.size) ∧
      KR K' (w.alloc (.cells cs T)) (.sl sz n get .none) (.slice (some ⟨w.heap.size, 0, none⟩) n cap) ∧ Below w.heap.size w (w.alloc (.cells cs T)) := by
  have hb : Below w.heap.size w (w.alloc (.cells cs T)) := (Go.RowKit.Below.refl _ w).alloc (Nat.le_refl _) _
  have hsz : (w.alloc (.cells cs T)).heap.size = w.heap.size + 1 := by simp
  have hh : (w.alloc (.cells cs T)).heap[w.heap.size]? = some (.cells cs T (0, 0)) := by
    show (w.heap.push _)[w.heap.size]? = _
    simp
  refine ⟨fun b o => K b o ∨ (b = w.heap.size ∧ o < n * sz), fun b o h => .inl h, fun b o h => h.imp (fun h => h) fun h => by omega, fun b o h => ?_, ?_, hb⟩
  · rw [hsz]; rcases h with h | h
    · have := hK b o h; omega
    · omega
  · have hlt : ∀ i k, i < n → k < sz → i * sz + k < n * sz := fun i k hi hk => by
      calc i * sz + k < i * sz + sz := by omega
        _ = (i + 1) * sz := by rw [Nat.add_mul]; simp
        _ ≤ n * sz := Nat.mul_le_mul_right _ (by omega)
    refine .sl sz n get w.heap.size 0 cap (fun i k => cs.getD (i * sz + k) undef) hcap hl (fun i k hi hk => ⟨.inr ⟨rfl, by have := hlt i k hi hk; omega⟩, ?_, h1 i k hi hk⟩) (fun i k d hi hd => (hc i k d hi hd).mono fun b o h => ⟨.inl h, cell_of_below hb (hK b o h)⟩)
    rw [cell_of_row _ _ _ cs T _ hh, Nat.zero_add]
    have := hlt i k hi hk
    simp [show i * sz + k < cs.size by omega]
/-- A list of texts that goes over: its cells. -/
theorem KR.texts {K : Nat → Nat → Prop} {w : World} {l : List ByteArray} {r : Value} (h : KR K w (Go.Cb.cTs.enc l) r) (hK : ∀ b o, K b o → b < w.heap.size) :
    (∃ b off cap, r = .slice (some ⟨b, off, none⟩) l.length cap ∧ b < w.heap.size ∧ l.length ≤ cap ∧ 0 < l.length ∧ ∀ j, j < l.length → w.cell? ⟨b, off + j, none⟩ = some (.string (l.getD j ⟨#[]⟩))) ∨ (l = [] ∧ ∃ a cap, r = .slice a 0 cap) := by
  have h : KR K w (.sl 1 l.length (fun i => Go.Ev.sT.enc (l.getD i ⟨#[]⟩)) .none) r := h
  generalize hn : l.length = n at h
  cases h with
  | sl0 _ _ a cap => exact .inr ⟨List.eq_nil_of_length_eq_zero hn, a, cap, rfl⟩
  | sl _ _ _ b off cap f hcap hl hk hc =>
    rcases Nat.eq_zero_or_pos n with h0 | h0
    · subst h0; exact .inr ⟨List.eq_nil_of_length_eq_zero hn, _, _, rfl⟩
    · refine .inl ⟨b, off, cap, rfl, hK _ _ (hk 0 0 h0 (by omega)).1, hcap, h0, fun j hj => ?_⟩
      have h2 := (hk j 0 hj (by omega)).2.1
      have h3 := hc j 0 (.v (.string (l.getD j ⟨#[]⟩))) hj rfl
      have h4 : f j 0 = .string (l.getD j ⟨#[]⟩) := by generalize f j 0 = v at h3 ⊢; cases h3; rfl
      rw [h4] at h2
      simpa using h2
end Go.Ev
namespace Go.Cb
open Go.Ev
theorem bytes_eq {a b : ByteArray} (h : a.data.toList = b.data.toList) : a = b := by
  cases a; cases b
  simp only [Array.toList_inj] at h
  rw [h]
theorem splitB_size (sep : ByteArray) (save : Nat) : ∀ (k : Nat) (s : ByteArray), ∀ x ∈ Lib.splitB sep save k s, x.size ≤ s.size
  | 0, s, x, h => by simp [Lib.splitB] at h; subst h; exact Nat.le_refl _
  | k + 1, s, x, h => by
    unfold Lib.splitB at h
    split at h
    · simp at h; subst h; exact Nat.le_refl _
    · rcases List.mem_cons.1 h with rfl | h
      · simp; omega
      · have := splitB_size sep save k _ x h
        simp at this; omega
def splitS (s sep : ByteArray) : List ByteArray := Lib.splitB sep 0 (Lib.countB s sep) s
def cutA (s sep : ByteArray) : ByteArray := ⟨(Lib.cut s.data.toList sep.data.toList).1.toArray⟩
def cutZ (s sep : ByteArray) : ByteArray := ⟨(Lib.cut s.data.toList sep.data.toList).2.1.toArray⟩
def cutOk (s sep : ByteArray) : Bool := (Lib.cut s.data.toList sep.data.toList).2.2
def joinS (l : List ByteArray) (sep : ByteArray) : ByteArray := ⟨(Lib.join (l.map (·.data.toList)) sep.data.toList).toArray⟩
theorem cut_len (s sep : List UInt8) : (Lib.cut s sep).1.length ≤ s.length ∧ (Lib.cut s sep).2.1.length ≤ s.length := by
  unfold Lib.cut
  split
  · refine ⟨?_, ?_⟩
    · show (s.take _).length ≤ _; simp; omega
    · show (s.drop _).length ≤ _; simp
  · exact ⟨Nat.le_refl _, by simp⟩
end Go.Cb
namespace Go.Proofs.YtflbjjpcjeinlaaGreatDoor
open Go.Ev Go.Cb
def e_Split : Fe
  | [.v (.string s), .v (.string sep)] => some (decide (1 ≤ sep.size), cTs.enc (splitS s sep))
  | _ => none
theorem ok_Split : En 24 e_Split := ⟨callable Tryz.func24 (by kernel_rfl), fun args d he => by
  unfold e_Split at he
  split at he
  · rename_i s sep
    simp only [Option.some.injEq, Prod.mk.injEq, decide_eq_true_eq] at he
    obtain ⟨h1, rfl⟩ := he
    refine .str 0 rfl fun hs => ?_
    intro K w rs hgl hK hsz hrs
    have e0 := hrs 0 _ rfl
    have e1 := hrs 1 _ rfl
    match rs, hsz with
    | ⟨[r0, r1]⟩, _ =>
      simp at e0 e1
      have e0 : r0 = .string s := by cases e0; rfl
      have e1 : r1 = .string sep := by cases e1; rfl
      subst e0 e1
      obtain ⟨_, v, hv, m, rfl⟩ := hgl _ List.mem_cons_self
      have hlen := Lib.splitB_all sep h1 0 _ s rfl
      refine (Tryz.strings_Split s sep m w (by omega) hv h1).mono fun e w' ⟨h2, h3⟩ => ?_
      subst h2 h3
      obtain ⟨K', k1, k2, k3, k4, k5⟩ := KR.row (K := K) (w := w) (T := 9) (cs := ((Lib.splitB sep 0 (Lib.countB s sep) s).map Value.string).toArray) (sz := 1) (n := (splitS s sep).length) (get := fun i => [T ((splitS s sep).getD i noT)])
        hK (by simp [splitS]) (Lib.countB s sep + 1) (by unfold splitS; omega) (fun _ _ => rfl) (fun i k hi hk => by
          have : k = 0 := by omega
          subst this
          have hi' : i < (Lib.splitB sep 0 (Lib.countB s sep) s).length := hi
          simp [hi', oneC]) (fun i k d hi hd => by
          have hi' : i < (Lib.splitB sep 0 (Lib.countB s sep) s).length := hi
          cases k with
          | zero =>
            cases hd
            have e : (splitS s sep).getD i noT = (Lib.splitB sep 0 (Lib.countB s sep) s)[i] := by unfold splitS; simp [hi']
            rw [e]
            simp [hi']
            refine .v _ ?_
            have := splitB_size sep 0 _ s _ (List.getElem_mem hi')
            simp only [okV, decide_eq_true_eq]; omega
          | succ k => simp at hd)
      exact ⟨_, K', rfl, k1, k2, k3, (show (splitS s sep).length = Lib.countB s sep + 1 from hlen) ▸ k4, k5⟩
  · cases he⟩
def e_Cut : Fe
  | [.v (.string s), .v (.string sep)] => some (true, .tup [T (cutA s sep), T (cutZ s sep), B (cutOk s sep)])
  | _ => none
theorem ok_Cut : En 61 e_Cut := ⟨callable Tryz.func61 (by kernel_rfl), fun args d he => by
  unfold e_Cut at he
  split at he
  · rename_i s sep
    simp only [Option.some.injEq, Prod.mk.injEq, true_and] at he
    subst he
    refine .str 0 rfl fun hs => ?_
    intro K w rs hgl hK hsz hrs
    have e0 := hrs 0 _ rfl
    have e1 := hrs 1 _ rfl
    match rs, hsz with
    | ⟨[r0, r1]⟩, _ =>
      simp at e0 e1
      have e0 : r0 = .string s := by cases e0; rfl
      have e1 : r1 = .string sep := by cases e1; rfl
      subst e0 e1
      obtain ⟨_, v, hv, m, rfl⟩ := hgl _ List.mem_cons_self
      refine (Tryz.strings_Cut s sep m w (by omega) hv).mono fun e w' ⟨h2, k, h3⟩ => ?_
      subst h2 h3
      have hb : Go.RowKit.Below w.heap.size w (w.drewN k) := ⟨rfl, rfl, rfl, Nat.le_refl _, fun _ _ => rfl⟩
      obtain ⟨c1, c2⟩ := cut_len s.data.toList sep.data.toList
      have hlen : s.data.toList.length = s.size := Array.length_toList
      refine ⟨_, K, rfl, fun _ _ h => h, fun _ _ h => .inl h, fun b o h => Nat.lt_of_lt_of_le (hK b o h) hb.size, ?_, hb⟩
      refine .tup _ _ rfl fun i d hd => ?_
      match i with
      | 0 => simp at hd; subst hd; exact .v _ (decide_eq_true (show (List.toArray _).size ≤ _ by simp; omega))
      | 1 => simp at hd; subst hd; exact .v _ (decide_eq_true (show (List.toArray _).size ≤ _ by simp; omega))
      | 2 => simp at hd; subst hd; exact .v _ rfl
      | i + 3 => simp at hd
  · cases he⟩
abbrev e_Index : Fe := fn2C cTs cT (fun l _ => decide (l.length ≤ 4294967296)) fun l s => I (Lib.idxOfS l s)
theorem ok_Index : En 63 e_Index :=
  entry2C (callable Tryz.func63 (by kernel_rfl)) fun l s h => by
    have h : l.length ≤ 4294967296 := by simpa using h
    intro K w rs hgl hK hsz hrs
    have e0 := hrs 0 _ rfl
    have e1 := hrs 1 _ rfl
    match rs, hsz with
    | ⟨[r0, r1]⟩, _ =>
      simp only [List.getElem?_cons_zero, List.getElem?_cons_succ, Array.getD_eq_getD_getElem?, List.getElem?_toArray, Option.getD_some] at e0 e1
      have e1 : r1 = .string s := by cases e1; rfl
      subst e1
      have fin : ∀ (e : Ending) (w' : World), e = .returned (.int .i64 (Lib.idxOfS l s)) ∧ w' = w → ∃ r K', e = .returned r ∧ (∀ b o, K b o → K' b o) ∧ (∀ b o, K' b o → K b o ∨ w.heap.size ≤ b) ∧ (∀ b o, K' b o → b < w'.heap.size) ∧ KR K' w' (I (Lib.idxOfS l s)) r ∧ Go.RowKit.Below w.heap.size w w' := fun e w' ⟨h1, h2⟩ => by
        subst h1 h2
        exact ⟨_, K, rfl, fun _ _ h => h, fun _ _ h => .inl h, hK, .v _ rfl, Go.RowKit.Below.refl _ _⟩
      rcases e0.texts hK with ⟨b, off, cap, rfl, _, _, _, hc⟩ | ⟨rfl, a, cap, rfl⟩
      · have run := Tryz.slices_Index_string b off l.length cap l s w (Nat.le_refl _) (by omega) hc
        rw [List.take_length] at run
        exact run.mono fin
      · exact (Tryz.slices_Index_string_empty a cap s w).mono fin
abbrev e_Join : Fe := fn2C cTs cT (fun l s => decide (l.length ≤ 4294967296) && decide ((joinS l s).size ≤ 4294967280)) fun l s => T (joinS l s)
theorem ok_Join : En 38 e_Join :=
  entry2C (callable Tryz.func38 (by kernel_rfl)) fun l s h => by
    simp only [Bool.and_eq_true, decide_eq_true_eq] at h
    obtain ⟨h1, h2⟩ := h
    intro K w rs hgl hK hsz hrs
    have e0 := hrs 0 _ rfl
    have e1 := hrs 1 _ rfl
    match rs, hsz with
    | ⟨[r0, r1]⟩, _ =>
      simp only [List.getElem?_cons_zero, List.getElem?_cons_succ, Array.getD_eq_getD_getElem?, List.getElem?_toArray, Option.getD_some] at e0 e1
      have e1 : r1 = .string s := by cases e1; rfl
      subst e1
      have hk : okV (.string (joinS l s)) = true := by simpa [okV] using h2
      rcases e0.texts hK with ⟨b, off, cap, rfl, hb, hcap, hpos, hc⟩ | ⟨rfl, a, cap, rfl⟩
      · refine (Tryz.strings_Join b off cap l s w (fun j x hx => ?_) hb (by omega) hcap ?_).mono fun e w' ⟨he, hbw⟩ => ?_
        · have hj : j < l.length := (List.getElem?_eq_some_iff.1 hx).1
          rw [hc j hj, List.getD_eq_getElem?_getD, hx]; rfl
        · have : (joinS l s).size = (Lib.join (l.map (·.data.toList)) s.data.toList).length := by unfold joinS; show (List.toArray _).size = _; simp
          omega
        · subst he
          exact ⟨_, K, rfl, fun _ _ h => h, fun _ _ h => .inl h, fun b o h => Nat.lt_of_lt_of_le (hK b o h) hbw.size, .v _ hk, hbw⟩
      · refine (Tryz.strings_Join_none a cap s w).mono fun e w' ⟨he, hw⟩ => ?_
        subst he hw
        exact ⟨_, K, rfl, fun _ _ h => h, fun _ _ h => .inl h, hK, .v _ hk, Go.RowKit.Below.refl _ _⟩
end Go.Proofs.YtflbjjpcjeinlaaGreatDoor
