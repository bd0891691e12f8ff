/- Arguments opened by the table of types: what a reading says of the cells. -/
import Derived.Test.YtflbjjpcjeinlaaGreatDoorCd
import Derived.Test.YtflbjjpcjeinlaaGreatDoorRows
import Derived.ProofKit
import Derived.OpenShut
import Derived.Deep.Slices
namespace Go.Ev
open Go Go.RowKit Go.Proofs.YtflbjjpcjeinlaaGreatDoor

inductive Ck where
  | int (k : IntKind) | bool | str | sl (ks : List Ck)

/-- Data of a kind; strings and lists no longer than N. -/
inductive CkOk (N : Nat) : Ck → D → Prop
  | int (k : IntKind) (n : Int) (h : (Lit.int k n).wf = true) : CkOk N (.int k) (.v (.int k n))
  | bool (b : Bool) : CkOk N .bool (.v (.bool b))
  | str (s : ByteArray) (h : s.size ≤ N) : CkOk N .str (.v (.string s))
  | sl (ks : List Ck) (n : Nat) (g : Nat → List D) (hn : n ≤ N) (hl : ∀ i, i < n → (g i).length = ks.length) (hk : ∀ (i j : Nat) (kd : Ck) (d : D), i < n → ks[j]? = some kd → (g i)[j]? = some d → CkOk N kd d) : CkOk N (.sl ks) (.sl ks.length n g .none)

def cksF (f : TypeId → Option (List Ck)) : List (Nat × TypeId) → Nat → Option (List Ck)
  | [], _ => some []
  | (o, t) :: r, at_ => match Nat.beq o at_, f t with
    | true, some l => match cksF f r (at_ + l.length) with
      | some r' => some (l ++ r')
      | none => none
    | _, _ => none
def repC (l : List Ck) : Nat → List Ck
  | 0 => []
  | n + 1 => l ++ repC l n
def cks (tb : Tb) : Nat → TypeId → Option (List Ck)
  | 0, _ => none
  | f + 1, t => match tb t with
    | none => none
    | some ti => match ti.d with
      | .int k => some [.int k]
      | .bool => some [.bool]
      | .str => some [.str]
      | .struct fs => match cksF (cks tb f) fs 0 with
        | some l => match Nat.beq ti.size l.length with | true => some l | false => none
        | none => none
      | .arr n e => match cks tb f e, tb e with
        | some l, some te => match Nat.beq te.size l.length && Nat.beq ti.size (n * l.length) with | true => some (repC l n) | false => none
        | _, _ => none
      | .sl e => match cks tb f e, tb e with
        | some l, some te => match Nat.beq te.size l.length && Nat.ble 1 l.length with | true => some [.sl l] | false => none
        | _, _ => none
      | _ => none

/-- All cells that are there are kept. -/
def allK (w : World) : Nat → Nat → Prop := fun b _ => b < w.heap.size

def Opn (N : Nat) (w : World) (ks : List Ck) (cs : List Value) : Prop :=
  ∃ l : List D, l.length = ks.length ∧ cs.length = ks.length ∧ (∀ (i : Nat) kd e, ks[i]? = some kd → l[i]? = some e → CkOk N kd e) ∧ ∀ (i : Nat) e v, l[i]? = some e → cs[i]? = some v → KR (allK w) w e v ∧ oneC v = true

theorem Opn.nil {N : Nat} {w : World} : Opn N w [] [] := ⟨[], rfl, rfl, fun i kd e h => by simp at h, fun i e v h => by simp at h⟩
theorem Opn.one {N : Nat} {w : World} {kd : Ck} {d : D} {v : Value} (h1 : CkOk N kd d) (h2 : KR (allK w) w d v) (h3 : oneC v = true) : Opn N w [kd] [v] :=
  ⟨[d], rfl, rfl, fun i kd' e h h' => by
    cases i with
    | zero => simp at h h'; subst h h'; exact h1
    | succ i => simp at h, fun i e v' h h' => by
    cases i with
    | zero => simp at h h'; subst h h'; exact ⟨h2, h3⟩
    | succ i => simp at h⟩
theorem Opn.append {N : Nat} {w : World} {ks ks' : List Ck} {cs cs' : List Value} (h : Opn N w ks cs) (h' : Opn N w ks' cs') : Opn N w (ks ++ ks') (cs ++ cs') := by
  obtain ⟨l, a1, a2, a3, a4⟩ := h
  obtain ⟨l', b1, b2, b3, b4⟩ := h'
  refine ⟨l ++ l', by simp [a1, b1], by simp [a2, b2], fun i kd e hi he => ?_, fun i e v he hv => ?_⟩
  · by_cases hlt : i < ks.length
    · rw [List.getElem?_append_left hlt] at hi
      rw [List.getElem?_append_left (by omega)] at he
      exact a3 i kd e hi he
    · rw [List.getElem?_append_right (by omega)] at hi
      rw [List.getElem?_append_right (by omega), a1] at he
      exact b3 _ kd e hi he
  · by_cases hlt : i < ks.length
    · rw [List.getElem?_append_left (by omega)] at he
      rw [List.getElem?_append_left (by omega)] at hv
      exact a4 i e v he hv
    · rw [List.getElem?_append_right (by omega), a1] at he
      rw [List.getElem?_append_right (by omega), a2] at hv
      exact b4 _ e v he hv

section
variable {H : Type} {enc : TypeId × Value → H} {P : Program} {tb : Tb} {w : World} {N : Nat}

/-- One chunk, and what stands behind it. -/
theorem Opn.chunk {ks ks' : List Ck} {cs : List Value} {m : Nat} (h : Opn N w ks (cs.take m)) (h' : Opn N w ks' (cs.drop ks.length)) : Opn N w (ks ++ ks') cs := by
  have hl : (cs.take m).length = ks.length := by obtain ⟨_, _, e, _⟩ := h; exact e
  have e : cs.take m = cs.take ks.length := by
    rw [List.length_take] at hl
    rw [← hl]
    simp [List.take_eq_take_iff]
  have := h.append h'
  rwa [e, List.take_append_drop] at this

theorem bulk_part {d : DataW H} {l : List (DataW H)} (h : d ∈ l) : Rows.uptoBulk d ≤ Rows.uptoBulkAll l := by
  induction l with
  | nil => cases h
  | cons x r ih =>
    simp only [Rows.uptoBulkAll]
    cases List.mem_cons.1 h with
    | inl e => subst e; omega
    | inr e => have := ih e; omega
theorem bulk_one (d : DataW H) : 1 ≤ Rows.uptoBulk d := by
  cases d with
  | lit l => cases l <;> simp [Rows.uptoBulk]
  | _ => simp [Rows.uptoBulk]
theorem bulk_len (l : List (DataW H)) : l.length ≤ Rows.uptoBulkAll l := by
  induction l with
  | nil => simp [Rows.uptoBulkAll]
  | cons x r ih => have := bulk_one x; simp only [Rows.uptoBulkAll, List.length_cons]; omega

theorem cksF_opn {F : TypeId → Option (List Ck)} {trod : TypeId → List Value → Option (DataW H × List MemPlace)} (ih : ∀ t ks, F t = some ks → ∀ cs x, trod t cs = some x → Rows.uptoBulk x.1 ≤ N → Opn N w ks cs) :
    ∀ (fs : List (Nat × TypeId)) (gs : List Field) (at_ : Nat) (ks : List Ck) (cs : List Value) (xs : List (DataW H × List MemPlace)), fieldsOk fs gs = true → cksF F fs at_ = some ks → cs.length = at_ + ks.length →
      (∀ (i : Nat) (f : Field), gs[i]? = some f → trod f.type ((cs.drop f.offset).take (P.cellsOf f.type)) = xs[i]?) → xs.length = gs.length → (∀ x ∈ xs, Rows.uptoBulk x.1 ≤ N) → Opn N w ks (cs.drop at_)
  | [], [], at_, ks, cs, xs, _, h, hl, _, _, _ => by
    cases h
    rw [show cs.drop at_ = [] by simp at hl ⊢; omega]
    exact Opn.nil
  | (o, t) :: fs, g :: gs, at_, ks, cs, xs, hf, h, hl, hx, hlen, hb => by
    obtain ⟨f', hf0, ho, ht⟩ := fieldsOk_get hf 0 rfl
    have hf0 : g = f' := by simpa using hf0
    subst hf0
    have hf' : fieldsOk fs gs = true := by
      simp only [fieldsOk, Bool.and_eq_true] at hf
      exact hf.2
    simp only [cksF] at h
    split at h
    · rename_i l ho' hl0
      have ho' := Nat.eq_of_beq_eq_true ho'
      split at h
      · rename_i r' hr'
        cases h
        have hx0 := hx 0 g rfl
        rw [ho, ht, ho'] at hx0
        match xs, hlen with
        | x :: xs, hlen =>
          have h1 := ih t l hl0 _ x (by simpa using hx0) (hb x (by simp))
          refine Opn.chunk h1 ?_
          rw [List.drop_drop]
          refine cksF_opn ih fs gs (at_ + l.length) r' cs xs hf' hr' (by rw [hl]; simp; omega) (fun i f hf => ?_) (by simpa using hlen) (fun x hx => hb x (by simp [hx]))
          exact hx (i + 1) f (by simpa using hf)
      · cases h
    · cases h
  | [], _ :: _, _, _, _, _, hf, _, _, _, _, _ => by simp [fieldsOk] at hf
  | _ :: _, [], _, _, _, _, hf, _, _, _, _, _ => by simp [fieldsOk] at hf

theorem rep_opn {trod : List Value → Option (DataW H × List MemPlace)} {l : List Ck} {m : Nat} (ih : ∀ cs x, trod cs = some x → Rows.uptoBulk x.1 ≤ N → Opn N w l cs) (hm : m = l.length) :
    ∀ (n at_ : Nat) (cs : List Value) (xs : List (DataW H × List MemPlace)), cs.length = at_ * m + n * m → (∀ i, i < n → trod ((cs.drop ((at_ + i) * m)).take m) = xs[i]?) → xs.length = n → (∀ x ∈ xs, Rows.uptoBulk x.1 ≤ N) → Opn N w (repC l n) (cs.drop (at_ * m))
  | 0, at_, cs, xs, hl, _, _, _ => by
    rw [show cs.drop (at_ * m) = [] by simp; omega]
    exact Opn.nil
  | n + 1, at_, cs, xs, hl, hx, hlen, hb => by
    match xs, hlen with
    | x :: xs, hlen =>
      have h1 := ih _ x (by simpa using hx 0 (by omega)) (hb x (by simp))
      refine Opn.chunk h1 ?_
      rw [List.drop_drop, ← hm, show at_ * m + m = (at_ + 1) * m by rw [Nat.add_mul]; omega]
      refine rep_opn ih hm n (at_ + 1) cs xs (by rw [hl, Nat.add_mul, Nat.add_mul]; omega) (fun i hi => ?_) (by simpa using hlen) (fun x hx => hb x (by simp [hx]))
      have := hx (i + 1) (by omega)
      rwa [show at_ + (i + 1) = at_ + 1 + i by omega] at this

theorem repC_len (l : List Ck) : ∀ n, (repC l n).length = n * l.length
  | 0 => by simp [repC]
  | n + 1 => by rw [repC, List.length_append, repC_len l n, Nat.add_mul]; omega

theorem cells_size {t : TypeId} {i : TypeInfo} (h : P.info? t = some i) : P.cellsOf t = i.size := by simp [Program.cellsOf, h]

theorem trod_opn (hT : TbOk P tb) {base : Nat} {spare : Nat → Bool} {held : Bool} (hN : N ≤ 4294967280) : ∀ (f : Nat) (t : TypeId) (ks : List Ck), cks tb f t = some ks → ∀ (fuel : Nat) (cs : List Value) (x : DataW H × List MemPlace),
    DataW.trod enc P w base spare held fuel t cs = some x → Rows.uptoBulk x.1 ≤ N → Opn N w ks cs
  | 0, _, _, h => by simp [cks] at h
  | f + 1, t, ks, h => by
    intro fuel cs x hx hb
    simp only [cks] at h
    split at h
    · cases h
    · rename_i ti hti
      obtain ⟨i, dd, z, hi, hu, hsize, _, _, _, _, hdd, _⟩ := hT.info hti
      have ih := fun t ks h => trod_opn hT (base := base) (spare := spare) (held := held) hN f t ks h
      split at h
      · -- int
        rename_i k hk
        cases h
        rw [hk] at hdd
        have := descOk_int hdd
        subst this
        obtain ⟨n, rfl, _, hw⟩ := DataW.trod_int hu hx
        exact .one (.int k n hw) (.v _ rfl) rfl
      · -- bool
        rename_i hk
        cases h
        rw [hk] at hdd
        have : dd = .bool := by cases dd <;> simp [descOk] at hdd <;> rfl
        subst this
        obtain ⟨b, rfl, _⟩ := DataW.trod_bool hu hx
        exact .one (.bool b) (.v _ rfl) rfl
      · -- string
        rename_i hk
        cases h
        rw [hk] at hdd
        have := descOk_str hdd
        subst this
        obtain ⟨s, rfl, rfl, _⟩ := DataW.trod_string hu hx
        have hs : s.size ≤ N := by
          simp only [Rows.uptoBulk] at hb
          have : s.data.toList.length = s.size := by simp
          omega
        exact .one (.str s hs) (.v _ (by simp only [okV, decide_eq_true_eq]; omega)) rfl
      · -- struct
        rename_i fs hk
        have hex : cksF (cks tb f) fs 0 = some ks ∧ ti.size = ks.length := by
          split at h
          · rename_i l hl0
            split at h
            · rename_i hsz
              cases h
              exact ⟨hl0, Nat.eq_of_beq_eq_true hsz⟩
            · cases h
          · cases h
        obtain ⟨hl0, hsz⟩ := hex
        rw [hk] at hdd
        obtain ⟨gs, rfl, hfo⟩ := descOk_struct hdd
        obtain ⟨xs, m, rfl, rfl, hl, hlen, hf⟩ := DataW.trod_struct hu hx
        simp only [Rows.uptoBulk] at hb
        have := cksF_opn (P := P) (trod := fun t cs => DataW.trod enc P w base spare held m t cs) (fun t ks h cs x hx hb => ih t ks h m cs x hx hb) fs gs.toList 0 ks cs xs hfo hl0 (by
          rw [hl, cells_size hi]; omega) (fun i f h => hf i f (by simpa using h)) (by simpa using hlen) (fun x hx => by
          have : Rows.uptoBulk x.1 ≤ Rows.uptoBulkAll (xs.map fun x => x.1) := bulk_part (List.mem_map_of_mem hx)
          omega)
        simpa using this
      · -- array
        rename_i n e hk
        split at h
        · rename_i l te hl0 hte
          split at h
          · rename_i hsz
            cases h
            simp only [Bool.and_eq_true] at hsz
            have hsz2 := Nat.eq_of_beq_eq_true hsz.2
            have hsz := Nat.eq_of_beq_eq_true hsz.1
            rw [hk] at hdd
            have := descOk_arr hdd
            subst this
            obtain ⟨ie, _, _, hie, _, hes, _⟩ := hT.info hte
            obtain ⟨xs, m, rfl, rfl, hl, hlen, hf⟩ := DataW.trod_array hu hx
            simp only [Rows.uptoBulk] at hb
            have hce : P.cellsOf e = l.length := by rw [cells_size hie]; omega
            have := rep_opn (trod := fun cs => DataW.trod enc P w base spare held m e cs) (m := l.length) (fun cs x hx hb => ih e l hl0 m cs x hx hb) rfl n 0 cs xs (by
              rw [hl, cells_size hi]; omega) (fun i hi => by rw [Nat.zero_add, ← hce]; exact hf i hi) hlen (fun x hx => by
              have : Rows.uptoBulk x.1 ≤ Rows.uptoBulkAll (xs.map fun x => x.1) := bulk_part (List.mem_map_of_mem hx)
              omega)
            simpa using this
          · cases h
        · cases h
      · -- slice
        rename_i e hk
        split at h
        · rename_i l te hl0 hte
          split at h
          · rename_i hsz
            cases h
            simp only [Bool.and_eq_true] at hsz
            have hs1 := Nat.eq_of_beq_eq_true hsz.1
            have hs2 := Nat.le_of_ble_eq_true hsz.2
            rw [hk] at hdd
            have := descOk_sl hdd
            subst this
            obtain ⟨ie, _, _, hie, _, hes, _⟩ := hT.info hte
            have hce : P.cellsOf e = l.length := by rw [cells_size hie]; omega
            rcases DataW.trod_slice hu hx with ⟨rfl, _⟩ | ⟨a, len, cap, elems, rest, m, _, rfl, rfl, _, hlc, _, hlen, hel, _⟩
            · exact .one (.sl l 0 (fun _ => []) (by omega) (fun i hi => by omega) (fun i j kd d hi => by omega)) (.sl0 _ _ _ _) rfl
            · simp only [Rows.uptoBulk] at hb
              have hbl := bulk_len (elems.map (·.1))
              simp only [List.length_map] at hbl
              by_cases h0 : len = 0
              · rw [h0]
                exact .one (.sl l 0 (fun _ => []) (by omega) (fun i hi => by omega) (fun i j kd d hi => by omega)) (.sl0 _ _ _ _) rfl
              · have hopn : ∀ i, i < len → ∃ c : List D × List Value, w.cells? base (a.add (i * l.length)) l.length = some c.2 ∧ c.1.length = l.length ∧ c.2.length = l.length ∧ (∀ (j : Nat) kd e, l[j]? = some kd → c.1[j]? = some e → CkOk N kd e) ∧
                    ∀ (j : Nat) e v, c.1[j]? = some e → c.2[j]? = some v → KR (allK w) w e v ∧ oneC v = true := fun i hi => by
                  have := hel i hi
                  rw [hce] at this
                  have hi' : i < elems.length := by omega
                  rw [List.getElem?_eq_getElem hi'] at this
                  rw [Option.bind_eq_some_iff] at this
                  obtain ⟨cs', h1, h2⟩ := this
                  have hbi : Rows.uptoBulk elems[i].1 ≤ Rows.uptoBulkAll (elems.map fun x => x.1) := bulk_part (List.mem_map_of_mem (List.getElem_mem hi'))
                  obtain ⟨d, b1, b2, b3, b4⟩ := ih e l hl0 m cs' _ h2 (by omega)
                  exact ⟨(d, cs'), h1, b1, b2, b3, b4⟩
                obtain ⟨C, hC⟩ := Go.Deep.choose_lt hopn
                have hcell : ∀ i j, i < len → j < l.length → w.cell? ((a.add (i * l.length)).add j) = (C i).2[j]? := fun i j hi hj => by
                  obtain ⟨_, _, h3⟩ := World.cells?_some (hC i hi).1
                  exact h3 j hj
                have hspot : a.spot = none := by
                  have := hcell 0 0 (by omega) (by omega)
                  obtain ⟨_, _, h3, _⟩ := hC 0 (by omega)
                  rw [List.getElem?_eq_getElem (by omega)] at this
                  simp only [Nat.zero_mul, Addr.add, if_true] at this
                  unfold World.cell? at this
                  split at this
                  · split at this
                    · cases this
                    · rename_i hs; simpa using hs
                  · cases this
                obtain ⟨blk, off, sp⟩ := a
                simp only at hspot
                subst hspot
                refine .one (.sl l len (fun i => (C i).1) (by omega) (fun i hi => (hC i hi).2.1) (fun i j kd d hi h1 h2 => (hC i hi).2.2.2.1 j kd d h1 h2)) ?_ rfl
                refine .sl l.length len _ blk off cap (fun i j => ((C i).2[j]?).getD undef) hlc (fun i hi => (hC i hi).2.1) (fun i j hi hj => ?_) (fun i j d hi hd => ?_)
                · have h1 := hcell i j hi hj
                  obtain ⟨_, q1, q2, _, q4⟩ := hC i hi
                  have hv : (C i).2[j]? = some (C i).2[j] := List.getElem?_eq_getElem (by omega)
                  have hd : (C i).1[j]? = some (C i).1[j] := List.getElem?_eq_getElem (by omega)
                  rw [hv] at h1
                  have he : w.cell? ⟨blk, off + i * l.length + j, none⟩ = some (C i).2[j] := by
                    rw [← h1]; simp only [Addr.add_lit]
                  refine ⟨World.block_lt_of_cell? w _ he, by rw [he, hv]; rfl, by rw [hv]; exact (q4 j _ _ hd hv).2⟩
                · obtain ⟨_, q1, q2, _, q4⟩ := hC i hi
                  have hj : j < (C i).1.length := (List.getElem?_eq_some_iff.1 hd).1
                  have hv : (C i).2[j]? = some (C i).2[j] := List.getElem?_eq_getElem (by omega)
                  rw [hv]
                  exact (q4 j _ _ hd hv).1
          · cases h
        · cases h
      · cases h
end
end Go.Ev
