/- Arguments opened by the table of types: what a reading says of the cells. A row closed: a law whose call gives true, by the evaluator's contract. A world for the witnesses: the listed tables hold what their initialisers lay; and what the rows ask of any world. Arguments of chapter 14's laws, opened. -/
import Derived.Test.YtbjpkbolmpcmfaaDoorMc
import Derived.Test.YtbjpkbolmpcmfaaDoorRows
import Derived.ProofKit
import Derived.OpenShut
import Derived.Deep.Slices
import Derived.Test.YtbjpkbolmpcmfaaDoorShelf
import Derived.Below
import Derived.ChangeSame
import Derived.WideKeyArgs
import Derived.Test.YtbjpkbolmpcmfaaDoorCards
import Derived.Test.YtbjpkbolmpcmfaaDoorTie
import Derived.WalkKit
import Derived.Deep.DeepHandedRow
import Derived.Lib.LaidTab
import Derived.Test.YtbjpkbolmpcmfaaDoorMd
namespace Go.Ev
open Go Go.RowKit Go.Proofs.YtbjpkbolmpcmfaaDoor

inductive Ck where
  | int (k : IntKind) | bool | str | sl (ks : List Ck)

/-- Data of a kind; strings and lists no longer than N. -/
inductive CkOk (N : Nat) : Ck → D → Prop
  | int (k : IntKind) (n : Int) (h : (Lit.int k n).wf = true) : CkOk N (.int k) (.v (.int k n))
  | bool (b : Bool) : CkOk N .bool (.v (.bool b))
  | str (s : ByteArray) (h : s.size ≤ N) : CkOk N .str (.v (.string s))
  | sl (ks : List Ck) (n : Nat) (g : Nat → List D) (hn : n ≤ N) (hl : ∀ i, i < n → (g i).length = ks.length) (hk : ∀ (i j : Nat) (kd : Ck) (d : D), i < n → ks[j]? = some kd → (g i)[j]? = some d → CkOk N kd d) : CkOk N (.sl ks) (.sl ks.length n g .none)

def cksF (f : TypeId → Option (List Ck)) : List (Nat × TypeId) → Nat → Option (List Ck)
  | [], _ => some []
  | (o, t) :: r, at_ => match Nat.beq o at_, f t with
    | true, some l => match cksF f r (at_ + l.length) with
      | some r' => some (l ++ r')
      | none => none
    | _, _ => none
def repC (l : List Ck) : Nat → List Ck
  | 0 => []
  | n + 1 => l ++ repC l n
def cks (tb : Tb) : Nat → TypeId → Option (List Ck)
  | 0, _ => none
  | f + 1, t => match tb t with
    | none => none
    | some ti => match ti.d with
      | .int k => some [.int k]
      | .bool => some [.bool]
      | .str => some [.str]
      | .struct fs => match cksF (cks tb f) fs 0 with
        | some l => match Nat.beq ti.size l.length with | true => some l | false => none
        | none => none
      | .arr n e => match cks tb f e, tb e with
        | some l, some te => match Nat.beq te.size l.length && Nat.beq ti.size (n * l.length) with | true => some (repC l n) | false => none
        | _, _ => none
      | .sl e => match cks tb f e, tb e with
        | some l, some te => match Nat.beq te.size l.length && Nat.ble 1 l.length with | true => some [.sl l] | false => none
        | _, _ => none
      | _ => none

/-- All cells that are there are kept. -/
def allK (w : World) : Nat → Nat → Prop := fun b _ => b < w.heap.size

def Opn (N : Nat) (w : World) (ks : List Ck) (cs : List Value) : Prop :=
  ∃ l : List D, l.length = ks.length ∧ cs.length = ks.length ∧ (∀ (i : Nat) kd e, ks[i]? = some kd → l[i]? = some e → CkOk N kd e) ∧ ∀ (i : Nat) e v, l[i]? = some e → cs[i]? = some v → KR (allK w) w e v ∧ oneC v = true

theorem Opn.nil {N : Nat} {w : World} : Opn N w [] [] := ⟨[], rfl, rfl, fun i kd e h => by simp at h, fun i e v h => by simp at h⟩
theorem Opn.one {N : Nat} {w : World} {kd : Ck} {d : D} {v : Value} (h1 : CkOk N kd d) (h2 : KR (allK w) w d v) (h3 : oneC v = true) : Opn N w [kd] [v] :=
  ⟨[d], rfl, rfl, fun i kd' e h h' => by
    cases i with
    | zero => simp at h h'; subst h h'; exact h1
    | succ i => simp at h, fun i e v' h h' => by
    cases i with
    | zero => simp at h h'; subst h h'; exact ⟨h2, h3⟩
    | succ i => simp at h⟩
theorem Opn.append {N : Nat} {w : World} {ks ks' : List Ck} {cs cs' : List Value} (h : Opn N w ks cs) (h' : Opn N w ks' cs') : Opn N w (ks ++ ks') (cs ++ cs') := by
  obtain ⟨l, a1, a2, a3, a4⟩ := h
  obtain ⟨l', b1, b2, b3, b4⟩ := h'
  refine ⟨l ++ l', by simp [a1, b1], by simp [a2, b2], fun i kd e hi he => ?_, fun i e v he hv => ?_⟩
  · by_cases hlt : i < ks.length
    · rw [List.getElem?_append_left hlt] at hi
      rw [List.getElem?_append_left (by omega)] at he
      exact a3 i kd e hi he
    · rw [List.getElem?_append_right (by omega)] at hi
      rw [List.getElem?_append_right (by omega), a1] at he
      exact b3 _ kd e hi he
  · by_cases hlt : i < ks.length
    · rw [List.getElem?_append_left (by omega)] at he
      rw [List.getElem?_append_left (by omega)] at hv
      exact a4 i e v he hv
    · rw [List.getElem?_append_right (by omega), a1] at he
      rw [List.getElem?_append_right (by omega), a2] at hv
      exact b4 _ e v he hv

section
variable {H : Type} {enc : TypeId × Value → H} {P : Program} {tb : Tb} {w : World} {N : Nat}

/-- One chunk, and what stands behind it. -/
theorem Opn.chunk {ks ks' : List Ck} {cs : List Value} {m : Nat} (h : Opn N w ks (cs.take m)) (h' : Opn N w ks' (cs.drop ks.length)) : Opn N w (ks ++ ks') cs := by
  have hl : (cs.take m).length = ks.length := by obtain ⟨_, _, e, _⟩ := h; exact e
  have e : cs.take m = cs.take ks.length := by
    rw [List.length_take] at hl
    rw [← hl]
    simp [List.take_eq_take_iff]
  have := h.append h'
  rwa [e, List.take_append_drop] at this

theorem bulk_part {d : DataW H} {l : List (DataW H)} (h : d ∈ l) : Rows.uptoBulk d ≤ Rows.uptoBulkAll l := by
  induction l with
  | nil => cases h
  | cons x r ih =>
    simp only [Rows.uptoBulkAll]
    cases List.mem_cons.1 h with
    | inl e => subst e; omega
    | inr e => have := ih e; omega
theorem bulk_one (d : DataW H) : 1 ≤ Rows.uptoBulk d := by
  cases d with
  | lit l => cases l <;> simp [Rows.uptoBulk]
  | _ => simp [Rows.uptoBulk]
theorem bulk_len (l : List (DataW H)) : l.length ≤ Rows.uptoBulkAll l := by
  induction l with
  | nil => simp [Rows.uptoBulkAll]
  | cons x r ih => have := bulk_one x; simp only [Rows.uptoBulkAll, List.length_cons]; omega

theorem cksF_opn {F : TypeId → Option (List Ck)} {trod : TypeId → List Value → Option (DataW H × List MemPlace)} (ih : ∀ t ks, F t = some ks → ∀ cs x, trod t cs = some x → Rows.uptoBulk x.1 ≤ N → Opn N w ks cs) :
    ∀ (fs : List (Nat × TypeId)) (gs : List Field) (at_ : Nat) (ks : List Ck) (cs : List Value) (xs : List (DataW H × List MemPlace)), fieldsOk fs gs = true → cksF F fs at_ = some ks → cs.length = at_ + ks.length →
      (∀ (i : Nat) (f : Field), gs[i]? = some f → trod f.type ((cs.drop f.offset).take (P.cellsOf f.type)) = xs[i]?) → xs.length = gs.length → (∀ x ∈ xs, Rows.uptoBulk x.1 ≤ N) → Opn N w ks (cs.drop at_)
  | [], [], at_, ks, cs, xs, _, h, hl, _, _, _ => by
    cases h
    rw [show cs.drop at_ = [] by simp at hl ⊢; omega]
    exact Opn.nil
  | (o, t) :: fs, g :: gs, at_, ks, cs, xs, hf, h, hl, hx, hlen, hb => by
    obtain ⟨f', hf0, ho, ht⟩ := fieldsOk_get hf 0 rfl
    have hf0 : g = f' := by simpa using hf0
    subst hf0
    have hf' : fieldsOk fs gs = true := by
      simp only [fieldsOk, Bool.and_eq_true] at hf
      exact hf.2
    simp only [cksF] at h
    split at h
    · rename_i l ho' hl0
      have ho' := Nat.eq_of_beq_eq_true ho'
      split at h
      · rename_i r' hr'
        cases h
        have hx0 := hx 0 g rfl
        rw [ho, ht, ho'] at hx0
        match xs, hlen with
        | x :: xs, hlen =>
          have h1 := ih t l hl0 _ x (by simpa using hx0) (hb x (by simp))
          refine Opn.chunk h1 ?_
          rw [List.drop_drop]
          refine cksF_opn ih fs gs (at_ + l.length) r' cs xs hf' hr' (by rw [hl]; simp; omega) (fun i f hf => ?_) (by simpa using hlen) (fun x hx => hb x (by simp [hx]))
          exact hx (i + 1) f (by simpa using hf)
      · cases h
    · cases h
  | [], _ :: _, _, _, _, _, hf, _, _, _, _, _ => by simp [fieldsOk] at hf
  | _ :: _, [], _, _, _, _, hf, _, _, _, _, _ => by simp [fieldsOk] at hf

theorem rep_opn {trod : List Value → Option (DataW H × List MemPlace)} {l : List Ck} {m : Nat} (ih : ∀ cs x, trod cs = some x → Rows.uptoBulk x.1 ≤ N → Opn N w l cs) (hm : m = l.length) :
    ∀ (n at_ : Nat) (cs : List Value) (xs : List (DataW H × List MemPlace)), cs.length = at_ * m + n * m → (∀ i, i < n → trod ((cs.drop ((at_ + i) * m)).take m) = xs[i]?) → xs.length = n → (∀ x ∈ xs, Rows.uptoBulk x.1 ≤ N) → Opn N w (repC l n) (cs.drop (at_ * m))
  | 0, at_, cs, xs, hl, _, _, _ => by
    rw [show cs.drop (at_ * m) = [] by simp; omega]
    exact Opn.nil
  | n + 1, at_, cs, xs, hl, hx, hlen, hb => by
    match xs, hlen with
    | x :: xs, hlen =>
      have h1 := ih _ x (by simpa using hx 0 (by omega)) (hb x (by simp))
      refine Opn.chunk h1 ?_
      rw [List.drop_drop, ← hm, show at_ * m + m = (at_ + 1) * m by rw [Nat.add_mul]; omega]
      refine rep_opn ih hm n (at_ + 1) cs xs (by rw [hl, Nat.add_mul, Nat.add_mul]; omega) (fun i hi => ?_) (by simpa using hlen) (fun x hx => hb x (by simp [hx]))
      have := hx (i + 1) (by omega)
      rwa [show at_ + (i + 1) = at_ + 1 + i by omega] at this

theorem repC_len (l : List Ck) : ∀ n, (repC l n).length = n * l.length
  | 0 => by simp [repC]
  | n + 1 => by rw [repC, List.length_append, repC_len l n, Nat.add_mul]; omega

theorem cells_size {t : TypeId} {i : TypeInfo} (h : P.info? t = some i) : P.cellsOf t = i.size := by simp [Program.cellsOf, h]

theorem trod_opn (hT : TbOk P tb) {base : Nat} {spare : Nat → Bool} {held : Bool} (hN : N ≤ 4294967280) : ∀ (f : Nat) (t : TypeId) (ks : List Ck), cks tb f t = some ks → ∀ (fuel : Nat) (cs : List Value) (x : DataW H × List MemPlace),
    DataW.trod enc P w base spare held fuel t cs = some x → Rows.uptoBulk x.1 ≤ N → Opn N w ks cs
  | 0, _, _, h => by simp [cks] at h
  | f + 1, t, ks, h => by
    intro fuel cs x hx hb
    simp only [cks] at h
    split at h
    · cases h
    · rename_i ti hti
      obtain ⟨i, dd, z, hi, hu, hsize, _, _, _, _, hdd, _⟩ := hT.info hti
      have ih := fun t ks h => trod_opn hT (base := base) (spare := spare) (held := held) hN f t ks h
      split at h
      · -- int
        rename_i k hk
        cases h
        rw [hk] at hdd
        have := descOk_int hdd
        subst this
        obtain ⟨n, rfl, _, hw⟩ := DataW.trod_int hu hx
        exact .one (.int k n hw) (.v _ rfl) rfl
      · -- bool
        rename_i hk
        cases h
        rw [hk] at hdd
        have : dd = .bool := by cases dd <;> simp [descOk] at hdd <;> rfl
        subst this
        obtain ⟨b, rfl, _⟩ := DataW.trod_bool hu hx
        exact .one (.bool b) (.v _ rfl) rfl
      · -- string
        rename_i hk
        cases h
        rw [hk] at hdd
        have := descOk_str hdd
        subst this
        obtain ⟨s, rfl, rfl, _⟩ := DataW.trod_string hu hx
        have hs : s.size ≤ N := by
          simp only [Rows.uptoBulk] at hb
          have : s.data.toList.length = s.size := by simp
          omega
        exact .one (.str s hs) (.v _ (by simp only [okV, decide_eq_true_eq]; omega)) rfl
      · -- struct
        rename_i fs hk
        have hex : cksF (cks tb f) fs 0 = some ks ∧ ti.size = ks.length := by
          split at h
          · rename_i l hl0
            split at h
            · rename_i hsz
              cases h
              exact ⟨hl0, Nat.eq_of_beq_eq_true hsz⟩
            · cases h
          · cases h
        obtain ⟨hl0, hsz⟩ := hex
        rw [hk] at hdd
        obtain ⟨gs, rfl, hfo⟩ := descOk_struct hdd
        obtain ⟨xs, m, rfl, rfl, hl, hlen, hf⟩ := DataW.trod_struct hu hx
        simp only [Rows.uptoBulk] at hb
        have := cksF_opn (P := P) (trod := fun t cs => DataW.trod enc P w base spare held m t cs) (fun t ks h cs x hx hb => ih t ks h m cs x hx hb) fs gs.toList 0 ks cs xs hfo hl0 (by
          rw [hl, cells_size hi]; omega) (fun i f h => hf i f (by simpa using h)) (by simpa using hlen) (fun x hx => by
          have : Rows.uptoBulk x.1 ≤ Rows.uptoBulkAll (xs.map fun x => x.1) := bulk_part (List.mem_map_of_mem hx)
          omega)
        simpa using this
      · -- array
        rename_i n e hk
        split at h
        · rename_i l te hl0 hte
          split at h
          · rename_i hsz
            cases h
            simp only [Bool.and_eq_true] at hsz
            have hsz2 := Nat.eq_of_beq_eq_true hsz.2
            have hsz := Nat.eq_of_beq_eq_true hsz.1
            rw [hk] at hdd
            have := descOk_arr hdd
            subst this
            obtain ⟨ie, _, _, hie, _, hes, _⟩ := hT.info hte
            obtain ⟨xs, m, rfl, rfl, hl, hlen, hf⟩ := DataW.trod_array hu hx
            simp only [Rows.uptoBulk] at hb
            have hce : P.cellsOf e = l.length := by rw [cells_size hie]; omega
            have := rep_opn (trod := fun cs => DataW.trod enc P w base spare held m e cs) (m := l.length) (fun cs x hx hb => ih e l hl0 m cs x hx hb) rfl n 0 cs xs (by
              rw [hl, cells_size hi]; omega) (fun i hi => by rw [Nat.zero_add, ← hce]; exact hf i hi) hlen (fun x hx => by
              have : Rows.uptoBulk x.1 ≤ Rows.uptoBulkAll (xs.map fun x => x.1) := bulk_part (List.mem_map_of_mem hx)
              omega)
            simpa using this
          · cases h
        · cases h
      · -- slice
        rename_i e hk
        split at h
        · rename_i l te hl0 hte
          split at h
          · rename_i hsz
            cases h
            simp only [Bool.and_eq_true] at hsz
            have hs1 := Nat.eq_of_beq_eq_true hsz.1
            have hs2 := Nat.le_of_ble_eq_true hsz.2
            rw [hk] at hdd
            have := descOk_sl hdd
            subst this
            obtain ⟨ie, _, _, hie, _, hes, _⟩ := hT.info hte
            have hce : P.cellsOf e = l.length := by rw [cells_size hie]; omega
            rcases DataW.trod_slice hu hx with ⟨rfl, _⟩ | ⟨a, len, cap, elems, rest, m, _, rfl, rfl, _, hlc, _, hlen, hel, _⟩
            · exact .one (.sl l 0 (fun _ => []) (by omega) (fun i hi => by omega) (fun i j kd d hi => by omega)) (.sl0 _ _ _ _) rfl
            · simp only [Rows.uptoBulk] at hb
              have hbl := bulk_len (elems.map (·.1))
              simp only [List.length_map] at hbl
              by_cases h0 : len = 0
              · rw [h0]
                exact .one (.sl l 0 (fun _ => []) (by omega) (fun i hi => by omega) (fun i j kd d hi => by omega)) (.sl0 _ _ _ _) rfl
              · have hopn : ∀ i, i < len → ∃ c : List D × List Value, w.cells? base (a.add (i * l.length)) l.length = some c.2 ∧ c.1.length = l.length ∧ c.2.length = l.length ∧ (∀ (j : Nat) kd e, l[j]? = some kd → c.1[j]? = some e → CkOk N kd e) ∧
                    ∀ (j : Nat) e v, c.1[j]? = some e → c.2[j]? = some v → KR (allK w) w e v ∧ oneC v = true := fun i hi => by
                  have := hel i hi
                  rw [hce] at this
                  have hi' : i < elems.length := by omega
                  rw [List.getElem?_eq_getElem hi'] at this
                  rw [Option.bind_eq_some_iff] at this
                  obtain ⟨cs', h1, h2⟩ := this
                  have hbi : Rows.uptoBulk elems[i].1 ≤ Rows.uptoBulkAll (elems.map fun x => x.1) := bulk_part (List.mem_map_of_mem (List.getElem_mem hi'))
                  obtain ⟨d, b1, b2, b3, b4⟩ := ih e l hl0 m cs' _ h2 (by omega)
                  exact ⟨(d, cs'), h1, b1, b2, b3, b4⟩
                obtain ⟨C, hC⟩ := Go.Deep.choose_lt hopn
                have hcell : ∀ i j, i < len → j < l.length → w.cell? ((a.add (i * l.length)).add j) = (C i).2[j]? := fun i j hi hj => by
                  obtain ⟨_, _, h3⟩ := World.cells?_some (hC i hi).1
                  exact h3 j hj
                have hspot : a.spot = none := by
                  have := hcell 0 0 (by omega) (by omega)
                  obtain ⟨_, _, h3, _⟩ := hC 0 (by omega)
                  rw [List.getElem?_eq_getElem (by omega)] at this
                  simp only [Nat.zero_mul, Addr.add, if_true] at this
                  unfold World.cell? at this
                  split at this
                  · split at this
                    · cases this
                    · rename_i hs; simpa using hs
                  · cases this
                obtain ⟨blk, off, sp⟩ := a
                simp only at hspot
                subst hspot
                refine .one (.sl l len (fun i => (C i).1) (by omega) (fun i hi => (hC i hi).2.1) (fun i j kd d hi h1 h2 => (hC i hi).2.2.2.1 j kd d h1 h2)) ?_ rfl
                refine .sl l.length len _ blk off cap (fun i j => ((C i).2[j]?).getD undef) hlc (fun i hi => (hC i hi).2.1) (fun i j hi hj => ?_) (fun i j d hi hd => ?_)
                · have h1 := hcell i j hi hj
                  obtain ⟨_, q1, q2, _, q4⟩ := hC i hi
                  have hv : (C i).2[j]? = some (C i).2[j] := List.getElem?_eq_getElem (by omega)
                  have hd : (C i).1[j]? = some (C i).1[j] := List.getElem?_eq_getElem (by omega)
                  rw [hv] at h1
                  have he : w.cell? ⟨blk, off + i * l.length + j, none⟩ = some (C i).2[j] := by
                    rw [← h1]; simp only [Addr.add_lit]
                  refine ⟨World.block_lt_of_cell? w _ he, by rw [he, hv]; rfl, by rw [hv]; exact (q4 j _ _ hd hv).2⟩
                · obtain ⟨_, q1, q2, _, q4⟩ := hC i hi
                  have hj : j < (C i).1.length := (List.getElem?_eq_some_iff.1 hd).1
                  have hv : (C i).2[j]? = some (C i).2[j] := List.getElem?_eq_getElem (by omega)
                  rw [hv]
                  exact (q4 j _ _ hd hv).1
          · cases h
        · cases h
      · cases h
end
end Go.Ev
namespace Go.Ev
open Go Go.RowKit Go.WideShapes Go.ChangeShapes Go.Proofs.YtbjpkbolmpcmfaaDoor

section
variable {H : Type} {enc : TypeId × Value → H} {P : Program}
theorem trodAll_stays (hl : laidOutB P = true) {W W' : World} {sp : Nat → Bool} : ∀ {ts : List TypeId} {vs : List Value} {ds : List (DataW H)} {ps : List MemPlace}, (∀ t ∈ ts, P.readableRec t = true ∧ t < P.types.size) →
    DataW.TrodAll enc P W 0 (fun _ => true) true ts vs ds ps → (∀ p ∈ ps, W.sameAt W' p) → (∀ p ∈ ps, sp p.block = true) → DataW.TrodAll enc P W' 0 sp true ts vs ds ps
  | [], vs, ds, ps, _, h, _, _ => by
    obtain ⟨rfl, rfl, rfl⟩ := trodAll_nil h
    exact rfl
  | t :: ts, vs, ds, ps, ht, h, h1, h2 => by
    obtain ⟨v, vs', d, ds', p, q, rfl, rfl, rfl, h0, hr⟩ := trodAll_cons h
    refine ⟨p, q, WideElems.Trod_stays hl (ht t (by simp)).1 (ht t (by simp)).2 h0 (fun x hx => h1 x (by simp [hx])) (fun x hx => h2 x (by simp [hx])), trodAll_stays hl (fun t' ht' => ht t' (by simp [ht'])) hr (fun x hx => h1 x (by simp [hx])) (fun x hx => h2 x (by simp [hx])), rfl⟩

/-- **A law that gives true.** -/
theorem row_close {f : FuncId} {fn : Func} {s : ChangeSpec} {tb_ : TypeId} {gl : Gls} (hl : laidOutB P = true) (hvars : s.vars = []) (hrt : fn.resultTypes = #[tb_]) (hub : P.underlying tb_ = some .bool)
    (hpar : ∀ t ∈ fn.params.toList, P.readableRec t = true ∧ t < P.types.size) {W : World} {args : Array Value} {ds gs : List (DataW H)} {before : List MemPlace}
    (hW : DataW.Whole enc P fn.params.toList s.vars false W args.toList ds gs before) (hfn : s.fn H ds = { results := [.lit (.bool true)], args := ds }) (hgl : Gl gl (allK W) W)
    {dargs : List D} (hspec : Spec P gl f dargs (B true)) (hsz : args.size = dargs.length) (hkr : ∀ (i : Nat) d, dargs[i]? = some d → KR (allK W) W d (args.getD i undef)) :
    Calls P f args W fun e W' => ∃ v, e = .returned v ∧ s.post enc P fn false true false false W args v W' := by
  refine (hspec (allK W) W args hgl (fun b o h => h) hsz hkr).mono fun e W' ⟨r, K', he, _, _, _, hr, hb⟩ => ?_
  have : r = .bool true := by cases hr; rfl
  subst this
  refine ⟨_, he, ?_⟩
  have hW' := hW
  obtain ⟨p, q, hA, hV, hps, hfz, hnd⟩ := hW
  rw [hvars] at hV
  obtain ⟨rfl, rfl⟩ := trodVars_none hV
  rw [List.append_nil] at hps
  subst hps
  have hlt : ∀ p ∈ before, p.block < W.heap.size := fun p hp => hW'.lt p hp
  have hsame : ∀ p ∈ before, W.sameAt W' p := fun p hp => hb.same (hlt p hp)
  have res : ∀ (b : Nat) (sp : Nat → Bool) (hd : Bool), DataW.TrodAll enc P W' b sp hd fn.resultTypes.toList ((Value.bool true).resultList fn.resultTypes.size) (s.fn H (ds ++ [])).results [] := fun b sp hd => by
    rw [List.append_nil, hfn, hrt]
    exact ⟨[], [], ⟨1, by simp [DataW.trod, hub, Value.cells]⟩, rfl, rfl⟩
  have ars : ∀ sp : Nat → Bool, (∀ p ∈ before, sp p.block = true) → DataW.TrodAll enc P W' 0 sp true fn.params.toList args.toList (s.fn H (ds ++ [])).args before := fun sp hsp => by
    rw [List.append_nil, hfn]
    exact trodAll_stays hl hpar hA hsame hsp
  have vrs : ∀ sp : Nat → Bool, DataW.TrodVars enc P W' sp s.vars (s.fn H (ds ++ [])).vars [] := fun sp => by
    rw [List.append_nil, hfn, hvars]
    exact rfl
  exact ⟨ds, [], before, [], before, [], hW', res _ _ _, ars _ (fun p hp => by simpa using hlt p hp), vrs _, World.keptBut_mono (fun p hp => ⟨hp, .inr (by simpa using hp)⟩) (hb.frame (· ∈ before)), fun h => by cases h⟩

/-- Data that is of its kinds. -/
def AllOk (N : Nat) (ks : List Ck) (l : List D) : Prop := l.length = ks.length ∧ ∀ (i : Nat) kd e, ks[i]? = some kd → l[i]? = some e → CkOk N kd e
theorem AllOk.nil {N : Nat} {l : List D} (h : AllOk N [] l) : l = [] := by simpa using h.1
theorem AllOk.cons {N : Nat} {k : Ck} {ks : List Ck} {l : List D} (h : AllOk N (k :: ks) l) : ∃ d r, l = d :: r ∧ CkOk N k d ∧ AllOk N ks r := by
  obtain ⟨h1, h2⟩ := h
  match l, h1 with
  | d :: r, h1 => exact ⟨d, r, rfl, h2 0 k d rfl rfl, by simpa using h1, fun i kd e hi he => h2 (i + 1) kd e (by simpa using hi) (by simpa using he)⟩
theorem AllOk.app {N : Nat} {ks ks' : List Ck} {l : List D} (h : AllOk N (ks ++ ks') l) : ∃ a b, l = a ++ b ∧ AllOk N ks a ∧ AllOk N ks' b := by
  obtain ⟨h1, h2⟩ := h
  simp only [List.length_append] at h1
  refine ⟨l.take ks.length, l.drop ks.length, (List.take_append_drop _ _).symm, ⟨by simp; omega, fun i kd e hi he => ?_⟩, by simp; omega, fun i kd e hi he => ?_⟩
  · have hlt := (List.getElem?_eq_some_iff.1 hi).1
    refine h2 i kd e (by rw [List.getElem?_append_left hlt]; exact hi) ?_
    rw [List.getElem?_take] at he
    simpa [hlt] using he
  · refine h2 (ks.length + i) kd e (by rw [List.getElem?_append_right (by omega)]; simpa using hi) ?_
    rw [List.getElem?_drop] at he
    exact he

/-- An argument, opened: an aggregate. -/
theorem open_agg {tb : Tb} (hT : TbOk P tb) {N : Nat} (hN : N ≤ 4294967280) {w : World} {t : TypeId} {ks : List Ck} (ht : (tb t).map (fun i => i.d.isAgg) = some true) (hk : cks tb 12 t = some ks) {base : Nat} {v : Value} {d : DataW H} {ps : List MemPlace}
    (hv : Value.okWide P w .any base t v) (h : DataW.Trod enc P w 0 (fun _ => true) true t v d ps) (hb : Rows.uptoBulk d ≤ N) : ∃ l, AllOk N ks l ∧ KR (allK w) w (.agg l) v := by
  obtain ⟨ti, ht, hagg⟩ := Option.map_eq_some_iff.1 ht
  obtain ⟨fuel, h⟩ := h
  obtain ⟨l, h1, h2, h3, h4⟩ := trod_opn hT hN 12 t ks hk fuel _ _ h hb
  obtain ⟨i, dd, z, hi, hu, _, _, _, _, _, hdd, _⟩ := hT.info ht
  have hcs : ∃ cs, v = .agg cs := by
    unfold Value.okWide at hv
    rw [hu] at hv
    rw [← descOk_agg hdd] at hagg
    cases dd <;> simp [aggD] at hagg
    · obtain ⟨cs, e, _⟩ := hv; exact ⟨cs, e⟩
    · obtain ⟨cs, e, _⟩ := hv; exact ⟨cs, e⟩
  obtain ⟨cs, rfl⟩ := hcs
  have hc : (Value.agg cs).cells.toList = cs.toList := rfl
  rw [hc] at h2 h4
  refine ⟨l, ⟨h1, h3⟩, .agg l cs (by simp at h2; omega) (fun i hi => ?_) (fun i d hd => ?_)⟩
  · have hi' : i < cs.size := by simp at h2; omega
    have := (h4 i _ cs[i] (List.getElem?_eq_getElem hi) (by simp [hi'])).2
    simpa [hi'] using this
  · have hi : i < l.length := (List.getElem?_eq_some_iff.1 hd).1
    have hi' : i < cs.size := by simp at h2; omega
    have := (h4 i d cs[i] hd (by simp [hi'])).1
    simpa [hi'] using this
/-- An argument, opened: one cell. -/
theorem open_one {tb : Tb} (hT : TbOk P tb) {N : Nat} (hN : N ≤ 4294967280) {w : World} {t : TypeId} {k : Ck} (ht : (tb t).map (fun i => i.d.isAgg) = some false) (hk : cks tb 12 t = some [k]) {base : Nat} {v : Value} {d : DataW H} {ps : List MemPlace}
    (hv : Value.okWide P w .any base t v) (h : DataW.Trod enc P w 0 (fun _ => true) true t v d ps) (hb : Rows.uptoBulk d ≤ N) : ∃ e, CkOk N k e ∧ KR (allK w) w e v := by
  obtain ⟨ti, ht, hagg⟩ := Option.map_eq_some_iff.1 ht
  obtain ⟨fuel, h⟩ := h
  obtain ⟨l, h1, h2, h3, h4⟩ := trod_opn hT hN 12 t [k] hk fuel _ _ h hb
  obtain ⟨i, dd, z, hi, hu, _, _, _, _, _, hdd, _⟩ := hT.info ht
  have hone : oneC v = true := by
    unfold Value.okWide at hv
    rw [hu] at hv
    rw [← descOk_agg hdd] at hagg
    cases v with
    | agg cs => cases dd <;> simp [aggD, Cell.okWide, Cell.ok, hu] at hagg hv
    | tuple cs => cases dd <;> simp [aggD, Cell.okWide, Cell.ok, hu] at hagg hv
    | _ => rfl
  have hc : v.cells.toList = [v] := by cases v <;> first | rfl | simp [oneC] at hone
  rw [hc] at h4
  match l, h1 with
  | [e], _ => exact ⟨e, h3 0 k e rfl rfl, (h4 0 e v rfl rfl).1⟩
end
end Go.Ev
namespace Go.Proofs.YtbjpkbolmpcmfaaDoor
open Go Go.Ev Go.ChangeShapes Go.WideShapes Go.ChangeAt Go.RowKit
theorem own : ownKnob Tryd.prog.godebug = none := by kernel_rfl
theorem laidOut : laidOutB Tryd.prog = true := by kernel_rfl
def litVal : Lit → Value
  | .int k n => .int k n
  | .bool b => .bool b
  | _ => .bool false
mutual
def dataCells {H : Type} : DataW H → List Value
  | .lit l => [litVal l]
  | .agg l => dataCellsAll l
  | _ => []
def dataCellsAll {H : Type} : List (DataW H) → List Value
  | [] => []
  | d :: r => dataCells d ++ dataCellsAll r
end
def putCells (g : Nat) (d : DataW Unit) (h : Array Obj) : Array Obj := h.modify g fun
  | .cells _ t frozen => .cells (dataCells d).toArray t frozen
  | o => o
noncomputable def laidWorld (os : Os) : World :=
  { World.holding Tryd.prog os ⟨#[], #[], []⟩ with heap := putCells 1 Rows.laid_unicode_utf8_first (putCells 2 Rows.laid_unicode_utf8_acceptRanges (World.holding Tryd.prog os ⟨#[], #[], []⟩).heap) }
theorem whole_small {H : Type} {o : Option (List (DataW H) × List (DataW H) × List MemPlace)} (h : (o.any fun x => Rows.uptoSmall H x.1 && x.2.1.isEmpty) = true) : ∃ ds places, o = some (ds, [], places) ∧ Rows.uptoSmall H (ds ++ []) = true := by
  cases o with
  | none => cases h
  | some x =>
    obtain ⟨ds, gs, ps⟩ := x
    simp only [Option.any_some, Bool.and_eq_true, List.isEmpty_iff] at h
    obtain ⟨h1, rfl⟩ := h
    exact ⟨ds, ps, rfl, by rw [List.append_nil]; exact h1⟩
theorem bulk_app {H : Type} (l r : List (DataW H)) : Rows.uptoBulkAll l ≤ Rows.uptoBulkAll (l ++ r) := by
  induction l with
  | nil => simp [Rows.uptoBulkAll]
  | cons x l ih => simp only [List.cons_append, Rows.uptoBulkAll]; omega
theorem bulk_of {H : Type} {ds gs : List (DataW H)} (h : Rows.uptoSmall H (ds ++ gs) = true) : Rows.uptoBulkAll ds ≤ 1048576 :=
  Nat.le_trans (bulk_app ds gs) (of_decide_eq_true h)
theorem stand_of {P : Program} {ts : Array TypeId} (h : (ts.toList.all fun t => !P.wantsStandIn t) = true) : ∀ (j : Nat) t, ts[j]? = some t → P.wantsStandIn t = false := fun j t ht => by
  have := List.all_eq_true.1 h t (by simpa using Array.mem_of_getElem? ht)
  simpa using this
theorem gl_of {W : World} (h : W.ShapedOpen Tryd.prog) : Gl gl (allK W) W := by
  intro x hx
  simp only [gl, List.mem_cons, List.mem_nil_iff, or_false] at hx
  subst hx
  obtain ⟨m, hm⟩ := Tryd.laysM146.s1_3 W h
  exact ⟨World.block_lt_of_cell? W _ hm, _, hm, m, rfl⟩
end Go.Proofs.YtbjpkbolmpcmfaaDoor
namespace Go.Cb
open Go Go.Ev
theorem ck_I {N : Nat} {d : D} (h : CkOk N (.int .i64) d) : ∃ n, d = I n ∧ inI n := by
  cases h with
  | int _ n h => exact ⟨n, rfl, by simpa [Lit.wf, IntKind.min, IntKind.max, IntKind.signed, IntKind.bits, inI] using h⟩
theorem ck_u8 {N : Nat} {d : D} (h : CkOk N (.int .u8) d) : ∃ n, d = NumD .u8 n ∧ u8In n := by
  cases h with
  | int _ n h => exact ⟨n, rfl, by simpa [Lit.wf, IntKind.min, IntKind.max, IntKind.signed, IntKind.bits, u8In] using h⟩
theorem ck_u16 {N : Nat} {d : D} (h : CkOk N (.int .u16) d) : ∃ n, d = NumD .u16 n ∧ u16In n := by
  cases h with
  | int _ n h => exact ⟨n, rfl, by simpa [Lit.wf, IntKind.min, IntKind.max, IntKind.signed, IntKind.bits, u16In] using h⟩
theorem ck_u32 {N : Nat} {d : D} (h : CkOk N (.int .u32) d) : ∃ n, d = NumD .u32 n ∧ u32In n := by
  cases h with
  | int _ n h => exact ⟨n, rfl, by simpa [Lit.wf, IntKind.min, IntKind.max, IntKind.signed, IntKind.bits, u32In] using h⟩
def kHd : List Ck := [.int .u32, .int .u32, .int .u32, .int .u32, .int .u8, .int .u8, .int .u16]
theorem op_Hd {N : Nat} {l : List D} (h : AllOk N kHd l) : ∃ a : Hd, l = sHd.enc a ∧ HdIn a := by
  obtain ⟨_, _, rfl, h0, h⟩ := h.cons
  obtain ⟨_, _, rfl, h1, h⟩ := h.cons
  obtain ⟨_, _, rfl, h2, h⟩ := h.cons
  obtain ⟨_, _, rfl, h3, h⟩ := h.cons
  obtain ⟨_, _, rfl, h4, h⟩ := h.cons
  obtain ⟨_, _, rfl, h5, h⟩ := h.cons
  obtain ⟨_, _, rfl, h6, h⟩ := h.cons
  obtain rfl := h.nil
  obtain ⟨n0, rfl, i0⟩ := ck_u32 h0
  obtain ⟨n1, rfl, i1⟩ := ck_u32 h1
  obtain ⟨n2, rfl, i2⟩ := ck_u32 h2
  obtain ⟨n3, rfl, i3⟩ := ck_u32 h3
  obtain ⟨n4, rfl, i4⟩ := ck_u8 h4
  obtain ⟨n5, rfl, i5⟩ := ck_u8 h5
  obtain ⟨n6, rfl, i6⟩ := ck_u16 h6
  exact ⟨⟨n0, n1, n2, n3, n4, n5, n6⟩, rfl, i0, i1, i2, i3, i4, i5, i6⟩
def kFw : List Ck := [.int .u32, .int .u32, .int .u32, .int .u16, .int .u16, .int .u32, .int .u32, .int .u32, .int .u32, .int .u16, .int .u16, .int .u8, .int .u8, .int .u8, .int .u16, .int .u16, .int .u8, .int .u8]
theorem op_Fw {N : Nat} {l : List D} (h : AllOk N kFw l) : ∃ a : Fw, l = sFw.enc a ∧ FwIn a := by
  obtain ⟨_, _, rfl, h0, h⟩ := h.cons
  obtain ⟨_, _, rfl, h1, h⟩ := h.cons
  obtain ⟨_, _, rfl, h2, h⟩ := h.cons
  obtain ⟨_, _, rfl, h3, h⟩ := h.cons
  obtain ⟨_, _, rfl, h4, h⟩ := h.cons
  obtain ⟨_, _, rfl, h5, h⟩ := h.cons
  obtain ⟨_, _, rfl, h6, h⟩ := h.cons
  obtain ⟨_, _, rfl, h7, h⟩ := h.cons
  obtain ⟨_, _, rfl, h8, h⟩ := h.cons
  obtain ⟨_, _, rfl, h9, h⟩ := h.cons
  obtain ⟨_, _, rfl, h10, h⟩ := h.cons
  obtain ⟨_, _, rfl, h11, h⟩ := h.cons
  obtain ⟨_, _, rfl, h12, h⟩ := h.cons
  obtain ⟨_, _, rfl, h13, h⟩ := h.cons
  obtain ⟨_, _, rfl, h14, h⟩ := h.cons
  obtain ⟨_, _, rfl, h15, h⟩ := h.cons
  obtain ⟨_, _, rfl, h16, h⟩ := h.cons
  obtain ⟨_, _, rfl, h17, h⟩ := h.cons
  obtain rfl := h.nil
  obtain ⟨n0, rfl, i0⟩ := ck_u32 h0
  obtain ⟨n1, rfl, i1⟩ := ck_u32 h1
  obtain ⟨n2, rfl, i2⟩ := ck_u32 h2
  obtain ⟨n3, rfl, i3⟩ := ck_u16 h3
  obtain ⟨n4, rfl, i4⟩ := ck_u16 h4
  obtain ⟨n5, rfl, i5⟩ := ck_u32 h5
  obtain ⟨n6, rfl, i6⟩ := ck_u32 h6
  obtain ⟨n7, rfl, i7⟩ := ck_u32 h7
  obtain ⟨n8, rfl, i8⟩ := ck_u32 h8
  obtain ⟨n9, rfl, i9⟩ := ck_u16 h9
  obtain ⟨n10, rfl, i10⟩ := ck_u16 h10
  obtain ⟨n11, rfl, i11⟩ := ck_u8 h11
  obtain ⟨n12, rfl, i12⟩ := ck_u8 h12
  obtain ⟨n13, rfl, i13⟩ := ck_u8 h13
  obtain ⟨n14, rfl, i14⟩ := ck_u16 h14
  obtain ⟨n15, rfl, i15⟩ := ck_u16 h15
  obtain ⟨n16, rfl, i16⟩ := ck_u8 h16
  obtain ⟨n17, rfl, i17⟩ := ck_u8 h17
  exact ⟨⟨n0, n1, n2, n3, n4, n5, n6, n7, n8, n9, n10, n11, n12, n13, n14, n15, n16, n17⟩, rfl, i0, i1, i2, i3, i4, i5, i6, i7, i8, i9, i10, i11, i12, i13, i14, i15, i16, i17⟩
def kB8 : List Ck := [.int .u8]
theorem op_B8 {N : Nat} {l : List D} (h : AllOk N kB8 l) : ∃ a : Int, l = sU8.enc a ∧ byteIn a := by
  obtain ⟨_, _, rfl, h0, h⟩ := h.cons
  obtain rfl := h.nil
  obtain ⟨n, rfl, i⟩ := ck_u8 h0
  exact ⟨n, rfl, i⟩
theorem ck_list {A : Type} {N : Nat} {c : Cs A} {ks : List Ck} {In : A → Prop} (z : A) (hop : ∀ l, AllOk N ks l → ∃ a, l = c.enc a ∧ In a) {d : D} (h : CkOk N (.sl ks) d) :
    ∃ l : List A, l.length ≤ N ∧ (∀ a ∈ l, In a) ∧ ∀ {K w r}, KR K w d r → KR K w ((c.list ks.length z).enc l) r := by
  cases h with
  | sl _ n g hn hl hk =>
    have : Inhabited A := ⟨z⟩
    obtain ⟨F, hF⟩ := Go.Deep.choose_lt (n := n) (p := fun i (a : A) => g i = c.enc a ∧ In a) (fun i hi => hop (g i) ⟨hl i hi, fun j kd e h1 h2 => hk i j kd e hi h1 h2⟩)
    refine ⟨(List.range n).map F, by simpa using hn, fun a ha => ?_, fun {K w r} hr => ?_⟩
    · obtain ⟨i, hi, rfl⟩ := List.mem_map.1 ha
      exact (hF i (by simpa using hi)).2
    · have hlen : ((List.range n).map F).length = n := by simp
      show KR K w (slD c ks.length z ((List.range n).map F)) r
      unfold slD
      rw [hlen]
      refine hr.sl_congr fun i hi => ?_
      rw [(hF i hi).1]
      congr 1
      simp [hi]
/-! Zero arguments for the witnesses. -/
abbrev zHd : Value := .agg #[.int .u32 0, .int .u32 0, .int .u32 0, .int .u32 0, .int .u8 0, .int .u8 0, .int .u16 0]
abbrev zI : Value := .int .i64 0
abbrev zB : Value := .int .u8 0
abbrev zBs : Value := .slice none 0 0
abbrev zFws : Value := .slice none 0 0
end Go.Cb
namespace Go.Proofs.YtbjpkbolmpcmfaaDoor
open Go Go.Ev Go.Cb Go.ChangeShapes Go.WideShapes Go.ChangeAt Go.RowKit
section
set_option maxRecDepth 100000
variable {w : World} {N base : Nat} {v : Value} {H : Type} {enc : TypeId × Value → H} {d : DataW H} {ps : List MemPlace}
theorem arg_Hd (hN : N ≤ 4294967280) (hv : Value.okWide Tryd.prog w .any base 26 v) (h : DataW.Trod enc Tryd.prog w 0 (fun _ => true) true 26 v d ps) (hb : Rows.uptoBulk d ≤ N) :
    ∃ a : Hd, KR (allK w) w (cHd.enc a) v ∧ HdIn a := by
  obtain ⟨l, h1, h2⟩ := open_agg tb_ok hN (ks := kHd) (by kernel_rfl) (by kernel_rfl) hv h hb
  obtain ⟨a, rfl, ha⟩ := op_Hd h1
  exact ⟨a, h2, ha⟩
theorem arg_I (hN : N ≤ 4294967280) (hv : Value.okWide Tryd.prog w .any base 3 v) (h : DataW.Trod enc Tryd.prog w 0 (fun _ => true) true 3 v d ps) (hb : Rows.uptoBulk d ≤ N) :
    ∃ n, KR (allK w) w (cI.enc n) v ∧ inI n := by
  obtain ⟨e, h1, h2⟩ := open_one tb_ok hN (k := .int .i64) (by kernel_rfl) (by kernel_rfl) hv h hb
  obtain ⟨n, rfl, hn⟩ := ck_I h1
  exact ⟨n, h2, hn⟩
theorem arg_B (hN : N ≤ 4294967280) (hv : Value.okWide Tryd.prog w .any base 5 v) (h : DataW.Trod enc Tryd.prog w 0 (fun _ => true) true 5 v d ps) (hb : Rows.uptoBulk d ≤ N) :
    ∃ n, KR (allK w) w ((cNum .u8).enc n) v ∧ byteIn n := by
  obtain ⟨e, h1, h2⟩ := open_one tb_ok hN (k := .int .u8) (by kernel_rfl) (by kernel_rfl) hv h hb
  obtain ⟨n, rfl, hn⟩ := ck_u8 h1
  exact ⟨n, h2, hn⟩
theorem arg_Fws (hN : N ≤ 4294967280) (hv : Value.okWide Tryd.prog w .any base 27 v) (h : DataW.Trod enc Tryd.prog w 0 (fun _ => true) true 27 v d ps) (hb : Rows.uptoBulk d ≤ N) :
    ∃ l : List Fw, KR (allK w) w (cFws.enc l) v ∧ l.length ≤ N ∧ ∀ a ∈ l, FwIn a := by
  obtain ⟨e, h1, h2⟩ := open_one tb_ok hN (k := .sl kFw) (by kernel_rfl) (by kernel_rfl) hv h hb
  obtain ⟨l, l1, l2, l3⟩ := ck_list fw0 (fun _ h => op_Fw h) h1
  exact ⟨l, l3 h2, l1, l2⟩
theorem arg_Bs (hN : N ≤ 4294967280) (hv : Value.okWide Tryd.prog w .any base 22 v) (h : DataW.Trod enc Tryd.prog w 0 (fun _ => true) true 22 v d ps) (hb : Rows.uptoBulk d ≤ N) :
    ∃ l : List Int, KR (allK w) w (cBs.enc l) v ∧ l.length ≤ N ∧ ∀ a ∈ l, byteIn a := by
  obtain ⟨e, h1, h2⟩ := open_one tb_ok hN (k := .sl kB8) (by kernel_rfl) (by kernel_rfl) hv h hb
  obtain ⟨l, l1, l2, l3⟩ := ck_list 0 (fun _ h => op_B8 h) h1
  exact ⟨l, l3 h2, l1, l2⟩
end
end Go.Proofs.YtbjpkbolmpcmfaaDoor
