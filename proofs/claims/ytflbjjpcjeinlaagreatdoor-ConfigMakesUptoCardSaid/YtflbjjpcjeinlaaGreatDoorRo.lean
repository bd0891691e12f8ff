/- A row closed: a law whose call gives true, by the evaluator's contract. -/
import Derived.Test.YtflbjjpcjeinlaaGreatDoorOp
import Derived.Test.YtflbjjpcjeinlaaGreatDoorShelf
import Derived.Below
import Derived.ChangeSame
import Derived.WideKeyArgs
namespace Go.Ev
open Go Go.RowKit Go.WideShapes Go.ChangeShapes Go.Proofs.YtflbjjpcjeinlaaGreatDoor

section
variable {H : Type} {enc : TypeId × Value → H} {P : Program}
theorem trodAll_stays (hl : laidOutB P = true) {W W' : World} {sp : Nat → Bool} : ∀ {ts : List TypeId} {vs : List Value} {ds : List (DataW H)} {ps : List MemPlace}, (∀ t ∈ ts, P.readableRec t = true ∧ t < P.types.size) →
    DataW.TrodAll enc P W 0 (fun _ => true) true ts vs ds ps → (∀ p ∈ ps, W.sameAt W' p) → (∀ p ∈ ps, sp p.block = true) → DataW.TrodAll enc P W' 0 sp true ts vs ds ps
  | [], vs, ds, ps, _, h, _, _ => by
    obtain ⟨rfl, rfl, rfl⟩ := trodAll_nil h
    exact rfl
  | t :: ts, vs, ds, ps, ht, h, h1, h2 => by
    obtain ⟨v, vs', d, ds', p, q, rfl, rfl, rfl, h0, hr⟩ := trodAll_cons h
    refine ⟨p, q, WideElems.Trod_stays hl (ht t (by simp)).1 (ht t (by simp)).2 h0 (fun x hx => h1 x (by simp [hx])) (fun x hx => h2 x (by simp [hx])), trodAll_stays hl (fun t' ht' => ht t' (by simp [ht'])) hr (fun x hx => h1 x (by simp [hx])) (fun x hx => h2 x (by simp [hx])), rfl⟩

/-- **A law that gives true.** -/
theorem row_close {f : FuncId} {fn : Func} {s : ChangeSpec} {tb_ : TypeId} {gl : Gls} (hl : laidOutB P = true) (hvars : s.vars = []) (hrt : fn.resultTypes = #[tb_]) (hub : P.underlying tb_ = some .bool)
    (hpar : ∀ t ∈ fn.params.toList, P.readableRec t = true ∧ t < P.types.size) {W : World} {args : Array Value} {ds gs : List (DataW H)} {before : List MemPlace}
    (hW : DataW.Whole enc P fn.params.toList s.vars false W args.toList ds gs before) (hfn : s.fn H ds = { results := [.lit (.bool true)], args := ds }) (hgl : Gl gl (allK W) W)
    {dargs : List D} (hspec : Spec P gl f dargs (B true)) (hsz : args.size = dargs.length) (hkr : ∀ (i : Nat) d, dargs[i]? = some d → KR (allK W) W d (args.getD i undef)) :
    Calls P f args W fun e W' => ∃ v, e = .returned v ∧ s.post enc P fn false true false false W args v W' := by
  refine (hspec (allK W) W args hgl (fun b o h => h) hsz hkr).mono fun e W' ⟨r, K', he, _, _, _, hr, hb⟩ => ?_
  have : r = .bool true := by cases hr; rfl
  subst this
  refine ⟨_, he, ?_⟩
  have hW' := hW
  obtain ⟨p, q, hA, hV, hps, hfz, hnd⟩ := hW
  rw [hvars] at hV
  obtain ⟨rfl, rfl⟩ := trodVars_none hV
  rw [List.append_nil] at hps
  subst hps
  have hlt : ∀ p ∈ before, p.block < W.heap.size := fun p hp => hW'.lt p hp
  have hsame : ∀ p ∈ before, W.sameAt W' p := fun p hp => hb.same (hlt p hp)
  have res : ∀ (b : Nat) (sp : Nat → Bool) (hd : Bool), DataW.TrodAll enc P W' b sp hd fn.resultTypes.toList ((Value.bool true).resultList fn.resultTypes.size) (s.fn H (ds ++ [])).results [] := fun b sp hd => by
    rw [List.append_nil, hfn, hrt]
    exact ⟨[], [], ⟨1, by simp [DataW.trod, hub, Value.cells]⟩, rfl, rfl⟩
  have ars : ∀ sp : Nat → Bool, (∀ p ∈ before, sp p.block = true) → DataW.TrodAll enc P W' 0 sp true fn.params.toList args.toList (s.fn H (ds ++ [])).args before := fun sp hsp => by
    rw [List.append_nil, hfn]
    exact trodAll_stays hl hpar hA hsame hsp
  have vrs : ∀ sp : Nat → Bool, DataW.TrodVars enc P W' sp s.vars (s.fn H (ds ++ [])).vars [] := fun sp => by
    rw [List.append_nil, hfn, hvars]
    exact rfl
  exact ⟨ds, [], before, [], before, [], hW', res _ _ _, ars _ (fun p hp => by simpa using hlt p hp), vrs _, World.keptBut_mono (fun p hp => ⟨hp, .inr (by simpa using hp)⟩) (hb.frame (· ∈ before)), fun h => by cases h⟩

/-- Data that is of its kinds. -/
def AllOk (N : Nat) (ks : List Ck) (l : List D) : Prop := l.length = ks.length ∧ ∀ (i : Nat) kd e, ks[i]? = some kd → l[i]? = some e → CkOk N kd e
theorem AllOk.nil {N : Nat} {l : List D} (h : AllOk N [] l) : l = [] := by simpa using h.1
theorem AllOk.cons {N : Nat} {k : Ck} {ks : List Ck} {l : List D} (h : AllOk N (k :: ks) l) : ∃ d r, l = d :: r ∧ CkOk N k d ∧ AllOk N ks r := by
  obtain ⟨h1, h2⟩ := h
  match l, h1 with
  | d :: r, h1 => exact ⟨d, r, rfl, h2 0 k d rfl rfl, by simpa using h1, fun i kd e hi he => h2 (i + 1) kd e (by simpa using hi) (by simpa using he)⟩
theorem AllOk.app {N : Nat} {ks ks' : List Ck} {l : List D} (h : AllOk N (ks ++ ks') l) : ∃ a b, l = a ++ b ∧ AllOk N ks a ∧ AllOk N ks' b := by
  obtain ⟨h1, h2⟩ := h
  simp only [List.length_append] at h1
  refine ⟨l.take ks.length, l.drop ks.length, (List.take_append_drop _ _).symm, ⟨by simp; omega, fun i kd e hi he => ?_⟩, by simp; omega, fun i kd e hi he => ?_⟩
  · have hlt := (List.getElem?_eq_some_iff.1 hi).1
    refine h2 i kd e (by rw [List.getElem?_append_left hlt]; exact hi) ?_
    rw [List.getElem?_take] at he
    simpa [hlt] using he
  · refine h2 (ks.length + i) kd e (by rw [List.getElem?_append_right (by omega)]; simpa using hi) ?_
    rw [List.getElem?_drop] at he
    exact he

/-- An argument, opened: an aggregate. -/
theorem open_agg {tb : Tb} (hT : TbOk P tb) {N : Nat} (hN : N ≤ 4294967280) {w : World} {t : TypeId} {ks : List Ck} (ht : (tb t).map (fun i => i.d.isAgg) = some true) (hk : cks tb 12 t = some ks) {base : Nat} {v : Value} {d : DataW H} {ps : List MemPlace}
    (hv : Value.okWide P w .any base t v) (h : DataW.Trod enc P w 0 (fun _ => true) true t v d ps) (hb : Rows.uptoBulk d ≤ N) : ∃ l, AllOk N ks l ∧ KR (allK w) w (.agg l) v := by
  obtain ⟨ti, ht, hagg⟩ := Option.map_eq_some_iff.1 ht
  obtain ⟨fuel, h⟩ := h
  obtain ⟨l, h1, h2, h3, h4⟩ := trod_opn hT hN 12 t ks hk fuel _ _ h hb
  obtain ⟨i, dd, z, hi, hu, _, _, _, _, _, hdd, _⟩ := hT.info ht
  have hcs : ∃ cs, v = .agg cs := by
    unfold Value.okWide at hv
    rw [hu] at hv
    rw [← descOk_agg hdd] at hagg
    cases dd <;> simp [aggD] at hagg
    · obtain ⟨cs, e, _⟩ := hv; exact ⟨cs, e⟩
    · obtain ⟨cs, e, _⟩ := hv; exact ⟨cs, e⟩
  obtain ⟨cs, rfl⟩ := hcs
  have hc : (Value.agg cs).cells.toList = cs.toList := rfl
  rw [hc] at h2 h4
  refine ⟨l, ⟨h1, h3⟩, .agg l cs (by simp at h2; omega) (fun i hi => ?_) (fun i d hd => ?_)⟩
  · have hi' : i < cs.size := by simp at h2; omega
    have := (h4 i _ cs[i] (List.getElem?_eq_getElem hi) (by simp [hi'])).2
    simpa [hi'] using this
  · have hi : i < l.length := (List.getElem?_eq_some_iff.1 hd).1
    have hi' : i < cs.size := by simp at h2; omega
    have := (h4 i d cs[i] hd (by simp [hi'])).1
    simpa [hi'] using this
/-- An argument, opened: one cell. -/
theorem open_one {tb : Tb} (hT : TbOk P tb) {N : Nat} (hN : N ≤ 4294967280) {w : World} {t : TypeId} {k : Ck} (ht : (tb t).map (fun i => i.d.isAgg) = some false) (hk : cks tb 12 t = some [k]) {base : Nat} {v : Value} {d : DataW H} {ps : List MemPlace}
    (hv : Value.okWide P w .any base t v) (h : DataW.Trod enc P w 0 (fun _ => true) true t v d ps) (hb : Rows.uptoBulk d ≤ N) : ∃ e, CkOk N k e ∧ KR (allK w) w e v := by
  obtain ⟨ti, ht, hagg⟩ := Option.map_eq_some_iff.1 ht
  obtain ⟨fuel, h⟩ := h
  obtain ⟨l, h1, h2, h3, h4⟩ := trod_opn hT hN 12 t [k] hk fuel _ _ h hb
  obtain ⟨i, dd, z, hi, hu, _, _, _, _, _, hdd, _⟩ := hT.info ht
  have hone : oneC v = true := by
    unfold Value.okWide at hv
    rw [hu] at hv
    rw [← descOk_agg hdd] at hagg
    cases v with
    | agg cs => cases dd <;> simp [aggD, Cell.okWide, Cell.ok, hu] at hagg hv
    | tuple cs => cases dd <;> simp [aggD, Cell.okWide, Cell.ok, hu] at hagg hv
    | _ => rfl
  have hc : v.cells.toList = [v] := by cases v <;> first | rfl | simp [oneC] at hone
  rw [hc] at h4
  match l, h1 with
  | [e], _ => exact ⟨e, h3 0 k e rfl rfl, (h4 0 e v rfl rfl).1⟩
end
end Go.Ev
