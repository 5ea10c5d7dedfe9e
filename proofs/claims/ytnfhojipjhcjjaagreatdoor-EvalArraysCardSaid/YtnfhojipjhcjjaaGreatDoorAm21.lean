/-
  REGIONS WHOSE ORDER IS DRAWN, THIRD PART: one more operation is carried out. Conditions: as each lemma names them.
-/
import Derived.Test.YtnfhojipjhcjjaaGreatDoorAm20
namespace Go.Am
set_option autoImplicit false
set_option linter.unusedVariables false
set_option linter.unusedSimpArgs false

section
variable {P : Program} {gl : Nat → Option (List V)} {inl : FuncId → Bool} {call : CallF}

/-- What holds when some of the operations are behind. -/
structure J (R : Run P gl inl call) (s0 : St) (S : Array Bool) (s : St) (a : Act) : Prop where
  inv : Inv gl s
  ext : Ext s0 s
  slots : ∃ t, Slots s t a ∧ t.length = (R.T 0).length ∧ ∀ d, ∃ m, Cut (Done S) (fun i => ∃ q, R.l[i]? = some q ∧ q.dst = some d) R.l.length m ∧ t.getD d .und = (R.T m).getD d .und
  off : ∀ id, id < (R.H 0).length → s0.G id = none → s.G id = none ∧ ∀ i, i < R.l.length → Done S i → (R.H (i + 1))[id]? = (R.H i)[id]?
  obj : ∀ id, id < (R.H R.l.length).length → ¬ (id < (R.H 0).length ∧ s0.G id = none) → ∃ m, Cut (Done S) (R.Wr id) R.l.length m ∧ (s.G id).map Ob.frozen = ((R.H m)[id]?).map Ob.frozen
  far : ∀ id, (R.H R.l.length).length ≤ id → s.G id = s0.G id
  flag : ∀ id m, m ≤ R.l.length → isMut (R.H m)[id]? → s.G id ≠ none → isMut (s.G id) ∨ ∃ i, i < R.l.length ∧ Done S i ∧ R.Fz i id
  M : ∀ id, s0.M id = none → (∀ j, j < R.l.length → Done S j → ¬ ((R.H j).length ≤ id ∧ id < (R.H (j + 1)).length)) → s.M id = none
  grow : ∀ id, s0.G id ≠ none → s.G id ≠ none
  closed : Closed R.ops S
  size : S.size = R.ops.size

/-- What one operation does. -/
structure StepR (R : Run P gl inl call) (j : Nat) (s s' : St) : Prop where
  inv : Inv gl s'
  ext : Ext s s'
  far : ∀ id, (R.H (j + 1)).length ≤ id → s'.G id = s.G id
  new : ∀ id, (R.H j).length ≤ id → id < (R.H (j + 1)).length → AgrAt s'.G (R.H (j + 1)) id
  off : ∀ id, id < (R.H j).length → (¬ R.TF j id ∨ s.G id = none) → s'.G id = s.G id ∧ (R.H (j + 1))[id]? = (R.H j)[id]?
  on : ∀ id, id < (R.H j).length → R.TF j id → s.G id ≠ none → s'.G id ≠ none ∧ ((s.G id).map Ob.frozen = ((R.H j)[id]?).map Ob.frozen → (s'.G id).map Ob.frozen = ((R.H (j + 1))[id]?).map Ob.frozen) ∧
    (isMut (s.G id) → isMut (s'.G id) ∨ R.Fz j id)
  M : ∀ id, s.M id = none → (id < (R.H j).length ∨ (R.H (j + 1)).length ≤ id) → s'.M id = none

variable (R : Run P gl inl call) (hcall : CallOK P gl inl call) {s0 s s' : St} {S : Array Bool} {a : Act} {j : Nat}

/-- May an operation be carried out now? -/
structure Now (R : Run P gl inl call) (S : Array Bool) (j : Nat) : Prop where
  lt : j < R.l.length
  not : ¬ Done S j
  dep : ∀ o, R.ops[j]? = some o → ∀ e ∈ o.after, Region.binds .any e = true → Done S e.on

theorem Now.before (hn : Now R S j) (hJ : J R s0 S s a) {i : Nat} (h : ((ancs R.ops.toList).getD j 0).testBit i = true) : Done S i :=
  anc_done hJ.closed j i hn.dep (by have := hn.lt; rw [← R.len]; exact this) h

theorem Now.behind (hn : Now R S j) (hJ : J R s0 S s a) {i : Nat} (hi : i < R.l.length) (h : ((ancs R.ops.toList).getD i 0).testBit j = true) : ¬ Done S i := fun hd =>
  hn.not (anc_done hJ.closed i j (fun o ho e he hb => hJ.closed i o ho hd e he hb) (by rw [← R.len]; exact hi) h)

include hcall

theorem J.some_alloc (hJ : J R s0 S s a) {i id : Nat} (hi : i < R.l.length) (h1 : (R.H i).length ≤ id) (h2 : id < (R.H (i + 1)).length) (hG : s.G id ≠ none) : Done S i := by
  have hlt : id < (R.H R.l.length).length := Nat.lt_of_lt_of_le h2 (R.lensL hcall (by omega) (Nat.le_refl _))
  have h0 := R.lensL hcall (Nat.zero_le i) (Nat.le_of_lt hi)
  obtain ⟨m, hc, hm⟩ := hJ.obj id hlt (fun k => by omega)
  have hw : R.Wr id i := by
    unfold Run.Wr
    rw [List.getElem?_eq_none h1, List.getElem?_eq_getElem h2]; simp
  rw [hc.2 i hi hw]
  rcases Nat.lt_or_ge i m with k | k
  · exact k
  · exfalso
    have hl := R.lensL hcall k (Nat.le_of_lt hi)
    rw [List.getElem?_eq_none (by omega)] at hm
    apply hG
    cases hg : s.G id with
    | none => rfl
    | some x => rw [hg] at hm; simp at hm

theorem J.cut_at (hJ : J R s0 S s a) (hn : Now R S j) {id : Nat} (ht : R.TF j id) (hG : s.G id ≠ none) : Cut (Done S) (R.Wr id) R.l.length j := by
  refine ⟨Nat.le_of_lt hn.lt, fun i hi hw => ?_⟩
  rcases Nat.lt_trichotomy i j with hij | hij | hij
  · refine ⟨fun _ => hij, fun _ => ?_⟩
    by_cases hid : id < (R.H i).length
    · exact hn.before R hJ (R.conf hcall hij hn.lt (.inl ⟨R.wr_wf hcall hi hid hw, ht⟩))
    · have h2 : id < (R.H (i + 1)).length := by
        rcases Nat.lt_or_ge id (R.H (i + 1)).length with k | k
        · exact k
        · exfalso; apply hw; rw [List.getElem?_eq_none (by omega), List.getElem?_eq_none (by omega)]
      exact hJ.some_alloc R hcall hi (by omega) h2 hG
  · subst hij; exact ⟨fun k => absurd k hn.not, fun k => absurd k (Nat.lt_irrefl _)⟩
  · refine ⟨fun k => ?_, fun k => by omega⟩
    exfalso
    have hid : id < (R.H i).length := Nat.lt_of_lt_of_le ht.1 (R.lensL hcall (Nat.le_of_lt hij) (Nat.le_of_lt hi))
    exact hn.behind R hJ hi (R.conf hcall hij hi (.inr ⟨ht, R.wr_wf hcall hi hid hw⟩)) k

theorem J.agr_at (hJ : J R s0 S s a) (hn : Now R S j) {id : Nat} (ht : R.TF j id) (hG : s.G id ≠ none) : (s.G id).map Ob.frozen = ((R.H j)[id]?).map Ob.frozen := by
  have hlt : id < (R.H R.l.length).length := Nat.lt_of_lt_of_le ht.1 (R.lensL hcall (Nat.le_of_lt hn.lt) (Nat.le_refl _))
  obtain ⟨m, hc, hm⟩ := hJ.obj id hlt (fun k => hG (hJ.off id k.1 k.2).1)
  rw [hm]
  exact cut_eq (X := fun m => ((R.H m)[id]?).map Ob.frozen) (fun i _ hw => by unfold Run.Wr at hw; exact Classical.not_not.1 hw) hc (hJ.cut_at R hcall hn ht hG)

theorem J.mut_at (hJ : J R s0 S s a) (hn : Now R S j) {id : Nat} (ht : R.WF j id) (hG : s.G id ≠ none) (hm : isMut (R.H j)[id]?) : isMut (s.G id) := by
  rcases hJ.flag id j (Nat.le_of_lt hn.lt) hm hG with k | ⟨i, hi, hd, hf, hnm⟩
  · exact k
  · exfalso
    rcases Nat.lt_trichotomy i j with hij | hij | hij
    · exact hnm (R.monoL hcall (i := i + 1) (j := j) (by omega) (Nat.le_of_lt hn.lt) (Nat.lt_of_lt_of_le hf.1 (R.lenS hcall hi)) hm)
    · subst hij; exact hn.not hd
    · exact hn.behind R hJ hi (R.conf hcall hij hi (.inl ⟨ht, hf⟩)) hd

omit hcall in
theorem eq_of_frozen {x y : Option Ob} (h : x.map Ob.frozen = y.map Ob.frozen) (h1 : isMut x) (h2 : isMut y) : x = y := by
  obtain ⟨p, rfl, hp⟩ := h1
  obtain ⟨q, rfl, hq⟩ := h2
  cases p <;> cases q <;> simp [Ob.frozen, Ob.mut] at h hp hq ⊢
  · exact ⟨by rw [hp, hq], h⟩
  · exact ⟨by rw [hp, hq], h.1, h.2⟩

theorem J.fresh (hJ : J R s0 S s a) (hn : Now R S j) (hp : PreC s0 (R.H 0) (R.H R.l.length)) {id : Nat} (h1 : (R.H j).length ≤ id) (h2 : id < (R.H (j + 1)).length) : s.M id = none ∧ s.G id = none := by
  have h0 := R.lensL hcall (Nat.zero_le j) (Nat.le_of_lt hn.lt)
  have hlt : id < (R.H R.l.length).length := Nat.lt_of_lt_of_le h2 (R.lensL hcall (by have := hn.lt; omega) (Nat.le_refl _))
  obtain ⟨k1, k2⟩ := hp.n id (by omega) hlt
  refine ⟨hJ.M id k1 (fun i hi hd hc => ?_), ?_⟩
  · rcases Nat.lt_trichotomy i j with hij | hij | hij
    · have := R.lensL hcall (i := i + 1) (j := j) (by omega) (Nat.le_of_lt hn.lt); omega
    · subst hij; exact hn.not hd
    · have := R.lensL hcall (i := j + 1) (j := i) (by omega) (Nat.le_of_lt hi); omega
  · cases hG : s.G id with
    | none => rfl
    | some x => exact absurd (hJ.some_alloc R hcall hn.lt h1 h2 (by rw [hG]; simp)) hn.not

theorem J.pre (hJ : J R s0 S s a) (hn : Now R S j) (hp : PreC s0 (R.H 0) (R.H R.l.length)) (ht : R.told j = true) : Pre s (R.H j) (R.H (j + 1)) (R.F j) := by
  obtain ⟨tc, hf, _⟩ := R.foot hcall hn.lt ht
  refine ⟨fun id hid hG => ?_, fun id hid hG => ?_, fun id h1 h2 => hJ.fresh R hcall hn hp h1 h2⟩
  · exact hJ.agr_at R hcall hn ⟨hf.lt id (.inl hid), .inl ⟨ht, .inl hid⟩⟩ hG
  · have hw : R.WF j id := ⟨hf.lt id (.inr hid), .inl ⟨ht, hid⟩⟩
    exact eq_of_frozen (hJ.agr_at R hcall hn (R.wf_tf hw) hG) (hJ.mut_at R hcall hn hw hG (hf.wmut id hid)) (hf.wmut id hid)

theorem J.preC (hJ : J R s0 S s a) (hn : Now R S j) (hp : PreC s0 (R.H 0) (R.H R.l.length)) (ht : R.told j = false) (hk : R.K j = true) : PreC s (R.H j) (R.H (j + 1)) := by
  refine ⟨fun id hid hG => ?_, fun id h1 h2 => hJ.fresh R hcall hn hp h1 h2⟩
  have hw : R.WF j id := ⟨hid, .inr ⟨ht, hk⟩⟩
  have hag := hJ.agr_at R hcall hn (R.wf_tf hw) hG
  exact ⟨hag, fun hm => eq_of_frozen hag (hJ.mut_at R hcall hn hw hG hm) hm⟩

theorem StepR.of_told {v : V} {c : Value} (hj : j < R.l.length) (ht : R.told j = true) (hq : PostT gl s (R.H j) (R.H (j + 1)) v (R.F j) s' c) : StepR R j s s' := by
  obtain ⟨tc, hf, _⟩ := R.foot hcall hj ht
  refine ⟨hq.inv, hq.ext, hq.far, fun id a b => .refl _ _ (hq.new id a b), fun id hid hh => ?_, fun id hid htf hG => ?_, hq.M⟩
  · have hr : id ∉ (R.F j).1 := fun k => hh.elim (fun h => h ⟨hid, .inl ⟨ht, .inl k⟩⟩) (fun h => hq.acc id (.inl k) h)
    have hw : id ∉ (R.F j).2 := fun k => hh.elim (fun h => h ⟨hid, .inl ⟨ht, .inr k⟩⟩) (fun h => hq.acc id (.inr k) h)
    refine ⟨hq.oth id hid hr hw, ?_⟩
    rcases hf.keep id hid hw with k | ⟨k, _⟩
    · exact k
    · exact absurd k hr
  · have hlt' : id < (R.H (j + 1)).length := Nat.lt_of_lt_of_le hid hf.len
    by_cases hw : id ∈ (R.F j).2
    · have e := hq.wr id hw
      refine ⟨by rw [e, List.getElem?_eq_getElem hlt']; simp, fun _ => by rw [e], fun _ => ?_⟩
      by_cases hm : isMut (R.H (j + 1))[id]?
      · left; rw [e]; exact hm
      · right; exact ⟨htf, hm⟩
    · by_cases hr : id ∈ (R.F j).1
      · have hk : ((R.H (j + 1))[id]?).map Ob.frozen = ((R.H j)[id]?).map Ob.frozen := by
          rcases hf.keep id hid hw with k | ⟨_, k⟩
          · rw [k]
          · rw [k, frozen_frozen]
        rcases hq.rd id hr hw with e | ⟨e, hm⟩
        · exact ⟨by rw [e]; exact hG, fun h => by rw [e, hk]; exact h, fun h => .inl (by rw [e]; exact h)⟩
        · exact ⟨by rw [e]; simpa using hG, fun h => by rw [e, frozen_frozen, hk]; exact h, fun _ => .inr ⟨htf, hm⟩⟩
      · exfalso
        rcases htf.2 with ⟨_, k⟩ | ⟨k, _⟩
        · rcases k with k | k
          · exact hr k
          · exact hw k
        · rw [ht] at k; cases k

omit hcall in
theorem StepR.of_untold (hj : j < R.l.length) (ht : R.told j = false) (hk : R.K j = true) (hq : PostC gl s (R.H j) (R.H (j + 1)) s') : StepR R j s s' := by
  refine ⟨hq.inv, hq.ext, hq.far, hq.new, fun id hid hh => ?_, fun id hid htf hG => ?_, hq.M⟩
  · have hG : s.G id = none := hh.elim (fun h => absurd ⟨hid, .inr ⟨ht, hk⟩⟩ h) (fun h => h)
    obtain ⟨k1, k2⟩ := hq.non id hid hG
    exact ⟨by rw [k1, hG], k2⟩
  · have hG' := hq.grow id hG
    have hag := hq.agr id (Nat.lt_of_lt_of_le hid hq.len) hG'
    refine ⟨hG', fun _ => hag.1, fun _ => ?_⟩
    by_cases hm : isMut (R.H (j + 1))[id]?
    · left; rw [hag.2 hm]; exact hm
    · right; exact ⟨htf, hm⟩

omit hcall in
theorem StepR.of_skip (hI : Inv gl s) (hj : j < R.l.length) (hk : R.K j = false) (hH : R.H (j + 1) = R.H j) (hF : R.F j = ([], [])) : StepR R j s s := by
  refine ⟨hI, .refl s, fun _ _ => rfl, fun id a b => by rw [hH] at b; omega, fun id _ _ => ⟨rfl, by rw [hH]⟩, fun id _ htf _ => ?_, fun _ h _ => h⟩
  exfalso
  rcases htf.2 with ⟨_, k⟩ | ⟨_, k⟩
  · rw [hF] at k; simp at k
  · rw [hk] at k; cases k

omit hcall in
theorem done_set {S : Array Bool} {j i : Nat} (hj : j < S.size) : Done (S.setIfInBounds j true) i ↔ Done S i ∨ i = j := by
  unfold Done
  simp only [Array.getD_eq_getD_getElem?]
  by_cases h : j = i
  · subst h; simp [hj]
  · rw [Array.getElem?_setIfInBounds_ne h]
    constructor
    · exact .inl
    · rintro (k | k)
      · exact k
      · exact absurd k.symm h

omit hcall in
theorem Run.tlen : ∀ (m : Nat), m ≤ R.l.length → (R.T m).length = (R.T 0).length
  | 0, _ => rfl
  | m + 1, h => by
    have ih := Run.tlen m (by omega)
    have pl : ∀ (t : Am.T) (d : Option Nat) (v : V), (put t d v).length = t.length := fun t d v => by cases d <;> simp [put]
    rcases R.step m _ (List.getElem?_eq_getElem (show m < R.l.length by omega)) with ⟨_, _, _, h1, _⟩ | ⟨_, _, ⟨v, _, h1⟩, _⟩
    · rw [h1, pl, ih]
    · rw [h1, pl, ih]

theorem J.step (hJ : J R s0 S s a) (hn : Now R S j) (hp : PreC s0 (R.H 0) (R.H R.l.length)) (hr : StepR R j s s') {v : V} {c : Value} (hv : s'.vr v c) {q : Op} (hq : R.l[j]? = some q) (hT : R.T (j + 1) = put (R.T j) q.dst v) :
    J R s0 (S.setIfInBounds j true) s' (a.put q.dst c) := by
  have hjS : j < S.size := by rw [hJ.size, ← R.len]; exact hn.lt
  have hds : ∀ i, Done (S.setIfInBounds j true) i ↔ Done S i ∨ i = j := fun i => done_set hjS
  have hlen1 := R.lenS hcall hn.lt
  have h0j := R.lensL hcall (Nat.zero_le j) (Nat.le_of_lt hn.lt)
  have hjn := R.lensL hcall (i := j + 1) (j := R.l.length) (by have := hn.lt; omega) (Nat.le_refl _)
  -- cuts
  have cut_same : ∀ (W : Nat → Prop) (m : Nat), ¬ W j → Cut (Done S) W R.l.length m → Cut (Done (S.setIfInBounds j true)) W R.l.length m := fun W m hW hc => ⟨hc.1, fun i hi hw => by
    have hne : i ≠ j := fun e => by subst e; exact hW hw
    rw [hds, ← hc.2 i hi hw]
    exact ⟨fun k => k.elim id (fun k => absurd k hne), .inl⟩⟩
  have cut_next : ∀ (W : Nat → Prop), Cut (Done S) W R.l.length j → Cut (Done (S.setIfInBounds j true)) W R.l.length (j + 1) := fun W hc => ⟨by have := hn.lt; omega, fun i hi hw => by
    rw [hds, hc.2 i hi hw]; omega⟩
  refine ⟨hr.inv, hJ.ext.trans hr.ext, ?_, fun id h1 h2 => ?_, fun id h1 h2 => ?_, fun id h1 => ?_, fun id m hm h1 h2 => ?_, fun id h1 h2 => ?_, fun id h1 => ?_, ?_, by simp [hJ.size]⟩
  · -- slots
    obtain ⟨t, ht, htl, htc⟩ := hJ.slots
    refine ⟨put t q.dst v, (ht.ext hr.ext).put hv, by cases q.dst <;> simp [put, htl], fun d => ?_⟩
    by_cases hd : q.dst = some d
    · refine ⟨j + 1, cut_next _ ⟨Nat.le_of_lt hn.lt, fun i hi ⟨q', hq', hd'⟩ => ?_⟩, ?_⟩
      · rcases Nat.lt_trichotomy i j with hij | hij | hij
        · refine ⟨fun _ => hij, fun _ => hn.before R hJ ?_⟩
          rcases R.ord i j q' q hij hq' hq with k | ⟨k, _⟩
          · exact k
          · simp [clashT, hd, hd'] at k
        · subst hij; exact ⟨fun k => absurd k hn.not, fun k => absurd k (Nat.lt_irrefl _)⟩
        · refine ⟨fun k => ?_, fun k => by omega⟩
          exfalso
          rcases R.ord j i q q' hij hq hq' with k' | ⟨k', _⟩
          · exact hn.behind R hJ hi k' k
          · simp [clashT, hd, hd'] at k'
      · rw [hT, hd]
        have e2 := R.tlen j (Nat.le_of_lt hn.lt)
        simp only [put, List.getD_eq_getElem?_getD, List.getElem?_set, if_true, htl, e2]
    · obtain ⟨m, hc, he⟩ := htc d
      refine ⟨m, cut_same _ m (fun ⟨q', hq', hd'⟩ => ?_) hc, ?_⟩
      · rw [hq] at hq'; injection hq' with hq'; subst hq'; exact hd hd'
      · rw [← he]
        cases hqd : q.dst with
        | none => rfl
        | some d' =>
          have hne : d' ≠ d := fun e => hd (by rw [hqd, e])
          simp [put, List.getD_eq_getElem?_getD, List.getElem?_set_ne hne]
  · -- objects that are not there
    obtain ⟨k1, k2⟩ := hJ.off id h1 h2
    obtain ⟨e1, e2⟩ := hr.off id (by omega) (.inr k1)
    refine ⟨by rw [e1, k1], fun i hi hd => ?_⟩
    rcases (hds i).1 hd with k | rfl
    · exact k2 i hi k
    · exact e2
  · -- objects
    obtain ⟨m, hc, hm⟩ := hJ.obj id h1 h2
    by_cases hid : id < (R.H j).length
    · by_cases hon : R.TF j id ∧ s.G id ≠ none
      · obtain ⟨k1, k2, _⟩ := hr.on id hid hon.1 hon.2
        exact ⟨j + 1, cut_next _ (hJ.cut_at R hcall hn hon.1 hon.2), k2 (hJ.agr_at R hcall hn hon.1 hon.2)⟩
      · have hoff : ¬ R.TF j id ∨ s.G id = none := by
          by_cases h : R.TF j id
          · right; exact Classical.not_not.1 (fun k => hon ⟨h, k⟩)
          · exact .inl h
        obtain ⟨e1, e2⟩ := hr.off id hid hoff
        exact ⟨m, cut_same _ m (fun hw => hw (by rw [e2])) hc, by rw [e1]; exact hm⟩
    · by_cases hid2 : id < (R.H (j + 1)).length
      · have hw : R.Wr id j := by
          unfold Run.Wr
          have a1 := List.getElem?_eq_getElem hid2
          have a2 : (R.H j)[id]? = none := List.getElem?_eq_none (by omega)
          rw [a1, a2]; simp
        refine ⟨j + 1, cut_next _ ⟨Nat.le_of_lt hn.lt, fun i hi hwi => ?_⟩, (hr.new id (by omega) hid2).1⟩
        rcases Nat.lt_trichotomy i j with hij | hij | hij
        · exfalso
          have := R.lensL hcall (i := i + 1) (j := j) (by omega) (Nat.le_of_lt hn.lt)
          have := R.lensL hcall (i := i) (j := j) (by omega) (Nat.le_of_lt hn.lt)
          exact hwi (by rw [List.getElem?_eq_none (by omega), List.getElem?_eq_none (by omega)])
        · subst hij; exact ⟨fun k => absurd k hn.not, fun k => absurd k (Nat.lt_irrefl _)⟩
        · refine ⟨fun k => ?_, fun k => by omega⟩
          have hm1 : m ≤ j := by
            rcases Nat.lt_or_ge j m with k' | k'
            · exact absurd ((hc.2 j hn.lt hw).2 k') hn.not
            · exact k'
          have := (hc.2 i hi hwi).1 k
          omega
      · have e1 := hr.far id (by omega)
        refine ⟨m, cut_same _ m (fun hw => hw ?_) hc, by rw [e1]; exact hm⟩
        rw [List.getElem?_eq_none (by omega), List.getElem?_eq_none (by omega)]
  · rw [hr.far id (by omega), hJ.far id h1]
  · -- what may still be written
    have lift : (∃ i, i < R.l.length ∧ Done S i ∧ R.Fz i id) → ∃ i, i < R.l.length ∧ Done (S.setIfInBounds j true) i ∧ R.Fz i id := fun ⟨i, k1, k2, k3⟩ => ⟨i, k1, (hds i).2 (.inl k2), k3⟩
    by_cases hid : id < (R.H j).length
    · by_cases hon : R.TF j id ∧ s.G id ≠ none
      · obtain ⟨k1, _, k3⟩ := hr.on id hid hon.1 hon.2
        rcases hJ.flag id m hm h1 hon.2 with k | k
        · rcases k3 k with k | k
          · exact .inl k
          · exact .inr ⟨j, hn.lt, (hds j).2 (.inr rfl), k⟩
        · exact .inr (lift k)
      · have hoff : ¬ R.TF j id ∨ s.G id = none := by
          by_cases h : R.TF j id
          · right; exact Classical.not_not.1 (fun k => hon ⟨h, k⟩)
          · exact .inl h
        obtain ⟨e1, _⟩ := hr.off id hid hoff
        rw [e1] at h2 ⊢
        exact (hJ.flag id m hm h1 h2).imp_right lift
    · by_cases hid2 : id < (R.H (j + 1)).length
      · have hag := hr.new id (by omega) hid2
        have hmj : j + 1 ≤ m := by
          rcases Nat.lt_or_ge j m with k | k
          · exact k
          · exfalso
            have := R.lensL hcall k (Nat.le_of_lt hn.lt)
            rw [List.getElem?_eq_none (by omega)] at h1
            obtain ⟨x, hx, _⟩ := h1; cases hx
        have hm1 := R.monoL hcall hmj hm hid2 h1
        left; rw [hag.2 hm1]; exact hm1
      · rw [hr.far id (by omega)] at h2 ⊢
        exact (hJ.flag id m hm h1 h2).imp_right lift
  · refine hr.M id (hJ.M id h1 (fun i hi hd => h2 i hi ((hds i).2 (.inl hd)))) ?_
    have := h2 j hn.lt ((hds j).2 (.inr rfl))
    omega
  · have hG := hJ.grow id h1
    by_cases hid : id < (R.H j).length
    · by_cases htf : R.TF j id
      · exact (hr.on id hid htf hG).1
      · rw [(hr.off id hid (.inl htf)).1]; exact hG
    · by_cases hid2 : id < (R.H (j + 1)).length
      · intro hc
        have := (hr.new id (by omega) hid2).1
        rw [hc, List.getElem?_eq_getElem hid2] at this
        simp at this
      · rw [hr.far id (by omega)]; exact hG
  · intro i o ho hd e he hb
    rcases (hds i).1 hd with k | rfl
    · exact (hds _).2 (.inl (hJ.closed i o ho k e he hb))
    · exact (hds _).2 (.inl (hn.dep o ho e he hb))
end
end Go.Am
