/-
  REGIONS WHOSE ORDER IS DRAWN, FOURTH PART: every order does what the text's order does. Conditions: as each lemma names them.
-/
import Derived.Test.YtnfhojipjhcjjaaGreatDoorAm21
namespace Go.Am
set_option autoImplicit false
set_option linter.unusedVariables false
set_option linter.unusedSimpArgs false
set_option linter.unusedSectionVars false

section
variable {P : Program} {gl : Nat → Option (List V)} {inl : FuncId → Bool} {call : CallF}
variable (R : Run P gl inl call) (hcall : CallOK P gl inl call) {s0 s s' : St} {S : Array Bool} {a : Act} {j : Nat}

theorem getD_put (t : Am.T) (dst : Option Nat) (v : V) (d : Nat) (h : dst ≠ some d) : (put t dst v).getD d .und = t.getD d .und := by
  cases dst with
  | none => rfl
  | some e =>
    have hne : e ≠ d := fun k => h (by rw [k])
    simp [put, List.getD_eq_getElem?_getD, List.getElem?_set_ne hne]

theorem Run.slot_step (d : Nat) (i : Nat) (hi : i < R.l.length) (hw : ¬ ∃ q, R.l[i]? = some q ∧ q.dst = some d) : (R.T (i + 1)).getD d .und = (R.T i).getD d .und := by
  have hq := List.getElem?_eq_getElem hi
  have hd : (R.l[i]).dst ≠ some d := fun e => hw ⟨_, hq, e⟩
  rcases R.step i _ hq with ⟨_, _, _, h1, _⟩ | ⟨_, _, ⟨v, _, h1⟩, _⟩
  · rw [h1, getD_put _ _ _ _ hd]
  · rw [h1, getD_put _ _ _ _ hd]

/-- All are behind. -/
theorem J.final (hcall : CallOK P gl inl call) (hJ : J R s0 S s a) (hp : PreC s0 (R.H 0) (R.H R.l.length)) (hall : ∀ i, i < R.l.length → Done S i) : PostC gl s0 (R.H 0) (R.H R.l.length) s ∧ Slots s (R.T R.l.length) a := by
  have hcut : ∀ W : Nat → Prop, Cut (Done S) W R.l.length R.l.length := fun W => ⟨Nat.le_refl _, fun i hi _ => ⟨fun _ => hi, fun _ => hall i hi⟩⟩
  have hmf : ∀ id, id < (R.H R.l.length).length → ¬ (id < (R.H 0).length ∧ s0.G id = none) → (s.G id).map Ob.frozen = ((R.H R.l.length)[id]?).map Ob.frozen := fun id h1 h2 => by
    obtain ⟨m, hc, hm⟩ := hJ.obj id h1 h2
    rw [hm]
    exact cut_eq (X := fun m => ((R.H m)[id]?).map Ob.frozen) (fun i _ hw => by unfold Run.Wr at hw; exact Classical.not_not.1 hw) hc (hcut _)
  have hag : ∀ id, id < (R.H R.l.length).length → s.G id ≠ none → AgrAt s.G (R.H R.l.length) id := fun id h1 hG => by
    have hne : ¬ (id < (R.H 0).length ∧ s0.G id = none) := fun k => hG (hJ.off id k.1 k.2).1
    have h := hmf id h1 hne
    refine ⟨h, fun hm => ?_⟩
    rcases hJ.flag id _ (Nat.le_refl _) hm hG with k | ⟨i, hi, _, hf, hnm⟩
    · exact eq_of_frozen h k hm
    · exact absurd (R.monoL hcall (i := i + 1) (by omega) (Nat.le_refl _) (Nat.lt_of_lt_of_le hf.1 (R.lenS hcall hi)) hm) hnm
  refine ⟨⟨hJ.inv, hJ.ext, R.lensL hcall (Nat.zero_le _) (Nat.le_refl _), hag, fun id h1 h2 => ?_, hJ.far, fun id h1 h2 => ?_, fun id h1 hm => R.monoL hcall (Nat.zero_le _) (Nat.le_refl _) h1 hm, hJ.grow, fun id h1 h2 => ?_⟩, ?_⟩
  · refine hag id h2 (fun hc => ?_)
    have := hmf id h2 (fun k => by omega)
    rw [hc, List.getElem?_eq_getElem h2] at this
    simp at this
  · obtain ⟨k1, k2⟩ := hJ.off id h1 h2
    refine ⟨k1, ?_⟩
    have : ∀ m, m ≤ R.l.length → (R.H m)[id]? = (R.H 0)[id]? := by
      intro m
      induction m with
      | zero => intro _; rfl
      | succ m ih => intro hm; rw [k2 m (by omega) (hall m (by omega)), ih (by omega)]
    exact this _ (Nat.le_refl _)
  · refine hJ.M id h1 (fun j hj _ hc => ?_)
    have e1 := R.lensL hcall (Nat.zero_le j) (Nat.le_of_lt hj)
    have e2 := R.lensL hcall (i := j + 1) (by omega) (Nat.le_refl _)
    omega
  · obtain ⟨t, ht, htl, htc⟩ := hJ.slots
    have hge : ∀ d, t.getD d .und = (R.T R.l.length).getD d .und := fun d => by
      obtain ⟨m, hc, he⟩ := htc d
      rw [he]
      exact cut_eq (X := fun m => (R.T m).getD d .und) (R.slot_step d) hc (hcut _)
    exact ⟨by rw [R.tlen _ (Nat.le_refl _), ← htl]; exact ht.n, fun i => by rw [← hge]; exact ht.r i, ht.d⟩

/-- What an operation looks at is what the evaluator's did. -/
theorem J.looks (hJ : J R s0 S s a) (hn : Now R S j) {q : Op} (hq : R.l[j]? = some q) {t : Am.T} (htc : ∀ d, ∃ m, Cut (Done S) (fun i => ∃ q, R.l[i]? = some q ∧ q.dst = some d) R.l.length m ∧ t.getD d .und = (R.T m).getD d .und) {d : Nat} (hd : d ∈ q.looks) :
    t.getD d .und = (R.T j).getD d .und := by
  obtain ⟨m, hc, he⟩ := htc d
  rw [he]
  refine cut_eq (X := fun m => (R.T m).getD d .und) (R.slot_step d) hc ⟨Nat.le_of_lt hn.lt, fun i hi ⟨q', hq', hd'⟩ => ?_⟩
  rcases Nat.lt_trichotomy i j with hij | hij | hij
  · refine ⟨fun _ => hij, fun _ => hn.before R hJ ?_⟩
    rcases R.ord i j q' q hij hq' hq with k | ⟨k, _⟩
    · exact k
    · simp [clashT, hd', hd] at k
  · subst hij; exact ⟨fun k => absurd k hn.not, fun k => absurd k (Nat.lt_irrefl _)⟩
  · refine ⟨fun k => ?_, fun k => by omega⟩
    exfalso
    rcases R.ord j i q q' hij hq hq' with k' | ⟨k', _⟩
    · exact hn.behind R hJ hi k' k
    · simp [clashT, hd', hd] at k'

theorem J.go (hcall : CallOK P gl inl call) (hJ : J R s0 S s a) (hn : Now R S j) (hp : PreC s0 (R.H 0) (R.H R.l.length)) {Q : Exit → Act → World → Prop} {K : Act → World → Prop}
    (hK : ∀ s' a', J R s0 (S.setIfInBounds j true) s' a' → K a' s'.w) : wpOp P R.ops Q j K a s.w := by
  have hjo : j < R.ops.size := by rw [← R.len]; exact hn.lt
  obtain ⟨oper, ho⟩ : ∃ o, R.ops[j]? = some o := ⟨_, Array.getElem?_eq_getElem hjo⟩
  obtain ⟨q, hq⟩ : ∃ q, R.l[j]? = some q := ⟨_, List.getElem?_eq_getElem hn.lt⟩
  obtain ⟨c1, c2, c3, c4⟩ := R.comp j q oper hq ho
  obtain ⟨t, ht, htl, htc⟩ := hJ.slots
  have hlook : ∀ d ∈ q.looks, t.getD d .und = (R.T j).getD d .und := fun d hd => hJ.looks R hn hq htc hd
  have hargs : ∀ x ∈ q.op.args, ev t x = ev (R.T j) x := fun x hx => by
    cases x with
    | k v => rfl
    | t i =>
      refine hlook i ?_
      unfold Op.looks
      exact List.mem_append_left _ (List.mem_flatMap.2 ⟨_, hx, by simp [A.slots]⟩)
  have hgl : ∀ sl want, q.g = some (sl, want) → t.getD sl .und = (R.T j).getD sl .und := fun sl want hg => hlook sl (by unfold Op.looks; rw [hg]; simp)
  obtain ⟨hopc, hfpc⟩ := opE_congr (inl := inl) (call := call) (o := q.op) (h := R.H j) hargs
  unfold wpOp
  simp only [ho]
  rcases R.step j q hq with ⟨hk, ⟨sl, want, hg, hb⟩, hH, hT, hF⟩ | ⟨hk, hg, ⟨v, hop, hT⟩, hF, _⟩
  · rw [hg] at c2
    obtain ⟨w1, w2⟩ := wanted_some ht c2
    have hw : Region.wanted oper (yielded R.ops a.tmps) = false := by
      have e := hgl sl want hg
      rcases hb with hb | ⟨b, hb, hne⟩
      · exact w2 (by rw [e, hb])
      · rw [w1 b (by rw [e, hb])]
        cases b <;> cases want <;> simp_all
    rw [hw]
    simp only [Bool.false_eq_true, if_false]
    rw [c3]
    exact hK s _ (hJ.step R hcall hn hp (StepR.of_skip R hJ.inv hn.lt hk hH hF) vund hq hT)
  · have hw : Region.wanted oper (yielded R.ops a.tmps) = true := by
      rcases hg with hg | ⟨sl, want, hg, hb⟩
      · rw [hg] at c2; exact wanted_none c2
      · rw [hg] at c2
        obtain ⟨w1, _⟩ := wanted_some ht c2
        rw [w1 want (by rw [hgl sl want hg, hb])]
        cases want <;> rfl
    rw [hw, if_pos rfl]
    refine .inl ?_
    rw [← hopc] at hop
    have htd : R.told j = Am.told inl q.op := by unfold Run.told; rw [hq]
    cases htold : Am.told inl q.op with
    | true =>
      have hpre := hJ.pre R hcall hn hp (by rw [htd, htold])
      rw [hF, ← hfpc] at hpre
      refine step_told hcall htold c4 hJ.inv ht c1 hop hpre fun s' c hpost => ?_
      rw [c3]
      rw [hfpc, ← hF] at hpost
      exact hK s' _ (hJ.step R hcall hn hp (StepR.of_told R hcall hn.lt (by rw [htd, htold]) hpost) hpost.vr hq hT)
    | false =>
      have hpre := hJ.preC R hcall hn hp (by rw [htd, htold]) hk
      refine step_seq hcall c4 hJ.inv ht c1 hop hpre fun s' c hpost hv => ?_
      rw [c3]
      exact hK s' _ (hJ.step R hcall hn hp (StepR.of_untold R hn.lt (by rw [htd, htold]) hk hpost) hv hq hT)

theorem undone_of (hsz : S.size = R.ops.size) {i : Nat} (h : S.getD i true = false) : i < R.ops.size ∧ ¬ Done S i := by
  have hlt : i < S.size := by
    rcases Nat.lt_or_ge i S.size with k | k
    · exact k
    · simp [Array.getD_eq_getD_getElem?, Array.getElem?_eq_none k] at h
  refine ⟨by rw [← hsz]; exact hlt, fun hd => ?_⟩
  unfold Done at hd
  simp [Array.getD_eq_getD_getElem?, hlt] at h hd
  rw [h] at hd; cases hd

theorem done_of (hsz : S.size = R.ops.size) {i : Nat} (hi : i < R.ops.size) (h : ¬ Done S i) : S.getD i true = false := by
  have hlt : i < S.size := by rw [hsz]; exact hi
  unfold Done at h
  simp [Array.getD_eq_getD_getElem?, hlt] at h ⊢
  exact h

theorem all_of_ready (hJ : J R s0 S s a) (hr : Region.ready .any R.ops S = []) : ∀ i, i < R.l.length → Done S i := by
  intro i
  induction i using Nat.strongRecOn with
  | _ i ih =>
    intro hi
    by_cases hd : Done S i
    · exact hd
    · exfalso
      have hio : i < R.ops.size := by rw [← R.len]; exact hi
      have : i ∈ Region.ready .any R.ops S := by
        rw [mem_ready]
        refine ⟨done_of R hJ.size hio hd, _, Array.getElem?_eq_getElem hio, fun e he hb => ?_⟩
        have hlt := R.after i _ (Array.getElem?_eq_getElem hio) e he hb
        exact ih e.on hlt (by omega)
      rw [hr] at this
      cases this

theorem any_ok (hcall : CallOK P gl inl call) (hp : PreC s0 (R.H 0) (R.H R.l.length)) {Q : Exit → Act → World → Prop} (hq : ∀ s' a', PostC gl s0 (R.H 0) (R.H R.l.length) s' → Slots s' (R.T R.l.length) a' → Q .normal a' s'.w) :
    ∀ (fuel : Nat) (S : Array Bool) (s : St) (a : Act) (L : List Nat), L.length ≤ fuel → (∀ i, i < R.l.length → ¬ Done S i → i ∈ L) → J R s0 S s a → wpAny P .any R.ops Q fuel S a s.w := by
  intro fuel
  induction fuel with
  | zero =>
    intro S s a L hL hall hJ
    have hnil : L = [] := List.length_eq_zero_iff.1 (by omega)
    subst hnil
    have hd : ∀ i, i < R.l.length → Done S i := fun i hi => Classical.not_not.1 (fun k => by cases hall i hi k)
    refine ⟨?_, ?_⟩
    · refine List.eq_nil_iff_forall_not_mem.2 (fun i hi => ?_)
      obtain ⟨h1, _⟩ := mem_ready.1 hi
      obtain ⟨k1, k2⟩ := undone_of R hJ.size h1
      exact k2 (hd i (by rw [R.len]; exact k1))
    · obtain ⟨k1, k2⟩ := hJ.final R hcall hp hd
      exact hq s a k1 k2
  | succ fuel ih =>
    intro S s a L hL hall hJ
    refine ⟨fun hr => ?_, fun j hj => ?_⟩
    · obtain ⟨k1, k2⟩ := hJ.final R hcall hp (all_of_ready R hJ hr)
      exact hq s a k1 k2
    · obtain ⟨h1, o, ho, hdep⟩ := mem_ready.1 hj
      obtain ⟨k1, k2⟩ := undone_of R hJ.size h1
      have hn : Now R S j := ⟨by rw [R.len]; exact k1, k2, fun o' ho' e he hb => by rw [ho] at ho'; injection ho' with ho'; subst ho'; exact hdep e he hb⟩
      have hjL := hall j hn.lt k2
      refine hJ.go R hcall hn hp fun s' a' hJ' => ?_
      refine ih _ s' a' (L.erase j) (by rw [List.length_erase_of_mem hjL]; omega) (fun i hi hnd => ?_) hJ'
      have hds := done_set (i := i) (S := S) (j := j) (by rw [hJ.size]; exact k1)
      have hne : i ≠ j := fun e => hnd (hds.2 (.inr e))
      exact (List.mem_erase_of_ne hne).2 (hall i hi (fun k => hnd (hds.2 (.inl k))))
end

theorem loosen_get {inl : FuncId → Bool} {an : List Nat} {cs : List Op} {i : Nat} {q : Op} (h : (loosen inl an cs)[i]? = some q) : ∃ q0, cs[i]? = some q0 ∧ q.op = q0.op ∧ q.g = q0.g ∧ q.dst = q0.dst := by
  unfold loosen at h
  rw [List.getElem?_map, Option.map_eq_some_iff] at h
  obtain ⟨⟨b, k⟩, h1, rfl⟩ := h
  rw [List.getElem?_zipIdx, Option.map_eq_some_iff] at h1
  obtain ⟨c, h1, h2⟩ := h1
  injection h2 with h2 h3
  subst h2
  exact ⟨_, h1, rfl, rfl, rfl⟩

/-- A region whose order is drawn does what its text says. -/
theorem draw_ok {P : Program} {gl : Nat → Option (List V)} {inl : FuncId → Bool} {call : CallF} (hm : P.follows .mixedOrders = true) (hcall : CallOK P gl inl call) : DrawOK P gl inl call := by
  intro id ops l t t' h h' s a Q ⟨l0, hl0, hl⟩ hd he hI hs hp hq
  obtain ⟨k1, k2⟩ := compReg_get hl0
  have hlen : l.length = ops.size := by
    rcases hl with rfl | rfl
    · simpa using k1
    · simpa [loosen] using k1
  have hcomp : ∀ (i : Nat) (q : Op) (oper : Oper), l[i]? = some q → ops[i]? = some oper → compOp P gl true oper = some q.op ∧ guardOf ops.toList oper = some q.g ∧ oper.dst = q.dst ∧ q.op.args.all A.fine = true := by
    intro i q oper hq ho
    have ho' : ops.toList[i]? = some oper := by simpa using ho
    rcases hl with rfl | rfl
    · obtain ⟨a1, a2, a3, a4, _⟩ := k2 i q oper hq ho'; exact ⟨a1, a2, a3, a4⟩
    · obtain ⟨q0, b1, b2, b3, b4⟩ := loosen_get hq
      obtain ⟨a1, a2, a3, a4, _⟩ := k2 i q0 oper b1 ho'
      exact ⟨by rw [b2]; exact a1, by rw [b3]; exact a2, by rw [b4]; exact a3, by rw [b2]; exact a4⟩
  obtain ⟨T, H, F, K, e1, e2, e3, e4, _, e6⟩ := regLE_trace l [] t t' h h' 0 rfl he
  unfold drawOk at hd
  simp only [Bool.and_eq_true, List.all_eq_true] at hd
  obtain ⟨d1, d2⟩ := hd
  have zi : ∀ {α : Type} (l : List α) (i : Nat) (x : α), l[i]? = some x → (x, i) ∈ l.zipIdx := fun l i x hx => by
    refine List.mem_of_getElem? (i := i) ?_
    rw [List.getElem?_zipIdx, hx]; simp
  let R : Run P gl inl call := {
    ops := ops, l := l, T := T, H := H, F := F, K := K, len := hlen, step := fun i q hq => by have := e6 i q hq; rwa [Nat.zero_add] at this, comp := hcomp
    after := fun j o ho e he hb => by
      have := d1 (o, j) (zi ops.toList j o (by simpa using ho))
      rw [Array.all_eq_true_iff_forall_mem] at this
      have := this e he
      simpa [hb] using this
    ord := fun i j a b hij ha hb => by
      have h1 := d2 (b, j) (zi l j b hb) (a, i) (zi (l.take j) i a (by rw [List.getElem?_take, if_pos hij]; exact ha))
      simp only [Bool.or_eq_true, Bool.and_eq_true, Bool.not_eq_true', List.contains_eq_mem, decide_eq_true_eq] at h1
      rcases h1 with h1 | ⟨h1, h2⟩
      · exact .inl h1
      · refine .inr ⟨h1, ?_⟩
        rcases h2 with h2 | ⟨⟨h2, h3⟩, h4⟩
        · exact .inl h2
        · exact .inr ⟨h2, h3, h4⟩ }
  have hH0 : R.H 0 = h := e2
  have hHn : R.H R.l.length = h' := by have : H (0 + l.length) = h' := e4; rwa [Nat.zero_add] at this
  have hT0 : R.T 0 = t := e1
  have hTn : R.T R.l.length = t' := by have : T (0 + l.length) = t' := e3; rwa [Nat.zero_add] at this
  refine wp_region_any hm ?_
  obtain ⟨hI1, hE1⟩ := hI.drawn (s.w.drawn + 1)
  let s1 : St := { s with w := { s.w with drawn := s.w.drawn + 1 } }
  have hp1 : PreC s1 (R.H 0) (R.H R.l.length) := by rw [hH0, hHn]; exact ⟨hp.agr, hp.n⟩
  have hs1 : Slots s1 t a := hs.ext hE1
  have hnd : ∀ i, ¬ Done (Array.replicate ops.size false) i := fun i hd => by
    unfold Done at hd
    simp only [Array.getD_eq_getD_getElem?, Array.getElem?_replicate] at hd
    split at hd <;> simp at hd
  have hlens : (R.H 0).length ≤ (R.H R.l.length).length := R.lensL hcall (Nat.zero_le _) (Nat.le_refl _)
  have hJ : J R s1 (Array.replicate ops.size false) s1 a := by
    refine ⟨hI1, .refl _, ⟨t, hs1, by rw [hT0], fun d => ⟨0, ⟨Nat.zero_le _, fun i _ _ => ⟨fun k => absurd k (hnd i), fun k => by omega⟩⟩, by rw [hT0]⟩⟩, fun id a b => ⟨b, fun i _ k => absurd k (hnd i)⟩, fun id a b => ⟨0, ⟨Nat.zero_le _, fun i _ _ => ⟨fun k => absurd k (hnd i), fun k => by omega⟩⟩, ?_⟩, fun _ _ => rfl, fun id m hm a b => ?_, fun _ k _ => k, fun _ k => k, fun j o _ k => absurd k (hnd j), by simp; rfl⟩
    · by_cases hlt : id < (R.H 0).length
      · exact (hp1.agr id hlt (fun k => b ⟨hlt, k⟩)).1
      · rw [(hp1.n id (by omega) a).2, List.getElem?_eq_none (by omega)]
    · left
      by_cases hlt : id < (R.H 0).length
      · have hm0 := R.monoL hcall (Nat.zero_le m) hm hlt a
        rw [(hp1.agr id hlt b).2 hm0]; exact hm0
      · exfalso
        have hm2 := R.lensL hcall hm (Nat.le_refl _)
        obtain ⟨x, hx, _⟩ := a
        have := lt_some hx
        exact b (hp1.n id (by omega) (by omega)).2
  have hfin := any_ok R hcall hp1 (Q := Q) (fun s' a' hp' hs' => by
    rw [hH0, hHn] at hp'
    rw [hTn] at hs'
    exact hq s' a' ⟨hp'.inv, hE1.trans hp'.ext, hp'.len, hp'.agr, hp'.new, hp'.far, hp'.non, hp'.mono, hp'.grow, hp'.M⟩ hs') ops.size (Array.replicate ops.size false) s1 a (List.range ops.size) (by simp) (fun i hi _ => by rw [List.mem_range, ← hlen]; exact hi) hJ
  exact hfin
end Go.Am
