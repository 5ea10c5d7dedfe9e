/-
  WHAT AN OPERATION OF THE EVALUATOR TOUCHES; what stands before a step and behind it. Conditions: as each lemma names them.
-/
import Derived.Test.YtnfhojipjhcjjaaGreatDoorAm13
namespace Go.Am
set_option autoImplicit false
set_option linter.unusedVariables false
set_option linter.unusedSimpArgs false

/-- What an operation touches of the objects. -/
structure Foot (h h' : H) (fp : List Nat × List Nat) (tc : Tch) : Prop where
  len : h.length ≤ h'.length
  keep : ∀ id, id < h.length → id ∉ fp.2 → h'[id]? = h[id]? ∨ (id ∈ fp.1 ∧ h'[id]? = (h[id]?).map Ob.frozen)
  wmut : ∀ id ∈ fp.2, isMut h[id]?
  lt : ∀ id, id ∈ fp.1 ∨ id ∈ fp.2 → id < h.length
  r : fp.1 ≠ [] → tc ≠ .no
  w : fp.2 ≠ [] → tc = .writes

/-- The same, of an operation that calls no function. -/
structure FootS (h h' : H) (fp : List Nat × List Nat) (tc : Tch) : Prop where
  len : h.length ≤ h'.length
  keep : ∀ id, id < h.length → id ∉ fp.2 → h'[id]? = h[id]?
  wmut : ∀ id ∈ fp.2, isMut h[id]?
  lt : ∀ id, id ∈ fp.1 ∨ id ∈ fp.2 → id < h.length
  r : fp.1 ≠ [] → tc ≠ .no
  w : fp.2 ≠ [] → tc = .writes

theorem FootS.foot {h h' : H} {fp : List Nat × List Nat} {tc : Tch} (f : FootS h h' fp tc) : Foot h h' fp tc := ⟨f.len, fun id a b => .inl (f.keep id a b), f.wmut, f.lt, f.r, f.w⟩

structure PostT (gl : Nat → Option (List V)) (s : St) (h h' : H) (v : V) (fp : List Nat × List Nat) (s' : St) (c : Value) : Prop where
  inv : Inv gl s'
  ext : Ext s s'
  vr : s'.vr v c
  new : ∀ id, h.length ≤ id → id < h'.length → s'.G id = h'[id]?
  far : ∀ id, h'.length ≤ id → s'.G id = s.G id
  oth : ∀ id, id < h.length → id ∉ fp.1 → id ∉ fp.2 → s'.G id = s.G id
  wr : ∀ id ∈ fp.2, s'.G id = h'[id]?
  rd : ∀ id, id ∈ fp.1 → id ∉ fp.2 → s'.G id = s.G id ∨ (s'.G id = (s.G id).map Ob.frozen ∧ ¬ isMut h'[id]?)
  acc : ∀ id, id ∈ fp.1 ∨ id ∈ fp.2 → s.G id ≠ none
  M : ∀ id, s.M id = none → (id < h.length ∨ h'.length ≤ id) → s'.M id = none

theorem foot_same {h : H} {fp : List Nat × List Nat} {tc : Tch} (h2 : fp.2 = []) (h1 : ∀ id ∈ fp.1, id < h.length) (hr : fp.1 ≠ [] → tc ≠ .no) : FootS h h fp tc :=
  ⟨Nat.le_refl _, fun _ _ _ => rfl, fun id hid => absurd hid (by rw [h2]; exact List.not_mem_nil), fun id hid => hid.elim (h1 id) (fun hh => absurd hh (by rw [h2]; exact List.not_mem_nil)), hr, fun hh => absurd h2 hh⟩

theorem foot_none {h : H} {tc : Tch} : FootS h h ([], []) tc := foot_same rfl (fun _ h => by cases h) (fun h => absurd rfl h)

theorem foot_new {h : H} {x : Ob} {fp : List Nat × List Nat} {tc : Tch} (h2 : fp.2 = []) (h1 : ∀ id ∈ fp.1, id < h.length) (hr : fp.1 ≠ [] → tc ≠ .no) : FootS h (h ++ [x]) fp tc :=
  ⟨by simp, fun id hid _ => List.getElem?_append_left hid, fun id hid => absurd hid (by rw [h2]; exact List.not_mem_nil), fun id hid => hid.elim (h1 id) (fun hh => absurd hh (by rw [h2]; exact List.not_mem_nil)), hr, fun hh => absurd h2 hh⟩

theorem lt_some {α : Type} {l : List α} {i : Nat} {x : α} (h : l[i]? = some x) : i < l.length := (List.getElem?_eq_some_iff.1 h).1

theorem slcells_lt {h : H} {sz : Nat} {x : V} {cs : List V} (hr : slcells h sz x = some cs) {i off len z lo : Nat} {ex : Bool} (hx : x = .osl i off len z lo ex) : i < h.length := by
  subst hx
  simp only [slcells] at hr
  split at hr
  · rename_i hh; exact lt_some hh
  · cases hr

theorem appended_lt {h : H} {sz : Nat} {x : V} {cs : List V} (hr : appended h sz x = some cs) {i off len z lo : Nat} {ex : Bool} (hx : x = .osl i off len z lo ex) : i < h.length := by
  subst hx
  exact slcells_lt (by simpa only [appended] using hr) rfl

section
variable {inl : FuncId → Bool} {call : CallF} {h h' : H} {t : T} {v : V} {o : O}

theorem foot_app {sz bytes : Nat} {s x : A} (he : app h sz bytes (ev t s) (ev t x) = some (v, h')) : FootS h h' (fpE (.app sz bytes s x) t h) (tch inl (.app sz bytes s x)) := by
  have htc : tch inl (.app sz bytes s x) = .writes := rfl
  rw [htc]
  simp only [app] at he
  split at he
  · cases he
  · rename_i xs hap
    have hr1 : ∀ id ∈ oslId (ev t x), id < h.length := fun id hid => by
      unfold oslId at hid
      split at hid
      · rename_i hx; simp at hid; subst hid; exact appended_lt hap hx
      · cases hid
    simp only [fpE]
    generalize oslId (ev t x) = r at hr1
    split at he
    · rename_i hcond
      split at he
      · rename_i hs
        simp only [hs]
        split at he
        · simp only [Option.some.injEq, Prod.mk.injEq] at he; obtain ⟨_, rfl⟩ := he
          exact foot_same rfl hr1 (fun _ => by simp)
        · split at he
          · simp only [Option.some.injEq, Prod.mk.injEq] at he; obtain ⟨_, rfl⟩ := he
            exact foot_new rfl hr1 (fun _ => by simp)
          · cases he
      · rename_i cs len ex hs
        simp only [hs]
        split at he
        · split at he
          · simp only [Option.some.injEq, Prod.mk.injEq] at he; obtain ⟨_, rfl⟩ := he
            exact foot_same rfl hr1 (fun _ => by simp)
          · split at he
            · split at he
              · simp only [Option.some.injEq, Prod.mk.injEq] at he; obtain ⟨_, rfl⟩ := he
                exact foot_new rfl hr1 (fun _ => by simp)
              · cases he
            · cases he
        · cases he
      · rename_i id off len z lo ex hs
        simp only [hs, hap]
        split at he
        · split at he
          · rename_i m cs hh
            have hidlt := lt_some hh
            have hr2 : ∀ i ∈ id :: r, i < h.length := fun i hi => by
              rcases List.mem_cons.1 hi with rfl | hi
              · exact hidlt
              · exact hr1 i hi
            split at he
            · split at he
              · rename_i hfit
                split at he
                · rename_i h0
                  simp only [Option.some.injEq, Prod.mk.injEq] at he; obtain ⟨_, rfl⟩ := he
                  rw [if_neg (fun hc => by rcases hc with hc | hc; · exact hc.2 h0
                                           · exact hc.1 hfit)]
                  exact foot_same rfl hr2 (fun _ => by simp)
                · rename_i h0
                  split at he
                  · rename_i hm
                    subst hm
                    simp only [Option.some.injEq, Prod.mk.injEq] at he; obtain ⟨_, rfl⟩ := he
                    rw [if_pos (.inl ⟨hfit, h0⟩)]
                    refine ⟨by simp, fun i hi hn => ?_, fun i hi => ?_, fun i hi => ?_, fun _ => by simp, fun _ => rfl⟩
                    · have hne : id ≠ i := fun hc => hn (by simp [hc])
                      rw [List.getElem?_set_ne hne]
                    · simp at hi; subst hi; exact ⟨_, hh, rfl⟩
                    · rcases hi with hi | hi
                      · exact hr1 i hi
                      · simp at hi; subst hi; exact hidlt
                  · cases he
              · rename_i hfit
                split at he
                · rename_i hex
                  subst hex
                  simp only [Option.some.injEq, Prod.mk.injEq] at he; obtain ⟨_, rfl⟩ := he
                  rw [if_neg (fun hc => by rcases hc with hc | hc; · exact hfit hc.1
                                           · exact absurd hc.2 (by simp))]
                  exact foot_new rfl hr2 (fun _ => by simp)
                · rename_i hex
                  split at he
                  · rename_i hm
                    subst hm
                    simp only [Option.some.injEq, Prod.mk.injEq] at he; obtain ⟨_, rfl⟩ := he
                    rw [if_pos (.inr ⟨hfit, by simpa using hex⟩)]
                    refine ⟨by simp [news], fun i hi hn => ?_, fun i hi => ?_, fun i hi => ?_, fun _ => by simp, fun _ => rfl⟩
                    · have hne : id ≠ i := fun hc => hn (by simp [hc])
                      rw [news, List.getElem?_append_left (by simpa using hi), List.getElem?_set_ne hne]
                    · simp at hi; subst hi; exact ⟨_, hh, rfl⟩
                    · rcases hi with hi | hi
                      · exact hr1 i hi
                      · simp at hi; subst hi; exact hidlt
                  · cases he
            · cases he
          · cases he
        · cases he
      · cases he
    · cases he

theorem foot_set {id : Nat} {x o0 : Ob} {tc : Tch} (hh : h[id]? = some o0) (hm : o0.mut = true) (ht : tc = .writes) : FootS h (h.set id x) ([], [id]) tc :=
  ⟨by simp, fun i hi hn => (by have hne : id ≠ i := fun hc => hn (by simp [hc]); rw [List.getElem?_set_ne hne]), fun i hi => by simp at hi; subst hi; exact ⟨_, hh, hm⟩,
    fun i hi => by rcases hi with hi | hi; · cases hi
                   · simp at hi; subst hi; exact lt_some hh, fun h => absurd rfl h, fun _ => ht⟩

/-- What an operation that calls no function touches. -/
theorem foot_op (hnc : o.isCall = false) (he : opE inl call o t h = some (v, h')) : FootS h h' (fpE o t h) (tch inl o) := by
  cases o with
  | call f as => cases hnc
  | dyn i x as => cases hnc
  | alloc z => simp only [opE, Option.some.injEq, Prod.mk.injEq] at he; obtain ⟨_, rfl⟩ := he; exact foot_new rfl (fun _ h => by cases h) (fun h => absurd rfl h)
  | box x =>
    simp only [opE] at he
    split at he
    · simp only [Option.some.injEq, Prod.mk.injEq] at he; obtain ⟨_, rfl⟩ := he; exact foot_new rfl (fun _ h => by cases h) (fun h => absurd rfl h)
    · cases he
  | mkmap => simp only [opE, Option.some.injEq, Prod.mk.injEq] at he; obtain ⟨_, rfl⟩ := he; exact foot_new rfl (fun _ h => by cases h) (fun h => absurd rfl h)
  | bsl n sz z ps =>
    simp only [opE, Option.map_eq_some_iff, Prod.mk.injEq] at he; obtain ⟨cs, _, _, rfl⟩ := he; exact foot_new rfl (fun _ h => by cases h) (fun h => absurd rfl h)
  | mksl z b n c =>
    simp only [opE] at he
    split at he
    · split at he
      · simp only [Option.some.injEq, Prod.mk.injEq] at he; obtain ⟨_, rfl⟩ := he; exact foot_new rfl (fun _ h => by cases h) (fun h => absurd rfl h)
      · cases he
    · cases he
  | load n x =>
    obtain ⟨h1, rfl⟩ := map_pair (by simpa only [opE] using he)
    simp only [fpE]
    split
    · rename_i i off hq
      refine foot_same rfl (fun id hid => ?_) (fun _ => by simp [tch])
      simp at hid; subst hid
      rw [hq] at h1
      simp only [rdc] at h1
      split at h1
      · rename_i hh; exact lt_some hh
      · simp at h1
    · exact foot_none
  | look l ka z ok m k =>
    obtain ⟨h1, rfl⟩ := map_pair (by simpa only [opE] using he)
    simp only [fpE]
    split
    · rename_i i hq
      refine foot_same rfl (fun id hid => ?_) (fun _ => by simp [tch])
      simp at hid; subst hid
      rw [hq] at h1
      simp only [look, mapOf] at h1
      split at h1
      · cases h1
      · rename_i hh
        split at hh
        · rename_i hh2; exact lt_some hh2
        · cases hh
    · exact foot_none
  | lenm x =>
    obtain ⟨h1, rfl⟩ := map_pair (by simpa only [opE] using he)
    simp only [fpE]
    split
    · rename_i i hq
      refine foot_same rfl (fun id hid => ?_) (fun _ => by simp [tch])
      simp at hid; subst hid
      rw [hq] at h1
      simp only [lenM] at h1
      split at h1
      · rename_i hh; exact lt_some hh
      · cases h1
    · exact foot_none
  | sla n sz x lo hi =>
    obtain ⟨h1, rfl⟩ := map_pair (by simpa only [opE] using he)
    simp only [fpE]
    split
    · rename_i i off hq
      refine foot_same rfl (fun id hid => ?_) (fun _ => by simp [tch])
      simp at hid; subst hid
      rw [hq] at h1
      simp only [sla] at h1
      split at h1
      · cases h1
      · split at h1
        · cases h1
        · split at h1
          · rename_i hh; exact lt_some hh
          · cases h1
    · exact foot_none
  | conv c x =>
    cases c with
    | b2s =>
      obtain ⟨h1, rfl⟩ := map_pair (by simpa only [opE] using he)
      simp only [fpE]
      split
      · rename_i i _ _ _ _ _ hq
        refine foot_same rfl (fun id hid => ?_) (fun _ => by simp [tch])
        simp at hid; subst hid
        simp only [Am.conv] at h1
        rw [Option.bind_eq_some_iff] at h1
        obtain ⟨cs, h2, _⟩ := h1
        exact slcells_lt h2 hq
      · exact foot_none
    | s2b =>
      simp only [opE] at he
      split at he
      · rename_i l hq
        simp only [Option.some.injEq, Prod.mk.injEq] at he; obtain ⟨_, rfl⟩ := he
        simp only [fpE, hq]; exact foot_none
      · cases he
    | int k =>
      obtain ⟨h1, rfl⟩ := map_pair (by simpa only [opE] using he)
      simp only [fpE]
      split
      · rename_i hq; rw [hq] at h1; simp [Am.conv] at h1
      · exact foot_none
    | same =>
      obtain ⟨h1, rfl⟩ := map_pair (by simpa only [opE] using he)
      simp only [fpE]
      split
      · rename_i hq; rw [hq] at h1; simp [Am.conv] at h1
      · exact foot_none
  | store n p x =>
    simp only [opE, Option.map_eq_some_iff, Prod.mk.injEq] at he
    obtain ⟨h2, he, _, rfl⟩ := he
    unfold Am.store at he
    split at he
    · rename_i id off hq
      split at he
      · rename_i cs hh
        split at he
        · injection he with he; subst he
          simp only [fpE, hq]
          exact foot_set hh rfl rfl
        · cases he
      · cases he
    · cases he
  | mupd l ka m k x =>
    simp only [opE, Option.map_eq_some_iff, Prod.mk.injEq] at he
    obtain ⟨h2, he, _, rfl⟩ := he
    unfold Am.mupd at he
    split at he
    · rename_i id hq
      simp only [fpE, hq]
      split at he
      · rename_i ks vs hh
        split at he
        · cases he
        · split at he
          · injection he with he; subst he; exact foot_set hh rfl rfl
          · cases he
        · split at he
          · injection he with he; subst he; exact foot_set hh rfl rfl
          · cases he
      · cases he
    · cases he
  | clr z x =>
    simp only [opE] at he
    split at he
    · rename_i hq; simp only [Option.some.injEq, Prod.mk.injEq] at he; obtain ⟨_, rfl⟩ := he; simp only [fpE, hq]; exact foot_none
    · rename_i hq; simp only [Option.some.injEq, Prod.mk.injEq] at he; obtain ⟨_, rfl⟩ := he; simp only [fpE, hq]; exact foot_none
    · rename_i hq; simp only [Option.some.injEq, Prod.mk.injEq] at he; obtain ⟨_, rfl⟩ := he; simp only [fpE, hq]; exact foot_none
    · rename_i id off len sz lo ex hne hq
      split at he
      · rename_i cs hh
        split at he
        · simp only [Option.some.injEq, Prod.mk.injEq] at he; obtain ⟨_, rfl⟩ := he
          have hf : fpE (.clr z x) t h = ([], [id]) := by
            simp only [fpE, hq]
          rw [hf]
          exact foot_set hh rfl rfl
        · cases he
      · cases he
    · cases he
  | app sz b s x => exact foot_app (by simpa only [opE] using he)
  | mv x => simp only [opE, Option.some.injEq, Prod.mk.injEq] at he; obtain ⟨_, rfl⟩ := he; exact foot_none
  | mkfn f c => simp only [opE, Option.some.injEq, Prod.mk.injEq] at he; obtain ⟨_, rfl⟩ := he; exact foot_none
  | lena n x => simp only [opE, Option.some.injEq, Prod.mk.injEq] at he; obtain ⟨_, rfl⟩ := he; exact foot_none
  | pick c a b =>
    simp only [opE] at he
    split at he
    · simp only [Option.some.injEq, Prod.mk.injEq] at he; obtain ⟨_, rfl⟩ := he; exact foot_none
    · cases he
  | nilck x =>
    simp only [opE] at he
    split at he <;> first | (cases he; done) | (simp only [Option.some.injEq, Prod.mk.injEq] at he; obtain ⟨_, rfl⟩ := he; exact foot_none)
  | _ =>
    obtain ⟨h1, rfl⟩ := map_pair (by simpa only [opE] using he)
    exact foot_none
end
end Go.Am
