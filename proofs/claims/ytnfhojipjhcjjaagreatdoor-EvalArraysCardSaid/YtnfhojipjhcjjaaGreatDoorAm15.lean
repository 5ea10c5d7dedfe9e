/-
  WHAT STANDS BEFORE A STEP AND BEHIND IT. Conditions: as each lemma names them.
-/
import Derived.Test.YtnfhojipjhcjjaaGreatDoorAm14
namespace Go.Am
set_option autoImplicit false
set_option linter.unusedVariables false
set_option linter.unusedSimpArgs false

section
variable {P : Program} {gl : Nat → Option (List V)} {inl : FuncId → Bool} {call : CallF} {s s' s1 : St} {h h' h1 : H} {t : T} {v : V} {o : O} {oper : Oper} {ρ : Operand → Value} {iso : Bool} {c : Value} {fp : List Nat × List Nat} {tc : Tch}

theorem acc_M {id : Nat} {l : Loc} (hI : Inv gl s) (h : s.M id = some l) : s.G id ≠ none := by
  obtain ⟨x, hx, _⟩ := hI.has id l h
  rw [hx]; simp

theorem acc_dead {id : Nat} (h : s.dead id) : s.G id ≠ none := by unfold St.dead at h; rw [h]; simp

theorem acc_own {id off : Nat} (hI : Inv gl s) (h : s.vr (.own id off) c) : s.G id ≠ none := by
  rcases vr_own h with ⟨l, h, _⟩ | ⟨h, _⟩
  · exact acc_M hI h
  · exact acc_dead h

theorem acc_osl {id off len sz lo : Nat} {ex : Bool} (hI : Inv gl s) (h : s.vr (.osl id off len sz lo ex) c) : s.G id ≠ none := by
  rcases vr_osl h with ⟨l, _, h, _⟩ | ⟨h, _⟩
  · exact acc_M hI h
  · exact acc_dead h

theorem acc_omap {id : Nat} (hI : Inv gl s) (h : s.vr (.omap id) c) : s.G id ≠ none := by
  rcases vr_omap h with ⟨l, h, _⟩ | ⟨h, _⟩
  · exact acc_M hI h
  · exact acc_dead h

/-- The objects that an operation touches are there. -/
theorem acc_op (hnc : o.isCall = false) (hI : Inv gl s) (hsl : ∀ i, ∃ c, s.vr (t.getD i .und) c) (hf : o.args.all A.fine = true) {id : Nat} (hid : id ∈ (fpE o t h).1 ∨ id ∈ (fpE o t h).2) : s.G id ≠ none := by
  have own : ∀ q ∈ o.args, ∀ i off, ev t q = .own i off → s.G i ≠ none := fun q hq i off e => by
    cases q with
    | t j => obtain ⟨c, hc⟩ := hsl j; exact acc_own hI (off := off) (c := c) (by rw [← e]; exact hc)
    | k v => have := List.all_eq_true.1 hf _ hq; simp only [ev] at e; subst e; simp [A.fine] at this
  have osl : ∀ q ∈ o.args, ∀ i off len sz lo ex, ev t q = .osl i off len sz lo ex → s.G i ≠ none := fun q hq i off len sz lo ex e => by
    cases q with
    | t j => obtain ⟨c, hc⟩ := hsl j; exact acc_osl hI (off := off) (len := len) (sz := sz) (lo := lo) (ex := ex) (c := c) (by rw [← e]; exact hc)
    | k v => have := List.all_eq_true.1 hf _ hq; simp only [ev] at e; subst e; simp [A.fine] at this
  have omap : ∀ q ∈ o.args, ∀ i, ev t q = .omap i → s.G i ≠ none := fun q hq i e => by
    cases q with
    | t j => obtain ⟨c, hc⟩ := hsl j; exact acc_omap hI (c := c) (by rw [← e]; exact hc)
    | k v => have := List.all_eq_true.1 hf _ hq; simp only [ev] at e; subst e; simp [A.fine] at this
  cases o with
  | call f as => cases hnc
  | dyn i x as => cases hnc
  | app sz b a x =>
    have hx : ∀ i ∈ oslId (ev t x), s.G i ≠ none := fun i hi => by
      unfold oslId at hi
      split at hi
      · rename_i hq; simp at hi; subst hi; exact osl x (by simp [O.args]) _ _ _ _ _ _ hq
      · cases hi
    simp only [fpE] at hid
    split at hid
    · rename_i i off len z lo ex hq
      have hs := osl a (by simp [O.args]) _ _ _ _ _ _ hq
      have : id ∈ oslId (ev t x) ∨ id = i := by
        split at hid
        · split at hid
          · simpa using hid
          · simp only [List.mem_cons, List.not_mem_nil, or_false] at hid; exact hid.symm
        · simp only [List.mem_cons, List.not_mem_nil, or_false] at hid
          rcases hid with (hid | hid) | hid
          · exact .inr hid
          · exact .inl hid
          · exact .inr hid
      rcases this with h | h
      · exact hx id h
      · subst h; exact hs
    · simp only [List.not_mem_nil, or_false] at hid; exact hx id hid
  | load n x =>
    simp only [fpE] at hid
    split at hid
    · rename_i i off hq; simp at hid; subst hid; exact own x (by simp [O.args]) _ _ hq
    · simp at hid
  | store n p x =>
    simp only [fpE] at hid
    split at hid
    · rename_i i off hq; simp at hid; subst hid; exact own p (by simp [O.args]) _ _ hq
    · simp at hid
  | sla n sz x lo hi =>
    simp only [fpE] at hid
    split at hid
    · rename_i i off hq; simp at hid; subst hid; exact own x (by simp [O.args]) _ _ hq
    · simp at hid
  | look l ka z ok m k =>
    simp only [fpE] at hid
    split at hid
    · rename_i i hq; simp at hid; subst hid; exact omap m (by simp [O.args]) _ hq
    · simp at hid
  | mupd l ka m k x =>
    simp only [fpE] at hid
    split at hid
    · rename_i i hq; simp at hid; subst hid; exact omap m (by simp [O.args]) _ hq
    · simp at hid
  | lenm x =>
    simp only [fpE] at hid
    split at hid
    · rename_i i hq; simp at hid; subst hid; exact omap x (by simp [O.args]) _ hq
    · simp at hid
  | conv k x =>
    simp only [fpE] at hid
    split at hid
    · rename_i i _ _ _ _ _ hq; simp at hid; subst hid; exact osl x (by simp [O.args]) _ _ _ _ _ _ hq
    · simp at hid
  | clr z x =>
    simp only [fpE] at hid
    split at hid
    · simp at hid
    · rename_i i _ _ _ _ _ _ hq; simp at hid; subst hid; exact osl x (by simp [O.args]) _ _ _ _ _ _ hq
    · simp at hid
  | _ => simp [fpE] at hid

/-- Behind an operation that calls no function. -/
theorem post_op {r : Result Next} (hfo : FootS h h' fp tc) (hp : Pre s h h' fp) (hacc : ∀ id, id ∈ fp.1 ∨ id ∈ fp.2 → s.G id ≠ none) (hok : OkOp gl s h h' v r) :
    ∃ s' c nx, r = .ok nx s'.w ∧ (nx = .value c ∨ (nx = .skip ∧ c = undef)) ∧ PostT gl s h h' v fp s' c := by
  obtain ⟨s', c, nx, h1, h2, h3⟩ := hok
  refine ⟨s', c, nx, h1, h2, h3.inv, h3.ext, h3.vr, fun id a b => ?_, fun id a => ?_, fun id a b d => ?_, fun id a => ?_, fun id a b => .inl ?_, hacc, fun id a b => ?_⟩
  · rw [h3.G]; unfold upd
    rw [if_neg]
    rw [List.getElem?_eq_none a, List.getElem?_eq_getElem b]; simp
  · rw [h3.G]; unfold upd
    rw [if_pos]
    rw [List.getElem?_eq_none a, List.getElem?_eq_none (Nat.le_trans hfo.len a)]
  · rw [h3.G]; unfold upd
    rw [if_pos (hfo.keep id a d)]
  · rw [h3.G]; unfold upd
    split
    · rename_i e; rw [e]; exact hp.w id a (hacc id (.inr a))
    · rfl
  · rw [h3.G]; unfold upd
    rw [if_pos (hfo.keep id (hfo.lt id (.inl a)) b)]
  · cases hm : s'.M id with
    | none => rfl
    | some l =>
      exfalso
      rcases h3.M id l hm with k | k
      · rw [a] at k; cases k
      · omega

/-! ### Before and behind code -/

def AgrAt (G : Nat → Option Ob) (h : H) (id : Nat) : Prop := (G id).map Ob.frozen = (h[id]?).map Ob.frozen ∧ (isMut h[id]? → G id = h[id]?)

structure PreC (s : St) (h h' : H) : Prop where
  agr : ∀ id, id < h.length → s.G id ≠ none → AgrAt s.G h id
  n : ∀ id, h.length ≤ id → id < h'.length → s.M id = none ∧ s.G id = none

structure PostC (gl : Nat → Option (List V)) (s : St) (h h' : H) (s' : St) : Prop where
  inv : Inv gl s'
  ext : Ext s s'
  len : h.length ≤ h'.length
  agr : ∀ id, id < h'.length → s'.G id ≠ none → AgrAt s'.G h' id
  new : ∀ id, h.length ≤ id → id < h'.length → AgrAt s'.G h' id
  far : ∀ id, h'.length ≤ id → s'.G id = s.G id
  non : ∀ id, id < h.length → s.G id = none → s'.G id = none ∧ h'[id]? = h[id]?
  mono : ∀ id, id < h.length → isMut h'[id]? → isMut h[id]?
  grow : ∀ id, s.G id ≠ none → s'.G id ≠ none
  M : ∀ id, s.M id = none → (id < h.length ∨ h'.length ≤ id) → s'.M id = none

theorem PreC.pre (hp : PreC s h h') (hfo : Foot h h' fp tc) : Pre s h h' fp :=
  ⟨fun id a b => (hp.agr id (hfo.lt id (.inl a)) b).1, fun id a b => (hp.agr id (hfo.lt id (.inr a)) b).2 (hfo.wmut id a), hp.n⟩

theorem not_mut_frozen (o : Option Ob) : ¬ isMut (o.map Ob.frozen) := by
  rintro ⟨x, hx, hm⟩
  rw [Option.map_eq_some_iff] at hx
  obtain ⟨y, _, rfl⟩ := hx
  cases y <;> simp [Ob.frozen, Ob.mut] at hm

theorem frozen_frozen (o : Option Ob) : (o.map Ob.frozen).map Ob.frozen = o.map Ob.frozen := by
  cases o with
  | none => rfl
  | some x => cases x <;> rfl

theorem AgrAt.refl (h : H) (id : Nat) {G : Nat → Option Ob} (e : G id = h[id]?) : AgrAt G h id := ⟨by rw [e], fun _ => e⟩

theorem PostT.postC (hp : PreC s h h') (hfo : Foot h h' fp tc) (hq : PostT gl s h h' v fp s' c) : PostC gl s h h' s' := by
  have hmono : ∀ id, id < h.length → isMut h'[id]? → isMut h[id]? := fun id a b => by
    by_cases hw : id ∈ fp.2
    · exact hfo.wmut id hw
    · rcases hfo.keep id a hw with e | ⟨_, e⟩
      · rw [← e]; exact b
      · rw [e] at b; exact absurd b (not_mut_frozen _)
  refine ⟨hq.inv, hq.ext, hfo.len, fun id a b => ?_, fun id a b => .refl _ _ (hq.new id a b), hq.far, fun id a b => ?_, hmono, fun id a => ?_, hq.M⟩
  · by_cases hlt : id < h.length
    · by_cases hw : id ∈ fp.2
      · exact .refl _ _ (hq.wr id hw)
      · by_cases hr : id ∈ fp.1
        · have hag := hp.agr id hlt (hq.acc id (.inl hr))
          rcases hq.rd id hr hw with e | ⟨e, hm⟩
          · rcases hfo.keep id hlt hw with k | ⟨_, k⟩
            · exact ⟨by rw [e, k]; exact hag.1, fun m => by rw [e, k]; exact hag.2 (by rw [← k]; exact m)⟩
            · exact ⟨by rw [e, k, frozen_frozen]; exact hag.1, fun m => by rw [k] at m; exact absurd m (not_mut_frozen _)⟩
          · rcases hfo.keep id hlt hw with k | ⟨_, k⟩
            · exact ⟨by rw [e, k, frozen_frozen]; exact hag.1, fun m => absurd m hm⟩
            · exact ⟨by rw [e, k, frozen_frozen, frozen_frozen]; exact hag.1, fun m => absurd m hm⟩
        · have e := hq.oth id hlt hr hw
          have hag := hp.agr id hlt (by rw [← e]; exact b)
          rcases hfo.keep id hlt hw with k | ⟨k, _⟩
          · exact ⟨by rw [e, k]; exact hag.1, fun m => by rw [e, k]; exact hag.2 (by rw [← k]; exact m)⟩
          · exact absurd k hr
    · exact .refl _ _ (hq.new id (by omega) a)
  · have hr : id ∉ fp.1 := fun k => hq.acc id (.inl k) b
    have hw : id ∉ fp.2 := fun k => hq.acc id (.inr k) b
    refine ⟨by rw [hq.oth id a hr hw, b], ?_⟩
    rcases hfo.keep id a hw with k | ⟨k, _⟩
    · exact k
    · exact absurd k hr
  · by_cases hlt : id < h.length
    · by_cases hw : id ∈ fp.2
      · rw [hq.wr id hw, List.getElem?_eq_getElem (Nat.lt_of_lt_of_le hlt hfo.len)]; simp
      · by_cases hr : id ∈ fp.1
        · rcases hq.rd id hr hw with e | ⟨e, _⟩
          · rw [e]; exact a
          · rw [e]; simpa using a
        · rw [hq.oth id hlt hr hw]; exact a
    · by_cases hlt2 : id < h'.length
      · rw [hq.new id (by omega) hlt2, List.getElem?_eq_getElem hlt2]; simp
      · rw [hq.far id (by omega)]; exact a

theorem PostC.trans {h2 : H} {s2 : St} (h1' : PostC gl s h h1 s1) (k : PostC gl s1 h1 h2 s2) : PostC gl s h h2 s2 := by
  refine ⟨k.inv, h1'.ext.trans k.ext, Nat.le_trans h1'.len k.len, k.agr, fun id a b => ?_, fun id a => ?_, fun id a b => ?_, fun id a b => ?_, fun id a => k.grow id (h1'.grow id a), fun id a b => ?_⟩
  · by_cases hlt : id < h1.length
    · have hag := h1'.new id a hlt
      refine k.agr id b (k.grow id (fun hG => ?_))
      have := hag.1
      rw [hG, List.getElem?_eq_getElem hlt] at this
      simp at this
    · exact k.new id (by omega) b
  · rw [k.far id a, h1'.far id (Nat.le_trans k.len a)]
  · obtain ⟨a1, a2⟩ := h1'.non id a b
    obtain ⟨b1, b2⟩ := k.non id (Nat.lt_of_lt_of_le a h1'.len) a1
    exact ⟨b1, b2.trans a2⟩
  · exact h1'.mono id a (k.mono id (Nat.lt_of_lt_of_le a h1'.len) b)
  · rcases b with b | b
    · exact k.M id (h1'.M id a (.inl b)) (.inl (Nat.lt_of_lt_of_le b h1'.len))
    · exact k.M id (h1'.M id a (.inr (Nat.le_trans k.len b))) (.inr b)

theorem PostC.refl (hI : Inv gl s) (hp : PreC s h h) : PostC gl s h h s :=
  ⟨hI, .refl _, Nat.le_refl _, hp.agr, fun id a b => absurd a (by omega), fun _ _ => rfl, fun _ _ e => ⟨e, rfl⟩, fun _ _ m => m, fun _ e => e, fun _ e _ => e⟩

theorem PreC.first (hp : PreC s h h') (hl : h1.length ≤ h'.length) : PreC s h h1 := ⟨hp.agr, fun id a b => hp.n id a (by omega)⟩

theorem PreC.next (hp : PreC s h h') (hq : PostC gl s h h1 s1) : PreC s1 h1 h' :=
  ⟨hq.agr, fun id a b => by
    obtain ⟨k1, k2⟩ := hp.n id (Nat.le_trans hq.len a) b
    exact ⟨hq.M id k1 (.inr a), by rw [hq.far id a, k2]⟩⟩
end
end Go.Am
