/-
  REGIONS WHOSE ORDER IS DRAWN, SECOND PART: what holds when some of the operations are behind. Conditions: as each lemma names them.
-/
import Derived.Test.YtnfhojipjhcjjaaGreatDoorAm19
namespace Go.Am
set_option autoImplicit false
set_option linter.unusedVariables false
set_option linter.unusedSimpArgs false

/-- Up to where do those that write have been carried out? -/
def Cut (S : Nat → Prop) (W : Nat → Prop) (n m : Nat) : Prop := m ≤ n ∧ ∀ i, i < n → W i → (S i ↔ i < m)

theorem const_of_not {α : Type} (X : Nat → α) (W : Nat → Prop) (n : Nat) (hW : ∀ i, i < n → ¬ W i → X (i + 1) = X i) : ∀ (d m : Nat), m + d ≤ n → (∀ i, m ≤ i → i < m + d → ¬ W i) → X (m + d) = X m
  | 0, m, _, _ => rfl
  | d + 1, m, h, hn => by
    have h1 := const_of_not X W n hW d m (by omega) (fun i a b => hn i a (by omega))
    have h2 := hW (m + d) (by omega) (hn (m + d) (by omega) (by omega))
    rw [show m + (d + 1) = m + d + 1 from by omega, h2, h1]

theorem cut_eq {α : Type} {X : Nat → α} {S W : Nat → Prop} {n m m' : Nat} (hW : ∀ i, i < n → ¬ W i → X (i + 1) = X i) (h : Cut S W n m) (h' : Cut S W n m') : X m = X m' := by
  have key : ∀ m m', m ≤ m' → Cut S W n m → Cut S W n m' → X m = X m' := fun m m' hle h h' => by
    obtain ⟨d, rfl⟩ := Nat.exists_eq_add_of_le hle
    exact (const_of_not X W n hW d m h'.1 (fun i a b hw => by
      have h1 := h.2 i (by have := h'.1; omega) hw
      have h2 := h'.2 i (by have := h'.1; omega) hw
      have := h1.1 (h2.2 b)
      omega)).symm
  rcases Nat.le_total m m' with hle | hle
  · exact key m m' hle h h'
  · exact (key m' m hle h' h).symm

/-- The evaluator's run of a region, and what is known of its operations. -/
structure Run (P : Program) (gl : Nat → Option (List V)) (inl : FuncId → Bool) (call : CallF) where
  ops : Array Oper
  l : List Op
  T : Nat → Am.T
  H : Nat → Am.H
  F : Nat → List Nat × List Nat
  K : Nat → Bool
  len : l.length = ops.size
  step : ∀ i q, l[i]? = some q → StepAt inl call T H F K i q
  comp : ∀ (i : Nat) (q : Op) (oper : Oper), l[i]? = some q → ops[i]? = some oper → compOp P gl true oper = some q.op ∧ guardOf ops.toList oper = some q.g ∧ oper.dst = q.dst ∧ q.op.args.all A.fine = true
  after : ∀ (j : Nat) (o : Oper), ops[j]? = some o → ∀ e ∈ o.after, Region.binds .any e = true → e.on < j
  ord : ∀ (i j : Nat) (a b : Op), i < j → l[i]? = some a → l[j]? = some b → ((ancs ops.toList).getD j 0).testBit i = true ∨
    (clashT a b = false ∧ (clashM inl a.op b.op = false ∨ (i ∈ b.ls ∧ told inl a.op = true ∧ told inl b.op = true)))

section
variable {P : Program} {gl : Nat → Option (List V)} {inl : FuncId → Bool} {call : CallF}

/-- Is an operation's footprint told? -/
def Run.told (R : Run P gl inl call) (i : Nat) : Bool := match R.l[i]? with | some q => Am.told inl q.op | none => true

/-- Does an operation that was carried out touch an object that was there? -/
def Run.TF (R : Run P gl inl call) (i id : Nat) : Prop := id < (R.H i).length ∧ ((R.told i = true ∧ (id ∈ (R.F i).1 ∨ id ∈ (R.F i).2)) ∨ (R.told i = false ∧ R.K i = true))

def Run.WF (R : Run P gl inl call) (i id : Nat) : Prop := id < (R.H i).length ∧ ((R.told i = true ∧ id ∈ (R.F i).2) ∨ (R.told i = false ∧ R.K i = true))

def Run.Fz (R : Run P gl inl call) (i id : Nat) : Prop := R.TF i id ∧ ¬ isMut (R.H (i + 1))[id]?

def Run.Wr (R : Run P gl inl call) (id i : Nat) : Prop := ((R.H (i + 1))[id]?).map Ob.frozen ≠ ((R.H i)[id]?).map Ob.frozen

variable (R : Run P gl inl call) (hcall : CallOK P gl inl call)
include hcall

theorem Run.foot {i : Nat} (hi : i < R.l.length) (ht : R.told i = true) : ∃ tc, Foot (R.H i) (R.H (i + 1)) (R.F i) tc ∧ ∀ q, R.l[i]? = some q → tc = tch inl q.op := by
  have hq := List.getElem?_eq_getElem hi
  rcases R.step i _ hq with ⟨_, _, h1, _, h2⟩ | ⟨_, _, ⟨v, h1, _⟩, h2, _⟩
  · rw [h1, h2]
    exact ⟨tch inl (R.l[i]).op, foot_none.foot, fun q hh => by rw [hq] at hh; injection hh with hh; rw [hh]⟩
  · rw [h2]
    have ht' : Am.told inl (R.l[i]).op = true := by unfold Run.told at ht; rw [hq] at ht; exact ht
    exact ⟨_, foot_told hcall ht' h1, fun q hh => by rw [hq] at hh; injection hh with hh; rw [hh]⟩

theorem Run.lenS {i : Nat} (hi : i < R.l.length) : (R.H i).length ≤ (R.H (i + 1)).length := by
  rcases R.step i _ (List.getElem?_eq_getElem hi) with ⟨_, _, h1, _, h2⟩ | ⟨_, _, ⟨v, h1, _⟩, h2, _⟩
  · rw [h1]; exact Nat.le_refl _
  · exact opE_len hcall h1

theorem Run.monoS {i id : Nat} (hi : i < R.l.length) (hid : id < (R.H i).length) (hm : isMut (R.H (i + 1))[id]?) : isMut (R.H i)[id]? := by
  rcases R.step i _ (List.getElem?_eq_getElem hi) with ⟨_, _, h1, _, h2⟩ | ⟨_, _, ⟨v, h1, _⟩, h2, _⟩
  · rw [h1] at hm; exact hm
  · exact opE_mono hcall h1 hid hm

theorem Run.lens : ∀ (d i : Nat), i + d ≤ R.l.length → (R.H i).length ≤ (R.H (i + d)).length
  | 0, i, _ => Nat.le_refl _
  | d + 1, i, h => Nat.le_trans (Run.lens d i (by omega)) (R.lenS hcall (i := i + d) (by omega))

theorem Run.lensL {i j : Nat} (hij : i ≤ j) (hj : j ≤ R.l.length) : (R.H i).length ≤ (R.H j).length := by
  obtain ⟨d, rfl⟩ := Nat.exists_eq_add_of_le hij
  exact R.lens hcall d i hj

theorem Run.monos : ∀ (d i id : Nat), i + d ≤ R.l.length → id < (R.H i).length → isMut (R.H (i + d))[id]? → isMut (R.H i)[id]?
  | 0, i, id, _, _, hm => hm
  | d + 1, i, id, h, hid, hm => Run.monos d i id (by omega) hid (R.monoS hcall (i := i + d) (by omega) (Nat.lt_of_lt_of_le hid (R.lens hcall d i (by omega))) hm)

theorem Run.monoL {i j id : Nat} (hij : i ≤ j) (hj : j ≤ R.l.length) (hid : id < (R.H i).length) (hm : isMut (R.H j)[id]?) : isMut (R.H i)[id]? := by
  obtain ⟨d, rfl⟩ := Nat.exists_eq_add_of_le hij
  exact R.monos hcall d i id hj hid hm

/-- Whoever changes an object that was there writes it. -/
theorem Run.wr_wf {i id : Nat} (hi : i < R.l.length) (hid : id < (R.H i).length) (hw : R.Wr id i) : R.WF i id := by
  refine ⟨hid, ?_⟩
  cases ht : R.told i with
  | true =>
    left
    obtain ⟨tc, hf, _⟩ := R.foot hcall hi ht
    refine ⟨rfl, ?_⟩
    by_cases h2 : id ∈ (R.F i).2
    · exact h2
    · exfalso
      rcases hf.keep id hid h2 with e | ⟨_, e⟩
      · exact hw (by rw [e])
      · exact hw (by rw [e, frozen_frozen])
  | false =>
    right
    refine ⟨rfl, ?_⟩
    rcases R.step i _ (List.getElem?_eq_getElem hi) with ⟨_, _, h1, _, h2⟩ | ⟨hk, _⟩
    · exact absurd (by rw [h1]) hw
    · exact hk

omit hcall in
theorem Run.wf_tf {i id : Nat} (h : R.WF i id) : R.TF i id := ⟨h.1, h.2.elim (fun k => .inl ⟨k.1, .inr k.2⟩) .inr⟩

/-- Two that touch an object, one of which writes it, have an order. -/
theorem Run.conf {i j id : Nat} (hij : i < j) (hj : j < R.l.length) (h : (R.WF i id ∧ R.TF j id) ∨ (R.TF i id ∧ R.WF j id)) : ((ancs R.ops.toList).getD j 0).testBit i = true := by
  have hi : i < R.l.length := by omega
  have hqi := List.getElem?_eq_getElem hi
  have hqj := List.getElem?_eq_getElem hj
  have ti : ∀ (k : Nat) (hk : k < R.l.length), R.TF k id → tch inl (R.l[k]).op ≠ .no := fun k hk h => by
    rcases h.2 with ⟨ht, h⟩ | ⟨ht, _⟩
    · obtain ⟨tc, hf, htc⟩ := R.foot hcall hk ht
      rw [← htc _ (List.getElem?_eq_getElem hk)]
      rcases h with h | h
      · exact hf.r (fun e => by rw [e] at h; cases h)
      · rw [hf.w (fun e => by rw [e] at h; cases h)]; simp
    · unfold Run.told at ht
      rw [List.getElem?_eq_getElem hk] at ht
      simp only at ht
      cases ho : (R.l[k]).op <;> rw [ho] at ht <;> simp [Am.told] at ht
      · simp [tch, ht]
      · simp [tch, ht]
  have wi : ∀ (k : Nat) (hk : k < R.l.length), R.WF k id → tch inl (R.l[k]).op = .writes := fun k hk h => by
    rcases h.2 with ⟨ht, h⟩ | ⟨ht, _⟩
    · obtain ⟨tc, hf, htc⟩ := R.foot hcall hk ht
      rw [← htc _ (List.getElem?_eq_getElem hk)]
      exact hf.w (fun e => by rw [e] at h; cases h)
    · unfold Run.told at ht
      rw [List.getElem?_eq_getElem hk] at ht
      simp only at ht
      cases ho : (R.l[k]).op <;> rw [ho] at ht <;> simp [Am.told] at ht
      · simp [tch, ht]
      · simp [tch, ht]
  rcases R.ord i j _ _ hij hqi hqj with h1 | ⟨_, h1 | ⟨h1, h2, h3⟩⟩
  · exact h1
  · exfalso
    unfold clashM at h1
    simp only [Bool.or_eq_false_iff, Bool.and_eq_false_iff, beq_eq_false_iff_ne, bne_eq_false_iff_eq] at h1
    rcases h with ⟨a, b⟩ | ⟨a, b⟩
    · rcases h1.1 with k | k
      · exact k (wi i hi a)
      · exact ti j hj b k
    · rcases h1.2 with k | k
      · exact k (wi j hj b)
      · exact ti i hi a k
  · exfalso
    have hti : R.told i = true := by unfold Run.told; rw [hqi]; exact h2
    have htj : R.told j = true := by unfold Run.told; rw [hqj]; exact h3
    rcases R.step j _ hqj with ⟨_, _, _, _, hF⟩ | ⟨_, _, _, _, hap⟩
    · have : R.TF j id := h.elim (fun k => k.2) (fun k => R.wf_tf k.2)
      rcases this.2 with ⟨_, k⟩ | ⟨k, _⟩
      · rw [hF] at k; simp at k
      · rw [htj] at k; cases k
    · have hp := hap i h1 hij
      unfold apart at hp
      simp only [Bool.and_eq_true, List.all_eq_true, Bool.not_eq_true', List.contains_eq_mem, decide_eq_false_iff_not] at hp
      rcases h with ⟨a, b⟩ | ⟨a, b⟩
      · have a2 : id ∈ (R.F i).2 := by rcases a.2 with ⟨_, k⟩ | ⟨k, _⟩; · exact k
                                       · rw [hti] at k; cases k
        rcases b.2 with ⟨_, k⟩ | ⟨k, _⟩
        · rcases k with k | k
          · exact (hp.1 id a2).1 k
          · exact (hp.1 id a2).2 k
        · rw [htj] at k; cases k
      · have b2 : id ∈ (R.F j).2 := by rcases b.2 with ⟨_, k⟩ | ⟨k, _⟩; · exact k
                                       · rw [htj] at k; cases k
        rcases a.2 with ⟨_, k⟩ | ⟨k, _⟩
        · rcases k with k | k
          · exact hp.2 id b2 k
          · exact (hp.1 id k).2 b2
        · rw [hti] at k; cases k
end
end Go.Am
