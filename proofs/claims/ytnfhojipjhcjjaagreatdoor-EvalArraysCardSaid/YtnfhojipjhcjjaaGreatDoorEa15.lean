/-
  OF: the values that are made of numbers. Conditions: as each theorem names them.
-/
import Derived.Test.YtnfhojipjhcjjaaGreatDoorEa5
import Derived.Test.YtnfhojipjhcjjaaGreatDoorEa11
import Derived.KernelRfl
namespace Go.Proofs
namespace Ea
open Go.Am
set_option autoImplicit false
set_option linter.unusedVariables false
set_option linter.unusedSimpArgs false
set_option maxRecDepth 100000
set_option maxHeartbeats 4000000

/-- The run of Of's loop, bit-vectors. -/
def ofT2 (N I : Int) (cs : List V) (len : Nat) : Nat → Int → V → Option V
  | 0, j, m => bif decide (j < (len : Int)) then some (val 2 N I 0 [] m) else some (val 2 N I 0 [] m)
  | n + 1, j, m => bif decide (j < (len : Int)) then
      bif okI (.isl cs len none) && true then
      bif decide (1 ≤ I) && decide (I ≤ 64) then
      bif decide (1 ≤ N) && decide (N ≤ 64) then
      bif okM 4 m then
      bif (putL (bits (IntKind.i64.wrap ((pick (.isl cs len none) j 1073741824).tdiv 7)) I) (bits (pick (.isl cs len none) j 1073741824) N) [] (decM m)).isEmpty then ofT2 N I cs len n (j + 1) .nils
      else ofT2 N I cs len n (j + 1) (.isl (encC (putL (bits (IntKind.i64.wrap ((pick (.isl cs len none) j 1073741824).tdiv 7)) I) (bits (pick (.isl cs len none) j 1073741824) N) [] (decM m))) (putL (bits (IntKind.i64.wrap ((pick (.isl cs len none) j 1073741824).tdiv 7)) I) (bits (pick (.isl cs len none) j 1073741824) N) [] (decM m)).length none)
      else none else none else none else none
      else some (val 2 N I 0 [] m)

/-- .. strings. -/
noncomputable def ofT3 (N I : Int) (cs : List V) (len : Nat) : Nat → Int → V → Option V
  | 0, j, m => bif decide (j < (len : Int)) then some (val 3 N I 0 [] m) else some (val 3 N I 0 [] m)
  | n + 1, j, m => bif decide (j < (len : Int)) then
      bif okI (.isl cs len none) && true then
      bif decide (1 ≤ I) && decide (I ≤ 64) then
      bif decide (0 ≤ N) then
      bif okM 4 m then
      bif (putL (bits (IntKind.i64.wrap ((pick (.isl cs len none) j 1073741824).tdiv 7)) I) 0 (short (pick (.isl cs len none) j 1073741824) N) (decM m)).isEmpty then ofT3 N I cs len n (j + 1) .nils
      else ofT3 N I cs len n (j + 1) (.isl (encC (putL (bits (IntKind.i64.wrap ((pick (.isl cs len none) j 1073741824).tdiv 7)) I) 0 (short (pick (.isl cs len none) j 1073741824) N) (decM m))) (putL (bits (IntKind.i64.wrap ((pick (.isl cs len none) j 1073741824).tdiv 7)) I) 0 (short (pick (.isl cs len none) j 1073741824) N) (decM m)).length none)
      else none else none else none else none
      else some (val 3 N I 0 [] m)

theorem x8_2_i (N I : Int) (cs : List V) (len : Nat) : fnX E (on [28, 36, 37, 38] (sp 0)) 20 c8 [.agg [.int .i64 2, .int .i64 N, .int .i64 I], .isl cs len none] = ofT2 N I cs len 5 0 .nils := by kernel_rfl
theorem x8_3_i (N I : Int) (cs : List V) (len : Nat) : fnX E (on [28, 36, 37, 38] (sp 0)) 20 c8 [.agg [.int .i64 3, .int .i64 N, .int .i64 I], .isl cs len none] = ofT3 N I cs len 5 0 .nils := by kernel_rfl
theorem x8_0_n (N I : Int) : fnX E (on [28, 36, 37, 38] (sp 0)) 20 c8 [.agg [.int .i64 0, .int .i64 N, .int .i64 I], .nils] = bif decide (1 ≤ N) && decide (N ≤ 64) then some (val 0 N I (bits 0 N) [] .nils) else none := by kernel_rfl
theorem x8_0_i (N I : Int) (cs : List V) (len : Nat) : fnX E (on [28, 36, 37, 38] (sp 0)) 20 c8 [.agg [.int .i64 0, .int .i64 N, .int .i64 I], .isl cs len none] = bif okI (.isl cs len none) && true then bif decide (1 ≤ N) && decide (N ≤ 64) then some (val 0 N I (bits (pick (.isl cs len none) 0 1073741824) N) [] .nils) else none else none := by kernel_rfl
theorem x8_1_n (N I : Int) : fnX E (on [28, 36, 37, 38] (sp 0)) 20 c8 [.agg [.int .i64 1, .int .i64 N, .int .i64 I], .nils] = bif decide (0 ≤ N) then some (val 1 N I 0 (short 0 N) .nils) else none := by kernel_rfl
theorem x8_1_i (N I : Int) (cs : List V) (len : Nat) : fnX E (on [28, 36, 37, 38] (sp 0)) 20 c8 [.agg [.int .i64 1, .int .i64 N, .int .i64 I], .isl cs len none] = bif okI (.isl cs len none) && true then bif decide (0 ≤ N) then some (val 1 N I 0 (short (pick (.isl cs len none) 0 1073741824) N) .nils) else none else none := by kernel_rfl
theorem x8_2_n (N I : Int) : fnX E (on [28, 36, 37, 38] (sp 0)) 20 c8 [.agg [.int .i64 2, .int .i64 N, .int .i64 I], .nils] = some (val 2 N I 0 [] .nils) := by kernel_rfl
theorem x8_3_n (N I : Int) : fnX E (on [28, 36, 37, 38] (sp 0)) 20 c8 [.agg [.int .i64 3, .int .i64 N, .int .i64 I], .nils] = some (val 3 N I 0 [] .nils) := by kernel_rfl

/-- Some steps. -/
noncomputable def ofSteps (K N I : Int) (l : V) : Nat → Int → List Ent → List Ent
  | 0, _, m => m
  | n + 1, j, m => ofSteps K N I l n (j + 1) (ofStep K N I l j m)

theorem ofL_eq (K N I : Int) (l : V) : ofL K N I l = ofSteps K N I l 5 0 [] := rfl

theorem steps_stop {K N I : Int} {l : V} : ∀ (n : Nat) {j : Int} {m : List Ent}, ¬ j < (decI l).length → ofSteps K N I l n j m = m
  | 0, _, _, _ => rfl
  | n + 1, j, m, h => by
    unfold ofSteps ofStep
    rw [if_neg h]
    exact steps_stop n (by omega)

theorem ins_len (ix u : Int) (s : List UInt8) (r : List Ent) : (ins ix u s r).length ≤ r.length + 1 := by
  unfold ins
  split
  · simp
  · split <;> simp

theorem putL_len (ix u : Int) (s : List UInt8) (l : List Ent) : (putL ix u s l).length ≤ l.length + 1 := by
  induction l with
  | nil => exact ins_len ix u s []
  | cons e r ih =>
    unfold putL
    split
    · simp only [List.length_cons]; omega
    · refine Nat.le_trans (ins_len ix u s _) ?_
      split
      · simp only [List.length_cons]; omega
      · exact Nat.le_refl _

theorem br_enc {f : V → Option V} (X : List Ent) : (bif X.isEmpty then f .nils else f (.isl (encC X) X.length none)) = f (encM X) := by
  cases X <;> rfl

theorem decI_len (cs : List V) (len : Nat) : (decI (.isl cs len none)).length = cs.length := by unfold decI; rw [List.length_map]

theorem ofT2_eq {N I : Int} {cs : List V} (hI : okI (.isl cs cs.length none) = true) (h1 : 1 ≤ I) (h2 : I ≤ 64) (h3 : 1 ≤ N) (h4 : N ≤ 64) : ∀ (n j : Nat) (L : List Ent), j + n = 5 → L.length ≤ j →
    ofT2 N I cs cs.length n j (encM L) = some (val 2 N I 0 [] (encM (ofSteps 2 N I (.isl cs cs.length none) n j L)))
  | 0, j, L, _, _ => by
    unfold ofT2 ofSteps
    cases decide ((j : Int) < cs.length) <;> rfl
  | n + 1, j, L, hj, hL => by
    unfold ofT2
    by_cases hlt : (j : Int) < cs.length
    · rw [decide_eq_true hlt, hI, decide_eq_true h1, decide_eq_true h2, decide_eq_true h3, decide_eq_true h4, okM_encM (show L.length ≤ 4 by omega), decM_encM]
      simp only [Bool.and_self, cond_true]
      rw [br_enc (f := fun v => ofT2 N I cs cs.length n ((j : Int) + 1) v)]
      have ih := ofT2_eq hI h1 h2 h3 h4 n (j + 1) (putL (bits (IntKind.i64.wrap ((pick (.isl cs cs.length none) j 1073741824).tdiv 7)) I) (bits (pick (.isl cs cs.length none) j 1073741824) N) [] L) (by omega) (by have := putL_len (bits (IntKind.i64.wrap ((pick (.isl cs cs.length none) j 1073741824).tdiv 7)) I) (bits (pick (.isl cs cs.length none) j 1073741824) N) [] L; omega)
      refine ih.trans ?_
      rw [show ofSteps 2 N I (.isl cs cs.length none) (n + 1) j L = ofSteps 2 N I (.isl cs cs.length none) n ((j : Int) + 1) (ofStep 2 N I (.isl cs cs.length none) j L) from rfl]
      unfold ofStep
      rw [decI_len, if_pos hlt, if_pos rfl, if_pos rfl]
      rfl
    · rw [decide_eq_false hlt, steps_stop (n + 1) (by rw [decI_len]; exact hlt)]
      rfl

theorem ofT3_eq {N I : Int} {cs : List V} (hI : okI (.isl cs cs.length none) = true) (h1 : 1 ≤ I) (h2 : I ≤ 64) (h3 : 0 ≤ N) : ∀ (n j : Nat) (L : List Ent), j + n = 5 → L.length ≤ j →
    ofT3 N I cs cs.length n j (encM L) = some (val 3 N I 0 [] (encM (ofSteps 3 N I (.isl cs cs.length none) n j L)))
  | 0, j, L, _, _ => by
    unfold ofT3 ofSteps
    cases decide ((j : Int) < cs.length) <;> rfl
  | n + 1, j, L, hj, hL => by
    unfold ofT3
    by_cases hlt : (j : Int) < cs.length
    · rw [decide_eq_true hlt, hI, decide_eq_true h1, decide_eq_true h2, decide_eq_true h3, okM_encM (show L.length ≤ 4 by omega), decM_encM]
      simp only [Bool.and_self, cond_true]
      rw [br_enc (f := fun v => ofT3 N I cs cs.length n ((j : Int) + 1) v)]
      have ih := ofT3_eq hI h1 h2 h3 n (j + 1) (putL (bits (IntKind.i64.wrap ((pick (.isl cs cs.length none) j 1073741824).tdiv 7)) I) 0 (short (pick (.isl cs cs.length none) j 1073741824) N) L) (by omega) (by have := putL_len (bits (IntKind.i64.wrap ((pick (.isl cs cs.length none) j 1073741824).tdiv 7)) I) 0 (short (pick (.isl cs cs.length none) j 1073741824) N) L; omega)
      refine ih.trans ?_
      rw [show ofSteps 3 N I (.isl cs cs.length none) (n + 1) j L = ofSteps 3 N I (.isl cs cs.length none) n ((j : Int) + 1) (ofStep 3 N I (.isl cs cs.length none) j L) from rfl]
      unfold ofStep
      rw [decI_len, if_pos hlt, if_neg (by decide), if_neg (by decide)]
      rfl
    · rw [decide_eq_false hlt, steps_stop (n + 1) (by rw [decI_len]; exact hlt)]
      rfl

theorem ok8 (K : Int) : SpOK E (on [28, 36, 37, 38] (sp K)) := on_cons (on_cons (on_cons (on_cons (on_nil _) (fun as r v e q _ => a38 as r v e q)) (fun as r v e q _ => a37 as r v e q)) (fun as r v e q _ => a36 as r v e q)) (fun as r v e q _ => a28 as r v e q)

theorem okI_cases {l : V} (h : okI l = true) : l = .nils ∨ ∃ cs, l = .isl cs cs.length none := by
  unfold okI at h
  split at h
  · exact .inl rfl
  · simp only [Bool.and_eq_true, beq_iff_eq] at h
    exact .inr ⟨_, by rw [h.2]⟩
  · cases h

theorem okS_arr {K N I : Int} (h : okS K N I = true) (h0 : ¬ K = 0) (h1 : ¬ K = 1) : (K = 2 ∧ 1 ≤ N ∧ N ≤ 64 ∨ K = 3 ∧ 0 ≤ N ∧ N ≤ 64) ∧ 1 ≤ I ∧ I ≤ 16 := by
  unfold okS at h
  rw [if_neg h0, if_neg h1] at h
  split at h
  · simp only [Bool.and_eq_true, decide_eq_true_eq] at h; omega
  · simp only [Bool.and_eq_true, decide_eq_true_eq] at h; omega

theorem pick_nils (i m : Int) : pick .nils i m = 0 := by
  show (if i < 0 then 0 else if i ≥ ((0 : Nat) : Int) then 0 else _) = 0
  split
  · rfl
  · rw [if_pos (by omega)]

theorem ofL_nils (K N I : Int) : ofL K N I .nils = [] := by
  rw [ofL_eq]
  exact steps_stop 5 (by decide)

theorem a8 (as : List V) (r : Tr) (v : V) (e : s8 as = some r) (q : runTr r some = some v) : Ans E 8 as v := by
  unfold s8 at e
  split at e
  · rename_i k N I l
    split at e
    · rename_i hk
      subst hk
      cases e
      obtain ⟨h, q⟩ := need_some q
      cases is_some q
      simp only [Bool.and_eq_true, decide_eq_true_eq] at h
      obtain ⟨⟨hI, h1⟩, h2⟩ := h
      refine fnX_ans (ok8 0) rfl (by kernel_rfl) rfl (n := 20) (fn := c8) ?_
      rcases okI_cases hI with rfl | ⟨cs, rfl⟩
      · rw [x8_0_n, decide_eq_true h1, decide_eq_true h2, pick_nils]; rfl
      · rw [x8_0_i, hI, decide_eq_true h1, decide_eq_true h2]; rfl
    · rename_i hk0
      split at e
      · rename_i hk
        subst hk
        cases e
        obtain ⟨h, q⟩ := need_some q
        cases is_some q
        simp only [Bool.and_eq_true, decide_eq_true_eq] at h
        obtain ⟨hI, h1⟩ := h
        refine fnX_ans (ok8 0) rfl (by kernel_rfl) rfl (n := 20) (fn := c8) ?_
        rcases okI_cases hI with rfl | ⟨cs, rfl⟩
        · rw [x8_1_n, decide_eq_true h1, pick_nils]; rfl
        · rw [x8_1_i, hI, decide_eq_true h1]; rfl
      · rename_i hk1
        cases e
        obtain ⟨h, q⟩ := need_some q
        rw [encM_br] at q
        cases q
        simp only [Bool.and_eq_true] at h
        obtain ⟨hI, hS⟩ := h
        obtain ⟨hK, hi1, hi2⟩ := okS_arr hS hk0 hk1
        refine fnX_ans (ok8 0) rfl (by kernel_rfl) rfl (n := 20) (fn := c8) ?_
        rcases hK with ⟨rfl, h1, h2⟩ | ⟨rfl, h1, h2⟩
        · rcases okI_cases hI with rfl | ⟨cs, rfl⟩
          · rw [x8_2_n, ofL_nils]; rfl
          · rw [x8_2_i, ofL_eq]
            exact ofT2_eq hI hi1 (by omega) h1 h2 5 0 [] rfl (Nat.le_refl _)
        · rcases okI_cases hI with rfl | ⟨cs, rfl⟩
          · rw [x8_3_n, ofL_nils]; rfl
          · rw [x8_3_i, ofL_eq]
            exact ofT3_eq hI hi1 (by omega) h1 5 0 [] rfl (Nat.le_refl _)
  · cases e

/-! ### What is made is valid -/

theorem bits_range {n b : Int} (h0 : 1 ≤ b) (h1 : b ≤ 64) : 0 ≤ bits n b ∧ bits n b < 2 ^ b.toNat := by
  have hw : ∀ x, 0 ≤ IntKind.u64.wrap x ∧ IntKind.u64.wrap x < 18446744073709551616 := by
    intro x
    unfold IntKind.wrap IntKind.signed IntKind.bits
    simp only [Bool.false_and, Bool.false_eq_true, if_false]
    omega
  unfold bits
  have key : ∀ k : Int, 0 ≤ k → k < 18446744073709551616 → 0 ≤ (if b < 64 then k.tmod (2 ^ b.toNat) else k) ∧ (if b < 64 then k.tmod (2 ^ b.toNat) else k) < 2 ^ b.toNat := by
    intro k hk hl
    split
    · rename_i hb
      have hp := (two_pow_lt (show b.toNat < 64 by omega)).1
      exact ⟨Int.tmod_nonneg _ hk, Int.tmod_lt_of_pos _ hp⟩
    · have : b = 64 := by omega
      subst this
      exact ⟨hk, hl⟩
  refine key _ ?_ ?_
  · split
    · exact (hw _).1
    · exact (hw _).1
  · split
    · exact (hw _).2
    · exact (hw _).2

theorem vmB_mono {K N I lo lo' : Int} (h : lo' ≤ lo) : ∀ {l : List Ent}, vmB K N I lo l = true → vmB K N I lo' l = true
  | [], _ => rfl
  | e :: r, hv => by
    unfold vmB at hv ⊢
    simp only [Bool.and_eq_true, decide_eq_true_eq] at hv ⊢
    exact ⟨⟨⟨by omega, hv.1.1.2⟩, hv.1.2⟩, hv.2⟩

theorem ins_vm {K N I lo ix u : Int} {s : List UInt8} {r : List Ent} (h0 : lo ≤ ix) (h1 : ix < 2 ^ I.toNat) (hu : 0 ≤ u) (hz : (0 < u ∨ 0 < (s.length : Int)) → okE K N u s = true) (hr : vmB K N I (ix + 1) r = true) : vmB K N I lo (ins ix u s r) = true := by
  have key : okE K N u s = true → vmB K N I lo ((ix, u, s) :: r) = true := by
    intro ho
    unfold vmB
    simp only [Bool.and_eq_true, decide_eq_true_eq]
    exact ⟨⟨⟨h0, h1⟩, ho⟩, hr⟩
  unfold ins
  split
  · exact key (hz (.inl ‹_›))
  · split
    · exact key (hz (.inr ‹_›))
    · exact vmB_mono (by omega) hr

theorem putL_vm {K N I ix u : Int} {s : List UInt8} (h1 : ix < 2 ^ I.toNat) (hu : 0 ≤ u) (hz : (0 < u ∨ 0 < (s.length : Int)) → okE K N u s = true) : ∀ {l : List Ent} {lo : Int}, lo ≤ ix → vmB K N I lo l = true → vmB K N I lo (putL ix u s l) = true
  | [], lo, h0, _ => ins_vm h0 h1 hu hz rfl
  | e :: r, lo, h0, hv => by
    unfold putL
    have hv' := hv
    unfold vmB at hv
    simp only [Bool.and_eq_true, decide_eq_true_eq] at hv
    obtain ⟨⟨⟨a, b⟩, c⟩, d⟩ := hv
    split
    · rename_i hlt
      have ih := putL_vm h1 hu hz (show e.1 + 1 ≤ ix by omega) d
      unfold vmB
      simp only [Bool.and_eq_true, decide_eq_true_eq]
      exact ⟨⟨⟨a, b⟩, c⟩, ih⟩
    · rename_i hlt
      refine ins_vm h0 h1 hu hz ?_
      split
      · rename_i he; rw [← he]; exact d
      · unfold vmB
        simp only [Bool.and_eq_true, decide_eq_true_eq]
        exact ⟨⟨⟨by omega, b⟩, c⟩, d⟩

theorem ofStep_vm {K N I : Int} (hS : okS K N I = true) (hK : K = 2 ∨ K = 3) (l : V) (j : Int) {m : List Ent} (hm : vmB K N I 0 m = true) : vmB K N I 0 (ofStep K N I l j m) = true := by
  obtain ⟨hN, hi1, hi2⟩ := okS_arr hS (by omega) (by omega)
  unfold ofStep
  split
  · have hb := bits_range (n := IntKind.i64.wrap ((pick l j 1073741824).tdiv 7)) hi1 (by omega)
    rcases hK with rfl | rfl
    · have hu := bits_range (n := pick l j 1073741824) (b := N) (by omega) (by omega)
      rw [if_pos rfl, if_pos rfl]
      refine putL_vm hb.2 hu.1 (fun h => ?_) hb.1 hm
      rw [okE_2]
      refine ⟨⟨?_, hu.2⟩, rfl⟩
      rcases h with h | h
      · exact h
      · simp at h
    · have hs := short_len (n := pick l j 1073741824) (most := N) (by omega)
      rw [if_neg (by decide), if_neg (by decide)]
      refine putL_vm hb.2 (Int.le_refl 0) (fun h => ?_) hb.1 hm
      rw [okE_3]
      refine ⟨⟨rfl, fun he => ?_⟩, hs⟩
      rw [he] at h
      simp at h
  · exact hm

theorem ofL_vm {K N I : Int} (hS : okS K N I = true) (hK : K = 2 ∨ K = 3) (l : V) : vmB K N I 0 (ofL K N I l) = true := by
  unfold ofL
  exact ofStep_vm hS hK _ _ (ofStep_vm hS hK _ _ (ofStep_vm hS hK _ _ (ofStep_vm hS hK _ _ (ofStep_vm hS hK _ _ rfl))))

theorem ofStep_len {K N I : Int} (l : V) (j : Int) (m : List Ent) : (ofStep K N I l j m).length ≤ m.length + 1 := by
  unfold ofStep
  split
  · exact putL_len _ _ _ _
  · omega

theorem ofL_len (K N I : Int) (l : V) : (ofL K N I l).length ≤ 5 := by
  unfold ofL
  have h0 := ofStep_len (K := K) (N := N) (I := I) l 0 []
  have h1 := ofStep_len (K := K) (N := N) (I := I) l 1 (ofStep K N I l 0 [])
  have h2 := ofStep_len (K := K) (N := N) (I := I) l 2 (ofStep K N I l 1 (ofStep K N I l 0 []))
  have h3 := ofStep_len (K := K) (N := N) (I := I) l 3 (ofStep K N I l 2 (ofStep K N I l 1 (ofStep K N I l 0 [])))
  have h4 := ofStep_len (K := K) (N := N) (I := I) l 4 (ofStep K N I l 3 (ofStep K N I l 2 (ofStep K N I l 1 (ofStep K N I l 0 []))))
  simp only [List.length_nil] at h0
  omega
end Ea
end Go.Proofs
