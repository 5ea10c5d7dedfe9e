/-
  COMPARE. Conditions: as each theorem names them.
-/
import Derived.Test.YtnfhojipjhcjjaaGreatDoorEa8
import Derived.KernelRfl
namespace Go.Proofs
namespace Ea
open Go.Am
set_option autoImplicit false
set_option linter.unusedVariables false
set_option linter.unusedSimpArgs false
set_option maxRecDepth 100000
set_option maxHeartbeats 4000000

theorem p30 {k N I k2 N2 I2 u v : Int} {s w : List UInt8} {m m' : V} (ho : okM 5 m = true) (ho' : okM 5 m' = true) :
    good30 (k = k2 ∧ N = N2 ∧ I = I2 ∧ u = v ∧ s = w ∧ decM m = decM m') (fnX E (on [59, 60, 61, 62] (sp 0)) 20 c30 [.agg [.int .i64 k, .int .i64 N, .int .i64 I, .int .u64 u, .str s, m], .agg [.int .i64 k2, .int .i64 N2, .int .i64 I2, .int .u64 v, .str w, m']]) := by
  rcases okM_cases ho with rfl | ⟨l, hl, rfl⟩
  · rcases okM_cases ho' with rfl | ⟨l', hl', rfl⟩
    · exact p30_n_n
    · rw [show decM (.isl (encC l') l'.length none) = l' from dec_enc l']
      rcases l' with _ | ⟨⟨qa1, qb1, qs1⟩, _ | ⟨⟨qa2, qb2, qs2⟩, _ | ⟨⟨qa3, qb3, qs3⟩, _ | ⟨⟨qa4, qb4, qs4⟩, _ | ⟨⟨qa5, qb5, qs5⟩, _ | ⟨e, r⟩⟩⟩⟩⟩⟩
      · exact p30_n_0
      · exact p30_n_1
      · exact p30_n_2
      · exact p30_n_3
      · exact p30_n_4
      · exact p30_n_5
      · simp at hl'
  · rw [show decM (.isl (encC l) l.length none) = l from dec_enc l]
    rcases okM_cases ho' with rfl | ⟨l', hl', rfl⟩
    · rcases l with _ | ⟨⟨a1, b1, s1⟩, _ | ⟨⟨a2, b2, s2⟩, _ | ⟨⟨a3, b3, s3⟩, _ | ⟨⟨a4, b4, s4⟩, _ | ⟨⟨a5, b5, s5⟩, _ | ⟨e, r⟩⟩⟩⟩⟩⟩
      · exact p30_0_n
      · exact p30_1_n
      · exact p30_2_n
      · exact p30_3_n
      · exact p30_4_n
      · exact p30_5_n
      · simp at hl
    · rw [show decM (.isl (encC l') l'.length none) = l' from dec_enc l']
      rcases l with _ | ⟨⟨a1, b1, s1⟩, _ | ⟨⟨a2, b2, s2⟩, _ | ⟨⟨a3, b3, s3⟩, _ | ⟨⟨a4, b4, s4⟩, _ | ⟨⟨a5, b5, s5⟩, _ | ⟨e, r⟩⟩⟩⟩⟩⟩
      · rcases l' with _ | ⟨⟨qa1, qb1, qs1⟩, _ | ⟨⟨qa2, qb2, qs2⟩, _ | ⟨⟨qa3, qb3, qs3⟩, _ | ⟨⟨qa4, qb4, qs4⟩, _ | ⟨⟨qa5, qb5, qs5⟩, _ | ⟨e, r⟩⟩⟩⟩⟩⟩
        · exact p30_0_0
        · exact p30_0_1
        · exact p30_0_2
        · exact p30_0_3
        · exact p30_0_4
        · exact p30_0_5
        · simp at hl'
      · rcases l' with _ | ⟨⟨qa1, qb1, qs1⟩, _ | ⟨⟨qa2, qb2, qs2⟩, _ | ⟨⟨qa3, qb3, qs3⟩, _ | ⟨⟨qa4, qb4, qs4⟩, _ | ⟨⟨qa5, qb5, qs5⟩, _ | ⟨e, r⟩⟩⟩⟩⟩⟩
        · exact p30_1_0
        · exact p30_1_1
        · exact p30_1_2
        · exact p30_1_3
        · exact p30_1_4
        · exact p30_1_5
        · simp at hl'
      · rcases l' with _ | ⟨⟨qa1, qb1, qs1⟩, _ | ⟨⟨qa2, qb2, qs2⟩, _ | ⟨⟨qa3, qb3, qs3⟩, _ | ⟨⟨qa4, qb4, qs4⟩, _ | ⟨⟨qa5, qb5, qs5⟩, _ | ⟨e, r⟩⟩⟩⟩⟩⟩
        · exact p30_2_0
        · exact p30_2_1
        · exact p30_2_2
        · exact p30_2_3
        · exact p30_2_4
        · exact p30_2_5
        · simp at hl'
      · rcases l' with _ | ⟨⟨qa1, qb1, qs1⟩, _ | ⟨⟨qa2, qb2, qs2⟩, _ | ⟨⟨qa3, qb3, qs3⟩, _ | ⟨⟨qa4, qb4, qs4⟩, _ | ⟨⟨qa5, qb5, qs5⟩, _ | ⟨e, r⟩⟩⟩⟩⟩⟩
        · exact p30_3_0
        · exact p30_3_1
        · exact p30_3_2
        · exact p30_3_3
        · exact p30_3_4
        · exact p30_3_5
        · simp at hl'
      · rcases l' with _ | ⟨⟨qa1, qb1, qs1⟩, _ | ⟨⟨qa2, qb2, qs2⟩, _ | ⟨⟨qa3, qb3, qs3⟩, _ | ⟨⟨qa4, qb4, qs4⟩, _ | ⟨⟨qa5, qb5, qs5⟩, _ | ⟨e, r⟩⟩⟩⟩⟩⟩
        · exact p30_4_0
        · exact p30_4_1
        · exact p30_4_2
        · exact p30_4_3
        · exact p30_4_4
        · exact p30_4_5
        · simp at hl'
      · rcases l' with _ | ⟨⟨qa1, qb1, qs1⟩, _ | ⟨⟨qa2, qb2, qs2⟩, _ | ⟨⟨qa3, qb3, qs3⟩, _ | ⟨⟨qa4, qb4, qs4⟩, _ | ⟨⟨qa5, qb5, qs5⟩, _ | ⟨e, r⟩⟩⟩⟩⟩⟩
        · exact p30_5_0
        · exact p30_5_1
        · exact p30_5_2
        · exact p30_5_3
        · exact p30_5_4
        · exact p30_5_5
        · simp at hl'
      · simp at hl

theorem cmpV_key {k N I k2 N2 I2 u v : Int} {s w : List UInt8} {m m' : V} (ho : okM 5 m = true) (ho' : okM 5 m' = true) : ∃ c : Int, (c = 0 ↔ k = k2 ∧ N = N2 ∧ I = I2 ∧ u = v ∧ s = w ∧ decM m = decM m') ∧ Ans E 30 [val k N I u s m, val k2 N2 I2 v w m'] (.int .i64 c) := by
  obtain ⟨c, h1, h2⟩ := p30 (k := k) (N := N) (I := I) (k2 := k2) (N2 := N2) (I2 := I2) (u := u) (v := v) (s := s) (w := w) ho ho'
  exact ⟨c, h1, fnX_ans (ok59 0) rfl (by kernel_rfl) rfl (fn := c30) h2⟩

theorem cmpV_eq {k N I k2 N2 I2 u v : Int} {s w : List UInt8} {m m' : V} (ho : okM 5 m = true) (ho' : okM 5 m' = true) : cmpV (k, N, I, u, s, m) (k2, N2, I2, v, w, m') = 0 ↔ k = k2 ∧ N = N2 ∧ I = I2 ∧ u = v ∧ s = w ∧ decM m = decM m' := by
  have key := cmpV_key (k := k) (N := N) (I := I) (k2 := k2) (N2 := N2) (I2 := I2) (u := u) (v := v) (s := s) (w := w) ho ho'
  unfold cmpV
  rw [dif_pos key]
  exact key.choose_spec.1

theorem a30 (as : List V) (r : Tr) (v : V) (e : s30 as = some r) (q : runTr r some = some v) : Ans E 30 as v := by
  unfold s30 at e
  split at e
  · rename_i k N I u s m k' N' I' u' s' m'
    cases e
    obtain ⟨h, q⟩ := need_some q
    cases is_some q
    simp only [Bool.and_eq_true] at h
    have key := cmpV_key (k := k) (N := N) (I := I) (k2 := k') (N2 := N') (I2 := I') (u := u) (v := u') (s := s) (w := s') h.1 h.2
    have := key.choose_spec.2
    unfold cmpV
    rw [dif_pos key]
    exact this
  · cases e

end Ea
end Go.Proofs
