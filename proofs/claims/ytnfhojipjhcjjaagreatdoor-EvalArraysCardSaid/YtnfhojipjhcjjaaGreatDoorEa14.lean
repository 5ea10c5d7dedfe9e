/-
  STORE. Conditions: as each theorem names them.
-/
import Derived.Test.YtnfhojipjhcjjaaGreatDoorEa12
import Derived.Test.YtnfhojipjhcjjaaGreatDoorEa13
import Derived.KernelRfl
namespace Go.Proofs
namespace Ea
open Go.Am
set_option autoImplicit false
set_option linter.unusedVariables false
set_option linter.unusedSimpArgs false
set_option maxRecDepth 100000
set_option maxHeartbeats 4000000

theorem p153_2 {N I u ix vI vu : Int} {s vs : List UInt8} {cs : List V} {n : Nat} (ho : okM 5 (.isl cs n none) = true) (h : okV 2 N I u s (.isl cs n none) = true) (hv : okV 0 N vI vu vs .nils = true) (h0 : 0 ≤ ix) (h1 : ix < 2 ^ I.toNat) :
    fnX E (on [39, 70, 61] (sp 0)) 20 c153 [.agg [.int .i64 2, .int .i64 N, .int .i64 I, .int .u64 u, .str s, .isl cs n none], .int .u64 ix, .agg [.int .i64 0, .int .i64 N, .int .i64 vI, .int .u64 vu, .str vs, .nils]] = some (.tup [val 2 N I 0 [] (.isl (encC (putL ix vu vs (decC cs))) (putL ix vu vs (decC cs)).length none), .int .i64 0]) := by
  rcases okM_cases ho with ho | ⟨l, hl, ho⟩
  · cases ho
  · cases ho
    rw [dec_enc l]
    rcases l with _ | ⟨⟨a1, b1, s1⟩, _ | ⟨⟨a2, b2, s2⟩, _ | ⟨⟨a3, b3, s3⟩, _ | ⟨⟨a4, b4, s4⟩, _ | ⟨⟨a5, b5, s5⟩, _ | ⟨e, r⟩⟩⟩⟩⟩⟩
    · exact p153_2_0 h hv h0 h1
    · exact p153_2_1 h hv h0 h1
    · exact p153_2_2 h hv h0 h1
    · exact p153_2_3 h hv h0 h1
    · exact p153_2_4 h hv h0 h1
    · exact p153_2_5 h hv h0 h1
    · simp at hl

theorem p153_3 {N I u ix vN vI vu : Int} {s vs : List UInt8} {cs : List V} {n : Nat} (ho : okM 5 (.isl cs n none) = true) (h : okV 3 N I u s (.isl cs n none) = true) (hv : okV 1 vN vI vu vs .nils = true) (hN : vN ≤ N) (h0 : 0 ≤ ix) (h1 : ix < 2 ^ I.toNat) :
    fnX E (on [39, 70, 61] (sp 0)) 20 c153 [.agg [.int .i64 3, .int .i64 N, .int .i64 I, .int .u64 u, .str s, .isl cs n none], .int .u64 ix, .agg [.int .i64 1, .int .i64 vN, .int .i64 vI, .int .u64 vu, .str vs, .nils]] = some (.tup [val 3 N I 0 [] (.isl (encC (putL ix vu vs (decC cs))) (putL ix vu vs (decC cs)).length none), .int .i64 0]) := by
  rcases okM_cases ho with ho | ⟨l, hl, ho⟩
  · cases ho
  · cases ho
    rw [dec_enc l]
    rcases l with _ | ⟨⟨a1, b1, s1⟩, _ | ⟨⟨a2, b2, s2⟩, _ | ⟨⟨a3, b3, s3⟩, _ | ⟨⟨a4, b4, s4⟩, _ | ⟨⟨a5, b5, s5⟩, _ | ⟨e, r⟩⟩⟩⟩⟩⟩
    · exact p153_3_0 h hv hN h0 h1
    · exact p153_3_1 h hv hN h0 h1
    · exact p153_3_2 h hv hN h0 h1
    · exact p153_3_3 h hv hN h0 h1
    · exact p153_3_4 h hv hN h0 h1
    · exact p153_3_5 h hv hN h0 h1
    · simp at hl

theorem fits_2 {N vk vN : Int} (h : fitsB 2 N vk vN = true) : vk = 0 ∧ vN = N := by
  unfold fitsB at h
  simpa using h

theorem fits_3 {N vk vN : Int} (h : fitsB 3 N vk vN = true) : vk = 1 ∧ vN ≤ N := by
  unfold fitsB at h
  simpa using h

theorem encM_brt (k N I : Int) (l : List Ent) (w : V) : runTr (.br l.isEmpty (.is (.tup [val k N I 0 [] .nils, w])) (.is (.tup [val k N I 0 [] (.isl (encC l) l.length none), w]))) some = some (.tup [val k N I 0 [] (encM l), w]) := by
  cases l with
  | nil => rfl
  | cons e r => rfl

theorem a153 (as : List V) (r : Tr) (v : V) (e : s153 as = some r) (q : runTr r some = some v) : Ans E 153 as v := by
  unfold s153 at e
  split at e
  · cases e
    obtain ⟨h, q⟩ := need_some q
    rw [encM_brt] at q
    cases q
    simp only [Bool.and_eq_true, decide_eq_true_eq] at h
    obtain ⟨⟨⟨⟨⟨h1, hv⟩, h2⟩, hf⟩, h3⟩, h4⟩ := h
    refine fnX_ans (ok39 0) rfl (by kernel_rfl) rfl (n := 20) (fn := c153) ?_
    rcases (okV_arr h1 h2).1 with rfl | rfl
    · obtain ⟨rfl, rfl⟩ := fits_2 hf
      exact p153_2_n h1 hv h3 h4
    · obtain ⟨rfl, hN⟩ := fits_3 hf
      exact p153_3_n h1 hv hN h3 h4
  · cases e
    obtain ⟨h, q⟩ := need_some q
    cases is_some q
    simp only [Bool.and_eq_true, decide_eq_true_eq] at h
    obtain ⟨⟨⟨⟨⟨⟨ho, h1⟩, hv⟩, h2⟩, hf⟩, h3⟩, h4⟩ := h
    refine fnX_ans (ok39 0) rfl (by kernel_rfl) rfl (n := 20) (fn := c153) ?_
    rcases (okV_arr h1 h2).1 with rfl | rfl
    · obtain ⟨rfl, rfl⟩ := fits_2 hf
      exact p153_2 ho h1 hv h3 h4
    · obtain ⟨rfl, hN⟩ := fits_3 hf
      exact p153_3 ho h1 hv hN h3 h4
  · cases e

end Ea
end Go.Proofs
