/-
  VALID VALUES. Conditions: as each theorem names them.
-/
import Derived.Test.YtnfhojipjhcjjaaGreatDoorEa4
import Derived.KernelRfl
namespace Go.Proofs
namespace Ea
open Go.Am
set_option autoImplicit false
set_option linter.unusedVariables false
set_option linter.unusedSimpArgs false
set_option maxRecDepth 100000
set_option maxHeartbeats 4000000

theorem okV_arr {K N I u : Int} {s : List UInt8} {m : V} (h : okV K N I u s m = true) (hk : 2 ≤ K) : (K = 2 ∨ K = 3) ∧ (0 ≤ N ∧ N ≤ 64 ∧ 1 ≤ I ∧ I ≤ 16 ∧ u = 0 ∧ s = [] ∧ (K = 2 → 1 ≤ N)) ∧ vmB K N I 0 (decM m) = true ∧ okM 6 m = true := by
  unfold okV okS at h
  have k0 : ¬ K = 0 := by omega
  have k1 : ¬ K = 1 := by omega
  simp only [if_neg k0, if_neg k1, Bool.and_eq_true, decide_eq_true_eq, List.isEmpty_iff] at h
  obtain ⟨⟨h1, h2⟩, ⟨h3, h4⟩, h5⟩ := h
  split at h1
  · simp only [Bool.and_eq_true, decide_eq_true_eq] at h1; exact ⟨by omega, ⟨by omega, by omega, by omega, by omega, h3, h4, by omega⟩, h5, h2⟩
  · simp only [Bool.and_eq_true, decide_eq_true_eq] at h1; exact ⟨by omega, ⟨by omega, by omega, by omega, by omega, h3, h4, by omega⟩, h5, h2⟩

theorem okE_2 {N u : Int} {s : List UInt8} : (okE 2 N u s = true) = ((0 < u ∧ u < 2 ^ N.toNat) ∧ s = []) := by
  unfold okE
  simp only [if_true, Bool.and_eq_true, decide_eq_true_eq, List.isEmpty_iff]

theorem okE_3 {N u : Int} {s : List UInt8} : (okE 3 N u s = true) = ((u = 0 ∧ ¬ s = []) ∧ (s.length : Int) ≤ N) := by
  unfold okE
  simp only [show ¬ (3 : Int) = 2 by decide, if_false, Bool.and_eq_true, decide_eq_true_eq, Bool.not_eq_true', ← Bool.not_eq_true, List.isEmpty_iff]

theorem nil_len (s : List UInt8) : (s = []) = ((s.length : Int) = 0) := by
  cases s <;> simp; omega

theorem ok70 (K : Int) : SpOK E (on [70] (sp K)) := on_cons (on_nil _) (fun as r v e q _ => a70 as r v e q)

theorem okV_0 {N I u : Int} {s : List UInt8} {m : V} (h : okV 0 N I u s m = true) : 1 ≤ N ∧ N ≤ 64 ∧ I = 0 ∧ 0 ≤ u ∧ u < 2 ^ N.toNat ∧ s = [] ∧ decM m = [] ∧ okM 6 m = true := by
  unfold okV okS at h
  simp only [if_true, Bool.and_eq_true, decide_eq_true_eq, List.isEmpty_iff] at h
  obtain ⟨⟨⟨⟨h1, h2⟩, h3⟩, h4⟩, ⟨⟨h5, h6⟩, h7⟩, h8⟩ := h
  exact ⟨h1, h2, h3, h5, h6, h7, h8, h4⟩

theorem okV_1 {N I u : Int} {s : List UInt8} {m : V} (h : okV 1 N I u s m = true) : 0 ≤ N ∧ N ≤ 64 ∧ I = 0 ∧ u = 0 ∧ (s.length : Int) ≤ N ∧ decM m = [] ∧ okM 6 m = true := by
  unfold okV okS at h
  simp only [show ¬ (1 : Int) = 0 by decide, if_false, if_true, Bool.and_eq_true, decide_eq_true_eq, List.isEmpty_iff] at h
  obtain ⟨⟨⟨⟨h1, h2⟩, h3⟩, h4⟩, ⟨h5, h6⟩, h8⟩ := h
  exact ⟨h1, h2, h3, h5, h6, h8, h4⟩

theorem x39_0_n (N I u : Int) (s : List UInt8) : fnX E (on [70] (sp 0)) 20 c39 [.agg [.int .i64 0, .int .i64 N, .int .i64 I, .int .u64 u, .str s, .nils]] = bif decide (N < 1) then some (.int .i64 9) else bif decide (N > 64) then some (.int .i64 9) else bif (I == 0 && true) != true then some (.int .i64 9) else bif decide (0 ≤ N) && decide (N ≤ 64) then bif N == 64 || decide (u < 2 ^ N.toNat) then bif (s == [] && true) != false then some (.int .i64 0) else some (.int .i64 1) else some (.int .i64 1) else none := by kernel_rfl

theorem x39_0_0 (N I u : Int) (s : List UInt8) : fnX E (on [70] (sp 0)) 20 c39 [.agg [.int .i64 0, .int .i64 N, .int .i64 I, .int .u64 u, .str s, .isl [] 0 none]] = bif decide (N < 1) then some (.int .i64 9) else bif decide (N > 64) then some (.int .i64 9) else bif (I == 0 && true) != true then some (.int .i64 9) else bif decide (0 ≤ N) && decide (N ≤ 64) then bif N == 64 || decide (u < 2 ^ N.toNat) then bif (s == [] && true) != false then some (.int .i64 0) else some (.int .i64 1) else some (.int .i64 1) else none := by kernel_rfl

theorem x39_1_n (N I u : Int) (s : List UInt8) : fnX E (on [70] (sp 0)) 20 c39 [.agg [.int .i64 1, .int .i64 N, .int .i64 I, .int .u64 u, .str s, .nils]] = bif decide (N < 0) then some (.int .i64 9) else bif decide (N > 64) then some (.int .i64 9) else bif (I == 0 && true) != true then some (.int .i64 9) else bif decide ((↑s.length : Int) ≤ N) then bif (u == 0 && true) != false then some (.int .i64 0) else some (.int .i64 1) else some (.int .i64 1) := by kernel_rfl

theorem x39_1_0 (N I u : Int) (s : List UInt8) : fnX E (on [70] (sp 0)) 20 c39 [.agg [.int .i64 1, .int .i64 N, .int .i64 I, .int .u64 u, .str s, .isl [] 0 none]] = bif decide (N < 0) then some (.int .i64 9) else bif decide (N > 64) then some (.int .i64 9) else bif (I == 0 && true) != true then some (.int .i64 9) else bif decide ((↑s.length : Int) ≤ N) then bif (u == 0 && true) != false then some (.int .i64 0) else some (.int .i64 1) else some (.int .i64 1) := by kernel_rfl

theorem x39_2_n (N I u : Int) (s : List UInt8) : fnX E (on [70] (sp 0)) 20 c39 [.agg [.int .i64 2, .int .i64 N, .int .i64 I, .int .u64 u, .str s, .nils]] = bif decide (N < 1) then some (.int .i64 9) else bif decide (N > 64) then some (.int .i64 9) else bif decide (I < 1) then some (.int .i64 9) else bif decide (I > 16) then some (.int .i64 9) else bif (u == 0 && true) != false then bif (s == [] && true) != false then some (.int .i64 0) else some (.int .i64 1) else some (.int .i64 1) := by kernel_rfl

theorem x39_2_0 (N I u : Int) (s : List UInt8) : fnX E (on [70] (sp 0)) 20 c39 [.agg [.int .i64 2, .int .i64 N, .int .i64 I, .int .u64 u, .str s, .isl [] 0 none]] = bif decide (N < 1) then some (.int .i64 9) else bif decide (N > 64) then some (.int .i64 9) else bif decide (I < 1) then some (.int .i64 9) else bif decide (I > 16) then some (.int .i64 9) else bif (u == 0 && true) != false then bif (s == [] && true) != false then some (.int .i64 0) else some (.int .i64 1) else some (.int .i64 1) := by kernel_rfl

theorem x39_2_1 (N I u a1 b1 : Int) (s s1 : List UInt8) : fnX E (on [70] (sp 0)) 20 c39 [.agg [.int .i64 2, .int .i64 N, .int .i64 I, .int .u64 u, .str s, .isl [.int .u64 a1, .int .u64 b1, .str s1] 1 none]] = bif decide (N < 1) then some (.int .i64 9) else bif decide (N > 64) then some (.int .i64 9) else bif decide (I < 1) then some (.int .i64 9) else bif decide (I > 16) then some (.int .i64 9) else bif (u == 0 && true) != false then bif (s == [] && true) != false then bif decide (0 ≤ I) && decide (I ≤ 64) then bif !(I == 64 || decide (a1 < 2 ^ I.toNat)) then some (.int .i64 1) else bif (a1 == a1 && (b1 == 0 && (s1 == [] && true))) != false then some (.int .i64 1) else bif decide (0 ≤ N) && decide (N ≤ 64) then bif !(N == 64 || decide (b1 < 2 ^ N.toNat)) then some (.int .i64 1) else bif (s1 == [] && true) != true then some (.int .i64 1) else some (.int .i64 0) else none else none else some (.int .i64 1) else some (.int .i64 1) := by kernel_rfl

theorem x39_2_2 (N I u a1 b1 a2 b2 : Int) (s s1 s2 : List UInt8) : fnX E (on [70] (sp 0)) 20 c39 [.agg [.int .i64 2, .int .i64 N, .int .i64 I, .int .u64 u, .str s, .isl [.int .u64 a1, .int .u64 b1, .str s1, .int .u64 a2, .int .u64 b2, .str s2] 2 none]] = bif decide (N < 1) then some (.int .i64 9) else bif decide (N > 64) then some (.int .i64 9) else bif decide (I < 1) then some (.int .i64 9) else bif decide (I > 16) then some (.int .i64 9) else bif (u == 0 && true) != false then bif (s == [] && true) != false then bif decide (0 ≤ I) && decide (I ≤ 64) then bif !(I == 64 || decide (a1 < 2 ^ I.toNat)) then some (.int .i64 1) else bif (a1 == a1 && (b1 == 0 && (s1 == [] && true))) != false then some (.int .i64 1) else bif decide (0 ≤ N) && decide (N ≤ 64) then bif !(N == 64 || decide (b1 < 2 ^ N.toNat)) then some (.int .i64 1) else bif (s1 == [] && true) != true then some (.int .i64 1) else bif decide (a2 ≤ a1) then some (.int .i64 1) else bif decide (0 ≤ I) && decide (I ≤ 64) then bif !(I == 64 || decide (a2 < 2 ^ I.toNat)) then some (.int .i64 1) else bif (a2 == a2 && (b2 == 0 && (s2 == [] && true))) != false then some (.int .i64 1) else bif decide (0 ≤ N) && decide (N ≤ 64) then bif !(N == 64 || decide (b2 < 2 ^ N.toNat)) then some (.int .i64 1) else bif (s2 == [] && true) != true then some (.int .i64 1) else some (.int .i64 0) else none else none else none else none else some (.int .i64 1) else some (.int .i64 1) := by kernel_rfl

theorem x39_2_3 (N I u a1 b1 a2 b2 a3 b3 : Int) (s s1 s2 s3 : List UInt8) : fnX E (on [70] (sp 0)) 20 c39 [.agg [.int .i64 2, .int .i64 N, .int .i64 I, .int .u64 u, .str s, .isl [.int .u64 a1, .int .u64 b1, .str s1, .int .u64 a2, .int .u64 b2, .str s2, .int .u64 a3, .int .u64 b3, .str s3] 3 none]] = bif decide (N < 1) then some (.int .i64 9) else bif decide (N > 64) then some (.int .i64 9) else bif decide (I < 1) then some (.int .i64 9) else bif decide (I > 16) then some (.int .i64 9) else bif (u == 0 && true) != false then bif (s == [] && true) != false then bif decide (0 ≤ I) && decide (I ≤ 64) then bif !(I == 64 || decide (a1 < 2 ^ I.toNat)) then some (.int .i64 1) else bif (a1 == a1 && (b1 == 0 && (s1 == [] && true))) != false then some (.int .i64 1) else bif decide (0 ≤ N) && decide (N ≤ 64) then bif !(N == 64 || decide (b1 < 2 ^ N.toNat)) then some (.int .i64 1) else bif (s1 == [] && true) != true then some (.int .i64 1) else bif decide (a2 ≤ a1) then some (.int .i64 1) else bif decide (0 ≤ I) && decide (I ≤ 64) then bif !(I == 64 || decide (a2 < 2 ^ I.toNat)) then some (.int .i64 1) else bif (a2 == a2 && (b2 == 0 && (s2 == [] && true))) != false then some (.int .i64 1) else bif decide (0 ≤ N) && decide (N ≤ 64) then bif !(N == 64 || decide (b2 < 2 ^ N.toNat)) then some (.int .i64 1) else bif (s2 == [] && true) != true then some (.int .i64 1) else bif decide (a3 ≤ a2) then some (.int .i64 1) else bif decide (0 ≤ I) && decide (I ≤ 64) then bif !(I == 64 || decide (a3 < 2 ^ I.toNat)) then some (.int .i64 1) else bif (a3 == a3 && (b3 == 0 && (s3 == [] && true))) != false then some (.int .i64 1) else bif decide (0 ≤ N) && decide (N ≤ 64) then bif !(N == 64 || decide (b3 < 2 ^ N.toNat)) then some (.int .i64 1) else bif (s3 == [] && true) != true then some (.int .i64 1) else some (.int .i64 0) else none else none else none else none else none else none else some (.int .i64 1) else some (.int .i64 1) := by kernel_rfl

theorem x39_2_4 (N I u a1 b1 a2 b2 a3 b3 a4 b4 : Int) (s s1 s2 s3 s4 : List UInt8) : fnX E (on [70] (sp 0)) 20 c39 [.agg [.int .i64 2, .int .i64 N, .int .i64 I, .int .u64 u, .str s, .isl [.int .u64 a1, .int .u64 b1, .str s1, .int .u64 a2, .int .u64 b2, .str s2, .int .u64 a3, .int .u64 b3, .str s3, .int .u64 a4, .int .u64 b4, .str s4] 4 none]] = bif decide (N < 1) then some (.int .i64 9) else bif decide (N > 64) then some (.int .i64 9) else bif decide (I < 1) then some (.int .i64 9) else bif decide (I > 16) then some (.int .i64 9) else bif (u == 0 && true) != false then bif (s == [] && true) != false then bif decide (0 ≤ I) && decide (I ≤ 64) then bif !(I == 64 || decide (a1 < 2 ^ I.toNat)) then some (.int .i64 1) else bif (a1 == a1 && (b1 == 0 && (s1 == [] && true))) != false then some (.int .i64 1) else bif decide (0 ≤ N) && decide (N ≤ 64) then bif !(N == 64 || decide (b1 < 2 ^ N.toNat)) then some (.int .i64 1) else bif (s1 == [] && true) != true then some (.int .i64 1) else bif decide (a2 ≤ a1) then some (.int .i64 1) else bif decide (0 ≤ I) && decide (I ≤ 64) then bif !(I == 64 || decide (a2 < 2 ^ I.toNat)) then some (.int .i64 1) else bif (a2 == a2 && (b2 == 0 && (s2 == [] && true))) != false then some (.int .i64 1) else bif decide (0 ≤ N) && decide (N ≤ 64) then bif !(N == 64 || decide (b2 < 2 ^ N.toNat)) then some (.int .i64 1) else bif (s2 == [] && true) != true then some (.int .i64 1) else bif decide (a3 ≤ a2) then some (.int .i64 1) else bif decide (0 ≤ I) && decide (I ≤ 64) then bif !(I == 64 || decide (a3 < 2 ^ I.toNat)) then some (.int .i64 1) else bif (a3 == a3 && (b3 == 0 && (s3 == [] && true))) != false then some (.int .i64 1) else bif decide (0 ≤ N) && decide (N ≤ 64) then bif !(N == 64 || decide (b3 < 2 ^ N.toNat)) then some (.int .i64 1) else bif (s3 == [] && true) != true then some (.int .i64 1) else bif decide (a4 ≤ a3) then some (.int .i64 1) else bif decide (0 ≤ I) && decide (I ≤ 64) then bif !(I == 64 || decide (a4 < 2 ^ I.toNat)) then some (.int .i64 1) else bif (a4 == a4 && (b4 == 0 && (s4 == [] && true))) != false then some (.int .i64 1) else bif decide (0 ≤ N) && decide (N ≤ 64) then bif !(N == 64 || decide (b4 < 2 ^ N.toNat)) then some (.int .i64 1) else bif (s4 == [] && true) != true then some (.int .i64 1) else some (.int .i64 0) else none else none else none else none else none else none else none else none else some (.int .i64 1) else some (.int .i64 1) := by kernel_rfl

theorem x39_2_5 (N I u a1 b1 a2 b2 a3 b3 a4 b4 a5 b5 : Int) (s s1 s2 s3 s4 s5 : List UInt8) : fnX E (on [70] (sp 0)) 20 c39 [.agg [.int .i64 2, .int .i64 N, .int .i64 I, .int .u64 u, .str s, .isl [.int .u64 a1, .int .u64 b1, .str s1, .int .u64 a2, .int .u64 b2, .str s2, .int .u64 a3, .int .u64 b3, .str s3, .int .u64 a4, .int .u64 b4, .str s4, .int .u64 a5, .int .u64 b5, .str s5] 5 none]] = bif decide (N < 1) then some (.int .i64 9) else bif decide (N > 64) then some (.int .i64 9) else bif decide (I < 1) then some (.int .i64 9) else bif decide (I > 16) then some (.int .i64 9) else bif (u == 0 && true) != false then bif (s == [] && true) != false then bif decide (0 ≤ I) && decide (I ≤ 64) then bif !(I == 64 || decide (a1 < 2 ^ I.toNat)) then some (.int .i64 1) else bif (a1 == a1 && (b1 == 0 && (s1 == [] && true))) != false then some (.int .i64 1) else bif decide (0 ≤ N) && decide (N ≤ 64) then bif !(N == 64 || decide (b1 < 2 ^ N.toNat)) then some (.int .i64 1) else bif (s1 == [] && true) != true then some (.int .i64 1) else bif decide (a2 ≤ a1) then some (.int .i64 1) else bif decide (0 ≤ I) && decide (I ≤ 64) then bif !(I == 64 || decide (a2 < 2 ^ I.toNat)) then some (.int .i64 1) else bif (a2 == a2 && (b2 == 0 && (s2 == [] && true))) != false then some (.int .i64 1) else bif decide (0 ≤ N) && decide (N ≤ 64) then bif !(N == 64 || decide (b2 < 2 ^ N.toNat)) then some (.int .i64 1) else bif (s2 == [] && true) != true then some (.int .i64 1) else bif decide (a3 ≤ a2) then some (.int .i64 1) else bif decide (0 ≤ I) && decide (I ≤ 64) then bif !(I == 64 || decide (a3 < 2 ^ I.toNat)) then some (.int .i64 1) else bif (a3 == a3 && (b3 == 0 && (s3 == [] && true))) != false then some (.int .i64 1) else bif decide (0 ≤ N) && decide (N ≤ 64) then bif !(N == 64 || decide (b3 < 2 ^ N.toNat)) then some (.int .i64 1) else bif (s3 == [] && true) != true then some (.int .i64 1) else bif decide (a4 ≤ a3) then some (.int .i64 1) else bif decide (0 ≤ I) && decide (I ≤ 64) then bif !(I == 64 || decide (a4 < 2 ^ I.toNat)) then some (.int .i64 1) else bif (a4 == a4 && (b4 == 0 && (s4 == [] && true))) != false then some (.int .i64 1) else bif decide (0 ≤ N) && decide (N ≤ 64) then bif !(N == 64 || decide (b4 < 2 ^ N.toNat)) then some (.int .i64 1) else bif (s4 == [] && true) != true then some (.int .i64 1) else bif decide (a5 ≤ a4) then some (.int .i64 1) else bif decide (0 ≤ I) && decide (I ≤ 64) then bif !(I == 64 || decide (a5 < 2 ^ I.toNat)) then some (.int .i64 1) else bif (a5 == a5 && (b5 == 0 && (s5 == [] && true))) != false then some (.int .i64 1) else bif decide (0 ≤ N) && decide (N ≤ 64) then bif !(N == 64 || decide (b5 < 2 ^ N.toNat)) then some (.int .i64 1) else bif (s5 == [] && true) != true then some (.int .i64 1) else some (.int .i64 0) else none else none else none else none else none else none else none else none else none else none else some (.int .i64 1) else some (.int .i64 1) := by kernel_rfl

theorem x39_2_6 (N I u a1 b1 a2 b2 a3 b3 a4 b4 a5 b5 a6 b6 : Int) (s s1 s2 s3 s4 s5 s6 : List UInt8) : fnX E (on [70] (sp 0)) 20 c39 [.agg [.int .i64 2, .int .i64 N, .int .i64 I, .int .u64 u, .str s, .isl [.int .u64 a1, .int .u64 b1, .str s1, .int .u64 a2, .int .u64 b2, .str s2, .int .u64 a3, .int .u64 b3, .str s3, .int .u64 a4, .int .u64 b4, .str s4, .int .u64 a5, .int .u64 b5, .str s5, .int .u64 a6, .int .u64 b6, .str s6] 6 none]] = bif decide (N < 1) then some (.int .i64 9) else bif decide (N > 64) then some (.int .i64 9) else bif decide (I < 1) then some (.int .i64 9) else bif decide (I > 16) then some (.int .i64 9) else bif (u == 0 && true) != false then bif (s == [] && true) != false then bif decide (0 ≤ I) && decide (I ≤ 64) then bif !(I == 64 || decide (a1 < 2 ^ I.toNat)) then some (.int .i64 1) else bif (a1 == a1 && (b1 == 0 && (s1 == [] && true))) != false then some (.int .i64 1) else bif decide (0 ≤ N) && decide (N ≤ 64) then bif !(N == 64 || decide (b1 < 2 ^ N.toNat)) then some (.int .i64 1) else bif (s1 == [] && true) != true then some (.int .i64 1) else bif decide (a2 ≤ a1) then some (.int .i64 1) else bif decide (0 ≤ I) && decide (I ≤ 64) then bif !(I == 64 || decide (a2 < 2 ^ I.toNat)) then some (.int .i64 1) else bif (a2 == a2 && (b2 == 0 && (s2 == [] && true))) != false then some (.int .i64 1) else bif decide (0 ≤ N) && decide (N ≤ 64) then bif !(N == 64 || decide (b2 < 2 ^ N.toNat)) then some (.int .i64 1) else bif (s2 == [] && true) != true then some (.int .i64 1) else bif decide (a3 ≤ a2) then some (.int .i64 1) else bif decide (0 ≤ I) && decide (I ≤ 64) then bif !(I == 64 || decide (a3 < 2 ^ I.toNat)) then some (.int .i64 1) else bif (a3 == a3 && (b3 == 0 && (s3 == [] && true))) != false then some (.int .i64 1) else bif decide (0 ≤ N) && decide (N ≤ 64) then bif !(N == 64 || decide (b3 < 2 ^ N.toNat)) then some (.int .i64 1) else bif (s3 == [] && true) != true then some (.int .i64 1) else bif decide (a4 ≤ a3) then some (.int .i64 1) else bif decide (0 ≤ I) && decide (I ≤ 64) then bif !(I == 64 || decide (a4 < 2 ^ I.toNat)) then some (.int .i64 1) else bif (a4 == a4 && (b4 == 0 && (s4 == [] && true))) != false then some (.int .i64 1) else bif decide (0 ≤ N) && decide (N ≤ 64) then bif !(N == 64 || decide (b4 < 2 ^ N.toNat)) then some (.int .i64 1) else bif (s4 == [] && true) != true then some (.int .i64 1) else bif decide (a5 ≤ a4) then some (.int .i64 1) else bif decide (0 ≤ I) && decide (I ≤ 64) then bif !(I == 64 || decide (a5 < 2 ^ I.toNat)) then some (.int .i64 1) else bif (a5 == a5 && (b5 == 0 && (s5 == [] && true))) != false then some (.int .i64 1) else bif decide (0 ≤ N) && decide (N ≤ 64) then bif !(N == 64 || decide (b5 < 2 ^ N.toNat)) then some (.int .i64 1) else bif (s5 == [] && true) != true then some (.int .i64 1) else bif decide (a6 ≤ a5) then some (.int .i64 1) else bif decide (0 ≤ I) && decide (I ≤ 64) then bif !(I == 64 || decide (a6 < 2 ^ I.toNat)) then some (.int .i64 1) else bif (a6 == a6 && (b6 == 0 && (s6 == [] && true))) != false then some (.int .i64 1) else bif decide (0 ≤ N) && decide (N ≤ 64) then bif !(N == 64 || decide (b6 < 2 ^ N.toNat)) then some (.int .i64 1) else bif (s6 == [] && true) != true then some (.int .i64 1) else some (.int .i64 0) else none else none else none else none else none else none else none else none else none else none else none else none else some (.int .i64 1) else some (.int .i64 1) := by kernel_rfl

theorem x39_3_n (N I u : Int) (s : List UInt8) : fnX E (on [70] (sp 0)) 20 c39 [.agg [.int .i64 3, .int .i64 N, .int .i64 I, .int .u64 u, .str s, .nils]] = bif decide (N < 0) then some (.int .i64 9) else bif decide (N > 64) then some (.int .i64 9) else bif decide (I < 1) then some (.int .i64 9) else bif decide (I > 16) then some (.int .i64 9) else bif (u == 0 && true) != false then bif (s == [] && true) != false then some (.int .i64 0) else some (.int .i64 1) else some (.int .i64 1) := by kernel_rfl

theorem x39_3_0 (N I u : Int) (s : List UInt8) : fnX E (on [70] (sp 0)) 20 c39 [.agg [.int .i64 3, .int .i64 N, .int .i64 I, .int .u64 u, .str s, .isl [] 0 none]] = bif decide (N < 0) then some (.int .i64 9) else bif decide (N > 64) then some (.int .i64 9) else bif decide (I < 1) then some (.int .i64 9) else bif decide (I > 16) then some (.int .i64 9) else bif (u == 0 && true) != false then bif (s == [] && true) != false then some (.int .i64 0) else some (.int .i64 1) else some (.int .i64 1) := by kernel_rfl

theorem x39_3_1 (N I u a1 b1 : Int) (s s1 : List UInt8) : fnX E (on [70] (sp 0)) 20 c39 [.agg [.int .i64 3, .int .i64 N, .int .i64 I, .int .u64 u, .str s, .isl [.int .u64 a1, .int .u64 b1, .str s1] 1 none]] = bif decide (N < 0) then some (.int .i64 9) else bif decide (N > 64) then some (.int .i64 9) else bif decide (I < 1) then some (.int .i64 9) else bif decide (I > 16) then some (.int .i64 9) else bif (u == 0 && true) != false then bif (s == [] && true) != false then bif decide (0 ≤ I) && decide (I ≤ 64) then bif !(I == 64 || decide (a1 < 2 ^ I.toNat)) then some (.int .i64 1) else bif (a1 == a1 && (b1 == 0 && (s1 == [] && true))) != false then some (.int .i64 1) else bif (b1 == 0 && true) != true then some (.int .i64 1) else bif decide ((↑s1.length : Int) > N) then some (.int .i64 1) else some (.int .i64 0) else none else some (.int .i64 1) else some (.int .i64 1) := by kernel_rfl

theorem x39_3_2 (N I u a1 b1 a2 b2 : Int) (s s1 s2 : List UInt8) : fnX E (on [70] (sp 0)) 20 c39 [.agg [.int .i64 3, .int .i64 N, .int .i64 I, .int .u64 u, .str s, .isl [.int .u64 a1, .int .u64 b1, .str s1, .int .u64 a2, .int .u64 b2, .str s2] 2 none]] = bif decide (N < 0) then some (.int .i64 9) else bif decide (N > 64) then some (.int .i64 9) else bif decide (I < 1) then some (.int .i64 9) else bif decide (I > 16) then some (.int .i64 9) else bif (u == 0 && true) != false then bif (s == [] && true) != false then bif decide (0 ≤ I) && decide (I ≤ 64) then bif !(I == 64 || decide (a1 < 2 ^ I.toNat)) then some (.int .i64 1) else bif (a1 == a1 && (b1 == 0 && (s1 == [] && true))) != false then some (.int .i64 1) else bif (b1 == 0 && true) != true then some (.int .i64 1) else bif decide ((↑s1.length : Int) > N) then some (.int .i64 1) else bif decide (a2 ≤ a1) then some (.int .i64 1) else bif decide (0 ≤ I) && decide (I ≤ 64) then bif !(I == 64 || decide (a2 < 2 ^ I.toNat)) then some (.int .i64 1) else bif (a2 == a2 && (b2 == 0 && (s2 == [] && true))) != false then some (.int .i64 1) else bif (b2 == 0 && true) != true then some (.int .i64 1) else bif decide ((↑s2.length : Int) > N) then some (.int .i64 1) else some (.int .i64 0) else none else none else some (.int .i64 1) else some (.int .i64 1) := by kernel_rfl

theorem x39_3_3 (N I u a1 b1 a2 b2 a3 b3 : Int) (s s1 s2 s3 : List UInt8) : fnX E (on [70] (sp 0)) 20 c39 [.agg [.int .i64 3, .int .i64 N, .int .i64 I, .int .u64 u, .str s, .isl [.int .u64 a1, .int .u64 b1, .str s1, .int .u64 a2, .int .u64 b2, .str s2, .int .u64 a3, .int .u64 b3, .str s3] 3 none]] = bif decide (N < 0) then some (.int .i64 9) else bif decide (N > 64) then some (.int .i64 9) else bif decide (I < 1) then some (.int .i64 9) else bif decide (I > 16) then some (.int .i64 9) else bif (u == 0 && true) != false then bif (s == [] && true) != false then bif decide (0 ≤ I) && decide (I ≤ 64) then bif !(I == 64 || decide (a1 < 2 ^ I.toNat)) then some (.int .i64 1) else bif (a1 == a1 && (b1 == 0 && (s1 == [] && true))) != false then some (.int .i64 1) else bif (b1 == 0 && true) != true then some (.int .i64 1) else bif decide ((↑s1.length : Int) > N) then some (.int .i64 1) else bif decide (a2 ≤ a1) then some (.int .i64 1) else bif decide (0 ≤ I) && decide (I ≤ 64) then bif !(I == 64 || decide (a2 < 2 ^ I.toNat)) then some (.int .i64 1) else bif (a2 == a2 && (b2 == 0 && (s2 == [] && true))) != false then some (.int .i64 1) else bif (b2 == 0 && true) != true then some (.int .i64 1) else bif decide ((↑s2.length : Int) > N) then some (.int .i64 1) else bif decide (a3 ≤ a2) then some (.int .i64 1) else bif decide (0 ≤ I) && decide (I ≤ 64) then bif !(I == 64 || decide (a3 < 2 ^ I.toNat)) then some (.int .i64 1) else bif (a3 == a3 && (b3 == 0 && (s3 == [] && true))) != false then some (.int .i64 1) else bif (b3 == 0 && true) != true then some (.int .i64 1) else bif decide ((↑s3.length : Int) > N) then some (.int .i64 1) else some (.int .i64 0) else none else none else none else some (.int .i64 1) else some (.int .i64 1) := by kernel_rfl

theorem x39_3_4 (N I u a1 b1 a2 b2 a3 b3 a4 b4 : Int) (s s1 s2 s3 s4 : List UInt8) : fnX E (on [70] (sp 0)) 20 c39 [.agg [.int .i64 3, .int .i64 N, .int .i64 I, .int .u64 u, .str s, .isl [.int .u64 a1, .int .u64 b1, .str s1, .int .u64 a2, .int .u64 b2, .str s2, .int .u64 a3, .int .u64 b3, .str s3, .int .u64 a4, .int .u64 b4, .str s4] 4 none]] = bif decide (N < 0) then some (.int .i64 9) else bif decide (N > 64) then some (.int .i64 9) else bif decide (I < 1) then some (.int .i64 9) else bif decide (I > 16) then some (.int .i64 9) else bif (u == 0 && true) != false then bif (s == [] && true) != false then bif decide (0 ≤ I) && decide (I ≤ 64) then bif !(I == 64 || decide (a1 < 2 ^ I.toNat)) then some (.int .i64 1) else bif (a1 == a1 && (b1 == 0 && (s1 == [] && true))) != false then some (.int .i64 1) else bif (b1 == 0 && true) != true then some (.int .i64 1) else bif decide ((↑s1.length : Int) > N) then some (.int .i64 1) else bif decide (a2 ≤ a1) then some (.int .i64 1) else bif decide (0 ≤ I) && decide (I ≤ 64) then bif !(I == 64 || decide (a2 < 2 ^ I.toNat)) then some (.int .i64 1) else bif (a2 == a2 && (b2 == 0 && (s2 == [] && true))) != false then some (.int .i64 1) else bif (b2 == 0 && true) != true then some (.int .i64 1) else bif decide ((↑s2.length : Int) > N) then some (.int .i64 1) else bif decide (a3 ≤ a2) then some (.int .i64 1) else bif decide (0 ≤ I) && decide (I ≤ 64) then bif !(I == 64 || decide (a3 < 2 ^ I.toNat)) then some (.int .i64 1) else bif (a3 == a3 && (b3 == 0 && (s3 == [] && true))) != false then some (.int .i64 1) else bif (b3 == 0 && true) != true then some (.int .i64 1) else bif decide ((↑s3.length : Int) > N) then some (.int .i64 1) else bif decide (a4 ≤ a3) then some (.int .i64 1) else bif decide (0 ≤ I) && decide (I ≤ 64) then bif !(I == 64 || decide (a4 < 2 ^ I.toNat)) then some (.int .i64 1) else bif (a4 == a4 && (b4 == 0 && (s4 == [] && true))) != false then some (.int .i64 1) else bif (b4 == 0 && true) != true then some (.int .i64 1) else bif decide ((↑s4.length : Int) > N) then some (.int .i64 1) else some (.int .i64 0) else none else none else none else none else some (.int .i64 1) else some (.int .i64 1) := by kernel_rfl

theorem x39_3_5 (N I u a1 b1 a2 b2 a3 b3 a4 b4 a5 b5 : Int) (s s1 s2 s3 s4 s5 : List UInt8) : fnX E (on [70] (sp 0)) 20 c39 [.agg [.int .i64 3, .int .i64 N, .int .i64 I, .int .u64 u, .str s, .isl [.int .u64 a1, .int .u64 b1, .str s1, .int .u64 a2, .int .u64 b2, .str s2, .int .u64 a3, .int .u64 b3, .str s3, .int .u64 a4, .int .u64 b4, .str s4, .int .u64 a5, .int .u64 b5, .str s5] 5 none]] = bif decide (N < 0) then some (.int .i64 9) else bif decide (N > 64) then some (.int .i64 9) else bif decide (I < 1) then some (.int .i64 9) else bif decide (I > 16) then some (.int .i64 9) else bif (u == 0 && true) != false then bif (s == [] && true) != false then bif decide (0 ≤ I) && decide (I ≤ 64) then bif !(I == 64 || decide (a1 < 2 ^ I.toNat)) then some (.int .i64 1) else bif (a1 == a1 && (b1 == 0 && (s1 == [] && true))) != false then some (.int .i64 1) else bif (b1 == 0 && true) != true then some (.int .i64 1) else bif decide ((↑s1.length : Int) > N) then some (.int .i64 1) else bif decide (a2 ≤ a1) then some (.int .i64 1) else bif decide (0 ≤ I) && decide (I ≤ 64) then bif !(I == 64 || decide (a2 < 2 ^ I.toNat)) then some (.int .i64 1) else bif (a2 == a2 && (b2 == 0 && (s2 == [] && true))) != false then some (.int .i64 1) else bif (b2 == 0 && true) != true then some (.int .i64 1) else bif decide ((↑s2.length : Int) > N) then some (.int .i64 1) else bif decide (a3 ≤ a2) then some (.int .i64 1) else bif decide (0 ≤ I) && decide (I ≤ 64) then bif !(I == 64 || decide (a3 < 2 ^ I.toNat)) then some (.int .i64 1) else bif (a3 == a3 && (b3 == 0 && (s3 == [] && true))) != false then some (.int .i64 1) else bif (b3 == 0 && true) != true then some (.int .i64 1) else bif decide ((↑s3.length : Int) > N) then some (.int .i64 1) else bif decide (a4 ≤ a3) then some (.int .i64 1) else bif decide (0 ≤ I) && decide (I ≤ 64) then bif !(I == 64 || decide (a4 < 2 ^ I.toNat)) then some (.int .i64 1) else bif (a4 == a4 && (b4 == 0 && (s4 == [] && true))) != false then some (.int .i64 1) else bif (b4 == 0 && true) != true then some (.int .i64 1) else bif decide ((↑s4.length : Int) > N) then some (.int .i64 1) else bif decide (a5 ≤ a4) then some (.int .i64 1) else bif decide (0 ≤ I) && decide (I ≤ 64) then bif !(I == 64 || decide (a5 < 2 ^ I.toNat)) then some (.int .i64 1) else bif (a5 == a5 && (b5 == 0 && (s5 == [] && true))) != false then some (.int .i64 1) else bif (b5 == 0 && true) != true then some (.int .i64 1) else bif decide ((↑s5.length : Int) > N) then some (.int .i64 1) else some (.int .i64 0) else none else none else none else none else none else some (.int .i64 1) else some (.int .i64 1) := by kernel_rfl

theorem x39_3_6 (N I u a1 b1 a2 b2 a3 b3 a4 b4 a5 b5 a6 b6 : Int) (s s1 s2 s3 s4 s5 s6 : List UInt8) : fnX E (on [70] (sp 0)) 20 c39 [.agg [.int .i64 3, .int .i64 N, .int .i64 I, .int .u64 u, .str s, .isl [.int .u64 a1, .int .u64 b1, .str s1, .int .u64 a2, .int .u64 b2, .str s2, .int .u64 a3, .int .u64 b3, .str s3, .int .u64 a4, .int .u64 b4, .str s4, .int .u64 a5, .int .u64 b5, .str s5, .int .u64 a6, .int .u64 b6, .str s6] 6 none]] = bif decide (N < 0) then some (.int .i64 9) else bif decide (N > 64) then some (.int .i64 9) else bif decide (I < 1) then some (.int .i64 9) else bif decide (I > 16) then some (.int .i64 9) else bif (u == 0 && true) != false then bif (s == [] && true) != false then bif decide (0 ≤ I) && decide (I ≤ 64) then bif !(I == 64 || decide (a1 < 2 ^ I.toNat)) then some (.int .i64 1) else bif (a1 == a1 && (b1 == 0 && (s1 == [] && true))) != false then some (.int .i64 1) else bif (b1 == 0 && true) != true then some (.int .i64 1) else bif decide ((↑s1.length : Int) > N) then some (.int .i64 1) else bif decide (a2 ≤ a1) then some (.int .i64 1) else bif decide (0 ≤ I) && decide (I ≤ 64) then bif !(I == 64 || decide (a2 < 2 ^ I.toNat)) then some (.int .i64 1) else bif (a2 == a2 && (b2 == 0 && (s2 == [] && true))) != false then some (.int .i64 1) else bif (b2 == 0 && true) != true then some (.int .i64 1) else bif decide ((↑s2.length : Int) > N) then some (.int .i64 1) else bif decide (a3 ≤ a2) then some (.int .i64 1) else bif decide (0 ≤ I) && decide (I ≤ 64) then bif !(I == 64 || decide (a3 < 2 ^ I.toNat)) then some (.int .i64 1) else bif (a3 == a3 && (b3 == 0 && (s3 == [] && true))) != false then some (.int .i64 1) else bif (b3 == 0 && true) != true then some (.int .i64 1) else bif decide ((↑s3.length : Int) > N) then some (.int .i64 1) else bif decide (a4 ≤ a3) then some (.int .i64 1) else bif decide (0 ≤ I) && decide (I ≤ 64) then bif !(I == 64 || decide (a4 < 2 ^ I.toNat)) then some (.int .i64 1) else bif (a4 == a4 && (b4 == 0 && (s4 == [] && true))) != false then some (.int .i64 1) else bif (b4 == 0 && true) != true then some (.int .i64 1) else bif decide ((↑s4.length : Int) > N) then some (.int .i64 1) else bif decide (a5 ≤ a4) then some (.int .i64 1) else bif decide (0 ≤ I) && decide (I ≤ 64) then bif !(I == 64 || decide (a5 < 2 ^ I.toNat)) then some (.int .i64 1) else bif (a5 == a5 && (b5 == 0 && (s5 == [] && true))) != false then some (.int .i64 1) else bif (b5 == 0 && true) != true then some (.int .i64 1) else bif decide ((↑s5.length : Int) > N) then some (.int .i64 1) else bif decide (a6 ≤ a5) then some (.int .i64 1) else bif decide (0 ≤ I) && decide (I ≤ 64) then bif !(I == 64 || decide (a6 < 2 ^ I.toNat)) then some (.int .i64 1) else bif (a6 == a6 && (b6 == 0 && (s6 == [] && true))) != false then some (.int .i64 1) else bif (b6 == 0 && true) != true then some (.int .i64 1) else bif decide ((↑s6.length : Int) > N) then some (.int .i64 1) else some (.int .i64 0) else none else none else none else none else none else none else some (.int .i64 1) else some (.int .i64 1) := by kernel_rfl

theorem p39_0_n {N I u : Int} {s : List UInt8} (h : okV 0 N I u s (.nils) = true) : fnX E (on [70] (sp 0)) 20 c39 [.agg [.int .i64 0, .int .i64 N, .int .i64 I, .int .u64 u, .str s, .nils]] = some (.int .i64 0) := by
  have hs := okV_0 h
  clear h
  rw [x39_0_n]
  simp only [Bool.cond_eq_ite, decide_eq_true_eq, Bool.and_true, bne_t, bne_f, beq_iff_eq, gt_iff_lt, cmpI_lt, cmpI_eq, Bool.and_eq_true, Bool.or_eq_true, Bool.not_eq_true', decide_eq_false_iff_not, beq_eq_false_iff_ne, ne_eq, eq_self, true_and, and_true, not_true_eq_false, not_false_eq_true, if_true, if_false, Bool.or_eq_false_iff, not_or, not_and]
  repeat' (refine iteE (fun _ => ?_) (fun _ => ?_))
  all_goals first | rfl | (exfalso; omega) | (exfalso; simp_all; done) | (exfalso; simp_all; omega)

theorem p39_0_0 {N I u : Int} {s : List UInt8} (h : okV 0 N I u s (.isl [] 0 none) = true) : fnX E (on [70] (sp 0)) 20 c39 [.agg [.int .i64 0, .int .i64 N, .int .i64 I, .int .u64 u, .str s, .isl [] 0 none]] = some (.int .i64 0) := by
  have hs := okV_0 h
  clear h
  rw [x39_0_0]
  simp only [Bool.cond_eq_ite, decide_eq_true_eq, Bool.and_true, bne_t, bne_f, beq_iff_eq, gt_iff_lt, cmpI_lt, cmpI_eq, Bool.and_eq_true, Bool.or_eq_true, Bool.not_eq_true', decide_eq_false_iff_not, beq_eq_false_iff_ne, ne_eq, eq_self, true_and, and_true, not_true_eq_false, not_false_eq_true, if_true, if_false, Bool.or_eq_false_iff, not_or, not_and]
  repeat' (refine iteE (fun _ => ?_) (fun _ => ?_))
  all_goals first | rfl | (exfalso; omega) | (exfalso; simp_all; done) | (exfalso; simp_all; omega)

theorem p39_1_n {N I u : Int} {s : List UInt8} (h : okV 1 N I u s (.nils) = true) : fnX E (on [70] (sp 0)) 20 c39 [.agg [.int .i64 1, .int .i64 N, .int .i64 I, .int .u64 u, .str s, .nils]] = some (.int .i64 0) := by
  have hs := okV_1 h
  clear h
  rw [x39_1_n]
  simp only [Bool.cond_eq_ite, decide_eq_true_eq, Bool.and_true, bne_t, bne_f, beq_iff_eq, gt_iff_lt, cmpI_lt, cmpI_eq, Bool.and_eq_true, Bool.or_eq_true, Bool.not_eq_true', decide_eq_false_iff_not, beq_eq_false_iff_ne, ne_eq, eq_self, true_and, and_true, not_true_eq_false, not_false_eq_true, if_true, if_false, Bool.or_eq_false_iff, not_or, not_and]
  repeat' (refine iteE (fun _ => ?_) (fun _ => ?_))
  all_goals first | rfl | (exfalso; omega) | (exfalso; simp_all; done) | (exfalso; simp_all; omega)

theorem p39_1_0 {N I u : Int} {s : List UInt8} (h : okV 1 N I u s (.isl [] 0 none) = true) : fnX E (on [70] (sp 0)) 20 c39 [.agg [.int .i64 1, .int .i64 N, .int .i64 I, .int .u64 u, .str s, .isl [] 0 none]] = some (.int .i64 0) := by
  have hs := okV_1 h
  clear h
  rw [x39_1_0]
  simp only [Bool.cond_eq_ite, decide_eq_true_eq, Bool.and_true, bne_t, bne_f, beq_iff_eq, gt_iff_lt, cmpI_lt, cmpI_eq, Bool.and_eq_true, Bool.or_eq_true, Bool.not_eq_true', decide_eq_false_iff_not, beq_eq_false_iff_ne, ne_eq, eq_self, true_and, and_true, not_true_eq_false, not_false_eq_true, if_true, if_false, Bool.or_eq_false_iff, not_or, not_and]
  repeat' (refine iteE (fun _ => ?_) (fun _ => ?_))
  all_goals first | rfl | (exfalso; omega) | (exfalso; simp_all; done) | (exfalso; simp_all; omega)

theorem p39_2_n {N I u : Int} {s : List UInt8} (h : okV 2 N I u s (.nils) = true) : fnX E (on [70] (sp 0)) 20 c39 [.agg [.int .i64 2, .int .i64 N, .int .i64 I, .int .u64 u, .str s, .nils]] = some (.int .i64 0) := by
  have hs := (okV_arr h (by decide)).2
  clear h
  simp only [decM, decC, vmB, Bool.and_eq_true, decide_eq_true_eq, okE_2] at hs
  rw [x39_2_n]
  simp only [Bool.cond_eq_ite, decide_eq_true_eq, Bool.and_true, bne_t, bne_f, beq_iff_eq, gt_iff_lt, cmpI_lt, cmpI_eq, Bool.and_eq_true, Bool.or_eq_true, Bool.not_eq_true', decide_eq_false_iff_not, beq_eq_false_iff_ne, ne_eq, eq_self, true_and, and_true, not_true_eq_false, not_false_eq_true, if_true, if_false, Bool.or_eq_false_iff, not_or, not_and]
  repeat' (refine iteE (fun _ => ?_) (fun _ => ?_))
  all_goals first | rfl | (exfalso; omega) | (exfalso; simp_all; done) | (exfalso; simp_all; omega)

theorem p39_2_0 {N I u : Int} {s : List UInt8} (h : okV 2 N I u s (.isl [] 0 none) = true) : fnX E (on [70] (sp 0)) 20 c39 [.agg [.int .i64 2, .int .i64 N, .int .i64 I, .int .u64 u, .str s, .isl [] 0 none]] = some (.int .i64 0) := by
  have hs := (okV_arr h (by decide)).2
  clear h
  simp only [decM, decC, vmB, Bool.and_eq_true, decide_eq_true_eq, okE_2] at hs
  rw [x39_2_0]
  simp only [Bool.cond_eq_ite, decide_eq_true_eq, Bool.and_true, bne_t, bne_f, beq_iff_eq, gt_iff_lt, cmpI_lt, cmpI_eq, Bool.and_eq_true, Bool.or_eq_true, Bool.not_eq_true', decide_eq_false_iff_not, beq_eq_false_iff_ne, ne_eq, eq_self, true_and, and_true, not_true_eq_false, not_false_eq_true, if_true, if_false, Bool.or_eq_false_iff, not_or, not_and]
  repeat' (refine iteE (fun _ => ?_) (fun _ => ?_))
  all_goals first | rfl | (exfalso; omega) | (exfalso; simp_all; done) | (exfalso; simp_all; omega)

theorem p39_2_1 {N I u a1 b1 : Int} {s s1 : List UInt8} (h : okV 2 N I u s (.isl [.int .u64 a1, .int .u64 b1, .str s1] 1 none) = true) : fnX E (on [70] (sp 0)) 20 c39 [.agg [.int .i64 2, .int .i64 N, .int .i64 I, .int .u64 u, .str s, .isl [.int .u64 a1, .int .u64 b1, .str s1] 1 none]] = some (.int .i64 0) := by
  have hs := (okV_arr h (by decide)).2
  clear h
  simp only [decM, decC, vmB, Bool.and_eq_true, decide_eq_true_eq, okE_2] at hs
  rw [x39_2_1]
  simp only [Bool.cond_eq_ite, decide_eq_true_eq, Bool.and_true, bne_t, bne_f, beq_iff_eq, gt_iff_lt, cmpI_lt, cmpI_eq, Bool.and_eq_true, Bool.or_eq_true, Bool.not_eq_true', decide_eq_false_iff_not, beq_eq_false_iff_ne, ne_eq, eq_self, true_and, and_true, not_true_eq_false, not_false_eq_true, if_true, if_false, Bool.or_eq_false_iff, not_or, not_and]
  repeat' (refine iteE (fun _ => ?_) (fun _ => ?_))
  all_goals first | rfl | (exfalso; omega) | (exfalso; simp_all; done) | (exfalso; simp_all; omega)

theorem p39_2_2 {N I u a1 b1 a2 b2 : Int} {s s1 s2 : List UInt8} (h : okV 2 N I u s (.isl [.int .u64 a1, .int .u64 b1, .str s1, .int .u64 a2, .int .u64 b2, .str s2] 2 none) = true) : fnX E (on [70] (sp 0)) 20 c39 [.agg [.int .i64 2, .int .i64 N, .int .i64 I, .int .u64 u, .str s, .isl [.int .u64 a1, .int .u64 b1, .str s1, .int .u64 a2, .int .u64 b2, .str s2] 2 none]] = some (.int .i64 0) := by
  have hs := (okV_arr h (by decide)).2
  clear h
  simp only [decM, decC, vmB, Bool.and_eq_true, decide_eq_true_eq, okE_2] at hs
  rw [x39_2_2]
  simp only [Bool.cond_eq_ite, decide_eq_true_eq, Bool.and_true, bne_t, bne_f, beq_iff_eq, gt_iff_lt, cmpI_lt, cmpI_eq, Bool.and_eq_true, Bool.or_eq_true, Bool.not_eq_true', decide_eq_false_iff_not, beq_eq_false_iff_ne, ne_eq, eq_self, true_and, and_true, not_true_eq_false, not_false_eq_true, if_true, if_false, Bool.or_eq_false_iff, not_or, not_and]
  repeat' (refine iteE (fun _ => ?_) (fun _ => ?_))
  all_goals first | rfl | (exfalso; omega) | (exfalso; simp_all; done) | (exfalso; simp_all; omega)

theorem p39_2_3 {N I u a1 b1 a2 b2 a3 b3 : Int} {s s1 s2 s3 : List UInt8} (h : okV 2 N I u s (.isl [.int .u64 a1, .int .u64 b1, .str s1, .int .u64 a2, .int .u64 b2, .str s2, .int .u64 a3, .int .u64 b3, .str s3] 3 none) = true) : fnX E (on [70] (sp 0)) 20 c39 [.agg [.int .i64 2, .int .i64 N, .int .i64 I, .int .u64 u, .str s, .isl [.int .u64 a1, .int .u64 b1, .str s1, .int .u64 a2, .int .u64 b2, .str s2, .int .u64 a3, .int .u64 b3, .str s3] 3 none]] = some (.int .i64 0) := by
  have hs := (okV_arr h (by decide)).2
  clear h
  simp only [decM, decC, vmB, Bool.and_eq_true, decide_eq_true_eq, okE_2] at hs
  rw [x39_2_3]
  simp only [Bool.cond_eq_ite, decide_eq_true_eq, Bool.and_true, bne_t, bne_f, beq_iff_eq, gt_iff_lt, cmpI_lt, cmpI_eq, Bool.and_eq_true, Bool.or_eq_true, Bool.not_eq_true', decide_eq_false_iff_not, beq_eq_false_iff_ne, ne_eq, eq_self, true_and, and_true, not_true_eq_false, not_false_eq_true, if_true, if_false, Bool.or_eq_false_iff, not_or, not_and]
  repeat' (refine iteE (fun _ => ?_) (fun _ => ?_))
  all_goals first | rfl | (exfalso; omega) | (exfalso; simp_all; done) | (exfalso; simp_all; omega)

theorem p39_2_4 {N I u a1 b1 a2 b2 a3 b3 a4 b4 : Int} {s s1 s2 s3 s4 : List UInt8} (h : okV 2 N I u s (.isl [.int .u64 a1, .int .u64 b1, .str s1, .int .u64 a2, .int .u64 b2, .str s2, .int .u64 a3, .int .u64 b3, .str s3, .int .u64 a4, .int .u64 b4, .str s4] 4 none) = true) : fnX E (on [70] (sp 0)) 20 c39 [.agg [.int .i64 2, .int .i64 N, .int .i64 I, .int .u64 u, .str s, .isl [.int .u64 a1, .int .u64 b1, .str s1, .int .u64 a2, .int .u64 b2, .str s2, .int .u64 a3, .int .u64 b3, .str s3, .int .u64 a4, .int .u64 b4, .str s4] 4 none]] = some (.int .i64 0) := by
  have hs := (okV_arr h (by decide)).2
  clear h
  simp only [decM, decC, vmB, Bool.and_eq_true, decide_eq_true_eq, okE_2] at hs
  rw [x39_2_4]
  simp only [Bool.cond_eq_ite, decide_eq_true_eq, Bool.and_true, bne_t, bne_f, beq_iff_eq, gt_iff_lt, cmpI_lt, cmpI_eq, Bool.and_eq_true, Bool.or_eq_true, Bool.not_eq_true', decide_eq_false_iff_not, beq_eq_false_iff_ne, ne_eq, eq_self, true_and, and_true, not_true_eq_false, not_false_eq_true, if_true, if_false, Bool.or_eq_false_iff, not_or, not_and]
  repeat' (refine iteE (fun _ => ?_) (fun _ => ?_))
  all_goals first | rfl | (exfalso; omega) | (exfalso; simp_all; done) | (exfalso; simp_all; omega)

theorem p39_2_5 {N I u a1 b1 a2 b2 a3 b3 a4 b4 a5 b5 : Int} {s s1 s2 s3 s4 s5 : List UInt8} (h : okV 2 N I u s (.isl [.int .u64 a1, .int .u64 b1, .str s1, .int .u64 a2, .int .u64 b2, .str s2, .int .u64 a3, .int .u64 b3, .str s3, .int .u64 a4, .int .u64 b4, .str s4, .int .u64 a5, .int .u64 b5, .str s5] 5 none) = true) : fnX E (on [70] (sp 0)) 20 c39 [.agg [.int .i64 2, .int .i64 N, .int .i64 I, .int .u64 u, .str s, .isl [.int .u64 a1, .int .u64 b1, .str s1, .int .u64 a2, .int .u64 b2, .str s2, .int .u64 a3, .int .u64 b3, .str s3, .int .u64 a4, .int .u64 b4, .str s4, .int .u64 a5, .int .u64 b5, .str s5] 5 none]] = some (.int .i64 0) := by
  have hs := (okV_arr h (by decide)).2
  clear h
  simp only [decM, decC, vmB, Bool.and_eq_true, decide_eq_true_eq, okE_2] at hs
  rw [x39_2_5]
  simp only [Bool.cond_eq_ite, decide_eq_true_eq, Bool.and_true, bne_t, bne_f, beq_iff_eq, gt_iff_lt, cmpI_lt, cmpI_eq, Bool.and_eq_true, Bool.or_eq_true, Bool.not_eq_true', decide_eq_false_iff_not, beq_eq_false_iff_ne, ne_eq, eq_self, true_and, and_true, not_true_eq_false, not_false_eq_true, if_true, if_false, Bool.or_eq_false_iff, not_or, not_and]
  repeat' (refine iteE (fun _ => ?_) (fun _ => ?_))
  all_goals first | rfl | (exfalso; omega) | (exfalso; simp_all; done) | (exfalso; simp_all; omega)

theorem p39_2_6 {N I u a1 b1 a2 b2 a3 b3 a4 b4 a5 b5 a6 b6 : Int} {s s1 s2 s3 s4 s5 s6 : List UInt8} (h : okV 2 N I u s (.isl [.int .u64 a1, .int .u64 b1, .str s1, .int .u64 a2, .int .u64 b2, .str s2, .int .u64 a3, .int .u64 b3, .str s3, .int .u64 a4, .int .u64 b4, .str s4, .int .u64 a5, .int .u64 b5, .str s5, .int .u64 a6, .int .u64 b6, .str s6] 6 none) = true) : fnX E (on [70] (sp 0)) 20 c39 [.agg [.int .i64 2, .int .i64 N, .int .i64 I, .int .u64 u, .str s, .isl [.int .u64 a1, .int .u64 b1, .str s1, .int .u64 a2, .int .u64 b2, .str s2, .int .u64 a3, .int .u64 b3, .str s3, .int .u64 a4, .int .u64 b4, .str s4, .int .u64 a5, .int .u64 b5, .str s5, .int .u64 a6, .int .u64 b6, .str s6] 6 none]] = some (.int .i64 0) := by
  have hs := (okV_arr h (by decide)).2
  clear h
  simp only [decM, decC, vmB, Bool.and_eq_true, decide_eq_true_eq, okE_2] at hs
  rw [x39_2_6]
  simp only [Bool.cond_eq_ite, decide_eq_true_eq, Bool.and_true, bne_t, bne_f, beq_iff_eq, gt_iff_lt, cmpI_lt, cmpI_eq, Bool.and_eq_true, Bool.or_eq_true, Bool.not_eq_true', decide_eq_false_iff_not, beq_eq_false_iff_ne, ne_eq, eq_self, true_and, and_true, not_true_eq_false, not_false_eq_true, if_true, if_false, Bool.or_eq_false_iff, not_or, not_and]
  repeat' (refine iteE (fun _ => ?_) (fun _ => ?_))
  all_goals first | rfl | (exfalso; omega) | (exfalso; simp_all; done) | (exfalso; simp_all; omega)

theorem p39_3_n {N I u : Int} {s : List UInt8} (h : okV 3 N I u s (.nils) = true) : fnX E (on [70] (sp 0)) 20 c39 [.agg [.int .i64 3, .int .i64 N, .int .i64 I, .int .u64 u, .str s, .nils]] = some (.int .i64 0) := by
  have hs := (okV_arr h (by decide)).2
  clear h
  simp only [decM, decC, vmB, Bool.and_eq_true, decide_eq_true_eq, okE_3] at hs
  rw [x39_3_n]
  simp only [Bool.cond_eq_ite, decide_eq_true_eq, Bool.and_true, bne_t, bne_f, beq_iff_eq, gt_iff_lt, cmpI_lt, cmpI_eq, Bool.and_eq_true, Bool.or_eq_true, Bool.not_eq_true', decide_eq_false_iff_not, beq_eq_false_iff_ne, ne_eq, eq_self, true_and, and_true, not_true_eq_false, not_false_eq_true, if_true, if_false, Bool.or_eq_false_iff, not_or, not_and]
  repeat' (refine iteE (fun _ => ?_) (fun _ => ?_))
  all_goals first | rfl | (exfalso; omega) | (exfalso; simp_all; done) | (exfalso; simp_all; omega)

theorem p39_3_0 {N I u : Int} {s : List UInt8} (h : okV 3 N I u s (.isl [] 0 none) = true) : fnX E (on [70] (sp 0)) 20 c39 [.agg [.int .i64 3, .int .i64 N, .int .i64 I, .int .u64 u, .str s, .isl [] 0 none]] = some (.int .i64 0) := by
  have hs := (okV_arr h (by decide)).2
  clear h
  simp only [decM, decC, vmB, Bool.and_eq_true, decide_eq_true_eq, okE_3] at hs
  rw [x39_3_0]
  simp only [Bool.cond_eq_ite, decide_eq_true_eq, Bool.and_true, bne_t, bne_f, beq_iff_eq, gt_iff_lt, cmpI_lt, cmpI_eq, Bool.and_eq_true, Bool.or_eq_true, Bool.not_eq_true', decide_eq_false_iff_not, beq_eq_false_iff_ne, ne_eq, eq_self, true_and, and_true, not_true_eq_false, not_false_eq_true, if_true, if_false, Bool.or_eq_false_iff, not_or, not_and]
  repeat' (refine iteE (fun _ => ?_) (fun _ => ?_))
  all_goals first | rfl | (exfalso; omega) | (exfalso; simp_all; done) | (exfalso; simp_all; omega)

theorem p39_3_1 {N I u a1 b1 : Int} {s s1 : List UInt8} (h : okV 3 N I u s (.isl [.int .u64 a1, .int .u64 b1, .str s1] 1 none) = true) : fnX E (on [70] (sp 0)) 20 c39 [.agg [.int .i64 3, .int .i64 N, .int .i64 I, .int .u64 u, .str s, .isl [.int .u64 a1, .int .u64 b1, .str s1] 1 none]] = some (.int .i64 0) := by
  have hs := (okV_arr h (by decide)).2
  clear h
  simp only [decM, decC, vmB, Bool.and_eq_true, decide_eq_true_eq, okE_3] at hs
  rw [x39_3_1]
  simp only [Bool.cond_eq_ite, decide_eq_true_eq, Bool.and_true, bne_t, bne_f, beq_iff_eq, gt_iff_lt, cmpI_lt, cmpI_eq, Bool.and_eq_true, Bool.or_eq_true, Bool.not_eq_true', decide_eq_false_iff_not, beq_eq_false_iff_ne, ne_eq, eq_self, true_and, and_true, not_true_eq_false, not_false_eq_true, if_true, if_false, Bool.or_eq_false_iff, not_or, not_and]
  repeat' (refine iteE (fun _ => ?_) (fun _ => ?_))
  all_goals first | rfl | (exfalso; omega) | (exfalso; simp_all; done) | (exfalso; simp_all; omega)

theorem p39_3_2 {N I u a1 b1 a2 b2 : Int} {s s1 s2 : List UInt8} (h : okV 3 N I u s (.isl [.int .u64 a1, .int .u64 b1, .str s1, .int .u64 a2, .int .u64 b2, .str s2] 2 none) = true) : fnX E (on [70] (sp 0)) 20 c39 [.agg [.int .i64 3, .int .i64 N, .int .i64 I, .int .u64 u, .str s, .isl [.int .u64 a1, .int .u64 b1, .str s1, .int .u64 a2, .int .u64 b2, .str s2] 2 none]] = some (.int .i64 0) := by
  have hs := (okV_arr h (by decide)).2
  clear h
  simp only [decM, decC, vmB, Bool.and_eq_true, decide_eq_true_eq, okE_3] at hs
  rw [x39_3_2]
  simp only [Bool.cond_eq_ite, decide_eq_true_eq, Bool.and_true, bne_t, bne_f, beq_iff_eq, gt_iff_lt, cmpI_lt, cmpI_eq, Bool.and_eq_true, Bool.or_eq_true, Bool.not_eq_true', decide_eq_false_iff_not, beq_eq_false_iff_ne, ne_eq, eq_self, true_and, and_true, not_true_eq_false, not_false_eq_true, if_true, if_false, Bool.or_eq_false_iff, not_or, not_and]
  repeat' (refine iteE (fun _ => ?_) (fun _ => ?_))
  all_goals first | rfl | (exfalso; omega) | (exfalso; simp_all; done) | (exfalso; simp_all; omega)

theorem p39_3_3 {N I u a1 b1 a2 b2 a3 b3 : Int} {s s1 s2 s3 : List UInt8} (h : okV 3 N I u s (.isl [.int .u64 a1, .int .u64 b1, .str s1, .int .u64 a2, .int .u64 b2, .str s2, .int .u64 a3, .int .u64 b3, .str s3] 3 none) = true) : fnX E (on [70] (sp 0)) 20 c39 [.agg [.int .i64 3, .int .i64 N, .int .i64 I, .int .u64 u, .str s, .isl [.int .u64 a1, .int .u64 b1, .str s1, .int .u64 a2, .int .u64 b2, .str s2, .int .u64 a3, .int .u64 b3, .str s3] 3 none]] = some (.int .i64 0) := by
  have hs := (okV_arr h (by decide)).2
  clear h
  simp only [decM, decC, vmB, Bool.and_eq_true, decide_eq_true_eq, okE_3] at hs
  rw [x39_3_3]
  simp only [Bool.cond_eq_ite, decide_eq_true_eq, Bool.and_true, bne_t, bne_f, beq_iff_eq, gt_iff_lt, cmpI_lt, cmpI_eq, Bool.and_eq_true, Bool.or_eq_true, Bool.not_eq_true', decide_eq_false_iff_not, beq_eq_false_iff_ne, ne_eq, eq_self, true_and, and_true, not_true_eq_false, not_false_eq_true, if_true, if_false, Bool.or_eq_false_iff, not_or, not_and]
  repeat' (refine iteE (fun _ => ?_) (fun _ => ?_))
  all_goals first | rfl | (exfalso; omega) | (exfalso; simp_all; done) | (exfalso; simp_all; omega)

theorem p39_3_4 {N I u a1 b1 a2 b2 a3 b3 a4 b4 : Int} {s s1 s2 s3 s4 : List UInt8} (h : okV 3 N I u s (.isl [.int .u64 a1, .int .u64 b1, .str s1, .int .u64 a2, .int .u64 b2, .str s2, .int .u64 a3, .int .u64 b3, .str s3, .int .u64 a4, .int .u64 b4, .str s4] 4 none) = true) : fnX E (on [70] (sp 0)) 20 c39 [.agg [.int .i64 3, .int .i64 N, .int .i64 I, .int .u64 u, .str s, .isl [.int .u64 a1, .int .u64 b1, .str s1, .int .u64 a2, .int .u64 b2, .str s2, .int .u64 a3, .int .u64 b3, .str s3, .int .u64 a4, .int .u64 b4, .str s4] 4 none]] = some (.int .i64 0) := by
  have hs := (okV_arr h (by decide)).2
  clear h
  simp only [decM, decC, vmB, Bool.and_eq_true, decide_eq_true_eq, okE_3] at hs
  rw [x39_3_4]
  simp only [Bool.cond_eq_ite, decide_eq_true_eq, Bool.and_true, bne_t, bne_f, beq_iff_eq, gt_iff_lt, cmpI_lt, cmpI_eq, Bool.and_eq_true, Bool.or_eq_true, Bool.not_eq_true', decide_eq_false_iff_not, beq_eq_false_iff_ne, ne_eq, eq_self, true_and, and_true, not_true_eq_false, not_false_eq_true, if_true, if_false, Bool.or_eq_false_iff, not_or, not_and]
  repeat' (refine iteE (fun _ => ?_) (fun _ => ?_))
  all_goals first | rfl | (exfalso; omega) | (exfalso; simp_all; done) | (exfalso; simp_all; omega)

theorem p39_3_5 {N I u a1 b1 a2 b2 a3 b3 a4 b4 a5 b5 : Int} {s s1 s2 s3 s4 s5 : List UInt8} (h : okV 3 N I u s (.isl [.int .u64 a1, .int .u64 b1, .str s1, .int .u64 a2, .int .u64 b2, .str s2, .int .u64 a3, .int .u64 b3, .str s3, .int .u64 a4, .int .u64 b4, .str s4, .int .u64 a5, .int .u64 b5, .str s5] 5 none) = true) : fnX E (on [70] (sp 0)) 20 c39 [.agg [.int .i64 3, .int .i64 N, .int .i64 I, .int .u64 u, .str s, .isl [.int .u64 a1, .int .u64 b1, .str s1, .int .u64 a2, .int .u64 b2, .str s2, .int .u64 a3, .int .u64 b3, .str s3, .int .u64 a4, .int .u64 b4, .str s4, .int .u64 a5, .int .u64 b5, .str s5] 5 none]] = some (.int .i64 0) := by
  have hs := (okV_arr h (by decide)).2
  clear h
  simp only [decM, decC, vmB, Bool.and_eq_true, decide_eq_true_eq, okE_3] at hs
  rw [x39_3_5]
  simp only [Bool.cond_eq_ite, decide_eq_true_eq, Bool.and_true, bne_t, bne_f, beq_iff_eq, gt_iff_lt, cmpI_lt, cmpI_eq, Bool.and_eq_true, Bool.or_eq_true, Bool.not_eq_true', decide_eq_false_iff_not, beq_eq_false_iff_ne, ne_eq, eq_self, true_and, and_true, not_true_eq_false, not_false_eq_true, if_true, if_false, Bool.or_eq_false_iff, not_or, not_and]
  repeat' (refine iteE (fun _ => ?_) (fun _ => ?_))
  all_goals first | rfl | (exfalso; omega) | (exfalso; simp_all; done) | (exfalso; simp_all; omega)

theorem p39_3_6 {N I u a1 b1 a2 b2 a3 b3 a4 b4 a5 b5 a6 b6 : Int} {s s1 s2 s3 s4 s5 s6 : List UInt8} (h : okV 3 N I u s (.isl [.int .u64 a1, .int .u64 b1, .str s1, .int .u64 a2, .int .u64 b2, .str s2, .int .u64 a3, .int .u64 b3, .str s3, .int .u64 a4, .int .u64 b4, .str s4, .int .u64 a5, .int .u64 b5, .str s5, .int .u64 a6, .int .u64 b6, .str s6] 6 none) = true) : fnX E (on [70] (sp 0)) 20 c39 [.agg [.int .i64 3, .int .i64 N, .int .i64 I, .int .u64 u, .str s, .isl [.int .u64 a1, .int .u64 b1, .str s1, .int .u64 a2, .int .u64 b2, .str s2, .int .u64 a3, .int .u64 b3, .str s3, .int .u64 a4, .int .u64 b4, .str s4, .int .u64 a5, .int .u64 b5, .str s5, .int .u64 a6, .int .u64 b6, .str s6] 6 none]] = some (.int .i64 0) := by
  have hs := (okV_arr h (by decide)).2
  clear h
  simp only [decM, decC, vmB, Bool.and_eq_true, decide_eq_true_eq, okE_3] at hs
  rw [x39_3_6]
  simp only [Bool.cond_eq_ite, decide_eq_true_eq, Bool.and_true, bne_t, bne_f, beq_iff_eq, gt_iff_lt, cmpI_lt, cmpI_eq, Bool.and_eq_true, Bool.or_eq_true, Bool.not_eq_true', decide_eq_false_iff_not, beq_eq_false_iff_ne, ne_eq, eq_self, true_and, and_true, not_true_eq_false, not_false_eq_true, if_true, if_false, Bool.or_eq_false_iff, not_or, not_and]
  repeat' (refine iteE (fun _ => ?_) (fun _ => ?_))
  all_goals first | rfl | (exfalso; omega) | (exfalso; simp_all; done) | (exfalso; simp_all; omega)

theorem p39_0 {N I u : Int} {s : List UInt8} {m : V} (h : okV 0 N I u s m = true) : fnX E (on [70] (sp 0)) 20 c39 [.agg [.int .i64 0, .int .i64 N, .int .i64 I, .int .u64 u, .str s, m]] = some (.int .i64 0) := by
  have hd := (okV_0 h).2.2.2.2.2.2
  rcases okM_cases hd.2 with rfl | ⟨l, hl, rfl⟩
  · exact p39_0_n h
  · have hd := hd.1
    rw [show decM (.isl (encC l) l.length none) = l from dec_enc l] at hd
    subst hd
    exact p39_0_0 h

theorem p39_1 {N I u : Int} {s : List UInt8} {m : V} (h : okV 1 N I u s m = true) : fnX E (on [70] (sp 0)) 20 c39 [.agg [.int .i64 1, .int .i64 N, .int .i64 I, .int .u64 u, .str s, m]] = some (.int .i64 0) := by
  have hd := (okV_1 h).2.2.2.2.2
  rcases okM_cases hd.2 with rfl | ⟨l, hl, rfl⟩
  · exact p39_1_n h
  · have hd := hd.1
    rw [show decM (.isl (encC l) l.length none) = l from dec_enc l] at hd
    subst hd
    exact p39_1_0 h

theorem p39_2 {N I u : Int} {s : List UInt8} {m : V} (h : okV 2 N I u s m = true) : fnX E (on [70] (sp 0)) 20 c39 [.agg [.int .i64 2, .int .i64 N, .int .i64 I, .int .u64 u, .str s, m]] = some (.int .i64 0) := by
  rcases okM_cases (okV_arr h (by decide)).2.2.2 with rfl | ⟨l, hl, rfl⟩
  · exact p39_2_n h
  · rcases l with _ | ⟨⟨a1, b1, s1⟩, _ | ⟨⟨a2, b2, s2⟩, _ | ⟨⟨a3, b3, s3⟩, _ | ⟨⟨a4, b4, s4⟩, _ | ⟨⟨a5, b5, s5⟩, _ | ⟨⟨a6, b6, s6⟩, _ | ⟨e, r⟩⟩⟩⟩⟩⟩⟩
    · exact p39_2_0 h
    · exact p39_2_1 h
    · exact p39_2_2 h
    · exact p39_2_3 h
    · exact p39_2_4 h
    · exact p39_2_5 h
    · exact p39_2_6 h
    · simp at hl

theorem p39_3 {N I u : Int} {s : List UInt8} {m : V} (h : okV 3 N I u s m = true) : fnX E (on [70] (sp 0)) 20 c39 [.agg [.int .i64 3, .int .i64 N, .int .i64 I, .int .u64 u, .str s, m]] = some (.int .i64 0) := by
  rcases okM_cases (okV_arr h (by decide)).2.2.2 with rfl | ⟨l, hl, rfl⟩
  · exact p39_3_n h
  · rcases l with _ | ⟨⟨a1, b1, s1⟩, _ | ⟨⟨a2, b2, s2⟩, _ | ⟨⟨a3, b3, s3⟩, _ | ⟨⟨a4, b4, s4⟩, _ | ⟨⟨a5, b5, s5⟩, _ | ⟨⟨a6, b6, s6⟩, _ | ⟨e, r⟩⟩⟩⟩⟩⟩⟩
    · exact p39_3_0 h
    · exact p39_3_1 h
    · exact p39_3_2 h
    · exact p39_3_3 h
    · exact p39_3_4 h
    · exact p39_3_5 h
    · exact p39_3_6 h
    · simp at hl

theorem okV_kind {K N I u : Int} {s : List UInt8} {m : V} (h : okV K N I u s m = true) : K = 0 ∨ K = 1 ∨ K = 2 ∨ K = 3 := by
  unfold okV okS at h
  simp only [Bool.and_eq_true] at h
  have h := h.1.1
  split at h
  · exact .inl ‹_›
  · split at h
    · exact .inr (.inl ‹_›)
    · split at h
      · exact .inr (.inr (.inl ‹_›))
      · simp only [Bool.and_eq_true, decide_eq_true_eq] at h
        exact .inr (.inr (.inr h.1.1.1.1))

theorem a39 (as : List V) (r : Tr) (v : V) (e : s39 as = some r) (q : runTr r some = some v) : Ans E 39 as v := by
  unfold s39 at e
  split at e
  · cases e
    obtain ⟨h, q⟩ := need_some q
    cases is_some q
    refine fnX_ans (ok70 0) rfl (by kernel_rfl) rfl (n := 20) (fn := c39) ?_
    rcases okV_kind h with rfl | rfl | rfl | rfl
    · exact p39_0 h
    · exact p39_1 h
    · exact p39_2 h
    · exact p39_3 h
  · cases e

end Ea
end Go.Proofs
