/-
  The law's walk, from a world that meets the row's condition. Conditions: as the theorem names them.
-/
import Derived.Test.YtnfhojipjhcjjaaGreatDoorEa20
import Derived.Test.YtnfhojipjhcjjaaGreatDoorRows
import Derived.Test.YtnfhojipjhcjjaaGreatDoorTie
import Derived.Test.YtnfhojipjhcjjaaGreatDoorCards
import Derived.WalkKit
import Derived.ProofKit
import Derived.OpenShut
import Derived.ShutString
import Derived.ChangeOld
import Derived.Below
import Derived.LaidMore
import Derived.Lay
import Derived.LaidOnce
import Derived.Shelf.Vars
import Derived.HandedShaped
import Derived.SevenTiedAt
import Derived.Stop.Joined
namespace Go.Proofs.YtnfhojipjhcjjaaGreatDoor
namespace EvalArraysProof
open Go Go.ChangeShapes Go.WideShapes Go.ChangeAt Go.RowKit
set_option linter.unusedVariables false
set_option linter.unusedSimpArgs false
set_option maxRecDepth 100000
set_option maxHeartbeats 1000000

theorem own : ownKnob Tryz.prog.godebug = none := by kernel_rfl
theorem laidOut : laidOutB Tryz.prog = true := by kernel_rfl

/-- A row of numbers that came in. -/
def IsRow (k : IntKind) (w : World) (a : Option Addr) (len cap : Nat) (zs : List Int) : Prop :=
  (a = none ∧ len = 0 ∧ cap = 0 ∧ zs = []) ∨
  ∃ x, a = some x ∧ len ≤ cap ∧ cap ≤ maxLen ∧ zs.length = cap ∧ (∀ i, i < zs.length → w.cell? (x.add i) = some (.int k (zs.getD i 0))) ∧ ∀ n ∈ zs, (Lit.int k n).wf = true

/-! ### Cells -/

theorem cell_heap {w : World} {a : Addr} {v : Value} (h : w.cell? a = some v) : a.spot = none ∧ ∃ c t fr, w.heap[a.block]? = some (.cells c t fr) ∧ c[a.off]? = some v := by
  unfold World.cell? at h
  split at h
  · rename_i c t fr hc
    split at h
    · cases h
    · rename_i hs
      exact ⟨by simpa using hs, c, t, fr, hc, h⟩
  · cases h

/-- Cells that are read one by one. -/
theorem rel_cells {w : World} {g off : Nat} {cs : List Am.V} (hne : cs ≠ []) (h : ∀ (i : Nat) (x : Am.V), cs[i]? = some x → ∃ n, x = .int .i64 n ∧ w.cell? ⟨g, off + i, none⟩ = some (.int .i64 n)) :
    ∃ arr e fr, w.heap[g]? = some (.cells arr e fr) ∧ (∀ i, i < cs.length → off + i < arr.size) ∧ ∀ (i : Nat) (x : Am.V) (y : Value), cs[i]? = some x → arr[off + i]? = some y → Am.CRel (fun g => w.heap[g]?) x y := by
  have one : ∀ i, i < cs.length → ∃ n, cs[i]? = some (.int .i64 n) ∧ w.cell? ⟨g, off + i, none⟩ = some (.int .i64 n) := fun i hi => by
    obtain ⟨n, h1, h2⟩ := h i _ (List.getElem?_eq_getElem hi)
    exact ⟨n, by rw [List.getElem?_eq_getElem hi, h1], h2⟩
  obtain ⟨n0, _, h0⟩ := one 0 (List.length_pos_iff.2 hne)
  obtain ⟨_, arr, e, fr, hg, _⟩ := cell_heap h0
  refine ⟨arr, e, fr, hg, fun i hi => ?_, fun i x y hx hy => ?_⟩
  · obtain ⟨n, _, h1⟩ := one i hi
    obtain ⟨_, c, _, _, hc, hci⟩ := cell_heap h1
    have hc : w.heap[g]? = some (.cells c _ _) := hc
    rw [hg] at hc
    cases hc
    exact (Array.getElem?_eq_some_iff.1 hci).1
  · obtain ⟨n, rfl, h1⟩ := h i x hx
    obtain ⟨_, c, _, _, hc, hci⟩ := cell_heap h1
    have hc : w.heap[g]? = some (.cells c _ _) := hc
    rw [hg] at hc
    cases hc
    have hy2 := hy.symm.trans hci
    cases hy2
    exact .int _ _

theorem shI_map : ∀ zs : List Int, Ea.shI (zs.map (Am.V.int .i64)) = true
  | [] => rfl
  | z :: zs => shI_map zs

/-- A row of numbers as the evaluator reads it. -/
theorem rel_row {w : World} {a : Option Addr} {len cap : Nat} {zs : List Int} (h : IsRow .i64 w a len cap zs) : ∃ l, Ea.okI l = true ∧ Am.CRel (fun g => w.heap[g]?) l (.slice a len cap) := by
  rcases h with ⟨rfl, rfl, rfl, rfl⟩ | ⟨x, rfl, hl, hm, hz, hc, _⟩
  · exact ⟨.nils, rfl, .nils⟩
  · by_cases h0 : len = 0
    · subst h0
      exact ⟨.isl [] 0 none, rfl, .isl0 none x cap (fun n e => by cases e)⟩
    · have hlen : (zs.take len).length = len := by rw [List.length_take]; omega
      refine ⟨.isl ((zs.take len).map (Am.V.int .i64)) ((zs.take len).map (Am.V.int .i64)).length none, ?_, ?_⟩
      · show (Ea.shI ((zs.take len).map (Am.V.int .i64)) && ((zs.take len).map (Am.V.int .i64)).length == ((zs.take len).map (Am.V.int .i64)).length) = true
        rw [shI_map]
        simp
      · have hx0 := (cell_heap (hc 0 (by omega))).1
        have hsp : x.spot = none := by simpa [Addr.add] using hx0
        obtain ⟨g, off, sp⟩ := x
        cases hsp
        have hne : (zs.take len).map (Am.V.int .i64) ≠ [] := by
          intro e
          have := congrArg List.length e
          rw [List.length_map, hlen] at this
          exact h0 this
        obtain ⟨arr, e, fr, hg, hb, hr⟩ := rel_cells (w := w) (g := g) (off := off) hne (fun i y hy => by
          rw [List.getElem?_map] at hy
          obtain ⟨z, hz1, rfl⟩ := Option.map_eq_some_iff.1 hy
          have hi : i < (zs.take len).length := (List.getElem?_eq_some_iff.1 hz1).1
          have hi2 : i < zs.length := by rw [hlen] at hi; omega
          refine ⟨z, rfl, ?_⟩
          have := hc i hi2
          have hz2 : zs.getD i 0 = z := by
            rw [List.getElem?_take] at hz1
            split at hz1
            · rw [List.getD_eq_getElem?_getD, hz1]; rfl
            · cases hz1
          rw [hz2] at this
          have ha : (Addr.mk g off none).add i = ⟨g, off + i, none⟩ := by
            unfold Addr.add
            split
            · rename_i h; subst h; rfl
            · rfl
          rw [ha] at this
          exact this)
        rw [List.length_map, hlen]
        exact .isl _ len none cap g off arr e fr hl (fun n e => by cases e) hg hb hr

/-! ### What the condition on the listed variables gives -/

theorem gKid : Tryz.prog.globalNamed "enthymeme/term.kidCounts" = some 0 := by kernel_rfl
theorem tKid : (Tryz.prog.globals[0]?).map (·.type) = some 174 := by kernel_rfl
theorem uKid : Tryz.prog.underlying 174 = some (.array 35 3) := by kernel_rfl

def kids : List Int := [0,0,0,0,1,1,2,2,2,2,2,2,2,2,2,2,2,2,2,3,2,1,1,1,2,3,2,1,1,2,3,2,3,1,1]

theorem of_laid {W : World} (h : laidMetH Tryz.prog Rows.evalArraysRow.laid W) : ∀ (i : Nat) (x : Am.V), Ea.kid[i]? = some x → ∃ n, x = .int .i64 n ∧ W.cell? ⟨0, i, none⟩ = some (.int .i64 n) := by
  rw [MakeChecks.laidMetH_plain _ _ _ (by kernel_rfl)] at h
  obtain ⟨ps, ⟨g0, t0, cs0, f0, p0, q0, hg0, ht0, hv0, hd0, ⟨g1, t1, cs1, f1, p1, q1, hg1, ht1, hv1, hd1, _, _⟩, _⟩, _, _⟩ := h
  obtain rfl := Option.some.inj (gKid.symm.trans hg1)
  obtain rfl := Option.some.inj (tKid.symm.trans ht1)
  obtain ⟨xs, m1, rfl, hx1, hlen, hn, hel⟩ := DataW.trod_array uKid hd1
  have c3 : Tryz.prog.cellsOf 3 = 1 := by kernel_rfl
  simp only [Prod.mk.injEq] at hx1
  have hd : xs.map (·.1) = kids.map (fun n => (DataW.lit (.int .i64 n) : DataW Unit)) := by
    have := hx1.1
    unfold Rows.laid_enthymeme_term_kidCounts at this
    injection this with this
    exact this.symm
  intro i x hx
  have hk : Ea.kid = kids.map (Am.V.int .i64) := rfl
  rw [hk, List.getElem?_map] at hx
  obtain ⟨n, hn1, rfl⟩ := Option.map_eq_some_iff.1 hx
  refine ⟨n, rfl, ?_⟩
  have hi : i < 35 := (List.getElem?_eq_some_iff.1 hn1).1
  have he := hel i hi
  rw [c3, Nat.mul_one] at he
  have hi2 : i < xs.length := by omega
  rw [List.getElem?_eq_getElem hi2] at he
  obtain ⟨n', e1, e2, _⟩ := DataW.trod_int Tryz.underlying3 he
  have hm : (xs.map (·.1))[i]? = some (DataW.lit (.int .i64 n')) := by
    rw [List.getElem?_map, List.getElem?_eq_getElem hi2, e2]; rfl
  rw [hd, List.getElem?_map, hn1] at hm
  have hnn : n = n' := by
    injection hm with hm
    injection hm with hm
    injection hm with _ hm
  subst hnn
  rw [World.var?_cell hg1 hv1 i]
  have : cs1.toList[i]? = some (.int .i64 n) := by
    have e3 : ((cs1.toList.drop i).take 1)[0]? = some (.int .i64 n) := by rw [e1]; rfl
    rw [List.getElem?_take, if_pos (by decide), List.getElem?_drop, Nat.add_zero] at e3
    exact e3
  rw [Array.getElem?_toList] at this
  exact this

theorem maxLen_cell {W : World} (h : W.ShapedOpen Tryz.prog) : ∃ m, W.cell? ⟨1, 0, none⟩ = some (.int .i64 m) :=
  cell_of_shapedOpen_int (t := 3) (zero := #[.int .i64 0]) h (of_decide_eq_true (by kernel_rfl)) (by kernel_rfl) rfl (by kernel_rfl) (by kernel_rfl) Tryz.underlying3

/-- What the evaluator is told of the listed variables. -/
theorem gl_ok {W : World} (h : laidMetH Tryz.prog Rows.evalArraysRow.laid W) {m : Int} (hm : W.cell? ⟨1, 0, none⟩ = some (.int .i64 m)) : ∀ g cs, Ea.gl m g = some cs → Am.CRel (fun g => W.heap[g]?) (.imm cs) (.pointer (some ⟨g, 0, none⟩)) := by
  intro g cs e
  unfold Ea.gl at e
  split at e
  · rename_i hg
    subst hg
    cases e
    obtain ⟨arr, e, fr, hg, hb, hr⟩ := rel_cells (w := W) (g := 0) (off := 0) (cs := Ea.kid) (by decide) (fun i x hx => by
      obtain ⟨n, h1, h2⟩ := of_laid h i x hx
      exact ⟨n, h1, by rw [Nat.zero_add]; exact h2⟩)
    exact .imm _ 0 0 arr e fr hg hb hr
  · split at e
    · rename_i hg
      subst hg
      cases e
      obtain ⟨arr, e, fr, hg, hb, hr⟩ := rel_cells (w := W) (g := 1) (off := 0) (cs := [.int .i64 m]) (by simp) (fun i x hx => by
        cases i with
        | zero => cases hx; exact ⟨m, rfl, hm⟩
        | succ i => cases hx)
      exact .imm _ 1 0 arr e fr hg hb hr
    · cases e

/-! ### The kind of the law's sort -/

theorem around_range {n m : Int} (hm : 0 < m) (h0 : -9223372036854775808 ≤ n) (h1 : n ≤ 9223372036854775807) : 0 ≤ Ea.around n m ∧ Ea.around n m < m := by
  refine ⟨?_, Ea.around_lt n hm⟩
  unfold Ea.around
  refine Int.tmod_nonneg _ ?_
  split
  · unfold IntKind.wrap IntKind.signed IntKind.bits
    simp only [Bool.true_and, ge_iff_le, decide_eq_true_eq]
    split <;> split <;> omega
  · omega

theorem wf_range {n : Int} (h : (Lit.int .i64 n).wf = true) : -9223372036854775808 ≤ n ∧ n ≤ 9223372036854775807 := by
  simpa [Lit.wf, IntKind.min, IntKind.max, IntKind.signed, IntKind.bits] using h

theorem kind_of {sort n : Int} (h0 : (Lit.int .i64 sort).wf = true) (h1 : (Lit.int .i64 n).wf = true) : ∃ K : Int, (K = 2 ∨ K = 3) ∧ (Ea.around (Ea.sortN sort n) 1048576).tmod 4 = K := by
  obtain ⟨a1, a2⟩ := wf_range h0
  obtain ⟨b1, b2⟩ := wf_range h1
  obtain ⟨c1, c2⟩ := around_range (show (0 : Int) < 65536 by decide) a1 a2
  obtain ⟨d1, d2⟩ := around_range (show (0 : Int) < 2 by decide) b1 b2
  unfold Ea.sortN
  generalize Ea.around sort 65536 = x at c1 c2
  generalize Ea.around n 2 = y at d1 d2
  have w1 : ∀ z : Int, 0 ≤ z → z < 9223372036854775808 → IntKind.i64.wrap z = z := by
    intro z hz hl
    unfold IntKind.wrap IntKind.signed IntKind.bits
    simp only [Bool.true_and, ge_iff_le, decide_eq_true_eq]
    split <;> omega
  rw [w1 (4 * x) (by omega) (by omega), w1 (2 + 4 * x) (by omega) (by omega), w1 (2 + 4 * x + y) (by omega) (by omega)]
  have e : Ea.around (2 + 4 * x + y) 1048576 = 2 + 4 * x + y := by
    unfold Ea.around
    rw [if_neg (by omega)]
    exact Int.tmod_eq_of_lt (by omega) (by omega)
  rw [e]
  have e2 : (2 + 4 * x + y).tmod 4 = 2 + y := by
    rw [Int.tmod_eq_emod_of_nonneg (by omega)]
    omega
  rw [e2]
  exact ⟨2 + y, by omega, rfl⟩

/-- THE WALK: the program's law returns true, and writes nothing that was there. -/
theorem walk (a0 : Int) (a1 : Option Addr) (len1 cap1 : Nat) (z1 : List Int) (a2 : Option Addr) (len2 cap2 : Nat) (z2 : List Int) (a3 : Int) (a4 : Int) (a5 : Int) (w : World) (hL : laidMetH Tryz.prog Rows.evalArraysRow.laid w) (hsh : w.ShapedOpen Tryz.prog) (w0 : (Lit.int .i64 a0).wf = true)
    (w1 : IsRow .i64 w a1 len1 cap1 z1) (w2 : IsRow .i64 w a2 len2 cap2 z2) (w5 : (Lit.int .i64 a5).wf = true) :
    Calls Tryz.prog 5 #[.int .i64 a0, .slice a1 len1 cap1, .slice a2 len2 cap2, .int .i64 a3, .int .i64 a4, .int .i64 a5] w fun e w' => e = .returned (.bool true) ∧ Below w.heap.size w w' := by
  obtain ⟨m, hm⟩ := maxLen_cell hsh
  obtain ⟨K, hK, hs⟩ := kind_of w0 w5
  obtain ⟨l1, o1, r1⟩ := rel_row w1
  obtain ⟨l2, o2, r2⟩ := rel_row w2
  exact Ea.law_calls (gl_ok hL hm) hK o1 o2 hs r1 r2

end EvalArraysProof
end Go.Proofs.YtnfhojipjhcjjaaGreatDoor
