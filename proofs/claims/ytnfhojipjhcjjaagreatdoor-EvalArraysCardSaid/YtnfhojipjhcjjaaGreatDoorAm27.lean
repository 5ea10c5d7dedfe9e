/-
  RULES FOR OPERATIONS THAT HAVE A CONDITION. Conditions: as each rule names them.
-/
import Derived.Test.YtnfhojipjhcjjaaGreatDoorAm26
namespace Go.Am
set_option autoImplicit false
set_option linter.unusedVariables false

section
variable {inl : FuncId → Bool} {call : CallF} {t : T} {h : H}

theorem rule_rem {x y : A} {k : IntKind} {a b : Int} (hx : ev t x = .int k a) (hy : ev t y = .int k b) (hb : b ≠ 0) : opE inl call (.bin .rem x y) t h = some (.int k (a.tmod b), h) := by
  simp only [opE, hx, hy, Am.bin, binInt, if_true, if_neg hb, Option.map_some]

theorem rule_quo {x y : A} {k : IntKind} {a b : Int} (hx : ev t x = .int k a) (hy : ev t y = .int k b) (hb : b ≠ 0) : opE inl call (.bin .quo x y) t h = some (.int k (k.wrap (a.tdiv b)), h) := by
  simp only [opE, hx, hy, Am.bin, binInt, if_true, if_neg hb, Option.map_some]

theorem rule_shl {x y : A} {k j : IntKind} {a b : Int} (hx : ev t x = .int k a) (hy : ev t y = .int j b) (hb : 0 ≤ b) : opE inl call (.bin .shl x y) t h = some (.int k (k.wrap (a * 2 ^ (min b.toNat k.bits))), h) := by
  simp only [opE, hx, hy, Am.bin, if_neg (show ¬ b < 0 by omega), Option.map_some]

/-- An element of a slice that never changes. -/
theorem rule_ia_isl {sz : Nat} {x i : A} {k : IntKind} {n : Int} {cs : List V} {len : Nat} {ex : Option Nat} (hx : ev t x = .isl cs len ex) (hi : ev t i = .int k n) (h0 : 0 ≤ n) (h1 : n < len) (hl : cs.length = len * sz) :
    opE inl call (.ia sz x i) t h = some (.imm (cs.drop (n.toNat * sz)), h) := by
  simp only [opE, hx, hi, Am.ia, if_pos (show 0 ≤ n ∧ n < (len : Int) ∧ cs.length = len * sz from ⟨h0, h1, hl⟩), Option.map_some]

/-- .. of a slice of an object. -/
theorem rule_ia_osl {sz : Nat} {x i : A} {k : IntKind} {n : Int} {id off len lo : Nat} {ex : Bool} (hx : ev t x = .osl id off len sz lo ex) (hi : ev t i = .int k n) (h0 : 0 ≤ n) (h1 : n < len) :
    opE inl call (.ia sz x i) t h = some (.own id (off + n.toNat * sz), h) := by
  simp only [opE, hx, hi, Am.ia, h0, h1, and_self, if_true, Option.map_some]

theorem rule_iaa_imm {m sz : Nat} {x i : A} {k : IntKind} {n : Int} {cs : List V} (hx : ev t x = .imm cs) (hi : ev t i = .int k n) (h0 : 0 ≤ n) (h1 : n < m) (hl : m * sz ≤ cs.length) :
    opE inl call (.iaa m sz x i) t h = some (.imm (cs.drop (n.toNat * sz)), h) := by
  simp only [opE, hx, hi, Am.iaa, if_pos (show 0 ≤ n ∧ n < (m : Int) ∧ m * sz ≤ cs.length from ⟨h0, h1, hl⟩), Option.map_some]
end
end Go.Am
