/-
  NARROWER THAN 'FOR EVERY INPUT', by the rows' own cells (each row's printed sentence says how): EvalNodes: laid · EvalStrings: laid · EvalArrays: laid.
  DERIVED. THE GIVEN ROWS OF THIS SEAT. 3 by the template 'for every input the law returns true; each argument reads behind the call as it read before'; 0 by the template 'total and deterministic' (their statements: YtnfhojipjhcjjaaGreatDoorTotals.lean).
  GIVEN WITH THE SEED: the statements are not yours to turn. If you find one false, say at which input.
  Laid BY PROGRAM, IN A SANDBOX (cutbox-rows.mjs): the forced cells as the released guide's own fill.sh prints them over the translation 06d44eaf5a500677… (all of the seat's roots in one cut). By AI agents, Wed Nov 11 2026. No macro, syntax, notation, axiom, sorry.
-/
import Derived.Test.YtnfhojipjhcjjaaGreatDoorChecked
import GoSem.PinnedTables
import GoSem.Claim
import GoSem.ClaimJoined
import GoSem.ClaimMapViews
import Derived.JoinedTies
import Derived.KernelRfl
namespace Go.Proofs.YtnfhojipjhcjjaaGreatDoor
/- THE CELL 'sum', in the pinned program and in every row, IS THE sha256 OF THE DUMP (.gsa) THAT YtnfhojipjhcjjaaGreatDoorProg.lean LOADS. Nothing in Lean hashes anything: it is a label: what it is worth is what the hold of that sum in a sandbox is worth. -/
noncomputable def Tryz.pinned : Pinned := { name := "ytnfhojipjhcjjaagreatdoor", sum := "06d44eaf5a500677102b216f350b1c8ed6652562787d1ca7e4350e30329a7edb", checked := Tryz.checked }
namespace Rows
def none {H : Type} : Left H := { results := [], args := [] }

/- WHAT THE LISTED PACKAGE-LEVEL VARIABLES READ AS WHEN THE CALL BEGINS. Each datum BY PROGRAM (the guide's laid-datum.mjs) off the statement by which the dump's own 'gosem.cut.vars' lays the variable. In a bare row this is a premise. The card (YtnfhojipjhcjjaaGreatDoorCards.lean) ties it to the program's text. -/
def laid_unicode_utf8_acceptRanges {H : Type} : DataW H := .agg [.agg [.lit (.int .u8 128), .lit (.int .u8 191)], .agg [.lit (.int .u8 160), .lit (.int .u8 191)], .agg [.lit (.int .u8 128), .lit (.int .u8 159)], .agg [.lit (.int .u8 144), .lit (.int .u8 191)], .agg [.lit (.int .u8 128), .lit (.int .u8 143)], .agg [.lit (.int .u8 0), .lit (.int .u8 0)], .agg [.lit (.int .u8 0), .lit (.int .u8 0)], .agg [.lit (.int .u8 0), .lit (.int .u8 0)], .agg [.lit (.int .u8 0), .lit (.int .u8 0)], .agg [.lit (.int .u8 0), .lit (.int .u8 0)], .agg [.lit (.int .u8 0), .lit (.int .u8 0)], .agg [.lit (.int .u8 0), .lit (.int .u8 0)], .agg [.lit (.int .u8 0), .lit (.int .u8 0)], .agg [.lit (.int .u8 0), .lit (.int .u8 0)], .agg [.lit (.int .u8 0), .lit (.int .u8 0)], .agg [.lit (.int .u8 0), .lit (.int .u8 0)]]
def laid_enthymeme_term_kidCounts {H : Type} : DataW H := .agg [.lit (.int .i64 0), .lit (.int .i64 0), .lit (.int .i64 0), .lit (.int .i64 0), .lit (.int .i64 1), .lit (.int .i64 1), .lit (.int .i64 2), .lit (.int .i64 2), .lit (.int .i64 2), .lit (.int .i64 2), .lit (.int .i64 2), .lit (.int .i64 2), .lit (.int .i64 2), .lit (.int .i64 2), .lit (.int .i64 2), .lit (.int .i64 2), .lit (.int .i64 2), .lit (.int .i64 2), .lit (.int .i64 2), .lit (.int .i64 3), .lit (.int .i64 2), .lit (.int .i64 1), .lit (.int .i64 1), .lit (.int .i64 1), .lit (.int .i64 2), .lit (.int .i64 3), .lit (.int .i64 2), .lit (.int .i64 1), .lit (.int .i64 1), .lit (.int .i64 2), .lit (.int .i64 3), .lit (.int .i64 2), .lit (.int .i64 3), .lit (.int .i64 1), .lit (.int .i64 1)]
/-- One of Go's own tables, pinned by name: the form's constant. -/
def laid_unicode_utf8_first : DataW Unit := Go.Pinned.utf8First

/-- 'enthymemelaw08.EvalNodes': WHATEVER THE INPUT: true; the input reads as it did. -/
def evalNodesSpec : ChangeSpec := { name := "evalNodes", fn := fun _ => fun
  | [d1, d2, d3, d4, d5] => { results := [.lit (.bool true)], args := [d1, d2, d3, d4, d5] }
  | _ => none }
def evalNodesRow : OpenClaim := { program := "ytnfhojipjhcjjaagreatdoor", sum := "06d44eaf5a500677102b216f350b1c8ed6652562787d1ca7e4350e30329a7edb", func := "enthymeme/enthymemelaw08.EvalNodes", spec := "evalNodes", inPlace := ["internal/bytealg.IndexByteString", "internal/bytealg.IndexString", "internal/bytealg.CountString", "internal/abi.NoEscape", "internal/bytealg.MakeNoZero"], unfollowed := true, recurses := true, named := ["enthymeme/term.kidCounts", "internal/bytealg.MaxLen", "unicode/utf8.first", "unicode/utf8.acceptRanges"], apart := false, laid := [("unicode/utf8.acceptRanges", laid_unicode_utf8_acceptRanges), ("enthymeme/term.kidCounts", laid_enthymeme_term_kidCounts), ("unicode/utf8.first", laid_unicode_utf8_first)] }
def EvalNodesSaid : Prop := evalNodesRow.holds Tryz.pinned (OpenSpec.ofChange evalNodesSpec)

/-- ITS FALSE NEIGHBOUR: 'it returns false'. Refute it at one input. -/
def evalNodesWrong : ChangeSpec := { name := "evalNodes", fn := fun _ => fun
  | [d1, d2, d3, d4, d5] => { results := [.lit (.bool false)], args := [d1, d2, d3, d4, d5] }
  | _ => none }
def EvalNodesWrongFalsely : Prop := evalNodesRow.holds Tryz.pinned (OpenSpec.ofChange evalNodesWrong)

/-- 'enthymemelaw08.EvalStrings': WHATEVER THE INPUT: true; the input reads as it did. -/
def evalStringsSpec : ChangeSpec := { name := "evalStrings", fn := fun _ => fun
  | [d1, d2, d3, d4] => { results := [.lit (.bool true)], args := [d1, d2, d3, d4] }
  | _ => none }
def evalStringsRow : OpenClaim := { program := "ytnfhojipjhcjjaagreatdoor", sum := "06d44eaf5a500677102b216f350b1c8ed6652562787d1ca7e4350e30329a7edb", func := "enthymeme/enthymemelaw08.EvalStrings", spec := "evalStrings", inPlace := ["internal/bytealg.IndexByteString", "internal/bytealg.IndexString", "internal/bytealg.CountString", "internal/abi.NoEscape", "internal/bytealg.MakeNoZero"], unfollowed := true, recurses := true, named := ["enthymeme/term.kidCounts", "internal/bytealg.MaxLen", "unicode/utf8.first", "unicode/utf8.acceptRanges"], apart := false, laid := [("unicode/utf8.acceptRanges", laid_unicode_utf8_acceptRanges), ("enthymeme/term.kidCounts", laid_enthymeme_term_kidCounts), ("unicode/utf8.first", laid_unicode_utf8_first)] }
def EvalStringsSaid : Prop := evalStringsRow.holds Tryz.pinned (OpenSpec.ofChange evalStringsSpec)

/-- ITS FALSE NEIGHBOUR: 'it returns false'. Refute it at one input. -/
def evalStringsWrong : ChangeSpec := { name := "evalStrings", fn := fun _ => fun
  | [d1, d2, d3, d4] => { results := [.lit (.bool false)], args := [d1, d2, d3, d4] }
  | _ => none }
def EvalStringsWrongFalsely : Prop := evalStringsRow.holds Tryz.pinned (OpenSpec.ofChange evalStringsWrong)

/-- 'enthymemelaw08.EvalArrays': WHATEVER THE INPUT: true; the input reads as it did. -/
def evalArraysSpec : ChangeSpec := { name := "evalArrays", fn := fun _ => fun
  | [d1, d2, d3, d4, d5, d6] => { results := [.lit (.bool true)], args := [d1, d2, d3, d4, d5, d6] }
  | _ => none }
def evalArraysRow : OpenClaim := { program := "ytnfhojipjhcjjaagreatdoor", sum := "06d44eaf5a500677102b216f350b1c8ed6652562787d1ca7e4350e30329a7edb", func := "enthymeme/enthymemelaw08.EvalArrays", spec := "evalArrays", inPlace := ["internal/bytealg.IndexByteString", "internal/bytealg.IndexString", "internal/bytealg.CountString", "internal/abi.NoEscape", "internal/bytealg.MakeNoZero"], unfollowed := true, recurses := true, named := ["enthymeme/term.kidCounts", "internal/bytealg.MaxLen", "unicode/utf8.first", "unicode/utf8.acceptRanges"], apart := false, laid := [("unicode/utf8.acceptRanges", laid_unicode_utf8_acceptRanges), ("enthymeme/term.kidCounts", laid_enthymeme_term_kidCounts), ("unicode/utf8.first", laid_unicode_utf8_first)] }
def EvalArraysSaid : Prop := evalArraysRow.holds Tryz.pinned (OpenSpec.ofChange evalArraysSpec)

/-- ITS FALSE NEIGHBOUR: 'it returns false'. Refute it at one input. -/
def evalArraysWrong : ChangeSpec := { name := "evalArrays", fn := fun _ => fun
  | [d1, d2, d3, d4, d5, d6] => { results := [.lit (.bool false)], args := [d1, d2, d3, d4, d5, d6] }
  | _ => none }
def EvalArraysWrongFalsely : Prop := evalArraysRow.holds Tryz.pinned (OpenSpec.ofChange evalArraysWrong)

/- THE SECOND FORM. 'bulk': how many values and letters a reading holds, each counted each time it is reached (what is shared counts as often as it is met; a slice's spare places count too). A statement '..UptoSaid' is the law's where the arguments, and the package variables that the reading takes, are together of bulk at most 1048576: NARROWER than '..Said'. Prove '..Said' where nothing that the law and all that it calls make is longer than what came in: it says more and counts as full. Else prove '..UptoSaid'. A law counts once. -/
mutual
def uptoBulk {H : Type} : DataW H → Nat
  | .lit (.string bytes) => bytes.length + 1
  | .lit _ => 1
  | .nil => 1
  | .ptr d => uptoBulk d + 1
  | .slice elems spare => uptoBulkAll elems + uptoBulkAll spare + 1
  | .agg parts => uptoBulkAll parts + 1
  | .iface _ d => uptoBulk d + 1
  | .map entries => uptoBulkEntries entries + 1
  | .held _ => 1
def uptoBulkAll {H : Type} : List (DataW H) → Nat
  | [] => 0
  | d :: r => uptoBulk d + uptoBulkAll r
def uptoBulkEntries {H : Type} : List (Lit × DataW H) → Nat
  | [] => 0
  | x :: r => uptoBulkEntry x + uptoBulkEntries r
def uptoBulkEntry {H : Type} : Lit × DataW H → Nat
  | (.string bytes, d) => bytes.length + uptoBulk d + 1
  | (_, d) => uptoBulk d + 1
 end
def uptoSmall : (H : Type) → List (DataW H) → Bool := fun _ ds => decide (uptoBulkAll ds ≤ 1048576)
def OpenSpec.upto (s : _root_.Go.ChangeSpec) : _root_.Go.OpenSpec := { _root_.Go.OpenSpec.ofChange s with cond := some uptoSmall }

/-- 'enthymemelaw08.EvalNodes', WHERE WHAT IT READS IS OF BULK AT MOST 1048576: true; the input reads as it did. -/
def evalNodesUptoRow : OpenClaim := { program := "ytnfhojipjhcjjaagreatdoor", sum := "06d44eaf5a500677102b216f350b1c8ed6652562787d1ca7e4350e30329a7edb", func := "enthymeme/enthymemelaw08.EvalNodes", spec := "evalNodes", inPlace := ["internal/bytealg.IndexByteString", "internal/bytealg.IndexString", "internal/bytealg.CountString", "internal/abi.NoEscape", "internal/bytealg.MakeNoZero"], unfollowed := true, recurses := true, named := ["enthymeme/term.kidCounts", "internal/bytealg.MaxLen", "unicode/utf8.first", "unicode/utf8.acceptRanges"], apart := false, laid := [("unicode/utf8.acceptRanges", laid_unicode_utf8_acceptRanges), ("enthymeme/term.kidCounts", laid_enthymeme_term_kidCounts), ("unicode/utf8.first", laid_unicode_utf8_first)], narrowed := true }
def EvalNodesUptoSaid : Prop := evalNodesUptoRow.holds Tryz.pinned (OpenSpec.upto evalNodesSpec)

/-- 'enthymemelaw08.EvalStrings', WHERE WHAT IT READS IS OF BULK AT MOST 1048576: true; the input reads as it did. -/
def evalStringsUptoRow : OpenClaim := { program := "ytnfhojipjhcjjaagreatdoor", sum := "06d44eaf5a500677102b216f350b1c8ed6652562787d1ca7e4350e30329a7edb", func := "enthymeme/enthymemelaw08.EvalStrings", spec := "evalStrings", inPlace := ["internal/bytealg.IndexByteString", "internal/bytealg.IndexString", "internal/bytealg.CountString", "internal/abi.NoEscape", "internal/bytealg.MakeNoZero"], unfollowed := true, recurses := true, named := ["enthymeme/term.kidCounts", "internal/bytealg.MaxLen", "unicode/utf8.first", "unicode/utf8.acceptRanges"], apart := false, laid := [("unicode/utf8.acceptRanges", laid_unicode_utf8_acceptRanges), ("enthymeme/term.kidCounts", laid_enthymeme_term_kidCounts), ("unicode/utf8.first", laid_unicode_utf8_first)], narrowed := true }
def EvalStringsUptoSaid : Prop := evalStringsUptoRow.holds Tryz.pinned (OpenSpec.upto evalStringsSpec)

/-- 'enthymemelaw08.EvalArrays', WHERE WHAT IT READS IS OF BULK AT MOST 1048576: true; the input reads as it did. -/
def evalArraysUptoRow : OpenClaim := { program := "ytnfhojipjhcjjaagreatdoor", sum := "06d44eaf5a500677102b216f350b1c8ed6652562787d1ca7e4350e30329a7edb", func := "enthymeme/enthymemelaw08.EvalArrays", spec := "evalArrays", inPlace := ["internal/bytealg.IndexByteString", "internal/bytealg.IndexString", "internal/bytealg.CountString", "internal/abi.NoEscape", "internal/bytealg.MakeNoZero"], unfollowed := true, recurses := true, named := ["enthymeme/term.kidCounts", "internal/bytealg.MaxLen", "unicode/utf8.first", "unicode/utf8.acceptRanges"], apart := false, laid := [("unicode/utf8.acceptRanges", laid_unicode_utf8_acceptRanges), ("enthymeme/term.kidCounts", laid_enthymeme_term_kidCounts), ("unicode/utf8.first", laid_unicode_utf8_first)], narrowed := true }
def EvalArraysUptoSaid : Prop := evalArraysUptoRow.holds Tryz.pinned (OpenSpec.upto evalArraysSpec)

end Rows
end Go.Proofs.YtnfhojipjhcjjaaGreatDoor
