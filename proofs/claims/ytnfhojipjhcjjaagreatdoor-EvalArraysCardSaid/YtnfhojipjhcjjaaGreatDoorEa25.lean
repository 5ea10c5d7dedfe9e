/-
  EvalArrays IS PROVED, as the given card says it: for every input the law returns true, and the input reads as it did. Conditions: those of the given statement alone.
-/
import Derived.Test.YtnfhojipjhcjjaaGreatDoorEa24
import Derived.Test.YtnfhojipjhcjjaaGreatDoorRows
import Derived.Test.YtnfhojipjhcjjaaGreatDoorTie
import Derived.Test.YtnfhojipjhcjjaaGreatDoorCards
import Derived.WalkKit
import Derived.ProofKit
import Derived.OpenShut
import Derived.ShutString
import Derived.ChangeOld
import Derived.Below
import Derived.LaidMore
import Derived.Lay
import Derived.LaidOnce
import Derived.Shelf.Vars
import Derived.HandedShaped
import Derived.SevenTiedAt
import Derived.Stop.Joined
namespace Go.Proofs.YtnfhojipjhcjjaaGreatDoor
open Go Go.ChangeShapes Go.WideShapes Go.ChangeAt Go.RowKit
set_option linter.unusedVariables false
set_option linter.unusedSimpArgs false
set_option maxRecDepth 100000
set_option maxHeartbeats 1000000

/-- THE STATEMENT. -/
theorem evalArrays_proved : Rows.EvalArraysCardSaid :=
  Claim7.holds_tied_plain_at .later [] [.data, .data, .pinned] true (true, "90d20748bcfbbe7422727def97e92f7c13041a458a9fe995ca84af1ac902e714") false
    EvalArraysProof.over (fun _ h => by cases h) (by kernel_rfl) (fun _ h => by cases h) evalArrays_row_tie rfl ⟨rfl, rfl⟩ (by kernel_rfl) rfl
    (fun f fn hf hfn => by
      obtain rfl : f = 5 := Option.some.inj ((show Tryz.prog.funcNamed "enthymeme/enthymemelaw08.EvalArrays" = some 5 by kernel_rfl).symm.trans hf) |>.symm
      obtain rfl : fn = Tryz.f5 := (Option.some.inj (Tryz.func5.symm.trans hfn)).symm
      exact ⟨by kernel_rfl, fun j t ht => by
        rw [Tryz.params5] at ht
        have hm : t ∈ [3, 22, 22, 3, 3, 3] := by simpa using Array.mem_of_getElem? ht
        have hall : ([3, 22, 22, 3, 3, 3].all fun u => !Tryz.prog.wantsStandIn u) = true := by kernel_rfl
        exact (show Tryz.prog.wantsStandIn t = false by simpa using List.all_eq_true.1 hall t hm)⟩)
    (by kernel_rfl)
#print axioms evalArrays_proved
end Go.Proofs.YtnfhojipjhcjjaaGreatDoor
