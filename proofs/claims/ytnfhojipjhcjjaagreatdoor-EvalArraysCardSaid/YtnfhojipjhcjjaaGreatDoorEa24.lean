/-
  THE ROW of EvalArrays. Conditions: none beyond the given row's.
-/
import Derived.Test.YtnfhojipjhcjjaaGreatDoorEa23
import Derived.Test.YtnfhojipjhcjjaaGreatDoorRows
import Derived.Test.YtnfhojipjhcjjaaGreatDoorTie
import Derived.Test.YtnfhojipjhcjjaaGreatDoorCards
import Derived.WalkKit
import Derived.ProofKit
import Derived.OpenShut
import Derived.ShutString
import Derived.ChangeOld
import Derived.Below
import Derived.LaidMore
import Derived.Lay
import Derived.LaidOnce
import Derived.Shelf.Vars
import Derived.HandedShaped
import Derived.SevenTiedAt
import Derived.Stop.Joined
namespace Go.Proofs.YtnfhojipjhcjjaaGreatDoor
namespace EvalArraysProof
open Go Go.ChangeShapes Go.WideShapes Go.ChangeAt Go.RowKit
set_option linter.unusedVariables false
set_option linter.unusedSimpArgs false
set_option maxRecDepth 100000
set_option maxHeartbeats 1000000


theorem over : Rows.evalArraysRow.holds Tryz.pinned (OpenSpec.ofChange Rows.evalArraysSpec) :=
  OpenClaim.holds_of_wide 5 Tryz.f5 rfl rfl rfl rfl rfl rfl rfl ⟨rfl, rfl, rfl, rfl, rfl⟩ rfl rfl rfl rfl rfl (by kernel_rfl) Tryz.func5 (by kernel_rfl)
    (of_decide_eq_true (by kernel_rfl)) (by unfold Func.isWrapper; first | (rw [if_pos (by decide +kernel)]; kernel_rfl) | (rw [if_neg (by decide +kernel)]; exact ⟨rfl, rfl⟩))
    (fun os started H enc _ => lifted os started H enc)
end EvalArraysProof
end Go.Proofs.YtnfhojipjhcjjaaGreatDoor
