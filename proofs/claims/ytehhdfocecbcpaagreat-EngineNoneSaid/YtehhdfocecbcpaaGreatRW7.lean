/- Proved: at every act 'bullionlaw27.EngineNone' returns true, and the act reads behind the call as it read before. Its conditions: none but those that the given row names. -/
import Derived.Test.YtehhdfocecbcpaaGreatRW5
import Derived.Test.YtehhdfocecbcpaaGreatRW6
import Derived.Test.YtehhdfocecbcpaaGreatRows
import Derived.WalkKit
import Derived.ProofKit
import Derived.OpenShut
import Derived.JoinedCond
namespace Go.Proofs.YtehhdfocecbcpaaGreat.engineNone
open Go.ChangeShapes Go.WideShapes Go.ChangeAt Go.RowKit
set_option maxRecDepth 100000

theorem over : Rows.engineNoneRow.holds Tryz.pinned (OpenSpec.ofChange Rows.engineNoneSpec) :=
  OpenClaim.holds_of_wide 3 Tryz.f3 rfl rfl rfl rfl rfl rfl rfl ⟨rfl, rfl, rfl, rfl, rfl⟩ rfl rfl rfl rfl rfl called Tryz.func3 facts
    (of_decide_eq_true (by kernel_rfl)) (by unfold Func.isWrapper; first | (rw [if_pos (by decide +kernel)]; kernel_rfl) | (rw [if_neg (by decide +kernel)]; exact ⟨rfl, rfl⟩))
    (fun os started H enc _ => lifted os started H enc)

theorem proved : Rows.EngineNoneSaid :=
  over
end Go.Proofs.YtehhdfocecbcpaaGreat.engineNone
