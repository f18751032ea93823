/- Part of a proof: the tools that its last text leans on (RW6). -/
import Derived.Test.YtehhdfocecbcpaaGreatRows
import Derived.ProofKit
import Derived.JoinedOf
namespace Go.Proofs.YtehhdfocecbcpaaGreat.engineNone
open Go.ChangeShapes Go.WideShapes Go.ChangeAt Go.RowKit
set_option maxRecDepth 100000
theorem facts : joinedFacts Tryz.pinned.checked.prog 3 Tryz.f3 Rows.engineNoneSpec Rows.engineNoneRow = true := by kernel_rfl
theorem called : Tryz.pinned.checked.prog.funcNamed Rows.engineNoneRow.func = some 3 := by kernel_rfl
end Go.Proofs.YtehhdfocecbcpaaGreat.engineNone
