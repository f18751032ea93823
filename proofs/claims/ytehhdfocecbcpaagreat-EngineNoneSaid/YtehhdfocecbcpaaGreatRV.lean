/- Part of a proof: the tools that its last text leans on (RV). -/
import Derived.Test.YtehhdfocecbcpaaGreatRT
import Derived.Test.YtehhdfocecbcpaaGreatRE11
set_option maxRecDepth 1000000
namespace Go.RE
open Go Go.RowKit Go.Eng
def simpleV : Value := .agg ⟨[.int .u64 10, .int .u64 30, .int .u64 10, .int .u64 40, .int .u64 10, .int .u64 5, .int .u64 4, .int .u64 100, .int .u64 8, .int .u64 50, .int .u64 2, .int .u64 100, .int .u64 1048576, .int .u64 1, .int .i64 2, .int .i64 4, .int .i64 100, .int .i64 100, .int .i64 5000, .int .i64 2, .int .i64 2, .int .i64 2, .int .i64 1, .int .i64 3000]⟩
def noOrc : CallF := fun _ _ _ => none
theorem noOrc_ok {P : Program} : CallOK P noOrc := fun f args h v h' hev => by cases hev
theorem check_known : KnownC Go.Proofs.Tryz.prog 68 [simpleV] (.int .i64 0) := known_run (k := 40) (L := 10000) ft_ok noOrc_ok (by kernel_rfl)
end Go.RE
