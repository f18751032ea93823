/- Part of a proof: the tools that its last text leans on (RU). -/
import Derived.Test.YtehhdfocecbcpaaGreatRV
import Derived.Test.YtehhdfocecbcpaaGreatRS
set_option maxRecDepth 1000000
namespace Go.RE
open Go Go.RowKit Go.Eng
def orcA : CallF := orO (memoF [(68, [simpleV], .int .i64 0)]) (splitO 187)
theorem orcA_ok : CallOK Go.Proofs.Tryz.prog orcA := orO_ok (memoF_ok (l := [(68, [simpleV], .int .i64 0)]) (fun e he => by
    rcases List.mem_cons.1 he with rfl | he
    · exact check_known
    · cases he)) (splitO_ok split_known)
theorem awake_known : KnownC Go.Proofs.Tryz.prog 4 [] (.bool true) :=
  known_run (k := 100) (L := 10000) ft_ok orcA_ok (by kernel_rfl)
end Go.RE
