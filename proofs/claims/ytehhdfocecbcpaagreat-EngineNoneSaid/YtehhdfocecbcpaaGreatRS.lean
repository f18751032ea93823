/- Part of a proof: the tools that its last text leans on (RS). -/
import Derived.Test.YtehhdfocecbcpaaGreatRT
import Derived.Test.YtehhdfocecbcpaaGreatRE12
set_option maxRecDepth 1000000
namespace Go.RE
open Go Go.RowKit Go.Eng
theorem split_known (n : Int) : KnownC Go.Proofs.Tryz.prog 187 [.int .u64 n, .slice none 0 0] (.tuple ⟨[.slice none 0 0, .int .u64 n, .int .i64 0]⟩) :=
  ⟨fun a w => Go.Proofs.Tryz.call187 a w, range_none (F := ft) (orc := fun _ _ _ => none) (L := 100) (k := 40) (f := 187) (g := 273) (fn := Go.Proofs.Tryz.f187) (args := [.int .u64 n, .slice none 0 0]) (ty := 32) (x := .slice none 0 0)
    ft_ok (fun f args h v h' hev => by cases hev) rfl rfl rfl rfl (fun y p2 p3 => by kernel_rfl) (fun a w => Go.Proofs.Tryz.call273 a w) (by kernel_rfl) (by kernel_rfl)⟩
end Go.RE
