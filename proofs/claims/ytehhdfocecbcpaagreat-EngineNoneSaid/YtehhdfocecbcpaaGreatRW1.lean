/- Part of a proof: the tools that its last text leans on (RW1). -/
import Derived.Test.YtehhdfocecbcpaaGreatRT
import Derived.Test.YtehhdfocecbcpaaGreatRE13
set_option maxRecDepth 1000000
namespace Go.RE
open Go Go.RowKit Go.Eng
def noO : CallF := fun _ _ _ => none
theorem few_many (kd wh ix : Int) (a : Addr) (n c : Nat) :
  (callW Go.Proofs.Tryz.prog ft noO 10 5 5 [true, true] [.s 0 0 1 (some 1), .v (.int .i64 1)] ⟨T.set 30 .e 0 (some (.c 24 [.v (.int .i64 kd), .v (.int .i64 wh), .v (.int .i64 ix), .v (.slice (some a) n c)])), 1, .e, 0⟩).map (fun p => (p.1, p.2.1.get 0, p.2.2)) =
   some (.v (.bool false), some (.c 24 [.v (.int .i64 kd), .v (.int .i64 wh), .v (.int .i64 ix), .v (.slice (some a) n c)]), [(.v (.bool true), true), (.v (.bool (decide ((3000 : Int) < (n : Int)))), true)]) := by kernel_rfl
theorem few_few (kd wh ix : Int) (a : Addr) (n c : Nat) :
  (callW Go.Proofs.Tryz.prog ft noO 10 5 5 [true, false, false] [.s 0 0 1 (some 1), .v (.int .i64 1)] ⟨T.set 30 .e 0 (some (.c 24 [.v (.int .i64 kd), .v (.int .i64 wh), .v (.int .i64 ix), .v (.slice (some a) n c)])), 1, .e, 0⟩).map (fun p => (p.1, p.2.1.get 0, p.2.2)) =
   some (.v (.bool true), some (.c 24 [.v (.int .i64 kd), .v (.int .i64 wh), .v (.int .i64 ix), .v (.slice (some a) n c)]), [(.v (.bool true), true), (.v (.bool (decide ((3000 : Int) < (n : Int)))), false), (.v (.bool false), false)]) := by kernel_rfl
theorem few_nil (kd wh ix : Int) :
  (callW Go.Proofs.Tryz.prog ft noO 10 5 5 [true, false, false] [.s 0 0 1 (some 1), .v (.int .i64 1)] ⟨T.set 30 .e 0 (some (.c 24 [.v (.int .i64 kd), .v (.int .i64 wh), .v (.int .i64 ix), .v (.slice none 0 0)])), 1, .e, 0⟩).map (fun p => (p.1, p.2.1.get 0, p.2.2)) =
   some (.v (.bool true), some (.c 24 [.v (.int .i64 kd), .v (.int .i64 wh), .v (.int .i64 ix), .v (.slice none 0 0)]), [(.v (.bool true), true), (.v (.bool false), false), (.v (.bool false), false)]) := by kernel_rfl
end Go.RE
