/- Part of a proof: the tools that its last text leans on (RW3). -/
import Derived.Test.YtehhdfocecbcpaaGreatRU
import Derived.Test.YtehhdfocecbcpaaGreatRW2
set_option maxRecDepth 1000000
namespace Go.RE
open Go Go.RowKit Go.Eng
def orcE : CallF := orO (memoF [(4, [], .bool true)]) fewO
theorem orcE_ok : CallOK Go.Proofs.Tryz.prog orcE := orO_ok (memoF_ok (l := [(4, [], .bool true)]) (fun e he => by
    rcases List.mem_cons.1 he with rfl | he
    · exact awake_known
    · cases he)) fewO_ok
theorem none_yes (kd wh ix : Int) (a : Addr) (n c : Nat) :
  (callW Go.Proofs.Tryz.prog ft orcE 1000 60 3 [false, false, true, false, true, false, false] ([Value.agg ⟨[.int .i64 kd, .int .i64 wh, .int .i64 ix, .slice (some a) n c]⟩].map .v) emptyH).map (fun p => (p.1, p.2.2)) =
   some (.v (.bool true), [(.v (.bool false), false), (.v (.bool (!fewB (.slice (some a) n c))), false), (.v (.bool true), true), (.v (.bool false), false), (.v (.bool true), true), (.v (.bool false), false), (.v (.bool false), false)]) := by kernel_rfl
theorem none_no (kd wh ix : Int) (a : Addr) (n c : Nat) :
  (callW Go.Proofs.Tryz.prog ft orcE 1000 60 3 [false, true] ([Value.agg ⟨[.int .i64 kd, .int .i64 wh, .int .i64 ix, .slice (some a) n c]⟩].map .v) emptyH).map (fun p => (p.1, p.2.2)) =
   some (.v (.bool true), [(.v (.bool false), false), (.v (.bool (!fewB (.slice (some a) n c))), true)]) := by kernel_rfl
theorem none_nil (kd wh ix : Int) :
  (callW Go.Proofs.Tryz.prog ft orcE 1000 60 3 [false, false, true, false, true, false, false] ([Value.agg ⟨[.int .i64 kd, .int .i64 wh, .int .i64 ix, .slice none 0 0]⟩].map .v) emptyH).map (fun p => (p.1, p.2.2)) =
   some (.v (.bool true), [(.v (.bool false), false), (.v (.bool false), false), (.v (.bool true), true), (.v (.bool false), false), (.v (.bool true), true), (.v (.bool false), false), (.v (.bool false), false)]) := by kernel_rfl
/-- a path's run is a run -/
theorem known_path {P : Program} {F : FT} {orc : CallF} {L k : Nat} (hF : FTok P F) (ho : CallOK P orc) {f : FuncId} {bs : List Bool} {vs : List Value} {b : Bool} {conds : List (AV × Bool)}
    (hrun : (callW P F orc L k f bs (vs.map .v) emptyH).map (fun p => (p.1, p.2.2)) = some (.v (.bool b), conds)) (hp : pathOk conds) (hno : orc f (vs.map .v) emptyH = none) : KnownC P f vs (.bool b) := by
  cases hc : callW P F orc L k f bs (vs.map .v) emptyH with
  | none => rw [hc] at hrun; cases hrun
  | some p =>
    obtain ⟨v, h', cs'⟩ := p
    rw [hc] at hrun
    simp only [Option.map_some, Option.some.injEq, Prod.mk.injEq] at hrun
    obtain ⟨rfl, rfl⟩ := hrun
    exact known_run hF ho (L := L) (k := k + 1) (by rw [callW_ok hc hp hno]; cases b <;> rfl)
theorem engineNone_known (kd wh ix : Int) (bs : Value) (hb : bs = .slice none 0 0 ∨ ∃ a n c, bs = .slice (some a) n c) : KnownC Go.Proofs.Tryz.prog 3 [.agg ⟨[.int .i64 kd, .int .i64 wh, .int .i64 ix, bs]⟩] (.bool true) := by
  rcases hb with rfl | ⟨a, n, c, rfl⟩
  · exact known_path ft_ok orcE_ok (none_nil kd wh ix) (by intro p hp; simp at hp; rcases hp with rfl | rfl | rfl | rfl | rfl | rfl | rfl <;> rfl) rfl
  · cases hd : fewB (.slice (some a) n c) with
    | true => exact known_path ft_ok orcE_ok (none_yes kd wh ix a n c) (by intro p hp; simp at hp; rcases hp with rfl | rfl | rfl | rfl | rfl | rfl | rfl <;> simp [hd]) rfl
    | false => exact known_path ft_ok orcE_ok (none_no kd wh ix a n c) (by intro p hp; simp at hp; rcases hp with rfl | rfl <;> simp [hd]) rfl
end Go.RE
