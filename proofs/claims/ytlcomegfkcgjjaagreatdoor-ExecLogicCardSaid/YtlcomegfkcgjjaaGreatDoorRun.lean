/- ExecLogic: the run, once for all pairs of ints. -/
import Derived.Test.YtlcomegfkcgjjaaGreatDoorMemos
namespace Go.Proofs.YtlcomegfkcgjjaaGreatDoor
open Go.Sim
theorem run_true : runsTrue Tryz.prog memos 100000 3 [.anyI .i64, .anyI .i64] .leaf 1 = true := by kernel_rfl
end Go.Proofs.YtlcomegfkcgjjaaGreatDoor
