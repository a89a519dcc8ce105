/- A call told ahead: 'known' (function 8). By program (mkmemo.py); run by the kernel. -/
import Derived.Test.YtlcomegfkcgjjaaGreatDoorChecked
import Derived.Test.YtlcomegfkcgjjaaGreatDoorSimV
import Derived.KernelRfl
namespace Go.Proofs.YtlcomegfkcgjjaaGreatDoor
open Go.Sim
theorem knownRun : runsMemo0 Tryz.prog [] 100000 8 (.bool true) = true := by kernel_rfl
theorem knownMemo : MemoOk Tryz.prog (.mk 8 (some 0) [] (.bool true)) := memo0_ok (noMemo _) knownRun
end Go.Proofs.YtlcomegfkcgjjaaGreatDoor
