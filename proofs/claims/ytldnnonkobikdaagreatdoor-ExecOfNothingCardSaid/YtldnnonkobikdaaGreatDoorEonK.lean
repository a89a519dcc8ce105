/- A call told ahead: 'known' (function 9); run by the kernel. -/
import Derived.Test.YtldnnonkobikdaaGreatDoorProg
import Derived.Test.YtldnnonkobikdaaGreatDoorSymU
import Derived.KernelRfl
namespace Go.Proofs.YtldnnonkobikdaaGreatDoor
open Go.Sym
theorem knownRun : runsMemo0 Tryz.prog (Tab.of []) 100000 9 (.bool true) = true := by kernel_rfl
theorem knownMemo : MemoOk Tryz.prog (.mk 9 (some 0) [] (.bool true)) := memo0_ok (noTab _) knownRun
end Go.Proofs.YtldnnonkobikdaaGreatDoor
