/- A call told ahead: function 230 (a CRC-32) at 12 bytes. By program (mkmemo.py); run by the kernel. -/
import Derived.Test.YtlcomegfkcgjjabGreatDoorChecked
import Derived.Test.YtlcomegfkcgjjabGreatDoorSimV
import Derived.KernelRfl
namespace Go.Proofs.YtlcomegfkcgjjabGreatDoor
open Go.Sim
def memoArg15 : List Nat := [0, 0, 0, 4, 38, 41, 27, 5, 1, 2, 3, 10]
def memoRes15 : AV := .int .u32 2452943875
theorem memoRun15 : runsMemoB Tryz.prog [] 100000 230 5 memoArg15 memoRes15 = true := by kernel_rfl
theorem memo15 : MemoOk Tryz.prog (.mk 230 (some 5) memoArg15 memoRes15) := memoB_ok (noMemo _) memoRun15
end Go.Proofs.YtlcomegfkcgjjabGreatDoor
