/- A call told ahead: function 98 (a CRC-32) at 12 bytes. By program (mkmemo.py); run by the kernel. -/
import Derived.Test.YtlcomegfkcgjjabGreatDoorChecked
import Derived.Test.YtlcomegfkcgjjabGreatDoorSimV
import Derived.KernelRfl
namespace Go.Proofs.YtlcomegfkcgjjabGreatDoor
open Go.Sim
def memoArg14 : List Nat := [0, 0, 0, 4, 38, 41, 27, 5, 1, 2, 3, 10]
def memoRes14 : AV := .int .u32 2452943875
theorem memoRun14 : runsMemoB Tryz.prog [] 100000 98 5 memoArg14 memoRes14 = true := by kernel_rfl
theorem memo14 : MemoOk Tryz.prog (.mk 98 (some 5) memoArg14 memoRes14) := memoB_ok (noMemo _) memoRun14
end Go.Proofs.YtlcomegfkcgjjabGreatDoor
