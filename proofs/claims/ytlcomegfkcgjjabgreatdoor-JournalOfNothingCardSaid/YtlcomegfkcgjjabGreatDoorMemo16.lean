/- A call told ahead: function 98 (a CRC-32) at 92 bytes. By program (mkmemo.py); run by the kernel. -/
import Derived.Test.YtlcomegfkcgjjabGreatDoorChecked
import Derived.Test.YtlcomegfkcgjjabGreatDoorSimV
import Derived.KernelRfl
namespace Go.Proofs.YtlcomegfkcgjjabGreatDoor
open Go.Sim
def memoArg16 : List Nat := [0, 0, 0, 84, 77, 66, 74, 241, 0, 0, 1, 0, 0, 0, 0, 0, 0, 0, 0, 0, 0, 0, 0, 0, 0, 0, 0, 0, 0, 0, 0, 0, 0, 0, 0, 0, 0, 0, 0, 0, 0, 0, 0, 2, 1, 0, 0, 0, 1, 115, 0, 0, 2, 1, 1, 0, 0, 0, 0, 4, 253, 89, 52, 123, 39, 166, 90, 64, 135, 176, 243, 2, 253, 209, 18, 20, 194, 9, 197, 58, 23, 9, 218, 200, 181, 38, 20, 244, 93, 237, 133, 0]
def memoRes16 : AV := .int .u32 476351375
theorem memoRun16 : runsMemoB Tryz.prog [] 100000 98 5 memoArg16 memoRes16 = true := by kernel_rfl
theorem memo16 : MemoOk Tryz.prog (.mk 98 (some 5) memoArg16 memoRes16) := memoB_ok (noMemo _) memoRun16
end Go.Proofs.YtlcomegfkcgjjabGreatDoor
