/- A call told ahead: function 240 (a SHA-256 sum) at 40 bytes. By program (mkmemo.py); run by the kernel. -/
import Derived.Test.YtlcomegfkcgjjabGreatDoorChecked
import Derived.Test.YtlcomegfkcgjjabGreatDoorSimV
import Derived.KernelRfl
namespace Go.Proofs.YtlcomegfkcgjjabGreatDoor
open Go.Sim
def memoArg9 : List Nat := [0, 2, 1, 1, 0, 0, 0, 0, 4, 253, 89, 52, 123, 39, 166, 90, 64, 135, 176, 243, 2, 253, 209, 18, 20, 194, 9, 197, 58, 23, 9, 218, 200, 181, 38, 20, 244, 93, 237, 133]
def memoRes9 : AV := .agg [.int .u8 165, .int .u8 68, .int .u8 166, .int .u8 69, .int .u8 58, .int .u8 13, .int .u8 166, .int .u8 87, .int .u8 98, .int .u8 113, .int .u8 186, .int .u8 232, .int .u8 90, .int .u8 181, .int .u8 10, .int .u8 215, .int .u8 11, .int .u8 67, .int .u8 236, .int .u8 232, .int .u8 165, .int .u8 143, .int .u8 135, .int .u8 99, .int .u8 138, .int .u8 74, .int .u8 49, .int .u8 164, .int .u8 132, .int .u8 110, .int .u8 131, .int .u8 179]
theorem memoRun9 : runsMemoB Tryz.prog [] 100000 240 5 memoArg9 memoRes9 = true := by kernel_rfl
theorem memo9 : MemoOk Tryz.prog (.mk 240 (some 5) memoArg9 memoRes9) := memoB_ok (noMemo _) memoRun9
end Go.Proofs.YtlcomegfkcgjjabGreatDoor
