/- A call told ahead: function 67 (a SHA-256 sum) at 3 bytes. By program (mkmemo.py); run by the kernel. -/
import Derived.Test.YtlcomegfkcgjjabGreatDoorChecked
import Derived.Test.YtlcomegfkcgjjabGreatDoorSimV
import Derived.KernelRfl
namespace Go.Proofs.YtlcomegfkcgjjabGreatDoor
open Go.Sim
def memoArg0 : List Nat := [0, 3, 10]
def memoRes0 : AV := .agg [.int .u8 4, .int .u8 253, .int .u8 89, .int .u8 52, .int .u8 123, .int .u8 39, .int .u8 166, .int .u8 90, .int .u8 64, .int .u8 135, .int .u8 176, .int .u8 243, .int .u8 2, .int .u8 253, .int .u8 209, .int .u8 18, .int .u8 20, .int .u8 194, .int .u8 9, .int .u8 197, .int .u8 58, .int .u8 23, .int .u8 9, .int .u8 218, .int .u8 200, .int .u8 181, .int .u8 38, .int .u8 20, .int .u8 244, .int .u8 93, .int .u8 237, .int .u8 133]
theorem memoRun0 : runsMemoB Tryz.prog [] 100000 67 5 memoArg0 memoRes0 = true := by kernel_rfl
theorem memo0 : MemoOk Tryz.prog (.mk 67 (some 5) memoArg0 memoRes0) := memoB_ok (noMemo _) memoRun0
end Go.Proofs.YtlcomegfkcgjjabGreatDoor
