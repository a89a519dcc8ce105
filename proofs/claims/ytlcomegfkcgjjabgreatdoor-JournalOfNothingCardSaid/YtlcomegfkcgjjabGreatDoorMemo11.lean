/- A call told ahead: function 240 (a SHA-256 sum) at 65 bytes. By program (mkmemo.py); run by the kernel. -/
import Derived.Test.YtlcomegfkcgjjabGreatDoorChecked
import Derived.Test.YtlcomegfkcgjjabGreatDoorSimV
import Derived.KernelRfl
namespace Go.Proofs.YtlcomegfkcgjjabGreatDoor
open Go.Sim
def memoArg11 : List Nat := [1, 0, 141, 19, 106, 152, 6, 58, 191, 94, 80, 45, 177, 56, 88, 194, 151, 245, 82, 33, 119, 70, 75, 240, 63, 162, 138, 99, 19, 29, 171, 88, 254, 3, 32, 57, 50, 57, 138, 165, 87, 159, 233, 248, 2, 154, 151, 101, 108, 148, 243, 175, 153, 181, 68, 91, 73, 147, 40, 43, 6, 83, 14, 232, 211]
def memoRes11 : AV := .agg [.int .u8 156, .int .u8 110, .int .u8 72, .int .u8 57, .int .u8 128, .int .u8 65, .int .u8 130, .int .u8 239, .int .u8 244, .int .u8 183, .int .u8 30, .int .u8 178, .int .u8 183, .int .u8 114, .int .u8 50, .int .u8 70, .int .u8 207, .int .u8 120, .int .u8 154, .int .u8 243, .int .u8 153, .int .u8 130, .int .u8 96, .int .u8 90, .int .u8 128, .int .u8 60, .int .u8 22, .int .u8 111, .int .u8 207, .int .u8 138, .int .u8 119, .int .u8 228]
theorem memoRun11 : runsMemoB Tryz.prog [] 100000 240 5 memoArg11 memoRes11 = true := by kernel_rfl
theorem memo11 : MemoOk Tryz.prog (.mk 240 (some 5) memoArg11 memoRes11) := memoB_ok (noMemo _) memoRun11
end Go.Proofs.YtlcomegfkcgjjabGreatDoor
