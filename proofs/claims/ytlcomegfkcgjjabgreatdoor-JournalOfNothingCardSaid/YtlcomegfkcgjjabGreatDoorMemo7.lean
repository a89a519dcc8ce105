/- A call told ahead: function 240 (a SHA-256 sum) at 35 bytes. By program (mkmemo.py); run by the kernel. -/
import Derived.Test.YtlcomegfkcgjjabGreatDoorChecked
import Derived.Test.YtlcomegfkcgjjabGreatDoorSimV
import Derived.KernelRfl
namespace Go.Proofs.YtlcomegfkcgjjabGreatDoor
open Go.Sim
def memoArg7 : List Nat := [0, 0, 1, 0, 0, 0, 0, 0, 0, 0, 0, 0, 0, 0, 0, 0, 0, 0, 0, 0, 0, 0, 0, 0, 0, 0, 0, 0, 0, 0, 0, 0, 0, 0, 0]
def memoRes7 : AV := .agg [.int .u8 0, .int .u8 141, .int .u8 19, .int .u8 106, .int .u8 152, .int .u8 6, .int .u8 58, .int .u8 191, .int .u8 94, .int .u8 80, .int .u8 45, .int .u8 177, .int .u8 56, .int .u8 88, .int .u8 194, .int .u8 151, .int .u8 245, .int .u8 82, .int .u8 33, .int .u8 119, .int .u8 70, .int .u8 75, .int .u8 240, .int .u8 63, .int .u8 162, .int .u8 138, .int .u8 99, .int .u8 19, .int .u8 29, .int .u8 171, .int .u8 88, .int .u8 254]
theorem memoRun7 : runsMemoB Tryz.prog [] 100000 240 5 memoArg7 memoRes7 = true := by kernel_rfl
theorem memo7 : MemoOk Tryz.prog (.mk 240 (some 5) memoArg7 memoRes7) := memoB_ok (noMemo _) memoRun7
end Go.Proofs.YtlcomegfkcgjjabGreatDoor
