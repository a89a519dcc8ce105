/- A call told ahead: function 240 (a SHA-256 sum) at 9 bytes. By program (mkmemo.py); run by the kernel. -/
import Derived.Test.YtlcomegfkcgjjabGreatDoorChecked
import Derived.Test.YtlcomegfkcgjjabGreatDoorSimV
import Derived.KernelRfl
namespace Go.Proofs.YtlcomegfkcgjjabGreatDoor
open Go.Sim
def memoArg3 : List Nat := [0, 1, 0, 0, 0, 1, 115, 0, 0]
def memoRes3 : AV := .agg [.int .u8 134, .int .u8 143, .int .u8 172, .int .u8 207, .int .u8 15, .int .u8 26, .int .u8 206, .int .u8 181, .int .u8 123, .int .u8 234, .int .u8 102, .int .u8 151, .int .u8 107, .int .u8 200, .int .u8 183, .int .u8 92, .int .u8 171, .int .u8 23, .int .u8 131, .int .u8 185, .int .u8 183, .int .u8 84, .int .u8 58, .int .u8 6, .int .u8 217, .int .u8 47, .int .u8 253, .int .u8 224, .int .u8 187, .int .u8 134, .int .u8 218, .int .u8 218]
theorem memoRun3 : runsMemoB Tryz.prog [] 100000 240 5 memoArg3 memoRes3 = true := by kernel_rfl
theorem memo3 : MemoOk Tryz.prog (.mk 240 (some 5) memoArg3 memoRes3) := memoB_ok (noMemo _) memoRun3
end Go.Proofs.YtlcomegfkcgjjabGreatDoor
