/- A call told ahead: function 67 (a SHA-256 sum) at 65 bytes. By program (mkmemo.py); run by the kernel. -/
import Derived.Test.YtlcomegfkcgjjabGreatDoorChecked
import Derived.Test.YtlcomegfkcgjjabGreatDoorSimV
import Derived.KernelRfl
namespace Go.Proofs.YtlcomegfkcgjjabGreatDoor
open Go.Sim
def memoArg12 : List Nat := [1, 134, 143, 172, 207, 15, 26, 206, 181, 123, 234, 102, 151, 107, 200, 183, 92, 171, 23, 131, 185, 183, 84, 58, 6, 217, 47, 253, 224, 187, 134, 218, 218, 165, 68, 166, 69, 58, 13, 166, 87, 98, 113, 186, 232, 90, 181, 10, 215, 11, 67, 236, 232, 165, 143, 135, 99, 138, 74, 49, 164, 132, 110, 131, 179]
def memoRes12 : AV := .agg [.int .u8 165, .int .u8 94, .int .u8 22, .int .u8 167, .int .u8 68, .int .u8 56, .int .u8 122, .int .u8 77, .int .u8 196, .int .u8 27, .int .u8 124, .int .u8 242, .int .u8 236, .int .u8 205, .int .u8 16, .int .u8 45, .int .u8 209, .int .u8 220, .int .u8 140, .int .u8 105, .int .u8 86, .int .u8 40, .int .u8 169, .int .u8 81, .int .u8 29, .int .u8 162, .int .u8 115, .int .u8 205, .int .u8 7, .int .u8 75, .int .u8 77, .int .u8 71]
theorem memoRun12 : runsMemoB Tryz.prog [] 100000 67 5 memoArg12 memoRes12 = true := by kernel_rfl
theorem memo12 : MemoOk Tryz.prog (.mk 67 (some 5) memoArg12 memoRes12) := memoB_ok (noMemo _) memoRun12
end Go.Proofs.YtlcomegfkcgjjabGreatDoor
