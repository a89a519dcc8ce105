/- A call told ahead: function 67 (a SHA-256 sum) at 34 bytes. By program (mkmemo.py); run by the kernel. -/
import Derived.Test.YtlcomegfkcgjjabGreatDoorChecked
import Derived.Test.YtlcomegfkcgjjabGreatDoorSimV
import Derived.KernelRfl
namespace Go.Proofs.YtlcomegfkcgjjabGreatDoor
open Go.Sim
def memoArg4 : List Nat := [2, 165, 94, 22, 167, 68, 56, 122, 77, 196, 27, 124, 242, 236, 205, 16, 45, 209, 220, 140, 105, 86, 40, 169, 81, 29, 162, 115, 205, 7, 75, 77, 71, 2]
def memoRes4 : AV := .agg [.int .u8 3, .int .u8 32, .int .u8 57, .int .u8 50, .int .u8 57, .int .u8 138, .int .u8 165, .int .u8 87, .int .u8 159, .int .u8 233, .int .u8 248, .int .u8 2, .int .u8 154, .int .u8 151, .int .u8 101, .int .u8 108, .int .u8 148, .int .u8 243, .int .u8 175, .int .u8 153, .int .u8 181, .int .u8 68, .int .u8 91, .int .u8 73, .int .u8 147, .int .u8 40, .int .u8 43, .int .u8 6, .int .u8 83, .int .u8 14, .int .u8 232, .int .u8 211]
theorem memoRun4 : runsMemoB Tryz.prog [] 100000 67 5 memoArg4 memoRes4 = true := by kernel_rfl
theorem memo4 : MemoOk Tryz.prog (.mk 67 (some 5) memoArg4 memoRes4) := memoB_ok (noMemo _) memoRun4
end Go.Proofs.YtlcomegfkcgjjabGreatDoor
