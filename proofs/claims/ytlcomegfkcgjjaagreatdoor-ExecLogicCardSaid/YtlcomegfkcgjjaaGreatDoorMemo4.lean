/- Calls told ahead: the law's closure 'told' at four texts. By program (mkmemo.py); run by the kernel. -/
import Derived.Test.YtlcomegfkcgjjaaGreatDoorChecked
import Derived.Test.YtlcomegfkcgjjaaGreatDoorSimV
import Derived.KernelRfl
namespace Go.Proofs.YtlcomegfkcgjjaaGreatDoor
open Go.Sim
def memoArg16 : List Nat := [110, 117, 108, 108, 32, 111, 114, 32, 116, 114, 117, 101]
def memoRes16 : AV := .str [116, 114, 117, 101]
theorem memoRun16 : runsMemoS Tryz.prog [] 100000 5 memoArg16 memoRes16 = true := by kernel_rfl
theorem memo16 : MemoOk Tryz.prog (.mk 5 none memoArg16 memoRes16) := memoS_ok (noMemo _) memoRun16
def memoArg17 : List Nat := [110, 111, 116, 32, 110, 117, 108, 108]
def memoRes17 : AV := .str [110, 117, 108, 108]
theorem memoRun17 : runsMemoS Tryz.prog [] 100000 5 memoArg17 memoRes17 = true := by kernel_rfl
theorem memo17 : MemoOk Tryz.prog (.mk 5 none memoArg17 memoRes17) := memoS_ok (noMemo _) memoRun17
def memoArg18 : List Nat := [123, 125, 46, 97, 32, 97, 110, 100, 32, 102, 97, 108, 115, 101]
def memoRes18 : AV := .str [102, 97, 108, 115, 101]
theorem memoRun18 : runsMemoS Tryz.prog [] 100000 5 memoArg18 memoRes18 = true := by kernel_rfl
theorem memo18 : MemoOk Tryz.prog (.mk 5 none memoArg18 memoRes18) := memoS_ok (noMemo _) memoRun18
def memoArg19 : List Nat := [123, 125, 46, 97, 32, 111, 114, 32, 102, 97, 108, 115, 101]
def memoRes19 : AV := .str [110, 117, 108, 108]
theorem memoRun19 : runsMemoS Tryz.prog [] 100000 5 memoArg19 memoRes19 = true := by kernel_rfl
theorem memo19 : MemoOk Tryz.prog (.mk 5 none memoArg19 memoRes19) := memoS_ok (noMemo _) memoRun19
end Go.Proofs.YtlcomegfkcgjjaaGreatDoor
