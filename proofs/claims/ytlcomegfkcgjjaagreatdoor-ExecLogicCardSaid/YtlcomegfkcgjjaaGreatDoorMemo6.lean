/- Calls told ahead: the law's closure 'told' at four texts. By program (mkmemo.py); run by the kernel. -/
import Derived.Test.YtlcomegfkcgjjaaGreatDoorChecked
import Derived.Test.YtlcomegfkcgjjaaGreatDoorSimV
import Derived.KernelRfl
namespace Go.Proofs.YtlcomegfkcgjjaaGreatDoor
open Go.Sim
def memoArg24 : List Nat := [123, 125, 46, 97, 32, 97, 110, 100, 32, 116, 114, 117, 101]
def memoRes24 : AV := .str [110, 117, 108, 108]
theorem memoRun24 : runsMemoS Tryz.prog [] 100000 5 memoArg24 memoRes24 = true := by kernel_rfl
theorem memo24 : MemoOk Tryz.prog (.mk 5 none memoArg24 memoRes24) := memoS_ok (noMemo _) memoRun24
def memoArg25 : List Nat := [123, 125, 46, 97, 32, 111, 114, 32, 116, 114, 117, 101]
def memoRes25 : AV := .str [116, 114, 117, 101]
theorem memoRun25 : runsMemoS Tryz.prog [] 100000 5 memoArg25 memoRes25 = true := by kernel_rfl
theorem memo25 : MemoOk Tryz.prog (.mk 5 none memoArg25 memoRes25) := memoS_ok (noMemo _) memoRun25
def memoArg26 : List Nat := [110, 111, 116, 32, 123, 125, 46, 97]
def memoRes26 : AV := .str [110, 117, 108, 108]
theorem memoRun26 : runsMemoS Tryz.prog [] 100000 5 memoArg26 memoRes26 = true := by kernel_rfl
theorem memo26 : MemoOk Tryz.prog (.mk 5 none memoArg26 memoRes26) := memoS_ok (noMemo _) memoRun26
def memoArg27 : List Nat := [116, 114, 117, 101, 32, 97, 110, 100, 32, 102, 97, 108, 115, 101]
def memoRes27 : AV := .str [102, 97, 108, 115, 101]
theorem memoRun27 : runsMemoS Tryz.prog [] 100000 5 memoArg27 memoRes27 = true := by kernel_rfl
theorem memo27 : MemoOk Tryz.prog (.mk 5 none memoArg27 memoRes27) := memoS_ok (noMemo _) memoRun27
end Go.Proofs.YtlcomegfkcgjjaaGreatDoor
