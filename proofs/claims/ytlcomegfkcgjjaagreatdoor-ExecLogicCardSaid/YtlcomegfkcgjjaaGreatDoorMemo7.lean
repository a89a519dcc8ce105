/- Calls told ahead: the law's closure 'told' at four texts. By program (mkmemo.py); run by the kernel. -/
import Derived.Test.YtlcomegfkcgjjaaGreatDoorChecked
import Derived.Test.YtlcomegfkcgjjaaGreatDoorSimV
import Derived.KernelRfl
namespace Go.Proofs.YtlcomegfkcgjjaaGreatDoor
open Go.Sim
def memoArg28 : List Nat := [116, 114, 117, 101, 32, 111, 114, 32, 102, 97, 108, 115, 101]
def memoRes28 : AV := .str [116, 114, 117, 101]
theorem memoRun28 : runsMemoS Tryz.prog [] 100000 5 memoArg28 memoRes28 = true := by kernel_rfl
theorem memo28 : MemoOk Tryz.prog (.mk 5 none memoArg28 memoRes28) := memoS_ok (noMemo _) memoRun28
def memoArg29 : List Nat := [116, 114, 117, 101, 32, 97, 110, 100, 32, 110, 117, 108, 108]
def memoRes29 : AV := .str [110, 117, 108, 108]
theorem memoRun29 : runsMemoS Tryz.prog [] 100000 5 memoArg29 memoRes29 = true := by kernel_rfl
theorem memo29 : MemoOk Tryz.prog (.mk 5 none memoArg29 memoRes29) := memoS_ok (noMemo _) memoRun29
def memoArg30 : List Nat := [116, 114, 117, 101, 32, 111, 114, 32, 110, 117, 108, 108]
def memoRes30 : AV := .str [116, 114, 117, 101]
theorem memoRun30 : runsMemoS Tryz.prog [] 100000 5 memoArg30 memoRes30 = true := by kernel_rfl
theorem memo30 : MemoOk Tryz.prog (.mk 5 none memoArg30 memoRes30) := memoS_ok (noMemo _) memoRun30
def memoArg31 : List Nat := [116, 114, 117, 101, 32, 97, 110, 100, 32, 123, 125, 46, 97]
def memoRes31 : AV := .str [110, 117, 108, 108]
theorem memoRun31 : runsMemoS Tryz.prog [] 100000 5 memoArg31 memoRes31 = true := by kernel_rfl
theorem memo31 : MemoOk Tryz.prog (.mk 5 none memoArg31 memoRes31) := memoS_ok (noMemo _) memoRun31
end Go.Proofs.YtlcomegfkcgjjaaGreatDoor
