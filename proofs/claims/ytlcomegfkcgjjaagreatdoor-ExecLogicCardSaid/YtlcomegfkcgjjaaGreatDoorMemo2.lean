/- Calls told ahead: the law's closure 'told' at four texts. By program (mkmemo.py); run by the kernel. -/
import Derived.Test.YtlcomegfkcgjjaaGreatDoorChecked
import Derived.Test.YtlcomegfkcgjjaaGreatDoorSimV
import Derived.KernelRfl
namespace Go.Proofs.YtlcomegfkcgjjaaGreatDoor
open Go.Sim
def memoArg8 : List Nat := [110, 111, 116, 32, 102, 97, 108, 115, 101]
def memoRes8 : AV := .str [116, 114, 117, 101]
theorem memoRun8 : runsMemoS Tryz.prog [] 100000 5 memoArg8 memoRes8 = true := by kernel_rfl
theorem memo8 : MemoOk Tryz.prog (.mk 5 none memoArg8 memoRes8) := memoS_ok (noMemo _) memoRun8
def memoArg9 : List Nat := [110, 117, 108, 108, 32, 97, 110, 100, 32, 102, 97, 108, 115, 101]
def memoRes9 : AV := .str [102, 97, 108, 115, 101]
theorem memoRun9 : runsMemoS Tryz.prog [] 100000 5 memoArg9 memoRes9 = true := by kernel_rfl
theorem memo9 : MemoOk Tryz.prog (.mk 5 none memoArg9 memoRes9) := memoS_ok (noMemo _) memoRun9
def memoArg10 : List Nat := [110, 117, 108, 108, 32, 111, 114, 32, 102, 97, 108, 115, 101]
def memoRes10 : AV := .str [110, 117, 108, 108]
theorem memoRun10 : runsMemoS Tryz.prog [] 100000 5 memoArg10 memoRes10 = true := by kernel_rfl
theorem memo10 : MemoOk Tryz.prog (.mk 5 none memoArg10 memoRes10) := memoS_ok (noMemo _) memoRun10
def memoArg11 : List Nat := [110, 117, 108, 108, 32, 97, 110, 100, 32, 110, 117, 108, 108]
def memoRes11 : AV := .str [110, 117, 108, 108]
theorem memoRun11 : runsMemoS Tryz.prog [] 100000 5 memoArg11 memoRes11 = true := by kernel_rfl
theorem memo11 : MemoOk Tryz.prog (.mk 5 none memoArg11 memoRes11) := memoS_ok (noMemo _) memoRun11
end Go.Proofs.YtlcomegfkcgjjaaGreatDoor
