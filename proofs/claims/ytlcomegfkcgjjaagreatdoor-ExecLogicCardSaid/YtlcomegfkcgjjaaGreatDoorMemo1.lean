/- Calls told ahead: the law's closure 'told' at four texts. By program (mkmemo.py); run by the kernel. -/
import Derived.Test.YtlcomegfkcgjjaaGreatDoorChecked
import Derived.Test.YtlcomegfkcgjjaaGreatDoorSimV
import Derived.KernelRfl
namespace Go.Proofs.YtlcomegfkcgjjaaGreatDoor
open Go.Sim
def memoArg4 : List Nat := [102, 97, 108, 115, 101, 32, 97, 110, 100, 32, 123, 125, 46, 97]
def memoRes4 : AV := .str [102, 97, 108, 115, 101]
theorem memoRun4 : runsMemoS Tryz.prog [] 100000 5 memoArg4 memoRes4 = true := by kernel_rfl
theorem memo4 : MemoOk Tryz.prog (.mk 5 none memoArg4 memoRes4) := memoS_ok (noMemo _) memoRun4
def memoArg5 : List Nat := [102, 97, 108, 115, 101, 32, 111, 114, 32, 123, 125, 46, 97]
def memoRes5 : AV := .str [110, 117, 108, 108]
theorem memoRun5 : runsMemoS Tryz.prog [] 100000 5 memoArg5 memoRes5 = true := by kernel_rfl
theorem memo5 : MemoOk Tryz.prog (.mk 5 none memoArg5 memoRes5) := memoS_ok (noMemo _) memoRun5
def memoArg6 : List Nat := [102, 97, 108, 115, 101, 32, 97, 110, 100, 32, 116, 114, 117, 101]
def memoRes6 : AV := .str [102, 97, 108, 115, 101]
theorem memoRun6 : runsMemoS Tryz.prog [] 100000 5 memoArg6 memoRes6 = true := by kernel_rfl
theorem memo6 : MemoOk Tryz.prog (.mk 5 none memoArg6 memoRes6) := memoS_ok (noMemo _) memoRun6
def memoArg7 : List Nat := [102, 97, 108, 115, 101, 32, 111, 114, 32, 116, 114, 117, 101]
def memoRes7 : AV := .str [116, 114, 117, 101]
theorem memoRun7 : runsMemoS Tryz.prog [] 100000 5 memoArg7 memoRes7 = true := by kernel_rfl
theorem memo7 : MemoOk Tryz.prog (.mk 5 none memoArg7 memoRes7) := memoS_ok (noMemo _) memoRun7
end Go.Proofs.YtlcomegfkcgjjaaGreatDoor
