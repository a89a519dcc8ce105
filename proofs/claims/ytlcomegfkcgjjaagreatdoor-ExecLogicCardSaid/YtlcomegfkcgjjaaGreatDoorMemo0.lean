/- Calls told ahead: the law's closure 'told' at four texts. By program (mkmemo.py); run by the kernel. -/
import Derived.Test.YtlcomegfkcgjjaaGreatDoorChecked
import Derived.Test.YtlcomegfkcgjjaaGreatDoorSimV
import Derived.KernelRfl
namespace Go.Proofs.YtlcomegfkcgjjaaGreatDoor
open Go.Sim
def memoArg0 : List Nat := [102, 97, 108, 115, 101, 32, 97, 110, 100, 32, 102, 97, 108, 115, 101]
def memoRes0 : AV := .str [102, 97, 108, 115, 101]
theorem memoRun0 : runsMemoS Tryz.prog [] 100000 5 memoArg0 memoRes0 = true := by kernel_rfl
theorem memo0 : MemoOk Tryz.prog (.mk 5 none memoArg0 memoRes0) := memoS_ok (noMemo _) memoRun0
def memoArg1 : List Nat := [102, 97, 108, 115, 101, 32, 111, 114, 32, 102, 97, 108, 115, 101]
def memoRes1 : AV := .str [102, 97, 108, 115, 101]
theorem memoRun1 : runsMemoS Tryz.prog [] 100000 5 memoArg1 memoRes1 = true := by kernel_rfl
theorem memo1 : MemoOk Tryz.prog (.mk 5 none memoArg1 memoRes1) := memoS_ok (noMemo _) memoRun1
def memoArg2 : List Nat := [102, 97, 108, 115, 101, 32, 97, 110, 100, 32, 110, 117, 108, 108]
def memoRes2 : AV := .str [102, 97, 108, 115, 101]
theorem memoRun2 : runsMemoS Tryz.prog [] 100000 5 memoArg2 memoRes2 = true := by kernel_rfl
theorem memo2 : MemoOk Tryz.prog (.mk 5 none memoArg2 memoRes2) := memoS_ok (noMemo _) memoRun2
def memoArg3 : List Nat := [102, 97, 108, 115, 101, 32, 111, 114, 32, 110, 117, 108, 108]
def memoRes3 : AV := .str [110, 117, 108, 108]
theorem memoRun3 : runsMemoS Tryz.prog [] 100000 5 memoArg3 memoRes3 = true := by kernel_rfl
theorem memo3 : MemoOk Tryz.prog (.mk 5 none memoArg3 memoRes3) := memoS_ok (noMemo _) memoRun3
end Go.Proofs.YtlcomegfkcgjjaaGreatDoor
