/- Calls told ahead: the law's closure 'told' at four texts. By program (mkmemo.py); run by the kernel. -/
import Derived.Test.YtlcomegfkcgjjaaGreatDoorChecked
import Derived.Test.YtlcomegfkcgjjaaGreatDoorSimV
import Derived.KernelRfl
namespace Go.Proofs.YtlcomegfkcgjjaaGreatDoor
open Go.Sim
def memoArg32 : List Nat := [116, 114, 117, 101, 32, 111, 114, 32, 123, 125, 46, 97]
def memoRes32 : AV := .str [116, 114, 117, 101]
theorem memoRun32 : runsMemoS Tryz.prog [] 100000 5 memoArg32 memoRes32 = true := by kernel_rfl
theorem memo32 : MemoOk Tryz.prog (.mk 5 none memoArg32 memoRes32) := memoS_ok (noMemo _) memoRun32
def memoArg33 : List Nat := [116, 114, 117, 101, 32, 97, 110, 100, 32, 116, 114, 117, 101]
def memoRes33 : AV := .str [116, 114, 117, 101]
theorem memoRun33 : runsMemoS Tryz.prog [] 100000 5 memoArg33 memoRes33 = true := by kernel_rfl
theorem memo33 : MemoOk Tryz.prog (.mk 5 none memoArg33 memoRes33) := memoS_ok (noMemo _) memoRun33
def memoArg34 : List Nat := [116, 114, 117, 101, 32, 111, 114, 32, 116, 114, 117, 101]
def memoRes34 : AV := .str [116, 114, 117, 101]
theorem memoRun34 : runsMemoS Tryz.prog [] 100000 5 memoArg34 memoRes34 = true := by kernel_rfl
theorem memo34 : MemoOk Tryz.prog (.mk 5 none memoArg34 memoRes34) := memoS_ok (noMemo _) memoRun34
def memoArg35 : List Nat := [110, 111, 116, 32, 116, 114, 117, 101]
def memoRes35 : AV := .str [102, 97, 108, 115, 101]
theorem memoRun35 : runsMemoS Tryz.prog [] 100000 5 memoArg35 memoRes35 = true := by kernel_rfl
theorem memo35 : MemoOk Tryz.prog (.mk 5 none memoArg35 memoRes35) := memoS_ok (noMemo _) memoRun35
end Go.Proofs.YtlcomegfkcgjjaaGreatDoor
