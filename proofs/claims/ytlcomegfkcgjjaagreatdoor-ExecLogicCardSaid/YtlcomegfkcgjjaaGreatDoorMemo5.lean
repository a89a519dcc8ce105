/- Calls told ahead: the law's closure 'told' at four texts. By program (mkmemo.py); run by the kernel. -/
import Derived.Test.YtlcomegfkcgjjaaGreatDoorChecked
import Derived.Test.YtlcomegfkcgjjaaGreatDoorSimV
import Derived.KernelRfl
namespace Go.Proofs.YtlcomegfkcgjjaaGreatDoor
open Go.Sim
def memoArg20 : List Nat := [123, 125, 46, 97, 32, 97, 110, 100, 32, 110, 117, 108, 108]
def memoRes20 : AV := .str [110, 117, 108, 108]
theorem memoRun20 : runsMemoS Tryz.prog [] 100000 5 memoArg20 memoRes20 = true := by kernel_rfl
theorem memo20 : MemoOk Tryz.prog (.mk 5 none memoArg20 memoRes20) := memoS_ok (noMemo _) memoRun20
def memoArg21 : List Nat := [123, 125, 46, 97, 32, 111, 114, 32, 110, 117, 108, 108]
def memoRes21 : AV := .str [110, 117, 108, 108]
theorem memoRun21 : runsMemoS Tryz.prog [] 100000 5 memoArg21 memoRes21 = true := by kernel_rfl
theorem memo21 : MemoOk Tryz.prog (.mk 5 none memoArg21 memoRes21) := memoS_ok (noMemo _) memoRun21
def memoArg22 : List Nat := [123, 125, 46, 97, 32, 97, 110, 100, 32, 123, 125, 46, 97]
def memoRes22 : AV := .str [110, 117, 108, 108]
theorem memoRun22 : runsMemoS Tryz.prog [] 100000 5 memoArg22 memoRes22 = true := by kernel_rfl
theorem memo22 : MemoOk Tryz.prog (.mk 5 none memoArg22 memoRes22) := memoS_ok (noMemo _) memoRun22
def memoArg23 : List Nat := [123, 125, 46, 97, 32, 111, 114, 32, 123, 125, 46, 97]
def memoRes23 : AV := .str [110, 117, 108, 108]
theorem memoRun23 : runsMemoS Tryz.prog [] 100000 5 memoArg23 memoRes23 = true := by kernel_rfl
theorem memo23 : MemoOk Tryz.prog (.mk 5 none memoArg23 memoRes23) := memoS_ok (noMemo _) memoRun23
end Go.Proofs.YtlcomegfkcgjjaaGreatDoor
