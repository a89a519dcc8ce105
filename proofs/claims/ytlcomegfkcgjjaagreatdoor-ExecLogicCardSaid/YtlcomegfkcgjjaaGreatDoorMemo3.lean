/- Calls told ahead: the law's closure 'told' at four texts. By program (mkmemo.py); run by the kernel. -/
import Derived.Test.YtlcomegfkcgjjaaGreatDoorChecked
import Derived.Test.YtlcomegfkcgjjaaGreatDoorSimV
import Derived.KernelRfl
namespace Go.Proofs.YtlcomegfkcgjjaaGreatDoor
open Go.Sim
def memoArg12 : List Nat := [110, 117, 108, 108, 32, 111, 114, 32, 110, 117, 108, 108]
def memoRes12 : AV := .str [110, 117, 108, 108]
theorem memoRun12 : runsMemoS Tryz.prog [] 100000 5 memoArg12 memoRes12 = true := by kernel_rfl
theorem memo12 : MemoOk Tryz.prog (.mk 5 none memoArg12 memoRes12) := memoS_ok (noMemo _) memoRun12
def memoArg13 : List Nat := [110, 117, 108, 108, 32, 97, 110, 100, 32, 123, 125, 46, 97]
def memoRes13 : AV := .str [110, 117, 108, 108]
theorem memoRun13 : runsMemoS Tryz.prog [] 100000 5 memoArg13 memoRes13 = true := by kernel_rfl
theorem memo13 : MemoOk Tryz.prog (.mk 5 none memoArg13 memoRes13) := memoS_ok (noMemo _) memoRun13
def memoArg14 : List Nat := [110, 117, 108, 108, 32, 111, 114, 32, 123, 125, 46, 97]
def memoRes14 : AV := .str [110, 117, 108, 108]
theorem memoRun14 : runsMemoS Tryz.prog [] 100000 5 memoArg14 memoRes14 = true := by kernel_rfl
theorem memo14 : MemoOk Tryz.prog (.mk 5 none memoArg14 memoRes14) := memoS_ok (noMemo _) memoRun14
def memoArg15 : List Nat := [110, 117, 108, 108, 32, 97, 110, 100, 32, 116, 114, 117, 101]
def memoRes15 : AV := .str [110, 117, 108, 108]
theorem memoRun15 : runsMemoS Tryz.prog [] 100000 5 memoArg15 memoRes15 = true := by kernel_rfl
theorem memo15 : MemoOk Tryz.prog (.mk 5 none memoArg15 memoRes15) := memoS_ok (noMemo _) memoRun15
end Go.Proofs.YtlcomegfkcgjjaaGreatDoor
