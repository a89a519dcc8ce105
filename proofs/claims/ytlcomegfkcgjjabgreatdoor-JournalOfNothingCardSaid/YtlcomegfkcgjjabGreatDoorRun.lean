/- JournalOfNothing: the run, once for all arguments: the struct's 35 first cells and the int are never looked into; two tables of the library are read. -/
import Derived.Test.YtlcomegfkcgjjabGreatDoorMemos
namespace Go.Proofs.YtlcomegfkcgjjabGreatDoor
open Go.Sim
def tab64 : List Nat := [0, 1, 56, 2, 57, 49, 28, 3, 61, 58, 42, 50, 38, 29, 17, 4, 62, 47, 59, 36, 45, 43, 51, 22, 53, 39, 33, 30, 24, 18, 12, 5, 63, 55, 48, 27, 60, 41, 37, 16, 46, 35, 44, 21, 52, 32, 23, 11, 54, 26, 40, 15, 34, 20, 31, 10, 25, 14, 19, 9, 13, 8, 7, 6]
/-- The two tables as read-only blocks; their types are not looked into. -/
noncomputable def tables (t0 t1 : Nat) (k : T ABlk → Bool) : Bool :=
  byteRow tab64 0 .leaf fun t => T.setK .leaf 0 (.cells t 0 0 64 0 0 true t0) fun H => T.setK .leaf 0 (.mk 0 (.opc 37)) fun c => T.setK H 1 (.cells c 0 0 1 0 0 true t1) k
def args : List AV := [.agg [.opq 0, .opq 1, .opq 2, .opq 3, .opq 4, .opq 5, .opq 6, .opq 7, .opq 8, .opq 9, .opq 10, .opq 11, .opq 12, .opq 13, .opq 14, .opq 15, .opq 16, .opq 17, .opq 18, .opq 19, .opq 20, .opq 21, .opq 22, .opq 23, .opq 24, .opq 25, .opq 26, .opq 27, .opq 28, .opq 29, .opq 30, .opq 31, .opq 32, .opq 33, .opq 34, .osl 35], .opq 36]
theorem run_all (t0 t1 : Nat) : (tables t0 t1 fun H => runsTrue Tryz.prog memos 100000 3 args H 7) = true := by kernel_rfl
end Go.Proofs.YtlcomegfkcgjjabGreatDoor
