/- The calls told ahead, together. By program (mkmemo.py). -/
import Derived.Test.YtlcomegfkcgjjaaGreatDoorKnown
import Derived.Test.YtlcomegfkcgjjaaGreatDoorMemo0
import Derived.Test.YtlcomegfkcgjjaaGreatDoorMemo1
import Derived.Test.YtlcomegfkcgjjaaGreatDoorMemo2
import Derived.Test.YtlcomegfkcgjjaaGreatDoorMemo3
import Derived.Test.YtlcomegfkcgjjaaGreatDoorMemo4
import Derived.Test.YtlcomegfkcgjjaaGreatDoorMemo5
import Derived.Test.YtlcomegfkcgjjaaGreatDoorMemo6
import Derived.Test.YtlcomegfkcgjjaaGreatDoorMemo7
import Derived.Test.YtlcomegfkcgjjaaGreatDoorMemo8
namespace Go.Proofs.YtlcomegfkcgjjaaGreatDoor
open Go.Sim
def memos : List Memo := [.mk 8 (some 0) [] (.bool true), .mk 5 none memoArg0 memoRes0, .mk 5 none memoArg1 memoRes1, .mk 5 none memoArg2 memoRes2, .mk 5 none memoArg3 memoRes3, .mk 5 none memoArg4 memoRes4, .mk 5 none memoArg5 memoRes5, .mk 5 none memoArg6 memoRes6, .mk 5 none memoArg7 memoRes7, .mk 5 none memoArg8 memoRes8, .mk 5 none memoArg9 memoRes9, .mk 5 none memoArg10 memoRes10, .mk 5 none memoArg11 memoRes11, .mk 5 none memoArg12 memoRes12, .mk 5 none memoArg13 memoRes13, .mk 5 none memoArg14 memoRes14, .mk 5 none memoArg15 memoRes15, .mk 5 none memoArg16 memoRes16, .mk 5 none memoArg17 memoRes17, .mk 5 none memoArg18 memoRes18, .mk 5 none memoArg19 memoRes19, .mk 5 none memoArg20 memoRes20, .mk 5 none memoArg21 memoRes21, .mk 5 none memoArg22 memoRes22, .mk 5 none memoArg23 memoRes23, .mk 5 none memoArg24 memoRes24, .mk 5 none memoArg25 memoRes25, .mk 5 none memoArg26 memoRes26, .mk 5 none memoArg27 memoRes27, .mk 5 none memoArg28 memoRes28, .mk 5 none memoArg29 memoRes29, .mk 5 none memoArg30 memoRes30, .mk 5 none memoArg31 memoRes31, .mk 5 none memoArg32 memoRes32, .mk 5 none memoArg33 memoRes33, .mk 5 none memoArg34 memoRes34, .mk 5 none memoArg35 memoRes35]
theorem memos_ok : ∀ m ∈ memos, MemoOk Tryz.prog m := by
  intro m h
  simp only [memos, List.mem_cons, List.not_mem_nil, or_false] at h
  rcases h with rfl | rfl | rfl | rfl | rfl | rfl | rfl | rfl | rfl | rfl | rfl | rfl | rfl | rfl | rfl | rfl | rfl | rfl | rfl | rfl | rfl | rfl | rfl | rfl | rfl | rfl | rfl | rfl | rfl | rfl | rfl | rfl | rfl | rfl | rfl | rfl | rfl
  · exact knownMemo
  · exact memo0
  · exact memo1
  · exact memo2
  · exact memo3
  · exact memo4
  · exact memo5
  · exact memo6
  · exact memo7
  · exact memo8
  · exact memo9
  · exact memo10
  · exact memo11
  · exact memo12
  · exact memo13
  · exact memo14
  · exact memo15
  · exact memo16
  · exact memo17
  · exact memo18
  · exact memo19
  · exact memo20
  · exact memo21
  · exact memo22
  · exact memo23
  · exact memo24
  · exact memo25
  · exact memo26
  · exact memo27
  · exact memo28
  · exact memo29
  · exact memo30
  · exact memo31
  · exact memo32
  · exact memo33
  · exact memo34
  · exact memo35
end Go.Proofs.YtlcomegfkcgjjaaGreatDoor
