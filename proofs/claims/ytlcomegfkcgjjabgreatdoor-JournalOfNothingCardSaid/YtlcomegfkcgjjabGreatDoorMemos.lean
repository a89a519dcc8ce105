/- The calls told ahead, together. By program (mkmemo.py). -/
import Derived.Test.YtlcomegfkcgjjabGreatDoorMemo0
import Derived.Test.YtlcomegfkcgjjabGreatDoorMemo1
import Derived.Test.YtlcomegfkcgjjabGreatDoorMemo2
import Derived.Test.YtlcomegfkcgjjabGreatDoorMemo3
import Derived.Test.YtlcomegfkcgjjabGreatDoorMemo4
import Derived.Test.YtlcomegfkcgjjabGreatDoorMemo5
import Derived.Test.YtlcomegfkcgjjabGreatDoorMemo6
import Derived.Test.YtlcomegfkcgjjabGreatDoorMemo7
import Derived.Test.YtlcomegfkcgjjabGreatDoorMemo8
import Derived.Test.YtlcomegfkcgjjabGreatDoorMemo9
import Derived.Test.YtlcomegfkcgjjabGreatDoorMemo10
import Derived.Test.YtlcomegfkcgjjabGreatDoorMemo11
import Derived.Test.YtlcomegfkcgjjabGreatDoorMemo12
import Derived.Test.YtlcomegfkcgjjabGreatDoorMemo13
import Derived.Test.YtlcomegfkcgjjabGreatDoorMemo14
import Derived.Test.YtlcomegfkcgjjabGreatDoorMemo15
import Derived.Test.YtlcomegfkcgjjabGreatDoorMemo16
import Derived.Test.YtlcomegfkcgjjabGreatDoorMemo17
namespace Go.Proofs.YtlcomegfkcgjjabGreatDoor
open Go.Sim
def memos : List Memo := [.mk 67 (some 5) memoArg0 memoRes0, .mk 240 (some 5) memoArg1 memoRes1, .mk 67 (some 5) memoArg2 memoRes2, .mk 240 (some 5) memoArg3 memoRes3, .mk 67 (some 5) memoArg4 memoRes4, .mk 240 (some 5) memoArg5 memoRes5, .mk 67 (some 5) memoArg6 memoRes6, .mk 240 (some 5) memoArg7 memoRes7, .mk 67 (some 5) memoArg8 memoRes8, .mk 240 (some 5) memoArg9 memoRes9, .mk 67 (some 5) memoArg10 memoRes10, .mk 240 (some 5) memoArg11 memoRes11, .mk 67 (some 5) memoArg12 memoRes12, .mk 240 (some 5) memoArg13 memoRes13, .mk 98 (some 5) memoArg14 memoRes14, .mk 230 (some 5) memoArg15 memoRes15, .mk 98 (some 5) memoArg16 memoRes16, .mk 230 (some 5) memoArg17 memoRes17]
theorem memos_ok : ∀ m ∈ memos, MemoOk Tryz.prog m := by
  intro m h
  simp only [memos, List.mem_cons, List.not_mem_nil, or_false] at h
  rcases h with rfl | rfl | rfl | rfl | rfl | rfl | rfl | rfl | rfl | rfl | rfl | rfl | rfl | rfl | rfl | rfl | rfl | rfl
  · exact memo0
  · exact memo1
  · exact memo2
  · exact memo3
  · exact memo4
  · exact memo5
  · exact memo6
  · exact memo7
  · exact memo8
  · exact memo9
  · exact memo10
  · exact memo11
  · exact memo12
  · exact memo13
  · exact memo14
  · exact memo15
  · exact memo16
  · exact memo17
end Go.Proofs.YtlcomegfkcgjjabGreatDoor
