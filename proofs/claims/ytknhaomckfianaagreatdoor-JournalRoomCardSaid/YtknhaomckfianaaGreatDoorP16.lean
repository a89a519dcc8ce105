/- Part 16. -/
import Derived.Test.YtknhaomckfianaaGreatDoorProg
import Derived.KernelRfl
import Derived.Test.YtknhaomckfianaaGreatDoorP13
set_option linter.all false
namespace Go.Proofs.YtknhaomckfianaaGreatDoor
open Go.Sym
def Vu:aW Tryz.prog (Tab.of []) 100000 204 5 UU T5=true:=by kernel_rfl
end Go.Proofs.YtknhaomckfianaaGreatDoor
