/- Part 18. -/
import Derived.Test.YtknhaomckfianaaGreatDoorProg
import Derived.KernelRfl
import Derived.Test.YtknhaomckfianaaGreatDoorP13
set_option linter.all false
namespace Go.Proofs.YtknhaomckfianaaGreatDoor
open Go.Sym
def Vw:aW Tryz.prog (Tab.of []) 100000 204 5 UV T7=true:=by kernel_rfl
end Go.Proofs.YtknhaomckfianaaGreatDoor
