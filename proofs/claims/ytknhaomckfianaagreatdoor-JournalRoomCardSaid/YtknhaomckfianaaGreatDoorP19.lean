/- Part 19. -/
import Derived.Test.YtknhaomckfianaaGreatDoorProg
import Derived.KernelRfl
import Derived.Test.YtknhaomckfianaaGreatDoorP13
set_option linter.all false
namespace Go.Proofs.YtknhaomckfianaaGreatDoor
open Go.Sym
def Vx:aW Tryz.prog (Tab.of []) 100000 133 5 UV T8=true:=by kernel_rfl
end Go.Proofs.YtknhaomckfianaaGreatDoor
