/- Part 15. -/
import Derived.Test.YtknhaomckfianaaGreatDoorProg
import Derived.KernelRfl
import Derived.Test.YtknhaomckfianaaGreatDoorP13
set_option linter.all false
namespace Go.Proofs.YtknhaomckfianaaGreatDoor
open Go.Sym
def Wn:aW Tryz.prog (Tab.of []) 100000 133 5 UR V4=true:=by kernel_rfl
def Wo:aW Tryz.prog (Tab.of []) 100000 204 5 US V5=true:=by kernel_rfl
def Wp:aW Tryz.prog (Tab.of []) 100000 133 5 US V6=true:=by kernel_rfl
def Wq:aW Tryz.prog (Tab.of []) 100000 204 5 UT V7=true:=by kernel_rfl
def Wr:aW Tryz.prog (Tab.of []) 100000 133 5 UT V9=true:=by kernel_rfl
end Go.Proofs.YtknhaomckfianaaGreatDoor
