/- Part 14. -/
import Derived.Test.YtknhaomckfianaaGreatDoorProg
import Derived.KernelRfl
import Derived.Test.YtknhaomckfianaaGreatDoorP13
set_option linter.all false
namespace Go.Proofs.YtknhaomckfianaaGreatDoor
open Go.Sym
def Wi:aW Tryz.prog (Tab.of []) 100000 204 5 UP VY=true:=by kernel_rfl
def Wj:aW Tryz.prog (Tab.of []) 100000 133 5 UP VZ=true:=by kernel_rfl
def Wk:aW Tryz.prog (Tab.of []) 100000 204 5 UQ V1=true:=by kernel_rfl
def Wl:aW Tryz.prog (Tab.of []) 100000 133 5 UQ V2=true:=by kernel_rfl
def Wm:aW Tryz.prog (Tab.of []) 100000 204 5 UR V3=true:=by kernel_rfl
end Go.Proofs.YtknhaomckfianaaGreatDoor
