/- Part 20. -/
import Derived.Test.YtknhaomckfianaaGreatDoorProg
import Derived.KernelRfl
import Derived.Test.YtknhaomckfianaaGreatDoorP13
set_option linter.all false
namespace Go.Proofs.YtknhaomckfianaaGreatDoor
open Go.Sym
def Vy:aW Tryz.prog (Tab.of []) 100000 121 5 UW T9=true:=by kernel_rfl
def Vz:aW Tryz.prog (Tab.of []) 100000 164 5 UW T_=true:=by kernel_rfl
def VA:aW Tryz.prog (Tab.of []) 100000 121 5 UX Ua=true:=by kernel_rfl
def VB:aW Tryz.prog (Tab.of []) 100000 164 5 UX Ub=true:=by kernel_rfl
end Go.Proofs.YtknhaomckfianaaGreatDoor
