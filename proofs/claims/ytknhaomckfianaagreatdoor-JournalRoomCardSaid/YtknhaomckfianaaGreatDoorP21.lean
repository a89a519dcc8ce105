/- Part 21. -/
import Derived.Test.YtknhaomckfianaaGreatDoorProg
import Derived.KernelRfl
import Derived.Test.YtknhaomckfianaaGreatDoorP13
set_option linter.all false
namespace Go.Proofs.YtknhaomckfianaaGreatDoor
open Go.Sym
def VC:List Nat:=[0,1,56,2,57,49,28,3,61,58,42,50,38,29,17,4,62,47,59,36,45,43,51,22,53,39,33,30,24,18,12,5,63,55,48,27,60,41,37,16,46,35,44,21,52,32,23,11,54,26,40,15,34,20,31,10,25,14,19,9,13,8,7,6]
noncomputable def O6:T ABlk:=((T.leaf:T ABlk).set 1 (.tab 230 [256])).set 0 (.tab 339 VC)
def FG:oW Tryz.prog (Tab.of oJ) 100000 5 [] O6 1048640=true:=by kernel_rfl
end Go.Proofs.YtknhaomckfianaaGreatDoor
