/- Part 11. -/
import Derived.Test.YtameaobnjjcobaaGreatDoorRows
import Derived.JoinedOf
import Derived.KernelRfl
set_option linter.all false
namespace Go.Proofs.YtameaobnjjcobaaGreatDoor
def dO{a b:Bool}(ha:a=true)(hb:b=true):(a && b)=true:=by rw[ha,hb];rfl
def fact0:(Rows.verifyGoesRow.wf (OpenSpec.ofChange Rows.verifyGoesSpec))=true:=by kernel_rfl
def fact1:(laidOutB Tryz.prog)=true:=by kernel_rfl
def fact2:(mapsRowed Tryz.prog)=true:=by kernel_rfl
def fact3:(Tryz.f3.params.all (Tryz.prog.readableRec ·))=true:=by kernel_rfl
def fact4:(namedTie Tryz.prog Rows.verifyGoesRow.named Rows.verifyGoesSpec.vars)=true:=by kernel_rfl
def fact5:((Rows.verifyGoesRow.stops== []))=true:=by kernel_rfl
def fact6:((Tryz.prog.stops== []))=true:=by kernel_rfl
def fact7:((Rows.verifyGoesRow.knobs== []))=true:=by kernel_rfl
def fact8:((Tryz.prog.stopKnobs== []))=true:=by kernel_rfl
def fact9:((Rows.verifyGoesRow.inPlace==Tryz.prog.inPlace 3))=true:=by kernel_rfl
def XC:((Rows.verifyGoesRow.unfollowed==Tryz.prog.unfollowed 3))=true:=by kernel_rfl
def XD:((Rows.verifyGoesRow.recurses==Tryz.prog.recurses 3))=true:=by kernel_rfl
def XE:((Rows.verifyGoesRow.named==Tryz.prog.varsNamed 3))=true:=by kernel_rfl
def XF:((Rows.verifyGoesRow.maps==(Tryz.f3.params.toList++Rows.verifyGoesSpec.plain.varTypes Tryz.prog).any (Tryz.prog.mapsRec ·)))=true:=by kernel_rfl
def XG:((Rows.verifyGoesRow.ifaces==(Tryz.f3.params.toList++Rows.verifyGoesSpec.plain.varTypes Tryz.prog).any (Tryz.prog.ifacesRec ·)))=true:=by kernel_rfl
def XH:((Rows.verifyGoesRow.mapsOut==Tryz.prog.mapsAmong Tryz.f3.resultTypes.toList))=true:=by kernel_rfl
def XI:((Rows.verifyGoesRow.loops==(Tryz.f3.params.toList++Rows.verifyGoesSpec.plain.varTypes Tryz.prog).any (Tryz.prog.loopsFrom ·)))=true:=by kernel_rfl
def XJ:((Rows.verifyGoesRow.wideKeys==(Tryz.f3.params.toList++Rows.verifyGoesSpec.plain.varTypes Tryz.prog++Tryz.f3.resultTypes.toList).any (Tryz.prog.wideKeysFrom ·)))=true:=by kernel_rfl
def XL:(Rows.verifyGoesSpec.vars.all (Tryz.prog.varReadable ·))=true:=by kernel_rfl
def XM:(Tryz.f3.resultTypes.all (λt=>Tryz.prog.readableRec t && decide (t<Tryz.prog.types.size)))=true:=by kernel_rfl
def XN:((Rows.verifyGoesRow.ifacesOut==Tryz.f3.resultTypes.toList.any (Tryz.prog.ifacesRec ·)))=true:=by kernel_rfl
def XO:((Rows.verifyGoesRow.loopsOut==Tryz.f3.resultTypes.toList.any (Tryz.prog.loopsFrom ·)))=true:=by kernel_rfl
def XP:((Rows.verifyGoesRow.plainKeys==Tryz.prog.plainKeys))=true:=by kernel_rfl
def XQ:(Rows.verifyGoesRow.shortTexts.isNone)=true:=by kernel_rfl
def XR:(Tryz.prog.stopsHeard)=true:=by kernel_rfl
def XS:(Tryz.prog.mayEnter)=true:=by kernel_rfl
def XT:((Rows.verifyGoesRow.lifted==Tryz.prog.liftsFinal))=true:=by kernel_rfl
def XU:((Tryz.prog.make==some Rows.verifyGoesRow.make))=true:=by kernel_rfl
def XV:((Rows.verifyGoesRow.kinds==(if Rows.verifyGoesRow.domain.isEmpty then [] else Tryz.f3.params.toList.map λt=>match Tryz.prog.underlying t with|some (.int k)=>some k|_=>none)))=true:=by kernel_rfl
def XW:((Rows.verifyGoesRow.pinned==Rows.verifyGoesRow.pinnedBy))=true:=by kernel_rfl
def XX:((Rows.verifyGoesRow.veiled==(Tryz.f3.params.toList++Rows.verifyGoesSpec.plain.varTypes Tryz.prog++Tryz.f3.resultTypes.toList).any (Tryz.prog.veiledRec ·)))=true:=by kernel_rfl
def XY:(Rows.verifyGoesRow.veiledFits Tryz.prog Tryz.f3.params.toList (Tryz.f3.params.toList++Rows.verifyGoesSpec.plain.varTypes Tryz.prog++Tryz.f3.resultTypes.toList))=true:=by kernel_rfl
end Go.Proofs.YtameaobnjjcobaaGreatDoor
