/- Part 9. -/
import Derived.Test.YtomfobckhogpnaaGreatDoorRows
import Derived.JoinedOf
import Derived.KernelRfl
set_option linter.all false
namespace Go.Proofs.YtomfobckhogpnaaGreatDoor
def dN{a b:Bool}(ha:a=true)(hb:b=true):(a && b)=true:=by rw[ha,hb];rfl
def fact0:(Rows.verifyClashRow.wf (OpenSpec.ofChange Rows.verifyClashSpec))=true:=by kernel_rfl
def fact1:(laidOutB Tryz.prog)=true:=by kernel_rfl
def fact2:(mapsRowed Tryz.prog)=true:=by kernel_rfl
def fact3:(Tryz.f3.params.all (Tryz.prog.readableRec ·))=true:=by kernel_rfl
def fact4:(namedTie Tryz.prog Rows.verifyClashRow.named Rows.verifyClashSpec.vars)=true:=by kernel_rfl
def fact5:((Rows.verifyClashRow.stops== []))=true:=by kernel_rfl
def fact6:((Tryz.prog.stops== []))=true:=by kernel_rfl
def fact7:((Rows.verifyClashRow.knobs== []))=true:=by kernel_rfl
def fact8:((Tryz.prog.stopKnobs== []))=true:=by kernel_rfl
def fact9:((Rows.verifyClashRow.inPlace==Tryz.prog.inPlace 3))=true:=by kernel_rfl
def YI:((Rows.verifyClashRow.unfollowed==Tryz.prog.unfollowed 3))=true:=by kernel_rfl
def YJ:((Rows.verifyClashRow.recurses==Tryz.prog.recurses 3))=true:=by kernel_rfl
def YK:((Rows.verifyClashRow.named==Tryz.prog.varsNamed 3))=true:=by kernel_rfl
def YL:((Rows.verifyClashRow.maps==(Tryz.f3.params.toList++Rows.verifyClashSpec.plain.varTypes Tryz.prog).any (Tryz.prog.mapsRec ·)))=true:=by kernel_rfl
def YM:((Rows.verifyClashRow.ifaces==(Tryz.f3.params.toList++Rows.verifyClashSpec.plain.varTypes Tryz.prog).any (Tryz.prog.ifacesRec ·)))=true:=by kernel_rfl
def YN:((Rows.verifyClashRow.mapsOut==Tryz.prog.mapsAmong Tryz.f3.resultTypes.toList))=true:=by kernel_rfl
def YO:((Rows.verifyClashRow.loops==(Tryz.f3.params.toList++Rows.verifyClashSpec.plain.varTypes Tryz.prog).any (Tryz.prog.loopsFrom ·)))=true:=by kernel_rfl
def YP:((Rows.verifyClashRow.wideKeys==(Tryz.f3.params.toList++Rows.verifyClashSpec.plain.varTypes Tryz.prog++Tryz.f3.resultTypes.toList).any (Tryz.prog.wideKeysFrom ·)))=true:=by kernel_rfl
def YQ:(Rows.verifyClashSpec.vars.all (Tryz.prog.varReadable ·))=true:=by kernel_rfl
def YR:(Tryz.f3.resultTypes.all (λt=>Tryz.prog.readableRec t && decide (t<Tryz.prog.types.size)))=true:=by kernel_rfl
def YS:((Rows.verifyClashRow.ifacesOut==Tryz.f3.resultTypes.toList.any (Tryz.prog.ifacesRec ·)))=true:=by kernel_rfl
def YT:((Rows.verifyClashRow.loopsOut==Tryz.f3.resultTypes.toList.any (Tryz.prog.loopsFrom ·)))=true:=by kernel_rfl
def YU:((Rows.verifyClashRow.plainKeys==Tryz.prog.plainKeys))=true:=by kernel_rfl
def YV:(Rows.verifyClashRow.shortTexts.isNone)=true:=by kernel_rfl
def YW:(Tryz.prog.stopsHeard)=true:=by kernel_rfl
def YX:(Tryz.prog.mayEnter)=true:=by kernel_rfl
def YY:((Rows.verifyClashRow.lifted==Tryz.prog.liftsFinal))=true:=by kernel_rfl
def YZ:((Tryz.prog.make==some Rows.verifyClashRow.make))=true:=by kernel_rfl
def Y0:((Rows.verifyClashRow.kinds==(if Rows.verifyClashRow.domain.isEmpty then [] else Tryz.f3.params.toList.map λt=>match Tryz.prog.underlying t with|some (.int k)=>some k|_=>none)))=true:=by kernel_rfl
def Y1:((Rows.verifyClashRow.pinned==Rows.verifyClashRow.pinnedBy))=true:=by kernel_rfl
def Y2:((Rows.verifyClashRow.veiled==(Tryz.f3.params.toList++Rows.verifyClashSpec.plain.varTypes Tryz.prog++Tryz.f3.resultTypes.toList).any (Tryz.prog.veiledRec ·)))=true:=by kernel_rfl
def Y3:(Rows.verifyClashRow.veiledFits Tryz.prog Tryz.f3.params.toList (Tryz.f3.params.toList++Rows.verifyClashSpec.plain.varTypes Tryz.prog++Tryz.f3.resultTypes.toList))=true:=by kernel_rfl
end Go.Proofs.YtomfobckhogpnaaGreatDoor
