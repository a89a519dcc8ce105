/- Part 23. -/
import Derived.Test.YthgjkeemmhcpfaaGreatDoorRows
import Derived.JoinedOf
import Derived.KernelRfl
set_option linter.all false
namespace Go.Proofs.YthgjkeemmhcpfaaGreatDoor
def dN{a b:Bool}(ha:a=true)(hb:b=true):(a && b)=true:=by rw[ha,hb];rfl
def fact0:(Rows.verifyTellsRow.wf (OpenSpec.ofChange Rows.verifyTellsSpec))=true:=by kernel_rfl
def fact1:(laidOutB Tryz.prog)=true:=by kernel_rfl
def fact2:(mapsRowed Tryz.prog)=true:=by kernel_rfl
def fact3:(Tryz.f3.params.all (Tryz.prog.readableRec ·))=true:=by kernel_rfl
def fact4:(namedTie Tryz.prog Rows.verifyTellsRow.named Rows.verifyTellsSpec.vars)=true:=by kernel_rfl
def fact5:((Rows.verifyTellsRow.stops== []))=true:=by kernel_rfl
def fact6:((Tryz.prog.stops== []))=true:=by kernel_rfl
def fact7:((Rows.verifyTellsRow.knobs== []))=true:=by kernel_rfl
def fact8:((Tryz.prog.stopKnobs== []))=true:=by kernel_rfl
def fact9:((Rows.verifyTellsRow.inPlace==Tryz.prog.inPlace 3))=true:=by kernel_rfl
def Yw:((Rows.verifyTellsRow.unfollowed==Tryz.prog.unfollowed 3))=true:=by kernel_rfl
def Yx:((Rows.verifyTellsRow.recurses==Tryz.prog.recurses 3))=true:=by kernel_rfl
def Yy:((Rows.verifyTellsRow.named==Tryz.prog.varsNamed 3))=true:=by kernel_rfl
def Yz:((Rows.verifyTellsRow.maps==(Tryz.f3.params.toList++Rows.verifyTellsSpec.plain.varTypes Tryz.prog).any (Tryz.prog.mapsRec ·)))=true:=by kernel_rfl
def YA:((Rows.verifyTellsRow.ifaces==(Tryz.f3.params.toList++Rows.verifyTellsSpec.plain.varTypes Tryz.prog).any (Tryz.prog.ifacesRec ·)))=true:=by kernel_rfl
def YB:((Rows.verifyTellsRow.mapsOut==Tryz.prog.mapsAmong Tryz.f3.resultTypes.toList))=true:=by kernel_rfl
def YC:((Rows.verifyTellsRow.loops==(Tryz.f3.params.toList++Rows.verifyTellsSpec.plain.varTypes Tryz.prog).any (Tryz.prog.loopsFrom ·)))=true:=by kernel_rfl
def YD:((Rows.verifyTellsRow.wideKeys==(Tryz.f3.params.toList++Rows.verifyTellsSpec.plain.varTypes Tryz.prog++Tryz.f3.resultTypes.toList).any (Tryz.prog.wideKeysFrom ·)))=true:=by kernel_rfl
def YE:(Rows.verifyTellsSpec.vars.all (Tryz.prog.varReadable ·))=true:=by kernel_rfl
def YF:(Tryz.f3.resultTypes.all (λt=>Tryz.prog.readableRec t && decide (t<Tryz.prog.types.size)))=true:=by kernel_rfl
def YG:((Rows.verifyTellsRow.ifacesOut==Tryz.f3.resultTypes.toList.any (Tryz.prog.ifacesRec ·)))=true:=by kernel_rfl
def YH:((Rows.verifyTellsRow.loopsOut==Tryz.f3.resultTypes.toList.any (Tryz.prog.loopsFrom ·)))=true:=by kernel_rfl
def YI:((Rows.verifyTellsRow.plainKeys==Tryz.prog.plainKeys))=true:=by kernel_rfl
def YJ:(Rows.verifyTellsRow.shortTexts.isNone)=true:=by kernel_rfl
def YK:(Tryz.prog.stopsHeard)=true:=by kernel_rfl
def YL:(Tryz.prog.mayEnter)=true:=by kernel_rfl
def YM:((Rows.verifyTellsRow.lifted==Tryz.prog.liftsFinal))=true:=by kernel_rfl
def YN:((Tryz.prog.make==some Rows.verifyTellsRow.make))=true:=by kernel_rfl
def YO:((Rows.verifyTellsRow.kinds==(if Rows.verifyTellsRow.domain.isEmpty then [] else Tryz.f3.params.toList.map λt=>match Tryz.prog.underlying t with|some (.int k)=>some k|_=>none)))=true:=by kernel_rfl
def YP:((Rows.verifyTellsRow.pinned==Rows.verifyTellsRow.pinnedBy))=true:=by kernel_rfl
def YQ:((Rows.verifyTellsRow.veiled==(Tryz.f3.params.toList++Rows.verifyTellsSpec.plain.varTypes Tryz.prog++Tryz.f3.resultTypes.toList).any (Tryz.prog.veiledRec ·)))=true:=by kernel_rfl
def YR:(Rows.verifyTellsRow.veiledFits Tryz.prog Tryz.f3.params.toList (Tryz.f3.params.toList++Rows.verifyTellsSpec.plain.varTypes Tryz.prog++Tryz.f3.resultTypes.toList))=true:=by kernel_rfl
end Go.Proofs.YthgjkeemmhcpfaaGreatDoor
