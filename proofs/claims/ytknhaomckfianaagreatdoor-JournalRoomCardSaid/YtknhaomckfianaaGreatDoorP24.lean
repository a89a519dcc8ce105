/- Part 24. -/
import Derived.Test.YtknhaomckfianaaGreatDoorRows
import Derived.JoinedOf
import Derived.KernelRfl
set_option linter.all false
namespace Go.Proofs.YtknhaomckfianaaGreatDoor
def cR{a b:Bool}(ha:a=true)(hb:b=true):(a && b)=true:=by rw[ha,hb];rfl
def Ue:(Rows.journalRoomRow.wf (OpenSpec.ofChange Rows.journalRoomSpec))=true:=by kernel_rfl
def Uf:(laidOutB Tryz.prog)=true:=by kernel_rfl
def Ug:(mapsRowed Tryz.prog)=true:=by kernel_rfl
def Uh:(Tryz.f3.params.all (Tryz.prog.readableRec ·))=true:=by kernel_rfl
def Ui:(namedTie Tryz.prog Rows.journalRoomRow.named Rows.journalRoomSpec.vars)=true:=by kernel_rfl
def Uj:((Rows.journalRoomRow.stops== []))=true:=by kernel_rfl
def Uk:((Tryz.prog.stops== []))=true:=by kernel_rfl
def Ul:((Rows.journalRoomRow.knobs== []))=true:=by kernel_rfl
def Um:((Tryz.prog.stopKnobs== []))=true:=by kernel_rfl
def Un:((Rows.journalRoomRow.inPlace==Tryz.prog.inPlace 3))=true:=by kernel_rfl
def Rt:((Rows.journalRoomRow.unfollowed==Tryz.prog.unfollowed 3))=true:=by kernel_rfl
def Ru:((Rows.journalRoomRow.recurses==Tryz.prog.recurses 3))=true:=by kernel_rfl
def Rv:((Rows.journalRoomRow.named==Tryz.prog.varsNamed 3))=true:=by kernel_rfl
def Rw:((Rows.journalRoomRow.maps==(Tryz.f3.params.toList++Rows.journalRoomSpec.plain.varTypes Tryz.prog).any (Tryz.prog.mapsRec ·)))=true:=by kernel_rfl
def Rx:((Rows.journalRoomRow.ifaces==(Tryz.f3.params.toList++Rows.journalRoomSpec.plain.varTypes Tryz.prog).any (Tryz.prog.ifacesRec ·)))=true:=by kernel_rfl
def Ry:((Rows.journalRoomRow.mapsOut==Tryz.prog.mapsAmong Tryz.f3.resultTypes.toList))=true:=by kernel_rfl
def Rz:((Rows.journalRoomRow.loops==(Tryz.f3.params.toList++Rows.journalRoomSpec.plain.varTypes Tryz.prog).any (Tryz.prog.loopsFrom ·)))=true:=by kernel_rfl
def RA:((Rows.journalRoomRow.wideKeys==(Tryz.f3.params.toList++Rows.journalRoomSpec.plain.varTypes Tryz.prog++Tryz.f3.resultTypes.toList).any (Tryz.prog.wideKeysFrom ·)))=true:=by kernel_rfl
def RB:(Rows.journalRoomSpec.vars.all (Tryz.prog.varReadable ·))=true:=by kernel_rfl
def RC:(Tryz.f3.resultTypes.all (λt=>Tryz.prog.readableRec t && decide (t<Tryz.prog.types.size)))=true:=by kernel_rfl
def RD:((Rows.journalRoomRow.ifacesOut==Tryz.f3.resultTypes.toList.any (Tryz.prog.ifacesRec ·)))=true:=by kernel_rfl
def RE:((Rows.journalRoomRow.loopsOut==Tryz.f3.resultTypes.toList.any (Tryz.prog.loopsFrom ·)))=true:=by kernel_rfl
def RF:((Rows.journalRoomRow.plainKeys==Tryz.prog.plainKeys))=true:=by kernel_rfl
def RG:(Rows.journalRoomRow.shortTexts.isNone)=true:=by kernel_rfl
def RH:(Tryz.prog.stopsHeard)=true:=by kernel_rfl
def RI:(Tryz.prog.mayEnter)=true:=by kernel_rfl
def RJ:((Rows.journalRoomRow.lifted==Tryz.prog.liftsFinal))=true:=by kernel_rfl
def RK:((Tryz.prog.make==some Rows.journalRoomRow.make))=true:=by kernel_rfl
def RL:((Rows.journalRoomRow.kinds==(if Rows.journalRoomRow.domain.isEmpty then [] else Tryz.f3.params.toList.map λt=>match Tryz.prog.underlying t with|some (.int k)=>some k|_=>none)))=true:=by kernel_rfl
def RM:((Rows.journalRoomRow.pinned==Rows.journalRoomRow.pinnedBy))=true:=by kernel_rfl
def RN:((Rows.journalRoomRow.veiled==(Tryz.f3.params.toList++Rows.journalRoomSpec.plain.varTypes Tryz.prog++Tryz.f3.resultTypes.toList).any (Tryz.prog.veiledRec ·)))=true:=by kernel_rfl
def RO:(Rows.journalRoomRow.veiledFits Tryz.prog Tryz.f3.params.toList (Tryz.f3.params.toList++Rows.journalRoomSpec.plain.varTypes Tryz.prog++Tryz.f3.resultTypes.toList))=true:=by kernel_rfl
end Go.Proofs.YtknhaomckfianaaGreatDoor
