/- Part 10: Facts. Names and spaces are cut short by program. -/
import Derived.Test.YtojibgjadakamaaGreatDoorRows
import Derived.JoinedOf
import Derived.KernelRfl
set_option linter.all false
namespace Go.Proofs.YtojibgjadakamaaGreatDoor
theorem dz{a b:Bool}(ha:a=true)(hb:b=true):(a && b)=true:=by rw[ha,hb];rfl
theorem VH:(Rows.verifyCountRow.wf (OpenSpec.ofChange Rows.verifyCountSpec))=true:=by kernel_rfl
theorem VI:(laidOutB Tryz.prog)=true:=by kernel_rfl
theorem VJ:(mapsRowed Tryz.prog)=true:=by kernel_rfl
theorem VK:(Tryz.f3.params.all (Tryz.prog.readableRec ·))=true:=by kernel_rfl
theorem VL:(namedTie Tryz.prog Rows.verifyCountRow.named Rows.verifyCountSpec.vars)=true:=by kernel_rfl
theorem VM:((Rows.verifyCountRow.stops== []))=true:=by kernel_rfl
theorem VN:((Tryz.prog.stops== []))=true:=by kernel_rfl
theorem VO:((Rows.verifyCountRow.knobs== []))=true:=by kernel_rfl
theorem VP:((Tryz.prog.stopKnobs== []))=true:=by kernel_rfl
theorem VS:((Rows.verifyCountRow.inPlace==Tryz.prog.inPlace 3))=true:=by kernel_rfl
theorem TH:((Rows.verifyCountRow.unfollowed==Tryz.prog.unfollowed 3))=true:=by kernel_rfl
theorem TI:((Rows.verifyCountRow.recurses==Tryz.prog.recurses 3))=true:=by kernel_rfl
theorem TJ:((Rows.verifyCountRow.named==Tryz.prog.varsNamed 3))=true:=by kernel_rfl
theorem TK:((Rows.verifyCountRow.maps==(Tryz.f3.params.toList++Rows.verifyCountSpec.plain.varTypes Tryz.prog).any (Tryz.prog.mapsRec ·)))=true:=by kernel_rfl
theorem TL:((Rows.verifyCountRow.ifaces==(Tryz.f3.params.toList++Rows.verifyCountSpec.plain.varTypes Tryz.prog).any (Tryz.prog.ifacesRec ·)))=true:=by kernel_rfl
theorem TM:((Rows.verifyCountRow.mapsOut==Tryz.prog.mapsAmong Tryz.f3.resultTypes.toList))=true:=by kernel_rfl
theorem TN:((Rows.verifyCountRow.loops==(Tryz.f3.params.toList++Rows.verifyCountSpec.plain.varTypes Tryz.prog).any (Tryz.prog.loopsFrom ·)))=true:=by kernel_rfl
theorem TO:((Rows.verifyCountRow.wideKeys==(Tryz.f3.params.toList++Rows.verifyCountSpec.plain.varTypes Tryz.prog++Tryz.f3.resultTypes.toList).any (Tryz.prog.wideKeysFrom ·)))=true:=by kernel_rfl
theorem TP:(Rows.verifyCountSpec.vars.all (Tryz.prog.varReadable ·))=true:=by kernel_rfl
theorem TQ:(Tryz.f3.resultTypes.all (fun t=>Tryz.prog.readableRec t && decide (t<Tryz.prog.types.size)))=true:=by kernel_rfl
theorem TR:((Rows.verifyCountRow.ifacesOut==Tryz.f3.resultTypes.toList.any (Tryz.prog.ifacesRec ·)))=true:=by kernel_rfl
theorem TS:((Rows.verifyCountRow.loopsOut==Tryz.f3.resultTypes.toList.any (Tryz.prog.loopsFrom ·)))=true:=by kernel_rfl
theorem TU:((Rows.verifyCountRow.plainKeys==Tryz.prog.plainKeys))=true:=by kernel_rfl
theorem TV:(Rows.verifyCountRow.shortTexts.isNone)=true:=by kernel_rfl
theorem TW:(Tryz.prog.stopsHeard)=true:=by kernel_rfl
theorem TX:(Tryz.prog.mayEnter)=true:=by kernel_rfl
theorem TY:((Rows.verifyCountRow.lifted==Tryz.prog.liftsFinal))=true:=by kernel_rfl
theorem TZ:((Tryz.prog.make==some Rows.verifyCountRow.make))=true:=by kernel_rfl
theorem T0:((Rows.verifyCountRow.kinds==(if Rows.verifyCountRow.domain.isEmpty then [] else Tryz.f3.params.toList.map fun t=>match Tryz.prog.underlying t with|some (.int k)=>some k|_=>none)))=true:=by kernel_rfl
theorem T1:((Rows.verifyCountRow.pinned==Rows.verifyCountRow.pinnedBy))=true:=by kernel_rfl
theorem T2:((Rows.verifyCountRow.veiled==(Tryz.f3.params.toList++Rows.verifyCountSpec.plain.varTypes Tryz.prog++Tryz.f3.resultTypes.toList).any (Tryz.prog.veiledRec ·)))=true:=by kernel_rfl
theorem T3:(Rows.verifyCountRow.veiledFits Tryz.prog Tryz.f3.params.toList (Tryz.f3.params.toList++Rows.verifyCountSpec.plain.varTypes Tryz.prog++Tryz.f3.resultTypes.toList))=true:=by kernel_rfl
end Go.Proofs.YtojibgjadakamaaGreatDoor
