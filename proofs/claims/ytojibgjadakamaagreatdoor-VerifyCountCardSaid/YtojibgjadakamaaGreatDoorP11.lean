/- Part 11: Closed. Names and spaces are cut short by program. -/
import Derived.Test.YtojibgjadakamaaGreatDoorP10
set_option linter.all false
namespace Go.Proofs.YtojibgjadakamaaGreatDoor
set_option maxRecDepth 100000 in
theorem T4:joinedFacts Tryz.prog 3 Tryz.f3 Rows.verifyCountSpec Rows.verifyCountRow=true:=by
 unfold joinedFacts
 exact(dz (dz (dz (dz (dz (dz (dz (dz (dz (dz (dz (dz (dz (dz (dz (dz (dz (dz (dz (dz (dz (dz (dz (dz (dz (dz (dz (dz (dz (dz (dz VH VI) VJ) VK) VL) VM) VN) VO) VP) VS) TH) TI) TJ) TK) TL) TM) TN) TO) TP) TQ) TR) TS) TU) TV) TW) TX) TY) TZ) T0) T1) T2) T3)
end Go.Proofs.YtojibgjadakamaaGreatDoor
