/- Part 10. -/
import Derived.Test.YtomfobckhogpnaaGreatDoorP9
set_option linter.all false
namespace Go.Proofs.YtomfobckhogpnaaGreatDoor
set_option maxRecDepth 100000 in
theorem Y4:joinedFacts Tryz.prog 3 Tryz.f3 Rows.verifyClashSpec Rows.verifyClashRow=true:=by unfold joinedFacts;exact(dN (dN (dN (dN (dN (dN (dN (dN (dN (dN (dN (dN (dN (dN (dN (dN (dN (dN (dN (dN (dN (dN (dN (dN (dN (dN (dN (dN (dN (dN (dN fact0 fact1) fact2) fact3) fact4) fact5) fact6) fact7) fact8) fact9) YI) YJ) YK) YL) YM) YN) YO) YP) YQ) YR) YS) YT) YU) YV) YW) YX) YY) YZ) Y0) Y1) Y2) Y3)
end Go.Proofs.YtomfobckhogpnaaGreatDoor
