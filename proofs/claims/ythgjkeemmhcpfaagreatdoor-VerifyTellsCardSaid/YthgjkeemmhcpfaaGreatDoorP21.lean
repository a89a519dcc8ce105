/- Part 21. -/
import Derived.Test.YthgjkeemmhcpfaaGreatDoorProg
import Derived.KernelRfl
import Derived.Test.YthgjkeemmhcpfaaGreatDoorP12
import Derived.Test.YthgjkeemmhcpfaaGreatDoorP13
import Derived.Test.YthgjkeemmhcpfaaGreatDoorP15
import Derived.Test.YthgjkeemmhcpfaaGreatDoorP16
import Derived.Test.YthgjkeemmhcpfaaGreatDoorP17
import Derived.Test.YthgjkeemmhcpfaaGreatDoorP18
import Derived.Test.YthgjkeemmhcpfaaGreatDoorP20
set_option linter.all false
namespace Go.Proofs.YthgjkeemmhcpfaaGreatDoor
open Go.Sym
set_option maxRecDepth 100000
set_option maxHeartbeats 4000000
abbrev mU(a:Prop)(b:Int)(c d:G)(e f g h:Int)(i j:List G)(k:G):=Fm.ct a (λy=>(y.p 40↔kw b c d e f g h i j k))
def Ue:bn 3 Ym:=bA 105 2109238935640381779036573612211511824477022219385434069340433 (ai Tu (ai (tS 1002) (ai If (ai Qx (ai Ud (ai Ub (ai OT (ai XD (ai S2 (ai S3 eN)))))))))) lN λz hA=>show Fm.den (let v2:=(Int.ofNat ((aC (j_) (z.i 205)).land (aC (j_) 31)));let v3:=(Int.ofNat ((aC (j_) (z.i 205/1048576)).land (aC (j_) 7)));let v4:=(dv (z.i 1001) (z.s 1002) (z.i 1003) (z.i 1004) (z.i 1005) (z.i 1006) (z.i 1007) (z.i 1008) (z.s 1009) (z.g 1010) (z.g 1011) (hT z 1100) (z.p 1012) (z.i 1013) (z.i 1014));let v6:=(be (gR (z.i 1001) (z.s 1002) (z.i 1003) (z.i 1004) (z.i 1005) (hT z 1100) (z.i 1013) (z.i 1014)));let v7:=((ql (z.s 1002) (z.i 1003) (z.i 1004) (z.i 1005) (z.i 1007) (z.s 1009) (z.g 1010) (z.g 1011) (hT z 1100) (z.i 1013) (z.i 1014)/\HOk hZ/\RowsOk (z.g 207)/\(z.g 207).length<=1000000/\RowsOk (z.g 207)/\(z.g 207).length<=1000000)/\HOk (hT z 2300));let v8:=(ke);let v9:=(dw v2);let v10:=(aj .u8);let v11:=(HOk (hT z 2300)/\HOk (hT z 2400)/\RowsOk (z.g 207)/\(z.g 207).length<=1000000);let i4:=((0:Int)<=IntKind.i64.wrap v2/\IntKind.i64.wrap v2<32);let i7:=(aC v10 (z.i 206));let v1:=(Int.ofNat (i7.land (aC v10 3)));let v5:=((-9223372036854775808:Int)<=IntKind.u8.wrap v1/\IntKind.u8.wrap v1<=9223372036854775807);let j6:=(qp);let v0:Fm:=(.ct v7 (λy7=>(y7.p 40↔kw v4 v6 hZ (z.i 202) (z.i 203) (z.i 204) (z.i 208) (z.g 207) (z.g 207) (hT z 2300))) λy7=>(.ct v7 (λy8=>(y8.p 40↔kw v4 v6 hZ (z.i 202) (z.i 203) (z.i 204) (z.i 208) (z.g 207) (z.g 207) (hT z 2300))) λy8=>(.two (y7.p 40↔y8.p 40) (.ct v11 (λy9=>(y9.p 40↔oF (z.i 208) (hT z 2300) (z.i 209) (hT z 2400) (z.g 207))) λy9=>(.ct v11 (λy10=>(y10.p 40↔oF (z.i 208) (hT z 2300) (z.i 209) (hT z 2400) (z.g 207))) λy10=>(.two (y9.p 40↔y10.p 40) (.ct (True) (λy11=>y11.p 50) λy11=>(.ax (y11.p 50))) (.ax v8)))) (.ax v8))));(.ct (En (z.g 201)/\(z.g 201).length<=1125899906842624) (λy0=>¬y0.p 10->(z.g 201).length<=30/\m_ (z.g 201) 0<=1000) λy0=>(.two (y0.p 10) (.ax j6) (.two (60<(↑(z.g 207).length:Int)) (.ax j6) (.ct (QT 1002 (z.i 1007) (z.s 1009) (z.g 1010) (z.g 1011)/\((0:Int)<=0/\(0:Int)<=3000000000000000)/\(1001:Int)<=0+1002/\1<=1002) (λy1=>(y1.p 10↔1000<y1.i 21)/\0<y1.i 21/\y1.i 21<=5000000000000000/\(y1.i 21<=1000->y1.i 21=0+ ↑(QU 1002 (z.s 1009) (z.g 1010) (z.g 1011)))) λy1=>(.two (y1.p 10) (.ax j6) (.two (500<(↑(z.s 1002).length:Int)) (.ax j6) (.ct (iG (z.g 201)/\0=0) (λy2=>y2.p 35/\y2.g 31=gO (z.g 201) (↑(z.g 201).length:Int)/\y2.g 32=jm (z.g 201) (↑(z.g 201).length:Int)/\y2.g 34=rA (y2.g 31)) λy2=>(let o8:=(Ig (y2.g 31) (y2.g 32));(.two (¬y2.p 35) (.ax v8) (.ct o8 (λy3=>(y3.i 50=0->XrP (y2.g 31) (y2.g 32) (z.i 202) (z.i 203) (z.i 204) y3/\0<=y3.i 64/\y3.i 64<=200)/\(¬y3.i 50=0->ql (y3.s 2) (y3.i 3) (y3.i 4) (y3.i 5) (y3.i 7) (y3.s 9) (y3.g 10) (y3.g 11) (hT y3 100) (y3.i 13) (y3.i 14)/\HOk (hT y3 400)/\RowsOk (y3.g 63)/\(y3.g 63).length<=1000000/\RowsOk (y3.g 65)/\(y3.g 65).length<=1000000)) λy3=>(let B':=(dv (y3.i 1) (y3.s 2) (y3.i 3) (y3.i 4) (y3.i 5) (y3.i 6) (y3.i 7) (y3.i 8) (y3.s 9) (y3.g 10) (y3.g 11) (hT y3 100) (y3.p 12) (y3.i 13) (y3.i 14));let j8:=(be (gR (y3.i 1) (y3.s 2) (y3.i 3) (y3.i 4) (y3.i 5) (hT y3 100) (y3.i 13) (y3.i 14)));let Y':=(hT y3 400);let z':=(uE (y3.s 2) (y3.i 3) (y3.i 4) (y3.i 5) (y3.i 7) (y3.s 9) (y3.g 10) (y3.g 11) (hT y3 100) (y3.i 13) (y3.i 14) Y' (y3.g 63) (y3.g 65));let v20:=(uE (z.s 1002) (z.i 1003) (z.i 1004) (z.i 1005) (z.i 1007) (z.s 1009) (z.g 1010) (z.g 1011) (hT z 1100) (z.i 1013) (z.i 1014) Y' (y3.g 63) (y3.g 65));let v21:=(uE (y3.s 2) (y3.i 3) (y3.i 4) (y3.i 5) (y3.i 7) (y3.s 9) (y3.g 10) (y3.g 11) (hT y3 100) (y3.i 13) (y3.i 14) Y' (y3.g 63) (z.g 207));let v22:=(uE (y3.s 2) (y3.i 3) (y3.i 4) (y3.i 5) (y3.i 7) (y3.s 9) (y3.g 10) (y3.g 11) (hT y3 100) (y3.i 13) (y3.i 14) Y' (z.g 207) (y3.g 65));let v24:=(hU v9 (IntKind.u8.wrap (Int.ofNat ((aC v10 ((ko y3 400).getD v9.toNat 0)).xor i7))) y3 400);let v19:=(uE (y3.s 2) (y3.i 3) (y3.i 4) (y3.i 5) (y3.i 7) (y3.s 9) (y3.g 10) (y3.g 11) (hT y3 100) (y3.i 13) (y3.i 14) v24 (y3.g 63) (y3.g 65));let v25:=(y3.i 61+IntKind.u8.wrap v1);let v26:=(y3.i 62+IntKind.u8.wrap v1);let v27:=(y3.i 64+IntKind.u8.wrap v1-1);(.ct o8 (λy4=>(0<=z.i 204->z.i 204<= ↑(y2.g 32).length->y4.i 50=0/\y4.i 66=z.i 204/\hT y4 500=aO (pG (z.i 204) (y2.g 32)))/\(¬(0<=z.i 204/\z.i 204<= ↑(y2.g 32).length)->y4.i 50=1/\y4.i 66=0/\hT y4 500=hZ)) λy4=>(let v28:=(hT y4 500);let v29:=(z'/\HOk v28);let v30:=(y4.i 66+IntKind.u8.wrap v1-1);(.two (y3.i 50=0) (.two (IntKind.i64.wrap v3=0) (.an i4 (.an i4 (qF v19 v28 B' j8 v24 (y3.i 61) (y3.i 62) (y3.i 64) (y4.i 66) (y3.g 63) (y3.g 65) λy5=>(qF v19 v28 B' j8 v24 (y3.i 61) (y3.i 62) (y3.i 64) (y4.i 66) (y3.g 63) (y3.g 65) λy6=>(.two (y5.p 40↔y6.p 40) v0 (.ax v8)))))) (.two (IntKind.i64.wrap v3=1) (.an v5 (.two ((-9223372036854775808)<=y3.i 61+IntKind.u8.wrap v1/\y3.i 61+IntKind.u8.wrap v1<=9223372036854775807) (mU v29 B' j8 Y' v25 (y3.i 62) (y3.i 64) (y4.i 66) (y3.g 63) (y3.g 65) v28 λy5=>(mU v29 B' j8 Y' v25 (y3.i 62) (y3.i 64) (y4.i 66) (y3.g 63) (y3.g 65) v28 λy6=>(.two (y5.p 40↔y6.p 40) v0 (.ax v8)))) (mU v29 B' j8 Y' (dw v25) (y3.i 62) (y3.i 64) (y4.i 66) (y3.g 63) (y3.g 65) v28 λy5=>(mU v29 B' j8 Y' (dw v25) (y3.i 62) (y3.i 64) (y4.i 66) (y3.g 63) (y3.g 65) v28 λy6=>(.two (y5.p 40↔y6.p 40) v0 (.ax v8)))))) (.two (IntKind.i64.wrap v3=2) (.an v5 (.two ((-9223372036854775808)<=y3.i 62+IntKind.u8.wrap v1/\y3.i 62+IntKind.u8.wrap v1<=9223372036854775807) (mU v29 B' j8 Y' (y3.i 61) v26 (y3.i 64) (y4.i 66) (y3.g 63) (y3.g 65) v28 λy5=>(mU v29 B' j8 Y' (y3.i 61) v26 (y3.i 64) (y4.i 66) (y3.g 63) (y3.g 65) v28 λy6=>(.two (y5.p 40↔y6.p 40) v0 (.ax v8)))) (mU v29 B' j8 Y' (y3.i 61) (dw v26) (y3.i 64) (y4.i 66) (y3.g 63) (y3.g 65) v28 λy5=>(mU v29 B' j8 Y' (y3.i 61) (dw v26) (y3.i 64) (y4.i 66) (y3.g 63) (y3.g 65) v28 λy6=>(.two (y5.p 40↔y6.p 40) v0 (.ax v8)))))) (.two (IntKind.i64.wrap v3=3) (.an v5 (.an ((-9223372036854775808)<=y3.i 64+IntKind.u8.wrap v1/\y3.i 64+IntKind.u8.wrap v1<=9223372036854775807) (.an ((-9223372036854775808)<=y3.i 64+IntKind.u8.wrap v1-1/\y3.i 64+IntKind.u8.wrap v1-1<=9223372036854775807) (mU v29 B' j8 Y' (y3.i 61) (y3.i 62) v27 (y4.i 66) (y3.g 63) (y3.g 65) v28 λy5=>(mU v29 B' j8 Y' (y3.i 61) (y3.i 62) v27 (y4.i 66) (y3.g 63) (y3.g 65) v28 λy6=>(.two (y5.p 40↔y6.p 40) v0 (.ax v8))))))) (.two (IntKind.i64.wrap v3=4) (qF v20 v28 v4 v6 Y' (y3.i 61) (y3.i 62) (y3.i 64) (y4.i 66) (y3.g 63) (y3.g 65) λy5=>(qF v20 v28 v4 v6 Y' (y3.i 61) (y3.i 62) (y3.i 64) (y4.i 66) (y3.g 63) (y3.g 65) λy6=>(.two (y5.p 40↔y6.p 40) v0 (.ax v8)))) (.two (IntKind.i64.wrap v3=5) (qF v21 v28 B' j8 Y' (y3.i 61) (y3.i 62) (y3.i 64) (y4.i 66) (y3.g 63) (z.g 207) λy5=>(qF v21 v28 B' j8 Y' (y3.i 61) (y3.i 62) (y3.i 64) (y4.i 66) (y3.g 63) (z.g 207) λy6=>(.two (y5.p 40↔y6.p 40) v0 (.ax v8)))) (.two (IntKind.i64.wrap v3=6) (qF v22 v28 B' j8 Y' (y3.i 61) (y3.i 62) (y3.i 64) (y4.i 66) (z.g 207) (y3.g 65) λy5=>(qF v22 v28 B' j8 Y' (y3.i 61) (y3.i 62) (y3.i 64) (y4.i 66) (z.g 207) (y3.g 65) λy6=>(.two (y5.p 40↔y6.p 40) v0 (.ax v8)))) (.an v5 (.an ((-9223372036854775808)<=y4.i 66+IntKind.u8.wrap v1/\y4.i 66+IntKind.u8.wrap v1<=9223372036854775807) (.an ((-9223372036854775808)<=y4.i 66+IntKind.u8.wrap v1-1/\y4.i 66+IntKind.u8.wrap v1-1<=9223372036854775807) (mU v29 B' j8 Y' (y3.i 61) (y3.i 62) (y3.i 64) v30 (y3.g 63) (y3.g 65) v28 λy5=>(mU v29 B' j8 Y' (y3.i 61) (y3.i 62) (y3.i 64) v30 (y3.g 63) (y3.g 65) v28 λy6=>(.two (y5.p 40↔y6.p 40) v0 (.ax v8)))))))))))))) (mU v29 B' j8 Y' (y3.i 61) (y3.i 62) (y3.i 64) (y4.i 66) (y3.g 63) (y3.g 65) v28 λy5=>(mU v29 B' j8 Y' (y3.i 61) (y3.i 62) (y3.i 64) (y4.i 66) (y3.g 63) (y3.g 65) v28 λy6=>(.two (y5.p 40↔y6.p 40) v0 (.ax v8))))))))))))))))))) by
 replace hA:=And.intro trivial hA
 obtain⟨-,⟨hn,hf,hl⟩,hp,⟨htl,ht8⟩,h3,h4,h5,h13,h14,hv,hh,hP,hDa,hDb⟩:=hA
 conv=>zeta
 delta j_ ke Ig qp dw uE mU qF pG
 refine bV ⟨trivial,hn,hl⟩ λ_ y0 k0=>bW (λ_=>bX trivial λ_=>cj rfl) λn0=>bW (λ_=>bX trivial λ_=>cj rfl) λnP=>bV ⟨trivial,hv,⟨by decide,by decide⟩,by decide,by decide⟩ λ_ y1 k1=>bW (λ_=>bX trivial λ_=>cj rfl) λn1=>bW (λ_=>bX trivial λ_=>cj rfl) λn2=>?_
 have hls:iG (z.g 201):=ls_of hf hn (k0 n0)
 obtain⟨k1a,_,_,k1b⟩:=k1
 have n1:¬1000<y1.i 21:=λh=>n1 (k1a.2 h)
 have hg:QU 1002 (z.s 1009) (z.g 1010) (z.g 1011)<=1000:=by have:=k1b (by omega);omega
 obtain⟨Jx,R8⟩:=Kf (kd:=0) (c:=0) hv hg
 have hin:ql (z.s 1002) (z.i 1003) (z.i 1004) (z.i 1005) (z.i 1007) (z.s 1009) (z.g 1010) (z.g 1011) (hT z 1100) (z.i 1013) (z.i 1014):=zi ⟨by omega,h3,h4,h5,h13,h14,Jx,R8,hh⟩
 have hPl:(z.g 207).length<=1000000:=by omega
 clear hn hl n2 h3 h4 h5 h13 h14 hv Jx R8 hg k1a k1b n1 htl ht8 hf k0 n0 nP
 refine bV ⟨trivial,hls,rfl⟩ λ_ y2 k2=>bW (λq=>absurd k2.1 q) λ_=>?_
 obtain⟨_,e1,e2,_⟩:=k2
 obtain⟨q1,q2,q3,q4⟩:=V2 hls
 rw[e1,e2]
 clear e1 e2
 refine bV ⟨trivial,q1,q2,q3,q4⟩ λ_ y3 k3=>bV ⟨trivial,q1,q2,q3,q4⟩ λ_ y4 k4=>?_
 have hZ':=dh
 have w0:=by_le (z.i 206)
 have wx:=λn:Int=>iZ n
 have a31:=Yl (z.i 205)
 refine bW (λn3=>?_) λn3=>?_
 ·obtain⟨k3,c2,c1⟩:=k3.1 n3;unfold XrP at k3;obtain⟨⟨g1,g2⟩,⟨⟨g3,g4⟩,g5,g6⟩,a2,a3,⟨u1,u2,u3,u4,u5,u6,u7,u8,u9,ua,ub,uc,ud,ue,uf⟩,a4,a5,a6,a7⟩:=k3;obtain⟨_,b1,b2⟩:=k4.1 (by omega) g2;obtain⟨t0,t1,t2,t3,t4,t5,t6,t7,t8,t9,t10⟩:=Qv hls g1 g2 g3 g4 rfl g5 g6;have X:ql (y3.s 2) (y3.i 3) (y3.i 4) (y3.i 5) (y3.i 7) (y3.s 9) (y3.g 10) (y3.g 11) (hT y3 100) (y3.i 13) (y3.i 14):=by rw[u2,u3,u4,u5,u7,u9,ua,ub,uc,ue,uf];exact t3
  have r2:HOk (hT y3 400):=by rw[a4];exact fW _
  have r3:RowsOk (y3.g 63)/\(y3.g 63).length<=1000000:=by rw[a5];exact⟨t6,t7⟩
  have r4:RowsOk (y3.g 65)/\(y3.g 65).length<=1000000:=by rw[a7];exact⟨t8,t9⟩
  have r5:HOk (hT y4 500):=by rw[b2];exact t10
  have b3:0<=y3.i 61/\y3.i 61<=1000:=by omega
  have b4:0<=y3.i 62/\y3.i 62<=200:=by omega
  have b5:0<=y4.i 66/\y4.i 66<=1000:=by omega
  have rU:=λ(i n:Int)=>@hU_ok i (IntKind.u8.wrap n) y3 400 r2 (by rw[iZ];omega);clear u1 u2 u3 u4 u5 u6 u7 u8 u9 ua ub uc ud ue uf a2 a3 a4 a5 a6 a7 b1 b2 t0 t1 t2 t3 t4 t5 t6 t7 t8 t9 t10 k4 g1 g2 g3 g4 g5 g6 n3 q1 q2 q3 q4 hls;repeat' with_reducible first|intro _|apply bV|apply bW|apply bX|apply cy|apply cj
  all_goals first|omega|grind
 ·obtain⟨r1,r2,r3,r4,r5,r6⟩:=k3.2 n3;have r7:HOk (hT y4 500):=by
   by_cases hz:0<=z.i 204/\z.i 204<=(jm (z.g 201) (z.g 201).length).length
   ·rw[(k4.1 hz.1 hz.2).2.2];exact cu _ (q2.take _)
   ·rw[(k4.2 hz).2.2];exact dh
  clear k3 k4 n3 q1 q2 q3 q4 hls w0 wx a31;repeat' with_reducible first|intro _|apply bV|apply bW|apply bX|apply cy|apply cj
  all_goals first|omega|grind
end Go.Proofs.YthgjkeemmhcpfaaGreatDoor
