/- Part 7: G13, JoM, JoN, G14, G15, JoQ, G16, JoR, G17, JoS, G18, JoT, G21, JoU, JoX, JoY, JoZ, JoZa, JoZb, G28, JoZc, G29x, G29, JoZd, G30, JoZe, JoZf, JoZg, G19, G33, JoZh, JoZi, G34, JoZj, G35, JoZk, G36, JoZl, G37. Names and spaces are cut short by program. -/
import Derived.Test.YtojibgjadakamaaGreatDoorProg
import Derived.KernelRfl
import Derived.Test.YtojibgjadakamaaGreatDoorP5
import Derived.Test.YtojibgjadakamaaGreatDoorP6
set_option linter.all false
namespace Go.Proofs.YtojibgjadakamaaGreatDoor
open Go.Sym
set_option maxRecDepth 100000
set_option maxHeartbeats 4000000
theorem Lv(z:Sy)(hA:Cz.pre z):Fm.den ((.ct ((0:Int)<=Max.max 0 (z.i 21)%18446744073709551616/\Max.max (0:Int) (z.i 21)%18446744073709551616<18446744073709551616) (fun y0=>y0.s 10=aI (Max.max (0:Int) (z.i 21)%18446744073709551616).toNat) fun y0=>(.an (0=0/\0<=1000000000/\(y0.s 10).length<=1000000) (.ct ((0:Int)<=Max.max 0 (z.i 22)%18446744073709551616/\Max.max (0:Int) (z.i 22)%18446744073709551616<18446744073709551616) (fun y1=>y1.s 10=aI (Max.max (0:Int) (z.i 22)%18446744073709551616).toNat) fun y1=>(.an (([]++y0.s 10).length=0+(y0.s 10).length/\0+(y0.s 10).length<=1000000000/\(y1.s 10).length<=1000000) (.ct ((0:Int)<=Max.max 0 (z.i 23)%18446744073709551616/\Max.max (0:Int) (z.i 23)%18446744073709551616<18446744073709551616) (fun y2=>y2.s 10=aI (Max.max (0:Int) (z.i 23)%18446744073709551616).toNat) fun y2=>(.an (([]++y0.s 10++y1.s 10).length=0+(y0.s 10).length+(y1.s 10).length/\0+(y0.s 10).length+(y1.s 10).length<=1000000000/\(y2.s 10).length<=1000000) (.an (([]++y0.s 10++y1.s 10++y2.s 10).length=0+(y0.s 10).length+(y1.s 10).length+(y2.s 10).length/\0+(y0.s 10).length+(y1.s 10).length+(y2.s 10).length<=1000000000/\bj (jb z 200)) (.an (([]++y0.s 10++y1.s 10++y2.s 10++aO (jb z 200)).length=0+(y0.s 10).length+(y1.s 10).length+(y2.s 10).length+32/\True) (.at ([]++y0.s 10++y1.s 10++y2.s 10++aO (jb z 200)=iQ (z.i 21) (z.i 22) (z.i 23) (hT z 200)))))))))))):=by
 dsimp only [Cz,Ag,bk,hs] at hA
 have d1:=@iR (z.i 21) (z.i 22) (z.i 23) (hT z 200)
 have d2:=lz (iQ (z.i 21) (z.i 22) (z.i 23) (hT z 200))
 have d3:=@dV (z.g 24).length
 have t1:(((z.g 24).length:Nat):Int).toNat=(z.g 24).length:=Int.toNat_natCast _
 have u21:=@bM (z.i 21)
 have u22:=@bM (z.i 22)
 have u23:=@bM (z.i 23)
 have u7:=co z 200
 have u8:=@aP z 200
 have u9:=bq z 200
 have m21:z.i 21<9223372036854775808->(max 0 (z.i 21)%18446744073709551616).toNat=(z.i 21).toNat:=fun a=>by omega
 have m22:z.i 22<9223372036854775808->(max 0 (z.i 22)%18446744073709551616).toNat=(z.i 22).toNat:=fun a=>by omega
 have m23:z.i 23<9223372036854775808->(max 0 (z.i 23)%18446744073709551616).toNat=(z.i 23).toNat:=fun a=>by omega
 have m2:(z.g 24).length<=200->(((z.g 24).length:Int)%18446744073709551616).toNat=(z.g 24).length:=fun h=>by omega
 repeat' with_reducible first|intro _|apply aV|apply aZ|apply aT|apply bf|apply ba
 all_goals first|omega|grind [am,ai,ah,az,aA,aB,aC,aD,aE,aF,aG,aH,ao,List.append_assoc,iQ,bM]
theorem E3:Ok Tryz.prog 66 Cz:=bS 1000 mN (eK cR eN) lN (hn:=.nil) Lv
theorem Lw(z:Sy)(hA:Cy.pre z):Fm.den (let v0:=(z.i 1%(256:Int));let v1:=(18446744073709551616:Int);let v2:=(↑(z.s 2).length:Int);(.ct ((0:Int)<=z.i 3%18446744073709551616/\z.i 3%18446744073709551616<18446744073709551616) (fun y0=>y0.s 10=aI (z.i 3%v1).toNat) fun y0=>(.an ((0:Int)<=z.i 1%256/\True) (.an (1=1) (.an (1=1/\1<=1000000000/\(y0.s 10).length<=1000000) (.ct ((0:Int)<=z.i 4%18446744073709551616/\z.i 4%18446744073709551616<18446744073709551616) (fun y1=>y1.s 10=aI (z.i 4%v1).toNat) fun y1=>(.an (([v0.toNat]++y0.s 10).length=1+(y0.s 10).length/\1+(y0.s 10).length<=1000000000/\(y1.s 10).length<=1000000) (.ct ((0:Int)<=z.i 5%18446744073709551616/\z.i 5%18446744073709551616<18446744073709551616) (fun y2=>y2.s 10=aI (z.i 5%v1).toNat) fun y2=>(.an (([v0.toNat]++y0.s 10++y1.s 10).length=1+(y0.s 10).length+(y1.s 10).length/\1+(y0.s 10).length+(y1.s 10).length<=1000000000/\(y2.s 10).length<=1000000) (.ct (0<=v2%18446744073709551616/\v2%18446744073709551616<18446744073709551616) (fun y3=>y3.s 10=aI (v2%18446744073709551616).toNat) fun y3=>(.an (([v0.toNat]++y0.s 10++y1.s 10++y2.s 10).length=1+(y0.s 10).length+(y1.s 10).length+(y2.s 10).length/\1+(y0.s 10).length+(y1.s 10).length+(y2.s 10).length<=1000000000/\(y3.s 10).length<=1000000) (.an (([v0.toNat]++y0.s 10++y1.s 10++y2.s 10++y3.s 10).length=1+(y0.s 10).length+(y1.s 10).length+(y2.s 10).length+(y3.s 10).length/\1+(y0.s 10).length+(y1.s 10).length+(y2.s 10).length+(y3.s 10).length<=1000000000/\(z.s 2).length<=1000000) (.ct ((0:Int)<=z.i 13%18446744073709551616/\z.i 13%18446744073709551616<18446744073709551616) (fun y4=>y4.s 10=aI (z.i 13%v1).toNat) fun y4=>(.an (([v0.toNat]++y0.s 10++y1.s 10++y2.s 10++y3.s 10++z.s 2).length=1+(y0.s 10).length+(y1.s 10).length+(y2.s 10).length+(y3.s 10).length+(z.s 2).length/\1+(y0.s 10).length+(y1.s 10).length+(y2.s 10).length+(y3.s 10).length+(z.s 2).length<=1000000000/\(y4.s 10).length<=1000000) (.ct ((0:Int)<=z.i 14%18446744073709551616/\z.i 14%18446744073709551616<18446744073709551616) (fun y5=>y5.s 10=aI (z.i 14%v1).toNat) fun y5=>(let v3:=([v0.toNat]++y0.s 10++y1.s 10++y2.s 10++y3.s 10++z.s 2++y4.s 10++y5.s 10);(.an (([v0.toNat]++y0.s 10++y1.s 10++y2.s 10++y3.s 10++z.s 2++y4.s 10).length=1+(y0.s 10).length+(y1.s 10).length+(y2.s 10).length+(y3.s 10).length+(z.s 2).length+(y4.s 10).length/\1+(y0.s 10).length+(y1.s 10).length+(y2.s 10).length+(y3.s 10).length+(z.s 2).length+(y4.s 10).length<=1000000000/\(y5.s 10).length<=1000000) (.two (z.i 1=2) (.an (v3.length=1+(y0.s 10).length+(y1.s 10).length+(y2.s 10).length+(y3.s 10).length+(z.s 2).length+(y4.s 10).length+(y5.s 10).length/\1+(y0.s 10).length+(y1.s 10).length+(y2.s 10).length+(y3.s 10).length+(z.s 2).length+(y4.s 10).length+(y5.s 10).length<=1000000000/\bj (jb z 100)) (.an (([v0.toNat]++y0.s 10++y1.s 10++y2.s 10++y3.s 10++z.s 2++y4.s 10++y5.s 10++aO (jb z 100)).length=1+(y0.s 10).length+(y1.s 10).length+(y2.s 10).length+(y3.s 10).length+(z.s 2).length+(y4.s 10).length+(y5.s 10).length+32/\True) (.at ([v0.toNat]++y0.s 10++y1.s 10++y2.s 10++y3.s 10++z.s 2++y4.s 10++y5.s 10++aO (jb z 100)=cS (z.i 1) (z.s 2) (z.i 3) (z.i 4) (z.i 5) (hT z 100) (z.i 13) (z.i 14))))) (.an (v3.length=1+(y0.s 10).length+(y1.s 10).length+(y2.s 10).length+(y3.s 10).length+(z.s 2).length+(y4.s 10).length+(y5.s 10).length/\True) (.at ([v0.toNat]++y0.s 10++y1.s 10++y2.s 10++y3.s 10++z.s 2++y4.s 10++y5.s 10=cS (z.i 1) (z.s 2) (z.i 3) (z.i 4) (z.i 5) (hT z 100) (z.i 13) (z.i 14)))))))))))))))))))))):=by
 dsimp only [Cy,en,hs,tX,Xf,nY] at hA
 have b0:=br 0 0 0 [] [] []
 have b1:=br (z.i 6) (z.i 7) (z.i 8) (z.s 9) (z.g 10) (z.g 11)
 have i1:=@bU (z.s 2) (z.i 3) (z.i 4) (z.i 5) (z.i 7) (z.s 9) (z.g 10) (z.g 11) (hT z 100) (z.i 13) (z.i 14)
 have g1:=@vV (z.i 1) (z.s 2) (z.i 3) (z.i 4) (z.i 5) (hT z 100) (z.i 13) (z.i 14)
 have g2:=@ri (z.i 1) (z.s 2) (z.i 3) (z.i 4) (z.i 5) (hT z 100) (z.i 13) (z.i 14)
 have u3:=@bM (z.i 3)
 have u4:=@bM (z.i 4)
 have u5:=@bM (z.i 5)
 have u13:=@bM (z.i 13)
 have u14:=@bM (z.i 14)
 have u2:=@dV (z.s 2).length
 have u7:=co z 100
 have u8:=@aP z 100
 have u9:=bq z 100
 have t1:(((z.s 2).length:Nat):Int).toNat=(z.s 2).length:=Int.toNat_natCast _
 have m3:0<=z.i 3->z.i 3<9223372036854775808->(z.i 3%18446744073709551616).toNat=(z.i 3).toNat:=fun a b=>by omega
 have m4:0<=z.i 4->z.i 4<9223372036854775808->(z.i 4%18446744073709551616).toNat=(z.i 4).toNat:=fun a b=>by omega
 have m5:0<=z.i 5->z.i 5<9223372036854775808->(z.i 5%18446744073709551616).toNat=(z.i 5).toNat:=fun a b=>by omega
 have m13:0<=z.i 13->z.i 13<9223372036854775808->(z.i 13%18446744073709551616).toNat=(z.i 13).toNat:=fun a b=>by omega
 have m14:0<=z.i 14->z.i 14<9223372036854775808->(z.i 14%18446744073709551616).toNat=(z.i 14).toNat:=fun a b=>by omega
 have m2:(z.s 2).length<=1000000->(((z.s 2).length:Int)%18446744073709551616).toNat=(z.s 2).length:=fun h=>by omega
 conv=>zeta
 repeat' with_reducible first|intro _|apply aV|apply aZ|apply aT|apply bf|apply ba
 all_goals first|omega|grind [am,ai,ah,az,aA,aB,aC,aD,aE,aF,aG,aH,ao,List.append_assoc,bq]
theorem py:Ok Tryz.prog 14 Cy:=bS 1000 mN (eK cR eN) lN (hn:=(.both .nil .nil)) Lw
theorem Am(p z:Sy)(hA:(oa p).inv z):Fm.den (let v0:=(aq (p.g 24) (z.i 9).toNat);let v1:=(p.i 23=p.i 23/\p.i 22=p.i 22/\p.i 21=p.i 21/\(p.p 25↔p.p 25)/\True);let v2:=((-9223372036854775808:Int)<=z.i 9+1/\z.i 9+1<=9223372036854775807);let v3:=(ck (p.g 24) (0:Int)=0/\fo (p.g 24)/\(p.g 24).length<=200);let v4:=((0:Int)<=z.i 9+1/\z.i 9+1<= ↑(p.g 24).length);let v5:=(↑(p.g 24).length:Int);let v6:=(gL (aa v0 10));let v7:=(gS (aa v0 8));let v8:=(jL p 200);let v9:=(z.i 9+1);let v10:=(gI (aa v0 6));let v11:=(gL (aa v0 9));let f8:=(gI (aa v0 5));let g9:=(gI (aa v0 7));let l7:=(gu (p.p 25) (p.g 24) v9);let o6:=(v5-z.i 9);(.two (z.i 9 < ↑(p.g 24).length) (.an ((0:Int)<=z.i 9/\z.i 9 < ↑(p.g 24).length) (.ct (lR (gS (aa v0 1)) (gI (aa v0 2)) (gI (aa v0 3)) (gI (aa v0 4)) v10 v7 v11 v6 (hX (aa v0 11)) (gI (aa v0 13)) (gI (aa v0 14))/\(0:Int)<=gI (aa v0 2)/\(0:Int)<=gI (aa v0 3)/\(0:Int)<=gI (aa v0 4)/\(0:Int)<=gI (aa v0 13)/\(0:Int)<=gI (aa v0 14)) (fun y0=>y0.s 10=cS (gI (aa v0 0)) (gS (aa v0 1)) (gI (aa v0 2)) (gI (aa v0 3)) (gI (aa v0 4)) (hX (aa v0 11)) (gI (aa v0 13)) (gI (aa v0 14))) fun y0=>(let o9:=((z.s 20++y0.s 10++ [Int.toNat (0:Int)]).length=(z.s 20).length+(y0.s 10).length+1/\p.g 24=p.g 24/\dt v8 v8 v1);let z':=(v3/\v4/\(z.s 20++y0.s 10++ [Int.toNat (0:Int)]).length+l7.length<=20000000);let L':=(z.s 20++y0.s 10);let r9:=(L'.length=(z.s 20).length+(y0.s 10).length/\(z.s 20).length+(y0.s 10).length<=1000000000/\(0:Int)<=0/\True);(.an ((z.s 20).length=(z.s 20).length/\(z.s 20).length<=1000000000/\(y0.s 10).length<=1000000) (.two (gI (aa v0 0)≠2) (.an v2 (.an (L'.length=(z.s 20).length+(y0.s 10).length/\p.g 24=p.g 24/\dt v8 v8 v1) (.at ((v3/\v4/\L'.length+(gu (p.p 25) (p.g 24) (z.i 9+(1:Int))).length<=20000000)/\(v5-v9).toNat<o6.toNat/\∀(y:Sy),y.s 20=z.s 20++y0.s 10++gu (p.p 25) (p.g 24) (z.i 9+(1:Int))->y.s 20=z.s 20++gu (p.p 25) (p.g 24) (z.i 9))))) (.two (gI (aa v0 12)=1) (.an r9 (.an v2 (.an o9 (.at (z'/\(v5-v9).toNat<o6.toNat/\∀(y:Sy),y.s 20=z.s 20++y0.s 10++ [Int.toNat (0:Int)]++gu (p.p 25) (p.g 24) v9->y.s 20=z.s 20++gu (p.p 25) (p.g 24) (z.i 9)))))) (.two (¬p.p 25) (.an r9 (.an v2 (.an o9 (.at (z'/\(v5-v9).toNat<o6.toNat/\∀(y:Sy),y.s 20=z.s 20++y0.s 10++ [Int.toNat (0:Int)]++gu (p.p 25) (p.g 24) v9->y.s 20=z.s 20++gu (p.p 25) (p.g 24) (z.i 9)))))) (.ct (lA 16 v10 v7 v11 v6/\nP 16 v7 v6<=10000000) (fun y1=>y1.i 11=dT f8 v10 g9 v7 v11 v6/\(dT f8 v10 g9 v7 v11 v6=(0:Int)->y1.s 10=da 16 f8 v10 g9 v7 v11 v6/\(da 16 f8 v10 g9 v7 v11 v6).length<=65536)/\(¬dT f8 v10 g9 v7 v11 v6=(0:Int)->y1.s 10= [])) fun y1=>(let v20:=(↑(y1.s 10).length:Int);(.an (L'.length=(z.s 20).length+(y0.s 10).length/\(z.s 20).length+(y0.s 10).length<=1000000000/\(0:Int)<=1/\True) (.ct (0<=v20%18446744073709551616/\v20%18446744073709551616<18446744073709551616) (fun y2=>y2.s 10=aI (v20%18446744073709551616).toNat) fun y2=>(let Yk:=(z.s 20++y0.s 10++ [Int.toNat (1:Int)]++y2.s 10++y1.s 10);(.an ((z.s 20++y0.s 10++ [Int.toNat (1:Int)]).length=(z.s 20).length+(y0.s 10).length+1/\(z.s 20).length+(y0.s 10).length+1<=1000000000/\(y2.s 10).length<=1000000) (.an ((z.s 20++y0.s 10++ [Int.toNat (1:Int)]++y2.s 10).length=(z.s 20).length+(y0.s 10).length+1+(y2.s 10).length/\(z.s 20).length+(y0.s 10).length+1+(y2.s 10).length<=1000000000/\(y1.s 10).length<=1000000) (.an v2 (.an (Yk.length=(z.s 20).length+(y0.s 10).length+1+(y2.s 10).length+(y1.s 10).length/\p.g 24=p.g 24/\dt v8 v8 v1) (.at ((v3/\v4/\Yk.length+l7.length<=20000000)/\(v5-v9).toNat<o6.toNat/\∀(y:Sy),y.s 20=z.s 20++y0.s 10++ [Int.toNat (1:Int)]++y2.s 10++y1.s 10++gu (p.p 25) (p.g 24) v9->y.s 20=z.s 20++gu (p.p 25) (p.g 24) (z.i 9))))))))))))))))))) (.an ((z.s 20).length=(z.s 20).length/\p.g 24=p.g 24/\dt v8 v8 (p.i 23=p.i 23/\p.i 22=p.i 22/\p.i 21=p.i 21/\True)) (.at (z.s 20=z.s 20++gu (p.p 25) (p.g 24) (z.i 9)))))):=by
 dsimp only [oa,tW,Ae,lE] at hA
 have a1:=@mM (p.p 25) (p.g 24) (z.i 9)
 have a2:=@vY (p.p 25) (p.g 24) (z.i 9)
 have a3:=@rj (p.p 25) (aq (p.g 24) (z.i 9).toNat)
 have a4:=@rk (p.p 25) (aq (p.g 24) (z.i 9).toNat)
 have a5:=@mL (p.p 25) (aq (p.g 24) (z.i 9).toNat)
 have a6:=@iP (p.g 24) (z.i 9)
 have a7:=@fq (p.g 24) (z.i 9)
 dsimp only [vW,nW,Cq,nV] at a3 a4 a5 a6 a7
 have b1:=(fun e=>@bU (gS (aa e 1)) (gI (aa e 2)) (gI (aa e 3)) (gI (aa e 4)) (gI (aa e 6)) (gS (aa e 8)) (gL (aa e 9)) (gL (aa e 10)) (hX (aa e 11)) (gI (aa e 13)) (gI (aa e 14))) (aq (p.g 24) (z.i 9).toNat)
 have b2:=(fun e=>fun h=>(@cg (gI (aa e 0)) (gS (aa e 1)) (gI (aa e 2)) (gI (aa e 3)) (gI (aa e 4)) (gI (aa e 5)) (gI (aa e 6)) (gI (aa e 7)) (gS (aa e 8)) (gL (aa e 9)) (gL (aa e 10)) (hX (aa e 11)) (gI (aa e 12)=1) (gI (aa e 13)) (gI (aa e 14)) h).2) (aq (p.g 24) (z.i 9).toNat)
 have q1:=@rr (aq (p.g 24) (z.i 9).toNat)
 dsimp only [nV] at q1
 have l1:=fun a b c d e f g=>@gt (gI (aa (aq (p.g 24) (z.i 9).toNat) 0)) (gS (aa (aq (p.g 24) (z.i 9).toNat) 1)) (gI (aa (aq (p.g 24) (z.i 9).toNat) 2)) (gI (aa (aq (p.g 24) (z.i 9).toNat) 3)) (gI (aa (aq (p.g 24) (z.i 9).toNat) 4)) (hX (aa (aq (p.g 24) (z.i 9).toNat) 11)) (gI (aa (aq (p.g 24) (z.i 9).toNat) 13)) (gI (aa (aq (p.g 24) (z.i 9).toNat) 14)) a b c d e f g
 conv=>zeta
 repeat' with_reducible first|intro _|apply aV|apply aZ|apply aT|apply bf|apply ba
 all_goals first|omega|grind [am,ai,ah,az,aA,aB,aC,aD,aE,aF,aG,aH,ao,List.append_assoc,dV,bM]
theorem CA:dU Tryz.prog 178 0 oa:=bH 1000 mN (eK py (eK nU (eK cR eN))) lN (hn:=(hC 13 2246949)) Am
theorem Ha(z:Sy)(hA:wg.pre z):Fm.den (let v0:=(↑(z.g 24).length:Int);(.ct (HOk (hT z 200)/\z.i 21<9223372036854775808/\z.i 22<9223372036854775808/\z.i 23<9223372036854775808) (fun y0=>y0.s 20=iQ (z.i 21) (z.i 22) (z.i 23) (hT z 200)) fun y0=>(.ct (0<=v0%18446744073709551616/\v0%18446744073709551616<18446744073709551616) (fun y1=>y1.s 10=aI (v0%18446744073709551616).toNat) fun y1=>(.an ((y0.s 20).length=(y0.s 20).length/\(y0.s 20).length<=1000000000/\(y1.s 10).length<=1000000) (.cl (((y0.s 20++y1.s 10).length=(y0.s 20).length+(y1.s 10).length/\z.g 24=z.g 24/\dt (jL z 200) (jL z 200) (z.i 23=z.i 23/\z.i 22=z.i 22/\z.i 21=z.i 21/\(z.p 25↔z.p 25)/\True))) ((ck (z.g 24) (0:Int)=0/\fo (z.g 24)/\(z.g 24).length<=200)/\((0:Int)<=0/\0<=v0)/\(y0.s 20++y1.s 10).length+(gu (z.p 25) (z.g 24) (0:Int)).length<=20000000) (fun y2=>y2.s 20=y0.s 20++y1.s 10++gu (z.p 25) (z.g 24) (0:Int)) fun y2=>(.an ((y2.s 20).length=(y2.s 20).length/\True) (.at (y2.s 20=r_ (z.p 25) (z.i 21) (z.i 22) (z.i 23) (hT z 200) (z.g 24))))))))):=by
 dsimp only [wg,Ah,bk,hs,lE] at hA
 have d1:=@iR (z.i 21) (z.i 22) (z.i 23) (hT z 200)
 have d2:=lz (iQ (z.i 21) (z.i 22) (z.i 23) (hT z 200))
 have d3:=@dV (z.g 24).length
 have t1:(((z.g 24).length:Nat):Int).toNat=(z.g 24).length:=Int.toNat_natCast _
 have u21:=@bM (z.i 21)
 have u22:=@bM (z.i 22)
 have u23:=@bM (z.i 23)
 have u7:=co z 200
 have u8:=@aP z 200
 have u9:=bq z 200
 have m21:z.i 21<9223372036854775808->(max 0 (z.i 21)%18446744073709551616).toNat=(z.i 21).toNat:=fun a=>by omega
 have m22:z.i 22<9223372036854775808->(max 0 (z.i 22)%18446744073709551616).toNat=(z.i 22).toNat:=fun a=>by omega
 have m23:z.i 23<9223372036854775808->(max 0 (z.i 23)%18446744073709551616).toNat=(z.i 23).toNat:=fun a=>by omega
 have m2:(z.g 24).length<=200->(((z.g 24).length:Int)%18446744073709551616).toNat=(z.g 24).length:=fun h=>by omega
 have a1:=fun h hi hn h0 h1=>@Ad (z.p 25) (z.g 24) h hi hn 0 h0 h1
 conv=>zeta
 repeat' with_reducible first|intro _|apply aV|apply aZ|apply aT|apply bf|apply ba
 all_goals first|omega|grind [am,ai,ah,az,aA,aB,aC,aD,aE,aF,aG,aH,ao,List.append_assoc,r_,iQ]
theorem An:Ok Tryz.prog 178 wg:=bS 1000 mN (eK E3 (eK cR eN)) (eL (ptm:=[(0,.ag bk),(1,.c (.b 25))]) CA lN) (hn:=.nil) Ha
theorem Lx(z:Sy)(hA:Cw.pre z):Fm.den (let v0:=(false=true↔c_ (z.i 6) (z.i 7) (z.i 8) (z.s 9) (z.g 10) (z.g 11));let v1:=(↑(z.g 10).length:Int);let v2:=(↑(z.g 11).length:Int);(.two (z.i 6≠0) (.ax v0) (.two (z.i 7≠0) (.ax v0) (.two (z.i 8≠0) (.ax v0) (.two (z.s 9≠ []) (.ax v0) (.two (v1≠0) (.ax v0) (.two (v2≠0) (.ax v0) (.an (¬(0<v1)) (.an (¬(0<v2)) (.ax (true=true↔c_ (z.i 6) (z.i 7) (z.i 8) (z.s 9) (z.g 10) (z.g 11)))))))))))):=by
 dsimp only [Cw,Xe,lD] at hA
 have b1:=br (z.i 6) (z.i 7) (z.i 8) (z.s 9) (z.g 10) (z.g 11)
 conv=>zeta
 repeat' with_reducible first|intro _|apply aV|apply aZ|apply aT|apply bf|apply ba
 all_goals first|omega|grind [am,ai,ah,az,aA,aB,aC,aD,aE,aF,aG,aH,ao,List.append_assoc]
theorem E4:Ok Tryz.prog 239 Cw:=bS 1000 mN eN lN (hn:=(hC 15 252776721)) Lx
theorem Ly(z:Sy)(hA:Cx.pre z):Fm.den (let v0:=(false=true↔z.i 1=z.i 41/\z.s 2=z.s 42/\z.i 3=z.i 43/\z.i 4=z.i 44/\z.i 5=z.i 45/\hT z 100=hT z 400/\(z.p 12↔z.p 52)/\z.i 13=z.i 53/\z.i 14=z.i 54/\c_ (z.i 6) (z.i 7) (z.i 8) (z.s 9) (z.g 10) (z.g 11));let v1:=([z.i 13,z.i 14]= [z.i 53,z.i 54]);(.two (z.i 1=z.i 41) (.two (z.s 2=z.s 42) (.two (z.i 3=z.i 43) (.two (z.i 4=z.i 44) (.two (z.i 5=z.i 45) (.two (lQ (hT z 100) (hT z 400)) (.two (z.p 12) (.two (z.p 52) (.two v1 (.ct (True) (fun y0=>(y0.p 50↔c_ (z.i 6) (z.i 7) (z.i 8) (z.s 9) (z.g 10) (z.g 11))) fun y0=>(.ax (y0.p 50↔z.i 1=z.i 41/\z.s 2=z.s 42/\z.i 3=z.i 43/\z.i 4=z.i 44/\z.i 5=z.i 45/\hT z 100=hT z 400/\(z.p 12↔z.p 52)/\z.i 13=z.i 53/\z.i 14=z.i 54/\c_ (z.i 6) (z.i 7) (z.i 8) (z.s 9) (z.g 10) (z.g 11)))) (.ax v0)) (.ax v0)) (.two (z.p 52) (.ax v0) (.two v1 (.ct (True) (fun y1=>(y1.p 50↔c_ (z.i 6) (z.i 7) (z.i 8) (z.s 9) (z.g 10) (z.g 11))) fun y1=>(.ax (y1.p 50↔z.i 1=z.i 41/\z.s 2=z.s 42/\z.i 3=z.i 43/\z.i 4=z.i 44/\z.i 5=z.i 45/\hT z 100=hT z 400/\(z.p 12↔z.p 52)/\z.i 13=z.i 53/\z.i 14=z.i 54/\c_ (z.i 6) (z.i 7) (z.i 8) (z.s 9) (z.g 10) (z.g 11)))) (.ax v0)))) (.ax v0)) (.ax v0)) (.ax v0)) (.ax v0)) (.ax v0)) (.ax v0))):=by
 dsimp only [Cx,en,hs,Xd,lD] at hA
 conv=>zeta
 repeat' with_reducible first|intro _|apply aV|apply aZ|apply aT|apply bf|apply ba
 all_goals first|omega|grind [am,ai,ah,az,aA,aB,aC,aD,aE,aF,aG,aH,ao,List.append_assoc]
theorem Pb:Ok Tryz.prog 238 Cx:=bS 1000 mN (eK E4 eN) lN (hn:=(hC 23 285300053)) Ly
theorem Pc(z:Sy)(hA:Lt.pre z):Fm.den (let v1:=(z.i 5<=2147483648);let v2:=(c_ (z.i 6) (z.i 7) (z.i 8) (z.s 9) (z.g 10) (z.g 11));let v3:=(z.i 4<=65536);let v4:=(z.p 12↔false=true);let v5:=(z.i 3<=64);let v6:=(↑(z.s 2).length:Int);let v7:=(hT z 100=hZ);let v0:=(false=true↔dE (z.i 1) (z.s 2) (z.i 3) (z.i 4) (z.i 5) v2 v7 (z.p 12) (z.i 13) (z.i 14));let v8:=(z.i 13<=2147483648);let v9:=(z.i 14<=2147483648);let v10:=((0:Int)<=z.i 13);let v11:=((0:Int)<=z.i 14);let f8:=(z.i 1=5);let g9:=(z.i 1=1);let l7:=(z.i 1=2);let o6:=(z.i 1=3);let r9:=(z.i 1=4);let o9:=(z.i 1=7);let z':=(z.i 1=6);let L':=((1:Int)<=z.i 4);let v20:=((0:Int)<=z.i 5);let Yk:=(z.p 12↔z.p 12);let Xy:=(¬(1<=v6));let Yx:=(v6<=4096);(.two (1<=v6) (.two ((1:Int)<=z.i 3) (.two L' (.two g9 (.an (1<=v6) (.two Yx (.ct (True) (fun y0=>(y0.p 50↔z.i 1=z.i 1/\z.s 2=z.s 2/\z.i 3=0/\z.i 4=0/\z.i 5=0/\hT z 100=hZ/\v4/\z.i 13=0/\z.i 14=0/\c_ (z.i 6) (z.i 7) (z.i 8) (z.s 9) (z.g 10) (z.g 11))) fun y0=>(.ax (y0.p 50↔dE (z.i 1) (z.s 2) (z.i 3) (z.i 4) (z.i 5) v2 v7 (z.p 12) (z.i 13) (z.i 14)))) (.ax v0))) (.two l7 (.two (z.p 12) (.ct (True) (fun y1=>(y1.p 50↔c_ (z.i 6) (z.i 7) (z.i 8) (z.s 9) (z.g 10) (z.g 11))) fun y1=>(.two (¬y1.p 50) (.ax v0) (.two v5 (.an v5 (.two v3 (.an v3 (.an v3 (.two v20 (.an v3 (.two v1 (.an v1 (.an v1 (.an v1 (.an v1 (.an v1 (.an v1 (.an v1 (.an v1 (.an v1 (.an v1 (.an v1 (.an v1 (.an v1 (.an v1 (.an v1 (.ct (True) (fun y2=>(y2.p 50↔z.i 1=z.i 1/\z.s 2= []/\z.i 3=z.i 3/\z.i 4=z.i 4/\z.i 5=z.i 5/\hT z 100=hT z 100/\Yk/\z.i 13=0/\z.i 14=0/\c_ (0:Int) 0 0 [] [] [])) fun y2=>(.an v1 (.ax (y2.p 50↔dE (z.i 1) (z.s 2) (z.i 3) (z.i 4) (z.i 5) v2 v7 (z.p 12) (z.i 13) (z.i 14)))))))))))))))))))) (.an (¬v1) (.an (¬v1) (.an (¬v1) (.an (¬v1) (.an (¬v1) (.an (¬v1) (.an (¬v1) (.an (¬v1) (.an (¬v1) (.an (¬v1) (.an (¬v1) (.an (¬v1) (.an (¬v1) (.an (¬v1) (.an (¬v1) (.an (¬v1) (.ax v0))))))))))))))))))) (.an v3 (.ax v0))))) (.an (¬v3) (.an (¬v3) (.an (¬v3) (.ax v0)))))) (.an (¬v5) (.ax v0))))) (.two v5 (.an v5 (.two v3 (.an v3 (.an v3 (.two v20 (.an v3 (.two v1 (.an v1 (.an v1 (.an v1 (.an v1 (.an v1 (.an v1 (.an v1 (.an v1 (.an v1 (.an v1 (.an v1 (.an v1 (.an v1 (.an v1 (.an v1 (.ct (True) (fun y3=>(y3.p 50↔z.i 1=z.i 1/\z.s 2= []/\z.i 3=z.i 3/\z.i 4=z.i 4/\z.i 5=z.i 5/\hT z 100=hT z 100/\Yk/\z.i 13=0/\z.i 14=0/\c_ (0:Int) 0 0 [] [] [])) fun y3=>(.an v1 (.ax (y3.p 50↔dE (z.i 1) (z.s 2) (z.i 3) (z.i 4) (z.i 5) v2 v7 (z.p 12) (z.i 13) (z.i 14)))))))))))))))))))) (.an (¬v1) (.an (¬v1) (.an (¬v1) (.an (¬v1) (.an (¬v1) (.an (¬v1) (.an (¬v1) (.an (¬v1) (.an (¬v1) (.an (¬v1) (.an (¬v1) (.an (¬v1) (.an (¬v1) (.an (¬v1) (.an (¬v1) (.an (¬v1) (.ax v0))))))))))))))))))) (.an v3 (.ax v0))))) (.an (¬v3) (.an (¬v3) (.an (¬v3) (.ax v0)))))) (.an (¬v5) (.ax v0)))) (.two o6 (.two v5 (.two v3 (.two ((1:Int)<=z.i 5) (.two v1 (.ct (True) (fun y4=>(y4.p 50↔z.i 1=z.i 1/\z.s 2= []/\z.i 3=z.i 3/\z.i 4=z.i 4/\z.i 5=z.i 5/\hT z 100=hZ/\v4/\z.i 13=0/\z.i 14=0/\c_ (z.i 6) (z.i 7) (z.i 8) (z.s 9) (z.g 10) (z.g 11))) fun y4=>(.ax (y4.p 50↔dE (z.i 1) (z.s 2) (z.i 3) (z.i 4) (z.i 5) v2 v7 (z.p 12) (z.i 13) (z.i 14)))) (.ax v0)) (.ax v0)) (.ax v0)) (.ax v0)) (.two r9 (.two v10 (.two v8 (.two v11 (.two v9 (.ct (True) (fun y5=>(y5.p 50↔z.i 1=z.i 1/\z.s 2= []/\z.i 3=0/\z.i 4=0/\z.i 5=0/\hT z 100=hZ/\v4/\z.i 13=z.i 13/\z.i 14=z.i 14/\c_ (z.i 6) (z.i 7) (z.i 8) (z.s 9) (z.g 10) (z.g 11))) fun y5=>(.ax (y5.p 50↔dE (z.i 1) (z.s 2) (z.i 3) (z.i 4) (z.i 5) v2 v7 (z.p 12) (z.i 13) (z.i 14)))) (.ax v0)) (.ax v0)) (.ax v0)) (.ax v0)) (.two f8 (.an f8 (.two v5 (.two (v6<=40) (.ct (True) (fun y6=>(y6.p 50↔z.i 1=z.i 1/\z.s 2=z.s 2/\z.i 3=z.i 3/\z.i 4=0/\z.i 5=0/\hT z 100=hZ/\v4/\z.i 13=0/\z.i 14=0/\c_ (z.i 6) (z.i 7) (z.i 8) (z.s 9) (z.g 10) (z.g 11))) fun y6=>(.ax (y6.p 50↔dE (z.i 1) (z.s 2) (z.i 3) (z.i 4) (z.i 5) v2 v7 (z.p 12) (z.i 13) (z.i 14)))) (.ax v0)) (.ax v0))) (.two o9 (.two v5 (.two (v6<=40) (.ct (True) (fun y7=>(y7.p 50↔z.i 1=z.i 1/\z.s 2=z.s 2/\z.i 3=z.i 3/\z.i 4=0/\z.i 5=0/\hT z 100=hZ/\v4/\z.i 13=0/\z.i 14=0/\c_ (z.i 6) (z.i 7) (z.i 8) (z.s 9) (z.g 10) (z.g 11))) fun y7=>(.ax (y7.p 50↔dE (z.i 1) (z.s 2) (z.i 3) (z.i 4) (z.i 5) v2 v7 (z.p 12) (z.i 13) (z.i 14)))) (.ax v0)) (.ax v0)) (.two z' (.two v5 (.ct (True) (fun y8=>(y8.p 50↔z.i 1=z.i 1/\z.s 2= []/\z.i 3=z.i 3/\z.i 4=0/\z.i 5=0/\hT z 100=hZ/\v4/\z.i 13=0/\z.i 14=0/\c_ (z.i 6) (z.i 7) (z.i 8) (z.s 9) (z.g 10) (z.g 11))) fun y8=>(.ax (y8.p 50↔dE (z.i 1) (z.s 2) (z.i 3) (z.i 4) (z.i 5) v2 v7 (z.p 12) (z.i 13) (z.i 14)))) (.ax v0)) (.ax v0)))))))) (.two g9 (.an (1<=v6) (.two Yx (.ct (True) (fun y9=>(y9.p 50↔z.i 1=z.i 1/\z.s 2=z.s 2/\z.i 3=0/\z.i 4=0/\z.i 5=0/\hT z 100=hZ/\v4/\z.i 13=0/\z.i 14=0/\c_ (z.i 6) (z.i 7) (z.i 8) (z.s 9) (z.g 10) (z.g 11))) fun y9=>(.ax (y9.p 50↔dE (z.i 1) (z.s 2) (z.i 3) (z.i 4) (z.i 5) v2 v7 (z.p 12) (z.i 13) (z.i 14)))) (.ax v0))) (.two l7 (.two (z.p 12) (.ct (True) (fun J'=>(J'.p 50↔c_ (z.i 6) (z.i 7) (z.i 8) (z.s 9) (z.g 10) (z.g 11))) fun J'=>(.two (¬J'.p 50) (.ax v0) (.two v5 (.an v5 (.ax v0)) (.an (¬v5) (.ax v0))))) (.two v5 (.an v5 (.ax v0)) (.an (¬v5) (.ax v0)))) (.two o6 (.two v5 (.ax v0) (.ax v0)) (.two r9 (.two v10 (.two v8 (.two v11 (.two v9 (.ct (True) (fun M'=>(M'.p 50↔z.i 1=z.i 1/\z.s 2= []/\z.i 3=0/\z.i 4=0/\z.i 5=0/\hT z 100=hZ/\v4/\z.i 13=z.i 13/\z.i 14=z.i 14/\c_ (z.i 6) (z.i 7) (z.i 8) (z.s 9) (z.g 10) (z.g 11))) fun M'=>(.ax (M'.p 50↔dE (z.i 1) (z.s 2) (z.i 3) (z.i 4) (z.i 5) v2 v7 (z.p 12) (z.i 13) (z.i 14)))) (.ax v0)) (.ax v0)) (.ax v0)) (.ax v0)) (.two f8 (.an f8 (.two v5 (.two (v6<=40) (.ct (True) (fun Yr=>(Yr.p 50↔z.i 1=z.i 1/\z.s 2=z.s 2/\z.i 3=z.i 3/\z.i 4=0/\z.i 5=0/\hT z 100=hZ/\v4/\z.i 13=0/\z.i 14=0/\c_ (z.i 6) (z.i 7) (z.i 8) (z.s 9) (z.g 10) (z.g 11))) fun Yr=>(.ax (Yr.p 50↔dE (z.i 1) (z.s 2) (z.i 3) (z.i 4) (z.i 5) v2 v7 (z.p 12) (z.i 13) (z.i 14)))) (.ax v0)) (.ax v0))) (.two o9 (.two v5 (.two (v6<=40) (.ct (True) (fun Yj=>(Yj.p 50↔z.i 1=z.i 1/\z.s 2=z.s 2/\z.i 3=z.i 3/\z.i 4=0/\z.i 5=0/\hT z 100=hZ/\v4/\z.i 13=0/\z.i 14=0/\c_ (z.i 6) (z.i 7) (z.i 8) (z.s 9) (z.g 10) (z.g 11))) fun Yj=>(.ax (Yj.p 50↔dE (z.i 1) (z.s 2) (z.i 3) (z.i 4) (z.i 5) v2 v7 (z.p 12) (z.i 13) (z.i 14)))) (.ax v0)) (.ax v0)) (.two z' (.two v5 (.ct (True) (fun j7=>(j7.p 50↔z.i 1=z.i 1/\z.s 2= []/\z.i 3=z.i 3/\z.i 4=0/\z.i 5=0/\hT z 100=hZ/\v4/\z.i 13=0/\z.i 14=0/\c_ (z.i 6) (z.i 7) (z.i 8) (z.s 9) (z.g 10) (z.g 11))) fun j7=>(.ax (j7.p 50↔dE (z.i 1) (z.s 2) (z.i 3) (z.i 4) (z.i 5) v2 v7 (z.p 12) (z.i 13) (z.i 14)))) (.ax v0)) (.ax v0))))))))) (.two L' (.two g9 (.an (1<=v6) (.two Yx (.ct (True) (fun YQ=>(YQ.p 50↔z.i 1=z.i 1/\z.s 2=z.s 2/\z.i 3=0/\z.i 4=0/\z.i 5=0/\hT z 100=hZ/\v4/\z.i 13=0/\z.i 14=0/\c_ (z.i 6) (z.i 7) (z.i 8) (z.s 9) (z.g 10) (z.g 11))) fun YQ=>(.ax (YQ.p 50↔dE (z.i 1) (z.s 2) (z.i 3) (z.i 4) (z.i 5) v2 v7 (z.p 12) (z.i 13) (z.i 14)))) (.ax v0))) (.two l7 (.two (z.p 12) (.ct (True) (fun XA=>(XA.p 50↔c_ (z.i 6) (z.i 7) (z.i 8) (z.s 9) (z.g 10) (z.g 11))) fun XA=>(.two (¬XA.p 50) (.ax v0) (.ax v0))) (.ax v0)) (.two o6 (.ax v0) (.two r9 (.two v10 (.two v8 (.two v11 (.two v9 (.ct (True) (fun Zv=>(Zv.p 50↔z.i 1=z.i 1/\z.s 2= []/\z.i 3=0/\z.i 4=0/\z.i 5=0/\hT z 100=hZ/\v4/\z.i 13=z.i 13/\z.i 14=z.i 14/\c_ (z.i 6) (z.i 7) (z.i 8) (z.s 9) (z.g 10) (z.g 11))) fun Zv=>(.ax (Zv.p 50↔dE (z.i 1) (z.s 2) (z.i 3) (z.i 4) (z.i 5) v2 v7 (z.p 12) (z.i 13) (z.i 14)))) (.ax v0)) (.ax v0)) (.ax v0)) (.ax v0)) (.two f8 (.an f8 (.ax v0)) (.two o9 (.ax v0) (.two z' (.ax v0) (.ax v0)))))))) (.two g9 (.an (1<=v6) (.two Yx (.ct (True) (fun ZG=>(ZG.p 50↔z.i 1=z.i 1/\z.s 2=z.s 2/\z.i 3=0/\z.i 4=0/\z.i 5=0/\hT z 100=hZ/\v4/\z.i 13=0/\z.i 14=0/\c_ (z.i 6) (z.i 7) (z.i 8) (z.s 9) (z.g 10) (z.g 11))) fun ZG=>(.ax (ZG.p 50↔dE (z.i 1) (z.s 2) (z.i 3) (z.i 4) (z.i 5) v2 v7 (z.p 12) (z.i 13) (z.i 14)))) (.ax v0))) (.two l7 (.two (z.p 12) (.ct (True) (fun ZH=>(ZH.p 50↔c_ (z.i 6) (z.i 7) (z.i 8) (z.s 9) (z.g 10) (z.g 11))) fun ZH=>(.two (¬ZH.p 50) (.ax v0) (.ax v0))) (.ax v0)) (.two o6 (.ax v0) (.two r9 (.two v10 (.two v8 (.two v11 (.two v9 (.ct (True) (fun Zw=>(Zw.p 50↔z.i 1=z.i 1/\z.s 2= []/\z.i 3=0/\z.i 4=0/\z.i 5=0/\hT z 100=hZ/\v4/\z.i 13=z.i 13/\z.i 14=z.i 14/\c_ (z.i 6) (z.i 7) (z.i 8) (z.s 9) (z.g 10) (z.g 11))) fun Zw=>(.ax (Zw.p 50↔dE (z.i 1) (z.s 2) (z.i 3) (z.i 4) (z.i 5) v2 v7 (z.p 12) (z.i 13) (z.i 14)))) (.ax v0)) (.ax v0)) (.ax v0)) (.ax v0)) (.two f8 (.an f8 (.ax v0)) (.two o9 (.ax v0) (.two z' (.ax v0) (.ax v0)))))))))) (.two ((1:Int)<=z.i 3) (.two L' (.two g9 (.an Xy (.ax v0)) (.two l7 (.two (z.p 12) (.ct (True) (fun ZO=>(ZO.p 50↔c_ (z.i 6) (z.i 7) (z.i 8) (z.s 9) (z.g 10) (z.g 11))) fun ZO=>(.two (¬ZO.p 50) (.ax v0) (.two v5 (.an v5 (.two v3 (.an v3 (.an v3 (.two v20 (.an v3 (.two v1 (.an v1 (.an v1 (.an v1 (.an v1 (.an v1 (.an v1 (.an v1 (.an v1 (.an v1 (.an v1 (.an v1 (.an v1 (.an v1 (.an v1 (.an v1 (.ct (True) (fun y22=>(y22.p 50↔z.i 1=z.i 1/\z.s 2= []/\z.i 3=z.i 3/\z.i 4=z.i 4/\z.i 5=z.i 5/\hT z 100=hT z 100/\Yk/\z.i 13=0/\z.i 14=0/\c_ (0:Int) 0 0 [] [] [])) fun y22=>(.an v1 (.ax (y22.p 50↔dE (z.i 1) (z.s 2) (z.i 3) (z.i 4) (z.i 5) v2 v7 (z.p 12) (z.i 13) (z.i 14)))))))))))))))))))) (.an (¬v1) (.an (¬v1) (.an (¬v1) (.an (¬v1) (.an (¬v1) (.an (¬v1) (.an (¬v1) (.an (¬v1) (.an (¬v1) (.an (¬v1) (.an (¬v1) (.an (¬v1) (.an (¬v1) (.an (¬v1) (.an (¬v1) (.an (¬v1) (.ax v0))))))))))))))))))) (.an v3 (.ax v0))))) (.an (¬v3) (.an (¬v3) (.an (¬v3) (.ax v0)))))) (.an (¬v5) (.ax v0))))) (.two v5 (.an v5 (.two v3 (.an v3 (.an v3 (.two v20 (.an v3 (.two v1 (.an v1 (.an v1 (.an v1 (.an v1 (.an v1 (.an v1 (.an v1 (.an v1 (.an v1 (.an v1 (.an v1 (.an v1 (.an v1 (.an v1 (.an v1 (.ct (True) (fun y23=>(y23.p 50↔z.i 1=z.i 1/\z.s 2= []/\z.i 3=z.i 3/\z.i 4=z.i 4/\z.i 5=z.i 5/\hT z 100=hT z 100/\Yk/\z.i 13=0/\z.i 14=0/\c_ (0:Int) 0 0 [] [] [])) fun y23=>(.an v1 (.ax (y23.p 50↔dE (z.i 1) (z.s 2) (z.i 3) (z.i 4) (z.i 5) v2 v7 (z.p 12) (z.i 13) (z.i 14)))))))))))))))))))) (.an (¬v1) (.an (¬v1) (.an (¬v1) (.an (¬v1) (.an (¬v1) (.an (¬v1) (.an (¬v1) (.an (¬v1) (.an (¬v1) (.an (¬v1) (.an (¬v1) (.an (¬v1) (.an (¬v1) (.an (¬v1) (.an (¬v1) (.an (¬v1) (.ax v0))))))))))))))))))) (.an v3 (.ax v0))))) (.an (¬v3) (.an (¬v3) (.an (¬v3) (.ax v0)))))) (.an (¬v5) (.ax v0)))) (.two o6 (.two v5 (.two v3 (.two ((1:Int)<=z.i 5) (.two v1 (.ct (True) (fun y24=>(y24.p 50↔z.i 1=z.i 1/\z.s 2= []/\z.i 3=z.i 3/\z.i 4=z.i 4/\z.i 5=z.i 5/\hT z 100=hZ/\v4/\z.i 13=0/\z.i 14=0/\c_ (z.i 6) (z.i 7) (z.i 8) (z.s 9) (z.g 10) (z.g 11))) fun y24=>(.ax (y24.p 50↔dE (z.i 1) (z.s 2) (z.i 3) (z.i 4) (z.i 5) v2 v7 (z.p 12) (z.i 13) (z.i 14)))) (.ax v0)) (.ax v0)) (.ax v0)) (.ax v0)) (.two r9 (.two v10 (.two v8 (.two v11 (.two v9 (.ct (True) (fun y25=>(y25.p 50↔z.i 1=z.i 1/\z.s 2= []/\z.i 3=0/\z.i 4=0/\z.i 5=0/\hT z 100=hZ/\v4/\z.i 13=z.i 13/\z.i 14=z.i 14/\c_ (z.i 6) (z.i 7) (z.i 8) (z.s 9) (z.g 10) (z.g 11))) fun y25=>(.ax (y25.p 50↔dE (z.i 1) (z.s 2) (z.i 3) (z.i 4) (z.i 5) v2 v7 (z.p 12) (z.i 13) (z.i 14)))) (.ax v0)) (.ax v0)) (.ax v0)) (.ax v0)) (.two f8 (.an f8 (.two v5 (.ax v0) (.ax v0))) (.two o9 (.two v5 (.ax v0) (.ax v0)) (.two z' (.two v5 (.ct (True) (fun y26=>(y26.p 50↔z.i 1=z.i 1/\z.s 2= []/\z.i 3=z.i 3/\z.i 4=0/\z.i 5=0/\hT z 100=hZ/\v4/\z.i 13=0/\z.i 14=0/\c_ (z.i 6) (z.i 7) (z.i 8) (z.s 9) (z.g 10) (z.g 11))) fun y26=>(.ax (y26.p 50↔dE (z.i 1) (z.s 2) (z.i 3) (z.i 4) (z.i 5) v2 v7 (z.p 12) (z.i 13) (z.i 14)))) (.ax v0)) (.ax v0)))))))) (.two g9 (.an Xy (.ax v0)) (.two l7 (.two (z.p 12) (.ct (True) (fun y27=>(y27.p 50↔c_ (z.i 6) (z.i 7) (z.i 8) (z.s 9) (z.g 10) (z.g 11))) fun y27=>(.two (¬y27.p 50) (.ax v0) (.two v5 (.an v5 (.ax v0)) (.an (¬v5) (.ax v0))))) (.two v5 (.an v5 (.ax v0)) (.an (¬v5) (.ax v0)))) (.two o6 (.two v5 (.ax v0) (.ax v0)) (.two r9 (.two v10 (.two v8 (.two v11 (.two v9 (.ct (True) (fun y28=>(y28.p 50↔z.i 1=z.i 1/\z.s 2= []/\z.i 3=0/\z.i 4=0/\z.i 5=0/\hT z 100=hZ/\v4/\z.i 13=z.i 13/\z.i 14=z.i 14/\c_ (z.i 6) (z.i 7) (z.i 8) (z.s 9) (z.g 10) (z.g 11))) fun y28=>(.ax (y28.p 50↔dE (z.i 1) (z.s 2) (z.i 3) (z.i 4) (z.i 5) v2 v7 (z.p 12) (z.i 13) (z.i 14)))) (.ax v0)) (.ax v0)) (.ax v0)) (.ax v0)) (.two f8 (.an f8 (.two v5 (.ax v0) (.ax v0))) (.two o9 (.two v5 (.ax v0) (.ax v0)) (.two z' (.two v5 (.ct (True) (fun y29=>(y29.p 50↔z.i 1=z.i 1/\z.s 2= []/\z.i 3=z.i 3/\z.i 4=0/\z.i 5=0/\hT z 100=hZ/\v4/\z.i 13=0/\z.i 14=0/\c_ (z.i 6) (z.i 7) (z.i 8) (z.s 9) (z.g 10) (z.g 11))) fun y29=>(.ax (y29.p 50↔dE (z.i 1) (z.s 2) (z.i 3) (z.i 4) (z.i 5) v2 v7 (z.p 12) (z.i 13) (z.i 14)))) (.ax v0)) (.ax v0))))))))) (.two L' (.two g9 (.an Xy (.ax v0)) (.two l7 (.two (z.p 12) (.ct (True) (fun y30=>(y30.p 50↔c_ (z.i 6) (z.i 7) (z.i 8) (z.s 9) (z.g 10) (z.g 11))) fun y30=>(.two (¬y30.p 50) (.ax v0) (.ax v0))) (.ax v0)) (.two o6 (.ax v0) (.two r9 (.two v10 (.two v8 (.two v11 (.two v9 (.ct (True) (fun y31=>(y31.p 50↔z.i 1=z.i 1/\z.s 2= []/\z.i 3=0/\z.i 4=0/\z.i 5=0/\hT z 100=hZ/\v4/\z.i 13=z.i 13/\z.i 14=z.i 14/\c_ (z.i 6) (z.i 7) (z.i 8) (z.s 9) (z.g 10) (z.g 11))) fun y31=>(.ax (y31.p 50↔dE (z.i 1) (z.s 2) (z.i 3) (z.i 4) (z.i 5) v2 v7 (z.p 12) (z.i 13) (z.i 14)))) (.ax v0)) (.ax v0)) (.ax v0)) (.ax v0)) (.two f8 (.an f8 (.ax v0)) (.two o9 (.ax v0) (.two z' (.ax v0) (.ax v0)))))))) (.two g9 (.an Xy (.ax v0)) (.two l7 (.two (z.p 12) (.ct (True) (fun y32=>(y32.p 50↔c_ (z.i 6) (z.i 7) (z.i 8) (z.s 9) (z.g 10) (z.g 11))) fun y32=>(.two (¬y32.p 50) (.ax v0) (.ax v0))) (.ax v0)) (.two o6 (.ax v0) (.two r9 (.two v10 (.two v8 (.two v11 (.two v9 (.ct (True) (fun y33=>(y33.p 50↔z.i 1=z.i 1/\z.s 2= []/\z.i 3=0/\z.i 4=0/\z.i 5=0/\hT z 100=hZ/\v4/\z.i 13=z.i 13/\z.i 14=z.i 14/\c_ (z.i 6) (z.i 7) (z.i 8) (z.s 9) (z.g 10) (z.g 11))) fun y33=>(.ax (y33.p 50↔dE (z.i 1) (z.s 2) (z.i 3) (z.i 4) (z.i 5) v2 v7 (z.p 12) (z.i 13) (z.i 14)))) (.ax v0)) (.ax v0)) (.ax v0)) (.ax v0)) (.two f8 (.an f8 (.ax v0)) (.two o9 (.ax v0) (.two z' (.ax v0) (.ax v0)))))))))))):=by
 dsimp only [Lt,en,hs,Af,lD] at hA
 have b0:=br 0 0 0 [] [] []
 have b1:=br (z.i 6) (z.i 7) (z.i 8) (z.s 9) (z.g 10) (z.g 11)
 have k0:=@Lm (z.i 1) (z.s 2) (z.i 3) (z.i 4) (z.i 5) (lD z) (hT z 100=hZ) (z.p 12) (z.i 13) (z.i 14)
 have k1:=@Aa (z.i 1) (z.s 2) (z.i 3) (z.i 4) (z.i 5) (lD z) (hT z 100=hZ) (z.p 12) (z.i 13) (z.i 14)
 have k2:=@Ab (z.i 1) (z.s 2) (z.i 3) (z.i 4) (z.i 5) (lD z) (hT z 100=hZ) (z.p 12) (z.i 13) (z.i 14)
 have k3:=@EV (z.i 1) (z.s 2) (z.i 3) (z.i 4) (z.i 5) (lD z) (hT z 100=hZ) (z.p 12) (z.i 13) (z.i 14)
 have k4:=@EW (z.i 1) (z.s 2) (z.i 3) (z.i 4) (z.i 5) (lD z) (hT z 100=hZ) (z.p 12) (z.i 13) (z.i 14)
 have k5:=@EX (z.i 1) (z.s 2) (z.i 3) (z.i 4) (z.i 5) (lD z) (hT z 100=hZ) (z.p 12) (z.i 13) (z.i 14)
 have k6:=@EZ (z.i 1) (z.s 2) (z.i 3) (z.i 4) (z.i 5) (lD z) (hT z 100=hZ) (z.p 12) (z.i 13) (z.i 14)
 have k7:=@EY (z.i 1) (z.s 2) (z.i 3) (z.i 4) (z.i 5) (lD z) (hT z 100=hZ) (z.p 12) (z.i 13) (z.i 14)
 conv=>zeta
 repeat' with_reducible first|intro _|apply aV|apply aZ|apply aT|apply bf|apply ba
 all_goals first|omega|grind [am,ai,ah,az,aA,aB,aC,aD,aE,aF,aG,aH,ao,List.append_assoc]
theorem SF:Ok Tryz.prog 201 Lt:=bS 1000 mN (eK E4 (eK Pb eN)) lN (hn:=(hC 511 752284985987381809361482556895222340747926965784973504436368528867456453364603062265821290563538819625423571659703732656557169399069588606992552448313008458208581891735127039844562146795194998364014372884299066920807151376197550747783282279774588371718198863098906340115675430329289735128693578438735627861)) Pc
theorem SG(z:Sy)(hA:SE.pre z):Fm.den (let v1:=(hT z 100);let v0:=((0:Int)=cJ (z.i 1) (z.s 2) (z.i 3) (z.i 4) (z.i 5) (z.i 6) (z.i 7) (z.i 8) (z.s 9) (z.g 10) (z.g 11) v1 (z.p 12) (z.i 13) (z.i 14));(.ct (True) (fun y0=>(y0.p 50↔dE (z.i 1) (z.s 2) (z.i 3) (z.i 4) (z.i 5) (c_ (z.i 6) (z.i 7) (z.i 8) (z.s 9) (z.g 10) (z.g 11)) (hT z 100=hZ) (z.p 12) (z.i 13) (z.i 14))) fun y0=>(.two (¬y0.p 50) (.ax ((3:Int)=cJ (z.i 1) (z.s 2) (z.i 3) (z.i 4) (z.i 5) (z.i 6) (z.i 7) (z.i 8) (z.s 9) (z.g 10) (z.g 11) v1 (z.p 12) (z.i 13) (z.i 14))) (.two (z.i 1≠2) (.ax v0) (.two (z.p 12) (.ax v0) (.ct (lA 16 (z.i 7) (z.s 9) (z.g 10) (z.g 11)/\nP 16 (z.s 9) (z.g 11)<=10000000) (fun y1=>y1.i 11=dT (z.i 6) (z.i 7) (z.i 8) (z.s 9) (z.g 10) (z.g 11)/\hT y1 300=zS (z.i 6) (z.i 7) (z.i 8) (z.s 9) (z.g 10) (z.g 11)) fun y1=>(.two (y1.i 11≠0) (.ax (y1.i 11=cJ (z.i 1) (z.s 2) (z.i 3) (z.i 4) (z.i 5) (z.i 6) (z.i 7) (z.i 8) (z.s 9) (z.g 10) (z.g 11) v1 (z.p 12) (z.i 13) (z.i 14))) (.two (¬lQ (hT y1 300) v1) (.ax ((18:Int)=cJ (z.i 1) (z.s 2) (z.i 3) (z.i 4) (z.i 5) (z.i 6) (z.i 7) (z.i 8) (z.s 9) (z.g 10) (z.g 11) v1 (z.p 12) (z.i 13) (z.i 14))) (.ax v0))))))))):=by
 dsimp only [SE,eV,en,hs,tX,sa] at hA
 have b0:=br 0 0 0 [] [] []
 have b1:=br (z.i 6) (z.i 7) (z.i 8) (z.s 9) (z.g 10) (z.g 11)
 have i1:=@bU (z.s 2) (z.i 3) (z.i 4) (z.i 5) (z.i 7) (z.s 9) (z.g 10) (z.g 11) (hT z 100) (z.i 13) (z.i 14)
 have f1:=@eT (z.i 1) (z.s 2) (z.i 3) (z.i 4) (z.i 5) (z.i 6) (z.i 7) (z.i 8) (z.s 9) (z.g 10) (z.g 11) (hT z 100) (z.p 12) (z.i 13) (z.i 14)
 have f2:=@eU (z.i 1) (z.s 2) (z.i 3) (z.i 4) (z.i 5) (z.i 6) (z.i 7) (z.i 8) (z.s 9) (z.g 10) (z.g 11) (hT z 100) (z.p 12) (z.i 13) (z.i 14)
 have f3:=@gq (z.i 1) (z.s 2) (z.i 3) (z.i 4) (z.i 5) (z.i 6) (z.i 7) (z.i 8) (z.s 9) (z.g 10) (z.g 11) (hT z 100) (z.p 12) (z.i 13) (z.i 14)
 have f4:=@iO (z.i 1) (z.s 2) (z.i 3) (z.i 4) (z.i 5) (z.i 6) (z.i 7) (z.i 8) (z.s 9) (z.g 10) (z.g 11) (hT z 100) (z.p 12) (z.i 13) (z.i 14)
 have f5:=@jP (z.i 1) (z.s 2) (z.i 3) (z.i 4) (z.i 5) (z.i 6) (z.i 7) (z.i 8) (z.s 9) (z.g 10) (z.g 11) (hT z 100) (z.p 12) (z.i 13) (z.i 14)
 have f6:=@cg (z.i 1) (z.s 2) (z.i 3) (z.i 4) (z.i 5) (z.i 6) (z.i 7) (z.i 8) (z.s 9) (z.g 10) (z.g 11) (hT z 100) (z.p 12) (z.i 13) (z.i 14)
 conv=>zeta
 repeat' with_reducible first|intro _|apply aV|apply aZ|apply aT|apply bf|apply ba
 all_goals first|omega|grind [am,ai,ah,az,aA,aB,aC,aD,aE,aF,aG,aH,ao,List.append_assoc]
theorem Q7:Ok Tryz.prog 142 SE:=bS 1000 mN (eK SF (eK vU eN)) lN (hn:=(hC 11 69905)) SG
theorem wj(p z:Sy)(hA:(lF p).inv z):Fm.den (let v0:=(aX (((((((((((((((((((((((((((((((((((((PS.mk [(999,Tm.i (Int.ofNat (nat_lit 0)))] ((0,(bL 0).fst,0)::iZ.loc) iZ.ln iZ.pr iZ.fz).and (p.i 21=p.i 21)).and (p.i 22=p.i 22)).and (p.i 23=p.i 23)).and (p.i (200+nat_lit 0)=p.i (200+nat_lit 0))).and (p.i (200+nat_lit 1)=p.i (200+nat_lit 1))).and (p.i (200+nat_lit 2)=p.i (200+nat_lit 2))).and (p.i (200+nat_lit 3)=p.i (200+nat_lit 3))).and (p.i (200+nat_lit 4)=p.i (200+nat_lit 4))).and (p.i (200+nat_lit 5)=p.i (200+nat_lit 5))).and (p.i (200+nat_lit 6)=p.i (200+nat_lit 6))).and (p.i (200+nat_lit 7)=p.i (200+nat_lit 7))).and (p.i (200+nat_lit 8)=p.i (200+nat_lit 8))).and (p.i (200+nat_lit 9)=p.i (200+nat_lit 9))).and (p.i (200+nat_lit 10)=p.i (200+nat_lit 10))).and (p.i (200+nat_lit 11)=p.i (200+nat_lit 11))).and (p.i (200+nat_lit 12)=p.i (200+nat_lit 12))).and (p.i (200+nat_lit 13)=p.i (200+nat_lit 13))).and (p.i (200+nat_lit 14)=p.i (200+nat_lit 14))).and (p.i (200+nat_lit 15)=p.i (200+nat_lit 15))).and (p.i (200+nat_lit 16)=p.i (200+nat_lit 16))).and (p.i (200+nat_lit 17)=p.i (200+nat_lit 17))).and (p.i (200+nat_lit 18)=p.i (200+nat_lit 18))).and (p.i (200+nat_lit 19)=p.i (200+nat_lit 19))).and (p.i (200+nat_lit 20)=p.i (200+nat_lit 20))).and (p.i (200+nat_lit 21)=p.i (200+nat_lit 21))).and (p.i (200+nat_lit 22)=p.i (200+nat_lit 22))).and (p.i (200+nat_lit 23)=p.i (200+nat_lit 23))).and (p.i (200+nat_lit 24)=p.i (200+nat_lit 24))).and (p.i (200+nat_lit 25)=p.i (200+nat_lit 25))).and (p.i (200+nat_lit 26)=p.i (200+nat_lit 26))).and (p.i (200+nat_lit 27)=p.i (200+nat_lit 27))).and (p.i (200+nat_lit 28)=p.i (200+nat_lit 28))).and (p.i (200+nat_lit 29)=p.i (200+nat_lit 29))).and (p.i (200+nat_lit 30)=p.i (200+nat_lit 30))).and (p.i (200+nat_lit 31)=p.i (200+nat_lit 31))).and (p.g 24=p.g 24)).tm);let v1:=(aq (p.g 24) (z.i 9).toNat);let v2:=(p.g 24=p.g 24/\dt (jL p 200) (jL p 200) (p.i 23=p.i 23/\p.i 22=p.i 22/\p.i 21=p.i 21/\True));let v3:=(↑(p.g 24).length:Int);(.two (z.i 9 < ↑(p.g 24).length) (.an ((0:Int)<=z.i 9/\z.i 9 < ↑(p.g 24).length) (.ct (lR (gS (aa v1 1)) (gI (aa v1 2)) (gI (aa v1 3)) (gI (aa v1 4)) (gI (aa v1 6)) (gS (aa v1 8)) (gL (aa v1 9)) (gL (aa v1 10)) (hX (aa v1 11)) (gI (aa v1 13)) (gI (aa v1 14))) (fun y0=>y0.i 50=cJ (gI (aa v1 0)) (gS (aa v1 1)) (gI (aa v1 2)) (gI (aa v1 3)) (gI (aa v1 4)) (gI (aa v1 5)) (gI (aa v1 6)) (gI (aa v1 7)) (gS (aa v1 8)) (gL (aa v1 9)) (gL (aa v1 10)) (hX (aa v1 11)) (gI (aa v1 12)=1) (gI (aa v1 13)) (gI (aa v1 14))) fun y0=>(.two (y0.i 50≠0) (.an v2 (.at (((1:Int)=0->ck (p.g 24) (0:Int)=0)/\(¬(1:Int)=0->y0.i 50=ck (p.g 24) 0/\¬y0.i 50=0)))) (.an ((-9223372036854775808:Int)<=z.i 9+1/\z.i 9+1<=9223372036854775807) (.an v2 (.at ((fo (p.g 24)/\(p.g 24).length<=200/\((0:Int)<=z.i 9+1/\z.i 9+1<= ↑(p.g 24).length)/\ck (p.g 24) (0:Int)=ck (p.g 24) (z.i 9+1))/\(v3-(z.i 9+1)).toNat<(v3-z.i 9).toNat/\∀(y:Sy),(y.i 999=(0:Int)->ck (p.g 24) (0:Int)=0)/\(¬y.i 999=0->y.i 50=ck (p.g 24) 0/\¬y.i 50=0)->(y.i 999=0->ck (p.g 24) (0:Int)=0)/\(¬y.i 999=0->y.i 50=ck (p.g 24) 0/\¬y.i 50=0)))))))) (.an v2 (.at (((0:Int)=0->ck (p.g 24) (0:Int)=0)/\(¬(0:Int)=0->v0.i 50=ck (p.g 24) (0:Int)/\¬v0.i 50=(0:Int))))))):=by
 dsimp only [lF,tW,Ae] at hA
 have a1:=@mK (p.g 24) (z.i 9)
 have a2:=@E0 (p.g 24) (z.i 9)
 have a3:=@vX (p.g 24) (z.i 9)
 have a6:=@iP (p.g 24) (z.i 9)
 dsimp only [Cq,nV] at a1 a2 a6
 conv=>zeta
 repeat' with_reducible first|intro _|apply aV|apply aZ|apply aT|apply bf|apply ba
 all_goals first|omega|grind [am,ai,ah,az,aA,aB,aC,aD,aE,aF,aG,aH,ao,List.append_assoc]
theorem Ao:dU Tryz.prog 111 0 lF:=bH 1000 mN (eK Q7 eN) lN (hn:=(hC 6 133)) wj
theorem CB(z:Sy)(hA:rq.pre z):Fm.den (let v1:=(↑(z.g 24).length:Int);let v2:=(hT z 200);let v0:=((1:Int)=cm (z.i 21) (z.i 22) (z.i 23) v2 (z.g 24));(.two ((0:Int)<=z.i 21) (.two (¬z.i 21<=2147483648) (.ax v0) (.two ((0:Int)<=z.i 22) (.two (¬z.i 22<=9007199254740992) (.ax v0) (.two ((0:Int)<=z.i 23) (.two (¬z.i 23<=9007199254740992) (.ax v0) (.two (1<=v1) (.two (¬v1<=200) (.ax v0) (.cl ((z.g 24=z.g 24/\dt (jL z 200) (jL z 200) (z.i 23=z.i 23/\z.i 22=z.i 22/\z.i 21=z.i 21/\True))) (fo (z.g 24)/\(z.g 24).length<=200/\((0:Int)<=0/\0<=v1)/\ck (z.g 24) (0:Int)=ck (z.g 24) 0) (fun y0=>(y0.i 999=0->ck (z.g 24) (0:Int)=0)/\(¬y0.i 999=0->y0.i 50=ck (z.g 24) 0/\¬y0.i 50=0)) fun y0=>(.two (y0.i 999=0) (.ct ((ck (z.g 24) (0:Int)=0/\fo (z.g 24)/\(z.g 24).length<=200)/\HOk v2/\z.i 21<9223372036854775808/\z.i 22<9223372036854775808/\z.i 23<9223372036854775808) (fun y1=>y1.s 10=r_ (true=true) (z.i 21) (z.i 22) (z.i 23) v2 (z.g 24)) fun y1=>(.two (262144<(↑(y1.s 10).length:Int)) (.ax ((5:Int)=cm (z.i 21) (z.i 22) (z.i 23) v2 (z.g 24))) (.ax ((0:Int)=cm (z.i 21) (z.i 22) (z.i 23) v2 (z.g 24))))) (.ax (y0.i 50=cm (z.i 21) (z.i 22) (z.i 23) v2 (z.g 24)))))) (.ax v0))) (.ax v0))) (.ax v0))) (.ax v0))):=by
 dsimp only [rq,mO,bk,hs,O6] at hA
 have f1:=@kq (z.i 21) (z.i 22) (z.i 23) (hT z 200) (z.g 24)
 have f2:=@kr (z.i 21) (z.i 22) (z.i 23) (hT z 200) (z.g 24)
 have f3:=@ic (z.i 21) (z.i 22) (z.i 23) (hT z 200) (z.g 24)
 have f4:=@nX (z.i 21) (z.i 22) (z.i 23) (hT z 200) (z.g 24)
 have f5:=@ku (z.i 21) (z.i 22) (z.i 23) (hT z 200) (z.g 24)
 conv=>zeta
 repeat' with_reducible first|intro _|apply aV|apply aZ|apply aT|apply bf|apply ba
 all_goals first|omega|grind [am,ai,ah,az,aA,aB,aC,aD,aE,aF,aG,aH,ao,List.append_assoc,Cr]
theorem od:Ok Tryz.prog 111 rq:=bS 1000 mN (eK An eN) (eL (ptm:=[(0,.ag bk)]) Ao lN) (hn:=(hC 21 85217605)) CB
theorem Ap(z:Sy)(hA:ob.pre z):Fm.den (let v0:=(hT z 200);(.ct (fo (z.g 24)/\HOk v0/\(z.g 24).length<=1000000/\z.i 21<9223372036854775808/\z.i 22<9223372036854775808/\z.i 23<9223372036854775808) (fun y0=>y0.i 50=cm (z.i 21) (z.i 22) (z.i 23) v0 (z.g 24)) fun y0=>(.two (y0.i 50≠0) (.ax (y0.i 50=cm (z.i 21) (z.i 22) (z.i 23) v0 (z.g 24)/\(cm (z.i 21) (z.i 22) (z.i 23) v0 (z.g 24)=(0:Int)-> []=r_ (z.p 25) (z.i 21) (z.i 22) (z.i 23) v0 (z.g 24))/\(¬cm (z.i 21) (z.i 22) (z.i 23) v0 (z.g 24)=(0:Int)->oV))) (.ct ((ck (z.g 24) (0:Int)=0/\fo (z.g 24)/\(z.g 24).length<=200)/\HOk v0/\z.i 21<9223372036854775808/\z.i 22<9223372036854775808/\z.i 23<9223372036854775808) (fun y1=>y1.s 10=r_ (z.p 25) (z.i 21) (z.i 22) (z.i 23) v0 (z.g 24)) fun y1=>(.ax ((0:Int)=cm (z.i 21) (z.i 22) (z.i 23) v0 (z.g 24)/\(cm (z.i 21) (z.i 22) (z.i 23) v0 (z.g 24)=(0:Int)->y1.s 10=r_ (z.p 25) (z.i 21) (z.i 22) (z.i 23) v0 (z.g 24))/\(¬cm (z.i 21) (z.i 22) (z.i 23) v0 (z.g 24)=(0:Int)->y1.s 10= []))))))):=by
 dsimp only [ob,Ai,bk,hs,O6,H_] at hA
 have f1:=@kq (z.i 21) (z.i 22) (z.i 23) (hT z 200) (z.g 24)
 have f2:=@kr (z.i 21) (z.i 22) (z.i 23) (hT z 200) (z.g 24)
 have f3:=@ic (z.i 21) (z.i 22) (z.i 23) (hT z 200) (z.g 24)
 have f4:=@nX (z.i 21) (z.i 22) (z.i 23) (hT z 200) (z.g 24)
 have f5:=@ku (z.i 21) (z.i 22) (z.i 23) (hT z 200) (z.g 24)
 conv=>zeta
 repeat' with_reducible first|intro _|apply aV|apply aZ|apply aT|apply bf|apply ba
 all_goals first|omega|grind [am,ai,ah,az,aA,aB,aC,aD,aE,aF,aG,aH,ao,Cr]
theorem CC:Ok Tryz.prog 116 ob:=bS 1000 mN (eK od (eK An eN)) lN (hn:=(.both .nil .nil)) Ap
theorem Hb(z:Sy)(hA:wh.pre z):Fm.den ((.ct (HOk (hT z 200)/\z.i 21<9223372036854775808/\z.i 22<9223372036854775808/\z.i 23<9223372036854775808) (fun y0=>y0.s 20=iQ (z.i 21) (z.i 22) (z.i 23) (hT z 200)) fun y0=>(.an ((y0.s 20).length=(y0.s 20).length) (.ct ((y0.s 20).length<=1000000) (fun y1=>True) fun y1=>(.ax (hG (h_ (y0.s 20))=bT (iQ (z.i 21) (z.i 22) (z.i 23) (hT z 200)))))))):=by
 dsimp only [wh,rm,bk,hs] at hA
 have d1:=@iR (z.i 21) (z.i 22) (z.i 23) (hT z 200)
 have d2:=lz (iQ (z.i 21) (z.i 22) (z.i 23) (hT z 200))
 have d3:=@dV (z.g 24).length
 have t1:(((z.g 24).length:Nat):Int).toNat=(z.g 24).length:=Int.toNat_natCast _
 have u21:=@bM (z.i 21)
 have u22:=@bM (z.i 22)
 have u23:=@bM (z.i 23)
 have u7:=co z 200
 have u8:=@aP z 200
 have u9:=bq z 200
 repeat' with_reducible first|intro _|apply aV|apply aZ|apply aT|apply bf|apply ba
 all_goals first|omega|grind [am,ai,ah,az,aA,aB,aC,aD,aE,aF,aG,aH,ao,eH]
theorem Aq:Ok Tryz.prog 28 wh:=bS 1000 mN (eK E3 (eK tL eN)) lN (hn:=.nil) Hb
theorem Ar(p z:Sy)(hA:(oc p).inv z):Fm.den (let v0:=(aq (p.g 24) (z.i 9).toNat);let v1:=(p.i 23=p.i 23/\p.i 22=p.i 22/\p.i 21=p.i 21/\True);let v2:=(jL p 200);let v3:=(↑(p.g 24).length:Int);(.two (z.i 9 < ↑(p.g 24).length) (.an ((0:Int)<=z.i 9/\z.i 9 < ↑(p.g 24).length) (.ct (lR (gS (aa v0 1)) (gI (aa v0 2)) (gI (aa v0 3)) (gI (aa v0 4)) (gI (aa v0 6)) (gS (aa v0 8)) (gL (aa v0 9)) (gL (aa v0 10)) (hX (aa v0 11)) (gI (aa v0 13)) (gI (aa v0 14))/\(0:Int)<=gI (aa v0 2)/\(0:Int)<=gI (aa v0 3)/\(0:Int)<=gI (aa v0 4)/\(0:Int)<=gI (aa v0 13)/\(0:Int)<=gI (aa v0 14)) (fun y0=>y0.s 10=cS (gI (aa v0 0)) (gS (aa v0 1)) (gI (aa v0 2)) (gI (aa v0 3)) (gI (aa v0 4)) (hX (aa v0 11)) (gI (aa v0 13)) (gI (aa v0 14))) fun y0=>(.ct ((y0.s 10).length<=999999) (fun y1=>hT y1 300=aJ (y0.s 10)) fun y1=>(let v4:=(z.g 30++ [G.node [hT y1 300]]);(.an ((z.g 30).length=(z.g 30).length/\(z.g 30).length<=1000000000/\True) (.an ((-9223372036854775808:Int)<=z.i 9+1/\z.i 9+1<=9223372036854775807) (.an (v4.length=(z.g 30).length+1/\p.g 24=p.g 24/\dt v2 v2 v1) (.at (((ck (p.g 24) (0:Int)=0/\fo (p.g 24)/\(p.g 24).length<=200)/\((0:Int)<=z.i 9+1/\z.i 9+1<= ↑(p.g 24).length)/\(↑v4.length:Int)=z.i 9+1)/\(v3-(z.i 9+1)).toNat<(v3-z.i 9).toNat/\∀(y:Sy),y.g 30=z.g 30++ [G.node [hT y1 300]]++gc (p.g 24) (z.i 9+(1:Int))->y.g 30=z.g 30++gc (p.g 24) (z.i 9)))))))))) (.an ((z.g 30).length=(z.g 30).length/\p.g 24=p.g 24/\dt v2 v2 v1) (.at (z.g 30=z.g 30++gc (p.g 24) (z.i 9)))))):=by
 dsimp only [oc,tW,Ae,lE] at hA
 have a1:=@Lu (p.g 24) (z.i 9)
 have a2:=@Pa (p.g 24) (z.i 9)
 have a6:=@iP (p.g 24) (z.i 9)
 have a7:=@fq (p.g 24) (z.i 9)
 dsimp only [vW,Cq,nV] at a1 a6 a7
 have b1:=(fun e=>@bU (gS (aa e 1)) (gI (aa e 2)) (gI (aa e 3)) (gI (aa e 4)) (gI (aa e 6)) (gS (aa e 8)) (gL (aa e 9)) (gL (aa e 10)) (hX (aa e 11)) (gI (aa e 13)) (gI (aa e 14))) (aq (p.g 24) (z.i 9).toNat)
 have b2:=(fun e=>fun h=>(@cg (gI (aa e 0)) (gS (aa e 1)) (gI (aa e 2)) (gI (aa e 3)) (gI (aa e 4)) (gI (aa e 5)) (gI (aa e 6)) (gI (aa e 7)) (gS (aa e 8)) (gL (aa e 9)) (gL (aa e 10)) (hX (aa e 11)) (gI (aa e 12)=1) (gI (aa e 13)) (gI (aa e 14)) h).2) (aq (p.g 24) (z.i 9).toNat)
 have q1:=@rr (aq (p.g 24) (z.i 9).toNat)
 dsimp only [nV] at q1
 have l1:=fun a b c d e f g=>@gt (gI (aa (aq (p.g 24) (z.i 9).toNat) 0)) (gS (aa (aq (p.g 24) (z.i 9).toNat) 1)) (gI (aa (aq (p.g 24) (z.i 9).toNat) 2)) (gI (aa (aq (p.g 24) (z.i 9).toNat) 3)) (gI (aa (aq (p.g 24) (z.i 9).toNat) 4)) (hX (aa (aq (p.g 24) (z.i 9).toNat) 11)) (gI (aa (aq (p.g 24) (z.i 9).toNat) 13)) (gI (aa (aq (p.g 24) (z.i 9).toNat) 14)) a b c d e f g
 conv=>zeta
 repeat' with_reducible first|intro _|apply aV|apply aZ|apply aT|apply bf|apply ba
 all_goals first|omega|grind [am,ai,ah,az,aA,aB,aC,aD,aE,aF,aG,aH,ao,List.append_assoc]
theorem CD:dU Tryz.prog 9 0 oc:=bH 1000 mN (eK py (eK vH eN)) lN (hn:=(.both (.yes .nil) .nil)) Ar
theorem Hc(z:Sy)(hA:wi.pre z):Fm.den ((.cl ((0=0/\z.g 24=z.g 24/\dt (jL z 200) (jL z 200) (z.i 23=z.i 23/\z.i 22=z.i 22/\z.i 21=z.i 21/\True))) ((ck (z.g 24) (0:Int)=0/\fo (z.g 24)/\(z.g 24).length<=200)/\((0:Int)<=0/\0<=(↑(z.g 24).length:Int))/\(↑0:Int)=0) (fun y0=>y0.g 30= []++gc (z.g 24) (0:Int)) fun y0=>(.an ((y0.g 30).length=(y0.g 30).length/\True) (.at (y0.g 30=gc (z.g 24) (0:Int)))))):=by
 dsimp only [wi,bk,hs,lE] at hA
 repeat' with_reducible first|intro _|apply aV|apply aZ|apply aT|apply bf|apply ba
 all_goals first|omega|grind [am,ai,ah,az,aA,aB,aC,aD,aE,aF,aG,aH,ao,List.append_assoc]
theorem rx:Ok Tryz.prog 9 wi:=bS 1000 mN eN (eL (ptm:=[(0,.ag bk)]) CD lN) (hn:=.nil) Hc
theorem sA(z:Sy)(hA:jQ.pre z):Fm.den (let v0:=(hT z 100);let v1:=(cS (z.i 1) (z.s 2) (z.i 3) (z.i 4) (z.i 5) v0 (z.i 13) (z.i 14));(.ct (lR (z.s 2) (z.i 3) (z.i 4) (z.i 5) (z.i 7) (z.s 9) (z.g 10) (z.g 11) v0 (z.i 13) (z.i 14)) (fun y0=>y0.i 50=cJ (z.i 1) (z.s 2) (z.i 3) (z.i 4) (z.i 5) (z.i 6) (z.i 7) (z.i 8) (z.s 9) (z.g 10) (z.g 11) v0 (z.p 12) (z.i 13) (z.i 14)) fun y0=>(.two (y0.i 50≠0) (.ax (y0.i 50=cJ (z.i 1) (z.s 2) (z.i 3) (z.i 4) (z.i 5) (z.i 6) (z.i 7) (z.i 8) (z.s 9) (z.g 10) (z.g 11) v0 (z.p 12) (z.i 13) (z.i 14)/\(cJ (z.i 1) (z.s 2) (z.i 3) (z.i 4) (z.i 5) (z.i 6) (z.i 7) (z.i 8) (z.s 9) (z.g 10) (z.g 11) v0 (z.p 12) (z.i 13) (z.i 14)=(0:Int)->hZ=aJ v1)/\(¬cJ (z.i 1) (z.s 2) (z.i 3) (z.i 4) (z.i 5) (z.i 6) (z.i 7) (z.i 8) (z.s 9) (z.g 10) (z.g 11) v0 (z.p 12) (z.i 13) (z.i 14)=(0:Int)->hZ=hZ))) (.ct (lR (z.s 2) (z.i 3) (z.i 4) (z.i 5) (z.i 7) (z.s 9) (z.g 10) (z.g 11) v0 (z.i 13) (z.i 14)/\(0:Int)<=z.i 3/\(0:Int)<=z.i 4/\(0:Int)<=z.i 5/\(0:Int)<=z.i 13/\(0:Int)<=z.i 14) (fun y1=>y1.s 10=cS (z.i 1) (z.s 2) (z.i 3) (z.i 4) (z.i 5) v0 (z.i 13) (z.i 14)) fun y1=>(.ct ((y1.s 10).length<=999999) (fun y2=>hT y2 300=aJ (y1.s 10)) fun y2=>(.ax ((0:Int)=cJ (z.i 1) (z.s 2) (z.i 3) (z.i 4) (z.i 5) (z.i 6) (z.i 7) (z.i 8) (z.s 9) (z.g 10) (z.g 11) v0 (z.p 12) (z.i 13) (z.i 14)/\(cJ (z.i 1) (z.s 2) (z.i 3) (z.i 4) (z.i 5) (z.i 6) (z.i 7) (z.i 8) (z.s 9) (z.g 10) (z.g 11) v0 (z.p 12) (z.i 13) (z.i 14)=(0:Int)->hT y2 300=aJ v1)/\(¬cJ (z.i 1) (z.s 2) (z.i 3) (z.i 4) (z.i 5) (z.i 6) (z.i 7) (z.i 8) (z.s 9) (z.g 10) (z.g 11) v0 (z.p 12) (z.i 13) (z.i 14)=(0:Int)->hT y2 300=hZ)))))))):=by
 dsimp only [jQ,fV,en,hs,tX,sa,nY] at hA
 have b0:=br 0 0 0 [] [] []
 have b1:=br (z.i 6) (z.i 7) (z.i 8) (z.s 9) (z.g 10) (z.g 11)
 have i1:=@bU (z.s 2) (z.i 3) (z.i 4) (z.i 5) (z.i 7) (z.s 9) (z.g 10) (z.g 11) (hT z 100) (z.i 13) (z.i 14)
 have f1:=@eT (z.i 1) (z.s 2) (z.i 3) (z.i 4) (z.i 5) (z.i 6) (z.i 7) (z.i 8) (z.s 9) (z.g 10) (z.g 11) (hT z 100) (z.p 12) (z.i 13) (z.i 14)
 have f2:=@eU (z.i 1) (z.s 2) (z.i 3) (z.i 4) (z.i 5) (z.i 6) (z.i 7) (z.i 8) (z.s 9) (z.g 10) (z.g 11) (hT z 100) (z.p 12) (z.i 13) (z.i 14)
 have f3:=@gq (z.i 1) (z.s 2) (z.i 3) (z.i 4) (z.i 5) (z.i 6) (z.i 7) (z.i 8) (z.s 9) (z.g 10) (z.g 11) (hT z 100) (z.p 12) (z.i 13) (z.i 14)
 have f4:=@iO (z.i 1) (z.s 2) (z.i 3) (z.i 4) (z.i 5) (z.i 6) (z.i 7) (z.i 8) (z.s 9) (z.g 10) (z.g 11) (hT z 100) (z.p 12) (z.i 13) (z.i 14)
 have f5:=@jP (z.i 1) (z.s 2) (z.i 3) (z.i 4) (z.i 5) (z.i 6) (z.i 7) (z.i 8) (z.s 9) (z.g 10) (z.g 11) (hT z 100) (z.p 12) (z.i 13) (z.i 14)
 have f6:=@cg (z.i 1) (z.s 2) (z.i 3) (z.i 4) (z.i 5) (z.i 6) (z.i 7) (z.i 8) (z.s 9) (z.g 10) (z.g 11) (hT z 100) (z.p 12) (z.i 13) (z.i 14)
 have l1:=@gt (z.i 1) (z.s 2) (z.i 3) (z.i 4) (z.i 5) (hT z 100) (z.i 13) (z.i 14)
 have n1:=@jO (z.i 1) (z.s 2) (z.i 3) (z.i 4) (z.i 5) (lD z) (hT z 100=hZ) (z.p 12) (z.i 13) (z.i 14)
 conv=>zeta
 repeat' with_reducible first|intro _|apply aV|apply aZ|apply aT|apply bf|apply ba
 all_goals first|omega|grind [am,ai,ah,az,aA,aB,aC,aD,aE,aF,aG,aH,ao,List.append_assoc]
theorem wk:Ok Tryz.prog 74 jQ:=bS 1000 mN (eK Q7 (eK py (eK vH eN))) lN (hn:=(.both .nil .nil)) sA
noncomputable section
def bI(n:Nat):Nat:=2 ^ (n-1).log2
theorem ft(n:Nat):0<bI n:=aaF _
theorem eD{n:Nat}(h:2<=n):bI n<n:=by
 have:=Nat.log2_self_le (n:=n-1) (by omega)
 unfold bI;omega
theorem CE{n:Nat}(h:2<=n):n<=2 * bI n:=by
 have:n-1<2 ^ ((n-1).log2+1):=Nat.lt_log2_self
 rw[aaT] at this
 unfold bI;omega
theorem Lz{n j:Nat}(h1:2 ^ j<n)(h2:n<=2 * 2 ^ j):bI n=2 ^ j:=by
 unfold bI
 congr 1
 have h0:n-1≠0:=by have:=aaF j;omega
 have a1:j<=(n-1).log2:=(Nat.le_log2 h0).2 (by omega)
 have a2:(n-1).log2<j+1:=(Nat.log2_lt h0).2 (by rw[aaT];omega)
 omega
def aU(l:List G):G:=
 if h:2<=l.length then bb (aU (l.take (bI l.length))) (aU (l.drop (bI l.length)))
 else match l with | []=>bT []|r::_=>hX (aa r 0)
termination_by l.length
decreasing_by
 ·rw[aam];have:=eD h;omega
 ·rw[aan];have:=ft l.length;omega
theorem fy{l:List G}(h:2<=l.length):aU l=bb (aU (l.take (bI l.length))) (aU (l.drop (bI l.length))):=by rw[aU,dif_pos h]
theorem kw{l:List G}(h:l.length=1):aU l=hX (aa (aq l 0) 0):=by
 match l,h with
 | [r],_=>rw[aU];rfl
theorem oe{l:List G}(h:l.length=0):aU l=bT []:=by
 match l,h with
 | [],_=>rw[aU];rfl
def RowsOk(l:List G):Prop:=∀r∈l,HOk (hX (aa r 0))
theorem RowsOk.take{l:List G}(h:RowsOk l)(n:Nat):RowsOk (l.take n):=fun r hr=>h r (List.mem_of_mem_take hr)
theorem RowsOk.drop{l:List G}(h:RowsOk l)(n:Nat):RowsOk (l.drop n):=fun r hr=>h r (List.mem_of_mem_drop hr)
theorem RowsOk.at{l:List G}(h:RowsOk l){i:Int}(h0:0<=i)(hi:i<l.length):HOk (hX (aa (aq l i.toNat) 0)):=h _ (bZ h0 hi)
theorem cA(l:List G)(h:RowsOk l):HOk (aU l):=by
 rcases aaf l.length 2 with h2|h2
 ·match l,h2,h with
  | [],_,_=>rw[oe rfl];exact eI _
  | [r],_,h=>rw[kw rfl];exact h r (List.mem_singleton.2 rfl)
  |_::_::_,h2,_=>simp at h2;omega
 ·rw[fy h2];exact bR _ _
theorem drop_zero(l:List G):l.drop (0:Int).toNat=l:=rfl
theorem Hd{l:List G}{k:Int}(h:2<=l.length)(hk:k=(bI l.length:Nat)):aU l=bb (aU (List.drop (0:Int).toNat (List.take k.toNat l))) (aU (List.drop k.toNat (List.take (l.length:Int).toNat l))):=by
 subst hk
 rw[fy h,drop_zero,aaq,aaq,aaZ]
def a_(i:Int)(l:List G):List G:=
 if h:2<=l.length then
  if i<(bI l.length:Nat) then a_ i (l.take (bI l.length))++ [.node [aU (l.drop (bI l.length))]]
  else a_ (i-(bI l.length:Nat)) (l.drop (bI l.length))++ [.node [aU (l.take (bI l.length))]]
 else []
termination_by l.length
decreasing_by
 ·rw[aam];have:=eD h;omega
 ·rw[aan];have:=ft l.length;omega
theorem mR{i:Int}{l:List G}(h:2<=l.length)(hi:i<(bI l.length:Nat)):a_ i l=a_ i (l.take (bI l.length))++ [.node [aU (l.drop (bI l.length))]]:=by rw[a_,dif_pos h,if_pos hi]
theorem mS{i:Int}{l:List G}(h:2<=l.length)(hi:¬i<(bI l.length:Nat)):a_ i l=a_ (i-(bI l.length:Nat)) (l.drop (bI l.length))++ [.node [aU (l.take (bI l.length))]]:=by rw[a_,dif_pos h,if_neg hi]
theorem fA{i:Int}{l:List G}(h:¬2<=l.length):a_ i l= []:=by rw[a_,dif_neg h]
def ga(h:G)(i n:Int)(p:List G):G×Prop:=
 if hn:2<=n then
  if p.length=0 then(hZ,False)
  else if i<(bI n.toNat:Nat) then(bb (ga h i (bI n.toNat:Nat) p.dropLast).1 (hX (aa (aq p (p.length-1)) 0)),(ga h i (bI n.toNat:Nat) p.dropLast).2)
  else(bb (hX (aa (aq p (p.length-1)) 0)) (ga h (i-(bI n.toNat:Nat)) (n-(bI n.toNat:Nat)) p.dropLast).1,(ga h (i-(bI n.toNat:Nat)) (n-(bI n.toNat:Nat)) p.dropLast).2)
 else(h,p.length=0)
termination_by n.toNat
decreasing_by all_goals (have:=eD (n:=n.toNat) (by omega);have:=ft n.toNat;omega)
theorem kx{h:G}{i n:Int}{p:List G}(hn:¬2<=n):ga h i n p=(h,p.length=0):=by rw[ga,dif_neg hn]
theorem wl{h:G}{i n:Int}{p:List G}(hn:2<=n)(hp:p.length=0):ga h i n p=(hZ,False):=by rw[ga,dif_pos hn,if_pos hp]
theorem wm{h:G}{i n:Int}{p:List G}(hn:2<=n)(hp:¬p.length=0)(hi:i<(bI n.toNat:Nat)):ga h i n p=(bb (ga h i (bI n.toNat:Nat) p.dropLast).1 (hX (aa (aq p (p.length-1)) 0)),(ga h i (bI n.toNat:Nat) p.dropLast).2):=by rw[ga,dif_pos hn,if_neg hp,if_pos hi]
theorem wn{h:G}{i n:Int}{p:List G}(hn:2<=n)(hp:¬p.length=0)(hi:¬i<(bI n.toNat:Nat)):ga h i n p=(bb (hX (aa (aq p (p.length-1)) 0)) (ga h (i-(bI n.toNat:Nat)) (n-(bI n.toNat:Nat)) p.dropLast).1,(ga h (i-(bI n.toNat:Nat)) (n-(bI n.toNat:Nat)) p.dropLast).2):=by rw[ga,dif_pos hn,if_neg hp,if_neg hi]
def i_(n:Int)(rows L:List G):Prop:=(L.length:Int)=n/\∀j p:Nat,(p+1) * 2 ^ j<=L.length->kT 0 rows [(j:Int),(p:Int)]/\hX (aa (dW 0 rows [(j:Int),(p:Int)]) 2)=aU ((L.drop (p * 2 ^ j)).take (2 ^ j))
def UZ(lv:Int)(rows L:List G):Prop:=∀j p:Nat,(p+1) * 2 ^ j<=L.length->((p+1) * 2 ^ j<L.length∨(j:Int)<=lv)->kT 0 rows [(j:Int),(p:Int)]/\hX (aa (dW 0 rows [(j:Int),(p:Int)]) 2)=aU ((L.drop (p * 2 ^ j)).take (2 ^ j))
theorem As{m:Nat}{l:List G}{k:List Int}{v:List G}(hk:k.length=(bC m).ks.length):kT m (cL m l k v) k/\dW m (cL m l k v) k= .node (k.map G.int++v):=by
 have Zx:db (bC m).ks.length (.node (k.map G.int++v)) 0=k:=nB hk
 unfold kT dW
 by_cases h:cx m l k<l.length
 ·have e:cL m l k v=l.set (cx m l k) (.node (k.map G.int++v)):=by unfold cL;rw[if_pos h]
  have hi:cx m (l.set (cx m l k) (.node (k.map G.int++v))) k=cx m l k:=by
   unfold cx at h⊢
   refine(List.findIdx_eq (by rw[aa0];exact h)).2 ⟨?_,fun j hj=>?_⟩
   ·rw[List.getElem_set_self];simpa using Zx
   ·rw[List.getElem_set_ne (by omega)]
    exact abH hj
  rw[e,hi]
  refine⟨by rw[aa0];exact h, ?_⟩
  unfold aq
  rw[aag,abB h];rfl
 ·have e:cL m l k v=l++ [.node (k.map G.int++v)]:=by unfold cL;rw[if_neg h]
  have Yo:∀x∈l,¬db (bC m).ks.length x 0=k:=fun x hx hc=>h (List.findIdx_lt_length_of_exists ⟨x,hx,by simpa using hc⟩)
  have hi:cx m (l++ [.node (k.map G.int++v)]) k=l.length:=by
   unfold cx
   refine(List.findIdx_eq (by simp)).2 ⟨?_,fun j hj=>?_⟩
   ·rw[List.getElem_append_right (by omega)];simpa using Zx
   ·rw[abI (by omega)]
    simpa using Yo _ (abe _)
  rw[e,hi]
  refine⟨by simp, ?_⟩
  unfold aq
  rw[aag,aaA (by omega)];simp
theorem ry{m:Nat}{l:List G}{k k':List Int}{v:List G}(hk:k.length=(bC m).ks.length)(o8:k'≠k)(h':kT m l k'):kT m (cL m l k v) k'/\dW m (cL m l k v) k'=dW m l k':=by
 have Zx:db (bC m).ks.length (.node (k.map G.int++v)) 0=k:=nB hk
 have h'':cx m l k'<l.length:=h'
 have q9:db (bC m).ks.length (l[cx m l k']) 0=k':=by
  have:=List.findIdx_getElem (w:=(show List.findIdx _ l<l.length from h''))
  exact of_decide_eq_true this
 unfold kT dW
 by_cases h:cx m l k<l.length
 ·have e:cL m l k v=l.set (cx m l k) (.node (k.map G.int++v)):=by unfold cL;rw[if_pos h]
  have YU:db (bC m).ks.length (l[cx m l k]) 0=k:=by
   have:=List.findIdx_getElem (w:=(show List.findIdx _ l<l.length from h))
   exact of_decide_eq_true this
  have Ys:cx m l k≠cx m l k':=fun e=>o8 (by rw[←q9, ←YU];simp only [e])
  have hi:cx m (l.set (cx m l k) (.node (k.map G.int++v))) k'=cx m l k':=by
   refine(List.findIdx_eq (by rw[aa0];exact h'')).2 ⟨?_,fun j hj=>?_⟩
   ·rw[List.getElem_set_ne Ys];simpa using q9
   ·by_cases ej:cx m l k=j
    ·subst ej;rw[List.getElem_set_self];simp only [Zx,decide_eq_false_iff_not];exact fun e=>o8 e.symm
    ·rw[List.getElem_set_ne ej];exact abH hj
  rw[e,hi]
  refine⟨by rw[aa0];exact h'', ?_⟩
  unfold aq
  rw[aag,List.getElem?_set_ne Ys, ←aag]
 ·have e:cL m l k v=l++ [.node (k.map G.int++v)]:=by unfold cL;rw[if_neg h]
  have hi:cx m (l++ [.node (k.map G.int++v)]) k'=cx m l k':=by
   refine(List.findIdx_eq (by simp;omega)).2 ⟨?_,fun j hj=>?_⟩
   ·rw[abI h''];simpa using q9
   ·rw[abI (by omega)];exact abH hj
  rw[e,hi]
  refine⟨by simp;omega, ?_⟩
  unfold aq
  rw[aag,aaz h'', ←aag]
theorem tY(h:G):aU [.node [h]]=hX h:=kw rfl
theorem LA{n:Int}{rows L:List G}{h:G}(ht:i_ n rows L)(hh:hX h=h):UZ 0 (cL 0 rows [0,n] [h]) (L++ [.node [h]]):=by
 obtain⟨e,ht⟩:=ht
 intro j p h1 h2
 rw[aai,aaI] at h1 h2
 by_cases f7:(p+1) * 2 ^ j<=L.length
 ·obtain⟨a1,a2⟩:=ht j p f7
  have o8: [(j:Int),(p:Int)]≠ [0,n]:=fun ee=>by
   injection ee with e1 ee
   injection ee with e2 _
   have:j=0:=by omega
   subst this
   simp at f7;omega
  obtain⟨b1,b2⟩:=ry (m:=0) (v:=[h]) rfl o8 a1
  refine⟨b1, ?_⟩
  rw[b2,a2]
  have hb:p * 2 ^ j+2 ^ j<=L.length:=by rw[aav,Nat.one_mul] at f7;exact f7
  generalize 2 ^ j=q at hb
  rw[abx (by omega),abm (by rw[aan];omega)]
 ·have hj:j=0:=by
   rcases h2 with h2|h2
   ·omega
   ·omega
  subst hj
  have hp:p=L.length:=by simp at f7 h1;omega
  subst hp
  obtain⟨b1,b2⟩:=As (m:=0) (l:=rows) (k:=[0,n]) (v:=[h]) rfl
  rw[e]
  refine⟨b1, ?_⟩
  rw[show((0:Nat):Int)=0 by rfl,b2]
  simp only [Nat.pow_zero,aaD,List.drop_left]
  rw[show List.take 1 [G.node [h]]= [.node [h]] by rfl,tY]
  rfl
def At(L:List G)(lv pl:Int):G:=aU ((L.drop (pl.toNat * 2 ^ lv.toNat)).take (2 ^ lv.toNat))
def wo(L:List G)(lv pl:Int)(rows:List G)(h:G):Prop:=UZ lv rows L/\0<=lv/\0<=pl/\(pl.toNat+1) * 2 ^ lv.toNat=L.length/\h=At L lv pl
theorem Au{n:Int}{rows L:List G}{h:G}(ht:i_ n rows L)(hh:hX h=h):wo (L++ [.node [h]]) 0 n (cL 0 rows [0,n] [h]) h:=by
 refine⟨LA ht hh,by decide,by have:=ht.1;omega, ?_, ?_⟩
 ·rw[aai,aaI];have:=ht.1;simp;omega
 ·unfold At
  have e:n.toNat=L.length:=by have:=ht.1;omega
  rw[e]
  simp only [show(0:Int).toNat=0 by rfl,Nat.pow_zero,aaD,List.drop_left]
  rw[show List.take 1 [G.node [h]]= [.node [h]] by rfl,tY,hh]
theorem CF{L:List G}{lv pl:Int}{rows:List G}{h:G}(hl:wo L lv pl rows h)(ho:pl%2=1):kT 0 rows [lv,pl-1]/\hX (aa (dW 0 rows [lv,pl-1]) 2)=aU ((L.drop ((pl.toNat-1) * 2 ^ lv.toNat)).take (2 ^ lv.toNat)):=by
 obtain⟨h1,h2,h3,h4,h5⟩:=hl
 have hp:=aaF lv.toNat
 have:=h1 lv.toNat (pl.toNat-1) (by rw[←h4];exact aat _ (by omega)) (.inl (by rw[←h4];exact Nat.mul_lt_mul_of_pos_right (by omega) hp))
 rw[show((lv.toNat:Nat):Int)=lv by omega,show((pl.toNat-1:Nat):Int)=pl-1 by omega] at this
 exact this
theorem E5{L:List G}{lv pl:Int}{rows:List G}{h h':G}(hl:wo L lv pl rows h)(ho:pl%2=1)(hh:h'=bb (hX (aa (dW 0 rows [lv,pl-1]) 2)) h):wo L (lv+1) (pl/2) (cL 0 rows [lv+1,pl/2] [h']) h':=by
 obtain⟨_,a2⟩:=CF hl ho
 obtain⟨h1,h2,h3,h4,h5⟩:=hl
 have hp:=aaF lv.toNat
 have e1:(lv+1).toNat=lv.toNat+1:=by omega
 have e2:pl.toNat=2 * (pl/2).toNat+1:=by omega
 have e3:((pl/2).toNat+1) * 2 ^ (lv+1).toNat=L.length:=by rw[e1,aaT, ←h4,e2];rw[Nat.mul_comm (2 ^ lv.toNat) 2, ←Nat.mul_assoc];congr 1;omega
 have e4:h'=At L (lv+1) (pl/2):=by
  rw[hh,a2,h5]
  unfold At
  have hlen:((L.drop ((pl/2).toNat * 2 ^ (lv+1).toNat)).take (2 ^ (lv+1).toNat)).length=2 ^ (lv.toNat+1):=by
   rw[aam,aan, ←e3,e1,aav];omega
  have hb:(pl.toNat-1) * 2 ^ lv.toNat=(pl/2).toNat * 2 ^ (lv+1).toNat:=by rw[e1,aaT,e2,Nat.mul_comm (2 ^ lv.toNat) 2, ←Nat.mul_assoc];congr 1;omega
  have Y4:pl.toNat * 2 ^ lv.toNat=(pl/2).toNat * 2 ^ (lv+1).toNat+2 ^ lv.toNat:=by
   rw[←hb]
   generalize 2 ^ lv.toNat=q
   obtain⟨x,hx⟩:∃x,pl.toNat=x+1:=⟨pl.toNat-1,by omega⟩
   rw[hx,Nat.add_sub_cancel,aav,Nat.one_mul]
  have h2p:2<=2 ^ (lv.toNat+1):=by rw[aaT];omega
  have aj8:bI (2 ^ (lv.toNat+1))=2 ^ lv.toNat:=Lz (by rw[aaT];omega) (by rw[aaT];omega)
  rw[fy (l:=(L.drop ((pl/2).toNat * 2 ^ (lv+1).toNat)).take (2 ^ (lv+1).toNat)) (by rw[hlen];exact h2p),hlen,aj8,List.take_take,abh (by rw[e1,aaT];omega),abq,aaX,hb,Y4]
  congr 3
  rw[e1,aaT];omega
 refine⟨fun j p q1 q2=>?_,by omega,by omega,e3,e4⟩
 by_cases ek: [(j:Int),(p:Int)]= [lv+1,pl/2]
 ·obtain⟨b1,b2⟩:=As (m:=0) (l:=rows) (k:=[lv+1,pl/2]) (v:=[h']) rfl
  rw[ek]
  refine⟨b1, ?_⟩
  rw[b2]
  injection ek with k1 ek
  injection ek with k2 _
  have hr:hX h'=h':=by rw[hh];exact cZ (bR _ _)
  show hX h'=_
  rw[hr,e4]
  unfold At
  rw[show(lv+1).toNat=j by omega,show(pl/2).toNat=p by omega]
 ·have:=h1 j p q1 (by
   rcases q2 with q2|q2
   ·exact .inl q2
   ·by_cases hj:(j:Int)<=lv
    ·exact .inr hj
    ·refine .inl (Nat.lt_of_le_of_ne q1 fun e=>ek ?_)
     have ej:j=lv.toNat+1:=by omega
     subst ej
     have:p+1=(pl/2).toNat+1:=Nat.eq_of_mul_eq_mul_right (aaF (lv.toNat+1)) (by rw[e, ←e3,e1])
     have ep:p=(pl/2).toNat:=by omega
     rw[ep,show((lv.toNat+1:Nat):Int)=lv+1 by omega,show(((pl/2).toNat:Nat):Int)=pl/2 by omega])
  obtain⟨b1,b2⟩:=ry (m:=0) (v:=[h']) rfl ek this.1
  exact⟨b1,by rw[b2];exact this.2⟩
theorem SH{L:List G}{lv pl:Int}{rows:List G}{h:G}(hl:wo L lv pl rows h)(ho:¬pl%2=1):i_ L.length rows L:=by
 obtain⟨h1,h2,h3,h4,h5⟩:=hl
 refine⟨rfl,fun j p q1=>h1 j p q1 ?_⟩
 rcases aaf ((p+1) * 2 ^ j) L.length with q|q
 ·exact .inl q
 ·refine .inr ?_
  have e:(p+1) * 2 ^ j=(pl.toNat+1) * 2 ^ lv.toNat:=by omega
  rcases aaf lv.toNat j with hj|hj
  ·exfalso
   obtain⟨d,rfl⟩:∃d,j=lv.toNat+1+d:=⟨j-lv.toNat-1,by omega⟩
   rw[abk,aaT] at e
   have:(pl.toNat+1)=(p+1) * 2 ^ d * 2:=Nat.eq_of_mul_eq_mul_right (aaF lv.toNat) (by rw[←e];rw[Nat.mul_comm (2 ^ lv.toNat * 2) (2 ^ d), ←Nat.mul_assoc, ←Nat.mul_assoc,Nat.mul_right_comm])
   omega
  ·omega
def Ia(fr n:Int):Prop:=∃j:Nat,n.toNat<=2 ^ j/\fr%(2 ^ j:Nat)=0
theorem SJ{N fr n:Int}{rows L:List G}{i:Nat}(ht:i_ N rows L)(h0:0<=fr)(hn:n=(2 ^ i:Nat))(hb:fr+n<=N)(ha:Ia fr n):kT 0 rows [(i:Int),fr/(2 ^ i:Nat)]/\hX (aa (dW 0 rows [(i:Int),fr/(2 ^ i:Nat)]) 2)=aU ((L.drop fr.toNat).take n.toNat):=by
 obtain⟨j,a1,a2⟩:=ha
 have hp:=aaF i
 have hij:i<=j:=(Nat.pow_le_pow_iff_right (by decide:1<2)).1 (by omega)
 have hd:fr%(2 ^ i:Nat)=0:=by
  obtain⟨d,rfl⟩:∃d,j=i+d:=⟨j-i,by omega⟩
  rw[abk] at a2
  have:=abz a2
  exact Int.emod_eq_zero_of_dvd (Int.dvd_trans ⟨((2 ^ d:Nat):Int),by push_cast;rfl⟩ this)
 obtain⟨q,hq⟩:=abz hd
 have hq0:0<=q:=by
  rcases Int.lt_or_le q 0 with h|h
  ·have:((2 ^ i:Nat):Int) * q<0:=Int.mul_neg_of_pos_of_neg (by omega) h
   omega
  ·exact h
 have e1:fr/(2 ^ i:Nat)=q:=by rw[hq];exact Int.mul_ediv_cancel_left _ (by omega)
 have e2:fr.toNat=q.toNat * 2 ^ i:=by
  have:fr=((q.toNat * 2 ^ i:Nat):Int):=by rw[hq];push_cast;rw[Int.mul_comm];congr 1;omega
  omega
 have:=ht.2 i q.toNat (by rw[aav,Nat.one_mul, ←e2];have:=ht.1;omega)
 rw[e1,show q=((q.toNat:Nat):Int) by omega,e2,show n.toNat=2 ^ i by omega]
 exact this
theorem U0{fr n k:Int}(hn:2<=n)(hk:k=(bI n.toNat:Nat))(h:Ia fr n):Ia fr k:=by
 obtain⟨j,a1,a2⟩:=h
 exact⟨j,by have:=eD (n:=n.toNat) (by omega);omega,a2⟩
theorem U1{fr n k:Int}(hn:2<=n)(h0:0<=fr)(hk:k=(bI n.toNat:Nat))(h:Ia fr n):Ia (fr+k) (n-k):=by
 obtain⟨j,a1,a2⟩:=h
 have hg:=CE (n:=n.toNat) (by omega)
 have hl:=eD (n:=n.toNat) (by omega)
 refine⟨(n.toNat-1).log2,by show(n-k).toNat<=bI n.toNat;omega, ?_⟩
 have hij:(n.toNat-1).log2<=j:=by
  rcases aaf j (n.toNat-1).log2 with h|h
  ·have:2 ^ j<2 ^ (n.toNat-1).log2:=Nat.pow_lt_pow_right (by decide) h
   have:bI n.toNat=2 ^ (n.toNat-1).log2:=rfl
   omega
  ·exact h
 obtain⟨d,hd⟩:∃d,j=(n.toNat-1).log2+d:=⟨j-(n.toNat-1).log2,by omega⟩
 rw[hd,abk] at a2
 have h1:=abz a2
 have h2:((2 ^ (n.toNat-1).log2:Nat):Int) ∣ fr:=Int.dvd_trans ⟨((2 ^ d:Nat):Int),by push_cast;rfl⟩ h1
 exact Int.emod_eq_zero_of_dvd (Int.dvd_add h2 ⟨1,by rw[hk];show((bI n.toNat:Nat):Int)=_;rw[Int.mul_one];rfl⟩)
theorem CH{L:List G}{fr n k:Int}(h0:0<=fr)(hn:2<=n)(hb:fr+n<=L.length)(hk:k=(bI n.toNat:Nat)):aU ((L.drop fr.toNat).take n.toNat)=bb (aU ((L.drop fr.toNat).take k.toNat)) (aU ((L.drop (fr+k).toNat).take (n-k).toNat)):=by
 have hl:=eD (n:=n.toNat) (by omega)
 have hlen:((L.drop fr.toNat).take n.toNat).length=n.toNat:=by rw[aam,aan];omega
 rw[fy (l:=(L.drop fr.toNat).take n.toNat) (by rw[hlen];omega),hlen,List.take_take,abh (by omega),abq,aaX]
 congr 3
 ·omega
 ·congr 1;omega
 ·congr 1;omega
theorem U2{L:List G}{lv pl:Int}{rows:List G}{h:G}(hl:wo L lv pl rows h)(hL:L.length<=2000000):(0<=lv/\lv<=30)/\0<=pl/\pl<=2000000:=by
 obtain⟨h1,h2,h3,h4,h5⟩:=hl
 have hp:=aaF lv.toNat
 have a:2 ^ lv.toNat<=2000000:=by
  have:1 * 2 ^ lv.toNat<=(pl.toNat+1) * 2 ^ lv.toNat:=aat _ (by omega)
  omega
 have b:lv.toNat<31:=by
  rcases aaf lv.toNat 31 with h|h
  ·exact h
  ·have:=abj (n:=2) (by decide) h
   omega
 have c:(pl.toNat+1) * 1<=(pl.toNat+1) * 2 ^ lv.toNat:=Nat.mul_le_mul_left _ hp
 omega
theorem CI{n:Int}{rows L:List G}(h:i_ n rows L):(L.length:Int)=n:=by exact h.1
theorem SK:i_ 0 [] []:=by
 exact⟨rfl,fun j p h=>by have:=aaF j;have:1 * 2 ^ j<=(p+1) * 2 ^ j:=aat _ (by omega);simp at h;omega⟩
theorem Xv(n:Int):Ia 0 n:=by
 exact⟨n.toNat,Nat.le_of_lt Nat.lt_two_pow_self,by simp⟩
theorem Pd(n:Nat):bI n=2 ^ (n-1).log2:=rfl
attribute [irreducible] i_ wo Ia bI
end
noncomputable section
def cX(x:Int):Int:=if x<=0 then 0 else((x.toNat.log2+1:Nat):Int)
def oW:List Nat:=[0,1,2,2,3,3,3,3,4,4,4,4,4,4,4,4,5,5,5,5,5,5,5,5,5,5,5,5,5,5,5,5,6,6,6,6,6,6,6,6,6,6,6,6,6,6,6,6,6,6,6,6,6,6,6,6,6,6,6,6,6,6,6,6,7,7,7,7,7,7,7,7,7,7,7,7,7,7,7,7,7,7,7,7,7,7,7,7,7,7,7,7,7,7,7,7,7,7,7,7,7,7,7,7,7,7,7,7,7,7,7,7,7,7,7,7,7,7,7,7,7,7,7,7,7,7,7,7,8,8,8,8,8,8,8,8,8,8,8,8,8,8,8,8,8,8,8,8,8,8,8,8,8,8,8,8,8,8,8,8,8,8,8,8,8,8,8,8,8,8,8,8,8,8,8,8,8,8,8,8,8,8,8,8,8,8,8,8,8,8,8,8,8,8,8,8,8,8,8,8,8,8,8,8,8,8,8,8,8,8,8,8,8,8,8,8,8,8,8,8,8,8,8,8,8,8,8,8,8,8,8,8,8,8,8,8,8,8,8,8,8,8,8,8,8,8,8,8,8,8,8,8,8,8,8,8]
def eW:List Nat:=[0,1,56,2,57,49,28,3,61,58,42,50,38,29,17,4,62,47,59,36,45,43,51,22,53,39,33,30,24,18,12,5,63,55,48,27,60,41,37,16,46,35,44,21,52,32,23,11,54,26,40,15,34,20,31,10,25,14,19,9,13,8,7,6]
theorem Pe:∀i:Nat,i<256->((dn oW i:Nat):Int)=cX i:=by
 have h:∀i:Fin 256,dn oW i.1=if i.1=0 then 0 else i.1.log2+1:=by decide+kernel
 intro i hi
 rw[h ⟨i,hi⟩]
 unfold cX
 by_cases e:i=0
 ·subst e;rfl
 ·rw[if_neg e,if_neg (by omega),aaq]
def Pf(x:Int):Int:=IntKind.u64.wrap (Int.ofNat ((aL (aj .u64) x).land (aL (aj .u64) ((0-x)%18446744073709551616)))) * 285870213051353865%18446744073709551616/288230376151711744
theorem SL:∀j:Fin 41,(0<=Pf ((2 ^ j.1:Nat):Int)/\Pf ((2 ^ j.1:Nat):Int)<64)/\eW.getD (Pf ((2 ^ j.1:Nat):Int)).toNat 0=j.1:=by decide+kernel
theorem U3{x:Int}{j:Nat}(hj:j<=40)(e:x=((2 ^ j:Nat):Int)):0<x/\(0<=Pf x/\Pf x<64)/\(((eW.getD (Pf x).toNat 0:Nat):Int)=(j:Int))/\x=((2 ^ (((eW.getD (Pf x).toNat 0:Nat):Int)).toNat:Nat):Int):=by
 subst e
 obtain⟨h1,h2⟩:=SL ⟨j,by omega⟩
 refine⟨by have:=aaF j;omega,h1,by rw[h2], ?_⟩
 have h2:eW.getD (Pf ((2 ^ j:Nat):Int)).toNat 0=j:=h2
 rw[h2,aaq]
theorem CJ{x:Nat}{k:Nat}(h:2 ^ k<=x):x.log2=k+(x/2 ^ k).log2:=by
 have hp:=aaF k
 have hd:x/2 ^ k≠0:=by have:=Nat.div_pos h hp;omega
 have hx:x≠0:=by omega
 have a:=Nat.log2_self_le hd
 have b:x/2 ^ k<2 ^ ((x/2 ^ k).log2+1):=Nat.lt_log2_self
 have h1:2 ^ (k+(x/2 ^ k).log2)<=x:=by rw[abk,Nat.mul_comm];exact aaR (aat _ a) (Nat.div_mul_le_self _ _)
 have h2:x<2 ^ (k+(x/2 ^ k).log2+1):=by rw[abp,abk,Nat.mul_comm];exact(Nat.div_lt_iff_lt_mul hp).1 b
 have c1:=(Nat.le_log2 hx).2 h1
 have c2:=(Nat.log2_lt hx).2 h2
 omega
theorem lG{x:Int}(k:Nat)(h:((2 ^ k:Nat):Int)<=x):cX x=k+cX (x/((2 ^ k:Nat):Int)):=by
 obtain⟨n,rfl⟩:∃n:Nat,x=n:=⟨x.toNat,by have:=aaF k;omega⟩
 have hn:2 ^ k<=n:=by omega
 have hp:=aaF k
 have hd:0<n/2 ^ k:=Nat.div_pos hn hp
 have e:((n:Int)/((2 ^ k:Nat):Int))=((n/2 ^ k:Nat):Int):=by simp
 rw[e]
 unfold cX
 rw[if_neg (by omega),if_neg (by omega),aaq,aaq,CJ hn]
 omega
theorem Pg{x:Int}(h:4294967296<=x):cX x=32+cX (x/4294967296):=lG 32 h
theorem E6{x:Int}(h:65536<=x):cX x=16+cX (x/65536):=lG 16 h
theorem wp{x:Int}(h:256<=x):cX x=8+cX (x/256):=lG 8 h
theorem eX{x:Int}(h0:0<=x)(h:x<256):((dn oW (x%256).toNat:Nat):Int)=cX x:=by rw[Pe _ (by omega)];congr 1;omega
theorem tZ{n:Int}(h:2<=n)(h1:n<=1099511627776):(0<=cX (n-1)-1/\cX (n-1)-1<=40)/\((2 ^ min (cX (n-1)-1).toNat (aY .i64):Nat):Int)=(bI n.toNat:Nat):=by
 have e:cX (n-1)-1=(((n.toNat-1).log2:Nat):Int):=by unfold cX;rw[if_neg (by omega),show(n-1).toNat=n.toNat-1 by omega];omega
 have hl:(n.toNat-1).log2<41:=(Nat.log2_lt (by omega)).2 (by omega)
 rw[e]
 refine⟨by omega, ?_⟩
 rw[aaq,Pd]
 show((2 ^ min ((n.toNat-1).log2) 64:Nat):Int)=_
 rw[abh (by omega)]
theorem lH{n:Int}(h:2<=n):1<=((bI n.toNat:Nat):Int)/\((bI n.toNat:Nat):Int)<n/\n<=2 * ((bI n.toNat:Nat):Int):=by
 have a:=ft n.toNat
 have b:=eD (n:=n.toNat) (by omega)
 have c:=CE (n:=n.toNat) (by omega)
 omega
theorem U4{x:Int}(h0:0<=x)(h:x<9223372036854775808):IntKind.i64.wrap (Int.ofNat ((aL (aj .i64) x).land (aL (aj .i64) 1)))=x%2:=by
 obtain⟨n,rfl⟩:∃n:Nat,x=n:=⟨x.toNat,by omega⟩
 have e:(aL (aj .i64) n).land (aL (aj .i64) 1)=n%2:=by
  show(n%18446744073709551616) &&& 1=_
  rw[aa3 (by omega),Nat.and_one_is_mod]
 rw[e]
 rcases abt n with h2|h2
 ·rw[h2];show(0:Int)=_;omega
 ·rw[h2];show(1:Int)=_;omega
theorem Ph{n:Nat}(h:1<=n):n &&& (n-1)=0↔∃i,n=2 ^ i:=by
 constructor
 ·intro e
  refine⟨n.log2, ?_⟩
  have a:=Nat.log2_self_le (n:=n) (by omega)
  rcases aaf (2 ^ n.log2) n with f7|X_
  ·exfalso
   have b:n<2 ^ (n.log2+1):=Nat.lt_log2_self
   have t1:n.testBit n.log2=true:=Nat.testBit_log2 (by omega)
   have t2:(n-1).testBit n.log2=true:=by
    have:(n-1).log2=n.log2:=by
     have c1:=(Nat.le_log2 (n:=n-1) (k:=n.log2) (by omega)).2 (by omega)
     have c2:=(Nat.log2_lt (n:=n-1) (k:=n.log2+1) (by omega)).2 (by omega)
     omega
    rw[←this];exact Nat.testBit_log2 (by omega)
   have t3:(n &&& (n-1)).testBit n.log2=true:=by rw[Nat.testBit_and,t1,t2];rfl
   rw[e] at t3;simp at t3
  ·omega
 ·rintro⟨i,rfl⟩
  refine Nat.eq_of_testBit_eq fun j=>?_
  rw[Nat.testBit_and,Nat.testBit_two_pow_sub_one,Nat.testBit_two_pow,Nat.zero_testBit]
  by_cases e:i=j
  ·subst e;simp
  ·simp [e]
theorem LB{x y:Int}(hy:y=x-1)(h0:1<=x)(h:x<4611686018427387904):IntKind.i64.wrap (Int.ofNat ((aL (aj .i64) x).land (aL (aj .i64) y)))=0↔∃i:Nat,x=((2 ^ i:Nat):Int):=by
 subst hy
 obtain⟨n,rfl⟩:∃n:Nat,x=n:=⟨x.toNat,by omega⟩
 obtain⟨m,hm⟩:∃m:Nat,n=m+1:=⟨n-1,by omega⟩
 subst hm
 have e:(aL (aj .i64) ((m+1:Nat):Int)).land (aL (aj .i64) (((m+1:Nat):Int)-1))=(m+1) &&& m:=by
  rw[show((m+1:Nat):Int)-1=(m:Nat) by omega]
  show((m+1)%18446744073709551616) &&& (m%18446744073709551616)=_
  rw[aa3 (by omega),aa3 (by omega)]
 rw[e,rh (Nat.lt_of_le_of_lt Nat.and_le_left (by omega)),show(m+1) &&& m=(m+1) &&& (m+1-1) by rfl,Ph (by omega)]
 exact⟨fun⟨i,hi⟩=>⟨i,by omega⟩,fun⟨i,hi⟩=>⟨i,by omega⟩⟩
theorem LC{L:List G}{h:G}(hL:RowsOk L)(hh:HOk h):RowsOk (L++ [.node [h]]):=fun r hr=>by
 rcases List.mem_append.1 hr with hr|hr
 ·exact hL r hr
 ·rw[List.mem_singleton.1 hr];show HOk (hX h);rw[cZ hh];exact hh
def kD(x:Int):Prop:=∃j:Nat,x=((2 ^ j:Nat):Int)
theorem LD:kD 1:=⟨0,rfl⟩
theorem SM{x:Int}(h:kD x):kD (2 * x):=by obtain⟨j,e⟩:=h;exact⟨j+1,by rw[e,aaT];push_cast;omega⟩
theorem LE{x:Int}(h:kD x):1<=x:=by obtain⟨j,e⟩:=h;have:=aaF j;omega
theorem SN{x n:Int}(h:kD x)(h1:x<n)(h2:n<=2 * x):x=(bI n.toNat:Nat):=by
 obtain⟨j,e⟩:=h
 rw[Lz (n:=n.toNat) (j:=j) (by omega) (by omega)];exact e
theorem SO{x y:Int}(hy:y=x-1)(h0:1<=x)(h:x<4611686018427387904):IntKind.i64.wrap (Int.ofNat ((aL (aj .i64) x).land (aL (aj .i64) y)))=0↔kD x:=LB hy h0 h
theorem U5{x:Int}(h:kD x)(hx:x<=1000000):∃j:Nat,j<=40/\x=((2 ^ j:Nat):Int):=by
 obtain⟨j,e⟩:=h
 refine⟨j, ?_,e⟩
 rcases aaf 40 j with h|h
 ·have:=abj (n:=2) (by decide) h
  omega
 ·exact h
def jR(lv pl:Int)(rows:List G)(h:G):Prop:=∃L,wo L lv pl rows h/\L.length<=2000000/\RowsOk L
def fu(lv pl:Int)(rows:List G)(h:G)(p5:List G):Prop:=∀L,wo L lv pl rows h->i_ L.length p5 L
def jS(n:Int)(rows:List G):Prop:=∃L,i_ n rows L/\RowsOk L
def wq(n:Int)(rows:List G)(h:G)(n':Int)(p5:List G):Prop:=∀L,i_ n rows L->i_ n' p5 (L++ [.node [h]])
def gG(n:Int)(rows:List G)(fr k:Int)(h:G):Prop:=∀L,i_ n rows L->h=aU ((L.drop fr.toNat).take k.toNat)
theorem SP{lv pl:Int}{rows:List G}{h:G}(hl:jR lv pl rows h):(0<=lv/\lv<=30)/\0<=pl/\pl<=2000000:=by obtain⟨L,h1,h2,_⟩:=hl;exact U2 h1 h2
theorem Pi{lv pl:Int}{rows:List G}{h:G}(hl:jR lv pl rows h)(ho:pl%2=1):kT 0 rows [lv,pl-1]:=by obtain⟨L,h1,h2⟩:=hl;exact(CF h1 ho).1
theorem SQ{lv pl:Int}{rows:List G}{h:G}(hl:jR lv pl rows h)(ho:pl%2=1):HOk (hX (aa (dW 0 rows [lv,pl-1]) 2)):=by obtain⟨L,h1,h2,h3⟩:=hl;rw[(CF h1 ho).2];exact cA _ ((h3.drop _).take _)
theorem LG{lv pl:Int}{rows:List G}{h h':G}(hl:jR lv pl rows h)(ho:pl%2=1)(hh:h'=bb (hX (aa (dW 0 rows [lv,pl-1]) 2)) h):jR (lv+1) (pl/2) (cL 0 rows [lv+1,pl/2] [h']) h':=by obtain⟨L,h1,h2⟩:=hl;exact⟨L,E5 h1 ho hh,h2⟩
theorem LH{lv pl:Int}{rows p5:List G}{h h':G}(ho:pl%2=1)(hh:h'=bb (hX (aa (dW 0 rows [lv,pl-1]) 2)) h)(ht:fu (lv+1) (pl/2) (cL 0 rows [lv+1,pl/2] [h']) h' p5):fu lv pl rows h p5:=fun L hl=>ht L (E5 hl ho hh)
theorem Pj{lv pl:Int}{rows:List G}{h:G}(ho:¬pl%2=1):fu lv pl rows h rows:=fun L hl=>SH hl ho
theorem He{n:Int}{rows:List G}{h:G}(hl:jS n rows)(hn:n<=1000000)(hh:hX h=h)(ho:HOk h):jR 0 n (cL 0 rows [0,n] [h]) h:=by obtain⟨L,h1,h2⟩:=hl;exact⟨_,Au h1 hh,by have:=CI h1;rw[aai,aaI];omega,LC h2 ho⟩
theorem Hg{n:Int}{rows p5:List G}{h:G}(hh:hX h=h)(ht:fu 0 n (cL 0 rows [0,n] [h]) h p5):wq n rows h (n+1) p5:=fun L hl=>by
 have:=ht _ (Au hl hh)
 rw[aai,aaI] at this
 have e:=CI hl
 rw[show((L.length+1:Nat):Int)=n+1 by omega] at this
 exact this
theorem Pk{N fr n lv:Int}{rows:List G}(h0:0<=fr)(hlv:0<=lv)(hn:n=((2 ^ lv.toNat:Nat):Int))(hb:fr+n<=N)(ha:Ia fr n):(jS N rows->kT 0 rows [lv,fr/((2 ^ lv.toNat:Nat):Int)]/\HOk (hX (aa (dW 0 rows [lv,fr/((2 ^ lv.toNat:Nat):Int)]) 2)))/\gG N rows fr n (hX (aa (dW 0 rows [lv,fr/((2 ^ lv.toNat:Nat):Int)]) 2)):=by
 have key:=fun L (hl:i_ N rows L)=>SJ (i:=lv.toNat) hl h0 hn hb ha
 rw[show((lv.toNat:Nat):Int)=lv by omega] at key
 exact⟨fun⟨L,h1,h2⟩=>⟨(key L h1).1,by rw[(key L h1).2];exact cA _ ((h2.drop _).take _)⟩,fun L hl=>(key L hl).2⟩
theorem Pl{N fr n k:Int}{rows:List G}{a b:G}(h0:0<=fr)(hn:2<=n)(hb:fr+n<=N)(hk:k=(bI n.toNat:Nat))(h1:gG N rows fr k a)(h2:gG N rows (fr+k) (n-k) b):gG N rows fr n (bb a b):=fun L hl=>by rw[CH h0 hn (by have:=CI hl;omega) hk,h1 L hl,h2 L hl]
theorem SR{N fr n:Int}{rows:List G}{h:G}(he:jS N rows)(ht:gG N rows fr n h):HOk h:=by obtain⟨L,h1,h2⟩:=he;rw[ht L h1];exact cA _ ((h2.drop _).take _)
theorem Pm{N:Int}{rows:List G}{n:Int}(hn:n=0):gG N rows 0 n (bT []):=fun L _=>by subst hn;show _=aU [];rw[oe rfl]
def CK:FSpec:={args:=[.c (.i .u64 1)],blk:=[],pre:=fun z=>0<=z.i 1/\z.i 1<18446744073709551616,res:=fun _=>.one (.c (.i .i64 10)),out:=fun _=>[],post:=fun z y=>y.i 10=cX (z.i 1)}
def Av:FSpec:={args:=[.c (.i .i64 1)],blk:=[],pre:=fun z=>2<=z.i 1/\z.i 1<=1099511627776,res:=fun _=>.one (.c (.i .i64 10)),out:=fun _=>[],post:=fun z y=>y.i 10=(bI (z.i 1).toNat:Nat)}
def lI:Option (Nat×Nat×List Nat):=some (2,366,eW)
def Xh:FSpec:={args:=[.c (.i .u64 1)],blk:=[],pre:=fun z=>kD (z.i 1)/\z.i 1<=1000000,res:=fun _=>.one (.c (.i .i64 10)),out:=fun _=>[],post:=fun z y=>(0<=y.i 10/\y.i 10<=40)/\z.i 1=((2 ^ (y.i 10).toNat:Nat):Int),gl:=lI}
def LI:List BSh:=[.cells 161 [.i .i64 1,.m 1],.sm 0 2]
def SS:List BSh:=[.cells 161 [.i .i64 1,.m 1],.sm 0 2,.cells 38 (hs 100)]
def CL(p:Sy):LSpec:={tmps:=[(0,.c (.p 0)),(3,.c (.p 2)),(5,.c (.i .i64 5)),(6,.c (.i .i64 6)),(7,.c (.i .i64 7))],blk:=SS,inv:=fun z=>HOk (hT z 100)/\jR (z.i 6) (z.i 7) (z.g 2) (hT z 100),mu:=fun z=>(z.i 7).toNat,alts:=[⟨.exit 0,[(0,.c (.p 0)),(5,.c (.i .i64 5))],SS⟩],post:=fun z y=>y.i 5=z.i 5/\y.i 1=z.i 1/\fu (z.i 6) (z.i 7) (z.g 2) (hT z 100) (y.g 2)}
def ST:FSpec:={args:=[.c (.p 0),.ag (hs 100)],blk:=LI,pre:=fun z=>HOk (hT z 100)/\(0<=z.i 1/\z.i 1<1000000)/\jS (z.i 1) (z.g 2),res:=fun _=>.one (.c .o),out:=fun _=>LI,post:=fun z y=>y.i 1=z.i 1+1/\wq (z.i 1) (z.g 2) (hT z 100) (y.i 1) (y.g 2)}
def LJ(k:Nat):FSpec:={args:=[.c (.p 0),.c (.i .i64 5),.c (.i .i64 6)],blk:=LI,pre:=fun z=>(1<=z.i 6/\z.i 6<k)/\0<=z.i 5/\z.i 5+z.i 6<=z.i 1/\z.i 1<=1000000/\Ia (z.i 5) (z.i 6)/\jS (z.i 1) (z.g 2),res:=fun _=>.one (.ag (hs 300)),out:=fun _=>LI,post:=fun z y=>y.i 1=z.i 1/\y.g 2=z.g 2/\gG (z.i 1) (z.g 2) (z.i 5) (z.i 6) (hT y 300),gl:=lI}
def LK:FSpec:={args:=[.c (.p 0),.c (.i .i64 6)],blk:=LI,pre:=fun z=>(0<=z.i 1/\z.i 1<=1000000)/\jS (z.i 1) (z.g 2),res:=fun _=>.tu [.ag (hs 300),.c (.i .i64 50)],out:=fun _=>LI,post:=fun z y=>y.i 1=z.i 1/\y.g 2=z.g 2/\(z.i 6<0∨z.i 1<z.i 6->y.i 50=1/\hT y 300=hZ)/\(0<=z.i 6/\z.i 6<=z.i 1->y.i 50=0/\gG (z.i 1) (z.g 2) 0 (z.i 6) (hT y 300)),gl:=lI}
def rz(p:Sy):LSpec:={tmps:=[(0,.c (.pi .i64 (p.i 1))),(3,.c (.i .i64 7))],blk:=[],inv:=fun z=>(2<=p.i 1/\p.i 1<=1099511627776)/\z.i 7<p.i 1/\kD (z.i 7),mu:=fun z=>(p.i 1-z.i 7).toNat,alts:=[⟨.exit 0,[(3,.c (.i .i64 7))],[]⟩],post:=fun z y=>y.i 7=(bI (p.i 1).toNat:Nat)}
abbrev CM:=Av
def CN(k:Nat):FSpec:={args:=[.c (.v 6 1)],blk:=[],pre:=fun z=>(z.g 1).length<k/\(z.g 1).length<=1000000/\RowsOk (z.g 1),res:=fun _=>.one (.ag (hs 300)),out:=fun _=>[],post:=fun z y=>hT y 300=aU (z.g 1)}
def LL(k:Nat):FSpec:={args:=[.c (.i .i64 3),.c (.v 6 1)],blk:=[],pre:=fun z=>(z.g 1).length<k/\(z.g 1).length<=1000000/\RowsOk (z.g 1)/\0<=z.i 3/\z.i 3<=1000000,res:=fun _=>.one (.c (.g 0 32 30)),out:=fun _=>[.grow 6 38 30],post:=fun z y=>y.g 30=a_ (z.i 3) (z.g 1)/\(y.g 30).length<=(z.g 1).length}
def WH(k:Nat):FSpec:={args:=[.ag (hs 100),.c (.i .i64 3),.c (.i .i64 4),.c (.v 6 1)],blk:=[],pre:=fun z=>HOk (hT z 100)/\(0<=z.i 3/\z.i 3<z.i 4)/\z.i 4<k/\z.i 4<=1099511627776/\(z.g 1).length<=1000000/\RowsOk (z.g 1),res:=fun _=>.tu [.ag (hs 300),.c (.b 50)],out:=fun _=>[],post:=fun z y=>HOk (hT y 300)/\hT y 300=(ga (hT z 100) (z.i 3) (z.i 4) (z.g 1)).1/\(y.p 50↔(ga (hT z 100) (z.i 3) (z.i 4) (z.g 1)).2)}
theorem Pn{n n':Int}{rows p5:List G}{h:G}(ht:wq n rows h n' p5)(L:List G)(hl:i_ n rows L):i_ n' p5 (L++ [.node [h]]):=ht L hl
theorem SU{n:Int}{rows L:List G}(hl:i_ n rows L)(hr:RowsOk L):jS n rows:=⟨L,hl,hr⟩
theorem SV{n fr k:Int}{rows:List G}{h:G}(ht:gG n rows fr k h)(L:List G)(hl:i_ n rows L):h=aU ((L.drop fr.toNat).take k.toNat):=ht L hl
attribute [irreducible] kD cX oW eW jR fu jS wq gG
end
theorem CO(p z:Sy)(hA:(rz p).inv z):Fm.den (let v0:=(((2:Int)<=p.i 1/\p.i 1<=1099511627776)/\Go.IntKind.i64.wrap (2 * z.i 7)<p.i 1/\kD (Go.IntKind.i64.wrap ((2:Int) * z.i 7)));let v1:=(bI (p.i 1).toNat);let v2:=((-9223372036854775808:Int)<=2 * z.i 7/\(2:Int) * z.i 7<=9223372036854775807);let v3:=(p.i 1=p.i 1/\True);let v4:=(p.i 1-z.i 7);let v5:=(p.i 1-Go.IntKind.i64.wrap (2 * z.i 7));(.two ((-9223372036854775808:Int)<=p.i 1-z.i 7/\p.i 1-z.i 7<=9223372036854775807) (.two (z.i 7<p.i 1-z.i 7) (.two v2 (.an v3 (.at ((((2:Int)<=p.i 1/\p.i 1<=1099511627776)/\(2:Int) * z.i 7<p.i 1/\kD ((2:Int) * z.i 7))/\(p.i 1-2 * z.i 7).toNat<v4.toNat/\∀(y:Sy),y.i 7= ↑v1->y.i 7= ↑v1))) (.an v3 (.at (v0/\v5.toNat<v4.toNat/\∀(y:Sy),y.i 7= ↑v1->y.i 7= ↑v1)))) (.ax (z.i 7= ↑v1))) (.two (z.i 7<Go.IntKind.i64.wrap v4) (.an (¬v2) (.an v3 (.at (v0/\v5.toNat<v4.toNat/\∀(y:Sy),y.i 7= ↑v1->y.i 7= ↑v1)))) (.ax (z.i 7= ↑v1))))):=by
 dsimp only [rz] at hA
 have p1:=@SM (z.i 7)
 have p2:=@LE (z.i 7)
 have p3:=@SN (z.i 7) (p.i 1)
 conv=>zeta
 repeat' with_reducible first|intro _|apply aV|apply aZ|apply aT|apply bf|apply ba
 all_goals first|omega|grind [am,ai,ah,az,aA,aB,aC,aD,aE,aF,aG,aH,ao]
theorem Hh:dU Tryz.prog 67 0 rz:=bH 1000 mN eN lN (hn:=(hC 10 53269)) CO
theorem LM(z:Sy)(hA:CM.pre z):Fm.den ((.cl ((z.i 1=z.i 1/\True)) (((2:Int)<=z.i 1/\z.i 1<=1099511627776)/\(1:Int)<z.i 1/\kD (1:Int)) (fun y0=>y0.i 7= ↑(bI (z.i 1).toNat)) fun y0=>(.ax (y0.i 7= ↑(bI (z.i 1).toNat))))):=by
 dsimp only [CM,Av] at hA
 have p1:=LD
 repeat' with_reducible first|intro _|apply aV|apply aZ|apply aT|apply bf|apply ba
 all_goals first|omega|grind [am,ai,ah,az,aA,aB,aC,aD,aE,aF,aG,aH,ao]
theorem ws:Ok Tryz.prog 67 CM:=bS 1000 mN eN (eL (ptm:=[(0,.c (.i .i64 1))]) Hh lN) (hn:=.nil) LM
theorem LN(p z:Sy)(hA:(CL p).inv z):Fm.den (let v0:=((-9223372036854775808:Int)<=z.i 6+1/\z.i 6+1<=9223372036854775807);let v2:=(z.i 7/2);let v3:=(hT z 100);let v4:=(z.i 6+(1:Int));let v1:=(Go.IntKind.i64.wrap v4);let v5:=(hX (aa (dW 0 (z.g 2) [z.i 6,Go.IntKind.i64.wrap (z.i 7-(1:Int))]) 2));let v6:=(z.i 6+1);let v7:=(hX (aa (dW 0 (z.g 2) [z.i 6,z.i 7-(1:Int)]) 2));(.two (Go.IntKind.i64.wrap (Int.ofNat ((aL (aj Go.IntKind.i64) (z.i 7)).land (aL (aj Go.IntKind.i64) 1)))=1) (.two ((-9223372036854775808:Int)<=z.i 7-1/\z.i 7-1<=9223372036854775807) (.two (kT 0 (z.g 2) [z.i 6,z.i 7-1]) (.ct (HOk v7/\HOk v3) (fun y0=>hT y0 300=bb v7 v3) fun y0=>(let v8:=(cL 0 (z.g 2) [Go.IntKind.i64.wrap v6,z.i 7/2] [hT y0 300]);let v9:=(cL 0 (z.g 2) [z.i 6+1,z.i 7/2] [hT y0 300]);let v10:=(hT y0 300);(.two v0 (.an v0 (.ax ((HOk v10/\jR v4 v2 v9 v10)/\v2.toNat<(z.i 7).toNat/\∀(y:Sy),y.i 5=z.i 5/\y.i 1=z.i 1/\fu v4 v2 v9 v10 (y.g 2)->y.i 5=z.i 5/\y.i 1=z.i 1/\fu (z.i 6) (z.i 7) (z.g 2) v3 (y.g 2)))) (.an (¬v0) (.ax ((HOk v10/\jR v1 v2 v8 v10)/\v2.toNat<(z.i 7).toNat/\∀(y:Sy),y.i 5=z.i 5/\y.i 1=z.i 1/\fu v1 v2 v8 v10 (y.g 2)->y.i 5=z.i 5/\y.i 1=z.i 1/\fu (z.i 6) (z.i 7) (z.g 2) v3 (y.g 2))))))) (.ct (HOk hZ/\HOk v3) (fun y1=>hT y1 300=bb hZ v3) fun y1=>(let v11:=(cL 0 (z.g 2) [Go.IntKind.i64.wrap v6,z.i 7/2] [hT y1 300]);let f8:=(cL 0 (z.g 2) [z.i 6+1,z.i 7/2] [hT y1 300]);let g9:=(hT y1 300);(.two v0 (.an v0 (.ax ((HOk g9/\jR v4 v2 f8 g9)/\v2.toNat<(z.i 7).toNat/\∀(y:Sy),y.i 5=z.i 5/\y.i 1=z.i 1/\fu v4 v2 f8 g9 (y.g 2)->y.i 5=z.i 5/\y.i 1=z.i 1/\fu (z.i 6) (z.i 7) (z.g 2) v3 (y.g 2)))) (.an (¬v0) (.ax ((HOk g9/\jR v1 v2 v11 g9)/\v2.toNat<(z.i 7).toNat/\∀(y:Sy),y.i 5=z.i 5/\y.i 1=z.i 1/\fu v1 v2 v11 g9 (y.g 2)->y.i 5=z.i 5/\y.i 1=z.i 1/\fu (z.i 6) (z.i 7) (z.g 2) v3 (y.g 2)))))))) (.two (kT 0 (z.g 2) [z.i 6,Go.IntKind.i64.wrap (z.i 7-1)]) (.ct (HOk v5/\HOk v3) (fun y2=>hT y2 300=bb v5 v3) fun y2=>(let l7:=(cL 0 (z.g 2) [Go.IntKind.i64.wrap v6,z.i 7/2] [hT y2 300]);let o6:=(cL 0 (z.g 2) [z.i 6+1,z.i 7/2] [hT y2 300]);let r9:=(hT y2 300);(.two v0 (.an v0 (.ax ((HOk r9/\jR v4 v2 o6 r9)/\v2.toNat<(z.i 7).toNat/\∀(y:Sy),y.i 5=z.i 5/\y.i 1=z.i 1/\fu v4 v2 o6 r9 (y.g 2)->y.i 5=z.i 5/\y.i 1=z.i 1/\fu (z.i 6) (z.i 7) (z.g 2) v3 (y.g 2)))) (.an (¬v0) (.ax ((HOk r9/\jR v1 v2 l7 r9)/\v2.toNat<(z.i 7).toNat/\∀(y:Sy),y.i 5=z.i 5/\y.i 1=z.i 1/\fu v1 v2 l7 r9 (y.g 2)->y.i 5=z.i 5/\y.i 1=z.i 1/\fu (z.i 6) (z.i 7) (z.g 2) v3 (y.g 2))))))) (.ct (HOk hZ/\HOk v3) (fun y3=>hT y3 300=bb hZ v3) fun y3=>(let o9:=(cL 0 (z.g 2) [Go.IntKind.i64.wrap v6,z.i 7/2] [hT y3 300]);let z':=(cL 0 (z.g 2) [z.i 6+1,z.i 7/2] [hT y3 300]);let L':=(hT y3 300);(.two v0 (.an v0 (.ax ((HOk L'/\jR v4 v2 z' L')/\v2.toNat<(z.i 7).toNat/\∀(y:Sy),y.i 5=z.i 5/\y.i 1=z.i 1/\fu v4 v2 z' L' (y.g 2)->y.i 5=z.i 5/\y.i 1=z.i 1/\fu (z.i 6) (z.i 7) (z.g 2) v3 (y.g 2)))) (.an (¬v0) (.ax ((HOk L'/\jR v1 v2 o9 L')/\v2.toNat<(z.i 7).toNat/\∀(y:Sy),y.i 5=z.i 5/\y.i 1=z.i 1/\fu v1 v2 o9 L' (y.g 2)->y.i 5=z.i 5/\y.i 1=z.i 1/\fu (z.i 6) (z.i 7) (z.g 2) v3 (y.g 2))))))))) (.ax (z.i 5=z.i 5/\z.i 1=z.i 1/\fu (z.i 6) (z.i 7) (z.g 2) v3 (z.g 2))))):=by
 dsimp only [CL,SS,hs] at hA
 have s0:=@SP (z.i 6) (z.i 7) (z.g 2) (hT z 100)
 have s1:=@Pi (z.i 6) (z.i 7) (z.g 2) (hT z 100)
 have s2:=@SQ (z.i 6) (z.i 7) (z.g 2) (hT z 100)
 have s3:=fun h' hl ho hh=>@LG (z.i 6) (z.i 7) (z.g 2) (hT z 100) h' hl ho hh
 have s4:=fun p5 h' ho hh ht=>@LH (z.i 6) (z.i 7) (z.g 2) p5 (hT z 100) h' ho hh ht
 have s5:=@Pj (z.i 6) (z.i 7) (z.g 2) (hT z 100)
 have s6:=@U4 (z.i 7)
 conv=>zeta
 repeat' with_reducible first|intro _|apply aV|apply aZ|apply aT|apply bf|apply ba
 all_goals first|omega|grind [am,ai,ah,az,aA,aB,aC,aD,aE,aF,aG,aH,ao,bR]
theorem Po:dU Tryz.prog 135 0 CL:=bH 1000 mN (eK vI eN) lN (hn:=(hC 25 55304495116885)) LN
theorem SW(z:Sy)(hA:ST.pre z):Fm.den (let v0:=(cL 0 (z.g 2) [0,z.i 1] [hT z 100]);let v1:=(hT z 100);(.an (¬((1048576:Int)<=z.i 1)) (.an ((-9223372036854775808:Int)<=z.i 1+1/\z.i 1+1<=9223372036854775807) (.ct (HOk v1/\jR (0:Int) (z.i 1) v0 v1) (fun y0=>y0.i 5=z.i 1/\y0.i 1=z.i 1+1/\fu (0:Int) (z.i 1) v0 v1 (y0.g 2)) fun y0=>(.ax (y0.i 1=z.i 1+1/\wq (z.i 1) (z.g 2) v1 (y0.i 1) (y0.g 2))))))):=by
 dsimp only [ST,hs,LI] at hA
 have s1:=@He (z.i 1) (z.g 2) (hT z 100)
 have s2:=@cZ (hT z 100)
 have s3:=fun p5 hh ht=>@Hg (z.i 1) (z.g 2) p5 (hT z 100) hh ht
 conv=>zeta
 repeat' with_reducible first|intro _|apply aV|apply aZ|apply aT|apply bf|apply ba
 all_goals first|omega|grind [am,ai,ah,az,aA,aB,aC,aD,aE,aF,aG,aH,ao]
theorem Q8:Ok Tryz.prog 135 ST:=bS 1000 mN eN (eL (ptm:=[]) Po lN) (hn:=(.no (.yes .nil))) SW
theorem U6(z:Sy)(hA:Xh.pre z):Fm.den (let v1:=(↑(eW.getD (Go.IntKind.u64.wrap (Int.ofNat ((aL (aj Go.IntKind.u64) (z.i 1)).land (aL (aj Go.IntKind.u64) (((0:Int)-z.i 1)%18446744073709551616)))) * 285870213051353865%18446744073709551616/288230376151711744).toNat 0):Int);let v2:=(Int.ofNat ((aL (aj Go.IntKind.u64) (z.i 1)).land (aL (aj Go.IntKind.u64) ((0-z.i 1)%18446744073709551616))));let v0:=(↑(eW.getD (Go.IntKind.u64.wrap v2 * 285870213051353865%18446744073709551616/288230376151711744).toNat 0):Int);(.two (z.i 1=0) (.ax (((0:Int)<=64/\(64:Int)<=40)/\z.i 1= ↑(2 ^ Int.toNat 64))) (.an ((0:Int)<=Go.IntKind.u64.wrap v2 * 285870213051353865%18446744073709551616/288230376151711744/\Go.IntKind.u64.wrap v2 * 285870213051353865%18446744073709551616/288230376151711744<64) (.two ((-9223372036854775808:Int)<=v0/\v1<=9223372036854775807) (.ax (((0:Int)<=v0/\v1<=40)/\z.i 1=(↑(2 ^ v0.toNat):Int))) (.ax (((0:Int)<=Go.IntKind.i64.wrap v0/\Go.IntKind.i64.wrap v0<=40)/\z.i 1=(↑(2 ^ (Go.IntKind.i64.wrap v0).toNat):Int))))))):=by
 have hB:True/\kD (z.i 1)/\z.i 1<=1000000:=⟨trivial,hA⟩
 obtain⟨j,hj,ej⟩:=U5 hB.2.1 hB.2.2
 have t:=U3 hj ej
 dsimp only [Pf] at t
 conv=>zeta
 repeat' with_reducible first|intro _|apply aV|apply aZ|apply aT|apply bf|apply ba
 all_goals first|omega|grind [am,ai,ah,az,aA,aB,aC,aD,aE,aF,aG,aH,ao]
theorem WI:Ok Tryz.prog 275 Xh:=bS 1000 mN eN lN (hn:=(hC 5 17)) U6
theorem LO(z:Sy)(hA:CK.pre z):Fm.den (let v0:=(↑(dn oW (z.i 1/4294967296/65536/256%256).toNat):Int);let v1:=(↑(dn oW (z.i 1/4294967296/65536%256).toNat):Int);let v2:=(↑(dn oW (z.i 1/4294967296/256%256).toNat):Int);let v3:=(↑(dn oW (z.i 1/65536/256%256).toNat):Int);let v4:=(↑(dn oW (z.i 1/4294967296%256).toNat):Int);let v5:=(↑(dn oW (z.i 1/65536%256).toNat):Int);let v6:=(↑(dn oW (z.i 1/256%256).toNat):Int);let v7:=(↑(dn oW (z.i 1%256).toNat):Int);let v8:=(256:Int);(.two ((4294967296:Int)<=z.i 1) (.two ((65536:Int)<=z.i 1/4294967296) (.two (v8<=z.i 1/4294967296/65536) (.an ((0:Int)<=z.i 1/4294967296/65536/256%256/\z.i 1/4294967296/65536/256%256 < ↑256) (.an ((-9223372036854775808)<=v0/\v0<=9223372036854775807) (.an ((-9223372036854775808)<=56+v0/\56+v0<=9223372036854775807) (.ax (56+v0=cX (z.i 1)))))) (.an ((0:Int)<=z.i 1/4294967296/65536%256/\z.i 1/4294967296/65536%256 < ↑256) (.an ((-9223372036854775808)<=v1/\v1<=9223372036854775807) (.an ((-9223372036854775808)<=48+v1/\48+v1<=9223372036854775807) (.ax (48+v1=cX (z.i 1))))))) (.two (v8<=z.i 1/4294967296) (.an ((0:Int)<=z.i 1/4294967296/256%256/\z.i 1/4294967296/256%256 < ↑256) (.an ((-9223372036854775808)<=v2/\v2<=9223372036854775807) (.an ((-9223372036854775808)<=40+v2/\40+v2<=9223372036854775807) (.ax (40+v2=cX (z.i 1)))))) (.an ((0:Int)<=z.i 1/4294967296%256/\z.i 1/4294967296%256 < ↑256) (.an ((-9223372036854775808)<=v4/\v4<=9223372036854775807) (.an ((-9223372036854775808)<=32+v4/\32+v4<=9223372036854775807) (.ax (32+v4=cX (z.i 1)))))))) (.two ((65536:Int)<=z.i 1) (.two (v8<=z.i 1/65536) (.an ((0:Int)<=z.i 1/65536/256%256/\z.i 1/65536/256%256 < ↑256) (.an ((-9223372036854775808)<=v3/\v3<=9223372036854775807) (.an ((-9223372036854775808)<=24+v3/\24+v3<=9223372036854775807) (.ax (24+v3=cX (z.i 1)))))) (.an ((0:Int)<=z.i 1/65536%256/\z.i 1/65536%256 < ↑256) (.an ((-9223372036854775808)<=v5/\v5<=9223372036854775807) (.an ((-9223372036854775808)<=16+v5/\16+v5<=9223372036854775807) (.ax (16+v5=cX (z.i 1))))))) (.two (v8<=z.i 1) (.an ((0:Int)<=z.i 1/256%256/\z.i 1/256%256 < ↑256) (.an ((-9223372036854775808)<=v6/\v6<=9223372036854775807) (.an ((-9223372036854775808)<=8+v6/\8+v6<=9223372036854775807) (.ax (8+v6=cX (z.i 1)))))) (.an ((0:Int)<=z.i 1%256/\z.i 1%256 < ↑256) (.an ((-9223372036854775808)<=v7/\v7<=9223372036854775807) (.an ((-9223372036854775808)<=0+v7/\0+v7<=9223372036854775807) (.ax (0+v7=cX (z.i 1)))))))))):=by
 dsimp only [CK] at hA
 have b1:=@Pg (z.i 1)
 have b2:=@E6 (z.i 1)
 have b3:=@wp (z.i 1)
 have b4:=@E6 (z.i 1/4294967296)
 have b5:=@wp (z.i 1/4294967296)
 have b6:=@wp (z.i 1/65536)
 have b7:=@wp (z.i 1/4294967296/65536)
 have c0:=@eX (z.i 1)
 have c1:=@eX (z.i 1/256)
 have c2:=@eX (z.i 1/65536)
 have c3:=@eX (z.i 1/65536/256)
 have c4:=@eX (z.i 1/4294967296)
 have c5:=@eX (z.i 1/4294967296/256)
 have c6:=@eX (z.i 1/4294967296/65536)
 have c7:=@eX (z.i 1/4294967296/65536/256)
 conv=>zeta
 repeat' with_reducible first|intro _|apply aV|apply aZ|apply aT|apply bf|apply ba
 all_goals first|omega|grind [am,ai,ah,az,aA,aB,aC,aD,aE,aF,aG,aH,ao]
theorem E7:Ok Tryz.prog 200 CK:=bS 1000 mN eN lN (hn:=(hC 31 732161104241009301)) LO
theorem Pp(z:Sy)(hA:Av.pre z):Fm.den (let v0:=(aY Go.IntKind.i64);let v1:=(-9223372036854775808:Int);let v2:=(bI (z.i 1).toNat);(.an (v1<=z.i 1-1/\z.i 1-1<=9223372036854775807) (.ct ((0:Int)<=(z.i 1-1)%18446744073709551616/\(z.i 1-1)%18446744073709551616<18446744073709551616) (fun y0=>y0.i 10=cX ((z.i 1-1)%18446744073709551616)) fun y0=>(let v3:=(↑(2 ^ Min.min (Go.IntKind.i64.wrap (y0.i 10-1)).toNat v0):Int);let v4:=(↑(2 ^ Min.min (y0.i 10-1).toNat v0):Int);(.two (v1<=y0.i 10-1/\y0.i 10-1<=9223372036854775807) (.an ((0:Int)<=y0.i 10-1) (.two ((-9223372036854775808)<=1 * v4/\1 * v4<=9223372036854775807) (.ax (1 * v4=(↑v2:Int))) (.ax (Go.IntKind.i64.wrap (1 * v4)= ↑v2)))) (.an ((0:Int)<=Go.IntKind.i64.wrap (y0.i 10-1)) (.two (v1<=1 * v3/\(1:Int) * v3<=9223372036854775807) (.ax (1 * v3=(↑v2:Int))) (.ax (Go.IntKind.i64.wrap (1 * v3)= ↑v2))))))))):=by
 dsimp only [Av] at hA
 have b1:=@tZ (z.i 1)
 have b2:=@lH (z.i 1)
 conv=>zeta
 repeat' with_reducible first|intro _|apply aV|apply aZ|apply aT|apply bf|apply ba
 all_goals first|omega|grind [am,ai,ah,az,aA,aB,aC,aD,aE,aF,aG,aH,ao]
theorem SX:Ok Tryz.prog 276 Av:=bS 1000 mN (eK E7 eN) lN (hn:=(hC 8 1046)) Pp
theorem Pq(k:Nat)(z:Sy)(hA:(LJ (k+1)).pre z):Fm.den (let v0:=(-9223372036854775808:Int);(.an (v0<=z.i 6-1/\z.i 6-1<=9223372036854775807) (.two (Go.IntKind.i64.wrap (Int.ofNat ((aL (aj Go.IntKind.i64) (z.i 6)).land (aL (aj Go.IntKind.i64) (z.i 6-1))))=0) (.ct (kD (z.i 6%(18446744073709551616:Int))/\z.i 6%18446744073709551616<=1000000) (fun y0=>((0:Int)<=y0.i 10/\y0.i 10<=40)/\z.i 6%18446744073709551616= ↑(2 ^ (y0.i 10).toNat)) fun y0=>(let v1:=(2 ^ Min.min (y0.i 10).toNat (aY Go.IntKind.i64));(.an ((0:Int)<=y0.i 10) (.two (kT 0 (z.g 2) [y0.i 10,z.i 5 / ↑v1]) (.ax (z.i 1=z.i 1/\z.g 2=z.g 2/\gG (z.i 1) (z.g 2) (z.i 5) (z.i 6) (hX (aa (dW 0 (z.g 2) [y0.i 10,z.i 5/(↑v1:Int)]) 2)))) (.ax (z.i 1=z.i 1/\z.g 2=z.g 2/\gG (z.i 1) (z.g 2) (z.i 5) (z.i 6) hZ)))))) (.ct ((2:Int)<=z.i 6/\z.i 6<=1099511627776) (fun y1=>y1.i 10= ↑(bI (z.i 6).toNat)) fun y1=>(let v2:=(z.i 6-y1.i 10);(.ct (((1:Int)<=y1.i 10/\y1.i 10 < ↑k)/\(0:Int)<=z.i 5/\z.i 5+y1.i 10<=z.i 1/\z.i 1<=1000000/\Ia (z.i 5) (y1.i 10)/\jS (z.i 1) (z.g 2)) (fun y2=>y2.i 1=z.i 1/\y2.g 2=z.g 2/\gG (z.i 1) (z.g 2) (z.i 5) (y1.i 10) (hT y2 300)) fun y2=>(.an (v0<=z.i 5+y1.i 10/\z.i 5+y1.i 10<=9223372036854775807) (.an (v0<=z.i 6-y1.i 10/\z.i 6-y1.i 10<=9223372036854775807) (.ct (((1:Int)<=z.i 6-y1.i 10/\z.i 6-y1.i 10 < ↑k)/\(0:Int)<=z.i 5+y1.i 10/\z.i 5+y1.i 10+v2<=y2.i 1/\y2.i 1<=1000000/\Ia (z.i 5+y1.i 10) v2/\jS (y2.i 1) (y2.g 2)) (fun y3=>y3.i 1=y2.i 1/\y3.g 2=y2.g 2/\gG (y2.i 1) (y2.g 2) (z.i 5+y1.i 10) v2 (hT y3 300)) fun y3=>(.ct (HOk (hT y2 300)/\HOk (hT y3 300)) (fun y4=>hT y4 300=bb (hT y2 300) (hT y3 300)) fun y4=>(.ax (y3.i 1=z.i 1/\y3.g 2=z.g 2/\gG (z.i 1) (z.g 2) (z.i 5) (z.i 6) (hT y4 300))))))))))))):=by
 dsimp only [LJ,LI,hs,lI] at hA
 have p1:=LD
 have m1:1<=z.i 6->z.i 6<=1000000->z.i 6%18446744073709551616=z.i 6:=fun a b=>by omega
 have b2:∀v:Int,0<=v->v<=40->min v.toNat (aY .i64)=v.toNat:=fun v h0 h=>by show min v.toNat 64=_;omega
 have a1:=@SO (z.i 6) (z.i 6-1) rfl
 have a2:=fun lv h0 hlv hn hb ha=>@Pk (z.i 1) (z.i 5) (z.i 6) lv (z.g 2) h0 hlv hn hb ha
 have a3:=fun k a b h0 hn hb hk h1 h2=>@Pl (z.i 1) (z.i 5) (z.i 6) k (z.g 2) a b h0 hn hb hk h1 h2
 have a4:=@U0 (z.i 5) (z.i 6)
 have a5:=@U1 (z.i 5) (z.i 6)
 have a6:=@lH (z.i 6)
 have a7:=fun fr n h he ht=>@SR (z.i 1) fr n (z.g 2) h he ht
 have a8:=fun h:kD (z.i 6)=>@LE (z.i 6) h
 conv=>zeta
 repeat' with_reducible first|intro _|apply aV|apply aZ|apply aT|apply bf|apply ba
 all_goals first|omega|grind [am,ai,ah,bR]
theorem E8:∀k,Ok Tryz.prog 236 (LJ k)
 |0=>NM fun z h=>by have h:(1<=z.i 6/\z.i 6<((0:Nat):Int)):=h.1;omega
 |k+1=>bS 1000 mN (eK WI (eK SX (eK (E8 k) (eK vI eN)))) lN (hn:=(hC 8 10262)) (Pq k)
theorem Pr(z:Sy)(hA:LK.pre z):Fm.den (let v0:=(z.i 1=z.i 1/\z.g 2=z.g 2/\(z.i 6<0∨z.i 1<z.i 6->(1:Int)=1/\hZ=hZ)/\((0:Int)<=z.i 6/\z.i 6<=z.i 1->(1:Int)=0/\gG (z.i 1) (z.g 2) (0:Int) (z.i 6) hZ));(.two (z.i 6<0) (.ax v0) (.two (z.i 1<z.i 6) (.ax v0) (.two (z.i 6=0) (.ct (0<=1000000000) (fun y0=>True) fun y0=>(.ax (z.i 1=z.i 1/\z.g 2=z.g 2/\(z.i 6<0∨z.i 1<z.i 6->(0:Int)=1/\hG (fS [])=hZ)/\((0:Int)<=z.i 6/\z.i 6<=z.i 1->(0:Int)=0/\gG (z.i 1) (z.g 2) (0:Int) (z.i 6) (hG (fS [])))))) (.ct (((1:Int)<=z.i 6/\z.i 6<1000001)/\(0:Int)<=0/\(0:Int)+z.i 6<=z.i 1/\z.i 1<=1000000/\Ia (0:Int) (z.i 6)/\jS (z.i 1) (z.g 2)) (fun y1=>y1.i 1=z.i 1/\y1.g 2=z.g 2/\gG (z.i 1) (z.g 2) (0:Int) (z.i 6) (hT y1 300)) fun y1=>(.ax (y1.i 1=z.i 1/\y1.g 2=z.g 2/\(z.i 6<0∨z.i 1<z.i 6->(0:Int)=1/\hT y1 300=hZ)/\((0:Int)<=z.i 6/\z.i 6<=z.i 1->(0:Int)=0/\gG (z.i 1) (z.g 2) (0:Int) (z.i 6) (hT y1 300))))))))):=by
 dsimp only [LK,LI,hs,lI] at hA
 have a1:=Xv (z.i 6)
 have a2:=@Pm (z.i 1) (z.g 2) (z.i 6)
 have a3:=lz []
 conv=>zeta
 repeat' with_reducible first|intro _|apply aV|apply aZ|apply aT|apply bf|apply ba
 all_goals first|omega|grind [am,ai,ah,az,aA,aB,aC,aD,aE,aF,aG,aH,ao]
theorem SY:Ok Tryz.prog 192 LK:=bS 1000 mN (eK tJ (eK (E8 1000001) eN)) lN (hn:=(hC 7 273)) Pr
noncomputable section
theorem rA{l:List G}:List.take (l.length:Int).toNat l=l:=by rw[aaq,aaZ]
theorem LP{l:List G}{k:Int}(h:2<=l.length)(hk:k=(bI ((l.length:Int)).toNat:Nat)):aU l=bb (aU (List.drop (0:Int).toNat (List.take k.toNat l))) (aU (List.drop k.toNat (List.take (l.length:Int).toNat l))):=Hd h (by rw[hk,aaq])
theorem SZ{i:Int}{l:List G}{k:Int}(h:2<=l.length)(hk:k=(bI ((l.length:Int)).toNat:Nat)):(i<k->a_ i l=a_ i (List.drop (0:Int).toNat (List.take k.toNat l))++ [.node [aU (List.drop k.toNat (List.take (l.length:Int).toNat l))]])/\(¬i<k->a_ i l=a_ (i-k) (List.drop k.toNat (List.take (l.length:Int).toNat l))++ [.node [aU (List.drop (0:Int).toNat (List.take k.toNat l))]]):=by
 subst hk
 rw[rA,drop_zero,aaq,aaq]
 exact⟨fun hi=>mR h hi,fun hi=>mS h hi⟩
theorem cut_len{l:List G}{k:Int}(h0:0<=k)(hk:k<=l.length):((List.drop (0:Int).toNat (List.take k.toNat l)).length:Int)=k/\((List.drop k.toNat (List.take (l.length:Int).toNat l)).length:Int)=l.length-k:=by
 rw[rA,drop_zero,aam,aan];omega
theorem wt{l:List G}{k:Int}(h:RowsOk l):RowsOk (List.drop (0:Int).toNat (List.take k.toNat l))/\RowsOk (List.drop k.toNat (List.take (l.length:Int).toNat l)):=by
 rw[rA,drop_zero];exact⟨h.take _,h.drop _⟩
theorem Q9{l:List G}(h:1<=l.length):List.drop (0:Int).toNat (List.take ((l.length:Int)-1).toNat l)=l.dropLast:=by
 rw[drop_zero,List.dropLast_eq_take];congr 1;omega
theorem WJ{h:G}{i n:Int}{p:List G}{k:Int}(hn:2<=n)(hp:¬(p.length:Int)=0)(hk:k=(bI n.toNat:Nat)):(i<k->ga h i n p=(bb (ga h i k (List.drop (0:Int).toNat (List.take ((p.length:Int)-1).toNat p))).1 (hX (aa (aq p ((p.length:Int)-1).toNat) 0)),(ga h i k (List.drop (0:Int).toNat (List.take ((p.length:Int)-1).toNat p))).2))/\(¬i<k->ga h i n p=(bb (hX (aa (aq p ((p.length:Int)-1).toNat) 0)) (ga h (i-k) (n-k) (List.drop (0:Int).toNat (List.take ((p.length:Int)-1).toNat p))).1,(ga h (i-k) (n-k) (List.drop (0:Int).toNat (List.take ((p.length:Int)-1).toNat p))).2)):=by
 subst hk
 rw[Q9 (by omega),show((p.length:Int)-1).toNat=p.length-1 by omega]
 exact⟨fun hi=>wm hn (by omega) hi,fun hi=>wn hn (by omega) hi⟩
theorem S0{l:List G}(h:1<=l.length):((List.drop (0:Int).toNat (List.take ((l.length:Int)-1).toNat l)).length:Int)=(l.length:Int)-1:=by rw[Q9 h,List.length_dropLast];omega
theorem U7{l:List G}(h:RowsOk l):RowsOk (List.drop (0:Int).toNat (List.take ((l.length:Int)-1).toNat l))/\(1<=l.length->HOk (hX (aa (aq l ((l.length:Int)-1).toNat) 0))):=⟨(h.take _).drop _,fun h1=>h.at (by omega) (by omega)⟩
end
theorem LQ(k:Nat)(z:Sy)(hA:(CN (k+1)).pre z):Fm.den (let v0:=(↑(z.g 1).length:Int);let v1:=(List.take v0.toNat (z.g 1));let v2:=(Int.toNat (0:Int));(.two (v0=0) (.ct (0<=1000000) (fun y0=>True) fun y0=>(.ax (hG (h_ [])=aU (z.g 1)))) (.two (v0=1) (.an ((0:Int)<=0/\0<v0) (.ax (hX (aa (aq (z.g 1) v2) 0)=aU (z.g 1)))) (.ct (2<=v0/\v0<=1099511627776) (fun y1=>y1.i 10= ↑(bI v0.toNat)) fun y1=>(let v3:=(List.drop v2 (List.take (y1.i 10).toNat (z.g 1)));let v4:=(List.drop (y1.i 10).toNat v1);(.an ((0:Int)<=0/\(0:Int)<=y1.i 10/\y1.i 10<= ↑(z.g 1).length) (.ct (v3.length<k/\v3.length<=1000000/\RowsOk v3) (fun y2=>hT y2 300=aU v3) fun y2=>(.an ((0:Int)<=y1.i 10/\y1.i 10<= ↑(z.g 1).length/\v0<=v0) (.ct (v4.length<k/\v4.length<=1000000/\RowsOk v4) (fun y3=>hT y3 300=aU v4) fun y3=>(.ct (HOk (hT y2 300)/\HOk (hT y3 300)) (fun y4=>hT y4 300=bb (hT y2 300) (hT y3 300)) fun y4=>(.ax (hT y4 300=aU (z.g 1))))))))))))):=by
 dsimp only [CN,hs] at hA
 have a1:=@LP (z.g 1)
 have a2:=@cut_len (z.g 1)
 have a3:=@wt (z.g 1)
 have a4:=@lH (((z.g 1).length:Nat):Int)
 have a5:=@kw (z.g 1)
 have a6:=@oe (z.g 1)
 have a7:=eH []
 have a8:=lz []
 have a9:=fun k h=>@cA _ (@wt (z.g 1) k h).1
 have a10:=fun k h=>@cA _ (@wt (z.g 1) k h).2
 conv=>zeta
 repeat' with_reducible first|intro _|apply aV|apply aZ|apply aT|apply bf|apply ba
 all_goals first|omega|grind [am,ai,ah,az,aA,aB,aC,aD,aE,aF,aG,aH,ao]
theorem mT:∀k,Ok Tryz.prog 33 (CN k)
 |0=>NM fun z h=>Nat.not_lt_zero _ h.1
 |k+1=>bS 1000 mN (eK tL (eK ws (eK (mT k) (eK ko eN)))) lN (hn:=(hC 5 17)) (LQ k)
theorem Ps(k:Nat)(z:Sy)(hA:(LL (k+1)).pre z):Fm.den (let v1:=(↑(z.g 1).length:Int);let v0:=(List.take v1.toNat (z.g 1));let v2:=(Int.toNat (0:Int));(.two (v1<2) (.an (0=0/\True) (.at ([]=a_ (z.i 3) (z.g 1)/\0<=(z.g 1).length))) (.ct (2<=v1/\v1<=1099511627776) (fun y0=>y0.i 10= ↑(bI v1.toNat)) fun y0=>(let v3:=(List.drop v2 (List.take (y0.i 10).toNat (z.g 1)));let v4:=(List.drop (y0.i 10).toNat v0);let v5:=((0:Int)<=0/\(0:Int)<=y0.i 10/\y0.i 10<= ↑(z.g 1).length);let v6:=((0:Int)<=y0.i 10/\y0.i 10<= ↑(z.g 1).length/\v1<=v1);(.two (z.i 3<y0.i 10) (.an v5 (.ct (v3.length<k/\v3.length<=1000000/\RowsOk v3/\(0:Int)<=z.i 3/\z.i 3<=1000000) (fun y1=>y1.g 30=a_ (z.i 3) v3/\(y1.g 30).length<=v3.length) fun y1=>(.an v6 (.ct (v4.length<1000001/\v4.length<=1000000/\RowsOk v4) (fun y2=>hT y2 300=aU v4) fun y2=>(let v7:=(y1.g 30++ [G.node [hT y2 300]]);(.an ((y1.g 30).length=(y1.g 30).length/\(y1.g 30).length<=1000000000/\True) (.an (v7.length=(y1.g 30).length+1/\True) (.at (y1.g 30++ [G.node [hT y2 300]]=a_ (z.i 3) (z.g 1)/\v7.length<=(z.g 1).length))))))))) (.an ((-9223372036854775808:Int)<=z.i 3-y0.i 10/\z.i 3-y0.i 10<=9223372036854775807) (.an v6 (.ct (v4.length<k/\v4.length<=1000000/\RowsOk v4/\(0:Int)<=z.i 3-y0.i 10/\z.i 3-y0.i 10<=1000000) (fun y3=>y3.g 30=a_ (z.i 3-y0.i 10) v4/\(y3.g 30).length<=v4.length) fun y3=>(.an v5 (.ct (v3.length<1000001/\v3.length<=1000000/\RowsOk v3) (fun y4=>hT y4 300=aU v3) fun y4=>(let v8:=(y3.g 30++ [G.node [hT y4 300]]);(.an ((y3.g 30).length=(y3.g 30).length/\(y3.g 30).length<=1000000000/\True) (.an (v8.length=(y3.g 30).length+1/\True) (.at (y3.g 30++ [G.node [hT y4 300]]=a_ (z.i 3) (z.g 1)/\v8.length<=(z.g 1).length))))))))))))))):=by
 dsimp only [LL] at hA
 have a1:=@LP (z.g 1)
 have a2:=@cut_len (z.g 1)
 have a3:=@wt (z.g 1)
 have a4:=@lH (((z.g 1).length:Nat):Int)
 have a5:=@SZ (z.i 3) (z.g 1)
 have a6:=@fA (z.i 3) (z.g 1)
 conv=>zeta
 repeat' with_reducible first|intro _|apply aV|apply aZ|apply aT|apply bf|apply ba
 all_goals first|omega|grind [am,ai,ah,az,aA,aB,aC,aD,aE,aF,aG,aH,ao]
theorem E9:∀k,Ok Tryz.prog 29 (LL k)
 |0=>NM fun z h=>Nat.not_lt_zero _ h.1
 |k+1=>bS 1000 mN (eK ws (eK (E9 k) (eK (mT 1000001) eN))) lN (hn:=(hC 6 529)) (Ps k)
theorem U8(k:Nat)(z:Sy)(hA:(WH (k+1)).pre z):Fm.den (let vxn:=Int.toNat 0;let v0:=(↑(z.g 1).length:Int);let v1:=(List.drop (vxn) (List.take (v0-1).toNat (z.g 1)));let v3:=((-9223372036854775808)<=v0-1/\v0-1<=9223372036854775807);let v4:=(hX (aa (aq (z.g 1) (v0-1).toNat) 0));let v5:=((0:Int)<=0/\0<=v0-1/\v0-1<=v0);let v6:=(hT z 100);let v2:=(ga v6 (z.i 3) (z.i 4) (z.g 1));let v7:=(-9223372036854775808:Int);(.two (z.i 4=1) (.ax (HOk v6/\hT z 100=v2.fst/\(v0=0↔v2.snd))) (.two (v0=0) (.ax (HOk hZ/\hZ=v2.fst/\(false=true↔v2.snd))) (.an v3 (.an (0<=v0-1/\v0-1<v0) (.ct ((2:Int)<=z.i 4/\z.i 4<=1099511627776) (fun y0=>y0.i 10= ↑(bI (z.i 4).toNat)) fun y0=>(let v8:=(ga v6 (z.i 3-y0.i 10) (z.i 4-y0.i 10) v1);let v9:=(ga v6 (z.i 3) (y0.i 10) v1);(.two (z.i 3<y0.i 10) (.an v3 (.an v5 (.ct (HOk v6/\((0:Int)<=z.i 3/\z.i 3<y0.i 10)/\y0.i 10 < ↑k/\y0.i 10<=1099511627776/\v1.length<=1000000/\RowsOk v1) (fun y1=>HOk (hT y1 300)/\hT y1 300=v9.fst/\(y1.p 50↔v9.snd)) fun y1=>(.ct (HOk (hT y1 300)/\HOk v4) (fun y2=>hT y2 300=bb (hT y1 300) v4) fun y2=>(.ax (HOk (hT y2 300)/\hT y2 300=v2.fst/\(y1.p 50↔v2.snd))))))) (.an (v7<=z.i 3-y0.i 10/\z.i 3-y0.i 10<=9223372036854775807) (.an (v7<=z.i 4-y0.i 10/\z.i 4-y0.i 10<=9223372036854775807) (.an v3 (.an v5 (.ct (HOk v6/\((0:Int)<=z.i 3-y0.i 10/\z.i 3-y0.i 10<z.i 4-y0.i 10)/\z.i 4-y0.i 10 < ↑k/\z.i 4-y0.i 10<=1099511627776/\v1.length<=1000000/\RowsOk v1) (fun y3=>HOk (hT y3 300)/\hT y3 300=v8.fst/\(y3.p 50↔v8.snd)) fun y3=>(.ct (HOk v4/\HOk (hT y3 300)) (fun y4=>hT y4 300=bb v4 (hT y3 300)) fun y4=>(.ax (HOk (hT y4 300)/\hT y4 300=v2.fst/\(y3.p 50↔v2.snd))))))))))))))))):=by
 dsimp only [WH,hs] at hA
 have a1:=@WJ (hT z 100) (z.i 3) (z.i 4) (z.g 1)
 have a2:=@kx (hT z 100) (z.i 3) (z.i 4) (z.g 1)
 have a3:=@wl (hT z 100) (z.i 3) (z.i 4) (z.g 1)
 have a4:=@lH (z.i 4)
 have a5:=@S0 (z.g 1)
 have a6:=@U7 (z.g 1)
 have a7:=fT
 conv=>zeta
 repeat' with_reducible first|intro _|apply aV|apply aZ|apply aT|apply bf|apply ba
 all_goals first|omega|grind [am,ai,ah,az,aA,aB,aC,aD,aE,aF,aG,aH,ao,bR]
theorem LT:∀k,Ok Tryz.prog 75 (WH k)
 |0=>NM fun z h=>by have a:0<=z.i 3/\z.i 3<z.i 4:=h.2.1;have b:z.i 4<((0:Nat):Int):=h.2.2.1;omega
 |k+1=>bS 1000 mN (eK ws (eK (LT k) (eK ko eN))) lN (hn:=(hC 12 2762257)) (U8 k)
noncomputable section
theorem LU{es:List G}{i:Nat}(hi:i<es.length):(gc es 0)[i]? =some (.node [aJ (vW (aq es i))]):=by
 unfold gc aq Xg
 show((es.drop 0).map _)[i]? =_
 rw[aaL,aaE,aag,aah hi]
 rfl
theorem iS(es:List G):RowsOk (gc es 0):=fun r hr=>by
 unfold gc at hr
 obtain⟨e, -,rfl⟩:=List.mem_map.1 hr
 show HOk (hX (aJ _))
 rw[cZ (ce _)];exact ce _
def A2(es:List G)(i:Int)(rows:List G):Prop:=i_ i rows ((gc es 0).take i.toNat)
theorem wu(es:List G):A2 es 0 []:=by
 unfold A2
 rw[show(0:Int).toNat=0 by rfl,abu]
 exact SK
theorem LV{es:List G}{i n':Int}{rows p5:List G}{h:G}(h0:0<=i)(hi:i<es.length)(hl:A2 es i rows)(hh:h=aJ (vW (aq es i.toNat)))(hn:n'=i+1)(ht:wq i rows h n' p5):A2 es n' p5:=by
 subst hn
 have e:(gc es 0).take (i+1).toNat=(gc es 0).take i.toNat++ [.node [h]]:=by
  rw[show(i+1).toNat=i.toNat+1 by omega,List.take_add_one,LU (by omega),hh];rfl
 unfold A2
 rw[e]
 exact Pn ht _ hl
theorem wv{es:List G}{i:Int}{rows:List G}(hl:A2 es i rows):jS i rows:=SU hl ((iS es).take _)
theorem Aw{es:List G}{n:Int}{rows:List G}{h:G}(hl:A2 es n rows)(hn:n=es.length)(ht:gG n rows 0 n h):h=aU (gc es 0):=by
 have e:=SV ht _ hl
 subst hn
 rw[e]
 congr 1
 have a:=gw es
 show List.take (es.length:Int).toNat (List.drop 0 _)=_
 rw[aaL,aaq, ←a,aaZ,aaZ]
theorem Ax(es:List G):(((gc es 0).length:Nat):Int)=es.length:=by rw[gw]
def wy(ix tm tn:Int)(pv:G)(es:List G):G:=bb (bT (iQ ix tm tn pv)) (cy (aU (gc es 0)) (aI es.length))
theorem og(ix tm tn:Int)(pv:G)(es:List G):HOk (wy ix tm tn pv es):=bR _ _
theorem CP(ix tm tn:Int)(pv:G)(es:List G):wy ix tm tn pv es=bb (bT (iQ ix tm tn pv)) (cy (aU (gc es 0)) (aI es.length)):=rfl
def S1:FSpec:={args:=[],blk:=[],pre:=fun _=>True,res:=fun _=>.one (.c (.p 0)),out:=fun _=>LI,post:=fun z y=>y.i 1=0/\y.g 2= []}
def fW:FSpec:={args:=[.ag (hs 100),.c (.i .i64 1)],blk:=[],pre:=fun z=>HOk (hT z 100)/\0<=z.i 1/\z.i 1<=1000000,res:=fun _=>.one (.ag (hs 300)),out:=fun _=>[],post:=fun z y=>hT y 300=cy (hT z 100) (aI (z.i 1).toNat)}
abbrev LW:=qT
abbrev rB:=fW
def WK(p:Sy):List BSh:=[.cells 41 (tW p),.cells 161 [.i .i64 1,.m 2],.sm 0 2,.cells 38 (hs 300)]
def rC(p:Sy):LSpec:={tmps:=[(1,.c (.p 0)),(2,.c (.p 3)),(5,.c (.p 1)),(20,.c (.pv 7 (p.g 24))),(21,.c (.pi .i64 (p.g 24).length)),(22,.c (.i .i64 9))],blk:=WK p,inv:=fun z=>lE (p.g 24)/\(0<=z.i 9/\z.i 9<=(p.g 24).length)/\z.i 1=z.i 9/\A2 (p.g 24) (z.i 1) (z.g 2),mu:=fun z=>((p.g 24).length-z.i 9).toNat,alts:=[⟨.exit 0,[(1,.c (.p 0)),(2,.c (.p 3)),(5,.c (.p 1))],WK p⟩],post:=fun z y=>y.i 1=(p.g 24).length/\A2 (p.g 24) (y.i 1) (y.g 2)}
def CQ:FSpec:={args:=[.ag bk],blk:=[],pre:=O6,res:=fun _=>.tu [.ag (hs 300),.c (.i .i64 50)],out:=fun _=>[],post:=fun z y=>y.i 50=H_ z/\(H_ z=0->hT y 300=wy (z.i 21) (z.i 22) (z.i 23) (hT z 200) (z.g 24))/\(¬H_ z=0->hT y 300=hZ),gl:=lI}
def wz:FSpec:={args:=[.ag bk],blk:=[],pre:=O6,res:=fun _=>.tu [.ag (hs 300),.c (.i .i64 50)],out:=fun _=>[],post:=fun z y=>y.i 50=H_ z/\(H_ z=0->hT y 300=wy (z.i 21) (z.i 22) (z.i 23) (hT z 200) (z.g 24))/\(¬H_ z=0->hT y 300=hZ)}
attribute [irreducible] A2 wy
end
theorem CR(z:Sy)(hA:rB.pre z):Fm.den ((.ct ((0:Int)<=z.i 1%18446744073709551616/\z.i 1%18446744073709551616<18446744073709551616) (fun y0=>y0.s 10=aI (z.i 1%(18446744073709551616:Int)).toNat) fun y0=>(.ct (HOk (hT z 100)/\(y0.s 10).length<=900000) (fun y1=>hT y1 300=cy (hT z 100) (y0.s 10)) fun y1=>(.ax (hT y1 300=cy (hT z 100) (aI (z.i 1).toNat)))))):=by
 dsimp only [rB,fW,hs] at hA
 have m1:0<=z.i 1->z.i 1<=1000000->(z.i 1%18446744073709551616).toNat=(z.i 1).toNat:=fun a b=>by omega
 have e2:=@bM (z.i 1%18446744073709551616) (by omega)
 repeat' with_reducible first|intro _|apply aV|apply aZ|apply aT|apply bf|apply ba
 all_goals first|omega|grind [am,ai,ah,az,aA,aB,aC,aD,aE,aF,aG,aH,ao]
theorem t_:Ok Tryz.prog 76 rB:=bS 1000 mN (eK cR (eK KR eN)) lN (hn:=.nil) CR
theorem Hi(z:Sy)(hA:wz.pre z):Fm.den (let v0:=(hT z 200);let v1:=(↑(z.g 24).length:Int);(.ct (fo (z.g 24)/\HOk v0/\(z.g 24).length<=1000000/\z.i 21<9223372036854775808/\z.i 22<9223372036854775808/\z.i 23<9223372036854775808) (fun y0=>y0.i 50=cm (z.i 21) (z.i 22) (z.i 23) v0 (z.g 24)) fun y0=>(.two (y0.i 50≠0) (.ax (y0.i 50=cm (z.i 21) (z.i 22) (z.i 23) v0 (z.g 24)/\(cm (z.i 21) (z.i 22) (z.i 23) v0 (z.g 24)=(0:Int)->hZ=wy (z.i 21) (z.i 22) (z.i 23) v0 (z.g 24))/\(¬cm (z.i 21) (z.i 22) (z.i 23) v0 (z.g 24)=(0:Int)->hZ=hZ))) (.ct (HOk v0/\z.i 21<9223372036854775808/\z.i 22<9223372036854775808/\z.i 23<9223372036854775808) (fun y1=>hT y1 300=bT (iQ (z.i 21) (z.i 22) (z.i 23) v0)) fun y1=>(.ct (ck (z.g 24) (0:Int)=0/\fo (z.g 24)/\(z.g 24).length<=200) (fun y2=>y2.g 30=gc (z.g 24) (0:Int)) fun y2=>(.ct ((y2.g 30).length<1000001/\(y2.g 30).length<=1000000/\RowsOk (y2.g 30)) (fun y3=>hT y3 300=aU (y2.g 30)) fun y3=>(.ct (HOk (hT y3 300)/\0<=v1/\v1<=1000000) (fun y4=>hT y4 300=cy (hT y3 300) (aI v1.toNat)) fun y4=>(.ct (HOk (hT y1 300)/\HOk (hT y4 300)) (fun y5=>hT y5 300=bb (hT y1 300) (hT y4 300)) fun y5=>(.ax ((0:Int)=cm (z.i 21) (z.i 22) (z.i 23) v0 (z.g 24)/\(cm (z.i 21) (z.i 22) (z.i 23) v0 (z.g 24)=(0:Int)->hT y5 300=wy (z.i 21) (z.i 22) (z.i 23) v0 (z.g 24))/\(¬cm (z.i 21) (z.i 22) (z.i 23) v0 (z.g 24)=(0:Int)->hT y5 300=hZ))))))))))):=by
 dsimp only [wz,bk,hs,O6,H_] at hA
 have f1:=@kq (z.i 21) (z.i 22) (z.i 23) (hT z 200) (z.g 24)
 have f2:=@kr (z.i 21) (z.i 22) (z.i 23) (hT z 200) (z.g 24)
 have f3:=@ic (z.i 21) (z.i 22) (z.i 23) (hT z 200) (z.g 24)
 have f4:=@nX (z.i 21) (z.i 22) (z.i 23) (hT z 200) (z.g 24)
 have f5:=@ku (z.i 21) (z.i 22) (z.i 23) (hT z 200) (z.g 24)
 have v3:=wu (z.g 24)
 have v4:=@wv (z.g 24)
 have v5:=@Aw (z.g 24)
 have v6:=CP (z.i 21) (z.i 22) (z.i 23) (hT z 200) (z.g 24)
 have v7:=cA _ (iS (z.g 24))
 have v8:=fT
 have v9:=iS (z.g 24)
 have v10:=Ax (z.g 24)
 conv=>zeta
 repeat' with_reducible first|intro _|apply aV|apply aZ|apply aT|apply bf|apply ba
 all_goals first|omega|grind [am,ai,ah,az,aA,aB,aC,aD,aE,aF,aG,aH,ao,eI,ia,Cr]
theorem LX:Ok Tryz.prog 56 wz:=bS 1000 mN (eK od (eK Aq (eK rx (eK (mT 1000001) (eK t_ (eK ko eN)))))) lN (hn:=(.both .nil .nil)) Hi
theorem S2(z:Sy)(hA:S1.pre z):Fm.den ((.ax ((0:Int)=0/\Sq))):=by
 dsimp only [S1,LI] at hA
 repeat' with_reducible first|intro _|apply aV|apply aZ|apply aT|apply bf|apply ba
 all_goals first|omega|grind [am,ai,ah,az,aA,aB,aC,aD,aE,aF,aG,aH,ao]
theorem Q_:Ok Tryz.prog 41 S1:=bS 1000 mN eN lN (hn:=.nil) S2
theorem CS(p z:Sy)(hA:(rC p).inv z):Fm.den (let v0:=(aq (p.g 24) (z.i 9).toNat);let v1:=(↑(p.g 24).length:Int);let v2:=(hX (aa v0 11));let v3:=(gI (aa v0 13));let v4:=(gI (aa v0 14));let v5:=(gS (aa v0 1));let v6:=(gI (aa v0 2));let v7:=(gI (aa v0 3));let v8:=(gI (aa v0 4));let v9:=(gL (aa v0 10));let v10:=(gI (aa v0 6));let v11:=(gS (aa v0 8));let f8:=(gL (aa v0 9));let g9:=(gI (aa v0 0));(.two (z.i 9 < ↑(p.g 24).length) (.an ((0:Int)<=z.i 9/\z.i 9 < ↑(p.g 24).length) (.ct (lR v5 v6 v7 v8 v10 v11 f8 v9 v2 v3 v4) (fun y0=>y0.i 50=cJ g9 v5 v6 v7 v8 (gI (aa v0 5)) v10 (gI (aa v0 7)) v11 f8 v9 v2 (gI (aa v0 12)=1) v3 v4/\(cJ g9 v5 v6 v7 v8 (gI (aa v0 5)) v10 (gI (aa v0 7)) v11 f8 v9 v2 (gI (aa v0 12)=(1:Int)) v3 v4=0->hT y0 300=aJ (cS g9 v5 v6 v7 v8 v2 v3 v4))/\(¬cJ g9 v5 v6 v7 v8 (gI (aa v0 5)) v10 (gI (aa v0 7)) v11 f8 v9 v2 (gI (aa v0 12)=(1:Int)) v3 v4=0->hT y0 300=hZ)) fun y0=>(.ct (HOk (hT y0 300)/\((0:Int)<=z.i 1/\z.i 1<1000000)/\jS (z.i 1) (z.g 2)) (fun y1=>y1.i 1=z.i 1+1/\wq (z.i 1) (z.g 2) (hT y0 300) (y1.i 1) (y1.g 2)) fun y1=>(.an ((-9223372036854775808:Int)<=z.i 9+1/\z.i 9+1<=9223372036854775807) (.an (p.g 24=p.g 24/\dt (jL p 200) (jL p 200) (p.i 23=p.i 23/\p.i 22=p.i 22/\p.i 21=p.i 21/\v1=v1/\p.g 24=p.g 24/\True)) (.at (((ck (p.g 24) (0:Int)=0/\fo (p.g 24)/\(p.g 24).length<=200)/\((0:Int)<=z.i 9+1/\z.i 9+1<= ↑(p.g 24).length)/\y1.i 1=z.i 9+1/\A2 (p.g 24) (y1.i 1) (y1.g 2))/\(v1-(z.i 9+1)).toNat<(v1-z.i 9).toNat/\∀(y:Sy),y.i 1= ↑(p.g 24).length/\A2 (p.g 24) (y.i 1) (y.g 2)->y.i 1= ↑(p.g 24).length/\A2 (p.g 24) (y.i 1) (y.g 2)))))))) (.an (p.g 24=p.g 24/\dt (jL p 200) (jL p 200) (p.i 23=p.i 23/\p.i 22=p.i 22/\p.i 21=p.i 21/\True)) (.at (z.i 1= ↑(p.g 24).length/\A2 (p.g 24) (z.i 1) (z.g 2)))))):=by
 dsimp only [rC,WK,tW,Ae,hs,lE] at hA
 have a6:=@iP (p.g 24) (z.i 9)
 have a7:=@fq (p.g 24) (z.i 9)
 dsimp only [Cq,nV] at a6 a7
 have v1:=fun n r h a b c d e f=>@LV (p.g 24) (z.i 9) n (z.g 2) r h a b c d e f
 have v2:=@wv (p.g 24) (z.i 1) (z.g 2)
 dsimp only [vW] at v1
 conv=>zeta
 repeat' with_reducible first|intro _|apply aV|apply aZ|apply aT|apply bf|apply ba
 all_goals first|omega|grind [am,ai,ah,az,aA,aB,aC,aD,aE,aF,aG,aH,ao,ce]
theorem Hj:dU Tryz.prog 134 0 rC:=bH 1000 mN (eK oP (eK Q8 eN)) lN (hn:=(.both (.yes .nil) .nil)) CS
theorem wA(z:Sy)(hA:fW.pre z):Fm.den ((.ct ((0:Int)<=Max.max 0 (z.i 1)%18446744073709551616/\Max.max (0:Int) (z.i 1)%18446744073709551616<18446744073709551616) (fun y0=>y0.s 10=aI (Max.max (0:Int) (z.i 1)%18446744073709551616).toNat) fun y0=>(.ct (HOk (hT z 100)/\(y0.s 10).length<=900000) (fun y1=>hT y1 300=cy (hT z 100) (y0.s 10)) fun y1=>(.ax (hT y1 300=cy (hT z 100) (aI (z.i 1).toNat)))))):=by
 dsimp only [fW,hs] at hA
 have m1:0<=z.i 1->z.i 1<=1000000->(max 0 (z.i 1)%18446744073709551616).toNat=(z.i 1).toNat:=fun a b=>by omega
 have e2:=@bM (max 0 (z.i 1)%18446744073709551616) (by omega)
 repeat' with_reducible first|intro _|apply aV|apply aZ|apply aT|apply bf|apply ba
 all_goals first|omega|grind [am,ai,ah,az,aA,aB,aC,aD,aE,aF,aG,aH,ao]
theorem Ay:Ok Tryz.prog 195 fW:=bS 1000 mN (eK hI (eK KU eN)) lN (hn:=.nil) wA
theorem Pt(z:Sy)(hA:LW.pre z):Fm.den ((.ct (HOk (hT z 100)/\HOk (hT z 200)) (fun y0=>hT y0 300=bb (hT z 100) (hT z 200)) fun y0=>(.ax (hT y0 300=bb (hT z 100) (hT z 200))))):=by
 dsimp only [LW,qT,hs] at hA
 repeat' with_reducible first|intro _|apply aV|apply aZ|apply aT|apply bf|apply ba
 all_goals first|omega|grind [am,ai,ah,az,aA,aB,aC,aD,aE,aF,aG,aH,ao]
theorem S3:Ok Tryz.prog 193 LW:=bS 1000 mN (eK vI eN) lN (hn:=.nil) Pt
theorem LY(z:Sy)(hA:CQ.pre z):Fm.den (let v0:=(↑(z.g 24).length:Int);let v1:=(hT z 200);(.ct (fo (z.g 24)/\HOk v1/\(z.g 24).length<=1000000/\z.i 21<9223372036854775808/\z.i 22<9223372036854775808/\z.i 23<9223372036854775808) (fun y0=>y0.i 50=cm (z.i 21) (z.i 22) (z.i 23) v1 (z.g 24)) fun y0=>(.two (y0.i 50≠0) (.ax (y0.i 50=cm (z.i 21) (z.i 22) (z.i 23) v1 (z.g 24)/\(cm (z.i 21) (z.i 22) (z.i 23) v1 (z.g 24)=(0:Int)->hZ=wy (z.i 21) (z.i 22) (z.i 23) v1 (z.g 24))/\(¬cm (z.i 21) (z.i 22) (z.i 23) v1 (z.g 24)=(0:Int)->hZ=hZ))) (.ct (True) (fun y1=>y1.i 1=0/\y1.g 2= []) fun y1=>(.cl ((z.g 24=z.g 24/\dt (jL z 200) (jL z 200) (z.i 23=z.i 23/\z.i 22=z.i 22/\z.i 21=z.i 21/\v0=v0/\z.g 24=z.g 24/\True))) ((ck (z.g 24) (0:Int)=0/\fo (z.g 24)/\(z.g 24).length<=200)/\((0:Int)<=0/\0<=v0)/\y1.i 1=0/\A2 (z.g 24) (y1.i 1) (y1.g 2)) (fun y2=>y2.i 1= ↑(z.g 24).length/\A2 (z.g 24) (y2.i 1) (y2.g 2)) fun y2=>(.ct (((0:Int)<=y2.i 1/\y2.i 1<=1000000)/\jS (y2.i 1) (y2.g 2)) (fun y3=>y3.i 1=y2.i 1/\y3.g 2=y2.g 2/\(v0<0∨y2.i 1 < ↑(z.g 24).length->y3.i 50=1/\hT y3 300=hZ)/\(0<=v0/\v0<=y2.i 1->y3.i 50=0/\gG (y2.i 1) (y2.g 2) 0 v0 (hT y3 300))) fun y3=>(.ct (HOk v1/\z.i 21<9223372036854775808/\z.i 22<9223372036854775808/\z.i 23<9223372036854775808) (fun y4=>hT y4 300=bT (iQ (z.i 21) (z.i 22) (z.i 23) v1)) fun y4=>(.ct (HOk (hT y3 300)/\0<=v0/\v0<=1000000) (fun y5=>hT y5 300=cy (hT y3 300) (aI v0.toNat)) fun y5=>(.ct (HOk (hT y4 300)/\HOk (hT y5 300)) (fun y6=>hT y6 300=bb (hT y4 300) (hT y5 300)) fun y6=>(.ax ((0:Int)=cm (z.i 21) (z.i 22) (z.i 23) v1 (z.g 24)/\(cm (z.i 21) (z.i 22) (z.i 23) v1 (z.g 24)=(0:Int)->hT y6 300=wy (z.i 21) (z.i 22) (z.i 23) v1 (z.g 24))/\(¬cm (z.i 21) (z.i 22) (z.i 23) v1 (z.g 24)=(0:Int)->hT y6 300=hZ)))))))))))):=by
 dsimp only [CQ,bk,hs,O6,H_,lI] at hA
 have f1:=@kq (z.i 21) (z.i 22) (z.i 23) (hT z 200) (z.g 24)
 have f2:=@kr (z.i 21) (z.i 22) (z.i 23) (hT z 200) (z.g 24)
 have f3:=@ic (z.i 21) (z.i 22) (z.i 23) (hT z 200) (z.g 24)
 have f4:=@nX (z.i 21) (z.i 22) (z.i 23) (hT z 200) (z.g 24)
 have f5:=@ku (z.i 21) (z.i 22) (z.i 23) (hT z 200) (z.g 24)
 have v3:=wu (z.g 24)
 have v4:=@wv (z.g 24)
 have v5:=@Aw (z.g 24)
 have v6:=CP (z.i 21) (z.i 22) (z.i 23) (hT z 200) (z.g 24)
 have v7:=cA _ (iS (z.g 24))
 have v8:=fT
 have v9:=iS (z.g 24)
 have v10:=Ax (z.g 24)
 conv=>zeta
 repeat' with_reducible first|intro _|apply aV|apply aZ|apply aT|apply bf|apply ba
 all_goals first|omega|grind [am,ai,ah,az,aA,aB,aC,aD,aE,aF,aG,aH,ao,eI,ia,Cr]
theorem Pu:Ok Tryz.prog 134 CQ:=bS 1000 mN (eK Al (eK Q_ (eK SY (eK O_ (eK Ay (eK S3 eN)))))) (eL (ptm:=[(0,.ag bk)]) Hj lN) (hn:=(.both .nil .nil)) LY
noncomputable section
def cT:List Nat:=[0,498536548,997073096,651767980,1994146192,1802195444,1303535960,1342533948,3988292384,4027552580,3604390888,3412177804,2607071920,2262029012,2685067896,3183342108]
def fN(c:Nat):Nat:=if c%2=1 then(c/2) ^^^ 3988292384 else c/2
def fI:Nat->Nat->Nat
 |0,c=>c
 |n+1,c=>fI n (fN c)
theorem wB(q:Nat):fN (2 * q)=q:=by unfold fN;rw[if_neg (by omega)];omega
theorem S4(a b:Nat):fN (a ^^^ b)=fN a ^^^ fN b:=by
 have hd:(a ^^^ b)/2=(a/2) ^^^ (b/2):=Nat.xor_div_two
 have hm:(a ^^^ b)%2=(a+b)%2:=by
  have:=Nat.xor_mod_two_pow (a:=a) (b:=b) (n:=1)
  rw[Nat.pow_one] at this
  rw[this]
  rcases abt a with ha|ha <;> rcases abt b with hb|hb <;> rw[ha,hb] <;> simp <;> omega
 unfold fN
 rw[hd,hm]
 generalize a/2=x
 generalize b/2=y
 generalize 3988292384=p
 rcases abt a with ha|ha <;> rcases abt b with hb|hb
 ·rw[if_neg (by omega),if_neg (by omega),if_neg (by omega)]
 ·rw[if_pos (by omega),if_neg (by omega),if_pos (by omega),Nat.xor_assoc]
 ·rw[if_pos (by omega),if_pos (by omega),if_neg (by omega),Nat.xor_assoc,Nat.xor_assoc,Nat.xor_comm y p]
 ·rw[if_neg (by omega),if_pos (by omega),if_pos (by omega)]
  rw[show(x ^^^ p) ^^^ (y ^^^ p)=(x ^^^ y) ^^^ (p ^^^ p) by ac_rfl,Nat.xor_self,Nat.xor_zero]
theorem S5(n a b:Nat):fI n (a ^^^ b)=fI n a ^^^ fI n b:=by
 induction n generalizing a b with
 |zero=>rfl
 |succ n ih=>show fI n (fN _)=fI n (fN _) ^^^ fI n (fN _);rw[S4,ih]
theorem Pv(c:Nat):c=(16 * (c/16)) ^^^ (c%16):=by
 refine Nat.eq_of_testBit_eq fun i=>?_
 rw[Nat.testBit_xor,show(16:Nat)=2 ^ 4 by rfl,Nat.testBit_two_pow_mul,Nat.testBit_div_two_pow,Nat.testBit_mod_two_pow]
 by_cases h:4<=i
 ·rw[show i-4+4=i by omega];simp [h,show ¬i<4 by omega]
 ·simp [h,show i<4 by omega]
theorem Xw(c:Nat):fI 4 c=(c/16) ^^^ cT.getD (c%16) 0:=by
 have h1:∀q,fI 4 (16 * q)=q:=fun q=>by
  show fN (fN (fN (fN (16 * q))))=q
  rw[show 16 * q=2 * (2 * (2 * (2 * q))) by omega,wB,wB,wB,wB]
 have h2:∀r:Fin 16,fI 4 r.1=cT.getD r.1 0:=by decide
 conv=>lhs;rw[Pv c]
 rw[S5,h1,h2 ⟨c%16,by omega⟩]
def CG:List G:=[.node [.int 0],.node [.int 498536548],.node [.int 997073096],.node [.int 651767980],.node [.int 1994146192],.node [.int 1802195444],.node [.int 1303535960],.node [.int 1342533948],.node [.int 3988292384],.node [.int 4027552580],.node [.int 3604390888],.node [.int 3412177804],.node [.int 2607071920],.node [.int 2262029012],.node [.int 2685067896],.node [.int 3183342108]]
theorem acw:CG.length=16:=rfl
def Ud(c:Int):Int:=dr (c/16) (vB CG (kC c 15))
def NJ(c:Int):Int:=if kC c 1=1 then dr (c/2) 3988292384 else c/2
def NK:Nat->Int->Int
 |0,c=>c
 |n+1,c=>NK n (NJ c)
def U9(c b:Int):Int:=Ud (Ud (dr c (b%4294967296)))
def WL(c:Int):List Nat->Int
 | []=>c
 |b::s=>WL (U9 c b) s
theorem E_(n:Nat)(h:n<4294967296):aL H9 (n:Int)=n:=by
 show((n:Int)%(4294967296:Nat)).toNat=n
 omega
theorem LZ(n:Nat)(h:n<4294967296):IntKind.u32.wrap (.ofNat n)=(n:Int):=by
 show((n:Nat):Int)%4294967296=_
 omega
theorem Az(a b:Nat)(ha:a<4294967296)(hb:b<4294967296):dr a b=((a ^^^ b:Nat):Int)/\a ^^^ b<4294967296:=by
 have h:a ^^^ b<2 ^ 32:=Nat.xor_lt_two_pow ha hb
 refine⟨?_,h⟩
 unfold dr
 rw[E_ a ha,E_ b hb]
 exact LZ _ h
theorem AA(a:Nat)(k:Nat)(ha:a<4294967296)(hk:k<=32):kC a ((2 ^ k-1:Nat):Int)=((a%2 ^ k:Nat):Int):=by
 unfold kC
 have hp:2 ^ k<=2 ^ 32:=abj (by decide) hk
 have h0:=aaF k
 rw[E_ a ha,E_ _ (by omega)]
 show IntKind.u32.wrap (.ofNat (a &&& (2 ^ k-1)))=_
 rw[abF]
 exact LZ _ (Nat.lt_of_le_of_lt (Nat.mod_le _ _) ha)
theorem Pw(a:Nat)(ha:a<4294967296):NJ a=(fN a:Nat)/\fN a<4294967296:=by
 have h1:kC a 1=((a%2:Nat):Int):=AA a 1 ha (by decide)
 unfold NJ fN
 rw[h1,show((a:Int)/2)=((a/2:Nat):Int) by omega]
 obtain⟨e1,e2⟩:=Az (a/2) 3988292384 (by omega) (by omega)
 by_cases h:a%2=1
 ·rw[if_pos (by omega),if_pos h];exact⟨e1,e2⟩
 ·rw[if_neg (by omega),if_neg h];exact⟨rfl,by omega⟩
theorem Fa(n a:Nat)(ha:a<4294967296):NK n a=(fI n a:Nat)/\fI n a<4294967296:=by
 induction n generalizing a with
 |zero=>exact⟨rfl,ha⟩
 |succ n ih=>
  obtain⟨e1,e2⟩:=Pw a ha
  show NK n (NJ a)=_/\_
  rw[e1];exact ih _ e2
theorem U_(r:Nat)(h:r<16):vB CG r=(cT.getD r 0:Nat):=by
 have:∀i:Fin 16,vB CG i.1=(cT.getD i.1 0:Nat):=by decide
 exact this ⟨r,h⟩
theorem Va(r:Nat)(h:r<16):cT.getD r 0<4294967296:=by
 have:∀i:Fin 16,cT.getD i.1 0<4294967296:=by decide
 exact this ⟨r,h⟩
theorem wC(a:Nat)(ha:a<4294967296):Ud a=(fI 4 a:Nat)/\fI 4 a<4294967296:=by
 have h1:kC a 15=((a%16:Nat):Int):=AA a 4 ha (by decide)
 refine⟨?_,(Fa 4 a ha).2⟩
 unfold Ud
 rw[h1,U_ _ (by omega),Xw,show((a:Int)/16)=((a/16:Nat):Int) by omega]
 exact(Az _ _ (by omega) (Va _ (by omega))).1
theorem L0(a b:Int):∃n:Nat,dr a b=n/\n<4294967296:=by
 have h:0<=dr a b/\dr a b<4294967296:=by
  unfold dr
  generalize Nat.xor _ _=n
  show 0<=((n:Nat):Int)%4294967296/\((n:Nat):Int)%4294967296<4294967296
  omega
 exact⟨(dr a b).toNat,by omega,by omega⟩
theorem abX(a:Int)(h0:0<=a)(h:a<4294967296):0<=kC a 15/\kC a 15<16:=by
 obtain⟨n,rfl⟩:∃n:Nat,a=n:=⟨a.toNat,by omega⟩
 have:=AA n 4 (by omega) (by decide)
 rw[show((2 ^ 4-1:Nat):Int)=15 by rfl] at this
 omega
theorem aci(a b:Int):0<=dr a b/\dr a b<4294967296:=by obtain⟨n,e,h⟩:=L0 a b;omega
theorem WM(c b:Int):NK 8 (dr c (b%4294967296))=U9 c b:=by
 unfold U9
 obtain⟨n,e,h⟩:=L0 c (b%4294967296)
 rw[e,(Fa 8 n h).1,(wC n h).1,(wC _ (wC n h).2).1];rfl
theorem L2(i c:Int)(h:i<8):NK (8-i).toNat c=NK (8-(i+1)).toNat (NJ c):=by rw[show(8-i).toNat=(8-(i+1)).toNat+1 by omega];rfl
theorem Px(i c:Int)(h:8<=i):NK (8-i).toNat c=c:=by rw[show(8-i).toNat=0 by omega];rfl
theorem S6(c:Int):(kC c 1=1->NJ c=dr (c/2) 3988292384)/\(¬kC c 1=1->NJ c=c/2):=⟨fun h=>by unfold NJ;rw[if_pos h],fun h=>by unfold NJ;rw[if_neg h]⟩
def Ib(i c:Int):Int:=NK (8-i).toNat c
theorem L3(i c:Int)(h:i<8):Ib i c=Ib (i+1) (NJ c):=L2 i c h
theorem Py(i c:Int)(h:8<=i):Ib i c=c:=Px i c h
theorem Vb(c:Int):Ib 0 c=NK 8 c:=rfl
theorem WN:¬IntKind.u32.signed=true:=fun h=>by cases h
def CT(s:List Nat)(i c:Int):Int:=WL c (s.drop i.toNat)
theorem L4(s:List Nat)(i c:Int)(h0:0<=i)(h:i<s.length):CT s i c=CT s (i+1) (Ud (Ud (dr c (lw s i%4294967296)))):=by
 unfold CT
 have hi:i.toNat<s.length:=by omega
 rw[aaU hi,show(i+1).toNat=i.toNat+1 by omega]
 show WL (U9 c _) _=_
 unfold U9 lw
 rw[aag,aah hi];rfl
theorem Pz(s:List Nat)(i c:Int)(h:(s.length:Int)<=i):CT s i c=c:=by
 unfold CT;rw[aaK (by omega)];rfl
theorem Hk(s:List Nat)(i c:Int)(h0:0<=i)(h:i<s.length):CT s i c=CT s (i+1) (NK 8 (dr c (lw s i%4294967296))):=by
 rw[L4 s i c h0 h,WM];rfl
def L5(s:List Nat):Int:=BW (CT s 0 4294967295)
theorem S7(s:List Nat):L5 s=BW (CT s 0 4294967295):=rfl
def acx:List BSh:=[.arr 9 300 2]
def Xi:List BSh:=[.growb 5 20]
def abU(p:Sy):LSpec:={tmps:=[(3,.c (.p 0)),(4,.c (.i .u32 5)),(8,.c (.vb 20)),(9,.c (.i .i64 7)),(10,.c (.i .i64 6))],blk:=acx,inv:=fun z=>z.g 2=CG/\z.i 7=(z.s 20).length/\0<=z.i 6/\(z.s 20).length<=1000000000,mu:=fun z=>(z.i 7-z.i 6).toNat,alts:=[⟨.exit 0,[(3,.c (.p 0)),(4,.c (.i .u32 5))],acx⟩],post:=fun z y=>y.i 5=CT (z.s 20) (z.i 6) (z.i 5)}
def Ra:FSpec:={args:=[.c (.vb 20)],blk:=[],pre:=fun z=>(z.s 20).length<=1000000000,res:=fun _=>.one (.c (.i .u32 10)),out:=fun _=>[],post:=fun z y=>y.i 10=L5 (z.s 20)/\0<=y.i 10/\y.i 10<4294967296}
def wD(p:Sy):LSpec:={tmps:=[(0,.c (.vb 20)),(3,.c (.i .u32 3)),(4,.c (.i .i64 4)),(5,.c (.i .i64 5))],blk:=[],inv:=fun z=>0<=z.i 5/\z.i 5<=8,mu:=fun z=>(8-z.i 5).toNat,alts:=[⟨.exit 2,[(0,.c (.vb 20)),(3,.c (.i .u32 3)),(4,.c (.i .i64 4))],[]⟩],post:=fun z y=>y.s 20=z.s 20/\y.i 4=z.i 4/\y.i 3=Ib (z.i 5) (z.i 3)}
def wE(p:Sy):LSpec:={tmps:=[(0,.c (.vb 20)),(3,.c (.i .u32 3)),(4,.c (.i .i64 4))],blk:=[],inv:=fun z=>(z.s 20).length<=1000000000/\0<=z.i 4/\z.i 4<=(z.s 20).length,mu:=fun z=>((z.s 20).length-z.i 4).toNat,alts:=[⟨.exit 0,[(0,.c (.vb 20)),(3,.c (.i .u32 3))],[]⟩],post:=fun z y=>y.s 20=z.s 20/\y.i 3=CT (z.s 20) (z.i 4) (z.i 3)}
abbrev L6:=Ra
def b4(c:Int):List Nat:=[(c/16777216%256).toNat,(c/65536%256).toNat,(c/256%256).toNat,(c%256).toNat]
def Fb:FSpec:={args:=[.c (.i .u32 1)],blk:=[],pre:=fun z=>0<=z.i 1,res:=fun _=>.one (.c (.gb 0 20)),out:=fun _=>Xi,post:=fun z y=>y.s 20=b4 (z.i 1)}
abbrev wF:=Fb
def Wc(n:Int):List Nat:=b4 n++b4 (L5 (b4 n))
def Ic(s:List Nat):List Nat:=Wc s.length++(s++b4 (L5 (Wc s.length++s)))
theorem PA(s:List Nat):0<=L5 s/\L5 s<4294967296:=by
 unfold L5 BW
 generalize Nat.xor _ _=n
 show 0<=((n:Nat):Int)%4294967296/\((n:Nat):Int)%4294967296<4294967296
 omega
theorem L7(n:Nat)(h:n<18446744073709551616):aL (aj .u64) (n:Int)=n:=by
 have e:aL (aj .u64) (n:Int)=((n:Int)%((18446744073709551616:Nat):Int)).toNat:=rfl
 rw[e];omega
theorem PB(n:Nat)(h:n<18446744073709551616):IntKind.u64.wrap (.ofNat n)=(n:Int):=by
 have e:IntKind.u64.wrap (.ofNat n)=((n:Nat):Int)%18446744073709551616:=rfl
 rw[e];omega
theorem PC(a b:Nat)(h:b<4294967296):Nat.lor (4294967296 * a) b=4294967296 * a+b:=by
 have:=Nat.two_pow_add_eq_or_of_lt (i:=32) (b:=b) h a
 rw[show(2:Nat) ^ 32=4294967296 by decide] at this
 exact this.symm
theorem WO{x c:Int}(h0:0<=x)(h:x<4294967296)(c0:0<=c)(hc:c<4294967296):IntKind.u64.wrap (.ofNat (Nat.lor (aL (aj .u64) (x%18446744073709551616 * 4294967296%18446744073709551616)) (aL (aj .u64) (c%18446744073709551616))))=x * 4294967296+c:=by
 obtain⟨a,rfl⟩:∃n:Nat,x=n:=⟨x.toNat,by omega⟩
 obtain⟨b,rfl⟩:∃n:Nat,c=n:=⟨c.toNat,by omega⟩
 have e1:(a:Int)%18446744073709551616 * 4294967296%18446744073709551616=((4294967296 * a:Nat):Int):=by omega
 have e2:(b:Int)%18446744073709551616=((b:Nat):Int):=by omega
 rw[e1,e2,L7 _ (by omega),L7 _ (by omega),PC _ _ (by omega),PB _ (by omega)]
 omega
theorem acy{n c:Int}(a:0<=n)(b:n<4294967296)(h0:0<=c)(h1:c<4294967296):(n * 4294967296+c)/4294967296%4294967296=n/\(n * 4294967296+c)%4294967296=c/\0<=n * 4294967296+c/\n * 4294967296+c<18446744073709551616:=by omega
theorem L8(c:Int):(b4 c).length=4:=rfl
theorem PD(n:Int):(Wc n).length=8:=rfl
theorem PE(s:List Nat):(Ic s).length=s.length+12:=by unfold Ic;rw[aai,aai,PD,L8];omega
def abV:FSpec:={args:=[.c (.i .u32 1)],blk:=[],pre:=fun z=>0<=z.i 1/\z.i 1<4294967296,res:=fun _=>.one (.c (.i .u64 10)),out:=fun _=>[],post:=fun z y=>y.i 10/4294967296%4294967296=z.i 1/\y.i 10%4294967296=L5 (b4 (z.i 1))/\0<=y.i 10/\y.i 10<18446744073709551616}
def acz:FSpec:={args:=[.c (.i .u64 1)],blk:=[],pre:=fun z=>0<=z.i 1/\z.i 1<18446744073709551616,res:=fun _=>.one (.c (.gb 0 20)),out:=fun _=>Xi,post:=fun z y=>y.s 20=b4 (z.i 1/4294967296%4294967296)++b4 (z.i 1%4294967296)}
def AB:FSpec:={args:=[.c (.vb 1)],blk:=[],pre:=fun z=>(z.s 1).length<=100000000,res:=fun _=>.tu [.c (.vb 10),.c (.i .i64 50)],out:=fun _=>[],post:=fun z y=>((z.s 1).length<=524288->y.i 50=0/\y.s 10=Ic (z.s 1))/\(524288<(z.s 1).length->y.i 50=5/\y.s 10= [])/\(y.s 10).length<=524300}
abbrev oh:=AB
attribute [irreducible] CT L5 Ib
end
theorem Hl(z:Sy)(hA:wF.pre z):Fm.den ((.an ((0:Int)<=z.i 1/16777216%256/\(0:Int)<=z.i 1/65536%256/\(0:Int)<=z.i 1/256%256/\(0:Int)<=z.i 1%256/\True) (.an (4=4) (.an (4=4/\True) (.at ([(z.i 1/(16777216:Int)%256).toNat,(z.i 1/65536%256).toNat,(z.i 1/256%256).toNat,(z.i 1%256).toNat]=b4 (z.i 1))))))):=by
 dsimp only [wF,Fb,Xi] at hA
 repeat' with_reducible first|intro _|apply aV|apply aZ|apply aT|apply bf|apply ba
 all_goals first|omega|grind [am,ai,ah,b4]
theorem L9:Ok Tryz.prog 180 wF:=bS 1000 mN eN lN (hn:=.nil) Hl
theorem Hm(p z:Sy)(hA:(wD p).inv z):Fm.den (let v0:=((-9223372036854775808:Int)<=z.i 5+1/\z.i 5+1<=9223372036854775807);let v1:=(aj Go.IntKind.u32);let v2:=((0:Int)<=z.i 5+1/\z.i 5+1<=8);let v3:=(z.i 5+1);(.two (z.i 5<8) (.two (Go.IntKind.u32.wrap (Int.ofNat ((aL v1 (z.i 3)).land (aL v1 1)))=1) (.an v0 (.ax (v2/\((8:Int)-v3).toNat<(8-z.i 5).toNat/\∀(y:Sy),y.s 20=z.s 20/\y.i 4=z.i 4/\y.i 3=Ib v3 (Go.IntKind.u32.wrap (Int.ofNat ((aL v1 (z.i 3/2)).xor (aL v1 3988292384))))->y.s 20=z.s 20/\y.i 4=z.i 4/\y.i 3=Ib (z.i 5) (z.i 3)))) (.an v0 (.ax (v2/\((8:Int)-v3).toNat<(8-z.i 5).toNat/\∀(y:Sy),y.s 20=z.s 20/\y.i 4=z.i 4/\y.i 3=Ib v3 (z.i 3/2)->y.s 20=z.s 20/\y.i 4=z.i 4/\y.i 3=Ib (z.i 5) (z.i 3))))) (.ax (z.s 20=z.s 20/\z.i 4=z.i 4/\z.i 3=Ib (z.i 5) (z.i 3))))):=by
 dsimp only [wD] at hA
 have e1:=L3 (z.i 5) (z.i 3)
 have e2:=Py (z.i 5) (z.i 3)
 have e3:=S6 (z.i 3)
 dsimp only [dr,kC,H9] at e3
 conv=>zeta
 repeat' with_reducible first|intro _|apply aV|apply aZ|apply aT|apply bf|apply ba
 all_goals first|omega|grind [am,ai,ah]
theorem L_:dU Tryz.prog 167 2 wD:=bH 1000 mN eN lN (hn:=(hC 7 549)) Hm
theorem Ho(p z:Sy)(hA:(wE p).inv z):Fm.den ((.two (z.i 4 < ↑(z.s 20).length) (.an ((0:Int)<=z.i 4/\z.i 4 < ↑(z.s 20).length) (.ct ((0:Int)<=0/\(0:Int)<=8) (fun y0=>y0.s 20=z.s 20/\y0.i 4=z.i 4/\y0.i 3=Ib 0 (Go.IntKind.u32.wrap (Int.ofNat ((aL (aj Go.IntKind.u32) (z.i 3)).xor (aL (aj Go.IntKind.u32) ((↑((z.s 20).getD (z.i 4).toNat 0):Int)%4294967296)))))) fun y0=>(.an ((-9223372036854775808:Int)<=y0.i 4+1/\y0.i 4+1<=9223372036854775807) (.ax (((y0.s 20).length<=1000000000/\(0:Int)<=y0.i 4+1/\y0.i 4+1<= ↑(y0.s 20).length)/\((↑(y0.s 20).length:Int)-(y0.i 4+1)).toNat<((↑(z.s 20).length:Int)-z.i 4).toNat/\∀(y:Sy),y.s 20=y0.s 20/\y.i 3=CT (y0.s 20) (y0.i 4+1) (y0.i 3)->y.s 20=z.s 20/\y.i 3=CT (z.s 20) (z.i 4) (z.i 3)))))) (.ax (z.s 20=z.s 20/\z.i 3=CT (z.s 20) (z.i 4) (z.i 3))))):=by
 dsimp only [wE] at hA
 have e1:=@Hk (z.s 20) (z.i 4) (z.i 3)
 have e2:=@Pz (z.s 20) (z.i 4) (z.i 3)
 dsimp only [dr,lw,H9] at e1
 repeat' with_reducible first|intro _|apply aV|apply aZ|apply aT|apply bf|apply ba
 all_goals first|omega|grind [am,ai,ah,Vb]
theorem Ma:dU Tryz.prog 167 0 wE:=bH 1000 mN eN (eL (ptm:=[]) L_ lN) (hn:=(.both (.yes .nil) .nil)) Ho
theorem PF(z:Sy)(hA:L6.pre z):Fm.den (let v1:=(aj Go.IntKind.u32);let v0:=(aL v1 (if Go.IntKind.u32.signed=true then(-1) else Go.IntKind.u32.max));(.ct ((z.s 20).length<=1000000000/\(0:Int)<=0/\0<=(↑(z.s 20).length:Int)) (fun y0=>y0.s 20=z.s 20/\y0.i 3=CT (z.s 20) 0 4294967295) fun y0=>(let v2:=(Int.ofNat (v0.xor (aL v1 (y0.i 3))));(.ax (Go.IntKind.u32.wrap v2=L5 (z.s 20)/\(0:Int)<=Go.IntKind.u32.wrap v2/\Go.IntKind.u32.wrap v2<4294967296))))):=by
 dsimp only [L6,Ra] at hA
 have e3:=WN
 have e1:=S7 (z.s 20)
 dsimp only [BW,H9] at e1
 have e9:=PA (z.s 20)
 conv=>zeta
 repeat' with_reducible first|intro _|apply aV|apply aZ|apply aT|apply bf|apply ba
 all_goals first|omega|grind [am,ai,ah]
theorem S8:Ok Tryz.prog 167 L6:=bS 1000 mN eN (eL (ptm:=[]) Ma lN) (hn:=.nil) PF
theorem ack(z:Sy)(hA:Fb.pre z):Fm.den ((.an ((0:Int)<=z.i 1/16777216%256/\(0:Int)<=z.i 1/65536%256/\(0:Int)<=z.i 1/256%256/\(0:Int)<=z.i 1%256/\True) (.an (4=4) (.an (4=4/\True) (.at ([(z.i 1/(16777216:Int)%256).toNat,(z.i 1/65536%256).toNat,(z.i 1/256%256).toNat,(z.i 1%256).toNat]=b4 (z.i 1))))))):=by
 dsimp only [Fb,Xi] at hA
 repeat' with_reducible first|intro _|apply aV|apply aZ|apply aT|apply bf|apply ba
 all_goals first|omega|grind [am,ai,ah,b4]
theorem abR:Ok Tryz.prog 190 Fb:=bS 1000 mN eN lN (hn:=.nil) ack
theorem acl(p z:Sy)(hA:(abU p).inv z):Fm.den (let v1:=(Int.ofNat ((aL (aj Go.IntKind.u32) (Go.IntKind.u32.wrap (Int.ofNat ((aL (aj Go.IntKind.u32) (z.i 5)).xor (aL (aj Go.IntKind.u32) ((↑((z.s 20).getD (z.i 6).toNat 0):Int)%4294967296)))))).land (aL (aj Go.IntKind.u32) 15)));let v0:=(Int.ofNat ((aL (aj Go.IntKind.u32) (Go.IntKind.u32.wrap (Int.ofNat ((aL (aj Go.IntKind.u32) (z.i 5)).xor (aL (aj Go.IntKind.u32) ((↑((z.s 20).getD (z.i 6).toNat 0):Int)%4294967296))))/16)).xor (aL (aj Go.IntKind.u32) (gI (aa (aq (z.g 2) (Go.IntKind.u32.wrap v1).toNat) 0)))));let v2:=(Int.ofNat ((aL (aj Go.IntKind.u32) (Go.IntKind.u32.wrap v0)).land (aL (aj Go.IntKind.u32) 15)));let v3:=(0<(z.g 2).length/\True);(.two (z.i 6<z.i 7) (.an ((0:Int)<=z.i 6/\z.i 6 < ↑(z.s 20).length) (.an (0<=Go.IntKind.u32.wrap v1/\Go.IntKind.u32.wrap v1<16) (.an (0<(z.g 2).length) (.an ((Go.IntKind.u32.wrap v1).toNat<(z.g 2).length) (.an (0<=Go.IntKind.u32.wrap v2/\Go.IntKind.u32.wrap v2<16) (.an (0<(z.g 2).length) (.an ((Go.IntKind.u32.wrap v2).toNat<(z.g 2).length) (.an ((-9223372036854775808:Int)<=z.i 6+1/\z.i 6+1<=9223372036854775807) (.an v3 (.at ((z.g 2=CG/\z.i 7= ↑(z.s 20).length/\(0:Int)<=z.i 6+1/\(z.s 20).length<=1000000000)/\(z.i 7-(z.i 6+1)).toNat<(z.i 7-z.i 6).toNat/\∀(y:Sy),y.i 5=CT (z.s 20) (z.i 6+1) (Go.IntKind.u32.wrap (Int.ofNat ((aL (aj Go.IntKind.u32) (Go.IntKind.u32.wrap v0/16)).xor (aL (aj Go.IntKind.u32) (gI (aa (aq (z.g 2) (Go.IntKind.u32.wrap v2).toNat) 0))))))->y.i 5=CT (z.s 20) (z.i 6) (z.i 5)))))))))))) (.an v3 (.at (z.i 5=CT (z.s 20) (z.i 6) (z.i 5)))))):=by
 dsimp only [abU,acx] at hA
 have e1:=@L4 (z.s 20) (z.i 6) (z.i 5)
 have e2:=@Pz (z.s 20) (z.i 6) (z.i 5)
 have e3:=acw
 have e4:=aci (z.i 5) (lw (z.s 20) (z.i 6)%4294967296)
 have e5:=@abX (dr (z.i 5) (lw (z.s 20) (z.i 6)%4294967296)) e4.1 e4.2
 have e6:=(fun e=>aci (dr (z.i 5) e/16) (vB CG (kC (dr (z.i 5) e) 15))) (lw (z.s 20) (z.i 6)%4294967296)
 have e7:=@abX _ e6.1 e6.2
 dsimp only [Ud,dr,kC,lw,vB,H9] at e1 e4 e5 e6 e7
 conv=>zeta
 repeat' with_reducible first|intro _|apply aV|apply aZ|apply aT|apply bf|apply ba
 all_goals first|omega|grind [am,ai,ah]
theorem acr:dU Tryz.prog 161 0 abU:=bH 1000 mN eN lN (hn:=(.both (.yes .nil) .nil)) acl
theorem acv(z:Sy)(hA:Ra.pre z):Fm.den (let v1:=(aj Go.IntKind.u32);let v0:=(aL v1 (if Go.IntKind.u32.signed=true then(-1) else Go.IntKind.u32.max));let v2:=(↑(z.s 20).length:Int);(.an (16=16/bp (cK 9)) (.cl ((0<16/\True)) ([G.node [G.int (0:Int)],G.node [G.int 498536548],G.node [G.int 997073096],G.node [G.int 651767980],G.node [G.int 1994146192],G.node [G.int 1802195444],G.node [G.int 1303535960],G.node [G.int 1342533948],G.node [G.int 3988292384],G.node [G.int 4027552580],G.node [G.int 3604390888],G.node [G.int 3412177804],G.node [G.int 2607071920],G.node [G.int 2262029012],G.node [G.int 2685067896],G.node [G.int 3183342108]]=CG/\v2=v2/\(0:Int)<=0/\(z.s 20).length<=1000000000) (fun y0=>y0.i 5=CT (z.s 20) 0 4294967295) fun y0=>(let v3:=(Int.ofNat (v0.xor (aL v1 (y0.i 5))));(.ax (Go.IntKind.u32.wrap v3=L5 (z.s 20)/\(0:Int)<=Go.IntKind.u32.wrap v3/\Go.IntKind.u32.wrap v3<4294967296)))))):=by
 dsimp only [Ra] at hA
 have e2: [G.node [G.int 0],G.node [G.int 498536548],G.node [G.int 997073096],G.node [G.int 651767980],G.node [G.int 1994146192],G.node [G.int 1802195444],G.node [G.int 1303535960],G.node [G.int 1342533948],G.node [G.int 3988292384],G.node [G.int 4027552580],G.node [G.int 3604390888],G.node [G.int 3412177804],G.node [G.int 2607071920],G.node [G.int 2262029012],G.node [G.int 2685067896],G.node [G.int 3183342108]]=CG:=rfl
 have e3:=WN
 have e4:bp (cK 9)=1:=rfl
 have e1:=S7 (z.s 20)
 dsimp only [BW,H9] at e1
 have e9:=PA (z.s 20)
 conv=>zeta
 repeat' with_reducible first|intro _|apply aV|apply aZ|apply aT|apply bf|apply ba
 all_goals first|omega|grind [am,ai,ah]
theorem acs:Ok Tryz.prog 161 Ra:=bS 1000 mN eN (eL (ptm:=[]) acr lN) (hn:=.nil) acv
theorem acm(z:Sy)(hA:abV.pre z):Fm.den (let v1:=(aj Go.IntKind.u64);let v0:=(aL v1 (z.i 1%18446744073709551616 * 4294967296%18446744073709551616));(.ct ((0:Int)<=z.i 1) (fun y0=>y0.s 20=b4 (z.i 1)) fun y0=>(.an ((y0.s 20).length=(y0.s 20).length) (.ct ((y0.s 20).length<=1000000000) (fun y1=>y1.i 10=L5 (y0.s 20)/\(0:Int)<=y1.i 10/\y1.i 10<4294967296) fun y1=>(let v2:=(Int.ofNat (v0.lor (aL v1 (y1.i 10%18446744073709551616))));(.ax (Go.IntKind.u64.wrap v2/4294967296%4294967296=z.i 1/\Go.IntKind.u64.wrap v2%4294967296=L5 (b4 (z.i 1))/\(0:Int)<=Go.IntKind.u64.wrap v2/\Go.IntKind.u64.wrap v2<18446744073709551616))))))):=by
 dsimp only [abV] at hA
 have e1:=PA (b4 (z.i 1))
 have e2:=@WO (z.i 1) (L5 (b4 (z.i 1)))
 have e3:=@acy (z.i 1) (L5 (b4 (z.i 1)))
 conv=>zeta
 repeat' with_reducible first|intro _|apply aV|apply aZ|apply aT|apply bf|apply ba
 all_goals first|omega|grind [am,ai,ah,L8]
theorem act:Ok Tryz.prog 159 abV:=bS 1000 mN (eK abR (lK acs eN)) lN (hn:=.nil) acm
theorem acA(z:Sy)(hA:acz.pre z):Fm.den (let v0:=(z.i 1/(4294967296:Int)%4294967296);(.ct ((0:Int)<=z.i 1/4294967296%4294967296) (fun y0=>y0.s 20=b4 v0) fun y0=>(.ct ((0:Int)<=z.i 1%4294967296) (fun y1=>y1.s 20=b4 (z.i 1%(4294967296:Int))) fun y1=>(.an ((y1.s 20).length=(y1.s 20).length) (.an ((y0.s 20).length=(y0.s 20).length/\(y0.s 20).length<=1000000000/\(y1.s 20).length<=1000000) (.an ((y0.s 20++y1.s 20).length=(y0.s 20).length+(y1.s 20).length/\True) (.at (y0.s 20++y1.s 20=b4 v0++b4 (z.i 1%4294967296))))))))):=by
 dsimp only [acz,Xi] at hA
 conv=>zeta
 repeat' with_reducible first|intro _|apply aV|apply aZ|apply aT|apply bf|apply ba
 all_goals first|omega|grind [am,ai,ah,L8]
theorem o_Big:Ok Tryz.prog 189 acz:=bS 1000 mN (eK abR eN) lN (hn:=.nil) acA
noncomputable section
def CU(h:G)(i n:Int)(p:List G)(r:G):Prop:=(0<=i/\i<n)/\n<=1099511627776/\(ga h i n p).2/\(ga h i n p).1=r
theorem wG(h:G)(i n:Int)(p:List G)(r:G):CU h i n p r↔(0<=i/\i<n)/\n<=1099511627776/\(ga h i n p).2/\(ga h i n p).1=r:=Iff.rfl
def rD:FSpec:={args:=[.ag (hs 100),.c (.i .i64 3),.c (.i .i64 4),.ag [.v 6 1],.ag (hs 200)],blk:=[],pre:=fun z=>HOk (hT z 100)/\HOk (hT z 200)/\(z.g 1).length<=1000000/\RowsOk (z.g 1),res:=fun _=>.one (.c (.b 50)),out:=fun _=>[],post:=fun z y=>y.p 50↔CU (hT z 100) (z.i 3) (z.i 4) (z.g 1) (hT z 200)}
attribute [irreducible] CU
end
theorem CV(z:Sy)(hA:rD.pre z):Fm.den (let v0:=(false=true↔CU (hT z 100) (z.i 3) (z.i 4) (z.g 1) (hT z 200));let v1:=(ga (hT z 100) (z.i 3) (z.i 4) (z.g 1));(.two (z.i 3<0) (.ax v0) (.two (z.i 4<=z.i 3) (.ax v0) (.two ((1099511627776:Int)<z.i 4) (.ax v0) (.ct (HOk (hT z 100)/\((0:Int)<=z.i 3/\z.i 3<z.i 4)/\z.i 4<1099511627777/\z.i 4<=1099511627776/\(z.g 1).length<=1000000/\RowsOk (z.g 1)) (fun y0=>HOk (hT y0 300)/\hT y0 300=v1.fst/\(y0.p 50↔v1.snd)) fun y0=>(.two (y0.p 50) (.ax (lQ (hT y0 300) (hT z 200)↔CU (hT z 100) (z.i 3) (z.i 4) (z.g 1) (hT z 200))) (.ax v0))))))):=by
 dsimp only [rD,hs] at hA
 have a1:=wG (hT z 100) (z.i 3) (z.i 4) (z.g 1) (hT z 200)
 conv=>zeta
 repeat' with_reducible first|intro _|apply aV|apply aZ|apply aT|apply bf|apply ba
 all_goals first|omega|grind [am,ai,ah,az,aA,aB,aC,aD,aE,aF,aG,aH,ao]
theorem Hq:Ok Tryz.prog 35 rD:=bS 1000 mN (eK (LT 1099511627777) eN) lN (hn:=(hC 9 4369)) CV
noncomputable section
end
noncomputable section
structure Bt where
 a:G
 b:G
 p:Prop
variable{m n k:Int}{c d:Prop}{p:List G}{o:G}
end
noncomputable section
structure Tk where
 a:G
 b:G
 r:List G
 ok:Prop
open Classical in
variable{m n k:Int}{c d ok:Prop}{r:List G}{o:G}
end
noncomputable section
open Classical in
def lJ(m n:Int)(c:Prop):Nat:=
 if m=n then(if c then 0 else 1)
 else if h:2<=n then
  if m<=(bI n.toNat:Nat) then lJ m (bI n.toNat:Nat) c+1 else lJ (m-(bI n.toNat:Nat)) (n-(bI n.toNat:Nat)) False+1
 else 0
termination_by n.toNat
decreasing_by all_goals (have:=lH h;omega)
end
noncomputable section
end
noncomputable section
def cr(i n:Int):List Prop:=
 if h:2<=n then
  if i<(bI n.toNat:Nat) then False::cr i (bI n.toNat:Nat)
  else True::cr (i-(bI n.toNat:Nat)) (n-(bI n.toNat:Nat))
 else []
termination_by n.toNat
decreasing_by all_goals (have:=eD (n:=n.toNat) (by omega);have:=ft n.toNat;omega)
theorem jT{i n:Int}(h:¬2<=n):cr i n= []:=by rw[cr,dif_neg h]
theorem mU{i n k:Int}(h:2<=n)(hk:k=(bI n.toNat:Nat))(hi:¬k<=i):cr i n=False::cr i k:=by subst hk;rw[cr,dif_pos h,if_pos (by omega)]
theorem mV{i n k:Int}(h:2<=n)(hk:k=(bI n.toNat:Nat))(hi:k<=i):cr i n=True::cr (i-k) (n-k):=by subst hk;rw[cr,dif_pos h,if_neg (by omega)]
theorem Mb:∀(j:Nat) (i n:Int),n<=(2 ^ j:Nat)->(cr i n).length<=j:=by
 intro j
 induction j with
 |zero=>intro i n h;rw[jT (by have:n<=1:=h;omega)];exact aaa _
 |succ j ih=>
  intro i n h
  by_cases h2:2<=n
  ·have a1:=eD (n:=n.toNat) (by omega)
   have a2:=CE (n:=n.toNat) (by omega)
   have a3:bI n.toNat<=2 ^ j:=by
    unfold bI
    refine abj (by decide) (Nat.lt_succ_iff.1 ((Nat.log2_lt (by omega)).2 ?_))
    omega
   by_cases hi:((bI n.toNat:Nat):Int)<=i
   ·rw[mV h2 rfl hi]
    have:=ih (i-(bI n.toNat:Nat)) (n-(bI n.toNat:Nat)) (by omega)
    simp only [aao];omega
   ·rw[mU h2 rfl hi]
    have:=ih i (bI n.toNat:Nat) (by omega)
    simp only [aao];omega
  ·rw[jT h2];exact aal _
def j2(s:Prop)(h x:G):G:=@ite _ s (Classical.propDecidable _) (bb x h) (bb h x)
def jB(s:Prop)(h x:G):List Nat:=@ite _ s (Classical.propDecidable _) (1::(hB x++hB h)) (1::(hB h++hB x))
def sC(h:G):List Prop->List G->G
 |s::ss,r::ps=>sC (j2 s h (hX (aa r 0))) ss ps
 |_,_=>h
def ig(h:G):List Prop->List G->List G
 |s::ss,r::ps=>.node [.str (jB s h (hX (aa r 0))),j2 s h (hX (aa r 0))]::ig (j2 s h (hX (aa r 0))) ss ps
 |_,_=>[]
theorem jU:∀(ss:List Prop) (ps:List G) (h:G) (s:Prop) (r:G),ps.length=ss.length->sC h (ss++ [s]) (ps++ [r])=j2 s (sC h ss ps) (hX (aa r 0))
 | [],[],_,_,_,_=>rfl
 |s0::ss,r0::ps,h,s,r,e=>jU ss ps (j2 s0 h (hX (aa r0 0))) s r (by simpa using e)
 | [],_::_,_,_,_,e=>by simp at e
 |_::_,[],_,_,_,e=>by simp at e
theorem Mc(m:Nat):∀(h:G) (i n:Int) (p:List G),n.toNat<=m->((ga h i n p).2↔p.length=(cr i n).length)/\(p.length=(cr i n).length->(ga h i n p).1=sC h (cr i n).reverse p):=by
 induction m with
 |zero=>
  intro h i n p hm
  rw[kx (by omega),jT (by omega)]
  exact⟨Iff.rfl,fun e=>by cases p with|nil=>rfl|cons _ _=>cases e⟩
 |succ m ih=>
  intro h i n p hm
  by_cases h2:2<=n
  ·have a1:=eD (n:=n.toNat) (by omega)
   have a2:=ft n.toNat
   by_cases hp:p.length=0
   ·rw[wl h2 hp,hp]
    have:(cr i n).length≠0:=by
     by_cases hi:((bI n.toNat:Nat):Int)<=i
     ·rw[mV h2 rfl hi];simp
     ·rw[mU h2 rfl hi];simp
    exact⟨⟨False.elim,fun e=>this e.symm⟩,fun e=>absurd e.symm this⟩
   ·have o8:p≠ []:=fun e=>hp (by rw[e];rfl)
    have ac5:p=p.dropLast++ [aq p (p.length-1)]:=by
     conv=>lhs;rw[←List.dropLast_concat_getLast o8]
     congr 2
     unfold aq
     rw[aag,aah (by omega),List.getLast_eq_getElem];rfl
    have hdl:p.dropLast.length=p.length-1:=List.length_dropLast
    by_cases hi:i<(bI n.toNat:Nat)
    ·rw[wm h2 hp hi,mU h2 rfl (by omega)]
     obtain⟨q1,q2⟩:=ih h i (bI n.toNat:Nat) p.dropLast (by omega)
     refine⟨by rw[aao];exact q1.trans (by omega),fun e=>?_⟩
     rw[aao] at e
     have e':p.dropLast.length=(cr i (bI n.toNat:Nat)).length:=by omega
     rw[List.reverse_cons]
     conv=>rhs;rw[ac5]
     rw[jU _ _ _ _ _ (by rw[abc];exact e'), ←q2 e']
     unfold j2;rw[if_neg id]
    ·rw[wn h2 hp hi,mV h2 rfl (by omega)]
     obtain⟨q1,q2⟩:=ih h (i-(bI n.toNat:Nat)) (n-(bI n.toNat:Nat)) p.dropLast (by omega)
     refine⟨by rw[aao];exact q1.trans (by omega),fun e=>?_⟩
     rw[aao] at e
     have e':p.dropLast.length=(cr (i-(bI n.toNat:Nat)) (n-(bI n.toNat:Nat))).length:=by omega
     rw[List.reverse_cons]
     conv=>rhs;rw[ac5]
     rw[jU _ _ _ _ _ (by rw[abc];exact e'), ←q2 e']
     unfold j2;rw[if_pos trivial]
  ·rw[kx h2,jT h2]
   exact⟨Iff.rfl,fun e=>by cases p with|nil=>rfl|cons _ _=>cases e⟩
theorem CW{n m:Int}(hm:m=(n-1)%18446744073709551616)(h:2<=n)(h1:n<=1099511627776):(0<=cX m-1/\cX m-1<=40)/\((2 ^ min (cX m-1).toNat (aY .i64):Nat):Int)=(bI n.toNat:Nat):=by
 have e:m=n-1:=by omega
 rw[e];exact tZ h h1
def pz(l:List G):List Prop:=l.map fun r=>gI (aa r 0)=1
theorem gz(l:List G):(pz l).length=l.length:=aaO ..
theorem wH(l:List G)(q:Prop):pz (l++ [.node [.int (pI q)]])=pz l++ [q]:=by
 unfold pz
 rw[List.map_append]
 congr 1
 show [pI q=1]= [q]
 congr 1
 unfold pI
 exact propext ⟨fun h=>Classical.byContradiction fun hn=>(by rw[if_neg hn] at h;cases h),fun h=>(by rw[if_pos h])⟩
def fX(i n:Int)(l r:List G):Prop:=pz r=pz l++cr i n
theorem PG{i n:Int}{l:List G}(h:¬1<n):fX i n l l:=by unfold fX;rw[jT (by omega),aa5]
theorem Md{i n k:Int}{l r:List G}{q:Prop}(h:1<n)(hk:k=(bI n.toNat:Nat))(hq:q↔k<=i):(q->fX (i-k) (n-k) (l++ [.node [.int (pI q)]]) r->fX i n l r)/\(¬q->fX i k (l++ [.node [.int (pI q)]]) r->fX i n l r):=by
 refine⟨fun h1 h2=>?_,fun h1 h2=>?_⟩
 ·unfold fX at h2⊢
  rw[h2,mV (by omega) hk (hq.1 h1),wH,aau,show q=True from propext ⟨fun _=>trivial,fun _=>h1⟩];rfl
 ·unfold fX at h2⊢
  rw[h2,mU (by omega) hk (fun h=>h1 (hq.2 h)),wH,aau,show q=False from propext ⟨h1,False.elim⟩];rfl
def ja(i n:Int):Nat:=(cr i n).length
theorem wI{i n:Int}(h:n<=1099511627776):ja i n<=40:=Mb 40 i n h
theorem Me{i n k:Int}(h:1<n)(hk:k=(bI n.toNat:Nat)):(k<=i->ja i n=ja (i-k) (n-k)+1)/\(¬k<=i->ja i n=ja i k+1):=⟨fun hi=>by unfold ja;rw[mV (by omega) hk hi];rfl,fun hi=>by unfold ja;rw[mU (by omega) hk hi];rfl⟩
theorem Fc{i n:Int}{l r:List G}(h:fX i n l r):r.length=l.length+ja i n:=by
 have:=congrArg List.length h
 rwa [gz,aai,gz] at this
def Rb{α:Type}(a b:Int)(l:List α):List α:=l.take a.toNat++(((l.drop a.toNat).take (b+1-a).toNat).reverse++l.drop (b+1).toNat)
theorem PH{α:Type}{a b:Int}{l:List α}(h0:0<=a)(YH:a+b+1=l.length)(h1:a<=b+1)(h:¬a<b):Rb a b l=l:=by
 unfold Rb
 have:((l.drop a.toNat).take (b+1-a).toNat).reverse=(l.drop a.toNat).take (b+1-a).toNat:=by
  have hl:((l.drop a.toNat).take (b+1-a).toNat).length<=1:=by rw[aam];omega
  match(l.drop a.toNat).take (b+1-a).toNat,hl with
  | [],_=>rfl
  | [_],_=>rfl
  |_::_::_,hl=>simp at hl
 rw[this]
 rcases(show b<a∨a<=b by omega) with hb|hb
 ·rw[show(b+1-a).toNat=0 by omega,abu,aa1]
  rw[show(b+1).toNat=a.toNat by omega,abl]
 ·rw[show(b+1).toNat=a.toNat+(b+1-a).toNat by omega, ←aaX,abl,abl]
theorem PI{α:Type}{l:List α}:Rb 0 ((l.length:Int)-1) l=l.reverse:=by
 unfold Rb
 rw[show(0:Int).toNat=0 by rfl,abu,aaL,show((l.length:Int)-1+1-0).toNat=l.length by omega,show((l.length:Int)-1+1).toNat=l.length by omega,aaZ,List.drop_length,aa5,aa1]
theorem Mf{α:Type}{a b:Int}{l:List α}{x y:α}(h0:0<=a)(YH:a+b+1=l.length)(h:a<b)(hx:l[a.toNat]? =some x)(hy:l[b.toNat]? =some y):Rb (a+1) (b-1) ((l.set a.toNat y).set b.toNat x)=Rb a b l:=by
 obtain⟨i,rfl⟩:∃i:Nat,a=i:=⟨a.toNat,by omega⟩
 obtain⟨k,rfl⟩:∃k:Nat,b=i+1+k:=⟨(b-i-1).toNat,by omega⟩
 unfold Rb
 simp only [aaq,show((i:Int)+1+k).toNat=i+1+k by omega,show((i:Int)+1).toNat=i+1 by omega,show((i:Int)+1+k-1+1-(i+1)).toNat=k by omega,show((i:Int)+1+k-1+1).toNat=i+1+k by omega,show((i:Int)+1+k+1-i).toNat=k+2 by omega,show((i:Int)+1+k+1).toNat=i+k+2 by omega] at hx hy⊢
 have hi:i<l.length:=by omega
 have hk:i+1+k<l.length:=by omega
 rw[aah hi] at hx
 rw[aah hk] at hy
 injection hx with hx;injection hy with hy
 subst hx;subst hy
 refine List.ext_getElem (by simp;omega) fun j h1 h2=>?_
 simp only [List.getElem_append,List.getElem_take,List.getElem_drop,List.getElem_reverse,List.getElem_set,aam,aan,abc,aa0,aai] at h1 h2⊢
 split <;> split <;> (try split) <;> (try split) <;> (try split) <;> (try split) <;> first|rfl|omega|(congr 1;omega)
theorem Fd(l:List G)(i:Nat)(q:Prop):pz (l.set i (.node [.int (pI q)]))=(pz l).set i q:=by
 have:=wH [] q
 simp only [aa1] at this
 unfold pz at this⊢
 rw[List.map_set]
 congr 1
 exact List.head_eq_of_cons_eq this
theorem Mg{l:List G}{i:Nat}(h:i<l.length):(pz l)[i]? =some (gI (aa (aq l i) 0)=1):=by
 unfold pz aq
 rw[aaE,aag,aah h];rfl
def Mh(a b:Int)(l r:List G):Prop:=pz r=Rb a b (pz l)/\r.length=l.length
theorem PJ{a b:Int}{l:List G}(h0:0<=a)(YH:a+b+1=l.length)(h1:a<=b+1)(h:¬a<b):Mh a b l l:=⟨(PH h0 (by rw[gz];exact YH) h1 h).symm,rfl⟩
theorem Mi{a b:Int}{l r:List G}(h0:0<=a)(YH:a+b+1=l.length)(h:a<b)(hr:Mh (a+1) (b-1) ((l.set a.toNat (.node [.int (pI (gI (aa (aq l b.toNat) 0)=1))])).set b.toNat (.node [.int (pI (gI (aa (aq l a.toNat) 0)=1))])) r):Mh a b l r:=by
 obtain⟨h1,h2⟩:=hr
 refine⟨?_,by rw[h2,aa0,aa0]⟩
 rw[h1,Fd,Fd]
 exact Mf h0 (by rw[gz];exact YH) h (Mg (by omega)) (Mg (by omega))
theorem PK{i n:Int}{l r:List G}(hs:fX i n [] l)(h:Mh 0 ((l.length:Int)-1) l r):pz r=(cr i n).reverse/\r.length=ja i n:=by
 have hl:=Fc hs
 obtain⟨h1,h2⟩:=h
 refine⟨?_,by rw[h2,hl];simp⟩
 have e:(l.length:Int)=(pz l).length:=by rw[gz]
 rw[h1,e,PI]
 unfold fX at hs
 rw[hs];rfl
attribute [irreducible] fX ja Mh
def Vc:FSpec:={args:=[.ag (hs 100),.ag (hs 200)],blk:=[],pre:=fun z=>HOk (hT z 100)/\HOk (hT z 200),res:=fun _=>.one (.ag ([.vb 10]++hs 300)),out:=fun _=>[],post:=fun z y=>y.s 10=1::(hB (hT z 100)++hB (hT z 200))/\hT y 300=bb (hT z 100) (hT z 200)}
def Ue:List BSh:=[.grow 4 4 20]
def rE(p:Sy):LSpec:={tmps:=[(0,.c (.i .i64 1)),(1,.c (.i .i64 2)),(5,.c (.g 0 1 20))],blk:=Ue,inv:=fun z=>(0<=z.i 1/\z.i 1<z.i 2)/\z.i 2<=1099511627776/\(z.g 20).length+ja (z.i 1) (z.i 2)<=1000,mu:=fun z=>(z.i 2).toNat,alts:=[⟨.exit 0,[(5,.c (.g 0 1 20))],Ue⟩],post:=fun z y=>fX (z.i 1) (z.i 2) (z.g 20) (y.g 20)}
def rF(p:Sy):LSpec:={tmps:=[(5,.c (.g 0 1 20)),(8,.c (.i .i64 1)),(9,.c (.i .i64 2))],blk:=Ue,inv:=fun z=>(0<=z.i 1/\z.i 1<=z.i 2+1)/\z.i 1+z.i 2+1=(z.g 20).length/\(z.g 20).length<=1000,mu:=fun z=>(z.i 2-z.i 1).toNat,alts:=[⟨.exit 2,[(5,.c (.g 0 1 20))],Ue⟩],post:=fun z y=>Mh (z.i 1) (z.i 2) (z.g 20) (y.g 20)}
def CX:FSpec:={args:=[.c (.i .i64 1),.c (.i .i64 2)],blk:=[],pre:=fun z=>(0<=z.i 1/\z.i 1<z.i 2)/\z.i 2<=1099511627776,res:=fun _=>.one (.c (.v 4 10)),out:=fun _=>[],post:=fun z y=>pz (y.g 10)=(cr (z.i 1) (z.i 2)).reverse/\(y.g 10).length=ja (z.i 1) (z.i 2)}
def wJ(i:Int)(h:G)(S p l r:List G):Prop:=r=l++ig h ((pz S).drop i.toNat) (p.drop i.toNat)
theorem PL{i:Int}{h:G}{S p l:List G}(hi:¬i<S.length)(h0:0<=i):wJ i h S p l l:=by
 unfold wJ
 rw[aaK (by rw[gz];omega)]
 cases p.drop i.toNat <;> simp [ig]
theorem Mj{i:Int}{h x:G}{S p l r:List G}(h0:0<=i)(hi:i<S.length)(hp:S.length=p.length)(hx:x=hX (aa (aq p i.toNat) 0)):
  (gI (aa (aq S i.toNat) 0)=1->wJ (i+1) (bb x h) S p (l++ [.node [.str (1::(hB x++hB h)),bb x h]]) r->wJ i h S p l r)/\
  (¬gI (aa (aq S i.toNat) 0)=1->wJ (i+1) (bb h x) S p (l++ [.node [.str (1::(hB h++hB x)),bb h x]]) r->wJ i h S p l r):=by
 have e1:(pz S).drop i.toNat=(gI (aa (aq S i.toNat) 0)=1)::(pz S).drop (i+1).toNat:=by
  rw[aaU (by rw[gz];omega),show(i+1).toNat=i.toNat+1 by omega]
  congr 1
  unfold pz aq
  rw[List.getElem_map,aag,aah (by omega)];rfl
 have e2:p.drop i.toNat=aq p i.toNat::p.drop (i+1).toNat:=by
  rw[aaU (by omega),show(i+1).toNat=i.toNat+1 by omega]
  congr 1
  unfold aq
  rw[aag,aah (by omega)];rfl
 subst hx
 refine⟨fun hs h2=>?_,fun hs h2=>?_⟩
 all_goals
  unfold wJ at h2⊢
  rw[h2,e1,e2]
  show _=l++(.node [.str (jB _ h _),j2 _ h _]::ig (j2 _ h _) _ _)
  unfold j2 jB
 ·rw[if_pos hs,if_pos hs,aau];rfl
 ·rw[if_neg hs,if_neg hs,aau];rfl
theorem wK:∀(h:G) (ss:List Prop) (ps:List G),(ig h ss ps).length=min ss.length ps.length
 |h,s::ss,r::ps=>by simp only [ig,aao,wK];omega
 |_,[],_=>by simp [ig]
 |_,_::_,[]=>by simp [ig]
theorem S9{i n:Int}{h:G}{S p r:List G}(hc:wJ 0 h S p [] r)(hs:pz S=(cr i n).reverse):r=ig h (cr i n).reverse p:=by
 unfold wJ at hc
 rw[hc,hs];rfl
theorem PM{h:G}{S p r:List G}(hc:wJ 0 h S p [] r):r.length<=S.length:=by
 unfold wJ at hc
 rw[hc,aa1,wK,aan,gz];omega
abbrev ij(i n:Int)(p:List G):Prop:=(0<=i/\i<n)/\n<=1099511627776/\p.length=ja i n
def WP(p:Sy):List BSh:=[.cells 38 (hs 100),.cells 50 [.pv 6 (p.g 3)],.grow 15 95 30]
def oi(p:Sy):LSpec:={tmps:=[(4,.c (.p 0)),(7,.c (.p 1)),(11,.c (.g 2 33 30)),(35,.c (.pv 4 (p.g 4))),(36,.c (.pi .i64 (p.g 4).length)),(37,.c (.i .i64 9))],blk:=WP p,inv:=fun z=>HOk (hT z 100)/\RowsOk (p.g 3)/\(0<=z.i 9/\z.i 9<=(p.g 4).length)/\(p.g 4).length=(p.g 3).length/\(p.g 4).length<=1000/\(z.g 30).length<=z.i 9,mu:=fun z=>((p.g 4).length-z.i 9).toNat,alts:=[⟨.exit 0,[(4,.c (.p 0)),(7,.c (.p 1)),(11,.c (.g 2 33 30))],WP p⟩],post:=fun z y=>wJ (z.i 9) (hT z 100) (p.g 4) (p.g 3) (z.g 30) (y.g 30)}
def wL:FSpec:={args:=[.ag (hs 100),.c (.i .i64 1),.c (.i .i64 2),.ag [.v 6 3]],blk:=[],pre:=fun z=>HOk (hT z 100)/\(z.g 3).length<=1000000/\RowsOk (z.g 3),res:=fun _=>.tu [.c (.v 15 30),.c (.b 40)],out:=fun _=>[],post:=fun z y=>(y.p 40↔ij (z.i 1) (z.i 2) (z.g 3))/\(y.g 30).length<=40/\(ij (z.i 1) (z.i 2) (z.g 3)->y.g 30=ig (hT z 100) (cr (z.i 1) (z.i 2)).reverse (z.g 3))}
def rG:FSpec:={args:=[.ag en],blk:=[],pre:=tX,res:=fun _=>.tu [.c (.vb 30),.c (.b 40)],out:=fun _=>[],post:=fun z y=>(y.p 40↔sa z=0)/\(sa z=0->y.s 30=0::nY z)}
attribute [irreducible] wJ
end
theorem CY(z:Sy)(hA:rG.pre z):Fm.den (let v1:=(z.i 1%256);let v2:=(18446744073709551616:Int);let v3:=(hT z 100);let v0:=(true=true↔cJ (z.i 1) (z.s 2) (z.i 3) (z.i 4) (z.i 5) (z.i 6) (z.i 7) (z.i 8) (z.s 9) (z.g 10) (z.g 11) v3 (z.p 12) (z.i 13) (z.i 14)=(0:Int));let v4:=(↑(z.s 2).length:Int);(.ct (lR (z.s 2) (z.i 3) (z.i 4) (z.i 5) (z.i 7) (z.s 9) (z.g 10) (z.g 11) v3 (z.i 13) (z.i 14)) (fun y0=>y0.i 50=cJ (z.i 1) (z.s 2) (z.i 3) (z.i 4) (z.i 5) (z.i 6) (z.i 7) (z.i 8) (z.s 9) (z.g 10) (z.g 11) v3 (z.p 12) (z.i 13) (z.i 14)/\(cJ (z.i 1) (z.s 2) (z.i 3) (z.i 4) (z.i 5) (z.i 6) (z.i 7) (z.i 8) (z.s 9) (z.g 10) (z.g 11) v3 (z.p 12) (z.i 13) (z.i 14)=(0:Int)->hT y0 300=aJ (cS (z.i 1) (z.s 2) (z.i 3) (z.i 4) (z.i 5) v3 (z.i 13) (z.i 14)))/\(¬cJ (z.i 1) (z.s 2) (z.i 3) (z.i 4) (z.i 5) (z.i 6) (z.i 7) (z.i 8) (z.s 9) (z.g 10) (z.g 11) v3 (z.p 12) (z.i 13) (z.i 14)=(0:Int)->hT y0 300=hZ)) fun y0=>(.two (y0.i 50≠0) (.ax ((false=true↔cJ (z.i 1) (z.s 2) (z.i 3) (z.i 4) (z.i 5) (z.i 6) (z.i 7) (z.i 8) (z.s 9) (z.g 10) (z.g 11) v3 (z.p 12) (z.i 13) (z.i 14)=(0:Int))/\(cJ (z.i 1) (z.s 2) (z.i 3) (z.i 4) (z.i 5) (z.i 6) (z.i 7) (z.i 8) (z.s 9) (z.g 10) (z.g 11) v3 (z.p 12) (z.i 13) (z.i 14)=(0:Int)-> []=0::cS (z.i 1) (z.s 2) (z.i 3) (z.i 4) (z.i 5) v3 (z.i 13) (z.i 14)))) (.ct ((0:Int)<=z.i 3%18446744073709551616/\z.i 3%18446744073709551616<18446744073709551616) (fun y1=>y1.s 10=aI (z.i 3%v2).toNat) fun y1=>(.an ((0:Int)<=0/\(0:Int)<=z.i 1%256/\True) (.an (2=2) (.an (2=2/\2<=1000000000/\(y1.s 10).length<=1000000) (.ct ((0:Int)<=z.i 4%18446744073709551616/\z.i 4%18446744073709551616<18446744073709551616) (fun y2=>y2.s 10=aI (z.i 4%v2).toNat) fun y2=>(.an (([Int.toNat (0:Int),v1.toNat]++y1.s 10).length=2+(y1.s 10).length/\2+(y1.s 10).length<=1000000000/\(y2.s 10).length<=1000000) (.ct ((0:Int)<=z.i 5%18446744073709551616/\z.i 5%18446744073709551616<18446744073709551616) (fun y3=>y3.s 10=aI (z.i 5%v2).toNat) fun y3=>(.an (([Int.toNat (0:Int),v1.toNat]++y1.s 10++y2.s 10).length=2+(y1.s 10).length+(y2.s 10).length/\2+(y1.s 10).length+(y2.s 10).length<=1000000000/\(y3.s 10).length<=1000000) (.ct (0<=v4%18446744073709551616/\v4%18446744073709551616<18446744073709551616) (fun y4=>y4.s 10=aI (v4%18446744073709551616).toNat) fun y4=>(.an (([Int.toNat (0:Int),v1.toNat]++y1.s 10++y2.s 10++y3.s 10).length=2+(y1.s 10).length+(y2.s 10).length+(y3.s 10).length/\2+(y1.s 10).length+(y2.s 10).length+(y3.s 10).length<=1000000000/\(y4.s 10).length<=1000000) (.an (([Int.toNat (0:Int),v1.toNat]++y1.s 10++y2.s 10++y3.s 10++y4.s 10).length=2+(y1.s 10).length+(y2.s 10).length+(y3.s 10).length+(y4.s 10).length/\2+(y1.s 10).length+(y2.s 10).length+(y3.s 10).length+(y4.s 10).length<=1000000000/\(z.s 2).length<=1000000) (.ct ((0:Int)<=z.i 13%18446744073709551616/\z.i 13%18446744073709551616<18446744073709551616) (fun y5=>y5.s 10=aI (z.i 13%v2).toNat) fun y5=>(.an (([Int.toNat (0:Int),v1.toNat]++y1.s 10++y2.s 10++y3.s 10++y4.s 10++z.s 2).length=2+(y1.s 10).length+(y2.s 10).length+(y3.s 10).length+(y4.s 10).length+(z.s 2).length/\2+(y1.s 10).length+(y2.s 10).length+(y3.s 10).length+(y4.s 10).length+(z.s 2).length<=1000000000/\(y5.s 10).length<=1000000) (.ct ((0:Int)<=z.i 14%18446744073709551616/\z.i 14%18446744073709551616<18446744073709551616) (fun y6=>y6.s 10=aI (z.i 14%v2).toNat) fun y6=>(let v5:=([Int.toNat (0:Int),v1.toNat]++y1.s 10++y2.s 10++y3.s 10++y4.s 10++z.s 2++y5.s 10++y6.s 10);(.an (([Int.toNat (0:Int),v1.toNat]++y1.s 10++y2.s 10++y3.s 10++y4.s 10++z.s 2++y5.s 10).length=2+(y1.s 10).length+(y2.s 10).length+(y3.s 10).length+(y4.s 10).length+(z.s 2).length+(y5.s 10).length/\2+(y1.s 10).length+(y2.s 10).length+(y3.s 10).length+(y4.s 10).length+(z.s 2).length+(y5.s 10).length<=1000000000/\(y6.s 10).length<=1000000) (.two (z.i 1=2) (.an (v5.length=2+(y1.s 10).length+(y2.s 10).length+(y3.s 10).length+(y4.s 10).length+(z.s 2).length+(y5.s 10).length+(y6.s 10).length/\2+(y1.s 10).length+(y2.s 10).length+(y3.s 10).length+(y4.s 10).length+(z.s 2).length+(y5.s 10).length+(y6.s 10).length<=1000000000/\bj (jb z 100)) (.an (([Int.toNat (0:Int),v1.toNat]++y1.s 10++y2.s 10++y3.s 10++y4.s 10++z.s 2++y5.s 10++y6.s 10++aO (jb z 100)).length=2+(y1.s 10).length+(y2.s 10).length+(y3.s 10).length+(y4.s 10).length+(z.s 2).length+(y5.s 10).length+(y6.s 10).length+32/\True) (.at (v0/\(cJ (z.i 1) (z.s 2) (z.i 3) (z.i 4) (z.i 5) (z.i 6) (z.i 7) (z.i 8) (z.s 9) (z.g 10) (z.g 11) v3 (z.p 12) (z.i 13) (z.i 14)=(0:Int)-> [Int.toNat (0:Int),v1.toNat]++y1.s 10++y2.s 10++y3.s 10++y4.s 10++z.s 2++y5.s 10++y6.s 10++aO (jb z 100)=0::cS (z.i 1) (z.s 2) (z.i 3) (z.i 4) (z.i 5) v3 (z.i 13) (z.i 14)))))) (.an (v5.length=2+(y1.s 10).length+(y2.s 10).length+(y3.s 10).length+(y4.s 10).length+(z.s 2).length+(y5.s 10).length+(y6.s 10).length/\True) (.at (v0/\(cJ (z.i 1) (z.s 2) (z.i 3) (z.i 4) (z.i 5) (z.i 6) (z.i 7) (z.i 8) (z.s 9) (z.g 10) (z.g 11) v3 (z.p 12) (z.i 13) (z.i 14)=(0:Int)-> [Int.toNat (0:Int),v1.toNat]++y1.s 10++y2.s 10++y3.s 10++y4.s 10++z.s 2++y5.s 10++y6.s 10=0::cS (z.i 1) (z.s 2) (z.i 3) (z.i 4) (z.i 5) v3 (z.i 13) (z.i 14))))))))))))))))))))))))):=by
 dsimp only [rG,en,hs,tX,sa,nY] at hA
 have b0:=br 0 0 0 [] [] []
 have b1:=br (z.i 6) (z.i 7) (z.i 8) (z.s 9) (z.g 10) (z.g 11)
 have i1:=@bU (z.s 2) (z.i 3) (z.i 4) (z.i 5) (z.i 7) (z.s 9) (z.g 10) (z.g 11) (hT z 100) (z.i 13) (z.i 14)
 have g1:=@vV (z.i 1) (z.s 2) (z.i 3) (z.i 4) (z.i 5) (hT z 100) (z.i 13) (z.i 14)
 have g2:=@ri (z.i 1) (z.s 2) (z.i 3) (z.i 4) (z.i 5) (hT z 100) (z.i 13) (z.i 14)
 have u3:=@bM (z.i 3)
 have u4:=@bM (z.i 4)
 have u5:=@bM (z.i 5)
 have u13:=@bM (z.i 13)
 have u14:=@bM (z.i 14)
 have u2:=@dV (z.s 2).length
 have u7:=co z 100
 have u8:=@aP z 100
 have u9:=bq z 100
 have t1:(((z.s 2).length:Nat):Int).toNat=(z.s 2).length:=Int.toNat_natCast _
 have f1:=@eT (z.i 1) (z.s 2) (z.i 3) (z.i 4) (z.i 5) (z.i 6) (z.i 7) (z.i 8) (z.s 9) (z.g 10) (z.g 11) (hT z 100) (z.p 12) (z.i 13) (z.i 14)
 have f2:=@eU (z.i 1) (z.s 2) (z.i 3) (z.i 4) (z.i 5) (z.i 6) (z.i 7) (z.i 8) (z.s 9) (z.g 10) (z.g 11) (hT z 100) (z.p 12) (z.i 13) (z.i 14)
 have f3:=@gq (z.i 1) (z.s 2) (z.i 3) (z.i 4) (z.i 5) (z.i 6) (z.i 7) (z.i 8) (z.s 9) (z.g 10) (z.g 11) (hT z 100) (z.p 12) (z.i 13) (z.i 14)
 have f4:=@iO (z.i 1) (z.s 2) (z.i 3) (z.i 4) (z.i 5) (z.i 6) (z.i 7) (z.i 8) (z.s 9) (z.g 10) (z.g 11) (hT z 100) (z.p 12) (z.i 13) (z.i 14)
 have f5:=@jP (z.i 1) (z.s 2) (z.i 3) (z.i 4) (z.i 5) (z.i 6) (z.i 7) (z.i 8) (z.s 9) (z.g 10) (z.g 11) (hT z 100) (z.p 12) (z.i 13) (z.i 14)
 have f6:=@cg (z.i 1) (z.s 2) (z.i 3) (z.i 4) (z.i 5) (z.i 6) (z.i 7) (z.i 8) (z.s 9) (z.g 10) (z.g 11) (hT z 100) (z.p 12) (z.i 13) (z.i 14)
 have m3:0<=z.i 3->z.i 3<9223372036854775808->(z.i 3%18446744073709551616).toNat=(z.i 3).toNat:=fun a b=>by omega
 have m4:0<=z.i 4->z.i 4<9223372036854775808->(z.i 4%18446744073709551616).toNat=(z.i 4).toNat:=fun a b=>by omega
 have m5:0<=z.i 5->z.i 5<9223372036854775808->(z.i 5%18446744073709551616).toNat=(z.i 5).toNat:=fun a b=>by omega
 have m13:0<=z.i 13->z.i 13<9223372036854775808->(z.i 13%18446744073709551616).toNat=(z.i 13).toNat:=fun a b=>by omega
 have m14:0<=z.i 14->z.i 14<9223372036854775808->(z.i 14%18446744073709551616).toNat=(z.i 14).toNat:=fun a b=>by omega
 have m2:(z.s 2).length<=1000000->(((z.s 2).length:Int)%18446744073709551616).toNat=(z.s 2).length:=fun h=>by omega
 have n1:=@jO (z.i 1) (z.s 2) (z.i 3) (z.i 4) (z.i 5) (lD z) (hT z 100=hZ) (z.p 12) (z.i 13) (z.i 14)
 conv=>zeta
 repeat' with_reducible first|intro _|apply aV|apply aZ|apply aT|apply bf|apply ba
 all_goals first|omega|grind [am,ai,ah,az,aA,aB,aC,aD,aE,aF,aG,aH,ao,List.append_assoc,bq,bM,dV]
theorem Hr:Ok Tryz.prog 68 rG:=bS 1000 mN (eK oP (eK hI eN)) lN (hn:=(hC 5 17)) CY
theorem CZ(p z:Sy)(hA:(rE p).inv z):Fm.den (let v0:=(aY Go.IntKind.i64);let v1:=((z.g 20).length=(z.g 20).length/\(z.g 20).length<=1000000000/\True);let v2:=(-9223372036854775808:Int);(.two ((1:Int)<z.i 2) (.an (v2<=z.i 2-1/\z.i 2-1<=9223372036854775807) (.ct ((0:Int)<=(z.i 2-1)%18446744073709551616/\(z.i 2-1)%18446744073709551616<18446744073709551616) (fun y0=>y0.i 10=cX ((z.i 2-1)%18446744073709551616)) fun y0=>(let v3:=(↑(2 ^ Min.min (Go.IntKind.i64.wrap (y0.i 10-1)).toNat v0):Int);let v9:=(z.i 2-Go.IntKind.i64.wrap (1 * v3));let v10:=(z.g 20++ [G.node [G.int (pI ((1:Int) * v3<=z.i 1))]]);let v11:=(2 ^ Min.min (y0.i 10-1).toNat v0);let v4:=(↑v11:Int);let v5:=(z.g 20++ [G.node [G.int (pI (Go.IntKind.i64.wrap (1 * v4)<=z.i 1))]]);let v7:=(z.g 20++ [G.node [G.int (pI (1 * v4<=z.i 1))]]);let v8:=(z.i 2-Go.IntKind.i64.wrap (1 * v4));let f8:=(z.i 1-Go.IntKind.i64.wrap (1 * v4));let g9:=(z.g 20++ [G.node [G.int (pI (Go.IntKind.i64.wrap (1 * v3)<=z.i 1))]]);let r9:=(z.g 20++ [G.node [G.int (pI (1 * v3<=z.i 1))]]);let o9:=(z.i 1-Go.IntKind.i64.wrap (1 * v3));let z':=((-9223372036854775808)<=z.i 2-Go.IntKind.i64.wrap (1 * v4)/\z.i 2-Go.IntKind.i64.wrap (1 * v4)<=9223372036854775807);let L':=(v10.length=(z.g 20).length+1/\True);let v20:=(v7.length=(z.g 20).length+1/\True);let Yk:=(v5.length=(z.g 20).length+1/\True);let Yx:=(v2<=z.i 2-Go.IntKind.i64.wrap (1 * v3)/\z.i 2-Go.IntKind.i64.wrap (1 * v3)<=9223372036854775807);let YE:=(Go.IntKind.i64.wrap v8);let YZ:=(Go.IntKind.i64.wrap v9);let Zg:=(z.i 1-1 * v4);let Z9:=((-9223372036854775808)<=z.i 2-1 * v4/\z.i 2-1 * ↑v11<=9223372036854775807);let Zy:=(z.i 2-1 * v3);let o6:=(Go.IntKind.i64.wrap Zy);let v30:=(z.i 2-1 * v4);let l7:=(Go.IntKind.i64.wrap v30);let v31:=(v2<=z.i 2-1 * v3/\z.i 2-1 * v3<=9223372036854775807);let v32:=(Go.IntKind.i64.wrap (1 * v4));let v33:=(z.i 1-1 * v3);let v34:=(z.i 1-(1:Int) * v3);let v35:=(Go.IntKind.i64.wrap (1 * v3));let Z_:=((1:Int) * v3);let v6:=(z.g 20++ [G.node [G.int (pI (Go.IntKind.i64.wrap Z_<=z.i 1))]]);let Xy:=(v6.length=(z.g 20).length+1/\True);let v28:=(z.i 1-Go.IntKind.i64.wrap Z_);(.two (v2<=y0.i 10-1/\y0.i 10-1<=9223372036854775807) (.an ((0:Int)<=y0.i 10-1) (.two ((-9223372036854775808)<=1 * v4/\1 * v4<=9223372036854775807) (.an v1 (.two (1 * v4<=z.i 1) (.two ((-9223372036854775808)<=z.i 1-1 * v4/\z.i 1-1 * ↑v11<=9223372036854775807) (.two Z9 (.an v20 (.at (((0<=z.i 1-1 * v4/\z.i 1-1 * ↑v11<z.i 2-1 * ↑v11)/\z.i 2-1 * ↑v11<=1099511627776/\v7.length+ja Zg v30<=1000)/\(z.i 2-1 * ↑v11).toNat<(z.i 2).toNat/\∀(y:Sy),fX Zg v30 v7 (y.g 20)->fX (z.i 1) (z.i 2) (z.g 20) (y.g 20)))) (.an v20 (.at (((0<=z.i 1-1 * v4/\z.i 1-1 * ↑v11<Go.IntKind.i64.wrap v30)/\Go.IntKind.i64.wrap v30<=1099511627776/\v7.length+ja Zg l7<=1000)/\l7.toNat<(z.i 2).toNat/\∀(y:Sy),fX Zg l7 v7 (y.g 20)->fX (z.i 1) (z.i 2) (z.g 20) (y.g 20))))) (.an (¬Z9) (.an v20 (.at (((0<=Go.IntKind.i64.wrap Zg/\Go.IntKind.i64.wrap Zg<Go.IntKind.i64.wrap v30)/\Go.IntKind.i64.wrap v30<=1099511627776/\v7.length+ja (Go.IntKind.i64.wrap Zg) l7<=1000)/\l7.toNat<(z.i 2).toNat/\∀(y:Sy),fX (Go.IntKind.i64.wrap Zg) l7 v7 (y.g 20)->fX (z.i 1) (z.i 2) (z.g 20) (y.g 20)))))) (.an v20 (.at ((((0:Int)<=z.i 1/\z.i 1<1 * ↑v11)/\1 * v4<=1099511627776/\v7.length+ja (z.i 1) (1 * v4)<=1000)/\(1 * v4).toNat<(z.i 2).toNat/\∀(y:Sy),fX (z.i 1) (1 * v4) v7 (y.g 20)->fX (z.i 1) (z.i 2) (z.g 20) (y.g 20)))))) (.an v1 (.two (Go.IntKind.i64.wrap (1 * v4)<=z.i 1) (.two ((-9223372036854775808)<=z.i 1-Go.IntKind.i64.wrap (1 * v4)/\z.i 1-Go.IntKind.i64.wrap (1 * v4)<=9223372036854775807) (.two z' (.an Yk (.at (((0<=z.i 1-Go.IntKind.i64.wrap (1 * v4)/\z.i 1-Go.IntKind.i64.wrap (1 * v4)<z.i 2-Go.IntKind.i64.wrap (1 * v4))/\z.i 2-Go.IntKind.i64.wrap (1 * v4)<=1099511627776/\v5.length+ja f8 v8<=1000)/\v8.toNat<(z.i 2).toNat/\∀(y:Sy),fX f8 v8 v5 (y.g 20)->fX (z.i 1) (z.i 2) (z.g 20) (y.g 20)))) (.an Yk (.at (((0<=z.i 1-Go.IntKind.i64.wrap (1 * v4)/\z.i 1-Go.IntKind.i64.wrap (1 * v4)<Go.IntKind.i64.wrap v8)/\Go.IntKind.i64.wrap v8<=1099511627776/\v5.length+ja f8 YE<=1000)/\YE.toNat<(z.i 2).toNat/\∀(y:Sy),fX f8 YE v5 (y.g 20)->fX (z.i 1) (z.i 2) (z.g 20) (y.g 20))))) (.an (¬z') (.an Yk (.at (((0<=Go.IntKind.i64.wrap f8/\Go.IntKind.i64.wrap f8<Go.IntKind.i64.wrap v8)/\Go.IntKind.i64.wrap v8<=1099511627776/\v5.length+ja (Go.IntKind.i64.wrap f8) YE<=1000)/\YE.toNat<(z.i 2).toNat/\∀(y:Sy),fX (Go.IntKind.i64.wrap f8) YE v5 (y.g 20)->fX (z.i 1) (z.i 2) (z.g 20) (y.g 20)))))) (.an Yk (.at ((((0:Int)<=z.i 1/\z.i 1<Go.IntKind.i64.wrap (1 * v4))/\Go.IntKind.i64.wrap (1 * v4)<=1099511627776/\v5.length+ja (z.i 1) v32<=1000)/\v32.toNat<(z.i 2).toNat/\∀(y:Sy),fX (z.i 1) v32 v5 (y.g 20)->fX (z.i 1) (z.i 2) (z.g 20) (y.g 20)))))))) (.an ((0:Int)<=Go.IntKind.i64.wrap (y0.i 10-1)) (.two (v2<=1 * v3/\(1:Int) * v3<=9223372036854775807) (.an v1 (.two ((1:Int) * v3<=z.i 1) (.two (v2<=z.i 1-1 * v3/\z.i 1-1 * v3<=9223372036854775807) (.two v31 (.an L' (.at ((((0:Int)<=z.i 1-1 * v3/\z.i 1-1 * v3<z.i 2-1 * v3)/\z.i 2-1 * v3<=1099511627776/\v10.length+ja v33 Zy<=1000)/\Zy.toNat<(z.i 2).toNat/\∀(y:Sy),fX v34 Zy r9 (y.g 20)->fX (z.i 1) (z.i 2) (z.g 20) (y.g 20)))) (.an L' (.at ((((0:Int)<=z.i 1-1 * v3/\z.i 1-1 * v3<Go.IntKind.i64.wrap Zy)/\Go.IntKind.i64.wrap Zy<=1099511627776/\v10.length+ja v33 o6<=1000)/\o6.toNat<(z.i 2).toNat/\∀(y:Sy),fX v34 o6 r9 (y.g 20)->fX (z.i 1) (z.i 2) (z.g 20) (y.g 20))))) (.an (¬v31) (.an L' (.at ((((0:Int)<=Go.IntKind.i64.wrap v33/\Go.IntKind.i64.wrap v33<Go.IntKind.i64.wrap Zy)/\Go.IntKind.i64.wrap Zy<=1099511627776/\v10.length+ja (Go.IntKind.i64.wrap v33) o6<=1000)/\o6.toNat<(z.i 2).toNat/\∀(y:Sy),fX (Go.IntKind.i64.wrap v34) o6 r9 (y.g 20)->fX (z.i 1) (z.i 2) (z.g 20) (y.g 20)))))) (.an L' (.at ((((0:Int)<=z.i 1/\z.i 1<1 * v3)/\(1:Int) * v3<=1099511627776/\v10.length+ja (z.i 1) (1 * v3)<=1000)/\Z_.toNat<(z.i 2).toNat/\∀(y:Sy),fX (z.i 1) Z_ r9 (y.g 20)->fX (z.i 1) (z.i 2) (z.g 20) (y.g 20)))))) (.an v1 (.two (Go.IntKind.i64.wrap (1 * v3)<=z.i 1) (.two (v2<=z.i 1-Go.IntKind.i64.wrap (1 * v3)/\z.i 1-Go.IntKind.i64.wrap (1 * v3)<=9223372036854775807) (.two Yx (.an Xy (.at ((((0:Int)<=z.i 1-Go.IntKind.i64.wrap (1 * v3)/\z.i 1-Go.IntKind.i64.wrap (1 * v3)<z.i 2-Go.IntKind.i64.wrap (1 * v3))/\z.i 2-Go.IntKind.i64.wrap (1 * v3)<=1099511627776/\v6.length+ja o9 v9<=1000)/\v9.toNat<(z.i 2).toNat/\∀(y:Sy),fX v28 v9 g9 (y.g 20)->fX (z.i 1) (z.i 2) (z.g 20) (y.g 20)))) (.an Xy (.at ((((0:Int)<=z.i 1-Go.IntKind.i64.wrap (1 * v3)/\z.i 1-Go.IntKind.i64.wrap (1 * v3)<Go.IntKind.i64.wrap v9)/\Go.IntKind.i64.wrap v9<=1099511627776/\v6.length+ja o9 YZ<=1000)/\YZ.toNat<(z.i 2).toNat/\∀(y:Sy),fX v28 YZ g9 (y.g 20)->fX (z.i 1) (z.i 2) (z.g 20) (y.g 20))))) (.an (¬Yx) (.an Xy (.at ((((0:Int)<=Go.IntKind.i64.wrap o9/\Go.IntKind.i64.wrap o9<Go.IntKind.i64.wrap v9)/\Go.IntKind.i64.wrap v9<=1099511627776/\v6.length+ja (Go.IntKind.i64.wrap o9) YZ<=1000)/\YZ.toNat<(z.i 2).toNat/\∀(y:Sy),fX (Go.IntKind.i64.wrap v28) YZ g9 (y.g 20)->fX (z.i 1) (z.i 2) (z.g 20) (y.g 20)))))) (.an Xy (.at ((((0:Int)<=z.i 1/\z.i 1<Go.IntKind.i64.wrap (1 * v3))/\Go.IntKind.i64.wrap (1 * v3)<=1099511627776/\v6.length+ja (z.i 1) v35<=1000)/\v35.toNat<(z.i 2).toNat/\∀(y:Sy),fX (z.i 1) (Go.IntKind.i64.wrap Z_) g9 (y.g 20)->fX (z.i 1) (z.i 2) (z.g 20) (y.g 20)))))))))))) (.an ((z.g 20).length=(z.g 20).length/\True) (.at (fX (z.i 1) (z.i 2) (z.g 20) (z.g 20)))))):=by
 dsimp only [rE,Ue] at hA
 have b1:=@CW (z.i 2) ((z.i 2-1)%18446744073709551616) rfl
 have b2:=@lH (z.i 2)
 have s1:=@Me (z.i 1) (z.i 2) (1 * (↑(2 ^ Min.min (cX ((z.i 2-1)%18446744073709551616)-1).toNat (aY Go.IntKind.i64)):Int))
 have s2:=(fun e=>fun r h hk=>@Md (z.i 1) (z.i 2) e (z.g 20) r (e<=z.i 1) h hk Iff.rfl) (1 * (↑(2 ^ Min.min (cX ((z.i 2-1)%18446744073709551616)-1).toNat (aY Go.IntKind.i64)):Int))
 have s3:=@PG (z.i 1) (z.i 2) (z.g 20)
 conv=>zeta
 repeat' with_reducible first|intro _|apply aV|apply aZ|apply aT|apply bf|apply ba
 all_goals first|omega|grind [am,ai,ah,az,aA,aB,aC,aD,aE,aF,aG,aH,ao]
theorem Hs:dU Tryz.prog 141 0 rE:=bH 1000 mN (eK E7 eN) lN (hn:=(hC 38 891510157746507617625)) CZ
theorem C0(p z:Sy)(hA:(rF p).inv z):Fm.den (let v0:=(G.node [G.int (pI (gI (aa (aq (z.g 20) (z.i 1).toNat) 0)=1))]);let v1:=((z.g 20).set (z.i 1).toNat (G.node [G.int (pI (gI (aa (aq (z.g 20) (z.i 2).toNat) 0)=1))]));let v2:=(((z.g 20).set (z.i 1).toNat (G.node [G.int (pI (gI (aa (aq (z.g 20) (z.i 2).toNat) 0)=(1:Int)))])).set (z.i 2).toNat v0);let v3:=((0:Int)<=z.i 2/\z.i 2 < ↑(z.g 20).length);let v4:=((0:Int)<=z.i 1/\z.i 1 < ↑(z.g 20).length);let v5:=(-9223372036854775808:Int);(.two (z.i 1<z.i 2) (.an v3 (.an ((z.i 2).toNat<(z.g 20).length) (.an v4 (.an ((z.i 1).toNat<(z.g 20).length) (.an v4 (.an ((z.i 1).toNat<(z.g 20).length/\True) (.an v3 (.an ((z.i 2).toNat<v1.length/\True) (.an (v5<=z.i 1+1/\z.i 1+1<=9223372036854775807) (.an (v5<=z.i 2-1/\z.i 2-1<=9223372036854775807) (.an (v2.length=(z.g 20).length/\True) (.at ((((0:Int)<=z.i 1+1/\z.i 1+1<=z.i 2-1+1)/\z.i 1+1+(z.i 2-1)+1=(↑(v1.set (z.i 2).toNat v0).length:Int)/\v2.length<=1000)/\(z.i 2-1-(z.i 1+1)).toNat<(z.i 2-z.i 1).toNat/\∀(y:Sy),Mh (z.i 1+(1:Int)) (z.i 2-1) (v1.set (z.i 2).toNat v0) (y.g 20)->Mh (z.i 1) (z.i 2) (z.g 20) (y.g 20)))))))))))))) (.an ((z.g 20).length=(z.g 20).length/\True) (.at (Mh (z.i 1) (z.i 2) (z.g 20) (z.g 20)))))):=by
 dsimp only [rF,Ue] at hA
 have a1:=@PJ (z.i 1) (z.i 2) (z.g 20)
 have a2:=@Mi (z.i 1) (z.i 2) (z.g 20)
 conv=>zeta
 repeat' with_reducible first|intro _|apply aV|apply aZ|apply aT|apply bf|apply ba
 all_goals first|omega|grind [am,ai,ah,az,aA,aB,aC,aD,aE,aF,aG,aH,ao]
theorem Ht:dU Tryz.prog 141 2 rF:=bH 1000 mN eN lN (hn:=(hC 5 41)) C0
theorem Mk(z:Sy)(hA:CX.pre z):Fm.den ((.cl ((0=0/\True)) (((0:Int)<=z.i 1/\z.i 1<z.i 2)/\z.i 2<=1099511627776/\0+ja (z.i 1) (z.i 2)<=1000) (fun y0=>fX (z.i 1) (z.i 2) [] (y0.g 20)) fun y0=>(let v0:=(↑(y0.g 20).length:Int);let v1:=(((y0.g 20).length=(y0.g 20).length/\True));(.two ((-9223372036854775808)<=v0-1/\v0-1<=9223372036854775807) (.cl v1 (((0:Int)<=0/\0<=v0-1+1)/\0+(v0-1)+1=v0/\(y0.g 20).length<=1000) (fun y1=>Mh 0 (v0-1) (y0.g 20) (y1.g 20)) fun y1=>(.an ((y1.g 20).length=(y1.g 20).length/\True) (.at (pz (y1.g 20)=(cr (z.i 1) (z.i 2)).reverse/\(y1.g 20).length=ja (z.i 1) (z.i 2))))) (.cl v1 (((0:Int)<=0/\0<=Go.IntKind.i64.wrap (v0-1)+1)/\0+Go.IntKind.i64.wrap (v0-1)+1=v0/\(y0.g 20).length<=1000) (fun y2=>Mh 0 (Go.IntKind.i64.wrap (v0-1)) (y0.g 20) (y2.g 20)) fun y2=>(.an ((y2.g 20).length=(y2.g 20).length/\True) (.at (pz (y2.g 20)=(cr (z.i 1) (z.i 2)).reverse/\(y2.g 20).length=ja (z.i 1) (z.i 2))))))))):=by
 dsimp only [CX] at hA
 have a1:=@PK (z.i 1) (z.i 2)
 have a2:=@Fc (z.i 1) (z.i 2) []
 have a3:=@wI (z.i 1) (z.i 2)
 conv=>zeta
 repeat' with_reducible first|intro _|apply aV|apply aZ|apply aT|apply bf|apply ba
 all_goals first|omega|grind [am,ai,ah,az,aA,aB,aC,aD,aE,aF,aG,aH,ao]
theorem PN:Ok Tryz.prog 141 CX:=bS 1000 mN eN (eL (ptm:=[]) Hs (eL (ptm:=[]) Ht lN)) (hn:=(.both .nil .nil)) Mk
theorem S_(z:Sy)(hA:Vc.pre z):Fm.den (let v0:=((1:Int)::(jb z 100++jb z 200));(.an (bj v0) (.an (65=65) (.ct (65<=1000000000) (fun y0=>True) fun y0=>(.an (bj v0/\True) (.at (aO v0=1::(hB (hT z 100)++hB (hT z 200))/\hG (fS (aO v0))=bb (hT z 100) (hT z 200)))))))):=by
 have hB:True/\HOk (hT z 100)/\HOk (hT z 200):=⟨trivial,hA⟩
 conv=>zeta
 repeat' with_reducible first|intro _|apply aV|apply aZ|apply aT|apply bf|apply ba
 all_goals first|omega|((try simp only [←eH,cf,du,bq,cW,cw,dv,B5,B6,B7,List.cons_append,List.nil_append,List.append_assoc,oO,kP,iK,List.length_append,List.length_cons,List.length_nil,bP,iI,iJ,co,eJ]) <;> (repeat' first|rfl|trivial|refine And.intro ?_ ?_) <;> first|omega|exact aP hB.2.1|exact aP hB.2.2|exact aP (by assumption)|exact dD (by assumption))|grind [am,ai,ah,az,aA,aB,aC,aD,aE,aF,aG,aH,ao]
theorem Rc:Ok Tryz.prog 73 Vc:=bS 1000 mN (lK tJ eN) lN (hn:=.nil) S_
theorem AC(p z:Sy)(hA:(oi p).inv z):Fm.den (let v0:=(hX (aa (aq (p.g 3) (z.i 9).toNat) 0));let v1:=(↑(p.g 4).length:Int);let v2:=((-9223372036854775808:Int)<=z.i 9+1/\z.i 9+1<=9223372036854775807);let v3:=((z.g 30).length=(z.g 30).length/\(z.g 30).length<=1000000000/\True);let v4:=(hT z 100);let v5:=((0:Int)<=z.i 9+1/\z.i 9+1<= ↑(p.g 4).length);let v6:=((0:Int)<=z.i 9/\z.i 9 < ↑(p.g 3).length);(.two (z.i 9 < ↑(p.g 4).length) (.an ((0:Int)<=z.i 9/\z.i 9 < ↑(p.g 4).length) (.an v6 (.ct (HOk v4/\HOk v0) (fun y0=>y0.s 10=1::(hB v4++hB v0)/\hT y0 300=bb v4 v0) fun y0=>(let v7:=(z.g 30++ [G.node [G.str (y0.s 10),hT y0 300]]);(.two (gI (aa (aq (p.g 4) (z.i 9).toNat) 0)=1) (.an v6 (.ct (HOk v0/\HOk v4) (fun y1=>y1.s 10=1::(hB v0++hB v4)/\hT y1 300=bb v0 v4) fun y1=>(let v8:=(z.g 30++ [G.node [G.str (y1.s 10),hT y1 300]]);(.an v3 (.an v2 (.an (v8.length=(z.g 30).length+1/\p.g 3=p.g 3/\v1=v1/\p.g 4=p.g 4/\True) (.at ((HOk (hT y1 300)/\RowsOk (p.g 3)/\v5/\(p.g 4).length=(p.g 3).length/\(p.g 4).length<=1000/\(↑v8.length:Int)<=z.i 9+1)/\(v1-(z.i 9+1)).toNat<(v1-z.i 9).toNat/\∀(y:Sy),wJ (z.i 9+(1:Int)) (hT y1 300) (p.g 4) (p.g 3) v8 (y.g 30)->wJ (z.i 9) v4 (p.g 4) (p.g 3) (z.g 30) (y.g 30))))))))) (.an v3 (.an v2 (.an (v7.length=(z.g 30).length+1/\p.g 3=p.g 3/\v1=v1/\p.g 4=p.g 4/\True) (.at ((HOk (hT y0 300)/\RowsOk (p.g 3)/\v5/\(p.g 4).length=(p.g 3).length/\(p.g 4).length<=1000/\(↑v7.length:Int)<=z.i 9+1)/\(v1-(z.i 9+1)).toNat<(v1-z.i 9).toNat/\∀(y:Sy),wJ (z.i 9+(1:Int)) (hT y0 300) (p.g 4) (p.g 3) v7 (y.g 30)->wJ (z.i 9) v4 (p.g 4) (p.g 3) (z.g 30) (y.g 30))))))))))) (.an ((z.g 30).length=(z.g 30).length/\p.g 3=p.g 3/\True) (.at (wJ (z.i 9) v4 (p.g 4) (p.g 3) (z.g 30) (z.g 30)))))):=by
 dsimp only [oi,WP,hs] at hA
 have a1:=fun h h0 hi=>@RowsOk.at (p.g 3) h (z.i 9) h0 hi
 have a2:=@PL (z.i 9) (hT z 100) (p.g 4) (p.g 3) (z.g 30)
 have a3:=fun r h0 hi hp=>@Mj (z.i 9) (hT z 100) (hX (aa (aq (p.g 3) (z.i 9).toNat) 0)) (p.g 4) (p.g 3) (z.g 30) r h0 hi hp rfl
 conv=>zeta
 repeat' with_reducible first|intro _|apply aV|apply aZ|apply aT|apply bf|apply ba
 all_goals first|omega|grind [am,ai,ah,az,aA,aB,aC,aD,aE,aF,aG,aH,ao,bR]
theorem C1:dU Tryz.prog 71 0 oi:=bH 1000 mN (eK Rc eN) lN (hn:=(hC 7 549)) AC
theorem Hu(z:Sy)(hA:wL.pre z):Fm.den (let v0:=((false=true↔ij (z.i 1) (z.i 2) (z.g 3))/\0<=40/\(ij (z.i 1) (z.i 2) (z.g 3)-> []=ig (hT z 100) (cr (z.i 1) (z.i 2)).reverse (z.g 3)));(.two (z.i 1<0) (.ax v0) (.two (z.i 2<=z.i 1) (.ax v0) (.two ((1099511627776:Int)<z.i 2) (.ax v0) (.ct (((0:Int)<=z.i 1/\z.i 1<z.i 2)/\z.i 2<=1099511627776) (fun y0=>pz (y0.g 10)=(cr (z.i 1) (z.i 2)).reverse/\(y0.g 10).length=ja (z.i 1) (z.i 2)) fun y0=>(let v1:=(↑(y0.g 10).length:Int);(.two (v1≠(↑(z.g 3).length:Int)) (.ax v0) (.cl ((0=0/\z.g 3=z.g 3/\v1=v1/\y0.g 10=y0.g 10/\True)) (HOk (hT z 100)/\RowsOk (z.g 3)/\((0:Int)<=0/\0<=v1)/\(y0.g 10).length=(z.g 3).length/\(y0.g 10).length<=1000/\(↑0:Int)<=0) (fun y1=>wJ (0:Int) (hT z 100) (y0.g 10) (z.g 3) [] (y1.g 30)) fun y1=>(.an ((y1.g 30).length=(y1.g 30).length/\True) (.at ((true=true↔ij (z.i 1) (z.i 2) (z.g 3))/\(y1.g 30).length<=40/\(ij (z.i 1) (z.i 2) (z.g 3)->y1.g 30=ig (hT z 100) (cr (z.i 1) (z.i 2)).reverse (z.g 3))))))))))))):=by
 dsimp only [wL,hs] at hA
 have a1:=fun S r hc hs=>@S9 (z.i 1) (z.i 2) (hT z 100) S (z.g 3) r hc hs
 have a2:=fun S r hc=>@PM (hT z 100) S (z.g 3) r hc
 have a3:=@wI (z.i 1) (z.i 2)
 conv=>zeta
 repeat' with_reducible first|intro _|apply aV|apply aZ|apply aT|apply bf|apply ba
 all_goals first|omega|grind [am,ai,ah,az,aA,aB,aC,aD,aE,aF,aG,aH,ao]
theorem Ml:Ok Tryz.prog 71 wL:=bS 1000 mN (eK PN eN) (eL (ptm:=[(3,.ag [.v 6 3]),(35,.c (.v 4 4))]) C1 lN) (hn:=(hC 9 4369)) Hu
noncomputable section
def hsR:Nat->Nat->List Sh
 |0,_=>[]
 |n+1,t=>.i .u8 t::hsR n (t+1)
def abJ:Nat->List Int->List (Nat×Tm)->List (Nat×Tm)
 |_,[],l=>l
 |t,n::ns,l=>abJ (t+1) ns ((t,.i n)::l)
theorem abL{H:T ABlk}:∀(ns:List Int) (avs:List AV) (s s':PS),mt H [] (ns.map fun n=>.pi .u8 n) avs s=some s'->s'.pr->All2 (fun a n=>cz a=some (.u8,n)) avs ns/\s.pr/\s'.tm=s.tm/\s'.loc=s.loc/\s'.ln=s.ln/\s'.fz=s.fz
 | [],[],s,s',h,hp=>by injection h with h;subst h;exact⟨trivial,hp,rfl,rfl,rfl,rfl⟩
 | [],_::_,s,s',h,hp=>by cases h
 |n::ns,[],s,s',h,hp=>by cases h
 |n::ns,a::avs,s,s',h,hp=>by
  obtain⟨s1,h1,h2⟩:=aN (show bz (tj H [] (.pi .u8 n) a s) (fun s=>mt H [] (ns.map fun n=>.pi .u8 n) avs s)=some s' from h)
  obtain⟨q1,q2,q3,q4,q5,q6⟩:=abL ns avs s1 s' h2 hp
  have h1:(match cz a with|some (k',n')=>ac (decide (IntKind.u8=k')) (s.must (n'=n)) none|none=>none)=some s1:=h1
  split at h1
  ·rename_i k' n' hn
   obtain⟨hk,h1⟩:=bh h1
   have hk:=of_decide_eq_true hk
   injection h1 with h1
   subst h1
   cases s with
   |mk tm loc ln pr fz=>
   obtain⟨e,Z8⟩:n'=n/\pr:=q2
   subst hk;subst e
   exact⟨⟨hn,q1⟩,Z8,q3,q4,q5,q6⟩
  ·cases h1
theorem abK{H:T ABlk}:∀(ns:List Int) (avs:List AV) (t:Nat) (tm:List (Nat×Tm)),All2 (fun a n=>cz a=some (.u8,n)) avs ns->(∀j,t<=j->bA j tm=none)->mt H [] (hsR ns.length t) avs ⟨tm,[],[],True,[]⟩=some ⟨abJ t ns tm,[],[],True,[]⟩
 | [],[],t,tm,h,hf=>rfl
 |n::ns,a::avs,t,tm,⟨h1,h2⟩,hf=>by
  have ht:bA t tm=none:=hf t (aaa _)
  have e:tj H [] (.i .u8 t) a ⟨tm,[],[],True,[]⟩=some ⟨(t,.i n)::tm,[],[],True,[]⟩:=by
   show(match cz a with|some (k',n)=>ac (decide (IntKind.u8=k')) (PS.add ⟨tm,[],[],True,[]⟩ t (.i n)) none|none=>none)=_
   rw[h1]
   show PS.add ⟨tm,[],[],True,[]⟩ t (.i n)=_
   unfold PS.add
   simp only [ht]
  show bz (tj H [] (.i .u8 t) a ⟨tm,[],[],True,[]⟩) (fun s=>mt H [] (hsR ns.length (t+1)) avs s)=_
  rw[e]
  exact abK ns avs (t+1) _ h2 fun j hj=>by
   rw[dq,if_neg (by show ¬t=j;omega)]
   exact hf j (by omega)
 | [],_::_,_,_,h,_=>h.elim
 |_::_,[],_,_,h,_=>h.elim
def abM:FSpec:={args:=[.c (.vb 1)],blk:=[],pre:=fun z=>(z.s 1).length<=1000000000,res:=fun z=>.one (.ag (hs 300)),out:=fun _=>[],post:=fun z y=>hT y 300=bT (z.s 1)}
def hbI(v:V8):List Int:=(List.range 32).map (hb v)
theorem tm_hT(v:V8):hT (aX (abJ 300 (hbI v) [])) 300=hG v:=by
 rfl
theorem abN(h:Ok Tryz.prog 69 Sg):Ok Tryz.prog 69 abM:=by
 obtain⟨zf,h⟩:=h
 refine⟨fun z=>⟨aX (abJ 300 (hbI (fS (z.s 1))) []),fun _=>show hT (aX (abJ 300 (hbI (fS (z.s 1))) [])) 300=bT (z.s 1) by rw[tm_hT];unfold bT;rfl⟩,fun z hz w ρ vs hG hl=>?_⟩
 obtain⟨h1,h2⟩:=h z hz w ρ vs hG hl
 refine⟨h1,h2.mono fun e w' he=>?_⟩
 obtain⟨v,ρ',H',a,s,e1,e2,e3,e4,e5,e6,e7⟩:=he
 obtain⟨s1,q1,q2⟩:=aN e5
 obtain⟨s2,r2,q3⟩:=aN q2
 obtain⟨s3,r3,q4⟩:=aN q3
 obtain⟨s4,r4,q5⟩:=aN q4
 obtain⟨_,q6⟩:=bh q5
 obtain⟨_,q7⟩:=bh q6
 injection q7 with q7
 subst q7
 have hp:s1.pr:=((u_ r2).1.trans ((vg (ρ:=ρ') r3).1.trans (eS r4).1)).pr e6
 clear q2 q3 q4 q5 q6 r2 r3 r4 e5 e6 e7
 cases a with
 |agg avs=>
  obtain⟨p1,_⟩:=abL (hbI (fS (z.s 1))) avs iZ s1 q1 hp
  have p2:=abK (H:=H') (hbI (fS (z.s 1))) avs 300 [] p1 (fun _ _=>rfl)
  refine⟨v,ρ',H',.agg avs,⟨abJ 300 (hbI (fS (z.s 1))) [],[],[],True,[]⟩,e1,e2,e3,e4, ?_,trivial,rfl⟩
  have p2:JN H' [] (.one (.ag (hs 300))) (.agg avs) iZ=_:=p2
  show bz (JN H' [] (.one (.ag (hs 300))) (.agg avs) iZ) _=_
  rw[p2]
  rfl
 |_=>cases q1
def NL(l:List G):G:=hX (aa (aq l ((l.length:Int)-1).toNat) 1)
theorem wM(l:List G)(r:G)(m:List G):NL (l++(r::m))=NL (r::m):=by
 unfold NL aq
 rw[aag,aag]
 congr 3
 rw[aaA (by simp;omega)]
 congr 1
 simp;omega
theorem wN(b:List Nat){h:G}(hh:HOk h):NL [.node [.str b,h]]=h:=cZ hh
theorem Fe(s:Prop)(h x:G):HOk (j2 s h x):=by
 unfold j2
 split
 ·exact bR _ _
 ·exact bR _ _
theorem Mm:∀(ss:List Prop) (ps:List G) (h:G) (b:List Nat),HOk h->NL (.node [.str b,h]::ig h ss ps)=sC h ss ps
 | [],_,h,b,hh=>by
  simp only [ig,sC];exact wN b hh
 |_::_,[],h,b,hh=>by
  simp only [ig,sC];exact wN b hh
 |s::ss,r::ps,h,b,hh=>by
  simp only [ig,sC]
  rw[←Mm ss ps _ (jB s h (hX (aa r 0))) (Fe _ _ _)]
  exact wM [_] _ _
def ug(h:G)(i n:Int)(p:List G):G:=(ga h i n p).1
theorem rH{h:G}{i n:Int}{p:List G}(hh:HOk h):HOk (ug h i n p):=by
 have key:∀(m:Nat) (i n:Int) (p:List G),n.toNat<=m->HOk (ga h i n p).1:=by
  intro m
  induction m with
  |zero=>intro i n p hm;rw[kx (by omega)];exact hh
  |succ m ih=>
   intro i n p hm
   by_cases h2:2<=n
   ·by_cases hp:p.length=0
    ·rw[wl h2 hp];exact fT
    ·by_cases hi:i<(bI n.toNat:Nat)
     ·rw[wm h2 hp hi];exact bR _ _
     ·rw[wn h2 hp hi];exact bR _ _
   ·rw[kx h2];exact hh
 exact key _ _ _ _ (aaa _)
theorem rI{h:G}{i n:Int}{p:List G}(hc:ij i n p):ug h i n p=sC h (cr i n).reverse p:=by
 unfold ij ja at hc
 exact(Mc _ h i n p (aaa _)).2 hc.2.2
theorem Rd{h:G}{i n:Int}{p:List G}:(ga h i n p).2↔p.length=ja i n:=by
 unfold ja
 exact(Mc _ h i n p (aaa _)).1
theorem Mn{h:G}{i n:Int}{p:List G}(l:List G)(b:List Nat)(hc:ij i n p)(hh:HOk h):NL (l++(.node [.str b,h]::ig h (cr i n).reverse p))=ug h i n p:=by
 rw[wM,Mm _ _ _ _ hh,rI hc]
def AD(lh:G)(ae c:Int)(ip:List G):G:=cy (ug lh ae c ip) (aI c.toNat)
def rJ(lh hd:G)(ae c:Int)(ip:List G):G:=bb hd (AD lh ae c ip)
def cU(er:Int)(lh hd:G)(ab ae c n:Int)(ip op:List G)(r:G):Prop:=er=0/\(1<=c/\c<=200)/\ij ae c ip/\ij ab n op/\ug (rJ lh hd ae c ip) ab n op=r
def Hv(er:Int)(ab ae c n:Int)(ip op:List G):Prop:=er=0/\(1<=c/\c<=200)/\ij ae c ip/\ij ab n op
def oQ(e:List Nat)(lh hd:G)(ab ae c n:Int)(ip op:List G):List G:=
 [.node [.str (0::e),lh]]++ig lh (cr ae c).reverse ip++ [.node [.str (2::(hB (ug lh ae c ip)++aI c.toNat)),AD lh ae c ip]]++ [.node [.str (1::(hB hd++hB (AD lh ae c ip))),rJ lh hd ae c ip]]++ig (rJ lh hd ae c ip) (cr ab n).reverse op
theorem mW(er:Int)(ab ae c n:Int)(ip op:List G):Hv er ab ae c n ip op↔er=0/\(1<=c/\c<=200)/\ij ae c ip/\ij ab n op:=Iff.rfl
theorem fY(er:Int)(lh hd:G)(ab ae c n:Int)(ip op:List G)(r:G):cU er lh hd ab ae c n ip op r↔Hv er ab ae c n ip op/\ug (rJ lh hd ae c ip) ab n op=r:=⟨fun⟨a,b,c,d,e⟩=>⟨⟨a,b,c,d⟩,e⟩,fun⟨⟨a,b,c,d⟩,e⟩=>⟨a,b,c,d,e⟩⟩
theorem jV(e:List Nat)(lh hd:G)(ab ae c n:Int)(ip op:List G):oQ e lh hd ab ae c n ip op=
 [.node [.str (0::e),lh]]++ig lh (cr ae c).reverse ip++ [.node [.str (2::(hB (ug lh ae c ip)++aI c.toNat)),AD lh ae c ip]]++ [.node [.str (1::(hB hd++hB (AD lh ae c ip))),rJ lh hd ae c ip]]++ig (rJ lh hd ae c ip) (cr ab n).reverse op:=rfl
theorem wO(lh:G)(ae c:Int)(ip:List G):AD lh ae c ip=cy (ug lh ae c ip) (aI c.toNat):=rfl
theorem wP(lh hd:G)(ae c:Int)(ip:List G):rJ lh hd ae c ip=bb hd (AD lh ae c ip):=rfl
theorem lL(lh hd:G)(ae c:Int)(ip:List G):HOk (rJ lh hd ae c ip):=bR _ _
theorem ol(lh:G)(ae c:Int)(ip:List G):HOk (AD lh ae c ip):=ia _ _
theorem AE{er:Int}{e:List Nat}{lh hd:G}{ab ae c n:Int}{ip op:List G}(h:Hv er ab ae c n ip op):NL (oQ e lh hd ab ae c n ip op)=ug (rJ lh hd ae c ip) ab n op/\3<=(oQ e lh hd ab ae c n ip op).length/\(oQ e lh hd ab ae c n ip op).length<=100:=by
 obtain⟨_,hc,h1,h2⟩:=h
 refine⟨?_, ?_, ?_⟩
 ·rw[jV,aau,aby]
  exact Mn _ _ h2 (lL _ _ _ _ _)
 ·rw[jV];simp only [aai,aaI];omega
 ·have a1:=wI (i:=ae) (n:=c) h1.2.1
  have a2:=wI (i:=ab) (n:=n) h2.2.1
  have b1:=h1.2.2
  have b2:=h2.2.2
  rw[jV];simp only [aai,aaI,wK];omega
theorem WQ{b:List Nat}{h:G}{r:List G}{i n:Int}{p:List G}(hh:HOk h)(hc:ij i n p)(hr:r=ig h (cr i n).reverse p):hX (aa (aq ([.node [.str b,h]]++r) (((1+r.length:Nat):Int)-1).toNat) 1)=ug h i n p:=by
 have:=Mn (h:=h) (i:=i) (n:=n) (p:=p) [] b hc hh
 rw[aa1, ←hr] at this
 rw[←this]
 unfold NL
 simp only [aby,aao,Nat.add_comm]
theorem WR{A:List G}{s:List Nat}{h:G}{m:Nat}(hh:HOk h)(hl:A.length=m):hX (aa (aq (A++ [.node [.str s,h]]) (((m+1:Nat):Int)-1).toNat) 1)=h:=by
 have:=wM A (.node [.str s,h]) []
 rw[wN s hh] at this
 conv=>rhs;rw[←this]
 unfold NL
 rw[aai,hl];rfl
theorem Ta{g a:G}{s:List Nat}(hg:HOk (hX g))(ha:hX g=a):bT (aO (2::GQ g)++s)=cy a s/\aO (2::GQ g)++s=2::(hB a++s)/\bj (2::GQ g):=by
 have e:aO (2::GQ g)++s=2::(hB a++s):=by
  rw[cf,cW,ha];rfl
 refine⟨?_,e, ?_⟩
 ·rw[e];exact(lz _).symm.trans (iK a s)
 ·rw[cw];exact⟨by decide,dD hg⟩
theorem WS(g:G)(s:List Nat):(aO (2::GQ g)++s).length=33+s.length:=by rw[cf,cW];simp only [aai,aao,eJ]
theorem Re(s:List Nat):bT (0::s)=aJ s:=(lz _).symm.trans (oO s)
def rv:List Sh:=[.i .i64 61,.i .i64 62]++en++hs 400++ [.v 6 63]++ [.i .i64 64]++ [.v 6 65]
def dg(t u:Nat):List Sh:=[.i .i64 t]++hs u
def wQ(z:Sy):Prop:=tX z/\HOk (hT z 400)/\RowsOk (z.g 63)/\(z.g 63).length<=1000000/\RowsOk (z.g 65)/\(z.g 65).length<=1000000
def C2:FSpec:={args:=[.ag rv,.c (.i .i64 66)],blk:=[],pre:=wQ,res:=fun _=>.tu [.c (.v 15 30),.c (.b 40)],out:=fun _=>[],post:=fun z y=>(y.p 40↔Hv (sa z) (z.i 61) (z.i 62) (z.i 64) (z.i 66) (z.g 63) (z.g 65))/\(y.p 40->y.g 30=oQ (nY z) (aJ (nY z)) (hT z 400) (z.i 61) (z.i 62) (z.i 64) (z.i 66) (z.g 63) (z.g 65))}
attribute [irreducible] Hv cU oQ AD rJ ug
def AF:FSpec:={args:=[.ag rv,.ag (dg 66 500)],blk:=[],pre:=fun z=>wQ z/\HOk (hT z 500),res:=fun _=>.one (.c (.b 40)),out:=fun _=>[],post:=fun z y=>y.p 40↔cU (sa z) (aJ (nY z)) (hT z 400) (z.i 61) (z.i 62) (z.i 64) (z.i 66) (z.g 63) (z.g 65) (hT z 500)}
end
theorem abO:Ok Tryz.prog 69 abM:=abN tJ
theorem Mo(z:Sy)(hA:C2.pre z):Fm.den (let v2:=(hT z 100);let v1:=(cS (z.i 1) (z.s 2) (z.i 3) (z.i 4) (z.i 5) v2 (z.i 13) (z.i 14));let v3:=(hT z 400);let v0:=((false=true↔Hv (cJ (z.i 1) (z.s 2) (z.i 3) (z.i 4) (z.i 5) (z.i 6) (z.i 7) (z.i 8) (z.s 9) (z.g 10) (z.g 11) v2 (z.p 12) (z.i 13) (z.i 14)) (z.i 61) (z.i 62) (z.i 64) (z.i 66) (z.g 63) (z.g 65))/\(false=true-> []=oQ v1 (aJ v1) v3 (z.i 61) (z.i 62) (z.i 64) (z.i 66) (z.g 63) (z.g 65)));(.ct (lR (z.s 2) (z.i 3) (z.i 4) (z.i 5) (z.i 7) (z.s 9) (z.g 10) (z.g 11) v2 (z.i 13) (z.i 14)) (fun y0=>(y0.p 40↔cJ (z.i 1) (z.s 2) (z.i 3) (z.i 4) (z.i 5) (z.i 6) (z.i 7) (z.i 8) (z.s 9) (z.g 10) (z.g 11) v2 (z.p 12) (z.i 13) (z.i 14)=(0:Int))/\(cJ (z.i 1) (z.s 2) (z.i 3) (z.i 4) (z.i 5) (z.i 6) (z.i 7) (z.i 8) (z.s 9) (z.g 10) (z.g 11) v2 (z.p 12) (z.i 13) (z.i 14)=(0:Int)->y0.s 30=0::cS (z.i 1) (z.s 2) (z.i 3) (z.i 4) (z.i 5) v2 (z.i 13) (z.i 14))) fun y0=>(.two (¬y0.p 40) (.ax v0) (.two (z.i 64<1) (.ax v0) (.two ((200:Int)<z.i 64) (.ax v0) (.ct ((y0.s 30).length<=1000000000) (fun y1=>hT y1 300=bT (y0.s 30)) fun y1=>(.ct (HOk (hT y1 300)/\(z.g 63).length<=1000000/\RowsOk (z.g 63)) (fun y2=>(y2.p 40↔ij (z.i 62) (z.i 64) (z.g 63))/\(y2.g 30).length<=40/\(ij (z.i 62) (z.i 64) (z.g 63)->y2.g 30=ig (hT y1 300) (cr (z.i 62) (z.i 64)).reverse (z.g 63))) fun y2=>(let v5:=(↑(1+(y2.g 30).length+1):Int);let v6:=(↑(1+(y2.g 30).length+1+1):Int);let v7:=(↑(1+(y2.g 30).length):Int);let v8:=([G.node [G.str (y0.s 30),hT y1 300]]++y2.g 30);let v4:=(2::GQ (aa (aq v8 (v7-1).toNat) 1));(.two (¬y2.p 40) (.ax v0) (.an (1=1) (.an (1=1/\1<=1000000000/\(y2.g 30).length<=1000000) (.an ((-9223372036854775808)<=v7-1/\v7-1<=9223372036854775807) (.an (0<=v7-1/\v7-1<v7) (.an ((v7-1).toNat<v8.length) (.ct ((0:Int)<=z.i 64%18446744073709551616/\z.i 64%18446744073709551616<18446744073709551616) (fun y3=>y3.s 10=aI (z.i 64%(18446744073709551616:Int)).toNat) fun y3=>(let v9:=(aO v4++y3.s 10);let v10:=(v9.length=33+(y3.s 10).length);(.an (bj v4) (.an (33=33) (.an (33=33/\33<=1000000000/\(y3.s 10).length<=1000000) (.an v10 (.ct (v9.length<=1000000000) (fun y4=>hT y4 300=bT v9) fun y4=>(let v11:=([G.node [G.str (y0.s 30),hT y1 300]]++y2.g 30++ [G.node [G.str v9,hT y4 300]]);let f8:=(hX (aa (aq v11 (v5-1).toNat) 1));(.an v10 (.an (v8.length=1+(y2.g 30).length/\1+(y2.g 30).length<=1000000000/\True) (.an ((-9223372036854775808)<=v5-1/\v5-1<=9223372036854775807) (.an (0<=v5-1/\v5-1<v5) (.an ((v5-1).toNat<v11.length) (.ct (HOk v3/\HOk f8) (fun y5=>y5.s 10=1::(hB v3++hB f8)/\hT y5 300=bb v3 f8) fun y5=>(let g9:=([G.node [G.str (y0.s 30),hT y1 300]]++y2.g 30++ [G.node [G.str v9,hT y4 300]]++ [G.node [G.str (y5.s 10),hT y5 300]]);let l7:=(hX (aa (aq g9 (v6-1).toNat) 1));(.an (v11.length=1+(y2.g 30).length+1/\1+(y2.g 30).length+1<=1000000000/\True) (.an ((-9223372036854775808)<=v6-1/\v6-1<=9223372036854775807) (.an (0<=v6-1/\v6-1<v6) (.an ((v6-1).toNat<g9.length) (.ct (HOk l7/\(z.g 65).length<=1000000/\RowsOk (z.g 65)) (fun y6=>(y6.p 40↔ij (z.i 61) (z.i 66) (z.g 65))/\(y6.g 30).length<=40/\(ij (z.i 61) (z.i 66) (z.g 65)->y6.g 30=ig l7 (cr (z.i 61) (z.i 66)).reverse (z.g 65))) fun y6=>(.an (g9.length=1+(y2.g 30).length+1+1/\1+(y2.g 30).length+1+1<=1000000000/\(y6.g 30).length<=1000000) (.an (([G.node [G.str (y0.s 30),hT y1 300]]++y2.g 30++ [G.node [G.str v9,hT y4 300]]++ [G.node [G.str (y5.s 10),hT y5 300]]++y6.g 30).length=1+(y2.g 30).length+1+1+(y6.g 30).length/\True) (.at ((y6.p 40↔Hv (cJ (z.i 1) (z.s 2) (z.i 3) (z.i 4) (z.i 5) (z.i 6) (z.i 7) (z.i 8) (z.s 9) (z.g 10) (z.g 11) v2 (z.p 12) (z.i 13) (z.i 14)) (z.i 61) (z.i 62) (z.i 64) (z.i 66) (z.g 63) (z.g 65))/\(y6.p 40-> [G.node [G.str (y0.s 30),hT y1 300]]++y2.g 30++ [G.node [G.str v9,hT y4 300]]++ [G.node [G.str (y5.s 10),hT y5 300]]++y6.g 30=oQ v1 (aJ v1) v3 (z.i 61) (z.i 62) (z.i 64) (z.i 66) (z.g 63) (z.g 65)))))))))))))))))))))))))))))))))))))))):=by
 dsimp only [C2,rv,en,hs,wQ,tX,sa,nY] at hA
 have b0:=br 0 0 0 [] [] []
 have b1:=br (z.i 6) (z.i 7) (z.i 8) (z.s 9) (z.g 10) (z.g 11)
 have i1:=@bU (z.s 2) (z.i 3) (z.i 4) (z.i 5) (z.i 7) (z.s 9) (z.g 10) (z.g 11) (hT z 100) (z.i 13) (z.i 14)
 have f1:=@eT (z.i 1) (z.s 2) (z.i 3) (z.i 4) (z.i 5) (z.i 6) (z.i 7) (z.i 8) (z.s 9) (z.g 10) (z.g 11) (hT z 100) (z.p 12) (z.i 13) (z.i 14)
 have f2:=@eU (z.i 1) (z.s 2) (z.i 3) (z.i 4) (z.i 5) (z.i 6) (z.i 7) (z.i 8) (z.s 9) (z.g 10) (z.g 11) (hT z 100) (z.p 12) (z.i 13) (z.i 14)
 have f3:=@gq (z.i 1) (z.s 2) (z.i 3) (z.i 4) (z.i 5) (z.i 6) (z.i 7) (z.i 8) (z.s 9) (z.g 10) (z.g 11) (hT z 100) (z.p 12) (z.i 13) (z.i 14)
 have f4:=@iO (z.i 1) (z.s 2) (z.i 3) (z.i 4) (z.i 5) (z.i 6) (z.i 7) (z.i 8) (z.s 9) (z.g 10) (z.g 11) (hT z 100) (z.p 12) (z.i 13) (z.i 14)
 have f5:=@jP (z.i 1) (z.s 2) (z.i 3) (z.i 4) (z.i 5) (z.i 6) (z.i 7) (z.i 8) (z.s 9) (z.g 10) (z.g 11) (hT z 100) (z.p 12) (z.i 13) (z.i 14)
 have f6:=@cg (z.i 1) (z.s 2) (z.i 3) (z.i 4) (z.i 5) (z.i 6) (z.i 7) (z.i 8) (z.s 9) (z.g 10) (z.g 11) (hT z 100) (z.p 12) (z.i 13) (z.i 14)
 have n1:=@jO (z.i 1) (z.s 2) (z.i 3) (z.i 4) (z.i 5) (lD z) (hT z 100=hZ) (z.p 12) (z.i 13) (z.i 14)
 have l1:=@gt (z.i 1) (z.s 2) (z.i 3) (z.i 4) (z.i 5) (hT z 100) (z.i 13) (z.i 14)
 have s1:=mW (cJ (z.i 1) (z.s 2) (z.i 3) (z.i 4) (z.i 5) (z.i 6) (z.i 7) (z.i 8) (z.s 9) (z.g 10) (z.g 11) (hT z 100) (z.p 12) (z.i 13) (z.i 14)) (z.i 61) (z.i 62) (z.i 64) (z.i 66) (z.g 63) (z.g 65)
 have s2:=(fun e=>jV e (aJ e) (hT z 400) (z.i 61) (z.i 62) (z.i 64) (z.i 66) (z.g 63) (z.g 65)) (cS (z.i 1) (z.s 2) (z.i 3) (z.i 4) (z.i 5) (hT z 100) (z.i 13) (z.i 14))
 have s3:=Re (cS (z.i 1) (z.s 2) (z.i 3) (z.i 4) (z.i 5) (hT z 100) (z.i 13) (z.i 14))
 have s4:=wO (aJ (cS (z.i 1) (z.s 2) (z.i 3) (z.i 4) (z.i 5) (hT z 100) (z.i 13) (z.i 14))) (z.i 62) (z.i 64) (z.g 63)
 have s5:=wP (aJ (cS (z.i 1) (z.s 2) (z.i 3) (z.i 4) (z.i 5) (hT z 100) (z.i 13) (z.i 14))) (hT z 400) (z.i 62) (z.i 64) (z.g 63)
 have a1:=fun b h r hh hc hr=>@WQ b h r (z.i 62) (z.i 64) (z.g 63) hh hc hr
 have a2:=@WR
 have a3:=fun g a s hg ha=>(@Ta g a s hg ha).1
 have a4:=fun g a s hg ha=>(@Ta g a s hg ha).2.1
 have a5:=fun g a hg ha=>(@Ta g a [] hg ha).2.2
 have m1:1<=z.i 64->z.i 64<=200->z.i 64%18446744073709551616=z.i 64:=fun a b=>by omega
 conv=>zeta
 repeat' with_reducible first|intro _|apply aV|apply aZ|apply aT|apply bf|apply ba
 all_goals first|omega|grind [am,ai,ah,az,aA,aB,aC,aD,aE,aF,aG,aH,ao,ce,bM,rH,ia,ol,bR,WS,List.length_append,List.length_cons,List.length_nil]
theorem Ff:Ok Tryz.prog 32 C2:=bS 1000 mN (eK Hr (lK abO (eK Ml (eK hI (eK Rc eN))))) lN (hn:=(hC 12 2756881)) Mo
theorem PO(z:Sy)(hA:AF.pre z):Fm.den (let v0:=(cJ (z.i 1) (z.s 2) (z.i 3) (z.i 4) (z.i 5) (z.i 6) (z.i 7) (z.i 8) (z.s 9) (z.g 10) (z.g 11) (hT z 100) (z.p 12) (z.i 13) (z.i 14));let v1:=(cS (z.i 1) (z.s 2) (z.i 3) (z.i 4) (z.i 5) (hT z 100) (z.i 13) (z.i 14));let v2:=(hT z 400);let v3:=(hT z 500);let v4:=(aJ v1);(.ct (lR (z.s 2) (z.i 3) (z.i 4) (z.i 5) (z.i 7) (z.s 9) (z.g 10) (z.g 11) (hT z 100) (z.i 13) (z.i 14)/\HOk v2/\RowsOk (z.g 63)/\(z.g 63).length<=1000000/\RowsOk (z.g 65)/\(z.g 65).length<=1000000) (fun y0=>(y0.p 40↔Hv v0 (z.i 61) (z.i 62) (z.i 64) (z.i 66) (z.g 63) (z.g 65))/\(y0.p 40->y0.g 30=oQ v1 v4 v2 (z.i 61) (z.i 62) (z.i 64) (z.i 66) (z.g 63) (z.g 65))) fun y0=>(let v5:=(↑(y0.g 30).length:Int);let v6:=(¬(y0.p 40));(.two (y0.p 40) (.an (y0.p 40) (.an (y0.p 40) (.an (y0.p 40) (.two ((-9223372036854775808)<=v5-1/\v5-1<=9223372036854775807) (.an (y0.p 40) (.an (0<=v5-1/\v5-1<v5) (.an (y0.p 40) (.an (y0.p 40) (.an (y0.p 40) (.an (y0.p 40) (.an (y0.p 40) (.an (y0.p 40) (.ax (lQ (hX (aa (aq (y0.g 30) (v5-1).toNat) 1)) v3↔cU v0 v4 v2 (z.i 61) (z.i 62) (z.i 64) (z.i 66) (z.g 63) (z.g 65) v3)))))))))) (.an (y0.p 40) (.an (0<=Go.IntKind.i64.wrap (v5-1)/\Go.IntKind.i64.wrap (v5-1) < ↑(y0.g 30).length) (.an (y0.p 40) (.an (y0.p 40) (.an (y0.p 40) (.an (y0.p 40) (.an (y0.p 40) (.an (y0.p 40) (.ax (lQ (hX (aa (aq (y0.g 30) (Go.IntKind.i64.wrap (v5-1)).toNat) 1)) v3↔cU v0 v4 v2 (z.i 61) (z.i 62) (z.i 64) (z.i 66) (z.g 63) (z.g 65) v3)))))))))))))) (.an v6 (.an v6 (.an v6 (.an v6 (.an v6 (.an v6 (.an v6 (.an v6 (.an v6 (.an v6 (.ax (false=true↔cU v0 v4 v2 (z.i 61) (z.i 62) (z.i 64) (z.i 66) (z.g 63) (z.g 65) v3)))))))))))))))):=by
 dsimp only [AF,rv,en,hs,dg,wQ,tX,sa,nY] at hA
 have s1:=fY (cJ (z.i 1) (z.s 2) (z.i 3) (z.i 4) (z.i 5) (z.i 6) (z.i 7) (z.i 8) (z.s 9) (z.g 10) (z.g 11) (hT z 100) (z.p 12) (z.i 13) (z.i 14)) (aJ (cS (z.i 1) (z.s 2) (z.i 3) (z.i 4) (z.i 5) (hT z 100) (z.i 13) (z.i 14))) (hT z 400) (z.i 61) (z.i 62) (z.i 64) (z.i 66) (z.g 63) (z.g 65) (hT z 500)
 have s2:=(fun e=>@AE (cJ (z.i 1) (z.s 2) (z.i 3) (z.i 4) (z.i 5) (z.i 6) (z.i 7) (z.i 8) (z.s 9) (z.g 10) (z.g 11) (hT z 100) (z.p 12) (z.i 13) (z.i 14)) e (aJ e) (hT z 400) (z.i 61) (z.i 62) (z.i 64) (z.i 66) (z.g 63) (z.g 65)) (cS (z.i 1) (z.s 2) (z.i 3) (z.i 4) (z.i 5) (hT z 100) (z.i 13) (z.i 14))
 dsimp only [NL] at s2
 conv=>zeta
 repeat' with_reducible first|intro _|apply aV|apply aZ|apply aT|apply bf|apply ba
 all_goals first|omega|grind [am,ai,ah,az,aA,aB,aC,aD,aE,aF,aG,aH,ao]
theorem C3:Ok Tryz.prog 10 AF:=bS 1000 mN (eK Ff eN) lN (hn:=(hC 32 4611682353355073961)) PO
noncomputable section
theorem C4(h:G)(i n:Int)(p:List G):ug h i n p=(ga h i n p).1:=by unfold ug;rfl
theorem Fg(er:Int)(lh hd:G)(ab ae c n:Int)(ip op:List G)(r:G):cU er lh hd ab ae c n ip op r↔(er=0/\(1<=c/\c<=200)/\(0<=ae/\ae<c)/\(ga lh ae c ip).2)/\CU (rJ lh hd ae c ip) ab n op r:=by
 rw[wG,fY,mW,Rd,Rd,C4]
 constructor
 ·rintro⟨⟨a,b,⟨c1,c2,c3⟩,⟨d1,d2,d3⟩⟩,e⟩
  exact⟨⟨a,b,c1,c3⟩,d1,d2,d3,e⟩
 ·rintro⟨⟨a,b,c1,c3⟩,d1,d2,d3,e⟩
  exact⟨⟨a,b,⟨c1,by omega,c3⟩,⟨d1,d2,d3⟩⟩,e⟩
def Hw(er:Int)(lh:G)(ae c:Int)(ip:List G):Prop:=er=0/\(1<=c/\c<=200)/\(0<=ae/\ae<c)/\(ga lh ae c ip).2
theorem AG(er:Int)(lh:G)(ae c:Int)(ip:List G):Hw er lh ae c ip↔er=0/\(1<=c/\c<=200)/\(0<=ae/\ae<c)/\(ga lh ae c ip).2:=Iff.rfl
def C5:FSpec:={args:=[.ag rv],blk:=[],pre:=wQ,res:=fun _=>.tu [.ag (hs 300),.c (.b 40)],out:=fun _=>[],post:=fun z y=>HOk (hT y 300)/\(y.p 40↔Hw (sa z) (aJ (nY z)) (z.i 62) (z.i 64) (z.g 63))/\(y.p 40->hT y 300=rJ (aJ (nY z)) (hT z 400) (z.i 62) (z.i 64) (z.g 63))}
abbrev Mp:=AF
attribute [irreducible] Hw
end
theorem Mq(z:Sy)(hA:C5.pre z):Fm.den (let v2:=(hT z 100);let v1:=(cS (z.i 1) (z.s 2) (z.i 3) (z.i 4) (z.i 5) v2 (z.i 13) (z.i 14));let v0:=(HOk hZ/\(false=true↔Hw (cJ (z.i 1) (z.s 2) (z.i 3) (z.i 4) (z.i 5) (z.i 6) (z.i 7) (z.i 8) (z.s 9) (z.g 10) (z.g 11) v2 (z.p 12) (z.i 13) (z.i 14)) (aJ v1) (z.i 62) (z.i 64) (z.g 63))/\(false=true->hZ=rJ (aJ v1) (hT z 400) (z.i 62) (z.i 64) (z.g 63)));(.ct (lR (z.s 2) (z.i 3) (z.i 4) (z.i 5) (z.i 7) (z.s 9) (z.g 10) (z.g 11) v2 (z.i 13) (z.i 14)) (fun y0=>y0.i 50=cJ (z.i 1) (z.s 2) (z.i 3) (z.i 4) (z.i 5) (z.i 6) (z.i 7) (z.i 8) (z.s 9) (z.g 10) (z.g 11) v2 (z.p 12) (z.i 13) (z.i 14)/\(cJ (z.i 1) (z.s 2) (z.i 3) (z.i 4) (z.i 5) (z.i 6) (z.i 7) (z.i 8) (z.s 9) (z.g 10) (z.g 11) v2 (z.p 12) (z.i 13) (z.i 14)=(0:Int)->hT y0 300=aJ v1)/\(¬cJ (z.i 1) (z.s 2) (z.i 3) (z.i 4) (z.i 5) (z.i 6) (z.i 7) (z.i 8) (z.s 9) (z.g 10) (z.g 11) v2 (z.p 12) (z.i 13) (z.i 14)=(0:Int)->hT y0 300=hZ)) fun y0=>(let v3:=(ga (hT y0 300) (z.i 62) (z.i 64) (z.g 63));(.two (y0.i 50≠0) (.ax v0) (.two (z.i 64<1) (.ax v0) (.two ((200:Int)<z.i 64) (.ax v0) (.two (z.i 62<0) (.ax v0) (.two (z.i 64<=z.i 62) (.ax v0) (.ct (HOk (hT y0 300)/\((0:Int)<=z.i 62/\z.i 62<z.i 64)/\z.i 64<1000001/\z.i 64<=1099511627776/\(z.g 63).length<=1000000/\RowsOk (z.g 63)) (fun y1=>HOk (hT y1 300)/\hT y1 300=v3.fst/\(y1.p 50↔v3.snd)) fun y1=>(.ct (HOk (hT y1 300)/\(0:Int)<=z.i 64/\z.i 64<=1000000) (fun y2=>hT y2 300=cy (hT y1 300) (aI (z.i 64).toNat)) fun y2=>(.ct (HOk (hT z 400)/\HOk (hT y2 300)) (fun y3=>hT y3 300=bb (hT z 400) (hT y2 300)) fun y3=>(.ax (HOk (hT y3 300)/\(y1.p 50↔Hw (cJ (z.i 1) (z.s 2) (z.i 3) (z.i 4) (z.i 5) (z.i 6) (z.i 7) (z.i 8) (z.s 9) (z.g 10) (z.g 11) v2 (z.p 12) (z.i 13) (z.i 14)) (aJ v1) (z.i 62) (z.i 64) (z.g 63))/\(y1.p 50->hT y3 300=rJ (aJ v1) (hT z 400) (z.i 62) (z.i 64) (z.g 63))))))))))))))):=by
 dsimp only [C5,rv,en,hs,wQ,tX,sa,nY] at hA
 have b0:=br 0 0 0 [] [] []
 have b1:=br (z.i 6) (z.i 7) (z.i 8) (z.s 9) (z.g 10) (z.g 11)
 have i1:=@bU (z.s 2) (z.i 3) (z.i 4) (z.i 5) (z.i 7) (z.s 9) (z.g 10) (z.g 11) (hT z 100) (z.i 13) (z.i 14)
 have f1:=@eT (z.i 1) (z.s 2) (z.i 3) (z.i 4) (z.i 5) (z.i 6) (z.i 7) (z.i 8) (z.s 9) (z.g 10) (z.g 11) (hT z 100) (z.p 12) (z.i 13) (z.i 14)
 have f2:=@eU (z.i 1) (z.s 2) (z.i 3) (z.i 4) (z.i 5) (z.i 6) (z.i 7) (z.i 8) (z.s 9) (z.g 10) (z.g 11) (hT z 100) (z.p 12) (z.i 13) (z.i 14)
 have f3:=@gq (z.i 1) (z.s 2) (z.i 3) (z.i 4) (z.i 5) (z.i 6) (z.i 7) (z.i 8) (z.s 9) (z.g 10) (z.g 11) (hT z 100) (z.p 12) (z.i 13) (z.i 14)
 have f4:=@iO (z.i 1) (z.s 2) (z.i 3) (z.i 4) (z.i 5) (z.i 6) (z.i 7) (z.i 8) (z.s 9) (z.g 10) (z.g 11) (hT z 100) (z.p 12) (z.i 13) (z.i 14)
 have f5:=@jP (z.i 1) (z.s 2) (z.i 3) (z.i 4) (z.i 5) (z.i 6) (z.i 7) (z.i 8) (z.s 9) (z.g 10) (z.g 11) (hT z 100) (z.p 12) (z.i 13) (z.i 14)
 have f6:=@cg (z.i 1) (z.s 2) (z.i 3) (z.i 4) (z.i 5) (z.i 6) (z.i 7) (z.i 8) (z.s 9) (z.g 10) (z.g 11) (hT z 100) (z.p 12) (z.i 13) (z.i 14)
 have n1:=@jO (z.i 1) (z.s 2) (z.i 3) (z.i 4) (z.i 5) (lD z) (hT z 100=hZ) (z.p 12) (z.i 13) (z.i 14)
 have l1:=@gt (z.i 1) (z.s 2) (z.i 3) (z.i 4) (z.i 5) (hT z 100) (z.i 13) (z.i 14)
 have s1:=mW (cJ (z.i 1) (z.s 2) (z.i 3) (z.i 4) (z.i 5) (z.i 6) (z.i 7) (z.i 8) (z.s 9) (z.g 10) (z.g 11) (hT z 100) (z.p 12) (z.i 13) (z.i 14)) (z.i 61) (z.i 62) (z.i 64) (z.i 66) (z.g 63) (z.g 65)
 have s1:=AG (cJ (z.i 1) (z.s 2) (z.i 3) (z.i 4) (z.i 5) (z.i 6) (z.i 7) (z.i 8) (z.s 9) (z.g 10) (z.g 11) (hT z 100) (z.p 12) (z.i 13) (z.i 14)) (aJ (cS (z.i 1) (z.s 2) (z.i 3) (z.i 4) (z.i 5) (hT z 100) (z.i 13) (z.i 14))) (z.i 62) (z.i 64) (z.g 63)
 have s2:=wP (aJ (cS (z.i 1) (z.s 2) (z.i 3) (z.i 4) (z.i 5) (hT z 100) (z.i 13) (z.i 14))) (hT z 400) (z.i 62) (z.i 64) (z.g 63)
 have s3:=wO (aJ (cS (z.i 1) (z.s 2) (z.i 3) (z.i 4) (z.i 5) (hT z 100) (z.i 13) (z.i 14))) (z.i 62) (z.i 64) (z.g 63)
 have s4:=C4 (aJ (cS (z.i 1) (z.s 2) (z.i 3) (z.i 4) (z.i 5) (hT z 100) (z.i 13) (z.i 14))) (z.i 62) (z.i 64) (z.g 63)
 conv=>zeta
 repeat' with_reducible first|intro _|apply aV|apply aZ|apply aT|apply bf|apply ba
 all_goals first|omega|grind [am,ai,ah,az,aA,aB,aC,aD,aE,aF,aG,aH,ao,ce,ia,bR,rH,lL,fT]
theorem PP:Ok Tryz.prog 34 C5:=bS 1000 mN (eK wk (eK (LT 1000001) (eK t_ (eK ko eN)))) lN (hn:=(hC 11 69905)) Mq
theorem PQ(z:Sy)(hA:Mp.pre z):Fm.den (let v0:=(cJ (z.i 1) (z.s 2) (z.i 3) (z.i 4) (z.i 5) (z.i 6) (z.i 7) (z.i 8) (z.s 9) (z.g 10) (z.g 11) (hT z 100) (z.p 12) (z.i 13) (z.i 14));let v1:=(aJ (cS (z.i 1) (z.s 2) (z.i 3) (z.i 4) (z.i 5) (hT z 100) (z.i 13) (z.i 14)));let v2:=(hT z 400);let v3:=(hT z 500);(.ct (lR (z.s 2) (z.i 3) (z.i 4) (z.i 5) (z.i 7) (z.s 9) (z.g 10) (z.g 11) (hT z 100) (z.i 13) (z.i 14)/\HOk v2/\RowsOk (z.g 63)/\(z.g 63).length<=1000000/\RowsOk (z.g 65)/\(z.g 65).length<=1000000) (fun y0=>HOk (hT y0 300)/\(y0.p 40↔Hw v0 v1 (z.i 62) (z.i 64) (z.g 63))/\(y0.p 40->hT y0 300=rJ v1 v2 (z.i 62) (z.i 64) (z.g 63))) fun y0=>(.two (y0.p 40) (.ct (HOk (hT y0 300)/\HOk v3/\(z.g 65).length<=1000000/\RowsOk (z.g 65)) (fun y1=>(y1.p 50↔CU (hT y0 300) (z.i 61) (z.i 66) (z.g 65) v3)) fun y1=>(.ax (y1.p 50↔cU v0 v1 v2 (z.i 61) (z.i 62) (z.i 64) (z.i 66) (z.g 63) (z.g 65) v3))) (.ax (false=true↔cU v0 v1 v2 (z.i 61) (z.i 62) (z.i 64) (z.i 66) (z.g 63) (z.g 65) v3))))):=by
 dsimp only [Mp,AF,rv,en,hs,dg,wQ,tX,sa,nY] at hA
 have s1:=Fg (cJ (z.i 1) (z.s 2) (z.i 3) (z.i 4) (z.i 5) (z.i 6) (z.i 7) (z.i 8) (z.s 9) (z.g 10) (z.g 11) (hT z 100) (z.p 12) (z.i 13) (z.i 14)) (aJ (cS (z.i 1) (z.s 2) (z.i 3) (z.i 4) (z.i 5) (hT z 100) (z.i 13) (z.i 14))) (hT z 400) (z.i 61) (z.i 62) (z.i 64) (z.i 66) (z.g 63) (z.g 65) (hT z 500)
 have s2:=AG (cJ (z.i 1) (z.s 2) (z.i 3) (z.i 4) (z.i 5) (z.i 6) (z.i 7) (z.i 8) (z.s 9) (z.g 10) (z.g 11) (hT z 100) (z.p 12) (z.i 13) (z.i 14)) (aJ (cS (z.i 1) (z.s 2) (z.i 3) (z.i 4) (z.i 5) (hT z 100) (z.i 13) (z.i 14))) (z.i 62) (z.i 64) (z.g 63)
 conv=>zeta
 repeat' with_reducible first|intro _|apply aV|apply aZ|apply aT|apply bf|apply ba
 all_goals first|omega|grind [am,ai,ah,az,aA,aB,aC,aD,aE,aF,aG,aH,ao,lL]
theorem Tb:Ok Tryz.prog 12 Mp:=bS 1000 mN (eK PP (eK Hq eN)) lN (hn:=(.both .nil .nil)) PQ
noncomputable section
end
noncomputable section
theorem C6{l:List G}{i:Int}(h0:0<=i)(h:i<l.length):l.drop i.toNat=aq l i.toNat::l.drop (i+1).toNat:=by
 rw[aaU (by omega),show(i+1).toNat=i.toNat+1 by omega]
 congr 1
 unfold aq
 rw[aag,aah (by omega)];rfl
end
noncomputable section
def Tc(i:Nat)(e:G):List Nat:=@ite _ (gI (aa e 0)=2/\¬gI (aa e 12)=1) (Classical.propDecidable _) (aI i++(aI (nW e).length++nW e)) []
theorem rK{i:Nat}{e:G}(h:¬gI (aa e 0)=2∨gI (aa e 12)=1):Tc i e= []:=if_neg fun⟨a,b⟩=>h.elim (fun c=>c a) b
theorem AH{i:Nat}{e:G}(h:gI (aa e 0)=2)(h1:¬gI (aa e 12)=1):Tc i e=aI i++(aI (nW e).length++nW e):=if_pos ⟨h,h1⟩
def Vd:Nat->List G->List Nat
 |_,[]=>[]
 |i,e::es=>Tc i e++Vd (i+1) es
def jd(es:List G)(i:Int):List Nat:=Vd i.toNat (es.drop i.toNat)
theorem AI{es:List G}{i:Int}(h0:0<=i)(h:i<es.length):jd es i=Tc i.toNat (aq es i.toNat)++jd es (i+1):=by
 unfold jd
 rw[C6 h0 h,show(i+1).toNat=i.toNat+1 by omega];rfl
theorem Fh{es:List G}{i:Int}(h:(es.length:Int)<=i):jd es i= []:=by unfold jd;rw[aaK (by omega)];rfl
theorem Mr{i:Nat}{e:G}(hi:i<200):(Tc i e).length<=(E1 True e).length+10:=by
 by_cases h:gI (aa e 0)=2
 ·by_cases h1:gI (aa e 12)=1
  ·rw[rK (.inr h1)];exact aal _
  ·rw[AH h h1,mL h (fun q=>q.elim h1 (fun q=>q trivial))]
   have:=dV (n:=i) (by omega)
   simp only [aai,aao,List.length_nil];omega
 ·rw[rK (.inl h)];exact aal _
theorem PR{i:Nat}{e:G}(h:nV e=0)(hi:Cq e)(h2:i<200):(Tc i e).length<=70010:=by
 have:=E2 (d:=True) h hi
 have:=@Mr i e h2
 omega
theorem Fi:∀(es:List G) (i:Nat),(∀e∈es,nV e=0/\Cq e)->i+es.length<=200->(Vd i es).length<=es.length * 70010
 | [],_,_,_=>aal _
 |e::es,i,h,hi=>by
  have h1:=h e aay
  have a:=PR (i:=i) h1.1 h1.2 (by simp at hi;omega)
  have b:=Fi es (i+1) (fun x hx=>h x (aaw _ hx)) (by simp at hi⊢;omega)
  rw[Vd,aai,aao];omega
theorem PT{es:List G}(h:lE es):(jd es 0).length<=14002000:=by
 obtain⟨h1,h2,h3⟩:=h
 have hm:∀e∈es,nV e=0/\Cq e:=fun e he=>by
  obtain⟨i,hi,e2⟩:=List.getElem_of_mem he
  have:=fq (i:=(i:Int)) h1 (by omega) (by omega)
  have e3:aq es (i:Int).toNat=e:=by unfold aq;rw[aaq,aag,aah hi, ←e2];rfl
  rw[e3] at this
  exact⟨this,by unfold fo at h2;exact h2 e he⟩
 have:=Fi es 0 hm (by omega)
 unfold jd
 show(Vd 0 (es.drop 0)).length<=_
 rw[aaL]
 have:es.length * 70010<=200 * 70010:=aat _ h3
 omega
theorem Ve{n:Nat}(h:n<18446744073709551616):((n:Int)%18446744073709551616).toNat=n:=by omega
def Td(p:Sy):List BSh:=[.cells 41 (tW p),.growb 5 20]
def wR(p:Sy):LSpec:={tmps:=[(1,.c (.p 0)),(4,.c (.gb 1 20)),(5,.c (.i .i64 9))],blk:=Td p,inv:=fun z=>lE (p.g 24)/\(0<=z.i 9/\z.i 9<=(p.g 24).length)/\(z.s 20).length+(jd (p.g 24) (z.i 9)).length<=20000000,mu:=fun z=>((p.g 24).length-z.i 9).toNat,alts:=[⟨.exit 0,[(1,.c (.p 0)),(4,.c (.gb 1 20))],Td p⟩],post:=fun z y=>y.s 20=z.s 20++jd (p.g 24) (z.i 9)}
def abQ(p:Sy):LSpec:={tmps:=[(1,.c (.p 0)),(4,.c (.gb 1 20)),(10,.c (.pv 7 (p.g 24))),(11,.c (.pi .i64 (p.g 24).length)),(12,.c (.i .i64 9))],blk:=Td p,inv:=fun z=>lE (p.g 24)/\(0<=z.i 9/\z.i 9<=(p.g 24).length)/\(z.s 20).length+(jd (p.g 24) (z.i 9)).length<=20000000,mu:=fun z=>((p.g 24).length-z.i 9).toNat,alts:=[⟨.exit 0,[(1,.c (.p 0)),(4,.c (.gb 1 20))],Td p⟩],post:=fun z y=>y.s 20=z.s 20++jd (p.g 24) (z.i 9)}
def Ms:FSpec:={args:=[.ag bk],blk:=[],pre:=fun z=>lE (z.g 24),res:=fun _=>.tu [.c (.vb 30),.c (.b 40)],out:=fun _=>[],post:=fun z y=>(y.p 40↔0<(jd (z.g 24) 0).length)/\((jd (z.g 24) 0).length<=524288->y.s 30=Ic (jd (z.g 24) 0))/\(y.s 30).length<=524300}
def abP:FSpec:={args:=[.ag bk],blk:=[],pre:=fun z=>lE (z.g 24),res:=fun _=>.tu [.c (.vb 30),.c (.b 40)],out:=fun _=>[],post:=fun z y=>(y.p 40↔0<(jd (z.g 24) 0).length)/\y.s 30=jd (z.g 24) 0}
attribute [irreducible] jd Tc
end
theorem AJ(z:Sy)(hA:oh.pre z):Fm.den (let v0:=(↑(z.s 1).length:Int);(.two (524288<v0) (.ax (((z.s 1).length<=524288->(5:Int)=0/\ []=Ic (z.s 1))/\(524288<(z.s 1).length->(5:Int)=5/\oV)/\0<=524300)) (.ct (0<=v0%4294967296) (fun y0=>y0.s 20=b4 (v0%4294967296)) fun y0=>(.an ((y0.s 20).length=(y0.s 20).length) (.ct ((y0.s 20).length<=1000000000) (fun y1=>y1.i 10=L5 (y0.s 20)/\(0:Int)<=y1.i 10/\y1.i 10<4294967296) fun y1=>(.ct ((0:Int)<=y1.i 10) (fun y2=>y2.s 20=b4 (y1.i 10)) fun y2=>(let v1:=(y0.s 20++y2.s 20++z.s 1);(.an ((y2.s 20).length=(y2.s 20).length) (.an ((y0.s 20).length=(y0.s 20).length/\(y0.s 20).length<=1000000000/\(y2.s 20).length<=1000000) (.an ((y0.s 20++y2.s 20).length=(y0.s 20).length+(y2.s 20).length/\(y0.s 20).length+(y2.s 20).length<=1000000000/\(z.s 1).length<=1000000) (.an (v1.length=(y0.s 20).length+(y2.s 20).length+(z.s 1).length) (.ct (v1.length<=1000000000) (fun y3=>y3.i 10=L5 v1/\(0:Int)<=y3.i 10/\y3.i 10<4294967296) fun y3=>(.ct ((0:Int)<=y3.i 10) (fun y4=>y4.s 20=b4 (y3.i 10)) fun y4=>(let v2:=(y0.s 20++y2.s 20++z.s 1++y4.s 20);(.an ((y4.s 20).length=(y4.s 20).length) (.an (v1.length=(y0.s 20).length+(y2.s 20).length+(z.s 1).length/\(y0.s 20).length+(y2.s 20).length+(z.s 1).length<=1000000000/\(y4.s 20).length<=1000000) (.an (v2.length=(y0.s 20).length+(y2.s 20).length+(z.s 1).length+(y4.s 20).length/\True) (.at (((z.s 1).length<=524288->(0:Int)=0/\y0.s 20++y2.s 20++z.s 1++y4.s 20=Ic (z.s 1))/\(524288<(z.s 1).length->(0:Int)=5/\y0.s 20++y2.s 20++z.s 1++y4.s 20= [])/\v2.length<=524300))))))))))))))))))):=by
 dsimp only [oh,AB] at hA
 have m1:(z.s 1).length<=524288->((z.s 1).length:Int)%4294967296=(z.s 1).length:=fun h=>by omega
 have m2:=PE (z.s 1)
 conv=>zeta
 repeat' with_reducible first|intro _|apply aV|apply aZ|apply aT|apply bf|apply ba
 all_goals first|omega|grind [am,ai,ah,List.append_assoc,Ic,Wc,L8]
theorem rL:Ok Tryz.prog 117 oh:=bS 1000 mN (eK L9 (lK S8 eN)) lN (hn:=(.both .nil .nil)) AJ
theorem acb(z:Sy)(hA:AB.pre z):Fm.den (let v0:=(↑(z.s 1).length:Int);(.two (524288<v0) (.ax (((z.s 1).length<=524288->(5:Int)=0/\ []=Ic (z.s 1))/\(524288<(z.s 1).length->(5:Int)=5/\oV)/\0<=524300)) (.ct (0<=v0%4294967296/\v0%4294967296<4294967296) (fun y0=>y0.i 10/4294967296%4294967296= ↑(z.s 1).length%4294967296/\y0.i 10%4294967296=L5 (b4 (v0%4294967296))/\(0:Int)<=y0.i 10/\y0.i 10<18446744073709551616) fun y0=>(.ct ((0:Int)<=y0.i 10/\y0.i 10<18446744073709551616) (fun y1=>y1.s 20=b4 (y0.i 10/(4294967296:Int)%4294967296)++b4 (y0.i 10%4294967296)) fun y1=>(let v1:=(y1.s 20++z.s 1);(.an ((y1.s 20).length=(y1.s 20).length/\(y1.s 20).length<=1000000000/\(z.s 1).length<=1000000) (.an (v1.length=(y1.s 20).length+(z.s 1).length) (.ct (v1.length<=1000000000) (fun y2=>y2.i 10=L5 v1/\(0:Int)<=y2.i 10/\y2.i 10<4294967296) fun y2=>(.ct ((0:Int)<=y2.i 10) (fun y3=>y3.s 20=b4 (y2.i 10)) fun y3=>(let v2:=(y1.s 20++z.s 1++y3.s 20);(.an ((y3.s 20).length=(y3.s 20).length) (.an (v1.length=(y1.s 20).length+(z.s 1).length/\(y1.s 20).length+(z.s 1).length<=1000000000/\(y3.s 20).length<=1000000) (.an (v2.length=(y1.s 20).length+(z.s 1).length+(y3.s 20).length/\True) (.at (((z.s 1).length<=524288->(0:Int)=0/\y1.s 20++z.s 1++y3.s 20=Ic (z.s 1))/\(524288<(z.s 1).length->(0:Int)=5/\y1.s 20++z.s 1++y3.s 20= [])/\v2.length<=524300))))))))))))))):=by
 dsimp only [AB] at hA
 have m1:(z.s 1).length<=524288->((z.s 1).length:Int)%4294967296=(z.s 1).length:=fun h=>by omega
 have m2:=PE (z.s 1)
 conv=>zeta
 repeat' with_reducible first|intro _|apply aV|apply aZ|apply aT|apply bf|apply ba
 all_goals first|omega|grind [am,ai,ah,List.append_assoc,Ic,Wc,L8]
theorem acn:Ok Tryz.prog 131 AB:=bS 1000 mN (eK act (eK o_Big (lK acs (eK abR eN)))) lN (hn:=(.both .nil .nil)) acb
theorem Hx(p z:Sy)(hA:(wR p).inv z):Fm.den (let v0:=(aq (p.g 24) (z.i 9).toNat);let v1:=((z.s 20).length=(z.s 20).length/\p.g 24=p.g 24/\dt (jL p 200) (jL p 200) (p.i 23=p.i 23/\p.i 22=p.i 22/\p.i 21=p.i 21/\True));let v3:=((-9223372036854775808:Int)<=z.i 9+1/\z.i 9+1<=9223372036854775807);let v4:=(↑(p.g 24).length:Int);let v5:=(gL (aa v0 10));let v6:=(gS (aa v0 8));let v7:=(gI (aa v0 6));let v8:=(gL (aa v0 9));let v9:=(gI (aa v0 5));let v10:=(z.i 9+(1:Int));let v2:=((ck (p.g 24) (0:Int)=0/\fo (p.g 24)/\(p.g 24).length<=200)/\((0:Int)<=z.i 9+1/\z.i 9+1<= ↑(p.g 24).length)/\(z.s 20).length+(jd (p.g 24) v10).length<=20000000);let v11:=(gI (aa v0 7));let f8:=(v4-(z.i 9+1));(.two (z.i 9 < ↑(p.g 24).length) (.an ((0:Int)<=z.i 9/\z.i 9 < ↑(p.g 24).length) (.two (gI (aa v0 0)≠2) (.an v3 (.an v1 (.at (v2/\f8.toNat<(v4-z.i 9).toNat/\∀(y:Sy),y.s 20=z.s 20++jd (p.g 24) v10->y.s 20=z.s 20++jd (p.g 24) (z.i 9))))) (.two (gI (aa v0 12)=1) (.an v3 (.an v1 (.at (v2/\f8.toNat<(v4-z.i 9).toNat/\∀(y:Sy),y.s 20=z.s 20++jd (p.g 24) v10->y.s 20=z.s 20++jd (p.g 24) (z.i 9))))) (.ct (lA 16 v7 v6 v8 v5/\nP 16 v6 v5<=10000000) (fun y0=>y0.i 11=dT v9 v7 v11 v6 v8 v5/\(dT v9 v7 v11 v6 v8 v5=(0:Int)->y0.s 10=da 16 v9 v7 v11 v6 v8 v5/\(da 16 v9 v7 v11 v6 v8 v5).length<=65536)/\(¬dT v9 v7 v11 v6 v8 v5=(0:Int)->y0.s 10= [])) fun y0=>(let g9:=(↑(y0.s 10).length:Int);(.ct ((0:Int)<=z.i 9%18446744073709551616/\z.i 9%18446744073709551616<18446744073709551616) (fun y1=>y1.s 10=aI (z.i 9%(18446744073709551616:Int)).toNat) fun y1=>(.an ((z.s 20).length=(z.s 20).length/\(z.s 20).length<=1000000000/\(y1.s 10).length<=1000000) (.ct (0<=g9%18446744073709551616/\g9%18446744073709551616<18446744073709551616) (fun y2=>y2.s 10=aI (g9%18446744073709551616).toNat) fun y2=>(let l7:=(z.s 20++y1.s 10++y2.s 10++y0.s 10);(.an ((z.s 20++y1.s 10).length=(z.s 20).length+(y1.s 10).length/\(z.s 20).length+(y1.s 10).length<=1000000000/\(y2.s 10).length<=1000000) (.an ((z.s 20++y1.s 10++y2.s 10).length=(z.s 20).length+(y1.s 10).length+(y2.s 10).length/\(z.s 20).length+(y1.s 10).length+(y2.s 10).length<=1000000000/\(y0.s 10).length<=1000000) (.an v3 (.an (l7.length=(z.s 20).length+(y1.s 10).length+(y2.s 10).length+(y0.s 10).length/\p.g 24=p.g 24/\dt (jL p 200) (jL p 200) (p.i 23=p.i 23/\p.i 22=p.i 22/\p.i 21=p.i 21/\True)) (.at (((ck (p.g 24) (0:Int)=0/\fo (p.g 24)/\(p.g 24).length<=200)/\((0:Int)<=z.i 9+1/\z.i 9+1<= ↑(p.g 24).length)/\l7.length+(jd (p.g 24) v10).length<=20000000)/\f8.toNat<(v4-z.i 9).toNat/\∀(y:Sy),y.s 20=z.s 20++y1.s 10++y2.s 10++y0.s 10++jd (p.g 24) v10->y.s 20=z.s 20++jd (p.g 24) (z.i 9)))))))))))))))) (.an v1 (.at (z.s 20=z.s 20++jd (p.g 24) (z.i 9)))))):=by
 dsimp only [wR,Td,tW,Ae,lE] at hA
 have a1:=@AI (p.g 24) (z.i 9)
 have a2:=@Fh (p.g 24) (z.i 9)
 have a3:=@rK (z.i 9).toNat (aq (p.g 24) (z.i 9).toNat)
 have a4:=@AH (z.i 9).toNat (aq (p.g 24) (z.i 9).toNat)
 have a6:=@iP (p.g 24) (z.i 9)
 have a7:=@fq (p.g 24) (z.i 9)
 dsimp only [nW,Cq,nV] at a3 a4 a6 a7
 have m9:0<=z.i 9->z.i 9<=200->(z.i 9%18446744073709551616).toNat=(z.i 9).toNat:=fun a b=>by omega
 have b1:=(fun e=>@bU (gS (aa e 1)) (gI (aa e 2)) (gI (aa e 3)) (gI (aa e 4)) (gI (aa e 6)) (gS (aa e 8)) (gL (aa e 9)) (gL (aa e 10)) (hX (aa e 11)) (gI (aa e 13)) (gI (aa e 14))) (aq (p.g 24) (z.i 9).toNat)
 have b2:=(fun e=>fun h=>(@cg (gI (aa e 0)) (gS (aa e 1)) (gI (aa e 2)) (gI (aa e 3)) (gI (aa e 4)) (gI (aa e 5)) (gI (aa e 6)) (gI (aa e 7)) (gS (aa e 8)) (gL (aa e 9)) (gL (aa e 10)) (hX (aa e 11)) (gI (aa e 12)=1) (gI (aa e 13)) (gI (aa e 14)) h).2) (aq (p.g 24) (z.i 9).toNat)
 have q1:=@rr (aq (p.g 24) (z.i 9).toNat)
 dsimp only [nV] at q1
 conv=>zeta
 repeat' with_reducible first|intro _|apply aV|apply aZ|apply aT|apply bf|apply ba
 all_goals first|omega|grind [am,ai,ah,az,aA,aB,aC,aD,aE,aF,aG,aH,ao,List.append_assoc,dV,bM,Ve]
theorem Mt:dU Tryz.prog 113 0 wR:=bH 1000 mN (eK nU (eK cR eN)) lN (hn:=(hC 10 35109)) Hx
theorem PU(z:Sy)(hA:Ms.pre z):Fm.den (let v0:=(jd (z.g 24) (0:Int));(.cl ((0=0/\z.g 24=z.g 24/\dt (jL z 200) (jL z 200) (z.i 23=z.i 23/\z.i 22=z.i 22/\z.i 21=z.i 21/\True))) ((ck (z.g 24) (0:Int)=0/\fo (z.g 24)/\(z.g 24).length<=200)/\((0:Int)<=0/\0<=(↑(z.g 24).length:Int))/\0+v0.length<=20000000) (fun y0=>y0.s 20= []++jd (z.g 24) (0:Int)) fun y0=>(let v1:=((y0.s 20).length=(y0.s 20).length);(.an v1 (.ct ((y0.s 20).length<=100000000) (fun y1=>((y0.s 20).length<=524288->y1.i 50=0/\y1.s 10=Ic (y0.s 20))/\(524288<(y0.s 20).length->y1.i 50=5/\y1.s 10= [])/\(y1.s 10).length<=524300) fun y1=>(.an v1 (.ax ((0<(↑(y0.s 20).length:Int)↔0<(jd (z.g 24) 0).length)/\(v0.length<=524288->y1.s 10=Ic v0)/\(y1.s 10).length<=524300)))))))):=by
 dsimp only [Ms,bk,hs,lE] at hA
 have a1:=@PT (z.g 24)
 conv=>zeta
 repeat' with_reducible first|intro _|apply aV|apply aZ|apply aT|apply bf|apply ba
 all_goals first|omega|grind [am,ai,ah,az,aA,aB,aC,aD,aE,aF,aG,aH,ao,List.append_assoc,dV,bM,Ve]
theorem Te:Ok Tryz.prog 113 Ms:=bS 1000 mN (eK rL eN) (eL (ptm:=[(0,.ag bk)]) Mt lN) (hn:=.nil) PU
theorem abY(p z:Sy)(hA:(abQ p).inv z):Fm.den (let v0:=(aq (p.g 24) (z.i 9).toNat);let v3:=((-9223372036854775808:Int)<=z.i 9+1/\z.i 9+1<=9223372036854775807);let v4:=(↑(p.g 24).length:Int);let v1:=(p.i 23=p.i 23/\p.i 22=p.i 22/\p.i 21=p.i 21/\v4=v4/\p.g 24=p.g 24/\True);let v5:=((z.s 20).length=(z.s 20).length/\p.g 24=p.g 24/\dt (jL p 200) (jL p 200) v1);let v6:=(gL (aa v0 10));let v7:=(gS (aa v0 8));let v8:=(gI (aa v0 6));let v9:=(gL (aa v0 9));let v10:=(z.i 9+(1:Int));let v2:=((ck (p.g 24) (0:Int)=0/\fo (p.g 24)/\(p.g 24).length<=200)/\((0:Int)<=z.i 9+1/\z.i 9+1<= ↑(p.g 24).length)/\(z.s 20).length+(jd (p.g 24) v10).length<=20000000);let v11:=(gI (aa v0 5));let f8:=(gI (aa v0 7));let g9:=(v4-(z.i 9+1));(.two (z.i 9 < ↑(p.g 24).length) (.an ((0:Int)<=z.i 9/\z.i 9 < ↑(p.g 24).length) (.two (gI (aa v0 0)≠2) (.an v3 (.an v5 (.at (v2/\g9.toNat<(v4-z.i 9).toNat/\∀(y:Sy),y.s 20=z.s 20++jd (p.g 24) v10->y.s 20=z.s 20++jd (p.g 24) (z.i 9))))) (.two (gI (aa v0 12)=1) (.an v3 (.an v5 (.at (v2/\g9.toNat<(v4-z.i 9).toNat/\∀(y:Sy),y.s 20=z.s 20++jd (p.g 24) v10->y.s 20=z.s 20++jd (p.g 24) (z.i 9))))) (.ct (lA 16 v8 v7 v9 v6/\nP 16 v7 v6<=10000000) (fun y0=>y0.i 11=dT v11 v8 f8 v7 v9 v6/\(dT v11 v8 f8 v7 v9 v6=(0:Int)->y0.s 10=da 16 v11 v8 f8 v7 v9 v6/\(da 16 v11 v8 f8 v7 v9 v6).length<=65536)/\(¬dT v11 v8 f8 v7 v9 v6=(0:Int)->y0.s 10= [])) fun y0=>(let l7:=(↑(y0.s 10).length:Int);(.ct ((0:Int)<=z.i 9%18446744073709551616/\z.i 9%18446744073709551616<18446744073709551616) (fun y1=>y1.s 10=aI (z.i 9%(18446744073709551616:Int)).toNat) fun y1=>(.an ((z.s 20).length=(z.s 20).length/\(z.s 20).length<=1000000000/\(y1.s 10).length<=1000000) (.ct (0<=l7%18446744073709551616/\l7%18446744073709551616<18446744073709551616) (fun y2=>y2.s 10=aI (l7%18446744073709551616).toNat) fun y2=>(let o6:=(z.s 20++y1.s 10++y2.s 10++y0.s 10);(.an ((z.s 20++y1.s 10).length=(z.s 20).length+(y1.s 10).length/\(z.s 20).length+(y1.s 10).length<=1000000000/\(y2.s 10).length<=1000000) (.an ((z.s 20++y1.s 10++y2.s 10).length=(z.s 20).length+(y1.s 10).length+(y2.s 10).length/\(z.s 20).length+(y1.s 10).length+(y2.s 10).length<=1000000000/\(y0.s 10).length<=1000000) (.an v3 (.an (o6.length=(z.s 20).length+(y1.s 10).length+(y2.s 10).length+(y0.s 10).length/\p.g 24=p.g 24/\dt (jL p 200) (jL p 200) v1) (.at (((ck (p.g 24) (0:Int)=0/\fo (p.g 24)/\(p.g 24).length<=200)/\((0:Int)<=z.i 9+1/\z.i 9+1<= ↑(p.g 24).length)/\o6.length+(jd (p.g 24) v10).length<=20000000)/\g9.toNat<(v4-z.i 9).toNat/\∀(y:Sy),y.s 20=z.s 20++y1.s 10++y2.s 10++y0.s 10++jd (p.g 24) v10->y.s 20=z.s 20++jd (p.g 24) (z.i 9)))))))))))))))) (.an ((z.s 20).length=(z.s 20).length/\p.g 24=p.g 24/\dt (jL p 200) (jL p 200) (p.i 23=p.i 23/\p.i 22=p.i 22/\p.i 21=p.i 21/\True)) (.at (z.s 20=z.s 20++jd (p.g 24) (z.i 9)))))):=by
 dsimp only [abQ,Td,tW,Ae,lE] at hA
 have a1:=@AI (p.g 24) (z.i 9)
 have a2:=@Fh (p.g 24) (z.i 9)
 have a3:=@rK (z.i 9).toNat (aq (p.g 24) (z.i 9).toNat)
 have a4:=@AH (z.i 9).toNat (aq (p.g 24) (z.i 9).toNat)
 have a6:=@iP (p.g 24) (z.i 9)
 have a7:=@fq (p.g 24) (z.i 9)
 dsimp only [nW,Cq,nV] at a3 a4 a6 a7
 have m9:0<=z.i 9->z.i 9<=200->(z.i 9%18446744073709551616).toNat=(z.i 9).toNat:=fun a b=>by omega
 have b1:=(fun e=>@bU (gS (aa e 1)) (gI (aa e 2)) (gI (aa e 3)) (gI (aa e 4)) (gI (aa e 6)) (gS (aa e 8)) (gL (aa e 9)) (gL (aa e 10)) (hX (aa e 11)) (gI (aa e 13)) (gI (aa e 14))) (aq (p.g 24) (z.i 9).toNat)
 have b2:=(fun e=>fun h=>(@cg (gI (aa e 0)) (gS (aa e 1)) (gI (aa e 2)) (gI (aa e 3)) (gI (aa e 4)) (gI (aa e 5)) (gI (aa e 6)) (gI (aa e 7)) (gS (aa e 8)) (gL (aa e 9)) (gL (aa e 10)) (hX (aa e 11)) (gI (aa e 12)=1) (gI (aa e 13)) (gI (aa e 14)) h).2) (aq (p.g 24) (z.i 9).toNat)
 have q1:=@rr (aq (p.g 24) (z.i 9).toNat)
 dsimp only [nV] at q1
 conv=>zeta
 repeat' with_reducible first|intro _|apply aV|apply aZ|apply aT|apply bf|apply ba
 all_goals first|omega|grind [am,ai,ah,az,aA,aB,aC,aD,aE,aF,aG,aH,ao,List.append_assoc,dV,bM,Ve]
theorem acd:dU Tryz.prog 128 0 abQ:=bH 1000 mN (eK z_ (eK hI eN)) lN (hn:=(hC 10 35109)) abY
theorem aco(z:Sy)(hA:abP.pre z):Fm.den (let v0:=(↑(z.g 24).length:Int);(.cl ((0=0/\z.g 24=z.g 24/\dt (jL z 200) (jL z 200) (z.i 23=z.i 23/\z.i 22=z.i 22/\z.i 21=z.i 21/\v0=v0/\z.g 24=z.g 24/\True))) ((ck (z.g 24) (0:Int)=0/\fo (z.g 24)/\(z.g 24).length<=200)/\((0:Int)<=0/\0<=v0)/\0+(jd (z.g 24) (0:Int)).length<=20000000) (fun y0=>y0.s 20= []++jd (z.g 24) (0:Int)) fun y0=>(.an ((y0.s 20).length=(y0.s 20).length/\True) (.at ((0<(↑(y0.s 20).length:Int)↔0<(jd (z.g 24) 0).length)/\y0.s 20=jd (z.g 24) (0:Int)))))):=by
 dsimp only [abP,bk,hs,lE] at hA
 have a1:=@PT (z.g 24)
 conv=>zeta
 repeat' with_reducible first|intro _|apply aV|apply aZ|apply aT|apply bf|apply ba
 all_goals first|omega|grind [am,ai,ah,az,aA,aB,aC,aD,aE,aF,aG,aH,ao,List.append_assoc,dV,bM,Ve]
theorem acu:Ok Tryz.prog 128 abP:=bS 1000 mN eN (eL (ptm:=[(0,.ag bk)]) acd lN) (hn:=.nil) aco
noncomputable section
end
noncomputable section
def xB:Nat->List G->List G
 |0,l=>l
 |k+1,l=>l.map fun g=>.node [.int (gI (aa g 0)),.int (gI (aa g 1)),.int (gI (aa g 2)),.str (gS (aa g 3)),.node (gL (aa g 4)),.node (xB k (gL (aa g 5)))]
def Uf(k:Nat)(g:G):G:=.node [.int (gI (aa g 0)),.int (gI (aa g 1)),.int (gI (aa g 2)),.str (gS (aa g 3)),.node (gL (aa g 4)),.node (xB k (gL (aa g 5)))]
theorem Mu(k:Nat)(g:G):Uf k g= .node [.int (gI (aa g 0)),.int (gI (aa g 1)),.int (gI (aa g 2)),.str (gS (aa g 3)),.node (gL (aa g 4)),.node (xB k (gL (aa g 5)))]:=rfl
def A3(k:Nat)(l:List G)(i:Int):List G:=(l.drop i.toNat).map (Uf k)
theorem AK{k:Nat}{l:List G}{i:Int}(h0:0<=i)(h:i<l.length):A3 k l i=Uf k (aq l i.toNat)::A3 k l (i+1):=by unfold A3;rw[C6 h0 h];rfl
theorem Fj{k:Nat}{l:List G}{i:Int}(h:(l.length:Int)<=i):A3 k l i= []:=by unfold A3;rw[aaK (by omega)];rfl
theorem AL(k:Nat)(l:List G):xB (k+1) l=A3 k l 0:=rfl
def Hy(ns ks:List G):Prop:=ns.length=0/\ks.length=0
def Tf(p:Sy):List BSh:=[.cells 46 [.pi .i64 (p.i 1),.pi .i64 (p.i 2),.pi .i64 (p.i 3),.ps (p.s 4),.v 1 15,.pv 2 (p.g 6)],.grow 2 46 20,.cells 46 [.i .i64 51,.i .i64 52,.i .i64 53,.s 54,.v 1 55,.v 2 56]]
def rM(k:Nat)(p:Sy):LSpec:={tmps:=[(1,.c (.p 0)),(2,.c (.p 2)),(3,.c (.g 1 6 20)),(4,.c (.i .i64 9))],blk:=Tf p,inv:=fun z=>ci k (p.g 6) 0=0/\(p.g 6).length<=1000/\(0<=z.i 9/\z.i 9<=(p.g 6).length)/\(z.g 20).length<=z.i 9,mu:=fun z=>((p.g 6).length-z.i 9).toNat,alts:=[⟨.exit 0,[(1,.c (.p 0)),(2,.c (.p 2)),(3,.c (.g 1 6 20))],Tf p⟩],post:=fun z y=>y.g 15=z.g 15/\y.g 20=z.g 20++A3 k (p.g 6) (z.i 9)}
def WT:List Sh:=[.i .i64 11,.i .i64 12,.i .i64 13,.s 14,.v 1 15,.v 2 16]
def om(k:Nat):FSpec:={args:=[.ag va],blk:=[],pre:=fun z=>tT k z=0∨(k=16/\Hy (z.g 5) (z.g 6)),res:=fun _=>.one (.ag WT),out:=fun _=>[],post:=fun z y=>y.i 11=z.i 1/\y.i 12=z.i 2/\y.i 13=z.i 3/\y.s 14=z.s 4/\y.g 15=z.g 5/\y.g 16=xB k (z.g 6)}
theorem Tg{kd i sc:Int}{t:List Nat}{ns ks:List G}(h:nO kd i sc t ns ks=0):ns.length<=200:=by
 obtain⟨h1,h2,h3,h4⟩:=iL h
 have hd:(kd<1∨9<kd)∨kd=1∨kd=2∨kd=3∨kd=4∨kd=5∨kd=6∨kd=7∨kd=8∨kd=9:=by omega
 rcases hd with e|e|e|e|e|e|e|e|e|e
 ·exact absurd h1 (tR e)
 ·have:=(EG e).1 h1;omega
 ·have:=(EH e).1 h1;omega
 ·have:=(zH e).1 h1;omega
 ·have:=(EI e).1 h1;omega
 ·have:=(tQ e).1 h1;omega
 ·have:=(EJ e).1 h1;omega
 ·have:=(EK e).1 h1;omega
 ·have:=(EL e).1 h1;omega
 ·have:=(h4 e).2;omega
theorem Mv{k:Nat}{kd i sc:Int}{t:List Nat}{ns ks:List G}(h:dw (k+1) kd i sc t ns ks=0∨(k+1=16/\Hy ns ks)):ci k ks 0=0/\ks.length<=1000/\ns.length<=1000:=by
 rcases h with h|⟨_,h1,h2⟩
 ·by_cases hv:nO kd i sc t ns ks=0
  ·obtain⟨h1,h2,h3,h4⟩:=iL hv
   have h5:=Tg hv
   rw[jM hv] at h
   exact⟨h,by omega,by omega⟩
  ·rw[iM hv] at h;exact absurd h hv
 ·rw[List.length_eq_zero_iff] at h2
  subst h2
  exact⟨po (by simp),by simp,by omega⟩
def Rf(e:G):G:=.node [.int (gI (aa e 0)),.str (gS (aa e 1)),.int (gI (aa e 2)),.int (gI (aa e 3)),.int (gI (aa e 4)),.int (gI (aa e 5)),.int (gI (aa e 6)),.int (gI (aa e 7)),.str (gS (aa e 8)),.node (gL (aa e 9)),.node (xB 16 (gL (aa e 10))),hX (aa e 11),.int (pI (gI (aa e 12)=1)),.int (gI (aa e 13)),.int (gI (aa e 14))]
theorem Mw(e:G):Rf e= .node [.int (gI (aa e 0)),.str (gS (aa e 1)),.int (gI (aa e 2)),.int (gI (aa e 3)),.int (gI (aa e 4)),.int (gI (aa e 5)),.int (gI (aa e 6)),.int (gI (aa e 7)),.str (gS (aa e 8)),.node (gL (aa e 9)),.node (xB 16 (gL (aa e 10))),hX (aa e 11),.int (pI (gI (aa e 12)=1)),.int (gI (aa e 13)),.int (gI (aa e 14))]:=rfl
def jW(l:List G)(i:Int):List G:=(l.drop i.toNat).map Rf
theorem Hz{l:List G}{i:Int}(h0:0<=i)(h:i<l.length):jW l i=Rf (aq l i.toNat)::jW l (i+1):=by unfold jW;rw[C6 h0 h];rfl
theorem Mx{l:List G}{i:Int}(h:(l.length:Int)<=i):jW l i= []:=by unfold jW;rw[aaK (by omega)];rfl
theorem Th{kd i sc:Int}{t:List Nat}{ns ks:List G}(h:c_ kd i sc t ns ks):Hy ns ks:=by
 obtain⟨_,_,_,_,h1,h2⟩:=(br kd i sc t ns ks).1 h
 exact⟨h1,h2⟩
theorem Ti{kd:Int}{tx:List Nat}{tb dc vr:Int}{bl hz gn:Prop}{ab ae:Int}(h:dE kd tx tb dc vr bl hz gn ab ae)(hk:¬(kd=2/\¬gn)):bl:=by
 obtain⟨h1,h2⟩:=Ln h
 have hd:kd=1∨kd=2∨kd=3∨kd=4∨kd=5∨kd=6∨kd=7:=by omega
 rcases hd with e|e|e|e|e|e|e
 ·exact((Aa e).1 h).2.2.2.2.1
 ·exact((Ab e).1 h).2.2.2.2.2.2 (Classical.not_not.1 fun q=>hk ⟨e,q⟩)
 ·exact((EV e).1 h).2.2.2.2.1
 ·exact((EW e).1 h).2.2.2.2.2.2.1
 ·exact((EX e).1 h).2.2.2.2.1
 ·exact((EZ e).1 h).2.2.2.2.1
 ·exact((EY e).1 h).2.2.2.2.1
theorem Vf{e:G}(h:nV e=0):dw 16 (gI (aa e 5)) (gI (aa e 6)) (gI (aa e 7)) (gS (aa e 8)) (gL (aa e 9)) (gL (aa e 10))=0∨Hy (gL (aa e 9)) (gL (aa e 10)):=by
 obtain⟨h1,h2⟩:=cg h
 by_cases hk:gI (aa e 0)=2/\¬gI (aa e 12)=1
 ·exact .inl (ES (h2 hk)).1
 ·exact .inr (Th (Ti h1 hk))
theorem Fk{es:List G}{i:Int}(h:lE es)(h0:0<=i)(hi:i<es.length):dw 16 (gI (aa (aq es i.toNat) 5)) (gI (aa (aq es i.toNat) 6)) (gI (aa (aq es i.toNat) 7)) (gS (aa (aq es i.toNat) 8)) (gL (aa (aq es i.toNat) 9)) (gL (aa (aq es i.toNat) 10))=0∨((16:Nat)=16/\Hy (gL (aa (aq es i.toNat) 9)) (gL (aa (aq es i.toNat) 10))):=
 (Vf (fq h.1 h0 hi)).imp id fun h=>⟨rfl,h⟩
theorem PV{es:List G}(h:lE es):es.length<=200:=h.2.2
def Xj:List Sh:=[.i .i64 31,.i .i64 32,.i .i64 33]++hs 400++ [.v 7 34]
def Tj(p:Sy):List BSh:=[.cells 41 (tW p),.grow 7 48 20,.cells 41 ([.i .i64 61,.i .i64 62,.i .i64 63]++hs 500++ [.v 7 64])]
def oo(p:Sy):LSpec:={tmps:=[(1,.c (.p 0)),(2,.c (.p 2)),(3,.c (.g 1 46 20)),(4,.c (.i .i64 9))],blk:=Tj p,inv:=fun z=>lE (p.g 24)/\(0<=z.i 9/\z.i 9<=(p.g 24).length)/\(z.g 20).length<=z.i 9,mu:=fun z=>((p.g 24).length-z.i 9).toNat,alts:=[⟨.exit 0,[(1,.c (.p 0)),(2,.c (.p 2)),(3,.c (.g 1 46 20))],Tj p⟩],post:=fun z y=>y.g 20=z.g 20++jW (p.g 24) (z.i 9)}
def wS:FSpec:={args:=[.ag bk],blk:=[],pre:=fun z=>lE (z.g 24),res:=fun _=>.one (.ag Xj),out:=fun _=>[],post:=fun z y=>y.i 31=z.i 21/\y.i 32=z.i 22/\y.i 33=z.i 23/\hT y 400=hT z 200/\y.g 34=jW (z.g 24) 0}
end
theorem C7(k:Nat)(p z:Sy)(hA:((rM k) p).inv z):Fm.den (let v0:=(aq (p.g 6) (z.i 9).toNat);let v1:=(gL (aa v0 5));let v2:=(gL (aa v0 4));(.two (z.i 9 < ↑(p.g 6).length) (.an ((0:Int)<=z.i 9/\z.i 9 < ↑(p.g 6).length) (.an (True/\(dw k (gI (aa v0 0)) (gI (aa v0 1)) (gI (aa v0 2)) (gS (aa v0 3)) v2 v1=(0:Int)∨k=16/\Hy v2 v1)) (.al (fun y0=>dw k (gI (aa v0 0)) (gI (aa v0 1)) (gI (aa v0 2)) (gS (aa v0 3)) v2 v1=(0:Int)∨k=16/\Hy v2 v1->y0.i 11=gI (aa v0 0)/\y0.i 12=gI (aa v0 1)/\y0.i 13=gI (aa v0 2)/\y0.s 14=gS (aa v0 3)/\y0.g 15=gL (aa v0 4)/\y0.g 16=xB k v1) fun y0=>(let v3:=(z.g 20++ [G.node [G.int (y0.i 11),G.int (y0.i 12),G.int (y0.i 13),G.str (y0.s 14),G.node (y0.g 15),G.node (y0.g 16)]]);(.an ((z.g 20).length=(z.g 20).length/\(z.g 20).length<=1000000000/\True) (.an ((-9223372036854775808:Int)<=z.i 9+1/\z.i 9+1<=9223372036854775807) (.an (v3.length=(z.g 20).length+1/\p.g 6=p.g 6/\p.s 4=p.s 4/\p.i 3=p.i 3/\p.i 2=p.i 2/\p.i 1=p.i 1/\True) (.at ((ci k (p.g 6) (0:Int)=0/\(p.g 6).length<=1000/\((0:Int)<=z.i 9+1/\z.i 9+1<= ↑(p.g 6).length)/\(↑v3.length:Int)<=z.i 9+1)/\((↑(p.g 6).length:Int)-(z.i 9+1)).toNat<((↑(p.g 6).length:Int)-z.i 9).toNat/\∀(y:Sy),y.g 15=z.g 15/\y.g 20=z.g 20++ [G.node [G.int (y0.i 11),G.int (y0.i 12),G.int (y0.i 13),G.str (y0.s 14),G.node (y0.g 15),G.node (y0.g 16)]]++A3 k (p.g 6) (z.i 9+(1:Int))->y.g 15=z.g 15/\y.g 20=z.g 20++A3 k (p.g 6) (z.i 9)))))))))) (.an ((z.g 20).length=(z.g 20).length/\p.g 6=p.g 6/\p.s 4=p.s 4/\p.i 3=p.i 3/\p.i 2=p.i 2/\p.i 1=p.i 1/\True) (.at (z.g 15=z.g 15/\z.g 20=z.g 20++A3 k (p.g 6) (z.i 9)))))):=by
 dsimp only [rM,Tf] at hA
 have a1:=@AK k (p.g 6) (z.i 9)
 have a2:=@Fj k (p.g 6) (z.i 9)
 have a3:=@iN k (p.g 6) (z.i 9)
 have a4:=gE k (aq (p.g 6) (z.i 9).toNat)
 have a5:=Mu k (aq (p.g 6) (z.i 9).toNat)
 conv=>zeta
 repeat' with_reducible first|intro _|apply aV|apply aZ|apply aT|apply bf|apply ba
 all_goals first|omega|grind [am,ai,ah,az,aA,aB,aC,aD,aE,aF,aG,aH,ao,List.append_assoc]
theorem HA(k:Nat)(ae4:Ok Tryz.prog 119 (om k)):dU Tryz.prog 119 0 (rM k):=bH 1000 mN (eK ae4 eN) lN (hn:=(.both (.yes .nil) .nil)) (C7 k)
theorem My(k:Nat)(z:Sy)(hA:(om (k+1)).pre z):Fm.den ((.an (0=0/\0<=1000000000/\(z.g 5).length<=1000000) (.an (([]++z.g 5).length=0+(z.g 5).length) (.cl ((0=0/\z.g 6=z.g 6/\z.s 4=z.s 4/\z.i 3=z.i 3/\z.i 2=z.i 2/\z.i 1=z.i 1/\True)) (ci k (z.g 6) (0:Int)=0/\(z.g 6).length<=1000/\((0:Int)<=0/\0<=(↑(z.g 6).length:Int))/\(↑0:Int)<=0) (fun y0=>y0.g 15= []++z.g 5/\y0.g 20= []++A3 k (z.g 6) (0:Int)) fun y0=>(.an ((y0.g 20).length=(y0.g 20).length/\True) (.at (z.i 1=z.i 1/\z.i 2=z.i 2/\z.i 3=z.i 3/\z.s 4=z.s 4/\y0.g 15=z.g 5/\y0.g 20=xB (k+1) (z.g 6)))))))):=by
 dsimp only [om,va,tT,WT] at hA
 have a1:=@Mv k (z.i 1) (z.i 2) (z.i 3) (z.s 4) (z.g 5) (z.g 6)
 have a2:=AL k (z.g 6)
 repeat' with_reducible first|intro _|apply aV|apply aZ|apply aT|apply bf|apply ba
 all_goals first|omega|grind [am,ai,ah,az,aA,aB,aC,aD,aE,aF,aG,aH,ao,List.append_assoc]
theorem AM:∀k,Ok Tryz.prog 119 (om k)
 |0=>NM fun z h=>h.elim (fun h=>absurd ((fU _ _ _ _ _ _).symm.trans h) (by decide)) fun h=>absurd h.1 (by decide)
 |k+1=>bS 1000 mN eN (eL (ptm:=[(0,.ag va)]) (HA k (AM k)) lN) (hn:=.nil) (My k)
theorem AN(p z:Sy)(hA:(oo p).inv z):Fm.den (let v0:=(aq (p.g 24) (z.i 9).toNat);let v1:=(p.i 23=p.i 23/\p.i 22=p.i 22/\p.i 21=p.i 21/\True);let v2:=(pI (gI (aa v0 12)=(1:Int)));let v3:=(gL (aa v0 10));let v4:=(gL (aa v0 9));let v5:=(gI (aa v0 13));let v6:=(gI (aa v0 14));let v7:=(jL p 200);let v8:=(gI (aa v0 0));let v9:=(gS (aa v0 1));(.two (z.i 9 < ↑(p.g 24).length) (.an ((0:Int)<=z.i 9/\z.i 9 < ↑(p.g 24).length) (.an (True/\(dw 16 (gI (aa v0 5)) (gI (aa v0 6)) (gI (aa v0 7)) (gS (aa v0 8)) v4 v3=(0:Int)∨16=16/\Hy v4 v3)) (.al (fun y0=>dw 16 (gI (aa v0 5)) (gI (aa v0 6)) (gI (aa v0 7)) (gS (aa v0 8)) v4 v3=(0:Int)∨16=16/\Hy v4 v3->y0.i 11=gI (aa v0 5)/\y0.i 12=gI (aa v0 6)/\y0.i 13=gI (aa v0 7)/\y0.s 14=gS (aa v0 8)/\y0.g 15=gL (aa v0 9)/\y0.g 16=xB 16 v3) fun y0=>(let v10:=(z.g 20++ [G.node [G.int v8,G.str v9,G.int (gI (aa v0 2)),G.int (gI (aa v0 3)),G.int (gI (aa v0 4)),G.int (y0.i 11),G.int (y0.i 12),G.int (y0.i 13),G.str (y0.s 14),G.node (y0.g 15),G.node (y0.g 16),hX (aa v0 11),G.int v2,G.int v5,G.int v6]]);(.an ((z.g 20).length=(z.g 20).length/\(z.g 20).length<=1000000000/\True) (.an ((-9223372036854775808:Int)<=z.i 9+1/\z.i 9+1<=9223372036854775807) (.an (v10.length=(z.g 20).length+1/\p.g 24=p.g 24/\dt v7 v7 v1) (.at (((ck (p.g 24) (0:Int)=0/\fo (p.g 24)/\(p.g 24).length<=200)/\((0:Int)<=z.i 9+1/\z.i 9+1<= ↑(p.g 24).length)/\(↑v10.length:Int)<=z.i 9+1)/\((↑(p.g 24).length:Int)-(z.i 9+1)).toNat<((↑(p.g 24).length:Int)-z.i 9).toNat/\∀(y:Sy),y.g 20=z.g 20++ [G.node [G.int v8,G.str v9,G.int (gI (aa v0 2)),G.int (gI (aa v0 3)),G.int (gI (aa v0 4)),G.int (y0.i 11),G.int (y0.i 12),G.int (y0.i 13),G.str (y0.s 14),G.node (y0.g 15),G.node (y0.g 16),hX (aa v0 11),G.int v2,G.int v5,G.int v6]]++jW (p.g 24) (z.i 9+1)->y.g 20=z.g 20++jW (p.g 24) (z.i 9)))))))))) (.an ((z.g 20).length=(z.g 20).length/\p.g 24=p.g 24/\dt v7 v7 v1) (.at (z.g 20=z.g 20++jW (p.g 24) (z.i 9)))))):=by
 dsimp only [oo,Tj,tW,Ae,hs,lE] at hA
 have a1:=@Hz (p.g 24) (z.i 9)
 have a2:=@Mx (p.g 24) (z.i 9)
 have a3:=@Fk (p.g 24) (z.i 9)
 have a5:=Mw (aq (p.g 24) (z.i 9).toNat)
 conv=>zeta
 repeat' with_reducible first|intro _|apply aV|apply aZ|apply aT|apply bf|apply ba
 all_goals first|omega|grind [am,ai,ah,az,aA,aB,aC,aD,aE,aF,aG,aH,ao,List.append_assoc]
theorem C8:dU Tryz.prog 57 0 oo:=bH 1000 mN (eK (AM 16) eN) lN (hn:=(.both (.yes .nil) .nil)) AN
theorem HB(z:Sy)(hA:wS.pre z):Fm.den ((.cl ((0=0/\z.g 24=z.g 24/\dt (jL z 200) (jL z 200) (z.i 23=z.i 23/\z.i 22=z.i 22/\z.i 21=z.i 21/\True))) ((ck (z.g 24) (0:Int)=0/\fo (z.g 24)/\(z.g 24).length<=200)/\((0:Int)<=0/\0<=(↑(z.g 24).length:Int))/\(↑0:Int)<=0) (fun y0=>y0.g 20= []++jW (z.g 24) (0:Int)) fun y0=>(.an ((y0.g 20).length=(y0.g 20).length/\True) (.at (z.i 21=z.i 21/\z.i 22=z.i 22/\z.i 23=z.i 23/\hT z 200=hT z 200/\y0.g 20=jW (z.g 24) (0:Int)))))):=by
 dsimp only [wS,bk,hs,lE,Xj] at hA
 have a1:=@PV (z.g 24)
 repeat' with_reducible first|intro _|apply aV|apply aZ|apply aT|apply bf|apply ba
 all_goals first|omega|grind [am,ai,ah,az,aA,aB,aC,aD,aE,aF,aG,aH,ao,List.append_assoc]
theorem AO:Ok Tryz.prog 57 wS:=bS 1000 mN eN (eL (ptm:=[(0,.ag bk)]) C8 lN) (hn:=.nil) HB
noncomputable section
def Vg(es:List G):Prop:=∀e∈es,Rf e=e
theorem Tl{es:List G}{i:Int}(h:Vg es)(h0:0<=i)(hi:i<es.length):Rf (aq es i.toNat)=aq es i.toNat:=h _ (bZ h0 hi)
theorem PW{es:List G}{i:Int}{g:G}(h0:0<=i)(hi:i<es.length)(e:g=aq es i.toNat):es.set i.toNat g=es:=by
 subst e
 have h1:i.toNat<es.length:=by omega
 unfold aq
 rw[aag,aah h1]
 exact List.set_getElem_self h1
theorem PX{es:List G}{i:Int}(h:Vg es)(h0:0<=i)(hi:i<es.length):es.set i.toNat (Rf (aq es i.toNat))=es:=PW h0 hi (Tl h h0 hi)
theorem Fl{es:List G}(h:Vg es):jW es 0=es:=by
 unfold jW
 show(es.drop 0).map Rf=es
 rw[aaL]
 exact(List.map_congr_left h).trans (List.map_id' es)
def wT:FSpec:={args:=[.c (.v 1 5)],blk:=[],pre:=fun z=>(z.g 5).length<=1000000,res:=fun _=>.one (.c (.v 1 20)),out:=fun _=>[],post:=fun z y=>y.g 20=z.g 5}
def wU:FSpec:={args:=[.c (.v 7 24)],blk:=[],pre:=fun z=>(z.g 24).length<=1000000,res:=fun _=>.one (.c (.g 0 46 20)),out:=fun _=>[.grow 7 48 20],post:=fun z y=>y.g 20=z.g 24}
def wV(k:Nat)(p:Sy):LSpec:={tmps:=[(1,.c (.p 0)),(3,.c (.g 1 6 20)),(11,.c (.pv 2 (p.g 6))),(12,.c (.pi .i64 (p.g 6).length)),(13,.c (.i .i64 9))],blk:=[.cells 46 [.pi .i64 (p.i 1),.pi .i64 (p.i 2),.pi .i64 (p.i 3),.ps (p.s 4),.v 1 15,.pv 2 (p.g 6)],.grow 2 46 20],inv:=fun z=>ci k (p.g 6) 0=0/\(p.g 6).length<=1000/\(0<=z.i 9/\z.i 9<=(p.g 6).length)/\(z.g 20).length<=z.i 9,mu:=fun z=>((p.g 6).length-z.i 9).toNat,alts:=[⟨.exit 0,[(1,.c (.p 0)),(3,.c (.g 1 6 20))],[.cells 46 [.pi .i64 (p.i 1),.pi .i64 (p.i 2),.pi .i64 (p.i 3),.ps (p.s 4),.v 1 15,.pv 2 (p.g 6)],.grow 2 46 20]⟩],post:=fun z y=>y.g 15=z.g 15/\y.g 20=z.g 20++A3 k (p.g 6) (z.i 9),keep:=[2]}
def Fo(k:Nat):FSpec:=om k
end
theorem HC(z:Sy)(hA:wU.pre z):Fm.den (let v0:=(0=0/\0<=1000000000/\(z.g 24).length<=1000000);let v1:=(([]++z.g 24).length=0+(z.g 24).length/\True);(.two (pF (iD bL z (Sa.c (Sh.v 7 24)))=0) (.al (fun y0=>True) fun y0=>(.two (y0.p 0) (.an (0=0/\True) (.at ([]=z.g 24))) (.an v0 (.an v1 (.at ([]++z.g 24=z.g 24)))))) (.an v0 (.an v1 (.at ([]++z.g 24=z.g 24)))))):=by
 dsimp only [wU] at hA
 have a1:pF (iD bL z (Sa.c (Sh.v 7 24)))=(z.g 24).length:=rfl
 have a2:(z.g 24).length=0-> []=z.g 24:=fun h=>(List.length_eq_zero_iff.1 h).symm
 conv=>zeta
 repeat' with_reducible first|intro _|apply aV|apply aZ|apply aT|apply bf|apply ba
 all_goals first|omega|grind [am,ai,ah,az,aA,aB,aC,aD,aE,aF,aG,aH,ao,List.append_assoc]
theorem Mz:Ok Tryz.prog 123 wU:=WD 1000 (t0:=20) (D:=fun z=>.g (z.g 24)) mN eN lN (hn:=(hC 5 5)) HC
theorem HD(z:Sy)(hA:wT.pre z):Fm.den (let v0:=(0=0/\0<=1000000000/\(z.g 5).length<=1000000);let v1:=(([]++z.g 5).length=0+(z.g 5).length/\True);(.two (pF (iD bL z (Sa.c (Sh.v 1 5)))=0) (.al (fun y0=>True) fun y0=>(.two (y0.p 0) (.ax ([]=z.g 5)) (.an v0 (.an v1 (.at ([]++z.g 5=z.g 5)))))) (.an v0 (.an v1 (.at ([]++z.g 5=z.g 5)))))):=by
 dsimp only [wT] at hA
 have a1:pF (iD bL z (Sa.c (Sh.v 1 5)))=(z.g 5).length:=rfl
 have a2:(z.g 5).length=0-> []=z.g 5:=fun h=>(List.length_eq_zero_iff.1 h).symm
 conv=>zeta
 repeat' with_reducible first|intro _|apply aV|apply aZ|apply aT|apply bf|apply ba
 all_goals first|omega|grind [am,ai,ah,az,aA,aB,aC,aD,aE,aF,aG,aH,ao,List.append_assoc]
theorem MA:Ok Tryz.prog 185 wT:=WD 1000 (t0:=20) (D:=fun z=>.g (z.g 5)) mN eN lN (hn:=(hC 5 5)) HD
theorem HE(k:Nat)(p z:Sy)(hA:((wV k) p).inv z):Fm.den (let v0:=(aq (p.g 6) (z.i 9).toNat);let v1:=(↑(p.g 6).length:Int);let v2:=(gL (aa v0 5));let v3:=(gL (aa v0 4));(.two (z.i 9 < ↑(p.g 6).length) (.an ((0:Int)<=z.i 9/\z.i 9 < ↑(p.g 6).length) (.an (True/\(dw k (gI (aa v0 0)) (gI (aa v0 1)) (gI (aa v0 2)) (gS (aa v0 3)) v3 v2=(0:Int)∨k=16/\Hy v3 v2)) (.al (fun y0=>dw k (gI (aa v0 0)) (gI (aa v0 1)) (gI (aa v0 2)) (gS (aa v0 3)) v3 v2=(0:Int)∨k=16/\Hy v3 v2->y0.i 11=gI (aa v0 0)/\y0.i 12=gI (aa v0 1)/\y0.i 13=gI (aa v0 2)/\y0.s 14=gS (aa v0 3)/\y0.g 15=gL (aa v0 4)/\y0.g 16=xB k v2) fun y0=>(let v4:=(z.g 20++ [G.node [G.int (y0.i 11),G.int (y0.i 12),G.int (y0.i 13),G.str (y0.s 14),G.node (y0.g 15),G.node (y0.g 16)]]);(.an ((z.g 20).length=(z.g 20).length/\(z.g 20).length<=1000000000/\True) (.an ((-9223372036854775808:Int)<=z.i 9+1/\z.i 9+1<=9223372036854775807) (.an (v4.length=(z.g 20).length+1/\p.g 6=p.g 6/\p.s 4=p.s 4/\p.i 3=p.i 3/\p.i 2=p.i 2/\p.i 1=p.i 1/\v1=v1/\p.g 6=p.g 6/\True) (.at ((ci k (p.g 6) (0:Int)=0/\(p.g 6).length<=1000/\((0:Int)<=z.i 9+1/\z.i 9+1<= ↑(p.g 6).length)/\(↑v4.length:Int)<=z.i 9+1)/\(v1-(z.i 9+1)).toNat<(v1-z.i 9).toNat/\∀(y:Sy),y.g 15=z.g 15/\y.g 20=z.g 20++ [G.node [G.int (y0.i 11),G.int (y0.i 12),G.int (y0.i 13),G.str (y0.s 14),G.node (y0.g 15),G.node (y0.g 16)]]++A3 k (p.g 6) (z.i 9+(1:Int))->y.g 15=z.g 15/\y.g 20=z.g 20++A3 k (p.g 6) (z.i 9)))))))))) (.an ((z.g 20).length=(z.g 20).length/\p.g 6=p.g 6/\p.s 4=p.s 4/\p.i 3=p.i 3/\p.i 2=p.i 2/\p.i 1=p.i 1/\True) (.at (z.g 15=z.g 15/\z.g 20=z.g 20++A3 k (p.g 6) (z.i 9)))))):=by
 dsimp only [wV] at hA
 have a1:=@AK k (p.g 6) (z.i 9)
 have a2:=@Fj k (p.g 6) (z.i 9)
 have a3:=@iN k (p.g 6) (z.i 9)
 have a4:=gE k (aq (p.g 6) (z.i 9).toNat)
 have a5:=Mu k (aq (p.g 6) (z.i 9).toNat)
 conv=>zeta
 repeat' with_reducible first|intro _|apply aV|apply aZ|apply aT|apply bf|apply ba
 all_goals first|omega|grind [am,ai,ah,az,aA,aB,aC,aD,aE,aF,aG,aH,ao,List.append_assoc]
theorem MB(k:Nat)(ah3:Ok Tryz.prog 124 (Fo k)):dU Tryz.prog 124 0 (wV k):=bH 1000 mN (eK ah3 eN) lN (hn:=(.both (.yes .nil) .nil)) (HE k)
theorem PY(k:Nat)(z:Sy)(hA:(Fo (k+1)).pre z):Fm.den (let v0:=(↑(z.g 6).length:Int);(.ct ((z.g 5).length<=1000000) (fun y0=>y0.g 20=z.g 5) fun y0=>(.cl ((0=0/\z.g 6=z.g 6/\z.s 4=z.s 4/\z.i 3=z.i 3/\z.i 2=z.i 2/\z.i 1=z.i 1/\v0=v0/\z.g 6=z.g 6/\True)) (ci k (z.g 6) (0:Int)=0/\(z.g 6).length<=1000/\((0:Int)<=0/\0<=v0)/\(↑0:Int)<=0) (fun y1=>y1.g 15=y0.g 20/\y1.g 20= []++A3 k (z.g 6) (0:Int)) fun y1=>(.an ((y1.g 20).length=(y1.g 20).length/\True) (.at (z.i 1=z.i 1/\z.i 2=z.i 2/\z.i 3=z.i 3/\z.s 4=z.s 4/\y1.g 15=z.g 5/\y1.g 20=xB (k+1) (z.g 6))))))):=by
 dsimp only [Fo,om,va,tT,WT] at hA
 have a1:=@Mv k (z.i 1) (z.i 2) (z.i 3) (z.s 4) (z.g 5) (z.g 6)
 have a2:=AL k (z.g 6)
 conv=>zeta
 repeat' with_reducible first|intro _|apply aV|apply aZ|apply aT|apply bf|apply ba
 all_goals first|omega|grind [am,ai,ah,az,aA,aB,aC,aD,aE,aF,aG,aH,ao,List.append_assoc]
theorem Fp:∀k,Ok Tryz.prog 124 (Fo k)
 |0=>NM fun z h=>h.elim (fun h=>absurd ((fU _ _ _ _ _ _).symm.trans h) (by decide)) fun h=>absurd h.1 (by decide)
 |k+1=>bS 1000 mN (eK MA eN) (eL (ptm:=[(0,.ag va)]) (MB k (Fp k)) lN) (hn:=.nil) (PY k)
noncomputable section
abbrev Ug(i:Int)(t:List Nat)(ns ks:List G):Prop:=(-9223372036854775808<=i/\i<9223372036854775808)/\t.length<=1125899906842624/\ns.length<=1125899906842624/\ks.length<=1125899906842624
def PZ:Nat->G->Prop
 |0,g=>Ug (gI (aa g 1)) (gS (aa g 3)) (gL (aa g 4)) (gL (aa g 5))
 |k+1,g=>Ug (gI (aa g 1)) (gS (aa g 3)) (gL (aa g 4)) (gL (aa g 5))/\∀x∈gL (aa g 5),PZ k x
def oX(k:Nat)(ks:List G):Prop:=∀x∈ks,PZ k x
def Uh(k:Nat)(i:Int)(t:List Nat)(ns ks:List G):Prop:=match k with
 |0=>Ug i t ns ks
 |k+1=>Ug i t ns ks/\oX k ks
theorem MC(k:Nat)(g:G):Uh k (gI (aa g 1)) (gS (aa g 3)) (gL (aa g 4)) (gL (aa g 5))=PZ k g:=by cases k <;> rfl
theorem P0{k:Nat}{i:Int}{t:List Nat}{ns ks:List G}(h:Uh (k+1) i t ns ks):Ug i t ns ks/\oX k ks:=h
theorem MD{k:Nat}{ks:List G}{i:Int}(h:oX k ks)(h0:0<=i)(hi:i<ks.length):PZ k (aq ks i.toNat):=h _ (bZ h0 hi)
def sb:Nat->G->Nat
 |0,_=>0
 |k+1,g=>1+(gS (aa g 3)).length/20+(gL (aa g 4)).length+((gL (aa g 5)).map (sb k)).sum
def mX(k:Nat)(ks:List G)(i:Int):Nat:=((ks.drop i.toNat).map (sb k)).sum
theorem rN{k:Nat}{ks:List G}{i:Int}(h0:0<=i)(h:i<ks.length):mX k ks i=sb k (aq ks i.toNat)+mX k ks (i+1):=by
 unfold mX;rw[dQ h0 h];rfl
theorem wW{k:Nat}{ks:List G}{i:Int}(h:(ks.length:Int)<=i):mX k ks i=0:=by unfold mX;rw[aaK (by omega)];rfl
def Tn(k:Nat)(t:List Nat)(ns ks:List G):Nat:=match k with
 |0=>0
 |k+1=>1+t.length/20+ns.length+mX k ks 0
theorem MF(k:Nat)(g:G):Tn k (gS (aa g 3)) (gL (aa g 4)) (gL (aa g 5))=sb k g:=by cases k <;> rfl
theorem MG(k:Nat)(t:List Nat)(ns ks:List G):Tn (k+1) t ns ks=1+t.length/20+ns.length+mX k ks 0:=rfl
def wX(k:Nat):FSpec:={args:=[.ag va,.c (.p 0)],blk:=[.cells 3 [.i .i64 20]],pre:=fun z=>Uh k (z.i 2) (z.s 4) (z.g 5) (z.g 6)/\(0<=z.i 20/\z.i 20<=3000000000000000)/\1001<=z.i 20+k/\1<=k,res:=fun _=>.one (.c (.b 10)),out:=fun _=>[.cells 3 [.i .i64 21]],post:=fun z y=>(y.p 10↔1000<y.i 21)/\z.i 20<y.i 21/\y.i 21<=5000000000000000/\(y.i 21<=1000->y.i 21=z.i 20+Tn k (z.s 4) (z.g 5) (z.g 6))}
def rO(k:Nat)(p:Sy):LSpec:={tmps:=[(1,.c (.p 1)),(2,.c (.p 0)),(5,.c (.i .i64 9))],blk:=[.cells 46 (vp p),.cells 3 [.i .i64 20]],inv:=fun z=>oX k (p.g 6)/\(p.g 6).length<=1125899906842624/\(0<=z.i 9/\z.i 9<=(p.g 6).length)/\(0<=z.i 20/\z.i 20<=5000000000000000)/\1001<=z.i 20+k,mu:=fun z=>((p.g 6).length-z.i 9).toNat,alts:=[⟨.exit 0,[(1,.c (.p 1))],[.cells 46 (vp p),.cells 3 [.i .i64 21]]⟩],post:=fun z y=>(z.i 20<=y.i 21/\y.i 21<=5000000000000000)/\(y.i 21<=1000->y.i 21=z.i 20+mX k (p.g 6) (z.i 9))}
def HF(l:List G):Prop:=∀r∈l,oX 1002 (gL (aa r 0))/\(gL (aa r 0)).length<=1125899906842624
theorem MH{l:List G}{i:Int}(h:HF l)(h0:0<=i)(hi:i<l.length):oX 1002 (gL (aa (aq l i.toNat) 0))/\(gL (aa (aq l i.toNat) 0)).length<=1125899906842624:=h _ (bZ h0 hi)
def xC(l:List G)(i:Int):Nat:=((l.drop i.toNat).map fun r=>2+mX 1002 (gL (aa r 0)) 0).sum
theorem rP{l:List G}{i:Int}(h0:0<=i)(h:i<l.length):xC l i=2+mX 1002 (gL (aa (aq l i.toNat) 0)) 0+xC l (i+1):=by
 unfold xC;rw[dQ h0 h];rfl
theorem Fq{l:List G}{i:Int}(h:(l.length:Int)<=i):xC l i=0:=by unfold xC;rw[aaK (by omega)];rfl
def rQ(p:Sy):LSpec:={tmps:=[(0,.c (.pv 13 (p.g 1))),(3,.c (.p 0)),(4,.c (.pi .i64 (p.i 8))),(5,.c (.i .i64 9))],blk:=[.cells 3 [.i .i64 20]],inv:=fun z=>HF (p.g 1)/\(0<=p.i 8/\p.i 8<(p.g 1).length)/\(0<=z.i 9/\z.i 9<=(gL (aa (aq (p.g 1) (p.i 8).toNat) 0)).length)/\(0<=z.i 20/\z.i 20<=3000000000000000),mu:=fun z=>((gL (aa (aq (p.g 1) (p.i 8).toNat) 0)).length-z.i 9).toNat,alts:=[⟨.exit 2,[(0,.c (.pv 13 (p.g 1))),(3,.c (.p 0)),(4,.c (.pi .i64 (p.i 8)))],[.cells 3 [.i .i64 21]]⟩,⟨.ret,[(2,.c (.b 10))],[.cells 3 [.i .i64 21]]⟩],post:=fun z y=>(y.i 999=0->y.i 21=z.i 20+mX 1002 (gL (aa (aq (p.g 1) (p.i 8).toNat) 0)) (z.i 9)/\(y.i 21=z.i 20∨y.i 21<=1000))/\(¬y.i 999=0->y.p 10)}
def rR(p:Sy):LSpec:={tmps:=[(0,.c (.pv 13 (p.g 1))),(3,.c (.p 0)),(4,.c (.i .i64 9))],blk:=[.cells 3 [.i .i64 20]],inv:=fun z=>HF (p.g 1)/\(p.g 1).length<=1125899906842624/\(0<=z.i 9/\z.i 9<=(p.g 1).length)/\(0<=z.i 20/\z.i 20<=1000+2 * z.i 9),mu:=fun z=>((p.g 1).length-z.i 9).toNat,alts:=[⟨.exit 0,[(0,.c (.pv 13 (p.g 1))),(3,.c (.p 0))],[.cells 3 [.i .i64 21]]⟩,⟨.ret,[(2,.c (.b 10))],[.cells 3 [.i .i64 21]]⟩],post:=fun z y=>(y.i 999=0->y.i 21=z.i 20+xC (p.g 1) (z.i 9))/\(¬y.i 999=0->y.p 10)}
def C9:FSpec:={args:=[.c (.v 13 1)],blk:=[],pre:=fun z=>HF (z.g 1)/\(z.g 1).length<=1125899906842624,res:=fun _=>.one (.c (.b 10)),out:=fun _=>[],post:=fun z y=>¬y.p 10->(z.g 1).length<=30/\xC (z.g 1) 0<=1000}
theorem wY{f:G->Nat}:∀{l:List G} {x:G},x∈l->f x<=(l.map f).sum
 |y::l,x,h=>by
  rw[aaB,List.sum_cons]
  rcases List.mem_cons.1 h with rfl|h
  ·omega
  ·have:=wY (f:=f) h;omega
theorem wZ{f:G->Nat}:∀{l:List G},(∀x∈l,1<=f x)->l.length<=(l.map f).sum
 | [],_=>aal _
 |y::l,h=>by
  rw[aaB,List.sum_cons,aao]
  have h1:=h y aay
  have:=wZ (f:=f) (l:=l) fun x hx=>h x (aaw _ hx)
  omega
theorem w_(k:Nat)(g:G):1<=sb (k+1) g:=by
 show 1<=1+_+_+_
 omega
theorem MI{w f:G->Nat}{ks:List G}(h:∀x∈ks,w x+50<=93 * f x):∀(n:Nat) (i:Int),0<=i->i+n=ks.length->Ub w ks n i<=93 * ((ks.drop i.toNat).map f).sum
 |0,i,_,_=>aal _
 |n+1,i,h0,hn=>by
  have f7:i<ks.length:=by omega
  have h1:=h _ (bZ h0 f7)
  have h2:=MI h n (i+1) (by omega) (by omega)
  rw[dQ h0 f7,aaB,List.sum_cons]
  show 50+w (aq ks i.toNat)+Ub w ks n (i+1)<=_
  omega
theorem Rg(g:G):jN 0 g=0:=by with_unfolding_all rfl
theorem Vh(k:Nat)(g:G):jN (k+1) g=24+(gS (aa g 3)).length+pq (jN k) (gL (aa g 5)) 0:=by with_unfolding_all rfl
theorem MJ:∀(k j:Nat) (g:G),k<=j->jN k g+50<=93 * sb (j+1) g+50/\(1<=k->jN k g+50<=93 * sb (j+1) g)
 |0,j,g,_=>⟨by rw[Rg];omega,fun h=>by omega⟩
 |k+1,j,g,hj=>by
  obtain⟨j,rfl⟩:∃j',j=j'+1:=⟨j-1,by omega⟩
  have key:pq (jN k) (gL (aa g 5)) 0<=93 * ((gL (aa g 5)).map (sb (j+1))).sum:=by
   unfold pq
   refine MI (fun x hx=>?_) _ 0 (by omega) (by omega)
   have h1:=MJ k j x (by omega)
   by_cases hk:1<=k
   ·exact h1.2 hk
   ·have:k=0:=by omega
    subst this
    have:=w_ j x
    rw[Rg];omega
  have e1:jN (k+1) g=24+(gS (aa g 3)).length+pq (jN k) (gL (aa g 5)) 0:=Vh k g
  have e2:sb (j+1+1) g=1+(gS (aa g 3)).length/20+(gL (aa g 4)).length+((gL (aa g 5)).map (sb (j+1))).sum:=rfl
  have:jN (k+1) g+50<=93 * sb (j+1+1) g:=by omega
  exact⟨by omega,fun _=>this⟩
theorem Vi(g:G):KZ 0 g:=by with_unfolding_all exact True.intro
theorem To{k:Nat}{g:G}(h:((-9223372036854775808<=gI (aa g 1)/\gI (aa g 1)<9223372036854775808)/\(gS (aa g 3)).length<=1000000/\(gL (aa g 4)).length<=1000000/\(gL (aa g 5)).length<=1000000)/\∀x∈gL (aa g 5),KZ k x):KZ (k+1) g:=by with_unfolding_all exact h
theorem MK:∀(k j:Nat) (g:G),k<=j->PZ j g->sb (j+1) g<=1000->KZ k g
 |0,_,_,_,_,_=>Vi _
 |k+1,j,g,hj,hn,hw=>by
  obtain⟨j,rfl⟩:∃j',j=j'+1:=⟨j-1,by omega⟩
  have e2:sb (j+1+1) g=1+(gS (aa g 3)).length/20+(gL (aa g 4)).length+((gL (aa g 5)).map (sb (j+1))).sum:=rfl
  have hl:=wZ (f:=sb (j+1)) (l:=gL (aa g 5)) fun x _=>w_ j x
  obtain⟨⟨h1,h2,h3,h4⟩,h5⟩:=hn
  refine To ⟨⟨h1,by omega,by omega,by omega⟩,fun x hx=>?_⟩
  have:=wY (f:=sb (j+1)) hx
  exact MK k j x (by omega) (h5 x hx) (by omega)
theorem ML{l:List G}{i:Int}(hn:oX 1002 l)(hw:mX 1002 l 0<=1000)(h0:0<=i)(hi:i<l.length):
  lA 16 (gI (aa (aq l i.toNat) 1)) (gS (aa (aq l i.toNat) 3)) (gL (aa (aq l i.toNat) 4)) (gL (aa (aq l i.toNat) 5))/\nP 16 (gS (aa (aq l i.toNat) 3)) (gL (aa (aq l i.toNat) 5))<=100000:=by
 have hm:=bZ h0 hi
 have h1:sb 1002 (aq l i.toNat)<=1000:=by
  have:=wY (f:=sb 1002) hm
  have:mX 1002 l 0=(l.map (sb 1002)).sum:=by unfold mX;show((l.drop 0).map _).sum=_;rw[aaL]
  omega
 have h2:PZ 1002 (aq l i.toNat):=hn _ hm
 have down:∀(j:Nat) (g:G),PZ (j+1) g->PZ j g:=by
  intro j
  induction j with
  |zero=>intro g h;exact h.1
  |succ j ih=>intro g h;exact⟨h.1,fun x hx=>ih x (h.2 x hx)⟩
 have h3:=MK 16 1001 _ (by omega) (down _ _ h2) h1
 have h4:jN 16 (aq l i.toNat)+50<=93 * sb 1002 (aq l i.toNat):=(MJ 16 1001 (aq l i.toNat) (by omega)).2 (by omega)
 refine⟨by rw[nQ];exact h3, ?_⟩
 rw[vL];omega
theorem HG{l:List G}(hw:mX 1002 l 0<=1000):l.length<=1000:=by
 have:=wZ (f:=sb 1002) (l:=l) fun x _=>w_ 1001 x
 have:mX 1002 l 0=(l.map (sb 1002)).sum:=by unfold mX;show((l.drop 0).map _).sum=_;rw[aaL]
 omega
attribute [irreducible] oX HF mX Tn xC Uh
end
theorem C_(k:Nat)(p z:Sy)(hA:((rO k) p).inv z):Fm.den (let v0:=(p.g 6=p.g 6/\p.g 5=p.g 5/\p.s 4=p.s 4/\p.i 3=p.i 3/\p.i 2=p.i 2/\p.i 1=p.i 1/\True);let v1:=(aq (p.g 6) (z.i 9).toNat);let v2:=((z.i 20<=z.i 20/\z.i 20<=5000000000000000)/\(z.i 20<=1000->z.i 20=z.i 20+ ↑(mX k (p.g 6) (z.i 9))));(.two (z.i 9 < ↑(p.g 6).length) (.two (z.i 20<=1000) (.an ((0:Int)<=z.i 9/\z.i 9 < ↑(p.g 6).length) (.ct (Uh k (gI (aa v1 1)) (gS (aa v1 3)) (gL (aa v1 4)) (gL (aa v1 5))/\((0:Int)<=z.i 20/\z.i 20<=3000000000000000)/\1001<=z.i 20+(↑k:Int)/\1<=k) (fun y0=>(y0.p 10↔1000<y0.i 21)/\z.i 20<y0.i 21/\y0.i 21<=5000000000000000/\(y0.i 21<=1000->y0.i 21=z.i 20+(↑(Tn k (gS (aa v1 3)) (gL (aa v1 4)) (gL (aa v1 5))):Int))) fun y0=>(.an ((-9223372036854775808:Int)<=z.i 9+1/\z.i 9+1<=9223372036854775807) (.an v0 (.at ((oX k (p.g 6)/\(p.g 6).length<=1125899906842624/\((0:Int)<=z.i 9+1/\z.i 9+1<= ↑(p.g 6).length)/\((0:Int)<=y0.i 21/\y0.i 21<=5000000000000000)/\1001<=y0.i 21+(↑k:Int))/\((↑(p.g 6).length:Int)-(z.i 9+1)).toNat<((↑(p.g 6).length:Int)-z.i 9).toNat/\∀(y:Sy),(y0.i 21<=y.i 21/\y.i 21<=5000000000000000)/\(y.i 21<=1000->y.i 21=y0.i 21+ ↑(mX k (p.g 6) (z.i 9+1)))->(z.i 20<=y.i 21/\y.i 21<=5000000000000000)/\(y.i 21<=1000->y.i 21=z.i 20+ ↑(mX k (p.g 6) (z.i 9))))))))) (.an v0 (.at v2))) (.an v0 (.at v2)))):=by
 dsimp only [rO,vp] at hA
 have a1:=@MD k (p.g 6) (z.i 9)
 have a2:=@rN k (p.g 6) (z.i 9)
 have a3:=@wW k (p.g 6) (z.i 9)
 have a4:=MC k (aq (p.g 6) (z.i 9).toNat)
 have a5:=MF k (aq (p.g 6) (z.i 9).toNat)
 conv=>zeta
 repeat' with_reducible first|intro _|apply aV|apply aZ|apply aT|apply bf|apply ba
 all_goals first|omega|grind [am,ai,ah,List.append_assoc]
theorem HH(k:Nat)(ae5:Ok Tryz.prog 17 (wX k)):dU Tryz.prog 17 0 (rO k):=bH 1000 mN (eK ae5 eN) lN (hn:=(hC 6 37)) (C_ k)
theorem MM(k:Nat)(z:Sy)(hA:(wX (k+1)).pre z):Fm.den (let zw:=(0:Int)<=0;let v0:=(↑(z.s 4).length:Int);let v1:=((z.g 6=z.g 6/\z.g 5=z.g 5/\z.s 4=z.s 4/\z.i 3=z.i 3/\z.i 2=z.i 2/\z.i 1=z.i 1/\True));let v2:=(↑(z.g 5).length:Int);let v3:=(z.i 20+1+Go.IntKind.i64.wrap (v0/20));let v4:=(zw/\0<=(↑(z.g 6).length:Int));let v5:=(Tn (k+1) (z.s 4) (z.g 5) (z.g 6));let v6:=(z.i 20+1+v0/20);let v7:=(z.i 20+1+Go.IntKind.i64.wrap (v0/20)+v2);let v8:=(Go.IntKind.i64.wrap v6+v2);let v9:=(Go.IntKind.i64.wrap v3+v2);let v10:=(mX k (z.g 6) 0);let v11:=(z.i 20+1+v0/20+v2);let f8:=(↑k:Int);let g9:=(1000:Int);(.an ((-9223372036854775808:Int)<=z.i 20+1/\z.i 20+1<=9223372036854775807) (.an ((20:Int)≠0) (.an (0<=v0/\(0:Int)<20) (.two ((-9223372036854775808)<=v0/20/\v0/20<=9223372036854775807) (.two ((-9223372036854775808)<=z.i 20+1+v0/20/\z.i 20+1+ ↑(z.s 4).length/20<=9223372036854775807) (.two ((-9223372036854775808)<=z.i 20+1+v0/20+v2/\z.i 20+1+ ↑(z.s 4).length/20+ ↑(z.g 5).length<=9223372036854775807) (.cl v1 (oX k (z.g 6)/\(z.g 6).length<=1125899906842624/\v4/\(0<=z.i 20+1+v0/20+v2/\z.i 20+1+ ↑(z.s 4).length/20+ ↑(z.g 5).length<=5000000000000000)/\1001<=z.i 20+1+v0/20+v2+f8) (fun y0=>(z.i 20+1+ ↑(z.s 4).length/20+ ↑(z.g 5).length<=y0.i 21/\y0.i 21<=5000000000000000)/\(y0.i 21<=1000->y0.i 21=z.i 20+1+ ↑(z.s 4).length/20+ ↑(z.g 5).length+ ↑v10)) fun y0=>(.ax ((g9<y0.i 21↔1000<y0.i 21)/\z.i 20<y0.i 21/\y0.i 21<=5000000000000000/\(y0.i 21<=1000->y0.i 21=z.i 20+ ↑v5)))) (.cl v1 (oX k (z.g 6)/\(z.g 6).length<=1125899906842624/\v4/\(0<=Go.IntKind.i64.wrap v11/\Go.IntKind.i64.wrap v11<=5000000000000000)/\1001<=Go.IntKind.i64.wrap v11+f8) (fun y1=>(Go.IntKind.i64.wrap v11<=y1.i 21/\y1.i 21<=5000000000000000)/\(y1.i 21<=1000->y1.i 21=Go.IntKind.i64.wrap v11+ ↑v10)) fun y1=>(.ax ((g9<y1.i 21↔1000<y1.i 21)/\z.i 20<y1.i 21/\y1.i 21<=5000000000000000/\(y1.i 21<=1000->y1.i 21=z.i 20+ ↑v5))))) (.two ((-9223372036854775808)<=Go.IntKind.i64.wrap v6+v2/\Go.IntKind.i64.wrap v6+ ↑(z.g 5).length<=9223372036854775807) (.cl v1 (oX k (z.g 6)/\(z.g 6).length<=1125899906842624/\v4/\(0<=Go.IntKind.i64.wrap v6+v2/\Go.IntKind.i64.wrap v6+ ↑(z.g 5).length<=5000000000000000)/\1001<=Go.IntKind.i64.wrap v6+v2+f8) (fun y2=>(Go.IntKind.i64.wrap v6+ ↑(z.g 5).length<=y2.i 21/\y2.i 21<=5000000000000000)/\(y2.i 21<=1000->y2.i 21=Go.IntKind.i64.wrap v6+ ↑(z.g 5).length+ ↑v10)) fun y2=>(.ax ((g9<y2.i 21↔1000<y2.i 21)/\z.i 20<y2.i 21/\y2.i 21<=5000000000000000/\(y2.i 21<=1000->y2.i 21=z.i 20+ ↑v5)))) (.cl v1 (oX k (z.g 6)/\(z.g 6).length<=1125899906842624/\v4/\(0<=Go.IntKind.i64.wrap v8/\Go.IntKind.i64.wrap v8<=5000000000000000)/\1001<=Go.IntKind.i64.wrap v8+f8) (fun y3=>(Go.IntKind.i64.wrap v8<=y3.i 21/\y3.i 21<=5000000000000000)/\(y3.i 21<=1000->y3.i 21=Go.IntKind.i64.wrap v8+ ↑v10)) fun y3=>(.ax ((g9<y3.i 21↔1000<y3.i 21)/\z.i 20<y3.i 21/\y3.i 21<=5000000000000000/\(y3.i 21<=1000->y3.i 21=z.i 20+ ↑v5)))))) (.two ((-9223372036854775808)<=z.i 20+1+Go.IntKind.i64.wrap (v0/20)/\z.i 20+1+Go.IntKind.i64.wrap (v0/20)<=9223372036854775807) (.two ((-9223372036854775808)<=z.i 20+1+Go.IntKind.i64.wrap (v0/20)+v2/\z.i 20+1+Go.IntKind.i64.wrap (v0/20)+ ↑(z.g 5).length<=9223372036854775807) (.cl v1 (oX k (z.g 6)/\(z.g 6).length<=1125899906842624/\v4/\(0<=z.i 20+1+Go.IntKind.i64.wrap (v0/20)+v2/\z.i 20+1+Go.IntKind.i64.wrap (v0/20)+ ↑(z.g 5).length<=5000000000000000)/\1001<=z.i 20+1+Go.IntKind.i64.wrap (v0/20)+v2+f8) (fun y4=>(z.i 20+1+Go.IntKind.i64.wrap (v0/20)+ ↑(z.g 5).length<=y4.i 21/\y4.i 21<=5000000000000000)/\(y4.i 21<=1000->y4.i 21=z.i 20+1+Go.IntKind.i64.wrap (v0/20)+ ↑(z.g 5).length+ ↑v10)) fun y4=>(.ax ((g9<y4.i 21↔1000<y4.i 21)/\z.i 20<y4.i 21/\y4.i 21<=5000000000000000/\(y4.i 21<=1000->y4.i 21=z.i 20+ ↑v5)))) (.cl v1 (oX k (z.g 6)/\(z.g 6).length<=1125899906842624/\v4/\(0<=Go.IntKind.i64.wrap v7/\Go.IntKind.i64.wrap v7<=5000000000000000)/\1001<=Go.IntKind.i64.wrap v7+f8) (fun y5=>(Go.IntKind.i64.wrap v7<=y5.i 21/\y5.i 21<=5000000000000000)/\(y5.i 21<=1000->y5.i 21=Go.IntKind.i64.wrap v7+ ↑v10)) fun y5=>(.ax ((g9<y5.i 21↔1000<y5.i 21)/\z.i 20<y5.i 21/\y5.i 21<=5000000000000000/\(y5.i 21<=1000->y5.i 21=z.i 20+ ↑v5))))) (.two ((-9223372036854775808)<=Go.IntKind.i64.wrap v3+v2/\Go.IntKind.i64.wrap v3+ ↑(z.g 5).length<=9223372036854775807) (.cl v1 (oX k (z.g 6)/\(z.g 6).length<=1125899906842624/\v4/\(0<=Go.IntKind.i64.wrap v3+v2/\Go.IntKind.i64.wrap v3+ ↑(z.g 5).length<=5000000000000000)/\1001<=Go.IntKind.i64.wrap v3+v2+f8) (fun y6=>(Go.IntKind.i64.wrap v3+ ↑(z.g 5).length<=y6.i 21/\y6.i 21<=5000000000000000)/\(y6.i 21<=1000->y6.i 21=Go.IntKind.i64.wrap v3+ ↑(z.g 5).length+ ↑v10)) fun y6=>(.ax ((g9<y6.i 21↔1000<y6.i 21)/\z.i 20<y6.i 21/\y6.i 21<=5000000000000000/\(y6.i 21<=1000->y6.i 21=z.i 20+ ↑v5)))) (.cl v1 (oX k (z.g 6)/\(z.g 6).length<=1125899906842624/\v4/\(0<=Go.IntKind.i64.wrap v9/\Go.IntKind.i64.wrap v9<=5000000000000000)/\1001<=Go.IntKind.i64.wrap v9+f8) (fun y7=>(Go.IntKind.i64.wrap v9<=y7.i 21/\y7.i 21<=5000000000000000)/\(y7.i 21<=1000->y7.i 21=Go.IntKind.i64.wrap v9+ ↑v10)) fun y7=>(.ax ((g9<y7.i 21↔1000<y7.i 21)/\z.i 20<y7.i 21/\y7.i 21<=5000000000000000/\(y7.i 21<=1000->y7.i 21=z.i 20+ ↑v5))))))))))):=by
 dsimp only [wX,va] at hA
 have a1:=@P0 k (z.i 2) (z.s 4) (z.g 5) (z.g 6)
 have a2:=MG k (z.s 4) (z.g 5) (z.g 6)
 conv=>zeta
 repeat' with_reducible first|intro _|apply aV|apply aZ|apply aT|apply bf|apply ba
 all_goals first|omega|grind [am,ai,ah,List.append_assoc]
theorem AP:∀k,Ok Tryz.prog 17 (wX k)
 |0=>NM fun z h=>absurd h.2.2.2 (by decide)
 |k+1=>bS 1000 mN eN (eL (ptm:=[(0,.ag va)]) (HH k (AP k)) lN) (hn:=(hC 17 273695066)) (MM k)
theorem Da(p z:Sy)(hA:(rQ p).inv z):Fm.den (let v0:=(gL (aa (aq (p.g 1) (p.i 8).toNat) 0));let v1:=((0:Int)<=p.i 8/\p.i 8 < ↑(p.g 1).length);let v2:=(↑v0.length:Int);let v3:=(aq v0 (z.i 9).toNat);let v4:=(↑(mX 1002 v0 (z.i 9)):Int);let v5:=(p.i 8=p.i 8/\p.g 1=p.g 1/\True);let v6:=(z.i 9+1);(.an v1 (.two (z.i 9<v2) (.an v1 (.an ((0:Int)<=z.i 9/\z.i 9<v2) (.ct (Uh 1002 (gI (aa v3 1)) (gS (aa v3 3)) (gL (aa v3 4)) (gL (aa v3 5))/\((0:Int)<=z.i 20/\z.i 20<=3000000000000000)/\(1001:Int)<=z.i 20+1002/\1<=1002) (fun y0=>(y0.p 10↔1000<y0.i 21)/\z.i 20<y0.i 21/\y0.i 21<=5000000000000000/\(y0.i 21<=1000->y0.i 21=z.i 20+(↑(Tn 1002 (gS (aa v3 3)) (gL (aa v3 4)) (gL (aa v3 5))):Int))) fun y0=>(.two (y0.p 10) (.ax (((1:Int)=0->y0.i 21=z.i 20+v4/\(y0.i 21=z.i 20∨y0.i 21<=1000))/\(¬(1:Int)=0->true=true))) (.two ((-9223372036854775808:Int)<=z.i 9+1/\z.i 9+1<=9223372036854775807) (.an v5 (.at ((HF (p.g 1)/\v1/\((0:Int)<=z.i 9+1/\z.i 9+1<=v2)/\(0:Int)<=y0.i 21/\y0.i 21<=3000000000000000)/\(v2-(z.i 9+(1:Int))).toNat<(v2-z.i 9).toNat/\∀(y:Sy),(y.i 999=(0:Int)->y.i 21=y0.i 21+(↑(mX 1002 v0 v6):Int)/\(y.i 21=y0.i 21∨y.i 21<=1000))/\(¬y.i 999=0->y.p 10)->(y.i 999=0->y.i 21=z.i 20+v4/\(y.i 21=z.i 20∨y.i 21<=1000))/\(¬y.i 999=0->y.p 10)))) (.an v5 (.at ((HF (p.g 1)/\v1/\((0:Int)<=Go.IntKind.i64.wrap v6/\Go.IntKind.i64.wrap v6<=v2)/\(0:Int)<=y0.i 21/\y0.i 21<=3000000000000000)/\(v2-Go.IntKind.i64.wrap (z.i 9+(1:Int))).toNat<(v2-z.i 9).toNat/\∀(y:Sy),(y.i 999=(0:Int)->y.i 21=y0.i 21+(↑(mX 1002 v0 (Go.IntKind.i64.wrap v6)):Int)/\(y.i 21=y0.i 21∨y.i 21<=1000))/\(¬y.i 999=0->y.p 10)->(y.i 999=0->y.i 21=z.i 20+v4/\(y.i 21=z.i 20∨y.i 21<=1000))/\(¬y.i 999=0->y.p 10))))))))) (.an v5 (.at (((0:Int)=0->z.i 20=z.i 20+v4/\(z.i 20=z.i 20∨z.i 20<=1000))/\(¬(0:Int)=0->(aX (PS.mk [(21,Tm.i (z.i 20)),(999,Tm.i (Int.ofNat (nat_lit 0)))] ((0,(bL 0).fst,0)::iZ.loc) iZ.ln (p.i 8=p.i 8/\p.g 1=p.g 1/\iZ.pr) iZ.fz).tm).p 10))))))):=by
 dsimp only [rQ] at hA
 have a0:=@MH (p.g 1) (p.i 8)
 have a1:=@MD 1002 (gL (aa (aq (p.g 1) (p.i 8).toNat) 0)) (z.i 9)
 have a2:=@rN 1002 (gL (aa (aq (p.g 1) (p.i 8).toNat) 0)) (z.i 9)
 have a3:=@wW 1002 (gL (aa (aq (p.g 1) (p.i 8).toNat) 0)) (z.i 9)
 have a4:=MC 1002 (aq (gL (aa (aq (p.g 1) (p.i 8).toNat) 0)) (z.i 9).toNat)
 have a5:=MF 1002 (aq (gL (aa (aq (p.g 1) (p.i 8).toNat) 0)) (z.i 9).toNat)
 conv=>zeta
 repeat' with_reducible first|intro _|apply aV|apply aZ|apply aT|apply bf|apply ba
 all_goals first|omega|grind [am,ai,ah,List.append_assoc]
theorem HI:dU Tryz.prog 4 2 rQ:=bH 1000 mN (eK (AP 1002) eN) lN (hn:=(hC 7 69)) Da
theorem Db(p z:Sy)(hA:(rR p).inv z):Fm.den (let v0:=(gL (aa (aq (p.g 1) (z.i 9).toNat) 0));let v1:=(xC (p.g 1) (z.i 9));let v2:=(-9223372036854775808:Int);(.two (z.i 9 < ↑(p.g 1).length) (.an (v2<=z.i 20+2/\z.i 20+2<=9223372036854775807) (.cl ((z.i 9=z.i 9/\p.g 1=p.g 1/\True)) (HF (p.g 1)/\((0:Int)<=z.i 9/\z.i 9 < ↑(p.g 1).length)/\((0:Int)<=0/\(0:Int)<=(↑v0.length:Int))/\(0:Int)<=z.i 20+2/\z.i 20+2<=3000000000000000) (fun y0=>(y0.i 999=0->y0.i 21=z.i 20+2+(↑(mX 1002 v0 0):Int)/\(y0.i 21=z.i 20+2∨y0.i 21<=1000))/\(¬y0.i 999=0->y0.p 10)) fun y0=>(.two (y0.i 999=0) (.an (v2<=z.i 9+1/\z.i 9+1<=9223372036854775807) (.an (p.g 1=p.g 1/\True) (.at ((HF (p.g 1)/\(p.g 1).length<=1125899906842624/\((0:Int)<=z.i 9+1/\z.i 9+1<= ↑(p.g 1).length)/\(0:Int)<=y0.i 21/\y0.i 21<=1000+2 * (z.i 9+1))/\((↑(p.g 1).length:Int)-(z.i 9+1)).toNat<((↑(p.g 1).length:Int)-z.i 9).toNat/\∀(y:Sy),(y.i 999=(0:Int)->y.i 21=y0.i 21+ ↑(xC (p.g 1) (z.i 9+1)))/\(¬y.i 999=0->y.p 10)->(y.i 999=0->y.i 21=z.i 20+ ↑v1)/\(¬y.i 999=0->y.p 10))))) (.ax (((1:Int)=0->y0.i 21=z.i 20+ ↑v1)/\(¬(1:Int)=0->y0.p 10)))))) (.an (p.g 1=p.g 1/\True) (.at (((0:Int)=0->z.i 20=z.i 20+ ↑v1)/\(¬(0:Int)=0->(aX (PS.mk [(21,Tm.i (z.i 20)),(999,Tm.i (Int.ofNat (nat_lit 0)))] ((0,(bL 0).fst,0)::iZ.loc) iZ.ln (p.g 1=p.g 1/\iZ.pr) iZ.fz).tm).p 10)))))):=by
 dsimp only [rR] at hA
 have a0:=@MH (p.g 1) (z.i 9)
 have a2:=@rP (p.g 1) (z.i 9)
 have a3:=@Fq (p.g 1) (z.i 9)
 conv=>zeta
 repeat' with_reducible first|intro _|apply aV|apply aZ|apply aT|apply bf|apply ba
 all_goals first|omega|grind [am,ai,ah,List.append_assoc]
theorem HJ:dU Tryz.prog 4 0 rR:=bH 1000 mN eN (eL (ptm:=[(0,.c (.v 13 1)),(4,.c (.i .i64 8))]) HI lN) (hn:=(hC 7 153)) Db
theorem MN(z:Sy)(hA:C9.pre z):Fm.den ((.cl ((z.g 1=z.g 1/\True)) (HF (z.g 1)/\(z.g 1).length<=1125899906842624/\((0:Int)<=0/\0<=(↑(z.g 1).length:Int))/\(0:Int)<=0/\(0:Int)<=1000+2 * 0) (fun y0=>(y0.i 999=0->y0.i 21=0+ ↑(xC (z.g 1) 0))/\(¬y0.i 999=0->y0.p 10)) fun y0=>(.two (y0.i 999=0) (.two ((1000:Int)<y0.i 21) (.ax (¬true=true->(z.g 1).length<=30/\xC (z.g 1) (0:Int)<=1000)) (.ax (¬30<(↑(z.g 1).length:Int)->(z.g 1).length<=30/\xC (z.g 1) (0:Int)<=1000))) (.ax (¬y0.p 10->(z.g 1).length<=30/\xC (z.g 1) (0:Int)<=1000))))):=by
 dsimp only [C9] at hA
 repeat' with_reducible first|intro _|apply aV|apply aZ|apply aT|apply bf|apply ba
 all_goals first|omega|grind [am,ai,ah,List.append_assoc]
theorem P1:Ok Tryz.prog 4 C9:=bS 1000 mN eN (eL (ptm:=[(0,.c (.v 13 1))]) HJ lN) (hn:=(hC 5 5)) MN
noncomputable section
def WU(i:Int)(e:G):Prop:=Cq e/\Rf e=e/\(gI (aa e 0)=1∨gI (aa e 0)=2)/\(gI (aa e 0)=2↔1<=i)/\¬gI (aa e 12)=1/\gI (aa e 13)=0/\gI (aa e 14)=0
def cB(es:List G):Prop:=∀i:Int,0<=i->i<es.length->WU i (aq es i.toNat)
theorem uh{es:List G}{i:Int}(h:cB es)(h0:0<=i)(hi:i<es.length):(gI (aa (aq es i.toNat) 0)=1∨gI (aa (aq es i.toNat) 0)=2)/\(gI (aa (aq es i.toNat) 0)=2↔1<=i)/\¬gI (aa (aq es i.toNat) 12)=1/\gI (aa (aq es i.toNat) 13)=0/\gI (aa (aq es i.toNat) 14)=0:=(h i h0 hi).2.2
theorem xa{es:List G}(h:cB es):fo es:=by
 unfold fo
 intro e he
 obtain⟨i,hi,e2⟩:=List.getElem_of_mem he
 have:=(h (i:Int) (by omega) (by omega)).1
 have e3:aq es (i:Int).toNat=e:=by unfold aq;rw[aaq,aag,aah hi, ←e2];rfl
 rwa [e3] at this
theorem Fr{es:List G}(h:cB es):Vg es:=by
 intro e he
 obtain⟨i,hi,e2⟩:=List.getElem_of_mem he
 have:=(h (i:Int) (by omega) (by omega)).2.1
 have e3:aq es (i:Int).toNat=e:=by unfold aq;rw[aaq,aag,aah hi, ←e2];rfl
 rwa [e3] at this
abbrev A4(es:List G):Int:=cm 0 0 0 hZ es
theorem Fs{es:List G}(h:es.length<=200):∀(n:Nat) (i:Int),0<=i->i+n=es.length->(jd es i).length<=(gu True es i).length+10 * n
 |0,i,h0,hn=>by rw[Fh (by omega)];exact aal _
 |n+1,i,h0,hn=>by
  have hi:i<es.length:=by omega
  rw[AI h0 hi,mM h0 hi,aai,aai]
  have a:=@Mr i.toNat (aq es i.toNat) (by omega)
  have b:=Fs h n (i+1) (by omega) (by omega)
  omega
theorem Tp(e:G):(E1 False e).length<=(E1 True e).length:=by
 unfold E1
 rw[aai,aai]
 by_cases h:gI (aa e 0)=2
 ·rw[if_pos h,if_pos h,if_pos (.inr id)]
  by_cases h1:gI (aa e 12)=1∨¬True
  ·rw[if_pos h1];exact aaa _
  ·rw[if_neg h1,aao];simp
 ·rw[if_neg h,if_neg h];exact aaa _
theorem Tq(es:List G):(gu False es 0).length<=(gu True es 0).length:=by
 unfold gu
 show((es.drop 0).flatMap _).length<=((es.drop 0).flatMap _).length
 rw[aaL]
 induction es with
 |nil=>exact aaa _
 |cons e es ih=>rw[acC,acC,aai,aai];have:=Tp e;omega
theorem pA{es:List G}(h:cB es)(hb:A4 es=0):lE es/\(r_ False 0 0 0 hZ es).length<=262144/\(jd es 0).length<=270000:=by
 obtain⟨h1,h2,h3⟩:=ku hb
 have h4:es.length<=200:=by unfold Cr at h1;exact h1.2.2.2.2
 have a:=Fs h4 es.length 0 (by omega) (by omega)
 have b:=Tq es
 unfold r_ at h3⊢
 simp only [aai] at h3⊢
 exact⟨⟨h2,xa h,h4⟩,by omega,by omega⟩
def dk(es:List G):G:=.node [.int 0,.int 0,.int 0,hZ,.node es]
def sd(es:List G):G:=wy 0 0 0 hZ es
def oY(n:Int):List G:=(List.range n.toNat).map fun(k:Nat)=>.node [.int 0,.int ((k:Int)+1)]
theorem Ft{n:Int}(h:n<=0):oY n= []:=by unfold oY;rw[show n.toNat=0 by omega];rfl
theorem Rh{n:Int}(h:0<=n):oY (n+1)=oY n++ [.node [.int 0,.int (n+1)]]:=by
 unfold oY
 rw[show(n+1).toNat=n.toNat+1 by omega,List.range_succ,List.map_append]
 congr 1
 show [G.node [.int 0,.int ((n.toNat:Int)+1)]]=_
 rw[Int.toNat_of_nonneg h]
theorem P2(n:Int):(oY n).length=n.toNat:=by unfold oY;simp
def Xk:List Sh:=[.li .i64 0,.li .i64 0,.li .i64 0]++(List.replicate 32 (.li .u8 0))++ [.v 7 24]
def AQ(p:Sy):List Sh:=[.li .i64 0,.li .i64 0,.li .i64 0]++(List.replicate 32 (.li .u8 0))++ [.pv 7 (p.g 24)]
def xc(p:Sy):LSpec:={tmps:=[(3,.c (.p 0)),(7,.c (.i .i64 9))],blk:=[.cells 41 (AQ p)],inv:=fun z=>cB (p.g 24)/\(0<=z.i 9/\z.i 9<=(p.g 24).length)/\(p.g 24).length<=1000000,mu:=fun z=>((p.g 24).length-z.i 9).toNat,alts:=[⟨.exit 0,[],[.cells 41 (AQ p)]⟩],post:=fun z y=>True}
def jX(p:Sy):LSpec:={tmps:=[(3,.c (.p 0)),(7,.c (.i .i64 9))],blk:=[.cells 41 (AQ p)],inv:=fun z=>cB (p.g 24)/\(0<=z.i 9/\z.i 9<=(p.g 24).length)/\(p.g 24).length<=1000000,mu:=fun z=>((p.g 24).length-z.i 9).toNat,alts:=[⟨.exit 0,[],[.cells 41 (AQ p)]⟩],post:=fun z y=>True,keep:=[0,6]}
def Xl:List BSh:=[.cells 35 [.p 1,.nz,.nz,.pb False],.cells 121 [.li .i64 4194304,.nz,.li .i64 (-1)]]
def Xm:List BSh:=[.cells 35 [.o,.v 11 31,.v 6 32,.b 33],.cells 121 [.o,.o,.o]]
def Ri(b:Bool):FSpec:={args:=[.c (.p 0),.ag Xk],blk:=Xl,pre:=fun z=>cB (z.g 24)/\(z.g 24).length<=1000000,res:=fun _=>.one (.c (.i .i64 50)),out:=fun _=>Xm,post:=fun z y=>y.i 50=A4 (z.g 24)/\(A4 (z.g 24)=0->y.g 31= [dk (z.g 24)]/\y.g 32= [.node [sd (z.g 24)]])/\(¬A4 (z.g 24)=0->y.g 31= []/\y.g 32= [])}
def Dc:FSpec:=Ri true
attribute [irreducible] cB oY
end
theorem HK(p z:Sy)(hA:(xc p).inv z):Fm.den (let v0:=(cB (p.g 24)/\((0:Int)<=z.i 9+1/\z.i 9+1<= ↑(p.g 24).length)/\(p.g 24).length<=1000000);let v1:=((-9223372036854775808:Int)<=z.i 9+1/\z.i 9+1<=9223372036854775807);let v2:=(aq (p.g 24) (z.i 9).toNat);let v3:=(↑(p.g 24).length:Int);let v4:=(p.g 24=p.g 24/\True);(.two (z.i 9 < ↑(p.g 24).length) (.an ((0:Int)<=z.i 9/\z.i 9 < ↑(p.g 24).length) (.two (gI (aa v2 0)=2) (.two (gI (aa v2 12)=1) .ff (.an (gI (aa v2 0)≠4) (.an v1 (.an v4 (.at (v0/\(v3-(z.i 9+1)).toNat<(v3-z.i 9).toNat/\∀(y:Sy),True->True)))))) (.two (gI (aa v2 0)≠4) (.an v1 (.an v4 (.at (v0/\(v3-(z.i 9+1)).toNat<(v3-z.i 9).toNat/\∀(y:Sy),True->True)))) .ff))) (.an v4 (.at (True))))):=by
 dsimp only [xc,AQ] at hA
 have a1:=@uh (p.g 24) (z.i 9)
 conv=>zeta
 repeat' with_reducible first|intro _|apply aV|apply aZ|apply aT|apply bf|apply ba
 all_goals first|omega|grind [am,ai,ah,az,aA,aB,aC,aD,aE,aF,aG,aH,ao,List.append_assoc]
theorem MO:dU Tryz.prog 52 0 xc:=bH 1000 mN eN lN (hn:=(hC 12 150037)) HK
theorem sD(p z:Sy)(hA:(jX p).inv z):Fm.den (let v0:=(gI (aa (aq (p.g 24) (z.i 9).toNat) 13)<0);let v1:=(cB (p.g 24)/\((0:Int)<=z.i 9+1/\z.i 9+1<= ↑(p.g 24).length)/\(p.g 24).length<=1000000);let v2:=((-9223372036854775808:Int)<=z.i 9+1/\z.i 9+1<=9223372036854775807);let v3:=(↑(p.g 24).length:Int);let v4:=((0:Int)<=z.i 9/\z.i 9 < ↑(p.g 24).length);let v5:=(p.g 24=p.g 24/\True);(.two (z.i 9 < ↑(p.g 24).length) (.an v4 (.an v4 (.two (gI (aa (aq (p.g 24) (z.i 9).toNat) 0)≠4) (.an v2 (.an v5 (.at (v1/\(v3-(z.i 9+1)).toNat<(v3-z.i 9).toNat/\∀(y:Sy),True->True)))) (.two v0 (.an v0 (.an v0 (.an v0 (.an v0 (.an v0 (.an v0 (.an v0 (.an v0 (.an v2 (.an v5 (.at (v1/\(v3-(z.i 9+1)).toNat<(v3-z.i 9).toNat/\∀(y:Sy),True->True)))))))))))) (.an (¬v0) (.an (¬v0) (.an (¬v0) .ff))))))) (.an v5 (.at (True))))):=by
 dsimp only [jX,AQ] at hA
 have a1:=@uh (p.g 24) (z.i 9)
 conv=>zeta
 repeat' with_reducible first|intro _|apply aV|apply aZ|apply aT|apply bf|apply ba
 all_goals first|omega|grind [am,ai,ah,az,aA,aB,aC,aD,aE,aF,aG,aH,ao,List.append_assoc]
theorem xd:dU Tryz.prog 53 0 jX:=bH 1000 mN eN lN (hn:=(hC 20 67824691493)) sD
theorem MP(z:Sy)(hA:Dc.pre z):Fm.den (let v0:=(fo (z.g 24)/\HOk hZ/\(z.g 24).length<=1000000/\(0:Int)<9223372036854775808/\(0:Int)<9223372036854775808/\(0:Int)<9223372036854775808);let v1:=(ck (z.g 24) (0:Int)=0/\fo (z.g 24)/\(z.g 24).length<=200);let v2:=(cB (z.g 24)/\((0:Int)<=0/\0<=(↑(z.g 24).length:Int))/\(z.g 24).length<=1000000);let v3:=(cm (0:Int) 0 0 hZ (z.g 24)=0-> []= [dk (z.g 24)]/\ []= [G.node [sd (z.g 24)]]);let v4:=(¬cm (0:Int) 0 0 hZ (z.g 24)=0->Sq/\Sq);let v5:=(jd (z.g 24) (0:Int));let v6:=((z.g 24=z.g 24/\True));(.two (False) (.ax ((20:Int)=cm 0 0 0 hZ (z.g 24)/\v3/\v4)) (.ct v0 (fun y0=>y0.i 50=cm 0 0 0 hZ (z.g 24)) fun y0=>(.two (y0.i 50≠0) (.an (y0.i 50≠0) (.ax (y0.i 50=cm 0 0 0 hZ (z.g 24)/\v3/\v4))) (.cl v6 v2 (fun y1=>True) fun y1=>(.cl v6 v2 (fun y2=>True) fun y2=>(.ct v1 (fun y3=>(y3.p 40↔0<v5.length)/\(v5.length<=524288->y3.s 30=Ic v5)/\(y3.s 30).length<=524300) fun y3=>(let v7:=(↑(0+(y3.s 30).length):Int);let v9:=(↑(y3.s 30).length:Int);let v8:=(¬(4194304<0+v9));(.two (y3.p 40) (.an ((-9223372036854775808)<=0+v9/\0+v9<=9223372036854775807) (.an v8 (.an v8 (.an v8 (.an v8 (.an v8 (.an (0=0/\0<=1000000000/\(y3.s 30).length<=1000000) (.ct v0 (fun y4=>y4.i 50=cm 0 0 0 hZ (z.g 24)/\(cm (0:Int) 0 0 hZ (z.g 24)=0->y4.s 10=r_ (false=true) (0:Int) 0 0 hZ (z.g 24))/\(¬cm (0:Int) 0 0 hZ (z.g 24)=0->y4.s 10= [])) fun y4=>(.ct ((y4.s 10).length<=100000000) (fun y5=>((y4.s 10).length<=524288->y5.i 50=0/\y5.s 10=Ic (y4.s 10))/\(524288<(y4.s 10).length->y5.i 50=5/\y5.s 10= [])/\(y5.s 10).length<=524300) fun y5=>(let v10:=(¬(4194304<0+v7+(↑(y5.s 10).length:Int)));(.an ((-9223372036854775808)<=0+v7/\0+v7<=9223372036854775807) (.an ((-9223372036854775808)<=0+v7+(↑(y5.s 10).length:Int)/\0+v7+(↑(y5.s 10).length:Int)<=9223372036854775807) (.an v10 (.an v10 (.an v10 (.an v10 (.an v10 (.an (0=0/\0<=1000000000/\(y5.s 10).length<=1000000) (.ct v0 (fun y6=>y6.i 50=cm 0 0 0 hZ (z.g 24)/\(cm (0:Int) 0 0 hZ (z.g 24)=0->hT y6 300=wy (0:Int) 0 0 hZ (z.g 24))/\(¬cm (0:Int) 0 0 hZ (z.g 24)=0->hT y6 300=hZ)) fun y6=>(.ct v1 (fun y7=>y7.i 31=0/\y7.i 32=0/\y7.i 33=0/\hT y7 400=hZ/\y7.g 34=jW (z.g 24) (0:Int)) fun y7=>(.ax ((0:Int)=cm 0 0 0 hZ (z.g 24)/\(cm (0:Int) 0 0 hZ (z.g 24)=0-> [G.node [G.int (y7.i 31),G.int (y7.i 32),G.int (y7.i 33),hT y7 400,G.node (y7.g 34)]]= [dk (z.g 24)]/\ [G.node [hT y6 300]]= [G.node [sd (z.g 24)]])/\(¬cm (0:Int) 0 0 hZ (z.g 24)=0-> [G.node [G.int (y7.i 31),G.int (y7.i 32),G.int (y7.i 33),hT y7 400,G.node (y7.g 34)]]= []/\ [G.node [hT y6 300]]= []))))))))))))))))))))))) (.ct v0 (fun y8=>y8.i 50=cm 0 0 0 hZ (z.g 24)/\(cm (0:Int) 0 0 hZ (z.g 24)=0->y8.s 10=r_ (false=true) (0:Int) 0 0 hZ (z.g 24))/\(¬cm (0:Int) 0 0 hZ (z.g 24)=0->y8.s 10= [])) fun y8=>(.ct ((y8.s 10).length<=100000000) (fun y9=>((y8.s 10).length<=524288->y9.i 50=0/\y9.s 10=Ic (y8.s 10))/\(524288<(y8.s 10).length->y9.i 50=5/\y9.s 10= [])/\(y9.s 10).length<=524300) fun y9=>(let v11:=(¬(4194304<0+(↑(y9.s 10).length:Int)));(.an ((-9223372036854775808)<=0+(↑(y9.s 10).length:Int)/\0+(↑(y9.s 10).length:Int)<=9223372036854775807) (.an v11 (.an v11 (.an v11 (.an v11 (.an v11 (.an (0=0/\0<=1000000000/\(y9.s 10).length<=1000000) (.ct v0 (fun J'=>J'.i 50=cm 0 0 0 hZ (z.g 24)/\(cm (0:Int) 0 0 hZ (z.g 24)=0->hT J' 300=wy (0:Int) 0 0 hZ (z.g 24))/\(¬cm (0:Int) 0 0 hZ (z.g 24)=0->hT J' 300=hZ)) fun J'=>(.ct v1 (fun M'=>M'.i 31=0/\M'.i 32=0/\M'.i 33=0/\hT M' 400=hZ/\M'.g 34=jW (z.g 24) (0:Int)) fun M'=>(.ax ((0:Int)=cm 0 0 0 hZ (z.g 24)/\(cm (0:Int) 0 0 hZ (z.g 24)=0-> [G.node [G.int (M'.i 31),G.int (M'.i 32),G.int (M'.i 33),hT M' 400,G.node (M'.g 34)]]= [dk (z.g 24)]/\ [G.node [hT J' 300]]= [G.node [sd (z.g 24)]])/\(¬cm (0:Int) 0 0 hZ (z.g 24)=0-> [G.node [G.int (M'.i 31),G.int (M'.i 32),G.int (M'.i 33),hT M' 400,G.node (M'.g 34)]]= []/\ [G.node [hT J' 300]]= [])))))))))))))))))))))))):=by
 dsimp only [Dc,Ri,Xk,Xl,Xm,A4] at hA
 have b1:=@pA (z.g 24)
 have b2:=@xa (z.g 24)
 have b3:=@Fr (z.g 24)
 have b4:=@Fl (z.g 24)
 have b5:HOk hZ:=fT
 have b6:dk (z.g 24)= .node [.int 0,.int 0,.int 0,hZ,.node (z.g 24)]:=rfl
 have b7:sd (z.g 24)=wy 0 0 0 hZ (z.g 24):=rfl
 have b8:(false=true)=False:=by simp
 conv=>zeta
 repeat' with_reducible first|intro _|apply aV|apply aZ|apply aT|apply bf|apply ba
 all_goals first|omega|grind [am,ai,ah,az,aA,aB,aC,aD,aE,aF,aG,aH,ao,List.append_assoc]
theorem P3:Ok Tryz.prog 24 Dc:=bS 1000 mN (eK od (eK Te (eK CC (eK rL (eK LX (eK AO eN)))))) (eL (ptm:=[(1,.ag bk)]) MO (eL (ptm:=[(1,.ag bk)]) xd lN)) (hn:=(hC 27 4501675398128785)) MP
end Go.Proofs.YtojibgjadakamaaGreatDoor
