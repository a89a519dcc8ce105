/- Part 7. -/
import Derived.Test.YtameaobnjjcobaaGreatDoorProg
import Derived.KernelRfl
import Derived.Test.YtameaobnjjcobaaGreatDoorP5
import Derived.Test.YtameaobnjjcobaaGreatDoorP6
set_option linter.all false
namespace Go.Proofs.YtameaobnjjcobaaGreatDoor
open Go.Sym
set_option maxRecDepth 100000
set_option maxHeartbeats 4000000
abbrev od(a:List G):=fJ a 0=0/\qA a/\a.length<=200
abbrev pX(a b:Prop)(c d:List Nat):=a/\b/\c.length+d.length<=20000000
def AI(p:Sy)(z:Sy):=@sN (p.g 24) (z.i 9)
def IN(p:Sy)(z:Sy):=@kZ (p.g 24) (z.i 9)
def MP(p:Sy)(z:Sy):=(λe=>@fe (gS (aa e 1)) (gI (aa e 2)) (gI (aa e 3)) (gI (aa e 4)) (gI (aa e 6)) (gS (aa e 8)) (gL (aa e 9)) (gL (aa e 10)) (hX (aa e 11)) (gI (aa e 13)) (gI (aa e 14))) (aq (p.g 24) (z.i 9).toNat)
def MQ(p:Sy)(z:Sy):=(λe=>λh=>(@fc (gI (aa e 0)) (gS (aa e 1)) (gI (aa e 2)) (gI (aa e 3)) (gI (aa e 4)) (gI (aa e 5)) (gI (aa e 6)) (gI (aa e 7)) (gS (aa e 8)) (gL (aa e 9)) (gL (aa e 10)) (hX (aa e 11)) (gI (aa e 12)=1) (gI (aa e 13)) (gI (aa e 14)) h).2) (aq (p.g 24) (z.i 9).toNat)
def MS:bM 183 0 FF:=bL 13 2246949 (ai sR (ai nO (ai sJ eN))) lN λp z hA=>show Fm.den (let v0:=(aM (p.g 24) (z.i 9));let v1:=(↑(p.g 24).length:Int);let v2:=((-9223372036854775808)<=z.i 9+1/\z.i 9+1<=9223372036854775807);let v3:=(od (p.g 24));let v4:=(dE (z.i 9) (p.g 24));let v5:=(z.i 9+1);let v6:=(gL (aa v0 10));let v7:=(gS (aa v0 8));let v8:=(gI (aa v0 6));let v9:=(gL (aa v0 9));let v10:=(fZ (p.p 25) (p.g 24) v5);let v11:=(p.p 25↔p.p 25);let d5:=(gI (aa v0 5));let g7:=(gI (aa v0 7));let i4:=(oP (z.s 20));let j7:=(v1-z.i 9);(.two (bR (z.i 9) (p.g 24)) (.an (cg (z.i 9) (p.g 24)) (.cl (i4) (vo (gS (aa v0 1)) (gI (aa v0 2)) (gI (aa v0 3)) (gI (aa v0 4)) v8 v7 v9 v6 (hX (aa v0 11)) (gI (aa v0 13)) (gI (aa v0 14))/\(z.s 20).length<=100000000) (λy0=>y0.s 20=z.s 20++lp (gI (aa v0 0)) (gS (aa v0 1)) (gI (aa v0 2)) (gI (aa v0 3)) (gI (aa v0 4)) (hX (aa v0 11)) (gI (aa v0 13)) (gI (aa v0 14))) λy0=>(let r9:=((y0.s 20++ [Int.toNat 0]).length=(y0.s 20).length+1/\v1=v1/\p.g 24=p.g 24/\v11/\True);let p9:=(T2 (y0.s 20));let p5:=(pX v3 v4 (y0.s 20++ [Int.toNat 0]) v10);(.two (gI (aa v0 0)≠2) (.an v2 (.an ((y0.s 20).length=(y0.s 20).length/\v1=v1/\p.g 24=p.g 24/\v11/\True) (.at ((pX v3 v4 (y0.s 20) v10)/\(v1-v5).toNat<j7.toNat/\∀(y:Sy),y.s 20=y0.s 20++fZ (p.p 25) (p.g 24) v5->y.s 20=z.s 20++fZ (p.p 25) (p.g 24) (z.i 9))))) (.two (gI (aa v0 12)=1) (.an p9 (.an v2 (.an r9 (.at (p5/\(v1-v5).toNat<j7.toNat/\∀(y:Sy),y.s 20=y0.s 20++ [Int.toNat 0]++fZ (p.p 25) (p.g 24) v5->y.s 20=z.s 20++fZ (p.p 25) (p.g 24) (z.i 9)))))) (.two (¬p.p 25) (.an p9 (.an v2 (.an r9 (.at (p5/\(v1-v5).toNat<j7.toNat/\∀(y:Sy),y.s 20=y0.s 20++ [Int.toNat 0]++fZ (p.p 25) (p.g 24) v5->y.s 20=z.s 20++fZ (p.p 25) (p.g 24) (z.i 9)))))) (Yb v8 v7 v9 v6 d5 g7 (dN 16 d5 v8 g7 v7 v9 v6) λy1=>(.an ((y0.s 20).length=(y0.s 20).length/\(y0.s 20).length<=1000000000/\(0:Int)<=1/\True) (.cl ((wS (y0.s 20++ [Int.toNat 1]) (y0.s 20))) (MO (↑(y1.s 10).length:Int) (y0.s 20++ [Int.toNat 1])) (λy2=>y2.s 20=y0.s 20++ [Int.toNat 1]++aK (↑(y1.s 10).length:Int).toNat) λy2=>(.an (CQ (y2.s 20) (y1.s 10)) (.an v2 (.an ((y2.s 20++y1.s 10).length=(y2.s 20).length+(y1.s 10).length/\v1=v1/\p.g 24=p.g 24/\v11/\True) (.at ((pX v3 v4 (y2.s 20++y1.s 10) v10)/\(v1-v5).toNat<j7.toNat/\∀(y:Sy),y.s 20=y2.s 20++y1.s 10++fZ (p.p 25) (p.g 24) v5->y.s 20=z.s 20++fZ (p.p 25) (p.g 24) (z.i 9))))))))))))))) (.an i4 (.at (z.s 20=z.s 20++fZ (p.p 25) (p.g 24) (z.i 9)))))) by
 dsimp only [FF,jJ] at hA;have:=@nM (p.p 25) (p.g 24) (z.i 9);have:=@qB (p.p 25) (p.g 24) (z.i 9);have a3:=@nL (p.p 25) (aq (p.g 24) (z.i 9).toNat);have a4:=@sO (p.p 25) (aq (p.g 24) (z.i 9).toNat);have a5:=@kH (p.p 25) (aq (p.g 24) (z.i 9).toNat);have a6:=AI p z;have a7:=IN p z;dsimp only [tU,jR,xf,mD] at a3 a4 a5 a6 a7;have:=MP p z;have:=MQ p z;conv=>zeta
 repeat' with_reducible first|intro _|apply ci|apply cm|apply cj|apply cD|apply cA
 all_goals first|omega|grind [ao,ak,aj,aX,aY,aZ,a_,ba,bc,be,bf,bh,aB,List.append_assoc,fu]
abbrev Rb(a:G)(b c d:Int):=Fm.ct (HOk a/\b<9223372036854775808/\c<9223372036854775808/\d<9223372036854775808) (λy=>y.s 20=k_ b c d a)
def Zd(z:Sy):=λh hi hn h0 h1=>@MK (z.p 25) (z.g 24) h hi hn 0 h0 h1
def MT:bq 183 FG:=bC 1 0 (ai MN (ai nO eN)) (aG (ptm:=[(0,.ag bk),(1,.c (.b 25))]) MS lN) λz hA=>show Fm.den (let v0:=(↑(z.g 24).length:Int);(Rb (hT z 200) (z.i 21) (z.i 22) (z.i 23) λy0=>(CV (oP (y0.s 20)) v0 (y0.s 20) λy1=>(.cl (((y1.s 20).length=(y1.s 20).length/\v0=v0/\z.g 24=z.g 24/\(z.p 25↔z.p 25)/\True)) (pX (od (z.g 24)) (fE v0) (y1.s 20) (fZ (z.p 25) (z.g 24) 0)) (λy2=>y2.s 20=y1.s 20++fZ (z.p 25) (z.g 24) 0) λy2=>(.an (oP (y2.s 20)) (.at (y2.s 20=mE (z.p 25) (z.i 21) (z.i 22) (z.i 23) (hT z 200) (z.g 24)))))))) by
 dsimp only [FG,bk,hs,jJ] at hA;have:=@gV (z.i 21) (z.i 22) (z.i 23) (hT z 200);have:=sy (k_ (z.i 21) (z.i 22) (z.i 23) (hT z 200));have:=IL z;have t1:(((z.g 24).length:Nat):Int).toNat=(z.g 24).length:=Int.toNat_natCast _;have:=@bP (z.i 21);have:=@bP (z.i 22);have:=@bP (z.i 23);have:=cr z 200;have:=@aI z 200;have:=bu z 200;have:=Zd z;conv=>zeta
 repeat' with_reducible first|intro _|apply ci|apply cm|apply cj|apply cD|apply cA
 all_goals first|omega|grind [ao,ak,aj,aX,aY,aZ,a_,ba,bc,be,bf,bh,aB,List.append_assoc,mE,k_]
abbrev iU(a b c:Int):=a=a/\b=b/\c=c/\True
abbrev pY(a:List G)(b)(c:Prop):=a=a/\fS b b c
abbrev CW(a b c d:Int)(e:List G):=a=a/\b=b/\c=c/\d=d/\e=e/\True
abbrev Ze(a:Prop)(b c:Int)(d:List G):=a/\b.toNat<c.toNat/\∀(y:Sy),(y.i 999=0->fJ d 0=0)/\(¬y.i 999=0->y.i 50=fJ d 0/\¬y.i 50=0)->(y.i 999=0->fJ d 0=0)/\(¬y.i 999=0->y.i 50=fJ d 0/\¬y.i 50=0)
def CX:bM 108 0 vu:=bL 6 133 (ai nP eN) lN λp z hA=>show Fm.den (let v0:=(aP (((((((((((((((((((((((((((((((((((((PS.mk [(999,Tm.i (Int.ofNat (nat_lit 0)))] ((0,(bO 0).fst,0)::jN.loc) jN.ln jN.pr jN.fz).and (cI (p.i 21))).and (cI (p.i 22))).and (cI (p.i 23))).and (cI (p.i (200+nat_lit 0)))).and (cI (p.i (200+nat_lit 1)))).and (cI (p.i (200+nat_lit 2)))).and (cI (p.i (200+nat_lit 3)))).and (cI (p.i (200+nat_lit 4)))).and (cI (p.i (200+nat_lit 5)))).and (cI (p.i (200+nat_lit 6)))).and (cI (p.i (200+nat_lit 7)))).and (cI (p.i (200+nat_lit 8)))).and (cI (p.i (200+nat_lit 9)))).and (cI (p.i (200+nat_lit 10)))).and (cI (p.i (200+nat_lit 11)))).and (cI (p.i (200+nat_lit 12)))).and (cI (p.i (200+nat_lit 13)))).and (cI (p.i (200+nat_lit 14)))).and (cI (p.i (200+nat_lit 15)))).and (cI (p.i (200+nat_lit 16)))).and (cI (p.i (200+nat_lit 17)))).and (cI (p.i (200+nat_lit 18)))).and (cI (p.i (200+nat_lit 19)))).and (cI (p.i (200+nat_lit 20)))).and (cI (p.i (200+nat_lit 21)))).and (cI (p.i (200+nat_lit 22)))).and (cI (p.i (200+nat_lit 23)))).and (cI (p.i (200+nat_lit 24)))).and (cI (p.i (200+nat_lit 25)))).and (cI (p.i (200+nat_lit 26)))).and (cI (p.i (200+nat_lit 27)))).and (cI (p.i (200+nat_lit 28)))).and (cI (p.i (200+nat_lit 29)))).and (cI (p.i (200+nat_lit 30)))).and (cI (p.i (200+nat_lit 31)))).and (p.g 24=p.g 24)).tm);let v1:=(aM (p.g 24) (z.i 9));let v2:=(pY (p.g 24) (jP p 200) (iU (p.i 23) (p.i 22) (p.i 21)));let v3:=(↑(p.g 24).length:Int);(.two (bR (z.i 9) (p.g 24)) (.an (cg (z.i 9) (p.g 24)) (.ct (vo (gS (aa v1 1)) (gI (aa v1 2)) (gI (aa v1 3)) (gI (aa v1 4)) (gI (aa v1 6)) (gS (aa v1 8)) (gL (aa v1 9)) (gL (aa v1 10)) (hX (aa v1 11)) (gI (aa v1 13)) (gI (aa v1 14))) (λy0=>y0.i 50=fH (gI (aa v1 0)) (gS (aa v1 1)) (gI (aa v1 2)) (gI (aa v1 3)) (gI (aa v1 4)) (gI (aa v1 5)) (gI (aa v1 6)) (gI (aa v1 7)) (gS (aa v1 8)) (gL (aa v1 9)) (gL (aa v1 10)) (hX (aa v1 11)) (gI (aa v1 12)=1) (gI (aa v1 13)) (gI (aa v1 14))) λy0=>(.two (y0.i 50≠0) (.an v2 (.at (((1:Int)=0->fJ (p.g 24) 0=0)/\(¬(1:Int)=0->y0.i 50=fJ (p.g 24) 0/\¬y0.i 50=0)))) (.an ((-9223372036854775808)<=z.i 9+1/\z.i 9+1<=9223372036854775807) (.an (pY (p.g 24) (jP p 200) (CW (p.i 23) (p.i 22) (p.i 21) v3 (p.g 24))) (.at (Ze (qA (p.g 24)/\(p.g 24).length<=200/\(dE (z.i 9) (p.g 24))/\fJ (p.g 24) 0=fJ (p.g 24) (z.i 9+1)) (v3-(z.i 9+1)) (v3-z.i 9) (p.g 24)))))))) (.an v2 (.at (((0:Int)=0->fJ (p.g 24) 0=0)/\(¬(0:Int)=0->v0.i 50=fJ (p.g 24) 0/\¬v0.i 50=(0:Int))))))) by dsimp only [vu,mF,tV] at hA;have a1:=@nK (p.g 24) (z.i 9);have a2:=@FA (p.g 24) (z.i 9);have:=@xg (p.g 24) (z.i 9);have a6:=AI p z;dsimp only [xf,mD] at a1 a2 a6;exact dD
abbrev Rc(a:Prop)(b:G)(c d e:Int)(f:Prop)(g:List G):=Fm.ct (a/\HOk b/\c<9223372036854775808/\d<9223372036854775808/\e<9223372036854775808) (λy=>y.s 10=mE f c d e b g)
abbrev Zg(a:Prop)(b:List G)(c:Prop):=Fm.cl (a) (qA b/\b.length<=200/\c/\fJ b 0=fJ b 0) (λy=>(y.i 999=0->fJ b 0=0)/\(¬y.i 999=0->y.i 50=fJ b 0/\¬y.i 50=0))
abbrev sU:=true=true
def sV:bq 108 qC:=bC 21 85217605 (ai MT eN) (aG (ptm:=[(0,.ag bk)]) CX lN) λz hA=>show Fm.den (let v1:=(↑(z.g 24).length:Int);let v2:=(hT z 200);let v0:=((1:Int)=bz (z.i 21) (z.i 22) (z.i 23) v2 (z.g 24));(.two (0<=z.i 21) (.two (¬z.i 21<=2147483648) (.ax v0) (.two (0<=z.i 22) (.two (¬z.i 22<=9007199254740992) (.ax v0) (.two (0<=z.i 23) (.two (¬z.i 23<=9007199254740992) (.ax v0) (.two (1<=v1) (.two (¬v1<=200) (.ax v0) (Zg (pY (z.g 24) (jP z 200) (CW (z.i 23) (z.i 22) (z.i 21) v1 (z.g 24))) (z.g 24) (fE v1) λy0=>(.two (y0.i 999=0) (Rc (od (z.g 24)) v2 (z.i 21) (z.i 22) (z.i 23) (sU) (z.g 24) λy1=>(.two (262144<(↑(y1.s 10).length:Int)) (.ax ((5:Int)=bz (z.i 21) (z.i 22) (z.i 23) v2 (z.g 24))) (.ax ((0:Int)=bz (z.i 21) (z.i 22) (z.i 23) v2 (z.g 24))))) (.ax (y0.i 50=bz (z.i 21) (z.i 22) (z.i 23) v2 (z.g 24)))))) (.ax v0))) (.ax v0))) (.ax v0))) (.ax v0))) by
 dsimp only [qC,bk,hs,BJ] at hA;have:=@jz (z.i 21) (z.i 22) (z.i 23) (hT z 200) (z.g 24);have:=@jA (z.i 21) (z.i 22) (z.i 23) (hT z 200) (z.g 24);have:=@gu (z.i 21) (z.i 22) (z.i 23) (hT z 200) (z.g 24);have:=@mr (z.i 21) (z.i 22) (z.i 23) (hT z 200) (z.g 24);have:=@fg (z.i 21) (z.i 22) (z.i 23) (hT z 200) (z.g 24);conv=>zeta
 repeat' with_reducible first|intro _|apply ci|apply cm|apply cj|apply cD|apply cA
 all_goals first|omega|grind [ao,ak,aj,aX,aY,aZ,a_,ba,bc,be,bf,bh,aB,List.append_assoc,xh]
abbrev IP(a:List G)(b:G)(c d e:Int):=qA a/\HOk b/\a.length<=1000000/\c<9223372036854775808/\d<9223372036854775808/\e<9223372036854775808
abbrev Rd(a:List G)(b:G)(c d e:Int):=Fm.ct (IP a b c d e) (λy=>y.i 50=bz c d e b a)
def IQ:bq 117 nN:=bC 3 1 (ai sV (ai MT eN)) lN λz hA=>show Fm.den (let v0:=(hT z 200);(Rd (z.g 24) v0 (z.i 21) (z.i 22) (z.i 23) λy0=>(.two (y0.i 50≠0) (.ax (y0.i 50=bz (z.i 21) (z.i 22) (z.i 23) v0 (z.g 24)/\(bz (z.i 21) (z.i 22) (z.i 23) v0 (z.g 24)=(0:Int)-> []=mE (z.p 25) (z.i 21) (z.i 22) (z.i 23) v0 (z.g 24))/\(¬bz (z.i 21) (z.i 22) (z.i 23) v0 (z.g 24)=(0:Int)->pV))) (Rc (od (z.g 24)) v0 (z.i 21) (z.i 22) (z.i 23) (z.p 25) (z.g 24) λy1=>(.ax ((0:Int)=bz (z.i 21) (z.i 22) (z.i 23) v0 (z.g 24)/\(bz (z.i 21) (z.i 22) (z.i 23) v0 (z.g 24)=(0:Int)->y1.s 10=mE (z.p 25) (z.i 21) (z.i 22) (z.i 23) v0 (z.g 24))/\(¬bz (z.i 21) (z.i 22) (z.i 23) v0 (z.g 24)=(0:Int)->y1.s 10= []))))))) by
 dsimp only [nN,bk,hs,BJ,sQ] at hA;have:=@jz (z.i 21) (z.i 22) (z.i 23) (hT z 200) (z.g 24);have:=@jA (z.i 21) (z.i 22) (z.i 23) (hT z 200) (z.g 24);have:=@gu (z.i 21) (z.i 22) (z.i 23) (hT z 200) (z.g 24);have:=@mr (z.i 21) (z.i 22) (z.i 23) (hT z 200) (z.g 24);have:=@fg (z.i 21) (z.i 22) (z.i 23) (hT z 200) (z.g 24);conv=>zeta
 repeat' with_reducible first|intro _|apply ci|apply cm|apply cj|apply cD|apply cA
 all_goals first|omega|grind [ao,ak,aj,aX,aY,aZ,a_,ba,bc,be,bf,bh,aB,xh]
def pN:bq 191 sP:=bC 3 1 (ai nP (ai sR (ai E7 eN))) lN λz hA=>show Fm.den (let v0:=(hT z 100);let v1:=(lp (z.i 1) (z.s 2) (z.i 3) (z.i 4) (z.i 5) v0 (z.i 13) (z.i 14));(.ct (vo (z.s 2) (z.i 3) (z.i 4) (z.i 5) (z.i 7) (z.s 9) (z.g 10) (z.g 11) v0 (z.i 13) (z.i 14)) (λy0=>y0.i 50=fH (z.i 1) (z.s 2) (z.i 3) (z.i 4) (z.i 5) (z.i 6) (z.i 7) (z.i 8) (z.s 9) (z.g 10) (z.g 11) v0 (z.p 12) (z.i 13) (z.i 14)) λy0=>(.two (y0.i 50≠0) (.ax (y0.i 50=fH (z.i 1) (z.s 2) (z.i 3) (z.i 4) (z.i 5) (z.i 6) (z.i 7) (z.i 8) (z.s 9) (z.g 10) (z.g 11) v0 (z.p 12) (z.i 13) (z.i 14)/\(fH (z.i 1) (z.s 2) (z.i 3) (z.i 4) (z.i 5) (z.i 6) (z.i 7) (z.i 8) (z.s 9) (z.g 10) (z.g 11) v0 (z.p 12) (z.i 13) (z.i 14)=(0:Int)->hZ=bN v1)/\(¬fH (z.i 1) (z.s 2) (z.i 3) (z.i 4) (z.i 5) (z.i 6) (z.i 7) (z.i 8) (z.s 9) (z.g 10) (z.g 11) v0 (z.p 12) (z.i 13) (z.i 14)=(0:Int)->hZ=hZ))) (.cl ((lM)) (vo (z.s 2) (z.i 3) (z.i 4) (z.i 5) (z.i 7) (z.s 9) (z.g 10) (z.g 11) v0 (z.i 13) (z.i 14)/\0<=100000000) (λy1=>y1.s 20= []++lp (z.i 1) (z.s 2) (z.i 3) (z.i 4) (z.i 5) v0 (z.i 13) (z.i 14)) λy1=>(.an (sq (y1.s 20)) (Q_ (y1.s 20) λy2=>(.ax ((0:Int)=fH (z.i 1) (z.s 2) (z.i 3) (z.i 4) (z.i 5) (z.i 6) (z.i 7) (z.i 8) (z.s 9) (z.g 10) (z.g 11) v0 (z.p 12) (z.i 13) (z.i 14)/\(fH (z.i 1) (z.s 2) (z.i 3) (z.i 4) (z.i 5) (z.i 6) (z.i 7) (z.i 8) (z.s 9) (z.g 10) (z.g 11) v0 (z.p 12) (z.i 13) (z.i 14)=(0:Int)->hT y2 300=bN v1)/\(¬fH (z.i 1) (z.s 2) (z.i 3) (z.i 4) (z.i 5) (z.i 6) (z.i 7) (z.i 8) (z.s 9) (z.g 10) (z.g 11) v0 (z.p 12) (z.i 13) (z.i 14)=(0:Int)->hT y2 300=hZ))))))))) by dsimp only [sP,en,hs,BI,FC,IK] at hA;have:=bH 0 0 0 [] [] [];have:=bH (z.i 6) (z.i 7) (z.i 8) (z.s 9) (z.g 10) (z.g 11);have:=@fe (z.s 2) (z.i 3) (z.i 4) (z.i 5) (z.i 7) (z.s 9) (z.g 10) (z.g 11) (hT z 100) (z.i 13) (z.i 14);have:=@iS (z.i 1) (z.s 2) (z.i 3) (z.i 4) (z.i 5) (z.i 6) (z.i 7) (z.i 8) (z.s 9) (z.g 10) (z.g 11) (hT z 100) (z.p 12) (z.i 13) (z.i 14);have:=@iT (z.i 1) (z.s 2) (z.i 3) (z.i 4) (z.i 5) (z.i 6) (z.i 7) (z.i 8) (z.s 9) (z.g 10) (z.g 11) (hT z 100) (z.p 12) (z.i 13) (z.i 14);have:=@kX (z.i 1) (z.s 2) (z.i 3) (z.i 4) (z.i 5) (z.i 6) (z.i 7) (z.i 8) (z.s 9) (z.g 10) (z.g 11) (hT z 100) (z.p 12) (z.i 13) (z.i 14);have:=@nJ (z.i 1) (z.s 2) (z.i 3) (z.i 4) (z.i 5) (z.i 6) (z.i 7) (z.i 8) (z.s 9) (z.g 10) (z.g 11) (hT z 100) (z.p 12) (z.i 13) (z.i 14);have:=@oY (z.i 1) (z.s 2) (z.i 3) (z.i 4) (z.i 5) (z.i 6) (z.i 7) (z.i 8) (z.s 9) (z.g 10) (z.g 11) (hT z 100) (z.p 12) (z.i 13) (z.i 14);have:=@fc (z.i 1) (z.s 2) (z.i 3) (z.i 4) (z.i 5) (z.i 6) (z.i 7) (z.i 8) (z.s 9) (z.g 10) (z.g 11) (hT z 100) (z.p 12) (z.i 13) (z.i 14);have:=@kY (z.i 1) (z.s 2) (z.i 3) (z.i 4) (z.i 5) (hT z 100) (z.i 13) (z.i 14);have:=@oX (z.i 1) (z.s 2) (z.i 3) (z.i 4) (z.i 5) (oc z) (hT z 100=hZ) (z.p 12) (z.i 13) (z.i 14);exact dD
def Re:bq 194 xk:=bC 1 0 (ai MN (ai pJ eN)) lN λz hA=>show Fm.den ((Rb (hT z 200) (z.i 21) (z.i 22) (z.i 23) λy0=>(.an (sq (y0.s 20)) (.ct (Aj (y0.s 20)) (λy1=>True) λy1=>(.ax (hG (eB (y0.s 20))=dK (k_ (z.i 21) (z.i 22) (z.i 23) (hT z 200)))))))) by dsimp only [xk,bk,hs] at hA;have:=@gV (z.i 21) (z.i 22) (z.i 23) (hT z 200);have:=sy (k_ (z.i 21) (z.i 22) (z.i 23) (hT z 200));have:=IL z;have t1:(((z.g 24).length:Nat):Int).toNat=(z.g 24).length:=Int.toNat_natCast _;have:=@bP (z.i 21);have:=@bP (z.i 22);have:=@bP (z.i 23);have:=cr z 200;have:=@aI z 200;have:=bu z 200;exact dD
noncomputable section
def en2:List Sh:=[.i .i64 41,.s 42,.i .i64 43,.i .i64 44,.i .i64 45,.o,.o,.o,.o,.o,.o]++hs 400++ [.b 52,.i .i64 53,.i .i64 54]
def va6:List Sh:=[.i .i64 6,.i .i64 7,.i .i64 8,.s 9,.v 1 10,.v 2 11]
def MU:FSpec:=⟨[.ag va6],[],λ_=>True,λ_=>.one (.c (.b 50)),λ_=>[],λz y=>y.p 50↔oc z,none⟩
def MV:FSpec:=⟨[.ag en,.ag en2],[],λ_=>True,λ_=>.one (.c (.b 50)),λ_=>[],λz y=>y.p 50↔(z.i 1=z.i 41/\z.s 2=z.s 42/\z.i 3=z.i 43/\z.i 4=z.i 44/\z.i 5=z.i 45/\hT z 100=hT z 400/\(z.p 12↔z.p 52)/\z.i 13=z.i 53/\z.i 14=z.i 54/\oc z),none⟩
def Ug:FSpec:=⟨[.ag en],[],λ_=>True,λ_=>.one (.c (.b 50)),λ_=>[],λz y=>y.p 50↔FB z,none⟩
abbrev Zh:=gW
abbrev NnE(z:Sy):Prop:=0<=z.i 3/\0<=z.i 4/\0<=z.i 5/\0<=z.i 13/\0<=z.i 14
def Zi:FSpec:=⟨[.c (.i .i64 1),.c (.i .i64 2),.c (.i .i64 3)],[],λ_=>True,λ_=>.one (.c (.b 50)),λ_=>[],λz y=>y.p 50↔z.i 2<=z.i 1/\z.i 1<=z.i 3,none⟩
def MW:FSpec:=⟨[.ag en],[],λz=>BI z/\NnE z,λ_=>.one (.c (.vb 10)),λ_=>[],λz y=>y.s 10=IK z,none⟩
abbrev MX:=FE
def vw(p:Sy):LSpec:=⟨[(1,.c (.pb (p.p 25))),(2,.c (.p 0)),(5,.c (.gb 1 20)),(6,.c (.i .i64 9))],[.cells 71 (mF p),.growb 5 20],λz=>jJ (p.g 24)/\(0<=z.i 9/\z.i 9<=(p.g 24).length)/\(z.s 20).length+(fZ (p.p 25) (p.g 24) (z.i 9)).length<=20000000,λz=>((p.g 24).length-z.i 9).toNat,[⟨.exit 0,[(5,.c (.gb 1 20))],[.cells 71 (mF p),.growb 5 20]⟩],λz y=>y.s 20=z.s 20++fZ (p.p 25) (p.g 24) (z.i 9),none,[]⟩
abbrev FH:=FG
def sW(p:Sy):LSpec:=⟨[(1,.c (.p 0)),(3,.c (.i .i64 9))],[.cells 71 (mF p)],λz=>qA (p.g 24)/\(p.g 24).length<=200/\(0<=z.i 9/\z.i 9<=(p.g 24).length)/\fJ (p.g 24) 0=fJ (p.g 24) (z.i 9),λz=>((p.g 24).length-z.i 9).toNat,[⟨.exit 0,[(1,.c (.p 0))],[.cells 71 (mF p)]⟩,⟨.ret,[(2,.c (.i .i64 50))],[.cells 71 (mF p)]⟩],λz y=>(y.i 999=0->fJ (p.g 24) 0=0)/\(¬y.i 999=0->y.i 50=fJ (p.g 24) 0/\¬y.i 50=0),none,[]⟩
abbrev AJ:=qC
abbrev FI:=xk
abbrev vy:=nN
def lvR(e:G):G:=.node [bN (tU e)]
def iv(es:List G)(i:Int):List G:=(es.drop i.toNat).map lvR
def MY{es:List G}{i:Int}(h0:0<=i)(h:i<es.length):iv es i= .node [bN (tU (aq es i.toNat))]::iv es (i+1):=by unfold iv;rw[eH h0 h,aaP];rfl
def Rf{es:List G}{i:Int}(h:(es.length:Int)<=i):iv es i= []:=by unfold iv;rw[aa2 (by omega)];rfl
def lc(es:List G):(iv es 0).length=es.length:=by unfold iv;simp
def vz(p:Sy):LSpec:=⟨[(1,.c (.p 0)),(3,.c (.g 1 32 30)),(4,.c (.i .i64 9))],[.cells 71 (mF p),.grow 6 36 30],λz=>jJ (p.g 24)/\(0<=z.i 9/\z.i 9<=(p.g 24).length)/\(z.g 30).length=z.i 9,λz=>((p.g 24).length-z.i 9).toNat,[⟨.exit 0,[(3,.c (.g 1 32 30))],[.cells 71 (mF p),.grow 6 36 30]⟩],λz y=>y.g 30=z.g 30++iv (p.g 24) (z.i 9),none,[]⟩
def FJ:FSpec:=⟨[.ag bk],[],λz=>jJ (z.g 24),λ_=>.one (.c (.v 6 30)),λ_=>[],λz y=>y.g 30=iv (z.g 24) 0,none⟩
def Wb{e:G}(h:mD e=0):(0<=gI (aa e 2)/\gI (aa e 2)<=64)/\(0<=gI (aa e 3)/\gI (aa e 3)<=65536)/\(0<=gI (aa e 4)/\gI (aa e 4)<=2147483648)/\(gS (aa e 1)).length<=4096/\(0<=gI (aa e 13)/\gI (aa e 13)<=2147483648)/\(0<=gI (aa e 14)/\gI (aa e 14)<=2147483648):=oX (fc h).1
attribute [irreducible] iv
end
def FK:bq 126 MX:=bC 1 0 (ai da eN) lN λz hA=>show Fm.den ((MM (z.i 21) (Max.max 0 (z.i 21)%18446744073709551616) λy0=>(.an (Iy (y0.s 10)) (MM (z.i 22) (Max.max 0 (z.i 22)%18446744073709551616) λy1=>(.an (([]++y0.s 10).length=0+(y0.s 10).length/\0+(y0.s 10).length<=1000000000/\(y1.s 10).length<=1000000) (MM (z.i 23) (Max.max 0 (z.i 23)%18446744073709551616) λy2=>(.an (([]++y0.s 10++y1.s 10).length=0+(y0.s 10).length+(y1.s 10).length/\0+(y0.s 10).length+(y1.s 10).length<=1000000000/\(y2.s 10).length<=1000000) (.an (([]++y0.s 10++y1.s 10++y2.s 10).length=0+(y0.s 10).length+(y1.s 10).length+(y2.s 10).length/\0+(y0.s 10).length+(y1.s 10).length+(y2.s 10).length<=1000000000/\br (jU z 200)) (.an (([]++y0.s 10++y1.s 10++y2.s 10++aH (jU z 200)).length=0+(y0.s 10).length+(y1.s 10).length+(y2.s 10).length+32/\True) (.at ([]++y0.s 10++y1.s 10++y2.s 10++aH (jU z 200)=k_ (z.i 21) (z.i 22) (z.i 23) (hT z 200)))))))))))) by
 dsimp only [MX,FE,bk,hs] at hA;have:=@gV (z.i 21) (z.i 22) (z.i 23) (hT z 200);have:=sy (k_ (z.i 21) (z.i 22) (z.i 23) (hT z 200));have:=IL z;have t1:(((z.g 24).length:Nat):Int).toNat=(z.g 24).length:=Int.toNat_natCast _;have:=@bP (z.i 21);have:=@bP (z.i 22);have:=@bP (z.i 23);have:=cr z 200;have:=@aI z 200;have:=bu z 200;have m21:z.i 21<9223372036854775808->(max 0 (z.i 21)%18446744073709551616).toNat=(z.i 21).toNat:=λa=>by omega
 have m22:z.i 22<9223372036854775808->(max 0 (z.i 22)%18446744073709551616).toNat=(z.i 22).toNat:=λa=>by omega
 have m23:z.i 23<9223372036854775808->(max 0 (z.i 23)%18446744073709551616).toNat=(z.i 23).toNat:=λa=>by omega
 have m2:(z.g 24).length<=200->(((z.g 24).length:Int)%18446744073709551616).toNat=(z.g 24).length:=λh=>by omega
 repeat' with_reducible first|intro _|apply ci|apply cm|apply cj|apply cD|apply cA
 all_goals first|omega|grind [ao,ak,aj,aX,aY,aZ,a_,ba,bc,be,bf,bh,aB,List.append_assoc,k_,bP]
def FL:bq 125 MW:=bC 3 1 (ai da eN) lN λz hA=>show Fm.den (let v0:=(z.i 1%256);let v1:=(↑(z.s 2).length:Int);(tF (z.i 3) (z.i 3%18446744073709551616) λy0=>(.an (0<=z.i 1%256/\True) (.an (1=1) (.an (Mc (y0.s 10)) (tF (z.i 4) (z.i 4%18446744073709551616) λy1=>(.an (([v0.toNat]++y0.s 10).length=1+(y0.s 10).length/\1+(y0.s 10).length<=1000000000/\(y1.s 10).length<=1000000) (tF (z.i 5) (z.i 5%18446744073709551616) λy2=>(.an (([v0.toNat]++y0.s 10++y1.s 10).length=1+(y0.s 10).length+(y1.s 10).length/\1+(y0.s 10).length+(y1.s 10).length<=1000000000/\(y2.s 10).length<=1000000) (tF v1 (v1%18446744073709551616) λy3=>(.an (([v0.toNat]++y0.s 10++y1.s 10++y2.s 10).length=1+(y0.s 10).length+(y1.s 10).length+(y2.s 10).length/\1+(y0.s 10).length+(y1.s 10).length+(y2.s 10).length<=1000000000/\(y3.s 10).length<=1000000) (.an (([v0.toNat]++y0.s 10++y1.s 10++y2.s 10++y3.s 10).length=1+(y0.s 10).length+(y1.s 10).length+(y2.s 10).length+(y3.s 10).length/\1+(y0.s 10).length+(y1.s 10).length+(y2.s 10).length+(y3.s 10).length<=1000000000/\(z.s 2).length<=1000000) (tF (z.i 13) (z.i 13%18446744073709551616) λy4=>(.an (([v0.toNat]++y0.s 10++y1.s 10++y2.s 10++y3.s 10++z.s 2).length=1+(y0.s 10).length+(y1.s 10).length+(y2.s 10).length+(y3.s 10).length+(z.s 2).length/\1+(y0.s 10).length+(y1.s 10).length+(y2.s 10).length+(y3.s 10).length+(z.s 2).length<=1000000000/\(y4.s 10).length<=1000000) (tF (z.i 14) (z.i 14%18446744073709551616) λy5=>(let v2:=([v0.toNat]++y0.s 10++y1.s 10++y2.s 10++y3.s 10++z.s 2++y4.s 10++y5.s 10);(.an (([v0.toNat]++y0.s 10++y1.s 10++y2.s 10++y3.s 10++z.s 2++y4.s 10).length=1+(y0.s 10).length+(y1.s 10).length+(y2.s 10).length+(y3.s 10).length+(z.s 2).length+(y4.s 10).length/\1+(y0.s 10).length+(y1.s 10).length+(y2.s 10).length+(y3.s 10).length+(z.s 2).length+(y4.s 10).length<=1000000000/\(y5.s 10).length<=1000000) (.two (z.i 1=2) (.an (v2.length=1+(y0.s 10).length+(y1.s 10).length+(y2.s 10).length+(y3.s 10).length+(z.s 2).length+(y4.s 10).length+(y5.s 10).length/\1+(y0.s 10).length+(y1.s 10).length+(y2.s 10).length+(y3.s 10).length+(z.s 2).length+(y4.s 10).length+(y5.s 10).length<=1000000000/\br (jU z 100)) (.an (([v0.toNat]++y0.s 10++y1.s 10++y2.s 10++y3.s 10++z.s 2++y4.s 10++y5.s 10++aH (jU z 100)).length=1+(y0.s 10).length+(y1.s 10).length+(y2.s 10).length+(y3.s 10).length+(z.s 2).length+(y4.s 10).length+(y5.s 10).length+32/\True) (.at ([v0.toNat]++y0.s 10++y1.s 10++y2.s 10++y3.s 10++z.s 2++y4.s 10++y5.s 10++aH (jU z 100)=lp (z.i 1) (z.s 2) (z.i 3) (z.i 4) (z.i 5) (hT z 100) (z.i 13) (z.i 14))))) (.an (v2.length=1+(y0.s 10).length+(y1.s 10).length+(y2.s 10).length+(y3.s 10).length+(z.s 2).length+(y4.s 10).length+(y5.s 10).length/\True) (.at ([v0.toNat]++y0.s 10++y1.s 10++y2.s 10++y3.s 10++z.s 2++y4.s 10++y5.s 10=lp (z.i 1) (z.s 2) (z.i 3) (z.i 4) (z.i 5) (hT z 100) (z.i 13) (z.i 14)))))))))))))))))))))) by
 dsimp only [MW,en,hs,BI,NnE,IK] at hA;have:=bH 0 0 0 [] [] [];have:=bH (z.i 6) (z.i 7) (z.i 8) (z.s 9) (z.g 10) (z.g 11);have:=@fe (z.s 2) (z.i 3) (z.i 4) (z.i 5) (z.i 7) (z.s 9) (z.g 10) (z.g 11) (hT z 100) (z.i 13) (z.i 14);have:=@xe (z.i 1) (z.s 2) (z.i 3) (z.i 4) (z.i 5) (hT z 100) (z.i 13) (z.i 14);have:=@sM (z.i 1) (z.s 2) (z.i 3) (z.i 4) (z.i 5) (hT z 100) (z.i 13) (z.i 14);have:=@bP (z.i 3);have:=@bP (z.i 4);have:=@bP (z.i 5);have:=@bP (z.i 13);have:=@bP (z.i 14);have:=@fu (z.s 2).length;have:=cr z 100;have:=@aI z 100;have:=bu z 100;have t1:(((z.s 2).length:Nat):Int).toNat=(z.s 2).length:=Int.toNat_natCast _;have m3:0<=z.i 3->z.i 3<9223372036854775808->(z.i 3%18446744073709551616).toNat=(z.i 3).toNat:=λa b=>by omega
 have m4:0<=z.i 4->z.i 4<9223372036854775808->(z.i 4%18446744073709551616).toNat=(z.i 4).toNat:=λa b=>by omega
 have m5:0<=z.i 5->z.i 5<9223372036854775808->(z.i 5%18446744073709551616).toNat=(z.i 5).toNat:=λa b=>by omega
 have m13:0<=z.i 13->z.i 13<9223372036854775808->(z.i 13%18446744073709551616).toNat=(z.i 13).toNat:=λa b=>by omega
 have m14:0<=z.i 14->z.i 14<9223372036854775808->(z.i 14%18446744073709551616).toNat=(z.i 14).toNat:=λa b=>by omega
 have m2:(z.s 2).length<=1000000->(((z.s 2).length:Int)%18446744073709551616).toNat=(z.s 2).length:=λh=>by omega
 conv=>zeta
 repeat' with_reducible first|intro _|apply ci|apply cm|apply cj|apply cD|apply cA
 all_goals first|omega|grind [ao,ak,aj,aX,aY,aZ,a_,ba,bc,be,bf,bh,aB,List.append_assoc,bu]
abbrev FM(a:List Nat)(b:List G)(c)(d:Prop):=a.length=a.length/\b=b/\fS c c d
def Rg(p:Sy)(z:Sy):=@Wb (aq (p.g 24) (z.i 9).toNat)
def Zj(p:Sy)(z:Sy):=λa b c d e f g=>@kY (gI (aa (aq (p.g 24) (z.i 9).toNat) 0)) (gS (aa (aq (p.g 24) (z.i 9).toNat) 1)) (gI (aa (aq (p.g 24) (z.i 9).toNat) 2)) (gI (aa (aq (p.g 24) (z.i 9).toNat) 3)) (gI (aa (aq (p.g 24) (z.i 9).toNat) 4)) (hX (aa (aq (p.g 24) (z.i 9).toNat) 11)) (gI (aa (aq (p.g 24) (z.i 9).toNat) 13)) (gI (aa (aq (p.g 24) (z.i 9).toNat) 14)) a b c d e f g
def CY:bM 176 0 vw:=bL 13 2246949 (ai FL (ai oW (ai da eN))) lN λp z hA=>show Fm.den (let v0:=(aM (p.g 24) (z.i 9));let v1:=(p.i 23=p.i 23/\p.i 22=p.i 22/\p.i 21=p.i 21/\(p.p 25↔p.p 25)/\True);let v2:=((-9223372036854775808)<=z.i 9+1/\z.i 9+1<=9223372036854775807);let v3:=(od (p.g 24));let v4:=(↑(p.g 24).length:Int);let v5:=(dE (z.i 9) (p.g 24));let v6:=(z.i 9+1);let v7:=(gL (aa v0 10));let v8:=(gS (aa v0 8));let v9:=(jP p 200);let v10:=(gI (aa v0 6));let v11:=(gL (aa v0 9));let d5:=(fZ (p.p 25) (p.g 24) v6);let g7:=(gI (aa v0 5));let i4:=(gI (aa v0 7));let j7:=(v4-z.i 9);(.two (bR (z.i 9) (p.g 24)) (.an (cg (z.i 9) (p.g 24)) (.ct (vo (gS (aa v0 1)) (gI (aa v0 2)) (gI (aa v0 3)) (gI (aa v0 4)) v10 v8 v11 v7 (hX (aa v0 11)) (gI (aa v0 13)) (gI (aa v0 14))/\(0:Int)<=gI (aa v0 2)/\(0:Int)<=gI (aa v0 3)/\(0:Int)<=gI (aa v0 4)/\(0:Int)<=gI (aa v0 13)/\(0:Int)<=gI (aa v0 14)) (λy0=>y0.s 10=lp (gI (aa v0 0)) (gS (aa v0 1)) (gI (aa v0 2)) (gI (aa v0 3)) (gI (aa v0 4)) (hX (aa v0 11)) (gI (aa v0 13)) (gI (aa v0 14))) λy0=>(let p9:=((z.s 20++y0.s 10++ [Int.toNat 0]).length=(z.s 20).length+(y0.s 10).length+1/\p.g 24=p.g 24/\fS v9 v9 v1);let p5:=(pX v3 v5 (z.s 20++y0.s 10++ [Int.toNat 0]) d5);let q9:=(z.s 20++y0.s 10);let r9:=(q9.length=(z.s 20).length+(y0.s 10).length/\(z.s 20).length+(y0.s 10).length<=1000000000/\(0:Int)<=0/\True);(.an (CQ (z.s 20) (y0.s 10)) (.two (gI (aa v0 0)≠2) (.an v2 (.an (q9.length=(z.s 20).length+(y0.s 10).length/\p.g 24=p.g 24/\fS v9 v9 v1) (.at ((pX v3 v5 q9 d5)/\(v4-v6).toNat<j7.toNat/\∀(y:Sy),y.s 20=z.s 20++y0.s 10++fZ (p.p 25) (p.g 24) v6->y.s 20=z.s 20++fZ (p.p 25) (p.g 24) (z.i 9))))) (.two (gI (aa v0 12)=1) (.an r9 (.an v2 (.an p9 (.at (p5/\(v4-v6).toNat<j7.toNat/\∀(y:Sy),y.s 20=z.s 20++y0.s 10++ [Int.toNat 0]++fZ (p.p 25) (p.g 24) v6->y.s 20=z.s 20++fZ (p.p 25) (p.g 24) (z.i 9)))))) (.two (¬p.p 25) (.an r9 (.an v2 (.an p9 (.at (p5/\(v4-v6).toNat<j7.toNat/\∀(y:Sy),y.s 20=z.s 20++y0.s 10++ [Int.toNat 0]++fZ (p.p 25) (p.g 24) v6->y.s 20=z.s 20++fZ (p.p 25) (p.g 24) (z.i 9)))))) (Yb v10 v8 v11 v7 g7 i4 (dN 16 g7 v10 i4 v8 v11 v7) λy1=>(let v20:=(↑(y1.s 10).length:Int);(.an (q9.length=(z.s 20).length+(y0.s 10).length/\(z.s 20).length+(y0.s 10).length<=1000000000/\(0:Int)<=1/\True) (tF v20 (v20%18446744073709551616) λy2=>(let v21:=(z.s 20++y0.s 10++ [Int.toNat 1]++y2.s 10++y1.s 10);(.an ((z.s 20++y0.s 10++ [Int.toNat 1]).length=(z.s 20).length+(y0.s 10).length+1/\(z.s 20).length+(y0.s 10).length+1<=1000000000/\(y2.s 10).length<=1000000) (.an ((z.s 20++y0.s 10++ [Int.toNat 1]++y2.s 10).length=(z.s 20).length+(y0.s 10).length+1+(y2.s 10).length/\(z.s 20).length+(y0.s 10).length+1+(y2.s 10).length<=1000000000/\(y1.s 10).length<=1000000) (.an v2 (.an (v21.length=(z.s 20).length+(y0.s 10).length+1+(y2.s 10).length+(y1.s 10).length/\p.g 24=p.g 24/\fS v9 v9 v1) (.at ((pX v3 v5 v21 d5)/\(v4-v6).toNat<j7.toNat/\∀(y:Sy),y.s 20=z.s 20++y0.s 10++ [Int.toNat 1]++y2.s 10++y1.s 10++fZ (p.p 25) (p.g 24) v6->y.s 20=z.s 20++fZ (p.p 25) (p.g 24) (z.i 9))))))))))))))))))) (.an (FM (z.s 20) (p.g 24) v9 (iU (p.i 23) (p.i 22) (p.i 21))) (.at (z.s 20=z.s 20++fZ (p.p 25) (p.g 24) (z.i 9)))))) by
 dsimp only [vw,mF,tV,jJ] at hA;have:=@nM (p.p 25) (p.g 24) (z.i 9);have:=@qB (p.p 25) (p.g 24) (z.i 9);have a3:=@nL (p.p 25) (aq (p.g 24) (z.i 9).toNat);have a4:=@sO (p.p 25) (aq (p.g 24) (z.i 9).toNat);have a5:=@kH (p.p 25) (aq (p.g 24) (z.i 9).toNat);have a6:=AI p z;have a7:=IN p z;dsimp only [tU,jR,xf,mD] at a3 a4 a5 a6 a7;have:=MP p z;have:=MQ p z;have q1:=Rg p z;dsimp only [mD] at q1;have:=Zj p z;conv=>zeta
 repeat' with_reducible first|intro _|apply ci|apply cm|apply cj|apply cD|apply cA
 all_goals first|omega|grind [ao,ak,aj,aX,aY,aZ,a_,ba,bc,be,bf,bh,aB,List.append_assoc,fu,bP]
def AK:bq 176 FH:=bC 1 0 (ai FK (ai da eN)) (aG (ptm:=[(0,.ag bk),(1,.c (.b 25))]) CY lN) λz hA=>show Fm.den (let v0:=(↑(z.g 24).length:Int);(Rb (hT z 200) (z.i 21) (z.i 22) (z.i 23) λy0=>(tF v0 (v0%18446744073709551616) λy1=>(.an (CQ (y0.s 20) (y1.s 10)) (.cl (((y0.s 20++y1.s 10).length=(y0.s 20).length+(y1.s 10).length/\z.g 24=z.g 24/\fS (jP z 200) (jP z 200) (z.i 23=z.i 23/\z.i 22=z.i 22/\z.i 21=z.i 21/\(z.p 25↔z.p 25)/\True))) (pX (od (z.g 24)) (fE v0) (y0.s 20++y1.s 10) (fZ (z.p 25) (z.g 24) 0)) (λy2=>y2.s 20=y0.s 20++y1.s 10++fZ (z.p 25) (z.g 24) 0) λy2=>(.an (oP (y2.s 20)) (.at (y2.s 20=mE (z.p 25) (z.i 21) (z.i 22) (z.i 23) (hT z 200) (z.g 24))))))))) by
 dsimp only [FH,FG,bk,hs,jJ] at hA;have:=@gV (z.i 21) (z.i 22) (z.i 23) (hT z 200);have:=sy (k_ (z.i 21) (z.i 22) (z.i 23) (hT z 200));have:=IL z;have t1:(((z.g 24).length:Nat):Int).toNat=(z.g 24).length:=Int.toNat_natCast _;have:=@bP (z.i 21);have:=@bP (z.i 22);have:=@bP (z.i 23);have:=cr z 200;have:=@aI z 200;have:=bu z 200;have m21:z.i 21<9223372036854775808->(max 0 (z.i 21)%18446744073709551616).toNat=(z.i 21).toNat:=λa=>by omega
 have m22:z.i 22<9223372036854775808->(max 0 (z.i 22)%18446744073709551616).toNat=(z.i 22).toNat:=λa=>by omega
 have m23:z.i 23<9223372036854775808->(max 0 (z.i 23)%18446744073709551616).toNat=(z.i 23).toNat:=λa=>by omega
 have m2:(z.g 24).length<=200->(((z.g 24).length:Int)%18446744073709551616).toNat=(z.g 24).length:=λh=>by omega
 have:=Zd z;conv=>zeta
 repeat' with_reducible first|intro _|apply ci|apply cm|apply cj|apply cD|apply cA
 all_goals first|omega|grind [ao,ak,aj,aX,aY,aZ,a_,ba,bc,be,bf,bh,aB,List.append_assoc,mE,k_]
def FN:bq 265 MU:=bC 15 252776721 eN lN λz hA=>show Fm.den (let v0:=(false=true↔ib (z.i 6) (z.i 7) (z.i 8) (z.s 9) (z.g 10) (z.g 11));let v1:=(↑(z.g 10).length:Int);let v2:=(↑(z.g 11).length:Int);(.two (z.i 6≠0) (.ax v0) (.two (z.i 7≠0) (.ax v0) (.two (z.i 8≠0) (.ax v0) (.two (z.s 9≠ []) (.ax v0) (.two (v1≠0) (.ax v0) (.two (v2≠0) (.ax v0) (.an (¬(0<v1)) (.an (¬(0<v2)) (.ax (true=true↔ib (z.i 6) (z.i 7) (z.i 8) (z.s 9) (z.g 10) (z.g 11)))))))))))) by dsimp only [MU,va6,oc] at hA;have:=bH (z.i 6) (z.i 7) (z.i 8) (z.s 9) (z.g 10) (z.g 11);exact dD
def Rh:bq 264 MV:=bC 23 285300053 (ai FN eN) lN λz hA=>show Fm.den (let v0:=(false=true↔z.i 1=z.i 41/\z.s 2=z.s 42/\z.i 3=z.i 43/\z.i 4=z.i 44/\z.i 5=z.i 45/\hT z 100=hT z 400/\(z.p 12↔z.p 52)/\z.i 13=z.i 53/\z.i 14=z.i 54/\ib (z.i 6) (z.i 7) (z.i 8) (z.s 9) (z.g 10) (z.g 11));let v1:=([z.i 13,z.i 14]= [z.i 53,z.i 54]);(.two (z.i 1=z.i 41) (.two (z.s 2=z.s 42) (.two (z.i 3=z.i 43) (.two (z.i 4=z.i 44) (.two (z.i 5=z.i 45) (.two (lQ (hT z 100) (hT z 400)) (.two (z.p 12) (.two (z.p 52) (.two v1 (.ct (True) (λy0=>(y0.p 50↔ib (z.i 6) (z.i 7) (z.i 8) (z.s 9) (z.g 10) (z.g 11))) λy0=>(.ax (y0.p 50↔z.i 1=z.i 41/\z.s 2=z.s 42/\z.i 3=z.i 43/\z.i 4=z.i 44/\z.i 5=z.i 45/\hT z 100=hT z 400/\(z.p 12↔z.p 52)/\z.i 13=z.i 53/\z.i 14=z.i 54/\ib (z.i 6) (z.i 7) (z.i 8) (z.s 9) (z.g 10) (z.g 11)))) (.ax v0)) (.ax v0)) (.two (z.p 52) (.ax v0) (.two v1 (.ct (True) (λy1=>(y1.p 50↔ib (z.i 6) (z.i 7) (z.i 8) (z.s 9) (z.g 10) (z.g 11))) λy1=>(.ax (y1.p 50↔z.i 1=z.i 41/\z.s 2=z.s 42/\z.i 3=z.i 43/\z.i 4=z.i 44/\z.i 5=z.i 45/\hT z 100=hT z 400/\(z.p 12↔z.p 52)/\z.i 13=z.i 53/\z.i 14=z.i 54/\ib (z.i 6) (z.i 7) (z.i 8) (z.s 9) (z.g 10) (z.g 11)))) (.ax v0)))) (.ax v0)) (.ax v0)) (.ax v0)) (.ax v0)) (.ax v0)) (.ax v0))) by dsimp only [MV,en,hs,en2,oc] at hA;exact dD
def Zk:bq 174 Zi:=bC 3 1 eN lN λz hA=>show Fm.den ((.two (z.i 2<=z.i 1) (.ax (z.i 1<=z.i 3↔z.i 2<=z.i 1/\z.i 1<=z.i 3)) (.ax (false=true↔z.i 2<=z.i 1/\z.i 1<=z.i 3)))) by dsimp only [Zi] at hA;exact dD
abbrev Ri(a:Int):=Fm.ct (True) (λy=>(y.p 50↔0<=a/\a<=2147483648))
def Wc:bq 220 Ug:=bC 134 2318217041492198042024772958205177482006813296078085134296460220892666025022725 (ai FN (ai Rh (ai Zk eN))) lN λz hA=>show Fm.den (let v1:=(ib (z.i 6) (z.i 7) (z.i 8) (z.s 9) (z.g 10) (z.g 11));let v2:=(z.p 12↔false=true);let v3:=(hT z 100=hZ);let v0:=(false=true↔ic (z.i 1) (z.s 2) (z.i 3) (z.i 4) (z.i 5) v1 v3 (z.p 12) (z.i 13) (z.i 14));let v4:=(↑(z.s 2).length:Int);(.ct (True) (λy0=>(y0.p 50↔1<=v4/\v4<=40)) λy0=>(.ct (True) (λy1=>(y1.p 50↔1<=z.i 3/\z.i 3<=64)) λy1=>(.ct (True) (λy2=>(y2.p 50↔1<=z.i 4/\z.i 4<=65536)) λy2=>(let v5:=(¬(y2.p 50));(.two (z.i 1=1) (.ct (True) (λy3=>(y3.p 50↔1<=v4/\v4<=4096)) λy3=>(.two (y3.p 50) (.ct (True) (λy4=>(y4.p 50↔z.i 1=z.i 1/\z.s 2=z.s 2/\z.i 3=0/\z.i 4=0/\z.i 5=0/\hT z 100=hZ/\v2/\z.i 13=0/\z.i 14=0/\ib (z.i 6) (z.i 7) (z.i 8) (z.s 9) (z.g 10) (z.g 11))) λy4=>(.ax (y4.p 50↔ic (z.i 1) (z.s 2) (z.i 3) (z.i 4) (z.i 5) v1 v3 (z.p 12) (z.i 13) (z.i 14)))) (.ax v0))) (.two (z.i 1=2) (.two (z.p 12) (.ct (True) (λy5=>(y5.p 50↔ib (z.i 6) (z.i 7) (z.i 8) (z.s 9) (z.g 10) (z.g 11))) λy5=>(.two (¬y5.p 50) (.ax v0) (.two (y1.p 50) (.an (y1.p 50) (.two (y2.p 50) (.an (y2.p 50) (.an (y2.p 50) (Ri (z.i 5) λy6=>(let v6:=(¬(y6.p 50));(.an (y2.p 50) (.two (y6.p 50) (.an (y6.p 50) (.an (y6.p 50) (.an (y6.p 50) (.an (y6.p 50) (.an (y6.p 50) (.an (y6.p 50) (.an (y6.p 50) (.an (y6.p 50) (.an (y6.p 50) (.an (y6.p 50) (.an (y6.p 50) (.an (y6.p 50) (.an (y6.p 50) (.an (y6.p 50) (.an (y6.p 50) (.ct (True) (λy7=>(y7.p 50↔z.i 1=z.i 1/\z.s 2= []/\z.i 3=z.i 3/\z.i 4=z.i 4/\z.i 5=z.i 5/\hT z 100=hT z 100/\(z.p 12↔z.p 12)/\z.i 13=0/\z.i 14=0/\ib 0 0 0 [] [] [])) λy7=>(.an (y6.p 50) (.ax (y7.p 50↔ic (z.i 1) (z.s 2) (z.i 3) (z.i 4) (z.i 5) v1 v3 (z.p 12) (z.i 13) (z.i 14)))))))))))))))))))) (.an v6 (.an v6 (.an v6 (.an v6 (.an v6 (.an v6 (.an v6 (.an v6 (.an v6 (.an v6 (.an v6 (.an v6 (.an v6 (.an v6 (.an v6 (.an v6 (.ax v0))))))))))))))))))))))) (.an v5 (.an v5 (.an v5 (.ax v0)))))) (.an (¬(y1.p 50)) (.ax v0))))) (.two (y1.p 50) (.an (y1.p 50) (.two (y2.p 50) (.an (y2.p 50) (.an (y2.p 50) (Ri (z.i 5) λy8=>(let v7:=(¬(y8.p 50));(.an (y2.p 50) (.two (y8.p 50) (.an (y8.p 50) (.an (y8.p 50) (.an (y8.p 50) (.an (y8.p 50) (.an (y8.p 50) (.an (y8.p 50) (.an (y8.p 50) (.an (y8.p 50) (.an (y8.p 50) (.an (y8.p 50) (.an (y8.p 50) (.an (y8.p 50) (.an (y8.p 50) (.an (y8.p 50) (.an (y8.p 50) (.ct (True) (λy9=>(y9.p 50↔z.i 1=z.i 1/\z.s 2= []/\z.i 3=z.i 3/\z.i 4=z.i 4/\z.i 5=z.i 5/\hT z 100=hT z 100/\(z.p 12↔z.p 12)/\z.i 13=0/\z.i 14=0/\ib 0 0 0 [] [] [])) λy9=>(.an (y8.p 50) (.ax (y9.p 50↔ic (z.i 1) (z.s 2) (z.i 3) (z.i 4) (z.i 5) v1 v3 (z.p 12) (z.i 13) (z.i 14)))))))))))))))))))) (.an v7 (.an v7 (.an v7 (.an v7 (.an v7 (.an v7 (.an v7 (.an v7 (.an v7 (.an v7 (.an v7 (.an v7 (.an v7 (.an v7 (.an v7 (.an v7 (.ax v0))))))))))))))))))))))) (.an v5 (.an v5 (.an v5 (.ax v0)))))) (.an (¬(y1.p 50)) (.ax v0)))) (.two (z.i 1=3) (.two (y1.p 50) (.two (y2.p 50) (.ct (True) (λm6=>(m6.p 50↔1<=z.i 5/\z.i 5<=2147483648)) λm6=>(.two (m6.p 50) (.ct (True) (λu9=>(u9.p 50↔z.i 1=z.i 1/\z.s 2= []/\z.i 3=z.i 3/\z.i 4=z.i 4/\z.i 5=z.i 5/\hT z 100=hZ/\v2/\z.i 13=0/\z.i 14=0/\ib (z.i 6) (z.i 7) (z.i 8) (z.s 9) (z.g 10) (z.g 11))) λu9=>(.ax (u9.p 50↔ic (z.i 1) (z.s 2) (z.i 3) (z.i 4) (z.i 5) v1 v3 (z.p 12) (z.i 13) (z.i 14)))) (.ax v0))) (.ax v0)) (.ax v0)) (.two (z.i 1=4) (Ri (z.i 13) λy12=>(.two (y12.p 50) (Ri (z.i 14) λp6=>(.two (p6.p 50) (.ct (True) (λy14=>(y14.p 50↔z.i 1=z.i 1/\z.s 2= []/\z.i 3=0/\z.i 4=0/\z.i 5=0/\hT z 100=hZ/\v2/\z.i 13=z.i 13/\z.i 14=z.i 14/\ib (z.i 6) (z.i 7) (z.i 8) (z.s 9) (z.g 10) (z.g 11))) λy14=>(.ax (y14.p 50↔ic (z.i 1) (z.s 2) (z.i 3) (z.i 4) (z.i 5) v1 v3 (z.p 12) (z.i 13) (z.i 14)))) (.ax v0))) (.ax v0))) (.two (z.i 1=5) (.an (z.i 1=5) (.two (y1.p 50) (.two (y0.p 50) (.ct (True) (λy15=>(y15.p 50↔z.i 1=z.i 1/\z.s 2=z.s 2/\z.i 3=z.i 3/\z.i 4=0/\z.i 5=0/\hT z 100=hZ/\v2/\z.i 13=0/\z.i 14=0/\ib (z.i 6) (z.i 7) (z.i 8) (z.s 9) (z.g 10) (z.g 11))) λy15=>(.ax (y15.p 50↔ic (z.i 1) (z.s 2) (z.i 3) (z.i 4) (z.i 5) v1 v3 (z.p 12) (z.i 13) (z.i 14)))) (.ax v0)) (.ax v0))) (.two (z.i 1=7) (.two (y1.p 50) (.two (y0.p 50) (.ct (True) (λy16=>(y16.p 50↔z.i 1=z.i 1/\z.s 2=z.s 2/\z.i 3=z.i 3/\z.i 4=0/\z.i 5=0/\hT z 100=hZ/\v2/\z.i 13=0/\z.i 14=0/\ib (z.i 6) (z.i 7) (z.i 8) (z.s 9) (z.g 10) (z.g 11))) λy16=>(.ax (y16.p 50↔ic (z.i 1) (z.s 2) (z.i 3) (z.i 4) (z.i 5) v1 v3 (z.p 12) (z.i 13) (z.i 14)))) (.ax v0)) (.ax v0)) (.two (z.i 1=6) (.two (y1.p 50) (.ct (True) (λy17=>(y17.p 50↔z.i 1=z.i 1/\z.s 2= []/\z.i 3=z.i 3/\z.i 4=0/\z.i 5=0/\hT z 100=hZ/\v2/\z.i 13=0/\z.i 14=0/\ib (z.i 6) (z.i 7) (z.i 8) (z.s 9) (z.g 10) (z.g 11))) λy17=>(.ax (y17.p 50↔ic (z.i 1) (z.s 2) (z.i 3) (z.i 4) (z.i 5) v1 v3 (z.p 12) (z.i 13) (z.i 14)))) (.ax v0)) (.ax v0))))))))))))) by dsimp only [Ug,en,hs,FB,oc] at hA;have:=bH 0 0 0 [] [] [];have:=bH (z.i 6) (z.i 7) (z.i 8) (z.s 9) (z.g 10) (z.g 11);have:=@MH (z.i 1) (z.s 2) (z.i 3) (z.i 4) (z.i 5) (oc z) (hT z 100=hZ) (z.p 12) (z.i 13) (z.i 14);have:=@AE (z.i 1) (z.s 2) (z.i 3) (z.i 4) (z.i 5) (oc z) (hT z 100=hZ) (z.p 12) (z.i 13) (z.i 14);have:=@AF (z.i 1) (z.s 2) (z.i 3) (z.i 4) (z.i 5) (oc z) (hT z 100=hZ) (z.p 12) (z.i 13) (z.i 14);have:=@Fv (z.i 1) (z.s 2) (z.i 3) (z.i 4) (z.i 5) (oc z) (hT z 100=hZ) (z.p 12) (z.i 13) (z.i 14);have:=@Fw (z.i 1) (z.s 2) (z.i 3) (z.i 4) (z.i 5) (oc z) (hT z 100=hZ) (z.p 12) (z.i 13) (z.i 14);have:=@Fx (z.i 1) (z.s 2) (z.i 3) (z.i 4) (z.i 5) (oc z) (hT z 100=hZ) (z.p 12) (z.i 13) (z.i 14);have:=@Fz (z.i 1) (z.s 2) (z.i 3) (z.i 4) (z.i 5) (oc z) (hT z 100=hZ) (z.p 12) (z.i 13) (z.i 14);have:=@Fy (z.i 1) (z.s 2) (z.i 3) (z.i 4) (z.i 5) (oc z) (hT z 100=hZ) (z.p 12) (z.i 13) (z.i 14);exact dD
def Zl:bq 175 Zh:=bC 11 69905 (ai Wc (ai Fu eN)) lN λz hA=>show Fm.den (let v1:=(hT z 100);let v0:=((0:Int)=fH (z.i 1) (z.s 2) (z.i 3) (z.i 4) (z.i 5) (z.i 6) (z.i 7) (z.i 8) (z.s 9) (z.g 10) (z.g 11) v1 (z.p 12) (z.i 13) (z.i 14));(.ct (True) (λy0=>(y0.p 50↔ic (z.i 1) (z.s 2) (z.i 3) (z.i 4) (z.i 5) (ib (z.i 6) (z.i 7) (z.i 8) (z.s 9) (z.g 10) (z.g 11)) (hT z 100=hZ) (z.p 12) (z.i 13) (z.i 14))) λy0=>(.two (¬y0.p 50) (.ax ((3:Int)=fH (z.i 1) (z.s 2) (z.i 3) (z.i 4) (z.i 5) (z.i 6) (z.i 7) (z.i 8) (z.s 9) (z.g 10) (z.g 11) v1 (z.p 12) (z.i 13) (z.i 14))) (.two (z.i 1≠2) (.ax v0) (.two (z.p 12) (.ax v0) (Wa (z.i 7) (z.s 9) (z.g 10) (z.g 11) (z.i 6) (z.i 8) λy1=>(.two (y1.i 11≠0) (.ax (y1.i 11=fH (z.i 1) (z.s 2) (z.i 3) (z.i 4) (z.i 5) (z.i 6) (z.i 7) (z.i 8) (z.s 9) (z.g 10) (z.g 11) v1 (z.p 12) (z.i 13) (z.i 14))) (.two (¬lQ (hT y1 300) v1) (.ax ((18:Int)=fH (z.i 1) (z.s 2) (z.i 3) (z.i 4) (z.i 5) (z.i 6) (z.i 7) (z.i 8) (z.s 9) (z.g 10) (z.g 11) v1 (z.p 12) (z.i 13) (z.i 14))) (.ax v0))))))))) by dsimp only [Zh,gW,en,hs,BI,FC] at hA;have:=bH 0 0 0 [] [] [];have:=bH (z.i 6) (z.i 7) (z.i 8) (z.s 9) (z.g 10) (z.g 11);have:=@fe (z.s 2) (z.i 3) (z.i 4) (z.i 5) (z.i 7) (z.s 9) (z.g 10) (z.g 11) (hT z 100) (z.i 13) (z.i 14);have:=@iS (z.i 1) (z.s 2) (z.i 3) (z.i 4) (z.i 5) (z.i 6) (z.i 7) (z.i 8) (z.s 9) (z.g 10) (z.g 11) (hT z 100) (z.p 12) (z.i 13) (z.i 14);have:=@iT (z.i 1) (z.s 2) (z.i 3) (z.i 4) (z.i 5) (z.i 6) (z.i 7) (z.i 8) (z.s 9) (z.g 10) (z.g 11) (hT z 100) (z.p 12) (z.i 13) (z.i 14);have:=@kX (z.i 1) (z.s 2) (z.i 3) (z.i 4) (z.i 5) (z.i 6) (z.i 7) (z.i 8) (z.s 9) (z.g 10) (z.g 11) (hT z 100) (z.p 12) (z.i 13) (z.i 14);have:=@nJ (z.i 1) (z.s 2) (z.i 3) (z.i 4) (z.i 5) (z.i 6) (z.i 7) (z.i 8) (z.s 9) (z.g 10) (z.g 11) (hT z 100) (z.p 12) (z.i 13) (z.i 14);have:=@oY (z.i 1) (z.s 2) (z.i 3) (z.i 4) (z.i 5) (z.i 6) (z.i 7) (z.i 8) (z.s 9) (z.g 10) (z.g 11) (hT z 100) (z.p 12) (z.i 13) (z.i 14);have:=@fc (z.i 1) (z.s 2) (z.i 3) (z.i 4) (z.i 5) (z.i 6) (z.i 7) (z.i 8) (z.s 9) (z.g 10) (z.g 11) (hT z 100) (z.p 12) (z.i 13) (z.i 14);exact dD
def AL:bM 97 0 sW:=bL 6 133 (ai Zl eN) lN λp z hA=>show Fm.den (let v0:=(aP (((((((((((((((((((((((((((((((((((((PS.mk [(999,Tm.i (Int.ofNat (nat_lit 0)))] ((0,(bO 0).fst,0)::jN.loc) jN.ln jN.pr jN.fz).and (cI (p.i 21))).and (cI (p.i 22))).and (cI (p.i 23))).and (cI (p.i (200+nat_lit 0)))).and (cI (p.i (200+nat_lit 1)))).and (cI (p.i (200+nat_lit 2)))).and (cI (p.i (200+nat_lit 3)))).and (cI (p.i (200+nat_lit 4)))).and (cI (p.i (200+nat_lit 5)))).and (cI (p.i (200+nat_lit 6)))).and (cI (p.i (200+nat_lit 7)))).and (cI (p.i (200+nat_lit 8)))).and (cI (p.i (200+nat_lit 9)))).and (cI (p.i (200+nat_lit 10)))).and (cI (p.i (200+nat_lit 11)))).and (cI (p.i (200+nat_lit 12)))).and (cI (p.i (200+nat_lit 13)))).and (cI (p.i (200+nat_lit 14)))).and (cI (p.i (200+nat_lit 15)))).and (cI (p.i (200+nat_lit 16)))).and (cI (p.i (200+nat_lit 17)))).and (cI (p.i (200+nat_lit 18)))).and (cI (p.i (200+nat_lit 19)))).and (cI (p.i (200+nat_lit 20)))).and (cI (p.i (200+nat_lit 21)))).and (cI (p.i (200+nat_lit 22)))).and (cI (p.i (200+nat_lit 23)))).and (cI (p.i (200+nat_lit 24)))).and (cI (p.i (200+nat_lit 25)))).and (cI (p.i (200+nat_lit 26)))).and (cI (p.i (200+nat_lit 27)))).and (cI (p.i (200+nat_lit 28)))).and (cI (p.i (200+nat_lit 29)))).and (cI (p.i (200+nat_lit 30)))).and (cI (p.i (200+nat_lit 31)))).and (p.g 24=p.g 24)).tm);let v1:=(aM (p.g 24) (z.i 9));let v2:=(pY (p.g 24) (jP p 200) (iU (p.i 23) (p.i 22) (p.i 21)));let v3:=(↑(p.g 24).length:Int);(.two (bR (z.i 9) (p.g 24)) (.an (cg (z.i 9) (p.g 24)) (.ct (vo (gS (aa v1 1)) (gI (aa v1 2)) (gI (aa v1 3)) (gI (aa v1 4)) (gI (aa v1 6)) (gS (aa v1 8)) (gL (aa v1 9)) (gL (aa v1 10)) (hX (aa v1 11)) (gI (aa v1 13)) (gI (aa v1 14))) (λy0=>y0.i 50=fH (gI (aa v1 0)) (gS (aa v1 1)) (gI (aa v1 2)) (gI (aa v1 3)) (gI (aa v1 4)) (gI (aa v1 5)) (gI (aa v1 6)) (gI (aa v1 7)) (gS (aa v1 8)) (gL (aa v1 9)) (gL (aa v1 10)) (hX (aa v1 11)) (gI (aa v1 12)=1) (gI (aa v1 13)) (gI (aa v1 14))) λy0=>(.two (y0.i 50≠0) (.an v2 (.at (((1:Int)=0->fJ (p.g 24) 0=0)/\(¬(1:Int)=0->y0.i 50=fJ (p.g 24) 0/\¬y0.i 50=0)))) (.an ((-9223372036854775808)<=z.i 9+1/\z.i 9+1<=9223372036854775807) (.an v2 (.at (Ze (qA (p.g 24)/\(p.g 24).length<=200/\(dE (z.i 9) (p.g 24))/\fJ (p.g 24) 0=fJ (p.g 24) (z.i 9+1)) (v3-(z.i 9+1)) (v3-z.i 9) (p.g 24)))))))) (.an v2 (.at (((0:Int)=0->fJ (p.g 24) 0=0)/\(¬(0:Int)=0->v0.i 50=fJ (p.g 24) 0/\¬v0.i 50=(0:Int))))))) by dsimp only [sW,mF,tV] at hA;have a1:=@nK (p.g 24) (z.i 9);have a2:=@FA (p.g 24) (z.i 9);have:=@xg (p.g 24) (z.i 9);have a6:=AI p z;dsimp only [xf,mD] at a1 a2 a6;exact dD
def oZ:bq 97 AJ:=bC 21 85217605 (ai AK eN) (aG (ptm:=[(0,.ag bk)]) AL lN) λz hA=>show Fm.den (let v1:=(↑(z.g 24).length:Int);let v2:=(hT z 200);let v0:=((1:Int)=bz (z.i 21) (z.i 22) (z.i 23) v2 (z.g 24));(.two (0<=z.i 21) (.two (¬z.i 21<=2147483648) (.ax v0) (.two (0<=z.i 22) (.two (¬z.i 22<=9007199254740992) (.ax v0) (.two (0<=z.i 23) (.two (¬z.i 23<=9007199254740992) (.ax v0) (.two (1<=v1) (.two (¬v1<=200) (.ax v0) (Zg (pY (z.g 24) (jP z 200) (iU (z.i 23) (z.i 22) (z.i 21))) (z.g 24) (fE v1) λy0=>(.two (y0.i 999=0) (Rc (od (z.g 24)) v2 (z.i 21) (z.i 22) (z.i 23) (sU) (z.g 24) λy1=>(.two (262144<(↑(y1.s 10).length:Int)) (.ax ((5:Int)=bz (z.i 21) (z.i 22) (z.i 23) v2 (z.g 24))) (.ax ((0:Int)=bz (z.i 21) (z.i 22) (z.i 23) v2 (z.g 24))))) (.ax (y0.i 50=bz (z.i 21) (z.i 22) (z.i 23) v2 (z.g 24)))))) (.ax v0))) (.ax v0))) (.ax v0))) (.ax v0))) by
 dsimp only [AJ,qC,bk,hs,BJ] at hA;have:=@jz (z.i 21) (z.i 22) (z.i 23) (hT z 200) (z.g 24);have:=@jA (z.i 21) (z.i 22) (z.i 23) (hT z 200) (z.g 24);have:=@gu (z.i 21) (z.i 22) (z.i 23) (hT z 200) (z.g 24);have:=@mr (z.i 21) (z.i 22) (z.i 23) (hT z 200) (z.g 24);have:=@fg (z.i 21) (z.i 22) (z.i 23) (hT z 200) (z.g 24);conv=>zeta
 repeat' with_reducible first|intro _|apply ci|apply cm|apply cj|apply cD|apply cA
 all_goals first|omega|grind [ao,ak,aj,aX,aY,aZ,a_,ba,bc,be,bf,bh,aB,List.append_assoc,xh]
def CZ:bq 102 vy:=bC 3 1 (ai oZ (ai AK eN)) lN λz hA=>show Fm.den (let v0:=(hT z 200);(Rd (z.g 24) v0 (z.i 21) (z.i 22) (z.i 23) λy0=>(.two (y0.i 50≠0) (.ax (y0.i 50=bz (z.i 21) (z.i 22) (z.i 23) v0 (z.g 24)/\(bz (z.i 21) (z.i 22) (z.i 23) v0 (z.g 24)=(0:Int)-> []=mE (z.p 25) (z.i 21) (z.i 22) (z.i 23) v0 (z.g 24))/\(¬bz (z.i 21) (z.i 22) (z.i 23) v0 (z.g 24)=(0:Int)->pV))) (Rc (od (z.g 24)) v0 (z.i 21) (z.i 22) (z.i 23) (z.p 25) (z.g 24) λy1=>(.ax ((0:Int)=bz (z.i 21) (z.i 22) (z.i 23) v0 (z.g 24)/\(bz (z.i 21) (z.i 22) (z.i 23) v0 (z.g 24)=(0:Int)->y1.s 10=mE (z.p 25) (z.i 21) (z.i 22) (z.i 23) v0 (z.g 24))/\(¬bz (z.i 21) (z.i 22) (z.i 23) v0 (z.g 24)=(0:Int)->y1.s 10= []))))))) by
 dsimp only [vy,nN,bk,hs,BJ,sQ] at hA;have:=@jz (z.i 21) (z.i 22) (z.i 23) (hT z 200) (z.g 24);have:=@jA (z.i 21) (z.i 22) (z.i 23) (hT z 200) (z.g 24);have:=@gu (z.i 21) (z.i 22) (z.i 23) (hT z 200) (z.g 24);have:=@mr (z.i 21) (z.i 22) (z.i 23) (hT z 200) (z.g 24);have:=@fg (z.i 21) (z.i 22) (z.i 23) (hT z 200) (z.g 24);conv=>zeta
 repeat' with_reducible first|intro _|apply ci|apply cm|apply cj|apply cD|apply cA
 all_goals first|omega|grind [ao,ak,aj,aX,aY,aZ,a_,ba,bc,be,bf,bh,aB,xh]
def AM:bq 55 FI:=bC 1 0 (ai FK (ai Af eN)) lN λz hA=>show Fm.den ((Rb (hT z 200) (z.i 21) (z.i 22) (z.i 23) λy0=>(.an (sq (y0.s 20)) (Md (y0.s 20) λy1=>(.ax (hG (lP (y0.s 20))=dK (k_ (z.i 21) (z.i 22) (z.i 23) (hT z 200)))))))) by
 dsimp only [FI,xk,bk,hs] at hA;have:=@gV (z.i 21) (z.i 22) (z.i 23) (hT z 200);have:=sy (k_ (z.i 21) (z.i 22) (z.i 23) (hT z 200));have:=IL z;have t1:(((z.g 24).length:Nat):Int).toNat=(z.g 24).length:=Int.toNat_natCast _;have:=@bP (z.i 21);have:=@bP (z.i 22);have:=@bP (z.i 23);have:=cr z 200;have:=@aI z 200;have:=bu z 200;repeat' with_reducible first|intro _|apply ci|apply cm|apply cj|apply cD|apply cA
 all_goals first|omega|grind [ao,ak,aj,aX,aY,aZ,a_,ba,bc,be,bf,bh,aB,fa]
abbrev lq(a:List G):=a.length=a.length/\a.length<=1000000000/\True
abbrev MZ(a b:List G)(c)(d:Prop):=a.length=a.length/\b=b/\fS c c d
def C0:bM 54 0 vz:=bL 4 9 (ai FL (ai E5 eN)) lN λp z hA=>show Fm.den (let v0:=(aM (p.g 24) (z.i 9));let v1:=(iU (p.i 23) (p.i 22) (p.i 21));let v2:=(jP p 200);let v3:=(↑(p.g 24).length:Int);(.two (bR (z.i 9) (p.g 24)) (.an (cg (z.i 9) (p.g 24)) (.ct (vo (gS (aa v0 1)) (gI (aa v0 2)) (gI (aa v0 3)) (gI (aa v0 4)) (gI (aa v0 6)) (gS (aa v0 8)) (gL (aa v0 9)) (gL (aa v0 10)) (hX (aa v0 11)) (gI (aa v0 13)) (gI (aa v0 14))/\(0:Int)<=gI (aa v0 2)/\(0:Int)<=gI (aa v0 3)/\(0:Int)<=gI (aa v0 4)/\(0:Int)<=gI (aa v0 13)/\(0:Int)<=gI (aa v0 14)) (λy0=>y0.s 10=lp (gI (aa v0 0)) (gS (aa v0 1)) (gI (aa v0 2)) (gI (aa v0 3)) (gI (aa v0 4)) (hX (aa v0 11)) (gI (aa v0 13)) (gI (aa v0 14))) λy0=>(Q_ (y0.s 10) λy1=>(let v4:=(z.g 30++ [G.node [hT y1 300]]);(.an (lq (z.g 30)) (.an ((-9223372036854775808)<=z.i 9+1/\z.i 9+1<=9223372036854775807) (.an (v4.length=(z.g 30).length+1/\p.g 24=p.g 24/\fS v2 v2 v1) (.at (((od (p.g 24))/\(dE (z.i 9) (p.g 24))/\(↑v4.length:Int)=z.i 9+1)/\(v3-(z.i 9+1)).toNat<(v3-z.i 9).toNat/\∀(y:Sy),y.g 30=z.g 30++ [G.node [hT y1 300]]++iv (p.g 24) (z.i 9+1)->y.g 30=z.g 30++iv (p.g 24) (z.i 9)))))))))) (.an (MZ (z.g 30) (p.g 24) v2 v1) (.at (z.g 30=z.g 30++iv (p.g 24) (z.i 9)))))) by dsimp only [vz,mF,tV,jJ] at hA;have a1:=@MY (p.g 24) (z.i 9);have:=@Rf (p.g 24) (z.i 9);have a6:=AI p z;have a7:=IN p z;dsimp only [tU,xf,mD] at a1 a6 a7;have:=MP p z;have:=MQ p z;have q1:=Rg p z;dsimp only [mD] at q1;have:=Zj p z;exact dD
abbrev ig(a:List G):=a.length=a.length/\True
abbrev FO(a:List G)(b)(c:Prop):=0=0/\a=a/\fS b b c
def AN:bq 54 FJ:=bC 1 0 eN (aG (ptm:=[(0,.ag bk)]) C0 lN) λz hA=>show Fm.den ((.cl ((FO (z.g 24) (jP z 200) (iU (z.i 23) (z.i 22) (z.i 21)))) ((od (z.g 24))/\(fE (↑(z.g 24).length:Int))/\(↑0:Int)=0) (λy0=>y0.g 30= []++iv (z.g 24) 0) λy0=>(.an (ig (y0.g 30)) (.at (y0.g 30=iv (z.g 24) 0))))) by dsimp only [FJ,bk,hs,jJ] at hA;exact dD
noncomputable section
def aL(n:Nat):Nat:=2 ^ (n-1).log2
def dH(n:Nat):0<aL n:=aa3 _
def dv{n:Nat}(h:2<=n):aL n<n:=by have:=Nat.log2_self_le (n:=n-1) (by omega);unfold aL;omega
def xl{n:Nat}(h:2<=n):n<=2 * aL n:=by have:n-1<2 ^ ((n-1).log2+1):=Nat.lt_log2_self;rw[aa_] at this;unfold aL;omega
def C1{n j:Nat}(h1:2 ^ j<n)(h2:n<=2 * 2 ^ j):aL n=2 ^ j:=by
 unfold aL;congr 1;have h0:n-1≠0:=by have:=aa3 j;omega
 have a1:j<=(n-1).log2:=(Nat.le_log2 h0).2 (by omega);have a2:(n-1).log2<j+1:=(Nat.log2_lt h0).2 (by rw[aa_];omega);omega
def aF(l:List G):G:=
 if h:2<=l.length then aO (aF (l.take (aL l.length))) (aF (l.drop (aL l.length)))
 else match l with | []=>dK []|r::_=>hX (aa r 0)
termination_by l.length
decreasing_by
 ·rw[aax];have:=dv h;omega
 ·rw[aaA];have:=dH l.length;omega
def dp{l:List G}(h:2<=l.length):aF l=aO (aF (l.take (aL l.length))) (aF (l.drop (aL l.length))):=by rw[aF,dif_pos h]
def ld{l:List G}(h:l.length=1):aF l=hX (aa (aq l 0) 0):=by
 match l,h with
 | [r],_=>rw[aF];rfl
def o_{l:List G}(h:l.length=0):aF l=dK []:=by
 match l,h with
 | [],_=>rw[aF];rfl
def RowsOk(l:List G):Prop:=∀r∈l,HOk (hX (aa r 0))
def RowsOk.take{l:List G}(h:RowsOk l)(n:Nat):RowsOk (l.take n):=λr hr=>h r (List.mem_of_mem_take hr)
def RowsOk.drop{l:List G}(h:RowsOk l)(n:Nat):RowsOk (l.drop n):=λr hr=>h r (List.mem_of_mem_drop hr)
def RowsOk.at{l:List G}(h:RowsOk l){i:Int}(h0:0<=i)(hi:i<l.length):HOk (hX (aa (aq l i.toNat) 0)):=h _ (dn h0 hi)
def bx(l:List G)(h:RowsOk l):HOk (aF l):=by
 rcases aat l.length 2 with h2|h2
 ·match l,h2,h with
  | [],_,_=>rw[o_ rfl];exact gR _
  | [r],_,h=>rw[ld rfl];exact h r (List.mem_singleton.2 rfl)
  |_::_::_,h2,_=>simp at h2;omega
 ·rw[dp h2];exact cy _ _
def drop_zero(l:List G):l.drop (0:Int).toNat=l:=rfl
def IR{l:List G}{k:Int}(h:2<=l.length)(hk:k=(aL l.length:Nat)):aF l=aO (aF (List.drop (0:Int).toNat (List.take k.toNat l))) (aF (List.drop k.toNat (List.take (l.length:Int).toNat l))):=by subst hk;rw[dp h,drop_zero,aaE,aaE,abg]
def bm(i:Int)(l:List G):List G:=
 if h:2<=l.length then
  if i<(aL l.length:Nat) then bm i (l.take (aL l.length))++ [.node [aF (l.drop (aL l.length))]]
  else bm (i-(aL l.length:Nat)) (l.drop (aL l.length))++ [.node [aF (l.take (aL l.length))]]
 else []
termination_by l.length
decreasing_by
 ·rw[aax];have:=dv h;omega
 ·rw[aaA];have:=dH l.length;omega
def nQ{i:Int}{l:List G}(h:2<=l.length)(hi:i<(aL l.length:Nat)):bm i l=bm i (l.take (aL l.length))++ [.node [aF (l.drop (aL l.length))]]:=by rw[bm,dif_pos h,if_pos hi]
def nR{i:Int}{l:List G}(h:2<=l.length)(hi:¬i<(aL l.length:Nat)):bm i l=bm (i-(aL l.length:Nat)) (l.drop (aL l.length))++ [.node [aF (l.take (aL l.length))]]:=by rw[bm,dif_pos h,if_neg hi]
def f_{i:Int}{l:List G}(h:¬2<=l.length):bm i l= []:=by rw[bm,dif_neg h]
def ms(h:G)(i n:Int)(p:List G):G×Prop:=
 if hn:2<=n then
  if p.length=0 then(hZ,False)
  else if i<(aL n.toNat:Nat) then(aO (ms h i (aL n.toNat:Nat) p.dropLast).1 (hX (aa (aq p (p.length-1)) 0)),(ms h i (aL n.toNat:Nat) p.dropLast).2)
  else(aO (hX (aa (aq p (p.length-1)) 0)) (ms h (i-(aL n.toNat:Nat)) (n-(aL n.toNat:Nat)) p.dropLast).1,(ms h (i-(aL n.toNat:Nat)) (n-(aL n.toNat:Nat)) p.dropLast).2)
 else(h,p.length=0)
termination_by n.toNat
decreasing_by all_goals (have:=dv (n:=n.toNat) (by omega);have:=dH n.toNat;omega)
def nS{h:G}{i n:Int}{p:List G}(hn:¬2<=n):ms h i n p=(h,p.length=0):=by rw[ms,dif_neg hn]
def FP{h:G}{i n:Int}{p:List G}(hn:2<=n)(hp:p.length=0):ms h i n p=(hZ,False):=by rw[ms,dif_pos hn,if_pos hp]
def C2{h:G}{i n:Int}{p:List G}(hn:2<=n)(hp:¬p.length=0)(hi:i<(aL n.toNat:Nat)):ms h i n p=(aO (ms h i (aL n.toNat:Nat) p.dropLast).1 (hX (aa (aq p (p.length-1)) 0)),(ms h i (aL n.toNat:Nat) p.dropLast).2):=by rw[ms,dif_pos hn,if_neg hp,if_pos hi]
def C3{h:G}{i n:Int}{p:List G}(hn:2<=n)(hp:¬p.length=0)(hi:¬i<(aL n.toNat:Nat)):ms h i n p=(aO (hX (aa (aq p (p.length-1)) 0)) (ms h (i-(aL n.toNat:Nat)) (n-(aL n.toNat:Nat)) p.dropLast).1,(ms h (i-(aL n.toNat:Nat)) (n-(aL n.toNat:Nat)) p.dropLast).2):=by rw[ms,dif_pos hn,if_neg hp,if_neg hi]
def jS(n:Int)(rows L:List G):Prop:=(L.length:Int)=n/\∀j p:Nat,(p+1) * 2 ^ j<=L.length->jM 0 rows [(j:Int),(p:Int)]/\hX (aa (eM 0 rows [(j:Int),(p:Int)]) 2)=aF ((L.drop (p * 2 ^ j)).take (2 ^ j))
def Zm(lv:Int)(rows L:List G):Prop:=∀j p:Nat,(p+1) * 2 ^ j<=L.length->((p+1) * 2 ^ j<L.length∨(j:Int)<=lv)->jM 0 rows [(j:Int),(p:Int)]/\hX (aa (eM 0 rows [(j:Int),(p:Int)]) 2)=aF ((L.drop (p * 2 ^ j)).take (2 ^ j))
def AO{m:Nat}{l:List G}{k:List Int}{v:List G}(hk:k.length=(bI m).ks.length):jM m (cU m l k v) k/\eM m (cU m l k v) k= .node (k.map G.int++v):=by
 have af9:dz (bI m).ks.length (.node (k.map G.int++v)) 0=k:=oF hk;unfold jM eM;by_cases h:cF m l k<l.length
 ·have e:cU m l k v=l.set (cF m l k) (.node (k.map G.int++v)):=by unfold cU;rw[if_pos h]
  have hi:cF m (l.set (cF m l k) (.node (k.map G.int++v))) k=cF m l k:=by
   unfold cF at h⊢;refine(List.findIdx_eq (by rw[aba];exact h)).2 ⟨?_,λj hj=>?_⟩
   ·rw[List.getElem_set_self];simpa using af9
   ·rw[List.getElem_set_ne (by omega)];exact ab8 hj
  rw[e,hi];refine⟨by rw[aba];exact h, ?_⟩;unfold aq;rw[aas,ab1 h];rfl
 ·have e:cU m l k v=l++ [.node (k.map G.int++v)]:=by unfold cU;rw[if_neg h]
  have ac9:∀x∈l,¬dz (bI m).ks.length x 0=k:=λx hx hc=>h (List.findIdx_lt_length_of_exists ⟨x,hx,by simpa using hc⟩);have hi:cF m (l++ [.node (k.map G.int++v)]) k=l.length:=by
   unfold cF;refine(List.findIdx_eq (by simp)).2 ⟨?_,λj hj=>?_⟩
   ·rw[List.getElem_append_right (by omega)];simpa using af9
   ·rw[ab9 (by omega)];simpa using ac9 _ (abr _)
  rw[e,hi];refine⟨by simp, ?_⟩;unfold aq;rw[aas,aaJ (by omega)];simp
def sX{m:Nat}{l:List G}{k k':List Int}{v:List G}(hk:k.length=(bI m).ks.length)(i5:k'≠k)(h':jM m l k'):jM m (cU m l k v) k'/\eM m (cU m l k v) k'=eM m l k':=by
 have af9:dz (bI m).ks.length (.node (k.map G.int++v)) 0=k:=oF hk;have h'':cF m l k'<l.length:=h';have j0:dz (bI m).ks.length (l[cF m l k']) 0=k':=by have:=List.findIdx_getElem (w:=(show List.findIdx _ l<l.length from h''));exact of_decide_eq_true this
 unfold jM eM;by_cases h:cF m l k<l.length
 ·have e:cU m l k v=l.set (cF m l k) (.node (k.map G.int++v)):=by unfold cU;rw[if_pos h]
  have ae2:dz (bI m).ks.length (l[cF m l k]) 0=k:=by have:=List.findIdx_getElem (w:=(show List.findIdx _ l<l.length from h));exact of_decide_eq_true this
  have hnn:cF m l k≠cF m l k':=λe=>i5 (by rw[←j0, ←ae2];simp only [e]);have hi:cF m (l.set (cF m l k) (.node (k.map G.int++v))) k'=cF m l k':=by
   refine(List.findIdx_eq (by rw[aba];exact h'')).2 ⟨?_,λj hj=>?_⟩
   ·rw[List.getElem_set_ne hnn];simpa using j0
   ·by_cases ej:cF m l k=j
    ·subst ej;rw[List.getElem_set_self];simp only [af9,decide_eq_false_iff_not];exact λe=>i5 e.symm
    ·rw[List.getElem_set_ne ej];exact ab8 hj
  rw[e,hi];refine⟨by rw[aba];exact h'', ?_⟩;unfold aq;rw[aas,List.getElem?_set_ne hnn, ←aas]
 ·have e:cU m l k v=l++ [.node (k.map G.int++v)]:=by unfold cU;rw[if_neg h]
  have hi:cF m (l++ [.node (k.map G.int++v)]) k'=cF m l k':=by
   refine(List.findIdx_eq (by simp;omega)).2 ⟨?_,λj hj=>?_⟩
   ·rw[ab9 h''];simpa using j0
   ·rw[ab9 (by omega)];exact ab8 hj
  rw[e,hi];refine⟨by simp;omega, ?_⟩;unfold aq;rw[aas,aaO h'', ←aas]
def vA(h:G):aF [.node [h]]=hX h:=ld rfl
def M0{n:Int}{rows L:List G}{h:G}(ht:jS n rows L)(hh:hX h=h):Zm 0 (cU 0 rows [0,n] [h]) (L++ [.node [h]]):=by
 obtain⟨e,ht⟩:=ht;intro j p h1 h2;rw[aav,aaQ] at h1 h2;by_cases c8:(p+1) * 2 ^ j<=L.length
 ·obtain⟨a1,a2⟩:=ht j p c8;have i5: [(j:Int),(p:Int)]≠ [0,n]:=λee=>by
   injection ee with e1 ee;injection ee with e2 _;have:j=0:=by omega
   subst this;simp at c8;omega
  obtain⟨b1,b2⟩:=sX (m:=0) (v:=[h]) rfl i5 a1;refine⟨b1, ?_⟩;rw[b2,a2];have hb:p * 2 ^ j+2 ^ j<=L.length:=by rw[aaN,Nat.one_mul] at c8;exact c8
  generalize 2 ^ j=q at hb;rw[abP (by omega),abG (by rw[aaA];omega)]
 ·have hj:j=0:=by
   rcases h2 with h2|h2
   ·omega
   ·omega
  subst hj;have hp:p=L.length:=by simp at c8 h1;omega
  subst hp;obtain⟨b1,b2⟩:=AO (m:=0) (l:=rows) (k:=[0,n]) (v:=[h]) rfl;rw[e];refine⟨b1, ?_⟩;rw[show((0:Nat):Int)=0 by rfl,b2];simp only [Nat.pow_zero,aaU,List.drop_left];rw[show List.take 1 [G.node [h]]= [.node [h]] by rfl,vA];rfl
def AP(L:List G)(lv pl:Int):G:=aF ((L.drop (pl.toNat * 2 ^ lv.toNat)).take (2 ^ lv.toNat))
def xm(L:List G)(lv pl:Int)(rows:List G)(h:G):Prop:=Zm lv rows L/\0<=lv/\0<=pl/\(pl.toNat+1) * 2 ^ lv.toNat=L.length/\h=AP L lv pl
def AQ{n:Int}{rows L:List G}{h:G}(ht:jS n rows L)(hh:hX h=h):xm (L++ [.node [h]]) 0 n (cU 0 rows [0,n] [h]) h:=by
 refine⟨M0 ht hh,by decide,by have:=ht.1;omega, ?_, ?_⟩
 ·rw[aav,aaQ];have:=ht.1;simp;omega
 ·unfold AP;have e:n.toNat=L.length:=by have:=ht.1;omega
  rw[e];simp only [show(0:Int).toNat=0 by rfl,Nat.pow_zero,aaU,List.drop_left];rw[show List.take 1 [G.node [h]]= [.node [h]] by rfl,vA,hh]
def C4{L:List G}{lv pl:Int}{rows:List G}{h:G}(hl:xm L lv pl rows h)(ho:pl%2=1):jM 0 rows [lv,pl-1]/\hX (aa (eM 0 rows [lv,pl-1]) 2)=aF ((L.drop ((pl.toNat-1) * 2 ^ lv.toNat)).take (2 ^ lv.toNat)):=by obtain⟨h1,h2,h3,h4,h5⟩:=hl;have hp:=aa3 lv.toNat;have:=h1 lv.toNat (pl.toNat-1) (by rw[←h4];exact aaM _ (by omega)) (.inl (by rw[←h4];exact Nat.mul_lt_mul_of_pos_right (by omega) hp));rw[show((lv.toNat:Nat):Int)=lv by omega,show((pl.toNat-1:Nat):Int)=pl-1 by omega] at this;exact this
def FQ{L:List G}{lv pl:Int}{rows:List G}{h h':G}(hl:xm L lv pl rows h)(ho:pl%2=1)(hh:h'=aO (hX (aa (eM 0 rows [lv,pl-1]) 2)) h):xm L (lv+1) (pl/2) (cU 0 rows [lv+1,pl/2] [h']) h':=by
 obtain⟨_,a2⟩:=C4 hl ho;obtain⟨h1,h2,h3,h4,h5⟩:=hl;have hp:=aa3 lv.toNat;have e1:(lv+1).toNat=lv.toNat+1:=by omega
 have e2:pl.toNat=2 * (pl/2).toNat+1:=by omega
 have e3:((pl/2).toNat+1) * 2 ^ (lv+1).toNat=L.length:=by rw[e1,aa_, ←h4,e2];rw[Nat.mul_comm (2 ^ lv.toNat) 2, ←Nat.mul_assoc];congr 1;omega
 have e4:h'=AP L (lv+1) (pl/2):=by
  rw[hh,a2,h5];unfold AP;have hlen:((L.drop ((pl/2).toNat * 2 ^ (lv+1).toNat)).take (2 ^ (lv+1).toNat)).length=2 ^ (lv.toNat+1):=by rw[aax,aaA, ←e3,e1,aaN];omega
  have hb:(pl.toNat-1) * 2 ^ lv.toNat=(pl/2).toNat * 2 ^ (lv+1).toNat:=by rw[e1,aa_,e2,Nat.mul_comm (2 ^ lv.toNat) 2, ←Nat.mul_assoc];congr 1;omega
  have hb2:pl.toNat * 2 ^ lv.toNat=(pl/2).toNat * 2 ^ (lv+1).toNat+2 ^ lv.toNat:=by
   rw[←hb];generalize 2 ^ lv.toNat=q;obtain⟨x,hx⟩:∃x,pl.toNat=x+1:=⟨pl.toNat-1,by omega⟩
   rw[hx,abV,aaN,Nat.one_mul]
  have h2p:2<=2 ^ (lv.toNat+1):=by rw[aa_];omega
  have ar3:aL (2 ^ (lv.toNat+1))=2 ^ lv.toNat:=C1 (by rw[aa_];omega) (by rw[aa_];omega);rw[dp (l:=(L.drop ((pl/2).toNat * 2 ^ (lv+1).toNat)).take (2 ^ (lv+1).toNat)) (by rw[hlen];exact h2p),hlen,ar3,abv,abl (by rw[e1,aa_];omega),abC,abe,hb,hb2];congr 3;rw[e1,aa_];omega
 refine⟨λj p q1 q2=>?_,by omega,by omega,e3,e4⟩;by_cases ek: [(j:Int),(p:Int)]= [lv+1,pl/2]
 ·obtain⟨b1,b2⟩:=AO (m:=0) (l:=rows) (k:=[lv+1,pl/2]) (v:=[h']) rfl;rw[ek];refine⟨b1, ?_⟩;rw[b2];injection ek with k1 ek;injection ek with k2 _;have hr:hX h'=h':=by rw[hh];exact db (cy _ _)
  show hX h'=_;rw[hr,e4];unfold AP;rw[show(lv+1).toNat=j by omega,show(pl/2).toNat=p by omega]
 ·have:=h1 j p q1 (by
   rcases q2 with q2|q2
   ·exact .inl q2
   ·by_cases hj:(j:Int)<=lv
    ·exact .inr hj
    ·refine .inl (Nat.lt_of_le_of_ne q1 λe=>ek ?_);have ej:j=lv.toNat+1:=by omega
     subst ej;have:p+1=(pl/2).toNat+1:=Nat.eq_of_mul_eq_mul_right (aa3 (lv.toNat+1)) (by rw[e, ←e3,e1]);have ep:p=(pl/2).toNat:=by omega
     rw[ep,show((lv.toNat+1:Nat):Int)=lv+1 by omega,show(((pl/2).toNat:Nat):Int)=pl/2 by omega])
  obtain⟨b1,b2⟩:=sX (m:=0) (v:=[h']) rfl ek this.1;exact⟨b1,by rw[b2];exact this.2⟩
def Wd{L:List G}{lv pl:Int}{rows:List G}{h:G}(hl:xm L lv pl rows h)(ho:¬pl%2=1):jS L.length rows L:=by
 obtain⟨h1,h2,h3,h4,h5⟩:=hl;refine⟨rfl,λj p q1=>h1 j p q1 ?_⟩;rcases aat ((p+1) * 2 ^ j) L.length with q|q
 ·exact .inl q
 ·refine .inr ?_;have e:(p+1) * 2 ^ j=(pl.toNat+1) * 2 ^ lv.toNat:=by omega
  rcases aat lv.toNat j with hj|hj
  ·exfalso;obtain⟨d,rfl⟩:∃d,j=lv.toNat+1+d:=⟨j-lv.toNat-1,by omega⟩
   rw[Nat.pow_add,aa_] at e;have:(pl.toNat+1)=(p+1) * 2 ^ d * 2:=Nat.eq_of_mul_eq_mul_right (aa3 lv.toNat) (by rw[←e];rw[Nat.mul_comm (2 ^ lv.toNat * 2) (2 ^ d), ←Nat.mul_assoc, ←Nat.mul_assoc,Nat.mul_right_comm]);omega
  ·omega
def Jy(fr n:Int):Prop:=∃j:Nat,n.toNat<=2 ^ j/\fr%(2 ^ j:Nat)=0
def We{N fr n:Int}{rows L:List G}{i:Nat}(ht:jS N rows L)(h0:0<=fr)(hn:n=(2 ^ i:Nat))(hb:fr+n<=N)(ha:Jy fr n):jM 0 rows [(i:Int),fr/(2 ^ i:Nat)]/\hX (aa (eM 0 rows [(i:Int),fr/(2 ^ i:Nat)]) 2)=aF ((L.drop fr.toNat).take n.toNat):=by
 obtain⟨j,a1,a2⟩:=ha;have hp:=aa3 i;have hij:i<=j:=(Nat.pow_le_pow_iff_right (by decide:1<2)).1 (by omega);have hd:fr%(2 ^ i:Nat)=0:=by
  obtain⟨d,rfl⟩:∃d,j=i+d:=⟨j-i,by omega⟩
  rw[Nat.pow_add] at a2;have:=abU a2;exact Int.emod_eq_zero_of_dvd (Int.dvd_trans ⟨((2 ^ d:Nat):Int),by push_cast;rfl⟩ this)
 obtain⟨q,hq⟩:=abU hd;have hq0:0<=q:=by
  rcases Int.lt_or_le q 0 with h|h
  ·have:((2 ^ i:Nat):Int) * q<0:=Int.mul_neg_of_pos_of_neg (by omega) h;omega
  ·exact h
 have e1:fr/(2 ^ i:Nat)=q:=by rw[hq];exact Int.mul_ediv_cancel_left _ (by omega)
 have e2:fr.toNat=q.toNat * 2 ^ i:=by
  have:fr=((q.toNat * 2 ^ i:Nat):Int):=by rw[hq];push_cast;rw[Int.mul_comm];congr 1;omega
  omega
 have:=ht.2 i q.toNat (by rw[aaN,Nat.one_mul, ←e2];have:=ht.1;omega);rw[e1,show q=((q.toNat:Nat):Int) by omega,e2,show n.toNat=2 ^ i by omega];exact this
def Zn{fr n k:Int}(hn:2<=n)(hk:k=(aL n.toNat:Nat))(h:Jy fr n):Jy fr k:=by obtain⟨j,a1,a2⟩:=h;exact⟨j,by have:=dv (n:=n.toNat) (by omega);omega,a2⟩
def Zo{fr n k:Int}(hn:2<=n)(h0:0<=fr)(hk:k=(aL n.toNat:Nat))(h:Jy fr n):Jy (fr+k) (n-k):=by
 obtain⟨j,a1,a2⟩:=h;have hg:=xl (n:=n.toNat) (by omega);have hl:=dv (n:=n.toNat) (by omega);refine⟨(n.toNat-1).log2,by show(n-k).toNat<=aL n.toNat;omega, ?_⟩;have hij:(n.toNat-1).log2<=j:=by
  rcases aat j (n.toNat-1).log2 with h|h
  ·have:2 ^ j<2 ^ (n.toNat-1).log2:=Nat.pow_lt_pow_right (by decide) h;have:aL n.toNat=2 ^ (n.toNat-1).log2:=rfl;omega
  ·exact h
 obtain⟨d,hd⟩:∃d,j=(n.toNat-1).log2+d:=⟨j-(n.toNat-1).log2,by omega⟩
 rw[hd,Nat.pow_add] at a2;have h1:=abU a2;have h2:((2 ^ (n.toNat-1).log2:Nat):Int) ∣ fr:=Int.dvd_trans ⟨((2 ^ d:Nat):Int),by push_cast;rfl⟩ h1;exact Int.emod_eq_zero_of_dvd (Int.dvd_add h2 ⟨1,by rw[hk];show((aL n.toNat:Nat):Int)=_;rw[Int.mul_one];rfl⟩)
def C5{L:List G}{fr n k:Int}(h0:0<=fr)(hn:2<=n)(hb:fr+n<=L.length)(hk:k=(aL n.toNat:Nat)):aF ((L.drop fr.toNat).take n.toNat)=aO (aF ((L.drop fr.toNat).take k.toNat)) (aF ((L.drop (fr+k).toNat).take (n-k).toNat)):=by
 have hl:=dv (n:=n.toNat) (by omega);have hlen:((L.drop fr.toNat).take n.toNat).length=n.toNat:=by rw[aax,aaA];omega
 rw[dp (l:=(L.drop fr.toNat).take n.toNat) (by rw[hlen];omega),hlen,abv,abl (by omega),abC,abe];congr 3
 ·omega
 ·congr 1;omega
 ·congr 1;omega
def Zp{L:List G}{lv pl:Int}{rows:List G}{h:G}(hl:xm L lv pl rows h)(hL:L.length<=2000000):(0<=lv/\lv<=30)/\0<=pl/\pl<=2000000:=by
 obtain⟨h1,h2,h3,h4,h5⟩:=hl;have hp:=aa3 lv.toNat;have a:2 ^ lv.toNat<=2000000:=by have:1 * 2 ^ lv.toNat<=(pl.toNat+1) * 2 ^ lv.toNat:=aaM _ (by omega);omega
 have b:lv.toNat<31:=by
  rcases aat lv.toNat 31 with h|h
  ·exact h
  ·have:=abK (n:=2) (by decide) h;omega
 have c:(pl.toNat+1) * 1<=(pl.toNat+1) * 2 ^ lv.toNat:=Nat.mul_le_mul_left _ hp;omega
def C6{n:Int}{rows L:List G}(h:jS n rows L):(L.length:Int)=n:=by exact h.1
def Wf:jS 0 [] []:=by exact⟨rfl,λj p h=>by have:=aa3 j;have:1 * 2 ^ j<=(p+1) * 2 ^ j:=aaM _ (by omega);simp at h;omega⟩
def al0(n:Int):Jy 0 n:=by exact⟨n.toNat,Nat.le_of_lt Nat.lt_two_pow_self,by simp⟩
def Rj(n:Nat):aL n=2 ^ (n-1).log2:=rfl
attribute [irreducible] jS xm Jy aL
end
noncomputable section
def dw(x:Int):Int:=if x<=0 then 0 else((x.toNat.log2+1:Nat):Int)
def M1:List Nat:=[0,1,2,2,3,3,3,3,4,4,4,4,4,4,4,4,5,5,5,5,5,5,5,5,5,5,5,5,5,5,5,5,6,6,6,6,6,6,6,6,6,6,6,6,6,6,6,6,6,6,6,6,6,6,6,6,6,6,6,6,6,6,6,6,7,7,7,7,7,7,7,7,7,7,7,7,7,7,7,7,7,7,7,7,7,7,7,7,7,7,7,7,7,7,7,7,7,7,7,7,7,7,7,7,7,7,7,7,7,7,7,7,7,7,7,7,7,7,7,7,7,7,7,7,7,7,7,7,8,8,8,8,8,8,8,8,8,8,8,8,8,8,8,8,8,8,8,8,8,8,8,8,8,8,8,8,8,8,8,8,8,8,8,8,8,8,8,8,8,8,8,8,8,8,8,8,8,8,8,8,8,8,8,8,8,8,8,8,8,8,8,8,8,8,8,8,8,8,8,8,8,8,8,8,8,8,8,8,8,8,8,8,8,8,8,8,8,8,8,8,8,8,8,8,8,8,8,8,8,8,8,8,8,8,8,8,8,8,8,8,8,8,8,8,8,8,8,8,8,8,8,8,8,8,8,8]
def fK:List Nat:=[0,1,56,2,57,49,28,3,61,58,42,50,38,29,17,4,62,47,59,36,45,43,51,22,53,39,33,30,24,18,12,5,63,55,48,27,60,41,37,16,46,35,44,21,52,32,23,11,54,26,40,15,34,20,31,10,25,14,19,9,13,8,7,6]
def Rk:∀i:Nat,i<256->((jW M1 i:Nat):Int)=dw i:=by
 have h:∀i:Fin 256,jW M1 i.1=if i.1=0 then 0 else i.1.log2+1:=by decide+kernel
 intro i hi;rw[h ⟨i,hi⟩];unfold dw;by_cases e:i=0
 ·subst e;rfl
 ·rw[if_neg e,if_neg (by omega),aaE]
def Rl(x:Int):Int:=IntKind.u64.wrap (Int.ofNat ((aE (am .u64) x).land (aE (am .u64) ((0-x)%18446744073709551616)))) * 285870213051353865%18446744073709551616/288230376151711744
def Wg:∀j:Fin 41,(0<=Rl ((2 ^ j.1:Nat):Int)/\Rl ((2 ^ j.1:Nat):Int)<64)/\fK.getD (Rl ((2 ^ j.1:Nat):Int)).toNat 0=j.1:=by decide+kernel
def Zq{x:Int}{j:Nat}(hj:j<=40)(e:x=((2 ^ j:Nat):Int)):0<x/\(0<=Rl x/\Rl x<64)/\(((fK.getD (Rl x).toNat 0:Nat):Int)=(j:Int))/\x=((2 ^ (((fK.getD (Rl x).toNat 0:Nat):Int)).toNat:Nat):Int):=by subst e;obtain⟨h1,h2⟩:=Wg ⟨j,by omega⟩;refine⟨by have:=aa3 j;omega,h1,by rw[h2], ?_⟩;have h2:fK.getD (Rl ((2 ^ j:Nat):Int)).toNat 0=j:=h2;rw[h2,aaE]
def C7{x:Nat}{k:Nat}(h:2 ^ k<=x):x.log2=k+(x/2 ^ k).log2:=by
 have hp:=aa3 k;have hd:x/2 ^ k≠0:=by have:=Nat.div_pos h hp;omega
 have hx:x≠0:=by omega
 have a:=Nat.log2_self_le hd;have b:x/2 ^ k<2 ^ ((x/2 ^ k).log2+1):=Nat.lt_log2_self;have h1:2 ^ (k+(x/2 ^ k).log2)<=x:=by rw[Nat.pow_add,Nat.mul_comm];exact aaV (aaM _ a) (Nat.div_mul_le_self _ _)
 have h2:x<2 ^ (k+(x/2 ^ k).log2+1):=by rw[abH,Nat.pow_add,Nat.mul_comm];exact(Nat.div_lt_iff_lt_mul hp).1 b
 have c1:=(Nat.le_log2 hx).2 h1;have c2:=(Nat.log2_lt hx).2 h2;omega
def mt{x:Int}(k:Nat)(h:((2 ^ k:Nat):Int)<=x):dw x=k+dw (x/((2 ^ k:Nat):Int)):=by
 obtain⟨n,rfl⟩:∃n:Nat,x=n:=⟨x.toNat,by have:=aa3 k;omega⟩
 have hn:2 ^ k<=n:=by omega
 have hp:=aa3 k;have hd:0<n/2 ^ k:=Nat.div_pos hn hp;have e:((n:Int)/((2 ^ k:Nat):Int))=((n/2 ^ k:Nat):Int):=by simp
 rw[e];unfold dw;rw[if_neg (by omega),if_neg (by omega),aaE,aaE,C7 hn];omega
def Rm{x:Int}(h:4294967296<=x):dw x=32+dw (x/4294967296):=mt 32 h
def FT{x:Int}(h:65536<=x):dw x=16+dw (x/65536):=mt 16 h
def xn{x:Int}(h:256<=x):dw x=8+dw (x/256):=mt 8 h
def fw{x:Int}(h0:0<=x)(h:x<256):((jW M1 (x%256).toNat:Nat):Int)=dw x:=by rw[Rk _ (by omega)];congr 1;omega
def vB{n:Int}(h:2<=n)(h1:n<=1099511627776):(0<=dw (n-1)-1/\dw (n-1)-1<=40)/\((2 ^ min (dw (n-1)-1).toNat (bj .i64):Nat):Int)=(aL n.toNat:Nat):=by
 have e:dw (n-1)-1=(((n.toNat-1).log2:Nat):Int):=by unfold dw;rw[if_neg (by omega),show(n-1).toNat=n.toNat-1 by omega];omega
 have hl:(n.toNat-1).log2<41:=(Nat.log2_lt (by omega)).2 (by omega);rw[e];refine⟨by omega, ?_⟩;rw[aaE,Rj];show((2 ^ min ((n.toNat-1).log2) 64:Nat):Int)=_;rw[abl (by omega)]
def ij{n:Int}(h:2<=n):1<=((aL n.toNat:Nat):Int)/\((aL n.toNat:Nat):Int)<n/\n<=2 * ((aL n.toNat:Nat):Int):=by have a:=dH n.toNat;have b:=dv (n:=n.toNat) (by omega);have c:=xl (n:=n.toNat) (by omega);omega
def Zr{x:Int}(h0:0<=x)(h:x<9223372036854775808):IntKind.i64.wrap (Int.ofNat ((aE (am .i64) x).land (aE (am .i64) 1)))=x%2:=by
 obtain⟨n,rfl⟩:∃n:Nat,x=n:=⟨x.toNat,by omega⟩
 have e:(aE (am .i64) n).land (aE (am .i64) 1)=n%2:=by show(n%18446744073709551616) &&& 1=_;rw[abt (by omega),Nat.and_one_is_mod]
 rw[e];rcases abL n with h2|h2
 ·rw[h2];show(0:Int)=_;omega
 ·rw[h2];show(1:Int)=_;omega
def Rn{n:Nat}(h:1<=n):n &&& (n-1)=0↔∃i,n=2 ^ i:=by
 constructor
 ·intro e;refine⟨n.log2, ?_⟩;have a:=Nat.log2_self_le (n:=n) (by omega);rcases aat (2 ^ n.log2) n with c8|hge
  ·exfalso;have b:n<2 ^ (n.log2+1):=Nat.lt_log2_self;have t1:n.testBit n.log2=true:=Nat.testBit_log2 (by omega);have t2:(n-1).testBit n.log2=true:=by
    have:(n-1).log2=n.log2:=by have c1:=(Nat.le_log2 (n:=n-1) (k:=n.log2) (by omega)).2 (by omega);have c2:=(Nat.log2_lt (n:=n-1) (k:=n.log2+1) (by omega)).2 (by omega);omega
    rw[←this];exact Nat.testBit_log2 (by omega)
   have t3:(n &&& (n-1)).testBit n.log2=true:=by rw[Nat.testBit_and,t1,t2];rfl
   rw[e] at t3;simp at t3
  ·omega
 ·rintro⟨i,rfl⟩;refine Nat.eq_of_testBit_eq λj=>?_
  rw[Nat.testBit_and,Nat.testBit_two_pow_sub_one,Nat.testBit_two_pow,Nat.zero_testBit];by_cases e:i=j
  ·subst e;simp
  ·simp [e]
def M2{x y:Int}(hy:y=x-1)(h0:1<=x)(h:x<4611686018427387904):IntKind.i64.wrap (Int.ofNat ((aE (am .i64) x).land (aE (am .i64) y)))=0↔∃i:Nat,x=((2 ^ i:Nat):Int):=by
 subst hy;obtain⟨n,rfl⟩:∃n:Nat,x=n:=⟨x.toNat,by omega⟩
 obtain⟨m,hm⟩:∃m:Nat,n=m+1:=⟨n-1,by omega⟩
 subst hm;have e:(aE (am .i64) ((m+1:Nat):Int)).land (aE (am .i64) (((m+1:Nat):Int)-1))=(m+1) &&& m:=by rw[show((m+1:Nat):Int)-1=(m:Nat) by omega];show((m+1)%18446744073709551616) &&& (m%18446744073709551616)=_;rw[abt (by omega),abt (by omega)]
 rw[e,sL (Nat.lt_of_le_of_lt Nat.and_le_left (by omega)),show(m+1) &&& m=(m+1) &&& (m+1-1) by rfl,Rn (by omega)];exact⟨λ⟨i,hi⟩=>⟨i,by omega⟩,λ⟨i,hi⟩=>⟨i,by omega⟩⟩
def M3{L:List G}{h:G}(hL:RowsOk L)(hh:HOk h):RowsOk (L++ [.node [h]]):=λr hr=>by
 rcases List.mem_append.1 hr with hr|hr
 ·exact hL r hr
 ·rw[List.mem_singleton.1 hr];show HOk (hX h);rw[db hh];exact hh
def ls(x:Int):Prop:=∃j:Nat,x=((2 ^ j:Nat):Int)
def M4:ls 1:=⟨0,rfl⟩
def Wh{x:Int}(h:ls x):ls (2 * x):=by obtain⟨j,e⟩:=h;exact⟨j+1,by rw[e,aa_];push_cast;omega⟩
def M5{x:Int}(h:ls x):1<=x:=by obtain⟨j,e⟩:=h;have:=aa3 j;omega
def Wi{x n:Int}(h:ls x)(h1:x<n)(h2:n<=2 * x):x=(aL n.toNat:Nat):=by obtain⟨j,e⟩:=h;rw[C1 (n:=n.toNat) (j:=j) (by omega) (by omega)];exact e
def Wj{x y:Int}(hy:y=x-1)(h0:1<=x)(h:x<4611686018427387904):IntKind.i64.wrap (Int.ofNat ((aE (am .i64) x).land (aE (am .i64) y)))=0↔ls x:=M2 hy h0 h
def Zs{x:Int}(h:ls x)(hx:x<=1000000):∃j:Nat,j<=40/\x=((2 ^ j:Nat):Int):=by
 obtain⟨j,e⟩:=h;refine⟨j, ?_,e⟩;rcases aat 40 j with h|h
 ·have:=abK (n:=2) (by decide) h;omega
 ·exact h
def kI(lv pl:Int)(rows:List G)(h:G):Prop:=∃L,xm L lv pl rows h/\L.length<=2000000/\RowsOk L
def tW(lv pl:Int)(rows:List G)(h:G)(i7:List G):Prop:=∀L,xm L lv pl rows h->jS L.length i7 L
def dF(n:Int)(rows:List G):Prop:=∃L,jS n rows L/\RowsOk L
def AR(n:Int)(rows:List G)(h:G)(n':Int)(i7:List G):Prop:=∀L,jS n rows L->jS n' i7 (L++ [.node [h]])
def il(n:Int)(rows:List G)(fr k:Int)(h:G):Prop:=∀L,jS n rows L->h=aF ((L.drop fr.toNat).take k.toNat)
def Wk{lv pl:Int}{rows:List G}{h:G}(hl:kI lv pl rows h):(0<=lv/\lv<=30)/\0<=pl/\pl<=2000000:=by obtain⟨L,h1,h2,_⟩:=hl;exact Zp h1 h2
def Ro{lv pl:Int}{rows:List G}{h:G}(hl:kI lv pl rows h)(ho:pl%2=1):jM 0 rows [lv,pl-1]:=by obtain⟨L,h1,h2⟩:=hl;exact(C4 h1 ho).1
def Wl{lv pl:Int}{rows:List G}{h:G}(hl:kI lv pl rows h)(ho:pl%2=1):HOk (hX (aa (eM 0 rows [lv,pl-1]) 2)):=by obtain⟨L,h1,h2,h3⟩:=hl;rw[(C4 h1 ho).2];exact bx _ ((h3.drop _).take _)
def M6{lv pl:Int}{rows:List G}{h h':G}(hl:kI lv pl rows h)(ho:pl%2=1)(hh:h'=aO (hX (aa (eM 0 rows [lv,pl-1]) 2)) h):kI (lv+1) (pl/2) (cU 0 rows [lv+1,pl/2] [h']) h':=by obtain⟨L,h1,h2⟩:=hl;exact⟨L,FQ h1 ho hh,h2⟩
def M7{lv pl:Int}{rows i7:List G}{h h':G}(ho:pl%2=1)(hh:h'=aO (hX (aa (eM 0 rows [lv,pl-1]) 2)) h)(ht:tW (lv+1) (pl/2) (cU 0 rows [lv+1,pl/2] [h']) h' i7):tW lv pl rows h i7:=λL hl=>ht L (FQ hl ho hh)
def Rp{lv pl:Int}{rows:List G}{h:G}(ho:¬pl%2=1):tW lv pl rows h rows:=λL hl=>Wd hl ho
def IS{n:Int}{rows:List G}{h:G}(hl:dF n rows)(hn:n<=1000000)(hh:hX h=h)(ho:HOk h):kI 0 n (cU 0 rows [0,n] [h]) h:=by obtain⟨L,h1,h2⟩:=hl;exact⟨_,AQ h1 hh,by have:=C6 h1;rw[aav,aaQ];omega,M3 h2 ho⟩
def IT{n:Int}{rows i7:List G}{h:G}(hh:hX h=h)(ht:tW 0 n (cU 0 rows [0,n] [h]) h i7):AR n rows h (n+1) i7:=λL hl=>by have:=ht _ (AQ hl hh);rw[aav,aaQ] at this;have e:=C6 hl;rw[show((L.length+1:Nat):Int)=n+1 by omega] at this;exact this
def Rq{N fr n lv:Int}{rows:List G}(h0:0<=fr)(hlv:0<=lv)(hn:n=((2 ^ lv.toNat:Nat):Int))(hb:fr+n<=N)(ha:Jy fr n):(dF N rows->jM 0 rows [lv,fr/((2 ^ lv.toNat:Nat):Int)]/\HOk (hX (aa (eM 0 rows [lv,fr/((2 ^ lv.toNat:Nat):Int)]) 2)))/\il N rows fr n (hX (aa (eM 0 rows [lv,fr/((2 ^ lv.toNat:Nat):Int)]) 2)):=by have key:=λL (hl:jS N rows L)=>We (i:=lv.toNat) hl h0 hn hb ha;rw[show((lv.toNat:Nat):Int)=lv by omega] at key;exact⟨λ⟨L,h1,h2⟩=>⟨(key L h1).1,by rw[(key L h1).2];exact bx _ ((h2.drop _).take _)⟩,λL hl=>(key L hl).2⟩
def Rr{N fr n k:Int}{rows:List G}{a b:G}(h0:0<=fr)(hn:2<=n)(hb:fr+n<=N)(hk:k=(aL n.toNat:Nat))(h1:il N rows fr k a)(h2:il N rows (fr+k) (n-k) b):il N rows fr n (aO a b):=λL hl=>by rw[C5 h0 hn (by have:=C6 hl;omega) hk,h1 L hl,h2 L hl]
def Wm{N fr n:Int}{rows:List G}{h:G}(he:dF N rows)(ht:il N rows fr n h):HOk h:=by obtain⟨L,h1,h2⟩:=he;rw[ht L h1];exact bx _ ((h2.drop _).take _)
def Rs{N:Int}{rows:List G}{n:Int}(hn:n=0):il N rows 0 n (dK []):=λL _=>by subst hn;show _=aF [];rw[o_ rfl]
def M8:FSpec:=⟨[.c (.i .u64 1)],[],λz=>0<=z.i 1/\z.i 1<18446744073709551616,λ_=>.one (.c (.i .i64 10)),λ_=>[],λz y=>y.i 10=dw (z.i 1),none⟩
def FU:FSpec:=⟨[.c (.i .i64 1)],[],λz=>2<=z.i 1/\z.i 1<=1099511627776,λ_=>.one (.c (.i .i64 10)),λ_=>[],λz y=>y.i 10=(aL (z.i 1).toNat:Nat),none⟩
def kJ:Option (Nat×Nat×List Nat):=some (2,373,fK)
def Stz:FSpec:=⟨[.c (.i .u64 1)],[],λz=>ls (z.i 1)/\z.i 1<=1000000,λ_=>.one (.c (.i .i64 10)),λ_=>[],λz y=>(0<=y.i 10/\y.i 10<=40)/\z.i 1=((2 ^ (y.i 10).toNat:Nat):Int),kJ⟩
def M9:List BSh:=[.cells 160 [.i .i64 1,.m 1],.sm 0 2]
def Wn:List BSh:=[.cells 160 [.i .i64 1,.m 1],.sm 0 2,.cells 36 (hs 100)]
def M_(p:Sy):LSpec:=⟨[(0,.c (.p 0)),(3,.c (.p 2)),(5,.c (.i .i64 5)),(6,.c (.i .i64 6)),(7,.c (.i .i64 7))],Wn,λz=>HOk (hT z 100)/\kI (z.i 6) (z.i 7) (z.g 2) (hT z 100),λz=>(z.i 7).toNat,[⟨.exit 0,[(0,.c (.p 0)),(5,.c (.i .i64 5))],Wn⟩],λz y=>y.i 5=z.i 5/\y.i 1=z.i 1/\tW (z.i 6) (z.i 7) (z.g 2) (hT z 100) (y.g 2),none,[]⟩
def Zt:FSpec:=⟨[.c (.p 0),.ag (hs 100)],M9,λz=>HOk (hT z 100)/\(0<=z.i 1/\z.i 1<1000000)/\dF (z.i 1) (z.g 2),λ_=>.one (.c .o),λ_=>M9,λz y=>y.i 1=z.i 1+1/\AR (z.i 1) (z.g 2) (hT z 100) (y.i 1) (y.g 2),none⟩
def Uh(k:Nat):FSpec:=⟨[.c (.p 0),.c (.i .i64 5),.c (.i .i64 6)],M9,λz=>(1<=z.i 6/\z.i 6<k)/\0<=z.i 5/\z.i 5+z.i 6<=z.i 1/\z.i 1<=1000000/\Jy (z.i 5) (z.i 6)/\dF (z.i 1) (z.g 2),λ_=>.one (.ag (hs 300)),λ_=>M9,λz y=>y.i 1=z.i 1/\y.g 2=z.g 2/\il (z.i 1) (z.g 2) (z.i 5) (z.i 6) (hT y 300),kJ⟩
def Ui:FSpec:=⟨[.c (.p 0),.c (.i .i64 6)],M9,λz=>(0<=z.i 1/\z.i 1<=1000000)/\dF (z.i 1) (z.g 2),λ_=>.tu [.ag (hs 300),.c (.i .i64 50)],λ_=>M9,λz y=>y.i 1=z.i 1/\y.g 2=z.g 2/\(z.i 6<0∨z.i 1<z.i 6->y.i 50=1/\hT y 300=hZ)/\(0<=z.i 6/\z.i 6<=z.i 1->y.i 50=0/\il (z.i 1) (z.g 2) 0 (z.i 6) (hT y 300)),kJ⟩
def AS(p:Sy):LSpec:=⟨[(0,.c (.pi .i64 (p.i 1))),(3,.c (.i .i64 7))],[],λz=>(2<=p.i 1/\p.i 1<=1099511627776)/\z.i 7<p.i 1/\ls (z.i 7),λz=>(p.i 1-z.i 7).toNat,[⟨.exit 0,[(3,.c (.i .i64 7))],[]⟩],λz y=>y.i 7=(aL (p.i 1).toNat:Nat),none,[]⟩
abbrev Na:=FU
def Nb(k:Nat):FSpec:=⟨[.c (.v 6 1)],[],λz=>(z.g 1).length<k/\(z.g 1).length<=1000000/\RowsOk (z.g 1),λ_=>.one (.ag (hs 300)),λ_=>[],λz y=>hT y 300=aF (z.g 1),none⟩
def Uj(k:Nat):FSpec:=⟨[.c (.i .i64 3),.c (.v 6 1)],[],λz=>(z.g 1).length<k/\(z.g 1).length<=1000000/\RowsOk (z.g 1)/\0<=z.i 3/\z.i 3<=1000000,λ_=>.one (.c (.g 0 32 30)),λ_=>[.grow 6 36 30],λz y=>y.g 30=bm (z.i 3) (z.g 1)/\(y.g 30).length<=(z.g 1).length,none⟩
def FV{n n':Int}{rows i7:List G}{h:G}(ht:AR n rows h n' i7)(L:List G)(hl:jS n rows L):jS n' i7 (L++ [.node [h]]):=ht L hl
def Nc{n:Int}{rows L:List G}(hl:jS n rows L)(hr:RowsOk L):dF n rows:=⟨L,hl,hr⟩
def Wo{n fr k:Int}{rows:List G}{h:G}(ht:il n rows fr k h)(L:List G)(hl:jS n rows L):h=aF ((L.drop fr.toNat).take k.toNat):=ht L hl
attribute [irreducible] ls dw M1 fK kI tW dF AR il
end
def IU:bM 59 0 AS:=bL 10 53269 eN lN λp z hA=>show Fm.den (let v0:=((2<=p.i 1/\p.i 1<=1099511627776)/\IntKind.i64.wrap (2 * z.i 7)<p.i 1/\ls (eX (2 * z.i 7)));let v1:=(aL (p.i 1).toNat);let v2:=((-9223372036854775808)<=2 * z.i 7/\2 * z.i 7<=9223372036854775807);let v3:=(p.i 1=p.i 1/\True);let v4:=(p.i 1-z.i 7);let v5:=(p.i 1-IntKind.i64.wrap (2 * z.i 7));(.two ((-9223372036854775808)<=p.i 1-z.i 7/\p.i 1-z.i 7<=9223372036854775807) (.two (z.i 7<p.i 1-z.i 7) (.two v2 (.an v3 (.at (((2<=p.i 1/\p.i 1<=1099511627776)/\2 * z.i 7<p.i 1/\ls (2 * z.i 7))/\(p.i 1-2 * z.i 7).toNat<v4.toNat/\∀(y:Sy),y.i 7= ↑v1->y.i 7= ↑v1))) (.an v3 (.at (v0/\v5.toNat<v4.toNat/\∀(y:Sy),y.i 7= ↑v1->y.i 7= ↑v1)))) (.ax (z.i 7= ↑v1))) (.two (z.i 7<IntKind.i64.wrap v4) (.an (¬v2) (.an v3 (.at (v0/\v5.toNat<v4.toNat/\∀(y:Sy),y.i 7= ↑v1->y.i 7= ↑v1)))) (.ax (z.i 7= ↑v1))))) by dsimp only [AS] at hA;have:=@Wh (z.i 7);have:=@M5 (z.i 7);have:=@Wi (z.i 7) (p.i 1);exact ft
def xp:bq 59 Na:=bC 1 0 eN (aG (ptm:=[(0,.c (.i .i64 1))]) IU lN) λz hA=>show Fm.den ((.cl ((z.i 1=z.i 1/\True)) ((2<=z.i 1/\z.i 1<=1099511627776)/\1<z.i 1/\ls 1) (λy0=>y0.i 7= ↑(aL (z.i 1).toNat)) λy0=>(.ax (y0.i 7= ↑(aL (z.i 1).toNat))))) by dsimp only [Na,FU] at hA;have:=M4;exact ft
abbrev AT(a:Prop)(b c d e f:Int)(g)(h:G)(i:Int)(j:List G)(k:G):=a/\b.toNat<c.toNat/\∀(y:Sy),y.i 5=d/\y.i 1=e/\tW f b g h (y.g 2)->y.i 5=d/\y.i 1=e/\tW i c j k (y.g 2)
abbrev tX(a b:G):=Fm.ct (HOk a/\HOk b) (λy=>hT y 300=aO a b)
def Rt:bM 122 0 M_:=bL 25 55304495116885 (ai qr eN) lN λp z hA=>show Fm.den (let v0:=((-9223372036854775808)<=z.i 6+1/\z.i 6+1<=9223372036854775807);let v2:=(z.i 7/2);let v3:=(z.i 6+1);let v1:=(eX v3);let v4:=(hT z 100);let v5:=(hX (aa (eM 0 (z.g 2) [z.i 6,IntKind.i64.wrap (z.i 7-1)]) 2));let v6:=(hX (aa (eM 0 (z.g 2) [z.i 6,z.i 7-1]) 2));(.two (IntKind.i64.wrap (Int.ofNat ((aE (sT) (z.i 7)).land (aE (sT) 1)))=1) (.two ((-9223372036854775808)<=z.i 7-1/\z.i 7-1<=9223372036854775807) (.two (jM 0 (z.g 2) [z.i 6,z.i 7-1]) (tX v6 v4 λy0=>(let v7:=(cU 0 (z.g 2) [IntKind.i64.wrap v3,z.i 7/2] [hT y0 300]);let v8:=(cU 0 (z.g 2) [z.i 6+1,z.i 7/2] [hT y0 300]);let v9:=(hT y0 300);(.two v0 (.an v0 (.ax (AT (HOk v9/\kI v3 v2 v8 v9) v2 (z.i 7) (z.i 5) (z.i 1) v3 v8 v9 (z.i 6) (z.g 2) v4))) (.an (¬v0) (.ax (AT (HOk v9/\kI v1 v2 v7 v9) v2 (z.i 7) (z.i 5) (z.i 1) v1 v7 v9 (z.i 6) (z.g 2) v4)))))) (.ct (HOk hZ/\HOk v4) (λy1=>hT y1 300=aO hZ v4) λy1=>(let v10:=(cU 0 (z.g 2) [IntKind.i64.wrap v3,z.i 7/2] [hT y1 300]);let v11:=(cU 0 (z.g 2) [z.i 6+1,z.i 7/2] [hT y1 300]);let d5:=(hT y1 300);(.two v0 (.an v0 (.ax (AT (HOk d5/\kI v3 v2 v11 d5) v2 (z.i 7) (z.i 5) (z.i 1) v3 v11 d5 (z.i 6) (z.g 2) v4))) (.an (¬v0) (.ax (AT (HOk d5/\kI v1 v2 v10 d5) v2 (z.i 7) (z.i 5) (z.i 1) v1 v10 d5 (z.i 6) (z.g 2) v4))))))) (.two (jM 0 (z.g 2) [z.i 6,IntKind.i64.wrap (z.i 7-1)]) (tX v5 v4 λy2=>(let g7:=(cU 0 (z.g 2) [IntKind.i64.wrap v3,z.i 7/2] [hT y2 300]);let i4:=(cU 0 (z.g 2) [z.i 6+1,z.i 7/2] [hT y2 300]);let j7:=(hT y2 300);(.two v0 (.an v0 (.ax (AT (HOk j7/\kI v3 v2 i4 j7) v2 (z.i 7) (z.i 5) (z.i 1) v3 i4 j7 (z.i 6) (z.g 2) v4))) (.an (¬v0) (.ax (AT (HOk j7/\kI v1 v2 g7 j7) v2 (z.i 7) (z.i 5) (z.i 1) v1 g7 j7 (z.i 6) (z.g 2) v4)))))) (.ct (HOk hZ/\HOk v4) (λy3=>hT y3 300=aO hZ v4) λy3=>(let r9:=(cU 0 (z.g 2) [IntKind.i64.wrap v3,z.i 7/2] [hT y3 300]);let p9:=(cU 0 (z.g 2) [z.i 6+1,z.i 7/2] [hT y3 300]);let p5:=(hT y3 300);(.two v0 (.an v0 (.ax (AT (HOk p5/\kI v3 v2 p9 p5) v2 (z.i 7) (z.i 5) (z.i 1) v3 p9 p5 (z.i 6) (z.g 2) v4))) (.an (¬v0) (.ax (AT (HOk p5/\kI v1 v2 r9 p5) v2 (z.i 7) (z.i 5) (z.i 1) v1 r9 p5 (z.i 6) (z.g 2) v4)))))))) (.ax (z.i 5=z.i 5/\z.i 1=z.i 1/\tW (z.i 6) (z.i 7) (z.g 2) v4 (z.g 2))))) by
 dsimp only [M_,Wn,hs] at hA;have:=@Wk (z.i 6) (z.i 7) (z.g 2) (hT z 100);have:=@Ro (z.i 6) (z.i 7) (z.g 2) (hT z 100);have:=@Wl (z.i 6) (z.i 7) (z.g 2) (hT z 100);have:=λh' hl ho hh=>@M6 (z.i 6) (z.i 7) (z.g 2) (hT z 100) h' hl ho hh;have:=λi7 h' ho hh ht=>@M7 (z.i 6) (z.i 7) (z.g 2) i7 (hT z 100) h' ho hh ht;have:=@Rp (z.i 6) (z.i 7) (z.g 2) (hT z 100);have:=@Zr (z.i 7);conv=>zeta
 repeat' with_reducible first|intro _|apply ci|apply cm|apply cj|apply cD|apply cA
 all_goals first|omega|grind [ao,ak,aj,aX,aY,aZ,a_,ba,bc,be,bf,bh,aB,cy]
def Uk:bq 122 Zt:=bC 3 11 eN (aG (ptm:=[]) Rt lN) λz hA=>show Fm.den (let v0:=(cU 0 (z.g 2) [0,z.i 1] [hT z 100]);let v1:=(hT z 100);(.an (¬(1048576<=z.i 1)) (.an ((-9223372036854775808)<=z.i 1+1/\z.i 1+1<=9223372036854775807) (.ct (HOk v1/\kI 0 (z.i 1) v0 v1) (λy0=>y0.i 5=z.i 1/\y0.i 1=z.i 1+1/\tW 0 (z.i 1) v0 v1 (y0.g 2)) λy0=>(.ax (y0.i 1=z.i 1+1/\AR (z.i 1) (z.g 2) v1 (y0.i 1) (y0.g 2))))))) by dsimp only [Zt,hs,M9] at hA;have:=@IS (z.i 1) (z.g 2) (hT z 100);have:=@db (hT z 100);have:=λi7 hh ht=>@IT (z.i 1) (z.g 2) i7 (hT z 100) hh ht;exact ft
def o_tz:bq 275 Stz:=bC 5 17 eN lN λz hA=>show Fm.den (let v1:=(Int.ofNat ((aE (nx) (z.i 1)).land (aE (nx) ((0-z.i 1)%18446744073709551616))));let v0:=(↑(fK.getD (IntKind.u64.wrap v1 * 285870213051353865%18446744073709551616/288230376151711744).toNat 0):Int);(.two (z.i 1=0) (.ax (((0:Int)<=64/\(64:Int)<=40)/\z.i 1= ↑(2 ^ Int.toNat 64))) (.an ((0:Int)<=IntKind.u64.wrap v1 * 285870213051353865%18446744073709551616/288230376151711744/\IntKind.u64.wrap v1 * 285870213051353865%18446744073709551616/288230376151711744<64) (.two ((-9223372036854775808:Int)<=v0/\v0<=9223372036854775807) (.ax (((0:Int)<=v0/\v0<=40)/\z.i 1=(↑(2 ^ v0.toNat):Int))) (.ax (((0:Int)<=IntKind.i64.wrap v0/\IntKind.i64.wrap v0<=40)/\z.i 1=(↑(2 ^ (eX v0).toNat):Int))))))) by
 have hB:True/\ls (z.i 1)/\z.i 1<=1000000:=⟨trivial,hA⟩
 obtain⟨j,hj,ej⟩:=Zs hB.2.1 hB.2.2;have t:=Zq hj ej;dsimp only [Rl] at t;exact ft
abbrev pO(a:Int):=jW M1 a.toNat
def FW:bq 199 M8:=bC 31 732161104241009301 eN lN λz hA=>show Fm.den (let v0:=(↑(pO (z.i 1/4294967296/65536/256%256)):Int);let v1:=(↑(pO (z.i 1/4294967296/65536%256)):Int);let v2:=(↑(pO (z.i 1/4294967296/256%256)):Int);let v3:=(↑(pO (z.i 1/65536/256%256)):Int);let v4:=(↑(pO (z.i 1/4294967296%256)):Int);let v5:=(↑(pO (z.i 1/65536%256)):Int);let v6:=(↑(pO (z.i 1/256%256)):Int);let v7:=(↑(pO (z.i 1%256)):Int);(.two (4294967296<=z.i 1) (.two (65536<=z.i 1/4294967296) (.two (256<=z.i 1/4294967296/65536) (.an (0<=z.i 1/4294967296/65536/256%256/\z.i 1/4294967296/65536/256%256 < ↑256) (.an ((-9223372036854775808)<=v0/\v0<=9223372036854775807) (.an ((-9223372036854775808)<=56+v0/\56+v0<=9223372036854775807) (.ax (56+v0=dw (z.i 1)))))) (.an (0<=z.i 1/4294967296/65536%256/\z.i 1/4294967296/65536%256 < ↑256) (.an ((-9223372036854775808)<=v1/\v1<=9223372036854775807) (.an ((-9223372036854775808)<=48+v1/\48+v1<=9223372036854775807) (.ax (48+v1=dw (z.i 1))))))) (.two (256<=z.i 1/4294967296) (.an (0<=z.i 1/4294967296/256%256/\z.i 1/4294967296/256%256 < ↑256) (.an ((-9223372036854775808)<=v2/\v2<=9223372036854775807) (.an ((-9223372036854775808)<=40+v2/\40+v2<=9223372036854775807) (.ax (40+v2=dw (z.i 1)))))) (.an (0<=z.i 1/4294967296%256/\z.i 1/4294967296%256 < ↑256) (.an ((-9223372036854775808)<=v4/\v4<=9223372036854775807) (.an ((-9223372036854775808)<=32+v4/\32+v4<=9223372036854775807) (.ax (32+v4=dw (z.i 1)))))))) (.two (65536<=z.i 1) (.two (256<=z.i 1/65536) (.an (0<=z.i 1/65536/256%256/\z.i 1/65536/256%256 < ↑256) (.an ((-9223372036854775808)<=v3/\v3<=9223372036854775807) (.an ((-9223372036854775808)<=24+v3/\24+v3<=9223372036854775807) (.ax (24+v3=dw (z.i 1)))))) (.an (0<=z.i 1/65536%256/\z.i 1/65536%256 < ↑256) (.an ((-9223372036854775808)<=v5/\v5<=9223372036854775807) (.an ((-9223372036854775808)<=16+v5/\16+v5<=9223372036854775807) (.ax (16+v5=dw (z.i 1))))))) (.two (256<=z.i 1) (.an (0<=z.i 1/256%256/\z.i 1/256%256 < ↑256) (.an ((-9223372036854775808)<=v6/\v6<=9223372036854775807) (.an ((-9223372036854775808)<=8+v6/\8+v6<=9223372036854775807) (.ax (8+v6=dw (z.i 1)))))) (.an (0<=z.i 1%256/\z.i 1%256 < ↑256) (.an ((-9223372036854775808)<=v7/\v7<=9223372036854775807) (.an ((-9223372036854775808)<=0+v7/\0+v7<=9223372036854775807) (.ax (0+v7=dw (z.i 1)))))))))) by dsimp only [M8] at hA;have:=@Rm (z.i 1);have:=@FT (z.i 1);have:=@xn (z.i 1);have:=@FT (z.i 1/4294967296);have:=@xn (z.i 1/4294967296);have:=@xn (z.i 1/65536);have:=@xn (z.i 1/4294967296/65536);have:=@fw (z.i 1);have:=@fw (z.i 1/256);have:=@fw (z.i 1/65536);have:=@fw (z.i 1/65536/256);have:=@fw (z.i 1/4294967296);have:=@fw (z.i 1/4294967296/256);have:=@fw (z.i 1/4294967296/65536);have:=@fw (z.i 1/4294967296/65536/256);exact ft
abbrev Ul(a:Int)(b):=Fm.ct ((0:Int)<=a%18446744073709551616/\a%18446744073709551616<18446744073709551616) (λy=>y.i 10=dw b)
abbrev Um(a:Int):=(-9223372036854775808:Int)<=1 * a/\(1:Int) * a<=9223372036854775807
def Nd:bq 137 FU:=bC 8 1046 (ai FW eN) lN λz hA=>show Fm.den (let v0:=(bj IntKind.i64);let v1:=(aL (z.i 1).toNat);(.an ((-9223372036854775808)<=z.i 1-1/\z.i 1-1<=9223372036854775807) (Ul (z.i 1-1) ((z.i 1-1)%18446744073709551616) λy0=>(let v2:=(↑(2 ^ Min.min (eX (y0.i 10-1)).toNat v0):Int);let v3:=(↑(2 ^ Min.min (y0.i 10-1).toNat v0):Int);(.two ((-9223372036854775808)<=y0.i 10-1/\y0.i 10-1<=9223372036854775807) (.an (0<=y0.i 10-1) (.two ((-9223372036854775808)<=1 * v3/\1 * v3<=9223372036854775807) (.ax (1 * v3=(↑v1:Int))) (.ax (IntKind.i64.wrap (1 * v3)= ↑v1)))) (.an ((0:Int)<=IntKind.i64.wrap (y0.i 10-1)) (.two (Um v2) (.ax (1 * v2=(↑v1:Int))) (.ax (IntKind.i64.wrap (1 * v2)= ↑v1))))))))) by dsimp only [FU] at hA;have:=@vB (z.i 1);have:=@ij (z.i 1);exact ft
abbrev Nf(a:Int)(b:Nat):=Fm.ct (2<=a/\a<=1099511627776) (λy=>y.i 10= ↑b)
def FY:∀k,bq 236 (Uh k)
 |0=>LB λz h=>by have h:(1<=z.i 6/\z.i 6<((0:Nat):Int)):=h.1;omega
 |k+1=>bC 8 10262 (ai o_tz (ai Nd (ai (FY k) (ai qr eN)))) lN λz hA=>show Fm.den ((.an ((-9223372036854775808)<=z.i 6-1/\z.i 6-1<=9223372036854775807) (.two (IntKind.i64.wrap (Int.ofNat ((aE (sT) (z.i 6)).land (aE (sT) (z.i 6-1))))=0) (.ct (ls (z.i 6%18446744073709551616)/\z.i 6%18446744073709551616<=1000000) (λy0=>(0<=y0.i 10/\y0.i 10<=40)/\z.i 6%18446744073709551616= ↑(2 ^ (y0.i 10).toNat)) λy0=>(let v0:=(2 ^ Min.min (y0.i 10).toNat (bj IntKind.i64));(.an (0<=y0.i 10) (.two (jM 0 (z.g 2) [y0.i 10,z.i 5 / ↑v0]) (.ax (z.i 1=z.i 1/\z.g 2=z.g 2/\il (z.i 1) (z.g 2) (z.i 5) (z.i 6) (hX (aa (eM 0 (z.g 2) [y0.i 10,z.i 5/(↑v0:Int)]) 2)))) (.ax (z.i 1=z.i 1/\z.g 2=z.g 2/\il (z.i 1) (z.g 2) (z.i 5) (z.i 6) hZ)))))) (Nf (z.i 6) (aL (z.i 6).toNat) λy1=>(let v1:=(z.i 6-y1.i 10);(.ct ((1<=y1.i 10/\y1.i 10 < ↑k)/\0<=z.i 5/\z.i 5+y1.i 10<=z.i 1/\z.i 1<=1000000/\Jy (z.i 5) (y1.i 10)/\dF (z.i 1) (z.g 2)) (λy2=>y2.i 1=z.i 1/\y2.g 2=z.g 2/\il (z.i 1) (z.g 2) (z.i 5) (y1.i 10) (hT y2 300)) λy2=>(.an ((-9223372036854775808)<=z.i 5+y1.i 10/\z.i 5+y1.i 10<=9223372036854775807) (.an ((-9223372036854775808)<=z.i 6-y1.i 10/\z.i 6-y1.i 10<=9223372036854775807) (.ct ((1<=z.i 6-y1.i 10/\z.i 6-y1.i 10 < ↑k)/\0<=z.i 5+y1.i 10/\z.i 5+y1.i 10+v1<=y2.i 1/\y2.i 1<=1000000/\Jy (z.i 5+y1.i 10) v1/\dF (y2.i 1) (y2.g 2)) (λy3=>y3.i 1=y2.i 1/\y3.g 2=y2.g 2/\il (y2.i 1) (y2.g 2) (z.i 5+y1.i 10) v1 (hT y3 300)) λy3=>(tX (hT y2 300) (hT y3 300) λy4=>(.ax (y3.i 1=z.i 1/\y3.g 2=z.g 2/\il (z.i 1) (z.g 2) (z.i 5) (z.i 6) (hT y4 300))))))))))))) by
  dsimp only [Uh,M9,hs,kJ] at hA;have:=M4;have m1:1<=z.i 6->z.i 6<=1000000->z.i 6%18446744073709551616=z.i 6:=λa b=>by omega
  have b2:∀v:Int,0<=v->v<=40->min v.toNat (bj .i64)=v.toNat:=λv h0 h=>by show min v.toNat 64=_;omega
  have:=@Wj (z.i 6) (z.i 6-1) rfl;have:=λlv h0 hlv hn hb ha=>@Rq (z.i 1) (z.i 5) (z.i 6) lv (z.g 2) h0 hlv hn hb ha;have:=λk a b h0 hn hb hk h1 h2=>@Rr (z.i 1) (z.i 5) (z.i 6) k (z.g 2) a b h0 hn hb hk h1 h2;have:=@Zn (z.i 5) (z.i 6);have:=@Zo (z.i 5) (z.i 6);have:=@ij (z.i 6);have:=λfr n h he ht=>@Wm (z.i 1) fr n (z.g 2) h he ht;have:=λh:ls (z.i 6)=>@M5 (z.i 6) h;conv=>zeta
  repeat' with_reducible first|intro _|apply ci|apply cm|apply cj|apply cD|apply cA
  all_goals first|omega|grind [ao,ak,aj,cy]
def Wp:bq 192 Ui:=bC 7 273 (ai pJ (ai (FY 1000001) eN)) lN λz hA=>show Fm.den (let v0:=(z.i 1=z.i 1/\z.g 2=z.g 2/\(z.i 6<0∨z.i 1<z.i 6->(1:Int)=1/\hZ=hZ)/\(0<=z.i 6/\z.i 6<=z.i 1->(1:Int)=0/\il (z.i 1) (z.g 2) 0 (z.i 6) hZ));(.two (z.i 6<0) (.ax v0) (.two (z.i 1<z.i 6) (.ax v0) (.two (z.i 6=0) (.ct (0<=1000000000) (λy0=>True) λy0=>(.ax (z.i 1=z.i 1/\z.g 2=z.g 2/\(z.i 6<0∨z.i 1<z.i 6->(0:Int)=1/\hG (eB [])=hZ)/\(0<=z.i 6/\z.i 6<=z.i 1->(0:Int)=0/\il (z.i 1) (z.g 2) 0 (z.i 6) (hG (eB [])))))) (.ct ((1<=z.i 6/\z.i 6<1000001)/\(0:Int)<=0/\0+z.i 6<=z.i 1/\z.i 1<=1000000/\Jy 0 (z.i 6)/\dF (z.i 1) (z.g 2)) (λy1=>y1.i 1=z.i 1/\y1.g 2=z.g 2/\il (z.i 1) (z.g 2) 0 (z.i 6) (hT y1 300)) λy1=>(.ax (y1.i 1=z.i 1/\y1.g 2=z.g 2/\(z.i 6<0∨z.i 1<z.i 6->(0:Int)=1/\hT y1 300=hZ)/\(0<=z.i 6/\z.i 6<=z.i 1->(0:Int)=0/\il (z.i 1) (z.g 2) 0 (z.i 6) (hT y1 300))))))))) by dsimp only [Ui,M9,hs,kJ] at hA;have:=al0 (z.i 6);have:=@Rs (z.i 1) (z.g 2) (z.i 6);have:=sy [];exact ft
noncomputable section
def kK{l:List G}:List.take (l.length:Int).toNat l=l:=by rw[aaE,abg]
def C8{l:List G}{k:Int}(h:2<=l.length)(hk:k=(aL ((l.length:Int)).toNat:Nat)):aF l=aO (aF (List.drop (0:Int).toNat (List.take k.toNat l))) (aF (List.drop k.toNat (List.take (l.length:Int).toNat l))):=IR h (by rw[hk,aaE])
def Wq{i:Int}{l:List G}{k:Int}(h:2<=l.length)(hk:k=(aL ((l.length:Int)).toNat:Nat)):(i<k->bm i l=bm i (List.drop (0:Int).toNat (List.take k.toNat l))++ [.node [aF (List.drop k.toNat (List.take (l.length:Int).toNat l))]])/\(¬i<k->bm i l=bm (i-k) (List.drop k.toNat (List.take (l.length:Int).toNat l))++ [.node [aF (List.drop (0:Int).toNat (List.take k.toNat l))]]):=by subst hk;rw[kK,drop_zero,aaE,aaE];exact⟨λhi=>nQ h hi,λhi=>nR h hi⟩
def cut_len{l:List G}{k:Int}(h0:0<=k)(hk:k<=l.length):((List.drop (0:Int).toNat (List.take k.toNat l)).length:Int)=k/\((List.drop k.toNat (List.take (l.length:Int).toNat l)).length:Int)=l.length-k:=by rw[kK,drop_zero,aax,aaA];omega
def pc{l:List G}{k:Int}(h:RowsOk l):RowsOk (List.drop (0:Int).toNat (List.take k.toNat l))/\RowsOk (List.drop k.toNat (List.take (l.length:Int).toNat l)):=by rw[kK,drop_zero];exact⟨h.take _,h.drop _⟩
def FZ{l:List G}(h:1<=l.length):List.drop (0:Int).toNat (List.take ((l.length:Int)-1).toNat l)=l.dropLast:=by rw[drop_zero,List.dropLast_eq_take];congr 1;omega
end
abbrev im(a:Int)(b:List G):=List.take a.toNat b
abbrev C9(a:Int)(b:List G):=(0:Int)<=0/\0<=a/\a<= ↑b.length
abbrev Un(a:List G)(b:Nat):=Fm.ct (a.length<b/\a.length<=1000000/\RowsOk a) (λy=>hT y 300=aF a)
def Wr(z:Sy):=@ij (((z.g 1).length:Nat):Int)
def iV:∀k,bq 23 (Nb k)
 |0=>LB λz h=>Nat.not_lt_zero _ h.1
 |k+1=>bC 5 17 (ai Af (ai xp (ai (iV k) (ai E6 eN)))) lN λz hA=>show Fm.den (let v0:=(↑(z.g 1).length:Int);let v1:=(im v0 (z.g 1));let v2:=(kF);(.two (v0=0) (.ct (0<=1000000) (λy0=>True) λy0=>(.ax (hG (lP [])=aF (z.g 1)))) (.two (v0=1) (.an ((0:Int)<=0/\0<v0) (.ax (hX (aT (aq (z.g 1) v2))=aF (z.g 1)))) (Nf v0 (aL v0.toNat) λy1=>(let v3:=(List.drop v2 (im (y1.i 10) (z.g 1)));let v4:=(List.drop (y1.i 10).toNat v1);(.an (C9 (y1.i 10) (z.g 1)) (Un v3 k λy2=>(.an (0<=y1.i 10/\y1.i 10<= ↑(z.g 1).length/\v0<=v0) (Un v4 k λy3=>(tX (hT y2 300) (hT y3 300) λy4=>(.ax (hT y4 300=aF (z.g 1))))))))))))) by dsimp only [Nb,hs] at hA;have:=@C8 (z.g 1);have:=@cut_len (z.g 1);have:=@pc (z.g 1);have:=Wr z;have:=@ld (z.g 1);have:=@o_ (z.g 1);have:=fa [];have:=sy [];have:=λk h=>@bx _ (@pc (z.g 1) k h).1;have:=λk h=>@bx _ (@pc (z.g 1) k h).2;exact ft
abbrev AU(a:List G):=Fm.ct (a.length<1000001/\a.length<=1000000/\RowsOk a) (λy=>hT y 300=aF a)
abbrev AW(a b:List G):=a.length=b.length+1/\True
def F0:∀k,bq 56 (Uj k)
 |0=>LB λz h=>Nat.not_lt_zero _ h.1
 |k+1=>bC 6 529 (ai xp (ai (F0 k) (ai (iV 1000001) eN))) lN λz hA=>show Fm.den (let v1:=(↑(z.g 1).length:Int);let v0:=(im v1 (z.g 1));let v2:=(kF);(.two (v1<2) (.an (lM) (.at ([]=bm (z.i 3) (z.g 1)/\0<=(z.g 1).length))) (Nf v1 (aL v1.toNat) λy0=>(let v3:=(List.drop v2 (im (y0.i 10) (z.g 1)));let v4:=(List.drop (y0.i 10).toNat v0);let v5:=(C9 (y0.i 10) (z.g 1));let v6:=(0<=y0.i 10/\y0.i 10<= ↑(z.g 1).length/\v1<=v1);(.two (z.i 3<y0.i 10) (.an v5 (.ct (v3.length<k/\v3.length<=1000000/\RowsOk v3/\0<=z.i 3/\z.i 3<=1000000) (λy1=>y1.g 30=bm (z.i 3) v3/\(y1.g 30).length<=v3.length) λy1=>(.an v6 (AU v4 λy2=>(let v7:=(y1.g 30++ [G.node [hT y2 300]]);(.an (lq (y1.g 30)) (.an (AW v7 (y1.g 30)) (.at (y1.g 30++ [G.node [hT y2 300]]=bm (z.i 3) (z.g 1)/\v7.length<=(z.g 1).length))))))))) (.an ((-9223372036854775808)<=z.i 3-y0.i 10/\z.i 3-y0.i 10<=9223372036854775807) (.an v6 (.ct (v4.length<k/\v4.length<=1000000/\RowsOk v4/\0<=z.i 3-y0.i 10/\z.i 3-y0.i 10<=1000000) (λy3=>y3.g 30=bm (z.i 3-y0.i 10) v4/\(y3.g 30).length<=v4.length) λy3=>(.an v5 (AU v3 λy4=>(let v8:=(y3.g 30++ [G.node [hT y4 300]]);(.an (lq (y3.g 30)) (.an (AW v8 (y3.g 30)) (.at (y3.g 30++ [G.node [hT y4 300]]=bm (z.i 3) (z.g 1)/\v8.length<=(z.g 1).length))))))))))))))) by dsimp only [Uj] at hA;have:=@C8 (z.g 1);have:=@cut_len (z.g 1);have:=@pc (z.g 1);have:=Wr z;have:=@Wq (z.i 3) (z.g 1);have:=@f_ (z.i 3) (z.g 1);exact ft
noncomputable section
def Ng{es:List G}{i:Nat}(hi:i<es.length):(iv es 0)[i]? =some (.node [bN (tU (aq es i))]):=by unfold iv aq lvR;show((es.drop 0).map _)[i]? =_;rw[aa4,aaW,aas,aaw hi];rfl
def kL(es:List G):RowsOk (iv es 0):=λr hr=>by unfold iv at hr;obtain⟨e, -,rfl⟩:=List.mem_map.1 hr;show HOk (hX (bN _));rw[db (iR _)];exact iR _
def BK(es:List G)(i:Int)(rows:List G):Prop:=jS i rows ((iv es 0).take i.toNat)
def xq(es:List G):BK es 0 []:=by unfold BK;rw[show(0:Int).toNat=0 by rfl,List.take_zero];exact Wf
def Nh{es:List G}{i n':Int}{rows i7:List G}{h:G}(h0:0<=i)(hi:i<es.length)(hl:BK es i rows)(hh:h=bN (tU (aq es i.toNat)))(hn:n'=i+1)(ht:AR i rows h n' i7):BK es n' i7:=by
 subst hn;have e:(iv es 0).take (i+1).toNat=(iv es 0).take i.toNat++ [.node [h]]:=by rw[show(i+1).toNat=i.toNat+1 by omega,List.take_add_one,Ng (by omega),hh];rfl
 unfold BK;rw[e];exact FV ht _ hl
def xr{es:List G}{i:Int}{rows:List G}(hl:BK es i rows):dF i rows:=Nc hl ((kL es).take _)
def AX{es:List G}{n:Int}{rows:List G}{h:G}(hl:BK es n rows)(hn:n=es.length)(ht:il n rows 0 n h):h=aF (iv es 0):=by have e:=Wo ht _ hl;subst hn;rw[e];congr 1;have a:=lc es;show List.take (es.length:Int).toNat (List.drop 0 _)=_;rw[aa4,aaE, ←a,abg,abg]
def AY(es:List G):(((iv es 0).length:Nat):Int)=es.length:=by rw[lc]
def jK(ix tm tn:Int)(pv:G)(es:List G):G:=aO (dK (k_ ix tm tn pv)) (dh (aF (iv es 0)) (aK es.length))
def pd(ix tm tn:Int)(pv:G)(es:List G):HOk (jK ix tm tn pv es):=cy _ _
def C_(ix tm tn:Int)(pv:G)(es:List G):jK ix tm tn pv es=aO (dK (k_ ix tm tn pv)) (dh (aF (iv es 0)) (aK es.length)):=rfl
def Zu:FSpec:=⟨[],[],λ_=>True,λ_=>.one (.c (.p 0)),λ_=>M9,λz y=>y.i 1=0/\y.g 2= [],none⟩
def jC:FSpec:=⟨[.ag (hs 100),.c (.i .i64 1)],[],λz=>HOk (hT z 100)/\0<=z.i 1/\z.i 1<=1000000,λ_=>.one (.ag (hs 300)),λ_=>[],λz y=>hT y 300=dh (hT z 100) (aK (z.i 1).toNat),none⟩
abbrev Uo:=wW
abbrev AZ:=jC
def bHb(p:Sy):List BSh:=[.cells 71 (mF p),.cells 160 [.i .i64 1,.m 2],.sm 0 2,.cells 36 (hs 300)]
def A0(p:Sy):LSpec:=⟨[(1,.c (.p 0)),(2,.c (.p 3)),(5,.c (.p 1)),(20,.c (.pv 7 (p.g 24))),(21,.c (.pi .i64 (p.g 24).length)),(22,.c (.i .i64 9))],bHb p,λz=>jJ (p.g 24)/\(0<=z.i 9/\z.i 9<=(p.g 24).length)/\z.i 1=z.i 9/\BK (p.g 24) (z.i 1) (z.g 2),λz=>((p.g 24).length-z.i 9).toNat,[⟨.exit 0,[(1,.c (.p 0)),(2,.c (.p 3)),(5,.c (.p 1))],bHb p⟩],λz y=>y.i 1=(p.g 24).length/\BK (p.g 24) (y.i 1) (y.g 2),none,[]⟩
def Ni:FSpec:=⟨[.ag bk],[],BJ,λ_=>.tu [.ag (hs 300),.c (.i .i64 50)],λ_=>[],λz y=>y.i 50=sQ z/\(sQ z=0->hT y 300=jK (z.i 21) (z.i 22) (z.i 23) (hT z 200) (z.g 24))/\(¬sQ z=0->hT y 300=hZ),kJ⟩
def F1:FSpec:=⟨[.ag bk],[],BJ,λ_=>.tu [.ag (hs 300),.c (.i .i64 50)],λ_=>[],λz y=>y.i 50=sQ z/\(sQ z=0->hT y 300=jK (z.i 21) (z.i 22) (z.i 23) (hT z 200) (z.g 24))/\(¬sQ z=0->hT y 300=hZ),none⟩
attribute [irreducible] BK jK
end
def Up:bq 27 Zu:=bC 1 0 eN lN λz hA=>show Fm.den ((.ax ((0:Int)=0/\IA))) by dsimp only [Zu,M9] at hA;exact ft
abbrev Uq(a:G)(b:List Nat):=Fm.ct (HOk a/\b.length<=900000) (λy=>hT y 300=dh a b)
def IV:bq 105 AZ:=bC 1 0 (ai da (ai Mf eN)) lN λz hA=>show Fm.den ((tF (z.i 1) (z.i 1%18446744073709551616) λy0=>(Uq (hT z 100) (y0.s 10) λy1=>(.ax (hT y1 300=dh (hT z 100) (aK (z.i 1).toNat)))))) by
 dsimp only [AZ,jC,hs] at hA;have m1:0<=z.i 1->z.i 1<=1000000->(z.i 1%18446744073709551616).toNat=(z.i 1).toNat:=λa b=>by omega
 have:=@bP (z.i 1%18446744073709551616) (by omega);exact ft
abbrev Ws(a:G)(b c d:Int):=HOk a/\b<9223372036854775808/\c<9223372036854775808/\d<9223372036854775808
def Nj:bq 43 F1:=bC 3 1 (ai oZ (ai AM (ai AN (ai (iV 1000001) (ai IV (ai E6 eN)))))) lN λz hA=>show Fm.den (let v0:=(hT z 200);let v1:=(↑(z.g 24).length:Int);(Rd (z.g 24) v0 (z.i 21) (z.i 22) (z.i 23) λy0=>(.two (y0.i 50≠0) (.ax (y0.i 50=bz (z.i 21) (z.i 22) (z.i 23) v0 (z.g 24)/\(bz (z.i 21) (z.i 22) (z.i 23) v0 (z.g 24)=(0:Int)->hZ=jK (z.i 21) (z.i 22) (z.i 23) v0 (z.g 24))/\(¬bz (z.i 21) (z.i 22) (z.i 23) v0 (z.g 24)=(0:Int)->hZ=hZ))) (.ct (Ws v0 (z.i 21) (z.i 22) (z.i 23)) (λy1=>hT y1 300=dK (k_ (z.i 21) (z.i 22) (z.i 23) v0)) λy1=>(.ct (od (z.g 24)) (λy2=>y2.g 30=iv (z.g 24) 0) λy2=>(AU (y2.g 30) λy3=>(.ct (HOk (hT y3 300)/\0<=v1/\v1<=1000000) (λy4=>hT y4 300=dh (hT y3 300) (aK v1.toNat)) λy4=>(tX (hT y1 300) (hT y4 300) λy5=>(.ax ((0:Int)=bz (z.i 21) (z.i 22) (z.i 23) v0 (z.g 24)/\(bz (z.i 21) (z.i 22) (z.i 23) v0 (z.g 24)=(0:Int)->hT y5 300=jK (z.i 21) (z.i 22) (z.i 23) v0 (z.g 24))/\(¬bz (z.i 21) (z.i 22) (z.i 23) v0 (z.g 24)=(0:Int)->hT y5 300=hZ))))))))))) by
 dsimp only [F1,bk,hs,BJ,sQ] at hA;have:=@jz (z.i 21) (z.i 22) (z.i 23) (hT z 200) (z.g 24);have:=@jA (z.i 21) (z.i 22) (z.i 23) (hT z 200) (z.g 24);have:=@gu (z.i 21) (z.i 22) (z.i 23) (hT z 200) (z.g 24);have:=@mr (z.i 21) (z.i 22) (z.i 23) (hT z 200) (z.g 24);have:=@fg (z.i 21) (z.i 22) (z.i 23) (hT z 200) (z.g 24);have:=xq (z.g 24);have:=@xr (z.g 24);have:=@AX (z.g 24);have:=C_ (z.i 21) (z.i 22) (z.i 23) (hT z 200) (z.g 24);have:=bx _ (kL (z.g 24));have:=fG;have:=kL (z.g 24);have:=AY (z.g 24);conv=>zeta
 repeat' with_reducible first|intro _|apply ci|apply cm|apply cj|apply cD|apply cA
 all_goals first|omega|grind [ao,ak,aj,aX,aY,aZ,a_,ba,bc,be,bf,bh,aB,gR,kW,xh]
abbrev Nk(a:G)(b:Prop)(c:Int)(d:List G):=Fm.ct (HOk a/\b/\dF c d) (λy=>y.i 1=c+1/\AR c d a (y.i 1) (y.g 2))
def IW:bM 121 0 A0:=bL 4 9 (ai pN (ai Uk eN)) lN λp z hA=>show Fm.den (let v0:=(aM (p.g 24) (z.i 9));let v1:=(↑(p.g 24).length:Int);let v2:=(hX (aa v0 11));let v3:=(gI (aa v0 13));let v4:=(gI (aa v0 14));let v5:=(gS (aa v0 1));let v6:=(gI (aa v0 2));let v7:=(gI (aa v0 3));let v8:=(gI (aa v0 4));let v9:=(gL (aa v0 10));let v10:=(gI (aa v0 6));let v11:=(gS (aa v0 8));let d5:=(gL (aa v0 9));let g7:=(gI (aa v0 0));(.two (bR (z.i 9) (p.g 24)) (.an (cg (z.i 9) (p.g 24)) (.ct (vo v5 v6 v7 v8 v10 v11 d5 v9 v2 v3 v4) (λy0=>y0.i 50=fH g7 v5 v6 v7 v8 (gI (aa v0 5)) v10 (gI (aa v0 7)) v11 d5 v9 v2 (gI (aa v0 12)=1) v3 v4/\(fH g7 v5 v6 v7 v8 (gI (aa v0 5)) v10 (gI (aa v0 7)) v11 d5 v9 v2 (gI (aa v0 12)=(1:Int)) v3 v4=0->hT y0 300=bN (lp g7 v5 v6 v7 v8 v2 v3 v4))/\(¬fH g7 v5 v6 v7 v8 (gI (aa v0 5)) v10 (gI (aa v0 7)) v11 d5 v9 v2 (gI (aa v0 12)=(1:Int)) v3 v4=0->hT y0 300=hZ)) λy0=>(Nk (hT y0 300) (0<=z.i 1/\z.i 1<1000000) (z.i 1) (z.g 2) λy1=>(.an ((-9223372036854775808)<=z.i 9+1/\z.i 9+1<=9223372036854775807) (.an (pY (p.g 24) (jP p 200) (CW (p.i 23) (p.i 22) (p.i 21) v1 (p.g 24))) (.at (((od (p.g 24))/\(dE (z.i 9) (p.g 24))/\y1.i 1=z.i 9+1/\BK (p.g 24) (y1.i 1) (y1.g 2))/\(v1-(z.i 9+1)).toNat<(v1-z.i 9).toNat/\∀(y:Sy),y.i 1= ↑(p.g 24).length/\BK (p.g 24) (y.i 1) (y.g 2)->y.i 1= ↑(p.g 24).length/\BK (p.g 24) (y.i 1) (y.g 2)))))))) (.an (pY (p.g 24) (jP p 200) (iU (p.i 23) (p.i 22) (p.i 21))) (.at (z.i 1= ↑(p.g 24).length/\BK (p.g 24) (z.i 1) (z.g 2)))))) by
 dsimp only [A0,bHb,mF,tV,hs,jJ] at hA;have a6:=AI p z;have a7:=IN p z;dsimp only [xf,mD] at a6 a7;have v1:=λn r h a b c d e f=>@Nh (p.g 24) (z.i 9) n (z.g 2) r h a b c d e f;have:=@xr (p.g 24) (z.i 1) (z.g 2);dsimp only [tU] at v1;conv=>zeta
 repeat' with_reducible first|intro _|apply ci|apply cm|apply cj|apply cD|apply cA
 all_goals first|omega|grind [ao,ak,aj,aX,aY,aZ,a_,ba,bc,be,bf,bh,aB,iR]
def A1:bq 195 jC:=bC 1 0 (ai fY (ai Mg eN)) lN λz hA=>show Fm.den ((MM (z.i 1) (Max.max 0 (z.i 1)%18446744073709551616) λy0=>(Uq (hT z 100) (y0.s 10) λy1=>(.ax (hT y1 300=dh (hT z 100) (aK (z.i 1).toNat)))))) by
 dsimp only [jC,hs] at hA;have m1:0<=z.i 1->z.i 1<=1000000->(max 0 (z.i 1)%18446744073709551616).toNat=(z.i 1).toNat:=λa b=>by omega
 have:=@bP (max 0 (z.i 1)%18446744073709551616) (by omega);exact ft
def Wt:bq 193 Uo:=bC 1 0 (ai qr eN) lN λz hA=>show Fm.den ((tX (hT z 100) (hT z 200) λy0=>(.ax (hT y0 300=aO (hT z 100) (hT z 200))))) by dsimp only [Uo,wW,hs] at hA;exact ft
abbrev Ur:=Fm.ct (True) (λy=>y.i 1=0/\y.g 2= [])
def Ru:bq 121 Ni:=bC 3 1 (ai sV (ai Up (ai Wp (ai Re (ai A1 (ai Wt eN)))))) (aG (ptm:=[(0,.ag bk)]) IW lN) λz hA=>show Fm.den (let v0:=(↑(z.g 24).length:Int);let v1:=(hT z 200);(Rd (z.g 24) v1 (z.i 21) (z.i 22) (z.i 23) λy0=>(.two (y0.i 50≠0) (.ax (y0.i 50=bz (z.i 21) (z.i 22) (z.i 23) v1 (z.g 24)/\(bz (z.i 21) (z.i 22) (z.i 23) v1 (z.g 24)=(0:Int)->hZ=jK (z.i 21) (z.i 22) (z.i 23) v1 (z.g 24))/\(¬bz (z.i 21) (z.i 22) (z.i 23) v1 (z.g 24)=(0:Int)->hZ=hZ))) (Ur λy1=>(.cl ((pY (z.g 24) (jP z 200) (CW (z.i 23) (z.i 22) (z.i 21) v0 (z.g 24)))) ((od (z.g 24))/\(fE v0)/\y1.i 1=0/\BK (z.g 24) (y1.i 1) (y1.g 2)) (λy2=>y2.i 1= ↑(z.g 24).length/\BK (z.g 24) (y2.i 1) (y2.g 2)) λy2=>(.ct ((0<=y2.i 1/\y2.i 1<=1000000)/\dF (y2.i 1) (y2.g 2)) (λy3=>y3.i 1=y2.i 1/\y3.g 2=y2.g 2/\(v0<0∨y2.i 1 < ↑(z.g 24).length->y3.i 50=1/\hT y3 300=hZ)/\(0<=v0/\v0<=y2.i 1->y3.i 50=0/\il (y2.i 1) (y2.g 2) 0 v0 (hT y3 300))) λy3=>(.ct (Ws v1 (z.i 21) (z.i 22) (z.i 23)) (λy4=>hT y4 300=dK (k_ (z.i 21) (z.i 22) (z.i 23) v1)) λy4=>(.ct (HOk (hT y3 300)/\0<=v0/\v0<=1000000) (λy5=>hT y5 300=dh (hT y3 300) (aK v0.toNat)) λy5=>(tX (hT y4 300) (hT y5 300) λy6=>(.ax ((0:Int)=bz (z.i 21) (z.i 22) (z.i 23) v1 (z.g 24)/\(bz (z.i 21) (z.i 22) (z.i 23) v1 (z.g 24)=(0:Int)->hT y6 300=jK (z.i 21) (z.i 22) (z.i 23) v1 (z.g 24))/\(¬bz (z.i 21) (z.i 22) (z.i 23) v1 (z.g 24)=(0:Int)->hT y6 300=hZ)))))))))))) by
 dsimp only [Ni,bk,hs,BJ,sQ,kJ] at hA;have:=@jz (z.i 21) (z.i 22) (z.i 23) (hT z 200) (z.g 24);have:=@jA (z.i 21) (z.i 22) (z.i 23) (hT z 200) (z.g 24);have:=@gu (z.i 21) (z.i 22) (z.i 23) (hT z 200) (z.g 24);have:=@mr (z.i 21) (z.i 22) (z.i 23) (hT z 200) (z.g 24);have:=@fg (z.i 21) (z.i 22) (z.i 23) (hT z 200) (z.g 24);have:=xq (z.g 24);have:=@xr (z.g 24);have:=@AX (z.g 24);have:=C_ (z.i 21) (z.i 22) (z.i 23) (hT z 200) (z.g 24);have:=bx _ (kL (z.g 24));have:=fG;have:=kL (z.g 24);have:=AY (z.g 24);conv=>zeta
 repeat' with_reducible first|intro _|apply ci|apply cm|apply cj|apply cD|apply cA
 all_goals first|omega|grind [ao,ak,aj,aX,aY,aZ,a_,ba,bc,be,bf,bh,aB,gR,kW,xh]
noncomputable section
def cT:List Nat:=[0,498536548,997073096,651767980,1994146192,1802195444,1303535960,1342533948,3988292384,4027552580,3604390888,3412177804,2607071920,2262029012,2685067896,3183342108]
def fN(c:Nat):Nat:=if c%2=1 then(c/2) ^^^ 3988292384 else c/2
def fI:Nat->Nat->Nat
 |0,c=>c
 |n+1,c=>fI n (fN c)
def xt(q:Nat):fN (2 * q)=q:=by unfold fN;rw[if_neg (by omega)];omega
def Wu(a b:Nat):fN (a ^^^ b)=fN a ^^^ fN b:=by
 have hd:(a ^^^ b)/2=(a/2) ^^^ (b/2):=Nat.xor_div_two;have hm:(a ^^^ b)%2=(a+b)%2:=by have:=Nat.xor_mod_two_pow (a:=a) (b:=b) (n:=1);rw[Nat.pow_one] at this;rw[this];rcases abL a with ha|ha <;> rcases abL b with hb|hb <;> rw[ha,hb] <;> simp <;> omega
 unfold fN;rw[hd,hm];generalize a/2=x;generalize b/2=y;generalize 3988292384=p;rcases abL a with ha|ha <;> rcases abL b with hb|hb
 ·rw[if_neg (by omega),if_neg (by omega),if_neg (by omega)]
 ·rw[if_pos (by omega),if_neg (by omega),if_pos (by omega),Nat.xor_assoc]
 ·rw[if_pos (by omega),if_pos (by omega),if_neg (by omega),Nat.xor_assoc,Nat.xor_assoc,Nat.xor_comm y p]
 ·rw[if_neg (by omega),if_pos (by omega),if_pos (by omega)];rw[show(x ^^^ p) ^^^ (y ^^^ p)=(x ^^^ y) ^^^ (p ^^^ p) by ac_rfl,Nat.xor_self,Nat.xor_zero]
def Wv(n a b:Nat):fI n (a ^^^ b)=fI n a ^^^ fI n b:=by
 induction n generalizing a b with
 |zero=>rfl
 |succ n ih=>show fI n (fN _)=fI n (fN _) ^^^ fI n (fN _);rw[Wu,ih]
def Rv(c:Nat):c=(16 * (c/16)) ^^^ (c%16):=by
 refine Nat.eq_of_testBit_eq λi=>?_;rw[Nat.testBit_xor,show(16:Nat)=2 ^ 4 by rfl,Nat.testBit_two_pow_mul,Nat.testBit_div_two_pow,Nat.testBit_mod_two_pow];by_cases h:4<=i
 ·rw[show i-4+4=i by omega];simp [h,show ¬i<4 by omega]
 ·simp [h,show i<4 by omega]
def fI4(c:Nat):fI 4 c=(c/16) ^^^ cT.getD (c%16) 0:=by
 have h1:∀q,fI 4 (16 * q)=q:=λq=>by show fN (fN (fN (fN (16 * q))))=q;rw[show 16 * q=2 * (2 * (2 * (2 * q))) by omega,xt,xt,xt,xt]
 have h2:∀r:Fin 16,fI 4 r.1=cT.getD r.1 0:=by decide
 conv=>lhs;rw[Rv c]
 rw[Wv,h1,h2 ⟨c%16,by omega⟩]
def CG:List G:=[.node [.int 0],.node [.int 498536548],.node [.int 997073096],.node [.int 651767980],.node [.int 1994146192],.node [.int 1802195444],.node [.int 1303535960],.node [.int 1342533948],.node [.int 3988292384],.node [.int 4027552580],.node [.int 3604390888],.node [.int 3412177804],.node [.int 2607071920],.node [.int 2262029012],.node [.int 2685067896],.node [.int 3183342108]]
def Ww:CG.length=16:=rfl
def Wx(c:Int):Int:=cR (c/16) (tP CG (iP c 15))
def PP(c:Int):Int:=if iP c 1=1 then cR (c/2) 3988292384 else c/2
def PQ:Nat->Int->Int
 |0,c=>c
 |n+1,c=>PQ n (PP c)
def Zv(c b:Int):Int:=Wx (Wx (cR c (b%4294967296)))
def crL(c:Int):List Nat->Int
 | []=>c
 |b::s=>crL (Zv c b) s
def F2(n:Nat)(h:n<4294967296):aE EM (n:Int)=n:=by show((n:Int)%(4294967296:Nat)).toNat=n;omega
def Nl(n:Nat)(h:n<4294967296):IntKind.u32.wrap (.ofNat n)=(n:Int):=by show((n:Nat):Int)%4294967296=_;omega
def A2(a b:Nat)(ha:a<4294967296)(hb:b<4294967296):cR a b=((a ^^^ b:Nat):Int)/\a ^^^ b<4294967296:=by have h:a ^^^ b<2 ^ 32:=Nat.xor_lt_two_pow ha hb;refine⟨?_,h⟩;unfold cR;rw[F2 a ha,F2 b hb];exact Nl _ h
def sY(a:Nat)(k:Nat)(ha:a<4294967296)(hk:k<=32):iP a ((2 ^ k-1:Nat):Int)=((a%2 ^ k:Nat):Int):=by unfold iP;have hp:2 ^ k<=2 ^ 32:=abK (by decide) hk;have h0:=aa3 k;rw[F2 a ha,F2 _ (by omega)];show IntKind.u32.wrap (.ofNat (a &&& (2 ^ k-1)))=_;rw[ab6];exact Nl _ (Nat.lt_of_le_of_lt (Nat.mod_le _ _) ha)
def Rw(a:Nat)(ha:a<4294967296):PP a=(fN a:Nat)/\fN a<4294967296:=by
 have h1:iP a 1=((a%2:Nat):Int):=sY a 1 ha (by decide);unfold PP fN;rw[h1,show((a:Int)/2)=((a/2:Nat):Int) by omega];obtain⟨e1,e2⟩:=A2 (a/2) 3988292384 (by omega) (by omega);by_cases h:a%2=1
 ·rw[if_pos (by omega),if_pos h];exact⟨e1,e2⟩
 ·rw[if_neg (by omega),if_neg h];exact⟨rfl,by omega⟩
def F3(n a:Nat)(ha:a<4294967296):PQ n a=(fI n a:Nat)/\fI n a<4294967296:=by
 induction n generalizing a with
 |zero=>exact⟨rfl,ha⟩
 |succ n ih=>obtain⟨e1,e2⟩:=Rw a ha;show PQ n (PP a)=_/\_;rw[e1];exact ih _ e2
def Zw(r:Nat)(h:r<16):tP CG r=(cT.getD r 0:Nat):=by
 have:∀i:Fin 16,tP CG i.1=(cT.getD i.1 0:Nat):=by decide
 exact this ⟨r,h⟩
def Zx(r:Nat)(h:r<16):cT.getD r 0<4294967296:=by
 have:∀i:Fin 16,cT.getD i.1 0<4294967296:=by decide
 exact this ⟨r,h⟩
def xu(a:Nat)(ha:a<4294967296):Wx a=(fI 4 a:Nat)/\fI 4 a<4294967296:=by have h1:iP a 15=((a%16:Nat):Int):=sY a 4 ha (by decide);refine⟨?_,(F3 4 a ha).2⟩;unfold Wx;rw[h1,Zw _ (by omega),fI4,show((a:Int)/16)=((a/16:Nat):Int) by omega];exact(A2 _ _ (by omega) (Zx _ (by omega))).1
def A3(a b:Int):∃n:Nat,cR a b=n/\n<4294967296:=by
 have h:0<=cR a b/\cR a b<4294967296:=by unfold cR;generalize Nat.xor _ _=n;show 0<=((n:Nat):Int)%4294967296/\((n:Nat):Int)%4294967296<4294967296;omega
 exact⟨(cR a b).toNat,by omega,by omega⟩
def A4(a:Int)(h0:0<=a)(h:a<4294967296):0<=iP a 15/\iP a 15<16:=by
 obtain⟨n,rfl⟩:∃n:Nat,a=n:=⟨a.toNat,by omega⟩
 have:=sY n 4 (by omega) (by decide);rw[show((2 ^ 4-1:Nat):Int)=15 by rfl] at this;omega
def F4(a b:Int):0<=cR a b/\cR a b<4294967296:=by obtain⟨n,e,h⟩:=A3 a b;omega
def crN8(c b:Int):PQ 8 (cR c (b%4294967296))=Zv c b:=by unfold Zv;obtain⟨n,e,h⟩:=A3 c (b%4294967296);rw[e,(F3 8 n h).1,(xu n h).1,(xu _ (xu n h).2).1];rfl
def Nm(i c:Int)(h:i<8):PQ (8-i).toNat c=PQ (8-(i+1)).toNat (PP c):=by rw[show(8-i).toNat=(8-(i+1)).toNat+1 by omega];rfl
def Rx(i c:Int)(h:8<=i):PQ (8-i).toNat c=c:=by rw[show(8-i).toNat=0 by omega];rfl
def Wy(c:Int):(iP c 1=1->PP c=cR (c/2) 3988292384)/\(¬iP c 1=1->PP c=c/2):=⟨λh=>by unfold PP;rw[if_pos h],λh=>by unfold PP;rw[if_neg h]⟩
def Jz(i c:Int):Int:=PQ (8-i).toNat c
def Nn(i c:Int)(h:i<8):Jz i c=Jz (i+1) (PP c):=Nm i c h
def Ry(i c:Int)(h:8<=i):Jz i c=c:=Rx i c h
theorem Zy(c:Int):Jz 0 c=PQ 8 c:=rfl
def Zz:¬IntKind.u32.signed=true:=λh=>by cases h
def vC(s:List Nat)(i c:Int):Int:=crL c (s.drop i.toNat)
def A5(s:List Nat)(i c:Int)(h0:0<=i)(h:i<s.length):vC s i c=vC s (i+1) (Wx (Wx (cR c (kE s i%4294967296)))):=by
 unfold vC;have hi:i.toNat<s.length:=by omega
 rw[abf hi,show(i+1).toNat=i.toNat+1 by omega];show crL (Zv c _) _=_;unfold Zv kE;rw[aas,aaw hi];rfl
def F5(s:List Nat)(i c:Int)(h:(s.length:Int)<=i):vC s i c=c:=by unfold vC;rw[aa2 (by omega)];rfl
def IX(s:List Nat)(i c:Int)(h0:0<=i)(h:i<s.length):vC s i c=vC s (i+1) (PQ 8 (cR c (kE s i%4294967296))):=by rw[A5 s i c h0 h,crN8];rfl
def Da(s:List Nat):Int:=Ab (vC s 0 4294967295)
def No(s:List Nat):Da s=Ab (vC s 0 4294967295):=rfl
def Wz:List BSh:=[.arr 9 306 2]
def ZA:List BSh:=[.growb 5 20]
def F6(p:Sy):LSpec:=⟨[(3,.c (.p 0)),(4,.c (.i .u32 5)),(8,.c (.vb 20)),(9,.c (.i .i64 7)),(10,.c (.i .i64 6))],Wz,λz=>z.g 2=CG/\z.i 7=(z.s 20).length/\0<=z.i 6/\(z.s 20).length<=1000000000,λz=>(z.i 7-z.i 6).toNat,[⟨.exit 0,[(3,.c (.p 0)),(4,.c (.i .u32 5))],Wz⟩],λz y=>y.i 5=vC (z.s 20) (z.i 6) (z.i 5),none,[]⟩
def F7:FSpec:=⟨[.c (.vb 20)],[],λz=>(z.s 20).length<=1000000000,λ_=>.one (.c (.i .u32 10)),λ_=>[],λz y=>y.i 10=Da (z.s 20)/\0<=y.i 10/\y.i 10<4294967296,none⟩
def F8(p:Sy):LSpec:=⟨[(0,.c (.vb 20)),(3,.c (.i .u32 3)),(4,.c (.i .i64 4)),(5,.c (.i .i64 5))],[],λz=>0<=z.i 5/\z.i 5<=8,λz=>(8-z.i 5).toNat,[⟨.exit 2,[(0,.c (.vb 20)),(3,.c (.i .u32 3)),(4,.c (.i .i64 4))],[]⟩],λz y=>y.s 20=z.s 20/\y.i 4=z.i 4/\y.i 3=Jz (z.i 5) (z.i 3),none,[]⟩
def F9(p:Sy):LSpec:=⟨[(0,.c (.vb 20)),(3,.c (.i .u32 3)),(4,.c (.i .i64 4))],[],λz=>(z.s 20).length<=1000000000/\0<=z.i 4/\z.i 4<=(z.s 20).length,λz=>((z.s 20).length-z.i 4).toNat,[⟨.exit 0,[(0,.c (.vb 20)),(3,.c (.i .u32 3))],[]⟩],λz y=>y.s 20=z.s 20/\y.i 3=vC (z.s 20) (z.i 4) (z.i 3),none,[]⟩
abbrev Us:=F7
def b4(c:Int):List Nat:=[(c/16777216%256).toNat,(c/65536%256).toNat,(c/256%256).toNat,(c%256).toNat]
def qD:FSpec:=⟨[.c (.i .u32 1)],[],λz=>0<=z.i 1,λ_=>.one (.c (.gb 0 20)),λ_=>ZA,λz y=>y.s 20=b4 (z.i 1),none⟩
abbrev F_:=qD
def ZC(n:Int):List Nat:=b4 n++b4 (Da (b4 n))
def yo(s:List Nat):List Nat:=ZC s.length++(s++b4 (Da (ZC s.length++s)))
def xw(s:List Nat):0<=Da s/\Da s<4294967296:=by unfold Da Ab;generalize Nat.xor _ _=n;show 0<=((n:Nat):Int)%4294967296/\((n:Nat):Int)%4294967296<4294967296;omega
def Db(n:Nat)(h:n<18446744073709551616):aE (am .u64) (n:Int)=n:=by have e:aE (am .u64) (n:Int)=((n:Int)%((18446744073709551616:Nat):Int)).toNat:=rfl;rw[e];omega
def Ga(n:Nat)(h:n<18446744073709551616):IntKind.u64.wrap (.ofNat n)=(n:Int):=by have e:IntKind.u64.wrap (.ofNat n)=((n:Nat):Int)%18446744073709551616:=rfl;rw[e];omega
def Rz(a b:Nat)(h:b<4294967296):Nat.lor (4294967296 * a) b=4294967296 * a+b:=by have:=Nat.two_pow_add_eq_or_of_lt (i:=32) (b:=b) h a;rw[show(2:Nat) ^ 32=4294967296 by decide] at this;exact this.symm
def or64{x c:Int}(h0:0<=x)(h:x<4294967296)(c0:0<=c)(hc:c<4294967296):IntKind.u64.wrap (.ofNat (Nat.lor (aE (am .u64) (x%18446744073709551616 * 4294967296%18446744073709551616)) (aE (am .u64) (c%18446744073709551616))))=x * 4294967296+c:=by
 obtain⟨a,rfl⟩:∃n:Nat,x=n:=⟨x.toNat,by omega⟩
 obtain⟨b,rfl⟩:∃n:Nat,c=n:=⟨c.toNat,by omega⟩
 have e1:(a:Int)%18446744073709551616 * 4294967296%18446744073709551616=((4294967296 * a:Nat):Int):=by omega
 have e2:(b:Int)%18446744073709551616=((b:Nat):Int):=by omega
 rw[e1,e2,Db _ (by omega),Db _ (by omega),Rz _ _ (by omega),Ga _ (by omega)];omega
def WA{n c:Int}(a:0<=n)(b:n<4294967296)(h0:0<=c)(h1:c<4294967296):(n * 4294967296+c)/4294967296%4294967296=n/\(n * 4294967296+c)%4294967296=c/\0<=n * 4294967296+c/\n * 4294967296+c<18446744073709551616:=by omega
theorem sZ(c:Int):(b4 c).length=4:=rfl
def RA(n:Int):(ZC n).length=8:=rfl
theorem dI(s:List Nat):(yo s).length=s.length+12:=by unfold yo;rw[aav,aav,RA,sZ];omega
def Gb:FSpec:=⟨[.c (.i .u32 1)],[],λz=>0<=z.i 1/\z.i 1<4294967296,λ_=>.one (.c (.i .u64 10)),λ_=>[],λz y=>y.i 10/4294967296%4294967296=z.i 1/\y.i 10%4294967296=Da (b4 (z.i 1))/\0<=y.i 10/\y.i 10<18446744073709551616,none⟩
def ZD:FSpec:=⟨[.c (.i .u64 1)],[],λz=>0<=z.i 1/\z.i 1<18446744073709551616,λ_=>.one (.c (.gb 0 20)),λ_=>ZA,λz y=>y.s 20=b4 (z.i 1/4294967296%4294967296)++b4 (z.i 1%4294967296),none⟩
def iW:FSpec:=⟨[.c (.vb 1)],[],λz=>(z.s 1).length<=100000000,λ_=>.tu [.c (.vb 10),.c (.i .i64 50)],λ_=>[],λz y=>((z.s 1).length<=524288->y.i 50=0/\y.s 10=yo (z.s 1))/\(524288<(z.s 1).length->y.i 50=5/\y.s 10= [])/\(y.s 10).length<=524300,none⟩
abbrev vD:=iW
attribute [irreducible] vC Da Jz
end
abbrev Ut(a:Int):=0<=a/16777216%256/\0<=a/65536%256/\0<=a/256%256/\0<=a%256/\True
def Np:bq 178 F_:=bC 1 0 eN lN λz hA=>show Fm.den ((.an (Ut (z.i 1)) (.an (4=4) (.an (4=4/\True) (.at ([(z.i 1/16777216%256).toNat,(z.i 1/65536%256).toNat,(z.i 1/256%256).toNat,(z.i 1%256).toNat]=b4 (z.i 1))))))) by
 dsimp only [F_,qD,ZA] at hA;repeat' with_reducible first|intro _|apply ci|apply cm|apply cj|apply cD|apply cA
 all_goals first|omega|grind [ao,ak,aj,b4]
def Nq:bM 163 2 F8:=bL 7 549 eN lN λp z hA=>show Fm.den (let v0:=((-9223372036854775808)<=z.i 5+1/\z.i 5+1<=9223372036854775807);let v1:=(b_);let v2:=(0<=z.i 5+1/\z.i 5+1<=8);let v3:=(z.i 5+1);(.two (z.i 5<8) (.two (IntKind.u32.wrap (Int.ofNat ((aE v1 (z.i 3)).land (aE v1 1)))=1) (.an v0 (.ax (v2/\((8:Int)-v3).toNat<(8-z.i 5).toNat/\∀(y:Sy),y.s 20=z.s 20/\y.i 4=z.i 4/\y.i 3=Jz v3 (eL (Int.ofNat ((aE v1 (z.i 3/2)).xor (aE v1 3988292384))))->y.s 20=z.s 20/\y.i 4=z.i 4/\y.i 3=Jz (z.i 5) (z.i 3)))) (.an v0 (.ax (v2/\((8:Int)-v3).toNat<(8-z.i 5).toNat/\∀(y:Sy),y.s 20=z.s 20/\y.i 4=z.i 4/\y.i 3=Jz v3 (z.i 3/2)->y.s 20=z.s 20/\y.i 4=z.i 4/\y.i 3=Jz (z.i 5) (z.i 3))))) (.ax (z.s 20=z.s 20/\z.i 4=z.i 4/\z.i 3=Jz (z.i 5) (z.i 3))))) by dsimp only [F8] at hA;have:=Nn (z.i 5) (z.i 3);have:=Ry (z.i 5) (z.i 3);have e3:=Wy (z.i 3);dsimp only [cR,iP,EM] at e3;exact jO
def Nr:bM 163 0 F9:=bL 4 9 eN (aG (ptm:=[]) Nq lN) λp z hA=>show Fm.den ((.two (z.i 4 < ↑(z.s 20).length) (.an (0<=z.i 4/\z.i 4 < ↑(z.s 20).length) (.ct ((0:Int)<=0/\(0:Int)<=8) (λy0=>y0.s 20=z.s 20/\y0.i 4=z.i 4/\y0.i 3=Jz 0 (eL (Int.ofNat ((aE (b_) (z.i 3)).xor (aE (b_) ((↑((z.s 20).getD (z.i 4).toNat 0):Int)%4294967296)))))) λy0=>(.an ((-9223372036854775808)<=y0.i 4+1/\y0.i 4+1<=9223372036854775807) (.ax (((y0.s 20).length<=1000000000/\0<=y0.i 4+1/\y0.i 4+1<= ↑(y0.s 20).length)/\((↑(y0.s 20).length:Int)-(y0.i 4+1)).toNat<((↑(z.s 20).length:Int)-z.i 4).toNat/\∀(y:Sy),y.s 20=y0.s 20/\y.i 3=vC (y0.s 20) (y0.i 4+1) (y0.i 3)->y.s 20=z.s 20/\y.i 3=vC (z.s 20) (z.i 4) (z.i 3)))))) (.ax (z.s 20=z.s 20/\z.i 3=vC (z.s 20) (z.i 4) (z.i 3))))) by
 dsimp only [F9] at hA;have e1:=@IX (z.s 20) (z.i 4) (z.i 3);have:=@F5 (z.s 20) (z.i 4) (z.i 3);dsimp only [cR,kE,EM] at e1;repeat' with_reducible first|intro _|apply ci|apply cm|apply cj|apply cD|apply cA
 all_goals first|omega|grind [ao,ak,aj,Zy]
abbrev Uu(a:Int)(b:List Nat):=IntKind.u32.wrap a=Da b/\(0:Int)<=IntKind.u32.wrap a/\IntKind.u32.wrap a<4294967296
def WB:bq 163 Us:=bC 1 0 eN (aG (ptm:=[]) Nr lN) λz hA=>show Fm.den (let v1:=(b_);let v0:=(aE v1 (QL (-1)));(.ct ((z.s 20).length<=1000000000/\(0:Int)<=0/\0<=(↑(z.s 20).length:Int)) (λy0=>y0.s 20=z.s 20/\y0.i 3=vC (z.s 20) 0 4294967295) λy0=>(let v2:=(Int.ofNat (v0.xor (aE v1 (y0.i 3))));(.ax (Uu v2 (z.s 20)))))) by dsimp only [Us,F7] at hA;have:=Zz;have e1:=No (z.s 20);dsimp only [Ab,EM] at e1;have:=xw (z.s 20);exact jO
def s_:bq 189 qD:=bC 1 0 eN lN λz hA=>show Fm.den ((.an (Ut (z.i 1)) (.an (4=4) (.an (4=4/\True) (.at ([(z.i 1/16777216%256).toNat,(z.i 1/65536%256).toNat,(z.i 1/256%256).toNat,(z.i 1%256).toNat]=b4 (z.i 1))))))) by
 dsimp only [qD,ZA] at hA;repeat' with_reducible first|intro _|apply ci|apply cm|apply cj|apply cD|apply cA
 all_goals first|omega|grind [ao,ak,aj,b4]
def Ns:bM 157 0 F6:=bL 4 9 eN lN λp z hA=>show Fm.den (let v1:=(Int.ofNat ((aE (b_) (eL (Int.ofNat ((aE (b_) (z.i 5)).xor (aE (b_) ((↑((z.s 20).getD (z.i 6).toNat 0):Int)%4294967296)))))).land (aE (b_) 15)));let v0:=(Int.ofNat ((aE (b_) (IntKind.u32.wrap (Int.ofNat ((aE (b_) (z.i 5)).xor (aE (b_) ((↑((z.s 20).getD (z.i 6).toNat 0):Int)%4294967296))))/16)).xor (aE (b_) (gI (aT (aM (z.g 2) (eL v1)))))));let v2:=(Int.ofNat ((aE (b_) (eL v0)).land (aE (b_) 15)));let v3:=(so (z.g 2));(.two (z.i 6<z.i 7) (.an (0<=z.i 6/\z.i 6 < ↑(z.s 20).length) (.an (0<=IntKind.u32.wrap v1/\IntKind.u32.wrap v1<16) (.an (lO (z.g 2)) (.an (eD (eL v1) (z.g 2)) (.an (0<=IntKind.u32.wrap v2/\IntKind.u32.wrap v2<16) (.an (lO (z.g 2)) (.an (eD (eL v2) (z.g 2)) (.an ((-9223372036854775808)<=z.i 6+1/\z.i 6+1<=9223372036854775807) (.an v3 (.at ((z.g 2=CG/\z.i 7= ↑(z.s 20).length/\0<=z.i 6+1/\(z.s 20).length<=1000000000)/\(z.i 7-(z.i 6+1)).toNat<(z.i 7-z.i 6).toNat/\∀(y:Sy),y.i 5=vC (z.s 20) (z.i 6+1) (sj (Int.ofNat ((aE (b_) (IntKind.u32.wrap v0/16)).xor (aE (b_) (gI (aT (aM (z.g 2) (eL v2))))))))->y.i 5=vC (z.s 20) (z.i 6) (z.i 5)))))))))))) (.an v3 (.at (z.i 5=vC (z.s 20) (z.i 6) (z.i 5)))))) by
 dsimp only [F6,Wz] at hA;have e1:=@A5 (z.s 20) (z.i 6) (z.i 5);have:=@F5 (z.s 20) (z.i 6) (z.i 5);have:=Ww;have e4:=F4 (z.i 5) (kE (z.s 20) (z.i 6)%4294967296);have e5:=@A4 (cR (z.i 5) (kE (z.s 20) (z.i 6)%4294967296)) e4.1 e4.2;have e6:=(λe=>F4 (cR (z.i 5) e/16) (tP CG (iP (cR (z.i 5) e) 15))) (kE (z.s 20) (z.i 6)%4294967296)
 have e7:=@A4 _ e6.1 e6.2;dsimp only [Wx,cR,iP,kE,tP,EM] at e1 e4 e5 e6 e7;exact jO
def Nt:bq 157 F7:=bC 1 0 eN (aG (ptm:=[]) Ns lN) λz hA=>show Fm.den (let v1:=(b_);let v0:=(aE v1 (QL (-1)));let v2:=(↑(z.s 20).length:Int);(.an (16=16/bn (cP 9)) (.cl ((0<16/\True)) ([G.node [G.int 0],G.node [G.int 498536548],G.node [G.int 997073096],G.node [G.int 651767980],G.node [G.int 1994146192],G.node [G.int 1802195444],G.node [G.int 1303535960],G.node [G.int 1342533948],G.node [G.int 3988292384],G.node [G.int 4027552580],G.node [G.int 3604390888],G.node [G.int 3412177804],G.node [G.int 2607071920],G.node [G.int 2262029012],G.node [G.int 2685067896],G.node [G.int 3183342108]]=CG/\v2=v2/\(0:Int)<=0/\(z.s 20).length<=1000000000) (λy0=>y0.i 5=vC (z.s 20) 0 4294967295) λy0=>(let v3:=(Int.ofNat (v0.xor (aE v1 (y0.i 5))));(.ax (Uu v3 (z.s 20))))))) by dsimp only [F7] at hA;have e2: [G.node [G.int 0],G.node [G.int 498536548],G.node [G.int 997073096],G.node [G.int 651767980],G.node [G.int 1994146192],G.node [G.int 1802195444],G.node [G.int 1303535960],G.node [G.int 1342533948],G.node [G.int 3988292384],G.node [G.int 4027552580],G.node [G.int 3604390888],G.node [G.int 3412177804],G.node [G.int 2607071920],G.node [G.int 2262029012],G.node [G.int 2685067896],G.node [G.int 3183342108]]=CG:=rfl;have:=Zz;have e4:bn (cP 9)=1:=rfl;have e1:=No (z.s 20);dsimp only [Ab,EM] at e1;have:=xw (z.s 20);exact jO
abbrev RB(a:List Nat):=Fm.ct (a.length<=1000000000) (λy=>y.i 10=Da a/\0<=y.i 10/\y.i 10<4294967296)
abbrev Gc(a:Int):=Fm.ct (0<=a) (λy=>y.s 20=b4 a)
def Nu:bq 155 Gb:=bC 1 0 (ai s_ (jI Nt eN)) lN λz hA=>show Fm.den (let v1:=(nx);let v0:=(aE v1 (z.i 1%18446744073709551616 * 4294967296%18446744073709551616));(Gc (z.i 1) λy0=>(.an (sq (y0.s 20)) (RB (y0.s 20) λy1=>(let v2:=(Int.ofNat (v0.lor (aE v1 (y1.i 10%18446744073709551616))));(.ax (IntKind.u64.wrap v2/4294967296%4294967296=z.i 1/\IntKind.u64.wrap v2%4294967296=Da (b4 (z.i 1))/\(0:Int)<=IntKind.u64.wrap v2/\IntKind.u64.wrap v2<18446744073709551616))))))) by
 dsimp only [Gb] at hA;have:=xw (b4 (z.i 1));have:=@or64 (z.i 1) (Da (b4 (z.i 1)));have:=@WA (z.i 1) (Da (b4 (z.i 1)));conv=>zeta
 repeat' with_reducible first|intro _|apply ci|apply cm|apply cj|apply cD|apply cA
 all_goals first|omega|grind [ao,ak,aj,sZ]
def ZE:bq 188 ZD:=bC 1 0 (ai s_ eN) lN λz hA=>show Fm.den (let v0:=(z.i 1/4294967296%4294967296);(.ct (0<=z.i 1/4294967296%4294967296) (λy0=>y0.s 20=b4 v0) λy0=>(.ct (0<=z.i 1%4294967296) (λy1=>y1.s 20=b4 (z.i 1%4294967296)) λy1=>(.an (sq (y1.s 20)) (.an (CQ (y0.s 20) (y1.s 20)) (.an (CR (y0.s 20++y1.s 20) (y0.s 20) (y1.s 20)) (.at (y0.s 20++y1.s 20=b4 v0++b4 (z.i 1%4294967296))))))))) by
 dsimp only [ZD,ZA] at hA;conv=>zeta
 repeat' with_reducible first|intro _|apply ci|apply cm|apply cj|apply cD|apply cA
 all_goals first|omega|grind [ao,ak,aj,sZ]
noncomputable section
def WC(h:G)(i n:Int)(p:List G)(r:G):Prop:=(0<=i/\i<n)/\n<=1099511627776/\(ms h i n p).2/\(ms h i n p).1=r
def Gd(h:G)(i n:Int)(p:List G)(r:G):WC h i n p r↔(0<=i/\i<n)/\n<=1099511627776/\(ms h i n p).2/\(ms h i n p).1=r:=Iff.rfl
attribute [irreducible] WC
end
noncomputable section
open Classical in
def ck(m:Int)(l:List G)(b:Prop):List G:=
 if m=l.length then(if b then [] else [.node [aF l]])
 else if h:2<=l.length then
  if m<=(aL l.length:Nat) then ck m (l.take (aL l.length)) b++ [.node [aF (l.drop (aL l.length))]]
  else ck (m-(aL l.length:Nat)) (l.drop (aL l.length)) False++ [.node [aF (l.take (aL l.length))]]
 else []
termination_by l.length
decreasing_by
 ·rw[aax];have:=dv h;omega
 ·rw[aaA];have:=dH l.length;omega
def gw{m:Int}{l:List G}{b:Prop}(h:m=l.length):(b->ck m l b= [])/\(¬b->ck m l b= [.node [aF l]]):=⟨λhb=>by rw[ck,if_pos h,if_pos hb],λhb=>by rw[ck,if_pos h,if_neg hb]⟩
def xx{m:Int}{l:List G}{b:Prop}(h:2<=l.length)(hm:¬m=l.length)(hi:m<=(aL l.length:Nat)):ck m l b=ck m (l.take (aL l.length)) b++ [.node [aF (l.drop (aL l.length))]]:=by rw[ck,if_neg hm,dif_pos h,if_pos hi]
def xy{m:Int}{l:List G}{b c:Prop}(h:2<=l.length)(hm:¬m=l.length)(hi:¬m<=(aL l.length:Nat))(hc:¬c):ck m l b=ck (m-(aL l.length:Nat)) (l.drop (aL l.length)) c++ [.node [aF (l.take (aL l.length))]]:=by rw[ck,if_neg hm,dif_pos h,if_neg hi,show c=False from propext ⟨hc,False.elim⟩]
def ZF{m:Int}{l:List G}{k:Int}{b c:Prop}(hc:¬c)(h:2<=l.length)(hm:¬m=l.length)(hk:k=(aL ((l.length:Int)).toNat:Nat)):(m<=k->ck m l b=ck m (List.drop (0:Int).toNat (List.take k.toNat l)) b++ [.node [aF (List.drop k.toNat (List.take (l.length:Int).toNat l))]])/\(¬m<=k->ck m l b=ck (m-k) (List.drop k.toNat (List.take (l.length:Int).toNat l)) c++ [.node [aF (List.drop (0:Int).toNat (List.take k.toNat l))]]):=by subst hk;rw[kK,drop_zero,aaE,aaE];exact⟨λhi=>xx h hm hi,λhi=>xy h hm hi hc⟩
def ZG(k:Nat):FSpec:=⟨[.c (.i .i64 3),.c (.v 6 1),.c (.b 5)],[],λz=>(z.g 1).length<k/\(z.g 1).length<=1000000/\RowsOk (z.g 1)/\1<=z.i 3/\z.i 3<=(z.g 1).length,λ_=>.one (.c (.g 0 32 30)),λ_=>[.grow 6 36 30],λz y=>y.g 30=ck (z.i 3) (z.g 1) (z.p 5)/\(y.g 30).length<=(z.g 1).length,none⟩
end
abbrev nT:=false=true
def Nv:∀k,bq 61 (ZG k)
 |0=>LB λz h=>Nat.not_lt_zero _ h.1
 |k+1=>bC 8 8453 (ai xp (ai (Nv k) (ai (iV 1000001) eN))) lN λz hA=>show Fm.den (let v1:=(↑(z.g 1).length:Int);let v0:=(im v1 (z.g 1));let v2:=(kF);(.two (z.i 3= ↑(z.g 1).length) (.two (z.p 5) (.an (lM) (.at ([]=ck (z.i 3) (z.g 1) (z.p 5)/\0<=(z.g 1).length))) (AU (z.g 1) λy0=>(.an (1=1) (.an (1=1/\True) (.at ([G.node [hT y0 300]]=ck (z.i 3) (z.g 1) (z.p 5)/\1<=(z.g 1).length)))))) (Nf v1 (aL v1.toNat) λy1=>(let v3:=(List.drop v2 (im (y1.i 10) (z.g 1)));let v4:=(List.drop (y1.i 10).toNat v0);let v5:=(C9 (y1.i 10) (z.g 1));let v6:=(0<=y1.i 10/\y1.i 10<= ↑(z.g 1).length/\v1<=v1);(.two (z.i 3<=y1.i 10) (.an v5 (.ct (v3.length<k/\v3.length<=1000000/\RowsOk v3/\1<=z.i 3/\z.i 3<= ↑v3.length) (λy2=>y2.g 30=ck (z.i 3) v3 (z.p 5)/\(y2.g 30).length<=v3.length) λy2=>(.an v6 (AU v4 λy3=>(let v7:=(y2.g 30++ [G.node [hT y3 300]]);(.an (lq (y2.g 30)) (.an (AW v7 (y2.g 30)) (.at (y2.g 30++ [G.node [hT y3 300]]=ck (z.i 3) (z.g 1) (z.p 5)/\v7.length<=(z.g 1).length))))))))) (.an ((-9223372036854775808)<=z.i 3-y1.i 10/\z.i 3-y1.i 10<=9223372036854775807) (.an v6 (.ct (v4.length<k/\v4.length<=1000000/\RowsOk v4/\1<=z.i 3-y1.i 10/\z.i 3-y1.i 10<=(↑v4.length:Int)) (λy4=>y4.g 30=ck (z.i 3-y1.i 10) v4 (nT)/\(y4.g 30).length<=v4.length) λy4=>(.an v5 (AU v3 λy5=>(let v8:=(y4.g 30++ [G.node [hT y5 300]]);(.an (lq (y4.g 30)) (.an (AW v8 (y4.g 30)) (.at (y4.g 30++ [G.node [hT y5 300]]=ck (z.i 3) (z.g 1) (z.p 5)/\v8.length<=(z.g 1).length))))))))))))))) by dsimp only [ZG] at hA;have:=@C8 (z.g 1);have:=@cut_len (z.g 1);have:=@pc (z.g 1);have:=Wr z;have:=λk h hm hk=>@ZF (z.i 3) (z.g 1) k (z.p 5) (false=true) (λe=>by cases e) h hm hk;have:=@gw (z.i 3) (z.g 1) (z.p 5);have:=@bx (z.g 1);exact ft
noncomputable section
def A6(p:List G):G:=hX (aa (aq p (p.length-1)) 0)
structure Bt where
 a:G
 b:G
 p:Prop
open Classical in
def aR(m n:Int)(c:Prop)(p:List G)(o:G):Bt:=
 if m=n then(if c then⟨o,o,p.length=0⟩ else if p.length=1 then⟨hX (aa (aq p 0) 0),hX (aa (aq p 0) 0),True⟩ else⟨hZ,hZ,False⟩)
 else if h:2<=n then
  if p.length=0 then⟨hZ,hZ,False⟩
  else if m<=(aL n.toNat:Nat) then⟨(aR m (aL n.toNat:Nat) c p.dropLast o).a,aO (aR m (aL n.toNat:Nat) c p.dropLast o).b (A6 p),(aR m (aL n.toNat:Nat) c p.dropLast o).p⟩
  else⟨aO (A6 p) (aR (m-(aL n.toNat:Nat)) (n-(aL n.toNat:Nat)) False p.dropLast o).a,aO (A6 p) (aR (m-(aL n.toNat:Nat)) (n-(aL n.toNat:Nat)) False p.dropLast o).b,(aR (m-(aL n.toNat:Nat)) (n-(aL n.toNat:Nat)) False p.dropLast o).p⟩
 else⟨hZ,hZ,False⟩
termination_by n.toNat
decreasing_by all_goals (have:=ij h;omega)
variable{m n k:Int}{c d:Prop}{p:List G}{o:G}
def pe(h:m=n)(hc:c):aR m n c p o=⟨o,o,p.length=0⟩:=by rw[aR,if_pos h,if_pos hc]
def pf(h:m=n)(hc:¬c)(h1:p.length=1):aR m n c p o=⟨hX (aa (aq p 0) 0),hX (aa (aq p 0) 0),True⟩:=by rw[aR,if_pos h,if_neg hc,if_pos h1]
def IY(h:m=n)(hc:¬c)(h1:¬p.length=1):aR m n c p o=⟨hZ,hZ,False⟩:=by rw[aR,if_pos h,if_neg hc,if_neg h1]
def IZ(h:¬m=n)(h1:p.length=0):aR m n c p o=⟨hZ,hZ,False⟩:=by
 rw[aR,if_neg h];by_cases h2:2<=n
 ·rw[dif_pos h2,if_pos h1]
 ·rw[dif_neg h2]
def Dc(hd:¬d)(h:¬m=n)(hn:2<=n)(hp:¬(p.length:Int)=0)(hk:k=(aL n.toNat:Nat)):
 (m<=k->aR m n c p o=⟨(aR m k c (List.drop (0:Int).toNat (List.take ((p.length:Int)-1).toNat p)) o).a,aO (aR m k c (List.drop (0:Int).toNat (List.take ((p.length:Int)-1).toNat p)) o).b (hX (aa (aq p ((p.length:Int)-1).toNat) 0)),(aR m k c (List.drop (0:Int).toNat (List.take ((p.length:Int)-1).toNat p)) o).p⟩)/\
 (¬m<=k->aR m n c p o=⟨aO (hX (aa (aq p ((p.length:Int)-1).toNat) 0)) (aR (m-k) (n-k) d (List.drop (0:Int).toNat (List.take ((p.length:Int)-1).toNat p)) o).a,aO (hX (aa (aq p ((p.length:Int)-1).toNat) 0)) (aR (m-k) (n-k) d (List.drop (0:Int).toNat (List.take ((p.length:Int)-1).toNat p)) o).b,(aR (m-k) (n-k) d (List.drop (0:Int).toNat (List.take ((p.length:Int)-1).toNat p)) o).p⟩):=by
 subst hk
 rw[FZ (by omega),show((p.length:Int)-1).toNat=p.length-1 by omega,show d=False from propext ⟨hd,False.elim⟩]
 refine⟨λhi=>?_,λhi=>?_⟩
 ·conv=>lhs;rw[aR,if_neg h,dif_pos hn,if_neg (by omega),if_pos hi]
  rfl
 ·conv=>lhs;rw[aR,if_neg h,dif_pos hn,if_neg (by omega),if_neg hi]
  rfl
def I1(m n:Int)(p:List G)(o r:G):Prop:=(1<=m/\m<=n)/\n<=1099511627776/\(aR m n True p o).p/\(aR m n True p o).a=o/\(aR m n True p o).b=r
def Ge(t:Prop)(ht:t)(m n:Int)(p:List G)(o r:G):I1 m n p o r↔(1<=m/\m<=n)/\n<=1099511627776/\(aR m n t p o).p/\(aR m n t p o).a=o/\(aR m n t p o).b=r:=by rw[show t=True from propext ⟨λ_=>trivial,λ_=>ht⟩];exact Iff.rfl
abbrev I3(m n N:Int):Prop:=(1<=m/\m<=n)/\n<=N
attribute [irreducible] I1
end
noncomputable section
structure Tk where
 a:G
 b:G
 r:List G
 ok:Prop
open Classical in
def nH(r:List G):G:=if r.length=0 then hZ else hX (aa (aq r 0) 0)
def Nw{r:List G}(h:r.length=0):nH r=hZ:=if_pos h
def A7{r:List G}(h:¬r.length=0):nH r=hX (aa (aq r 0) 0):=if_neg h
theorem ZH{r:List G}(h:RowsOk r):HOk (nH r):=by
 by_cases h0:r.length=0
 ·rw[Nw h0];exact fG
 ·rw[A7 h0];exact h.at (i:=0) (by omega) (by omega)
open Classical in
def cV(m n:Int)(c:Prop)(r:List G)(ok:Prop)(o:G):Tk:=
 if m=n then(if c then⟨o,o,r,ok⟩ else⟨nH r,nH r,r.drop 1,ok/\¬r.length=0⟩)
 else if h:2<=n then
  if m<=(aL n.toNat:Nat) then⟨(cV m (aL n.toNat:Nat) c r ok o).a,aO (cV m (aL n.toNat:Nat) c r ok o).b (nH (cV m (aL n.toNat:Nat) c r ok o).r),(cV m (aL n.toNat:Nat) c r ok o).r.drop 1,(cV m (aL n.toNat:Nat) c r ok o).ok/\¬(cV m (aL n.toNat:Nat) c r ok o).r.length=0⟩
  else⟨aO (nH (cV (m-(aL n.toNat:Nat)) (n-(aL n.toNat:Nat)) False r ok o).r) (cV (m-(aL n.toNat:Nat)) (n-(aL n.toNat:Nat)) False r ok o).a,aO (nH (cV (m-(aL n.toNat:Nat)) (n-(aL n.toNat:Nat)) False r ok o).r) (cV (m-(aL n.toNat:Nat)) (n-(aL n.toNat:Nat)) False r ok o).b,(cV (m-(aL n.toNat:Nat)) (n-(aL n.toNat:Nat)) False r ok o).r.drop 1,(cV (m-(aL n.toNat:Nat)) (n-(aL n.toNat:Nat)) False r ok o).ok/\¬(cV (m-(aL n.toNat:Nat)) (n-(aL n.toNat:Nat)) False r ok o).r.length=0⟩
 else⟨hZ,hZ,r,False⟩
termination_by n.toNat
decreasing_by all_goals (have:=ij h;omega)
variable{m n k:Int}{c d ok:Prop}{r:List G}{o:G}
def Gf(h:m=n)(hc:c):cV m n c r ok o=⟨o,o,r,ok⟩:=by rw[cV,if_pos h,if_pos hc]
def Gg(h:m=n)(hc:¬c):cV m n c r ok o=⟨nH r,nH r,r.drop 1,ok/\¬r.length=0⟩:=by rw[cV,if_pos h,if_neg hc]
def Gh(hd:¬d)(h:¬m=n)(hn:2<=n)(hk:k=(aL n.toNat:Nat)):
 (m<=k->cV m n c r ok o=⟨(cV m k c r ok o).a,aO (cV m k c r ok o).b (nH (cV m k c r ok o).r),(cV m k c r ok o).r.drop 1,(cV m k c r ok o).ok/\¬(cV m k c r ok o).r.length=0⟩)/\
 (¬m<=k->cV m n c r ok o=⟨aO (nH (cV (m-k) (n-k) d r ok o).r) (cV (m-k) (n-k) d r ok o).a,aO (nH (cV (m-k) (n-k) d r ok o).r) (cV (m-k) (n-k) d r ok o).b,(cV (m-k) (n-k) d r ok o).r.drop 1,(cV (m-k) (n-k) d r ok o).ok/\¬(cV (m-k) (n-k) d r ok o).r.length=0⟩):=by
 subst hk
 rw[show d=False from propext ⟨hd,False.elim⟩]
 refine⟨λhi=>?_,λhi=>?_⟩
 ·conv=>lhs;rw[cV,if_neg h,dif_pos hn,if_pos hi]
 ·conv=>lhs;rw[cV,if_neg h,dif_pos hn,if_neg hi]
def I4:List BSh:=[.cells 155 [.v 6 1,.b 5]]
def ZI(l:List G):List.drop (1:Int).toNat (List.take (l.length:Int).toNat l)=l.drop 1:=by rw[kK];rfl
def Nx:FSpec:=⟨[.c (.p 0)],I4,λz=>(z.g 1).length<=1000000/\RowsOk (z.g 1),λ_=>.one (.ag (hs 300)),λ_=>I4,λz y=>y.g 1=(z.g 1).drop 1/\(y.p 5↔z.p 5/\¬(z.g 1).length=0)/\hT y 300=nH (z.g 1),none⟩
def Ny(k:Nat):FSpec:=⟨[.c (.p 0),.c (.i .i64 3),.c (.i .i64 4),.c (.b 8),.ag (hs 100)],I4,λz=>HOk (hT z 100)/\(1<=z.i 3/\z.i 3<=z.i 4)/\z.i 4<k/\z.i 4<=1099511627776/\(z.g 1).length<=1000000/\RowsOk (z.g 1),λ_=>.tu [.ag (hs 300),.ag (hs 400)],λ_=>I4,λz y=>(HOk (hT y 300)/\HOk (hT y 400)/\RowsOk (y.g 1)/\(y.g 1).length<=(z.g 1).length)/\hT y 300=(cV (z.i 3) (z.i 4) (z.p 8) (z.g 1) (z.p 5) (hT z 100)).a/\hT y 400=(cV (z.i 3) (z.i 4) (z.p 8) (z.g 1) (z.p 5) (hT z 100)).b/\y.g 1=(cV (z.i 3) (z.i 4) (z.p 8) (z.g 1) (z.p 5) (hT z 100)).r/\(y.p 5↔(cV (z.i 3) (z.i 4) (z.p 8) (z.g 1) (z.p 5) (hT z 100)).ok),none⟩
theorem Dd{l:List G}(h:RowsOk l):RowsOk (l.drop 1):=h.drop 1
def A8(m n:Int)(p:List G)(o r:G):Prop:=(1<=m/\m<=n)/\n<=1099511627776/\(cV m n True p True o).ok/\(cV m n True p True o).r.length=0/\(cV m n True p True o).a=o/\(cV m n True p True o).b=r
def Gi(t:Prop)(ht:t)(m n:Int)(p:List G)(o r:G):A8 m n p o r↔(1<=m/\m<=n)/\n<=1099511627776/\(cV m n t p t o).ok/\(cV m n t p t o).r.length=0/\(cV m n t p t o).a=o/\(cV m n t p t o).b=r:=by rw[show t=True from propext ⟨λ_=>trivial,λ_=>ht⟩];exact Iff.rfl
def vE:FSpec:=⟨[.c (.i .i64 3),.c (.i .i64 4),.ag [.v 6 1],.ag (hs 100),.ag (hs 200)],[],λz=>HOk (hT z 100)/\HOk (hT z 200)/\(z.g 1).length<=1000000/\RowsOk (z.g 1),λ_=>.one (.c (.b 50)),λ_=>[],λz y=>y.p 50↔A8 (z.i 3) (z.i 4) (z.g 1) (hT z 100) (hT z 200),none⟩
def I5{l:List G}(h:l.length=0):l.drop 1=l:=by rw[List.length_eq_zero_iff.1 h];rfl
attribute [irreducible] nH A8
end
def RC:bq 136 Nx:=bC 3 1 eN lN λz hA=>show Fm.den (let v0:=(↑(z.g 1).length:Int);(.two (v0=0) (.ax (z.g 1=List.drop 1 (z.g 1)/\(false=true↔z.p 5/\¬(z.g 1).length=0)/\hZ=nH (z.g 1))) (.an ((0:Int)<=0/\0<v0) (.an ((0:Int)<=1/\1<=v0/\v0<=v0) (.ax (List.drop (Int.toNat 1) (im v0 (z.g 1))=List.drop 1 (z.g 1)/\(z.p 5↔z.p 5/\¬(z.g 1).length=0)/\hX (aT (aq (z.g 1) (kF)))=nH (z.g 1))))))) by dsimp only [Nx,I4,hs] at hA;have:=@Nw (z.g 1);have:=@A7 (z.g 1);have:=ZI (z.g 1);have:=@I5 (z.g 1);exact ft
abbrev WD(a:List G)(b:Prop):=Fm.ct (a.length<=1000000/\RowsOk a) (λy=>y.g 1=List.drop 1 a/\(y.p 5↔b/\¬a.length=0)/\hT y 300=nH a)
abbrev Nz(a b:G)(c d:List G):=HOk a/\HOk b/\RowsOk c/\c.length<=d.length
def A9:∀k,bq 64 (Ny k)
 |0=>LB λz h=>by have a:1<=z.i 3/\z.i 3<=z.i 4:=h.2.1;have b:z.i 4<((0:Nat):Int):=h.2.2.1;omega
 |k+1=>bC 9 41221 (ai RC (ai Nd (ai (A9 k) (ai qr eN)))) lN λz hA=>show Fm.den (let v1:=(hT z 100);let v0:=(cV (z.i 3) (z.i 4) (z.p 8) (z.g 1) (z.p 5) v1);let v2:=(nT);(.two (z.i 3=z.i 4) (.two (¬z.p 8) (WD (z.g 1) (z.p 5) λy0=>(.ax ((HOk (hT y0 300)/\HOk (hT y0 300)/\RowsOk (y0.g 1)/\(y0.g 1).length<=(z.g 1).length)/\hT y0 300=v0.a/\hT y0 300=v0.b/\y0.g 1=v0.r/\(y0.p 5↔v0.ok)))) (.ax ((HOk v1/\HOk v1/\RowsOk (z.g 1)/\(z.g 1).length<=(z.g 1).length)/\hT z 100=v0.a/\hT z 100=v0.b/\z.g 1=v0.r/\(z.p 5↔v0.ok)))) (Nf (z.i 4) (aL (z.i 4).toNat) λy1=>(let v3:=(cV (z.i 3-y1.i 10) (z.i 4-y1.i 10) v2 (z.g 1) (z.p 5) v1);let v4:=(cV (z.i 3) (y1.i 10) (z.p 8) (z.g 1) (z.p 5) v1);(.two (z.i 3<=y1.i 10) (.ct (HOk v1/\(1<=z.i 3/\z.i 3<=y1.i 10)/\y1.i 10 < ↑k/\y1.i 10<=1099511627776/\(z.g 1).length<=1000000/\RowsOk (z.g 1)) (λy2=>(Nz (hT y2 300) (hT y2 400) (y2.g 1) (z.g 1))/\hT y2 300=v4.a/\hT y2 400=v4.b/\y2.g 1=v4.r/\(y2.p 5↔v4.ok)) λy2=>(WD (y2.g 1) (y2.p 5) λy3=>(tX (hT y2 400) (hT y3 300) λy4=>(.ax ((Nz (hT y2 300) (hT y4 300) (y3.g 1) (z.g 1))/\hT y2 300=v0.a/\hT y4 300=v0.b/\y3.g 1=v0.r/\(y3.p 5↔v0.ok)))))) (.an ((-9223372036854775808)<=z.i 3-y1.i 10/\z.i 3-y1.i 10<=9223372036854775807) (.an ((-9223372036854775808)<=z.i 4-y1.i 10/\z.i 4-y1.i 10<=9223372036854775807) (.ct (HOk v1/\(1<=z.i 3-y1.i 10/\z.i 3-y1.i 10<=z.i 4-y1.i 10)/\z.i 4-y1.i 10 < ↑k/\z.i 4-y1.i 10<=1099511627776/\(z.g 1).length<=1000000/\RowsOk (z.g 1)) (λy5=>(Nz (hT y5 300) (hT y5 400) (y5.g 1) (z.g 1))/\hT y5 300=v3.a/\hT y5 400=v3.b/\y5.g 1=v3.r/\(y5.p 5↔v3.ok)) λy5=>(WD (y5.g 1) (y5.p 5) λy6=>(let v5:=(hT y6 300);(tX v5 (hT y5 300) λy7=>(tX v5 (hT y5 400) λy8=>(.ax ((Nz (hT y7 300) (hT y8 300) (y6.g 1) (z.g 1))/\hT y7 300=v0.a/\hT y8 300=v0.b/\y6.g 1=v0.r/\(y6.p 5↔v0.ok))))))))))))))) by
  dsimp only [Ny,hs,I4] at hA;have:=@Gf (z.i 3) (z.i 4) (z.p 8) (z.p 5) (z.g 1) (hT z 100);have:=@Gg (z.i 3) (z.i 4) (z.p 8) (z.p 5) (z.g 1) (hT z 100);have:=λk h hn hk=>@Gh (z.i 3) (z.i 4) k (z.p 8) (false=true) (z.p 5) (z.g 1) (hT z 100) (λe=>by cases e) h hn hk;have:=@ij (z.i 4);conv=>zeta
  repeat' with_reducible first|intro _|apply ci|apply cm|apply cj|apply cD|apply cA
  all_goals first|omega|grind [ao,ak,aj,aX,aY,aZ,a_,ba,bc,be,bf,bh,aB,cy,ZH,Dd,List.length_drop]
def De:bq 26 vE:=bC 13 86289 (ai (A9 1099511627777) eN) lN λz hA=>show Fm.den (let v0:=(false=true↔A8 (z.i 3) (z.i 4) (z.g 1) (hT z 100) (hT z 200));let v1:=(cV (z.i 3) (z.i 4) (sU) (z.g 1) (sU) (hT z 100));(.two (z.i 3<1) (.ax v0) (.two (z.i 4<z.i 3) (.ax v0) (.two (1099511627776<z.i 4) (.ax v0) (.ct (HOk (hT z 100)/\(1<=z.i 3/\z.i 3<=z.i 4)/\z.i 4<1099511627777/\z.i 4<=1099511627776/\(z.g 1).length<=1000000/\RowsOk (z.g 1)) (λy0=>(Nz (hT y0 300) (hT y0 400) (y0.g 1) (z.g 1))/\hT y0 300=v1.a/\hT y0 400=v1.b/\y0.g 1=v1.r/\(y0.p 5↔v1.ok)) λy0=>(.two (y0.p 5) (.two ((↑(y0.g 1).length:Int)=0) (.two (lQ (hT y0 300) (hT z 100)) (.ax (lQ (hT y0 400) (hT z 200)↔A8 (z.i 3) (z.i 4) (z.g 1) (hT z 100) (hT z 200))) (.ax v0)) (.ax v0)) (.ax v0))))))) by dsimp only [vE,hs] at hA;have:=@Gi (true=true) rfl (z.i 3) (z.i 4) (z.g 1) (hT z 100) (hT z 200);exact ft
noncomputable section
open Classical in
def need(m n:Int)(c:Prop):Nat:=
 if m=n then(if c then 0 else 1)
 else if h:2<=n then
  if m<=(aL n.toNat:Nat) then need m (aL n.toNat:Nat) c+1 else need (m-(aL n.toNat:Nat)) (n-(aL n.toNat:Nat)) False+1
 else 0
termination_by n.toNat
decreasing_by all_goals (have:=ij h;omega)
def Gj{r:List G}{N:Nat}:aq (r.drop N) 0=aq r N:=by unfold aq;rw[aas,aas,aaH,aaG]
def xz{r:List G}{N:Nat}:aq (r.take (N+1)) N=aq r N:=by unfold aq;rw[aas,aas,aaF (by omega)]
def lR{r:List G}{N:Nat}(h:N+1<=r.length):(r.take (N+1)).dropLast=r.take N:=by rw[List.dropLast_eq_take,aax,abv];congr 1;omega
def RD:∀(K:Nat) (m n:Int) (c:Prop) (p:List G) (o:G),n.toNat<=K->1<=m->m<=n->((aR m n c p o).p↔p.length=need m n c):=by
 intro K
 induction K with
 |zero=>intro m n c p o hK h1 h2;omega
 |succ K ih=>
  intro m n c p o hK h1 h2;by_cases hm:m=n
  ·by_cases hc:c
   ·rw[pe hm hc,need,if_pos hm,if_pos hc]
   ·rw[need,if_pos hm,if_neg hc];by_cases hp:p.length=1
    ·rw[pf hm hc hp];exact⟨λ_=>hp,λ_=>trivial⟩
    ·rw[IY hm hc hp];exact⟨False.elim,hp⟩
  ·have hn:2<=n:=by omega
   obtain⟨k1,k2,k3⟩:=ij hn;rw[need,if_neg hm,dif_pos hn];by_cases hp:p.length=0
   ·rw[IZ hm hp];refine⟨False.elim,λh=>?_⟩;split at h <;> omega
   ·obtain⟨b1,b2⟩:=Dc (m:=m) (n:=n) (c:=c) (d:=False) (p:=p) (o:=o) id hm hn (by omega) rfl;rw[FZ (by omega)] at b1 b2;have hl:p.dropLast.length=p.length-1:=List.length_dropLast;by_cases hi:m<=(aL n.toNat:Nat)
    ·rw[b1 hi,if_pos hi];show(aR _ _ _ _ _).p↔_;rw[ih _ _ _ _ _ (by omega) h1 hi,hl];omega
    ·rw[b2 hi,if_neg hi];show(aR _ _ _ _ _).p↔_;rw[ih _ _ _ _ _ (by omega) (by omega) (by omega),hl];omega
def RE:∀(K:Nat) (m n:Int) (c:Prop) (r:List G) (ok:Prop) (o:G),n.toNat<=K->1<=m->m<=n->
 (need m n c<=r.length->(cV m n c r ok o).r=r.drop (need m n c)/\((cV m n c r ok o).ok↔ok)/\(cV m n c r ok o).a=(aR m n c (r.take (need m n c)) o).a/\(cV m n c r ok o).b=(aR m n c (r.take (need m n c)) o).b)/\
 (r.length<need m n c->¬(cV m n c r ok o).ok):=by
 intro K
 induction K with
 |zero=>intro m n c r ok o hK h1 h2;omega
 |succ K ih=>
  intro m n c r ok o hK h1 h2
  by_cases hm:m=n
  ·by_cases hc:c
   ·have e:need m n c=0:=by rw[need,if_pos hm,if_pos hc]
    rw[e,Gf hm hc,pe hm hc];exact⟨λ_=>⟨rfl,Iff.rfl,rfl,rfl⟩,λh=>by omega⟩
   ·have e:need m n c=1:=by rw[need,if_pos hm,if_neg hc]
    rw[e,Gg hm hc];refine⟨λh=>?_,λh hk=>hk.2 (by omega)⟩;have e1:(r.take 1).length=1:=by rw[aax];omega
    rw[pf hm hc e1,A7 (by omega),xz];exact⟨rfl,⟨λh=>h.1,λh=>⟨h,by omega⟩⟩,rfl,rfl⟩
  ·have hn:2<=n:=by omega
   obtain⟨k1,k2,k3⟩:=ij hn;have key:∀(m' n':Int) (c':Prop),n'.toNat<=K->1<=m'->m'<=n'->need m n c=need m' n' c'+1->
    ((cV m n c r ok o).r=(cV m' n' c' r ok o).r.drop 1/\((cV m n c r ok o).ok↔(cV m' n' c' r ok o).ok/\¬(cV m' n' c' r ok o).r.length=0))->
    ((∀N,need m' n' c'=N->N+1<=r.length->(cV m' n' c' r ok o).r=r.drop N->(cV m' n' c' r ok o).a=(aR m' n' c' (r.take N) o).a->(cV m' n' c' r ok o).b=(aR m' n' c' (r.take N) o).b->(cV m n c r ok o).a=(aR m n c (r.take (N+1)) o).a/\(cV m n c r ok o).b=(aR m n c (r.take (N+1)) o).b))->
    (need m n c<=r.length->(cV m n c r ok o).r=r.drop (need m n c)/\((cV m n c r ok o).ok↔ok)/\(cV m n c r ok o).a=(aR m n c (r.take (need m n c)) o).a/\(cV m n c r ok o).b=(aR m n c (r.take (need m n c)) o).b)/\(r.length<need m n c->¬(cV m n c r ok o).ok):=by
    intro m' n' c' hK' h1' h2' en ⟨er,eo⟩ hab
    obtain⟨i1,i2⟩:=ih m' n' c' r ok o hK' h1' h2'
    rw[en]
    refine⟨λhl=>?_,λhl hk=>?_⟩
    ·obtain⟨j1,j2,j3,j4⟩:=i1 (by omega);refine⟨by rw[er,j1,abe], ?_,hab _ rfl hl j1 j3 j4⟩;rw[eo,j2,j1,aaA];exact⟨λh=>h.1,λh=>⟨h,by omega⟩⟩
    ·have hk:=eo.1 hk;rcases aat r.length (need m' n' c') with h|h
     ·exact i2 h hk.1
     ·obtain⟨j1,_⟩:=i1 h;apply hk.2;rw[j1,aaA];omega
   obtain⟨t1,t2⟩:=Gh (m:=m) (n:=n) (c:=c) (d:=False) (ok:=ok) (r:=r) (o:=o) id hm hn rfl;by_cases hi:m<=(aL n.toNat:Nat)
   ·refine key m (aL n.toNat:Nat) c (by omega) h1 hi (by conv=>lhs;rw[need,if_neg hm,dif_pos hn,if_pos hi]) (by rw[t1 hi];exact⟨rfl,Iff.rfl⟩) λN eN hl hr ha hb=>?_;obtain⟨b1,_⟩:=Dc (m:=m) (n:=n) (c:=c) (d:=False) (p:=r.take (N+1)) (o:=o) id hm hn (by rw[aax];omega) rfl;have b1:=b1 hi;have e1:(r.take (N+1)).length=N+1:=by rw[aax];omega
    rw[FZ (by omega),lR hl,e1,show(((N+1:Nat):Int)-1).toNat=N by omega,xz] at b1;rw[t1 hi,b1];have:nH (cV m (aL n.toNat:Nat) c r ok o).r=hX (aa (aq r N) 0):=by rw[hr,A7 (by rw[aaA];omega),Gj]
    exact⟨ha,by show aO _ _=aO _ _;rw[hb,this]⟩
   ·refine key (m-(aL n.toNat:Nat)) (n-(aL n.toNat:Nat)) False (by omega) (by omega) (by omega) (by conv=>lhs;rw[need,if_neg hm,dif_pos hn,if_neg hi]) (by rw[t2 hi];exact⟨rfl,Iff.rfl⟩) λN eN hl hr ha hb=>?_;obtain⟨_,b1⟩:=Dc (m:=m) (n:=n) (c:=c) (d:=False) (p:=r.take (N+1)) (o:=o) id hm hn (by rw[aax];omega) rfl;have b1:=b1 hi;have e1:(r.take (N+1)).length=N+1:=by rw[aax];omega
    rw[FZ (by omega),lR hl,e1,show(((N+1:Nat):Int)-1).toNat=N by omega,xz] at b1;rw[t2 hi,b1];have:nH (cV (m-(aL n.toNat:Nat)) (n-(aL n.toNat:Nat)) False r ok o).r=hX (aa (aq r N) 0):=by rw[hr,A7 (by rw[aaA];omega),Gj]
    exact⟨by show aO _ _=aO _ _;rw[ha,this],by show aO _ _=aO _ _;rw[hb,this]⟩
def ZJ(m n:Int)(p:List G)(o r:G):A8 m n p o r↔I1 m n p o r:=by
 rw[Gi True trivial,Ge True trivial];refine and_congr_right λhm=>and_congr_right λ_=>?_;obtain⟨t1,t2⟩:=RE _ m n True p True o (aao _) hm.1 hm.2;rw[RD _ m n True p o (aao _) hm.1 hm.2];constructor
 ·rintro⟨h1,h2,h3,h4⟩;have hl:need m n True<=p.length:=by
   rcases aat p.length (need m n True) with h|h
   ·exact absurd h1 (t2 h)
   ·exact h
  obtain⟨j1,_,j3,j4⟩:=t1 hl;rw[j1,aaA] at h2;have e:p.length=need m n True:=by omega
  rw[←e,abg] at j3 j4;exact⟨e,by rw[←j3];exact h3,by rw[←j4];exact h4⟩
 ·rintro⟨e,h3,h4⟩;obtain⟨j1,j2,j3,j4⟩:=t1 (by omega);rw[←e,abg] at j3 j4;refine⟨j2.2 trivial,by rw[j1,aaA];omega,by rw[j3];exact h3,by rw[j4];exact h4⟩
end
noncomputable section
def rtB:List BSh:=[.cells 86 [.v 6 1]]
def ta:FSpec:=⟨[.c (.p 0),.c (.i .i64 7),.c (.i .i64 6)],rtB,λz=>(z.g 1).length<=1000000/\RowsOk (z.g 1),λ_=>.tu [.ag [.v 6 30],.c (.i .i64 50)],λ_=>rtB,λz y=>y.g 1=z.g 1/\(I3 (z.i 7) (z.i 6) ((z.g 1).length:Int)->y.i 50=0/\y.g 30=ck (z.i 7) (List.drop (0:Int).toNat (List.take (z.i 6).toNat (z.g 1))) True)/\(¬I3 (z.i 7) (z.i 6) ((z.g 1).length:Int)->y.i 50=1/\y.g 30= []),none⟩
end
def A_:bq 24 ta:=bC 9 4369 (ai (Nv 1000001) eN) lN λz hA=>show Fm.den (let v1:=(List.drop (kF) (im (z.i 6) (z.g 1)));let v2:=(1<=z.i 7/\z.i 7<=z.i 6);let v0:=(z.g 1=z.g 1/\(v2/\z.i 6<= ↑(z.g 1).length->(1:Int)=0/\ []=ck (z.i 7) v1 True)/\(¬(v2/\z.i 6<= ↑(z.g 1).length)->(1:Int)=1/\IA));(.two (z.i 6<1) (.ax v0) (.two ((↑(z.g 1).length:Int)<z.i 6) (.ax v0) (.two (z.i 7<1) (.ax v0) (.two (z.i 6<z.i 7) (.ax v0) (.an (C9 (z.i 6) (z.g 1)) (.ct (v1.length<1000001/\v1.length<=1000000/\RowsOk v1/\1<=z.i 7/\z.i 7<= ↑v1.length) (λy0=>y0.g 30=ck (z.i 7) v1 (sU)/\(y0.g 30).length<=v1.length) λy0=>(.an (ig (y0.g 30)) (.at (z.g 1=z.g 1/\(v2/\z.i 6<= ↑(z.g 1).length->(0:Int)=0/\y0.g 30=ck (z.i 7) v1 True)/\(¬(v2/\z.i 6<= ↑(z.g 1).length)->(0:Int)=1/\y0.g 30= []))))))))))) by dsimp only [ta,rtB,I3] at hA;have:=@cut_len (z.g 1);have:=@pc (z.g 1);exact ft
noncomputable section
def cM(i n:Int):List Prop:=
 if h:2<=n then
  if i<(aL n.toNat:Nat) then False::cM i (aL n.toNat:Nat)
  else True::cM (i-(aL n.toNat:Nat)) (n-(aL n.toNat:Nat))
 else []
termination_by n.toNat
decreasing_by all_goals (have:=dv (n:=n.toNat) (by omega);have:=dH n.toNat;omega)
def kM{i n:Int}(h:¬2<=n):cM i n= []:=by rw[cM,dif_neg h]
def nU{i n k:Int}(h:2<=n)(hk:k=(aL n.toNat:Nat))(hi:¬k<=i):cM i n=False::cM i k:=by subst hk;rw[cM,dif_pos h,if_pos (by omega)]
def nV{i n k:Int}(h:2<=n)(hk:k=(aL n.toNat:Nat))(hi:k<=i):cM i n=True::cM (i-k) (n-k):=by subst hk;rw[cM,dif_pos h,if_neg (by omega)]
def NA:∀(j:Nat) (i n:Int),n<=(2 ^ j:Nat)->(cM i n).length<=j:=by
 intro j
 induction j with
 |zero=>intro i n h;rw[kM (by have:n<=1:=h;omega)];exact aao _
 |succ j ih=>
  intro i n h;by_cases h2:2<=n
  ·have a1:=dv (n:=n.toNat) (by omega);have a2:=xl (n:=n.toNat) (by omega);have a3:aL n.toNat<=2 ^ j:=by unfold aL;refine abK (by decide) (Nat.lt_succ_iff.1 ((Nat.log2_lt (by omega)).2 ?_));omega
   by_cases hi:((aL n.toNat:Nat):Int)<=i
   ·rw[nV h2 rfl hi];have:=ih (i-(aL n.toNat:Nat)) (n-(aL n.toNat:Nat)) (by omega);simp only [aaI];omega
   ·rw[nU h2 rfl hi];have:=ih i (aL n.toNat:Nat) (by omega);simp only [aaI];omega
  ·rw[kM h2];exact aaD _
def j2(s:Prop)(h x:G):G:=@ite _ s (Classical.propDecidable _) (aO x h) (aO h x)
def jB(s:Prop)(h x:G):List Nat:=@ite _ s (Classical.propDecidable _) (1::(hB x++hB h)) (1::(hB h++hB x))
def RF(h:G):List Prop->List G->G
 |s::ss,r::ps=>RF (j2 s h (hX (aa r 0))) ss ps
 |_,_=>h
def qE(h:G):List Prop->List G->List G
 |s::ss,r::ps=>.node [.str (jB s h (hX (aa r 0))),j2 s h (hX (aa r 0))]::qE (j2 s h (hX (aa r 0))) ss ps
 |_,_=>[]
def td:∀(ss:List Prop) (ps:List G) (h:G) (s:Prop) (r:G),ps.length=ss.length->RF h (ss++ [s]) (ps++ [r])=j2 s (RF h ss ps) (hX (aa r 0))
 | [],[],_,_,_,_=>rfl
 |s0::ss,r0::ps,h,s,r,e=>td ss ps (j2 s0 h (hX (aa r0 0))) s r (by simpa using e)
 | [],_::_,_,_,_,e=>by simp at e
 |_::_,[],_,_,_,e=>by simp at e
def NB(m:Nat):∀(h:G) (i n:Int) (p:List G),n.toNat<=m->((ms h i n p).2↔p.length=(cM i n).length)/\(p.length=(cM i n).length->(ms h i n p).1=RF h (cM i n).reverse p):=by
 induction m with
 |zero=>intro h i n p hm;rw[nS (by omega),kM (by omega)];exact⟨Iff.rfl,λe=>by cases p with|nil=>rfl|cons _ _=>cases e⟩
 |succ m ih=>
  intro h i n p hm;by_cases h2:2<=n
  ·have a1:=dv (n:=n.toNat) (by omega);have a2:=dH n.toNat;by_cases hp:p.length=0
   ·rw[FP h2 hp,hp];have:(cM i n).length≠0:=by
     by_cases hi:((aL n.toNat:Nat):Int)<=i
     ·rw[nV h2 rfl hi];simp
     ·rw[nU h2 rfl hi];simp
    exact⟨⟨False.elim,λe=>this e.symm⟩,λe=>absurd e.symm this⟩
   ·have i5:p≠ []:=λe=>hp (by rw[e];rfl);have aj5:p=p.dropLast++ [aq p (p.length-1)]:=by
     conv=>lhs;rw[←List.dropLast_concat_getLast i5]
     congr 2;unfold aq;rw[aas,aaw (by omega),List.getLast_eq_getElem];rfl
    have hdl:p.dropLast.length=p.length-1:=List.length_dropLast;by_cases hi:i<(aL n.toNat:Nat)
    ·rw[C2 h2 hp hi,nU h2 rfl (by omega)];obtain⟨q1,q2⟩:=ih h i (aL n.toNat:Nat) p.dropLast (by omega);refine⟨by rw[aaI];exact q1.trans (by omega),λe=>?_⟩;rw[aaI] at e;have e':p.dropLast.length=(cM i (aL n.toNat:Nat)).length:=by omega
     rw[List.reverse_cons];conv=>rhs;rw[aj5]
     rw[td _ _ _ _ _ (by rw[List.length_reverse];exact e'), ←q2 e'];unfold j2;rw[if_neg id]
    ·rw[C3 h2 hp hi,nV h2 rfl (by omega)];obtain⟨q1,q2⟩:=ih h (i-(aL n.toNat:Nat)) (n-(aL n.toNat:Nat)) p.dropLast (by omega);refine⟨by rw[aaI];exact q1.trans (by omega),λe=>?_⟩;rw[aaI] at e;have e':p.dropLast.length=(cM (i-(aL n.toNat:Nat)) (n-(aL n.toNat:Nat))).length:=by omega
     rw[List.reverse_cons];conv=>rhs;rw[aj5]
     rw[td _ _ _ _ _ (by rw[List.length_reverse];exact e'), ←q2 e'];unfold j2;rw[if_pos trivial]
  ·rw[nS h2,kM h2];exact⟨Iff.rfl,λe=>by cases p with|nil=>rfl|cons _ _=>cases e⟩
def Df{n m:Int}(hm:m=(n-1)%18446744073709551616)(h:2<=n)(h1:n<=1099511627776):(0<=dw m-1/\dw m-1<=40)/\((2 ^ min (dw m-1).toNat (bj .i64):Nat):Int)=(aL n.toNat:Nat):=by
 have e:m=n-1:=by omega
 rw[e];exact vB h h1
def qF(l:List G):List Prop:=l.map λr=>gI (aa r 0)=1
def gX(l:List G):(qF l).length=l.length:=aaZ ..
def xA(l:List G)(q:Prop):qF (l++ [.node [.int (pI q)]])=qF l++ [q]:=by unfold qF;rw[List.map_append];congr 1;show [pI q=1]= [q];congr 1;unfold pI;exact propext ⟨λh=>Classical.byContradiction λhn=>(by rw[if_neg hn] at h;cases h),λh=>(by rw[if_pos h])⟩
def te(i n:Int)(l r:List G):Prop:=qF r=qF l++cM i n
def RG{i n:Int}{l:List G}(h:¬1<n):te i n l l:=by unfold te;rw[kM (by omega),abp]
def NC{i n k:Int}{l r:List G}{q:Prop}(h:1<n)(hk:k=(aL n.toNat:Nat))(hq:q↔k<=i):(q->te (i-k) (n-k) (l++ [.node [.int (pI q)]]) r->te i n l r)/\(¬q->te i k (l++ [.node [.int (pI q)]]) r->te i n l r):=by
 refine⟨λh1 h2=>?_,λh1 h2=>?_⟩
 ·unfold te at h2⊢;rw[h2,nV (by omega) hk (hq.1 h1),xA,aaK,show q=True from propext ⟨λ_=>trivial,λ_=>h1⟩];rfl
 ·unfold te at h2⊢;rw[h2,nU (by omega) hk (λh=>h1 (hq.2 h)),xA,aaK,show q=False from propext ⟨h1,False.elim⟩];rfl
def pg(i n:Int):Nat:=(cM i n).length
def xB{i n:Int}(h:n<=1099511627776):pg i n<=40:=NA 40 i n h
def ND{i n k:Int}(h:1<n)(hk:k=(aL n.toNat:Nat)):(k<=i->pg i n=pg (i-k) (n-k)+1)/\(¬k<=i->pg i n=pg i k+1):=⟨λhi=>by unfold pg;rw[nV (by omega) hk hi];rfl,λhi=>by unfold pg;rw[nU (by omega) hk hi];rfl⟩
def Gk{i n:Int}{l r:List G}(h:te i n l r):r.length=l.length+pg i n:=by
 have:=congrArg List.length h
 rwa [gX,aav,gX] at this
def Uv{α:Type}(a b:Int)(l:List α):List α:=l.take a.toNat++(((l.drop a.toNat).take (b+1-a).toNat).reverse++l.drop (b+1).toNat)
def RH{α:Type}{a b:Int}{l:List α}(h0:0<=a)(hab:a+b+1=l.length)(h1:a<=b+1)(h:¬a<b):Uv a b l=l:=by
 unfold Uv;have:((l.drop a.toNat).take (b+1-a).toNat).reverse=(l.drop a.toNat).take (b+1-a).toNat:=by
  have hl:((l.drop a.toNat).take (b+1-a).toNat).length<=1:=by rw[aax];omega
  match(l.drop a.toNat).take (b+1-a).toNat,hl with
  | [],_=>rfl
  | [_],_=>rfl
  |_::_::_,hl=>simp at hl
 rw[this];rcases(show b<a∨a<=b by omega) with hb|hb
 ·rw[show(b+1-a).toNat=0 by omega,List.take_zero,abm];rw[show(b+1).toNat=a.toNat by omega,aby]
 ·rw[show(b+1).toNat=a.toNat+(b+1-a).toNat by omega, ←abe,aby,aby]
def RI{α:Type}{l:List α}:Uv 0 ((l.length:Int)-1) l=l.reverse:=by unfold Uv;rw[show(0:Int).toNat=0 by rfl,List.take_zero,aa4,show((l.length:Int)-1+1-0).toNat=l.length by omega,show((l.length:Int)-1+1).toNat=l.length by omega,abg,List.drop_length,abp,abm]
def NE{α:Type}{a b:Int}{l:List α}{x y:α}(h0:0<=a)(hab:a+b+1=l.length)(h:a<b)(hx:l[a.toNat]? =some x)(hy:l[b.toNat]? =some y):Uv (a+1) (b-1) ((l.set a.toNat y).set b.toNat x)=Uv a b l:=by
 obtain⟨i,rfl⟩:∃i:Nat,a=i:=⟨a.toNat,by omega⟩
 obtain⟨k,rfl⟩:∃k:Nat,b=i+1+k:=⟨(b-i-1).toNat,by omega⟩
 unfold Uv;simp only [aaE,show((i:Int)+1+k).toNat=i+1+k by omega,show((i:Int)+1).toNat=i+1 by omega,show((i:Int)+1+k-1+1-(i+1)).toNat=k by omega,show((i:Int)+1+k-1+1).toNat=i+1+k by omega,show((i:Int)+1+k+1-i).toNat=k+2 by omega,show((i:Int)+1+k+1).toNat=i+k+2 by omega] at hx hy⊢;have hi:i<l.length:=by omega
 have hk:i+1+k<l.length:=by omega
 rw[aaw hi] at hx;rw[aaw hk] at hy;injection hx with hx;injection hy with hy;subst hx;subst hy;refine List.ext_getElem (by simp;omega) λj h1 h2=>?_;simp only [List.getElem_append,List.getElem_take,List.getElem_drop,List.getElem_reverse,List.getElem_set,aax,aaA,List.length_reverse,aba,aav] at h1 h2⊢;split <;> split <;> (try split) <;> (try split) <;> (try split) <;> (try split) <;> first|rfl|omega|(congr 1;omega)
def Gl(l:List G)(i:Nat)(q:Prop):qF (l.set i (.node [.int (pI q)]))=(qF l).set i q:=by have:=xA [] q;simp only [abm] at this;unfold qF at this⊢;rw[List.map_set];congr 1;exact List.head_eq_of_cons_eq this
def NF{l:List G}{i:Nat}(h:i<l.length):(qF l)[i]? =some (gI (aa (aq l i) 0)=1):=by unfold qF aq;rw[aaW,aas,aaw h];rfl
def NG(a b:Int)(l r:List G):Prop:=qF r=Uv a b (qF l)/\r.length=l.length
def RJ{a b:Int}{l:List G}(h0:0<=a)(hab:a+b+1=l.length)(h1:a<=b+1)(h:¬a<b):NG a b l l:=⟨(RH h0 (by rw[gX];exact hab) h1 h).symm,rfl⟩
def NH{a b:Int}{l r:List G}(h0:0<=a)(hab:a+b+1=l.length)(h:a<b)(hr:NG (a+1) (b-1) ((l.set a.toNat (.node [.int (pI (gI (aa (aq l b.toNat) 0)=1))])).set b.toNat (.node [.int (pI (gI (aa (aq l a.toNat) 0)=1))])) r):NG a b l r:=by obtain⟨h1,h2⟩:=hr;refine⟨?_,by rw[h2,aba,aba]⟩;rw[h1,Gl,Gl];exact NE h0 (by rw[gX];exact hab) h (NF (by omega)) (NF (by omega))
def RK{i n:Int}{l r:List G}(hs:te i n [] l)(h:NG 0 ((l.length:Int)-1) l r):qF r=(cM i n).reverse/\r.length=pg i n:=by
 have hl:=Gk hs;obtain⟨h1,h2⟩:=h;refine⟨?_,by rw[h2,hl];simp⟩;have e:(l.length:Int)=(qF l).length:=by rw[gX]
 rw[h1,e,RI];unfold te at hs;rw[hs];rfl
attribute [irreducible] te pg NG
def Stwo:FSpec:=⟨[.ag (hs 100),.ag (hs 200)],[],λz=>HOk (hT z 100)/\HOk (hT z 200),λ_=>.one (.ag ([.vb 10]++hs 300)),λ_=>[],λz y=>y.s 10=1::(hB (hT z 100)++hB (hT z 200))/\hT y 300=aO (hT z 100) (hT z 200),none⟩
def Yc:List BSh:=[.grow 4 4 20]
def Ba(p:Sy):LSpec:=⟨[(0,.c (.i .i64 1)),(1,.c (.i .i64 2)),(5,.c (.g 0 1 20))],Yc,λz=>(0<=z.i 1/\z.i 1<z.i 2)/\z.i 2<=1099511627776/\(z.g 20).length+pg (z.i 1) (z.i 2)<=1000,λz=>(z.i 2).toNat,[⟨.exit 0,[(5,.c (.g 0 1 20))],Yc⟩],λz y=>te (z.i 1) (z.i 2) (z.g 20) (y.g 20),none,[]⟩
def Bb(p:Sy):LSpec:=⟨[(5,.c (.g 0 1 20)),(8,.c (.i .i64 1)),(9,.c (.i .i64 2))],Yc,λz=>(0<=z.i 1/\z.i 1<=z.i 2+1)/\z.i 1+z.i 2+1=(z.g 20).length/\(z.g 20).length<=1000,λz=>(z.i 2-z.i 1).toNat,[⟨.exit 2,[(5,.c (.g 0 1 20))],Yc⟩],λz y=>NG (z.i 1) (z.i 2) (z.g 20) (y.g 20),none,[]⟩
def NI:FSpec:=⟨[.c (.i .i64 1),.c (.i .i64 2)],[],λz=>(0<=z.i 1/\z.i 1<z.i 2)/\z.i 2<=1099511627776,λ_=>.one (.c (.v 4 10)),λ_=>[],λz y=>qF (y.g 10)=(cM (z.i 1) (z.i 2)).reverse/\(y.g 10).length=pg (z.i 1) (z.i 2),none⟩
def xC(i:Int)(h:G)(S p l r:List G):Prop:=r=l++qE h ((qF S).drop i.toNat) (p.drop i.toNat)
def RL{i:Int}{h:G}{S p l:List G}(hi:¬i<S.length)(h0:0<=i):xC i h S p l l:=by unfold xC;rw[aa2 (by rw[gX];omega)];cases p.drop i.toNat <;> simp [qE]
def NJ{i:Int}{h x:G}{S p l r:List G}(h0:0<=i)(hi:i<S.length)(hp:S.length=p.length)(hx:x=hX (aa (aq p i.toNat) 0)):
 (gI (aa (aq S i.toNat) 0)=1->xC (i+1) (aO x h) S p (l++ [.node [.str (1::(hB x++hB h)),aO x h]]) r->xC i h S p l r)/\
 (¬gI (aa (aq S i.toNat) 0)=1->xC (i+1) (aO h x) S p (l++ [.node [.str (1::(hB h++hB x)),aO h x]]) r->xC i h S p l r):=by
 have e1:(qF S).drop i.toNat=(gI (aa (aq S i.toNat) 0)=1)::(qF S).drop (i+1).toNat:=by rw[abf (by rw[gX];omega),show(i+1).toNat=i.toNat+1 by omega];congr 1;unfold qF aq;rw[abT,aas,aaw (by omega)];rfl
 have e2:p.drop i.toNat=aq p i.toNat::p.drop (i+1).toNat:=by rw[abf (by omega),show(i+1).toNat=i.toNat+1 by omega];congr 1;unfold aq;rw[aas,aaw (by omega)];rfl
 subst hx
 refine⟨λhs h2=>?_,λhs h2=>?_⟩
 all_goals
  unfold xC at h2⊢
  rw[h2,e1,e2]
  show _=l++(.node [.str (jB _ h _),j2 _ h _]::qE (j2 _ h _) _ _)
  unfold j2 jB
 ·rw[if_pos hs,if_pos hs,aaK];rfl
 ·rw[if_neg hs,if_neg hs,aaK];rfl
def xD:∀(h:G) (ss:List Prop) (ps:List G),(qE h ss ps).length=min ss.length ps.length
 |h,s::ss,r::ps=>by simp only [qE,aaI,xD];omega
 |_,[],_=>by simp [qE]
 |_,_::_,[]=>by simp [qE]
def WE{i n:Int}{h:G}{S p r:List G}(hc:xC 0 h S p [] r)(hs:qF S=(cM i n).reverse):r=qE h (cM i n).reverse p:=by unfold xC at hc;rw[hc,hs];rfl
def RM{h:G}{S p r:List G}(hc:xC 0 h S p [] r):r.length<=S.length:=by unfold xC at hc;rw[hc,abm,xD,aaA,gX];omega
abbrev iX(i n:Int)(p:List G):Prop:=(0<=i/\i<n)/\n<=1099511627776/\p.length=pg i n
def clB(p:Sy):List BSh:=[.cells 36 (hs 100),.cells 42 [.pv 6 (p.g 3)],.grow 15 139 30]
def vF(p:Sy):LSpec:=⟨[(4,.c (.p 0)),(7,.c (.p 1)),(11,.c (.g 2 33 30)),(35,.c (.pv 4 (p.g 4))),(36,.c (.pi .i64 (p.g 4).length)),(37,.c (.i .i64 9))],clB p,λz=>HOk (hT z 100)/\RowsOk (p.g 3)/\(0<=z.i 9/\z.i 9<=(p.g 4).length)/\(p.g 4).length=(p.g 3).length/\(p.g 4).length<=1000/\(z.g 30).length<=z.i 9,λz=>((p.g 4).length-z.i 9).toNat,[⟨.exit 0,[(4,.c (.p 0)),(7,.c (.p 1)),(11,.c (.g 2 33 30))],clB p⟩],λz y=>xC (z.i 9) (hT z 100) (p.g 4) (p.g 3) (z.g 30) (y.g 30),none,[]⟩
def Gm:FSpec:=⟨[.ag (hs 100),.c (.i .i64 1),.c (.i .i64 2),.ag [.v 6 3]],[],λz=>HOk (hT z 100)/\(z.g 3).length<=1000000/\RowsOk (z.g 3),λ_=>.tu [.c (.v 15 30),.c (.b 40)],λ_=>[],λz y=>(y.p 40↔iX (z.i 1) (z.i 2) (z.g 3))/\(y.g 30).length<=40/\(iX (z.i 1) (z.i 2) (z.g 3)->y.g 30=qE (hT z 100) (cM (z.i 1) (z.i 2)).reverse (z.g 3)),none⟩
def Bc:FSpec:=⟨[.ag en],[],BI,λ_=>.tu [.c (.vb 30),.c (.b 40)],λ_=>[],λz y=>(y.p 40↔FC z=0)/\(FC z=0->y.s 30=0::IK z),none⟩
attribute [irreducible] xC
end
def I6:bq 127 Bc:=bC 5 17 (ai pN (ai fY eN)) lN λz hA=>show Fm.den (let v1:=(z.i 1%256);let v2:=(hT z 100);let v0:=(true=true↔fH (z.i 1) (z.s 2) (z.i 3) (z.i 4) (z.i 5) (z.i 6) (z.i 7) (z.i 8) (z.s 9) (z.g 10) (z.g 11) v2 (z.p 12) (z.i 13) (z.i 14)=(0:Int));let v3:=(↑(z.s 2).length:Int);(.ct (vo (z.s 2) (z.i 3) (z.i 4) (z.i 5) (z.i 7) (z.s 9) (z.g 10) (z.g 11) v2 (z.i 13) (z.i 14)) (λy0=>y0.i 50=fH (z.i 1) (z.s 2) (z.i 3) (z.i 4) (z.i 5) (z.i 6) (z.i 7) (z.i 8) (z.s 9) (z.g 10) (z.g 11) v2 (z.p 12) (z.i 13) (z.i 14)/\(fH (z.i 1) (z.s 2) (z.i 3) (z.i 4) (z.i 5) (z.i 6) (z.i 7) (z.i 8) (z.s 9) (z.g 10) (z.g 11) v2 (z.p 12) (z.i 13) (z.i 14)=(0:Int)->hT y0 300=bN (lp (z.i 1) (z.s 2) (z.i 3) (z.i 4) (z.i 5) v2 (z.i 13) (z.i 14)))/\(¬fH (z.i 1) (z.s 2) (z.i 3) (z.i 4) (z.i 5) (z.i 6) (z.i 7) (z.i 8) (z.s 9) (z.g 10) (z.g 11) v2 (z.p 12) (z.i 13) (z.i 14)=(0:Int)->hT y0 300=hZ)) λy0=>(.two (y0.i 50≠0) (.ax ((false=true↔fH (z.i 1) (z.s 2) (z.i 3) (z.i 4) (z.i 5) (z.i 6) (z.i 7) (z.i 8) (z.s 9) (z.g 10) (z.g 11) v2 (z.p 12) (z.i 13) (z.i 14)=(0:Int))/\(fH (z.i 1) (z.s 2) (z.i 3) (z.i 4) (z.i 5) (z.i 6) (z.i 7) (z.i 8) (z.s 9) (z.g 10) (z.g 11) v2 (z.p 12) (z.i 13) (z.i 14)=(0:Int)-> []=0::lp (z.i 1) (z.s 2) (z.i 3) (z.i 4) (z.i 5) v2 (z.i 13) (z.i 14)))) (tF (z.i 3) (z.i 3%18446744073709551616) λy1=>(.an ((0:Int)<=0/\0<=z.i 1%256/\True) (.an (2=2) (.an (2=2/\2<=1000000000/\(y1.s 10).length<=1000000) (tF (z.i 4) (z.i 4%18446744073709551616) λy2=>(.an (([Int.toNat 0,v1.toNat]++y1.s 10).length=2+(y1.s 10).length/\2+(y1.s 10).length<=1000000000/\(y2.s 10).length<=1000000) (tF (z.i 5) (z.i 5%18446744073709551616) λy3=>(.an (([Int.toNat 0,v1.toNat]++y1.s 10++y2.s 10).length=2+(y1.s 10).length+(y2.s 10).length/\2+(y1.s 10).length+(y2.s 10).length<=1000000000/\(y3.s 10).length<=1000000) (tF v3 (v3%18446744073709551616) λy4=>(.an (([Int.toNat 0,v1.toNat]++y1.s 10++y2.s 10++y3.s 10).length=2+(y1.s 10).length+(y2.s 10).length+(y3.s 10).length/\2+(y1.s 10).length+(y2.s 10).length+(y3.s 10).length<=1000000000/\(y4.s 10).length<=1000000) (.an (([Int.toNat 0,v1.toNat]++y1.s 10++y2.s 10++y3.s 10++y4.s 10).length=2+(y1.s 10).length+(y2.s 10).length+(y3.s 10).length+(y4.s 10).length/\2+(y1.s 10).length+(y2.s 10).length+(y3.s 10).length+(y4.s 10).length<=1000000000/\(z.s 2).length<=1000000) (tF (z.i 13) (z.i 13%18446744073709551616) λy5=>(.an (([Int.toNat 0,v1.toNat]++y1.s 10++y2.s 10++y3.s 10++y4.s 10++z.s 2).length=2+(y1.s 10).length+(y2.s 10).length+(y3.s 10).length+(y4.s 10).length+(z.s 2).length/\2+(y1.s 10).length+(y2.s 10).length+(y3.s 10).length+(y4.s 10).length+(z.s 2).length<=1000000000/\(y5.s 10).length<=1000000) (tF (z.i 14) (z.i 14%18446744073709551616) λy6=>(let v4:=([Int.toNat 0,v1.toNat]++y1.s 10++y2.s 10++y3.s 10++y4.s 10++z.s 2++y5.s 10++y6.s 10);(.an (([Int.toNat 0,v1.toNat]++y1.s 10++y2.s 10++y3.s 10++y4.s 10++z.s 2++y5.s 10).length=2+(y1.s 10).length+(y2.s 10).length+(y3.s 10).length+(y4.s 10).length+(z.s 2).length+(y5.s 10).length/\2+(y1.s 10).length+(y2.s 10).length+(y3.s 10).length+(y4.s 10).length+(z.s 2).length+(y5.s 10).length<=1000000000/\(y6.s 10).length<=1000000) (.two (z.i 1=2) (.an (v4.length=2+(y1.s 10).length+(y2.s 10).length+(y3.s 10).length+(y4.s 10).length+(z.s 2).length+(y5.s 10).length+(y6.s 10).length/\2+(y1.s 10).length+(y2.s 10).length+(y3.s 10).length+(y4.s 10).length+(z.s 2).length+(y5.s 10).length+(y6.s 10).length<=1000000000/\br (jU z 100)) (.an (([Int.toNat 0,v1.toNat]++y1.s 10++y2.s 10++y3.s 10++y4.s 10++z.s 2++y5.s 10++y6.s 10++aH (jU z 100)).length=2+(y1.s 10).length+(y2.s 10).length+(y3.s 10).length+(y4.s 10).length+(z.s 2).length+(y5.s 10).length+(y6.s 10).length+32/\True) (.at (v0/\(fH (z.i 1) (z.s 2) (z.i 3) (z.i 4) (z.i 5) (z.i 6) (z.i 7) (z.i 8) (z.s 9) (z.g 10) (z.g 11) v2 (z.p 12) (z.i 13) (z.i 14)=(0:Int)-> [Int.toNat 0,v1.toNat]++y1.s 10++y2.s 10++y3.s 10++y4.s 10++z.s 2++y5.s 10++y6.s 10++aH (jU z 100)=0::lp (z.i 1) (z.s 2) (z.i 3) (z.i 4) (z.i 5) v2 (z.i 13) (z.i 14)))))) (.an (v4.length=2+(y1.s 10).length+(y2.s 10).length+(y3.s 10).length+(y4.s 10).length+(z.s 2).length+(y5.s 10).length+(y6.s 10).length/\True) (.at (v0/\(fH (z.i 1) (z.s 2) (z.i 3) (z.i 4) (z.i 5) (z.i 6) (z.i 7) (z.i 8) (z.s 9) (z.g 10) (z.g 11) v2 (z.p 12) (z.i 13) (z.i 14)=(0:Int)-> [Int.toNat 0,v1.toNat]++y1.s 10++y2.s 10++y3.s 10++y4.s 10++z.s 2++y5.s 10++y6.s 10=0::lp (z.i 1) (z.s 2) (z.i 3) (z.i 4) (z.i 5) v2 (z.i 13) (z.i 14))))))))))))))))))))))))) by
 dsimp only [Bc,en,hs,BI,FC,IK] at hA;have:=bH 0 0 0 [] [] [];have:=bH (z.i 6) (z.i 7) (z.i 8) (z.s 9) (z.g 10) (z.g 11);have:=@fe (z.s 2) (z.i 3) (z.i 4) (z.i 5) (z.i 7) (z.s 9) (z.g 10) (z.g 11) (hT z 100) (z.i 13) (z.i 14);have:=@xe (z.i 1) (z.s 2) (z.i 3) (z.i 4) (z.i 5) (hT z 100) (z.i 13) (z.i 14);have:=@sM (z.i 1) (z.s 2) (z.i 3) (z.i 4) (z.i 5) (hT z 100) (z.i 13) (z.i 14);have:=@bP (z.i 3);have:=@bP (z.i 4);have:=@bP (z.i 5);have:=@bP (z.i 13);have:=@bP (z.i 14);have:=@fu (z.s 2).length;have:=cr z 100;have:=@aI z 100;have:=bu z 100;have t1:(((z.s 2).length:Nat):Int).toNat=(z.s 2).length:=Int.toNat_natCast _;have:=@iS (z.i 1) (z.s 2) (z.i 3) (z.i 4) (z.i 5) (z.i 6) (z.i 7) (z.i 8) (z.s 9) (z.g 10) (z.g 11) (hT z 100) (z.p 12) (z.i 13) (z.i 14);have:=@iT (z.i 1) (z.s 2) (z.i 3) (z.i 4) (z.i 5) (z.i 6) (z.i 7) (z.i 8) (z.s 9) (z.g 10) (z.g 11) (hT z 100) (z.p 12) (z.i 13) (z.i 14);have:=@kX (z.i 1) (z.s 2) (z.i 3) (z.i 4) (z.i 5) (z.i 6) (z.i 7) (z.i 8) (z.s 9) (z.g 10) (z.g 11) (hT z 100) (z.p 12) (z.i 13) (z.i 14);have:=@nJ (z.i 1) (z.s 2) (z.i 3) (z.i 4) (z.i 5) (z.i 6) (z.i 7) (z.i 8) (z.s 9) (z.g 10) (z.g 11) (hT z 100) (z.p 12) (z.i 13) (z.i 14);have:=@oY (z.i 1) (z.s 2) (z.i 3) (z.i 4) (z.i 5) (z.i 6) (z.i 7) (z.i 8) (z.s 9) (z.g 10) (z.g 11) (hT z 100) (z.p 12) (z.i 13) (z.i 14);have:=@fc (z.i 1) (z.s 2) (z.i 3) (z.i 4) (z.i 5) (z.i 6) (z.i 7) (z.i 8) (z.s 9) (z.g 10) (z.g 11) (hT z 100) (z.p 12) (z.i 13) (z.i 14);have m3:0<=z.i 3->z.i 3<9223372036854775808->(z.i 3%18446744073709551616).toNat=(z.i 3).toNat:=λa b=>by omega
 have m4:0<=z.i 4->z.i 4<9223372036854775808->(z.i 4%18446744073709551616).toNat=(z.i 4).toNat:=λa b=>by omega
 have m5:0<=z.i 5->z.i 5<9223372036854775808->(z.i 5%18446744073709551616).toNat=(z.i 5).toNat:=λa b=>by omega
 have m13:0<=z.i 13->z.i 13<9223372036854775808->(z.i 13%18446744073709551616).toNat=(z.i 13).toNat:=λa b=>by omega
 have m14:0<=z.i 14->z.i 14<9223372036854775808->(z.i 14%18446744073709551616).toNat=(z.i 14).toNat:=λa b=>by omega
 have m2:(z.s 2).length<=1000000->(((z.s 2).length:Int)%18446744073709551616).toNat=(z.s 2).length:=λh=>by omega
 have:=@oX (z.i 1) (z.s 2) (z.i 3) (z.i 4) (z.i 5) (oc z) (hT z 100=hZ) (z.p 12) (z.i 13) (z.i 14);conv=>zeta
 repeat' with_reducible first|intro _|apply ci|apply cm|apply cj|apply cD|apply cA
 all_goals first|omega|grind [ao,ak,aj,aX,aY,aZ,a_,ba,bc,be,bf,bh,aB,List.append_assoc,bu,bP,fu]
abbrev tf(a:Prop)(b c d:Int)(e:List G)(f:Int)(g:List G):=a/\b.toNat<c.toNat/\∀(y:Sy),te d b e (y.g 20)->te f c g (y.g 20)
abbrev tY(a:Prop)(b:Int)(c:List G)(d:Int)(e):=a/\IntKind.i64.wrap b<=1099511627776/\c.length+pg d e<=1000
abbrev NK(a:Prop)(b c d:Int)(e f:List G):=a/\b.toNat<c.toNat/\∀(y:Sy),te d b e (y.g 20)->te d c f (y.g 20)
abbrev Uw(a b c:Int):=0<=a-IntKind.i64.wrap b/\a-IntKind.i64.wrap b<c-IntKind.i64.wrap b
def I7:bM 197 0 Ba:=bL 38 891510157746507617625 (ai FW eN) lN λp z hA=>show Fm.den (let v0:=(bj IntKind.i64);let v1:=(lq (z.g 20));(.two (1<z.i 2) (.an ((-9223372036854775808)<=z.i 2-1/\z.i 2-1<=9223372036854775807) (Ul (z.i 2-1) ((z.i 2-1)%18446744073709551616) λy0=>(let v2:=(↑(2 ^ Min.min (eX (y0.i 10-1)).toNat v0):Int);let v7:=(z.g 20++ [G.node [G.int (pI (1 * v2<=z.i 1))]]);let v9:=(z.i 2-IntKind.i64.wrap (1 * v2));let v10:=(2 ^ Min.min (y0.i 10-1).toNat v0);let v3:=(↑v10:Int);let v4:=(z.g 20++ [G.node [G.int (pI (IntKind.i64.wrap (1 * v3)<=z.i 1))]]);let v6:=(z.g 20++ [G.node [G.int (pI (1 * v3<=z.i 1))]]);let v8:=(z.i 2-IntKind.i64.wrap (1 * v3));let v11:=(z.i 1-IntKind.i64.wrap (1 * v3));let d5:=(z.g 20++ [G.node [G.int (pI (IntKind.i64.wrap (1 * v2)<=z.i 1))]]);let j7:=(z.i 1-IntKind.i64.wrap (1 * v2));let r9:=((-9223372036854775808)<=z.i 2-IntKind.i64.wrap (1 * v3)/\z.i 2-IntKind.i64.wrap (1 * v3)<=9223372036854775807);let p9:=((-9223372036854775808)<=z.i 2-IntKind.i64.wrap (1 * v2)/\z.i 2-IntKind.i64.wrap (1 * v2)<=9223372036854775807);let p5:=(AW v6 (z.g 20));let q9:=(AW v4 (z.g 20));let v20:=(AW v7 (z.g 20));let v22:=(eX v8);let v23:=(eX v9);let O':=(z.i 1-1 * v3);let v25:=(z.i 1-1 * v2);let v26:=((-9223372036854775808)<=z.i 2-1 * v3/\z.i 2-1 * ↑v10<=9223372036854775807);let v28:=((-9223372036854775808)<=z.i 2-1 * v2/\z.i 2-1 * v2<=9223372036854775807);let v29:=(z.i 2-1 * v2);let i4:=(eX v29);let v30:=(z.i 2-1 * v3);let g7:=(eX v30);let v31:=(eX (1 * v3));let v32:=(eX (1 * v2));let v33:=((1:Int) * v2);let v5:=(z.g 20++ [G.node [G.int (pI (IntKind.i64.wrap v33<=z.i 1))]]);let v21:=(AW v5 (z.g 20));let v27:=(z.i 1-IntKind.i64.wrap v33);(.two ((-9223372036854775808)<=y0.i 10-1/\y0.i 10-1<=9223372036854775807) (.an (0<=y0.i 10-1) (.two ((-9223372036854775808)<=1 * v3/\1 * v3<=9223372036854775807) (.an v1 (.two (1 * v3<=z.i 1) (.two ((-9223372036854775808)<=z.i 1-1 * v3/\z.i 1-1 * ↑v10<=9223372036854775807) (.two v26 (.an p5 (.at (((0<=z.i 1-1 * v3/\z.i 1-1 * ↑v10<z.i 2-1 * ↑v10)/\z.i 2-1 * ↑v10<=1099511627776/\v6.length+pg O' v30<=1000)/\(z.i 2-1 * ↑v10).toNat<(z.i 2).toNat/\∀(y:Sy),te O' v30 v6 (y.g 20)->te (z.i 1) (z.i 2) (z.g 20) (y.g 20)))) (.an p5 (.at (tf (tY (0<=z.i 1-1 * v3/\z.i 1-1 * ↑v10<IntKind.i64.wrap v30) v30 v6 O' g7) g7 (z.i 2) O' v6 (z.i 1) (z.g 20))))) (.an (¬v26) (.an p5 (.at (tf (tY (0<=IntKind.i64.wrap O'/\IntKind.i64.wrap O'<IntKind.i64.wrap v30) v30 v6 (eX O') g7) g7 (z.i 2) (eX O') v6 (z.i 1) (z.g 20)))))) (.an p5 (.at (NK ((0<=z.i 1/\z.i 1<1 * ↑v10)/\1 * v3<=1099511627776/\v6.length+pg (z.i 1) (1 * v3)<=1000) (1 * v3) (z.i 2) (z.i 1) v6 (z.g 20)))))) (.an v1 (.two (IntKind.i64.wrap (1 * v3)<=z.i 1) (.two ((-9223372036854775808)<=z.i 1-IntKind.i64.wrap (1 * v3)/\z.i 1-IntKind.i64.wrap (1 * v3)<=9223372036854775807) (.two r9 (.an q9 (.at (tf ((Uw (z.i 1) (1 * v3) (z.i 2))/\z.i 2-IntKind.i64.wrap (1 * v3)<=1099511627776/\v4.length+pg v11 v8<=1000) v8 (z.i 2) v11 v4 (z.i 1) (z.g 20)))) (.an q9 (.at (tf (tY (0<=z.i 1-IntKind.i64.wrap (1 * v3)/\z.i 1-IntKind.i64.wrap (1 * v3)<IntKind.i64.wrap v8) v8 v4 v11 v22) v22 (z.i 2) v11 v4 (z.i 1) (z.g 20))))) (.an (¬r9) (.an q9 (.at (tf (tY (0<=IntKind.i64.wrap v11/\IntKind.i64.wrap v11<IntKind.i64.wrap v8) v8 v4 (eX v11) v22) v22 (z.i 2) (eX v11) v4 (z.i 1) (z.g 20)))))) (.an q9 (.at (NK (tY (0<=z.i 1/\z.i 1<IntKind.i64.wrap (1 * v3)) (1 * v3) v4 (z.i 1) v31) v31 (z.i 2) (z.i 1) v4 (z.g 20)))))))) (.an ((0:Int)<=IntKind.i64.wrap (y0.i 10-1)) (.two (Um v2) (.an v1 (.two (1 * v2<=z.i 1) (.two ((-9223372036854775808)<=z.i 1-1 * v2/\z.i 1-1 * v2<=9223372036854775807) (.two v28 (.an v20 (.at (tf ((0<=z.i 1-1 * v2/\z.i 1-1 * v2<z.i 2-1 * v2)/\z.i 2-1 * v2<=1099511627776/\v7.length+pg v25 v29<=1000) v29 (z.i 2) v25 v7 (z.i 1) (z.g 20)))) (.an v20 (.at (tf (tY (0<=z.i 1-1 * v2/\z.i 1-1 * v2<IntKind.i64.wrap v29) v29 v7 v25 i4) i4 (z.i 2) v25 v7 (z.i 1) (z.g 20))))) (.an (¬v28) (.an v20 (.at (tf (tY ((0:Int)<=IntKind.i64.wrap v25/\IntKind.i64.wrap v25<IntKind.i64.wrap v29) v29 v7 (eX v25) i4) i4 (z.i 2) (eX v25) v7 (z.i 1) (z.g 20)))))) (.an v20 (.at (NK ((0<=z.i 1/\z.i 1<1 * v2)/\(1:Int) * v2<=1099511627776/\v7.length+pg (z.i 1) (1 * v2)<=1000) v33 (z.i 2) (z.i 1) v7 (z.g 20)))))) (.an v1 (.two (IntKind.i64.wrap (1 * v2)<=z.i 1) (.two ((-9223372036854775808)<=z.i 1-IntKind.i64.wrap (1 * v2)/\z.i 1-IntKind.i64.wrap (1 * v2)<=9223372036854775807) (.two p9 (.an v21 (.at (tf ((Uw (z.i 1) (1 * v2) (z.i 2))/\z.i 2-IntKind.i64.wrap (1 * v2)<=1099511627776/\v5.length+pg j7 v9<=1000) v9 (z.i 2) v27 d5 (z.i 1) (z.g 20)))) (.an v21 (.at (tf (tY (0<=z.i 1-IntKind.i64.wrap (1 * v2)/\z.i 1-IntKind.i64.wrap (1 * v2)<IntKind.i64.wrap v9) v9 v5 j7 v23) v23 (z.i 2) v27 d5 (z.i 1) (z.g 20))))) (.an (¬p9) (.an v21 (.at (tf (tY ((0:Int)<=IntKind.i64.wrap j7/\IntKind.i64.wrap j7<IntKind.i64.wrap v9) v9 v5 (eX j7) v23) v23 (z.i 2) (eX v27) d5 (z.i 1) (z.g 20)))))) (.an v21 (.at ((tY (0<=z.i 1/\z.i 1<IntKind.i64.wrap (1 * v2)) (1 * v2) v5 (z.i 1) v32)/\v32.toNat<(z.i 2).toNat/\∀(y:Sy),te (z.i 1) (eX v33) d5 (y.g 20)->te (z.i 1) (z.i 2) (z.g 20) (y.g 20)))))))))))) (.an (ig (z.g 20)) (.at (te (z.i 1) (z.i 2) (z.g 20) (z.g 20)))))) by
 dsimp only [Ba,Yc] at hA;have:=@Df (z.i 2) ((z.i 2-1)%18446744073709551616) rfl;have:=@ij (z.i 2);have:=@ND (z.i 1) (z.i 2) (1 * (↑(2 ^ Min.min (dw ((z.i 2-1)%18446744073709551616)-1).toNat (bj Go.IntKind.i64)):Int));have:=(λe=>λr h hk=>@NC (z.i 1) (z.i 2) e (z.g 20) r (e<=z.i 1) h hk Iff.rfl) (1 * (↑(2 ^ Min.min (dw ((z.i 2-1)%18446744073709551616)-1).toNat (bj Go.IntKind.i64)):Int))
 have:=@RG (z.i 1) (z.i 2) (z.g 20);exact ft
def I8:bM 197 2 Bb:=bL 5 41 eN lN λp z hA=>show Fm.den (let v0:=(sn (pI (gI (aT (aM (z.g 20) (z.i 1)))=1)));let v1:=((z.g 20).set (z.i 1).toNat (sn (pI (gI (aT (aM (z.g 20) (z.i 2)))=1))));let v2:=(((z.g 20).set (z.i 1).toNat (sn (pI (gI (aT (aM (z.g 20) (z.i 2)))=(1:Int))))).set (z.i 2).toNat v0);let v3:=(cg (z.i 2) (z.g 20));let v4:=(cg (z.i 1) (z.g 20));(.two (z.i 1<z.i 2) (.an v3 (.an (eD (z.i 2) (z.g 20)) (.an v4 (.an (eD (z.i 1) (z.g 20)) (.an v4 (.an (tS (z.i 1) (z.g 20)) (.an v3 (.an ((z.i 2).toNat<v1.length/\True) (.an ((-9223372036854775808)<=z.i 1+1/\z.i 1+1<=9223372036854775807) (.an ((-9223372036854775808)<=z.i 2-1/\z.i 2-1<=9223372036854775807) (.an (v2.length=(z.g 20).length/\True) (.at (((0<=z.i 1+1/\z.i 1+1<=z.i 2-1+1)/\z.i 1+1+(z.i 2-1)+1=(↑(v1.set (z.i 2).toNat v0).length:Int)/\v2.length<=1000)/\(z.i 2-1-(z.i 1+1)).toNat<(z.i 2-z.i 1).toNat/\∀(y:Sy),NG (z.i 1+1) (z.i 2-1) (v1.set (z.i 2).toNat v0) (y.g 20)->NG (z.i 1) (z.i 2) (z.g 20) (y.g 20)))))))))))))) (.an (ig (z.g 20)) (.at (NG (z.i 1) (z.i 2) (z.g 20) (z.g 20)))))) by dsimp only [Bb,Yc] at hA;have:=@RJ (z.i 1) (z.i 2) (z.g 20);have:=@NH (z.i 1) (z.i 2) (z.g 20);exact ft
def RN:bq 197 NI:=bC 3 1 eN (aG (ptm:=[]) I7 (aG (ptm:=[]) I8 lN)) λz hA=>show Fm.den ((.cl ((lM)) ((0<=z.i 1/\z.i 1<z.i 2)/\z.i 2<=1099511627776/\0+pg (z.i 1) (z.i 2)<=1000) (λy0=>te (z.i 1) (z.i 2) [] (y0.g 20)) λy0=>(let v0:=(↑(y0.g 20).length:Int);let v1:=((ig (y0.g 20)));(.two ((-9223372036854775808)<=v0-1/\v0-1<=9223372036854775807) (.cl v1 (((0:Int)<=0/\0<=v0-1+1)/\0+(v0-1)+1=v0/\(y0.g 20).length<=1000) (λy1=>NG 0 (v0-1) (y0.g 20) (y1.g 20)) λy1=>(.an (ig (y1.g 20)) (.at (qF (y1.g 20)=(cM (z.i 1) (z.i 2)).reverse/\(y1.g 20).length=pg (z.i 1) (z.i 2))))) (.cl v1 (((0:Int)<=0/\0<=IntKind.i64.wrap (v0-1)+1)/\0+IntKind.i64.wrap (v0-1)+1=v0/\(y0.g 20).length<=1000) (λy2=>NG 0 (eX (v0-1)) (y0.g 20) (y2.g 20)) λy2=>(.an (ig (y2.g 20)) (.at (qF (y2.g 20)=(cM (z.i 1) (z.i 2)).reverse/\(y2.g 20).length=pg (z.i 1) (z.i 2))))))))) by dsimp only [NI] at hA;have:=@RK (z.i 1) (z.i 2);have:=@Gk (z.i 1) (z.i 2) [];have:=@xB (z.i 1) (z.i 2);exact ft
def Ux:bq 131 Stwo:=bC 1 0 (jI pJ eN) lN λz hA=>show Fm.den (let v0:=((1:Int)::(jU z 100++jU z 200));(.an (br v0) (.an (65=65) (.ct (65<=1000000000) (λy0=>True) λy0=>(.an (br v0/\True) (.at (aH v0=1::(hB (hT z 100)++hB (hT z 200))/\hG (eB (aH v0))=aO (hT z 100) (hT z 200)))))))) by
 have hB:True/\HOk (hT z 100)/\HOk (hT z 200):=⟨trivial,hA⟩
 conv=>zeta
 repeat' with_reducible first|intro _|apply ci|apply cm|apply cj|apply cD|apply cA
 all_goals first|omega|((try simp only [←fa,cf,dL,bu,dm,cE,dM,CE,CF,CH,List.cons_append,List.nil_append,List.append_assoc,pK,sx,kG,List.length_append,List.length_cons,List.length_nil,bS,jx,jy,cr,gT]) <;> (repeat' first|rfl|trivial|refine And.intro ?_ ?_) <;> first|omega|exact aI hB.2.1|exact aI hB.2.2|exact aI (by assumption)|exact dT (by assumption))|grind [ao,ak,aj,aX,aY,aZ,a_,ba,bc,be,bf,bh,aB]
def Dg:bM 129 0 vF:=bL 7 549 (ai Ux eN) lN λp z hA=>show Fm.den (let v0:=(hX (aT (aM (p.g 3) (z.i 9))));let v1:=(↑(p.g 4).length:Int);let v2:=(lq (z.g 30));let v3:=((-9223372036854775808)<=z.i 9+1/\z.i 9+1<=9223372036854775807);let v4:=(hT z 100);let v5:=(dE (z.i 9) (p.g 4));let v6:=(cg (z.i 9) (p.g 3));let v7:=(z.i 9+1);(.two (bR (z.i 9) (p.g 4)) (.an (cg (z.i 9) (p.g 4)) (.an v6 (.ct (HOk v4/\HOk v0) (λy0=>y0.s 10=1::(hB v4++hB v0)/\hT y0 300=aO v4 v0) λy0=>(let v8:=(z.g 30++ [G.node [G.str (y0.s 10),hT y0 300]]);(.two (gI (aT (aM (p.g 4) (z.i 9)))=1) (.an v6 (.ct (HOk v0/\HOk v4) (λy1=>y1.s 10=1::(hB v0++hB v4)/\hT y1 300=aO v0 v4) λy1=>(let v9:=(z.g 30++ [G.node [G.str (y1.s 10),hT y1 300]]);(.an v2 (.an v3 (.an (v9.length=(z.g 30).length+1/\p.g 3=p.g 3/\v1=v1/\p.g 4=p.g 4/\True) (.at ((HOk (hT y1 300)/\RowsOk (p.g 3)/\v5/\(p.g 4).length=(p.g 3).length/\(p.g 4).length<=1000/\(↑v9.length:Int)<=z.i 9+1)/\(v1-v7).toNat<(v1-z.i 9).toNat/\∀(y:Sy),xC v7 (hT y1 300) (p.g 4) (p.g 3) v9 (y.g 30)->xC (z.i 9) v4 (p.g 4) (p.g 3) (z.g 30) (y.g 30))))))))) (.an v2 (.an v3 (.an (v8.length=(z.g 30).length+1/\p.g 3=p.g 3/\v1=v1/\p.g 4=p.g 4/\True) (.at ((HOk (hT y0 300)/\RowsOk (p.g 3)/\v5/\(p.g 4).length=(p.g 3).length/\(p.g 4).length<=1000/\(↑v8.length:Int)<=z.i 9+1)/\(v1-v7).toNat<(v1-z.i 9).toNat/\∀(y:Sy),xC v7 (hT y0 300) (p.g 4) (p.g 3) v8 (y.g 30)->xC (z.i 9) v4 (p.g 4) (p.g 3) (z.g 30) (y.g 30))))))))))) (.an ((z.g 30).length=(z.g 30).length/\p.g 3=p.g 3/\True) (.at (xC (z.i 9) v4 (p.g 4) (p.g 3) (z.g 30) (z.g 30)))))) by
 dsimp only [vF,clB,hs] at hA;have:=λh h0 hi=>@RowsOk.at (p.g 3) h (z.i 9) h0 hi;have:=@RL (z.i 9) (hT z 100) (p.g 4) (p.g 3) (z.g 30);have:=λr h0 hi hp=>@NJ (z.i 9) (hT z 100) (hX (aa (aq (p.g 3) (z.i 9).toNat) 0)) (p.g 4) (p.g 3) (z.g 30) r h0 hi hp rfl;conv=>zeta
 repeat' with_reducible first|intro _|apply ci|apply cm|apply cj|apply cD|apply cA
 all_goals first|omega|grind [ao,ak,aj,aX,aY,aZ,a_,ba,bc,be,bf,bh,aB,cy]
def NL:bq 129 Gm:=bC 9 4369 (ai RN eN) (aG (ptm:=[(3,.ag [.v 6 3]),(35,.c (.v 4 4))]) Dg lN) λz hA=>show Fm.den (let v0:=((false=true↔iX (z.i 1) (z.i 2) (z.g 3))/\0<=40/\(iX (z.i 1) (z.i 2) (z.g 3)-> []=qE (hT z 100) (cM (z.i 1) (z.i 2)).reverse (z.g 3)));(.two (z.i 1<0) (.ax v0) (.two (z.i 2<=z.i 1) (.ax v0) (.two (1099511627776<z.i 2) (.ax v0) (.ct ((0<=z.i 1/\z.i 1<z.i 2)/\z.i 2<=1099511627776) (λy0=>qF (y0.g 10)=(cM (z.i 1) (z.i 2)).reverse/\(y0.g 10).length=pg (z.i 1) (z.i 2)) λy0=>(let v1:=(↑(y0.g 10).length:Int);(.two (v1≠(↑(z.g 3).length:Int)) (.ax v0) (.cl ((0=0/\z.g 3=z.g 3/\v1=v1/\y0.g 10=y0.g 10/\True)) (HOk (hT z 100)/\RowsOk (z.g 3)/\(fE v1)/\(y0.g 10).length=(z.g 3).length/\(y0.g 10).length<=1000/\(↑0:Int)<=0) (λy1=>xC 0 (hT z 100) (y0.g 10) (z.g 3) [] (y1.g 30)) λy1=>(.an (ig (y1.g 30)) (.at ((true=true↔iX (z.i 1) (z.i 2) (z.g 3))/\(y1.g 30).length<=40/\(iX (z.i 1) (z.i 2) (z.g 3)->y1.g 30=qE (hT z 100) (cM (z.i 1) (z.i 2)).reverse (z.g 3))))))))))))) by dsimp only [Gm,hs] at hA;have:=λS r hc hs=>@WE (z.i 1) (z.i 2) (hT z 100) S (z.g 3) r hc hs;have:=λS r hc=>@RM (hT z 100) S (z.g 3) r hc;have:=@xB (z.i 1) (z.i 2);exact ft
noncomputable section
def hsR:Nat->Nat->List Sh
 |0,_=>[]
 |n+1,t=>.i .u8 t::hsR n (t+1)
def vG:Nat->List Int->List (Nat×Tm)->List (Nat×Tm)
 |_,[],l=>l
 |t,n::ns,l=>vG (t+1) ns ((t,.i n)::l)
def Bd{H:T ABlk}:∀(ns:List Int) (avs:List AV) (s s':PS),iI H [] (ns.map λn=>.pi .u8 n) avs s=some s'->s'.pr->cH (λa n=>co a=some (.u8,n)) avs ns/\s.pr/\s'.tm=s.tm/\s'.loc=s.loc/\s'.ln=s.ln/\s'.fz=s.fz
 | [],[],s,s',h,hp=>by injection h with h;subst h;exact⟨trivial,hp,rfl,rfl,rfl,rfl⟩
 | [],_::_,s,s',h,hp=>by cases h
 |n::ns,[],s,s',h,hp=>by cases h
 |n::ns,a::avs,s,s',h,hp=>by
  obtain⟨s1,h1,h2⟩:=az (show bA (ni H [] (.pi .u8 n) a s) (λs=>iI H [] (ns.map λn=>.pi .u8 n) avs s)=some s' from h);obtain⟨q1,q2,q3,q4,q5,q6⟩:=Bd ns avs s1 s' h2 hp;have h1:(match co a with|some (k',n')=>ac (decide (IntKind.u8=k')) (s.must (n'=n)) none|none=>none)=some s1:=h1;split at h1
  ·rename_i k' n' hn
   obtain⟨hk,h1⟩:=aU h1
   have hk:=of_decide_eq_true hk
   injection h1 with h1
   subst h1
   cases s with
   |mk tm loc ln pr fz=>
   obtain⟨e,hpr⟩:n'=n/\pr:=q2
   subst hk;subst e
   exact⟨⟨hn,q1⟩,hpr,q3,q4,q5,q6⟩
  ·cases h1
def vH{H:T ABlk}:∀(ns:List Int) (avs:List AV) (t:Nat) (tm:List (Nat×Tm)),cH (λa n=>co a=some (.u8,n)) avs ns->(∀j,t<=j->bD j tm=none)->iI H [] (hsR ns.length t) avs ⟨tm,[],[],True,[]⟩=some ⟨vG t ns tm,[],[],True,[]⟩
 | [],[],t,tm,h,hf=>rfl
 |n::ns,a::avs,t,tm,⟨h1,h2⟩,hf=>by
  have ht:bD t tm=none:=hf t (aao _);have e:ni H [] (.i .u8 t) a ⟨tm,[],[],True,[]⟩=some ⟨(t,.i n)::tm,[],[],True,[]⟩:=by show(match co a with|some (k',n)=>ac (decide (IntKind.u8=k')) (PS.add ⟨tm,[],[],True,[]⟩ t (.i n)) none|none=>none)=_;rw[h1];show PS.add ⟨tm,[],[],True,[]⟩ t (.i n)=_;unfold PS.add;simp only [ht]
  show bA (ni H [] (.i .u8 t) a ⟨tm,[],[],True,[]⟩) (λs=>iI H [] (hsR ns.length (t+1)) avs s)=_;rw[e];exact vH ns avs (t+1) _ h2 λj hj=>by rw[cZ,if_neg (by show ¬t=j;omega)];exact hf j (by omega)
 | [],_::_,_,_,h,_=>h.elim
 |_::_,[],_,_,h,_=>h.elim
def Uy:FSpec:=⟨[.c (.vb 1)],[],λz=>(z.s 1).length<=1000000000,λz=>.one (.ag (hs 300)),λ_=>[],λz y=>hT y 300=dK (z.s 1),none⟩
def Yd(v:V8):List Int:=(List.range 32).map (hb v)
def ZK(v:V8):hT (aP (vG 300 (Yd v) [])) 300=hG v:=by rfl
def WF(h:Ok Tryz.prog 25 VP):Ok Tryz.prog 25 Uy:=by
 obtain⟨zf,h⟩:=h
 refine⟨λz=>⟨aP (vG 300 (Yd (eB (z.s 1))) []),λ_=>show hT (aP (vG 300 (Yd (eB (z.s 1))) [])) 300=dK (z.s 1) by rw[ZK];unfold dK;rfl⟩,λz hz w ρ vs hG hl=>?_⟩
 obtain⟨h1,h2⟩:=h z hz w ρ vs hG hl
 refine⟨h1,h2.mono λe w' he=>?_⟩
 obtain⟨v,ρ',H',a,s,e1,e2,e3,e4,e5,e6,e7⟩:=he
 obtain⟨s1,q1,q2⟩:=az e5
 obtain⟨s2,r2,q3⟩:=az q2
 obtain⟨s3,r3,q4⟩:=az q3
 obtain⟨s4,r4,q5⟩:=az q4
 obtain⟨_,q6⟩:=aU q5
 obtain⟨_,q7⟩:=aU q6
 injection q7 with q7
 subst q7
 have hp:s1.pr:=((qn r2).1.trans ((qp (ρ:=ρ') r3).1.trans (ef r4).1)).pr e6
 clear q2 q3 q4 q5 q6 r2 r3 r4 e5 e6 e7
 cases a with
 |agg avs=>obtain⟨p1,_⟩:=Bd (Yd (eB (z.s 1))) avs jN s1 q1 hp;have p2:=vH (H:=H') (Yd (eB (z.s 1))) avs 300 [] p1 (λ_ _=>rfl);refine⟨v,ρ',H',.agg avs,⟨vG 300 (Yd (eB (z.s 1))) [],[],[],True,[]⟩,e1,e2,e3,e4, ?_,trivial,rfl⟩;have p2:zB H' [] (.one (.ag (hs 300))) (.agg avs) jN=_:=p2;show bA (zB H' [] (.one (.ag (hs 300))) (.agg avs) jN) _=_;rw[p2];rfl
 |_=>cases q1
def PR(l:List G):G:=hX (aa (aq l ((l.length:Int)-1).toNat) 1)
def xE(l:List G)(r:G)(m:List G):PR (l++(r::m))=PR (r::m):=by unfold PR aq;rw[aas,aas];congr 3;rw[aaJ (by simp;omega)];congr 1;simp;omega
def xF(b:List Nat){h:G}(hh:HOk h):PR [.node [.str b,h]]=h:=db hh
def ZL(s:Prop)(h x:G):HOk (j2 s h x):=by
 unfold j2;split
 ·exact cy _ _
 ·exact cy _ _
def NM:∀(ss:List Prop) (ps:List G) (h:G) (b:List Nat),HOk h->PR (.node [.str b,h]::qE h ss ps)=RF h ss ps
 | [],_,h,b,hh=>by simp only [qE,RF];exact xF b hh
 |_::_,[],h,b,hh=>by simp only [qE,RF];exact xF b hh
 |s::ss,r::ps,h,b,hh=>by simp only [qE,RF];rw[←NM ss ps _ (jB s h (hX (aa r 0))) (ZL _ _ _)];exact xE [_] _ _
def Gn(h:G)(i n:Int)(p:List G):G:=(ms h i n p).1
theorem WG{h:G}{i n:Int}{p:List G}(hh:HOk h):HOk (Gn h i n p):=by
 have key:∀(m:Nat) (i n:Int) (p:List G),n.toNat<=m->HOk (ms h i n p).1:=by
  intro m
  induction m with
  |zero=>intro i n p hm;rw[nS (by omega)];exact hh
  |succ m ih=>
   intro i n p hm;by_cases h2:2<=n
   ·by_cases hp:p.length=0
    ·rw[FP h2 hp];exact fG
    ·by_cases hi:i<(aL n.toNat:Nat)
     ·rw[C2 h2 hp hi];exact cy _ _
     ·rw[C3 h2 hp hi];exact cy _ _
   ·rw[nS h2];exact hh
 exact key _ _ _ _ (aao _)
def WH{h:G}{i n:Int}{p:List G}(hc:iX i n p):Gn h i n p=RF h (cM i n).reverse p:=by unfold iX pg at hc;exact(NB _ h i n p (aao _)).2 hc.2.2
def Uz{h:G}{i n:Int}{p:List G}:(ms h i n p).2↔p.length=pg i n:=by unfold pg;exact(NB _ h i n p (aao _)).1
def NN{h:G}{i n:Int}{p:List G}(l:List G)(b:List Nat)(hc:iX i n p)(hh:HOk h):PR (l++(.node [.str b,h]::qE h (cM i n).reverse p))=Gn h i n p:=by rw[xE,NM _ _ _ _ hh,WH hc]
def RO(lh:G)(ae c:Int)(ip:List G):G:=dh (Gn lh ae c ip) (aK c.toNat)
def JA(lh hd:G)(ae c:Int)(ip:List G):G:=aO hd (RO lh ae c ip)
def ph(er:Int)(lh hd:G)(ab ae c n:Int)(ip op:List G)(r:G):Prop:=er=0/\(1<=c/\c<=200)/\iX ae c ip/\iX ab n op/\Gn (JA lh hd ae c ip) ab n op=r
def UA(er:Int)(ab ae c n:Int)(ip op:List G):Prop:=er=0/\(1<=c/\c<=200)/\iX ae c ip/\iX ab n op
def RP(e:List Nat)(lh hd:G)(ab ae c n:Int)(ip op:List G):List G:=
 [.node [.str (0::e),lh]]++qE lh (cM ae c).reverse ip++ [.node [.str (2::(hB (Gn lh ae c ip)++aK c.toNat)),RO lh ae c ip]]++ [.node [.str (1::(hB hd++hB (RO lh ae c ip))),JA lh hd ae c ip]]++qE (JA lh hd ae c ip) (cM ab n).reverse op
def Gp(er:Int)(ab ae c n:Int)(ip op:List G):UA er ab ae c n ip op↔er=0/\(1<=c/\c<=200)/\iX ae c ip/\iX ab n op:=Iff.rfl
def nW(er:Int)(lh hd:G)(ab ae c n:Int)(ip op:List G)(r:G):ph er lh hd ab ae c n ip op r↔UA er ab ae c n ip op/\Gn (JA lh hd ae c ip) ab n op=r:=⟨λ⟨a,b,c,d,e⟩=>⟨⟨a,b,c,d⟩,e⟩,λ⟨⟨a,b,c,d⟩,e⟩=>⟨a,b,c,d,e⟩⟩
def xG(e:List Nat)(lh hd:G)(ab ae c n:Int)(ip op:List G):RP e lh hd ab ae c n ip op=
 [.node [.str (0::e),lh]]++qE lh (cM ae c).reverse ip++ [.node [.str (2::(hB (Gn lh ae c ip)++aK c.toNat)),RO lh ae c ip]]++ [.node [.str (1::(hB hd++hB (RO lh ae c ip))),JA lh hd ae c ip]]++qE (JA lh hd ae c ip) (cM ab n).reverse op:=rfl
def NO(lh:G)(ae c:Int)(ip:List G):RO lh ae c ip=dh (Gn lh ae c ip) (aK c.toNat):=rfl
def NP(lh hd:G)(ae c:Int)(ip:List G):JA lh hd ae c ip=aO hd (RO lh ae c ip):=rfl
def WI(lh hd:G)(ae c:Int)(ip:List G):HOk (JA lh hd ae c ip):=cy _ _
theorem WJ(lh:G)(ae c:Int)(ip:List G):HOk (RO lh ae c ip):=kW _ _
def NQ{er:Int}{e:List Nat}{lh hd:G}{ab ae c n:Int}{ip op:List G}(h:UA er ab ae c n ip op):PR (RP e lh hd ab ae c n ip op)=Gn (JA lh hd ae c ip) ab n op/\3<=(RP e lh hd ab ae c n ip op).length/\(RP e lh hd ab ae c n ip op).length<=100:=by
 obtain⟨_,hc,h1,h2⟩:=h;refine⟨?_, ?_, ?_⟩
 ·rw[xG,aaK,List.singleton_append];exact NN _ _ h2 (WI _ _ _ _ _)
 ·rw[xG];simp only [aav,aaQ];omega
 ·have a1:=xB (i:=ae) (n:=c) h1.2.1;have a2:=xB (i:=ab) (n:=n) h2.2.1;have b1:=h1.2.2;have b2:=h2.2.2;rw[xG];simp only [aav,aaQ,xD];omega
def ls_a{b:List Nat}{h:G}{r:List G}{i n:Int}{p:List G}(hh:HOk h)(hc:iX i n p)(hr:r=qE h (cM i n).reverse p):hX (aa (aq ([.node [.str b,h]]++r) (((1+r.length:Nat):Int)-1).toNat) 1)=Gn h i n p:=by have:=NN (h:=h) (i:=i) (n:=n) (p:=p) [] b hc hh;rw[abm, ←hr] at this;rw[←this];unfold PR;simp only [List.singleton_append,aaI,Nat.add_comm]
def ls_c{A:List G}{s:List Nat}{h:G}{m:Nat}(hh:HOk h)(hl:A.length=m):hX (aa (aq (A++ [.node [.str s,h]]) (((m+1:Nat):Int)-1).toNat) 1)=h:=by
 have:=xE A (.node [.str s,h]) [];rw[xF s hh] at this;conv=>rhs;rw[←this]
 unfold PR;rw[aav,hl];rfl
def WK{g a:G}{s:List Nat}(hg:HOk (hX g))(ha:hX g=a):dK (aH (2::Iz g)++s)=dh a s/\aH (2::Iz g)++s=2::(hB a++s)/\br (2::Iz g):=by
 have e:aH (2::Iz g)++s=2::(hB a++s):=by rw[cf,dm,ha];rfl
 refine⟨?_,e, ?_⟩
 ·rw[e];exact(sy _).symm.trans (kG a s)
 ·rw[cE];exact⟨by decide,dT hg⟩
theorem tn33(g:G)(s:List Nat):(aH (2::Iz g)++s).length=33+s.length:=by rw[cf,dm];simp only [aav,aaI,gT]
def ZM(s:List Nat):dK (0::s)=bN s:=(sy _).symm.trans (pK s)
def rv:List Sh:=[.i .i64 61,.i .i64 62]++en++hs 400++ [.v 6 63]++ [.i .i64 64]++ [.v 6 65]
def dg(t u:Nat):List Sh:=[.i .i64 t]++hs u
def RQ(z:Sy):Prop:=BI z/\HOk (hT z 400)/\RowsOk (z.g 63)/\(z.g 63).length<=1000000/\RowsOk (z.g 65)/\(z.g 65).length<=1000000
def NR:FSpec:=⟨[.ag rv,.c (.i .i64 66)],[],RQ,λ_=>.tu [.c (.v 15 30),.c (.b 40)],λ_=>[],λz y=>(y.p 40↔UA (FC z) (z.i 61) (z.i 62) (z.i 64) (z.i 66) (z.g 63) (z.g 65))/\(y.p 40->y.g 30=RP (IK z) (bN (IK z)) (hT z 400) (z.i 61) (z.i 62) (z.i 64) (z.i 66) (z.g 63) (z.g 65)),none⟩
attribute [irreducible] UA ph RP RO JA Gn
def UB:FSpec:=⟨[.ag rv,.ag (dg 66 500)],[],λz=>RQ z/\HOk (hT z 500),λ_=>.one (.c (.b 40)),λ_=>[],λz y=>y.p 40↔ph (FC z) (bN (IK z)) (hT z 400) (z.i 61) (z.i 62) (z.i 64) (z.i 66) (z.g 63) (z.g 65) (hT z 500),none⟩
end
def WL:bq 25 Uy:=WF pJ
abbrev pP(a:Int):=0<=a-1/\a-1<a
def RR:bq 57 NR:=bC 12 2756881 (ai I6 (jI WL (ai NL (ai fY (ai Ux eN))))) lN λz hA=>show Fm.den (let v2:=(hT z 100);let v1:=(lp (z.i 1) (z.s 2) (z.i 3) (z.i 4) (z.i 5) v2 (z.i 13) (z.i 14));let v3:=(hT z 400);let v0:=((false=true↔UA (fH (z.i 1) (z.s 2) (z.i 3) (z.i 4) (z.i 5) (z.i 6) (z.i 7) (z.i 8) (z.s 9) (z.g 10) (z.g 11) v2 (z.p 12) (z.i 13) (z.i 14)) (z.i 61) (z.i 62) (z.i 64) (z.i 66) (z.g 63) (z.g 65))/\(false=true-> []=RP v1 (bN v1) v3 (z.i 61) (z.i 62) (z.i 64) (z.i 66) (z.g 63) (z.g 65)));(.ct (vo (z.s 2) (z.i 3) (z.i 4) (z.i 5) (z.i 7) (z.s 9) (z.g 10) (z.g 11) v2 (z.i 13) (z.i 14)) (λy0=>(y0.p 40↔fH (z.i 1) (z.s 2) (z.i 3) (z.i 4) (z.i 5) (z.i 6) (z.i 7) (z.i 8) (z.s 9) (z.g 10) (z.g 11) v2 (z.p 12) (z.i 13) (z.i 14)=(0:Int))/\(fH (z.i 1) (z.s 2) (z.i 3) (z.i 4) (z.i 5) (z.i 6) (z.i 7) (z.i 8) (z.s 9) (z.g 10) (z.g 11) v2 (z.p 12) (z.i 13) (z.i 14)=(0:Int)->y0.s 30=0::lp (z.i 1) (z.s 2) (z.i 3) (z.i 4) (z.i 5) v2 (z.i 13) (z.i 14))) λy0=>(.two (¬y0.p 40) (.ax v0) (.two (z.i 64<1) (.ax v0) (.two (200<z.i 64) (.ax v0) (.ct (Aj (y0.s 30)) (λy1=>hT y1 300=dK (y0.s 30)) λy1=>(.ct (HOk (hT y1 300)/\(z.g 63).length<=1000000/\RowsOk (z.g 63)) (λy2=>(y2.p 40↔iX (z.i 62) (z.i 64) (z.g 63))/\(y2.g 30).length<=40/\(iX (z.i 62) (z.i 64) (z.g 63)->y2.g 30=qE (hT y1 300) (cM (z.i 62) (z.i 64)).reverse (z.g 63))) λy2=>(let v5:=(↑(1+(y2.g 30).length+1):Int);let v6:=(↑(1+(y2.g 30).length+1+1):Int);let v7:=(↑(1+(y2.g 30).length):Int);let v8:=([G.node [G.str (y0.s 30),hT y1 300]]++y2.g 30);let v4:=(2::Iz (aa (aM v8 (v7-1)) 1));(.two (¬y2.p 40) (.ax v0) (.an (1=1) (.an (1=1/\1<=1000000000/\(y2.g 30).length<=1000000) (.an ((-9223372036854775808)<=v7-1/\v7-1<=9223372036854775807) (.an (pP v7) (.an (eD (v7-1) v8) (tF (z.i 64) (z.i 64%18446744073709551616) λy3=>(let v9:=(aH v4++y3.s 10);let v10:=(v9.length=33+(y3.s 10).length);(.an (br v4) (.an (33=33) (.an (Me (y3.s 10)) (.an v10 (.ct (Aj v9) (λy4=>hT y4 300=dK v9) λy4=>(let v11:=([G.node [G.str (y0.s 30),hT y1 300]]++y2.g 30++ [G.node [G.str v9,hT y4 300]]);let d5:=(hX (aa (aM v11 (v5-1)) 1));(.an v10 (.an (v8.length=1+(y2.g 30).length/\1+(y2.g 30).length<=1000000000/\True) (.an ((-9223372036854775808)<=v5-1/\v5-1<=9223372036854775807) (.an (pP v5) (.an (eD (v5-1) v11) (.ct (HOk v3/\HOk d5) (λy5=>y5.s 10=1::(hB v3++hB d5)/\hT y5 300=aO v3 d5) λy5=>(let g7:=([G.node [G.str (y0.s 30),hT y1 300]]++y2.g 30++ [G.node [G.str v9,hT y4 300]]++ [G.node [G.str (y5.s 10),hT y5 300]]);let i4:=(hX (aa (aM g7 (v6-1)) 1));(.an (v11.length=1+(y2.g 30).length+1/\1+(y2.g 30).length+1<=1000000000/\True) (.an ((-9223372036854775808)<=v6-1/\v6-1<=9223372036854775807) (.an (pP v6) (.an (eD (v6-1) g7) (.ct (HOk i4/\(z.g 65).length<=1000000/\RowsOk (z.g 65)) (λy6=>(y6.p 40↔iX (z.i 61) (z.i 66) (z.g 65))/\(y6.g 30).length<=40/\(iX (z.i 61) (z.i 66) (z.g 65)->y6.g 30=qE i4 (cM (z.i 61) (z.i 66)).reverse (z.g 65))) λy6=>(.an (g7.length=1+(y2.g 30).length+1+1/\1+(y2.g 30).length+1+1<=1000000000/\(y6.g 30).length<=1000000) (.an (([G.node [G.str (y0.s 30),hT y1 300]]++y2.g 30++ [G.node [G.str v9,hT y4 300]]++ [G.node [G.str (y5.s 10),hT y5 300]]++y6.g 30).length=1+(y2.g 30).length+1+1+(y6.g 30).length/\True) (.at ((y6.p 40↔UA (fH (z.i 1) (z.s 2) (z.i 3) (z.i 4) (z.i 5) (z.i 6) (z.i 7) (z.i 8) (z.s 9) (z.g 10) (z.g 11) v2 (z.p 12) (z.i 13) (z.i 14)) (z.i 61) (z.i 62) (z.i 64) (z.i 66) (z.g 63) (z.g 65))/\(y6.p 40-> [G.node [G.str (y0.s 30),hT y1 300]]++y2.g 30++ [G.node [G.str v9,hT y4 300]]++ [G.node [G.str (y5.s 10),hT y5 300]]++y6.g 30=RP v1 (bN v1) v3 (z.i 61) (z.i 62) (z.i 64) (z.i 66) (z.g 63) (z.g 65)))))))))))))))))))))))))))))))))))))))) by
 dsimp only [NR,rv,en,hs,RQ,BI,FC,IK] at hA;have:=bH 0 0 0 [] [] [];have:=bH (z.i 6) (z.i 7) (z.i 8) (z.s 9) (z.g 10) (z.g 11);have:=@fe (z.s 2) (z.i 3) (z.i 4) (z.i 5) (z.i 7) (z.s 9) (z.g 10) (z.g 11) (hT z 100) (z.i 13) (z.i 14);have:=@iS (z.i 1) (z.s 2) (z.i 3) (z.i 4) (z.i 5) (z.i 6) (z.i 7) (z.i 8) (z.s 9) (z.g 10) (z.g 11) (hT z 100) (z.p 12) (z.i 13) (z.i 14);have:=@iT (z.i 1) (z.s 2) (z.i 3) (z.i 4) (z.i 5) (z.i 6) (z.i 7) (z.i 8) (z.s 9) (z.g 10) (z.g 11) (hT z 100) (z.p 12) (z.i 13) (z.i 14);have:=@kX (z.i 1) (z.s 2) (z.i 3) (z.i 4) (z.i 5) (z.i 6) (z.i 7) (z.i 8) (z.s 9) (z.g 10) (z.g 11) (hT z 100) (z.p 12) (z.i 13) (z.i 14);have:=@nJ (z.i 1) (z.s 2) (z.i 3) (z.i 4) (z.i 5) (z.i 6) (z.i 7) (z.i 8) (z.s 9) (z.g 10) (z.g 11) (hT z 100) (z.p 12) (z.i 13) (z.i 14);have:=@oY (z.i 1) (z.s 2) (z.i 3) (z.i 4) (z.i 5) (z.i 6) (z.i 7) (z.i 8) (z.s 9) (z.g 10) (z.g 11) (hT z 100) (z.p 12) (z.i 13) (z.i 14);have:=@fc (z.i 1) (z.s 2) (z.i 3) (z.i 4) (z.i 5) (z.i 6) (z.i 7) (z.i 8) (z.s 9) (z.g 10) (z.g 11) (hT z 100) (z.p 12) (z.i 13) (z.i 14);have:=@oX (z.i 1) (z.s 2) (z.i 3) (z.i 4) (z.i 5) (oc z) (hT z 100=hZ) (z.p 12) (z.i 13) (z.i 14);have:=@kY (z.i 1) (z.s 2) (z.i 3) (z.i 4) (z.i 5) (hT z 100) (z.i 13) (z.i 14);have:=Gp (fH (z.i 1) (z.s 2) (z.i 3) (z.i 4) (z.i 5) (z.i 6) (z.i 7) (z.i 8) (z.s 9) (z.g 10) (z.g 11) (hT z 100) (z.p 12) (z.i 13) (z.i 14)) (z.i 61) (z.i 62) (z.i 64) (z.i 66) (z.g 63) (z.g 65);have:=(λe=>xG e (bN e) (hT z 400) (z.i 61) (z.i 62) (z.i 64) (z.i 66) (z.g 63) (z.g 65)) (lp (z.i 1) (z.s 2) (z.i 3) (z.i 4) (z.i 5) (hT z 100) (z.i 13) (z.i 14))
 have:=ZM (lp (z.i 1) (z.s 2) (z.i 3) (z.i 4) (z.i 5) (hT z 100) (z.i 13) (z.i 14));have:=NO (bN (lp (z.i 1) (z.s 2) (z.i 3) (z.i 4) (z.i 5) (hT z 100) (z.i 13) (z.i 14))) (z.i 62) (z.i 64) (z.g 63);have:=NP (bN (lp (z.i 1) (z.s 2) (z.i 3) (z.i 4) (z.i 5) (hT z 100) (z.i 13) (z.i 14))) (hT z 400) (z.i 62) (z.i 64) (z.g 63);have:=λb h r hh hc hr=>@ls_a b h r (z.i 62) (z.i 64) (z.g 63) hh hc hr;have:=@ls_c;have:=λg a s hg ha=>(@WK g a s hg ha).1;have:=λg a s hg ha=>(@WK g a s hg ha).2.1;have:=λg a hg ha=>(@WK g a [] hg ha).2.2;have m1:1<=z.i 64->z.i 64<=200->z.i 64%18446744073709551616=z.i 64:=λa b=>by omega
 conv=>zeta
 repeat' with_reducible first|intro _|apply ci|apply cm|apply cj|apply cD|apply cA
 all_goals first|omega|grind [ao,ak,aj,aX,aY,aZ,a_,ba,bc,be,bf,bh,aB,iR,bP,WG,kW,WJ,cy,tn33,List.length_append,List.length_cons,List.length_nil]
def WM:bq 22 UB:=bC 32 4611682353355073961 (ai RR eN) lN λz hA=>show Fm.den (let v0:=(fH (z.i 1) (z.s 2) (z.i 3) (z.i 4) (z.i 5) (z.i 6) (z.i 7) (z.i 8) (z.s 9) (z.g 10) (z.g 11) (hT z 100) (z.p 12) (z.i 13) (z.i 14));let v1:=(lp (z.i 1) (z.s 2) (z.i 3) (z.i 4) (z.i 5) (hT z 100) (z.i 13) (z.i 14));let v2:=(hT z 400);let v3:=(hT z 500);let v4:=(bN v1);(.ct (vo (z.s 2) (z.i 3) (z.i 4) (z.i 5) (z.i 7) (z.s 9) (z.g 10) (z.g 11) (hT z 100) (z.i 13) (z.i 14)/\HOk v2/\RowsOk (z.g 63)/\(z.g 63).length<=1000000/\RowsOk (z.g 65)/\(z.g 65).length<=1000000) (λy0=>(y0.p 40↔UA v0 (z.i 61) (z.i 62) (z.i 64) (z.i 66) (z.g 63) (z.g 65))/\(y0.p 40->y0.g 30=RP v1 v4 v2 (z.i 61) (z.i 62) (z.i 64) (z.i 66) (z.g 63) (z.g 65))) λy0=>(let v5:=(↑(y0.g 30).length:Int);let v6:=(¬(y0.p 40));(.two (y0.p 40) (.an (y0.p 40) (.an (y0.p 40) (.an (y0.p 40) (.two ((-9223372036854775808)<=v5-1/\v5-1<=9223372036854775807) (.an (y0.p 40) (.an (pP v5) (.an (y0.p 40) (.an (y0.p 40) (.an (y0.p 40) (.an (y0.p 40) (.an (y0.p 40) (.an (y0.p 40) (.ax (lQ (hX (aa (aM (y0.g 30) (v5-1)) 1)) v3↔ph v0 v4 v2 (z.i 61) (z.i 62) (z.i 64) (z.i 66) (z.g 63) (z.g 65) v3)))))))))) (.an (y0.p 40) (.an (0<=IntKind.i64.wrap (v5-1)/\IntKind.i64.wrap (v5-1) < ↑(y0.g 30).length) (.an (y0.p 40) (.an (y0.p 40) (.an (y0.p 40) (.an (y0.p 40) (.an (y0.p 40) (.an (y0.p 40) (.ax (lQ (hX (aa (aM (y0.g 30) (eX (v5-1))) 1)) v3↔ph v0 v4 v2 (z.i 61) (z.i 62) (z.i 64) (z.i 66) (z.g 63) (z.g 65) v3)))))))))))))) (.an v6 (.an v6 (.an v6 (.an v6 (.an v6 (.an v6 (.an v6 (.an v6 (.an v6 (.an v6 (.ax (false=true↔ph v0 v4 v2 (z.i 61) (z.i 62) (z.i 64) (z.i 66) (z.g 63) (z.g 65) v3)))))))))))))))) by
 dsimp only [UB,rv,en,hs,dg,RQ,BI,FC,IK] at hA;have:=nW (fH (z.i 1) (z.s 2) (z.i 3) (z.i 4) (z.i 5) (z.i 6) (z.i 7) (z.i 8) (z.s 9) (z.g 10) (z.g 11) (hT z 100) (z.p 12) (z.i 13) (z.i 14)) (bN (lp (z.i 1) (z.s 2) (z.i 3) (z.i 4) (z.i 5) (hT z 100) (z.i 13) (z.i 14))) (hT z 400) (z.i 61) (z.i 62) (z.i 64) (z.i 66) (z.g 63) (z.g 65) (hT z 500);have s2:=(λe=>@NQ (fH (z.i 1) (z.s 2) (z.i 3) (z.i 4) (z.i 5) (z.i 6) (z.i 7) (z.i 8) (z.s 9) (z.g 10) (z.g 11) (hT z 100) (z.p 12) (z.i 13) (z.i 14)) e (bN e) (hT z 400) (z.i 61) (z.i 62) (z.i 64) (z.i 66) (z.g 63) (z.g 65)) (lp (z.i 1) (z.s 2) (z.i 3) (z.i 4) (z.i 5) (hT z 100) (z.i 13) (z.i 14))
 dsimp only [PR] at s2;exact ft
noncomputable section
theorem WN{y:Sy}{t:Nat}{v:V8}:lQ (hT y t) (hG v)↔hT y t=hG v:=by unfold lQ;rw[nD,T4,bY,bY];exact⟨λh=>by rw[h],fD⟩
def NS(h:G)(i n:Int)(p:List G):Gn h i n p=(ms h i n p).1:=by unfold Gn;rfl
def RS(er:Int)(lh hd:G)(ab ae c n:Int)(ip op:List G)(r:G):ph er lh hd ab ae c n ip op r↔(er=0/\(1<=c/\c<=200)/\(0<=ae/\ae<c)/\(ms lh ae c ip).2)/\WC (JA lh hd ae c ip) ab n op r:=by
 rw[Gd,nW,Gp,Uz,Uz,NS];constructor
 ·rintro⟨⟨a,b,⟨c1,c2,c3⟩,⟨d1,d2,d3⟩⟩,e⟩;exact⟨⟨a,b,c1,c3⟩,d1,d2,d3,e⟩
 ·rintro⟨⟨a,b,c1,c3⟩,d1,d2,d3,e⟩;exact⟨⟨a,b,⟨c1,by omega,c3⟩,⟨d1,d2,d3⟩⟩,e⟩
def tg(m:Int)(ra:G)(n:Int)(rb:G)(p:List G):Prop:=(m=0->p.length=0/\ra=dK [])/\(¬m=0->I1 m n p ra rb)
def WO{m:Int}{ra:G}{n:Int}{rb:G}{p:List G}(h:m=0):tg m ra n rb p↔p.length=0/\ra=dK []:=⟨λa=>a.1 h,λa=>⟨λ_=>a,λb=>absurd h b⟩⟩
def Dh{m:Int}{ra:G}{n:Int}{rb:G}{p:List G}(h:¬m=0):(tg m ra n rb p↔I1 m n p ra rb)/\(tg m ra n rb p↔A8 m n p ra rb):=by
 have:tg m ra n rb p↔I1 m n p ra rb:=⟨λa=>a.2 h,λa=>⟨λb=>absurd b h,λ_=>a⟩⟩
 exact⟨this,this.trans (ZJ m n p ra rb).symm⟩
def NT:FSpec:=⟨[.ag (dg 66 500),.ag (dg 67 700),.ag [.v 6 63]],[],λz=>HOk (hT z 500)/\HOk (hT z 700)/\RowsOk (z.g 63)/\(z.g 63).length<=1000000,λ_=>.one (.c (.b 40)),λ_=>[],λz y=>y.p 40↔tg (z.i 66) (hT z 500) (z.i 67) (hT z 700) (z.g 63),none⟩
attribute [irreducible] tg
end
end Go.Proofs.YtameaobnjjcobaaGreatDoor
