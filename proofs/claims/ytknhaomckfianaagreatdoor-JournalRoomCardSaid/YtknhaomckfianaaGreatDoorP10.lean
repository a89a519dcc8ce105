/- Part 10. -/
import Derived.Test.YtknhaomckfianaaGreatDoorProg
import Derived.KernelRfl
import Derived.Test.YtknhaomckfianaaGreatDoorP8
import Derived.Test.YtknhaomckfianaaGreatDoorP9
set_option linter.all false
namespace Go.Proofs.YtknhaomckfianaaGreatDoor
open Go.Sym
set_option maxRecDepth 100000
set_option maxHeartbeats 4000000
abbrev Tb(a b:List G)(c:List Nat)(d e f g:Int):=a=a/\b=b/\c=c/\d=d/\e=e/\f=f/\g=g/\a=a/\b=b/\c=c/\d=d/\e=e/\f=f/\True
def AH:cH 207 1 sZ:=cG 62 996920995764833359449776373990861477 eN lN λp z hA=>show Fm.den (let v2:=(↑(gS (cw (bx (p.g 5) (z.i 9)))).length:Int);let v3:=(Tb (p.g 6) (p.g 5) (p.s 4) (p.i 3) (p.i 2) (p.i 1) (p.i 7));let v4:=(0<z.i 9);let v5:=(↑(p.g 5).length:Int);let v6:=(v2<(1:Int));let v7:=((40:Int)<v2);let v8:=(gf (z.i 9) (p.g 5));let v1:Fm:=(.an (AF (p.g 6) (p.g 5) (p.s 4) (p.i 3) (p.i 2) (p.i 1)) (.at (((1:Int)=0->fy (p.g 5) v5)/\(¬(1:Int)=0->(3:Int)=3/\¬fy (p.g 5) v5))));let v0:Fm:=(.an ((-9223372036854775808)<=z.i 9+1/\z.i 9+1<=9223372036854775807) (.an v3 (.at (((p.g 5).length<=1000000/\(jV (z.i 9) (p.g 5))/\fy (p.g 5) (z.i 9+1))/\(v5-(z.i 9+1)).toNat<(v5-z.i 9).toNat/\∀(y:Sy),(y.i 999=0->fy (p.g 5) v5)/\(¬y.i 999=0->y.i 10=3/\¬fy (p.g 5) v5)->(y.i 999=0->fy (p.g 5) v5)/\(¬y.i 999=0->y.i 10=3/\¬fy (p.g 5) v5)))));(.two (z.i 9 < ↑(p.g 5).length) (.an v8 (.two v6 (.an v6 (.an v6 (.an v6 (.an v6 (.an v6 (.an v6 (.an v6 v1))))))) (.an (¬v6) (.an (¬v6) (.an (¬v6) (.an v8 (.an (¬v6) (.an (¬v6) (.an (¬v6) (.an (¬v6) (.two v7 (.an v7 (.an v7 (.an v7 (.an v7 v1)))) (.an (¬v7) (.an (¬v7) (.two v4 (.an v4 (.an v4 (.an v4 (.an v8 (.an v4 (.an v4 (.an v4 (.an v4 (.an v4 (.an ((-9223372036854775808)<=z.i 9-1/\z.i 9-1<=9223372036854775807) (.an v4 (.an (0<=z.i 9-1/\z.i 9-1 < ↑(p.g 5).length) (.an v4 (.an v4 (.an (¬v7) (.an v4 (.an (¬v7) (.two (tC (gS (cw (bx (p.g 5) (z.i 9-1)))) (gS (cw (bx (p.g 5) (z.i 9))))=false) v1 v0)))))))))))))))))) (.an (¬v4) (.an (¬v4) (.an (¬v4) (.an (¬v4) (.an (¬v4) (.an (¬v4) (.an (¬v4) (.an (¬v4) (.an (¬v4) (.an (¬v4) (.an (¬v4) (.an (¬v7) (.an (¬v4) (.an (¬v7) v0)))))))))))))))))))))))))))) (.an v3 (.at (((0:Int)=0->fy (p.g 5) v5)/\(¬(0:Int)=0->(aK (((((((PS.mk [(999,Tm.i (Int.ofNat (nat_lit 0)))] ((0,(bw 0).fst,0)::q_.loc) q_.ln (p.i 7=p.i 7/\p.g 6=p.g 6/\p.g 5=p.g 5/\p.s 4=p.s 4/\p.i 3=p.i 3/\p.i 2=p.i 2/\p.i 1=p.i 1/\q_.pr) q_.fz).and (fV (p.i 1))).and (fV (p.i 2))).and (fV (p.i 3))).and (p.s 4=p.s 4)).and (p.g 5=p.g 5)).and (p.g 6=p.g 6)).tm).i 10=(3:Int)/\¬fy (p.g 5) v5)))))) by
 dsimp only [sZ,vp] at hA;have e1:=@Cv (p.g 5) (z.i 9) (p.g 5).length;have e2:=@xT (p.g 5) (z.i 9);dsimp only [IH,sU] at e1 e2;conv=>zeta
 repeat' with_reducible first|intro _|apply d_|apply ed|apply ef|apply eu|apply ew
 all_goals first|omega|grind [aA,aq,ao,II]
def E9:bI 207 (eR 0):=cC 2 2 eN lN λz hA=>show Fm.den ((.an (16<z.i 7) (.ax ((9:Int)=ge 0 (z.i 1) (z.i 2) (z.i 3) (z.s 4) (z.g 5) (z.g 6))))) by
 dsimp only [eR,va,uQ,uP] at hA;repeat' with_reducible first|intro _|apply d_|apply ed|apply ef|apply eu|apply ew
 all_goals first|omega|grind [aA,aq,ao,fw]
def AI(k:Nat)(hrcheck:bI 207 (uR k)):cH 207 3 (s_ k):=cG 7 537 (ar hrcheck eN) lN λp z hA=>show Fm.den (let v0:=(bx (p.g 6) (z.i 9));let v1:=(AF (p.g 6) (p.g 5) (p.s 4) (p.i 3) (p.i 2) (p.i 1));(.two (z.i 9 < ↑(p.g 6).length) (.an (gf (z.i 9) (p.g 6)) (.an ((-9223372036854775808)<=p.i 7+1/\p.i 7+1<=9223372036854775807) (OD (p.i 7) k (gI (ah v0 1)) (gS (ah v0 3)) (gL (ah v0 4)) (gL (ah v0 5)) (gI (ah v0 0)) (gI (ah v0 2)) λy0=>(.two (y0.i 10≠0) (.an v1 (.at (((1:Int)=0->dm k (p.g 6) 0=0)/\(¬(1:Int)=0->y0.i 10=dm k (p.g 6) 0)))) (.an ((-9223372036854775808)<=z.i 9+1/\z.i 9+1<=9223372036854775807) (.an (p.g 6=p.g 6/\p.g 5=p.g 5/\p.s 4=p.s 4/\p.i 3=p.i 3/\p.i 2=p.i 2/\p.i 1=p.i 1/\p.i 7=p.i 7/\True) (.at (S9 (p.i 7=16 - ↑k/\k<=15/\E4 k (p.g 6)/\(p.g 6).length<=1000000/\(jV (z.i 9) (p.g 6))/\dm k (p.g 6) 0=dm k (p.g 6) (z.i 9+1)) ((↑(p.g 6).length:Int)-(z.i 9+1)) ((↑(p.g 6).length:Int)-z.i 9) k (p.g 6))))))))) (.an v1 (.at (((0:Int)=0->dm k (p.g 6) 0=0)/\(¬(0:Int)=0->(aK ((((((((have __src:=q_;PS.mk [(999,Tm.i (Int.ofNat (nat_lit 0)))] __src.loc __src.ln __src.pr __src.fz).name (0,base+0,rp (kM bw z 0 (BSh.cells 25 (vp p))))).and (fV (p.i 1))).and (fV (p.i 2))).and (fV (p.i 3))).and (p.s 4=p.s 4)).and (p.g 5=p.g 5)).and (p.g 6=p.g 6)).tm).i 10=dm k (p.g 6) 0)))))) by dsimp only [s_,vp] at hA;have:=@xX k (p.g 6) (z.i 9);have:=@CE k (p.g 6) (z.i 9);have:=@uK k (p.g 6) (z.i 9);have:=eD k (aL (p.g 6) (z.i 9).toNat);have:=@me k (p.g 6) (z.i 9);have:=mZ k (aL (p.g 6) (z.i 9).toNat);exact jR
def td:∀k,bI 207 (uR k)
 |0=>E9
 |k+1=>cC 234 953442819000121726201262095695649363329921864283241058312356325173683069069044876558159509452364324075753668357220830729648882722404320343 eN (aX (ptm:=[(0,.ag va),(1,.c (.i .i64 7))]) AH (aX (ptm:=[(0,.ag va),(1,.c (.i .i64 7))]) (AI k (td k)) lN)) λz hA=>show Fm.den (let zw:=(0:Int)<=0;let v9:=(↑(z.g 5).length:Int);let v10:=((z.g 6=z.g 6/\z.g 5=z.g 5/\z.s 4=z.s 4/\z.i 3=z.i 3/\z.i 2=z.i 2/\z.i 1=z.i 1/\z.i 7=z.i 7/\True));let v11:=(↑(z.g 6).length:Int);let v8:=(z.i 7=16 - ↑k/\k<=15/\E4 k (z.g 6)/\(z.g 6).length<=1000000/\(zw/\0<=v11)/\dm k (z.g 6) 0=dm k (z.g 6) 0);let j8:=(z.i 3≠0);let l9:=(z.i 1=8);let p5:=(z.s 4≠ []);let Wv:=((0:Int)=ge (k+1) (z.i 1) (z.i 2) (z.i 3) (z.s 4) (z.g 5) (z.g 6));let F':=(z.i 2≠0);let XI:=(0<=z.i 2/\(0:Int)<10);let v4:Fm:=(.ax ((5:Int)=ge (k+1) (z.i 1) (z.i 2) (z.i 3) (z.s 4) (z.g 5) (z.g 6)));let v1:Fm:=(.cl v10 v8 (λy0=>(y0.i 999=0->dm k (z.g 6) 0=0)/\(¬y0.i 999=0->y0.i 10=dm k (z.g 6) 0)) λy0=>(.two (y0.i 999=0) (.ax Wv) (.ax (y0.i 10=ge (k+1) (z.i 1) (z.i 2) (z.i 3) (z.s 4) (z.g 5) (z.g 6)))));let v0:Fm:=(.ax ((3:Int)=ge (k+1) (z.i 1) (z.i 2) (z.i 3) (z.s 4) (z.g 5) (z.g 6)));let v7:Fm:=(.two F' v0 (.two j8 v0 v0));let v6:Fm:=(.two F' v0 (.two j8 v0 (.two (0<v9) v0 (.two (16384<(↑(z.s 4).length:Int)) v4 v1))));let v5:Fm:=(.two j8 v0 (.two p5 v0 v0));let v3:Fm:=(.two p5 v0 (.two (0<v9) v0 v1));let v2:Fm:=(.an (¬l9) (.two (v9≠v11) v0 (.cl ((Tb (z.g 6) (z.g 5) (z.s 4) (z.i 3) (z.i 2) (z.i 1) (z.i 7))) ((z.g 5).length<=1000000/\(zw/\0<=v9)/\fy (z.g 5) 0) (λy0=>(y0.i 999=0->fy (z.g 5) v9)/\(¬y0.i 999=0->y0.i 10=3/\¬fy (z.g 5) v9)) λy0=>(.two (y0.i 999=0) (.cl v10 v8 (λy1=>(y1.i 999=0->dm k (z.g 6) 0=0)/\(¬y1.i 999=0->y1.i 10=dm k (z.g 6) 0)) λy1=>(.two (y1.i 999=0) (.ax Wv) (.ax (y1.i 10=ge (k+1) (z.i 1) (z.i 2) (z.i 3) (z.s 4) (z.g 5) (z.g 6))))) (.ax (y0.i 10=ge (k+1) (z.i 1) (z.i 2) (z.i 3) (z.s 4) (z.g 5) (z.g 6)))))));(.an (¬(16<z.i 7)) (.two (0<v11) (.two (z.i 1=1) (.two F' v0 v5) (.two (z.i 1=2) (.two (z.i 2<0) v0 (.two (1<z.i 2) v0 v5)) (.two (z.i 1=3) v5 (.two (z.i 1=4) (.two (z.i 3<1) v0 (.two (18<z.i 3) v0 (.an ((10:Int)≠0) (.two XI (.two (z.i 2%10=0) v0 (.two p5 v0 v0)) (.two ((z.i 2).tmod 10=0) v0 (.two p5 v0 v0)))))) (.two (z.i 1=5) (.two (z.i 2<0) v0 (.two (9007199254740992<z.i 2) v0 v5)) (.two (z.i 1=6) (.an (z.i 1=6) v7) (.two (z.i 1=7) v7 (.two l9 (.an l9 (.two F' v0 (.two j8 v0 (.two p5 v0 (.an l9 (.two (0<v9) v0 (.two (200<v11) v4 (.an l9 v1)))))))) (.two (z.i 1=9) (.two F' v0 (.two j8 v0 (.two p5 v0 (.an (¬l9) (.two (200<v11) v4 v2))))) v0))))))))) (.two (z.i 1=1) (.two F' v0 (.two j8 v0 v3)) (.two (z.i 1=2) (.two (z.i 2<0) v0 (.two (1<z.i 2) v0 (.two j8 v0 v3))) (.two (z.i 1=3) (.two j8 v0 v3) (.two (z.i 1=4) (.two (z.i 3<1) v0 (.two (18<z.i 3) v0 (.an ((10:Int)≠0) (.two XI (.two (z.i 2%10=0) v0 v3) (.two ((z.i 2).tmod 10=0) v0 v3))))) (.two (z.i 1=5) (.two (z.i 2<0) v0 (.two (9007199254740992<z.i 2) v0 (.two j8 v0 v3))) (.two (z.i 1=6) (.an (z.i 1=6) v6) (.two (z.i 1=7) v6 (.two l9 (.an l9 (.two F' v0 (.two j8 v0 (.two p5 v0 (.an l9 (.two (0<v9) v0 (.an (¬(200<v11)) (.an l9 v1)))))))) (.two (z.i 1=9) (.two F' v0 (.two j8 v0 (.two p5 v0 (.an (¬l9) (.an (¬(200<v11)) v2))))) v0)))))))))))) by dsimp only [uR,eR,va,uQ,uP] at hA;have:=UD z;have:=@Cw (z.i 1) (z.i 2) (z.i 3) (z.s 4) (z.g 5) (z.g 6);have:=@Cx (z.i 1) (z.i 2) (z.i 3) (z.s 4) (z.g 5) (z.g 6);have:=@Cy (z.i 1) (z.i 2) (z.i 3) (z.s 4) (z.g 5) (z.g 6);have:=@Cz (z.i 1) (z.i 2) (z.i 3) (z.s 4) (z.g 5) (z.g 6);have:=oz z;have:=@CA (z.i 1) (z.i 2) (z.i 3) (z.s 4) (z.g 5) (z.g 6);have:=@CB (z.i 1) (z.i 2) (z.i 3) (z.s 4) (z.g 5) (z.g 6);have:=@CC (z.i 1) (z.i 2) (z.i 3) (z.s 4) (z.g 5) (z.g 6);have:=@IK (z.i 1) (z.i 2) (z.i 3) (z.s 4) (z.g 5) (z.g 6);have:=@xU (z.i 1) (z.i 2) (z.i 3) (z.s 4) (z.g 5) (z.g 6);have:=@xV (z.i 1) (z.i 2) (z.i 3) (z.s 4) (z.g 5) (z.g 6);have f3:=@xW (z.i 1) (z.i 2) (z.i 3) (z.s 4) (z.g 5) (z.g 6);have f4:=@IM (z.i 1) (z.i 2) (z.i 3) (z.s 4) (z.g 5) (z.g 6);have:=S8 (z.i 2);dsimp only [nP] at f3 f4;have:=UF k z;have:=UG k z;have:=@xS (z.g 5) 0;have:=vG k z;have:=FW k z;exact jR
def I9:bI 130 CK:=cC 1 0 (ar (td 16) eN) lN λz hA=>show Fm.den ((.ct ((1:Int)=17-16/\16<=16/\qw 16 (z.i 2) (z.s 4) (z.g 5) (z.g 6)) (λy0=>y0.i 10=ge 16 (z.i 1) (z.i 2) (z.i 3) (z.s 4) (z.g 5) (z.g 6)) λy0=>(.ax (y0.i 10=ge 16 (z.i 1) (z.i 2) (z.i 3) (z.s 4) (z.g 5) (z.g 6))))) by dsimp only [CK,ou,va,uQ,uP] at hA;exact jR
abbrev yj(a:Int):=0<=a/\a<=2000000
def E_(k:Nat)(ad2:bI 131 (AE k)):cH 131 0 (yg k):=cG 6 37 (ar ad2 eN) lN λp z hA=>show Fm.den (let v1:=(bx (p.g 6) (z.i 9));let v2:=(AF (p.g 6) (p.g 5) (p.s 4) (p.i 3) (p.i 2) (p.i 1));let v3:=(sX k (p.g 6) 0);let v4:=(↑(Ms k (gS (ah v1 3)) (gL (ah v1 5))):Int);let v5:=(↑v3:Int);let v0:Fm:=(.an v2 (.at ((yj (z.i 7))/\(z.i 7<=65536->p.i 7+ ↑v3=z.i 7)/\(65536<z.i 7->65536<p.i 7+v5))));(.two (z.i 9 < ↑(p.g 6).length) (.two (z.i 7<=65536) (.an (gf (z.i 9) (p.g 6)) (.ct (ge k (gI (ah v1 0)) (gI (ah v1 1)) (gI (ah v1 2)) (gS (ah v1 3)) (gL (ah v1 4)) (gL (ah v1 5))=(0:Int)/\0<=z.i 7/\z.i 7<=65536) (λy0=>(yj (y0.i 7))/\(y0.i 7<=65536->z.i 7+v4=y0.i 7)/\(65536<y0.i 7->65536<z.i 7+v4)/\(y0.p 10↔65536<y0.i 7)) λy0=>(.an ((-9223372036854775808)<=z.i 9+1/\z.i 9+1<=9223372036854775807) (.an v2 (.at ((dm k (p.g 6) 0=0/\(p.g 6).length<=200/\(jV (z.i 9) (p.g 6))/\(yj (y0.i 7))/\(y0.i 7<=65536->p.i 7+ ↑v3=y0.i 7+ ↑(sX k (p.g 6) (z.i 9+1)))/\(65536<y0.i 7->65536<p.i 7+v5))/\((↑(p.g 6).length:Int)-(z.i 9+1)).toNat<((↑(p.g 6).length:Int)-z.i 9).toNat/\∀(y:Sy),(0<=y.i 7/\y.i 7<=2000000)/\(y.i 7<=65536->p.i 7+ ↑v3=y.i 7)/\(65536<y.i 7->65536<p.i 7+v5)->(0<=y.i 7/\y.i 7<=2000000)/\(y.i 7<=65536->p.i 7+ ↑v3=y.i 7)/\(65536<y.i 7->65536<p.i 7+v5))))))) v0) v0)) by dsimp only [yg,vp] at hA;have:=@yb k (p.g 6) (z.i 9);have:=@uO k (p.g 6) (z.i 9);have:=AC k (aL (p.g 6) (z.i 9).toNat);have:=eD k (aL (p.g 6) (z.i 9).toNat);have:=@jH k (p.g 6) (z.i 9);exact jR
def yl:∀k,bI 131 (AE k)
 |0=>RX λz h=>absurd ((fw _ _ _ _ _ _).symm.trans h.1) (by decide)
 |k+1=>cC 4 6 eN (aX (ptm:=[(0,.ag va),(14,.c (.i .i64 7))]) (E_ k (yl k)) lN) λz hA=>show Fm.den (let v0:=(↑(z.s 4).length:Int);let v1:=(sX k (z.g 6) 0);let v2:=((AF (z.g 6) (z.g 5) (z.s 4) (z.i 3) (z.i 2) (z.i 1)));let v3:=(z.i 7+1+v0);let v4:=(Ms (k+1) (z.s 4) (z.g 6));let v5:=(rz (↑(z.g 6).length:Int));let v6:=(↑v1:Int);(.an ((-9223372036854775808)<=z.i 7+1/\z.i 7+1<=9223372036854775807) (.two ((-9223372036854775808)<=z.i 7+1+v0/\z.i 7+1+ ↑(z.s 4).length<=9223372036854775807) (.cl v2 (dm k (z.g 6) 0=0/\(z.g 6).length<=200/\v5/\(0<=z.i 7+1+v0/\z.i 7+1+ ↑(z.s 4).length<=2000000)/\(z.i 7+1+ ↑(z.s 4).length<=65536->z.i 7+1+ ↑(z.s 4).length+ ↑v1=z.i 7+1+ ↑(z.s 4).length+ ↑v1)/\(65536<z.i 7+1+v0->65536<z.i 7+1+v0+v6)) (λy0=>(yj (y0.i 7))/\(y0.i 7<=65536->z.i 7+1+ ↑(z.s 4).length+ ↑v1=y0.i 7)/\(65536<y0.i 7->65536<z.i 7+1+v0+v6)) λy0=>(.ax ((yj (y0.i 7))/\(y0.i 7<=65536->z.i 7+ ↑v4=y0.i 7)/\(65536<y0.i 7->65536<z.i 7+(↑v4:Int))/\(65536<y0.i 7↔65536<y0.i 7)))) (.cl v2 (dm k (z.g 6) 0=0/\(z.g 6).length<=200/\v5/\(0<=IntKind.i64.wrap v3/\IntKind.i64.wrap v3<=2000000)/\(IntKind.i64.wrap v3<=65536->IntKind.i64.wrap v3+ ↑v1=IntKind.i64.wrap v3+ ↑v1)/\(65536<IntKind.i64.wrap v3->65536<IntKind.i64.wrap v3+v6)) (λy0=>(yj (y0.i 7))/\(y0.i 7<=65536->IntKind.i64.wrap v3+ ↑v1=y0.i 7)/\(65536<y0.i 7->65536<IntKind.i64.wrap v3+v6)) λy0=>(.ax ((yj (y0.i 7))/\(y0.i 7<=65536->z.i 7+ ↑v4=y0.i 7)/\(65536<y0.i 7->65536<z.i 7+(↑v4:Int))/\(65536<y0.i 7↔65536<y0.i 7))))))) by dsimp only [AE,va,uP] at hA;have:=UF k z;have:=UG k z;have:=Vj z;have:=IR k (z.s 4) (z.g 6);exact jR
abbrev Tc(a:Prop)(b c d:Int)(e:List Nat)(f g:List G):=Fm.cl (a) (ge 16 b c d e f g=(0:Int)/\qw 16 c e f g/\0+sW 16 e g<=100000000) (λy=>y.s 20= []++dw 16 b c d e f g)
def Fa:bI 71 yf:=cC 7 273 (ar I9 (ar (yl 16) (ar (yi 16) eN))) lN λz hA=>show Fm.den (let v1:=(fA (z.i 1) (z.i 2) (z.i 3) (z.s 4) (z.g 5) (z.g 6)=(0:Int)-> []=dw 16 (z.i 1) (z.i 2) (z.i 3) (z.s 4) (z.g 5) (z.g 6)/\(dw 16 (z.i 1) (z.i 2) (z.i 3) (z.s 4) (z.g 5) (z.g 6)).length<=65536);let v2:=(¬fA (z.i 1) (z.i 2) (z.i 3) (z.s 4) (z.g 5) (z.g 6)=(0:Int)->E1);let v3:=(↑(Ms 16 (z.s 4) (z.g 6)):Int);let v0:Fm:=(.ax ((5:Int)=fA (z.i 1) (z.i 2) (z.i 3) (z.s 4) (z.g 5) (z.g 6)/\v1/\v2));(.ct (qw 16 (z.i 2) (z.s 4) (z.g 5) (z.g 6)) (λy0=>y0.i 10=ge 16 (z.i 1) (z.i 2) (z.i 3) (z.s 4) (z.g 5) (z.g 6)) λy0=>(.two (y0.i 10≠0) (.ax (y0.i 10=fA (z.i 1) (z.i 2) (z.i 3) (z.s 4) (z.g 5) (z.g 6)/\v1/\v2)) (.ct (ge 16 (z.i 1) (z.i 2) (z.i 3) (z.s 4) (z.g 5) (z.g 6)=(0:Int)/\(0:Int)<=0/\(0:Int)<=65536) (λy1=>(yj (y1.i 7))/\(y1.i 7<=65536->0+v3=y1.i 7)/\(65536<y1.i 7->65536<0+v3)/\(y1.p 10↔65536<y1.i 7)) λy1=>(.two (y1.p 10) v0 (Tc (Av) (z.i 1) (z.i 2) (z.i 3) (z.s 4) (z.g 5) (z.g 6) λy2=>(.two (65536<(↑(y2.s 20).length:Int)) v0 (.an (pZ (y2.s 20)) (.at ((0:Int)=fA (z.i 1) (z.i 2) (z.i 3) (z.s 4) (z.g 5) (z.g 6)/\(fA (z.i 1) (z.i 2) (z.i 3) (z.s 4) (z.g 5) (z.g 6)=(0:Int)->y2.s 20=dw 16 (z.i 1) (z.i 2) (z.i 3) (z.s 4) (z.g 5) (z.g 6)/\(dw 16 (z.i 1) (z.i 2) (z.i 3) (z.s 4) (z.g 5) (z.g 6)).length<=65536)/\(¬fA (z.i 1) (z.i 2) (z.i 3) (z.s 4) (z.g 5) (z.g 6)=(0:Int)->y2.s 20= []))))))))))) by dsimp only [yf,ow,va,R0,uQ,OC,IU] at hA;have:=@CL (z.i 1) (z.i 2) (z.i 3) (z.s 4) (z.g 5) (z.g 6);have:=@ye (z.i 1) (z.i 2) (z.i 3) (z.s 4) (z.g 5) (z.g 6);have:=@IX (z.i 1) (z.i 2) (z.i 3) (z.s 4) (z.g 5) (z.g 6);have v1:=CP z;have v2:=I8 z;dsimp only [uP,IU,uQ] at v1 v2;exact jR
abbrev UH(a:Int)(b:List Nat)(c d:List G)(e f:Int)(g:List Nat):=Fm.ct (qw 16 a b c d/\sW 16 b d<=10000000) (λy=>y.i 11=fA e a f b c d/\(fA e a f b c d=(0:Int)->y.s 10=dw 16 e a f b c d/\g.length<=65536)/\(¬fA e a f b c d=(0:Int)->y.s 10= []))
abbrev Qe(a:List Nat):=Fm.ct (a.length<=999999) (λy=>hT y 300=dV a)
def Mz:bI 30 IZ:=cC 3 1 (ar Fa (ar Mo eN)) lN λz hA=>show Fm.den ((UH (z.i 2) (z.s 4) (z.g 5) (z.g 6) (z.i 1) (z.i 3) (dw 16 (z.i 1) (z.i 2) (z.i 3) (z.s 4) (z.g 5) (z.g 6)) λy0=>(.two (y0.i 11≠0) (.ax (y0.i 11=fA (z.i 1) (z.i 2) (z.i 3) (z.s 4) (z.g 5) (z.g 6)/\hZ=vF (z.i 1) (z.i 2) (z.i 3) (z.s 4) (z.g 5) (z.g 6))) (Qe (y0.s 10) λy1=>(.ax ((0:Int)=fA (z.i 1) (z.i 2) (z.i 3) (z.s 4) (z.g 5) (z.g 6)/\hT y1 300=vF (z.i 1) (z.i 2) (z.i 3) (z.s 4) (z.g 5) (z.g 6))))))) by dsimp only [IZ,CO,va,R0,uQ,OC,Vi] at hA;have:=@IY (z.i 1) (z.i 2) (z.i 3) (z.s 4) (z.g 5) (z.g 6);have:=@CN (z.i 1) (z.i 2) (z.i 3) (z.s 4) (z.g 5) (z.g 6);exact jR
def qy:bI 114 ow:=cC 5 17 (ar I3 (ar (I7 16) eN)) lN λz hA=>show Fm.den (let v0:=(fA (z.i 1) (z.i 2) (z.i 3) (z.s 4) (z.g 5) (z.g 6)=(0:Int)-> []=dw 16 (z.i 1) (z.i 2) (z.i 3) (z.s 4) (z.g 5) (z.g 6)/\(dw 16 (z.i 1) (z.i 2) (z.i 3) (z.s 4) (z.g 5) (z.g 6)).length<=65536);let v1:=(¬fA (z.i 1) (z.i 2) (z.i 3) (z.s 4) (z.g 5) (z.g 6)=(0:Int)->E1);(.ct (qw 16 (z.i 2) (z.s 4) (z.g 5) (z.g 6)) (λy0=>y0.i 10=ge 16 (z.i 1) (z.i 2) (z.i 3) (z.s 4) (z.g 5) (z.g 6)) λy0=>(.two (y0.i 10≠0) (.ax (y0.i 10=fA (z.i 1) (z.i 2) (z.i 3) (z.s 4) (z.g 5) (z.g 6)/\v0/\v1)) (Tc (Av) (z.i 1) (z.i 2) (z.i 3) (z.s 4) (z.g 5) (z.g 6) λy1=>(.two (65536<(↑(y1.s 20).length:Int)) (.ax ((5:Int)=fA (z.i 1) (z.i 2) (z.i 3) (z.s 4) (z.g 5) (z.g 6)/\v0/\v1)) (.an (pZ (y1.s 20)) (.at ((0:Int)=fA (z.i 1) (z.i 2) (z.i 3) (z.s 4) (z.g 5) (z.g 6)/\(fA (z.i 1) (z.i 2) (z.i 3) (z.s 4) (z.g 5) (z.g 6)=(0:Int)->y1.s 20=dw 16 (z.i 1) (z.i 2) (z.i 3) (z.s 4) (z.g 5) (z.g 6)/\(dw 16 (z.i 1) (z.i 2) (z.i 3) (z.s 4) (z.g 5) (z.g 6)).length<=65536)/\(¬fA (z.i 1) (z.i 2) (z.i 3) (z.s 4) (z.g 5) (z.g 6)=(0:Int)->y1.s 20= []))))))))) by dsimp only [ow,va,R0,uQ,OC,IU] at hA;have:=@CL (z.i 1) (z.i 2) (z.i 3) (z.s 4) (z.g 5) (z.g 6);have:=@ye (z.i 1) (z.i 2) (z.i 3) (z.s 4) (z.g 5) (z.g 6);have:=@IX (z.i 1) (z.i 2) (z.i 3) (z.s 4) (z.g 5) (z.g 6);have v1:=CP z;have v2:=I8 z;dsimp only [uP,IU,uQ] at v1 v2;exact jR
def Qf:bI 93 CO:=cC 3 1 (ar qy (ar Cu eN)) lN λz hA=>show Fm.den ((UH (z.i 2) (z.s 4) (z.g 5) (z.g 6) (z.i 1) (z.i 3) (dw 16 (z.i 1) (z.i 2) (z.i 3) (z.s 4) (z.g 5) (z.g 6)) λy0=>(.two (y0.i 11≠0) (.ax (y0.i 11=fA (z.i 1) (z.i 2) (z.i 3) (z.s 4) (z.g 5) (z.g 6)/\hZ=vF (z.i 1) (z.i 2) (z.i 3) (z.s 4) (z.g 5) (z.g 6))) (Qe (y0.s 10) λy1=>(.ax ((0:Int)=fA (z.i 1) (z.i 2) (z.i 3) (z.s 4) (z.g 5) (z.g 6)/\hT y1 300=vF (z.i 1) (z.i 2) (z.i 3) (z.s 4) (z.g 5) (z.g 6))))))) by dsimp only [CO,va,R0,uQ,OC,Vi] at hA;have:=@IY (z.i 1) (z.i 2) (z.i 3) (z.s 4) (z.g 5) (z.g 6);have:=@CN (z.i 1) (z.i 2) (z.i 3) (z.s 4) (z.g 5) (z.g 6);exact jR
noncomputable section
def rc(kd i sc:Int)(t:List Nat)(ns ks:List G):Prop:=kd=0/\i=0/\sc=0/\t= []/\ns.length=0/\ks.length=0
def dn(kd i sc:Int)(t:List Nat)(ns ks:List G):rc kd i sc t ns ks↔kd=0/\i=0/\sc=0/\t= []/\ns.length=0/\ks.length=0:=Iff.rfl
def kW(kd:Int)(tx:List Nat)(tb dc vr:Int)(bl hz gn:Prop)(ab ae:Int):Prop:=
 if kd=1 then(1<=tx.length/\tx.length<=4096)/\tb=0/\dc=0/\vr=0/\bl/\hz/\¬gn/\ab=0/\ae=0
 else if kd=2 then(1<=tb/\tb<=64)/\(1<=dc/\dc<=65536)/\(0<=vr/\vr<=2147483648)/\tx= []/\ab=0/\ae=0/\(gn->bl)
 else if kd=3 then(1<=tb/\tb<=64)/\(1<=dc/\dc<=65536)/\(1<=vr/\vr<=2147483648)/\tx= []/\bl/\hz/\¬gn/\ab=0/\ae=0
 else if kd=4 then(0<=ab/\ab<=2147483648)/\(0<=ae/\ae<=2147483648)/\tx= []/\tb=0/\dc=0/\vr=0/\bl/\hz/\¬gn
 else if kd=5 then(1<=tb/\tb<=64)/\(1<=tx.length/\tx.length<=40)/\dc=0/\vr=0/\bl/\hz/\¬gn/\ab=0/\ae=0
 else if kd=7 then(1<=tb/\tb<=64)/\(1<=tx.length/\tx.length<=40)/\dc=0/\vr=0/\bl/\hz/\¬gn/\ab=0/\ae=0
 else if kd=6 then(1<=tb/\tb<=64)/\tx= []/\dc=0/\vr=0/\bl/\hz/\¬gn/\ab=0/\ae=0
 else False
section
variable{kd:Int}{tx:List Nat}{tb dc vr:Int}{bl hz gn:Prop}{ab ae:Int}
def I_(h:kd=1):kW kd tx tb dc vr bl hz gn ab ae↔(1<=tx.length/\tx.length<=4096)/\tb=0/\dc=0/\vr=0/\bl/\hz/\¬gn/\ab=0/\ae=0:=by subst h;rfl
def Ja(h:kd=2):kW kd tx tb dc vr bl hz gn ab ae↔(1<=tb/\tb<=64)/\(1<=dc/\dc<=65536)/\(0<=vr/\vr<=2147483648)/\tx= []/\ab=0/\ae=0/\(gn->bl):=by subst h;rfl
def Jb(h:kd=3):kW kd tx tb dc vr bl hz gn ab ae↔(1<=tb/\tb<=64)/\(1<=dc/\dc<=65536)/\(1<=vr/\vr<=2147483648)/\tx= []/\bl/\hz/\¬gn/\ab=0/\ae=0:=by subst h;rfl
def Jc(h:kd=4):kW kd tx tb dc vr bl hz gn ab ae↔(0<=ab/\ab<=2147483648)/\(0<=ae/\ae<=2147483648)/\tx= []/\tb=0/\dc=0/\vr=0/\bl/\hz/\¬gn:=by subst h;rfl
def Jd(h:kd=5):kW kd tx tb dc vr bl hz gn ab ae↔(1<=tb/\tb<=64)/\(1<=tx.length/\tx.length<=40)/\dc=0/\vr=0/\bl/\hz/\¬gn/\ab=0/\ae=0:=by subst h;rfl
def Je(h:kd=7):kW kd tx tb dc vr bl hz gn ab ae↔(1<=tb/\tb<=64)/\(1<=tx.length/\tx.length<=40)/\dc=0/\vr=0/\bl/\hz/\¬gn/\ab=0/\ae=0:=by subst h;rfl
def Jf(h:kd=6):kW kd tx tb dc vr bl hz gn ab ae↔(1<=tb/\tb<=64)/\tx= []/\dc=0/\vr=0/\bl/\hz/\¬gn/\ab=0/\ae=0:=by subst h;rfl
def OE(h:kd<1∨7<kd):¬kW kd tx tb dc vr bl hz gn ab ae:=by unfold kW;rw[if_neg (by omega),if_neg (by omega),if_neg (by omega),if_neg (by omega),if_neg (by omega),if_neg (by omega),if_neg (by omega)];exact id
def Jg(h:kW kd tx tb dc vr bl hz gn ab ae):1<=kd/\kd<=7:=by
 by_cases e:kd<1∨7<kd
 ·exact absurd h (OE e)
 ·omega
def AJ(h:kW kd tx tb dc vr bl hz gn ab ae):(0<=tb/\tb<=64)/\(0<=dc/\dc<=65536)/\(0<=vr/\vr<=2147483648)/\tx.length<=4096/\(0<=ab/\ab<=2147483648)/\(0<=ae/\ae<=2147483648):=by
 obtain⟨h1,h2⟩:=Jg h;have hd:kd=1∨kd=2∨kd=3∨kd=4∨kd=5∨kd=6∨kd=7:=by omega
 have t0:tx= []->tx.length=0:=λe=>by rw[e];rfl
 rcases hd with e|e|e|e|e|e|e
 ·have:=(I_ e).1 h;refine⟨?_, ?_, ?_, ?_, ?_, ?_⟩ <;> omega
 ·have:=(Ja e).1 h;have:=t0 this.2.2.2.1;refine⟨?_, ?_, ?_, ?_, ?_, ?_⟩ <;> omega
 ·have:=(Jb e).1 h;have:=t0 this.2.2.2.1;refine⟨?_, ?_, ?_, ?_, ?_, ?_⟩ <;> omega
 ·have:=(Jc e).1 h;have:=t0 this.2.2.1;refine⟨?_, ?_, ?_, ?_, ?_, ?_⟩ <;> omega
 ·have:=(Jd e).1 h;refine⟨?_, ?_, ?_, ?_, ?_, ?_⟩ <;> omega
 ·have:=(Jf e).1 h;have:=t0 this.2.1;refine⟨?_, ?_, ?_, ?_, ?_, ?_⟩ <;> omega
 ·have:=(Je e).1 h;refine⟨?_, ?_, ?_, ?_, ?_, ?_⟩ <;> omega
end
def ym{a b:Nat}:Nat.lor a b=0↔a=0/\b=0:=by
 constructor
 ·intro h;have h:a ||| b=0:=h;exact Nat.or_eq_zero_iff.1 h
 ·rintro⟨rfl,rfl⟩;rfl
def qA{n:Int}(h: -9223372036854775808<=n/\n<9223372036854775808):aD (ai .i64) n=0↔n=0:=by
 cases n with
 |ofNat m=>
  show m%18446744073709551616=0↔_;have:(m:Int)<9223372036854775808:=h.2;constructor
  ·intro e;have:m=0:=by omega
   subst this;rfl
  ·intro e;have:m=0:=by simpa using e
   subst this;rfl
 |negSucc m=>
  show 18446744073709551615-m%18446744073709551616=0↔_;have:=h.1;constructor
  ·intro e;omega
  ·intro e;cases e
def AK(n:Int):aD (ai .i64) n<18446744073709551616:=by
 cases n with
 |ofNat m=>exact Nat.mod_lt _ (by decide)
 |negSucc m=>show 18446744073709551615-m%18446744073709551616<_;omega
def qB{u:Nat}(h:u<18446744073709551616):IntKind.i64.wrap (Int.ofNat u)=0↔u=0:=by
 have:=P6 (Int.ofNat u);constructor
 ·intro e;rw[e] at this;have e2:(Int.ofNat u)%18446744073709551616=(u:Int):=by show(u:Int)%_=_;omega
  omega
 ·rintro rfl;rfl
def Jh(u:Nat)(h:u<18446744073709551616):aD (ai .i64) (IntKind.i64.wrap (Int.ofNat u))=u:=by
 have h1:=P6 (Int.ofNat u)
 have h1:IntKind.i64.wrap (Int.ofNat u)%18446744073709551616=(u:Int):=by rw[h1];show(u:Int)%_=_;omega
 generalize IntKind.i64.wrap (Int.ofNat u)=n at h1
 cases n with
 |ofNat m=>show m%18446744073709551616=u;have h1:(m:Int)%18446744073709551616=u:=h1;omega
 |negSucc m=>show 18446744073709551615-m%18446744073709551616=u;have h1:(Int.negSucc m)%18446744073709551616=u:=h1;omega
def Wf{x y z:Int}(hx: -9223372036854775808<=x/\x<9223372036854775808)(hy: -9223372036854775808<=y/\y<9223372036854775808)(hz: -9223372036854775808<=z/\z<9223372036854775808):
 IntKind.i64.wrap (Int.ofNat ((aD (ai .i64) (IntKind.i64.wrap (Int.ofNat ((aD (ai .i64) x).lor (aD (ai .i64) y))))).lor (aD (ai .i64) z)))=0↔x=0/\y=0/\z=0:=by
 have l1:(aD (ai .i64) x).lor (aD (ai .i64) y)<18446744073709551616:=Nat.or_lt_two_pow (n:=64) (AK x) (AK y)
 have l2:((aD (ai .i64) x).lor (aD (ai .i64) y)).lor (aD (ai .i64) z)<18446744073709551616:=Nat.or_lt_two_pow (n:=64) l1 (AK z)
 rw[Jh _ l1,qB l2,ym,ym,qA hx,qA hy,qA hz,and_assoc]
def mf(kd:Int)(tx:List Nat)(tb dc vr vk vi vs:Int)(vt:List Nat)(vn vx:List G)(h:G)(gn:Prop)(ab ae:Int):Int:=
 @ite Int (¬kW kd tx tb dc vr (rc vk vi vs vt vn vx) (h=hZ) gn ab ae) (Classical.propDecidable _) 3
  (@ite Int (kd=2/\¬gn) (Classical.propDecidable _) (@ite Int (fA vk vi vs vt vn vx=0) (Classical.propDecidable _) (@ite Int (vF vk vi vs vt vn vx=h) (Classical.propDecidable _) 0 18) (fA vk vi vs vt vn vx)) 0)
section
variable{kd:Int}{tx:List Nat}{tb dc vr vk vi vs:Int}{vt:List Nat}{vn vx:List G}{h:G}{gn:Prop}{ab ae:Int}
def qC(h1:¬kW kd tx tb dc vr (rc vk vi vs vt vn vx) (h=hZ) gn ab ae):mf kd tx tb dc vr vk vi vs vt vn vx h gn ab ae=3:=if_pos h1
def yn(h1:kW kd tx tb dc vr (rc vk vi vs vt vn vx) (h=hZ) gn ab ae)(h2:¬(kd=2/\¬gn)):mf kd tx tb dc vr vk vi vs vt vn vx h gn ab ae=0:=by unfold mf;rw[if_neg (Classical.not_not.2 h1),if_neg h2]
def uS(h1:kW kd tx tb dc vr (rc vk vi vs vt vn vx) (h=hZ) gn ab ae)(h2:kd=2/\¬gn)(h3:¬fA vk vi vs vt vn vx=0):mf kd tx tb dc vr vk vi vs vt vn vx h gn ab ae=fA vk vi vs vt vn vx:=by unfold mf;rw[if_neg (Classical.not_not.2 h1),if_pos h2,if_neg h3]
def CQ(h1:kW kd tx tb dc vr (rc vk vi vs vt vn vx) (h=hZ) gn ab ae)(h2:kd=2/\¬gn)(h3:fA vk vi vs vt vn vx=0)(h4:¬vF vk vi vs vt vn vx=h):mf kd tx tb dc vr vk vi vs vt vn vx h gn ab ae=18:=by unfold mf;rw[if_neg (Classical.not_not.2 h1),if_pos h2,if_pos h3,if_neg h4]
def Ji(h1:kW kd tx tb dc vr (rc vk vi vs vt vn vx) (h=hZ) gn ab ae)(h2:kd=2/\¬gn)(h3:fA vk vi vs vt vn vx=0)(h4:vF vk vi vs vt vn vx=h):mf kd tx tb dc vr vk vi vs vt vn vx h gn ab ae=0:=by unfold mf;rw[if_neg (Classical.not_not.2 h1),if_pos h2,if_pos h3,if_pos h4]
def jI(h0:mf kd tx tb dc vr vk vi vs vt vn vx h gn ab ae=0):kW kd tx tb dc vr (rc vk vi vs vt vn vx) (h=hZ) gn ab ae/\(kd=2/\¬gn->fA vk vi vs vt vn vx=0):=by
 by_cases h1:kW kd tx tb dc vr (rc vk vi vs vt vn vx) (h=hZ) gn ab ae
 ·refine⟨h1,λh2=>?_⟩;by_cases h3:fA vk vi vs vt vn vx=0
  ·exact h3
  ·rw[uS h1 h2 h3] at h0;exact absurd h0 h3
 ·rw[qC h1] at h0;cases h0
end
def FY(tx:List Nat)(tb dc vr vi:Int)(vt:List Nat)(vn vx:List G)(h:G)(ab ae:Int):Prop:=
 tx.length<=1000000/\(-9223372036854775808<=tb/\tb<9223372036854775808)/\(-9223372036854775808<=dc/\dc<9223372036854775808)/\(-9223372036854775808<=vr/\vr<9223372036854775808)/\
 (-9223372036854775808<=ab/\ab<9223372036854775808)/\(-9223372036854775808<=ae/\ae<9223372036854775808)/\qw 16 vi vt vn vx/\sW 16 vt vx<=10000000/\cD h
def jJ{tx:List Nat}{tb dc vr vi:Int}{vt:List Nat}{vn vx:List G}{h:G}{ab ae:Int}(h0:FY tx tb dc vr vi vt vn vx h ab ae):tx.length<=1000000/\(-9223372036854775808<=tb/\tb<9223372036854775808)/\(-9223372036854775808<=dc/\dc<9223372036854775808)/\(-9223372036854775808<=vr/\vr<9223372036854775808)/\
 (-9223372036854775808<=ab/\ab<9223372036854775808)/\(-9223372036854775808<=ae/\ae<9223372036854775808)/\qw 16 vi vt vn vx/\sW 16 vt vx<=10000000/\cD h:=h0
def AL(kd:Int)(tx:List Nat)(tb dc vr:Int)(h:G)(ab ae:Int):List Nat:=
 (kd%256).toNat::(aG tb.toNat++(aG dc.toNat++(aG vr.toNat++(aG tx.length++(tx++(aG ab.toNat++(aG ae.toNat++(if kd=2 then hB h else []))))))))
def MA{kd:Int}{tx:List Nat}{tb dc vr:Int}{h:G}{ab ae:Int}(e:kd=2):AL kd tx tb dc vr h ab ae= [(kd%256).toNat]++(aG tb.toNat++(aG dc.toNat++(aG vr.toNat++(aG tx.length++(tx++(aG ab.toNat++(aG ae.toNat++hB h))))))):=by unfold AL;rw[if_pos e];rfl
def Jj{kd:Int}{tx:List Nat}{tb dc vr:Int}{h:G}{ab ae:Int}(e:¬kd=2):AL kd tx tb dc vr h ab ae= [(kd%256).toNat]++(aG tb.toNat++(aG dc.toNat++(aG vr.toNat++(aG tx.length++(tx++(aG ab.toNat++aG ae.toNat)))))):=by unfold AL;rw[if_neg e,abo];rfl
theorem dW{n:Int}(h:n<18446744073709551616):(aG n.toNat).length<=10:=bW h
theorem jn{n:Nat}(h:n<18446744073709551616):(aG n).length<=10:=uB 10 n (Zm h (by decide)) (by decide)
def CR{kd:Int}{tx:List Nat}{tb dc vr:Int}{h:G}{ab ae:Int}(h1:tb<9223372036854775808)(h2:dc<9223372036854775808)(h3:vr<9223372036854775808)(h4:ab<9223372036854775808)(h5:ae<9223372036854775808)(h6:tx.length<=1000000)(h7:cD h):(AL kd tx tb dc vr h ab ae).length<=93+tx.length:=by have a1:=dW (n:=tb) (by omega);have a2:=dW (n:=dc) (by omega);have a3:=dW (n:=vr) (by omega);have a4:=dW (n:=ab) (by omega);have a5:=dW (n:=ae) (by omega);have a6:=jn (n:=tx.length) (by omega);have a7:=IE h7;unfold AL;split <;> simp [a7] <;> omega
abbrev uT(e:G):Int:=mf (gI (ah e 0)) (gS (ah e 1)) (gI (ah e 2)) (gI (ah e 3)) (gI (ah e 4)) (gI (ah e 5)) (gI (ah e 6)) (gI (ah e 7)) (gS (ah e 8)) (gL (ah e 9)) (gL (ah e 10)) (hX (ah e 11)) (gI (ah e 12)=1) (gI (ah e 13)) (gI (ah e 14))
abbrev Jk(e:G):Prop:=FY (gS (ah e 1)) (gI (ah e 2)) (gI (ah e 3)) (gI (ah e 4)) (gI (ah e 6)) (gS (ah e 8)) (gL (ah e 9)) (gL (ah e 10)) (hX (ah e 11)) (gI (ah e 13)) (gI (ah e 14))
abbrev K2(e:G):List Nat:=AL (gI (ah e 0)) (gS (ah e 1)) (gI (ah e 2)) (gI (ah e 3)) (gI (ah e 4)) (hX (ah e 11)) (gI (ah e 13)) (gI (ah e 14))
abbrev nS(e:G):List Nat:=dw 16 (gI (ah e 5)) (gI (ah e 6)) (gI (ah e 7)) (gS (ah e 8)) (gL (ah e 9)) (gL (ah e 10))
def re(es:List G):Prop:=∀e∈es,Jk e
def qD{es:List G}{i:Int}(h:re es)(h0:0<=i)(hi:i<es.length):Jk (aL es i.toNat):=h _ (dK h0 hi)
def gM(es:List G)(i:Int):Int:=nQ ((es.drop i.toNat).map λe=>uT e)
def Jl{es:List G}{i:Int}(h0:0<=i)(h:i<es.length)(e:uT (aL es i.toNat)=0):gM es i=gM es (i+1):=by unfold gM;rw[fU h0 h,aaw,nQ,if_pos e]
def MB{es:List G}{i:Int}(h0:0<=i)(h:i<es.length)(e:¬uT (aL es i.toNat)=0):gM es i=uT (aL es i.toNat):=by unfold gM;rw[fU h0 h,aaw,nQ,if_neg e]
def MC{es:List G}{i:Int}(h:(es.length:Int)<=i):gM es i=0:=by unfold gM;rw[Zw (by omega)];rfl
def jK{es:List G}{i:Int}(h:gM es 0=0)(h0:0<=i)(hi:i<es.length):uT (aL es i.toNat)=0:=
 qp h _ (abf (f:=λe=>uT e) (by rw[show(0:Int).toNat=0 by rfl,aaT];exact dK h0 hi))
def CS(d:Prop)(e:G):List Nat:=K2 e++(@ite _ (gI (ah e 0)=2) (Classical.propDecidable _) (@ite _ (gI (ah e 12)=1∨¬d) (Classical.propDecidable _) [0] (1::(aG (nS e).length++nS e))) [])
def yo{d:Prop}{e:G}(h:¬gI (ah e 0)=2):CS d e=K2 e:=by unfold CS;rw[if_neg h,abo]
def yp{d:Prop}{e:G}(h:gI (ah e 0)=2)(h1:gI (ah e 12)=1∨¬d):CS d e=K2 e++ [0]:=by unfold CS;rw[if_pos h,if_pos h1]
def qE{d:Prop}{e:G}(h:gI (ah e 0)=2)(h1:¬(gI (ah e 12)=1∨¬d)):CS d e=K2 e++([1]++(aG (nS e).length++nS e)):=by unfold CS;rw[if_pos h,if_neg h1];rfl
def nH(d:Prop)(es:List G)(i:Int):List Nat:=(es.drop i.toNat).flatMap (CS d)
def qF{d:Prop}{es:List G}{i:Int}(h0:0<=i)(h:i<es.length):nH d es i=CS d (aL es i.toNat)++nH d es (i+1):=by unfold nH;rw[fU h0 h,abL]
def CT{d:Prop}{es:List G}{i:Int}(h:(es.length:Int)<=i):nH d es i= []:=by unfold nH;rw[Zw (by omega)];rfl
def yq(ix tm tn:Int)(pv:G):List Nat:=aG ix.toNat++(aG tm.toNat++(aG tn.toNat++hB pv))
def oA{ix tm tn:Int}{pv:G}(h:cD pv)(h1:ix<9223372036854775808)(h2:tm<9223372036854775808)(h3:tn<9223372036854775808):(yq ix tm tn pv).length<=62:=by have a1:=dW (n:=ix) (by omega);have a2:=dW (n:=tm) (by omega);have a3:=dW (n:=tn) (by omega);have a4:=IE h;unfold yq;simp [a4];omega
def rA(d:Prop)(ix tm tn:Int)(pv:G)(es:List G):List Nat:=yq ix tm tn pv++(aG es.length++nH d es 0)
def FZ(ix tm tn:Int)(es:List G):Prop:=(0<=ix/\ix<=2147483648)/\(0<=tm/\tm<=9007199254740992)/\(0<=tn/\tn<=9007199254740992)/\1<=es.length/\es.length<=200
def dt(ix tm tn:Int)(pv:G)(es:List G):Int:=
 @ite Int (¬FZ ix tm tn es) (Classical.propDecidable _) 1 (if gM es 0=0 then(if 262144<(rA True ix tm tn pv es).length then 5 else 0) else gM es 0)
section
variable{ix tm tn:Int}{pv:G}{es:List G}
def oB(h:¬FZ ix tm tn es):dt ix tm tn pv es=1:=if_pos h
def oC(h:FZ ix tm tn es)(h1:¬gM es 0=0):dt ix tm tn pv es=gM es 0:=by unfold dt;rw[if_neg (Classical.not_not.2 h),if_neg h1]
def mg(h:FZ ix tm tn es)(h1:gM es 0=0)(h2:262144<(rA True ix tm tn pv es).length):dt ix tm tn pv es=5:=by unfold dt;rw[if_neg (Classical.not_not.2 h),if_pos h1,if_pos h2]
def AM(h:FZ ix tm tn es)(h1:gM es 0=0)(h2:¬262144<(rA True ix tm tn pv es).length):dt ix tm tn pv es=0:=by unfold dt;rw[if_neg (Classical.not_not.2 h),if_pos h1,if_neg h2]
def oD(h0:dt ix tm tn pv es=0):FZ ix tm tn es/\gM es 0=0/\(rA True ix tm tn pv es).length<=262144:=by
 by_cases h:FZ ix tm tn es
 ·by_cases h1:gM es 0=0
  ·by_cases h2:262144<(rA True ix tm tn pv es).length
   ·rw[mg h h1 h2] at h0;cases h0
   ·exact⟨h,h1,by omega⟩
  ·rw[oC h h1] at h0;exact absurd h0 h1
 ·rw[oB h] at h0;cases h0
end
def CU{d:Prop}{e:G}(h:uT e=0)(hi:Jk e):(CS d e).length<=70000:=by
 obtain⟨h1,h2⟩:=jI h;have hn:=AJ h1;have hl:(K2 e).length<=93+(gS (ah e 1)).length:=CR (kd:=gI (ah e 0)) (tx:=gS (ah e 1)) (tb:=gI (ah e 2)) (dc:=gI (ah e 3)) (vr:=gI (ah e 4)) (h:=hX (ah e 11)) (ab:=gI (ah e 13)) (ae:=gI (ah e 14)) (by omega) (by omega) (by omega) (by omega) (by omega) (by omega) hi.2.2.2.2.2.2.2.2;by_cases hk:gI (ah e 0)=2
 ·by_cases hg:gI (ah e 12)=1∨¬d
  ·rw[yp hk hg,aal];have:([0]:List Nat).length=1:=rfl;omega
  ·rw[qE hk hg];have he:(nS e).length<=65536:=(CM (h2 ⟨hk,λhn=>hg (.inl hn)⟩)).2;have:=jn (n:=(nS e).length) (by omega);rw[aal,aal,aal];have:([1]:List Nat).length=1:=rfl;omega
 ·rw[yo hk];omega
def CV{d:Prop}{es:List G}(h:gM es 0=0)(hi:re es):∀(n:Nat) (i:Int),0<=i->i+n=es.length->(nH d es i).length<=70000 * n
 |0,i,h0,e=>by rw[CT (by omega)];exact aan _
 |n+1,i,h0,e=>by have:=CV (d:=d) h hi n (i+1) (by omega) (by omega);have:=CU (d:=d) (jK h h0 (by omega)) (qD hi h0 (by omega));rw[qF h0 (by omega),aal];omega
def Jm{d:Prop}{es:List G}(h:gM es 0=0)(hi:re es)(hn:es.length<=200){i:Int}(h0:0<=i)(h1:i<=es.length):(nH d es i).length<=14000000:=by have:=CV (d:=d) h hi ((es.length:Int)-i).toNat i h0 (by omega);omega
def en:List Sh:=[.i .i64 1,.s 2,.i .i64 3,.i .i64 4,.i .i64 5,.i .i64 6,.i .i64 7,.i .i64 8,.s 9,.v 1 10,.v 2 11]++hs 100++ [.b 12,.i .i64 13,.i .i64 14]
def F0(p:Sy)(t:Nat):List Sh:=(List.range 32).map λj=>.pi .u8 (p.i (t+j))
def bk:List Sh:=[.i .i64 21,.i .i64 22,.i .i64 23]++hs 200++ [.v 7 24]
def OF(p:Sy):List Sh:=[.pi .i64 (p.i 21),.pi .i64 (p.i 22),.pi .i64 (p.i 23)]++F0 p 200++ [.pv 7 (p.g 24)]
abbrev Fb(z:Sy):Prop:=rc (z.i 6) (z.i 7) (z.i 8) (z.s 9) (z.g 10) (z.g 11)
abbrev OG(z:Sy):Prop:=kW (z.i 1) (z.s 2) (z.i 3) (z.i 4) (z.i 5) (Fb z) (hT z 100=hZ) (z.p 12) (z.i 13) (z.i 14)
abbrev OH(z:Sy):Prop:=FY (z.s 2) (z.i 3) (z.i 4) (z.i 5) (z.i 7) (z.s 9) (z.g 10) (z.g 11) (hT z 100) (z.i 13) (z.i 14)
abbrev R1(z:Sy):Int:=mf (z.i 1) (z.s 2) (z.i 3) (z.i 4) (z.i 5) (z.i 6) (z.i 7) (z.i 8) (z.s 9) (z.g 10) (z.g 11) (hT z 100) (z.p 12) (z.i 13) (z.i 14)
abbrev UI(z:Sy):List Nat:=AL (z.i 1) (z.s 2) (z.i 3) (z.i 4) (z.i 5) (hT z 100) (z.i 13) (z.i 14)
def yr:FSpec:=⟨[.ag en],[],λz=>(-9223372036854775808<=z.i 3/\z.i 3<9223372036854775808)/\(-9223372036854775808<=z.i 4/\z.i 4<9223372036854775808)/\(-9223372036854775808<=z.i 5/\z.i 5<9223372036854775808),λ_=>.one (.c (.b 50)),λ_=>[],λz y=>y.p 50↔(z.s 2= []/\z.i 3=0/\z.i 4=0/\z.i 5=0/\Fb z/\hT z 100=hZ/\¬z.p 12/\z.i 13=0/\z.i 14=0),[]⟩
def Jn:FSpec:=⟨[.ag en],[],OH,λ_=>.one (.c (.b 50)),λ_=>[],λz y=>y.p 50↔OG z,[]⟩
def nI:FSpec:=⟨[.ag en],[],OH,λ_=>.one (.c (.i .i64 50)),λ_=>[],λz y=>y.i 50=R1 z,[]⟩
def CW:FSpec:=⟨[.c (.gb 0 20),.c (.i .i64 1)],[.growb 5 20],λz=>z.i 1<9223372036854775808/\(z.s 20).length<=900000000,λ_=>.one (.c (.gb 0 20)),λ_=>[.growb 5 20],λz y=>y.s 20=z.s 20++aG (z.i 1).toNat,[]⟩
def te:FSpec:=⟨[.c (.gb 0 20),.ag en],[.growb 5 20],λz=>OH z/\(z.s 20).length<=100000000,λ_=>.one (.c (.gb 0 20)),λ_=>[.growb 5 20],λz y=>y.s 20=z.s 20++UI z,[]⟩
def OI:FSpec:=⟨[.ag bk],[],λz=>cD (hT z 200)/\z.i 21<9223372036854775808/\z.i 22<9223372036854775808/\z.i 23<9223372036854775808,λ_=>.one (.c (.gb 0 20)),λ_=>[.growb 5 20],λz y=>y.s 20=yq (z.i 21) (z.i 22) (z.i 23) (hT z 200),[]⟩
abbrev vH(es:List G):Prop:=gM es 0=0/\re es/\es.length<=200
def CX(p:Sy):LSpec:=⟨[(1,.c (.pb (p.p 25))),(5,.c (.gb 0 20)),(18,.c (.pv 7 (p.g 24))),(19,.c (.pi .i64 (p.g 24).length)),(20,.c (.i .i64 9))],[.growb 5 20],λz=>vH (p.g 24)/\(0<=z.i 9/\z.i 9<=(p.g 24).length)/\(z.s 20).length+(nH (p.p 25) (p.g 24) (z.i 9)).length<=20000000,λz=>((p.g 24).length-z.i 9).toNat,[⟨.exit 0,[(5,.c (.gb 0 20))],[.growb 5 20]⟩],λz y=>y.s 20=z.s 20++nH (p.p 25) (p.g 24) (z.i 9),[],[]⟩
def OJ:FSpec:=⟨[.ag bk,.c (.b 25)],[],λz=>vH (z.g 24)/\cD (hT z 200)/\z.i 21<9223372036854775808/\z.i 22<9223372036854775808/\z.i 23<9223372036854775808,λ_=>.one (.c (.vb 10)),λ_=>[],λz y=>y.s 10=rA (z.p 25) (z.i 21) (z.i 22) (z.i 23) (hT z 200) (z.g 24),[]⟩
abbrev OK(z:Sy):Prop:=re (z.g 24)/\cD (hT z 200)/\(z.g 24).length<=1000000/\z.i 21<9223372036854775808/\z.i 22<9223372036854775808/\z.i 23<9223372036854775808
def tf(p:Sy):LSpec:=⟨[(1,.c (.p 0)),(30,.c (.pv 7 (p.g 24))),(31,.c (.pi .i64 (p.g 24).length)),(32,.c (.i .i64 9))],[.cells 47 (OF p)],λz=>re (p.g 24)/\(p.g 24).length<=200/\(0<=z.i 9/\z.i 9<=(p.g 24).length)/\gM (p.g 24) 0=gM (p.g 24) (z.i 9),λz=>((p.g 24).length-z.i 9).toNat,[⟨.exit 0,[(1,.c (.p 0))],[.cells 47 (OF p)]⟩,⟨.ret,[(2,.c (.i .i64 50))],[.cells 47 (OF p)]⟩],λz y=>(y.i 999=0->gM (p.g 24) 0=0)/\(¬y.i 999=0->y.i 50=gM (p.g 24) 0/\¬y.i 50=0),[],[]⟩
def CY:FSpec:=⟨[.ag bk],[],OK,λ_=>.one (.c (.i .i64 50)),λ_=>[],λz y=>y.i 50=dt (z.i 21) (z.i 22) (z.i 23) (hT z 200) (z.g 24),[]⟩
def qG:FSpec:=⟨[.ag en],[],OH,λ_=>.tu [.ag (hs 300),.c (.i .i64 50)],λ_=>[],λz y=>y.i 50=R1 z/\(R1 z=0->hT y 300=dV (UI z))/\(¬R1 z=0->hT y 300=hZ),[]⟩
def Jo:FSpec:=⟨[.ag bk],[],λz=>cD (hT z 200)/\z.i 21<9223372036854775808/\z.i 22<9223372036854775808/\z.i 23<9223372036854775808,λ_=>.one (.ag (hs 300)),λ_=>[],λz y=>hT y 300=qm (yq (z.i 21) (z.i 22) (z.i 23) (hT z 200)),[]⟩
abbrev yZ(z:Sy):Int:=dt (z.i 21) (z.i 22) (z.i 23) (hT z 200) (z.g 24)
def yt:FSpec:=⟨[.ag bk,.c (.b 25)],[],OK,λ_=>.tu [.c (.vb 10),.c (.i .i64 50)],λ_=>[],λz y=>y.i 50=yZ z/\(yZ z=0->y.s 10=rA (z.p 25) (z.i 21) (z.i 22) (z.i 23) (hT z 200) (z.g 24))/\(¬yZ z=0->y.s 10= []),[]⟩
attribute [irreducible] kW mf FY AL re gM CS nH yq rA FZ dt rc
end
abbrev Td(a b:Int):=Fm.ct ((0:Int)<=Max.max 0 a%18446744073709551616/\Max.max 0 a%18446744073709551616<18446744073709551616) (λy=>y.s 10=aG b.toNat)
def mh:bI 184 CW:=cC 1 0 (ar jE eN) lN λz hA=>show Fm.den ((Td (z.i 1) (Max.max 0 (z.i 1)%18446744073709551616) λy0=>(.an (K1 (z.s 20) (y0.s 10)) (.an (E8 (z.s 20++y0.s 10) (z.s 20) (y0.s 10)) (.at (z.s 20++y0.s 10=z.s 20++aG (z.i 1).toNat)))))) by
 dsimp only [CW] at hA;have e1:(max 0 (z.i 1)%18446744073709551616).toNat=(z.i 1).toNat∨¬z.i 1<9223372036854775808:=by omega
 have:=@dW (max 0 (z.i 1)%18446744073709551616) (by omega);exact nN
abbrev Qg(a:Prop)(b:Int)(c:List Nat):=Fm.cl (a) (b<9223372036854775808/\c.length<=900000000) (λy=>y.s 20=c++aG b.toNat)
abbrev Te(a:List Nat)(b:List Int):=a.length=a.length/\a.length<=1000000000/\bA b
def Jp:bI 183 OI:=cC 1 0 (ar mh eN) lN λz hA=>show Fm.den ((.cl ((Av)) (z.i 21<9223372036854775808/\0<=900000000) (λy0=>y0.s 20= []++aG (z.i 21).toNat) λy0=>(Qg (pZ (y0.s 20)) (z.i 22) (y0.s 20) λy1=>(Qg (pZ (y1.s 20)) (z.i 23) (y1.s 20) λy2=>(.an (Te (y2.s 20) (xQ z 200)) (.an ((y2.s 20++aN (xQ z 200)).length=(y2.s 20).length+32/\True) (.at (y2.s 20++aN (xQ z 200)=yq (z.i 21) (z.i 22) (z.i 23) (hT z 200))))))))) by
 dsimp only [OI,bk,hs] at hA;have:=@oA (z.i 21) (z.i 22) (z.i 23) (hT z 200);have:=Mj (yq (z.i 21) (z.i 22) (z.i 23) (hT z 200));have:=@jn (z.g 24).length;have t1:(((z.g 24).length:Nat):Int).toNat=(z.g 24).length:=Int.toNat_natCast _;have:=@dW (z.i 21);have:=@dW (z.i 22);have:=@dW (z.i 23);have:=fS z 200;have:=@bh z 200;have:=cI z 200;repeat' with_reducible first|intro _|apply d_|apply ed|apply ef|apply eu|apply ew
 all_goals first|omega|grind [aA,aq,ao,cd,ce,cf,cg,ci,cj,ck,cm,co,aY,List.append_assoc,yq]
abbrev Jq(a:Int)(b:List Nat):=a<9223372036854775808/\b.length<=900000000
def qH:bI 185 te:=cC 3 1 (ar mh eN) lN λz hA=>show Fm.den (let v0:=(z.s 20++ [(z.i 1%256).toNat]);(.an (EV (z.s 20) (z.i 1)) (.cl ((uC v0 (z.s 20))) (Jq (z.i 3) v0) (λy0=>y0.s 20=z.s 20++ [(z.i 1%256).toNat]++aG (z.i 3).toNat) λy0=>(Qg (pZ (y0.s 20)) (z.i 4) (y0.s 20) λy1=>(Qg (pZ (y1.s 20)) (z.i 5) (y1.s 20) λy2=>(Qg (pZ (y2.s 20)) (↑(z.s 2).length:Int) (y2.s 20) λy3=>(.an (K1 (y3.s 20) (z.s 2)) (.cl ((E8 (y3.s 20++z.s 2) (y3.s 20) (z.s 2))) (Jq (z.i 13) (y3.s 20++z.s 2)) (λy4=>y4.s 20=y3.s 20++z.s 2++aG (z.i 13).toNat) λy4=>(Qg (pZ (y4.s 20)) (z.i 14) (y4.s 20) λy5=>(.two (z.i 1=2) (.an (Te (y5.s 20) (xQ z 100)) (.an ((y5.s 20++aN (xQ z 100)).length=(y5.s 20).length+32/\True) (.at (y5.s 20++aN (xQ z 100)=z.s 20++AL (z.i 1) (z.s 2) (z.i 3) (z.i 4) (z.i 5) (hT z 100) (z.i 13) (z.i 14))))) (.an (pZ (y5.s 20)) (.at (y5.s 20=z.s 20++AL (z.i 1) (z.s 2) (z.i 3) (z.i 4) (z.i 5) (hT z 100) (z.i 13) (z.i 14)))))))))))))) by
 dsimp only [te,en,hs,OH,UI] at hA;have:=dn 0 0 0 [] [] [];have:=dn (z.i 6) (z.i 7) (z.i 8) (z.s 9) (z.g 10) (z.g 11);have:=@jJ (z.s 2) (z.i 3) (z.i 4) (z.i 5) (z.i 7) (z.s 9) (z.g 10) (z.g 11) (hT z 100) (z.i 13) (z.i 14);have:=@MA (z.i 1) (z.s 2) (z.i 3) (z.i 4) (z.i 5) (hT z 100) (z.i 13) (z.i 14);have:=@Jj (z.i 1) (z.s 2) (z.i 3) (z.i 4) (z.i 5) (hT z 100) (z.i 13) (z.i 14);have:=@dW (z.i 3);have:=@dW (z.i 4);have:=@dW (z.i 5);have:=@dW (z.i 13);have:=@dW (z.i 14);have:=@jn (z.s 2).length;have:=fS z 100;have:=@bh z 100;have:=cI z 100;have t1:(((z.s 2).length:Nat):Int).toNat=(z.s 2).length:=Int.toNat_natCast _;conv=>zeta
 repeat' with_reducible first|intro _|apply d_|apply ed|apply ef|apply eu|apply ew
 all_goals first|omega|grind [aA,aq,ao,cd,ce,cf,cg,ci,cj,ck,cm,co,aY,List.append_assoc,cI]
def Fc:bI 238 yr:=cC 21 349525 eN lN λz hA=>show Fm.den (let v1:=(ai .i64);let v0:Fm:=(.ax (false=true↔z.s 2= []/\z.i 3=0/\z.i 4=0/\z.i 5=0/\rc (z.i 6) (z.i 7) (z.i 8) (z.s 9) (z.g 10) (z.g 11)/\hT z 100=hZ/\¬z.p 12/\z.i 13=0/\z.i 14=0));(.two (z.s 2= []) (.two (IntKind.i64.wrap (Int.ofNat ((aD v1 (IntKind.i64.wrap (Int.ofNat ((aD v1 (z.i 3)).lor (aD v1 (z.i 4)))))).lor (aD v1 (z.i 5))))=0) (.two (z.i 6=0) (.two (z.i 7=0) (.two (z.i 8=0) (.two (z.s 9= []) (.two ((↑(z.g 10).length:Int)=0) (.two ((↑(z.g 11).length:Int)=0) (.two (ra (hT z 100) hZ) (.two (¬z.p 12) (.ax ([z.i 13,z.i 14]= [0,0]↔z.s 2= []/\z.i 3=0/\z.i 4=0/\z.i 5=0/\rc (z.i 6) (z.i 7) (z.i 8) (z.s 9) (z.g 10) (z.g 11)/\hT z 100=hZ/\¬z.p 12/\z.i 13=0/\z.i 14=0)) v0) v0) v0) v0) v0) v0) v0) v0) v0) v0)) by dsimp only [yr,en,hs,Fb] at hA;have:=dn 0 0 0 [] [] [];have:=dn (z.i 6) (z.i 7) (z.i 8) (z.s 9) (z.g 10) (z.g 11);have:=@jJ (z.s 2) (z.i 3) (z.i 4) (z.i 5) (z.i 7) (z.s 9) (z.g 10) (z.g 11) (hT z 100) (z.i 13) (z.i 14);have:=@Wf (z.i 3) (z.i 4) (z.i 5);exact nN
def MD:bI 182 Jn:=cC 125 30284871951383847606871494801089340678452057665660186281603786162571198549 (ar Fc eN) lN λz hA=>show Fm.den (let vx:=(0:Int)=0;let v5:=((-9223372036854775808:Int)<=0/\(0:Int)<9223372036854775808);let v6:=(rc (z.i 6) (z.i 7) (z.i 8) (z.s 9) (z.g 10) (z.g 11));let v7:=(((-9223372036854775808)<=z.i 3/\z.i 3<9223372036854775808)/\((-9223372036854775808)<=z.i 4/\z.i 4<9223372036854775808)/\(-9223372036854775808)<=z.i 5/\z.i 5<9223372036854775808);let v8:=(v5/\((-9223372036854775808)<=z.i 4/\z.i 4<9223372036854775808)/\(-9223372036854775808)<=z.i 5/\z.i 5<9223372036854775808);let v9:=(v5/\v5/\(-9223372036854775808:Int)<=0/\(0:Int)<9223372036854775808);let v10:=(hT z 100=hZ);let v11:=(↑(z.s 2).length:Int);let j8:=(z.i 1=3);let l9:=(z.i 3<=64);let v0:Fm:=(.ax (false=true↔kW (z.i 1) (z.s 2) (z.i 3) (z.i 4) (z.i 5) v6 v10 (z.p 12) (z.i 13) (z.i 14)));let v4:Fm:=(.two (¬z.p 12) (.ax (true=true↔kW (z.i 1) (z.s 2) (z.i 3) (z.i 4) (z.i 5) v6 v10 (z.p 12) (z.i 13) (z.i 14))) (.two (z.i 6=0) (.two (z.i 7=0) (.two (z.i 8=0) (.two (z.s 9= []) (.two ((↑(z.g 10).length:Int)=0) (.ax ((↑(z.g 11).length:Int)=0↔kW (z.i 1) (z.s 2) (z.i 3) (z.i 4) (z.i 5) v6 v10 (z.p 12) (z.i 13) (z.i 14))) v0) v0) v0) v0) v0));let v3:Fm:=(.two (1<=v11) (.two (v11<=4096) (.ct v7 (λy0=>(y0.p 50↔E1/\z.i 3=0/\z.i 4=0/\z.i 5=0/\rc (z.i 6) (z.i 7) (z.i 8) (z.s 9) (z.g 10) (z.g 11)/\hT z 100=hZ/\¬z.p 12/\z.i 13=0/\z.i 14=0)) λy0=>(.ax (y0.p 50↔kW (z.i 1) (z.s 2) (z.i 3) (z.i 4) (z.i 5) v6 v10 (z.p 12) (z.i 13) (z.i 14)))) v0) v0);let v2:Fm:=(.two (0<=z.i 13) (.two (z.i 13<=2147483648) (.two (0<=z.i 14) (.two (z.i 14<=2147483648) (.ct v7 (λy0=>(y0.p 50↔z.s 2= []/\z.i 3=0/\z.i 4=0/\z.i 5=0/\rc (z.i 6) (z.i 7) (z.i 8) (z.s 9) (z.g 10) (z.g 11)/\hT z 100=hZ/\¬z.p 12/\vx/\vx)) λy0=>(.ax (y0.p 50↔kW (z.i 1) (z.s 2) (z.i 3) (z.i 4) (z.i 5) v6 v10 (z.p 12) (z.i 13) (z.i 14)))) v0) v0) v0) v0);let v1:Fm:=(.two l9 (.two (1<=v11) (.two (v11<=40) (.ct v8 (λy0=>(y0.p 50↔E1/\vx/\z.i 4=0/\z.i 5=0/\rc (z.i 6) (z.i 7) (z.i 8) (z.s 9) (z.g 10) (z.g 11)/\hT z 100=hZ/\¬z.p 12/\z.i 13=0/\z.i 14=0)) λy0=>(.ax (y0.p 50↔kW (z.i 1) (z.s 2) (z.i 3) (z.i 4) (z.i 5) v6 v10 (z.p 12) (z.i 13) (z.i 14)))) v0) v0) v0);(.two (1<=z.i 3) (.two (z.i 1=1) v3 (.two (z.i 1=2) (.an (z.i 1=2) (.an (¬j8) (.two l9 (.two (1<=z.i 4) (.two (z.i 4<=65536) (.two (0<=z.i 5) (.two (z.i 5<=2147483648) (.ct v9 (λy0=>(y0.p 50↔z.s 2= []/\vx/\vx/\vx/\rc 0 0 0 [] [] []/\hZ=hZ/\¬false=true/\z.i 13=0/\z.i 14=0)) λy0=>(.two (y0.p 50) v4 v0)) v0) v0) v0) v0) v0))) (.two j8 (.an j8 (.two l9 (.two (1<=z.i 4) (.two (z.i 4<=65536) (.two (1<=z.i 5) (.two (z.i 5<=2147483648) (.ct v9 (λy0=>(y0.p 50↔z.s 2= []/\vx/\vx/\vx/\rc (z.i 6) (z.i 7) (z.i 8) (z.s 9) (z.g 10) (z.g 11)/\hT z 100=hZ/\¬z.p 12/\z.i 13=0/\z.i 14=0)) λy0=>(.two (y0.p 50) v4 v0)) v0) v0) v0) v0) v0)) (.two (z.i 1=4) v2 (.two (z.i 1=5) (.an (z.i 1=5) v1) (.two (z.i 1=7) v1 (.two (z.i 1=6) (.two l9 (.ct v8 (λy0=>(y0.p 50↔z.s 2= []/\vx/\z.i 4=0/\z.i 5=0/\rc (z.i 6) (z.i 7) (z.i 8) (z.s 9) (z.g 10) (z.g 11)/\hT z 100=hZ/\¬z.p 12/\z.i 13=0/\z.i 14=0)) λy0=>(.ax (y0.p 50↔kW (z.i 1) (z.s 2) (z.i 3) (z.i 4) (z.i 5) v6 v10 (z.p 12) (z.i 13) (z.i 14)))) v0) v0))))))) (.two (z.i 1=1) v3 (.two (z.i 1=2) (.an (z.i 1=2) (.an (¬j8) v0)) (.two j8 (.an j8 v0) (.two (z.i 1=4) v2 (.two (z.i 1=5) (.an (z.i 1=5) v0) (.two (z.i 1=7) v0 (.two (z.i 1=6) v0 v0))))))))) by dsimp only [Jn,en,hs,OH,OG,Fb] at hA;have:=dn 0 0 0 [] [] [];have:=dn (z.i 6) (z.i 7) (z.i 8) (z.s 9) (z.g 10) (z.g 11);have:=@jJ (z.s 2) (z.i 3) (z.i 4) (z.i 5) (z.i 7) (z.s 9) (z.g 10) (z.g 11) (hT z 100) (z.i 13) (z.i 14);have:=@OE (z.i 1) (z.s 2) (z.i 3) (z.i 4) (z.i 5) (Fb z) (hT z 100=hZ) (z.p 12) (z.i 13) (z.i 14);have:=@I_ (z.i 1) (z.s 2) (z.i 3) (z.i 4) (z.i 5) (Fb z) (hT z 100=hZ) (z.p 12) (z.i 13) (z.i 14);have:=@Ja (z.i 1) (z.s 2) (z.i 3) (z.i 4) (z.i 5) (Fb z) (hT z 100=hZ) (z.p 12) (z.i 13) (z.i 14);have:=@Jb (z.i 1) (z.s 2) (z.i 3) (z.i 4) (z.i 5) (Fb z) (hT z 100=hZ) (z.p 12) (z.i 13) (z.i 14);have:=@Jc (z.i 1) (z.s 2) (z.i 3) (z.i 4) (z.i 5) (Fb z) (hT z 100=hZ) (z.p 12) (z.i 13) (z.i 14);have:=@Jd (z.i 1) (z.s 2) (z.i 3) (z.i 4) (z.i 5) (Fb z) (hT z 100=hZ) (z.p 12) (z.i 13) (z.i 14);have:=@Jf (z.i 1) (z.s 2) (z.i 3) (z.i 4) (z.i 5) (Fb z) (hT z 100=hZ) (z.p 12) (z.i 13) (z.i 14);have:=@Je (z.i 1) (z.s 2) (z.i 3) (z.i 4) (z.i 5) (Fb z) (hT z 100=hZ) (z.p 12) (z.i 13) (z.i 14);exact nN
def mi:bI 109 nI:=cC 11 20753 (ar MD (ar Qf eN)) lN λz hA=>show Fm.den (let v1:=(hT z 100);let v0:Fm:=(.ax ((0:Int)=mf (z.i 1) (z.s 2) (z.i 3) (z.i 4) (z.i 5) (z.i 6) (z.i 7) (z.i 8) (z.s 9) (z.g 10) (z.g 11) v1 (z.p 12) (z.i 13) (z.i 14)));(.ct (FY (z.s 2) (z.i 3) (z.i 4) (z.i 5) (z.i 7) (z.s 9) (z.g 10) (z.g 11) v1 (z.i 13) (z.i 14)) (λy0=>(y0.p 50↔kW (z.i 1) (z.s 2) (z.i 3) (z.i 4) (z.i 5) (rc (z.i 6) (z.i 7) (z.i 8) (z.s 9) (z.g 10) (z.g 11)) (hT z 100=hZ) (z.p 12) (z.i 13) (z.i 14))) λy0=>(.two (¬y0.p 50) (.ax ((3:Int)=mf (z.i 1) (z.s 2) (z.i 3) (z.i 4) (z.i 5) (z.i 6) (z.i 7) (z.i 8) (z.s 9) (z.g 10) (z.g 11) v1 (z.p 12) (z.i 13) (z.i 14))) (.two (z.i 1≠2) v0 (.two (z.p 12) v0 (.ct (qw 16 (z.i 7) (z.s 9) (z.g 10) (z.g 11)/\sW 16 (z.s 9) (z.g 11)<=10000000) (λy1=>y1.i 11=fA (z.i 6) (z.i 7) (z.i 8) (z.s 9) (z.g 10) (z.g 11)/\hT y1 300=vF (z.i 6) (z.i 7) (z.i 8) (z.s 9) (z.g 10) (z.g 11)) λy1=>(let v2:Fm:=(.ax (y1.i 11=mf (z.i 1) (z.s 2) (z.i 3) (z.i 4) (z.i 5) (z.i 6) (z.i 7) (z.i 8) (z.s 9) (z.g 10) (z.g 11) v1 (z.p 12) (z.i 13) (z.i 14)));(.two (y1.i 11=0) (.two (¬ra (hT y1 300) v1) (.ax ((18:Int)=mf (z.i 1) (z.s 2) (z.i 3) (z.i 4) (z.i 5) (z.i 6) (z.i 7) (z.i 8) (z.s 9) (z.g 10) (z.g 11) v1 (z.p 12) (z.i 13) (z.i 14))) v2) v2)))))))) by dsimp only [nI,en,hs,OH,R1] at hA;have:=dn 0 0 0 [] [] [];have:=dn (z.i 6) (z.i 7) (z.i 8) (z.s 9) (z.g 10) (z.g 11);have:=@jJ (z.s 2) (z.i 3) (z.i 4) (z.i 5) (z.i 7) (z.s 9) (z.g 10) (z.g 11) (hT z 100) (z.i 13) (z.i 14);have:=@qC (z.i 1) (z.s 2) (z.i 3) (z.i 4) (z.i 5) (z.i 6) (z.i 7) (z.i 8) (z.s 9) (z.g 10) (z.g 11) (hT z 100) (z.p 12) (z.i 13) (z.i 14);have:=@yn (z.i 1) (z.s 2) (z.i 3) (z.i 4) (z.i 5) (z.i 6) (z.i 7) (z.i 8) (z.s 9) (z.g 10) (z.g 11) (hT z 100) (z.p 12) (z.i 13) (z.i 14);have:=@uS (z.i 1) (z.s 2) (z.i 3) (z.i 4) (z.i 5) (z.i 6) (z.i 7) (z.i 8) (z.s 9) (z.g 10) (z.g 11) (hT z 100) (z.p 12) (z.i 13) (z.i 14);have:=@CQ (z.i 1) (z.s 2) (z.i 3) (z.i 4) (z.i 5) (z.i 6) (z.i 7) (z.i 8) (z.s 9) (z.g 10) (z.g 11) (hT z 100) (z.p 12) (z.i 13) (z.i 14);have:=@Ji (z.i 1) (z.s 2) (z.i 3) (z.i 4) (z.i 5) (z.i 6) (z.i 7) (z.i 8) (z.s 9) (z.g 10) (z.g 11) (hT z 100) (z.p 12) (z.i 13) (z.i 14);have:=@jI (z.i 1) (z.s 2) (z.i 3) (z.i 4) (z.i 5) (z.i 6) (z.i 7) (z.i 8) (z.s 9) (z.g 10) (z.g 11) (hT z 100) (z.p 12) (z.i 13) (z.i 14);exact nN
abbrev F1(a:List G):=gM a 0=0/\re a/\a.length<=200
abbrev Fd(a b:Prop)(c d:List Nat):=a/\b/\c.length+d.length<=20000000
def Tf(p:Sy)(z:Sy):=(λe=>@jJ (gS (ah e 1)) (gI (ah e 2)) (gI (ah e 3)) (gI (ah e 4)) (gI (ah e 6)) (gS (ah e 8)) (gL (ah e 9)) (gL (ah e 10)) (hX (ah e 11)) (gI (ah e 13)) (gI (ah e 14))) (aL (p.g 24) (z.i 9).toNat)
def Tg(p:Sy)(z:Sy):=(λe=>λh=>(@jI (gI (ah e 0)) (gS (ah e 1)) (gI (ah e 2)) (gI (ah e 3)) (gI (ah e 4)) (gI (ah e 5)) (gI (ah e 6)) (gI (ah e 7)) (gS (ah e 8)) (gL (ah e 9)) (gL (ah e 10)) (hX (ah e 11)) (gI (ah e 12)=1) (gI (ah e 13)) (gI (ah e 14)) h).2) (aL (p.g 24) (z.i 9).toNat)
def Jr:cH 110 0 CX:=cG 13 2246949 (ar qH (ar mh (ar qy eN))) lN λp z hA=>show Fm.den (let v0:=(bx (p.g 24) (z.i 9));let v1:=(↑(p.g 24).length:Int);let v2:=((-9223372036854775808)<=z.i 9+1/\z.i 9+1<=9223372036854775807);let v3:=(F1 (p.g 24));let v4:=(jV (z.i 9) (p.g 24));let v5:=(z.i 9+1);let v6:=(gL (ah v0 10));let v7:=(gS (ah v0 8));let v8:=(gI (ah v0 6));let v9:=(gL (ah v0 9));let v10:=(nH (p.p 25) (p.g 24) v5);let v11:=(p.p 25↔p.p 25);let j8:=(gI (ah v0 5));let l9:=(gI (ah v0 7));let p5:=(pZ (z.s 20));let Wv:=(v1-z.i 9);(.two (z.i 9 < ↑(p.g 24).length) (.an (gf (z.i 9) (p.g 24)) (.cl (p5) (FY (gS (ah v0 1)) (gI (ah v0 2)) (gI (ah v0 3)) (gI (ah v0 4)) v8 v7 v9 v6 (hX (ah v0 11)) (gI (ah v0 13)) (gI (ah v0 14))/\(z.s 20).length<=100000000) (λy0=>y0.s 20=z.s 20++AL (gI (ah v0 0)) (gS (ah v0 1)) (gI (ah v0 2)) (gI (ah v0 3)) (gI (ah v0 4)) (hX (ah v0 11)) (gI (ah v0 13)) (gI (ah v0 14))) λy0=>(let F':Fm:=(.an (S4 (y0.s 20)) (.an v2 (.an ((y0.s 20++ [Int.toNat 0]).length=(y0.s 20).length+1/\v1=v1/\p.g 24=p.g 24/\v11/\True) (.at ((Fd v3 v4 (y0.s 20++ [Int.toNat 0]) v10)/\(v1-v5).toNat<Wv.toNat/\∀(y:Sy),y.s 20=y0.s 20++ [Int.toNat 0]++nH (p.p 25) (p.g 24) v5->y.s 20=z.s 20++nH (p.p 25) (p.g 24) (z.i 9))))));(.two (gI (ah v0 0)≠2) (.an v2 (.an ((y0.s 20).length=(y0.s 20).length/\v1=v1/\p.g 24=p.g 24/\v11/\True) (.at ((Fd v3 v4 (y0.s 20) v10)/\(v1-v5).toNat<Wv.toNat/\∀(y:Sy),y.s 20=y0.s 20++nH (p.p 25) (p.g 24) v5->y.s 20=z.s 20++nH (p.p 25) (p.g 24) (z.i 9))))) (.two (gI (ah v0 12)=1) F' (.two (¬p.p 25) F' (UH v8 v7 v9 v6 j8 l9 (dw 16 j8 v8 l9 v7 v9 v6) λy1=>(.an ((y0.s 20).length=(y0.s 20).length/\(y0.s 20).length<=1000000000/\(0:Int)<=1/\True) (.cl ((uC (y0.s 20++ [Int.toNat 1]) (y0.s 20))) (Jq (↑(y1.s 10).length:Int) (y0.s 20++ [Int.toNat 1])) (λy2=>y2.s 20=y0.s 20++ [Int.toNat 1]++aG (↑(y1.s 10).length:Int).toNat) λy2=>(.an (K1 (y2.s 20) (y1.s 10)) (.an v2 (.an ((y2.s 20++y1.s 10).length=(y2.s 20).length+(y1.s 10).length/\v1=v1/\p.g 24=p.g 24/\v11/\True) (.at ((Fd v3 v4 (y2.s 20++y1.s 10) v10)/\(v1-v5).toNat<Wv.toNat/\∀(y:Sy),y.s 20=y2.s 20++y1.s 10++nH (p.p 25) (p.g 24) v5->y.s 20=z.s 20++nH (p.p 25) (p.g 24) (z.i 9))))))))))))))) (.an p5 (.at (z.s 20=z.s 20++nH (p.p 25) (p.g 24) (z.i 9)))))) by
 dsimp only [CX,vH] at hA;have:=@qF (p.p 25) (p.g 24) (z.i 9);have:=@CT (p.p 25) (p.g 24) (z.i 9);have a3:=@yo (p.p 25) (aL (p.g 24) (z.i 9).toNat);have a4:=@yp (p.p 25) (aL (p.g 24) (z.i 9).toNat);have a5:=@qE (p.p 25) (aL (p.g 24) (z.i 9).toNat);have a6:=@qD (p.g 24) (z.i 9);have a7:=@jK (p.g 24) (z.i 9);dsimp only [K2,nS,Jk,uT] at a3 a4 a5 a6 a7;have:=Tf p z;have:=Tg p z;conv=>zeta
 repeat' with_reducible first|intro _|apply d_|apply ed|apply ef|apply eu|apply ew
 all_goals first|omega|grind [aA,aq,ao,cd,ce,cf,cg,ci,cj,ck,cm,co,aY,List.append_assoc,jn]
abbrev Th(a:G)(b c d:Int):=Fm.ct (cD a/\b<9223372036854775808/\c<9223372036854775808/\d<9223372036854775808) (λy=>y.s 20=yq b c d a)
def Js:bI 110 OJ:=cC 1 0 (ar Jp (ar mh eN)) (aX (ptm:=[(0,.ag bk),(1,.c (.b 25))]) Jr lN) λz hA=>show Fm.den (let v0:=(↑(z.g 24).length:Int);(Th (hT z 200) (z.i 21) (z.i 22) (z.i 23) λy0=>(Qg (pZ (y0.s 20)) v0 (y0.s 20) λy1=>(.cl (((y1.s 20).length=(y1.s 20).length/\v0=v0/\z.g 24=z.g 24/\(z.p 25↔z.p 25)/\True)) (Fd (F1 (z.g 24)) (rz v0) (y1.s 20) (nH (z.p 25) (z.g 24) 0)) (λy2=>y2.s 20=y1.s 20++nH (z.p 25) (z.g 24) 0) λy2=>(.an (pZ (y2.s 20)) (.at (y2.s 20=rA (z.p 25) (z.i 21) (z.i 22) (z.i 23) (hT z 200) (z.g 24)))))))) by
 dsimp only [OJ,bk,hs,vH] at hA;have:=@oA (z.i 21) (z.i 22) (z.i 23) (hT z 200);have:=Mj (yq (z.i 21) (z.i 22) (z.i 23) (hT z 200));have:=@jn (z.g 24).length;have t1:(((z.g 24).length:Nat):Int).toNat=(z.g 24).length:=Int.toNat_natCast _;have:=@dW (z.i 21);have:=@dW (z.i 22);have:=@dW (z.i 23);have:=fS z 200;have:=@bh z 200;have:=cI z 200;have:=λh hi hn h0 h1=>@Jm (z.p 25) (z.g 24) h hi hn 0 h0 h1;conv=>zeta
 repeat' with_reducible first|intro _|apply d_|apply ed|apply ef|apply eu|apply ew
 all_goals first|omega|grind [aA,aq,ao,cd,ce,cf,cg,ci,cj,ck,cm,co,aY,List.append_assoc,rA,yq]
abbrev Fe(a b c d:Int)(e:List G):=a=a/\b=b/\c=c/\d=d/\e=e/\True
abbrev MF(a b c:Int):=a=a/\b=b/\c=c/\True
abbrev Ff(a:List G)(b)(c:Prop):=a=a/\qk b b c
def AN:cH 51 0 tf:=cG 6 133 (ar mi eN) lN λp z hA=>show Fm.den (let v0:=(aK (((((((((((((((((((((((((((((((((((((PS.mk [(999,Tm.i (Int.ofNat (nat_lit 0)))] ((0,(bw 0).fst,0)::q_.loc) q_.ln q_.pr q_.fz).and (fV (p.i 21))).and (fV (p.i 22))).and (fV (p.i 23))).and (fV (p.i (200+nat_lit 0)))).and (fV (p.i (200+nat_lit 1)))).and (fV (p.i (200+nat_lit 2)))).and (fV (p.i (200+nat_lit 3)))).and (fV (p.i (200+nat_lit 4)))).and (fV (p.i (200+nat_lit 5)))).and (fV (p.i (200+nat_lit 6)))).and (fV (p.i (200+nat_lit 7)))).and (fV (p.i (200+nat_lit 8)))).and (fV (p.i (200+nat_lit 9)))).and (fV (p.i (200+nat_lit 10)))).and (fV (p.i (200+nat_lit 11)))).and (fV (p.i (200+nat_lit 12)))).and (fV (p.i (200+nat_lit 13)))).and (fV (p.i (200+nat_lit 14)))).and (fV (p.i (200+nat_lit 15)))).and (fV (p.i (200+nat_lit 16)))).and (fV (p.i (200+nat_lit 17)))).and (fV (p.i (200+nat_lit 18)))).and (fV (p.i (200+nat_lit 19)))).and (fV (p.i (200+nat_lit 20)))).and (fV (p.i (200+nat_lit 21)))).and (fV (p.i (200+nat_lit 22)))).and (fV (p.i (200+nat_lit 23)))).and (fV (p.i (200+nat_lit 24)))).and (fV (p.i (200+nat_lit 25)))).and (fV (p.i (200+nat_lit 26)))).and (fV (p.i (200+nat_lit 27)))).and (fV (p.i (200+nat_lit 28)))).and (fV (p.i (200+nat_lit 29)))).and (fV (p.i (200+nat_lit 30)))).and (fV (p.i (200+nat_lit 31)))).and (p.g 24=p.g 24)).tm);let v1:=(bx (p.g 24) (z.i 9));let v2:=(Ff (p.g 24) (FV p 200) (MF (p.i 23) (p.i 22) (p.i 21)));let v3:=(↑(p.g 24).length:Int);(.two (z.i 9 < ↑(p.g 24).length) (.an (gf (z.i 9) (p.g 24)) (.ct (FY (gS (ah v1 1)) (gI (ah v1 2)) (gI (ah v1 3)) (gI (ah v1 4)) (gI (ah v1 6)) (gS (ah v1 8)) (gL (ah v1 9)) (gL (ah v1 10)) (hX (ah v1 11)) (gI (ah v1 13)) (gI (ah v1 14))) (λy0=>y0.i 50=mf (gI (ah v1 0)) (gS (ah v1 1)) (gI (ah v1 2)) (gI (ah v1 3)) (gI (ah v1 4)) (gI (ah v1 5)) (gI (ah v1 6)) (gI (ah v1 7)) (gS (ah v1 8)) (gL (ah v1 9)) (gL (ah v1 10)) (hX (ah v1 11)) (gI (ah v1 12)=1) (gI (ah v1 13)) (gI (ah v1 14))) λy0=>(.two (y0.i 50≠0) (.an v2 (.at (((1:Int)=0->gM (p.g 24) 0=0)/\(¬(1:Int)=0->y0.i 50=gM (p.g 24) 0/\¬y0.i 50=0)))) (.an ((-9223372036854775808)<=z.i 9+1/\z.i 9+1<=9223372036854775807) (.an (Ff (p.g 24) (FV p 200) (Fe (p.i 23) (p.i 22) (p.i 21) v3 (p.g 24))) (.at ((re (p.g 24)/\(p.g 24).length<=200/\(jV (z.i 9) (p.g 24))/\gM (p.g 24) 0=gM (p.g 24) (z.i 9+1))/\(v3-(z.i 9+1)).toNat<(v3-z.i 9).toNat/\∀(y:Sy),(y.i 999=0->gM (p.g 24) 0=0)/\(¬y.i 999=0->y.i 50=gM (p.g 24) 0/\¬y.i 50=0)->(y.i 999=0->gM (p.g 24) 0=0)/\(¬y.i 999=0->y.i 50=gM (p.g 24) 0/\¬y.i 50=0)))))))) (.an v2 (.at (((0:Int)=0->gM (p.g 24) 0=0)/\(¬(0:Int)=0->v0.i 50=gM (p.g 24) 0/\¬v0.i 50=(0:Int))))))) by dsimp only [tf,OF,F0] at hA;have a1:=@Jl (p.g 24) (z.i 9);have a2:=@MB (p.g 24) (z.i 9);have:=@MC (p.g 24) (z.i 9);have a6:=@qD (p.g 24) (z.i 9);dsimp only [Jk,uT] at a1 a2 a6;exact nO
def qI:bI 51 CY:=cC 21 85217605 (ar Js eN) (aX (ptm:=[(0,.ag bk)]) AN lN) λz hA=>show Fm.den (let v1:=(↑(z.g 24).length:Int);let v2:=(hT z 200);let v0:Fm:=(.ax ((1:Int)=dt (z.i 21) (z.i 22) (z.i 23) v2 (z.g 24)));(.two (0<=z.i 21) (.two (¬z.i 21<=2147483648) v0 (.two (0<=z.i 22) (.two (¬z.i 22<=9007199254740992) v0 (.two (0<=z.i 23) (.two (¬z.i 23<=9007199254740992) v0 (.two (1<=v1) (.two (¬v1<=200) v0 (.cl ((Ff (z.g 24) (FV z 200) (Fe (z.i 23) (z.i 22) (z.i 21) v1 (z.g 24)))) (re (z.g 24)/\(z.g 24).length<=200/\(rz v1)/\gM (z.g 24) 0=gM (z.g 24) 0) (λy0=>(y0.i 999=0->gM (z.g 24) 0=0)/\(¬y0.i 999=0->y0.i 50=gM (z.g 24) 0/\¬y0.i 50=0)) λy0=>(.two (y0.i 999=0) (.ct ((F1 (z.g 24))/\cD v2/\z.i 21<9223372036854775808/\z.i 22<9223372036854775808/\z.i 23<9223372036854775808) (λy1=>y1.s 10=rA (true=true) (z.i 21) (z.i 22) (z.i 23) v2 (z.g 24)) λy1=>(.two (262144<(↑(y1.s 10).length:Int)) (.ax ((5:Int)=dt (z.i 21) (z.i 22) (z.i 23) v2 (z.g 24))) (.ax ((0:Int)=dt (z.i 21) (z.i 22) (z.i 23) v2 (z.g 24))))) (.ax (y0.i 50=dt (z.i 21) (z.i 22) (z.i 23) v2 (z.g 24)))))) v0)) v0)) v0)) v0)) by
 dsimp only [CY,bk,hs,OK] at hA;have:=@oB (z.i 21) (z.i 22) (z.i 23) (hT z 200) (z.g 24);have:=@oC (z.i 21) (z.i 22) (z.i 23) (hT z 200) (z.g 24);have:=@mg (z.i 21) (z.i 22) (z.i 23) (hT z 200) (z.g 24);have:=@AM (z.i 21) (z.i 22) (z.i 23) (hT z 200) (z.g 24);have:=@oD (z.i 21) (z.i 22) (z.i 23) (hT z 200) (z.g 24);conv=>zeta
 repeat' with_reducible first|intro _|apply d_|apply ed|apply ef|apply eu|apply ew
 all_goals first|omega|grind [aA,aq,ao,cd,ce,cf,cg,ci,cj,ck,cm,co,aY,List.append_assoc,FZ]
abbrev Qh(a:List G)(b:G)(c d e:Int):=Fm.ct (re a/\cD b/\a.length<=1000000/\c<9223372036854775808/\d<9223372036854775808/\e<9223372036854775808) (λy=>y.i 50=dt c d e b a)
def Fg:bI 62 yt:=cC 3 1 (ar qI (ar Js eN)) lN λz hA=>show Fm.den (let v0:=(hT z 200);(Qh (z.g 24) v0 (z.i 21) (z.i 22) (z.i 23) λy0=>(.two (y0.i 50≠0) (.ax (y0.i 50=dt (z.i 21) (z.i 22) (z.i 23) v0 (z.g 24)/\(dt (z.i 21) (z.i 22) (z.i 23) v0 (z.g 24)=(0:Int)-> []=rA (z.p 25) (z.i 21) (z.i 22) (z.i 23) v0 (z.g 24))/\(¬dt (z.i 21) (z.i 22) (z.i 23) v0 (z.g 24)=(0:Int)->E1))) (.ct ((F1 (z.g 24))/\cD v0/\z.i 21<9223372036854775808/\z.i 22<9223372036854775808/\z.i 23<9223372036854775808) (λy1=>y1.s 10=rA (z.p 25) (z.i 21) (z.i 22) (z.i 23) v0 (z.g 24)) λy1=>(.ax ((0:Int)=dt (z.i 21) (z.i 22) (z.i 23) v0 (z.g 24)/\(dt (z.i 21) (z.i 22) (z.i 23) v0 (z.g 24)=(0:Int)->y1.s 10=rA (z.p 25) (z.i 21) (z.i 22) (z.i 23) v0 (z.g 24))/\(¬dt (z.i 21) (z.i 22) (z.i 23) v0 (z.g 24)=(0:Int)->y1.s 10= []))))))) by
 dsimp only [yt,bk,hs,OK,yZ] at hA;have:=@oB (z.i 21) (z.i 22) (z.i 23) (hT z 200) (z.g 24);have:=@oC (z.i 21) (z.i 22) (z.i 23) (hT z 200) (z.g 24);have:=@mg (z.i 21) (z.i 22) (z.i 23) (hT z 200) (z.g 24);have:=@AM (z.i 21) (z.i 22) (z.i 23) (hT z 200) (z.g 24);have:=@oD (z.i 21) (z.i 22) (z.i 23) (hT z 200) (z.g 24);conv=>zeta
 repeat' with_reducible first|intro _|apply d_|apply ed|apply ef|apply eu|apply ew
 all_goals first|omega|grind [aA,aq,ao,cd,ce,cf,cg,ci,cj,ck,cm,co,aY,FZ]
def yu:bI 124 qG:=cC 3 1 (ar mi (ar qH (ar Cu eN))) lN λz hA=>show Fm.den (let v0:=(hT z 100);let v1:=(AL (z.i 1) (z.s 2) (z.i 3) (z.i 4) (z.i 5) v0 (z.i 13) (z.i 14));(.ct (FY (z.s 2) (z.i 3) (z.i 4) (z.i 5) (z.i 7) (z.s 9) (z.g 10) (z.g 11) v0 (z.i 13) (z.i 14)) (λy0=>y0.i 50=mf (z.i 1) (z.s 2) (z.i 3) (z.i 4) (z.i 5) (z.i 6) (z.i 7) (z.i 8) (z.s 9) (z.g 10) (z.g 11) v0 (z.p 12) (z.i 13) (z.i 14)) λy0=>(.two (y0.i 50≠0) (.ax (y0.i 50=mf (z.i 1) (z.s 2) (z.i 3) (z.i 4) (z.i 5) (z.i 6) (z.i 7) (z.i 8) (z.s 9) (z.g 10) (z.g 11) v0 (z.p 12) (z.i 13) (z.i 14)/\(mf (z.i 1) (z.s 2) (z.i 3) (z.i 4) (z.i 5) (z.i 6) (z.i 7) (z.i 8) (z.s 9) (z.g 10) (z.g 11) v0 (z.p 12) (z.i 13) (z.i 14)=(0:Int)->hZ=dV v1)/\(¬mf (z.i 1) (z.s 2) (z.i 3) (z.i 4) (z.i 5) (z.i 6) (z.i 7) (z.i 8) (z.s 9) (z.g 10) (z.g 11) v0 (z.p 12) (z.i 13) (z.i 14)=(0:Int)->hZ=hZ))) (.cl ((Av)) (FY (z.s 2) (z.i 3) (z.i 4) (z.i 5) (z.i 7) (z.s 9) (z.g 10) (z.g 11) v0 (z.i 13) (z.i 14)/\0<=100000000) (λy1=>y1.s 20= []++AL (z.i 1) (z.s 2) (z.i 3) (z.i 4) (z.i 5) v0 (z.i 13) (z.i 14)) λy1=>(.an (E0 (y1.s 20)) (Qe (y1.s 20) λy2=>(.ax ((0:Int)=mf (z.i 1) (z.s 2) (z.i 3) (z.i 4) (z.i 5) (z.i 6) (z.i 7) (z.i 8) (z.s 9) (z.g 10) (z.g 11) v0 (z.p 12) (z.i 13) (z.i 14)/\(mf (z.i 1) (z.s 2) (z.i 3) (z.i 4) (z.i 5) (z.i 6) (z.i 7) (z.i 8) (z.s 9) (z.g 10) (z.g 11) v0 (z.p 12) (z.i 13) (z.i 14)=(0:Int)->hT y2 300=dV v1)/\(¬mf (z.i 1) (z.s 2) (z.i 3) (z.i 4) (z.i 5) (z.i 6) (z.i 7) (z.i 8) (z.s 9) (z.g 10) (z.g 11) v0 (z.p 12) (z.i 13) (z.i 14)=(0:Int)->hT y2 300=hZ))))))))) by dsimp only [qG,en,hs,OH,R1,UI] at hA;have:=dn 0 0 0 [] [] [];have:=dn (z.i 6) (z.i 7) (z.i 8) (z.s 9) (z.g 10) (z.g 11);have:=@jJ (z.s 2) (z.i 3) (z.i 4) (z.i 5) (z.i 7) (z.s 9) (z.g 10) (z.g 11) (hT z 100) (z.i 13) (z.i 14);have:=@qC (z.i 1) (z.s 2) (z.i 3) (z.i 4) (z.i 5) (z.i 6) (z.i 7) (z.i 8) (z.s 9) (z.g 10) (z.g 11) (hT z 100) (z.p 12) (z.i 13) (z.i 14);have:=@yn (z.i 1) (z.s 2) (z.i 3) (z.i 4) (z.i 5) (z.i 6) (z.i 7) (z.i 8) (z.s 9) (z.g 10) (z.g 11) (hT z 100) (z.p 12) (z.i 13) (z.i 14);have:=@uS (z.i 1) (z.s 2) (z.i 3) (z.i 4) (z.i 5) (z.i 6) (z.i 7) (z.i 8) (z.s 9) (z.g 10) (z.g 11) (hT z 100) (z.p 12) (z.i 13) (z.i 14);have:=@CQ (z.i 1) (z.s 2) (z.i 3) (z.i 4) (z.i 5) (z.i 6) (z.i 7) (z.i 8) (z.s 9) (z.g 10) (z.g 11) (hT z 100) (z.p 12) (z.i 13) (z.i 14);have:=@Ji (z.i 1) (z.s 2) (z.i 3) (z.i 4) (z.i 5) (z.i 6) (z.i 7) (z.i 8) (z.s 9) (z.g 10) (z.g 11) (hT z 100) (z.p 12) (z.i 13) (z.i 14);have:=@jI (z.i 1) (z.s 2) (z.i 3) (z.i 4) (z.i 5) (z.i 6) (z.i 7) (z.i 8) (z.s 9) (z.g 10) (z.g 11) (hT z 100) (z.p 12) (z.i 13) (z.i 14);have:=@CR (z.i 1) (z.s 2) (z.i 3) (z.i 4) (z.i 5) (hT z 100) (z.i 13) (z.i 14);have:=@AJ (z.i 1) (z.s 2) (z.i 3) (z.i 4) (z.i 5) (Fb z) (hT z 100=hZ) (z.p 12) (z.i 13) (z.i 14);exact nO
def MG:bI 127 Jo:=cC 1 0 (ar Jp (ar xN eN)) lN λz hA=>show Fm.den ((Th (hT z 200) (z.i 21) (z.i 22) (z.i 23) λy0=>(.an (E0 (y0.s 20)) (P4 (y0.s 20) λy1=>(.ax (hG (fx (y0.s 20))=qm (yq (z.i 21) (z.i 22) (z.i 23) (hT z 200)))))))) by dsimp only [Jo,bk,hs] at hA;have:=@oA (z.i 21) (z.i 22) (z.i 23) (hT z 200);have:=Mj (yq (z.i 21) (z.i 22) (z.i 23) (hT z 200));have:=@jn (z.g 24).length;have t1:(((z.g 24).length:Nat):Int).toNat=(z.g 24).length:=Int.toNat_natCast _;have:=@dW (z.i 21);have:=@dW (z.i 22);have:=@dW (z.i 23);have:=fS z 200;have:=@bh z 200;have:=cI z 200;exact nO
noncomputable section
def VV(e:G):G:=.node [dV (K2 e)]
def CZ(es:List G)(i:Int):List G:=(es.drop i.toNat).map VV
def C0(es:List G):(CZ es 0).length=es.length:=by unfold CZ;simp
def Qi{e:G}(h:uT e=0):(0<=gI (ah e 2)/\gI (ah e 2)<=64)/\(0<=gI (ah e 3)/\gI (ah e 3)<=65536)/\(0<=gI (ah e 4)/\gI (ah e 4)<=2147483648)/\(gS (ah e 1)).length<=4096/\(0<=gI (ah e 13)/\gI (ah e 13)<=2147483648)/\(0<=gI (ah e 14)/\gI (ah e 14)<=2147483648):=AJ (jI h).1
attribute [irreducible] CZ
end
noncomputable section
def kq(n:Nat):Nat:=2 ^ (n-1).log2
def C1(n:Nat):0<kq n:=aaO _
def qJ{n:Nat}(h:2<=n):kq n<n:=by have:=Nat.log2_self_le (n:=n-1) (by omega);unfold kq;omega
def Jt{n:Nat}(h:2<=n):n<=2 * kq n:=by have:n-1<2 ^ ((n-1).log2+1):=Nat.lt_log2_self;rw[aaY] at this;unfold kq;omega
def Qj{n j:Nat}(h1:2 ^ j<n)(h2:n<=2 * 2 ^ j):kq n=2 ^ j:=by
 unfold kq;congr 1;have h0:n-1≠0:=by have:=aaO j;omega
 have a1:j<=(n-1).log2:=(Nat.le_log2 h0).2 (by omega);have a2:(n-1).log2<j+1:=(Nat.log2_lt h0).2 (by rw[aaY];omega);omega
def bR(l:List G):G:=
 if h:2<=l.length then dl (bR (l.take (kq l.length))) (bR (l.drop (kq l.length)))
 else match l with | []=>qm []|r::_=>hX (ah r 0)
termination_by l.length
decreasing_by
 ·rw[aar];have:=qJ h;omega
 ·rw[aat];have:=C1 l.length;omega
def m_{l:List G}(h:2<=l.length):bR l=dl (bR (l.take (kq l.length))) (bR (l.drop (kq l.length))):=by rw[bR,dif_pos h]
def tg{l:List G}(h:l.length=1):bR l=hX (ah (aL l 0) 0):=by
 match l,h with
 | [r],_=>rw[bR];rfl
def th{l:List G}(h:l.length=0):bR l=qm []:=by
 match l,h with
 | [],_=>rw[bR];rfl
def RowsOk(l:List G):Prop:=∀r∈l,cD (hX (ah r 0))
def RowsOk.take{l:List G}(h:RowsOk l)(n:Nat):RowsOk (l.take n):=λr hr=>h r (List.mem_of_mem_take hr)
def RowsOk.drop{l:List G}(h:RowsOk l)(n:Nat):RowsOk (l.drop n):=λr hr=>h r (List.mem_of_mem_drop hr)
def RowsOk.at{l:List G}(h:RowsOk l){i:Int}(h0:0<=i)(hi:i<l.length):cD (hX (ah (aL l i.toNat) 0)):=h _ (dK h0 hi)
def mj(l:List G)(h:RowsOk l):cD (bR l):=by
 rcases aaf l.length 2 with h2|h2
 ·match l,h2,h with
  | [],_,_=>rw[th rfl];exact Cq _
  | [r],_,h=>rw[tg rfl];exact h r (List.mem_singleton.2 rfl)
  |_::_::_,h2,_=>simp at h2;omega
 ·rw[m_ h2];exact jl _ _
def drop_zero(l:List G):l.drop (0:Int).toNat=l:=rfl
def iD(n:Int)(rows L:List G):Prop:=(L.length:Int)=n/\∀j p:Nat,(p+1) * 2 ^ j<=L.length->kw 0 rows [(j:Int),(p:Int)]/\hX (ah (dA 0 rows [(j:Int),(p:Int)]) 2)=bR ((L.drop (p * 2 ^ j)).take (2 ^ j))
def Ti(lv:Int)(rows L:List G):Prop:=∀j p:Nat,(p+1) * 2 ^ j<=L.length->((p+1) * 2 ^ j<L.length∨(j:Int)<=lv)->kw 0 rows [(j:Int),(p:Int)]/\hX (ah (dA 0 rows [(j:Int),(p:Int)]) 2)=bR ((L.drop (p * 2 ^ j)).take (2 ^ j))
def yv{m:Nat}{l:List G}{k:List Int}{v:List G}(hk:k.length=(bo m).ks.length):kw m (cE m l k v) k/\dA m (cE m l k v) k= .node (k.map G.int++v):=by
 have Yw:cK (bo m).ks.length (.node (k.map G.int++v)) 0=k:=mM hk;unfold kw dA;by_cases h:bT m l k<l.length
 ·have e:cE m l k v=l.set (bT m l k) (.node (k.map G.int++v)):=by unfold cE;rw[if_pos h]
  have hi:bT m (l.set (bT m l k) (.node (k.map G.int++v))) k=bT m l k:=by
   unfold bT at h⊢;refine(List.findIdx_eq (by rw[abz];exact h)).2 ⟨?_,λj hj=>?_⟩
   ·rw[List.getElem_set_self];simpa using Yw
   ·rw[List.getElem_set_ne (by omega)];exact abT hj
  rw[e,hi];refine⟨by rw[abz];exact h, ?_⟩;unfold aL;rw[aai,abN h];rfl
 ·have e:cE m l k v=l++ [.node (k.map G.int++v)]:=by unfold cE;rw[if_neg h]
  have Xg:∀x∈l,¬cK (bo m).ks.length x 0=k:=λx hx hc=>h (List.findIdx_lt_length_of_exists ⟨x,hx,by simpa using hc⟩);have hi:bT m (l++ [.node (k.map G.int++v)]) k=l.length:=by
   unfold bT;refine(List.findIdx_eq (by simp)).2 ⟨?_,λj hj=>?_⟩
   ·rw[List.getElem_append_right (by omega)];simpa using Yw
   ·rw[abU (by omega)];simpa using Xg _ (abk _)
  rw[e,hi];refine⟨by simp, ?_⟩;unfold aL;rw[aai,aaG (by omega)];simp
def qK{m:Nat}{l:List G}{k k':List Int}{v:List G}(hk:k.length=(bo m).ks.length)(j0:k'≠k)(h':kw m l k'):kw m (cE m l k v) k'/\dA m (cE m l k v) k'=dA m l k':=by
 have Yw:cK (bo m).ks.length (.node (k.map G.int++v)) 0=k:=mM hk;have ZE:bT m l k'<l.length:=h';have j5:cK (bo m).ks.length (l[bT m l k']) 0=k':=by have:=List.findIdx_getElem (w:=(show List.findIdx _ l<l.length from ZE));exact of_decide_eq_true this
 unfold kw dA;by_cases h:bT m l k<l.length
 ·have e:cE m l k v=l.set (bT m l k) (.node (k.map G.int++v)):=by unfold cE;rw[if_pos h]
  have W5:cK (bo m).ks.length (l[bT m l k]) 0=k:=by have:=List.findIdx_getElem (w:=(show List.findIdx _ l<l.length from h));exact of_decide_eq_true this
  have Xk:bT m l k≠bT m l k':=λe=>j0 (by rw[←j5, ←W5];simp only [e]);have hi:bT m (l.set (bT m l k) (.node (k.map G.int++v))) k'=bT m l k':=by
   refine(List.findIdx_eq (by rw[abz];exact ZE)).2 ⟨?_,λj hj=>?_⟩
   ·rw[List.getElem_set_ne Xk];simpa using j5
   ·by_cases ej:bT m l k=j
    ·subst ej;rw[List.getElem_set_self];simp only [Yw,decide_eq_false_iff_not];exact λe=>j0 e.symm
    ·rw[List.getElem_set_ne ej];exact abT hj
  rw[e,hi];refine⟨by rw[abz];exact ZE, ?_⟩;unfold aL;rw[aai,List.getElem?_set_ne Xk, ←aai]
 ·have e:cE m l k v=l++ [.node (k.map G.int++v)]:=by unfold cE;rw[if_neg h]
  have hi:bT m (l++ [.node (k.map G.int++v)]) k'=bT m l k':=by
   refine(List.findIdx_eq (by simp;omega)).2 ⟨?_,λj hj=>?_⟩
   ·rw[abU ZE];simpa using j5
   ·rw[abU (by omega)];exact abT hj
  rw[e,hi];refine⟨by simp;omega, ?_⟩;unfold aL;rw[aai,aaB ZE, ←aai]
def ti(h:G):bR [.node [h]]=hX h:=tg rfl
def Ju{n:Int}{rows L:List G}{h:G}(ht:iD n rows L)(hh:hX h=h):Ti 0 (cE 0 rows [0,n] [h]) (L++ [.node [h]]):=by
 obtain⟨e,ht⟩:=ht;intro j p h1 h2;rw[aal,Zx] at h1 h2;by_cases c8:(p+1) * 2 ^ j<=L.length
 ·obtain⟨a1,a2⟩:=ht j p c8;have j0: [(j:Int),(p:Int)]≠ [0,n]:=λee=>by
   injection ee with e1 ee;injection ee with e2 _;have:j=0:=by omega
   subst this;simp at c8;omega
  obtain⟨b1,b2⟩:=qK (m:=0) (v:=[h]) rfl j0 a1;refine⟨b1, ?_⟩;rw[b2,a2];have hb:p * 2 ^ j+2 ^ j<=L.length:=by rw[aaz,Nat.one_mul] at c8;exact c8
  generalize 2 ^ j=q at hb;rw[abG (by omega),abs (by rw[aat];omega)]
 ·have hj:j=0:=by
   rcases h2 with h2|h2
   ·omega
   ·omega
  subst hj;have hp:p=L.length:=by simp at c8 h1;omega
  subst hp;obtain⟨b1,b2⟩:=yv (m:=0) (l:=rows) (k:=[0,n]) (v:=[h]) rfl;rw[e];refine⟨b1, ?_⟩;rw[show((0:Nat):Int)=0 by rfl,b2];simp only [Nat.pow_zero,aaC,List.drop_left];rw[show List.take 1 [G.node [h]]= [.node [h]] by rfl,ti];rfl
def yw(L:List G)(lv pl:Int):G:=bR ((L.drop (pl.toNat * 2 ^ lv.toNat)).take (2 ^ lv.toNat))
def uU(L:List G)(lv pl:Int)(rows:List G)(h:G):Prop:=Ti lv rows L/\0<=lv/\0<=pl/\(pl.toNat+1) * 2 ^ lv.toNat=L.length/\h=yw L lv pl
def yx{n:Int}{rows L:List G}{h:G}(ht:iD n rows L)(hh:hX h=h):uU (L++ [.node [h]]) 0 n (cE 0 rows [0,n] [h]) h:=by
 refine⟨Ju ht hh,by decide,by have:=ht.1;omega, ?_, ?_⟩
 ·rw[aal,Zx];have:=ht.1;simp;omega
 ·unfold yw;have e:n.toNat=L.length:=by have:=ht.1;omega
  rw[e];simp only [show(0:Int).toNat=0 by rfl,Nat.pow_zero,aaC,List.drop_left];rw[show List.take 1 [G.node [h]]= [.node [h]] by rfl,ti,hh]
def AO{L:List G}{lv pl:Int}{rows:List G}{h:G}(hl:uU L lv pl rows h)(ho:pl%2=1):kw 0 rows [lv,pl-1]/\hX (ah (dA 0 rows [lv,pl-1]) 2)=bR ((L.drop ((pl.toNat-1) * 2 ^ lv.toNat)).take (2 ^ lv.toNat)):=by obtain⟨h1,h2,h3,h4,h5⟩:=hl;have hp:=aaO lv.toNat;have:=h1 lv.toNat (pl.toNat-1) (by rw[←h4];exact aay _ (by omega)) (.inl (by rw[←h4];exact Nat.mul_lt_mul_of_pos_right (by omega) hp));rw[show((lv.toNat:Nat):Int)=lv by omega,show((pl.toNat-1:Nat):Int)=pl-1 by omega] at this;exact this
def C2{L:List G}{lv pl:Int}{rows:List G}{h h':G}(hl:uU L lv pl rows h)(ho:pl%2=1)(hh:h'=dl (hX (ah (dA 0 rows [lv,pl-1]) 2)) h):uU L (lv+1) (pl/2) (cE 0 rows [lv+1,pl/2] [h']) h':=by
 obtain⟨_,a2⟩:=AO hl ho;obtain⟨h1,h2,h3,h4,h5⟩:=hl;have hp:=aaO lv.toNat;have e1:(lv+1).toNat=lv.toNat+1:=by omega
 have e2:pl.toNat=2 * (pl/2).toNat+1:=by omega
 have e3:((pl/2).toNat+1) * 2 ^ (lv+1).toNat=L.length:=by rw[e1,aaY, ←h4,e2];rw[Nat.mul_comm (2 ^ lv.toNat) 2, ←Nat.mul_assoc];congr 1;omega
 have e4:h'=yw L (lv+1) (pl/2):=by
  rw[hh,a2,h5];unfold yw;have hlen:((L.drop ((pl/2).toNat * 2 ^ (lv+1).toNat)).take (2 ^ (lv+1).toNat)).length=2 ^ (lv.toNat+1):=by rw[aar,aat, ←e3,e1,aaz];omega
  have hb:(pl.toNat-1) * 2 ^ lv.toNat=(pl/2).toNat * 2 ^ (lv+1).toNat:=by rw[e1,aaY,e2,Nat.mul_comm (2 ^ lv.toNat) 2, ←Nat.mul_assoc];congr 1;omega
  have XA:pl.toNat * 2 ^ lv.toNat=(pl/2).toNat * 2 ^ (lv+1).toNat+2 ^ lv.toNat:=by
   rw[←hb];generalize 2 ^ lv.toNat=q;obtain⟨x,hx⟩:∃x,pl.toNat=x+1:=⟨pl.toNat-1,by omega⟩
   rw[hx,Nat.add_sub_cancel,aaz,Nat.one_mul]
  have h2p:2<=2 ^ (lv.toNat+1):=by rw[aaY];omega
  have aj2:kq (2 ^ (lv.toNat+1))=2 ^ lv.toNat:=Qj (by rw[aaY];omega) (by rw[aaY];omega);rw[m_ (l:=(L.drop ((pl/2).toNat * 2 ^ (lv+1).toNat)).take (2 ^ (lv+1).toNat)) (by rw[hlen];exact h2p),hlen,aj2,List.take_take,abq (by rw[e1,aaY];omega),abv,ZW,hb,XA];congr 3;rw[e1,aaY];omega
 refine⟨λj p q1 q2=>?_,by omega,by omega,e3,e4⟩;by_cases ek: [(j:Int),(p:Int)]= [lv+1,pl/2]
 ·obtain⟨b1,b2⟩:=yv (m:=0) (l:=rows) (k:=[lv+1,pl/2]) (v:=[h']) rfl;rw[ek];refine⟨b1, ?_⟩;rw[b2];injection ek with k1 ek;injection ek with k2 _;have hr:hX h'=h':=by rw[hh];exact lY (jl _ _)
  show hX h'=_;rw[hr,e4];unfold yw;rw[show(lv+1).toNat=j by omega,show(pl/2).toNat=p by omega]
 ·have:=h1 j p q1 (by
   rcases q2 with q2|q2
   ·exact .inl q2
   ·by_cases hj:(j:Int)<=lv
    ·exact .inr hj
    ·refine .inl (Nat.lt_of_le_of_ne q1 λe=>ek ?_);have ej:j=lv.toNat+1:=by omega
     subst ej;have:p+1=(pl/2).toNat+1:=Nat.eq_of_mul_eq_mul_right (aaO (lv.toNat+1)) (by rw[e, ←e3,e1]);have ep:p=(pl/2).toNat:=by omega
     rw[ep,show((lv.toNat+1:Nat):Int)=lv+1 by omega,show(((pl/2).toNat:Nat):Int)=pl/2 by omega])
  obtain⟨b1,b2⟩:=qK (m:=0) (v:=[h']) rfl ek this.1;exact⟨b1,by rw[b2];exact this.2⟩
def Qk{L:List G}{lv pl:Int}{rows:List G}{h:G}(hl:uU L lv pl rows h)(ho:¬pl%2=1):iD L.length rows L:=by
 obtain⟨h1,h2,h3,h4,h5⟩:=hl;refine⟨rfl,λj p q1=>h1 j p q1 ?_⟩;rcases aaf ((p+1) * 2 ^ j) L.length with q|q
 ·exact .inl q
 ·refine .inr ?_;have e:(p+1) * 2 ^ j=(pl.toNat+1) * 2 ^ lv.toNat:=by omega
  rcases aaf lv.toNat j with hj|hj
  ·exfalso;obtain⟨d,rfl⟩:∃d,j=lv.toNat+1+d:=⟨j-lv.toNat-1,by omega⟩
   rw[Nat.pow_add,aaY] at e;have:(pl.toNat+1)=(p+1) * 2 ^ d * 2:=Nat.eq_of_mul_eq_mul_right (aaO lv.toNat) (by rw[←e];rw[Nat.mul_comm (2 ^ lv.toNat * 2) (2 ^ d), ←Nat.mul_assoc, ←Nat.mul_assoc,Nat.mul_right_comm]);omega
  ·omega
def F2(fr n:Int):Prop:=∃j:Nat,n.toNat<=2 ^ j/\fr%(2 ^ j:Nat)=0
def Ql{N fr n:Int}{rows L:List G}{i:Nat}(ht:iD N rows L)(h0:0<=fr)(hn:n=(2 ^ i:Nat))(hb:fr+n<=N)(ha:F2 fr n):kw 0 rows [(i:Int),fr/(2 ^ i:Nat)]/\hX (ah (dA 0 rows [(i:Int),fr/(2 ^ i:Nat)]) 2)=bR ((L.drop fr.toNat).take n.toNat):=by
 obtain⟨j,a1,a2⟩:=ha;have hp:=aaO i;have hij:i<=j:=(Nat.pow_le_pow_iff_right (by decide:1<2)).1 (by omega);have hd:fr%(2 ^ i:Nat)=0:=by
  obtain⟨d,rfl⟩:∃d,j=i+d:=⟨j-i,by omega⟩
  rw[Nat.pow_add] at a2;have:=abJ a2;exact Int.emod_eq_zero_of_dvd (Int.dvd_trans ⟨((2 ^ d:Nat):Int),by push_cast;rfl⟩ this)
 obtain⟨q,hq⟩:=abJ hd;have hq0:0<=q:=by
  rcases Int.lt_or_le q 0 with h|h
  ·have:((2 ^ i:Nat):Int) * q<0:=Int.mul_neg_of_pos_of_neg (by omega) h;omega
  ·exact h
 have e1:fr/(2 ^ i:Nat)=q:=by rw[hq];exact Int.mul_ediv_cancel_left _ (by omega)
 have e2:fr.toNat=q.toNat * 2 ^ i:=by
  have:fr=((q.toNat * 2 ^ i:Nat):Int):=by rw[hq];push_cast;rw[Int.mul_comm];congr 1;omega
  omega
 have:=ht.2 i q.toNat (by rw[aaz,Nat.one_mul, ←e2];have:=ht.1;omega);rw[e1,show q=((q.toNat:Nat):Int) by omega,e2,show n.toNat=2 ^ i by omega];exact this
def Tj{fr n k:Int}(hn:2<=n)(hk:k=(kq n.toNat:Nat))(h:F2 fr n):F2 fr k:=by obtain⟨j,a1,a2⟩:=h;exact⟨j,by have:=qJ (n:=n.toNat) (by omega);omega,a2⟩
def Tl{fr n k:Int}(hn:2<=n)(h0:0<=fr)(hk:k=(kq n.toNat:Nat))(h:F2 fr n):F2 (fr+k) (n-k):=by
 obtain⟨j,a1,a2⟩:=h;have hg:=Jt (n:=n.toNat) (by omega);have hl:=qJ (n:=n.toNat) (by omega);refine⟨(n.toNat-1).log2,by show(n-k).toNat<=kq n.toNat;omega, ?_⟩;have hij:(n.toNat-1).log2<=j:=by
  rcases aaf j (n.toNat-1).log2 with h|h
  ·have:2 ^ j<2 ^ (n.toNat-1).log2:=Nat.pow_lt_pow_right (by decide) h;have:kq n.toNat=2 ^ (n.toNat-1).log2:=rfl;omega
  ·exact h
 obtain⟨d,hd⟩:∃d,j=(n.toNat-1).log2+d:=⟨j-(n.toNat-1).log2,by omega⟩
 rw[hd,Nat.pow_add] at a2;have h1:=abJ a2;have h2:((2 ^ (n.toNat-1).log2:Nat):Int) ∣ fr:=Int.dvd_trans ⟨((2 ^ d:Nat):Int),by push_cast;rfl⟩ h1;exact Int.emod_eq_zero_of_dvd (Int.dvd_add h2 ⟨1,by rw[hk];show((kq n.toNat:Nat):Int)=_;rw[Int.mul_one];rfl⟩)
def AP{L:List G}{fr n k:Int}(h0:0<=fr)(hn:2<=n)(hb:fr+n<=L.length)(hk:k=(kq n.toNat:Nat)):bR ((L.drop fr.toNat).take n.toNat)=dl (bR ((L.drop fr.toNat).take k.toNat)) (bR ((L.drop (fr+k).toNat).take (n-k).toNat)):=by
 have hl:=qJ (n:=n.toNat) (by omega);have hlen:((L.drop fr.toNat).take n.toNat).length=n.toNat:=by rw[aar,aat];omega
 rw[m_ (l:=(L.drop fr.toNat).take n.toNat) (by rw[hlen];omega),hlen,List.take_take,abq (by omega),abv,ZW];congr 3
 ·omega
 ·congr 1;omega
 ·congr 1;omega
def Tn{L:List G}{lv pl:Int}{rows:List G}{h:G}(hl:uU L lv pl rows h)(hL:L.length<=2000000):(0<=lv/\lv<=30)/\0<=pl/\pl<=2000000:=by
 obtain⟨h1,h2,h3,h4,h5⟩:=hl;have hp:=aaO lv.toNat;have a:2 ^ lv.toNat<=2000000:=by have:1 * 2 ^ lv.toNat<=(pl.toNat+1) * 2 ^ lv.toNat:=aay _ (by omega);omega
 have b:lv.toNat<31:=by
  rcases aaf lv.toNat 31 with h|h
  ·exact h
  ·have:=abK (n:=2) (by decide) h;omega
 have c:(pl.toNat+1) * 1<=(pl.toNat+1) * 2 ^ lv.toNat:=Nat.mul_le_mul_left _ hp;omega
def AQ{n:Int}{rows L:List G}(h:iD n rows L):(L.length:Int)=n:=by exact h.1
def Qm:iD 0 [] []:=by exact⟨rfl,λj p h=>by have:=aaO j;have:1 * 2 ^ j<=(p+1) * 2 ^ j:=aay _ (by omega);simp at h;omega⟩
def Wg(n:Int):F2 0 n:=by exact⟨n.toNat,Nat.le_of_lt Nat.lt_two_pow_self,by simp⟩
def MH(n:Nat):kq n=2 ^ (n-1).log2:=rfl
attribute [irreducible] iD uU F2 kq
end
noncomputable section
def du(x:Int):Int:=if x<=0 then 0 else((x.toNat.log2+1:Nat):Int)
def Jv:List Nat:=[0,1,2,2,3,3,3,3,4,4,4,4,4,4,4,4,5,5,5,5,5,5,5,5,5,5,5,5,5,5,5,5,6,6,6,6,6,6,6,6,6,6,6,6,6,6,6,6,6,6,6,6,6,6,6,6,6,6,6,6,6,6,6,6,7,7,7,7,7,7,7,7,7,7,7,7,7,7,7,7,7,7,7,7,7,7,7,7,7,7,7,7,7,7,7,7,7,7,7,7,7,7,7,7,7,7,7,7,7,7,7,7,7,7,7,7,7,7,7,7,7,7,7,7,7,7,7,7,8,8,8,8,8,8,8,8,8,8,8,8,8,8,8,8,8,8,8,8,8,8,8,8,8,8,8,8,8,8,8,8,8,8,8,8,8,8,8,8,8,8,8,8,8,8,8,8,8,8,8,8,8,8,8,8,8,8,8,8,8,8,8,8,8,8,8,8,8,8,8,8,8,8,8,8,8,8,8,8,8,8,8,8,8,8,8,8,8,8,8,8,8,8,8,8,8,8,8,8,8,8,8,8,8,8,8,8,8,8,8,8,8,8,8,8,8,8,8,8,8,8,8,8,8,8,8,8]
def eI:List Nat:=[0,1,56,2,57,49,28,3,61,58,42,50,38,29,17,4,62,47,59,36,45,43,51,22,53,39,33,30,24,18,12,5,63,55,48,27,60,41,37,16,46,35,44,21,52,32,23,11,54,26,40,15,34,20,31,10,25,14,19,9,13,8,7,6]
def MI:∀i:Nat,i<256->((iE Jv i:Nat):Int)=du i:=by
 have h:∀i:Fin 256,iE Jv i.1=if i.1=0 then 0 else i.1.log2+1:=by decide+kernel
 intro i hi;rw[h ⟨i,hi⟩];unfold du;by_cases e:i=0
 ·subst e;rfl
 ·rw[if_neg e,if_neg (by omega),aaA]
def MJ(x:Int):Int:=IntKind.u64.wrap (Int.ofNat ((aD (ai .u64) x).land (aD (ai .u64) ((0-x)%18446744073709551616)))) * 285870213051353865%18446744073709551616/288230376151711744
def Qn:∀j:Fin 41,(0<=MJ ((2 ^ j.1:Nat):Int)/\MJ ((2 ^ j.1:Nat):Int)<64)/\eI.getD (MJ ((2 ^ j.1:Nat):Int)).toNat 0=j.1:=by decide+kernel
def To{x:Int}{j:Nat}(hj:j<=40)(e:x=((2 ^ j:Nat):Int)):0<x/\(0<=MJ x/\MJ x<64)/\(((eI.getD (MJ x).toNat 0:Nat):Int)=(j:Int))/\x=((2 ^ (((eI.getD (MJ x).toNat 0:Nat):Int)).toNat:Nat):Int):=by subst e;obtain⟨h1,h2⟩:=Qn ⟨j,by omega⟩;refine⟨by have:=aaO j;omega,h1,by rw[h2], ?_⟩;have h2:eI.getD (MJ ((2 ^ j:Nat):Int)).toNat 0=j:=h2;rw[h2,aaA]
def AR{x:Nat}{k:Nat}(h:2 ^ k<=x):x.log2=k+(x/2 ^ k).log2:=by
 have hp:=aaO k;have hd:x/2 ^ k≠0:=by have:=Nat.div_pos h hp;omega
 have hx:x≠0:=by omega
 have a:=Nat.log2_self_le hd;have b:x/2 ^ k<2 ^ ((x/2 ^ k).log2+1):=Nat.lt_log2_self;have h1:2 ^ (k+(x/2 ^ k).log2)<=x:=by rw[Nat.pow_add,Nat.mul_comm];exact aaH (aay _ a) (Nat.div_mul_le_self _ _)
 have h2:x<2 ^ (k+(x/2 ^ k).log2+1):=by rw[abu,Nat.pow_add,Nat.mul_comm];exact(Nat.div_lt_iff_lt_mul hp).1 b
 have c1:=(Nat.le_log2 hx).2 h1;have c2:=(Nat.log2_lt hx).2 h2;omega
def kR{x:Int}(k:Nat)(h:((2 ^ k:Nat):Int)<=x):du x=k+du (x/((2 ^ k:Nat):Int)):=by
 obtain⟨n,rfl⟩:∃n:Nat,x=n:=⟨x.toNat,by have:=aaO k;omega⟩
 have hn:2 ^ k<=n:=by omega
 have hp:=aaO k;have hd:0<n/2 ^ k:=Nat.div_pos hn hp;have e:((n:Int)/((2 ^ k:Nat):Int))=((n/2 ^ k:Nat):Int):=by simp
 rw[e];unfold du;rw[if_neg (by omega),if_neg (by omega),aaA,aaA,AR hn];omega
def MK{x:Int}(h:4294967296<=x):du x=32+du (x/4294967296):=kR 32 h
def C3{x:Int}(h:65536<=x):du x=16+du (x/65536):=kR 16 h
def uV{x:Int}(h:256<=x):du x=8+du (x/256):=kR 8 h
def dX{x:Int}(h0:0<=x)(h:x<256):((iE Jv (x%256).toNat:Nat):Int)=du x:=by rw[MI _ (by omega)];congr 1;omega
def Fh{n:Int}(h:2<=n)(h1:n<=1099511627776):(0<=du (n-1)-1/\du (n-1)-1<=40)/\((2 ^ min (du (n-1)-1).toNat (aZ .i64):Nat):Int)=(kq n.toNat:Nat):=by
 have e:du (n-1)-1=(((n.toNat-1).log2:Nat):Int):=by unfold du;rw[if_neg (by omega),show(n-1).toNat=n.toNat-1 by omega];omega
 have hl:(n.toNat-1).log2<41:=(Nat.log2_lt (by omega)).2 (by omega);rw[e];refine⟨by omega, ?_⟩;rw[aaA,MH];show((2 ^ min ((n.toNat-1).log2) 64:Nat):Int)=_;rw[abq (by omega)]
def AS{n:Int}(h:2<=n):1<=((kq n.toNat:Nat):Int)/\((kq n.toNat:Nat):Int)<n/\n<=2 * ((kq n.toNat:Nat):Int):=by have a:=C1 n.toNat;have b:=qJ (n:=n.toNat) (by omega);have c:=Jt (n:=n.toNat) (by omega);omega
def Tp{x:Int}(h0:0<=x)(h:x<9223372036854775808):IntKind.i64.wrap (Int.ofNat ((aD (ai .i64) x).land (aD (ai .i64) 1)))=x%2:=by
 obtain⟨n,rfl⟩:∃n:Nat,x=n:=⟨x.toNat,by omega⟩
 have e:(aD (ai .i64) n).land (aD (ai .i64) 1)=n%2:=by show(n%18446744073709551616) &&& 1=_;rw[abc (by omega),Nat.and_one_is_mod]
 rw[e];rcases Nat.mod_two_eq_zero_or_one n with h2|h2
 ·rw[h2];show(0:Int)=_;omega
 ·rw[h2];show(1:Int)=_;omega
def ML{n:Nat}(h:1<=n):n &&& (n-1)=0↔∃i,n=2 ^ i:=by
 constructor
 ·intro e;refine⟨n.log2, ?_⟩;have a:=Nat.log2_self_le (n:=n) (by omega);rcases aaf (2 ^ n.log2) n with c8|W3
  ·exfalso;have b:n<2 ^ (n.log2+1):=Nat.lt_log2_self;have t1:n.testBit n.log2=true:=Nat.testBit_log2 (by omega);have t2:(n-1).testBit n.log2=true:=by
    have:(n-1).log2=n.log2:=by have c1:=(Nat.le_log2 (n:=n-1) (k:=n.log2) (by omega)).2 (by omega);have c2:=(Nat.log2_lt (n:=n-1) (k:=n.log2+1) (by omega)).2 (by omega);omega
    rw[←this];exact Nat.testBit_log2 (by omega)
   have t3:(n &&& (n-1)).testBit n.log2=true:=by rw[Nat.testBit_and,t1,t2];rfl
   rw[e] at t3;simp at t3
  ·omega
 ·rintro⟨i,rfl⟩;refine Nat.eq_of_testBit_eq λj=>?_
  rw[Nat.testBit_and,Nat.testBit_two_pow_sub_one,Nat.testBit_two_pow,Nat.zero_testBit];by_cases e:i=j
  ·subst e;simp
  ·simp [e]
def Jw{x y:Int}(hy:y=x-1)(h0:1<=x)(h:x<4611686018427387904):IntKind.i64.wrap (Int.ofNat ((aD (ai .i64) x).land (aD (ai .i64) y)))=0↔∃i:Nat,x=((2 ^ i:Nat):Int):=by
 subst hy;obtain⟨n,rfl⟩:∃n:Nat,x=n:=⟨x.toNat,by omega⟩
 obtain⟨m,hm⟩:∃m:Nat,n=m+1:=⟨n-1,by omega⟩
 subst hm;have e:(aD (ai .i64) ((m+1:Nat):Int)).land (aD (ai .i64) (((m+1:Nat):Int)-1))=(m+1) &&& m:=by rw[show((m+1:Nat):Int)-1=(m:Nat) by omega];show((m+1)%18446744073709551616) &&& (m%18446744073709551616)=_;rw[abc (by omega),abc (by omega)]
 rw[e,qB (Nat.lt_of_le_of_lt Nat.and_le_left (by omega)),show(m+1) &&& m=(m+1) &&& (m+1-1) by rfl,ML (by omega)];exact⟨λ⟨i,hi⟩=>⟨i,by omega⟩,λ⟨i,hi⟩=>⟨i,by omega⟩⟩
def Jx{L:List G}{h:G}(hL:RowsOk L)(hh:cD h):RowsOk (L++ [.node [h]]):=λr hr=>by
 rcases List.mem_append.1 hr with hr|hr
 ·exact hL r hr
 ·rw[List.mem_singleton.1 hr];show cD (hX h);rw[lY hh];exact hh
def uW(x:Int):Prop:=∃j:Nat,x=((2 ^ j:Nat):Int)
def Qo:uW 1:=⟨0,rfl⟩
def Qp{x:Int}(h:uW x):1<=x:=by obtain⟨j,e⟩:=h;have:=aaO j;omega
def Qq{x y:Int}(hy:y=x-1)(h0:1<=x)(h:x<4611686018427387904):IntKind.i64.wrap (Int.ofNat ((aD (ai .i64) x).land (aD (ai .i64) y)))=0↔uW x:=Jw hy h0 h
def Tq{x:Int}(h:uW x)(hx:x<=1000000):∃j:Nat,j<=40/\x=((2 ^ j:Nat):Int):=by
 obtain⟨j,e⟩:=h;refine⟨j, ?_,e⟩;rcases aaf 40 j with h|h
 ·have:=abK (n:=2) (by decide) h;omega
 ·exact h
def kS(lv pl:Int)(rows:List G)(h:G):Prop:=∃L,uU L lv pl rows h/\L.length<=2000000/\RowsOk L
def rB(lv pl:Int)(rows:List G)(h:G)(j9:List G):Prop:=∀L,uU L lv pl rows h->iD L.length j9 L
def eE(n:Int)(rows:List G):Prop:=∃L,iD n rows L/\RowsOk L
def yy(n:Int)(rows:List G)(h:G)(n':Int)(j9:List G):Prop:=∀L,iD n rows L->iD n' j9 (L++ [.node [h]])
def gg(n:Int)(rows:List G)(fr k:Int)(h:G):Prop:=∀L,iD n rows L->h=bR ((L.drop fr.toNat).take k.toNat)
def Qr{lv pl:Int}{rows:List G}{h:G}(hl:kS lv pl rows h):(0<=lv/\lv<=30)/\0<=pl/\pl<=2000000:=by obtain⟨L,h1,h2,_⟩:=hl;exact Tn h1 h2
def MM{lv pl:Int}{rows:List G}{h:G}(hl:kS lv pl rows h)(ho:pl%2=1):kw 0 rows [lv,pl-1]:=by obtain⟨L,h1,h2⟩:=hl;exact(AO h1 ho).1
def Qs{lv pl:Int}{rows:List G}{h:G}(hl:kS lv pl rows h)(ho:pl%2=1):cD (hX (ah (dA 0 rows [lv,pl-1]) 2)):=by obtain⟨L,h1,h2,h3⟩:=hl;rw[(AO h1 ho).2];exact mj _ ((h3.drop _).take _)
def Jy{lv pl:Int}{rows:List G}{h h':G}(hl:kS lv pl rows h)(ho:pl%2=1)(hh:h'=dl (hX (ah (dA 0 rows [lv,pl-1]) 2)) h):kS (lv+1) (pl/2) (cE 0 rows [lv+1,pl/2] [h']) h':=by obtain⟨L,h1,h2⟩:=hl;exact⟨L,C2 h1 ho hh,h2⟩
def Jz{lv pl:Int}{rows j9:List G}{h h':G}(ho:pl%2=1)(hh:h'=dl (hX (ah (dA 0 rows [lv,pl-1]) 2)) h)(ht:rB (lv+1) (pl/2) (cE 0 rows [lv+1,pl/2] [h']) h' j9):rB lv pl rows h j9:=λL hl=>ht L (C2 hl ho hh)
def MN{lv pl:Int}{rows:List G}{h:G}(ho:¬pl%2=1):rB lv pl rows h rows:=λL hl=>Qk hl ho
def Fi{n:Int}{rows:List G}{h:G}(hl:eE n rows)(hn:n<=1000000)(hh:hX h=h)(ho:cD h):kS 0 n (cE 0 rows [0,n] [h]) h:=by obtain⟨L,h1,h2⟩:=hl;exact⟨_,yx h1 hh,by have:=AQ h1;rw[aal,Zx];omega,Jx h2 ho⟩
def Fj{n:Int}{rows j9:List G}{h:G}(hh:hX h=h)(ht:rB 0 n (cE 0 rows [0,n] [h]) h j9):yy n rows h (n+1) j9:=λL hl=>by have:=ht _ (yx hl hh);rw[aal,Zx] at this;have e:=AQ hl;rw[show((L.length+1:Nat):Int)=n+1 by omega] at this;exact this
def MO{N fr n lv:Int}{rows:List G}(h0:0<=fr)(hlv:0<=lv)(hn:n=((2 ^ lv.toNat:Nat):Int))(hb:fr+n<=N)(ha:F2 fr n):(eE N rows->kw 0 rows [lv,fr/((2 ^ lv.toNat:Nat):Int)]/\cD (hX (ah (dA 0 rows [lv,fr/((2 ^ lv.toNat:Nat):Int)]) 2)))/\gg N rows fr n (hX (ah (dA 0 rows [lv,fr/((2 ^ lv.toNat:Nat):Int)]) 2)):=by have key:=λL (hl:iD N rows L)=>Ql (i:=lv.toNat) hl h0 hn hb ha;rw[show((lv.toNat:Nat):Int)=lv by omega] at key;exact⟨λ⟨L,h1,h2⟩=>⟨(key L h1).1,by rw[(key L h1).2];exact mj _ ((h2.drop _).take _)⟩,λL hl=>(key L hl).2⟩
def MP{N fr n k:Int}{rows:List G}{a b:G}(h0:0<=fr)(hn:2<=n)(hb:fr+n<=N)(hk:k=(kq n.toNat:Nat))(h1:gg N rows fr k a)(h2:gg N rows (fr+k) (n-k) b):gg N rows fr n (dl a b):=λL hl=>by rw[AP h0 hn (by have:=AQ hl;omega) hk,h1 L hl,h2 L hl]
def Qt{N fr n:Int}{rows:List G}{h:G}(he:eE N rows)(ht:gg N rows fr n h):cD h:=by obtain⟨L,h1,h2⟩:=he;rw[ht L h1];exact mj _ ((h2.drop _).take _)
def MQ{N:Int}{rows:List G}{n:Int}(hn:n=0):gg N rows 0 n (qm []):=λL _=>by subst hn;show _=bR [];rw[th rfl]
def JA:FSpec:=⟨[.c (.i .u64 1)],[],λz=>0<=z.i 1/\z.i 1<18446744073709551616,λ_=>.one (.c (.i .i64 10)),λ_=>[],λz y=>y.i 10=du (z.i 1),[]⟩
def OL:FSpec:=⟨[.c (.i .i64 1)],[],λz=>2<=z.i 1/\z.i 1<=1099511627776,λ_=>.one (.c (.i .i64 10)),λ_=>[],λz y=>y.i 10=(kq (z.i 1).toNat:Nat),[]⟩
def uX:List (Nat×Nat×List Nat):=[(0,339,eI)]
def Wh:FSpec:=⟨[.c (.i .u64 1)],[],λz=>uW (z.i 1)/\z.i 1<=1000000,λ_=>.one (.c (.i .i64 10)),λ_=>[],λz y=>(0<=y.i 10/\y.i 10<=40)/\z.i 1=((2 ^ (y.i 10).toNat:Nat):Int),uX⟩
def JB:List BSh:=[.cells 160 [.i .i64 1,.m 1],.sm 0 2]
def Qu:List BSh:=[.cells 160 [.i .i64 1,.m 1],.sm 0 2,.cells 44 (hs 100)]
def JC(p:Sy):LSpec:=⟨[(0,.c (.p 0)),(3,.c (.p 2)),(5,.c (.i .i64 5)),(6,.c (.i .i64 6)),(7,.c (.i .i64 7))],Qu,λz=>cD (hT z 100)/\kS (z.i 6) (z.i 7) (z.g 2) (hT z 100),λz=>(z.i 7).toNat,[⟨.exit 0,[(0,.c (.p 0)),(5,.c (.i .i64 5))],Qu⟩],λz y=>y.i 5=z.i 5/\y.i 1=z.i 1/\rB (z.i 6) (z.i 7) (z.g 2) (hT z 100) (y.g 2),[],[]⟩
def Ts:FSpec:=⟨[.c (.p 0),.ag (hs 100)],JB,λz=>cD (hT z 100)/\(0<=z.i 1/\z.i 1<1000000)/\eE (z.i 1) (z.g 2),λ_=>.one (.c .o),λ_=>JB,λz y=>y.i 1=z.i 1+1/\yy (z.i 1) (z.g 2) (hT z 100) (y.i 1) (y.g 2),[]⟩
def OM(k:Nat):FSpec:=⟨[.c (.p 0),.c (.i .i64 5),.c (.i .i64 6)],JB,λz=>(1<=z.i 6/\z.i 6<k)/\0<=z.i 5/\z.i 5+z.i 6<=z.i 1/\z.i 1<=1000000/\F2 (z.i 5) (z.i 6)/\eE (z.i 1) (z.g 2),λ_=>.one (.ag (hs 300)),λ_=>JB,λz y=>y.i 1=z.i 1/\y.g 2=z.g 2/\gg (z.i 1) (z.g 2) (z.i 5) (z.i 6) (hT y 300),uX⟩
def ON:FSpec:=⟨[.c (.p 0),.c (.i .i64 6)],JB,λz=>(0<=z.i 1/\z.i 1<=1000000)/\eE (z.i 1) (z.g 2),λ_=>.tu [.ag (hs 300),.c (.i .i64 50)],λ_=>JB,λz y=>y.i 1=z.i 1/\y.g 2=z.g 2/\(z.i 6<0∨z.i 1<z.i 6->y.i 50=1/\hT y 300=hZ)/\(0<=z.i 6/\z.i 6<=z.i 1->y.i 50=0/\gg (z.i 1) (z.g 2) 0 (z.i 6) (hT y 300)),uX⟩
def C4{n n':Int}{rows j9:List G}{h:G}(ht:yy n rows h n' j9)(L:List G)(hl:iD n rows L):iD n' j9 (L++ [.node [h]]):=ht L hl
def JD{n:Int}{rows L:List G}(hl:iD n rows L)(hr:RowsOk L):eE n rows:=⟨L,hl,hr⟩
def Qv{n fr k:Int}{rows:List G}{h:G}(ht:gg n rows fr k h)(L:List G)(hl:iD n rows L):h=bR ((L.drop fr.toNat).take k.toNat):=ht L hl
attribute [irreducible] uW du Jv eI kS rB eE yy gg
end
abbrev Fk(a:Prop)(b c d e f:Int)(g)(h:G)(i:Int)(j:List G)(k:G):=a/\b.toNat<c.toNat/\∀(y:Sy),y.i 5=d/\y.i 1=e/\rB f b g h (y.g 2)->y.i 5=d/\y.i 1=e/\rB i c j k (y.g 2)
abbrev JE(a b:G):=Fm.ct (cD a/\cD b) (λy=>hT y 300=dl a b)
def MS:cH 68 0 JC:=cG 25 55304495116885 (ar uI eN) lN λp z hA=>show Fm.den (let v1:=((-9223372036854775808)<=z.i 6+1/\z.i 6+1<=9223372036854775807);let v3:=(z.i 7/2);let v4:=(z.i 6+1);let v2:=(IntKind.i64.wrap v4);let v5:=(hT z 100);let v6:=(hX (ah (dA 0 (z.g 2) [z.i 6,IntKind.i64.wrap (z.i 7-1)]) 2));let v7:=(hX (ah (dA 0 (z.g 2) [z.i 6,z.i 7-1]) 2));let v0:Fm:=(.ct (cD hZ/\cD v5) (λy0=>hT y0 300=dl hZ v5) λy0=>(let v8:=(cE 0 (z.g 2) [IntKind.i64.wrap v4,z.i 7/2] [hT y0 300]);let v9:=(cE 0 (z.g 2) [z.i 6+1,z.i 7/2] [hT y0 300]);let v10:=(hT y0 300);(.two v1 (.an v1 (.ax (Fk (cD v10/\kS v4 v3 v9 v10) v3 (z.i 7) (z.i 5) (z.i 1) v4 v9 v10 (z.i 6) (z.g 2) v5))) (.an (¬v1) (.ax (Fk (cD v10/\kS v2 v3 v8 v10) v3 (z.i 7) (z.i 5) (z.i 1) v2 v8 v10 (z.i 6) (z.g 2) v5))))));(.two (IntKind.i64.wrap (Int.ofNat ((aD (ai .i64) (z.i 7)).land (aD (ai .i64) 1)))=1) (.two ((-9223372036854775808)<=z.i 7-1/\z.i 7-1<=9223372036854775807) (.two (kw 0 (z.g 2) [z.i 6,z.i 7-1]) (JE v7 v5 λy0=>(let v11:=(cE 0 (z.g 2) [IntKind.i64.wrap v4,z.i 7/2] [hT y0 300]);let j8:=(cE 0 (z.g 2) [z.i 6+1,z.i 7/2] [hT y0 300]);let l9:=(hT y0 300);(.two v1 (.an v1 (.ax (Fk (cD l9/\kS v4 v3 j8 l9) v3 (z.i 7) (z.i 5) (z.i 1) v4 j8 l9 (z.i 6) (z.g 2) v5))) (.an (¬v1) (.ax (Fk (cD l9/\kS v2 v3 v11 l9) v3 (z.i 7) (z.i 5) (z.i 1) v2 v11 l9 (z.i 6) (z.g 2) v5)))))) v0) (.two (kw 0 (z.g 2) [z.i 6,IntKind.i64.wrap (z.i 7-1)]) (JE v6 v5 λy0=>(let p5:=(cE 0 (z.g 2) [IntKind.i64.wrap v4,z.i 7/2] [hT y0 300]);let Wv:=(cE 0 (z.g 2) [z.i 6+1,z.i 7/2] [hT y0 300]);let F':=(hT y0 300);(.two v1 (.an v1 (.ax (Fk (cD F'/\kS v4 v3 Wv F') v3 (z.i 7) (z.i 5) (z.i 1) v4 Wv F' (z.i 6) (z.g 2) v5))) (.an (¬v1) (.ax (Fk (cD F'/\kS v2 v3 p5 F') v3 (z.i 7) (z.i 5) (z.i 1) v2 p5 F' (z.i 6) (z.g 2) v5)))))) v0)) (.ax (z.i 5=z.i 5/\z.i 1=z.i 1/\rB (z.i 6) (z.i 7) (z.g 2) v5 (z.g 2))))) by
 dsimp only [JC,Qu,hs] at hA;have:=@Qr (z.i 6) (z.i 7) (z.g 2) (hT z 100);have:=@MM (z.i 6) (z.i 7) (z.g 2) (hT z 100);have:=@Qs (z.i 6) (z.i 7) (z.g 2) (hT z 100);have:=λh' hl ho hh=>@Jy (z.i 6) (z.i 7) (z.g 2) (hT z 100) h' hl ho hh;have:=λj9 h' ho hh ht=>@Jz (z.i 6) (z.i 7) (z.g 2) j9 (hT z 100) h' ho hh ht;have:=@MN (z.i 6) (z.i 7) (z.g 2) (hT z 100);have:=@Tp (z.i 7);conv=>zeta
 repeat' with_reducible first|intro _|apply d_|apply ed|apply ef|apply eu|apply ew
 all_goals first|omega|grind [aA,aq,ao,cd,ce,cf,cg,ci,cj,ck,cm,co,aY,jl]
def OO:bI 68 Ts:=cC 3 11 eN (aX (ptm:=[]) MS lN) λz hA=>show Fm.den (let v0:=(cE 0 (z.g 2) [0,z.i 1] [hT z 100]);let v1:=(hT z 100);(.an (¬(1048576<=z.i 1)) (.an ((-9223372036854775808)<=z.i 1+1/\z.i 1+1<=9223372036854775807) (.ct (cD v1/\kS 0 (z.i 1) v0 v1) (λy0=>y0.i 5=z.i 1/\y0.i 1=z.i 1+1/\rB 0 (z.i 1) v0 v1 (y0.g 2)) λy0=>(.ax (y0.i 1=z.i 1+1/\yy (z.i 1) (z.g 2) v1 (y0.i 1) (y0.g 2))))))) by dsimp only [Ts,hs,JB] at hA;have:=@Fi (z.i 1) (z.g 2) (hT z 100);have:=@lY (hT z 100);have:=λj9 hh ht=>@Fj (z.i 1) (z.g 2) j9 (hT z 100) hh ht;exact nN
def Vk:bI 255 Wh:=cC 5 17 eN lN λz hA=>show Fm.den (let v1:=(Int.ofNat ((aD (lS) (z.i 1)).land (aD (lS) ((0-z.i 1)%18446744073709551616))));let v0:=(↑(eI.getD (IntKind.u64.wrap v1 * 285870213051353865%18446744073709551616/288230376151711744).toNat 0):Int);(.two (z.i 1=0) (.ax (((0:Int)<=64/\(64:Int)<=40)/\z.i 1= ↑(2 ^ Int.toNat 64))) (.an ((0:Int)<=IntKind.u64.wrap v1 * 285870213051353865%18446744073709551616/288230376151711744/\IntKind.u64.wrap v1 * 285870213051353865%18446744073709551616/288230376151711744<64) (.two ((-9223372036854775808:Int)<=v0/\v0<=9223372036854775807) (.ax (((0:Int)<=v0/\v0<=40)/\z.i 1=(↑(2 ^ v0.toNat):Int))) (.ax (((0:Int)<=IntKind.i64.wrap v0/\IntKind.i64.wrap v0<=40)/\z.i 1=(↑(2 ^ (IntKind.i64.wrap v0).toNat):Int))))))) by
 have hB:True/\uW (z.i 1)/\z.i 1<=1000000:=⟨trivial,hA⟩
 obtain⟨j,hj,ej⟩:=Tq hB.2.1 hB.2.2;have t:=To hj ej;dsimp only [MJ] at t;exact nN
abbrev yz(a:Int):=iE Jv a.toNat
def MT:bI 181 JA:=cC 31 732161104241009301 eN lN λz hA=>show Fm.den (let v0:=(↑(yz (z.i 1/4294967296/65536/256%256)):Int);let v1:=(↑(yz (z.i 1/4294967296/65536%256)):Int);let v2:=(↑(yz (z.i 1/4294967296/256%256)):Int);let v3:=(↑(yz (z.i 1/65536/256%256)):Int);let v4:=(↑(yz (z.i 1/4294967296%256)):Int);let v5:=(↑(yz (z.i 1/65536%256)):Int);let v6:=(↑(yz (z.i 1/256%256)):Int);let v7:=(↑(yz (z.i 1%256)):Int);(.two (4294967296<=z.i 1) (.two (65536<=z.i 1/4294967296) (.two (256<=z.i 1/4294967296/65536) (.an (0<=z.i 1/4294967296/65536/256%256/\z.i 1/4294967296/65536/256%256 < ↑256) (.an ((-9223372036854775808)<=v0/\v0<=9223372036854775807) (.an ((-9223372036854775808)<=56+v0/\56+v0<=9223372036854775807) (.ax (56+v0=du (z.i 1)))))) (.an (0<=z.i 1/4294967296/65536%256/\z.i 1/4294967296/65536%256 < ↑256) (.an ((-9223372036854775808)<=v1/\v1<=9223372036854775807) (.an ((-9223372036854775808)<=48+v1/\48+v1<=9223372036854775807) (.ax (48+v1=du (z.i 1))))))) (.two (256<=z.i 1/4294967296) (.an (0<=z.i 1/4294967296/256%256/\z.i 1/4294967296/256%256 < ↑256) (.an ((-9223372036854775808)<=v2/\v2<=9223372036854775807) (.an ((-9223372036854775808)<=40+v2/\40+v2<=9223372036854775807) (.ax (40+v2=du (z.i 1)))))) (.an (0<=z.i 1/4294967296%256/\z.i 1/4294967296%256 < ↑256) (.an ((-9223372036854775808)<=v4/\v4<=9223372036854775807) (.an ((-9223372036854775808)<=32+v4/\32+v4<=9223372036854775807) (.ax (32+v4=du (z.i 1)))))))) (.two (65536<=z.i 1) (.two (256<=z.i 1/65536) (.an (0<=z.i 1/65536/256%256/\z.i 1/65536/256%256 < ↑256) (.an ((-9223372036854775808)<=v3/\v3<=9223372036854775807) (.an ((-9223372036854775808)<=24+v3/\24+v3<=9223372036854775807) (.ax (24+v3=du (z.i 1)))))) (.an (0<=z.i 1/65536%256/\z.i 1/65536%256 < ↑256) (.an ((-9223372036854775808)<=v5/\v5<=9223372036854775807) (.an ((-9223372036854775808)<=16+v5/\16+v5<=9223372036854775807) (.ax (16+v5=du (z.i 1))))))) (.two (256<=z.i 1) (.an (0<=z.i 1/256%256/\z.i 1/256%256 < ↑256) (.an ((-9223372036854775808)<=v6/\v6<=9223372036854775807) (.an ((-9223372036854775808)<=8+v6/\8+v6<=9223372036854775807) (.ax (8+v6=du (z.i 1)))))) (.an (0<=z.i 1%256/\z.i 1%256 < ↑256) (.an ((-9223372036854775808)<=v7/\v7<=9223372036854775807) (.an ((-9223372036854775808)<=0+v7/\0+v7<=9223372036854775807) (.ax (0+v7=du (z.i 1)))))))))) by dsimp only [JA] at hA;have:=@MK (z.i 1);have:=@C3 (z.i 1);have:=@uV (z.i 1);have:=@C3 (z.i 1/4294967296);have:=@uV (z.i 1/4294967296);have:=@uV (z.i 1/65536);have:=@uV (z.i 1/4294967296/65536);have:=@dX (z.i 1);have:=@dX (z.i 1/256);have:=@dX (z.i 1/65536);have:=@dX (z.i 1/65536/256);have:=@dX (z.i 1/4294967296);have:=@dX (z.i 1/4294967296/256);have:=@dX (z.i 1/4294967296/65536);have:=@dX (z.i 1/4294967296/65536/256);exact nN
def Qw:bI 256 OL:=cC 8 1046 (ar MT eN) lN λz hA=>show Fm.den (let v0:=(aZ IntKind.i64);let v1:=(kq (z.i 1).toNat);(.an ((-9223372036854775808)<=z.i 1-1/\z.i 1-1<=9223372036854775807) (.ct ((0:Int)<=(z.i 1-1)%18446744073709551616/\(z.i 1-1)%18446744073709551616<18446744073709551616) (λy0=>y0.i 10=du ((z.i 1-1)%18446744073709551616)) λy0=>(let v2:=(↑(2 ^ Min.min (IntKind.i64.wrap (y0.i 10-1)).toNat v0):Int);let v3:=(↑(2 ^ Min.min (y0.i 10-1).toNat v0):Int);(.two ((-9223372036854775808)<=y0.i 10-1/\y0.i 10-1<=9223372036854775807) (.an (0<=y0.i 10-1) (.two ((-9223372036854775808)<=1 * v3/\1 * v3<=9223372036854775807) (.ax (1 * v3=(↑v1:Int))) (.ax (IntKind.i64.wrap (1 * v3)= ↑v1)))) (.an ((0:Int)<=IntKind.i64.wrap (y0.i 10-1)) (.two ((-9223372036854775808:Int)<=1 * v2/\(1:Int) * v2<=9223372036854775807) (.ax (1 * v2=(↑v1:Int))) (.ax (IntKind.i64.wrap (1 * v2)= ↑v1))))))))) by dsimp only [OL] at hA;have:=@Fh (z.i 1);have:=@AS (z.i 1);exact nN
def C5:∀k,bI 205 (OM k)
 |0=>RX λz h=>by have h:(1<=z.i 6/\z.i 6<((0:Nat):Int)):=h.1;omega
 |k+1=>cC 8 10262 (ar Vk (ar Qw (ar (C5 k) (ar uI eN)))) lN λz hA=>show Fm.den ((.an ((-9223372036854775808)<=z.i 6-1/\z.i 6-1<=9223372036854775807) (.two (IntKind.i64.wrap (Int.ofNat ((aD (ai .i64) (z.i 6)).land (aD (ai .i64) (z.i 6-1))))=0) (.ct (uW (z.i 6%18446744073709551616)/\z.i 6%18446744073709551616<=1000000) (λy0=>(0<=y0.i 10/\y0.i 10<=40)/\z.i 6%18446744073709551616= ↑(2 ^ (y0.i 10).toNat)) λy0=>(let v0:=(2 ^ Min.min (y0.i 10).toNat (aZ IntKind.i64));(.an (0<=y0.i 10) (.two (kw 0 (z.g 2) [y0.i 10,z.i 5 / ↑v0]) (.ax (z.i 1=z.i 1/\z.g 2=z.g 2/\gg (z.i 1) (z.g 2) (z.i 5) (z.i 6) (hX (ah (dA 0 (z.g 2) [y0.i 10,z.i 5/(↑v0:Int)]) 2)))) (.ax (z.i 1=z.i 1/\z.g 2=z.g 2/\gg (z.i 1) (z.g 2) (z.i 5) (z.i 6) hZ)))))) (.ct (2<=z.i 6/\z.i 6<=1099511627776) (λy0=>y0.i 10= ↑(kq (z.i 6).toNat)) λy0=>(let v1:=(z.i 6-y0.i 10);(.ct ((1<=y0.i 10/\y0.i 10 < ↑k)/\0<=z.i 5/\z.i 5+y0.i 10<=z.i 1/\z.i 1<=1000000/\F2 (z.i 5) (y0.i 10)/\eE (z.i 1) (z.g 2)) (λy1=>y1.i 1=z.i 1/\y1.g 2=z.g 2/\gg (z.i 1) (z.g 2) (z.i 5) (y0.i 10) (hT y1 300)) λy1=>(.an ((-9223372036854775808)<=z.i 5+y0.i 10/\z.i 5+y0.i 10<=9223372036854775807) (.an ((-9223372036854775808)<=z.i 6-y0.i 10/\z.i 6-y0.i 10<=9223372036854775807) (.ct ((1<=z.i 6-y0.i 10/\z.i 6-y0.i 10 < ↑k)/\0<=z.i 5+y0.i 10/\z.i 5+y0.i 10+v1<=y1.i 1/\y1.i 1<=1000000/\F2 (z.i 5+y0.i 10) v1/\eE (y1.i 1) (y1.g 2)) (λy2=>y2.i 1=y1.i 1/\y2.g 2=y1.g 2/\gg (y1.i 1) (y1.g 2) (z.i 5+y0.i 10) v1 (hT y2 300)) λy2=>(JE (hT y1 300) (hT y2 300) λy3=>(.ax (y2.i 1=z.i 1/\y2.g 2=z.g 2/\gg (z.i 1) (z.g 2) (z.i 5) (z.i 6) (hT y3 300))))))))))))) by
  dsimp only [OM,JB,hs,uX] at hA;have:=Qo;have m1:1<=z.i 6->z.i 6<=1000000->z.i 6%18446744073709551616=z.i 6:=λa b=>by omega
  have b2:∀v:Int,0<=v->v<=40->min v.toNat (aZ .i64)=v.toNat:=λv h0 h=>by show min v.toNat 64=_;omega
  have:=@Qq (z.i 6) (z.i 6-1) rfl;have:=λlv h0 hlv hn hb ha=>@MO (z.i 1) (z.i 5) (z.i 6) lv (z.g 2) h0 hlv hn hb ha;have:=λk a b h0 hn hb hk h1 h2=>@MP (z.i 1) (z.i 5) (z.i 6) k (z.g 2) a b h0 hn hb hk h1 h2;have:=@Tj (z.i 5) (z.i 6);have:=@Tl (z.i 5) (z.i 6);have:=@AS (z.i 6);have:=λfr n h he ht=>@Qt (z.i 1) fr n (z.g 2) h he ht;have:=λh:uW (z.i 6)=>@Qp (z.i 6) h;conv=>zeta
  repeat' with_reducible first|intro _|apply d_|apply ed|apply ef|apply eu|apply ew
  all_goals first|omega|grind [aA,aq,ao,jl]
def Qx:bI 125 ON:=cC 7 273 (ar xN (ar (C5 1000001) eN)) lN λz hA=>show Fm.den (let v0:Fm:=(.ax (z.i 1=z.i 1/\z.g 2=z.g 2/\(z.i 6<0∨z.i 1<z.i 6->(1:Int)=1/\hZ=hZ)/\(0<=z.i 6/\z.i 6<=z.i 1->(1:Int)=0/\gg (z.i 1) (z.g 2) 0 (z.i 6) hZ)));(.two (z.i 6<0) v0 (.two (z.i 1<z.i 6) v0 (.two (z.i 6=0) (.ct (0<=1000000000) (λy0=>True) λy0=>(.ax (z.i 1=z.i 1/\z.g 2=z.g 2/\(z.i 6<0∨z.i 1<z.i 6->(0:Int)=1/\hG (fx [])=hZ)/\(0<=z.i 6/\z.i 6<=z.i 1->(0:Int)=0/\gg (z.i 1) (z.g 2) 0 (z.i 6) (hG (fx [])))))) (.ct ((1<=z.i 6/\z.i 6<1000001)/\(0:Int)<=0/\0+z.i 6<=z.i 1/\z.i 1<=1000000/\F2 0 (z.i 6)/\eE (z.i 1) (z.g 2)) (λy0=>y0.i 1=z.i 1/\y0.g 2=z.g 2/\gg (z.i 1) (z.g 2) 0 (z.i 6) (hT y0 300)) λy0=>(.ax (y0.i 1=z.i 1/\y0.g 2=z.g 2/\(z.i 6<0∨z.i 1<z.i 6->(0:Int)=1/\hT y0 300=hZ)/\(0<=z.i 6/\z.i 6<=z.i 1->(0:Int)=0/\gg (z.i 1) (z.g 2) 0 (z.i 6) (hT y0 300))))))))) by dsimp only [ON,JB,hs,uX] at hA;have:=Wg (z.i 6);have:=@MQ (z.i 1) (z.g 2) (z.i 6);have:=Mj [];exact nN
noncomputable section
def JF{l:List G}:List.take (l.length:Int).toNat l=l:=by rw[aaA,abw]
def cut_len{l:List G}{k:Int}(h0:0<=k)(hk:k<=l.length):((List.drop (0:Int).toNat (List.take k.toNat l)).length:Int)=k/\((List.drop k.toNat (List.take (l.length:Int).toNat l)).length:Int)=l.length-k:=by rw[JF,drop_zero,aar,aat];omega
end
noncomputable section
def Qy{es:List G}{i:Nat}(hi:i<es.length):(CZ es 0)[i]? =some (.node [dV (K2 (aL es i))]):=by unfold CZ aL VV;show((es.drop 0).map _)[i]? =_;rw[aaT,aaE,aai,aah hi];rfl
def AT(es:List G):RowsOk (CZ es 0):=λr hr=>by unfold CZ at hr;obtain⟨e, -,rfl⟩:=List.mem_map.1 hr;show cD (hX (dV _));rw[lY (lZ _)];exact lZ _
def y_(es:List G)(i:Int)(rows:List G):Prop:=iD i rows ((CZ es 0).take i.toNat)
def C6(es:List G):y_ es 0 []:=by unfold y_;rw[show(0:Int).toNat=0 by rfl,List.take_zero];exact Qm
def JG{es:List G}{i n':Int}{rows j9:List G}{h:G}(h0:0<=i)(hi:i<es.length)(hl:y_ es i rows)(hh:h=dV (K2 (aL es i.toNat)))(hn:n'=i+1)(ht:yy i rows h n' j9):y_ es n' j9:=by
 subst hn;have e:(CZ es 0).take (i+1).toNat=(CZ es 0).take i.toNat++ [.node [h]]:=by rw[show(i+1).toNat=i.toNat+1 by omega,List.take_add_one,Qy (by omega),hh];rfl
 unfold y_;rw[e];exact C4 ht _ hl
def AU{es:List G}{i:Int}{rows:List G}(hl:y_ es i rows):eE i rows:=JD hl ((AT es).take _)
def JH{es:List G}{n:Int}{rows:List G}{h:G}(hl:y_ es n rows)(hn:n=es.length)(ht:gg n rows 0 n h):h=bR (CZ es 0):=by have e:=Qv ht _ hl;subst hn;rw[e];congr 1;have a:=C0 es;show List.take (es.length:Int).toNat (List.drop 0 _)=_;rw[aaT,aaA, ←a,abw,abw]
def JI(es:List G):(((CZ es 0).length:Nat):Int)=es.length:=by rw[C0]
def C7(ix tm tn:Int)(pv:G)(es:List G):G:=dl (qm (yq ix tm tn pv)) (fu (bR (CZ es 0)) (aG es.length))
def JJ(ix tm tn:Int)(pv:G)(es:List G):cD (C7 ix tm tn pv es):=jl _ _
def Qz(ix tm tn:Int)(pv:G)(es:List G):C7 ix tm tn pv es=dl (qm (yq ix tm tn pv)) (fu (bR (CZ es 0)) (aG es.length)):=rfl
def Tt:FSpec:=⟨[],[],λ_=>True,λ_=>.one (.c (.p 0)),λ_=>JB,λz y=>y.i 1=0/\y.g 2= [],[]⟩
def qL:FSpec:=⟨[.ag (hs 100),.c (.i .i64 1)],[],λz=>cD (hT z 100)/\0<=z.i 1/\z.i 1<=1000000,λ_=>.one (.ag (hs 300)),λ_=>[],λz y=>hT y 300=fu (hT z 100) (aG (z.i 1).toNat),[]⟩
abbrev OP:=AA
def Vl(p:Sy):List BSh:=[.cells 47 (OF p),.cells 160 [.i .i64 1,.m 2],.sm 0 2,.cells 44 (hs 300)]
def yA(p:Sy):LSpec:=⟨[(1,.c (.p 0)),(2,.c (.p 3)),(5,.c (.p 1)),(20,.c (.pv 7 (p.g 24))),(21,.c (.pi .i64 (p.g 24).length)),(22,.c (.i .i64 9))],Vl p,λz=>vH (p.g 24)/\(0<=z.i 9/\z.i 9<=(p.g 24).length)/\z.i 1=z.i 9/\y_ (p.g 24) (z.i 1) (z.g 2),λz=>((p.g 24).length-z.i 9).toNat,[⟨.exit 0,[(1,.c (.p 0)),(2,.c (.p 3)),(5,.c (.p 1))],Vl p⟩],λz y=>y.i 1=(p.g 24).length/\y_ (p.g 24) (y.i 1) (y.g 2),[],[]⟩
def JK:FSpec:=⟨[.ag bk],[],OK,λ_=>.tu [.ag (hs 300),.c (.i .i64 50)],λ_=>[],λz y=>y.i 50=yZ z/\(yZ z=0->hT y 300=C7 (z.i 21) (z.i 22) (z.i 23) (hT z 200) (z.g 24))/\(¬yZ z=0->hT y 300=hZ),uX⟩
attribute [irreducible] y_ C7
end
def OQ:bI 38 Tt:=cC 1 0 eN lN λz hA=>show Fm.den ((.ax ((0:Int)=0/\Vh))) by dsimp only [Tt,JB] at hA;exact nN
abbrev QA(a:G)(b:Prop)(c:Int)(d:List G):=Fm.ct (cD a/\b/\eE c d) (λy=>y.i 1=c+1/\yy c d a (y.i 1) (y.g 2))
def Fl:cH 67 0 yA:=cG 4 9 (ar yu (ar OO eN)) lN λp z hA=>show Fm.den (let v0:=(bx (p.g 24) (z.i 9));let v1:=(↑(p.g 24).length:Int);let v2:=(hX (ah v0 11));let v3:=(gI (ah v0 13));let v4:=(gI (ah v0 14));let v5:=(gS (ah v0 1));let v6:=(gI (ah v0 2));let v7:=(gI (ah v0 3));let v8:=(gI (ah v0 4));let v9:=(gL (ah v0 10));let v10:=(gI (ah v0 6));let v11:=(gS (ah v0 8));let j8:=(gL (ah v0 9));let l9:=(gI (ah v0 0));(.two (z.i 9 < ↑(p.g 24).length) (.an (gf (z.i 9) (p.g 24)) (.ct (FY v5 v6 v7 v8 v10 v11 j8 v9 v2 v3 v4) (λy0=>y0.i 50=mf l9 v5 v6 v7 v8 (gI (ah v0 5)) v10 (gI (ah v0 7)) v11 j8 v9 v2 (gI (ah v0 12)=1) v3 v4/\(mf l9 v5 v6 v7 v8 (gI (ah v0 5)) v10 (gI (ah v0 7)) v11 j8 v9 v2 (gI (ah v0 12)=(1:Int)) v3 v4=0->hT y0 300=dV (AL l9 v5 v6 v7 v8 v2 v3 v4))/\(¬mf l9 v5 v6 v7 v8 (gI (ah v0 5)) v10 (gI (ah v0 7)) v11 j8 v9 v2 (gI (ah v0 12)=(1:Int)) v3 v4=0->hT y0 300=hZ)) λy0=>(QA (hT y0 300) (0<=z.i 1/\z.i 1<1000000) (z.i 1) (z.g 2) λy1=>(.an ((-9223372036854775808)<=z.i 9+1/\z.i 9+1<=9223372036854775807) (.an (Ff (p.g 24) (FV p 200) (Fe (p.i 23) (p.i 22) (p.i 21) v1 (p.g 24))) (.at (((F1 (p.g 24))/\(jV (z.i 9) (p.g 24))/\y1.i 1=z.i 9+1/\y_ (p.g 24) (y1.i 1) (y1.g 2))/\(v1-(z.i 9+1)).toNat<(v1-z.i 9).toNat/\∀(y:Sy),y.i 1= ↑(p.g 24).length/\y_ (p.g 24) (y.i 1) (y.g 2)->y.i 1= ↑(p.g 24).length/\y_ (p.g 24) (y.i 1) (y.g 2)))))))) (.an (Ff (p.g 24) (FV p 200) (MF (p.i 23) (p.i 22) (p.i 21))) (.at (z.i 1= ↑(p.g 24).length/\y_ (p.g 24) (z.i 1) (z.g 2)))))) by
 dsimp only [yA,Vl,OF,F0,hs,vH] at hA;have a6:=@qD (p.g 24) (z.i 9);have a7:=@jK (p.g 24) (z.i 9);dsimp only [Jk,uT] at a6 a7;have v1:=λn r h a b c d e f=>@JG (p.g 24) (z.i 9) n (z.g 2) r h a b c d e f;have:=@AU (p.g 24) (z.i 1) (z.g 2);dsimp only [K2] at v1;conv=>zeta
 repeat' with_reducible first|intro _|apply d_|apply ed|apply ef|apply eu|apply ew
 all_goals first|omega|grind [aA,aq,ao,cd,ce,cf,cg,ci,cj,ck,cm,co,aY,lZ]
def yB:bI 128 qL:=cC 1 0 (ar jE (ar IG eN)) lN λz hA=>show Fm.den ((Td (z.i 1) (Max.max 0 (z.i 1)%18446744073709551616) λy0=>(.ct (cD (hT z 100)/\(y0.s 10).length<=900000) (λy1=>hT y1 300=fu (hT z 100) (y0.s 10)) λy1=>(.ax (hT y1 300=fu (hT z 100) (aG (z.i 1).toNat)))))) by
 dsimp only [qL,hs] at hA;have m1:0<=z.i 1->z.i 1<=1000000->(max 0 (z.i 1)%18446744073709551616).toNat=(z.i 1).toNat:=λa b=>by omega
 have:=@dW (max 0 (z.i 1)%18446744073709551616) (by omega);exact nN
def QB:bI 126 OP:=cC 1 0 (ar uI eN) lN λz hA=>show Fm.den ((JE (hT z 100) (hT z 200) λy0=>(.ax (hT y0 300=dl (hT z 100) (hT z 200))))) by dsimp only [OP,AA,hs] at hA;exact nN
abbrev Tu:=Fm.ct (True) (λy=>y.i 1=0/\y.g 2= [])
def MU:bI 67 JK:=cC 3 1 (ar qI (ar OQ (ar Qx (ar MG (ar yB (ar QB eN)))))) (aX (ptm:=[(0,.ag bk)]) Fl lN) λz hA=>show Fm.den (let v0:=(↑(z.g 24).length:Int);let v1:=(hT z 200);(Qh (z.g 24) v1 (z.i 21) (z.i 22) (z.i 23) λy0=>(.two (y0.i 50≠0) (.ax (y0.i 50=dt (z.i 21) (z.i 22) (z.i 23) v1 (z.g 24)/\(dt (z.i 21) (z.i 22) (z.i 23) v1 (z.g 24)=(0:Int)->hZ=C7 (z.i 21) (z.i 22) (z.i 23) v1 (z.g 24))/\(¬dt (z.i 21) (z.i 22) (z.i 23) v1 (z.g 24)=(0:Int)->hZ=hZ))) (Tu λy1=>(.cl ((Ff (z.g 24) (FV z 200) (Fe (z.i 23) (z.i 22) (z.i 21) v0 (z.g 24)))) ((F1 (z.g 24))/\(rz v0)/\y1.i 1=0/\y_ (z.g 24) (y1.i 1) (y1.g 2)) (λy2=>y2.i 1= ↑(z.g 24).length/\y_ (z.g 24) (y2.i 1) (y2.g 2)) λy2=>(.ct ((0<=y2.i 1/\y2.i 1<=1000000)/\eE (y2.i 1) (y2.g 2)) (λy3=>y3.i 1=y2.i 1/\y3.g 2=y2.g 2/\(v0<0∨y2.i 1 < ↑(z.g 24).length->y3.i 50=1/\hT y3 300=hZ)/\(0<=v0/\v0<=y2.i 1->y3.i 50=0/\gg (y2.i 1) (y2.g 2) 0 v0 (hT y3 300))) λy3=>(.ct (cD v1/\z.i 21<9223372036854775808/\z.i 22<9223372036854775808/\z.i 23<9223372036854775808) (λy4=>hT y4 300=qm (yq (z.i 21) (z.i 22) (z.i 23) v1)) λy4=>(.ct (cD (hT y3 300)/\0<=v0/\v0<=1000000) (λy5=>hT y5 300=fu (hT y3 300) (aG v0.toNat)) λy5=>(JE (hT y4 300) (hT y5 300) λy6=>(.ax ((0:Int)=dt (z.i 21) (z.i 22) (z.i 23) v1 (z.g 24)/\(dt (z.i 21) (z.i 22) (z.i 23) v1 (z.g 24)=(0:Int)->hT y6 300=C7 (z.i 21) (z.i 22) (z.i 23) v1 (z.g 24))/\(¬dt (z.i 21) (z.i 22) (z.i 23) v1 (z.g 24)=(0:Int)->hT y6 300=hZ)))))))))))) by
 dsimp only [JK,bk,hs,OK,yZ,uX] at hA;have:=@oB (z.i 21) (z.i 22) (z.i 23) (hT z 200) (z.g 24);have:=@oC (z.i 21) (z.i 22) (z.i 23) (hT z 200) (z.g 24);have:=@mg (z.i 21) (z.i 22) (z.i 23) (hT z 200) (z.g 24);have:=@AM (z.i 21) (z.i 22) (z.i 23) (hT z 200) (z.g 24);have:=@oD (z.i 21) (z.i 22) (z.i 23) (hT z 200) (z.g 24);have:=C6 (z.g 24);have:=@AU (z.g 24);have:=@JH (z.g 24);have:=Qz (z.i 21) (z.i 22) (z.i 23) (hT z 200) (z.g 24);have:=mj _ (AT (z.g 24));have:=ql;have:=AT (z.g 24);have:=JI (z.g 24);conv=>zeta
 repeat' with_reducible first|intro _|apply d_|apply ed|apply ef|apply eu|apply ew
 all_goals first|omega|grind [aA,aq,ao,cd,ce,cf,cg,ci,cj,ck,cm,co,aY,Cq,E2,FZ]
noncomputable section
def fN(c:Nat):Nat:=if c%2=1 then(c/2) ^^^ 3988292384 else c/2
def fI:Nat->Nat->Nat
 |0,c=>c
 |n+1,c=>fI n (fN c)
def CG:List G:=[.node [.int 0],.node [.int 498536548],.node [.int 997073096],.node [.int 651767980],.node [.int 1994146192],.node [.int 1802195444],.node [.int 1303535960],.node [.int 1342533948],.node [.int 3988292384],.node [.int 4027552580],.node [.int 3604390888],.node [.int 3412177804],.node [.int 2607071920],.node [.int 2262029012],.node [.int 2685067896],.node [.int 3183342108]]
def QC:CG.length=16:=rfl
def Tw(c:Int):Int:=dk (c/16) (uE CG (lT c 15))
def Vm(c b:Int):Int:=Tw (Tw (dk c (b%4294967296)))
def Vn(c:Int):List Nat->Int
 | []=>c
 |b::s=>Vn (Vm c b) s
def OS(n:Nat)(h:n<4294967296):aD H_ (n:Int)=n:=by show((n:Int)%(4294967296:Nat)).toNat=n;omega
def QD(n:Nat)(h:n<4294967296):IntKind.u32.wrap (.ofNat n)=(n:Int):=by show((n:Nat):Int)%4294967296=_;omega
def JL(a:Nat)(k:Nat)(ha:a<4294967296)(hk:k<=32):lT a ((2 ^ k-1:Nat):Int)=((a%2 ^ k:Nat):Int):=by unfold lT;have hp:2 ^ k<=2 ^ 32:=abK (by decide) hk;have h0:=aaO k;rw[OS a ha,OS _ (by omega)];show IntKind.u32.wrap (.ofNat (a &&& (2 ^ k-1)))=_;rw[abR];exact QD _ (Nat.lt_of_le_of_lt (Nat.mod_le _ _) ha)
def JM(a b:Int):∃n:Nat,dk a b=n/\n<4294967296:=by
 have h:0<=dk a b/\dk a b<4294967296:=by unfold dk;generalize Nat.xor _ _=n;show 0<=((n:Nat):Int)%4294967296/\((n:Nat):Int)%4294967296<4294967296;omega
 exact⟨(dk a b).toNat,by omega,by omega⟩
def yC(a:Int)(h0:0<=a)(h:a<4294967296):0<=lT a 15/\lT a 15<16:=by
 obtain⟨n,rfl⟩:∃n:Nat,a=n:=⟨a.toNat,by omega⟩
 have:=JL n 4 (by omega) (by decide);rw[show((2 ^ 4-1:Nat):Int)=15 by rfl] at this;omega
def C8(a b:Int):0<=dk a b/\dk a b<4294967296:=by obtain⟨n,e,h⟩:=JM a b;omega
def Vo:¬IntKind.u32.signed=true:=λh=>by cases h
def Fo(s:List Nat)(i c:Int):Int:=Vn c (s.drop i.toNat)
def JN(s:List Nat)(i c:Int)(h0:0<=i)(h:i<s.length):Fo s i c=Fo s (i+1) (Tw (Tw (dk c (jT s i%4294967296)))):=by
 unfold Fo;have hi:i.toNat<s.length:=by omega
 rw[aba hi,show(i+1).toNat=i.toNat+1 by omega];show Vn (Vm c _) _=_;unfold Vm jT;rw[aai,aah hi];rfl
def MV(s:List Nat)(i c:Int)(h:(s.length:Int)<=i):Fo s i c=c:=by unfold Fo;rw[Zw (by omega)];rfl
def AW(s:List Nat):Int:=Aw (Fo s 0 4294967295)
def QE(s:List Nat):AW s=Aw (Fo s 0 4294967295):=rfl
def QF:List BSh:=[.arr 9 276 2]
def UJ:List BSh:=[.growb 5 20]
def C9(p:Sy):LSpec:=⟨[(3,.c (.p 0)),(4,.c (.i .u32 5)),(8,.c (.vb 20)),(9,.c (.i .i64 7)),(10,.c (.i .i64 6))],QF,λz=>z.g 2=CG/\z.i 7=(z.s 20).length/\0<=z.i 6/\(z.s 20).length<=1000000000,λz=>(z.i 7-z.i 6).toNat,[⟨.exit 0,[(3,.c (.p 0)),(4,.c (.i .u32 5))],QF⟩],λz y=>y.i 5=Fo (z.s 20) (z.i 6) (z.i 5),[],[]⟩
def OT:FSpec:=⟨[.c (.vb 20)],[],λz=>(z.s 20).length<=1000000000,λ_=>.one (.c (.i .u32 10)),λ_=>[],λz y=>y.i 10=AW (z.s 20)/\0<=y.i 10/\y.i 10<4294967296,[]⟩
def b4(c:Int):List Nat:=[(c/16777216%256).toNat,(c/65536%256).toNat,(c/256%256).toNat,(c%256).toNat]
def C_:FSpec:=⟨[.c (.i .u32 1)],[],λz=>0<=z.i 1,λ_=>.one (.c (.gb 0 20)),λ_=>UJ,λz y=>y.s 20=b4 (z.i 1),[]⟩
def UK(n:Int):List Nat:=b4 n++b4 (AW (b4 n))
def MW(s:List Nat):List Nat:=UK s.length++(s++b4 (AW (UK s.length++s)))
def Da(s:List Nat):0<=AW s/\AW s<4294967296:=by unfold AW Aw;generalize Nat.xor _ _=n;show 0<=((n:Nat):Int)%4294967296/\((n:Nat):Int)%4294967296<4294967296;omega
def AX(n:Nat)(h:n<18446744073709551616):aD (ai .u64) (n:Int)=n:=by have e:aD (ai .u64) (n:Int)=((n:Int)%((18446744073709551616:Nat):Int)).toNat:=rfl;rw[e];omega
def Db(n:Nat)(h:n<18446744073709551616):IntKind.u64.wrap (.ofNat n)=(n:Int):=by have e:IntKind.u64.wrap (.ofNat n)=((n:Nat):Int)%18446744073709551616:=rfl;rw[e];omega
def MX(a b:Nat)(h:b<4294967296):Nat.lor (4294967296 * a) b=4294967296 * a+b:=by have:=Nat.two_pow_add_eq_or_of_lt (i:=32) (b:=b) h a;rw[show(2:Nat) ^ 32=4294967296 by decide] at this;exact this.symm
def Vp{x c:Int}(h0:0<=x)(h:x<4294967296)(c0:0<=c)(hc:c<4294967296):IntKind.u64.wrap (.ofNat (Nat.lor (aD (ai .u64) (x%18446744073709551616 * 4294967296%18446744073709551616)) (aD (ai .u64) (c%18446744073709551616))))=x * 4294967296+c:=by
 obtain⟨a,rfl⟩:∃n:Nat,x=n:=⟨x.toNat,by omega⟩
 obtain⟨b,rfl⟩:∃n:Nat,c=n:=⟨c.toNat,by omega⟩
 have e1:(a:Int)%18446744073709551616 * 4294967296%18446744073709551616=((4294967296 * a:Nat):Int):=by omega
 have e2:(b:Int)%18446744073709551616=((b:Nat):Int):=by omega
 rw[e1,e2,AX _ (by omega),AX _ (by omega),MX _ _ (by omega),Db _ (by omega)];omega
def QG{n c:Int}(a:0<=n)(b:n<4294967296)(h0:0<=c)(h1:c<4294967296):(n * 4294967296+c)/4294967296%4294967296=n/\(n * 4294967296+c)%4294967296=c/\0<=n * 4294967296+c/\n * 4294967296+c<18446744073709551616:=by omega
theorem uY(c:Int):(b4 c).length=4:=rfl
def MY(n:Int):(UK n).length=8:=rfl
theorem ip(s:List Nat):(MW s).length=s.length+12:=by unfold MW;rw[aal,aal,MY,uY];omega
def Dc:FSpec:=⟨[.c (.i .u32 1)],[],λz=>0<=z.i 1/\z.i 1<4294967296,λ_=>.one (.c (.i .u64 10)),λ_=>[],λz y=>y.i 10/4294967296%4294967296=z.i 1/\y.i 10%4294967296=AW (b4 (z.i 1))/\0<=y.i 10/\y.i 10<18446744073709551616,[]⟩
def Tx:FSpec:=⟨[.c (.i .u64 1)],[],λz=>0<=z.i 1/\z.i 1<18446744073709551616,λ_=>.one (.c (.gb 0 20)),λ_=>UJ,λz y=>y.s 20=b4 (z.i 1/4294967296%4294967296)++b4 (z.i 1%4294967296),[]⟩
def mm:FSpec:=⟨[.c (.vb 1)],[],λz=>(z.s 1).length<=100000000,λ_=>.tu [.c (.vb 10),.c (.i .i64 50)],λ_=>[],λz y=>((z.s 1).length<=524288->y.i 50=0/\y.s 10=MW (z.s 1))/\(524288<(z.s 1).length->y.i 50=5/\y.s 10= [])/\(y.s 10).length<=524300,[]⟩
attribute [irreducible] Fo AW
end
def qM:bI 120 C_:=cC 1 0 eN lN λz hA=>show Fm.den ((.an (0<=z.i 1/16777216%256/\0<=z.i 1/65536%256/\0<=z.i 1/256%256/\0<=z.i 1%256/\True) (.an (4=4) (.an (4=4/\True) (.at ([(z.i 1/16777216%256).toNat,(z.i 1/65536%256).toNat,(z.i 1/256%256).toNat,(z.i 1%256).toNat]=b4 (z.i 1))))))) by
 dsimp only [C_,UJ] at hA;repeat' with_reducible first|intro _|apply d_|apply ed|apply ef|apply eu|apply ew
 all_goals first|omega|grind [aA,aq,ao,b4]
def JO:cH 121 0 C9:=cG 4 9 eN lN λp z hA=>show Fm.den (let v1:=(Int.ofNat ((aD (bM) (dU (Int.ofNat ((aD (bM) (z.i 5)).xor (aD (bM) ((↑((z.s 20).getD (z.i 6).toNat 0):Int)%4294967296)))))).land (aD (bM) 15)));let v0:=(Int.ofNat ((aD (bM) (IntKind.u32.wrap (Int.ofNat ((aD (bM) (z.i 5)).xor (aD (bM) ((↑((z.s 20).getD (z.i 6).toNat 0):Int)%4294967296))))/16)).xor (aD (bM) (gI (cw (bx (z.g 2) (dU v1)))))));let v2:=(Int.ofNat ((aD (bM) (dU v0)).land (aD (bM) 15)));let v3:=(Az (z.g 2));(.two (z.i 6<z.i 7) (.an (0<=z.i 6/\z.i 6 < ↑(z.s 20).length) (.an (0<=IntKind.u32.wrap v1/\IntKind.u32.wrap v1<16) (.an (ry (z.g 2)) (.an (gK (dU v1) (z.g 2)) (.an (0<=IntKind.u32.wrap v2/\IntKind.u32.wrap v2<16) (.an (ry (z.g 2)) (.an (gK (dU v2) (z.g 2)) (.an ((-9223372036854775808)<=z.i 6+1/\z.i 6+1<=9223372036854775807) (.an v3 (.at ((z.g 2=CG/\z.i 7= ↑(z.s 20).length/\0<=z.i 6+1/\(z.s 20).length<=1000000000)/\(z.i 7-(z.i 6+1)).toNat<(z.i 7-z.i 6).toNat/\∀(y:Sy),y.i 5=Fo (z.s 20) (z.i 6+1) (Ay (Int.ofNat ((aD (bM) (IntKind.u32.wrap v0/16)).xor (aD (bM) (gI (cw (bx (z.g 2) (dU v2))))))))->y.i 5=Fo (z.s 20) (z.i 6) (z.i 5)))))))))))) (.an v3 (.at (z.i 5=Fo (z.s 20) (z.i 6) (z.i 5)))))) by
 dsimp only [C9,QF] at hA;have e1:=@JN (z.s 20) (z.i 6) (z.i 5);have:=@MV (z.s 20) (z.i 6) (z.i 5);have:=QC;have e4:=C8 (z.i 5) (jT (z.s 20) (z.i 6)%4294967296);have e5:=@yC (dk (z.i 5) (jT (z.s 20) (z.i 6)%4294967296)) e4.1 e4.2;have e6:=(λe=>C8 (dk (z.i 5) e/16) (uE CG (lT (dk (z.i 5) e) 15))) (jT (z.s 20) (z.i 6)%4294967296)
 have e7:=@yC _ e6.1 e6.2;dsimp only [Tw,dk,lT,jT,uE,H_] at e1 e4 e5 e6 e7;exact jR
def JP:bI 121 OT:=cC 1 0 eN (aX (ptm:=[]) JO lN) λz hA=>show Fm.den (let v1:=(bM);let v0:=(aD v1 (PX (-1)));let v2:=(↑(z.s 20).length:Int);(.an (16=16/aS (bO 9)) (.cl ((0<16/\True)) ([G.node [G.int 0],G.node [G.int 498536548],G.node [G.int 997073096],G.node [G.int 651767980],G.node [G.int 1994146192],G.node [G.int 1802195444],G.node [G.int 1303535960],G.node [G.int 1342533948],G.node [G.int 3988292384],G.node [G.int 4027552580],G.node [G.int 3604390888],G.node [G.int 3412177804],G.node [G.int 2607071920],G.node [G.int 2262029012],G.node [G.int 2685067896],G.node [G.int 3183342108]]=CG/\v2=v2/\(0:Int)<=0/\(z.s 20).length<=1000000000) (λy0=>y0.i 5=Fo (z.s 20) 0 4294967295) λy0=>(let v3:=(Int.ofNat (v0.xor (aD v1 (y0.i 5))));(.ax (IntKind.u32.wrap v3=AW (z.s 20)/\(0:Int)<=IntKind.u32.wrap v3/\IntKind.u32.wrap v3<4294967296)))))) by dsimp only [OT] at hA;have e2: [G.node [G.int 0],G.node [G.int 498536548],G.node [G.int 997073096],G.node [G.int 651767980],G.node [G.int 1994146192],G.node [G.int 1802195444],G.node [G.int 1303535960],G.node [G.int 1342533948],G.node [G.int 3988292384],G.node [G.int 4027552580],G.node [G.int 3604390888],G.node [G.int 3412177804],G.node [G.int 2607071920],G.node [G.int 2262029012],G.node [G.int 2685067896],G.node [G.int 3183342108]]=CG:=rfl;have:=Vo;have e4:aS (bO 9)=1:=rfl;have e1:=QE (z.s 20);dsimp only [Aw,H_] at e1;have:=Da (z.s 20);exact jR
abbrev Ty(a:List Nat):=Fm.ct (a.length<=1000000000) (λy=>y.i 10=AW a/\0<=y.i 10/\y.i 10<4294967296)
def JQ:bI 119 Dc:=cC 1 0 (ar qM (Ol JP eN)) lN λz hA=>show Fm.den (let v1:=(lS);let v0:=(aD v1 (z.i 1%18446744073709551616 * 4294967296%18446744073709551616));(.ct (0<=z.i 1) (λy0=>y0.s 20=b4 (z.i 1)) λy0=>(.an (E0 (y0.s 20)) (Ty (y0.s 20) λy1=>(let v2:=(Int.ofNat (v0.lor (aD v1 (y1.i 10%18446744073709551616))));(.ax (IntKind.u64.wrap v2/4294967296%4294967296=z.i 1/\IntKind.u64.wrap v2%4294967296=AW (b4 (z.i 1))/\(0:Int)<=IntKind.u64.wrap v2/\IntKind.u64.wrap v2<18446744073709551616))))))) by
 dsimp only [Dc] at hA;have:=Da (b4 (z.i 1));have:=@Vp (z.i 1) (AW (b4 (z.i 1)));have:=@QG (z.i 1) (AW (b4 (z.i 1)));conv=>zeta
 repeat' with_reducible first|intro _|apply d_|apply ed|apply ef|apply eu|apply ew
 all_goals first|omega|grind [aA,aq,ao,uY]
def Tz:bI 118 Tx:=cC 1 0 (ar qM eN) lN λz hA=>show Fm.den (let v0:=(z.i 1/4294967296%4294967296);(.ct (0<=z.i 1/4294967296%4294967296) (λy0=>y0.s 20=b4 v0) λy0=>(.ct (0<=z.i 1%4294967296) (λy1=>y1.s 20=b4 (z.i 1%4294967296)) λy1=>(.an (E0 (y1.s 20)) (.an (K1 (y0.s 20) (y1.s 20)) (.an (E8 (y0.s 20++y1.s 20) (y0.s 20) (y1.s 20)) (.at (y0.s 20++y1.s 20=b4 v0++b4 (z.i 1%4294967296))))))))) by
 dsimp only [Tx,UJ] at hA;conv=>zeta
 repeat' with_reducible first|intro _|apply d_|apply ed|apply ef|apply eu|apply ew
 all_goals first|omega|grind [aA,aq,ao,uY]
noncomputable section
end
noncomputable section
end
noncomputable section
structure Bt where
 a:G
 b:G
 p:Prop
variable{m n k:Int}{c d:Prop}{p:List G}{o:G}
end
noncomputable section
structure Tk where
 a:G
 b:G
 r:List G
 ok:Prop
open Classical in
variable{m n k:Int}{c d ok:Prop}{r:List G}{o:G}
end
noncomputable section
open Classical in
def need(m n:Int)(c:Prop):Nat:=
 if m=n then(if c then 0 else 1)
 else if h:2<=n then
  if m<=(kq n.toNat:Nat) then need m (kq n.toNat:Nat) c+1 else need (m-(kq n.toNat:Nat)) (n-(kq n.toNat:Nat)) False+1
 else 0
termination_by n.toNat
decreasing_by all_goals (have:=AS h;omega)
end
noncomputable section
end
noncomputable section
def j2(s:Prop)(h x:G):G:=@ite _ s (Classical.propDecidable _) (dl x h) (dl h x)
end
noncomputable section
end
noncomputable section
end
noncomputable section
def jo(n:Nat):List Nat:=if n<10 then [48+n] else [48+n/10,48+n%10]
def MZ{n:Nat}(h:n<10):jo n= [48+n]:=if_pos h
def M0{n:Nat}(h:¬n<10):jo n= [48+n/10,48+n%10]:=if_neg h
def yD(n:Nat):1<=(jo n).length/\(jo n).length<=2:=by unfold jo;split <;> simp
def iC(i:Int):List Nat:=100::(List.replicate (8-(jo i.toNat).length) 48++jo i.toNat)
def uZ{i:Int}(h0:0<=i)(h:i<10):iC i= [100,48,48,48,48,48,48,48,48+i.toNat]:=by unfold iC;rw[MZ (by omega)];rfl
def u_{i:Int}(h0:¬i<10):iC i= [100,48,48,48,48,48,48,48+i.toNat/10,48+i.toNat%10]:=by unfold iC;rw[M0 (by omega)];rfl
def Dd(i:Int):(iC i).length=9:=by have:=yD i.toNat;unfold iC;rw[aaM,aal,List.length_replicate];omega
def M1{i k:Int}(hi:0<=i)(hk:0<=k)(al4:i<100)(al5:k<100)(h:iC i=iC k):i=k:=by
 by_cases a:i<10 <;> by_cases b:k<10
 ·rw[uZ hi a,uZ hk b] at h;simp at h;omega
 ·rw[uZ hi a,u_ b] at h;simp at h;omega
 ·rw[u_ a,uZ hk b] at h;simp at h;omega
 ·rw[u_ a,u_ b] at h;simp at h;omega
def rf:List Nat:=[106,111,117,114,110,97,108]
def QH(i:Int):iC i≠rf:=λh=>by have:=congrArg List.length h;rw[Dd] at this;cases this
def M2:List Nat:=[48,49,50,51,52,53,54,55,56,57,97,98,99,100,101,102,103,104,105,106,107,108,109,110,111,112,113,114,115,116,117,118,119,120,121,122]
def UL:List Nat:=(List.range 100).flatMap λi=>[48+i/10,48+i%10]
def QI{i:Int}(h0:0<=i)(h:i<10):(M2.take (i+1).toNat).drop i.toNat=jo i.toNat:=by
 have:∀k:Fin 10,(M2.take (k.1+1)).drop k.1=jo k.1:=by decide
 have:=this ⟨i.toNat,by omega⟩;rw[show(i+1).toNat=i.toNat+1 by omega];exact this
def TA{i:Int}(h0:10<=i)(h:i<100):(UL.take (i * 2+2).toNat).drop (i * 2).toNat=jo i.toNat:=by
 have:∀k:Fin 100,10<=k.1->(UL.take (k.1 * 2+2)).drop (k.1 * 2)=jo k.1:=by decide
 have:=this ⟨i.toNat,by omega⟩ (by show 10<=i.toNat;omega);rw[show(i * 2+2).toNat=i.toNat * 2+2 by omega,show(i * 2).toNat=i.toNat * 2 by omega];exact this
def OU:FSpec:=⟨[.c (.i .i64 1)],[],λz=>0<=z.i 1/\z.i 1<100,λ_=>.one (.c (.s 10)),λ_=>[],λz y=>y.s 10=jo (z.i 1).toNat/\1<=(y.s 10).length/\(y.s 10).length<=2,[]⟩
def OV:FSpec:=⟨[.c (.i .i64 1)],[],λz=>0<=z.i 1/\z.i 1<100,λ_=>.one (.c (.s 10)),λ_=>[],λz y=>y.s 10=iC (z.i 1),[]⟩
abbrev tj:=OV
def UM(s:List Nat):List Nat:=List.replicate (8-s.length) 48++s
def QJ(i:Int):iC i= [100]++UM (jo i.toNat):=rfl
def JR{n:Int}(h0:0<=n)(h:n<4294967296):IntKind.u64.wrap (Int.ofNat ((aD (ai .u64) n).land (aD (ai .u64) 4294967295)))=n:=by
 obtain⟨a,rfl⟩:∃a:Nat,n=a:=⟨n.toNat,by omega⟩
 have e:aD (ai .u64) (4294967295:Int)=2 ^ 32-1:=by decide
 have e2:(a.land (2 ^ 32-1))=a:=by show a &&& (2 ^ 32-1)=a;rw[abR];omega
 rw[AX a (by omega),e,e2,Db a (by omega)]
def TB:FSpec:=⟨[.c (.pi .u64 1),.c (.i .u64 2)],[],λz=>0<=z.i 2/\z.i 2<=100,λ_=>.tu [.c (.i .u64 10),.c (.i .u64 11)],λ_=>[],λz y=>y.i 10=0/\y.i 11=z.i 2,[]⟩
def JS:List Nat:=[48,48,48,48,48,48,48,48,48,48,48,48,48,48,48,48,48,48,48,48,48,48,48,48,48,48,48,48,48,48,48,48,48,48,48,48,48,48,48,48,48,48,48,48,48,48,48,48,48,48,48,48,48,48,48,48,48,48,48,48,48,48,48,48]
def TC{n:Int}{s:List Nat}(hs:n=8-(s.length:Int))(h:s.length<=8):JS.take n.toNat++s=UM s:=by have e:JS=List.replicate 64 48:=rfl;rw[e,List.take_replicate];unfold UM;congr 2;omega
theorem QK(n:Int):(JS.take n.toNat).length<=64:=by rw[aar];exact Nat.min_le_right _ _
def TD:IntKind.u64.wrap 1=1:=rfl
attribute [irreducible] iC jo UM JS M2 UL
end
def QL:bI 116 OU:=cC 9 43162 eN lN λz hA=>show Fm.den (let v0:=((-9223372036854775808)<=z.i 1 * 2/\z.i 1 * 2<=9223372036854775807);let v1:=(List.take (z.i 1 * 2+2).toNat UL);let v2:=(List.take (z.i 1+1).toNat M2);let v3:=(List.drop (z.i 1 * 2).toNat v1);let v4:=(List.drop (z.i 1).toNat v2);(.an (0<=z.i 1) (.an (z.i 1<100) (.two (z.i 1<10) (.an ((-9223372036854775808)<=z.i 1+1/\z.i 1+1<=9223372036854775807) (.an (0<=z.i 1/\z.i 1<=z.i 1+1/\z.i 1+1<= ↑36) (.ax (List.drop (z.i 1).toNat v2=jo (z.i 1).toNat/\1<=v4.length/\v4.length<=2)))) (.an v0 (.an v0 (.an ((-9223372036854775808)<=z.i 1 * 2+2/\z.i 1 * 2+2<=9223372036854775807) (.an (0<=z.i 1 * 2/\z.i 1 * 2<=z.i 1 * 2+2/\z.i 1 * 2+2<= ↑200) (.ax (List.drop (z.i 1 * 2).toNat v1=jo (z.i 1).toNat/\1<=v3.length/\v3.length<=2)))))))))) by dsimp only [OU] at hA;have:=@QI (z.i 1);have:=@TA (z.i 1);have:=yD (z.i 1).toNat;exact pY
def TE:bI 198 TB:=cC 1 0 eN lN λz hA=>show Fm.den (let v0:=((1/4294967296:Int) * IntKind.u64.wrap (Int.ofNat ((aD (lS) (z.i 2)).land (aD (lS) 4294967295)))%18446744073709551616+IntKind.u64.wrap 1 * IntKind.u64.wrap (Int.ofNat ((aD (lS) (z.i 2)).land (aD (lS) 4294967295)))%18446744073709551616/4294967296);(.ax ((((1/4294967296:Int) * (z.i 2/4294967296)%18446744073709551616+v0%18446744073709551616/4294967296)%18446744073709551616+(IntKind.u64.wrap (Int.ofNat ((aD (lS) (v0%18446744073709551616)).land (aD (lS) 4294967295)))+IntKind.u64.wrap 1 * (z.i 2/4294967296)%18446744073709551616)%18446744073709551616/4294967296)%18446744073709551616=0/\1 * z.i 2%18446744073709551616=z.i 2))) by dsimp only [TB] at hA;have:=@JR (z.i 2);have:=@JR 0 (by omega) (by omega);have:=TD;exact pY
def AY:bI 60 tj:=cC 11 700414 (ar QL (ar TE eN)) lN λz hA=>show Fm.den ((.ct (0<=z.i 1/\z.i 1<100) (λy0=>y0.s 10=jo (z.i 1).toNat/\1<=(y0.s 10).length/\(y0.s 10).length<=2) λy0=>(let v0:=(↑(y0.s 10).length:Int);(.an ((-9223372036854775808)<=8-v0/\8-v0<=9223372036854775807) (.an (¬(Max.max 0 (8-v0)=0)) (.an (¬(Max.max 0 (8-v0)=1)) (.an (¬(Max.max 0 (8-v0)<0)) (.cl (((1:Int)=1/\True)) (0<=Max.max 0 (8-v0)%18446744073709551616/\Max.max 0 (8-v0)%18446744073709551616<=100) (λy1=>y1.i 10=0/\y1.i 11=Max.max 0 (8-v0)%18446744073709551616) λy1=>(let v1:=(List.take (y1.i 11).toNat JS);(.an (¬(0<y1.i 10)) (.an (¬(9223372036854775807<y1.i 11)) (.an ((-9223372036854775808)<=y1.i 11/\y1.i 11<=9223372036854775807) (.an (y1.i 11<=128) (.an (y1.i 11<=128) (.an (y1.i 11<=64) (.an ((0:Int)<=0/\0<=y1.i 11/\y1.i 11<= ↑64) (.an (([100]++List.drop (Int.toNat 0) v1).length<=1000000000) (.an (([100]++List.drop (Int.toNat 0) v1++y0.s 10).length<=1000000000) (.ax ([100]++List.drop (Int.toNat 0) v1++y0.s 10=iC (z.i 1))))))))))))))))))))) by
 dsimp only [tj,OV] at hA;have:=QJ (z.i 1);have:=@TC;conv=>zeta
 repeat' with_reducible first|intro _|apply d_|apply ed|apply ef|apply eu|apply ew
 all_goals first|omega|grind [aA,aq,ao,List.append_assoc,QK,Int.toNat_zero,List.length_append,List.length_cons,List.length_nil]
noncomputable section
def JT{l:List G}{i:Int}(h0:0<=i)(h:i<l.length):l.drop i.toNat=aL l i.toNat::l.drop (i+1).toNat:=by rw[aba (by omega),show(i+1).toNat=i.toNat+1 by omega];congr 1;unfold aL;rw[aai,aah (by omega)];rfl
end
noncomputable section
def QM(i:Nat)(e:G):List Nat:=@ite _ (gI (ah e 0)=2/\¬gI (ah e 12)=1) (Classical.propDecidable _) (aG i++(aG (nS e).length++nS e)) []
def qN{i:Nat}{e:G}(h:¬gI (ah e 0)=2∨gI (ah e 12)=1):QM i e= []:=if_neg λ⟨a,b⟩=>h.elim (λc=>c a) b
def yE{i:Nat}{e:G}(h:gI (ah e 0)=2)(h1:¬gI (ah e 12)=1):QM i e=aG i++(aG (nS e).length++nS e):=if_pos ⟨h,h1⟩
def TF:Nat->List G->List Nat
 |_,[]=>[]
 |i,e::es=>QM i e++TF (i+1) es
def kX(es:List G)(i:Int):List Nat:=TF i.toNat (es.drop i.toNat)
def yF{es:List G}{i:Int}(h0:0<=i)(h:i<es.length):kX es i=QM i.toNat (aL es i.toNat)++kX es (i+1):=by unfold kX;rw[JT h0 h,show(i+1).toNat=i.toNat+1 by omega];rfl
def De{es:List G}{i:Int}(h:(es.length:Int)<=i):kX es i= []:=by unfold kX;rw[Zw (by omega)];rfl
def JU{i:Nat}{e:G}(hi:i<200):(QM i e).length<=(CS True e).length+10:=by
 by_cases h:gI (ah e 0)=2
 ·by_cases h1:gI (ah e 12)=1
  ·rw[qN (.inr h1)];exact aan _
  ·rw[yE h h1,qE h (λq=>q.elim h1 (λq=>q trivial))];have:=jn (n:=i) (by omega);simp only [aal,aaM,abx];omega
 ·rw[qN (.inl h)];exact aan _
def M3{i:Nat}{e:G}(h:uT e=0)(hi:Jk e)(h2:i<200):(QM i e).length<=70010:=by have:=CU (d:=True) h hi;have:=@JU i e h2;omega
def Df:∀(es:List G) (i:Nat),(∀e∈es,uT e=0/\Jk e)->i+es.length<=200->(TF i es).length<=es.length * 70010
 | [],_,_,_=>aan _
 |e::es,i,h,hi=>by have h1:=h e aaj;have a:=M3 (i:=i) h1.1 h1.2 (by simp at hi;omega);have b:=Df es (i+1) (λx hx=>h x (aag _ hx)) (by simp at hi⊢;omega);rw[TF,aal,aaM];omega
def M4{es:List G}(h:vH es):(kX es 0).length<=14002000:=by
 obtain⟨h1,h2,h3⟩:=h;have hm:∀e∈es,uT e=0/\Jk e:=λe he=>by
  obtain⟨i,hi,e2⟩:=abM he;have:=jK (i:=(i:Int)) h1 (by omega) (by omega);have e3:aL es (i:Int).toNat=e:=by unfold aL;rw[aaA,aai,aah hi, ←e2];rfl
  rw[e3] at this;exact⟨this,by unfold re at h2;exact h2 e he⟩
 have:=Df es 0 hm (by omega);unfold kX;show(TF 0 (es.drop 0)).length<=_;rw[aaT];have:es.length * 70010<=200 * 70010:=aay _ h3;omega
theorem TG{n:Nat}(h:n<18446744073709551616):((n:Int)%18446744073709551616).toNat=n:=by omega
def QN(p:Sy):List BSh:=[.cells 47 (OF p),.growb 5 20]
def tl(p:Sy):LSpec:=⟨[(1,.c (.p 0)),(4,.c (.gb 1 20)),(10,.c (.pv 7 (p.g 24))),(11,.c (.pi .i64 (p.g 24).length)),(12,.c (.i .i64 9))],QN p,λz=>vH (p.g 24)/\(0<=z.i 9/\z.i 9<=(p.g 24).length)/\(z.s 20).length+(kX (p.g 24) (z.i 9)).length<=20000000,λz=>((p.g 24).length-z.i 9).toNat,[⟨.exit 0,[(1,.c (.p 0)),(4,.c (.gb 1 20))],QN p⟩],λz y=>y.s 20=z.s 20++kX (p.g 24) (z.i 9),[],[]⟩
def Dg:FSpec:=⟨[.ag bk],[],λz=>vH (z.g 24),λ_=>.tu [.c (.vb 30),.c (.b 40)],λ_=>[],λz y=>(y.p 40↔0<(kX (z.g 24) 0).length)/\y.s 30=kX (z.g 24) 0,[]⟩
attribute [irreducible] kX QM
end
def tp:bI 63 mm:=cC 3 1 (ar JQ (ar Tz (Ol JP (ar qM eN)))) lN λz hA=>show Fm.den (let v0:=(↑(z.s 1).length:Int);(.two (524288<v0) (.ax (((z.s 1).length<=524288->(5:Int)=0/\ []=MW (z.s 1))/\(524288<(z.s 1).length->(5:Int)=5/\E1)/\0<=524300)) (.ct (0<=v0%4294967296/\v0%4294967296<4294967296) (λy0=>y0.i 10/4294967296%4294967296= ↑(z.s 1).length%4294967296/\y0.i 10%4294967296=AW (b4 (v0%4294967296))/\0<=y0.i 10/\y0.i 10<18446744073709551616) λy0=>(.ct (LY (y0.i 10)) (λy1=>y1.s 20=b4 (y0.i 10/4294967296%4294967296)++b4 (y0.i 10%4294967296)) λy1=>(let v1:=(y1.s 20++z.s 1);(.an (K1 (y1.s 20) (z.s 1)) (.an (v1.length=(y1.s 20).length+(z.s 1).length) (Ty v1 λy2=>(.ct (0<=y2.i 10) (λy3=>y3.s 20=b4 (y2.i 10)) λy3=>(let v2:=(y1.s 20++z.s 1++y3.s 20);(.an (E0 (y3.s 20)) (.an (Qb v1 (y1.s 20) (z.s 1) (y3.s 20)) (.an (v2.length=(y1.s 20).length+(z.s 1).length+(y3.s 20).length/\True) (.at (((z.s 1).length<=524288->(0:Int)=0/\y1.s 20++z.s 1++y3.s 20=MW (z.s 1))/\(524288<(z.s 1).length->(0:Int)=5/\y1.s 20++z.s 1++y3.s 20= [])/\v2.length<=524300))))))))))))))) by
 dsimp only [mm] at hA;have m1:(z.s 1).length<=524288->((z.s 1).length:Int)%4294967296=(z.s 1).length:=λh=>by omega
 have:=ip (z.s 1);conv=>zeta
 repeat' with_reducible first|intro _|apply d_|apply ed|apply ef|apply eu|apply ew
 all_goals first|omega|grind [aA,aq,ao,List.append_assoc,MW,UK,uY]
def AZ:cH 58 0 tl:=cG 10 35109 (ar qy (ar jE eN)) lN λp z hA=>show Fm.den (let v1:=(bx (p.g 24) (z.i 9));let v2:=(↑(p.g 24).length:Int);let v3:=(Fe (p.i 23) (p.i 22) (p.i 21) v2 (p.g 24));let v4:=(gL (ah v1 10));let v5:=(gS (ah v1 8));let v6:=((-9223372036854775808)<=z.i 9+1/\z.i 9+1<=9223372036854775807);let v7:=(gI (ah v1 6));let v8:=(gL (ah v1 9));let v9:=(F1 (p.g 24));let v10:=(jV (z.i 9) (p.g 24));let v11:=(gI (ah v1 5));let j8:=(gI (ah v1 7));let l9:=(FV p 200);let p5:=(z.i 9+1);let v0:Fm:=(.an v6 (.an ((z.s 20).length=(z.s 20).length/\p.g 24=p.g 24/\qk l9 l9 v3) (.at ((Fd v9 v10 (z.s 20) (kX (p.g 24) p5))/\(v2-p5).toNat<(v2-z.i 9).toNat/\∀(y:Sy),y.s 20=z.s 20++kX (p.g 24) p5->y.s 20=z.s 20++kX (p.g 24) (z.i 9)))));(.two (z.i 9 < ↑(p.g 24).length) (.an (gf (z.i 9) (p.g 24)) (.two (gI (ah v1 0)≠2) v0 (.two (gI (ah v1 12)=1) v0 (UH v7 v5 v8 v4 v11 j8 (dw 16 v11 v7 j8 v5 v8 v4) λy0=>(let Wv:=(↑(y0.s 10).length:Int);(I4 (z.i 9) (z.i 9%18446744073709551616) λy1=>(.an (K1 (z.s 20) (y1.s 10)) (I4 Wv (Wv%18446744073709551616) λy2=>(let F':=(z.s 20++y1.s 10++y2.s 10++y0.s 10);(.an (Qb (z.s 20++y1.s 10) (z.s 20) (y1.s 10) (y2.s 10)) (.an ((z.s 20++y1.s 10++y2.s 10).length=(z.s 20).length+(y1.s 10).length+(y2.s 10).length/\(z.s 20).length+(y1.s 10).length+(y2.s 10).length<=1000000000/\(y0.s 10).length<=1000000) (.an v6 (.an (F'.length=(z.s 20).length+(y1.s 10).length+(y2.s 10).length+(y0.s 10).length/\p.g 24=p.g 24/\qk l9 l9 v3) (.at ((Fd v9 v10 F' (kX (p.g 24) p5))/\(v2-p5).toNat<(v2-z.i 9).toNat/\∀(y:Sy),y.s 20=z.s 20++y1.s 10++y2.s 10++y0.s 10++kX (p.g 24) p5->y.s 20=z.s 20++kX (p.g 24) (z.i 9)))))))))))))))) (.an ((z.s 20).length=(z.s 20).length/\p.g 24=p.g 24/\qk l9 l9 (MF (p.i 23) (p.i 22) (p.i 21))) (.at (z.s 20=z.s 20++kX (p.g 24) (z.i 9)))))) by
 dsimp only [tl,QN,OF,F0,vH] at hA;have:=@yF (p.g 24) (z.i 9);have:=@De (p.g 24) (z.i 9);have a3:=@qN (z.i 9).toNat (aL (p.g 24) (z.i 9).toNat);have a4:=@yE (z.i 9).toNat (aL (p.g 24) (z.i 9).toNat);have a6:=@qD (p.g 24) (z.i 9);have a7:=@jK (p.g 24) (z.i 9);dsimp only [nS,Jk,uT] at a3 a4 a6 a7;have m9:0<=z.i 9->z.i 9<=200->(z.i 9%18446744073709551616).toNat=(z.i 9).toNat:=λa b=>by omega
 have:=Tf p z;have:=Tg p z;have q1:=@Qi (aL (p.g 24) (z.i 9).toNat);dsimp only [uT] at q1;conv=>zeta
 repeat' with_reducible first|intro _|apply d_|apply ed|apply ef|apply eu|apply ew
 all_goals first|omega|grind [aA,aq,ao,cd,ce,cf,cg,ci,cj,ck,cm,co,aY,List.append_assoc,jn,dW,TG]
def JV:bI 58 Dg:=cC 1 0 eN (aX (ptm:=[(0,.ag bk)]) AZ lN) λz hA=>show Fm.den (let v0:=(↑(z.g 24).length:Int);(.cl ((0=0/\z.g 24=z.g 24/\qk (FV z 200) (FV z 200) (Fe (z.i 23) (z.i 22) (z.i 21) v0 (z.g 24)))) ((F1 (z.g 24))/\(rz v0)/\0+(kX (z.g 24) 0).length<=20000000) (λy0=>y0.s 20= []++kX (z.g 24) 0) λy0=>(.an (pZ (y0.s 20)) (.at ((0<(↑(y0.s 20).length:Int)↔0<(kX (z.g 24) 0).length)/\y0.s 20=kX (z.g 24) 0))))) by
 dsimp only [Dg,bk,hs,vH] at hA;have:=@M4 (z.g 24);conv=>zeta
 repeat' with_reducible first|intro _|apply d_|apply ed|apply ef|apply eu|apply ew
 all_goals first|omega|grind [aA,aq,ao,cd,ce,cf,cg,ci,cj,ck,cm,co,aY,List.append_assoc,jn,dW,TG]
noncomputable section
end
noncomputable section
def A0:Nat->List G->List G
 |0,l=>l
 |k+1,l=>l.map λg=>.node [.int (gI (ah g 0)),.int (gI (ah g 1)),.int (gI (ah g 2)),.str (gS (ah g 3)),.node (gL (ah g 4)),.node (A0 k (gL (ah g 5)))]
def R2(k:Nat)(g:G):G:=.node [.int (gI (ah g 0)),.int (gI (ah g 1)),.int (gI (ah g 2)),.str (gS (ah g 3)),.node (gL (ah g 4)),.node (A0 k (gL (ah g 5)))]
def QO(k:Nat)(g:G):R2 k g= .node [.int (gI (ah g 0)),.int (gI (ah g 1)),.int (gI (ah g 2)),.str (gS (ah g 3)),.node (gL (ah g 4)),.node (A0 k (gL (ah g 5)))]:=rfl
def JW(k:Nat)(l:List G)(i:Int):List G:=(l.drop i.toNat).map (R2 k)
def JX{k:Nat}{l:List G}{i:Int}(h0:0<=i)(h:i<l.length):JW k l i=R2 k (aL l i.toNat)::JW k l (i+1):=by unfold JW;rw[JT h0 h];rfl
def M5{k:Nat}{l:List G}{i:Int}(h:(l.length:Int)<=i):JW k l i= []:=by unfold JW;rw[Zw (by omega)];rfl
def JY(k:Nat)(l:List G):A0 (k+1) l=JW k l 0:=rfl
def M6(ns ks:List G):Prop:=ns.length=0/\ks.length=0
def VW:List Sh:=[.i .i64 11,.i .i64 12,.i .i64 13,.s 14,.v 1 15,.v 2 16]
def JZ(k:Nat):FSpec:=⟨[.ag va],[],λz=>uP k z=0∨(k=16/\M6 (z.g 5) (z.g 6)),λ_=>.one (.ag VW),λ_=>[],λz y=>y.i 11=z.i 1/\y.i 12=z.i 2/\y.i 13=z.i 3/\y.s 14=z.s 4/\y.g 15=z.g 5/\y.g 16=A0 k (z.g 6),[]⟩
def QP{kd i sc:Int}{t:List Nat}{ns ks:List G}(h:kV kd i sc t ns ks=0):ns.length<=200:=by
 obtain⟨h1,h2,h3,h4⟩:=l_ h;have hd:(kd<1∨9<kd)∨kd=1∨kd=2∨kd=3∨kd=4∨kd=5∨kd=6∨kd=7∨kd=8∨kd=9:=by omega
 rcases hd with e|e|e|e|e|e|e|e|e|e
 ·exact absurd h1 (IL e)
 ·have:=(Cw e).1 h1;omega
 ·have:=(Cx e).1 h1;omega
 ·have:=(Cy e).1 h1;omega
 ·have:=(Cz e).1 h1;omega
 ·have:=(IJ e).1 h1;omega
 ·have:=(CA e).1 h1;omega
 ·have:=(CB e).1 h1;omega
 ·have:=(CC e).1 h1;omega
 ·have:=(h4 e).2;omega
def QQ{k:Nat}{kd i sc:Int}{t:List Nat}{ns ks:List G}(h:ge (k+1) kd i sc t ns ks=0∨(k+1=16/\M6 ns ks)):dm k ks 0=0/\ks.length<=1000/\ns.length<=1000:=by
 rcases h with h|⟨_,h1,h2⟩
 ·by_cases hv:kV kd i sc t ns ks=0
  ·obtain⟨h1,h2,h3,h4⟩:=l_ hv;have h5:=QP hv;rw[qn hv] at h;exact⟨h,by omega,by omega⟩
  ·rw[ma hv] at h;exact absurd h hv
 ·rw[List.length_eq_zero_iff] at h2;subst h2;exact⟨uK (by simp),by simp,by omega⟩
def TH(e:G):G:=.node [.int (gI (ah e 0)),.str (gS (ah e 1)),.int (gI (ah e 2)),.int (gI (ah e 3)),.int (gI (ah e 4)),.int (gI (ah e 5)),.int (gI (ah e 6)),.int (gI (ah e 7)),.str (gS (ah e 8)),.node (gL (ah e 9)),.node (A0 16 (gL (ah e 10))),hX (ah e 11),.int (pI (gI (ah e 12)=1)),.int (gI (ah e 13)),.int (gI (ah e 14))]
def QR(e:G):TH e= .node [.int (gI (ah e 0)),.str (gS (ah e 1)),.int (gI (ah e 2)),.int (gI (ah e 3)),.int (gI (ah e 4)),.int (gI (ah e 5)),.int (gI (ah e 6)),.int (gI (ah e 7)),.str (gS (ah e 8)),.node (gL (ah e 9)),.node (A0 16 (gL (ah e 10))),hX (ah e 11),.int (pI (gI (ah e 12)=1)),.int (gI (ah e 13)),.int (gI (ah e 14))]:=rfl
def QS{kd i sc:Int}{t:List Nat}{ns ks:List G}(h:rc kd i sc t ns ks):M6 ns ks:=by obtain⟨_,_,_,_,h1,h2⟩:=(dn kd i sc t ns ks).1 h;exact⟨h1,h2⟩
def QT{kd:Int}{tx:List Nat}{tb dc vr:Int}{bl hz gn:Prop}{ab ae:Int}(h:kW kd tx tb dc vr bl hz gn ab ae)(hk:¬(kd=2/\¬gn)):bl:=by
 obtain⟨h1,h2⟩:=Jg h;have hd:kd=1∨kd=2∨kd=3∨kd=4∨kd=5∨kd=6∨kd=7:=by omega
 rcases hd with e|e|e|e|e|e|e
 ·exact((I_ e).1 h).2.2.2.2.1
 ·exact((Ja e).1 h).2.2.2.2.2.2 (Classical.not_not.1 λq=>hk ⟨e,q⟩)
 ·exact((Jb e).1 h).2.2.2.2.1
 ·exact((Jc e).1 h).2.2.2.2.2.2.1
 ·exact((Jd e).1 h).2.2.2.2.1
 ·exact((Jf e).1 h).2.2.2.2.1
 ·exact((Je e).1 h).2.2.2.2.1
def TI{e:G}(h:uT e=0):ge 16 (gI (ah e 5)) (gI (ah e 6)) (gI (ah e 7)) (gS (ah e 8)) (gL (ah e 9)) (gL (ah e 10))=0∨M6 (gL (ah e 9)) (gL (ah e 10)):=by
 obtain⟨h1,h2⟩:=jI h;by_cases hk:gI (ah e 0)=2/\¬gI (ah e 12)=1
 ·exact .inl (CM (h2 hk)).1
 ·exact .inr (QS (QT h1 hk))
def M7{es:List G}{i:Int}(h:vH es)(h0:0<=i)(hi:i<es.length):ge 16 (gI (ah (aL es i.toNat) 5)) (gI (ah (aL es i.toNat) 6)) (gI (ah (aL es i.toNat) 7)) (gS (ah (aL es i.toNat) 8)) (gL (ah (aL es i.toNat) 9)) (gL (ah (aL es i.toNat) 10))=0∨((16:Nat)=16/\M6 (gL (ah (aL es i.toNat) 9)) (gL (ah (aL es i.toNat) 10))):=
 (TI (jK h.1 h0 hi)).imp id λh=>⟨rfl,h⟩
def M8{es:List G}(h:vH es):es.length<=200:=h.2.2
def VX:List Sh:=[.i .i64 31,.i .i64 32,.i .i64 33]++hs 400++ [.v 7 34]
end
noncomputable section
def OW(es:List G):Prop:=∀e∈es,TH e=e
def QU{es:List G}{i:Int}(h:OW es)(h0:0<=i)(hi:i<es.length):TH (aL es i.toNat)=aL es i.toNat:=h _ (dK h0 hi)
def M9{es:List G}{i:Int}{g:G}(h0:0<=i)(hi:i<es.length)(e:g=aL es i.toNat):es.set i.toNat g=es:=by
 subst e;have h1:i.toNat<es.length:=by omega
 unfold aL;rw[aai,aah h1];exact List.set_getElem_self h1
def M_{es:List G}{i:Int}(h:OW es)(h0:0<=i)(hi:i<es.length):es.set i.toNat (TH (aL es i.toNat))=es:=M9 h0 hi (QU h h0 hi)
def Dh:FSpec:=⟨[.c (.v 1 5)],[],λz=>(z.g 5).length<=1000000,λ_=>.one (.c (.v 1 20)),λ_=>[],λz y=>y.g 20=z.g 5,[]⟩
def Di:FSpec:=⟨[.c (.v 7 24)],[],λz=>(z.g 24).length<=1000000,λ_=>.one (.c (.g 0 46 20)),λ_=>[.grow 7 84 20],λz y=>y.g 20=z.g 24,[]⟩
def Dj(k:Nat)(p:Sy):LSpec:=⟨[(1,.c (.p 0)),(3,.c (.g 1 6 20)),(11,.c (.pv 2 (p.g 6))),(12,.c (.pi .i64 (p.g 6).length)),(13,.c (.i .i64 9))],[.cells 25 [.pi .i64 (p.i 1),.pi .i64 (p.i 2),.pi .i64 (p.i 3),.ps (p.s 4),.v 1 15,.pv 2 (p.g 6)],.grow 2 25 20],λz=>dm k (p.g 6) 0=0/\(p.g 6).length<=1000/\(0<=z.i 9/\z.i 9<=(p.g 6).length)/\(z.g 20).length<=z.i 9,λz=>((p.g 6).length-z.i 9).toNat,[⟨.exit 0,[(1,.c (.p 0)),(3,.c (.g 1 6 20))],[.cells 25 [.pi .i64 (p.i 1),.pi .i64 (p.i 2),.pi .i64 (p.i 3),.ps (p.s 4),.v 1 15,.pv 2 (p.g 6)],.grow 2 25 20]⟩],λz y=>y.g 15=z.g 15/\y.g 20=z.g 20++JW k (p.g 6) (z.i 9),[],[2]⟩
def J0(k:Nat):FSpec:=JZ k
def J1(p:Sy):List BSh:=[.cells 47 ([.pi .i64 (p.i 21),.pi .i64 (p.i 22),.pi .i64 (p.i 23)]++F0 p 200++ [.g 1 46 20]),.grow 7 84 20]
def J2(p:Sy):LSpec:=⟨[(1,.c (.p 0)),(10,.c (.pi .i64 (p.g 24).length)),(11,.c (.i .i64 9))],J1 p,λz=>z.g 20=p.g 24/\vH (p.g 24)/\OW (p.g 24)/\(0<=z.i 9/\z.i 9<=(p.g 24).length),λz=>((p.g 24).length-z.i 9).toNat,[⟨.exit 0,[(1,.c (.p 0))],J1 p⟩],λz y=>y.g 20=p.g 24,[],[2]⟩
def TJ:FSpec:=⟨[.ag bk],[],λz=>vH (z.g 24)/\OW (z.g 24),λ_=>.one (.ag VX),λ_=>[],λz y=>y.i 31=z.i 21/\y.i 32=z.i 22/\y.i 33=z.i 23/\hT y 400=hT z 200/\y.g 34=z.g 24,[]⟩
end
def J3:bI 53 Di:=VJ 1000 (t0:=20) (D:=λz=>.g (z.g 24)) mN eN lN (hn:=hC 5 5) λz hA=>show Fm.den (let v0:Fm:=(.an (0=0/\0<=1000000000/\(z.g 24).length<=1000000) (.an (([]++z.g 24).length=0+(z.g 24).length/\True) (.at ([]++z.g 24=z.g 24))));(.two (tG (jb bw z (Sa.c (Sh.v 7 24)))=0) (.al (λy0=>True) λy0=>(.two (y0.p 0) (.an (Av) (.at ([]=z.g 24))) v0)) v0)) by dsimp only [Di] at hA;have a1:tG (jb bw z (Sa.c (Sh.v 7 24)))=(z.g 24).length:=rfl;have a2:(z.g 24).length=0-> []=z.g 24:=λh=>(List.length_eq_zero_iff.1 h).symm;exact nO
def J4:bI 111 Dh:=VJ 1000 (t0:=20) (D:=λz=>.g (z.g 5)) mN eN lN (hn:=hC 5 5) λz hA=>show Fm.den (let v0:Fm:=(.an (0=0/\0<=1000000000/\(z.g 5).length<=1000000) (.an (([]++z.g 5).length=0+(z.g 5).length/\True) (.at ([]++z.g 5=z.g 5))));(.two (tG (jb bw z (Sa.c (Sh.v 1 5)))=0) (.al (λy0=>True) λy0=>(.two (y0.p 0) (.ax ([]=z.g 5)) v0)) v0)) by dsimp only [Dh] at hA;have a1:tG (jb bw z (Sa.c (Sh.v 1 5)))=(z.g 5).length:=rfl;have a2:(z.g 5).length=0-> []=z.g 5:=λh=>(List.length_eq_zero_iff.1 h).symm;exact nO
abbrev QV(a:List G):=a.length=a.length/\a.length<=1000000000/\True
def J5(k:Nat)(ag2:bI 54 (J0 k)):cH 54 0 (Dj k):=cG 4 9 (ar ag2 eN) lN λp z hA=>show Fm.den (let v0:=(bx (p.g 6) (z.i 9));let v1:=(↑(p.g 6).length:Int);let v2:=(gL (ah v0 5));let v3:=(gL (ah v0 4));(.two (z.i 9 < ↑(p.g 6).length) (.an (gf (z.i 9) (p.g 6)) (.an (True/\(ge k (gI (ah v0 0)) (gI (ah v0 1)) (gI (ah v0 2)) (gS (ah v0 3)) v3 v2=(0:Int)∨k=16/\M6 v3 v2)) (.al (λy0=>ge k (gI (ah v0 0)) (gI (ah v0 1)) (gI (ah v0 2)) (gS (ah v0 3)) v3 v2=(0:Int)∨k=16/\M6 v3 v2->y0.i 11=gI (ah v0 0)/\y0.i 12=gI (ah v0 1)/\y0.i 13=gI (ah v0 2)/\y0.s 14=gS (ah v0 3)/\y0.g 15=gL (ah v0 4)/\y0.g 16=A0 k v2) λy0=>(let v4:=(z.g 20++ [G.node [G.int (y0.i 11),G.int (y0.i 12),G.int (y0.i 13),G.str (y0.s 14),G.node (y0.g 15),G.node (y0.g 16)]]);(.an (QV (z.g 20)) (.an ((-9223372036854775808)<=z.i 9+1/\z.i 9+1<=9223372036854775807) (.an (v4.length=(z.g 20).length+1/\p.g 6=p.g 6/\p.s 4=p.s 4/\p.i 3=p.i 3/\p.i 2=p.i 2/\p.i 1=p.i 1/\v1=v1/\p.g 6=p.g 6/\True) (.at ((dm k (p.g 6) 0=0/\(p.g 6).length<=1000/\(jV (z.i 9) (p.g 6))/\(↑v4.length:Int)<=z.i 9+1)/\(v1-(z.i 9+1)).toNat<(v1-z.i 9).toNat/\∀(y:Sy),y.g 15=z.g 15/\y.g 20=z.g 20++ [G.node [G.int (y0.i 11),G.int (y0.i 12),G.int (y0.i 13),G.str (y0.s 14),G.node (y0.g 15),G.node (y0.g 16)]]++JW k (p.g 6) (z.i 9+1)->y.g 15=z.g 15/\y.g 20=z.g 20++JW k (p.g 6) (z.i 9)))))))))) (.an ((z.g 20).length=(z.g 20).length/\p.g 6=p.g 6/\p.s 4=p.s 4/\p.i 3=p.i 3/\p.i 2=p.i 2/\p.i 1=p.i 1/\True) (.at (z.g 15=z.g 15/\z.g 20=z.g 20++JW k (p.g 6) (z.i 9)))))) by dsimp only [Dj] at hA;have:=@JX k (p.g 6) (z.i 9);have:=@M5 k (p.g 6) (z.i 9);have:=@jH k (p.g 6) (z.i 9);have:=eD k (aL (p.g 6) (z.i 9).toNat);have:=QO k (aL (p.g 6) (z.i 9).toNat);exact nO
def Dk:∀k,bI 54 (J0 k)
 |0=>RX λz h=>h.elim (λh=>absurd ((fw _ _ _ _ _ _).symm.trans h) (by decide)) λh=>absurd h.1 (by decide)
 |k+1=>cC 1 0 (ar J4 eN) (aX (ptm:=[(0,.ag va)]) (J5 k (Dk k)) lN) λz hA=>show Fm.den (let v0:=(↑(z.g 6).length:Int);(.ct ((z.g 5).length<=1000000) (λy0=>y0.g 20=z.g 5) λy0=>(.cl ((0=0/\z.g 6=z.g 6/\z.s 4=z.s 4/\z.i 3=z.i 3/\z.i 2=z.i 2/\z.i 1=z.i 1/\v0=v0/\z.g 6=z.g 6/\True)) (dm k (z.g 6) 0=0/\(z.g 6).length<=1000/\(rz v0)/\(↑0:Int)<=0) (λy1=>y1.g 15=y0.g 20/\y1.g 20= []++JW k (z.g 6) 0) λy1=>(.an ((y1.g 20).length=(y1.g 20).length/\True) (.at (z.i 1=z.i 1/\z.i 2=z.i 2/\z.i 3=z.i 3/\z.s 4=z.s 4/\y1.g 15=z.g 5/\y1.g 20=A0 (k+1) (z.g 6))))))) by dsimp only [J0,JZ,va,uP,VW] at hA;have:=@QQ k (z.i 1) (z.i 2) (z.i 3) (z.s 4) (z.g 5) (z.g 6);have:=JY k (z.g 6);exact nO
def Na:cH 24 0 J2:=cG 4 9 (ar (Dk 16) eN) lN λp z hA=>show Fm.den (let v0:=(bx (z.g 20) (z.i 9));let v1:=(↑(p.g 24).length:Int);let v2:=(gL (ah v0 10));let v3:=(gf (z.i 9) (z.g 20));let v4:=(gL (ah v0 9));let v5:=(pI (gI (ah v0 12)=(1:Int)));let v6:=(FV p 200);(.two (z.i 9 < ↑(p.g 24).length) (.an v3 (.an (gK (z.i 9) (z.g 20)) (.an (True/\(ge 16 (gI (ah v0 5)) (gI (ah v0 6)) (gI (ah v0 7)) (gS (ah v0 8)) v4 v2=(0:Int)∨16=16/\M6 v4 v2)) (.al (λy0=>ge 16 (gI (ah v0 5)) (gI (ah v0 6)) (gI (ah v0 7)) (gS (ah v0 8)) v4 v2=(0:Int)∨16=16/\M6 v4 v2->y0.i 11=gI (ah v0 5)/\y0.i 12=gI (ah v0 6)/\y0.i 13=gI (ah v0 7)/\y0.s 14=gS (ah v0 8)/\y0.g 15=gL (ah v0 9)/\y0.g 16=A0 16 v2) λy0=>(let v7:=(G.node [G.int (gI (ah v0 0)),G.str (gS (ah v0 1)),G.int (gI (ah v0 2)),G.int (gI (ah v0 3)),G.int (gI (ah v0 4)),G.int (y0.i 11),G.int (y0.i 12),G.int (y0.i 13),G.str (y0.s 14),G.node (y0.g 15),G.node (y0.g 16),hX (ah v0 11),G.int v5,G.int (gI (ah v0 13)),G.int (gI (ah v0 14))]);(.an v3 (.an (xM (z.i 9) (z.g 20)) (.an ((-9223372036854775808)<=z.i 9+1/\z.i 9+1<=9223372036854775807) (.an (((z.g 20).set (z.i 9).toNat v7).length=(z.g 20).length/\qk v6 v6 (p.i 23=p.i 23/\p.i 22=p.i 22/\p.i 21=p.i 21/\v1=v1/\True)) (.at (((z.g 20).set (z.i 9).toNat v7=p.g 24/\(F1 (p.g 24))/\OW (p.g 24)/\0<=z.i 9+1/\z.i 9+1<= ↑(p.g 24).length)/\(v1-(z.i 9+1)).toNat<(v1-z.i 9).toNat/\∀(y:Sy),y.g 20=p.g 24->y.g 20=p.g 24))))))))))) (.an ((z.g 20).length=(z.g 20).length/\qk v6 v6 (MF (p.i 23) (p.i 22) (p.i 21))) (.at (z.g 20=p.g 24))))) by dsimp only [J2,J1,F0,vH] at hA;have:=@M_ (p.g 24) (z.i 9);have:=@M7 (p.g 24) (z.i 9);have:=QR (aL (p.g 24) (z.i 9).toNat);exact nO
def TK:bI 24 TJ:=cC 1 0 (ar J3 eN) (aX (ptm:=[(0,.ag bk)]) Na lN) λz hA=>show Fm.den (let v0:=(↑(z.g 24).length:Int);(.ct ((z.g 24).length<=1000000) (λy0=>y0.g 20=z.g 24) λy0=>(.cl (((y0.g 20).length=(y0.g 20).length/\qk (FV z 200) (FV z 200) (z.i 23=z.i 23/\z.i 22=z.i 22/\z.i 21=z.i 21/\(↑(y0.g 20).length:Int)=v0/\True))) (y0.g 20=z.g 24/\(F1 (z.g 24))/\OW (z.g 24)/\(0:Int)<=0/\0<=v0) (λy1=>y1.g 20=z.g 24) λy1=>(.an ((y1.g 20).length=(y1.g 20).length/\True) (.at (z.i 21=z.i 21/\z.i 22=z.i 22/\z.i 23=z.i 23/\hT z 200=hT z 200/\y1.g 20=z.g 24)))))) by dsimp only [TJ,bk,hs,vH,VX] at hA;have:=@M8 (z.g 24);exact nO
end Go.Proofs.YtknhaomckfianaaGreatDoor
