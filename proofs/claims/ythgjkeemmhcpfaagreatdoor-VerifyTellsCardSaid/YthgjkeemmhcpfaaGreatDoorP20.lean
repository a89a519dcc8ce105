/- Part 20. -/
import Derived.LaidOnce
import Derived.Test.YthgjkeemmhcpfaaGreatDoorProg
import Derived.KernelRfl
import Derived.Test.YthgjkeemmhcpfaaGreatDoorP12
import Derived.Test.YthgjkeemmhcpfaaGreatDoorP13
import Derived.Test.YthgjkeemmhcpfaaGreatDoorP14
import Derived.Test.YthgjkeemmhcpfaaGreatDoorP15
import Derived.Test.YthgjkeemmhcpfaaGreatDoorP16
import Derived.Test.YthgjkeemmhcpfaaGreatDoorP17
import Derived.Test.YthgjkeemmhcpfaaGreatDoorP18
import Derived.Test.YthgjkeemmhcpfaaGreatDoorP19
set_option linter.all false
namespace Go.Proofs.YthgjkeemmhcpfaaGreatDoor
open Go.Sym
set_option maxRecDepth 100000
noncomputable section
def oS(es:List G):Nat:=(im True es 0).length+(f_ es 0).length+96
def mT(k t n:Int)(pv:G)(es:List G):G:=.node [.int k,.int t,.int n,pv,.node es]
def P6(k t n:Int)(pv:G)(es:List G):mT k t n pv es= .node [.int k,.int t,.int n,pv,.node es]:=rfl
def pS(l:List G)(t:Int):Prop:=0<l.length->gI (aa (aq l (((l.length:Nat):Int)-1).toNat) 1)<=t
def VJ{l:List G}{t:Int}(h:pS l t)(hl:0<l.length):gI (aa (aq l (((l.length:Nat):Int)-1).toNat) 1)<=t:=h hl
def Ye(t:Int):pS [] t:=λh=>by simp at h
def Yf{l:List G}{k t n u:Int}{pv:G}{es:List G}(h:t<=u):pS (l++ [mT k t n pv es]) u:=λ_=>by
 have e:(((l++ [mT k t n pv es]).length:Nat):Int)-1=l.length:=by simp
 rw[e,tT rfl];exact h
def TR{l:List G}{t u:Int}(h:pS l t)(hu:t<=u):pS l u:=λhl=>Int.le_trans (h hl) hu
def oP{es:List G}{k t n:Int}{pv:G}(h:dM es)(hp:HOk pv)(hk:k<9223372036854775808)(ht:t<9223372036854775808)(hn:n<9223372036854775808)(hb:bI k t n pv es=0):
 jO es/\(mX False k t n pv es).length<=262144/\(f_ es 0).length<=270000/\(f_ es 0).length+(mX False k t n pv es).length+24<=oS es/\1<=es.length:=by
 obtain⟨h1,h2,h3⟩:=fi hb
 have h1:(0<=k/\k<=2147483648)/\(0<=t/\t<=9007199254740992)/\(0<=n/\n<=9007199254740992)/\1<=es.length/\es.length<=200:=by unfold yh at h1;exact h1
 have h4:=h1.2.2.2.2
 have a:=rp h4 es.length 0 (by omega) (by omega)
 have b:=Px es
 have c:=io hp hk ht hn
 have d:=fB (n:=es.length) (by omega)
 unfold mX at h3⊢
 simp only [aah] at h3⊢
 unfold oS
 exact⟨⟨h2,tU h,h4⟩,by omega,by omega,by omega,h1.2.2.2.1⟩
def qE(k:Int)(l:List G):Prop:=Hx k (ck l) l
def TS:qE 0 []:=by unfold qE;rw[yQ];exact Tj
def P7{k:Int}{n:Nat}{l:List G}(h:Hx k n l):qE k l:=by unfold qE Hx at *;exact⟨h.1,h.2.1,aaa _⟩
def zr{k:Int}{n:Nat}{l:List G}(h:Hx k n l):(l.length:Int)<=2 * k/\ck l<=n:=by unfold Hx at h;exact h.2
def TU{k:Int}{l:List G}(h:qE k l)(h0:0<=k)(h1:k<100)(b r:List Nat)(hr:ck l+b.length+r.length<=1000000):
 (¬b_ (cP k) l/\l.length<=200)/\di 4194304 (cP k) b.length l/\b_ (cP k) (fZ (cP k) b l)/\((fZ (cP k) b l).length<=300/\ck (fZ (cP k) b l)<=1000000)/\
  ((mm (cP k) (fZ (cP k) b l)).length<=300/\ck (mm (cP k) (fZ (cP k) b l))<=1000000)/\di 4194304 fD r.length (mm (cP k) (fZ (cP k) b l))/\
  b_ fD (fZ fD r (mm (cP k) (fZ (cP k) b l)))/\((fZ fD r (mm (cP k) (fZ (cP k) b l))).length<=300/\ck (fZ fD r (mm (cP k) (fZ (cP k) b l)))<=1000000)/\qE (k+1) (mm fD (fZ fD r (mm (cP k) (fZ (cP k) b l))))/\ck (mm fD (fZ fD r (mm (cP k) (fZ (cP k) b l))))<=ck l+b.length+r.length:=by
 have hk:Hx k (ck l) l:=h
 have hl:=zr hk
 obtain⟨q1,q2,q3,q4⟩:=Ph (b:=b) hk h0
 have f1:=Hy (nm:=cP k) (b:=b) (room:=4194304) hk h1 (by omega)
 obtain⟨a1,a2,a3,_⟩:=ji (cP k) b l
 obtain⟨s1,s2,s3⟩:=pM _ _ q1
 obtain⟨r1,r2⟩:=Hz (b:=r) q2 q3 q4
 obtain⟨c1,c2,c3,_⟩:=ji fD r (mm (cP k) (fZ (cP k) b l))
 have hk2:=zr r2
 refine⟨⟨Tl hk h0 h1,by omega⟩,f1,q1,⟨by omega,by omega⟩,⟨by omega,by omega⟩, ?_,r1,⟨by omega,by omega⟩,P7 r2,by omega⟩
 unfold di
 exact⟨by omega,.inr (by omega)⟩
def TV{k:Int}{l:List G}(h:qE k l)(h0:0<=k)(h1:k<100)(r:List Nat)(hr:ck l+r.length<=1000000):
 l.length<=200/\di 4194304 fD r.length l/\b_ fD (fZ fD r l)/\((fZ fD r l).length<=300/\ck (fZ fD r l)<=1000000)/\qE (k+1) (mm fD (fZ fD r l))/\ck (mm fD (fZ fD r l))<=ck l+r.length:=by
 have hk:Hx k (ck l) l:=h
 have hl:=zr hk
 have f1:=Hy (nm:=fD) (b:=r) (room:=4194304) hk h1 (by omega)
 have hn:∀r∈l,gS (aa r 0)=fD∨∃i:Int,0<=i/\i<k+1/\gS (aa r 0)=cP i:=λr hr=>by
  have hk:=hk;unfold Hx at hk;rcases hk.1 r hr with h|⟨i,i0,ik,h⟩
  ·exact .inl h
  ·exact .inr ⟨i,i0,by omega,h⟩
 obtain⟨r1,r2⟩:=Hz (k:=k) (n:=ck l) (b:=r) hn (by omega) (aaa _)
 obtain⟨c1,c2,c3,_⟩:=ji fD r l
 have hk2:=zr r2
 exact⟨by omega,f1,r1,⟨by omega,by omega⟩,P7 r2,by omega⟩
def H3(p:Sy):LSpec:=⟨[(3,.c (.p 0)),(7,.c (.i .i64 9))],[.cells 75 (mY p)],λz=>dM (p.g 24)/\(0<=z.i 9/\z.i 9<=(p.g 24).length)/\(p.g 24).length<=1000000,λz=>((p.g 24).length-z.i 9).toNat,[⟨.exit 0,[],[.cells 75 (mY p)]⟩],λz y=>True,none,[]⟩
def Kd(z:Sy):Prop:=RowsOk (z.g 32)/\(z.g 31).length=(z.g 32).length/\(z.g 31).length<=60/\z.i 21=(z.g 31).length/\hT z 200=nc (z.g 32)/\pS (z.g 31) (z.i 22)
def VK:FSpec:=⟨[.cp [.o,.v 11 31,.v 6 32,.o],.ag bk],[],λz=>Kd z/\CL z/\dM (z.g 24),λ_=>.one (.c (.i .i64 50)),λ_=>[],λz y=>y.i 50=bI (z.i 21) (z.i 22) (z.i 23) (hT z 200) (z.g 24),none⟩
def H4(p:Sy):LSpec:=⟨[(3,.c (.p 0)),(7,.c (.i .i64 9))],[.cells 75 (mY p)],λz=>dM (p.g 24)/\(0<=z.i 9/\z.i 9<=(p.g 24).length)/\(p.g 24).length<=1000000,λz=>((p.g 24).length-z.i 9).toNat,[⟨.exit 0,[],[.cells 75 (mY p)]⟩],λz y=>True,none,[0,6]⟩
def Ze:List BSh:=[.cells 71 [.p 1,.g 2 36 31,.g 3 32 32,.pb False],.cells 110 [.i .i64 1,.g 4 3 20,.i .i64 2],.grow 11 75 31,.grow 6 28 32,.grow 12 198 20]
def H5(p:Sy):LSpec:=⟨[(0,.c (.p 0)),(6,.c (.m 5)),(14,.c (.i .i64 9))],Ze++ [.sm 5 35],λz=>(0<=z.i 9/\z.i 9<=(z.g 31).length)/\(z.g 31).length<=60/\z.g 35= [],λz=>((z.g 31).length-z.i 9).toNat,[⟨.exit 2,[(0,.c (.p 0)),(6,.c (.m 5))],Ze++ [.sm 5 35]⟩],λz y=>y.g 31=z.g 31/\y.g 32=z.g 32/\y.g 20=z.g 20/\y.i 1=z.i 1/\y.i 2=z.i 2/\y.g 35= [],none,[13]⟩
def P8:FSpec:=⟨[.c (.p 0),.ag bk],Ze,λz=>Kd z/\CL z/\dM (z.g 24)/\(z.i 1=4194304/\z.i 2= -1)/\qE (z.i 21) (z.g 20)/\(tC z=0->ck (z.g 20)+oS (z.g 24)<=1000000),λ_=>.one (.c (.i .i64 50)),λ_=>Ze,λz y=>y.i 50=tC z/\(y.i 1=4194304/\y.i 2= -1)/\(tC z=0->y.g 31=z.g 31++ [mT (z.i 21) (z.i 22) (z.i 23) (hT z 200) (z.g 24)]/\y.g 32=z.g 32++ [.node [kz (z.i 21) (z.i 22) (z.i 23) (hT z 200) (z.g 24)]]/\qE (z.i 21+1) (y.g 20)/\ck (y.g 20)<=ck (z.g 20)+oS (z.g 24))/\(¬tC z=0->y.g 31=z.g 31/\y.g 32=z.g 32/\y.g 20=z.g 20),none⟩
def ry{P:Program}{f:Nat}{S:FSpec}(am5:Sy->Prop)(af4:Sy->Sy->Prop)(hp:∀z,am5 z->S.pre z)(h:∀z y,am5 z->S.post z y->af4 z y)(hS:Ok P f S):Ok P f {S with pre:=am5,post:=af4}:=by obtain⟨zf,hc⟩:=hS;exact⟨λz=>⟨(zf z).1,λhz=>h z _ hz ((zf z).2 (hp z hz))⟩,λz hz=>hc z (hp z hz)⟩
def H6:FSpec:={yV with pre:=λz=>oG z/\¬b_ (z.s 5) (z.g 20),post:=λz y=>y.g 20=z.g 20/\yT z y/\y.i 30=7}
def P9(h:Ok Tryz.prog 40 yV):Ok Tryz.prog 40 H6:=ry (λz=>oG z/\¬b_ (z.s 5) (z.g 20)) _ (λz h=>h.1) (λz y h q=>⟨q.1,q.2.1,(q.2.2.2 h.2).1⟩) h
def wQ:FSpec:={oH with pre:=λz=>(oG z/\(1<=(z.s 5).length/\(z.s 5).length<=64)/\(z.s 6).length<=1000000)/\di (z.i 1) (z.s 5) (z.s 6).length (z.g 20),post:=λz y=>yT z y/\y.i 30=0/\y.g 20=fZ (z.s 5) (z.s 6) (z.g 20)}
def EA(h:Ok Tryz.prog 119 oH):Ok Tryz.prog 119 wQ:=ry (λz=>(oG z/\(1<=(z.s 5).length/\(z.s 5).length<=64)/\(z.s 6).length<=1000000)/\di (z.i 1) (z.s 5) (z.s 6).length (z.g 20)) _ (λz h=>h.1) (λz y h q=>⟨q.1,q.2.1 h.2⟩) h
def H7:FSpec:={yU with pre:=λz=>(oG z/\(1<=(z.s 5).length/\(z.s 5).length<=64))/\b_ (z.s 5) (z.g 20),post:=λz y=>yT z y/\y.i 30=0/\y.g 20=mm (z.s 5) (z.g 20)}
def P_(h:Ok Tryz.prog 43 yU):Ok Tryz.prog 43 H7:=ry (λz=>(oG z/\(1<=(z.s 5).length/\(z.s 5).length<=64))/\b_ (z.s 5) (z.g 20)) _ (λz h=>h.1) (λz y h q=>⟨q.1,q.2.1 h.2⟩) h
def wR:FSpec:={jg with pre:=λz=>(z.s 1).length<=524288,post:=λz y=>y.i 50=0/\y.s 10=zF (z.s 1)}
def EB(h:Ok Tryz.prog 132 jg):Ok Tryz.prog 132 wR:=ry (λz=>(z.s 1).length<=524288) _ (λz h=>by have h:(z.s 1).length<=524288:=h;show(z.s 1).length<=100000000;omega) (λz y h q=>q.1 h) h
def wS(k:Int)(l:List G):Prop:=P0 k (fj l) l
def TW:wS 0 []:=by unfold wS;rw[zo];exact TN
def Qa{k:Int}{n:Nat}{l:List G}(h:P0 k n l):wS k l:=⟨h.1,h.2.1,aaa _⟩
def TX{k:Int}{l:List G}(h:wS k l)(h0:0<=k)(h1:k<100)(a r:Nat):
 (¬jk (cP k) l/\l.length<=200)/\(fj (gN (cP k) a l)=fj l+a/\(gN (cP k) a l).length<=201)/\jk fD (gN fD r (gN (cP k) a l))/\wS (k+1) (gN fD r (gN (cP k) a l))/\fj (gN fD r (gN (cP k) a l))=fj l+a+r:=by
 have hf:=HX h
 have e1:=zq (cP k) a l
 have e2:=zq fD r (gN (cP k) a l)
 exact⟨⟨TO h h0 h1,by omega⟩,⟨e1.1,by omega⟩,Ey _ _ _,Qa (P2 (a:=a) (b:=r) h h0),by omega⟩
def TY{k:Int}{l:List G}(h:wS k l)(h0:0<=k)(h1:k<100)(r:Nat):l.length<=200/\jk fD (gN fD r l)/\wS (k+1) (gN fD r l)/\fj (gN fD r l)=fj l+r:=by have hf:=HX h;exact⟨by omega,Ey _ _ _,Qa (TP (b:=r) h h0),(zq fD r l).1⟩
def Yg{n n':Int}{rows o7:List G}{h:G}(ht:BW n rows h n' o7)(hh:HOk h)(hx:dV n rows):dV n' o7:=by unfold dV at hx;obtain⟨L,h1,h2⟩:=hx;exact N6 (GM ht L h1) (gJ h2 hh)
def VM:List BSh:=[.cells 106 [.p 1,.g 2 36 31,.g 3 32 32,.p 4,.m 6,.pb False],.obj 1 (pR lz) 20,.grow 11 75 31,.grow 6 28 32,.cells 169 [.i .i64 1,.m 5],.sm 0 2,.sm 1 36]
def H8(p:Sy):LSpec:=⟨[(0,.c (.p 0)),(42,.c (.pv 7 (p.g 24))),(43,.c (.pi .i64 (p.g 24).length)),(44,.c (.i .i64 9))],VM,λz=>dM (p.g 24)/\(0<=z.i 9/\z.i 9<=(p.g 24).length)/\(p.g 24).length<=1000000/\(z.g 31).length<=1000000,λz=>((p.g 24).length-z.i 9).toNat,[⟨.exit 0,[(0,.c (.p 0))],VM⟩],λz y=>y.g 31=z.g 31/\y.g 32=z.g 32/\y.g 20=z.g 20/\y.i 1=z.i 1/\y.g 2=z.g 2/\y.g 36=z.g 36,none,[]⟩
def Qb:FSpec:=⟨[.c (.p 0),.ag bk],VM,λz=>Kd z/\CL z/\dM (z.g 24)/\wS (z.i 21) (z.g 20)/\(tC z=0->fj (z.g 20)+oS (z.g 24)<=1000000)/\(0<=z.i 1/\z.i 1<=1000)/\dV (z.i 1) (z.g 2),λ_=>.one (.c (.i .i64 50)),λ_=>VM,λz y=>y.i 50=tC z/\(tC z=0->y.g 31=z.g 31++ [mT (z.i 21) (z.i 22) (z.i 23) (hT z 200) (z.g 24)]/\y.g 32=z.g 32++ [.node [kz (z.i 21) (z.i 22) (z.i 23) (hT z 200) (z.g 24)]]/\wS (z.i 21+1) (y.g 20)/\fj (y.g 20)<=fj (z.g 20)+oS (z.g 24)/\y.i 1=z.i 1+1/\dV (y.i 1) (y.g 2))/\(¬tC z=0->y.g 31=z.g 31/\y.g 32=z.g 32/\y.g 20=z.g 20/\y.i 1=z.i 1/\y.g 2=z.g 2),lk⟩
def Qc{m:Nat}{l:List G}{k:List Int}(h:l= []):¬kg m l k:=by subst h;unfold kg;simp
attribute [irreducible] qE pS oS wS
end
set_option maxHeartbeats 4000000
def Qd:bn 40 H6:=P9 Te
def EC:bn 119 wQ:=EA JX
def Qe:bn 43 H7:=P_ Tf
def ED:bn 132 wR:=EB wI
def Qf:bN 48 0 H3:=bM 12 150037 eN lN λp z hA=>show Fm.den (let v1:=(qC (p.g 24) (lK p 200) (je (p.i 23) (p.i 22) (p.i 21)));let v2:=(aK (p.g 24) (z.i 9));let v3:=(↑(p.g 24).length:Int);let v0:Fm:=(.an ((-9223372036854775808)<=z.i 9+1/\z.i 9+1<=9223372036854775807) (.an v1 (.at (HS (Cw (p.g 24) (dU (z.i 9) (p.g 24))) (v3-(z.i 9+1)) (v3-z.i 9)))));(.two (dq (z.i 9) (p.g 24)) (.an (cr (z.i 9) (p.g 24)) (.two (gI (aa v2 0)=2) (.two (gI (aa v2 12)=1) .ff (.an (gI (aa v2 0)≠4) v0)) (.two (gI (aa v2 0)≠4) v0 .ff))) (.an v1 (.at (True))))) by dsimp only [H3,mY,uz] at hA;have:=J7 p z;exact dD
def Yh:bn 48 VK:=bA 68 2722258935348047528044841860678099312639 (jZ H1 (ai pE eN)) (aF (ptm:=[(1,.ag bk)]) Qf lN) λz hA=>show Fm.den (let v3:=(hT z 200);let v4:=(¬(z.i 21≠ ↑(z.g 31).length));let v5:=(↑(z.g 31).length:Int);let v2:=(0<v5);let v1:Fm:=(.ax ((1:Int)=bI (z.i 21) (z.i 22) (z.i 23) v3 (z.g 24)));let v0:Fm:=(JF (z.g 24) v3 (z.i 21) (z.i 22) (z.i 23) λy1=>(.two (y1.i 50≠0) (.ax (y1.i 50=bI (z.i 21) (z.i 22) (z.i 23) v3 (z.g 24))) (.cl ((qC (z.g 24) (lK z 200) (je (z.i 23) (z.i 22) (z.i 21)))) (Cw (z.g 24) (fJ (↑(z.g 24).length:Int))) (λy2=>True) λy2=>(.ax ((0:Int)=bI (z.i 21) (z.i 22) (z.i 23) v3 (z.g 24))))));(.an v4 (.an v4 (.an v4 (.an v4 (.ct (RowsOk (z.g 32)/\(z.g 32).length<=1000) (λy0=>hT y0 300=nc (z.g 32)) λy0=>(let v6:=(¬ky v3 (hT y0 300));(.an v4 (.an v4 (.two v6 (.an v6 (.an v6 (.an v6 (.an v6 (.an v6 (.an v6 (.an v6 (.an v6 v1)))))))) (.an (¬v6) (.an (¬v6) (.an (¬v6) (.an (¬v6) (.an (¬v6) (.an (¬v6) (.two v2 (.an v2 (.an v2 (.an v2 (.an v2 (.an v2 (.an v2 (.an v2 (.an v2 (.an v2 (.an v2 (.an v2 (.an ((-9223372036854775808)<=v5-1/\v5-1<=9223372036854775807) (.an v2 (.an (uB v5) (.an v2 (.an v2 (.an v2 (.an (¬v6) (.an v2 (.an (¬v6) (.two (z.i 22<gI (aa (aK (z.g 31) (v5-1)) 1)) v1 v0))))))))))))))))))))) (.an (¬v2) (.an (¬v2) (.an (¬v2) (.an (¬v2) (.an (¬v2) (.an (¬v2) (.an (¬v2) (.an (¬v2) (.an (¬v2) (.an (¬v2) (.an (¬v2) (.an (¬v2) (.an (¬v2) (.an (¬v2) (.an (¬v2) (.an (¬v6) (.an (¬v2) (.an (¬v6) v0))))))))))))))))))))))))))))))))))) by dsimp only [VK,bk,hs,Kd,CL] at hA;have:=@zp (z.g 32);have:=@VJ (z.g 31) (z.i 22);exact dD
def Qg:bN 49 0 H4:=bM 20 67824691493 eN lN λp z hA=>show Fm.den (let v1:=(gI (aa (aK (p.g 24) (z.i 9)) 13)<0);let v2:=(qC (p.g 24) (lK p 200) (je (p.i 23) (p.i 22) (p.i 21)));let v3:=(cr (z.i 9) (p.g 24));let v4:=(↑(p.g 24).length:Int);let v0:Fm:=(.an ((-9223372036854775808)<=z.i 9+1/\z.i 9+1<=9223372036854775807) (.an v2 (.at (HS (Cw (p.g 24) (dU (z.i 9) (p.g 24))) (v4-(z.i 9+1)) (v4-z.i 9)))));(.two (dq (z.i 9) (p.g 24)) (.an v3 (.an v3 (.two (gI (aZ (aK (p.g 24) (z.i 9)))≠4) v0 (.two v1 (.an v1 (.an v1 (.an v1 (.an v1 (.an v1 (.an v1 (.an v1 (.an v1 v0)))))))) (.an (¬v1) (.an (¬v1) (.an (¬v1) .ff))))))) (.an v2 (.at (True))))) by dsimp only [H4,mY,uz] at hA;have:=J7 p z;exact dD
abbrev Yi(a b c:List G)(d:Prop):=a.length=a.length/\b.length=b.length/\c.length=c.length/\d/\True
abbrev mn:=False↔False
def Qh:bN 49 2 H5:=bM 6 133 eN lN λp z hA=>show Fm.den (let v0:=(Yi (z.g 31) (z.g 32) (z.g 20) (mn));let v1:=(↑(z.g 31).length:Int);(.two (dq (z.i 9) (z.g 31)) (.two (kg 5 (z.g 35) [z.i 9]) .ff (.an ((-9223372036854775808)<=z.i 9+1/\z.i 9+1<=9223372036854775807) (.an v0 (.at (((dU (z.i 9) (z.g 31))/\(z.g 31).length<=60/\z.g 35= [])/\(v1-(z.i 9+1)).toNat<(v1-z.i 9).toNat/\∀(y:Sy),y.g 31=z.g 31/\y.g 32=z.g 32/\y.g 20=z.g 20/\y.i 1=z.i 1/\y.i 2=z.i 2/\y.g 35= []->y.g 31=z.g 31/\y.g 32=z.g 32/\y.g 20=z.g 20/\y.i 1=z.i 1/\y.i 2=z.i 2/\y.g 35= []))))) (.an v0 (.at (z.g 31=z.g 31/\z.g 32=z.g 32/\z.g 20=z.g 20/\z.i 1=z.i 1/\z.i 2=z.i 2/\z.g 35= []))))) by dsimp only [H5,Ze] at hA;have:=@Qc 5 (z.g 35) [z.i 9];exact dD
abbrev TZ(a:Prop)(b c d:Int)(e:G)(f:List G):=Fm.ct a (λy=>y.i 50=bI b c d e f/\(bI b c d e f=(0:Int)->hT y 300=kz b c d e f)/\(¬bI b c d e f=(0:Int)->hT y 300=hZ))
abbrev T0(a:Prop)(b c d:Int)(e:G)(f:List G)(g:Prop):=Fm.ct a (λy=>y.i 50=bI b c d e f/\(bI b c d e f=(0:Int)->y.s 10=mX g b c d e f)/\(¬bI b c d e f=(0:Int)->y.s 10= []))
abbrev VN(a b:Prop)(c:List G)(d e:Int):=Fm.cl (a) (b/\b_ [106,111,117,114,110,97,108] c) (λy=>(y.i 1=d/\y.i 2=e)/\y.i 30=0/\y.g 20=mm [106,111,117,114,110,97,108] c)
abbrev VO(a:Int):=Fm.ct (0<=a/\a<100) (λy=>y.s 10=cP a)
def T1:bn 20 P8:=bA 18 17129536785 (jZ Yh (ai XS (ai DV (ai tP (ai Oh (ai Cl (ai XG (ai Qd (ai EC (ai Qe eN)))))))))) (aF (ptm:=[(1,.ag bk)]) Qg (aF (ptm:=[]) Qh lN)) λz hA=>show Fm.den (let v2:=(Yi (z.g 31) (z.g 32) (z.g 20) (mn));let v3:=(hT z 200);let v0:=(qm (z.g 24)/\HOk v3/\(z.g 24).length<=1000000/\z.i 21<9223372036854775808/\z.i 22<9223372036854775808/\z.i 23<9223372036854775808);let v1:=(bI (z.i 21) (z.i 22) (z.i 23) v3 (z.g 24)=(0:Int)->z.g 31=z.g 31++ [mT (z.i 21) (z.i 22) (z.i 23) v3 (z.g 24)]/\z.g 32=z.g 32++ [G.node [kz (z.i 21) (z.i 22) (z.i 23) v3 (z.g 24)]]/\qE (z.i 21+1) (z.g 20)/\ck (z.g 20)<=ck (z.g 20)+oS (z.g 24));let v4:=(qn (z.g 24));let v5:=(¬bI (z.i 21) (z.i 22) (z.i 23) v3 (z.g 24)=(0:Int)->z.g 31=z.g 31/\z.g 32=z.g 32/\z.g 20=z.g 20);let v6:=(z.i 1=4194304/\z.i 2=(-1));let v7:=(f_ (z.g 24) 0);(.two (False) (.an v2 (.at ((20:Int)=bI (z.i 21) (z.i 22) (z.i 23) v3 (z.g 24)/\v6/\v1/\v5))) (.an (yW (z.g 31)) (.an (yW (z.g 32)) (.ct ((RowsOk (z.g 32)/\(z.g 31).length=(z.g 32).length/\(z.g 31).length<=60/\z.i 21= ↑(z.g 31).length/\hT z 200=nc (z.g 32)/\pS (z.g 31) (z.i 22))/\v0/\dM (z.g 24)) (λy0=>y0.i 50=bI (z.i 21) (z.i 22) (z.i 23) v3 (z.g 24)) λy0=>(.two (y0.i 50≠0) (.an v2 (.at (y0.i 50=bI (z.i 21) (z.i 22) (z.i 23) v3 (z.g 24)/\v6/\v1/\v5))) (.cl ((qC (z.g 24) (lK z 200) (je (z.i 23) (z.i 22) (z.i 21)))) (Cw (z.g 24) (fJ (↑(z.g 24).length:Int))) (λy1=>True) λy1=>(.cl (v2) ((fJ (↑(z.g 31).length:Int))/\(z.g 31).length<=60/\xU) (λy2=>y2.g 31=z.g 31/\y2.g 32=z.g 32/\y2.g 20=z.g 20/\y2.i 1=z.i 1/\y2.i 2=z.i 2/\y2.g 35= []) λy2=>(let v8:=((y2.g 20).length<=5000/\ck (y2.g 20)<=1000000/\0<=y2.i 1/\y2.i 1<=1073741824/\y2.i 2=(-1));let v9:=(ow (y2.g 31));let v10:=(ow (y2.g 32));let v11:=((jf (y2.g 20)));(.ct v4 (λy3=>(y3.p 40↔0<v7.length)/\(v7.length<=524288->y3.s 30=zF v7)/\(y3.s 30).length<=524300) λy3=>(.two (y3.p 40) (VO (z.i 21) λy4=>(.cl v11 (v8/\¬b_ (y4.s 10) (y2.g 20)) (λy5=>y5.g 20=y2.g 20/\(y5.i 1=y2.i 1/\y5.i 2=y2.i 2)/\y5.i 30=7) λy5=>(.an (¬(y5.i 30=0)) (.cl ((jf (y5.g 20))) ((((y5.g 20).length<=5000/\ck (y5.g 20)<=1000000/\0<=y5.i 1/\y5.i 1<=1073741824/\y5.i 2=(-1))/\(P5 (y4.s 10))/\(y3.s 30).length<=1000000)/\di (y5.i 1) (y4.s 10) (y3.s 30).length (y5.g 20)) (λy6=>(y6.i 1=y5.i 1/\y6.i 2=y5.i 2)/\y6.i 30=0/\y6.g 20=fZ (y4.s 10) (y3.s 30) (y5.g 20)) λy6=>(.an (¬(y6.i 30≠0)) (.cl ((jf (y6.g 20))) ((((y6.g 20).length<=5000/\ck (y6.g 20)<=1000000/\0<=y6.i 1/\y6.i 1<=1073741824/\y6.i 2=(-1))/\1<=(y4.s 10).length/\(y4.s 10).length<=64)/\b_ (y4.s 10) (y6.g 20)) (λy7=>(y7.i 1=y6.i 1/\y7.i 2=y6.i 2)/\y7.i 30=0/\y7.g 20=mm (y4.s 10) (y6.g 20)) λy7=>(.an (¬(y7.i 30≠0)) (T0 v0 (z.i 21) (z.i 22) (z.i 23) v3 (z.g 24) (ke) λy8=>(Ti (y8.s 10) λy9=>(.cl ((jf (y7.g 20))) ((((y7.g 20).length<=5000/\ck (y7.g 20)<=1000000/\0<=y7.i 1/\y7.i 1<=1073741824/\y7.i 2=(-1))/\(1<=7/\7<=64)/\(y9.s 10).length<=1000000)/\di (y7.i 1) [106,111,117,114,110,97,108] (y9.s 10).length (y7.g 20)) (λy10=>(y10.i 1=y7.i 1/\y10.i 2=y7.i 2)/\y10.i 30=0/\y10.g 20=fZ [106,111,117,114,110,97,108] (y9.s 10) (y7.g 20)) λy10=>(let i4:=(y10.g 20);(.an (¬(y10.i 30≠0)) (VN (jf i4) ((i4.length<=5000/\ck i4<=1000000/\0<=y10.i 1/\y10.i 1<=1073741824/\y10.i 2=(-1))/\1<=7/\7<=64) i4 (y10.i 1) (y10.i 2) λy11=>(.an (¬(y11.i 30=6)) (.an (¬(y11.i 30=6)) (.an (¬(y11.i 30≠0)) (TZ v0 (z.i 21) (z.i 22) (z.i 23) v3 (z.g 24) λy12=>(.ct v4 (λZ'=>Z'.i 31=z.i 21/\Z'.i 32=z.i 22/\Z'.i 33=z.i 23/\hT Z' 400=hT z 200/\Z'.g 34=lq (z.g 24) 0) λZ'=>(.an v9 (.an v10 (.an ((y2.g 31++ [G.node [G.int (Z'.i 31),G.int (Z'.i 32),G.int (Z'.i 33),hT Z' 400,G.node (Z'.g 34)]]).length=(y2.g 31).length+1/\(y2.g 32++ [G.node [hT y12 300]]).length=(y2.g 32).length+1/\(y11.g 20).length=(y11.g 20).length/\(mn)/\True) (.at ((0:Int)=bI (z.i 21) (z.i 22) (z.i 23) v3 (z.g 24)/\(y11.i 1=4194304/\y11.i 2=(-1))/\(bI (z.i 21) (z.i 22) (z.i 23) v3 (z.g 24)=(0:Int)->y2.g 31++ [G.node [G.int (Z'.i 31),G.int (Z'.i 32),G.int (Z'.i 33),hT Z' 400,G.node (Z'.g 34)]]=z.g 31++ [mT (z.i 21) (z.i 22) (z.i 23) v3 (z.g 24)]/\y2.g 32++ [G.node [hT y12 300]]=z.g 32++ [G.node [kz (z.i 21) (z.i 22) (z.i 23) v3 (z.g 24)]]/\qE (z.i 21+1) (y11.g 20)/\ck (y11.g 20)<=ck (z.g 20)+oS (z.g 24))/\(¬bI (z.i 21) (z.i 22) (z.i 23) v3 (z.g 24)=(0:Int)->y2.g 31++ [G.node [G.int (Z'.i 31),G.int (Z'.i 32),G.int (Z'.i 33),hT Z' 400,G.node (Z'.g 34)]]=z.g 31/\y2.g 32++ [G.node [hT y12 300]]=z.g 32/\y11.g 20=z.g 20)))))))))))))))))))))))) (T0 v0 (z.i 21) (z.i 22) (z.i 23) v3 (z.g 24) (ke) λy4=>(Ti (y4.s 10) λy5=>(.cl v11 ((v8/\(1<=7/\7<=64)/\(y5.s 10).length<=1000000)/\di (y2.i 1) [106,111,117,114,110,97,108] (y5.s 10).length (y2.g 20)) (λy6=>(y6.i 1=y2.i 1/\y6.i 2=y2.i 2)/\y6.i 30=0/\y6.g 20=fZ [106,111,117,114,110,97,108] (y5.s 10) (y2.g 20)) λy6=>(.an (¬(y6.i 30≠0)) (VN (jf (y6.g 20)) (((y6.g 20).length<=5000/\ck (y6.g 20)<=1000000/\0<=y6.i 1/\y6.i 1<=1073741824/\y6.i 2=(-1))/\1<=7/\7<=64) (y6.g 20) (y6.i 1) (y6.i 2) λy7=>(.an (¬(y7.i 30=6)) (.an (¬(y7.i 30=6)) (.an (¬(y7.i 30≠0)) (TZ v0 (z.i 21) (z.i 22) (z.i 23) v3 (z.g 24) λy8=>(.ct v4 (λy9=>y9.i 31=z.i 21/\y9.i 32=z.i 22/\y9.i 33=z.i 23/\hT y9 400=hT z 200/\y9.g 34=lq (z.g 24) 0) λy9=>(.an v9 (.an v10 (.an ((y2.g 31++ [G.node [G.int (y9.i 31),G.int (y9.i 32),G.int (y9.i 33),hT y9 400,G.node (y9.g 34)]]).length=(y2.g 31).length+1/\(y2.g 32++ [G.node [hT y8 300]]).length=(y2.g 32).length+1/\(y7.g 20).length=(y7.g 20).length/\(mn)/\True) (.at ((0:Int)=bI (z.i 21) (z.i 22) (z.i 23) v3 (z.g 24)/\(y7.i 1=4194304/\y7.i 2=(-1))/\(bI (z.i 21) (z.i 22) (z.i 23) v3 (z.g 24)=(0:Int)->y2.g 31++ [G.node [G.int (y9.i 31),G.int (y9.i 32),G.int (y9.i 33),hT y9 400,G.node (y9.g 34)]]=z.g 31++ [mT (z.i 21) (z.i 22) (z.i 23) v3 (z.g 24)]/\y2.g 32++ [G.node [hT y8 300]]=z.g 32++ [G.node [kz (z.i 21) (z.i 22) (z.i 23) v3 (z.g 24)]]/\qE (z.i 21+1) (y7.g 20)/\ck (y7.g 20)<=ck (z.g 20)+oS (z.g 24))/\(¬bI (z.i 21) (z.i 22) (z.i 23) v3 (z.g 24)=(0:Int)->y2.g 31++ [G.node [G.int (y9.i 31),G.int (y9.i 32),G.int (y9.i 33),hT y9 400,G.node (y9.g 34)]]=z.g 31/\y2.g 32++ [G.node [hT y8 300]]=z.g 32/\y7.g 20=z.g 20))))))))))))))))))))))))))) by
 dsimp only [P8,bk,hs,Ze,Kd,CL,tC] at hA;have:=@oP (z.g 24) (z.i 21) (z.i 22) (z.i 23) (hT z 200);have:=@HK (z.g 24);have:=@HE (z.g 24);have b8:(false=true)=False:=by simp
 have d2:=λh h0 h1 hr=>@TU (z.i 21) (z.g 20) h h0 h1 (zF (f_ (z.g 24) 0)) (zF (mX False (z.i 21) (z.i 22) (z.i 23) (hT z 200) (z.g 24))) hr;have d1:=λh h0 h1 hr=>@TV (z.i 21) (z.g 20) h h0 h1 (zF (mX False (z.i 21) (z.i 22) (z.i 23) (hT z 200) (z.g 24))) hr;have:=yP (z.i 21);have:=P6 (z.i 21) (z.i 22) (z.i 23) (hT z 200) (z.g 24);have:=dH (f_ (z.g 24) 0);have:=dH (mX False (z.i 21) (z.i 22) (z.i 23) (hT z 200) (z.g 24));unfold fD at d1 d2;conv=>zeta
 repeat' with_reducible first|intro _|apply bV|apply bW|apply bX|apply cy|apply cj
 all_goals first|omega|grind [ao,am,ak,aP,aQ,aR,aS,aT,aU,aV,aW,aX,az,List.append_assoc,dH]
abbrev Qi(a b c:List G)(d:Prop):=a.length=a.length/\b.length=b.length/\pR lz c=pR lz c/\d/\True
def Qj:bN 60 0 H8:=bM 82 779735233060740043664323263096199472354386684581 eN lN λp z hA=>show Fm.den (let v2:=(aK (p.g 24) (z.i 9));let v4:=(aa v2 13);let v6:=((↑(z.g 31).length:Int)<=gI v4);let v7:=(gI v4<0);let v8:=(dM (p.g 24)/\(dU (z.i 9) (p.g 24))/\(p.g 24).length<=1000000/\(z.g 31).length<=1000000);let v9:=(gL (aa (aK (z.g 31) (gI v4)) 4));let v10:=((-9223372036854775808)<=z.i 9+1/\z.i 9+1<=9223372036854775807);let v11:=(↑(p.g 24).length:Int);let v5:=((z.g 31).length=(z.g 31).length/\(z.g 32).length=(z.g 32).length/\pR lz (z.g 20)=pR lz (z.g 20)/\(mn)/\v11=v11/\p.g 24=p.g 24/\True);let i4:=((0:Int)<=gI v4/\gI v4 < ↑(z.g 31).length);let i7:=(aa v2 14);let v3:=(gI i7<0);let j6:=(eE (gI v4) (z.g 31));let v0:Fm:=(.an v10 (.an v5 (.at (v8/\(v11-(z.i 9+1)).toNat<(v11-z.i 9).toNat/\∀(y:Sy),y.g 31=z.g 31/\y.g 32=z.g 32/\y.g 20=z.g 20/\y.i 1=z.i 1/\y.g 2=z.g 2/\y.g 36=z.g 36->y.g 31=z.g 31/\y.g 32=z.g 32/\y.g 20=z.g 20/\y.i 1=z.i 1/\y.g 2=z.g 2/\y.g 36=z.g 36))));let v1:Fm:=(.two (gI (aa v2 0)=4) v0 v0);(.two (dq (z.i 9) (p.g 24)) (.an (cr (z.i 9) (p.g 24)) (.two v7 (.an v7 (.an v7 (.an v7 (.an v7 (.an v7 (.an v7 (.an v7 (.an v7 v1)))))))) (.an (¬v7) (.an (¬v7) (.an (¬v7) (.an (¬v7) (.an (¬v7) (.an (¬v7) (.an (¬v7) (.an (¬v7) (.two v6 (.an v6 (.an v6 (.an v6 v1))) (.an (¬v6) (.an (¬v6) (.an (¬v6) (.two v3 (.an v3 (.an v3 (.an v3 (.an v3 (.an v3 (.an v3 (.an v3 (.an v3 (.an v3 (.an v3 (.an v3 (.an v3 (.an v3 v1))))))))))))) (.an (¬v3) (.an (¬v3) (.an (¬v3) (.an (¬v3) (.an (¬v3) (.an (¬v3) (.an (¬v3) (.an (¬v3) (.an i4 (.an (¬v3) (.an (¬v3) (.an j6 (.an (¬v3) (.an (¬v3) (.an (¬v3) (.two ((↑v9.length:Int)<=gI i7) v1 (.an i4 (.an j6 (.an ((0:Int)<=gI i7/\gI i7<(↑v9.length:Int)) (.two (gI (aa v2 0)=4) (.two (gI (aZ (aK v9 (gI i7)))=2) (.an v10 (.an v5 (.at (v8/\(v11-(z.i 9+1)).toNat<(v11-z.i 9).toNat/\∀(y:Sy),y.g 31=z.g 31/\y.g 32=z.g 32/\y.g 20=z.g 20/\y.i 1=z.i 1/\y.g 2=z.g 2/\y.g 36=dk 1 (z.g 36) [gI v4,gI i7] [G.int (pI (qp))]->y.g 31=z.g 31/\y.g 32=z.g 32/\y.g 20=z.g 20/\y.i 1=z.i 1/\y.g 2=z.g 2/\y.g 36=z.g 36)))) v0) v0))))))))))))))))))))))))))))))))))) (.an (Qi (z.g 31) (z.g 32) (z.g 20) (mn)) (.at (z.g 31=z.g 31/\z.g 32=z.g 32/\z.g 20=z.g 20/\z.i 1=z.i 1/\z.g 2=z.g 2/\z.g 36=z.g 36))))) by
 dsimp only [H8,VM] at hA;have:=J7 p z;conv=>zeta
 repeat' with_reducible first|intro _|apply bV|apply bW|apply bX|apply cy|apply cj
 all_goals first|omega|grind [ao,am,ak,aP,aQ,aR,aS,aT,aU,aV,aW,aX,az,List.append_assoc,dH]
abbrev VP(a:Prop)(b:List G):=Fm.cl (a) (jk [106,111,117,114,110,97,108] b/\1<=7/\7<=64) (λy=>y.g 20=b/\y.i 30=0)
abbrev VS(a:List Nat):=Fm.ct (a.length<=524288) (λy=>y.i 50=0/\y.s 10=zF a)
def T2:bn 21 Qb:=bA 115 401421777011331167478751233781421460905177276836459194589713730625521 (ai tE (ai o_own (ai Pg (ai TQ (ai Ee (ai JG (ai ED (ai wP (ai H0 (ai SC (ai Vc eN))))))))))) (aF (ptm:=[(68,.c (.v 7 24))]) PB (aF (ptm:=[(30,.c (.v 7 24))]) PC (aF (ptm:=[(42,.c (.v 7 24))]) Qj lN))) λz hA=>show Fm.den (let zw:=(0:Int)<=0;let v7:=(Qi (z.g 31) (z.g 32) (z.g 20) (mn));let v8:=(¬(z.i 21≠ ↑(z.g 31).length));let v9:=(↑(z.g 32).length:Int);let v10:=(↑(z.g 31).length:Int);let v3:=(0<v10);let v11:=(hT z 200);let v2:=(¬ky v11 (hX (aZ (aK (z.g 32) (v9-1)))));let v4:=(bI (z.i 21) (z.i 22) (z.i 23) v11 (z.g 24)=(0:Int)->z.g 31=z.g 31++ [mT (z.i 21) (z.i 22) (z.i 23) v11 (z.g 24)]/\z.g 32=z.g 32++ [G.node [kz (z.i 21) (z.i 22) (z.i 23) v11 (z.g 24)]]/\wS (z.i 21+1) (z.g 20)/\fj (z.g 20)<=fj (z.g 20)+oS (z.g 24)/\z.i 1=z.i 1+1/\dV (z.i 1) (z.g 2));let v5:=(¬bI (z.i 21) (z.i 22) (z.i 23) v11 (z.g 24)=(0:Int)->z.g 31=z.g 31/\z.g 32=z.g 32/\z.g 20=z.g 20/\z.i 1=z.i 1/\z.g 2=z.g 2);let v6:=(¬ky v11 hZ);let i4:=(ow (z.g 31));let i7:=(ow (z.g 32));let j6:=(↑(z.g 24).length:Int);let o8:=((qD (z.g 20)));let z':=(0<=z.i 1/\z.i 1<1000000);let v1:Fm:=(.an v7 (.at ((1:Int)=bI (z.i 21) (z.i 22) (z.i 23) v11 (z.g 24)/\v4/\v5)));let v0:Fm:=(JF (z.g 24) v11 (z.i 21) (z.i 22) (z.i 23) λy0=>(.two (y0.i 50≠0) (.an (y0.i 50≠0) (.an v7 (.at (y0.i 50=bI (z.i 21) (z.i 22) (z.i 23) v11 (z.g 24)/\v4/\v5)))) (.cl ((J3 j6 (z.g 24))) (Cw (z.g 24) (zw/\0<=j6)) (λy1=>True) λy1=>(.ct ((qn (z.g 24))/\Pm (z.g 24)) (λy2=>y2.i 31=z.i 21/\y2.i 32=z.i 22/\y2.i 33=z.i 23/\hT y2 400=hT z 200/\y2.g 34=z.g 24) λy2=>(let j8:=(z.g 31++ [G.node [G.int (y2.i 31),G.int (y2.i 32),G.int (y2.i 33),hT y2 400,G.node (y2.g 34)]]);let v19:=(↑(y2.g 34).length:Int);let v20:=(hT y2 400);let B':=(qm (y2.g 34)/\HOk v20/\(y2.g 34).length<=1000000/\y2.i 31<9223372036854775808/\y2.i 32<9223372036854775808/\y2.i 33<9223372036854775808);let v21:=(dM (y2.g 34)/\(zw/\0<=v19)/\(y2.g 34).length<=1000000/\j8.length<=1000000);(.cl ((J3 v19 (y2.g 34))) (Cw (y2.g 34) (zw/\0<=v19)) (λy3=>True) λy3=>(.ct (qn (y2.g 34)) (λy4=>(y4.p 40↔0<(f_ (y2.g 34) 0).length)/\y4.s 30=f_ (y2.g 34) 0) λy4=>(.two (y4.p 40) (VO (y2.i 31) λy5=>(.cl o8 (¬jk (y5.s 10) (z.g 20)/\(P5 (y5.s 10))/\(y4.s 30).length<=524288/\(↑(fj (z.g 20)):Int)+(↑(y4.s 30).length:Int)+12<=4194304/\(z.g 20).length<4000) (λy6=>y6.g 20=gN (y5.s 10) ((y4.s 30).length+12) (z.g 20)/\y6.i 30=0) λy6=>(T0 B' (y2.i 31) (y2.i 32) (y2.i 33) v20 (y2.g 34) (ke) λy7=>(VS (y7.s 10) λy8=>(.an (y6.i 30=0) (.an (y8.i 50=0) (.cl ((qD (y6.g 20))) ((1<=7/\7<=64)/\1<=(y8.s 10).length/\(↑(fj (y6.g 20)):Int)+(↑(y8.s 10).length:Int)<=4194304/\(y6.g 20).length<4000) (λy9=>y9.g 20=gN [106,111,117,114,110,97,108] (y8.s 10).length (y6.g 20)/\y9.i 30=0) λy9=>(.an (¬(y9.i 30=6)) (.an (y9.i 30=0) (VP (qD (y9.g 20)) (y9.g 20) λy10=>(.an (¬(y10.i 30≠0)) (TZ B' (y2.i 31) (y2.i 32) (y2.i 33) v20 (y2.g 34) λy11=>(.an i4 (.an i7 (Xl (hT y11 300) z' (z.i 1) (z.g 2) λy12=>(.cl ((j8.length=(z.g 31).length+1/\(z.g 32++ [G.node [hT y11 300]]).length=(z.g 32).length+1/\pR lz (y10.g 20)=pR lz (y10.g 20)/\(y10.i 30≠0↔False)/\v19=v19/\y2.g 34=y2.g 34/\True)) v21 (λZ'=>Z'.g 31=z.g 31++ [G.node [G.int (y2.i 31),G.int (y2.i 32),G.int (y2.i 33),hT y2 400,G.node (y2.g 34)]]/\Z'.g 32=z.g 32++ [G.node [hT y11 300]]/\Z'.g 20=y10.g 20/\Z'.i 1=y12.i 1/\Z'.g 2=y12.g 2/\Z'.g 36=z.g 36) λZ'=>(.an (Qi (Z'.g 31) (Z'.g 32) (Z'.g 20) (mn)) (.at ((0:Int)=bI (z.i 21) (z.i 22) (z.i 23) v11 (z.g 24)/\(bI (z.i 21) (z.i 22) (z.i 23) v11 (z.g 24)=(0:Int)->Z'.g 31=z.g 31++ [mT (z.i 21) (z.i 22) (z.i 23) v11 (z.g 24)]/\Z'.g 32=z.g 32++ [G.node [kz (z.i 21) (z.i 22) (z.i 23) v11 (z.g 24)]]/\wS (z.i 21+1) (Z'.g 20)/\fj (Z'.g 20)<=fj (z.g 20)+oS (z.g 24)/\Z'.i 1=z.i 1+1/\dV (Z'.i 1) (Z'.g 2))/\(¬bI (z.i 21) (z.i 22) (z.i 23) v11 (z.g 24)=(0:Int)->Z'.g 31=z.g 31/\Z'.g 32=z.g 32/\Z'.g 20=z.g 20/\Z'.i 1=z.i 1/\Z'.g 2=z.g 2)))))))))))))))))))) (T0 B' (y2.i 31) (y2.i 32) (y2.i 33) v20 (y2.g 34) (ke) λy5=>(VS (y5.s 10) λy6=>(.an (y6.i 50=0) (.cl o8 ((1<=7/\7<=64)/\1<=(y6.s 10).length/\(↑(fj (z.g 20)):Int)+(↑(y6.s 10).length:Int)<=4194304/\(z.g 20).length<4000) (λy7=>y7.g 20=gN [106,111,117,114,110,97,108] (y6.s 10).length (z.g 20)/\y7.i 30=0) λy7=>(.an (¬(y7.i 30=6)) (.an (y7.i 30=0) (VP (qD (y7.g 20)) (y7.g 20) λy8=>(.an (¬(y8.i 30≠0)) (TZ B' (y2.i 31) (y2.i 32) (y2.i 33) v20 (y2.g 34) λy9=>(.an i4 (.an i7 (Xl (hT y9 300) z' (z.i 1) (z.g 2) λy10=>(.cl ((j8.length=(z.g 31).length+1/\(z.g 32++ [G.node [hT y9 300]]).length=(z.g 32).length+1/\pR lz (y8.g 20)=pR lz (y8.g 20)/\(y8.i 30≠0↔False)/\v19=v19/\y2.g 34=y2.g 34/\True)) v21 (λy11=>y11.g 31=z.g 31++ [G.node [G.int (y2.i 31),G.int (y2.i 32),G.int (y2.i 33),hT y2 400,G.node (y2.g 34)]]/\y11.g 32=z.g 32++ [G.node [hT y9 300]]/\y11.g 20=y8.g 20/\y11.i 1=y10.i 1/\y11.g 2=y10.g 2/\y11.g 36=z.g 36) λy11=>(.an (Qi (y11.g 31) (y11.g 32) (y11.g 20) (mn)) (.at ((0:Int)=bI (z.i 21) (z.i 22) (z.i 23) v11 (z.g 24)/\(bI (z.i 21) (z.i 22) (z.i 23) v11 (z.g 24)=(0:Int)->y11.g 31=z.g 31++ [mT (z.i 21) (z.i 22) (z.i 23) v11 (z.g 24)]/\y11.g 32=z.g 32++ [G.node [kz (z.i 21) (z.i 22) (z.i 23) v11 (z.g 24)]]/\wS (z.i 21+1) (y11.g 20)/\fj (y11.g 20)<=fj (z.g 20)+oS (z.g 24)/\y11.i 1=z.i 1+1/\dV (y11.i 1) (y11.g 2))/\(¬bI (z.i 21) (z.i 22) (z.i 23) v11 (z.g 24)=(0:Int)->y11.g 31=z.g 31/\y11.g 32=z.g 32/\y11.g 20=z.g 20/\y11.i 1=z.i 1/\y11.g 2=z.g 2)))))))))))))))))))))))));(.two (False) (.an v7 (.at ((20:Int)=bI (z.i 21) (z.i 22) (z.i 23) v11 (z.g 24)/\v4/\v5))) (.an v8 (.an v8 (.an v8 (.an v8 (.two (v9=0) (.an v8 (.an v8 (.two v6 (.an v6 (.an v6 (.an v6 (.an v6 (.an v6 (.an v6 (.an v6 (.an v6 v1)))))))) (.an (¬v6) (.an (¬v6) (.an (¬v6) (.an (¬v6) (.an (¬v6) (.an (¬v6) (.an (¬v3) (.an (¬v3) (.an (¬v3) (.an (¬v3) (.an (¬v3) (.an (¬v3) (.an (¬v3) (.an (¬v3) (.an (¬v3) (.an (¬v3) (.an (¬v3) (.an (¬v3) (.an (¬v3) (.an (¬v3) (.an (¬v3) (.an (¬v3) (.an (¬v6) (.an (¬v3) (.an (¬v6) v0)))))))))))))))))))))))))))) (.an ((-9223372036854775808)<=v9-1/\v9-1<=9223372036854775807) (.an (uB v9) (.an (eE (v9-1) (z.g 32)) (.an v8 (.an v8 (.two v2 (.an v2 (.an v2 (.an v2 (.an v2 (.an v2 (.an v2 (.an v2 (.an v2 v1)))))))) (.an (¬v2) (.an (¬v2) (.an (¬v2) (.an (¬v2) (.an (¬v2) (.an (¬v2) (.an v3 (.an v3 (.an v3 (.an v3 (.an v3 (.an v3 (.an v3 (.an v3 (.an v3 (.an v3 (.an v3 (.an v3 (.an ((-9223372036854775808)<=v10-1/\v10-1<=9223372036854775807) (.an v3 (.an (uB v10) (.an v3 (.an v3 (.an (eE (v10-1) (z.g 31)) (.an v3 (.an (¬v2) (.an v3 (.an (¬v2) (.two (z.i 22<gI (aa (aK (z.g 31) (v10-1)) 1)) v1 v0)))))))))))))))))))))))))))))))))))))))))) by
 dsimp only [Qb,bk,hs,VM,Kd,CL,tC] at hA;have a1:=@HW (z.g 32);have a2:=@PZ (z.g 32);have:=hv22 z;have a1:=@zp (z.g 32);have a2:=@VJ (z.g 31) (z.i 22);have:=@oP (z.g 24) (z.i 21) (z.i 22) (z.i 23) (hT z 200);have:=@HK (z.g 24);have b8:(false=true)=False:=by simp
 have d2:=λh h0 h1=>@TX (z.i 21) (z.g 20) h h0 h1 ((f_ (z.g 24) 0).length+12) ((mX False (z.i 21) (z.i 22) (z.i 23) (hT z 200) (z.g 24)).length+12);have d1:=λh h0 h1=>@TY (z.i 21) (z.g 20) h h0 h1 ((mX False (z.i 21) (z.i 22) (z.i 23) (hT z 200) (z.g 24)).length+12);have:=yP (z.i 21);have:=P6 (z.i 21) (z.i 22) (z.i 23) (hT z 200) (z.g 24);have:=dH (mX False (z.i 21) (z.i 22) (z.i 23) (hT z 200) (z.g 24));have:=λn' o7 ht hh hx=>@Yg (z.i 1) n' (z.g 2) o7 (kz (z.i 21) (z.i 22) (z.i 23) (hT z 200) (z.g 24)) ht hh hx;have:=mQ (z.i 21) (z.i 22) (z.i 23) (hT z 200) (z.g 24);unfold fD at d1 d2;conv=>zeta
 repeat' with_reducible first|intro _|apply bV|apply bW|apply bX|apply cy|apply cj
 all_goals first|omega|grind [ao,am,ak,aP,aQ,aR,aS,aT,aU,aV,aW,aX,az,List.append_assoc,dH]
open Go.Sym Go.Maps
noncomputable section
def plC(room lf:Int):ABlk:=.cells (sq [.sI .i64 room,.map (base+1),.bool false,.sI .i64 lf] 0 .leaf) 0 0 4 0 0 true 101
def zH(room lf:Int):T ABlk:=(((T.leaf:T ABlk).set base (plC room lf)).set (base+1) (.mapo [] 0))
def plL(room lf:Int):Lf:=λa σ _=>match a with | .nils=>.at (σ.h.get base=(zH room lf).get base/\σ.h.get (base+1)=(zH room lf).get (base+1))|_=>.ff
def plF(room lf:Int):Fm:=CI (nu Tryz.prog (xj Tryz.prog (nQ [] [] []) 1000) 88 [.ptr base 0 0] λa=>.ret a) (Go.Sym.start (zH room lf) (base+64)) (plL room lf) .nil
def plF_t(room lf:Int):plF room lf= .at ((zH room lf).get base=(zH room lf).get base/\(zH room lf).get (base+1)=(zH room lf).get (base+1)):=by kernel_rfl
def Yj(room lf:Int):∃σf,(∀K,run (nu Tryz.prog (xj Tryz.prog (nQ [] [] []) 1000) 88 [.ptr base 0 0] λa=>.ret a) (Go.Sym.start (zH room lf) (base+64)) K=K .nils σf)/\σf.h.get base=(zH room lf).get base/\σf.h.get (base+1)=(zH room lf).get (base+1):=by
 have hd:(plF room lf).den:=by rw[plF_t];exact⟨rfl,rfl⟩
 obtain⟨a,σf,e,hn,hl⟩:=Dq _ _ _ _ hd;unfold plL at hl;split at hl
 ·exact⟨σf,e,hl⟩
 ·exact hl.elim
def Qk(room lf:Int):(zH room lf).get base=some (plC room lf):=by unfold zH;rw[T.get_set_ne _ (by decide),T.get_set_same _ _ _ (by decide)]
def H9(room lf:Int):(zH room lf).get (base+1)=some (.mapo [] 0):=by unfold zH;rw[T.get_set_same _ _ _ (by decide)]
def H_{room lf:Int}{b:Nat}{x:ABlk}(h:(zH room lf).get b=some x):b=base/\x=plC room lf∨b=base+1/\x= .mapo [] 0:=by
 by_cases e1:b=base+1
 ·subst e1;rw[H9] at h;exact .inr ⟨rfl,(Option.some.inj h).symm⟩
 ·by_cases e0:b=base
  ·subst e0;rw[Qk] at h;exact .inl ⟨rfl,(Option.some.inj h).symm⟩
  ·unfold zH at h;rw[T.get_set_ne _ e1,T.get_set_ne _ e0] at h;simp [T.get] at h
def Zg(d m:Nat):Rho:={at_:=λb g=>if b=base/\g=0 then some ⟨d,0,4⟩ else if b=base+1/\g=0 then some ⟨m,0,0⟩ else none,val:=λ_=>default,own:=λx=>x=m,frz:=λ_=>none,frz0:=λ_=>none}
def VT(d m:Nat):(Zg d m).at_ base 0=some ⟨d,0,4⟩:=by show(if base=base/\0=0 then some (⟨d,0,4⟩:Home) else if base=base+1/\0=0 then some ⟨m,0,0⟩ else none)=_;exact if_pos ⟨rfl,rfl⟩
def Ia(d m:Nat):(Zg d m).at_ (base+1) 0=some ⟨m,0,0⟩:=by show(if base+1=base/\0=0 then some (⟨d,0,4⟩:Home) else if base+1=base+1/\0=0 then some ⟨m,0,0⟩ else none)=_;rw[if_neg (by omega),if_pos ⟨rfl,rfl⟩]
def rz{d m b g:Nat}{h:Home}(hh:(Zg d m).at_ b g=some h):(b=base/\g=0/\h=⟨d,0,4⟩)∨(b=base+1/\g=0/\h=⟨m,0,0⟩):=by
 have hh:(if b=base/\g=0 then some (⟨d,0,4⟩:Home) else if b=base+1/\g=0 then some ⟨m,0,0⟩ else none)=some h:=hh;split at hh
 ·rename_i hc;injection hh with hh;exact .inl ⟨hc.1,hc.2,hh.symm⟩
 ·split at hh
  ·rename_i hc;injection hh with hh;exact .inr ⟨hc.1,hc.2,hh.symm⟩
  ·cases hh
def T3{d m:Nat}{room lf:Int}{w:World}(hd:w.heap[d]? =some (.cells #[.int .i64 room,.map (some m),.bool false,.int .i64 lf] 101))(hm:w.heap[m]? =some (.map #[] 0)):Go.Sym.Good w (Zg d m) (zH room lf) w:=by
 have hdm:d≠m:=λe=>by rw[e,hm] at hd;cases hd
 have hdl:=(Array.getElem?_eq_some_iff.1 hd).1;have hml:=(Array.getElem?_eq_some_iff.1 hm).1;refine⟨⟨Kept.refl _ _ _,λb x hx=>?_,λb g h hh=>?_,λb g h b' g' h' h1 h2 e=>?_,λb g h x hh hx=>?_,λb arr ty hf=>(by cases hf),λb x hf _=>(by cases hf),λb k I l hx=>?_⟩,λx hx=>?_⟩
 ·rcases H_ hx with⟨rfl,rfl⟩|⟨rfl,rfl⟩
  ·have ae3:∀o x,(sq [.sI .i64 room,.map (base+1),.bool false,.sI .i64 lf] 0 .leaf).get o=some x->∃a,x= .mk 0 a/\o<4/\ [AV.sI .i64 room,.map (base+1),.bool false,.sI .i64 lf][o]? =some a:=λo x hx=>by
    unfold sq at hx;simp only [sq] at hx;by_cases h3:o=3
    ·subst h3;rw[T.get_set_same _ _ _ (by decide)] at hx;injection hx with hx;exact⟨_,hx.symm,by decide,rfl⟩
    by_cases h2:o=2
    ·subst h2;rw[T.get_set_ne _ (by decide),T.get_set_same _ _ _ (by decide)] at hx;injection hx with hx;exact⟨_,hx.symm,by decide,rfl⟩
    by_cases h1:o=1
    ·subst h1;rw[T.get_set_ne _ (by decide),T.get_set_ne _ (by decide),T.get_set_same _ _ _ (by decide)] at hx;injection hx with hx;exact⟨_,hx.symm,by decide,rfl⟩
    by_cases h0:o=0
    ·subst h0;rw[T.get_set_ne _ (by decide),T.get_set_ne _ (by decide),T.get_set_ne _ (by decide),T.get_set_same _ _ _ (by decide)] at hx;injection hx with hx;exact⟨_,hx.symm,by decide,rfl⟩
    rw[T.get_set_ne _ h3,T.get_set_ne _ h2,T.get_set_ne _ h1,T.get_set_ne _ h0] at hx;simp [T.get] at hx
   refine⟨λo x hx=>?_,λg hg=>⟨⟨d,0,4⟩, ?_,(λh=>by cases h),(λ_ h=>absurd h (by decide)),_,_,hd,rfl,(λh=>by cases h),λo tag a ho ht=>⟨aap _, ?_⟩⟩⟩
   ·obtain⟨a,rfl,h4,_⟩:=ae3 o x hx;exact⟨aap _,h4,aaa _⟩
   ·obtain rfl:g=0:=by omega
    exact VT d m
   ·obtain⟨a',e,h4,hl⟩:=ae3 o _ ho;injection e with _ e;subst e;have hL:LR (Zg d m) [AV.sI .i64 room,.map (base+1),.bool false,.sI .i64 lf] [.int .i64 room,.map (some m),.bool false,.int .i64 lf]:=
     LR.cons (.sI _ _) (LR.cons (.map _ _ (Ia d m)) (LR.cons (.bool _) (LR.cons (.sI _ _) (LR.nil _))))
    obtain⟨v,hv,hr⟩:=hL.get hl;exact⟨v,by show #[Value.int .i64 room,.map (some m),.bool false,.int .i64 lf][o]? =_;simpa using hv,hr⟩
  ·exact⟨⟨m,0,0⟩,Ia d m,.inr rfl, #[],hm,rfl,λi k v n e hi=>by simp at hi⟩
 ·rcases rz hh with⟨rfl,rfl,rfl⟩|⟨rfl,rfl,rfl⟩
  ·exact⟨hdl,_,Qk _ _⟩
  ·exact⟨hml,_,H9 _ _⟩
 ·rcases rz h1 with⟨rfl,rfl,rfl⟩|⟨rfl,rfl,rfl⟩ <;> rcases rz h2 with⟨rfl,rfl,rfl⟩|⟨rfl,rfl,rfl⟩
  ·exact⟨rfl,rfl⟩
  ·exact absurd e hdm
  ·exact absurd e.symm hdm
  ·exact⟨rfl,rfl⟩
 ·rcases rz hh with⟨rfl,rfl,rfl⟩|⟨rfl,rfl,rfl⟩
  ·rw[Qk] at hx;injection hx with hx;subst hx;exact aap _
  ·rw[H9] at hx;injection hx with hx;subst hx;trivial
 ·rcases H_ hx with⟨_,e⟩|⟨_,e⟩ <;> cases e
 ·have hx:x=m:=hx;exact⟨base+1,0,⟨m,0,0⟩,by decide,Ia d m,hx.symm⟩
def EE:FSpec:=⟨[.c (.p 0)],Eu,λz=>z.g 20= [],λ_=>.one (.c .nz),λ_=>Eu,λz y=>y.g 20= [],none⟩
def T4:Ok Tryz.prog 88 EE:=by
 refine RH (k:=1) (C:=pR lz) (S:=EE) (al:=[]) (lR lz) (λz=>[]) (λ_=>.nils) (λz=>[(20,.g [])]) rfl rfl rfl (λz h=>rfl) (λz=>⟨_,rfl,⟨rfl,trivial⟩,rfl⟩) (λargs w=>Tryz.call88 args w) ?_;intro z hz w ρ d fp vs hfz c8 I' hC;have hz:z.g 20= []:=hz;rw[hz] at hC;obtain rfl:=LR.nil_inv (show LR ρ [] vs from I');have hC0:=hC;unfold pR at hC;obtain⟨m,lf,L,es,h1,_,_,h4,_,h6,_,_,h9⟩:=hC;have hL:L= []:=List.map_eq_nil_iff.1 h4.symm;subst hL;have hm:m∈d::fp:=by rw[h6];exact aaj _ aan
 have hb:=h9 rfl;obtain⟨σf,c9,e0,e1⟩:=Yj lz lf;have hG:=T3 h1 hb;have hM:TabOk Tryz.prog (nQ [] [] []):=nR (λm hm=>by cases hm) (λe he=>by cases he) (λe he=>by cases he);have hc:=iR (qR Tryz.prog hM w 1000).1 88 [.ptr base 0 0] [.pointer (some ⟨d,0,none⟩)] (λa=>.ret a) (Go.Sym.start (zH lz lf) (base+64)) (λa s=>dP (a= .nils/\s=σf)) (Zg d m) w
  (λe w'=>∃v fp',e= .returned v/\pR lz [] d fp' w'/\ObStep d fp fp' w w'/\∀ρ',VR ρ' .nils v) (nG (by decide) (by decide)) hG (LR.cons (.ptr _ _ _ _ (VT d m) (aaa _)) (LR.nil _)) (by rw[c9];exact fE.2 ⟨rfl,rfl⟩) (λav v a9 ρ' w' q1 q2 q3 q4 q5=>by
   obtain⟨a1,a2⟩:=fE.1 (show dP (av= .nils/\a9=σf)=true from q1);subst a1;subst a2;have hbm:=q3.blk _ _ (e1.trans (H9 _ _));obtain⟨h,q9,_,R',J',hse,_⟩:=hbm;rw[q4.at_ _ _ _ (Ia d m)] at q9;injection q9 with q9;subst q9;have at3:R'= #[]:=Array.eq_empty_of_size_eq_zero (by simpa using hse);subst at3;have i5:∀x,ρ'.own x↔x=m:=λx=>by rw[q4.own];exact Iff.rfl
   have hk:=q3.below;have hold:∀k,k<w.heap.size->k≠m->w'.heap[k]? =w.heap[k]? :=λk hk1 m8=>hk.block k hk1 (λho=>m8 ((i5 k).1 ho));have hdm:d≠m:=λe=>by rw[e,hb] at h1;cases h1
   have F':∀x∈d::fp,w'.heap[x]? =w.heap[x]? :=λx hx=>by
    by_cases e:x=m
    ·subst e;rw[hb];exact J'
    ·exact hold x (c8 x hx) e
   refine⟨v,fp,rfl,lR lz [] d fp w w' F' hC0,⟨hk.os,hk.tape,hk.output,hk.size,λk hk1 s8=>hold k hk1 (λe=>s8 (e▸hm)),λx hx=>.inl hx⟩,λav1=>?_⟩;cases q5;exact .nils)
 exact callsIn_wide.1 hc.2
end
def T5:bn 88 EE:=T4
noncomputable section
abbrev e_(l:List G)(i:Int):List G:=gL (aa (aq l i.toNat) 0)
def iG(l:List G):Prop:=(∀i:Int,0<=i->i<l.length->kx (e_ l i))/\m_ l 0<=1000/\l.length<=30
def VU{l:List G}{i:Int}(h:iG l)(h0:0<=i)(hi:i<l.length):kx (e_ l i):=h.1 i h0 hi
def t_{l:List G}(h:iG l):l.length<=30/\m_ l 0<=1000:=⟨h.2.2,h.2.1⟩
def T6{l:List G}{i:Int}(h0:0<=i)(h:i<l.length):m_ l i=2+jn 1002 (e_ l i) 0+m_ l (i+1):=gH h0 h
def Ql(v:G)(vs:List G):jn 1002 (v::vs) 0=oR 1002 v+jn 1002 vs 0:=by unfold jn;simp
def CD(d:Prop)(e:G)(es:List G):im d (e::es) 0=zC d e++im d es 0:=by unfold im;simp
def T7{k:Int}{v:G}(hi:wh (lW k v))(he:mL (lW k v)=0)(hv:tl 16 (gI (aa v 1)) (gS (aa v 3)) (gL (aa v 4)) (gL (aa v 5))):(zC True (lW k v)).length<=147 * oR 1002 v:=by
 obtain⟨h1,h2⟩:=dF he;have hn:=ld h1;unfold wh ql at hi;have hl:(ui (lW k v)).length<=93+(gS (aa (lW k v) 1)).length:=il (kd:=gI (aa (lW k v) 0)) (tx:=gS (aa (lW k v) 1)) (tb:=gI (aa (lW k v) 2)) (dc:=gI (aa (lW k v) 3)) (vr:=gI (aa (lW k v) 4)) (h:=hX (aa (lW k v) 11)) (ab:=gI (aa (lW k v) 13)) (ae:=gI (aa (lW k v) 14)) hi.2.1.2 hi.2.2.1.2 hi.2.2.2.1.2 hi.2.2.2.2.1.2 hi.2.2.2.2.2.1.2 hi.1 hi.2.2.2.2.2.2.2.2;have e0:gI (aa (lW k v) 0)=2:=by rw[lu];rfl
 have e12:¬gI (aa (lW k v) 12)=1:=by rw[lu];show ¬(0:Int)=1;decide
 have e1:(gS (aa (lW k v) 1)).length=0:=by rw[lu];rfl
 have hc:=ye (h2 ⟨e0,e12⟩);have hen:kr (lW k v)=eI 16 (gI (aa v 0)) (gI (aa v 1)) (gI (aa v 2)) (gS (aa v 3)) (gL (aa v 4)) (gL (aa v 5)):=by rw[lu];rfl
 have hch:gf 16 (gI (aa v 0)) (gI (aa v 1)) (gI (aa v 2)) (gS (aa v 3)) (gL (aa v 4)) (gL (aa v 5))=0:=by have:=hc.1;rw[lu] at this;exact this
 have hlen:(kr (lW k v)).length<=x_ 16 (gS (aa v 3)) (gL (aa v 5)):=by rw[hen];have:=oh 16 v ((gC 16 _).symm.trans hch) ((mK 16 _)▸hv);rw[←pB, ←pC] at this;exact this
 have hw:lL 16 v+50<=93 * oR 1002 v:=(Ep 16 1001 v (by omega)).2 (by omega);rw[pC] at hlen;have hu:=fB (n:=(kr (lW k v)).length) (by have:(kr (lW k v)).length<=65536:=hc.2;omega);rw[lj e0 (by rintro(h|h);exact e12 h;exact h trivial),aah,aah,aah];have:([1]:List Nat).length=1:=rfl;have hp:1<=oR 1002 v:=oK 1001 v;omega
def CE:∀(vs:List G) (k:Int),(∀i:Nat,i<vs.length->wh (lW (k+i) (aq vs i))/\mL (lW (k+i) (aq vs i))=0/\tl 16 (gI (aa (aq vs i) 1)) (gS (aa (aq vs i) 3)) (gL (aa (aq vs i) 4)) (gL (aa (aq vs i) 5)))->
 (im True (J6 vs k) 0).length<=147 * jn 1002 vs 0/\vs.length<=jn 1002 vs 0
 | [],k,_=>⟨by rw[J6,rg (by simp)];exact aap _,aap _⟩
 |v::vs,k,h=>by
  obtain⟨a1,a2,a3⟩:=h 0 (by simp);have e:k+((0:Nat):Int)=k:=by omega
  rw[e] at a1 a2;have b:=T7 (v:=v) a1 a2 a3;obtain⟨c1,c2⟩:=CE vs (k+1) λi hi=>by have:=h (i+1) (by simpa using hi);rw[show k+((i+1:Nat):Int)=k+1+i by omega] at this;exact this
  rw[J6,CD,Ql,aah,aau];have:1<=oR 1002 v:=oK 1001 v;exact⟨by omega,by omega⟩
def Yk{l:List G}{k t n:Int}{pv:G}(h:kx l)(hb:bI k t n pv (cA l)=0):oS (cA l)<=600 * (2+jn 1002 l 0):=by
 obtain⟨h1,h2,h3⟩:=fi hb;have h4:(cA l).length<=200:=by unfold yh at h1;exact h1.2.2.2.2
 have hE:=pN h;have hin:=tU hE;have hl:=oL l;have hm:cA l=Ks::J6 l 0:=by rw[zj];unfold uj;rfl
 have a:=rp h4 (cA l).length 0 (by omega) (by omega);have A':(zC True Ks).length<=200:=by have:=yi (d:=True) (e:=Ks) VD (by have:=tA hin (i:=0) (by omega) (by omega);rw[hm] at this;exact this);have e:zC True Ks=ui Ks:=om (by show ¬(1:Int)=2;decide);have hz:hX hZ=hZ:=db dh;have q:(ui Ks).length<=93+(gS (aa Ks 1)).length:=il (kd:=1) (tx:=[115]) (tb:=0) (dc:=0) (vr:=0) (h:=hX hZ) (ab:=0) (ae:=0) (by decide) (by decide) (by decide) (by decide) (by decide) (by decide) (by rw[hz];exact dh);have q2:(gS (aa Ks 1)).length=1:=rfl;rw[e];omega
 obtain⟨b1,b2⟩:=CE l 0 λi hi=>by
  have e1:=zh l 0 i hi;have e2:aq (cA l) ((i:Int)+1).toNat=aq (J6 l 0) i:=by rw[hm,show((i:Int)+1).toNat=i+1 by omega];rfl
  have c1:=tA hin (i:=(i:Int)+1) (by omega) (by omega);have c2:=lM h2 (i:=(i:Int)+1) (by omega) (by omega);rw[e2,e1] at c1 c2;have c3:=(Pz h (i:=i) (by omega) (by omega)).1;rw[aaq] at c3;exact⟨c1,c2,c3⟩
 have hle:(im True (cA l) 0).length<=200+147 * jn 1002 l 0:=by rw[hm,CD,aah];omega
 have hs:oS (cA l)=(im True (cA l) 0).length+(f_ (cA l) 0).length+96:=by unfold oS;rfl
 rw[hs];omega
def gi(l:List G):Nat->List G×List G
 |0=>([],[])
 |n+1=>@ite _ (bI (gi l n).1.length n n (nc (gi l n).2) (cA (e_ l n))=0) (Classical.propDecidable _)
  ((gi l n).1++ [mT (gi l n).1.length n n (nc (gi l n).2) (cA (e_ l n))],(gi l n).2++ [.node [kz (gi l n).1.length n n (nc (gi l n).2) (cA (e_ l n))]]) (gi l n)
def gO(l:List G)(i:Int):List G:=(gi l i.toNat).1
def jm(l:List G)(i:Int):List G:=(gi l i.toNat).2
def Qm{l:List G}{n:Nat}(h:bI (gi l n).1.length n n (nc (gi l n).2) (cA (e_ l n))=0):gi l (n+1)=((gi l n).1++ [mT (gi l n).1.length n n (nc (gi l n).2) (cA (e_ l n))],(gi l n).2++ [.node [kz (gi l n).1.length n n (nc (gi l n).2) (cA (e_ l n))]]):=if_pos h
def Qn{l:List G}{n:Nat}(h:¬bI (gi l n).1.length n n (nc (gi l n).2) (cA (e_ l n))=0):gi l (n+1)=gi l n:=if_neg h
def iI(k i n:Int):List G:=((List.range n.toNat).drop (max i 1).toNat).map λ(j:Nat)=>.node [.int k,.int (j:Int)]
def Ib{k i n:Int}(h:n<=i)(h0:0<=i):iI k i n= []:=by unfold iI;rw[aaO (by rw[abI];omega)];rfl
def VV{k i n:Int}(h0:0<=i)(h:¬1<=i):iI k i n=iI k (i+1) n:=by
 obtain rfl:i=0:=by omega
 rfl
def VW{k i n:Int}(h:1<=i)(hi:i<n):iI k i n= .node [.int k,.int i]::iI k (i+1) n:=by unfold iI;rw[show max i 1=i by omega,show max (i+1) 1=i+1 by omega,aa2 (by rw[abI];omega),aaB,List.getElem_range,show(i+1).toNat=i.toNat+1 by omega,abm (by omega)]
def T8(k i n:Int):((iI k i n).length:Int)<=n∨(iI k i n).length=0:=by unfold iI;rw[aaK,aao,abI];omega
def rA(L:List G):List G:=L.flatMap λb=>iI (gI (aa b 0)) 0 (gL (aa b 4)).length
def Ic:rA []= []:=rfl
def Id(L:List G)(k t n:Int)(pv:G)(es:List G):rA (L++ [mT k t n pv es])=rA L++iI k 0 es.length:=by unfold rA;rw[List.flatMap_append,List.flatMap_singleton];rfl
def md_0(l:List G):gO l 0= []/\jm l 0= []:=⟨rfl,rfl⟩
def md_1{l:List G}{i:Int}{k:Int}{pv:G}(h0:0<=i)(hk:k=(gO l i).length)(hp:pv=nc (jm l i))(h:bI k i i pv (cA (e_ l i))=0):gO l (i+1)=gO l i++ [mT k i i pv (cA (e_ l i))]/\jm l (i+1)=jm l i++ [.node [kz k i i pv (cA (e_ l i))]]/\rA (gO l (i+1))=rA (gO l i)++iI k 0 (cA (e_ l i)).length:=by
 subst hk;subst hp;have e:((i.toNat:Nat):Int)=i:=abm h0;have h2:bI (gi l i.toNat).1.length i.toNat i.toNat (nc (gi l i.toNat).2) (cA (e_ l i.toNat))=0:=by rw[e];exact h
 have h1:=Qm h2;rw[e] at h1;have e2:(i+1).toNat=i.toNat+1:=by omega
 have a1:gO l (i+1)=gO l i++ [mT (gO l i).length i i (nc (jm l i)) (cA (e_ l i))]:=by unfold gO jm;rw[e2,h1]
 exact⟨a1,by unfold gO jm;rw[e2,h1],by rw[a1,Id]⟩
def md_2{l:List G}{i:Int}{k:Int}{pv:G}(h0:0<=i)(hk:k=(gO l i).length)(hp:pv=nc (jm l i))(h:¬bI k i i pv (cA (e_ l i))=0):gO l (i+1)=gO l i/\jm l (i+1)=jm l i:=by
 subst hk;subst hp;have e:((i.toNat:Nat):Int)=i:=abm h0;have h2:¬bI (gi l i.toNat).1.length i.toNat i.toNat (nc (gi l i.toNat).2) (cA (e_ l i.toNat))=0:=by rw[e];exact h
 have h1:=Qn h2;have e2:(i+1).toNat=i.toNat+1:=by omega
 unfold gO jm;rw[e2,h1];exact⟨rfl,rfl⟩
def Qo{l:List G}(hl:iG l):∀n:Nat,n<=l.length->RowsOk (gi l n).2/\(gi l n).1.length=(gi l n).2.length/\(gi l n).1.length<=n/\pS (gi l n).1 n/\(rA (gi l n).1).length<=200 * n
 |0,_=>⟨gM,rfl,aaa _,Ye _,aaa _⟩
 |n+1,hn=>by
  obtain⟨h1,h2,h3,h4,h5⟩:=Qo hl n (by omega);by_cases hb:bI (gi l n).1.length n n (nc (gi l n).2) (cA (e_ l n))=0
  ·rw[Qm hb];have hx:=(fi hb).1;have hx:(cA (e_ l n)).length<=200:=by unfold yh at hx;exact hx.2.2.2.2
   refine⟨gJ h1 (mQ _ _ _ _ _),by simp [h2],by simp;omega,Yf (by omega), ?_⟩;show(rA ((gi l n).1++ [_])).length<=_;rw[Id,aah];have:=T8 (gi l n).1.length 0 (cA (e_ l n)).length;omega
  ·rw[Qn hb];exact⟨h1,h2,by omega,TR h4 (by omega),by omega⟩
def VX{l:List G}{i:Int}(hl:iG l)(h0:0<=i)(hi:i<=l.length):RowsOk (jm l i)/\(gO l i).length=(jm l i).length/\((gO l i).length:Int)<=i/\pS (gO l i) i/\(rA (gO l i)).length<=6000/\HOk (nc (jm l i)):=by obtain⟨h1,h2,h3,h4,h5⟩:=Qo hl i.toNat (by omega);rw[abm h0] at h4;have:=(t_ hl).1;exact⟨h1,h2,by unfold gO;omega,h4,by unfold gO;omega,zp h1⟩
def Ie(p:Sy):LSpec:=⟨[(16,.c (.g 1 2 34)),(18,.c (.p 0)),(23,.c (.i .i64 9))],[.cells 75 (mY p),.grow 14 30 34],λz=>dM (p.g 24)/\(p.g 24).length<=1000000/\(0<=z.i 9/\z.i 9<=(p.g 24).length)/\(z.g 34).length<=10000+z.i 9,λz=>((p.g 24).length-z.i 9).toNat,[⟨.exit 4,[(16,.c (.g 1 2 34))],[.cells 75 (mY p),.grow 14 30 34]⟩],λz y=>y.g 34=z.g 34++iI (p.i 21) (z.i 9) (p.g 24).length,none,[0,1,10,14,17]⟩
def CF(p:Sy):LSpec:=⟨[(0,.c (.pv 13 (p.g 1))),(17,.c (.pi .i64 (p.i 8))),(18,.c (.p 0)),(19,.c (.i .i64 9))],wK p,λz=>(0<=p.i 8/\p.i 8<(p.g 1).length)/\kx (e_ (p.g 1) (p.i 8))/\(0<=z.i 9/\z.i 9<=(e_ (p.g 1) (p.i 8)).length)/\(z.g 20).length=z.i 9+1,λz=>((e_ (p.g 1) (p.i 8)).length-z.i 9).toNat,[⟨.exit 2,[(0,.c (.pv 13 (p.g 1))),(17,.c (.pi .i64 (p.i 8))),(18,.c (.p 0))],wK p⟩],λz y=>y.g 20=z.g 20++uj (e_ (p.g 1) (p.i 8)) (z.i 9),none,[1,10,14,16]⟩
def moB:List BSh:=VM++ [.cells 71 [.p 8,.g 9 36 41,.g 10 32 42,.pb False],.cells 110 [.i .i64 51,.g 11 3 40,.i .i64 52],.grow 11 75 41,.grow 6 28 42,.grow 12 198 40,.grow 14 30 34]
def Qp(p:Sy):LSpec:=⟨[(0,.c (.pv 13 (p.g 1))),(1,.c (.pv 8 [])),(10,.c (.p 0)),(14,.c (.p 7)),(16,.c (.g 12 2 34)),(17,.c (.i .i64 9))],moB,λz=>iG (p.g 1)/\(0<=z.i 9/\z.i 9<=(p.g 1).length)/\z.g 31=gO (p.g 1) (z.i 9)/\z.g 32=jm (p.g 1) (z.i 9)/\z.g 41=z.g 31/\z.g 42=z.g 32/\z.g 34=rA (z.g 31)/\(z.i 51=4194304/\z.i 52= -1)/\z.i 1=(z.g 31).length/\dV (z.i 1) (z.g 2)/\wS (z.g 31).length (z.g 20)/\fj (z.g 20)+600 * m_ (p.g 1) (z.i 9)<=600000/\qE (z.g 31).length (z.g 40)/\ck (z.g 40)+600 * m_ (p.g 1) (z.i 9)<=600000,λz=>((p.g 1).length-z.i 9).toNat,[⟨.exit 0,[(0,.c (.pv 13 (p.g 1))),(10,.c (.p 0)),(14,.c (.p 7)),(16,.c (.g 12 2 34))],moB⟩],λz y=>y.g 31=gO (p.g 1) (p.g 1).length/\y.g 32=jm (p.g 1) (p.g 1).length/\y.g 41=y.g 31/\y.g 42=y.g 32/\y.g 34=rA (y.g 31),lk,[]⟩
def Qq:FSpec:=⟨[.c (.v 13 1),.c (.v 8 2)],[],λz=>iG (z.g 1)/\(z.g 2).length=0,λ_=>.tu [.c .o,.c (.p 0),.c (.v 14 34),.c (.b 35)],λ_=>[.cells 71 [.o,.v 11 31,.v 6 32,.b 33]],λz y=>y.p 35/\y.g 31=gO (z.g 1) (z.g 1).length/\y.g 32=jm (z.g 1) (z.g 1).length/\y.g 34=rA (y.g 31),lk⟩
def Qr(nm:List Nat):¬jk nm []:=λh=>by obtain⟨r,hr,_⟩:=CC h;exact absurd hr aaP
def T9:dV 0 []:=yw (yv [])
attribute [irreducible] iG gO jm iI rA
end
def Ke:bN 6 2 CF:=bM 7 549 (ai Gq eN) lN λp z hA=>show Fm.den (let v0:=(aq (gL (aZ (aK (p.g 1) (p.i 8)))) (z.i 9).toNat);let v1:=(e_ (p.g 1) (p.i 8));let v2:=(cr (p.i 8) (p.g 1));let v3:=(DS (p.i 23) (p.i 22) (p.i 21) (p.i 8) (p.g 1));let v4:=(↑(gL (aZ (aK (p.g 1) (p.i 8)))).length:Int);let v5:=(gS (aa v0 3));let v6:=(gL (aa v0 5));let v7:=(gI (aa v0 1));let v8:=(gL (aa v0 4));let v9:=(gI (aa v0 0));let v10:=(gI (aa v0 2));let v11:=(pI (ke));let i4:=(ow (z.g 20));let i7:=((-9223372036854775808)<=z.i 9+1/\z.i 9+1<=9223372036854775807);let j6:=(dw (1+z.i 9));let o8:=(↑v1.length:Int);let z':=(0<=z.i 9/\z.i 9<v4);let B':=(dU (z.i 9) v1);let j8:=(lK p 200);(.an v2 (.two (z.i 9<v4) (.an v2 (.an z' (W3 v7 v5 v8 v6 v9 v10 λy0=>(let v19:=(z.g 20++ [G.node [G.int 2,G.str [],G.int 1,G.int (1+z.i 9),G.int 0,G.int v9,G.int v7,G.int v10,G.str v5,G.node v8,G.node v6,hT y0 300,G.int v11,G.int 0,G.int 0]]);let v20:=(z.g 20++ [G.node [G.int 2,G.str [],G.int 1,G.int j6,G.int 0,G.int v9,G.int v7,G.int v10,G.str v5,G.node v8,G.node v6,hT y0 300,G.int v11,G.int 0,G.int 0]]);(.two ((-9223372036854775808)<=1+z.i 9/\1+z.i 9<=9223372036854775807) (.an v2 (.an z' (.an i4 (.an i7 (.an (v19.length=(z.g 20).length+1/\fV j8 j8 v3) (.at ((v2/\kx v1/\B'/\(↑v19.length:Int)=z.i 9+1+1)/\(o8-(z.i 9+1)).toNat<(o8-z.i 9).toNat/\∀(y:Sy),y.g 20=z.g 20++ [G.node [G.int 2,G.str [],G.int 1,G.int (1+z.i 9),G.int 0,G.int v9,G.int v7,G.int v10,G.str v5,G.node v8,G.node v6,hT y0 300,G.int v11,G.int 0,G.int 0]]++uj v1 (z.i 9+1)->y.g 20=z.g 20++uj v1 (z.i 9)))))))) (.an v2 (.an z' (.an i4 (.an i7 (.an (v20.length=(z.g 20).length+1/\fV j8 j8 v3) (.at ((v2/\kx v1/\B'/\(↑v20.length:Int)=z.i 9+1+1)/\(o8-(z.i 9+1)).toNat<(o8-z.i 9).toNat/\∀(y:Sy),y.g 20=z.g 20++ [G.node [G.int 2,G.str [],G.int 1,G.int j6,G.int 0,G.int v9,G.int v7,G.int v10,G.str v5,G.node v8,G.node v6,hT y0 300,G.int v11,G.int 0,G.int 0]]++uj v1 (z.i 9+1)->y.g 20=z.g 20++uj v1 (z.i 9))))))))))))) (.an ((z.g 20).length=(z.g 20).length/\fV j8 j8 v3) (.at (z.g 20=z.g 20++uj v1 (z.i 9))))))) by dsimp only [CF,wK,uz] at hA;have:=@Pz (e_ (p.g 1) (p.i 8)) (z.i 9);have:=@Py (e_ (p.g 1) (p.i 8)) (z.i 9);have:=@Ty (e_ (p.g 1) (p.i 8)) (z.i 9);have a3:=lu (z.i 9) (aq (e_ (p.g 1) (p.i 8)) (z.i 9).toNat);have a5:pI (false=true)=0:=if_neg (by simp);have a6:pI False=0:=if_neg id;have:=@PA (e_ (p.g 1) (p.i 8));dsimp only [Y_] at a3;exact dD
def Qs:bN 6 4 Ie:=bM 7 549 eN lN λp z hA=>show Fm.den (let v0:=(↑(p.g 24).length:Int);let v1:=(NR (z.g 34) (p.g 24) (lK p 200) (je (p.i 23) (p.i 22) (p.i 21)));let v2:=((-9223372036854775808)<=z.i 9+1/\z.i 9+1<=9223372036854775807);let v3:=(dU (z.i 9) (p.g 24));let v4:=(z.g 34++ [G.node [G.int (p.i 21),G.int (z.i 9)]]);let v5:=(z.i 9+1);(.two (dq (z.i 9) (p.g 24)) (.an (cr (z.i 9) (p.g 24)) (.two (gI (aZ (aK (p.g 24) (z.i 9)))=2) (.an (ow (z.g 34)) (.an v2 (.an (v4.length=(z.g 34).length+1/\p.g 24=p.g 24/\fV (lK p 200) (lK p 200) (je (p.i 23) (p.i 22) (p.i 21))) (.at ((dM (p.g 24)/\(p.g 24).length<=1000000/\v3/\(↑v4.length:Int)<=10000+v5)/\(v0-v5).toNat<(v0-z.i 9).toNat/\∀(y:Sy),y.g 34=z.g 34++ [G.node [G.int (p.i 21),G.int (z.i 9)]]++iI (p.i 21) v5 v0->y.g 34=z.g 34++iI (p.i 21) (z.i 9) v0))))) (.an v2 (.an v1 (.at ((dM (p.g 24)/\(p.g 24).length<=1000000/\v3/\(↑(z.g 34).length:Int)<=10000+v5)/\(v0-v5).toNat<(v0-z.i 9).toNat/\∀(y:Sy),y.g 34=z.g 34++iI (p.i 21) v5 v0->y.g 34=z.g 34++iI (p.i 21) (z.i 9) v0)))))) (.an v1 (.at (z.g 34=z.g 34++iI (p.i 21) (z.i 9) v0))))) by dsimp only [Ie,mY,uz] at hA;have:=J7 p z;have:=@VV (p.i 21) (z.i 9) (p.g 24).length;have:=@VW (p.i 21) (z.i 9) (p.g 24).length;have:=@Ib (p.i 21) (z.i 9) (p.g 24).length;exact dD
abbrev Zh(a:Prop)(b c:Int)(d:List G)(e:Int):=a/\b.toNat<c.toNat/\∀(y:Sy),y.g 31=gO d e/\y.g 32=jm d e/\y.g 41=y.g 31/\y.g 42=y.g 32/\y.g 34=rA (y.g 31)->y.g 31=gO d e/\y.g 32=jm d e/\y.g 41=y.g 31/\y.g 42=y.g 32/\y.g 34=rA (y.g 31)
abbrev Zi(a:List G)(b:Prop)(c:List G)(d:Int)(e f g h:List G)(i:Prop)(j:Int)(k:List G)(l:Int)(m n:List G):=iG a/\b/\c=gO a d/\e=jm a d/\f=c/\g=e/\h=rA c/\i/\j= ↑c.length/\dV j k/\wS l m/\fj m+600 * m_ a d<=600000/\qE l n/\ck n+600 * m_ a d<=600000
abbrev T_(a b c d e f:List G)(g:Prop)(h i:List G):=a.length=a.length/\b.length=b.length/\c.length=c.length/\d.length=d.length/\e.length=e.length/\f.length=f.length/\g/\pR lz h=pR lz h/\g/\xU/\i=i/\True
abbrev VY(a:List G)(b:G)(c d:Int):=qm a/\HOk b/\a.length<=1000000/\c<9223372036854775808/\d<9223372036854775808/\d<9223372036854775808
abbrev VZ(a b:List G)(c:Int)(d:Sy)(e:Int):=RowsOk a/\b.length=a.length/\b.length<=60/\c=c/\hT d 300=nc a/\pS b e
def Ua:bN 6 0 Qp:=bM 26 45097547762149 (jZ H1 (ai T1 (ai T2 eN))) (aF (ptm:=[(61,.c (.i .i64 21)),(62,.c (.i .i64 22)),(63,.c (.i .i64 23)),(65,.ag (hs 200)),(0,.c (.v 13 1)),(17,.c (.i .i64 8))]) Ke (aF (ptm:=[(136,.ag bk)]) Qs lN)) (hgl:=λp g ty l h=>by cases h;decide) λp z hA=>show Fm.den (let v2:=(↑(z.g 41).length:Int);let v3:=(↑(p.g 1).length:Int);let v4:=(pI (ke));let v6:=(z.i 9+1);let v7:=(Int.ofNat ((aC (j_) 0).land (aC (j_) 65535)));let v8:=(mn);let v5:=((Yi (z.g 41) (z.g 42) (z.g 40) v8));let v9:=((-9223372036854775808)<=z.i 9+1/\z.i 9+1<=9223372036854775807);let v10:=((cr (z.i 9) (p.g 1))/\kx (e_ (p.g 1) (z.i 9))/\(fJ (↑(e_ (p.g 1) (z.i 9)).length:Int))/\(↑1:Int)=0+1);let v11:=(dU (z.i 9) (p.g 1));let i4:=(dw v6);let i7:=((Qi (z.g 31) (z.g 32) (z.g 20) v8));let j6:=(↑(z.g 34).length:Int);let v1:=(aK (z.g 34) (IntKind.i64.wrap v7%j6));let o8:=(gI (aa v1 0));let z':=(gI (aa v1 1));let B':=(z.i 51=4194304/\z.i 52=(-1));let j8:=(z.i 9=z.i 9/\z.i 9=z.i 9/\v2=v2/\z.i 9=z.i 9/\p.g 1=p.g 1/\True);let v19:=((0:Int)<=IntKind.i64.wrap v6/\IntKind.i64.wrap v6<= ↑(p.g 1).length);let v20:=(z.i 9=z.i 9/\z.i 9=z.i 9/\v2=v2/\True);let v21:=(v3-z.i 9);let v22:=(RowsOk (z.g 42)/\(z.g 42).length<=1000);let Y':=(yW (z.g 41));let v24:=(yW (z.g 42));let v25:=(0<=z.i 1/\z.i 1<=1000);let v26:=(v3-IntKind.i64.wrap v6);let v0:Fm:=(.an ((z.g 34).length=(z.g 34).length/\(z.g 31).length=(z.g 31).length/\(z.g 32).length=(z.g 32).length/\(z.g 41).length=(z.g 41).length/\(z.g 42).length=(z.g 42).length/\(z.g 40).length=(z.g 40).length/\v8/\pR lz (z.g 20)=pR lz (z.g 20)/\v8/\p.g 1=p.g 1/\True) (.at (z.g 31=gO (p.g 1) v3/\z.g 32=jm (p.g 1) v3/\z.g 41=z.g 31/\z.g 42=z.g 32/\z.g 34=rA (z.g 31))));(.two ((-9223372036854775808)<=v3+(↑0:Int)/\v3+(↑0:Int)<=9223372036854775807) (.two (z.i 9 < ↑(p.g 1).length+ ↑0) (.an Y' (.an v24 (.ct v22 (λy0=>hT y0 300=nc (z.g 42)) λy0=>(let v27:=(hT y0 300);let v28:=(lK y0 300);(.an (dq (z.i 9) (p.g 1)) (.an (1=1) (.cl ((1=1/\fV v28 v28 j8)) v10 (λy1=>y1.g 20= [G.node [G.int 1,G.str [115],G.int 0,G.int 0,G.int 0,G.int 0,G.int 0,G.int 0,G.str [],G.node [],G.node [],hZ,G.int v4,G.int 0,G.int 0]]++uj (e_ (p.g 1) (z.i 9)) 0) λy1=>(let v29:=(VY (y1.g 20) v27 v2 (z.i 9));let v30:=(yW (y1.g 20));(.an v30 (.cl v5 ((VZ (z.g 42) (z.g 41) v2 y0 (z.i 9))/\v29/\dM (y1.g 20)/\B'/\qE v2 (z.g 40)/\(bI v2 (z.i 9) (z.i 9) v27 (y1.g 20)=0->ck (z.g 40)+oS (y1.g 20)<=1000000)) (λy2=>y2.i 50=bI ↑(z.g 41).length (z.i 9) (z.i 9) v27 (y1.g 20)/\(y2.i 1=4194304/\y2.i 2=(-1))/\(bI v2 (z.i 9) (z.i 9) v27 (y1.g 20)=0->y2.g 31=z.g 41++ [mT v2 (z.i 9) (z.i 9) v27 (y1.g 20)]/\y2.g 32=z.g 42++ [G.node [kz v2 (z.i 9) (z.i 9) v27 (y1.g 20)]]/\qE (v2+1) (y2.g 20)/\ck (y2.g 20)<=ck (z.g 40)+oS (y1.g 20))/\(¬bI v2 (z.i 9) (z.i 9) v27 (y1.g 20)=0->y2.g 31=z.g 41/\y2.g 32=z.g 42/\y2.g 20=z.g 40)) λy2=>(let v31:=(y2.i 1=4194304/\y2.i 2=(-1));(.an v30 (.cl i7 ((RowsOk (z.g 32)/\(z.g 31).length=(z.g 32).length/\(z.g 31).length<=60/\v2=(↑(z.g 31).length:Int)/\hT y0 300=nc (z.g 32)/\pS (z.g 31) (z.i 9))/\v29/\dM (y1.g 20)/\wS v2 (z.g 20)/\(bI v2 (z.i 9) (z.i 9) v27 (y1.g 20)=0->fj (z.g 20)+oS (y1.g 20)<=1000000)/\v25/\dV (z.i 1) (z.g 2)) (λy3=>y3.i 50=bI ↑(z.g 41).length (z.i 9) (z.i 9) v27 (y1.g 20)/\(bI v2 (z.i 9) (z.i 9) v27 (y1.g 20)=0->y3.g 31=z.g 31++ [mT v2 (z.i 9) (z.i 9) v27 (y1.g 20)]/\y3.g 32=z.g 32++ [G.node [kz v2 (z.i 9) (z.i 9) v27 (y1.g 20)]]/\wS (v2+1) (y3.g 20)/\fj (y3.g 20)<=fj (z.g 20)+oS (y1.g 20)/\y3.i 1=z.i 1+1/\dV (y3.i 1) (y3.g 2))/\(¬bI v2 (z.i 9) (z.i 9) v27 (y1.g 20)=0->y3.g 31=z.g 31/\y3.g 32=z.g 32/\y3.g 20=z.g 20/\y3.i 1=z.i 1/\y3.g 2=z.g 2)) λy3=>(let v32:=(↑(y3.g 31).length:Int);(.an (¬(y3.i 50≠y2.i 50)) (.two (y2.i 50=0) (.an v30 (.an v30 (.cl ((NR (z.g 34) (y1.g 20) v28 v20)) (dM (y1.g 20)/\(y1.g 20).length<=1000000/\(fJ (↑(y1.g 20).length:Int))/\j6<=10000+0) (λy4=>y4.g 34=z.g 34++iI v2 0 (↑(y1.g 20).length:Int)) λy4=>(.an v9 (.an (T_ (y4.g 34) (y3.g 31) (y3.g 32) (y2.g 31) (y2.g 32) (y2.g 20) v8 (y3.g 20) (p.g 1)) (.at (Zh (Zi (p.g 1) v11 (y3.g 31) v6 (y3.g 32) (y2.g 31) (y2.g 32) (y4.g 34) v31 (y3.i 1) (y3.g 2) v32 (y3.g 20) (y2.g 20)) (v3-v6) v21 (p.g 1) v3))))))) (.an v9 (.an (T_ (z.g 34) (y3.g 31) (y3.g 32) (y2.g 31) (y2.g 32) (y2.g 20) v8 (y3.g 20) (p.g 1)) (.at (Zh (Zi (p.g 1) v11 (y3.g 31) v6 (y3.g 32) (y2.g 31) (y2.g 32) (z.g 34) v31 (y3.i 1) (y3.g 2) v32 (y3.g 20) (y2.g 20)) (v3-v6) v21 (p.g 1) v3)))))))))))))))))))) v0) (.two (z.i 9<IntKind.i64.wrap (v3+(↑0:Int))) (.an Y' (.an v24 (.ct v22 (λy0=>hT y0 300=nc (z.g 42)) λy0=>(let v33:=(VZ (z.g 42) (z.g 41) v2 y0 (z.i 9));let v34:=(hT y0 300);let v35:=(lK y0 300);(.two (dq (z.i 9) (p.g 1)) (.an (1=1) (.cl ((1=1/\fV v35 v35 j8)) v10 (λy1=>y1.g 20= [G.node [G.int 1,G.str [115],G.int 0,G.int 0,G.int 0,G.int 0,G.int 0,G.int 0,G.str [],G.node [],G.node [],hZ,G.int v4,G.int 0,G.int 0]]++uj (e_ (p.g 1) (z.i 9)) 0) λy1=>(let v36:=(VY (y1.g 20) v34 v2 (z.i 9));let v37:=(yW (y1.g 20));(.an v37 (.cl v5 (v33/\v36/\dM (y1.g 20)/\B'/\qE v2 (z.g 40)/\(bI v2 (z.i 9) (z.i 9) v34 (y1.g 20)=0->ck (z.g 40)+oS (y1.g 20)<=1000000)) (λy2=>y2.i 50=bI ↑(z.g 41).length (z.i 9) (z.i 9) v34 (y1.g 20)/\(y2.i 1=4194304/\y2.i 2=(-1))/\(bI v2 (z.i 9) (z.i 9) v34 (y1.g 20)=0->y2.g 31=z.g 41++ [mT v2 (z.i 9) (z.i 9) v34 (y1.g 20)]/\y2.g 32=z.g 42++ [G.node [kz v2 (z.i 9) (z.i 9) v34 (y1.g 20)]]/\qE (v2+1) (y2.g 20)/\ck (y2.g 20)<=ck (z.g 40)+oS (y1.g 20))/\(¬bI v2 (z.i 9) (z.i 9) v34 (y1.g 20)=0->y2.g 31=z.g 41/\y2.g 32=z.g 42/\y2.g 20=z.g 40)) λy2=>(let v38:=(y2.i 1=4194304/\y2.i 2=(-1));(.an v37 (.cl i7 ((RowsOk (z.g 32)/\(z.g 31).length=(z.g 32).length/\(z.g 31).length<=60/\v2=(↑(z.g 31).length:Int)/\hT y0 300=nc (z.g 32)/\pS (z.g 31) (z.i 9))/\v36/\dM (y1.g 20)/\wS v2 (z.g 20)/\(bI v2 (z.i 9) (z.i 9) v34 (y1.g 20)=0->fj (z.g 20)+oS (y1.g 20)<=1000000)/\v25/\dV (z.i 1) (z.g 2)) (λy3=>y3.i 50=bI ↑(z.g 41).length (z.i 9) (z.i 9) v34 (y1.g 20)/\(bI v2 (z.i 9) (z.i 9) v34 (y1.g 20)=0->y3.g 31=z.g 31++ [mT v2 (z.i 9) (z.i 9) v34 (y1.g 20)]/\y3.g 32=z.g 32++ [G.node [kz v2 (z.i 9) (z.i 9) v34 (y1.g 20)]]/\wS (v2+1) (y3.g 20)/\fj (y3.g 20)<=fj (z.g 20)+oS (y1.g 20)/\y3.i 1=z.i 1+1/\dV (y3.i 1) (y3.g 2))/\(¬bI v2 (z.i 9) (z.i 9) v34 (y1.g 20)=0->y3.g 31=z.g 31/\y3.g 32=z.g 32/\y3.g 20=z.g 20/\y3.i 1=z.i 1/\y3.g 2=z.g 2)) λy3=>(let v39:=(T_ (z.g 34) (y3.g 31) (y3.g 32) (y2.g 31) (y2.g 32) (y2.g 20) v8 (y3.g 20) (p.g 1));let v40:=(↑(y3.g 31).length:Int);(.an (¬(y3.i 50≠y2.i 50)) (.two (y2.i 50=0) (.an v37 (.an v37 (.cl ((NR (z.g 34) (y1.g 20) v35 v20)) (dM (y1.g 20)/\(y1.g 20).length<=1000000/\(fJ (↑(y1.g 20).length:Int))/\j6<=10000+0) (λy4=>y4.g 34=z.g 34++iI v2 0 (↑(y1.g 20).length:Int)) λy4=>(let v41:=(T_ (y4.g 34) (y3.g 31) (y3.g 32) (y2.g 31) (y2.g 32) (y2.g 20) v8 (y3.g 20) (p.g 1));(.two v9 (.an v41 (.at (Zh (Zi (p.g 1) v11 (y3.g 31) v6 (y3.g 32) (y2.g 31) (y2.g 32) (y4.g 34) v38 (y3.i 1) (y3.g 2) v40 (y3.g 20) (y2.g 20)) (v3-v6) v21 (p.g 1) v3))) (.an v41 (.at (Zh (Zi (p.g 1) v19 (y3.g 31) i4 (y3.g 32) (y2.g 31) (y2.g 32) (y4.g 34) v38 (y3.i 1) (y3.g 2) v40 (y3.g 20) (y2.g 20)) v26 v21 (p.g 1) v3)))))))) (.two v9 (.an v39 (.at (Zh (Zi (p.g 1) v11 (y3.g 31) v6 (y3.g 32) (y2.g 31) (y2.g 32) (z.g 34) v38 (y3.i 1) (y3.g 2) v40 (y3.g 20) (y2.g 20)) (v3-v6) v21 (p.g 1) v3))) (.an v39 (.at (Zh (Zi (p.g 1) v19 (y3.g 31) i4 (y3.g 32) (y2.g 31) (y2.g 32) (z.g 34) v38 (y3.i 1) (y3.g 2) v40 (y3.g 20) (y2.g 20)) v26 v21 (p.g 1) v3))))))))))))))) (.two (0<j6) (.an ((-9223372036854775808)<=z.i 9-v3/\z.i 9 - ↑(p.g 1).length<=9223372036854775807) (.an (0<=z.i 9-v3/\z.i 9 - ↑(p.g 1).length < ↑0) (.an (j6≠0) (.an ((0:Int)<=IntKind.i64.wrap v7/\0<j6) (.an (0<=IntKind.i64.wrap v7%j6/\IntKind.i64.wrap v7 % ↑(z.g 34).length < ↑(z.g 34).length) (.an (eE (IntKind.i64.wrap v7 % ↑(z.g 34).length) (z.g 34)) (.an (2=2) (.an (2=2) (.cl v5 (v33/\(qm [G.node [G.int 1,G.str [115],G.int 0,G.int 0,G.int 0,G.int 0,G.int 0,G.int 0,G.str [],G.node [],G.node [],hZ,G.int v4,G.int 0,G.int 0],G.node [G.int 4,G.str [],G.int 0,G.int 0,G.int 0,G.int 0,G.int 0,G.int 0,G.str [],G.node [],G.node [],hZ,G.int v4,G.int o8,G.int z']]/\HOk v34/\2<=1000000/\v2<9223372036854775808/\z.i 9<9223372036854775808/\z.i 9<9223372036854775808)/\dM [G.node [G.int 1,G.str [115],G.int 0,G.int 0,G.int 0,G.int 0,G.int 0,G.int 0,G.str [],G.node [],G.node [],hZ,G.int v4,G.int 0,G.int 0],G.node [G.int 4,G.str [],G.int 0,G.int 0,G.int 0,G.int 0,G.int 0,G.int 0,G.str [],G.node [],G.node [],hZ,G.int v4,G.int o8,G.int z']]/\B'/\qE v2 (z.g 40)/\(bI v2 (z.i 9) (z.i 9) v34 [G.node [G.int 1,G.str [115],G.int 0,G.int 0,G.int 0,G.int 0,G.int 0,G.int 0,G.str [],G.node [],G.node [],hZ,G.int v4,G.int 0,G.int 0],G.node [G.int 4,G.str [],G.int 0,G.int 0,G.int 0,G.int 0,G.int 0,G.int 0,G.str [],G.node [],G.node [],hZ,G.int v4,G.int o8,G.int z']]=0->ck (z.g 40)+oS [G.node [G.int 1,G.str [115],G.int 0,G.int 0,G.int 0,G.int 0,G.int 0,G.int 0,G.str [],G.node [],G.node [],hZ,G.int v4,G.int 0,G.int 0],G.node [G.int 4,G.str [],G.int 0,G.int 0,G.int 0,G.int 0,G.int 0,G.int 0,G.str [],G.node [],G.node [],hZ,G.int v4,G.int o8,G.int z']]<=1000000)) (λy1=>y1.i 50=bI ↑(z.g 41).length (z.i 9) (z.i 9) v34 [G.node [G.int 1,G.str [115],G.int 0,G.int 0,G.int 0,G.int 0,G.int 0,G.int 0,G.str [],G.node [],G.node [],hZ,G.int v4,G.int 0,G.int 0],G.node [G.int 4,G.str [],G.int 0,G.int 0,G.int 0,G.int 0,G.int 0,G.int 0,G.str [],G.node [],G.node [],hZ,G.int v4,G.int o8,G.int z']]/\(y1.i 1=4194304/\y1.i 2=(-1))/\(bI v2 (z.i 9) (z.i 9) v34 [G.node [G.int 1,G.str [115],G.int 0,G.int 0,G.int 0,G.int 0,G.int 0,G.int 0,G.str [],G.node [],G.node [],hZ,G.int v4,G.int 0,G.int 0],G.node [G.int 4,G.str [],G.int 0,G.int 0,G.int 0,G.int 0,G.int 0,G.int 0,G.str [],G.node [],G.node [],hZ,G.int v4,G.int o8,G.int z']]=0->y1.g 31=z.g 41++ [mT v2 (z.i 9) (z.i 9) v34 [G.node [G.int 1,G.str [115],G.int 0,G.int 0,G.int 0,G.int 0,G.int 0,G.int 0,G.str [],G.node [],G.node [],hZ,G.int v4,G.int 0,G.int 0],G.node [G.int 4,G.str [],G.int 0,G.int 0,G.int 0,G.int 0,G.int 0,G.int 0,G.str [],G.node [],G.node [],hZ,G.int v4,G.int o8,G.int z']]]/\y1.g 32=z.g 42++ [G.node [kz v2 (z.i 9) (z.i 9) v34 [G.node [G.int 1,G.str [115],G.int 0,G.int 0,G.int 0,G.int 0,G.int 0,G.int 0,G.str [],G.node [],G.node [],hZ,G.int v4,G.int 0,G.int 0],G.node [G.int 4,G.str [],G.int 0,G.int 0,G.int 0,G.int 0,G.int 0,G.int 0,G.str [],G.node [],G.node [],hZ,G.int v4,G.int o8,G.int z']]]]/\qE (v2+1) (y1.g 20)/\ck (y1.g 20)<=ck (z.g 40)+oS [G.node [G.int 1,G.str [115],G.int 0,G.int 0,G.int 0,G.int 0,G.int 0,G.int 0,G.str [],G.node [],G.node [],hZ,G.int v4,G.int 0,G.int 0],G.node [G.int 4,G.str [],G.int 0,G.int 0,G.int 0,G.int 0,G.int 0,G.int 0,G.str [],G.node [],G.node [],hZ,G.int v4,G.int o8,G.int z']])/\(¬bI v2 (z.i 9) (z.i 9) v34 [G.node [G.int 1,G.str [115],G.int 0,G.int 0,G.int 0,G.int 0,G.int 0,G.int 0,G.str [],G.node [],G.node [],hZ,G.int v4,G.int 0,G.int 0],G.node [G.int 4,G.str [],G.int 0,G.int 0,G.int 0,G.int 0,G.int 0,G.int 0,G.str [],G.node [],G.node [],hZ,G.int v4,G.int o8,G.int z']]=0->y1.g 31=z.g 41/\y1.g 32=z.g 42/\y1.g 20=z.g 40)) λy1=>.ff))))))))) (.an (1=1) (.an (1=1) (.cl v5 (v33/\(qm [G.node [G.int 1,G.str [115],G.int 0,G.int 0,G.int 0,G.int 0,G.int 0,G.int 0,G.str [],G.node [],G.node [],hZ,G.int v4,G.int 0,G.int 0]]/\HOk v34/\1<=1000000/\v2<9223372036854775808/\z.i 9<9223372036854775808/\z.i 9<9223372036854775808)/\dM [G.node [G.int 1,G.str [115],G.int 0,G.int 0,G.int 0,G.int 0,G.int 0,G.int 0,G.str [],G.node [],G.node [],hZ,G.int v4,G.int 0,G.int 0]]/\B'/\qE v2 (z.g 40)/\(bI v2 (z.i 9) (z.i 9) v34 [G.node [G.int 1,G.str [115],G.int 0,G.int 0,G.int 0,G.int 0,G.int 0,G.int 0,G.str [],G.node [],G.node [],hZ,G.int v4,G.int 0,G.int 0]]=0->ck (z.g 40)+oS [G.node [G.int 1,G.str [115],G.int 0,G.int 0,G.int 0,G.int 0,G.int 0,G.int 0,G.str [],G.node [],G.node [],hZ,G.int v4,G.int 0,G.int 0]]<=1000000)) (λy1=>y1.i 50=bI ↑(z.g 41).length (z.i 9) (z.i 9) v34 [G.node [G.int 1,G.str [115],G.int 0,G.int 0,G.int 0,G.int 0,G.int 0,G.int 0,G.str [],G.node [],G.node [],hZ,G.int v4,G.int 0,G.int 0]]/\(y1.i 1=4194304/\y1.i 2=(-1))/\(bI v2 (z.i 9) (z.i 9) v34 [G.node [G.int 1,G.str [115],G.int 0,G.int 0,G.int 0,G.int 0,G.int 0,G.int 0,G.str [],G.node [],G.node [],hZ,G.int v4,G.int 0,G.int 0]]=0->y1.g 31=z.g 41++ [mT v2 (z.i 9) (z.i 9) v34 [G.node [G.int 1,G.str [115],G.int 0,G.int 0,G.int 0,G.int 0,G.int 0,G.int 0,G.str [],G.node [],G.node [],hZ,G.int v4,G.int 0,G.int 0]]]/\y1.g 32=z.g 42++ [G.node [kz v2 (z.i 9) (z.i 9) v34 [G.node [G.int 1,G.str [115],G.int 0,G.int 0,G.int 0,G.int 0,G.int 0,G.int 0,G.str [],G.node [],G.node [],hZ,G.int v4,G.int 0,G.int 0]]]]/\qE (v2+1) (y1.g 20)/\ck (y1.g 20)<=ck (z.g 40)+oS [G.node [G.int 1,G.str [115],G.int 0,G.int 0,G.int 0,G.int 0,G.int 0,G.int 0,G.str [],G.node [],G.node [],hZ,G.int v4,G.int 0,G.int 0]])/\(¬bI v2 (z.i 9) (z.i 9) v34 [G.node [G.int 1,G.str [115],G.int 0,G.int 0,G.int 0,G.int 0,G.int 0,G.int 0,G.str [],G.node [],G.node [],hZ,G.int v4,G.int 0,G.int 0]]=0->y1.g 31=z.g 41/\y1.g 32=z.g 42/\y1.g 20=z.g 40)) λy1=>.ff))))))))) v0))) by dsimp only [Qp,moB,VM] at hA;have:=@VU (p.g 1) (z.i 9);have:=@t_ (p.g 1);have:=@T6 (p.g 1) (z.i 9);have:=@VX (p.g 1) (z.i 9);have:=@md_1 (p.g 1) (z.i 9);have:=@md_2 (p.g 1) (z.i 9);have:=λk pv h hb=>@Yk (e_ (p.g 1) (z.i 9)) k (z.i 9) (z.i 9) pv h hb;have:=@pN (e_ (p.g 1) (z.i 9));have:=@zj (e_ (p.g 1) (z.i 9));have:=oL (e_ (p.g 1) (z.i 9));have:=@PA (e_ (p.g 1) (z.i 9));have:=λh=>tU (es:=cA (e_ (p.g 1) (z.i 9))) h;have:=@dh;have a5:pI (false=true)=0:=if_neg (by simp);have a6:pI False=0:=if_neg id;exact dD
def If:bn 6 Qq:=bA 2 2 (ai Yd (ai T5 (ai HZ (ai Vh eN)))) (aF (ptm:=[(0,.c (.v 13 1))]) Ua lN) λz hA=>show Fm.den (let v0:=(↑(z.g 1).length:Int);(.ct ((4194304:Int)=4194304) (λy0=>y0.g 20= []/\y0.i 30=0) λy0=>(Vj λy1=>(.cl ((qD (y0.g 20))) (¬jk [106,111,117,114,110,97,108] (y0.g 20)/\7<=64) (λy2=>y2.g 20=y0.g 20/\y2.i 30=7) λy2=>(.an (y2.i 30≠0) (.cl ((qD (y2.g 20))) (y2.g 20= []) (λy3=>y3.g 20= []) λy3=>(.cl ((0=0/\0=0/\0=0/\0=0/\0=0/\0=0/\(false=true↔False)/\pR lz (y3.g 20)=pR lz (y3.g 20)/\(false=true↔False)/\z.g 2= []/\z.g 1=z.g 1/\True)) (iG (z.g 1)/\(fJ v0)/\ []=gO (z.g 1) 0/\ []=jm (z.g 1) 0/\xU/\xU/\ []=rA []/\((4194304:Int)=4194304/\(-1:Int)=(-1))/\y1.i 1= ↑0/\dV (y1.i 1) (y1.g 2)/\wS (↑0:Int) (y3.g 20)/\fj (y3.g 20)+600 * m_ (z.g 1) 0<=600000/\qE (↑0:Int) []/\ck []+600 * m_ (z.g 1) 0<=600000) (λy4=>y4.g 31=gO (z.g 1) v0/\y4.g 32=jm (z.g 1) v0/\y4.g 41=y4.g 31/\y4.g 42=y4.g 32/\y4.g 34=rA (y4.g 31)) λy4=>(.an ((y4.g 42).length=(y4.g 42).length/\(y4.g 41).length=(y4.g 41).length/\(y4.g 34).length=(y4.g 34).length/\True) (.at ((↑(y4.g 31).length:Int)=(↑(y4.g 41).length:Int)/\y4.g 41=gO (z.g 1) v0/\y4.g 42=jm (z.g 1) v0/\y4.g 34=rA (y4.g 41))))))))))) by dsimp only [Qq] at hA;have:=md_0 (z.g 1);have:=@t_ (z.g 1);have:=TW;have:=TS;have:=T9;have:=λnm=>Qr nm;have:=Ic;have:=zo;have:=yQ;exact dD
noncomputable section
def zs{l:List G}(hl:iG l):∀n:Nat,n<=l.length->∀i:Int,0<=i->i<(gi l n).1.length->∃(t:Nat) (pv:G),t<l.length/\HOk pv/\bI i t t pv (cA (e_ l t))=0/\aq (gi l n).1 i.toNat=mT i t t pv (cA (e_ l t))/\aq (gi l n).2 i.toNat= .node [kz i t t pv (cA (e_ l t))]
 |0,_,i,h0,hi=>by
  have:(0:Int)<=i/\i<(([]:List G).length:Nat):=⟨h0,hi⟩
  simp at this;omega
 |n+1,hn,i,h0,hi=>by
  obtain⟨h1,h2,h3,h4,h5⟩:=Qo hl n (by omega);by_cases hb:bI (gi l n).1.length n n (nc (gi l n).2) (cA (e_ l n))=0
  ·rw[Qm hb] at hi⊢;by_cases hx:i<(gi l n).1.length
   ·rw[HJ h0 hx,HJ h0 (by omega)];exact zs hl n (by omega) i h0 hx
   ·have hi:i<(((gi l n).1++ [mT (gi l n).1.length n n (nc (gi l n).2) (cA (e_ l n))]).length:Nat):=hi;rw[aah,aaL] at hi;have e:i=((gi l n).1.length:Nat):=by omega
    rw[tT e,tT (by omega),e];exact⟨n,_,by omega,zp h1,hb,rfl,rfl⟩
  ·rw[Qn hb] at hi⊢;exact zs hl n (by omega) i h0 hi
def Qt(k t n:Int)(pv:G)(es:List G):gL (aa (mT k t n pv es) 4)=es/\gI (aa (mT k t n pv es) 0)=k/\gI (aa (mT k t n pv es) 1)=t/\gI (aa (mT k t n pv es) 2)=n/\aa (mT k t n pv es) 3=pv:=⟨rfl,rfl,rfl,rfl,rfl⟩
def Qu{l:List G}{i:Int}(hl:iG l)(h0:0<=i)(hi:i<(gO l l.length).length):∃(t:Nat) (pv:G),t<l.length/\HOk pv/\bI i t t pv (cA (e_ l t))=0/\aq (gO l l.length) i.toNat=mT i t t pv (cA (e_ l t))/\aq (jm l l.length) i.toNat= .node [kz i t t pv (cA (e_ l t))]:=by unfold gO jm at *;rw[aaq] at *;exact zs hl _ (aaa _) i h0 hi
def V1{l:List G}{t:Nat}(hl:iG l)(h:t<l.length):kx (e_ l t):=VU hl (by omega) (by omega)
def V2{l:List G}(hl:iG l):lw (gO l l.length)/\RowsOk (jm l l.length)/\(gO l l.length).length=(jm l l.length).length/\(gO l l.length).length<=1000:=by
 obtain⟨h1,h2,h3,_⟩:=VX hl (i:=l.length) (by omega) (Int.le_refl _);have h4:=(t_ hl).1;refine⟨?_,h1,h2,by omega⟩;unfold lw;intro b hb;obtain⟨n,hn,rfl⟩:=abH hb;have e:(gO l l.length)[n]=aq (gO l l.length) (n:Int).toNat:=by unfold aq;rw[aag,aaq,aai hn];rfl
 obtain⟨t,pv,ht,hp,hb,e1,e2⟩:=Qu hl (i:=n) (by omega) (by omega);have he:=pN (V1 hl ht);rw[e,e1];obtain⟨b4,b0,b1,b2,b3⟩:=Qt n t t pv (cA (e_ l t));show jO (gL (aa _ 4))/\Pm (gL (aa _ 4))/\HOk (hX (aa _ 3))/\gI (aa _ 0)<_/\gI (aa _ 1)<_/\gI (aa _ 2)<_;rw[b4,b0,b1,b2,b3,db hp];exact⟨(oP he hp (by omega) (by omega) (by omega) hb).1,HK he,hp,by omega,by omega,by omega⟩
def Qv{l:List G}{i k n:Int}{B:G}(hl:iG l)(hn1:1<=n)(hn:n<=(jm l l.length).length)(i0:0<=i)(hi:i<n)(hB:B=aq (gO l l.length) i.toNat)(k0:0<=k)(hk:k<(pO B).length):
 kw 0 (be (ui (aq (pO B) k.toNat))) (dJ (lO (gI (aa B 0)) (gI (aa B 1)) (gI (aa B 2)) (hX (aa B 3)))) i k (pO B).length n (a_ k (gG (pO B) 0)) (a_ i ((jm l l.length).take n.toNat)) (aO ((jm l l.length).take n.toNat))/\
  jO (pO B)/\1<=(pO B).length/\wh (aq (pO B) k.toNat)/\mL (aq (pO B) k.toNat)=0/\B8 (gS (aa (aq (pO B) k.toNat) 1))/\RowsOk (a_ k (gG (pO B) 0))/\(a_ k (gG (pO B) 0)).length<=1000000/\RowsOk (a_ i ((jm l l.length).take n.toNat))/\(a_ i ((jm l l.length).take n.toNat)).length<=1000000/\HOk (aO ((jm l l.length).take n.toNat)):=by
 obtain⟨q1,q2,q3,q4⟩:=V2 hl
 have h30:=(t_ hl).1
 obtain⟨t,pv,ht,hp,hb,e1,e2⟩:=Qu hl i0 (by omega)
 have he:=pN (V1 hl ht)
 have l9:=TA (e_ l t)
 have hE:=(oP he hp (by omega) (by omega) (by omega) hb).1
 subst hB
 rw[e1] at hk⊢
 obtain⟨b4,b0,b1,b2,b3⟩:=Qt i t t pv (cA (e_ l t))
 unfold pO at *
 rw[b4] at hk⊢
 rw[b0,b1,b2,b3,db hp]
 have hE':=PF hE k0 hk
 have l1:=oM k (gG (cA (e_ l t)) 0)
 rw[jQ] at l1
 have l2:=oM i ((jm l l.length).take n.toNat)
 rw[aal] at l2
 have l3:=hE.2.2
 refine⟨Cy ⟨l9,hE.2.2⟩ k0 hk q2 hn (by omega) i0 hi ?_,hE,l9,hE'.1,hE'.2,mk_tx k0 hk,oN (jR _),by omega,oN (q2.take _),by omega,cu _ (q2.take _)⟩
 rw[e2]
 exact db (mQ _ _ _ _ _)
def md_kv:Cv (cA kv) (gO [.node [.node kv]] 1) (jm [.node [.node kv]] 1) (rA (gO [.node [.node kv]] 1)):=by
 obtain⟨m1,m2⟩:=md_0 [.node [.node kv]];have e:=md_1 (l:=[.node [.node kv]]) (i:=0) (k:=0) (pv:=hZ) (by decide) (by rw[m1];rfl) (by rw[m2];exact(HW rfl).symm) PK;rw[m1,m2,Ic] at e;have e:gO [.node [.node kv]] (0+1)= []++ [mT 0 0 0 hZ (cA kv)]/\jm [.node [.node kv]] (0+1)= []++ [.node [kz 0 0 0 hZ (cA kv)]]/\rA (gO [.node [.node kv]] (0+1))= []++iI 0 0 (cA kv).length:=e;have hl:(cA kv).length=2:=by rw[mS];rfl
 unfold Cv;refine⟨λ_=>?_,λh=>absurd PK h⟩;rw[show(1:Int)=0+1 from rfl,e.1,e.2.1];refine⟨rfl,rfl, ?_⟩;rw[show(0:Int)+1=1 from rfl,VE, ←e.1,show(0:Int)+1=1 from rfl];have:=e.2.2;rw[show(0:Int)+1=1 from rfl] at this;rw[this,hl,aa8];show iI 0 0 2=_;rw[VV (by decide) (by decide),VW (by decide) (by decide),Ib (by decide) (by decide)];rfl
def ls_kv:iG [.node [.node kv]]:=by
 have hv:=PJ;unfold iG;refine⟨λi h0 hi=>?_, ?_,by decide⟩
 ·have:i=0:=by have:i<1:=hi;omega
  subst this;exact hv
 ·rw[gH (by omega) (by simp),yZ (by simp)];have h:kv.length=1:=by unfold kv;rfl
  show 2+jn 1002 kv 0+0<=1000;rw[ls (by omega) (by omega),oJ (by omega)];unfold kv;show 2+(1+0/20+0+0+0)+0<=1000;decide
def NfM(l:List G):Prop:=∀r∈l,Za (gL (aa r 0))
def ls_of{l:List G}(h:NfM l)(hn:En l)(hl:l.length<=30/\m_ l 0<=1000):iG l:=by
 unfold iG;refine⟨λi h0 hi=>?_,hl.2,hl.1⟩;have hm:=dp h0 hi;have h1:=(Eo hn h0 hi).1;have key:∀(n:Nat) (j:Int),(j.toNat+n=i.toNat)->0<=j->jn 1002 (gL (aa (aq l i.toNat) 0)) 0<=m_ l j:=by
  intro n
  induction n with
  |zero=>intro j hj hj0;rw[gH hj0 (by omega),show j=i by omega];omega
  |succ n ih=>intro j hj hj0;rw[gH hj0 (by omega)];have:=ih (j+1) (by omega) (by omega);omega
 have h2:=key i.toNat 0 (by omega) (by omega);unfold kx;have h2:jn 1002 (e_ l i) 0<=1000:=aaH h2 hl.2;exact⟨h _ hm,h1,h2,wM h2⟩
def Kf{kd i c:Int}{t:List Nat}{ns ks:List G}(h:QT 1002 i t ns ks)(hg:QU 1002 t ns ks<=1000):tl 16 i t ns ks/\x_ 16 t ks<=10000000:=by have h1:QS 1002 (.node [.int kd,.int i,.int c,.str t,.node ns,.node ks]):=(yY 1002 (.node [.int kd,.int i,.int c,.str t,.node ns,.node ks]))▸h;have h2:oR 1002 (.node [.int kd,.int i,.int c,.str t,.node ns,.node ks])<=1000:=(El 1002 (.node [.int kd,.int i,.int c,.str t,.node ns,.node ks]))▸hg;obtain⟨a,b⟩:=Cr (l:=[.node [.int kd,.int i,.int c,.str t,.node ns,.node ks]]) (i:=0) (by unfold wL;intro x hx;rw[List.mem_singleton.1 hx];exact h1) (by rw[ls (by omega) (by simp),oJ (by simp)];exact h2) (by decide) (by simp);exact⟨a,aaH b (by decide)⟩
def XrP(L H:List G)(i k n:Int)(y:Sy):Prop:=(1<=n/\n<=H.length)/\((0<=i/\i<n)/\0<=k/\k<(pO (aq L i.toNat)).length)/\y.i 61=i/\y.i 62=k/\X4 y (aq (pO (aq L i.toNat)) k.toNat)/\hT y 400=dJ (lO (gI (aa (aq L i.toNat) 0)) (gI (aa (aq L i.toNat) 1)) (gI (aa (aq L i.toNat) 2)) (hX (aa (aq L i.toNat) 3)))/\y.g 63=a_ k (gG (pO (aq L i.toNat)) 0)/\y.i 64=(pO (aq L i.toNat)).length/\y.g 65=a_ i (List.take n.toNat H)
def Qw:FSpec:=⟨[.c (.p 0),.c (.i .i64 67)],Zb,J8,λ_=>.tu [.ag (dg 66 500),.c (.i .i64 50)],Zc,λz y=>(0<=z.i 67->z.i 67<=(z.g 32).length->y.i 50=0/\y.i 66=z.i 67/\hT y 500=aO ((z.g 32).take (z.i 67).toNat))/\(¬(0<=z.i 67/\z.i 67<=(z.g 32).length)->y.i 50=1/\y.i 66=0/\hT y 500=hZ),none⟩
attribute [irreducible] NfM XrP
end
abbrev qF(a:Prop)(b:G)(c:Int)(d e:G)(f g h i:Int)(j k:List G):=Fm.ct (a/\HOk b) (λy=>(y.p 40↔kw c d e f g h i j k b))
abbrev Ig(a b:List G):=lw a/\RowsOk b/\a.length=b.length/\a.length<=1000
def Qx:bn 13 X6:=bA 9 1297 (ai If (ai X7 (ai X8 (ai OT eN)))) lN λz hA=>show Fm.den (let vxn:=Int.toNat 0;let v0:=(ic);let v1:=(aj .u8);let v2:=(ke);(.an (1=1) (.an (1=1) (.an (1=1) (.an (1=1) (.ct (iG [G.node [G.node [G.node [G.int 3,G.int 5,G.int 0,G.str [],G.node [],G.node []]]]]/\0=0) (λy0=>y0.p 35/\y0.g 31=gO [G.node [G.node [G.node [G.int 3,G.int 5,G.int 0,G.str [],G.node [],G.node []]]]] (↑1:Int)/\y0.g 32=jm [G.node [G.node [G.node [G.int 3,G.int 5,G.int 0,G.str [],G.node [],G.node []]]]] (↑1:Int)/\y0.g 34=rA (y0.g 31)) λy0=>(let v6:=(aq (y0.g 34) (vxn));let v5:=(aK (y0.g 31) (gI (aa v6 0)));let v7:=(Ig (y0.g 31) (y0.g 32));let v8:=(↑(gL (aa v5 4)).length:Int);let v9:=((0:Int)<=gI (aa v6 0)/\gI (aa v6 0)<1);let v10:=(aq (y0.g 34) v0);let v11:=(aa v6 1);let v3:=(aK (gL (aa v5 4)) (gI v11));let v4:=(aq (gL (aa (aK (y0.g 31) (gI (aa v10 0))) 4)) (gI v11).toNat);(.two (¬y0.p 35) (.ax v2) (.two ((↑(y0.g 34).length:Int)≠1) (.ax v2) (.an (vM (↑(y0.g 34).length:Int)) (.ct v7 (λy1=>((1:Int)<=1->1<=(↑(y0.g 32).length:Int)->v9/\(0:Int)<=gI v11/\gI v11<v8->y1.i 50=0/\y1.i 61=gI (aa v6 0)/\y1.i 62=gI v11/\(y1.i 1=gI (aa v3 0)/\y1.s 2=gS (aa v4 1)/\y1.i 3=gI (aa v3 2)/\y1.i 4=gI (aa v3 3)/\y1.i 5=gI (aa v3 4)/\y1.i 6=gI (aa v3 5)/\y1.i 7=gI (aa v3 6)/\y1.i 8=gI (aa v3 7)/\y1.s 9=gS (aa v4 8)/\y1.g 10=gL (aa v4 9)/\y1.g 11=gL (aa v4 10)/\hT y1 100=hX (aa v4 11)/\(y1.p 12↔gI (aa v3 12)=1)/\y1.i 13=gI (aa v3 13)/\y1.i 14=gI (aa v3 14))/\hT y1 400=dJ (lO (gI (aZ (aK (y0.g 31) (gI (aa v10 0))))) (gI (aa v5 1)) (gI (aa v5 2)) (hX (aa v5 3)))/\y1.g 63=a_ (gI (aa v10 1)) (gG (gL (aa v5 4)) 0)/\y1.i 64=v8/\y1.g 65=a_ (gI (aa v10 0)) (List.take (Int.toNat 1) (y0.g 32)))/\(¬(((1:Int)<=1/\1<=(↑(y0.g 32).length:Int))/\v9/\(0:Int)<=gI v11/\gI v11<v8)->¬y1.i 50=0)) λy1=>(let i4:=(uE (y1.s 2) (y1.i 3) (y1.i 4) (y1.i 5) (y1.i 7) (y1.s 9) (y1.g 10) (y1.g 11) (hT y1 100) (y1.i 13) (y1.i 14) (hT y1 400) (y1.g 63) (y1.g 65));let i7:=(dv (y1.i 1) (y1.s 2) (y1.i 3) (y1.i 4) (y1.i 5) (y1.i 6) (y1.i 7) (y1.i 8) (y1.s 9) (y1.g 10) (y1.g 11) (hT y1 100) (y1.p 12) (y1.i 13) (y1.i 14));let j6:=(be (gR (y1.i 1) (y1.s 2) (y1.i 3) (y1.i 4) (y1.i 5) (hT y1 100) (y1.i 13) (y1.i 14)));(.ct v7 (λy2=>y2.i 66= ↑(y0.g 31).length/\hT y2 500=aO (y0.g 32)) λy2=>(let o8:=(G.node [G.int (y2.i 500),G.int (y2.i 501),G.int (y2.i 502),G.int (IntKind.u8.wrap (Int.ofNat ((aC v1 (y2.i 503)).xor (aC v1 1)))),G.int (y2.i 504),G.int (y2.i 505),G.int (y2.i 506),G.int (y2.i 507),G.int (y2.i 508),G.int (y2.i 509),G.int (y2.i 510),G.int (y2.i 511),G.int (y2.i 512),G.int (y2.i 513),G.int (y2.i 514),G.int (y2.i 515),G.int (y2.i 516),G.int (y2.i 517),G.int (y2.i 518),G.int (y2.i 519),G.int (y2.i 520),G.int (y2.i 521),G.int (y2.i 522),G.int (y2.i 523),G.int (y2.i 524),G.int (y2.i 525),G.int (y2.i 526),G.int (y2.i 527),G.int (y2.i 528),G.int (y2.i 529),G.int (y2.i 530),G.int (y2.i 531)]);(.two (y1.i 50=0) (qF i4 (hT y2 500) i7 j6 (hT y1 400) (y1.i 61) (y1.i 62) (y1.i 64) (y2.i 66) (y1.g 63) (y1.g 65) λy3=>(.two (y3.p 40) (qF i4 o8 i7 j6 (hT y1 400) (y1.i 61) (y1.i 62) (y1.i 64) (y2.i 66) (y1.g 63) (y1.g 65) λy4=>(.ax (¬y4.p 40))) (.ax v2))) (.ax v2)))))))))))))))) by
 clear hA
 conv=>zeta
 delta ic aZ ke Ig vM aK uE qF
 have hls:=ls_kv
 have hmd:=md_kv
 have hkv:=kv_eq
 refine bX rfl λ_=>bX rfl λ_=>bX rfl λ_=>bX rfl λ_=>bV ⟨trivial,by rw[hkv] at hls;exact hls,rfl⟩ λ_ y0 k0=>bW (λq=>absurd k0.1 q) λ_=>?_
 obtain⟨_,k1,k2,k3⟩:=k0
 rw[←hkv] at k1 k2
 have k0:Cv (cA kv) (y0.g 31) (y0.g 32) (y0.g 34):=by rw[k3,k1,k2];exact hmd
 clear k1 k2 k3 hmd hls hkv
 obtain⟨e1,e2,e3,hl⟩:=PL k0
 obtain⟨q1,q2,q3,q4,q5⟩:=PI PJ k0
 obtain⟨_,_,hE⟩:=q5 (by rw[e1];simp)
 rw[e1] at q1
 rw[e2] at q2
 rw[e1,e2,e3]
 have htk:=PM
 have gK:=PF (i:=1) hE (by decide) (by omega)
 clear q3 q4 q5 e1 e2 e3 k0
 generalize cA kv=E at *
 obtain⟨b4,b0,b1,b2,b3⟩:=bk_es E
 have g0:aq [kf E] 0=kf E:=rfl
 have g1:gI (aa (aq [G.node [G.int 0,G.int 1]] 0) 0)=0:=rfl
 have g2:gI (aa (aq [G.node [G.int 0,G.int 1]] 0) 1)=1:=rfl
 have g3:Int.toNat 0=0:=rfl
 simp only [g1,g2,g3,g0,b4,b0,b1,b2,b3]
 refine bW (λq=>absurd (by simp) q) λ_=>bX ⟨by decide,by simp⟩ λ_=>bV ⟨trivial,q1,q2,rfl,by simp⟩ λ_ y1 k1=>?_
 obtain⟨a1,a2,a3,⟨v1,v2,v3,v4,v5,v6,v7,v8,v9,va,vb,vc,vd,ve,vf⟩,w4,w5,w6,w7⟩:=k1.1 (by decide) (by simp) ⟨⟨by decide,by decide⟩,by decide,by omega⟩
 clear k1
 have vd:=propext vd
 refine bV ⟨trivial,q1,q2,rfl,by simp⟩ λ_ y2 k2=>bW (λ_=>?_) (λq=>absurd a1 q)
 rw[v1,v2,v3,v4,v5,v6,v7,v8,v9,va,vb,vc,vd,ve,vf,a2,a3,w4,w5,w6,w7]
 obtain⟨o1,o2,o3,o4,o5⟩:=Ka (E:=E) (i:=1)
 have gI2:=gK.2
 dsimp only [mL] at gI2
 have rOk:HOk (hT y2 500):=by rw[k2.2];exact o5
 refine bV ⟨trivial,⟨gK.1,fW _,o1,by omega,o3,by omega⟩,rOk⟩ λ_ y3 k3=>?_
 have t3:y3.p 40:=k3.2 (by rw[k2.1,k2.2,gI2];exact htk)
 refine bW (λ_=>?_) (λq=>absurd t3 q)
 obtain⟨f1,f2⟩:=TC rOk
 exact bV ⟨trivial,⟨gK.1,fW _,o1,by omega,o3,by omega⟩,f1⟩ λ_ y4 k4=>bX trivial λ_=>cj λt4=>f2 (TB (k3.1 t3) (k4.1 t4))
def Ub:bn 8 Qw:=bA 5 17 (ai (ll 1000001) eN) lN λz hA=>show Fm.den (let v2:=(0<=z.i 67/\z.i 67<= ↑(z.g 32).length);let v3:=(z.g 32=z.g 32/\z.g 31=z.g 31/\True);let v4:=(pG (z.i 67) (z.g 32));let v1:=(List.drop (ic) v4);let v0:Fm:=(.an v3 (.at ((0<=z.i 67->z.i 67<= ↑(z.g 32).length->(1:Int)=0/\0=z.i 67/\hZ=aO v4)/\(¬v2->(1:Int)=1/\(0:Int)=0/\hZ=hZ))));(.two (z.i 67<0) v0 (.two ((↑(z.g 32).length:Int)<z.i 67) v0 (.an (N_ (z.i 67) (z.g 32)) (Oa v1 λy0=>(.an v3 (.at ((0<=z.i 67->z.i 67<= ↑(z.g 32).length->(0:Int)=0/\z.i 67=z.i 67/\hT y0 300=aO v4)/\(¬v2->(0:Int)=1/\z.i 67=0/\hT y0 300=hZ))))))))) by
 dsimp only [Qw,Zb,J8,dg,hs,Zc] at hA;have:=λh=>@RowsOk.take (z.g 32) h (z.i 67).toNat;conv=>zeta
 repeat' with_reducible first|intro _|apply bV|apply bW|apply bX|apply cy|apply cj
 all_goals first|omega|grind [ao,am,ak,aP,aQ,aR,aS,aT,aU,aV,aW,aX,az,List.append_assoc,fW]
noncomputable section
def hUi(i x:Int)(y:Sy)(t:Nat):List Int:=(List.range 32).map λ(j:Nat)=>Ur (i=(j:Int)) x (y.i (t+j))
def hU(i x:Int)(y:Sy)(t:Nat):G:=.node ((List.range 32).map λ(j:Nat)=>.int (Ur (i=(j:Int)) x (y.i (t+j))))
def hU_ok{i x:Int}{y:Sy}{t:Nat}(h:HOk (hT y t))(h0:0<=x/\x<256):HOk (hU i x y t):=by
 have hb:=HOk.of_hT h;unfold HOk;refine⟨hUi i x y t,by unfold hU hN hUi;rw[aa4];rfl,by simp [hUi],λv hv=>?_⟩;obtain⟨j,hj,rfl⟩:=List.mem_map.1 hv;have:=hb j (List.mem_range.1 hj);unfold Ur;split
 ·exact h0
 ·exact this
def and_le(p:Int)(n:Nat)(hn:n<4294967296):0<=IntKind.i64.wrap (Int.ofNat ((aC (aj .i64) p).land (aC (aj .i64) n)))/\IntKind.i64.wrap (Int.ofNat ((aC (aj .i64) p).land (aC (aj .i64) n)))<=n:=by
 have e:aC (aj .i64) (n:Int)=n:=aa9 (Nat.lt_trans hn (by decide));rw[e];have h:(aC (aj .i64) p).land n<=n:=Nat.and_le_right;generalize (aC (aj .i64) p).land n=m at *;have:IntKind.i64.wrap (Int.ofNat m)=m:=by simp [IntKind.wrap,IntKind.bits,IntKind.signed];omega
 rw[this];omega
def Yl(p:Int):0<=IntKind.i64.wrap (Int.ofNat ((aC (aj .i64) p).land (aC (aj .i64) 31)))/\IntKind.i64.wrap (Int.ofNat ((aC (aj .i64) p).land (aC (aj .i64) 31)))<32:=by
 have:=and_le p 31 (by decide);constructor
 ·exact this.1
 ·exact Int.lt_of_le_of_lt this.2 (by decide)
def by_le(p:Int):0<=IntKind.u8.wrap (Int.ofNat ((aC (aj .u8) p).land (aC (aj .u8) 3)))/\IntKind.u8.wrap (Int.ofNat ((aC (aj .u8) p).land (aC (aj .u8) 3)))<256:=by rw[iZ];omega
def EF:FSpec:={tV with post:=λz y=>(y.i 50=0->XrP (z.g 31) (z.g 32) (z.i 61) (z.i 62) (z.i 66) y/\0<=y.i 64/\y.i 64<=200)/\(¬y.i 50=0->yL y)}
def Uc(h:Ok Tryz.prog 7 pP):Ok Tryz.prog 7 EF:=HR (S:=pP) EF.post (λz y hp q=>by
 obtain⟨q,q3⟩:=q;refine⟨λh0=>?_,λh0=>?_⟩
 ·obtain⟨h1,h2⟩:=Classical.not_not.1 λh=>q.2 h h0;obtain⟨_,a2,a3,a4,a5,a6,a7,a8⟩:=q.1 h1.1 h1.2 h2;have hb:=(PE (i:=z.i 61) hp.1 h2.1.1 (by have:=hp.2.2.1;have:=h1.2;have:=h2.1.2;omega)).1.2.2;refine⟨by unfold XrP;exact⟨h1,h2,a2,a3,a4,a5,a6,a7,a8⟩, ?_, ?_⟩
  ·rw[a7];exact Int.natCast_nonneg _
  ·rw[a7];exact Int.ofNat_le.2 hb
 ·obtain⟨z1,z2,z3,z4,z5,z6,z7,z8,z9,za,zb,zc,zd,ze⟩:=q3 λh=>h0 (q.1 h.1.1 h.1.2 h.2).1;unfold yL;have hr:RowsOk []:=λr hr=>absurd hr aaP;refine⟨?_,by rw[zc];exact dh,by rw[zd];exact hr,by rw[zd];decide,by rw[ze];exact hr,by rw[ze];decide⟩;unfold wi;rw[z1,z2,z3,z4,z5,z6,z7,z8,z9,za,zb];exact zi ⟨by decide,⟨by decide,by decide⟩,⟨by decide,by decide⟩,⟨by decide,by decide⟩,⟨by decide,by decide⟩,⟨by decide,by decide⟩,HM,HN,dh⟩) h
def Ym:FSpec:=⟨[.c (.v 13 201),.c (.i .i64 202),.c (.i .i64 203),.c (.i .i64 204),.c (.i .i64 205),.c (.i .u8 206),.ag enD,.c (.v 6 207),.ag (dg 208 2300),.ag (dg 209 2400)],[],λz=>(En (z.g 201)/\NfM (z.g 201)/\(z.g 201).length<=1125899906842624)/\(-9223372036854775808<=z.i 205/\z.i 205<9223372036854775808)/\((z.s 1002).length<=1125899906842624/\B8 (z.s 1002))/\(-9223372036854775808<=z.i 1003/\z.i 1003<9223372036854775808)/\(-9223372036854775808<=z.i 1004/\z.i 1004<9223372036854775808)/\(-9223372036854775808<=z.i 1005/\z.i 1005<9223372036854775808)/\(-9223372036854775808<=z.i 1013/\z.i 1013<9223372036854775808)/\(-9223372036854775808<=z.i 1014/\z.i 1014<9223372036854775808)/\QT 1002 (z.i 1007) (z.s 1009) (z.g 1010) (z.g 1011)/\HOk (hT z 1100)/\RowsOk (z.g 207)/\HOk (hT z 2300)/\HOk (hT z 2400),λ_=>.one (.c (.b 50)),λ_=>[],λz y=>y.p 50,lk⟩
end
def Ud:bn 7 EF:=Uc HT
end Go.Proofs.YthgjkeemmhcpfaaGreatDoor
