/- Part 19. -/
import Derived.Test.YthgjkeemmhcpfaaGreatDoorChecked
import Derived.WalkKit
import Derived.Maps.RangeWalk
import Derived.Maps.OwnSet
import Derived.WalkSpells
import Derived.Deep.QuietTactic
import Derived.BigQuiet
import Derived.RegionTactic
import Derived.ChangeAlike
import Derived.Deep.AppendLies
import Derived.Deep.RegionHeld
import Derived.Test.YthgjkeemmhcpfaaGreatDoorProg
import Derived.KernelRfl
import Derived.Test.YthgjkeemmhcpfaaGreatDoorP11
import Derived.Test.YthgjkeemmhcpfaaGreatDoorP12
import Derived.Test.YthgjkeemmhcpfaaGreatDoorP13
import Derived.Test.YthgjkeemmhcpfaaGreatDoorP14
import Derived.Test.YthgjkeemmhcpfaaGreatDoorP15
import Derived.Test.YthgjkeemmhcpfaaGreatDoorP16
import Derived.Test.YthgjkeemmhcpfaaGreatDoorP17
import Derived.Test.YthgjkeemmhcpfaaGreatDoorP18
set_option linter.all false
namespace Go.Proofs.YthgjkeemmhcpfaaGreatDoor
open Go.Sym
set_option maxRecDepth 100000
noncomputable section
abbrev pO(b:G):List G:=gL (aa b 4)
abbrev bOk(b:G):Prop:=jO (pO b)/\Pm (pO b)/\HOk (hX (aa b 3))/\gI (aa b 0)<9223372036854775808/\gI (aa b 1)<9223372036854775808/\gI (aa b 2)<9223372036854775808
def lw(l:List G):Prop:=∀b∈l,bOk b
def PE{l:List G}{i:Int}(h:lw l)(h0:0<=i)(hi:i<l.length):bOk (aq l i.toNat):=h _ (dp h0 hi)
def PF{es:List G}{i:Int}(h:jO es)(h0:0<=i)(hi:i<es.length):wh (aq es i.toNat)/\mL (aq es i.toNat)=0:=⟨tA h.2.1 h0 hi,lM h.1 h0 hi⟩
def Zb:List BSh:=[.cells 71 [.o,.v 11 31,.v 6 32,.b 33]]
def Zc(z:Sy):List BSh:=[.cells 71 [.o,.pv 11 (z.g 31),.pv 6 (z.g 32),.b 33]]
abbrev J8(z:Sy):Prop:=lw (z.g 31)/\RowsOk (z.g 32)/\(z.g 31).length=(z.g 32).length/\(z.g 31).length<=1000
abbrev X4(y:Sy)(e:G):Prop:=y.i 1=gI (aa e 0)/\y.s 2=gS (aa e 1)/\y.i 3=gI (aa e 2)/\y.i 4=gI (aa e 3)/\y.i 5=gI (aa e 4)/\y.i 6=gI (aa e 5)/\y.i 7=gI (aa e 6)/\y.i 8=gI (aa e 7)/\y.s 9=gS (aa e 8)/\y.g 10=gL (aa e 9)/\y.g 11=gL (aa e 10)/\hT y 100=hX (aa e 11)/\(y.p 12↔gI (aa e 12)=1)/\y.i 13=gI (aa e 13)/\y.i 14=gI (aa e 14)
abbrev xrG(z:Sy):Prop:=(0<=z.i 61/\z.i 61<z.i 66)/\(0<=z.i 62/\z.i 62<(pO (aq (z.g 31) (z.i 61).toNat)).length)
def tV:FSpec:=⟨[.c (.p 0),.ag [.i .i64 61,.i .i64 62],.c (.i .i64 66)],Zb,J8,λ_=>.tu [.ag rv,.c (.i .i64 50)],Zc,λz y=>(1<=z.i 66->z.i 66<=(z.g 32).length->xrG z->y.i 50=0/\y.i 61=z.i 61/\y.i 62=z.i 62/\X4 y (aq (pO (aq (z.g 31) (z.i 61).toNat)) (z.i 62).toNat)/\hT y 400=dJ (lO (gI (aa (aq (z.g 31) (z.i 61).toNat) 0)) (gI (aa (aq (z.g 31) (z.i 61).toNat) 1)) (gI (aa (aq (z.g 31) (z.i 61).toNat) 2)) (hX (aa (aq (z.g 31) (z.i 61).toNat) 3)))/\y.g 63=a_ (z.i 62) (gG (pO (aq (z.g 31) (z.i 61).toNat)) 0)/\y.i 64=(pO (aq (z.g 31) (z.i 61).toNat)).length/\y.g 65=a_ (z.i 61) (List.take (z.i 66).toNat (z.g 32)))/\(¬((1<=z.i 66/\z.i 66<=(z.g 32).length)/\xrG z)->¬y.i 50=0),none⟩
def RvZ(y:Sy):Prop:=y.s 2= []/\y.i 3=0/\y.i 4=0/\y.i 5=0/\y.i 7=0/\y.s 9= []/\y.g 10= []/\y.g 11= []/\hT y 100=hZ/\y.i 13=0/\y.i 14=0/\hT y 400=hZ/\y.g 63= []/\y.g 65= []
def pP:FSpec:={tV with post:=λz y=>tV.post z y/\(¬((1<=z.i 66/\z.i 66<=(z.g 32).length)/\xrG z)->RvZ y)}
def X5(h:Ok Tryz.prog 7 pP):Ok Tryz.prog 7 tV:=HR (S:=pP) tV.post (λz y hp q=>And.left q) h
def VC:FSpec:=⟨[.c (.p 0)],Zb,J8,λ_=>.one (.ag (dg 66 500)),Zc,λz y=>y.i 66=(z.g 31).length/\hT y 500=aO (z.g 32),none⟩
def J9:∀(n:Nat) (i:Int) (l:List G),l.length<=n->(a_ i l).length<=l.length:=by
 intro n
 induction n with
 |zero=>intro i l h;rw[gh (by omega)];exact aap _
 |succ n ih=>
  intro i l h;by_cases h2:2<=l.length
  ·have a1:=eX h2;have a2:=fY l.length;by_cases hi:i<(br l.length:Nat)
   ·rw[oz h2 hi,aah];have:=ih i (l.take (br l.length)) (by rw[aal];omega);rw[aal] at this;simp only [aaL];omega
   ·rw[oA h2 hi,aah];have:=ih (i-(br l.length:Nat)) (l.drop (br l.length)) (by rw[aao];omega);rw[aao] at this;simp only [aaL];omega
  ·rw[gh h2];exact aap _
def oM(i:Int)(l:List G):(a_ i l).length<=l.length:=J9 _ i l (aaa _)
def J_:∀(n:Nat) (i:Int) (l:List G),l.length<=n->RowsOk l->RowsOk (a_ i l):=by
 intro n
 induction n with
 |zero=>intro i l h _;rw[gh (by omega)];exact gM
 |succ n ih=>
  intro i l h hr;by_cases h2:2<=l.length
  ·have a1:=eX h2;have a2:=fY l.length;by_cases hi:i<(br l.length:Nat)
   ·rw[oz h2 hi];exact gJ (ih i _ (by rw[aal];omega) (hr.take _)) (cu _ (hr.drop _))
   ·rw[oA h2 hi];exact gJ (ih _ _ (by rw[aao];omega) (hr.drop _)) (cu _ (hr.take _))
  ·rw[gh h2];exact gM
def oN{i:Int}{l:List G}(h:RowsOk l):RowsOk (a_ i l):=J_ _ i l (aaa _) h
def Cx{l:List G}{n:Nat}{i:Int}(h0:0<=i)(hi:i<n):aq (l.take n) i.toNat=aq l i.toNat:=by unfold aq;rw[aag,aag,aar (by omega)]
def PG{l:List G}{n:Nat}{i:Int}(hi:(n:Int)<=i):aq (l.drop n) (i-n).toNat=aq l i.toNat:=by unfold aq;rw[aag,aag,aat,show n+(i-n).toNat=i.toNat by omega]
def Eq:∀(n:Nat) (i:Int) (l:List G),l.length<=n->RowsOk l->0<=i->i<l.length->gP (hX (aa (aq l i.toNat) 0)) i l.length (a_ i l)=(aO l,True):=by
 intro n
 induction n with
 |zero=>intro i l h _ h0 hi;omega
 |succ n ih=>
  intro i l h hr h0 hi;by_cases h2:2<=l.length
  ·have a1:=eX h2;have a2:=fY l.length;have en:((l.length:Int)).toNat=l.length:=aaq _;by_cases hk:i<(br l.length:Nat)
   ·have e:=ih i (l.take (br l.length)) (by rw[aal];omega) (hr.take _) h0 (by rw[aal];omega);rw[Cx h0 (by omega),show((l.take (br l.length)).length:Int)=(br l.length:Nat) by rw[aal];omega] at e;rw[oz h2 hk,yp (by omega) (by simp) (by rw[en];exact hk),List.dropLast_concat,en,e,gg h2];congr 2;rw[aah,aaL,Nat.add_sub_cancel];unfold aq;rw[aag,aax (aaa _),aa_];exact db (cu _ (hr.drop _))
   ·have e:=ih (i-(br l.length:Nat)) (l.drop (br l.length)) (by rw[aao];omega) (hr.drop _) (by omega) (by rw[aao];omega);rw[PG (by omega),show((l.drop (br l.length)).length:Int)=(l.length:Int)-(br l.length:Nat) by rw[aao];omega] at e;rw[oA h2 hk,yq (by omega) (by simp) (by rw[en];exact hk),List.dropLast_concat,en,e,gg h2];congr 2;rw[aah,aaL,Nat.add_sub_cancel];unfold aq;rw[aag,aax (aaa _),aa_];exact db (cu _ (hr.take _))
  ·have e1:l.length=1:=by omega
   rw[gh h2,lQ (by omega),lP e1,show i.toNat=0 by omega];simp
def wN{i:Int}{l:List G}{h:G}{n:Int}(hr:RowsOk l)(h0:0<=i)(hi:i<l.length)(hn:n=l.length)(hh:h=hX (aa (aq l i.toNat) 0)):gP h i n (a_ i l)=(aO l,True):=by subst hn;subst hh;exact Eq _ i l (aaa _) hr h0 hi
def Cy{es H:List G}{ae ab n:Int}{ix tm tn:Int}{pv:G}(hE:1<=es.length/\es.length<=200)(h0:0<=ae)(hi:ae<es.length)(hH:RowsOk H)(hn:n<=H.length)(hn1:n<=1000000)(b0:0<=ab)(bi:ab<n)(hb:hX (aa (aq H ab.toNat) 0)=kz ix tm tn pv es):kw 0 (be (ui (aq es ae.toNat))) (dJ (lO ix tm tn pv)) ab ae es.length n (a_ ae (gG es 0)) (a_ ab (H.take n.toNat)) (aO (H.take n.toNat)):=by
 have e1:gP (be (ui (aq es ae.toNat))) ae es.length (a_ ae (gG es 0))=(aO (gG es 0),True):=by
  refine wN (jR es) h0 (by rw[jQ];exact hi) (by rw[jQ]) ?_;have:=Oe (es:=es) (i:=ae.toNat) (by omega);have e:aq (gG es 0) ae.toNat= .node [be (ui (aq es ae.toNat))]:=by unfold aq at this⊢;rw[aag,this];rfl
  rw[e];exact(db (gB _)).symm
 have e2:CO (be (ui (aq es ae.toNat))) (dJ (lO ix tm tn pv)) ae es.length (a_ ae (gG es 0))=kz ix tm tn pv es:=by rw[Eb,Ea,Ed,e1,D2,aaq]
 have e3:gP (kz ix tm tn pv es) ab n (a_ ab (H.take n.toNat))=(aO (H.take n.toNat),True):=by refine wN (hH.take _) b0 (by rw[aal];omega) (by rw[aal];omega) ?_;rw[Cx b0 (by omega),hb]
 rw[Hd,e2,yA,e3,e1]
 exact⟨⟨rfl,by omega,⟨h0,hi⟩,trivial⟩,⟨b0,bi⟩,by omega,trivial,rfl⟩
def PH{es L H A:List G}(h:Cv es L H A):(X1 es=0/\L= [kf es]/\H= [.node [Kr es]]/\A=Tx (es.length-1))∨(¬X1 es=0/\L= []/\H= []/\A= []):=by
 unfold Cv at h;by_cases hb:X1 es=0
 ·exact .inl ⟨hb,h.1 hb⟩
 ·exact .inr ⟨hb,h.2 hb⟩
def Tz:lw []:=by unfold lw;exact λ_ h=>absurd h aaP
def PI{l L H A:List G}(hv:kx l)(h:Cv (cA l) L H A):lw L/\RowsOk H/\L.length=H.length/\L.length<=1/\(1<=L.length->L= [kf (cA l)]/\H= [.node [Kr (cA l)]]/\jO (cA l)):=by
 have he:=pN hv;rcases PH h with⟨hb,rfl,rfl,_⟩|⟨_,rfl,rfl,_⟩
 ·obtain⟨g1,_,_⟩:=Tw he hb;have hok:HOk hZ:=dh;have hk:lw [kf (cA l)]:=by unfold lw;intro b hb';rw[List.mem_singleton.1 hb'];refine⟨g1,HK he, ?_,by show(0:Int)<_;decide,by show(0:Int)<_;decide,by show(0:Int)<_;decide⟩;show HOk (hX hZ);rw[db hok];exact hok
  exact⟨hk,gJ gM (mQ _ _ _ _ _),rfl,aaa _,λ_=>⟨rfl,rfl,g1⟩⟩
 ·exact⟨Tz,gM,rfl,aap _,λh=>by simp at h⟩
def bk_es(es:List G):gL (aa (kf es) 4)=es/\gI (aa (kf es) 0)=0/\gI (aa (kf es) 1)=0/\gI (aa (kf es) 2)=0/\hX (aa (kf es) 3)=hZ:=by refine⟨rfl,rfl,rfl,rfl, ?_⟩;show hX hZ=hZ;exact db dh
def h1_at(es:List G):hX (aa (aq [G.node [Kr es]] 0) 0)=kz 0 0 0 hZ es:=db (mQ _ _ _ _ _)
def TA(l:List G):1<=(cA l).length:=by rw[oL];omega
def mk_tx{l:List G}{i:Int}(h0:0<=i)(hi:i<(cA l).length):B8 (gS (aa (aq (cA l) i.toNat) 1)):=by
 by_cases e:i=0
 ·subst e;rw[zj];exact .cons (by decide) PD
 ·rw[oL] at hi;have h2:aq (cA l) i.toNat=aq (uj l 0) (i-1).toNat:=by rw[zj,show i.toNat=(i-1).toNat+1 by omega];rfl
  have h1:=zh l 0 (i-1).toNat (by omega);have h3:uj l 0=J6 l 0:=by unfold uj;rfl
  rw[h2,h3,h1,lu];exact PD
def vs_of{l:List G}(h:Za l)(hn:wL 1002 l)(hw:m_ [.node [.node l]] 0<=1000):kx l:=by have e:m_ [.node [.node l]] 0=2+jn 1002 l 0+m_ [.node [.node l]] (0+1):=gH (by omega) (by simp);have hl:=wM (l:=l) (by omega);unfold kx;exact⟨h,hn,by omega,hl⟩
def kv:List G:=[.node [.int 3,.int 5,.int 0,.str [],.node [],.node []]]
def kv_eq:kv= [.node [.int 3,.int 5,.int 0,.str [],.node [],.node []]]:=rfl
def PJ:kx kv:=by
 have h1:Za kv:=λg hg=>by rw[List.mem_singleton.1 hg];rfl
 have hb:Y9 5 [] [] []:=⟨⟨by decide,by decide⟩,by decide,by decide,by decide⟩
 have h2:wL 1002 kv:=by unfold wL;intro g hg;rw[List.mem_singleton.1 hg];exact⟨hb,λx hx=>absurd hx aaP⟩
 refine vs_of h1 h2 ?_;rw[gH (by omega) (by simp),yZ (by simp)];show 2+jn 1002 kv 0+0<=1000;rw[ls (by omega) (by unfold kv;simp),oJ (by unfold kv;simp)];show 2+(1+0/20+0+0+0)+0<=1000;decide
def mS:cA kv= [Ks,lW 0 (.node [.int 3,.int 5,.int 0,.str [],.node [],.node []])]:=by unfold cA uj kv;rfl
def VD:mL Ks=0:=by have hz:hX hZ=hZ:=db dh;refine fA ?_ (by rintro⟨h,_⟩;exact absurd (show(1:Int)=2 from h) (by decide));exact(BH (show(1:Int)=1 from rfl)).2 ⟨by decide,rfl,rfl,rfl,(bw _ _ _ _ _ _).2 ⟨rfl,rfl,rfl,rfl,rfl,rfl⟩,hz,by show ¬(0:Int)=1;decide,rfl,rfl⟩
def kn_ch:gf 16 3 5 0 [] [] []=0:=by rw[te (DF ((Bn rfl).2 ⟨rfl,rfl,rfl,rfl⟩) (by simp) (by simp))];exact qZ (by simp)
def kn_en:iC 3 5 0 [] [] []=0:=DI kn_ch (by rw[q_ 15 rfl];have:=bO (n:=qk 5) (ya ⟨by decide,by decide⟩).2;simp only [aah,aaL];omega)
def kn_rv:mL (lW 0 (.node [.int 3,.int 5,.int 0,.str [],.node [],.node []]))=0:=by rw[lu];refine lg ((BI (show(2:Int)=2 from rfl)).2 ⟨by decide,by decide,by decide,rfl,rfl,rfl,λh=>absurd (show(0:Int)=1 from h) (by decide)⟩) ⟨rfl,by show ¬(0:Int)=1;decide⟩ kn_en ?_;exact(db (HO _ _ _ _ _ _)).symm
def PK:X1 (cA kv)=0:=by
 have hE:=pN PJ;have hl:(cA kv).length=2:=by rw[mS];rfl
 have h1:fL (cA kv) 0=0:=by rw[ol (by omega) (by omega) (by rw[mS];exact VD),ol (by omega) (by omega) (by rw[mS];exact kn_rv),yg (by omega)]
 refine mM (by unfold yh;exact⟨by decide,by decide,by decide,by omega,by omega⟩) h1 ?_;have h2:=yj (d:=True) h1 (tU hE) 2 0 (by omega) (by omega);have h3:=io (ix:=0) (tm:=0) (tn:=0) dh (by decide) (by decide) (by decide);have h4:=fB (n:=(cA kv).length) (by omega);unfold mX;simp only [aah];omega
def VE:Tx ((cA kv).length-1)= [.node [.int 0,.int 1]]:=by
 have hl:(cA kv).length=2:=by rw[mS];rfl
 rw[show(((cA kv).length:Nat):Int)-1=0+1 by omega,atN_s (by omega),atN_0 (by omega)];rfl
def PL{L H A:List G}(h:Cv (cA kv) L H A):L= [kf (cA kv)]/\H= [.node [Kr (cA kv)]]/\A= [.node [.int 0,.int 1]]/\(cA kv).length=2:=by
 have hl:(cA kv).length=2:=by rw[mS];rfl
 rcases PH h with⟨_,h1,h2,h3⟩|⟨hb,_⟩
 ·exact⟨h1,h2,by rw[h3,VE],hl⟩
 ·exact absurd PK hb
def PM:kw 0 (be (ui (aq (cA kv) 1))) (dJ (lO 0 0 0 hZ)) 0 1 (cA kv).length 1 (a_ 1 (gG (cA kv) 0)) (a_ 0 (List.take (1:Int).toNat [.node [Kr (cA kv)]])) (aO [.node [Kr (cA kv)]]):=by
 have hl:(cA kv).length=2:=by rw[mS];rfl
 exact Cy (es:=cA kv) (H:=[.node [Kr (cA kv)]]) (ae:=1) (ab:=0) (n:=1) (by omega) (by decide) (by omega) (gJ gM (mQ _ _ _ _ _)) (by decide) (by decide) (by decide) (by decide) (h1_at _)
def TB{er:Int}{lh hd:G}{ab ae c n:Int}{ip op:List G}{r r':G}(h:kw er lh hd ab ae c n ip op r)(h':kw er lh hd ab ae c n ip op r'):r=r':=((oE _ _ _ _ _ _ _ _ _ _).1 h).2.symm.trans ((oE _ _ _ _ _ _ _ _ _ _).1 h').2
def X6:FSpec:=⟨[],[],λ_=>True,λ_=>.one (.c (.b 50)),λ_=>[],λz y=>y.p 50,lk⟩
attribute [irreducible] lw kv
end
set_option maxHeartbeats 4000000
abbrev Tq71(a:List G)(b:Int):=Fm.ct (a.length<1000001/\a.length<=1000000/\RowsOk a/\0<=b/\b<=1000000) (λy=>y.g 30=a_ b a/\(y.g 30).length<=a.length)
def HT:bn 7 pP:=bA 55 306771445239490293540679322872081 (ai Cl (ai BQ (ai BP (ai (GP 1000001) eN)))) lN λz hA=>show Fm.den (let vx:=(0:Int)=0;let v3:=(aK (z.g 31) (z.i 61));let v6:=(z.i 62<0);let v9:=(lO (gI (aa v3 0)) (gI (aa v3 1)) (gI (aa v3 2)) (hX (aa v3 3)));let v11:=(z.i 66<=z.i 61);let i4:=(z.i 61<0);let i7:=(gL (aa v3 4));let v2:=(aK i7 (z.i 62));let v5:=((0:Int)=gI (aa v2 0)/\ []=gS (aa v2 1)/\(0:Int)=gI (aa v2 2)/\(0:Int)=gI (aa v2 3)/\(0:Int)=gI (aa v2 4)/\(0:Int)=gI (aa v2 5)/\(0:Int)=gI (aa v2 6)/\(0:Int)=gI (aa v2 7)/\ []=gS (aa v2 8)/\ []=gL (aa v2 9)/\ []=gL (aa v2 10)/\hZ=hX (aa v2 11)/\(false=true↔gI (aa v2 12)=1)/\(0:Int)=gI (aa v2 13)/\(0:Int)=gI (aa v2 14));let v8:=(↑i7.length:Int);let j6:=(pG (z.i 66) (z.g 32));let v7:=(List.drop (ic) j6);let o8:=(0<=z.i 61/\z.i 61<z.i 66);let v4:=((1<=z.i 66/\z.i 66<= ↑(z.g 32).length)/\o8/\0<=z.i 62/\z.i 62<v8);let v10:=(¬v4->ta/\vx/\vx/\vx/\vx/\ta/\xU/\xU/\hZ=hZ/\vx/\vx/\hZ=hZ/\xU/\xU);let z':=(z.g 32=z.g 32/\z.g 31=z.g 31/\True);let B':=(cr (z.i 61) (z.g 31));let v1:Fm:=(.an z' (.at (((1<=z.i 66->z.i 66<= ↑(z.g 32).length->o8/\0<=z.i 62/\z.i 62<v8->(1:Int)=0/\0=z.i 61/\0=z.i 62/\v5/\hZ=dJ v9/\ []=a_ (z.i 62) (gG i7 0)/\(0:Int)=v8/\ []=a_ (z.i 61) j6)/\(¬v4->¬(1:Int)=0))/\v10)));let v0:Fm:=(.an z' (.at (((1<=z.i 66->z.i 66<= ↑(z.g 32).length->o8/\0<=z.i 62/\z.i 62<v8->(7:Int)=0/\0=z.i 61/\0=z.i 62/\v5/\hZ=dJ v9/\ []=a_ (z.i 62) (gG i7 0)/\(0:Int)=v8/\ []=a_ (z.i 61) j6)/\(¬v4->¬(7:Int)=0))/\v10)));(.two (z.i 66<1) v1 (.two ((↑(z.g 32).length:Int)<z.i 66) v1 (.two i4 (.an i4 (.an i4 (.an i4 (.an i4 v0)))) (.an (¬i4) (.an (¬i4) (.an (¬i4) (.an (¬i4) (.two v11 (.an v11 (.an v11 (.an v11 v0))) (.an (¬v11) (.an (¬v11) (.an (¬v11) (.two v6 (.an v6 (.an v6 (.an v6 (.an v6 (.an v6 (.an v6 (.an v6 (.an v6 (.an v6 (.an v6 (.an v6 (.an v6 (.an v6 v0))))))))))))) (.an (¬v6) (.an (¬v6) (.an (¬v6) (.an (¬v6) (.an (¬v6) (.an (¬v6) (.an (¬v6) (.an (¬v6) (.an B' (.an (¬v6) (.an (¬v6) (.an (¬v6) (.an (¬v6) (.an (¬v6) (.two (v8<=z.i 62) v0 (.an (¬i4) (.an (¬((↑(z.g 31).length:Int)<=z.i 61)) (.an B' (.ct (qn i7) (λy0=>y0.i 31=gI (aa v3 0)/\y0.i 32=gI (aa v3 1)/\y0.i 33=gI (aa v3 2)/\hT y0 400=hX (aa v3 3)/\y0.g 34=lq i7 0) λy0=>(let j8:=(aK (y0.g 34) (z.i 62));(.ct (qn (y0.g 34)) (λy1=>y1.g 30=gG (y0.g 34) 0) λy1=>(.an (cr (z.i 62) (y0.g 34)) (Xj (hT y0 400) (y0.i 31) (y0.i 32) (y0.i 33) (lO (y0.i 31) (y0.i 32) (y0.i 33) (hT y0 400)) λy2=>(Tq71 (y1.g 30) (z.i 62) λy3=>(.an (N_ (z.i 66) (z.g 32)) (Tq71 v7 (z.i 61) λy4=>(.an (z.g 32=z.g 32/\z.g 31=z.g 31/\(y4.g 30).length=(y4.g 30).length/\(y3.g 30).length=(y3.g 30).length/\True) (.at (((1<=z.i 66->z.i 66<= ↑(z.g 32).length->o8/\0<=z.i 62/\z.i 62<v8->(0:Int)=0/\z.i 61=z.i 61/\z.i 62=z.i 62/\(gI (aa j8 0)=gI (aa v2 0)/\gS (aa j8 1)=gS (aa v2 1)/\gI (aa j8 2)=gI (aa v2 2)/\gI (aa j8 3)=gI (aa v2 3)/\gI (aa j8 4)=gI (aa v2 4)/\gI (aa j8 5)=gI (aa v2 5)/\gI (aa j8 6)=gI (aa v2 6)/\gI (aa j8 7)=gI (aa v2 7)/\gS (aa j8 8)=gS (aa v2 8)/\gL (aa j8 9)=gL (aa v2 9)/\gL (aa j8 10)=gL (aa v2 10)/\hX (aa j8 11)=hX (aa v2 11)/\(gI (aa j8 12)=1↔gI (aa v2 12)=1)/\gI (aa j8 13)=gI (aa v2 13)/\gI (aa j8 14)=gI (aa v2 14))/\hT y2 300=dJ v9/\y3.g 30=a_ (z.i 62) (gG i7 0)/\(↑(y1.g 30).length:Int)=v8/\y4.g 30=a_ (z.i 61) j6)/\(¬v4->¬(0:Int)=0))/\(¬v4->gS (aa j8 1)= []/\gI (aa j8 2)=0/\gI (aa j8 3)=0/\gI (aa j8 4)=0/\gI (aa j8 6)=0/\gS (aa j8 8)= []/\gL (aa j8 9)= []/\gL (aa j8 10)= []/\hX (aa j8 11)=hZ/\gI (aa j8 13)=0/\gI (aa j8 14)=0/\hT y2 300=hZ/\y3.g 30= []/\y4.g 30= []))))))))))))))))))))))))))))))))))))))))))) by
 dsimp only [pP,tV,Zb,J8,rv,en,hs,Zc,xrG,pO,X4,RvZ] at hA;have a1:=@PE (z.g 31) (z.i 61);have a2:=@HE (pO (aq (z.g 31) (z.i 61).toNat));have a3:=jR (pO (aq (z.g 31) (z.i 61).toNat));have a4:=jQ (pO (aq (z.g 31) (z.i 61).toNat));have:=λn h=>@RowsOk.take (z.g 32) h n;dsimp only [pO,bOk] at a1 a2 a3 a4;conv=>zeta
 repeat' with_reducible first|intro _|apply bV|apply bW|apply bX|apply cy|apply cj
 all_goals first|omega|grind [ao,am,ak,aP,aQ,aR,aS,aT,aU,aV,aW,aX,az,List.append_assoc,fW]
def X7:bn 7 tV:=X5 HT
noncomputable section
end
noncomputable section
def Ka{E:List G}{i:Int}:RowsOk (a_ i (gG E 0))/\(a_ i (gG E 0)).length<=E.length/\RowsOk (a_ 0 (List.take (Int.toNat 1) [.node [Kr E]]))/\(a_ 0 (List.take (Int.toNat 1) [.node [Kr E]])).length<=1/\HOk (aO [.node [Kr E]]):=by
 have hk:RowsOk [.node [Kr E]]:=gJ gM (mQ _ _ _ _ _)
 refine⟨oN (jR E), ?_,oN (hk.take _),oM _ _,cu _ hk⟩
 have:=oM i (gG E 0)
 rwa [jQ] at this
def xor1{v:Int}(h:0<=v/\v<256):(0<=IntKind.u8.wrap (Int.ofNat ((aC (aj .u8) v).xor (aC (aj .u8) (1:Int))))/\IntKind.u8.wrap (Int.ofNat ((aC (aj .u8) v).xor (aC (aj .u8) (1:Int))))<256)/\¬v=IntKind.u8.wrap (Int.ofNat ((aC (aj .u8) v).xor (aC (aj .u8) (1:Int)))):=by
 obtain⟨n,rfl⟩:∃n:Nat,v=n:=⟨v.toNat,by omega⟩
 have e1:aC (aj .u8) (n:Int)=n:=by show n%256=n;omega
 have e2:aC (aj .u8) (1:Int)=1:=rfl;have e3:n ^^^ 1<256:=Nat.xor_lt_two_pow (n:=8) (by omega) (by decide);rw[e1,e2,iZ];have e4:Int.ofNat (n.xor 1)%256=((n ^^^ 1:Nat):Int):=by show(((n ^^^ 1:Nat):Int))%256=_;omega
 rw[e4];refine⟨by omega,λh=>?_⟩;have h:n ^^^ 1=n:=by omega
 have:n ^^^ (n ^^^ 1)=n ^^^ n:=by rw[h]
 rw[←Nat.xor_assoc,Nat.xor_self,Nat.zero_xor] at this;cases this
def TC{y:Sy}(h:HOk (hT y 500)):HOk (G.node [G.int (y.i 500),G.int (y.i 501),G.int (y.i 502),G.int (Go.IntKind.u8.wrap (Int.ofNat ((aC (aj Go.IntKind.u8) (y.i 503)).xor (aC (aj Go.IntKind.u8) (1:Int))))),G.int (y.i 504),G.int (y.i 505),G.int (y.i 506),G.int (y.i 507),G.int (y.i 508),G.int (y.i 509),G.int (y.i 510),G.int (y.i 511),G.int (y.i 512),G.int (y.i 513),G.int (y.i 514),G.int (y.i 515),G.int (y.i 516),G.int (y.i 517),G.int (y.i 518),G.int (y.i 519),G.int (y.i 520),G.int (y.i 521),G.int (y.i 522),G.int (y.i 523),G.int (y.i 524),G.int (y.i 525),G.int (y.i 526),G.int (y.i 527),G.int (y.i 528),G.int (y.i 529),G.int (y.i 530),G.int (y.i 531)])/\¬hT y 500=G.node [G.int (y.i 500),G.int (y.i 501),G.int (y.i 502),G.int (Go.IntKind.u8.wrap (Int.ofNat ((aC (aj Go.IntKind.u8) (y.i 503)).xor (aC (aj Go.IntKind.u8) (1:Int))))),G.int (y.i 504),G.int (y.i 505),G.int (y.i 506),G.int (y.i 507),G.int (y.i 508),G.int (y.i 509),G.int (y.i 510),G.int (y.i 511),G.int (y.i 512),G.int (y.i 513),G.int (y.i 514),G.int (y.i 515),G.int (y.i 516),G.int (y.i 517),G.int (y.i 518),G.int (y.i 519),G.int (y.i 520),G.int (y.i 521),G.int (y.i 522),G.int (y.i 523),G.int (y.i 524),G.int (y.i 525),G.int (y.i 526),G.int (y.i 527),G.int (y.i 528),G.int (y.i 529),G.int (y.i 530),G.int (y.i 531)]:=by
 have hb:=h.of_hT;obtain⟨x1,x2⟩:=xor1 (hb 3 (by decide));constructor
 ·unfold HOk;refine⟨(ko y 500).set 3 (Go.IntKind.u8.wrap (Int.ofNat ((aC (aj Go.IntKind.u8) (y.i 503)).xor (aC (aj Go.IntKind.u8) (1:Int))))),by with_unfolding_all rfl,by unfold ko;rw[aaY,aaK,abI],λx hx=>?_⟩;rcases List.mem_or_eq_of_mem_set hx with hx|rfl
  ·unfold ko at hx;obtain⟨j,hj,rfl⟩:=List.mem_map.1 hx;exact hb j (List.mem_range.1 hj)
  ·exact x1
 ·intro e;have e2:gI (aa (hT y 500) 3)=y.i 503:=by with_unfolding_all rfl
  have:gI (aa (hT y 500) 3)=gI (aa (G.node [G.int (y.i 500),G.int (y.i 501),G.int (y.i 502),G.int (Go.IntKind.u8.wrap (Int.ofNat ((aC (aj Go.IntKind.u8) (y.i 503)).xor (aC (aj Go.IntKind.u8) (1:Int))))),G.int (y.i 504),G.int (y.i 505),G.int (y.i 506),G.int (y.i 507),G.int (y.i 508),G.int (y.i 509),G.int (y.i 510),G.int (y.i 511),G.int (y.i 512),G.int (y.i 513),G.int (y.i 514),G.int (y.i 515),G.int (y.i 516),G.int (y.i 517),G.int (y.i 518),G.int (y.i 519),G.int (y.i 520),G.int (y.i 521),G.int (y.i 522),G.int (y.i 523),G.int (y.i 524),G.int (y.i 525),G.int (y.i 526),G.int (y.i 527),G.int (y.i 528),G.int (y.i 529),G.int (y.i 530),G.int (y.i 531)]) 3):=by rw[e]
  exact x2 (e2.symm.trans this)
end
def X8:bn 35 VC:=bA 1 0 (ai (ll 1000001) eN) lN λz hA=>show Fm.den (let v0:=(↑(z.g 31).length:Int);(Oa (z.g 32) λy0=>(.an (z.g 32=z.g 32/\z.g 31=z.g 31/\True) (.at (v0=v0/\hT y0 300=aO (z.g 32)))))) by
 dsimp only [VC,Zb,J8,dg,hs,Zc] at hA;conv=>zeta
 repeat' with_reducible first|intro _|apply bV|apply bW|apply bX|apply cy|apply cj
 all_goals first|omega|grind [ao,am,ak,aP,aQ,aR,aS,aT,aU,aV,aW,aX,az,List.append_assoc,fW]
open Go.RowKit Go.Maps
def jT(v:Value):Option (DataW Unit×List MemPlace):=match v with | .pointer (some ⟨b,0,none⟩)=>some (.lit (.int .i64 b),[])|_=>none
def tW{v:Value}{y:DataW Unit×List MemPlace}(h:jT v=some y):∃b:Nat,v= .pointer (some ⟨b,0,none⟩)/\y=(.lit (.int .i64 b),[]):=by
 unfold jT at h;split at h
 ·injection h with h;exact⟨_,rfl,h.symm⟩
 ·cases h
def X9{key:Value}{kl:Lit}(h:keyOf Tryz.prog 9 key=some kl):∃s,key= .string s:=by cases key <;> simp [keyOf,Tryz.underlying9,mapKey] at h;exact⟨_,rfl⟩
def VF(w:World)(x:DataW Unit):Nat:=match x with
 | .lit (.int .i64 b)=>(match w.cell? ⟨b.toNat,0,none⟩ with|some (.slice _ l _)=>l|_=>0)
 |_=>0
def dj(f:DataW Unit->Nat)(l:List (Lit×DataW Unit)):Nat:=(l.map λp=>f p.2).sum
def PN(f:DataW Unit->Nat)(es:List (Lit×DataW Unit))(left:Lit->Bool):Nat:=dj f (es.filter λp=>!left p.1)
def PO{f:DataW Unit->Nat}{left:Lit->Bool}{kl:Lit}{x:DataW Unit}(hs:∀z:Lit,z.sameKey kl=true↔z=kl)(hl:left kl=true):∀{es:List (Lit×DataW Unit)},es.Pairwise (λp q=>p.1≠q.1)->(kl,x)∈es->
 PN f es (λz=>left z && !z.sameKey kl)=PN f es left+f x:=by
 intro es
 induction es with
 |nil=>intro _ h;cases h
 |cons p es ih=>
  intro hp hm
  obtain⟨h1,h2⟩:=List.pairwise_cons.1 hp
  unfold PN at ih⊢
  by_cases e:p.1=kl
  ·have hx:p=(kl,x):=by
    rcases List.mem_cons.1 hm with h|h
    ·exact h.symm
    ·exact absurd e (h1 _ h)
   subst hx;have hr:es.filter (λp=>!(left p.1 && !p.1.sameKey kl))=es.filter (λp=>!left p.1):=List.filter_congr λq hq=>by
    have:q.1.sameKey kl=false:=by
     cases hk:q.1.sameKey kl with
     |false=>rfl
     |true=>exact absurd ((hs _).1 hk).symm (h1 _ hq)
    rw[this];simp
   have hk:kl.sameKey kl=true:=(hs _).2 rfl;rw[abJ (by simp [hk]),abK (by simp [hl]),hr];simp [dj];omega
  ·have hm:(kl,x)∈es:=by
    rcases List.mem_cons.1 hm with h|h
    ·subst h;exact absurd rfl e
    ·exact h
   have:=ih h2 hm
   have hk:p.1.sameKey kl=false:=by
    cases hk:p.1.sameKey kl with
    |false=>rfl
    |true=>exact absurd ((hs _).1 hk) e
   cases hlp:left p.1 with
   |true=>rw[abK (by simp [hlp,hk]),abK (by simp [hlp]),this]
   |false=>rw[abJ (by simp [hlp]),abJ (by simp [hlp])];simp only [dj,aaB,abh] at this⊢;omega
def Er(f:DataW Unit->Nat)(left:Lit->Bool):∀es:List (Lit×DataW Unit),PN f es left<=dj f es
 | []=>aaa _
 |p::es=>by
  have:=Er f left es
  unfold PN at this⊢
  cases h:left p.1 with
  |true=>rw[abK (by simp [h])];simp only [dj,aaB,abh] at this⊢;omega
  |false=>rw[abJ (by simp [h])];simp only [dj,aaB,abh] at this⊢;omega
def TD{f:DataW Unit->Nat}{left:Lit->Bool}(h:∀k,left k=false)(es:List (Lit×DataW Unit)):PN f es left=dj f es:=by unfold PN;rw[List.filter_eq_self.2 (λp _=>by rw[h];rfl)]
def Kb{f:DataW Unit->Nat}{es:List (Lit×DataW Unit)}(hk:∀p∈es,WideAt.IsKeyLit p.1):PN f es (Maps.has (.map es))=0:=by unfold PN;rw[List.filter_eq_nil_iff.2 (λp hp=>by have:Maps.has (DataW.map es) p.1=true:=List.any_eq_true.2 ⟨p,hp,WideAt.sameKey_self (hk p hp)⟩;rw[this];simp)];rfl
def VG{es:List (Lit×DataW Unit)}{kl:Lit}{y:DataW Unit}(h:∀zd,(DataW.map es).atKey kl zd=y):(kl,y)∈es:=by
 cases hf:es.find? (λp=>p.1.sameKey kl) with
 |none=>have a:=h (.lit (.int .i64 0));have b:=h (.lit (.int .i64 1));simp only [DataW.atKey,hf] at a b;rw[←b] at a;cases a
 |some p=>have h1:=List.mem_of_find?_eq_some hf;have h2:p.1.sameKey kl=true:=List.find?_some (p:=λp:Lit×DataW Unit=>p.1.sameKey kl) hf;have h2:=WideAt.sameKey_eq h2;have h3:=h y;simp only [DataW.atKey,hf] at h3;rw[←h2, ←h3];exact h1
def TE{kl:Lit}(hk:WideAt.IsKeyLit kl):∀z:Lit,z.sameKey kl=true↔z=kl:=λz=>⟨λh=>WideAt.sameKey_eq h,λh=>by subst h;exact WideAt.sameKey_self hk⟩
def pq_or(x:Int)(n:Nat)(h:n<4294967296):IntKind.wrap .u32 (bits BinOp.or IntKind.u64 (IntKind.u64.wrap (x * 4294967296)) (n:Int))=n:=by
 have e:∀k:Nat,((k:Int)%4294967296)=((k%4294967296:Nat):Int):=λk=>by omega
 rw[IntKind.wrap_u32];unfold bits;show(IntKind.u64.wrap ((BitVec.ofInt 64 _ ||| BitVec.ofInt 64 _).toNat:Int))%4294967296=_;rw[IntKind.wrap_u64,IntKind.wrap_u64,BitVec.toNat_or,BitVec.toNat_ofInt,BitVec.toNat_ofInt];have e1:((x * 4294967296%18446744073709551616)%((2 ^ 64:Nat):Int)).toNat%4294967296=0:=by omega
 have e2:((n:Int)%((2 ^ 64:Nat):Int)).toNat%4294967296=n:=by omega
 have e3:∀a b:Nat,(((a ||| b:Nat):Int)%18446744073709551616)%4294967296=(((a%4294967296) ||| (b%4294967296):Nat):Int):=λa b=>by
  have:(a ||| b)%2 ^ 32=(a%2 ^ 32) ||| (b%2 ^ 32):=Nat.or_mod_two_pow;have h2:(((a ||| b:Nat):Int)%18446744073709551616)%4294967296=(((a ||| b)%4294967296:Nat):Int):=by omega
  rw[h2];exact congrArg _ this
 rw[e3,e1,e2,Nat.zero_or]
def TF(f:Nat)(a:Option Addr)(len cap:Nat)(lt:Int)(w:World)(c0:w.cell? ⟨f,0,none⟩=some (.slice a len cap))(c1:w.cell? ⟨f,1,none⟩=some (.int .u32 lt))(hn:len<4294967296):
 Calls Tryz.prog 240 #[.pointer (some ⟨f,0,none⟩)] w λe w'=>(∃x,e= .returned (.int .u64 x)/\IntKind.wrap .u32 x=len)/\∃n,w'=w.drewN n:=by
 go_enter Tryz.func240,Tryz.ntmps240
 go_wp2_with fail
 go_quiet (fail)
 go_wp2
 go_ret
 refine⟨⟨_,rfl, ?_⟩,_,rfl⟩
 rw[pq_or _ _ hn]
def ba{w w':World}(h:w.grownBy w' none){p:Addr}{v:Value}(hc:w.cell? p=some v):w'.cell? p=some v:=h.cell hc (by simp)
structure PkF(w:World)(f n:Nat):Prop where
 c0:∃a cap,w.cell? ⟨f,0,none⟩=some (.slice a n cap)
 c1:∃lt,w.cell? ⟨f,1,none⟩=some (.int .u32 lt)
 hn:n<4294967296
def PkF.grown{w w':World}{f n:Nat}(h:PkF w f n)(hg:w.grownBy w' none):PkF w' f n:=
 ⟨by obtain⟨a,c,e⟩:=h.c0;exact⟨a,c,ba hg e⟩,by obtain⟨a,e⟩:=h.c1;exact⟨a,ba hg e⟩,h.hn⟩
def pQ:Keyed Tryz.prog 9:=string_keyed Tryz.underlying9
set_option maxRecDepth 100000 in
theorem HU(d m n:Nat)(es:List (Lit×DataW Unit))(f:DataW Unit->Nat)(w:World)(c1:w.cell? ⟨d,1,none⟩=some (.map (some m)))
 (i5:w.ownsMap Tryz.prog 9 jT m n (.map es)) (hfl:∀p∈es,∀b:Nat,p.2= .lit (.int .i64 b)->PkF w b (f p.2)) (ad2:dj f es<=1073741824):
 Calls Tryz.prog 199 #[.pointer (some ⟨d,0,none⟩)] w λe w'=>e= .returned (.int .i64 (dj f es:Nat))/\w.grownBy w' none:=by
 obtain⟨R',he,hap,hkl⟩:=i5.entries pQ
 injection he with he;subst he
 have as5:∀p∈es,WideAt.IsKeyLit p.1:=hkl
 go_enter Tryz.func199,Tryz.ntmps199
 go_wp2_with (first
  |(at_range;refine wpList_range_own _ rfl _ 99 rfl 9 237 pQ Tryz.underlying99 _ m n _ rfl i5 ?_;intro w0 as6 hg0 hs0)
  |go_in)
 go_frame
 go_loopw [3] (λt wr=>∃(left:Lit->Bool) (cnt:Nat),wr.ranges Tryz.prog 9 jT m w.heap.size n (.map es) left cnt/\w.grownBy wr none/\t= .int .u64 (PN f es left:Nat))
  (λ_ wr=>wr.rangeLeft m w.heap.size)
 case atStart=>exact⟨_,_,as6,hg0,by rw[Kb hkl];rfl⟩
 case round=>
  obtain⟨left,cnt,hrg,hgw,rfl⟩:=hrel
  have hle:=Er f left es
  go_wp2_with (first
   |(at_next;refine wpList_next_ranges _ rfl _ rfl 9 pQ jT Value.string (λb:Nat=>Value.pointer (some ⟨b,0,none⟩)) (λkey kl hk=>X9 hk) (λv y hv=>by obtain⟨b,hb,_⟩:=tW hv;exact⟨b,hb⟩) m w.heap.size n _ _ _ rfl hrg ?_ ?_)
   |go_in)
  ·intro _ hl0
   go_wp2
   go_ret
   exact⟨by rw[TD hl0];rfl,hgw⟩
  ·intro x c kl y ps w1 as7 aj0 hlk hv q9 ap5 c8 hg1 hs1 hen
   obtain⟨b,hb,hy⟩:=tW hv
   injection hb with hb;injection hb with hb;injection hb with hb
   subst hb;injection hy with hy _;subst hy
   have ab1:=VG q9
   have ai1:=PO (f:=f) (TE (hkl _ ab1)) hlk hap ab1
   have ah0:w.grownBy w1 none:=hgw.andThen hg1 (λj hj=>by cases hj;exact Or.inl (aaa _))
   obtain⟨⟨a,cp,e0⟩,⟨lt,e1⟩,hn⟩:=(hfl _ ab1 c rfl).grown ah0
   have L':=Er f (λz=>left z && !z.sameKey kl) es
   have hlen:=ap5.left_eq
   have O':=hrg.left_eq
   clear q9 hfl i5 hv hkl as5 hap
   generalize PN f es left=T at ai1 hle⊢
   generalize f (DataW.lit (Lit.int IntKind.i64 ↑c))=N at ai1 e0 hn
   go_wp2_with (first
    |(go_at_call 240;refine(TF _ _ _ _ _ _ e0 e1 hn).mono ?_;rintro e w2 ⟨⟨x,rfl,hx⟩,nd,rfl⟩)
    |go_in)
   refine⟨⟨λz=>left z && !z.sameKey kl,as7,ap5,⟨ah0.os,ah0.tape,ah0.output,ah0.size,ah0.block⟩,by rw[ai1];simp⟩, ?_⟩
   rw[O']
   show w1.rangeLeft m w.heap.size<cnt
   rw[hlen];exact c8
def TG(w:World):(zeroValue 237).run Tryz.prog w= .ok (.pointer none) w:=by kernel_rfl
def zk{m n:Nat}{es:List (Lit×DataW Unit)}{w:World}(i5:w.ownsMap Tryz.prog 9 jT m n (.map es))(s:ByteArray)(hs:s.size<=maxLen):
 (∃b:Nat,(Lit.string s.data.toList,DataW.lit (.int .i64 b))∈es/\(Instr.lookup 99 (.map (some m)) (.string s) false).run Tryz.prog w= .ok (.pointer (some ⟨b,0,none⟩)) w)∨
 ((∀p∈es,p.1≠ .string s.data.toList)/\(Instr.lookup 99 (.map (some m)) (.string s) false).run Tryz.prog w= .ok (.pointer none) w):=by
 have aj0:keyOf Tryz.prog 9 (.string s)=some (.string s.data.toList):=WideMaps.keyOf_string_mk Tryz.underlying9 hs
 obtain⟨es0,clock,hb,F,_,he⟩:=i5
 injection he with he
 rcases Maps.fit_look false pQ Tryz.underlying99 (TG w) hb F aj0 with⟨c9,_,q9⟩|⟨e0,y,_,_,c9,hRv,q9,_⟩
 ·rw[←he] at q9
  refine .inr ⟨λp hp e=>?_,c9⟩
  cases hf:es.find? (λp=>p.1.sameKey (.string s.data.toList)) with
  |none=>have:=List.find?_eq_none.1 hf p hp;rw[e] at this;exact this (WideAt.sameKey_self (a:=.string s.data.toList) trivial)
  |some q=>have a:=q9 (.lit (.int .i64 0));have b:=q9 (.lit (.int .i64 1));simp only [DataW.atKey,hf] at a b;rw[a] at b;cases b
 ·obtain⟨b,hv,hy⟩:=tW hRv;rw[←he] at q9;subst hy;refine .inl ⟨b,VG q9, ?_⟩;rw[c9,hv];rfl
def TH(d m n:Nat)(es:List (Lit×DataW Unit))(s:ByteArray)(w:World)(c1:w.cell? ⟨d,1,none⟩=some (.map (some m)))(i5:w.ownsMap Tryz.prog 9 jT m n (.map es))(hs:s.size<=maxLen)(s8:∀p∈es,p.1≠ .string s.data.toList):
 Calls Tryz.prog 80 #[.pointer (some ⟨d,0,none⟩),.string s] w λe w'=>e= .returned (.tuple #[.slice none 0 0,.int .i64 7])/\w'=w:=by
 rcases zk i5 s hs with⟨b,hm,_⟩|⟨_,c9⟩
 ·exact absurd rfl (s8 _ hm)
 clear s8 i5 hs
 go_enter Tryz.func80,Tryz.ntmps80
 go_wp2
 go_ret2
 exact⟨rfl,rfl⟩
def tX(d:Nat)(w:World)(c2:w.cell? ⟨d,2,none⟩=some (.bool false)):
 Calls Tryz.prog 153 #[.pointer (some ⟨d,0,none⟩)] w λe w'=>e= .returned (.int .i64 0)/\w'=w:=by
 go_enter Tryz.func153,Tryz.ntmps153
 go_wp2
 go_ret
 exact⟨rfl,rfl⟩
def Es(d b:Nat)(s:ByteArray)(w:World)(c2:w.cell? ⟨d,2,none⟩=some (.bool false))(h1:1<=s.size)(h2:s.size<=64)(cs:w.cell? ⟨b,0,none⟩=some (.string s)):
 Calls Tryz.prog 152 #[.pointer (some ⟨d,0,none⟩),.slice (some ⟨b,0,none⟩) 1 1] w λe w'=>e= .returned (.int .i64 0)/\w'=w:=by
 go_enter Tryz.func152,Tryz.ntmps152
 go_wp2
 refine wp_loop_rounds 2 ?_
 rw[rounds_succ]
 go_wp2
 rw[rounds_succ]
 go_wp2
 go_ret
 exact⟨rfl,rfl⟩
set_option maxRecDepth 100000 in
theorem TI(d m n b N:Nat)(s:ByteArray)(w:World)(c1:w.cell? ⟨d,1,none⟩=some (.map (some m)))(c2:w.cell? ⟨d,2,none⟩=some (.bool false))(h1:1<=s.size)(h2:s.size<=64)
 (c9:∀W:World,W.heap[m]? =w.heap[m]? ->(Instr.lookup 99 (.map (some m)) (.string s) false).run Tryz.prog W= .ok (.pointer (some ⟨b,0,none⟩)) W)
 (hm:m<w.heap.size) (hF:PkF w b N) (f1:w.frozen? ⟨b,1,none⟩=false):
 Calls Tryz.prog 83 #[.pointer (some ⟨d,0,none⟩),.string s] w λe w'=>e= .returned (.int .i64 0)/\w'=(w.alloc (.cells #[.string s] 9)).setCell ⟨b,1,none⟩ (.int .u32 N):=by
 have ag7:=c9 (w.alloc (.cells #[.string s] 9)) (heap_alloc_old w _ hm)
 obtain⟨⟨a,cp,e0⟩,⟨lt,e1⟩,hn⟩:=hF
 have hx:=e1
 have hc:((w.alloc (.cells #[.string s] 9)).setCell ⟨b,1,none⟩ (.int .u32 N)).cell? ⟨d,2,none⟩=some (.bool false):=by rw[World.cell?_setCell_other _ _ _ _ (by simp)];exact ba (World.grownBy_alloc w _ none) c2
 have hg:=World.grownBy_alloc w (.cells #[.string s] 9) none
 have cs:(w.alloc (.cells #[.string s] 9)).cell? ⟨w.heap.size,0,none⟩=some (.string s):=by simp
 replace c1:=ba hg c1
 have c2':=ba hg c2
 replace e0:=ba hg e0
 replace e1:=ba hg e1
 have f1':(w.alloc (.cells #[.string s] 9)).frozen? ⟨b,1,none⟩=false:=by rw[←f1];exact World.frozen?_of_block (heap_alloc_old w _ (World.block_lt_of_cell? _ _ hx))
 clear c9 hm hg f1
 go_enter Tryz.func83,Tryz.ntmps83
 go_wp2_with (first
  |(go_at_call 152;refine(Es _ _ _ _ c2' h1 h2 cs).mono ?_;rintro e w2 ⟨rfl,rfl⟩)
  |(go_at_call 153;refine(tX _ _ hc).mono ?_;rintro e w2 ⟨rfl,rfl⟩)
  |go_in)
 go_ret
 exact⟨rfl,rfl⟩
def Cz:(Tryz.prog.info? 5).map (λi=>(i.zero,i.size,i.bytes))=some (some (.int .u8 0),1,1):=by kernel_rfl
def PP{d m n:Nat}{room:Int}{es:List (Lit×DataW Unit)}{f:DataW Unit->Nat}{W w:World}(i5:W.ownsMap Tryz.prog 9 jT m n (.map es))(hfl:∀p∈es,∀b:Nat,p.2= .lit (.int .i64 b)->PkF W b (f p.2))(ad2:dj f es<=1073741824)(hS:w.cell? ⟨d,0,none⟩=some (.int .i64 room)/\w.cell? ⟨d,1,none⟩=some (.map (some m))/\W.grownBy w none):
 Calls Tryz.prog 199 #[.pointer (some ⟨d,0,none⟩)] w λe w'=>e= .returned (.int .i64 (dj f es:Nat))/\(w'.cell? ⟨d,0,none⟩=some (.int .i64 room)/\w'.cell? ⟨d,1,none⟩=some (.map (some m))/\W.grownBy w' none):=
 (HU d m n es f w hS.2.1 (i5.kept hS.2.2 (by simp)) (λp hp b hb=>(hfl p hp b hb).grown hS.2.2) ad2).mono λe w' h=>⟨h.1,ba h.2 hS.1,ba h.2 hS.2.1,hS.2.2.trans h.2⟩
set_option maxRecDepth 100000 in
set_option maxHeartbeats 4000000 in
def Et{P:Program}{ops:Array Oper}{Q:Exit->Act->World->Prop}{md:Region.Mode}{S:World->Prop}{oi:Oper}{v:Value}{fuel:Nat}{listed:Array Bool}{a:Act}{w:World}(i:Nat)(hS:S w)(h:wpAnyH P md ops Q S fuel (listed.setIfInBounds i true) (a.put oi.dst v) w)(hi:ops[i]? =some oi:=by simp only [aa6,aby,abE];rfl)(hs:Region.noSelect ops=true:=by kernel_rfl)(hf:Region.free md ops listed i=true:=by kernel_rfl)(hr:(Region.ready md ops listed).contains i=true:=by kernel_rfl)(hQ:∀c a w,Q (.panic c) (a.put oi.dst v) w->Q (.panic c) a w:=by intro _ _ _ h;exact h)(h1:Region.wanted oi (yielded ops a.tmps)=true:=by rfl)(h2:∀W,S W->(execOp a.eval oi).run P W= .ok (.value v) W:=by(intro W hW;(try dsimp only at hW);obtain⟨hW0,hW1,hW2⟩:=hW;go_simp;try with_reducible rfl)):wpAnyH P md ops Q S (fuel+1) listed a w:=wpAnyH_take hi hs hf hr hQ (.inl ⟨h1,h2⟩) hS h
def Zd{P:Program}{ops:Array Oper}{Q:Exit->Act->World->Prop}{md:Region.Mode}{S:World->Prop}{oi:Oper}{fuel:Nat}{listed:Array Bool}{a:Act}{w:World}(i:Nat)(hS:S w)(h:wpAnyH P md ops Q S fuel (listed.setIfInBounds i true) (a.put oi.dst undef) w)(hi:ops[i]? =some oi:=by simp only [aa6,aby,abE];rfl)(hs:Region.noSelect ops=true:=by kernel_rfl)(hf:Region.free md ops listed i=true:=by kernel_rfl)(hr:(Region.ready md ops listed).contains i=true:=by kernel_rfl)(hQ:∀c a w,Q (.panic c) (a.put oi.dst undef) w->Q (.panic c) a w:=by intro _ _ _ h;exact h)(h1:Region.wanted oi (yielded ops a.tmps)=false:=by rfl):wpAnyH P md ops Q S (fuel+1) listed a w:=wpAnyH_take hi hs hf hr hQ (.inr ⟨h1,rfl⟩) hS h
def uF(d m n b N M sc:Nat)(room:Int)(es:List (Lit×DataW Unit))(f:DataW Unit->Nat)(s:ByteArray)(v:Value)(xs news:List Value)(ad:Addr)(w:World)(c0:w.cell? ⟨d,0,none⟩=some (.int .i64 room))(c1:w.cell? ⟨d,1,none⟩=some (.map (some m)))(c2:w.cell? ⟨d,2,none⟩=some (.bool false))(h1:1<=s.size)(h2:s.size<=64)(i5:w.ownsMap Tryz.prog 9 jT m n (.map es))(hfl:∀p∈es,∀b:Nat,p.2= .lit (.int .i64 b)->PkF w b (f p.2))(ad2:(dj f es:Int)+M<=room)(ab_:room<=1073741824)(c9:∀W:World,W.heap[m]? =w.heap[m]? ->(Instr.lookup 99 (.map (some m)) (.string s) false).run Tryz.prog W= .ok (.pointer (some ⟨b,0,none⟩)) W)(f0:w.cell? ⟨b,0,none⟩=some v)(fz:w.frozen? ⟨b,0,none⟩=false)(ae3:w.ownsRow 0 5 1 v N xs)(hvb:v.ownBlock≠some b)(hvd:v.ownBlock≠some d)(hbd:b≠d)(hN:N+M<=1073741824)(hl:news.length=M)(hM:0<M)(af5:∀j u,news[j]? =some u->w.cell? (ad.add j)=some u)(ab0:∀u∈news,u.oneCell'=true):
 Calls Tryz.prog 133 #[.pointer (some ⟨d,0,none⟩),.string s,.slice (some ad) M sc] w λe w'=>e= .returned (.int .i64 0)/\∃g cap w1,w.grownBy w1 v.ownBlock/\
  w1.ownsRow 0 5 1 (.slice (some ⟨g,0,none⟩) (N+M) cap) (N+M) (xs++news)/\(v.ownBlock=some g∨w.heap.size<=g)/\w'=w1.setCell ⟨b,0,none⟩ (.slice (some ⟨g,0,none⟩) (N+M) cap):=by
 obtain⟨i0,hi,hz0,hz1,hz2⟩:=info_parts Cz
 have aj1:=i5.lt
 have am2:=World.block_lt_of_cell? _ _ f0
 have hg:=World.grownBy_alloc w (.cells #[.string s] 9) none
 have cs:(w.alloc (.cells #[.string s] 9)).cell? ⟨w.heap.size,0,none⟩=some (.string s):=by simp
 have ag7:=c9 (w.alloc (.cells #[.string s] 9)) (heap_alloc_old w _ aj1)
 have c0':=ba hg c0
 have c1':=ba hg c1
 have c2':=ba hg c2
 clear c9
 go_enter Tryz.func133,Tryz.ntmps133
 go_wp2_with (first
  |(go_at_call 152;refine(Es _ _ _ _ c2' h1 h2 cs).mono ?_;rintro e w2 ⟨rfl,rfl⟩)
  |fail)
 have ad3:=i5.kept hg (by simp)
 have ai2:∀p∈es,∀b:Nat,p.2= .lit (.int .i64 b)->PkF (w.alloc (.cells #[.string s] 9)) b (f p.2):=λp hp b hb=>(hfl p hp b hb).grown hg
 have hle:dj f es<=1073741824:=by omega
 clear i5 hfl c0 c1
 generalize hT:dj f es=T at ad2
 have am3:decide (IntKind.i64.wrap (room-(T:Int))<(M:Int))=false:=by rw[IntKind.wrap_i64];exact decide_eq_false (by omega)
 refine wp_region_held_drew (S:=λw'=>w'.cell? ⟨d,0,none⟩=some (.int .i64 room)/\w'.cell? ⟨d,1,none⟩=some (.map (some m))/\(w.alloc (.cells #[.string s] 9)).grownBy w' none) (by kernel_rfl) ⟨c0',c1',rfl,rfl,rfl,aaa _,λ_ _ _=>rfl⟩ (λo9=>?_)
 refine Et 0 o9 ?_
 (try simp only [Act.put,aaC,aaD,aaE])
 refine Et 1 o9 ?_
 (try simp only [Act.put,aaC,aaD,aaE])
 refine Et 2 o9 ?_
 (try simp only [Act.put,aaC,aaD,aaE])
 refine Et 3 o9 ?_
 (try simp only [Act.put,aaC,aaD,aaE])
 refine Et 4 o9 ?_
 (try simp only [Act.put,aaC,aaD,aaE])
 refine Et 5 o9 ?_
 (try simp only [Act.put,aaC,aaD,aaE])
 refine Et 6 o9 ?_
 (try simp only [Act.put,aaC,aaD,aaE])
 refine wpAnyH_ready (rs:=[7]) (by kernel_rfl) (by simp) ?_
 refine AllReadyH.cons rfl (λK hK=>?_) AllReadyH.nil
 go_simp
 refine(PP ad3 ai2 hle o9).mono ?_
 rintro e w2 ⟨rfl,i9⟩
 refine hK.out _ _ i9 (λo9=>?_)
 refine Et 8 o9 ?_
 (try simp only [Act.put,aaC,aaD,aaE])
 refine Et 9 o9 ?_
 (try simp only [Act.put,aaC,aaD,aaE])
 refine Et 10 o9 ?_
 (try simp only [Act.put,aaC,aaD,aaE])
 refine Et 11 o9 ?_
 (try simp only [Act.put,aaC,aaD,aaE])
 refine Et 12 o9 ?_
 (try simp only [Act.put,aaC,aaD,aaE])
 refine Et 13 o9 ?_
 (try simp only [Act.put,aaC,aaD,aaE])
 refine Zd 14 o9 ?_
 (try simp only [Act.put,aaC,aaD,aaE])
 refine Zd 15 o9 ?_
 (try simp only [Act.put,aaC,aaD,aaE])
 refine Zd 16 o9 ?_
 (try simp only [Act.put,aaC,aaD,aaE])
 refine Zd 17 o9 ?_
 (try simp only [Act.put,aaC,aaD,aaE])
 refine Zd 18 o9 ?_
 (try simp only [Act.put,aaC,aaD,aaE])
 refine Zd 19 o9 ?_
 (try simp only [Act.put,aaC,aaD,aaE])
 refine Et 20 o9 ?_
 (try simp only [Act.put,aaC,aaD,aaE])
 refine Et 21 o9 ?_
 (try simp only [Act.put,aaC,aaD,aaE])
 refine wpAnyH_done (by kernel_rfl) ?_ _
 obtain⟨a0,a1,hg2⟩:=i9
 have hgw:w.grownBy w2 none:=hg.trans hg2
 have ap6:=ae3.kept hgw (by cases v.ownBlock <;> simp)
 have f02:=ba hgw f0
 have fz2:w2.frozen? ⟨b,0,none⟩=false:=by rw[←fz];exact World.frozen?_of_block (hgw.block b am2 (by simp))
 have ae6:∀j u,news[j]? =some u->w2.cell? (ad.add j)=some u:=λj u hj=>ba hgw (af5 j u hj)
 have c22:w2.cell? ⟨d,2,none⟩=some (.bool false):=ba hgw c2
 have hlen:news.length=M * 1:=by omega
 have hmx:N+M<=maxLen:=by unfold maxLen;omega
 have hby:(N+M) * 1<=140737488355328:=by omega
 clear ad3 ai2 hle am3 af5 ae3 fz f0 ag7 cs c0' c1' c2'
 have c23:∀w3 u,w2.grownBy w3 v.ownBlock->(w3.setCell ⟨b,0,none⟩ u).cell? ⟨d,2,none⟩=some (.bool false):=λw3 u h=>by rw[World.cell?_setCell_other _ _ _ _ (by simp [Ne.symm hbd])];exact h.cell c22 (Ne.symm hvd)
 go_wp2_with (first
  |(at_builtin;refine wpList_append_lies _ rfl _ _ 90 rfl 0 5 i0 (.int .u8 0) 1 1 Tryz.underlying90 hi hz0 hz1 hz2 rfl (by decide) v N xs rfl ap6 ad M sc news rfl hlen ae6 ab0 hM hmx hby (aap _) _ rfl ?_;intro g cap w3 ai3 Q' ah8 ap7;have q0:=Q'.cell f02 (Ne.symm hvb);have qz:w3.frozen? ⟨b,0,none⟩=false:=(World.frozen?_of_block (Q'.block b (World.block_lt_of_cell? _ _ f02) (Ne.symm hvb))).trans fz2)
  |(go_at_call 153;refine(tX _ _ (c23 _ _ Q')).mono ?_;rintro e w4 ⟨rfl,rfl⟩)
  |fail)
 go_ret
 refine⟨rfl,g,cap,w3,⟨Q'.os.trans hgw.os,Q'.tape.trans hgw.tape,Q'.output.trans hgw.output,aaH hgw.size Q'.size,λk hk m8=>(Q'.block k (aa5 hk hgw.size) m8).trans (hgw.block k hk (by simp))⟩,ai3, ?_,rfl⟩
 rcases ah8 with h|h
 ·exact .inl h
 ·exact .inr (by rw[h];exact hgw.size)
def VH{m n:Nat}{es:List (Lit×DataW Unit)}{w:World}(i5:w.ownsMap Tryz.prog 9 jT m n (.map es)){a:Addr}{u:Value}(h:w.cell? a=some u):a.block≠m:=λe=>by obtain⟨_,_,hq,_⟩:=i5;unfold World.cell? at h;rw[e] at h;simp [hq] at h
def PQ{m n:Nat}{es:List (Lit×DataW Unit)}{w:World}(i5:w.ownsMap Tryz.prog 9 jT m n (.map es))(ty:TypeId):(Builtin.len_ #[99] ty #[.map (some m)]).run Tryz.prog w= .ok (.int .i64 (es.length:Nat)) w:=
 i5.len Tryz.underlying99 ty
def PR{d m n:Nat}{room:Int}{es:List (Lit×DataW Unit)}{f:DataW Unit->Nat}{W w:World}(i5:W.ownsMap Tryz.prog 9 jT m n (.map es))(hfl:∀p∈es,∀b:Nat,p.2= .lit (.int .i64 b)->PkF W b (f p.2))(ad2:dj f es<=1073741824)(hS:w.cell? ⟨d,0,none⟩=some (.int .i64 room)/\w.cell? ⟨d,1,none⟩=some (.map (some m))/\(∀ty,(Builtin.len_ #[99] ty #[.map (some m)]).run Tryz.prog w= .ok (.int .i64 (es.length:Nat)) w)/\W.grownBy w none):
 Calls Tryz.prog 199 #[.pointer (some ⟨d,0,none⟩)] w λe w'=>e= .returned (.int .i64 (dj f es:Nat))/\(w'.cell? ⟨d,0,none⟩=some (.int .i64 room)/\w'.cell? ⟨d,1,none⟩=some (.map (some m))/\(∀ty,(Builtin.len_ #[99] ty #[.map (some m)]).run Tryz.prog w'= .ok (.int .i64 (es.length:Nat)) w')/\W.grownBy w' none):=
 (HU d m n es f w hS.2.1 (i5.kept hS.2.2.2 (by simp)) (λp hp b hb=>(hfl p hp b hb).grown hS.2.2.2) ad2).mono λe w' h=>⟨h.1,ba h.2 hS.1,ba h.2 hS.2.1,PQ (i5.kept (hS.2.2.2.trans h.2) (by simp)),hS.2.2.2.trans h.2⟩
set_option maxRecDepth 100000 in
theorem uG(d m n M sc:Nat)(room:Int)(es:List (Lit×DataW Unit))(f:DataW Unit->Nat)(s:ByteArray)(news:List Value)(ad:Addr)(w:World)(c0:w.cell? ⟨d,0,none⟩=some (.int .i64 room))
 (c1:w.cell? ⟨d,1,none⟩=some (.map (some m))) (c2:w.cell? ⟨d,2,none⟩=some (.bool false)) (h1:1<=s.size) (h2:s.size<=64)
 (i5:w.ownsMap Tryz.prog 9 jT m n (.map es)) (hfl:∀p∈es,∀b:Nat,p.2= .lit (.int .i64 b)->PkF w b (f p.2)) (ad2:(dj f es:Int)+M<=room) (ab_:room<=1073741824)
 (c9:∀W:World,W.heap[m]? =w.heap[m]? ->(Instr.lookup 99 (.map (some m)) (.string s) false).run Tryz.prog W= .ok (.pointer none) W)
 (ak_:es.length<4096) (hn:n<4096)
 (hl:news.length=M) (hM:0<M) (af5:∀j u,news[j]? =some u->w.cell? (ad.add j)=some u) (ab0:∀u∈news,u.oneCell'=true):
 Calls Tryz.prog 133 #[.pointer (some ⟨d,0,none⟩),.string s,.slice (some ad) M sc] w λe w'=>e= .returned (.int .i64 0)/\∃b g cap w1,w.grownBy w1 (some m)/\w.heap.size<=b/\w.heap.size<=g/\b≠g/\b<w1.heap.size/\
  w1.ownsMap Tryz.prog 9 jT m (n+1) ((DataW.map es).put (.string s.data.toList) (.lit (.int .i64 b)))/\w1.ownsRow 0 5 1 (.slice (some ⟨g,0,none⟩) M cap) M news/\w1.heap[b]? =some (.cells #[.slice none 0 0,.int .u32 0] 240)/\w'=w1.setCell ⟨b,0,none⟩ (.slice (some ⟨g,0,none⟩) M cap):=by
 obtain⟨i0,hi,hz0,hz1,hz2⟩:=info_parts Cz
 have aj1:=i5.lt
 have hg:=World.grownBy_alloc w (.cells #[.string s] 9) none
 have cs:(w.alloc (.cells #[.string s] 9)).cell? ⟨w.heap.size,0,none⟩=some (.string s):=by simp
 have ag7:=c9 (w.alloc (.cells #[.string s] 9)) (heap_alloc_old w _ aj1)
 have c0':=ba hg c0
 have c1':=ba hg c1
 have c2':=ba hg c2
 have ad3:=i5.kept hg (by simp)
 have ai2:∀p∈es,∀b:Nat,p.2= .lit (.int .i64 b)->PkF (w.alloc (.cells #[.string s] 9)) b (f p.2):=λp hp b hb=>(hfl p hp b hb).grown hg
 have hle:dj f es<=1073741824:=by omega
 clear c9 i5 hfl c0 c1
 go_enter Tryz.func133,Tryz.ntmps133
 go_wp2_with (first
  |(go_at_call 152;refine(Es _ _ _ _ c2' h1 h2 cs).mono ?_;rintro e w2 ⟨rfl,rfl⟩)
  |fail)
 generalize hT:dj f es=T at ad2
 have am3:decide (IntKind.i64.wrap (room-(T:Int))<(M:Int))=false:=by rw[IntKind.wrap_i64];exact decide_eq_false (by omega)
 have ap8:decide (4096<=((es.length:Nat):Int))=false:=decide_eq_false (by omega)
 first
 |(go_region_held (λw'=>w'.cell? ⟨d,0,none⟩=some (.int .i64 room)/\w'.cell? ⟨d,1,none⟩=some (.map (some m))/\(∀ty,(Builtin.len_ #[99] ty #[.map (some m)]).run Tryz.prog w'= .ok (.int .i64 (es.length:Nat)) w')/\(w.alloc (.cells #[.string s] 9)).grownBy w' none)
  (first|exact⟨c0',c1',PQ (w:=(w.alloc (.cells #[.string s] 9)).drew) ad3,rfl,rfl,rfl,aaa _,λ_ _ _=>rfl⟩|assumption)
  (first|(go_at_call 199;refine(PR ad3 ai2 hle (by assumption)).mono ?_;rintro e w2 ⟨rfl,i9⟩)))
 |fail
 obtain⟨a0,a1,_,hg2⟩:=i9
 have hgw:w.grownBy w2 none:=hg.trans hg2
 have ai4:=ad3.kept hg2 (by simp)
 have ae6:∀j u,news[j]? =some u->w2.cell? (ad.add j)=some u:=λj u hj=>ba hgw (af5 j u hj)
 have c22:w2.cell? ⟨d,2,none⟩=some (.bool false):=ba hgw c2
 have hlen:news.length=M * 1:=by omega
 have hmx:0+M<=maxLen:=by unfold maxLen;omega
 have hby:(0+M) * 1<=140737488355328:=by omega
 have aj0:keyOf Tryz.prog 9 (.string s)=some (.string s.data.toList):=WideMaps.keyOf_string_mk Tryz.underlying9 (by unfold maxLen;omega)
 have qT:∀(w:World) (r:Option Nat),(binOp .eql 99 (.map r) (.map none)).run Tryz.prog w= .ok (.bool r.isNone) w:=λw r=>run_eql_map_nil w _ _ _ r Tryz.underlying99
 have a1':=ba (World.grownBy_alloc w2 (.cells #[.slice none 0 0,.int .u32 0] 240) none) a1
 have as8:(w2.alloc (.cells #[.slice none 0 0,.int .u32 0] 240)).heap[w2.heap.size]? =some (.cells #[.slice none 0 0,.int .u32 0] 240):=heap_alloc_new w2 _
 have T':(w2.alloc (.cells #[.slice none 0 0,.int .u32 0] 240)).heap.size=w2.heap.size+1:=by simp
 have hm2:m<w2.heap.size:=aa5 aj1 hgw.size
 have af3:∀w3,(w2.alloc (.cells #[.slice none 0 0,.int .u32 0] 240)).grownBy w3 (some m)->w3.heap[w2.heap.size]? =some (.cells #[.slice none 0 0,.int .u32 0] 240)/\w3.cell? ⟨w2.heap.size,0,none⟩=some (.slice none 0 0)/\
  w3.frozen? ⟨w2.heap.size,0,none⟩=false/\w3.cell? ⟨d,2,none⟩=some (.bool false)/\∀j u,news[j]? =some u->w3.cell? (ad.add j)=some u:=λw3 h=>by
  have hb:=(h.block w2.heap.size (by rw[T'];omega) (λe=>by injection e with e;omega)).trans as8
  refine⟨hb,by simp [World.cell?,hb],by simp [World.frozen?,hb],h.cell (ba (World.grownBy_alloc w2 _ none) c22) (λe=>VH ai4 c22 (Option.some.inj e)),λj u hj=>h.cell (ba (World.grownBy_alloc w2 _ none) (ae6 j u hj)) (λe=>VH ai4 (ae6 j u hj) (Option.some.inj e))⟩
 have as9:w2.heap.size≠d:=λe=>by have:=World.block_lt_of_cell? _ _ c22;simp at this;omega
 clear ad3 ai2 hle am3 ap8 af5 ag7 cs c0' c1' c2' c2
 go_wp2_with (first
  |(at_mapUpdate;refine wpList_mapUpdate_own _ rfl _ _ _ 99 rfl 9 237 pQ Tryz.underlying99 jT m n _ rfl (ai4.alloc _) (by unfold maxLen;omega) _ _ _ rfl rfl aj0 (.lit (.int .i64 w2.heap.size)) [] rfl ?_;intro w3 ai3 Q';obtain⟨p0,p1,p2,p3,p4⟩:=af3 w3 Q')
  |(at_builtin;refine wpList_append_lies _ rfl _ _ 90 rfl 0 5 i0 (.int .u8 0) 1 1 Tryz.underlying90 hi hz0 hz1 hz2 rfl (by decide) (.slice none 0 0) 0 [] rfl (World.ownsRow_nil _ _ _ _) ad M sc news rfl hlen p4 ab0 hM hmx hby (aap _) _ rfl ?_;intro g cap w4 ap9 ae7 as_ au_;have r1:=ba ae7 p1;have r2:w4.frozen? ⟨w2.heap.size,0,none⟩=false:=(World.frozen?_of_block (ae7.block _ (World.block_lt_of_cell? _ _ p1) (by simp [Value.ownBlock]))).trans p2)
  |(go_at_call 153;refine(tX _ _ (by rw[World.cell?_setCell_other _ _ _ _ (λe=>absurd (congrArg Addr.block e) as9)];exact ba ae7 p3)).mono ?_;rintro e w5 ⟨rfl,rfl⟩)
  |fail)
 go_ret
 have hga:w.grownBy w3 (some m):=((hgw.but _).trans (World.grownBy_alloc w2 _ _)).trans Q'
 have h4:w3.grownBy w4 none:=ae7
 have hg3:g=w3.heap.size:=by
  rcases as_ with h|h
  ·cases h
  ·exact h
 have ap7:w2.heap.size<w3.heap.size:=by simpa using World.block_lt_of_cell? _ _ p1
 have ai5:w4.ownsRow 0 5 1 (.slice (some ⟨g,0,none⟩) (0+M) cap) (0+M) ([]++news):=by simpa using ap9
 rw[aam] at ai5
 exact⟨rfl,w2.heap.size,g,cap,w4,hga.trans (h4.but _),hgw.size,by rw[hg3];exact aaH hgw.size (by omega),by omega,by have:=h4.size;omega,ai3.kept h4 (by simp),ai5,(h4.block _ ap7 (by simp)).trans p0,rfl⟩
def X_(room:Int)(w:World)(h1:0<=room)(h2:room<=1073741824):
 Calls Tryz.prog 14 #[.int .i64 room] w λe w'=>e= .returned (.tuple #[.pointer (some ⟨w.heap.size+1,0,none⟩),.int .i64 0])/\w'=(w.alloc (.map #[] 0)).alloc (.cells #[.int .i64 room,.map (some w.heap.size),.bool false,.int .i64 0] 101):=by
 have U':=@run_makeMap Tryz.prog
 go_enter Tryz.func14,Tryz.ntmps14
 go_wp2
 go_ret2
 exact⟨rfl,rfl⟩
open Go.Sym Go.Maps
noncomputable section
structure PkE where
 nm:ByteArray
 f:Nat
 bk:Option Nat
 n:Nat
def PkE.ent(x:PkE):Lit×DataW Unit:=(.string x.nm.data.toList,.lit (.int .i64 x.f))
def PkE.row(x:PkE):G:=.node [.str (bytesOf x.nm),.int x.n]
def PkE.own(x:PkE):List Nat:=x.f::x.bk.toList
def PkFile(w:World)(x:PkE):Prop:=∃v xs lt,w.heap[x.f]? =some (.cells #[v,.int .u32 lt] 240)/\w.ownsRow 0 5 1 v x.n xs/\v.ownBlock=x.bk
def fj:List G->Nat
 | []=>0
 |r::l=>(gI (aa r 1)).toNat+fj l
def jk(nm:List Nat)(l:List G):Prop:=∃r∈l,gS (aa r 0)=nm
open Classical in
def gN(nm:List Nat)(n:Nat):List G->List G
 | []=>[.node [.str nm,.int n]]
 |r::l=>if gS (aa r 0)=nm then .node [.str nm,.int ((gI (aa r 1)).toNat+n:Nat)]::l else r::gN nm n l
def rq{nm:List Nat}{n:Nat}{r:G}{l:List G}(h:gS (aa r 0)=nm):gN nm n (r::l)= .node [.str nm,.int ((gI (aa r 1)).toNat+n:Nat)]::l:=if_pos h
def oO{nm:List Nat}{n:Nat}{r:G}{l:List G}(h:¬gS (aa r 0)=nm):gN nm n (r::l)=r::gN nm n l:=if_neg h
def pR(room:Int)(rows:List G)(d:Nat)(fp:List Nat)(w:World):Prop:=
 ∃(m:Nat) (lf:Int) (L:List PkE) (es:List (Lit×DataW Unit)),w.heap[d]? =some (.cells #[.int .i64 room,.map (some m),.bool false,.int .i64 lf] 101)/\w.ownsMap Tryz.prog 9 jT m L.length (.map es)/\
  es.Perm (L.map PkE.ent)/\rows=L.map PkE.row/\(∀x∈L,PkFile w x)/\fp=m::L.flatMap PkE.own/\(d::fp).Nodup/\fj rows<=1073741824/\(L= []->w.heap[m]? =some (.map #[] 0))
def eJ{w w':World}{m n:Nat}{D:DataW Unit}(h:w.ownsMap Tryz.prog 9 jT m n D)(hk:w'.heap[m]? =w.heap[m]?):w'.ownsMap Tryz.prog 9 jT m n D:=by obtain⟨es,c,hb,r⟩:=h;exact⟨es,c,hk.trans hb,r⟩
def PkFile.keep{w w':World}{x:PkE}(h:PkFile w x)(hk:∀k∈x.own,w'.heap[k]? =w.heap[k]?):PkFile w' x:=by
 obtain⟨v,xs,lt,h1,h2,h3⟩:=h;refine⟨v,xs,lt,(hk _ aan).trans h1,⟨h2.1, ?_⟩,h3⟩;rcases h2.2 with hn|⟨g,cap,sh,rfl,hb,hg,rest⟩
 ·exact .inl hn
 ·refine .inr ⟨g,cap,sh,rfl,hb,(hk g ?_).trans hg,rest⟩;have hb':x.bk=some g:=by rw[←h3];rfl
  exact aaj _ (by rw[hb'];exact List.mem_singleton.2 rfl)
def lR(room:Int)(l:List G):rD (pR room l):=λd fp w w' hk h=>by
 obtain⟨m,lf,L,es,h1,h2,h3,h4,h5,h6,h7,h8,h9⟩:=h;have hm:m∈d::fp:=by rw[h6];exact aaj _ aan
 refine⟨m,lf,L,es,(hk d aan).trans h1,eJ h2 (hk m hm),h3,h4,λx hx=>(h5 x hx).keep λk hkx=>hk k ?_,h6,h7,h8,λhL=>(hk m hm).trans (h9 hL)⟩;rw[h6];exact aaj _ (aaj _ (List.mem_flatMap.2 ⟨x,hx,hkx⟩))
def iF(w:World)(b o:Nat)(v:Value):w.grownBy (w.setCell ⟨b,o,none⟩ v) (some b):=
 ⟨rfl,rfl,rfl,by simp,λk _ hk=>heap_setCell_other w _ k v (λe=>hk (by rw[e]))⟩
def PT{a s:ByteArray}:(Lit.string a.data.toList= .string s.data.toList)↔a=s:=by
 constructor
 ·intro h;injection h with h;exact ByteArray.ext (Array.toList_inj.1 h)
 ·rintro rfl;rfl
def HV{L:List PkE}{s:ByteArray}:jk (bytesOf s) (L.map PkE.row)↔∃x∈L,x.nm=s:=by
 constructor
 ·rintro⟨r,hr,e⟩;obtain⟨x,hx,rfl⟩:=List.mem_map.1 hr;exact⟨x,hx,gY e⟩
 ·rintro⟨x,hx,rfl⟩;exact⟨x.row,abu hx,rfl⟩
def Ya{L:List PkE}{s:ByteArray}{n:Nat}(h:∀x∈L,x.nm≠s):gN (bytesOf s) n (L.map PkE.row)=L.map PkE.row++ [.node [.str (bytesOf s),.int n]]:=by
 induction L with
 |nil=>rfl
 |cons x L ih=>show gN _ _ (x.row::L.map PkE.row)=_;rw[oO (r:=x.row) (λe=>h x aan (gY e)),ih λy hy=>h y (aaj _ hy)];rfl
def Yb{A B:List PkE}{x:PkE}{n:Nat}(h:∀y∈A,y.nm≠x.nm)(g:Option Nat):gN (bytesOf x.nm) n ((A++x::B).map PkE.row)=(A++{x with bk:=g,n:=x.n+n}::B).map PkE.row:=by
 induction A with
 |nil=>show gN _ _ (x.row::B.map PkE.row)=_;rw[rq (nm:=bytesOf x.nm) (r:=x.row) rfl];rfl
 |cons y A ih=>show gN _ _ (y.row::(A++x::B).map PkE.row)=_;rw[oO (r:=y.row) (λe=>h y aan (gY e)),ih λz hz=>h z (aaj _ hz)];rfl
def CA(nm:List Nat)(n:Nat):∀l,fj (gN nm n l)=fj l+n
 | []=>by show((n:Int)).toNat+0=0+n;omega
 |r::l=>by
  by_cases he:gS (aa r 0)=nm
  ·rw[rq he];show(((gI (aa r 1)).toNat+n:Nat):Int).toNat+fj l=((gI (aa r 1)).toNat+fj l)+n;omega
  ·rw[oO he];show(gI (aa r 1)).toNat+fj (gN nm n l)=((gI (aa r 1)).toNat+fj l)+n;rw[CA nm n l];omega
def rr(nm:List Nat)(n:Nat):∀l,(gN nm n l).length<=l.length+1
 | []=>aaa _
 |r::l=>by
  by_cases he:gS (aa r 0)=nm
  ·rw[rq he];simp
  ·rw[oO he];have:=rr nm n l;simp;omega
def rx(nm:List Nat)(n:Nat):∀l,jk nm (gN nm n l)/\∀r∈gN nm n l,gS (aa r 0)=nm∨∃r'∈l,gS (aa r' 0)=gS (aa r 0)
 | []=>⟨⟨_,List.mem_singleton.2 rfl,rfl⟩,λr hr=>.inl (by rw[List.mem_singleton.1 hr];rfl)⟩
 |r::l=>by
  obtain⟨⟨q,q1,q2⟩,q3⟩:=rx nm n l;by_cases he:gS (aa r 0)=nm
  ·rw[rq he];refine⟨⟨_,aan,rfl⟩,λx hx=>?_⟩;rcases List.mem_cons.1 hx with rfl|hx
   ·exact .inl rfl
   ·exact .inr ⟨x,aaj _ hx,rfl⟩
  ·rw[oO he];refine⟨⟨q,aaj _ q1,q2⟩,λx hx=>?_⟩;rcases List.mem_cons.1 hx with rfl|hx
   ·exact .inr ⟨x,aan,rfl⟩
   ·rcases q3 x hx with h|⟨r',h1,h2⟩
    ·exact .inl h
    ·exact .inr ⟨r',aaj _ h1,h2⟩
def zm{L:List PkE}{x:PkE}(h:x∈L):x.n<=fj (L.map PkE.row):=by
 induction L with
 |nil=>cases h
 |cons y L ih=>
  show _<=(gI (aa y.row 1)).toNat+fj (L.map PkE.row);rcases List.mem_cons.1 h with rfl|h
  ·show _<=((x.n:Int)).toNat+_;omega
  ·have:=ih h;omega
def TJ{L:List PkE}(s:ByteArray):(∃A x B,L=A++x::B/\x.nm=s/\∀y∈A,y.nm≠s)∨∀y∈L,y.nm≠s:=by
 induction L with
 |nil=>exact .inr λy h=>absurd h aaP
 |cons y L ih=>
  by_cases e:y.nm=s
  ·exact .inl ⟨[],y,L,rfl,e,λz h=>absurd h aaP⟩
  ·rcases ih with⟨A,x,B,rfl,h1,h2⟩|h
   ·refine .inl ⟨y::A,x,B,rfl,h1,λz hz=>?_⟩;rcases List.mem_cons.1 hz with rfl|hz
    ·exact e
    ·exact h2 z hz
   ·refine .inr λz hz=>?_;rcases List.mem_cons.1 hz with rfl|hz
    ·exact e
    ·exact h z hz
def CB{m n:Nat}{es:List (Lit×DataW Unit)}{L:List PkE}{w:World}(i5:w.ownsMap Tryz.prog 9 jT m n (.map es))(hp:es.Perm (L.map PkE.ent))(s:ByteArray)(hs:s.size<=maxLen):
 (∃A x B,L=A++x::B/\x.nm=s/\(∀y∈A,y.nm≠s)/\∀W:World,W.heap[m]? =w.heap[m]? ->(Instr.lookup 99 (.map (some m)) (.string s) false).run Tryz.prog W= .ok (.pointer (some ⟨x.f,0,none⟩)) W)∨
 ((∀y∈L,y.nm≠s)/\∀W:World,W.heap[m]? =w.heap[m]? ->(Instr.lookup 99 (.map (some m)) (.string s) false).run Tryz.prog W= .ok (.pointer none) W):=by
 obtain⟨R',he,hap,_⟩:=i5.entries pQ
 injection he with he;subst he
 rcases TJ (L:=L) s with⟨A,x,B,e1,e2,e3⟩|h
 ·refine .inl ⟨A,x,B,e1,e2,e3,λW hW=>?_⟩;have hx:x.ent∈es:=hp.symm.mem_iff.1 (abu (by rw[e1];simp));have hk:x.ent.1= .string s.data.toList:=by rw[←e2];rfl
  have uniq:∀p∈es,p.1=x.ent.1->p=x.ent:=λp hp' e=>by have:=entry_key_one hap hp' hx e;exact this
  rcases zk (eJ i5 hW) s hs with⟨b,hm,hr⟩|⟨hn,_⟩
  ·have:=uniq _ hm hk.symm;have e:b=x.f:=by have h2:=congrArg Prod.snd this;have h2:(DataW.lit (Lit.int .i64 (b:Int)):DataW Unit)= .lit (.int .i64 x.f):=h2;injection h2 with h2;injection h2 with _ h2;omega
   rw[hr,e]
  ·exact absurd hk (hn _ hx)
 ·refine .inr ⟨h,λW hW=>?_⟩;rcases zk (eJ i5 hW) s hs with⟨b,hm,hr⟩|⟨_,hr⟩
  ·obtain⟨y,hy,e⟩:=List.mem_map.1 (hp.mem_iff.1 hm);exact absurd (PT.1 (congrArg Prod.fst e)) (h y hy)
  ·exact hr
where
 entry_key_one:∀{l:List (Lit×DataW Unit)},l.Pairwise (λp q=>p.1≠q.1)->∀{p q:Lit×DataW Unit},p∈l->q∈l->p.1=q.1->p=q
  | [],_,_,_,h,_,_=>absurd h aaP
  |a::l,hp,p,q,h1,h2,e=>by
   obtain⟨q1,q2⟩:=List.pairwise_cons.1 hp;rcases List.mem_cons.1 h1 with r1|r1
   ·rcases List.mem_cons.1 h2 with r2|r2
    ·rw[r1,r2]
    ·subst r1;exact absurd e (q1 _ r2)
   ·rcases List.mem_cons.1 h2 with r2|r2
    ·subst r2;exact absurd e.symm (q1 _ r1)
    ·exact entry_key_one q2 r1 r2 e
def zn{w:World}{x:PkE}(h:PkFile w x):∃a cap v xs lt,w.heap[x.f]? =some (.cells #[v,.int .u32 lt] 240)/\v= .slice a x.n cap/\w.ownsRow 0 5 1 v x.n xs/\v.ownBlock=x.bk:=by
 obtain⟨v,xs,lt,h1,h2,h3⟩:=h;rcases h2.2 with⟨hv,hn⟩|⟨g,cap,sh,hv,_⟩
 ·exact⟨none,0,v,xs,lt,h1,by rw[hv,hn],h2,h3⟩
 ·exact⟨_,cap,v,xs,lt,h1,hv,h2,h3⟩
def PU{w:World}{x:PkE}(h:PkFile w x)(hn:x.n<4294967296):PkF w x.f x.n:=by obtain⟨a,cap,v,xs,lt,h1,rfl,_⟩:=zn h;exact⟨⟨a,cap,by rw[cell_of_row _ _ _ _ _ _ h1];rfl⟩,⟨lt,by rw[cell_of_row _ _ _ _ _ _ h1];rfl⟩,hn⟩
def PV{w:World}{x:PkE}(h:PkFile w x):VF w x.ent.2=x.n:=by
 obtain⟨a,cap,v,xs,lt,h1,rfl,_⟩:=zn h;have hc:w.cell? ⟨x.f,0,none⟩=some (.slice a x.n cap):=by rw[cell_of_row _ _ _ _ _ _ h1];rfl
 show(match w.cell? ⟨((x.f:Nat):Int).toNat,0,none⟩ with|some (.slice _ l _)=>l|_=>0)=_;rw[aaq,hc]
def PW{w:World}{L:List PkE}{es:List (Lit×DataW Unit)}(hp:es.Perm (L.map PkE.ent))(h:∀x∈L,PkFile w x):dj (VF w) es=fj (L.map PkE.row):=by
 unfold dj
 rw[(hp.map _).sum_nat]
 clear hp
 induction L with
 |nil=>rfl
 |cons x L ih=>show VF w x.ent.2+_=(gI (aa x.row 1)).toNat+fj (L.map PkE.row);rw[PV (h x aan), ←ih λy hy=>h y (aaj _ hy)];show _=((x.n:Int)).toNat+_;rw[aaq];rfl
def lz:Int:=4194304
def Eu:List BSh:=[.obj 1 (pR lz) 20]
def PX:FSpec:=⟨[.c (.i .i64 1)],[],λz=>z.i 1=4194304,λ_=>.tu [.c (.p 0),.c (.i .i64 30)],λ_=>Eu,λz y=>y.g 20= []/\y.i 30=0,none⟩
def Ev:FSpec:=⟨[.c (.p 0),.c (.s 5)],Eu,λz=>¬jk (z.s 5) (z.g 20)/\(z.s 5).length<=64,λ_=>.tu [.c .o,.c (.i .i64 30)],λ_=>Eu,λz y=>y.g 20=z.g 20/\y.i 30=7,none⟩
def Ew:FSpec:=⟨[.c (.p 0),.c (.s 5)],Eu,λz=>jk (z.s 5) (z.g 20)/\(1<=(z.s 5).length/\(z.s 5).length<=64),λ_=>.one (.c (.i .i64 30)),λ_=>Eu,λz y=>y.g 20=z.g 20/\y.i 30=0,none⟩
def tY:FSpec:=⟨[.c (.p 0),.c (.s 5),.c (.vb 6)],Eu,λz=>(1<=(z.s 5).length/\(z.s 5).length<=64)/\1<=(z.s 6).length/\(fj (z.g 20):Int)+(z.s 6).length<=4194304/\(z.g 20).length<4000,λ_=>.one (.c (.i .i64 30)),λ_=>Eu,λz y=>y.g 20=gN (z.s 5) (z.s 6).length (z.g 20)/\y.i 30=0,none⟩
def PY{ρ:Rho}{l:List Nat}{v:Value}(h:VR ρ (.sS l) v):∃s,bytesOf s=l/\v= .string s:=by cases h;exact⟨_,rfl,rfl⟩
def VI{ρ:Rho}{k:IntKind}{n:Int}{v:Value}(h:VR ρ (.sI k n) v):v= .int k n:=by cases h;rfl
def vr_vb{ρ:Rho}{l:List Nat}{v:Value}(h:VR ρ (.cv (.bytes l)) v)(hl:1<=l.length):
 ∃b off cp arr ty,v= .slice (some ⟨b,off,none⟩) l.length cp/\ρ.frz b=some (arr,ty)/\off+l.length<=arr.size/\∀i,i<l.length->∃n,arr[off+i]? =some (.int .u8 n):=by
 generalize hc:Ct.bytes l=c at h
 cases h with
 |cv c b off cp arr ty hf hcp hb r=>
  subst hc
  refine⟨b,off,cp,arr,ty,rfl,hf,by simpa [Ct.len,Ct.es] using hb,λi hi=>?_⟩
  have c8:off+i<arr.size:=by have:off+l.length * 1<=arr.size:=hb;omega
  have h1:arr[off+i]? =some arr[off+i]:=aaM c8
  have:=r i 0 _ arr[off+i] hi (show((Ct.bytes l).row i)[0]? =some (.sI .u8 ((l.getD i 0:Nat):Int)) from rfl) (by rw[show off+i * (Ct.bytes l).es+0=off+i by show off+i * 1+0=_;omega];exact h1)
  exact⟨_,by rw[h1,VI this]⟩
 |cvnil c h=>subst hc;have h:l.length=0:=h;omega
 |cvempty c a h=>subst hc;have h:l.length=0:=h;omega
def TK{w:World}{b off n:Nat}{arr:Array Value}{ty:TypeId}{fr:Nat×Nat}(hb:w.heap[b]? =some (.cells arr ty fr))(hn:off+n<=arr.size)(h:∀i,i<n->∃k,arr[off+i]? =some (.int .u8 k)):
 ∃news:List Value,news.length=n/\(∀j u,news[j]? =some u->w.cell? ((⟨b,off,none⟩:Addr).add j)=some u)/\∀u∈news,u.oneCell'=true:=by
 have key:∀j u,((arr.toList.drop off).take n)[j]? =some u->j<n/\arr[off+j]? =some u:=λj u hj=>by
  rw[aa0] at hj;split at hj
  ·rename_i c8;rw[aat] at hj;exact⟨c8,by simpa using hj⟩
  ·cases hj
 refine⟨(arr.toList.drop off).take n,by simp;omega,λj u hj=>?_,λu hu=>?_⟩
 ·obtain⟨_,h2⟩:=key j u hj;rw[Addr.add_lit,cell_of_row _ _ _ _ _ _ hb];exact h2
 ·obtain⟨j,hj⟩:=List.getElem?_of_mem hu;obtain⟨h1,h2⟩:=key j u hj;obtain⟨k,hk⟩:=h j h1;rw[hk] at h2;injection h2 with h2;subst h2;rfl
def jl{A B:List PkE}{x:PkE}:(A++x::B).flatMap PkE.own=A.flatMap PkE.own++(x.own++B.flatMap PkE.own):=by simp
def lA(d m:Nat)(A B:List PkE)(o:List Nat):(d::m::(A.flatMap PkE.own++(o++B.flatMap PkE.own))).Perm (o++(d::m::(A.flatMap PkE.own++B.flatMap PkE.own))):=
 List.perm_append_comm_assoc (d::m::A.flatMap PkE.own) o (B.flatMap PkE.own)
def tZ{d:Nat}{room lf:Int}{m:Nat}{w:World}(h:w.heap[d]? =some (.cells #[.int .i64 room,.map (some m),.bool false,.int .i64 lf] 101)):
 w.cell? ⟨d,0,none⟩=some (.int .i64 room)/\w.cell? ⟨d,1,none⟩=some (.map (some m))/\w.cell? ⟨d,2,none⟩=some (.bool false):=by
 refine⟨?_, ?_, ?_⟩ <;> (rw[cell_of_row _ _ _ _ _ _ h];rfl)
def Ex{s:ByteArray}{n:Nat}(h:(bytesOf s).length<=n):s.size<=n:=by rw[bZ] at h;exact h
def TL:Ok Tryz.prog 80 Ev:=by
 refine RH (k:=1) (C:=pR lz) (S:=Ev) (al:=[.c (.s 5)]) (lR lz) (λz=>z.g 20) (λ_=>.tup [.nils,.sI .i64 7]) (λz=>[(20,.g (z.g 20)),(30,.i 7)]) rfl rfl rfl (λz h=>⟨rfl,rfl⟩) (λz=>⟨_,rfl,⟨rfl,trivial⟩,rfl⟩) (λargs w=>Tryz.call80 args w) ?_;rintro z ⟨s8,hlen⟩ w ρ d fp vs hfz c8 I' ⟨m,lf,L,es,h1,h2,h3,h4,h5,h6,h7,h8,h9⟩;obtain⟨v,K',rfl,hv,hn⟩:=LR.cons_inv (show LR ρ [.sS (z.s 5)] vs from I');obtain rfl:=LR.nil_inv hn;obtain⟨s,hs,rfl⟩:=PY hv;obtain⟨_,c1,_⟩:=tZ h1;refine(TH d m _ es s w c1 h2 (by have:=Ex (s:=s) (n:=64) (by rw[hs];exact hlen);unfold maxLen;omega) (λp hp e=>s8 ?_)).mono ?_
 ·rw[←hs,h4];obtain⟨x,hx,rfl⟩:=List.mem_map.1 (h3.mem_iff.1 hp);exact HV.2 ⟨x,hx,PT.1 e⟩
 ·rintro e w' ⟨rfl,rfl⟩;refine⟨_,fp,rfl,⟨m,lf,L,es,h1,h2,h3,h4,h5,h6,h7,h8,h9⟩,⟨rfl,rfl,rfl,aaa _,λ_ _ _=>rfl,λx hx=>.inl hx⟩,λρ'=>.tup _ _ rfl ?_⟩;exact(LR.arr (cs:= #[.slice none 0 0,.int .i64 7]) (LR.cons .nils (LR.cons (.sI .i64 7) (LR.nil _)))).2
def TM:Ok Tryz.prog 83 Ew:=by
 refine RH (k:=1) (C:=pR lz) (S:=Ew) (al:=[.c (.s 5)]) (lR lz) (λz=>z.g 20) (λ_=>.sI .i64 0) (λz=>[(20,.g (z.g 20)),(30,.i 0)]) rfl rfl rfl (λz h=>⟨rfl,rfl⟩) (λz=>⟨_,rfl,⟨rfl,trivial⟩,rfl⟩) (λargs w=>Tryz.call83 args w) ?_;rintro z ⟨his,hl1,hl2⟩ w ρ d fp vs hfz c8 I' ⟨m,lf,L,es,h1,h2,h3,h4,h5,h6,h7,h8,h9⟩;obtain⟨v,K',rfl,hv,hn⟩:=LR.cons_inv (show LR ρ [.sS (z.s 5)] vs from I');obtain rfl:=LR.nil_inv hn;obtain⟨s,hs,rfl⟩:=PY hv;obtain⟨_,c1,c2⟩:=tZ h1;have hs1:1<=s.size:=by rw[←bZ,hs];exact hl1
 have hs2:s.size<=64:=Ex (by rw[hs];exact hl2);rcases CB h2 h3 s (by unfold maxLen;omega) with⟨A,x,B,e1,e2,e3,c9⟩|⟨s8,_⟩
 ·have hx:x∈L:=by rw[e1];simp
  have hxn:x.n<=1073741824:=aaH (zm hx) (by rw[←h4];exact h8);obtain⟨a,cap,v,xs,lt,q1,q2,q3,q4⟩:=zn (h5 x hx);have hfm:x.f∈d::fp:=by rw[h6];exact aaj _ (aaj _ (List.mem_flatMap.2 ⟨x,hx,aan⟩))
  have U':m∈d::fp:=by rw[h6];exact aaj _ aan
  refine(TI d m L.length x.f x.n s w c1 c2 hs1 hs2 c9 (c8 m U') (PU (h5 x hx) (by omega)) (frozen_of_row _ _ _ _ _ q1)).mono ?_;rintro e w' ⟨rfl,rfl⟩;have hold:∀k,k<w.heap.size->k≠x.f->((w.alloc (.cells #[.string s] 9)).setCell ⟨x.f,1,none⟩ (.int .u32 x.n)).heap[k]? =w.heap[k]? :=λk hk m8=>by rw[heap_setCell_other _ _ _ _ m8];exact heap_alloc_old w _ hk
  have hxf:((w.alloc (.cells #[.string s] 9)).setCell ⟨x.f,1,none⟩ (.int .u32 x.n)).heap[x.f]? =some (.cells #[v,.int .u32 x.n] 240):=
   heap_setCell_same _ _ _ #[v,.int .u32 lt] _ _ ((heap_alloc_old w _ (c8 _ hfm)).trans q1)
  have hnd:∀k∈d::fp,k<w.heap.size:=c8;have hP:(d::m::(A.flatMap PkE.own++(x.own++B.flatMap PkE.own))).Nodup:=by rw[←jl, ←e1, ←h6];exact h7
  have hP:=((lA d m A B x.own).nodup_iff).1 hP;have m8:∀k,k∈x.bk.toList∨k∈(d::m::(A.flatMap PkE.own++B.flatMap PkE.own))->k≠x.f:=λk hk e=>by have:=(List.nodup_cons.1 (show(x.f::(x.bk.toList++(d::m::(A.flatMap PkE.own++B.flatMap PkE.own)))).Nodup from hP)).1;rw[←e] at this;exact this (List.mem_append.2 hk)
  have ab1:∀k,k∈(d::m::(A.flatMap PkE.own++B.flatMap PkE.own))->k∈d::fp:=λk hk=>by rw[h6,e1,jl];have:=((lA d m A B x.own).mem_iff (a:=k)).2 (abo _ hk);exact this
  have hA:∀y,y∈A∨y∈B->∀k∈y.own,k∈(d::m::(A.flatMap PkE.own++B.flatMap PkE.own)):=λy hy k hk=>by
   refine aaj _ (aaj _ (List.mem_append.2 ?_));rcases hy with hy|hy
   ·exact .inl (List.mem_flatMap.2 ⟨y,hy,hk⟩)
   ·exact .inr (List.mem_flatMap.2 ⟨y,hy,hk⟩)
  refine⟨_,fp,rfl,⟨m,lf,L,es, ?_, ?_,h3,h4,λy hy=>?_,h6,h7,h8,λhL=>absurd hx (by rw[hL];exact aaP)⟩,⟨rfl,rfl,rfl,by simp,λk hk s8=>hold k hk (λe=>s8 (e▸hfm)),λx hx=>.inl hx⟩,λρ'=>.sI .i64 0⟩
  ·exact(hold d (c8 d aan) (m8 d (.inr aan))).trans h1
  ·exact eJ h2 (hold m (c8 m U') (m8 m (.inr (aaj _ aan))))
  ·have hy':y∈A∨y=x∨y∈B:=by rw[e1] at hy;simpa using hy
   rcases hy' with hy'|rfl|hy'
   ·exact(h5 y hy).keep λk hk=>hold k (c8 k (ab1 k (hA y (.inl hy') k hk))) (m8 k (.inr (hA y (.inl hy') k hk)))
   ·refine⟨v,xs,_,hxf,⟨q3.1, ?_⟩,q4⟩;rcases q3.2 with hn|⟨g,cp,sh,rfl,hb,hg,rest⟩
    ·exact .inl hn
    ·have hb':y.bk=some g:=by rw[←q4];rfl
     have hgm:g∈d::fp:=by rw[h6];exact aaj _ (aaj _ (List.mem_flatMap.2 ⟨y,hx,aaj _ (by rw[hb'];exact List.mem_singleton.2 rfl)⟩))
     exact .inr ⟨g,cp,sh,rfl,hb,(hold g (c8 g hgm) (m8 g (.inl (by rw[hb'];exact List.mem_singleton.2 rfl)))).trans hg,rest⟩
   ·exact(h5 y hy).keep λk hk=>hold k (c8 k (ab1 k (hA y (.inr hy') k hk))) (m8 k (.inr (hA y (.inr hy') k hk)))
 ·rw[←hs,h4] at his;obtain⟨x,hx,e⟩:=HV.1 his;exact absurd e (s8 x hx)
def qu(x:Lit×DataW Unit):∀l:List (Lit×DataW Unit),(DataW.insert x l).Perm (x::l)
 | []=>.refl _
 |y::l=>by
  unfold DataW.insert;split
  ·exact .refl _
  ·exact((qu x l).cons y).trans (.swap _ _ _)
def Kc:Ok Tryz.prog 133 tY:=by
 refine RH (k:=1) (C:=pR lz) (S:=tY) (al:=[.c (.s 5),.c (.vb 6)]) (lR lz) (λz=>gN (z.s 5) (z.s 6).length (z.g 20)) (λ_=>.sI .i64 0) (λz=>[(20,.g (gN (z.s 5) (z.s 6).length (z.g 20))),(30,.i 0)]) rfl rfl rfl (λz h=>⟨rfl,rfl⟩) (λz=>⟨_,rfl,⟨rfl,trivial⟩,rfl⟩) (λargs w=>Tryz.call133 args w) ?_;rintro z ⟨⟨hl1,hl2⟩,hb1,ac3,ak_⟩ w ρ d fp vs hfz c8 I' ⟨m,lf,L,es,h1,h2,h3,h4,h5,h6,h7,h8,h9⟩;obtain⟨v1,K',rfl,Jx,hn⟩:=LR.cons_inv (show LR ρ [.sS (z.s 5),.cv (.bytes (z.s 6))] vs from I');obtain⟨v2,K',rfl,R8,hn⟩:=LR.cons_inv hn;obtain rfl:=LR.nil_inv hn;obtain⟨s,hs,rfl⟩:=PY Jx;obtain⟨bb,off,cp,arr,ty,rfl,hf,T',ag1⟩:=vr_vb R8 hb1;obtain⟨hbn,fr,hbb⟩:=hfz _ _ hf;obtain⟨news,n1,n2,n3⟩:=TK hbb T' ag1;obtain⟨c0,c1,c2⟩:=tZ h1;have hs1:1<=s.size:=by rw[←bZ,hs];exact hl1
 have hs2:s.size<=64:=Ex (by rw[hs];exact hl2);have hU:dj (VF w) es=fj (z.g 20):=by rw[PW h3 h5,h4]
 have at7:L.length=(z.g 20).length:=by rw[h4,aaK]
 have hlen:es.length=L.length:=by rw[h3.length_eq,aaK]
 have hfl:∀p∈es,∀b:Nat,p.2= .lit (.int .i64 b)->PkF w b (VF w p.2):=λp hp b hb=>by
  obtain⟨x,hx,rfl⟩:=List.mem_map.1 (h3.mem_iff.1 hp);rw[PV (h5 x hx)];have:(DataW.lit (Lit.int .i64 (x.f:Int)):DataW Unit)= .lit (.int .i64 b):=hb;injection this with this;injection this with _ this;have e:x.f=b:=by omega
  subst e;exact PU (h5 x hx) (by have:=zm hx;rw[←h4] at this;omega)
 have ad2:(dj (VF w) es:Int)+(z.s 6).length<=lz:=by rw[hU];exact ac3
 have U':m∈d::fp:=by rw[h6];exact aaj _ aan
 have ai6:∀k,k∈d::fp↔k=d∨k=m∨∃x∈L,k∈x.own:=λk=>by rw[h6,List.mem_cons,List.mem_cons,List.mem_flatMap]
 have ad9:fj (gN (z.s 5) (z.s 6).length (z.g 20))<=1073741824:=by rw[CA];omega
 rcases CB h2 h3 s (by unfold maxLen;omega) with⟨A,x,B,e1,e2,e3,c9⟩|⟨s8,c9⟩
 ·have hx:x∈L:=by rw[e1];simp
  obtain⟨a,cap,v,xs,lt,q1,q2,q3,q4⟩:=zn (h5 x hx);have hxn:x.n+(z.s 6).length<=1073741824:=by have:=zm hx;rw[←h4] at this;omega
  have hP:(d::m::(A.flatMap PkE.own++(x.own++B.flatMap PkE.own))).Nodup:=by rw[←jl, ←e1, ←h6];exact h7
  have hP:=((lA d m A B x.own).nodup_iff).1 hP;obtain⟨hQ1,hQ2⟩:=List.nodup_cons.1 (show(x.f::(x.bk.toList++(d::m::(A.flatMap PkE.own++B.flatMap PkE.own)))).Nodup from hP);have hbk:∀k,k∈(d::m::(A.flatMap PkE.own++B.flatMap PkE.own))->v.ownBlock≠some k:=λk hk e=>by rw[q4] at e;have:=(List.nodup_append.1 hQ2).2.2;exact this k (by rw[e];exact List.mem_singleton.2 rfl) k hk rfl
  have m8:∀k,k∈(d::m::(A.flatMap PkE.own++B.flatMap PkE.own))->k≠x.f:=λk hk e=>hQ1 (e▸abo _ hk);have hvb:v.ownBlock≠some x.f:=λe=>hQ1 (abn _ (by rw[←q4,e];exact List.mem_singleton.2 rfl));have ab1:∀k,k∈(d::m::(A.flatMap PkE.own++B.flatMap PkE.own))->k∈d::fp:=λk hk=>by rw[h6,e1,jl];exact((lA d m A B x.own).mem_iff (a:=k)).2 (abo _ hk)
  have hA:∀y,y∈A∨y∈B->∀k∈y.own,k∈(d::m::(A.flatMap PkE.own++B.flatMap PkE.own)):=λy hy k hk=>by
   refine aaj _ (aaj _ (List.mem_append.2 ?_));rcases hy with hy|hy
   ·exact .inl (List.mem_flatMap.2 ⟨y,hy,hk⟩)
   ·exact .inr (List.mem_flatMap.2 ⟨y,hy,hk⟩)
  have hfm:x.f∈d::fp:=(ai6 _).2 (.inr (.inr ⟨x,hx,aan⟩));refine(uF d m L.length x.f x.n (z.s 6).length cp lz es (VF w) s v xs news ⟨bb,off,none⟩ w c0 c1 c2 hs1 hs2 h2 hfl ad2 (by decide) c9 (by rw[cell_of_row _ _ _ _ _ _ q1];rfl) (frozen_of_row _ _ _ _ _ q1) q3 hvb (hbk d aan) (λe=>m8 d aan e.symm) hxn n1 hb1 n2 n3).mono ?_;rintro e w' ⟨rfl,g,ah1,w1,hg,ag8,ae5,rfl⟩;have hold:∀k,k<w.heap.size->v.ownBlock≠some k->k≠x.f->(w1.setCell ⟨x.f,0,none⟩ (.slice (some ⟨g,0,none⟩) (x.n+(z.s 6).length) ah1)).heap[k]? =w.heap[k]? :=λk hk hn2 at1=>by rw[heap_setCell_other _ _ _ _ at1];exact hg.block k hk (λe=>hn2 e.symm)
  have ab3:∀k,k∈(d::m::(A.flatMap PkE.own++B.flatMap PkE.own))->(w1.setCell ⟨x.f,0,none⟩ (.slice (some ⟨g,0,none⟩) (x.n+(z.s 6).length) ah1)).heap[k]? =w.heap[k]? :=λk hk=>hold k (c8 k (ab1 k hk)) (hbk k hk) (m8 k hk);have am4:g<w1.heap.size:=by obtain⟨g',_,hv',_,E'⟩:=ag8.form (by omega);injection hv' with hv';injection hv' with hv';injection hv' with hv';rw[hv'];exact E'
  have hgx:g≠x.f:=λe=>by
   rcases ae5 with h|h
   ·exact hvb (e▸h)
   ·have:=c8 _ hfm;omega
  have hgk:∀k,k∈(d::m::(A.flatMap PkE.own++B.flatMap PkE.own))->g≠k:=λk hk e=>by
   rcases ae5 with h|h
   ·exact hbk k hk (e▸h)
   ·have:=c8 _ (ab1 k hk);omega
  have hL':∀y,y∈A++{x with bk:=some g,n:=x.n+(z.s 6).length}::B↔y∈A∨y={x with bk:=some g,n:=x.n+(z.s 6).length}∨y∈B:=λy=>by simp
  refine⟨_,m::(A++{x with bk:=some g,n:=x.n+(z.s 6).length}::B).flatMap PkE.own,rfl,⟨m,lf,A++{x with bk:=some g,n:=x.n+(z.s 6).length}::B,es, ?_, ?_, ?_, ?_,λy hy=>?_,rfl, ?_,ad9,λhL=>absurd hL (by simp)⟩,⟨hg.os,hg.tape,hg.output,by simpa using hg.size,λk hk s8=>hold k hk (λe=>s8 ?_) (λe=>s8 (e▸hfm)),λk hk=>?_⟩,λρ'=>.sI .i64 0⟩
  ·exact(ab3 d aan).trans h1
  ·have:(A++{x with bk:=some g,n:=x.n+(z.s 6).length}::B).length=L.length:=by rw[e1];simp
   rw[this];exact eJ h2 (ab3 m (aaj _ aan))
  ·rw[e1] at h3;simpa [PkE.ent] using h3
  ·rw[h4,e1, ←hs, ←e2];exact Yb (λy hy=>by rw[e2];exact e3 y hy) _
  ·rcases(hL' y).1 hy with hy|rfl|hy
   ·exact(h5 y (by rw[e1];simp [hy])).keep λk hk=>ab3 k (hA y (.inl hy) k hk)
   ·refine⟨.slice (some ⟨g,0,none⟩) (x.n+(z.s 6).length) ah1,xs++news,lt,heap_setCell_same w1 x.f 0 #[v,.int .u32 lt] _ _ ((hg.block x.f (c8 _ hfm) (λe=>hvb e.symm)).trans q1),ag8.kept (iF w1 x.f 0 _) (.inr (λe=>hgx (by injection e))),rfl⟩
   ·exact(h5 y (by rw[e1];simp [hy])).keep λk hk=>ab3 k (hA y (.inr hy) k hk)
  ·have hp:=lA d m A B ({x with bk:=some g,n:=x.n+(z.s 6).length}:PkE).own;rw[jl];refine hp.nodup_iff.2 (List.nodup_cons.2 ⟨λhm=>?_,List.nodup_cons.2 ⟨λhm=>hgk g hm rfl,(List.nodup_append.1 hQ2).2.1⟩⟩);rcases List.mem_cons.1 hm with h|h
   ·exact hgx h.symm
   ·exact m8 _ h rfl
  ·rw[q4] at e;exact(ai6 _).2 (.inr (.inr ⟨x,hx,aaj _ (by rw[e];exact List.mem_singleton.2 rfl)⟩))
  ·rcases List.mem_cons.1 hk with rfl|hk
   ·rw[h6];exact .inl aan
   ·obtain⟨y,hy,hky⟩:=List.mem_flatMap.1 hk;have qm:∀y∈L,∀k∈y.own,k∈fp:=λy hy k hk=>by rw[h6];exact aaj _ (List.mem_flatMap.2 ⟨y,hy,hk⟩)
    rcases(hL' y).1 hy with hy|rfl|hy
    ·exact .inl (qm y (by rw[e1];simp [hy]) k hky)
    ·rcases List.mem_cons.1 hky with rfl|hky
     ·exact .inl (qm x hx _ aan)
     ·obtain rfl:=List.mem_singleton.1 hky;rcases ae5 with h|h
      ·rw[q4] at h;exact .inl (qm x hx _ (aaj _ (by rw[h];exact List.mem_singleton.2 rfl)))
      ·exact .inr ⟨h,by simpa using am4⟩
    ·exact .inl (qm y (by rw[e1];simp [hy]) k hky)
 ·refine(uG d m L.length (z.s 6).length cp lz es (VF w) s news ⟨bb,off,none⟩ w c0 c1 c2 hs1 hs2 h2 hfl ad2 (by decide) c9 (by omega) (by omega) n1 hb1 n2 n3).mono ?_;rintro e w' ⟨rfl,b,g,ah1,w1,hg,hb,hgb,hbg,am2,ag8,ak3,ap_,rfl⟩;have am4:g<w1.heap.size:=by obtain⟨g',_,hv',_,E'⟩:=ak3.form (by omega);injection hv' with hv';injection hv' with hv';injection hv' with hv';rw[hv'];exact E'
  have ab3:∀k,k<w.heap.size->k≠m->(w1.setCell ⟨b,0,none⟩ (.slice (some ⟨g,0,none⟩) (z.s 6).length ah1)).heap[k]? =w.heap[k]? :=λk hk m8=>by rw[heap_setCell_other _ _ _ _ (show k≠b by omega)];exact hg.block k hk (λe=>m8 (Option.some.inj e))
  obtain⟨hdm,hnd⟩:=List.nodup_cons.1 h7;have hdm:d≠m:=λe=>hdm (by rw[h6,e];exact aan);rw[h6] at hnd;obtain⟨hm1,hnd⟩:=List.nodup_cons.1 hnd;have av0:∀k∈d::fp,k<w.heap.size:=c8;refine⟨_,m::(L++ [(⟨s,b,some g,(z.s 6).length⟩:PkE)]).flatMap PkE.own,rfl,⟨m,lf,L++ [(⟨s,b,some g,(z.s 6).length⟩:PkE)],DataW.insert (.string s.data.toList,.lit (.int .i64 b)) (es.filter λp=>!p.1.sameKey (.string s.data.toList)), ?_, ?_, ?_, ?_,λy hy=>?_,rfl, ?_,ad9,λhL=>absurd hL (by simp)⟩,⟨hg.os,hg.tape,hg.output,by simpa using hg.size,λk hk s8=>ab3 k hk (λe=>s8 (e▸U')),λk hk=>?_⟩,λρ'=>.sI .i64 0⟩
  ·exact(ab3 d (c8 d aan) hdm).trans h1
  ·have e:(L++ [(⟨s,b,some g,(z.s 6).length⟩:PkE)]).length=L.length+1:=by simp
   rw[e];exact ag8.kept (iF w1 b 0 _) (λe=>by have:=c8 m U';have:=Option.some.inj e;omega)
  ·have at2:es.filter (λp=>!p.1.sameKey (.string s.data.toList))=es:=List.filter_eq_self.2 λp hp=>by obtain⟨x,hx,rfl⟩:=List.mem_map.1 (h3.mem_iff.1 hp);have:x.ent.1.sameKey (.string s.data.toList)=false:=Maps.sameKey_ne λe=>s8 x hx (PT.1 e);rw[this];rfl
   rw[at2,List.map_append];exact((qu _ _).trans (h3.cons _)).trans (List.perm_append_comm (l₁:=[(⟨s,b,some g,(z.s 6).length⟩:PkE).ent]))
  ·rw[h4, ←hs,Ya s8,List.map_append];rfl
  ·rcases List.mem_append.1 hy with hy|hy
   ·refine(h5 y hy).keep λk hk=>ab3 k (c8 k ((ai6 k).2 (.inr (.inr ⟨y,hy,hk⟩)))) (λe=>hm1 (e▸List.mem_flatMap.2 ⟨y,hy,hk⟩))
   ·obtain rfl:=List.mem_singleton.1 hy;exact⟨.slice (some ⟨g,0,none⟩) (z.s 6).length ah1,news,0,heap_setCell_same w1 b 0 #[.slice none 0 0,.int .u32 0] _ _ ap_,ak3.kept (iF w1 b 0 _) (.inr (λe=>hbg (by injection e with e;exact e.symm))),rfl⟩
  ·have e:(d::m::(L++ [(⟨s,b,some g,(z.s 6).length⟩:PkE)]).flatMap PkE.own)=(d::fp)++ [b,g]:=by rw[h6];simp [PkE.own]
   rw[e];refine List.nodup_append.2 ⟨h7,by simp [hbg],λk hk k' hk'=>?_⟩;have:=c8 k hk;rcases List.mem_cons.1 hk' with rfl|hk'
   ·omega
   ·obtain rfl:=List.mem_singleton.1 hk';omega
  ·have e:m::(L++ [(⟨s,b,some g,(z.s 6).length⟩:PkE)]).flatMap PkE.own=fp++ [b,g]:=by rw[h6];simp [PkE.own]
   rw[e] at hk;rcases List.mem_append.1 hk with hk|hk
   ·exact .inl hk
   ·right;rw[World.size_setCell];rcases List.mem_cons.1 hk with rfl|hk
    ·exact⟨hb,am2⟩
    ·obtain rfl:=List.mem_singleton.1 hk;exact⟨hgb,am4⟩
def Yc:Ok Tryz.prog 14 PX:=by
 refine ZT (k:=1) (C:=pR lz) (S:=PX) (lR lz) (λz=>[]) (λ_=>.tup [.ptr (base+64) 0 0,.sI .i64 0]) (λz=>[(20,.g []),(30,.i 0)]) rfl rfl (λz h=>⟨rfl,rfl⟩) (λz=>⟨_,rfl,⟨rfl,trivial⟩,rfl⟩) (λargs w=>Tryz.call14 args w) ?_;rintro z hz w ρ vs I';obtain⟨v1,K',rfl,Jx,hn⟩:=LR.cons_inv (show LR ρ [.sI .i64 (z.i 1)] vs from I');obtain rfl:=LR.nil_inv hn;obtain rfl:=VI Jx;have hz:z.i 1=4194304:=hz;rw[hz];refine(X_ 4194304 w (by decide) (by decide)).mono ?_;rintro e w' ⟨rfl,rfl⟩;have e1:((w.alloc (.map #[] 0)).alloc (.cells #[.int .i64 4194304,.map (some w.heap.size),.bool false,.int .i64 0] 101)).heap[w.heap.size+1]? =some (.cells #[.int .i64 4194304,.map (some w.heap.size),.bool false,.int .i64 0] 101):=by have:=heap_alloc_new (w.alloc (.map #[] 0)) (.cells #[.int .i64 4194304,.map (some w.heap.size),.bool false,.int .i64 0] 101);simpa using this
 refine⟨_,w.heap.size+1,[w.heap.size],rfl,⟨w.heap.size,0,[],[],e1,(World.ownsMap_made w _ _ _).alloc _,.refl _,rfl,λx h=>absurd h aaP,rfl,by simp,by simp [fj],λ_=>(heap_alloc_old _ _ (by simp)).trans (heap_alloc_new w _)⟩,((RowKit.Below.refl _ _).alloc (aaa _) _).alloc (by simp) _,λx hx=>?_,λρ' hρ=>.tup _ _ rfl ?_⟩
 ·simp at hx⊢;omega
 ·exact(LR.arr (cs:= #[.pointer (some ⟨w.heap.size+1,0,none⟩),.int .i64 0]) (LR.cons (.ptr _ _ _ _ hρ (aaa _)) (LR.cons (.sI .i64 0) (LR.nil _)))).2
def CC{nm:List Nat}{l:List G}(h:jk nm l):∃r∈l,gS (aa r 0)=nm:=h
def zo:fj []=0:=rfl
attribute [irreducible] pR fj jk gN
end
noncomputable section
def nc(l:List G):G:=@ite _ (l.length=0) (Classical.propDecidable _) hZ (hX (aa (aq l (((l.length:Nat):Int)-1).toNat) 0))
def HW{l:List G}(h:l.length=0):nc l=hZ:=if_pos h
def PZ{l:List G}(h:¬l.length=0):nc l=hX (aa (aq l (((l.length:Nat):Int)-1).toNat) 0):=if_neg h
def zp{l:List G}(h:RowsOk l):HOk (nc l):=by
 by_cases e:l.length=0
 ·rw[HW e];exact dh
 ·rw[PZ e];exact h.at (by omega) (by omega)
def P0(k:Int)(n:Nat)(l:List G):Prop:=(∀r∈l,gS (aa r 0)=fD∨∃i:Int,0<=i/\i<k/\gS (aa r 0)=cP i)/\(l.length:Int)<=2 * k/\fj l<=n
def TN:P0 0 0 []:=⟨λr h=>absurd h aaP,by simp,by rw[zo];exact aaa _⟩
def TO{k:Int}{n:Nat}{l:List G}(h:P0 k n l)(h0:0<=k)(h1:k<100):¬jk (cP k) l:=λhs=>by
 obtain⟨r,hr,e⟩:=CC hs;rcases h.1 r hr with h2|⟨i,i0,ik,h2⟩
 ·exact O0 k (e.symm.trans h2)
 ·have:=Hh h0 i0 h1 (by omega) (e.symm.trans h2);omega
def HX{k:Int}{n:Nat}{l:List G}(h:P0 k n l):(l.length:Int)<=2 * k/\fj l<=n:=h.2
def P1{k:Int}{n m:Nat}{l:List G}(h:P0 k n l)(h0:0<=k):(∀r∈gN (cP k) m l,gS (aa r 0)=fD∨∃i:Int,0<=i/\i<k+1/\gS (aa r 0)=cP i)/\((gN (cP k) m l).length:Int)<=2 * k+1/\fj (gN (cP k) m l)<=n+m:=by
 obtain⟨h1,h2,h3⟩:=h;have:=rr (cP k) m l;refine⟨λr hr=>?_,by omega,by rw[CA];omega⟩;rcases(rx (cP k) m l).2 r hr with h|⟨r',hr',e'⟩
 ·exact .inr ⟨k,h0,by omega,h⟩
 ·rcases h1 r' hr' with h|⟨i,i0,ik,h⟩
  ·exact .inl (e'.symm.trans h)
  ·exact .inr ⟨i,i0,by omega,e'.symm.trans h⟩
def HY{k:Int}{n m:Nat}{l:List G}(h1:∀r∈l,gS (aa r 0)=fD∨∃i:Int,0<=i/\i<k+1/\gS (aa r 0)=cP i)(h2:(l.length:Int)<=2 * k+1)(h3:fj l<=n):P0 (k+1) (n+m) (gN fD m l):=by
 have:=rr fD m l;refine⟨λr hr=>?_,by omega,by rw[CA];omega⟩;rcases(rx fD m l).2 r hr with h|⟨r',hr',e'⟩
 ·exact .inl h
 ·rcases h1 r' hr' with h|⟨i,i0,ik,h⟩
  ·exact .inl (e'.symm.trans h)
  ·exact .inr ⟨i,i0,ik,e'.symm.trans h⟩
def P2{k:Int}{n a b:Nat}{l:List G}(h:P0 k n l)(h0:0<=k):P0 (k+1) (n+a+b) (gN fD b (gN (cP k) a l)):=by obtain⟨q1,q2,q3⟩:=P1 (m:=a) h h0;exact HY q1 q2 q3
def TP{k:Int}{n b:Nat}{l:List G}(h:P0 k n l)(h0:0<=k):P0 (k+1) (n+b) (gN fD b l):=by
 obtain⟨h1,h2,h3⟩:=h;refine HY (λr hr=>?_) (by omega) h3;rcases h1 r hr with h|⟨i,i0,ik,h⟩
 ·exact .inl h
 ·exact .inr ⟨i,i0,by omega,h⟩
def Ey(nm:List Nat)(n:Nat)(l:List G):jk nm (gN nm n l):=(rx nm n l).1
def zq(nm:List Nat)(n:Nat)(l:List G):fj (gN nm n l)=fj l+n/\(gN nm n l).length<=l.length+1:=⟨CA nm n l,rr nm n l⟩
def wO:FSpec:=⟨[.c (.p 0),.c (.s 5)],Eu,λz=>¬jk (z.s 5) (z.g 20)/\(z.s 5).length<=64,λ_=>.one (.c (.i .i64 30)),λ_=>Eu,λz y=>y.g 20=z.g 20/\y.i 30=0,none⟩
def P3:FSpec:=⟨[.c (.p 0),.c (.s 5),.c (.vb 6)],Eu,λz=>¬jk (z.s 5) (z.g 20)/\(1<=(z.s 5).length/\(z.s 5).length<=64)/\(z.s 6).length<=524288/\(fj (z.g 20):Int)+(z.s 6).length+12<=4194304/\(z.g 20).length<4000,λ_=>.one (.c (.i .i64 30)),λ_=>Eu,λz y=>y.g 20=gN (z.s 5) ((z.s 6).length+12) (z.g 20)/\y.i 30=0,none⟩
def P4:FSpec:=⟨[.cp [.o,.v 11 31,.v 6 32,.o]],[],λz=>RowsOk (z.g 32)/\(z.g 32).length<=1000,λ_=>.one (.ag (hs 300)),λ_=>[],λz y=>hT y 300=nc (z.g 32),none⟩
end
def Yd:bn 14 PX:=Yc
def HZ:bn 80 Ev:=TL
def wP:bn 133 tY:=Kc
def H0:bn 83 Ew:=TM
def hv22(z:Sy):=λh h0 hi=>@RowsOk.at (z.g 32) h (((z.g 32).length:Int)-1) h0 hi
def H1:bn 18 P4:=bA 4 33 eN lN λz hA=>show Fm.den (let v0:=(↑(z.g 32).length:Int);(.two (v0=0) (.ax (hZ=nc (z.g 32))) (.an ((-9223372036854775808)<=v0-1/\v0-1<=9223372036854775807) (.an (uB v0) (.ax (hX (aZ (aK (z.g 32) (v0-1)))=nc (z.g 32))))))) by
 dsimp only [P4,hs] at hA;have:=@HW (z.g 32);have:=@PZ (z.g 32);have:=hv22 z;conv=>zeta
 repeat' with_reducible first|intro _|apply bV|apply bW|apply bX|apply cy|apply cj
 all_goals first|omega|grind [ao,am,ak,aP,aQ,aR,aS,aT,aU,aV,aW,aX,az,List.append_assoc,dH]
abbrev qD(a:List G):=pR lz a=pR lz a/\True
def Ez:bn 137 wO:=bA 2 2 (ai HZ eN) lN λz hA=>show Fm.den ((.cl ((qD (z.g 20))) (¬jk (z.s 5) (z.g 20)/\(z.s 5).length<=64) (λy0=>y0.g 20=z.g 20/\y0.i 30=7) λy0=>(.an (y0.i 30≠0) (.an (qD (y0.g 20)) (.at (y0.g 20=z.g 20/\(0:Int)=0)))))) by
 dsimp only [wO,Eu] at hA;repeat' with_reducible first|intro _|apply bV|apply bW|apply bX|apply cy|apply cj
 all_goals first|omega|grind [ao,am,ak,aP,aQ,aR,aS,aT,aU,aV,aW,aX,az,List.append_assoc,dH]
abbrev P5(a:List Nat):=1<=a.length/\a.length<=64
def TQ:bn 130 P3:=bA 4 63 (ai Ez (ai wI (ai wP (ai H0 eN)))) lN λz hA=>show Fm.den ((.cl ((qD (z.g 20))) (¬jk (z.s 5) (z.g 20)/\(z.s 5).length<=64) (λy0=>y0.g 20=z.g 20/\y0.i 30=0) λy0=>(.an (¬(y0.i 30≠0)) (Ti (z.s 6) λy1=>(.an (¬(y1.i 50≠0)) (.cl ((qD (y0.g 20))) ((P5 (z.s 5))/\1<=(y1.s 10).length/\(↑(fj (y0.g 20)):Int)+(↑(y1.s 10).length:Int)<=4194304/\(y0.g 20).length<4000) (λy2=>y2.g 20=gN (z.s 5) (y1.s 10).length (y0.g 20)/\y2.i 30=0) λy2=>(.an (¬(y2.i 30≠0)) (.cl ((qD (y2.g 20))) (jk (z.s 5) (y2.g 20)/\1<=(z.s 5).length/\(z.s 5).length<=64) (λy3=>y3.g 20=y2.g 20/\y3.i 30=0) λy3=>(.an (qD (y3.g 20)) (.at (y3.g 20=gN (z.s 5) ((z.s 6).length+12) (z.g 20)/\y3.i 30=0))))))))))) by
 dsimp only [P3,Eu] at hA;have:=Ey (z.s 5) ((z.s 6).length+12) (z.g 20);have:=dH (z.s 6);repeat' with_reducible first|intro _|apply bV|apply bW|apply bX|apply cy|apply cj
 all_goals first|omega|grind [ao,am,ak,aP,aQ,aR,aS,aT,aU,aV,aW,aX,az,List.append_assoc,dH]
end Go.Proofs.YthgjkeemmhcpfaaGreatDoor
