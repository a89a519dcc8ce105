/- Part 8: JoZm, G38x, G38, G39, JoZn, JoZo, G40a, G40, G41, G42, JoZp, G43, JoZq, JoZr, G44, G45. Names and spaces are cut short by program. -/
import Derived.Test.YtojibgjadakamaaGreatDoorProg
import Derived.KernelRfl
import Derived.Test.YtojibgjadakamaaGreatDoorP5
import Derived.Test.YtojibgjadakamaaGreatDoorP6
import Derived.Test.YtojibgjadakamaaGreatDoorP7
set_option linter.all false
namespace Go.Proofs.YtojibgjadakamaaGreatDoor
open Go.Sym
set_option maxRecDepth 100000
noncomputable section
def Wd:G:=.node [.int 1,.str [115],.int 0,.int 0,.int 0,.int 0,.int 0,.int 0,.str [],.node [],.node [],hZ,.int 0,.int 0,.int 0]
def Ui(v:G):G:=zS (gI (aa v 0)) (gI (aa v 1)) (gI (aa v 2)) (gS (aa v 3)) (gL (aa v 4)) (gL (aa v 5))
def MQ(k:Int)(v:G):G:=.node [.int 2,.str [],.int 1,.int (1+k),.int 0,.int (gI (aa v 0)),.int (gI (aa v 1)),.int (gI (aa v 2)),.str (gS (aa v 3)),.node (gL (aa v 4)),.node (gL (aa v 5)),Ui v,.int 0,.int 0,.int 0]
def Rj:List G->Int->List G
 | [],_=>[]
 |v::vs,k=>MQ k v::Rj vs (k+1)
def sE(l:List G)(i:Int):List G:=Rj (l.drop i.toNat) i
theorem MS{l:List G}{i:Int}(h0:0<=i)(h:i<l.length):sE l i=MQ i (aq l i.toNat)::sE l (i+1):=by
 unfold sE;rw[dQ h0 h];rfl
theorem P4{l:List G}{i:Int}(h:(l.length:Int)<=i):sE l i= []:=by unfold sE;rw[aaK (by omega)];rfl
def eY(l:List G):List G:=Wd::sE l 0
theorem Dd(k:Int)(v:G):MQ k v= .node [.int 2,.str [],.int 1,.int (1+k),.int 0,.int (gI (aa v 0)),.int (gI (aa v 1)),.int (gI (aa v 2)),.str (gS (aa v 3)),.node (gL (aa v 4)),.node (gL (aa v 5)),Ui v,.int 0,.int 0,.int 0]:=rfl
def Uj(l:List G):Prop:=∀g∈l,Uf 16 g=g
def iT(l:List G):Prop:=Uj l/\oX 1002 l/\mX 1002 l 0<=1000/\l.length<=1000
theorem Fu:∀(l:List G) (i:Int),(Rj l i).length=l.length
 | [],_=>rfl
 |_::l,i=>by rw[Rj,aao,Fu,aao]
theorem mY(l:List G):(eY l).length=l.length+1:=by
 unfold eY sE
 rw[aao,Fu];rfl
theorem Rk{l:List G}{i:Int}(h:iT l)(h0:0<=i)(hi:i<l.length):lA 16 (gI (aa (aq l i.toNat) 1)) (gS (aa (aq l i.toNat) 3)) (gL (aa (aq l i.toNat) 4)) (gL (aa (aq l i.toNat) 5))/\nP 16 (gS (aa (aq l i.toNat) 3)) (gL (aa (aq l i.toNat) 5))<=100000:=ML h.2.1 h.2.2.1 h0 hi
theorem De:∀(l:List G) (k:Int) (n:Nat),n<l.length->aq (Rj l k) n=MQ (k+n) (aq l n)
 | [],k,n,h=>by simp at h
 |v::vs,k,0,h=>by show MQ k v=MQ (k+(0:Nat)) v;congr 1;omega
 |v::vs,k,n+1,h=>by
  have:=De vs (k+1) n (by simpa using h)
  show aq (Rj vs (k+1)) n=MQ _ (aq vs n)
  rw[this];congr 1;omega
theorem P5:lA 16 0 [] [] []:=by with_unfolding_all exact⟨⟨⟨by decide,by decide⟩,by decide,by decide,by decide⟩,fun _ h=>absurd h List.not_mem_nil⟩
theorem P6:nP 16 [] []<=10000000:=by
 have:nP 16 [] []=24:=by with_unfolding_all rfl
 omega
theorem Fv(kd i sc:Int)(t:List Nat)(ns ks:List G):HOk (zS kd i sc t ns ks):=by
 unfold zS
 split
 ·exact ce _
 ·exact fT
theorem Vj:pI ((0:Int)=1)=0:=if_neg (by decide)
theorem MT{tx:List Nat}{tb dc vr vi:Int}{vt:List Nat}{vn vx:List G}{h:G}{ab ae:Int}(h0:tx.length<=1000000/\(-9223372036854775808<=tb/\tb<9223372036854775808)/\(-9223372036854775808<=dc/\dc<9223372036854775808)/\(-9223372036854775808<=vr/\vr<9223372036854775808)/\
 (-9223372036854775808<=ab/\ab<9223372036854775808)/\(-9223372036854775808<=ae/\ae<9223372036854775808)/\lA 16 vi vt vn vx/\nP 16 vt vx<=10000000/\HOk h):lR tx tb dc vr vi vt vn vx h ab ae:=by unfold lR;exact h0
theorem Vk:WU 0 Wd:=by
 refine⟨?_, ?_,.inl rfl,⟨fun h=>?_,fun h=>?_⟩,by decide,rfl,rfl⟩
 ·refine MT ⟨by decide,⟨by decide,by decide⟩,⟨by decide,by decide⟩,⟨by decide,by decide⟩,⟨by decide,by decide⟩,⟨by decide,by decide⟩,P5,P6, ?_⟩
  show HOk (hX hZ)
  rw[cZ fT];exact fT
 ·show G.node [.int 1,.str [115],.int 0,.int 0,.int 0,.int 0,.int 0,.int 0,.str [],.node [],.node (xB 16 []),hX hZ,.int (pI ((0:Int)=1)),.int 0,.int 0]=_
  rw[cZ fT,Vj];rfl
 ·exact absurd (show(1:Int)=2 from h) (by decide)
 ·omega
theorem Vl{l:List G}{k:Int}(h:iT l)(h0:0<=k)(hk:k<l.length):WU (k+1) (MQ k (aq l k.toNat)):=by
 obtain⟨a1,a2⟩:=Rk h h0 hk
 have hl:=h.2.2.2
 have hn:=h.1 _ (bZ h0 hk)
 have e5:xB 16 (gL (aa (aq l k.toNat) 5))=gL (aa (aq l k.toNat) 5):=by
  have:gL (aa (Uf 16 (aq l k.toNat)) 5)=gL (aa (aq l k.toNat) 5):=by rw[hn]
  exact this
 have hh:HOk (Ui (aq l k.toNat)):=Fv _ _ _ _ _ _
 refine⟨?_, ?_,.inr rfl,⟨fun _=>by omega,fun _=>rfl⟩,show ¬(0:Int)=1 by decide,rfl,rfl⟩
 ·have z1: -9223372036854775808<=(0:Int)/\(0:Int)<9223372036854775808:=⟨by decide,by decide⟩
  have z2: -9223372036854775808<=(1:Int)/\(1:Int)<9223372036854775808:=⟨by decide,by decide⟩
  refine MT ⟨aal _,z2, ?_,z1,z1,z1,a1,aaR a2 (by decide), ?_⟩
  ·show -9223372036854775808<=1+k/\1+k<9223372036854775808
   omega
  ·show HOk (hX (Ui _))
   rw[cZ hh];exact hh
 ·show G.node [.int 2,.str [],.int 1,.int (1+k),.int 0,.int (gI (aa (aq l k.toNat) 0)),.int (gI (aa (aq l k.toNat) 1)),.int (gI (aa (aq l k.toNat) 2)),.str (gS (aa (aq l k.toNat) 3)),.node (gL (aa (aq l k.toNat) 4)),.node (xB 16 (gL (aa (aq l k.toNat) 5))),hX (Ui (aq l k.toNat)),.int (pI ((0:Int)=1)),.int 0,.int 0]=_
  rw[cZ hh,Vj,e5];rfl
theorem Df{l:List G}(h:iT l):cB (eY l):=by
 unfold cB
 intro i h0 hi
 rw[mY] at hi
 by_cases e:i=0
 ·subst e;exact Vk
 ·have h1:=De l 0 (i-1).toNat (by omega)
  have h2:aq (eY l) i.toNat=aq (Rj l 0) (i-1).toNat:=by
   rw[show i.toNat=(i-1).toNat+1 by omega];rfl
  have h3:=Vl (k:=i-1) h (by omega) (by omega)
  rw[h2,h1]
  rw[show(0:Int)+((i-1).toNat:Nat)=i-1 by omega]
  rw[show i-1+1=i by omega] at h3
  exact h3
theorem MU{l:List G}(h:iT l):l.length<=1000:=h.2.2.2
abbrev pB(l:List G):List G:=gL (aa (aq l 0) 0)
def We:List Sh:=[.li .i64 0,.li .i64 0,.li .i64 0]++(List.replicate 32 (.li .u8 0))++ [.g 1 46 20]
def Ts:List BSh:=[.cells 41 We,.grow 7 48 20]
def xf(p:Sy):LSpec:={tmps:=[(0,.c (.pv 13 (p.g 1))),(17,.c (.li .i64 0)),(18,.c (.p 0)),(19,.c (.i .i64 9))],blk:=Ts,inv:=fun z=>(p.g 1).length=1/\iT (pB (p.g 1))/\(0<=z.i 9/\z.i 9<=(pB (p.g 1)).length)/\(z.g 20).length=z.i 9+1,mu:=fun z=>((pB (p.g 1)).length-z.i 9).toNat,alts:=[⟨.exit 2,[(0,.c (.pv 13 (p.g 1))),(17,.c (.li .i64 0)),(18,.c (.p 0))],Ts⟩],post:=fun z y=>y.g 20=z.g 20++sE (pB (p.g 1)) (z.i 9),keep:=[1,10,14,16]}
def MV(p:Sy):List BSh:=[.cells 41 (AQ p),.grow 14 43 34]
def Dg(p:Sy):LSpec:={tmps:=[(16,.c (.g 1 2 34)),(18,.c (.p 0)),(23,.c (.i .i64 9))],blk:=MV p,inv:=fun z=>cB (p.g 24)/\(p.g 24).length<=1000000/\(0<=z.i 9/\z.i 9<=(p.g 24).length)/\z.g 34=oY (z.i 9-1),mu:=fun z=>((p.g 24).length-z.i 9).toNat,alts:=[⟨.exit 4,[(16,.c (.g 1 2 34))],MV p⟩],post:=fun z y=>y.g 34=oY ((p.g 24).length-1),keep:=[0,1,10,14,17]}
def xg(p:Sy):LSpec:={tmps:=[(68,.c (.pv 7 (p.g 24))),(69,.c (.pi .i64 (p.g 24).length)),(70,.c (.i .i64 9))],blk:=[],inv:=fun z=>cB (p.g 24)/\(0<=z.i 9/\z.i 9<=(p.g 24).length)/\(p.g 24).length<=1000000,mu:=fun z=>((p.g 24).length-z.i 9).toNat,alts:=[⟨.exit 1,[],[]⟩],post:=fun z y=>True}
def xh(p:Sy):LSpec:={tmps:=[(30,.c (.pv 7 (p.g 24))),(31,.c (.pi .i64 (p.g 24).length)),(32,.c (.i .i64 9))],blk:=[],inv:=fun z=>cB (p.g 24)/\(0<=z.i 9/\z.i 9<=(p.g 24).length)/\(p.g 24).length<=1000000,mu:=fun z=>((p.g 24).length-z.i 9).toNat,alts:=[⟨.exit 0,[],[]⟩],post:=fun z y=>True,keep:=[0,3,6]}
def Tt:List BSh:=[.cells 117 [.o,.g 1 36 31,.o,.o,.o,.b 33],.grow 11 41 31]
def xi(p:Sy):LSpec:={tmps:=[(0,.c (.p 0)),(42,.c (.pv 7 (p.g 24))),(43,.c (.pi .i64 (p.g 24).length)),(44,.c (.i .i64 9))],blk:=Tt,inv:=fun z=>cB (p.g 24)/\(0<=z.i 9/\z.i 9<=(p.g 24).length)/\(p.g 24).length<=1000000/\(z.g 31).length<=1000000,mu:=fun z=>((p.g 24).length-z.i 9).toNat,alts:=[⟨.exit 0,[(0,.c (.p 0))],Tt⟩],post:=fun z y=>y.g 31=z.g 31/\(y.p 33↔z.p 33)}
def Dh:List BSh:=[.cells 41 We,.grow 7 48 20]
def xj(p:Sy):LSpec:={tmps:=[(1,.c (.p 0)),(10,.c (.pi .i64 (p.g 24).length)),(11,.c (.i .i64 9))],blk:=Dh,inv:=fun z=>z.g 20=p.g 24/\cB (p.g 24)/\A4 (p.g 24)=0/\(0<=z.i 9/\z.i 9<=(p.g 24).length),mu:=fun z=>((p.g 24).length-z.i 9).toNat,alts:=[⟨.exit 0,[(1,.c (.p 0))],Dh⟩],post:=fun z y=>y.g 20=p.g 24/\A4 (y.g 20)=0/\(jd (y.g 20) 0).length<=270000/\cB (y.g 20)/\lE (y.g 20),keep:=[2]}
theorem abW{P:Program}{f:Nat}{S:FSpec}(ak_:Sy->Sy->Prop)(h:∀z y,S.pre z->S.post z y->ak_ z y)(hS:Ok P f S):Ok P f {S with post:=ak_}:=by
 obtain⟨zf,hc⟩:=hS
 exact⟨fun z=>⟨(zf z).1,fun hz=>h z _ hz ((zf z).2 hz)⟩,hc⟩
def abZ:FSpec:={abP with post:=fun z y=>(y.p 40↔0<(y.s 30).length)/\(y.s 30).length=(jd (z.g 24) 0).length}
theorem acp(h:Ok Tryz.prog 128 abP):Ok Tryz.prog 128 abZ:=abW _ (fun z y _ h=>by
 obtain⟨h1,h2⟩:=(show(y.p 40↔0<(jd (z.g 24) 0).length)/\y.s 30=jd (z.g 24) 0 from h)
 exact⟨by rw[h2];exact h1,by rw[h2]⟩) h
def abS:FSpec:={AB with post:=fun z y=>((z.s 1).length<=524288->y.i 50=0)/\(y.s 10).length<=524300}
theorem ace(h:Ok Tryz.prog 131 AB):Ok Tryz.prog 131 abS:=abW _ (fun z y _ h=>⟨fun q=>(h.1 q).1,h.2.2⟩) h
theorem acB(d:Prop)(ix tm tn:Int)(pv:G)(es:List G):(r_ d ix tm tn pv es).length<=(r_ True ix tm tn pv es).length:=by
 have key:∀e:G,(E1 d e).length<=(E1 True e).length:=fun e=>by
  by_cases hd:d
  ·rw[show d=True from propext ⟨fun _=>trivial,fun _=>hd⟩];exact aaa _
  ·rw[show d=False from propext ⟨hd,False.elim⟩];exact Tp e
 have:(gu d es 0).length<=(gu True es 0).length:=by
  unfold gu
  show((es.drop 0).flatMap _).length<=((es.drop 0).flatMap _).length
  rw[aaL]
  induction es with
  |nil=>exact aaa _
  |cons e es ih=>rw[acC,acC,aai,aai];have:=key e;omega
 unfold r_
 simp only [aai];omega
def abT:FSpec:={Ai with post:=fun z y=>y.i 50=H_ z/\(y.s 10).length<=262144}
theorem acf(h:Ok Tryz.prog 130 Ai):Ok Tryz.prog 130 abT:=abW _ (fun z y _ h=>by
 obtain⟨h1,h2,h3⟩:=h
 refine⟨h1, ?_⟩
 by_cases hb:H_ z=0
 ·rw[h2 hb]
  have:=acB (z.p 25) (z.i 21) (z.i 22) (z.i 23) (hT z 200) (z.g 24)
  have:=(ku hb).2.2
  omega
 ·rw[h3 hb];exact aal _) h
def MW:FSpec:={args:=[.cp [.vb 1,.i .u32 2]],blk:=[],pre:=fun z=>(z.s 1).length<=1000000000/\(0<=z.i 2/\z.i 2<4294967296),res:=fun _=>.one (.c (.i .u64 10)),out:=fun _=>[],post:=fun z y=>y.i 10%4294967296=(z.s 1).length}
def mZ(es L H A:List G):Prop:=(A4 es=0->L= [dk es]/\H= [.node [sd es]]/\A=oY (es.length-1))/\(¬A4 es=0->L= []/\H= []/\A= [])
def MX:FSpec:={args:=[.c (.v 13 1),.c (.v 8 2)],blk:=[],pre:=fun z=>(z.g 1).length=1/\(z.g 2).length=0/\iT (pB (z.g 1)),res:=fun _=>.tu [.c .o,.c (.p 0),.c (.v 14 34),.c (.b 35)],out:=fun _=>[.cells 35 [.o,.v 11 31,.v 6 32,.b 33]],post:=fun z y=>y.p 35/\mZ (eY (pB (z.g 1))) (y.g 31) (y.g 32) (y.g 34),gl:=lI}
theorem Vm{es:List G}(h:A4 es=0):mZ es [dk es] [.node [sd es]] (oY (es.length-1)):=⟨fun _=>⟨rfl,rfl,rfl⟩,fun q=>absurd h q⟩
theorem Vn{es:List G}(h:¬A4 es=0):mZ es [] [] []:=⟨fun q=>absurd q h,fun _=>⟨rfl,rfl,rfl⟩⟩
theorem Di{l:List G}:eY l= [.node [.int 1,.str [115],.int 0,.int 0,.int 0,.int 0,.int 0,.int 0,.str [],.node [],.node [],hZ,.int 0,.int 0,.int 0]]++sE l 0:=rfl
theorem P7{l:List G}:(sE l 0).length=l.length:=by have:=mY l;unfold eY at this;simpa using this
theorem Tu{l:List G}(h:iT l):(eY l).length<=1001:=by have:=MU h;rw[mY];omega
attribute [irreducible] iT eY sE MQ mZ
end
set_option maxHeartbeats 4000000
theorem acq:Ok Tryz.prog 128 abZ:=acp acu
theorem acg:Ok Tryz.prog 131 abS:=ace acn
theorem ach:Ok Tryz.prog 130 abT:=acf acj
theorem HL(p z:Sy)(hA:(xf p).inv z):Fm.den (let vxn:=Int.toNat 0;let v0:=(aq (gL (aa (aq (p.g 1) (vxn)) 0)) (z.i 9).toNat);let v1:=(gL (aa (aq (p.g 1) 0) 0));let v2:=((0:Int)<=z.i 9/\z.i 9<(↑(gL (aa (aq (p.g 1) (vxn)) 0)).length:Int));let v3:=((0:Int)<=0/\0<(↑(p.g 1).length:Int));let v4:=(aq (gL (aa (aq (p.g 1) (Int.toNat (0:Int))) 0)) (z.i 9).toNat);let v5:=(gL (aa v0 5));let v6:=(gS (aa v0 3));let v7:=(gL (aa v0 4));let v8:=(gI (aa v0 1));let v9:=(gI (aa v0 2));let v10:=(↑v1.length:Int);let v11:=(pI (false=true));let f8:=((-9223372036854775808:Int)<=z.i 9+1/\z.i 9+1<=9223372036854775807);let g9:=((z.g 20).length=(z.g 20).length/\(z.g 20).length<=1000000000/\True);let l7:=(gI (aa v0 0));let o6:=(Go.IntKind.i64.wrap (1+z.i 9));let r9:=((0:Int)<=z.i 9+1/\z.i 9+1<=v10);(.an v3 (.two (z.i 9<(↑(gL (aa (aq (p.g 1) (vxn)) 0)).length:Int)) (.an v3 (.an v2 (.ct (lA 16 (gI (aa v4 1)) v6 v7 v5/\nP 16 (gS (aa v4 3)) v5<=10000000) (fun y0=>y0.i 11=dT l7 v8 v9 v6 v7 v5/\hT y0 300=zS (gI (aa v4 0)) v8 v9 v6 v7 v5) fun y0=>(let o9:=(z.g 20++ [G.node [G.int (2:Int),G.str [],G.int 1,G.int (1+z.i 9),G.int 0,G.int l7,G.int v8,G.int v9,G.str v6,G.node v7,G.node v5,hT y0 300,G.int v11,G.int 0,G.int 0]]);let z':=(z.g 20++ [G.node [G.int (2:Int),G.str [],G.int 1,G.int o6,G.int 0,G.int l7,G.int v8,G.int v9,G.str v6,G.node v7,G.node v5,hT y0 300,G.int v11,G.int 0,G.int 0]]);(.two ((-9223372036854775808:Int)<=1+z.i 9/\(1:Int)+z.i 9<=9223372036854775807) (.an v3 (.an v2 (.an g9 (.an f8 (.an (o9.length=(z.g 20).length+1/\p.g 1=p.g 1/\True) (.at (((p.g 1).length=1/\iT v1/\r9/\(↑o9.length:Int)=z.i 9+1+1)/\(v10-(z.i 9+(1:Int))).toNat<(v10-z.i 9).toNat/\∀(y:Sy),y.g 20=z.g 20++ [G.node [G.int (2:Int),G.str [],G.int 1,G.int (1+z.i 9),G.int 0,G.int l7,G.int v8,G.int v9,G.str v6,G.node v7,G.node v5,hT y0 300,G.int v11,G.int 0,G.int 0]]++sE v1 (z.i 9+1)->y.g 20=z.g 20++sE v1 (z.i 9)))))))) (.an v3 (.an v2 (.an g9 (.an f8 (.an (z'.length=(z.g 20).length+1/\p.g 1=p.g 1/\True) (.at (((p.g 1).length=1/\iT v1/\r9/\(↑z'.length:Int)=z.i 9+1+1)/\(v10-(z.i 9+(1:Int))).toNat<(v10-z.i 9).toNat/\∀(y:Sy),y.g 20=z.g 20++ [G.node [G.int (2:Int),G.str [],G.int 1,G.int o6,G.int 0,G.int l7,G.int v8,G.int v9,G.str v6,G.node v7,G.node v5,hT y0 300,G.int v11,G.int 0,G.int 0]]++sE v1 (z.i 9+1)->y.g 20=z.g 20++sE v1 (z.i 9))))))))))))) (.an ((z.g 20).length=(z.g 20).length/\p.g 1=p.g 1/\True) (.at (z.g 20=z.g 20++sE v1 (z.i 9))))))):=by
 dsimp only [xf,Ts,We,pB] at hA
 have a0:=@Rk (pB (p.g 1)) (z.i 9)
 have a1:=@MS (pB (p.g 1)) (z.i 9)
 have a2:=@P4 (pB (p.g 1)) (z.i 9)
 have a3:=Dd (z.i 9) (aq (pB (p.g 1)) (z.i 9).toNat)
 have a4:=@MU (pB (p.g 1))
 have a5:pI (false=true)=0:=if_neg (by simp)
 have a6:pI False=0:=if_neg id
 dsimp only [Ui] at a3
 conv=>zeta
 repeat' with_reducible first|intro _|apply aV|apply aZ|apply aT|apply bf|apply ba
 all_goals first|omega|grind [am,ai,ah,az,aA,aB,aC,aD,aE,aF,aG,aH,ao,List.append_assoc]
theorem MY:dU Tryz.prog 5 2 xf:=bH 1000 mN (eK vU eN) lN (hn:=(hC 7 549)) HL
theorem MZ(p z:Sy)(hA:(Dg p).inv z):Fm.den (let v0:=(↑(p.g 24).length:Int);let v1:=((-9223372036854775808:Int)<=z.i 9+1/\z.i 9+1<=9223372036854775807);let v2:=((z.g 34).length=(z.g 34).length/\p.g 24=p.g 24/\True);let v3:=((0:Int)<=z.i 9+1/\z.i 9+1<= ↑(p.g 24).length);(.two (z.i 9 < ↑(p.g 24).length) (.an ((0:Int)<=z.i 9/\z.i 9 < ↑(p.g 24).length) (.two (gI (aa (aq (p.g 24) (z.i 9).toNat) 0)=2) (.an ((z.g 34).length=(z.g 34).length/\(z.g 34).length<=1000000000/\True) (.an v1 (.an ((z.g 34++ [G.node [G.int (0:Int),G.int (z.i 9)]]).length=(z.g 34).length+1/\p.g 24=p.g 24/\True) (.at ((cB (p.g 24)/\(p.g 24).length<=1000000/\v3/\z.g 34++ [G.node [G.int (0:Int),G.int (z.i 9)]]=oY (z.i 9+1-1))/\(v0-(z.i 9+1)).toNat<(v0-z.i 9).toNat/\∀(y:Sy),y.g 34=oY (v0-1)->y.g 34=oY (v0-1)))))) (.an v1 (.an v2 (.at ((cB (p.g 24)/\(p.g 24).length<=1000000/\v3/\z.g 34=oY (z.i 9+(1:Int)-1))/\(v0-(z.i 9+1)).toNat<(v0-z.i 9).toNat/\∀(y:Sy),y.g 34=oY (v0-1)->y.g 34=oY (v0-1))))))) (.an v2 (.at (z.g 34=oY (v0-1)))))):=by
 dsimp only [Dg,MV,AQ] at hA
 have a1:=@uh (p.g 24) (z.i 9)
 have a2:=@Rh (z.i 9-1)
 have a3:=@Ft (z.i 9-1)
 have a4:=@Ft (z.i 9)
 have a5:=P2 (z.i 9-1)
 conv=>zeta
 repeat' with_reducible first|intro _|apply aV|apply aZ|apply aT|apply bf|apply ba
 all_goals first|omega|grind [am,ai,ah,az,aA,aB,aC,aD,aE,aF,aG,aH,ao,List.append_assoc]
theorem P8:dU Tryz.prog 5 4 Dg:=bH 1000 mN eN lN (hn:=(hC 7 549)) MZ
theorem HM(p z:Sy)(hA:(xj p).inv z):Fm.den (let v0:=(aq (z.g 20) (z.i 9).toNat);let v1:=(↑(p.g 24).length:Int);let v2:=(pI (gI (aa v0 12)=(1:Int)));let v3:=(gL (aa v0 10));let v4:=((0:Int)<=z.i 9/\z.i 9 < ↑(z.g 20).length);let v5:=(gI (aa v0 13));let v6:=(gI (aa v0 14));let v7:=(gL (aa v0 9));let v8:=(gI (aa v0 0));let v9:=(gS (aa v0 1));let v10:=(gI (aa v0 2));let v11:=(gI (aa v0 3));let f8:=(gI (aa v0 4));(.two (z.i 9 < ↑(p.g 24).length) (.an v4 (.an ((z.i 9).toNat<(z.g 20).length) (.an (True/\(dw 16 (gI (aa v0 5)) (gI (aa v0 6)) (gI (aa v0 7)) (gS (aa v0 8)) v7 v3=(0:Int)∨16=16/\Hy v7 v3)) (.al (fun y0=>dw 16 (gI (aa v0 5)) (gI (aa v0 6)) (gI (aa v0 7)) (gS (aa v0 8)) v7 v3=(0:Int)∨16=16/\Hy v7 v3->y0.i 11=gI (aa v0 5)/\y0.i 12=gI (aa v0 6)/\y0.i 13=gI (aa v0 7)/\y0.s 14=gS (aa v0 8)/\y0.g 15=gL (aa v0 9)/\y0.g 16=xB 16 v3) fun y0=>(let g9:=(G.node [G.int v8,G.str v9,G.int v10,G.int v11,G.int f8,G.int (y0.i 11),G.int (y0.i 12),G.int (y0.i 13),G.str (y0.s 14),G.node (y0.g 15),G.node (y0.g 16),hX (aa v0 11),G.int v2,G.int v5,G.int v6]);let l7:=(((z.g 20).set (z.i 9).toNat g9).length=(z.g 20).length/\v1=v1/\True);(.an v4 (.an ((z.i 9).toNat<(z.g 20).length/\True) (.two ((-9223372036854775808:Int)<=z.i 9+1/\z.i 9+1<=9223372036854775807) (.an l7 (.at (((z.g 20).set (z.i 9).toNat g9=p.g 24/\cB (p.g 24)/\cm (0:Int) 0 0 hZ (p.g 24)=0/\(0:Int)<=z.i 9+1/\z.i 9+1<= ↑(p.g 24).length)/\(v1-(z.i 9+1)).toNat<(v1-z.i 9).toNat/\∀(y:Sy),y.g 20=p.g 24/\cm (0:Int) 0 0 hZ (y.g 20)=0/\(jd (y.g 20) (0:Int)).length<=270000/\cB (y.g 20)/\ck (y.g 20) (0:Int)=0/\fo (y.g 20)/\(y.g 20).length<=200->y.g 20=p.g 24/\cm (0:Int) 0 0 hZ (y.g 20)=0/\(jd (y.g 20) (0:Int)).length<=270000/\cB (y.g 20)/\ck (y.g 20) (0:Int)=0/\fo (y.g 20)/\(y.g 20).length<=200))) (.an l7 (.at (((z.g 20).set (z.i 9).toNat g9=p.g 24/\cB (p.g 24)/\cm (0:Int) 0 0 hZ (p.g 24)=0/\(0:Int)<=Go.IntKind.i64.wrap (z.i 9+1)/\Go.IntKind.i64.wrap (z.i 9+1)<= ↑(p.g 24).length)/\(v1-Go.IntKind.i64.wrap (z.i 9+1)).toNat<(v1-z.i 9).toNat/\∀(y:Sy),y.g 20=p.g 24/\cm (0:Int) 0 0 hZ (y.g 20)=0/\(jd (y.g 20) (0:Int)).length<=270000/\cB (y.g 20)/\ck (y.g 20) (0:Int)=0/\fo (y.g 20)/\(y.g 20).length<=200->y.g 20=p.g 24/\cm (0:Int) 0 0 hZ (y.g 20)=0/\(jd (y.g 20) (0:Int)).length<=270000/\cB (y.g 20)/\ck (y.g 20) (0:Int)=0/\fo (y.g 20)/\(y.g 20).length<=200))))))))))) (.an ((z.g 20).length=(z.g 20).length/\True) (.at (z.g 20=p.g 24/\cm (0:Int) 0 0 hZ (z.g 20)=0/\(jd (z.g 20) (0:Int)).length<=270000/\cB (z.g 20)/\ck (z.g 20) (0:Int)=0/\fo (z.g 20)/\(z.g 20).length<=200))))):=by
 dsimp only [xj,Dh,We,A4,lE] at hA
 have a0:=@Fr (p.g 24)
 have a2:=@pA (p.g 24)
 have a1:=@PX (p.g 24) (z.i 9)
 have a3:=@Fk (p.g 24) (z.i 9)
 have a5:=Mw (aq (p.g 24) (z.i 9).toNat)
 conv=>zeta
 repeat' with_reducible first|intro _|apply aV|apply aZ|apply aT|apply bf|apply ba
 all_goals first|omega|grind [am,ai,ah,az,aA,aB,aC,aD,aE,aF,aG,aH,ao,List.append_assoc]
theorem M0:dU Tryz.prog 60 0 xj:=bH 1000 mN (eK (Fp 16) eN) lN (hn:=(hC 5 5)) HM
theorem HN(p z:Sy)(hA:(xg p).inv z):Fm.den (let v0:=(↑(p.g 24).length:Int);let v1:=(cB (p.g 24)/\((0:Int)<=z.i 9+1/\z.i 9+1<= ↑(p.g 24).length)/\(p.g 24).length<=1000000);let v2:=((-9223372036854775808:Int)<=z.i 9+1/\z.i 9+1<=9223372036854775807);let v3:=(aq (p.g 24) (z.i 9).toNat);let v4:=(v0=v0/\p.g 24=p.g 24/\True);(.two (z.i 9 < ↑(p.g 24).length) (.an ((0:Int)<=z.i 9/\z.i 9 < ↑(p.g 24).length) (.two (gI (aa v3 0)=2) (.two (gI (aa v3 12)=1) .ff (.an (gI (aa v3 0)≠4) (.an v2 (.an v4 (.at (v1/\(v0-(z.i 9+1)).toNat<(v0-z.i 9).toNat/\∀(y:Sy),True->True)))))) (.two (gI (aa v3 0)≠4) (.an v2 (.an v4 (.at (v1/\(v0-(z.i 9+1)).toNat<(v0-z.i 9).toNat/\∀(y:Sy),True->True)))) .ff))) (.ax (True)))):=by
 dsimp only [xg] at hA
 have a1:=@uh (p.g 24) (z.i 9)
 conv=>zeta
 repeat' with_reducible first|intro _|apply aV|apply aZ|apply aT|apply bf|apply ba
 all_goals first|omega|grind [am,ai,ah,az,aA,aB,aC,aD,aE,aF,aG,aH,ao,List.append_assoc]
theorem M1:dU Tryz.prog 59 1 xg:=bH 1000 mN eN lN (hn:=(hC 12 150037)) HN
theorem HO(p z:Sy)(hA:(xh p).inv z):Fm.den (let v0:=(↑(p.g 24).length:Int);(.two (z.i 9 < ↑(p.g 24).length) (.an ((0:Int)<=z.i 9/\z.i 9 < ↑(p.g 24).length) (.two (gI (aa (aq (p.g 24) (z.i 9).toNat) 0)=4) .ff (.an ((-9223372036854775808:Int)<=z.i 9+1/\z.i 9+1<=9223372036854775807) (.an (v0=v0/\p.g 24=p.g 24/\True) (.at ((cB (p.g 24)/\((0:Int)<=z.i 9+1/\z.i 9+1<= ↑(p.g 24).length)/\(p.g 24).length<=1000000)/\(v0-(z.i 9+1)).toNat<(v0-z.i 9).toNat/\∀(y:Sy),True->True)))))) (.ax (True)))):=by
 dsimp only [xh] at hA
 have a1:=@uh (p.g 24) (z.i 9)
 conv=>zeta
 repeat' with_reducible first|intro _|apply aV|apply aZ|apply aT|apply bf|apply ba
 all_goals first|omega|grind [am,ai,ah,az,aA,aB,aC,aD,aE,aF,aG,aH,ao,List.append_assoc]
theorem M2:dU Tryz.prog 25 0 xh:=bH 1000 mN eN lN (hn:=(hC 6 133)) HO
theorem HP(p z:Sy)(hA:(xi p).inv z):Fm.den (let v0:=(aq (p.g 24) (z.i 9).toNat);let v1:=(cB (p.g 24)/\((0:Int)<=z.i 9+1/\z.i 9+1<= ↑(p.g 24).length)/\(p.g 24).length<=1000000/\(z.g 31).length<=1000000);let v3:=((-9223372036854775808:Int)<=z.i 9+1/\z.i 9+1<=9223372036854775807);let v4:=(gI (aa v0 14)<0);let v5:=(↑(p.g 24).length:Int);let v2:=((z.g 31).length=(z.g 31).length/\v5=v5/\p.g 24=p.g 24/\True);let v6:=(aa v0 13);let v7:=((↑(z.g 31).length:Int)<=gI v6);let v8:=(gI v6<0);let v9:=(v5-(z.i 9+1));let v10:=(v5-z.i 9);let v11:=(gL (aa (aq (z.g 31) (gI v6).toNat) 4));let f8:=(gI (aa v0 0)=4);let g9:=((0:Int)<=gI v6/\gI v6 < ↑(z.g 31).length);let l7:=((gI v6).toNat<(z.g 31).length);(.two (z.i 9 < ↑(p.g 24).length) (.an ((0:Int)<=z.i 9/\z.i 9 < ↑(p.g 24).length) (.two v8 (.an v8 (.an v8 (.an v8 (.an v8 (.an v8 (.an v8 (.an v8 (.an v8 (.two f8 (.an v3 (.an v2 (.at (v1/\v9.toNat<v10.toNat/\∀(y:Sy),y.g 31=z.g 31/\(y.p 33↔z.p 33)->y.g 31=z.g 31/\(y.p 33↔z.p 33))))) (.an v3 (.an v2 (.at (v1/\v9.toNat<v10.toNat/\∀(y:Sy),y.g 31=z.g 31/\(y.p 33↔z.p 33)->y.g 31=z.g 31/\(y.p 33↔z.p 33)))))))))))))) (.an (¬v8) (.an (¬v8) (.an (¬v8) (.an (¬v8) (.an (¬v8) (.an (¬v8) (.an (¬v8) (.an (¬v8) (.two v7 (.an v7 (.an v7 (.an v7 (.two f8 (.an v3 (.an v2 (.at (v1/\v9.toNat<v10.toNat/\∀(y:Sy),y.g 31=z.g 31/\(y.p 33↔z.p 33)->y.g 31=z.g 31/\(y.p 33↔z.p 33))))) (.an v3 (.an v2 (.at (v1/\v9.toNat<v10.toNat/\∀(y:Sy),y.g 31=z.g 31/\(y.p 33↔z.p 33)->y.g 31=z.g 31/\(y.p 33↔z.p 33))))))))) (.an (¬v7) (.an (¬v7) (.an (¬v7) (.two v4 (.an v4 (.an v4 (.an v4 (.an v4 (.an v4 (.an v4 (.an v4 (.an v4 (.an v4 (.an v4 (.an v4 (.an v4 (.an v4 (.two f8 (.an v3 (.an v2 (.at (v1/\v9.toNat<v10.toNat/\∀(y:Sy),y.g 31=z.g 31/\(y.p 33↔z.p 33)->y.g 31=z.g 31/\(y.p 33↔z.p 33))))) (.an v3 (.an v2 (.at (v1/\v9.toNat<v10.toNat/\∀(y:Sy),y.g 31=z.g 31/\(y.p 33↔z.p 33)->y.g 31=z.g 31/\(y.p 33↔z.p 33))))))))))))))))))) (.an (¬v4) (.an (¬v4) (.an (¬v4) (.an (¬v4) (.an (¬v4) (.an (¬v4) (.an (¬v4) (.an (¬v4) (.an g9 (.an (¬v4) (.an (¬v4) (.an l7 (.an (¬v4) (.an (¬v4) (.an (¬v4) (.two ((↑v11.length:Int)<=gI (aa v0 14)) (.two f8 (.an v3 (.an v2 (.at (v1/\v9.toNat<v10.toNat/\∀(y:Sy),y.g 31=z.g 31/\(y.p 33↔z.p 33)->y.g 31=z.g 31/\(y.p 33↔z.p 33))))) (.an v3 (.an v2 (.at (v1/\v9.toNat<v10.toNat/\∀(y:Sy),y.g 31=z.g 31/\(y.p 33↔z.p 33)->y.g 31=z.g 31/\(y.p 33↔z.p 33)))))) (.an g9 (.an l7 (.an ((0:Int)<=gI (aa v0 14)/\gI (aa v0 14)<(↑v11.length:Int)) (.two f8 (.two (gI (aa (aq v11 (gI (aa v0 14)).toNat) 0)=2) .ff (.an v3 (.an v2 (.at (v1/\v9.toNat<v10.toNat/\∀(y:Sy),y.g 31=z.g 31/\(y.p 33↔z.p 33)->y.g 31=z.g 31/\(y.p 33↔z.p 33)))))) (.an v3 (.an v2 (.at (v1/\v9.toNat<v10.toNat/\∀(y:Sy),y.g 31=z.g 31/\(y.p 33↔z.p 33)->y.g 31=z.g 31/\(y.p 33↔z.p 33)))))))))))))))))))))))))))))))))))))))) (.an ((z.g 31).length=(z.g 31).length/\True) (.at (z.g 31=z.g 31/\(z.p 33↔z.p 33)))))):=by
 dsimp only [xi,Tt] at hA
 have a1:=@uh (p.g 24) (z.i 9)
 conv=>zeta
 repeat' with_reducible first|intro _|apply aV|apply aZ|apply aT|apply bf|apply ba
 all_goals first|omega|grind [am,ai,ah,az,aA,aB,aC,aD,aE,aF,aG,aH,ao,List.append_assoc]
theorem M3:dU Tryz.prog 64 0 xi:=bH 1000 mN eN lN (hn:=(hC 81 194563679051296492430426015621906466437460568741)) HP
theorem P9(z:Sy)(hA:MW.pre z):Fm.den ((.ax (Go.IntKind.u64.wrap (Int.ofNat ((aL (aj Go.IntKind.u64) (z.i 2%18446744073709551616 * 4294967296%18446744073709551616)).lor (aL (aj Go.IntKind.u64) ((↑(z.s 1).length:Int)%4294967296%18446744073709551616))))%4294967296= ↑(z.s 1).length))):=by
 dsimp only [MW] at hA
 have o1:=@WO (z.i 2) (((z.s 1).length:Int)%4294967296)
 have o2:(z.s 1).length<=1000000000->((z.s 1).length:Int)%4294967296=(z.s 1).length:=fun h=>by omega
 have o3:(z.s 1).length<=1000000000->(z.i 2 * 4294967296+((z.s 1).length:Int))%4294967296=(z.s 1).length:=fun h=>by omega
 repeat' with_reducible first|intro _|apply aV|apply aZ|apply aT|apply bf|apply ba
 all_goals first|omega|grind [am,ai,ah,az,aA,aB,aC,aD,aE,aF,aG,aH,ao,List.append_assoc]
theorem Tw:Ok Tryz.prog 235 MW:=bS 1000 mN eN lN (hn:=.nil) P9
theorem P_(z:Sy)(hA:MX.pre z):Fm.den (let zw:=(0:Int)<=0;let v0:=((-9223372036854775808)<=(↑(z.g 1).length:Int)+(↑(z.g 2).length:Int)/\(↑(z.g 1).length:Int)+(↑(z.g 2).length:Int)<=9223372036854775807);let v1:=(gL (aa (aq (z.g 1) 0) 0));let v2:=(¬(1<(↑(z.g 1).length:Int)+(↑(z.g 2).length:Int)));let v3:=(-9223372036854775808:Int);(.ct (True) (fun y0=>y0.i 1=0/\y0.g 2= []) fun y0=>(let v4:=((0:Int)<=y0.i 1/\y0.i 1<1000000);(.an v0 (.an (0<(↑(z.g 1).length:Int)+(↑(z.g 2).length:Int)) (.an (0<(↑(z.g 1).length:Int)) (.an (1=1) (.cl ((1=1/\z.g 1=z.g 1/\True)) ((z.g 1).length=1/\iT v1/\(zw/\(0:Int)<=(↑v1.length:Int))/\(↑1:Int)=0+1) (fun y1=>y1.g 20= [G.node [G.int (1:Int),G.str [115],G.int 0,G.int 0,G.int 0,G.int 0,G.int 0,G.int 0,G.str [],G.node [],G.node [],hZ,G.int (pI (false=true)),G.int 0,G.int 0]]++sE v1 0) fun y1=>(let v5:=((y1.g 20).length=(y1.g 20).length);let v6:=(↑(y1.g 20).length:Int);let v7:=(cB (y1.g 20)/\(y1.g 20).length<=1000000/\(zw/\0<=v6)/\ []=oY ((0:Int)-1));let v8:=((0=0/\y1.g 20=y1.g 20/\True));(.an v5 (.cl (((false=true↔False)/\True)) (cB (y1.g 20)/\(y1.g 20).length<=1000000) (fun y2=>y2.i 50=cm 0 0 0 hZ (y1.g 20)/\(cm (0:Int) 0 0 hZ (y1.g 20)=0->y2.g 31= [dk (y1.g 20)]/\y2.g 32= [G.node [sd (y1.g 20)]])/\(¬cm (0:Int) 0 0 hZ (y1.g 20)=0->y2.g 31= []/\y2.g 32= [])) fun y2=>(let v9:=(↑(y2.g 31).length:Int);(.an v5 (.ct (fo (y1.g 20)/\HOk hZ/\(y1.g 20).length<=1000000/\(0:Int)<9223372036854775808/\(0:Int)<9223372036854775808/\(0:Int)<9223372036854775808) (fun y3=>y3.i 50=cm 0 0 0 hZ (y1.g 20)) fun y3=>(.two (y3.i 50≠0) (.an (y3.i 50≠0) (.an (¬(y3.i 50≠y2.i 50)) (.an (¬(y2.i 50=0)) (.an v0 (.an v2 (.ax (0=v9/\mZ (eY v1) (y2.g 31) (y2.g 32) []))))))) (.an v5 (.an v5 (.an v5 (.cl ((v6=v6/\y1.g 20=y1.g 20/\True)) (cB (y1.g 20)/\(zw/\0<=v6)/\(y1.g 20).length<=1000000) (fun y4=>True) fun y4=>(.an v5 (.ct ((y1.g 20).length<=1000000) (fun y5=>y5.g 20=y1.g 20) fun y5=>(.an v5 (.cl (((y5.g 20).length=(y5.g 20).length/\(↑(y5.g 20).length:Int)=v6/\True)) (y5.g 20=y1.g 20/\cB (y1.g 20)/\cm (0:Int) 0 0 hZ (y1.g 20)=0/\zw/\0<=v6) (fun y6=>y6.g 20=y1.g 20/\cm (0:Int) 0 0 hZ (y6.g 20)=0/\(jd (y6.g 20) (0:Int)).length<=270000/\cB (y6.g 20)/\ck (y6.g 20) (0:Int)=0/\fo (y6.g 20)/\(y6.g 20).length<=200) fun y6=>(let v10:=(fo (y6.g 20)/\HOk hZ/\(y6.g 20).length<=1000000/\(0:Int)<9223372036854775808/\(0:Int)<9223372036854775808/\(0:Int)<9223372036854775808);let v11:=((y6.g 20).length=(y6.g 20).length);let f8:=(↑(y6.g 20).length:Int);let g9:=(cB (y6.g 20)/\(zw/\0<=f8)/\(y6.g 20).length<=1000000/\1<=1000000);let l7:=((1=1/\f8=f8/\y6.g 20=y6.g 20/\True));(.an v11 (.an v11 (.cl ((f8=f8/\y6.g 20=y6.g 20/\True)) (cB (y6.g 20)/\(zw/\0<=f8)/\(y6.g 20).length<=1000000) (fun y7=>True) fun y7=>(.an v11 (.ct (ck (y6.g 20) (0:Int)=0/\fo (y6.g 20)/\(y6.g 20).length<=200) (fun y8=>(y8.p 40↔0<(y8.s 30).length)/\(y8.s 30).length=(jd (y6.g 20) (0:Int)).length) fun y8=>(.two (y8.p 40) (.ct ((y8.s 30).length<=100000000) (fun y9=>((y8.s 30).length<=524288->y9.i 50=0)/\(y9.s 10).length<=524300) fun y9=>(let o6:=(¬(4194304<(↑(y9.s 10).length:Int)));let r9:=(↑(0+(y9.s 10).length):Int);(.an (¬(y9.i 50≠0)) (.an o6 (.an o6 (.an o6 (.an o6 (.an o6 (.an (0=0/\0<=1000000000/\(y9.s 10).length<=1000000) (.an v11 (.ct v10 (fun J'=>J'.i 50=cm 0 0 0 hZ (y6.g 20)/\(J'.s 10).length<=262144) fun J'=>(.ct ((J'.s 10).length<=100000000) (fun M'=>((J'.s 10).length<=524288->M'.i 50=0)/\(M'.s 10).length<=524300) fun M'=>(let o9:=(↑(M'.s 10).length:Int);(.an (M'.i 50=0) (.an (([]++y9.s 10).length=0+(y9.s 10).length) (.ct (([]++y9.s 10).length<=1000000000/\0<=r9%4294967296/\r9%4294967296<4294967296) (fun Yr=>Yr.i 10%4294967296= ↑([]++y9.s 10).length) fun Yr=>(let L':=(0+Yr.i 10%4294967296%18446744073709551616);let z':=(¬(4194304-L'%18446744073709551616<o9));(.an (v3<=L'%18446744073709551616/\((0:Int)+Yr.i 10%4294967296%18446744073709551616)%18446744073709551616<=9223372036854775807) (.an (v3<=4194304-L'%18446744073709551616/\(4194304:Int)-L'%18446744073709551616<=9223372036854775807) (.an z' (.an z' (.an z' (.an z' (.an z' (.an (0=0/\0<=1000000000/\(M'.s 10).length<=1000000) (.an v11 (.ct v10 (fun Yj=>Yj.i 50=cm 0 0 0 hZ (y6.g 20)/\(cm (0:Int) 0 0 hZ (y6.g 20)=0->hT Yj 300=wy (0:Int) 0 0 hZ (y6.g 20))/\(¬cm (0:Int) 0 0 hZ (y6.g 20)=0->hT Yj 300=hZ)) fun Yj=>(.an v11 (.ct (HOk (hT Yj 300)/\v4/\jS (y0.i 1) (y0.g 2)) (fun j7=>j7.i 1=y0.i 1+1/\wq (y0.i 1) (y0.g 2) (hT Yj 300) (j7.i 1) (j7.g 2)) fun j7=>(.an v11 (.an v11 (.an v11 (.an (1=1) (.cl l7 g9 (fun YQ=>YQ.g 31= [G.node [G.int (0:Int),G.int 0,G.int 0,hZ,G.node (y6.g 20)]]/\(YQ.p 33↔false=true)) fun YQ=>(.an (¬((0:Int)≠y2.i 50)) (.an (y2.i 50=0) (.an v5 (.an v5 (.cl v8 v7 (fun XA=>XA.g 34=oY (v6-1)) fun XA=>(.an v0 (.an v2 (.an ((XA.g 34).length=(XA.g 34).length/\True) (.at ((↑(YQ.g 31).length:Int)=v9/\mZ (eY v1) (y2.g 31) (y2.g 32) (XA.g 34))))))))))))))))))))))))))))))))))))))))))))) (.an v11 (.ct v10 (fun Zv=>Zv.i 50=cm 0 0 0 hZ (y6.g 20)/\(Zv.s 10).length<=262144) fun Zv=>(.ct ((Zv.s 10).length<=100000000) (fun ZG=>((Zv.s 10).length<=524288->ZG.i 50=0)/\(ZG.s 10).length<=524300) fun ZG=>(let v20:=(¬(4194304<(↑(ZG.s 10).length:Int)));(.an (ZG.i 50=0) (.an v20 (.an v20 (.an v20 (.an v20 (.an v20 (.an (0=0/\0<=1000000000/\(ZG.s 10).length<=1000000) (.an v11 (.ct v10 (fun ZH=>ZH.i 50=cm 0 0 0 hZ (y6.g 20)/\(cm (0:Int) 0 0 hZ (y6.g 20)=0->hT ZH 300=wy (0:Int) 0 0 hZ (y6.g 20))/\(¬cm (0:Int) 0 0 hZ (y6.g 20)=0->hT ZH 300=hZ)) fun ZH=>(.an v11 (.ct (HOk (hT ZH 300)/\v4/\jS (y0.i 1) (y0.g 2)) (fun Zw=>Zw.i 1=y0.i 1+1/\wq (y0.i 1) (y0.g 2) (hT ZH 300) (Zw.i 1) (Zw.g 2)) fun Zw=>(.an v11 (.an v11 (.an v11 (.an (1=1) (.cl l7 g9 (fun ZO=>ZO.g 31= [G.node [G.int (0:Int),G.int 0,G.int 0,hZ,G.node (y6.g 20)]]/\(ZO.p 33↔false=true)) fun ZO=>(.an (¬((0:Int)≠y2.i 50)) (.an (y2.i 50=0) (.an v5 (.an v5 (.cl v8 v7 (fun y22=>y22.g 34=oY (v6-1)) fun y22=>(.an v0 (.an v2 (.an ((y22.g 34).length=(y22.g 34).length/\True) (.at ((↑(ZO.g 31).length:Int)=v9/\mZ (eY v1) (y2.g 31) (y2.g 32) (y22.g 34))))))))))))))))))))))))))))))))))))))))))))))))))))))))))))):=by
 dsimp only [MX,pB] at hA
 have m1:=@Vm (eY (pB (z.g 1)))
 have m2:=@Vn (eY (pB (z.g 1)))
 have m3:=@Di (pB (z.g 1))
 have m4:=@P7 (pB (z.g 1))
 have m5:=@Df (pB (z.g 1))
 have m6:=@Tu (pB (z.g 1))
 have a7: []=oY (-1):=(Ft (by omega)).symm
 have b9:=@og 0 0 0 hZ
 have b10:jS 0 []:=wv (wu [])
 have b1:=@pA (eY (pB (z.g 1)))
 have b2:=@xa (eY (pB (z.g 1)))
 have b3:=@Fr (eY (pB (z.g 1)))
 have b5:HOk hZ:=fT
 have b8:(false=true)=False:=by simp
 have a5:pI (false=true)=0:=if_neg (by simp)
 have a6:pI False=0:=if_neg id
 conv=>zeta
 repeat' with_reducible first|intro _|apply aV|apply aZ|apply aT|apply bf|apply ba
 all_goals first|omega|grind [am,ai,ah,az,aA,aB,aC,aD,aE,aF,aG,aH,ao,List.append_assoc]
theorem M4:Ok Tryz.prog 5 MX:=bS 1000 mN (eK vU (eK P3 (eK Al (eK Mz (eK acq (eK acg (eK ach (eK Pu (eK Q_ (eK Q8 (lK Tw eN))))))))))) (eL (ptm:=[(0,.c (.v 13 1))]) MY (eL (ptm:=[(136,.ag bk)]) P8 (eL (ptm:=[(0,.ag bk)]) M0 (eL (ptm:=[(68,.c (.v 7 24))]) M1 (eL (ptm:=[(30,.c (.v 7 24))]) M2 (eL (ptm:=[(42,.c (.v 7 24))]) M3 lN)))))) (hn:=(hC 41 1114476449826244291444330)) P_
noncomputable section
theorem lM:∀{l:List Int},(∀x∈l,0<=x/\x<256)->(l.map Int.toNat).map (fun(n:Nat)=>(n:Int))=l
 | [],_=>rfl
 |x::l,h=>by
  rw[aaB,aaB,lM fun y hy=>h y (aaw _ hy),Int.toNat_of_nonneg (h x aay).1]
theorem M5(l:List Int):hB (hN l)=l.map Int.toNat:=by
 unfold hB hN
 show(l.map G.int).map (fun x=>(gI x).toNat)=_
 rw[aaY];rfl
theorem xk{a b:G}(ha:HOk a)(hb:HOk b)(h:hB a=hB b):a=b:=by
 unfold HOk at ha hb
 obtain⟨l,rfl,hl,hlb⟩:=ha
 obtain⟨m,rfl,hm,hmb⟩:=hb
 rw[M5,M5] at h
 rw[←lM hlb, ←lM hmb,h]
theorem M6(m:Nat):∀{a b:Nat},a<=m->aI a=aI b->a=b:=by
 induction m using Nat.strongRecOn with
 |_ m ih=>
 intro a b ha h
 rw[aI,aI.eq_1 b] at h
 split at h <;> split at h
 ·injection h
 ·injection h with h1 h2
  rw[aI] at h2
  split at h2 <;> cases h2
 ·injection h with h1 h2
  rw[aI] at h2
  split at h2 <;> cases h2
 ·injection h with h1 h2
  have:=ih (a/128) (by omega) (aaa _) h2
  omega
theorem pC{α:Type}{a b c d:List α}(h:a++b=c++d)(hl:a.length=c.length):a=c/\b=d:=List.append_inj h hl
def m_:List G->List G->Prop
 |r::rs,q::qs=>(hX (aa r 1)=hX (aa q 1)->gS (aa r 0)=gS (aa q 0))/\m_ rs qs
 |_,_=>True
theorem Tx{s:Prop}{h x h' x':G}(hh:HOk h)(i4:HOk h')(e:jB s h (hX x)=jB s h' (hX x')):h=h':=by
 unfold jB at e
 split at e
 ·injection e with _ e
  have:=pC e (by rw[eJ,eJ])
  exact xk hh i4 this.2
 ·injection e with _ e
  have:=pC e (by rw[eA hh,eA i4])
  exact xk hh i4 this.1
theorem rS:∀(ss:List Prop) (ps:List G) (h:G) (s:Prop) (r:G),ps.length=ss.length->ig h (ss++ [s]) (ps++ [r])=ig h ss ps++ [.node [.str (jB s (sC h ss ps) (hX (aa r 0))),j2 s (sC h ss ps) (hX (aa r 0))]]
 | [],[],_,_,_,_=>rfl
 |s0::ss,r0::ps,h,s,r,e=>by
  show _::ig (j2 s0 h (hX (aa r0 0))) (ss++ [s]) (ps++ [r])=_
  rw[rS ss ps _ s r (by simpa using e)];rfl
 | [],_::_,_,_,_,e=>by simp at e
 |_::_,[],_,_,_,e=>by simp at e
theorem Dj:∀(ss:List Prop) (ps:List G) {h:G},HOk h->HOk (sC h ss ps)
 | [],_,_,hh=>by simp only [sC];exact hh
 |_::_,[],_,hh=>by simp only [sC];exact hh
 |s::ss,r::ps,_,hh=>by simp only [sC];exact Dj ss ps (Fe _ _ _)
theorem Vo:∀(n:Nat) (ss:List Prop) (ps YM:List G) (h h':G) (rest Yy:List G),ss.length=n->ps.length=ss.length->YM.length=ss.length->HOk h->HOk h'->sC h ss ps=sC h' ss YM->m_ ((ig h ss ps).reverse++rest) ((ig h' ss YM).reverse++Yy)->h=h'/\m_ rest Yy:=by
 intro n
 induction n with
 |zero=>
  intro ss ps YM h h' rest Yy hn hp hp' hh i4 e ht
  have e1:ss= []:=List.length_eq_zero_iff.1 hn
  subst e1
  have e2:ps= []:=List.length_eq_zero_iff.1 hp
  have e3:YM= []:=List.length_eq_zero_iff.1 hp'
  subst e2;subst e3
  exact⟨e,ht⟩
 |succ n ih=>
  intro ss ps YM h h' rest Yy hn hp hp' hh i4 e ht
  rcases List.eq_nil_or_concat ss with rfl|⟨ss,s,rfl⟩
  ·cases hn
  rcases List.eq_nil_or_concat ps with rfl|⟨ps,r,rfl⟩
  ·simp at hp
  rcases List.eq_nil_or_concat YM with rfl|⟨YM,r',rfl⟩
  ·simp at hp'
  simp only [List.concat_eq_append,aai,aaI] at hn hp hp' e ht
  have hp1:ps.length=ss.length:=by omega
  have hp2:YM.length=ss.length:=by omega
  rw[jU _ _ _ _ _ hp1,jU _ _ _ _ _ hp2] at e
  rw[rS _ _ _ _ _ hp1,rS _ _ _ _ _ hp2,abA,abA] at ht
  obtain⟨t1,t2⟩:=(show(hX (j2 s (sC h ss ps) (hX (aa r 0)))=hX (j2 s (sC h' ss YM) (hX (aa r' 0)))->jB s (sC h ss ps) (hX (aa r 0))=jB s (sC h' ss YM) (hX (aa r' 0)))/\m_ ((ig h ss ps).reverse++rest) ((ig h' ss YM).reverse++Yy) from ht)
  have e1:=Tx (Dj ss ps hh) (Dj ss YM i4) (t1 (by rw[e]))
  exact ih ss ps YM h h' rest Yy (by omega) hp1 hp2 hh i4 e1 t2
theorem Fw(e:List Nat)(lh hd:G)(ab ae c n:Int)(ip op:List G):(oQ e lh hd ab ae c n ip op).reverse=(ig (rJ lh hd ae c ip) (cr ab n).reverse op).reverse++(.node [.str (1::(hB hd++hB (AD lh ae c ip))),rJ lh hd ae c ip]:: .node [.str (2::(hB (ug lh ae c ip)++aI c.toNat)),AD lh ae c ip]::((ig lh (cr ae c).reverse ip).reverse++ [.node [.str (0::e),lh]])):=by
 rw[jV]
 simp only [abA,List.reverse_cons,List.reverse_nil,aa1,aau,aby,List.cons_append]
theorem Dk{ea eb:List Nat}{ra rb:Int}{hda hdb:G}{ab ae ca cb n:Int}{ipa ipb opa opb:List G}(ha:Hv ra ab ae ca n ipa opa)(hb:Hv rb ab ae cb n ipb opb)(ae6:HOk hda)(ae7:HOk hdb)
  (hr:ug (rJ (aJ ea) hda ae ca ipa) ab n opa=ug (rJ (aJ eb) hdb ae cb ipb) ab n opb)
  (ht:m_ (oQ ea (aJ ea) hda ab ae ca n ipa opa).reverse (oQ eb (aJ eb) hdb ab ae cb n ipb opb).reverse):ea=eb:=by
 rw[mW] at ha hb
 obtain⟨_,hca,a1,a2⟩:=ha
 obtain⟨_,hcb,b1,b2⟩:=hb
 have la1:=a1.2.2;have la2:=a2.2.2;have lb1:=b1.2.2;have lb2:=b2.2.2
 rw[rI a2,rI b2] at hr
 rw[Fw,Fw] at ht
 unfold ja at la1 la2 lb1 lb2
 obtain⟨eN,ht⟩:=Vo _ _ _ _ _ _ _ _ rfl (by rw[abc];exact la2) (by rw[abc];exact lb2) (lL _ _ _ _ _) (lL _ _ _ _ _) hr ht
 obtain⟨t1,ht⟩:=ht
 have t1:hX (rJ (aJ ea) hda ae ca ipa)=hX (rJ (aJ eb) hdb ae cb ipb)->1::(hB hda++hB (AD (aJ ea) ae ca ipa))=1::(hB hdb++hB (AD (aJ eb) ae cb ipb)):=t1
 have t1:=t1 (by rw[eN])
 injection t1 with _ t1
 have eC:=xk (ol _ _ _ _) (ol _ _ _ _) (pC t1 (by rw[eA ae6,eA ae7])).2
 obtain⟨t2,ht⟩:=ht
 have t2:hX (AD (aJ ea) ae ca ipa)=hX (AD (aJ eb) ae cb ipb)->2::(hB (ug (aJ ea) ae ca ipa)++aI ca.toNat)=2::(hB (ug (aJ eb) ae cb ipb)++aI cb.toNat):=t2
 have t2:=t2 (by rw[eC])
 injection t2 with _ t2
 have ua:=rH (i:=ae) (n:=ca) (p:=ipa) (ce ea)
 have ub:=rH (i:=ae) (n:=cb) (p:=ipb) (ce eb)
 obtain⟨t3,t4⟩:=pC t2 (by rw[eA ua,eA ub])
 have eu:=xk ua ub t3
 have ec:ca=cb:=by have:=M6 _ (aaa _) t4;omega
 subst ec
 rw[rI a1,rI b1] at eu
 obtain⟨_,ht⟩:=Vo _ _ _ _ _ _ _ _ rfl (by rw[abc];exact la1) (by rw[abc];exact lb1) (ce _) (ce _) eu ht
 obtain⟨t5,_⟩:=ht
 have eh:aJ ea=aJ eb:=by assumption
 have t5:hX (aJ ea)=hX (aJ eb)->0::ea=0::eb:=t5
 have t5:=t5 (by rw[eh])
 injection t5
end
noncomputable section
def B8(l:List Nat):Prop:=∀x∈l,x<256
theorem xl:B8 []:=fun _ h=>absurd h List.not_mem_nil
theorem B8.cons{x:Nat}{l:List Nat}(h:x<256)(hl:B8 l):B8 (x::l):=fun y hy=>by
 rcases List.mem_cons.1 hy with rfl|hy
 ·exact h
 ·exact hl y hy
theorem B8.app{a b:List Nat}(h:B8 a)(hb:B8 b):B8 (a++b):=fun y hy=>by
 rcases List.mem_append.1 hy with hy|hy
 ·exact h y hy
 ·exact hb y hy
theorem Fx{a:List Nat}(h:B8 a):kV a=a:=by
 unfold kV
 exact(List.map_congr_left fun x hx=>aa3 (h x hx)).trans (List.map_id' a)
theorem M7{a b:List Nat}(h:B8 a)(hb:B8 b):kV a=kV b↔a=b:=by rw[Fx h,Fx hb]
theorem Fy(m:Nat):∀{n:Nat},n<=m->B8 (aI n):=by
 induction m using Nat.strongRecOn with
 |_ m ih=>
 intro n hn
 rw[aI]
 split
 ·exact .cons (by omega) xl
 ·exact .cons (by omega) (ih (n/128) (by omega) (aaa _))
theorem oR{g:G}(h:HOk g):B8 (hB g):=by
 unfold HOk at h
 obtain⟨l,rfl,_,hb⟩:=h
 rw[M5]
 intro x hx
 obtain⟨y,hy,rfl⟩:=List.mem_map.1 hx
 have:=hb y hy
 omega
def HQ(a b:List Nat)(i:Int):Prop:=a.drop i.toNat=b.drop i.toNat
theorem M8{a b:List Nat}{i:Int}(h0:0<=i)(ha:i<a.length)(hl:a.length=b.length)(h:a.getD i.toNat 0=b.getD i.toNat 0):HQ a b (i+1)->HQ a b i:=fun hs=>by
 unfold HQ at hs⊢
 rw[show(i+1).toNat=i.toNat+1 by omega] at hs
 rw[aaU (show i.toNat<a.length by omega),aaU (show i.toNat<b.length by omega),hs]
 rw[aag,aag,aah (show i.toNat<a.length by omega),aah (show i.toNat<b.length by omega)] at h
 congr 1
theorem Ty{a b:List Nat}{i:Int}(h:¬a.getD i.toNat 0=b.getD i.toNat 0):¬a=b:=fun e=>h (by rw[e])
theorem Qa{a b:List Nat}{i:Int}(hl:a.length=b.length)(h:(a.length:Int)<=i):HQ a b i:=by
 unfold HQ
 rw[aaK (by omega),aaK (by omega)]
theorem Qb{a b:List Nat}:HQ a b 0->a=b:=fun h=>h
def xm(p:Sy):LSpec:={tmps:=[(0,.c (.pvb (p.s 1))),(1,.c (.pvb (p.s 2))),(5,.c (.i .i64 9))],blk:=[],inv:=fun z=>(p.s 1).length=(p.s 2).length/\(p.s 1).length<=100000000/\(0<=z.i 9/\z.i 9<=(p.s 1).length),mu:=fun z=>((p.s 1).length-z.i 9).toNat,alts:=[⟨.exit 0,[],[]⟩,⟨.ret,[(4,.c (.b 10))],[]⟩],post:=fun z y=>(y.i 999=0->HQ (p.s 1) (p.s 2) (z.i 9))/\(¬y.i 999=0->¬y.p 10/\¬p.s 1=p.s 2)}
def M9:FSpec:={args:=[.c (.vb 1),.c (.vb 2)],blk:=[],pre:=fun z=>(z.s 1).length<=100000000/\(z.s 2).length<=100000000,res:=fun _=>.one (.c (.b 50)),out:=fun _=>[],post:=fun z y=>y.p 50↔z.s 1=z.s 2}
def M_:FSpec:={args:=[.c (.vb 1)],blk:=[],pre:=fun z=>(z.s 1).length<=1000000,res:=fun _=>.one (.c (.vb 20)),out:=fun _=>[],post:=fun z y=>y.s 20=z.s 1}
theorem dR{l:List G}{h:G}(hl:RowsOk l)(hh:HOk h):RowsOk (l++ [.node [h]]):=fun r hr=>by
 rcases List.mem_append.1 hr with hr|hr
 ·exact hl r hr
 ·rw[List.mem_singleton.1 hr]
  show HOk (hX h)
  rw[cZ hh];exact hh
theorem eZ:RowsOk []:=fun _ h=>absurd h List.not_mem_nil
def rT(p:Sy):LSpec:={tmps:=[(0,.c (.pv 6 (p.g 1))),(3,.c (.g 0 32 30)),(4,.c (.i .i64 9))],blk:=[.grow 6 38 30],inv:=fun z=>RowsOk (p.g 1)/\(p.g 1).length<=1000/\(0<=z.i 9/\z.i 9<=(p.g 1).length)/\RowsOk (z.g 30)/\(z.g 30).length<=1000+z.i 9,mu:=fun z=>((p.g 1).length-z.i 9).toNat,alts:=[⟨.exit 0,[(0,.c (.pv 6 (p.g 1))),(3,.c (.g 0 32 30))],[.grow 6 38 30]⟩],post:=fun z y=>RowsOk (y.g 30)/\(z.g 30).length<=(y.g 30).length/\(y.g 30).length<=2000}
def rU(p:Sy):LSpec:={tmps:=[(0,.c (.pv 6 (p.g 1))),(3,.c (.g 0 32 30)),(5,.c (.i .i64 9))],blk:=[.grow 6 38 30],inv:=fun z=>RowsOk (p.g 1)/\(p.g 1).length<=1000/\(0<=z.i 9/\z.i 9<=(p.g 1).length)/\RowsOk (z.g 30)/\(z.g 30).length<=2000+z.i 9,mu:=fun z=>((p.g 1).length-z.i 9).toNat,alts:=[⟨.exit 2,[(3,.c (.g 0 32 30))],[.grow 6 38 30]⟩],post:=fun z y=>RowsOk (y.g 30)/\(z.g 30).length<=(y.g 30).length/\(y.g 30).length<=3000}
def Dl:FSpec:={args:=[.c (.v 6 1)],blk:=[],pre:=fun z=>RowsOk (z.g 1)/\1<=(z.g 1).length/\(z.g 1).length<=1000,res:=fun _=>.one (.c (.v 6 30)),out:=fun _=>[],post:=fun z y=>RowsOk (y.g 30)/\1<=(y.g 30).length/\(y.g 30).length<=3000}
def A5(l:List G):Prop:=∀r∈l,B8 (gS (aa r 0))/\(gS (aa r 0)).length<=100000
theorem rV{l:List G}{i:Int}(h:A5 l)(h0:0<=i)(hi:i<l.length):B8 (gS (aa (aq l i.toNat) 0))/\(gS (aa (aq l i.toNat) 0)).length<=100000:=h _ (bZ h0 hi)
def Vp(l:List G):Prop:=∀r∈l,hX (aa r 1)=bT (gS (aa r 0))
theorem Vq(s:Prop)(h x:G):hX (j2 s h x)=bT (jB s h x):=by
 rw[cZ (Fe _ _ _)]
 unfold j2 jB
 split
 ·exact(kP _ _).symm.trans (lz _)
 ·exact(kP _ _).symm.trans (lz _)
theorem xn:∀(ss:List Prop) (ps:List G) (h:G),Vp (ig h ss ps)
 | [],_,_=>fun r hr=>by simp [ig] at hr
 |_::_,[],_=>fun r hr=>by simp [ig] at hr
 |s::ss,r0::ps,h=>fun r hr=>by
  simp only [ig] at hr
  rcases List.mem_cons.1 hr with rfl|hr
  ·exact Vq s h (hX (aa r0 0))
  ·exact xn ss ps _ r hr
theorem Vr{s:Prop}{h x:G}(hh:HOk h)(hx:HOk x):B8 (jB s h x)/\(jB s h x).length<=100000:=by
 have a:=eA hh
 have b:=eA hx
 unfold jB
 split
 ·exact⟨.cons (by omega) ((oR hx).app (oR hh)),by simp only [aao,aai];omega⟩
 ·exact⟨.cons (by omega) ((oR hh).app (oR hx)),by simp only [aao,aai];omega⟩
theorem xp:∀(ss:List Prop) (ps:List G) {h:G},HOk h->RowsOk ps->A5 (ig h ss ps)
 | [],_,_,_,_=>fun r hr=>by simp [ig] at hr
 |_::_,[],_,_,_=>fun r hr=>by simp [ig] at hr
 |s::ss,r0::ps,h,hh,hp=>fun r hr=>by
  simp only [ig] at hr
  rcases List.mem_cons.1 hr with rfl|hr
  ·exact Vr hh (hp _ aay)
  ·exact xp ss ps (Fe _ _ _) (fun q hq=>hp q (aaw _ hq)) r hr
theorem Qc(e:List Nat)(hd:G)(ab ae c n:Int)(ip op:List G):Vp (oQ e (aJ e) hd ab ae c n ip op):=fun r hr=>by
 rw[jV] at hr
 simp only [List.mem_append,List.mem_singleton] at hr
 rcases hr with(((rfl|hr)|rfl)|rfl)|hr
 ·show hX (aJ e)=bT (0::e)
  rw[cZ (ce _),Re]
 ·exact xn _ _ _ r hr
 ·show hX (AD _ _ _ _)=bT (2::(hB (ug (aJ e) ae c ip)++aI c.toNat))
  rw[cZ (ol _ _ _ _),wO];exact(iK _ _).symm.trans (lz _)
 ·show hX (rJ _ _ _ _ _)=bT (1::(hB hd++hB (AD (aJ e) ae c ip)))
  rw[cZ (lL _ _ _ _ _),wP];exact(kP _ _).symm.trans (lz _)
 ·exact xn _ _ _ r hr
theorem Qd{e:List Nat}{hd:G}{ab ae c n:Int}{ip op:List G}(he:B8 e)(hl:e.length<=90000)(hc:c<=200)(hh:HOk hd)(h1:RowsOk ip)(h2:RowsOk op):A5 (oQ e (aJ e) hd ab ae c n ip op):=fun r hr=>by
 rw[jV] at hr
 simp only [List.mem_append,List.mem_singleton] at hr
 rcases hr with(((rfl|hr)|rfl)|rfl)|hr
 ·exact⟨.cons (by omega) he,by show(0::e).length<=_;simp only [aao];omega⟩
 ·exact xp _ _ (ce _) h1 r hr
 ·have hu:=rH (i:=ae) (n:=c) (p:=ip) (ce e)
  have:=eA hu
  have hv:(aI c.toNat).length<=10:=bM (by omega)
  exact⟨.cons (by omega) ((oR hu).app (Fy _ (aaa _))),by show(2::(_++_)).length<=_;simp only [aao,aai];omega⟩
 ·have a:=eA hh
  have b:=eA (ol (aJ e) ae c ip)
  exact⟨.cons (by omega) ((oR hh).app (oR (ol _ _ _ _))),by show(1::(_++_)).length<=_;simp only [aao,aai];omega⟩
 ·exact xp _ _ (lL _ _ _ _ _) h2 r hr
theorem Rl(e:List Nat)(lh hd:G)(ab ae c n:Int)(ip op:List G):gS (aa (aq (oQ e lh hd ab ae c n ip op) 0) 0)=0::e:=by
 rw[jV];rfl
def fZ(l m:List G)(s t:List Nat):Prop:=∃i j:Int,(0<=i/\i<l.length)/\(0<=j/\j<m.length)/\s=gS (aa (aq l i.toNat) 0)/\t=gS (aa (aq m j.toNat) 0)/\hX (aa (aq l i.toNat) 1)=hX (aa (aq m j.toNat) 1)
theorem Fz{l m:List G}{i j:Int}{s t:List Nat}(h0:0<=i)(hi:i<l.length)(j0:0<=j)(hj:j<m.length)(e:hX (aa (aq l i.toNat) 1)=hX (aa (aq m j.toNat) 1))(hs:s=gS (aa (aq l i.toNat) 0))(ht:t=gS (aa (aq m j.toNat) 0)):fZ l m s t:=⟨i,j,⟨h0,hi⟩,⟨j0,hj⟩,hs,ht,e⟩
theorem Na{l m:List G}{s t:List Nat}(hl:Vp l)(hm:Vp m)(h:fZ l m s t):bT s=bT t:=by
 obtain⟨i,j,⟨a,b⟩,⟨c,d⟩,rfl,rfl,e⟩:=h
 rw[←hl _ (bZ a b), ←hm _ (bZ c d),e]
theorem Nb{l m:List G}{s t:List Nat}(hl:A5 l)(hm:A5 m)(h:fZ l m s t):s.length<=100000/\t.length<=100000:=by
 obtain⟨i,j,⟨a,b⟩,⟨c,d⟩,rfl,rfl,e⟩:=h
 exact⟨(hl _ (bZ a b)).2,(hm _ (bZ c d)).2⟩
def gH(l m:List G)(i j:Int):Prop:=m_ (l.take (i+1).toNat).reverse (m.take (j+1).toNat).reverse
theorem Nc{l m:List G}{i j:Int}(h:¬(0<=i/\0<=j)):gH l m i j:=by
 unfold gH
 rcases(show i<0∨j<0 by omega) with h|h
 ·rw[show(i+1).toNat=0 by omega,abu,List.reverse_nil];unfold m_;trivial
 ·rw[show(j+1).toNat=0 by omega,abu,List.reverse_nil]
  cases(l.take (i+1).toNat).reverse <;> (unfold m_;trivial)
theorem ui{l:List G}{i:Int}(h0:0<=i)(hi:i<l.length):(l.take (i+1).toNat).reverse=aq l i.toNat::(l.take (i-1+1).toNat).reverse:=by
 rw[show(i+1).toNat=i.toNat+1 by omega,show(i-1+1).toNat=i.toNat by omega,List.take_add_one,abA]
 unfold aq
 rw[aag,aah (show i.toNat<l.length by omega)];rfl
theorem HR{l m:List G}{i j:Int}(h0:0<=i)(hi:i<l.length)(j0:0<=j)(hj:j<m.length)(h:hX (aa (aq l i.toNat) 1)=hX (aa (aq m j.toNat) 1)->gS (aa (aq l i.toNat) 0)=gS (aa (aq m j.toNat) 0)):gH l m (i-1) (j-1)->gH l m i j:=fun ht=>by
 unfold gH at ht⊢
 rw[ui h0 hi,ui j0 hj]
 exact⟨h,ht⟩
theorem Nd{l m:List G}(h:gH l m ((l.length:Int)-1) ((m.length:Int)-1)):m_ l.reverse m.reverse:=by
 unfold gH at h
 rw[show((l.length:Int)-1+1).toNat=l.length by omega,show((m.length:Int)-1+1).toNat=m.length by omega,aaZ,aaZ] at h
 exact h
def Vs(p:Sy):List (Nat×Sa):=[(9,.c (.pv 15 (p.g 30))),(11,.c (.pv 15 (p.g 31)))]
def Wf(p:Sy):Prop:=A5 (p.g 30)/\A5 (p.g 31)/\(p.g 30).length<=1000/\(p.g 31).length<=1000
def Wg(p y:Sy):Prop:=¬y.i 999=0->y.p 40/\¬y.s 30=y.s 31/\fZ (p.g 30) (p.g 31) (y.s 30) (y.s 31)
def rW(p:Sy):LSpec:={tmps:=Vs p++ [(62,.c (.pi .i64 (p.g 30).length)),(63,.c (.i .i64 9))],blk:=[],inv:=fun z=>Wf p/\(p.g 30).length=(p.g 31).length/\(0<=z.i 9/\z.i 9<=(p.g 30).length),mu:=fun z=>((p.g 30).length-z.i 9).toNat,alts:=[⟨.exit 0,Vs p,[]⟩,⟨.ret,[(6,.c (.vb 30)),(7,.c (.vb 31)),(8,.c (.b 40))],[]⟩],post:=fun z y=>Wg p y}
def rX(p:Sy):LSpec:={tmps:=Vs p++ [(14,.c (.i .i64 9)),(15,.c (.i .i64 10))],blk:=[],inv:=fun z=>Wf p/\(0-1<=z.i 9/\z.i 9<(p.g 30).length)/\(0-1<=z.i 10/\z.i 10<(p.g 31).length),mu:=fun z=>(z.i 9+1).toNat,alts:=[⟨.exit 2,[],[]⟩,⟨.ret,[(6,.c (.vb 30)),(7,.c (.vb 31)),(8,.c (.b 40))],[]⟩],post:=fun z y=>Wg p y/\(y.i 999=0->gH (p.g 30) (p.g 31) (z.i 9) (z.i 10))}
def Xn:List Sh:=[.i .i64 1001,.s 1002,.i .i64 1003,.i .i64 1004,.i .i64 1005,.i .i64 1006,.i .i64 1007,.i .i64 1008,.s 1009,.v 1 1010,.v 2 1011]++hs 1100++ [.b 1012,.i .i64 1013,.i .i64 1014]
def Xo:List Sh:=[.i .i64 1061,.i .i64 1062]++Xn++hs 1400++ [.v 6 1063]++ [.i .i64 1064]++ [.v 6 1065]
abbrev Vt(z:Sy):Prop:=lR (z.s 1002) (z.i 1003) (z.i 1004) (z.i 1005) (z.i 1007) (z.s 1009) (z.g 1010) (z.g 1011) (hT z 1100) (z.i 1013) (z.i 1014)
abbrev Qe(z:Sy):Int:=cJ (z.i 1001) (z.s 1002) (z.i 1003) (z.i 1004) (z.i 1005) (z.i 1006) (z.i 1007) (z.i 1008) (z.s 1009) (z.g 1010) (z.g 1011) (hT z 1100) (z.p 1012) (z.i 1013) (z.i 1014)
abbrev xr(z:Sy):List Nat:=cS (z.i 1001) (z.s 1002) (z.i 1003) (z.i 1004) (z.i 1005) (hT z 1100) (z.i 1013) (z.i 1014)
def Rm(z:Sy):Prop:=Vt z/\HOk (hT z 1400)/\RowsOk (z.g 1063)/\(z.g 1063).length<=1000000/\RowsOk (z.g 1065)/\(z.g 1065).length<=1000000
theorem Tz{kd:Int}{tx:List Nat}{tb dc vr:Int}{h:G}{ab ae:Int}(ht:B8 tx)(hh:HOk h):B8 (cS kd tx tb dc vr h ab ae):=by
 have u (n:Nat):B8 (aI n):=Fy n (aaa _)
 unfold cS
 refine .cons (by omega) ((u _).app ((u _).app ((u _).app ((u _).app (ht.app ((u _).app ((u _).app ?_)))))))
 split
 ·exact oR hh
 ·exact xl
theorem rY{kd:Int}{tx:List Nat}{tb dc vr:Int}{bl hz gn:Prop}{h:G}{ab ae:Int}(hf:dE kd tx tb dc vr bl hz gn ab ae)(ht:B8 tx)(hh:HOk h):B8 (cS kd tx tb dc vr h ab ae)/\(cS kd tx tb dc vr h ab ae).length<=90000:=by
 have hn:=jO hf
 refine⟨Tz ht hh, ?_⟩
 have:=gt (kd:=kd) (tx:=tx) (tb:=tb) (dc:=dc) (vr:=vr) (h:=h) (ab:=ab) (ae:=ae) (by omega) (by omega) (by omega) (by omega) (by omega) (by omega) hh
 omega
abbrev Xp(z:Sy):Prop:=cU (sa z) (aJ (nY z)) (hT z 400) (z.i 61) (z.i 62) (z.i 64) (z.i 66) (z.g 63) (z.g 65) (hT z 500)
abbrev Vu(z:Sy):Prop:=cU (Qe z) (aJ (xr z)) (hT z 1400) (z.i 1061) (z.i 1062) (z.i 1064) (z.i 66) (z.g 1063) (z.g 1065) (hT z 500)
abbrev WV(z:Sy):List G:=oQ (nY z) (aJ (nY z)) (hT z 400) (z.i 61) (z.i 62) (z.i 64) (z.i 66) (z.g 63) (z.g 65)
abbrev TA(z:Sy):List G:=oQ (xr z) (aJ (xr z)) (hT z 1400) (z.i 1061) (z.i 1062) (z.i 1064) (z.i 66) (z.g 1063) (z.g 1065)
theorem FA{kd:Int}{tx:List Nat}{tb dc vr vk vi vs:Int}{vt:List Nat}{vn vx:List G}{h:G}{gn:Prop}{ab ae:Int}{hd:G}{xb xe c n:Int}{ip op:List G}{r:G}(ht:B8 tx)(hh:HOk h)(XC:HOk hd)(h1:RowsOk ip)(h2:RowsOk op)
  (hr:cU (cJ kd tx tb dc vr vk vi vs vt vn vx h gn ab ae) (aJ (cS kd tx tb dc vr h ab ae)) hd xb xe c n ip op r):
  Hv (cJ kd tx tb dc vr vk vi vs vt vn vx h gn ab ae) xb xe c n ip op/\A5 (oQ (cS kd tx tb dc vr h ab ae) (aJ (cS kd tx tb dc vr h ab ae)) hd xb xe c n ip op)/\3<=(oQ (cS kd tx tb dc vr h ab ae) (aJ (cS kd tx tb dc vr h ab ae)) hd xb xe c n ip op).length/\(oQ (cS kd tx tb dc vr h ab ae) (aJ (cS kd tx tb dc vr h ab ae)) hd xb xe c n ip op).length<=100:=by
 obtain⟨hs,_⟩:=(fY _ _ _ _ _ _ _ _ _ _).1 hr
 obtain⟨h3,hc,_⟩:=(mW _ _ _ _ _ _ _).1 hs
 obtain⟨g1,g2⟩:=rY (h:=h) (cg h3).1 ht hh
 exact⟨hs,Qd g1 g2 hc.2 XC h1 h2,(AE hs).2⟩
theorem HS{ea eb:List Nat}{ra rb:Int}{hda hdb:G}{ab ae ca cb n:Int}{ipa ipb opa opb:List G}{r:G}(ha:cU ra (aJ ea) hda ab ae ca n ipa opa r)(hb:cU rb (aJ eb) hdb ab ae cb n ipb opb r)(ae6:HOk hda)(ae7:HOk hdb)
  (ht:gH (oQ ea (aJ ea) hda ab ae ca n ipa opa) (oQ eb (aJ eb) hdb ab ae cb n ipb opb) (((oQ ea (aJ ea) hda ab ae ca n ipa opa).length:Int)-1) (((oQ eb (aJ eb) hdb ab ae cb n ipb opb).length:Int)-1)):ea=eb:=by
 obtain⟨a1,a2⟩:=(fY _ _ _ _ _ _ _ _ _ _).1 ha
 obtain⟨b1,b2⟩:=(fY _ _ _ _ _ _ _ _ _ _).1 hb
 exact Dk a1 b1 ae6 ae7 (a2.trans b2.symm) (Nd ht)
def Dm:FSpec:={args:=[.ag rv,.ag Xo,.ag (dg 66 500)],blk:=[],pre:=fun z=>wQ z/\Rm z/\HOk (hT z 500)/\B8 (z.s 2)/\B8 (z.s 1002),res:=fun _=>.tu [.c (.vb 30),.c (.vb 31),.c (.b 40)],out:=fun _=>[],post:=fun z y=>(y.p 40↔(Xp z/\Vu z/\z.i 61=z.i 1061/\z.i 62=z.i 1062/\¬nY z=xr z))/\(y.p 40->¬y.s 30=y.s 31/\bT (y.s 30)=bT (y.s 31))/\(¬y.p 40->y.s 30= []/\y.s 31= [])/\(y.s 30).length<=100000/\(y.s 31).length<=100000}
attribute [irreducible] B8 HQ A5 Vp fZ gH
end
theorem Qf(z:Sy)(hA:M_.pre z):Fm.den (let v0:=(0=0/\0<=1000000000/\(z.s 1).length<=1000000);let v1:=(([]++z.s 1).length=0+(z.s 1).length/\True);(.two (pF (iD bL z (Sa.c (Sh.vb 1)))=0) (.al (fun y0=>True) fun y0=>(.two (y0.p 0) (.ax ([]=z.s 1)) (.an v0 (.an v1 (.at ([]++z.s 1=z.s 1)))))) (.an v0 (.an v1 (.at ([]++z.s 1=z.s 1)))))):=by
 dsimp only [M_] at hA
 have a1:pF (iD bL z (Sa.c (Sh.vb 1)))=(z.s 1).length:=rfl
 have a2:(z.s 1).length=0-> []=z.s 1:=fun h=>(List.length_eq_zero_iff.1 h).symm
 conv=>zeta
 repeat' with_reducible first|intro _|apply aV|apply aZ|apply aT|apply bf|apply ba
 all_goals first|omega|grind [am,ai,ah,List.append_assoc]
theorem Nf:Ok Tryz.prog 38 M_:=WD 1000 (t0:=20) (D:=fun z=>.s (z.s 1)) mN eN lN (hn:=(hC 5 5)) Qf
theorem Dn(p z:Sy)(hA:(rT p).inv z):Fm.den (let v0:=((-9223372036854775808:Int)<=z.i 9+1/\z.i 9+1<=9223372036854775807);let v1:=(hX (aa (aq (p.g 1) (z.i 9+(1:Int)).toNat) 0));let v2:=(hX (aa (aq (p.g 1) (z.i 9).toNat) 0));(.an v0 (.two (z.i 9+1 < ↑(p.g 1).length) (.an ((0:Int)<=z.i 9/\z.i 9 < ↑(p.g 1).length) (.an v0 (.an ((0:Int)<=z.i 9+1/\z.i 9+1 < ↑(p.g 1).length) (.ct (HOk v2/\HOk v1) (fun y0=>hT y0 300=bb v2 v1) fun y0=>(let v3:=(z.g 30++ [G.node [hT y0 300]]);(.an ((z.g 30).length=(z.g 30).length/\(z.g 30).length<=1000000000/\True) (.an v0 (.an (v3.length=(z.g 30).length+1/\p.g 1=p.g 1/\True) (.at ((RowsOk (p.g 1)/\(p.g 1).length<=1000/\((0:Int)<=z.i 9+1/\z.i 9+1<= ↑(p.g 1).length)/\RowsOk v3/\(↑v3.length:Int)<=1000+(z.i 9+1))/\((↑(p.g 1).length:Int)-(z.i 9+1)).toNat<((↑(p.g 1).length:Int)-z.i 9).toNat/\∀(y:Sy),RowsOk (y.g 30)/\v3.length<=(y.g 30).length/\(y.g 30).length<=2000->RowsOk (y.g 30)/\(z.g 30).length<=(y.g 30).length/\(y.g 30).length<=2000)))))))))) (.an ((z.g 30).length=(z.g 30).length/\p.g 1=p.g 1/\True) (.at (RowsOk (z.g 30)/\(z.g 30).length<=(z.g 30).length/\(z.g 30).length<=2000)))))):=by
 dsimp only [rT] at hA
 have a1:=fun h h0 hi=>@RowsOk.at (p.g 1) h (z.i 9) h0 hi
 have a2:=fun h h0 hi=>@RowsOk.at (p.g 1) h (z.i 9+1) h0 hi
 have a3:=fun h h0 hi=>@RowsOk.at (p.g 1) h (z.i 9+2) h0 hi
 have a4:=fun h h0 hi=>@RowsOk.at (p.g 1) h (z.i 9+3) h0 hi
 have a5:=@dR (z.g 30)
 conv=>zeta
 repeat' with_reducible first|intro _|apply aV|apply aZ|apply aT|apply bf|apply ba
 all_goals first|omega|grind [am,ai,ah,az,aA,aB,aC,aD,aE,aF,aG,aH,ao,List.append_assoc,bR]
theorem HT:dU Tryz.prog 8 0 rT:=bH 1000 mN (eK ko eN) lN (hn:=(hC 6 166)) Dn
theorem Do(p z:Sy)(hA:(rU p).inv z):Fm.den (let v0:=(-9223372036854775808:Int);let v1:=(v0<=z.i 9+3/\z.i 9+3<=9223372036854775807);let v2:=(v0<=z.i 9+1/\z.i 9+1<=9223372036854775807);let v3:=(hX (aa (aq (p.g 1) (z.i 9+(1:Int)).toNat) 0));let v4:=(hX (aa (aq (p.g 1) (z.i 9+(2:Int)).toNat) 0));let v5:=(hX (aa (aq (p.g 1) (z.i 9).toNat) 0));(.an v1 (.two (z.i 9+3 < ↑(p.g 1).length) (.an ((0:Int)<=z.i 9/\z.i 9 < ↑(p.g 1).length) (.an v2 (.an ((0:Int)<=z.i 9+1/\z.i 9+1 < ↑(p.g 1).length) (.ct (HOk v5/\HOk v3) (fun y0=>hT y0 300=bb v5 v3) fun y0=>(.an (v0<=z.i 9+2/\z.i 9+2<=9223372036854775807) (.an ((0:Int)<=z.i 9+2/\z.i 9+2 < ↑(p.g 1).length) (.an v1 (.an ((0:Int)<=z.i 9+3/\z.i 9+3 < ↑(p.g 1).length) (.ct (HOk v4/\HOk (hX (aa (aq (p.g 1) (z.i 9+(3:Int)).toNat) 0))) (fun y1=>hT y1 300=bb v4 (hX (aa (aq (p.g 1) (z.i 9+3).toNat) 0))) fun y1=>(.ct (HOk (hT y0 300)/\HOk (hT y1 300)) (fun y2=>hT y2 300=bb (hT y0 300) (hT y1 300)) fun y2=>(let v6:=(z.g 30++ [G.node [hT y2 300]]);(.an ((z.g 30).length=(z.g 30).length/\(z.g 30).length<=1000000000/\True) (.an v2 (.an (v6.length=(z.g 30).length+1/\p.g 1=p.g 1/\True) (.at ((RowsOk (p.g 1)/\(p.g 1).length<=1000/\((0:Int)<=z.i 9+1/\z.i 9+1<= ↑(p.g 1).length)/\RowsOk v6/\(↑v6.length:Int)<=2000+(z.i 9+1))/\((↑(p.g 1).length:Int)-(z.i 9+1)).toNat<((↑(p.g 1).length:Int)-z.i 9).toNat/\∀(y:Sy),RowsOk (y.g 30)/\v6.length<=(y.g 30).length/\(y.g 30).length<=3000->RowsOk (y.g 30)/\(z.g 30).length<=(y.g 30).length/\(y.g 30).length<=3000)))))))))))))))) (.an ((z.g 30).length=(z.g 30).length/\True) (.at (RowsOk (z.g 30)/\(z.g 30).length<=(z.g 30).length/\(z.g 30).length<=3000)))))):=by
 dsimp only [rU] at hA
 have a1:=fun h h0 hi=>@RowsOk.at (p.g 1) h (z.i 9) h0 hi
 have a2:=fun h h0 hi=>@RowsOk.at (p.g 1) h (z.i 9+1) h0 hi
 have a3:=fun h h0 hi=>@RowsOk.at (p.g 1) h (z.i 9+2) h0 hi
 have a4:=fun h h0 hi=>@RowsOk.at (p.g 1) h (z.i 9+3) h0 hi
 have a5:=@dR (z.g 30)
 conv=>zeta
 repeat' with_reducible first|intro _|apply aV|apply aZ|apply aT|apply bf|apply ba
 all_goals first|omega|grind [am,ai,ah,az,aA,aB,aC,aD,aE,aF,aG,aH,ao,List.append_assoc,bR]
theorem HU:dU Tryz.prog 8 2 rU:=bH 1000 mN (eK ko eN) lN (hn:=(hC 8 2726)) Do
theorem Ng(z:Sy)(hA:Dl.pre z):Fm.den (let v0:=((0:Int)<=0/\0<=(↑(z.g 1).length:Int));let v1:=([]++z.g 1);(.an (0=0/\0<=1000000000/\(z.g 1).length<=1000000) (.cl ((v1.length=0+(z.g 1).length/\z.g 1=z.g 1/\True)) (RowsOk (z.g 1)/\(z.g 1).length<=1000/\v0/\RowsOk v1/\(↑v1.length:Int)<=1000+0) (fun y0=>RowsOk (y0.g 30)/\v1.length<=(y0.g 30).length/\(y0.g 30).length<=2000) fun y0=>(.cl (((y0.g 30).length=(y0.g 30).length/\z.g 1=z.g 1/\True)) (RowsOk (z.g 1)/\(z.g 1).length<=1000/\v0/\RowsOk (y0.g 30)/\(↑(y0.g 30).length:Int)<=2000+0) (fun y1=>RowsOk (y1.g 30)/\(y0.g 30).length<=(y1.g 30).length/\(y1.g 30).length<=3000) fun y1=>(.an ((y1.g 30).length=(y1.g 30).length/\True) (.at (RowsOk (y1.g 30)/\1<=(y1.g 30).length/\(y1.g 30).length<=3000))))))):=by
 dsimp only [Dl] at hA
 conv=>zeta
 repeat' with_reducible first|intro _|apply aV|apply aZ|apply aT|apply bf|apply ba
 all_goals first|omega|grind [am,ai,ah,az,aA,aB,aC,aD,aE,aF,aG,aH,ao,List.append_assoc]
theorem Qg:Ok Tryz.prog 8 Dl:=bS 1000 mN eN (eL (ptm:=[(0,.c (.v 6 1))]) HT (eL (ptm:=[(0,.c (.v 6 1))]) HU lN)) (hn:=.nil) Ng
theorem HV(p z:Sy)(hA:(xm p).inv z):Fm.den ((.two (z.i 9 < ↑(p.s 1).length) (.an ((0:Int)<=z.i 9/\z.i 9 < ↑(p.s 1).length) (.an ((0:Int)<=z.i 9/\z.i 9 < ↑(p.s 2).length) (.two ((↑((p.s 1).getD (z.i 9).toNat 0):Int)≠(↑((p.s 2).getD (z.i 9).toNat 0):Int)) (.ax (((1:Int)=0->HQ (p.s 1) (p.s 2) (z.i 9))/\(¬(1:Int)=0->¬false=true/\¬p.s 1=p.s 2))) (.an ((-9223372036854775808:Int)<=z.i 9+1/\z.i 9+1<=9223372036854775807) (.an (p.s 2=p.s 2/\p.s 1=p.s 1/\True) (.at (((p.s 1).length=(p.s 2).length/\(p.s 1).length<=100000000/\(0:Int)<=z.i 9+1/\z.i 9+1<= ↑(p.s 1).length)/\((↑(p.s 1).length:Int)-(z.i 9+1)).toNat<((↑(p.s 1).length:Int)-z.i 9).toNat/\∀(y:Sy),(y.i 999=(0:Int)->HQ (p.s 1) (p.s 2) (z.i 9+(1:Int)))/\(¬y.i 999=0->¬y.p 10/\¬p.s 1=p.s 2)->(y.i 999=0->HQ (p.s 1) (p.s 2) (z.i 9))/\(¬y.i 999=0->¬y.p 10/\¬p.s 1=p.s 2)))))))) (.ax (((0:Int)=0->HQ (p.s 1) (p.s 2) (z.i 9))/\(¬(0:Int)=0->¬(aX (have __src:=iZ;PS.mk [(999,Tm.i (Int.ofNat (nat_lit 0)))] __src.loc __src.ln __src.pr __src.fz).tm).p 10/\¬p.s 1=p.s 2))))):=by
 dsimp only [xm] at hA
 have a1:=@M8 (p.s 1) (p.s 2) (z.i 9)
 have a2:=@Ty (p.s 1) (p.s 2) (z.i 9)
 have a3:=@Qa (p.s 1) (p.s 2) (z.i 9)
 repeat' with_reducible first|intro _|apply aV|apply aZ|apply aT|apply bf|apply ba
 all_goals first|omega|grind [am,ai,ah,az,aA,aB,aC,aD,aE,aF,aG,aH,ao,List.append_assoc]
theorem Nh:dU Tryz.prog 13 0 xm:=bH 1000 mN eN lN (hn:=(hC 6 133)) HV
theorem Qh(z:Sy)(hA:M9.pre z):Fm.den ((.two ((↑(z.s 1).length:Int)≠(↑(z.s 2).length:Int)) (.ax (false=true↔z.s 1=z.s 2)) (.cl ((z.s 2=z.s 2/\z.s 1=z.s 1/\True)) ((z.s 1).length=(z.s 2).length/\(z.s 1).length<=100000000/\(0:Int)<=0/\0<=(↑(z.s 1).length:Int)) (fun y0=>(y0.i 999=0->HQ (z.s 1) (z.s 2) (0:Int))/\(¬y0.i 999=0->¬y0.p 10/\¬z.s 1=z.s 2)) fun y0=>(.two (y0.i 999=0) (.ax (true=true↔z.s 1=z.s 2)) (.ax (y0.p 10↔z.s 1=z.s 2)))))):=by
 dsimp only [M9] at hA
 have a1:=@Qb (z.s 1) (z.s 2)
 repeat' with_reducible first|intro _|apply aV|apply aZ|apply aT|apply bf|apply ba
 all_goals first|omega|grind [am,ai,ah,az,aA,aB,aC,aD,aE,aF,aG,aH,ao,List.append_assoc]
theorem TB:Ok Tryz.prog 13 M9:=bS 1000 mN eN (eL (ptm:=[(0,.c (.vb 1)),(1,.c (.vb 2))]) Nh lN) (hn:=(hC 5 17)) Qh
theorem Dp(p z:Sy)(hA:(rW p).inv z):Fm.den (let v0:=(lQ (hX (aa (aq (p.g 30) (z.i 9).toNat) 1)) (hX (aa (aq (p.g 31) (z.i 9).toNat) 1)));let v1:=(aX (((have __src:=iZ;PS.mk [(999,Tm.i (Int.ofNat (nat_lit 0)))] __src.loc __src.ln __src.pr __src.fz).and (p.g 30=p.g 30)).and (p.g 31=p.g 31)).tm);let v2:=((A5 (p.g 30)/\A5 (p.g 31)/\(p.g 30).length<=1000/\(p.g 31).length<=1000)/\(p.g 30).length=(p.g 31).length/\(0:Int)<=z.i 9+1/\z.i 9+1<= ↑(p.g 30).length);let v3:=(↑(p.g 30).length:Int);let v4:=((0:Int)<=z.i 9/\z.i 9 < ↑(p.g 30).length);let v5:=((0:Int)<=z.i 9/\z.i 9 < ↑(p.g 31).length);let v6:=((-9223372036854775808:Int)<=z.i 9+1/\z.i 9+1<=9223372036854775807);let v7:=(aa (aq (p.g 30) (z.i 9).toNat) 0);let v8:=(aa (aq (p.g 31) (z.i 9).toNat) 0);let v9:=(v3=v3/\p.g 31=p.g 31/\p.g 30=p.g 30/\True);(.two (z.i 9 < ↑(p.g 30).length) (.an v4 (.an v5 (.two v0 (.an v0 (.an v0 (.an v4 (.an v0 (.an v0 (.an v0 (.an v0 (.an v0 (.an v5 (.an v0 (.an v0 (.an v0 (.an v0 (.an v0 (.two (¬kV (gS v7)=kV (gS v8)) (.an v4 (.ct ((gS v7).length<=1000000) (fun y0=>y0.s 20=gS v7) fun y0=>(.an v5 (.ct ((gS v8).length<=1000000) (fun y1=>y1.s 20=gS v8) fun y1=>(.ax (¬(1:Int)=0->true=true/\¬y0.s 20=y1.s 20/\fZ (p.g 30) (p.g 31) (y0.s 20) (y1.s 20))))))) (.an v6 (.an v9 (.at (v2/\(v3-(z.i 9+1)).toNat<(v3-z.i 9).toNat/\∀(y:Sy),(¬y.i 999=(0:Int)->y.p 40/\¬y.s 30=y.s 31/\fZ (p.g 30) (p.g 31) (y.s 30) (y.s 31))->¬y.i 999=0->y.p 40/\¬y.s 30=y.s 31/\fZ (p.g 30) (p.g 31) (y.s 30) (y.s 31)))))))))))))))))))) (.an (¬v0) (.an (¬v0) (.an (¬v0) (.an (¬v0) (.an (¬v0) (.an (¬v0) (.an (¬v0) (.an (¬v0) (.an (¬v0) (.an (¬v0) (.an (¬v0) (.an (¬v0) (.an v6 (.an v9 (.at (v2/\(v3-(z.i 9+1)).toNat<(v3-z.i 9).toNat/\∀(y:Sy),(¬y.i 999=(0:Int)->y.p 40/\¬y.s 30=y.s 31/\fZ (p.g 30) (p.g 31) (y.s 30) (y.s 31))->¬y.i 999=0->y.p 40/\¬y.s 30=y.s 31/\fZ (p.g 30) (p.g 31) (y.s 30) (y.s 31)))))))))))))))))))) (.an (p.g 31=p.g 31/\p.g 30=p.g 30/\True) (.at (¬(0:Int)=0->v1.p 40/\¬v1.s 30=v1.s 31/\fZ (p.g 30) (p.g 31) (v1.s 30) (v1.s 31)))))):=by
 dsimp only [rW,Vs,Wf,Wg] at hA
 have a1:=@rV (p.g 30) (z.i 9)
 have a3:=@M7
 have a2:=@rV (p.g 31) (z.i 9)
 have a4:=@Fz (p.g 30) (p.g 31) (z.i 9) (z.i 9)
 conv=>zeta
 repeat' with_reducible first|intro _|apply aV|apply aZ|apply aT|apply bf|apply ba
 all_goals first|omega|grind [am,ai,ah,az,aA,aB,aC,aD,aE,aF,aG,aH,ao,List.append_assoc]
theorem HW:dU Tryz.prog 15 0 rW:=bH 1000 mN (eK Nf eN) lN (hn:=(hC 33 3458764454138391205)) Dp
theorem Dq(p z:Sy)(hA:(rX p).inv z):Fm.den (let v0:=(lQ (hX (aa (aq (p.g 30) (z.i 9).toNat) 1)) (hX (aa (aq (p.g 31) (z.i 10).toNat) 1)));let v1:=(aX (have __src:=iZ;PS.mk [(999,Tm.i (Int.ofNat (nat_lit 0)))] __src.loc __src.ln __src.pr __src.fz).tm);let v2:=((A5 (p.g 30)/\A5 (p.g 31)/\(p.g 30).length<=1000/\(p.g 31).length<=1000)/\((0:Int)-1<=z.i 9-1/\z.i 9-1 < ↑(p.g 30).length)/\(0:Int)-1<=z.i 10-1/\z.i 10-1 < ↑(p.g 31).length);let v3:=((¬(0:Int)=0->v1.p 40/\¬v1.s 30=v1.s 31/\fZ (p.g 30) (p.g 31) (v1.s 30) (v1.s 31))/\((0:Int)=0->gH (p.g 30) (p.g 31) (z.i 9) (z.i 10)));let v4:=((0:Int)<=z.i 10/\z.i 10 < ↑(p.g 31).length);let v5:=((0:Int)<=z.i 9/\z.i 9 < ↑(p.g 30).length);let v6:=((-9223372036854775808:Int)<=z.i 10-1/\z.i 10-1<=9223372036854775807);let v7:=((-9223372036854775808:Int)<=z.i 9-1/\z.i 9-1<=9223372036854775807);let v8:=(aa (aq (p.g 31) (z.i 10).toNat) 0);let v9:=(aa (aq (p.g 30) (z.i 9).toNat) 0);let v10:=(p.g 31=p.g 31/\p.g 30=p.g 30/\True);(.two ((0:Int)<=z.i 9) (.two ((0:Int)<=z.i 10) (.an v5 (.an v4 (.two v0 (.an v0 (.an v0 (.an v5 (.an v0 (.an v0 (.an v0 (.an v0 (.an v0 (.an v4 (.an v0 (.an v0 (.an v0 (.an v0 (.an v0 (.two (¬kV (gS v9)=kV (gS v8)) (.an v5 (.ct ((gS v9).length<=1000000) (fun y0=>y0.s 20=gS v9) fun y0=>(.an v4 (.ct ((gS v8).length<=1000000) (fun y1=>y1.s 20=gS v8) fun y1=>(.ax ((¬(1:Int)=0->true=true/\¬y0.s 20=y1.s 20/\fZ (p.g 30) (p.g 31) (y0.s 20) (y1.s 20))/\((1:Int)=0->gH (p.g 30) (p.g 31) (z.i 9) (z.i 10)))))))) (.an v7 (.an v6 (.an v10 (.at (v2/\(z.i 9-1+1).toNat<(z.i 9+1).toNat/\∀(y:Sy),(¬y.i 999=(0:Int)->y.p 40/\¬y.s 30=y.s 31/\fZ (p.g 30) (p.g 31) (y.s 30) (y.s 31))/\(y.i 999=0->gH (p.g 30) (p.g 31) (z.i 9-(1:Int)) (z.i 10-1))->(¬y.i 999=0->y.p 40/\¬y.s 30=y.s 31/\fZ (p.g 30) (p.g 31) (y.s 30) (y.s 31))/\(y.i 999=0->gH (p.g 30) (p.g 31) (z.i 9) (z.i 10)))))))))))))))))))))) (.an (¬v0) (.an (¬v0) (.an (¬v0) (.an (¬v0) (.an (¬v0) (.an (¬v0) (.an (¬v0) (.an (¬v0) (.an (¬v0) (.an (¬v0) (.an (¬v0) (.an (¬v0) (.an v7 (.an v6 (.an v10 (.at (v2/\(z.i 9-1+1).toNat<(z.i 9+1).toNat/\∀(y:Sy),(¬y.i 999=(0:Int)->y.p 40/\¬y.s 30=y.s 31/\fZ (p.g 30) (p.g 31) (y.s 30) (y.s 31))/\(y.i 999=0->gH (p.g 30) (p.g 31) (z.i 9-(1:Int)) (z.i 10-1))->(¬y.i 999=0->y.p 40/\¬y.s 30=y.s 31/\fZ (p.g 30) (p.g 31) (y.s 30) (y.s 31))/\(y.i 999=0->gH (p.g 30) (p.g 31) (z.i 9) (z.i 10)))))))))))))))))))))) (.ax v3)) (.ax v3))):=by
 dsimp only [rX,Vs,Wf,Wg] at hA
 have a1:=@rV (p.g 30) (z.i 9)
 have a3:=@M7
 have a2:=@rV (p.g 31) (z.i 10)
 have a4:=@Fz (p.g 30) (p.g 31) (z.i 9) (z.i 10)
 have a5:=@Nc (p.g 30) (p.g 31) (z.i 9) (z.i 10)
 have a6:=@HR (p.g 30) (p.g 31) (z.i 9) (z.i 10)
 conv=>zeta
 repeat' with_reducible first|intro _|apply aV|apply aZ|apply aT|apply bf|apply ba
 all_goals first|omega|grind [am,ai,ah,az,aA,aB,aC,aD,aE,aF,aG,aH,ao,List.append_assoc]
theorem HX:dU Tryz.prog 15 2 rX:=bH 1000 mN (eK Nf eN) lN (hn:=(hC 37 202914183884881701525)) Dq
theorem Ni(z:Sy)(hA:Dm.pre z):Fm.den (let v1:=(cJ (z.i 1001) (z.s 1002) (z.i 1003) (z.i 1004) (z.i 1005) (z.i 1006) (z.i 1007) (z.i 1008) (z.s 1009) (z.g 1010) (z.g 1011) (hT z 1100) (z.p 1012) (z.i 1013) (z.i 1014));let v2:=(cJ (z.i 1) (z.s 2) (z.i 3) (z.i 4) (z.i 5) (z.i 6) (z.i 7) (z.i 8) (z.s 9) (z.g 10) (z.g 11) (hT z 100) (z.p 12) (z.i 13) (z.i 14));let v3:=(cS (z.i 1001) (z.s 1002) (z.i 1003) (z.i 1004) (z.i 1005) (hT z 1100) (z.i 1013) (z.i 1014));let v4:=(cS (z.i 1) (z.s 2) (z.i 3) (z.i 4) (z.i 5) (hT z 100) (z.i 13) (z.i 14));let v7:=(hT z 500);let v8:=(z.i 1061);let v9:=(z.i 1062);let v10:=(z.i 1064);let v11:=(z.g 1063);let f8:=(z.g 1065);let g9:=(hT z 1400);let v5:=(lR (z.s 1002) (z.i 1003) (z.i 1004) (z.i 1005) (z.i 1007) (z.s 1009) (z.g 1010) (z.g 1011) (hT z 1100) (z.i 1013) (z.i 1014)/\HOk g9/\RowsOk v11/\v11.length<=1000000/\RowsOk f8/\f8.length<=1000000);let l7:=(aJ v4);let o6:=(hT z 400);let v6:=(lR (z.s 2) (z.i 3) (z.i 4) (z.i 5) (z.i 7) (z.s 9) (z.g 10) (z.g 11) (hT z 100) (z.i 13) (z.i 14)/\HOk o6/\RowsOk (z.g 63)/\(z.g 63).length<=1000000/\RowsOk (z.g 65)/\(z.g 65).length<=1000000);let r9:=(aJ v3);let v0:=((false=true↔cU v2 l7 o6 (z.i 61) (z.i 62) (z.i 64) (z.i 66) (z.g 63) (z.g 65) v7/\cU v1 r9 g9 v8 v9 v10 (z.i 66) v11 f8 v7/\z.i 61=z.i 1061/\z.i 62=z.i 1062/\¬cS (z.i 1) (z.s 2) (z.i 3) (z.i 4) (z.i 5) (hT z 100) (z.i 13) (z.i 14)=cS (z.i 1001) (z.s 1002) (z.i 1003) (z.i 1004) (z.i 1005) (hT z 1100) (z.i 1013) (z.i 1014))/\(false=true->¬oV/\bT []=bT [])/\(¬false=true->oV/\oV)/\0<=100000/\0<=100000);(.ct (v6/\HOk v7) (fun y0=>(y0.p 40↔cU v2 l7 o6 (z.i 61) (z.i 62) (z.i 64) (z.i 66) (z.g 63) (z.g 65) v7)) fun y0=>(.two (¬y0.p 40) (.ax v0) (.ct (v5/\HOk v7) (fun y1=>(y1.p 40↔cU v1 r9 g9 v8 v9 v10 (z.i 66) v11 f8 v7)) fun y1=>(.two (¬y1.p 40) (.ax v0) (.two (¬[z.i 61,z.i 62]= [z.i 1061,z.i 1062]) (.ax v0) (.ct v6 (fun y2=>(y2.p 40↔Hv v2 (z.i 61) (z.i 62) (z.i 64) (z.i 66) (z.g 63) (z.g 65))/\(y2.p 40->y2.g 30=oQ v4 l7 o6 (z.i 61) (z.i 62) (z.i 64) (z.i 66) (z.g 63) (z.g 65))) fun y2=>(let o9:=(↑(y2.g 30).length:Int);let z':=(0-1<=Go.IntKind.i64.wrap (o9-1)/\Go.IntKind.i64.wrap (o9-1) < ↑(y2.g 30).length);let L':=((-9223372036854775808)<=o9-1/\o9-1<=9223372036854775807);let v20:=(0-1<=o9-1/\o9-1<o9);let Yk:=(Go.IntKind.i64.wrap (o9-1));(.ct v5 (fun y3=>(y3.p 40↔Hv v1 v8 v9 v10 (z.i 66) v11 f8)/\(y3.p 40->y3.g 30=oQ v3 r9 g9 v8 v9 v10 (z.i 66) v11 f8)) fun y3=>(let Xy:=(↑(y3.g 30).length:Int);let Yx:=(A5 (y2.g 30)/\A5 (y3.g 30)/\(y2.g 30).length<=1000/\(y3.g 30).length<=1000);let YE:=((y3.g 30=y3.g 30/\y2.g 30=y2.g 30/\True));let YZ:=((-9223372036854775808)<=Xy-1/\Xy-1<=9223372036854775807);let Zg:=(Yx/\v20/\0-1<=Xy-1/\Xy-1<Xy);let Z9:=(Go.IntKind.i64.wrap (Xy-1));(.an ((0:Int)<=0/\0<o9) (.an ((0:Int)<=0/\0<Xy) (.two (kV (gS (aa (aq (y2.g 30) (Int.toNat (0:Int))) 0))=kV (gS (aa (aq (y3.g 30) (Int.toNat 0)) 0))) (.ax v0) (.two (o9=Xy) (.cl ((o9=o9/\y3.g 30=y3.g 30/\y2.g 30=y2.g 30/\True)) (Yx/\(y2.g 30).length=(y3.g 30).length/\(0:Int)<=0/\0<=o9) (fun y4=>¬y4.i 999=0->y4.p 40/\¬y4.s 30=y4.s 31/\fZ (y2.g 30) (y3.g 30) (y4.s 30) (y4.s 31)) fun y4=>(.two (y4.i 999=0) (.an L' (.an YZ (.cl YE Zg (fun y5=>(¬y5.i 999=0->y5.p 40/\¬y5.s 30=y5.s 31/\fZ (y2.g 30) (y3.g 30) (y5.s 30) (y5.s 31))/\(y5.i 999=0->gH (y2.g 30) (y3.g 30) (o9-1) (Xy-1))) fun y5=>(.two (y5.i 999=0) (.ax v0) (.ax ((y5.p 40↔cU v2 l7 o6 (z.i 61) (z.i 62) (z.i 64) (z.i 66) (z.g 63) (z.g 65) v7/\cU v1 r9 g9 v8 v9 v10 (z.i 66) v11 f8 v7/\z.i 61=z.i 1061/\z.i 62=z.i 1062/\¬cS (z.i 1) (z.s 2) (z.i 3) (z.i 4) (z.i 5) (hT z 100) (z.i 13) (z.i 14)=cS (z.i 1001) (z.s 1002) (z.i 1003) (z.i 1004) (z.i 1005) (hT z 1100) (z.i 1013) (z.i 1014))/\(y5.p 40->¬y5.s 30=y5.s 31/\bT (y5.s 30)=bT (y5.s 31))/\(¬y5.p 40->y5.s 30= []/\y5.s 31= [])/\(y5.s 30).length<=100000/\(y5.s 31).length<=100000)))))) (.ax ((y4.p 40↔cU v2 l7 o6 (z.i 61) (z.i 62) (z.i 64) (z.i 66) (z.g 63) (z.g 65) v7/\cU v1 r9 g9 v8 v9 v10 (z.i 66) v11 f8 v7/\z.i 61=z.i 1061/\z.i 62=z.i 1062/\¬cS (z.i 1) (z.s 2) (z.i 3) (z.i 4) (z.i 5) (hT z 100) (z.i 13) (z.i 14)=cS (z.i 1001) (z.s 1002) (z.i 1003) (z.i 1004) (z.i 1005) (hT z 1100) (z.i 1013) (z.i 1014))/\(y4.p 40->¬y4.s 30=y4.s 31/\bT (y4.s 30)=bT (y4.s 31))/\(¬y4.p 40->y4.s 30= []/\y4.s 31= [])/\(y4.s 30).length<=100000/\(y4.s 31).length<=100000)))) (.two L' (.two YZ (.cl YE Zg (fun y6=>(¬y6.i 999=0->y6.p 40/\¬y6.s 30=y6.s 31/\fZ (y2.g 30) (y3.g 30) (y6.s 30) (y6.s 31))/\(y6.i 999=0->gH (y2.g 30) (y3.g 30) (o9-1) (Xy-1))) fun y6=>(.two (y6.i 999=0) (.ax v0) (.ax ((y6.p 40↔cU v2 l7 o6 (z.i 61) (z.i 62) (z.i 64) (z.i 66) (z.g 63) (z.g 65) v7/\cU v1 r9 g9 v8 v9 v10 (z.i 66) v11 f8 v7/\z.i 61=z.i 1061/\z.i 62=z.i 1062/\¬cS (z.i 1) (z.s 2) (z.i 3) (z.i 4) (z.i 5) (hT z 100) (z.i 13) (z.i 14)=cS (z.i 1001) (z.s 1002) (z.i 1003) (z.i 1004) (z.i 1005) (hT z 1100) (z.i 1013) (z.i 1014))/\(y6.p 40->¬y6.s 30=y6.s 31/\bT (y6.s 30)=bT (y6.s 31))/\(¬y6.p 40->y6.s 30= []/\y6.s 31= [])/\(y6.s 30).length<=100000/\(y6.s 31).length<=100000)))) (.cl YE (Yx/\v20/\0-1<=Go.IntKind.i64.wrap (Xy-1)/\Go.IntKind.i64.wrap (Xy-1) < ↑(y3.g 30).length) (fun y7=>(¬y7.i 999=0->y7.p 40/\¬y7.s 30=y7.s 31/\fZ (y2.g 30) (y3.g 30) (y7.s 30) (y7.s 31))/\(y7.i 999=0->gH (y2.g 30) (y3.g 30) (o9-1) Z9)) fun y7=>(.an (y7.i 999=0) (.ax v0)))) (.two YZ (.cl YE (Yx/\z'/\0-1<=Xy-1/\Xy-1<Xy) (fun y8=>(¬y8.i 999=0->y8.p 40/\¬y8.s 30=y8.s 31/\fZ (y2.g 30) (y3.g 30) (y8.s 30) (y8.s 31))/\(y8.i 999=0->gH (y2.g 30) (y3.g 30) Yk (Xy-1))) fun y8=>(.an (y8.i 999=0) (.ax v0))) (.cl YE (Yx/\z'/\0-1<=Go.IntKind.i64.wrap (Xy-1)/\Go.IntKind.i64.wrap (Xy-1) < ↑(y3.g 30).length) (fun y9=>(¬y9.i 999=0->y9.p 40/\¬y9.s 30=y9.s 31/\fZ (y2.g 30) (y3.g 30) (y9.s 30) (y9.s 31))/\(y9.i 999=0->gH (y2.g 30) (y3.g 30) Yk Z9)) fun y9=>(.an (y9.i 999=0) (.ax v0))))))))))))))))))):=by
 dsimp only [Dm,rv,en,hs,Xo,Xn,dg,wQ,tX,Rm,Vt,Xp,sa,nY,Vu,Qe,xr] at hA
 have g1:=@FA (z.i 1) (z.s 2) (z.i 3) (z.i 4) (z.i 5) (z.i 6) (z.i 7) (z.i 8) (z.s 9) (z.g 10) (z.g 11) (hT z 100) (z.p 12) (z.i 13) (z.i 14) (hT z 400) (z.i 61) (z.i 62) (z.i 64) (z.i 66) (z.g 63) (z.g 65) (hT z 500)
 have g2:=@FA (z.i 1001) (z.s 1002) (z.i 1003) (z.i 1004) (z.i 1005) (z.i 1006) (z.i 1007) (z.i 1008) (z.s 1009) (z.g 1010) (z.g 1011) (hT z 1100) (z.p 1012) (z.i 1013) (z.i 1014) (hT z 1400) (z.i 1061) (z.i 1062) (z.i 1064) (z.i 66) (z.g 1063) (z.g 1065) (hT z 500)
 have g3:=@HS (nY z) (xr z) (sa z) (Qe z) (hT z 400) (hT z 1400) (z.i 61) (z.i 62) (z.i 64) (z.i 1064) (z.i 66) (z.g 63) (z.g 1063) (z.g 65) (z.g 1065) (hT z 500)
 have g4:=fun s t h=>@Na (WV z) (TA z) s t (Qc _ _ _ _ _ _ _ _) (Qc _ _ _ _ _ _ _ _) h
 have g5:=@Nb (WV z) (TA z)
 have g6:=Rl (nY z) (aJ (nY z)) (hT z 400) (z.i 61) (z.i 62) (z.i 64) (z.i 66) (z.g 63) (z.g 65)
 have g7:=Rl (xr z) (aJ (xr z)) (hT z 1400) (z.i 1061) (z.i 1062) (z.i 1064) (z.i 66) (z.g 1063) (z.g 1065)
 have g8:∀l:List G,A5 l->3<=l.length->B8 (gS (aa (aq l 0) 0)):=fun l h hl=>(rV (i:=0) h (by omega) (by omega)).1
 have a3:=@M7
 have i1:=@bU (z.s 2) (z.i 3) (z.i 4) (z.i 5) (z.i 7) (z.s 9) (z.g 10) (z.g 11) (hT z 100) (z.i 13) (z.i 14)
 have i2:=@bU (z.s 1002) (z.i 1003) (z.i 1004) (z.i 1005) (z.i 1007) (z.s 1009) (z.g 1010) (z.g 1011) (hT z 1100) (z.i 1013) (z.i 1014)
 dsimp only [WV,TA,sa,nY,Qe,xr,lD,Af] at g3 g4 g5 g6 g7
 conv=>zeta
 repeat' with_reducible first|intro _|apply aV|apply aZ|apply aT|apply bf|apply ba
 all_goals first|omega|grind [am,ai,ah,az,aA,aB,aC,aD,aE,aF,aG,aH,ao,List.append_assoc]
theorem Qi:Ok Tryz.prog 15 Dm:=bS 1000 mN (eK C3 (eK Ff eN)) (eL (ptm:=[(9,.c (.v 15 30)),(11,.c (.v 15 31))]) HW (eL (ptm:=[(9,.c (.v 15 30)),(11,.c (.v 15 31))]) HX lN)) (hn:=(hC 28 9649404267270417)) Ni
noncomputable section
abbrev Nj(b:G):List G:=gL (aa b 4)
abbrev WX(b:G):Prop:=lE (Nj b)/\Vg (Nj b)/\HOk (hX (aa b 3))/\gI (aa b 0)<9223372036854775808/\gI (aa b 1)<9223372036854775808/\gI (aa b 2)<9223372036854775808
def kQ(l:List G):Prop:=∀b∈l,WX b
theorem TC{l:List G}{i:Int}(h:kQ l)(h0:0<=i)(hi:i<l.length):WX (aq l i.toNat):=h _ (bZ h0 hi)
theorem Dr{es:List G}{i:Int}(h:lE es)(h0:0<=i)(hi:i<es.length):Cq (aq es i.toNat)/\nV (aq es i.toNat)=0:=⟨iP h.2.1 h0 hi,fq h.1 h0 hi⟩
def Wh:List BSh:=[.cells 35 [.o,.v 11 31,.v 6 32,.b 33]]
def Wi(z:Sy):List BSh:=[.cells 35 [.o,.pv 11 (z.g 31),.pv 6 (z.g 32),.b 33]]
abbrev Qj(z:Sy):Prop:=kQ (z.g 31)/\RowsOk (z.g 32)/\(z.g 31).length=(z.g 32).length/\(z.g 31).length<=1000
abbrev Vv(y:Sy)(e:G):Prop:=y.i 1=gI (aa e 0)/\y.s 2=gS (aa e 1)/\y.i 3=gI (aa e 2)/\y.i 4=gI (aa e 3)/\y.i 5=gI (aa e 4)/\y.i 6=gI (aa e 5)/\y.i 7=gI (aa e 6)/\y.i 8=gI (aa e 7)/\y.s 9=gS (aa e 8)/\y.g 10=gL (aa e 9)/\y.g 11=gL (aa e 10)/\hT y 100=hX (aa e 11)/\(y.p 12↔gI (aa e 12)=1)/\y.i 13=gI (aa e 13)/\y.i 14=gI (aa e 14)
abbrev WY(z:Sy):Prop:=(0<=z.i 61/\z.i 61<z.i 66)/\(0<=z.i 62/\z.i 62<(Nj (aq (z.g 31) (z.i 61).toNat)).length)
def Nk:FSpec:={args:=[.c (.p 0),.ag [.i .i64 61,.i .i64 62],.c (.i .i64 66)],blk:=Wh,pre:=Qj,res:=fun _=>.tu [.ag rv,.c (.i .i64 50)],out:=Wi,post:=fun z y=>(1<=z.i 66->z.i 66<=(z.g 32).length->WY z->y.i 50=0/\y.i 61=z.i 61/\y.i 62=z.i 62/\Vv y (aq (Nj (aq (z.g 31) (z.i 61).toNat)) (z.i 62).toNat)/\hT y 400=bT (iQ (gI (aa (aq (z.g 31) (z.i 61).toNat) 0)) (gI (aa (aq (z.g 31) (z.i 61).toNat) 1)) (gI (aa (aq (z.g 31) (z.i 61).toNat) 2)) (hX (aa (aq (z.g 31) (z.i 61).toNat) 3)))/\y.g 63=a_ (z.i 62) (gc (Nj (aq (z.g 31) (z.i 61).toNat)) 0)/\y.i 64=(Nj (aq (z.g 31) (z.i 61).toNat)).length/\y.g 65=a_ (z.i 61) (List.take (z.i 66).toNat (z.g 32)))/\(¬((1<=z.i 66/\z.i 66<=(z.g 32).length)/\WY z)->¬y.i 50=0)}
def Nl:FSpec:={args:=[.c (.p 0)],blk:=Wh,pre:=Qj,res:=fun _=>.one (.ag (dg 66 500)),out:=Wi,post:=fun z y=>y.i 66=(z.g 31).length/\hT y 500=aU (z.g 32)}
theorem HY:∀(n:Nat) (i:Int) (l:List G),l.length<=n->(a_ i l).length<=l.length:=by
 intro n
 induction n with
 |zero=>intro i l h;rw[fA (by omega)];exact aal _
 |succ n ih=>
  intro i l h
  by_cases h2:2<=l.length
  ·have a1:=eD h2
   have a2:=ft l.length
   by_cases hi:i<(bI l.length:Nat)
   ·rw[mR h2 hi,aai]
    have:=ih i (l.take (bI l.length)) (by rw[aam];omega)
    rw[aam] at this
    simp only [aaI];omega
   ·rw[mS h2 hi,aai]
    have:=ih (i-(bI l.length:Nat)) (l.drop (bI l.length)) (by rw[aan];omega)
    rw[aan] at this
    simp only [aaI];omega
  ·rw[fA h2];exact aal _
theorem AR(i:Int)(l:List G):(a_ i l).length<=l.length:=HY _ i l (aaa _)
theorem HZ:∀(n:Nat) (i:Int) (l:List G),l.length<=n->RowsOk l->RowsOk (a_ i l):=by
 intro n
 induction n with
 |zero=>intro i l h _;rw[fA (by omega)];exact eZ
 |succ n ih=>
  intro i l h hr
  by_cases h2:2<=l.length
  ·have a1:=eD h2
   have a2:=ft l.length
   by_cases hi:i<(bI l.length:Nat)
   ·rw[mR h2 hi]
    exact dR (ih i _ (by rw[aam];omega) (hr.take _)) (cA _ (hr.drop _))
   ·rw[mS h2 hi]
    exact dR (ih _ _ (by rw[aan];omega) (hr.drop _)) (cA _ (hr.take _))
  ·rw[fA h2];exact eZ
theorem AS{i:Int}{l:List G}(h:RowsOk l):RowsOk (a_ i l):=HZ _ i l (aaa _) h
theorem AT{l:List G}{n:Nat}{i:Int}(h0:0<=i)(hi:i<n):aq (l.take n) i.toNat=aq l i.toNat:=by
 unfold aq
 rw[aag,aag,aar (by omega)]
theorem Nm{l:List G}{n:Nat}{i:Int}(hi:(n:Int)<=i):aq (l.drop n) (i-n).toNat=aq l i.toNat:=by
 unfold aq
 rw[aag,aag,aax,show n+(i-n).toNat=i.toNat by omega]
theorem Ds:∀(n:Nat) (i:Int) (l:List G),l.length<=n->RowsOk l->0<=i->i<l.length->ga (hX (aa (aq l i.toNat) 0)) i l.length (a_ i l)=(aU l,True):=by
 intro n
 induction n with
 |zero=>intro i l h _ h0 hi;omega
 |succ n ih=>
  intro i l h hr h0 hi
  by_cases h2:2<=l.length
  ·have a1:=eD h2
   have a2:=ft l.length
   have en:((l.length:Int)).toNat=l.length:=aaq _
   by_cases hk:i<(bI l.length:Nat)
   ·have e:=ih i (l.take (bI l.length)) (by rw[aam];omega) (hr.take _) h0 (by rw[aam];omega)
    rw[AT h0 (by omega),show((l.take (bI l.length)).length:Int)=(bI l.length:Nat) by rw[aam];omega] at e
    rw[mR h2 hk,wm (by omega) (by simp) (by rw[en];exact hk),List.dropLast_concat,en,e,fy h2]
    congr 2
    rw[aai,aaI,Nat.add_sub_cancel]
    unfold aq
    rw[aag,aaA (aaa _),aa_]
    exact cZ (cA _ (hr.drop _))
   ·have e:=ih (i-(bI l.length:Nat)) (l.drop (bI l.length)) (by rw[aan];omega) (hr.drop _) (by omega) (by rw[aan];omega)
    rw[Nm (by omega),show((l.drop (bI l.length)).length:Int)=(l.length:Int)-(bI l.length:Nat) by rw[aan];omega] at e
    rw[mS h2 hk,wn (by omega) (by simp) (by rw[en];exact hk),List.dropLast_concat,en,e,fy h2]
    congr 2
    rw[aai,aaI,Nat.add_sub_cancel]
    unfold aq
    rw[aag,aaA (aaa _),aa_]
    exact cZ (cA _ (hr.take _))
  ·have e1:l.length=1:=by omega
   rw[fA h2,kx (by omega),kw e1,show i.toNat=0 by omega]
   simp
theorem uj{i:Int}{l:List G}{h:G}{n:Int}(hr:RowsOk l)(h0:0<=i)(hi:i<l.length)(hn:n=l.length)(hh:h=hX (aa (aq l i.toNat) 0)):ga h i n (a_ i l)=(aU l,True):=by
 subst hn;subst hh
 exact Ds _ i l (aaa _) hr h0 hi
theorem AU{es H:List G}{ae ab n:Int}{ix tm tn:Int}{pv:G}(hE:1<=es.length/\es.length<=200)(h0:0<=ae)(hi:ae<es.length)(hH:RowsOk H)(hn:n<=H.length)(Y7:n<=1000000)(b0:0<=ab)(bi:ab<n)
  (hb:hX (aa (aq H ab.toNat) 0)=wy ix tm tn pv es):cU 0 (aJ (vW (aq es ae.toNat))) (bT (iQ ix tm tn pv)) ab ae es.length n (a_ ae (gc es 0)) (a_ ab (H.take n.toNat)) (aU (H.take n.toNat)):=by
 have e1:ga (aJ (vW (aq es ae.toNat))) ae es.length (a_ ae (gc es 0))=(aU (gc es 0),True):=by
  refine uj (iS es) h0 (by rw[gw];exact hi) (by rw[gw]) ?_
  have:=LU (es:=es) (i:=ae.toNat) (by omega)
  have e:aq (gc es 0) ae.toNat= .node [aJ (vW (aq es ae.toNat))]:=by
   unfold aq at this⊢
   rw[aag,this];rfl
  rw[e]
  exact(cZ (ce _)).symm
 have e2:rJ (aJ (vW (aq es ae.toNat))) (bT (iQ ix tm tn pv)) ae es.length (a_ ae (gc es 0))=wy ix tm tn pv es:=by
  rw[wP,wO,C4,e1,CP,aaq]
 have e3:ga (wy ix tm tn pv es) ab n (a_ ab (H.take n.toNat))=(aU (H.take n.toNat),True):=by
  refine uj (hH.take _) b0 (by rw[aam];omega) (by rw[aam];omega) ?_
  rw[AT b0 (by omega),hb]
 rw[Fg,e2,wG,e3,e1]
 exact⟨⟨rfl,by omega,⟨h0,hi⟩,trivial⟩,⟨b0,bi⟩,by omega,trivial,rfl⟩
theorem Nn{es L H A:List G}(h:mZ es L H A):(A4 es=0/\L= [dk es]/\H= [.node [sd es]]/\A=oY (es.length-1))∨(¬A4 es=0/\L= []/\H= []/\A= []):=by
 unfold mZ at h
 by_cases hb:A4 es=0
 ·exact .inl ⟨hb,h.1 hb⟩
 ·exact .inr ⟨hb,h.2 hb⟩
theorem Qk:kQ []:=by unfold kQ;exact fun _ h=>absurd h List.not_mem_nil
theorem AW{l L H A:List G}(hv:iT l)(h:mZ (eY l) L H A):kQ L/\RowsOk H/\L.length=H.length/\L.length<=1/\(1<=L.length->L= [dk (eY l)]/\H= [.node [sd (eY l)]]/\lE (eY l)):=by
 have he:=Df hv
 rcases Nn h with⟨hb,rfl,rfl,_⟩|⟨_,rfl,rfl,_⟩
 ·obtain⟨g1,_,_⟩:=pA he hb
  have hok:HOk hZ:=fT
  have hk:kQ [dk (eY l)]:=by
   unfold kQ
   intro b O'
   rw[List.mem_singleton.1 O']
   refine⟨g1,Fr he, ?_,by show(0:Int)<_;decide,by show(0:Int)<_;decide,by show(0:Int)<_;decide⟩
   show HOk (hX hZ)
   rw[cZ hok];exact hok
  exact⟨hk,dR eZ (og _ _ _ _ _),rfl,aaa _,fun _=>⟨rfl,rfl,g1⟩⟩
 ·exact⟨Qk,eZ,rfl,aal _,fun h=>by simp at h⟩
theorem Rn(es:List G):gL (aa (dk es) 4)=es/\gI (aa (dk es) 0)=0/\gI (aa (dk es) 1)=0/\gI (aa (dk es) 2)=0/\hX (aa (dk es) 3)=hZ:=by
 refine⟨rfl,rfl,rfl,rfl, ?_⟩
 show hX hZ=hZ
 exact cZ fT
theorem Ro(es:List G):hX (aa (aq [G.node [sd es]] 0) 0)=wy 0 0 0 hZ es:=cZ (og _ _ _ _ _)
theorem Ql(l:List G):1<=(eY l).length:=by rw[mY];omega
theorem Vw{l:List G}{i:Int}(h0:0<=i)(hi:i<(eY l).length):B8 (gS (aa (aq (eY l) i.toNat) 1)):=by
 by_cases e:i=0
 ·subst e
  rw[Di]
  exact .cons (by decide) xl
 ·rw[mY] at hi
  have h2:aq (eY l) i.toNat=aq (sE l 0) (i-1).toNat:=by
   rw[Di,show i.toNat=(i-1).toNat+1 by omega];rfl
  have h1:=De l 0 (i-1).toNat (by omega)
  have h3:sE l 0=Rj l 0:=by unfold sE;rfl
  rw[h2,h3,h1,Dd]
  exact xl
theorem Qm{l:List G}(h:oX 1002 l)(hl:l.length<=1125899906842624):HF [.node [.node l]]:=by
 unfold HF
 intro r hr
 rw[List.mem_singleton.1 hr]
 exact⟨h,hl⟩
theorem Rp{l:List G}(h:Uj l)(hn:oX 1002 l)(hw:xC [.node [.node l]] 0<=1000):iT l:=by
 have e:xC [.node [.node l]] 0=2+mX 1002 l 0+xC [.node [.node l]] (0+1):=rP (by omega) (by simp)
 have hl:=HG (l:=l) (by omega)
 unfold iT
 exact⟨h,hn,by omega,hl⟩
def kv:List G:=[.node [.int 3,.int 5,.int 0,.str [],.node [],.node []]]
theorem Rq:kv= [.node [.int 3,.int 5,.int 0,.str [],.node [],.node []]]:=rfl
theorem No:iT kv:=by
 have h1:Uj kv:=fun g hg=>by rw[List.mem_singleton.1 hg];rfl
 have hb:Ug 5 [] [] []:=⟨⟨by decide,by decide⟩,by decide,by decide,by decide⟩
 have h2:oX 1002 kv:=by
  unfold oX
  intro g hg
  rw[List.mem_singleton.1 hg]
  exact⟨hb,fun x hx=>absurd hx List.not_mem_nil⟩
 refine Rp h1 h2 ?_
 rw[rP (by omega) (by simp),Fq (by simp)]
 show 2+mX 1002 kv 0+0<=1000
 rw[rN (by omega) (by unfold kv;simp),wW (by unfold kv;simp)]
 show 2+(1+0/20+0+0+0)+0<=1000
 decide
theorem oq:eY kv= [Wd,MQ 0 (.node [.int 3,.int 5,.int 0,.str [],.node [],.node []])]:=by unfold eY sE kv;rfl
theorem Vx:nV Wd=0:=by
 have hz:hX hZ=hZ:=cZ fT
 refine eU ?_ (by rintro⟨h,_⟩;exact absurd (show(1:Int)=2 from h) (by decide))
 exact(Aa (show(1:Int)=1 from rfl)).2 ⟨by decide,rfl,rfl,rfl,(br _ _ _ _ _ _).2 ⟨rfl,rfl,rfl,rfl,rfl,rfl⟩,hz,by show ¬(0:Int)=1;decide,rfl,rfl⟩
theorem Vy:dw 16 3 5 0 [] [] []=0:=by
 rw[jM (B_ ((zH rfl).2 ⟨rfl,rfl,rfl,rfl⟩) (by simp) (by simp))]
 exact po (by simp)
theorem Vz:dT 3 5 0 [] [] []=0:=Cc Vy (by
 rw[pp 15 rfl]
 have:=bM (n:=na 5) (vM ⟨by decide,by decide⟩).2
 simp only [aai,aaI];omega)
theorem VA:nV (MQ 0 (.node [.int 3,.int 5,.int 0,.str [],.node [],.node []]))=0:=by
 rw[Dd]
 refine jP ((Ab (show(2:Int)=2 from rfl)).2 ⟨by decide,by decide,by decide,rfl,rfl,rfl,fun h=>absurd (show(0:Int)=1 from h) (by decide)⟩) ⟨rfl,by show ¬(0:Int)=1;decide⟩ Vz ?_
 exact(cZ (Fv _ _ _ _ _ _)).symm
theorem VB:A4 (eY kv)=0:=by
 have hE:=Df No
 have hl:(eY kv).length=2:=by rw[oq];rfl
 have h1:ck (eY kv) 0=0:=by
  rw[mK (by omega) (by omega) (by rw[oq];exact Vx),mK (by omega) (by omega) (by rw[oq];exact VA),vX (by omega)]
 refine nX (by unfold Cr;exact⟨by decide,by decide,by decide,by omega,by omega⟩) h1 ?_
 have h2:=vZ (d:=True) h1 (xa hE) 2 0 (by omega) (by omega)
 have h3:=iR (ix:=0) (tm:=0) (tn:=0) fT (by decide) (by decide) (by decide)
 have h4:=dV (n:=(eY kv).length) (by omega)
 unfold r_
 simp only [aai];omega
theorem VC:oY ((eY kv).length-1)= [.node [.int 0,.int 1]]:=by
 have hl:(eY kv).length=2:=by rw[oq];rfl
 rw[show(((eY kv).length:Nat):Int)-1=0+1 by omega,Rh (by omega),Ft (by omega)];rfl
theorem Np{L H A:List G}(h:mZ (eY kv) L H A):L= [dk (eY kv)]/\H= [.node [sd (eY kv)]]/\A= [.node [.int 0,.int 1]]/\(eY kv).length=2:=by
 have hl:(eY kv).length=2:=by rw[oq];rfl
 rcases Nn h with⟨_,h1,h2,h3⟩|⟨hb,_⟩
 ·exact⟨h1,h2,by rw[h3,VC],hl⟩
 ·exact absurd VB hb
theorem Nq:cU 0 (aJ (vW (aq (eY kv) 1))) (bT (iQ 0 0 0 hZ)) 0 1 (eY kv).length 1 (a_ 1 (gc (eY kv) 0)) (a_ 0 (List.take (1:Int).toNat [.node [sd (eY kv)]])) (aU [.node [sd (eY kv)]]):=by
 have hl:(eY kv).length=2:=by rw[oq];rfl
 exact AU (es:=eY kv) (H:=[.node [sd (eY kv)]]) (ae:=1) (ab:=0) (n:=1) (by omega) (by decide) (by omega) (dR eZ (og _ _ _ _ _)) (by decide) (by decide) (by decide) (by decide) (Ro _)
theorem Qn{er:Int}{lh hd:G}{ab ae c n:Int}{ip op:List G}{r r':G}(h:cU er lh hd ab ae c n ip op r)(h':cU er lh hd ab ae c n ip op r'):r=r':=((fY _ _ _ _ _ _ _ _ _ _).1 h).2.symm.trans ((fY _ _ _ _ _ _ _ _ _ _).1 h').2
def Nr:FSpec:={args:=[],blk:=[],pre:=fun _=>True,res:=fun _=>.one (.c (.b 50)),out:=fun _=>[],post:=fun z y=>y.p 50,gl:=lI}
attribute [irreducible] kQ kv
end
theorem Qo(z:Sy)(hA:Nk.pre z):Fm.den (let v3:=(aq (z.g 31) (z.i 61).toNat);let v4:=(List.drop (Int.toNat (0:Int)) (List.take (z.i 66).toNat (z.g 32)));let v5:=(z.i 62<0);let v6:=(z.g 32=z.g 32/\z.g 31=z.g 31/\True);let v7:=(gL (aa v3 4));let v1:=(aq v7 (z.i 62).toNat);let v8:=(z.i 66<=z.i 61);let v9:=(z.i 61<0);let v10:=((0:Int)<=z.i 61/\z.i 61 < ↑(z.g 31).length);let v11:=(↑v7.length:Int);let f8:=((0:Int)<=z.i 61/\z.i 61<z.i 66);let v0:=(((1:Int)<=z.i 66->z.i 66<= ↑(z.g 32).length->f8/\(0:Int)<=z.i 62/\z.i 62<v11->(7:Int)=0/\(0:Int)=z.i 61/\(0:Int)=z.i 62/\((0:Int)=gI (aa v1 0)/\ []=gS (aa v1 1)/\(0:Int)=gI (aa v1 2)/\(0:Int)=gI (aa v1 3)/\(0:Int)=gI (aa v1 4)/\(0:Int)=gI (aa v1 5)/\(0:Int)=gI (aa v1 6)/\(0:Int)=gI (aa v1 7)/\ []=gS (aa v1 8)/\ []=gL (aa v1 9)/\ []=gL (aa v1 10)/\hZ=hX (aa v1 11)/\(false=true↔gI (aa v1 12)=1)/\(0:Int)=gI (aa v1 13)/\(0:Int)=gI (aa v1 14))/\hZ=bT (iQ (gI (aa v3 0)) (gI (aa v3 1)) (gI (aa v3 2)) (hX (aa v3 3)))/\ []=a_ (z.i 62) (gc v7 (0:Int))/\(0:Int)=v11/\ []=a_ (z.i 61) (List.take (z.i 66).toNat (z.g 32)))/\(¬(((1:Int)<=z.i 66/\z.i 66<= ↑(z.g 32).length)/\f8/\(0:Int)<=z.i 62/\z.i 62<v11)->¬(7:Int)=0));let v2:=(((1:Int)<=z.i 66->z.i 66<= ↑(z.g 32).length->f8/\(0:Int)<=z.i 62/\z.i 62<v11->(1:Int)=0/\(0:Int)=z.i 61/\(0:Int)=z.i 62/\((0:Int)=gI (aa v1 0)/\ []=gS (aa v1 1)/\(0:Int)=gI (aa v1 2)/\(0:Int)=gI (aa v1 3)/\(0:Int)=gI (aa v1 4)/\(0:Int)=gI (aa v1 5)/\(0:Int)=gI (aa v1 6)/\(0:Int)=gI (aa v1 7)/\ []=gS (aa v1 8)/\ []=gL (aa v1 9)/\ []=gL (aa v1 10)/\hZ=hX (aa v1 11)/\(false=true↔gI (aa v1 12)=1)/\(0:Int)=gI (aa v1 13)/\(0:Int)=gI (aa v1 14))/\hZ=bT (iQ (gI (aa v3 0)) (gI (aa v3 1)) (gI (aa v3 2)) (hX (aa v3 3)))/\ []=a_ (z.i 62) (gc v7 (0:Int))/\(0:Int)=v11/\ []=a_ (z.i 61) (List.take (z.i 66).toNat (z.g 32)))/\(¬(((1:Int)<=z.i 66/\z.i 66<= ↑(z.g 32).length)/\f8/\(0:Int)<=z.i 62/\z.i 62<v11)->¬(1:Int)=0));(.two (z.i 66<1) (.an v6 (.at v2)) (.two ((↑(z.g 32).length:Int)<z.i 66) (.an v6 (.at v2)) (.two v9 (.an v9 (.an v9 (.an v9 (.an v9 (.an v6 (.at v0)))))) (.an (¬v9) (.an (¬v9) (.an (¬v9) (.an (¬v9) (.two v8 (.an v8 (.an v8 (.an v8 (.an v6 (.at v0))))) (.an (¬v8) (.an (¬v8) (.an (¬v8) (.two v5 (.an v5 (.an v5 (.an v5 (.an v5 (.an v5 (.an v5 (.an v5 (.an v5 (.an v5 (.an v5 (.an v5 (.an v5 (.an v5 (.an v6 (.at v0))))))))))))))) (.an (¬v5) (.an (¬v5) (.an (¬v5) (.an (¬v5) (.an (¬v5) (.an (¬v5) (.an (¬v5) (.an (¬v5) (.an v10 (.an (¬v5) (.an (¬v5) (.an (¬v5) (.an (¬v5) (.an (¬v5) (.two (v11<=z.i 62) (.an v6 (.at v0)) (.an (¬v9) (.an (¬((↑(z.g 31).length:Int)<=z.i 61)) (.an v10 (.ct (ck v7 (0:Int)=0/\fo v7/\v7.length<=200) (fun y0=>y0.i 31=gI (aa v3 0)/\y0.i 32=gI (aa v3 1)/\y0.i 33=gI (aa v3 2)/\hT y0 400=hX (aa v3 3)/\y0.g 34=jW v7 (0:Int)) fun y0=>(let g9:=(aq (y0.g 34) (z.i 62).toNat);(.ct (ck (y0.g 34) (0:Int)=0/\fo (y0.g 34)/\(y0.g 34).length<=200) (fun y1=>y1.g 30=gc (y0.g 34) (0:Int)) fun y1=>(.an ((0:Int)<=z.i 62/\z.i 62 < ↑(y0.g 34).length) (.ct (HOk (hT y0 400)/\y0.i 31<9223372036854775808/\y0.i 32<9223372036854775808/\y0.i 33<9223372036854775808) (fun y2=>hT y2 300=bT (iQ (y0.i 31) (y0.i 32) (y0.i 33) (hT y0 400))) fun y2=>(.ct ((y1.g 30).length<1000001/\(y1.g 30).length<=1000000/\RowsOk (y1.g 30)/\(0:Int)<=z.i 62/\z.i 62<=1000000) (fun y3=>y3.g 30=a_ (z.i 62) (y1.g 30)/\(y3.g 30).length<=(y1.g 30).length) fun y3=>(.an ((0:Int)<=0/\(0:Int)<=z.i 66/\z.i 66<= ↑(z.g 32).length) (.ct (v4.length<1000001/\v4.length<=1000000/\RowsOk v4/\(0:Int)<=z.i 61/\z.i 61<=1000000) (fun y4=>y4.g 30=a_ (z.i 61) v4/\(y4.g 30).length<=v4.length) fun y4=>(.an (z.g 32=z.g 32/\z.g 31=z.g 31/\(y4.g 30).length=(y4.g 30).length/\(y3.g 30).length=(y3.g 30).length/\True) (.at (((1:Int)<=z.i 66->z.i 66<= ↑(z.g 32).length->f8/\(0:Int)<=z.i 62/\z.i 62<v11->(0:Int)=0/\z.i 61=z.i 61/\z.i 62=z.i 62/\(gI (aa g9 0)=gI (aa v1 0)/\gS (aa g9 1)=gS (aa v1 1)/\gI (aa g9 2)=gI (aa v1 2)/\gI (aa g9 3)=gI (aa v1 3)/\gI (aa g9 4)=gI (aa v1 4)/\gI (aa g9 5)=gI (aa v1 5)/\gI (aa g9 6)=gI (aa v1 6)/\gI (aa g9 7)=gI (aa v1 7)/\gS (aa g9 8)=gS (aa v1 8)/\gL (aa g9 9)=gL (aa v1 9)/\gL (aa g9 10)=gL (aa v1 10)/\hX (aa g9 11)=hX (aa v1 11)/\(gI (aa g9 12)=1↔gI (aa v1 12)=1)/\gI (aa g9 13)=gI (aa v1 13)/\gI (aa g9 14)=gI (aa v1 14))/\hT y2 300=bT (iQ (gI (aa v3 0)) (gI (aa v3 1)) (gI (aa v3 2)) (hX (aa v3 3)))/\y3.g 30=a_ (z.i 62) (gc v7 (0:Int))/\(↑(y1.g 30).length:Int)=v11/\y4.g 30=a_ (z.i 61) (List.take (z.i 66).toNat (z.g 32)))/\(¬(((1:Int)<=z.i 66/\z.i 66<= ↑(z.g 32).length)/\f8/\(0:Int)<=z.i 62/\z.i 62<v11)->¬(0:Int)=0))))))))))))))))))))))))))))))))))))))))))):=by
 dsimp only [Nk,Wh,Qj,rv,en,hs,Wi,WY,Nj,Vv] at hA
 have a1:=@TC (z.g 31) (z.i 61)
 have a2:=@Fl (Nj (aq (z.g 31) (z.i 61).toNat))
 have a3:=iS (Nj (aq (z.g 31) (z.i 61).toNat))
 have a4:=gw (Nj (aq (z.g 31) (z.i 61).toNat))
 have a5:=fun n h=>@RowsOk.take (z.g 32) h n
 dsimp only [Nj,WX] at a1 a2 a3 a4
 conv=>zeta
 repeat' with_reducible first|intro _|apply aV|apply aZ|apply aT|apply bf|apply ba
 all_goals first|omega|grind [am,ai,ah,az,aA,aB,aC,aD,aE,aF,aG,aH,ao,List.append_assoc,eI]
theorem Ns:Ok Tryz.prog 7 Nk:=bS 1000 mN (eK AO (eK rx (eK Aq (eK (E9 1000001) eN)))) lN (hn:=(hC 55 306771445239490293540679322872081)) Qo
noncomputable section
theorem VD{v:Int}{m:Nat}(k:Nat)(hm:m=2 ^ k-1)(hk:k<=62)(h: -9223372036854775808<=v/\v<9223372036854775808):IntKind.i64.wrap (Int.ofNat ((aL (aj .i64) v).land (aL (aj .i64) (m:Int))))=v%(2 ^ k:Nat):=by
 have hp:2 ^ k<=2 ^ 62:=abj (by decide) hk
 have hp0:=aaF k
 have e1:aL (aj .i64) (m:Int)=m:=by
  show m%18446744073709551616=m
  omega
 have e2:(aL (aj .i64) v).land m=(aL (aj .i64) v)%2 ^ k:=by
  rw[hm]
  exact abF _ _
 have e3:((aL (aj .i64) v%2 ^ k:Nat):Int)=v%(2 ^ k:Nat):=by
  have hd:((2 ^ k:Nat):Int) ∣ 18446744073709551616:=by
   refine⟨((2 ^ (64-k):Nat):Int), ?_⟩
   rw[←Int.natCast_mul, ←abk,show k+(64-k)=64 by omega];rfl
  have e4:((aL (aj .i64) v:Nat):Int)=v%18446744073709551616:=by
   cases v with
   |ofNat n=>show((n%18446744073709551616:Nat):Int)=(n:Int)%_;omega
   |negSucc n=>show((18446744073709551615-n%18446744073709551616:Nat):Int)=(Int.negSucc n)%_;omega
  rw[Int.natCast_emod,e4,Int.emod_emod_of_dvd _ hd]
 rw[e1,e2]
 show IntKind.i64.wrap ((aL (aj .i64) v%2 ^ k:Nat):Int)=_
 rw[e3]
 have a:=Int.emod_nonneg v (show((2 ^ k:Nat):Int)≠0 by omega)
 have b:=Int.emod_lt_of_pos v (show(0:Int)<((2 ^ k:Nat):Int) by omega)
 generalize v%((2 ^ k:Nat):Int)=u at a b
 have hu:u<4611686018427387904:=by omega
 have key:∀(c:Bool) (x y:Int),(c=true->x=u)->(¬c=true->y=u)->(if c=true then x else y)=u:=fun c x y h1 h2=>by cases c <;> simp_all
 refine key _ _ _ (fun hc=>?_) fun _=>by show u%18446744073709551616=u;omega
 have:(9223372036854775808:Int)<=u%18446744073709551616:=by
  have:=hc
  simp [IntKind.bits,IntKind.signed] at this
  exact this
 omega
theorem FB{v:Int}(h: -9223372036854775808<=v/\v<9223372036854775808):IntKind.i64.wrap (Int.ofNat ((aL (aj .i64) v).land (aL (aj .i64) 1023)))=v%1024:=VD 10 rfl (by decide) h
theorem Nt{v:Int}(h: -9223372036854775808<=v/\v<9223372036854775808):IntKind.i64.wrap (Int.ofNat ((aL (aj .i64) v).land (aL (aj .i64) 65535)))=v%65536:=VD 16 rfl (by decide) h
def xt(l:List G):Prop:=∀r∈l, -9223372036854775808<=gI (aa r 0)/\gI (aa r 0)<9223372036854775808
theorem VE{l:List G}{i:Int}(h:xt l)(h0:0<=i)(hi:i<l.length): -9223372036854775808<=gI (aa (aq l i.toNat) 0)/\gI (aa (aq l i.toNat) 0)<9223372036854775808:=h _ (bZ h0 hi)
def oS(n:Nat):List Sh:=List.replicate n .o
def WZ:List Sh:=[.i .i64 61,.i .i64 62]++oS 46++hs 400++ [.o,.o,.v 6 65]
def W0(p:Sy):List BSh:=[.cells 52 ([.pi .i64 (p.i 61),.pi .i64 (p.i 62)]++Xc p++Ae p 400++ [.g 1 32 30]++ [.pi .i64 (p.i 64)]++ [.pv 6 (p.g 65)]),.grow 6 38 30]
def rZ(p:Sy):LSpec:={tmps:=[(4,.c (.pv 8 (p.g 205))),(19,.c (.p 0)),(21,.c (.pv 6 (p.g 206))),(22,.c (.i .i64 9))],blk:=W0 p,inv:=fun z=>xt (p.g 205)/\(p.g 205).length<=8/\RowsOk (p.g 206)/\1<=(p.g 206).length/\(p.g 206).length<=3000/\(0<=z.i 9/\z.i 9<=(p.g 205).length)/\RowsOk (z.g 30)/\(z.g 30).length<=z.i 9,mu:=fun z=>((p.g 205).length-z.i 9).toNat,alts:=[⟨.exit 0,[(19,.c (.p 0))],W0 p⟩],post:=fun z y=>RowsOk (y.g 30)/\(y.g 30).length<=8,keep:=[12,15,17,18]}
def Nu:FSpec:={args:=[.c (.v 2 1),.c (.i .i64 2),.c (.i .i64 3),.c (.i .i64 4),.c (.v 8 5)],blk:=[],pre:=fun z=>Uj (z.g 1)/\oX 1002 (z.g 1)/\(z.g 1).length<=1125899906842624/\(-9223372036854775808<=z.i 2/\z.i 2<9223372036854775808)/\(-9223372036854775808<=z.i 3/\z.i 3<9223372036854775808)/\xt (z.g 5)/\(z.g 5).length<=1125899906842624,res:=fun _=>.one (.c (.b 50)),out:=fun _=>[],post:=fun z y=>y.p 50,gl:=lI}
attribute [irreducible] xt
end
noncomputable section
theorem Rr(s:List Nat):hG (h_ s)=bT s:=by rw[←eH];exact lz s
theorem TD{v w:V8}:lQ (hG v) (hG w)↔hG v=hG w:=by unfold lQ;rw[KM,KM,bY,bY];exact⟨fun h=>by rw[h],fc⟩
theorem H0{E:List G}(h:lE E)(hp:1<=E.length){i:Int}(h0:0<=i)(hi:i<E.length):cU 0 (aJ (vW (aq E i.toNat))) (bT (iQ 0 0 0 hZ)) 0 i E.length 1 (a_ i (gc E 0)) (a_ 0 (List.take (Int.toNat 1) [.node [sd E]])) (aU [.node [sd E]]):=
 AU (es:=E) (H:=[.node [sd E]]) (ae:=i) (ab:=0) (n:=1) ⟨hp,h.2.2⟩ h0 hi (dR eZ (og _ _ _ _ _)) (by simp) (by decide) (by decide) (by decide) (Ro _)
theorem uk{E:List G}{i:Int}:RowsOk (a_ i (gc E 0))/\(a_ i (gc E 0)).length<=E.length/\RowsOk (a_ 0 (List.take (Int.toNat 1) [.node [sd E]]))/\(a_ 0 (List.take (Int.toNat 1) [.node [sd E]])).length<=1/\HOk (aU [.node [sd E]]):=by
 have hk:RowsOk [.node [sd E]]:=dR eZ (og _ _ _ _ _)
 refine⟨AS (iS E), ?_,AS (hk.take _),AR _ _,cA _ hk⟩
 have:=AR i (gc E 0)
 rwa [gw] at this
theorem W1{v:Int}(h:0<=v/\v<256):(0<=IntKind.u8.wrap (Int.ofNat ((aL (aj .u8) v).xor (aL (aj .u8) (1:Int))))/\IntKind.u8.wrap (Int.ofNat ((aL (aj .u8) v).xor (aL (aj .u8) (1:Int))))<256)/\¬v=IntKind.u8.wrap (Int.ofNat ((aL (aj .u8) v).xor (aL (aj .u8) (1:Int)))):=by
 obtain⟨n,rfl⟩:∃n:Nat,v=n:=⟨v.toNat,by omega⟩
 have e1:aL (aj .u8) (n:Int)=n:=by show n%256=n;omega
 have e2:aL (aj .u8) (1:Int)=1:=rfl
 have e3:n ^^^ 1<256:=Nat.xor_lt_two_pow (n:=8) (by omega) (by decide)
 rw[e1,e2,qK]
 have e4:Int.ofNat (n.xor 1)%256=((n ^^^ 1:Nat):Int):=by show(((n ^^^ 1:Nat):Int))%256=_;omega
 rw[e4]
 refine⟨by omega,fun h=>?_⟩
 have h:n ^^^ 1=n:=by omega
 have:n ^^^ (n ^^^ 1)=n ^^^ n:=by rw[h]
 rw[←Nat.xor_assoc,Nat.xor_self,Nat.zero_xor] at this
 cases this
theorem Qp{y:Sy}(h:HOk (hT y 500)):HOk (G.node [G.int (y.i 500),G.int (y.i 501),G.int (y.i 502),G.int (Go.IntKind.u8.wrap (Int.ofNat ((aL (aj Go.IntKind.u8) (y.i 503)).xor (aL (aj Go.IntKind.u8) (1:Int))))),G.int (y.i 504),G.int (y.i 505),G.int (y.i 506),G.int (y.i 507),G.int (y.i 508),G.int (y.i 509),G.int (y.i 510),G.int (y.i 511),G.int (y.i 512),G.int (y.i 513),G.int (y.i 514),G.int (y.i 515),G.int (y.i 516),G.int (y.i 517),G.int (y.i 518),G.int (y.i 519),G.int (y.i 520),G.int (y.i 521),G.int (y.i 522),G.int (y.i 523),G.int (y.i 524),G.int (y.i 525),G.int (y.i 526),G.int (y.i 527),G.int (y.i 528),G.int (y.i 529),G.int (y.i 530),G.int (y.i 531)])/\¬hT y 500=G.node [G.int (y.i 500),G.int (y.i 501),G.int (y.i 502),G.int (Go.IntKind.u8.wrap (Int.ofNat ((aL (aj Go.IntKind.u8) (y.i 503)).xor (aL (aj Go.IntKind.u8) (1:Int))))),G.int (y.i 504),G.int (y.i 505),G.int (y.i 506),G.int (y.i 507),G.int (y.i 508),G.int (y.i 509),G.int (y.i 510),G.int (y.i 511),G.int (y.i 512),G.int (y.i 513),G.int (y.i 514),G.int (y.i 515),G.int (y.i 516),G.int (y.i 517),G.int (y.i 518),G.int (y.i 519),G.int (y.i 520),G.int (y.i 521),G.int (y.i 522),G.int (y.i 523),G.int (y.i 524),G.int (y.i 525),G.int (y.i 526),G.int (y.i 527),G.int (y.i 528),G.int (y.i 529),G.int (y.i 530),G.int (y.i 531)]:=by
 have hb:=h.of_hT
 obtain⟨x1,x2⟩:=W1 (hb 3 (by decide))
 constructor
 ·unfold HOk
  refine⟨(jb y 500).set 3 (Go.IntKind.u8.wrap (Int.ofNat ((aL (aj Go.IntKind.u8) (y.i 503)).xor (aL (aj Go.IntKind.u8) (1:Int))))),by with_unfolding_all rfl,by unfold jb;rw[aa0,aaO,List.length_range],fun x hx=>?_⟩
  rcases List.mem_or_eq_of_mem_set hx with hx|rfl
  ·unfold jb at hx
   obtain⟨j,hj,rfl⟩:=List.mem_map.1 hx
   exact hb j (List.mem_range.1 hj)
  ·exact x1
 ·intro e
  have e2:gI (aa (hT y 500) 3)=y.i 503:=by with_unfolding_all rfl
  have:gI (aa (hT y 500) 3)=gI (aa (G.node [G.int (y.i 500),G.int (y.i 501),G.int (y.i 502),G.int (Go.IntKind.u8.wrap (Int.ofNat ((aL (aj Go.IntKind.u8) (y.i 503)).xor (aL (aj Go.IntKind.u8) (1:Int))))),G.int (y.i 504),G.int (y.i 505),G.int (y.i 506),G.int (y.i 507),G.int (y.i 508),G.int (y.i 509),G.int (y.i 510),G.int (y.i 511),G.int (y.i 512),G.int (y.i 513),G.int (y.i 514),G.int (y.i 515),G.int (y.i 516),G.int (y.i 517),G.int (y.i 518),G.int (y.i 519),G.int (y.i 520),G.int (y.i 521),G.int (y.i 522),G.int (y.i 523),G.int (y.i 524),G.int (y.i 525),G.int (y.i 526),G.int (y.i 527),G.int (y.i 528),G.int (y.i 529),G.int (y.i 530),G.int (y.i 531)]) 3):=by rw[e]
  exact x2 (e2.symm.trans this)
end
theorem Qq(z:Sy)(hA:Nl.pre z):Fm.den (let v0:=(↑(z.g 31).length:Int);(.ct ((z.g 32).length<1000001/\(z.g 32).length<=1000000/\RowsOk (z.g 32)) (fun y0=>hT y0 300=aU (z.g 32)) fun y0=>(.an (z.g 32=z.g 32/\z.g 31=z.g 31/\True) (.at (v0=v0/\hT y0 300=aU (z.g 32)))))):=by
 dsimp only [Nl,Wh,Qj,dg,hs,Wi] at hA
 conv=>zeta
 repeat' with_reducible first|intro _|apply aV|apply aZ|apply aT|apply bf|apply ba
 all_goals first|omega|grind [am,ai,ah,az,aA,aB,aC,aD,aE,aF,aG,aH,ao,List.append_assoc,eI]
theorem Nv:Ok Tryz.prog 11 Nl:=bS 1000 mN (eK (mT 1000001) eN) lN (hn:=.nil) Qq
theorem Nw(z:Sy)(hA:Nr.pre z):Fm.den (let vxn:=Int.toNat 0;let v0:=(Int.toNat (0:Int));let v1:=(pB [G.node [G.node [G.node [G.int (3:Int),G.int 5,G.int 0,G.str [],G.node [],G.node []]]]]);let v2:=(aj Go.IntKind.u8);let v3:=(false=true);(.an (1=1) (.an (1=1) (.an (1=1) (.an (1=1) (.ct (1=1/\0=0/\iT v1) (fun y0=>y0.p 35/\mZ (eY v1) (y0.g 31) (y0.g 32) (y0.g 34)) fun y0=>(let v7:=(aq (y0.g 34) (vxn));let v6:=(aq (y0.g 31) (gI (aa v7 0)).toNat);let v8:=(kQ (y0.g 31)/\RowsOk (y0.g 32)/\(y0.g 31).length=(y0.g 32).length/\(y0.g 31).length<=1000);let v9:=(↑(gL (aa v6 4)).length:Int);let v10:=((0:Int)<=gI (aa v7 0)/\gI (aa v7 0)<1);let v11:=(aq (y0.g 34) v0);let f8:=(aa v7 1);let v4:=(aq (gL (aa v6 4)) (gI f8).toNat);let v5:=(aq (gL (aa (aq (y0.g 31) (gI (aa v11 0)).toNat) 4)) (gI f8).toNat);(.two (¬y0.p 35) (.ax v3) (.two ((↑(y0.g 34).length:Int)≠1) (.ax v3) (.an ((0:Int)<=0/\0<(↑(y0.g 34).length:Int)) (.ct v8 (fun y1=>((1:Int)<=1->1<=(↑(y0.g 32).length:Int)->v10/\(0:Int)<=gI f8/\gI f8<v9->y1.i 50=0/\y1.i 61=gI (aa v7 0)/\y1.i 62=gI f8/\(y1.i 1=gI (aa v4 0)/\y1.s 2=gS (aa v5 1)/\y1.i 3=gI (aa v4 2)/\y1.i 4=gI (aa v4 3)/\y1.i 5=gI (aa v4 4)/\y1.i 6=gI (aa v4 5)/\y1.i 7=gI (aa v4 6)/\y1.i 8=gI (aa v4 7)/\y1.s 9=gS (aa v5 8)/\y1.g 10=gL (aa v5 9)/\y1.g 11=gL (aa v5 10)/\hT y1 100=hX (aa v5 11)/\(y1.p 12↔gI (aa v4 12)=1)/\y1.i 13=gI (aa v4 13)/\y1.i 14=gI (aa v4 14))/\hT y1 400=bT (iQ (gI (aa (aq (y0.g 31) (gI (aa v11 0)).toNat) 0)) (gI (aa v6 1)) (gI (aa v6 2)) (hX (aa v6 3)))/\y1.g 63=a_ (gI (aa v11 1)) (gc (gL (aa v6 4)) 0)/\y1.i 64=v9/\y1.g 65=a_ (gI (aa v11 0)) (List.take (Int.toNat 1) (y0.g 32)))/\(¬(((1:Int)<=1/\1<=(↑(y0.g 32).length:Int))/\v10/\(0:Int)<=gI f8/\gI f8<v9)->¬y1.i 50=0)) fun y1=>(let g9:=(lR (y1.s 2) (y1.i 3) (y1.i 4) (y1.i 5) (y1.i 7) (y1.s 9) (y1.g 10) (y1.g 11) (hT y1 100) (y1.i 13) (y1.i 14)/\HOk (hT y1 400)/\RowsOk (y1.g 63)/\(y1.g 63).length<=1000000/\RowsOk (y1.g 65)/\(y1.g 65).length<=1000000);let l7:=(cJ (y1.i 1) (y1.s 2) (y1.i 3) (y1.i 4) (y1.i 5) (y1.i 6) (y1.i 7) (y1.i 8) (y1.s 9) (y1.g 10) (y1.g 11) (hT y1 100) (y1.p 12) (y1.i 13) (y1.i 14));let o6:=(aJ (cS (y1.i 1) (y1.s 2) (y1.i 3) (y1.i 4) (y1.i 5) (hT y1 100) (y1.i 13) (y1.i 14)));(.ct v8 (fun y2=>y2.i 66= ↑(y0.g 31).length/\hT y2 500=aU (y0.g 32)) fun y2=>(let r9:=(G.node [G.int (y2.i 500),G.int (y2.i 501),G.int (y2.i 502),G.int (Go.IntKind.u8.wrap (Int.ofNat ((aL v2 (y2.i 503)).xor (aL v2 (1:Int))))),G.int (y2.i 504),G.int (y2.i 505),G.int (y2.i 506),G.int (y2.i 507),G.int (y2.i 508),G.int (y2.i 509),G.int (y2.i 510),G.int (y2.i 511),G.int (y2.i 512),G.int (y2.i 513),G.int (y2.i 514),G.int (y2.i 515),G.int (y2.i 516),G.int (y2.i 517),G.int (y2.i 518),G.int (y2.i 519),G.int (y2.i 520),G.int (y2.i 521),G.int (y2.i 522),G.int (y2.i 523),G.int (y2.i 524),G.int (y2.i 525),G.int (y2.i 526),G.int (y2.i 527),G.int (y2.i 528),G.int (y2.i 529),G.int (y2.i 530),G.int (y2.i 531)]);(.two (y1.i 50=0) (.ct (g9/\HOk (hT y2 500)) (fun y3=>(y3.p 40↔cU l7 o6 (hT y1 400) (y1.i 61) (y1.i 62) (y1.i 64) (y2.i 66) (y1.g 63) (y1.g 65) (hT y2 500))) fun y3=>(.two (y3.p 40) (.ct (g9/\HOk r9) (fun y4=>(y4.p 40↔cU l7 o6 (hT y1 400) (y1.i 61) (y1.i 62) (y1.i 64) (y2.i 66) (y1.g 63) (y1.g 65) r9)) fun y4=>(.ax (¬y4.p 40))) (.ax v3))) (.ax v3)))))))))))))))):=by
 clear hA
 conv=>zeta
 have E':iT [G.node [G.int 3,G.int 5,G.int 0,G.str [],G.node [],G.node []]]:=by have:=No;rwa [Rq] at this
 refine aT rfl fun _=>aT rfl fun _=>aT rfl fun _=>aT rfl fun _=>aV ⟨trivial,rfl,rfl,E'⟩ fun _ y0 k0=>aZ (fun q=>absurd k0.1 q) fun _=>?_
 have k0:mZ (eY kv) (y0.g 31) (y0.g 32) (y0.g 34):=by rw[Rq];exact k0.2
 obtain⟨e1,e2,e3,hl⟩:=Np k0
 obtain⟨q1,q2,q3,q4,q5⟩:=AW No k0
 obtain⟨_,_,hE⟩:=q5 (by rw[e1];simp)
 rw[e1] at q1
 rw[e2] at q2
 rw[e1,e2,e3]
 have htk:=Nq
 have gK:=Dr (i:=1) hE (by decide) (by omega)
 clear q3 q4 q5 e1 e2 e3 k0 E'
 generalize eY kv=E at *
 obtain⟨b4,b0,b1,b2,b3⟩:=Rn E
 have g0:aq [dk E] 0=dk E:=rfl
 have g1:gI (aa (aq [G.node [G.int 0,G.int 1]] 0) 0)=0:=rfl
 have g2:gI (aa (aq [G.node [G.int 0,G.int 1]] 0) 1)=1:=rfl
 have g3:Int.toNat 0=0:=rfl
 simp only [g1,g2,g3,g0,b4,b0,b1,b2,b3]
 refine aZ (fun q=>absurd (by simp) q) fun _=>aT ⟨by decide,by simp⟩ fun _=>aV ⟨trivial,q1,q2,rfl,by simp⟩ fun _ y1 k1=>?_
 obtain⟨a1,a2,a3,⟨v1,v2,v3,v4,v5,v6,v7,v8,v9,va,vb,vc,vd,ve,vf⟩,w4,w5,w6,w7⟩:=k1.1 (by decide) (by simp) ⟨⟨by decide,by decide⟩,by decide,by omega⟩
 clear k1
 have vd:=propext vd
 refine aV ⟨trivial,q1,q2,rfl,by simp⟩ fun _ y2 k2=>aZ (fun _=>?_) (fun q=>absurd a1 q)
 rw[v1,v2,v3,v4,v5,v6,v7,v8,v9,va,vb,vc,vd,ve,vf,a2,a3,w4,w5,w6,w7]
 obtain⟨o1,o2,o3,o4,o5⟩:=uk (E:=E) (i:=1)
 have gI2:=gK.2
 dsimp only [nV] at gI2
 have rOk:HOk (hT y2 500):=by rw[k2.2];exact o5
 refine aV ⟨trivial,⟨gK.1,eI _,o1,by omega,o3,by omega⟩,rOk⟩ fun _ y3 k3=>?_
 have t3:y3.p 40:=k3.2 (by rw[k2.1,k2.2,gI2];exact htk)
 refine aZ (fun _=>?_) (fun q=>absurd t3 q)
 obtain⟨f1,f2⟩:=Qp rOk
 exact aV ⟨trivial,⟨gK.1,eI _,o1,by omega,o3,by omega⟩,f1⟩ fun _ y4 k4=>aT trivial fun _=>ba fun t4=>f2 (Qn (k3.1 t3) (k4.1 t4))
theorem Qr:Ok Tryz.prog 6 Nr:=bS 1000 mN (eK M4 (eK Ns (eK Nv (eK C3 eN)))) lN (hn:=(hC 9 1297)) Nw
theorem Dt(p z:Sy)(hA:(rZ p).inv z):Fm.den (let v0:=(Int.ofNat ((aL (aj Go.IntKind.i64) (gI (aa (aq (p.g 205) (z.i 9).toNat) 0))).land (aL (aj Go.IntKind.i64) 65535)));let v2:=(↑(p.g 206).length:Int);let v1:=(z.g 30++ [G.node [hX (aa (aq (p.g 206) (Go.IntKind.i64.wrap v0%v2).toNat) 0)]]);let v3:=(jL p 400);let v4:=(jL p 100);let v5:=(↑(p.g 205).length:Int);(.two (z.i 9 < ↑(p.g 205).length) (.an ((0:Int)<=z.i 9/\z.i 9 < ↑(p.g 205).length) (.an (v2≠0) (.an ((0:Int)<=Go.IntKind.i64.wrap v0/\0<v2) (.an (0<=Go.IntKind.i64.wrap v0%v2/\Go.IntKind.i64.wrap v0 % ↑(p.g 206).length < ↑(p.g 206).length) (.an ((z.g 30).length=(z.g 30).length/\(z.g 30).length<=1000000000/\True) (.an ((-9223372036854775808:Int)<=z.i 9+1/\z.i 9+1<=9223372036854775807) (.an (v1.length=(z.g 30).length+1/\p.g 65=p.g 65/\p.i 64=p.i 64/\dt v3 v3 (p.i 14=p.i 14/\p.i 13=p.i 13/\(p.p 12↔p.p 12)/\dt v4 v4 (p.g 11=p.g 11/\p.g 10=p.g 10/\p.s 9=p.s 9/\p.i 8=p.i 8/\p.i 7=p.i 7/\p.i 6=p.i 6/\p.i 5=p.i 5/\p.i 4=p.i 4/\p.i 3=p.i 3/\p.s 2=p.s 2/\p.i 1=p.i 1/\p.i 62=p.i 62/\p.i 61=p.i 61/\p.g 206=p.g 206/\p.g 205=p.g 205/\True))) (.at ((xt (p.g 205)/\(p.g 205).length<=8/\RowsOk (p.g 206)/\1<=(p.g 206).length/\(p.g 206).length<=3000/\((0:Int)<=z.i 9+1/\z.i 9+1<= ↑(p.g 205).length)/\RowsOk v1/\(↑v1.length:Int)<=z.i 9+1)/\(v5-(z.i 9+1)).toNat<(v5-z.i 9).toNat/\∀(y:Sy),RowsOk (y.g 30)/\(y.g 30).length<=8->RowsOk (y.g 30)/\(y.g 30).length<=8))))))))) (.an ((z.g 30).length=(z.g 30).length/\p.g 65=p.g 65/\p.i 64=p.i 64/\dt v3 v3 (p.i 14=p.i 14/\p.i 13=p.i 13/\(p.p 12↔p.p 12)/\dt v4 v4 (p.g 11=p.g 11/\p.g 10=p.g 10/\p.s 9=p.s 9/\p.i 8=p.i 8/\p.i 7=p.i 7/\p.i 6=p.i 6/\p.i 5=p.i 5/\p.i 4=p.i 4/\p.i 3=p.i 3/\p.s 2=p.s 2/\p.i 1=p.i 1/\p.i 62=p.i 62/\p.i 61=p.i 61/\True))) (.at (RowsOk (z.g 30)/\(z.g 30).length<=8))))):=by
 dsimp only [rZ,W0,Xc,Ae] at hA
 have a1:=@VE (p.g 205) (z.i 9)
 have a2:=@Nt (gI (aa (aq (p.g 205) (z.i 9).toNat) 0))
 have a3:=fun i h h0 hi=>@RowsOk.at (p.g 206) h i h0 hi
 have a4:=@dR (z.g 30)
 have c8:∀t n:Int,0<=t->0<n->0<=t%n/\t%n<n:=fun t n a b=>⟨Int.emod_nonneg t (by omega),Int.emod_lt_of_pos t b⟩
 conv=>zeta
 repeat' with_reducible first|intro _|apply aV|apply aZ|apply aT|apply bf|apply ba
 all_goals first|omega|grind [am,ai,ah,az,aA,aB,aC,aD,aE,aF,aG,aH,ao,List.append_assoc,eI]
theorem H1:dU Tryz.prog 3 0 rZ:=bH 1000 mN eN lN (hn:=(hC 5 41)) Dt
theorem Nx(z:Sy)(hA:Nu.pre z):Fm.den (let vxn:=Int.toNat 0;let v0:=(Int.ofNat ((aL (aj Go.IntKind.i64) (z.i 3)).land (aL (aj Go.IntKind.i64) 1023)));let v1:=(Int.ofNat ((aL (aj Go.IntKind.i64) (z.i 2)).land (aL (aj Go.IntKind.i64) 1023)));let v2:=(Int.toNat (0:Int));let v3:=((0:Int)<=0/\(0:Int)<1);let v4:=(Int.ofNat ((aL (aj Go.IntKind.i64) (z.i 2)).land (aL (aj Go.IntKind.i64) (1023:Int))));let v5:=(false=true);let v6:=(true=true);let v7:=(pB [G.node [G.node (z.g 1)]]);(.an (1=1) (.an (1=1) (.ct (HF [G.node [G.node (z.g 1)]]/\1<=1125899906842624) (fun y0=>¬y0.p 10->1<=30/\xC [G.node [G.node (z.g 1)]] (0:Int)<=1000) fun y0=>(.two (y0.p 10) (.ax v6) (.two ((↑(z.g 1).length:Int)<1) (.ax v6) (.two (20<(↑(z.g 1).length:Int)) (.ax v6) (.two (8<(↑(z.g 5).length:Int)) (.ax v6) (.an (1=1) (.an (1=1) (.ct (1=1/\0=0/\iT v7) (fun y1=>y1.p 35/\mZ (eY v7) (y1.g 31) (y1.g 32) (y1.g 34)) fun y1=>(let v10:=(↑(gL (aa (aq (y1.g 31) (vxn)) 4)).length:Int);let v8:=(aq (gL (aa (aq (y1.g 31) (vxn)) 4)) (Go.IntKind.i64.wrap v0%v10).toNat);let v9:=(aq (gL (aa (aq (y1.g 31) (vxn)) 4)) (Go.IntKind.i64.wrap v1%v10).toNat);let l7:=(kQ (y1.g 31)/\RowsOk (y1.g 32)/\(y1.g 31).length=(y1.g 32).length/\(y1.g 31).length<=1000);let r9:=(((1:Int)<=1/\1<=(↑(y1.g 32).length:Int))/\v3/\(0:Int)<=Go.IntKind.i64.wrap v1%v10/\Go.IntKind.i64.wrap v1%v10<v10);let o9:=(gL (aa (aq (y1.g 31) v2) 4));let v11:=(aq o9 (Go.IntKind.i64.wrap v0%v10).toNat);let f8:=(aq o9 (Go.IntKind.i64.wrap v1%v10).toNat);let z':=(iQ (gI (aa (aq (y1.g 31) v2) 0)) (gI (aa (aq (y1.g 31) (vxn)) 1)) (gI (aa (aq (y1.g 31) (vxn)) 2)) (hX (aa (aq (y1.g 31) (vxn)) 3)));let L':=(hX (aa v8 11));let v20:=(gI (aa v8 13));let Yk:=(gI (aa v8 14));let Xy:=(gI (aa v8 2));let Yx:=(gI (aa v8 3));let YE:=(gI (aa v8 4));let o6:=(aJ (cS (gI (aa v8 0)) (gS (aa v8 1)) Xy Yx YE L' v20 Yk));let YZ:=(gS (aa v11 1));let Zg:=(aa v8 10);let Z9:=(gc (gL (aa (aq (y1.g 31) (vxn)) 4)) 0);let v28:=(gI (aa v8 6));let Zy:=(gS (aa v8 8));let v30:=(gL (aa v8 9));let g9:=(cJ (gI (aa v11 0)) (gS (aa v8 1)) Xy Yx YE (gI (aa v8 5)) v28 (gI (aa v8 7)) Zy v30 (gL Zg) L' (gI (aa v8 12)=1) v20 Yk);let v31:=(aa v9 13);let v32:=(aa v9 14);let v33:=(List.take (Int.toNat 1) (y1.g 32));let v34:=(aa v9 2);let v35:=(aa v9 3);let Z_:=(aa v9 4);let v37:=(Go.IntKind.i64.wrap v4%v10);let v38:=((↑o9.length:Int)≠0);(.two (¬y1.p 35) (.ax v5) (.two ((↑(y1.g 31).length:Int)<1) (.ct (True) (fun y2=>y2.p 50) fun y2=>(.ax (y2.p 50))) (.an ((0:Int)<=0/\0<(↑(y1.g 31).length:Int)) (.an v38 (.an ((0:Int)<=Go.IntKind.i64.wrap v1/\(0:Int)<v10) (.an v38 (.an ((0:Int)<=Go.IntKind.i64.wrap v0/\(0:Int)<v10) (.ct l7 (fun y3=>((1:Int)<=1->1<=(↑(y1.g 32).length:Int)->v3/\(0:Int)<=Go.IntKind.i64.wrap v1%v10/\Go.IntKind.i64.wrap v1%v10<v10->y3.i 50=0/\y3.i 61=0/\y3.i 62=Go.IntKind.i64.wrap v1%v10/\(y3.i 1=gI (aa v9 0)/\y3.s 2=gS (aa f8 1)/\y3.i 3=gI v34/\y3.i 4=gI v35/\y3.i 5=gI Z_/\y3.i 6=gI (aa v9 5)/\y3.i 7=gI (aa v9 6)/\y3.i 8=gI (aa v9 7)/\y3.s 9=gS (aa f8 8)/\y3.g 10=gL (aa f8 9)/\y3.g 11=gL (aa f8 10)/\hT y3 100=hX (aa f8 11)/\(y3.p 12↔gI (aa v9 12)=1)/\y3.i 13=gI v31/\y3.i 14=gI v32)/\hT y3 400=bT z'/\y3.g 63=a_ v37 Z9/\y3.i 64=v10/\y3.g 65=a_ (0:Int) v33)/\(¬r9->¬y3.i 50=0)) fun y3=>(let v39:=(hT y3 400);(.an ((0:Int)<=Go.IntKind.i64.wrap v0%v10/\Go.IntKind.i64.wrap v0%v10<v10) (.ct (ck o9 0=0/\fo o9/\o9.length<=200) (fun y4=>y4.g 30=gc o9 0) fun y4=>(.ct (RowsOk (y4.g 30)/\1<=(y4.g 30).length/\(y4.g 30).length<=1000) (fun y5=>RowsOk (y5.g 30)/\1<=(y5.g 30).length/\(y5.g 30).length<=3000) fun y5=>(.cl ((0=0/\y3.g 65=y3.g 65/\z.i 4=z.i 4/\dt (jL y3 400) (jL y3 400) (gI (aa v11 14)=gI (aa v8 14)/\gI (aa v8 13)=gI (aa v8 13)/\(gI (aa v8 12)=1↔gI (aa v8 12)=1)/\dt (Xa (aa v11 11)) (Xa (aa v8 11)) (gL Zg=gL Zg/\gL (aa v11 9)=gL (aa v8 9)/\gS (aa v11 8)=gS (aa v8 8)/\gI (aa v8 7)=gI (aa v8 7)/\gI (aa v8 6)=gI (aa v8 6)/\gI (aa v8 5)=gI (aa v8 5)/\gI (aa v8 4)=gI (aa v8 4)/\gI (aa v8 3)=gI (aa v8 3)/\gI (aa v8 2)=gI (aa v8 2)/\gS (aa v11 1)=gS (aa v8 1)/\gI (aa v8 0)=gI (aa v8 0)/\y3.i 62=y3.i 62/\y3.i 61=y3.i 61/\y5.g 30=y5.g 30/\z.g 5=z.g 5/\True)))) (xt (z.g 5)/\(z.g 5).length<=8/\RowsOk (y5.g 30)/\1<=(y5.g 30).length/\(y5.g 30).length<=3000/\((0:Int)<=0/\0<=(↑(z.g 5).length:Int))/\RowsOk []/\(↑0:Int)<=0) (fun y6=>RowsOk (y6.g 30)/\(y6.g 30).length<=8) fun y6=>(let v40:=(lR YZ Xy Yx YE v28 Zy v30 (gL Zg) L' v20 Yk/\HOk v39/\RowsOk (y6.g 30)/\(y6.g 30).length<=1000000/\RowsOk (y3.g 65)/\(y3.g 65).length<=1000000);let v41:=((y6.g 30).length=(y6.g 30).length);(.ct l7 (fun y7=>y7.i 66= ↑(y1.g 31).length/\hT y7 500=aU (y1.g 32)) fun y7=>(.an v41 (.ct (v40/\HOk (hT y7 500)) (fun y8=>(y8.p 40↔cU g9 o6 v39 (y3.i 61) (y3.i 62) (z.i 4) (y7.i 66) (y6.g 30) (y3.g 65) (hT y7 500))) fun y8=>(let v42:=(¬(y8.p 40));(.ct l7 (fun y9=>y9.i 66= ↑(y1.g 31).length/\hT y9 500=aU (y1.g 32)) fun y9=>(.an v41 (.ct (v40/\HOk (hT y9 500)) (fun J'=>(J'.p 40↔cU g9 o6 v39 (y3.i 61) (y3.i 62) (z.i 4) (y9.i 66) (y6.g 30) (y3.g 65) (hT y9 500))) fun J'=>(.two (y8.p 40) (.two (J'.p 40) (.an (y8.p 40) (.an (y8.p 40) (.an (y8.p 40) (.ct (lR YZ Xy Yx YE v28 Zy v30 (gL Zg) L' v20 Yk/\(0:Int)<=gI (aa v8 2)/\(0:Int)<=gI (aa v8 3)/\(0:Int)<=gI (aa v8 4)/\(0:Int)<=gI (aa v8 13)/\(0:Int)<=gI (aa v8 14)) (fun M'=>M'.s 10=cS (gI (aa v11 0)) (gS (aa v8 1)) Xy Yx YE L' v20 Yk) fun M'=>(.an (y8.p 40) (.an (y8.p 40) (.an (y8.p 40) (.an (y8.p 40) (.an ((0:Int)<=Go.IntKind.i64.wrap v1%v10/\Go.IntKind.i64.wrap v1%v10<v10) (.an (y8.p 40) (.an (y8.p 40) (.ct (lR (gS (aa f8 1)) (gI v34) (gI v35) (gI Z_) (gI (aa v9 6)) (gS (aa v9 8)) (gL (aa v9 9)) (gL (aa v9 10)) (hX (aa v9 11)) (gI v31) (gI v32)/\(0:Int)<=gI v34/\(0:Int)<=gI v35/\(0:Int)<=gI Z_/\(0:Int)<=gI v31/\(0:Int)<=gI v32) (fun Yr=>Yr.s 10=cS (gI (aa f8 0)) (gS (aa v9 1)) (gI v34) (gI v35) (gI Z_) (hX (aa v9 11)) (gI v31) (gI v32)) fun Yr=>(.an (y8.p 40) (.ct ((M'.s 10).length<=100000000/\(Yr.s 10).length<=100000000) (fun Yj=>(Yj.p 50↔M'.s 10=Yr.s 10)) fun Yj=>(.an (y8.p 40) (.an (y8.p 40) (.two (¬Yj.p 50) (.ct l7 (fun j7=>((1:Int)<=1->1<=(↑(y1.g 32).length:Int)->v3/\(0:Int)<=Go.IntKind.i64.wrap v1%v10/\Go.IntKind.i64.wrap v1%v10<v10->j7.i 50=0/\j7.i 61=0/\j7.i 62=Go.IntKind.i64.wrap v1%v10/\(j7.i 1=gI (aa v9 0)/\j7.s 2=gS (aa f8 1)/\j7.i 3=gI v34/\j7.i 4=gI v35/\j7.i 5=gI Z_/\j7.i 6=gI (aa v9 5)/\j7.i 7=gI (aa v9 6)/\j7.i 8=gI (aa v9 7)/\j7.s 9=gS (aa f8 8)/\j7.g 10=gL (aa f8 9)/\j7.g 11=gL (aa f8 10)/\hT j7 100=hX (aa f8 11)/\(j7.p 12↔gI (aa v9 12)=1)/\j7.i 13=gI v31/\j7.i 14=gI v32)/\hT j7 400=bT z'/\j7.g 63=a_ v37 Z9/\j7.i 64=v10/\j7.g 65=a_ (0:Int) v33)/\(¬r9->¬j7.i 50=0)) fun j7=>(let ZP:=(hT j7 100);(.ct l7 (fun YQ=>YQ.i 66= ↑(y1.g 31).length/\hT YQ 500=aU (y1.g 32)) fun YQ=>(.an v41 (.ct ((lR (j7.s 2) (j7.i 3) (j7.i 4) (j7.i 5) (j7.i 7) (j7.s 9) (j7.g 10) (j7.g 11) ZP (j7.i 13) (j7.i 14)/\HOk (hT j7 400)/\RowsOk (j7.g 63)/\(j7.g 63).length<=1000000/\RowsOk (j7.g 65)/\(j7.g 65).length<=1000000)/\v40/\HOk (hT YQ 500)/\B8 (j7.s 2)/\B8 YZ) (fun XA=>(XA.p 40↔cU (cJ (j7.i 1) (j7.s 2) (j7.i 3) (j7.i 4) (j7.i 5) (j7.i 6) (j7.i 7) (j7.i 8) (j7.s 9) (j7.g 10) (j7.g 11) ZP (j7.p 12) (j7.i 13) (j7.i 14)) (aJ (cS (j7.i 1) (j7.s 2) (j7.i 3) (j7.i 4) (j7.i 5) ZP (j7.i 13) (j7.i 14))) (hT j7 400) (j7.i 61) (j7.i 62) (j7.i 64) (YQ.i 66) (j7.g 63) (j7.g 65) (hT YQ 500)/\cU g9 o6 v39 (y3.i 61) (y3.i 62) (z.i 4) (YQ.i 66) (y6.g 30) (y3.g 65) (hT YQ 500)/\j7.i 61=y3.i 61/\j7.i 62=y3.i 62/\¬cS (j7.i 1) (j7.s 2) (j7.i 3) (j7.i 4) (j7.i 5) ZP (j7.i 13) (j7.i 14)=cS (gI (aa v11 0)) (gS (aa v8 1)) Xy Yx YE L' v20 Yk)/\(XA.p 40->¬XA.s 30=XA.s 31/\bT (XA.s 30)=bT (XA.s 31))/\(¬XA.p 40->XA.s 30= []/\XA.s 31= [])/\(XA.s 30).length<=100000/\(XA.s 31).length<=100000) fun XA=>(.two (XA.p 40) (.ct ((XA.s 30).length<=100000000/\(XA.s 31).length<=100000000) (fun Zv=>(Zv.p 50↔XA.s 30=XA.s 31)) fun Zv=>(.two (¬Zv.p 50) (.ct ((XA.s 30).length<=1000000) (fun ZG=>True) fun ZG=>(.ct ((XA.s 31).length<=1000000) (fun ZH=>True) fun ZH=>(.ax (lQ (hG (h_ (XA.s 30))) (hG (h_ (XA.s 31))))))) (.ax v5))) (.ax v5))))))) (.ct (True) (fun Zw=>Zw.p 50) fun Zw=>(.ax (Zw.p 50)))))))))))))))))))) (.ax v5)) (.two (J'.p 40) (.ax v5) (.an v42 (.an v42 (.an v42 (.an v42 (.an v42 (.an v42 (.an v42 (.an v42 (.an v42 (.an v42 (.an v42 (.an v42 (.ct (True) (fun ZO=>ZO.p 50) fun ZO=>(.ax (ZO.p 50)))))))))))))))))))))))))))))))))))))))))))))))))):=by
 replace hA:=And.intro trivial hA
 obtain⟨-,hn,hv,hl,h2,h3,hp,hpl⟩:=hA
 have c6:=FB h2
 have c7:=FB h3
 conv=>zeta
 refine aT rfl fun _=>aT rfl fun _=>aV ⟨trivial,Qm hv hl,by decide⟩ fun _ y0 k0=>aZ (fun _=>aT trivial fun _=>ba rfl) fun n0=>aZ (fun _=>aT trivial fun _=>ba rfl) fun n1=>aZ (fun _=>aT trivial fun _=>ba rfl) fun n2=>aZ (fun _=>aT trivial fun _=>ba rfl) fun n3=>aT rfl fun _=>aT rfl fun _=>?_
 have E':iT (z.g 1):=Rp hn hv (k0 n0).2
 refine aV ⟨trivial,rfl,rfl,E'⟩ fun _ y1 k1=>aZ (fun q=>absurd k1.1 q) fun _=>aZ (fun _=>aV ⟨trivial,trivial⟩ fun _ y2 k2=>aT trivial fun _=>ba k2) fun n4=>?_
 obtain⟨q1,q2,q3,q4,q5⟩:=AW E' k1.2
 obtain⟨e1,e2,hE⟩:=q5 (by omega)
 have htx:=fun i h0 hi=>@Vw (z.g 1) i h0 hi
 have j4:=Ql (z.g 1)
 rw[e1] at q1
 rw[e2] at q2
 rw[e1,e2]
 clear q3 q4 q5 e1 e2 k1 n4 E'
 generalize eY (z.g 1)=E at *
 have g0:aq [dk E] (Int.toNat 0)=dk E:=rfl
 obtain⟨b4,b0,b1,b2,b3⟩:=Rn E
 rw[c6,c7]
 simp only [g0,b4,b0,b1,b2,b3]
 have hi:=Int.emod_nonneg (z.i 2) (show(1024:Int)≠0 by decide)
 have hk:=Int.emod_nonneg (z.i 3) (show(1024:Int)≠0 by decide)
 have i0:=Int.emod_nonneg (z.i 2%1024) (show(E.length:Int)≠0 by omega)
 have i1:=Int.emod_lt_of_pos (z.i 2%1024) (show(0:Int)<E.length by omega)
 have j0:=Int.emod_nonneg (z.i 3%1024) (show(E.length:Int)≠0 by omega)
 have j1:=Int.emod_lt_of_pos (z.i 3%1024) (show(0:Int)<E.length by omega)
 refine aT ⟨by decide,by simp⟩ fun _=>aT (by omega) fun _=>aT ⟨hi,by omega⟩ fun _=>aT (by omega) fun _=>aT ⟨hk,by omega⟩ fun _=>?_
 generalize z.i 2%1024%(E.length:Int)=I at *
 generalize z.i 3%1024%(E.length:Int)=K at *
 have gK:=Dr hE j0 j1
 have gI:=Dr hE i0 i1
 obtain⟨⟨nk1,_⟩,⟨nk2,_⟩,⟨nk3,_⟩,nk4,⟨nk5,_⟩,nk6,_⟩:=rr gK.2
 obtain⟨⟨ni1,_⟩,⟨ni2,_⟩,⟨ni3,_⟩,ni4,⟨ni5,_⟩,ni6,_⟩:=rr gI.2
 refine aV ⟨trivial,q1,q2,rfl,by simp⟩ fun _ y3 k3=>?_
 obtain⟨a1,a2,a3,⟨u1,u2,u3,u4,u5,u6,u7,u8,u9,ua,ub,uc,ud,ue,uf⟩,a4,a5,a6,a7⟩:=k3.1 (by decide) (by simp) ⟨⟨by decide,by decide⟩,i0,i1⟩
 clear k3
 refine aT ⟨j0,j1⟩ fun _=>aV ⟨trivial,hE.1,hE.2.1,hE.2.2⟩ fun _ y4 k4=>?_
 rw[k4]
 have hle:=hE.2.2
 refine aV ⟨trivial,iS E,by rw[gw];exact j4,by rw[gw];omega⟩ fun _ y5 k5=>?_
 refine aV ⟨by simp [ao],hp,by omega,k5.1,k5.2.1,k5.2.2,⟨by decide,by omega⟩,eZ,by decide⟩ fun _ y6 k6=>?_
 refine aV ⟨trivial,q1,q2,rfl,by simp⟩ fun _ y7 k7=>aT trivial fun _=>?_
 obtain⟨o1,o2,o3,o4,o5⟩:=uk (E:=E) (i:=I)
 have r4:HOk (hT y3 400):=by rw[a4];exact eI _
 have r65:RowsOk (y3.g 65):=by rw[a7];exact o3
 have l65:(y3.g 65).length<=1000000:=by rw[a7];omega
 refine aV ⟨trivial,⟨gK.1,r4,k6.1,by omega,r65,l65⟩,by rw[k7.2];exact o5⟩ fun _ y8 k8=>?_
 refine aV ⟨trivial,q1,q2,rfl,by simp⟩ fun _ y9 k9=>aT trivial fun _=>aV ⟨trivial,⟨gK.1,r4,k6.1,by omega,r65,l65⟩,by rw[k9.2];exact o5⟩ fun _ J' ZJ=>?_
 rw[k7.1,k7.2] at k8
 rw[k9.1,k9.2] at ZJ
 refine aZ (fun t8=>aZ (fun t10=>?_) (fun n10=>absurd (ZJ.2 (k8.1 t8)) n10)) (fun n8=>aZ (fun t10=>absurd (k8.2 (ZJ.1 t10)) n8) fun _=>?_)
 case refine_2=>
  iterate 12 refine aT n8 fun _=>?_
  exact aV ⟨trivial,trivial⟩ fun _ Zw k20=>aT trivial fun _=>ba k20
 iterate 3 refine aT t8 fun _=>?_
 refine aV ⟨trivial,gK.1,nk1,nk2,nk3,nk5,nk6⟩ fun _ M' k11=>?_
 iterate 4 refine aT t8 fun _=>?_
 refine aT ⟨i0,i1⟩ fun _=>aT t8 fun _=>aT t8 fun _=>aV ⟨trivial,gI.1,ni1,ni2,ni3,ni5,ni6⟩ fun _ Yr k12=>aT t8 fun _=>?_
 have yK:=rY (h:=hX (aa (aq E K.toNat) 11)) (cg gK.2).1 (htx K j0 j1) (bU gK.1).2.2.2.2.2.2.2.2
 have yI:=rY (h:=hX (aa (aq E I.toNat) 11)) (cg gI.2).1 (htx I i0 i1) (bU gI.1).2.2.2.2.2.2.2.2
 refine aV ⟨trivial,by rw[k11];have:=yK.2;omega,by rw[k12];have:=yI.2;omega⟩ fun _ Yj k13=>aT t8 fun _=>?_
 refine aT t8 fun _=>aZ (fun n13=>?_) (fun p13=>aV ⟨trivial,trivial⟩ fun _ Zw k20=>aT trivial fun _=>ba k20)
 refine aV ⟨trivial,q1,q2,rfl,by simp⟩ fun _ j7 k14=>?_
 obtain⟨w1,w2,w3,⟨v1,v2,v3,v4,v5,v6,v7,v8,v9,va,vb,vc,vd,ve,vf⟩,w4,w5,w6,w7⟩:=k14.1 (by decide) (by simp) ⟨⟨by decide,by decide⟩,i0,i1⟩
 clear k14
 have vd:=propext vd
 rw[v1,v2,v3,v4,v5,v6,v7,v8,v9,va,vb,vc,vd,ve,vf,w2,w3,w4,w5,w6,w7]
 refine aV ⟨trivial,q1,q2,rfl,by simp⟩ fun _ YQ k15=>aT trivial fun _=>aV ⟨trivial,⟨gI.1,eI _,o1,by omega,o3,by omega⟩,⟨gK.1,r4,k6.1,by omega,r65,l65⟩,by rw[k15.2];exact o5,htx I i0 i1,htx K j0 j1⟩ fun _ XA k16=>?_
 obtain⟨x1,x2,x3,x4,x5⟩:=k16
 rw[k15.1,k15.2] at x1
 have gI2:=gI.2
 dsimp only [nV] at gI2
 have told:XA.p 40:=x1.2 ⟨by rw[gI2];exact H0 hE j4 i0 i1,k8.1 t8,a2.symm,a3.symm,fun e=>n13 (k13.2 (k11.trans (e.symm.trans k12.symm)))⟩
 refine aZ (fun t16=>?_) (fun n16=>absurd told n16)
 refine aV ⟨trivial,by omega,by omega⟩ fun _ Zv k17=>aZ (fun n17=>?_) (fun p17=>absurd (k17.1 (Classical.not_not.1 p17)) (x2 told).1)
 refine aV ⟨trivial,by omega⟩ fun _ ZG _=>aV ⟨trivial,by omega⟩ fun _ ZH _=>aT trivial fun _=>ba ?_
 rw[TD,Rr,Rr]
 exact(x2 told).2
theorem Qs:Ok Tryz.prog 3 Nu:=bS 1000 mN (eK P1 (eK M4 (eK Qr (eK Ns (eK rx (eK Qg (eK Nv (eK C3 (eK Tb (eK py (eK TB (eK Qi (eK tL eN))))))))))))) (eL (ptm:=[(4,.c (.v 8 205)),(21,.c (.v 6 206)),(86,.ag WZ),(92,.ag en),(94,.c (.i .i64 64))]) H1 lN) (hn:=(hC 51 1267650529394293406321494528273)) Nx
end Go.Proofs.YtojibgjadakamaaGreatDoor
