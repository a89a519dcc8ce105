/- Part 6: JoA, G1, JoB, G2, G3, G4, JoC, G5, JoD, G6, JoP, JoH, G7, JoV, G8, G9, JoW, G10, JoK, G11, G12, JoL. Names and spaces are cut short by program. -/
import Derived.Test.YtojibgjadakamaaGreatDoorProg
import Derived.KernelRfl
import Derived.Test.YtojibgjadakamaaGreatDoorP5
set_option linter.all false
namespace Go.Proofs.YtojibgjadakamaaGreatDoor
open Go.Sym
set_option maxRecDepth 100000
theorem nJ(n:Int):IntKind.u64.wrap n=n%18446744073709551616:=by simp [IntKind.wrap,IntKind.bits,IntKind.signed]
theorem qK(n:Int):IntKind.u8.wrap n=n%256:=by simp [IntKind.wrap,IntKind.bits,IntKind.signed]
def aI(n:Nat):List Nat:=if n<128 then [n] else(n%128+128)::aI (n/128)
termination_by n
decreasing_by omega
theorem Es{v:Int}(h:v<128):aI v.toNat= [v.toNat]:=by
 rw[aI,if_pos (by omega)]
theorem QY{v:Int}(h:128<=v):aI v.toNat=(v.toNat%128+128)::aI (v/128).toNat:=by
 rw[aI,if_neg (by omega)]
 congr 2
 omega
theorem vy:∀(k n:Nat),n<128 ^ k->0<k->(aI n).length<=k:=by
 intro k
 induction k with
 |zero=>intro n _ h;omega
 |succ k ih=>
  intro n h _
  rw[aI]
  split
  ·simp
  ·rename_i hn
   have h2:n/128<128 ^ k:=by
    rw[aaT] at h
    exact Nat.div_lt_of_lt_mul (by omega)
   have hk:0<k:=by
    rcases aaM k with e|e
    ·subst e;simp at h;omega
    ·exact e
   have:=ih _ h2 hk
   simp;omega
theorem bX{v:Int}(h:v<18446744073709551616):(aI v.toNat).length<=10:=by
 refine vy 10 _ ?_ (by decide)
 have:v.toNat<18446744073709551616:=by omega
 exact abb this (by decide)
theorem UP{v:Int}(h0:0<=v)(h:v<256):(Nat.lor (aL 256 v) (aL 256 128):Nat)=v.toNat%128+128:=by
 obtain⟨n,rfl⟩:∃n:Nat,v=n:=⟨v.toNat,by omega⟩
 have hn:n<256:=by omega
 show(n%256) ||| (128%256)=_
 have:∀m:Fin 256,(m.1%256) ||| (128%256)=(m.1:Int).toNat%128+128:=by decide
 exact this ⟨n,hn⟩
theorem Sb{v:Int}(h0:0<=v)(h:v<18446744073709551616):(Nat.land (aL 18446744073709551616 v) (aL 18446744073709551616 127):Nat)=v.toNat%128:=by
 obtain⟨n,rfl⟩:∃n:Nat,v=n:=⟨v.toNat,by omega⟩
 show(n%18446744073709551616) &&& (127%18446744073709551616)=_
 rw[aa3 (by omega:n<18446744073709551616)]
 show n &&& (2 ^ 7-1)=_
 rw[abF];rfl
theorem Ke{v:Int}(h0:0<=v)(h:v<256):IntKind.u8.wrap (Int.ofNat ((aL (aj .u8) v).lor (aL (aj .u8) 128)))=v%128+128:=by
 show IntKind.u8.wrap (Int.ofNat ((aL 256 v).lor (aL 256 128)))=_
 rw[UP h0 h,qK]
 show((v.toNat%128+128:Nat):Int)%256=_
 omega
theorem OB{v:Int}(h0:0<=v)(h:v<18446744073709551616):IntKind.u64.wrap (Int.ofNat ((aL (aj .u64) v).land (aL (aj .u64) 127)))=v%128:=by
 show IntKind.u64.wrap (Int.ofNat ((aL 18446744073709551616 v).land (aL 18446744073709551616 127)))=_
 rw[Sb h0 h,nJ]
 show((v.toNat%128:Nat):Int)%18446744073709551616=_
 omega
noncomputable section
def jJ:FSpec:={args:=[.c (.i .u64 1)],blk:=[],pre:=fun z=>0<=z.i 1/\z.i 1<18446744073709551616,res:=fun _=>.one (.c (.vb 10)),out:=fun _=>[],post:=fun z y=>y.s 10=aI (z.i 1).toNat}
def fP(p:Sy):LSpec:={tmps:=[(0,.c (.i .u64 1)),(3,.c (.gb 0 20))],blk:=[.growb 5 20],inv:=fun z=>(0<=z.i 1/\z.i 1<18446744073709551616)/\(z.s 20).length+(aI (z.i 1).toNat).length<=10,mu:=fun z=>(z.i 1).toNat,alts:=[⟨.exit 0,[(0,.c (.i .u64 1)),(3,.c (.gb 0 20))],[.growb 5 20]⟩],post:=fun z y=>y.s 20++aI (y.i 1).toNat=z.s 20++aI (z.i 1).toNat/\0<=y.i 1/\y.i 1<128/\(y.s 20).length<=10}
abbrev nL:=jJ
abbrev jK:=fP
end
set_option maxHeartbeats 4000000
theorem sw(p z:Sy)(hA:(jK p).inv z):Fm.den (let v0:=(Go.IntKind.u8.wrap (Int.ofNat ((aL (aj Go.IntKind.u8) (Go.IntKind.u64.wrap (Int.ofNat ((aL (aj Go.IntKind.u64) (z.i 1)).land (aL (aj Go.IntKind.u64) (127:Int))))%256)).lor (aL (aj Go.IntKind.u8) 128))));(.two ((128:Int)<=z.i 1) (.an ((z.s 20).length=(z.s 20).length/\(z.s 20).length<=1000000000/\(0:Int)<=Go.IntKind.u8.wrap (Int.ofNat ((aL (aj Go.IntKind.u8) (Go.IntKind.u64.wrap (Int.ofNat ((aL (aj Go.IntKind.u64) (z.i 1)).land (aL (aj Go.IntKind.u64) 127)))%256)).lor (aL (aj Go.IntKind.u8) 128)))/\True) (.an ((z.s 20++ [v0.toNat]).length=(z.s 20).length+1/\True) (.at ((((0:Int)<=z.i 1/128/\z.i 1/128<18446744073709551616)/\(z.s 20++ [v0.toNat]).length+(aI (z.i 1/128).toNat).length<=10)/\(z.i 1/128).toNat<(z.i 1).toNat/\∀(y:Sy),y.s 20++aI (y.i 1).toNat=z.s 20++ [v0.toNat]++aI (z.i 1/128).toNat/\(0:Int)<=y.i 1/\y.i 1<128/\(y.s 20).length<=10->y.s 20++aI (y.i 1).toNat=z.s 20++aI (z.i 1).toNat/\(0:Int)<=y.i 1/\y.i 1<128/\(y.s 20).length<=10)))) (.an ((z.s 20).length=(z.s 20).length/\True) (.at (z.s 20++aI (z.i 1).toNat=z.s 20++aI (z.i 1).toNat/\(0:Int)<=z.i 1/\z.i 1<128/\(z.s 20).length<=10))))):=by
 dsimp only [jK,fP] at hA
 have e4:=@OB (z.i 1)
 have e1:=@Ke (z.i 1%128%256) (by omega) (by omega)
 have e2:=@QY (z.i 1)
 have e3:=@Es (z.i 1)
 conv=>zeta
 repeat' with_reducible first|intro _|apply aV|apply aZ|apply aT|apply bf|apply ba
 all_goals first|omega|grind [am,ai,ah,List.append_assoc,List.length_append,List.length_cons,List.length_nil,List.append_cancel_left_eq,List.cons.injEq]
theorem vz:dU Tryz.prog 77 0 jK:=bH 1000 mN eN lN (hn:=(.both .nil .nil)) sw
theorem zu(z:Sy)(hA:nL.pre z):Fm.den ((.cl ((0=0/\True)) (((0:Int)<=z.i 1/\z.i 1<18446744073709551616)/\0+(aI (z.i 1).toNat).length<=10) (fun y0=>y0.s 20++aI (y0.i 1).toNat= []++aI (z.i 1).toNat/\(0:Int)<=y0.i 1/\y0.i 1<128/\(y0.s 20).length<=10) fun y0=>(.an ((y0.s 20).length=(y0.s 20).length/\(y0.s 20).length<=1000000000/\(0:Int)<=y0.i 1%256/\True) (.an ((y0.s 20++ [(y0.i 1%(256:Int)).toNat]).length=(y0.s 20).length+1/\True) (.at (y0.s 20++ [(y0.i 1%(256:Int)).toNat]=aI (z.i 1).toNat)))))):=by
 dsimp only [nL,jJ] at hA
 have e0:=@bX (z.i 1)
 have e3:=@Es
 repeat' with_reducible first|intro _|apply aV|apply aZ|apply aT|apply bf|apply ba
 all_goals first|omega|grind [am,ai,ah,List.append_assoc,List.length_append,List.length_cons,List.length_nil,List.append_cancel_left_eq,List.cons.injEq]
theorem cR:Ok Tryz.prog 77 nL:=bS 1000 mN eN (eL (ptm:=[]) vz lN) (hn:=.nil) zu
theorem vA(p z:Sy)(hA:(fP p).inv z):Fm.den (let v0:=(Go.IntKind.u8.wrap (Int.ofNat ((aL (aj Go.IntKind.u8) (z.i 1%(256:Int))).lor (aL (aj Go.IntKind.u8) 128))));(.two ((128:Int)<=z.i 1) (.an ((z.s 20).length=(z.s 20).length/\(z.s 20).length<=1000000000/\(0:Int)<=Go.IntKind.u8.wrap (Int.ofNat ((aL (aj Go.IntKind.u8) (z.i 1%256)).lor (aL (aj Go.IntKind.u8) 128)))/\True) (.an ((z.s 20++ [v0.toNat]).length=(z.s 20).length+1/\True) (.at ((((0:Int)<=z.i 1/128/\z.i 1/128<18446744073709551616)/\(z.s 20++ [v0.toNat]).length+(aI (z.i 1/128).toNat).length<=10)/\(z.i 1/128).toNat<(z.i 1).toNat/\∀(y:Sy),y.s 20++aI (y.i 1).toNat=z.s 20++ [v0.toNat]++aI (z.i 1/128).toNat/\(0:Int)<=y.i 1/\y.i 1<128/\(y.s 20).length<=10->y.s 20++aI (y.i 1).toNat=z.s 20++aI (z.i 1).toNat/\(0:Int)<=y.i 1/\y.i 1<128/\(y.s 20).length<=10)))) (.an ((z.s 20).length=(z.s 20).length/\True) (.at (z.s 20++aI (z.i 1).toNat=z.s 20++aI (z.i 1).toNat/\(0:Int)<=z.i 1/\z.i 1<128/\(z.s 20).length<=10))))):=by
 dsimp only [fP] at hA
 have e1:=@Ke (z.i 1%256) (by omega) (by omega)
 have e2:=@QY (z.i 1)
 have e3:=@Es (z.i 1)
 conv=>zeta
 repeat' with_reducible first|intro _|apply aV|apply aZ|apply aT|apply bf|apply ba
 all_goals first|omega|grind [am,ai,ah,List.append_assoc,List.length_append,List.length_cons,List.length_nil,List.append_cancel_left_eq,List.cons.injEq]
theorem zx:dU Tryz.prog 72 0 fP:=bH 1000 mN eN lN (hn:=(.both .nil .nil)) vA
theorem BV(z:Sy)(hA:jJ.pre z):Fm.den ((.cl ((0=0/\True)) (((0:Int)<=z.i 1/\z.i 1<18446744073709551616)/\0+(aI (z.i 1).toNat).length<=10) (fun y0=>y0.s 20++aI (y0.i 1).toNat= []++aI (z.i 1).toNat/\(0:Int)<=y0.i 1/\y0.i 1<128/\(y0.s 20).length<=10) fun y0=>(.an ((y0.s 20).length=(y0.s 20).length/\(y0.s 20).length<=1000000000/\(0:Int)<=y0.i 1%256/\True) (.an ((y0.s 20++ [(y0.i 1%(256:Int)).toNat]).length=(y0.s 20).length+1/\True) (.at (y0.s 20++ [(y0.i 1%(256:Int)).toNat]=aI (z.i 1).toNat)))))):=by
 dsimp only [jJ] at hA
 have e0:=@bX (z.i 1)
 have e3:=@Es
 repeat' with_reducible first|intro _|apply aV|apply aZ|apply aT|apply bf|apply ba
 all_goals first|omega|grind [am,ai,ah,List.append_assoc,List.length_append,List.length_cons,List.length_nil,List.append_cancel_left_eq,List.cons.injEq]
theorem hI:Ok Tryz.prog 72 jJ:=bS 1000 mN eN (eL (ptm:=[]) zx lN) (hn:=.nil) BV
noncomputable section
abbrev H9:Nat:=aj .u32
def Kf(a b:Int):Int:=IntKind.u32.wrap (.ofNat (Nat.lor (aL H9 a) (aL H9 b)))
def dr(a b:Int):Int:=IntKind.u32.wrap (.ofNat (Nat.xor (aL H9 a) (aL H9 b)))
def kC(a b:Int):Int:=IntKind.u32.wrap (.ofNat (Nat.land (aL H9 a) (aL H9 b)))
def BW(a:Int):Int:=IntKind.u32.wrap (.ofNat (Nat.xor (aL H9 (if IntKind.u32.signed then -1 else IntKind.u32.max)) (aL H9 a)))
def hU(x n:Int):Int:=Kf (x/((2 ^ min n.toNat (aY .u32):Nat):Int)) (x * ((2 ^ min ((32-n)%18446744073709551616).toNat (aY .u32):Nat):Int)%4294967296)
def lw(s:List Nat)(i:Int):Int:=((s.getD i.toNat 0:Nat):Int)
def Ua(a b c d:Int):Int:=Kf (Kf (Kf (a%4294967296 * 16777216%4294967296) (b%4294967296 * 65536%4294967296)) (c%4294967296 * 256%4294967296)) (d%4294967296)
def QZ(s:List Nat)(i:Int):Int:=Ua (lw s (4 * i)) (lw s (4 * i+1)) (lw s (4 * i+2)) (lw s (4 * i+3))
def vB(l:List G)(i:Int):Int:=gI (aa (aq l i.toNat) 0)
def sx(x:Int):G:=.node [.int x]
def tI(s:List Nat):Nat->Int->List G->List G
 |0,_,l=>l
 |k+1,i,l=>tI s k (i+1) (l.set i.toNat (sx (QZ s i)))
def V6(l:List G)(i:Int):Int:=
 (((vB l (i-16)+dr (dr (hU (vB l (i-15)) 7) (hU (vB l (i-15)) 18)) (vB l (i-15)/8))%4294967296+vB l (i-7))%4294967296+dr (dr (hU (vB l (i-2)) 17) (hU (vB l (i-2)) 19)) (vB l (i-2)/1024))%4294967296
def AY:Nat->Int->List G->List G
 |0,_,l=>l
 |k+1,i,l=>AY k (i+1) (l.set i.toNat (sx (V6 l i)))
structure V8 where
 (a b c d e f g h:Int)
def rt(k w:Int)(v:V8):Int:=((((v.h+dr (dr (hU v.e 6) (hU v.e 11)) (hU v.e 25))%4294967296+dr (kC v.e v.f) (kC (BW v.e) v.g))%4294967296+k)%4294967296+w)%4294967296
def ru(v:V8):Int:=(dr (dr (hU v.a 2) (hU v.a 13)) (hU v.a 22)+dr (dr (kC v.a v.b) (kC v.a v.c)) (kC v.b v.c))%4294967296
def dS(k w:Int)(v:V8):V8:=⟨(rt k w v+ru v)%4294967296,v.a,v.b,v.c,(v.d+rt k w v)%4294967296,v.e,v.f,v.g⟩
def AZ(k w:List G):Nat->Int->V8->V8
 |0,_,v=>v
 |n+1,i,v=>AZ k w n (i+1) (dS (vB k i) (vB w i) v)
theorem zy{s:List Nat}{i:Int}{l:List G}(h:i<16):tI s (16-i).toNat i l=tI s (16-(i+1)).toNat (i+1) (l.set i.toNat (sx (QZ s i))):=by
 rw[show(16-i).toNat=(16-(i+1)).toNat+1 by omega];rfl
theorem Et{s:List Nat}{i:Int}{l:List G}(h:16<=i):tI s (16-i).toNat i l=l:=by
 rw[show(16-i).toNat=0 by omega];rfl
theorem zz{i:Int}{l:List G}(h:i<64):AY (64-i).toNat i l=AY (64-(i+1)).toNat (i+1) (l.set i.toNat (sx (V6 l i))):=by
 rw[show(64-i).toNat=(64-(i+1)).toNat+1 by omega];rfl
theorem Eu{i:Int}{l:List G}(h:64<=i):AY (64-i).toNat i l=l:=by
 rw[show(64-i).toNat=0 by omega];rfl
theorem zA{k w:List G}{i:Int}{v:V8}(h:i<64):AZ k w (64-i).toNat i v=AZ k w (64-(i+1)).toNat (i+1) (dS (vB k i) (vB w i) v):=by
 rw[show(64-i).toNat=(64-(i+1)).toNat+1 by omega];rfl
theorem Ev{k w:List G}{i:Int}{v:V8}(h:64<=i):AZ k w (64-i).toNat i v=v:=by
 rw[show(64-i).toNat=0 by omega];rfl
def zw(n:Nat):List G:=List.replicate n (sx 0)
def UQ(s:List Nat):List G:=AY 48 16 (tI s 16 0 (zw 64))
def UR(k:List G)(s:List Nat)(v:V8):V8:=AZ k (UQ s) 64 0 v
def US(v u:V8):V8:=⟨(v.a+u.a)%4294967296,(v.b+u.b)%4294967296,(v.c+u.c)%4294967296,(v.d+u.d)%4294967296,(v.e+u.e)%4294967296,(v.f+u.f)%4294967296,(v.g+u.g)%4294967296,(v.h+u.h)%4294967296⟩
def lP(k:List G)(s:List Nat)(v:V8):V8:=US v (UR k s v)
abbrev v8(z:Sy):V8:=⟨z.i 30,z.i 31,z.i 32,z.i 33,z.i 34,z.i 35,z.i 36,z.i 37⟩
def NI:List Sh:=[.i .u32 30,.i .u32 31,.i .u32 32,.i .u32 33,.i .u32 34,.i .u32 35,.i .u32 36,.i .u32 37]
abbrev Ew(z:Sy):V8:=⟨z.i 40,z.i 41,z.i 42,z.i 43,z.i 44,z.i 45,z.i 46,z.i 47⟩
def UT:List Sh:=[.i .u32 40,.i .u32 41,.i .u32 42,.i .u32 43,.i .u32 44,.i .u32 45,.i .u32 46,.i .u32 47]
theorem qN{z y0 y1 y2:Sy}{p q:Prop}(h0:v8 y0=v8 z/\y0.g 1=z.g 2/\p/\y0.g 2=tI (z.s 1) (16-0:Int).toNat 0 [G.node [G.int 0],G.node [G.int 0],G.node [G.int 0],G.node [G.int 0],G.node [G.int 0],G.node [G.int 0],G.node [G.int 0],G.node [G.int 0],G.node [G.int 0],G.node [G.int 0],G.node [G.int 0],G.node [G.int 0],G.node [G.int 0],G.node [G.int 0],G.node [G.int 0],G.node [G.int 0],G.node [G.int 0],G.node [G.int 0],G.node [G.int 0],G.node [G.int 0],G.node [G.int 0],G.node [G.int 0],G.node [G.int 0],G.node [G.int 0],G.node [G.int 0],G.node [G.int 0],G.node [G.int 0],G.node [G.int 0],G.node [G.int 0],G.node [G.int 0],G.node [G.int 0],G.node [G.int 0],G.node [G.int 0],G.node [G.int 0],G.node [G.int 0],G.node [G.int 0],G.node [G.int 0],G.node [G.int 0],G.node [G.int 0],G.node [G.int 0],G.node [G.int 0],G.node [G.int 0],G.node [G.int 0],G.node [G.int 0],G.node [G.int 0],G.node [G.int 0],G.node [G.int 0],G.node [G.int 0],G.node [G.int 0],G.node [G.int 0],G.node [G.int 0],G.node [G.int 0],G.node [G.int 0],G.node [G.int 0],G.node [G.int 0],G.node [G.int 0],G.node [G.int 0],G.node [G.int 0],G.node [G.int 0],G.node [G.int 0],G.node [G.int 0],G.node [G.int 0],G.node [G.int 0],G.node [G.int 0]])
  (h1:v8 y1=v8 y0/\y1.g 1=y0.g 1/\q/\y1.g 2=AY (64-16:Int).toNat 16 (y0.g 2)) (h2:v8 y2=v8 y1/\y2.g 1=y1.g 1/\Ew y2=AZ (y1.g 1) (y1.g 2) (64-0:Int).toNat 0 (v8 y1)):
  y2.g 1=z.g 2/\US (v8 y2) (Ew y2)=lP (z.g 2) (z.s 1) (v8 z):=by
 obtain⟨a1,a2,_,a3⟩:=h0
 obtain⟨b1,b2,_,b3⟩:=h1
 obtain⟨c1,c2,c3⟩:=h2
 refine⟨by rw[c2,b2,a2], ?_⟩
 rw[c3,c1,b1,a1,b2,a2,b3,a3]
 rfl
def KG:List G:=[.node [.int 1116352408],.node [.int 1899447441],.node [.int 3049323471],.node [.int 3921009573],.node [.int 961987163],.node [.int 1508970993],.node [.int 2453635748],.node [.int 2870763221],.node [.int 3624381080],.node [.int 310598401],.node [.int 607225278],.node [.int 1426881987],.node [.int 1925078388],.node [.int 2162078206],.node [.int 2614888103],.node [.int 3248222580],.node [.int 3835390401],.node [.int 4022224774],.node [.int 264347078],.node [.int 604807628],.node [.int 770255983],.node [.int 1249150122],.node [.int 1555081692],.node [.int 1996064986],.node [.int 2554220882],.node [.int 2821834349],.node [.int 2952996808],.node [.int 3210313671],.node [.int 3336571891],.node [.int 3584528711],.node [.int 113926993],.node [.int 338241895],.node [.int 666307205],.node [.int 773529912],.node [.int 1294757372],.node [.int 1396182291],.node [.int 1695183700],.node [.int 1986661051],.node [.int 2177026350],.node [.int 2456956037],.node [.int 2730485921],.node [.int 2820302411],.node [.int 3259730800],.node [.int 3345764771],.node [.int 3516065817],.node [.int 3600352804],.node [.int 4094571909],.node [.int 275423344],.node [.int 430227734],.node [.int 506948616],.node [.int 659060556],.node [.int 883997877],.node [.int 958139571],.node [.int 1322822218],.node [.int 1537002063],.node [.int 1747873779],.node [.int 1955562222],.node [.int 2024104815],.node [.int 2227730452],.node [.int 2361852424],.node [.int 2428436474],.node [.int 2756734187],.node [.int 3204031479],.node [.int 3329325298]]
def V0:V8:=⟨1779033703,3144134277,1013904242,2773480762,1359893119,2600822924,528734635,1541459225⟩
def fQ(k:List G)(s:List Nat)(v:V8):V8:=if 64<=s.length then fQ k (s.drop 64) (lP k s v) else v
termination_by s.length
decreasing_by simp;omega
def b_(s:List Nat):List Nat:=if 64<=s.length then b_ (s.drop 64) else s
termination_by s.length
decreasing_by simp;omega
theorem ez{k:List G}{s:List Nat}{v:V8}(h:64<=s.length):fQ k s v=fQ k (s.drop 64) (lP k s v):=by rw[fQ,if_pos h]
theorem hY{k:List G}{s:List Nat}{v:V8}(h:s.length<64):fQ k s v=v:=by rw[fQ,if_neg (by omega)]
theorem nM{s:List Nat}(h:64<=s.length):b_ s=b_ (s.drop 64):=by rw[b_,if_pos h]
theorem qO{s:List Nat}(h:s.length<64):b_ s=s:=by rw[b_,if_neg (by omega)]
def Ex(e d:Int):Nat->Int->List Nat->List Nat
 |0,_,l=>l
 |k+1,i,l=>Ex e d k (i+1) (l.set (e-1-i).toNat ((d/((2 ^ min (8 * i).toNat (aY .u64):Nat):Int))%256).toNat)
def qP(e d i:Int)(l:List Nat):List Nat:=Ex e d (8-i).toNat i l
theorem Kg{e d i:Int}{l:List Nat}(h:i<8):Ex e d (8-i).toNat i l=Ex e d (8-(i+1)).toNat (i+1) (l.set (e-1-i).toNat ((d/((2 ^ min (8 * i).toNat (aY .u64):Nat):Int))%256).toNat):=by
 rw[show(8-i).toNat=(8-(i+1)).toNat+1 by omega];rfl
theorem OC{e d i:Int}{l:List Nat}(h:8<=i):Ex e d (8-i).toNat i l=l:=by
 rw[show(8-i).toNat=0 by omega];rfl
theorem GJ{e d i:Int}{l:List Nat}(h:i<8):qP e d i l=qP e d (i+1) (l.set (e-1-i).toNat ((d/((2 ^ min (8 * i).toNat (aY .u64):Nat):Int))%256).toNat):=Kg h
theorem Kh{e d i:Int}{l:List Nat}(h:8<=i):qP e d i l=l:=OC h
def Q0(r:List Nat):List Nat:=(r.take 128++(List.replicate 128 0).drop r.length).set (min r.length 128) 128
def A0(s:List Nat):Int:=(s.length:Int)%18446744073709551616 * 8%18446744073709551616
def fS(s:List Nat):V8:=
 if 56<=min (b_ s).length 128 then lP KG (((Ex 128 (A0 s) 8 0 (Q0 (b_ s))).take 128).drop 64) (lP KG (((Ex 128 (A0 s) 8 0 (Q0 (b_ s))).take 128).drop 0) (fQ KG s V0))
 else lP KG (((Ex 64 (A0 s) 8 0 (Q0 (b_ s))).take 128).drop 0) (fQ KG s V0)
def ZB:List Nat:=let x:=Int.toNat 0; [x,x,x,x,x,x,x,x,x,x,x,x,x,x,x,x,x,x,x,x,x,x,x,x,x,x,x,x,x,x,x,x,x,x,x,x,x,x,x,x,x,x,x,x,x,x,x,x,x,x,x,x,x,x,x,x,x,x,x,x,x,x,x,x,x,x,x,x,x,x,x,x,x,x,x,x,x,x,x,x,x,x,x,x,x,x,x,x,x,x,x,x,x,x,x,x,x,x,x,x,x,x,x,x,x,x,x,x,x,x,x,x,x,x,x,x,x,x,x,x,x,x,x,x,x,x,x,x]
theorem Q1:ZB=List.replicate 128 0:=by decide
theorem Sd(r:List Nat)(h:r.length<64):(List.take 128 r++List.drop r.length ZB).length=128:=by
 rw[Q1];simp;omega
theorem Ki{r:List Nat}:(List.take 128 r++List.drop r.length ZB).set (((min r.length 128:Nat):Int)).toNat (Int.toNat 128)=Q0 r:=by
 rw[Q1];rfl
theorem Se{z y0:Sy}{p q:Prop}(h0:y0.s 6=z.s 1/\y0.g 2=KG/\p/\q/\(y0.s 5).length<64):(List.take 128 (y0.s 5)++List.drop (y0.s 5).length ZB).length=128/\(y0.g 2).length=64/\(y0.s 5).length<64:=
 ⟨Sd _ h0.2.2.2.2,by rw[h0.2.1];rfl,h0.2.2.2.2⟩
theorem Sf{z y0:Sy}{p q:Prop}(h0:y0.s 6=z.s 1/\y0.g 2=KG/\p/\q/\(y0.s 5).length<64):y0.g 2=KG:=h0.2.1
theorem Kj{z y0 y1 y2 y3:Sy}{p q:Prop}(h0:y0.s 6=z.s 1/\y0.g 2=KG/\v8 y0=fQ KG (z.s 1) V0/\y0.s 5=b_ (z.s 1)/\(y0.s 5).length<64)(hc:56<=((min (y0.s 5).length 128:Nat):Int))
  (h1:y1.g 2=KG/\v8 y1=v8 y0/\p/\q/\y1.s 7=qP 128 (((y0.s 6).length:Int)%18446744073709551616 * 8%18446744073709551616) 0 ((List.take 128 (y0.s 5)++List.drop (y0.s 5).length ZB).set (((min (y0.s 5).length 128:Nat):Int)).toNat (Int.toNat 128)))
  (h2:y2.g 2=y1.g 2/\v8 y2=lP (y1.g 2) (List.drop (Int.toNat 0) (List.take (Int.toNat 128) (y1.s 7))) (v8 y1)) (h3:y3.g 2=y2.g 2/\v8 y3=lP (y2.g 2) (List.drop (Int.toNat 64) (List.take (Int.toNat 128) (y1.s 7))) (v8 y2)):v8 y3=fS (z.s 1):=by
 obtain⟨a1,a2,a3,a4,a5⟩:=h0
 obtain⟨b1,b2,_,_,b3⟩:=h1
 rw[Ki] at b3
 unfold fS
 rw[←a4,if_pos (by omega),h3.2,h2.1,h2.2,b1,b2,a3,b3,a1]
 rfl
theorem Kk{z y0 y1 y2:Sy}{p q:Prop}(h0:y0.s 6=z.s 1/\y0.g 2=KG/\v8 y0=fQ KG (z.s 1) V0/\y0.s 5=b_ (z.s 1)/\(y0.s 5).length<64)(hc:¬56<=((min (y0.s 5).length 128:Nat):Int))
  (h1:y1.g 2=KG/\v8 y1=v8 y0/\p/\q/\y1.s 7=qP 64 (((y0.s 6).length:Int)%18446744073709551616 * 8%18446744073709551616) 0 ((List.take 128 (y0.s 5)++List.drop (y0.s 5).length ZB).set (((min (y0.s 5).length 128:Nat):Int)).toNat (Int.toNat 128)))
  (h2:y2.g 2=y1.g 2/\v8 y2=lP (y1.g 2) (List.drop (Int.toNat 0) (List.take (Int.toNat 128) (y1.s 7))) (v8 y1)):v8 y2=fS (z.s 1):=by
 obtain⟨a1,a2,a3,a4,a5⟩:=h0
 obtain⟨b1,b2,_,_,b3⟩:=h1
 rw[Ki] at b3
 unfold fS
 rw[←a4,if_neg (by omega),h2.2,b1,b2,a3,b3,a1]
 rfl
def Xt(v:V8):List Sh:=[.pi .u32 v.a,.pi .u32 v.b,.pi .u32 v.c,.pi .u32 v.d,.pi .u32 v.e,.pi .u32 v.f,.pi .u32 v.g,.pi .u32 v.h]
theorem mB{s:List Nat}{i:Int}(j:Int)(h0:0<=i)(h1:0<=j):lw (List.drop (4 * i).toNat (List.take (s.length:Int).toNat s)) j=lw s (4 * i+j):=by
 unfold lw
 rw[aaq,aaZ,aag,aax,aag]
 congr 3;omega
theorem Kl{s:List Nat}{i:Int}(h0:0<=i):Ua (lw (List.drop (4 * i).toNat (List.take (s.length:Int).toNat s)) 0) (lw (List.drop (4 * i).toNat (List.take (s.length:Int).toNat s)) 1) (lw (List.drop (4 * i).toNat (List.take (s.length:Int).toNat s)) 2) (lw (List.drop (4 * i).toNat (List.take (s.length:Int).toNat s)) 3)=QZ s i:=by
 unfold QZ
 rw[mB 0 h0 (by decide),mB 1 h0 (by decide),mB 2 h0 (by decide),mB 3 h0 (by decide),Int.add_zero]
def hb(v:V8)(j:Nat):Int:=[v.a/16777216%256,v.a/65536%256,v.a/256%256,v.a%256,v.b/16777216%256,v.b/65536%256,v.b/256%256,v.b%256,v.c/16777216%256,v.c/65536%256,v.c/256%256,v.c%256,v.d/16777216%256,v.d/65536%256,v.d/256%256,v.d%256,
 v.e/16777216%256,v.e/65536%256,v.e/256%256,v.e%256,v.f/16777216%256,v.f/65536%256,v.f/256%256,v.f%256,v.g/16777216%256,v.g/65536%256,v.g/256%256,v.g%256,v.h/16777216%256,v.h/65536%256,v.h/256%256,v.h%256].getD j 0
def W6(v:V8):List Sh:=(List.range 32).map fun j=>.pi .u8 (hb v j)
def zB:FSpec:={args:=[.c (.i .u32 1),.c (.i .u64 2)],blk:=[],pre:=fun z=>0<=z.i 2,res:=fun z=>.one (.c (.pi .u32 (hU (z.i 1) (z.i 2)))),out:=fun _=>[],post:=fun z y=>True}
abbrev BX:=zB
def Km:FSpec:={args:=[.c (.vb 1)],blk:=[],pre:=fun z=>4<=(z.s 1).length,res:=fun z=>.one (.c (.pi .u32 (Ua (lw (z.s 1) 0) (lw (z.s 1) 1) (lw (z.s 1) 2) (lw (z.s 1) 3)))),out:=fun _=>[],post:=fun z y=>True}
def OD:List BSh:=[.cells 222 NI,.arr 9 106 1,.arr 9 106 2]
def W7:List (Nat×Sa):=[(0,.c (.p 0)),(2,.c (.p 1)),(6,.c (.p 2))]
def vC(p:Sy):LSpec:={tmps:=[(0,.c (.p 0)),(2,.c (.p 1)),(6,.c (.p 2)),(1,.c (.vb 3)),(20,.c (.i .i64 20))],blk:=OD,inv:=fun z=>64<=(z.s 3).length/\(z.g 1).length=64/\(z.g 2).length=64/\0<=z.i 20/\z.i 20<=16,mu:=fun z=>(16-z.i 20).toNat,alts:=[⟨.exit 0,W7,OD⟩],post:=fun z y=>v8 y=v8 z/\y.g 1=z.g 1/\(y.g 2).length=64/\y.g 2=tI (z.s 3) (16-z.i 20).toNat (z.i 20) (z.g 2)}
def vD(p:Sy):LSpec:={tmps:=[(0,.c (.p 0)),(2,.c (.p 1)),(6,.c (.p 2)),(8,.c (.i .i64 8))],blk:=OD,inv:=fun z=>(z.g 1).length=64/\(z.g 2).length=64/\16<=z.i 8/\z.i 8<=64,mu:=fun z=>(64-z.i 8).toNat,alts:=[⟨.exit 2,W7,OD⟩],post:=fun z y=>v8 y=v8 z/\y.g 1=z.g 1/\(y.g 2).length=64/\y.g 2=AY (64-z.i 8).toNat (z.i 8) (z.g 2)}
def Q2:List BSh:=[.cells 222 NI,.arr 9 106 1,.arr 9 106 2,.cells 222 UT]
def WE:List (Nat×Sa):=[(0,.c (.p 0)),(2,.c (.p 1)),(6,.c (.p 2)),(13,.c (.p 3))]
def vE(p:Sy):LSpec:={tmps:=[(0,.c (.p 0)),(2,.c (.p 1)),(6,.c (.p 2)),(13,.c (.p 3)),(77,.c (.i .i64 77))],blk:=Q2,inv:=fun z=>(z.g 1).length=64/\(z.g 2).length=64/\0<=z.i 77/\z.i 77<=64,mu:=fun z=>(64-z.i 77).toNat,alts:=[⟨.exit 4,WE,Q2⟩],post:=fun z y=>v8 y=v8 z/\y.g 1=z.g 1/\Ew y=AZ (z.g 1) (z.g 2) (64-z.i 77).toNat (z.i 77) (Ew z)}
def Kn:FSpec:={args:=[.c (.p 0),.c (.vb 1),.c (.p 1)],blk:=[.cells 222 NI,.arr 9 106 2],pre:=fun z=>64<=(z.s 1).length/\(z.g 2).length=64,res:=fun z=>.tu [],out:=fun z=>[.cells 222 NI,.arr 9 106 2],post:=fun z y=>y.g 2=z.g 2/\v8 y=lP (z.g 2) (z.s 1) (v8 z)}
def V7:List Sh:=List.replicate 32 (.pi .u8 0)
def UU:List BSh:=[.cells 222 NI,.arr 9 106 2,.cells 38 V7]
def W8:List (Nat×Sa):=[(0,.c (.vb 6)),(2,.c (.p 2)),(3,.c (.p 0)),(4,.c (.p 1)),(5,.c (.vb 5))]
def BY(p:Sy):LSpec:={tmps:=W8,blk:=UU,inv:=fun z=>z.g 2=KG,mu:=fun z=>(z.s 5).length,alts:=[⟨.exit 0,W8,UU⟩],post:=fun z y=>y.s 6=z.s 6/\y.g 2=KG/\v8 y=fQ KG (z.s 5) (v8 z)/\y.s 5=b_ (z.s 5)/\(y.s 5).length<64}
def Q3:List BSh:=[.cells 222 NI,.arr 9 106 2,.cells 38 V7,.arb 224 7]
def BZ(p:Sy):LSpec:={tmps:=[(2,.c (.p 2)),(3,.c (.p 0)),(4,.c (.p 1)),(6,.c (.p 3)),(8,.c (.i .i64 8)),(9,.c (.i .u64 9)),(35,.c (.i .i64 20))],blk:=Q3,inv:=fun z=>z.g 2=KG/\(z.s 7).length=128/\(z.i 8=64∨z.i 8=128)/\0<=z.i 20/\z.i 20<=8,mu:=fun z=>(8-z.i 20).toNat,alts:=[⟨.exit 2,[(2,.c (.p 2)),(3,.c (.p 0)),(4,.c (.p 1)),(6,.c (.p 3)),(8,.c (.i .i64 8))],Q3⟩],post:=fun z y=>y.g 2=KG/\v8 y=v8 z/\y.i 8=z.i 8/\(y.s 7).length=128/\y.s 7=qP (z.i 8) (z.i 9) (z.i 20) (z.s 7)}
def Sg:FSpec:={args:=[.c (.vb 1)],blk:=[],pre:=fun z=>(z.s 1).length<=1000000000,res:=fun z=>.one (.ag (W6 (fS (z.s 1)))),out:=fun _=>[],post:=fun z y=>True}
end
theorem Ko(z:Sy)(hA:BX.pre z):Fm.den ((.an ((0:Int)<=z.i 2) (.an ((0:Int)<=(32-z.i 2)%18446744073709551616) (.an (Go.IntKind.u32.wrap (Int.ofNat ((aL (aj Go.IntKind.u32) (z.i 1/(↑(2 ^ Min.min (z.i 2).toNat (aY Go.IntKind.u32)):Int))).lor (aL (aj Go.IntKind.u32) (z.i 1 * (↑(2 ^ Min.min ((32-z.i 2)%18446744073709551616).toNat (aY Go.IntKind.u32)):Int)%4294967296))))=hU (z.i 1) (z.i 2)/\True) (.at (True)))))):=by
 dsimp only [BX,zB] at hA
 repeat' with_reducible first|intro _|apply aV|apply aZ|apply aT|apply bf|apply ba
 all_goals first|omega|(repeat' first|refine And.intro ?_ ?_|intro _) <;> first|omega|rfl|grind [am,ai,ah]
theorem Ey:Ok Tryz.prog 78 BX:=bS 1000 mN eN lN (hn:=.nil) Ko
theorem OE(z:Sy)(hA:Km.pre z):Fm.den (let v0:=(aj Go.IntKind.u32);let v1:=(↑(z.s 1).length:Int);(.an ((0:Int)<=0/\0<v1) (.an ((0:Int)<=1/\1<v1) (.an ((0:Int)<=2/\2<v1) (.an ((0:Int)<=3/\3<v1) (.an (Go.IntKind.u32.wrap (Int.ofNat ((aL v0 (Go.IntKind.u32.wrap (Int.ofNat ((aL v0 (Go.IntKind.u32.wrap (Int.ofNat ((aL v0 ((↑((z.s 1).getD (Int.toNat 0) 0):Int)%4294967296 * 16777216%4294967296)).lor (aL v0 ((↑((z.s 1).getD (Int.toNat 1) 0):Int)%4294967296 * 65536%4294967296)))))).lor (aL v0 ((↑((z.s 1).getD (Int.toNat 2) 0):Int)%4294967296 * 256%4294967296)))))).lor (aL v0 ((↑((z.s 1).getD (Int.toNat 3) 0):Int)%4294967296))))=Ua (lw (z.s 1) 0) (lw (z.s 1) 1) (lw (z.s 1) 2) (lw (z.s 1) 3)/\True) (.at (True)))))))):=by
 dsimp only [Km] at hA
 conv=>zeta
 repeat' with_reducible first|intro _|apply aV|apply aZ|apply aT|apply bf|apply ba
 all_goals first|omega|(repeat' first|refine And.intro ?_ ?_|intro _) <;> first|omega|rfl|grind [am,ai,ah]
theorem Si:Ok Tryz.prog 198 Km:=bS 1000 mN eN lN (hn:=.nil) OE
theorem GK(p z:Sy)(hA:(vC p).inv z):Fm.den (let v2:=(↑(z.s 3).length:Int);let v0:=(List.drop (4 * z.i 20).toNat (List.take v2.toNat (z.s 3)));let v1:=((z.g 2).set (z.i 20).toNat (G.node [G.int (Ua (lw v0 0) (lw v0 1) (lw v0 2) (lw v0 3))]));let v3:=(-9223372036854775808:Int);(.two (z.i 20<16) (.an (v3<=4 * z.i 20/\(4:Int) * z.i 20<=9223372036854775807) (.an ((0:Int)<=4 * z.i 20/\4 * z.i 20<=v2/\v2<=v2) (.ct (4<=v0.length) (fun y0=>True) fun y0=>(.an ((0:Int)<=z.i 20/\z.i 20<64) (.an (0<(z.g 2).length) (.an ((z.i 20).toNat<(z.g 2).length/\True) (.an (v3<=z.i 20+1/\z.i 20+1<=9223372036854775807) (.an (0<v1.length/\0<(z.g 1).length/\True) (.at ((64<=(z.s 3).length/\(z.g 1).length=64/\v1.length=64/\(0:Int)<=z.i 20+1/\z.i 20+1<=16)/\((16:Int)-(z.i 20+1)).toNat<(16-z.i 20).toNat/\∀(y:Sy),V8.mk (y.i 30) (y.i 31) (y.i 32) (y.i 33) (y.i 34) (y.i 35) (y.i 36) (y.i 37)=V8.mk (z.i 30) (z.i 31) (z.i 32) (z.i 33) (z.i 34) (z.i 35) (z.i 36) (z.i 37)/\y.g 1=z.g 1/\(y.g 2).length=64/\y.g 2=tI (z.s 3) (16-(z.i 20+1)).toNat (z.i 20+1) v1->V8.mk (y.i 30) (y.i 31) (y.i 32) (y.i 33) (y.i 34) (y.i 35) (y.i 36) (y.i 37)=V8.mk (z.i 30) (z.i 31) (z.i 32) (z.i 33) (z.i 34) (z.i 35) (z.i 36) (z.i 37)/\y.g 1=z.g 1/\(y.g 2).length=64/\y.g 2=tI (z.s 3) ((16:Int)-z.i 20).toNat (z.i 20) (z.g 2))))))))))) (.an (0<(z.g 2).length/\0<(z.g 1).length/\True) (.at (V8.mk (z.i 30) (z.i 31) (z.i 32) (z.i 33) (z.i 34) (z.i 35) (z.i 36) (z.i 37)=V8.mk (z.i 30) (z.i 31) (z.i 32) (z.i 33) (z.i 34) (z.i 35) (z.i 36) (z.i 37)/\z.g 1=z.g 1/\(z.g 2).length=64/\z.g 2=tI (z.s 3) ((16:Int)-z.i 20).toNat (z.i 20) (z.g 2)))))):=by
 dsimp only [vC,v8] at hA
 have e1:=@Kl (z.s 3) (z.i 20)
 have e2:=@zy (z.s 3) (z.i 20) (z.g 2)
 have e3:=@Et (z.s 3) (z.i 20) (z.g 2)
 conv=>zeta
 repeat' with_reducible first|intro _|apply aV|apply aZ|apply aT|apply bf|apply ba
 all_goals first|omega|(repeat' first|refine And.intro ?_ ?_|intro _) <;> first|omega|rfl|grind [am,ai,ah,List.append_assoc,List.length_append,List.length_cons,List.length_nil,List.append_cancel_left_eq,List.cons.injEq,sx]
theorem Kp:dU Tryz.prog 140 0 vC:=bH 1000 mN (eK Si eN) lN (hn:=(hC 5 41)) GK
theorem OF(z:Sy)(hA:zB.pre z):Fm.den ((.an ((0:Int)<=z.i 2) (.an ((0:Int)<=(32-z.i 2)%18446744073709551616) (.an (Go.IntKind.u32.wrap (Int.ofNat ((aL (aj Go.IntKind.u32) (z.i 1/(↑(2 ^ Min.min (z.i 2).toNat (aY Go.IntKind.u32)):Int))).lor (aL (aj Go.IntKind.u32) (z.i 1 * (↑(2 ^ Min.min ((32-z.i 2)%18446744073709551616).toNat (aY Go.IntKind.u32)):Int)%4294967296))))=hU (z.i 1) (z.i 2)/\True) (.at (True)))))):=by
 dsimp only [zB] at hA
 repeat' with_reducible first|intro _|apply aV|apply aZ|apply aT|apply bf|apply ba
 all_goals first|omega|(repeat' first|refine And.intro ?_ ?_|intro _) <;> first|omega|rfl|grind [am,ai,ah]
theorem Kq:Ok Tryz.prog 199 zB:=bS 1000 mN eN lN (hn:=.nil) OF
theorem GL(p z:Sy)(hA:(vD p).inv z):Fm.den (let v1:=(aj Go.IntKind.u32);let v2:=(-9223372036854775808:Int);let v3:=(aa (aq (z.g 2) (z.i 8-15).toNat) 0);let v4:=(aa (aq (z.g 2) (z.i 8-2).toNat) 0);let v0:=((z.g 2).set (z.i 8).toNat (G.node [G.int ((((gI (aa (aq (z.g 2) (z.i 8-(16:Int)).toNat) 0)+Go.IntKind.u32.wrap (Int.ofNat ((aL v1 (Go.IntKind.u32.wrap (Int.ofNat ((aL v1 (hU (gI v3) 7)).xor (aL v1 (hU (gI v3) 18)))))).xor (aL v1 (gI v3/8)))))%4294967296+gI (aa (aq (z.g 2) (z.i 8-7).toNat) 0))%4294967296+Go.IntKind.u32.wrap (Int.ofNat ((aL v1 (Go.IntKind.u32.wrap (Int.ofNat ((aL v1 (hU (gI v4) 17)).xor (aL v1 (hU (gI v4) 19)))))).xor (aL v1 (gI v4/1024)))))%4294967296)]));let v5:=(0<(z.g 2).length);let v6:=(64:Int);(.two (z.i 8<64) (.an (v2<=z.i 8-15/\z.i 8-15<=9223372036854775807) (.an ((0:Int)<=z.i 8-15/\z.i 8-15<64) (.an v5 (.an ((z.i 8-15).toNat<(z.g 2).length) (.an (v2<=z.i 8-2/\z.i 8-2<=9223372036854775807) (.an ((0:Int)<=z.i 8-2/\z.i 8-2<64) (.an v5 (.an ((z.i 8-2).toNat<(z.g 2).length) (.ct ((0:Int)<=7) (fun y0=>True) fun y0=>(.ct ((0:Int)<=18) (fun y1=>True) fun y1=>(.ct ((0:Int)<=17) (fun y2=>True) fun y2=>(.ct ((0:Int)<=19) (fun y3=>True) fun y3=>(.an (v2<=z.i 8-16/\z.i 8-16<=9223372036854775807) (.an ((0:Int)<=z.i 8-16/\z.i 8-16<64) (.an v5 (.an ((z.i 8-16).toNat<(z.g 2).length) (.an (v2<=z.i 8-7/\z.i 8-7<=9223372036854775807) (.an ((0:Int)<=z.i 8-7/\z.i 8-7<64) (.an v5 (.an ((z.i 8-7).toNat<(z.g 2).length) (.an ((0:Int)<=z.i 8/\z.i 8<64) (.an v5 (.an ((z.i 8).toNat<(z.g 2).length/\True) (.an (v2<=z.i 8+1/\z.i 8+1<=9223372036854775807) (.an (0<v0.length/\0<(z.g 1).length/\True) (.at (((z.g 1).length=64/\v0.length=64/\(16:Int)<=z.i 8+1/\z.i 8+1<=64)/\(v6-(z.i 8+1)).toNat<(64-z.i 8).toNat/\∀(y:Sy),V8.mk (y.i 30) (y.i 31) (y.i 32) (y.i 33) (y.i 34) (y.i 35) (y.i 36) (y.i 37)=V8.mk (z.i 30) (z.i 31) (z.i 32) (z.i 33) (z.i 34) (z.i 35) (z.i 36) (z.i 37)/\y.g 1=z.g 1/\(y.g 2).length=64/\y.g 2=AY (v6-(z.i 8+1)).toNat (z.i 8+1) ((z.g 2).set (z.i 8).toNat (G.node [G.int ((((gI (aa (aq (z.g 2) (z.i 8-16).toNat) 0)+Go.IntKind.u32.wrap (Int.ofNat ((aL v1 (Go.IntKind.u32.wrap (Int.ofNat ((aL v1 (hU (gI v3) 7)).xor (aL v1 (hU (gI v3) 18)))))).xor (aL v1 (gI v3/8)))))%4294967296+gI (aa (aq (z.g 2) (z.i 8-7).toNat) 0))%4294967296+Go.IntKind.u32.wrap (Int.ofNat ((aL v1 (Go.IntKind.u32.wrap (Int.ofNat ((aL v1 (hU (gI v4) 17)).xor (aL v1 (hU (gI v4) 19)))))).xor (aL v1 (gI v4/1024)))))%4294967296)]))->V8.mk (y.i 30) (y.i 31) (y.i 32) (y.i 33) (y.i 34) (y.i 35) (y.i 36) (y.i 37)=V8.mk (z.i 30) (z.i 31) (z.i 32) (z.i 33) (z.i 34) (z.i 35) (z.i 36) (z.i 37)/\y.g 1=z.g 1/\(y.g 2).length=64/\y.g 2=AY (v6-z.i 8).toNat (z.i 8) (z.g 2)))))))))))))))))))))))))))) (.an (0<(z.g 2).length/\0<(z.g 1).length/\True) (.at (V8.mk (z.i 30) (z.i 31) (z.i 32) (z.i 33) (z.i 34) (z.i 35) (z.i 36) (z.i 37)=V8.mk (z.i 30) (z.i 31) (z.i 32) (z.i 33) (z.i 34) (z.i 35) (z.i 36) (z.i 37)/\z.g 1=z.g 1/\(z.g 2).length=64/\z.g 2=AY (v6-z.i 8).toNat (z.i 8) (z.g 2)))))):=by
 dsimp only [vD,v8] at hA
 have e2:=@zz (z.i 8) (z.g 2)
 have e3:=@Eu (z.i 8) (z.g 2)
 dsimp only [sx,V6,vB,dr] at e2
 conv=>zeta
 repeat' with_reducible first|intro _|apply aV|apply aZ|apply aT|apply bf|apply ba
 all_goals first|omega|(repeat' first|refine And.intro ?_ ?_|intro _) <;> first|omega|rfl|grind [am,ai,ah,List.append_assoc,List.length_append,List.length_cons,List.length_nil,List.append_cancel_left_eq,List.cons.injEq]
theorem Kr:dU Tryz.prog 140 2 vD:=bH 1000 mN (eK Kq eN) lN (hn:=(hC 8 2729)) GL
theorem GM(p z:Sy)(hA:(vE p).inv z):Fm.den (let v1:=(aj Go.IntKind.u32);let v0:=((((z.i 47+Go.IntKind.u32.wrap (Int.ofNat ((aL v1 (Go.IntKind.u32.wrap (Int.ofNat ((aL v1 (hU (z.i 44) 6)).xor (aL v1 (hU (z.i 44) 11)))))).xor (aL v1 (hU (z.i 44) 25)))))%4294967296+Go.IntKind.u32.wrap (Int.ofNat ((aL v1 (Go.IntKind.u32.wrap (Int.ofNat ((aL v1 (z.i 44)).land (aL v1 (z.i 45)))))).xor (aL v1 (Go.IntKind.u32.wrap (Int.ofNat ((aL v1 (Go.IntKind.u32.wrap (Int.ofNat ((aL v1 (if Go.IntKind.u32.signed=true then(-1) else Go.IntKind.u32.max)).xor (aL v1 (z.i 44)))))).land (aL v1 (z.i 46)))))))))%4294967296+gI (aa (aq (z.g 1) (z.i 77).toNat) 0))%4294967296+gI (aa (aq (z.g 2) (z.i 77).toNat) 0));let v2:=(V8.mk (z.i 40) (z.i 41) (z.i 42) (z.i 43) (z.i 44) (z.i 45) (z.i 46) (z.i 47));let v3:=(0<(z.g 2).length/\0<(z.g 1).length/\True);let v4:=((0:Int)<=z.i 77/\z.i 77<64);let v5:=((64:Int)-(z.i 77+1));(.two (z.i 77<64) (.ct ((0:Int)<=6) (fun y0=>True) fun y0=>(.ct ((0:Int)<=11) (fun y1=>True) fun y1=>(.ct ((0:Int)<=25) (fun y2=>True) fun y2=>(.an v4 (.an (0<(z.g 1).length) (.an ((z.i 77).toNat<(z.g 1).length) (.an v4 (.an (0<(z.g 2).length) (.an ((z.i 77).toNat<(z.g 2).length) (.ct ((0:Int)<=2) (fun y3=>True) fun y3=>(.ct ((0:Int)<=13) (fun y4=>True) fun y4=>(.ct ((0:Int)<=22) (fun y5=>True) fun y5=>(.an ((-9223372036854775808:Int)<=z.i 77+1/\z.i 77+1<=9223372036854775807) (.an v3 (.at (((z.g 1).length=64/\(z.g 2).length=64/\(0:Int)<=z.i 77+1/\z.i 77+1<=64)/\v5.toNat<(64-z.i 77).toNat/\∀(y:Sy),V8.mk (y.i 30) (y.i 31) (y.i 32) (y.i 33) (y.i 34) (y.i 35) (y.i 36) (y.i 37)=V8.mk (z.i 30) (z.i 31) (z.i 32) (z.i 33) (z.i 34) (z.i 35) (z.i 36) (z.i 37)/\y.g 1=z.g 1/\V8.mk (y.i 40) (y.i 41) (y.i 42) (y.i 43) (y.i 44) (y.i 45) (y.i 46) (y.i 47)=AZ (z.g 1) (z.g 2) v5.toNat (z.i 77+1) (V8.mk ((v0%4294967296+(Go.IntKind.u32.wrap (Int.ofNat ((aL v1 (Go.IntKind.u32.wrap (Int.ofNat ((aL v1 (hU (z.i 40) 2)).xor (aL v1 (hU (z.i 40) 13)))))).xor (aL v1 (hU (z.i 40) 22))))+Go.IntKind.u32.wrap (Int.ofNat ((aL v1 (Go.IntKind.u32.wrap (Int.ofNat ((aL v1 (Go.IntKind.u32.wrap (Int.ofNat ((aL v1 (z.i 40)).land (aL v1 (z.i 41)))))).xor (aL v1 (Go.IntKind.u32.wrap (Int.ofNat ((aL v1 (z.i 40)).land (aL v1 (z.i 42)))))))))).xor (aL v1 (Go.IntKind.u32.wrap (Int.ofNat ((aL v1 (z.i 41)).land (aL v1 (z.i 42)))))))))%4294967296)%4294967296) (z.i 40) (z.i 41) (z.i 42) ((z.i 43+v0%4294967296)%4294967296) (z.i 44) (z.i 45) (z.i 46))->V8.mk (y.i 30) (y.i 31) (y.i 32) (y.i 33) (y.i 34) (y.i 35) (y.i 36) (y.i 37)=V8.mk (z.i 30) (z.i 31) (z.i 32) (z.i 33) (z.i 34) (z.i 35) (z.i 36) (z.i 37)/\y.g 1=z.g 1/\V8.mk (y.i 40) (y.i 41) (y.i 42) (y.i 43) (y.i 44) (y.i 45) (y.i 46) (y.i 47)=AZ (z.g 1) (z.g 2) ((64:Int)-z.i 77).toNat (z.i 77) v2)))))))))))))))) (.an v3 (.at (V8.mk (z.i 30) (z.i 31) (z.i 32) (z.i 33) (z.i 34) (z.i 35) (z.i 36) (z.i 37)=V8.mk (z.i 30) (z.i 31) (z.i 32) (z.i 33) (z.i 34) (z.i 35) (z.i 36) (z.i 37)/\z.g 1=z.g 1/\V8.mk (z.i 40) (z.i 41) (z.i 42) (z.i 43) (z.i 44) (z.i 45) (z.i 46) (z.i 47)=AZ (z.g 1) (z.g 2) ((64:Int)-z.i 77).toNat (z.i 77) v2))))):=by
 dsimp only [vE,v8,Ew] at hA
 have e2:=@zA (z.g 1) (z.g 2) (z.i 77) (Ew z)
 have e3:=@Ev (z.g 1) (z.g 2) (z.i 77) (Ew z)
 dsimp only [Ew,dS,rt,ru,vB,dr,kC,BW] at e2 e3
 conv=>zeta
 repeat' with_reducible first|intro _|apply aV|apply aZ|apply aT|apply bf|apply ba
 all_goals first|omega|(repeat' first|refine And.intro ?_ ?_|intro _) <;> first|omega|rfl|grind [am,ai,ah,List.append_assoc,List.length_append,List.length_cons,List.length_nil,List.append_cancel_left_eq,List.cons.injEq]
theorem Ks:dU Tryz.prog 140 4 vE:=bH 1000 mN (eK Kq eN) lN (hn:=(.both (.yes .nil) .nil)) GM
theorem OG(z:Sy)(hA:Kn.pre z):Fm.den (let vxg:=G.node [G.int 0];(.an (64=64/bp (cK 9)) (.cl ((0<64/\0<(z.g 2).length/\True)) (64<=(z.s 1).length/\(z.g 2).length=64/\64=64/\(0:Int)<=0/\(0:Int)<=16) (fun y0=>V8.mk (y0.i 30) (y0.i 31) (y0.i 32) (y0.i 33) (y0.i 34) (y0.i 35) (y0.i 36) (y0.i 37)=V8.mk (z.i 30) (z.i 31) (z.i 32) (z.i 33) (z.i 34) (z.i 35) (z.i 36) (z.i 37)/\y0.g 1=z.g 2/\(y0.g 2).length=64/\y0.g 2=tI (z.s 1) ((16:Int)-0).toNat 0 [vxg,vxg,vxg,vxg,vxg,vxg,vxg,vxg,vxg,vxg,vxg,vxg,vxg,vxg,vxg,vxg,vxg,vxg,vxg,vxg,vxg,vxg,vxg,vxg,vxg,vxg,vxg,vxg,vxg,vxg,vxg,vxg,vxg,vxg,vxg,vxg,vxg,vxg,vxg,vxg,vxg,vxg,vxg,vxg,vxg,vxg,vxg,vxg,vxg,vxg,vxg,vxg,vxg,vxg,vxg,vxg,vxg,vxg,vxg,vxg,vxg,vxg,vxg,vxg]) fun y0=>(.cl ((0<(y0.g 2).length/\0<(y0.g 1).length/\True)) ((y0.g 1).length=64/\(y0.g 2).length=64/\(16:Int)<=16/\(16:Int)<=64) (fun y1=>V8.mk (y1.i 30) (y1.i 31) (y1.i 32) (y1.i 33) (y1.i 34) (y1.i 35) (y1.i 36) (y1.i 37)=V8.mk (y0.i 30) (y0.i 31) (y0.i 32) (y0.i 33) (y0.i 34) (y0.i 35) (y0.i 36) (y0.i 37)/\y1.g 1=y0.g 1/\(y1.g 2).length=64/\y1.g 2=AY ((64:Int)-16).toNat 16 (y0.g 2)) fun y1=>(.cl ((0<(y1.g 2).length/\0<(y1.g 1).length/\True)) ((y1.g 1).length=64/\(y1.g 2).length=64/\(0:Int)<=0/\(0:Int)<=64) (fun y2=>V8.mk (y2.i 30) (y2.i 31) (y2.i 32) (y2.i 33) (y2.i 34) (y2.i 35) (y2.i 36) (y2.i 37)=V8.mk (y1.i 30) (y1.i 31) (y1.i 32) (y1.i 33) (y1.i 34) (y1.i 35) (y1.i 36) (y1.i 37)/\y2.g 1=y1.g 1/\V8.mk (y2.i 40) (y2.i 41) (y2.i 42) (y2.i 43) (y2.i 44) (y2.i 45) (y2.i 46) (y2.i 47)=AZ (y1.g 1) (y1.g 2) ((64:Int)-0).toNat 0 (V8.mk (y1.i 30) (y1.i 31) (y1.i 32) (y1.i 33) (y1.i 34) (y1.i 35) (y1.i 36) (y1.i 37))) fun y2=>(.an (0<(y2.g 1).length/\True) (.at (y2.g 1=z.g 2/\V8.mk ((y2.i 30+y2.i 40)%(4294967296:Int)) ((y2.i 31+y2.i 41)%4294967296) ((y2.i 32+y2.i 42)%4294967296) ((y2.i 33+y2.i 43)%4294967296) ((y2.i 34+y2.i 44)%4294967296) ((y2.i 35+y2.i 45)%4294967296) ((y2.i 36+y2.i 46)%4294967296) ((y2.i 37+y2.i 47)%4294967296)=lP (z.g 2) (z.s 1) (V8.mk (z.i 30) (z.i 31) (z.i 32) (z.i 33) (z.i 34) (z.i 35) (z.i 36) (z.i 37)))))))))):=by
 dsimp only [Kn,v8] at hA
 conv=>zeta
 repeat' with_reducible first|intro _|apply aV|apply aZ|apply aT|apply bf|apply ba
 all_goals first|omega|rfl|(exact qN (by assumption) (by assumption) (by assumption))|grind [am,ai,ah,List.append_assoc,List.length_append,List.length_cons,List.length_nil,List.append_cancel_left_eq,List.cons.injEq]
theorem Kt:Ok Tryz.prog 140 Kn:=bS 1000 mN eN (eL (ptm:=[]) Kp (eL (ptm:=[]) Kr (eL (ptm:=[]) Ks lN))) (hn:=.nil) OG
theorem Ku(p z:Sy)(hA:(BY p).inv z):Fm.den (let vx:=(0:Int)=0;let v0:=(V8.mk (z.i 30) (z.i 31) (z.i 32) (z.i 33) (z.i 34) (z.i 35) (z.i 36) (z.i 37));let v2:=(↑(z.s 5).length:Int);let v1:=(List.drop (Int.toNat 64) (List.take v2.toNat (z.s 5)));(.two (64<=v2) (.cl ((0<(z.g 2).length/\True)) (64<=(z.s 5).length/\(z.g 2).length=64) (fun y0=>y0.g 2=z.g 2/\V8.mk (y0.i 30) (y0.i 31) (y0.i 32) (y0.i 33) (y0.i 34) (y0.i 35) (y0.i 36) (y0.i 37)=lP (z.g 2) (z.s 5) v0) fun y0=>(.an ((0:Int)<=64/\64<=v2/\v2<=v2) (.an (vx/\vx/\vx/\vx/\vx/\vx/\vx/\vx/\vx/\vx/\vx/\vx/\vx/\vx/\vx/\vx/\vx/\vx/\vx/\vx/\vx/\vx/\vx/\vx/\vx/\vx/\vx/\vx/\vx/\vx/\vx/\vx/\0<(y0.g 2).length/\True) (.at (y0.g 2=KG/\v1.length<(z.s 5).length/\∀(y:Sy),y.s 6=z.s 6/\y.g 2=KG/\V8.mk (y.i 30) (y.i 31) (y.i 32) (y.i 33) (y.i 34) (y.i 35) (y.i 36) (y.i 37)=fQ KG v1 (V8.mk (y0.i 30) (y0.i 31) (y0.i 32) (y0.i 33) (y0.i 34) (y0.i 35) (y0.i 36) (y0.i 37))/\y.s 5=b_ v1/\(y.s 5).length<64->y.s 6=z.s 6/\y.g 2=KG/\V8.mk (y.i 30) (y.i 31) (y.i 32) (y.i 33) (y.i 34) (y.i 35) (y.i 36) (y.i 37)=fQ KG (z.s 5) v0/\y.s 5=b_ (z.s 5)/\(y.s 5).length<64))))) (.an (vx/\vx/\vx/\vx/\vx/\vx/\vx/\vx/\vx/\vx/\vx/\vx/\vx/\vx/\vx/\vx/\vx/\vx/\vx/\vx/\vx/\vx/\vx/\vx/\vx/\vx/\vx/\vx/\vx/\vx/\vx/\vx/\0<(z.g 2).length/\True) (.at (z.s 6=z.s 6/\z.g 2=KG/\V8.mk (z.i 30) (z.i 31) (z.i 32) (z.i 33) (z.i 34) (z.i 35) (z.i 36) (z.i 37)=fQ KG (z.s 5) v0/\z.s 5=b_ (z.s 5)/\(z.s 5).length<64))))):=by
 dsimp only [BY,v8] at hA
 have e1:=@ez KG (z.s 5) (v8 z)
 have e2:=@hY KG (z.s 5) (v8 z)
 have e3:=@nM (z.s 5)
 have e4:=@qO (z.s 5)
 have e5:KG.length=64:=rfl
 dsimp only [v8] at e1 e2
 conv=>zeta
 repeat' with_reducible first|intro _|apply aV|apply aZ|apply aT|apply bf|apply ba
 all_goals first|omega|rfl|grind [am,ai,ah,List.append_assoc,List.length_append,List.length_cons,List.length_nil,List.append_cancel_left_eq,List.cons.injEq]
theorem OH:dU Tryz.prog 69 0 BY:=bH 1000 mN (eK Kt eN) lN (hn:=(.both .nil .nil)) Ku
theorem Kv(p z:Sy)(hA:(BZ p).inv z):Fm.den (let vx:=(0:Int)=0;let v0:=((z.s 7).set (z.i 8-1-z.i 20).toNat (z.i 9/(↑(2 ^ Min.min (8 * z.i 20).toNat (aY Go.IntKind.u64)):Int)%256).toNat);let v1:=(-9223372036854775808:Int);(.two (z.i 20<8) (.an (v1<=z.i 8-1/\z.i 8-1<=9223372036854775807) (.an (v1<=z.i 8-1-z.i 20/\z.i 8-1-z.i 20<=9223372036854775807) (.an (v1<=8 * z.i 20/\(8:Int) * z.i 20<=9223372036854775807) (.an ((0:Int)<=8 * z.i 20) (.an ((0:Int)<=z.i 8-1-z.i 20/\z.i 8-1-z.i 20<128) (.an (0<(z.s 7).length) (.an ((z.i 8-1-z.i 20).toNat<(z.s 7).length/\0<=z.i 9/(↑(2 ^ Min.min (8 * z.i 20).toNat (aY Go.IntKind.u64)):Int)%256) (.an (v1<=z.i 20+1/\z.i 20+1<=9223372036854775807) (.an (0<v0.length/\vx/\vx/\vx/\vx/\vx/\vx/\vx/\vx/\vx/\vx/\vx/\vx/\vx/\vx/\vx/\vx/\vx/\vx/\vx/\vx/\vx/\vx/\vx/\vx/\vx/\vx/\vx/\vx/\vx/\vx/\vx/\vx/\0<(z.g 2).length/\True) (.at ((z.g 2=KG/\v0.length=128/\(z.i 8=64∨z.i 8=128)/\(0:Int)<=z.i 20+1/\z.i 20+1<=8)/\((8:Int)-(z.i 20+1)).toNat<(8-z.i 20).toNat/\∀(y:Sy),y.g 2=KG/\V8.mk (y.i 30) (y.i 31) (y.i 32) (y.i 33) (y.i 34) (y.i 35) (y.i 36) (y.i 37)=V8.mk (z.i 30) (z.i 31) (z.i 32) (z.i 33) (z.i 34) (z.i 35) (z.i 36) (z.i 37)/\y.i 8=z.i 8/\(y.s 7).length=128/\y.s 7=qP (z.i 8) (z.i 9) (z.i 20+1) v0->y.g 2=KG/\V8.mk (y.i 30) (y.i 31) (y.i 32) (y.i 33) (y.i 34) (y.i 35) (y.i 36) (y.i 37)=V8.mk (z.i 30) (z.i 31) (z.i 32) (z.i 33) (z.i 34) (z.i 35) (z.i 36) (z.i 37)/\y.i 8=z.i 8/\(y.s 7).length=128/\y.s 7=qP (z.i 8) (z.i 9) (z.i 20) (z.s 7)))))))))))) (.an (0<(z.s 7).length/\vx/\vx/\vx/\vx/\vx/\vx/\vx/\vx/\vx/\vx/\vx/\vx/\vx/\vx/\vx/\vx/\vx/\vx/\vx/\vx/\vx/\vx/\vx/\vx/\vx/\vx/\vx/\vx/\vx/\vx/\vx/\vx/\0<(z.g 2).length/\True) (.at (z.g 2=KG/\V8.mk (z.i 30) (z.i 31) (z.i 32) (z.i 33) (z.i 34) (z.i 35) (z.i 36) (z.i 37)=V8.mk (z.i 30) (z.i 31) (z.i 32) (z.i 33) (z.i 34) (z.i 35) (z.i 36) (z.i 37)/\z.i 8=z.i 8/\(z.s 7).length=128/\z.s 7=qP (z.i 8) (z.i 9) (z.i 20) (z.s 7)))))):=by
 dsimp only [BZ,v8] at hA
 have e1:=@GJ (z.i 8) (z.i 9) (z.i 20) (z.s 7)
 have e2:=@Kh (z.i 8) (z.i 9) (z.i 20) (z.s 7)
 have e5:KG.length=64:=rfl
 conv=>zeta
 repeat' with_reducible first|intro _|apply aV|apply aZ|apply aT|apply bf|apply ba
 all_goals first|omega|rfl|grind [am,ai,ah,List.append_assoc,List.length_append,List.length_cons,List.length_nil,List.append_cancel_left_eq,List.cons.injEq]
theorem OI:dU Tryz.prog 69 2 BZ:=bH 1000 mN eN lN (hn:=(hC 7 681)) Kv
theorem Sj(z:Sy)(hA:Sg.pre z):Fm.den (let vx:=(0:Int)=0;let zw:=(0:Int)<=0;let vxn:=Int.toNat 0;let v0:=(fS (z.s 1));let v1:=(Int.toNat 128);let v2:=(Int.toNat (0:Int));let v4:=(64:Int);let v5:=(128:Int);let v3:=(zw/\(0:Int)<=128/\v5<=128);(.an (64=64/bp (cK 9)) (.cl ((vx/\vx/\vx/\vx/\vx/\vx/\vx/\vx/\vx/\vx/\vx/\vx/\vx/\vx/\vx/\vx/\vx/\vx/\vx/\vx/\vx/\vx/\vx/\vx/\vx/\vx/\vx/\vx/\vx/\vx/\vx/\vx/\0<64/\True)) ([G.node [G.int (1116352408:Int)],G.node [G.int 1899447441],G.node [G.int 3049323471],G.node [G.int 3921009573],G.node [G.int 961987163],G.node [G.int 1508970993],G.node [G.int 2453635748],G.node [G.int 2870763221],G.node [G.int 3624381080],G.node [G.int 310598401],G.node [G.int 607225278],G.node [G.int 1426881987],G.node [G.int 1925078388],G.node [G.int 2162078206],G.node [G.int 2614888103],G.node [G.int 3248222580],G.node [G.int 3835390401],G.node [G.int 4022224774],G.node [G.int 264347078],G.node [G.int 604807628],G.node [G.int 770255983],G.node [G.int 1249150122],G.node [G.int 1555081692],G.node [G.int 1996064986],G.node [G.int 2554220882],G.node [G.int 2821834349],G.node [G.int 2952996808],G.node [G.int 3210313671],G.node [G.int 3336571891],G.node [G.int 3584528711],G.node [G.int 113926993],G.node [G.int 338241895],G.node [G.int 666307205],G.node [G.int 773529912],G.node [G.int 1294757372],G.node [G.int 1396182291],G.node [G.int 1695183700],G.node [G.int 1986661051],G.node [G.int 2177026350],G.node [G.int 2456956037],G.node [G.int 2730485921],G.node [G.int 2820302411],G.node [G.int 3259730800],G.node [G.int 3345764771],G.node [G.int 3516065817],G.node [G.int 3600352804],G.node [G.int 4094571909],G.node [G.int 275423344],G.node [G.int 430227734],G.node [G.int 506948616],G.node [G.int 659060556],G.node [G.int 883997877],G.node [G.int 958139571],G.node [G.int 1322822218],G.node [G.int 1537002063],G.node [G.int 1747873779],G.node [G.int 1955562222],G.node [G.int 2024104815],G.node [G.int 2227730452],G.node [G.int 2361852424],G.node [G.int 2428436474],G.node [G.int 2756734187],G.node [G.int 3204031479],G.node [G.int 3329325298]]=KG) (fun y0=>y0.s 6=z.s 1/\y0.g 2=KG/\V8.mk (y0.i 30) (y0.i 31) (y0.i 32) (y0.i 33) (y0.i 34) (y0.i 35) (y0.i 36) (y0.i 37)=fQ KG (z.s 1) (V8.mk (1779033703:Int) 3144134277 1013904242 2773480762 1359893119 2600822924 528734635 1541459225)/\y0.s 5=b_ (z.s 1)/\(y0.s 5).length<64) fun y0=>(let v6:=(List.take 128 (y0.s 5)++List.drop (y0.s 5).length [vxn,vxn,vxn,vxn,vxn,vxn,vxn,vxn,vxn,vxn,vxn,vxn,vxn,vxn,vxn,vxn,vxn,vxn,vxn,vxn,vxn,vxn,vxn,vxn,vxn,vxn,vxn,vxn,vxn,vxn,vxn,vxn,vxn,vxn,vxn,vxn,vxn,vxn,vxn,vxn,vxn,vxn,vxn,vxn,vxn,vxn,vxn,vxn,vxn,vxn,vxn,vxn,vxn,vxn,vxn,vxn,vxn,vxn,vxn,vxn,vxn,vxn,vxn,vxn,vxn,vxn,vxn,vxn,vxn,vxn,vxn,vxn,vxn,vxn,vxn,vxn,vxn,vxn,vxn,vxn,vxn,vxn,vxn,vxn,vxn,vxn,vxn,vxn,vxn,vxn,vxn,vxn,vxn,vxn,vxn,vxn,vxn,vxn,vxn,vxn,vxn,vxn,vxn,vxn,vxn,vxn,vxn,vxn,vxn,vxn,vxn,vxn,vxn,vxn,vxn,vxn,vxn,vxn,vxn,vxn,vxn,vxn,vxn,vxn,vxn,vxn,vxn,vxn]);let v7:=(↑(Min.min (y0.s 5).length 128):Int);let v9:=((↑(y0.s 6).length:Int)%18446744073709551616 * 8%18446744073709551616);let v10:=(v6.set v7.toNat v1);let v8:=((0<v10.length/\vx/\vx/\vx/\vx/\vx/\vx/\vx/\vx/\vx/\vx/\vx/\vx/\vx/\vx/\vx/\vx/\vx/\vx/\vx/\vx/\vx/\vx/\vx/\vx/\vx/\vx/\vx/\vx/\vx/\vx/\vx/\vx/\0<(y0.g 2).length/\True));(.an (zw/\zw/\zw/\zw/\zw/\zw/\zw/\zw/\zw/\zw/\zw/\zw/\zw/\zw/\zw/\zw/\zw/\zw/\zw/\zw/\zw/\zw/\zw/\zw/\zw/\zw/\zw/\zw/\zw/\zw/\zw/\zw/\zw/\zw/\zw/\zw/\zw/\zw/\zw/\zw/\zw/\zw/\zw/\zw/\zw/\zw/\zw/\zw/\zw/\zw/\zw/\zw/\zw/\zw/\zw/\zw/\zw/\zw/\zw/\zw/\zw/\zw/\zw/\zw/\zw/\zw/\zw/\zw/\zw/\zw/\zw/\zw/\zw/\zw/\zw/\zw/\zw/\zw/\zw/\zw/\zw/\zw/\zw/\zw/\zw/\zw/\zw/\zw/\zw/\zw/\zw/\zw/\zw/\zw/\zw/\zw/\zw/\zw/\zw/\zw/\zw/\zw/\zw/\zw/\zw/\zw/\zw/\zw/\zw/\zw/\zw/\zw/\zw/\zw/\zw/\zw/\zw/\zw/\zw/\zw/\zw/\zw/\zw/\zw/\zw/\zw/\zw/\zw/\True) (.an (128=128) (.an (128=128) (.an (0<=v7/\v7<128) (.an (0<(List.take 128 (y0.s 5)++List.drop (y0.s 5).length [Int.toNat (0:Int),vxn,vxn,vxn,vxn,vxn,vxn,vxn,vxn,vxn,vxn,vxn,vxn,vxn,vxn,vxn,vxn,vxn,vxn,vxn,vxn,vxn,vxn,vxn,vxn,vxn,vxn,vxn,vxn,vxn,vxn,vxn,vxn,vxn,vxn,vxn,vxn,vxn,vxn,vxn,vxn,vxn,vxn,vxn,vxn,vxn,vxn,vxn,vxn,vxn,vxn,vxn,vxn,vxn,vxn,vxn,vxn,vxn,vxn,vxn,vxn,vxn,vxn,vxn,vxn,vxn,vxn,vxn,vxn,vxn,vxn,vxn,vxn,vxn,vxn,vxn,vxn,vxn,vxn,vxn,vxn,vxn,vxn,vxn,vxn,vxn,vxn,vxn,vxn,vxn,vxn,vxn,vxn,vxn,vxn,vxn,vxn,vxn,vxn,vxn,vxn,vxn,vxn,vxn,vxn,vxn,vxn,vxn,vxn,vxn,vxn,vxn,vxn,vxn,vxn,vxn,vxn,vxn,vxn,vxn,vxn,vxn,vxn,vxn,vxn,vxn,vxn,vxn]).length) (.an (v7.toNat<v6.length/\(0:Int)<=128) (.two (56<=v7) (.cl v8 (y0.g 2=KG/\v10.length=128/\(v5=64∨v5=128)/\zw/\(0:Int)<=8) (fun y1=>y1.g 2=KG/\V8.mk (y1.i 30) (y1.i 31) (y1.i 32) (y1.i 33) (y1.i 34) (y1.i 35) (y1.i 36) (y1.i 37)=V8.mk (y0.i 30) (y0.i 31) (y0.i 32) (y0.i 33) (y0.i 34) (y0.i 35) (y0.i 36) (y0.i 37)/\y1.i 8=128/\(y1.s 7).length=128/\y1.s 7=qP 128 v9 0 v10) fun y1=>(let v11:=(List.take v1 (y1.s 7));let f8:=(List.drop (Int.toNat v4) v11);(.an ((0:Int)<y1.i 8) (.an ((y1.s 7).length=128) (.an v3 (.cl ((0<(y1.g 2).length/\True)) (64<=(List.drop v2 v11).length/\(y1.g 2).length=64) (fun y2=>y2.g 2=y1.g 2/\V8.mk (y2.i 30) (y2.i 31) (y2.i 32) (y2.i 33) (y2.i 34) (y2.i 35) (y2.i 36) (y2.i 37)=lP (y1.g 2) (List.drop v2 v11) (V8.mk (y1.i 30) (y1.i 31) (y1.i 32) (y1.i 33) (y1.i 34) (y1.i 35) (y1.i 36) (y1.i 37))) fun y2=>(.an (v4<y1.i 8) (.an ((y1.s 7).length=128) (.an ((0:Int)<=64/\v4<=128/\v5<=128) (.cl ((0<(y2.g 2).length/\True)) (64<=f8.length/\(y2.g 2).length=64) (fun y3=>y3.g 2=y2.g 2/\V8.mk (y3.i 30) (y3.i 31) (y3.i 32) (y3.i 33) (y3.i 34) (y3.i 35) (y3.i 36) (y3.i 37)=lP (y2.g 2) f8 (V8.mk (y2.i 30) (y2.i 31) (y2.i 32) (y2.i 33) (y2.i 34) (y2.i 35) (y2.i 36) (y2.i 37))) fun y3=>(.an (¬(v5<y1.i 8)) (.an (y3.i 37%256=hb v0 (nat_lit 31)/\y3.i 37/256%256=hb v0 (nat_lit 30)/\y3.i 37/65536%256=hb v0 (nat_lit 29)/\y3.i 37/16777216%256=hb v0 (nat_lit 28)/\y3.i 36%256=hb v0 (nat_lit 27)/\y3.i 36/256%256=hb v0 (nat_lit 26)/\y3.i 36/65536%256=hb v0 (nat_lit 25)/\y3.i 36/16777216%256=hb v0 (nat_lit 24)/\y3.i 35%256=hb v0 (nat_lit 23)/\y3.i 35/256%256=hb v0 (nat_lit 22)/\y3.i 35/65536%256=hb v0 (nat_lit 21)/\y3.i 35/16777216%256=hb v0 (nat_lit 20)/\y3.i 34%256=hb v0 (nat_lit 19)/\y3.i 34/256%256=hb v0 (nat_lit 18)/\y3.i 34/65536%256=hb v0 (nat_lit 17)/\y3.i 34/16777216%256=hb v0 (nat_lit 16)/\y3.i 33%256=hb v0 (nat_lit 15)/\y3.i 33/256%256=hb v0 (nat_lit 14)/\y3.i 33/65536%256=hb v0 (nat_lit 13)/\y3.i 33/16777216%256=hb v0 (nat_lit 12)/\y3.i 32%256=hb v0 (nat_lit 11)/\y3.i 32/256%256=hb v0 (nat_lit 10)/\y3.i 32/65536%256=hb v0 (nat_lit 9)/\y3.i 32/16777216%256=hb v0 (nat_lit 8)/\y3.i 31%256=hb v0 (nat_lit 7)/\y3.i 31/256%256=hb v0 (nat_lit 6)/\y3.i 31/65536%256=hb v0 (nat_lit 5)/\y3.i 31/16777216%256=hb v0 (nat_lit 4)/\y3.i 30%256=hb v0 (nat_lit 3)/\y3.i 30/256%256=hb v0 (nat_lit 2)/\y3.i 30/65536%256=hb v0 (nat_lit 1)/\y3.i 30/16777216%256=hb v0 (nat_lit 0)/\True) (.at (True)))))))))))))) (.cl v8 (y0.g 2=KG/\v10.length=128/\(v4=64∨v4=128)/\zw/\(0:Int)<=8) (fun y4=>y4.g 2=KG/\V8.mk (y4.i 30) (y4.i 31) (y4.i 32) (y4.i 33) (y4.i 34) (y4.i 35) (y4.i 36) (y4.i 37)=V8.mk (y0.i 30) (y0.i 31) (y0.i 32) (y0.i 33) (y0.i 34) (y0.i 35) (y0.i 36) (y0.i 37)/\y4.i 8=64/\(y4.s 7).length=128/\y4.s 7=qP 64 v9 0 v10) fun y4=>(let g9:=(List.drop v2 (List.take v1 (y4.s 7)));(.an ((0:Int)<y4.i 8) (.an ((y4.s 7).length=128) (.an v3 (.cl ((0<(y4.g 2).length/\True)) (64<=g9.length/\(y4.g 2).length=64) (fun y5=>y5.g 2=y4.g 2/\V8.mk (y5.i 30) (y5.i 31) (y5.i 32) (y5.i 33) (y5.i 34) (y5.i 35) (y5.i 36) (y5.i 37)=lP (y4.g 2) g9 (V8.mk (y4.i 30) (y4.i 31) (y4.i 32) (y4.i 33) (y4.i 34) (y4.i 35) (y4.i 36) (y4.i 37))) fun y5=>(.an (¬(v4<y4.i 8)) (.an (y5.i 37%256=hb v0 (nat_lit 31)/\y5.i 37/256%256=hb v0 (nat_lit 30)/\y5.i 37/65536%256=hb v0 (nat_lit 29)/\y5.i 37/16777216%256=hb v0 (nat_lit 28)/\y5.i 36%256=hb v0 (nat_lit 27)/\y5.i 36/256%256=hb v0 (nat_lit 26)/\y5.i 36/65536%256=hb v0 (nat_lit 25)/\y5.i 36/16777216%256=hb v0 (nat_lit 24)/\y5.i 35%256=hb v0 (nat_lit 23)/\y5.i 35/256%256=hb v0 (nat_lit 22)/\y5.i 35/65536%256=hb v0 (nat_lit 21)/\y5.i 35/16777216%256=hb v0 (nat_lit 20)/\y5.i 34%256=hb v0 (nat_lit 19)/\y5.i 34/256%256=hb v0 (nat_lit 18)/\y5.i 34/65536%256=hb v0 (nat_lit 17)/\y5.i 34/16777216%256=hb v0 (nat_lit 16)/\y5.i 33%256=hb v0 (nat_lit 15)/\y5.i 33/256%256=hb v0 (nat_lit 14)/\y5.i 33/65536%256=hb v0 (nat_lit 13)/\y5.i 33/16777216%256=hb v0 (nat_lit 12)/\y5.i 32%256=hb v0 (nat_lit 11)/\y5.i 32/256%256=hb v0 (nat_lit 10)/\y5.i 32/65536%256=hb v0 (nat_lit 9)/\y5.i 32/16777216%256=hb v0 (nat_lit 8)/\y5.i 31%256=hb v0 (nat_lit 7)/\y5.i 31/256%256=hb v0 (nat_lit 6)/\y5.i 31/65536%256=hb v0 (nat_lit 5)/\y5.i 31/16777216%256=hb v0 (nat_lit 4)/\y5.i 30%256=hb v0 (nat_lit 3)/\y5.i 30/256%256=hb v0 (nat_lit 2)/\y5.i 30/65536%256=hb v0 (nat_lit 1)/\y5.i 30/16777216%256=hb v0 (nat_lit 0)/\True) (.at (True))))))))))))))))))))):=by
 dsimp only [Sg] at hA
 have e5:KG.length=64:=rfl
 conv=>zeta
 repeat' with_reducible first|intro _|apply aV|apply aZ|apply aT|apply bf|apply ba
 all_goals first|omega|rfl|((repeat' first|exact rfl|exact trivial|exact Int.le_refl _|exact(by decide)|refine And.intro ?_ ?_);done)|(rw[←Kj (by assumption) (by assumption) (by assumption) (by assumption) (by assumption)];(repeat' first|exact rfl|exact trivial|refine And.intro ?_ ?_);done)|(rw[←Kk (by assumption) (by assumption) (by assumption) (by assumption)];(repeat' first|exact rfl|exact trivial|refine And.intro ?_ ?_);done)|((obtain⟨e7,e8,e9⟩:=Se (by assumption);unfold ZB at e7;(repeat' first|exact trivial|refine And.intro ?_ ?_) <;> first|exact Sf (by assumption)|(simp only [List.length_set,e7,e8] <;> omega)|omega);done)|grind [am,ai,ah,List.append_assoc,List.length_append,List.length_cons,List.length_nil,List.append_cancel_left_eq,List.cons.injEq]
theorem tJ:Ok Tryz.prog 69 Sg:=bS 1000 mN (eK Kt eN) (eL (ptm:=[]) OH (eL (ptm:=[]) OI lN)) (hn:=(hC 8 14569)) Sj
noncomputable section
def z8:List Sh:=List.replicate 8 (.pi .u32 0)
def OJ:List BSh:=[.cells 105 NI,.arr 9 106 1,.arr 9 106 2,.cells 105 z8]
def W9:List (Nat×Sa):=[(2,.c (.p 1)),(3,.c (.p 0)),(6,.c (.p 3)),(7,.c (.p 2))]
def B0(p:Sy):LSpec:={tmps:=[(2,.c (.p 1)),(3,.c (.p 0)),(6,.c (.p 3)),(7,.c (.p 2)),(1,.c (.vb 3)),(8,.c (.i .i64 20))],blk:=OJ,inv:=fun z=>64<=(z.s 3).length/\(z.g 1).length=64/\(z.g 2).length=64/\0<=z.i 20/\z.i 20<=16,mu:=fun z=>(16-z.i 20).toNat,alts:=[⟨.exit 0,W9,OJ⟩],post:=fun z y=>v8 y=v8 z/\y.g 1=z.g 1/\(y.g 2).length=64/\y.g 2=tI (z.s 3) (16-z.i 20).toNat (z.i 20) (z.g 2)}
def B1(p:Sy):LSpec:={tmps:=[(2,.c (.p 1)),(3,.c (.p 0)),(6,.c (.p 3)),(7,.c (.p 2)),(9,.c (.i .i64 8))],blk:=OJ,inv:=fun z=>(z.g 1).length=64/\(z.g 2).length=64/\16<=z.i 8/\z.i 8<=64,mu:=fun z=>(64-z.i 8).toNat,alts:=[⟨.exit 2,W9,OJ⟩],post:=fun z y=>v8 y=v8 z/\y.g 1=z.g 1/\(y.g 2).length=64/\y.g 2=AY (64-z.i 8).toNat (z.i 8) (z.g 2)}
def Q4:List BSh:=[.cells 105 NI,.arr 9 106 1,.arr 9 106 2,.cells 105 z8,.cells 105 UT]
def WF:List (Nat×Sa):=[(2,.c (.p 1)),(3,.c (.p 0)),(6,.c (.p 3)),(7,.c (.p 2)),(12,.c (.p 4))]
def B2(p:Sy):LSpec:={tmps:=[(2,.c (.p 1)),(3,.c (.p 0)),(6,.c (.p 3)),(7,.c (.p 2)),(12,.c (.p 4)),(13,.c (.i .i64 77))],blk:=Q4,inv:=fun z=>(z.g 1).length=64/\(z.g 2).length=64/\0<=z.i 77/\z.i 77<=64,mu:=fun z=>(64-z.i 77).toNat,alts:=[⟨.exit 4,WF,Q4⟩],post:=fun z y=>v8 y=v8 z/\y.g 1=z.g 1/\Ew y=AZ (z.g 1) (z.g 2) (64-z.i 77).toNat (z.i 77) (Ew z)}
def Sk:FSpec:={args:=[.ag NI,.c (.vb 1),.c (.p 0)],blk:=[.arr 9 106 2],pre:=fun z=>64<=(z.s 1).length/\(z.g 2).length=64,res:=fun z=>.one (.ag (Xt (lP (z.g 2) (z.s 1) (v8 z)))),out:=fun z=>[.arr 9 106 2],post:=fun z y=>y.g 2=z.g 2}
end
theorem Kw(p z:Sy)(hA:(B0 p).inv z):Fm.den (let vx:=(0:Int)=0;let v0:=((z.g 2).set (z.i 20).toNat (G.node [G.int (Go.IntKind.u32.wrap (Int.ofNat ((aL (aj Go.IntKind.u32) (Go.IntKind.u32.wrap (Int.ofNat ((aL (aj Go.IntKind.u32) (Go.IntKind.u32.wrap (Int.ofNat ((aL (aj Go.IntKind.u32) ((↑((z.s 3).getD (4 * z.i 20).toNat 0):Int)%4294967296 * 16777216%4294967296)).lor (aL (aj Go.IntKind.u32) ((↑((z.s 3).getD (4 * z.i 20+1).toNat 0):Int)%4294967296 * 65536%4294967296)))))).lor (aL (aj Go.IntKind.u32) ((↑((z.s 3).getD (4 * z.i 20+2).toNat 0):Int)%4294967296 * 256%4294967296)))))).lor (aL (aj Go.IntKind.u32) ((↑((z.s 3).getD (4 * z.i 20+3).toNat 0):Int)%4294967296)))))]));let v2:=(-9223372036854775808:Int);let v1:=(v2<=4 * z.i 20/\(4:Int) * z.i 20<=9223372036854775807);let v3:=(↑(z.s 3).length:Int);(.two (z.i 20<16) (.an v1 (.an ((0:Int)<=4 * z.i 20/\4 * z.i 20<v3) (.an v1 (.an (v2<=4 * z.i 20+1/\(4:Int) * z.i 20+1<=9223372036854775807) (.an ((0:Int)<=4 * z.i 20+1/\4 * z.i 20+1<v3) (.an v1 (.an (v2<=4 * z.i 20+2/\(4:Int) * z.i 20+2<=9223372036854775807) (.an ((0:Int)<=4 * z.i 20+2/\4 * z.i 20+2<v3) (.an v1 (.an (v2<=4 * z.i 20+3/\(4:Int) * z.i 20+3<=9223372036854775807) (.an ((0:Int)<=4 * z.i 20+3/\4 * z.i 20+3<v3) (.an ((0:Int)<=z.i 20/\z.i 20<64) (.an (0<(z.g 2).length) (.an ((z.i 20).toNat<(z.g 2).length/\True) (.an (v2<=z.i 20+1/\z.i 20+1<=9223372036854775807) (.an (vx/\vx/\vx/\vx/\vx/\vx/\vx/\vx/\0<v0.length/\0<(z.g 1).length/\True) (.at ((64<=(z.s 3).length/\(z.g 1).length=64/\v0.length=64/\(0:Int)<=z.i 20+1/\z.i 20+1<=16)/\((16:Int)-(z.i 20+1)).toNat<(16-z.i 20).toNat/\∀(y:Sy),V8.mk (y.i 30) (y.i 31) (y.i 32) (y.i 33) (y.i 34) (y.i 35) (y.i 36) (y.i 37)=V8.mk (z.i 30) (z.i 31) (z.i 32) (z.i 33) (z.i 34) (z.i 35) (z.i 36) (z.i 37)/\y.g 1=z.g 1/\(y.g 2).length=64/\y.g 2=tI (z.s 3) (16-(z.i 20+1)).toNat (z.i 20+1) v0->V8.mk (y.i 30) (y.i 31) (y.i 32) (y.i 33) (y.i 34) (y.i 35) (y.i 36) (y.i 37)=V8.mk (z.i 30) (z.i 31) (z.i 32) (z.i 33) (z.i 34) (z.i 35) (z.i 36) (z.i 37)/\y.g 1=z.g 1/\(y.g 2).length=64/\y.g 2=tI (z.s 3) ((16:Int)-z.i 20).toNat (z.i 20) (z.g 2))))))))))))))))))) (.an (vx/\vx/\vx/\vx/\vx/\vx/\vx/\vx/\0<(z.g 2).length/\0<(z.g 1).length/\True) (.at (V8.mk (z.i 30) (z.i 31) (z.i 32) (z.i 33) (z.i 34) (z.i 35) (z.i 36) (z.i 37)=V8.mk (z.i 30) (z.i 31) (z.i 32) (z.i 33) (z.i 34) (z.i 35) (z.i 36) (z.i 37)/\z.g 1=z.g 1/\(z.g 2).length=64/\z.g 2=tI (z.s 3) ((16:Int)-z.i 20).toNat (z.i 20) (z.g 2)))))):=by
 dsimp only [B0,v8] at hA
 have e2:=@zy (z.s 3) (z.i 20) (z.g 2)
 have e3:=@Et (z.s 3) (z.i 20) (z.g 2)
 dsimp only [sx,QZ,Ua,lw,Kf] at e2
 conv=>zeta
 repeat' with_reducible first|intro _|apply aV|apply aZ|apply aT|apply bf|apply ba
 all_goals first|omega|grind [am,ai,ah,List.append_assoc,List.length_append,List.length_cons,List.length_nil,List.append_cancel_left_eq,List.cons.injEq,sx]
theorem OK:dU Tryz.prog 40 0 B0:=bH 1000 mN eN lN (hn:=(hC 11 174761)) Kw
theorem Kx(p z:Sy)(hA:(B1 p).inv z):Fm.den (let vx:=(0:Int)=0;let v1:=(aj Go.IntKind.u32);let v2:=(-9223372036854775808:Int);let v3:=(aa (aq (z.g 2) (z.i 8-15).toNat) 0);let v4:=(aa (aq (z.g 2) (z.i 8-2).toNat) 0);let v0:=((z.g 2).set (z.i 8).toNat (G.node [G.int ((((gI (aa (aq (z.g 2) (z.i 8-(16:Int)).toNat) 0)+Go.IntKind.u32.wrap (Int.ofNat ((aL v1 (Go.IntKind.u32.wrap (Int.ofNat ((aL v1 (hU (gI v3) 7)).xor (aL v1 (hU (gI v3) 18)))))).xor (aL v1 (gI v3/8)))))%4294967296+gI (aa (aq (z.g 2) (z.i 8-7).toNat) 0))%4294967296+Go.IntKind.u32.wrap (Int.ofNat ((aL v1 (Go.IntKind.u32.wrap (Int.ofNat ((aL v1 (hU (gI v4) 17)).xor (aL v1 (hU (gI v4) 19)))))).xor (aL v1 (gI v4/1024)))))%4294967296)]));let v5:=(0<(z.g 2).length);let v6:=(64:Int);(.two (z.i 8<64) (.an (v2<=z.i 8-15/\z.i 8-15<=9223372036854775807) (.an ((0:Int)<=z.i 8-15/\z.i 8-15<64) (.an v5 (.an ((z.i 8-15).toNat<(z.g 2).length) (.an (v2<=z.i 8-2/\z.i 8-2<=9223372036854775807) (.an ((0:Int)<=z.i 8-2/\z.i 8-2<64) (.an v5 (.an ((z.i 8-2).toNat<(z.g 2).length) (.an (v2<=z.i 8-16/\z.i 8-16<=9223372036854775807) (.an ((0:Int)<=z.i 8-16/\z.i 8-16<64) (.an v5 (.an ((z.i 8-16).toNat<(z.g 2).length) (.ct ((0:Int)<=7) (fun y0=>True) fun y0=>(.ct ((0:Int)<=18) (fun y1=>True) fun y1=>(.an (v2<=z.i 8-7/\z.i 8-7<=9223372036854775807) (.an ((0:Int)<=z.i 8-7/\z.i 8-7<64) (.an v5 (.an ((z.i 8-7).toNat<(z.g 2).length) (.ct ((0:Int)<=17) (fun y2=>True) fun y2=>(.ct ((0:Int)<=19) (fun y3=>True) fun y3=>(.an ((0:Int)<=z.i 8/\z.i 8<64) (.an v5 (.an ((z.i 8).toNat<(z.g 2).length/\True) (.an (v2<=z.i 8+1/\z.i 8+1<=9223372036854775807) (.an (vx/\vx/\vx/\vx/\vx/\vx/\vx/\vx/\0<v0.length/\0<(z.g 1).length/\True) (.at (((z.g 1).length=64/\v0.length=64/\(16:Int)<=z.i 8+1/\z.i 8+1<=64)/\(v6-(z.i 8+1)).toNat<(64-z.i 8).toNat/\∀(y:Sy),V8.mk (y.i 30) (y.i 31) (y.i 32) (y.i 33) (y.i 34) (y.i 35) (y.i 36) (y.i 37)=V8.mk (z.i 30) (z.i 31) (z.i 32) (z.i 33) (z.i 34) (z.i 35) (z.i 36) (z.i 37)/\y.g 1=z.g 1/\(y.g 2).length=64/\y.g 2=AY (v6-(z.i 8+1)).toNat (z.i 8+1) ((z.g 2).set (z.i 8).toNat (G.node [G.int ((((gI (aa (aq (z.g 2) (z.i 8-16).toNat) 0)+Go.IntKind.u32.wrap (Int.ofNat ((aL v1 (Go.IntKind.u32.wrap (Int.ofNat ((aL v1 (hU (gI v3) 7)).xor (aL v1 (hU (gI v3) 18)))))).xor (aL v1 (gI v3/8)))))%4294967296+gI (aa (aq (z.g 2) (z.i 8-7).toNat) 0))%4294967296+Go.IntKind.u32.wrap (Int.ofNat ((aL v1 (Go.IntKind.u32.wrap (Int.ofNat ((aL v1 (hU (gI v4) 17)).xor (aL v1 (hU (gI v4) 19)))))).xor (aL v1 (gI v4/1024)))))%4294967296)]))->V8.mk (y.i 30) (y.i 31) (y.i 32) (y.i 33) (y.i 34) (y.i 35) (y.i 36) (y.i 37)=V8.mk (z.i 30) (z.i 31) (z.i 32) (z.i 33) (z.i 34) (z.i 35) (z.i 36) (z.i 37)/\y.g 1=z.g 1/\(y.g 2).length=64/\y.g 2=AY (v6-z.i 8).toNat (z.i 8) (z.g 2)))))))))))))))))))))))))))) (.an (vx/\vx/\vx/\vx/\vx/\vx/\vx/\vx/\0<(z.g 2).length/\0<(z.g 1).length/\True) (.at (V8.mk (z.i 30) (z.i 31) (z.i 32) (z.i 33) (z.i 34) (z.i 35) (z.i 36) (z.i 37)=V8.mk (z.i 30) (z.i 31) (z.i 32) (z.i 33) (z.i 34) (z.i 35) (z.i 36) (z.i 37)/\z.g 1=z.g 1/\(z.g 2).length=64/\z.g 2=AY (v6-z.i 8).toNat (z.i 8) (z.g 2)))))):=by
 dsimp only [B1,v8] at hA
 have e2:=@zz (z.i 8) (z.g 2)
 have e3:=@Eu (z.i 8) (z.g 2)
 dsimp only [sx,V6,vB,dr] at e2
 conv=>zeta
 repeat' with_reducible first|intro _|apply aV|apply aZ|apply aT|apply bf|apply ba
 all_goals first|omega|grind [am,ai,ah,List.append_assoc,List.length_append,List.length_cons,List.length_nil,List.append_cancel_left_eq,List.cons.injEq]
theorem OL:dU Tryz.prog 40 2 B1:=bH 1000 mN (eK Ey eN) lN (hn:=(hC 8 2729)) Kx
theorem Ky(p z:Sy)(hA:(B2 p).inv z):Fm.den (let vx:=(0:Int)=0;let v1:=(aj Go.IntKind.u32);let v0:=((((z.i 47+Go.IntKind.u32.wrap (Int.ofNat ((aL v1 (Go.IntKind.u32.wrap (Int.ofNat ((aL v1 (hU (z.i 44) 6)).xor (aL v1 (hU (z.i 44) 11)))))).xor (aL v1 (hU (z.i 44) 25)))))%4294967296+Go.IntKind.u32.wrap (Int.ofNat ((aL v1 (Go.IntKind.u32.wrap (Int.ofNat ((aL v1 (z.i 44)).land (aL v1 (z.i 45)))))).xor (aL v1 (Go.IntKind.u32.wrap (Int.ofNat ((aL v1 (Go.IntKind.u32.wrap (Int.ofNat ((aL v1 (if Go.IntKind.u32.signed=true then(-1) else Go.IntKind.u32.max)).xor (aL v1 (z.i 44)))))).land (aL v1 (z.i 46)))))))))%4294967296+gI (aa (aq (z.g 1) (z.i 77).toNat) 0))%4294967296+gI (aa (aq (z.g 2) (z.i 77).toNat) 0));let v2:=(vx/\vx/\vx/\vx/\vx/\vx/\vx/\vx/\0<(z.g 2).length/\0<(z.g 1).length/\True);let v3:=(V8.mk (z.i 40) (z.i 41) (z.i 42) (z.i 43) (z.i 44) (z.i 45) (z.i 46) (z.i 47));let v4:=((0:Int)<=z.i 77/\z.i 77<64);let v5:=((64:Int)-(z.i 77+1));(.two (z.i 77<64) (.ct ((0:Int)<=6) (fun y0=>True) fun y0=>(.ct ((0:Int)<=11) (fun y1=>True) fun y1=>(.ct ((0:Int)<=25) (fun y2=>True) fun y2=>(.an v4 (.an (0<(z.g 1).length) (.an ((z.i 77).toNat<(z.g 1).length) (.an v4 (.an (0<(z.g 2).length) (.an ((z.i 77).toNat<(z.g 2).length) (.ct ((0:Int)<=2) (fun y3=>True) fun y3=>(.ct ((0:Int)<=13) (fun y4=>True) fun y4=>(.ct ((0:Int)<=22) (fun y5=>True) fun y5=>(.an ((-9223372036854775808:Int)<=z.i 77+1/\z.i 77+1<=9223372036854775807) (.an v2 (.at (((z.g 1).length=64/\(z.g 2).length=64/\(0:Int)<=z.i 77+1/\z.i 77+1<=64)/\v5.toNat<(64-z.i 77).toNat/\∀(y:Sy),V8.mk (y.i 30) (y.i 31) (y.i 32) (y.i 33) (y.i 34) (y.i 35) (y.i 36) (y.i 37)=V8.mk (z.i 30) (z.i 31) (z.i 32) (z.i 33) (z.i 34) (z.i 35) (z.i 36) (z.i 37)/\y.g 1=z.g 1/\V8.mk (y.i 40) (y.i 41) (y.i 42) (y.i 43) (y.i 44) (y.i 45) (y.i 46) (y.i 47)=AZ (z.g 1) (z.g 2) v5.toNat (z.i 77+1) (V8.mk ((v0%4294967296+(Go.IntKind.u32.wrap (Int.ofNat ((aL v1 (Go.IntKind.u32.wrap (Int.ofNat ((aL v1 (hU (z.i 40) 2)).xor (aL v1 (hU (z.i 40) 13)))))).xor (aL v1 (hU (z.i 40) 22))))+Go.IntKind.u32.wrap (Int.ofNat ((aL v1 (Go.IntKind.u32.wrap (Int.ofNat ((aL v1 (Go.IntKind.u32.wrap (Int.ofNat ((aL v1 (z.i 40)).land (aL v1 (z.i 41)))))).xor (aL v1 (Go.IntKind.u32.wrap (Int.ofNat ((aL v1 (z.i 40)).land (aL v1 (z.i 42)))))))))).xor (aL v1 (Go.IntKind.u32.wrap (Int.ofNat ((aL v1 (z.i 41)).land (aL v1 (z.i 42)))))))))%4294967296)%4294967296) (z.i 40) (z.i 41) (z.i 42) ((z.i 43+v0%4294967296)%4294967296) (z.i 44) (z.i 45) (z.i 46))->V8.mk (y.i 30) (y.i 31) (y.i 32) (y.i 33) (y.i 34) (y.i 35) (y.i 36) (y.i 37)=V8.mk (z.i 30) (z.i 31) (z.i 32) (z.i 33) (z.i 34) (z.i 35) (z.i 36) (z.i 37)/\y.g 1=z.g 1/\V8.mk (y.i 40) (y.i 41) (y.i 42) (y.i 43) (y.i 44) (y.i 45) (y.i 46) (y.i 47)=AZ (z.g 1) (z.g 2) ((64:Int)-z.i 77).toNat (z.i 77) v3)))))))))))))))) (.an v2 (.at (V8.mk (z.i 30) (z.i 31) (z.i 32) (z.i 33) (z.i 34) (z.i 35) (z.i 36) (z.i 37)=V8.mk (z.i 30) (z.i 31) (z.i 32) (z.i 33) (z.i 34) (z.i 35) (z.i 36) (z.i 37)/\z.g 1=z.g 1/\V8.mk (z.i 40) (z.i 41) (z.i 42) (z.i 43) (z.i 44) (z.i 45) (z.i 46) (z.i 47)=AZ (z.g 1) (z.g 2) ((64:Int)-z.i 77).toNat (z.i 77) v3))))):=by
 dsimp only [B2,v8,Ew] at hA
 have e2:=@zA (z.g 1) (z.g 2) (z.i 77) (Ew z)
 have e3:=@Ev (z.g 1) (z.g 2) (z.i 77) (Ew z)
 dsimp only [Ew,dS,rt,ru,vB,dr,kC,BW] at e2 e3
 conv=>zeta
 repeat' with_reducible first|intro _|apply aV|apply aZ|apply aT|apply bf|apply ba
 all_goals first|omega|grind [am,ai,ah,List.append_assoc,List.length_append,List.length_cons,List.length_nil,List.append_cancel_left_eq,List.cons.injEq]
theorem OM:dU Tryz.prog 40 4 B2:=bH 1000 mN (eK Ey eN) lN (hn:=(.both (.yes .nil) .nil)) Ky
theorem Sl(z:Sy)(hA:Sk.pre z):Fm.den (let vx:=(0:Int)=0;let vxg:=G.node [G.int 0];let v0:=(lP (z.g 2) (z.s 1) (V8.mk (z.i 30) (z.i 31) (z.i 32) (z.i 33) (z.i 34) (z.i 35) (z.i 36) (z.i 37)));(.an (64=64/bp (cK 9)) (.cl ((vx/\vx/\vx/\vx/\vx/\vx/\vx/\vx/\0<64/\0<(z.g 2).length/\True)) (64<=(z.s 1).length/\(z.g 2).length=64/\64=64/\(0:Int)<=0/\(0:Int)<=16) (fun y0=>V8.mk (y0.i 30) (y0.i 31) (y0.i 32) (y0.i 33) (y0.i 34) (y0.i 35) (y0.i 36) (y0.i 37)=V8.mk (z.i 30) (z.i 31) (z.i 32) (z.i 33) (z.i 34) (z.i 35) (z.i 36) (z.i 37)/\y0.g 1=z.g 2/\(y0.g 2).length=64/\y0.g 2=tI (z.s 1) ((16:Int)-0).toNat 0 [vxg,vxg,vxg,vxg,vxg,vxg,vxg,vxg,vxg,vxg,vxg,vxg,vxg,vxg,vxg,vxg,vxg,vxg,vxg,vxg,vxg,vxg,vxg,vxg,vxg,vxg,vxg,vxg,vxg,vxg,vxg,vxg,vxg,vxg,vxg,vxg,vxg,vxg,vxg,vxg,vxg,vxg,vxg,vxg,vxg,vxg,vxg,vxg,vxg,vxg,vxg,vxg,vxg,vxg,vxg,vxg,vxg,vxg,vxg,vxg,vxg,vxg,vxg,vxg]) fun y0=>(.cl ((vx/\vx/\vx/\vx/\vx/\vx/\vx/\vx/\0<(y0.g 2).length/\0<(y0.g 1).length/\True)) ((y0.g 1).length=64/\(y0.g 2).length=64/\(16:Int)<=16/\(16:Int)<=64) (fun y1=>V8.mk (y1.i 30) (y1.i 31) (y1.i 32) (y1.i 33) (y1.i 34) (y1.i 35) (y1.i 36) (y1.i 37)=V8.mk (y0.i 30) (y0.i 31) (y0.i 32) (y0.i 33) (y0.i 34) (y0.i 35) (y0.i 36) (y0.i 37)/\y1.g 1=y0.g 1/\(y1.g 2).length=64/\y1.g 2=AY ((64:Int)-16).toNat 16 (y0.g 2)) fun y1=>(.cl ((vx/\vx/\vx/\vx/\vx/\vx/\vx/\vx/\0<(y1.g 2).length/\0<(y1.g 1).length/\True)) ((y1.g 1).length=64/\(y1.g 2).length=64/\(0:Int)<=0/\(0:Int)<=64) (fun y2=>V8.mk (y2.i 30) (y2.i 31) (y2.i 32) (y2.i 33) (y2.i 34) (y2.i 35) (y2.i 36) (y2.i 37)=V8.mk (y1.i 30) (y1.i 31) (y1.i 32) (y1.i 33) (y1.i 34) (y1.i 35) (y1.i 36) (y1.i 37)/\y2.g 1=y1.g 1/\V8.mk (y2.i 40) (y2.i 41) (y2.i 42) (y2.i 43) (y2.i 44) (y2.i 45) (y2.i 46) (y2.i 47)=AZ (y1.g 1) (y1.g 2) ((64:Int)-0).toNat 0 (V8.mk (y1.i 30) (y1.i 31) (y1.i 32) (y1.i 33) (y1.i 34) (y1.i 35) (y1.i 36) (y1.i 37))) fun y2=>(.an (0<(y2.g 1).length/\(y2.i 37+y2.i 47)%4294967296=v0.h/\(y2.i 36+y2.i 46)%4294967296=v0.g/\(y2.i 35+y2.i 45)%4294967296=v0.f/\(y2.i 34+y2.i 44)%4294967296=v0.e/\(y2.i 33+y2.i 43)%4294967296=v0.d/\(y2.i 32+y2.i 42)%4294967296=v0.c/\(y2.i 31+y2.i 41)%4294967296=v0.b/\(y2.i 30+y2.i 40)%4294967296=v0.a/\True) (.at (y2.g 1=z.g 2)))))))):=by
 dsimp only [Sk,v8] at hA
 conv=>zeta
 repeat' with_reducible first|intro _|apply aV|apply aZ|apply aT|apply bf|apply ba
 all_goals first|omega|rfl|((repeat' first|exact rfl|exact trivial|exact Int.le_refl _|exact(by decide)|refine And.intro ?_ ?_);done)|(exact(qN (by assumption) (by assumption) (by assumption)).1)|(have k:=qN (by assumption) (by assumption) (by assumption);refine And.intro (by rw[k.1];omega) ?_;rw[←k.2];(repeat' first|exact rfl|exact trivial|refine And.intro ?_ ?_);done)|grind [am,ai,ah,List.append_assoc,List.length_append,List.length_cons,List.length_nil,List.append_cancel_left_eq,List.cons.injEq]
theorem UV:Ok Tryz.prog 40 Sk:=bS 1000 mN eN (eL (ptm:=[]) OK (eL (ptm:=[]) OL (eL (ptm:=[]) OM lN))) (hn:=.nil) Sl
noncomputable section
def tK(l:List Nat):Nat:=(120-l.length%64)%64
def UW:Nat->List Nat->List Nat
 |0,l=>l
 |k+1,l=>UW k (l++ [0])
def GN(l:List Nat):List Nat:=UW (tK l) l
theorem Kz{l:List Nat}(h:(l.length:Int)%64≠56):GN l=GN (l++ [0])/\tK l=tK (l++ [0])+1:=by
 have e:tK l=tK (l++ [0])+1:=by unfold tK;rw[aai];simp only [aaI];omega
 refine⟨?_,e⟩
 unfold GN
 rw[e];rfl
theorem ON{l:List Nat}(h:(l.length:Int)%64=56):GN l=l:=by
 unfold GN
 rw[show tK l=0 by unfold tK;omega];rfl
theorem Sm(l:List Nat):tK l<=63:=by unfold tK;omega
def V9(d:Int):Nat->Int->List Nat->List Nat
 |0,_,l=>l
 |k+1,i,l=>V9 d k (i-1) (l++ [((d/((2 ^ min (8 * i%18446744073709551616).toNat (aY .u64):Nat):Int))%256).toNat])
def mC(d i:Int)(l:List Nat):List Nat:=V9 d (i+1).toNat i l
theorem GO{d i:Int}{l:List Nat}(h:0<=i):mC d i l=mC d (i-1) (l++ [((d/((2 ^ min (8 * i%18446744073709551616).toNat (aY .u64):Nat):Int))%256).toNat]):=by
 unfold mC
 rw[show(i+1).toNat=(i-1+1).toNat+1 by omega];rfl
theorem KA{d i:Int}{l:List Nat}(h:i<0):mC d i l=l:=by
 unfold mC
 rw[show(i+1).toNat=0 by omega];rfl
def V_(m:List Nat):Nat->Int->V8->V8
 |0,_,v=>v
 |k+1,i,v=>V_ m k (i+64) (lP KG ((m.take (i+64).toNat).drop i.toNat) v)
def mD(m:List Nat)(i:Int)(v:V8):V8:=V_ m (((m.length:Int)-i+63)/64).toNat i v
theorem GP{m:List Nat}{i:Int}{v:V8}(h:i<m.length):mD m i v=mD m (i+64) (lP KG ((m.take (i+64).toNat).drop i.toNat) v):=by
 unfold mD
 rw[show(((m.length:Int)-i+63)/64).toNat=(((m.length:Int)-(i+64)+63)/64).toNat+1 by omega];rfl
theorem KB{m:List Nat}{i:Int}{v:V8}(h:(m.length:Int)<=i):mD m i v=v:=by
 unfold mD
 rw[show(((m.length:Int)-i+63)/64).toNat=0 by omega];rfl
def Ez:List BSh:=[.cells 38 V7,.growb 5 7]
def B3(p:Sy):LSpec:={tmps:=[(0,.c (.vb 6)),(2,.c (.p 0)),(3,.c (.gb 1 7))],blk:=Ez,inv:=fun z=>(z.s 7).length+tK (z.s 7)<=900000100,mu:=fun z=>tK (z.s 7),alts:=[⟨.exit 0,[(0,.c (.vb 6)),(2,.c (.p 0)),(3,.c (.gb 1 7))],Ez⟩],post:=fun z y=>y.s 6=z.s 6/\y.s 7=GN (z.s 7)/\(y.s 7).length<=900000100/\((y.s 7).length:Int)%64=56}
def B4(p:Sy):LSpec:={tmps:=[(2,.c (.p 0)),(3,.c (.gb 1 7)),(4,.c (.i .u64 9)),(5,.c (.i .i64 20))],blk:=Ez,inv:=fun z=>0-1<=z.i 20/\z.i 20<=7/\((z.s 7).length:Int)+z.i 20<=900000200,mu:=fun z=>(z.i 20+1).toNat,alts:=[⟨.exit 2,[(2,.c (.p 0)),(3,.c (.gb 1 7))],Ez⟩],post:=fun z y=>y.s 7=mC (z.i 9) (z.i 20) (z.s 7)/\((y.s 7).length:Int)=(z.s 7).length+z.i 20+1}
def KC:List BSh:=[.cells 38 V7,.cells 105 NI,.arr 9 106 2]
def KD(p:Sy):LSpec:={tmps:=[(2,.c (.p 0)),(3,.c (.vb 7)),(6,.c (.p 1)),(7,.c (.p 2)),(8,.c (.i .i64 8))],blk:=KC,inv:=fun z=>z.g 2=KG/\(z.s 7).length<=900000200/\((z.s 7).length:Int)%64=0/\0<=z.i 8/\z.i 8<=(z.s 7).length/\z.i 8%64=0,mu:=fun z=>((z.s 7).length-z.i 8).toNat,alts:=[⟨.exit 4,[(2,.c (.p 0)),(6,.c (.p 1))],KC⟩],post:=fun z y=>v8 y=mD (z.s 7) (z.i 8) (v8 z)}
def h_(s:List Nat):V8:=mD (mC ((s.length:Int)%18446744073709551616 * 8%18446744073709551616) 7 (GN (s++ [128]))) 0 V0
theorem OO{z y0 y1 y2:Sy}{p q:Prop}(h0:y0.s 6=z.s 1/\y0.s 7=GN ([]++z.s 1++ [Int.toNat 128])/\p)(h1:y1.s 7=mC (((y0.s 6).length:Int)%18446744073709551616 * 8%18446744073709551616) 7 (y0.s 7)/\q)(h2:v8 y2=mD (y1.s 7) 0 V0):v8 y2=h_ (z.s 1):=by
 rw[h2,h1.1,h0.2.1,h0.1]
 rfl
def Sn:FSpec:={args:=[.c (.vb 1)],blk:=[],pre:=fun z=>(z.s 1).length<=1000000,res:=fun z=>.one (.ag (W6 (h_ (z.s 1)))),out:=fun _=>[],post:=fun z y=>True}
end
theorem KE(p z:Sy)(hA:(B3 p).inv z):Fm.den (let vx:=(0:Int)=0;let v0:=(z.s 7++ [Int.toNat (0:Int)]);let v1:=(↑(z.s 7).length:Int);(.an ((64:Int)≠0) (.an (0<=v1/\(0:Int)<64) (.two (v1%64≠56) (.an ((z.s 7).length=(z.s 7).length/\(z.s 7).length<=1000000000/\(0:Int)<=0/\True) (.an (v0.length=(z.s 7).length+1/\vx/\vx/\vx/\vx/\vx/\vx/\vx/\vx/\vx/\vx/\vx/\vx/\vx/\vx/\vx/\vx/\vx/\vx/\vx/\vx/\vx/\vx/\vx/\vx/\vx/\vx/\vx/\vx/\vx/\vx/\vx/\vx/\True) (.at (v0.length+tK (z.s 7++ [Int.toNat 0])<=900000100/\tK v0<tK (z.s 7)/\∀(y:Sy),y.s 6=z.s 6/\y.s 7=GN v0/\(y.s 7).length<=900000100/\(↑(y.s 7).length:Int)%64=56->y.s 6=z.s 6/\y.s 7=GN (z.s 7)/\(y.s 7).length<=900000100/\(↑(y.s 7).length:Int)%64=56)))) (.an ((z.s 7).length=(z.s 7).length/\vx/\vx/\vx/\vx/\vx/\vx/\vx/\vx/\vx/\vx/\vx/\vx/\vx/\vx/\vx/\vx/\vx/\vx/\vx/\vx/\vx/\vx/\vx/\vx/\vx/\vx/\vx/\vx/\vx/\vx/\vx/\vx/\True) (.at (z.s 6=z.s 6/\z.s 7=GN (z.s 7)/\(z.s 7).length<=900000100/\v1%64=56))))))):=by
 dsimp only [B3] at hA
 have e2:=@Kz (z.s 7)
 have e3:=@ON (z.s 7)
 conv=>zeta
 repeat' with_reducible first|intro _|apply aV|apply aZ|apply aT|apply bf|apply ba
 all_goals first|omega|grind [am,ai,ah,List.append_assoc,List.length_append,List.length_cons,List.length_nil,List.append_cancel_left_eq,List.cons.injEq]
theorem OP:dU Tryz.prog 16 0 B3:=bH 1000 mN eN lN (hn:=(.yes (.both .nil .nil))) KE
theorem KF(p z:Sy)(hA:(B4 p).inv z):Fm.den (let vx:=(0:Int)=0;let v0:=(z.s 7++ [(z.i 9/(↑(2 ^ Min.min (8 * z.i 20%18446744073709551616).toNat (aY Go.IntKind.u64)):Int)%256).toNat]);let v1:=(↑(z.s 7).length:Int);let v2:=(-9223372036854775808:Int);(.two ((0:Int)<=z.i 20) (.an (v2<=8 * z.i 20/\(8:Int) * z.i 20<=9223372036854775807) (.an ((0:Int)<=8 * z.i 20%18446744073709551616) (.an ((z.s 7).length=(z.s 7).length/\(z.s 7).length<=1000000000/\0<=z.i 9/(↑(2 ^ Min.min (8 * z.i 20%18446744073709551616).toNat (aY Go.IntKind.u64)):Int)%256/\True) (.an (v2<=z.i 20-1/\z.i 20-1<=9223372036854775807) (.an (v0.length=(z.s 7).length+1/\vx/\vx/\vx/\vx/\vx/\vx/\vx/\vx/\vx/\vx/\vx/\vx/\vx/\vx/\vx/\vx/\vx/\vx/\vx/\vx/\vx/\vx/\vx/\vx/\vx/\vx/\vx/\vx/\vx/\vx/\vx/\vx/\True) (.at (((0:Int)-1<=z.i 20-1/\z.i 20-1<=7/\(↑v0.length:Int)+(z.i 20-1)<=900000200)/\(z.i 20-1+1).toNat<(z.i 20+1).toNat/\∀(y:Sy),y.s 7=mC (z.i 9) (z.i 20-1) v0/\(↑(y.s 7).length:Int)=(↑v0.length:Int)+(z.i 20-1)+1->y.s 7=mC (z.i 9) (z.i 20) (z.s 7)/\(↑(y.s 7).length:Int)=v1+z.i 20+1))))))) (.an ((z.s 7).length=(z.s 7).length/\vx/\vx/\vx/\vx/\vx/\vx/\vx/\vx/\vx/\vx/\vx/\vx/\vx/\vx/\vx/\vx/\vx/\vx/\vx/\vx/\vx/\vx/\vx/\vx/\vx/\vx/\vx/\vx/\vx/\vx/\vx/\vx/\True) (.at (z.s 7=mC (z.i 9) (z.i 20) (z.s 7)/\v1=v1+z.i 20+1))))):=by
 dsimp only [B4] at hA
 have e2:=@GO (z.i 9) (z.i 20) (z.s 7)
 have e3:=@KA (z.i 9) (z.i 20) (z.s 7)
 conv=>zeta
 repeat' with_reducible first|intro _|apply aV|apply aZ|apply aT|apply bf|apply ba
 all_goals first|omega|grind [am,ai,ah,List.append_assoc,List.length_append,List.length_cons,List.length_nil,List.append_cancel_left_eq,List.cons.injEq]
theorem OQ:dU Tryz.prog 16 2 B4:=bH 1000 mN eN lN (hn:=(hC 5 41)) KF
theorem KH(p z:Sy)(hA:(KD p).inv z):Fm.den (let vx:=(0:Int)=0;let v1:=((-9223372036854775808:Int)<=z.i 8+64/\z.i 8+64<=9223372036854775807);let v2:=(V8.mk (z.i 30) (z.i 31) (z.i 32) (z.i 33) (z.i 34) (z.i 35) (z.i 36) (z.i 37));let v0:=(lP (z.g 2) (List.drop (z.i 8).toNat (List.take (z.i 8+64).toNat (z.s 7))) v2);let v3:=(↑(z.s 7).length:Int);(.two (z.i 8 < ↑(z.s 7).length) (.an v1 (.an ((0:Int)<=z.i 8/\z.i 8<=z.i 8+64/\z.i 8+64<= ↑(z.s 7).length) (.cl ((0<(z.g 2).length/\True)) (64<=(List.drop (z.i 8).toNat (List.take (z.i 8+(64:Int)).toNat (z.s 7))).length/\(z.g 2).length=64) (fun y0=>y0.g 2=z.g 2) fun y0=>(.an v1 (.an (0<(y0.g 2).length/\vx/\vx/\vx/\vx/\vx/\vx/\vx/\vx/\vx/\vx/\vx/\vx/\vx/\vx/\vx/\vx/\vx/\vx/\vx/\vx/\vx/\vx/\vx/\vx/\vx/\vx/\vx/\vx/\vx/\vx/\vx/\vx/\True) (.at ((y0.g 2=KG/\(z.s 7).length<=900000200/\v3%64=0/\(0:Int)<=z.i 8+64/\z.i 8+64<= ↑(z.s 7).length/\(z.i 8+64)%64=0)/\(v3-(z.i 8+64)).toNat<(v3-z.i 8).toNat/\∀(y:Sy),V8.mk (y.i 30) (y.i 31) (y.i 32) (y.i 33) (y.i 34) (y.i 35) (y.i 36) (y.i 37)=mD (z.s 7) (z.i 8+(64:Int)) (V8.mk v0.a v0.b v0.c v0.d v0.e v0.f v0.g v0.h)->V8.mk (y.i 30) (y.i 31) (y.i 32) (y.i 33) (y.i 34) (y.i 35) (y.i 36) (y.i 37)=mD (z.s 7) (z.i 8) v2))))))) (.an (0<(z.g 2).length/\vx/\vx/\vx/\vx/\vx/\vx/\vx/\vx/\vx/\vx/\vx/\vx/\vx/\vx/\vx/\vx/\vx/\vx/\vx/\vx/\vx/\vx/\vx/\vx/\vx/\vx/\vx/\vx/\vx/\vx/\vx/\vx/\True) (.at (V8.mk (z.i 30) (z.i 31) (z.i 32) (z.i 33) (z.i 34) (z.i 35) (z.i 36) (z.i 37)=mD (z.s 7) (z.i 8) v2))))):=by
 have hB:True/\z.g 2=KG/\(z.s 7).length<=900000200/\(↑(z.s 7).length:Int)%64=0/\(0:Int)<=z.i 8/\z.i 8<= ↑(z.s 7).length/\z.i 8%64=0:=⟨trivial,hA⟩
 have e2:=@GP (z.s 7) (z.i 8) (v8 z)
 have e3:=@KB (z.s 7) (z.i 8) (v8 z)
 have e5:KG.length=64:=rfl
 dsimp only [v8] at e2 e3
 have e6:∀v:V8,v=lP (z.g 2) (List.drop (z.i 8).toNat (List.take (z.i 8+64).toNat (z.s 7))) (V8.mk (z.i 30) (z.i 31) (z.i 32) (z.i 33) (z.i 34) (z.i 35) (z.i 36) (z.i 37))->V8.mk v.a v.b v.c v.d v.e v.f v.g v.h=v:=fun _ _=>rfl
 have e7:=e6 _ rfl
 clear e6
 have e8:z.i 8+64<=((z.s 7).length:Int)->0<=z.i 8->(List.drop (z.i 8).toNat (List.take (z.i 8+64).toNat (z.s 7))).length=64:=fun _ _=>by rw[List.length_drop,List.length_take];omega
 have e9:=hB.2.1
 rw[e9] at e7
 conv=>zeta
 repeat' with_reducible first|intro _|apply aV|apply aZ|apply aT|apply bf|apply ba
 all_goals first|omega|(refine And.intro (by grind) (And.intro (by omega) (fun y hy=>hy.trans ?_));rw[e2 (by omega),hB.2.1];done)|grind [am,ai,ah,List.append_assoc,List.length_append,List.length_cons,List.length_nil,List.append_cancel_left_eq,List.cons.injEq]
theorem OS:dU Tryz.prog 16 4 KD:=bH 1000 mN (eK UV eN) lN (hn:=(hC 5 41)) KH
theorem So(z:Sy)(hA:Sn.pre z):Fm.den (let vx:=(0:Int)=0;let v0:=(h_ (z.s 1));let v1:=([]++z.s 1++ [Int.toNat (128:Int)]);(.an (0=0/\0<=1000000000/\(z.s 1).length<=1000000) (.an (([]++z.s 1).length=0+(z.s 1).length/\0+(z.s 1).length<=1000000000/\(0:Int)<=128/\True) (.cl ((v1.length=0+(z.s 1).length+1/\vx/\vx/\vx/\vx/\vx/\vx/\vx/\vx/\vx/\vx/\vx/\vx/\vx/\vx/\vx/\vx/\vx/\vx/\vx/\vx/\vx/\vx/\vx/\vx/\vx/\vx/\vx/\vx/\vx/\vx/\vx/\vx/\True)) (v1.length+tK ([]++z.s 1++ [Int.toNat 128])<=900000100) (fun y0=>y0.s 6=z.s 1/\y0.s 7=GN v1/\(y0.s 7).length<=900000100/\(↑(y0.s 7).length:Int)%64=56) fun y0=>(let v2:=(↑(y0.s 7).length:Int);(.cl (((y0.s 7).length=(y0.s 7).length/\vx/\vx/\vx/\vx/\vx/\vx/\vx/\vx/\vx/\vx/\vx/\vx/\vx/\vx/\vx/\vx/\vx/\vx/\vx/\vx/\vx/\vx/\vx/\vx/\vx/\vx/\vx/\vx/\vx/\vx/\vx/\vx/\True)) ((0:Int)-1<=7/\(7:Int)<=7/\v2+7<=900000200) (fun y1=>y1.s 7=mC ((↑(y0.s 6).length:Int)%18446744073709551616 * 8%18446744073709551616) 7 (y0.s 7)/\(↑(y1.s 7).length:Int)=v2+7+1) fun y1=>(let v3:=(↑(y1.s 7).length:Int);(.an ((y1.s 7).length=(y1.s 7).length) (.an (64=64/bp (cK 9)) (.cl ((0<64/\vx/\vx/\vx/\vx/\vx/\vx/\vx/\vx/\vx/\vx/\vx/\vx/\vx/\vx/\vx/\vx/\vx/\vx/\vx/\vx/\vx/\vx/\vx/\vx/\vx/\vx/\vx/\vx/\vx/\vx/\vx/\vx/\True)) ([G.node [G.int (1116352408:Int)],G.node [G.int 1899447441],G.node [G.int 3049323471],G.node [G.int 3921009573],G.node [G.int 961987163],G.node [G.int 1508970993],G.node [G.int 2453635748],G.node [G.int 2870763221],G.node [G.int 3624381080],G.node [G.int 310598401],G.node [G.int 607225278],G.node [G.int 1426881987],G.node [G.int 1925078388],G.node [G.int 2162078206],G.node [G.int 2614888103],G.node [G.int 3248222580],G.node [G.int 3835390401],G.node [G.int 4022224774],G.node [G.int 264347078],G.node [G.int 604807628],G.node [G.int 770255983],G.node [G.int 1249150122],G.node [G.int 1555081692],G.node [G.int 1996064986],G.node [G.int 2554220882],G.node [G.int 2821834349],G.node [G.int 2952996808],G.node [G.int 3210313671],G.node [G.int 3336571891],G.node [G.int 3584528711],G.node [G.int 113926993],G.node [G.int 338241895],G.node [G.int 666307205],G.node [G.int 773529912],G.node [G.int 1294757372],G.node [G.int 1396182291],G.node [G.int 1695183700],G.node [G.int 1986661051],G.node [G.int 2177026350],G.node [G.int 2456956037],G.node [G.int 2730485921],G.node [G.int 2820302411],G.node [G.int 3259730800],G.node [G.int 3345764771],G.node [G.int 3516065817],G.node [G.int 3600352804],G.node [G.int 4094571909],G.node [G.int 275423344],G.node [G.int 430227734],G.node [G.int 506948616],G.node [G.int 659060556],G.node [G.int 883997877],G.node [G.int 958139571],G.node [G.int 1322822218],G.node [G.int 1537002063],G.node [G.int 1747873779],G.node [G.int 1955562222],G.node [G.int 2024104815],G.node [G.int 2227730452],G.node [G.int 2361852424],G.node [G.int 2428436474],G.node [G.int 2756734187],G.node [G.int 3204031479],G.node [G.int 3329325298]]=KG/\(y1.s 7).length<=900000200/\v3%64=0/\(0:Int)<=0/\0<=v3/\(0:Int)%64=0) (fun y2=>V8.mk (y2.i 30) (y2.i 31) (y2.i 32) (y2.i 33) (y2.i 34) (y2.i 35) (y2.i 36) (y2.i 37)=mD (y1.s 7) (0:Int) (V8.mk 1779033703 3144134277 1013904242 2773480762 1359893119 2600822924 528734635 1541459225)) fun y2=>(.an (y2.i 37/1%256=hb v0 (nat_lit 31)/\y2.i 37/256%256=hb v0 (nat_lit 30)/\y2.i 37/65536%256=hb v0 (nat_lit 29)/\y2.i 37/16777216%256=hb v0 (nat_lit 28)/\y2.i 36/1%256=hb v0 (nat_lit 27)/\y2.i 36/256%256=hb v0 (nat_lit 26)/\y2.i 36/65536%256=hb v0 (nat_lit 25)/\y2.i 36/16777216%256=hb v0 (nat_lit 24)/\y2.i 35/1%256=hb v0 (nat_lit 23)/\y2.i 35/256%256=hb v0 (nat_lit 22)/\y2.i 35/65536%256=hb v0 (nat_lit 21)/\y2.i 35/16777216%256=hb v0 (nat_lit 20)/\y2.i 34/1%256=hb v0 (nat_lit 19)/\y2.i 34/256%256=hb v0 (nat_lit 18)/\y2.i 34/65536%256=hb v0 (nat_lit 17)/\y2.i 34/16777216%256=hb v0 (nat_lit 16)/\y2.i 33/1%256=hb v0 (nat_lit 15)/\y2.i 33/256%256=hb v0 (nat_lit 14)/\y2.i 33/65536%256=hb v0 (nat_lit 13)/\y2.i 33/16777216%256=hb v0 (nat_lit 12)/\y2.i 32/1%256=hb v0 (nat_lit 11)/\y2.i 32/256%256=hb v0 (nat_lit 10)/\y2.i 32/65536%256=hb v0 (nat_lit 9)/\y2.i 32/16777216%256=hb v0 (nat_lit 8)/\y2.i 31/1%256=hb v0 (nat_lit 7)/\y2.i 31/256%256=hb v0 (nat_lit 6)/\y2.i 31/65536%256=hb v0 (nat_lit 5)/\y2.i 31/16777216%256=hb v0 (nat_lit 4)/\y2.i 30/1%256=hb v0 (nat_lit 3)/\y2.i 30/256%256=hb v0 (nat_lit 2)/\y2.i 30/65536%256=hb v0 (nat_lit 1)/\y2.i 30/16777216%256=hb v0 (nat_lit 0)/\True) (.at (True))))))))))))):=by
 dsimp only [Sn] at hA
 have e7:=@Sm
 have e5:KG.length=64:=rfl
 conv=>zeta
 repeat' with_reducible first|intro _|apply aV|apply aZ|apply aT|apply bf|apply ba
 all_goals first|omega|rfl|(rw[←OO (by assumption) (by assumption) (by assumption)];(repeat' first|exact rfl|exact trivial|refine And.intro ?_ ?_|(rw[Int.ediv_one];exact rfl));done)|((repeat' first|(with_reducible rfl)|exact trivial|refine And.intro ?_ ?_) <;> first|omega|grind [List.length_append,List.length_cons,List.length_nil]|rfl)|grind [am,ai,ah,List.append_assoc,List.length_append,List.length_cons,List.length_nil,List.append_cancel_left_eq,List.cons.injEq]
theorem tL:Ok Tryz.prog 16 Sn:=bS 1000 mN eN (eL (ptm:=[]) OP (eL (ptm:=[]) OQ (eL (ptm:=[]) OS lN))) (hn:=.nil) So
theorem mE{s:List Nat}{i:Int}(h0:0<=i)(h:i<64):lw (s.take 64) i=lw s i:=by
 unfold lw
 rw[aag,aar (by omega),aag]
theorem KI{s:List Nat}{i:Int}(h0:0<=i)(h:i<16):QZ (s.take 64) i=QZ s i:=by
 unfold QZ
 rw[mE (by omega) (by omega),mE (by omega) (by omega),mE (by omega) (by omega),mE (by omega) (by omega)]
theorem zC{s:List Nat}:∀(k:Nat) (i:Int) (l:List G),0<=i->i+k=16->tI (s.take 64) k i l=tI s k i l
 |0,_,_,_,_=>rfl
 |k+1,i,l,h0,h=>by
  show tI (s.take 64) k (i+1) _=tI s k (i+1) _
  rw[KI h0 (by omega)]
  exact zC k (i+1) _ (by omega) (by omega)
theorem zD(k:List G)(s:List Nat)(v:V8):lP k (s.take 64) v=lP k s v:=by
 unfold lP UR UQ
 rw[zC 16 0 _ (by decide) (by decide)]
theorem vF(k:List G){s t:List Nat}(v:V8)(h:s.take 64=t.take 64):lP k s v=lP k t v:=by
 rw[←zD k s,h,zD]
theorem KJ{m:List Nat}:∀(k:Nat) (i:Int) (v:V8),0<=i->i+64 * k=m.length->V_ m k i v=fQ KG (m.drop i.toNat) v
 |0,i,v,h0,h=>by
  rw[hY (by rw[aan];omega)];rfl
 |k+1,i,v,h0,h=>by
  have e:lP KG ((m.take (i+64).toNat).drop i.toNat) v=lP KG (m.drop i.toNat) v:=vF KG v (by
   rw[abq,List.take_take,abh (by omega)])
  have e2:m.drop (i+64).toNat=(m.drop i.toNat).drop 64:=by rw[aaX];congr 1;omega
  show V_ m k (i+64) _=_
  rw[KJ k (i+64) _ (by omega) (by omega),ez (s:=m.drop i.toNat) (by rw[aan];omega),e,e2]
theorem OT{m:List Nat}(h:m.length%64=0)(v:V8):mD m 0 v=fQ KG m v:=by
 unfold mD
 rw[KJ _ 0 v (by decide) (by omega)]
 rfl
theorem qQ{k:List G}:∀(n:Nat) (a b:List Nat) (v:V8),a.length=64 * n->fQ k (a++b) v=fQ k b (fQ k a v)
 |0,a,b,v,h=>by
  have:a= []:=List.length_eq_zero_iff.1 (by omega)
  subst this
  rw[hY (s:=[]) (by simp)];rfl
 |n+1,a,b,v,h=>by
  rw[ez (s:=a++b) (by rw[aai];omega),ez (s:=a) (by omega)]
  have e:lP k (a++b) v=lP k a v:=vF k v (by rw[abm (by omega)])
  rw[e,abx (by omega),qQ n (a.drop 64) b _ (by rw[aan];omega)]
theorem qR:∀(n:Nat) (s:List Nat),s.length/64=n->∃a,s=a++b_ s/\a.length=64 * n/\(b_ s).length=s.length-64 * n
 |0,s,h=>⟨[],by rw[qO (by omega)];rfl,rfl,by rw[qO (by omega)];omega⟩
 |n+1,s,h=>by
  have d8:64<=s.length:=by omega
  obtain⟨a,h1,h2,h3⟩:=qR n (s.drop 64) (by rw[aan];omega)
  refine⟨s.take 64++a, ?_,by rw[aai,aam,h2];omega,by rw[nM d8,h3,aan];omega⟩
  rw[nM d8,aau, ←h1,abl]
theorem KK:∀(k:Nat) (l:List Nat),UW k l=l++List.replicate k 0
 |0,l=>by simp [UW]
 |k+1,l=>by rw[UW,KK k];simp [List.replicate_succ]
def OU(d:Int):List Nat:=[7,6,5,4,3,2,1,0].map fun i=>((d/((2 ^ (8 * i):Nat):Int))%256).toNat
theorem OV(d:Int)(l:List Nat):mC d 7 l=l++OU d:=by
 unfold mC
 show V9 d 8 7 l=_
 simp only [V9,aau]
 rfl
theorem iH{α:Type}(A B:List α)(j:Nat)(x:α):(A++B).set (A.length+j) x=A++B.set j x:=by
 rw[List.set_append_right _ _ (by omega)];congr 2;omega
theorem KL(e:Int)(d:Int)(A C:List Nat)(hA:(A.length:Int)+8=e):Ex e d 8 0 (A++(List.replicate 8 0++C))=A++(OU d++C):=by
 simp only [Ex]
 rw[show(e-1-0).toNat=A.length+7 by omega,show(e-1-(0+1)).toNat=A.length+6 by omega,show(e-1-(0+1+1)).toNat=A.length+5 by omega,show(e-1-(0+1+1+1)).toNat=A.length+4 by omega,show(e-1-(0+1+1+1+1)).toNat=A.length+3 by omega,show(e-1-(0+1+1+1+1+1)).toNat=A.length+2 by omega,show(e-1-(0+1+1+1+1+1+1)).toNat=A.length+1 by omega,show(e-1-(0+1+1+1+1+1+1+1)).toNat=A.length+0 by omega]
 rw[iH,iH,iH,iH,iH,iH,iH,iH]
 rfl
theorem tM{r:List Nat}(h:r.length<64):Q0 r=r++ [128]++List.replicate (127-r.length) 0:=by
 unfold Q0
 rw[abn (by omega),abh (by omega),List.drop_replicate,show 128-r.length=(127-r.length)+1 by omega,List.replicate_succ]
 have:=iH r (0::List.replicate (127-r.length) 0) 0 128
 rw[aap] at this
 rw[this];simp
theorem Sp(s:List Nat):(s.length:Int)%18446744073709551616 * 8%18446744073709551616=A0 s:=rfl
theorem eH(s:List Nat):fS s=h_ s:=by
 obtain⟨a,h1,h2,h3⟩:=qR _ s rfl
 have hr:(b_ s).length<64:=by omega
 unfold h_
 rw[Sp,OV]
 unfold GN
 rw[KK]
 have hB:fQ KG s V0=fQ KG a V0:=by
  conv=>lhs;rw[h1,qQ _ _ _ _ h2]
  exact hY hr
 have hpd:tK (s++ [128])=(119-(b_ s).length)%64:=by
  unfold tK;rw[aai];simp only [aaI];omega
 have hM:s++ [128]++List.replicate (tK (s++ [128])) 0++OU (A0 s)=a++(b_ s++ [128]++List.replicate (tK (s++ [128])) 0++OU (A0 s)):=by
  conv=>lhs;rw[aau,aau];lhs;rw[h1]
  simp only [aau]
 have hb8:(OU (A0 s)).length=8:=rfl
 rw[OT (by rw[aai,aai,aai,List.length_replicate,hb8,hpd,aaI];omega),hM,qQ _ _ _ _ h2, ←hB,hpd]
 unfold fS
 rw[abh (by omega),aaL,aaL]
 generalize fQ KG s V0=W
 split
 ·rename_i hc
  have e1:(119-(b_ s).length)%64=119-(b_ s).length:=by omega
  have e2:Ex 128 (A0 s) 8 0 (Q0 (b_ s))=b_ s++ [128]++List.replicate (119-(b_ s).length) 0++OU (A0 s):=by
   rw[tM hr]
   have:=KL 128 (A0 s) (b_ s++ [128]++List.replicate (119-(b_ s).length) 0) [] (by simp;omega)
   rw[aa5,aa5] at this
   rw[←this]
   rw[aau (b_ s++ [128]),abG,show 119-(b_ s).length+8=127-(b_ s).length by omega]
  rw[e1,e2]
  generalize hX:b_ s++ [128]++List.replicate (119-(b_ s).length) 0++OU (A0 s)=X
  have hl:X.length=128:=by rw[←hX];simp [hb8];omega
  rw[abn (by omega),ez (s:=X) (by omega),ez (by rw[aan];omega),hY (by rw[aan,aan];omega)]
 ·rename_i hc
  have e1:(119-(b_ s).length)%64=55-(b_ s).length:=by omega
  have e2:(Ex 64 (A0 s) 8 0 (Q0 (b_ s))).take 128=(b_ s++ [128]++List.replicate (55-(b_ s).length) 0)++(OU (A0 s)++List.replicate 64 0):=by
   rw[tM hr]
   have:=KL 64 (A0 s) (b_ s++ [128]++List.replicate (55-(b_ s).length) 0) (List.replicate 64 0) (by simp;omega)
   rw[←this]
   rw[abG,aau (b_ s++ [128]),abG,show 55-(b_ s).length+(8+64)=127-(b_ s).length by omega,abn]
   have hl:∀(k:Nat) (i:Int) (l:List Nat),(Ex 64 (A0 s) k i l).length=l.length:=by
    intro k
    induction k with
    |zero=>intro i l;rfl
    |succ k ih=>intro i l;rw[Ex,ih,aa0]
   rw[hl];simp;omega
  rw[e1,e2]
  generalize hX:b_ s++ [128]++List.replicate (55-(b_ s).length) 0=X
  have hl:X.length=56:=by rw[←hX];simp;omega
  rw[ez (s:=X++OU (A0 s)) (by rw[aai,hb8];omega),hY (by rw[aan,aai,hb8];omega)]
  exact vF KG _ (by
   rw[←aau,abm (by rw[aai,hb8];omega)])
noncomputable section
def jb(y:Sy)(t:Nat):List Int:=(List.range 32).map fun j=>y.i (t+j)
def GQ(g:G):List Int:=(List.range 32).map fun j=>gI (aa g j)
def Wa(v:V8):List Int:=(List.range 32).map fun j=>hb v j
def W_:List Int:=(List.range 32).map fun _=>0
def hN(l:List Int):G:=.node (l.map .int)
def hT(y:Sy)(t:Nat):G:=.node ((List.range 32).map fun j=>.int (y.i (t+j)))
def hX(g:G):G:=.node ((List.range 32).map fun j=>.int (gI (aa g j)))
def hG(v:V8):G:=.node ((List.range 32).map fun j=>.int (hb v j))
def hZ:G:=.node ((List.range 32).map fun _=>.int 0)
theorem oN(y:Sy)(t:Nat):hT y t=hN (jb y t):=by unfold hT hN jb;rw[aaY];rfl
theorem qS(g:G):hX g=hN (GQ g):=by unfold hX hN GQ;rw[aaY];rfl
theorem KM(v:V8):hG v=hN (Wa v):=by unfold hG hN Wa;rw[aaY];rfl
theorem EA:hZ=hN W_:=rfl
theorem fc{a b:List Int}(h:hN a=hN b):a=b:=by
 have:∀a b:List Int,a.map G.int=b.map G.int->a=b:=by
  intro a
  induction a with
  |nil=>intro b h;cases b with|nil=>rfl|cons y b=>simp at h
  |cons x a ih=>intro b h;cases b with
   |nil=>simp at h
   |cons y b=>simp at h;rw[h.1,ih b (by simpa using h.2)]
 unfold hN at h
 injection h with h
 exact this _ _ h
abbrev oV:Prop:=([]:List Nat)= []
abbrev Sq:Prop:=([]:List G)= []
def OW(g:G):List Int:=(gL g).map gI
def lQ(a b:G):Prop:=OW a=OW b
theorem bY(l:List Int):OW (hN l)=l:=by unfold OW hN;show(l.map G.int).map gI=l;rw[aaY];exact List.map_id l
theorem az{y y':Sy}{t t':Nat}:lQ (hT y t) (hT y' t')↔hT y t=hT y' t':=by unfold lQ;rw[oN,oN,bY,bY];exact⟨fun h=>by rw[h],fc⟩
theorem aA{y:Sy}{t:Nat}{g:G}:lQ (hT y t) (hX g)↔hT y t=hX g:=by unfold lQ;rw[oN,qS,bY,bY];exact⟨fun h=>by rw[h],fc⟩
theorem aB{y:Sy}{t:Nat}{g:G}:lQ (hX g) (hT y t)↔hX g=hT y t:=by unfold lQ;rw[oN,qS,bY,bY];exact⟨fun h=>by rw[h],fc⟩
theorem aC{g g':G}:lQ (hX g) (hX g')↔hX g=hX g':=by unfold lQ;rw[qS,qS,bY,bY];exact⟨fun h=>by rw[h],fc⟩
theorem aD{y:Sy}{t:Nat}:lQ (hT y t) hZ↔hT y t=hZ:=by unfold lQ;rw[oN,EA,bY,bY];exact⟨fun h=>by rw[h],fc⟩
theorem aE{g:G}:lQ (hX g) hZ↔hX g=hZ:=by unfold lQ;rw[qS,EA,bY,bY];exact⟨fun h=>by rw[h],fc⟩
theorem aF{y:Sy}{t:Nat}:lQ hZ (hT y t)↔hZ=hT y t:=by unfold lQ;rw[oN,EA,bY,bY];exact⟨fun h=>by rw[h],fc⟩
theorem aG{g:G}:lQ hZ (hX g)↔hZ=hX g:=by unfold lQ;rw[qS,EA,bY,bY];exact⟨fun h=>by rw[h],fc⟩
theorem aH:lQ hZ hZ:=rfl
def jL(y:Sy)(t:Nat)(j:Nat):Int:=y.i (t+j)
def Xa(g:G)(j:Nat):Int:=gI (aa g j)
def EB(f g:Nat->Int)(r:Prop):Nat->Prop
 |0=>r
 |n+1=>f n=g n/\EB f g r n
def dt(f g:Nat->Int)(r:Prop):Prop:=EB f g r 32
theorem tN(f g:Nat->Int)(r:Prop):∀n,EB f g r n↔(∀j,j<n->f j=g j)/\r
 |0=>⟨fun h=>⟨fun j hj=>by omega,h⟩,fun h=>h.2⟩
 |n+1=>by
  show _/\EB f g r n↔_
  rw[tN f g r n]
  exact⟨fun h=>⟨fun j hj=>by by_cases e:j=n;rw[e];exact h.1;exact h.2.1 j (by omega),h.2.2⟩,fun h=>⟨h.1 n (by omega),fun j hj=>h.1 j (by omega),h.2⟩⟩
theorem ao{f:Nat->Int}{r:Prop}:dt f f r↔r:=by unfold dt;rw[tN];exact⟨fun h=>h.2,fun h=>⟨fun _ _=>rfl,h⟩⟩
def HOk(g:G):Prop:=∃l:List Int,g=hN l/\l.length=32/\∀x∈l,0<=x/\x<256
theorem zE{α:Type}{l:List α}(h:l.length=32)(f:Nat->α)(hf:∀j (hj:j<l.length),f j=l[j]):(List.range 32).map f=l:=by
 refine List.ext_getElem (by simp [h]) fun i h1 h2=>?_
 rw[List.getElem_map,List.getElem_range]
 exact hf i h2
theorem cZ{g:G}(h:HOk g):hX g=g:=by
 obtain⟨l,rfl,hl,_⟩:=h
 unfold hX hN
 rw[zE (l:=l.map G.int) (by simpa using hl)]
 intro j hj
 have:j<l.length:=by simpa using hj
 simp [aa,gL,gI,this]
theorem HOk.of_hT{y:Sy}{t:Nat}(h:HOk (hT y t)):∀j,j<32->0<=y.i (t+j)/\y.i (t+j)<256:=by
 obtain⟨l,e,hl,hb⟩:=h
 intro j hj
 rw[oN] at e
 have e:=fc e
 have:y.i (t+j)∈l:=by
  rw[←e];unfold jb
  exact List.mem_map.2 ⟨j,List.mem_range.2 hj,rfl⟩
 exact hb _ this
theorem EC(v:V8):HOk (hG v):=by
 refine⟨Wa v,KM v,by simp [Wa],fun x hx=>?_⟩
 obtain⟨j,hj,rfl⟩:=List.mem_map.1 hx
 have hj:=List.mem_range.1 hj
 have key:∀(l:List Int) (j:Nat),(∀x∈l,0<=x/\x<256)->0<=l.getD j 0/\l.getD j 0<256:=fun l j h=>by
  rw[aag]
  cases e:l[j]? with
  |none=>exact⟨by decide,by decide⟩
  |some x=>exact h x (abf e)
 have m:∀n:Int,0<=n%256/\n%256<256:=fun n=>by omega
 refine key _ _ fun x hx=>?_
 simp only [List.mem_cons,List.not_mem_nil,or_false] at hx
 rcases hx with h|h|h|h|h|h|h|h|h|h|h|h|h|h|h|h|h|h|h|h|h|h|h|h|h|h|h|h|h|h|h|h <;> rw[h] <;> exact m _
theorem fT:HOk hZ:=⟨W_,rfl,rfl,fun x hx=>by
 obtain⟨j,_,rfl⟩:=List.mem_map.1 hx
 decide⟩
def hB(g:G):List Nat:=(gL g).map fun x=>(gI x).toNat
theorem eA{g:G}(h:HOk g):(hB g).length=32:=by obtain⟨l,rfl,hl,_⟩:=h;simp [hB,hN,gL,hl]
def aJ(s:List Nat):G:=hG (fS (0::s))
def bb(a b:G):G:=hG (fS (1::(hB a++hB b)))
def cy(a:G)(s:List Nat):G:=hG (fS (2::(hB a++s)))
def bT(s:List Nat):G:=hG (fS s)
theorem ce(s:List Nat):HOk (aJ s):=EC _
theorem bR(a b:G):HOk (bb a b):=EC _
theorem ia(a:G)(s:List Nat):HOk (cy a s):=EC _
theorem eI(s:List Nat):HOk (bT s):=EC _
theorem iI(y:Sy)(t:Nat):(jb y t).length=32:=by simp [jb]
theorem iJ(g:G):(GQ g).length=32:=by simp [GQ]
theorem cf(x:Int)(l:List Int):aO (x::l)=x.toNat::aO l:=rfl
theorem du(a b:List Int):aO (a++b)=aO a++aO b:=by
 induction a with
 |nil=>rfl
 |cons x a ih=>show _::aO (a++b)=_::(aO a++aO b);rw[ih]
theorem bP(l:List Int):(aO l).length=l.length:=by induction l with|nil=>rfl|cons x l ih=>simp [aO,ih]
theorem bq(y:Sy)(t:Nat):aO (jb y t)=hB (hT y t):=rfl
theorem cW(g:G):aO (GQ g)=hB (hX g):=rfl
theorem co(y:Sy)(t:Nat):(hB (hT y t)).length=32:=by simp [hB,hT,gL]
theorem eJ(g:G):(hB (hX g)).length=32:=by simp [hB,hX,gL]
theorem cw(x:Int)(l:List Int):bj (x::l)↔0<=x/\bj l:=Iff.rfl
theorem dv(a b:List Int):bj (a++b)↔bj a/\bj b:=by
 induction a with
 |nil=>simp [bj]
 |cons x a ih=>show _/\bj (a++b)↔(_/\bj a)/\bj b;rw[ih,and_assoc]
theorem tO{l:List Int}(h:∀x∈l,0<=x):bj l:=by
 induction l with
 |nil=>trivial
 |cons x l ih=>exact⟨h x aay,ih fun y hy=>h y (aaw _ hy)⟩
theorem aP{y:Sy}{t:Nat}(h:HOk (hT y t)):bj (jb y t):=by
 obtain⟨l,e,_,hb⟩:=h
 rw[oN] at e
 rw[fc e]
 exact tO fun x hx=>(hb x hx).1
theorem dD{g:G}(h:HOk (hX g)):bj (GQ g):=by
 obtain⟨l,e,_,hb⟩:=h
 rw[qS] at e
 rw[fc e]
 exact tO fun x hx=>(hb x hx).1
theorem oO(s:List Nat):hG (fS (0::s))=aJ s:=rfl
theorem kP(a b:G):hG (fS (1::(hB a++hB b)))=bb a b:=rfl
theorem iK(a:G)(s:List Nat):hG (fS (2::(hB a++s)))=cy a s:=rfl
theorem lz(s:List Nat):hG (fS s)=bT s:=rfl
theorem B5:Int.toNat 0=0:=rfl
theorem B6:Int.toNat 1=1:=rfl
theorem B7:Int.toNat 2=2:=rfl
def hs(t:Nat):List Sh:=(List.range 32).map fun j=>.i .u8 (t+j)
def B9:FSpec:={args:=[.c (.vb 1)],blk:=[],pre:=fun z=>(z.s 1).length<=999999,res:=fun z=>.one (.ag (hs 300)),out:=fun _=>[],post:=fun z y=>hT y 300=aJ (z.s 1)}
abbrev KN:=B9
def qT:FSpec:={args:=[.ag (hs 100),.ag (hs 200)],blk:=[],pre:=fun z=>HOk (hT z 100)/\HOk (hT z 200),res:=fun z=>.one (.ag (hs 300)),out:=fun _=>[],post:=fun z y=>hT y 300=bb (hT z 100) (hT z 200)}
abbrev KO:=qT
def vG:FSpec:={args:=[.ag (hs 100),.c (.vb 1)],blk:=[],pre:=fun z=>HOk (hT z 100)/\(z.s 1).length<=900000,res:=fun z=>.one (.ag (hs 300)),out:=fun _=>[],post:=fun z y=>hT y 300=cy (hT z 100) (z.s 1)}
abbrev ED:=vG
attribute [irreducible] lQ dt hB aJ bb cy bT HOk jb GQ hN
end
theorem KP(z:Sy)(hA:KN.pre z):Fm.den (let v0:=([Int.toNat (0:Int)]++z.s 1);(.an ((0:Int)<=0/\True) (.an (1=1) (.an (1=1/\1<=1000000000/\(z.s 1).length<=1000000) (.an (v0.length=1+(z.s 1).length) (.ct (v0.length<=1000000) (fun y0=>True) fun y0=>(.ax (hG (h_ v0)=aJ (z.s 1))))))))):=by
 have hB:True/\(z.s 1).length<=999999:=⟨trivial,hA⟩
 conv=>zeta
 repeat' with_reducible first|intro _|apply aV|apply aZ|apply aT|apply bf|apply ba
 all_goals first|omega|((try simp only [←eH,cf,du,bq,cW,cw,dv,B5,B6,B7,List.cons_append,List.nil_append,List.append_assoc,oO,kP,iK,List.length_append,List.length_cons,List.length_nil,bP,iI,iJ,co,eJ]) <;> (repeat' first|rfl|trivial|refine And.intro ?_ ?_) <;> first|omega|exact aP hB.2.1|exact aP hB.2.2|exact aP (by assumption)|exact dD (by assumption))|grind [am,ai,ah]
theorem vH:Ok Tryz.prog 31 KN:=bS 1000 mN (eK tL eN) lN (hn:=.nil) KP
theorem KQ(z:Sy)(hA:KO.pre z):Fm.den (let v0:=((1:Int)::(jb z 100++jb z 200));(.an (bj v0) (.an (65=65) (.an (65=65) (.ct (65<=1000000) (fun y0=>True) fun y0=>(.ax (hG (h_ (aO v0))=bb (hT z 100) (hT z 200)))))))):=by
 have hB:True/\HOk (hT z 100)/\HOk (hT z 200):=⟨trivial,hA⟩
 conv=>zeta
 repeat' with_reducible first|intro _|apply aV|apply aZ|apply aT|apply bf|apply ba
 all_goals first|omega|((try simp only [←eH,cf,du,bq,cW,cw,dv,B5,B6,B7,List.cons_append,List.nil_append,List.append_assoc,oO,kP,iK,List.length_append,List.length_cons,List.length_nil,bP,iI,iJ,co,eJ]) <;> (repeat' first|rfl|trivial|refine And.intro ?_ ?_) <;> first|omega|exact aP hB.2.1|exact aP hB.2.2|exact aP (by assumption)|exact dD (by assumption))|grind [am,ai,ah]
theorem ko:Ok Tryz.prog 30 KO:=bS 1000 mN (eK tL eN) lN (hn:=.nil) KQ
theorem GR(z:Sy)(hA:ED.pre z):Fm.den (let v0:=(aO ((2:Int)::jb z 100)++z.s 1);(.an (bj ((2:Int)::jb z 100)) (.an (33=33) (.an (33=33/\33<=1000000000/\(z.s 1).length<=1000000) (.an (v0.length=33+(z.s 1).length) (.ct (v0.length<=1000000) (fun y0=>True) fun y0=>(.ax (hG (h_ v0)=cy (hT z 100) (z.s 1))))))))):=by
 have hB:True/\HOk (hT z 100)/\(z.s 1).length<=900000:=⟨trivial,hA⟩
 conv=>zeta
 repeat' with_reducible first|intro _|apply aV|apply aZ|apply aT|apply bf|apply ba
 all_goals first|omega|((try simp only [←eH,cf,du,bq,cW,cw,dv,B5,B6,B7,List.cons_append,List.nil_append,List.append_assoc,oO,kP,iK,List.length_append,List.length_cons,List.length_nil,bP,iI,iJ,co,eJ]) <;> (repeat' first|rfl|trivial|refine And.intro ?_ ?_) <;> first|omega|exact aP hB.2.1|exact aP hB.2.2|exact aP (by assumption)|exact dD (by assumption))|grind [am,ai,ah]
theorem KR:Ok Tryz.prog 143 ED:=bS 1000 mN (eK tL eN) lN (hn:=.nil) GR
theorem KS(z:Sy)(hA:B9.pre z):Fm.den (let v0:=([Int.toNat (0:Int)]++z.s 1);(.an ((0:Int)<=0/\True) (.an (1=1) (.an (1=1/\1<=1000000000/\(z.s 1).length<=1000000) (.an (v0.length=1+(z.s 1).length) (.ct (v0.length<=1000000000) (fun y0=>True) fun y0=>(.ax (hG (fS v0)=aJ (z.s 1))))))))):=by
 have hB:True/\(z.s 1).length<=999999:=⟨trivial,hA⟩
 conv=>zeta
 repeat' with_reducible first|intro _|apply aV|apply aZ|apply aT|apply bf|apply ba
 all_goals first|omega|((try simp only [←eH,cf,du,bq,cW,cw,dv,B5,B6,B7,List.cons_append,List.nil_append,List.append_assoc,oO,kP,iK,List.length_append,List.length_cons,List.length_nil,bP,iI,iJ,co,eJ]) <;> (repeat' first|rfl|trivial|refine And.intro ?_ ?_) <;> first|omega|exact aP hB.2.1|exact aP hB.2.2|exact aP (by assumption)|exact dD (by assumption))|grind [am,ai,ah]
theorem EE:Ok Tryz.prog 165 B9:=bS 1000 mN (eK tJ eN) lN (hn:=.nil) KS
theorem KT(z:Sy)(hA:qT.pre z):Fm.den (let v0:=((1:Int)::(jb z 100++jb z 200));(.an (bj v0) (.an (65=65) (.an (65=65) (.ct (65<=1000000000) (fun y0=>True) fun y0=>(.ax (hG (fS (aO v0))=bb (hT z 100) (hT z 200)))))))):=by
 have hB:True/\HOk (hT z 100)/\HOk (hT z 200):=⟨trivial,hA⟩
 conv=>zeta
 repeat' with_reducible first|intro _|apply aV|apply aZ|apply aT|apply bf|apply ba
 all_goals first|omega|((try simp only [←eH,cf,du,bq,cW,cw,dv,B5,B6,B7,List.cons_append,List.nil_append,List.append_assoc,oO,kP,iK,List.length_append,List.length_cons,List.length_nil,bP,iI,iJ,co,eJ]) <;> (repeat' first|rfl|trivial|refine And.intro ?_ ?_) <;> first|omega|exact aP hB.2.1|exact aP hB.2.2|exact aP (by assumption)|exact dD (by assumption))|grind [am,ai,ah]
theorem vI:Ok Tryz.prog 196 qT:=bS 1000 mN (eK tJ eN) lN (hn:=.nil) KT
theorem GS(z:Sy)(hA:vG.pre z):Fm.den (let v0:=(aO ((2:Int)::jb z 100)++z.s 1);(.an (bj ((2:Int)::jb z 100)) (.an (33=33) (.an (33=33/\33<=1000000000/\(z.s 1).length<=1000000) (.an (v0.length=33+(z.s 1).length) (.ct (v0.length<=1000000000) (fun y0=>True) fun y0=>(.ax (hG (fS v0)=cy (hT z 100) (z.s 1))))))))):=by
 have hB:True/\HOk (hT z 100)/\(z.s 1).length<=900000:=⟨trivial,hA⟩
 conv=>zeta
 repeat' with_reducible first|intro _|apply aV|apply aZ|apply aT|apply bf|apply ba
 all_goals first|omega|((try simp only [←eH,cf,du,bq,cW,cw,dv,B5,B6,B7,List.cons_append,List.nil_append,List.append_assoc,oO,kP,iK,List.length_append,List.length_cons,List.length_nil,bP,iI,iJ,co,eJ]) <;> (repeat' first|rfl|trivial|refine And.intro ?_ ?_) <;> first|omega|exact aP hB.2.1|exact aP hB.2.2|exact aP (by assumption)|exact dD (by assumption))|grind [am,ai,ah]
theorem KU:Ok Tryz.prog 237 vG:=bS 1000 mN (eK tJ eN) lN (hn:=.nil) GS
noncomputable section
abbrev tP(l:List G)(i:Int):List Nat:=gS (aa (aq l i.toNat) 0)
def KV(l:List G)(i:Int):Prop:=(1<=(tP l i).length/\(tP l i).length<=40)/\(0<i->uo (tP l (i-1)) (tP l i)=true)
def eB(l:List G)(n:Int):Prop:=∀i:Int,0<=i->i<n->KV l i
theorem zF(l:List G){n:Int}(h:n<=0):eB l n:=fun i h0 h1=>by omega
theorem zG{l:List G}{n:Int}(h:eB l n)(h1:KV l n):eB l (n+1):=fun i h0 hi=>by
 by_cases e:i<n
 ·exact h i h0 e
 ·have:i=n:=by omega
  rw[this];exact h1
theorem KW{l:List G}{n m:Int}(h:eB l n)(e:m<=n):eB l m:=fun i h0 hi=>h i h0 (by omega)
theorem EF{l:List G}{n m:Int}(h:¬KV l n)(h0:0<=n)(h1:n<m):¬eB l m:=fun hh=>h (hh n h0 h1)
theorem vJ{l:List G}{n m:Int}(h:eB l m)(h0:0<=n)(h1:n<m):(tP l n).length<=40:=(h n h0 h1).1.2
def nN(ns ks:List G):Prop:=eB ns ns.length/\ns.length=ks.length
def xA(kd i sc:Int)(t:List Nat)(ns ks:List G):Prop:=
 if kd=1 then i=0/\sc=0/\ns.length=0/\ks.length=0/\t= [] else if kd=2 then(0<=i/\i<=1)/\sc=0/\ns.length=0/\ks.length=0/\t= [] else if kd=3 then sc=0/\ns.length=0/\ks.length=0/\t= [] else if kd=4 then(1<=sc/\sc<=18)/\i%10≠0/\ns.length=0/\ks.length=0/\t= [] else if kd=5 then(0<=i/\i<=9007199254740992)/\sc=0/\ns.length=0/\ks.length=0/\t= [] else if kd=6 then i=0/\sc=0/\ns.length=0/\ks.length=0 else if kd=7 then i=0/\sc=0/\ns.length=0/\ks.length=0 else if kd=8 then i=0/\sc=0/\ns.length=0/\t= [] else if kd=9 then i=0/\sc=0/\t= [] else False
theorem EG{kd i sc:Int}{t:List Nat}{ns ks:List G}(h:kd=1):xA kd i sc t ns ks↔i=0/\sc=0/\ns.length=0/\ks.length=0/\t= []:=by subst h;rfl
theorem EH{kd i sc:Int}{t:List Nat}{ns ks:List G}(h:kd=2):xA kd i sc t ns ks↔(0<=i/\i<=1)/\sc=0/\ns.length=0/\ks.length=0/\t= []:=by subst h;rfl
theorem zH{kd i sc:Int}{t:List Nat}{ns ks:List G}(h:kd=3):xA kd i sc t ns ks↔sc=0/\ns.length=0/\ks.length=0/\t= []:=by subst h;rfl
theorem EI{kd i sc:Int}{t:List Nat}{ns ks:List G}(h:kd=4):xA kd i sc t ns ks↔(1<=sc/\sc<=18)/\i%10≠0/\ns.length=0/\ks.length=0/\t= []:=by subst h;rfl
theorem tQ{kd i sc:Int}{t:List Nat}{ns ks:List G}(h:kd=5):xA kd i sc t ns ks↔(0<=i/\i<=9007199254740992)/\sc=0/\ns.length=0/\ks.length=0/\t= []:=by subst h;rfl
theorem EJ{kd i sc:Int}{t:List Nat}{ns ks:List G}(h:kd=6):xA kd i sc t ns ks↔i=0/\sc=0/\ns.length=0/\ks.length=0:=by subst h;rfl
theorem EK{kd i sc:Int}{t:List Nat}{ns ks:List G}(h:kd=7):xA kd i sc t ns ks↔i=0/\sc=0/\ns.length=0/\ks.length=0:=by subst h;rfl
theorem EL{kd i sc:Int}{t:List Nat}{ns ks:List G}(h:kd=8):xA kd i sc t ns ks↔i=0/\sc=0/\ns.length=0/\t= []:=by subst h;rfl
theorem KX{kd i sc:Int}{t:List Nat}{ns ks:List G}(h:kd=9):xA kd i sc t ns ks↔i=0/\sc=0/\t= []:=by subst h;rfl
theorem tR{kd i sc:Int}{t:List Nat}{ns ks:List G}(h:kd<1∨9<kd):¬xA kd i sc t ns ks:=by
 unfold xA
 rw[if_neg (by omega),if_neg (by omega),if_neg (by omega),if_neg (by omega),if_neg (by omega),if_neg (by omega),if_neg (by omega),if_neg (by omega),if_neg (by omega)]
 exact id
open Classical in
def nO(kd i sc:Int)(t:List Nat)(ns ks:List G):Int:=
 if ¬xA kd i sc t ns ks then 3 else if 16384<t.length∨200<ks.length then 5 else if kd=9/\¬nN ns ks then 3 else 0
theorem zI{kd i sc:Int}{t:List Nat}{ns ks:List G}(h:¬xA kd i sc t ns ks):nO kd i sc t ns ks=3:=by unfold nO;rw[if_pos h]
theorem zJ{kd i sc:Int}{t:List Nat}{ns ks:List G}(h:xA kd i sc t ns ks)(h1:16384<t.length∨200<ks.length):nO kd i sc t ns ks=5:=by unfold nO;rw[if_neg (Classical.not_not.2 h),if_pos h1]
theorem zK{kd i sc:Int}{t:List Nat}{ns ks:List G}(h:xA kd i sc t ns ks)(h1:¬(16384<t.length∨200<ks.length))(h2:kd=9/\¬nN ns ks):nO kd i sc t ns ks=3:=by unfold nO;rw[if_neg (Classical.not_not.2 h),if_neg h1,if_pos h2]
theorem B_{kd i sc:Int}{t:List Nat}{ns ks:List G}(h:xA kd i sc t ns ks)(h1:¬(16384<t.length∨200<ks.length))(h2:¬(kd=9/\¬nN ns ks)):nO kd i sc t ns ks=0:=by unfold nO;rw[if_neg (Classical.not_not.2 h),if_neg h1,if_neg h2]
theorem iL{kd i sc:Int}{t:List Nat}{ns ks:List G}(h:nO kd i sc t ns ks=0):xA kd i sc t ns ks/\t.length<=16384/\ks.length<=200/\(kd=9->nN ns ks):=by
 unfold nO at h
 split at h
 ·cases h
 ·rename_i h0
  split at h
  ·cases h
  ·rename_i h1
   split at h
   ·cases h
   ·rename_i h2
    exact⟨Classical.not_not.1 h0,by omega,by omega,fun e=>Classical.not_not.1 fun hn=>h2 ⟨e,hn⟩⟩
theorem UX(x:Int):x.tmod 10=0↔x%10=0:=by
 rw[Int.tmod_eq_emod]
 split
 ·simp
 ·constructor
  ·intro h;omega
  ·intro h
   rename_i hn
   exact absurd (Or.inr (abz h)) hn
def sy:List Int->Int
 | []=>0
 |x::l=>if x=0 then sy l else x
def GT:Nat->G->Int
 |0,_=>9
 |k+1,g=>if nO (gI (aa g 0)) (gI (aa g 1)) (gI (aa g 2)) (gS (aa g 3)) (gL (aa g 4)) (gL (aa g 5))=0 then sy ((gL (aa g 5)).map (GT k)) else nO (gI (aa g 0)) (gI (aa g 1)) (gI (aa g 2)) (gS (aa g 3)) (gL (aa g 4)) (gL (aa g 5))
def ci(k:Nat)(ks:List G)(i:Int):Int:=sy ((ks.drop i.toNat).map (GT k))
def dw(k:Nat)(kd i sc:Int)(t:List Nat)(ns ks:List G):Int:=match k with
 |0=>9
 |k+1=>if nO kd i sc t ns ks=0 then ci k ks 0 else nO kd i sc t ns ks
theorem gE(k:Nat)(g:G):dw k (gI (aa g 0)) (gI (aa g 1)) (gI (aa g 2)) (gS (aa g 3)) (gL (aa g 4)) (gL (aa g 5))=GT k g:=by cases k <;> rfl
theorem fU(kd i sc:Int)(t:List Nat)(ns ks:List G):dw 0 kd i sc t ns ks=9:=rfl
theorem iM{k:Nat}{kd i sc:Int}{t:List Nat}{ns ks:List G}(h:¬nO kd i sc t ns ks=0):dw (k+1) kd i sc t ns ks=nO kd i sc t ns ks:=if_neg h
theorem jM{k:Nat}{kd i sc:Int}{t:List Nat}{ns ks:List G}(h:nO kd i sc t ns ks=0):dw (k+1) kd i sc t ns ks=ci k ks 0:=if_pos h
theorem dQ{l:List G}{i:Int}(h0:0<=i)(h:i<l.length):l.drop i.toNat=aq l i.toNat::l.drop (i+1).toNat:=by
 have h1:i.toNat<l.length:=by omega
 rw[aaU h1,show(i+1).toNat=i.toNat+1 by omega]
 congr 1
 unfold aq
 rw[aag,aah h1];rfl
theorem zL{k:Nat}{ks:List G}{i:Int}(h0:0<=i)(h:i<ks.length)(e:GT k (aq ks i.toNat)=0):ci k ks i=ci k ks (i+1):=by
 unfold ci;rw[dQ h0 h,aaB,sy,if_pos e]
theorem EM{k:Nat}{ks:List G}{i:Int}(h0:0<=i)(h:i<ks.length)(e:¬GT k (aq ks i.toNat)=0):ci k ks i=GT k (aq ks i.toNat):=by
 unfold ci;rw[dQ h0 h,aaB,sy,if_neg e]
theorem po{k:Nat}{ks:List G}{i:Int}(h:(ks.length:Int)<=i):ci k ks i=0:=by
 unfold ci;rw[aaK (by omega)];rfl
theorem qU:∀{l:List Int},sy l=0->∀x∈l,x=0
 | [],_,x,hx=>by cases hx
 |y::l,h,x,hx=>by
  unfold sy at h
  split at h
  ·rename_i e
   rcases List.mem_cons.1 hx with rfl|hx
   ·exact e
   ·exact qU h x hx
  ·rename_i e;exact absurd h e
theorem bZ{l:List G}{i:Int}(h0:0<=i)(h:i<l.length):aq l i.toNat∈l:=by
 have h1:i.toNat<l.length:=by omega
 unfold aq
 rw[aag,aah h1]
 exact abe _
theorem iN{k:Nat}{ks:List G}{i:Int}(h:ci k ks 0=0)(h0:0<=i)(hi:i<ks.length):GT k (aq ks i.toNat)=0:=
 qU h _ (List.mem_map_of_mem (by rw[show(0:Int).toNat=0 by rfl,aaL];exact bZ h0 hi))
def na(v:Int):Int:=if 0<=v then 2 * v else -2 * v-1
theorem KY{a:Nat}(h:a<18446744073709551616):Nat.xor a 18446744073709551615=18446744073709551615-a:=by
 show a ^^^ 18446744073709551615=_
 refine Nat.eq_of_testBit_eq fun i=>?_
 rw[Nat.testBit_xor,show 18446744073709551615-a=2 ^ 64-(a+1) by omega,Nat.testBit_two_pow_sub_succ (by simpa using h),show 18446744073709551615=2 ^ 64-1 by decide,Nat.testBit_two_pow_sub_one]
 by_cases hi:i<64
 ·simp [hi]
 ·simp [hi]
  exact Nat.testBit_lt_two_pow (abb (by simpa using h:a<2 ^ 64) (abj (by decide) (by omega)))
theorem Q5{n:Int}(h0:0<=n)(h:n<18446744073709551616):aL (aj .u64) n=n.toNat:=by
 obtain⟨m,rfl⟩:∃m:Nat,n=m:=⟨n.toNat,by omega⟩
 show m%18446744073709551616=_
 rw[aa3 (by omega)];rfl
theorem Ss{v x:Int}(h: -9223372036854775808<=v/\v<9223372036854775808)(hx:x=v * 2%18446744073709551616):IntKind.u64.wrap (Int.ofNat ((aL (aj .u64) x).xor (aL (aj .u64) (v/9223372036854775808%18446744073709551616))))=na v:=by
 subst hx
 rw[nJ,Q5 (by omega) (by omega),Q5 (by omega) (by omega)]
 unfold na
 split
 ·rw[show(v/9223372036854775808%18446744073709551616).toNat=0 by omega]
  have e:((v * 2%18446744073709551616).toNat).xor 0=(v * 2%18446744073709551616).toNat:=Nat.xor_zero _
  rw[e]
  show((v * 2%18446744073709551616).toNat:Int)%_=_
  omega
 ·rw[show(v/9223372036854775808%18446744073709551616).toNat=18446744073709551615 by omega,KY (by omega)]
  show((18446744073709551615-(v * 2%18446744073709551616).toNat:Nat):Int)%_=_
  omega
theorem Su(x:Int):IntKind.i64.wrap x%18446744073709551616=x%18446744073709551616:=by
 have key:∀(c:Bool) (a b:Int),a%18446744073709551616=x%18446744073709551616->b%18446744073709551616=x%18446744073709551616->(if c=true then a else b)%18446744073709551616=x%18446744073709551616:=fun c a b h1 h2=>by cases c <;> simp [h1,h2]
 exact key _ _ _ (by show(x%18446744073709551616-18446744073709551616)%_=_;omega) (by show(x%18446744073709551616)%_=_;omega)
theorem OX{v:Int}(h:0<=v):na v=2 * v:=if_pos h
theorem OY{v:Int}(h:v<0):na v= -2 * v-1:=if_neg (by omega)
def Sv(e:G->List Nat)(kd:Int)(ns ks:List G):Nat->Int->List Nat
 |0,_=>[]
 |n+1,i=>(if kd=9 then aI (tP ns i).length++tP ns i else [])++(e (aq ks i.toNat)++Sv e kd ns ks n (i+1))
def nb(e:G->List Nat)(kd:Int)(ns ks:List G)(i:Int):List Nat:=Sv e kd ns ks ((ks.length:Int)-i).toNat i
theorem zM{e:G->List Nat}{kd:Int}{ns ks:List G}{i:Int}(h0:kd=9)(h:i<ks.length):nb e kd ns ks i=aI (tP ns i).length++(tP ns i++(e (aq ks i.toNat)++nb e kd ns ks (i+1))):=by
 unfold nb;rw[show((ks.length:Int)-i).toNat=((ks.length:Int)-(i+1)).toNat+1 by omega]
 show(if kd=9 then _ else _)++_=_
 rw[if_pos h0,aau]
theorem zN{e:G->List Nat}{kd:Int}{ns ks:List G}{i:Int}(h0:¬kd=9)(h:i<ks.length):nb e kd ns ks i=e (aq ks i.toNat)++nb e kd ns ks (i+1):=by
 unfold nb;rw[show((ks.length:Int)-i).toNat=((ks.length:Int)-(i+1)).toNat+1 by omega]
 show(if kd=9 then _ else _)++_=_
 rw[if_neg h0];rfl
theorem EN{e:G->List Nat}{kd:Int}{ns ks:List G}{i:Int}(h:(ks.length:Int)<=i):nb e kd ns ks i= []:=by
 unfold nb;rw[show((ks.length:Int)-i).toNat=0 by omega];rfl
def GU(e:G->List Nat)(kd i sc:Int)(t:List Nat)(ns ks:List G):List Nat:=
 if kd=2 then [(i%256).toNat] else if kd=3 then aI (na i).toNat else if kd=4 then aI (na i).toNat++ [(sc%256).toNat] else if kd=5 then aI (i%18446744073709551616).toNat
 else if kd=6∨kd=7 then aI t.length++t else if kd=8∨kd=9 then aI ks.length++nb e kd ns ks 0 else []
def ib:Nat->G->List Nat
 |0,_=>[]
 |k+1,g=>(gI (aa g 0)%256).toNat::GU (ib k) (gI (aa g 0)) (gI (aa g 1)) (gI (aa g 2)) (gS (aa g 3)) (gL (aa g 4)) (gL (aa g 5))
def da(k:Nat)(kd i sc:Int)(t:List Nat)(ns ks:List G):List Nat:=match k with
 |0=>[]
 |k+1=>(kd%256).toNat::GU (ib k) kd i sc t ns ks
theorem qV(k:Nat)(g:G):da k (gI (aa g 0)) (gI (aa g 1)) (gI (aa g 2)) (gS (aa g 3)) (gL (aa g 4)) (gL (aa g 5))=ib k g:=by cases k <;> rfl
theorem qW(k:Nat){kd i sc:Int}{t:List Nat}{ns ks:List G}(h:kd=2):da (k+1) kd i sc t ns ks= [(kd%256).toNat]++ [(i%256).toNat]:=by simp [da,GU,h]
theorem pp(k:Nat){kd i sc:Int}{t:List Nat}{ns ks:List G}(h:kd=3):da (k+1) kd i sc t ns ks= [(kd%256).toNat]++aI (na i).toNat:=by simp [da,GU,h]
theorem vK(k:Nat){kd i sc:Int}{t:List Nat}{ns ks:List G}(h:kd=4):da (k+1) kd i sc t ns ks= [(kd%256).toNat]++(aI (na i).toNat++ [(sc%256).toNat]):=by simp [da,GU,h]
theorem qX(k:Nat){kd i sc:Int}{t:List Nat}{ns ks:List G}(h:kd=5):da (k+1) kd i sc t ns ks= [(kd%256).toNat]++aI (i%18446744073709551616).toNat:=by simp [da,GU,h]
theorem mF(k:Nat){kd i sc:Int}{t:List Nat}{ns ks:List G}(h:kd=6∨kd=7):da (k+1) kd i sc t ns ks= [(kd%256).toNat]++(aI t.length++t):=by rcases h with h|h <;> simp [da,GU,h]
theorem qY(k:Nat){kd i sc:Int}{t:List Nat}{ns ks:List G}(h:kd=8∨kd=9):da (k+1) kd i sc t ns ks= [(kd%256).toNat]++(aI ks.length++nb (ib k) kd ns ks 0):=by rcases h with h|h <;> simp [da,GU,h]
theorem qZ(k:Nat){kd i sc:Int}{t:List Nat}{ns ks:List G}(h:kd<2∨9<kd):da (k+1) kd i sc t ns ks= [(kd%256).toNat]:=by
 show _::GU _ _ _ _ _ _ _=_
 unfold GU
 rw[if_neg (by omega),if_neg (by omega),if_neg (by omega),if_neg (by omega),if_neg (by omega),if_neg (by omega)]
def Ub(w:G->Nat)(ks:List G):Nat->Int->Nat
 |0,_=>0
 |n+1,i=>50+w (aq ks i.toNat)+Ub w ks n (i+1)
def pq(w:G->Nat)(ks:List G)(i:Int):Nat:=Ub w ks ((ks.length:Int)-i).toNat i
theorem zO{w:G->Nat}{ks:List G}{i:Int}(h:i<ks.length):pq w ks i=50+w (aq ks i.toNat)+pq w ks (i+1):=by
 unfold pq;rw[show((ks.length:Int)-i).toNat=((ks.length:Int)-(i+1)).toNat+1 by omega];rfl
def jN:Nat->G->Nat
 |0,_=>0
 |k+1,g=>24+(gS (aa g 3)).length+pq (jN k) (gL (aa g 5)) 0
def nP(k:Nat)(t:List Nat)(ks:List G):Nat:=match k with
 |0=>0
 |k+1=>24+t.length+pq (jN k) ks 0
theorem vL(k:Nat)(g:G):nP k (gS (aa g 3)) (gL (aa g 5))=jN k g:=by cases k <;> rfl
theorem zP(k:Nat)(t:List Nat)(ks:List G):nP (k+1) t ks=24+t.length+pq (jN k) ks 0:=rfl
def KZ:Nat->G->Prop
 |0,_=>True
 |k+1,g=>((-9223372036854775808<=gI (aa g 1)/\gI (aa g 1)<9223372036854775808)/\(gS (aa g 3)).length<=1000000/\(gL (aa g 4)).length<=1000000/\(gL (aa g 5)).length<=1000000)/\∀x∈gL (aa g 5),KZ k x
def A1(k:Nat)(ks:List G):Prop:=∀x∈ks,KZ k x
def lA(k:Nat)(i:Int)(t:List Nat)(ns ks:List G):Prop:=match k with
 |0=>True
 |k+1=>((-9223372036854775808<=i/\i<9223372036854775808)/\t.length<=1000000/\ns.length<=1000000/\ks.length<=1000000)/\A1 k ks
theorem nQ(k:Nat)(g:G):lA k (gI (aa g 1)) (gS (aa g 3)) (gL (aa g 4)) (gL (aa g 5))=KZ k g:=by cases k <;> rfl
theorem pu{k:Nat}{i:Int}{t:List Nat}{ns ks:List G}(h:lA (k+1) i t ns ks):(-9223372036854775808<=i/\i<9223372036854775808)/\t.length<=1000000/\ns.length<=1000000/\ks.length<=1000000:=h.1
theorem mG{k:Nat}{i:Int}{t:List Nat}{ns ks:List G}(h:lA (k+1) i t ns ks):A1 k ks:=h.2
theorem mH{k:Nat}{ks:List G}{i:Int}(h:A1 k ks)(h0:0<=i)(hi:i<ks.length):KZ k (aq ks i.toNat):=h _ (bZ h0 hi)
theorem EO{k:Nat}{g:G}(h:GT (k+1) g=0):nO (gI (aa g 0)) (gI (aa g 1)) (gI (aa g 2)) (gS (aa g 3)) (gL (aa g 4)) (gL (aa g 5))=0/\ci k (gL (aa g 5)) 0=0:=by
 rw[←gE] at h
 by_cases e:nO (gI (aa g 0)) (gI (aa g 1)) (gI (aa g 2)) (gS (aa g 3)) (gL (aa g 4)) (gL (aa g 5))=0
 ·rw[jM e] at h;exact⟨e,h⟩
 ·rw[iM e] at h;exact absurd h e
theorem vM{v:Int}(h: -9223372036854775808<=v/\v<9223372036854775808):0<=na v/\na v<18446744073709551616:=by unfold na;split <;> omega
theorem EP{k:Nat}(ih:∀g,GT k g=0->KZ k g->(ib k g).length<=jN k g){kd:Int}{ns ks:List G}(hk:ci k ks 0=0)(hv:A1 k ks)(hn:kd=9->eB ns ks.length):∀(n:Nat) (i:Int),0<=i->i+n=ks.length->(Sv (ib k) kd ns ks n i).length<=Ub (jN k) ks n i
 |0,_,_,_=>aaa _
 |n+1,i,h0,hi=>by
  have h1:=EP ih hk hv hn n (i+1) (by omega) (by omega)
  have h2:=ih _ (iN hk h0 (by omega)) (mH hv h0 (by omega))
  have h3:(if kd=9 then aI (tP ns i).length++tP ns i else []).length<=50:=by
   split
   ·rename_i e
    have:=vJ (hn e) h0 (n:=i) (by omega)
    rw[aai]
    have:=vy 1 (tP ns i).length (by omega) (by decide)
    omega
   ·simp
  show((if kd=9 then aI (tP ns i).length++tP ns i else [])++(ib k (aq ks i.toNat)++Sv (ib k) kd ns ks n (i+1))).length<=50+jN k (aq ks i.toNat)+Ub (jN k) ks n (i+1)
  rw[aai,aai]
  omega
theorem pw:∀(k:Nat) (g:G),GT k g=0->KZ k g->(ib k g).length<=jN k g
 |0,_,_,_=>aaa _
 |k+1,g,h,hv=>by
  obtain⟨hs,h⟩:=EO h
  obtain⟨h1,h2,h3,h4⟩:=iL hs
  have u10:∀n:Nat,n<18446744073709551616->(aI n).length<=10:=fun n hn=>vy 10 n (abb hn (by decide)) (by decide)
  have hz:∀i:Int,0<=(i%18446744073709551616)/\(i%18446744073709551616).toNat<18446744073709551616:=fun i=>by omega
  have hf:(nb (ib k) (gI (aa g 0)) (gL (aa g 4)) (gL (aa g 5)) 0).length<=pq (jN k) (gL (aa g 5)) 0:=
   EP (pw k) h hv.2 (fun e=>by have:=(h4 e).1;rw[(h4 e).2] at this;exact this) _ 0 (by decide) (by omega)
  show((gI (aa g 0)%256).toNat::GU (ib k) (gI (aa g 0)) (gI (aa g 1)) (gI (aa g 2)) (gS (aa g 3)) (gL (aa g 4)) (gL (aa g 5))).length<=24+(gS (aa g 3)).length+pq (jN k) (gL (aa g 5)) 0
  rw[aao]
  have ak9:(aI (na (gI (aa g 1))).toNat).length<=10:=u10 _ (by have:=vM hv.1.1;omega)
  have:(GU (ib k) (gI (aa g 0)) (gI (aa g 1)) (gI (aa g 2)) (gS (aa g 3)) (gL (aa g 4)) (gL (aa g 5))).length<=23+(gS (aa g 3)).length+pq (jN k) (gL (aa g 5)) 0:=by
   unfold GU
   split
   ·simp;omega
   ·split
    ·omega
    ·split
     ·rw[aai];simp;omega
     ·split
      ·have:=u10 _ (hz (gI (aa g 1))).2;omega
      ·split
       ·rw[aai];have:=u10 (gS (aa g 3)).length (by omega);omega
       ·split
        ·rw[aai];have:=u10 (gL (aa g 5)).length (by omega);omega
        ·simp
  omega
def Sw:Nat->G->Nat
 |0,_=>0
 |k+1,g=>1+(gS (aa g 3)).length+((gL (aa g 5)).map (Sw k)).sum
def tS(k:Nat)(ks:List G)(i:Int):Nat:=((ks.drop i.toNat).map (Sw k)).sum
def OZ(k:Nat)(t:List Nat)(ks:List G):Nat:=match k with
 |0=>0
 |k+1=>1+t.length+tS k ks 0
theorem K0(k:Nat)(t:List Nat)(ks:List G):OZ (k+1) t ks=1+t.length+tS k ks 0:=rfl
theorem Ca(k:Nat)(g:G):OZ k (gS (aa g 3)) (gL (aa g 5))=Sw k g:=by cases k <;> rfl
theorem zQ{k:Nat}{ks:List G}{i:Int}(h0:0<=i)(h:i<ks.length):tS k ks i=Sw k (aq ks i.toNat)+tS k ks (i+1):=by
 unfold tS;rw[dQ h0 h,aaB,List.sum_cons]
theorem vN{k:Nat}{ks:List G}{i:Int}(h:(ks.length:Int)<=i):tS k ks i=0:=by
 unfold tS;rw[aaK (by omega)];rfl
theorem K1{k:Nat}(ih:∀g,GT k g=0->Sw k g<=(ib k g).length){kd:Int}{ns ks:List G}(hk:ci k ks 0=0):∀(n:Nat) (i:Int),0<=i->i+n=ks.length->tS k ks i<=(Sv (ib k) kd ns ks n i).length
 |0,i,h0,h=>by rw[vN (by omega)];exact aal _
 |n+1,i,h0,hi=>by
  have h1:=K1 ih hk (kd:=kd) (ns:=ns) n (i+1) (by omega) (by omega)
  have h2:=ih _ (iN hk h0 (by omega))
  rw[zQ h0 (by omega)]
  show _<=((if kd=9 then aI (tP ns i).length++tP ns i else [])++(ib k (aq ks i.toNat)++Sv (ib k) kd ns ks n (i+1))).length
  rw[aai,aai]
  omega
theorem K2:∀(k:Nat) (g:G),GT k g=0->Sw k g<=(ib k g).length
 |0,_,_=>aal _
 |k+1,g,h=>by
  obtain⟨hs,h⟩:=EO h
  obtain⟨h1,h2,h3,h4⟩:=iL hs
  rw[←qV, ←Ca]
  have hp:=K1 (K2 k) (kd:=gI (aa g 0)) (ns:=gL (aa g 4)) h (((gL (aa g 5)).length:Int)-0).toNat 0 (by decide) (by omega)
  have hk8:∀n:Nat,1<=(aI n).length:=fun n=>by rw[aI];split <;> simp
  show 1+_+tS k _ 0<=_
  have hd:gI (aa g 0)=1∨gI (aa g 0)=2∨gI (aa g 0)=3∨gI (aa g 0)=4∨gI (aa g 0)=5∨gI (aa g 0)=6∨gI (aa g 0)=7∨gI (aa g 0)=8∨gI (aa g 0)=9:=by
   by_cases e:gI (aa g 0)<1∨9<gI (aa g 0)
   ·exact absurd h1 (tR e)
   ·omega
  have e0:(gL (aa g 5)).length=0->tS k (gL (aa g 5)) 0=0:=fun e=>vN (by omega)
  have hl:(gI (aa g 0)=8∨gI (aa g 0)=9)->gS (aa g 3)= []->1+(gS (aa g 3)).length+tS k (gL (aa g 5)) 0<=(da (k+1) (gI (aa g 0)) (gI (aa g 1)) (gI (aa g 2)) (gS (aa g 3)) (gL (aa g 4)) (gL (aa g 5))).length:=fun e ht=>by
   rw[qY k e,ht]
   have:=hk8 (gL (aa g 5)).length
   simp only [aai,aao,List.length_nil]
   show 1+0+_<=0+1+(_+(Sv (ib k) _ _ _ _ 0).length)
   omega
  rcases hd with e|e|e|e|e|e|e|e|e
  ·have v:=(EG e).1 h1;rw[qZ k (by omega),v.2.2.2.2,e0 v.2.2.2.1];simp
  ·have v:=(EH e).1 h1;rw[qW k e,v.2.2.2.2,e0 v.2.2.2.1];simp
  ·have v:=(zH e).1 h1;rw[pp k e,v.2.2.2,e0 v.2.2.1];simp
  ·have v:=(EI e).1 h1;rw[vK k e,v.2.2.2.2,e0 v.2.2.2.1];simp
  ·have v:=(tQ e).1 h1;rw[qX k e,v.2.2.2.2,e0 v.2.2.2.1];simp
  ·have v:=(EJ e).1 h1;rw[mF k (.inl e),e0 v.2.2.2];simp;omega
  ·have v:=(EK e).1 h1;rw[mF k (.inr e),e0 v.2.2.2];simp;omega
  ·have v:=(EL e).1 h1;exact hl (.inl e) v.2.2.2
  ·have v:=(KX e).1 h1;exact hl (.inr e) v.2.2
def va:List Sh:=[.i .i64 1,.i .i64 2,.i .i64 3,.s 4,.v 1 5,.v 2 6]
def vp(p:Sy):List Sh:=[.pi .i64 (p.i 1),.pi .i64 (p.i 2),.pi .i64 (p.i 3),.ps (p.s 4),.pv 1 (p.g 5),.pv 2 (p.g 6)]
abbrev Xb(z:Sy):Int:=nO (z.i 1) (z.i 2) (z.i 3) (z.s 4) (z.g 5) (z.g 6)
abbrev tT(k:Nat)(z:Sy):Int:=dw k (z.i 1) (z.i 2) (z.i 3) (z.s 4) (z.g 5) (z.g 6)
abbrev vO(k:Nat)(z:Sy):Prop:=lA k (z.i 2) (z.s 4) (z.g 5) (z.g 6)
abbrev K3(k:Nat)(z:Sy):List Nat:=da k (z.i 1) (z.i 2) (z.i 3) (z.s 4) (z.g 5) (z.g 6)
def lB(p:Sy):LSpec:={tmps:=[(1,.c (.p 0)),(6,.c (.pv 1 (p.g 5))),(7,.c (.pi .i64 (p.g 5).length)),(8,.c (.i .i64 9))],blk:=[.cells 46 (vp p)],inv:=fun z=>(p.g 5).length<=1000000/\(0<=z.i 9/\z.i 9<=(p.g 5).length)/\eB (p.g 5) (z.i 9),mu:=fun z=>((p.g 5).length-z.i 9).toNat,alts:=[⟨.exit 0,[(1,.c (.p 0))],[.cells 46 (vp p)]⟩,⟨.ret,[(2,.c (.b 10))],[.cells 46 (vp p)]⟩],post:=fun z y=>(y.i 999=0->eB (p.g 5) (p.g 5).length)/\(¬y.i 999=0->¬y.p 10/\¬eB (p.g 5) (p.g 5).length)}
def q_:FSpec:={args:=[.ag va],blk:=[],pre:=fun z=>(z.g 5).length<=1000000,res:=fun _=>.one (.c (.b 10)),out:=fun _=>[],post:=fun z y=>y.p 10↔nN (z.g 5) (z.g 6)}
def vP:FSpec:={args:=[.ag va],blk:=[],pre:=fun z=>(z.s 4).length<=1000000/\(z.g 5).length<=1000000/\(z.g 6).length<=1000000,res:=fun _=>.one (.c (.i .i64 10)),out:=fun _=>[],post:=fun z y=>y.i 10=Xb z}
def nR(k:Nat)(p:Sy):LSpec:={tmps:=[(1,.c (.pi .i64 (p.i 7))),(17,.c (.pv 2 (p.g 6))),(18,.c (.pi .i64 (p.g 6).length)),(19,.c (.i .i64 9))],blk:=[],inv:=fun z=>p.i 7=16-(k:Int)/\k<=15/\A1 k (p.g 6)/\(p.g 6).length<=1000000/\(0<=z.i 9/\z.i 9<=(p.g 6).length)/\ci k (p.g 6) 0=ci k (p.g 6) (z.i 9),mu:=fun z=>((p.g 6).length-z.i 9).toNat,alts:=[⟨.exit 0,[],[]⟩,⟨.ret,[(4,.c (.i .i64 10))],[]⟩],post:=fun z y=>(y.i 999=0->ci k (p.g 6) 0=0)/\(¬y.i 999=0->y.i 10=ci k (p.g 6) 0)}
def dm(k:Nat):FSpec:={args:=[.ag va,.c (.i .i64 7)],blk:=[],pre:=fun z=>z.i 7=17-(k:Int)/\k<=16/\vO k z,res:=fun _=>.one (.c (.i .i64 10)),out:=fun _=>[],post:=fun z y=>y.i 10=tT k z}
def mI:FSpec:={args:=[.ag va],blk:=[],pre:=fun z=>vO 16 z,res:=fun _=>.one (.c (.i .i64 10)),out:=fun _=>[],post:=fun z y=>y.i 10=tT 16 z}
def nS(p:Sy):LSpec:={tmps:=[(0,.ag (vp p)),(2,.c (.p 0)),(1,.c (.pi .i64 (p.i 7))),(7,.c (.i .i64 9))],blk:=[.cells 46 (vp p)],inv:=fun z=>(p.g 5).length<=1000000/\(0<=z.i 9/\z.i 9<=(p.g 5).length)/\eB (p.g 5) (z.i 9),mu:=fun z=>((p.g 5).length-z.i 9).toNat,alts:=[⟨.exit 1,[(0,.ag (vp p)),(1,.c (.pi .i64 (p.i 7))),(2,.c (.p 0))],[.cells 46 (vp p)]⟩,⟨.ret,[(4,.c (.i .i64 10))],[.cells 46 (vp p)]⟩],post:=fun z y=>(y.i 999=0->eB (p.g 5) (p.g 5).length)/\(¬y.i 999=0->y.i 10=3/\¬eB (p.g 5) (p.g 5).length)}
def nT(k:Nat)(p:Sy):LSpec:={tmps:=[(1,.c (.pi .i64 (p.i 7))),(2,.c (.p 0)),(8,.c (.i .i64 9))],blk:=[.cells 46 (vp p)],inv:=fun z=>p.i 7=16-(k:Int)/\k<=15/\A1 k (p.g 6)/\(p.g 6).length<=1000000/\(0<=z.i 9/\z.i 9<=(p.g 6).length)/\ci k (p.g 6) 0=ci k (p.g 6) (z.i 9),mu:=fun z=>((p.g 6).length-z.i 9).toNat,alts:=[⟨.exit 3,[],[.cells 46 (vp p)]⟩,⟨.ret,[(4,.c (.i .i64 10))],[.cells 46 (vp p)]⟩],post:=fun z y=>(y.i 999=0->ci k (p.g 6) 0=0)/\(¬y.i 999=0->y.i 10=ci k (p.g 6) 0)}
abbrev px:=dm
abbrev vQ:=mI
def O0:FSpec:={args:=[.c (.i .i64 1)],blk:=[],pre:=fun z=>-9223372036854775808<=z.i 1/\z.i 1<9223372036854775808,res:=fun z=>.one (.c (.pi .u64 (na (z.i 1)))),out:=fun _=>[],post:=fun z y=>True}
abbrev K4:=O0
def K5:FSpec:={args:=[.c (.i .u64 1),.c (.p 0)],blk:=[.cells 62 [.gb 1 20],.growb 5 20],pre:=fun z=>(0<=z.i 1/\z.i 1<18446744073709551616)/\(z.s 20).length<=900000000,res:=fun _=>.tu [],out:=fun _=>[.cells 62 [.gb 1 20],.growb 5 20],post:=fun z y=>y.s 20=z.s 20++aI (z.i 1).toNat}
def Sx(p:Sy):List BSh:=[.cells 62 [.gb 1 20],.growb 5 20,.cells 46 (vp p)]
abbrev Wb(k:Nat)(p:Sy):Prop:=(p.i 1=9->eB (p.g 5) (p.g 6).length/\(p.g 5).length=(p.g 6).length)/\ci k (p.g 6) 0=0/\A1 k (p.g 6)/\(p.g 6).length<=200
def Cb(k:Nat)(p:Sy):LSpec:={tmps:=[(2,.c (.p 0)),(3,.c (.p 2)),(5,.c (.fn 260 0)),(75,.c (.pv 2 (p.g 6))),(76,.c (.pi .i64 (p.g 6).length)),(77,.c (.i .i64 9))],blk:=Sx p,inv:=fun z=>Wb k p/\(0<=z.i 9/\z.i 9<=(p.g 6).length)/\(z.s 20).length+pq (jN k) (p.g 6) (z.i 9)<=100000000,mu:=fun z=>((p.g 6).length-z.i 9).toNat,alts:=[⟨.exit 1,[(2,.c (.p 0))],Sx p⟩],post:=fun z y=>y.s 20=z.s 20++nb (ib k) (p.i 1) (p.g 5) (p.g 6) (z.i 9)}
def GV(k:Nat):FSpec:={args:=[.c (.gb 0 20),.ag va],blk:=[.growb 5 20],pre:=fun z=>tT k z=0/\vO k z/\(z.s 20).length+nP k (z.s 4) (z.g 6)<=100000000,res:=fun _=>.one (.c (.gb 0 20)),out:=fun _=>[.growb 5 20],post:=fun z y=>y.s 20=z.s 20++K3 k z}
def rc(k:Nat)(p:Sy):LSpec:={tmps:=[(0,.c (.gb 1 20)),(3,.c (.p 0)),(5,.c (.i .i64 9))],blk:=[.cells 46 (vp p),.growb 5 20],inv:=fun z=>Wb k p/\(0<=z.i 9/\z.i 9<=(p.g 6).length)/\(z.s 20).length+pq (jN k) (p.g 6) (z.i 9)<=100000000,mu:=fun z=>((p.g 6).length-z.i 9).toNat,alts:=[⟨.exit 1,[(0,.c (.gb 1 20))],[.cells 46 (vp p),.growb 5 20]⟩],post:=fun z y=>y.s 20=z.s 20++nb (ib k) (p.i 1) (p.g 5) (p.g 6) (z.i 9)}
abbrev vR:=GV
def K6:FSpec:={args:=[.c (.gb 0 20),.c (.s 2)],blk:=[.growb 5 20],pre:=fun z=>(z.s 2).length<=100000/\(z.s 20).length<=200000000,res:=fun _=>.one (.c (.gb 0 20)),out:=fun _=>[.growb 5 20],post:=fun z y=>y.s 20=z.s 20++(aI (z.s 2).length++z.s 2)}
def dT(kd i sc:Int)(t:List Nat)(ns ks:List G):Int:=if dw 16 kd i sc t ns ks=0 then(if 65536<(da 16 kd i sc t ns ks).length then 5 else 0) else dw 16 kd i sc t ns ks
section
variable{kd i sc:Int}{t:List Nat}{ns ks:List G}
theorem EQ(h:¬dw 16 kd i sc t ns ks=0):dT kd i sc t ns ks=dw 16 kd i sc t ns ks:=if_neg h
theorem zR(h:dw 16 kd i sc t ns ks=0)(h1:65536<(da 16 kd i sc t ns ks).length):dT kd i sc t ns ks=5:=by unfold dT;rw[if_pos h,if_pos h1]
theorem Cc(h:dw 16 kd i sc t ns ks=0)(h1:¬65536<(da 16 kd i sc t ns ks).length):dT kd i sc t ns ks=0:=by unfold dT;rw[if_pos h,if_neg h1]
theorem ES(h:dT kd i sc t ns ks=0):dw 16 kd i sc t ns ks=0/\(da 16 kd i sc t ns ks).length<=65536:=by
 unfold dT at h
 split at h
 ·rename_i h1
  split at h
  ·cases h
  ·exact⟨h1,by omega⟩
 ·rename_i h1;exact absurd h h1
end
abbrev Q6(z:Sy):Int:=dT (z.i 1) (z.i 2) (z.i 3) (z.s 4) (z.g 5) (z.g 6)
abbrev Uc(z:Sy):Prop:=vO 16 z/\nP 16 (z.s 4) (z.g 6)<=10000000
def mJ:FSpec:={args:=[.ag va],blk:=[],pre:=Uc,res:=fun _=>.tu [.c (.vb 10),.c (.i .i64 11)],out:=fun _=>[],post:=fun z y=>y.i 11=Q6 z/\(Q6 z=0->y.s 10=K3 16 z/\(K3 16 z).length<=65536)/\(¬Q6 z=0->y.s 10= [])}
abbrev re:=mJ
def zS(kd i sc:Int)(t:List Nat)(ns ks:List G):G:=if dT kd i sc t ns ks=0 then aJ (da 16 kd i sc t ns ks) else hZ
theorem K7{kd i sc:Int}{t:List Nat}{ns ks:List G}(h:dT kd i sc t ns ks=0):zS kd i sc t ns ks=aJ (da 16 kd i sc t ns ks):=if_pos h
theorem ET{kd i sc:Int}{t:List Nat}{ns ks:List G}(h:¬dT kd i sc t ns ks=0):zS kd i sc t ns ks=hZ:=if_neg h
abbrev WG(z:Sy):G:=zS (z.i 1) (z.i 2) (z.i 3) (z.s 4) (z.g 5) (z.g 6)
def zT:FSpec:={args:=[.ag va],blk:=[],pre:=Uc,res:=fun _=>.tu [.ag (hs 300),.c (.i .i64 11)],out:=fun _=>[],post:=fun z y=>y.i 11=Q6 z/\hT y 300=WG z}
abbrev Cd:=zT
def rf(k:Nat)(p:Sy):LSpec:={tmps:=[(1,.c (.p 1)),(2,.c (.p 0)),(5,.c (.i .i64 9))],blk:=[.cells 46 (vp p),.cells 3 [.i .i64 7]],inv:=fun z=>ci k (p.g 6) 0=0/\(p.g 6).length<=200/\(0<=z.i 9/\z.i 9<=(p.g 6).length)/\(0<=z.i 7/\z.i 7<=2000000)/\(z.i 7<=65536->p.i 7+tS k (p.g 6) 0=z.i 7+tS k (p.g 6) (z.i 9))/\(65536<z.i 7->65536<p.i 7+tS k (p.g 6) 0),mu:=fun z=>((p.g 6).length-z.i 9).toNat,alts:=[⟨.exit 0,[(1,.c (.p 1))],[.cells 46 (vp p),.cells 3 [.i .i64 7]]⟩],post:=fun z y=>(0<=y.i 7/\y.i 7<=2000000)/\(y.i 7<=65536->p.i 7+tS k (p.g 6) 0=y.i 7)/\(65536<y.i 7->65536<p.i 7+tS k (p.g 6) 0)}
def vS(k:Nat):FSpec:={args:=[.ag va,.c (.p 0)],blk:=[.cells 3 [.i .i64 7]],pre:=fun z=>tT k z=0/\0<=z.i 7/\z.i 7<=65536,res:=fun _=>.one (.c (.b 10)),out:=fun _=>[.cells 3 [.i .i64 7]],post:=fun z y=>(0<=y.i 7/\y.i 7<=2000000)/\(y.i 7<=65536->z.i 7+OZ k (z.s 4) (z.g 6)=y.i 7)/\(65536<y.i 7->65536<z.i 7+OZ k (z.s 4) (z.g 6))/\(y.p 10↔65536<y.i 7)}
attribute [irreducible] eB nO xA ci dw GT nb da ib pq nP jN lA KZ A1 tS OZ Sw dT zS
end
theorem vT(p z:Sy)(hA:(lB p).inv z):Fm.den (let v0:=(↑(p.g 5).length:Int);let v1:=(p.g 6=p.g 6/\p.g 5=p.g 5/\p.s 4=p.s 4/\p.i 3=p.i 3/\p.i 2=p.i 2/\p.i 1=p.i 1/\True);let v2:=(((1:Int)=0->eB (p.g 5) v0)/\(¬(1:Int)=0->¬false=true/\¬eB (p.g 5) v0));let v3:=(p.g 6=p.g 6/\p.g 5=p.g 5/\p.s 4=p.s 4/\p.i 3=p.i 3/\p.i 2=p.i 2/\p.i 1=p.i 1/\v0=v0/\p.g 5=p.g 5/\True);let v4:=((p.g 5).length<=1000000/\((0:Int)<=z.i 9+1/\z.i 9+1<= ↑(p.g 5).length)/\eB (p.g 5) (z.i 9+(1:Int)));let v5:=((-9223372036854775808:Int)<=z.i 9+1/\z.i 9+1<=9223372036854775807);let v6:=(gS (aa (aq (p.g 5) (z.i 9).toNat) 0));(.two (z.i 9 < ↑(p.g 5).length) (.an ((0:Int)<=z.i 9/\z.i 9 < ↑(p.g 5).length) (.two ((1:Int)<=(↑v6.length:Int)) (.two (¬(↑v6.length:Int)<=(40:Int)) (.an v1 (.at v2)) (.two ((0:Int)<z.i 9) (.an ((-9223372036854775808:Int)<=z.i 9-1/\z.i 9-1<=9223372036854775807) (.an ((0:Int)<=z.i 9-1/\z.i 9-1 < ↑(p.g 5).length) (.two (uo (gS (aa (aq (p.g 5) (z.i 9-(1:Int)).toNat) 0)) v6=false) (.an v1 (.at v2)) (.an v5 (.an v3 (.at (v4/\(v0-(z.i 9+1)).toNat<(v0-z.i 9).toNat/\∀(y:Sy),(y.i 999=(0:Int)->eB (p.g 5) v0)/\(¬y.i 999=0->¬y.p 10/\¬eB (p.g 5) v0)->(y.i 999=0->eB (p.g 5) v0)/\(¬y.i 999=0->¬y.p 10/\¬eB (p.g 5) v0)))))))) (.an v5 (.an v3 (.at (v4/\(v0-(z.i 9+1)).toNat<(v0-z.i 9).toNat/\∀(y:Sy),(y.i 999=(0:Int)->eB (p.g 5) v0)/\(¬y.i 999=0->¬y.p 10/\¬eB (p.g 5) v0)->(y.i 999=0->eB (p.g 5) v0)/\(¬y.i 999=0->¬y.p 10/\¬eB (p.g 5) v0))))))) (.an v1 (.at v2)))) (.an v1 (.at (((0:Int)=0->eB (p.g 5) v0)/\(¬(0:Int)=0->¬(aX (((((((PS.mk [(999,Tm.i (Int.ofNat (nat_lit 0)))] ((0,(bL 0).fst,0)::iZ.loc) iZ.ln iZ.pr iZ.fz).and (p.i 1=p.i 1)).and (p.i 2=p.i 2)).and (p.i 3=p.i 3)).and (p.s 4=p.s 4)).and (p.g 5=p.g 5)).and (p.g 6=p.g 6)).tm).p 10/\¬eB (p.g 5) v0)))))):=by
 dsimp only [lB,vp] at hA
 have e1:=@EF (p.g 5) (z.i 9) (p.g 5).length
 have e2:=@zG (p.g 5) (z.i 9)
 dsimp only [KV,tP] at e1 e2
 conv=>zeta
 repeat' with_reducible first|intro _|apply aV|apply aZ|apply aT|apply bf|apply ba
 all_goals first|omega|grind [am,ai,ah,KW]
theorem zU:dU Tryz.prog 308 0 lB:=bH 1000 mN eN lN (hn:=(hC 14 2234645)) vT
theorem Ce(z:Sy)(hA:q_.pre z):Fm.den (let v0:=(↑(z.g 5).length:Int);(.cl ((z.g 6=z.g 6/\z.g 5=z.g 5/\z.s 4=z.s 4/\z.i 3=z.i 3/\z.i 2=z.i 2/\z.i 1=z.i 1/\v0=v0/\z.g 5=z.g 5/\True)) ((z.g 5).length<=1000000/\((0:Int)<=0/\0<=v0)/\eB (z.g 5) (0:Int)) (fun y0=>(y0.i 999=0->eB (z.g 5) v0)/\(¬y0.i 999=0->¬y0.p 10/\¬eB (z.g 5) v0)) fun y0=>(.two (y0.i 999=0) (.ax (v0=(↑(z.g 6).length:Int)↔nN (z.g 5) (z.g 6))) (.ax (y0.p 10↔nN (z.g 5) (z.g 6)))))):=by
 dsimp only [q_,va] at hA
 conv=>zeta
 repeat' with_reducible first|intro _|apply aV|apply aZ|apply aT|apply bf|apply ba
 all_goals first|omega|grind [am,ai,ah,zF,nN]
theorem GW:Ok Tryz.prog 308 q_:=bS 1000 mN eN (eL (ptm:=[(0,.ag va)]) zU lN) (hn:=(.both .nil .nil)) Ce
theorem GX(z:Sy)(hA:vP.pre z):Fm.den (let v0:=((3:Int)=nO (z.i 1) (z.i 2) (z.i 3) (z.s 4) (z.g 5) (z.g 6));let v1:=((0:Int)=nO (z.i 1) (z.i 2) (z.i 3) (z.s 4) (z.g 5) (z.g 6));let v2:=(↑(z.g 6).length:Int);let v3:=(16384<(↑(z.s 4).length:Int));let v4:=((5:Int)=nO (z.i 1) (z.i 2) (z.i 3) (z.s 4) (z.g 5) (z.g 6));let v5:=(z.i 3=0);let v7:=(¬z.s 4= []);let v8:=(¬(200<v2));let v9:=((0:Int)<=z.i 2/\(0:Int)<10);let v10:=((↑(z.g 5).length:Int)=0);let v11:=(z.i 2<=9007199254740992);let f8:=(z.i 1=6);let g9:=((1:Int)<=z.i 3);let l7:=((0:Int)<=z.i 2);let o6:=((10:Int)≠0);let r9:=(z.i 2%10≠0);let o9:=(z.i 1=9);let v6:=(¬o9);let z':=(z.i 2/2=0);let L':=(z.i 3<=18);(.two (z.i 2=0) (.two v10 (.two (z.i 1=1) (.two v5 (.two (v2=0) (.two v7 (.ax v0) (.an (¬v3) (.an v8 (.an v6 (.ax v1))))) (.ax v0)) (.ax v0)) (.two (z.i 1=2) (.an z' (.two v5 (.two (v2=0) (.two v7 (.ax v0) (.an (¬v3) (.an v8 (.an v6 (.ax v1))))) (.ax v0)) (.ax v0))) (.two (z.i 1=3) (.two v5 (.two (v2=0) (.two v7 (.ax v0) (.an (¬v3) (.an v8 (.an v6 (.ax v1))))) (.ax v0)) (.ax v0)) (.two (z.i 1=4) (.two g9 (.two L' (.an o6 (.an v9 (.an (¬r9) (.ax v0)))) (.ax v0)) (.ax v0)) (.two (z.i 1=5) (.an l7 (.an v11 (.two v5 (.two (v2=0) (.two v7 (.ax v0) (.an (¬v3) (.an v8 (.an v6 (.ax v1))))) (.ax v0)) (.ax v0)))) (.two f8 (.an f8 (.two v5 (.two (¬v2=0) (.ax v0) (.two v3 (.ax v4) (.an v8 (.an v6 (.ax v1))))) (.ax v0))) (.two (z.i 1=7) (.two v5 (.two (¬v2=0) (.ax v0) (.two v3 (.ax v4) (.an v8 (.an v6 (.ax v1))))) (.ax v0)) (.two (z.i 1=8) (.two v5 (.an v10 (.two v7 (.ax v0) (.an (¬v3) (.two (200<v2) (.ax v4) (.an v6 (.ax v1)))))) (.ax v0)) (.two o9 (.two v5 (.two v7 (.ax v0) (.an (¬v3) (.two (200<v2) (.ax v4) (.an o9 (.ct ((z.g 5).length<=1000000) (fun y0=>(y0.p 10↔nN (z.g 5) (z.g 6))) fun y0=>(.two (¬y0.p 10) (.ax v0) (.ax v1))))))) (.ax v0)) (.ax v0)))))))))) (.two (z.i 1=1) (.two v5 (.ax v0) (.ax v0)) (.two (z.i 1=2) (.an z' (.two v5 (.ax v0) (.ax v0))) (.two (z.i 1=3) (.two v5 (.ax v0) (.ax v0)) (.two (z.i 1=4) (.two g9 (.two L' (.an o6 (.an v9 (.an (¬r9) (.ax v0)))) (.ax v0)) (.ax v0)) (.two (z.i 1=5) (.an l7 (.an v11 (.two v5 (.ax v0) (.ax v0)))) (.two f8 (.an f8 (.two v5 (.ax v0) (.ax v0))) (.two (z.i 1=7) (.two v5 (.ax v0) (.ax v0)) (.two (z.i 1=8) (.two v5 (.an (¬v10) (.ax v0)) (.ax v0)) (.two o9 (.two v5 (.two v7 (.ax v0) (.an (¬v3) (.two (200<v2) (.ax v4) (.an o9 (.ct ((z.g 5).length<=1000000) (fun y1=>(y1.p 10↔nN (z.g 5) (z.g 6))) fun y1=>(.two (¬y1.p 10) (.ax v0) (.ax v1))))))) (.ax v0)) (.ax v0))))))))))) (.two v10 (.two (z.i 1=1) (.ax v0) (.two (z.i 1=2) (.two z' (.two v5 (.two (v2=0) (.two v7 (.ax v0) (.an (¬v3) (.an v8 (.an v6 (.ax v1))))) (.ax v0)) (.ax v0)) (.ax v0)) (.two (z.i 1=3) (.two v5 (.two (v2=0) (.two v7 (.ax v0) (.an (¬v3) (.an v8 (.an v6 (.ax v1))))) (.ax v0)) (.ax v0)) (.two (z.i 1=4) (.two g9 (.two L' (.an o6 (.two v9 (.two r9 (.two (v2=0) (.two v7 (.ax v0) (.an (¬v3) (.an v8 (.an v6 (.ax v1))))) (.ax v0)) (.ax v0)) (.two ((z.i 2).tmod 10≠0) (.two (v2=0) (.two v7 (.ax v0) (.an (¬v3) (.an v8 (.an v6 (.ax v1))))) (.ax v0)) (.ax v0)))) (.ax v0)) (.ax v0)) (.two (z.i 1=5) (.two l7 (.two v11 (.two v5 (.two (v2=0) (.two v7 (.ax v0) (.an (¬v3) (.an v8 (.an v6 (.ax v1))))) (.ax v0)) (.ax v0)) (.ax v0)) (.ax v0)) (.two f8 (.an f8 (.ax v0)) (.two (z.i 1=7) (.ax v0) (.two (z.i 1=8) (.ax v0) (.two o9 (.ax v0) (.ax v0)))))))))) (.two (z.i 1=1) (.ax v0) (.two (z.i 1=2) (.two z' (.two v5 (.ax v0) (.ax v0)) (.ax v0)) (.two (z.i 1=3) (.two v5 (.ax v0) (.ax v0)) (.two (z.i 1=4) (.two g9 (.two L' (.an o6 (.two v9 (.two r9 (.ax v0) (.ax v0)) (.two ((z.i 2).tmod 10≠0) (.ax v0) (.ax v0)))) (.ax v0)) (.ax v0)) (.two (z.i 1=5) (.two l7 (.two v11 (.two v5 (.ax v0) (.ax v0)) (.ax v0)) (.ax v0)) (.two f8 (.an f8 (.ax v0)) (.two (z.i 1=7) (.ax v0) (.two (z.i 1=8) (.ax v0) (.two o9 (.ax v0) (.ax v0))))))))))))):=by
 dsimp only [vP,va,Xb] at hA
 have k0:=@tR (z.i 1) (z.i 2) (z.i 3) (z.s 4) (z.g 5) (z.g 6)
 have k1:=@EG (z.i 1) (z.i 2) (z.i 3) (z.s 4) (z.g 5) (z.g 6)
 have k2:=@EH (z.i 1) (z.i 2) (z.i 3) (z.s 4) (z.g 5) (z.g 6)
 have k3:=@zH (z.i 1) (z.i 2) (z.i 3) (z.s 4) (z.g 5) (z.g 6)
 have k4:=@EI (z.i 1) (z.i 2) (z.i 3) (z.s 4) (z.g 5) (z.g 6)
 have k5:=@tQ (z.i 1) (z.i 2) (z.i 3) (z.s 4) (z.g 5) (z.g 6)
 have k6:=@EJ (z.i 1) (z.i 2) (z.i 3) (z.s 4) (z.g 5) (z.g 6)
 have k7:=@EK (z.i 1) (z.i 2) (z.i 3) (z.s 4) (z.g 5) (z.g 6)
 have k8:=@EL (z.i 1) (z.i 2) (z.i 3) (z.s 4) (z.g 5) (z.g 6)
 have k9:=@KX (z.i 1) (z.i 2) (z.i 3) (z.s 4) (z.g 5) (z.g 6)
 have f1:=@zI (z.i 1) (z.i 2) (z.i 3) (z.s 4) (z.g 5) (z.g 6)
 have f2:=@zJ (z.i 1) (z.i 2) (z.i 3) (z.s 4) (z.g 5) (z.g 6)
 have f3:=@zK (z.i 1) (z.i 2) (z.i 3) (z.s 4) (z.g 5) (z.g 6)
 have f4:=@B_ (z.i 1) (z.i 2) (z.i 3) (z.s 4) (z.g 5) (z.g 6)
 have e1:=UX (z.i 2)
 conv=>zeta
 repeat' with_reducible first|intro _|apply aV|apply aZ|apply aT|apply bf|apply ba
 all_goals first|omega|grind [am,ai,ah]
theorem K8:Ok Tryz.prog 296 vP:=bS 1000 mN (eK GW eN) lN (hn:=(hC 276 245767243367362692129139271385821503728016604324543854543610501625845425621207670256678298420598998860157320293601534641743472979889381497667939026292410524678210901)) GX
theorem Cf(z:Sy)(hA:(dm 0).pre z):Fm.den ((.an ((16:Int)<z.i 7) (.ax ((9:Int)=dw 0 (z.i 1) (z.i 2) (z.i 3) (z.s 4) (z.g 5) (z.g 6))))):=by
 dsimp only [dm,va,vO,tT] at hA
 repeat' with_reducible first|intro _|apply aV|apply aZ|apply aT|apply bf|apply ba
 all_goals first|omega|grind [am,ai,ah,fU]
theorem GY:Ok Tryz.prog 259 (dm 0):=bS 1000 mN eN lN (hn:=(.yes .nil)) Cf
theorem zV(k:Nat)(p z:Sy)(hA:((nR k) p).inv z):Fm.den (let v0:=(aq (p.g 6) (z.i 9).toNat);let v1:=(↑(p.g 6).length:Int);let v2:=(-9223372036854775808:Int);(.two (z.i 9 < ↑(p.g 6).length) (.an ((0:Int)<=z.i 9/\z.i 9 < ↑(p.g 6).length) (.an (v2<=p.i 7+1/\p.i 7+1<=9223372036854775807) (.ct (p.i 7+1=17 - ↑k/\k<=16/\lA k (gI (aa v0 1)) (gS (aa v0 3)) (gL (aa v0 4)) (gL (aa v0 5))) (fun y0=>y0.i 10=dw k (gI (aa v0 0)) (gI (aa v0 1)) (gI (aa v0 2)) (gS (aa v0 3)) (gL (aa v0 4)) (gL (aa v0 5))) fun y0=>(.two (y0.i 10≠0) (.ax (((1:Int)=0->ci k (p.g 6) (0:Int)=0)/\(¬(1:Int)=0->y0.i 10=ci k (p.g 6) 0))) (.an (v2<=z.i 9+1/\z.i 9+1<=9223372036854775807) (.an (v1=v1/\p.g 6=p.g 6/\p.i 7=p.i 7/\True) (.at ((p.i 7=16 - ↑k/\k<=15/\A1 k (p.g 6)/\(p.g 6).length<=1000000/\((0:Int)<=z.i 9+1/\z.i 9+1<= ↑(p.g 6).length)/\ci k (p.g 6) (0:Int)=ci k (p.g 6) (z.i 9+1))/\(v1-(z.i 9+1)).toNat<(v1-z.i 9).toNat/\∀(y:Sy),(y.i 999=(0:Int)->ci k (p.g 6) (0:Int)=0)/\(¬y.i 999=0->y.i 10=ci k (p.g 6) 0)->(y.i 999=0->ci k (p.g 6) (0:Int)=0)/\(¬y.i 999=0->y.i 10=ci k (p.g 6) 0))))))))) (.ax (((0:Int)=0->ci k (p.g 6) (0:Int)=0)/\(¬(0:Int)=0->(aX (have __src:=iZ;PS.mk [(999,Tm.i (Int.ofNat (nat_lit 0)))] __src.loc __src.ln __src.pr __src.fz).tm).i 10=ci k (p.g 6) (0:Int)))))):=by
 dsimp only [nR] at hA
 have e1:=@zL k (p.g 6) (z.i 9)
 have e2:=@EM k (p.g 6) (z.i 9)
 have e3:=@po k (p.g 6) (z.i 9)
 have e4:=gE k (aq (p.g 6) (z.i 9).toNat)
 have e5:=@mH k (p.g 6) (z.i 9)
 have e6:=nQ k (aq (p.g 6) (z.i 9).toNat)
 conv=>zeta
 repeat' with_reducible first|intro _|apply aV|apply aZ|apply aT|apply bf|apply ba
 all_goals first|omega|grind [am,ai,ah]
theorem Cg(k:Nat)(hvcheck:Ok Tryz.prog 259 (dm k)):dU Tryz.prog 259 0 (nR k):=bH 1000 mN (eK hvcheck eN) lN (hn:=(hC 7 537)) (zV k)
theorem GZ(k:Nat)(z:Sy)(hA:(dm (k+1)).pre z):Fm.den (let v0:=(↑(z.g 6).length:Int);(.an (¬((16:Int)<z.i 7)) (.ct ((z.s 4).length<=1000000/\(z.g 5).length<=1000000/\(z.g 6).length<=1000000) (fun y0=>y0.i 10=nO (z.i 1) (z.i 2) (z.i 3) (z.s 4) (z.g 5) (z.g 6)) fun y0=>(.two (y0.i 10≠0) (.ax (y0.i 10=dw (k+1) (z.i 1) (z.i 2) (z.i 3) (z.s 4) (z.g 5) (z.g 6))) (.cl ((v0=v0/\z.g 6=z.g 6/\z.i 7=z.i 7/\True)) (z.i 7=16 - ↑k/\k<=15/\A1 k (z.g 6)/\(z.g 6).length<=1000000/\((0:Int)<=0/\0<=v0)/\ci k (z.g 6) (0:Int)=ci k (z.g 6) 0) (fun y1=>(y1.i 999=0->ci k (z.g 6) (0:Int)=0)/\(¬y1.i 999=0->y1.i 10=ci k (z.g 6) 0)) fun y1=>(.two (y1.i 999=0) (.ax ((0:Int)=dw (k+1) (z.i 1) (z.i 2) (z.i 3) (z.s 4) (z.g 5) (z.g 6))) (.ax (y1.i 10=dw (k+1) (z.i 1) (z.i 2) (z.i 3) (z.s 4) (z.g 5) (z.g 6))))))))):=by
 dsimp only [dm,va,vO,tT] at hA
 have i1:=@pu k (z.i 2) (z.s 4) (z.g 5) (z.g 6)
 have i2:=@mG k (z.i 2) (z.s 4) (z.g 5) (z.g 6)
 conv=>zeta
 repeat' with_reducible first|intro _|apply aV|apply aZ|apply aT|apply bf|apply ba
 all_goals first|omega|grind [am,ai,ah,iM,jM]
theorem tU:∀k,Ok Tryz.prog 259 (dm k)
 |0=>GY
 |k+1=>bS 1000 mN (eK K8 eN) (eL (ptm:=[(0,.ag va),(1,.c (.i .i64 7))]) (Cg k (tU k)) lN) (hn:=(hC 6 71)) (GZ k)
theorem G0(z:Sy)(hA:mI.pre z):Fm.den ((.ct ((1:Int)=17-16/\16<=16/\lA 16 (z.i 2) (z.s 4) (z.g 5) (z.g 6)) (fun y0=>y0.i 10=dw 16 (z.i 1) (z.i 2) (z.i 3) (z.s 4) (z.g 5) (z.g 6)) fun y0=>(.ax (y0.i 10=dw 16 (z.i 1) (z.i 2) (z.i 3) (z.s 4) (z.g 5) (z.g 6))))):=by
 dsimp only [mI,va,vO,tT] at hA
 repeat' with_reducible first|intro _|apply aV|apply aZ|apply aT|apply bf|apply ba
 all_goals first|omega|grind [am,ai,ah]
theorem K9:Ok Tryz.prog 218 mI:=bS 1000 mN (eK (tU 16) eN) lN (hn:=.nil) G0
theorem O1(z:Sy)(hA:K4.pre z):Fm.den (let v0:=(-9223372036854775808:Int);(.two ((0:Int)<=z.i 1) (.an ((2:Int) * (z.i 1%18446744073709551616)%18446744073709551616=na (z.i 1)/\True) (.at (True))) (.an (v0<=z.i 1+1/\z.i 1+1<=9223372036854775807) (.an (v0<=0-(z.i 1+1)/\(0:Int)-(z.i 1+1)<=9223372036854775807) (.an (((2:Int) * ((0-(z.i 1+1))%18446744073709551616)%18446744073709551616+1)%18446744073709551616=na (z.i 1)/\True) (.at (True))))))):=by
 dsimp only [K4,O0] at hA
 have e1:=@OX (z.i 1)
 have e2:=@OY (z.i 1)
 conv=>zeta
 repeat' with_reducible first|intro _|apply aV|apply aZ|apply aT|apply bf|apply ba
 all_goals first|omega|grind [am,ai,ah]
theorem Sz:Ok Tryz.prog 175 K4:=bS 1000 mN eN lN (hn:=(hC 5 161)) O1
theorem O2(z:Sy)(hA:K6.pre z):Fm.den (let v0:=(↑(z.s 2).length:Int);(.ct (0<=v0%18446744073709551616/\v0%18446744073709551616<18446744073709551616) (fun y0=>y0.s 10=aI (v0%18446744073709551616).toNat) fun y0=>(.an ((z.s 20).length=(z.s 20).length/\(z.s 20).length<=1000000000/\(y0.s 10).length<=1000000) (.an ((z.s 20++y0.s 10).length=(z.s 20).length+(y0.s 10).length/\(z.s 20).length+(y0.s 10).length<=1000000000/\(z.s 2).length<=1000000) (.an ((z.s 20++y0.s 10++z.s 2).length=(z.s 20).length+(y0.s 10).length+(z.s 2).length/\True) (.at (z.s 20++y0.s 10++z.s 2=z.s 20++(aI (z.s 2).length++z.s 2)))))))):=by
 dsimp only [K6] at hA
 have u1:=@bX (((z.s 2).length:Int)%18446744073709551616) (by omega)
 conv=>zeta
 repeat' with_reducible first|intro _|apply aV|apply aZ|apply aT|apply bf|apply ba
 all_goals first|omega|grind [am,ai,ah,List.append_assoc]
theorem K_:Ok Tryz.prog 176 K6:=bS 1000 mN (eK cR eN) lN (hn:=.nil) O2
theorem Ch(k:Nat)(p z:Sy)(hA:((rc k) p).inv z):Fm.den (let v0:=(aq (p.g 6) (z.i 9).toNat);let v2:=(gS (aa v0 3));let v3:=(gL (aa v0 5));let v4:=((-9223372036854775808:Int)<=z.i 9+1/\z.i 9+1<=9223372036854775807);let v5:=(↑(p.g 6).length:Int);let v1:=((p.i 1=9->eB (p.g 5) v5/\(p.g 5).length=(p.g 6).length)/\ci k (p.g 6) (0:Int)=0/\A1 k (p.g 6)/\(p.g 6).length<=200);let v6:=(aa (aq (p.g 5) (z.i 9).toNat) 0);let v7:=(gI (aa v0 1));let v8:=(gL (aa v0 4));let v9:=((0:Int)<=z.i 9+1/\z.i 9+1<= ↑(p.g 6).length);let v10:=((0:Int)<=z.i 9/\z.i 9 < ↑(p.g 6).length);let v11:=(z.i 9+(1:Int));let f8:=(((z.s 20).length=(z.s 20).length/\True));let g9:=(gI (aa v0 0));let l7:=(gI (aa v0 2));(.two (z.i 9 < ↑(p.g 6).length) (.two (p.i 1=9) (.an ((0:Int)<=z.i 9/\z.i 9 < ↑(p.g 5).length) (.cl f8 ((gS v6).length<=100000/\(z.s 20).length<=200000000) (fun y0=>y0.s 20=z.s 20++(aI (gS v6).length++gS v6)) fun y0=>(.an v10 (.cl (((y0.s 20).length=(y0.s 20).length/\True)) (dw k g9 v7 l7 v2 v8 v3=(0:Int)/\lA k v7 v2 v8 v3/\(y0.s 20).length+nP k v2 v3<=100000000) (fun y1=>y1.s 20=y0.s 20++da k g9 v7 l7 v2 v8 v3) fun y1=>(.an v4 (.an ((y1.s 20).length=(y1.s 20).length/\p.g 6=p.g 6/\p.g 5=p.g 5/\p.s 4=p.s 4/\p.i 3=p.i 3/\p.i 2=p.i 2/\p.i 1=p.i 1/\True) (.at ((v1/\v9/\(y1.s 20).length+pq (jN k) (p.g 6) v11<=100000000)/\(v5-(z.i 9+1)).toNat<(v5-z.i 9).toNat/\∀(y:Sy),y.s 20=y1.s 20++nb (ib k) (p.i 1) (p.g 5) (p.g 6) v11->y.s 20=z.s 20++nb (ib k) (p.i 1) (p.g 5) (p.g 6) (z.i 9))))))))) (.an v10 (.cl f8 (dw k g9 v7 l7 v2 v8 v3=(0:Int)/\lA k v7 v2 v8 v3/\(z.s 20).length+nP k v2 v3<=100000000) (fun y2=>y2.s 20=z.s 20++da k g9 v7 l7 v2 v8 v3) fun y2=>(.an v4 (.an ((y2.s 20).length=(y2.s 20).length/\p.g 6=p.g 6/\p.g 5=p.g 5/\p.s 4=p.s 4/\p.i 3=p.i 3/\p.i 2=p.i 2/\p.i 1=p.i 1/\True) (.at ((v1/\v9/\(y2.s 20).length+pq (jN k) (p.g 6) v11<=100000000)/\(v5-(z.i 9+1)).toNat<(v5-z.i 9).toNat/\∀(y:Sy),y.s 20=y2.s 20++nb (ib k) (p.i 1) (p.g 5) (p.g 6) v11->y.s 20=z.s 20++nb (ib k) (p.i 1) (p.g 5) (p.g 6) (z.i 9)))))))) (.an ((z.s 20).length=(z.s 20).length/\p.g 6=p.g 6/\p.g 5=p.g 5/\p.s 4=p.s 4/\p.i 3=p.i 3/\p.i 2=p.i 2/\p.i 1=p.i 1/\True) (.at (z.s 20=z.s 20++nb (ib k) (p.i 1) (p.g 5) (p.g 6) (z.i 9)))))):=by
 dsimp only [rc,vp,Wb] at hA
 have n1:=@zM (ib k) (p.i 1) (p.g 5) (p.g 6) (z.i 9)
 have n2:=@zN (ib k) (p.i 1) (p.g 5) (p.g 6) (z.i 9)
 have n3:=@EN (ib k) (p.i 1) (p.g 5) (p.g 6) (z.i 9)
 have n4:=qV k (aq (p.g 6) (z.i 9).toNat)
 have n5:=@mH k (p.g 6) (z.i 9)
 have n6:=nQ k (aq (p.g 6) (z.i 9).toNat)
 have n7:=@zO (jN k) (p.g 6) (z.i 9)
 have n8:=vL k (aq (p.g 6) (z.i 9).toNat)
 have n9:=gE k (aq (p.g 6) (z.i 9).toNat)
 have m1:=@iN k (p.g 6) (z.i 9)
 have m2:=@vJ (p.g 5) (z.i 9) (p.g 6).length
 have m3:=@pw k (aq (p.g 6) (z.i 9).toNat)
 have u1:=@bX (((gS (aa (aq (p.g 5) (z.i 9).toNat) 0)).length:Int)%18446744073709551616) (by omega)
 dsimp only [tP] at n1 m2
 conv=>zeta
 repeat' with_reducible first|intro _|apply aV|apply aZ|apply aT|apply bf|apply ba
 all_goals first|omega|grind [am,ai,ah,List.append_assoc]
theorem G1(k:Nat)(ae2:Ok Tryz.prog 110 (vR k)):dU Tryz.prog 110 1 (rc k):=bH 1000 mN (eK K_ (eK ae2 eN)) lN (hn:=(hC 7 549)) (Ch k)
theorem La(k:Nat)(z:Sy)(hA:(vR (k+1)).pre z):Fm.den (let v0:=(z.i 1%(256:Int));let v1:=(↑(z.g 6).length:Int);let v2:=(z.s 20++ [v0.toNat]);let v3:=((z.i 1=9->eB (z.g 5) v1/\(z.g 5).length=(z.g 6).length)/\ci k (z.g 6) (0:Int)=0/\A1 k (z.g 6)/\(z.g 6).length<=200);let v4:=(0<=v1%18446744073709551616/\v1%18446744073709551616<18446744073709551616);let v5:=(v2.length=(z.s 20).length+1/\True);let v6:=((0:Int)<=na (z.i 2)/\na (z.i 2)<(18446744073709551616:Int));let v7:=((-9223372036854775808:Int)<=z.i 2/\z.i 2<9223372036854775808);let v8:=((z.s 4).length<=100000/\v2.length<=200000000);let v9:=(aI (z.s 4).length++z.s 4);let v10:=((0:Int)<=0/\0<=v1);(.an ((z.s 20).length=(z.s 20).length/\(z.s 20).length<=1000000000/\(0:Int)<=z.i 1%256/\True) (.two (z.i 1=2) (.an (v2.length=(z.s 20).length+1/\(z.s 20).length+1<=1000000000/\(0:Int)<=z.i 2%256/\True) (.an ((z.s 20++ [v0.toNat]++ [(z.i 2%256).toNat]).length=(z.s 20).length+1+1/\True) (.at (z.s 20++ [v0.toNat]++ [(z.i 2%256).toNat]=z.s 20++da (k+1) (z.i 1) (z.i 2) (z.i 3) (z.s 4) (z.g 5) (z.g 6))))) (.two (z.i 1=3) (.ct v7 (fun y0=>True) fun y0=>(.ct v6 (fun y1=>y1.s 10=aI (na (z.i 2)).toNat) fun y1=>(.an (v2.length=(z.s 20).length+1/\(z.s 20).length+1<=1000000000/\(y1.s 10).length<=1000000) (.an ((z.s 20++ [v0.toNat]++y1.s 10).length=(z.s 20).length+1+(y1.s 10).length/\True) (.at (z.s 20++ [v0.toNat]++y1.s 10=z.s 20++da (k+1) (z.i 1) (z.i 2) (z.i 3) (z.s 4) (z.g 5) (z.g 6))))))) (.two (z.i 1=4) (.ct v7 (fun y2=>True) fun y2=>(.ct v6 (fun y3=>y3.s 10=aI (na (z.i 2)).toNat) fun y3=>(.an (v2.length=(z.s 20).length+1/\(z.s 20).length+1<=1000000000/\(y3.s 10).length<=1000000) (.an ((z.s 20++ [v0.toNat]++y3.s 10).length=(z.s 20).length+1+(y3.s 10).length/\(z.s 20).length+1+(y3.s 10).length<=1000000000/\(0:Int)<=z.i 3%256/\True) (.an ((z.s 20++ [v0.toNat]++y3.s 10++ [(z.i 3%256).toNat]).length=(z.s 20).length+1+(y3.s 10).length+1/\True) (.at (z.s 20++ [v0.toNat]++y3.s 10++ [(z.i 3%256).toNat]=z.s 20++da (k+1) (z.i 1) (z.i 2) (z.i 3) (z.s 4) (z.g 5) (z.g 6)))))))) (.two (z.i 1=5) (.ct ((0:Int)<=z.i 2%18446744073709551616/\z.i 2%18446744073709551616<18446744073709551616) (fun y4=>y4.s 10=aI (z.i 2%(18446744073709551616:Int)).toNat) fun y4=>(.an (v2.length=(z.s 20).length+1/\(z.s 20).length+1<=1000000000/\(y4.s 10).length<=1000000) (.an ((z.s 20++ [v0.toNat]++y4.s 10).length=(z.s 20).length+1+(y4.s 10).length/\True) (.at (z.s 20++ [v0.toNat]++y4.s 10=z.s 20++da (k+1) (z.i 1) (z.i 2) (z.i 3) (z.s 4) (z.g 5) (z.g 6)))))) (.two (z.i 1=6) (.an (z.i 1=6) (.cl (v5) v8 (fun y5=>y5.s 20=z.s 20++ [v0.toNat]++v9) fun y5=>(.an ((y5.s 20).length=(y5.s 20).length/\True) (.at (y5.s 20=z.s 20++da (k+1) (z.i 1) (z.i 2) (z.i 3) (z.s 4) (z.g 5) (z.g 6)))))) (.two (z.i 1=7) (.cl (v5) v8 (fun y6=>y6.s 20=z.s 20++ [v0.toNat]++v9) fun y6=>(.an ((y6.s 20).length=(y6.s 20).length/\True) (.at (y6.s 20=z.s 20++da (k+1) (z.i 1) (z.i 2) (z.i 3) (z.s 4) (z.g 5) (z.g 6))))) (.two (z.i 1=8) (.an (z.i 1=8) (.ct v4 (fun y7=>y7.s 10=aI (v1%18446744073709551616).toNat) fun y7=>(let v11:=(z.s 20++ [v0.toNat]++y7.s 10);(.an (v2.length=(z.s 20).length+1/\(z.s 20).length+1<=1000000000/\(y7.s 10).length<=1000000) (.cl ((v11.length=(z.s 20).length+1+(y7.s 10).length/\z.g 6=z.g 6/\z.g 5=z.g 5/\z.s 4=z.s 4/\z.i 3=z.i 3/\z.i 2=z.i 2/\z.i 1=z.i 1/\True)) (v3/\v10/\v11.length+pq (jN k) (z.g 6) 0<=100000000) (fun y8=>y8.s 20=z.s 20++ [v0.toNat]++y7.s 10++nb (ib k) (z.i 1) (z.g 5) (z.g 6) 0) fun y8=>(.an ((y8.s 20).length=(y8.s 20).length/\True) (.at (y8.s 20=z.s 20++da (k+1) (z.i 1) (z.i 2) (z.i 3) (z.s 4) (z.g 5) (z.g 6))))))))) (.two (z.i 1=9) (.ct v4 (fun y9=>y9.s 10=aI (v1%18446744073709551616).toNat) fun y9=>(let f8:=(z.s 20++ [v0.toNat]++y9.s 10);(.an (v2.length=(z.s 20).length+1/\(z.s 20).length+1<=1000000000/\(y9.s 10).length<=1000000) (.cl ((f8.length=(z.s 20).length+1+(y9.s 10).length/\z.g 6=z.g 6/\z.g 5=z.g 5/\z.s 4=z.s 4/\z.i 3=z.i 3/\z.i 2=z.i 2/\z.i 1=z.i 1/\True)) (v3/\v10/\f8.length+pq (jN k) (z.g 6) 0<=100000000) (fun J'=>J'.s 20=z.s 20++ [v0.toNat]++y9.s 10++nb (ib k) (z.i 1) (z.g 5) (z.g 6) 0) fun J'=>(.an ((J'.s 20).length=(J'.s 20).length/\True) (.at (J'.s 20=z.s 20++da (k+1) (z.i 1) (z.i 2) (z.i 3) (z.s 4) (z.g 5) (z.g 6)))))))) (.an v5 (.at (z.s 20++ [v0.toNat]=z.s 20++da (k+1) (z.i 1) (z.i 2) (z.i 3) (z.s 4) (z.g 5) (z.g 6)))))))))))))):=by
 dsimp only [vR,GV,va,tT,vO,K3] at hA
 have i1:=@pu k (z.i 2) (z.s 4) (z.g 5) (z.g 6)
 have i2:=@mG k (z.i 2) (z.s 4) (z.g 5) (z.g 6)
 have u1:=@bX (na (z.i 2))
 have u2:=@bX (z.i 2%18446744073709551616) (by omega)
 have u3:=@bX (((z.s 4).length:Int)%18446744073709551616) (by omega)
 have u4:=@bX (((z.g 6).length:Int)%18446744073709551616) (by omega)
 have u5:=@vM (z.i 2)
 have v3:(z.s 4).length<=1000000->(((z.s 4).length:Int)%18446744073709551616).toNat=(z.s 4).length:=fun h=>by omega
 have v4:(z.g 6).length<=1000000->(((z.g 6).length:Int)%18446744073709551616).toNat=(z.g 6).length:=fun h=>by omega
 have l0:=@qW k (z.i 1) (z.i 2) (z.i 3) (z.s 4) (z.g 5) (z.g 6)
 have l1:=@pp k (z.i 1) (z.i 2) (z.i 3) (z.s 4) (z.g 5) (z.g 6)
 have l2:=@vK k (z.i 1) (z.i 2) (z.i 3) (z.s 4) (z.g 5) (z.g 6)
 have l3:=@qX k (z.i 1) (z.i 2) (z.i 3) (z.s 4) (z.g 5) (z.g 6)
 have l4:=@mF k (z.i 1) (z.i 2) (z.i 3) (z.s 4) (z.g 5) (z.g 6)
 have l5:=@qY k (z.i 1) (z.i 2) (z.i 3) (z.s 4) (z.g 5) (z.g 6)
 have l6:=@qZ k (z.i 1) (z.i 2) (z.i 3) (z.s 4) (z.g 5) (z.g 6)
 have c1:=@iM k (z.i 1) (z.i 2) (z.i 3) (z.s 4) (z.g 5) (z.g 6)
 have c2:=@jM k (z.i 1) (z.i 2) (z.i 3) (z.s 4) (z.g 5) (z.g 6)
 have c3:=@iL (z.i 1) (z.i 2) (z.i 3) (z.s 4) (z.g 5) (z.g 6)
 have k0:=@tR (z.i 1) (z.i 2) (z.i 3) (z.s 4) (z.g 5) (z.g 6)
 have k5:=@tQ (z.i 1) (z.i 2) (z.i 3) (z.s 4) (z.g 5) (z.g 6)
 have w1:=zP k (z.s 4) (z.g 6)
 dsimp only [nN] at c3
 conv=>zeta
 repeat' with_reducible first|intro _|apply aV|apply aZ|apply aT|apply bf|apply ba
 all_goals first|omega|grind [am,ai,ah,List.append_assoc]
theorem zW:∀k,Ok Tryz.prog 110 (vR k)
 |0=>NM fun z h=>absurd ((fU _ _ _ _ _ _).symm.trans h.1) (by decide)
 |k+1=>bS 1000 mN (eK Sz (eK cR (eK K_ eN))) (eL (ptm:=[(1,.ag va)]) (G1 k (zW k)) lN) (hn:=(hC 19 4903735569)) (La k)
theorem SA(z:Sy)(hA:O0.pre z):Fm.den (let v0:=(aL (aj Go.IntKind.u64) (z.i 1/9223372036854775808%18446744073709551616));(.two ((-9223372036854775808:Int)<=z.i 1 * 2/\z.i 1 * 2<=9223372036854775807) (.an (Go.IntKind.u64.wrap (Int.ofNat ((aL (aj Go.IntKind.u64) (z.i 1 * 2%18446744073709551616)).xor v0))=na (z.i 1)/\True) (.at (True))) (.an (Go.IntKind.u64.wrap (Int.ofNat ((aL (aj Go.IntKind.u64) (Go.IntKind.i64.wrap (z.i 1 * 2)%18446744073709551616)).xor v0))=na (z.i 1)/\True) (.at (True))))):=by
 have hB:True/\(-9223372036854775808:Int)<=z.i 1/\z.i 1<9223372036854775808:=⟨trivial,hA⟩
 conv=>zeta
 repeat' with_reducible first|intro _|apply aV|apply aZ|apply aT|apply bf|apply ba
 all_goals first|omega|(exact Ss hB.2 rfl)|(exact⟨Ss hB.2 rfl,trivial⟩)|(exact⟨Ss hB.2 (Su _),trivial⟩)|grind [am,ai,ah]
theorem UY:Ok Tryz.prog 261 O0:=bS 1000 mN eN lN (hn:=(.both .nil .nil)) SA
theorem O3(z:Sy)(hA:K5.pre z):Fm.den ((.ct ((0:Int)<=z.i 1/\z.i 1<18446744073709551616) (fun y0=>y0.s 10=aI (z.i 1).toNat) fun y0=>(.an ((z.s 20).length=(z.s 20).length/\(z.s 20).length<=1000000000/\(y0.s 10).length<=1000000) (.an ((z.s 20++y0.s 10).length=(z.s 20).length+(y0.s 10).length/\True) (.at (z.s 20++y0.s 10=z.s 20++aI (z.i 1).toNat)))))):=by
 dsimp only [K5] at hA
 have e0:=@bX (z.i 1)
 repeat' with_reducible first|intro _|apply aV|apply aZ|apply aT|apply bf|apply ba
 all_goals first|omega|grind [am,ai,ah]
theorem Lb:Ok Tryz.prog 260 K5:=bS 1000 mN (eK hI eN) lN (hn:=.nil) O3
theorem Lc(k:Nat)(p z:Sy)(hA:((Cb k) p).inv z):Fm.den (let v0:=(aq (p.g 6) (z.i 9).toNat);let v1:=(aa (aq (p.g 5) (z.i 9).toNat) 0);let v2:=(↑(p.g 6).length:Int);let v3:=((p.i 1=9->eB (p.g 5) v2/\(p.g 5).length=(p.g 6).length)/\ci k (p.g 6) (0:Int)=0/\A1 k (p.g 6)/\(p.g 6).length<=200);let v4:=(gS (aa v0 3));let v5:=(gL (aa v0 5));let v6:=((-9223372036854775808:Int)<=z.i 9+1/\z.i 9+1<=9223372036854775807);let v7:=(gI (aa v0 1));let v8:=(gL (aa v0 4));let v9:=((0:Int)<=z.i 9+1/\z.i 9+1<= ↑(p.g 6).length);let v10:=((0:Int)<=z.i 9/\z.i 9 < ↑(p.g 5).length);let v11:=(z.i 9+(1:Int));let f8:=(↑(gS v1).length:Int);let g9:=(((z.s 20).length=(z.s 20).length/\True));let l7:=(gI (aa v0 0));let o6:=(gI (aa v0 2));(.two (z.i 9 < ↑(p.g 6).length) (.an ((0:Int)<=z.i 9/\z.i 9 < ↑(p.g 6).length) (.two (p.i 1=9) (.an v10 (.cl g9 (((0:Int)<=f8%18446744073709551616/\f8%(18446744073709551616:Int)<18446744073709551616)/\(z.s 20).length<=900000000) (fun y0=>y0.s 20=z.s 20++aI (f8%(18446744073709551616:Int)).toNat) fun y0=>(.an v10 (.an ((y0.s 20).length=(y0.s 20).length/\(y0.s 20).length<=1000000000/\(gS v1).length<=1000000) (.cl (((y0.s 20++gS v1).length=(y0.s 20).length+(gS v1).length/\True)) (dw k l7 v7 o6 v4 v8 v5=(0:Int)/\lA k v7 v4 v8 v5/\(y0.s 20++gS v1).length+nP k v4 v5<=100000000) (fun y1=>y1.s 20=y0.s 20++gS v1++da k l7 v7 o6 v4 v8 v5) fun y1=>(.an v6 (.an ((y1.s 20).length=(y1.s 20).length/\p.g 6=p.g 6/\p.g 5=p.g 5/\p.s 4=p.s 4/\p.i 3=p.i 3/\p.i 2=p.i 2/\p.i 1=p.i 1/\v2=v2/\p.g 6=p.g 6/\True) (.at ((v3/\v9/\(y1.s 20).length+pq (jN k) (p.g 6) v11<=100000000)/\(v2-(z.i 9+1)).toNat<(v2-z.i 9).toNat/\∀(y:Sy),y.s 20=y1.s 20++nb (ib k) (p.i 1) (p.g 5) (p.g 6) v11->y.s 20=z.s 20++nb (ib k) (p.i 1) (p.g 5) (p.g 6) (z.i 9)))))))))) (.cl g9 (dw k l7 v7 o6 v4 v8 v5=(0:Int)/\lA k v7 v4 v8 v5/\(z.s 20).length+nP k v4 v5<=100000000) (fun y2=>y2.s 20=z.s 20++da k l7 v7 o6 v4 v8 v5) fun y2=>(.an v6 (.an ((y2.s 20).length=(y2.s 20).length/\p.g 6=p.g 6/\p.g 5=p.g 5/\p.s 4=p.s 4/\p.i 3=p.i 3/\p.i 2=p.i 2/\p.i 1=p.i 1/\v2=v2/\p.g 6=p.g 6/\True) (.at ((v3/\v9/\(y2.s 20).length+pq (jN k) (p.g 6) v11<=100000000)/\(v2-(z.i 9+1)).toNat<(v2-z.i 9).toNat/\∀(y:Sy),y.s 20=y2.s 20++nb (ib k) (p.i 1) (p.g 5) (p.g 6) v11->y.s 20=z.s 20++nb (ib k) (p.i 1) (p.g 5) (p.g 6) (z.i 9)))))))) (.an ((z.s 20).length=(z.s 20).length/\p.g 6=p.g 6/\p.g 5=p.g 5/\p.s 4=p.s 4/\p.i 3=p.i 3/\p.i 2=p.i 2/\p.i 1=p.i 1/\True) (.at (z.s 20=z.s 20++nb (ib k) (p.i 1) (p.g 5) (p.g 6) (z.i 9)))))):=by
 dsimp only [Cb,Sx,vp,Wb] at hA
 have n1:=@zM (ib k) (p.i 1) (p.g 5) (p.g 6) (z.i 9)
 have n2:=@zN (ib k) (p.i 1) (p.g 5) (p.g 6) (z.i 9)
 have n3:=@EN (ib k) (p.i 1) (p.g 5) (p.g 6) (z.i 9)
 have n4:=qV k (aq (p.g 6) (z.i 9).toNat)
 have n5:=@mH k (p.g 6) (z.i 9)
 have n6:=nQ k (aq (p.g 6) (z.i 9).toNat)
 have n7:=@zO (jN k) (p.g 6) (z.i 9)
 have n8:=vL k (aq (p.g 6) (z.i 9).toNat)
 have n9:=gE k (aq (p.g 6) (z.i 9).toNat)
 have m1:=@iN k (p.g 6) (z.i 9)
 have m2:=@vJ (p.g 5) (z.i 9) (p.g 6).length
 have m3:=@pw k (aq (p.g 6) (z.i 9).toNat)
 have u1:=@bX (((gS (aa (aq (p.g 5) (z.i 9).toNat) 0)).length:Int)%18446744073709551616) (by omega)
 dsimp only [tP] at n1 m2
 conv=>zeta
 repeat' with_reducible first|intro _|apply aV|apply aZ|apply aT|apply bf|apply ba
 all_goals first|omega|grind [am,ai,ah,List.append_assoc]
theorem O4(k:Nat)(aj7:Ok Tryz.prog 219 (GV k)):dU Tryz.prog 219 1 (Cb k):=bH 1000 mN (eK Lb (eK aj7 eN)) lN (hn:=(hC 7 549)) (Lc k)
theorem SB(k:Nat)(z:Sy)(hA:(GV (k+1)).pre z):Fm.den (let v1:=(↑(z.g 6).length:Int);let v4:=((z.i 1=9->eB (z.g 5) v1/\(z.g 5).length=(z.g 6).length)/\ci k (z.g 6) (0:Int)=0/\A1 k (z.g 6)/\(z.g 6).length<=200);let v7:=(z.i 1%(256:Int));let v0:=(z.s 20++ [v7.toNat]);let v2:=(v0.length=(z.s 20).length+1/\True);let v3:=((0<=(↑(z.s 4).length:Int)%18446744073709551616/\(↑(z.s 4).length:Int)%18446744073709551616<18446744073709551616)/\v0.length<=900000000);let v5:=((0<=v1%18446744073709551616/\v1%18446744073709551616<18446744073709551616)/\v0.length<=900000000);let v6:=(((0:Int)<=na (z.i 2)/\na (z.i 2)<(18446744073709551616:Int))/\v0.length<=900000000);let v8:=((-9223372036854775808:Int)<=z.i 2/\z.i 2<9223372036854775808);let v9:=((↑(z.s 4).length:Int)%18446744073709551616);let v10:=(z.i 1%256);let v11:=((0:Int)<=0/\0<=v1);(.an ((z.s 20).length=(z.s 20).length/\(z.s 20).length<=1000000000/\(0:Int)<=z.i 1%256/\True) (.two (z.i 1=2) (.an (v0.length=(z.s 20).length+1/\(z.s 20).length+1<=1000000000/\(0:Int)<=z.i 2%256/\True) (.an ((z.s 20++ [v7.toNat]++ [(z.i 2%256).toNat]).length=(z.s 20).length+1+1/\True) (.at (z.s 20++ [v7.toNat]++ [(z.i 2%256).toNat]=z.s 20++da (k+1) (z.i 1) (z.i 2) (z.i 3) (z.s 4) (z.g 5) (z.g 6))))) (.two (z.i 1=3) (.ct v8 (fun y0=>True) fun y0=>(.cl (v2) v6 (fun y1=>y1.s 20=z.s 20++ [v7.toNat]++aI (na (z.i 2)).toNat) fun y1=>(.an ((y1.s 20).length=(y1.s 20).length/\True) (.at (y1.s 20=z.s 20++da (k+1) (z.i 1) (z.i 2) (z.i 3) (z.s 4) (z.g 5) (z.g 6)))))) (.two (z.i 1=4) (.ct v8 (fun y2=>True) fun y2=>(.cl (v2) v6 (fun y3=>y3.s 20=z.s 20++ [v7.toNat]++aI (na (z.i 2)).toNat) fun y3=>(.an ((y3.s 20).length=(y3.s 20).length/\(y3.s 20).length<=1000000000/\(0:Int)<=z.i 3%256/\True) (.an ((y3.s 20++ [(z.i 3%(256:Int)).toNat]).length=(y3.s 20).length+1/\True) (.at (y3.s 20++ [(z.i 3%(256:Int)).toNat]=z.s 20++da (k+1) (z.i 1) (z.i 2) (z.i 3) (z.s 4) (z.g 5) (z.g 6))))))) (.two (z.i 1=5) (.cl (v2) (((0:Int)<=z.i 2%18446744073709551616/\z.i 2%18446744073709551616<18446744073709551616)/\v0.length<=900000000) (fun y4=>y4.s 20=z.s 20++ [v7.toNat]++aI (z.i 2%18446744073709551616).toNat) fun y4=>(.an ((y4.s 20).length=(y4.s 20).length/\True) (.at (y4.s 20=z.s 20++da (k+1) (z.i 1) (z.i 2) (z.i 3) (z.s 4) (z.g 5) (z.g 6))))) (.two (z.i 1=6) (.an (z.i 1=6) (.cl (v2) v3 (fun y5=>y5.s 20=z.s 20++ [v10.toNat]++aI v9.toNat) fun y5=>(.an ((y5.s 20).length=(y5.s 20).length/\(y5.s 20).length<=1000000000/\(z.s 4).length<=1000000) (.an ((y5.s 20++z.s 4).length=(y5.s 20).length+(z.s 4).length/\True) (.at (y5.s 20++z.s 4=z.s 20++da (k+1) (z.i 1) (z.i 2) (z.i 3) (z.s 4) (z.g 5) (z.g 6))))))) (.two (z.i 1=7) (.cl (v2) v3 (fun y6=>y6.s 20=z.s 20++ [v10.toNat]++aI v9.toNat) fun y6=>(.an ((y6.s 20).length=(y6.s 20).length/\(y6.s 20).length<=1000000000/\(z.s 4).length<=1000000) (.an ((y6.s 20++z.s 4).length=(y6.s 20).length+(z.s 4).length/\True) (.at (y6.s 20++z.s 4=z.s 20++da (k+1) (z.i 1) (z.i 2) (z.i 3) (z.s 4) (z.g 5) (z.g 6)))))) (.two (z.i 1=8) (.an (z.i 1=8) (.cl (v2) v5 (fun y7=>y7.s 20=z.s 20++ [v10.toNat]++aI (v1%18446744073709551616).toNat) fun y7=>(.cl (((y7.s 20).length=(y7.s 20).length/\z.g 6=z.g 6/\z.g 5=z.g 5/\z.s 4=z.s 4/\z.i 3=z.i 3/\z.i 2=z.i 2/\z.i 1=z.i 1/\v1=v1/\z.g 6=z.g 6/\True)) (v4/\v11/\(y7.s 20).length+pq (jN k) (z.g 6) (0:Int)<=100000000) (fun y8=>y8.s 20=y7.s 20++nb (ib k) (z.i 1) (z.g 5) (z.g 6) (0:Int)) fun y8=>(.an ((y8.s 20).length=(y8.s 20).length/\True) (.at (y8.s 20=z.s 20++da (k+1) (z.i 1) (z.i 2) (z.i 3) (z.s 4) (z.g 5) (z.g 6))))))) (.two (z.i 1=9) (.cl (v2) v5 (fun y9=>y9.s 20=z.s 20++ [v10.toNat]++aI (v1%18446744073709551616).toNat) fun y9=>(.cl (((y9.s 20).length=(y9.s 20).length/\z.g 6=z.g 6/\z.g 5=z.g 5/\z.s 4=z.s 4/\z.i 3=z.i 3/\z.i 2=z.i 2/\z.i 1=z.i 1/\v1=v1/\z.g 6=z.g 6/\True)) (v4/\v11/\(y9.s 20).length+pq (jN k) (z.g 6) (0:Int)<=100000000) (fun J'=>J'.s 20=y9.s 20++nb (ib k) (z.i 1) (z.g 5) (z.g 6) (0:Int)) fun J'=>(.an ((J'.s 20).length=(J'.s 20).length/\True) (.at (J'.s 20=z.s 20++da (k+1) (z.i 1) (z.i 2) (z.i 3) (z.s 4) (z.g 5) (z.g 6)))))) (.an v2 (.at (z.s 20++ [v7.toNat]=z.s 20++da (k+1) (z.i 1) (z.i 2) (z.i 3) (z.s 4) (z.g 5) (z.g 6)))))))))))))):=by
 dsimp only [GV,va,tT,vO,K3] at hA
 have i1:=@pu k (z.i 2) (z.s 4) (z.g 5) (z.g 6)
 have i2:=@mG k (z.i 2) (z.s 4) (z.g 5) (z.g 6)
 have u1:=@bX (na (z.i 2))
 have u2:=@bX (z.i 2%18446744073709551616) (by omega)
 have u3:=@bX (((z.s 4).length:Int)%18446744073709551616) (by omega)
 have u4:=@bX (((z.g 6).length:Int)%18446744073709551616) (by omega)
 have u5:=@vM (z.i 2)
 have v3:(z.s 4).length<=1000000->(((z.s 4).length:Int)%18446744073709551616).toNat=(z.s 4).length:=fun h=>by omega
 have v4:(z.g 6).length<=1000000->(((z.g 6).length:Int)%18446744073709551616).toNat=(z.g 6).length:=fun h=>by omega
 have l0:=@qW k (z.i 1) (z.i 2) (z.i 3) (z.s 4) (z.g 5) (z.g 6)
 have l1:=@pp k (z.i 1) (z.i 2) (z.i 3) (z.s 4) (z.g 5) (z.g 6)
 have l2:=@vK k (z.i 1) (z.i 2) (z.i 3) (z.s 4) (z.g 5) (z.g 6)
 have l3:=@qX k (z.i 1) (z.i 2) (z.i 3) (z.s 4) (z.g 5) (z.g 6)
 have l4:=@mF k (z.i 1) (z.i 2) (z.i 3) (z.s 4) (z.g 5) (z.g 6)
 have l5:=@qY k (z.i 1) (z.i 2) (z.i 3) (z.s 4) (z.g 5) (z.g 6)
 have l6:=@qZ k (z.i 1) (z.i 2) (z.i 3) (z.s 4) (z.g 5) (z.g 6)
 have c1:=@iM k (z.i 1) (z.i 2) (z.i 3) (z.s 4) (z.g 5) (z.g 6)
 have c2:=@jM k (z.i 1) (z.i 2) (z.i 3) (z.s 4) (z.g 5) (z.g 6)
 have c3:=@iL (z.i 1) (z.i 2) (z.i 3) (z.s 4) (z.g 5) (z.g 6)
 have k0:=@tR (z.i 1) (z.i 2) (z.i 3) (z.s 4) (z.g 5) (z.g 6)
 have k5:=@tQ (z.i 1) (z.i 2) (z.i 3) (z.s 4) (z.g 5) (z.g 6)
 have w1:=zP k (z.s 4) (z.g 6)
 dsimp only [nN] at c3
 conv=>zeta
 repeat' with_reducible first|intro _|apply aV|apply aZ|apply aT|apply bf|apply ba
 all_goals first|omega|grind [am,ai,ah,List.append_assoc]
theorem Ld:∀k,Ok Tryz.prog 219 (GV k)
 |0=>NM fun z h=>absurd ((fU _ _ _ _ _ _).symm.trans h.1) (by decide)
 |k+1=>bS 1000 mN (eK UY (eK Lb eN)) (eL (ptm:=[(1,.ag va)]) (O4 k (Ld k)) lN) (hn:=(hC 19 4903735569)) (SB k)
theorem EU(z:Sy)(h:tT 16 z=0)(hv:vO 16 z):(K3 16 z).length<=nP 16 (z.s 4) (z.g 6):=
 pw 16 (.node [.int (z.i 1),.int (z.i 2),.int (z.i 3),.str (z.s 4),.node (z.g 5),.node (z.g 6)]) ((gE 16 _).symm.trans h) ((nQ 16 _)▸hv) |> fun h=>by rw[←qV, ←vL] at h;exact h
theorem Lg(z:Sy)(h:tT 16 z=0):OZ 16 (z.s 4) (z.g 6)<=(K3 16 z).length:=
 K2 16 (.node [.int (z.i 1),.int (z.i 2),.int (z.i 3),.str (z.s 4),.node (z.g 5),.node (z.g 6)]) ((gE 16 _).symm.trans h) |> fun h=>by rw[←qV, ←Ca] at h;exact h
theorem zX(p z:Sy)(hA:(nS p).inv z):Fm.den (let v0:=(↑(gS (aa (aq (p.g 5) (z.i 9).toNat) 0)).length:Int);let v1:=(p.g 6=p.g 6/\p.g 5=p.g 5/\p.s 4=p.s 4/\p.i 3=p.i 3/\p.i 2=p.i 2/\p.i 1=p.i 1/\p.i 7=p.i 7/\p.g 6=p.g 6/\p.g 5=p.g 5/\p.s 4=p.s 4/\p.i 3=p.i 3/\p.i 2=p.i 2/\p.i 1=p.i 1/\True);let v2:=(↑(p.g 5).length:Int);let v3:=((0:Int)<z.i 9);let v4:=(p.g 6=p.g 6/\p.g 5=p.g 5/\p.s 4=p.s 4/\p.i 3=p.i 3/\p.i 2=p.i 2/\p.i 1=p.i 1/\True);let v5:=(v0<(1:Int));let v6:=(((1:Int)=0->eB (p.g 5) v2)/\(¬(1:Int)=0->(3:Int)=3/\¬eB (p.g 5) v2));let v7:=((40:Int)<v0);let v8:=((p.g 5).length<=1000000/\((0:Int)<=z.i 9+1/\z.i 9+1<= ↑(p.g 5).length)/\eB (p.g 5) (z.i 9+(1:Int)));let v9:=((0:Int)<=z.i 9/\z.i 9 < ↑(p.g 5).length);let v10:=((-9223372036854775808:Int)<=z.i 9+1/\z.i 9+1<=9223372036854775807);(.two (z.i 9 < ↑(p.g 5).length) (.an v9 (.two v5 (.an v5 (.an v5 (.an v5 (.an v5 (.an v5 (.an v5 (.an v5 (.an v4 (.at v6))))))))) (.an (¬v5) (.an (¬v5) (.an (¬v5) (.an v9 (.an (¬v5) (.an (¬v5) (.an (¬v5) (.an (¬v5) (.two v7 (.an v7 (.an v7 (.an v7 (.an v7 (.an v4 (.at v6)))))) (.an (¬v7) (.an (¬v7) (.two v3 (.an v3 (.an v3 (.an v3 (.an v9 (.an v3 (.an v3 (.an v3 (.an v3 (.an v3 (.an ((-9223372036854775808:Int)<=z.i 9-1/\z.i 9-1<=9223372036854775807) (.an v3 (.an ((0:Int)<=z.i 9-1/\z.i 9-1 < ↑(p.g 5).length) (.an v3 (.an v3 (.an (¬v7) (.an v3 (.an (¬v7) (.two (uo (gS (aa (aq (p.g 5) (z.i 9-(1:Int)).toNat) 0)) (gS (aa (aq (p.g 5) (z.i 9).toNat) 0))=false) (.an v4 (.at v6)) (.an v10 (.an v1 (.at (v8/\(v2-(z.i 9+1)).toNat<(v2-z.i 9).toNat/\∀(y:Sy),(y.i 999=(0:Int)->eB (p.g 5) v2)/\(¬y.i 999=0->y.i 10=3/\¬eB (p.g 5) v2)->(y.i 999=0->eB (p.g 5) v2)/\(¬y.i 999=0->y.i 10=3/\¬eB (p.g 5) v2))))))))))))))))))))))) (.an (¬v3) (.an (¬v3) (.an (¬v3) (.an (¬v3) (.an (¬v3) (.an (¬v3) (.an (¬v3) (.an (¬v3) (.an (¬v3) (.an (¬v3) (.an (¬v3) (.an (¬v7) (.an (¬v3) (.an (¬v7) (.an v10 (.an v1 (.at (v8/\(v2-(z.i 9+1)).toNat<(v2-z.i 9).toNat/\∀(y:Sy),(y.i 999=(0:Int)->eB (p.g 5) v2)/\(¬y.i 999=0->y.i 10=3/\¬eB (p.g 5) v2)->(y.i 999=0->eB (p.g 5) v2)/\(¬y.i 999=0->y.i 10=3/\¬eB (p.g 5) v2))))))))))))))))))))))))))))))))) (.an v1 (.at (((0:Int)=0->eB (p.g 5) v2)/\(¬(0:Int)=0->(aX (((((((PS.mk [(999,Tm.i (Int.ofNat (nat_lit 0)))] ((0,(bL 0).fst,0)::iZ.loc) iZ.ln (p.i 7=p.i 7/\p.g 6=p.g 6/\p.g 5=p.g 5/\p.s 4=p.s 4/\p.i 3=p.i 3/\p.i 2=p.i 2/\p.i 1=p.i 1/\iZ.pr) iZ.fz).and (p.i 1=p.i 1)).and (p.i 2=p.i 2)).and (p.i 3=p.i 3)).and (p.s 4=p.s 4)).and (p.g 5=p.g 5)).and (p.g 6=p.g 6)).tm).i 10=(3:Int)/\¬eB (p.g 5) v2)))))):=by
 dsimp only [nS,vp] at hA
 have e1:=@EF (p.g 5) (z.i 9) (p.g 5).length
 have e2:=@zG (p.g 5) (z.i 9)
 dsimp only [KV,tP] at e1 e2
 conv=>zeta
 repeat' with_reducible first|intro _|apply aV|apply aZ|apply aT|apply bf|apply ba
 all_goals first|omega|grind [am,ai,ah,KW]
theorem Ci:dU Tryz.prog 174 1 nS:=bH 1000 mN eN lN (hn:=(hC 62 996920995764833359449776373990861477)) zX
theorem Cj(z:Sy)(hA:(dm 0).pre z):Fm.den ((.an ((16:Int)<z.i 7) (.ax ((9:Int)=dw 0 (z.i 1) (z.i 2) (z.i 3) (z.s 4) (z.g 5) (z.g 6))))):=by
 dsimp only [dm,va,vO,tT] at hA
 repeat' with_reducible first|intro _|apply aV|apply aZ|apply aT|apply bf|apply ba
 all_goals first|omega|grind [am,ai,ah,fU]
theorem G2:Ok Tryz.prog 174 (dm 0):=bS 1000 mN eN lN (hn:=(.yes .nil)) Cj
theorem zY(k:Nat)(p z:Sy)(hA:((nT k) p).inv z):Fm.den (let v0:=(aq (p.g 6) (z.i 9).toNat);let v1:=(p.g 6=p.g 6/\p.g 5=p.g 5/\p.s 4=p.s 4/\p.i 3=p.i 3/\p.i 2=p.i 2/\p.i 1=p.i 1/\True);let v2:=(-9223372036854775808:Int);(.two (z.i 9 < ↑(p.g 6).length) (.an ((0:Int)<=z.i 9/\z.i 9 < ↑(p.g 6).length) (.an (v2<=p.i 7+1/\p.i 7+1<=9223372036854775807) (.ct (p.i 7+1=17 - ↑k/\k<=16/\lA k (gI (aa v0 1)) (gS (aa v0 3)) (gL (aa v0 4)) (gL (aa v0 5))) (fun y0=>y0.i 10=dw k (gI (aa v0 0)) (gI (aa v0 1)) (gI (aa v0 2)) (gS (aa v0 3)) (gL (aa v0 4)) (gL (aa v0 5))) fun y0=>(.two (y0.i 10≠0) (.an v1 (.at (((1:Int)=0->ci k (p.g 6) (0:Int)=0)/\(¬(1:Int)=0->y0.i 10=ci k (p.g 6) 0)))) (.an (v2<=z.i 9+1/\z.i 9+1<=9223372036854775807) (.an (p.g 6=p.g 6/\p.g 5=p.g 5/\p.s 4=p.s 4/\p.i 3=p.i 3/\p.i 2=p.i 2/\p.i 1=p.i 1/\p.i 7=p.i 7/\True) (.at ((p.i 7=16 - ↑k/\k<=15/\A1 k (p.g 6)/\(p.g 6).length<=1000000/\((0:Int)<=z.i 9+1/\z.i 9+1<= ↑(p.g 6).length)/\ci k (p.g 6) (0:Int)=ci k (p.g 6) (z.i 9+1))/\((↑(p.g 6).length:Int)-(z.i 9+1)).toNat<((↑(p.g 6).length:Int)-z.i 9).toNat/\∀(y:Sy),(y.i 999=(0:Int)->ci k (p.g 6) (0:Int)=0)/\(¬y.i 999=0->y.i 10=ci k (p.g 6) 0)->(y.i 999=0->ci k (p.g 6) (0:Int)=0)/\(¬y.i 999=0->y.i 10=ci k (p.g 6) 0))))))))) (.an v1 (.at (((0:Int)=0->ci k (p.g 6) (0:Int)=0)/\(¬(0:Int)=0->(aX ((((((((have __src:=iZ;PS.mk [(999,Tm.i (Int.ofNat (nat_lit 0)))] __src.loc __src.ln __src.pr __src.fz).name (0,base+0,sn (lm bL z 0 (BSh.cells 25 (vp p))))).and (p.i 1=p.i 1)).and (p.i 2=p.i 2)).and (p.i 3=p.i 3)).and (p.s 4=p.s 4)).and (p.g 5=p.g 5)).and (p.g 6=p.g 6)).tm).i 10=ci k (p.g 6) (0:Int))))))):=by
 dsimp only [nT,vp] at hA
 have e1:=@zL k (p.g 6) (z.i 9)
 have e2:=@EM k (p.g 6) (z.i 9)
 have e3:=@po k (p.g 6) (z.i 9)
 have e4:=gE k (aq (p.g 6) (z.i 9).toNat)
 have e5:=@mH k (p.g 6) (z.i 9)
 have e6:=nQ k (aq (p.g 6) (z.i 9).toNat)
 conv=>zeta
 repeat' with_reducible first|intro _|apply aV|apply aZ|apply aT|apply bf|apply ba
 all_goals first|omega|grind [am,ai,ah]
theorem Ck(k:Nat)(hrcheck:Ok Tryz.prog 174 (px k)):dU Tryz.prog 174 3 (nT k):=bH 1000 mN (eK hrcheck eN) lN (hn:=(hC 7 537)) (zY k)
theorem G3(k:Nat)(z:Sy)(hA:(px (k+1)).pre z):Fm.den (let zw:=(0:Int)<=0;let v0:=((3:Int)=dw (k+1) (z.i 1) (z.i 2) (z.i 3) (z.s 4) (z.g 5) (z.g 6));let v2:=((z.g 6=z.g 6/\z.g 5=z.g 5/\z.s 4=z.s 4/\z.i 3=z.i 3/\z.i 2=z.i 2/\z.i 1=z.i 1/\z.i 7=z.i 7/\True));let v3:=((0:Int)=dw (k+1) (z.i 1) (z.i 2) (z.i 3) (z.s 4) (z.g 5) (z.g 6));let v4:=(↑(z.g 5).length:Int);let v5:=((z.g 6=z.g 6/\z.g 5=z.g 5/\z.s 4=z.s 4/\z.i 3=z.i 3/\z.i 2=z.i 2/\z.i 1=z.i 1/\z.i 7=z.i 7/\z.g 6=z.g 6/\z.g 5=z.g 5/\z.s 4=z.s 4/\z.i 3=z.i 3/\z.i 2=z.i 2/\z.i 1=z.i 1/\True));let v6:=((5:Int)=dw (k+1) (z.i 1) (z.i 2) (z.i 3) (z.s 4) (z.g 5) (z.g 6));let v7:=(z.s 4≠ []);let v8:=(z.i 3≠0);let v9:=(↑(z.g 6).length:Int);let v1:=(z.i 7=16 - ↑k/\k<=15/\A1 k (z.g 6)/\(z.g 6).length<=1000000/\(zw/\0<=v9)/\ci k (z.g 6) (0:Int)=ci k (z.g 6) 0);let v10:=(z.i 2≠0);let v11:=(z.i 1=8);let f8:=((z.g 5).length<=1000000/\(zw/\0<=v4)/\eB (z.g 5) (0:Int));let g9:=((0:Int)<=z.i 2/\(0:Int)<10);let l7:=(16384<(↑(z.s 4).length:Int));let o6:=((9007199254740992:Int)<z.i 2);(.an (¬((16:Int)<z.i 7)) (.two (0<v9) (.two (z.i 1=1) (.two v10 (.ax v0) (.two v8 (.ax v0) (.two v7 (.ax v0) (.ax v0)))) (.two (z.i 1=2) (.two (z.i 2<0) (.ax v0) (.two ((1:Int)<z.i 2) (.ax v0) (.two v8 (.ax v0) (.two v7 (.ax v0) (.ax v0))))) (.two (z.i 1=3) (.two v8 (.ax v0) (.two v7 (.ax v0) (.ax v0))) (.two (z.i 1=4) (.two (z.i 3<1) (.ax v0) (.two ((18:Int)<z.i 3) (.ax v0) (.an ((10:Int)≠0) (.two g9 (.two (z.i 2%10=0) (.ax v0) (.two v7 (.ax v0) (.ax v0))) (.two ((z.i 2).tmod 10=0) (.ax v0) (.two v7 (.ax v0) (.ax v0))))))) (.two (z.i 1=5) (.two (z.i 2<0) (.ax v0) (.two o6 (.ax v0) (.two v8 (.ax v0) (.two v7 (.ax v0) (.ax v0))))) (.two (z.i 1=6) (.an (z.i 1=6) (.two v10 (.ax v0) (.two v8 (.ax v0) (.ax v0)))) (.two (z.i 1=7) (.two v10 (.ax v0) (.two v8 (.ax v0) (.ax v0))) (.two v11 (.an v11 (.two v10 (.ax v0) (.two v8 (.ax v0) (.two v7 (.ax v0) (.an v11 (.two (0<v4) (.ax v0) (.two (200<v9) (.ax v6) (.an v11 (.cl v2 v1 (fun y0=>(y0.i 999=0->ci k (z.g 6) (0:Int)=0)/\(¬y0.i 999=0->y0.i 10=ci k (z.g 6) 0)) fun y0=>(.two (y0.i 999=0) (.ax v3) (.ax (y0.i 10=dw (k+1) (z.i 1) (z.i 2) (z.i 3) (z.s 4) (z.g 5) (z.g 6))))))))))))) (.two (z.i 1=9) (.two v10 (.ax v0) (.two v8 (.ax v0) (.two v7 (.ax v0) (.an (¬v11) (.two (200<v9) (.ax v6) (.an (¬v11) (.two (v4≠v9) (.ax v0) (.cl v5 f8 (fun y1=>(y1.i 999=0->eB (z.g 5) v4)/\(¬y1.i 999=0->y1.i 10=3/\¬eB (z.g 5) v4)) fun y1=>(.two (y1.i 999=0) (.cl v2 v1 (fun y2=>(y2.i 999=0->ci k (z.g 6) (0:Int)=0)/\(¬y2.i 999=0->y2.i 10=ci k (z.g 6) 0)) fun y2=>(.two (y2.i 999=0) (.ax v3) (.ax (y2.i 10=dw (k+1) (z.i 1) (z.i 2) (z.i 3) (z.s 4) (z.g 5) (z.g 6))))) (.ax (y1.i 10=dw (k+1) (z.i 1) (z.i 2) (z.i 3) (z.s 4) (z.g 5) (z.g 6)))))))))))) (.ax v0)))))))))) (.two (z.i 1=1) (.two v10 (.ax v0) (.two v8 (.ax v0) (.two v7 (.ax v0) (.two (0<v4) (.ax v0) (.cl v2 v1 (fun y3=>(y3.i 999=0->ci k (z.g 6) (0:Int)=0)/\(¬y3.i 999=0->y3.i 10=ci k (z.g 6) 0)) fun y3=>(.two (y3.i 999=0) (.ax v3) (.ax (y3.i 10=dw (k+1) (z.i 1) (z.i 2) (z.i 3) (z.s 4) (z.g 5) (z.g 6))))))))) (.two (z.i 1=2) (.two (z.i 2<0) (.ax v0) (.two ((1:Int)<z.i 2) (.ax v0) (.two v8 (.ax v0) (.two v7 (.ax v0) (.two (0<v4) (.ax v0) (.cl v2 v1 (fun y4=>(y4.i 999=0->ci k (z.g 6) (0:Int)=0)/\(¬y4.i 999=0->y4.i 10=ci k (z.g 6) 0)) fun y4=>(.two (y4.i 999=0) (.ax v3) (.ax (y4.i 10=dw (k+1) (z.i 1) (z.i 2) (z.i 3) (z.s 4) (z.g 5) (z.g 6)))))))))) (.two (z.i 1=3) (.two v8 (.ax v0) (.two v7 (.ax v0) (.two (0<v4) (.ax v0) (.cl v2 v1 (fun y5=>(y5.i 999=0->ci k (z.g 6) (0:Int)=0)/\(¬y5.i 999=0->y5.i 10=ci k (z.g 6) 0)) fun y5=>(.two (y5.i 999=0) (.ax v3) (.ax (y5.i 10=dw (k+1) (z.i 1) (z.i 2) (z.i 3) (z.s 4) (z.g 5) (z.g 6)))))))) (.two (z.i 1=4) (.two (z.i 3<1) (.ax v0) (.two ((18:Int)<z.i 3) (.ax v0) (.an ((10:Int)≠0) (.two g9 (.two (z.i 2%10=0) (.ax v0) (.two v7 (.ax v0) (.two (0<v4) (.ax v0) (.cl v2 v1 (fun y6=>(y6.i 999=0->ci k (z.g 6) (0:Int)=0)/\(¬y6.i 999=0->y6.i 10=ci k (z.g 6) 0)) fun y6=>(.two (y6.i 999=0) (.ax v3) (.ax (y6.i 10=dw (k+1) (z.i 1) (z.i 2) (z.i 3) (z.s 4) (z.g 5) (z.g 6)))))))) (.two ((z.i 2).tmod 10=0) (.ax v0) (.two v7 (.ax v0) (.two (0<v4) (.ax v0) (.cl v2 v1 (fun y7=>(y7.i 999=0->ci k (z.g 6) (0:Int)=0)/\(¬y7.i 999=0->y7.i 10=ci k (z.g 6) 0)) fun y7=>(.two (y7.i 999=0) (.ax v3) (.ax (y7.i 10=dw (k+1) (z.i 1) (z.i 2) (z.i 3) (z.s 4) (z.g 5) (z.g 6)))))))))))) (.two (z.i 1=5) (.two (z.i 2<0) (.ax v0) (.two o6 (.ax v0) (.two v8 (.ax v0) (.two v7 (.ax v0) (.two (0<v4) (.ax v0) (.cl v2 v1 (fun y8=>(y8.i 999=0->ci k (z.g 6) (0:Int)=0)/\(¬y8.i 999=0->y8.i 10=ci k (z.g 6) 0)) fun y8=>(.two (y8.i 999=0) (.ax v3) (.ax (y8.i 10=dw (k+1) (z.i 1) (z.i 2) (z.i 3) (z.s 4) (z.g 5) (z.g 6)))))))))) (.two (z.i 1=6) (.an (z.i 1=6) (.two v10 (.ax v0) (.two v8 (.ax v0) (.two (0<v4) (.ax v0) (.two l7 (.ax v6) (.cl v2 v1 (fun y9=>(y9.i 999=0->ci k (z.g 6) (0:Int)=0)/\(¬y9.i 999=0->y9.i 10=ci k (z.g 6) 0)) fun y9=>(.two (y9.i 999=0) (.ax v3) (.ax (y9.i 10=dw (k+1) (z.i 1) (z.i 2) (z.i 3) (z.s 4) (z.g 5) (z.g 6)))))))))) (.two (z.i 1=7) (.two v10 (.ax v0) (.two v8 (.ax v0) (.two (0<v4) (.ax v0) (.two l7 (.ax v6) (.cl v2 v1 (fun J'=>(J'.i 999=0->ci k (z.g 6) (0:Int)=0)/\(¬J'.i 999=0->J'.i 10=ci k (z.g 6) 0)) fun J'=>(.two (J'.i 999=0) (.ax v3) (.ax (J'.i 10=dw (k+1) (z.i 1) (z.i 2) (z.i 3) (z.s 4) (z.g 5) (z.g 6))))))))) (.two v11 (.an v11 (.two v10 (.ax v0) (.two v8 (.ax v0) (.two v7 (.ax v0) (.an v11 (.two (0<v4) (.ax v0) (.an (¬(200<v9)) (.an v11 (.cl v2 v1 (fun M'=>(M'.i 999=0->ci k (z.g 6) (0:Int)=0)/\(¬M'.i 999=0->M'.i 10=ci k (z.g 6) 0)) fun M'=>(.two (M'.i 999=0) (.ax v3) (.ax (M'.i 10=dw (k+1) (z.i 1) (z.i 2) (z.i 3) (z.s 4) (z.g 5) (z.g 6))))))))))))) (.two (z.i 1=9) (.two v10 (.ax v0) (.two v8 (.ax v0) (.two v7 (.ax v0) (.an (¬v11) (.an (¬(200<v9)) (.an (¬v11) (.two (v4≠v9) (.ax v0) (.cl v5 f8 (fun Yr=>(Yr.i 999=0->eB (z.g 5) v4)/\(¬Yr.i 999=0->Yr.i 10=3/\¬eB (z.g 5) v4)) fun Yr=>(.two (Yr.i 999=0) (.cl v2 v1 (fun Yj=>(Yj.i 999=0->ci k (z.g 6) (0:Int)=0)/\(¬Yj.i 999=0->Yj.i 10=ci k (z.g 6) 0)) fun Yj=>(.two (Yj.i 999=0) (.ax v3) (.ax (Yj.i 10=dw (k+1) (z.i 1) (z.i 2) (z.i 3) (z.s 4) (z.g 5) (z.g 6))))) (.ax (Yr.i 10=dw (k+1) (z.i 1) (z.i 2) (z.i 3) (z.s 4) (z.g 5) (z.g 6)))))))))))) (.ax v0))))))))))))):=by
 dsimp only [px,dm,va,vO,tT] at hA
 have k0:=@tR (z.i 1) (z.i 2) (z.i 3) (z.s 4) (z.g 5) (z.g 6)
 have k1:=@EG (z.i 1) (z.i 2) (z.i 3) (z.s 4) (z.g 5) (z.g 6)
 have k2:=@EH (z.i 1) (z.i 2) (z.i 3) (z.s 4) (z.g 5) (z.g 6)
 have k3:=@zH (z.i 1) (z.i 2) (z.i 3) (z.s 4) (z.g 5) (z.g 6)
 have k4:=@EI (z.i 1) (z.i 2) (z.i 3) (z.s 4) (z.g 5) (z.g 6)
 have k5:=@tQ (z.i 1) (z.i 2) (z.i 3) (z.s 4) (z.g 5) (z.g 6)
 have k6:=@EJ (z.i 1) (z.i 2) (z.i 3) (z.s 4) (z.g 5) (z.g 6)
 have k7:=@EK (z.i 1) (z.i 2) (z.i 3) (z.s 4) (z.g 5) (z.g 6)
 have k8:=@EL (z.i 1) (z.i 2) (z.i 3) (z.s 4) (z.g 5) (z.g 6)
 have k9:=@KX (z.i 1) (z.i 2) (z.i 3) (z.s 4) (z.g 5) (z.g 6)
 have f1:=@zI (z.i 1) (z.i 2) (z.i 3) (z.s 4) (z.g 5) (z.g 6)
 have f2:=@zJ (z.i 1) (z.i 2) (z.i 3) (z.s 4) (z.g 5) (z.g 6)
 have f3:=@zK (z.i 1) (z.i 2) (z.i 3) (z.s 4) (z.g 5) (z.g 6)
 have f4:=@B_ (z.i 1) (z.i 2) (z.i 3) (z.s 4) (z.g 5) (z.g 6)
 have e1:=UX (z.i 2)
 dsimp only [nN] at f3 f4
 have c1:=@iM k (z.i 1) (z.i 2) (z.i 3) (z.s 4) (z.g 5) (z.g 6)
 have c2:=@jM k (z.i 1) (z.i 2) (z.i 3) (z.s 4) (z.g 5) (z.g 6)
 have n0:=@zF (z.g 5) 0
 have i1:=@pu k (z.i 2) (z.s 4) (z.g 5) (z.g 6)
 have i2:=@mG k (z.i 2) (z.s 4) (z.g 5) (z.g 6)
 conv=>zeta
 repeat' with_reducible first|intro _|apply aV|apply aZ|apply aT|apply bf|apply ba
 all_goals first|omega|grind [am,ai,ah]
theorem tV:∀k,Ok Tryz.prog 174 (px k)
 |0=>G2
 |k+1=>bS 1000 mN eN (eL (ptm:=[(0,.ag va),(1,.c (.i .i64 7))]) Ci (eL (ptm:=[(0,.ag va),(1,.c (.i .i64 7))]) (Ck k (tV k)) lN)) (hn:=(hC 234 953442819000121726201262095695649363329921864283241058312356325173683069069044876558159509452364324075753668357220830729648882722404320343)) (G3 k)
theorem G4(z:Sy)(hA:vQ.pre z):Fm.den ((.ct ((1:Int)=17-16/\16<=16/\lA 16 (z.i 2) (z.s 4) (z.g 5) (z.g 6)) (fun y0=>y0.i 10=dw 16 (z.i 1) (z.i 2) (z.i 3) (z.s 4) (z.g 5) (z.g 6)) fun y0=>(.ax (y0.i 10=dw 16 (z.i 1) (z.i 2) (z.i 3) (z.s 4) (z.g 5) (z.g 6))))):=by
 dsimp only [vQ,mI,va,vO,tT] at hA
 repeat' with_reducible first|intro _|apply aV|apply aZ|apply aT|apply bf|apply ba
 all_goals first|omega|grind [am,ai,ah]
theorem Lh:Ok Tryz.prog 108 vQ:=bS 1000 mN (eK (tV 16) eN) lN (hn:=.nil) G4
theorem Cl(k:Nat)(p z:Sy)(hA:((rf k) p).inv z):Fm.den (let v0:=(aq (p.g 6) (z.i 9).toNat);let v1:=(p.g 6=p.g 6/\p.g 5=p.g 5/\p.s 4=p.s 4/\p.i 3=p.i 3/\p.i 2=p.i 2/\p.i 1=p.i 1/\True);let v3:=(tS k (p.g 6) 0);let v4:=(↑(OZ k (gS (aa v0 3)) (gL (aa v0 5))):Int);let v5:=(65536:Int);let v2:=(((0:Int)<=z.i 7/\z.i 7<=2000000)/\(z.i 7<=65536->p.i 7+ ↑v3=z.i 7)/\(v5<z.i 7->65536<p.i 7+(↑v3:Int)));(.two (z.i 9 < ↑(p.g 6).length) (.two (z.i 7<=65536) (.an ((0:Int)<=z.i 9/\z.i 9 < ↑(p.g 6).length) (.ct (dw k (gI (aa v0 0)) (gI (aa v0 1)) (gI (aa v0 2)) (gS (aa v0 3)) (gL (aa v0 4)) (gL (aa v0 5))=(0:Int)/\(0:Int)<=z.i 7/\z.i 7<=65536) (fun y0=>((0:Int)<=y0.i 7/\y0.i 7<=2000000)/\(y0.i 7<=65536->z.i 7+v4=y0.i 7)/\(v5<y0.i 7->v5<z.i 7+v4)/\(y0.p 10↔65536<y0.i 7)) fun y0=>(.an ((-9223372036854775808:Int)<=z.i 9+1/\z.i 9+1<=9223372036854775807) (.an v1 (.at ((ci k (p.g 6) (0:Int)=0/\(p.g 6).length<=200/\((0:Int)<=z.i 9+1/\z.i 9+1<= ↑(p.g 6).length)/\((0:Int)<=y0.i 7/\y0.i 7<=2000000)/\(y0.i 7<=65536->p.i 7+ ↑v3=y0.i 7+ ↑(tS k (p.g 6) (z.i 9+1)))/\(v5<y0.i 7->65536<p.i 7+(↑v3:Int)))/\((↑(p.g 6).length:Int)-(z.i 9+1)).toNat<((↑(p.g 6).length:Int)-z.i 9).toNat/\∀(y:Sy),((0:Int)<=y.i 7/\y.i 7<=2000000)/\(y.i 7<=65536->p.i 7+ ↑v3=y.i 7)/\(v5<y.i 7->65536<p.i 7+(↑v3:Int))->((0:Int)<=y.i 7/\y.i 7<=2000000)/\(y.i 7<=65536->p.i 7+ ↑v3=y.i 7)/\(v5<y.i 7->65536<p.i 7+(↑v3:Int)))))))) (.an v1 (.at v2))) (.an v1 (.at v2)))):=by
 dsimp only [rf,vp] at hA
 have q1:=@zQ k (p.g 6) (z.i 9)
 have q2:=@vN k (p.g 6) (z.i 9)
 have q3:=Ca k (aq (p.g 6) (z.i 9).toNat)
 have n9:=gE k (aq (p.g 6) (z.i 9).toNat)
 have m1:=@iN k (p.g 6) (z.i 9)
 conv=>zeta
 repeat' with_reducible first|intro _|apply aV|apply aZ|apply aT|apply bf|apply ba
 all_goals first|omega|grind [am,ai,ah]
theorem G5(k:Nat)(ae3:Ok Tryz.prog 109 (vS k)):dU Tryz.prog 109 0 (rf k):=bH 1000 mN (eK ae3 eN) lN (hn:=(hC 6 37)) (Cl k)
theorem Lk(k:Nat)(z:Sy)(hA:(vS (k+1)).pre z):Fm.den (let v0:=(↑(z.s 4).length:Int);let v1:=(tS k (z.g 6) 0);let v2:=((z.g 6=z.g 6/\z.g 5=z.g 5/\z.s 4=z.s 4/\z.i 3=z.i 3/\z.i 2=z.i 2/\z.i 1=z.i 1/\True));let v3:=(z.i 7+1+v0);let v4:=(OZ (k+1) (z.s 4) (z.g 6));let v5:=(65536:Int);let v6:=((0:Int)<=0/\0<=(↑(z.g 6).length:Int));let v7:=(↑v1:Int);(.an ((-9223372036854775808:Int)<=z.i 7+1/\z.i 7+1<=9223372036854775807) (.two ((-9223372036854775808)<=z.i 7+1+v0/\z.i 7+1+ ↑(z.s 4).length<=9223372036854775807) (.cl v2 (ci k (z.g 6) (0:Int)=0/\(z.g 6).length<=200/\v6/\(0<=z.i 7+1+v0/\z.i 7+1+ ↑(z.s 4).length<=2000000)/\(z.i 7+1+ ↑(z.s 4).length<=65536->z.i 7+1+ ↑(z.s 4).length+ ↑v1=z.i 7+1+ ↑(z.s 4).length+ ↑v1)/\(65536<z.i 7+1+v0->65536<z.i 7+1+v0+v7)) (fun y0=>((0:Int)<=y0.i 7/\y0.i 7<=2000000)/\(y0.i 7<=65536->z.i 7+1+ ↑(z.s 4).length+ ↑v1=y0.i 7)/\(v5<y0.i 7->65536<z.i 7+1+v0+v7)) fun y0=>(.ax (((0:Int)<=y0.i 7/\y0.i 7<=2000000)/\(y0.i 7<=65536->z.i 7+ ↑v4=y0.i 7)/\(v5<y0.i 7->65536<z.i 7+(↑v4:Int))/\(v5<y0.i 7↔65536<y0.i 7)))) (.cl v2 (ci k (z.g 6) (0:Int)=0/\(z.g 6).length<=200/\v6/\(0<=Go.IntKind.i64.wrap v3/\Go.IntKind.i64.wrap v3<=2000000)/\(Go.IntKind.i64.wrap v3<=65536->Go.IntKind.i64.wrap v3+ ↑v1=Go.IntKind.i64.wrap v3+ ↑v1)/\(65536<Go.IntKind.i64.wrap v3->65536<Go.IntKind.i64.wrap v3+v7)) (fun y1=>((0:Int)<=y1.i 7/\y1.i 7<=2000000)/\(y1.i 7<=65536->Go.IntKind.i64.wrap v3+ ↑v1=y1.i 7)/\(v5<y1.i 7->65536<Go.IntKind.i64.wrap v3+v7)) fun y1=>(.ax (((0:Int)<=y1.i 7/\y1.i 7<=2000000)/\(y1.i 7<=65536->z.i 7+ ↑v4=y1.i 7)/\(v5<y1.i 7->65536<z.i 7+(↑v4:Int))/\(v5<y1.i 7↔65536<y1.i 7))))))):=by
 dsimp only [vS,va,tT] at hA
 have c1:=@iM k (z.i 1) (z.i 2) (z.i 3) (z.s 4) (z.g 5) (z.g 6)
 have c2:=@jM k (z.i 1) (z.i 2) (z.i 3) (z.s 4) (z.g 5) (z.g 6)
 have c3:=@iL (z.i 1) (z.i 2) (z.i 3) (z.s 4) (z.g 5) (z.g 6)
 have w1:=K0 k (z.s 4) (z.g 6)
 conv=>zeta
 repeat' with_reducible first|intro _|apply aV|apply aZ|apply aT|apply bf|apply ba
 all_goals first|omega|grind [am,ai,ah]
theorem zZ:∀k,Ok Tryz.prog 109 (vS k)
 |0=>NM fun z h=>absurd ((fU _ _ _ _ _ _).symm.trans h.1) (by decide)
 |k+1=>bS 1000 mN eN (eL (ptm:=[(0,.ag va),(14,.c (.i .i64 7))]) (G5 k (zZ k)) lN) (hn:=(.yes (.both .nil .nil))) (Lk k)
theorem Cm(z:Sy)(hA:re.pre z):Fm.den (let v0:=(dT (z.i 1) (z.i 2) (z.i 3) (z.s 4) (z.g 5) (z.g 6)=(0:Int)-> []=da 16 (z.i 1) (z.i 2) (z.i 3) (z.s 4) (z.g 5) (z.g 6)/\(da 16 (z.i 1) (z.i 2) (z.i 3) (z.s 4) (z.g 5) (z.g 6)).length<=65536);let v1:=((5:Int)=dT (z.i 1) (z.i 2) (z.i 3) (z.s 4) (z.g 5) (z.g 6)/\v0/\(¬dT (z.i 1) (z.i 2) (z.i 3) (z.s 4) (z.g 5) (z.g 6)=(0:Int)->oV));let v2:=(↑(OZ 16 (z.s 4) (z.g 6)):Int);(.ct (lA 16 (z.i 2) (z.s 4) (z.g 5) (z.g 6)) (fun y0=>y0.i 10=dw 16 (z.i 1) (z.i 2) (z.i 3) (z.s 4) (z.g 5) (z.g 6)) fun y0=>(.two (y0.i 10≠0) (.ax (y0.i 10=dT (z.i 1) (z.i 2) (z.i 3) (z.s 4) (z.g 5) (z.g 6)/\v0/\(¬dT (z.i 1) (z.i 2) (z.i 3) (z.s 4) (z.g 5) (z.g 6)=(0:Int)->oV))) (.ct (dw 16 (z.i 1) (z.i 2) (z.i 3) (z.s 4) (z.g 5) (z.g 6)=(0:Int)/\(0:Int)<=0/\(0:Int)<=65536) (fun y1=>((0:Int)<=y1.i 7/\y1.i 7<=2000000)/\(y1.i 7<=65536->0+v2=y1.i 7)/\((65536:Int)<y1.i 7->65536<0+v2)/\(y1.p 10↔65536<y1.i 7)) fun y1=>(.two (y1.p 10) (.ax v1) (.cl ((0=0/\True)) (dw 16 (z.i 1) (z.i 2) (z.i 3) (z.s 4) (z.g 5) (z.g 6)=(0:Int)/\lA 16 (z.i 2) (z.s 4) (z.g 5) (z.g 6)/\0+nP 16 (z.s 4) (z.g 6)<=100000000) (fun y2=>y2.s 20= []++da 16 (z.i 1) (z.i 2) (z.i 3) (z.s 4) (z.g 5) (z.g 6)) fun y2=>(.two (65536<(↑(y2.s 20).length:Int)) (.ax v1) (.an ((y2.s 20).length=(y2.s 20).length/\True) (.at ((0:Int)=dT (z.i 1) (z.i 2) (z.i 3) (z.s 4) (z.g 5) (z.g 6)/\(dT (z.i 1) (z.i 2) (z.i 3) (z.s 4) (z.g 5) (z.g 6)=(0:Int)->y2.s 20=da 16 (z.i 1) (z.i 2) (z.i 3) (z.s 4) (z.g 5) (z.g 6)/\(da 16 (z.i 1) (z.i 2) (z.i 3) (z.s 4) (z.g 5) (z.g 6)).length<=65536)/\(¬dT (z.i 1) (z.i 2) (z.i 3) (z.s 4) (z.g 5) (z.g 6)=(0:Int)->y2.s 20= []))))))))))):=by
 dsimp only [re,mJ,va,Uc,vO,Q6,K3] at hA
 have a1:=@EQ (z.i 1) (z.i 2) (z.i 3) (z.s 4) (z.g 5) (z.g 6)
 have a2:=@zR (z.i 1) (z.i 2) (z.i 3) (z.s 4) (z.g 5) (z.g 6)
 have a3:=@Cc (z.i 1) (z.i 2) (z.i 3) (z.s 4) (z.g 5) (z.g 6)
 have v1:=EU z
 have v2:=Lg z
 dsimp only [tT,K3,vO] at v1 v2
 conv=>zeta
 repeat' with_reducible first|intro _|apply aV|apply aZ|apply aT|apply bf|apply ba
 all_goals first|omega|grind [am,ai,ah]
theorem nU:Ok Tryz.prog 51 re:=bS 1000 mN (eK Lh (eK (zZ 16) (eK (zW 16) eN))) lN (hn:=(hC 7 273)) Cm
theorem Ll(z:Sy)(hA:Cd.pre z):Fm.den ((.ct (lA 16 (z.i 2) (z.s 4) (z.g 5) (z.g 6)/\nP 16 (z.s 4) (z.g 6)<=10000000) (fun y0=>y0.i 11=dT (z.i 1) (z.i 2) (z.i 3) (z.s 4) (z.g 5) (z.g 6)/\(dT (z.i 1) (z.i 2) (z.i 3) (z.s 4) (z.g 5) (z.g 6)=(0:Int)->y0.s 10=da 16 (z.i 1) (z.i 2) (z.i 3) (z.s 4) (z.g 5) (z.g 6)/\(da 16 (z.i 1) (z.i 2) (z.i 3) (z.s 4) (z.g 5) (z.g 6)).length<=65536)/\(¬dT (z.i 1) (z.i 2) (z.i 3) (z.s 4) (z.g 5) (z.g 6)=(0:Int)->y0.s 10= [])) fun y0=>(.two (y0.i 11≠0) (.ax (y0.i 11=dT (z.i 1) (z.i 2) (z.i 3) (z.s 4) (z.g 5) (z.g 6)/\hZ=zS (z.i 1) (z.i 2) (z.i 3) (z.s 4) (z.g 5) (z.g 6))) (.ct ((y0.s 10).length<=999999) (fun y1=>hT y1 300=aJ (y0.s 10)) fun y1=>(.ax ((0:Int)=dT (z.i 1) (z.i 2) (z.i 3) (z.s 4) (z.g 5) (z.g 6)/\hT y1 300=zS (z.i 1) (z.i 2) (z.i 3) (z.s 4) (z.g 5) (z.g 6))))))):=by
 dsimp only [Cd,zT,va,Uc,vO,Q6,WG] at hA
 have b1:=@K7 (z.i 1) (z.i 2) (z.i 3) (z.s 4) (z.g 5) (z.g 6)
 have b2:=@ET (z.i 1) (z.i 2) (z.i 3) (z.s 4) (z.g 5) (z.g 6)
 repeat' with_reducible first|intro _|apply aV|apply aZ|apply aT|apply bf|apply ba
 all_goals first|omega|grind [am,ai,ah]
theorem vU:Ok Tryz.prog 23 Cd:=bS 1000 mN (eK nU (eK vH eN)) lN (hn:=(.both .nil .nil)) Ll
theorem G6(z:Sy)(hA:mJ.pre z):Fm.den (let v0:=(dT (z.i 1) (z.i 2) (z.i 3) (z.s 4) (z.g 5) (z.g 6)=(0:Int)-> []=da 16 (z.i 1) (z.i 2) (z.i 3) (z.s 4) (z.g 5) (z.g 6)/\(da 16 (z.i 1) (z.i 2) (z.i 3) (z.s 4) (z.g 5) (z.g 6)).length<=65536);let v1:=(¬dT (z.i 1) (z.i 2) (z.i 3) (z.s 4) (z.g 5) (z.g 6)=(0:Int)->oV);(.ct (lA 16 (z.i 2) (z.s 4) (z.g 5) (z.g 6)) (fun y0=>y0.i 10=dw 16 (z.i 1) (z.i 2) (z.i 3) (z.s 4) (z.g 5) (z.g 6)) fun y0=>(.two (y0.i 10≠0) (.ax (y0.i 10=dT (z.i 1) (z.i 2) (z.i 3) (z.s 4) (z.g 5) (z.g 6)/\v0/\v1)) (.cl ((0=0/\True)) (dw 16 (z.i 1) (z.i 2) (z.i 3) (z.s 4) (z.g 5) (z.g 6)=(0:Int)/\lA 16 (z.i 2) (z.s 4) (z.g 5) (z.g 6)/\0+nP 16 (z.s 4) (z.g 6)<=100000000) (fun y1=>y1.s 20= []++da 16 (z.i 1) (z.i 2) (z.i 3) (z.s 4) (z.g 5) (z.g 6)) fun y1=>(.two (65536<(↑(y1.s 20).length:Int)) (.ax ((5:Int)=dT (z.i 1) (z.i 2) (z.i 3) (z.s 4) (z.g 5) (z.g 6)/\v0/\v1)) (.an ((y1.s 20).length=(y1.s 20).length/\True) (.at ((0:Int)=dT (z.i 1) (z.i 2) (z.i 3) (z.s 4) (z.g 5) (z.g 6)/\(dT (z.i 1) (z.i 2) (z.i 3) (z.s 4) (z.g 5) (z.g 6)=(0:Int)->y1.s 20=da 16 (z.i 1) (z.i 2) (z.i 3) (z.s 4) (z.g 5) (z.g 6)/\(da 16 (z.i 1) (z.i 2) (z.i 3) (z.s 4) (z.g 5) (z.g 6)).length<=65536)/\(¬dT (z.i 1) (z.i 2) (z.i 3) (z.s 4) (z.g 5) (z.g 6)=(0:Int)->y1.s 20= []))))))))):=by
 dsimp only [mJ,va,Uc,vO,Q6,K3] at hA
 have a1:=@EQ (z.i 1) (z.i 2) (z.i 3) (z.s 4) (z.g 5) (z.g 6)
 have a2:=@zR (z.i 1) (z.i 2) (z.i 3) (z.s 4) (z.g 5) (z.g 6)
 have a3:=@Cc (z.i 1) (z.i 2) (z.i 3) (z.s 4) (z.g 5) (z.g 6)
 have v1:=EU z
 have v2:=Lg z
 dsimp only [tT,K3,vO] at v1 v2
 conv=>zeta
 repeat' with_reducible first|intro _|apply aV|apply aZ|apply aT|apply bf|apply ba
 all_goals first|omega|grind [am,ai,ah]
theorem z_:Ok Tryz.prog 164 mJ:=bS 1000 mN (eK K9 (eK (Ld 16) eN)) lN (hn:=(hC 5 17)) G6
theorem O5(z:Sy)(hA:zT.pre z):Fm.den ((.ct (lA 16 (z.i 2) (z.s 4) (z.g 5) (z.g 6)/\nP 16 (z.s 4) (z.g 6)<=10000000) (fun y0=>y0.i 11=dT (z.i 1) (z.i 2) (z.i 3) (z.s 4) (z.g 5) (z.g 6)/\(dT (z.i 1) (z.i 2) (z.i 3) (z.s 4) (z.g 5) (z.g 6)=(0:Int)->y0.s 10=da 16 (z.i 1) (z.i 2) (z.i 3) (z.s 4) (z.g 5) (z.g 6)/\(da 16 (z.i 1) (z.i 2) (z.i 3) (z.s 4) (z.g 5) (z.g 6)).length<=65536)/\(¬dT (z.i 1) (z.i 2) (z.i 3) (z.s 4) (z.g 5) (z.g 6)=(0:Int)->y0.s 10= [])) fun y0=>(.two (y0.i 11≠0) (.ax (y0.i 11=dT (z.i 1) (z.i 2) (z.i 3) (z.s 4) (z.g 5) (z.g 6)/\hZ=zS (z.i 1) (z.i 2) (z.i 3) (z.s 4) (z.g 5) (z.g 6))) (.ct ((y0.s 10).length<=999999) (fun y1=>hT y1 300=aJ (y0.s 10)) fun y1=>(.ax ((0:Int)=dT (z.i 1) (z.i 2) (z.i 3) (z.s 4) (z.g 5) (z.g 6)/\hT y1 300=zS (z.i 1) (z.i 2) (z.i 3) (z.s 4) (z.g 5) (z.g 6))))))):=by
 dsimp only [zT,va,Uc,vO,Q6,WG] at hA
 have b1:=@K7 (z.i 1) (z.i 2) (z.i 3) (z.s 4) (z.g 5) (z.g 6)
 have b2:=@ET (z.i 1) (z.i 2) (z.i 3) (z.s 4) (z.g 5) (z.g 6)
 repeat' with_reducible first|intro _|apply aV|apply aZ|apply aT|apply bf|apply ba
 all_goals first|omega|grind [am,ai,ah]
theorem SC:Ok Tryz.prog 95 zT:=bS 1000 mN (eK z_ (eK EE eN)) lN (hn:=(.both .nil .nil)) O5
noncomputable section
def c_(kd i sc:Int)(t:List Nat)(ns ks:List G):Prop:=kd=0/\i=0/\sc=0/\t= []/\ns.length=0/\ks.length=0
theorem br(kd i sc:Int)(t:List Nat)(ns ks:List G):c_ kd i sc t ns ks↔kd=0/\i=0/\sc=0/\t= []/\ns.length=0/\ks.length=0:=Iff.rfl
def dE(kd:Int)(tx:List Nat)(tb dc vr:Int)(bl hz gn:Prop)(ab ae:Int):Prop:=
 if kd=1 then(1<=tx.length/\tx.length<=4096)/\tb=0/\dc=0/\vr=0/\bl/\hz/\¬gn/\ab=0/\ae=0
 else if kd=2 then(1<=tb/\tb<=64)/\(1<=dc/\dc<=65536)/\(0<=vr/\vr<=2147483648)/\tx= []/\ab=0/\ae=0/\(gn->bl)
 else if kd=3 then(1<=tb/\tb<=64)/\(1<=dc/\dc<=65536)/\(1<=vr/\vr<=2147483648)/\tx= []/\bl/\hz/\¬gn/\ab=0/\ae=0
 else if kd=4 then(0<=ab/\ab<=2147483648)/\(0<=ae/\ae<=2147483648)/\tx= []/\tb=0/\dc=0/\vr=0/\bl/\hz/\¬gn
 else if kd=5 then(1<=tb/\tb<=64)/\(1<=tx.length/\tx.length<=40)/\dc=0/\vr=0/\bl/\hz/\¬gn/\ab=0/\ae=0
 else if kd=7 then(1<=tb/\tb<=64)/\(1<=tx.length/\tx.length<=40)/\dc=0/\vr=0/\bl/\hz/\¬gn/\ab=0/\ae=0
 else if kd=6 then(1<=tb/\tb<=64)/\tx= []/\dc=0/\vr=0/\bl/\hz/\¬gn/\ab=0/\ae=0
 else False
section
variable{kd:Int}{tx:List Nat}{tb dc vr:Int}{bl hz gn:Prop}{ab ae:Int}
theorem Aa(h:kd=1):dE kd tx tb dc vr bl hz gn ab ae↔(1<=tx.length/\tx.length<=4096)/\tb=0/\dc=0/\vr=0/\bl/\hz/\¬gn/\ab=0/\ae=0:=by subst h;rfl
theorem Ab(h:kd=2):dE kd tx tb dc vr bl hz gn ab ae↔(1<=tb/\tb<=64)/\(1<=dc/\dc<=65536)/\(0<=vr/\vr<=2147483648)/\tx= []/\ab=0/\ae=0/\(gn->bl):=by subst h;rfl
theorem EV(h:kd=3):dE kd tx tb dc vr bl hz gn ab ae↔(1<=tb/\tb<=64)/\(1<=dc/\dc<=65536)/\(1<=vr/\vr<=2147483648)/\tx= []/\bl/\hz/\¬gn/\ab=0/\ae=0:=by subst h;rfl
theorem EW(h:kd=4):dE kd tx tb dc vr bl hz gn ab ae↔(0<=ab/\ab<=2147483648)/\(0<=ae/\ae<=2147483648)/\tx= []/\tb=0/\dc=0/\vr=0/\bl/\hz/\¬gn:=by subst h;rfl
theorem EX(h:kd=5):dE kd tx tb dc vr bl hz gn ab ae↔(1<=tb/\tb<=64)/\(1<=tx.length/\tx.length<=40)/\dc=0/\vr=0/\bl/\hz/\¬gn/\ab=0/\ae=0:=by subst h;rfl
theorem EY(h:kd=7):dE kd tx tb dc vr bl hz gn ab ae↔(1<=tb/\tb<=64)/\(1<=tx.length/\tx.length<=40)/\dc=0/\vr=0/\bl/\hz/\¬gn/\ab=0/\ae=0:=by subst h;rfl
theorem EZ(h:kd=6):dE kd tx tb dc vr bl hz gn ab ae↔(1<=tb/\tb<=64)/\tx= []/\dc=0/\vr=0/\bl/\hz/\¬gn/\ab=0/\ae=0:=by subst h;rfl
theorem Lm(h:kd<1∨7<kd):¬dE kd tx tb dc vr bl hz gn ab ae:=by
 unfold dE
 rw[if_neg (by omega),if_neg (by omega),if_neg (by omega),if_neg (by omega),if_neg (by omega),if_neg (by omega),if_neg (by omega)]
 exact id
theorem Ln(h:dE kd tx tb dc vr bl hz gn ab ae):1<=kd/\kd<=7:=by
 by_cases e:kd<1∨7<kd
 ·exact absurd h (Lm e)
 ·omega
theorem jO(h:dE kd tx tb dc vr bl hz gn ab ae):(0<=tb/\tb<=64)/\(0<=dc/\dc<=65536)/\(0<=vr/\vr<=2147483648)/\tx.length<=4096/\(0<=ab/\ab<=2147483648)/\(0<=ae/\ae<=2147483648):=by
 obtain⟨h1,h2⟩:=Ln h
 have hd:kd=1∨kd=2∨kd=3∨kd=4∨kd=5∨kd=6∨kd=7:=by omega
 have t0:tx= []->tx.length=0:=fun e=>by rw[e];rfl
 rcases hd with e|e|e|e|e|e|e
 ·have:=(Aa e).1 h;refine⟨?_, ?_, ?_, ?_, ?_, ?_⟩ <;> omega
 ·have:=(Ab e).1 h;have:=t0 this.2.2.2.1;refine⟨?_, ?_, ?_, ?_, ?_, ?_⟩ <;> omega
 ·have:=(EV e).1 h;have:=t0 this.2.2.2.1;refine⟨?_, ?_, ?_, ?_, ?_, ?_⟩ <;> omega
 ·have:=(EW e).1 h;have:=t0 this.2.2.1;refine⟨?_, ?_, ?_, ?_, ?_, ?_⟩ <;> omega
 ·have:=(EX e).1 h;refine⟨?_, ?_, ?_, ?_, ?_, ?_⟩ <;> omega
 ·have:=(EZ e).1 h;have:=t0 this.2.1;refine⟨?_, ?_, ?_, ?_, ?_, ?_⟩ <;> omega
 ·have:=(EY e).1 h;refine⟨?_, ?_, ?_, ?_, ?_, ?_⟩ <;> omega
end
theorem Ac{a b:Nat}:Nat.lor a b=0↔a=0/\b=0:=by
 constructor
 ·intro h
  have h:a ||| b=0:=h
  exact Nat.or_eq_zero_iff.1 h
 ·rintro⟨rfl,rfl⟩;rfl
theorem rg{n:Int}(h: -9223372036854775808<=n/\n<9223372036854775808):aL (aj .i64) n=0↔n=0:=by
 cases n with
 |ofNat m=>
  show m%18446744073709551616=0↔_
  have:(m:Int)<9223372036854775808:=h.2
  constructor
  ·intro e;have:m=0:=by omega
   subst this;rfl
  ·intro e;have:m=0:=by simpa using e
   subst this;rfl
 |negSucc m=>
  show 18446744073709551615-m%18446744073709551616=0↔_
  have:=h.1
  constructor
  ·intro e;omega
  ·intro e;cases e
theorem Co(n:Int):aL (aj .i64) n<18446744073709551616:=by
 cases n with
 |ofNat m=>exact Nat.mod_lt _ (by decide)
 |negSucc m=>show 18446744073709551615-m%18446744073709551616<_;omega
theorem rh{u:Nat}(h:u<18446744073709551616):IntKind.i64.wrap (Int.ofNat u)=0↔u=0:=by
 have:=Su (Int.ofNat u)
 constructor
 ·intro e
  rw[e] at this
  have e2:(Int.ofNat u)%18446744073709551616=(u:Int):=by show(u:Int)%_=_;omega
  omega
 ·rintro rfl;rfl
theorem Lo(u:Nat)(h:u<18446744073709551616):aL (aj .i64) (IntKind.i64.wrap (Int.ofNat u))=u:=by
 have h1:=Su (Int.ofNat u)
 have h1:IntKind.i64.wrap (Int.ofNat u)%18446744073709551616=(u:Int):=by rw[h1];show(u:Int)%_=_;omega
 generalize IntKind.i64.wrap (Int.ofNat u)=n at h1
 cases n with
 |ofNat m=>show m%18446744073709551616=u;have h1:(m:Int)%18446744073709551616=u:=h1;omega
 |negSucc m=>show 18446744073709551615-m%18446744073709551616=u;have h1:(Int.negSucc m)%18446744073709551616=u:=h1;omega
theorem Xu{x y z:Int}(hx: -9223372036854775808<=x/\x<9223372036854775808)(hy: -9223372036854775808<=y/\y<9223372036854775808)(hz: -9223372036854775808<=z/\z<9223372036854775808):
  IntKind.i64.wrap (Int.ofNat ((aL (aj .i64) (IntKind.i64.wrap (Int.ofNat ((aL (aj .i64) x).lor (aL (aj .i64) y))))).lor (aL (aj .i64) z)))=0↔x=0/\y=0/\z=0:=by
 have l1:(aL (aj .i64) x).lor (aL (aj .i64) y)<18446744073709551616:=Nat.or_lt_two_pow (n:=64) (Co x) (Co y)
 have l2:((aL (aj .i64) x).lor (aL (aj .i64) y)).lor (aL (aj .i64) z)<18446744073709551616:=Nat.or_lt_two_pow (n:=64) l1 (Co z)
 rw[Lo _ l1,rh l2,Ac,Ac,rg hx,rg hy,rg hz,and_assoc]
def cJ(kd:Int)(tx:List Nat)(tb dc vr vk vi vs:Int)(vt:List Nat)(vn vx:List G)(h:G)(gn:Prop)(ab ae:Int):Int:=
 @ite Int (¬dE kd tx tb dc vr (c_ vk vi vs vt vn vx) (h=hZ) gn ab ae) (Classical.propDecidable _) 3
  (@ite Int (kd=2/\¬gn) (Classical.propDecidable _) (@ite Int (dT vk vi vs vt vn vx=0) (Classical.propDecidable _) (@ite Int (zS vk vi vs vt vn vx=h) (Classical.propDecidable _) 0 18) (dT vk vi vs vt vn vx)) 0)
section
variable{kd:Int}{tx:List Nat}{tb dc vr vk vi vs:Int}{vt:List Nat}{vn vx:List G}{h:G}{gn:Prop}{ab ae:Int}
theorem eT(h1:¬dE kd tx tb dc vr (c_ vk vi vs vt vn vx) (h=hZ) gn ab ae):cJ kd tx tb dc vr vk vi vs vt vn vx h gn ab ae=3:=if_pos h1
theorem eU(h1:dE kd tx tb dc vr (c_ vk vi vs vt vn vx) (h=hZ) gn ab ae)(h2:¬(kd=2/\¬gn)):cJ kd tx tb dc vr vk vi vs vt vn vx h gn ab ae=0:=by unfold cJ;rw[if_neg (Classical.not_not.2 h1),if_neg h2]
theorem gq(h1:dE kd tx tb dc vr (c_ vk vi vs vt vn vx) (h=hZ) gn ab ae)(h2:kd=2/\¬gn)(h3:¬dT vk vi vs vt vn vx=0):cJ kd tx tb dc vr vk vi vs vt vn vx h gn ab ae=dT vk vi vs vt vn vx:=by unfold cJ;rw[if_neg (Classical.not_not.2 h1),if_pos h2,if_neg h3]
theorem iO(h1:dE kd tx tb dc vr (c_ vk vi vs vt vn vx) (h=hZ) gn ab ae)(h2:kd=2/\¬gn)(h3:dT vk vi vs vt vn vx=0)(h4:¬zS vk vi vs vt vn vx=h):cJ kd tx tb dc vr vk vi vs vt vn vx h gn ab ae=18:=by unfold cJ;rw[if_neg (Classical.not_not.2 h1),if_pos h2,if_pos h3,if_neg h4]
theorem jP(h1:dE kd tx tb dc vr (c_ vk vi vs vt vn vx) (h=hZ) gn ab ae)(h2:kd=2/\¬gn)(h3:dT vk vi vs vt vn vx=0)(h4:zS vk vi vs vt vn vx=h):cJ kd tx tb dc vr vk vi vs vt vn vx h gn ab ae=0:=by unfold cJ;rw[if_neg (Classical.not_not.2 h1),if_pos h2,if_pos h3,if_pos h4]
theorem cg(h0:cJ kd tx tb dc vr vk vi vs vt vn vx h gn ab ae=0):dE kd tx tb dc vr (c_ vk vi vs vt vn vx) (h=hZ) gn ab ae/\(kd=2/\¬gn->dT vk vi vs vt vn vx=0):=by
 by_cases h1:dE kd tx tb dc vr (c_ vk vi vs vt vn vx) (h=hZ) gn ab ae
 ·refine⟨h1,fun h2=>?_⟩
  by_cases h3:dT vk vi vs vt vn vx=0
  ·exact h3
  ·rw[gq h1 h2 h3] at h0;exact absurd h0 h3
 ·rw[eT h1] at h0;cases h0
end
def lR(tx:List Nat)(tb dc vr vi:Int)(vt:List Nat)(vn vx:List G)(h:G)(ab ae:Int):Prop:=
 tx.length<=1000000/\(-9223372036854775808<=tb/\tb<9223372036854775808)/\(-9223372036854775808<=dc/\dc<9223372036854775808)/\(-9223372036854775808<=vr/\vr<9223372036854775808)/\
 (-9223372036854775808<=ab/\ab<9223372036854775808)/\(-9223372036854775808<=ae/\ae<9223372036854775808)/\lA 16 vi vt vn vx/\nP 16 vt vx<=10000000/\HOk h
theorem bU{tx:List Nat}{tb dc vr vi:Int}{vt:List Nat}{vn vx:List G}{h:G}{ab ae:Int}(h0:lR tx tb dc vr vi vt vn vx h ab ae):tx.length<=1000000/\(-9223372036854775808<=tb/\tb<9223372036854775808)/\(-9223372036854775808<=dc/\dc<9223372036854775808)/\(-9223372036854775808<=vr/\vr<9223372036854775808)/\
 (-9223372036854775808<=ab/\ab<9223372036854775808)/\(-9223372036854775808<=ae/\ae<9223372036854775808)/\lA 16 vi vt vn vx/\nP 16 vt vx<=10000000/\HOk h:=h0
def cS(kd:Int)(tx:List Nat)(tb dc vr:Int)(h:G)(ab ae:Int):List Nat:=
 (kd%256).toNat::(aI tb.toNat++(aI dc.toNat++(aI vr.toNat++(aI tx.length++(tx++(aI ab.toNat++(aI ae.toNat++(if kd=2 then hB h else []))))))))
theorem vV{kd:Int}{tx:List Nat}{tb dc vr:Int}{h:G}{ab ae:Int}(e:kd=2):cS kd tx tb dc vr h ab ae= [(kd%256).toNat]++(aI tb.toNat++(aI dc.toNat++(aI vr.toNat++(aI tx.length++(tx++(aI ab.toNat++(aI ae.toNat++hB h))))))):=by unfold cS;rw[if_pos e];rfl
theorem ri{kd:Int}{tx:List Nat}{tb dc vr:Int}{h:G}{ab ae:Int}(e:¬kd=2):cS kd tx tb dc vr h ab ae= [(kd%256).toNat]++(aI tb.toNat++(aI dc.toNat++(aI vr.toNat++(aI tx.length++(tx++(aI ab.toNat++aI ae.toNat)))))):=by unfold cS;rw[if_neg e,aa5];rfl
theorem bM{n:Int}(h:n<18446744073709551616):(aI n.toNat).length<=10:=bX h
theorem dV{n:Nat}(h:n<18446744073709551616):(aI n).length<=10:=vy 10 n (abb h (by decide)) (by decide)
theorem gt{kd:Int}{tx:List Nat}{tb dc vr:Int}{h:G}{ab ae:Int}(h1:tb<9223372036854775808)(h2:dc<9223372036854775808)(h3:vr<9223372036854775808)(h4:ab<9223372036854775808)(h5:ae<9223372036854775808)(h6:tx.length<=1000000)(h7:HOk h):(cS kd tx tb dc vr h ab ae).length<=93+tx.length:=by
 have a1:=bM (n:=tb) (by omega)
 have a2:=bM (n:=dc) (by omega)
 have a3:=bM (n:=vr) (by omega)
 have a4:=bM (n:=ab) (by omega)
 have a5:=bM (n:=ae) (by omega)
 have a6:=dV (n:=tx.length) (by omega)
 have a7:=eA h7
 unfold cS
 split <;> simp [a7] <;> omega
abbrev nV(e:G):Int:=cJ (gI (aa e 0)) (gS (aa e 1)) (gI (aa e 2)) (gI (aa e 3)) (gI (aa e 4)) (gI (aa e 5)) (gI (aa e 6)) (gI (aa e 7)) (gS (aa e 8)) (gL (aa e 9)) (gL (aa e 10)) (hX (aa e 11)) (gI (aa e 12)=1) (gI (aa e 13)) (gI (aa e 14))
abbrev Cq(e:G):Prop:=lR (gS (aa e 1)) (gI (aa e 2)) (gI (aa e 3)) (gI (aa e 4)) (gI (aa e 6)) (gS (aa e 8)) (gL (aa e 9)) (gL (aa e 10)) (hX (aa e 11)) (gI (aa e 13)) (gI (aa e 14))
abbrev vW(e:G):List Nat:=cS (gI (aa e 0)) (gS (aa e 1)) (gI (aa e 2)) (gI (aa e 3)) (gI (aa e 4)) (hX (aa e 11)) (gI (aa e 13)) (gI (aa e 14))
abbrev nW(e:G):List Nat:=da 16 (gI (aa e 5)) (gI (aa e 6)) (gI (aa e 7)) (gS (aa e 8)) (gL (aa e 9)) (gL (aa e 10))
def fo(es:List G):Prop:=∀e∈es,Cq e
theorem iP{es:List G}{i:Int}(h:fo es)(h0:0<=i)(hi:i<es.length):Cq (aq es i.toNat):=h _ (bZ h0 hi)
def ck(es:List G)(i:Int):Int:=sy ((es.drop i.toNat).map fun e=>nV e)
theorem mK{es:List G}{i:Int}(h0:0<=i)(h:i<es.length)(e:nV (aq es i.toNat)=0):ck es i=ck es (i+1):=by unfold ck;rw[dQ h0 h,aaB,sy,if_pos e]
theorem E0{es:List G}{i:Int}(h0:0<=i)(h:i<es.length)(e:¬nV (aq es i.toNat)=0):ck es i=nV (aq es i.toNat):=by unfold ck;rw[dQ h0 h,aaB,sy,if_neg e]
theorem vX{es:List G}{i:Int}(h:(es.length:Int)<=i):ck es i=0:=by unfold ck;rw[aaK (by omega)];rfl
theorem fq{es:List G}{i:Int}(h:ck es 0=0)(h0:0<=i)(hi:i<es.length):nV (aq es i.toNat)=0:=
 qU h _ (List.mem_map_of_mem (f:=fun e=>nV e) (by rw[show(0:Int).toNat=0 by rfl,aaL];exact bZ h0 hi))
def E1(d:Prop)(e:G):List Nat:=vW e++(@ite _ (gI (aa e 0)=2) (Classical.propDecidable _) (@ite _ (gI (aa e 12)=1∨¬d) (Classical.propDecidable _) [0] (1::(aI (nW e).length++nW e))) [])
theorem rj{d:Prop}{e:G}(h:¬gI (aa e 0)=2):E1 d e=vW e:=by unfold E1;rw[if_neg h,aa5]
theorem rk{d:Prop}{e:G}(h:gI (aa e 0)=2)(h1:gI (aa e 12)=1∨¬d):E1 d e=vW e++ [0]:=by unfold E1;rw[if_pos h,if_pos h1]
theorem mL{d:Prop}{e:G}(h:gI (aa e 0)=2)(h1:¬(gI (aa e 12)=1∨¬d)):E1 d e=vW e++([1]++(aI (nW e).length++nW e)):=by unfold E1;rw[if_pos h,if_neg h1];rfl
def gu(d:Prop)(es:List G)(i:Int):List Nat:=(es.drop i.toNat).flatMap (E1 d)
theorem mM{d:Prop}{es:List G}{i:Int}(h0:0<=i)(h:i<es.length):gu d es i=E1 d (aq es i.toNat)++gu d es (i+1):=by unfold gu;rw[dQ h0 h,acC]
theorem vY{d:Prop}{es:List G}{i:Int}(h:(es.length:Int)<=i):gu d es i= []:=by unfold gu;rw[aaK (by omega)];rfl
def iQ(ix tm tn:Int)(pv:G):List Nat:=aI ix.toNat++(aI tm.toNat++(aI tn.toNat++hB pv))
theorem iR{ix tm tn:Int}{pv:G}(h:HOk pv)(h1:ix<9223372036854775808)(h2:tm<9223372036854775808)(h3:tn<9223372036854775808):(iQ ix tm tn pv).length<=62:=by
 have a1:=bM (n:=ix) (by omega)
 have a2:=bM (n:=tm) (by omega)
 have a3:=bM (n:=tn) (by omega)
 have a4:=eA h
 unfold iQ
 simp [a4];omega
def r_(d:Prop)(ix tm tn:Int)(pv:G)(es:List G):List Nat:=iQ ix tm tn pv++(aI es.length++gu d es 0)
def Cr(ix tm tn:Int)(es:List G):Prop:=(0<=ix/\ix<=2147483648)/\(0<=tm/\tm<=9007199254740992)/\(0<=tn/\tn<=9007199254740992)/\1<=es.length/\es.length<=200
def cm(ix tm tn:Int)(pv:G)(es:List G):Int:=
 @ite Int (¬Cr ix tm tn es) (Classical.propDecidable _) 1 (if ck es 0=0 then(if 262144<(r_ True ix tm tn pv es).length then 5 else 0) else ck es 0)
section
variable{ix tm tn:Int}{pv:G}{es:List G}
theorem kq(h:¬Cr ix tm tn es):cm ix tm tn pv es=1:=if_pos h
theorem kr(h:Cr ix tm tn es)(h1:¬ck es 0=0):cm ix tm tn pv es=ck es 0:=by unfold cm;rw[if_neg (Classical.not_not.2 h),if_neg h1]
theorem ic(h:Cr ix tm tn es)(h1:ck es 0=0)(h2:262144<(r_ True ix tm tn pv es).length):cm ix tm tn pv es=5:=by unfold cm;rw[if_neg (Classical.not_not.2 h),if_pos h1,if_pos h2]
theorem nX(h:Cr ix tm tn es)(h1:ck es 0=0)(h2:¬262144<(r_ True ix tm tn pv es).length):cm ix tm tn pv es=0:=by unfold cm;rw[if_neg (Classical.not_not.2 h),if_pos h1,if_neg h2]
theorem ku(h0:cm ix tm tn pv es=0):Cr ix tm tn es/\ck es 0=0/\(r_ True ix tm tn pv es).length<=262144:=by
 by_cases h:Cr ix tm tn es
 ·by_cases h1:ck es 0=0
  ·by_cases h2:262144<(r_ True ix tm tn pv es).length
   ·rw[ic h h1 h2] at h0;cases h0
   ·exact⟨h,h1,by omega⟩
  ·rw[kr h h1] at h0;exact absurd h0 h1
 ·rw[kq h] at h0;cases h0
end
theorem E2{d:Prop}{e:G}(h:nV e=0)(hi:Cq e):(E1 d e).length<=70000:=by
 obtain⟨h1,h2⟩:=cg h
 have hn:=jO h1
 have hl:(vW e).length<=93+(gS (aa e 1)).length:=gt (kd:=gI (aa e 0)) (tx:=gS (aa e 1)) (tb:=gI (aa e 2)) (dc:=gI (aa e 3)) (vr:=gI (aa e 4)) (h:=hX (aa e 11)) (ab:=gI (aa e 13)) (ae:=gI (aa e 14)) (by omega) (by omega) (by omega) (by omega) (by omega) (by omega) hi.2.2.2.2.2.2.2.2
 by_cases hk:gI (aa e 0)=2
 ·by_cases hg:gI (aa e 12)=1∨¬d
  ·rw[rk hk hg,aai]
   have:([0]:List Nat).length=1:=rfl
   omega
  ·rw[mL hk hg]
   have he:(nW e).length<=65536:=(ES (h2 ⟨hk,fun hn=>hg (.inl hn)⟩)).2
   have:=dV (n:=(nW e).length) (by omega)
   rw[aai,aai,aai]
   have:([1]:List Nat).length=1:=rfl
   omega
 ·rw[rj hk];omega
theorem vZ{d:Prop}{es:List G}(h:ck es 0=0)(hi:fo es):∀(n:Nat) (i:Int),0<=i->i+n=es.length->(gu d es i).length<=70000 * n
 |0,i,h0,e=>by rw[vY (by omega)];exact aal _
 |n+1,i,h0,e=>by
  have:=vZ (d:=d) h hi n (i+1) (by omega) (by omega)
  have:=E2 (d:=d) (fq h h0 (by omega)) (iP hi h0 (by omega))
  rw[mM h0 (by omega),aai];omega
theorem Ad{d:Prop}{es:List G}(h:ck es 0=0)(hi:fo es)(hn:es.length<=200){i:Int}(h0:0<=i)(h1:i<=es.length):(gu d es i).length<=14000000:=by
 have:=vZ (d:=d) h hi ((es.length:Int)-i).toNat i h0 (by omega)
 omega
def en:List Sh:=[.i .i64 1,.s 2,.i .i64 3,.i .i64 4,.i .i64 5,.i .i64 6,.i .i64 7,.i .i64 8,.s 9,.v 1 10,.v 2 11]++hs 100++ [.b 12,.i .i64 13,.i .i64 14]
def Ae(p:Sy)(t:Nat):List Sh:=(List.range 32).map fun j=>.pi .u8 (p.i (t+j))
def Xc(p:Sy):List Sh:=[.pi .i64 (p.i 1),.ps (p.s 2),.pi .i64 (p.i 3),.pi .i64 (p.i 4),.pi .i64 (p.i 5),.pi .i64 (p.i 6),.pi .i64 (p.i 7),.pi .i64 (p.i 8),.ps (p.s 9),.pv 1 (p.g 10),.pv 2 (p.g 11)]++Ae p 100++ [.pb (p.p 12),.pi .i64 (p.i 13),.pi .i64 (p.i 14)]
def bk:List Sh:=[.i .i64 21,.i .i64 22,.i .i64 23]++hs 200++ [.v 7 24]
def tW(p:Sy):List Sh:=[.pi .i64 (p.i 21),.pi .i64 (p.i 22),.pi .i64 (p.i 23)]++Ae p 200++ [.pv 7 (p.g 24)]
abbrev lD(z:Sy):Prop:=c_ (z.i 6) (z.i 7) (z.i 8) (z.s 9) (z.g 10) (z.g 11)
abbrev Af(z:Sy):Prop:=dE (z.i 1) (z.s 2) (z.i 3) (z.i 4) (z.i 5) (lD z) (hT z 100=hZ) (z.p 12) (z.i 13) (z.i 14)
abbrev tX(z:Sy):Prop:=lR (z.s 2) (z.i 3) (z.i 4) (z.i 5) (z.i 7) (z.s 9) (z.g 10) (z.g 11) (hT z 100) (z.i 13) (z.i 14)
abbrev sa(z:Sy):Int:=cJ (z.i 1) (z.s 2) (z.i 3) (z.i 4) (z.i 5) (z.i 6) (z.i 7) (z.i 8) (z.s 9) (z.g 10) (z.g 11) (hT z 100) (z.p 12) (z.i 13) (z.i 14)
abbrev nY(z:Sy):List Nat:=cS (z.i 1) (z.s 2) (z.i 3) (z.i 4) (z.i 5) (hT z 100) (z.i 13) (z.i 14)
def rl:FSpec:={args:=[.ag en],blk:=[],pre:=fun z=>(-9223372036854775808<=z.i 3/\z.i 3<9223372036854775808)/\(-9223372036854775808<=z.i 4/\z.i 4<9223372036854775808)/\(-9223372036854775808<=z.i 5/\z.i 5<9223372036854775808),res:=fun _=>.one (.c (.b 50)),out:=fun _=>[],post:=fun z y=>y.p 50↔(z.s 2= []/\z.i 3=0/\z.i 4=0/\z.i 5=0/\lD z/\hT z 100=hZ/\¬z.p 12/\z.i 13=0/\z.i 14=0)}
def Cs:FSpec:={args:=[.ag en],blk:=[],pre:=tX,res:=fun _=>.one (.c (.b 50)),out:=fun _=>[],post:=fun z y=>y.p 50↔Af z}
def eV:FSpec:={args:=[.ag en],blk:=[],pre:=tX,res:=fun _=>.one (.c (.i .i64 50)),out:=fun _=>[],post:=fun z y=>y.i 50=sa z}
def v_:FSpec:={args:=[.c (.gb 0 20),.c (.i .i64 1)],blk:=[.growb 5 20],pre:=fun z=>z.i 1<9223372036854775808/\(z.s 20).length<=900000000,res:=fun _=>.one (.c (.gb 0 20)),out:=fun _=>[.growb 5 20],post:=fun z y=>y.s 20=z.s 20++aI (z.i 1).toNat}
def nZ:FSpec:={args:=[.c (.gb 0 20),.ag en],blk:=[.growb 5 20],pre:=fun z=>tX z/\(z.s 20).length<=100000000,res:=fun _=>.one (.c (.gb 0 20)),out:=fun _=>[.growb 5 20],post:=fun z y=>y.s 20=z.s 20++nY z}
def Ag:FSpec:={args:=[.ag bk],blk:=[],pre:=fun z=>HOk (hT z 200)/\z.i 21<9223372036854775808/\z.i 22<9223372036854775808/\z.i 23<9223372036854775808,res:=fun _=>.one (.c (.gb 0 20)),out:=fun _=>[.growb 5 20],post:=fun z y=>y.s 20=iQ (z.i 21) (z.i 22) (z.i 23) (hT z 200)}
abbrev lE(es:List G):Prop:=ck es 0=0/\fo es/\es.length<=200
def wd(p:Sy):LSpec:={tmps:=[(1,.c (.pb (p.p 25))),(5,.c (.gb 0 20)),(18,.c (.pv 7 (p.g 24))),(19,.c (.pi .i64 (p.g 24).length)),(20,.c (.i .i64 9))],blk:=[.growb 5 20],inv:=fun z=>lE (p.g 24)/\(0<=z.i 9/\z.i 9<=(p.g 24).length)/\(z.s 20).length+(gu (p.p 25) (p.g 24) (z.i 9)).length<=20000000,mu:=fun z=>((p.g 24).length-z.i 9).toNat,alts:=[⟨.exit 0,[(5,.c (.gb 0 20))],[.growb 5 20]⟩],post:=fun z y=>y.s 20=z.s 20++gu (p.p 25) (p.g 24) (z.i 9)}
def Ah:FSpec:={args:=[.ag bk,.c (.b 25)],blk:=[],pre:=fun z=>lE (z.g 24)/\HOk (hT z 200)/\z.i 21<9223372036854775808/\z.i 22<9223372036854775808/\z.i 23<9223372036854775808,res:=fun _=>.one (.c (.vb 10)),out:=fun _=>[],post:=fun z y=>y.s 10=r_ (z.p 25) (z.i 21) (z.i 22) (z.i 23) (hT z 200) (z.g 24)}
abbrev O6(z:Sy):Prop:=fo (z.g 24)/\HOk (hT z 200)/\(z.g 24).length<=1000000/\z.i 21<9223372036854775808/\z.i 22<9223372036854775808/\z.i 23<9223372036854775808
def n_(p:Sy):LSpec:={tmps:=[(1,.c (.p 0)),(30,.c (.pv 7 (p.g 24))),(31,.c (.pi .i64 (p.g 24).length)),(32,.c (.i .i64 9))],blk:=[.cells 41 (tW p)],inv:=fun z=>fo (p.g 24)/\(p.g 24).length<=200/\(0<=z.i 9/\z.i 9<=(p.g 24).length)/\ck (p.g 24) 0=ck (p.g 24) (z.i 9),mu:=fun z=>((p.g 24).length-z.i 9).toNat,alts:=[⟨.exit 0,[(1,.c (.p 0))],[.cells 41 (tW p)]⟩,⟨.ret,[(2,.c (.i .i64 50))],[.cells 41 (tW p)]⟩],post:=fun z y=>(y.i 999=0->ck (p.g 24) 0=0)/\(¬y.i 999=0->y.i 50=ck (p.g 24) 0/\¬y.i 50=0)}
def mO:FSpec:={args:=[.ag bk],blk:=[],pre:=O6,res:=fun _=>.one (.c (.i .i64 50)),out:=fun _=>[],post:=fun z y=>y.i 50=cm (z.i 21) (z.i 22) (z.i 23) (hT z 200) (z.g 24)}
def fV:FSpec:={args:=[.ag en],blk:=[],pre:=tX,res:=fun _=>.tu [.ag (hs 300),.c (.i .i64 50)],out:=fun _=>[],post:=fun z y=>y.i 50=sa z/\(sa z=0->hT y 300=aJ (nY z))/\(¬sa z=0->hT y 300=hZ)}
def rm:FSpec:={args:=[.ag bk],blk:=[],pre:=fun z=>HOk (hT z 200)/\z.i 21<9223372036854775808/\z.i 22<9223372036854775808/\z.i 23<9223372036854775808,res:=fun _=>.one (.ag (hs 300)),out:=fun _=>[],post:=fun z y=>hT y 300=bT (iQ (z.i 21) (z.i 22) (z.i 23) (hT z 200))}
abbrev H_(z:Sy):Int:=cm (z.i 21) (z.i 22) (z.i 23) (hT z 200) (z.g 24)
def Ai:FSpec:={args:=[.ag bk,.c (.b 25)],blk:=[],pre:=O6,res:=fun _=>.tu [.c (.vb 10),.c (.i .i64 50)],out:=fun _=>[],post:=fun z y=>y.i 50=H_ z/\(H_ z=0->y.s 10=r_ (z.p 25) (z.i 21) (z.i 22) (z.i 23) (hT z 200) (z.g 24))/\(¬H_ z=0->y.s 10= [])}
attribute [irreducible] dE cJ lR cS fo ck E1 gu iQ r_ Cr cm c_
end
theorem G7(z:Sy)(hA:v_.pre z):Fm.den ((.ct ((0:Int)<=Max.max 0 (z.i 1)%18446744073709551616/\Max.max (0:Int) (z.i 1)%18446744073709551616<18446744073709551616) (fun y0=>y0.s 10=aI (Max.max (0:Int) (z.i 1)%18446744073709551616).toNat) fun y0=>(.an ((z.s 20).length=(z.s 20).length/\(z.s 20).length<=1000000000/\(y0.s 10).length<=1000000) (.an ((z.s 20++y0.s 10).length=(z.s 20).length+(y0.s 10).length/\True) (.at (z.s 20++y0.s 10=z.s 20++aI (z.i 1).toNat)))))):=by
 dsimp only [v_] at hA
 have e1:(max 0 (z.i 1)%18446744073709551616).toNat=(z.i 1).toNat∨¬z.i 1<9223372036854775808:=by omega
 have e2:=@bM (max 0 (z.i 1)%18446744073709551616) (by omega)
 repeat' with_reducible first|intro _|apply aV|apply aZ|apply aT|apply bf|apply ba
 all_goals first|omega|grind [am,ai,ah,az,aA,aB,aC,aD,aE,aF,aG,aH,ao]
theorem mP:Ok Tryz.prog 224 v_:=bS 1000 mN (eK hI eN) lN (hn:=.nil) G7
theorem O7(z:Sy)(hA:Ag.pre z):Fm.den ((.cl ((0=0/\True)) (z.i 21<9223372036854775808/\0<=900000000) (fun y0=>y0.s 20= []++aI (z.i 21).toNat) fun y0=>(.cl (((y0.s 20).length=(y0.s 20).length/\True)) (z.i 22<9223372036854775808/\(y0.s 20).length<=900000000) (fun y1=>y1.s 20=y0.s 20++aI (z.i 22).toNat) fun y1=>(.cl (((y1.s 20).length=(y1.s 20).length/\True)) (z.i 23<9223372036854775808/\(y1.s 20).length<=900000000) (fun y2=>y2.s 20=y1.s 20++aI (z.i 23).toNat) fun y2=>(.an ((y2.s 20).length=(y2.s 20).length/\(y2.s 20).length<=1000000000/\bj (jb z 200)) (.an ((y2.s 20++aO (jb z 200)).length=(y2.s 20).length+32/\True) (.at (y2.s 20++aO (jb z 200)=iQ (z.i 21) (z.i 22) (z.i 23) (hT z 200))))))))):=by
 dsimp only [Ag,bk,hs] at hA
 have d1:=@iR (z.i 21) (z.i 22) (z.i 23) (hT z 200)
 have d2:=lz (iQ (z.i 21) (z.i 22) (z.i 23) (hT z 200))
 have d3:=@dV (z.g 24).length
 have t1:(((z.g 24).length:Nat):Int).toNat=(z.g 24).length:=Int.toNat_natCast _
 have u21:=@bM (z.i 21)
 have u22:=@bM (z.i 22)
 have u23:=@bM (z.i 23)
 have u7:=co z 200
 have u8:=@aP z 200
 have u9:=bq z 200
 repeat' with_reducible first|intro _|apply aV|apply aZ|apply aT|apply bf|apply ba
 all_goals first|omega|grind [am,ai,ah,az,aA,aB,aC,aD,aE,aF,aG,aH,ao,List.append_assoc,iQ]
theorem Lp:Ok Tryz.prog 223 Ag:=bS 1000 mN (eK mP eN) lN (hn:=.nil) O7
theorem Aj(z:Sy)(hA:nZ.pre z):Fm.den (let v0:=(z.s 20++ [(z.i 1%(256:Int)).toNat]);(.an ((z.s 20).length=(z.s 20).length/\(z.s 20).length<=1000000000/\(0:Int)<=z.i 1%256/\True) (.cl ((v0.length=(z.s 20).length+1/\True)) (z.i 3<9223372036854775808/\v0.length<=900000000) (fun y0=>y0.s 20=z.s 20++ [(z.i 1%(256:Int)).toNat]++aI (z.i 3).toNat) fun y0=>(.cl (((y0.s 20).length=(y0.s 20).length/\True)) (z.i 4<9223372036854775808/\(y0.s 20).length<=900000000) (fun y1=>y1.s 20=y0.s 20++aI (z.i 4).toNat) fun y1=>(.cl (((y1.s 20).length=(y1.s 20).length/\True)) (z.i 5<9223372036854775808/\(y1.s 20).length<=900000000) (fun y2=>y2.s 20=y1.s 20++aI (z.i 5).toNat) fun y2=>(.cl (((y2.s 20).length=(y2.s 20).length/\True)) ((↑(z.s 2).length:Int)<9223372036854775808/\(y2.s 20).length<=900000000) (fun y3=>y3.s 20=y2.s 20++aI (↑(z.s 2).length:Int).toNat) fun y3=>(.an ((y3.s 20).length=(y3.s 20).length/\(y3.s 20).length<=1000000000/\(z.s 2).length<=1000000) (.cl (((y3.s 20++z.s 2).length=(y3.s 20).length+(z.s 2).length/\True)) (z.i 13<9223372036854775808/\(y3.s 20++z.s 2).length<=900000000) (fun y4=>y4.s 20=y3.s 20++z.s 2++aI (z.i 13).toNat) fun y4=>(.cl (((y4.s 20).length=(y4.s 20).length/\True)) (z.i 14<9223372036854775808/\(y4.s 20).length<=900000000) (fun y5=>y5.s 20=y4.s 20++aI (z.i 14).toNat) fun y5=>(.two (z.i 1=2) (.an ((y5.s 20).length=(y5.s 20).length/\(y5.s 20).length<=1000000000/\bj (jb z 100)) (.an ((y5.s 20++aO (jb z 100)).length=(y5.s 20).length+32/\True) (.at (y5.s 20++aO (jb z 100)=z.s 20++cS (z.i 1) (z.s 2) (z.i 3) (z.i 4) (z.i 5) (hT z 100) (z.i 13) (z.i 14))))) (.an ((y5.s 20).length=(y5.s 20).length/\True) (.at (y5.s 20=z.s 20++cS (z.i 1) (z.s 2) (z.i 3) (z.i 4) (z.i 5) (hT z 100) (z.i 13) (z.i 14)))))))))))))):=by
 dsimp only [nZ,en,hs,tX,nY] at hA
 have b0:=br 0 0 0 [] [] []
 have b1:=br (z.i 6) (z.i 7) (z.i 8) (z.s 9) (z.g 10) (z.g 11)
 have i1:=@bU (z.s 2) (z.i 3) (z.i 4) (z.i 5) (z.i 7) (z.s 9) (z.g 10) (z.g 11) (hT z 100) (z.i 13) (z.i 14)
 have g1:=@vV (z.i 1) (z.s 2) (z.i 3) (z.i 4) (z.i 5) (hT z 100) (z.i 13) (z.i 14)
 have g2:=@ri (z.i 1) (z.s 2) (z.i 3) (z.i 4) (z.i 5) (hT z 100) (z.i 13) (z.i 14)
 have u3:=@bM (z.i 3)
 have u4:=@bM (z.i 4)
 have u5:=@bM (z.i 5)
 have u13:=@bM (z.i 13)
 have u14:=@bM (z.i 14)
 have u2:=@dV (z.s 2).length
 have u7:=co z 100
 have u8:=@aP z 100
 have u9:=bq z 100
 have t1:(((z.s 2).length:Nat):Int).toNat=(z.s 2).length:=Int.toNat_natCast _
 conv=>zeta
 repeat' with_reducible first|intro _|apply aV|apply aZ|apply aT|apply bf|apply ba
 all_goals first|omega|grind [am,ai,ah,az,aA,aB,aC,aD,aE,aF,aG,aH,ao,List.append_assoc,bq]
theorem rp:Ok Tryz.prog 197 nZ:=bS 1000 mN (eK mP eN) lN (hn:=(.both .nil .nil)) Aj
theorem Cu(z:Sy)(hA:rl.pre z):Fm.den (let v0:=(false=true↔z.s 2= []/\z.i 3=0/\z.i 4=0/\z.i 5=0/\c_ (z.i 6) (z.i 7) (z.i 8) (z.s 9) (z.g 10) (z.g 11)/\hT z 100=hZ/\¬z.p 12/\z.i 13=0/\z.i 14=0);let v1:=(aj Go.IntKind.i64);(.two (z.s 2= []) (.two (Go.IntKind.i64.wrap (Int.ofNat ((aL v1 (Go.IntKind.i64.wrap (Int.ofNat ((aL v1 (z.i 3)).lor (aL v1 (z.i 4)))))).lor (aL v1 (z.i 5))))=0) (.two (z.i 6=0) (.two (z.i 7=0) (.two (z.i 8=0) (.two (z.s 9= []) (.two ((↑(z.g 10).length:Int)=0) (.two ((↑(z.g 11).length:Int)=0) (.two (lQ (hT z 100) hZ) (.two (¬z.p 12) (.ax ([z.i 13,z.i 14]= [0,0]↔z.s 2= []/\z.i 3=0/\z.i 4=0/\z.i 5=0/\c_ (z.i 6) (z.i 7) (z.i 8) (z.s 9) (z.g 10) (z.g 11)/\hT z 100=hZ/\¬z.p 12/\z.i 13=0/\z.i 14=0)) (.ax v0)) (.ax v0)) (.ax v0)) (.ax v0)) (.ax v0)) (.ax v0)) (.ax v0)) (.ax v0)) (.ax v0)) (.ax v0))):=by
 dsimp only [rl,en,hs,lD] at hA
 have b0:=br 0 0 0 [] [] []
 have b1:=br (z.i 6) (z.i 7) (z.i 8) (z.s 9) (z.g 10) (z.g 11)
 have i1:=@bU (z.s 2) (z.i 3) (z.i 4) (z.i 5) (z.i 7) (z.s 9) (z.g 10) (z.g 11) (hT z 100) (z.i 13) (z.i 14)
 have o1:=@Xu (z.i 3) (z.i 4) (z.i 5)
 conv=>zeta
 repeat' with_reducible first|intro _|apply aV|apply aZ|apply aT|apply bf|apply ba
 all_goals first|omega|grind [am,ai,ah,az,aA,aB,aC,aD,aE,aF,aG,aH,ao]
theorem G8:Ok Tryz.prog 267 rl:=bS 1000 mN eN lN (hn:=(hC 21 349525)) Cu
theorem Lq(z:Sy)(hA:Cs.pre z):Fm.den (let vx:=(0:Int)=0;let v1:=(-9223372036854775808:Int);let v2:=(c_ (z.i 6) (z.i 7) (z.i 8) (z.s 9) (z.g 10) (z.g 11));let v3:=((v1<=z.i 3/\z.i 3<9223372036854775808)/\(v1<=z.i 4/\z.i 4<9223372036854775808)/\v1<=z.i 5/\z.i 5<9223372036854775808);let v4:=((v1<=0/\(0:Int)<9223372036854775808)/\(v1<=z.i 4/\z.i 4<9223372036854775808)/\v1<=z.i 5/\z.i 5<9223372036854775808);let v5:=(↑(z.s 2).length:Int);let v6:=((v1<=0/\(0:Int)<9223372036854775808)/\(v1<=0/\(0:Int)<9223372036854775808)/\v1<=0/\(0:Int)<9223372036854775808);let v7:=(hT z 100=hZ);let v0:=(false=true↔dE (z.i 1) (z.s 2) (z.i 3) (z.i 4) (z.i 5) v2 v7 (z.p 12) (z.i 13) (z.i 14));let v8:=((↑(z.g 11).length:Int)=0↔dE (z.i 1) (z.s 2) (z.i 3) (z.i 4) (z.i 5) v2 v7 (z.p 12) (z.i 13) (z.i 14));let v9:=(true=true↔dE (z.i 1) (z.s 2) (z.i 3) (z.i 4) (z.i 5) v2 v7 (z.p 12) (z.i 13) (z.i 14));let v10:=(z.i 3<=64);let v11:=(z.i 1=3);let f8:=((↑(z.g 10).length:Int)=0);(.two ((1:Int)<=z.i 3) (.two (z.i 1=1) (.two (1<=v5) (.two (v5<=4096) (.ct v3 (fun y0=>(y0.p 50↔oV/\z.i 3=0/\z.i 4=0/\z.i 5=0/\c_ (z.i 6) (z.i 7) (z.i 8) (z.s 9) (z.g 10) (z.g 11)/\hT z 100=hZ/\¬z.p 12/\z.i 13=0/\z.i 14=0)) fun y0=>(.ax (y0.p 50↔dE (z.i 1) (z.s 2) (z.i 3) (z.i 4) (z.i 5) v2 v7 (z.p 12) (z.i 13) (z.i 14)))) (.ax v0)) (.ax v0)) (.two (z.i 1=2) (.an (z.i 1=2) (.an (¬v11) (.two v10 (.two ((1:Int)<=z.i 4) (.two (z.i 4<=65536) (.two ((0:Int)<=z.i 5) (.two (z.i 5<=2147483648) (.ct v6 (fun y1=>(y1.p 50↔z.s 2= []/\vx/\vx/\vx/\c_ (0:Int) 0 0 [] [] []/\hZ=hZ/\¬false=true/\z.i 13=0/\z.i 14=0)) fun y1=>(.two (y1.p 50) (.two (¬z.p 12) (.ax v9) (.two (z.i 6=0) (.two (z.i 7=0) (.two (z.i 8=0) (.two (z.s 9= []) (.two f8 (.ax v8) (.ax v0)) (.ax v0)) (.ax v0)) (.ax v0)) (.ax v0))) (.ax v0))) (.ax v0)) (.ax v0)) (.ax v0)) (.ax v0)) (.ax v0)))) (.two v11 (.an v11 (.two v10 (.two ((1:Int)<=z.i 4) (.two (z.i 4<=65536) (.two ((1:Int)<=z.i 5) (.two (z.i 5<=2147483648) (.ct v6 (fun y2=>(y2.p 50↔z.s 2= []/\vx/\vx/\vx/\c_ (z.i 6) (z.i 7) (z.i 8) (z.s 9) (z.g 10) (z.g 11)/\hT z 100=hZ/\¬z.p 12/\z.i 13=0/\z.i 14=0)) fun y2=>(.two (y2.p 50) (.two (¬z.p 12) (.ax v9) (.two (z.i 6=0) (.two (z.i 7=0) (.two (z.i 8=0) (.two (z.s 9= []) (.two f8 (.ax v8) (.ax v0)) (.ax v0)) (.ax v0)) (.ax v0)) (.ax v0))) (.ax v0))) (.ax v0)) (.ax v0)) (.ax v0)) (.ax v0)) (.ax v0))) (.two (z.i 1=4) (.two ((0:Int)<=z.i 13) (.two (z.i 13<=2147483648) (.two ((0:Int)<=z.i 14) (.two (z.i 14<=2147483648) (.ct v3 (fun y3=>(y3.p 50↔z.s 2= []/\z.i 3=0/\z.i 4=0/\z.i 5=0/\c_ (z.i 6) (z.i 7) (z.i 8) (z.s 9) (z.g 10) (z.g 11)/\hT z 100=hZ/\¬z.p 12/\vx/\vx)) fun y3=>(.ax (y3.p 50↔dE (z.i 1) (z.s 2) (z.i 3) (z.i 4) (z.i 5) v2 v7 (z.p 12) (z.i 13) (z.i 14)))) (.ax v0)) (.ax v0)) (.ax v0)) (.ax v0)) (.two (z.i 1=5) (.an (z.i 1=5) (.two v10 (.two (1<=v5) (.two (v5<=40) (.ct v4 (fun y4=>(y4.p 50↔oV/\vx/\z.i 4=0/\z.i 5=0/\c_ (z.i 6) (z.i 7) (z.i 8) (z.s 9) (z.g 10) (z.g 11)/\hT z 100=hZ/\¬z.p 12/\z.i 13=0/\z.i 14=0)) fun y4=>(.ax (y4.p 50↔dE (z.i 1) (z.s 2) (z.i 3) (z.i 4) (z.i 5) v2 v7 (z.p 12) (z.i 13) (z.i 14)))) (.ax v0)) (.ax v0)) (.ax v0))) (.two (z.i 1=7) (.two v10 (.two (1<=v5) (.two (v5<=40) (.ct v4 (fun y5=>(y5.p 50↔oV/\vx/\z.i 4=0/\z.i 5=0/\c_ (z.i 6) (z.i 7) (z.i 8) (z.s 9) (z.g 10) (z.g 11)/\hT z 100=hZ/\¬z.p 12/\z.i 13=0/\z.i 14=0)) fun y5=>(.ax (y5.p 50↔dE (z.i 1) (z.s 2) (z.i 3) (z.i 4) (z.i 5) v2 v7 (z.p 12) (z.i 13) (z.i 14)))) (.ax v0)) (.ax v0)) (.ax v0)) (.two (z.i 1=6) (.two v10 (.ct v4 (fun y6=>(y6.p 50↔z.s 2= []/\vx/\z.i 4=0/\z.i 5=0/\c_ (z.i 6) (z.i 7) (z.i 8) (z.s 9) (z.g 10) (z.g 11)/\hT z 100=hZ/\¬z.p 12/\z.i 13=0/\z.i 14=0)) fun y6=>(.ax (y6.p 50↔dE (z.i 1) (z.s 2) (z.i 3) (z.i 4) (z.i 5) v2 v7 (z.p 12) (z.i 13) (z.i 14)))) (.ax v0)) (.ax v0)))))))) (.two (z.i 1=1) (.two (1<=v5) (.two (v5<=4096) (.ct v3 (fun y7=>(y7.p 50↔oV/\z.i 3=0/\z.i 4=0/\z.i 5=0/\c_ (z.i 6) (z.i 7) (z.i 8) (z.s 9) (z.g 10) (z.g 11)/\hT z 100=hZ/\¬z.p 12/\z.i 13=0/\z.i 14=0)) fun y7=>(.ax (y7.p 50↔dE (z.i 1) (z.s 2) (z.i 3) (z.i 4) (z.i 5) v2 v7 (z.p 12) (z.i 13) (z.i 14)))) (.ax v0)) (.ax v0)) (.two (z.i 1=2) (.an (z.i 1=2) (.an (¬v11) (.ax v0))) (.two v11 (.an v11 (.ax v0)) (.two (z.i 1=4) (.two ((0:Int)<=z.i 13) (.two (z.i 13<=2147483648) (.two ((0:Int)<=z.i 14) (.two (z.i 14<=2147483648) (.ct v3 (fun y8=>(y8.p 50↔z.s 2= []/\z.i 3=0/\z.i 4=0/\z.i 5=0/\c_ (z.i 6) (z.i 7) (z.i 8) (z.s 9) (z.g 10) (z.g 11)/\hT z 100=hZ/\¬z.p 12/\vx/\vx)) fun y8=>(.ax (y8.p 50↔dE (z.i 1) (z.s 2) (z.i 3) (z.i 4) (z.i 5) v2 v7 (z.p 12) (z.i 13) (z.i 14)))) (.ax v0)) (.ax v0)) (.ax v0)) (.ax v0)) (.two (z.i 1=5) (.an (z.i 1=5) (.ax v0)) (.two (z.i 1=7) (.ax v0) (.two (z.i 1=6) (.ax v0) (.ax v0)))))))))):=by
 dsimp only [Cs,en,hs,tX,Af,lD] at hA
 have b0:=br 0 0 0 [] [] []
 have b1:=br (z.i 6) (z.i 7) (z.i 8) (z.s 9) (z.g 10) (z.g 11)
 have i1:=@bU (z.s 2) (z.i 3) (z.i 4) (z.i 5) (z.i 7) (z.s 9) (z.g 10) (z.g 11) (hT z 100) (z.i 13) (z.i 14)
 have k0:=@Lm (z.i 1) (z.s 2) (z.i 3) (z.i 4) (z.i 5) (lD z) (hT z 100=hZ) (z.p 12) (z.i 13) (z.i 14)
 have k1:=@Aa (z.i 1) (z.s 2) (z.i 3) (z.i 4) (z.i 5) (lD z) (hT z 100=hZ) (z.p 12) (z.i 13) (z.i 14)
 have k2:=@Ab (z.i 1) (z.s 2) (z.i 3) (z.i 4) (z.i 5) (lD z) (hT z 100=hZ) (z.p 12) (z.i 13) (z.i 14)
 have k3:=@EV (z.i 1) (z.s 2) (z.i 3) (z.i 4) (z.i 5) (lD z) (hT z 100=hZ) (z.p 12) (z.i 13) (z.i 14)
 have k4:=@EW (z.i 1) (z.s 2) (z.i 3) (z.i 4) (z.i 5) (lD z) (hT z 100=hZ) (z.p 12) (z.i 13) (z.i 14)
 have k5:=@EX (z.i 1) (z.s 2) (z.i 3) (z.i 4) (z.i 5) (lD z) (hT z 100=hZ) (z.p 12) (z.i 13) (z.i 14)
 have k6:=@EZ (z.i 1) (z.s 2) (z.i 3) (z.i 4) (z.i 5) (lD z) (hT z 100=hZ) (z.p 12) (z.i 13) (z.i 14)
 have k7:=@EY (z.i 1) (z.s 2) (z.i 3) (z.i 4) (z.i 5) (lD z) (hT z 100=hZ) (z.p 12) (z.i 13) (z.i 14)
 conv=>zeta
 repeat' with_reducible first|intro _|apply aV|apply aZ|apply aT|apply bf|apply ba
 all_goals first|omega|grind [am,ai,ah,az,aA,aB,aC,aD,aE,aF,aG,aH,ao]
theorem O8:Ok Tryz.prog 222 Cs:=bS 1000 mN (eK G8 eN) lN (hn:=(hC 125 30284871951383847606871494801089340678452057665660186281603786162571198549)) Lq
theorem sz(z:Sy)(hA:eV.pre z):Fm.den (let v1:=(hT z 100);let v0:=((0:Int)=cJ (z.i 1) (z.s 2) (z.i 3) (z.i 4) (z.i 5) (z.i 6) (z.i 7) (z.i 8) (z.s 9) (z.g 10) (z.g 11) v1 (z.p 12) (z.i 13) (z.i 14));(.ct (lR (z.s 2) (z.i 3) (z.i 4) (z.i 5) (z.i 7) (z.s 9) (z.g 10) (z.g 11) v1 (z.i 13) (z.i 14)) (fun y0=>(y0.p 50↔dE (z.i 1) (z.s 2) (z.i 3) (z.i 4) (z.i 5) (c_ (z.i 6) (z.i 7) (z.i 8) (z.s 9) (z.g 10) (z.g 11)) (hT z 100=hZ) (z.p 12) (z.i 13) (z.i 14))) fun y0=>(.two (¬y0.p 50) (.ax ((3:Int)=cJ (z.i 1) (z.s 2) (z.i 3) (z.i 4) (z.i 5) (z.i 6) (z.i 7) (z.i 8) (z.s 9) (z.g 10) (z.g 11) v1 (z.p 12) (z.i 13) (z.i 14))) (.two (z.i 1≠2) (.ax v0) (.two (z.p 12) (.ax v0) (.ct (lA 16 (z.i 7) (z.s 9) (z.g 10) (z.g 11)/\nP 16 (z.s 9) (z.g 11)<=10000000) (fun y1=>y1.i 11=dT (z.i 6) (z.i 7) (z.i 8) (z.s 9) (z.g 10) (z.g 11)/\hT y1 300=zS (z.i 6) (z.i 7) (z.i 8) (z.s 9) (z.g 10) (z.g 11)) fun y1=>(let v2:=(y1.i 11=cJ (z.i 1) (z.s 2) (z.i 3) (z.i 4) (z.i 5) (z.i 6) (z.i 7) (z.i 8) (z.s 9) (z.g 10) (z.g 11) v1 (z.p 12) (z.i 13) (z.i 14));(.two (y1.i 11=0) (.two (¬lQ (hT y1 300) v1) (.ax ((18:Int)=cJ (z.i 1) (z.s 2) (z.i 3) (z.i 4) (z.i 5) (z.i 6) (z.i 7) (z.i 8) (z.s 9) (z.g 10) (z.g 11) v1 (z.p 12) (z.i 13) (z.i 14))) (.ax v2)) (.ax v2))))))))):=by
 dsimp only [eV,en,hs,tX,sa] at hA
 have b0:=br 0 0 0 [] [] []
 have b1:=br (z.i 6) (z.i 7) (z.i 8) (z.s 9) (z.g 10) (z.g 11)
 have i1:=@bU (z.s 2) (z.i 3) (z.i 4) (z.i 5) (z.i 7) (z.s 9) (z.g 10) (z.g 11) (hT z 100) (z.i 13) (z.i 14)
 have f1:=@eT (z.i 1) (z.s 2) (z.i 3) (z.i 4) (z.i 5) (z.i 6) (z.i 7) (z.i 8) (z.s 9) (z.g 10) (z.g 11) (hT z 100) (z.p 12) (z.i 13) (z.i 14)
 have f2:=@eU (z.i 1) (z.s 2) (z.i 3) (z.i 4) (z.i 5) (z.i 6) (z.i 7) (z.i 8) (z.s 9) (z.g 10) (z.g 11) (hT z 100) (z.p 12) (z.i 13) (z.i 14)
 have f3:=@gq (z.i 1) (z.s 2) (z.i 3) (z.i 4) (z.i 5) (z.i 6) (z.i 7) (z.i 8) (z.s 9) (z.g 10) (z.g 11) (hT z 100) (z.p 12) (z.i 13) (z.i 14)
 have f4:=@iO (z.i 1) (z.s 2) (z.i 3) (z.i 4) (z.i 5) (z.i 6) (z.i 7) (z.i 8) (z.s 9) (z.g 10) (z.g 11) (hT z 100) (z.p 12) (z.i 13) (z.i 14)
 have f5:=@jP (z.i 1) (z.s 2) (z.i 3) (z.i 4) (z.i 5) (z.i 6) (z.i 7) (z.i 8) (z.s 9) (z.g 10) (z.g 11) (hT z 100) (z.p 12) (z.i 13) (z.i 14)
 have f6:=@cg (z.i 1) (z.s 2) (z.i 3) (z.i 4) (z.i 5) (z.i 6) (z.i 7) (z.i 8) (z.s 9) (z.g 10) (z.g 11) (hT z 100) (z.p 12) (z.i 13) (z.i 14)
 conv=>zeta
 repeat' with_reducible first|intro _|apply aV|apply aZ|apply aT|apply bf|apply ba
 all_goals first|omega|grind [am,ai,ah,az,aA,aB,aC,aD,aE,aF,aG,aH,ao]
theorem mQ:Ok Tryz.prog 183 eV:=bS 1000 mN (eK O8 (eK SC eN)) lN (hn:=(hC 11 20753)) sz
theorem G9(p z:Sy)(hA:(wd p).inv z):Fm.den (let v0:=(aq (p.g 24) (z.i 9).toNat);let v1:=(↑(p.g 24).length:Int);let v2:=((-9223372036854775808:Int)<=z.i 9+1/\z.i 9+1<=9223372036854775807);let v3:=(ck (p.g 24) (0:Int)=0/\fo (p.g 24)/\(p.g 24).length<=200);let v4:=((0:Int)<=z.i 9+1/\z.i 9+1<= ↑(p.g 24).length);let v5:=(gL (aa v0 10));let v6:=(gS (aa v0 8));let v7:=(gI (aa v0 6));let v8:=(gL (aa v0 9));let v9:=(z.i 9+1);let v10:=(p.p 25↔p.p 25);let v11:=(z.i 9+(1:Int));let f8:=(gI (aa v0 5));let g9:=(gI (aa v0 7));let l7:=((z.s 20).length=(z.s 20).length/\True);let o6:=(v1-z.i 9);(.two (z.i 9 < ↑(p.g 24).length) (.an ((0:Int)<=z.i 9/\z.i 9 < ↑(p.g 24).length) (.cl (l7) (lR (gS (aa v0 1)) (gI (aa v0 2)) (gI (aa v0 3)) (gI (aa v0 4)) v7 v6 v8 v5 (hX (aa v0 11)) (gI (aa v0 13)) (gI (aa v0 14))/\(z.s 20).length<=100000000) (fun y0=>y0.s 20=z.s 20++cS (gI (aa v0 0)) (gS (aa v0 1)) (gI (aa v0 2)) (gI (aa v0 3)) (gI (aa v0 4)) (hX (aa v0 11)) (gI (aa v0 13)) (gI (aa v0 14))) fun y0=>(let r9:=((y0.s 20++ [Int.toNat (0:Int)]).length=(y0.s 20).length+1/\v1=v1/\p.g 24=p.g 24/\v10/\True);let o9:=(v3/\v4/\(y0.s 20++ [Int.toNat (0:Int)]).length+(gu (p.p 25) (p.g 24) v9).length<=20000000);let z':=((y0.s 20).length=(y0.s 20).length/\(y0.s 20).length<=1000000000/\(0:Int)<=0/\True);let L':=(y0.s 20++ [Int.toNat (1:Int)]);(.two (gI (aa v0 0)≠2) (.an v2 (.an ((y0.s 20).length=(y0.s 20).length/\v1=v1/\p.g 24=p.g 24/\v10/\True) (.at ((v3/\v4/\(y0.s 20).length+(gu (p.p 25) (p.g 24) v11).length<=20000000)/\(v1-v9).toNat<o6.toNat/\∀(y:Sy),y.s 20=y0.s 20++gu (p.p 25) (p.g 24) v11->y.s 20=z.s 20++gu (p.p 25) (p.g 24) (z.i 9))))) (.two (gI (aa v0 12)=1) (.an z' (.an v2 (.an r9 (.at (o9/\(v1-v9).toNat<o6.toNat/\∀(y:Sy),y.s 20=y0.s 20++ [Int.toNat (0:Int)]++gu (p.p 25) (p.g 24) v9->y.s 20=z.s 20++gu (p.p 25) (p.g 24) (z.i 9)))))) (.two (¬p.p 25) (.an z' (.an v2 (.an r9 (.at (o9/\(v1-v9).toNat<o6.toNat/\∀(y:Sy),y.s 20=y0.s 20++ [Int.toNat (0:Int)]++gu (p.p 25) (p.g 24) v9->y.s 20=z.s 20++gu (p.p 25) (p.g 24) (z.i 9)))))) (.ct (lA 16 v7 v6 v8 v5/\nP 16 v6 v5<=10000000) (fun y1=>y1.i 11=dT f8 v7 g9 v6 v8 v5/\(dT f8 v7 g9 v6 v8 v5=(0:Int)->y1.s 10=da 16 f8 v7 g9 v6 v8 v5/\(da 16 f8 v7 g9 v6 v8 v5).length<=65536)/\(¬dT f8 v7 g9 v6 v8 v5=(0:Int)->y1.s 10= [])) fun y1=>(.an ((y0.s 20).length=(y0.s 20).length/\(y0.s 20).length<=1000000000/\(0:Int)<=1/\True) (.cl ((L'.length=(y0.s 20).length+1/\True)) ((↑(y1.s 10).length:Int)<9223372036854775808/\L'.length<=900000000) (fun y2=>y2.s 20=y0.s 20++ [Int.toNat 1]++aI (↑(y1.s 10).length:Int).toNat) fun y2=>(.an ((y2.s 20).length=(y2.s 20).length/\(y2.s 20).length<=1000000000/\(y1.s 10).length<=1000000) (.an v2 (.an ((y2.s 20++y1.s 10).length=(y2.s 20).length+(y1.s 10).length/\v1=v1/\p.g 24=p.g 24/\v10/\True) (.at ((v3/\v4/\(y2.s 20++y1.s 10).length+(gu (p.p 25) (p.g 24) v11).length<=20000000)/\(v1-v9).toNat<o6.toNat/\∀(y:Sy),y.s 20=y2.s 20++y1.s 10++gu (p.p 25) (p.g 24) v11->y.s 20=z.s 20++gu (p.p 25) (p.g 24) (z.i 9))))))))))))))) (.an l7 (.at (z.s 20=z.s 20++gu (p.p 25) (p.g 24) (z.i 9)))))):=by
 dsimp only [wd,lE] at hA
 have a1:=@mM (p.p 25) (p.g 24) (z.i 9)
 have a2:=@vY (p.p 25) (p.g 24) (z.i 9)
 have a3:=@rj (p.p 25) (aq (p.g 24) (z.i 9).toNat)
 have a4:=@rk (p.p 25) (aq (p.g 24) (z.i 9).toNat)
 have a5:=@mL (p.p 25) (aq (p.g 24) (z.i 9).toNat)
 have a6:=@iP (p.g 24) (z.i 9)
 have a7:=@fq (p.g 24) (z.i 9)
 dsimp only [vW,nW,Cq,nV] at a3 a4 a5 a6 a7
 have b1:=(fun e=>@bU (gS (aa e 1)) (gI (aa e 2)) (gI (aa e 3)) (gI (aa e 4)) (gI (aa e 6)) (gS (aa e 8)) (gL (aa e 9)) (gL (aa e 10)) (hX (aa e 11)) (gI (aa e 13)) (gI (aa e 14))) (aq (p.g 24) (z.i 9).toNat)
 have b2:=(fun e=>fun h=>(@cg (gI (aa e 0)) (gS (aa e 1)) (gI (aa e 2)) (gI (aa e 3)) (gI (aa e 4)) (gI (aa e 5)) (gI (aa e 6)) (gI (aa e 7)) (gS (aa e 8)) (gL (aa e 9)) (gL (aa e 10)) (hX (aa e 11)) (gI (aa e 12)=1) (gI (aa e 13)) (gI (aa e 14)) h).2) (aq (p.g 24) (z.i 9).toNat)
 conv=>zeta
 repeat' with_reducible first|intro _|apply aV|apply aZ|apply aT|apply bf|apply ba
 all_goals first|omega|grind [am,ai,ah,az,aA,aB,aC,aD,aE,aF,aG,aH,ao,List.append_assoc,dV]
theorem Lr:dU Tryz.prog 184 0 wd:=bH 1000 mN (eK rp (eK mP (eK z_ eN))) lN (hn:=(hC 13 2246949)) G9
theorem O9(z:Sy)(hA:Ah.pre z):Fm.den (let v0:=(↑(z.g 24).length:Int);(.ct (HOk (hT z 200)/\z.i 21<9223372036854775808/\z.i 22<9223372036854775808/\z.i 23<9223372036854775808) (fun y0=>y0.s 20=iQ (z.i 21) (z.i 22) (z.i 23) (hT z 200)) fun y0=>(.cl (((y0.s 20).length=(y0.s 20).length/\True)) (v0<9223372036854775808/\(y0.s 20).length<=900000000) (fun y1=>y1.s 20=y0.s 20++aI v0.toNat) fun y1=>(.cl (((y1.s 20).length=(y1.s 20).length/\v0=v0/\z.g 24=z.g 24/\(z.p 25↔z.p 25)/\True)) ((ck (z.g 24) (0:Int)=0/\fo (z.g 24)/\(z.g 24).length<=200)/\((0:Int)<=0/\0<=v0)/\(y1.s 20).length+(gu (z.p 25) (z.g 24) (0:Int)).length<=20000000) (fun y2=>y2.s 20=y1.s 20++gu (z.p 25) (z.g 24) (0:Int)) fun y2=>(.an ((y2.s 20).length=(y2.s 20).length/\True) (.at (y2.s 20=r_ (z.p 25) (z.i 21) (z.i 22) (z.i 23) (hT z 200) (z.g 24)))))))):=by
 dsimp only [Ah,bk,hs,lE] at hA
 have d1:=@iR (z.i 21) (z.i 22) (z.i 23) (hT z 200)
 have d2:=lz (iQ (z.i 21) (z.i 22) (z.i 23) (hT z 200))
 have d3:=@dV (z.g 24).length
 have t1:(((z.g 24).length:Nat):Int).toNat=(z.g 24).length:=Int.toNat_natCast _
 have u21:=@bM (z.i 21)
 have u22:=@bM (z.i 22)
 have u23:=@bM (z.i 23)
 have u7:=co z 200
 have u8:=@aP z 200
 have u9:=bq z 200
 have a1:=fun h hi hn h0 h1=>@Ad (z.p 25) (z.g 24) h hi hn 0 h0 h1
 conv=>zeta
 repeat' with_reducible first|intro _|apply aV|apply aZ|apply aT|apply bf|apply ba
 all_goals first|omega|grind [am,ai,ah,az,aA,aB,aC,aD,aE,aF,aG,aH,ao,List.append_assoc,r_,iQ]
theorem SD:Ok Tryz.prog 184 Ah:=bS 1000 mN (eK Lp (eK mP eN)) (eL (ptm:=[(0,.ag bk),(1,.c (.b 25))]) Lr lN) (hn:=.nil) O9
theorem Ak(p z:Sy)(hA:(n_ p).inv z):Fm.den (let v0:=(aX (((((((((((((((((((((((((((((((((((((PS.mk [(999,Tm.i (Int.ofNat (nat_lit 0)))] ((0,(bL 0).fst,0)::iZ.loc) iZ.ln iZ.pr iZ.fz).and (p.i 21=p.i 21)).and (p.i 22=p.i 22)).and (p.i 23=p.i 23)).and (p.i (200+nat_lit 0)=p.i (200+nat_lit 0))).and (p.i (200+nat_lit 1)=p.i (200+nat_lit 1))).and (p.i (200+nat_lit 2)=p.i (200+nat_lit 2))).and (p.i (200+nat_lit 3)=p.i (200+nat_lit 3))).and (p.i (200+nat_lit 4)=p.i (200+nat_lit 4))).and (p.i (200+nat_lit 5)=p.i (200+nat_lit 5))).and (p.i (200+nat_lit 6)=p.i (200+nat_lit 6))).and (p.i (200+nat_lit 7)=p.i (200+nat_lit 7))).and (p.i (200+nat_lit 8)=p.i (200+nat_lit 8))).and (p.i (200+nat_lit 9)=p.i (200+nat_lit 9))).and (p.i (200+nat_lit 10)=p.i (200+nat_lit 10))).and (p.i (200+nat_lit 11)=p.i (200+nat_lit 11))).and (p.i (200+nat_lit 12)=p.i (200+nat_lit 12))).and (p.i (200+nat_lit 13)=p.i (200+nat_lit 13))).and (p.i (200+nat_lit 14)=p.i (200+nat_lit 14))).and (p.i (200+nat_lit 15)=p.i (200+nat_lit 15))).and (p.i (200+nat_lit 16)=p.i (200+nat_lit 16))).and (p.i (200+nat_lit 17)=p.i (200+nat_lit 17))).and (p.i (200+nat_lit 18)=p.i (200+nat_lit 18))).and (p.i (200+nat_lit 19)=p.i (200+nat_lit 19))).and (p.i (200+nat_lit 20)=p.i (200+nat_lit 20))).and (p.i (200+nat_lit 21)=p.i (200+nat_lit 21))).and (p.i (200+nat_lit 22)=p.i (200+nat_lit 22))).and (p.i (200+nat_lit 23)=p.i (200+nat_lit 23))).and (p.i (200+nat_lit 24)=p.i (200+nat_lit 24))).and (p.i (200+nat_lit 25)=p.i (200+nat_lit 25))).and (p.i (200+nat_lit 26)=p.i (200+nat_lit 26))).and (p.i (200+nat_lit 27)=p.i (200+nat_lit 27))).and (p.i (200+nat_lit 28)=p.i (200+nat_lit 28))).and (p.i (200+nat_lit 29)=p.i (200+nat_lit 29))).and (p.i (200+nat_lit 30)=p.i (200+nat_lit 30))).and (p.i (200+nat_lit 31)=p.i (200+nat_lit 31))).and (p.g 24=p.g 24)).tm);let v1:=(aq (p.g 24) (z.i 9).toNat);let v2:=(p.g 24=p.g 24/\dt (jL p 200) (jL p 200) (p.i 23=p.i 23/\p.i 22=p.i 22/\p.i 21=p.i 21/\True));let v3:=(↑(p.g 24).length:Int);(.two (z.i 9 < ↑(p.g 24).length) (.an ((0:Int)<=z.i 9/\z.i 9 < ↑(p.g 24).length) (.ct (lR (gS (aa v1 1)) (gI (aa v1 2)) (gI (aa v1 3)) (gI (aa v1 4)) (gI (aa v1 6)) (gS (aa v1 8)) (gL (aa v1 9)) (gL (aa v1 10)) (hX (aa v1 11)) (gI (aa v1 13)) (gI (aa v1 14))) (fun y0=>y0.i 50=cJ (gI (aa v1 0)) (gS (aa v1 1)) (gI (aa v1 2)) (gI (aa v1 3)) (gI (aa v1 4)) (gI (aa v1 5)) (gI (aa v1 6)) (gI (aa v1 7)) (gS (aa v1 8)) (gL (aa v1 9)) (gL (aa v1 10)) (hX (aa v1 11)) (gI (aa v1 12)=1) (gI (aa v1 13)) (gI (aa v1 14))) fun y0=>(.two (y0.i 50≠0) (.an v2 (.at (((1:Int)=0->ck (p.g 24) (0:Int)=0)/\(¬(1:Int)=0->y0.i 50=ck (p.g 24) 0/\¬y0.i 50=0)))) (.an ((-9223372036854775808:Int)<=z.i 9+1/\z.i 9+1<=9223372036854775807) (.an (p.g 24=p.g 24/\dt (jL p 200) (jL p 200) (p.i 23=p.i 23/\p.i 22=p.i 22/\p.i 21=p.i 21/\v3=v3/\p.g 24=p.g 24/\True)) (.at ((fo (p.g 24)/\(p.g 24).length<=200/\((0:Int)<=z.i 9+1/\z.i 9+1<= ↑(p.g 24).length)/\ck (p.g 24) (0:Int)=ck (p.g 24) (z.i 9+1))/\(v3-(z.i 9+1)).toNat<(v3-z.i 9).toNat/\∀(y:Sy),(y.i 999=(0:Int)->ck (p.g 24) (0:Int)=0)/\(¬y.i 999=0->y.i 50=ck (p.g 24) 0/\¬y.i 50=0)->(y.i 999=0->ck (p.g 24) (0:Int)=0)/\(¬y.i 999=0->y.i 50=ck (p.g 24) 0/\¬y.i 50=0)))))))) (.an v2 (.at (((0:Int)=0->ck (p.g 24) (0:Int)=0)/\(¬(0:Int)=0->v0.i 50=ck (p.g 24) (0:Int)/\¬v0.i 50=(0:Int))))))):=by
 dsimp only [n_,tW,Ae] at hA
 have a1:=@mK (p.g 24) (z.i 9)
 have a2:=@E0 (p.g 24) (z.i 9)
 have a3:=@vX (p.g 24) (z.i 9)
 have a6:=@iP (p.g 24) (z.i 9)
 dsimp only [Cq,nV] at a1 a2 a6
 conv=>zeta
 repeat' with_reducible first|intro _|apply aV|apply aZ|apply aT|apply bf|apply ba
 all_goals first|omega|grind [am,ai,ah,az,aA,aB,aC,aD,aE,aF,aG,aH,ao,List.append_assoc]
theorem Cv:dU Tryz.prog 121 0 n_:=bH 1000 mN (eK mQ eN) lN (hn:=(hC 6 133)) Ak
theorem G_(z:Sy)(hA:mO.pre z):Fm.den (let v1:=(↑(z.g 24).length:Int);let v2:=(hT z 200);let v0:=((1:Int)=cm (z.i 21) (z.i 22) (z.i 23) v2 (z.g 24));(.two ((0:Int)<=z.i 21) (.two (¬z.i 21<=2147483648) (.ax v0) (.two ((0:Int)<=z.i 22) (.two (¬z.i 22<=9007199254740992) (.ax v0) (.two ((0:Int)<=z.i 23) (.two (¬z.i 23<=9007199254740992) (.ax v0) (.two (1<=v1) (.two (¬v1<=200) (.ax v0) (.cl ((z.g 24=z.g 24/\dt (jL z 200) (jL z 200) (z.i 23=z.i 23/\z.i 22=z.i 22/\z.i 21=z.i 21/\v1=v1/\z.g 24=z.g 24/\True))) (fo (z.g 24)/\(z.g 24).length<=200/\((0:Int)<=0/\0<=v1)/\ck (z.g 24) (0:Int)=ck (z.g 24) 0) (fun y0=>(y0.i 999=0->ck (z.g 24) (0:Int)=0)/\(¬y0.i 999=0->y0.i 50=ck (z.g 24) 0/\¬y0.i 50=0)) fun y0=>(.two (y0.i 999=0) (.ct ((ck (z.g 24) (0:Int)=0/\fo (z.g 24)/\(z.g 24).length<=200)/\HOk v2/\z.i 21<9223372036854775808/\z.i 22<9223372036854775808/\z.i 23<9223372036854775808) (fun y1=>y1.s 10=r_ (true=true) (z.i 21) (z.i 22) (z.i 23) v2 (z.g 24)) fun y1=>(.two (262144<(↑(y1.s 10).length:Int)) (.ax ((5:Int)=cm (z.i 21) (z.i 22) (z.i 23) v2 (z.g 24))) (.ax ((0:Int)=cm (z.i 21) (z.i 22) (z.i 23) v2 (z.g 24))))) (.ax (y0.i 50=cm (z.i 21) (z.i 22) (z.i 23) v2 (z.g 24)))))) (.ax v0))) (.ax v0))) (.ax v0))) (.ax v0))):=by
 dsimp only [mO,bk,hs,O6] at hA
 have f1:=@kq (z.i 21) (z.i 22) (z.i 23) (hT z 200) (z.g 24)
 have f2:=@kr (z.i 21) (z.i 22) (z.i 23) (hT z 200) (z.g 24)
 have f3:=@ic (z.i 21) (z.i 22) (z.i 23) (hT z 200) (z.g 24)
 have f4:=@nX (z.i 21) (z.i 22) (z.i 23) (hT z 200) (z.g 24)
 have f5:=@ku (z.i 21) (z.i 22) (z.i 23) (hT z 200) (z.g 24)
 conv=>zeta
 repeat' with_reducible first|intro _|apply aV|apply aZ|apply aT|apply bf|apply ba
 all_goals first|omega|grind [am,ai,ah,az,aA,aB,aC,aD,aE,aF,aG,aH,ao,List.append_assoc,Cr]
theorem Al:Ok Tryz.prog 121 mO:=bS 1000 mN (eK SD eN) (eL (ptm:=[(0,.ag bk)]) Cv lN) (hn:=(hC 21 85217605)) G_
theorem aca(z:Sy)(hA:Ai.pre z):Fm.den (let v0:=(hT z 200);(.ct (fo (z.g 24)/\HOk v0/\(z.g 24).length<=1000000/\z.i 21<9223372036854775808/\z.i 22<9223372036854775808/\z.i 23<9223372036854775808) (fun y0=>y0.i 50=cm (z.i 21) (z.i 22) (z.i 23) v0 (z.g 24)) fun y0=>(.two (y0.i 50≠0) (.ax (y0.i 50=cm (z.i 21) (z.i 22) (z.i 23) v0 (z.g 24)/\(cm (z.i 21) (z.i 22) (z.i 23) v0 (z.g 24)=(0:Int)-> []=r_ (z.p 25) (z.i 21) (z.i 22) (z.i 23) v0 (z.g 24))/\(¬cm (z.i 21) (z.i 22) (z.i 23) v0 (z.g 24)=(0:Int)->oV))) (.ct ((ck (z.g 24) (0:Int)=0/\fo (z.g 24)/\(z.g 24).length<=200)/\HOk v0/\z.i 21<9223372036854775808/\z.i 22<9223372036854775808/\z.i 23<9223372036854775808) (fun y1=>y1.s 10=r_ (z.p 25) (z.i 21) (z.i 22) (z.i 23) v0 (z.g 24)) fun y1=>(.ax ((0:Int)=cm (z.i 21) (z.i 22) (z.i 23) v0 (z.g 24)/\(cm (z.i 21) (z.i 22) (z.i 23) v0 (z.g 24)=(0:Int)->y1.s 10=r_ (z.p 25) (z.i 21) (z.i 22) (z.i 23) v0 (z.g 24))/\(¬cm (z.i 21) (z.i 22) (z.i 23) v0 (z.g 24)=(0:Int)->y1.s 10= []))))))):=by
 dsimp only [Ai,bk,hs,O6,H_] at hA
 have f1:=@kq (z.i 21) (z.i 22) (z.i 23) (hT z 200) (z.g 24)
 have f2:=@kr (z.i 21) (z.i 22) (z.i 23) (hT z 200) (z.g 24)
 have f3:=@ic (z.i 21) (z.i 22) (z.i 23) (hT z 200) (z.g 24)
 have f4:=@nX (z.i 21) (z.i 22) (z.i 23) (hT z 200) (z.g 24)
 have f5:=@ku (z.i 21) (z.i 22) (z.i 23) (hT z 200) (z.g 24)
 conv=>zeta
 repeat' with_reducible first|intro _|apply aV|apply aZ|apply aT|apply bf|apply ba
 all_goals first|omega|grind [am,ai,ah,az,aA,aB,aC,aD,aE,aF,aG,aH,ao,Cr]
theorem acj:Ok Tryz.prog 130 Ai:=bS 1000 mN (eK Al (eK SD eN)) lN (hn:=(.both .nil .nil)) aca
theorem we(z:Sy)(hA:fV.pre z):Fm.den (let v0:=(hT z 100);let v1:=(cS (z.i 1) (z.s 2) (z.i 3) (z.i 4) (z.i 5) v0 (z.i 13) (z.i 14));(.ct (lR (z.s 2) (z.i 3) (z.i 4) (z.i 5) (z.i 7) (z.s 9) (z.g 10) (z.g 11) v0 (z.i 13) (z.i 14)) (fun y0=>y0.i 50=cJ (z.i 1) (z.s 2) (z.i 3) (z.i 4) (z.i 5) (z.i 6) (z.i 7) (z.i 8) (z.s 9) (z.g 10) (z.g 11) v0 (z.p 12) (z.i 13) (z.i 14)) fun y0=>(.two (y0.i 50≠0) (.ax (y0.i 50=cJ (z.i 1) (z.s 2) (z.i 3) (z.i 4) (z.i 5) (z.i 6) (z.i 7) (z.i 8) (z.s 9) (z.g 10) (z.g 11) v0 (z.p 12) (z.i 13) (z.i 14)/\(cJ (z.i 1) (z.s 2) (z.i 3) (z.i 4) (z.i 5) (z.i 6) (z.i 7) (z.i 8) (z.s 9) (z.g 10) (z.g 11) v0 (z.p 12) (z.i 13) (z.i 14)=(0:Int)->hZ=aJ v1)/\(¬cJ (z.i 1) (z.s 2) (z.i 3) (z.i 4) (z.i 5) (z.i 6) (z.i 7) (z.i 8) (z.s 9) (z.g 10) (z.g 11) v0 (z.p 12) (z.i 13) (z.i 14)=(0:Int)->hZ=hZ))) (.cl ((0=0/\True)) (lR (z.s 2) (z.i 3) (z.i 4) (z.i 5) (z.i 7) (z.s 9) (z.g 10) (z.g 11) v0 (z.i 13) (z.i 14)/\0<=100000000) (fun y1=>y1.s 20= []++cS (z.i 1) (z.s 2) (z.i 3) (z.i 4) (z.i 5) v0 (z.i 13) (z.i 14)) fun y1=>(.an ((y1.s 20).length=(y1.s 20).length) (.ct ((y1.s 20).length<=999999) (fun y2=>hT y2 300=aJ (y1.s 20)) fun y2=>(.ax ((0:Int)=cJ (z.i 1) (z.s 2) (z.i 3) (z.i 4) (z.i 5) (z.i 6) (z.i 7) (z.i 8) (z.s 9) (z.g 10) (z.g 11) v0 (z.p 12) (z.i 13) (z.i 14)/\(cJ (z.i 1) (z.s 2) (z.i 3) (z.i 4) (z.i 5) (z.i 6) (z.i 7) (z.i 8) (z.s 9) (z.g 10) (z.g 11) v0 (z.p 12) (z.i 13) (z.i 14)=(0:Int)->hT y2 300=aJ v1)/\(¬cJ (z.i 1) (z.s 2) (z.i 3) (z.i 4) (z.i 5) (z.i 6) (z.i 7) (z.i 8) (z.s 9) (z.g 10) (z.g 11) v0 (z.p 12) (z.i 13) (z.i 14)=(0:Int)->hT y2 300=hZ))))))))):=by
 dsimp only [fV,en,hs,tX,sa,nY] at hA
 have b0:=br 0 0 0 [] [] []
 have b1:=br (z.i 6) (z.i 7) (z.i 8) (z.s 9) (z.g 10) (z.g 11)
 have i1:=@bU (z.s 2) (z.i 3) (z.i 4) (z.i 5) (z.i 7) (z.s 9) (z.g 10) (z.g 11) (hT z 100) (z.i 13) (z.i 14)
 have f1:=@eT (z.i 1) (z.s 2) (z.i 3) (z.i 4) (z.i 5) (z.i 6) (z.i 7) (z.i 8) (z.s 9) (z.g 10) (z.g 11) (hT z 100) (z.p 12) (z.i 13) (z.i 14)
 have f2:=@eU (z.i 1) (z.s 2) (z.i 3) (z.i 4) (z.i 5) (z.i 6) (z.i 7) (z.i 8) (z.s 9) (z.g 10) (z.g 11) (hT z 100) (z.p 12) (z.i 13) (z.i 14)
 have f3:=@gq (z.i 1) (z.s 2) (z.i 3) (z.i 4) (z.i 5) (z.i 6) (z.i 7) (z.i 8) (z.s 9) (z.g 10) (z.g 11) (hT z 100) (z.p 12) (z.i 13) (z.i 14)
 have f4:=@iO (z.i 1) (z.s 2) (z.i 3) (z.i 4) (z.i 5) (z.i 6) (z.i 7) (z.i 8) (z.s 9) (z.g 10) (z.g 11) (hT z 100) (z.p 12) (z.i 13) (z.i 14)
 have f5:=@jP (z.i 1) (z.s 2) (z.i 3) (z.i 4) (z.i 5) (z.i 6) (z.i 7) (z.i 8) (z.s 9) (z.g 10) (z.g 11) (hT z 100) (z.p 12) (z.i 13) (z.i 14)
 have f6:=@cg (z.i 1) (z.s 2) (z.i 3) (z.i 4) (z.i 5) (z.i 6) (z.i 7) (z.i 8) (z.s 9) (z.g 10) (z.g 11) (hT z 100) (z.p 12) (z.i 13) (z.i 14)
 have l1:=@gt (z.i 1) (z.s 2) (z.i 3) (z.i 4) (z.i 5) (hT z 100) (z.i 13) (z.i 14)
 have n1:=@jO (z.i 1) (z.s 2) (z.i 3) (z.i 4) (z.i 5) (lD z) (hT z 100=hZ) (z.p 12) (z.i 13) (z.i 14)
 conv=>zeta
 repeat' with_reducible first|intro _|apply aV|apply aZ|apply aT|apply bf|apply ba
 all_goals first|omega|grind [am,ai,ah,az,aA,aB,aC,aD,aE,aF,aG,aH,ao,List.append_assoc]
theorem oP:Ok Tryz.prog 138 fV:=bS 1000 mN (eK mQ (eK rp (eK EE eN))) lN (hn:=(.both .nil .nil)) we
theorem Ls(z:Sy)(hA:rm.pre z):Fm.den ((.ct (HOk (hT z 200)/\z.i 21<9223372036854775808/\z.i 22<9223372036854775808/\z.i 23<9223372036854775808) (fun y0=>y0.s 20=iQ (z.i 21) (z.i 22) (z.i 23) (hT z 200)) fun y0=>(.an ((y0.s 20).length=(y0.s 20).length) (.ct ((y0.s 20).length<=1000000000) (fun y1=>True) fun y1=>(.ax (hG (fS (y0.s 20))=bT (iQ (z.i 21) (z.i 22) (z.i 23) (hT z 200)))))))):=by
 dsimp only [rm,bk,hs] at hA
 have d1:=@iR (z.i 21) (z.i 22) (z.i 23) (hT z 200)
 have d2:=lz (iQ (z.i 21) (z.i 22) (z.i 23) (hT z 200))
 have d3:=@dV (z.g 24).length
 have t1:(((z.g 24).length:Nat):Int).toNat=(z.g 24).length:=Int.toNat_natCast _
 have u21:=@bM (z.i 21)
 have u22:=@bM (z.i 22)
 have u23:=@bM (z.i 23)
 have u7:=co z 200
 have u8:=@aP z 200
 have u9:=bq z 200
 repeat' with_reducible first|intro _|apply aV|apply aZ|apply aT|apply bf|apply ba
 all_goals first|omega|grind [am,ai,ah,az,aA,aB,aC,aD,aE,aF,aG,aH,ao,List.append_assoc]
theorem O_:Ok Tryz.prog 194 rm:=bS 1000 mN (eK Lp (eK tJ eN)) lN (hn:=.nil) Ls
noncomputable section
def Xd:List Sh:=[.i .i64 41,.s 42,.i .i64 43,.i .i64 44,.i .i64 45,.o,.o,.o,.o,.o,.o]++hs 400++ [.b 52,.i .i64 53,.i .i64 54]
def Xe:List Sh:=[.i .i64 6,.i .i64 7,.i .i64 8,.s 9,.v 1 10,.v 2 11]
def Cw:FSpec:={args:=[.ag Xe],blk:=[],pre:=fun _=>True,res:=fun _=>.one (.c (.b 50)),out:=fun _=>[],post:=fun z y=>y.p 50↔lD z}
def Cx:FSpec:={args:=[.ag en,.ag Xd],blk:=[],pre:=fun _=>True,res:=fun _=>.one (.c (.b 50)),out:=fun _=>[],post:=fun z y=>y.p 50↔(z.i 1=z.i 41/\z.s 2=z.s 42/\z.i 3=z.i 43/\z.i 4=z.i 44/\z.i 5=z.i 45/\hT z 100=hT z 400/\(z.p 12↔z.p 52)/\z.i 13=z.i 53/\z.i 14=z.i 54/\lD z)}
def Lt:FSpec:={args:=[.ag en],blk:=[],pre:=fun _=>True,res:=fun _=>.one (.c (.b 50)),out:=fun _=>[],post:=fun z y=>y.p 50↔Af z}
abbrev SE:=eV
abbrev Xf(z:Sy):Prop:=0<=z.i 3/\0<=z.i 4/\0<=z.i 5/\0<=z.i 13/\0<=z.i 14
def Cy:FSpec:={args:=[.ag en],blk:=[],pre:=fun z=>tX z/\Xf z,res:=fun _=>.one (.c (.vb 10)),out:=fun _=>[],post:=fun z y=>y.s 10=nY z}
abbrev Cz:=Ag
def oa(p:Sy):LSpec:={tmps:=[(1,.c (.pb (p.p 25))),(2,.c (.p 0)),(5,.c (.gb 1 20)),(6,.c (.i .i64 9))],blk:=[.cells 41 (tW p),.growb 5 20],inv:=fun z=>lE (p.g 24)/\(0<=z.i 9/\z.i 9<=(p.g 24).length)/\(z.s 20).length+(gu (p.p 25) (p.g 24) (z.i 9)).length<=20000000,mu:=fun z=>((p.g 24).length-z.i 9).toNat,alts:=[⟨.exit 0,[(5,.c (.gb 1 20))],[.cells 41 (tW p),.growb 5 20]⟩],post:=fun z y=>y.s 20=z.s 20++gu (p.p 25) (p.g 24) (z.i 9)}
abbrev wg:=Ah
def lF(p:Sy):LSpec:={tmps:=[(1,.c (.p 0)),(3,.c (.i .i64 9))],blk:=[.cells 41 (tW p)],inv:=fun z=>fo (p.g 24)/\(p.g 24).length<=200/\(0<=z.i 9/\z.i 9<=(p.g 24).length)/\ck (p.g 24) 0=ck (p.g 24) (z.i 9),mu:=fun z=>((p.g 24).length-z.i 9).toNat,alts:=[⟨.exit 0,[(1,.c (.p 0))],[.cells 41 (tW p)]⟩,⟨.ret,[(2,.c (.i .i64 50))],[.cells 41 (tW p)]⟩],post:=fun z y=>(y.i 999=0->ck (p.g 24) 0=0)/\(¬y.i 999=0->y.i 50=ck (p.g 24) 0/\¬y.i 50=0)}
abbrev rq:=mO
abbrev jQ:=fV
abbrev wh:=rm
abbrev ob:=Ai
def Xg(e:G):G:=.node [aJ (vW e)]
def gc(es:List G)(i:Int):List G:=(es.drop i.toNat).map Xg
theorem Lu{es:List G}{i:Int}(h0:0<=i)(h:i<es.length):gc es i= .node [aJ (vW (aq es i.toNat))]::gc es (i+1):=by unfold gc;rw[dQ h0 h,aaB];rfl
theorem Pa{es:List G}{i:Int}(h:(es.length:Int)<=i):gc es i= []:=by unfold gc;rw[aaK (by omega)];rfl
theorem gw(es:List G):(gc es 0).length=es.length:=by unfold gc;simp
def oc(p:Sy):LSpec:={tmps:=[(1,.c (.p 0)),(3,.c (.g 1 32 30)),(4,.c (.i .i64 9))],blk:=[.cells 41 (tW p),.grow 6 38 30],inv:=fun z=>lE (p.g 24)/\(0<=z.i 9/\z.i 9<=(p.g 24).length)/\(z.g 30).length=z.i 9,mu:=fun z=>((p.g 24).length-z.i 9).toNat,alts:=[⟨.exit 0,[(3,.c (.g 1 32 30))],[.cells 41 (tW p),.grow 6 38 30]⟩],post:=fun z y=>y.g 30=z.g 30++gc (p.g 24) (z.i 9)}
def wi:FSpec:={args:=[.ag bk],blk:=[],pre:=fun z=>lE (z.g 24),res:=fun _=>.one (.c (.v 6 30)),out:=fun _=>[],post:=fun z y=>y.g 30=gc (z.g 24) 0}
theorem rr{e:G}(h:nV e=0):(0<=gI (aa e 2)/\gI (aa e 2)<=64)/\(0<=gI (aa e 3)/\gI (aa e 3)<=65536)/\(0<=gI (aa e 4)/\gI (aa e 4)<=2147483648)/\(gS (aa e 1)).length<=4096/\(0<=gI (aa e 13)/\gI (aa e 13)<=2147483648)/\(0<=gI (aa e 14)/\gI (aa e 14)<=2147483648):=jO (cg h).1
attribute [irreducible] gc
end
end Go.Proofs.YtojibgjadakamaaGreatDoor
