/- Part 5. -/
import Derived.Test.YtomfobckhogpnaaGreatDoorProg
import Derived.KernelRfl
import Derived.Test.YtomfobckhogpnaaGreatDoorP4
set_option linter.all false
namespace Go.Proofs.YtomfobckhogpnaaGreatDoor
open Go.Sym
set_option maxRecDepth 100000
def pq(n:Int):IntKind.u64.wrap n=n%18446744073709551616:=by simp [IntKind.wrap,IntKind.bits,IntKind.signed]
def nP(n:Int):IntKind.u8.wrap n=n%256:=by simp [IntKind.wrap,IntKind.bits,IntKind.signed]
def aH(n:Nat):List Nat:=if n<128 then [n] else(n%128+128)::aH (n/128)
termination_by n
decreasing_by omega
def FF{v:Int}(h:v<128):aH v.toNat= [v.toNat]:=by rw[aH,if_pos (by omega)]
def UM{v:Int}(h:128<=v):aH v.toNat=(v.toNat%128+128)::aH (v/128).toNat:=by rw[aH,if_neg (by omega)];congr 2;omega
def xL:∀(k n:Nat),n<128 ^ k->0<k->(aH n).length<=k:=by
 intro k
 induction k with
 |zero=>intro n _ h;omega
 |succ k ih=>
  intro n h _;rw[aH];split
  ·simp
  ·rename_i hn;have h2:n/128<128 ^ k:=by rw[aaY] at h;exact Nat.div_lt_of_lt_mul (by omega)
   have hk:0<k:=by
    rcases aaU k with e|e
    ·subst e;simp at h;omega
    ·exact e
   have:=ih _ h2 hk;simp;omega
def cS{v:Int}(h:v<18446744073709551616):(aH v.toNat).length<=10:=by
 refine xL 10 _ ?_ (by decide);have:v.toNat<18446744073709551616:=by omega
 exact aa4 this (by decide)
def Z3{v:Int}(h0:0<=v)(h:v<256):(Nat.lor (aE 256 v) (aE 256 128):Nat)=v.toNat%128+128:=by
 obtain⟨n,rfl⟩:∃n:Nat,v=n:=⟨v.toNat,by omega⟩
 have hn:n<256:=by omega
 show(n%256) ||| (128%256)=_;have:∀m:Fin 256,(m.1%256) ||| (128%256)=(m.1:Int).toNat%128+128:=by decide
 exact this ⟨n,hn⟩
def WX{v:Int}(h0:0<=v)(h:v<18446744073709551616):(Nat.land (aE 18446744073709551616 v) (aE 18446744073709551616 127):Nat)=v.toNat%128:=by
 obtain⟨n,rfl⟩:∃n:Nat,v=n:=⟨v.toNat,by omega⟩
 show(n%18446744073709551616) &&& (127%18446744073709551616)=_;rw[aa_ (by omega:n<18446744073709551616)];show n &&& (2 ^ 7-1)=_;rw[abT];rfl
def Mv{v:Int}(h0:0<=v)(h:v<256):IntKind.u8.wrap (Int.ofNat ((aE (am .u8) v).lor (aE (am .u8) 128)))=v%128+128:=by show IntKind.u8.wrap (Int.ofNat ((aE 256 v).lor (aE 256 128)))=_;rw[Z3 h0 h,nP];show((v.toNat%128+128:Nat):Int)%256=_;omega
def RL{v:Int}(h0:0<=v)(h:v<18446744073709551616):IntKind.u64.wrap (Int.ofNat ((aE (am .u64) v).land (aE (am .u64) 127)))=v%128:=by show IntKind.u64.wrap (Int.ofNat ((aE 18446744073709551616 v).land (aE 18446744073709551616 127)))=_;rw[WX h0 h,pq];show((v.toNat%128:Nat):Int)%18446744073709551616=_;omega
noncomputable section
def nT:FSpec:=⟨[.c (.i .u64 1)],[],λz=>0<=z.i 1/\z.i 1<18446744073709551616,λ_=>.one (.c (.vb 10)),λ_=>[],λz y=>y.s 10=aH (z.i 1).toNat,none⟩
def jF(p:Sy):LSpec:=⟨[(0,.c (.i .u64 1)),(3,.c (.gb 0 20))],[.growb 5 20],λz=>(0<=z.i 1/\z.i 1<18446744073709551616)/\(z.s 20).length+(aH (z.i 1).toNat).length<=10,λz=>(z.i 1).toNat,[⟨.exit 0,[(0,.c (.i .u64 1)),(3,.c (.gb 0 20))],[.growb 5 20]⟩],λz y=>y.s 20++aH (y.i 1).toNat=z.s 20++aH (z.i 1).toNat/\0<=y.i 1/\y.i 1<128/\(y.s 20).length<=10,none,[]⟩
abbrev vO:=nT
abbrev qc:=jF
end
set_option maxHeartbeats 4000000
abbrev bj:=Ok Tryz.prog
abbrev bH:=ZZ Tryz.prog
abbrev pu(a:List Nat):=a.length=a.length/\True
abbrev xM(a b:List Nat):=a.length=b.length+1/\True
abbrev Z4(a:Prop)(b c:Int)(d:List Nat)(e:Int):=a/\b.toNat<c.toNat/\∀(y:Sy),y.s 20++aH (y.i 1).toNat=d++ [e.toNat]++aH b.toNat/\0<=y.i 1/\y.i 1<128/\(y.s 20).length<=10->y.s 20++aH (y.i 1).toNat=d++aH c.toNat/\0<=y.i 1/\y.i 1<128/\(y.s 20).length<=10
abbrev nU:=am .u64
abbrev UN(a:List Nat)(b:Int):=a++aH b.toNat=a++aH b.toNat/\0<=b/\b<128/\a.length<=10
abbrev UO(a:List Nat)(b:Int):=a.length=a.length/\a.length<=1000000000/\(0:Int)<=IntKind.u8.wrap b/\True
abbrev sN:=am .u8
abbrev nV(a:Int):=aH a.toNat
def xN:bH 77 0 qc:=bG 3 1 eN lN λp z hA=>show Fm.den (let v0:=(Int.ofNat ((aE (sN) (IntKind.u64.wrap (Int.ofNat ((aE (nU) (z.i 1)).land (aE (nU) 127)))%256)).lor (aE (sN) 128)));let v1:=(IntKind.u8.wrap v0);(.two (128<=z.i 1) (.an (UO (z.s 20) v0) (.an (xM (z.s 20++ [v1.toNat]) (z.s 20)) (.at (Z4 ((0<=z.i 1/128/\z.i 1/128<18446744073709551616)/\(z.s 20++ [v1.toNat]).length+(nV (z.i 1/128)).length<=10) (z.i 1/128) (z.i 1) (z.s 20) v1)))) (.an (pu (z.s 20)) (.at (UN (z.s 20) (z.i 1)))))) by dsimp only [qc,jF] at hA;have:=@RL (z.i 1);have:=@Mv (z.i 1%128%256) (by omega) (by omega);have:=@UM (z.i 1);have:=@FF (z.i 1);exact A5
abbrev Jn(a:List Nat)(b:Int):=a.length=a.length/\a.length<=1000000000/\0<=b%256/\True
abbrev UP(a b:Prop)(c:List Nat)(d:Int):=Fm.cl (a) (b/\0+c.length<=10) (λy=>y.s 20++aH (y.i 1).toNat= []++aH d.toNat/\0<=y.i 1/\y.i 1<128/\(y.s 20).length<=10)
abbrev FG(a:Int):=0<=a/\a<18446744073709551616
abbrev nW:=0=0/\True
def dm:bj 77 vO:=bB 1 0 eN (aG (ptm:=[]) xN lN) λz hA=>show Fm.den ((UP (nW) (FG (z.i 1)) (nV (z.i 1)) (z.i 1) λy0=>(.an (Jn (y0.s 20) (y0.i 1)) (.an (xM (y0.s 20++ [(y0.i 1%256).toNat]) (y0.s 20)) (.at (y0.s 20++ [(y0.i 1%256).toNat]=aH (z.i 1).toNat)))))) by dsimp only [vO,nT] at hA;have:=@cS (z.i 1);have:=@FF;exact A5
def A6:bH 72 0 jF:=bG 3 1 eN lN λp z hA=>show Fm.den (let v0:=(Int.ofNat ((aE (sN) (z.i 1%256)).lor (aE (sN) 128)));let v1:=(IntKind.u8.wrap v0);(.two (128<=z.i 1) (.an (UO (z.s 20) v0) (.an (xM (z.s 20++ [v1.toNat]) (z.s 20)) (.at (Z4 ((0<=z.i 1/128/\z.i 1/128<18446744073709551616)/\(z.s 20++ [v1.toNat]).length+(nV (z.i 1/128)).length<=10) (z.i 1/128) (z.i 1) (z.s 20) v1)))) (.an (pu (z.s 20)) (.at (UN (z.s 20) (z.i 1)))))) by dsimp only [jF] at hA;have:=@Mv (z.i 1%256) (by omega) (by omega);have:=@UM (z.i 1);have:=@FF (z.i 1);exact A5
def gf:bj 72 nT:=bB 1 0 eN (aG (ptm:=[]) A6 lN) λz hA=>show Fm.den ((UP (nW) (FG (z.i 1)) (nV (z.i 1)) (z.i 1) λy0=>(.an (Jn (y0.s 20) (y0.i 1)) (.an (xM (y0.s 20++ [(y0.i 1%256).toNat]) (y0.s 20)) (.at (y0.s 20++ [(y0.i 1%256).toNat]=aH (z.i 1).toNat)))))) by dsimp only [nT] at hA;have:=@cS (z.i 1);have:=@FF;exact A5
noncomputable section
abbrev FH:Nat:=am .u32
def Mw(a b:Int):Int:=IntKind.u32.wrap (.ofNat (Nat.lor (aE FH a) (aE FH b)))
def cY(a b:Int):Int:=IntKind.u32.wrap (.ofNat (Nat.xor (aE FH a) (aE FH b)))
def iX(a b:Int):Int:=IntKind.u32.wrap (.ofNat (Nat.land (aE FH a) (aE FH b)))
def A7(a:Int):Int:=IntKind.u32.wrap (.ofNat (Nat.xor (aE FH (if IntKind.u32.signed then -1 else IntKind.u32.max)) (aE FH a)))
def lM(x n:Int):Int:=Mw (x/((2 ^ min n.toNat (bh .u32):Nat):Int)) (x * ((2 ^ min ((32-n)%18446744073709551616).toNat (bh .u32):Nat):Int)%4294967296)
def kT(s:List Nat)(i:Int):Int:=((s.getD i.toNat 0:Nat):Int)
def Za(a b c d:Int):Int:=Mw (Mw (Mw (a%4294967296 * 16777216%4294967296) (b%4294967296 * 65536%4294967296)) (c%4294967296 * 256%4294967296)) (d%4294967296)
def UQ(s:List Nat)(i:Int):Int:=Za (kT s (4 * i)) (kT s (4 * i+1)) (kT s (4 * i+2)) (kT s (4 * i+3))
def uy(l:List G)(i:Int):Int:=gI (aa (aq l i.toNat) 0)
def uz(x:Int):G:=.node [.int x]
def xO(s:List Nat):Nat->Int->List G->List G
 |0,_,l=>l
 |k+1,i,l=>xO s k (i+1) (l.set i.toNat (uz (UQ s i)))
def wNx(l:List G)(i:Int):Int:=
 (((uy l (i-16)+cY (cY (lM (uy l (i-15)) 7) (lM (uy l (i-15)) 18)) (uy l (i-15)/8))%4294967296+uy l (i-7))%4294967296+cY (cY (lM (uy l (i-2)) 17) (lM (uy l (i-2)) 19)) (uy l (i-2)/1024))%4294967296
def Dx:Nat->Int->List G->List G
 |0,_,l=>l
 |k+1,i,l=>Dx k (i+1) (l.set i.toNat (uz (wNx l i)))
structure V8 where
 (a b c d e f g h:Int)
def rt(k w:Int)(v:V8):Int:=((((v.h+cY (cY (lM v.e 6) (lM v.e 11)) (lM v.e 25))%4294967296+cY (iX v.e v.f) (iX (A7 v.e) v.g))%4294967296+k)%4294967296+w)%4294967296
def ru(v:V8):Int:=(cY (cY (lM v.a 2) (lM v.a 13)) (lM v.a 22)+cY (cY (iX v.a v.b) (iX v.a v.c)) (iX v.b v.c))%4294967296
def eK(k w:Int)(v:V8):V8:=⟨(rt k w v+ru v)%4294967296,v.a,v.b,v.c,(v.d+rt k w v)%4294967296,v.e,v.f,v.g⟩
def CH(k w:List G):Nat->Int->V8->V8
 |0,_,v=>v
 |n+1,i,v=>CH k w n (i+1) (eK (uy k i) (uy w i) v)
def A8{s:List Nat}{i:Int}{l:List G}(h:i<16):xO s (16-i).toNat i l=xO s (16-(i+1)).toNat (i+1) (l.set i.toNat (uz (UQ s i))):=by rw[show(16-i).toNat=(16-(i+1)).toNat+1 by omega];rfl
def FI{s:List Nat}{i:Int}{l:List G}(h:16<=i):xO s (16-i).toNat i l=l:=by rw[show(16-i).toNat=0 by omega];rfl
def A9{i:Int}{l:List G}(h:i<64):Dx (64-i).toNat i l=Dx (64-(i+1)).toNat (i+1) (l.set i.toNat (uz (wNx l i))):=by rw[show(64-i).toNat=(64-(i+1)).toNat+1 by omega];rfl
def FJ{i:Int}{l:List G}(h:64<=i):Dx (64-i).toNat i l=l:=by rw[show(64-i).toNat=0 by omega];rfl
def A_{k w:List G}{i:Int}{v:V8}(h:i<64):CH k w (64-i).toNat i v=CH k w (64-(i+1)).toNat (i+1) (eK (uy k i) (uy w i) v):=by rw[show(64-i).toNat=(64-(i+1)).toNat+1 by omega];rfl
def FK{k w:List G}{i:Int}{v:V8}(h:64<=i):CH k w (64-i).toNat i v=v:=by rw[show(64-i).toNat=0 by omega];rfl
def zw(n:Nat):List G:=List.replicate n (uz 0)
def Z5(s:List Nat):List G:=Dx 48 16 (xO s 16 0 (zw 64))
def Z6(k:List G)(s:List Nat)(v:V8):V8:=CH k (Z5 s) 64 0 v
def Z7(v u:V8):V8:=⟨(v.a+u.a)%4294967296,(v.b+u.b)%4294967296,(v.c+u.c)%4294967296,(v.d+u.d)%4294967296,(v.e+u.e)%4294967296,(v.f+u.f)%4294967296,(v.g+u.g)%4294967296,(v.h+u.h)%4294967296⟩
def pw(k:List G)(s:List Nat)(v:V8):V8:=Z7 v (Z6 k s v)
abbrev v8(z:Sy):V8:=⟨z.i 30,z.i 31,z.i 32,z.i 33,z.i 34,z.i 35,z.i 36,z.i 37⟩
def QP:List Sh:=[.i .u32 30,.i .u32 31,.i .u32 32,.i .u32 33,.i .u32 34,.i .u32 35,.i .u32 36,.i .u32 37]
abbrev FL(z:Sy):V8:=⟨z.i 40,z.i 41,z.i 42,z.i 43,z.i 44,z.i 45,z.i 46,z.i 47⟩
def Z8:List Sh:=[.i .u32 40,.i .u32 41,.i .u32 42,.i .u32 43,.i .u32 44,.i .u32 45,.i .u32 46,.i .u32 47]
def sO{z y0 y1 y2:Sy}{p q:Prop}(h0:v8 y0=v8 z/\y0.g 1=z.g 2/\p/\y0.g 2=xO (z.s 1) (16-0:Int).toNat 0 [G.node [G.int 0],G.node [G.int 0],G.node [G.int 0],G.node [G.int 0],G.node [G.int 0],G.node [G.int 0],G.node [G.int 0],G.node [G.int 0],G.node [G.int 0],G.node [G.int 0],G.node [G.int 0],G.node [G.int 0],G.node [G.int 0],G.node [G.int 0],G.node [G.int 0],G.node [G.int 0],G.node [G.int 0],G.node [G.int 0],G.node [G.int 0],G.node [G.int 0],G.node [G.int 0],G.node [G.int 0],G.node [G.int 0],G.node [G.int 0],G.node [G.int 0],G.node [G.int 0],G.node [G.int 0],G.node [G.int 0],G.node [G.int 0],G.node [G.int 0],G.node [G.int 0],G.node [G.int 0],G.node [G.int 0],G.node [G.int 0],G.node [G.int 0],G.node [G.int 0],G.node [G.int 0],G.node [G.int 0],G.node [G.int 0],G.node [G.int 0],G.node [G.int 0],G.node [G.int 0],G.node [G.int 0],G.node [G.int 0],G.node [G.int 0],G.node [G.int 0],G.node [G.int 0],G.node [G.int 0],G.node [G.int 0],G.node [G.int 0],G.node [G.int 0],G.node [G.int 0],G.node [G.int 0],G.node [G.int 0],G.node [G.int 0],G.node [G.int 0],G.node [G.int 0],G.node [G.int 0],G.node [G.int 0],G.node [G.int 0],G.node [G.int 0],G.node [G.int 0],G.node [G.int 0],G.node [G.int 0]])(h1:v8 y1=v8 y0/\y1.g 1=y0.g 1/\q/\y1.g 2=Dx (64-16:Int).toNat 16 (y0.g 2))(h2:v8 y2=v8 y1/\y2.g 1=y1.g 1/\FL y2=CH (y1.g 1) (y1.g 2) (64-0:Int).toNat 0 (v8 y1)):
 y2.g 1=z.g 2/\Z7 (v8 y2) (FL y2)=pw (z.g 2) (z.s 1) (v8 z):=by
 obtain⟨a1,a2,_,a3⟩:=h0
 obtain⟨b1,b2,_,b3⟩:=h1
 obtain⟨c1,c2,c3⟩:=h2
 refine⟨by rw[c2,b2,a2], ?_⟩
 rw[c3,c1,b1,a1,b2,a2,b3,a3]
 rfl
def KG:List G:=[.node [.int 1116352408],.node [.int 1899447441],.node [.int 3049323471],.node [.int 3921009573],.node [.int 961987163],.node [.int 1508970993],.node [.int 2453635748],.node [.int 2870763221],.node [.int 3624381080],.node [.int 310598401],.node [.int 607225278],.node [.int 1426881987],.node [.int 1925078388],.node [.int 2162078206],.node [.int 2614888103],.node [.int 3248222580],.node [.int 3835390401],.node [.int 4022224774],.node [.int 264347078],.node [.int 604807628],.node [.int 770255983],.node [.int 1249150122],.node [.int 1555081692],.node [.int 1996064986],.node [.int 2554220882],.node [.int 2821834349],.node [.int 2952996808],.node [.int 3210313671],.node [.int 3336571891],.node [.int 3584528711],.node [.int 113926993],.node [.int 338241895],.node [.int 666307205],.node [.int 773529912],.node [.int 1294757372],.node [.int 1396182291],.node [.int 1695183700],.node [.int 1986661051],.node [.int 2177026350],.node [.int 2456956037],.node [.int 2730485921],.node [.int 2820302411],.node [.int 3259730800],.node [.int 3345764771],.node [.int 3516065817],.node [.int 3600352804],.node [.int 4094571909],.node [.int 275423344],.node [.int 430227734],.node [.int 506948616],.node [.int 659060556],.node [.int 883997877],.node [.int 958139571],.node [.int 1322822218],.node [.int 1537002063],.node [.int 1747873779],.node [.int 1955562222],.node [.int 2024104815],.node [.int 2227730452],.node [.int 2361852424],.node [.int 2428436474],.node [.int 2756734187],.node [.int 3204031479],.node [.int 3329325298]]
def V0:V8:=⟨1779033703,3144134277,1013904242,2773480762,1359893119,2600822924,528734635,1541459225⟩
def gB(k:List G)(s:List Nat)(v:V8):V8:=if 64<=s.length then gB k (s.drop 64) (pw k s v) else v
termination_by s.length
decreasing_by simp;omega
def bZ(s:List Nat):List Nat:=if 64<=s.length then bZ (s.drop 64) else s
termination_by s.length
decreasing_by simp;omega
def eY{k:List G}{s:List Nat}{v:V8}(h:64<=s.length):gB k s v=gB k (s.drop 64) (pw k s v):=by rw[gB,if_pos h]
def iY{k:List G}{s:List Nat}{v:V8}(h:s.length<64):gB k s v=v:=by rw[gB,if_neg (by omega)]
def px{s:List Nat}(h:64<=s.length):bZ s=bZ (s.drop 64):=by rw[bZ,if_pos h]
def sP{s:List Nat}(h:s.length<64):bZ s=s:=by rw[bZ,if_neg (by omega)]
def FM(e d:Int):Nat->Int->List Nat->List Nat
 |0,_,l=>l
 |k+1,i,l=>FM e d k (i+1) (l.set (e-1-i).toNat ((d/((2 ^ min (8 * i).toNat (bh .u64):Nat):Int))%256).toNat)
def sQ(e d i:Int)(l:List Nat):List Nat:=FM e d (8-i).toNat i l
def Mx{e d i:Int}{l:List Nat}(h:i<8):FM e d (8-i).toNat i l=FM e d (8-(i+1)).toNat (i+1) (l.set (e-1-i).toNat ((d/((2 ^ min (8 * i).toNat (bh .u64):Nat):Int))%256).toNat):=by rw[show(8-i).toNat=(8-(i+1)).toNat+1 by omega];rfl
def RM{e d i:Int}{l:List Nat}(h:8<=i):FM e d (8-i).toNat i l=l:=by rw[show(8-i).toNat=0 by omega];rfl
def Jo{e d i:Int}{l:List Nat}(h:i<8):sQ e d i l=sQ e d (i+1) (l.set (e-1-i).toNat ((d/((2 ^ min (8 * i).toNat (bh .u64):Nat):Int))%256).toNat):=Mx h
def My{e d i:Int}{l:List Nat}(h:8<=i):sQ e d i l=l:=RM h
def UR(r:List Nat):List Nat:=(r.take 128++(List.replicate 128 0).drop r.length).set (min r.length 128) 128
def CI(s:List Nat):Int:=(s.length:Int)%18446744073709551616 * 8%18446744073709551616
def eM(s:List Nat):V8:=
 if 56<=min (bZ s).length 128 then pw KG (((FM 128 (CI s) 8 0 (UR (bZ s))).take 128).drop 64) (pw KG (((FM 128 (CI s) 8 0 (UR (bZ s))).take 128).drop 0) (gB KG s V0))
 else pw KG (((FM 64 (CI s) 8 0 (UR (bZ s))).take 128).drop 0) (gB KG s V0)
def ZB:List Nat:=let x:=Int.toNat 0; [x,x,x,x,x,x,x,x,x,x,x,x,x,x,x,x,x,x,x,x,x,x,x,x,x,x,x,x,x,x,x,x,x,x,x,x,x,x,x,x,x,x,x,x,x,x,x,x,x,x,x,x,x,x,x,x,x,x,x,x,x,x,x,x,x,x,x,x,x,x,x,x,x,x,x,x,x,x,x,x,x,x,x,x,x,x,x,x,x,x,x,x,x,x,x,x,x,x,x,x,x,x,x,x,x,x,x,x,x,x,x,x,x,x,x,x,x,x,x,x,x,x,x,x,x,x,x,x]
def US:ZB=List.replicate 128 0:=by decide
def WY(r:List Nat)(h:r.length<64):(List.take 128 r++List.drop r.length ZB).length=128:=by rw[US];simp;omega
def Mz{r:List Nat}:(List.take 128 r++List.drop r.length ZB).set (((min r.length 128:Nat):Int)).toNat (Int.toNat 128)=UR r:=by rw[US];rfl
def WZ{z y0:Sy}{p q:Prop}(h0:y0.s 6=z.s 1/\y0.g 2=KG/\p/\q/\(y0.s 5).length<64):(List.take 128 (y0.s 5)++List.drop (y0.s 5).length ZB).length=128/\(y0.g 2).length=64/\(y0.s 5).length<64:=
 ⟨WY _ h0.2.2.2.2,by rw[h0.2.1];rfl,h0.2.2.2.2⟩
def W0{z y0:Sy}{p q:Prop}(h0:y0.s 6=z.s 1/\y0.g 2=KG/\p/\q/\(y0.s 5).length<64):y0.g 2=KG:=h0.2.1
def MA{z y0 y1 y2 y3:Sy}{p q:Prop}(h0:y0.s 6=z.s 1/\y0.g 2=KG/\v8 y0=gB KG (z.s 1) V0/\y0.s 5=bZ (z.s 1)/\(y0.s 5).length<64)(hc:56<=((min (y0.s 5).length 128:Nat):Int))(h1:y1.g 2=KG/\v8 y1=v8 y0/\p/\q/\y1.s 7=sQ 128 (((y0.s 6).length:Int)%18446744073709551616 * 8%18446744073709551616) 0 ((List.take 128 (y0.s 5)++List.drop (y0.s 5).length ZB).set (((min (y0.s 5).length 128:Nat):Int)).toNat (Int.toNat 128)))(h2:y2.g 2=y1.g 2/\v8 y2=pw (y1.g 2) (List.drop (Int.toNat 0) (List.take (Int.toNat 128) (y1.s 7))) (v8 y1))(h3:y3.g 2=y2.g 2/\v8 y3=pw (y2.g 2) (List.drop (Int.toNat 64) (List.take (Int.toNat 128) (y1.s 7))) (v8 y2)):v8 y3=eM (z.s 1):=by
 obtain⟨a1,a2,a3,a4,a5⟩:=h0
 obtain⟨b1,b2,_,_,b3⟩:=h1
 rw[Mz] at b3
 unfold eM
 rw[←a4,if_pos (by omega),h3.2,h2.1,h2.2,b1,b2,a3,b3,a1]
 rfl
def MB{z y0 y1 y2:Sy}{p q:Prop}(h0:y0.s 6=z.s 1/\y0.g 2=KG/\v8 y0=gB KG (z.s 1) V0/\y0.s 5=bZ (z.s 1)/\(y0.s 5).length<64)(hc:¬56<=((min (y0.s 5).length 128:Nat):Int))(h1:y1.g 2=KG/\v8 y1=v8 y0/\p/\q/\y1.s 7=sQ 64 (((y0.s 6).length:Int)%18446744073709551616 * 8%18446744073709551616) 0 ((List.take 128 (y0.s 5)++List.drop (y0.s 5).length ZB).set (((min (y0.s 5).length 128:Nat):Int)).toNat (Int.toNat 128)))(h2:y2.g 2=y1.g 2/\v8 y2=pw (y1.g 2) (List.drop (Int.toNat 0) (List.take (Int.toNat 128) (y1.s 7))) (v8 y1)):v8 y2=eM (z.s 1):=by
 obtain⟨a1,a2,a3,a4,a5⟩:=h0
 obtain⟨b1,b2,_,_,b3⟩:=h1
 rw[Mz] at b3
 unfold eM
 rw[←a4,if_neg (by omega),h2.2,b1,b2,a3,b3,a1]
 rfl
def sp8(v:V8):List Sh:=[.pi .u32 v.a,.pi .u32 v.b,.pi .u32 v.c,.pi .u32 v.d,.pi .u32 v.e,.pi .u32 v.f,.pi .u32 v.g,.pi .u32 v.h]
def nX{s:List Nat}{i:Int}(j:Int)(h0:0<=i)(h1:0<=j):kT (List.drop (4 * i).toNat (List.take (s.length:Int).toNat s)) j=kT s (4 * i+j):=by unfold kT;rw[aar,aa9,aag,aaz,aag];congr 3;omega
def MC{s:List Nat}{i:Int}(h0:0<=i):Za (kT (List.drop (4 * i).toNat (List.take (s.length:Int).toNat s)) 0) (kT (List.drop (4 * i).toNat (List.take (s.length:Int).toNat s)) 1) (kT (List.drop (4 * i).toNat (List.take (s.length:Int).toNat s)) 2) (kT (List.drop (4 * i).toNat (List.take (s.length:Int).toNat s)) 3)=UQ s i:=by unfold UQ;rw[nX 0 h0 (by decide),nX 1 h0 (by decide),nX 2 h0 (by decide),nX 3 h0 (by decide),Int.add_zero]
def hb(v:V8)(j:Nat):Int:=[v.a/16777216%256,v.a/65536%256,v.a/256%256,v.a%256,v.b/16777216%256,v.b/65536%256,v.b/256%256,v.b%256,v.c/16777216%256,v.c/65536%256,v.c/256%256,v.c%256,v.d/16777216%256,v.d/65536%256,v.d/256%256,v.d%256,
 v.e/16777216%256,v.e/65536%256,v.e/256%256,v.e%256,v.f/16777216%256,v.f/65536%256,v.f/256%256,v.f%256,v.g/16777216%256,v.g/65536%256,v.g/256%256,v.g%256,v.h/16777216%256,v.h/65536%256,v.h/256%256,v.h%256].getD j 0
def h32(v:V8):List Sh:=(List.range 32).map λj=>.pi .u8 (hb v j)
def FN:FSpec:=⟨[.c (.i .u32 1),.c (.i .u64 2)],[],λz=>0<=z.i 2,λz=>.one (.c (.pi .u32 (lM (z.i 1) (z.i 2)))),λ_=>[],λz y=>True,none⟩
abbrev MD:=FN
def UT:FSpec:=⟨[.c (.vb 1)],[],λz=>4<=(z.s 1).length,λz=>.one (.c (.pi .u32 (Za (kT (z.s 1) 0) (kT (z.s 1) 1) (kT (z.s 1) 2) (kT (z.s 1) 3)))),λ_=>[],λz y=>True,none⟩
def RN:List BSh:=[.cells 223 QP,.arr 9 106 1,.arr 9 106 2]
def tkT:List (Nat×Sa):=[(0,.c (.p 0)),(2,.c (.p 1)),(6,.c (.p 2))]
def FO(p:Sy):LSpec:=⟨[(0,.c (.p 0)),(2,.c (.p 1)),(6,.c (.p 2)),(1,.c (.vb 3)),(20,.c (.i .i64 20))],RN,λz=>64<=(z.s 3).length/\(z.g 1).length=64/\(z.g 2).length=64/\0<=z.i 20/\z.i 20<=16,λz=>(16-z.i 20).toNat,[⟨.exit 0,tkT,RN⟩],λz y=>v8 y=v8 z/\y.g 1=z.g 1/\(y.g 2).length=64/\y.g 2=xO (z.s 3) (16-z.i 20).toNat (z.i 20) (z.g 2),none,[]⟩
def FP(p:Sy):LSpec:=⟨[(0,.c (.p 0)),(2,.c (.p 1)),(6,.c (.p 2)),(8,.c (.i .i64 8))],RN,λz=>(z.g 1).length=64/\(z.g 2).length=64/\16<=z.i 8/\z.i 8<=64,λz=>(64-z.i 8).toNat,[⟨.exit 2,tkT,RN⟩],λz y=>v8 y=v8 z/\y.g 1=z.g 1/\(y.g 2).length=64/\y.g 2=Dx (64-z.i 8).toNat (z.i 8) (z.g 2),none,[]⟩
def UU:List BSh:=[.cells 223 QP,.arr 9 106 1,.arr 9 106 2,.cells 223 Z8]
def tkT2:List (Nat×Sa):=[(0,.c (.p 0)),(2,.c (.p 1)),(6,.c (.p 2)),(13,.c (.p 3))]
def FQ(p:Sy):LSpec:=⟨[(0,.c (.p 0)),(2,.c (.p 1)),(6,.c (.p 2)),(13,.c (.p 3)),(77,.c (.i .i64 77))],UU,λz=>(z.g 1).length=64/\(z.g 2).length=64/\0<=z.i 77/\z.i 77<=64,λz=>(64-z.i 77).toNat,[⟨.exit 4,tkT2,UU⟩],λz y=>v8 y=v8 z/\y.g 1=z.g 1/\FL y=CH (z.g 1) (z.g 2) (64-z.i 77).toNat (z.i 77) (FL z),none,[]⟩
def UV:FSpec:=⟨[.c (.p 0),.c (.vb 1),.c (.p 1)],[.cells 223 QP,.arr 9 106 2],λz=>64<=(z.s 1).length/\(z.g 2).length=64,λz=>.tu [],λz=>[.cells 223 QP,.arr 9 106 2],λz y=>y.g 2=z.g 2/\v8 y=pw (z.g 2) (z.s 1) (v8 z),none⟩
def z32:List Sh:=List.replicate 32 (.pi .u8 0)
def Z9:List BSh:=[.cells 223 QP,.arr 9 106 2,.cells 28 z32]
def smT:List (Nat×Sa):=[(0,.c (.vb 6)),(2,.c (.p 2)),(3,.c (.p 0)),(4,.c (.p 1)),(5,.c (.vb 5))]
def MF(p:Sy):LSpec:=⟨smT,Z9,λz=>z.g 2=KG,λz=>(z.s 5).length,[⟨.exit 0,smT,Z9⟩],λz y=>y.s 6=z.s 6/\y.g 2=KG/\v8 y=gB KG (z.s 5) (v8 z)/\y.s 5=bZ (z.s 5)/\(y.s 5).length<64,none,[]⟩
def UW:List BSh:=[.cells 223 QP,.arr 9 106 2,.cells 28 z32,.arb 225 7]
def MG(p:Sy):LSpec:=⟨[(2,.c (.p 2)),(3,.c (.p 0)),(4,.c (.p 1)),(6,.c (.p 3)),(8,.c (.i .i64 8)),(9,.c (.i .u64 9)),(35,.c (.i .i64 20))],UW,λz=>z.g 2=KG/\(z.s 7).length=128/\(z.i 8=64∨z.i 8=128)/\0<=z.i 20/\z.i 20<=8,λz=>(8-z.i 20).toNat,[⟨.exit 2,[(2,.c (.p 2)),(3,.c (.p 0)),(4,.c (.p 1)),(6,.c (.p 3)),(8,.c (.i .i64 8))],UW⟩],λz y=>y.g 2=KG/\v8 y=v8 z/\y.i 8=z.i 8/\(y.s 7).length=128/\y.s 7=sQ (z.i 8) (z.i 9) (z.i 20) (z.s 7),none,[]⟩
def W1:FSpec:=⟨[.c (.vb 1)],[],λz=>(z.s 1).length<=1000000000,λz=>.one (.ag (h32 (eM (z.s 1)))),λ_=>[],λz y=>True,none⟩
end
abbrev b_:=am .u32
abbrev FT:=bh IntKind.u32
def FU:bj 78 MD:=bB 1 0 eN lN λz hA=>show Fm.den ((.an (0<=z.i 2) (.an ((0:Int)<=(32-z.i 2)%18446744073709551616) (.an (IntKind.u32.wrap (Int.ofNat ((aE (b_) (z.i 1/(↑(2 ^ Min.min (z.i 2).toNat (FT)):Int))).lor (aE (b_) (z.i 1 * (↑(2 ^ Min.min ((32-z.i 2)%18446744073709551616).toNat (FT)):Int)%4294967296))))=lM (z.i 1) (z.i 2)/\True) (.at (True)))))) by
 dsimp only [MD,FN] at hA;repeat' with_reducible first|intro _|apply cd|apply ck|apply cg|apply cE|apply cr
 all_goals first|omega|(repeat' first|refine And.intro ?_ ?_|intro _) <;> first|omega|rfl|grind [ao,ak,aj]
abbrev eO(a:Int):=IntKind.u32.wrap a
abbrev iZ:=Int.toNat 0
abbrev sR(a:Int):=IntKind.u32.wrap a
abbrev Ba(a:Int):=(0:Int)<=0/\0<a
def W2:bj 198 UT:=bB 1 0 eN lN λz hA=>show Fm.den (let v0:=(b_);let v1:=(↑(z.s 1).length:Int);(.an (Ba v1) (.an ((0:Int)<=1/\1<v1) (.an ((0:Int)<=2/\2<v1) (.an ((0:Int)<=3/\3<v1) (.an (IntKind.u32.wrap (Int.ofNat ((aE v0 (sR (Int.ofNat ((aE v0 (eO (Int.ofNat ((aE v0 ((↑((z.s 1).getD (iZ) 0):Int)%4294967296 * 16777216%4294967296)).lor (aE v0 ((↑((z.s 1).getD (Int.toNat 1) 0):Int)%4294967296 * 65536%4294967296)))))).lor (aE v0 ((↑((z.s 1).getD (Int.toNat 2) 0):Int)%4294967296 * 256%4294967296)))))).lor (aE v0 ((↑((z.s 1).getD (Int.toNat 3) 0):Int)%4294967296))))=Za (kT (z.s 1) 0) (kT (z.s 1) 1) (kT (z.s 1) 2) (kT (z.s 1) 3)/\True) (.at (True)))))))) by
 dsimp only [UT] at hA;conv=>zeta
 repeat' with_reducible first|intro _|apply cd|apply ck|apply cg|apply cE|apply cr
 all_goals first|omega|(repeat' first|refine And.intro ?_ ?_|intro _) <;> first|omega|rfl|grind [ao,ak,aj]
abbrev uA(a:Int)(b:List G):=a.toNat<b.length/\True
abbrev MH(a b:List G):=0<a.length/\0<b.length/\True
abbrev mb(a:List G):=0<a.length
abbrev sT(a:Int):=G.node [G.int a]
abbrev vP(a:Int):=0<=a/\a<64
def MI:bH 140 0 FO:=bG 5 41 (ai W2 eN) lN λp z hA=>show Fm.den (let v2:=(↑(z.s 3).length:Int);let v0:=(List.drop (4 * z.i 20).toNat (List.take v2.toNat (z.s 3)));let v1:=((z.g 2).set (z.i 20).toNat (sT (Za (kT v0 0) (kT v0 1) (kT v0 2) (kT v0 3))));(.two (z.i 20<16) (.an ((-9223372036854775808)<=4 * z.i 20/\4 * z.i 20<=9223372036854775807) (.an (0<=4 * z.i 20/\4 * z.i 20<=v2/\v2<=v2) (.ct (4<=v0.length) (λy0=>True) λy0=>(.an (vP (z.i 20)) (.an (mb (z.g 2)) (.an (uA (z.i 20) (z.g 2)) (.an ((-9223372036854775808)<=z.i 20+1/\z.i 20+1<=9223372036854775807) (.an (0<v1.length/\0<(z.g 1).length/\True) (.at ((64<=(z.s 3).length/\(z.g 1).length=64/\v1.length=64/\0<=z.i 20+1/\z.i 20+1<=16)/\((16:Int)-(z.i 20+1)).toNat<(16-z.i 20).toNat/\∀(y:Sy),V8.mk (y.i 30) (y.i 31) (y.i 32) (y.i 33) (y.i 34) (y.i 35) (y.i 36) (y.i 37)=V8.mk (z.i 30) (z.i 31) (z.i 32) (z.i 33) (z.i 34) (z.i 35) (z.i 36) (z.i 37)/\y.g 1=z.g 1/\(y.g 2).length=64/\y.g 2=xO (z.s 3) (16-(z.i 20+1)).toNat (z.i 20+1) v1->V8.mk (y.i 30) (y.i 31) (y.i 32) (y.i 33) (y.i 34) (y.i 35) (y.i 36) (y.i 37)=V8.mk (z.i 30) (z.i 31) (z.i 32) (z.i 33) (z.i 34) (z.i 35) (z.i 36) (z.i 37)/\y.g 1=z.g 1/\(y.g 2).length=64/\y.g 2=xO (z.s 3) (16-z.i 20).toNat (z.i 20) (z.g 2))))))))))) (.an (MH (z.g 2) (z.g 1)) (.at (V8.mk (z.i 30) (z.i 31) (z.i 32) (z.i 33) (z.i 34) (z.i 35) (z.i 36) (z.i 37)=V8.mk (z.i 30) (z.i 31) (z.i 32) (z.i 33) (z.i 34) (z.i 35) (z.i 36) (z.i 37)/\z.g 1=z.g 1/\(z.g 2).length=64/\z.g 2=xO (z.s 3) (16-z.i 20).toNat (z.i 20) (z.g 2)))))) by
 dsimp only [FO,v8] at hA;have:=@MC (z.s 3) (z.i 20);have:=@A8 (z.s 3) (z.i 20) (z.g 2);have:=@FI (z.s 3) (z.i 20) (z.g 2);conv=>zeta
 repeat' with_reducible first|intro _|apply cd|apply ck|apply cg|apply cE|apply cr
 all_goals first|omega|(repeat' first|refine And.intro ?_ ?_|intro _) <;> first|omega|rfl|grind [ao,ak,aj,List.append_assoc,List.length_append,List.length_cons,List.length_nil,List.append_cancel_left_eq,List.cons.injEq,uz]
def MJ:bj 199 FN:=bB 1 0 eN lN λz hA=>show Fm.den ((.an (0<=z.i 2) (.an ((0:Int)<=(32-z.i 2)%18446744073709551616) (.an (IntKind.u32.wrap (Int.ofNat ((aE (b_) (z.i 1/(↑(2 ^ Min.min (z.i 2).toNat (FT)):Int))).lor (aE (b_) (z.i 1 * (↑(2 ^ Min.min ((32-z.i 2)%18446744073709551616).toNat (FT)):Int)%4294967296))))=lM (z.i 1) (z.i 2)/\True) (.at (True)))))) by
 dsimp only [FN] at hA;repeat' with_reducible first|intro _|apply cd|apply ck|apply cg|apply cE|apply cr
 all_goals first|omega|(repeat' first|refine And.intro ?_ ?_|intro _) <;> first|omega|rfl|grind [ao,ak,aj]
abbrev aL(a:List G)(b:Int):=aq a b.toNat
abbrev eB(a:Int)(b:List G):=a.toNat<b.length
abbrev aQ(a:G):=aa a 0
def MK:bH 140 2 FP:=bG 8 2729 (ai MJ eN) lN λp z hA=>show Fm.den (let v0:=((z.g 2).set (z.i 8).toNat (sT ((((gI (aQ (aL (z.g 2) (z.i 8-16)))+IntKind.u32.wrap (Int.ofNat ((aE (b_) (eO (Int.ofNat ((aE (b_) (lM (gI (aQ (aL (z.g 2) (z.i 8-15)))) 7)).xor (aE (b_) (lM (gI (aQ (aL (z.g 2) (z.i 8-15)))) 18)))))).xor (aE (b_) (gI (aQ (aL (z.g 2) (z.i 8-15)))/8)))))%4294967296+gI (aQ (aL (z.g 2) (z.i 8-7))))%4294967296+IntKind.u32.wrap (Int.ofNat ((aE (b_) (eO (Int.ofNat ((aE (b_) (lM (gI (aQ (aL (z.g 2) (z.i 8-2)))) 17)).xor (aE (b_) (lM (gI (aQ (aL (z.g 2) (z.i 8-2)))) 19)))))).xor (aE (b_) (gI (aQ (aL (z.g 2) (z.i 8-2)))/1024)))))%4294967296)));let v1:=(mb (z.g 2));let v2:=((64:Int)-(z.i 8+1));(.two (z.i 8<64) (.an ((-9223372036854775808)<=z.i 8-15/\z.i 8-15<=9223372036854775807) (.an (0<=z.i 8-15/\z.i 8-15<64) (.an v1 (.an (eB (z.i 8-15) (z.g 2)) (.an ((-9223372036854775808)<=z.i 8-2/\z.i 8-2<=9223372036854775807) (.an (0<=z.i 8-2/\z.i 8-2<64) (.an v1 (.an (eB (z.i 8-2) (z.g 2)) (.ct ((0:Int)<=7) (λy0=>True) λy0=>(.ct ((0:Int)<=18) (λy1=>True) λy1=>(.ct ((0:Int)<=17) (λy2=>True) λy2=>(.ct ((0:Int)<=19) (λy3=>True) λy3=>(.an ((-9223372036854775808)<=z.i 8-16/\z.i 8-16<=9223372036854775807) (.an (0<=z.i 8-16/\z.i 8-16<64) (.an v1 (.an (eB (z.i 8-16) (z.g 2)) (.an ((-9223372036854775808)<=z.i 8-7/\z.i 8-7<=9223372036854775807) (.an (0<=z.i 8-7/\z.i 8-7<64) (.an v1 (.an (eB (z.i 8-7) (z.g 2)) (.an (vP (z.i 8)) (.an v1 (.an (uA (z.i 8) (z.g 2)) (.an ((-9223372036854775808)<=z.i 8+1/\z.i 8+1<=9223372036854775807) (.an (0<v0.length/\0<(z.g 1).length/\True) (.at (((z.g 1).length=64/\v0.length=64/\16<=z.i 8+1/\z.i 8+1<=64)/\v2.toNat<(64-z.i 8).toNat/\∀(y:Sy),V8.mk (y.i 30) (y.i 31) (y.i 32) (y.i 33) (y.i 34) (y.i 35) (y.i 36) (y.i 37)=V8.mk (z.i 30) (z.i 31) (z.i 32) (z.i 33) (z.i 34) (z.i 35) (z.i 36) (z.i 37)/\y.g 1=z.g 1/\(y.g 2).length=64/\y.g 2=Dx v2.toNat (z.i 8+1) v0->V8.mk (y.i 30) (y.i 31) (y.i 32) (y.i 33) (y.i 34) (y.i 35) (y.i 36) (y.i 37)=V8.mk (z.i 30) (z.i 31) (z.i 32) (z.i 33) (z.i 34) (z.i 35) (z.i 36) (z.i 37)/\y.g 1=z.g 1/\(y.g 2).length=64/\y.g 2=Dx (64-z.i 8).toNat (z.i 8) (z.g 2)))))))))))))))))))))))))))) (.an (MH (z.g 2) (z.g 1)) (.at (V8.mk (z.i 30) (z.i 31) (z.i 32) (z.i 33) (z.i 34) (z.i 35) (z.i 36) (z.i 37)=V8.mk (z.i 30) (z.i 31) (z.i 32) (z.i 33) (z.i 34) (z.i 35) (z.i 36) (z.i 37)/\z.g 1=z.g 1/\(z.g 2).length=64/\z.g 2=Dx (64-z.i 8).toNat (z.i 8) (z.g 2)))))) by
 dsimp only [FP,v8] at hA;have e2:=@A9 (z.i 8) (z.g 2);have:=@FJ (z.i 8) (z.g 2);dsimp only [uz,wNx,uy,cY] at e2;conv=>zeta
 repeat' with_reducible first|intro _|apply cd|apply ck|apply cg|apply cE|apply cr
 all_goals first|omega|(repeat' first|refine And.intro ?_ ?_|intro _) <;> first|omega|rfl|grind [ao,ak,aj,List.append_assoc,List.length_append,List.length_cons,List.length_nil,List.append_cancel_left_eq,List.cons.injEq]
abbrev RO(a):=if IntKind.u32.signed=true then a else IntKind.u32.max
def ML:bH 140 4 FQ:=bG 4 9 (ai MJ eN) lN λp z hA=>show Fm.den (let v1:=(b_);let v0:=((((z.i 47+IntKind.u32.wrap (Int.ofNat ((aE v1 (eO (Int.ofNat ((aE v1 (lM (z.i 44) 6)).xor (aE v1 (lM (z.i 44) 11)))))).xor (aE v1 (lM (z.i 44) 25)))))%4294967296+IntKind.u32.wrap (Int.ofNat ((aE v1 (eO (Int.ofNat ((aE v1 (z.i 44)).land (aE v1 (z.i 45)))))).xor (aE v1 (sR (Int.ofNat ((aE v1 (eO (Int.ofNat ((aE v1 (RO (-1))).xor (aE v1 (z.i 44)))))).land (aE v1 (z.i 46)))))))))%4294967296+gI (aQ (aL (z.g 1) (z.i 77))))%4294967296+gI (aQ (aL (z.g 2) (z.i 77))));let v2:=(V8.mk (z.i 40) (z.i 41) (z.i 42) (z.i 43) (z.i 44) (z.i 45) (z.i 46) (z.i 47));let v3:=(MH (z.g 2) (z.g 1));let v4:=(vP (z.i 77));let v5:=((64:Int)-(z.i 77+1));(.two (z.i 77<64) (.ct ((0:Int)<=6) (λy0=>True) λy0=>(.ct ((0:Int)<=11) (λy1=>True) λy1=>(.ct ((0:Int)<=25) (λy2=>True) λy2=>(.an v4 (.an (mb (z.g 1)) (.an (eB (z.i 77) (z.g 1)) (.an v4 (.an (mb (z.g 2)) (.an (eB (z.i 77) (z.g 2)) (.ct ((0:Int)<=2) (λy3=>True) λy3=>(.ct ((0:Int)<=13) (λy4=>True) λy4=>(.ct ((0:Int)<=22) (λy5=>True) λy5=>(.an ((-9223372036854775808)<=z.i 77+1/\z.i 77+1<=9223372036854775807) (.an v3 (.at (((z.g 1).length=64/\(z.g 2).length=64/\0<=z.i 77+1/\z.i 77+1<=64)/\v5.toNat<(64-z.i 77).toNat/\∀(y:Sy),V8.mk (y.i 30) (y.i 31) (y.i 32) (y.i 33) (y.i 34) (y.i 35) (y.i 36) (y.i 37)=V8.mk (z.i 30) (z.i 31) (z.i 32) (z.i 33) (z.i 34) (z.i 35) (z.i 36) (z.i 37)/\y.g 1=z.g 1/\V8.mk (y.i 40) (y.i 41) (y.i 42) (y.i 43) (y.i 44) (y.i 45) (y.i 46) (y.i 47)=CH (z.g 1) (z.g 2) v5.toNat (z.i 77+1) (V8.mk ((v0%4294967296+(IntKind.u32.wrap (Int.ofNat ((aE v1 (eO (Int.ofNat ((aE v1 (lM (z.i 40) 2)).xor (aE v1 (lM (z.i 40) 13)))))).xor (aE v1 (lM (z.i 40) 22))))+IntKind.u32.wrap (Int.ofNat ((aE v1 (sR (Int.ofNat ((aE v1 (eO (Int.ofNat ((aE v1 (z.i 40)).land (aE v1 (z.i 41)))))).xor (aE v1 (eO (Int.ofNat ((aE v1 (z.i 40)).land (aE v1 (z.i 42)))))))))).xor (aE v1 (eO (Int.ofNat ((aE v1 (z.i 41)).land (aE v1 (z.i 42)))))))))%4294967296)%4294967296) (z.i 40) (z.i 41) (z.i 42) ((z.i 43+v0%4294967296)%4294967296) (z.i 44) (z.i 45) (z.i 46))->V8.mk (y.i 30) (y.i 31) (y.i 32) (y.i 33) (y.i 34) (y.i 35) (y.i 36) (y.i 37)=V8.mk (z.i 30) (z.i 31) (z.i 32) (z.i 33) (z.i 34) (z.i 35) (z.i 36) (z.i 37)/\y.g 1=z.g 1/\V8.mk (y.i 40) (y.i 41) (y.i 42) (y.i 43) (y.i 44) (y.i 45) (y.i 46) (y.i 47)=CH (z.g 1) (z.g 2) (64-z.i 77).toNat (z.i 77) v2)))))))))))))))) (.an v3 (.at (V8.mk (z.i 30) (z.i 31) (z.i 32) (z.i 33) (z.i 34) (z.i 35) (z.i 36) (z.i 37)=V8.mk (z.i 30) (z.i 31) (z.i 32) (z.i 33) (z.i 34) (z.i 35) (z.i 36) (z.i 37)/\z.g 1=z.g 1/\V8.mk (z.i 40) (z.i 41) (z.i 42) (z.i 43) (z.i 44) (z.i 45) (z.i 46) (z.i 47)=CH (z.g 1) (z.g 2) (64-z.i 77).toNat (z.i 77) v2))))) by
 dsimp only [FQ,v8,FL] at hA;have e2:=@A_ (z.g 1) (z.g 2) (z.i 77) (FL z);have e3:=@FK (z.g 1) (z.g 2) (z.i 77) (FL z);dsimp only [FL,eK,rt,ru,uy,cY,iX,A7] at e2 e3;conv=>zeta
 repeat' with_reducible first|intro _|apply cd|apply ck|apply cg|apply cE|apply cr
 all_goals first|omega|(repeat' first|refine And.intro ?_ ?_|intro _) <;> first|omega|rfl|grind [ao,ak,aj,List.append_assoc,List.length_append,List.length_cons,List.length_nil,List.append_cancel_left_eq,List.cons.injEq]
abbrev Z_(a:Prop)(b:List Nat)(c:List G)(d e f g h i j k l:Int)(m:G):=Fm.cl (a) (64<=b.length/\c.length=64/\64=64/\(0:Int)<=0/\(0:Int)<=16) (λy=>V8.mk (y.i 30) (y.i 31) (y.i 32) (y.i 33) (y.i 34) (y.i 35) (y.i 36) (y.i 37)=V8.mk d e f g h i j k/\y.g 1=c/\(y.g 2).length=64/\y.g 2=xO b l.toNat 0 [m,m,m,m,m,m,m,m,m,m,m,m,m,m,m,m,m,m,m,m,m,m,m,m,m,m,m,m,m,m,m,m,m,m,m,m,m,m,m,m,m,m,m,m,m,m,m,m,m,m,m,m,m,m,m,m,m,m,m,m,m,m,m,m])
abbrev UX(a:Prop)(b c:List G)(d e f g h i j k l:Int):=Fm.cl (a) (b.length=64/\c.length=64/\(16:Int)<=16/\(16:Int)<=64) (λy=>V8.mk (y.i 30) (y.i 31) (y.i 32) (y.i 33) (y.i 34) (y.i 35) (y.i 36) (y.i 37)=V8.mk d e f g h i j k/\y.g 1=b/\(y.g 2).length=64/\y.g 2=Dx l.toNat 16 c)
abbrev sU(a:List G):=0<a.length/\True
def MM:bj 140 UV:=bB 1 0 eN (aG (ptm:=[]) MI (aG (ptm:=[]) MK (aG (ptm:=[]) ML lN))) λz hA=>show Fm.den (let vxg:=G.node [G.int 0];(.an (64=64/bm (cU 9)) (Z_ (0<64/\0<(z.g 2).length/\True) (z.s 1) (z.g 2) (z.i 30) (z.i 31) (z.i 32) (z.i 33) (z.i 34) (z.i 35) (z.i 36) (z.i 37) ((16:Int)-0) vxg λy0=>(UX (MH (y0.g 2) (y0.g 1)) (y0.g 1) (y0.g 2) (y0.i 30) (y0.i 31) (y0.i 32) (y0.i 33) (y0.i 34) (y0.i 35) (y0.i 36) (y0.i 37) ((64:Int)-16) λy1=>(.cl ((MH (y1.g 2) (y1.g 1))) ((y1.g 1).length=64/\(y1.g 2).length=64/\(0:Int)<=0/\(0:Int)<=64) (λy2=>V8.mk (y2.i 30) (y2.i 31) (y2.i 32) (y2.i 33) (y2.i 34) (y2.i 35) (y2.i 36) (y2.i 37)=V8.mk (y1.i 30) (y1.i 31) (y1.i 32) (y1.i 33) (y1.i 34) (y1.i 35) (y1.i 36) (y1.i 37)/\y2.g 1=y1.g 1/\V8.mk (y2.i 40) (y2.i 41) (y2.i 42) (y2.i 43) (y2.i 44) (y2.i 45) (y2.i 46) (y2.i 47)=CH (y1.g 1) (y1.g 2) ((64:Int)-0).toNat 0 (V8.mk (y1.i 30) (y1.i 31) (y1.i 32) (y1.i 33) (y1.i 34) (y1.i 35) (y1.i 36) (y1.i 37))) λy2=>(.an (sU (y2.g 1)) (.at (y2.g 1=z.g 2/\V8.mk ((y2.i 30+y2.i 40)%(4294967296:Int)) ((y2.i 31+y2.i 41)%4294967296) ((y2.i 32+y2.i 42)%4294967296) ((y2.i 33+y2.i 43)%4294967296) ((y2.i 34+y2.i 44)%4294967296) ((y2.i 35+y2.i 45)%4294967296) ((y2.i 36+y2.i 46)%4294967296) ((y2.i 37+y2.i 47)%4294967296)=pw (z.g 2) (z.s 1) (V8.mk (z.i 30) (z.i 31) (z.i 32) (z.i 33) (z.i 34) (z.i 35) (z.i 36) (z.i 37)))))))))) by
 dsimp only [UV,v8] at hA;conv=>zeta
 repeat' with_reducible first|intro _|apply cd|apply ck|apply cg|apply cE|apply cr
 all_goals first|omega|rfl|(exact sO (by assumption) (by assumption) (by assumption))|grind [ao,ak,aj,List.append_assoc,List.length_append,List.length_cons,List.length_nil,List.append_cancel_left_eq,List.cons.injEq]
abbrev RP(a:Prop)(b:List Nat)(c:List G)(d):=Fm.cl (a) (64<=b.length/\c.length=64) (λy=>y.g 2=c/\V8.mk (y.i 30) (y.i 31) (y.i 32) (y.i 33) (y.i 34) (y.i 35) (y.i 36) (y.i 37)=pw c b d)
abbrev UY(a:Prop)(b:List G):=a/\a/\a/\a/\a/\a/\a/\a/\a/\a/\a/\a/\a/\a/\a/\a/\a/\a/\a/\a/\a/\a/\a/\a/\a/\a/\a/\a/\a/\a/\a/\a/\0<b.length/\True
def RQ:bH 69 0 MF:=bG 3 1 (ai MM eN) lN λp z hA=>show Fm.den (let vx:=(0:Int)=0;let v0:=(V8.mk (z.i 30) (z.i 31) (z.i 32) (z.i 33) (z.i 34) (z.i 35) (z.i 36) (z.i 37));let v2:=(↑(z.s 5).length:Int);let v1:=(List.drop (Int.toNat 64) (List.take v2.toNat (z.s 5)));(.two (64<=v2) (RP (sU (z.g 2)) (z.s 5) (z.g 2) v0 λy0=>(.an ((0:Int)<=64/\64<=v2/\v2<=v2) (.an (UY vx (y0.g 2)) (.at (y0.g 2=KG/\v1.length<(z.s 5).length/\∀(y:Sy),y.s 6=z.s 6/\y.g 2=KG/\V8.mk (y.i 30) (y.i 31) (y.i 32) (y.i 33) (y.i 34) (y.i 35) (y.i 36) (y.i 37)=gB KG v1 (V8.mk (y0.i 30) (y0.i 31) (y0.i 32) (y0.i 33) (y0.i 34) (y0.i 35) (y0.i 36) (y0.i 37))/\y.s 5=bZ v1/\(y.s 5).length<64->y.s 6=z.s 6/\y.g 2=KG/\V8.mk (y.i 30) (y.i 31) (y.i 32) (y.i 33) (y.i 34) (y.i 35) (y.i 36) (y.i 37)=gB KG (z.s 5) v0/\y.s 5=bZ (z.s 5)/\(y.s 5).length<64))))) (.an (UY vx (z.g 2)) (.at (z.s 6=z.s 6/\z.g 2=KG/\V8.mk (z.i 30) (z.i 31) (z.i 32) (z.i 33) (z.i 34) (z.i 35) (z.i 36) (z.i 37)=gB KG (z.s 5) v0/\z.s 5=bZ (z.s 5)/\(z.s 5).length<64))))) by
 dsimp only [MF,v8] at hA;have e1:=@eY KG (z.s 5) (v8 z);have e2:=@iY KG (z.s 5) (v8 z);have:=@px (z.s 5);have:=@sP (z.s 5);have e5:KG.length=64:=rfl;dsimp only [v8] at e1 e2;conv=>zeta
 repeat' with_reducible first|intro _|apply cd|apply ck|apply cg|apply cE|apply cr
 all_goals first|omega|rfl|grind [ao,ak,aj,List.append_assoc,List.length_append,List.length_cons,List.length_nil,List.append_cancel_left_eq,List.cons.injEq]
abbrev FV:=bh IntKind.u64
def RR:bH 69 2 MG:=bG 7 681 eN lN λp z hA=>show Fm.den (let vx:=(0:Int)=0;let v0:=((z.s 7).set (z.i 8-1-z.i 20).toNat (z.i 9/(↑(2 ^ Min.min (8 * z.i 20).toNat (FV)):Int)%256).toNat);(.two (z.i 20<8) (.an ((-9223372036854775808)<=z.i 8-1/\z.i 8-1<=9223372036854775807) (.an ((-9223372036854775808)<=z.i 8-1-z.i 20/\z.i 8-1-z.i 20<=9223372036854775807) (.an ((-9223372036854775808)<=8 * z.i 20/\8 * z.i 20<=9223372036854775807) (.an (0<=8 * z.i 20) (.an (0<=z.i 8-1-z.i 20/\z.i 8-1-z.i 20<128) (.an (0<(z.s 7).length) (.an ((z.i 8-1-z.i 20).toNat<(z.s 7).length/\0<=z.i 9/(↑(2 ^ Min.min (8 * z.i 20).toNat (FV)):Int)%256) (.an ((-9223372036854775808)<=z.i 20+1/\z.i 20+1<=9223372036854775807) (.an (0<v0.length/\vx/\vx/\vx/\vx/\vx/\vx/\vx/\vx/\vx/\vx/\vx/\vx/\vx/\vx/\vx/\vx/\vx/\vx/\vx/\vx/\vx/\vx/\vx/\vx/\vx/\vx/\vx/\vx/\vx/\vx/\vx/\vx/\0<(z.g 2).length/\True) (.at ((z.g 2=KG/\v0.length=128/\(z.i 8=64∨z.i 8=128)/\0<=z.i 20+1/\z.i 20+1<=8)/\((8:Int)-(z.i 20+1)).toNat<(8-z.i 20).toNat/\∀(y:Sy),y.g 2=KG/\V8.mk (y.i 30) (y.i 31) (y.i 32) (y.i 33) (y.i 34) (y.i 35) (y.i 36) (y.i 37)=V8.mk (z.i 30) (z.i 31) (z.i 32) (z.i 33) (z.i 34) (z.i 35) (z.i 36) (z.i 37)/\y.i 8=z.i 8/\(y.s 7).length=128/\y.s 7=sQ (z.i 8) (z.i 9) (z.i 20+1) v0->y.g 2=KG/\V8.mk (y.i 30) (y.i 31) (y.i 32) (y.i 33) (y.i 34) (y.i 35) (y.i 36) (y.i 37)=V8.mk (z.i 30) (z.i 31) (z.i 32) (z.i 33) (z.i 34) (z.i 35) (z.i 36) (z.i 37)/\y.i 8=z.i 8/\(y.s 7).length=128/\y.s 7=sQ (z.i 8) (z.i 9) (z.i 20) (z.s 7)))))))))))) (.an (0<(z.s 7).length/\vx/\vx/\vx/\vx/\vx/\vx/\vx/\vx/\vx/\vx/\vx/\vx/\vx/\vx/\vx/\vx/\vx/\vx/\vx/\vx/\vx/\vx/\vx/\vx/\vx/\vx/\vx/\vx/\vx/\vx/\vx/\vx/\0<(z.g 2).length/\True) (.at (z.g 2=KG/\V8.mk (z.i 30) (z.i 31) (z.i 32) (z.i 33) (z.i 34) (z.i 35) (z.i 36) (z.i 37)=V8.mk (z.i 30) (z.i 31) (z.i 32) (z.i 33) (z.i 34) (z.i 35) (z.i 36) (z.i 37)/\z.i 8=z.i 8/\(z.s 7).length=128/\z.s 7=sQ (z.i 8) (z.i 9) (z.i 20) (z.s 7)))))) by
 dsimp only [MG,v8] at hA;have:=@Jo (z.i 8) (z.i 9) (z.i 20) (z.s 7);have:=@My (z.i 8) (z.i 9) (z.i 20) (z.s 7);have e5:KG.length=64:=rfl;conv=>zeta
 repeat' with_reducible first|intro _|apply cd|apply ck|apply cg|apply cE|apply cr
 all_goals first|omega|rfl|grind [ao,ak,aj,List.append_assoc,List.length_append,List.length_cons,List.length_nil,List.append_cancel_left_eq,List.cons.injEq]
abbrev UZ:=V8.mk 1779033703 3144134277 1013904242 2773480762 1359893119 2600822924 528734635 1541459225
def sV:bj 69 W1:=bB 8 14569 (ai MM eN) (aG (ptm:=[]) RQ (aG (ptm:=[]) RR lN)) λz hA=>show Fm.den (let vx:=(0:Int)=0;let zw:=(0:Int)<=0;let vxn:=Int.toNat 0;let v0:=(eM (z.s 1));let v1:=(Int.toNat 128);let v2:=(zw/\(0:Int)<=128/\(128:Int)<=128);let v3:=(iZ);(.an (64=64/bm (cU 9)) (.cl ((vx/\vx/\vx/\vx/\vx/\vx/\vx/\vx/\vx/\vx/\vx/\vx/\vx/\vx/\vx/\vx/\vx/\vx/\vx/\vx/\vx/\vx/\vx/\vx/\vx/\vx/\vx/\vx/\vx/\vx/\vx/\vx/\0<64/\True)) ([G.node [G.int 1116352408],G.node [G.int 1899447441],G.node [G.int 3049323471],G.node [G.int 3921009573],G.node [G.int 961987163],G.node [G.int 1508970993],G.node [G.int 2453635748],G.node [G.int 2870763221],G.node [G.int 3624381080],G.node [G.int 310598401],G.node [G.int 607225278],G.node [G.int 1426881987],G.node [G.int 1925078388],G.node [G.int 2162078206],G.node [G.int 2614888103],G.node [G.int 3248222580],G.node [G.int 3835390401],G.node [G.int 4022224774],G.node [G.int 264347078],G.node [G.int 604807628],G.node [G.int 770255983],G.node [G.int 1249150122],G.node [G.int 1555081692],G.node [G.int 1996064986],G.node [G.int 2554220882],G.node [G.int 2821834349],G.node [G.int 2952996808],G.node [G.int 3210313671],G.node [G.int 3336571891],G.node [G.int 3584528711],G.node [G.int 113926993],G.node [G.int 338241895],G.node [G.int 666307205],G.node [G.int 773529912],G.node [G.int 1294757372],G.node [G.int 1396182291],G.node [G.int 1695183700],G.node [G.int 1986661051],G.node [G.int 2177026350],G.node [G.int 2456956037],G.node [G.int 2730485921],G.node [G.int 2820302411],G.node [G.int 3259730800],G.node [G.int 3345764771],G.node [G.int 3516065817],G.node [G.int 3600352804],G.node [G.int 4094571909],G.node [G.int 275423344],G.node [G.int 430227734],G.node [G.int 506948616],G.node [G.int 659060556],G.node [G.int 883997877],G.node [G.int 958139571],G.node [G.int 1322822218],G.node [G.int 1537002063],G.node [G.int 1747873779],G.node [G.int 1955562222],G.node [G.int 2024104815],G.node [G.int 2227730452],G.node [G.int 2361852424],G.node [G.int 2428436474],G.node [G.int 2756734187],G.node [G.int 3204031479],G.node [G.int 3329325298]]=KG) (λy0=>y0.s 6=z.s 1/\y0.g 2=KG/\V8.mk (y0.i 30) (y0.i 31) (y0.i 32) (y0.i 33) (y0.i 34) (y0.i 35) (y0.i 36) (y0.i 37)=gB KG (z.s 1) (UZ)/\y0.s 5=bZ (z.s 1)/\(y0.s 5).length<64) λy0=>(let v4:=(List.take 128 (y0.s 5)++List.drop (y0.s 5).length [vxn,vxn,vxn,vxn,vxn,vxn,vxn,vxn,vxn,vxn,vxn,vxn,vxn,vxn,vxn,vxn,vxn,vxn,vxn,vxn,vxn,vxn,vxn,vxn,vxn,vxn,vxn,vxn,vxn,vxn,vxn,vxn,vxn,vxn,vxn,vxn,vxn,vxn,vxn,vxn,vxn,vxn,vxn,vxn,vxn,vxn,vxn,vxn,vxn,vxn,vxn,vxn,vxn,vxn,vxn,vxn,vxn,vxn,vxn,vxn,vxn,vxn,vxn,vxn,vxn,vxn,vxn,vxn,vxn,vxn,vxn,vxn,vxn,vxn,vxn,vxn,vxn,vxn,vxn,vxn,vxn,vxn,vxn,vxn,vxn,vxn,vxn,vxn,vxn,vxn,vxn,vxn,vxn,vxn,vxn,vxn,vxn,vxn,vxn,vxn,vxn,vxn,vxn,vxn,vxn,vxn,vxn,vxn,vxn,vxn,vxn,vxn,vxn,vxn,vxn,vxn,vxn,vxn,vxn,vxn,vxn,vxn,vxn,vxn,vxn,vxn,vxn,vxn]);let v5:=(↑(Min.min (y0.s 5).length 128):Int);let v7:=((↑(y0.s 6).length:Int)%18446744073709551616 * 8%18446744073709551616);let v8:=(v4.set v5.toNat v1);let v6:=((0<v8.length/\vx/\vx/\vx/\vx/\vx/\vx/\vx/\vx/\vx/\vx/\vx/\vx/\vx/\vx/\vx/\vx/\vx/\vx/\vx/\vx/\vx/\vx/\vx/\vx/\vx/\vx/\vx/\vx/\vx/\vx/\vx/\vx/\0<(y0.g 2).length/\True));(.an (zw/\zw/\zw/\zw/\zw/\zw/\zw/\zw/\zw/\zw/\zw/\zw/\zw/\zw/\zw/\zw/\zw/\zw/\zw/\zw/\zw/\zw/\zw/\zw/\zw/\zw/\zw/\zw/\zw/\zw/\zw/\zw/\zw/\zw/\zw/\zw/\zw/\zw/\zw/\zw/\zw/\zw/\zw/\zw/\zw/\zw/\zw/\zw/\zw/\zw/\zw/\zw/\zw/\zw/\zw/\zw/\zw/\zw/\zw/\zw/\zw/\zw/\zw/\zw/\zw/\zw/\zw/\zw/\zw/\zw/\zw/\zw/\zw/\zw/\zw/\zw/\zw/\zw/\zw/\zw/\zw/\zw/\zw/\zw/\zw/\zw/\zw/\zw/\zw/\zw/\zw/\zw/\zw/\zw/\zw/\zw/\zw/\zw/\zw/\zw/\zw/\zw/\zw/\zw/\zw/\zw/\zw/\zw/\zw/\zw/\zw/\zw/\zw/\zw/\zw/\zw/\zw/\zw/\zw/\zw/\zw/\zw/\zw/\zw/\zw/\zw/\zw/\zw/\True) (.an (128=128) (.an (128=128) (.an (0<=v5/\v5<128) (.an (0<(List.take 128 (y0.s 5)++List.drop (y0.s 5).length [Int.toNat 0,vxn,vxn,vxn,vxn,vxn,vxn,vxn,vxn,vxn,vxn,vxn,vxn,vxn,vxn,vxn,vxn,vxn,vxn,vxn,vxn,vxn,vxn,vxn,vxn,vxn,vxn,vxn,vxn,vxn,vxn,vxn,vxn,vxn,vxn,vxn,vxn,vxn,vxn,vxn,vxn,vxn,vxn,vxn,vxn,vxn,vxn,vxn,vxn,vxn,vxn,vxn,vxn,vxn,vxn,vxn,vxn,vxn,vxn,vxn,vxn,vxn,vxn,vxn,vxn,vxn,vxn,vxn,vxn,vxn,vxn,vxn,vxn,vxn,vxn,vxn,vxn,vxn,vxn,vxn,vxn,vxn,vxn,vxn,vxn,vxn,vxn,vxn,vxn,vxn,vxn,vxn,vxn,vxn,vxn,vxn,vxn,vxn,vxn,vxn,vxn,vxn,vxn,vxn,vxn,vxn,vxn,vxn,vxn,vxn,vxn,vxn,vxn,vxn,vxn,vxn,vxn,vxn,vxn,vxn,vxn,vxn,vxn,vxn,vxn,vxn,vxn,vxn]).length) (.an (v5.toNat<v4.length/\(0:Int)<=128) (.two (56<=v5) (.cl v6 (y0.g 2=KG/\v8.length=128/\((128:Int)=64∨(128:Int)=128)/\zw/\(0:Int)<=8) (λy1=>y1.g 2=KG/\V8.mk (y1.i 30) (y1.i 31) (y1.i 32) (y1.i 33) (y1.i 34) (y1.i 35) (y1.i 36) (y1.i 37)=V8.mk (y0.i 30) (y0.i 31) (y0.i 32) (y0.i 33) (y0.i 34) (y0.i 35) (y0.i 36) (y0.i 37)/\y1.i 8=128/\(y1.s 7).length=128/\y1.s 7=sQ 128 v7 0 v8) λy1=>(let v9:=(List.take v1 (y1.s 7));let v10:=(List.drop (Int.toNat 64) v9);(.an (0<y1.i 8) (.an ((y1.s 7).length=128) (.an v2 (RP (sU (y1.g 2)) (List.drop v3 v9) (y1.g 2) (V8.mk (y1.i 30) (y1.i 31) (y1.i 32) (y1.i 33) (y1.i 34) (y1.i 35) (y1.i 36) (y1.i 37)) λy2=>(.an (64<y1.i 8) (.an ((y1.s 7).length=128) (.an ((0:Int)<=64/\(64:Int)<=128/\(128:Int)<=128) (RP (sU (y2.g 2)) v10 (y2.g 2) (V8.mk (y2.i 30) (y2.i 31) (y2.i 32) (y2.i 33) (y2.i 34) (y2.i 35) (y2.i 36) (y2.i 37)) λy3=>(.an (¬(128<y1.i 8)) (.an (y3.i 37%256=hb v0 (nat_lit 31)/\y3.i 37/256%256=hb v0 (nat_lit 30)/\y3.i 37/65536%256=hb v0 (nat_lit 29)/\y3.i 37/16777216%256=hb v0 (nat_lit 28)/\y3.i 36%256=hb v0 (nat_lit 27)/\y3.i 36/256%256=hb v0 (nat_lit 26)/\y3.i 36/65536%256=hb v0 (nat_lit 25)/\y3.i 36/16777216%256=hb v0 (nat_lit 24)/\y3.i 35%256=hb v0 (nat_lit 23)/\y3.i 35/256%256=hb v0 (nat_lit 22)/\y3.i 35/65536%256=hb v0 (nat_lit 21)/\y3.i 35/16777216%256=hb v0 (nat_lit 20)/\y3.i 34%256=hb v0 (nat_lit 19)/\y3.i 34/256%256=hb v0 (nat_lit 18)/\y3.i 34/65536%256=hb v0 (nat_lit 17)/\y3.i 34/16777216%256=hb v0 (nat_lit 16)/\y3.i 33%256=hb v0 (nat_lit 15)/\y3.i 33/256%256=hb v0 (nat_lit 14)/\y3.i 33/65536%256=hb v0 (nat_lit 13)/\y3.i 33/16777216%256=hb v0 (nat_lit 12)/\y3.i 32%256=hb v0 (nat_lit 11)/\y3.i 32/256%256=hb v0 (nat_lit 10)/\y3.i 32/65536%256=hb v0 (nat_lit 9)/\y3.i 32/16777216%256=hb v0 (nat_lit 8)/\y3.i 31%256=hb v0 (nat_lit 7)/\y3.i 31/256%256=hb v0 (nat_lit 6)/\y3.i 31/65536%256=hb v0 (nat_lit 5)/\y3.i 31/16777216%256=hb v0 (nat_lit 4)/\y3.i 30%256=hb v0 (nat_lit 3)/\y3.i 30/256%256=hb v0 (nat_lit 2)/\y3.i 30/65536%256=hb v0 (nat_lit 1)/\y3.i 30/16777216%256=hb v0 (nat_lit 0)/\True) (.at (True)))))))))))))) (.cl v6 (y0.g 2=KG/\v8.length=128/\((64:Int)=64∨(64:Int)=128)/\zw/\(0:Int)<=8) (λy4=>y4.g 2=KG/\V8.mk (y4.i 30) (y4.i 31) (y4.i 32) (y4.i 33) (y4.i 34) (y4.i 35) (y4.i 36) (y4.i 37)=V8.mk (y0.i 30) (y0.i 31) (y0.i 32) (y0.i 33) (y0.i 34) (y0.i 35) (y0.i 36) (y0.i 37)/\y4.i 8=64/\(y4.s 7).length=128/\y4.s 7=sQ 64 v7 0 v8) λy4=>(let v11:=(List.drop v3 (List.take v1 (y4.s 7)));(.an (0<y4.i 8) (.an ((y4.s 7).length=128) (.an v2 (RP (sU (y4.g 2)) v11 (y4.g 2) (V8.mk (y4.i 30) (y4.i 31) (y4.i 32) (y4.i 33) (y4.i 34) (y4.i 35) (y4.i 36) (y4.i 37)) λy5=>(.an (¬(64<y4.i 8)) (.an (y5.i 37%256=hb v0 (nat_lit 31)/\y5.i 37/256%256=hb v0 (nat_lit 30)/\y5.i 37/65536%256=hb v0 (nat_lit 29)/\y5.i 37/16777216%256=hb v0 (nat_lit 28)/\y5.i 36%256=hb v0 (nat_lit 27)/\y5.i 36/256%256=hb v0 (nat_lit 26)/\y5.i 36/65536%256=hb v0 (nat_lit 25)/\y5.i 36/16777216%256=hb v0 (nat_lit 24)/\y5.i 35%256=hb v0 (nat_lit 23)/\y5.i 35/256%256=hb v0 (nat_lit 22)/\y5.i 35/65536%256=hb v0 (nat_lit 21)/\y5.i 35/16777216%256=hb v0 (nat_lit 20)/\y5.i 34%256=hb v0 (nat_lit 19)/\y5.i 34/256%256=hb v0 (nat_lit 18)/\y5.i 34/65536%256=hb v0 (nat_lit 17)/\y5.i 34/16777216%256=hb v0 (nat_lit 16)/\y5.i 33%256=hb v0 (nat_lit 15)/\y5.i 33/256%256=hb v0 (nat_lit 14)/\y5.i 33/65536%256=hb v0 (nat_lit 13)/\y5.i 33/16777216%256=hb v0 (nat_lit 12)/\y5.i 32%256=hb v0 (nat_lit 11)/\y5.i 32/256%256=hb v0 (nat_lit 10)/\y5.i 32/65536%256=hb v0 (nat_lit 9)/\y5.i 32/16777216%256=hb v0 (nat_lit 8)/\y5.i 31%256=hb v0 (nat_lit 7)/\y5.i 31/256%256=hb v0 (nat_lit 6)/\y5.i 31/65536%256=hb v0 (nat_lit 5)/\y5.i 31/16777216%256=hb v0 (nat_lit 4)/\y5.i 30%256=hb v0 (nat_lit 3)/\y5.i 30/256%256=hb v0 (nat_lit 2)/\y5.i 30/65536%256=hb v0 (nat_lit 1)/\y5.i 30/16777216%256=hb v0 (nat_lit 0)/\True) (.at (True))))))))))))))))))))) by
 dsimp only [W1] at hA;have e5:KG.length=64:=rfl;conv=>zeta
 repeat' with_reducible first|intro _|apply cd|apply ck|apply cg|apply cE|apply cr
 all_goals first|omega|rfl|((repeat' first|exact rfl|exact trivial|exact Int.le_refl _|exact(by decide)|refine And.intro ?_ ?_);done)|(rw[←MA (by assumption) (by assumption) (by assumption) (by assumption) (by assumption)];(repeat' first|exact rfl|exact trivial|refine And.intro ?_ ?_);done)|(rw[←MB (by assumption) (by assumption) (by assumption) (by assumption)];(repeat' first|exact rfl|exact trivial|refine And.intro ?_ ?_);done)|((obtain⟨e7,e8,e9⟩:=WZ (by assumption);unfold ZB at e7;(repeat' first|exact trivial|refine And.intro ?_ ?_) <;> first|exact W0 (by assumption)|(simp only [List.length_set,e7,e8] <;> omega)|omega);done)|grind [ao,ak,aj,List.append_assoc,List.length_append,List.length_cons,List.length_nil,List.append_cancel_left_eq,List.cons.injEq]
noncomputable section
def z8:List Sh:=List.replicate 8 (.pi .u32 0)
def RS:List BSh:=[.cells 105 QP,.arr 9 106 1,.arr 9 106 2,.cells 105 z8]
def bkT:List (Nat×Sa):=[(2,.c (.p 1)),(3,.c (.p 0)),(6,.c (.p 3)),(7,.c (.p 2))]
def MN(p:Sy):LSpec:=⟨[(2,.c (.p 1)),(3,.c (.p 0)),(6,.c (.p 3)),(7,.c (.p 2)),(1,.c (.vb 3)),(8,.c (.i .i64 20))],RS,λz=>64<=(z.s 3).length/\(z.g 1).length=64/\(z.g 2).length=64/\0<=z.i 20/\z.i 20<=16,λz=>(16-z.i 20).toNat,[⟨.exit 0,bkT,RS⟩],λz y=>v8 y=v8 z/\y.g 1=z.g 1/\(y.g 2).length=64/\y.g 2=xO (z.s 3) (16-z.i 20).toNat (z.i 20) (z.g 2),none,[]⟩
def MO(p:Sy):LSpec:=⟨[(2,.c (.p 1)),(3,.c (.p 0)),(6,.c (.p 3)),(7,.c (.p 2)),(9,.c (.i .i64 8))],RS,λz=>(z.g 1).length=64/\(z.g 2).length=64/\16<=z.i 8/\z.i 8<=64,λz=>(64-z.i 8).toNat,[⟨.exit 2,bkT,RS⟩],λz y=>v8 y=v8 z/\y.g 1=z.g 1/\(y.g 2).length=64/\y.g 2=Dx (64-z.i 8).toNat (z.i 8) (z.g 2),none,[]⟩
def U0:List BSh:=[.cells 105 QP,.arr 9 106 1,.arr 9 106 2,.cells 105 z8,.cells 105 Z8]
def bkT2:List (Nat×Sa):=[(2,.c (.p 1)),(3,.c (.p 0)),(6,.c (.p 3)),(7,.c (.p 2)),(12,.c (.p 4))]
def MP(p:Sy):LSpec:=⟨[(2,.c (.p 1)),(3,.c (.p 0)),(6,.c (.p 3)),(7,.c (.p 2)),(12,.c (.p 4)),(13,.c (.i .i64 77))],U0,λz=>(z.g 1).length=64/\(z.g 2).length=64/\0<=z.i 77/\z.i 77<=64,λz=>(64-z.i 77).toNat,[⟨.exit 4,bkT2,U0⟩],λz y=>v8 y=v8 z/\y.g 1=z.g 1/\FL y=CH (z.g 1) (z.g 2) (64-z.i 77).toNat (z.i 77) (FL z),none,[]⟩
def aaa:FSpec:=⟨[.ag QP,.c (.vb 1),.c (.p 0)],[.arr 9 106 2],λz=>64<=(z.s 1).length/\(z.g 2).length=64,λz=>.one (.ag (sp8 (pw (z.g 2) (z.s 1) (v8 z)))),λz=>[.arr 9 106 2],λz y=>y.g 2=z.g 2,none⟩
end
abbrev MQ(a:Prop)(b c:List G):=a/\a/\a/\a/\a/\a/\a/\a/\0<b.length/\0<c.length/\True
def RT:bH 38 0 MN:=bG 11 174761 eN lN λp z hA=>show Fm.den (let vx:=(0:Int)=0;let v0:=((z.g 2).set (z.i 20).toNat (sT (IntKind.u32.wrap (Int.ofNat ((aE (b_) (sR (Int.ofNat ((aE (b_) (eO (Int.ofNat ((aE (b_) ((↑((z.s 3).getD (4 * z.i 20).toNat 0):Int)%4294967296 * 16777216%4294967296)).lor (aE (b_) ((↑((z.s 3).getD (4 * z.i 20+1).toNat 0):Int)%4294967296 * 65536%4294967296)))))).lor (aE (b_) ((↑((z.s 3).getD (4 * z.i 20+2).toNat 0):Int)%4294967296 * 256%4294967296)))))).lor (aE (b_) ((↑((z.s 3).getD (4 * z.i 20+3).toNat 0):Int)%4294967296)))))));let v1:=((-9223372036854775808)<=4 * z.i 20/\4 * z.i 20<=9223372036854775807);let v2:=(↑(z.s 3).length:Int);(.two (z.i 20<16) (.an v1 (.an (0<=4 * z.i 20/\4 * z.i 20<v2) (.an v1 (.an ((-9223372036854775808)<=4 * z.i 20+1/\4 * z.i 20+1<=9223372036854775807) (.an (0<=4 * z.i 20+1/\4 * z.i 20+1<v2) (.an v1 (.an ((-9223372036854775808)<=4 * z.i 20+2/\4 * z.i 20+2<=9223372036854775807) (.an (0<=4 * z.i 20+2/\4 * z.i 20+2<v2) (.an v1 (.an ((-9223372036854775808)<=4 * z.i 20+3/\4 * z.i 20+3<=9223372036854775807) (.an (0<=4 * z.i 20+3/\4 * z.i 20+3<v2) (.an (vP (z.i 20)) (.an (mb (z.g 2)) (.an (uA (z.i 20) (z.g 2)) (.an ((-9223372036854775808)<=z.i 20+1/\z.i 20+1<=9223372036854775807) (.an (vx/\vx/\vx/\vx/\vx/\vx/\vx/\vx/\0<v0.length/\0<(z.g 1).length/\True) (.at ((64<=(z.s 3).length/\(z.g 1).length=64/\v0.length=64/\0<=z.i 20+1/\z.i 20+1<=16)/\((16:Int)-(z.i 20+1)).toNat<(16-z.i 20).toNat/\∀(y:Sy),V8.mk (y.i 30) (y.i 31) (y.i 32) (y.i 33) (y.i 34) (y.i 35) (y.i 36) (y.i 37)=V8.mk (z.i 30) (z.i 31) (z.i 32) (z.i 33) (z.i 34) (z.i 35) (z.i 36) (z.i 37)/\y.g 1=z.g 1/\(y.g 2).length=64/\y.g 2=xO (z.s 3) (16-(z.i 20+1)).toNat (z.i 20+1) v0->V8.mk (y.i 30) (y.i 31) (y.i 32) (y.i 33) (y.i 34) (y.i 35) (y.i 36) (y.i 37)=V8.mk (z.i 30) (z.i 31) (z.i 32) (z.i 33) (z.i 34) (z.i 35) (z.i 36) (z.i 37)/\y.g 1=z.g 1/\(y.g 2).length=64/\y.g 2=xO (z.s 3) (16-z.i 20).toNat (z.i 20) (z.g 2))))))))))))))))))) (.an (MQ vx (z.g 2) (z.g 1)) (.at (V8.mk (z.i 30) (z.i 31) (z.i 32) (z.i 33) (z.i 34) (z.i 35) (z.i 36) (z.i 37)=V8.mk (z.i 30) (z.i 31) (z.i 32) (z.i 33) (z.i 34) (z.i 35) (z.i 36) (z.i 37)/\z.g 1=z.g 1/\(z.g 2).length=64/\z.g 2=xO (z.s 3) (16-z.i 20).toNat (z.i 20) (z.g 2)))))) by
 dsimp only [MN,v8] at hA;have e2:=@A8 (z.s 3) (z.i 20) (z.g 2);have:=@FI (z.s 3) (z.i 20) (z.g 2);dsimp only [uz,UQ,Za,kT,Mw] at e2;conv=>zeta
 repeat' with_reducible first|intro _|apply cd|apply ck|apply cg|apply cE|apply cr
 all_goals first|omega|grind [ao,ak,aj,List.append_assoc,List.length_append,List.length_cons,List.length_nil,List.append_cancel_left_eq,List.cons.injEq,uz]
def RU:bH 38 2 MO:=bG 8 2729 (ai FU eN) lN λp z hA=>show Fm.den (let vx:=(0:Int)=0;let v0:=((z.g 2).set (z.i 8).toNat (sT ((((gI (aQ (aL (z.g 2) (z.i 8-16)))+IntKind.u32.wrap (Int.ofNat ((aE (b_) (eO (Int.ofNat ((aE (b_) (lM (gI (aQ (aL (z.g 2) (z.i 8-15)))) 7)).xor (aE (b_) (lM (gI (aQ (aL (z.g 2) (z.i 8-15)))) 18)))))).xor (aE (b_) (gI (aQ (aL (z.g 2) (z.i 8-15)))/8)))))%4294967296+gI (aQ (aL (z.g 2) (z.i 8-7))))%4294967296+IntKind.u32.wrap (Int.ofNat ((aE (b_) (eO (Int.ofNat ((aE (b_) (lM (gI (aQ (aL (z.g 2) (z.i 8-2)))) 17)).xor (aE (b_) (lM (gI (aQ (aL (z.g 2) (z.i 8-2)))) 19)))))).xor (aE (b_) (gI (aQ (aL (z.g 2) (z.i 8-2)))/1024)))))%4294967296)));let v1:=(mb (z.g 2));let v2:=((64:Int)-(z.i 8+1));(.two (z.i 8<64) (.an ((-9223372036854775808)<=z.i 8-15/\z.i 8-15<=9223372036854775807) (.an (0<=z.i 8-15/\z.i 8-15<64) (.an v1 (.an (eB (z.i 8-15) (z.g 2)) (.an ((-9223372036854775808)<=z.i 8-2/\z.i 8-2<=9223372036854775807) (.an (0<=z.i 8-2/\z.i 8-2<64) (.an v1 (.an (eB (z.i 8-2) (z.g 2)) (.an ((-9223372036854775808)<=z.i 8-16/\z.i 8-16<=9223372036854775807) (.an (0<=z.i 8-16/\z.i 8-16<64) (.an v1 (.an (eB (z.i 8-16) (z.g 2)) (.ct ((0:Int)<=7) (λy0=>True) λy0=>(.ct ((0:Int)<=18) (λy1=>True) λy1=>(.an ((-9223372036854775808)<=z.i 8-7/\z.i 8-7<=9223372036854775807) (.an (0<=z.i 8-7/\z.i 8-7<64) (.an v1 (.an (eB (z.i 8-7) (z.g 2)) (.ct ((0:Int)<=17) (λy2=>True) λy2=>(.ct ((0:Int)<=19) (λy3=>True) λy3=>(.an (vP (z.i 8)) (.an v1 (.an (uA (z.i 8) (z.g 2)) (.an ((-9223372036854775808)<=z.i 8+1/\z.i 8+1<=9223372036854775807) (.an (vx/\vx/\vx/\vx/\vx/\vx/\vx/\vx/\0<v0.length/\0<(z.g 1).length/\True) (.at (((z.g 1).length=64/\v0.length=64/\16<=z.i 8+1/\z.i 8+1<=64)/\v2.toNat<(64-z.i 8).toNat/\∀(y:Sy),V8.mk (y.i 30) (y.i 31) (y.i 32) (y.i 33) (y.i 34) (y.i 35) (y.i 36) (y.i 37)=V8.mk (z.i 30) (z.i 31) (z.i 32) (z.i 33) (z.i 34) (z.i 35) (z.i 36) (z.i 37)/\y.g 1=z.g 1/\(y.g 2).length=64/\y.g 2=Dx v2.toNat (z.i 8+1) v0->V8.mk (y.i 30) (y.i 31) (y.i 32) (y.i 33) (y.i 34) (y.i 35) (y.i 36) (y.i 37)=V8.mk (z.i 30) (z.i 31) (z.i 32) (z.i 33) (z.i 34) (z.i 35) (z.i 36) (z.i 37)/\y.g 1=z.g 1/\(y.g 2).length=64/\y.g 2=Dx (64-z.i 8).toNat (z.i 8) (z.g 2)))))))))))))))))))))))))))) (.an (MQ vx (z.g 2) (z.g 1)) (.at (V8.mk (z.i 30) (z.i 31) (z.i 32) (z.i 33) (z.i 34) (z.i 35) (z.i 36) (z.i 37)=V8.mk (z.i 30) (z.i 31) (z.i 32) (z.i 33) (z.i 34) (z.i 35) (z.i 36) (z.i 37)/\z.g 1=z.g 1/\(z.g 2).length=64/\z.g 2=Dx (64-z.i 8).toNat (z.i 8) (z.g 2)))))) by dsimp only [MO,v8] at hA;have e2:=@A9 (z.i 8) (z.g 2);have:=@FJ (z.i 8) (z.g 2);dsimp only [uz,wNx,uy,cY] at e2;exact A5
def RV:bH 38 4 MP:=bG 4 9 (ai FU eN) lN λp z hA=>show Fm.den (let vx:=(0:Int)=0;let v1:=(b_);let v0:=((((z.i 47+IntKind.u32.wrap (Int.ofNat ((aE v1 (eO (Int.ofNat ((aE v1 (lM (z.i 44) 6)).xor (aE v1 (lM (z.i 44) 11)))))).xor (aE v1 (lM (z.i 44) 25)))))%4294967296+IntKind.u32.wrap (Int.ofNat ((aE v1 (eO (Int.ofNat ((aE v1 (z.i 44)).land (aE v1 (z.i 45)))))).xor (aE v1 (sR (Int.ofNat ((aE v1 (eO (Int.ofNat ((aE v1 (RO (-1))).xor (aE v1 (z.i 44)))))).land (aE v1 (z.i 46)))))))))%4294967296+gI (aQ (aL (z.g 1) (z.i 77))))%4294967296+gI (aQ (aL (z.g 2) (z.i 77))));let v2:=(MQ vx (z.g 2) (z.g 1));let v3:=(V8.mk (z.i 40) (z.i 41) (z.i 42) (z.i 43) (z.i 44) (z.i 45) (z.i 46) (z.i 47));let v4:=(vP (z.i 77));let v5:=((64:Int)-(z.i 77+1));(.two (z.i 77<64) (.ct ((0:Int)<=6) (λy0=>True) λy0=>(.ct ((0:Int)<=11) (λy1=>True) λy1=>(.ct ((0:Int)<=25) (λy2=>True) λy2=>(.an v4 (.an (mb (z.g 1)) (.an (eB (z.i 77) (z.g 1)) (.an v4 (.an (mb (z.g 2)) (.an (eB (z.i 77) (z.g 2)) (.ct ((0:Int)<=2) (λy3=>True) λy3=>(.ct ((0:Int)<=13) (λy4=>True) λy4=>(.ct ((0:Int)<=22) (λy5=>True) λy5=>(.an ((-9223372036854775808)<=z.i 77+1/\z.i 77+1<=9223372036854775807) (.an v2 (.at (((z.g 1).length=64/\(z.g 2).length=64/\0<=z.i 77+1/\z.i 77+1<=64)/\v5.toNat<(64-z.i 77).toNat/\∀(y:Sy),V8.mk (y.i 30) (y.i 31) (y.i 32) (y.i 33) (y.i 34) (y.i 35) (y.i 36) (y.i 37)=V8.mk (z.i 30) (z.i 31) (z.i 32) (z.i 33) (z.i 34) (z.i 35) (z.i 36) (z.i 37)/\y.g 1=z.g 1/\V8.mk (y.i 40) (y.i 41) (y.i 42) (y.i 43) (y.i 44) (y.i 45) (y.i 46) (y.i 47)=CH (z.g 1) (z.g 2) v5.toNat (z.i 77+1) (V8.mk ((v0%4294967296+(IntKind.u32.wrap (Int.ofNat ((aE v1 (eO (Int.ofNat ((aE v1 (lM (z.i 40) 2)).xor (aE v1 (lM (z.i 40) 13)))))).xor (aE v1 (lM (z.i 40) 22))))+IntKind.u32.wrap (Int.ofNat ((aE v1 (sR (Int.ofNat ((aE v1 (eO (Int.ofNat ((aE v1 (z.i 40)).land (aE v1 (z.i 41)))))).xor (aE v1 (eO (Int.ofNat ((aE v1 (z.i 40)).land (aE v1 (z.i 42)))))))))).xor (aE v1 (eO (Int.ofNat ((aE v1 (z.i 41)).land (aE v1 (z.i 42)))))))))%4294967296)%4294967296) (z.i 40) (z.i 41) (z.i 42) ((z.i 43+v0%4294967296)%4294967296) (z.i 44) (z.i 45) (z.i 46))->V8.mk (y.i 30) (y.i 31) (y.i 32) (y.i 33) (y.i 34) (y.i 35) (y.i 36) (y.i 37)=V8.mk (z.i 30) (z.i 31) (z.i 32) (z.i 33) (z.i 34) (z.i 35) (z.i 36) (z.i 37)/\y.g 1=z.g 1/\V8.mk (y.i 40) (y.i 41) (y.i 42) (y.i 43) (y.i 44) (y.i 45) (y.i 46) (y.i 47)=CH (z.g 1) (z.g 2) (64-z.i 77).toNat (z.i 77) v3)))))))))))))))) (.an v2 (.at (V8.mk (z.i 30) (z.i 31) (z.i 32) (z.i 33) (z.i 34) (z.i 35) (z.i 36) (z.i 37)=V8.mk (z.i 30) (z.i 31) (z.i 32) (z.i 33) (z.i 34) (z.i 35) (z.i 36) (z.i 37)/\z.g 1=z.g 1/\V8.mk (z.i 40) (z.i 41) (z.i 42) (z.i 43) (z.i 44) (z.i 45) (z.i 46) (z.i 47)=CH (z.g 1) (z.g 2) (64-z.i 77).toNat (z.i 77) v3))))) by dsimp only [MP,v8,FL] at hA;have e2:=@A_ (z.g 1) (z.g 2) (z.i 77) (FL z);have e3:=@FK (z.g 1) (z.g 2) (z.i 77) (FL z);dsimp only [FL,eK,rt,ru,uy,cY,iX,A7] at e2 e3;exact A5
def aab:bj 38 aaa:=bB 1 0 eN (aG (ptm:=[]) RT (aG (ptm:=[]) RU (aG (ptm:=[]) RV lN))) λz hA=>show Fm.den (let vx:=(0:Int)=0;let vxg:=G.node [G.int 0];let v0:=(pw (z.g 2) (z.s 1) (V8.mk (z.i 30) (z.i 31) (z.i 32) (z.i 33) (z.i 34) (z.i 35) (z.i 36) (z.i 37)));(.an (64=64/bm (cU 9)) (Z_ (vx/\vx/\vx/\vx/\vx/\vx/\vx/\vx/\0<64/\0<(z.g 2).length/\True) (z.s 1) (z.g 2) (z.i 30) (z.i 31) (z.i 32) (z.i 33) (z.i 34) (z.i 35) (z.i 36) (z.i 37) ((16:Int)-0) vxg λy0=>(UX (MQ vx (y0.g 2) (y0.g 1)) (y0.g 1) (y0.g 2) (y0.i 30) (y0.i 31) (y0.i 32) (y0.i 33) (y0.i 34) (y0.i 35) (y0.i 36) (y0.i 37) ((64:Int)-16) λy1=>(.cl ((MQ vx (y1.g 2) (y1.g 1))) ((y1.g 1).length=64/\(y1.g 2).length=64/\(0:Int)<=0/\(0:Int)<=64) (λy2=>V8.mk (y2.i 30) (y2.i 31) (y2.i 32) (y2.i 33) (y2.i 34) (y2.i 35) (y2.i 36) (y2.i 37)=V8.mk (y1.i 30) (y1.i 31) (y1.i 32) (y1.i 33) (y1.i 34) (y1.i 35) (y1.i 36) (y1.i 37)/\y2.g 1=y1.g 1/\V8.mk (y2.i 40) (y2.i 41) (y2.i 42) (y2.i 43) (y2.i 44) (y2.i 45) (y2.i 46) (y2.i 47)=CH (y1.g 1) (y1.g 2) ((64:Int)-0).toNat 0 (V8.mk (y1.i 30) (y1.i 31) (y1.i 32) (y1.i 33) (y1.i 34) (y1.i 35) (y1.i 36) (y1.i 37))) λy2=>(.an (0<(y2.g 1).length/\(y2.i 37+y2.i 47)%4294967296=v0.h/\(y2.i 36+y2.i 46)%4294967296=v0.g/\(y2.i 35+y2.i 45)%4294967296=v0.f/\(y2.i 34+y2.i 44)%4294967296=v0.e/\(y2.i 33+y2.i 43)%4294967296=v0.d/\(y2.i 32+y2.i 42)%4294967296=v0.c/\(y2.i 31+y2.i 41)%4294967296=v0.b/\(y2.i 30+y2.i 40)%4294967296=v0.a/\True) (.at (y2.g 1=z.g 2)))))))) by
 dsimp only [aaa,v8] at hA;conv=>zeta
 repeat' with_reducible first|intro _|apply cd|apply ck|apply cg|apply cE|apply cr
 all_goals first|omega|rfl|((repeat' first|exact rfl|exact trivial|exact Int.le_refl _|exact(by decide)|refine And.intro ?_ ?_);done)|(exact(sO (by assumption) (by assumption) (by assumption)).1)|(have k:=sO (by assumption) (by assumption) (by assumption);refine And.intro (by rw[k.1];omega) ?_;rw[←k.2];(repeat' first|exact rfl|exact trivial|refine And.intro ?_ ?_);done)|grind [ao,ak,aj,List.append_assoc,List.length_append,List.length_cons,List.length_nil,List.append_cancel_left_eq,List.cons.injEq]
noncomputable section
def vQ(l:List Nat):Nat:=(120-l.length%64)%64
def pdK:Nat->List Nat->List Nat
 |0,l=>l
 |k+1,l=>pdK k (l++ [0])
def Jp(l:List Nat):List Nat:=pdK (vQ l) l
def MS{l:List Nat}(h:(l.length:Int)%64≠56):Jp l=Jp (l++ [0])/\vQ l=vQ (l++ [0])+1:=by
 have e:vQ l=vQ (l++ [0])+1:=by unfold vQ;rw[aai];simp only [aaI];omega
 refine⟨?_,e⟩;unfold Jp;rw[e];rfl
def RX{l:List Nat}(h:(l.length:Int)%64=56):Jp l=l:=by unfold Jp;rw[show vQ l=0 by unfold vQ;omega];rfl
def W3(l:List Nat):vQ l<=63:=by unfold vQ;omega
def itE(d:Int):Nat->Int->List Nat->List Nat
 |0,_,l=>l
 |k+1,i,l=>itE d k (i-1) (l++ [((d/((2 ^ min (8 * i%18446744073709551616).toNat (bh .u64):Nat):Int))%256).toNat])
def nY(d i:Int)(l:List Nat):List Nat:=itE d (i+1).toNat i l
def Jq{d i:Int}{l:List Nat}(h:0<=i):nY d i l=nY d (i-1) (l++ [((d/((2 ^ min (8 * i%18446744073709551616).toNat (bh .u64):Nat):Int))%256).toNat]):=by unfold nY;rw[show(i+1).toNat=(i-1+1).toNat+1 by omega];rfl
def MT{d i:Int}{l:List Nat}(h:i<0):nY d i l=l:=by unfold nY;rw[show(i+1).toNat=0 by omega];rfl
def itB(m:List Nat):Nat->Int->V8->V8
 |0,_,v=>v
 |k+1,i,v=>itB m k (i+64) (pw KG ((m.take (i+64).toNat).drop i.toNat) v)
def nZ(m:List Nat)(i:Int)(v:V8):V8:=itB m (((m.length:Int)-i+63)/64).toNat i v
def Jr{m:List Nat}{i:Int}{v:V8}(h:i<m.length):nZ m i v=nZ m (i+64) (pw KG ((m.take (i+64).toNat).drop i.toNat) v):=by unfold nZ;rw[show(((m.length:Int)-i+63)/64).toNat=(((m.length:Int)-(i+64)+63)/64).toNat+1 by omega];rfl
def MU{m:List Nat}{i:Int}{v:V8}(h:(m.length:Int)<=i):nZ m i v=v:=by unfold nZ;rw[show(((m.length:Int)-i+63)/64).toNat=0 by omega];rfl
def FW:List BSh:=[.cells 28 z32,.growb 5 7]
def MV(p:Sy):LSpec:=⟨[(0,.c (.vb 6)),(2,.c (.p 0)),(3,.c (.gb 1 7))],FW,λz=>(z.s 7).length+vQ (z.s 7)<=900000100,λz=>vQ (z.s 7),[⟨.exit 0,[(0,.c (.vb 6)),(2,.c (.p 0)),(3,.c (.gb 1 7))],FW⟩],λz y=>y.s 6=z.s 6/\y.s 7=Jp (z.s 7)/\(y.s 7).length<=900000100/\((y.s 7).length:Int)%64=56,none,[]⟩
def MW(p:Sy):LSpec:=⟨[(2,.c (.p 0)),(3,.c (.gb 1 7)),(4,.c (.i .u64 9)),(5,.c (.i .i64 20))],FW,λz=>0-1<=z.i 20/\z.i 20<=7/\((z.s 7).length:Int)+z.i 20<=900000200,λz=>(z.i 20+1).toNat,[⟨.exit 2,[(2,.c (.p 0)),(3,.c (.gb 1 7))],FW⟩],λz y=>y.s 7=nY (z.i 9) (z.i 20) (z.s 7)/\((y.s 7).length:Int)=(z.s 7).length+z.i 20+1,none,[]⟩
def MX:List BSh:=[.cells 28 z32,.cells 105 QP,.arr 9 106 2]
def W4(p:Sy):LSpec:=⟨[(2,.c (.p 0)),(3,.c (.vb 7)),(6,.c (.p 1)),(7,.c (.p 2)),(8,.c (.i .i64 8))],MX,λz=>z.g 2=KG/\(z.s 7).length<=900000200/\((z.s 7).length:Int)%64=0/\0<=z.i 8/\z.i 8<=(z.s 7).length/\z.i 8%64=0,λz=>((z.s 7).length-z.i 8).toNat,[⟨.exit 4,[(2,.c (.p 0)),(6,.c (.p 1))],MX⟩],λz y=>v8 y=nZ (z.s 7) (z.i 8) (v8 z),none,[]⟩
def eD(s:List Nat):V8:=nZ (nY ((s.length:Int)%18446744073709551616 * 8%18446744073709551616) 7 (Jp (s++ [128]))) 0 V0
def RY{z y0 y1 y2:Sy}{p q:Prop}(h0:y0.s 6=z.s 1/\y0.s 7=Jp ([]++z.s 1++ [Int.toNat 128])/\p)(h1:y1.s 7=nY (((y0.s 6).length:Int)%18446744073709551616 * 8%18446744073709551616) 7 (y0.s 7)/\q)(h2:v8 y2=nZ (y1.s 7) 0 V0):v8 y2=eD (z.s 1):=by rw[h2,h1.1,h0.2.1,h0.1];rfl
def Ssm2:FSpec:=⟨[.c (.vb 1)],[],λz=>(z.s 1).length<=1000000,λz=>.one (.ag (h32 (eD (z.s 1)))),λ_=>[],λz y=>True,none⟩
end
abbrev W5(a:List Nat)(b:Prop):=a.length=a.length/\b/\b/\b/\b/\b/\b/\b/\b/\b/\b/\b/\b/\b/\b/\b/\b/\b/\b/\b/\b/\b/\b/\b/\b/\b/\b/\b/\b/\b/\b/\b/\b/\True
abbrev U1(a b:List Nat)(c:Prop):=a.length=b.length+1/\c/\c/\c/\c/\c/\c/\c/\c/\c/\c/\c/\c/\c/\c/\c/\c/\c/\c/\c/\c/\c/\c/\c/\c/\c/\c/\c/\c/\c/\c/\c/\c/\True
abbrev U2(a:List Nat):=a.length=a.length/\a.length<=1000000000/\(0:Int)<=0/\True
def RZ:bH 14 0 MV:=bG 4 6 eN lN λp z hA=>show Fm.den (let vx:=(0:Int)=0;let v0:=(z.s 7++ [Int.toNat 0]);let v1:=(↑(z.s 7).length:Int);(.an ((64:Int)≠0) (.an (0<=v1/\(0:Int)<64) (.two (v1%64≠56) (.an (U2 (z.s 7)) (.an (U1 v0 (z.s 7) vx) (.at (v0.length+vQ v0<=900000100/\vQ v0<vQ (z.s 7)/\∀(y:Sy),y.s 6=z.s 6/\y.s 7=Jp v0/\(y.s 7).length<=900000100/\(↑(y.s 7).length:Int)%64=56->y.s 6=z.s 6/\y.s 7=Jp (z.s 7)/\(y.s 7).length<=900000100/\(↑(y.s 7).length:Int)%64=56)))) (.an (W5 (z.s 7) vx) (.at (z.s 6=z.s 6/\z.s 7=Jp (z.s 7)/\(z.s 7).length<=900000100/\v1%64=56))))))) by dsimp only [MV] at hA;have:=@MS (z.s 7);have:=@RX (z.s 7);exact A5
def R0:bH 14 2 MW:=bG 5 41 eN lN λp z hA=>show Fm.den (let vx:=(0:Int)=0;let v0:=(z.s 7++ [(z.i 9/(↑(2 ^ Min.min (8 * z.i 20%18446744073709551616).toNat (FV)):Int)%256).toNat]);let v1:=(↑(z.s 7).length:Int);(.two (0<=z.i 20) (.an ((-9223372036854775808)<=8 * z.i 20/\8 * z.i 20<=9223372036854775807) (.an (0<=8 * z.i 20%18446744073709551616) (.an ((z.s 7).length=(z.s 7).length/\(z.s 7).length<=1000000000/\0<=z.i 9/(↑(2 ^ Min.min (8 * z.i 20%18446744073709551616).toNat (FV)):Int)%256/\True) (.an ((-9223372036854775808)<=z.i 20-1/\z.i 20-1<=9223372036854775807) (.an (U1 v0 (z.s 7) vx) (.at ((0-1<=z.i 20-1/\z.i 20-1<=7/\(↑v0.length:Int)+(z.i 20-1)<=900000200)/\(z.i 20-1+1).toNat<(z.i 20+1).toNat/\∀(y:Sy),y.s 7=nY (z.i 9) (z.i 20-1) v0/\(↑(y.s 7).length:Int)=(↑v0.length:Int)+(z.i 20-1)+1->y.s 7=nY (z.i 9) (z.i 20) (z.s 7)/\(↑(y.s 7).length:Int)=v1+z.i 20+1))))))) (.an (W5 (z.s 7) vx) (.at (z.s 7=nY (z.i 9) (z.i 20) (z.s 7)/\v1=v1+z.i 20+1))))) by dsimp only [MW] at hA;have:=@Jq (z.i 9) (z.i 20) (z.s 7);have:=@MT (z.i 9) (z.i 20) (z.s 7);exact A5
abbrev U3(a:List G)(b:Prop):=0<a.length/\b/\b/\b/\b/\b/\b/\b/\b/\b/\b/\b/\b/\b/\b/\b/\b/\b/\b/\b/\b/\b/\b/\b/\b/\b/\b/\b/\b/\b/\b/\b/\b/\True
def R1:bH 14 4 W4:=bG 5 41 (ai aab eN) lN λp z hA=>show Fm.den (let vx:=(0:Int)=0;let v1:=(V8.mk (z.i 30) (z.i 31) (z.i 32) (z.i 33) (z.i 34) (z.i 35) (z.i 36) (z.i 37));let v2:=((-9223372036854775808)<=z.i 8+64/\z.i 8+64<=9223372036854775807);let v3:=(↑(z.s 7).length:Int);let v4:=(z.i 8+64);let v0:=(pw (z.g 2) (List.drop (z.i 8).toNat (List.take v4.toNat (z.s 7))) v1);(.two (z.i 8 < ↑(z.s 7).length) (.an v2 (.an (0<=z.i 8/\z.i 8<=z.i 8+64/\z.i 8+64<= ↑(z.s 7).length) (.cl ((sU (z.g 2))) (64<=(List.drop (z.i 8).toNat (List.take v4.toNat (z.s 7))).length/\(z.g 2).length=64) (λy0=>y0.g 2=z.g 2) λy0=>(.an v2 (.an (U3 (y0.g 2) vx) (.at ((y0.g 2=KG/\(z.s 7).length<=900000200/\v3%64=0/\0<=z.i 8+64/\z.i 8+64<= ↑(z.s 7).length/\v4%64=0)/\(v3-v4).toNat<(v3-z.i 8).toNat/\∀(y:Sy),V8.mk (y.i 30) (y.i 31) (y.i 32) (y.i 33) (y.i 34) (y.i 35) (y.i 36) (y.i 37)=nZ (z.s 7) v4 (V8.mk v0.a v0.b v0.c v0.d v0.e v0.f v0.g v0.h)->V8.mk (y.i 30) (y.i 31) (y.i 32) (y.i 33) (y.i 34) (y.i 35) (y.i 36) (y.i 37)=nZ (z.s 7) (z.i 8) v1))))))) (.an (U3 (z.g 2) vx) (.at (V8.mk (z.i 30) (z.i 31) (z.i 32) (z.i 33) (z.i 34) (z.i 35) (z.i 36) (z.i 37)=nZ (z.s 7) (z.i 8) v1))))) by
 have hB:True/\z.g 2=KG/\(z.s 7).length<=900000200/\(↑(z.s 7).length:Int)%64=0/\(0:Int)<=z.i 8/\z.i 8<= ↑(z.s 7).length/\z.i 8%64=0:=⟨trivial,hA⟩
 have e2:=@Jr (z.s 7) (z.i 8) (v8 z);have e3:=@MU (z.s 7) (z.i 8) (v8 z);have e5:KG.length=64:=rfl;dsimp only [v8] at e2 e3;have e6:∀v:V8,v=pw (z.g 2) (List.drop (z.i 8).toNat (List.take (z.i 8+64).toNat (z.s 7))) (V8.mk (z.i 30) (z.i 31) (z.i 32) (z.i 33) (z.i 34) (z.i 35) (z.i 36) (z.i 37))->V8.mk v.a v.b v.c v.d v.e v.f v.g v.h=v:=λ_ _=>rfl;have e7:=e6 _ rfl;clear e6;have e8:z.i 8+64<=((z.s 7).length:Int)->0<=z.i 8->(List.drop (z.i 8).toNat (List.take (z.i 8+64).toNat (z.s 7))).length=64:=λ_ _=>by rw[List.length_drop,List.length_take];omega
 have e9:=hB.2.1;rw[e9] at e7;conv=>zeta
 repeat' with_reducible first|intro _|apply cd|apply ck|apply cg|apply cE|apply cr
 all_goals first|omega|(refine And.intro (by grind) (And.intro (by omega) (λy hy=>hy.trans ?_));rw[e2 (by omega),hB.2.1];done)|grind [ao,ak,aj,List.append_assoc,List.length_append,List.length_cons,List.length_nil,List.append_cancel_left_eq,List.cons.injEq]
abbrev Dy(a:List Nat):=0=0/\0<=1000000000/\a.length<=1000000
abbrev sW(a:List Nat):=a.length=a.length
def vR:bj 14 Ssm2:=bB 1 0 eN (aG (ptm:=[]) RZ (aG (ptm:=[]) R0 (aG (ptm:=[]) R1 lN))) λz hA=>show Fm.den (let vx:=(0:Int)=0;let v0:=(eD (z.s 1));let v1:=([]++z.s 1++ [Int.toNat 128]);(.an (Dy (z.s 1)) (.an (([]++z.s 1).length=0+(z.s 1).length/\0+(z.s 1).length<=1000000000/\(0:Int)<=128/\True) (.cl ((v1.length=0+(z.s 1).length+1/\vx/\vx/\vx/\vx/\vx/\vx/\vx/\vx/\vx/\vx/\vx/\vx/\vx/\vx/\vx/\vx/\vx/\vx/\vx/\vx/\vx/\vx/\vx/\vx/\vx/\vx/\vx/\vx/\vx/\vx/\vx/\vx/\True)) (v1.length+vQ v1<=900000100) (λy0=>y0.s 6=z.s 1/\y0.s 7=Jp v1/\(y0.s 7).length<=900000100/\(↑(y0.s 7).length:Int)%64=56) λy0=>(let v2:=(↑(y0.s 7).length:Int);(.cl ((W5 (y0.s 7) vx)) ((0:Int)-1<=7/\(7:Int)<=7/\v2+7<=900000200) (λy1=>y1.s 7=nY ((↑(y0.s 6).length:Int)%18446744073709551616 * 8%18446744073709551616) 7 (y0.s 7)/\(↑(y1.s 7).length:Int)=v2+7+1) λy1=>(let v3:=(↑(y1.s 7).length:Int);(.an (sW (y1.s 7)) (.an (64=64/bm (cU 9)) (.cl ((0<64/\vx/\vx/\vx/\vx/\vx/\vx/\vx/\vx/\vx/\vx/\vx/\vx/\vx/\vx/\vx/\vx/\vx/\vx/\vx/\vx/\vx/\vx/\vx/\vx/\vx/\vx/\vx/\vx/\vx/\vx/\vx/\vx/\True)) ([G.node [G.int 1116352408],G.node [G.int 1899447441],G.node [G.int 3049323471],G.node [G.int 3921009573],G.node [G.int 961987163],G.node [G.int 1508970993],G.node [G.int 2453635748],G.node [G.int 2870763221],G.node [G.int 3624381080],G.node [G.int 310598401],G.node [G.int 607225278],G.node [G.int 1426881987],G.node [G.int 1925078388],G.node [G.int 2162078206],G.node [G.int 2614888103],G.node [G.int 3248222580],G.node [G.int 3835390401],G.node [G.int 4022224774],G.node [G.int 264347078],G.node [G.int 604807628],G.node [G.int 770255983],G.node [G.int 1249150122],G.node [G.int 1555081692],G.node [G.int 1996064986],G.node [G.int 2554220882],G.node [G.int 2821834349],G.node [G.int 2952996808],G.node [G.int 3210313671],G.node [G.int 3336571891],G.node [G.int 3584528711],G.node [G.int 113926993],G.node [G.int 338241895],G.node [G.int 666307205],G.node [G.int 773529912],G.node [G.int 1294757372],G.node [G.int 1396182291],G.node [G.int 1695183700],G.node [G.int 1986661051],G.node [G.int 2177026350],G.node [G.int 2456956037],G.node [G.int 2730485921],G.node [G.int 2820302411],G.node [G.int 3259730800],G.node [G.int 3345764771],G.node [G.int 3516065817],G.node [G.int 3600352804],G.node [G.int 4094571909],G.node [G.int 275423344],G.node [G.int 430227734],G.node [G.int 506948616],G.node [G.int 659060556],G.node [G.int 883997877],G.node [G.int 958139571],G.node [G.int 1322822218],G.node [G.int 1537002063],G.node [G.int 1747873779],G.node [G.int 1955562222],G.node [G.int 2024104815],G.node [G.int 2227730452],G.node [G.int 2361852424],G.node [G.int 2428436474],G.node [G.int 2756734187],G.node [G.int 3204031479],G.node [G.int 3329325298]]=KG/\(y1.s 7).length<=900000200/\v3%64=0/\(0:Int)<=0/\0<=v3/\(0:Int)%64=0) (λy2=>V8.mk (y2.i 30) (y2.i 31) (y2.i 32) (y2.i 33) (y2.i 34) (y2.i 35) (y2.i 36) (y2.i 37)=nZ (y1.s 7) 0 (UZ)) λy2=>(.an (y2.i 37/1%256=hb v0 (nat_lit 31)/\y2.i 37/256%256=hb v0 (nat_lit 30)/\y2.i 37/65536%256=hb v0 (nat_lit 29)/\y2.i 37/16777216%256=hb v0 (nat_lit 28)/\y2.i 36/1%256=hb v0 (nat_lit 27)/\y2.i 36/256%256=hb v0 (nat_lit 26)/\y2.i 36/65536%256=hb v0 (nat_lit 25)/\y2.i 36/16777216%256=hb v0 (nat_lit 24)/\y2.i 35/1%256=hb v0 (nat_lit 23)/\y2.i 35/256%256=hb v0 (nat_lit 22)/\y2.i 35/65536%256=hb v0 (nat_lit 21)/\y2.i 35/16777216%256=hb v0 (nat_lit 20)/\y2.i 34/1%256=hb v0 (nat_lit 19)/\y2.i 34/256%256=hb v0 (nat_lit 18)/\y2.i 34/65536%256=hb v0 (nat_lit 17)/\y2.i 34/16777216%256=hb v0 (nat_lit 16)/\y2.i 33/1%256=hb v0 (nat_lit 15)/\y2.i 33/256%256=hb v0 (nat_lit 14)/\y2.i 33/65536%256=hb v0 (nat_lit 13)/\y2.i 33/16777216%256=hb v0 (nat_lit 12)/\y2.i 32/1%256=hb v0 (nat_lit 11)/\y2.i 32/256%256=hb v0 (nat_lit 10)/\y2.i 32/65536%256=hb v0 (nat_lit 9)/\y2.i 32/16777216%256=hb v0 (nat_lit 8)/\y2.i 31/1%256=hb v0 (nat_lit 7)/\y2.i 31/256%256=hb v0 (nat_lit 6)/\y2.i 31/65536%256=hb v0 (nat_lit 5)/\y2.i 31/16777216%256=hb v0 (nat_lit 4)/\y2.i 30/1%256=hb v0 (nat_lit 3)/\y2.i 30/256%256=hb v0 (nat_lit 2)/\y2.i 30/65536%256=hb v0 (nat_lit 1)/\y2.i 30/16777216%256=hb v0 (nat_lit 0)/\True) (.at (True))))))))))))) by
 dsimp only [Ssm2] at hA;have:=@W3;have e5:KG.length=64:=rfl;conv=>zeta
 repeat' with_reducible first|intro _|apply cd|apply ck|apply cg|apply cE|apply cr
 all_goals first|omega|rfl|(rw[←RY (by assumption) (by assumption) (by assumption)];(repeat' first|exact rfl|exact trivial|refine And.intro ?_ ?_|(rw[Int.ediv_one];exact rfl));done)|((repeat' first|(with_reducible rfl)|exact trivial|refine And.intro ?_ ?_) <;> first|omega|grind [List.length_append,List.length_cons,List.length_nil]|rfl)|grind [ao,ak,aj,List.append_assoc,List.length_append,List.length_cons,List.length_nil,List.append_cancel_left_eq,List.cons.injEq]
def n_{s:List Nat}{i:Int}(h0:0<=i)(h:i<64):kT (s.take 64) i=kT s i:=by unfold kT;rw[aag,aav (by omega),aag]
def MY{s:List Nat}{i:Int}(h0:0<=i)(h:i<16):UQ (s.take 64) i=UQ s i:=by unfold UQ;rw[n_ (by omega) (by omega),n_ (by omega) (by omega),n_ (by omega) (by omega),n_ (by omega) (by omega)]
def Bb{s:List Nat}:∀(k:Nat) (i:Int) (l:List G),0<=i->i+k=16->xO (s.take 64) k i l=xO s k i l
 |0,_,_,_,_=>rfl
 |k+1,i,l,h0,h=>by show xO (s.take 64) k (i+1) _=xO s k (i+1) _;rw[MY h0 (by omega)];exact Bb k (i+1) _ (by omega) (by omega)
def Bc(k:List G)(s:List Nat)(v:V8):pw k (s.take 64) v=pw k s v:=by unfold pw Z6 Z5;rw[Bb 16 0 _ (by decide) (by decide)]
def xP(k:List G){s t:List Nat}(v:V8)(h:s.take 64=t.take 64):pw k s v=pw k t v:=by rw[←Bc k s,h,Bc]
def MZ{m:List Nat}:∀(k:Nat) (i:Int) (v:V8),0<=i->i+64 * k=m.length->itB m k i v=gB KG (m.drop i.toNat) v
 |0,i,v,h0,h=>by rw[iY (by rw[aas];omega)];rfl
 |k+1,i,v,h0,h=>by
  have e:pw KG ((m.take (i+64).toNat).drop i.toNat) v=pw KG (m.drop i.toNat) v:=xP KG v (by rw[abX,List.take_take,abs (by omega)]);have e2:m.drop (i+64).toNat=(m.drop i.toNat).drop 64:=by rw[aa5];congr 1;omega
  show itB m k (i+64) _=_;rw[MZ k (i+64) _ (by omega) (by omega),eY (s:=m.drop i.toNat) (by rw[aas];omega),e,e2]
def R2{m:List Nat}(h:m.length%64=0)(v:V8):nZ m 0 v=gB KG m v:=by unfold nZ;rw[MZ _ 0 v (by decide) (by omega)];rfl
def sX{k:List G}:∀(n:Nat) (a b:List Nat) (v:V8),a.length=64 * n->gB k (a++b) v=gB k b (gB k a v)
 |0,a,b,v,h=>by have:a= []:=List.length_eq_zero_iff.1 (by omega);subst this;rw[iY (s:=[]) (by simp)];rfl
 |n+1,a,b,v,h=>by rw[eY (s:=a++b) (by rw[aai];omega),eY (s:=a) (by omega)];have e:pw k (a++b) v=pw k a v:=xP k v (by rw[abt (by omega)]);rw[e,abC (by omega),sX n (a.drop 64) b _ (by rw[aas];omega)]
def sY:∀(n:Nat) (s:List Nat),s.length/64=n->∃a,s=a++bZ s/\a.length=64 * n/\(bZ s).length=s.length-64 * n
 |0,s,h=>⟨[],by rw[sP (by omega)];rfl,rfl,by rw[sP (by omega)];omega⟩
 |n+1,s,h=>by
  have c8:64<=s.length:=by omega
  obtain⟨a,h1,h2,h3⟩:=sY n (s.drop 64) (by rw[aas];omega);refine⟨s.take 64++a, ?_,by rw[aai,aao,h2];omega,by rw[px c8,h3,aas];omega⟩;rw[px c8,aaw, ←h1,abl]
def M0:∀(k:Nat) (l:List Nat),pdK k l=l++List.replicate k 0
 |0,l=>by simp [pdK]
 |k+1,l=>by rw[pdK,M0 k];simp [List.replicate_succ]
def R3(d:Int):List Nat:=[7,6,5,4,3,2,1,0].map λi=>((d/((2 ^ (8 * i):Nat):Int))%256).toNat
def R4(d:Int)(l:List Nat):nY d 7 l=l++R3 d:=by unfold nY;show itE d 8 7 l=_;simp only [itE,aaw];rfl
def jG{α:Type}(A B:List α)(j:Nat)(x:α):(A++B).set (A.length+j) x=A++B.set j x:=by rw[List.set_append_right _ _ (by omega)];congr 2;omega
def M1(e:Int)(d:Int)(A C:List Nat)(hA:(A.length:Int)+8=e):FM e d 8 0 (A++(List.replicate 8 0++C))=A++(R3 d++C):=by simp only [FM];rw[show(e-1-0).toNat=A.length+7 by omega,show(e-1-(0+1)).toNat=A.length+6 by omega,show(e-1-(0+1+1)).toNat=A.length+5 by omega,show(e-1-(0+1+1+1)).toNat=A.length+4 by omega,show(e-1-(0+1+1+1+1)).toNat=A.length+3 by omega,show(e-1-(0+1+1+1+1+1)).toNat=A.length+2 by omega,show(e-1-(0+1+1+1+1+1+1)).toNat=A.length+1 by omega,show(e-1-(0+1+1+1+1+1+1+1)).toNat=A.length+0 by omega];rw[jG,jG,jG,jG,jG,jG,jG,jG];rfl
def vS{r:List Nat}(h:r.length<64):UR r=r++ [128]++List.replicate (127-r.length) 0:=by unfold UR;rw[abm (by omega),abs (by omega),List.drop_replicate,show 128-r.length=(127-r.length)+1 by omega,List.replicate_succ];have:=jG r (0::List.replicate (127-r.length) 0) 0 128;rw[aau] at this;rw[this];simp
def W6(s:List Nat):(s.length:Int)%18446744073709551616 * 8%18446744073709551616=CI s:=rfl
theorem fj(s:List Nat):eM s=eD s:=by
 obtain⟨a,h1,h2,h3⟩:=sY _ s rfl;have hr:(bZ s).length<64:=by omega
 unfold eD;rw[W6,R4];unfold Jp;rw[M0];have hB:gB KG s V0=gB KG a V0:=by
  conv=>lhs;rw[h1,sX _ _ _ _ h2]
  exact iY hr
 have hpd:vQ (s++ [128])=(119-(bZ s).length)%64:=by unfold vQ;rw[aai];simp only [aaI];omega
 have hM:s++ [128]++List.replicate (vQ (s++ [128])) 0++R3 (CI s)=a++(bZ s++ [128]++List.replicate (vQ (s++ [128])) 0++R3 (CI s)):=by
  conv=>lhs;rw[aaw,aaw];lhs;rw[h1]
  simp only [aaw]
 have hb8:(R3 (CI s)).length=8:=rfl;rw[R2 (by rw[aai,aai,aai,abA,hb8,hpd,aaI];omega),hM,sX _ _ _ _ h2, ←hB,hpd];unfold eM;rw[abs (by omega),aaT,aaT];generalize gB KG s V0=W;split
 ·rename_i hc;have e1:(119-(bZ s).length)%64=119-(bZ s).length:=by omega
  have e2:FM 128 (CI s) 8 0 (UR (bZ s))=bZ s++ [128]++List.replicate (119-(bZ s).length) 0++R3 (CI s):=by rw[vS hr];have:=M1 128 (CI s) (bZ s++ [128]++List.replicate (119-(bZ s).length) 0) [] (by simp;omega);rw[abb,abb] at this;rw[←this];rw[aaw (bZ s++ [128]),abU,show 119-(bZ s).length+8=127-(bZ s).length by omega]
  rw[e1,e2];generalize hX:bZ s++ [128]++List.replicate (119-(bZ s).length) 0++R3 (CI s)=X;have hl:X.length=128:=by rw[←hX];simp [hb8];omega
  rw[abm (by omega),eY (s:=X) (by omega),eY (by rw[aas];omega),iY (by rw[aas,aas];omega)]
 ·rename_i hc;have e1:(119-(bZ s).length)%64=55-(bZ s).length:=by omega
  have e2:(FM 64 (CI s) 8 0 (UR (bZ s))).take 128=(bZ s++ [128]++List.replicate (55-(bZ s).length) 0)++(R3 (CI s)++List.replicate 64 0):=by
   rw[vS hr];have:=M1 64 (CI s) (bZ s++ [128]++List.replicate (55-(bZ s).length) 0) (List.replicate 64 0) (by simp;omega);rw[←this];rw[abU,aaw (bZ s++ [128]),abU,show 55-(bZ s).length+(8+64)=127-(bZ s).length by omega,abm];have hl:∀(k:Nat) (i:Int) (l:List Nat),(FM 64 (CI s) k i l).length=l.length:=by
    intro k
    induction k with
    |zero=>intro i l;rfl
    |succ k ih=>intro i l;rw[FM,ih,aaZ]
   rw[hl];simp;omega
  rw[e1,e2];generalize hX:bZ s++ [128]++List.replicate (55-(bZ s).length) 0=X;have hl:X.length=56:=by rw[←hX];simp;omega
  rw[eY (s:=X++R3 (CI s)) (by rw[aai,hb8];omega),iY (by rw[aas,aai,hb8];omega)];exact xP KG _ (by rw[←aaw,abt (by rw[aai,hb8];omega)])
noncomputable section
def kq(y:Sy)(t:Nat):List Int:=(List.range 32).map λj=>y.i (t+j)
def Js(g:G):List Int:=(List.range 32).map λj=>gI (aa g j)
def hGi(v:V8):List Int:=(List.range 32).map λj=>hb v j
def hZi:List Int:=(List.range 32).map λ_=>0
def hN(l:List Int):G:=.node (l.map .int)
def hT(y:Sy)(t:Nat):G:=.node ((List.range 32).map λj=>.int (y.i (t+j)))
def hX(g:G):G:=.node ((List.range 32).map λj=>.int (gI (aa g j)))
def hG(v:V8):G:=.node ((List.range 32).map λj=>.int (hb v j))
def hZ:G:=.node ((List.range 32).map λ_=>.int 0)
def qd(y:Sy)(t:Nat):hT y t=hN (kq y t):=by unfold hT hN kq;rw[aa8];rfl
def sZ(g:G):hX g=hN (Js g):=by unfold hX hN Js;rw[aa8];rfl
def M2(v:V8):hG v=hN (hGi v):=by unfold hG hN hGi;rw[aa8];rfl
def FY:hZ=hN hZi:=rfl
def fK{a b:List Int}(h:hN a=hN b):a=b:=by
 have:∀a b:List Int,a.map G.int=b.map G.int->a=b:=by
  intro a
  induction a with
  |nil=>intro b h;cases b with|nil=>rfl|cons y b=>simp at h
  |cons x a ih=>intro b h;cases b with
   |nil=>simp at h
   |cons y b=>simp at h;rw[h.1,ih b (by simpa using h.2)]
 unfold hN at h;injection h with h;exact this _ _ h
abbrev mG:Prop:=([]:List Nat)= []
abbrev M3:Prop:=([]:List G)= []
def R5(g:G):List Int:=(gL g).map gI
def kr(a b:G):Prop:=R5 a=R5 b
def bX(l:List Int):R5 (hN l)=l:=by unfold R5 hN;show(l.map G.int).map gI=l;rw[aa8];exact List.map_id l
theorem aT{y y':Sy}{t t':Nat}:kr (hT y t) (hT y' t')↔hT y t=hT y' t':=by unfold kr;rw[qd,qd,bX,bX];exact⟨λh=>by rw[h],fK⟩
theorem aU{y:Sy}{t:Nat}{g:G}:kr (hT y t) (hX g)↔hT y t=hX g:=by unfold kr;rw[qd,sZ,bX,bX];exact⟨λh=>by rw[h],fK⟩
theorem aV{y:Sy}{t:Nat}{g:G}:kr (hX g) (hT y t)↔hX g=hT y t:=by unfold kr;rw[qd,sZ,bX,bX];exact⟨λh=>by rw[h],fK⟩
theorem aW{g g':G}:kr (hX g) (hX g')↔hX g=hX g':=by unfold kr;rw[sZ,sZ,bX,bX];exact⟨λh=>by rw[h],fK⟩
theorem aX{y:Sy}{t:Nat}:kr (hT y t) hZ↔hT y t=hZ:=by unfold kr;rw[qd,FY,bX,bX];exact⟨λh=>by rw[h],fK⟩
theorem aY{g:G}:kr (hX g) hZ↔hX g=hZ:=by unfold kr;rw[sZ,FY,bX,bX];exact⟨λh=>by rw[h],fK⟩
theorem aZ{y:Sy}{t:Nat}:kr hZ (hT y t)↔hZ=hT y t:=by unfold kr;rw[qd,FY,bX,bX];exact⟨λh=>by rw[h],fK⟩
theorem a_{g:G}:kr hZ (hX g)↔hZ=hX g:=by unfold kr;rw[sZ,FY,bX,bX];exact⟨λh=>by rw[h],fK⟩
theorem ba:kr hZ hZ:=rfl
def kg(y:Sy)(t:Nat)(j:Nat):Int:=y.i (t+j)
def FZ(f g:Nat->Int)(r:Prop):Nat->Prop
 |0=>r
 |n+1=>f n=g n/\FZ f g r n
def fW(f g:Nat->Int)(r:Prop):Prop:=FZ f g r 32
def vT(f g:Nat->Int)(r:Prop):∀n,FZ f g r n↔(∀j,j<n->f j=g j)/\r
 |0=>⟨λh=>⟨λj hj=>by omega,h⟩,λh=>h.2⟩
 |n+1=>by show _/\FZ f g r n↔_;rw[vT f g r n];exact⟨λh=>⟨λj hj=>by by_cases e:j=n;rw[e];exact h.1;exact h.2.1 j (by omega),h.2.2⟩,λh=>⟨h.1 n (by omega),λj hj=>h.1 j (by omega),h.2⟩⟩
theorem aC{f:Nat->Int}{r:Prop}:fW f f r↔r:=by unfold fW;rw[vT];exact⟨λh=>h.2,λh=>⟨λ_ _=>rfl,h⟩⟩
def HOk(g:G):Prop:=∃l:List Int,g=hN l/\l.length=32/\∀x∈l,0<=x/\x<256
def Bd{α:Type}{l:List α}(h:l.length=32)(f:Nat->α)(hf:∀j (hj:j<l.length),f j=l[j]):(List.range 32).map f=l:=by refine List.ext_getElem (by simp [h]) λi h1 h2=>?_;rw[List.getElem_map,List.getElem_range];exact hf i h2
def cI{g:G}(h:HOk g):hX g=g:=by
 obtain⟨l,rfl,hl,_⟩:=h;unfold hX hN;rw[Bd (l:=l.map G.int) (by simpa using hl)];intro j hj;have:j<l.length:=by simpa using hj
 simp [aa,gL,gI,this]
def HOk.of_hT{y:Sy}{t:Nat}(h:HOk (hT y t)):∀j,j<32->0<=y.i (t+j)/\y.i (t+j)<256:=by
 obtain⟨l,e,hl,hb⟩:=h;intro j hj;rw[qd] at e;have e:=fK e;have:y.i (t+j)∈l:=by rw[←e];unfold kq;exact List.mem_map.2 ⟨j,List.mem_range.2 hj,rfl⟩
 exact hb _ this
def F0(v:V8):HOk (hG v):=by
 refine⟨hGi v,M2 v,by simp [hGi],λx hx=>?_⟩;obtain⟨j,hj,rfl⟩:=List.mem_map.1 hx;have hj:=List.mem_range.1 hj;have key:∀(l:List Int) (j:Nat),(∀x∈l,0<=x/\x<256)->0<=l.getD j 0/\l.getD j 0<256:=λl j h=>by
  rw[aag]
  cases e:l[j]? with
  |none=>exact⟨by decide,by decide⟩
  |some x=>exact h x (abn e)
 have m:∀n:Int,0<=n%256/\n%256<256:=λn=>by omega
 refine key _ _ λx hx=>?_;simp only [List.mem_cons,aaS,or_false] at hx;rcases hx with h|h|h|h|h|h|h|h|h|h|h|h|h|h|h|h|h|h|h|h|h|h|h|h|h|h|h|h|h|h|h|h <;> rw[h] <;> exact m _
theorem fy:HOk hZ:=⟨hZi,rfl,rfl,λx hx=>by obtain⟨j,_,rfl⟩:=List.mem_map.1 hx;decide⟩
def hB(g:G):List Nat:=(gL g).map λx=>(gI x).toNat
def e_{g:G}(h:HOk g):(hB g).length=32:=by obtain⟨l,rfl,hl,_⟩:=h;simp [hB,hN,gL,hl]
def aA(s:List Nat):G:=hG (eM (0::s))
def bD(a b:G):G:=hG (eM (1::(hB a++hB b)))
def dz(a:G)(s:List Nat):G:=hG (eM (2::(hB a++s)))
def ci(s:List Nat):G:=hG (eM s)
theorem cm(s:List Nat):HOk (aA s):=F0 _
theorem co(a b:G):HOk (bD a b):=F0 _
theorem i_(a:G)(s:List Nat):HOk (dz a s):=F0 _
theorem fX(s:List Nat):HOk (ci s):=F0 _
def jH(y:Sy)(t:Nat):(kq y t).length=32:=by simp [kq]
def jI(g:G):(Js g).length=32:=by simp [Js]
def cq(x:Int)(l:List Int):aI (x::l)=x.toNat::aI l:=rfl
def dK(a b:List Int):aI (a++b)=aI a++aI b:=by
 induction a with
 |nil=>rfl
 |cons x a ih=>show _::aI (a++b)=_::(aI a++aI b);rw[ih]
def bQ(l:List Int):(aI l).length=l.length:=by induction l with|nil=>rfl|cons x l ih=>simp [aI,ih]
theorem bq(y:Sy)(t:Nat):aI (kq y t)=hB (hT y t):=rfl
def dr(g:G):aI (Js g)=hB (hX g):=rfl
def cy(y:Sy)(t:Nat):(hB (hT y t)).length=32:=by simp [hB,hT,gL]
def fk(g:G):(hB (hX g)).length=32:=by simp [hB,hX,gL]
def cJ(x:Int)(l:List Int):bp (x::l)↔0<=x/\bp l:=Iff.rfl
def dL(a b:List Int):bp (a++b)↔bp a/\bp b:=by
 induction a with
 |nil=>simp [bp]
 |cons x a ih=>show _/\bp (a++b)↔(_/\bp a)/\bp b;rw[ih,and_assoc]
def vU{l:List Int}(h:∀x∈l,0<=x):bp l:=by
 induction l with
 |nil=>trivial
 |cons x l ih=>exact⟨h x aan,ih λy hy=>h y (aal _ hy)⟩
def aJ{y:Sy}{t:Nat}(h:HOk (hT y t)):bp (kq y t):=by obtain⟨l,e,_,hb⟩:=h;rw[qd] at e;rw[fK e];exact vU λx hx=>(hb x hx).1
def dS{g:G}(h:HOk (hX g)):bp (Js g):=by obtain⟨l,e,_,hb⟩:=h;rw[sZ] at e;rw[fK e];exact vU λx hx=>(hb x hx).1
def qe(s:List Nat):hG (eM (0::s))=aA s:=rfl
def mc(a b:G):hG (eM (1::(hB a++hB b)))=bD a b:=rfl
def jJ(a:G)(s:List Nat):hG (eM (2::(hB a++s)))=dz a s:=rfl
def mH(s:List Nat):hG (eM s)=ci s:=rfl
def Dz:Int.toNat 0=0:=rfl
def DA:Int.toNat 1=1:=rfl
def DB:Int.toNat 2=2:=rfl
def hs(t:Nat):List Sh:=(List.range 32).map λj=>.i .u8 (t+j)
def M4:FSpec:=⟨[.c (.vb 1)],[],λz=>(z.s 1).length<=999999,λz=>.one (.ag (hs 300)),λ_=>[],λz y=>hT y 300=aA (z.s 1),none⟩
abbrev W7:=M4
def xQ:FSpec:=⟨[.ag (hs 100),.ag (hs 200)],[],λz=>HOk (hT z 100)/\HOk (hT z 200),λz=>.one (.ag (hs 300)),λ_=>[],λz y=>hT y 300=bD (hT z 100) (hT z 200),none⟩
abbrev W8:=xQ
def F1:FSpec:=⟨[.ag (hs 100),.c (.vb 1)],[],λz=>HOk (hT z 100)/\(z.s 1).length<=900000,λz=>.one (.ag (hs 300)),λ_=>[],λz y=>hT y 300=dz (hT z 100) (z.s 1),none⟩
abbrev R6:=F1
attribute [irreducible] kr fW hB aA bD dz ci HOk kq Js hN
end
def gC{p:Prop}(h:p:=by(try conv=>zeta);(repeat' with_reducible first|intro _|apply cd|apply ck|apply cg|apply cE|apply cr);all_goals first|omega|grind [ao,ak,aj,aT,aU,aV,aW,aX,aY,aZ,a_,ba,aC]):p:=h
def cZ{p:Prop}(h:p:=by(try conv=>zeta);(repeat' with_reducible first|intro _|apply cd|apply ck|apply cg|apply cE|apply cr);all_goals first|omega|grind [ao,ak,aj,aT,aU,aV,aW,aX,aY,aZ,a_,ba,aC,List.append_assoc]):p:=h
abbrev s_(a:List Nat):=Fm.ct (a.length<=1000000) (λy=>True)
abbrev M5(a:List Nat):=1=1/\1<=1000000000/\a.length<=1000000
def xR:bj 50 W7:=bB 1 0 (ai vR eN) lN λz hA=>show Fm.den (let v0:=([Int.toNat 0]++z.s 1);(.an ((0:Int)<=0/\True) (.an (1=1) (.an (M5 (z.s 1)) (.an (v0.length=1+(z.s 1).length) (s_ v0 λy0=>(.ax (hG (eD v0)=aA (z.s 1))))))))) by
 have hB:True/\(z.s 1).length<=999999:=⟨trivial,hA⟩
 conv=>zeta
 repeat' with_reducible first|intro _|apply cd|apply ck|apply cg|apply cE|apply cr
 all_goals first|omega|((try simp only [←fj,cq,dK,bq,dr,cJ,dL,Dz,DA,DB,List.cons_append,List.nil_append,List.append_assoc,qe,mc,jJ,List.length_append,List.length_cons,List.length_nil,bQ,jH,jI,cy,fk]) <;> (repeat' first|rfl|trivial|refine And.intro ?_ ?_) <;> first|omega|exact aJ hB.2.1|exact aJ hB.2.2|exact aJ (by assumption)|exact dS (by assumption))|grind [ao,ak,aj]
def qQ:bj 67 W8:=bB 1 0 (ai vR eN) lN λz hA=>show Fm.den (let v0:=((1:Int)::(kq z 100++kq z 200));(.an (bp v0) (.an (65=65) (.an (65=65) (.ct (65<=1000000) (λy0=>True) λy0=>(.ax (hG (eD (aI v0))=bD (hT z 100) (hT z 200)))))))) by
 have hB:True/\HOk (hT z 100)/\HOk (hT z 200):=⟨trivial,hA⟩
 conv=>zeta
 repeat' with_reducible first|intro _|apply cd|apply ck|apply cg|apply cE|apply cr
 all_goals first|omega|((try simp only [←fj,cq,dK,bq,dr,cJ,dL,Dz,DA,DB,List.cons_append,List.nil_append,List.append_assoc,qe,mc,jJ,List.length_append,List.length_cons,List.length_nil,bQ,jH,jI,cy,fk]) <;> (repeat' first|rfl|trivial|refine And.intro ?_ ?_) <;> first|omega|exact aJ hB.2.1|exact aJ hB.2.2|exact aJ (by assumption)|exact dS (by assumption))|grind [ao,ak,aj]
abbrev M6(a:List Nat):=33=33/\33<=1000000000/\a.length<=1000000
def M7:bj 143 R6:=bB 1 0 (ai vR eN) lN λz hA=>show Fm.den (let v0:=(aI ((2:Int)::kq z 100)++z.s 1);(.an (bp ((2:Int)::kq z 100)) (.an (33=33) (.an (M6 (z.s 1)) (.an (v0.length=33+(z.s 1).length) (s_ v0 λy0=>(.ax (hG (eD v0)=dz (hT z 100) (z.s 1))))))))) by
 have hB:True/\HOk (hT z 100)/\(z.s 1).length<=900000:=⟨trivial,hA⟩
 conv=>zeta
 repeat' with_reducible first|intro _|apply cd|apply ck|apply cg|apply cE|apply cr
 all_goals first|omega|((try simp only [←fj,cq,dK,bq,dr,cJ,dL,Dz,DA,DB,List.cons_append,List.nil_append,List.append_assoc,qe,mc,jJ,List.length_append,List.length_cons,List.length_nil,bQ,jH,jI,cy,fk]) <;> (repeat' first|rfl|trivial|refine And.intro ?_ ?_) <;> first|omega|exact aJ hB.2.1|exact aJ hB.2.2|exact aJ (by assumption)|exact dS (by assumption))|grind [ao,ak,aj]
abbrev qf(a:List Nat):=a.length<=1000000000
def F2:bj 165 M4:=bB 1 0 (ai sV eN) lN λz hA=>show Fm.den (let v0:=([Int.toNat 0]++z.s 1);(.an ((0:Int)<=0/\True) (.an (1=1) (.an (M5 (z.s 1)) (.an (v0.length=1+(z.s 1).length) (.ct (qf v0) (λy0=>True) λy0=>(.ax (hG (eM v0)=aA (z.s 1))))))))) by
 have hB:True/\(z.s 1).length<=999999:=⟨trivial,hA⟩
 conv=>zeta
 repeat' with_reducible first|intro _|apply cd|apply ck|apply cg|apply cE|apply cr
 all_goals first|omega|((try simp only [←fj,cq,dK,bq,dr,cJ,dL,Dz,DA,DB,List.cons_append,List.nil_append,List.append_assoc,qe,mc,jJ,List.length_append,List.length_cons,List.length_nil,bQ,jH,jI,cy,fk]) <;> (repeat' first|rfl|trivial|refine And.intro ?_ ?_) <;> first|omega|exact aJ hB.2.1|exact aJ hB.2.2|exact aJ (by assumption)|exact dS (by assumption))|grind [ao,ak,aj]
def xS:bj 196 xQ:=bB 1 0 (ai sV eN) lN λz hA=>show Fm.den (let v0:=((1:Int)::(kq z 100++kq z 200));(.an (bp v0) (.an (65=65) (.an (65=65) (.ct (65<=1000000000) (λy0=>True) λy0=>(.ax (hG (eM (aI v0))=bD (hT z 100) (hT z 200)))))))) by
 have hB:True/\HOk (hT z 100)/\HOk (hT z 200):=⟨trivial,hA⟩
 conv=>zeta
 repeat' with_reducible first|intro _|apply cd|apply ck|apply cg|apply cE|apply cr
 all_goals first|omega|((try simp only [←fj,cq,dK,bq,dr,cJ,dL,Dz,DA,DB,List.cons_append,List.nil_append,List.append_assoc,qe,mc,jJ,List.length_append,List.length_cons,List.length_nil,bQ,jH,jI,cy,fk]) <;> (repeat' first|rfl|trivial|refine And.intro ?_ ?_) <;> first|omega|exact aJ hB.2.1|exact aJ hB.2.2|exact aJ (by assumption)|exact dS (by assumption))|grind [ao,ak,aj]
def M8:bj 237 F1:=bB 1 0 (ai sV eN) lN λz hA=>show Fm.den (let v0:=(aI ((2:Int)::kq z 100)++z.s 1);(.an (bp ((2:Int)::kq z 100)) (.an (33=33) (.an (M6 (z.s 1)) (.an (v0.length=33+(z.s 1).length) (.ct (qf v0) (λy0=>True) λy0=>(.ax (hG (eM v0)=dz (hT z 100) (z.s 1))))))))) by
 have hB:True/\HOk (hT z 100)/\(z.s 1).length<=900000:=⟨trivial,hA⟩
 conv=>zeta
 repeat' with_reducible first|intro _|apply cd|apply ck|apply cg|apply cE|apply cr
 all_goals first|omega|((try simp only [←fj,cq,dK,bq,dr,cJ,dL,Dz,DA,DB,List.cons_append,List.nil_append,List.append_assoc,qe,mc,jJ,List.length_append,List.length_cons,List.length_nil,bQ,jH,jI,cy,fk]) <;> (repeat' first|rfl|trivial|refine And.intro ?_ ?_) <;> first|omega|exact aJ hB.2.1|exact aJ hB.2.2|exact aJ (by assumption)|exact dS (by assumption))|grind [ao,ak,aj]
noncomputable section
abbrev vV(l:List G)(i:Int):List Nat:=gS (aa (aq l i.toNat) 0)
def M9(l:List G)(i:Int):Prop:=(1<=(vV l i).length/\(vV l i).length<=40)/\(0<i->mV (vV l (i-1)) (vV l i)=true)
def gD(l:List G)(n:Int):Prop:=∀i:Int,0<=i->i<n->M9 l i
theorem Be(l:List G){n:Int}(h:n<=0):gD l n:=λi h0 h1=>by omega
def Bf{l:List G}{n:Int}(h:gD l n)(h1:M9 l n):gD l (n+1):=λi h0 hi=>by
 by_cases e:i<n
 ·exact h i h0 e
 ·have:i=n:=by omega
  rw[this];exact h1
theorem M_{l:List G}{n m:Int}(h:gD l n)(e:m<=n):gD l m:=λi h0 hi=>h i h0 (by omega)
def F3{l:List G}{n m:Int}(h:¬M9 l n)(h0:0<=n)(h1:n<m):¬gD l m:=λhh=>h (hh n h0 h1)
def xT{l:List G}{n m:Int}(h:gD l m)(h0:0<=n)(h1:n<m):(vV l n).length<=40:=(h n h0 h1).1.2
def py(ns ks:List G):Prop:=gD ns ns.length/\ns.length=ks.length
def zz(kd i sc:Int)(t:List Nat)(ns ks:List G):Prop:=
 if kd=1 then i=0/\sc=0/\ns.length=0/\ks.length=0/\t= [] else if kd=2 then(0<=i/\i<=1)/\sc=0/\ns.length=0/\ks.length=0/\t= [] else if kd=3 then sc=0/\ns.length=0/\ks.length=0/\t= [] else if kd=4 then(1<=sc/\sc<=18)/\i%10≠0/\ns.length=0/\ks.length=0/\t= [] else if kd=5 then(0<=i/\i<=9007199254740992)/\sc=0/\ns.length=0/\ks.length=0/\t= [] else if kd=6 then i=0/\sc=0/\ns.length=0/\ks.length=0 else if kd=7 then i=0/\sc=0/\ns.length=0/\ks.length=0 else if kd=8 then i=0/\sc=0/\ns.length=0/\t= [] else if kd=9 then i=0/\sc=0/\t= [] else False
def F4{kd i sc:Int}{t:List Nat}{ns ks:List G}(h:kd=1):zz kd i sc t ns ks↔i=0/\sc=0/\ns.length=0/\ks.length=0/\t= []:=by subst h;rfl
def F5{kd i sc:Int}{t:List Nat}{ns ks:List G}(h:kd=2):zz kd i sc t ns ks↔(0<=i/\i<=1)/\sc=0/\ns.length=0/\ks.length=0/\t= []:=by subst h;rfl
def Bg{kd i sc:Int}{t:List Nat}{ns ks:List G}(h:kd=3):zz kd i sc t ns ks↔sc=0/\ns.length=0/\ks.length=0/\t= []:=by subst h;rfl
def F6{kd i sc:Int}{t:List Nat}{ns ks:List G}(h:kd=4):zz kd i sc t ns ks↔(1<=sc/\sc<=18)/\i%10≠0/\ns.length=0/\ks.length=0/\t= []:=by subst h;rfl
def Na{kd i sc:Int}{t:List Nat}{ns ks:List G}(h:kd=5):zz kd i sc t ns ks↔(0<=i/\i<=9007199254740992)/\sc=0/\ns.length=0/\ks.length=0/\t= []:=by subst h;rfl
def F7{kd i sc:Int}{t:List Nat}{ns ks:List G}(h:kd=6):zz kd i sc t ns ks↔i=0/\sc=0/\ns.length=0/\ks.length=0:=by subst h;rfl
def F8{kd i sc:Int}{t:List Nat}{ns ks:List G}(h:kd=7):zz kd i sc t ns ks↔i=0/\sc=0/\ns.length=0/\ks.length=0:=by subst h;rfl
def F9{kd i sc:Int}{t:List Nat}{ns ks:List G}(h:kd=8):zz kd i sc t ns ks↔i=0/\sc=0/\ns.length=0/\t= []:=by subst h;rfl
def Nb{kd i sc:Int}{t:List Nat}{ns ks:List G}(h:kd=9):zz kd i sc t ns ks↔i=0/\sc=0/\t= []:=by subst h;rfl
def Nc{kd i sc:Int}{t:List Nat}{ns ks:List G}(h:kd<1∨9<kd):¬zz kd i sc t ns ks:=by unfold zz;rw[if_neg (by omega),if_neg (by omega),if_neg (by omega),if_neg (by omega),if_neg (by omega),if_neg (by omega),if_neg (by omega),if_neg (by omega),if_neg (by omega)];exact id
open Classical in
def pz(kd i sc:Int)(t:List Nat)(ns ks:List G):Int:=
 if ¬zz kd i sc t ns ks then 3 else if 16384<t.length∨200<ks.length then 5 else if kd=9/\¬py ns ks then 3 else 0
def Bh{kd i sc:Int}{t:List Nat}{ns ks:List G}(h:¬zz kd i sc t ns ks):pz kd i sc t ns ks=3:=by unfold pz;rw[if_pos h]
def Bi{kd i sc:Int}{t:List Nat}{ns ks:List G}(h:zz kd i sc t ns ks)(h1:16384<t.length∨200<ks.length):pz kd i sc t ns ks=5:=by unfold pz;rw[if_neg (Classical.not_not.2 h),if_pos h1]
def Bj{kd i sc:Int}{t:List Nat}{ns ks:List G}(h:zz kd i sc t ns ks)(h1:¬(16384<t.length∨200<ks.length))(h2:kd=9/\¬py ns ks):pz kd i sc t ns ks=3:=by unfold pz;rw[if_neg (Classical.not_not.2 h),if_neg h1,if_pos h2]
def DC{kd i sc:Int}{t:List Nat}{ns ks:List G}(h:zz kd i sc t ns ks)(h1:¬(16384<t.length∨200<ks.length))(h2:¬(kd=9/\¬py ns ks)):pz kd i sc t ns ks=0:=by unfold pz;rw[if_neg (Classical.not_not.2 h),if_neg h1,if_neg h2]
def oa{kd i sc:Int}{t:List Nat}{ns ks:List G}(h:pz kd i sc t ns ks=0):zz kd i sc t ns ks/\t.length<=16384/\ks.length<=200/\(kd=9->py ns ks):=by
 unfold pz at h;split at h
 ·cases h
 ·rename_i h0;split at h
  ·cases h
  ·rename_i h1;split at h
   ·cases h
   ·rename_i h2;exact⟨Classical.not_not.1 h0,by omega,by omega,λe=>Classical.not_not.1 λhn=>h2 ⟨e,hn⟩⟩
def tm10(x:Int):x.tmod 10=0↔x%10=0:=by
 rw[Int.tmod_eq_emod];split
 ·simp
 ·constructor
  ·intro h;omega
  ·intro h;rename_i hn;exact absurd (Or.inr (abH h)) hn
def uB:List Int->Int
 | []=>0
 |x::l=>if x=0 then uB l else x
def Jt:Nat->G->Int
 |0,_=>9
 |k+1,g=>if pz (gI (aa g 0)) (gI (aa g 1)) (gI (aa g 2)) (gS (aa g 3)) (gL (aa g 4)) (gL (aa g 5))=0 then uB ((gL (aa g 5)).map (Jt k)) else pz (gI (aa g 0)) (gI (aa g 1)) (gI (aa g 2)) (gS (aa g 3)) (gL (aa g 4)) (gL (aa g 5))
def eE(k:Nat)(ks:List G)(i:Int):Int:=uB ((ks.drop i.toNat).map (Jt k))
def eG(k:Nat)(kd i sc:Int)(t:List Nat)(ns ks:List G):Int:=match k with
 |0=>9
 |k+1=>if pz kd i sc t ns ks=0 then eE k ks 0 else pz kd i sc t ns ks
def gE(k:Nat)(g:G):eG k (gI (aa g 0)) (gI (aa g 1)) (gI (aa g 2)) (gS (aa g 3)) (gL (aa g 4)) (gL (aa g 5))=Jt k g:=by cases k <;> rfl
theorem gG(kd i sc:Int)(t:List Nat)(ns ks:List G):eG 0 kd i sc t ns ks=9:=rfl
theorem qR{k:Nat}{kd i sc:Int}{t:List Nat}{ns ks:List G}(h:¬pz kd i sc t ns ks=0):eG (k+1) kd i sc t ns ks=pz kd i sc t ns ks:=if_neg h
theorem ta{k:Nat}{kd i sc:Int}{t:List Nat}{ns ks:List G}(h:pz kd i sc t ns ks=0):eG (k+1) kd i sc t ns ks=eE k ks 0:=if_pos h
def eH{l:List G}{i:Int}(h0:0<=i)(h:i<l.length):l.drop i.toNat=aq l i.toNat::l.drop (i+1).toNat:=by
 have h1:i.toNat<l.length:=by omega
 rw[aaX h1,show(i+1).toNat=i.toNat+1 by omega];congr 1;unfold aq;rw[aag,aak h1];rfl
def Bk{k:Nat}{ks:List G}{i:Int}(h0:0<=i)(h:i<ks.length)(e:Jt k (aq ks i.toNat)=0):eE k ks i=eE k ks (i+1):=by unfold eE;rw[eH h0 h,aax,uB,if_pos e]
def F_{k:Nat}{ks:List G}{i:Int}(h0:0<=i)(h:i<ks.length)(e:¬Jt k (aq ks i.toNat)=0):eE k ks i=Jt k (aq ks i.toNat):=by unfold eE;rw[eH h0 h,aax,uB,if_neg e]
def qS{k:Nat}{ks:List G}{i:Int}(h:(ks.length:Int)<=i):eE k ks i=0:=by unfold eE;rw[aaH (by omega)];rfl
def td:∀{l:List Int},uB l=0->∀x∈l,x=0
 | [],_,x,hx=>by cases hx
 |y::l,h,x,hx=>by
  unfold uB at h;split at h
  ·rename_i e;rcases List.mem_cons.1 hx with rfl|hx
   ·exact e
   ·exact td h x hx
  ·rename_i e;exact absurd h e
def bY{l:List G}{i:Int}(h0:0<=i)(h:i<l.length):aq l i.toNat∈l:=by
 have h1:i.toNat<l.length:=by omega
 unfold aq;rw[aag,aak h1];exact abd _
def xU{k:Nat}{ks:List G}{i:Int}(h:eE k ks 0=0)(h0:0<=i)(hi:i<ks.length):Jt k (aq ks i.toNat)=0:=
 td h _ (abw (by rw[show(0:Int).toNat=0 by rfl,aaT];exact bY h0 hi))
def qg(v:Int):Int:=if 0<=v then 2 * v else -2 * v-1
def Nd{a:Nat}(h:a<18446744073709551616):Nat.xor a 18446744073709551615=18446744073709551615-a:=by
 show a ^^^ 18446744073709551615=_;refine Nat.eq_of_testBit_eq λi=>?_;rw[Nat.testBit_xor,show 18446744073709551615-a=2 ^ 64-(a+1) by omega,Nat.testBit_two_pow_sub_succ (by simpa using h),show 18446744073709551615=2 ^ 64-1 by decide,Nat.testBit_two_pow_sub_one];by_cases hi:i<64
 ·simp [hi]
 ·simp [hi];exact Nat.testBit_lt_two_pow (aa4 (by simpa using h:a<2 ^ 64) (abx (by decide) (by omega)))
def U4{n:Int}(h0:0<=n)(h:n<18446744073709551616):aE (am .u64) n=n.toNat:=by
 obtain⟨m,rfl⟩:∃m:Nat,n=m:=⟨n.toNat,by omega⟩
 show m%18446744073709551616=_;rw[aa_ (by omega)];rfl
def W9{v x:Int}(h: -9223372036854775808<=v/\v<9223372036854775808)(hx:x=v * 2%18446744073709551616):IntKind.u64.wrap (Int.ofNat ((aE (am .u64) x).xor (aE (am .u64) (v/9223372036854775808%18446744073709551616))))=qg v:=by
 subst hx;rw[pq,U4 (by omega) (by omega),U4 (by omega) (by omega)];unfold qg;split
 ·rw[show(v/9223372036854775808%18446744073709551616).toNat=0 by omega];have e:((v * 2%18446744073709551616).toNat).xor 0=(v * 2%18446744073709551616).toNat:=Nat.xor_zero _;rw[e];show((v * 2%18446744073709551616).toNat:Int)%_=_;omega
 ·rw[show(v/9223372036854775808%18446744073709551616).toNat=18446744073709551615 by omega,Nd (by omega)];show((18446744073709551615-(v * 2%18446744073709551616).toNat:Nat):Int)%_=_;omega
def W_(x:Int):IntKind.i64.wrap x%18446744073709551616=x%18446744073709551616:=by
 have key:∀(c:Bool) (a b:Int),a%18446744073709551616=x%18446744073709551616->b%18446744073709551616=x%18446744073709551616->(if c=true then a else b)%18446744073709551616=x%18446744073709551616:=λc a b h1 h2=>by cases c <;> simp [h1,h2]
 exact key _ _ _ (by show(x%18446744073709551616-18446744073709551616)%_=_;omega) (by show(x%18446744073709551616)%_=_;omega)
def R7{v:Int}(h:0<=v):qg v=2 * v:=if_pos h
def R8{v:Int}(h:v<0):qg v= -2 * v-1:=if_neg (by omega)
def Xa(e:G->List Nat)(kd:Int)(ns ks:List G):Nat->Int->List Nat
 |0,_=>[]
 |n+1,i=>(if kd=9 then aH (vV ns i).length++vV ns i else [])++(e (aq ks i.toNat)++Xa e kd ns ks n (i+1))
def ui(e:G->List Nat)(kd:Int)(ns ks:List G)(i:Int):List Nat:=Xa e kd ns ks ((ks.length:Int)-i).toNat i
def Bl{e:G->List Nat}{kd:Int}{ns ks:List G}{i:Int}(h0:kd=9)(h:i<ks.length):ui e kd ns ks i=aH (vV ns i).length++(vV ns i++(e (aq ks i.toNat)++ui e kd ns ks (i+1))):=by unfold ui;rw[show((ks.length:Int)-i).toNat=((ks.length:Int)-(i+1)).toNat+1 by omega];show(if kd=9 then _ else _)++_=_;rw[if_pos h0,aaw]
def Bm{e:G->List Nat}{kd:Int}{ns ks:List G}{i:Int}(h0:¬kd=9)(h:i<ks.length):ui e kd ns ks i=e (aq ks i.toNat)++ui e kd ns ks (i+1):=by unfold ui;rw[show((ks.length:Int)-i).toNat=((ks.length:Int)-(i+1)).toNat+1 by omega];show(if kd=9 then _ else _)++_=_;rw[if_neg h0];rfl
def Ga{e:G->List Nat}{kd:Int}{ns ks:List G}{i:Int}(h:(ks.length:Int)<=i):ui e kd ns ks i= []:=by unfold ui;rw[show((ks.length:Int)-i).toNat=0 by omega];rfl
def Ju(e:G->List Nat)(kd i sc:Int)(t:List Nat)(ns ks:List G):List Nat:=
 if kd=2 then [(i%256).toNat] else if kd=3 then aH (qg i).toNat else if kd=4 then aH (qg i).toNat++ [(sc%256).toNat] else if kd=5 then aH (i%18446744073709551616).toNat
 else if kd=6∨kd=7 then aH t.length++t else if kd=8∨kd=9 then aH ks.length++ui e kd ns ks 0 else []
def ki:Nat->G->List Nat
 |0,_=>[]
 |k+1,g=>(gI (aa g 0)%256).toNat::Ju (ki k) (gI (aa g 0)) (gI (aa g 1)) (gI (aa g 2)) (gS (aa g 3)) (gL (aa g 4)) (gL (aa g 5))
def dM(k:Nat)(kd i sc:Int)(t:List Nat)(ns ks:List G):List Nat:=match k with
 |0=>[]
 |k+1=>(kd%256).toNat::Ju (ki k) kd i sc t ns ks
def pA(k:Nat)(g:G):dM k (gI (aa g 0)) (gI (aa g 1)) (gI (aa g 2)) (gS (aa g 3)) (gL (aa g 4)) (gL (aa g 5))=ki k g:=by cases k <;> rfl
def te(k:Nat){kd i sc:Int}{t:List Nat}{ns ks:List G}(h:kd=2):dM (k+1) kd i sc t ns ks= [(kd%256).toNat]++ [(i%256).toNat]:=by simp [dM,Ju,h]
def qU(k:Nat){kd i sc:Int}{t:List Nat}{ns ks:List G}(h:kd=3):dM (k+1) kd i sc t ns ks= [(kd%256).toNat]++aH (qg i).toNat:=by simp [dM,Ju,h]
def xV(k:Nat){kd i sc:Int}{t:List Nat}{ns ks:List G}(h:kd=4):dM (k+1) kd i sc t ns ks= [(kd%256).toNat]++(aH (qg i).toNat++ [(sc%256).toNat]):=by simp [dM,Ju,h]
def tf(k:Nat){kd i sc:Int}{t:List Nat}{ns ks:List G}(h:kd=5):dM (k+1) kd i sc t ns ks= [(kd%256).toNat]++aH (i%18446744073709551616).toNat:=by simp [dM,Ju,h]
def ob(k:Nat){kd i sc:Int}{t:List Nat}{ns ks:List G}(h:kd=6∨kd=7):dM (k+1) kd i sc t ns ks= [(kd%256).toNat]++(aH t.length++t):=by rcases h with h|h <;> simp [dM,Ju,h]
def tg(k:Nat){kd i sc:Int}{t:List Nat}{ns ks:List G}(h:kd=8∨kd=9):dM (k+1) kd i sc t ns ks= [(kd%256).toNat]++(aH ks.length++ui (ki k) kd ns ks 0):=by rcases h with h|h <;> simp [dM,Ju,h]
def th(k:Nat){kd i sc:Int}{t:List Nat}{ns ks:List G}(h:kd<2∨9<kd):dM (k+1) kd i sc t ns ks= [(kd%256).toNat]:=by show _::Ju _ _ _ _ _ _ _=_;unfold Ju;rw[if_neg (by omega),if_neg (by omega),if_neg (by omega),if_neg (by omega),if_neg (by omega),if_neg (by omega)]
def Zb(w:G->Nat)(ks:List G):Nat->Int->Nat
 |0,_=>0
 |n+1,i=>50+w (aq ks i.toNat)+Zb w ks n (i+1)
def qV(w:G->Nat)(ks:List G)(i:Int):Nat:=Zb w ks ((ks.length:Int)-i).toNat i
def Bn{w:G->Nat}{ks:List G}{i:Int}(h:i<ks.length):qV w ks i=50+w (aq ks i.toNat)+qV w ks (i+1):=by unfold qV;rw[show((ks.length:Int)-i).toNat=((ks.length:Int)-(i+1)).toNat+1 by omega];rfl
def ku:Nat->G->Nat
 |0,_=>0
 |k+1,g=>24+(gS (aa g 3)).length+qV (ku k) (gL (aa g 5)) 0
def xW(k:Nat)(t:List Nat)(ks:List G):Nat:=match k with
 |0=>0
 |k+1=>24+t.length+qV (ku k) ks 0
def pB(k:Nat)(g:G):xW k (gS (aa g 3)) (gL (aa g 5))=ku k g:=by cases k <;> rfl
def Bo(k:Nat)(t:List Nat)(ks:List G):xW (k+1) t ks=24+t.length+qV (ku k) ks 0:=rfl
def Nf:Nat->G->Prop
 |0,_=>True
 |k+1,g=>((-9223372036854775808<=gI (aa g 1)/\gI (aa g 1)<9223372036854775808)/\(gS (aa g 3)).length<=1000000/\(gL (aa g 4)).length<=1000000/\(gL (aa g 5)).length<=1000000)/\∀x∈gL (aa g 5),Nf k x
def Jv(k:Nat)(ks:List G):Prop:=∀x∈ks,Nf k x
def ti(k:Nat)(i:Int)(t:List Nat)(ns ks:List G):Prop:=match k with
 |0=>True
 |k+1=>((-9223372036854775808<=i/\i<9223372036854775808)/\t.length<=1000000/\ns.length<=1000000/\ks.length<=1000000)/\Jv k ks
def mI(k:Nat)(g:G):ti k (gI (aa g 1)) (gS (aa g 3)) (gL (aa g 4)) (gL (aa g 5))=Nf k g:=by cases k <;> rfl
def R9{k:Nat}{i:Int}{t:List Nat}{ns ks:List G}(h:ti (k+1) i t ns ks):(-9223372036854775808<=i/\i<9223372036854775808)/\t.length<=1000000/\ns.length<=1000000/\ks.length<=1000000:=h.1
def Ng{k:Nat}{i:Int}{t:List Nat}{ns ks:List G}(h:ti (k+1) i t ns ks):Jv k ks:=h.2
def oc{k:Nat}{ks:List G}{i:Int}(h:Jv k ks)(h0:0<=i)(hi:i<ks.length):Nf k (aq ks i.toNat):=h _ (bY h0 hi)
def Gb{k:Nat}{g:G}(h:Jt (k+1) g=0):pz (gI (aa g 0)) (gI (aa g 1)) (gI (aa g 2)) (gS (aa g 3)) (gL (aa g 4)) (gL (aa g 5))=0/\eE k (gL (aa g 5)) 0=0:=by
 rw[←gE] at h;by_cases e:pz (gI (aa g 0)) (gI (aa g 1)) (gI (aa g 2)) (gS (aa g 3)) (gL (aa g 4)) (gL (aa g 5))=0
 ·rw[ta e] at h;exact⟨e,h⟩
 ·rw[qR e] at h;exact absurd h e
def xX{v:Int}(h: -9223372036854775808<=v/\v<9223372036854775808):0<=qg v/\qg v<18446744073709551616:=by unfold qg;split <;> omega
def Gc{k:Nat}(ih:∀g,Jt k g=0->Nf k g->(ki k g).length<=ku k g){kd:Int}{ns ks:List G}(hk:eE k ks 0=0)(hv:Jv k ks)(hn:kd=9->gD ns ks.length):∀(n:Nat) (i:Int),0<=i->i+n=ks.length->(Xa (ki k) kd ns ks n i).length<=Zb (ku k) ks n i
 |0,_,_,_=>aac _
 |n+1,i,h0,hi=>by
  have h1:=Gc ih hk hv hn n (i+1) (by omega) (by omega);have h2:=ih _ (xU hk h0 (by omega)) (oc hv h0 (by omega));have h3:(if kd=9 then aH (vV ns i).length++vV ns i else []).length<=50:=by
   split
   ·rename_i e;have:=xT (hn e) h0 (n:=i) (by omega);rw[aai];have:=xL 1 (vV ns i).length (by omega) (by decide);omega
   ·simp
  show((if kd=9 then aH (vV ns i).length++vV ns i else [])++(ki k (aq ks i.toNat)++Xa (ki k) kd ns ks n (i+1))).length<=50+ku k (aq ks i.toNat)+Zb (ku k) ks n (i+1);rw[aai,aai];omega
def od:∀(k:Nat) (g:G),Jt k g=0->Nf k g->(ki k g).length<=ku k g
 |0,_,_,_=>aac _
 |k+1,g,h,hv=>by
  obtain⟨hs,h⟩:=Gb h;obtain⟨h1,h2,h3,h4⟩:=oa hs;have u10:∀n:Nat,n<18446744073709551616->(aH n).length<=10:=λn hn=>xL 10 n (aa4 hn (by decide)) (by decide);have hz:∀i:Int,0<=(i%18446744073709551616)/\(i%18446744073709551616).toNat<18446744073709551616:=λi=>by omega
  have hf:(ui (ki k) (gI (aa g 0)) (gL (aa g 4)) (gL (aa g 5)) 0).length<=qV (ku k) (gL (aa g 5)) 0:=
   Gc (od k) h hv.2 (λe=>by have:=(h4 e).1;rw[(h4 e).2] at this;exact this) _ 0 (by decide) (by omega)
  show((gI (aa g 0)%256).toNat::Ju (ki k) (gI (aa g 0)) (gI (aa g 1)) (gI (aa g 2)) (gS (aa g 3)) (gL (aa g 4)) (gL (aa g 5))).length<=24+(gS (aa g 3)).length+qV (ku k) (gL (aa g 5)) 0;rw[aat];have au9:(aH (qg (gI (aa g 1))).toNat).length<=10:=u10 _ (by have:=xX hv.1.1;omega);have:(Ju (ki k) (gI (aa g 0)) (gI (aa g 1)) (gI (aa g 2)) (gS (aa g 3)) (gL (aa g 4)) (gL (aa g 5))).length<=23+(gS (aa g 3)).length+qV (ku k) (gL (aa g 5)) 0:=by
   unfold Ju;split
   ·simp;omega
   ·split
    ·omega
    ·split
     ·rw[aai];simp;omega
     ·split
      ·have:=u10 _ (hz (gI (aa g 1))).2;omega
      ·split
       ·rw[aai];have:=u10 (gS (aa g 3)).length (by omega);omega
       ·split
        ·rw[aai];have:=u10 (gL (aa g 5)).length (by omega);omega
        ·simp
  omega
def Xb:Nat->G->Nat
 |0,_=>0
 |k+1,g=>1+(gS (aa g 3)).length+((gL (aa g 5)).map (Xb k)).sum
def vW(k:Nat)(ks:List G)(i:Int):Nat:=((ks.drop i.toNat).map (Xb k)).sum
def R_(k:Nat)(t:List Nat)(ks:List G):Nat:=match k with
 |0=>0
 |k+1=>1+t.length+vW k ks 0
def Nh(k:Nat)(t:List Nat)(ks:List G):R_ (k+1) t ks=1+t.length+vW k ks 0:=rfl
def DD(k:Nat)(g:G):R_ k (gS (aa g 3)) (gL (aa g 5))=Xb k g:=by cases k <;> rfl
def Bp{k:Nat}{ks:List G}{i:Int}(h0:0<=i)(h:i<ks.length):vW k ks i=Xb k (aq ks i.toNat)+vW k ks (i+1):=by unfold vW;rw[eH h0 h,aax,abh]
def xY{k:Nat}{ks:List G}{i:Int}(h:(ks.length:Int)<=i):vW k ks i=0:=by unfold vW;rw[aaH (by omega)];rfl
def Ni{k:Nat}(ih:∀g,Jt k g=0->Xb k g<=(ki k g).length){kd:Int}{ns ks:List G}(hk:eE k ks 0=0):∀(n:Nat) (i:Int),0<=i->i+n=ks.length->vW k ks i<=(Xa (ki k) kd ns ks n i).length
 |0,i,h0,h=>by rw[xY (by omega)];exact aaq _
 |n+1,i,h0,hi=>by have h1:=Ni ih hk (kd:=kd) (ns:=ns) n (i+1) (by omega) (by omega);have h2:=ih _ (xU hk h0 (by omega));rw[Bp h0 (by omega)];show _<=((if kd=9 then aH (vV ns i).length++vV ns i else [])++(ki k (aq ks i.toNat)++Xa (ki k) kd ns ks n (i+1))).length;rw[aai,aai];omega
def Nj:∀(k:Nat) (g:G),Jt k g=0->Xb k g<=(ki k g).length
 |0,_,_=>aaq _
 |k+1,g,h=>by
  obtain⟨hs,h⟩:=Gb h;obtain⟨h1,h2,h3,h4⟩:=oa hs;rw[←pA, ←DD];have hp:=Ni (Nj k) (kd:=gI (aa g 0)) (ns:=gL (aa g 4)) h (((gL (aa g 5)).length:Int)-0).toNat 0 (by decide) (by omega);have hk8:∀n:Nat,1<=(aH n).length:=λn=>by rw[aH];split <;> simp
  show 1+_+vW k _ 0<=_;have hd:gI (aa g 0)=1∨gI (aa g 0)=2∨gI (aa g 0)=3∨gI (aa g 0)=4∨gI (aa g 0)=5∨gI (aa g 0)=6∨gI (aa g 0)=7∨gI (aa g 0)=8∨gI (aa g 0)=9:=by
   by_cases e:gI (aa g 0)<1∨9<gI (aa g 0)
   ·exact absurd h1 (Nc e)
   ·omega
  have e0:(gL (aa g 5)).length=0->vW k (gL (aa g 5)) 0=0:=λe=>xY (by omega);have hl:(gI (aa g 0)=8∨gI (aa g 0)=9)->gS (aa g 3)= []->1+(gS (aa g 3)).length+vW k (gL (aa g 5)) 0<=(dM (k+1) (gI (aa g 0)) (gI (aa g 1)) (gI (aa g 2)) (gS (aa g 3)) (gL (aa g 4)) (gL (aa g 5))).length:=λe ht=>by rw[tg k e,ht];have:=hk8 (gL (aa g 5)).length;simp only [aai,aat,List.length_nil];show 1+0+_<=0+1+(_+(Xa (ki k) _ _ _ _ 0).length);omega
  rcases hd with e|e|e|e|e|e|e|e|e
  ·have v:=(F4 e).1 h1;rw[th k (by omega),v.2.2.2.2,e0 v.2.2.2.1];simp
  ·have v:=(F5 e).1 h1;rw[te k e,v.2.2.2.2,e0 v.2.2.2.1];simp
  ·have v:=(Bg e).1 h1;rw[qU k e,v.2.2.2,e0 v.2.2.1];simp
  ·have v:=(F6 e).1 h1;rw[xV k e,v.2.2.2.2,e0 v.2.2.2.1];simp
  ·have v:=(Na e).1 h1;rw[tf k e,v.2.2.2.2,e0 v.2.2.2.1];simp
  ·have v:=(F7 e).1 h1;rw[ob k (.inl e),e0 v.2.2.2];simp;omega
  ·have v:=(F8 e).1 h1;rw[ob k (.inr e),e0 v.2.2.2];simp;omega
  ·have v:=(F9 e).1 h1;exact hl (.inl e) v.2.2.2
  ·have v:=(Nb e).1 h1;exact hl (.inr e) v.2.2
def va:List Sh:=[.i .i64 1,.i .i64 2,.i .i64 3,.s 4,.v 1 5,.v 2 6]
def vp(p:Sy):List Sh:=[.pi .i64 (p.i 1),.pi .i64 (p.i 2),.pi .i64 (p.i 3),.ps (p.s 4),.pv 1 (p.g 5),.pv 2 (p.g 6)]
abbrev shZ(z:Sy):Int:=pz (z.i 1) (z.i 2) (z.i 3) (z.s 4) (z.g 5) (z.g 6)
abbrev vX(k:Nat)(z:Sy):Int:=eG k (z.i 1) (z.i 2) (z.i 3) (z.s 4) (z.g 5) (z.g 6)
abbrev xZ(k:Nat)(z:Sy):Prop:=ti k (z.i 2) (z.s 4) (z.g 5) (z.g 6)
abbrev Nk(k:Nat)(z:Sy):List Nat:=dM k (z.i 1) (z.i 2) (z.i 3) (z.s 4) (z.g 5) (z.g 6)
def tj(p:Sy):LSpec:=⟨[(1,.c (.p 0)),(6,.c (.pv 1 (p.g 5))),(7,.c (.pi .i64 (p.g 5).length)),(8,.c (.i .i64 9))],[.cells 26 (vp p)],λz=>(p.g 5).length<=1000000/\(0<=z.i 9/\z.i 9<=(p.g 5).length)/\gD (p.g 5) (z.i 9),λz=>((p.g 5).length-z.i 9).toNat,[⟨.exit 0,[(1,.c (.p 0))],[.cells 26 (vp p)]⟩,⟨.ret,[(2,.c (.b 10))],[.cells 26 (vp p)]⟩],λz y=>(y.i 999=0->gD (p.g 5) (p.g 5).length)/\(¬y.i 999=0->¬y.p 10/\¬gD (p.g 5) (p.g 5).length),none,[]⟩
def Bq:FSpec:=⟨[.ag va],[],λz=>(z.g 5).length<=1000000,λ_=>.one (.c (.b 10)),λ_=>[],λz y=>y.p 10↔py (z.g 5) (z.g 6),none⟩
def Gd:FSpec:=⟨[.ag va],[],λz=>(z.s 4).length<=1000000/\(z.g 5).length<=1000000/\(z.g 6).length<=1000000,λ_=>.one (.c (.i .i64 10)),λ_=>[],λz y=>y.i 10=shZ z,none⟩
def vY(k:Nat)(p:Sy):LSpec:=⟨[(1,.c (.pi .i64 (p.i 7))),(17,.c (.pv 2 (p.g 6))),(18,.c (.pi .i64 (p.g 6).length)),(19,.c (.i .i64 9))],[],λz=>p.i 7=16-(k:Int)/\k<=15/\Jv k (p.g 6)/\(p.g 6).length<=1000000/\(0<=z.i 9/\z.i 9<=(p.g 6).length)/\eE k (p.g 6) 0=eE k (p.g 6) (z.i 9),λz=>((p.g 6).length-z.i 9).toNat,[⟨.exit 0,[],[]⟩,⟨.ret,[(4,.c (.i .i64 10))],[]⟩],λz y=>(y.i 999=0->eE k (p.g 6) 0=0)/\(¬y.i 999=0->y.i 10=eE k (p.g 6) 0),none,[]⟩
def fY(k:Nat):FSpec:=⟨[.ag va,.c (.i .i64 7)],[],λz=>z.i 7=17-(k:Int)/\k<=16/\xZ k z,λ_=>.one (.c (.i .i64 10)),λ_=>[],λz y=>y.i 10=vX k z,none⟩
def qW:FSpec:=⟨[.ag va],[],λz=>xZ 16 z,λ_=>.one (.c (.i .i64 10)),λ_=>[],λz y=>y.i 10=vX 16 z,none⟩
def vZ(p:Sy):LSpec:=⟨[(0,.ag (vp p)),(2,.c (.p 0)),(1,.c (.pi .i64 (p.i 7))),(7,.c (.i .i64 9))],[.cells 26 (vp p)],λz=>(p.g 5).length<=1000000/\(0<=z.i 9/\z.i 9<=(p.g 5).length)/\gD (p.g 5) (z.i 9),λz=>((p.g 5).length-z.i 9).toNat,[⟨.exit 1,[(0,.ag (vp p)),(1,.c (.pi .i64 (p.i 7))),(2,.c (.p 0))],[.cells 26 (vp p)]⟩,⟨.ret,[(4,.c (.i .i64 10))],[.cells 26 (vp p)]⟩],λz y=>(y.i 999=0->gD (p.g 5) (p.g 5).length)/\(¬y.i 999=0->y.i 10=3/\¬gD (p.g 5) (p.g 5).length),none,[]⟩
def v_(k:Nat)(p:Sy):LSpec:=⟨[(1,.c (.pi .i64 (p.i 7))),(2,.c (.p 0)),(8,.c (.i .i64 9))],[.cells 26 (vp p)],λz=>p.i 7=16-(k:Int)/\k<=15/\Jv k (p.g 6)/\(p.g 6).length<=1000000/\(0<=z.i 9/\z.i 9<=(p.g 6).length)/\eE k (p.g 6) 0=eE k (p.g 6) (z.i 9),λz=>((p.g 6).length-z.i 9).toNat,[⟨.exit 3,[],[.cells 26 (vp p)]⟩,⟨.ret,[(4,.c (.i .i64 10))],[.cells 26 (vp p)]⟩],λz y=>(y.i 999=0->eE k (p.g 6) 0=0)/\(¬y.i 999=0->y.i 10=eE k (p.g 6) 0),none,[]⟩
abbrev x_:=fY
abbrev Ge:=qW
def Xc:FSpec:=⟨[.c (.i .i64 1)],[],λz=>-9223372036854775808<=z.i 1/\z.i 1<9223372036854775808,λz=>.one (.c (.pi .u64 (qg (z.i 1)))),λ_=>[],λz y=>True,none⟩
abbrev U5:=Xc
def U6:FSpec:=⟨[.c (.i .u64 1),.c (.p 0)],[.cells 53 [.gb 1 20],.growb 5 20],λz=>(0<=z.i 1/\z.i 1<18446744073709551616)/\(z.s 20).length<=900000000,λ_=>.tu [],λ_=>[.cells 53 [.gb 1 20],.growb 5 20],λz y=>y.s 20=z.s 20++aH (z.i 1).toNat,none⟩
def Xd(p:Sy):List BSh:=[.cells 53 [.gb 1 20],.growb 5 20,.cells 26 (vp p)]
abbrev Kds(k:Nat)(p:Sy):Prop:=(p.i 1=9->gD (p.g 5) (p.g 6).length/\(p.g 5).length=(p.g 6).length)/\eE k (p.g 6) 0=0/\Jv k (p.g 6)/\(p.g 6).length<=200
def Nl(k:Nat)(p:Sy):LSpec:=⟨[(2,.c (.p 0)),(3,.c (.p 2)),(5,.c (.fn 260 0)),(75,.c (.pv 2 (p.g 6))),(76,.c (.pi .i64 (p.g 6).length)),(77,.c (.i .i64 9))],Xd p,λz=>Kds k p/\(0<=z.i 9/\z.i 9<=(p.g 6).length)/\(z.s 20).length+qV (ku k) (p.g 6) (z.i 9)<=100000000,λz=>((p.g 6).length-z.i 9).toNat,[⟨.exit 1,[(2,.c (.p 0))],Xd p⟩],λz y=>y.s 20=z.s 20++ui (ki k) (p.i 1) (p.g 5) (p.g 6) (z.i 9),none,[]⟩
def Nm(k:Nat):FSpec:=⟨[.c (.gb 0 20),.ag va],[.growb 5 20],λz=>vX k z=0/\xZ k z/\(z.s 20).length+xW k (z.s 4) (z.g 6)<=100000000,λ_=>.one (.c (.gb 0 20)),λ_=>[.growb 5 20],λz y=>y.s 20=z.s 20++Nk k z,none⟩
def Br(k:Nat)(p:Sy):LSpec:=⟨[(0,.c (.gb 1 20)),(3,.c (.p 0)),(5,.c (.i .i64 9))],[.cells 26 (vp p),.growb 5 20],λz=>Kds k p/\(0<=z.i 9/\z.i 9<=(p.g 6).length)/\(z.s 20).length+qV (ku k) (p.g 6) (z.i 9)<=100000000,λz=>((p.g 6).length-z.i 9).toNat,[⟨.exit 1,[(0,.c (.gb 1 20))],[.cells 26 (vp p),.growb 5 20]⟩],λz y=>y.s 20=z.s 20++ui (ki k) (p.i 1) (p.g 5) (p.g 6) (z.i 9),none,[]⟩
abbrev DE:=Nm
def U7:FSpec:=⟨[.c (.gb 0 20),.c (.s 2)],[.growb 5 20],λz=>(z.s 2).length<=100000/\(z.s 20).length<=200000000,λ_=>.one (.c (.gb 0 20)),λ_=>[.growb 5 20],λz y=>y.s 20=z.s 20++(aH (z.s 2).length++z.s 2),none⟩
def ib(kd i sc:Int)(t:List Nat)(ns ks:List G):Int:=if eG 16 kd i sc t ns ks=0 then(if 65536<(dM 16 kd i sc t ns ks).length then 5 else 0) else eG 16 kd i sc t ns ks
section
variable{kd i sc:Int}{t:List Nat}{ns ks:List G}
def Gf(h:¬eG 16 kd i sc t ns ks=0):ib kd i sc t ns ks=eG 16 kd i sc t ns ks:=if_neg h
def Bs(h:eG 16 kd i sc t ns ks=0)(h1:65536<(dM 16 kd i sc t ns ks).length):ib kd i sc t ns ks=5:=by unfold ib;rw[if_pos h,if_pos h1]
def DF(h:eG 16 kd i sc t ns ks=0)(h1:¬65536<(dM 16 kd i sc t ns ks).length):ib kd i sc t ns ks=0:=by unfold ib;rw[if_pos h,if_neg h1]
def ya(h:ib kd i sc t ns ks=0):eG 16 kd i sc t ns ks=0/\(dM 16 kd i sc t ns ks).length<=65536:=by
 unfold ib at h;split at h
 ·rename_i h1;split at h
  ·cases h
  ·exact⟨h1,by omega⟩
 ·rename_i h1;exact absurd h h1
end
abbrev U8(z:Sy):Int:=ib (z.i 1) (z.i 2) (z.i 3) (z.s 4) (z.g 5) (z.g 6)
abbrev Zc(z:Sy):Prop:=xZ 16 z/\xW 16 (z.s 4) (z.g 6)<=10000000
def qX:FSpec:=⟨[.ag va],[],Zc,λ_=>.tu [.c (.vb 10),.c (.i .i64 11)],λ_=>[],λz y=>y.i 11=U8 z/\(U8 z=0->y.s 10=Nk 16 z/\(Nk 16 z).length<=65536)/\(¬U8 z=0->y.s 10= []),none⟩
abbrev Bu:=qX
def DG(kd i sc:Int)(t:List Nat)(ns ks:List G):G:=if ib kd i sc t ns ks=0 then aA (dM 16 kd i sc t ns ks) else hZ
def Nn{kd i sc:Int}{t:List Nat}{ns ks:List G}(h:ib kd i sc t ns ks=0):DG kd i sc t ns ks=aA (dM 16 kd i sc t ns ks):=if_pos h
def Gg{kd i sc:Int}{t:List Nat}{ns ks:List G}(h:¬ib kd i sc t ns ks=0):DG kd i sc t ns ks=hZ:=if_neg h
abbrev ehY(z:Sy):G:=DG (z.i 1) (z.i 2) (z.i 3) (z.s 4) (z.g 5) (z.g 6)
def Gh:FSpec:=⟨[.ag va],[],Zc,λ_=>.tu [.ag (hs 300),.c (.i .i64 11)],λ_=>[],λz y=>y.i 11=U8 z/\hT y 300=ehY z,none⟩
abbrev No:=Gh
def Bv(k:Nat)(p:Sy):LSpec:=⟨[(1,.c (.p 1)),(2,.c (.p 0)),(5,.c (.i .i64 9))],[.cells 26 (vp p),.cells 3 [.i .i64 7]],λz=>eE k (p.g 6) 0=0/\(p.g 6).length<=200/\(0<=z.i 9/\z.i 9<=(p.g 6).length)/\(0<=z.i 7/\z.i 7<=2000000)/\(z.i 7<=65536->p.i 7+vW k (p.g 6) 0=z.i 7+vW k (p.g 6) (z.i 9))/\(65536<z.i 7->65536<p.i 7+vW k (p.g 6) 0),λz=>((p.g 6).length-z.i 9).toNat,[⟨.exit 0,[(1,.c (.p 1))],[.cells 26 (vp p),.cells 3 [.i .i64 7]]⟩],λz y=>(0<=y.i 7/\y.i 7<=2000000)/\(y.i 7<=65536->p.i 7+vW k (p.g 6) 0=y.i 7)/\(65536<y.i 7->65536<p.i 7+vW k (p.g 6) 0),none,[]⟩
def DH(k:Nat):FSpec:=⟨[.ag va,.c (.p 0)],[.cells 3 [.i .i64 7]],λz=>vX k z=0/\0<=z.i 7/\z.i 7<=65536,λ_=>.one (.c (.b 10)),λ_=>[.cells 3 [.i .i64 7]],λz y=>(0<=y.i 7/\y.i 7<=2000000)/\(y.i 7<=65536->z.i 7+R_ k (z.s 4) (z.g 6)=y.i 7)/\(65536<y.i 7->65536<z.i 7+R_ k (z.s 4) (z.g 6))/\(y.p 10↔65536<y.i 7),none⟩
attribute [irreducible] gD pz zz eE eG Jt ui dM ki qV xW ku ti Nf Jv vW R_ Xb ib DG
end
abbrev cN(a:Int):=a=a
abbrev bS(a:Int)(b:List G):=0<=a/\a < ↑b.length
abbrev dF(a:Int)(b:List G):=0<=a+1/\a+1<= ↑b.length
abbrev DI(a b:List G)(c:List Nat)(d e f:Int):=a=a/\b=b/\c=c/\d=d/\e=e/\f=f/\True
abbrev bO(a:Int)(b:List G):=a < ↑b.length
abbrev U9(a:Prop)(b c:Int)(d:List G)(e:Int):=a/\b.toNat<c.toNat/\∀(y:Sy),(y.i 999=0->gD d e)/\(¬y.i 999=0->¬y.p 10/\¬gD d e)->(y.i 999=0->gD d e)/\(¬y.i 999=0->¬y.p 10/\¬gD d e)
def Bw:bH 308 0 tj:=bG 14 2234645 eN lN λp z hA=>show Fm.den (let v0:=(↑(p.g 5).length:Int);let v1:=(DI (p.g 6) (p.g 5) (p.s 4) (p.i 3) (p.i 2) (p.i 1));let v2:=(((1:Int)=0->gD (p.g 5) v0)/\(¬(1:Int)=0->¬false=true/\¬gD (p.g 5) v0));let v3:=(p.g 6=p.g 6/\p.g 5=p.g 5/\p.s 4=p.s 4/\p.i 3=p.i 3/\p.i 2=p.i 2/\p.i 1=p.i 1/\v0=v0/\p.g 5=p.g 5/\True);let v4:=((p.g 5).length<=1000000/\(dF (z.i 9) (p.g 5))/\gD (p.g 5) (z.i 9+1));let v5:=(gS (aQ (aL (p.g 5) (z.i 9))));let v6:=((-9223372036854775808)<=z.i 9+1/\z.i 9+1<=9223372036854775807);(.two (bO (z.i 9) (p.g 5)) (.an (bS (z.i 9) (p.g 5)) (.two ((1:Int)<=(↑v5.length:Int)) (.two (¬(↑v5.length:Int)<=(40:Int)) (.an v1 (.at v2)) (.two (0<z.i 9) (.an ((-9223372036854775808)<=z.i 9-1/\z.i 9-1<=9223372036854775807) (.an (0<=z.i 9-1/\z.i 9-1 < ↑(p.g 5).length) (.two (mV (gS (aQ (aL (p.g 5) (z.i 9-1)))) v5=false) (.an v1 (.at v2)) (.an v6 (.an v3 (.at (U9 v4 (v0-(z.i 9+1)) (v0-z.i 9) (p.g 5) v0))))))) (.an v6 (.an v3 (.at (U9 v4 (v0-(z.i 9+1)) (v0-z.i 9) (p.g 5) v0)))))) (.an v1 (.at v2)))) (.an v1 (.at (((0:Int)=0->gD (p.g 5) v0)/\(¬(0:Int)=0->¬(aN (((((((PS.mk [(999,Tm.i (Int.ofNat (nat_lit 0)))] ((0,(bI 0).fst,0)::ji.loc) ji.ln ji.pr ji.fz).and (cN (p.i 1))).and (cN (p.i 2))).and (cN (p.i 3))).and (p.s 4=p.s 4)).and (p.g 5=p.g 5)).and (p.g 6=p.g 6)).tm).p 10/\¬gD (p.g 5) v0)))))) by
 dsimp only [tj,vp] at hA;have e1:=@F3 (p.g 5) (z.i 9) (p.g 5).length;have e2:=@Bf (p.g 5) (z.i 9);dsimp only [M9,vV] at e1 e2;conv=>zeta
 repeat' with_reducible first|intro _|apply cd|apply ck|apply cg|apply cE|apply cr
 all_goals first|omega|grind [ao,ak,aj,M_]
abbrev fL(a:Int):=(0:Int)<=0/\0<=a
def Jw:bj 308 Bq:=bB 3 1 eN (aG (ptm:=[(0,.ag va)]) Bw lN) λz hA=>show Fm.den (let v0:=(↑(z.g 5).length:Int);(.cl ((z.g 6=z.g 6/\z.g 5=z.g 5/\z.s 4=z.s 4/\z.i 3=z.i 3/\z.i 2=z.i 2/\z.i 1=z.i 1/\v0=v0/\z.g 5=z.g 5/\True)) ((z.g 5).length<=1000000/\(fL v0)/\gD (z.g 5) 0) (λy0=>(y0.i 999=0->gD (z.g 5) v0)/\(¬y0.i 999=0->¬y0.p 10/\¬gD (z.g 5) v0)) λy0=>(.two (y0.i 999=0) (.ax (v0=(↑(z.g 6).length:Int)↔py (z.g 5) (z.g 6))) (.ax (y0.p 10↔py (z.g 5) (z.g 6)))))) by
 dsimp only [Bq,va] at hA;conv=>zeta
 repeat' with_reducible first|intro _|apply cd|apply ck|apply cg|apply cE|apply cr
 all_goals first|omega|grind [ao,ak,aj,Be,py]
def hv0(z:Sy):=@Nc (z.i 1) (z.i 2) (z.i 3) (z.s 4) (z.g 5) (z.g 6)
def Jx(z:Sy):=@Na (z.i 1) (z.i 2) (z.i 3) (z.s 4) (z.g 5) (z.g 6)
def Np:bj 296 Gd:=bB 276 245767243367362692129139271385821503728016604324543854543610501625845425621207670256678298420598998860157320293601534641743472979889381497667939026292410524678210901 (ai Jw eN) lN λz hA=>show Fm.den (let v0:=((3:Int)=pz (z.i 1) (z.i 2) (z.i 3) (z.s 4) (z.g 5) (z.g 6));let v1:=((0:Int)=pz (z.i 1) (z.i 2) (z.i 3) (z.s 4) (z.g 5) (z.g 6));let v2:=(↑(z.g 6).length:Int);let v3:=(16384<(↑(z.s 4).length:Int));let v4:=((5:Int)=pz (z.i 1) (z.i 2) (z.i 3) (z.s 4) (z.g 5) (z.g 6));let v5:=(z.i 3=0);let v7:=(¬z.s 4= []);let v8:=(¬(200<v2));let v9:=(0<=z.i 2/\(0:Int)<10);let v10:=((↑(z.g 5).length:Int)=0);let v11:=(z.i 2<=9007199254740992);let d7:=(z.i 1=6);let i9:=((10:Int)≠0);let j8:=(z.i 2%10≠0);let n7:=(z.i 1=9);let v6:=(¬n7);let u0:=(z.i 2/2=0);let o8:=(z.i 3<=18);let s8:=(1<=z.i 3);let s9:=(0<=z.i 2);(.two (z.i 2=0) (.two v10 (.two (z.i 1=1) (.two v5 (.two (v2=0) (.two v7 (.ax v0) (.an (¬v3) (.an v8 (.an v6 (.ax v1))))) (.ax v0)) (.ax v0)) (.two (z.i 1=2) (.an u0 (.two v5 (.two (v2=0) (.two v7 (.ax v0) (.an (¬v3) (.an v8 (.an v6 (.ax v1))))) (.ax v0)) (.ax v0))) (.two (z.i 1=3) (.two v5 (.two (v2=0) (.two v7 (.ax v0) (.an (¬v3) (.an v8 (.an v6 (.ax v1))))) (.ax v0)) (.ax v0)) (.two (z.i 1=4) (.two s8 (.two o8 (.an i9 (.an v9 (.an (¬j8) (.ax v0)))) (.ax v0)) (.ax v0)) (.two (z.i 1=5) (.an s9 (.an v11 (.two v5 (.two (v2=0) (.two v7 (.ax v0) (.an (¬v3) (.an v8 (.an v6 (.ax v1))))) (.ax v0)) (.ax v0)))) (.two d7 (.an d7 (.two v5 (.two (¬v2=0) (.ax v0) (.two v3 (.ax v4) (.an v8 (.an v6 (.ax v1))))) (.ax v0))) (.two (z.i 1=7) (.two v5 (.two (¬v2=0) (.ax v0) (.two v3 (.ax v4) (.an v8 (.an v6 (.ax v1))))) (.ax v0)) (.two (z.i 1=8) (.two v5 (.an v10 (.two v7 (.ax v0) (.an (¬v3) (.two (200<v2) (.ax v4) (.an v6 (.ax v1)))))) (.ax v0)) (.two n7 (.two v5 (.two v7 (.ax v0) (.an (¬v3) (.two (200<v2) (.ax v4) (.an n7 (.ct ((z.g 5).length<=1000000) (λy0=>(y0.p 10↔py (z.g 5) (z.g 6))) λy0=>(.two (¬y0.p 10) (.ax v0) (.ax v1))))))) (.ax v0)) (.ax v0)))))))))) (.two (z.i 1=1) (.two v5 (.ax v0) (.ax v0)) (.two (z.i 1=2) (.an u0 (.two v5 (.ax v0) (.ax v0))) (.two (z.i 1=3) (.two v5 (.ax v0) (.ax v0)) (.two (z.i 1=4) (.two s8 (.two o8 (.an i9 (.an v9 (.an (¬j8) (.ax v0)))) (.ax v0)) (.ax v0)) (.two (z.i 1=5) (.an s9 (.an v11 (.two v5 (.ax v0) (.ax v0)))) (.two d7 (.an d7 (.two v5 (.ax v0) (.ax v0))) (.two (z.i 1=7) (.two v5 (.ax v0) (.ax v0)) (.two (z.i 1=8) (.two v5 (.an (¬v10) (.ax v0)) (.ax v0)) (.two n7 (.two v5 (.two v7 (.ax v0) (.an (¬v3) (.two (200<v2) (.ax v4) (.an n7 (.ct ((z.g 5).length<=1000000) (λy1=>(y1.p 10↔py (z.g 5) (z.g 6))) λy1=>(.two (¬y1.p 10) (.ax v0) (.ax v1))))))) (.ax v0)) (.ax v0))))))))))) (.two v10 (.two (z.i 1=1) (.ax v0) (.two (z.i 1=2) (.two u0 (.two v5 (.two (v2=0) (.two v7 (.ax v0) (.an (¬v3) (.an v8 (.an v6 (.ax v1))))) (.ax v0)) (.ax v0)) (.ax v0)) (.two (z.i 1=3) (.two v5 (.two (v2=0) (.two v7 (.ax v0) (.an (¬v3) (.an v8 (.an v6 (.ax v1))))) (.ax v0)) (.ax v0)) (.two (z.i 1=4) (.two s8 (.two o8 (.an i9 (.two v9 (.two j8 (.two (v2=0) (.two v7 (.ax v0) (.an (¬v3) (.an v8 (.an v6 (.ax v1))))) (.ax v0)) (.ax v0)) (.two ((z.i 2).tmod 10≠0) (.two (v2=0) (.two v7 (.ax v0) (.an (¬v3) (.an v8 (.an v6 (.ax v1))))) (.ax v0)) (.ax v0)))) (.ax v0)) (.ax v0)) (.two (z.i 1=5) (.two s9 (.two v11 (.two v5 (.two (v2=0) (.two v7 (.ax v0) (.an (¬v3) (.an v8 (.an v6 (.ax v1))))) (.ax v0)) (.ax v0)) (.ax v0)) (.ax v0)) (.two d7 (.an d7 (.ax v0)) (.two (z.i 1=7) (.ax v0) (.two (z.i 1=8) (.ax v0) (.two n7 (.ax v0) (.ax v0)))))))))) (.two (z.i 1=1) (.ax v0) (.two (z.i 1=2) (.two u0 (.two v5 (.ax v0) (.ax v0)) (.ax v0)) (.two (z.i 1=3) (.two v5 (.ax v0) (.ax v0)) (.two (z.i 1=4) (.two s8 (.two o8 (.an i9 (.two v9 (.two j8 (.ax v0) (.ax v0)) (.two ((z.i 2).tmod 10≠0) (.ax v0) (.ax v0)))) (.ax v0)) (.ax v0)) (.two (z.i 1=5) (.two s9 (.two v11 (.two v5 (.ax v0) (.ax v0)) (.ax v0)) (.ax v0)) (.two d7 (.an d7 (.ax v0)) (.two (z.i 1=7) (.ax v0) (.two (z.i 1=8) (.ax v0) (.two n7 (.ax v0) (.ax v0))))))))))))) by dsimp only [Gd,va,shZ] at hA;have:=hv0 z;have:=@F4 (z.i 1) (z.i 2) (z.i 3) (z.s 4) (z.g 5) (z.g 6);have:=@F5 (z.i 1) (z.i 2) (z.i 3) (z.s 4) (z.g 5) (z.g 6);have:=@Bg (z.i 1) (z.i 2) (z.i 3) (z.s 4) (z.g 5) (z.g 6);have:=@F6 (z.i 1) (z.i 2) (z.i 3) (z.s 4) (z.g 5) (z.g 6);have:=Jx z;have:=@F7 (z.i 1) (z.i 2) (z.i 3) (z.s 4) (z.g 5) (z.g 6);have:=@F8 (z.i 1) (z.i 2) (z.i 3) (z.s 4) (z.g 5) (z.g 6);have:=@F9 (z.i 1) (z.i 2) (z.i 3) (z.s 4) (z.g 5) (z.g 6);have:=@Nb (z.i 1) (z.i 2) (z.i 3) (z.s 4) (z.g 5) (z.g 6);have:=@Bh (z.i 1) (z.i 2) (z.i 3) (z.s 4) (z.g 5) (z.g 6);have:=@Bi (z.i 1) (z.i 2) (z.i 3) (z.s 4) (z.g 5) (z.g 6);have:=@Bj (z.i 1) (z.i 2) (z.i 3) (z.s 4) (z.g 5) (z.g 6);have:=@DC (z.i 1) (z.i 2) (z.i 3) (z.s 4) (z.g 5) (z.g 6);have:=tm10 (z.i 2);exact kf
def Jy:bj 259 (fY 0):=bB 2 2 eN lN λz hA=>show Fm.den ((.an (16<z.i 7) (.ax ((9:Int)=eG 0 (z.i 1) (z.i 2) (z.i 3) (z.s 4) (z.g 5) (z.g 6))))) by
 dsimp only [fY,va,xZ,vX] at hA;repeat' with_reducible first|intro _|apply cd|apply ck|apply cg|apply cE|apply cr
 all_goals first|omega|grind [ao,ak,aj,gG]
abbrev U_(a:Prop)(b c:Int)(d:Nat)(e:List G):=a/\b.toNat<c.toNat/\∀(y:Sy),(y.i 999=0->eE d e 0=0)/\(¬y.i 999=0->y.i 10=eE d e 0)->(y.i 999=0->eE d e 0=0)/\(¬y.i 999=0->y.i 10=eE d e 0)
abbrev Va(a:Int)(b:Nat)(c:Int)(d:List Nat)(e f:List G)(g h:Int):=Fm.ct (a+1=17 - ↑b/\b<=16/\ti b c d e f) (λy=>y.i 10=eG b g c h d e f)
def DJ(k:Nat)(hvcheck:bj 259 (fY k)):bH 259 0 (vY k):=bG 7 537 (ai hvcheck eN) lN λp z hA=>show Fm.den (let v0:=(aL (p.g 6) (z.i 9));let v1:=(↑(p.g 6).length:Int);(.two (bO (z.i 9) (p.g 6)) (.an (bS (z.i 9) (p.g 6)) (.an ((-9223372036854775808)<=p.i 7+1/\p.i 7+1<=9223372036854775807) (Va (p.i 7) k (gI (aa v0 1)) (gS (aa v0 3)) (gL (aa v0 4)) (gL (aa v0 5)) (gI (aa v0 0)) (gI (aa v0 2)) λy0=>(.two (y0.i 10≠0) (.ax (((1:Int)=0->eE k (p.g 6) 0=0)/\(¬(1:Int)=0->y0.i 10=eE k (p.g 6) 0))) (.an ((-9223372036854775808)<=z.i 9+1/\z.i 9+1<=9223372036854775807) (.an (v1=v1/\p.g 6=p.g 6/\p.i 7=p.i 7/\True) (.at (U_ (p.i 7=16 - ↑k/\k<=15/\Jv k (p.g 6)/\(p.g 6).length<=1000000/\(dF (z.i 9) (p.g 6))/\eE k (p.g 6) 0=eE k (p.g 6) (z.i 9+1)) (v1-(z.i 9+1)) (v1-z.i 9) k (p.g 6))))))))) (.ax (((0:Int)=0->eE k (p.g 6) 0=0)/\(¬(0:Int)=0->(aN (have __src:=ji;PS.mk [(999,Tm.i (Int.ofNat (nat_lit 0)))] __src.loc __src.ln __src.pr __src.fz).tm).i 10=eE k (p.g 6) 0))))) by dsimp only [vY] at hA;have:=@Bk k (p.g 6) (z.i 9);have:=@F_ k (p.g 6) (z.i 9);have:=@qS k (p.g 6) (z.i 9);have:=gE k (aq (p.g 6) (z.i 9).toNat);have:=@oc k (p.g 6) (z.i 9);have:=mI k (aq (p.g 6) (z.i 9).toNat);exact kf
def Sb(k:Nat)(z:Sy):=@R9 k (z.i 2) (z.s 4) (z.g 5) (z.g 6)
def hv3(k:Nat)(z:Sy):=@Ng k (z.i 2) (z.s 4) (z.g 5) (z.g 6)
def we:∀k,bj 259 (fY k)
 |0=>Jy
 |k+1=>bB 6 71 (ai Np eN) (aG (ptm:=[(0,.ag va),(1,.c (.i .i64 7))]) (DJ k (we k)) lN) λz hA=>show Fm.den (let v0:=(↑(z.g 6).length:Int);(.an (¬(16<z.i 7)) (.ct ((z.s 4).length<=1000000/\(z.g 5).length<=1000000/\(z.g 6).length<=1000000) (λy0=>y0.i 10=pz (z.i 1) (z.i 2) (z.i 3) (z.s 4) (z.g 5) (z.g 6)) λy0=>(.two (y0.i 10≠0) (.ax (y0.i 10=eG (k+1) (z.i 1) (z.i 2) (z.i 3) (z.s 4) (z.g 5) (z.g 6))) (.cl ((v0=v0/\z.g 6=z.g 6/\z.i 7=z.i 7/\True)) (z.i 7=16 - ↑k/\k<=15/\Jv k (z.g 6)/\(z.g 6).length<=1000000/\(fL v0)/\eE k (z.g 6) 0=eE k (z.g 6) 0) (λy1=>(y1.i 999=0->eE k (z.g 6) 0=0)/\(¬y1.i 999=0->y1.i 10=eE k (z.g 6) 0)) λy1=>(.two (y1.i 999=0) (.ax ((0:Int)=eG (k+1) (z.i 1) (z.i 2) (z.i 3) (z.s 4) (z.g 5) (z.g 6))) (.ax (y1.i 10=eG (k+1) (z.i 1) (z.i 2) (z.i 3) (z.s 4) (z.g 5) (z.g 6))))))))) by
  dsimp only [fY,va,xZ,vX] at hA;have:=Sb k z;have:=hv3 k z;conv=>zeta
  repeat' with_reducible first|intro _|apply cd|apply ck|apply cg|apply cE|apply cr
  all_goals first|omega|grind [ao,ak,aj,qR,ta]
def Nq:bj 218 qW:=bB 1 0 (ai (we 16) eN) lN λz hA=>show Fm.den ((.ct ((1:Int)=17-16/\16<=16/\ti 16 (z.i 2) (z.s 4) (z.g 5) (z.g 6)) (λy0=>y0.i 10=eG 16 (z.i 1) (z.i 2) (z.i 3) (z.s 4) (z.g 5) (z.g 6)) λy0=>(.ax (y0.i 10=eG 16 (z.i 1) (z.i 2) (z.i 3) (z.s 4) (z.g 5) (z.g 6))))) by dsimp only [qW,va,xZ,vX] at hA;exact kf
def Xe:bj 175 U5:=bB 5 161 eN lN λz hA=>show Fm.den ((.two (0<=z.i 1) (.an ((2:Int) * (z.i 1%18446744073709551616)%18446744073709551616=qg (z.i 1)/\True) (.at (True))) (.an ((-9223372036854775808)<=z.i 1+1/\z.i 1+1<=9223372036854775807) (.an ((-9223372036854775808:Int)<=0-(z.i 1+1)/\(0:Int)-(z.i 1+1)<=9223372036854775807) (.an (((2:Int) * ((0-(z.i 1+1))%18446744073709551616)%18446744073709551616+1)%18446744073709551616=qg (z.i 1)/\True) (.at (True))))))) by dsimp only [U5,Xc] at hA;have:=@R7 (z.i 1);have:=@R8 (z.i 1);exact kf
abbrev uj(a b:Int):=Fm.ct (0<=a%18446744073709551616/\a%18446744073709551616<18446744073709551616) (λy=>y.s 10=aH b.toNat)
abbrev DK(a b:List Nat):=a.length=a.length/\a.length<=1000000000/\b.length<=1000000
abbrev Nr(a b c d:List Nat):=a.length=b.length+c.length/\b.length+c.length<=1000000000/\d.length<=1000000
def Ns:bj 176 U7:=bB 1 0 (ai dm eN) lN λz hA=>show Fm.den (let v0:=(↑(z.s 2).length:Int);(uj v0 (v0%18446744073709551616) λy0=>(.an (DK (z.s 20) (y0.s 10)) (.an (Nr (z.s 20++y0.s 10) (z.s 20) (y0.s 10) (z.s 2)) (.an ((z.s 20++y0.s 10++z.s 2).length=(z.s 20).length+(y0.s 10).length+(z.s 2).length/\True) (.at (z.s 20++y0.s 10++z.s 2=z.s 20++(aH (z.s 2).length++z.s 2)))))))) by dsimp only [U7] at hA;have:=@cS (((z.s 2).length:Int)%18446744073709551616) (by omega);exact iy
abbrev Sd(a:List Nat)(b c:List G)(d:List Nat)(e f g:Int):=a.length=a.length/\b=b/\c=c/\d=d/\e=e/\f=f/\g=g/\True
abbrev Gi(a:Prop)(b c:Int)(d:List Nat)(e)(f:Int)(g h:List G)(i:Int)(j:List Nat)(k:Int):=a/\b.toNat<c.toNat/\∀(y:Sy),y.s 20=d++ui e f g h i->y.s 20=j++ui e f g h k
abbrev Gj(a:Prop)(b:Nat)(c:List G):=a/\eE b c 0=0/\Jv b c/\c.length<=200
abbrev Gk(a:Nat)(b c d:Int)(e:List Nat)(f g:List G)(h:List Nat):=eG a b c d e f g=(0:Int)/\ti a c e f g/\h.length+xW a e g<=100000000
def hv4(k:Nat)(p:Sy)(z:Sy):=@xU k (p.g 6) (z.i 9)
def hv5(p:Sy)(z:Sy):=@cS (((gS (aa (aq (p.g 5) (z.i 9).toNat) 0)).length:Int)%18446744073709551616) (by omega)
def Jz(k:Nat)(ag2:bj 110 (DE k)):bH 110 1 (Br k):=bG 7 549 (ai Ns (ai ag2 eN)) lN λp z hA=>show Fm.den (let v0:=(aL (p.g 6) (z.i 9));let v2:=(gS (aa v0 3));let v3:=(gL (aa v0 5));let v4:=((-9223372036854775808)<=z.i 9+1/\z.i 9+1<=9223372036854775807);let v5:=(↑(p.g 6).length:Int);let v1:=(Gj (p.i 1=9->gD (p.g 5) v5/\(p.g 5).length=(p.g 6).length) k (p.g 6));let v6:=(aQ (aL (p.g 5) (z.i 9)));let v7:=(gI (aa v0 1));let v8:=(gL (aa v0 4));let v9:=(dF (z.i 9) (p.g 6));let v10:=((pu (z.s 20)));let v11:=(bS (z.i 9) (p.g 6));let d7:=(z.i 9+1);let i9:=(gI (aa v0 0));let j8:=(gI (aa v0 2));(.two (bO (z.i 9) (p.g 6)) (.two (p.i 1=9) (.an (bS (z.i 9) (p.g 5)) (.cl v10 ((gS v6).length<=100000/\(z.s 20).length<=200000000) (λy0=>y0.s 20=z.s 20++(aH (gS v6).length++gS v6)) λy0=>(.an v11 (.cl ((pu (y0.s 20))) (Gk k i9 v7 j8 v2 v8 v3 (y0.s 20)) (λy1=>y1.s 20=y0.s 20++dM k i9 v7 j8 v2 v8 v3) λy1=>(.an v4 (.an (Sd (y1.s 20) (p.g 6) (p.g 5) (p.s 4) (p.i 3) (p.i 2) (p.i 1)) (.at (Gi (v1/\v9/\(y1.s 20).length+qV (ku k) (p.g 6) d7<=100000000) (v5-d7) (v5-z.i 9) (y1.s 20) (ki k) (p.i 1) (p.g 5) (p.g 6) d7 (z.s 20) (z.i 9))))))))) (.an v11 (.cl v10 (Gk k i9 v7 j8 v2 v8 v3 (z.s 20)) (λy2=>y2.s 20=z.s 20++dM k i9 v7 j8 v2 v8 v3) λy2=>(.an v4 (.an (Sd (y2.s 20) (p.g 6) (p.g 5) (p.s 4) (p.i 3) (p.i 2) (p.i 1)) (.at (Gi (v1/\v9/\(y2.s 20).length+qV (ku k) (p.g 6) d7<=100000000) (v5-d7) (v5-z.i 9) (y2.s 20) (ki k) (p.i 1) (p.g 5) (p.g 6) d7 (z.s 20) (z.i 9)))))))) (.an (Sd (z.s 20) (p.g 6) (p.g 5) (p.s 4) (p.i 3) (p.i 2) (p.i 1)) (.at (z.s 20=z.s 20++ui (ki k) (p.i 1) (p.g 5) (p.g 6) (z.i 9)))))) by dsimp only [Br,vp,Kds] at hA;have n1:=@Bl (ki k) (p.i 1) (p.g 5) (p.g 6) (z.i 9);have:=@Bm (ki k) (p.i 1) (p.g 5) (p.g 6) (z.i 9);have:=@Ga (ki k) (p.i 1) (p.g 5) (p.g 6) (z.i 9);have:=pA k (aq (p.g 6) (z.i 9).toNat);have:=@oc k (p.g 6) (z.i 9);have:=mI k (aq (p.g 6) (z.i 9).toNat);have:=@Bn (ku k) (p.g 6) (z.i 9);have:=pB k (aq (p.g 6) (z.i 9).toNat);have:=gE k (aq (p.g 6) (z.i 9).toNat);have:=hv4 k p z;have m2:=@xT (p.g 5) (z.i 9) (p.g 6).length;have:=@od k (aq (p.g 6) (z.i 9).toNat);have:=hv5 p z;dsimp only [vV] at n1 m2;exact iy
abbrev Tq1(a:Int):=0<=a%18446744073709551616/\a%18446744073709551616<18446744073709551616
abbrev Nt(a b c:List Nat):=a.length=b.length+1/\b.length+1<=1000000000/\c.length<=1000000
abbrev Gl(a:Prop)(b:Int):=Fm.ct a (λy=>y.s 10=aH b.toNat)
abbrev Vb(a:Int):=(0:Int)<=qg a/\qg a<(18446744073709551616:Int)
def hv6(z:Sy):=@cS (((z.s 4).length:Int)%18446744073709551616) (by omega)
def hv7(z:Sy):=@cS (((z.g 6).length:Int)%18446744073709551616) (by omega)
def hv8(k:Nat)(z:Sy):=@qR k (z.i 1) (z.i 2) (z.i 3) (z.s 4) (z.g 5) (z.g 6)
def hv9(k:Nat)(z:Sy):=@ta k (z.i 1) (z.i 2) (z.i 3) (z.s 4) (z.g 5) (z.g 6)
def Xf(z:Sy):=@oa (z.i 1) (z.i 2) (z.i 3) (z.s 4) (z.g 5) (z.g 6)
def Bx:∀k,bj 110 (DE k)
 |0=>QO λz h=>absurd ((gG _ _ _ _ _ _).symm.trans h.1) (by decide)
 |k+1=>bB 19 4903735569 (ai Xe (ai dm (ai Ns eN))) (aG (ptm:=[(1,.ag va)]) (Jz k (Bx k)) lN) λz hA=>show Fm.den (let v1:=(↑(z.g 6).length:Int);let v2:=(z.i 1%256);let v0:=(z.s 20++ [v2.toNat]);let v3:=(Gj (z.i 1=9->gD (z.g 5) v1/\(z.g 5).length=(z.g 6).length) k (z.g 6));let v4:=(Tq1 v1);let v5:=(xM v0 (z.s 20));let v6:=(Vb (z.i 2));let v7:=((-9223372036854775808)<=z.i 2/\z.i 2<9223372036854775808);let v8:=((z.s 4).length<=100000/\v0.length<=200000000);let v9:=(aH (z.s 4).length++z.s 4);let v10:=(fL v1);(.an (Jn (z.s 20) (z.i 1)) (.two (z.i 1=2) (.an (v0.length=(z.s 20).length+1/\(z.s 20).length+1<=1000000000/\0<=z.i 2%256/\True) (.an ((z.s 20++ [v2.toNat]++ [(z.i 2%256).toNat]).length=(z.s 20).length+1+1/\True) (.at (z.s 20++ [v2.toNat]++ [(z.i 2%256).toNat]=z.s 20++dM (k+1) (z.i 1) (z.i 2) (z.i 3) (z.s 4) (z.g 5) (z.g 6))))) (.two (z.i 1=3) (.ct v7 (λy0=>True) λy0=>(Gl v6 (qg (z.i 2)) λy1=>(.an (Nt v0 (z.s 20) (y1.s 10)) (.an ((z.s 20++ [v2.toNat]++y1.s 10).length=(z.s 20).length+1+(y1.s 10).length/\True) (.at (z.s 20++ [v2.toNat]++y1.s 10=z.s 20++dM (k+1) (z.i 1) (z.i 2) (z.i 3) (z.s 4) (z.g 5) (z.g 6))))))) (.two (z.i 1=4) (.ct v7 (λy2=>True) λy2=>(Gl v6 (qg (z.i 2)) λy3=>(.an (Nt v0 (z.s 20) (y3.s 10)) (.an ((z.s 20++ [v2.toNat]++y3.s 10).length=(z.s 20).length+1+(y3.s 10).length/\(z.s 20).length+1+(y3.s 10).length<=1000000000/\0<=z.i 3%256/\True) (.an ((z.s 20++ [v2.toNat]++y3.s 10++ [(z.i 3%256).toNat]).length=(z.s 20).length+1+(y3.s 10).length+1/\True) (.at (z.s 20++ [v2.toNat]++y3.s 10++ [(z.i 3%256).toNat]=z.s 20++dM (k+1) (z.i 1) (z.i 2) (z.i 3) (z.s 4) (z.g 5) (z.g 6)))))))) (.two (z.i 1=5) (uj (z.i 2) (z.i 2%18446744073709551616) λy4=>(.an (Nt v0 (z.s 20) (y4.s 10)) (.an ((z.s 20++ [v2.toNat]++y4.s 10).length=(z.s 20).length+1+(y4.s 10).length/\True) (.at (z.s 20++ [v2.toNat]++y4.s 10=z.s 20++dM (k+1) (z.i 1) (z.i 2) (z.i 3) (z.s 4) (z.g 5) (z.g 6)))))) (.two (z.i 1=6) (.an (z.i 1=6) (.cl (v5) v8 (λy5=>y5.s 20=z.s 20++ [v2.toNat]++v9) λy5=>(.an (pu (y5.s 20)) (.at (y5.s 20=z.s 20++dM (k+1) (z.i 1) (z.i 2) (z.i 3) (z.s 4) (z.g 5) (z.g 6)))))) (.two (z.i 1=7) (.cl (v5) v8 (λy6=>y6.s 20=z.s 20++ [v2.toNat]++v9) λy6=>(.an (pu (y6.s 20)) (.at (y6.s 20=z.s 20++dM (k+1) (z.i 1) (z.i 2) (z.i 3) (z.s 4) (z.g 5) (z.g 6))))) (.two (z.i 1=8) (.an (z.i 1=8) (Gl v4 (v1%18446744073709551616) λy7=>(let v11:=(z.s 20++ [v2.toNat]++y7.s 10);(.an (Nt v0 (z.s 20) (y7.s 10)) (.cl ((v11.length=(z.s 20).length+1+(y7.s 10).length/\z.g 6=z.g 6/\z.g 5=z.g 5/\z.s 4=z.s 4/\z.i 3=z.i 3/\z.i 2=z.i 2/\z.i 1=z.i 1/\True)) (v3/\v10/\v11.length+qV (ku k) (z.g 6) 0<=100000000) (λy8=>y8.s 20=z.s 20++ [v2.toNat]++y7.s 10++ui (ki k) (z.i 1) (z.g 5) (z.g 6) 0) λy8=>(.an (pu (y8.s 20)) (.at (y8.s 20=z.s 20++dM (k+1) (z.i 1) (z.i 2) (z.i 3) (z.s 4) (z.g 5) (z.g 6))))))))) (.two (z.i 1=9) (Gl v4 (v1%18446744073709551616) λy9=>(let d7:=(z.s 20++ [v2.toNat]++y9.s 10);(.an (Nt v0 (z.s 20) (y9.s 10)) (.cl ((d7.length=(z.s 20).length+1+(y9.s 10).length/\z.g 6=z.g 6/\z.g 5=z.g 5/\z.s 4=z.s 4/\z.i 3=z.i 3/\z.i 2=z.i 2/\z.i 1=z.i 1/\True)) (v3/\v10/\d7.length+qV (ku k) (z.g 6) 0<=100000000) (λC'=>C'.s 20=z.s 20++ [v2.toNat]++y9.s 10++ui (ki k) (z.i 1) (z.g 5) (z.g 6) 0) λC'=>(.an (pu (C'.s 20)) (.at (C'.s 20=z.s 20++dM (k+1) (z.i 1) (z.i 2) (z.i 3) (z.s 4) (z.g 5) (z.g 6)))))))) (.an v5 (.at (z.s 20++ [v2.toNat]=z.s 20++dM (k+1) (z.i 1) (z.i 2) (z.i 3) (z.s 4) (z.g 5) (z.g 6)))))))))))))) by
  dsimp only [DE,Nm,va,vX,xZ,Nk] at hA;have:=Sb k z;have:=hv3 k z;have:=@cS (qg (z.i 2));have:=@cS (z.i 2%18446744073709551616) (by omega);have:=hv6 z;have:=hv7 z;have:=@xX (z.i 2);have v3:(z.s 4).length<=1000000->(((z.s 4).length:Int)%18446744073709551616).toNat=(z.s 4).length:=λh=>by omega
  have v4:(z.g 6).length<=1000000->(((z.g 6).length:Int)%18446744073709551616).toNat=(z.g 6).length:=λh=>by omega
  have:=@te k (z.i 1) (z.i 2) (z.i 3) (z.s 4) (z.g 5) (z.g 6);have:=@qU k (z.i 1) (z.i 2) (z.i 3) (z.s 4) (z.g 5) (z.g 6);have:=@xV k (z.i 1) (z.i 2) (z.i 3) (z.s 4) (z.g 5) (z.g 6);have:=@tf k (z.i 1) (z.i 2) (z.i 3) (z.s 4) (z.g 5) (z.g 6);have:=@ob k (z.i 1) (z.i 2) (z.i 3) (z.s 4) (z.g 5) (z.g 6);have:=@tg k (z.i 1) (z.i 2) (z.i 3) (z.s 4) (z.g 5) (z.g 6);have:=@th k (z.i 1) (z.i 2) (z.i 3) (z.s 4) (z.g 5) (z.g 6);have:=hv8 k z;have:=hv9 k z;have c3:=Xf z;have:=hv0 z;have:=Jx z;have:=Bo k (z.s 4) (z.g 6);dsimp only [py] at c3;exact iy
def o_zig:bj 261 Xc:=bB 3 1 eN lN λz hA=>show Fm.den (let v0:=(aE (nU) (z.i 1/9223372036854775808%18446744073709551616));(.two ((-9223372036854775808)<=z.i 1 * 2/\z.i 1 * 2<=9223372036854775807) (.an (IntKind.u64.wrap (Int.ofNat ((aE (nU) (z.i 1 * 2%18446744073709551616)).xor v0))=qg (z.i 1)/\True) (.at (True))) (.an (IntKind.u64.wrap (Int.ofNat ((aE (nU) (IntKind.i64.wrap (z.i 1 * 2)%18446744073709551616)).xor v0))=qg (z.i 1)/\True) (.at (True))))) by
 have hB:True/\(-9223372036854775808:Int)<=z.i 1/\z.i 1<9223372036854775808:=⟨trivial,hA⟩
 conv=>zeta
 repeat' with_reducible first|intro _|apply cd|apply ck|apply cg|apply cE|apply cr
 all_goals first|omega|(exact W9 hB.2 rfl)|(exact⟨W9 hB.2 rfl,trivial⟩)|(exact⟨W9 hB.2 (W_ _),trivial⟩)|grind [ao,ak,aj]
abbrev DL(a b c:List Nat):=a.length=b.length+c.length/\True
def Nu:bj 260 U6:=bB 1 0 (ai gf eN) lN λz hA=>show Fm.den ((.ct (FG (z.i 1)) (λy0=>y0.s 10=aH (z.i 1).toNat) λy0=>(.an (DK (z.s 20) (y0.s 10)) (.an (DL (z.s 20++y0.s 10) (z.s 20) (y0.s 10)) (.at (z.s 20++y0.s 10=z.s 20++aH (z.i 1).toNat)))))) by dsimp only [U6] at hA;have:=@cS (z.i 1);exact kf
abbrev Se(a:List Nat)(b c:List G)(d:List Nat)(e f g h:Int):=a.length=a.length/\b=b/\c=c/\d=d/\e=e/\f=f/\g=g/\h=h/\b=b/\True
def Sf(k:Nat)(as5:bj 219 (Nm k)):bH 219 1 (Nl k):=bG 7 549 (ai Nu (ai as5 eN)) lN λp z hA=>show Fm.den (let v0:=(aL (p.g 6) (z.i 9));let v1:=(aQ (aL (p.g 5) (z.i 9)));let v2:=(↑(p.g 6).length:Int);let v3:=(Gj (p.i 1=9->gD (p.g 5) v2/\(p.g 5).length=(p.g 6).length) k (p.g 6));let v4:=(gS (aa v0 3));let v5:=(gL (aa v0 5));let v6:=((-9223372036854775808)<=z.i 9+1/\z.i 9+1<=9223372036854775807);let v7:=(gI (aa v0 1));let v8:=(gL (aa v0 4));let v9:=(dF (z.i 9) (p.g 6));let v10:=(↑(gS v1).length:Int);let v11:=((pu (z.s 20)));let d7:=(bS (z.i 9) (p.g 5));let i9:=(z.i 9+1);let j8:=(gI (aa v0 0));let n7:=(gI (aa v0 2));(.two (bO (z.i 9) (p.g 6)) (.an (bS (z.i 9) (p.g 6)) (.two (p.i 1=9) (.an d7 (.cl v11 (((0:Int)<=v10%18446744073709551616/\v10%(18446744073709551616:Int)<18446744073709551616)/\(z.s 20).length<=900000000) (λy0=>y0.s 20=z.s 20++aH (v10%(18446744073709551616:Int)).toNat) λy0=>(.an d7 (.an (DK (y0.s 20) (gS v1)) (.cl ((DL (y0.s 20++gS v1) (y0.s 20) (gS v1))) (Gk k j8 v7 n7 v4 v8 v5 (y0.s 20++gS v1)) (λy1=>y1.s 20=y0.s 20++gS v1++dM k j8 v7 n7 v4 v8 v5) λy1=>(.an v6 (.an (Se (y1.s 20) (p.g 6) (p.g 5) (p.s 4) (p.i 3) (p.i 2) (p.i 1) v2) (.at (Gi (v3/\v9/\(y1.s 20).length+qV (ku k) (p.g 6) i9<=100000000) (v2-i9) (v2-z.i 9) (y1.s 20) (ki k) (p.i 1) (p.g 5) (p.g 6) i9 (z.s 20) (z.i 9)))))))))) (.cl v11 (Gk k j8 v7 n7 v4 v8 v5 (z.s 20)) (λy2=>y2.s 20=z.s 20++dM k j8 v7 n7 v4 v8 v5) λy2=>(.an v6 (.an (Se (y2.s 20) (p.g 6) (p.g 5) (p.s 4) (p.i 3) (p.i 2) (p.i 1) v2) (.at (Gi (v3/\v9/\(y2.s 20).length+qV (ku k) (p.g 6) i9<=100000000) (v2-i9) (v2-z.i 9) (y2.s 20) (ki k) (p.i 1) (p.g 5) (p.g 6) i9 (z.s 20) (z.i 9)))))))) (.an (Sd (z.s 20) (p.g 6) (p.g 5) (p.s 4) (p.i 3) (p.i 2) (p.i 1)) (.at (z.s 20=z.s 20++ui (ki k) (p.i 1) (p.g 5) (p.g 6) (z.i 9)))))) by dsimp only [Nl,Xd,vp,Kds] at hA;have n1:=@Bl (ki k) (p.i 1) (p.g 5) (p.g 6) (z.i 9);have:=@Bm (ki k) (p.i 1) (p.g 5) (p.g 6) (z.i 9);have:=@Ga (ki k) (p.i 1) (p.g 5) (p.g 6) (z.i 9);have:=pA k (aq (p.g 6) (z.i 9).toNat);have:=@oc k (p.g 6) (z.i 9);have:=mI k (aq (p.g 6) (z.i 9).toNat);have:=@Bn (ku k) (p.g 6) (z.i 9);have:=pB k (aq (p.g 6) (z.i 9).toNat);have:=gE k (aq (p.g 6) (z.i 9).toNat);have:=hv4 k p z;have m2:=@xT (p.g 5) (z.i 9) (p.g 6).length;have:=@od k (aq (p.g 6) (z.i 9).toNat);have:=hv5 p z;dsimp only [vV] at n1 m2;exact iy
abbrev JA(a b:Prop)(c:List Nat)(d e:Int):=Fm.cl a b (λy=>y.s 20=c++ [d.toNat]++aH e.toNat)
def Nv:∀k,bj 219 (Nm k)
 |0=>QO λz h=>absurd ((gG _ _ _ _ _ _).symm.trans h.1) (by decide)
 |k+1=>bB 19 4903735569 (ai o_zig (ai Nu eN)) (aG (ptm:=[(1,.ag va)]) (Sf k (Nv k)) lN) λz hA=>show Fm.den (let v1:=(↑(z.g 6).length:Int);let v4:=(Gj (z.i 1=9->gD (z.g 5) v1/\(z.g 5).length=(z.g 6).length) k (z.g 6));let v7:=(z.i 1%256);let v2:=(z.s 20++ [v7.toNat]);let v0:=(xM v2 (z.s 20));let v3:=((Tq1 (↑(z.s 4).length:Int))/\v2.length<=900000000);let v5:=((Tq1 v1)/\v2.length<=900000000);let v6:=((Vb (z.i 2))/\v2.length<=900000000);let v8:=((-9223372036854775808)<=z.i 2/\z.i 2<9223372036854775808);let v9:=((↑(z.s 4).length:Int)%18446744073709551616);let v10:=(fL v1);(.an (Jn (z.s 20) (z.i 1)) (.two (z.i 1=2) (.an (v2.length=(z.s 20).length+1/\(z.s 20).length+1<=1000000000/\0<=z.i 2%256/\True) (.an ((z.s 20++ [v7.toNat]++ [(z.i 2%256).toNat]).length=(z.s 20).length+1+1/\True) (.at (z.s 20++ [v7.toNat]++ [(z.i 2%256).toNat]=z.s 20++dM (k+1) (z.i 1) (z.i 2) (z.i 3) (z.s 4) (z.g 5) (z.g 6))))) (.two (z.i 1=3) (.ct v8 (λy0=>True) λy0=>(JA (v0) v6 (z.s 20) v7 (qg (z.i 2)) λy1=>(.an (pu (y1.s 20)) (.at (y1.s 20=z.s 20++dM (k+1) (z.i 1) (z.i 2) (z.i 3) (z.s 4) (z.g 5) (z.g 6)))))) (.two (z.i 1=4) (.ct v8 (λy2=>True) λy2=>(JA (v0) v6 (z.s 20) v7 (qg (z.i 2)) λy3=>(.an (Jn (y3.s 20) (z.i 3)) (.an (xM (y3.s 20++ [(z.i 3%256).toNat]) (y3.s 20)) (.at (y3.s 20++ [(z.i 3%256).toNat]=z.s 20++dM (k+1) (z.i 1) (z.i 2) (z.i 3) (z.s 4) (z.g 5) (z.g 6))))))) (.two (z.i 1=5) (.cl (v0) ((Tq1 (z.i 2))/\v2.length<=900000000) (λy4=>y4.s 20=z.s 20++ [v7.toNat]++aH (z.i 2%18446744073709551616).toNat) λy4=>(.an (pu (y4.s 20)) (.at (y4.s 20=z.s 20++dM (k+1) (z.i 1) (z.i 2) (z.i 3) (z.s 4) (z.g 5) (z.g 6))))) (.two (z.i 1=6) (.an (z.i 1=6) (JA (v0) v3 (z.s 20) v7 v9 λy5=>(.an (DK (y5.s 20) (z.s 4)) (.an (DL (y5.s 20++z.s 4) (y5.s 20) (z.s 4)) (.at (y5.s 20++z.s 4=z.s 20++dM (k+1) (z.i 1) (z.i 2) (z.i 3) (z.s 4) (z.g 5) (z.g 6))))))) (.two (z.i 1=7) (JA (v0) v3 (z.s 20) v7 v9 λy6=>(.an (DK (y6.s 20) (z.s 4)) (.an (DL (y6.s 20++z.s 4) (y6.s 20) (z.s 4)) (.at (y6.s 20++z.s 4=z.s 20++dM (k+1) (z.i 1) (z.i 2) (z.i 3) (z.s 4) (z.g 5) (z.g 6)))))) (.two (z.i 1=8) (.an (z.i 1=8) (JA (v0) v5 (z.s 20) v7 (v1%18446744073709551616) λy7=>(.cl ((Se (y7.s 20) (z.g 6) (z.g 5) (z.s 4) (z.i 3) (z.i 2) (z.i 1) v1)) (v4/\v10/\(y7.s 20).length+qV (ku k) (z.g 6) 0<=100000000) (λy8=>y8.s 20=y7.s 20++ui (ki k) (z.i 1) (z.g 5) (z.g 6) 0) λy8=>(.an (pu (y8.s 20)) (.at (y8.s 20=z.s 20++dM (k+1) (z.i 1) (z.i 2) (z.i 3) (z.s 4) (z.g 5) (z.g 6))))))) (.two (z.i 1=9) (JA (v0) v5 (z.s 20) v7 (v1%18446744073709551616) λy9=>(.cl ((Se (y9.s 20) (z.g 6) (z.g 5) (z.s 4) (z.i 3) (z.i 2) (z.i 1) v1)) (v4/\v10/\(y9.s 20).length+qV (ku k) (z.g 6) 0<=100000000) (λC'=>C'.s 20=y9.s 20++ui (ki k) (z.i 1) (z.g 5) (z.g 6) 0) λC'=>(.an (pu (C'.s 20)) (.at (C'.s 20=z.s 20++dM (k+1) (z.i 1) (z.i 2) (z.i 3) (z.s 4) (z.g 5) (z.g 6)))))) (.an v0 (.at (z.s 20++ [v7.toNat]=z.s 20++dM (k+1) (z.i 1) (z.i 2) (z.i 3) (z.s 4) (z.g 5) (z.g 6)))))))))))))) by
  dsimp only [Nm,va,vX,xZ,Nk] at hA;have:=Sb k z;have:=hv3 k z;have:=@cS (qg (z.i 2));have:=@cS (z.i 2%18446744073709551616) (by omega);have:=hv6 z;have:=hv7 z;have:=@xX (z.i 2);have v3:(z.s 4).length<=1000000->(((z.s 4).length:Int)%18446744073709551616).toNat=(z.s 4).length:=λh=>by omega
  have v4:(z.g 6).length<=1000000->(((z.g 6).length:Int)%18446744073709551616).toNat=(z.g 6).length:=λh=>by omega
  have:=@te k (z.i 1) (z.i 2) (z.i 3) (z.s 4) (z.g 5) (z.g 6);have:=@qU k (z.i 1) (z.i 2) (z.i 3) (z.s 4) (z.g 5) (z.g 6);have:=@xV k (z.i 1) (z.i 2) (z.i 3) (z.s 4) (z.g 5) (z.g 6);have:=@tf k (z.i 1) (z.i 2) (z.i 3) (z.s 4) (z.g 5) (z.g 6);have:=@ob k (z.i 1) (z.i 2) (z.i 3) (z.s 4) (z.g 5) (z.g 6);have:=@tg k (z.i 1) (z.i 2) (z.i 3) (z.s 4) (z.g 5) (z.g 6);have:=@th k (z.i 1) (z.i 2) (z.i 3) (z.s 4) (z.g 5) (z.g 6);have:=hv8 k z;have:=hv9 k z;have c3:=Xf z;have:=hv0 z;have:=Jx z;have:=Bo k (z.s 4) (z.g 6);dsimp only [py] at c3;exact iy
def Gm(z:Sy)(h:vX 16 z=0)(hv:xZ 16 z):(Nk 16 z).length<=xW 16 (z.s 4) (z.g 6):=
 od 16 (.node [.int (z.i 1),.int (z.i 2),.int (z.i 3),.str (z.s 4),.node (z.g 5),.node (z.g 6)]) ((gE 16 _).symm.trans h) ((mI 16 _)▸hv) |> λh=>by rw[←pA, ←pB] at h;exact h
def Nw(z:Sy)(h:vX 16 z=0):R_ 16 (z.s 4) (z.g 6)<=(Nk 16 z).length:=
 Nj 16 (.node [.int (z.i 1),.int (z.i 2),.int (z.i 3),.str (z.s 4),.node (z.g 5),.node (z.g 6)]) ((gE 16 _).symm.trans h) |> λh=>by rw[←pA, ←DD] at h;exact h
abbrev Vc(a:Prop)(b c:Int)(d:List G)(e:Int):=a/\b.toNat<c.toNat/\∀(y:Sy),(y.i 999=0->gD d e)/\(¬y.i 999=0->y.i 10=3/\¬gD d e)->(y.i 999=0->gD d e)/\(¬y.i 999=0->y.i 10=3/\¬gD d e)
abbrev Vd(a b:List G)(c:List Nat)(d e f g:Int):=a=a/\b=b/\c=c/\d=d/\e=e/\f=f/\g=g/\a=a/\b=b/\c=c/\d=d/\e=e/\f=f/\True
def DM:bH 174 1 vZ:=bG 62 996920995764833359449776373990861477 eN lN λp z hA=>show Fm.den (let v0:=(↑(gS (aQ (aL (p.g 5) (z.i 9)))).length:Int);let v1:=(Vd (p.g 6) (p.g 5) (p.s 4) (p.i 3) (p.i 2) (p.i 1) (p.i 7));let v2:=(↑(p.g 5).length:Int);let v3:=(DI (p.g 6) (p.g 5) (p.s 4) (p.i 3) (p.i 2) (p.i 1));let v4:=(0<z.i 9);let v5:=(v0<(1:Int));let v6:=(((1:Int)=0->gD (p.g 5) v2)/\(¬(1:Int)=0->(3:Int)=3/\¬gD (p.g 5) v2));let v7:=((40:Int)<v0);let v8:=((p.g 5).length<=1000000/\(dF (z.i 9) (p.g 5))/\gD (p.g 5) (z.i 9+1));let v9:=(bS (z.i 9) (p.g 5));let v10:=((-9223372036854775808)<=z.i 9+1/\z.i 9+1<=9223372036854775807);(.two (bO (z.i 9) (p.g 5)) (.an v9 (.two v5 (.an v5 (.an v5 (.an v5 (.an v5 (.an v5 (.an v5 (.an v5 (.an v3 (.at v6))))))))) (.an (¬v5) (.an (¬v5) (.an (¬v5) (.an v9 (.an (¬v5) (.an (¬v5) (.an (¬v5) (.an (¬v5) (.two v7 (.an v7 (.an v7 (.an v7 (.an v7 (.an v3 (.at v6)))))) (.an (¬v7) (.an (¬v7) (.two v4 (.an v4 (.an v4 (.an v4 (.an v9 (.an v4 (.an v4 (.an v4 (.an v4 (.an v4 (.an ((-9223372036854775808)<=z.i 9-1/\z.i 9-1<=9223372036854775807) (.an v4 (.an (0<=z.i 9-1/\z.i 9-1 < ↑(p.g 5).length) (.an v4 (.an v4 (.an (¬v7) (.an v4 (.an (¬v7) (.two (mV (gS (aQ (aL (p.g 5) (z.i 9-1)))) (gS (aQ (aL (p.g 5) (z.i 9))))=false) (.an v3 (.at v6)) (.an v10 (.an v1 (.at (Vc v8 (v2-(z.i 9+1)) (v2-z.i 9) (p.g 5) v2)))))))))))))))))))))) (.an (¬v4) (.an (¬v4) (.an (¬v4) (.an (¬v4) (.an (¬v4) (.an (¬v4) (.an (¬v4) (.an (¬v4) (.an (¬v4) (.an (¬v4) (.an (¬v4) (.an (¬v7) (.an (¬v4) (.an (¬v7) (.an v10 (.an v1 (.at (Vc v8 (v2-(z.i 9+1)) (v2-z.i 9) (p.g 5) v2)))))))))))))))))))))))))))))))) (.an v1 (.at (((0:Int)=0->gD (p.g 5) v2)/\(¬(0:Int)=0->(aN (((((((PS.mk [(999,Tm.i (Int.ofNat (nat_lit 0)))] ((0,(bI 0).fst,0)::ji.loc) ji.ln (p.i 7=p.i 7/\p.g 6=p.g 6/\p.g 5=p.g 5/\p.s 4=p.s 4/\p.i 3=p.i 3/\p.i 2=p.i 2/\p.i 1=p.i 1/\ji.pr) ji.fz).and (cN (p.i 1))).and (cN (p.i 2))).and (cN (p.i 3))).and (p.s 4=p.s 4)).and (p.g 5=p.g 5)).and (p.g 6=p.g 6)).tm).i 10=(3:Int)/\¬gD (p.g 5) v2)))))) by
 dsimp only [vZ,vp] at hA;have e1:=@F3 (p.g 5) (z.i 9) (p.g 5).length;have e2:=@Bf (p.g 5) (z.i 9);dsimp only [M9,vV] at e1 e2;conv=>zeta
 repeat' with_reducible first|intro _|apply cd|apply ck|apply cg|apply cE|apply cr
 all_goals first|omega|grind [ao,ak,aj,M_]
def JB:bj 174 (fY 0):=bB 2 2 eN lN λz hA=>show Fm.den ((.an (16<z.i 7) (.ax ((9:Int)=eG 0 (z.i 1) (z.i 2) (z.i 3) (z.s 4) (z.g 5) (z.g 6))))) by
 dsimp only [fY,va,xZ,vX] at hA;repeat' with_reducible first|intro _|apply cd|apply ck|apply cg|apply cE|apply cr
 all_goals first|omega|grind [ao,ak,aj,gG]
def DN(k:Nat)(hrcheck:bj 174 (x_ k)):bH 174 3 (v_ k):=bG 7 537 (ai hrcheck eN) lN λp z hA=>show Fm.den (let v0:=(aL (p.g 6) (z.i 9));let v1:=(DI (p.g 6) (p.g 5) (p.s 4) (p.i 3) (p.i 2) (p.i 1));(.two (bO (z.i 9) (p.g 6)) (.an (bS (z.i 9) (p.g 6)) (.an ((-9223372036854775808)<=p.i 7+1/\p.i 7+1<=9223372036854775807) (Va (p.i 7) k (gI (aa v0 1)) (gS (aa v0 3)) (gL (aa v0 4)) (gL (aa v0 5)) (gI (aa v0 0)) (gI (aa v0 2)) λy0=>(.two (y0.i 10≠0) (.an v1 (.at (((1:Int)=0->eE k (p.g 6) 0=0)/\(¬(1:Int)=0->y0.i 10=eE k (p.g 6) 0)))) (.an ((-9223372036854775808)<=z.i 9+1/\z.i 9+1<=9223372036854775807) (.an (p.g 6=p.g 6/\p.g 5=p.g 5/\p.s 4=p.s 4/\p.i 3=p.i 3/\p.i 2=p.i 2/\p.i 1=p.i 1/\p.i 7=p.i 7/\True) (.at (U_ (p.i 7=16 - ↑k/\k<=15/\Jv k (p.g 6)/\(p.g 6).length<=1000000/\(dF (z.i 9) (p.g 6))/\eE k (p.g 6) 0=eE k (p.g 6) (z.i 9+1)) ((↑(p.g 6).length:Int)-(z.i 9+1)) ((↑(p.g 6).length:Int)-z.i 9) k (p.g 6))))))))) (.an v1 (.at (((0:Int)=0->eE k (p.g 6) 0=0)/\(¬(0:Int)=0->(aN ((((((((have __src:=ji;PS.mk [(999,Tm.i (Int.ofNat (nat_lit 0)))] __src.loc __src.ln __src.pr __src.fz).name (0,base+0,ut (mB bI z 0 (BSh.cells 25 (vp p))))).and (cN (p.i 1))).and (cN (p.i 2))).and (cN (p.i 3))).and (p.s 4=p.s 4)).and (p.g 5=p.g 5)).and (p.g 6=p.g 6)).tm).i 10=eE k (p.g 6) 0)))))) by dsimp only [v_,vp] at hA;have:=@Bk k (p.g 6) (z.i 9);have:=@F_ k (p.g 6) (z.i 9);have:=@qS k (p.g 6) (z.i 9);have:=gE k (aq (p.g 6) (z.i 9).toNat);have:=@oc k (p.g 6) (z.i 9);have:=mI k (aq (p.g 6) (z.i 9).toNat);exact kf
abbrev qw(a b:Prop)(c:Nat)(d:List G):=Fm.cl a b (λy=>(y.i 999=0->eE c d 0=0)/\(¬y.i 999=0->y.i 10=eE c d 0))
def wg:∀k,bj 174 (x_ k)
 |0=>JB
 |k+1=>bB 234 953442819000121726201262095695649363329921864283241058312356325173683069069044876558159509452364324075753668357220830729648882722404320343 eN (aG (ptm:=[(0,.ag va),(1,.c (.i .i64 7))]) DM (aG (ptm:=[(0,.ag va),(1,.c (.i .i64 7))]) (DN k (wg k)) lN)) λz hA=>show Fm.den (let zw:=(0:Int)<=0;let v0:=((3:Int)=eG (k+1) (z.i 1) (z.i 2) (z.i 3) (z.s 4) (z.g 5) (z.g 6));let v2:=((z.g 6=z.g 6/\z.g 5=z.g 5/\z.s 4=z.s 4/\z.i 3=z.i 3/\z.i 2=z.i 2/\z.i 1=z.i 1/\z.i 7=z.i 7/\True));let v3:=((0:Int)=eG (k+1) (z.i 1) (z.i 2) (z.i 3) (z.s 4) (z.g 5) (z.g 6));let v4:=(↑(z.g 5).length:Int);let v5:=((Vd (z.g 6) (z.g 5) (z.s 4) (z.i 3) (z.i 2) (z.i 1) (z.i 7)));let v6:=((5:Int)=eG (k+1) (z.i 1) (z.i 2) (z.i 3) (z.s 4) (z.g 5) (z.g 6));let v7:=(z.s 4≠ []);let v8:=(z.i 3≠0);let v9:=(↑(z.g 6).length:Int);let v1:=(z.i 7=16 - ↑k/\k<=15/\Jv k (z.g 6)/\(z.g 6).length<=1000000/\(zw/\0<=v9)/\eE k (z.g 6) 0=eE k (z.g 6) 0);let v10:=(z.i 2≠0);let v11:=(z.i 1=8);let d7:=((z.g 5).length<=1000000/\(zw/\0<=v4)/\gD (z.g 5) 0);let i9:=(16384<(↑(z.s 4).length:Int));let j8:=(0<=z.i 2/\(0:Int)<10);(.an (¬(16<z.i 7)) (.two (0<v9) (.two (z.i 1=1) (.two v10 (.ax v0) (.two v8 (.ax v0) (.two v7 (.ax v0) (.ax v0)))) (.two (z.i 1=2) (.two (z.i 2<0) (.ax v0) (.two (1<z.i 2) (.ax v0) (.two v8 (.ax v0) (.two v7 (.ax v0) (.ax v0))))) (.two (z.i 1=3) (.two v8 (.ax v0) (.two v7 (.ax v0) (.ax v0))) (.two (z.i 1=4) (.two (z.i 3<1) (.ax v0) (.two (18<z.i 3) (.ax v0) (.an ((10:Int)≠0) (.two j8 (.two (z.i 2%10=0) (.ax v0) (.two v7 (.ax v0) (.ax v0))) (.two ((z.i 2).tmod 10=0) (.ax v0) (.two v7 (.ax v0) (.ax v0))))))) (.two (z.i 1=5) (.two (z.i 2<0) (.ax v0) (.two (9007199254740992<z.i 2) (.ax v0) (.two v8 (.ax v0) (.two v7 (.ax v0) (.ax v0))))) (.two (z.i 1=6) (.an (z.i 1=6) (.two v10 (.ax v0) (.two v8 (.ax v0) (.ax v0)))) (.two (z.i 1=7) (.two v10 (.ax v0) (.two v8 (.ax v0) (.ax v0))) (.two v11 (.an v11 (.two v10 (.ax v0) (.two v8 (.ax v0) (.two v7 (.ax v0) (.an v11 (.two (0<v4) (.ax v0) (.two (200<v9) (.ax v6) (.an v11 (qw v2 v1 k (z.g 6) λy0=>(.two (y0.i 999=0) (.ax v3) (.ax (y0.i 10=eG (k+1) (z.i 1) (z.i 2) (z.i 3) (z.s 4) (z.g 5) (z.g 6))))))))))))) (.two (z.i 1=9) (.two v10 (.ax v0) (.two v8 (.ax v0) (.two v7 (.ax v0) (.an (¬v11) (.two (200<v9) (.ax v6) (.an (¬v11) (.two (v4≠v9) (.ax v0) (.cl v5 d7 (λy1=>(y1.i 999=0->gD (z.g 5) v4)/\(¬y1.i 999=0->y1.i 10=3/\¬gD (z.g 5) v4)) λy1=>(.two (y1.i 999=0) (qw v2 v1 k (z.g 6) λy2=>(.two (y2.i 999=0) (.ax v3) (.ax (y2.i 10=eG (k+1) (z.i 1) (z.i 2) (z.i 3) (z.s 4) (z.g 5) (z.g 6))))) (.ax (y1.i 10=eG (k+1) (z.i 1) (z.i 2) (z.i 3) (z.s 4) (z.g 5) (z.g 6)))))))))))) (.ax v0)))))))))) (.two (z.i 1=1) (.two v10 (.ax v0) (.two v8 (.ax v0) (.two v7 (.ax v0) (.two (0<v4) (.ax v0) (qw v2 v1 k (z.g 6) λy3=>(.two (y3.i 999=0) (.ax v3) (.ax (y3.i 10=eG (k+1) (z.i 1) (z.i 2) (z.i 3) (z.s 4) (z.g 5) (z.g 6))))))))) (.two (z.i 1=2) (.two (z.i 2<0) (.ax v0) (.two (1<z.i 2) (.ax v0) (.two v8 (.ax v0) (.two v7 (.ax v0) (.two (0<v4) (.ax v0) (qw v2 v1 k (z.g 6) λy4=>(.two (y4.i 999=0) (.ax v3) (.ax (y4.i 10=eG (k+1) (z.i 1) (z.i 2) (z.i 3) (z.s 4) (z.g 5) (z.g 6)))))))))) (.two (z.i 1=3) (.two v8 (.ax v0) (.two v7 (.ax v0) (.two (0<v4) (.ax v0) (qw v2 v1 k (z.g 6) λy5=>(.two (y5.i 999=0) (.ax v3) (.ax (y5.i 10=eG (k+1) (z.i 1) (z.i 2) (z.i 3) (z.s 4) (z.g 5) (z.g 6)))))))) (.two (z.i 1=4) (.two (z.i 3<1) (.ax v0) (.two (18<z.i 3) (.ax v0) (.an ((10:Int)≠0) (.two j8 (.two (z.i 2%10=0) (.ax v0) (.two v7 (.ax v0) (.two (0<v4) (.ax v0) (qw v2 v1 k (z.g 6) λy6=>(.two (y6.i 999=0) (.ax v3) (.ax (y6.i 10=eG (k+1) (z.i 1) (z.i 2) (z.i 3) (z.s 4) (z.g 5) (z.g 6)))))))) (.two ((z.i 2).tmod 10=0) (.ax v0) (.two v7 (.ax v0) (.two (0<v4) (.ax v0) (qw v2 v1 k (z.g 6) λy7=>(.two (y7.i 999=0) (.ax v3) (.ax (y7.i 10=eG (k+1) (z.i 1) (z.i 2) (z.i 3) (z.s 4) (z.g 5) (z.g 6)))))))))))) (.two (z.i 1=5) (.two (z.i 2<0) (.ax v0) (.two (9007199254740992<z.i 2) (.ax v0) (.two v8 (.ax v0) (.two v7 (.ax v0) (.two (0<v4) (.ax v0) (qw v2 v1 k (z.g 6) λy8=>(.two (y8.i 999=0) (.ax v3) (.ax (y8.i 10=eG (k+1) (z.i 1) (z.i 2) (z.i 3) (z.s 4) (z.g 5) (z.g 6)))))))))) (.two (z.i 1=6) (.an (z.i 1=6) (.two v10 (.ax v0) (.two v8 (.ax v0) (.two (0<v4) (.ax v0) (.two i9 (.ax v6) (qw v2 v1 k (z.g 6) λy9=>(.two (y9.i 999=0) (.ax v3) (.ax (y9.i 10=eG (k+1) (z.i 1) (z.i 2) (z.i 3) (z.s 4) (z.g 5) (z.g 6)))))))))) (.two (z.i 1=7) (.two v10 (.ax v0) (.two v8 (.ax v0) (.two (0<v4) (.ax v0) (.two i9 (.ax v6) (qw v2 v1 k (z.g 6) λC'=>(.two (C'.i 999=0) (.ax v3) (.ax (C'.i 10=eG (k+1) (z.i 1) (z.i 2) (z.i 3) (z.s 4) (z.g 5) (z.g 6))))))))) (.two v11 (.an v11 (.two v10 (.ax v0) (.two v8 (.ax v0) (.two v7 (.ax v0) (.an v11 (.two (0<v4) (.ax v0) (.an (¬(200<v9)) (.an v11 (qw v2 v1 k (z.g 6) λy11=>(.two (y11.i 999=0) (.ax v3) (.ax (y11.i 10=eG (k+1) (z.i 1) (z.i 2) (z.i 3) (z.s 4) (z.g 5) (z.g 6))))))))))))) (.two (z.i 1=9) (.two v10 (.ax v0) (.two v8 (.ax v0) (.two v7 (.ax v0) (.an (¬v11) (.an (¬(200<v9)) (.an (¬v11) (.two (v4≠v9) (.ax v0) (.cl v5 d7 (λy12=>(y12.i 999=0->gD (z.g 5) v4)/\(¬y12.i 999=0->y12.i 10=3/\¬gD (z.g 5) v4)) λy12=>(.two (y12.i 999=0) (qw v2 v1 k (z.g 6) λR'=>(.two (R'.i 999=0) (.ax v3) (.ax (R'.i 10=eG (k+1) (z.i 1) (z.i 2) (z.i 3) (z.s 4) (z.g 5) (z.g 6))))) (.ax (y12.i 10=eG (k+1) (z.i 1) (z.i 2) (z.i 3) (z.s 4) (z.g 5) (z.g 6)))))))))))) (.ax v0))))))))))))) by dsimp only [x_,fY,va,xZ,vX] at hA;have:=hv0 z;have:=@F4 (z.i 1) (z.i 2) (z.i 3) (z.s 4) (z.g 5) (z.g 6);have:=@F5 (z.i 1) (z.i 2) (z.i 3) (z.s 4) (z.g 5) (z.g 6);have:=@Bg (z.i 1) (z.i 2) (z.i 3) (z.s 4) (z.g 5) (z.g 6);have:=@F6 (z.i 1) (z.i 2) (z.i 3) (z.s 4) (z.g 5) (z.g 6);have:=Jx z;have:=@F7 (z.i 1) (z.i 2) (z.i 3) (z.s 4) (z.g 5) (z.g 6);have:=@F8 (z.i 1) (z.i 2) (z.i 3) (z.s 4) (z.g 5) (z.g 6);have:=@F9 (z.i 1) (z.i 2) (z.i 3) (z.s 4) (z.g 5) (z.g 6);have:=@Nb (z.i 1) (z.i 2) (z.i 3) (z.s 4) (z.g 5) (z.g 6);have:=@Bh (z.i 1) (z.i 2) (z.i 3) (z.s 4) (z.g 5) (z.g 6);have:=@Bi (z.i 1) (z.i 2) (z.i 3) (z.s 4) (z.g 5) (z.g 6);have f3:=@Bj (z.i 1) (z.i 2) (z.i 3) (z.s 4) (z.g 5) (z.g 6);have f4:=@DC (z.i 1) (z.i 2) (z.i 3) (z.s 4) (z.g 5) (z.g 6);have:=tm10 (z.i 2);dsimp only [py] at f3 f4;have:=hv8 k z;have:=hv9 k z;have:=@Be (z.g 5) 0;have:=Sb k z;have:=hv3 k z;exact kf
def Nx:bj 108 Ge:=bB 1 0 (ai (wg 16) eN) lN λz hA=>show Fm.den ((.ct ((1:Int)=17-16/\16<=16/\ti 16 (z.i 2) (z.s 4) (z.g 5) (z.g 6)) (λy0=>y0.i 10=eG 16 (z.i 1) (z.i 2) (z.i 3) (z.s 4) (z.g 5) (z.g 6)) λy0=>(.ax (y0.i 10=eG 16 (z.i 1) (z.i 2) (z.i 3) (z.s 4) (z.g 5) (z.g 6))))) by dsimp only [Ge,qW,va,xZ,vX] at hA;exact kf
abbrev qh(a:Int):=0<=a/\a<=2000000
def JC(k:Nat)(am0:bj 109 (DH k)):bH 109 0 (Bv k):=bG 6 37 (ai am0 eN) lN λp z hA=>show Fm.den (let v0:=(aL (p.g 6) (z.i 9));let v1:=(DI (p.g 6) (p.g 5) (p.s 4) (p.i 3) (p.i 2) (p.i 1));let v3:=(vW k (p.g 6) 0);let v2:=((qh (z.i 7))/\(z.i 7<=65536->p.i 7+ ↑v3=z.i 7)/\(65536<z.i 7->65536<p.i 7+(↑v3:Int)));let v4:=(↑(R_ k (gS (aa v0 3)) (gL (aa v0 5))):Int);(.two (bO (z.i 9) (p.g 6)) (.two (z.i 7<=65536) (.an (bS (z.i 9) (p.g 6)) (.ct (eG k (gI (aa v0 0)) (gI (aa v0 1)) (gI (aa v0 2)) (gS (aa v0 3)) (gL (aa v0 4)) (gL (aa v0 5))=(0:Int)/\0<=z.i 7/\z.i 7<=65536) (λy0=>(qh (y0.i 7))/\(y0.i 7<=65536->z.i 7+v4=y0.i 7)/\(65536<y0.i 7->65536<z.i 7+v4)/\(y0.p 10↔65536<y0.i 7)) λy0=>(.an ((-9223372036854775808)<=z.i 9+1/\z.i 9+1<=9223372036854775807) (.an v1 (.at ((eE k (p.g 6) 0=0/\(p.g 6).length<=200/\(dF (z.i 9) (p.g 6))/\(qh (y0.i 7))/\(y0.i 7<=65536->p.i 7+ ↑v3=y0.i 7+ ↑(vW k (p.g 6) (z.i 9+1)))/\(65536<y0.i 7->65536<p.i 7+(↑v3:Int)))/\((↑(p.g 6).length:Int)-(z.i 9+1)).toNat<((↑(p.g 6).length:Int)-z.i 9).toNat/\∀(y:Sy),(0<=y.i 7/\y.i 7<=2000000)/\(y.i 7<=65536->p.i 7+ ↑v3=y.i 7)/\(65536<y.i 7->65536<p.i 7+(↑v3:Int))->(0<=y.i 7/\y.i 7<=2000000)/\(y.i 7<=65536->p.i 7+ ↑v3=y.i 7)/\(65536<y.i 7->65536<p.i 7+(↑v3:Int)))))))) (.an v1 (.at v2))) (.an v1 (.at v2)))) by dsimp only [Bv,vp] at hA;have:=@Bp k (p.g 6) (z.i 9);have:=@xY k (p.g 6) (z.i 9);have:=DD k (aq (p.g 6) (z.i 9).toNat);have:=gE k (aq (p.g 6) (z.i 9).toNat);have:=hv4 k p z;exact kf
def By:∀k,bj 109 (DH k)
 |0=>QO λz h=>absurd ((gG _ _ _ _ _ _).symm.trans h.1) (by decide)
 |k+1=>bB 4 6 eN (aG (ptm:=[(0,.ag va),(14,.c (.i .i64 7))]) (JC k (By k)) lN) λz hA=>show Fm.den (let v0:=(↑(z.s 4).length:Int);let v1:=(vW k (z.g 6) 0);let v2:=((DI (z.g 6) (z.g 5) (z.s 4) (z.i 3) (z.i 2) (z.i 1)));let v3:=(z.i 7+1+v0);let v4:=(R_ (k+1) (z.s 4) (z.g 6));let v5:=(fL (↑(z.g 6).length:Int));let v6:=(↑v1:Int);(.an ((-9223372036854775808)<=z.i 7+1/\z.i 7+1<=9223372036854775807) (.two ((-9223372036854775808)<=z.i 7+1+v0/\z.i 7+1+ ↑(z.s 4).length<=9223372036854775807) (.cl v2 (eE k (z.g 6) 0=0/\(z.g 6).length<=200/\v5/\(0<=z.i 7+1+v0/\z.i 7+1+ ↑(z.s 4).length<=2000000)/\(z.i 7+1+ ↑(z.s 4).length<=65536->z.i 7+1+ ↑(z.s 4).length+ ↑v1=z.i 7+1+ ↑(z.s 4).length+ ↑v1)/\(65536<z.i 7+1+v0->65536<z.i 7+1+v0+v6)) (λy0=>(qh (y0.i 7))/\(y0.i 7<=65536->z.i 7+1+ ↑(z.s 4).length+ ↑v1=y0.i 7)/\(65536<y0.i 7->65536<z.i 7+1+v0+v6)) λy0=>(.ax ((qh (y0.i 7))/\(y0.i 7<=65536->z.i 7+ ↑v4=y0.i 7)/\(65536<y0.i 7->65536<z.i 7+(↑v4:Int))/\(65536<y0.i 7↔65536<y0.i 7)))) (.cl v2 (eE k (z.g 6) 0=0/\(z.g 6).length<=200/\v5/\(0<=IntKind.i64.wrap v3/\IntKind.i64.wrap v3<=2000000)/\(IntKind.i64.wrap v3<=65536->IntKind.i64.wrap v3+ ↑v1=IntKind.i64.wrap v3+ ↑v1)/\(65536<IntKind.i64.wrap v3->65536<IntKind.i64.wrap v3+v6)) (λy1=>(qh (y1.i 7))/\(y1.i 7<=65536->IntKind.i64.wrap v3+ ↑v1=y1.i 7)/\(65536<y1.i 7->65536<IntKind.i64.wrap v3+v6)) λy1=>(.ax ((qh (y1.i 7))/\(y1.i 7<=65536->z.i 7+ ↑v4=y1.i 7)/\(65536<y1.i 7->65536<z.i 7+(↑v4:Int))/\(65536<y1.i 7↔65536<y1.i 7))))))) by dsimp only [DH,va,vX] at hA;have:=hv8 k z;have:=hv9 k z;have:=Xf z;have:=Nh k (z.s 4) (z.g 6);exact kf
abbrev Tq88(a:Prop)(b c d:Int)(e:List Nat)(f g:List G):=Fm.cl (a) (eG 16 b c d e f g=(0:Int)/\ti 16 c e f g/\0+xW 16 e g<=100000000) (λy=>y.s 20= []++dM 16 b c d e f g)
def pC:bj 49 Bu:=bB 7 273 (ai Nx (ai (By 16) (ai (Bx 16) eN))) lN λz hA=>show Fm.den (let v0:=(ib (z.i 1) (z.i 2) (z.i 3) (z.s 4) (z.g 5) (z.g 6)=(0:Int)-> []=dM 16 (z.i 1) (z.i 2) (z.i 3) (z.s 4) (z.g 5) (z.g 6)/\(dM 16 (z.i 1) (z.i 2) (z.i 3) (z.s 4) (z.g 5) (z.g 6)).length<=65536);let v1:=((5:Int)=ib (z.i 1) (z.i 2) (z.i 3) (z.s 4) (z.g 5) (z.g 6)/\v0/\(¬ib (z.i 1) (z.i 2) (z.i 3) (z.s 4) (z.g 5) (z.g 6)=(0:Int)->mG));let v2:=(↑(R_ 16 (z.s 4) (z.g 6)):Int);(.ct (ti 16 (z.i 2) (z.s 4) (z.g 5) (z.g 6)) (λy0=>y0.i 10=eG 16 (z.i 1) (z.i 2) (z.i 3) (z.s 4) (z.g 5) (z.g 6)) λy0=>(.two (y0.i 10≠0) (.ax (y0.i 10=ib (z.i 1) (z.i 2) (z.i 3) (z.s 4) (z.g 5) (z.g 6)/\v0/\(¬ib (z.i 1) (z.i 2) (z.i 3) (z.s 4) (z.g 5) (z.g 6)=(0:Int)->mG))) (.ct (eG 16 (z.i 1) (z.i 2) (z.i 3) (z.s 4) (z.g 5) (z.g 6)=(0:Int)/\(0:Int)<=0/\(0:Int)<=65536) (λy1=>(qh (y1.i 7))/\(y1.i 7<=65536->0+v2=y1.i 7)/\(65536<y1.i 7->65536<0+v2)/\(y1.p 10↔65536<y1.i 7)) λy1=>(.two (y1.p 10) (.ax v1) (Tq88 (nW) (z.i 1) (z.i 2) (z.i 3) (z.s 4) (z.g 5) (z.g 6) λy2=>(.two (65536<(↑(y2.s 20).length:Int)) (.ax v1) (.an (pu (y2.s 20)) (.at ((0:Int)=ib (z.i 1) (z.i 2) (z.i 3) (z.s 4) (z.g 5) (z.g 6)/\(ib (z.i 1) (z.i 2) (z.i 3) (z.s 4) (z.g 5) (z.g 6)=(0:Int)->y2.s 20=dM 16 (z.i 1) (z.i 2) (z.i 3) (z.s 4) (z.g 5) (z.g 6)/\(dM 16 (z.i 1) (z.i 2) (z.i 3) (z.s 4) (z.g 5) (z.g 6)).length<=65536)/\(¬ib (z.i 1) (z.i 2) (z.i 3) (z.s 4) (z.g 5) (z.g 6)=(0:Int)->y2.s 20= []))))))))))) by dsimp only [Bu,qX,va,Zc,xZ,U8,Nk] at hA;have:=@Gf (z.i 1) (z.i 2) (z.i 3) (z.s 4) (z.g 5) (z.g 6);have:=@Bs (z.i 1) (z.i 2) (z.i 3) (z.s 4) (z.g 5) (z.g 6);have:=@DF (z.i 1) (z.i 2) (z.i 3) (z.s 4) (z.g 5) (z.g 6);have v1:=Gm z;have v2:=Nw z;dsimp only [vX,Nk,xZ] at v1 v2;exact kf
abbrev Zd(a:Int)(b:List Nat)(c d:List G)(e f:Int)(g:List Nat):=Fm.ct (ti 16 a b c d/\xW 16 b d<=10000000) (λy=>y.i 11=ib e a f b c d/\(ib e a f b c d=(0:Int)->y.s 10=dM 16 e a f b c d/\g.length<=65536)/\(¬ib e a f b c d=(0:Int)->y.s 10= []))
abbrev Ny(a:List Nat):=Fm.ct (a.length<=999999) (λy=>hT y 300=aA a)
def Gn:bj 20 No:=bB 3 1 (ai pC (ai xR eN)) lN λz hA=>show Fm.den ((Zd (z.i 2) (z.s 4) (z.g 5) (z.g 6) (z.i 1) (z.i 3) (dM 16 (z.i 1) (z.i 2) (z.i 3) (z.s 4) (z.g 5) (z.g 6)) λy0=>(.two (y0.i 11≠0) (.ax (y0.i 11=ib (z.i 1) (z.i 2) (z.i 3) (z.s 4) (z.g 5) (z.g 6)/\hZ=DG (z.i 1) (z.i 2) (z.i 3) (z.s 4) (z.g 5) (z.g 6))) (Ny (y0.s 10) λy1=>(.ax ((0:Int)=ib (z.i 1) (z.i 2) (z.i 3) (z.s 4) (z.g 5) (z.g 6)/\hT y1 300=DG (z.i 1) (z.i 2) (z.i 3) (z.s 4) (z.g 5) (z.g 6))))))) by dsimp only [No,Gh,va,Zc,xZ,U8,ehY] at hA;have:=@Nn (z.i 1) (z.i 2) (z.i 3) (z.s 4) (z.g 5) (z.g 6);have:=@Gg (z.i 1) (z.i 2) (z.i 3) (z.s 4) (z.g 5) (z.g 6);exact kf
def tl:bj 164 qX:=bB 5 17 (ai Nq (ai (Nv 16) eN)) lN λz hA=>show Fm.den (let v0:=(ib (z.i 1) (z.i 2) (z.i 3) (z.s 4) (z.g 5) (z.g 6)=(0:Int)-> []=dM 16 (z.i 1) (z.i 2) (z.i 3) (z.s 4) (z.g 5) (z.g 6)/\(dM 16 (z.i 1) (z.i 2) (z.i 3) (z.s 4) (z.g 5) (z.g 6)).length<=65536);let v1:=(¬ib (z.i 1) (z.i 2) (z.i 3) (z.s 4) (z.g 5) (z.g 6)=(0:Int)->mG);(.ct (ti 16 (z.i 2) (z.s 4) (z.g 5) (z.g 6)) (λy0=>y0.i 10=eG 16 (z.i 1) (z.i 2) (z.i 3) (z.s 4) (z.g 5) (z.g 6)) λy0=>(.two (y0.i 10≠0) (.ax (y0.i 10=ib (z.i 1) (z.i 2) (z.i 3) (z.s 4) (z.g 5) (z.g 6)/\v0/\v1)) (Tq88 (nW) (z.i 1) (z.i 2) (z.i 3) (z.s 4) (z.g 5) (z.g 6) λy1=>(.two (65536<(↑(y1.s 20).length:Int)) (.ax ((5:Int)=ib (z.i 1) (z.i 2) (z.i 3) (z.s 4) (z.g 5) (z.g 6)/\v0/\v1)) (.an (pu (y1.s 20)) (.at ((0:Int)=ib (z.i 1) (z.i 2) (z.i 3) (z.s 4) (z.g 5) (z.g 6)/\(ib (z.i 1) (z.i 2) (z.i 3) (z.s 4) (z.g 5) (z.g 6)=(0:Int)->y1.s 20=dM 16 (z.i 1) (z.i 2) (z.i 3) (z.s 4) (z.g 5) (z.g 6)/\(dM 16 (z.i 1) (z.i 2) (z.i 3) (z.s 4) (z.g 5) (z.g 6)).length<=65536)/\(¬ib (z.i 1) (z.i 2) (z.i 3) (z.s 4) (z.g 5) (z.g 6)=(0:Int)->y1.s 20= []))))))))) by dsimp only [qX,va,Zc,xZ,U8,Nk] at hA;have:=@Gf (z.i 1) (z.i 2) (z.i 3) (z.s 4) (z.g 5) (z.g 6);have:=@Bs (z.i 1) (z.i 2) (z.i 3) (z.s 4) (z.g 5) (z.g 6);have:=@DF (z.i 1) (z.i 2) (z.i 3) (z.s 4) (z.g 5) (z.g 6);have v1:=Gm z;have v2:=Nw z;dsimp only [vX,Nk,xZ] at v1 v2;exact kf
def Xg:bj 95 Gh:=bB 3 1 (ai tl (ai F2 eN)) lN λz hA=>show Fm.den ((Zd (z.i 2) (z.s 4) (z.g 5) (z.g 6) (z.i 1) (z.i 3) (dM 16 (z.i 1) (z.i 2) (z.i 3) (z.s 4) (z.g 5) (z.g 6)) λy0=>(.two (y0.i 11≠0) (.ax (y0.i 11=ib (z.i 1) (z.i 2) (z.i 3) (z.s 4) (z.g 5) (z.g 6)/\hZ=DG (z.i 1) (z.i 2) (z.i 3) (z.s 4) (z.g 5) (z.g 6))) (Ny (y0.s 10) λy1=>(.ax ((0:Int)=ib (z.i 1) (z.i 2) (z.i 3) (z.s 4) (z.g 5) (z.g 6)/\hT y1 300=DG (z.i 1) (z.i 2) (z.i 3) (z.s 4) (z.g 5) (z.g 6))))))) by dsimp only [Gh,va,Zc,xZ,U8,ehY] at hA;have:=@Nn (z.i 1) (z.i 2) (z.i 3) (z.s 4) (z.g 5) (z.g 6);have:=@Gg (z.i 1) (z.i 2) (z.i 3) (z.s 4) (z.g 5) (z.g 6);exact kf
noncomputable section
def iz(kd i sc:Int)(t:List Nat)(ns ks:List G):Prop:=kd=0/\i=0/\sc=0/\t= []/\ns.length=0/\ks.length=0
def br(kd i sc:Int)(t:List Nat)(ns ks:List G):iz kd i sc t ns ks↔kd=0/\i=0/\sc=0/\t= []/\ns.length=0/\ks.length=0:=Iff.rfl
def ic(kd:Int)(tx:List Nat)(tb dc vr:Int)(bl hz gn:Prop)(ab ae:Int):Prop:=
 if kd=1 then(1<=tx.length/\tx.length<=4096)/\tb=0/\dc=0/\vr=0/\bl/\hz/\¬gn/\ab=0/\ae=0
 else if kd=2 then(1<=tb/\tb<=64)/\(1<=dc/\dc<=65536)/\(0<=vr/\vr<=2147483648)/\tx= []/\ab=0/\ae=0/\(gn->bl)
 else if kd=3 then(1<=tb/\tb<=64)/\(1<=dc/\dc<=65536)/\(1<=vr/\vr<=2147483648)/\tx= []/\bl/\hz/\¬gn/\ab=0/\ae=0
 else if kd=4 then(0<=ab/\ab<=2147483648)/\(0<=ae/\ae<=2147483648)/\tx= []/\tb=0/\dc=0/\vr=0/\bl/\hz/\¬gn
 else if kd=5 then(1<=tb/\tb<=64)/\(1<=tx.length/\tx.length<=40)/\dc=0/\vr=0/\bl/\hz/\¬gn/\ab=0/\ae=0
 else if kd=7 then(1<=tb/\tb<=64)/\(1<=tx.length/\tx.length<=40)/\dc=0/\vr=0/\bl/\hz/\¬gn/\ab=0/\ae=0
 else if kd=6 then(1<=tb/\tb<=64)/\tx= []/\dc=0/\vr=0/\bl/\hz/\¬gn/\ab=0/\ae=0
 else False
section
variable{kd:Int}{tx:List Nat}{tb dc vr:Int}{bl hz gn:Prop}{ab ae:Int}
def Bz(h:kd=1):ic kd tx tb dc vr bl hz gn ab ae↔(1<=tx.length/\tx.length<=4096)/\tb=0/\dc=0/\vr=0/\bl/\hz/\¬gn/\ab=0/\ae=0:=by subst h;rfl
def BA(h:kd=2):ic kd tx tb dc vr bl hz gn ab ae↔(1<=tb/\tb<=64)/\(1<=dc/\dc<=65536)/\(0<=vr/\vr<=2147483648)/\tx= []/\ab=0/\ae=0/\(gn->bl):=by subst h;rfl
def Gp(h:kd=3):ic kd tx tb dc vr bl hz gn ab ae↔(1<=tb/\tb<=64)/\(1<=dc/\dc<=65536)/\(1<=vr/\vr<=2147483648)/\tx= []/\bl/\hz/\¬gn/\ab=0/\ae=0:=by subst h;rfl
def Gq(h:kd=4):ic kd tx tb dc vr bl hz gn ab ae↔(0<=ab/\ab<=2147483648)/\(0<=ae/\ae<=2147483648)/\tx= []/\tb=0/\dc=0/\vr=0/\bl/\hz/\¬gn:=by subst h;rfl
def Gr(h:kd=5):ic kd tx tb dc vr bl hz gn ab ae↔(1<=tb/\tb<=64)/\(1<=tx.length/\tx.length<=40)/\dc=0/\vr=0/\bl/\hz/\¬gn/\ab=0/\ae=0:=by subst h;rfl
def Gs(h:kd=7):ic kd tx tb dc vr bl hz gn ab ae↔(1<=tb/\tb<=64)/\(1<=tx.length/\tx.length<=40)/\dc=0/\vr=0/\bl/\hz/\¬gn/\ab=0/\ae=0:=by subst h;rfl
def Gt(h:kd=6):ic kd tx tb dc vr bl hz gn ab ae↔(1<=tb/\tb<=64)/\tx= []/\dc=0/\vr=0/\bl/\hz/\¬gn/\ab=0/\ae=0:=by subst h;rfl
def Nz(h:kd<1∨7<kd):¬ic kd tx tb dc vr bl hz gn ab ae:=by unfold ic;rw[if_neg (by omega),if_neg (by omega),if_neg (by omega),if_neg (by omega),if_neg (by omega),if_neg (by omega),if_neg (by omega)];exact id
def NA(h:ic kd tx tb dc vr bl hz gn ab ae):1<=kd/\kd<=7:=by
 by_cases e:kd<1∨7<kd
 ·exact absurd h (Nz e)
 ·omega
def iA(h:ic kd tx tb dc vr bl hz gn ab ae):(0<=tb/\tb<=64)/\(0<=dc/\dc<=65536)/\(0<=vr/\vr<=2147483648)/\tx.length<=4096/\(0<=ab/\ab<=2147483648)/\(0<=ae/\ae<=2147483648):=by
 obtain⟨h1,h2⟩:=NA h;have hd:kd=1∨kd=2∨kd=3∨kd=4∨kd=5∨kd=6∨kd=7:=by omega
 have t0:tx= []->tx.length=0:=λe=>by rw[e];rfl
 rcases hd with e|e|e|e|e|e|e
 ·have:=(Bz e).1 h;refine⟨?_, ?_, ?_, ?_, ?_, ?_⟩ <;> omega
 ·have:=(BA e).1 h;have:=t0 this.2.2.2.1;refine⟨?_, ?_, ?_, ?_, ?_, ?_⟩ <;> omega
 ·have:=(Gp e).1 h;have:=t0 this.2.2.2.1;refine⟨?_, ?_, ?_, ?_, ?_, ?_⟩ <;> omega
 ·have:=(Gq e).1 h;have:=t0 this.2.2.1;refine⟨?_, ?_, ?_, ?_, ?_, ?_⟩ <;> omega
 ·have:=(Gr e).1 h;refine⟨?_, ?_, ?_, ?_, ?_, ?_⟩ <;> omega
 ·have:=(Gt e).1 h;have:=t0 this.2.1;refine⟨?_, ?_, ?_, ?_, ?_, ?_⟩ <;> omega
 ·have:=(Gs e).1 h;refine⟨?_, ?_, ?_, ?_, ?_, ?_⟩ <;> omega
end
def BB{a b:Nat}:Nat.lor a b=0↔a=0/\b=0:=by
 constructor
 ·intro h;have h:a ||| b=0:=h;exact Nat.or_eq_zero_iff.1 h
 ·rintro⟨rfl,rfl⟩;rfl
def tp{n:Int}(h: -9223372036854775808<=n/\n<9223372036854775808):aE (am .i64) n=0↔n=0:=by
 cases n with
 |ofNat m=>
  show m%18446744073709551616=0↔_;have:(m:Int)<9223372036854775808:=h.2;constructor
  ·intro e;have:m=0:=by omega
   subst this;rfl
  ·intro e;have:m=0:=by simpa using e
   subst this;rfl
 |negSucc m=>
  show 18446744073709551615-m%18446744073709551616=0↔_;have:=h.1;constructor
  ·intro e;omega
  ·intro e;cases e
def DO(n:Int):aE (am .i64) n<18446744073709551616:=by
 cases n with
 |ofNat m=>exact Nat.mod_lt _ (by decide)
 |negSucc m=>show 18446744073709551615-m%18446744073709551616<_;omega
def tq{u:Nat}(h:u<18446744073709551616):IntKind.i64.wrap (Int.ofNat u)=0↔u=0:=by
 have:=W_ (Int.ofNat u);constructor
 ·intro e;rw[e] at this;have e2:(Int.ofNat u)%18446744073709551616=(u:Int):=by show(u:Int)%_=_;omega
  omega
 ·rintro rfl;rfl
def NB(u:Nat)(h:u<18446744073709551616):aE (am .i64) (IntKind.i64.wrap (Int.ofNat u))=u:=by
 have h1:=W_ (Int.ofNat u)
 have h1:IntKind.i64.wrap (Int.ofNat u)%18446744073709551616=(u:Int):=by rw[h1];show(u:Int)%_=_;omega
 generalize IntKind.i64.wrap (Int.ofNat u)=n at h1
 cases n with
 |ofNat m=>show m%18446744073709551616=u;have h1:(m:Int)%18446744073709551616=u:=h1;omega
 |negSucc m=>show 18446744073709551615-m%18446744073709551616=u;have h1:(Int.negSucc m)%18446744073709551616=u:=h1;omega
def or3{x y z:Int}(hx: -9223372036854775808<=x/\x<9223372036854775808)(hy: -9223372036854775808<=y/\y<9223372036854775808)(hz: -9223372036854775808<=z/\z<9223372036854775808):
 IntKind.i64.wrap (Int.ofNat ((aE (am .i64) (IntKind.i64.wrap (Int.ofNat ((aE (am .i64) x).lor (aE (am .i64) y))))).lor (aE (am .i64) z)))=0↔x=0/\y=0/\z=0:=by
 have l1:(aE (am .i64) x).lor (aE (am .i64) y)<18446744073709551616:=Nat.or_lt_two_pow (n:=64) (DO x) (DO y)
 have l2:((aE (am .i64) x).lor (aE (am .i64) y)).lor (aE (am .i64) z)<18446744073709551616:=Nat.or_lt_two_pow (n:=64) l1 (DO z)
 rw[NB _ l1,tq l2,BB,BB,tp hx,tp hy,tp hz,and_assoc]
def cR(kd:Int)(tx:List Nat)(tb dc vr vk vi vs:Int)(vt:List Nat)(vn vx:List G)(h:G)(gn:Prop)(ab ae:Int):Int:=
 @ite Int (¬ic kd tx tb dc vr (iz vk vi vs vt vn vx) (h=hZ) gn ab ae) (Classical.propDecidable _) 3
  (@ite Int (kd=2/\¬gn) (Classical.propDecidable _) (@ite Int (ib vk vi vs vt vn vx=0) (Classical.propDecidable _) (@ite Int (DG vk vi vs vt vn vx=h) (Classical.propDecidable _) 0 18) (ib vk vi vs vt vn vx)) 0)
section
variable{kd:Int}{tx:List Nat}{tb dc vr vk vi vs:Int}{vt:List Nat}{vn vx:List G}{h:G}{gn:Prop}{ab ae:Int}
def fA(h1:¬ic kd tx tb dc vr (iz vk vi vs vt vn vx) (h=hZ) gn ab ae):cR kd tx tb dc vr vk vi vs vt vn vx h gn ab ae=3:=if_pos h1
def fB(h1:ic kd tx tb dc vr (iz vk vi vs vt vn vx) (h=hZ) gn ab ae)(h2:¬(kd=2/\¬gn)):cR kd tx tb dc vr vk vi vs vt vn vx h gn ab ae=0:=by unfold cR;rw[if_neg (Classical.not_not.2 h1),if_neg h2]
def ig(h1:ic kd tx tb dc vr (iz vk vi vs vt vn vx) (h=hZ) gn ab ae)(h2:kd=2/\¬gn)(h3:¬ib vk vi vs vt vn vx=0):cR kd tx tb dc vr vk vi vs vt vn vx h gn ab ae=ib vk vi vs vt vn vx:=by unfold cR;rw[if_neg (Classical.not_not.2 h1),if_pos h2,if_neg h3]
def jK(h1:ic kd tx tb dc vr (iz vk vi vs vt vn vx) (h=hZ) gn ab ae)(h2:kd=2/\¬gn)(h3:ib vk vi vs vt vn vx=0)(h4:¬DG vk vi vs vt vn vx=h):cR kd tx tb dc vr vk vi vs vt vn vx h gn ab ae=18:=by unfold cR;rw[if_neg (Classical.not_not.2 h1),if_pos h2,if_pos h3,if_neg h4]
def kU(h1:ic kd tx tb dc vr (iz vk vi vs vt vn vx) (h=hZ) gn ab ae)(h2:kd=2/\¬gn)(h3:ib vk vi vs vt vn vx=0)(h4:DG vk vi vs vt vn vx=h):cR kd tx tb dc vr vk vi vs vt vn vx h gn ab ae=0:=by unfold cR;rw[if_neg (Classical.not_not.2 h1),if_pos h2,if_pos h3,if_pos h4]
def da(h0:cR kd tx tb dc vr vk vi vs vt vn vx h gn ab ae=0):ic kd tx tb dc vr (iz vk vi vs vt vn vx) (h=hZ) gn ab ae/\(kd=2/\¬gn->ib vk vi vs vt vn vx=0):=by
 by_cases h1:ic kd tx tb dc vr (iz vk vi vs vt vn vx) (h=hZ) gn ab ae
 ·refine⟨h1,λh2=>?_⟩;by_cases h3:ib vk vi vs vt vn vx=0
  ·exact h3
  ·rw[ig h1 h2 h3] at h0;exact absurd h0 h3
 ·rw[fA h1] at h0;cases h0
end
def mX(tx:List Nat)(tb dc vr vi:Int)(vt:List Nat)(vn vx:List G)(h:G)(ab ae:Int):Prop:=
 tx.length<=1000000/\(-9223372036854775808<=tb/\tb<9223372036854775808)/\(-9223372036854775808<=dc/\dc<9223372036854775808)/\(-9223372036854775808<=vr/\vr<9223372036854775808)/\
 (-9223372036854775808<=ab/\ab<9223372036854775808)/\(-9223372036854775808<=ae/\ae<9223372036854775808)/\ti 16 vi vt vn vx/\xW 16 vt vx<=10000000/\HOk h
def cO{tx:List Nat}{tb dc vr vi:Int}{vt:List Nat}{vn vx:List G}{h:G}{ab ae:Int}(h0:mX tx tb dc vr vi vt vn vx h ab ae):tx.length<=1000000/\(-9223372036854775808<=tb/\tb<9223372036854775808)/\(-9223372036854775808<=dc/\dc<9223372036854775808)/\(-9223372036854775808<=vr/\vr<9223372036854775808)/\
 (-9223372036854775808<=ab/\ab<9223372036854775808)/\(-9223372036854775808<=ae/\ae<9223372036854775808)/\ti 16 vi vt vn vx/\xW 16 vt vx<=10000000/\HOk h:=h0
def cu(kd:Int)(tx:List Nat)(tb dc vr:Int)(h:G)(ab ae:Int):List Nat:=
 (kd%256).toNat::(aH tb.toNat++(aH dc.toNat++(aH vr.toNat++(aH tx.length++(tx++(aH ab.toNat++(aH ae.toNat++(if kd=2 then hB h else []))))))))
def yb{kd:Int}{tx:List Nat}{tb dc vr:Int}{h:G}{ab ae:Int}(e:kd=2):cu kd tx tb dc vr h ab ae= [(kd%256).toNat]++(aH tb.toNat++(aH dc.toNat++(aH vr.toNat++(aH tx.length++(tx++(aH ab.toNat++(aH ae.toNat++hB h))))))):=by unfold cu;rw[if_pos e];rfl
def tr{kd:Int}{tx:List Nat}{tb dc vr:Int}{h:G}{ab ae:Int}(e:¬kd=2):cu kd tx tb dc vr h ab ae= [(kd%256).toNat]++(aH tb.toNat++(aH dc.toNat++(aH vr.toNat++(aH tx.length++(tx++(aH ab.toNat++aH ae.toNat)))))):=by unfold cu;rw[if_neg e,abb];rfl
theorem bM{n:Int}(h:n<18446744073709551616):(aH n.toNat).length<=10:=cS h
theorem fC{n:Nat}(h:n<18446744073709551616):(aH n).length<=10:=xL 10 n (aa4 h (by decide)) (by decide)
def fZ{kd:Int}{tx:List Nat}{tb dc vr:Int}{h:G}{ab ae:Int}(h1:tb<9223372036854775808)(h2:dc<9223372036854775808)(h3:vr<9223372036854775808)(h4:ab<9223372036854775808)(h5:ae<9223372036854775808)(h6:tx.length<=1000000)(h7:HOk h):(cu kd tx tb dc vr h ab ae).length<=93+tx.length:=by have a1:=bM (n:=tb) (by omega);have a2:=bM (n:=dc) (by omega);have a3:=bM (n:=vr) (by omega);have a4:=bM (n:=ab) (by omega);have a5:=bM (n:=ae) (by omega);have a6:=fC (n:=tx.length) (by omega);have a7:=e_ h7;unfold cu;split <;> simp [a7] <;> omega
abbrev me(e:G):Int:=cR (gI (aa e 0)) (gS (aa e 1)) (gI (aa e 2)) (gI (aa e 3)) (gI (aa e 4)) (gI (aa e 5)) (gI (aa e 6)) (gI (aa e 7)) (gS (aa e 8)) (gL (aa e 9)) (gL (aa e 10)) (hX (aa e 11)) (gI (aa e 12)=1) (gI (aa e 13)) (gI (aa e 14))
abbrev wh(e:G):Prop:=mX (gS (aa e 1)) (gI (aa e 2)) (gI (aa e 3)) (gI (aa e 4)) (gI (aa e 6)) (gS (aa e 8)) (gL (aa e 9)) (gL (aa e 10)) (hX (aa e 11)) (gI (aa e 13)) (gI (aa e 14))
abbrev uk(e:G):List Nat:=cu (gI (aa e 0)) (gS (aa e 1)) (gI (aa e 2)) (gI (aa e 3)) (gI (aa e 4)) (hX (aa e 11)) (gI (aa e 13)) (gI (aa e 14))
abbrev kj(e:G):List Nat:=dM 16 (gI (aa e 5)) (gI (aa e 6)) (gI (aa e 7)) (gS (aa e 8)) (gL (aa e 9)) (gL (aa e 10))
def qY(es:List G):Prop:=∀e∈es,wh e
def tv{es:List G}{i:Int}(h:qY es)(h0:0<=i)(hi:i<es.length):wh (aq es i.toNat):=h _ (bY h0 hi)
def fO(es:List G)(i:Int):Int:=uB ((es.drop i.toNat).map λe=>me e)
def oe{es:List G}{i:Int}(h0:0<=i)(h:i<es.length)(e:me (aq es i.toNat)=0):fO es i=fO es (i+1):=by unfold fO;rw[eH h0 h,aax,uB,if_pos e]
def Gu{es:List G}{i:Int}(h0:0<=i)(h:i<es.length)(e:¬me (aq es i.toNat)=0):fO es i=me (aq es i.toNat):=by unfold fO;rw[eH h0 h,aax,uB,if_neg e]
def yc{es:List G}{i:Int}(h:(es.length:Int)<=i):fO es i=0:=by unfold fO;rw[aaH (by omega)];rfl
def lF{es:List G}{i:Int}(h:fO es 0=0)(h0:0<=i)(hi:i<es.length):me (aq es i.toNat)=0:=
 td h _ (abw (f:=λe=>me e) (by rw[show(0:Int).toNat=0 by rfl,aaT];exact bY h0 hi))
def zA(d:Prop)(e:G):List Nat:=uk e++(@ite _ (gI (aa e 0)=2) (Classical.propDecidable _) (@ite _ (gI (aa e 12)=1∨¬d) (Classical.propDecidable _) [0] (1::(aH (kj e).length++kj e))) [])
def og{d:Prop}{e:G}(h:¬gI (aa e 0)=2):zA d e=uk e:=by unfold zA;rw[if_neg h,abb]
def tw{d:Prop}{e:G}(h:gI (aa e 0)=2)(h1:gI (aa e 12)=1∨¬d):zA d e=uk e++ [0]:=by unfold zA;rw[if_pos h,if_pos h1]
def kV{d:Prop}{e:G}(h:gI (aa e 0)=2)(h1:¬(gI (aa e 12)=1∨¬d)):zA d e=uk e++([1]++(aH (kj e).length++kj e)):=by unfold zA;rw[if_pos h,if_neg h1];rfl
def gg(d:Prop)(es:List G)(i:Int):List Nat:=(es.drop i.toNat).flatMap (zA d)
def oh{d:Prop}{es:List G}{i:Int}(h0:0<=i)(h:i<es.length):gg d es i=zA d (aq es i.toNat)++gg d es (i+1):=by unfold gg;rw[eH h0 h,List.flatMap_cons]
def qZ{d:Prop}{es:List G}{i:Int}(h:(es.length:Int)<=i):gg d es i= []:=by unfold gg;rw[aaH (by omega)];rfl
def kw(ix tm tn:Int)(pv:G):List Nat:=aH ix.toNat++(aH tm.toNat++(aH tn.toNat++hB pv))
def ij{ix tm tn:Int}{pv:G}(h:HOk pv)(h1:ix<9223372036854775808)(h2:tm<9223372036854775808)(h3:tn<9223372036854775808):(kw ix tm tn pv).length<=62:=by have a1:=bM (n:=ix) (by omega);have a2:=bM (n:=tm) (by omega);have a3:=bM (n:=tn) (by omega);have a4:=e_ h;unfold kw;simp [a4];omega
def mY(d:Prop)(ix tm tn:Int)(pv:G)(es:List G):List Nat:=kw ix tm tn pv++(aH es.length++gg d es 0)
def yd(ix tm tn:Int)(es:List G):Prop:=(0<=ix/\ix<=2147483648)/\(0<=tm/\tm<=9007199254740992)/\(0<=tn/\tn<=9007199254740992)/\1<=es.length/\es.length<=200
def bw(ix tm tn:Int)(pv:G)(es:List G):Int:=
 @ite Int (¬yd ix tm tn es) (Classical.propDecidable _) 1 (if fO es 0=0 then(if 262144<(mY True ix tm tn pv es).length then 5 else 0) else fO es 0)
section
variable{ix tm tn:Int}{pv:G}{es:List G}
def jL(h:¬yd ix tm tn es):bw ix tm tn pv es=1:=if_pos h
def jM(h:yd ix tm tn es)(h1:¬fO es 0=0):bw ix tm tn pv es=fO es 0:=by unfold bw;rw[if_neg (Classical.not_not.2 h),if_neg h1]
def gH(h:yd ix tm tn es)(h1:fO es 0=0)(h2:262144<(mY True ix tm tn pv es).length):bw ix tm tn pv es=5:=by unfold bw;rw[if_neg (Classical.not_not.2 h),if_pos h1,if_pos h2]
def mJ(h:yd ix tm tn es)(h1:fO es 0=0)(h2:¬262144<(mY True ix tm tn pv es).length):bw ix tm tn pv es=0:=by unfold bw;rw[if_neg (Classical.not_not.2 h),if_pos h1,if_neg h2]
def fm(h0:bw ix tm tn pv es=0):yd ix tm tn es/\fO es 0=0/\(mY True ix tm tn pv es).length<=262144:=by
 by_cases h:yd ix tm tn es
 ·by_cases h1:fO es 0=0
  ·by_cases h2:262144<(mY True ix tm tn pv es).length
   ·rw[gH h h1 h2] at h0;cases h0
   ·exact⟨h,h1,by omega⟩
  ·rw[jM h h1] at h0;exact absurd h0 h1
 ·rw[jL h] at h0;cases h0
end
def ye{d:Prop}{e:G}(h:me e=0)(hi:wh e):(zA d e).length<=70000:=by
 obtain⟨h1,h2⟩:=da h;have hn:=iA h1;have hl:(uk e).length<=93+(gS (aa e 1)).length:=fZ (kd:=gI (aa e 0)) (tx:=gS (aa e 1)) (tb:=gI (aa e 2)) (dc:=gI (aa e 3)) (vr:=gI (aa e 4)) (h:=hX (aa e 11)) (ab:=gI (aa e 13)) (ae:=gI (aa e 14)) (by omega) (by omega) (by omega) (by omega) (by omega) (by omega) hi.2.2.2.2.2.2.2.2;by_cases hk:gI (aa e 0)=2
 ·by_cases hg:gI (aa e 12)=1∨¬d
  ·rw[tw hk hg,aai];have:([0]:List Nat).length=1:=rfl;omega
  ·rw[kV hk hg];have he:(kj e).length<=65536:=(ya (h2 ⟨hk,λhn=>hg (.inl hn)⟩)).2;have:=fC (n:=(kj e).length) (by omega);rw[aai,aai,aai];have:([1]:List Nat).length=1:=rfl;omega
 ·rw[og hk];omega
def yf{d:Prop}{es:List G}(h:fO es 0=0)(hi:qY es):∀(n:Nat) (i:Int),0<=i->i+n=es.length->(gg d es i).length<=70000 * n
 |0,i,h0,e=>by rw[qZ (by omega)];exact aaq _
 |n+1,i,h0,e=>by have:=yf (d:=d) h hi n (i+1) (by omega) (by omega);have:=ye (d:=d) (lF h h0 (by omega)) (tv hi h0 (by omega));rw[oh h0 (by omega),aai];omega
def NC{d:Prop}{es:List G}(h:fO es 0=0)(hi:qY es)(hn:es.length<=200){i:Int}(h0:0<=i)(h1:i<=es.length):(gg d es i).length<=14000000:=by have:=yf (d:=d) h hi ((es.length:Int)-i).toNat i h0 (by omega);omega
def en:List Sh:=[.i .i64 1,.s 2,.i .i64 3,.i .i64 4,.i .i64 5,.i .i64 6,.i .i64 7,.i .i64 8,.s 9,.v 1 10,.v 2 11]++hs 100++ [.b 12,.i .i64 13,.i .i64 14]
def uC(p:Sy)(t:Nat):List Sh:=(List.range 32).map λj=>.pi .u8 (p.i (t+j))
def bk:List Sh:=[.i .i64 21,.i .i64 22,.i .i64 23]++hs 200++ [.v 7 24]
def mZ(p:Sy):List Sh:=[.pi .i64 (p.i 21),.pi .i64 (p.i 22),.pi .i64 (p.i 23)]++uC p 200++ [.pv 7 (p.g 24)]
abbrev mK(z:Sy):Prop:=iz (z.i 6) (z.i 7) (z.i 8) (z.s 9) (z.g 10) (z.g 11)
abbrev BC(z:Sy):Prop:=ic (z.i 1) (z.s 2) (z.i 3) (z.i 4) (z.i 5) (mK z) (hT z 100=hZ) (z.p 12) (z.i 13) (z.i 14)
abbrev wi(z:Sy):Prop:=mX (z.s 2) (z.i 3) (z.i 4) (z.i 5) (z.i 7) (z.s 9) (z.g 10) (z.g 11) (hT z 100) (z.i 13) (z.i 14)
abbrev ul(z:Sy):Int:=cR (z.i 1) (z.s 2) (z.i 3) (z.i 4) (z.i 5) (z.i 6) (z.i 7) (z.i 8) (z.s 9) (z.g 10) (z.g 11) (hT z 100) (z.p 12) (z.i 13) (z.i 14)
abbrev pD(z:Sy):List Nat:=cu (z.i 1) (z.s 2) (z.i 3) (z.i 4) (z.i 5) (hT z 100) (z.i 13) (z.i 14)
def BD:FSpec:=⟨[.ag en],[],λz=>(-9223372036854775808<=z.i 3/\z.i 3<9223372036854775808)/\(-9223372036854775808<=z.i 4/\z.i 4<9223372036854775808)/\(-9223372036854775808<=z.i 5/\z.i 5<9223372036854775808),λ_=>.one (.c (.b 50)),λ_=>[],λz y=>y.p 50↔(z.s 2= []/\z.i 3=0/\z.i 4=0/\z.i 5=0/\mK z/\hT z 100=hZ/\¬z.p 12/\z.i 13=0/\z.i 14=0),none⟩
def ND:FSpec:=⟨[.ag en],[],wi,λ_=>.one (.c (.b 50)),λ_=>[],λz y=>y.p 50↔BC z,none⟩
def il:FSpec:=⟨[.ag en],[],wi,λ_=>.one (.c (.i .i64 50)),λ_=>[],λz y=>y.i 50=ul z,none⟩
def Gv:FSpec:=⟨[.c (.gb 0 20),.c (.i .i64 1)],[.growb 5 20],λz=>z.i 1<9223372036854775808/\(z.s 20).length<=900000000,λ_=>.one (.c (.gb 0 20)),λ_=>[.growb 5 20],λz y=>y.s 20=z.s 20++aH (z.i 1).toNat,none⟩
def wj:FSpec:=⟨[.c (.gb 0 20),.ag en],[.growb 5 20],λz=>wi z/\(z.s 20).length<=100000000,λ_=>.one (.c (.gb 0 20)),λ_=>[.growb 5 20],λz y=>y.s 20=z.s 20++pD z,none⟩
def Gw:FSpec:=⟨[.ag bk],[],λz=>HOk (hT z 200)/\z.i 21<9223372036854775808/\z.i 22<9223372036854775808/\z.i 23<9223372036854775808,λ_=>.one (.c (.gb 0 20)),λ_=>[.growb 5 20],λz y=>y.s 20=kw (z.i 21) (z.i 22) (z.i 23) (hT z 200),none⟩
abbrev jN(es:List G):Prop:=fO es 0=0/\qY es/\es.length<=200
def Gx(p:Sy):LSpec:=⟨[(1,.c (.pb (p.p 25))),(5,.c (.gb 0 20)),(18,.c (.pv 7 (p.g 24))),(19,.c (.pi .i64 (p.g 24).length)),(20,.c (.i .i64 9))],[.growb 5 20],λz=>jN (p.g 24)/\(0<=z.i 9/\z.i 9<=(p.g 24).length)/\(z.s 20).length+(gg (p.p 25) (p.g 24) (z.i 9)).length<=20000000,λz=>((p.g 24).length-z.i 9).toNat,[⟨.exit 0,[(5,.c (.gb 0 20))],[.growb 5 20]⟩],λz y=>y.s 20=z.s 20++gg (p.p 25) (p.g 24) (z.i 9),none,[]⟩
def Gy:FSpec:=⟨[.ag bk,.c (.b 25)],[],λz=>jN (z.g 24)/\HOk (hT z 200)/\z.i 21<9223372036854775808/\z.i 22<9223372036854775808/\z.i 23<9223372036854775808,λ_=>.one (.c (.vb 10)),λ_=>[],λz y=>y.s 10=mY (z.p 25) (z.i 21) (z.i 22) (z.i 23) (hT z 200) (z.g 24),none⟩
abbrev CJ(z:Sy):Prop:=qY (z.g 24)/\HOk (hT z 200)/\(z.g 24).length<=1000000/\z.i 21<9223372036854775808/\z.i 22<9223372036854775808/\z.i 23<9223372036854775808
def wk(p:Sy):LSpec:=⟨[(1,.c (.p 0)),(30,.c (.pv 7 (p.g 24))),(31,.c (.pi .i64 (p.g 24).length)),(32,.c (.i .i64 9))],[.cells 79 (mZ p)],λz=>qY (p.g 24)/\(p.g 24).length<=200/\(0<=z.i 9/\z.i 9<=(p.g 24).length)/\fO (p.g 24) 0=fO (p.g 24) (z.i 9),λz=>((p.g 24).length-z.i 9).toNat,[⟨.exit 0,[(1,.c (.p 0))],[.cells 79 (mZ p)]⟩,⟨.ret,[(2,.c (.i .i64 50))],[.cells 79 (mZ p)]⟩],λz y=>(y.i 999=0->fO (p.g 24) 0=0)/\(¬y.i 999=0->y.i 50=fO (p.g 24) 0/\¬y.i 50=0),none,[]⟩
def q_:FSpec:=⟨[.ag bk],[],CJ,λ_=>.one (.c (.i .i64 50)),λ_=>[],λz y=>y.i 50=bw (z.i 21) (z.i 22) (z.i 23) (hT z 200) (z.g 24),none⟩
def jO:FSpec:=⟨[.ag en],[],wi,λ_=>.tu [.ag (hs 300),.c (.i .i64 50)],λ_=>[],λz y=>y.i 50=ul z/\(ul z=0->hT y 300=aA (pD z))/\(¬ul z=0->hT y 300=hZ),none⟩
def yg:FSpec:=⟨[.ag bk],[],λz=>HOk (hT z 200)/\z.i 21<9223372036854775808/\z.i 22<9223372036854775808/\z.i 23<9223372036854775808,λ_=>.one (.ag (hs 300)),λ_=>[],λz y=>hT y 300=ci (kw (z.i 21) (z.i 22) (z.i 23) (hT z 200)),none⟩
abbrev tz(z:Sy):Int:=bw (z.i 21) (z.i 22) (z.i 23) (hT z 200) (z.g 24)
def ol:FSpec:=⟨[.ag bk,.c (.b 25)],[],CJ,λ_=>.tu [.c (.vb 10),.c (.i .i64 50)],λ_=>[],λz y=>y.i 50=tz z/\(tz z=0->y.s 10=mY (z.p 25) (z.i 21) (z.i 22) (z.i 23) (hT z 200) (z.g 24))/\(¬tz z=0->y.s 10= []),none⟩
attribute [irreducible] ic cR mX cu qY fO zA gg kw mY yd bw iz
end
abbrev NE(a b:Int):=Fm.ct ((0:Int)<=Max.max 0 a%18446744073709551616/\Max.max 0 a%18446744073709551616<18446744073709551616) (λy=>y.s 10=aH b.toNat)
def om:bj 224 Gv:=bB 1 0 (ai gf eN) lN λz hA=>show Fm.den ((NE (z.i 1) (Max.max 0 (z.i 1)%18446744073709551616) λy0=>(.an (DK (z.s 20) (y0.s 10)) (.an (DL (z.s 20++y0.s 10) (z.s 20) (y0.s 10)) (.at (z.s 20++y0.s 10=z.s 20++aH (z.i 1).toNat)))))) by
 dsimp only [Gv] at hA;have e1:(max 0 (z.i 1)%18446744073709551616).toNat=(z.i 1).toNat∨¬z.i 1<9223372036854775808:=by omega
 have:=@bM (max 0 (z.i 1)%18446744073709551616) (by omega);exact gC
abbrev DP(a:Prop)(b:Int)(c:List Nat):=Fm.cl (a) (b<9223372036854775808/\c.length<=900000000) (λy=>y.s 20=c++aH b.toNat)
abbrev Ve(a:List Nat)(b:List Int):=a.length=a.length/\a.length<=1000000000/\bp b
def JD(z:Sy):=@fC (z.g 24).length
def NF:bj 223 Gw:=bB 1 0 (ai om eN) lN λz hA=>show Fm.den ((.cl ((nW)) (z.i 21<9223372036854775808/\0<=900000000) (λy0=>y0.s 20= []++aH (z.i 21).toNat) λy0=>(DP (pu (y0.s 20)) (z.i 22) (y0.s 20) λy1=>(DP (pu (y1.s 20)) (z.i 23) (y1.s 20) λy2=>(.an (Ve (y2.s 20) (kq z 200)) (.an ((y2.s 20++aI (kq z 200)).length=(y2.s 20).length+32/\True) (.at (y2.s 20++aI (kq z 200)=kw (z.i 21) (z.i 22) (z.i 23) (hT z 200))))))))) by
 dsimp only [Gw,bk,hs] at hA;have:=@ij (z.i 21) (z.i 22) (z.i 23) (hT z 200);have:=mH (kw (z.i 21) (z.i 22) (z.i 23) (hT z 200));have:=JD z;have t1:(((z.g 24).length:Nat):Int).toNat=(z.g 24).length:=Int.toNat_natCast _;have:=@bM (z.i 21);have:=@bM (z.i 22);have:=@bM (z.i 23);have:=cy z 200;have:=@aJ z 200;have:=bq z 200;repeat' with_reducible first|intro _|apply cd|apply ck|apply cg|apply cE|apply cr
 all_goals first|omega|grind [ao,ak,aj,aT,aU,aV,aW,aX,aY,aZ,a_,ba,aC,List.append_assoc,kw]
abbrev NG(a:Int)(b:List Nat):=a<9223372036854775808/\b.length<=900000000
def tA:bj 197 wj:=bB 3 1 (ai om eN) lN λz hA=>show Fm.den (let v0:=(z.s 20++ [(z.i 1%256).toNat]);(.an (Jn (z.s 20) (z.i 1)) (.cl ((xM v0 (z.s 20))) (NG (z.i 3) v0) (λy0=>y0.s 20=z.s 20++ [(z.i 1%256).toNat]++aH (z.i 3).toNat) λy0=>(DP (pu (y0.s 20)) (z.i 4) (y0.s 20) λy1=>(DP (pu (y1.s 20)) (z.i 5) (y1.s 20) λy2=>(DP (pu (y2.s 20)) (↑(z.s 2).length:Int) (y2.s 20) λy3=>(.an (DK (y3.s 20) (z.s 2)) (.cl ((DL (y3.s 20++z.s 2) (y3.s 20) (z.s 2))) (NG (z.i 13) (y3.s 20++z.s 2)) (λy4=>y4.s 20=y3.s 20++z.s 2++aH (z.i 13).toNat) λy4=>(DP (pu (y4.s 20)) (z.i 14) (y4.s 20) λy5=>(.two (z.i 1=2) (.an (Ve (y5.s 20) (kq z 100)) (.an ((y5.s 20++aI (kq z 100)).length=(y5.s 20).length+32/\True) (.at (y5.s 20++aI (kq z 100)=z.s 20++cu (z.i 1) (z.s 2) (z.i 3) (z.i 4) (z.i 5) (hT z 100) (z.i 13) (z.i 14))))) (.an (pu (y5.s 20)) (.at (y5.s 20=z.s 20++cu (z.i 1) (z.s 2) (z.i 3) (z.i 4) (z.i 5) (hT z 100) (z.i 13) (z.i 14)))))))))))))) by
 dsimp only [wj,en,hs,wi,pD] at hA;have:=br 0 0 0 [] [] [];have:=br (z.i 6) (z.i 7) (z.i 8) (z.s 9) (z.g 10) (z.g 11);have:=@cO (z.s 2) (z.i 3) (z.i 4) (z.i 5) (z.i 7) (z.s 9) (z.g 10) (z.g 11) (hT z 100) (z.i 13) (z.i 14);have:=@yb (z.i 1) (z.s 2) (z.i 3) (z.i 4) (z.i 5) (hT z 100) (z.i 13) (z.i 14);have:=@tr (z.i 1) (z.s 2) (z.i 3) (z.i 4) (z.i 5) (hT z 100) (z.i 13) (z.i 14);have:=@bM (z.i 3);have:=@bM (z.i 4);have:=@bM (z.i 5);have:=@bM (z.i 13);have:=@bM (z.i 14);have:=@fC (z.s 2).length;have:=cy z 100;have:=@aJ z 100;have:=bq z 100;have t1:(((z.s 2).length:Nat):Int).toNat=(z.s 2).length:=Int.toNat_natCast _;conv=>zeta
 repeat' with_reducible first|intro _|apply cd|apply ck|apply cg|apply cE|apply cr
 all_goals first|omega|grind [ao,ak,aj,aT,aU,aV,aW,aX,aY,aZ,a_,ba,aC,List.append_assoc,bq]
abbrev eI(a:Int):=IntKind.i64.wrap a
abbrev oo:=am .i64
def JE:bj 267 BD:=bB 21 349525 eN lN λz hA=>show Fm.den (let v0:=(false=true↔z.s 2= []/\z.i 3=0/\z.i 4=0/\z.i 5=0/\iz (z.i 6) (z.i 7) (z.i 8) (z.s 9) (z.g 10) (z.g 11)/\hT z 100=hZ/\¬z.p 12/\z.i 13=0/\z.i 14=0);let v1:=(oo);(.two (z.s 2= []) (.two (IntKind.i64.wrap (Int.ofNat ((aE v1 (eI (Int.ofNat ((aE v1 (z.i 3)).lor (aE v1 (z.i 4)))))).lor (aE v1 (z.i 5))))=0) (.two (z.i 6=0) (.two (z.i 7=0) (.two (z.i 8=0) (.two (z.s 9= []) (.two ((↑(z.g 10).length:Int)=0) (.two ((↑(z.g 11).length:Int)=0) (.two (kr (hT z 100) hZ) (.two (¬z.p 12) (.ax ([z.i 13,z.i 14]= [0,0]↔z.s 2= []/\z.i 3=0/\z.i 4=0/\z.i 5=0/\iz (z.i 6) (z.i 7) (z.i 8) (z.s 9) (z.g 10) (z.g 11)/\hT z 100=hZ/\¬z.p 12/\z.i 13=0/\z.i 14=0)) (.ax v0)) (.ax v0)) (.ax v0)) (.ax v0)) (.ax v0)) (.ax v0)) (.ax v0)) (.ax v0)) (.ax v0)) (.ax v0))) by dsimp only [BD,en,hs,mK] at hA;have:=br 0 0 0 [] [] [];have:=br (z.i 6) (z.i 7) (z.i 8) (z.s 9) (z.g 10) (z.g 11);have:=@cO (z.s 2) (z.i 3) (z.i 4) (z.i 5) (z.i 7) (z.s 9) (z.g 10) (z.g 11) (hT z 100) (z.i 13) (z.i 14);have:=@or3 (z.i 3) (z.i 4) (z.i 5);exact gC
abbrev Xh:=(-9223372036854775808:Int)<=0/\(0:Int)<9223372036854775808
def Sg:bj 222 ND:=bB 125 30284871951383847606871494801089340678452057665660186281603786162571198549 (ai JE eN) lN λz hA=>show Fm.den (let vx:=(0:Int)=0;let v1:=(((-9223372036854775808)<=z.i 3/\z.i 3<9223372036854775808)/\((-9223372036854775808)<=z.i 4/\z.i 4<9223372036854775808)/\(-9223372036854775808)<=z.i 5/\z.i 5<9223372036854775808);let v2:=(iz (z.i 6) (z.i 7) (z.i 8) (z.s 9) (z.g 10) (z.g 11));let v3:=((Xh)/\((-9223372036854775808)<=z.i 4/\z.i 4<9223372036854775808)/\(-9223372036854775808)<=z.i 5/\z.i 5<9223372036854775808);let v4:=((Xh)/\(Xh)/\(-9223372036854775808:Int)<=0/\(0:Int)<9223372036854775808);let v5:=(↑(z.s 2).length:Int);let v6:=(hT z 100=hZ);let v0:=(false=true↔ic (z.i 1) (z.s 2) (z.i 3) (z.i 4) (z.i 5) v2 v6 (z.p 12) (z.i 13) (z.i 14));let v7:=((↑(z.g 11).length:Int)=0↔ic (z.i 1) (z.s 2) (z.i 3) (z.i 4) (z.i 5) v2 v6 (z.p 12) (z.i 13) (z.i 14));let v8:=(true=true↔ic (z.i 1) (z.s 2) (z.i 3) (z.i 4) (z.i 5) v2 v6 (z.p 12) (z.i 13) (z.i 14));let v9:=(z.i 3<=64);let v10:=(z.i 1=3);let v11:=((↑(z.g 10).length:Int)=0);(.two (1<=z.i 3) (.two (z.i 1=1) (.two (1<=v5) (.two (v5<=4096) (.ct v1 (λy0=>(y0.p 50↔mG/\z.i 3=0/\z.i 4=0/\z.i 5=0/\iz (z.i 6) (z.i 7) (z.i 8) (z.s 9) (z.g 10) (z.g 11)/\hT z 100=hZ/\¬z.p 12/\z.i 13=0/\z.i 14=0)) λy0=>(.ax (y0.p 50↔ic (z.i 1) (z.s 2) (z.i 3) (z.i 4) (z.i 5) v2 v6 (z.p 12) (z.i 13) (z.i 14)))) (.ax v0)) (.ax v0)) (.two (z.i 1=2) (.an (z.i 1=2) (.an (¬v10) (.two v9 (.two (1<=z.i 4) (.two (z.i 4<=65536) (.two (0<=z.i 5) (.two (z.i 5<=2147483648) (.ct v4 (λy1=>(y1.p 50↔z.s 2= []/\vx/\vx/\vx/\iz 0 0 0 [] [] []/\hZ=hZ/\¬false=true/\z.i 13=0/\z.i 14=0)) λy1=>(.two (y1.p 50) (.two (¬z.p 12) (.ax v8) (.two (z.i 6=0) (.two (z.i 7=0) (.two (z.i 8=0) (.two (z.s 9= []) (.two v11 (.ax v7) (.ax v0)) (.ax v0)) (.ax v0)) (.ax v0)) (.ax v0))) (.ax v0))) (.ax v0)) (.ax v0)) (.ax v0)) (.ax v0)) (.ax v0)))) (.two v10 (.an v10 (.two v9 (.two (1<=z.i 4) (.two (z.i 4<=65536) (.two (1<=z.i 5) (.two (z.i 5<=2147483648) (.ct v4 (λy2=>(y2.p 50↔z.s 2= []/\vx/\vx/\vx/\iz (z.i 6) (z.i 7) (z.i 8) (z.s 9) (z.g 10) (z.g 11)/\hT z 100=hZ/\¬z.p 12/\z.i 13=0/\z.i 14=0)) λy2=>(.two (y2.p 50) (.two (¬z.p 12) (.ax v8) (.two (z.i 6=0) (.two (z.i 7=0) (.two (z.i 8=0) (.two (z.s 9= []) (.two v11 (.ax v7) (.ax v0)) (.ax v0)) (.ax v0)) (.ax v0)) (.ax v0))) (.ax v0))) (.ax v0)) (.ax v0)) (.ax v0)) (.ax v0)) (.ax v0))) (.two (z.i 1=4) (.two (0<=z.i 13) (.two (z.i 13<=2147483648) (.two (0<=z.i 14) (.two (z.i 14<=2147483648) (.ct v1 (λy3=>(y3.p 50↔z.s 2= []/\z.i 3=0/\z.i 4=0/\z.i 5=0/\iz (z.i 6) (z.i 7) (z.i 8) (z.s 9) (z.g 10) (z.g 11)/\hT z 100=hZ/\¬z.p 12/\vx/\vx)) λy3=>(.ax (y3.p 50↔ic (z.i 1) (z.s 2) (z.i 3) (z.i 4) (z.i 5) v2 v6 (z.p 12) (z.i 13) (z.i 14)))) (.ax v0)) (.ax v0)) (.ax v0)) (.ax v0)) (.two (z.i 1=5) (.an (z.i 1=5) (.two v9 (.two (1<=v5) (.two (v5<=40) (.ct v3 (λy4=>(y4.p 50↔mG/\vx/\z.i 4=0/\z.i 5=0/\iz (z.i 6) (z.i 7) (z.i 8) (z.s 9) (z.g 10) (z.g 11)/\hT z 100=hZ/\¬z.p 12/\z.i 13=0/\z.i 14=0)) λy4=>(.ax (y4.p 50↔ic (z.i 1) (z.s 2) (z.i 3) (z.i 4) (z.i 5) v2 v6 (z.p 12) (z.i 13) (z.i 14)))) (.ax v0)) (.ax v0)) (.ax v0))) (.two (z.i 1=7) (.two v9 (.two (1<=v5) (.two (v5<=40) (.ct v3 (λy5=>(y5.p 50↔mG/\vx/\z.i 4=0/\z.i 5=0/\iz (z.i 6) (z.i 7) (z.i 8) (z.s 9) (z.g 10) (z.g 11)/\hT z 100=hZ/\¬z.p 12/\z.i 13=0/\z.i 14=0)) λy5=>(.ax (y5.p 50↔ic (z.i 1) (z.s 2) (z.i 3) (z.i 4) (z.i 5) v2 v6 (z.p 12) (z.i 13) (z.i 14)))) (.ax v0)) (.ax v0)) (.ax v0)) (.two (z.i 1=6) (.two v9 (.ct v3 (λy6=>(y6.p 50↔z.s 2= []/\vx/\z.i 4=0/\z.i 5=0/\iz (z.i 6) (z.i 7) (z.i 8) (z.s 9) (z.g 10) (z.g 11)/\hT z 100=hZ/\¬z.p 12/\z.i 13=0/\z.i 14=0)) λy6=>(.ax (y6.p 50↔ic (z.i 1) (z.s 2) (z.i 3) (z.i 4) (z.i 5) v2 v6 (z.p 12) (z.i 13) (z.i 14)))) (.ax v0)) (.ax v0)))))))) (.two (z.i 1=1) (.two (1<=v5) (.two (v5<=4096) (.ct v1 (λy7=>(y7.p 50↔mG/\z.i 3=0/\z.i 4=0/\z.i 5=0/\iz (z.i 6) (z.i 7) (z.i 8) (z.s 9) (z.g 10) (z.g 11)/\hT z 100=hZ/\¬z.p 12/\z.i 13=0/\z.i 14=0)) λy7=>(.ax (y7.p 50↔ic (z.i 1) (z.s 2) (z.i 3) (z.i 4) (z.i 5) v2 v6 (z.p 12) (z.i 13) (z.i 14)))) (.ax v0)) (.ax v0)) (.two (z.i 1=2) (.an (z.i 1=2) (.an (¬v10) (.ax v0))) (.two v10 (.an v10 (.ax v0)) (.two (z.i 1=4) (.two (0<=z.i 13) (.two (z.i 13<=2147483648) (.two (0<=z.i 14) (.two (z.i 14<=2147483648) (.ct v1 (λy8=>(y8.p 50↔z.s 2= []/\z.i 3=0/\z.i 4=0/\z.i 5=0/\iz (z.i 6) (z.i 7) (z.i 8) (z.s 9) (z.g 10) (z.g 11)/\hT z 100=hZ/\¬z.p 12/\vx/\vx)) λy8=>(.ax (y8.p 50↔ic (z.i 1) (z.s 2) (z.i 3) (z.i 4) (z.i 5) v2 v6 (z.p 12) (z.i 13) (z.i 14)))) (.ax v0)) (.ax v0)) (.ax v0)) (.ax v0)) (.two (z.i 1=5) (.an (z.i 1=5) (.ax v0)) (.two (z.i 1=7) (.ax v0) (.two (z.i 1=6) (.ax v0) (.ax v0)))))))))) by dsimp only [ND,en,hs,wi,BC,mK] at hA;have:=br 0 0 0 [] [] [];have:=br (z.i 6) (z.i 7) (z.i 8) (z.s 9) (z.g 10) (z.g 11);have:=@cO (z.s 2) (z.i 3) (z.i 4) (z.i 5) (z.i 7) (z.s 9) (z.g 10) (z.g 11) (hT z 100) (z.i 13) (z.i 14);have:=@Nz (z.i 1) (z.s 2) (z.i 3) (z.i 4) (z.i 5) (mK z) (hT z 100=hZ) (z.p 12) (z.i 13) (z.i 14);have:=@Bz (z.i 1) (z.s 2) (z.i 3) (z.i 4) (z.i 5) (mK z) (hT z 100=hZ) (z.p 12) (z.i 13) (z.i 14);have:=@BA (z.i 1) (z.s 2) (z.i 3) (z.i 4) (z.i 5) (mK z) (hT z 100=hZ) (z.p 12) (z.i 13) (z.i 14);have:=@Gp (z.i 1) (z.s 2) (z.i 3) (z.i 4) (z.i 5) (mK z) (hT z 100=hZ) (z.p 12) (z.i 13) (z.i 14);have:=@Gq (z.i 1) (z.s 2) (z.i 3) (z.i 4) (z.i 5) (mK z) (hT z 100=hZ) (z.p 12) (z.i 13) (z.i 14);have:=@Gr (z.i 1) (z.s 2) (z.i 3) (z.i 4) (z.i 5) (mK z) (hT z 100=hZ) (z.p 12) (z.i 13) (z.i 14);have:=@Gt (z.i 1) (z.s 2) (z.i 3) (z.i 4) (z.i 5) (mK z) (hT z 100=hZ) (z.p 12) (z.i 13) (z.i 14);have:=@Gs (z.i 1) (z.s 2) (z.i 3) (z.i 4) (z.i 5) (mK z) (hT z 100=hZ) (z.p 12) (z.i 13) (z.i 14);exact gC
abbrev Xi(a:Int)(b:List Nat)(c d:List G)(e f:Int):=Fm.ct (ti 16 a b c d/\xW 16 b d<=10000000) (λy=>y.i 11=ib e a f b c d/\hT y 300=DG e a f b c d)
def oq:bj 183 il:=bB 11 20753 (ai Sg (ai Xg eN)) lN λz hA=>show Fm.den (let v1:=(hT z 100);let v0:=((0:Int)=cR (z.i 1) (z.s 2) (z.i 3) (z.i 4) (z.i 5) (z.i 6) (z.i 7) (z.i 8) (z.s 9) (z.g 10) (z.g 11) v1 (z.p 12) (z.i 13) (z.i 14));(.ct (mX (z.s 2) (z.i 3) (z.i 4) (z.i 5) (z.i 7) (z.s 9) (z.g 10) (z.g 11) v1 (z.i 13) (z.i 14)) (λy0=>(y0.p 50↔ic (z.i 1) (z.s 2) (z.i 3) (z.i 4) (z.i 5) (iz (z.i 6) (z.i 7) (z.i 8) (z.s 9) (z.g 10) (z.g 11)) (hT z 100=hZ) (z.p 12) (z.i 13) (z.i 14))) λy0=>(.two (¬y0.p 50) (.ax ((3:Int)=cR (z.i 1) (z.s 2) (z.i 3) (z.i 4) (z.i 5) (z.i 6) (z.i 7) (z.i 8) (z.s 9) (z.g 10) (z.g 11) v1 (z.p 12) (z.i 13) (z.i 14))) (.two (z.i 1≠2) (.ax v0) (.two (z.p 12) (.ax v0) (Xi (z.i 7) (z.s 9) (z.g 10) (z.g 11) (z.i 6) (z.i 8) λy1=>(let v2:=(y1.i 11=cR (z.i 1) (z.s 2) (z.i 3) (z.i 4) (z.i 5) (z.i 6) (z.i 7) (z.i 8) (z.s 9) (z.g 10) (z.g 11) v1 (z.p 12) (z.i 13) (z.i 14));(.two (y1.i 11=0) (.two (¬kr (hT y1 300) v1) (.ax ((18:Int)=cR (z.i 1) (z.s 2) (z.i 3) (z.i 4) (z.i 5) (z.i 6) (z.i 7) (z.i 8) (z.s 9) (z.g 10) (z.g 11) v1 (z.p 12) (z.i 13) (z.i 14))) (.ax v2)) (.ax v2))))))))) by dsimp only [il,en,hs,wi,ul] at hA;have:=br 0 0 0 [] [] [];have:=br (z.i 6) (z.i 7) (z.i 8) (z.s 9) (z.g 10) (z.g 11);have:=@cO (z.s 2) (z.i 3) (z.i 4) (z.i 5) (z.i 7) (z.s 9) (z.g 10) (z.g 11) (hT z 100) (z.i 13) (z.i 14);have:=@fA (z.i 1) (z.s 2) (z.i 3) (z.i 4) (z.i 5) (z.i 6) (z.i 7) (z.i 8) (z.s 9) (z.g 10) (z.g 11) (hT z 100) (z.p 12) (z.i 13) (z.i 14);have:=@fB (z.i 1) (z.s 2) (z.i 3) (z.i 4) (z.i 5) (z.i 6) (z.i 7) (z.i 8) (z.s 9) (z.g 10) (z.g 11) (hT z 100) (z.p 12) (z.i 13) (z.i 14);have:=@ig (z.i 1) (z.s 2) (z.i 3) (z.i 4) (z.i 5) (z.i 6) (z.i 7) (z.i 8) (z.s 9) (z.g 10) (z.g 11) (hT z 100) (z.p 12) (z.i 13) (z.i 14);have:=@jK (z.i 1) (z.s 2) (z.i 3) (z.i 4) (z.i 5) (z.i 6) (z.i 7) (z.i 8) (z.s 9) (z.g 10) (z.g 11) (hT z 100) (z.p 12) (z.i 13) (z.i 14);have:=@kU (z.i 1) (z.s 2) (z.i 3) (z.i 4) (z.i 5) (z.i 6) (z.i 7) (z.i 8) (z.s 9) (z.g 10) (z.g 11) (hT z 100) (z.p 12) (z.i 13) (z.i 14);have:=@da (z.i 1) (z.s 2) (z.i 3) (z.i 4) (z.i 5) (z.i 6) (z.i 7) (z.i 8) (z.s 9) (z.g 10) (z.g 11) (hT z 100) (z.p 12) (z.i 13) (z.i 14);exact gC
abbrev oM(a:List G):=fO a 0=0/\qY a/\a.length<=200
abbrev qx(a b:Prop)(c d:List Nat):=a/\b/\c.length+d.length<=20000000
def BE(p:Sy)(z:Sy):=@tv (p.g 24) (z.i 9)
def JF(p:Sy)(z:Sy):=@lF (p.g 24) (z.i 9)
def NH(p:Sy)(z:Sy):=(λe=>@cO (gS (aa e 1)) (gI (aa e 2)) (gI (aa e 3)) (gI (aa e 4)) (gI (aa e 6)) (gS (aa e 8)) (gL (aa e 9)) (gL (aa e 10)) (hX (aa e 11)) (gI (aa e 13)) (gI (aa e 14))) (aq (p.g 24) (z.i 9).toNat)
def NI(p:Sy)(z:Sy):=(λe=>λh=>(@da (gI (aa e 0)) (gS (aa e 1)) (gI (aa e 2)) (gI (aa e 3)) (gI (aa e 4)) (gI (aa e 5)) (gI (aa e 6)) (gI (aa e 7)) (gS (aa e 8)) (gL (aa e 9)) (gL (aa e 10)) (hX (aa e 11)) (gI (aa e 12)=1) (gI (aa e 13)) (gI (aa e 14)) h).2) (aq (p.g 24) (z.i 9).toNat)
def NJ:bH 184 0 Gx:=bG 13 2246949 (ai tA (ai om (ai tl eN))) lN λp z hA=>show Fm.den (let v0:=(aL (p.g 24) (z.i 9));let v1:=(↑(p.g 24).length:Int);let v2:=((-9223372036854775808)<=z.i 9+1/\z.i 9+1<=9223372036854775807);let v3:=(oM (p.g 24));let v4:=(dF (z.i 9) (p.g 24));let v5:=(z.i 9+1);let v6:=(gL (aa v0 10));let v7:=(gS (aa v0 8));let v8:=(gI (aa v0 6));let v9:=(gL (aa v0 9));let v10:=(gg (p.p 25) (p.g 24) v5);let v11:=(p.p 25↔p.p 25);let d7:=(gI (aa v0 5));let i9:=(gI (aa v0 7));let j8:=(pu (z.s 20));let n7:=(v1-z.i 9);(.two (bO (z.i 9) (p.g 24)) (.an (bS (z.i 9) (p.g 24)) (.cl (j8) (mX (gS (aa v0 1)) (gI (aa v0 2)) (gI (aa v0 3)) (gI (aa v0 4)) v8 v7 v9 v6 (hX (aa v0 11)) (gI (aa v0 13)) (gI (aa v0 14))/\(z.s 20).length<=100000000) (λy0=>y0.s 20=z.s 20++cu (gI (aa v0 0)) (gS (aa v0 1)) (gI (aa v0 2)) (gI (aa v0 3)) (gI (aa v0 4)) (hX (aa v0 11)) (gI (aa v0 13)) (gI (aa v0 14))) λy0=>(let u0:=((y0.s 20++ [Int.toNat 0]).length=(y0.s 20).length+1/\v1=v1/\p.g 24=p.g 24/\v11/\True);let o8:=(U2 (y0.s 20));let s8:=(qx v3 v4 (y0.s 20++ [Int.toNat 0]) v10);(.two (gI (aa v0 0)≠2) (.an v2 (.an ((y0.s 20).length=(y0.s 20).length/\v1=v1/\p.g 24=p.g 24/\v11/\True) (.at ((qx v3 v4 (y0.s 20) v10)/\(v1-v5).toNat<n7.toNat/\∀(y:Sy),y.s 20=y0.s 20++gg (p.p 25) (p.g 24) v5->y.s 20=z.s 20++gg (p.p 25) (p.g 24) (z.i 9))))) (.two (gI (aa v0 12)=1) (.an o8 (.an v2 (.an u0 (.at (s8/\(v1-v5).toNat<n7.toNat/\∀(y:Sy),y.s 20=y0.s 20++ [Int.toNat 0]++gg (p.p 25) (p.g 24) v5->y.s 20=z.s 20++gg (p.p 25) (p.g 24) (z.i 9)))))) (.two (¬p.p 25) (.an o8 (.an v2 (.an u0 (.at (s8/\(v1-v5).toNat<n7.toNat/\∀(y:Sy),y.s 20=y0.s 20++ [Int.toNat 0]++gg (p.p 25) (p.g 24) v5->y.s 20=z.s 20++gg (p.p 25) (p.g 24) (z.i 9)))))) (Zd v8 v7 v9 v6 d7 i9 (dM 16 d7 v8 i9 v7 v9 v6) λy1=>(.an ((y0.s 20).length=(y0.s 20).length/\(y0.s 20).length<=1000000000/\(0:Int)<=1/\True) (.cl ((xM (y0.s 20++ [Int.toNat 1]) (y0.s 20))) (NG (↑(y1.s 10).length:Int) (y0.s 20++ [Int.toNat 1])) (λy2=>y2.s 20=y0.s 20++ [Int.toNat 1]++aH (↑(y1.s 10).length:Int).toNat) λy2=>(.an (DK (y2.s 20) (y1.s 10)) (.an v2 (.an ((y2.s 20++y1.s 10).length=(y2.s 20).length+(y1.s 10).length/\v1=v1/\p.g 24=p.g 24/\v11/\True) (.at ((qx v3 v4 (y2.s 20++y1.s 10) v10)/\(v1-v5).toNat<n7.toNat/\∀(y:Sy),y.s 20=y2.s 20++y1.s 10++gg (p.p 25) (p.g 24) v5->y.s 20=z.s 20++gg (p.p 25) (p.g 24) (z.i 9))))))))))))))) (.an j8 (.at (z.s 20=z.s 20++gg (p.p 25) (p.g 24) (z.i 9)))))) by
 dsimp only [Gx,jN] at hA;have:=@oh (p.p 25) (p.g 24) (z.i 9);have:=@qZ (p.p 25) (p.g 24) (z.i 9);have a3:=@og (p.p 25) (aq (p.g 24) (z.i 9).toNat);have a4:=@tw (p.p 25) (aq (p.g 24) (z.i 9).toNat);have a5:=@kV (p.p 25) (aq (p.g 24) (z.i 9).toNat);have a6:=BE p z;have a7:=JF p z;dsimp only [uk,kj,wh,me] at a3 a4 a5 a6 a7;have:=NH p z;have:=NI p z;conv=>zeta
 repeat' with_reducible first|intro _|apply cd|apply ck|apply cg|apply cE|apply cr
 all_goals first|omega|grind [ao,ak,aj,aT,aU,aV,aW,aX,aY,aZ,a_,ba,aC,List.append_assoc,fC]
abbrev Si(a:G)(b c d:Int):=Fm.ct (HOk a/\b<9223372036854775808/\c<9223372036854775808/\d<9223372036854775808) (λy=>y.s 20=kw b c d a)
def hv16(z:Sy):=λh hi hn h0 h1=>@NC (z.p 25) (z.g 24) h hi hn 0 h0 h1
def NK:bj 184 Gy:=bB 1 0 (ai NF (ai om eN)) (aG (ptm:=[(0,.ag bk),(1,.c (.b 25))]) NJ lN) λz hA=>show Fm.den (let v0:=(↑(z.g 24).length:Int);(Si (hT z 200) (z.i 21) (z.i 22) (z.i 23) λy0=>(DP (pu (y0.s 20)) v0 (y0.s 20) λy1=>(.cl (((y1.s 20).length=(y1.s 20).length/\v0=v0/\z.g 24=z.g 24/\(z.p 25↔z.p 25)/\True)) (qx (oM (z.g 24)) (fL v0) (y1.s 20) (gg (z.p 25) (z.g 24) 0)) (λy2=>y2.s 20=y1.s 20++gg (z.p 25) (z.g 24) 0) λy2=>(.an (pu (y2.s 20)) (.at (y2.s 20=mY (z.p 25) (z.i 21) (z.i 22) (z.i 23) (hT z 200) (z.g 24)))))))) by
 dsimp only [Gy,bk,hs,jN] at hA;have:=@ij (z.i 21) (z.i 22) (z.i 23) (hT z 200);have:=mH (kw (z.i 21) (z.i 22) (z.i 23) (hT z 200));have:=JD z;have t1:(((z.g 24).length:Nat):Int).toNat=(z.g 24).length:=Int.toNat_natCast _;have:=@bM (z.i 21);have:=@bM (z.i 22);have:=@bM (z.i 23);have:=cy z 200;have:=@aJ z 200;have:=bq z 200;have:=hv16 z;conv=>zeta
 repeat' with_reducible first|intro _|apply cd|apply ck|apply cg|apply cE|apply cr
 all_goals first|omega|grind [ao,ak,aj,aT,aU,aV,aW,aX,aY,aZ,a_,ba,aC,List.append_assoc,mY,kw]
abbrev ja(a b c:Int):=a=a/\b=b/\c=c/\True
abbrev qy(a:List G)(b)(c:Prop):=a=a/\fW b b c
abbrev DQ(a b c d:Int)(e:List G):=a=a/\b=b/\c=c/\d=d/\e=e/\True
abbrev Tq79(a:Prop)(b c:Int)(d:List G):=a/\b.toNat<c.toNat/\∀(y:Sy),(y.i 999=0->fO d 0=0)/\(¬y.i 999=0->y.i 50=fO d 0/\¬y.i 50=0)->(y.i 999=0->fO d 0=0)/\(¬y.i 999=0->y.i 50=fO d 0/\¬y.i 50=0)
def DS:bH 121 0 wk:=bG 6 133 (ai oq eN) lN λp z hA=>show Fm.den (let v0:=(aN (((((((((((((((((((((((((((((((((((((PS.mk [(999,Tm.i (Int.ofNat (nat_lit 0)))] ((0,(bI 0).fst,0)::ji.loc) ji.ln ji.pr ji.fz).and (cN (p.i 21))).and (cN (p.i 22))).and (cN (p.i 23))).and (cN (p.i (200+nat_lit 0)))).and (cN (p.i (200+nat_lit 1)))).and (cN (p.i (200+nat_lit 2)))).and (cN (p.i (200+nat_lit 3)))).and (cN (p.i (200+nat_lit 4)))).and (cN (p.i (200+nat_lit 5)))).and (cN (p.i (200+nat_lit 6)))).and (cN (p.i (200+nat_lit 7)))).and (cN (p.i (200+nat_lit 8)))).and (cN (p.i (200+nat_lit 9)))).and (cN (p.i (200+nat_lit 10)))).and (cN (p.i (200+nat_lit 11)))).and (cN (p.i (200+nat_lit 12)))).and (cN (p.i (200+nat_lit 13)))).and (cN (p.i (200+nat_lit 14)))).and (cN (p.i (200+nat_lit 15)))).and (cN (p.i (200+nat_lit 16)))).and (cN (p.i (200+nat_lit 17)))).and (cN (p.i (200+nat_lit 18)))).and (cN (p.i (200+nat_lit 19)))).and (cN (p.i (200+nat_lit 20)))).and (cN (p.i (200+nat_lit 21)))).and (cN (p.i (200+nat_lit 22)))).and (cN (p.i (200+nat_lit 23)))).and (cN (p.i (200+nat_lit 24)))).and (cN (p.i (200+nat_lit 25)))).and (cN (p.i (200+nat_lit 26)))).and (cN (p.i (200+nat_lit 27)))).and (cN (p.i (200+nat_lit 28)))).and (cN (p.i (200+nat_lit 29)))).and (cN (p.i (200+nat_lit 30)))).and (cN (p.i (200+nat_lit 31)))).and (p.g 24=p.g 24)).tm);let v1:=(aL (p.g 24) (z.i 9));let v2:=(qy (p.g 24) (kg p 200) (ja (p.i 23) (p.i 22) (p.i 21)));let v3:=(↑(p.g 24).length:Int);(.two (bO (z.i 9) (p.g 24)) (.an (bS (z.i 9) (p.g 24)) (.ct (mX (gS (aa v1 1)) (gI (aa v1 2)) (gI (aa v1 3)) (gI (aa v1 4)) (gI (aa v1 6)) (gS (aa v1 8)) (gL (aa v1 9)) (gL (aa v1 10)) (hX (aa v1 11)) (gI (aa v1 13)) (gI (aa v1 14))) (λy0=>y0.i 50=cR (gI (aa v1 0)) (gS (aa v1 1)) (gI (aa v1 2)) (gI (aa v1 3)) (gI (aa v1 4)) (gI (aa v1 5)) (gI (aa v1 6)) (gI (aa v1 7)) (gS (aa v1 8)) (gL (aa v1 9)) (gL (aa v1 10)) (hX (aa v1 11)) (gI (aa v1 12)=1) (gI (aa v1 13)) (gI (aa v1 14))) λy0=>(.two (y0.i 50≠0) (.an v2 (.at (((1:Int)=0->fO (p.g 24) 0=0)/\(¬(1:Int)=0->y0.i 50=fO (p.g 24) 0/\¬y0.i 50=0)))) (.an ((-9223372036854775808)<=z.i 9+1/\z.i 9+1<=9223372036854775807) (.an (qy (p.g 24) (kg p 200) (DQ (p.i 23) (p.i 22) (p.i 21) v3 (p.g 24))) (.at (Tq79 (qY (p.g 24)/\(p.g 24).length<=200/\(dF (z.i 9) (p.g 24))/\fO (p.g 24) 0=fO (p.g 24) (z.i 9+1)) (v3-(z.i 9+1)) (v3-z.i 9) (p.g 24)))))))) (.an v2 (.at (((0:Int)=0->fO (p.g 24) 0=0)/\(¬(0:Int)=0->v0.i 50=fO (p.g 24) 0/\¬v0.i 50=(0:Int))))))) by dsimp only [wk,mZ,uC] at hA;have a1:=@oe (p.g 24) (z.i 9);have a2:=@Gu (p.g 24) (z.i 9);have:=@yc (p.g 24) (z.i 9);have a6:=BE p z;dsimp only [wh,me] at a1 a2 a6;exact cZ
abbrev Sj(a:Prop)(b:G)(c d e:Int)(f:Prop)(g:List G):=Fm.ct (a/\HOk b/\c<9223372036854775808/\d<9223372036854775808/\e<9223372036854775808) (λy=>y.s 10=mY f c d e b g)
abbrev Tq75(a:Prop)(b:List G)(c:Prop):=Fm.cl (a) (qY b/\b.length<=200/\c/\fO b 0=fO b 0) (λy=>(y.i 999=0->fO b 0=0)/\(¬y.i 999=0->y.i 50=fO b 0/\¬y.i 50=0))
def tB:bj 121 q_:=bB 21 85217605 (ai NK eN) (aG (ptm:=[(0,.ag bk)]) DS lN) λz hA=>show Fm.den (let v1:=(↑(z.g 24).length:Int);let v2:=(hT z 200);let v0:=((1:Int)=bw (z.i 21) (z.i 22) (z.i 23) v2 (z.g 24));(.two (0<=z.i 21) (.two (¬z.i 21<=2147483648) (.ax v0) (.two (0<=z.i 22) (.two (¬z.i 22<=9007199254740992) (.ax v0) (.two (0<=z.i 23) (.two (¬z.i 23<=9007199254740992) (.ax v0) (.two (1<=v1) (.two (¬v1<=200) (.ax v0) (Tq75 (qy (z.g 24) (kg z 200) (DQ (z.i 23) (z.i 22) (z.i 21) v1 (z.g 24))) (z.g 24) (fL v1) λy0=>(.two (y0.i 999=0) (Sj (oM (z.g 24)) v2 (z.i 21) (z.i 22) (z.i 23) (true=true) (z.g 24) λy1=>(.two (262144<(↑(y1.s 10).length:Int)) (.ax ((5:Int)=bw (z.i 21) (z.i 22) (z.i 23) v2 (z.g 24))) (.ax ((0:Int)=bw (z.i 21) (z.i 22) (z.i 23) v2 (z.g 24))))) (.ax (y0.i 50=bw (z.i 21) (z.i 22) (z.i 23) v2 (z.g 24)))))) (.ax v0))) (.ax v0))) (.ax v0))) (.ax v0))) by
 dsimp only [q_,bk,hs,CJ] at hA;have:=@jL (z.i 21) (z.i 22) (z.i 23) (hT z 200) (z.g 24);have:=@jM (z.i 21) (z.i 22) (z.i 23) (hT z 200) (z.g 24);have:=@gH (z.i 21) (z.i 22) (z.i 23) (hT z 200) (z.g 24);have:=@mJ (z.i 21) (z.i 22) (z.i 23) (hT z 200) (z.g 24);have:=@fm (z.i 21) (z.i 22) (z.i 23) (hT z 200) (z.g 24);conv=>zeta
 repeat' with_reducible first|intro _|apply cd|apply ck|apply cg|apply cE|apply cr
 all_goals first|omega|grind [ao,ak,aj,aT,aU,aV,aW,aX,aY,aZ,a_,ba,aC,List.append_assoc,yd]
abbrev JG(a:List G)(b:G)(c d e:Int):=qY a/\HOk b/\a.length<=1000000/\c<9223372036854775808/\d<9223372036854775808/\e<9223372036854775808
abbrev Sk(a:List G)(b:G)(c d e:Int):=Fm.ct (JG a b c d e) (λy=>y.i 50=bw c d e b a)
def JH:bj 130 ol:=bB 3 1 (ai tB (ai NK eN)) lN λz hA=>show Fm.den (let v0:=(hT z 200);(Sk (z.g 24) v0 (z.i 21) (z.i 22) (z.i 23) λy0=>(.two (y0.i 50≠0) (.ax (y0.i 50=bw (z.i 21) (z.i 22) (z.i 23) v0 (z.g 24)/\(bw (z.i 21) (z.i 22) (z.i 23) v0 (z.g 24)=(0:Int)-> []=mY (z.p 25) (z.i 21) (z.i 22) (z.i 23) v0 (z.g 24))/\(¬bw (z.i 21) (z.i 22) (z.i 23) v0 (z.g 24)=(0:Int)->mG))) (Sj (oM (z.g 24)) v0 (z.i 21) (z.i 22) (z.i 23) (z.p 25) (z.g 24) λy1=>(.ax ((0:Int)=bw (z.i 21) (z.i 22) (z.i 23) v0 (z.g 24)/\(bw (z.i 21) (z.i 22) (z.i 23) v0 (z.g 24)=(0:Int)->y1.s 10=mY (z.p 25) (z.i 21) (z.i 22) (z.i 23) v0 (z.g 24))/\(¬bw (z.i 21) (z.i 22) (z.i 23) v0 (z.g 24)=(0:Int)->y1.s 10= []))))))) by
 dsimp only [ol,bk,hs,CJ,tz] at hA;have:=@jL (z.i 21) (z.i 22) (z.i 23) (hT z 200) (z.g 24);have:=@jM (z.i 21) (z.i 22) (z.i 23) (hT z 200) (z.g 24);have:=@gH (z.i 21) (z.i 22) (z.i 23) (hT z 200) (z.g 24);have:=@mJ (z.i 21) (z.i 22) (z.i 23) (hT z 200) (z.g 24);have:=@fm (z.i 21) (z.i 22) (z.i 23) (hT z 200) (z.g 24);conv=>zeta
 repeat' with_reducible first|intro _|apply cd|apply ck|apply cg|apply cE|apply cr
 all_goals first|omega|grind [ao,ak,aj,aT,aU,aV,aW,aX,aY,aZ,a_,ba,aC,yd]
def qj:bj 138 jO:=bB 3 1 (ai oq (ai tA (ai F2 eN))) lN λz hA=>show Fm.den (let v0:=(hT z 100);let v1:=(cu (z.i 1) (z.s 2) (z.i 3) (z.i 4) (z.i 5) v0 (z.i 13) (z.i 14));(.ct (mX (z.s 2) (z.i 3) (z.i 4) (z.i 5) (z.i 7) (z.s 9) (z.g 10) (z.g 11) v0 (z.i 13) (z.i 14)) (λy0=>y0.i 50=cR (z.i 1) (z.s 2) (z.i 3) (z.i 4) (z.i 5) (z.i 6) (z.i 7) (z.i 8) (z.s 9) (z.g 10) (z.g 11) v0 (z.p 12) (z.i 13) (z.i 14)) λy0=>(.two (y0.i 50≠0) (.ax (y0.i 50=cR (z.i 1) (z.s 2) (z.i 3) (z.i 4) (z.i 5) (z.i 6) (z.i 7) (z.i 8) (z.s 9) (z.g 10) (z.g 11) v0 (z.p 12) (z.i 13) (z.i 14)/\(cR (z.i 1) (z.s 2) (z.i 3) (z.i 4) (z.i 5) (z.i 6) (z.i 7) (z.i 8) (z.s 9) (z.g 10) (z.g 11) v0 (z.p 12) (z.i 13) (z.i 14)=(0:Int)->hZ=aA v1)/\(¬cR (z.i 1) (z.s 2) (z.i 3) (z.i 4) (z.i 5) (z.i 6) (z.i 7) (z.i 8) (z.s 9) (z.g 10) (z.g 11) v0 (z.p 12) (z.i 13) (z.i 14)=(0:Int)->hZ=hZ))) (.cl ((nW)) (mX (z.s 2) (z.i 3) (z.i 4) (z.i 5) (z.i 7) (z.s 9) (z.g 10) (z.g 11) v0 (z.i 13) (z.i 14)/\0<=100000000) (λy1=>y1.s 20= []++cu (z.i 1) (z.s 2) (z.i 3) (z.i 4) (z.i 5) v0 (z.i 13) (z.i 14)) λy1=>(.an (sW (y1.s 20)) (Ny (y1.s 20) λy2=>(.ax ((0:Int)=cR (z.i 1) (z.s 2) (z.i 3) (z.i 4) (z.i 5) (z.i 6) (z.i 7) (z.i 8) (z.s 9) (z.g 10) (z.g 11) v0 (z.p 12) (z.i 13) (z.i 14)/\(cR (z.i 1) (z.s 2) (z.i 3) (z.i 4) (z.i 5) (z.i 6) (z.i 7) (z.i 8) (z.s 9) (z.g 10) (z.g 11) v0 (z.p 12) (z.i 13) (z.i 14)=(0:Int)->hT y2 300=aA v1)/\(¬cR (z.i 1) (z.s 2) (z.i 3) (z.i 4) (z.i 5) (z.i 6) (z.i 7) (z.i 8) (z.s 9) (z.g 10) (z.g 11) v0 (z.p 12) (z.i 13) (z.i 14)=(0:Int)->hT y2 300=hZ))))))))) by dsimp only [jO,en,hs,wi,ul,pD] at hA;have:=br 0 0 0 [] [] [];have:=br (z.i 6) (z.i 7) (z.i 8) (z.s 9) (z.g 10) (z.g 11);have:=@cO (z.s 2) (z.i 3) (z.i 4) (z.i 5) (z.i 7) (z.s 9) (z.g 10) (z.g 11) (hT z 100) (z.i 13) (z.i 14);have:=@fA (z.i 1) (z.s 2) (z.i 3) (z.i 4) (z.i 5) (z.i 6) (z.i 7) (z.i 8) (z.s 9) (z.g 10) (z.g 11) (hT z 100) (z.p 12) (z.i 13) (z.i 14);have:=@fB (z.i 1) (z.s 2) (z.i 3) (z.i 4) (z.i 5) (z.i 6) (z.i 7) (z.i 8) (z.s 9) (z.g 10) (z.g 11) (hT z 100) (z.p 12) (z.i 13) (z.i 14);have:=@ig (z.i 1) (z.s 2) (z.i 3) (z.i 4) (z.i 5) (z.i 6) (z.i 7) (z.i 8) (z.s 9) (z.g 10) (z.g 11) (hT z 100) (z.p 12) (z.i 13) (z.i 14);have:=@jK (z.i 1) (z.s 2) (z.i 3) (z.i 4) (z.i 5) (z.i 6) (z.i 7) (z.i 8) (z.s 9) (z.g 10) (z.g 11) (hT z 100) (z.p 12) (z.i 13) (z.i 14);have:=@kU (z.i 1) (z.s 2) (z.i 3) (z.i 4) (z.i 5) (z.i 6) (z.i 7) (z.i 8) (z.s 9) (z.g 10) (z.g 11) (hT z 100) (z.p 12) (z.i 13) (z.i 14);have:=@da (z.i 1) (z.s 2) (z.i 3) (z.i 4) (z.i 5) (z.i 6) (z.i 7) (z.i 8) (z.s 9) (z.g 10) (z.g 11) (hT z 100) (z.p 12) (z.i 13) (z.i 14);have:=@fZ (z.i 1) (z.s 2) (z.i 3) (z.i 4) (z.i 5) (hT z 100) (z.i 13) (z.i 14);have:=@iA (z.i 1) (z.s 2) (z.i 3) (z.i 4) (z.i 5) (mK z) (hT z 100=hZ) (z.p 12) (z.i 13) (z.i 14);exact cZ
def Sl:bj 194 yg:=bB 1 0 (ai NF (ai sV eN)) lN λz hA=>show Fm.den ((Si (hT z 200) (z.i 21) (z.i 22) (z.i 23) λy0=>(.an (sW (y0.s 20)) (.ct (qf (y0.s 20)) (λy1=>True) λy1=>(.ax (hG (eM (y0.s 20))=ci (kw (z.i 21) (z.i 22) (z.i 23) (hT z 200)))))))) by dsimp only [yg,bk,hs] at hA;have:=@ij (z.i 21) (z.i 22) (z.i 23) (hT z 200);have:=mH (kw (z.i 21) (z.i 22) (z.i 23) (hT z 200));have:=JD z;have t1:(((z.g 24).length:Nat):Int).toNat=(z.g 24).length:=Int.toNat_natCast _;have:=@bM (z.i 21);have:=@bM (z.i 22);have:=@bM (z.i 23);have:=cy z 200;have:=@aJ z 200;have:=bq z 200;exact cZ
noncomputable section
def en2:List Sh:=[.i .i64 41,.s 42,.i .i64 43,.i .i64 44,.i .i64 45,.o,.o,.o,.o,.o,.o]++hs 400++ [.b 52,.i .i64 53,.i .i64 54]
def va6:List Sh:=[.i .i64 6,.i .i64 7,.i .i64 8,.s 9,.v 1 10,.v 2 11]
def NL:FSpec:=⟨[.ag va6],[],λ_=>True,λ_=>.one (.c (.b 50)),λ_=>[],λz y=>y.p 50↔mK z,none⟩
def NM:FSpec:=⟨[.ag en,.ag en2],[],λ_=>True,λ_=>.one (.c (.b 50)),λ_=>[],λz y=>y.p 50↔(z.i 1=z.i 41/\z.s 2=z.s 42/\z.i 3=z.i 43/\z.i 4=z.i 44/\z.i 5=z.i 45/\hT z 100=hT z 400/\(z.p 12↔z.p 52)/\z.i 13=z.i 53/\z.i 14=z.i 54/\mK z),none⟩
def Vf:FSpec:=⟨[.ag en],[],λ_=>True,λ_=>.one (.c (.b 50)),λ_=>[],λz y=>y.p 50↔BC z,none⟩
abbrev SMay:=il
abbrev NnE(z:Sy):Prop:=0<=z.i 3/\0<=z.i 4/\0<=z.i 5/\0<=z.i 13/\0<=z.i 14
def Srin:FSpec:=⟨[.c (.i .i64 1),.c (.i .i64 2),.c (.i .i64 3)],[],λ_=>True,λ_=>.one (.c (.b 50)),λ_=>[],λz y=>y.p 50↔z.i 2<=z.i 1/\z.i 1<=z.i 3,none⟩
def NN:FSpec:=⟨[.ag en],[],λz=>wi z/\NnE z,λ_=>.one (.c (.vb 10)),λ_=>[],λz y=>y.s 10=pD z,none⟩
abbrev NO:=Gw
def wl(p:Sy):LSpec:=⟨[(1,.c (.pb (p.p 25))),(2,.c (.p 0)),(5,.c (.gb 1 20)),(6,.c (.i .i64 9))],[.cells 79 (mZ p),.growb 5 20],λz=>jN (p.g 24)/\(0<=z.i 9/\z.i 9<=(p.g 24).length)/\(z.s 20).length+(gg (p.p 25) (p.g 24) (z.i 9)).length<=20000000,λz=>((p.g 24).length-z.i 9).toNat,[⟨.exit 0,[(5,.c (.gb 1 20))],[.cells 79 (mZ p),.growb 5 20]⟩],λz y=>y.s 20=z.s 20++gg (p.p 25) (p.g 24) (z.i 9),none,[]⟩
abbrev Gz:=Gy
def tC(p:Sy):LSpec:=⟨[(1,.c (.p 0)),(3,.c (.i .i64 9))],[.cells 79 (mZ p)],λz=>qY (p.g 24)/\(p.g 24).length<=200/\(0<=z.i 9/\z.i 9<=(p.g 24).length)/\fO (p.g 24) 0=fO (p.g 24) (z.i 9),λz=>((p.g 24).length-z.i 9).toNat,[⟨.exit 0,[(1,.c (.p 0))],[.cells 79 (mZ p)]⟩,⟨.ret,[(2,.c (.i .i64 50))],[.cells 79 (mZ p)]⟩],λz y=>(y.i 999=0->fO (p.g 24) 0=0)/\(¬y.i 999=0->y.i 50=fO (p.g 24) 0/\¬y.i 50=0),none,[]⟩
abbrev BF:=q_
abbrev qk:=jO
abbrev GA:=yg
abbrev wm:=ol
def lvR(e:G):G:=.node [aA (uk e)]
def gJ(es:List G)(i:Int):List G:=(es.drop i.toNat).map lvR
def NP{es:List G}{i:Int}(h0:0<=i)(h:i<es.length):gJ es i= .node [aA (uk (aq es i.toNat))]::gJ es (i+1):=by unfold gJ;rw[eH h0 h,aax];rfl
def Sm{es:List G}{i:Int}(h:(es.length:Int)<=i):gJ es i= []:=by unfold gJ;rw[aaH (by omega)];rfl
def jP(es:List G):(gJ es 0).length=es.length:=by unfold gJ;simp
def wn(p:Sy):LSpec:=⟨[(1,.c (.p 0)),(3,.c (.g 1 32 30)),(4,.c (.i .i64 9))],[.cells 79 (mZ p),.grow 6 28 30],λz=>jN (p.g 24)/\(0<=z.i 9/\z.i 9<=(p.g 24).length)/\(z.g 30).length=z.i 9,λz=>((p.g 24).length-z.i 9).toNat,[⟨.exit 0,[(3,.c (.g 1 32 30))],[.cells 79 (mZ p),.grow 6 28 30]⟩],λz y=>y.g 30=z.g 30++gJ (p.g 24) (z.i 9),none,[]⟩
def GB:FSpec:=⟨[.ag bk],[],λz=>jN (z.g 24),λ_=>.one (.c (.v 6 30)),λ_=>[],λz y=>y.g 30=gJ (z.g 24) 0,none⟩
def Xj{e:G}(h:me e=0):(0<=gI (aa e 2)/\gI (aa e 2)<=64)/\(0<=gI (aa e 3)/\gI (aa e 3)<=65536)/\(0<=gI (aa e 4)/\gI (aa e 4)<=2147483648)/\(gS (aa e 1)).length<=4096/\(0<=gI (aa e 13)/\gI (aa e 13)<=2147483648)/\(0<=gI (aa e 14)/\gI (aa e 14)<=2147483648):=iA (da h).1
attribute [irreducible] gJ
end
def GC:bj 65 NO:=bB 1 0 (ai dm eN) lN λz hA=>show Fm.den ((NE (z.i 21) (Max.max 0 (z.i 21)%18446744073709551616) λy0=>(.an (Dy (y0.s 10)) (NE (z.i 22) (Max.max 0 (z.i 22)%18446744073709551616) λy1=>(.an (([]++y0.s 10).length=0+(y0.s 10).length/\0+(y0.s 10).length<=1000000000/\(y1.s 10).length<=1000000) (NE (z.i 23) (Max.max 0 (z.i 23)%18446744073709551616) λy2=>(.an (([]++y0.s 10++y1.s 10).length=0+(y0.s 10).length+(y1.s 10).length/\0+(y0.s 10).length+(y1.s 10).length<=1000000000/\(y2.s 10).length<=1000000) (.an (([]++y0.s 10++y1.s 10++y2.s 10).length=0+(y0.s 10).length+(y1.s 10).length+(y2.s 10).length/\0+(y0.s 10).length+(y1.s 10).length+(y2.s 10).length<=1000000000/\bp (kq z 200)) (.an (([]++y0.s 10++y1.s 10++y2.s 10++aI (kq z 200)).length=0+(y0.s 10).length+(y1.s 10).length+(y2.s 10).length+32/\True) (.at ([]++y0.s 10++y1.s 10++y2.s 10++aI (kq z 200)=kw (z.i 21) (z.i 22) (z.i 23) (hT z 200)))))))))))) by
 dsimp only [NO,Gw,bk,hs] at hA;have:=@ij (z.i 21) (z.i 22) (z.i 23) (hT z 200);have:=mH (kw (z.i 21) (z.i 22) (z.i 23) (hT z 200));have:=JD z;have t1:(((z.g 24).length:Nat):Int).toNat=(z.g 24).length:=Int.toNat_natCast _;have:=@bM (z.i 21);have:=@bM (z.i 22);have:=@bM (z.i 23);have:=cy z 200;have:=@aJ z 200;have:=bq z 200;have m21:z.i 21<9223372036854775808->(max 0 (z.i 21)%18446744073709551616).toNat=(z.i 21).toNat:=λa=>by omega
 have m22:z.i 22<9223372036854775808->(max 0 (z.i 22)%18446744073709551616).toNat=(z.i 22).toNat:=λa=>by omega
 have m23:z.i 23<9223372036854775808->(max 0 (z.i 23)%18446744073709551616).toNat=(z.i 23).toNat:=λa=>by omega
 have m2:(z.g 24).length<=200->(((z.g 24).length:Int)%18446744073709551616).toNat=(z.g 24).length:=λh=>by omega
 repeat' with_reducible first|intro _|apply cd|apply ck|apply cg|apply cE|apply cr
 all_goals first|omega|grind [ao,ak,aj,aT,aU,aV,aW,aX,aY,aZ,a_,ba,aC,List.append_assoc,kw,bM]
def rc:bj 13 NN:=bB 3 1 (ai dm eN) lN λz hA=>show Fm.den (let v0:=(z.i 1%256);let v1:=(↑(z.s 2).length:Int);(uj (z.i 3) (z.i 3%18446744073709551616) λy0=>(.an (0<=z.i 1%256/\True) (.an (1=1) (.an (M5 (y0.s 10)) (uj (z.i 4) (z.i 4%18446744073709551616) λy1=>(.an (([v0.toNat]++y0.s 10).length=1+(y0.s 10).length/\1+(y0.s 10).length<=1000000000/\(y1.s 10).length<=1000000) (uj (z.i 5) (z.i 5%18446744073709551616) λy2=>(.an (([v0.toNat]++y0.s 10++y1.s 10).length=1+(y0.s 10).length+(y1.s 10).length/\1+(y0.s 10).length+(y1.s 10).length<=1000000000/\(y2.s 10).length<=1000000) (uj v1 (v1%18446744073709551616) λy3=>(.an (([v0.toNat]++y0.s 10++y1.s 10++y2.s 10).length=1+(y0.s 10).length+(y1.s 10).length+(y2.s 10).length/\1+(y0.s 10).length+(y1.s 10).length+(y2.s 10).length<=1000000000/\(y3.s 10).length<=1000000) (.an (([v0.toNat]++y0.s 10++y1.s 10++y2.s 10++y3.s 10).length=1+(y0.s 10).length+(y1.s 10).length+(y2.s 10).length+(y3.s 10).length/\1+(y0.s 10).length+(y1.s 10).length+(y2.s 10).length+(y3.s 10).length<=1000000000/\(z.s 2).length<=1000000) (uj (z.i 13) (z.i 13%18446744073709551616) λy4=>(.an (([v0.toNat]++y0.s 10++y1.s 10++y2.s 10++y3.s 10++z.s 2).length=1+(y0.s 10).length+(y1.s 10).length+(y2.s 10).length+(y3.s 10).length+(z.s 2).length/\1+(y0.s 10).length+(y1.s 10).length+(y2.s 10).length+(y3.s 10).length+(z.s 2).length<=1000000000/\(y4.s 10).length<=1000000) (uj (z.i 14) (z.i 14%18446744073709551616) λy5=>(let v2:=([v0.toNat]++y0.s 10++y1.s 10++y2.s 10++y3.s 10++z.s 2++y4.s 10++y5.s 10);(.an (([v0.toNat]++y0.s 10++y1.s 10++y2.s 10++y3.s 10++z.s 2++y4.s 10).length=1+(y0.s 10).length+(y1.s 10).length+(y2.s 10).length+(y3.s 10).length+(z.s 2).length+(y4.s 10).length/\1+(y0.s 10).length+(y1.s 10).length+(y2.s 10).length+(y3.s 10).length+(z.s 2).length+(y4.s 10).length<=1000000000/\(y5.s 10).length<=1000000) (.two (z.i 1=2) (.an (v2.length=1+(y0.s 10).length+(y1.s 10).length+(y2.s 10).length+(y3.s 10).length+(z.s 2).length+(y4.s 10).length+(y5.s 10).length/\1+(y0.s 10).length+(y1.s 10).length+(y2.s 10).length+(y3.s 10).length+(z.s 2).length+(y4.s 10).length+(y5.s 10).length<=1000000000/\bp (kq z 100)) (.an (([v0.toNat]++y0.s 10++y1.s 10++y2.s 10++y3.s 10++z.s 2++y4.s 10++y5.s 10++aI (kq z 100)).length=1+(y0.s 10).length+(y1.s 10).length+(y2.s 10).length+(y3.s 10).length+(z.s 2).length+(y4.s 10).length+(y5.s 10).length+32/\True) (.at ([v0.toNat]++y0.s 10++y1.s 10++y2.s 10++y3.s 10++z.s 2++y4.s 10++y5.s 10++aI (kq z 100)=cu (z.i 1) (z.s 2) (z.i 3) (z.i 4) (z.i 5) (hT z 100) (z.i 13) (z.i 14))))) (.an (v2.length=1+(y0.s 10).length+(y1.s 10).length+(y2.s 10).length+(y3.s 10).length+(z.s 2).length+(y4.s 10).length+(y5.s 10).length/\True) (.at ([v0.toNat]++y0.s 10++y1.s 10++y2.s 10++y3.s 10++z.s 2++y4.s 10++y5.s 10=cu (z.i 1) (z.s 2) (z.i 3) (z.i 4) (z.i 5) (hT z 100) (z.i 13) (z.i 14)))))))))))))))))))))) by
 dsimp only [NN,en,hs,wi,NnE,pD] at hA;have:=br 0 0 0 [] [] [];have:=br (z.i 6) (z.i 7) (z.i 8) (z.s 9) (z.g 10) (z.g 11);have:=@cO (z.s 2) (z.i 3) (z.i 4) (z.i 5) (z.i 7) (z.s 9) (z.g 10) (z.g 11) (hT z 100) (z.i 13) (z.i 14);have:=@yb (z.i 1) (z.s 2) (z.i 3) (z.i 4) (z.i 5) (hT z 100) (z.i 13) (z.i 14);have:=@tr (z.i 1) (z.s 2) (z.i 3) (z.i 4) (z.i 5) (hT z 100) (z.i 13) (z.i 14);have:=@bM (z.i 3);have:=@bM (z.i 4);have:=@bM (z.i 5);have:=@bM (z.i 13);have:=@bM (z.i 14);have:=@fC (z.s 2).length;have:=cy z 100;have:=@aJ z 100;have:=bq z 100;have t1:(((z.s 2).length:Nat):Int).toNat=(z.s 2).length:=Int.toNat_natCast _;have m3:0<=z.i 3->z.i 3<9223372036854775808->(z.i 3%18446744073709551616).toNat=(z.i 3).toNat:=λa b=>by omega
 have m4:0<=z.i 4->z.i 4<9223372036854775808->(z.i 4%18446744073709551616).toNat=(z.i 4).toNat:=λa b=>by omega
 have m5:0<=z.i 5->z.i 5<9223372036854775808->(z.i 5%18446744073709551616).toNat=(z.i 5).toNat:=λa b=>by omega
 have m13:0<=z.i 13->z.i 13<9223372036854775808->(z.i 13%18446744073709551616).toNat=(z.i 13).toNat:=λa b=>by omega
 have m14:0<=z.i 14->z.i 14<9223372036854775808->(z.i 14%18446744073709551616).toNat=(z.i 14).toNat:=λa b=>by omega
 have m2:(z.s 2).length<=1000000->(((z.s 2).length:Int)%18446744073709551616).toNat=(z.s 2).length:=λh=>by omega
 conv=>zeta
 repeat' with_reducible first|intro _|apply cd|apply ck|apply cg|apply cE|apply cr
 all_goals first|omega|grind [ao,ak,aj,aT,aU,aV,aW,aX,aY,aZ,a_,ba,aC,List.append_assoc,bq]
abbrev GD(a:List Nat)(b:List G)(c)(d:Prop):=a.length=a.length/\b=b/\fW c c d
def Sn(p:Sy)(z:Sy):=@Xj (aq (p.g 24) (z.i 9).toNat)
def hv18(p:Sy)(z:Sy):=λa b c d e f g=>@fZ (gI (aa (aq (p.g 24) (z.i 9).toNat) 0)) (gS (aa (aq (p.g 24) (z.i 9).toNat) 1)) (gI (aa (aq (p.g 24) (z.i 9).toNat) 2)) (gI (aa (aq (p.g 24) (z.i 9).toNat) 3)) (gI (aa (aq (p.g 24) (z.i 9).toNat) 4)) (hX (aa (aq (p.g 24) (z.i 9).toNat) 11)) (gI (aa (aq (p.g 24) (z.i 9).toNat) 13)) (gI (aa (aq (p.g 24) (z.i 9).toNat) 14)) a b c d e f g
def DT:bH 178 0 wl:=bG 13 2246949 (ai rc (ai pC (ai dm eN))) lN λp z hA=>show Fm.den (let v0:=(aL (p.g 24) (z.i 9));let v1:=(p.i 23=p.i 23/\p.i 22=p.i 22/\p.i 21=p.i 21/\(p.p 25↔p.p 25)/\True);let v2:=((-9223372036854775808)<=z.i 9+1/\z.i 9+1<=9223372036854775807);let v3:=(oM (p.g 24));let v4:=(↑(p.g 24).length:Int);let v5:=(dF (z.i 9) (p.g 24));let v6:=(z.i 9+1);let v7:=(gL (aa v0 10));let v8:=(gS (aa v0 8));let v9:=(kg p 200);let v10:=(gI (aa v0 6));let v11:=(gL (aa v0 9));let d7:=(gg (p.p 25) (p.g 24) v6);let i9:=(gI (aa v0 5));let j8:=(gI (aa v0 7));let n7:=(v4-z.i 9);(.two (bO (z.i 9) (p.g 24)) (.an (bS (z.i 9) (p.g 24)) (.ct (mX (gS (aa v0 1)) (gI (aa v0 2)) (gI (aa v0 3)) (gI (aa v0 4)) v10 v8 v11 v7 (hX (aa v0 11)) (gI (aa v0 13)) (gI (aa v0 14))/\(0:Int)<=gI (aa v0 2)/\(0:Int)<=gI (aa v0 3)/\(0:Int)<=gI (aa v0 4)/\(0:Int)<=gI (aa v0 13)/\(0:Int)<=gI (aa v0 14)) (λy0=>y0.s 10=cu (gI (aa v0 0)) (gS (aa v0 1)) (gI (aa v0 2)) (gI (aa v0 3)) (gI (aa v0 4)) (hX (aa v0 11)) (gI (aa v0 13)) (gI (aa v0 14))) λy0=>(let o8:=((z.s 20++y0.s 10++ [Int.toNat 0]).length=(z.s 20).length+(y0.s 10).length+1/\p.g 24=p.g 24/\fW v9 v9 v1);let s8:=(qx v3 v5 (z.s 20++y0.s 10++ [Int.toNat 0]) d7);let s9:=(z.s 20++y0.s 10);let u0:=(s9.length=(z.s 20).length+(y0.s 10).length/\(z.s 20).length+(y0.s 10).length<=1000000000/\(0:Int)<=0/\True);(.an (DK (z.s 20) (y0.s 10)) (.two (gI (aa v0 0)≠2) (.an v2 (.an (s9.length=(z.s 20).length+(y0.s 10).length/\p.g 24=p.g 24/\fW v9 v9 v1) (.at ((qx v3 v5 s9 d7)/\(v4-v6).toNat<n7.toNat/\∀(y:Sy),y.s 20=z.s 20++y0.s 10++gg (p.p 25) (p.g 24) v6->y.s 20=z.s 20++gg (p.p 25) (p.g 24) (z.i 9))))) (.two (gI (aa v0 12)=1) (.an u0 (.an v2 (.an o8 (.at (s8/\(v4-v6).toNat<n7.toNat/\∀(y:Sy),y.s 20=z.s 20++y0.s 10++ [Int.toNat 0]++gg (p.p 25) (p.g 24) v6->y.s 20=z.s 20++gg (p.p 25) (p.g 24) (z.i 9)))))) (.two (¬p.p 25) (.an u0 (.an v2 (.an o8 (.at (s8/\(v4-v6).toNat<n7.toNat/\∀(y:Sy),y.s 20=z.s 20++y0.s 10++ [Int.toNat 0]++gg (p.p 25) (p.g 24) v6->y.s 20=z.s 20++gg (p.p 25) (p.g 24) (z.i 9)))))) (Zd v10 v8 v11 v7 i9 j8 (dM 16 i9 v10 j8 v8 v11 v7) λy1=>(let v20:=(↑(y1.s 10).length:Int);(.an (s9.length=(z.s 20).length+(y0.s 10).length/\(z.s 20).length+(y0.s 10).length<=1000000000/\(0:Int)<=1/\True) (uj v20 (v20%18446744073709551616) λy2=>(let v21:=(z.s 20++y0.s 10++ [Int.toNat 1]++y2.s 10++y1.s 10);(.an ((z.s 20++y0.s 10++ [Int.toNat 1]).length=(z.s 20).length+(y0.s 10).length+1/\(z.s 20).length+(y0.s 10).length+1<=1000000000/\(y2.s 10).length<=1000000) (.an ((z.s 20++y0.s 10++ [Int.toNat 1]++y2.s 10).length=(z.s 20).length+(y0.s 10).length+1+(y2.s 10).length/\(z.s 20).length+(y0.s 10).length+1+(y2.s 10).length<=1000000000/\(y1.s 10).length<=1000000) (.an v2 (.an (v21.length=(z.s 20).length+(y0.s 10).length+1+(y2.s 10).length+(y1.s 10).length/\p.g 24=p.g 24/\fW v9 v9 v1) (.at ((qx v3 v5 v21 d7)/\(v4-v6).toNat<n7.toNat/\∀(y:Sy),y.s 20=z.s 20++y0.s 10++ [Int.toNat 1]++y2.s 10++y1.s 10++gg (p.p 25) (p.g 24) v6->y.s 20=z.s 20++gg (p.p 25) (p.g 24) (z.i 9))))))))))))))))))) (.an (GD (z.s 20) (p.g 24) v9 (ja (p.i 23) (p.i 22) (p.i 21))) (.at (z.s 20=z.s 20++gg (p.p 25) (p.g 24) (z.i 9)))))) by
 dsimp only [wl,mZ,uC,jN] at hA;have:=@oh (p.p 25) (p.g 24) (z.i 9);have:=@qZ (p.p 25) (p.g 24) (z.i 9);have a3:=@og (p.p 25) (aq (p.g 24) (z.i 9).toNat);have a4:=@tw (p.p 25) (aq (p.g 24) (z.i 9).toNat);have a5:=@kV (p.p 25) (aq (p.g 24) (z.i 9).toNat);have a6:=BE p z;have a7:=JF p z;dsimp only [uk,kj,wh,me] at a3 a4 a5 a6 a7;have:=NH p z;have:=NI p z;have q1:=Sn p z;dsimp only [me] at q1;have:=hv18 p z;conv=>zeta
 repeat' with_reducible first|intro _|apply cd|apply ck|apply cg|apply cE|apply cr
 all_goals first|omega|grind [ao,ak,aj,aT,aU,aV,aW,aX,aY,aZ,a_,ba,aC,List.append_assoc,fC,bM]
def BG:bj 178 Gz:=bB 1 0 (ai GC (ai dm eN)) (aG (ptm:=[(0,.ag bk),(1,.c (.b 25))]) DT lN) λz hA=>show Fm.den (let v0:=(↑(z.g 24).length:Int);(Si (hT z 200) (z.i 21) (z.i 22) (z.i 23) λy0=>(uj v0 (v0%18446744073709551616) λy1=>(.an (DK (y0.s 20) (y1.s 10)) (.cl (((y0.s 20++y1.s 10).length=(y0.s 20).length+(y1.s 10).length/\z.g 24=z.g 24/\fW (kg z 200) (kg z 200) (z.i 23=z.i 23/\z.i 22=z.i 22/\z.i 21=z.i 21/\(z.p 25↔z.p 25)/\True))) (qx (oM (z.g 24)) (fL v0) (y0.s 20++y1.s 10) (gg (z.p 25) (z.g 24) 0)) (λy2=>y2.s 20=y0.s 20++y1.s 10++gg (z.p 25) (z.g 24) 0) λy2=>(.an (pu (y2.s 20)) (.at (y2.s 20=mY (z.p 25) (z.i 21) (z.i 22) (z.i 23) (hT z 200) (z.g 24))))))))) by
 dsimp only [Gz,Gy,bk,hs,jN] at hA;have:=@ij (z.i 21) (z.i 22) (z.i 23) (hT z 200);have:=mH (kw (z.i 21) (z.i 22) (z.i 23) (hT z 200));have:=JD z;have t1:(((z.g 24).length:Nat):Int).toNat=(z.g 24).length:=Int.toNat_natCast _;have:=@bM (z.i 21);have:=@bM (z.i 22);have:=@bM (z.i 23);have:=cy z 200;have:=@aJ z 200;have:=bq z 200;have m21:z.i 21<9223372036854775808->(max 0 (z.i 21)%18446744073709551616).toNat=(z.i 21).toNat:=λa=>by omega
 have m22:z.i 22<9223372036854775808->(max 0 (z.i 22)%18446744073709551616).toNat=(z.i 22).toNat:=λa=>by omega
 have m23:z.i 23<9223372036854775808->(max 0 (z.i 23)%18446744073709551616).toNat=(z.i 23).toNat:=λa=>by omega
 have m2:(z.g 24).length<=200->(((z.g 24).length:Int)%18446744073709551616).toNat=(z.g 24).length:=λh=>by omega
 have:=hv16 z;conv=>zeta
 repeat' with_reducible first|intro _|apply cd|apply ck|apply cg|apply cE|apply cr
 all_goals first|omega|grind [ao,ak,aj,aT,aU,aV,aW,aX,aY,aZ,a_,ba,aC,List.append_assoc,mY,kw]
def GE:bj 239 NL:=bB 15 252776721 eN lN λz hA=>show Fm.den (let v0:=(false=true↔iz (z.i 6) (z.i 7) (z.i 8) (z.s 9) (z.g 10) (z.g 11));let v1:=(↑(z.g 10).length:Int);let v2:=(↑(z.g 11).length:Int);(.two (z.i 6≠0) (.ax v0) (.two (z.i 7≠0) (.ax v0) (.two (z.i 8≠0) (.ax v0) (.two (z.s 9≠ []) (.ax v0) (.two (v1≠0) (.ax v0) (.two (v2≠0) (.ax v0) (.an (¬(0<v1)) (.an (¬(0<v2)) (.ax (true=true↔iz (z.i 6) (z.i 7) (z.i 8) (z.s 9) (z.g 10) (z.g 11)))))))))))) by dsimp only [NL,va6,mK] at hA;have:=br (z.i 6) (z.i 7) (z.i 8) (z.s 9) (z.g 10) (z.g 11);exact cZ
def So:bj 238 NM:=bB 23 285300053 (ai GE eN) lN λz hA=>show Fm.den (let v0:=(false=true↔z.i 1=z.i 41/\z.s 2=z.s 42/\z.i 3=z.i 43/\z.i 4=z.i 44/\z.i 5=z.i 45/\hT z 100=hT z 400/\(z.p 12↔z.p 52)/\z.i 13=z.i 53/\z.i 14=z.i 54/\iz (z.i 6) (z.i 7) (z.i 8) (z.s 9) (z.g 10) (z.g 11));let v1:=([z.i 13,z.i 14]= [z.i 53,z.i 54]);(.two (z.i 1=z.i 41) (.two (z.s 2=z.s 42) (.two (z.i 3=z.i 43) (.two (z.i 4=z.i 44) (.two (z.i 5=z.i 45) (.two (kr (hT z 100) (hT z 400)) (.two (z.p 12) (.two (z.p 52) (.two v1 (.ct (True) (λy0=>(y0.p 50↔iz (z.i 6) (z.i 7) (z.i 8) (z.s 9) (z.g 10) (z.g 11))) λy0=>(.ax (y0.p 50↔z.i 1=z.i 41/\z.s 2=z.s 42/\z.i 3=z.i 43/\z.i 4=z.i 44/\z.i 5=z.i 45/\hT z 100=hT z 400/\(z.p 12↔z.p 52)/\z.i 13=z.i 53/\z.i 14=z.i 54/\iz (z.i 6) (z.i 7) (z.i 8) (z.s 9) (z.g 10) (z.g 11)))) (.ax v0)) (.ax v0)) (.two (z.p 52) (.ax v0) (.two v1 (.ct (True) (λy1=>(y1.p 50↔iz (z.i 6) (z.i 7) (z.i 8) (z.s 9) (z.g 10) (z.g 11))) λy1=>(.ax (y1.p 50↔z.i 1=z.i 41/\z.s 2=z.s 42/\z.i 3=z.i 43/\z.i 4=z.i 44/\z.i 5=z.i 45/\hT z 100=hT z 400/\(z.p 12↔z.p 52)/\z.i 13=z.i 53/\z.i 14=z.i 54/\iz (z.i 6) (z.i 7) (z.i 8) (z.s 9) (z.g 10) (z.g 11)))) (.ax v0)))) (.ax v0)) (.ax v0)) (.ax v0)) (.ax v0)) (.ax v0)) (.ax v0))) by dsimp only [NM,en,hs,en2,mK] at hA;exact cZ
def o_rin:bj 177 Srin:=bB 3 1 eN lN λz hA=>show Fm.den ((.two (z.i 2<=z.i 1) (.ax (z.i 1<=z.i 3↔z.i 2<=z.i 1/\z.i 1<=z.i 3)) (.ax (false=true↔z.i 2<=z.i 1/\z.i 1<=z.i 3)))) by dsimp only [Srin] at hA;exact cZ
abbrev Sp(a:Int):=Fm.ct (True) (λy=>(y.p 50↔0<=a/\a<=2147483648))
def Xk:bj 201 Vf:=bB 134 2318217041492198042024772958205177482006813296078085134296460220892666025022725 (ai GE (ai So (ai o_rin eN))) lN λz hA=>show Fm.den (let v1:=(iz (z.i 6) (z.i 7) (z.i 8) (z.s 9) (z.g 10) (z.g 11));let v2:=(z.p 12↔false=true);let v3:=(hT z 100=hZ);let v0:=(false=true↔ic (z.i 1) (z.s 2) (z.i 3) (z.i 4) (z.i 5) v1 v3 (z.p 12) (z.i 13) (z.i 14));let v4:=(↑(z.s 2).length:Int);(.ct (True) (λy0=>(y0.p 50↔1<=v4/\v4<=40)) λy0=>(.ct (True) (λy1=>(y1.p 50↔1<=z.i 3/\z.i 3<=64)) λy1=>(.ct (True) (λy2=>(y2.p 50↔1<=z.i 4/\z.i 4<=65536)) λy2=>(let v5:=(¬(y2.p 50));(.two (z.i 1=1) (.ct (True) (λy3=>(y3.p 50↔1<=v4/\v4<=4096)) λy3=>(.two (y3.p 50) (.ct (True) (λy4=>(y4.p 50↔z.i 1=z.i 1/\z.s 2=z.s 2/\z.i 3=0/\z.i 4=0/\z.i 5=0/\hT z 100=hZ/\v2/\z.i 13=0/\z.i 14=0/\iz (z.i 6) (z.i 7) (z.i 8) (z.s 9) (z.g 10) (z.g 11))) λy4=>(.ax (y4.p 50↔ic (z.i 1) (z.s 2) (z.i 3) (z.i 4) (z.i 5) v1 v3 (z.p 12) (z.i 13) (z.i 14)))) (.ax v0))) (.two (z.i 1=2) (.two (z.p 12) (.ct (True) (λy5=>(y5.p 50↔iz (z.i 6) (z.i 7) (z.i 8) (z.s 9) (z.g 10) (z.g 11))) λy5=>(.two (¬y5.p 50) (.ax v0) (.two (y1.p 50) (.an (y1.p 50) (.two (y2.p 50) (.an (y2.p 50) (.an (y2.p 50) (Sp (z.i 5) λy6=>(let v6:=(¬(y6.p 50));(.an (y2.p 50) (.two (y6.p 50) (.an (y6.p 50) (.an (y6.p 50) (.an (y6.p 50) (.an (y6.p 50) (.an (y6.p 50) (.an (y6.p 50) (.an (y6.p 50) (.an (y6.p 50) (.an (y6.p 50) (.an (y6.p 50) (.an (y6.p 50) (.an (y6.p 50) (.an (y6.p 50) (.an (y6.p 50) (.an (y6.p 50) (.ct (True) (λy7=>(y7.p 50↔z.i 1=z.i 1/\z.s 2= []/\z.i 3=z.i 3/\z.i 4=z.i 4/\z.i 5=z.i 5/\hT z 100=hT z 100/\(z.p 12↔z.p 12)/\z.i 13=0/\z.i 14=0/\iz 0 0 0 [] [] [])) λy7=>(.an (y6.p 50) (.ax (y7.p 50↔ic (z.i 1) (z.s 2) (z.i 3) (z.i 4) (z.i 5) v1 v3 (z.p 12) (z.i 13) (z.i 14)))))))))))))))))))) (.an v6 (.an v6 (.an v6 (.an v6 (.an v6 (.an v6 (.an v6 (.an v6 (.an v6 (.an v6 (.an v6 (.an v6 (.an v6 (.an v6 (.an v6 (.an v6 (.ax v0))))))))))))))))))))))) (.an v5 (.an v5 (.an v5 (.ax v0)))))) (.an (¬(y1.p 50)) (.ax v0))))) (.two (y1.p 50) (.an (y1.p 50) (.two (y2.p 50) (.an (y2.p 50) (.an (y2.p 50) (Sp (z.i 5) λy8=>(let v7:=(¬(y8.p 50));(.an (y2.p 50) (.two (y8.p 50) (.an (y8.p 50) (.an (y8.p 50) (.an (y8.p 50) (.an (y8.p 50) (.an (y8.p 50) (.an (y8.p 50) (.an (y8.p 50) (.an (y8.p 50) (.an (y8.p 50) (.an (y8.p 50) (.an (y8.p 50) (.an (y8.p 50) (.an (y8.p 50) (.an (y8.p 50) (.an (y8.p 50) (.ct (True) (λy9=>(y9.p 50↔z.i 1=z.i 1/\z.s 2= []/\z.i 3=z.i 3/\z.i 4=z.i 4/\z.i 5=z.i 5/\hT z 100=hT z 100/\(z.p 12↔z.p 12)/\z.i 13=0/\z.i 14=0/\iz 0 0 0 [] [] [])) λy9=>(.an (y8.p 50) (.ax (y9.p 50↔ic (z.i 1) (z.s 2) (z.i 3) (z.i 4) (z.i 5) v1 v3 (z.p 12) (z.i 13) (z.i 14)))))))))))))))))))) (.an v7 (.an v7 (.an v7 (.an v7 (.an v7 (.an v7 (.an v7 (.an v7 (.an v7 (.an v7 (.an v7 (.an v7 (.an v7 (.an v7 (.an v7 (.an v7 (.ax v0))))))))))))))))))))))) (.an v5 (.an v5 (.an v5 (.ax v0)))))) (.an (¬(y1.p 50)) (.ax v0)))) (.two (z.i 1=3) (.two (y1.p 50) (.two (y2.p 50) (.ct (True) (λC'=>(C'.p 50↔1<=z.i 5/\z.i 5<=2147483648)) λC'=>(.two (C'.p 50) (.ct (True) (λy11=>(y11.p 50↔z.i 1=z.i 1/\z.s 2= []/\z.i 3=z.i 3/\z.i 4=z.i 4/\z.i 5=z.i 5/\hT z 100=hZ/\v2/\z.i 13=0/\z.i 14=0/\iz (z.i 6) (z.i 7) (z.i 8) (z.s 9) (z.g 10) (z.g 11))) λy11=>(.ax (y11.p 50↔ic (z.i 1) (z.s 2) (z.i 3) (z.i 4) (z.i 5) v1 v3 (z.p 12) (z.i 13) (z.i 14)))) (.ax v0))) (.ax v0)) (.ax v0)) (.two (z.i 1=4) (Sp (z.i 13) λy12=>(.two (y12.p 50) (Sp (z.i 14) λR'=>(.two (R'.p 50) (.ct (True) (λy14=>(y14.p 50↔z.i 1=z.i 1/\z.s 2= []/\z.i 3=0/\z.i 4=0/\z.i 5=0/\hT z 100=hZ/\v2/\z.i 13=z.i 13/\z.i 14=z.i 14/\iz (z.i 6) (z.i 7) (z.i 8) (z.s 9) (z.g 10) (z.g 11))) λy14=>(.ax (y14.p 50↔ic (z.i 1) (z.s 2) (z.i 3) (z.i 4) (z.i 5) v1 v3 (z.p 12) (z.i 13) (z.i 14)))) (.ax v0))) (.ax v0))) (.two (z.i 1=5) (.an (z.i 1=5) (.two (y1.p 50) (.two (y0.p 50) (.ct (True) (λy15=>(y15.p 50↔z.i 1=z.i 1/\z.s 2=z.s 2/\z.i 3=z.i 3/\z.i 4=0/\z.i 5=0/\hT z 100=hZ/\v2/\z.i 13=0/\z.i 14=0/\iz (z.i 6) (z.i 7) (z.i 8) (z.s 9) (z.g 10) (z.g 11))) λy15=>(.ax (y15.p 50↔ic (z.i 1) (z.s 2) (z.i 3) (z.i 4) (z.i 5) v1 v3 (z.p 12) (z.i 13) (z.i 14)))) (.ax v0)) (.ax v0))) (.two (z.i 1=7) (.two (y1.p 50) (.two (y0.p 50) (.ct (True) (λy16=>(y16.p 50↔z.i 1=z.i 1/\z.s 2=z.s 2/\z.i 3=z.i 3/\z.i 4=0/\z.i 5=0/\hT z 100=hZ/\v2/\z.i 13=0/\z.i 14=0/\iz (z.i 6) (z.i 7) (z.i 8) (z.s 9) (z.g 10) (z.g 11))) λy16=>(.ax (y16.p 50↔ic (z.i 1) (z.s 2) (z.i 3) (z.i 4) (z.i 5) v1 v3 (z.p 12) (z.i 13) (z.i 14)))) (.ax v0)) (.ax v0)) (.two (z.i 1=6) (.two (y1.p 50) (.ct (True) (λy17=>(y17.p 50↔z.i 1=z.i 1/\z.s 2= []/\z.i 3=z.i 3/\z.i 4=0/\z.i 5=0/\hT z 100=hZ/\v2/\z.i 13=0/\z.i 14=0/\iz (z.i 6) (z.i 7) (z.i 8) (z.s 9) (z.g 10) (z.g 11))) λy17=>(.ax (y17.p 50↔ic (z.i 1) (z.s 2) (z.i 3) (z.i 4) (z.i 5) v1 v3 (z.p 12) (z.i 13) (z.i 14)))) (.ax v0)) (.ax v0))))))))))))) by dsimp only [Vf,en,hs,BC,mK] at hA;have:=br 0 0 0 [] [] [];have:=br (z.i 6) (z.i 7) (z.i 8) (z.s 9) (z.g 10) (z.g 11);have:=@Nz (z.i 1) (z.s 2) (z.i 3) (z.i 4) (z.i 5) (mK z) (hT z 100=hZ) (z.p 12) (z.i 13) (z.i 14);have:=@Bz (z.i 1) (z.s 2) (z.i 3) (z.i 4) (z.i 5) (mK z) (hT z 100=hZ) (z.p 12) (z.i 13) (z.i 14);have:=@BA (z.i 1) (z.s 2) (z.i 3) (z.i 4) (z.i 5) (mK z) (hT z 100=hZ) (z.p 12) (z.i 13) (z.i 14);have:=@Gp (z.i 1) (z.s 2) (z.i 3) (z.i 4) (z.i 5) (mK z) (hT z 100=hZ) (z.p 12) (z.i 13) (z.i 14);have:=@Gq (z.i 1) (z.s 2) (z.i 3) (z.i 4) (z.i 5) (mK z) (hT z 100=hZ) (z.p 12) (z.i 13) (z.i 14);have:=@Gr (z.i 1) (z.s 2) (z.i 3) (z.i 4) (z.i 5) (mK z) (hT z 100=hZ) (z.p 12) (z.i 13) (z.i 14);have:=@Gt (z.i 1) (z.s 2) (z.i 3) (z.i 4) (z.i 5) (mK z) (hT z 100=hZ) (z.p 12) (z.i 13) (z.i 14);have:=@Gs (z.i 1) (z.s 2) (z.i 3) (z.i 4) (z.i 5) (mK z) (hT z 100=hZ) (z.p 12) (z.i 13) (z.i 14);exact cZ
def Vg:bj 142 SMay:=bB 11 69905 (ai Xk (ai Gn eN)) lN λz hA=>show Fm.den (let v1:=(hT z 100);let v0:=((0:Int)=cR (z.i 1) (z.s 2) (z.i 3) (z.i 4) (z.i 5) (z.i 6) (z.i 7) (z.i 8) (z.s 9) (z.g 10) (z.g 11) v1 (z.p 12) (z.i 13) (z.i 14));(.ct (True) (λy0=>(y0.p 50↔ic (z.i 1) (z.s 2) (z.i 3) (z.i 4) (z.i 5) (iz (z.i 6) (z.i 7) (z.i 8) (z.s 9) (z.g 10) (z.g 11)) (hT z 100=hZ) (z.p 12) (z.i 13) (z.i 14))) λy0=>(.two (¬y0.p 50) (.ax ((3:Int)=cR (z.i 1) (z.s 2) (z.i 3) (z.i 4) (z.i 5) (z.i 6) (z.i 7) (z.i 8) (z.s 9) (z.g 10) (z.g 11) v1 (z.p 12) (z.i 13) (z.i 14))) (.two (z.i 1≠2) (.ax v0) (.two (z.p 12) (.ax v0) (Xi (z.i 7) (z.s 9) (z.g 10) (z.g 11) (z.i 6) (z.i 8) λy1=>(.two (y1.i 11≠0) (.ax (y1.i 11=cR (z.i 1) (z.s 2) (z.i 3) (z.i 4) (z.i 5) (z.i 6) (z.i 7) (z.i 8) (z.s 9) (z.g 10) (z.g 11) v1 (z.p 12) (z.i 13) (z.i 14))) (.two (¬kr (hT y1 300) v1) (.ax ((18:Int)=cR (z.i 1) (z.s 2) (z.i 3) (z.i 4) (z.i 5) (z.i 6) (z.i 7) (z.i 8) (z.s 9) (z.g 10) (z.g 11) v1 (z.p 12) (z.i 13) (z.i 14))) (.ax v0))))))))) by dsimp only [SMay,il,en,hs,wi,ul] at hA;have:=br 0 0 0 [] [] [];have:=br (z.i 6) (z.i 7) (z.i 8) (z.s 9) (z.g 10) (z.g 11);have:=@cO (z.s 2) (z.i 3) (z.i 4) (z.i 5) (z.i 7) (z.s 9) (z.g 10) (z.g 11) (hT z 100) (z.i 13) (z.i 14);have:=@fA (z.i 1) (z.s 2) (z.i 3) (z.i 4) (z.i 5) (z.i 6) (z.i 7) (z.i 8) (z.s 9) (z.g 10) (z.g 11) (hT z 100) (z.p 12) (z.i 13) (z.i 14);have:=@fB (z.i 1) (z.s 2) (z.i 3) (z.i 4) (z.i 5) (z.i 6) (z.i 7) (z.i 8) (z.s 9) (z.g 10) (z.g 11) (hT z 100) (z.p 12) (z.i 13) (z.i 14);have:=@ig (z.i 1) (z.s 2) (z.i 3) (z.i 4) (z.i 5) (z.i 6) (z.i 7) (z.i 8) (z.s 9) (z.g 10) (z.g 11) (hT z 100) (z.p 12) (z.i 13) (z.i 14);have:=@jK (z.i 1) (z.s 2) (z.i 3) (z.i 4) (z.i 5) (z.i 6) (z.i 7) (z.i 8) (z.s 9) (z.g 10) (z.g 11) (hT z 100) (z.p 12) (z.i 13) (z.i 14);have:=@kU (z.i 1) (z.s 2) (z.i 3) (z.i 4) (z.i 5) (z.i 6) (z.i 7) (z.i 8) (z.s 9) (z.g 10) (z.g 11) (hT z 100) (z.p 12) (z.i 13) (z.i 14);have:=@da (z.i 1) (z.s 2) (z.i 3) (z.i 4) (z.i 5) (z.i 6) (z.i 7) (z.i 8) (z.s 9) (z.g 10) (z.g 11) (hT z 100) (z.p 12) (z.i 13) (z.i 14);exact cZ
def BH:bH 111 0 tC:=bG 6 133 (ai Vg eN) lN λp z hA=>show Fm.den (let v0:=(aN (((((((((((((((((((((((((((((((((((((PS.mk [(999,Tm.i (Int.ofNat (nat_lit 0)))] ((0,(bI 0).fst,0)::ji.loc) ji.ln ji.pr ji.fz).and (cN (p.i 21))).and (cN (p.i 22))).and (cN (p.i 23))).and (cN (p.i (200+nat_lit 0)))).and (cN (p.i (200+nat_lit 1)))).and (cN (p.i (200+nat_lit 2)))).and (cN (p.i (200+nat_lit 3)))).and (cN (p.i (200+nat_lit 4)))).and (cN (p.i (200+nat_lit 5)))).and (cN (p.i (200+nat_lit 6)))).and (cN (p.i (200+nat_lit 7)))).and (cN (p.i (200+nat_lit 8)))).and (cN (p.i (200+nat_lit 9)))).and (cN (p.i (200+nat_lit 10)))).and (cN (p.i (200+nat_lit 11)))).and (cN (p.i (200+nat_lit 12)))).and (cN (p.i (200+nat_lit 13)))).and (cN (p.i (200+nat_lit 14)))).and (cN (p.i (200+nat_lit 15)))).and (cN (p.i (200+nat_lit 16)))).and (cN (p.i (200+nat_lit 17)))).and (cN (p.i (200+nat_lit 18)))).and (cN (p.i (200+nat_lit 19)))).and (cN (p.i (200+nat_lit 20)))).and (cN (p.i (200+nat_lit 21)))).and (cN (p.i (200+nat_lit 22)))).and (cN (p.i (200+nat_lit 23)))).and (cN (p.i (200+nat_lit 24)))).and (cN (p.i (200+nat_lit 25)))).and (cN (p.i (200+nat_lit 26)))).and (cN (p.i (200+nat_lit 27)))).and (cN (p.i (200+nat_lit 28)))).and (cN (p.i (200+nat_lit 29)))).and (cN (p.i (200+nat_lit 30)))).and (cN (p.i (200+nat_lit 31)))).and (p.g 24=p.g 24)).tm);let v1:=(aL (p.g 24) (z.i 9));let v2:=(qy (p.g 24) (kg p 200) (ja (p.i 23) (p.i 22) (p.i 21)));let v3:=(↑(p.g 24).length:Int);(.two (bO (z.i 9) (p.g 24)) (.an (bS (z.i 9) (p.g 24)) (.ct (mX (gS (aa v1 1)) (gI (aa v1 2)) (gI (aa v1 3)) (gI (aa v1 4)) (gI (aa v1 6)) (gS (aa v1 8)) (gL (aa v1 9)) (gL (aa v1 10)) (hX (aa v1 11)) (gI (aa v1 13)) (gI (aa v1 14))) (λy0=>y0.i 50=cR (gI (aa v1 0)) (gS (aa v1 1)) (gI (aa v1 2)) (gI (aa v1 3)) (gI (aa v1 4)) (gI (aa v1 5)) (gI (aa v1 6)) (gI (aa v1 7)) (gS (aa v1 8)) (gL (aa v1 9)) (gL (aa v1 10)) (hX (aa v1 11)) (gI (aa v1 12)=1) (gI (aa v1 13)) (gI (aa v1 14))) λy0=>(.two (y0.i 50≠0) (.an v2 (.at (((1:Int)=0->fO (p.g 24) 0=0)/\(¬(1:Int)=0->y0.i 50=fO (p.g 24) 0/\¬y0.i 50=0)))) (.an ((-9223372036854775808)<=z.i 9+1/\z.i 9+1<=9223372036854775807) (.an v2 (.at (Tq79 (qY (p.g 24)/\(p.g 24).length<=200/\(dF (z.i 9) (p.g 24))/\fO (p.g 24) 0=fO (p.g 24) (z.i 9+1)) (v3-(z.i 9+1)) (v3-z.i 9) (p.g 24)))))))) (.an v2 (.at (((0:Int)=0->fO (p.g 24) 0=0)/\(¬(0:Int)=0->v0.i 50=fO (p.g 24) 0/\¬v0.i 50=(0:Int))))))) by dsimp only [tC,mZ,uC] at hA;have a1:=@oe (p.g 24) (z.i 9);have a2:=@Gu (p.g 24) (z.i 9);have:=@yc (p.g 24) (z.i 9);have a6:=BE p z;dsimp only [wh,me] at a1 a2 a6;exact cZ
def pE:bj 111 BF:=bB 21 85217605 (ai BG eN) (aG (ptm:=[(0,.ag bk)]) BH lN) λz hA=>show Fm.den (let v1:=(↑(z.g 24).length:Int);let v2:=(hT z 200);let v0:=((1:Int)=bw (z.i 21) (z.i 22) (z.i 23) v2 (z.g 24));(.two (0<=z.i 21) (.two (¬z.i 21<=2147483648) (.ax v0) (.two (0<=z.i 22) (.two (¬z.i 22<=9007199254740992) (.ax v0) (.two (0<=z.i 23) (.two (¬z.i 23<=9007199254740992) (.ax v0) (.two (1<=v1) (.two (¬v1<=200) (.ax v0) (Tq75 (qy (z.g 24) (kg z 200) (ja (z.i 23) (z.i 22) (z.i 21))) (z.g 24) (fL v1) λy0=>(.two (y0.i 999=0) (Sj (oM (z.g 24)) v2 (z.i 21) (z.i 22) (z.i 23) (true=true) (z.g 24) λy1=>(.two (262144<(↑(y1.s 10).length:Int)) (.ax ((5:Int)=bw (z.i 21) (z.i 22) (z.i 23) v2 (z.g 24))) (.ax ((0:Int)=bw (z.i 21) (z.i 22) (z.i 23) v2 (z.g 24))))) (.ax (y0.i 50=bw (z.i 21) (z.i 22) (z.i 23) v2 (z.g 24)))))) (.ax v0))) (.ax v0))) (.ax v0))) (.ax v0))) by
 dsimp only [BF,q_,bk,hs,CJ] at hA;have:=@jL (z.i 21) (z.i 22) (z.i 23) (hT z 200) (z.g 24);have:=@jM (z.i 21) (z.i 22) (z.i 23) (hT z 200) (z.g 24);have:=@gH (z.i 21) (z.i 22) (z.i 23) (hT z 200) (z.g 24);have:=@mJ (z.i 21) (z.i 22) (z.i 23) (hT z 200) (z.g 24);have:=@fm (z.i 21) (z.i 22) (z.i 23) (hT z 200) (z.g 24);conv=>zeta
 repeat' with_reducible first|intro _|apply cd|apply ck|apply cg|apply cE|apply cr
 all_goals first|omega|grind [ao,ak,aj,aT,aU,aV,aW,aX,aY,aZ,a_,ba,aC,List.append_assoc,yd]
def DU:bj 116 wm:=bB 3 1 (ai pE (ai BG eN)) lN λz hA=>show Fm.den (let v0:=(hT z 200);(Sk (z.g 24) v0 (z.i 21) (z.i 22) (z.i 23) λy0=>(.two (y0.i 50≠0) (.ax (y0.i 50=bw (z.i 21) (z.i 22) (z.i 23) v0 (z.g 24)/\(bw (z.i 21) (z.i 22) (z.i 23) v0 (z.g 24)=(0:Int)-> []=mY (z.p 25) (z.i 21) (z.i 22) (z.i 23) v0 (z.g 24))/\(¬bw (z.i 21) (z.i 22) (z.i 23) v0 (z.g 24)=(0:Int)->mG))) (Sj (oM (z.g 24)) v0 (z.i 21) (z.i 22) (z.i 23) (z.p 25) (z.g 24) λy1=>(.ax ((0:Int)=bw (z.i 21) (z.i 22) (z.i 23) v0 (z.g 24)/\(bw (z.i 21) (z.i 22) (z.i 23) v0 (z.g 24)=(0:Int)->y1.s 10=mY (z.p 25) (z.i 21) (z.i 22) (z.i 23) v0 (z.g 24))/\(¬bw (z.i 21) (z.i 22) (z.i 23) v0 (z.g 24)=(0:Int)->y1.s 10= []))))))) by
 dsimp only [wm,ol,bk,hs,CJ,tz] at hA;have:=@jL (z.i 21) (z.i 22) (z.i 23) (hT z 200) (z.g 24);have:=@jM (z.i 21) (z.i 22) (z.i 23) (hT z 200) (z.g 24);have:=@gH (z.i 21) (z.i 22) (z.i 23) (hT z 200) (z.g 24);have:=@mJ (z.i 21) (z.i 22) (z.i 23) (hT z 200) (z.g 24);have:=@fm (z.i 21) (z.i 22) (z.i 23) (hT z 200) (z.g 24);conv=>zeta
 repeat' with_reducible first|intro _|apply cd|apply ck|apply cg|apply cE|apply cr
 all_goals first|omega|grind [ao,ak,aj,aT,aU,aV,aW,aX,aY,aZ,a_,ba,aC,yd]
def BI:bj 26 GA:=bB 1 0 (ai GC (ai vR eN)) lN λz hA=>show Fm.den ((Si (hT z 200) (z.i 21) (z.i 22) (z.i 23) λy0=>(.an (sW (y0.s 20)) (s_ (y0.s 20) λy1=>(.ax (hG (eD (y0.s 20))=ci (kw (z.i 21) (z.i 22) (z.i 23) (hT z 200)))))))) by
 dsimp only [GA,yg,bk,hs] at hA;have:=@ij (z.i 21) (z.i 22) (z.i 23) (hT z 200);have:=mH (kw (z.i 21) (z.i 22) (z.i 23) (hT z 200));have:=JD z;have t1:(((z.g 24).length:Nat):Int).toNat=(z.g 24).length:=Int.toNat_natCast _;have:=@bM (z.i 21);have:=@bM (z.i 22);have:=@bM (z.i 23);have:=cy z 200;have:=@aJ z 200;have:=bq z 200;repeat' with_reducible first|intro _|apply cd|apply ck|apply cg|apply cE|apply cr
 all_goals first|omega|grind [ao,ak,aj,aT,aU,aV,aW,aX,aY,aZ,a_,ba,aC,fj]
abbrev ot(a:List G):=a.length=a.length/\a.length<=1000000000/\True
abbrev NQ(a b:List G)(c)(d:Prop):=a.length=a.length/\b=b/\fW c c d
def DV:bH 25 0 wn:=bG 4 9 (ai rc (ai xR eN)) lN λp z hA=>show Fm.den (let v0:=(aL (p.g 24) (z.i 9));let v1:=(ja (p.i 23) (p.i 22) (p.i 21));let v2:=(kg p 200);let v3:=(↑(p.g 24).length:Int);(.two (bO (z.i 9) (p.g 24)) (.an (bS (z.i 9) (p.g 24)) (.ct (mX (gS (aa v0 1)) (gI (aa v0 2)) (gI (aa v0 3)) (gI (aa v0 4)) (gI (aa v0 6)) (gS (aa v0 8)) (gL (aa v0 9)) (gL (aa v0 10)) (hX (aa v0 11)) (gI (aa v0 13)) (gI (aa v0 14))/\(0:Int)<=gI (aa v0 2)/\(0:Int)<=gI (aa v0 3)/\(0:Int)<=gI (aa v0 4)/\(0:Int)<=gI (aa v0 13)/\(0:Int)<=gI (aa v0 14)) (λy0=>y0.s 10=cu (gI (aa v0 0)) (gS (aa v0 1)) (gI (aa v0 2)) (gI (aa v0 3)) (gI (aa v0 4)) (hX (aa v0 11)) (gI (aa v0 13)) (gI (aa v0 14))) λy0=>(Ny (y0.s 10) λy1=>(let v4:=(z.g 30++ [G.node [hT y1 300]]);(.an (ot (z.g 30)) (.an ((-9223372036854775808)<=z.i 9+1/\z.i 9+1<=9223372036854775807) (.an (v4.length=(z.g 30).length+1/\p.g 24=p.g 24/\fW v2 v2 v1) (.at (((oM (p.g 24))/\(dF (z.i 9) (p.g 24))/\(↑v4.length:Int)=z.i 9+1)/\(v3-(z.i 9+1)).toNat<(v3-z.i 9).toNat/\∀(y:Sy),y.g 30=z.g 30++ [G.node [hT y1 300]]++gJ (p.g 24) (z.i 9+1)->y.g 30=z.g 30++gJ (p.g 24) (z.i 9)))))))))) (.an (NQ (z.g 30) (p.g 24) v2 v1) (.at (z.g 30=z.g 30++gJ (p.g 24) (z.i 9)))))) by dsimp only [wn,mZ,uC,jN] at hA;have a1:=@NP (p.g 24) (z.i 9);have:=@Sm (p.g 24) (z.i 9);have a6:=BE p z;have a7:=JF p z;dsimp only [uk,wh,me] at a1 a6 a7;have:=NH p z;have:=NI p z;have q1:=Sn p z;dsimp only [me] at q1;have:=hv18 p z;exact cZ
abbrev jb(a:List G):=a.length=a.length/\True
abbrev GF(a:List G)(b)(c:Prop):=0=0/\a=a/\fW b b c
def BJ:bj 25 GB:=bB 1 0 eN (aG (ptm:=[(0,.ag bk)]) DV lN) λz hA=>show Fm.den ((.cl ((GF (z.g 24) (kg z 200) (ja (z.i 23) (z.i 22) (z.i 21)))) ((oM (z.g 24))/\(fL (↑(z.g 24).length:Int))/\(↑0:Int)=0) (λy0=>y0.g 30= []++gJ (z.g 24) 0) λy0=>(.an (jb (y0.g 30)) (.at (y0.g 30=gJ (z.g 24) 0))))) by dsimp only [GB,bk,hs,jN] at hA;exact cZ
def yh:bj 74 qk:=bB 3 1 (ai Vg (ai rc (ai xR eN))) lN λz hA=>show Fm.den (let v0:=(hT z 100);let v1:=(cu (z.i 1) (z.s 2) (z.i 3) (z.i 4) (z.i 5) v0 (z.i 13) (z.i 14));(.ct (mX (z.s 2) (z.i 3) (z.i 4) (z.i 5) (z.i 7) (z.s 9) (z.g 10) (z.g 11) v0 (z.i 13) (z.i 14)) (λy0=>y0.i 50=cR (z.i 1) (z.s 2) (z.i 3) (z.i 4) (z.i 5) (z.i 6) (z.i 7) (z.i 8) (z.s 9) (z.g 10) (z.g 11) v0 (z.p 12) (z.i 13) (z.i 14)) λy0=>(.two (y0.i 50≠0) (.ax (y0.i 50=cR (z.i 1) (z.s 2) (z.i 3) (z.i 4) (z.i 5) (z.i 6) (z.i 7) (z.i 8) (z.s 9) (z.g 10) (z.g 11) v0 (z.p 12) (z.i 13) (z.i 14)/\(cR (z.i 1) (z.s 2) (z.i 3) (z.i 4) (z.i 5) (z.i 6) (z.i 7) (z.i 8) (z.s 9) (z.g 10) (z.g 11) v0 (z.p 12) (z.i 13) (z.i 14)=(0:Int)->hZ=aA v1)/\(¬cR (z.i 1) (z.s 2) (z.i 3) (z.i 4) (z.i 5) (z.i 6) (z.i 7) (z.i 8) (z.s 9) (z.g 10) (z.g 11) v0 (z.p 12) (z.i 13) (z.i 14)=(0:Int)->hZ=hZ))) (.ct (mX (z.s 2) (z.i 3) (z.i 4) (z.i 5) (z.i 7) (z.s 9) (z.g 10) (z.g 11) v0 (z.i 13) (z.i 14)/\0<=z.i 3/\0<=z.i 4/\0<=z.i 5/\0<=z.i 13/\0<=z.i 14) (λy1=>y1.s 10=cu (z.i 1) (z.s 2) (z.i 3) (z.i 4) (z.i 5) v0 (z.i 13) (z.i 14)) λy1=>(Ny (y1.s 10) λy2=>(.ax ((0:Int)=cR (z.i 1) (z.s 2) (z.i 3) (z.i 4) (z.i 5) (z.i 6) (z.i 7) (z.i 8) (z.s 9) (z.g 10) (z.g 11) v0 (z.p 12) (z.i 13) (z.i 14)/\(cR (z.i 1) (z.s 2) (z.i 3) (z.i 4) (z.i 5) (z.i 6) (z.i 7) (z.i 8) (z.s 9) (z.g 10) (z.g 11) v0 (z.p 12) (z.i 13) (z.i 14)=(0:Int)->hT y2 300=aA v1)/\(¬cR (z.i 1) (z.s 2) (z.i 3) (z.i 4) (z.i 5) (z.i 6) (z.i 7) (z.i 8) (z.s 9) (z.g 10) (z.g 11) v0 (z.p 12) (z.i 13) (z.i 14)=(0:Int)->hT y2 300=hZ)))))))) by dsimp only [qk,jO,en,hs,wi,ul,pD] at hA;have:=br 0 0 0 [] [] [];have:=br (z.i 6) (z.i 7) (z.i 8) (z.s 9) (z.g 10) (z.g 11);have:=@cO (z.s 2) (z.i 3) (z.i 4) (z.i 5) (z.i 7) (z.s 9) (z.g 10) (z.g 11) (hT z 100) (z.i 13) (z.i 14);have:=@fA (z.i 1) (z.s 2) (z.i 3) (z.i 4) (z.i 5) (z.i 6) (z.i 7) (z.i 8) (z.s 9) (z.g 10) (z.g 11) (hT z 100) (z.p 12) (z.i 13) (z.i 14);have:=@fB (z.i 1) (z.s 2) (z.i 3) (z.i 4) (z.i 5) (z.i 6) (z.i 7) (z.i 8) (z.s 9) (z.g 10) (z.g 11) (hT z 100) (z.p 12) (z.i 13) (z.i 14);have:=@ig (z.i 1) (z.s 2) (z.i 3) (z.i 4) (z.i 5) (z.i 6) (z.i 7) (z.i 8) (z.s 9) (z.g 10) (z.g 11) (hT z 100) (z.p 12) (z.i 13) (z.i 14);have:=@jK (z.i 1) (z.s 2) (z.i 3) (z.i 4) (z.i 5) (z.i 6) (z.i 7) (z.i 8) (z.s 9) (z.g 10) (z.g 11) (hT z 100) (z.p 12) (z.i 13) (z.i 14);have:=@kU (z.i 1) (z.s 2) (z.i 3) (z.i 4) (z.i 5) (z.i 6) (z.i 7) (z.i 8) (z.s 9) (z.g 10) (z.g 11) (hT z 100) (z.p 12) (z.i 13) (z.i 14);have:=@da (z.i 1) (z.s 2) (z.i 3) (z.i 4) (z.i 5) (z.i 6) (z.i 7) (z.i 8) (z.s 9) (z.g 10) (z.g 11) (hT z 100) (z.p 12) (z.i 13) (z.i 14);have:=@fZ (z.i 1) (z.s 2) (z.i 3) (z.i 4) (z.i 5) (hT z 100) (z.i 13) (z.i 14);have:=@iA (z.i 1) (z.s 2) (z.i 3) (z.i 4) (z.i 5) (mK z) (hT z 100=hZ) (z.p 12) (z.i 13) (z.i 14);exact cZ
noncomputable section
def bN(n:Nat):Nat:=2 ^ (n-1).log2
def f_(n:Nat):0<bN n:=aaP _
def fa{n:Nat}(h:2<=n):bN n<n:=by have:=Nat.log2_self_le (n:=n-1) (by omega);unfold bN;omega
def DW{n:Nat}(h:2<=n):n<=2 * bN n:=by have:n-1<2 ^ ((n-1).log2+1):=Nat.lt_log2_self;rw[aaY] at this;unfold bN;omega
def NR{n j:Nat}(h1:2 ^ j<n)(h2:n<=2 * 2 ^ j):bN n=2 ^ j:=by
 unfold bN;congr 1;have h0:n-1≠0:=by have:=aaP j;omega
 have a1:j<=(n-1).log2:=(Nat.le_log2 h0).2 (by omega);have a2:(n-1).log2<j+1:=(Nat.log2_lt h0).2 (by rw[aaY];omega);omega
def aO(l:List G):G:=
 if h:2<=l.length then bD (aO (l.take (bN l.length))) (aO (l.drop (bN l.length)))
 else match l with | []=>ci []|r::_=>hX (aa r 0)
termination_by l.length
decreasing_by
 ·rw[aao];have:=fa h;omega
 ·rw[aas];have:=f_ l.length;omega
def gh{l:List G}(h:2<=l.length):aO l=bD (aO (l.take (bN l.length))) (aO (l.drop (bN l.length))):=by rw[aO,dif_pos h]
def lG{l:List G}(h:l.length=1):aO l=hX (aa (aq l 0) 0):=by
 match l,h with
 | [r],_=>rw[aO];rfl
def pF{l:List G}(h:l.length=0):aO l=ci []:=by
 match l,h with
 | [],_=>rw[aO];rfl
def RowsOk(l:List G):Prop:=∀r∈l,HOk (hX (aa r 0))
def RowsOk.take{l:List G}(h:RowsOk l)(n:Nat):RowsOk (l.take n):=λr hr=>h r (List.mem_of_mem_take hr)
def RowsOk.drop{l:List G}(h:RowsOk l)(n:Nat):RowsOk (l.drop n):=λr hr=>h r (List.mem_of_mem_drop hr)
def RowsOk.at{l:List G}(h:RowsOk l){i:Int}(h0:0<=i)(hi:i<l.length):HOk (hX (aa (aq l i.toNat) 0)):=h _ (bY h0 hi)
def cD(l:List G)(h:RowsOk l):HOk (aO l):=by
 rcases aah l.length 2 with h2|h2
 ·match l,h2,h with
  | [],_,_=>rw[pF rfl];exact fX _
  | [r],_,h=>rw[lG rfl];exact h r (List.mem_singleton.2 rfl)
  |_::_::_,h2,_=>simp at h2;omega
 ·rw[gh h2];exact co _ _
def drop_zero(l:List G):l.drop (0:Int).toNat=l:=rfl
def JI{l:List G}{k:Int}(h:2<=l.length)(hk:k=(bN l.length:Nat)):aO l=bD (aO (List.drop (0:Int).toNat (List.take k.toNat l))) (aO (List.drop k.toNat (List.take (l.length:Int).toNat l))):=by subst hk;rw[gh h,drop_zero,aar,aar,aa9]
def aR(i:Int)(l:List G):List G:=
 if h:2<=l.length then
  if i<(bN l.length:Nat) then aR i (l.take (bN l.length))++ [.node [aO (l.drop (bN l.length))]]
  else aR (i-(bN l.length:Nat)) (l.drop (bN l.length))++ [.node [aO (l.take (bN l.length))]]
 else []
termination_by l.length
decreasing_by
 ·rw[aao];have:=fa h;omega
 ·rw[aas];have:=f_ l.length;omega
def ou{i:Int}{l:List G}(h:2<=l.length)(hi:i<(bN l.length:Nat)):aR i l=aR i (l.take (bN l.length))++ [.node [aO (l.drop (bN l.length))]]:=by rw[aR,dif_pos h,if_pos hi]
def ow{i:Int}{l:List G}(h:2<=l.length)(hi:¬i<(bN l.length:Nat)):aR i l=aR (i-(bN l.length:Nat)) (l.drop (bN l.length))++ [.node [aO (l.take (bN l.length))]]:=by rw[aR,dif_pos h,if_neg hi]
def gi{i:Int}{l:List G}(h:¬2<=l.length):aR i l= []:=by rw[aR,dif_neg h]
def gQ(h:G)(i n:Int)(p:List G):G×Prop:=
 if hn:2<=n then
  if p.length=0 then(hZ,False)
  else if i<(bN n.toNat:Nat) then(bD (gQ h i (bN n.toNat:Nat) p.dropLast).1 (hX (aa (aq p (p.length-1)) 0)),(gQ h i (bN n.toNat:Nat) p.dropLast).2)
  else(bD (hX (aa (aq p (p.length-1)) 0)) (gQ h (i-(bN n.toNat:Nat)) (n-(bN n.toNat:Nat)) p.dropLast).1,(gQ h (i-(bN n.toNat:Nat)) (n-(bN n.toNat:Nat)) p.dropLast).2)
 else(h,p.length=0)
termination_by n.toNat
decreasing_by all_goals (have:=fa (n:=n.toNat) (by omega);have:=f_ n.toNat;omega)
def lH{h:G}{i n:Int}{p:List G}(hn:¬2<=n):gQ h i n p=(h,p.length=0):=by rw[gQ,dif_neg hn]
def yi{h:G}{i n:Int}{p:List G}(hn:2<=n)(hp:p.length=0):gQ h i n p=(hZ,False):=by rw[gQ,dif_pos hn,if_pos hp]
def yj{h:G}{i n:Int}{p:List G}(hn:2<=n)(hp:¬p.length=0)(hi:i<(bN n.toNat:Nat)):gQ h i n p=(bD (gQ h i (bN n.toNat:Nat) p.dropLast).1 (hX (aa (aq p (p.length-1)) 0)),(gQ h i (bN n.toNat:Nat) p.dropLast).2):=by rw[gQ,dif_pos hn,if_neg hp,if_pos hi]
def yl{h:G}{i n:Int}{p:List G}(hn:2<=n)(hp:¬p.length=0)(hi:¬i<(bN n.toNat:Nat)):gQ h i n p=(bD (hX (aa (aq p (p.length-1)) 0)) (gQ h (i-(bN n.toNat:Nat)) (n-(bN n.toNat:Nat)) p.dropLast).1,(gQ h (i-(bN n.toNat:Nat)) (n-(bN n.toNat:Nat)) p.dropLast).2):=by rw[gQ,dif_pos hn,if_neg hp,if_neg hi]
def kn(n:Int)(rows L:List G):Prop:=(L.length:Int)=n/\∀j p:Nat,(p+1) * 2 ^ j<=L.length->j_ 0 rows [(j:Int),(p:Int)]/\hX (aa (eP 0 rows [(j:Int),(p:Int)]) 2)=aO ((L.drop (p * 2 ^ j)).take (2 ^ j))
def TrIn(lv:Int)(rows L:List G):Prop:=∀j p:Nat,(p+1) * 2 ^ j<=L.length->((p+1) * 2 ^ j<L.length∨(j:Int)<=lv)->j_ 0 rows [(j:Int),(p:Int)]/\hX (aa (eP 0 rows [(j:Int),(p:Int)]) 2)=aO ((L.drop (p * 2 ^ j)).take (2 ^ j))
def BK{m:Nat}{l:List G}{k:List Int}{v:List G}(hk:k.length=(bJ m).ks.length):j_ m (db m l k v) k/\eP m (db m l k v) k= .node (k.map G.int++v):=by
 have ag7:dB (bJ m).ks.length (.node (k.map G.int++v)) 0=k:=pg hk;unfold j_ eP;by_cases h:cK m l k<l.length
 ·have e:db m l k v=l.set (cK m l k) (.node (k.map G.int++v)):=by unfold db;rw[if_pos h]
  have hi:cK m (l.set (cK m l k) (.node (k.map G.int++v))) k=cK m l k:=by
   unfold cK at h⊢;refine(List.findIdx_eq (by rw[aaZ];exact h)).2 ⟨?_,λj hj=>?_⟩
   ·rw[List.getElem_set_self];simpa using ag7
   ·rw[List.getElem_set_ne (by omega)];exact abV hj
  rw[e,hi];refine⟨by rw[aaZ];exact h, ?_⟩;unfold aq;rw[aag,abN h];rfl
 ·have e:db m l k v=l++ [.node (k.map G.int++v)]:=by unfold db;rw[if_neg h]
  have ad6:∀x∈l,¬dB (bJ m).ks.length x 0=k:=λx hx hc=>h (List.findIdx_lt_length_of_exists ⟨x,hx,by simpa using hc⟩);have hi:cK m (l++ [.node (k.map G.int++v)]) k=l.length:=by
   unfold cK;refine(List.findIdx_eq (by simp)).2 ⟨?_,λj hj=>?_⟩
   ·rw[List.getElem_append_right (by omega)];simpa using ag7
   ·rw[abW (by omega)];simpa using ad6 _ (abd _)
  rw[e,hi];refine⟨by simp, ?_⟩;unfold aq;rw[aag,aaA (by omega)];simp
def tD{m:Nat}{l:List G}{k k':List Int}{v:List G}(hk:k.length=(bJ m).ks.length)(m7:k'≠k)(h':j_ m l k'):j_ m (db m l k v) k'/\eP m (db m l k v) k'=eP m l k':=by
 have ag7:dB (bJ m).ks.length (.node (k.map G.int++v)) 0=k:=pg hk;have h'':cK m l k'<l.length:=h';have o6:dB (bJ m).ks.length (l[cK m l k']) 0=k':=by have:=List.findIdx_getElem (w:=(show List.findIdx _ l<l.length from h''));exact of_decide_eq_true this
 unfold j_ eP;by_cases h:cK m l k<l.length
 ·have e:db m l k v=l.set (cK m l k) (.node (k.map G.int++v)):=by unfold db;rw[if_pos h]
  have ae_:dB (bJ m).ks.length (l[cK m l k]) 0=k:=by have:=List.findIdx_getElem (w:=(show List.findIdx _ l<l.length from h));exact of_decide_eq_true this
  have hnn:cK m l k≠cK m l k':=λe=>m7 (by rw[←o6, ←ae_];simp only [e]);have hi:cK m (l.set (cK m l k) (.node (k.map G.int++v))) k'=cK m l k':=by
   refine(List.findIdx_eq (by rw[aaZ];exact h'')).2 ⟨?_,λj hj=>?_⟩
   ·rw[List.getElem_set_ne hnn];simpa using o6
   ·by_cases ej:cK m l k=j
    ·subst ej;rw[List.getElem_set_self];simp only [ag7,decide_eq_false_iff_not];exact λe=>m7 e.symm
    ·rw[List.getElem_set_ne ej];exact abV hj
  rw[e,hi];refine⟨by rw[aaZ];exact h'', ?_⟩;unfold aq;rw[aag,List.getElem?_set_ne hnn, ←aag]
 ·have e:db m l k v=l++ [.node (k.map G.int++v)]:=by unfold db;rw[if_neg h]
  have hi:cK m (l++ [.node (k.map G.int++v)]) k'=cK m l k':=by
   refine(List.findIdx_eq (by simp;omega)).2 ⟨?_,λj hj=>?_⟩
   ·rw[abW h''];simpa using o6
   ·rw[abW (by omega)];exact abV hj
  rw[e,hi];refine⟨by simp;omega, ?_⟩;unfold aq;rw[aag,aaD h'', ←aag]
def wo(h:G):aO [.node [h]]=hX h:=lG rfl
def NS{n:Int}{rows L:List G}{h:G}(ht:kn n rows L)(hh:hX h=h):TrIn 0 (db 0 rows [0,n] [h]) (L++ [.node [h]]):=by
 obtain⟨e,ht⟩:=ht;intro j p h1 h2;rw[aai,aaI] at h1 h2;by_cases c9:(p+1) * 2 ^ j<=L.length
 ·obtain⟨a1,a2⟩:=ht j p c9;have m7: [(j:Int),(p:Int)]≠ [0,n]:=λee=>by
   injection ee with e1 ee;injection ee with e2 _;have:j=0:=by omega
   subst this;simp at c9;omega
  obtain⟨b1,b2⟩:=tD (m:=0) (v:=[h]) rfl m7 a1;refine⟨b1, ?_⟩;rw[b2,a2];have hb:p * 2 ^ j+2 ^ j<=L.length:=by rw[aaC,Nat.one_mul] at c9;exact c9
  generalize 2 ^ j=q at hb;rw[abC (by omega),abt (by rw[aas];omega)]
 ·have hj:j=0:=by
   rcases h2 with h2|h2
   ·omega
   ·omega
  subst hj;have hp:p=L.length:=by simp at c9 h1;omega
  subst hp;obtain⟨b1,b2⟩:=BK (m:=0) (l:=rows) (k:=[0,n]) (v:=[h]) rfl;rw[e];refine⟨b1, ?_⟩;rw[show((0:Nat):Int)=0 by rfl,b2];simp only [Nat.pow_zero,aaJ,List.drop_left];rw[show List.take 1 [G.node [h]]= [.node [h]] by rfl,wo];rfl
def BL(L:List G)(lv pl:Int):G:=aO ((L.drop (pl.toNat * 2 ^ lv.toNat)).take (2 ^ lv.toNat))
def ym(L:List G)(lv pl:Int)(rows:List G)(h:G):Prop:=TrIn lv rows L/\0<=lv/\0<=pl/\(pl.toNat+1) * 2 ^ lv.toNat=L.length/\h=BL L lv pl
def BM{n:Int}{rows L:List G}{h:G}(ht:kn n rows L)(hh:hX h=h):ym (L++ [.node [h]]) 0 n (db 0 rows [0,n] [h]) h:=by
 refine⟨NS ht hh,by decide,by have:=ht.1;omega, ?_, ?_⟩
 ·rw[aai,aaI];have:=ht.1;simp;omega
 ·unfold BL;have e:n.toNat=L.length:=by have:=ht.1;omega
  rw[e];simp only [show(0:Int).toNat=0 by rfl,Nat.pow_zero,aaJ,List.drop_left];rw[show List.take 1 [G.node [h]]= [.node [h]] by rfl,wo,hh]
def DX{L:List G}{lv pl:Int}{rows:List G}{h:G}(hl:ym L lv pl rows h)(ho:pl%2=1):j_ 0 rows [lv,pl-1]/\hX (aa (eP 0 rows [lv,pl-1]) 2)=aO ((L.drop ((pl.toNat-1) * 2 ^ lv.toNat)).take (2 ^ lv.toNat)):=by obtain⟨h1,h2,h3,h4,h5⟩:=hl;have hp:=aaP lv.toNat;have:=h1 lv.toNat (pl.toNat-1) (by rw[←h4];exact aaB _ (by omega)) (.inl (by rw[←h4];exact Nat.mul_lt_mul_of_pos_right (by omega) hp));rw[show((lv.toNat:Nat):Int)=lv by omega,show((pl.toNat-1:Nat):Int)=pl-1 by omega] at this;exact this
def GG{L:List G}{lv pl:Int}{rows:List G}{h h':G}(hl:ym L lv pl rows h)(ho:pl%2=1)(hh:h'=bD (hX (aa (eP 0 rows [lv,pl-1]) 2)) h):ym L (lv+1) (pl/2) (db 0 rows [lv+1,pl/2] [h']) h':=by
 obtain⟨_,a2⟩:=DX hl ho;obtain⟨h1,h2,h3,h4,h5⟩:=hl;have hp:=aaP lv.toNat;have e1:(lv+1).toNat=lv.toNat+1:=by omega
 have e2:pl.toNat=2 * (pl/2).toNat+1:=by omega
 have e3:((pl/2).toNat+1) * 2 ^ (lv+1).toNat=L.length:=by rw[e1,aaY, ←h4,e2];rw[Nat.mul_comm (2 ^ lv.toNat) 2, ←Nat.mul_assoc];congr 1;omega
 have e4:h'=BL L (lv+1) (pl/2):=by
  rw[hh,a2,h5];unfold BL;have hlen:((L.drop ((pl/2).toNat * 2 ^ (lv+1).toNat)).take (2 ^ (lv+1).toNat)).length=2 ^ (lv.toNat+1):=by rw[aao,aas, ←e3,e1,aaC];omega
  have hb:(pl.toNat-1) * 2 ^ lv.toNat=(pl/2).toNat * 2 ^ (lv+1).toNat:=by rw[e1,aaY,e2,Nat.mul_comm (2 ^ lv.toNat) 2, ←Nat.mul_assoc];congr 1;omega
  have hb2:pl.toNat * 2 ^ lv.toNat=(pl/2).toNat * 2 ^ (lv+1).toNat+2 ^ lv.toNat:=by
   rw[←hb];generalize 2 ^ lv.toNat=q;obtain⟨x,hx⟩:∃x,pl.toNat=x+1:=⟨pl.toNat-1,by omega⟩
   rw[hx,Nat.add_sub_cancel,aaC,Nat.one_mul]
  have h2p:2<=2 ^ (lv.toNat+1):=by rw[aaY];omega
  have as6:bN (2 ^ (lv.toNat+1))=2 ^ lv.toNat:=NR (by rw[aaY];omega) (by rw[aaY];omega);rw[gh (l:=(L.drop ((pl/2).toNat * 2 ^ (lv+1).toNat)).take (2 ^ (lv+1).toNat)) (by rw[hlen];exact h2p),hlen,as6,List.take_take,abs (by rw[e1,aaY];omega),abX,aa5,hb,hb2];congr 3;rw[e1,aaY];omega
 refine⟨λj p q1 q2=>?_,by omega,by omega,e3,e4⟩;by_cases ek: [(j:Int),(p:Int)]= [lv+1,pl/2]
 ·obtain⟨b1,b2⟩:=BK (m:=0) (l:=rows) (k:=[lv+1,pl/2]) (v:=[h']) rfl;rw[ek];refine⟨b1, ?_⟩;rw[b2];injection ek with k1 ek;injection ek with k2 _;have hr:hX h'=h':=by rw[hh];exact cI (co _ _)
  show hX h'=_;rw[hr,e4];unfold BL;rw[show(lv+1).toNat=j by omega,show(pl/2).toNat=p by omega]
 ·have:=h1 j p q1 (by
   rcases q2 with q2|q2
   ·exact .inl q2
   ·by_cases hj:(j:Int)<=lv
    ·exact .inr hj
    ·refine .inl (Nat.lt_of_le_of_ne q1 λe=>ek ?_);have ej:j=lv.toNat+1:=by omega
     subst ej;have:p+1=(pl/2).toNat+1:=Nat.eq_of_mul_eq_mul_right (aaP (lv.toNat+1)) (by rw[e, ←e3,e1]);have ep:p=(pl/2).toNat:=by omega
     rw[ep,show((lv.toNat+1:Nat):Int)=lv+1 by omega,show(((pl/2).toNat:Nat):Int)=pl/2 by omega])
  obtain⟨b1,b2⟩:=tD (m:=0) (v:=[h']) rfl ek this.1;exact⟨b1,by rw[b2];exact this.2⟩
def Xl{L:List G}{lv pl:Int}{rows:List G}{h:G}(hl:ym L lv pl rows h)(ho:¬pl%2=1):kn L.length rows L:=by
 obtain⟨h1,h2,h3,h4,h5⟩:=hl;refine⟨rfl,λj p q1=>h1 j p q1 ?_⟩;rcases aah ((p+1) * 2 ^ j) L.length with q|q
 ·exact .inl q
 ·refine .inr ?_;have e:(p+1) * 2 ^ j=(pl.toNat+1) * 2 ^ lv.toNat:=by omega
  rcases aah lv.toNat j with hj|hj
  ·exfalso;obtain⟨d,rfl⟩:∃d,j=lv.toNat+1+d:=⟨j-lv.toNat-1,by omega⟩
   rw[Nat.pow_add,aaY] at e;have:(pl.toNat+1)=(p+1) * 2 ^ d * 2:=Nat.eq_of_mul_eq_mul_right (aaP lv.toNat) (by rw[←e];rw[Nat.mul_comm (2 ^ lv.toNat * 2) (2 ^ d), ←Nat.mul_assoc, ←Nat.mul_assoc,Nat.mul_right_comm]);omega
  ·omega
def Kq(fr n:Int):Prop:=∃j:Nat,n.toNat<=2 ^ j/\fr%(2 ^ j:Nat)=0
def Xm{N fr n:Int}{rows L:List G}{i:Nat}(ht:kn N rows L)(h0:0<=fr)(hn:n=(2 ^ i:Nat))(hb:fr+n<=N)(ha:Kq fr n):j_ 0 rows [(i:Int),fr/(2 ^ i:Nat)]/\hX (aa (eP 0 rows [(i:Int),fr/(2 ^ i:Nat)]) 2)=aO ((L.drop fr.toNat).take n.toNat):=by
 obtain⟨j,a1,a2⟩:=ha;have hp:=aaP i;have hij:i<=j:=(Nat.pow_le_pow_iff_right (by decide:1<2)).1 (by omega);have hd:fr%(2 ^ i:Nat)=0:=by
  obtain⟨d,rfl⟩:∃d,j=i+d:=⟨j-i,by omega⟩
  rw[Nat.pow_add] at a2;have:=abH a2;exact Int.emod_eq_zero_of_dvd (Int.dvd_trans ⟨((2 ^ d:Nat):Int),by push_cast;rfl⟩ this)
 obtain⟨q,hq⟩:=abH hd;have hq0:0<=q:=by
  rcases Int.lt_or_le q 0 with h|h
  ·have:((2 ^ i:Nat):Int) * q<0:=Int.mul_neg_of_pos_of_neg (by omega) h;omega
  ·exact h
 have e1:fr/(2 ^ i:Nat)=q:=by rw[hq];exact Int.mul_ediv_cancel_left _ (by omega)
 have e2:fr.toNat=q.toNat * 2 ^ i:=by
  have:fr=((q.toNat * 2 ^ i:Nat):Int):=by rw[hq];push_cast;rw[Int.mul_comm];congr 1;omega
  omega
 have:=ht.2 i q.toNat (by rw[aaC,Nat.one_mul, ←e2];have:=ht.1;omega);rw[e1,show q=((q.toNat:Nat):Int) by omega,e2,show n.toNat=2 ^ i by omega];exact this
def al_lo{fr n k:Int}(hn:2<=n)(hk:k=(bN n.toNat:Nat))(h:Kq fr n):Kq fr k:=by obtain⟨j,a1,a2⟩:=h;exact⟨j,by have:=fa (n:=n.toNat) (by omega);omega,a2⟩
def al_hi{fr n k:Int}(hn:2<=n)(h0:0<=fr)(hk:k=(bN n.toNat:Nat))(h:Kq fr n):Kq (fr+k) (n-k):=by
 obtain⟨j,a1,a2⟩:=h;have hg:=DW (n:=n.toNat) (by omega);have hl:=fa (n:=n.toNat) (by omega);refine⟨(n.toNat-1).log2,by show(n-k).toNat<=bN n.toNat;omega, ?_⟩;have hij:(n.toNat-1).log2<=j:=by
  rcases aah j (n.toNat-1).log2 with h|h
  ·have:2 ^ j<2 ^ (n.toNat-1).log2:=Nat.pow_lt_pow_right (by decide) h;have:bN n.toNat=2 ^ (n.toNat-1).log2:=rfl;omega
  ·exact h
 obtain⟨d,hd⟩:∃d,j=(n.toNat-1).log2+d:=⟨j-(n.toNat-1).log2,by omega⟩
 rw[hd,Nat.pow_add] at a2;have h1:=abH a2;have h2:((2 ^ (n.toNat-1).log2:Nat):Int) ∣ fr:=Int.dvd_trans ⟨((2 ^ d:Nat):Int),by push_cast;rfl⟩ h1;exact Int.emod_eq_zero_of_dvd (Int.dvd_add h2 ⟨1,by rw[hk];show((bN n.toNat:Nat):Int)=_;rw[Int.mul_one];rfl⟩)
def DY{L:List G}{fr n k:Int}(h0:0<=fr)(hn:2<=n)(hb:fr+n<=L.length)(hk:k=(bN n.toNat:Nat)):aO ((L.drop fr.toNat).take n.toNat)=bD (aO ((L.drop fr.toNat).take k.toNat)) (aO ((L.drop (fr+k).toNat).take (n-k).toNat)):=by
 have hl:=fa (n:=n.toNat) (by omega);have hlen:((L.drop fr.toNat).take n.toNat).length=n.toNat:=by rw[aao,aas];omega
 rw[gh (l:=(L.drop fr.toNat).take n.toNat) (by rw[hlen];omega),hlen,List.take_take,abs (by omega),abX,aa5];congr 3
 ·omega
 ·congr 1;omega
 ·congr 1;omega
def lp_lv{L:List G}{lv pl:Int}{rows:List G}{h:G}(hl:ym L lv pl rows h)(hL:L.length<=2000000):(0<=lv/\lv<=30)/\0<=pl/\pl<=2000000:=by
 obtain⟨h1,h2,h3,h4,h5⟩:=hl;have hp:=aaP lv.toNat;have a:2 ^ lv.toNat<=2000000:=by have:1 * 2 ^ lv.toNat<=(pl.toNat+1) * 2 ^ lv.toNat:=aaB _ (by omega);omega
 have b:lv.toNat<31:=by
  rcases aah lv.toNat 31 with h|h
  ·exact h
  ·have:=abx (n:=2) (by decide) h;omega
 have c:(pl.toNat+1) * 1<=(pl.toNat+1) * 2 ^ lv.toNat:=Nat.mul_le_mul_left _ hp;omega
def DZ{n:Int}{rows L:List G}(h:kn n rows L):(L.length:Int)=n:=by exact h.1
def Xn:kn 0 [] []:=by exact⟨rfl,λj p h=>by have:=aaP j;have:1 * 2 ^ j<=(p+1) * 2 ^ j:=aaB _ (by omega);simp at h;omega⟩
def al0(n:Int):Kq 0 n:=by exact⟨n.toNat,Nat.le_of_lt Nat.lt_two_pow_self,by simp⟩
def Sq(n:Nat):bN n=2 ^ (n-1).log2:=rfl
attribute [irreducible] kn ym Kq bN
end
noncomputable section
def dA(x:Int):Int:=if x<=0 then 0 else((x.toNat.log2+1:Nat):Int)
def NT:List Nat:=[0,1,2,2,3,3,3,3,4,4,4,4,4,4,4,4,5,5,5,5,5,5,5,5,5,5,5,5,5,5,5,5,6,6,6,6,6,6,6,6,6,6,6,6,6,6,6,6,6,6,6,6,6,6,6,6,6,6,6,6,6,6,6,6,7,7,7,7,7,7,7,7,7,7,7,7,7,7,7,7,7,7,7,7,7,7,7,7,7,7,7,7,7,7,7,7,7,7,7,7,7,7,7,7,7,7,7,7,7,7,7,7,7,7,7,7,7,7,7,7,7,7,7,7,7,7,7,7,8,8,8,8,8,8,8,8,8,8,8,8,8,8,8,8,8,8,8,8,8,8,8,8,8,8,8,8,8,8,8,8,8,8,8,8,8,8,8,8,8,8,8,8,8,8,8,8,8,8,8,8,8,8,8,8,8,8,8,8,8,8,8,8,8,8,8,8,8,8,8,8,8,8,8,8,8,8,8,8,8,8,8,8,8,8,8,8,8,8,8,8,8,8,8,8,8,8,8,8,8,8,8,8,8,8,8,8,8,8,8,8,8,8,8,8,8,8,8,8,8,8,8,8,8,8,8,8]
def fP:List Nat:=[0,1,56,2,57,49,28,3,61,58,42,50,38,29,17,4,62,47,59,36,45,43,51,22,53,39,33,30,24,18,12,5,63,55,48,27,60,41,37,16,46,35,44,21,52,32,23,11,54,26,40,15,34,20,31,10,25,14,19,9,13,8,7,6]
def Ss:∀i:Nat,i<256->((kx NT i:Nat):Int)=dA i:=by
 have h:∀i:Fin 256,kx NT i.1=if i.1=0 then 0 else i.1.log2+1:=by decide+kernel
 intro i hi;rw[h ⟨i,hi⟩];unfold dA;by_cases e:i=0
 ·subst e;rfl
 ·rw[if_neg e,if_neg (by omega),aar]
def Su(x:Int):Int:=IntKind.u64.wrap (Int.ofNat ((aE (am .u64) x).land (aE (am .u64) ((0-x)%18446744073709551616)))) * 285870213051353865%18446744073709551616/288230376151711744
def Xo:∀j:Fin 41,(0<=Su ((2 ^ j.1:Nat):Int)/\Su ((2 ^ j.1:Nat):Int)<64)/\fP.getD (Su ((2 ^ j.1:Nat):Int)).toNat 0=j.1:=by decide+kernel
def tz_ok{x:Int}{j:Nat}(hj:j<=40)(e:x=((2 ^ j:Nat):Int)):0<x/\(0<=Su x/\Su x<64)/\(((fP.getD (Su x).toNat 0:Nat):Int)=(j:Int))/\x=((2 ^ (((fP.getD (Su x).toNat 0:Nat):Int)).toNat:Nat):Int):=by subst e;obtain⟨h1,h2⟩:=Xo ⟨j,by omega⟩;refine⟨by have:=aaP j;omega,h1,by rw[h2], ?_⟩;have h2:fP.getD (Su ((2 ^ j:Nat):Int)).toNat 0=j:=h2;rw[h2,aar]
def D0{x:Nat}{k:Nat}(h:2 ^ k<=x):x.log2=k+(x/2 ^ k).log2:=by
 have hp:=aaP k;have hd:x/2 ^ k≠0:=by have:=Nat.div_pos h hp;omega
 have hx:x≠0:=by omega
 have a:=Nat.log2_self_le hd;have b:x/2 ^ k<2 ^ ((x/2 ^ k).log2+1):=Nat.lt_log2_self;have h1:2 ^ (k+(x/2 ^ k).log2)<=x:=by rw[Nat.pow_add,Nat.mul_comm];exact aaL (aaB _ a) (Nat.div_mul_le_self _ _)
 have h2:x<2 ^ (k+(x/2 ^ k).log2+1):=by rw[abu,Nat.pow_add,Nat.mul_comm];exact(Nat.div_lt_iff_lt_mul hp).1 b
 have c1:=(Nat.le_log2 hx).2 h1;have c2:=(Nat.log2_lt hx).2 h2;omega
def mL{x:Int}(k:Nat)(h:((2 ^ k:Nat):Int)<=x):dA x=k+dA (x/((2 ^ k:Nat):Int)):=by
 obtain⟨n,rfl⟩:∃n:Nat,x=n:=⟨x.toNat,by have:=aaP k;omega⟩
 have hn:2 ^ k<=n:=by omega
 have hp:=aaP k;have hd:0<n/2 ^ k:=Nat.div_pos hn hp;have e:((n:Int)/((2 ^ k:Nat):Int))=((n/2 ^ k:Nat):Int):=by simp
 rw[e];unfold dA;rw[if_neg (by omega),if_neg (by omega),aar,aar,D0 hn];omega
def Sv{x:Int}(h:4294967296<=x):dA x=32+dA (x/4294967296):=mL 32 h
def GH{x:Int}(h:65536<=x):dA x=16+dA (x/65536):=mL 16 h
def yn{x:Int}(h:256<=x):dA x=8+dA (x/256):=mL 8 h
def fD{x:Int}(h0:0<=x)(h:x<256):((kx NT (x%256).toNat:Nat):Int)=dA x:=by rw[Ss _ (by omega)];congr 1;omega
def wp{n:Int}(h:2<=n)(h1:n<=1099511627776):(0<=dA (n-1)-1/\dA (n-1)-1<=40)/\((2 ^ min (dA (n-1)-1).toNat (bh .i64):Nat):Int)=(bN n.toNat:Nat):=by
 have e:dA (n-1)-1=(((n.toNat-1).log2:Nat):Int):=by unfold dA;rw[if_neg (by omega),show(n-1).toNat=n.toNat-1 by omega];omega
 have hl:(n.toNat-1).log2<41:=(Nat.log2_lt (by omega)).2 (by omega);rw[e];refine⟨by omega, ?_⟩;rw[aar,Sq];show((2 ^ min ((n.toNat-1).log2) 64:Nat):Int)=_;rw[abs (by omega)]
def mM{n:Int}(h:2<=n):1<=((bN n.toNat:Nat):Int)/\((bN n.toNat:Nat):Int)<n/\n<=2 * ((bN n.toNat:Nat):Int):=by have a:=f_ n.toNat;have b:=fa (n:=n.toNat) (by omega);have c:=DW (n:=n.toNat) (by omega);omega
def and1i{x:Int}(h0:0<=x)(h:x<9223372036854775808):IntKind.i64.wrap (Int.ofNat ((aE (am .i64) x).land (aE (am .i64) 1)))=x%2:=by
 obtain⟨n,rfl⟩:∃n:Nat,x=n:=⟨x.toNat,by omega⟩
 have e:(aE (am .i64) n).land (aE (am .i64) 1)=n%2:=by show(n%18446744073709551616) &&& 1=_;rw[aa_ (by omega),Nat.and_one_is_mod]
 rw[e];rcases aby n with h2|h2
 ·rw[h2];show(0:Int)=_;omega
 ·rw[h2];show(1:Int)=_;omega
def Sw{n:Nat}(h:1<=n):n &&& (n-1)=0↔∃i,n=2 ^ i:=by
 constructor
 ·intro e;refine⟨n.log2, ?_⟩;have a:=Nat.log2_self_le (n:=n) (by omega);rcases aah (2 ^ n.log2) n with c9|hge
  ·exfalso;have b:n<2 ^ (n.log2+1):=Nat.lt_log2_self;have t1:n.testBit n.log2=true:=Nat.testBit_log2 (by omega);have t2:(n-1).testBit n.log2=true:=by
    have:(n-1).log2=n.log2:=by have c1:=(Nat.le_log2 (n:=n-1) (k:=n.log2) (by omega)).2 (by omega);have c2:=(Nat.log2_lt (n:=n-1) (k:=n.log2+1) (by omega)).2 (by omega);omega
    rw[←this];exact Nat.testBit_log2 (by omega)
   have t3:(n &&& (n-1)).testBit n.log2=true:=by rw[Nat.testBit_and,t1,t2];rfl
   rw[e] at t3;simp at t3
  ·omega
 ·rintro⟨i,rfl⟩;refine Nat.eq_of_testBit_eq λj=>?_
  rw[Nat.testBit_and,Nat.testBit_two_pow_sub_one,Nat.testBit_two_pow,Nat.zero_testBit];by_cases e:i=j
  ·subst e;simp
  ·simp [e]
def NU{x y:Int}(hy:y=x-1)(h0:1<=x)(h:x<4611686018427387904):IntKind.i64.wrap (Int.ofNat ((aE (am .i64) x).land (aE (am .i64) y)))=0↔∃i:Nat,x=((2 ^ i:Nat):Int):=by
 subst hy;obtain⟨n,rfl⟩:∃n:Nat,x=n:=⟨x.toNat,by omega⟩
 obtain⟨m,hm⟩:∃m:Nat,n=m+1:=⟨n-1,by omega⟩
 subst hm;have e:(aE (am .i64) ((m+1:Nat):Int)).land (aE (am .i64) (((m+1:Nat):Int)-1))=(m+1) &&& m:=by rw[show((m+1:Nat):Int)-1=(m:Nat) by omega];show((m+1)%18446744073709551616) &&& (m%18446744073709551616)=_;rw[aa_ (by omega),aa_ (by omega)]
 rw[e,tq (Nat.lt_of_le_of_lt Nat.and_le_left (by omega)),show(m+1) &&& m=(m+1) &&& (m+1-1) by rfl,Sw (by omega)];exact⟨λ⟨i,hi⟩=>⟨i,by omega⟩,λ⟨i,hi⟩=>⟨i,by omega⟩⟩
def NV{L:List G}{h:G}(hL:RowsOk L)(hh:HOk h):RowsOk (L++ [.node [h]]):=λr hr=>by
 rcases List.mem_append.1 hr with hr|hr
 ·exact hL r hr
 ·rw[List.mem_singleton.1 hr];show HOk (hX h);rw[cI hh];exact hh
def lO(x:Int):Prop:=∃j:Nat,x=((2 ^ j:Nat):Int)
def NW:lO 1:=⟨0,rfl⟩
def Xp{x:Int}(h:lO x):lO (2 * x):=by obtain⟨j,e⟩:=h;exact⟨j+1,by rw[e,aaY];push_cast;omega⟩
def NX{x:Int}(h:lO x):1<=x:=by obtain⟨j,e⟩:=h;have:=aaP j;omega
def Xq{x n:Int}(h:lO x)(h1:x<n)(h2:n<=2 * x):x=(bN n.toNat:Nat):=by obtain⟨j,e⟩:=h;rw[NR (n:=n.toNat) (j:=j) (by omega) (by omega)];exact e
def Xr{x y:Int}(hy:y=x-1)(h0:1<=x)(h:x<4611686018427387904):IntKind.i64.wrap (Int.ofNat ((aE (am .i64) x).land (aE (am .i64) y)))=0↔lO x:=NU hy h0 h
def p2_ex{x:Int}(h:lO x)(hx:x<=1000000):∃j:Nat,j<=40/\x=((2 ^ j:Nat):Int):=by
 obtain⟨j,e⟩:=h;refine⟨j, ?_,e⟩;rcases aah 40 j with h|h
 ·have:=abx (n:=2) (by decide) h;omega
 ·exact h
def kW(lv pl:Int)(rows:List G)(h:G):Prop:=∃L,ym L lv pl rows h/\L.length<=2000000/\RowsOk L
def uD(lv pl:Int)(rows:List G)(h:G)(n8:List G):Prop:=∀L,ym L lv pl rows h->kn L.length n8 L
def dG(n:Int)(rows:List G):Prop:=∃L,kn n rows L/\RowsOk L
def BN(n:Int)(rows:List G)(h:G)(n':Int)(n8:List G):Prop:=∀L,kn n rows L->kn n' n8 (L++ [.node [h]])
def iB(n:Int)(rows:List G)(fr k:Int)(h:G):Prop:=∀L,kn n rows L->h=aO ((L.drop fr.toNat).take k.toNat)
def Xs{lv pl:Int}{rows:List G}{h:G}(hl:kW lv pl rows h):(0<=lv/\lv<=30)/\0<=pl/\pl<=2000000:=by obtain⟨L,h1,h2,_⟩:=hl;exact lp_lv h1 h2
def Sx{lv pl:Int}{rows:List G}{h:G}(hl:kW lv pl rows h)(ho:pl%2=1):j_ 0 rows [lv,pl-1]:=by obtain⟨L,h1,h2⟩:=hl;exact(DX h1 ho).1
def Xt{lv pl:Int}{rows:List G}{h:G}(hl:kW lv pl rows h)(ho:pl%2=1):HOk (hX (aa (eP 0 rows [lv,pl-1]) 2)):=by obtain⟨L,h1,h2,h3⟩:=hl;rw[(DX h1 ho).2];exact cD _ ((h3.drop _).take _)
def NY{lv pl:Int}{rows:List G}{h h':G}(hl:kW lv pl rows h)(ho:pl%2=1)(hh:h'=bD (hX (aa (eP 0 rows [lv,pl-1]) 2)) h):kW (lv+1) (pl/2) (db 0 rows [lv+1,pl/2] [h']) h':=by obtain⟨L,h1,h2⟩:=hl;exact⟨L,GG h1 ho hh,h2⟩
def NZ{lv pl:Int}{rows n8:List G}{h h':G}(ho:pl%2=1)(hh:h'=bD (hX (aa (eP 0 rows [lv,pl-1]) 2)) h)(ht:uD (lv+1) (pl/2) (db 0 rows [lv+1,pl/2] [h']) h' n8):uD lv pl rows h n8:=λL hl=>ht L (GG hl ho hh)
def Sz{lv pl:Int}{rows:List G}{h:G}(ho:¬pl%2=1):uD lv pl rows h rows:=λL hl=>Xl hl ho
def JJ{n:Int}{rows:List G}{h:G}(hl:dG n rows)(hn:n<=1000000)(hh:hX h=h)(ho:HOk h):kW 0 n (db 0 rows [0,n] [h]) h:=by obtain⟨L,h1,h2⟩:=hl;exact⟨_,BM h1 hh,by have:=DZ h1;rw[aai,aaI];omega,NV h2 ho⟩
def JK{n:Int}{rows n8:List G}{h:G}(hh:hX h=h)(ht:uD 0 n (db 0 rows [0,n] [h]) h n8):BN n rows h (n+1) n8:=λL hl=>by have:=ht _ (BM hl hh);rw[aai,aaI] at this;have e:=DZ hl;rw[show((L.length+1:Nat):Int)=n+1 by omega] at this;exact this
def SA{N fr n lv:Int}{rows:List G}(h0:0<=fr)(hlv:0<=lv)(hn:n=((2 ^ lv.toNat:Nat):Int))(hb:fr+n<=N)(ha:Kq fr n):(dG N rows->j_ 0 rows [lv,fr/((2 ^ lv.toNat:Nat):Int)]/\HOk (hX (aa (eP 0 rows [lv,fr/((2 ^ lv.toNat:Nat):Int)]) 2)))/\iB N rows fr n (hX (aa (eP 0 rows [lv,fr/((2 ^ lv.toNat:Nat):Int)]) 2)):=by have key:=λL (hl:kn N rows L)=>Xm (i:=lv.toNat) hl h0 hn hb ha;rw[show((lv.toNat:Nat):Int)=lv by omega] at key;exact⟨λ⟨L,h1,h2⟩=>⟨(key L h1).1,by rw[(key L h1).2];exact cD _ ((h2.drop _).take _)⟩,λL hl=>(key L hl).2⟩
def SB{N fr n k:Int}{rows:List G}{a b:G}(h0:0<=fr)(hn:2<=n)(hb:fr+n<=N)(hk:k=(bN n.toNat:Nat))(h1:iB N rows fr k a)(h2:iB N rows (fr+k) (n-k) b):iB N rows fr n (bD a b):=λL hl=>by rw[DY h0 hn (by have:=DZ hl;omega) hk,h1 L hl,h2 L hl]
def Xu{N fr n:Int}{rows:List G}{h:G}(he:dG N rows)(ht:iB N rows fr n h):HOk h:=by obtain⟨L,h1,h2⟩:=he;rw[ht L h1];exact cD _ ((h2.drop _).take _)
def SC{N:Int}{rows:List G}{n:Int}(hn:n=0):iB N rows 0 n (ci []):=λL _=>by subst hn;show _=aO [];rw[pF rfl]
def N0:FSpec:=⟨[.c (.i .u64 1)],[],λz=>0<=z.i 1/\z.i 1<18446744073709551616,λ_=>.one (.c (.i .i64 10)),λ_=>[],λz y=>y.i 10=dA (z.i 1),none⟩
def GI:FSpec:=⟨[.c (.i .i64 1)],[],λz=>2<=z.i 1/\z.i 1<=1099511627776,λ_=>.one (.c (.i .i64 10)),λ_=>[],λz y=>y.i 10=(bN (z.i 1).toNat:Nat),none⟩
def kX:Option (Nat×Nat×List Nat):=some (2,367,fP)
def Stz:FSpec:=⟨[.c (.i .u64 1)],[],λz=>lO (z.i 1)/\z.i 1<=1000000,λ_=>.one (.c (.i .i64 10)),λ_=>[],λz y=>(0<=y.i 10/\y.i 10<=40)/\z.i 1=((2 ^ (y.i 10).toNat:Nat):Int),kX⟩
def N3:List BSh:=[.cells 162 [.i .i64 1,.m 1],.sm 0 2]
def Xv:List BSh:=[.cells 162 [.i .i64 1,.m 1],.sm 0 2,.cells 28 (hs 100)]
def N4(p:Sy):LSpec:=⟨[(0,.c (.p 0)),(3,.c (.p 2)),(5,.c (.i .i64 5)),(6,.c (.i .i64 6)),(7,.c (.i .i64 7))],Xv,λz=>HOk (hT z 100)/\kW (z.i 6) (z.i 7) (z.g 2) (hT z 100),λz=>(z.i 7).toNat,[⟨.exit 0,[(0,.c (.p 0)),(5,.c (.i .i64 5))],Xv⟩],λz y=>y.i 5=z.i 5/\y.i 1=z.i 1/\uD (z.i 6) (z.i 7) (z.g 2) (hT z 100) (y.g 2),none,[]⟩
def Sadd:FSpec:=⟨[.c (.p 0),.ag (hs 100)],N3,λz=>HOk (hT z 100)/\(0<=z.i 1/\z.i 1<1000000)/\dG (z.i 1) (z.g 2),λ_=>.one (.c .o),λ_=>N3,λz y=>y.i 1=z.i 1+1/\BN (z.i 1) (z.g 2) (hT z 100) (y.i 1) (y.g 2),none⟩
def Vh(k:Nat):FSpec:=⟨[.c (.p 0),.c (.i .i64 5),.c (.i .i64 6)],N3,λz=>(1<=z.i 6/\z.i 6<k)/\0<=z.i 5/\z.i 5+z.i 6<=z.i 1/\z.i 1<=1000000/\Kq (z.i 5) (z.i 6)/\dG (z.i 1) (z.g 2),λ_=>.one (.ag (hs 300)),λ_=>N3,λz y=>y.i 1=z.i 1/\y.g 2=z.g 2/\iB (z.i 1) (z.g 2) (z.i 5) (z.i 6) (hT y 300),kX⟩
def Vi:FSpec:=⟨[.c (.p 0),.c (.i .i64 6)],N3,λz=>(0<=z.i 1/\z.i 1<=1000000)/\dG (z.i 1) (z.g 2),λ_=>.tu [.ag (hs 300),.c (.i .i64 50)],λ_=>N3,λz y=>y.i 1=z.i 1/\y.g 2=z.g 2/\(z.i 6<0∨z.i 1<z.i 6->y.i 50=1/\hT y 300=hZ)/\(0<=z.i 6/\z.i 6<=z.i 1->y.i 50=0/\iB (z.i 1) (z.g 2) 0 (z.i 6) (hT y 300)),kX⟩
def BO(p:Sy):LSpec:=⟨[(0,.c (.pi .i64 (p.i 1))),(3,.c (.i .i64 7))],[],λz=>(2<=p.i 1/\p.i 1<=1099511627776)/\z.i 7<p.i 1/\lO (z.i 7),λz=>(p.i 1-z.i 7).toNat,[⟨.exit 0,[(3,.c (.i .i64 7))],[]⟩],λz y=>y.i 7=(bN (p.i 1).toNat:Nat),none,[]⟩
abbrev N5:=GI
def N6(k:Nat):FSpec:=⟨[.c (.v 6 1)],[],λz=>(z.g 1).length<k/\(z.g 1).length<=1000000/\RowsOk (z.g 1),λ_=>.one (.ag (hs 300)),λ_=>[],λz y=>hT y 300=aO (z.g 1),none⟩
def Vj(k:Nat):FSpec:=⟨[.c (.i .i64 3),.c (.v 6 1)],[],λz=>(z.g 1).length<k/\(z.g 1).length<=1000000/\RowsOk (z.g 1)/\0<=z.i 3/\z.i 3<=1000000,λ_=>.one (.c (.g 0 32 30)),λ_=>[.grow 6 28 30],λz y=>y.g 30=aR (z.i 3) (z.g 1)/\(y.g 30).length<=(z.g 1).length,none⟩
def Sup(k:Nat):FSpec:=⟨[.ag (hs 100),.c (.i .i64 3),.c (.i .i64 4),.c (.v 6 1)],[],λz=>HOk (hT z 100)/\(0<=z.i 3/\z.i 3<z.i 4)/\z.i 4<k/\z.i 4<=1099511627776/\(z.g 1).length<=1000000/\RowsOk (z.g 1),λ_=>.tu [.ag (hs 300),.c (.b 50)],λ_=>[],λz y=>HOk (hT y 300)/\hT y 300=(gQ (hT z 100) (z.i 3) (z.i 4) (z.g 1)).1/\(y.p 50↔(gQ (hT z 100) (z.i 3) (z.i 4) (z.g 1)).2),none⟩
def GJ{n n':Int}{rows n8:List G}{h:G}(ht:BN n rows h n' n8)(L:List G)(hl:kn n rows L):kn n' n8 (L++ [.node [h]]):=ht L hl
def N7{n:Int}{rows L:List G}(hl:kn n rows L)(hr:RowsOk L):dG n rows:=⟨L,hl,hr⟩
def Xw{n fr k:Int}{rows:List G}{h:G}(ht:iB n rows fr k h)(L:List G)(hl:kn n rows L):h=aO ((L.drop fr.toNat).take k.toNat):=ht L hl
attribute [irreducible] lO dA NT fP kW uD dG BN iB
end
def JL:bH 66 0 BO:=bG 10 53269 eN lN λp z hA=>show Fm.den (let v0:=((2<=p.i 1/\p.i 1<=1099511627776)/\IntKind.i64.wrap (2 * z.i 7)<p.i 1/\lO (eI (2 * z.i 7)));let v1:=(bN (p.i 1).toNat);let v2:=((-9223372036854775808)<=2 * z.i 7/\2 * z.i 7<=9223372036854775807);let v3:=(p.i 1=p.i 1/\True);let v4:=(p.i 1-z.i 7);let v5:=(p.i 1-IntKind.i64.wrap (2 * z.i 7));(.two ((-9223372036854775808)<=p.i 1-z.i 7/\p.i 1-z.i 7<=9223372036854775807) (.two (z.i 7<p.i 1-z.i 7) (.two v2 (.an v3 (.at (((2<=p.i 1/\p.i 1<=1099511627776)/\2 * z.i 7<p.i 1/\lO (2 * z.i 7))/\(p.i 1-2 * z.i 7).toNat<v4.toNat/\∀(y:Sy),y.i 7= ↑v1->y.i 7= ↑v1))) (.an v3 (.at (v0/\v5.toNat<v4.toNat/\∀(y:Sy),y.i 7= ↑v1->y.i 7= ↑v1)))) (.ax (z.i 7= ↑v1))) (.two (z.i 7<IntKind.i64.wrap v4) (.an (¬v2) (.an v3 (.at (v0/\v5.toNat<v4.toNat/\∀(y:Sy),y.i 7= ↑v1->y.i 7= ↑v1)))) (.ax (z.i 7= ↑v1))))) by dsimp only [BO] at hA;have:=@Xp (z.i 7);have:=@NX (z.i 7);have:=@Xq (z.i 7) (p.i 1);exact gC
def yo:bj 66 N5:=bB 1 0 eN (aG (ptm:=[(0,.c (.i .i64 1))]) JL lN) λz hA=>show Fm.den ((.cl ((z.i 1=z.i 1/\True)) ((2<=z.i 1/\z.i 1<=1099511627776)/\1<z.i 1/\lO 1) (λy0=>y0.i 7= ↑(bN (z.i 1).toNat)) λy0=>(.ax (y0.i 7= ↑(bN (z.i 1).toNat))))) by dsimp only [N5,GI] at hA;have:=NW;exact gC
abbrev BP(a:Prop)(b c d e f:Int)(g)(h:G)(i:Int)(j:List G)(k:G):=a/\b.toNat<c.toNat/\∀(y:Sy),y.i 5=d/\y.i 1=e/\uD f b g h (y.g 2)->y.i 5=d/\y.i 1=e/\uD i c j k (y.g 2)
abbrev uE(a b:G):=Fm.ct (HOk a/\HOk b) (λy=>hT y 300=bD a b)
def SD:bH 135 0 N4:=bG 25 55304495116885 (ai xS eN) lN λp z hA=>show Fm.den (let v0:=((-9223372036854775808)<=z.i 6+1/\z.i 6+1<=9223372036854775807);let v2:=(z.i 7/2);let v3:=(z.i 6+1);let v1:=(eI v3);let v4:=(hT z 100);let v5:=(hX (aa (eP 0 (z.g 2) [z.i 6,IntKind.i64.wrap (z.i 7-1)]) 2));let v6:=(hX (aa (eP 0 (z.g 2) [z.i 6,z.i 7-1]) 2));(.two (IntKind.i64.wrap (Int.ofNat ((aE (oo) (z.i 7)).land (aE (oo) 1)))=1) (.two ((-9223372036854775808)<=z.i 7-1/\z.i 7-1<=9223372036854775807) (.two (j_ 0 (z.g 2) [z.i 6,z.i 7-1]) (uE v6 v4 λy0=>(let v7:=(db 0 (z.g 2) [IntKind.i64.wrap v3,z.i 7/2] [hT y0 300]);let v8:=(db 0 (z.g 2) [z.i 6+1,z.i 7/2] [hT y0 300]);let v9:=(hT y0 300);(.two v0 (.an v0 (.ax (BP (HOk v9/\kW v3 v2 v8 v9) v2 (z.i 7) (z.i 5) (z.i 1) v3 v8 v9 (z.i 6) (z.g 2) v4))) (.an (¬v0) (.ax (BP (HOk v9/\kW v1 v2 v7 v9) v2 (z.i 7) (z.i 5) (z.i 1) v1 v7 v9 (z.i 6) (z.g 2) v4)))))) (.ct (HOk hZ/\HOk v4) (λy1=>hT y1 300=bD hZ v4) λy1=>(let v10:=(db 0 (z.g 2) [IntKind.i64.wrap v3,z.i 7/2] [hT y1 300]);let v11:=(db 0 (z.g 2) [z.i 6+1,z.i 7/2] [hT y1 300]);let d7:=(hT y1 300);(.two v0 (.an v0 (.ax (BP (HOk d7/\kW v3 v2 v11 d7) v2 (z.i 7) (z.i 5) (z.i 1) v3 v11 d7 (z.i 6) (z.g 2) v4))) (.an (¬v0) (.ax (BP (HOk d7/\kW v1 v2 v10 d7) v2 (z.i 7) (z.i 5) (z.i 1) v1 v10 d7 (z.i 6) (z.g 2) v4))))))) (.two (j_ 0 (z.g 2) [z.i 6,IntKind.i64.wrap (z.i 7-1)]) (uE v5 v4 λy2=>(let i9:=(db 0 (z.g 2) [IntKind.i64.wrap v3,z.i 7/2] [hT y2 300]);let j8:=(db 0 (z.g 2) [z.i 6+1,z.i 7/2] [hT y2 300]);let n7:=(hT y2 300);(.two v0 (.an v0 (.ax (BP (HOk n7/\kW v3 v2 j8 n7) v2 (z.i 7) (z.i 5) (z.i 1) v3 j8 n7 (z.i 6) (z.g 2) v4))) (.an (¬v0) (.ax (BP (HOk n7/\kW v1 v2 i9 n7) v2 (z.i 7) (z.i 5) (z.i 1) v1 i9 n7 (z.i 6) (z.g 2) v4)))))) (.ct (HOk hZ/\HOk v4) (λy3=>hT y3 300=bD hZ v4) λy3=>(let u0:=(db 0 (z.g 2) [IntKind.i64.wrap v3,z.i 7/2] [hT y3 300]);let o8:=(db 0 (z.g 2) [z.i 6+1,z.i 7/2] [hT y3 300]);let s8:=(hT y3 300);(.two v0 (.an v0 (.ax (BP (HOk s8/\kW v3 v2 o8 s8) v2 (z.i 7) (z.i 5) (z.i 1) v3 o8 s8 (z.i 6) (z.g 2) v4))) (.an (¬v0) (.ax (BP (HOk s8/\kW v1 v2 u0 s8) v2 (z.i 7) (z.i 5) (z.i 1) v1 u0 s8 (z.i 6) (z.g 2) v4)))))))) (.ax (z.i 5=z.i 5/\z.i 1=z.i 1/\uD (z.i 6) (z.i 7) (z.g 2) v4 (z.g 2))))) by
 dsimp only [N4,Xv,hs] at hA;have:=@Xs (z.i 6) (z.i 7) (z.g 2) (hT z 100);have:=@Sx (z.i 6) (z.i 7) (z.g 2) (hT z 100);have:=@Xt (z.i 6) (z.i 7) (z.g 2) (hT z 100);have:=λh' hl ho hh=>@NY (z.i 6) (z.i 7) (z.g 2) (hT z 100) h' hl ho hh;have:=λn8 h' ho hh ht=>@NZ (z.i 6) (z.i 7) (z.g 2) n8 (hT z 100) h' ho hh ht;have:=@Sz (z.i 6) (z.i 7) (z.g 2) (hT z 100);have:=@and1i (z.i 7);conv=>zeta
 repeat' with_reducible first|intro _|apply cd|apply ck|apply cg|apply cE|apply cr
 all_goals first|omega|grind [ao,ak,aj,aT,aU,aV,aW,aX,aY,aZ,a_,ba,aC,co]
def Vk:bj 135 Sadd:=bB 3 11 eN (aG (ptm:=[]) SD lN) λz hA=>show Fm.den (let v0:=(db 0 (z.g 2) [0,z.i 1] [hT z 100]);let v1:=(hT z 100);(.an (¬(1048576<=z.i 1)) (.an ((-9223372036854775808)<=z.i 1+1/\z.i 1+1<=9223372036854775807) (.ct (HOk v1/\kW 0 (z.i 1) v0 v1) (λy0=>y0.i 5=z.i 1/\y0.i 1=z.i 1+1/\uD 0 (z.i 1) v0 v1 (y0.g 2)) λy0=>(.ax (y0.i 1=z.i 1+1/\BN (z.i 1) (z.g 2) v1 (y0.i 1) (y0.g 2))))))) by dsimp only [Sadd,hs,N3] at hA;have:=@JJ (z.i 1) (z.g 2) (hT z 100);have:=@cI (hT z 100);have:=λn8 hh ht=>@JK (z.i 1) (z.g 2) n8 (hT z 100) hh ht;exact gC
def o_tz:bj 275 Stz:=bB 5 17 eN lN λz hA=>show Fm.den (let v1:=(Int.ofNat ((aE (nU) (z.i 1)).land (aE (nU) ((0-z.i 1)%18446744073709551616))));let v0:=(↑(fP.getD (IntKind.u64.wrap v1 * 285870213051353865%18446744073709551616/288230376151711744).toNat 0):Int);(.two (z.i 1=0) (.ax (((0:Int)<=64/\(64:Int)<=40)/\z.i 1= ↑(2 ^ Int.toNat 64))) (.an ((0:Int)<=IntKind.u64.wrap v1 * 285870213051353865%18446744073709551616/288230376151711744/\IntKind.u64.wrap v1 * 285870213051353865%18446744073709551616/288230376151711744<64) (.two ((-9223372036854775808:Int)<=v0/\v0<=9223372036854775807) (.ax (((0:Int)<=v0/\v0<=40)/\z.i 1=(↑(2 ^ v0.toNat):Int))) (.ax (((0:Int)<=IntKind.i64.wrap v0/\IntKind.i64.wrap v0<=40)/\z.i 1=(↑(2 ^ (eI v0).toNat):Int))))))) by
 have hB:True/\lO (z.i 1)/\z.i 1<=1000000:=⟨trivial,hA⟩
 obtain⟨j,hj,ej⟩:=p2_ex hB.2.1 hB.2.2;have t:=tz_ok hj ej;dsimp only [Su] at t;exact gC
abbrev ql(a:Int):=kx NT a.toNat
def GK:bj 200 N0:=bB 31 732161104241009301 eN lN λz hA=>show Fm.den (let v0:=(↑(ql (z.i 1/4294967296/65536/256%256)):Int);let v1:=(↑(ql (z.i 1/4294967296/65536%256)):Int);let v2:=(↑(ql (z.i 1/4294967296/256%256)):Int);let v3:=(↑(ql (z.i 1/65536/256%256)):Int);let v4:=(↑(ql (z.i 1/4294967296%256)):Int);let v5:=(↑(ql (z.i 1/65536%256)):Int);let v6:=(↑(ql (z.i 1/256%256)):Int);let v7:=(↑(ql (z.i 1%256)):Int);(.two (4294967296<=z.i 1) (.two (65536<=z.i 1/4294967296) (.two (256<=z.i 1/4294967296/65536) (.an (0<=z.i 1/4294967296/65536/256%256/\z.i 1/4294967296/65536/256%256 < ↑256) (.an ((-9223372036854775808)<=v0/\v0<=9223372036854775807) (.an ((-9223372036854775808)<=56+v0/\56+v0<=9223372036854775807) (.ax (56+v0=dA (z.i 1)))))) (.an (0<=z.i 1/4294967296/65536%256/\z.i 1/4294967296/65536%256 < ↑256) (.an ((-9223372036854775808)<=v1/\v1<=9223372036854775807) (.an ((-9223372036854775808)<=48+v1/\48+v1<=9223372036854775807) (.ax (48+v1=dA (z.i 1))))))) (.two (256<=z.i 1/4294967296) (.an (0<=z.i 1/4294967296/256%256/\z.i 1/4294967296/256%256 < ↑256) (.an ((-9223372036854775808)<=v2/\v2<=9223372036854775807) (.an ((-9223372036854775808)<=40+v2/\40+v2<=9223372036854775807) (.ax (40+v2=dA (z.i 1)))))) (.an (0<=z.i 1/4294967296%256/\z.i 1/4294967296%256 < ↑256) (.an ((-9223372036854775808)<=v4/\v4<=9223372036854775807) (.an ((-9223372036854775808)<=32+v4/\32+v4<=9223372036854775807) (.ax (32+v4=dA (z.i 1)))))))) (.two (65536<=z.i 1) (.two (256<=z.i 1/65536) (.an (0<=z.i 1/65536/256%256/\z.i 1/65536/256%256 < ↑256) (.an ((-9223372036854775808)<=v3/\v3<=9223372036854775807) (.an ((-9223372036854775808)<=24+v3/\24+v3<=9223372036854775807) (.ax (24+v3=dA (z.i 1)))))) (.an (0<=z.i 1/65536%256/\z.i 1/65536%256 < ↑256) (.an ((-9223372036854775808)<=v5/\v5<=9223372036854775807) (.an ((-9223372036854775808)<=16+v5/\16+v5<=9223372036854775807) (.ax (16+v5=dA (z.i 1))))))) (.two (256<=z.i 1) (.an (0<=z.i 1/256%256/\z.i 1/256%256 < ↑256) (.an ((-9223372036854775808)<=v6/\v6<=9223372036854775807) (.an ((-9223372036854775808)<=8+v6/\8+v6<=9223372036854775807) (.ax (8+v6=dA (z.i 1)))))) (.an (0<=z.i 1%256/\z.i 1%256 < ↑256) (.an ((-9223372036854775808)<=v7/\v7<=9223372036854775807) (.an ((-9223372036854775808)<=0+v7/\0+v7<=9223372036854775807) (.ax (0+v7=dA (z.i 1)))))))))) by dsimp only [N0] at hA;have:=@Sv (z.i 1);have:=@GH (z.i 1);have:=@yn (z.i 1);have:=@GH (z.i 1/4294967296);have:=@yn (z.i 1/4294967296);have:=@yn (z.i 1/65536);have:=@yn (z.i 1/4294967296/65536);have:=@fD (z.i 1);have:=@fD (z.i 1/256);have:=@fD (z.i 1/65536);have:=@fD (z.i 1/65536/256);have:=@fD (z.i 1/4294967296);have:=@fD (z.i 1/4294967296/256);have:=@fD (z.i 1/4294967296/65536);have:=@fD (z.i 1/4294967296/65536/256);exact gC
abbrev Vl(a:Int)(b):=Fm.ct ((0:Int)<=a%18446744073709551616/\a%18446744073709551616<18446744073709551616) (λy=>y.i 10=dA b)
abbrev Vm(a:Int):=(-9223372036854775808:Int)<=1 * a/\(1:Int) * a<=9223372036854775807
def Xx:bj 276 GI:=bB 8 1046 (ai GK eN) lN λz hA=>show Fm.den (let v0:=(bh IntKind.i64);let v1:=(bN (z.i 1).toNat);(.an ((-9223372036854775808)<=z.i 1-1/\z.i 1-1<=9223372036854775807) (Vl (z.i 1-1) ((z.i 1-1)%18446744073709551616) λy0=>(let v2:=(↑(2 ^ Min.min (eI (y0.i 10-1)).toNat v0):Int);let v3:=(↑(2 ^ Min.min (y0.i 10-1).toNat v0):Int);(.two ((-9223372036854775808)<=y0.i 10-1/\y0.i 10-1<=9223372036854775807) (.an (0<=y0.i 10-1) (.two ((-9223372036854775808)<=1 * v3/\1 * v3<=9223372036854775807) (.ax (1 * v3=(↑v1:Int))) (.ax (IntKind.i64.wrap (1 * v3)= ↑v1)))) (.an ((0:Int)<=IntKind.i64.wrap (y0.i 10-1)) (.two (Vm v2) (.ax (1 * v2=(↑v1:Int))) (.ax (IntKind.i64.wrap (1 * v2)= ↑v1))))))))) by dsimp only [GI] at hA;have:=@wp (z.i 1);have:=@mM (z.i 1);exact gC
end Go.Proofs.YtomfobckhogpnaaGreatDoor
