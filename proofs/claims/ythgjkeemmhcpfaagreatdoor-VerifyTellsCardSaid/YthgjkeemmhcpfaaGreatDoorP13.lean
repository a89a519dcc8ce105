/- Part 13. -/
import Derived.Test.YthgjkeemmhcpfaaGreatDoorProg
import Derived.KernelRfl
import Derived.Test.YthgjkeemmhcpfaaGreatDoorP11
import Derived.Test.YthgjkeemmhcpfaaGreatDoorP12
set_option linter.all false
namespace Go.Proofs.YthgjkeemmhcpfaaGreatDoor
open Go.Sym
set_option maxRecDepth 100000
def pw(n:Int):IntKind.u64.wrap n=n%18446744073709551616:=by simp [IntKind.wrap,IntKind.bits,IntKind.signed]
def iZ(n:Int):IntKind.u8.wrap n=n%256:=by simp [IntKind.wrap,IntKind.bits,IntKind.signed]
def aJ(n:Nat):List Nat:=if n<128 then [n] else(n%128+128)::aJ (n/128)
termination_by n
decreasing_by omega
def FJ{v:Int}(h:v<128):aJ v.toNat= [v.toNat]:=by rw[aJ,if_pos (by omega)]
def UJ{v:Int}(h:128<=v):aJ v.toNat=(v.toNat%128+128)::aJ (v/128).toNat:=by rw[aJ,if_neg (by omega)];congr 2;omega
def xP:∀(k n:Nat),n<128 ^ k->0<k->(aJ n).length<=k:=by
 intro k
 induction k with
 |zero=>intro n _ h;omega
 |succ k ih=>
  intro n h _;rw[aJ];split
  ·simp
  ·rename_i hn;have h2:n/128<128 ^ k:=by rw[aaX] at h;exact Nat.div_lt_of_lt_mul (by omega)
   have hk:0<k:=by
    rcases aaS k with e|e
    ·subst e;simp at h;omega
    ·exact e
   have:=ih _ h2 hk;simp;omega
def cL{v:Int}(h:v<18446744073709551616):(aJ v.toNat).length<=10:=by
 refine xP 10 _ ?_ (by decide);have:v.toNat<18446744073709551616:=by omega
 exact aa5 this (by decide)
def ZU{v:Int}(h0:0<=v)(h:v<256):(Nat.lor (aC 256 v) (aC 256 128):Nat)=v.toNat%128+128:=by
 obtain⟨n,rfl⟩:∃n:Nat,v=n:=⟨v.toNat,by omega⟩
 have hn:n<256:=by omega
 show(n%256) ||| (128%256)=_;have:∀m:Fin 256,(m.1%256) ||| (128%256)=(m.1:Int).toNat%128+128:=by decide
 exact this ⟨n,hn⟩
def WH{v:Int}(h0:0<=v)(h:v<18446744073709551616):(Nat.land (aC 18446744073709551616 v) (aC 18446744073709551616 127):Nat)=v.toNat%128:=by
 obtain⟨n,rfl⟩:∃n:Nat,v=n:=⟨v.toNat,by omega⟩
 show(n%18446744073709551616) &&& (127%18446744073709551616)=_;rw[aa9 (by omega:n<18446744073709551616)];show n &&& (2 ^ 7-1)=_;rw[abP];rfl
def Mv{v:Int}(h0:0<=v)(h:v<256):IntKind.u8.wrap (Int.ofNat ((aC (aj .u8) v).lor (aC (aj .u8) 128)))=v%128+128:=by show IntKind.u8.wrap (Int.ofNat ((aC 256 v).lor (aC 256 128)))=_;rw[ZU h0 h,iZ];show((v.toNat%128+128:Nat):Int)%256=_;omega
def RI{v:Int}(h0:0<=v)(h:v<18446744073709551616):IntKind.u64.wrap (Int.ofNat ((aC (aj .u64) v).land (aC (aj .u64) 127)))=v%128:=by show IntKind.u64.wrap (Int.ofNat ((aC 18446744073709551616 v).land (aC 18446744073709551616 127)))=_;rw[WH h0 h,pw];show((v.toNat%128:Nat):Int)%18446744073709551616=_;omega
noncomputable section
def nU:FSpec:=⟨[.c (.i .u64 1)],[],λz=>0<=z.i 1/\z.i 1<18446744073709551616,λ_=>.one (.c (.vb 10)),λ_=>[],λz y=>y.s 10=aJ (z.i 1).toNat,none⟩
def jG(p:Sy):LSpec:=⟨[(0,.c (.i .u64 1)),(3,.c (.gb 0 20))],[.growb 5 20],λz=>(0<=z.i 1/\z.i 1<18446744073709551616)/\(z.s 20).length+(aJ (z.i 1).toNat).length<=10,λz=>(z.i 1).toNat,[⟨.exit 0,[(0,.c (.i .u64 1)),(3,.c (.gb 0 20))],[.growb 5 20]⟩],λz y=>y.s 20++aJ (y.i 1).toNat=z.s 20++aJ (z.i 1).toNat/\0<=y.i 1/\y.i 1<128/\(y.s 20).length<=10,none,[]⟩
abbrev vL:=nU
abbrev qg:=jG
end
set_option maxHeartbeats 4000000
abbrev bn:=Ok Tryz.prog
abbrev bN:=ZQ Tryz.prog
abbrev qW(a:List Nat):=a.length=a.length/\True
abbrev xQ(a b:List Nat):=a.length=b.length+1/\True
abbrev ZV(a:Prop)(b c:Int)(d:List Nat)(e:Int):=a/\b.toNat<c.toNat/\∀(y:Sy),y.s 20++aJ (y.i 1).toNat=d++ [e.toNat]++aJ b.toNat/\0<=y.i 1/\y.i 1<128/\(y.s 20).length<=10->y.s 20++aJ (y.i 1).toNat=d++aJ c.toNat/\0<=y.i 1/\y.i 1<128/\(y.s 20).length<=10
abbrev nV:=aj .u64
abbrev UK(a:List Nat)(b:Int):=a++aJ b.toNat=a++aJ b.toNat/\0<=b/\b<128/\a.length<=10
abbrev UL(a:List Nat)(b:Int):=a.length=a.length/\a.length<=1000000000/\(0:Int)<=IntKind.u8.wrap b/\True
abbrev nW(a:Int):=aJ a.toNat
def xR:bN 140 0 qg:=bM 3 1 eN lN λp z hA=>show Fm.den (let v0:=(Int.ofNat ((aC (aj .u8) (IntKind.u64.wrap (Int.ofNat ((aC (nV) (z.i 1)).land (aC (nV) 127)))%256)).lor (aC (aj .u8) 128)));let v1:=(IntKind.u8.wrap v0);(.two (128<=z.i 1) (.an (UL (z.s 20) v0) (.an (xQ (z.s 20++ [v1.toNat]) (z.s 20)) (.at (ZV ((0<=z.i 1/128/\z.i 1/128<18446744073709551616)/\(z.s 20++ [v1.toNat]).length+(nW (z.i 1/128)).length<=10) (z.i 1/128) (z.i 1) (z.s 20) v1)))) (.an (qW (z.s 20)) (.at (UK (z.s 20) (z.i 1)))))) by dsimp only [qg,jG] at hA;have:=@RI (z.i 1);have:=@Mv (z.i 1%128%256) (by omega) (by omega);have:=@UJ (z.i 1);have:=@FJ (z.i 1);exact Bb
abbrev Jm(a:List Nat)(b:Int):=a.length=a.length/\a.length<=1000000000/\0<=b%256/\True
abbrev UM(a b:Prop)(c:List Nat)(d:Int):=Fm.cl (a) (b/\0+c.length<=10) (λy=>y.s 20++aJ (y.i 1).toNat= []++aJ d.toNat/\0<=y.i 1/\y.i 1<128/\(y.s 20).length<=10)
abbrev FK(a:Int):=0<=a/\a<18446744073709551616
abbrev nX:=0=0/\True
def da:bn 140 vL:=bA 1 0 eN (aF (ptm:=[]) xR lN) λz hA=>show Fm.den ((UM (nX) (FK (z.i 1)) (nW (z.i 1)) (z.i 1) λy0=>(.an (Jm (y0.s 20) (y0.i 1)) (.an (xQ (y0.s 20++ [(y0.i 1%256).toNat]) (y0.s 20)) (.at (y0.s 20++ [(y0.i 1%256).toNat]=aJ (z.i 1).toNat)))))) by dsimp only [vL,nU] at hA;have:=@cL (z.i 1);have:=@FJ;exact Bb
def Bc:bN 69 0 jG:=bM 3 1 eN lN λp z hA=>show Fm.den (let v0:=(Int.ofNat ((aC (aj .u8) (z.i 1%256)).lor (aC (aj .u8) 128)));let v1:=(IntKind.u8.wrap v0);(.two (128<=z.i 1) (.an (UL (z.s 20) v0) (.an (xQ (z.s 20++ [v1.toNat]) (z.s 20)) (.at (ZV ((0<=z.i 1/128/\z.i 1/128<18446744073709551616)/\(z.s 20++ [v1.toNat]).length+(nW (z.i 1/128)).length<=10) (z.i 1/128) (z.i 1) (z.s 20) v1)))) (.an (qW (z.s 20)) (.at (UK (z.s 20) (z.i 1)))))) by dsimp only [jG] at hA;have:=@Mv (z.i 1%256) (by omega) (by omega);have:=@UJ (z.i 1);have:=@FJ (z.i 1);exact Bb
def ge:bn 69 nU:=bA 1 0 eN (aF (ptm:=[]) Bc lN) λz hA=>show Fm.den ((UM (nX) (FK (z.i 1)) (nW (z.i 1)) (z.i 1) λy0=>(.an (Jm (y0.s 20) (y0.i 1)) (.an (xQ (y0.s 20++ [(y0.i 1%256).toNat]) (y0.s 20)) (.at (y0.s 20++ [(y0.i 1%256).toNat]=aJ (z.i 1).toNat)))))) by dsimp only [nU] at hA;have:=@cL (z.i 1);have:=@FJ;exact Bb
noncomputable section
abbrev FL:Nat:=aj .u32
def Mw(a b:Int):Int:=IntKind.u32.wrap (.ofNat (Nat.lor (aC FL a) (aC FL b)))
def cO(a b:Int):Int:=IntKind.u32.wrap (.ofNat (Nat.xor (aC FL a) (aC FL b)))
def ja(a b:Int):Int:=IntKind.u32.wrap (.ofNat (Nat.land (aC FL a) (aC FL b)))
def Bd(a:Int):Int:=IntKind.u32.wrap (.ofNat (Nat.xor (aC FL (if IntKind.u32.signed then -1 else IntKind.u32.max)) (aC FL a)))
def lU(x n:Int):Int:=Mw (x/((2 ^ min n.toNat (bo .u32):Nat):Int)) (x * ((2 ^ min ((32-n)%18446744073709551616).toNat (bo .u32):Nat):Int)%4294967296)
def kY(s:List Nat)(i:Int):Int:=((s.getD i.toNat 0:Nat):Int)
def YZ(a b c d:Int):Int:=Mw (Mw (Mw (a%4294967296 * 16777216%4294967296) (b%4294967296 * 65536%4294967296)) (c%4294967296 * 256%4294967296)) (d%4294967296)
def UN(s:List Nat)(i:Int):Int:=YZ (kY s (4 * i)) (kY s (4 * i+1)) (kY s (4 * i+2)) (kY s (4 * i+3))
def uv(l:List G)(i:Int):Int:=gI (aa (aq l i.toNat) 0)
def uw(x:Int):G:=.node [.int x]
def xS(s:List Nat):Nat->Int->List G->List G
 |0,_,l=>l
 |k+1,i,l=>xS s k (i+1) (l.set i.toNat (uw (UN s i)))
def wNx(l:List G)(i:Int):Int:=
 (((uv l (i-16)+cO (cO (lU (uv l (i-15)) 7) (lU (uv l (i-15)) 18)) (uv l (i-15)/8))%4294967296+uv l (i-7))%4294967296+cO (cO (lU (uv l (i-2)) 17) (lU (uv l (i-2)) 19)) (uv l (i-2)/1024))%4294967296
def DB:Nat->Int->List G->List G
 |0,_,l=>l
 |k+1,i,l=>DB k (i+1) (l.set i.toNat (uw (wNx l i)))
structure V8 where
 (a b c d e f g h:Int)
def rt(k w:Int)(v:V8):Int:=((((v.h+cO (cO (lU v.e 6) (lU v.e 11)) (lU v.e 25))%4294967296+cO (ja v.e v.f) (ja (Bd v.e) v.g))%4294967296+k)%4294967296+w)%4294967296
def ru(v:V8):Int:=(cO (cO (lU v.a 2) (lU v.a 13)) (lU v.a 22)+cO (cO (ja v.a v.b) (ja v.a v.c)) (ja v.b v.c))%4294967296
def eK(k w:Int)(v:V8):V8:=⟨(rt k w v+ru v)%4294967296,v.a,v.b,v.c,(v.d+rt k w v)%4294967296,v.e,v.f,v.g⟩
def CJ(k w:List G):Nat->Int->V8->V8
 |0,_,v=>v
 |n+1,i,v=>CJ k w n (i+1) (eK (uv k i) (uv w i) v)
def Be{s:List Nat}{i:Int}{l:List G}(h:i<16):xS s (16-i).toNat i l=xS s (16-(i+1)).toNat (i+1) (l.set i.toNat (uw (UN s i))):=by rw[show(16-i).toNat=(16-(i+1)).toNat+1 by omega];rfl
def FM{s:List Nat}{i:Int}{l:List G}(h:16<=i):xS s (16-i).toNat i l=l:=by rw[show(16-i).toNat=0 by omega];rfl
def Bf{i:Int}{l:List G}(h:i<64):DB (64-i).toNat i l=DB (64-(i+1)).toNat (i+1) (l.set i.toNat (uw (wNx l i))):=by rw[show(64-i).toNat=(64-(i+1)).toNat+1 by omega];rfl
def FN{i:Int}{l:List G}(h:64<=i):DB (64-i).toNat i l=l:=by rw[show(64-i).toNat=0 by omega];rfl
def Bg{k w:List G}{i:Int}{v:V8}(h:i<64):CJ k w (64-i).toNat i v=CJ k w (64-(i+1)).toNat (i+1) (eK (uv k i) (uv w i) v):=by rw[show(64-i).toNat=(64-(i+1)).toNat+1 by omega];rfl
def FO{k w:List G}{i:Int}{v:V8}(h:64<=i):CJ k w (64-i).toNat i v=v:=by rw[show(64-i).toNat=0 by omega];rfl
def zw(n:Nat):List G:=List.replicate n (uw 0)
def ZW(s:List Nat):List G:=DB 48 16 (xS s 16 0 (zw 64))
def ZX(k:List G)(s:List Nat)(v:V8):V8:=CJ k (ZW s) 64 0 v
def ZY(v u:V8):V8:=⟨(v.a+u.a)%4294967296,(v.b+u.b)%4294967296,(v.c+u.c)%4294967296,(v.d+u.d)%4294967296,(v.e+u.e)%4294967296,(v.f+u.f)%4294967296,(v.g+u.g)%4294967296,(v.h+u.h)%4294967296⟩
def py(k:List G)(s:List Nat)(v:V8):V8:=ZY v (ZX k s v)
abbrev v8(z:Sy):V8:=⟨z.i 30,z.i 31,z.i 32,z.i 33,z.i 34,z.i 35,z.i 36,z.i 37⟩
def QN:List Sh:=[.i .u32 30,.i .u32 31,.i .u32 32,.i .u32 33,.i .u32 34,.i .u32 35,.i .u32 36,.i .u32 37]
abbrev FP(z:Sy):V8:=⟨z.i 40,z.i 41,z.i 42,z.i 43,z.i 44,z.i 45,z.i 46,z.i 47⟩
def ZZ:List Sh:=[.i .u32 40,.i .u32 41,.i .u32 42,.i .u32 43,.i .u32 44,.i .u32 45,.i .u32 46,.i .u32 47]
def sQ{z y0 y1 y2:Sy}{p q:Prop}(h0:v8 y0=v8 z/\y0.g 1=z.g 2/\p/\y0.g 2=xS (z.s 1) (16-0:Int).toNat 0 [G.node [G.int 0],G.node [G.int 0],G.node [G.int 0],G.node [G.int 0],G.node [G.int 0],G.node [G.int 0],G.node [G.int 0],G.node [G.int 0],G.node [G.int 0],G.node [G.int 0],G.node [G.int 0],G.node [G.int 0],G.node [G.int 0],G.node [G.int 0],G.node [G.int 0],G.node [G.int 0],G.node [G.int 0],G.node [G.int 0],G.node [G.int 0],G.node [G.int 0],G.node [G.int 0],G.node [G.int 0],G.node [G.int 0],G.node [G.int 0],G.node [G.int 0],G.node [G.int 0],G.node [G.int 0],G.node [G.int 0],G.node [G.int 0],G.node [G.int 0],G.node [G.int 0],G.node [G.int 0],G.node [G.int 0],G.node [G.int 0],G.node [G.int 0],G.node [G.int 0],G.node [G.int 0],G.node [G.int 0],G.node [G.int 0],G.node [G.int 0],G.node [G.int 0],G.node [G.int 0],G.node [G.int 0],G.node [G.int 0],G.node [G.int 0],G.node [G.int 0],G.node [G.int 0],G.node [G.int 0],G.node [G.int 0],G.node [G.int 0],G.node [G.int 0],G.node [G.int 0],G.node [G.int 0],G.node [G.int 0],G.node [G.int 0],G.node [G.int 0],G.node [G.int 0],G.node [G.int 0],G.node [G.int 0],G.node [G.int 0],G.node [G.int 0],G.node [G.int 0],G.node [G.int 0],G.node [G.int 0]])(h1:v8 y1=v8 y0/\y1.g 1=y0.g 1/\q/\y1.g 2=DB (64-16:Int).toNat 16 (y0.g 2))(h2:v8 y2=v8 y1/\y2.g 1=y1.g 1/\FP y2=CJ (y1.g 1) (y1.g 2) (64-0:Int).toNat 0 (v8 y1)):
 y2.g 1=z.g 2/\ZY (v8 y2) (FP y2)=py (z.g 2) (z.s 1) (v8 z):=by
 obtain⟨a1,a2,_,a3⟩:=h0
 obtain⟨b1,b2,_,b3⟩:=h1
 obtain⟨c1,c2,c3⟩:=h2
 refine⟨by rw[c2,b2,a2], ?_⟩
 rw[c3,c1,b1,a1,b2,a2,b3,a3]
 rfl
def KG:List G:=[.node [.int 1116352408],.node [.int 1899447441],.node [.int 3049323471],.node [.int 3921009573],.node [.int 961987163],.node [.int 1508970993],.node [.int 2453635748],.node [.int 2870763221],.node [.int 3624381080],.node [.int 310598401],.node [.int 607225278],.node [.int 1426881987],.node [.int 1925078388],.node [.int 2162078206],.node [.int 2614888103],.node [.int 3248222580],.node [.int 3835390401],.node [.int 4022224774],.node [.int 264347078],.node [.int 604807628],.node [.int 770255983],.node [.int 1249150122],.node [.int 1555081692],.node [.int 1996064986],.node [.int 2554220882],.node [.int 2821834349],.node [.int 2952996808],.node [.int 3210313671],.node [.int 3336571891],.node [.int 3584528711],.node [.int 113926993],.node [.int 338241895],.node [.int 666307205],.node [.int 773529912],.node [.int 1294757372],.node [.int 1396182291],.node [.int 1695183700],.node [.int 1986661051],.node [.int 2177026350],.node [.int 2456956037],.node [.int 2730485921],.node [.int 2820302411],.node [.int 3259730800],.node [.int 3345764771],.node [.int 3516065817],.node [.int 3600352804],.node [.int 4094571909],.node [.int 275423344],.node [.int 430227734],.node [.int 506948616],.node [.int 659060556],.node [.int 883997877],.node [.int 958139571],.node [.int 1322822218],.node [.int 1537002063],.node [.int 1747873779],.node [.int 1955562222],.node [.int 2024104815],.node [.int 2227730452],.node [.int 2361852424],.node [.int 2428436474],.node [.int 2756734187],.node [.int 3204031479],.node [.int 3329325298]]
def V0:V8:=⟨1779033703,3144134277,1013904242,2773480762,1359893119,2600822924,528734635,1541459225⟩
def gA(k:List G)(s:List Nat)(v:V8):V8:=if 64<=s.length then gA k (s.drop 64) (py k s v) else v
termination_by s.length
decreasing_by simp;omega
def cf(s:List Nat):List Nat:=if 64<=s.length then cf (s.drop 64) else s
termination_by s.length
decreasing_by simp;omega
def eW{k:List G}{s:List Nat}{v:V8}(h:64<=s.length):gA k s v=gA k (s.drop 64) (py k s v):=by rw[gA,if_pos h]
def jb{k:List G}{s:List Nat}{v:V8}(h:s.length<64):gA k s v=v:=by rw[gA,if_neg (by omega)]
def pz{s:List Nat}(h:64<=s.length):cf s=cf (s.drop 64):=by rw[cf,if_pos h]
def sR{s:List Nat}(h:s.length<64):cf s=s:=by rw[cf,if_neg (by omega)]
def FQ(e d:Int):Nat->Int->List Nat->List Nat
 |0,_,l=>l
 |k+1,i,l=>FQ e d k (i+1) (l.set (e-1-i).toNat ((d/((2 ^ min (8 * i).toNat (bo .u64):Nat):Int))%256).toNat)
def sT(e d i:Int)(l:List Nat):List Nat:=FQ e d (8-i).toNat i l
def Mx{e d i:Int}{l:List Nat}(h:i<8):FQ e d (8-i).toNat i l=FQ e d (8-(i+1)).toNat (i+1) (l.set (e-1-i).toNat ((d/((2 ^ min (8 * i).toNat (bo .u64):Nat):Int))%256).toNat):=by rw[show(8-i).toNat=(8-(i+1)).toNat+1 by omega];rfl
def RJ{e d i:Int}{l:List Nat}(h:8<=i):FQ e d (8-i).toNat i l=l:=by rw[show(8-i).toNat=0 by omega];rfl
def Jn{e d i:Int}{l:List Nat}(h:i<8):sT e d i l=sT e d (i+1) (l.set (e-1-i).toNat ((d/((2 ^ min (8 * i).toNat (bo .u64):Nat):Int))%256).toNat):=Mx h
def My{e d i:Int}{l:List Nat}(h:8<=i):sT e d i l=l:=RJ h
def UO(r:List Nat):List Nat:=(r.take 128++(List.replicate 128 0).drop r.length).set (min r.length 128) 128
def CK(s:List Nat):Int:=(s.length:Int)%18446744073709551616 * 8%18446744073709551616
def eD(s:List Nat):V8:=
 if 56<=min (cf s).length 128 then py KG (((FQ 128 (CK s) 8 0 (UO (cf s))).take 128).drop 64) (py KG (((FQ 128 (CK s) 8 0 (UO (cf s))).take 128).drop 0) (gA KG s V0))
 else py KG (((FQ 64 (CK s) 8 0 (UO (cf s))).take 128).drop 0) (gA KG s V0)
def ZB:List Nat:=let x:=Int.toNat 0; [x,x,x,x,x,x,x,x,x,x,x,x,x,x,x,x,x,x,x,x,x,x,x,x,x,x,x,x,x,x,x,x,x,x,x,x,x,x,x,x,x,x,x,x,x,x,x,x,x,x,x,x,x,x,x,x,x,x,x,x,x,x,x,x,x,x,x,x,x,x,x,x,x,x,x,x,x,x,x,x,x,x,x,x,x,x,x,x,x,x,x,x,x,x,x,x,x,x,x,x,x,x,x,x,x,x,x,x,x,x,x,x,x,x,x,x,x,x,x,x,x,x,x,x,x,x,x,x]
def UP:ZB=List.replicate 128 0:=by decide
def WI(r:List Nat)(h:r.length<64):(List.take 128 r++List.drop r.length ZB).length=128:=by rw[UP];simp;omega
def Mz{r:List Nat}:(List.take 128 r++List.drop r.length ZB).set (((min r.length 128:Nat):Int)).toNat (Int.toNat 128)=UO r:=by rw[UP];rfl
def WJ{z y0:Sy}{p q:Prop}(h0:y0.s 6=z.s 1/\y0.g 2=KG/\p/\q/\(y0.s 5).length<64):(List.take 128 (y0.s 5)++List.drop (y0.s 5).length ZB).length=128/\(y0.g 2).length=64/\(y0.s 5).length<64:=
 ⟨WI _ h0.2.2.2.2,by rw[h0.2.1];rfl,h0.2.2.2.2⟩
def WK{z y0:Sy}{p q:Prop}(h0:y0.s 6=z.s 1/\y0.g 2=KG/\p/\q/\(y0.s 5).length<64):y0.g 2=KG:=h0.2.1
def MA{z y0 y1 y2 y3:Sy}{p q:Prop}(h0:y0.s 6=z.s 1/\y0.g 2=KG/\v8 y0=gA KG (z.s 1) V0/\y0.s 5=cf (z.s 1)/\(y0.s 5).length<64)(hc:56<=((min (y0.s 5).length 128:Nat):Int))(h1:y1.g 2=KG/\v8 y1=v8 y0/\p/\q/\y1.s 7=sT 128 (((y0.s 6).length:Int)%18446744073709551616 * 8%18446744073709551616) 0 ((List.take 128 (y0.s 5)++List.drop (y0.s 5).length ZB).set (((min (y0.s 5).length 128:Nat):Int)).toNat (Int.toNat 128)))(h2:y2.g 2=y1.g 2/\v8 y2=py (y1.g 2) (List.drop (Int.toNat 0) (List.take (Int.toNat 128) (y1.s 7))) (v8 y1))(h3:y3.g 2=y2.g 2/\v8 y3=py (y2.g 2) (List.drop (Int.toNat 64) (List.take (Int.toNat 128) (y1.s 7))) (v8 y2)):v8 y3=eD (z.s 1):=by
 obtain⟨a1,a2,a3,a4,a5⟩:=h0
 obtain⟨b1,b2,_,_,b3⟩:=h1
 rw[Mz] at b3
 unfold eD
 rw[←a4,if_pos (by omega),h3.2,h2.1,h2.2,b1,b2,a3,b3,a1]
 rfl
def MB{z y0 y1 y2:Sy}{p q:Prop}(h0:y0.s 6=z.s 1/\y0.g 2=KG/\v8 y0=gA KG (z.s 1) V0/\y0.s 5=cf (z.s 1)/\(y0.s 5).length<64)(hc:¬56<=((min (y0.s 5).length 128:Nat):Int))(h1:y1.g 2=KG/\v8 y1=v8 y0/\p/\q/\y1.s 7=sT 64 (((y0.s 6).length:Int)%18446744073709551616 * 8%18446744073709551616) 0 ((List.take 128 (y0.s 5)++List.drop (y0.s 5).length ZB).set (((min (y0.s 5).length 128:Nat):Int)).toNat (Int.toNat 128)))(h2:y2.g 2=y1.g 2/\v8 y2=py (y1.g 2) (List.drop (Int.toNat 0) (List.take (Int.toNat 128) (y1.s 7))) (v8 y1)):v8 y2=eD (z.s 1):=by
 obtain⟨a1,a2,a3,a4,a5⟩:=h0
 obtain⟨b1,b2,_,_,b3⟩:=h1
 rw[Mz] at b3
 unfold eD
 rw[←a4,if_neg (by omega),h2.2,b1,b2,a3,b3,a1]
 rfl
def sp8(v:V8):List Sh:=[.pi .u32 v.a,.pi .u32 v.b,.pi .u32 v.c,.pi .u32 v.d,.pi .u32 v.e,.pi .u32 v.f,.pi .u32 v.g,.pi .u32 v.h]
def nY{s:List Nat}{i:Int}(j:Int)(h0:0<=i)(h1:0<=j):kY (List.drop (4 * i).toNat (List.take (s.length:Int).toNat s)) j=kY s (4 * i+j):=by unfold kY;rw[aaq,aa7,aag,aat,aag];congr 3;omega
def MC{s:List Nat}{i:Int}(h0:0<=i):YZ (kY (List.drop (4 * i).toNat (List.take (s.length:Int).toNat s)) 0) (kY (List.drop (4 * i).toNat (List.take (s.length:Int).toNat s)) 1) (kY (List.drop (4 * i).toNat (List.take (s.length:Int).toNat s)) 2) (kY (List.drop (4 * i).toNat (List.take (s.length:Int).toNat s)) 3)=UN s i:=by unfold UN;rw[nY 0 h0 (by decide),nY 1 h0 (by decide),nY 2 h0 (by decide),nY 3 h0 (by decide),Int.add_zero]
def hb(v:V8)(j:Nat):Int:=[v.a/16777216%256,v.a/65536%256,v.a/256%256,v.a%256,v.b/16777216%256,v.b/65536%256,v.b/256%256,v.b%256,v.c/16777216%256,v.c/65536%256,v.c/256%256,v.c%256,v.d/16777216%256,v.d/65536%256,v.d/256%256,v.d%256,
 v.e/16777216%256,v.e/65536%256,v.e/256%256,v.e%256,v.f/16777216%256,v.f/65536%256,v.f/256%256,v.f%256,v.g/16777216%256,v.g/65536%256,v.g/256%256,v.g%256,v.h/16777216%256,v.h/65536%256,v.h/256%256,v.h%256].getD j 0
def h32(v:V8):List Sh:=(List.range 32).map λj=>.pi .u8 (hb v j)
def FT:FSpec:=⟨[.c (.i .u32 1),.c (.i .u64 2)],[],λz=>0<=z.i 2,λz=>.one (.c (.pi .u32 (lU (z.i 1) (z.i 2)))),λ_=>[],λz y=>True,none⟩
abbrev MD:=FT
def UQ:FSpec:=⟨[.c (.vb 1)],[],λz=>4<=(z.s 1).length,λz=>.one (.c (.pi .u32 (YZ (kY (z.s 1) 0) (kY (z.s 1) 1) (kY (z.s 1) 2) (kY (z.s 1) 3)))),λ_=>[],λz y=>True,none⟩
def RK:List BSh:=[.cells 153 QN,.arr 9 154 1,.arr 9 154 2]
def tkT:List (Nat×Sa):=[(0,.c (.p 0)),(2,.c (.p 1)),(6,.c (.p 2))]
def FU(p:Sy):LSpec:=⟨[(0,.c (.p 0)),(2,.c (.p 1)),(6,.c (.p 2)),(1,.c (.vb 3)),(20,.c (.i .i64 20))],RK,λz=>64<=(z.s 3).length/\(z.g 1).length=64/\(z.g 2).length=64/\0<=z.i 20/\z.i 20<=16,λz=>(16-z.i 20).toNat,[⟨.exit 0,tkT,RK⟩],λz y=>v8 y=v8 z/\y.g 1=z.g 1/\(y.g 2).length=64/\y.g 2=xS (z.s 3) (16-z.i 20).toNat (z.i 20) (z.g 2),none,[]⟩
def FV(p:Sy):LSpec:=⟨[(0,.c (.p 0)),(2,.c (.p 1)),(6,.c (.p 2)),(8,.c (.i .i64 8))],RK,λz=>(z.g 1).length=64/\(z.g 2).length=64/\16<=z.i 8/\z.i 8<=64,λz=>(64-z.i 8).toNat,[⟨.exit 2,tkT,RK⟩],λz y=>v8 y=v8 z/\y.g 1=z.g 1/\(y.g 2).length=64/\y.g 2=DB (64-z.i 8).toNat (z.i 8) (z.g 2),none,[]⟩
def UR:List BSh:=[.cells 153 QN,.arr 9 154 1,.arr 9 154 2,.cells 153 ZZ]
def tkT2:List (Nat×Sa):=[(0,.c (.p 0)),(2,.c (.p 1)),(6,.c (.p 2)),(13,.c (.p 3))]
def FW(p:Sy):LSpec:=⟨[(0,.c (.p 0)),(2,.c (.p 1)),(6,.c (.p 2)),(13,.c (.p 3)),(77,.c (.i .i64 77))],UR,λz=>(z.g 1).length=64/\(z.g 2).length=64/\0<=z.i 77/\z.i 77<=64,λz=>(64-z.i 77).toNat,[⟨.exit 4,tkT2,UR⟩],λz y=>v8 y=v8 z/\y.g 1=z.g 1/\FP y=CJ (z.g 1) (z.g 2) (64-z.i 77).toNat (z.i 77) (FP z),none,[]⟩
def US:FSpec:=⟨[.c (.p 0),.c (.vb 1),.c (.p 1)],[.cells 153 QN,.arr 9 154 2],λz=>64<=(z.s 1).length/\(z.g 2).length=64,λz=>.tu [],λz=>[.cells 153 QN,.arr 9 154 2],λz y=>y.g 2=z.g 2/\v8 y=py (z.g 2) (z.s 1) (v8 z),none⟩
def z32:List Sh:=List.replicate 32 (.pi .u8 0)
def Z0:List BSh:=[.cells 153 QN,.arr 9 154 2,.cells 28 z32]
def smT:List (Nat×Sa):=[(0,.c (.vb 6)),(2,.c (.p 2)),(3,.c (.p 0)),(4,.c (.p 1)),(5,.c (.vb 5))]
def MF(p:Sy):LSpec:=⟨smT,Z0,λz=>z.g 2=KG,λz=>(z.s 5).length,[⟨.exit 0,smT,Z0⟩],λz y=>y.s 6=z.s 6/\y.g 2=KG/\v8 y=gA KG (z.s 5) (v8 z)/\y.s 5=cf (z.s 5)/\(y.s 5).length<64,none,[]⟩
def UT:List BSh:=[.cells 153 QN,.arr 9 154 2,.cells 28 z32,.arb 158 7]
def MG(p:Sy):LSpec:=⟨[(2,.c (.p 2)),(3,.c (.p 0)),(4,.c (.p 1)),(6,.c (.p 3)),(8,.c (.i .i64 8)),(9,.c (.i .u64 9)),(35,.c (.i .i64 20))],UT,λz=>z.g 2=KG/\(z.s 7).length=128/\(z.i 8=64∨z.i 8=128)/\0<=z.i 20/\z.i 20<=8,λz=>(8-z.i 20).toNat,[⟨.exit 2,[(2,.c (.p 2)),(3,.c (.p 0)),(4,.c (.p 1)),(6,.c (.p 3)),(8,.c (.i .i64 8))],UT⟩],λz y=>y.g 2=KG/\v8 y=v8 z/\y.i 8=z.i 8/\(y.s 7).length=128/\y.s 7=sT (z.i 8) (z.i 9) (z.i 20) (z.s 7),none,[]⟩
def WL:FSpec:=⟨[.c (.vb 1)],[],λz=>(z.s 1).length<=1000000000,λz=>.one (.ag (h32 (eD (z.s 1)))),λ_=>[],λz y=>True,none⟩
end
abbrev cg:=aj .u32
abbrev FY:=bo IntKind.u32
def FZ:bn 150 MD:=bA 1 0 eN lN λz hA=>show Fm.den ((.an (0<=z.i 2) (.an ((0:Int)<=(32-z.i 2)%18446744073709551616) (.an (IntKind.u32.wrap (Int.ofNat ((aC (cg) (z.i 1/(↑(2 ^ Min.min (z.i 2).toNat (FY)):Int))).lor (aC (cg) (z.i 1 * (↑(2 ^ Min.min ((32-z.i 2)%18446744073709551616).toNat (FY)):Int)%4294967296))))=lU (z.i 1) (z.i 2)/\True) (.at (True)))))) by
 dsimp only [MD,FT] at hA;repeat' with_reducible first|intro _|apply bV|apply bW|apply bX|apply cy|apply cj
 all_goals first|omega|(repeat' first|refine And.intro ?_ ?_|intro _) <;> first|omega|rfl|grind [ao,am,ak]
abbrev eL(a:Int):=IntKind.u32.wrap a
abbrev ic:=Int.toNat 0
abbrev sU(a:Int):=IntKind.u32.wrap a
abbrev vM(a:Int):=(0:Int)<=0/\0<a
def WM:bn 145 UQ:=bA 1 0 eN lN λz hA=>show Fm.den (let v0:=(cg);let v1:=(↑(z.s 1).length:Int);(.an (vM v1) (.an ((0:Int)<=1/\1<v1) (.an ((0:Int)<=2/\2<v1) (.an ((0:Int)<=3/\3<v1) (.an (IntKind.u32.wrap (Int.ofNat ((aC v0 (sU (Int.ofNat ((aC v0 (eL (Int.ofNat ((aC v0 ((↑((z.s 1).getD (ic) 0):Int)%4294967296 * 16777216%4294967296)).lor (aC v0 ((↑((z.s 1).getD (Int.toNat 1) 0):Int)%4294967296 * 65536%4294967296)))))).lor (aC v0 ((↑((z.s 1).getD (Int.toNat 2) 0):Int)%4294967296 * 256%4294967296)))))).lor (aC v0 ((↑((z.s 1).getD (Int.toNat 3) 0):Int)%4294967296))))=YZ (kY (z.s 1) 0) (kY (z.s 1) 1) (kY (z.s 1) 2) (kY (z.s 1) 3)/\True) (.at (True)))))))) by
 dsimp only [UQ] at hA;conv=>zeta
 repeat' with_reducible first|intro _|apply bV|apply bW|apply bX|apply cy|apply cj
 all_goals first|omega|(repeat' first|refine And.intro ?_ ?_|intro _) <;> first|omega|rfl|grind [ao,am,ak]
abbrev ux(a:Int)(b:List G):=a.toNat<b.length/\True
abbrev MH(a b:List G):=0<a.length/\0<b.length/\True
abbrev mh(a:List G):=0<a.length
abbrev sV(a:Int):=G.node [G.int a]
abbrev vN(a:Int):=0<=a/\a<64
def MI:bN 75 0 FU:=bM 5 41 (ai WM eN) lN λp z hA=>show Fm.den (let v2:=(↑(z.s 3).length:Int);let v0:=(List.drop (4 * z.i 20).toNat (List.take v2.toNat (z.s 3)));let v1:=((z.g 2).set (z.i 20).toNat (sV (YZ (kY v0 0) (kY v0 1) (kY v0 2) (kY v0 3))));(.two (z.i 20<16) (.an ((-9223372036854775808)<=4 * z.i 20/\4 * z.i 20<=9223372036854775807) (.an (0<=4 * z.i 20/\4 * z.i 20<=v2/\v2<=v2) (.ct (4<=v0.length) (λy0=>True) λy0=>(.an (vN (z.i 20)) (.an (mh (z.g 2)) (.an (ux (z.i 20) (z.g 2)) (.an ((-9223372036854775808)<=z.i 20+1/\z.i 20+1<=9223372036854775807) (.an (0<v1.length/\0<(z.g 1).length/\True) (.at ((64<=(z.s 3).length/\(z.g 1).length=64/\v1.length=64/\0<=z.i 20+1/\z.i 20+1<=16)/\((16:Int)-(z.i 20+1)).toNat<(16-z.i 20).toNat/\∀(y:Sy),V8.mk (y.i 30) (y.i 31) (y.i 32) (y.i 33) (y.i 34) (y.i 35) (y.i 36) (y.i 37)=V8.mk (z.i 30) (z.i 31) (z.i 32) (z.i 33) (z.i 34) (z.i 35) (z.i 36) (z.i 37)/\y.g 1=z.g 1/\(y.g 2).length=64/\y.g 2=xS (z.s 3) (16-(z.i 20+1)).toNat (z.i 20+1) v1->V8.mk (y.i 30) (y.i 31) (y.i 32) (y.i 33) (y.i 34) (y.i 35) (y.i 36) (y.i 37)=V8.mk (z.i 30) (z.i 31) (z.i 32) (z.i 33) (z.i 34) (z.i 35) (z.i 36) (z.i 37)/\y.g 1=z.g 1/\(y.g 2).length=64/\y.g 2=xS (z.s 3) (16-z.i 20).toNat (z.i 20) (z.g 2))))))))))) (.an (MH (z.g 2) (z.g 1)) (.at (V8.mk (z.i 30) (z.i 31) (z.i 32) (z.i 33) (z.i 34) (z.i 35) (z.i 36) (z.i 37)=V8.mk (z.i 30) (z.i 31) (z.i 32) (z.i 33) (z.i 34) (z.i 35) (z.i 36) (z.i 37)/\z.g 1=z.g 1/\(z.g 2).length=64/\z.g 2=xS (z.s 3) (16-z.i 20).toNat (z.i 20) (z.g 2)))))) by
 dsimp only [FU,v8] at hA;have:=@MC (z.s 3) (z.i 20);have:=@Be (z.s 3) (z.i 20) (z.g 2);have:=@FM (z.s 3) (z.i 20) (z.g 2);conv=>zeta
 repeat' with_reducible first|intro _|apply bV|apply bW|apply bX|apply cy|apply cj
 all_goals first|omega|(repeat' first|refine And.intro ?_ ?_|intro _) <;> first|omega|rfl|grind [ao,am,ak,List.append_assoc,List.length_append,List.length_cons,List.length_nil,List.append_cancel_left_eq,List.cons.injEq,uw]
def MJ:bn 146 FT:=bA 1 0 eN lN λz hA=>show Fm.den ((.an (0<=z.i 2) (.an ((0:Int)<=(32-z.i 2)%18446744073709551616) (.an (IntKind.u32.wrap (Int.ofNat ((aC (cg) (z.i 1/(↑(2 ^ Min.min (z.i 2).toNat (FY)):Int))).lor (aC (cg) (z.i 1 * (↑(2 ^ Min.min ((32-z.i 2)%18446744073709551616).toNat (FY)):Int)%4294967296))))=lU (z.i 1) (z.i 2)/\True) (.at (True)))))) by
 dsimp only [FT] at hA;repeat' with_reducible first|intro _|apply bV|apply bW|apply bX|apply cy|apply cj
 all_goals first|omega|(repeat' first|refine And.intro ?_ ?_|intro _) <;> first|omega|rfl|grind [ao,am,ak]
abbrev aK(a:List G)(b:Int):=aq a b.toNat
abbrev eE(a:Int)(b:List G):=a.toNat<b.length
abbrev aZ(a:G):=aa a 0
def MK:bN 75 2 FV:=bM 8 2729 (ai MJ eN) lN λp z hA=>show Fm.den (let v0:=((z.g 2).set (z.i 8).toNat (sV ((((gI (aZ (aK (z.g 2) (z.i 8-16)))+IntKind.u32.wrap (Int.ofNat ((aC (cg) (eL (Int.ofNat ((aC (cg) (lU (gI (aZ (aK (z.g 2) (z.i 8-15)))) 7)).xor (aC (cg) (lU (gI (aZ (aK (z.g 2) (z.i 8-15)))) 18)))))).xor (aC (cg) (gI (aZ (aK (z.g 2) (z.i 8-15)))/8)))))%4294967296+gI (aZ (aK (z.g 2) (z.i 8-7))))%4294967296+IntKind.u32.wrap (Int.ofNat ((aC (cg) (eL (Int.ofNat ((aC (cg) (lU (gI (aZ (aK (z.g 2) (z.i 8-2)))) 17)).xor (aC (cg) (lU (gI (aZ (aK (z.g 2) (z.i 8-2)))) 19)))))).xor (aC (cg) (gI (aZ (aK (z.g 2) (z.i 8-2)))/1024)))))%4294967296)));let v1:=(mh (z.g 2));let v2:=((64:Int)-(z.i 8+1));(.two (z.i 8<64) (.an ((-9223372036854775808)<=z.i 8-15/\z.i 8-15<=9223372036854775807) (.an (0<=z.i 8-15/\z.i 8-15<64) (.an v1 (.an (eE (z.i 8-15) (z.g 2)) (.an ((-9223372036854775808)<=z.i 8-2/\z.i 8-2<=9223372036854775807) (.an (0<=z.i 8-2/\z.i 8-2<64) (.an v1 (.an (eE (z.i 8-2) (z.g 2)) (.ct ((0:Int)<=7) (λy0=>True) λy0=>(.ct ((0:Int)<=18) (λy1=>True) λy1=>(.ct ((0:Int)<=17) (λy2=>True) λy2=>(.ct ((0:Int)<=19) (λy3=>True) λy3=>(.an ((-9223372036854775808)<=z.i 8-16/\z.i 8-16<=9223372036854775807) (.an (0<=z.i 8-16/\z.i 8-16<64) (.an v1 (.an (eE (z.i 8-16) (z.g 2)) (.an ((-9223372036854775808)<=z.i 8-7/\z.i 8-7<=9223372036854775807) (.an (0<=z.i 8-7/\z.i 8-7<64) (.an v1 (.an (eE (z.i 8-7) (z.g 2)) (.an (vN (z.i 8)) (.an v1 (.an (ux (z.i 8) (z.g 2)) (.an ((-9223372036854775808)<=z.i 8+1/\z.i 8+1<=9223372036854775807) (.an (0<v0.length/\0<(z.g 1).length/\True) (.at (((z.g 1).length=64/\v0.length=64/\16<=z.i 8+1/\z.i 8+1<=64)/\v2.toNat<(64-z.i 8).toNat/\∀(y:Sy),V8.mk (y.i 30) (y.i 31) (y.i 32) (y.i 33) (y.i 34) (y.i 35) (y.i 36) (y.i 37)=V8.mk (z.i 30) (z.i 31) (z.i 32) (z.i 33) (z.i 34) (z.i 35) (z.i 36) (z.i 37)/\y.g 1=z.g 1/\(y.g 2).length=64/\y.g 2=DB v2.toNat (z.i 8+1) v0->V8.mk (y.i 30) (y.i 31) (y.i 32) (y.i 33) (y.i 34) (y.i 35) (y.i 36) (y.i 37)=V8.mk (z.i 30) (z.i 31) (z.i 32) (z.i 33) (z.i 34) (z.i 35) (z.i 36) (z.i 37)/\y.g 1=z.g 1/\(y.g 2).length=64/\y.g 2=DB (64-z.i 8).toNat (z.i 8) (z.g 2)))))))))))))))))))))))))))) (.an (MH (z.g 2) (z.g 1)) (.at (V8.mk (z.i 30) (z.i 31) (z.i 32) (z.i 33) (z.i 34) (z.i 35) (z.i 36) (z.i 37)=V8.mk (z.i 30) (z.i 31) (z.i 32) (z.i 33) (z.i 34) (z.i 35) (z.i 36) (z.i 37)/\z.g 1=z.g 1/\(z.g 2).length=64/\z.g 2=DB (64-z.i 8).toNat (z.i 8) (z.g 2)))))) by
 dsimp only [FV,v8] at hA;have e2:=@Bf (z.i 8) (z.g 2);have:=@FN (z.i 8) (z.g 2);dsimp only [uw,wNx,uv,cO] at e2;conv=>zeta
 repeat' with_reducible first|intro _|apply bV|apply bW|apply bX|apply cy|apply cj
 all_goals first|omega|(repeat' first|refine And.intro ?_ ?_|intro _) <;> first|omega|rfl|grind [ao,am,ak,List.append_assoc,List.length_append,List.length_cons,List.length_nil,List.append_cancel_left_eq,List.cons.injEq]
abbrev RL(a):=if IntKind.u32.signed=true then a else IntKind.u32.max
def ML:bN 75 4 FW:=bM 4 9 (ai MJ eN) lN λp z hA=>show Fm.den (let v1:=(cg);let v0:=((((z.i 47+IntKind.u32.wrap (Int.ofNat ((aC v1 (eL (Int.ofNat ((aC v1 (lU (z.i 44) 6)).xor (aC v1 (lU (z.i 44) 11)))))).xor (aC v1 (lU (z.i 44) 25)))))%4294967296+IntKind.u32.wrap (Int.ofNat ((aC v1 (eL (Int.ofNat ((aC v1 (z.i 44)).land (aC v1 (z.i 45)))))).xor (aC v1 (sU (Int.ofNat ((aC v1 (eL (Int.ofNat ((aC v1 (RL (-1))).xor (aC v1 (z.i 44)))))).land (aC v1 (z.i 46)))))))))%4294967296+gI (aZ (aK (z.g 1) (z.i 77))))%4294967296+gI (aZ (aK (z.g 2) (z.i 77))));let v2:=(V8.mk (z.i 40) (z.i 41) (z.i 42) (z.i 43) (z.i 44) (z.i 45) (z.i 46) (z.i 47));let v3:=(MH (z.g 2) (z.g 1));let v4:=(vN (z.i 77));let v5:=((64:Int)-(z.i 77+1));(.two (z.i 77<64) (.ct ((0:Int)<=6) (λy0=>True) λy0=>(.ct ((0:Int)<=11) (λy1=>True) λy1=>(.ct ((0:Int)<=25) (λy2=>True) λy2=>(.an v4 (.an (mh (z.g 1)) (.an (eE (z.i 77) (z.g 1)) (.an v4 (.an (mh (z.g 2)) (.an (eE (z.i 77) (z.g 2)) (.ct ((0:Int)<=2) (λy3=>True) λy3=>(.ct ((0:Int)<=13) (λy4=>True) λy4=>(.ct ((0:Int)<=22) (λy5=>True) λy5=>(.an ((-9223372036854775808)<=z.i 77+1/\z.i 77+1<=9223372036854775807) (.an v3 (.at (((z.g 1).length=64/\(z.g 2).length=64/\0<=z.i 77+1/\z.i 77+1<=64)/\v5.toNat<(64-z.i 77).toNat/\∀(y:Sy),V8.mk (y.i 30) (y.i 31) (y.i 32) (y.i 33) (y.i 34) (y.i 35) (y.i 36) (y.i 37)=V8.mk (z.i 30) (z.i 31) (z.i 32) (z.i 33) (z.i 34) (z.i 35) (z.i 36) (z.i 37)/\y.g 1=z.g 1/\V8.mk (y.i 40) (y.i 41) (y.i 42) (y.i 43) (y.i 44) (y.i 45) (y.i 46) (y.i 47)=CJ (z.g 1) (z.g 2) v5.toNat (z.i 77+1) (V8.mk ((v0%4294967296+(IntKind.u32.wrap (Int.ofNat ((aC v1 (eL (Int.ofNat ((aC v1 (lU (z.i 40) 2)).xor (aC v1 (lU (z.i 40) 13)))))).xor (aC v1 (lU (z.i 40) 22))))+IntKind.u32.wrap (Int.ofNat ((aC v1 (sU (Int.ofNat ((aC v1 (eL (Int.ofNat ((aC v1 (z.i 40)).land (aC v1 (z.i 41)))))).xor (aC v1 (eL (Int.ofNat ((aC v1 (z.i 40)).land (aC v1 (z.i 42)))))))))).xor (aC v1 (eL (Int.ofNat ((aC v1 (z.i 41)).land (aC v1 (z.i 42)))))))))%4294967296)%4294967296) (z.i 40) (z.i 41) (z.i 42) ((z.i 43+v0%4294967296)%4294967296) (z.i 44) (z.i 45) (z.i 46))->V8.mk (y.i 30) (y.i 31) (y.i 32) (y.i 33) (y.i 34) (y.i 35) (y.i 36) (y.i 37)=V8.mk (z.i 30) (z.i 31) (z.i 32) (z.i 33) (z.i 34) (z.i 35) (z.i 36) (z.i 37)/\y.g 1=z.g 1/\V8.mk (y.i 40) (y.i 41) (y.i 42) (y.i 43) (y.i 44) (y.i 45) (y.i 46) (y.i 47)=CJ (z.g 1) (z.g 2) (64-z.i 77).toNat (z.i 77) v2)))))))))))))))) (.an v3 (.at (V8.mk (z.i 30) (z.i 31) (z.i 32) (z.i 33) (z.i 34) (z.i 35) (z.i 36) (z.i 37)=V8.mk (z.i 30) (z.i 31) (z.i 32) (z.i 33) (z.i 34) (z.i 35) (z.i 36) (z.i 37)/\z.g 1=z.g 1/\V8.mk (z.i 40) (z.i 41) (z.i 42) (z.i 43) (z.i 44) (z.i 45) (z.i 46) (z.i 47)=CJ (z.g 1) (z.g 2) (64-z.i 77).toNat (z.i 77) v2))))) by
 dsimp only [FW,v8,FP] at hA;have e2:=@Bg (z.g 1) (z.g 2) (z.i 77) (FP z);have e3:=@FO (z.g 1) (z.g 2) (z.i 77) (FP z);dsimp only [FP,eK,rt,ru,uv,cO,ja,Bd] at e2 e3;conv=>zeta
 repeat' with_reducible first|intro _|apply bV|apply bW|apply bX|apply cy|apply cj
 all_goals first|omega|(repeat' first|refine And.intro ?_ ?_|intro _) <;> first|omega|rfl|grind [ao,am,ak,List.append_assoc,List.length_append,List.length_cons,List.length_nil,List.append_cancel_left_eq,List.cons.injEq]
abbrev Z1(a:Prop)(b:List Nat)(c:List G)(d e f g h i j k l:Int)(m:G):=Fm.cl (a) (64<=b.length/\c.length=64/\64=64/\(0:Int)<=0/\(0:Int)<=16) (λy=>V8.mk (y.i 30) (y.i 31) (y.i 32) (y.i 33) (y.i 34) (y.i 35) (y.i 36) (y.i 37)=V8.mk d e f g h i j k/\y.g 1=c/\(y.g 2).length=64/\y.g 2=xS b l.toNat 0 [m,m,m,m,m,m,m,m,m,m,m,m,m,m,m,m,m,m,m,m,m,m,m,m,m,m,m,m,m,m,m,m,m,m,m,m,m,m,m,m,m,m,m,m,m,m,m,m,m,m,m,m,m,m,m,m,m,m,m,m,m,m,m,m])
abbrev UU(a:Prop)(b c:List G)(d e f g h i j k l:Int):=Fm.cl (a) (b.length=64/\c.length=64/\(16:Int)<=16/\(16:Int)<=64) (λy=>V8.mk (y.i 30) (y.i 31) (y.i 32) (y.i 33) (y.i 34) (y.i 35) (y.i 36) (y.i 37)=V8.mk d e f g h i j k/\y.g 1=b/\(y.g 2).length=64/\y.g 2=DB l.toNat 16 c)
abbrev sW(a:List G):=0<a.length/\True
def MM:bn 75 US:=bA 1 0 eN (aF (ptm:=[]) MI (aF (ptm:=[]) MK (aF (ptm:=[]) ML lN))) λz hA=>show Fm.den (let vxg:=G.node [G.int 0];(.an (64=64/bq (cK 9)) (Z1 (0<64/\0<(z.g 2).length/\True) (z.s 1) (z.g 2) (z.i 30) (z.i 31) (z.i 32) (z.i 33) (z.i 34) (z.i 35) (z.i 36) (z.i 37) ((16:Int)-0) vxg λy0=>(UU (MH (y0.g 2) (y0.g 1)) (y0.g 1) (y0.g 2) (y0.i 30) (y0.i 31) (y0.i 32) (y0.i 33) (y0.i 34) (y0.i 35) (y0.i 36) (y0.i 37) ((64:Int)-16) λy1=>(.cl ((MH (y1.g 2) (y1.g 1))) ((y1.g 1).length=64/\(y1.g 2).length=64/\(0:Int)<=0/\(0:Int)<=64) (λy2=>V8.mk (y2.i 30) (y2.i 31) (y2.i 32) (y2.i 33) (y2.i 34) (y2.i 35) (y2.i 36) (y2.i 37)=V8.mk (y1.i 30) (y1.i 31) (y1.i 32) (y1.i 33) (y1.i 34) (y1.i 35) (y1.i 36) (y1.i 37)/\y2.g 1=y1.g 1/\V8.mk (y2.i 40) (y2.i 41) (y2.i 42) (y2.i 43) (y2.i 44) (y2.i 45) (y2.i 46) (y2.i 47)=CJ (y1.g 1) (y1.g 2) ((64:Int)-0).toNat 0 (V8.mk (y1.i 30) (y1.i 31) (y1.i 32) (y1.i 33) (y1.i 34) (y1.i 35) (y1.i 36) (y1.i 37))) λy2=>(.an (sW (y2.g 1)) (.at (y2.g 1=z.g 2/\V8.mk ((y2.i 30+y2.i 40)%(4294967296:Int)) ((y2.i 31+y2.i 41)%4294967296) ((y2.i 32+y2.i 42)%4294967296) ((y2.i 33+y2.i 43)%4294967296) ((y2.i 34+y2.i 44)%4294967296) ((y2.i 35+y2.i 45)%4294967296) ((y2.i 36+y2.i 46)%4294967296) ((y2.i 37+y2.i 47)%4294967296)=py (z.g 2) (z.s 1) (V8.mk (z.i 30) (z.i 31) (z.i 32) (z.i 33) (z.i 34) (z.i 35) (z.i 36) (z.i 37)))))))))) by
 dsimp only [US,v8] at hA;conv=>zeta
 repeat' with_reducible first|intro _|apply bV|apply bW|apply bX|apply cy|apply cj
 all_goals first|omega|rfl|(exact sQ (by assumption) (by assumption) (by assumption))|grind [ao,am,ak,List.append_assoc,List.length_append,List.length_cons,List.length_nil,List.append_cancel_left_eq,List.cons.injEq]
abbrev RM(a:Prop)(b:List Nat)(c:List G)(d):=Fm.cl (a) (64<=b.length/\c.length=64) (λy=>y.g 2=c/\V8.mk (y.i 30) (y.i 31) (y.i 32) (y.i 33) (y.i 34) (y.i 35) (y.i 36) (y.i 37)=py c b d)
abbrev Z2(a:Prop)(b:List G):=a/\a/\a/\a/\a/\a/\a/\a/\a/\a/\a/\a/\a/\a/\a/\a/\a/\a/\a/\a/\a/\a/\a/\a/\a/\a/\a/\a/\a/\a/\a/\a/\0<b.length/\True
def RN:bN 31 0 MF:=bM 3 1 (ai MM eN) lN λp z hA=>show Fm.den (let vx:=(0:Int)=0;let v0:=(V8.mk (z.i 30) (z.i 31) (z.i 32) (z.i 33) (z.i 34) (z.i 35) (z.i 36) (z.i 37));let v2:=(↑(z.s 5).length:Int);let v1:=(List.drop (Int.toNat 64) (List.take v2.toNat (z.s 5)));(.two (64<=v2) (RM (sW (z.g 2)) (z.s 5) (z.g 2) v0 λy0=>(.an ((0:Int)<=64/\64<=v2/\v2<=v2) (.an (Z2 vx (y0.g 2)) (.at (y0.g 2=KG/\v1.length<(z.s 5).length/\∀(y:Sy),y.s 6=z.s 6/\y.g 2=KG/\V8.mk (y.i 30) (y.i 31) (y.i 32) (y.i 33) (y.i 34) (y.i 35) (y.i 36) (y.i 37)=gA KG v1 (V8.mk (y0.i 30) (y0.i 31) (y0.i 32) (y0.i 33) (y0.i 34) (y0.i 35) (y0.i 36) (y0.i 37))/\y.s 5=cf v1/\(y.s 5).length<64->y.s 6=z.s 6/\y.g 2=KG/\V8.mk (y.i 30) (y.i 31) (y.i 32) (y.i 33) (y.i 34) (y.i 35) (y.i 36) (y.i 37)=gA KG (z.s 5) v0/\y.s 5=cf (z.s 5)/\(y.s 5).length<64))))) (.an (Z2 vx (z.g 2)) (.at (z.s 6=z.s 6/\z.g 2=KG/\V8.mk (z.i 30) (z.i 31) (z.i 32) (z.i 33) (z.i 34) (z.i 35) (z.i 36) (z.i 37)=gA KG (z.s 5) v0/\z.s 5=cf (z.s 5)/\(z.s 5).length<64))))) by
 dsimp only [MF,v8] at hA;have e1:=@eW KG (z.s 5) (v8 z);have e2:=@jb KG (z.s 5) (v8 z);have:=@pz (z.s 5);have:=@sR (z.s 5);have e5:KG.length=64:=rfl;dsimp only [v8] at e1 e2;conv=>zeta
 repeat' with_reducible first|intro _|apply bV|apply bW|apply bX|apply cy|apply cj
 all_goals first|omega|rfl|grind [ao,am,ak,List.append_assoc,List.length_append,List.length_cons,List.length_nil,List.append_cancel_left_eq,List.cons.injEq]
abbrev F0:=bo IntKind.u64
def RO:bN 31 2 MG:=bM 7 681 eN lN λp z hA=>show Fm.den (let vx:=(0:Int)=0;let v0:=((z.s 7).set (z.i 8-1-z.i 20).toNat (z.i 9/(↑(2 ^ Min.min (8 * z.i 20).toNat (F0)):Int)%256).toNat);(.two (z.i 20<8) (.an ((-9223372036854775808)<=z.i 8-1/\z.i 8-1<=9223372036854775807) (.an ((-9223372036854775808)<=z.i 8-1-z.i 20/\z.i 8-1-z.i 20<=9223372036854775807) (.an ((-9223372036854775808)<=8 * z.i 20/\8 * z.i 20<=9223372036854775807) (.an (0<=8 * z.i 20) (.an (0<=z.i 8-1-z.i 20/\z.i 8-1-z.i 20<128) (.an (0<(z.s 7).length) (.an ((z.i 8-1-z.i 20).toNat<(z.s 7).length/\0<=z.i 9/(↑(2 ^ Min.min (8 * z.i 20).toNat (F0)):Int)%256) (.an ((-9223372036854775808)<=z.i 20+1/\z.i 20+1<=9223372036854775807) (.an (0<v0.length/\vx/\vx/\vx/\vx/\vx/\vx/\vx/\vx/\vx/\vx/\vx/\vx/\vx/\vx/\vx/\vx/\vx/\vx/\vx/\vx/\vx/\vx/\vx/\vx/\vx/\vx/\vx/\vx/\vx/\vx/\vx/\vx/\0<(z.g 2).length/\True) (.at ((z.g 2=KG/\v0.length=128/\(z.i 8=64∨z.i 8=128)/\0<=z.i 20+1/\z.i 20+1<=8)/\((8:Int)-(z.i 20+1)).toNat<(8-z.i 20).toNat/\∀(y:Sy),y.g 2=KG/\V8.mk (y.i 30) (y.i 31) (y.i 32) (y.i 33) (y.i 34) (y.i 35) (y.i 36) (y.i 37)=V8.mk (z.i 30) (z.i 31) (z.i 32) (z.i 33) (z.i 34) (z.i 35) (z.i 36) (z.i 37)/\y.i 8=z.i 8/\(y.s 7).length=128/\y.s 7=sT (z.i 8) (z.i 9) (z.i 20+1) v0->y.g 2=KG/\V8.mk (y.i 30) (y.i 31) (y.i 32) (y.i 33) (y.i 34) (y.i 35) (y.i 36) (y.i 37)=V8.mk (z.i 30) (z.i 31) (z.i 32) (z.i 33) (z.i 34) (z.i 35) (z.i 36) (z.i 37)/\y.i 8=z.i 8/\(y.s 7).length=128/\y.s 7=sT (z.i 8) (z.i 9) (z.i 20) (z.s 7)))))))))))) (.an (0<(z.s 7).length/\vx/\vx/\vx/\vx/\vx/\vx/\vx/\vx/\vx/\vx/\vx/\vx/\vx/\vx/\vx/\vx/\vx/\vx/\vx/\vx/\vx/\vx/\vx/\vx/\vx/\vx/\vx/\vx/\vx/\vx/\vx/\vx/\0<(z.g 2).length/\True) (.at (z.g 2=KG/\V8.mk (z.i 30) (z.i 31) (z.i 32) (z.i 33) (z.i 34) (z.i 35) (z.i 36) (z.i 37)=V8.mk (z.i 30) (z.i 31) (z.i 32) (z.i 33) (z.i 34) (z.i 35) (z.i 36) (z.i 37)/\z.i 8=z.i 8/\(z.s 7).length=128/\z.s 7=sT (z.i 8) (z.i 9) (z.i 20) (z.s 7)))))) by
 dsimp only [MG,v8] at hA;have:=@Jn (z.i 8) (z.i 9) (z.i 20) (z.s 7);have:=@My (z.i 8) (z.i 9) (z.i 20) (z.s 7);have e5:KG.length=64:=rfl;conv=>zeta
 repeat' with_reducible first|intro _|apply bV|apply bW|apply bX|apply cy|apply cj
 all_goals first|omega|rfl|grind [ao,am,ak,List.append_assoc,List.length_append,List.length_cons,List.length_nil,List.append_cancel_left_eq,List.cons.injEq]
abbrev UV:=V8.mk 1779033703 3144134277 1013904242 2773480762 1359893119 2600822924 528734635 1541459225
def qh:bn 31 WL:=bA 8 14569 (ai MM eN) (aF (ptm:=[]) RN (aF (ptm:=[]) RO lN)) λz hA=>show Fm.den (let vx:=(0:Int)=0;let zw:=(0:Int)<=0;let vxn:=Int.toNat 0;let v0:=(eD (z.s 1));let v1:=(Int.toNat 128);let v2:=(zw/\(0:Int)<=128/\(128:Int)<=128);let v3:=(ic);(.an (64=64/bq (cK 9)) (.cl ((vx/\vx/\vx/\vx/\vx/\vx/\vx/\vx/\vx/\vx/\vx/\vx/\vx/\vx/\vx/\vx/\vx/\vx/\vx/\vx/\vx/\vx/\vx/\vx/\vx/\vx/\vx/\vx/\vx/\vx/\vx/\vx/\0<64/\True)) ([G.node [G.int 1116352408],G.node [G.int 1899447441],G.node [G.int 3049323471],G.node [G.int 3921009573],G.node [G.int 961987163],G.node [G.int 1508970993],G.node [G.int 2453635748],G.node [G.int 2870763221],G.node [G.int 3624381080],G.node [G.int 310598401],G.node [G.int 607225278],G.node [G.int 1426881987],G.node [G.int 1925078388],G.node [G.int 2162078206],G.node [G.int 2614888103],G.node [G.int 3248222580],G.node [G.int 3835390401],G.node [G.int 4022224774],G.node [G.int 264347078],G.node [G.int 604807628],G.node [G.int 770255983],G.node [G.int 1249150122],G.node [G.int 1555081692],G.node [G.int 1996064986],G.node [G.int 2554220882],G.node [G.int 2821834349],G.node [G.int 2952996808],G.node [G.int 3210313671],G.node [G.int 3336571891],G.node [G.int 3584528711],G.node [G.int 113926993],G.node [G.int 338241895],G.node [G.int 666307205],G.node [G.int 773529912],G.node [G.int 1294757372],G.node [G.int 1396182291],G.node [G.int 1695183700],G.node [G.int 1986661051],G.node [G.int 2177026350],G.node [G.int 2456956037],G.node [G.int 2730485921],G.node [G.int 2820302411],G.node [G.int 3259730800],G.node [G.int 3345764771],G.node [G.int 3516065817],G.node [G.int 3600352804],G.node [G.int 4094571909],G.node [G.int 275423344],G.node [G.int 430227734],G.node [G.int 506948616],G.node [G.int 659060556],G.node [G.int 883997877],G.node [G.int 958139571],G.node [G.int 1322822218],G.node [G.int 1537002063],G.node [G.int 1747873779],G.node [G.int 1955562222],G.node [G.int 2024104815],G.node [G.int 2227730452],G.node [G.int 2361852424],G.node [G.int 2428436474],G.node [G.int 2756734187],G.node [G.int 3204031479],G.node [G.int 3329325298]]=KG) (λy0=>y0.s 6=z.s 1/\y0.g 2=KG/\V8.mk (y0.i 30) (y0.i 31) (y0.i 32) (y0.i 33) (y0.i 34) (y0.i 35) (y0.i 36) (y0.i 37)=gA KG (z.s 1) (UV)/\y0.s 5=cf (z.s 1)/\(y0.s 5).length<64) λy0=>(let v4:=(List.take 128 (y0.s 5)++List.drop (y0.s 5).length [vxn,vxn,vxn,vxn,vxn,vxn,vxn,vxn,vxn,vxn,vxn,vxn,vxn,vxn,vxn,vxn,vxn,vxn,vxn,vxn,vxn,vxn,vxn,vxn,vxn,vxn,vxn,vxn,vxn,vxn,vxn,vxn,vxn,vxn,vxn,vxn,vxn,vxn,vxn,vxn,vxn,vxn,vxn,vxn,vxn,vxn,vxn,vxn,vxn,vxn,vxn,vxn,vxn,vxn,vxn,vxn,vxn,vxn,vxn,vxn,vxn,vxn,vxn,vxn,vxn,vxn,vxn,vxn,vxn,vxn,vxn,vxn,vxn,vxn,vxn,vxn,vxn,vxn,vxn,vxn,vxn,vxn,vxn,vxn,vxn,vxn,vxn,vxn,vxn,vxn,vxn,vxn,vxn,vxn,vxn,vxn,vxn,vxn,vxn,vxn,vxn,vxn,vxn,vxn,vxn,vxn,vxn,vxn,vxn,vxn,vxn,vxn,vxn,vxn,vxn,vxn,vxn,vxn,vxn,vxn,vxn,vxn,vxn,vxn,vxn,vxn,vxn,vxn]);let v5:=(↑(Min.min (y0.s 5).length 128):Int);let v7:=((↑(y0.s 6).length:Int)%18446744073709551616 * 8%18446744073709551616);let v8:=(v4.set v5.toNat v1);let v6:=((0<v8.length/\vx/\vx/\vx/\vx/\vx/\vx/\vx/\vx/\vx/\vx/\vx/\vx/\vx/\vx/\vx/\vx/\vx/\vx/\vx/\vx/\vx/\vx/\vx/\vx/\vx/\vx/\vx/\vx/\vx/\vx/\vx/\vx/\0<(y0.g 2).length/\True));(.an (zw/\zw/\zw/\zw/\zw/\zw/\zw/\zw/\zw/\zw/\zw/\zw/\zw/\zw/\zw/\zw/\zw/\zw/\zw/\zw/\zw/\zw/\zw/\zw/\zw/\zw/\zw/\zw/\zw/\zw/\zw/\zw/\zw/\zw/\zw/\zw/\zw/\zw/\zw/\zw/\zw/\zw/\zw/\zw/\zw/\zw/\zw/\zw/\zw/\zw/\zw/\zw/\zw/\zw/\zw/\zw/\zw/\zw/\zw/\zw/\zw/\zw/\zw/\zw/\zw/\zw/\zw/\zw/\zw/\zw/\zw/\zw/\zw/\zw/\zw/\zw/\zw/\zw/\zw/\zw/\zw/\zw/\zw/\zw/\zw/\zw/\zw/\zw/\zw/\zw/\zw/\zw/\zw/\zw/\zw/\zw/\zw/\zw/\zw/\zw/\zw/\zw/\zw/\zw/\zw/\zw/\zw/\zw/\zw/\zw/\zw/\zw/\zw/\zw/\zw/\zw/\zw/\zw/\zw/\zw/\zw/\zw/\zw/\zw/\zw/\zw/\zw/\zw/\True) (.an (128=128) (.an (128=128) (.an (0<=v5/\v5<128) (.an (0<(List.take 128 (y0.s 5)++List.drop (y0.s 5).length [Int.toNat 0,vxn,vxn,vxn,vxn,vxn,vxn,vxn,vxn,vxn,vxn,vxn,vxn,vxn,vxn,vxn,vxn,vxn,vxn,vxn,vxn,vxn,vxn,vxn,vxn,vxn,vxn,vxn,vxn,vxn,vxn,vxn,vxn,vxn,vxn,vxn,vxn,vxn,vxn,vxn,vxn,vxn,vxn,vxn,vxn,vxn,vxn,vxn,vxn,vxn,vxn,vxn,vxn,vxn,vxn,vxn,vxn,vxn,vxn,vxn,vxn,vxn,vxn,vxn,vxn,vxn,vxn,vxn,vxn,vxn,vxn,vxn,vxn,vxn,vxn,vxn,vxn,vxn,vxn,vxn,vxn,vxn,vxn,vxn,vxn,vxn,vxn,vxn,vxn,vxn,vxn,vxn,vxn,vxn,vxn,vxn,vxn,vxn,vxn,vxn,vxn,vxn,vxn,vxn,vxn,vxn,vxn,vxn,vxn,vxn,vxn,vxn,vxn,vxn,vxn,vxn,vxn,vxn,vxn,vxn,vxn,vxn,vxn,vxn,vxn,vxn,vxn,vxn]).length) (.an (v5.toNat<v4.length/\(0:Int)<=128) (.two (56<=v5) (.cl v6 (y0.g 2=KG/\v8.length=128/\((128:Int)=64∨(128:Int)=128)/\zw/\(0:Int)<=8) (λy1=>y1.g 2=KG/\V8.mk (y1.i 30) (y1.i 31) (y1.i 32) (y1.i 33) (y1.i 34) (y1.i 35) (y1.i 36) (y1.i 37)=V8.mk (y0.i 30) (y0.i 31) (y0.i 32) (y0.i 33) (y0.i 34) (y0.i 35) (y0.i 36) (y0.i 37)/\y1.i 8=128/\(y1.s 7).length=128/\y1.s 7=sT 128 v7 0 v8) λy1=>(let v9:=(List.take v1 (y1.s 7));let v10:=(List.drop (Int.toNat 64) v9);(.an (0<y1.i 8) (.an ((y1.s 7).length=128) (.an v2 (RM (sW (y1.g 2)) (List.drop v3 v9) (y1.g 2) (V8.mk (y1.i 30) (y1.i 31) (y1.i 32) (y1.i 33) (y1.i 34) (y1.i 35) (y1.i 36) (y1.i 37)) λy2=>(.an (64<y1.i 8) (.an ((y1.s 7).length=128) (.an ((0:Int)<=64/\(64:Int)<=128/\(128:Int)<=128) (RM (sW (y2.g 2)) v10 (y2.g 2) (V8.mk (y2.i 30) (y2.i 31) (y2.i 32) (y2.i 33) (y2.i 34) (y2.i 35) (y2.i 36) (y2.i 37)) λy3=>(.an (¬(128<y1.i 8)) (.an (y3.i 37%256=hb v0 (nat_lit 31)/\y3.i 37/256%256=hb v0 (nat_lit 30)/\y3.i 37/65536%256=hb v0 (nat_lit 29)/\y3.i 37/16777216%256=hb v0 (nat_lit 28)/\y3.i 36%256=hb v0 (nat_lit 27)/\y3.i 36/256%256=hb v0 (nat_lit 26)/\y3.i 36/65536%256=hb v0 (nat_lit 25)/\y3.i 36/16777216%256=hb v0 (nat_lit 24)/\y3.i 35%256=hb v0 (nat_lit 23)/\y3.i 35/256%256=hb v0 (nat_lit 22)/\y3.i 35/65536%256=hb v0 (nat_lit 21)/\y3.i 35/16777216%256=hb v0 (nat_lit 20)/\y3.i 34%256=hb v0 (nat_lit 19)/\y3.i 34/256%256=hb v0 (nat_lit 18)/\y3.i 34/65536%256=hb v0 (nat_lit 17)/\y3.i 34/16777216%256=hb v0 (nat_lit 16)/\y3.i 33%256=hb v0 (nat_lit 15)/\y3.i 33/256%256=hb v0 (nat_lit 14)/\y3.i 33/65536%256=hb v0 (nat_lit 13)/\y3.i 33/16777216%256=hb v0 (nat_lit 12)/\y3.i 32%256=hb v0 (nat_lit 11)/\y3.i 32/256%256=hb v0 (nat_lit 10)/\y3.i 32/65536%256=hb v0 (nat_lit 9)/\y3.i 32/16777216%256=hb v0 (nat_lit 8)/\y3.i 31%256=hb v0 (nat_lit 7)/\y3.i 31/256%256=hb v0 (nat_lit 6)/\y3.i 31/65536%256=hb v0 (nat_lit 5)/\y3.i 31/16777216%256=hb v0 (nat_lit 4)/\y3.i 30%256=hb v0 (nat_lit 3)/\y3.i 30/256%256=hb v0 (nat_lit 2)/\y3.i 30/65536%256=hb v0 (nat_lit 1)/\y3.i 30/16777216%256=hb v0 (nat_lit 0)/\True) (.at (True)))))))))))))) (.cl v6 (y0.g 2=KG/\v8.length=128/\((64:Int)=64∨(64:Int)=128)/\zw/\(0:Int)<=8) (λy1=>y1.g 2=KG/\V8.mk (y1.i 30) (y1.i 31) (y1.i 32) (y1.i 33) (y1.i 34) (y1.i 35) (y1.i 36) (y1.i 37)=V8.mk (y0.i 30) (y0.i 31) (y0.i 32) (y0.i 33) (y0.i 34) (y0.i 35) (y0.i 36) (y0.i 37)/\y1.i 8=64/\(y1.s 7).length=128/\y1.s 7=sT 64 v7 0 v8) λy1=>(let v11:=(List.drop v3 (List.take v1 (y1.s 7)));(.an (0<y1.i 8) (.an ((y1.s 7).length=128) (.an v2 (RM (sW (y1.g 2)) v11 (y1.g 2) (V8.mk (y1.i 30) (y1.i 31) (y1.i 32) (y1.i 33) (y1.i 34) (y1.i 35) (y1.i 36) (y1.i 37)) λy2=>(.an (¬(64<y1.i 8)) (.an (y2.i 37%256=hb v0 (nat_lit 31)/\y2.i 37/256%256=hb v0 (nat_lit 30)/\y2.i 37/65536%256=hb v0 (nat_lit 29)/\y2.i 37/16777216%256=hb v0 (nat_lit 28)/\y2.i 36%256=hb v0 (nat_lit 27)/\y2.i 36/256%256=hb v0 (nat_lit 26)/\y2.i 36/65536%256=hb v0 (nat_lit 25)/\y2.i 36/16777216%256=hb v0 (nat_lit 24)/\y2.i 35%256=hb v0 (nat_lit 23)/\y2.i 35/256%256=hb v0 (nat_lit 22)/\y2.i 35/65536%256=hb v0 (nat_lit 21)/\y2.i 35/16777216%256=hb v0 (nat_lit 20)/\y2.i 34%256=hb v0 (nat_lit 19)/\y2.i 34/256%256=hb v0 (nat_lit 18)/\y2.i 34/65536%256=hb v0 (nat_lit 17)/\y2.i 34/16777216%256=hb v0 (nat_lit 16)/\y2.i 33%256=hb v0 (nat_lit 15)/\y2.i 33/256%256=hb v0 (nat_lit 14)/\y2.i 33/65536%256=hb v0 (nat_lit 13)/\y2.i 33/16777216%256=hb v0 (nat_lit 12)/\y2.i 32%256=hb v0 (nat_lit 11)/\y2.i 32/256%256=hb v0 (nat_lit 10)/\y2.i 32/65536%256=hb v0 (nat_lit 9)/\y2.i 32/16777216%256=hb v0 (nat_lit 8)/\y2.i 31%256=hb v0 (nat_lit 7)/\y2.i 31/256%256=hb v0 (nat_lit 6)/\y2.i 31/65536%256=hb v0 (nat_lit 5)/\y2.i 31/16777216%256=hb v0 (nat_lit 4)/\y2.i 30%256=hb v0 (nat_lit 3)/\y2.i 30/256%256=hb v0 (nat_lit 2)/\y2.i 30/65536%256=hb v0 (nat_lit 1)/\y2.i 30/16777216%256=hb v0 (nat_lit 0)/\True) (.at (True))))))))))))))))))))) by
 dsimp only [WL] at hA;have e5:KG.length=64:=rfl;conv=>zeta
 repeat' with_reducible first|intro _|apply bV|apply bW|apply bX|apply cy|apply cj
 all_goals first|omega|rfl|((repeat' first|exact rfl|exact trivial|exact Int.le_refl _|exact(by decide)|refine And.intro ?_ ?_);done)|(rw[←MA (by assumption) (by assumption) (by assumption) (by assumption) (by assumption)];(repeat' first|exact rfl|exact trivial|refine And.intro ?_ ?_);done)|(rw[←MB (by assumption) (by assumption) (by assumption) (by assumption)];(repeat' first|exact rfl|exact trivial|refine And.intro ?_ ?_);done)|((obtain⟨e7,e8,e9⟩:=WJ (by assumption);unfold ZB at e7;(repeat' first|exact trivial|refine And.intro ?_ ?_) <;> first|exact WK (by assumption)|(simp only [List.length_set,e7,e8] <;> omega)|omega);done)|grind [ao,am,ak,List.append_assoc,List.length_append,List.length_cons,List.length_nil,List.append_cancel_left_eq,List.cons.injEq]
noncomputable section
def z8:List Sh:=List.replicate 8 (.pi .u32 0)
def RP:List BSh:=[.cells 152 QN,.arr 9 154 1,.arr 9 154 2,.cells 152 z8]
def bkT:List (Nat×Sa):=[(2,.c (.p 1)),(3,.c (.p 0)),(6,.c (.p 3)),(7,.c (.p 2))]
def MN(p:Sy):LSpec:=⟨[(2,.c (.p 1)),(3,.c (.p 0)),(6,.c (.p 3)),(7,.c (.p 2)),(1,.c (.vb 3)),(8,.c (.i .i64 20))],RP,λz=>64<=(z.s 3).length/\(z.g 1).length=64/\(z.g 2).length=64/\0<=z.i 20/\z.i 20<=16,λz=>(16-z.i 20).toNat,[⟨.exit 0,bkT,RP⟩],λz y=>v8 y=v8 z/\y.g 1=z.g 1/\(y.g 2).length=64/\y.g 2=xS (z.s 3) (16-z.i 20).toNat (z.i 20) (z.g 2),none,[]⟩
def MO(p:Sy):LSpec:=⟨[(2,.c (.p 1)),(3,.c (.p 0)),(6,.c (.p 3)),(7,.c (.p 2)),(9,.c (.i .i64 8))],RP,λz=>(z.g 1).length=64/\(z.g 2).length=64/\16<=z.i 8/\z.i 8<=64,λz=>(64-z.i 8).toNat,[⟨.exit 2,bkT,RP⟩],λz y=>v8 y=v8 z/\y.g 1=z.g 1/\(y.g 2).length=64/\y.g 2=DB (64-z.i 8).toNat (z.i 8) (z.g 2),none,[]⟩
def UW:List BSh:=[.cells 152 QN,.arr 9 154 1,.arr 9 154 2,.cells 152 z8,.cells 152 ZZ]
def bkT2:List (Nat×Sa):=[(2,.c (.p 1)),(3,.c (.p 0)),(6,.c (.p 3)),(7,.c (.p 2)),(12,.c (.p 4))]
def MP(p:Sy):LSpec:=⟨[(2,.c (.p 1)),(3,.c (.p 0)),(6,.c (.p 3)),(7,.c (.p 2)),(12,.c (.p 4)),(13,.c (.i .i64 77))],UW,λz=>(z.g 1).length=64/\(z.g 2).length=64/\0<=z.i 77/\z.i 77<=64,λz=>(64-z.i 77).toNat,[⟨.exit 4,bkT2,UW⟩],λz y=>v8 y=v8 z/\y.g 1=z.g 1/\FP y=CJ (z.g 1) (z.g 2) (64-z.i 77).toNat (z.i 77) (FP z),none,[]⟩
def Z3:FSpec:=⟨[.ag QN,.c (.vb 1),.c (.p 0)],[.arr 9 154 2],λz=>64<=(z.s 1).length/\(z.g 2).length=64,λz=>.one (.ag (sp8 (py (z.g 2) (z.s 1) (v8 z)))),λz=>[.arr 9 154 2],λz y=>y.g 2=z.g 2,none⟩
end
abbrev MQ(a:Prop)(b c:List G):=a/\a/\a/\a/\a/\a/\a/\a/\0<b.length/\0<c.length/\True
def RQ:bN 78 0 MN:=bM 11 174761 eN lN λp z hA=>show Fm.den (let vx:=(0:Int)=0;let v0:=((z.g 2).set (z.i 20).toNat (sV (IntKind.u32.wrap (Int.ofNat ((aC (cg) (sU (Int.ofNat ((aC (cg) (eL (Int.ofNat ((aC (cg) ((↑((z.s 3).getD (4 * z.i 20).toNat 0):Int)%4294967296 * 16777216%4294967296)).lor (aC (cg) ((↑((z.s 3).getD (4 * z.i 20+1).toNat 0):Int)%4294967296 * 65536%4294967296)))))).lor (aC (cg) ((↑((z.s 3).getD (4 * z.i 20+2).toNat 0):Int)%4294967296 * 256%4294967296)))))).lor (aC (cg) ((↑((z.s 3).getD (4 * z.i 20+3).toNat 0):Int)%4294967296)))))));let v1:=((-9223372036854775808)<=4 * z.i 20/\4 * z.i 20<=9223372036854775807);let v2:=(↑(z.s 3).length:Int);(.two (z.i 20<16) (.an v1 (.an (0<=4 * z.i 20/\4 * z.i 20<v2) (.an v1 (.an ((-9223372036854775808)<=4 * z.i 20+1/\4 * z.i 20+1<=9223372036854775807) (.an (0<=4 * z.i 20+1/\4 * z.i 20+1<v2) (.an v1 (.an ((-9223372036854775808)<=4 * z.i 20+2/\4 * z.i 20+2<=9223372036854775807) (.an (0<=4 * z.i 20+2/\4 * z.i 20+2<v2) (.an v1 (.an ((-9223372036854775808)<=4 * z.i 20+3/\4 * z.i 20+3<=9223372036854775807) (.an (0<=4 * z.i 20+3/\4 * z.i 20+3<v2) (.an (vN (z.i 20)) (.an (mh (z.g 2)) (.an (ux (z.i 20) (z.g 2)) (.an ((-9223372036854775808)<=z.i 20+1/\z.i 20+1<=9223372036854775807) (.an (vx/\vx/\vx/\vx/\vx/\vx/\vx/\vx/\0<v0.length/\0<(z.g 1).length/\True) (.at ((64<=(z.s 3).length/\(z.g 1).length=64/\v0.length=64/\0<=z.i 20+1/\z.i 20+1<=16)/\((16:Int)-(z.i 20+1)).toNat<(16-z.i 20).toNat/\∀(y:Sy),V8.mk (y.i 30) (y.i 31) (y.i 32) (y.i 33) (y.i 34) (y.i 35) (y.i 36) (y.i 37)=V8.mk (z.i 30) (z.i 31) (z.i 32) (z.i 33) (z.i 34) (z.i 35) (z.i 36) (z.i 37)/\y.g 1=z.g 1/\(y.g 2).length=64/\y.g 2=xS (z.s 3) (16-(z.i 20+1)).toNat (z.i 20+1) v0->V8.mk (y.i 30) (y.i 31) (y.i 32) (y.i 33) (y.i 34) (y.i 35) (y.i 36) (y.i 37)=V8.mk (z.i 30) (z.i 31) (z.i 32) (z.i 33) (z.i 34) (z.i 35) (z.i 36) (z.i 37)/\y.g 1=z.g 1/\(y.g 2).length=64/\y.g 2=xS (z.s 3) (16-z.i 20).toNat (z.i 20) (z.g 2))))))))))))))))))) (.an (MQ vx (z.g 2) (z.g 1)) (.at (V8.mk (z.i 30) (z.i 31) (z.i 32) (z.i 33) (z.i 34) (z.i 35) (z.i 36) (z.i 37)=V8.mk (z.i 30) (z.i 31) (z.i 32) (z.i 33) (z.i 34) (z.i 35) (z.i 36) (z.i 37)/\z.g 1=z.g 1/\(z.g 2).length=64/\z.g 2=xS (z.s 3) (16-z.i 20).toNat (z.i 20) (z.g 2)))))) by
 dsimp only [MN,v8] at hA;have e2:=@Be (z.s 3) (z.i 20) (z.g 2);have:=@FM (z.s 3) (z.i 20) (z.g 2);dsimp only [uw,UN,YZ,kY,Mw] at e2;conv=>zeta
 repeat' with_reducible first|intro _|apply bV|apply bW|apply bX|apply cy|apply cj
 all_goals first|omega|grind [ao,am,ak,List.append_assoc,List.length_append,List.length_cons,List.length_nil,List.append_cancel_left_eq,List.cons.injEq,uw]
def RR:bN 78 2 MO:=bM 8 2729 (ai FZ eN) lN λp z hA=>show Fm.den (let vx:=(0:Int)=0;let v0:=((z.g 2).set (z.i 8).toNat (sV ((((gI (aZ (aK (z.g 2) (z.i 8-16)))+IntKind.u32.wrap (Int.ofNat ((aC (cg) (eL (Int.ofNat ((aC (cg) (lU (gI (aZ (aK (z.g 2) (z.i 8-15)))) 7)).xor (aC (cg) (lU (gI (aZ (aK (z.g 2) (z.i 8-15)))) 18)))))).xor (aC (cg) (gI (aZ (aK (z.g 2) (z.i 8-15)))/8)))))%4294967296+gI (aZ (aK (z.g 2) (z.i 8-7))))%4294967296+IntKind.u32.wrap (Int.ofNat ((aC (cg) (eL (Int.ofNat ((aC (cg) (lU (gI (aZ (aK (z.g 2) (z.i 8-2)))) 17)).xor (aC (cg) (lU (gI (aZ (aK (z.g 2) (z.i 8-2)))) 19)))))).xor (aC (cg) (gI (aZ (aK (z.g 2) (z.i 8-2)))/1024)))))%4294967296)));let v1:=(mh (z.g 2));let v2:=((64:Int)-(z.i 8+1));(.two (z.i 8<64) (.an ((-9223372036854775808)<=z.i 8-15/\z.i 8-15<=9223372036854775807) (.an (0<=z.i 8-15/\z.i 8-15<64) (.an v1 (.an (eE (z.i 8-15) (z.g 2)) (.an ((-9223372036854775808)<=z.i 8-2/\z.i 8-2<=9223372036854775807) (.an (0<=z.i 8-2/\z.i 8-2<64) (.an v1 (.an (eE (z.i 8-2) (z.g 2)) (.an ((-9223372036854775808)<=z.i 8-16/\z.i 8-16<=9223372036854775807) (.an (0<=z.i 8-16/\z.i 8-16<64) (.an v1 (.an (eE (z.i 8-16) (z.g 2)) (.ct ((0:Int)<=7) (λy0=>True) λy0=>(.ct ((0:Int)<=18) (λy1=>True) λy1=>(.an ((-9223372036854775808)<=z.i 8-7/\z.i 8-7<=9223372036854775807) (.an (0<=z.i 8-7/\z.i 8-7<64) (.an v1 (.an (eE (z.i 8-7) (z.g 2)) (.ct ((0:Int)<=17) (λy2=>True) λy2=>(.ct ((0:Int)<=19) (λy3=>True) λy3=>(.an (vN (z.i 8)) (.an v1 (.an (ux (z.i 8) (z.g 2)) (.an ((-9223372036854775808)<=z.i 8+1/\z.i 8+1<=9223372036854775807) (.an (vx/\vx/\vx/\vx/\vx/\vx/\vx/\vx/\0<v0.length/\0<(z.g 1).length/\True) (.at (((z.g 1).length=64/\v0.length=64/\16<=z.i 8+1/\z.i 8+1<=64)/\v2.toNat<(64-z.i 8).toNat/\∀(y:Sy),V8.mk (y.i 30) (y.i 31) (y.i 32) (y.i 33) (y.i 34) (y.i 35) (y.i 36) (y.i 37)=V8.mk (z.i 30) (z.i 31) (z.i 32) (z.i 33) (z.i 34) (z.i 35) (z.i 36) (z.i 37)/\y.g 1=z.g 1/\(y.g 2).length=64/\y.g 2=DB v2.toNat (z.i 8+1) v0->V8.mk (y.i 30) (y.i 31) (y.i 32) (y.i 33) (y.i 34) (y.i 35) (y.i 36) (y.i 37)=V8.mk (z.i 30) (z.i 31) (z.i 32) (z.i 33) (z.i 34) (z.i 35) (z.i 36) (z.i 37)/\y.g 1=z.g 1/\(y.g 2).length=64/\y.g 2=DB (64-z.i 8).toNat (z.i 8) (z.g 2)))))))))))))))))))))))))))) (.an (MQ vx (z.g 2) (z.g 1)) (.at (V8.mk (z.i 30) (z.i 31) (z.i 32) (z.i 33) (z.i 34) (z.i 35) (z.i 36) (z.i 37)=V8.mk (z.i 30) (z.i 31) (z.i 32) (z.i 33) (z.i 34) (z.i 35) (z.i 36) (z.i 37)/\z.g 1=z.g 1/\(z.g 2).length=64/\z.g 2=DB (64-z.i 8).toNat (z.i 8) (z.g 2)))))) by dsimp only [MO,v8] at hA;have e2:=@Bf (z.i 8) (z.g 2);have:=@FN (z.i 8) (z.g 2);dsimp only [uw,wNx,uv,cO] at e2;exact Bb
def RS:bN 78 4 MP:=bM 4 9 (ai FZ eN) lN λp z hA=>show Fm.den (let vx:=(0:Int)=0;let v1:=(cg);let v0:=((((z.i 47+IntKind.u32.wrap (Int.ofNat ((aC v1 (eL (Int.ofNat ((aC v1 (lU (z.i 44) 6)).xor (aC v1 (lU (z.i 44) 11)))))).xor (aC v1 (lU (z.i 44) 25)))))%4294967296+IntKind.u32.wrap (Int.ofNat ((aC v1 (eL (Int.ofNat ((aC v1 (z.i 44)).land (aC v1 (z.i 45)))))).xor (aC v1 (sU (Int.ofNat ((aC v1 (eL (Int.ofNat ((aC v1 (RL (-1))).xor (aC v1 (z.i 44)))))).land (aC v1 (z.i 46)))))))))%4294967296+gI (aZ (aK (z.g 1) (z.i 77))))%4294967296+gI (aZ (aK (z.g 2) (z.i 77))));let v2:=(MQ vx (z.g 2) (z.g 1));let v3:=(V8.mk (z.i 40) (z.i 41) (z.i 42) (z.i 43) (z.i 44) (z.i 45) (z.i 46) (z.i 47));let v4:=(vN (z.i 77));let v5:=((64:Int)-(z.i 77+1));(.two (z.i 77<64) (.ct ((0:Int)<=6) (λy0=>True) λy0=>(.ct ((0:Int)<=11) (λy1=>True) λy1=>(.ct ((0:Int)<=25) (λy2=>True) λy2=>(.an v4 (.an (mh (z.g 1)) (.an (eE (z.i 77) (z.g 1)) (.an v4 (.an (mh (z.g 2)) (.an (eE (z.i 77) (z.g 2)) (.ct ((0:Int)<=2) (λy3=>True) λy3=>(.ct ((0:Int)<=13) (λy4=>True) λy4=>(.ct ((0:Int)<=22) (λy5=>True) λy5=>(.an ((-9223372036854775808)<=z.i 77+1/\z.i 77+1<=9223372036854775807) (.an v2 (.at (((z.g 1).length=64/\(z.g 2).length=64/\0<=z.i 77+1/\z.i 77+1<=64)/\v5.toNat<(64-z.i 77).toNat/\∀(y:Sy),V8.mk (y.i 30) (y.i 31) (y.i 32) (y.i 33) (y.i 34) (y.i 35) (y.i 36) (y.i 37)=V8.mk (z.i 30) (z.i 31) (z.i 32) (z.i 33) (z.i 34) (z.i 35) (z.i 36) (z.i 37)/\y.g 1=z.g 1/\V8.mk (y.i 40) (y.i 41) (y.i 42) (y.i 43) (y.i 44) (y.i 45) (y.i 46) (y.i 47)=CJ (z.g 1) (z.g 2) v5.toNat (z.i 77+1) (V8.mk ((v0%4294967296+(IntKind.u32.wrap (Int.ofNat ((aC v1 (eL (Int.ofNat ((aC v1 (lU (z.i 40) 2)).xor (aC v1 (lU (z.i 40) 13)))))).xor (aC v1 (lU (z.i 40) 22))))+IntKind.u32.wrap (Int.ofNat ((aC v1 (sU (Int.ofNat ((aC v1 (eL (Int.ofNat ((aC v1 (z.i 40)).land (aC v1 (z.i 41)))))).xor (aC v1 (eL (Int.ofNat ((aC v1 (z.i 40)).land (aC v1 (z.i 42)))))))))).xor (aC v1 (eL (Int.ofNat ((aC v1 (z.i 41)).land (aC v1 (z.i 42)))))))))%4294967296)%4294967296) (z.i 40) (z.i 41) (z.i 42) ((z.i 43+v0%4294967296)%4294967296) (z.i 44) (z.i 45) (z.i 46))->V8.mk (y.i 30) (y.i 31) (y.i 32) (y.i 33) (y.i 34) (y.i 35) (y.i 36) (y.i 37)=V8.mk (z.i 30) (z.i 31) (z.i 32) (z.i 33) (z.i 34) (z.i 35) (z.i 36) (z.i 37)/\y.g 1=z.g 1/\V8.mk (y.i 40) (y.i 41) (y.i 42) (y.i 43) (y.i 44) (y.i 45) (y.i 46) (y.i 47)=CJ (z.g 1) (z.g 2) (64-z.i 77).toNat (z.i 77) v3)))))))))))))))) (.an v2 (.at (V8.mk (z.i 30) (z.i 31) (z.i 32) (z.i 33) (z.i 34) (z.i 35) (z.i 36) (z.i 37)=V8.mk (z.i 30) (z.i 31) (z.i 32) (z.i 33) (z.i 34) (z.i 35) (z.i 36) (z.i 37)/\z.g 1=z.g 1/\V8.mk (z.i 40) (z.i 41) (z.i 42) (z.i 43) (z.i 44) (z.i 45) (z.i 46) (z.i 47)=CJ (z.g 1) (z.g 2) (64-z.i 77).toNat (z.i 77) v3))))) by dsimp only [MP,v8,FP] at hA;have e2:=@Bg (z.g 1) (z.g 2) (z.i 77) (FP z);have e3:=@FO (z.g 1) (z.g 2) (z.i 77) (FP z);dsimp only [FP,eK,rt,ru,uv,cO,ja,Bd] at e2 e3;exact Bb
def Z4:bn 78 Z3:=bA 1 0 eN (aF (ptm:=[]) RQ (aF (ptm:=[]) RR (aF (ptm:=[]) RS lN))) λz hA=>show Fm.den (let vx:=(0:Int)=0;let vxg:=G.node [G.int 0];let v0:=(py (z.g 2) (z.s 1) (V8.mk (z.i 30) (z.i 31) (z.i 32) (z.i 33) (z.i 34) (z.i 35) (z.i 36) (z.i 37)));(.an (64=64/bq (cK 9)) (Z1 (vx/\vx/\vx/\vx/\vx/\vx/\vx/\vx/\0<64/\0<(z.g 2).length/\True) (z.s 1) (z.g 2) (z.i 30) (z.i 31) (z.i 32) (z.i 33) (z.i 34) (z.i 35) (z.i 36) (z.i 37) ((16:Int)-0) vxg λy0=>(UU (MQ vx (y0.g 2) (y0.g 1)) (y0.g 1) (y0.g 2) (y0.i 30) (y0.i 31) (y0.i 32) (y0.i 33) (y0.i 34) (y0.i 35) (y0.i 36) (y0.i 37) ((64:Int)-16) λy1=>(.cl ((MQ vx (y1.g 2) (y1.g 1))) ((y1.g 1).length=64/\(y1.g 2).length=64/\(0:Int)<=0/\(0:Int)<=64) (λy2=>V8.mk (y2.i 30) (y2.i 31) (y2.i 32) (y2.i 33) (y2.i 34) (y2.i 35) (y2.i 36) (y2.i 37)=V8.mk (y1.i 30) (y1.i 31) (y1.i 32) (y1.i 33) (y1.i 34) (y1.i 35) (y1.i 36) (y1.i 37)/\y2.g 1=y1.g 1/\V8.mk (y2.i 40) (y2.i 41) (y2.i 42) (y2.i 43) (y2.i 44) (y2.i 45) (y2.i 46) (y2.i 47)=CJ (y1.g 1) (y1.g 2) ((64:Int)-0).toNat 0 (V8.mk (y1.i 30) (y1.i 31) (y1.i 32) (y1.i 33) (y1.i 34) (y1.i 35) (y1.i 36) (y1.i 37))) λy2=>(.an (0<(y2.g 1).length/\(y2.i 37+y2.i 47)%4294967296=v0.h/\(y2.i 36+y2.i 46)%4294967296=v0.g/\(y2.i 35+y2.i 45)%4294967296=v0.f/\(y2.i 34+y2.i 44)%4294967296=v0.e/\(y2.i 33+y2.i 43)%4294967296=v0.d/\(y2.i 32+y2.i 42)%4294967296=v0.c/\(y2.i 31+y2.i 41)%4294967296=v0.b/\(y2.i 30+y2.i 40)%4294967296=v0.a/\True) (.at (y2.g 1=z.g 2)))))))) by
 dsimp only [Z3,v8] at hA;conv=>zeta
 repeat' with_reducible first|intro _|apply bV|apply bW|apply bX|apply cy|apply cj
 all_goals first|omega|rfl|((repeat' first|exact rfl|exact trivial|exact Int.le_refl _|exact(by decide)|refine And.intro ?_ ?_);done)|(exact(sQ (by assumption) (by assumption) (by assumption)).1)|(have k:=sQ (by assumption) (by assumption) (by assumption);refine And.intro (by rw[k.1];omega) ?_;rw[←k.2];(repeat' first|exact rfl|exact trivial|refine And.intro ?_ ?_);done)|grind [ao,am,ak,List.append_assoc,List.length_append,List.length_cons,List.length_nil,List.append_cancel_left_eq,List.cons.injEq]
noncomputable section
def vO(l:List Nat):Nat:=(120-l.length%64)%64
def Z5:Nat->List Nat->List Nat
 |0,l=>l
 |k+1,l=>Z5 k (l++ [0])
def Jo(l:List Nat):List Nat:=Z5 (vO l) l
def MS{l:List Nat}(h:(l.length:Int)%64≠56):Jo l=Jo (l++ [0])/\vO l=vO (l++ [0])+1:=by
 have e:vO l=vO (l++ [0])+1:=by unfold vO;rw[aah];simp only [aaL];omega
 refine⟨?_,e⟩;unfold Jo;rw[e];rfl
def RT{l:List Nat}(h:(l.length:Int)%64=56):Jo l=l:=by unfold Jo;rw[show vO l=0 by unfold vO;omega];rfl
def WN(l:List Nat):vO l<=63:=by unfold vO;omega
def itE(d:Int):Nat->Int->List Nat->List Nat
 |0,_,l=>l
 |k+1,i,l=>itE d k (i-1) (l++ [((d/((2 ^ min (8 * i%18446744073709551616).toNat (bo .u64):Nat):Int))%256).toNat])
def nZ(d i:Int)(l:List Nat):List Nat:=itE d (i+1).toNat i l
def Jp{d i:Int}{l:List Nat}(h:0<=i):nZ d i l=nZ d (i-1) (l++ [((d/((2 ^ min (8 * i%18446744073709551616).toNat (bo .u64):Nat):Int))%256).toNat]):=by unfold nZ;rw[show(i+1).toNat=(i-1+1).toNat+1 by omega];rfl
def MT{d i:Int}{l:List Nat}(h:i<0):nZ d i l=l:=by unfold nZ;rw[show(i+1).toNat=0 by omega];rfl
def itB(m:List Nat):Nat->Int->V8->V8
 |0,_,v=>v
 |k+1,i,v=>itB m k (i+64) (py KG ((m.take (i+64).toNat).drop i.toNat) v)
def n_(m:List Nat)(i:Int)(v:V8):V8:=itB m (((m.length:Int)-i+63)/64).toNat i v
def Jq{m:List Nat}{i:Int}{v:V8}(h:i<m.length):n_ m i v=n_ m (i+64) (py KG ((m.take (i+64).toNat).drop i.toNat) v):=by unfold n_;rw[show(((m.length:Int)-i+63)/64).toNat=(((m.length:Int)-(i+64)+63)/64).toNat+1 by omega];rfl
def MU{m:List Nat}{i:Int}{v:V8}(h:(m.length:Int)<=i):n_ m i v=v:=by unfold n_;rw[show(((m.length:Int)-i+63)/64).toNat=0 by omega];rfl
def F1:List BSh:=[.cells 28 z32,.growb 5 7]
def MV(p:Sy):LSpec:=⟨[(0,.c (.vb 6)),(2,.c (.p 0)),(3,.c (.gb 1 7))],F1,λz=>(z.s 7).length+vO (z.s 7)<=900000100,λz=>vO (z.s 7),[⟨.exit 0,[(0,.c (.vb 6)),(2,.c (.p 0)),(3,.c (.gb 1 7))],F1⟩],λz y=>y.s 6=z.s 6/\y.s 7=Jo (z.s 7)/\(y.s 7).length<=900000100/\((y.s 7).length:Int)%64=56,none,[]⟩
def MW(p:Sy):LSpec:=⟨[(2,.c (.p 0)),(3,.c (.gb 1 7)),(4,.c (.i .u64 9)),(5,.c (.i .i64 20))],F1,λz=>0-1<=z.i 20/\z.i 20<=7/\((z.s 7).length:Int)+z.i 20<=900000200,λz=>(z.i 20+1).toNat,[⟨.exit 2,[(2,.c (.p 0)),(3,.c (.gb 1 7))],F1⟩],λz y=>y.s 7=nZ (z.i 9) (z.i 20) (z.s 7)/\((y.s 7).length:Int)=(z.s 7).length+z.i 20+1,none,[]⟩
def MX:List BSh:=[.cells 28 z32,.cells 152 QN,.arr 9 154 2]
def WO(p:Sy):LSpec:=⟨[(2,.c (.p 0)),(3,.c (.vb 7)),(6,.c (.p 1)),(7,.c (.p 2)),(8,.c (.i .i64 8))],MX,λz=>z.g 2=KG/\(z.s 7).length<=900000200/\((z.s 7).length:Int)%64=0/\0<=z.i 8/\z.i 8<=(z.s 7).length/\z.i 8%64=0,λz=>((z.s 7).length-z.i 8).toNat,[⟨.exit 4,[(2,.c (.p 0)),(6,.c (.p 1))],MX⟩],λz y=>v8 y=n_ (z.s 7) (z.i 8) (v8 z),none,[]⟩
def kZ(s:List Nat):V8:=n_ (nZ ((s.length:Int)%18446744073709551616 * 8%18446744073709551616) 7 (Jo (s++ [128]))) 0 V0
def RU{z y0 y1 y2:Sy}{p q:Prop}(h0:y0.s 6=z.s 1/\y0.s 7=Jo ([]++z.s 1++ [Int.toNat 128])/\p)(h1:y1.s 7=nZ (((y0.s 6).length:Int)%18446744073709551616 * 8%18446744073709551616) 7 (y0.s 7)/\q)(h2:v8 y2=n_ (y1.s 7) 0 V0):v8 y2=kZ (z.s 1):=by rw[h2,h1.1,h0.2.1,h0.1];rfl
def Z6:FSpec:=⟨[.c (.vb 1)],[],λz=>(z.s 1).length<=1000000,λz=>.one (.ag (h32 (kZ (z.s 1)))),λ_=>[],λz y=>True,none⟩
end
abbrev WP(a:List Nat)(b:Prop):=a.length=a.length/\b/\b/\b/\b/\b/\b/\b/\b/\b/\b/\b/\b/\b/\b/\b/\b/\b/\b/\b/\b/\b/\b/\b/\b/\b/\b/\b/\b/\b/\b/\b/\b/\True
abbrev Z7(a b:List Nat)(c:Prop):=a.length=b.length+1/\c/\c/\c/\c/\c/\c/\c/\c/\c/\c/\c/\c/\c/\c/\c/\c/\c/\c/\c/\c/\c/\c/\c/\c/\c/\c/\c/\c/\c/\c/\c/\c/\True
abbrev UX(a:List Nat):=a.length=a.length/\a.length<=1000000000/\(0:Int)<=0/\True
def RV:bN 33 0 MV:=bM 4 6 eN lN λp z hA=>show Fm.den (let vx:=(0:Int)=0;let v0:=(z.s 7++ [Int.toNat 0]);let v1:=(↑(z.s 7).length:Int);(.an ((64:Int)≠0) (.an (0<=v1/\(0:Int)<64) (.two (v1%64≠56) (.an (UX (z.s 7)) (.an (Z7 v0 (z.s 7) vx) (.at (v0.length+vO v0<=900000100/\vO v0<vO (z.s 7)/\∀(y:Sy),y.s 6=z.s 6/\y.s 7=Jo v0/\(y.s 7).length<=900000100/\(↑(y.s 7).length:Int)%64=56->y.s 6=z.s 6/\y.s 7=Jo (z.s 7)/\(y.s 7).length<=900000100/\(↑(y.s 7).length:Int)%64=56)))) (.an (WP (z.s 7) vx) (.at (z.s 6=z.s 6/\z.s 7=Jo (z.s 7)/\(z.s 7).length<=900000100/\v1%64=56))))))) by dsimp only [MV] at hA;have:=@MS (z.s 7);have:=@RT (z.s 7);exact Bb
def RX:bN 33 2 MW:=bM 5 41 eN lN λp z hA=>show Fm.den (let vx:=(0:Int)=0;let v0:=(z.s 7++ [(z.i 9/(↑(2 ^ Min.min (8 * z.i 20%18446744073709551616).toNat (F0)):Int)%256).toNat]);let v1:=(↑(z.s 7).length:Int);(.two (0<=z.i 20) (.an ((-9223372036854775808)<=8 * z.i 20/\8 * z.i 20<=9223372036854775807) (.an (0<=8 * z.i 20%18446744073709551616) (.an ((z.s 7).length=(z.s 7).length/\(z.s 7).length<=1000000000/\0<=z.i 9/(↑(2 ^ Min.min (8 * z.i 20%18446744073709551616).toNat (F0)):Int)%256/\True) (.an ((-9223372036854775808)<=z.i 20-1/\z.i 20-1<=9223372036854775807) (.an (Z7 v0 (z.s 7) vx) (.at ((0-1<=z.i 20-1/\z.i 20-1<=7/\(↑v0.length:Int)+(z.i 20-1)<=900000200)/\(z.i 20-1+1).toNat<(z.i 20+1).toNat/\∀(y:Sy),y.s 7=nZ (z.i 9) (z.i 20-1) v0/\(↑(y.s 7).length:Int)=(↑v0.length:Int)+(z.i 20-1)+1->y.s 7=nZ (z.i 9) (z.i 20) (z.s 7)/\(↑(y.s 7).length:Int)=v1+z.i 20+1))))))) (.an (WP (z.s 7) vx) (.at (z.s 7=nZ (z.i 9) (z.i 20) (z.s 7)/\v1=v1+z.i 20+1))))) by dsimp only [MW] at hA;have:=@Jp (z.i 9) (z.i 20) (z.s 7);have:=@MT (z.i 9) (z.i 20) (z.s 7);exact Bb
abbrev Z8(a:List G)(b:Prop):=0<a.length/\b/\b/\b/\b/\b/\b/\b/\b/\b/\b/\b/\b/\b/\b/\b/\b/\b/\b/\b/\b/\b/\b/\b/\b/\b/\b/\b/\b/\b/\b/\b/\b/\True
def RY:bN 33 4 WO:=bM 5 41 (ai Z4 eN) lN λp z hA=>show Fm.den (let vx:=(0:Int)=0;let v1:=(V8.mk (z.i 30) (z.i 31) (z.i 32) (z.i 33) (z.i 34) (z.i 35) (z.i 36) (z.i 37));let v2:=((-9223372036854775808)<=z.i 8+64/\z.i 8+64<=9223372036854775807);let v3:=(↑(z.s 7).length:Int);let v4:=(z.i 8+64);let v0:=(py (z.g 2) (List.drop (z.i 8).toNat (List.take v4.toNat (z.s 7))) v1);(.two (z.i 8 < ↑(z.s 7).length) (.an v2 (.an (0<=z.i 8/\z.i 8<=z.i 8+64/\z.i 8+64<= ↑(z.s 7).length) (.cl ((sW (z.g 2))) (64<=(List.drop (z.i 8).toNat (List.take v4.toNat (z.s 7))).length/\(z.g 2).length=64) (λy0=>y0.g 2=z.g 2) λy0=>(.an v2 (.an (Z8 (y0.g 2) vx) (.at ((y0.g 2=KG/\(z.s 7).length<=900000200/\v3%64=0/\0<=z.i 8+64/\z.i 8+64<= ↑(z.s 7).length/\v4%64=0)/\(v3-v4).toNat<(v3-z.i 8).toNat/\∀(y:Sy),V8.mk (y.i 30) (y.i 31) (y.i 32) (y.i 33) (y.i 34) (y.i 35) (y.i 36) (y.i 37)=n_ (z.s 7) v4 (V8.mk v0.a v0.b v0.c v0.d v0.e v0.f v0.g v0.h)->V8.mk (y.i 30) (y.i 31) (y.i 32) (y.i 33) (y.i 34) (y.i 35) (y.i 36) (y.i 37)=n_ (z.s 7) (z.i 8) v1))))))) (.an (Z8 (z.g 2) vx) (.at (V8.mk (z.i 30) (z.i 31) (z.i 32) (z.i 33) (z.i 34) (z.i 35) (z.i 36) (z.i 37)=n_ (z.s 7) (z.i 8) v1))))) by
 have hB:True/\z.g 2=KG/\(z.s 7).length<=900000200/\(↑(z.s 7).length:Int)%64=0/\(0:Int)<=z.i 8/\z.i 8<= ↑(z.s 7).length/\z.i 8%64=0:=⟨trivial,hA⟩
 have e2:=@Jq (z.s 7) (z.i 8) (v8 z);have e3:=@MU (z.s 7) (z.i 8) (v8 z);have e5:KG.length=64:=rfl;dsimp only [v8] at e2 e3;have e6:∀v:V8,v=py (z.g 2) (List.drop (z.i 8).toNat (List.take (z.i 8+64).toNat (z.s 7))) (V8.mk (z.i 30) (z.i 31) (z.i 32) (z.i 33) (z.i 34) (z.i 35) (z.i 36) (z.i 37))->V8.mk v.a v.b v.c v.d v.e v.f v.g v.h=v:=λ_ _=>rfl;have e7:=e6 _ rfl;clear e6;have e8:z.i 8+64<=((z.s 7).length:Int)->0<=z.i 8->(List.drop (z.i 8).toNat (List.take (z.i 8+64).toNat (z.s 7))).length=64:=λ_ _=>by rw[List.length_drop,List.length_take];omega
 have e9:=hB.2.1;rw[e9] at e7;conv=>zeta
 repeat' with_reducible first|intro _|apply bV|apply bW|apply bX|apply cy|apply cj
 all_goals first|omega|(refine And.intro (by grind) (And.intro (by omega) (λy hy=>hy.trans ?_));rw[e2 (by omega),hB.2.1];done)|grind [ao,am,ak,List.append_assoc,List.length_append,List.length_cons,List.length_nil,List.append_cancel_left_eq,List.cons.injEq]
abbrev sX(a:List Nat):=a.length=a.length
abbrev Jr(a:List Nat):=0=0/\0<=1000000000/\a.length<=1000000
def vP:bn 33 Z6:=bA 1 0 eN (aF (ptm:=[]) RV (aF (ptm:=[]) RX (aF (ptm:=[]) RY lN))) λz hA=>show Fm.den (let vx:=(0:Int)=0;let v0:=(kZ (z.s 1));let v1:=([]++z.s 1++ [Int.toNat 128]);(.an (Jr (z.s 1)) (.an (([]++z.s 1).length=0+(z.s 1).length/\0+(z.s 1).length<=1000000000/\(0:Int)<=128/\True) (.cl ((v1.length=0+(z.s 1).length+1/\vx/\vx/\vx/\vx/\vx/\vx/\vx/\vx/\vx/\vx/\vx/\vx/\vx/\vx/\vx/\vx/\vx/\vx/\vx/\vx/\vx/\vx/\vx/\vx/\vx/\vx/\vx/\vx/\vx/\vx/\vx/\vx/\True)) (v1.length+vO v1<=900000100) (λy0=>y0.s 6=z.s 1/\y0.s 7=Jo v1/\(y0.s 7).length<=900000100/\(↑(y0.s 7).length:Int)%64=56) λy0=>(let v2:=(↑(y0.s 7).length:Int);(.cl ((WP (y0.s 7) vx)) ((0:Int)-1<=7/\(7:Int)<=7/\v2+7<=900000200) (λy1=>y1.s 7=nZ ((↑(y0.s 6).length:Int)%18446744073709551616 * 8%18446744073709551616) 7 (y0.s 7)/\(↑(y1.s 7).length:Int)=v2+7+1) λy1=>(let v3:=(↑(y1.s 7).length:Int);(.an (sX (y1.s 7)) (.an (64=64/bq (cK 9)) (.cl ((0<64/\vx/\vx/\vx/\vx/\vx/\vx/\vx/\vx/\vx/\vx/\vx/\vx/\vx/\vx/\vx/\vx/\vx/\vx/\vx/\vx/\vx/\vx/\vx/\vx/\vx/\vx/\vx/\vx/\vx/\vx/\vx/\vx/\True)) ([G.node [G.int 1116352408],G.node [G.int 1899447441],G.node [G.int 3049323471],G.node [G.int 3921009573],G.node [G.int 961987163],G.node [G.int 1508970993],G.node [G.int 2453635748],G.node [G.int 2870763221],G.node [G.int 3624381080],G.node [G.int 310598401],G.node [G.int 607225278],G.node [G.int 1426881987],G.node [G.int 1925078388],G.node [G.int 2162078206],G.node [G.int 2614888103],G.node [G.int 3248222580],G.node [G.int 3835390401],G.node [G.int 4022224774],G.node [G.int 264347078],G.node [G.int 604807628],G.node [G.int 770255983],G.node [G.int 1249150122],G.node [G.int 1555081692],G.node [G.int 1996064986],G.node [G.int 2554220882],G.node [G.int 2821834349],G.node [G.int 2952996808],G.node [G.int 3210313671],G.node [G.int 3336571891],G.node [G.int 3584528711],G.node [G.int 113926993],G.node [G.int 338241895],G.node [G.int 666307205],G.node [G.int 773529912],G.node [G.int 1294757372],G.node [G.int 1396182291],G.node [G.int 1695183700],G.node [G.int 1986661051],G.node [G.int 2177026350],G.node [G.int 2456956037],G.node [G.int 2730485921],G.node [G.int 2820302411],G.node [G.int 3259730800],G.node [G.int 3345764771],G.node [G.int 3516065817],G.node [G.int 3600352804],G.node [G.int 4094571909],G.node [G.int 275423344],G.node [G.int 430227734],G.node [G.int 506948616],G.node [G.int 659060556],G.node [G.int 883997877],G.node [G.int 958139571],G.node [G.int 1322822218],G.node [G.int 1537002063],G.node [G.int 1747873779],G.node [G.int 1955562222],G.node [G.int 2024104815],G.node [G.int 2227730452],G.node [G.int 2361852424],G.node [G.int 2428436474],G.node [G.int 2756734187],G.node [G.int 3204031479],G.node [G.int 3329325298]]=KG/\(y1.s 7).length<=900000200/\v3%64=0/\(0:Int)<=0/\0<=v3/\(0:Int)%64=0) (λy2=>V8.mk (y2.i 30) (y2.i 31) (y2.i 32) (y2.i 33) (y2.i 34) (y2.i 35) (y2.i 36) (y2.i 37)=n_ (y1.s 7) 0 (UV)) λy2=>(.an (y2.i 37/1%256=hb v0 (nat_lit 31)/\y2.i 37/256%256=hb v0 (nat_lit 30)/\y2.i 37/65536%256=hb v0 (nat_lit 29)/\y2.i 37/16777216%256=hb v0 (nat_lit 28)/\y2.i 36/1%256=hb v0 (nat_lit 27)/\y2.i 36/256%256=hb v0 (nat_lit 26)/\y2.i 36/65536%256=hb v0 (nat_lit 25)/\y2.i 36/16777216%256=hb v0 (nat_lit 24)/\y2.i 35/1%256=hb v0 (nat_lit 23)/\y2.i 35/256%256=hb v0 (nat_lit 22)/\y2.i 35/65536%256=hb v0 (nat_lit 21)/\y2.i 35/16777216%256=hb v0 (nat_lit 20)/\y2.i 34/1%256=hb v0 (nat_lit 19)/\y2.i 34/256%256=hb v0 (nat_lit 18)/\y2.i 34/65536%256=hb v0 (nat_lit 17)/\y2.i 34/16777216%256=hb v0 (nat_lit 16)/\y2.i 33/1%256=hb v0 (nat_lit 15)/\y2.i 33/256%256=hb v0 (nat_lit 14)/\y2.i 33/65536%256=hb v0 (nat_lit 13)/\y2.i 33/16777216%256=hb v0 (nat_lit 12)/\y2.i 32/1%256=hb v0 (nat_lit 11)/\y2.i 32/256%256=hb v0 (nat_lit 10)/\y2.i 32/65536%256=hb v0 (nat_lit 9)/\y2.i 32/16777216%256=hb v0 (nat_lit 8)/\y2.i 31/1%256=hb v0 (nat_lit 7)/\y2.i 31/256%256=hb v0 (nat_lit 6)/\y2.i 31/65536%256=hb v0 (nat_lit 5)/\y2.i 31/16777216%256=hb v0 (nat_lit 4)/\y2.i 30/1%256=hb v0 (nat_lit 3)/\y2.i 30/256%256=hb v0 (nat_lit 2)/\y2.i 30/65536%256=hb v0 (nat_lit 1)/\y2.i 30/16777216%256=hb v0 (nat_lit 0)/\True) (.at (True))))))))))))) by
 dsimp only [Z6] at hA;have:=@WN;have e5:KG.length=64:=rfl;conv=>zeta
 repeat' with_reducible first|intro _|apply bV|apply bW|apply bX|apply cy|apply cj
 all_goals first|omega|rfl|(rw[←RU (by assumption) (by assumption) (by assumption)];(repeat' first|exact rfl|exact trivial|refine And.intro ?_ ?_|(rw[Int.ediv_one];exact rfl));done)|((repeat' first|(with_reducible rfl)|exact trivial|refine And.intro ?_ ?_) <;> first|omega|grind [List.length_append,List.length_cons,List.length_nil]|rfl)|grind [ao,am,ak,List.append_assoc,List.length_append,List.length_cons,List.length_nil,List.append_cancel_left_eq,List.cons.injEq]
def oa{s:List Nat}{i:Int}(h0:0<=i)(h:i<64):kY (s.take 64) i=kY s i:=by unfold kY;rw[aag,aar (by omega),aag]
def MY{s:List Nat}{i:Int}(h0:0<=i)(h:i<16):UN (s.take 64) i=UN s i:=by unfold UN;rw[oa (by omega) (by omega),oa (by omega) (by omega),oa (by omega) (by omega),oa (by omega) (by omega)]
def Bh{s:List Nat}:∀(k:Nat) (i:Int) (l:List G),0<=i->i+k=16->xS (s.take 64) k i l=xS s k i l
 |0,_,_,_,_=>rfl
 |k+1,i,l,h0,h=>by show xS (s.take 64) k (i+1) _=xS s k (i+1) _;rw[MY h0 (by omega)];exact Bh k (i+1) _ (by omega) (by omega)
def Bi(k:List G)(s:List Nat)(v:V8):py k (s.take 64) v=py k s v:=by unfold py ZX ZW;rw[Bh 16 0 _ (by decide) (by decide)]
def xT(k:List G){s t:List Nat}(v:V8)(h:s.take 64=t.take 64):py k s v=py k t v:=by rw[←Bi k s,h,Bi]
def MZ{m:List Nat}:∀(k:Nat) (i:Int) (v:V8),0<=i->i+64 * k=m.length->itB m k i v=gA KG (m.drop i.toNat) v
 |0,i,v,h0,h=>by rw[jb (by rw[aao];omega)];rfl
 |k+1,i,v,h0,h=>by
  have e:py KG ((m.take (i+64).toNat).drop i.toNat) v=py KG (m.drop i.toNat) v:=xT KG v (by rw[abs,List.take_take,abp (by omega)]);have e2:m.drop (i+64).toNat=(m.drop i.toNat).drop 64:=by rw[aa1];congr 1;omega
  show itB m k (i+64) _=_;rw[MZ k (i+64) _ (by omega) (by omega),eW (s:=m.drop i.toNat) (by rw[aao];omega),e,e2]
def RZ{m:List Nat}(h:m.length%64=0)(v:V8):n_ m 0 v=gA KG m v:=by unfold n_;rw[MZ _ 0 v (by decide) (by omega)];rfl
def sY{k:List G}:∀(n:Nat) (a b:List Nat) (v:V8),a.length=64 * n->gA k (a++b) v=gA k b (gA k a v)
 |0,a,b,v,h=>by have:a= []:=List.length_eq_zero_iff.1 (by omega);subst this;rw[jb (s:=[]) (by simp)];rfl
 |n+1,a,b,v,h=>by rw[eW (s:=a++b) (by rw[aah];omega),eW (s:=a) (by omega)];have e:py k (a++b) v=py k a v:=xT k v (by rw[abq (by omega)]);rw[e,abB (by omega),sY n (a.drop 64) b _ (by rw[aao];omega)]
def sZ:∀(n:Nat) (s:List Nat),s.length/64=n->∃a,s=a++cf s/\a.length=64 * n/\(cf s).length=s.length-64 * n
 |0,s,h=>⟨[],by rw[sR (by omega)];rfl,rfl,by rw[sR (by omega)];omega⟩
 |n+1,s,h=>by
  have f9:64<=s.length:=by omega
  obtain⟨a,h1,h2,h3⟩:=sZ n (s.drop 64) (by rw[aao];omega);refine⟨s.take 64++a, ?_,by rw[aah,aal,h2];omega,by rw[pz f9,h3,aao];omega⟩;rw[pz f9,aav, ←h1,abb]
def M0:∀(k:Nat) (l:List Nat),Z5 k l=l++List.replicate k 0
 |0,l=>by simp [Z5]
 |k+1,l=>by rw[Z5,M0 k];simp [List.replicate_succ]
def R0(d:Int):List Nat:=[7,6,5,4,3,2,1,0].map λi=>((d/((2 ^ (8 * i):Nat):Int))%256).toNat
def R1(d:Int)(l:List Nat):nZ d 7 l=l++R0 d:=by unfold nZ;show itE d 8 7 l=_;simp only [itE,aav];rfl
def jH{α:Type}(A B:List α)(j:Nat)(x:α):(A++B).set (A.length+j) x=A++B.set j x:=by rw[List.set_append_right _ _ (by omega)];congr 2;omega
def M1(e:Int)(d:Int)(A C:List Nat)(hA:(A.length:Int)+8=e):FQ e d 8 0 (A++(List.replicate 8 0++C))=A++(R0 d++C):=by simp only [FQ];rw[show(e-1-0).toNat=A.length+7 by omega,show(e-1-(0+1)).toNat=A.length+6 by omega,show(e-1-(0+1+1)).toNat=A.length+5 by omega,show(e-1-(0+1+1+1)).toNat=A.length+4 by omega,show(e-1-(0+1+1+1+1)).toNat=A.length+3 by omega,show(e-1-(0+1+1+1+1+1)).toNat=A.length+2 by omega,show(e-1-(0+1+1+1+1+1+1)).toNat=A.length+1 by omega,show(e-1-(0+1+1+1+1+1+1+1)).toNat=A.length+0 by omega];rw[jH,jH,jH,jH,jH,jH,jH,jH];rfl
def vQ{r:List Nat}(h:r.length<64):UO r=r++ [128]++List.replicate (127-r.length) 0:=by unfold UO;rw[abd (by omega),abp (by omega),List.drop_replicate,show 128-r.length=(127-r.length)+1 by omega,List.replicate_succ];have:=jH r (0::List.replicate (127-r.length) 0) 0 128;rw[aas] at this;rw[this];simp
def WQ(s:List Nat):(s.length:Int)%18446744073709551616 * 8%18446744073709551616=CK s:=rfl
theorem eG(s:List Nat):eD s=kZ s:=by
 obtain⟨a,h1,h2,h3⟩:=sZ _ s rfl;have hr:(cf s).length<64:=by omega
 unfold kZ;rw[WQ,R1];unfold Jo;rw[M0];have hB:gA KG s V0=gA KG a V0:=by
  conv=>lhs;rw[h1,sY _ _ _ _ h2]
  exact jb hr
 have hpd:vO (s++ [128])=(119-(cf s).length)%64:=by unfold vO;rw[aah];simp only [aaL];omega
 have hM:s++ [128]++List.replicate (vO (s++ [128])) 0++R0 (CK s)=a++(cf s++ [128]++List.replicate (vO (s++ [128])) 0++R0 (CK s)):=by
  conv=>lhs;rw[aav,aav];lhs;rw[h1]
  simp only [aav]
 have hb8:(R0 (CK s)).length=8:=rfl;rw[RZ (by rw[aah,aah,aah,abx,hb8,hpd,aaL];omega),hM,sY _ _ _ _ h2, ←hB,hpd];unfold eD;rw[abp (by omega),aaR,aaR];generalize gA KG s V0=W;split
 ·rename_i hc;have e1:(119-(cf s).length)%64=119-(cf s).length:=by omega
  have e2:FQ 128 (CK s) 8 0 (UO (cf s))=cf s++ [128]++List.replicate (119-(cf s).length) 0++R0 (CK s):=by rw[vQ hr];have:=M1 128 (CK s) (cf s++ [128]++List.replicate (119-(cf s).length) 0) [] (by simp;omega);rw[aba,aba] at this;rw[←this];rw[aav (cf s++ [128]),abQ,show 119-(cf s).length+8=127-(cf s).length by omega]
  rw[e1,e2];generalize hX:cf s++ [128]++List.replicate (119-(cf s).length) 0++R0 (CK s)=X;have hl:X.length=128:=by rw[←hX];simp [hb8];omega
  rw[abd (by omega),eW (s:=X) (by omega),eW (by rw[aao];omega),jb (by rw[aao,aao];omega)]
 ·rename_i hc;have e1:(119-(cf s).length)%64=55-(cf s).length:=by omega
  have e2:(FQ 64 (CK s) 8 0 (UO (cf s))).take 128=(cf s++ [128]++List.replicate (55-(cf s).length) 0)++(R0 (CK s)++List.replicate 64 0):=by
   rw[vQ hr];have:=M1 64 (CK s) (cf s++ [128]++List.replicate (55-(cf s).length) 0) (List.replicate 64 0) (by simp;omega);rw[←this];rw[abQ,aav (cf s++ [128]),abQ,show 55-(cf s).length+(8+64)=127-(cf s).length by omega,abd];have hl:∀(k:Nat) (i:Int) (l:List Nat),(FQ 64 (CK s) k i l).length=l.length:=by
    intro k
    induction k with
    |zero=>intro i l;rfl
    |succ k ih=>intro i l;rw[FQ,ih,aaY]
   rw[hl];simp;omega
  rw[e1,e2];generalize hX:cf s++ [128]++List.replicate (55-(cf s).length) 0=X;have hl:X.length=56:=by rw[←hX];simp;omega
  rw[eW (s:=X++R0 (CK s)) (by rw[aah,hb8];omega),jb (by rw[aao,aah,hb8];omega)];exact xT KG _ (by rw[←aav,abq (by rw[aah,hb8];omega)])
noncomputable section
def ko(y:Sy)(t:Nat):List Int:=(List.range 32).map λj=>y.i (t+j)
def Js(g:G):List Int:=(List.range 32).map λj=>gI (aa g j)
def hGi(v:V8):List Int:=(List.range 32).map λj=>hb v j
def hZi:List Int:=(List.range 32).map λ_=>0
def hN(l:List Int):G:=.node (l.map .int)
def hT(y:Sy)(t:Nat):G:=.node ((List.range 32).map λj=>.int (y.i (t+j)))
def hX(g:G):G:=.node ((List.range 32).map λj=>.int (gI (aa g j)))
def hG(v:V8):G:=.node ((List.range 32).map λj=>.int (hb v j))
def hZ:G:=.node ((List.range 32).map λ_=>.int 0)
def ob(y:Sy)(t:Nat):hT y t=hN (ko y t):=by unfold hT hN ko;rw[aa4];rfl
def s_(g:G):hX g=hN (Js g):=by unfold hX hN Js;rw[aa4];rfl
def UY(v:V8):hG v=hN (hGi v):=by unfold hG hN hGi;rw[aa4];rfl
def F2:hZ=hN hZi:=rfl
def fH{a b:List Int}(h:hN a=hN b):a=b:=by
 have:∀a b:List Int,a.map G.int=b.map G.int->a=b:=by
  intro a
  induction a with
  |nil=>intro b h;cases b with|nil=>rfl|cons y b=>simp at h
  |cons x a ih=>intro b h;cases b with
   |nil=>simp at h
   |cons y b=>simp at h;rw[h.1,ih b (by simpa using h.2)]
 unfold hN at h;injection h with h;exact this _ _ h
abbrev ta:Prop:=([]:List Nat)= []
abbrev xU:Prop:=([]:List G)= []
def R2(g:G):List Int:=(gL g).map gI
def ky(a b:G):Prop:=R2 a=R2 b
def cd(l:List Int):R2 (hN l)=l:=by unfold R2 hN;show(l.map G.int).map gI=l;rw[aa4];exact List.map_id l
theorem aP{y y':Sy}{t t':Nat}:ky (hT y t) (hT y' t')↔hT y t=hT y' t':=by unfold ky;rw[ob,ob,cd,cd];exact⟨λh=>by rw[h],fH⟩
theorem aQ{y:Sy}{t:Nat}{g:G}:ky (hT y t) (hX g)↔hT y t=hX g:=by unfold ky;rw[ob,s_,cd,cd];exact⟨λh=>by rw[h],fH⟩
theorem aR{y:Sy}{t:Nat}{g:G}:ky (hX g) (hT y t)↔hX g=hT y t:=by unfold ky;rw[ob,s_,cd,cd];exact⟨λh=>by rw[h],fH⟩
theorem aS{g g':G}:ky (hX g) (hX g')↔hX g=hX g':=by unfold ky;rw[s_,s_,cd,cd];exact⟨λh=>by rw[h],fH⟩
theorem aT{y:Sy}{t:Nat}:ky (hT y t) hZ↔hT y t=hZ:=by unfold ky;rw[ob,F2,cd,cd];exact⟨λh=>by rw[h],fH⟩
theorem aU{g:G}:ky (hX g) hZ↔hX g=hZ:=by unfold ky;rw[s_,F2,cd,cd];exact⟨λh=>by rw[h],fH⟩
theorem aV{y:Sy}{t:Nat}:ky hZ (hT y t)↔hZ=hT y t:=by unfold ky;rw[ob,F2,cd,cd];exact⟨λh=>by rw[h],fH⟩
theorem aW{g:G}:ky hZ (hX g)↔hZ=hX g:=by unfold ky;rw[s_,F2,cd,cd];exact⟨λh=>by rw[h],fH⟩
theorem aX:ky hZ hZ:=rfl
def lK(y:Sy)(t:Nat)(j:Nat):Int:=y.i (t+j)
def F3(f g:Nat->Int)(r:Prop):Nat->Prop
 |0=>r
 |n+1=>f n=g n/\F3 f g r n
def fV(f g:Nat->Int)(r:Prop):Prop:=F3 f g r 32
def vR(f g:Nat->Int)(r:Prop):∀n,F3 f g r n↔(∀j,j<n->f j=g j)/\r
 |0=>⟨λh=>⟨λj hj=>by omega,h⟩,λh=>h.2⟩
 |n+1=>by show _/\F3 f g r n↔_;rw[vR f g r n];exact⟨λh=>⟨λj hj=>by by_cases e:j=n;rw[e];exact h.1;exact h.2.1 j (by omega),h.2.2⟩,λh=>⟨h.1 n (by omega),λj hj=>h.1 j (by omega),h.2⟩⟩
theorem az{f:Nat->Int}{r:Prop}:fV f f r↔r:=by unfold fV;rw[vR];exact⟨λh=>h.2,λh=>⟨λ_ _=>rfl,h⟩⟩
def HOk(g:G):Prop:=∃l:List Int,g=hN l/\l.length=32/\∀x∈l,0<=x/\x<256
def Bj{α:Type}{l:List α}(h:l.length=32)(f:Nat->α)(hf:∀j (hj:j<l.length),f j=l[j]):(List.range 32).map f=l:=by refine List.ext_getElem (by simp [h]) λi h1 h2=>?_;rw[abF,List.getElem_range];exact hf i h2
def db{g:G}(h:HOk g):hX g=g:=by
 obtain⟨l,rfl,hl,_⟩:=h;unfold hX hN;rw[Bj (l:=l.map G.int) (by simpa using hl)];intro j hj;have:j<l.length:=by simpa using hj
 simp [aa,gL,gI,this]
def HOk.of_hT{y:Sy}{t:Nat}(h:HOk (hT y t)):∀j,j<32->0<=y.i (t+j)/\y.i (t+j)<256:=by
 obtain⟨l,e,hl,hb⟩:=h;intro j hj;rw[ob] at e;have e:=fH e;have:y.i (t+j)∈l:=by rw[←e];unfold ko;exact List.mem_map.2 ⟨j,List.mem_range.2 hj,rfl⟩
 exact hb _ this
def F4(v:V8):HOk (hG v):=by
 refine⟨hGi v,UY v,by simp [hGi],λx hx=>?_⟩;obtain⟨j,hj,rfl⟩:=List.mem_map.1 hx;have hj:=List.mem_range.1 hj;have key:∀(l:List Int) (j:Nat),(∀x∈l,0<=x/\x<256)->0<=l.getD j 0/\l.getD j 0<256:=λl j h=>by
  rw[aag]
  cases e:l[j]? with
  |none=>exact⟨by decide,by decide⟩
  |some x=>exact h x (abf e)
 have m:∀n:Int,0<=n%256/\n%256<256:=λn=>by omega
 refine key _ _ λx hx=>?_;simp only [List.mem_cons,aaP,or_false] at hx;rcases hx with h|h|h|h|h|h|h|h|h|h|h|h|h|h|h|h|h|h|h|h|h|h|h|h|h|h|h|h|h|h|h|h <;> rw[h] <;> exact m _
theorem dh:HOk hZ:=⟨hZi,rfl,rfl,λx hx=>by obtain⟨j,_,rfl⟩:=List.mem_map.1 hx;decide⟩
def hB(g:G):List Nat:=(gL g).map λx=>(gI x).toNat
def M2{g:G}(h:HOk g):(hB g).length=32:=by obtain⟨l,rfl,hl,_⟩:=h;simp [hB,hN,gL,hl]
def be(s:List Nat):G:=hG (eD (0::s))
def aY(a b:G):G:=hG (eD (1::(hB a++hB b)))
def du(a:G)(s:List Nat):G:=hG (eD (2::(hB a++s)))
def dJ(s:List Nat):G:=hG (eD s)
theorem gB(s:List Nat):HOk (be s):=F4 _
theorem bR(a b:G):HOk (aY a b):=F4 _
theorem jd(a:G)(s:List Nat):HOk (du a s):=F4 _
theorem fW(s:List Nat):HOk (dJ s):=F4 _
def jI(y:Sy)(t:Nat):(ko y t).length=32:=by simp [ko]
def jJ(g:G):(Js g).length=32:=by simp [Js]
def cq(x:Int)(l:List Int):aG (x::l)=x.toNat::aG l:=rfl
def dK(a b:List Int):aG (a++b)=aG a++aG b:=by
 induction a with
 |nil=>rfl
 |cons x a ih=>show _::aG (a++b)=_::(aG a++aG b);rw[ih]
def bQ(l:List Int):(aG l).length=l.length:=by induction l with|nil=>rfl|cons x l ih=>simp [aG,ih]
theorem bv(y:Sy)(t:Nat):aG (ko y t)=hB (hT y t):=rfl
def dn(g:G):aG (Js g)=hB (hX g):=rfl
def cz(y:Sy)(t:Nat):(hB (hT y t)).length=32:=by simp [hB,hT,gL]
def ig(g:G):(hB (hX g)).length=32:=by simp [hB,hX,gL]
def cF(x:Int)(l:List Int):bu (x::l)↔0<=x/\bu l:=Iff.rfl
def dL(a b:List Int):bu (a++b)↔bu a/\bu b:=by
 induction a with
 |nil=>simp [bu]
 |cons x a ih=>show _/\bu (a++b)↔(_/\bu a)/\bu b;rw[ih,and_assoc]
def vS{l:List Int}(h:∀x∈l,0<=x):bu l:=by
 induction l with
 |nil=>trivial
 |cons x l ih=>exact⟨h x aan,ih λy hy=>h y (aaj _ hy)⟩
def aH{y:Sy}{t:Nat}(h:HOk (hT y t)):bu (ko y t):=by obtain⟨l,e,_,hb⟩:=h;rw[ob] at e;rw[fH e];exact vS λx hx=>(hb x hx).1
def dS{g:G}(h:HOk (hX g)):bu (Js g):=by obtain⟨l,e,_,hb⟩:=h;rw[s_] at e;rw[fH e];exact vS λx hx=>(hb x hx).1
def qj(s:List Nat):hG (eD (0::s))=be s:=rfl
def td(a b:G):hG (eD (1::(hB a++hB b)))=aY a b:=rfl
def k_(a:G)(s:List Nat):hG (eD (2::(hB a++s)))=du a s:=rfl
def qy(s:List Nat):hG (eD s)=dJ s:=rfl
def DC:Int.toNat 0=0:=rfl
def DD:Int.toNat 1=1:=rfl
def DE:Int.toNat 2=2:=rfl
def hs(t:Nat):List Sh:=(List.range 32).map λj=>.i .u8 (t+j)
def M3:FSpec:=⟨[.c (.vb 1)],[],λz=>(z.s 1).length<=999999,λz=>.one (.ag (hs 300)),λ_=>[],λz y=>hT y 300=be (z.s 1),none⟩
abbrev WR:=M3
def xV:FSpec:=⟨[.ag (hs 100),.ag (hs 200)],[],λz=>HOk (hT z 100)/\HOk (hT z 200),λz=>.one (.ag (hs 300)),λ_=>[],λz y=>hT y 300=aY (hT z 100) (hT z 200),none⟩
abbrev WS:=xV
def F5:FSpec:=⟨[.ag (hs 100),.c (.vb 1)],[],λz=>HOk (hT z 100)/\(z.s 1).length<=900000,λz=>.one (.ag (hs 300)),λ_=>[],λz y=>hT y 300=du (hT z 100) (z.s 1),none⟩
abbrev R3:=F5
attribute [irreducible] ky fV hB be aY du dJ HOk ko Js hN
end
def fx{p:Prop}(h:p:=by(try conv=>zeta);(repeat' with_reducible first|intro _|apply bV|apply bW|apply bX|apply cy|apply cj);all_goals first|omega|grind [ao,am,ak,aP,aQ,aR,aS,aT,aU,aV,aW,aX,az]):p:=h
def dD{p:Prop}(h:p:=by(try conv=>zeta);(repeat' with_reducible first|intro _|apply bV|apply bW|apply bX|apply cy|apply cj);all_goals first|omega|grind [ao,am,ak,aP,aQ,aR,aS,aT,aU,aV,aW,aX,az,List.append_assoc]):p:=h
end Go.Proofs.YthgjkeemmhcpfaaGreatDoor
