/- Part 9. -/
import Derived.Test.YtknhaomckfianaaGreatDoorProg
import Derived.KernelRfl
import Derived.Test.YtknhaomckfianaaGreatDoorP8
set_option linter.all false
namespace Go.Proofs.YtknhaomckfianaaGreatDoor
open Go.Sym
set_option maxRecDepth 100000
def mV(n:Int):IntKind.u64.wrap n=n%18446744073709551616:=by simp [IntKind.wrap,IntKind.bits,IntKind.signed]
def xF(n:Int):IntKind.u8.wrap n=n%256:=by simp [IntKind.wrap,IntKind.bits,IntKind.signed]
def aG(n:Nat):List Nat:=if n<128 then [n] else(n%128+128)::aG (n/128)
termination_by n
decreasing_by omega
def B_{v:Int}(h:v<128):aG v.toNat= [v.toNat]:=by rw[aG,if_pos (by omega)]
def Om{v:Int}(h:128<=v):aG v.toNat=(v.toNat%128+128)::aG (v/128).toNat:=by rw[aG,if_neg (by omega)];congr 2;omega
def uB:∀(k n:Nat),n<128 ^ k->0<k->(aG n).length<=k:=by
 intro k
 induction k with
 |zero=>intro n _ h;omega
 |succ k ih=>
  intro n h _;rw[aG];split
  ·simp
  ·rename_i hn;have h2:n/128<128 ^ k:=by rw[aaY] at h;exact Nat.div_lt_of_lt_mul (by omega)
   have hk:0<k:=by
    rcases aaR k with e|e
    ·subst e;simp at h;omega
    ·exact e
   have:=ih _ h2 hk;simp;omega
def bW{v:Int}(h:v<18446744073709551616):(aG v.toNat).length<=10:=by
 refine uB 10 _ ?_ (by decide);have:v.toNat<18446744073709551616:=by omega
 exact Zm this (by decide)
def SK{v:Int}(h0:0<=v)(h:v<256):(Nat.lor (aD 256 v) (aD 256 128):Nat)=v.toNat%128+128:=by
 obtain⟨n,rfl⟩:∃n:Nat,v=n:=⟨v.toNat,by omega⟩
 have hn:n<256:=by omega
 show(n%256) ||| (128%256)=_;have:∀m:Fin 256,(m.1%256) ||| (128%256)=(m.1:Int).toNat%128+128:=by decide
 exact this ⟨n,hn⟩
def PR{v:Int}(h0:0<=v)(h:v<18446744073709551616):(Nat.land (aD 18446744073709551616 v) (aD 18446744073709551616 127):Nat)=v.toNat%128:=by
 obtain⟨n,rfl⟩:∃n:Nat,v=n:=⟨v.toNat,by omega⟩
 show(n%18446744073709551616) &&& (127%18446744073709551616)=_;rw[abc (by omega:n<18446744073709551616)];show n &&& (2 ^ 7-1)=_;rw[abR];rfl
def H9{v:Int}(h0:0<=v)(h:v<256):IntKind.u8.wrap (Int.ofNat ((aD (ai .u8) v).lor (aD (ai .u8) 128)))=v%128+128:=by show IntKind.u8.wrap (Int.ofNat ((aD 256 v).lor (aD 256 128)))=_;rw[SK h0 h,xF];show((v.toNat%128+128:Nat):Int)%256=_;omega
def LX{v:Int}(h0:0<=v)(h:v<18446744073709551616):IntKind.u64.wrap (Int.ofNat ((aD (ai .u64) v).land (aD (ai .u64) 127)))=v%128:=by show IntKind.u64.wrap (Int.ofNat ((aD 18446744073709551616 v).land (aD 18446744073709551616 127)))=_;rw[PR h0 h,mV];show((v.toNat%128:Nat):Int)%18446744073709551616=_;omega
noncomputable section
def lR:FSpec:=⟨[.c (.i .u64 1)],[],λz=>0<=z.i 1/\z.i 1<18446744073709551616,λ_=>.one (.c (.vb 10)),λ_=>[],λz y=>y.s 10=aG (z.i 1).toNat,[]⟩
def ij(p:Sy):LSpec:=⟨[(0,.c (.i .u64 1)),(3,.c (.gb 0 20))],[.growb 5 20],λz=>(0<=z.i 1/\z.i 1<18446744073709551616)/\(z.s 20).length+(aG (z.i 1).toNat).length<=10,λz=>(z.i 1).toNat,[⟨.exit 0,[(0,.c (.i .u64 1)),(3,.c (.gb 0 20))],[.growb 5 20]⟩],λz y=>y.s 20++aG (y.i 1).toNat=z.s 20++aG (z.i 1).toNat/\0<=y.i 1/\y.i 1<128/\(y.s 20).length<=10,[],[]⟩
abbrev sM:=lR
abbrev nG:=ij
end
set_option maxHeartbeats 4000000
abbrev bI:=Ok Tryz.prog
abbrev cH:=SE Tryz.prog
abbrev pZ(a:List Nat):=a.length=a.length/\True
abbrev SL(a:Prop)(b c:Int)(d:List Nat)(e:Int):=a/\b.toNat<c.toNat/\∀(y:Sy),y.s 20++aG (y.i 1).toNat=d++ [e.toNat]++aG b.toNat/\0<=y.i 1/\y.i 1<128/\(y.s 20).length<=10->y.s 20++aG (y.i 1).toNat=d++aG c.toNat/\0<=y.i 1/\y.i 1<128/\(y.s 20).length<=10
abbrev uC(a b:List Nat):=a.length=b.length+1/\True
abbrev lS:=ai .u64
abbrev SM(a:List Nat)(b:Int):=a++aG b.toNat=a++aG b.toNat/\0<=b/\b<128/\a.length<=10
abbrev SN(a:List Nat)(b:Int):=a.length=a.length/\a.length<=1000000000/\(0:Int)<=IntKind.u8.wrap b/\True
def uD:cH 208 0 nG:=cG 3 1 eN lN λp z hA=>show Fm.den (let v0:=(Int.ofNat ((aD (ai .u8) (IntKind.u64.wrap (Int.ofNat ((aD (lS) (z.i 1)).land (aD (lS) 127)))%256)).lor (aD (ai .u8) 128)));let v1:=(IntKind.u8.wrap v0);(.two (128<=z.i 1) (.an (SN (z.s 20) v0) (.an (uC (z.s 20++ [v1.toNat]) (z.s 20)) (.at (SL ((0<=z.i 1/128/\z.i 1/128<18446744073709551616)/\(z.s 20++ [v1.toNat]).length+(aG (z.i 1/128).toNat).length<=10) (z.i 1/128) (z.i 1) (z.s 20) v1)))) (.an (pZ (z.s 20)) (.at (SM (z.s 20) (z.i 1)))))) by dsimp only [nG,ij] at hA;have:=@LX (z.i 1);have:=@H9 (z.i 1%128%256) (by omega) (by omega);have:=@Om (z.i 1);have:=@B_ (z.i 1);exact xH
abbrev EV(a:List Nat)(b:Int):=a.length=a.length/\a.length<=1000000000/\0<=b%256/\True
abbrev SO(a b:Prop)(c:List Nat)(d:Int):=Fm.cl (a) (b/\0+c.length<=10) (λy=>y.s 20++aG (y.i 1).toNat= []++aG d.toNat/\0<=y.i 1/\y.i 1<128/\(y.s 20).length<=10)
abbrev LY(a:Int):=0<=a/\a<18446744073709551616
abbrev Av:=0=0/\True
def p_:bI 208 sM:=cC 1 0 eN (aX (ptm:=[]) uD lN) λz hA=>show Fm.den ((SO (Av) (LY (z.i 1)) (aG (z.i 1).toNat) (z.i 1) λy0=>(.an (EV (y0.s 20) (y0.i 1)) (.an (uC (y0.s 20++ [(y0.i 1%256).toNat]) (y0.s 20)) (.at (y0.s 20++ [(y0.i 1%256).toNat]=aG (z.i 1).toNat)))))) by dsimp only [sM,lR] at hA;have:=@bW (z.i 1);have:=@B_;exact xH
def xI:cH 115 0 ij:=cG 3 1 eN lN λp z hA=>show Fm.den (let v0:=(Int.ofNat ((aD (ai .u8) (z.i 1%256)).lor (aD (ai .u8) 128)));let v1:=(IntKind.u8.wrap v0);(.two (128<=z.i 1) (.an (SN (z.s 20) v0) (.an (uC (z.s 20++ [v1.toNat]) (z.s 20)) (.at (SL ((0<=z.i 1/128/\z.i 1/128<18446744073709551616)/\(z.s 20++ [v1.toNat]).length+(aG (z.i 1/128).toNat).length<=10) (z.i 1/128) (z.i 1) (z.s 20) v1)))) (.an (pZ (z.s 20)) (.at (SM (z.s 20) (z.i 1)))))) by dsimp only [ij] at hA;have:=@H9 (z.i 1%256) (by omega) (by omega);have:=@Om (z.i 1);have:=@B_ (z.i 1);exact xH
def jE:bI 115 lR:=cC 1 0 eN (aX (ptm:=[]) xI lN) λz hA=>show Fm.den ((SO (Av) (LY (z.i 1)) (aG (z.i 1).toNat) (z.i 1) λy0=>(.an (EV (y0.s 20) (y0.i 1)) (.an (uC (y0.s 20++ [(y0.i 1%256).toNat]) (y0.s 20)) (.at (y0.s 20++ [(y0.i 1%256).toNat]=aG (z.i 1).toNat)))))) by dsimp only [lR] at hA;have:=@bW (z.i 1);have:=@B_;exact xH
noncomputable section
abbrev H_:Nat:=ai .u32
def Ia(a b:Int):Int:=IntKind.u32.wrap (.ofNat (Nat.lor (aD H_ a) (aD H_ b)))
def dk(a b:Int):Int:=IntKind.u32.wrap (.ofNat (Nat.xor (aD H_ a) (aD H_ b)))
def lT(a b:Int):Int:=IntKind.u32.wrap (.ofNat (Nat.land (aD H_ a) (aD H_ b)))
def Aw(a:Int):Int:=IntKind.u32.wrap (.ofNat (Nat.xor (aD H_ (if IntKind.u32.signed then -1 else IntKind.u32.max)) (aD H_ a)))
def jS(x n:Int):Int:=Ia (x/((2 ^ min n.toNat (aZ .u32):Nat):Int)) (x * ((2 ^ min ((32-n)%18446744073709551616).toNat (aZ .u32):Nat):Int)%4294967296)
def jT(s:List Nat)(i:Int):Int:=((s.getD i.toNat 0:Nat):Int)
def RY(a b c d:Int):Int:=Ia (Ia (Ia (a%4294967296 * 16777216%4294967296) (b%4294967296 * 65536%4294967296)) (c%4294967296 * 256%4294967296)) (d%4294967296)
def On(s:List Nat)(i:Int):Int:=RY (jT s (4 * i)) (jT s (4 * i+1)) (jT s (4 * i+2)) (jT s (4 * i+3))
def uE(l:List G)(i:Int):Int:=gI (ah (aL l i.toNat) 0)
def rx(x:Int):G:=.node [.int x]
def uF(s:List Nat):Nat->Int->List G->List G
 |0,_,l=>l
 |k+1,i,l=>uF s k (i+1) (l.set i.toNat (rx (On s i)))
def Uy(l:List G)(i:Int):Int:=
 (((uE l (i-16)+dk (dk (jS (uE l (i-15)) 7) (jS (uE l (i-15)) 18)) (uE l (i-15)/8))%4294967296+uE l (i-7))%4294967296+dk (dk (jS (uE l (i-2)) 17) (jS (uE l (i-2)) 19)) (uE l (i-2)/1024))%4294967296
def Ax:Nat->Int->List G->List G
 |0,_,l=>l
 |k+1,i,l=>Ax k (i+1) (l.set i.toNat (rx (Uy l i)))
structure V8 where
 (a b c d e f g h:Int)
def rt(k w:Int)(v:V8):Int:=((((v.h+dk (dk (jS v.e 6) (jS v.e 11)) (jS v.e 25))%4294967296+dk (lT v.e v.f) (lT (Aw v.e) v.g))%4294967296+k)%4294967296+w)%4294967296
def ru(v:V8):Int:=(dk (dk (jS v.a 2) (jS v.a 13)) (jS v.a 22)+dk (dk (lT v.a v.b) (lT v.a v.c)) (lT v.b v.c))%4294967296
def dr(k w:Int)(v:V8):V8:=⟨(rt k w v+ru v)%4294967296,v.a,v.b,v.c,(v.d+rt k w v)%4294967296,v.e,v.f,v.g⟩
def yX(k w:List G):Nat->Int->V8->V8
 |0,_,v=>v
 |n+1,i,v=>yX k w n (i+1) (dr (uE k i) (uE w i) v)
def xJ{s:List Nat}{i:Int}{l:List G}(h:i<16):uF s (16-i).toNat i l=uF s (16-(i+1)).toNat (i+1) (l.set i.toNat (rx (On s i))):=by rw[show(16-i).toNat=(16-(i+1)).toNat+1 by omega];rfl
def Ca{s:List Nat}{i:Int}{l:List G}(h:16<=i):uF s (16-i).toNat i l=l:=by rw[show(16-i).toNat=0 by omega];rfl
def xK{i:Int}{l:List G}(h:i<64):Ax (64-i).toNat i l=Ax (64-(i+1)).toNat (i+1) (l.set i.toNat (rx (Uy l i))):=by rw[show(64-i).toNat=(64-(i+1)).toNat+1 by omega];rfl
def Cb{i:Int}{l:List G}(h:64<=i):Ax (64-i).toNat i l=l:=by rw[show(64-i).toNat=0 by omega];rfl
def xL{k w:List G}{i:Int}{v:V8}(h:i<64):yX k w (64-i).toNat i v=yX k w (64-(i+1)).toNat (i+1) (dr (uE k i) (uE w i) v):=by rw[show(64-i).toNat=(64-(i+1)).toNat+1 by omega];rfl
def Cc{k w:List G}{i:Int}{v:V8}(h:64<=i):yX k w (64-i).toNat i v=v:=by rw[show(64-i).toNat=0 by omega];rfl
def zw(n:Nat):List G:=List.replicate n (rx 0)
def SP(s:List Nat):List G:=Ax 48 16 (uF s 16 0 (zw 64))
def SQ(k:List G)(s:List Nat)(v:V8):V8:=yX k (SP s) 64 0 v
def SR(v u:V8):V8:=⟨(v.a+u.a)%4294967296,(v.b+u.b)%4294967296,(v.c+u.c)%4294967296,(v.d+u.d)%4294967296,(v.e+u.e)%4294967296,(v.f+u.f)%4294967296,(v.g+u.g)%4294967296,(v.h+u.h)%4294967296⟩
def mX(k:List G)(s:List Nat)(v:V8):V8:=SR v (SQ k s v)
abbrev v8(z:Sy):V8:=⟨z.i 30,z.i 31,z.i 32,z.i 33,z.i 34,z.i 35,z.i 36,z.i 37⟩
def K0:List Sh:=[.i .u32 30,.i .u32 31,.i .u32 32,.i .u32 33,.i .u32 34,.i .u32 35,.i .u32 36,.i .u32 37]
abbrev Cd(z:Sy):V8:=⟨z.i 40,z.i 41,z.i 42,z.i 43,z.i 44,z.i 45,z.i 46,z.i 47⟩
def SS:List Sh:=[.i .u32 40,.i .u32 41,.i .u32 42,.i .u32 43,.i .u32 44,.i .u32 45,.i .u32 46,.i .u32 47]
def qa{z y0 y1 y2:Sy}{p q:Prop}(h0:v8 y0=v8 z/\y0.g 1=z.g 2/\p/\y0.g 2=uF (z.s 1) (16-0:Int).toNat 0 [G.node [G.int 0],G.node [G.int 0],G.node [G.int 0],G.node [G.int 0],G.node [G.int 0],G.node [G.int 0],G.node [G.int 0],G.node [G.int 0],G.node [G.int 0],G.node [G.int 0],G.node [G.int 0],G.node [G.int 0],G.node [G.int 0],G.node [G.int 0],G.node [G.int 0],G.node [G.int 0],G.node [G.int 0],G.node [G.int 0],G.node [G.int 0],G.node [G.int 0],G.node [G.int 0],G.node [G.int 0],G.node [G.int 0],G.node [G.int 0],G.node [G.int 0],G.node [G.int 0],G.node [G.int 0],G.node [G.int 0],G.node [G.int 0],G.node [G.int 0],G.node [G.int 0],G.node [G.int 0],G.node [G.int 0],G.node [G.int 0],G.node [G.int 0],G.node [G.int 0],G.node [G.int 0],G.node [G.int 0],G.node [G.int 0],G.node [G.int 0],G.node [G.int 0],G.node [G.int 0],G.node [G.int 0],G.node [G.int 0],G.node [G.int 0],G.node [G.int 0],G.node [G.int 0],G.node [G.int 0],G.node [G.int 0],G.node [G.int 0],G.node [G.int 0],G.node [G.int 0],G.node [G.int 0],G.node [G.int 0],G.node [G.int 0],G.node [G.int 0],G.node [G.int 0],G.node [G.int 0],G.node [G.int 0],G.node [G.int 0],G.node [G.int 0],G.node [G.int 0],G.node [G.int 0],G.node [G.int 0]])(h1:v8 y1=v8 y0/\y1.g 1=y0.g 1/\q/\y1.g 2=Ax (64-16:Int).toNat 16 (y0.g 2))(h2:v8 y2=v8 y1/\y2.g 1=y1.g 1/\Cd y2=yX (y1.g 1) (y1.g 2) (64-0:Int).toNat 0 (v8 y1)):
 y2.g 1=z.g 2/\SR (v8 y2) (Cd y2)=mX (z.g 2) (z.s 1) (v8 z):=by
 obtain⟨a1,a2,_,a3⟩:=h0
 obtain⟨b1,b2,_,b3⟩:=h1
 obtain⟨c1,c2,c3⟩:=h2
 refine⟨by rw[c2,b2,a2], ?_⟩
 rw[c3,c1,b1,a1,b2,a2,b3,a3]
 rfl
def KG:List G:=[.node [.int 1116352408],.node [.int 1899447441],.node [.int 3049323471],.node [.int 3921009573],.node [.int 961987163],.node [.int 1508970993],.node [.int 2453635748],.node [.int 2870763221],.node [.int 3624381080],.node [.int 310598401],.node [.int 607225278],.node [.int 1426881987],.node [.int 1925078388],.node [.int 2162078206],.node [.int 2614888103],.node [.int 3248222580],.node [.int 3835390401],.node [.int 4022224774],.node [.int 264347078],.node [.int 604807628],.node [.int 770255983],.node [.int 1249150122],.node [.int 1555081692],.node [.int 1996064986],.node [.int 2554220882],.node [.int 2821834349],.node [.int 2952996808],.node [.int 3210313671],.node [.int 3336571891],.node [.int 3584528711],.node [.int 113926993],.node [.int 338241895],.node [.int 666307205],.node [.int 773529912],.node [.int 1294757372],.node [.int 1396182291],.node [.int 1695183700],.node [.int 1986661051],.node [.int 2177026350],.node [.int 2456956037],.node [.int 2730485921],.node [.int 2820302411],.node [.int 3259730800],.node [.int 3345764771],.node [.int 3516065817],.node [.int 3600352804],.node [.int 4094571909],.node [.int 275423344],.node [.int 430227734],.node [.int 506948616],.node [.int 659060556],.node [.int 883997877],.node [.int 958139571],.node [.int 1322822218],.node [.int 1537002063],.node [.int 1747873779],.node [.int 1955562222],.node [.int 2024104815],.node [.int 2227730452],.node [.int 2361852424],.node [.int 2428436474],.node [.int 2756734187],.node [.int 3204031479],.node [.int 3329325298]]
def V0:V8:=⟨1779033703,3144134277,1013904242,2773480762,1359893119,2600822924,528734635,1541459225⟩
def ft(k:List G)(s:List Nat)(v:V8):V8:=if 64<=s.length then ft k (s.drop 64) (mX k s v) else v
termination_by s.length
decreasing_by simp;omega
def bG(s:List Nat):List Nat:=if 64<=s.length then bG (s.drop 64) else s
termination_by s.length
decreasing_by simp;omega
def dG{k:List G}{s:List Nat}{v:V8}(h:64<=s.length):ft k s v=ft k (s.drop 64) (mX k s v):=by rw[ft,if_pos h]
def gJ{k:List G}{s:List Nat}{v:V8}(h:s.length<64):ft k s v=v:=by rw[ft,if_neg (by omega)]
def mY{s:List Nat}(h:64<=s.length):bG s=bG (s.drop 64):=by rw[bG,if_pos h]
def qb{s:List Nat}(h:s.length<64):bG s=s:=by rw[bG,if_neg (by omega)]
def Ce(e d:Int):Nat->Int->List Nat->List Nat
 |0,_,l=>l
 |k+1,i,l=>Ce e d k (i+1) (l.set (e-1-i).toNat ((d/((2 ^ min (8 * i).toNat (aZ .u64):Nat):Int))%256).toNat)
def qc(e d i:Int)(l:List Nat):List Nat:=Ce e d (8-i).toNat i l
def Ib{e d i:Int}{l:List Nat}(h:i<8):Ce e d (8-i).toNat i l=Ce e d (8-(i+1)).toNat (i+1) (l.set (e-1-i).toNat ((d/((2 ^ min (8 * i).toNat (aZ .u64):Nat):Int))%256).toNat):=by rw[show(8-i).toNat=(8-(i+1)).toNat+1 by omega];rfl
def LZ{e d i:Int}{l:List Nat}(h:8<=i):Ce e d (8-i).toNat i l=l:=by rw[show(8-i).toNat=0 by omega];rfl
def EW{e d i:Int}{l:List Nat}(h:i<8):qc e d i l=qc e d (i+1) (l.set (e-1-i).toNat ((d/((2 ^ min (8 * i).toNat (aZ .u64):Nat):Int))%256).toNat):=Ib h
def Ic{e d i:Int}{l:List Nat}(h:8<=i):qc e d i l=l:=LZ h
def Oo(r:List Nat):List Nat:=(r.take 128++(List.replicate 128 0).drop r.length).set (min r.length 128) 128
def yY(s:List Nat):Int:=(s.length:Int)%18446744073709551616 * 8%18446744073709551616
def fx(s:List Nat):V8:=
 if 56<=min (bG s).length 128 then mX KG (((Ce 128 (yY s) 8 0 (Oo (bG s))).take 128).drop 64) (mX KG (((Ce 128 (yY s) 8 0 (Oo (bG s))).take 128).drop 0) (ft KG s V0))
 else mX KG (((Ce 64 (yY s) 8 0 (Oo (bG s))).take 128).drop 0) (ft KG s V0)
def ZB:List Nat:=let x:=Int.toNat 0; [x,x,x,x,x,x,x,x,x,x,x,x,x,x,x,x,x,x,x,x,x,x,x,x,x,x,x,x,x,x,x,x,x,x,x,x,x,x,x,x,x,x,x,x,x,x,x,x,x,x,x,x,x,x,x,x,x,x,x,x,x,x,x,x,x,x,x,x,x,x,x,x,x,x,x,x,x,x,x,x,x,x,x,x,x,x,x,x,x,x,x,x,x,x,x,x,x,x,x,x,x,x,x,x,x,x,x,x,x,x,x,x,x,x,x,x,x,x,x,x,x,x,x,x,x,x,x,x]
def Oq:ZB=List.replicate 128 0:=by decide
def PT(r:List Nat)(h:r.length<64):(List.take 128 r++List.drop r.length ZB).length=128:=by rw[Oq];simp;omega
def Id{r:List Nat}:(List.take 128 r++List.drop r.length ZB).set (((min r.length 128:Nat):Int)).toNat (Int.toNat 128)=Oo r:=by rw[Oq];rfl
def PU{z y0:Sy}{p q:Prop}(h0:y0.s 6=z.s 1/\y0.g 2=KG/\p/\q/\(y0.s 5).length<64):(List.take 128 (y0.s 5)++List.drop (y0.s 5).length ZB).length=128/\(y0.g 2).length=64/\(y0.s 5).length<64:=
 ⟨PT _ h0.2.2.2.2,by rw[h0.2.1];rfl,h0.2.2.2.2⟩
def PV{z y0:Sy}{p q:Prop}(h0:y0.s 6=z.s 1/\y0.g 2=KG/\p/\q/\(y0.s 5).length<64):y0.g 2=KG:=h0.2.1
def Ie{z y0 y1 y2 y3:Sy}{p q:Prop}(h0:y0.s 6=z.s 1/\y0.g 2=KG/\v8 y0=ft KG (z.s 1) V0/\y0.s 5=bG (z.s 1)/\(y0.s 5).length<64)(hc:56<=((min (y0.s 5).length 128:Nat):Int))(h1:y1.g 2=KG/\v8 y1=v8 y0/\p/\q/\y1.s 7=qc 128 (((y0.s 6).length:Int)%18446744073709551616 * 8%18446744073709551616) 0 ((List.take 128 (y0.s 5)++List.drop (y0.s 5).length ZB).set (((min (y0.s 5).length 128:Nat):Int)).toNat (Int.toNat 128)))(h2:y2.g 2=y1.g 2/\v8 y2=mX (y1.g 2) (List.drop (Int.toNat 0) (List.take (Int.toNat 128) (y1.s 7))) (v8 y1))(h3:y3.g 2=y2.g 2/\v8 y3=mX (y2.g 2) (List.drop (Int.toNat 64) (List.take (Int.toNat 128) (y1.s 7))) (v8 y2)):v8 y3=fx (z.s 1):=by
 obtain⟨a1,a2,a3,a4,a5⟩:=h0
 obtain⟨b1,b2,_,_,b3⟩:=h1
 rw[Id] at b3
 unfold fx
 rw[←a4,if_pos (by omega),h3.2,h2.1,h2.2,b1,b2,a3,b3,a1]
 rfl
def If{z y0 y1 y2:Sy}{p q:Prop}(h0:y0.s 6=z.s 1/\y0.g 2=KG/\v8 y0=ft KG (z.s 1) V0/\y0.s 5=bG (z.s 1)/\(y0.s 5).length<64)(hc:¬56<=((min (y0.s 5).length 128:Nat):Int))(h1:y1.g 2=KG/\v8 y1=v8 y0/\p/\q/\y1.s 7=qc 64 (((y0.s 6).length:Int)%18446744073709551616 * 8%18446744073709551616) 0 ((List.take 128 (y0.s 5)++List.drop (y0.s 5).length ZB).set (((min (y0.s 5).length 128:Nat):Int)).toNat (Int.toNat 128)))(h2:y2.g 2=y1.g 2/\v8 y2=mX (y1.g 2) (List.drop (Int.toNat 0) (List.take (Int.toNat 128) (y1.s 7))) (v8 y1)):v8 y2=fx (z.s 1):=by
 obtain⟨a1,a2,a3,a4,a5⟩:=h0
 obtain⟨b1,b2,_,_,b3⟩:=h1
 rw[Id] at b3
 unfold fx
 rw[←a4,if_neg (by omega),h2.2,b1,b2,a3,b3,a1]
 rfl
def We(v:V8):List Sh:=[.pi .u32 v.a,.pi .u32 v.b,.pi .u32 v.c,.pi .u32 v.d,.pi .u32 v.e,.pi .u32 v.f,.pi .u32 v.g,.pi .u32 v.h]
def lU{s:List Nat}{i:Int}(j:Int)(h0:0<=i)(h1:0<=j):jT (List.drop (4 * i).toNat (List.take (s.length:Int).toNat s)) j=jT s (4 * i+j):=by unfold jT;rw[aaA,abw,aai,aax,aai];congr 3;omega
def Ig{s:List Nat}{i:Int}(h0:0<=i):RY (jT (List.drop (4 * i).toNat (List.take (s.length:Int).toNat s)) 0) (jT (List.drop (4 * i).toNat (List.take (s.length:Int).toNat s)) 1) (jT (List.drop (4 * i).toNat (List.take (s.length:Int).toNat s)) 2) (jT (List.drop (4 * i).toNat (List.take (s.length:Int).toNat s)) 3)=On s i:=by unfold On;rw[lU 0 h0 (by decide),lU 1 h0 (by decide),lU 2 h0 (by decide),lU 3 h0 (by decide),Int.add_zero]
def hb(v:V8)(j:Nat):Int:=[v.a/16777216%256,v.a/65536%256,v.a/256%256,v.a%256,v.b/16777216%256,v.b/65536%256,v.b/256%256,v.b%256,v.c/16777216%256,v.c/65536%256,v.c/256%256,v.c%256,v.d/16777216%256,v.d/65536%256,v.d/256%256,v.d%256,
 v.e/16777216%256,v.e/65536%256,v.e/256%256,v.e%256,v.f/16777216%256,v.f/65536%256,v.f/256%256,v.f%256,v.g/16777216%256,v.g/65536%256,v.g/256%256,v.g%256,v.h/16777216%256,v.h/65536%256,v.h/256%256,v.h%256].getD j 0
def VK(v:V8):List Sh:=(List.range 32).map λj=>.pi .u8 (hb v j)
def Cf:FSpec:=⟨[.c (.i .u32 1),.c (.i .u64 2)],[],λz=>0<=z.i 2,λz=>.one (.c (.pi .u32 (jS (z.i 1) (z.i 2)))),λ_=>[],λz y=>True,[]⟩
abbrev Ih:=Cf
def Ot:FSpec:=⟨[.c (.vb 1)],[],λz=>4<=(z.s 1).length,λz=>.one (.c (.pi .u32 (RY (jT (z.s 1) 0) (jT (z.s 1) 1) (jT (z.s 1) 2) (jT (z.s 1) 3)))),λ_=>[],λz y=>True,[]⟩
def L0:List BSh:=[.cells 317 K0,.arr 9 283 1,.arr 9 283 2]
def VL:List (Nat×Sa):=[(0,.c (.p 0)),(2,.c (.p 1)),(6,.c (.p 2))]
def Cg(p:Sy):LSpec:=⟨[(0,.c (.p 0)),(2,.c (.p 1)),(6,.c (.p 2)),(1,.c (.vb 3)),(20,.c (.i .i64 20))],L0,λz=>64<=(z.s 3).length/\(z.g 1).length=64/\(z.g 2).length=64/\0<=z.i 20/\z.i 20<=16,λz=>(16-z.i 20).toNat,[⟨.exit 0,VL,L0⟩],λz y=>v8 y=v8 z/\y.g 1=z.g 1/\(y.g 2).length=64/\y.g 2=uF (z.s 3) (16-z.i 20).toNat (z.i 20) (z.g 2),[],[]⟩
def Ch(p:Sy):LSpec:=⟨[(0,.c (.p 0)),(2,.c (.p 1)),(6,.c (.p 2)),(8,.c (.i .i64 8))],L0,λz=>(z.g 1).length=64/\(z.g 2).length=64/\16<=z.i 8/\z.i 8<=64,λz=>(64-z.i 8).toNat,[⟨.exit 2,VL,L0⟩],λz y=>v8 y=v8 z/\y.g 1=z.g 1/\(y.g 2).length=64/\y.g 2=Ax (64-z.i 8).toNat (z.i 8) (z.g 2),[],[]⟩
def Ou:List BSh:=[.cells 317 K0,.arr 9 283 1,.arr 9 283 2,.cells 317 SS]
def Vf:List (Nat×Sa):=[(0,.c (.p 0)),(2,.c (.p 1)),(6,.c (.p 2)),(13,.c (.p 3))]
def Ci(p:Sy):LSpec:=⟨[(0,.c (.p 0)),(2,.c (.p 1)),(6,.c (.p 2)),(13,.c (.p 3)),(77,.c (.i .i64 77))],Ou,λz=>(z.g 1).length=64/\(z.g 2).length=64/\0<=z.i 77/\z.i 77<=64,λz=>(64-z.i 77).toNat,[⟨.exit 4,Vf,Ou⟩],λz y=>v8 y=v8 z/\y.g 1=z.g 1/\Cd y=yX (z.g 1) (z.g 2) (64-z.i 77).toNat (z.i 77) (Cd z),[],[]⟩
def Ov:FSpec:=⟨[.c (.p 0),.c (.vb 1),.c (.p 1)],[.cells 317 K0,.arr 9 283 2],λz=>64<=(z.s 1).length/\(z.g 2).length=64,λz=>.tu [],λz=>[.cells 317 K0,.arr 9 283 2],λz y=>y.g 2=z.g 2/\v8 y=mX (z.g 2) (z.s 1) (v8 z),[]⟩
def z32:List Sh:=List.replicate 32 (.pi .u8 0)
def ST:List BSh:=[.cells 317 K0,.arr 9 283 2,.cells 44 z32]
def VM:List (Nat×Sa):=[(0,.c (.vb 6)),(2,.c (.p 2)),(3,.c (.p 0)),(4,.c (.p 1)),(5,.c (.vb 5))]
def Ii(p:Sy):LSpec:=⟨VM,ST,λz=>z.g 2=KG,λz=>(z.s 5).length,[⟨.exit 0,VM,ST⟩],λz y=>y.s 6=z.s 6/\y.g 2=KG/\v8 y=ft KG (z.s 5) (v8 z)/\y.s 5=bG (z.s 5)/\(y.s 5).length<64,[],[]⟩
def Ow:List BSh:=[.cells 317 K0,.arr 9 283 2,.cells 44 z32,.arb 319 7]
def Ij(p:Sy):LSpec:=⟨[(2,.c (.p 2)),(3,.c (.p 0)),(4,.c (.p 1)),(6,.c (.p 3)),(8,.c (.i .i64 8)),(9,.c (.i .u64 9)),(35,.c (.i .i64 20))],Ow,λz=>z.g 2=KG/\(z.s 7).length=128/\(z.i 8=64∨z.i 8=128)/\0<=z.i 20/\z.i 20<=8,λz=>(8-z.i 20).toNat,[⟨.exit 2,[(2,.c (.p 2)),(3,.c (.p 0)),(4,.c (.p 1)),(6,.c (.p 3)),(8,.c (.i .i64 8))],Ow⟩],λz y=>y.g 2=KG/\v8 y=v8 z/\y.i 8=z.i 8/\(y.s 7).length=128/\y.s 7=qc (z.i 8) (z.i 9) (z.i 20) (z.s 7),[],[]⟩
def SU:FSpec:=⟨[.c (.vb 1)],[],λz=>(z.s 1).length<=1000000000,λz=>.one (.ag (VK (fx (z.s 1)))),λ_=>[],λz y=>True,[]⟩
end
abbrev bM:=ai .u32
abbrev L2:=aZ IntKind.u32
def Cj:bI 257 Ih:=cC 1 0 eN lN λz hA=>show Fm.den ((.an (0<=z.i 2) (.an ((0:Int)<=(32-z.i 2)%18446744073709551616) (.an (IntKind.u32.wrap (Int.ofNat ((aD (bM) (z.i 1/(↑(2 ^ Min.min (z.i 2).toNat (L2)):Int))).lor (aD (bM) (z.i 1 * (↑(2 ^ Min.min ((32-z.i 2)%18446744073709551616).toNat (L2)):Int)%4294967296))))=jS (z.i 1) (z.i 2)/\True) (.at (True)))))) by
 dsimp only [Ih,Cf] at hA;repeat' with_reducible first|intro _|apply d_|apply ed|apply ef|apply eu|apply ew
 all_goals first|omega|(repeat' first|refine And.intro ?_ ?_|intro _) <;> first|omega|rfl|grind [aA,aq,ao]
abbrev dU(a:Int):=IntKind.u32.wrap a
abbrev Ay(a:Int):=IntKind.u32.wrap a
def PW:bI 284 Ot:=cC 1 0 eN lN λz hA=>show Fm.den (let v0:=(bM);let v1:=(↑(z.s 1).length:Int);(.an ((0:Int)<=0/\0<v1) (.an ((0:Int)<=1/\1<v1) (.an ((0:Int)<=2/\2<v1) (.an ((0:Int)<=3/\3<v1) (.an (IntKind.u32.wrap (Int.ofNat ((aD v0 (Ay (Int.ofNat ((aD v0 (dU (Int.ofNat ((aD v0 ((↑((z.s 1).getD (Int.toNat 0) 0):Int)%4294967296 * 16777216%4294967296)).lor (aD v0 ((↑((z.s 1).getD (Int.toNat 1) 0):Int)%4294967296 * 65536%4294967296)))))).lor (aD v0 ((↑((z.s 1).getD (Int.toNat 2) 0):Int)%4294967296 * 256%4294967296)))))).lor (aD v0 ((↑((z.s 1).getD (Int.toNat 3) 0):Int)%4294967296))))=RY (jT (z.s 1) 0) (jT (z.s 1) 1) (jT (z.s 1) 2) (jT (z.s 1) 3)/\True) (.at (True)))))))) by
 dsimp only [Ot] at hA;conv=>zeta
 repeat' with_reducible first|intro _|apply d_|apply ed|apply ef|apply eu|apply ew
 all_goals first|omega|(repeat' first|refine And.intro ?_ ?_|intro _) <;> first|omega|rfl|grind [aA,aq,ao]
abbrev Ik(a b:List G):=0<a.length/\0<b.length/\True
abbrev ry(a:List G):=0<a.length
abbrev sN(a:Int):=0<=a/\a<64
abbrev xM(a:Int)(b:List G):=a.toNat<b.length/\True
def Il:cH 254 0 Cg:=cG 5 41 (ar PW eN) lN λp z hA=>show Fm.den (let v2:=(↑(z.s 3).length:Int);let v0:=(List.drop (4 * z.i 20).toNat (List.take v2.toNat (z.s 3)));let v1:=((z.g 2).set (z.i 20).toNat (G.node [G.int (RY (jT v0 0) (jT v0 1) (jT v0 2) (jT v0 3))]));(.two (z.i 20<16) (.an ((-9223372036854775808)<=4 * z.i 20/\4 * z.i 20<=9223372036854775807) (.an (0<=4 * z.i 20/\4 * z.i 20<=v2/\v2<=v2) (.ct (4<=v0.length) (λy0=>True) λy0=>(.an (sN (z.i 20)) (.an (ry (z.g 2)) (.an (xM (z.i 20) (z.g 2)) (.an ((-9223372036854775808)<=z.i 20+1/\z.i 20+1<=9223372036854775807) (.an (0<v1.length/\0<(z.g 1).length/\True) (.at ((64<=(z.s 3).length/\(z.g 1).length=64/\v1.length=64/\0<=z.i 20+1/\z.i 20+1<=16)/\((16:Int)-(z.i 20+1)).toNat<(16-z.i 20).toNat/\∀(y:Sy),V8.mk (y.i 30) (y.i 31) (y.i 32) (y.i 33) (y.i 34) (y.i 35) (y.i 36) (y.i 37)=V8.mk (z.i 30) (z.i 31) (z.i 32) (z.i 33) (z.i 34) (z.i 35) (z.i 36) (z.i 37)/\y.g 1=z.g 1/\(y.g 2).length=64/\y.g 2=uF (z.s 3) (16-(z.i 20+1)).toNat (z.i 20+1) v1->V8.mk (y.i 30) (y.i 31) (y.i 32) (y.i 33) (y.i 34) (y.i 35) (y.i 36) (y.i 37)=V8.mk (z.i 30) (z.i 31) (z.i 32) (z.i 33) (z.i 34) (z.i 35) (z.i 36) (z.i 37)/\y.g 1=z.g 1/\(y.g 2).length=64/\y.g 2=uF (z.s 3) (16-z.i 20).toNat (z.i 20) (z.g 2))))))))))) (.an (Ik (z.g 2) (z.g 1)) (.at (V8.mk (z.i 30) (z.i 31) (z.i 32) (z.i 33) (z.i 34) (z.i 35) (z.i 36) (z.i 37)=V8.mk (z.i 30) (z.i 31) (z.i 32) (z.i 33) (z.i 34) (z.i 35) (z.i 36) (z.i 37)/\z.g 1=z.g 1/\(z.g 2).length=64/\z.g 2=uF (z.s 3) (16-z.i 20).toNat (z.i 20) (z.g 2)))))) by
 dsimp only [Cg,v8] at hA;have:=@Ig (z.s 3) (z.i 20);have:=@xJ (z.s 3) (z.i 20) (z.g 2);have:=@Ca (z.s 3) (z.i 20) (z.g 2);conv=>zeta
 repeat' with_reducible first|intro _|apply d_|apply ed|apply ef|apply eu|apply ew
 all_goals first|omega|(repeat' first|refine And.intro ?_ ?_|intro _) <;> first|omega|rfl|grind [aA,aq,ao,List.append_assoc,List.length_append,List.length_cons,List.length_nil,List.append_cancel_left_eq,List.cons.injEq,rx]
def Im:bI 285 Cf:=cC 1 0 eN lN λz hA=>show Fm.den ((.an (0<=z.i 2) (.an ((0:Int)<=(32-z.i 2)%18446744073709551616) (.an (IntKind.u32.wrap (Int.ofNat ((aD (bM) (z.i 1/(↑(2 ^ Min.min (z.i 2).toNat (L2)):Int))).lor (aD (bM) (z.i 1 * (↑(2 ^ Min.min ((32-z.i 2)%18446744073709551616).toNat (L2)):Int)%4294967296))))=jS (z.i 1) (z.i 2)/\True) (.at (True)))))) by
 dsimp only [Cf] at hA;repeat' with_reducible first|intro _|apply d_|apply ed|apply ef|apply eu|apply ew
 all_goals first|omega|(repeat' first|refine And.intro ?_ ?_|intro _) <;> first|omega|rfl|grind [aA,aq,ao]
abbrev bx(a:List G)(b:Int):=aL a b.toNat
abbrev gK(a:Int)(b:List G):=a.toNat<b.length
abbrev cw(a:G):=ah a 0
def In:cH 254 2 Ch:=cG 8 2729 (ar Im eN) lN λp z hA=>show Fm.den (let v0:=((z.g 2).set (z.i 8).toNat (G.node [G.int ((((gI (cw (bx (z.g 2) (z.i 8-16)))+IntKind.u32.wrap (Int.ofNat ((aD (bM) (dU (Int.ofNat ((aD (bM) (jS (gI (cw (bx (z.g 2) (z.i 8-15)))) 7)).xor (aD (bM) (jS (gI (cw (bx (z.g 2) (z.i 8-15)))) 18)))))).xor (aD (bM) (gI (cw (bx (z.g 2) (z.i 8-15)))/8)))))%4294967296+gI (cw (bx (z.g 2) (z.i 8-7))))%4294967296+IntKind.u32.wrap (Int.ofNat ((aD (bM) (dU (Int.ofNat ((aD (bM) (jS (gI (cw (bx (z.g 2) (z.i 8-2)))) 17)).xor (aD (bM) (jS (gI (cw (bx (z.g 2) (z.i 8-2)))) 19)))))).xor (aD (bM) (gI (cw (bx (z.g 2) (z.i 8-2)))/1024)))))%4294967296)]));let v1:=(ry (z.g 2));let v2:=((64:Int)-(z.i 8+1));(.two (z.i 8<64) (.an ((-9223372036854775808)<=z.i 8-15/\z.i 8-15<=9223372036854775807) (.an (0<=z.i 8-15/\z.i 8-15<64) (.an v1 (.an (gK (z.i 8-15) (z.g 2)) (.an ((-9223372036854775808)<=z.i 8-2/\z.i 8-2<=9223372036854775807) (.an (0<=z.i 8-2/\z.i 8-2<64) (.an v1 (.an (gK (z.i 8-2) (z.g 2)) (.ct ((0:Int)<=7) (λy0=>True) λy0=>(.ct ((0:Int)<=18) (λy1=>True) λy1=>(.ct ((0:Int)<=17) (λy2=>True) λy2=>(.ct ((0:Int)<=19) (λy3=>True) λy3=>(.an ((-9223372036854775808)<=z.i 8-16/\z.i 8-16<=9223372036854775807) (.an (0<=z.i 8-16/\z.i 8-16<64) (.an v1 (.an (gK (z.i 8-16) (z.g 2)) (.an ((-9223372036854775808)<=z.i 8-7/\z.i 8-7<=9223372036854775807) (.an (0<=z.i 8-7/\z.i 8-7<64) (.an v1 (.an (gK (z.i 8-7) (z.g 2)) (.an (sN (z.i 8)) (.an v1 (.an (xM (z.i 8) (z.g 2)) (.an ((-9223372036854775808)<=z.i 8+1/\z.i 8+1<=9223372036854775807) (.an (0<v0.length/\0<(z.g 1).length/\True) (.at (((z.g 1).length=64/\v0.length=64/\16<=z.i 8+1/\z.i 8+1<=64)/\v2.toNat<(64-z.i 8).toNat/\∀(y:Sy),V8.mk (y.i 30) (y.i 31) (y.i 32) (y.i 33) (y.i 34) (y.i 35) (y.i 36) (y.i 37)=V8.mk (z.i 30) (z.i 31) (z.i 32) (z.i 33) (z.i 34) (z.i 35) (z.i 36) (z.i 37)/\y.g 1=z.g 1/\(y.g 2).length=64/\y.g 2=Ax v2.toNat (z.i 8+1) v0->V8.mk (y.i 30) (y.i 31) (y.i 32) (y.i 33) (y.i 34) (y.i 35) (y.i 36) (y.i 37)=V8.mk (z.i 30) (z.i 31) (z.i 32) (z.i 33) (z.i 34) (z.i 35) (z.i 36) (z.i 37)/\y.g 1=z.g 1/\(y.g 2).length=64/\y.g 2=Ax (64-z.i 8).toNat (z.i 8) (z.g 2)))))))))))))))))))))))))))) (.an (Ik (z.g 2) (z.g 1)) (.at (V8.mk (z.i 30) (z.i 31) (z.i 32) (z.i 33) (z.i 34) (z.i 35) (z.i 36) (z.i 37)=V8.mk (z.i 30) (z.i 31) (z.i 32) (z.i 33) (z.i 34) (z.i 35) (z.i 36) (z.i 37)/\z.g 1=z.g 1/\(z.g 2).length=64/\z.g 2=Ax (64-z.i 8).toNat (z.i 8) (z.g 2)))))) by
 dsimp only [Ch,v8] at hA;have e2:=@xK (z.i 8) (z.g 2);have:=@Cb (z.i 8) (z.g 2);dsimp only [rx,Uy,uE,dk] at e2;conv=>zeta
 repeat' with_reducible first|intro _|apply d_|apply ed|apply ef|apply eu|apply ew
 all_goals first|omega|(repeat' first|refine And.intro ?_ ?_|intro _) <;> first|omega|rfl|grind [aA,aq,ao,List.append_assoc,List.length_append,List.length_cons,List.length_nil,List.append_cancel_left_eq,List.cons.injEq]
abbrev PX(a):=if IntKind.u32.signed=true then a else IntKind.u32.max
def Io:cH 254 4 Ci:=cG 4 9 (ar Im eN) lN λp z hA=>show Fm.den (let v1:=(bM);let v0:=((((z.i 47+IntKind.u32.wrap (Int.ofNat ((aD v1 (dU (Int.ofNat ((aD v1 (jS (z.i 44) 6)).xor (aD v1 (jS (z.i 44) 11)))))).xor (aD v1 (jS (z.i 44) 25)))))%4294967296+IntKind.u32.wrap (Int.ofNat ((aD v1 (dU (Int.ofNat ((aD v1 (z.i 44)).land (aD v1 (z.i 45)))))).xor (aD v1 (Ay (Int.ofNat ((aD v1 (dU (Int.ofNat ((aD v1 (PX (-1))).xor (aD v1 (z.i 44)))))).land (aD v1 (z.i 46)))))))))%4294967296+gI (cw (bx (z.g 1) (z.i 77))))%4294967296+gI (cw (bx (z.g 2) (z.i 77))));let v2:=(V8.mk (z.i 40) (z.i 41) (z.i 42) (z.i 43) (z.i 44) (z.i 45) (z.i 46) (z.i 47));let v3:=(Ik (z.g 2) (z.g 1));let v4:=(sN (z.i 77));let v5:=((64:Int)-(z.i 77+1));(.two (z.i 77<64) (.ct ((0:Int)<=6) (λy0=>True) λy0=>(.ct ((0:Int)<=11) (λy1=>True) λy1=>(.ct ((0:Int)<=25) (λy2=>True) λy2=>(.an v4 (.an (ry (z.g 1)) (.an (gK (z.i 77) (z.g 1)) (.an v4 (.an (ry (z.g 2)) (.an (gK (z.i 77) (z.g 2)) (.ct ((0:Int)<=2) (λy3=>True) λy3=>(.ct ((0:Int)<=13) (λy4=>True) λy4=>(.ct ((0:Int)<=22) (λy5=>True) λy5=>(.an ((-9223372036854775808)<=z.i 77+1/\z.i 77+1<=9223372036854775807) (.an v3 (.at (((z.g 1).length=64/\(z.g 2).length=64/\0<=z.i 77+1/\z.i 77+1<=64)/\v5.toNat<(64-z.i 77).toNat/\∀(y:Sy),V8.mk (y.i 30) (y.i 31) (y.i 32) (y.i 33) (y.i 34) (y.i 35) (y.i 36) (y.i 37)=V8.mk (z.i 30) (z.i 31) (z.i 32) (z.i 33) (z.i 34) (z.i 35) (z.i 36) (z.i 37)/\y.g 1=z.g 1/\V8.mk (y.i 40) (y.i 41) (y.i 42) (y.i 43) (y.i 44) (y.i 45) (y.i 46) (y.i 47)=yX (z.g 1) (z.g 2) v5.toNat (z.i 77+1) (V8.mk ((v0%4294967296+(IntKind.u32.wrap (Int.ofNat ((aD v1 (dU (Int.ofNat ((aD v1 (jS (z.i 40) 2)).xor (aD v1 (jS (z.i 40) 13)))))).xor (aD v1 (jS (z.i 40) 22))))+IntKind.u32.wrap (Int.ofNat ((aD v1 (Ay (Int.ofNat ((aD v1 (dU (Int.ofNat ((aD v1 (z.i 40)).land (aD v1 (z.i 41)))))).xor (aD v1 (dU (Int.ofNat ((aD v1 (z.i 40)).land (aD v1 (z.i 42)))))))))).xor (aD v1 (dU (Int.ofNat ((aD v1 (z.i 41)).land (aD v1 (z.i 42)))))))))%4294967296)%4294967296) (z.i 40) (z.i 41) (z.i 42) ((z.i 43+v0%4294967296)%4294967296) (z.i 44) (z.i 45) (z.i 46))->V8.mk (y.i 30) (y.i 31) (y.i 32) (y.i 33) (y.i 34) (y.i 35) (y.i 36) (y.i 37)=V8.mk (z.i 30) (z.i 31) (z.i 32) (z.i 33) (z.i 34) (z.i 35) (z.i 36) (z.i 37)/\y.g 1=z.g 1/\V8.mk (y.i 40) (y.i 41) (y.i 42) (y.i 43) (y.i 44) (y.i 45) (y.i 46) (y.i 47)=yX (z.g 1) (z.g 2) (64-z.i 77).toNat (z.i 77) v2)))))))))))))))) (.an v3 (.at (V8.mk (z.i 30) (z.i 31) (z.i 32) (z.i 33) (z.i 34) (z.i 35) (z.i 36) (z.i 37)=V8.mk (z.i 30) (z.i 31) (z.i 32) (z.i 33) (z.i 34) (z.i 35) (z.i 36) (z.i 37)/\z.g 1=z.g 1/\V8.mk (z.i 40) (z.i 41) (z.i 42) (z.i 43) (z.i 44) (z.i 45) (z.i 46) (z.i 47)=yX (z.g 1) (z.g 2) (64-z.i 77).toNat (z.i 77) v2))))) by
 dsimp only [Ci,v8,Cd] at hA;have e2:=@xL (z.g 1) (z.g 2) (z.i 77) (Cd z);have e3:=@Cc (z.g 1) (z.g 2) (z.i 77) (Cd z);dsimp only [Cd,dr,rt,ru,uE,dk,lT,Aw] at e2 e3;conv=>zeta
 repeat' with_reducible first|intro _|apply d_|apply ed|apply ef|apply eu|apply ew
 all_goals first|omega|(repeat' first|refine And.intro ?_ ?_|intro _) <;> first|omega|rfl|grind [aA,aq,ao,List.append_assoc,List.length_append,List.length_cons,List.length_nil,List.append_cancel_left_eq,List.cons.injEq]
abbrev SV(a:Prop)(b:List Nat)(c:List G)(d e f g h i j k l:Int)(m:G):=Fm.cl (a) (64<=b.length/\c.length=64/\64=64/\(0:Int)<=0/\(0:Int)<=16) (λy=>V8.mk (y.i 30) (y.i 31) (y.i 32) (y.i 33) (y.i 34) (y.i 35) (y.i 36) (y.i 37)=V8.mk d e f g h i j k/\y.g 1=c/\(y.g 2).length=64/\y.g 2=uF b l.toNat 0 [m,m,m,m,m,m,m,m,m,m,m,m,m,m,m,m,m,m,m,m,m,m,m,m,m,m,m,m,m,m,m,m,m,m,m,m,m,m,m,m,m,m,m,m,m,m,m,m,m,m,m,m,m,m,m,m,m,m,m,m,m,m,m,m])
abbrev SW(a:Prop)(b c:List G)(d e f g h i j k l:Int):=Fm.cl (a) (b.length=64/\c.length=64/\(16:Int)<=16/\(16:Int)<=64) (λy=>V8.mk (y.i 30) (y.i 31) (y.i 32) (y.i 33) (y.i 34) (y.i 35) (y.i 36) (y.i 37)=V8.mk d e f g h i j k/\y.g 1=b/\(y.g 2).length=64/\y.g 2=Ax l.toNat 16 c)
abbrev Az(a:List G):=0<a.length/\True
def Ip:bI 254 Ov:=cC 1 0 eN (aX (ptm:=[]) Il (aX (ptm:=[]) In (aX (ptm:=[]) Io lN))) λz hA=>show Fm.den (let vxg:=G.node [G.int 0];(.an (64=64/aS (bO 9)) (SV (0<64/\0<(z.g 2).length/\True) (z.s 1) (z.g 2) (z.i 30) (z.i 31) (z.i 32) (z.i 33) (z.i 34) (z.i 35) (z.i 36) (z.i 37) ((16:Int)-0) vxg λy0=>(SW (Ik (y0.g 2) (y0.g 1)) (y0.g 1) (y0.g 2) (y0.i 30) (y0.i 31) (y0.i 32) (y0.i 33) (y0.i 34) (y0.i 35) (y0.i 36) (y0.i 37) ((64:Int)-16) λy1=>(.cl ((Ik (y1.g 2) (y1.g 1))) ((y1.g 1).length=64/\(y1.g 2).length=64/\(0:Int)<=0/\(0:Int)<=64) (λy2=>V8.mk (y2.i 30) (y2.i 31) (y2.i 32) (y2.i 33) (y2.i 34) (y2.i 35) (y2.i 36) (y2.i 37)=V8.mk (y1.i 30) (y1.i 31) (y1.i 32) (y1.i 33) (y1.i 34) (y1.i 35) (y1.i 36) (y1.i 37)/\y2.g 1=y1.g 1/\V8.mk (y2.i 40) (y2.i 41) (y2.i 42) (y2.i 43) (y2.i 44) (y2.i 45) (y2.i 46) (y2.i 47)=yX (y1.g 1) (y1.g 2) ((64:Int)-0).toNat 0 (V8.mk (y1.i 30) (y1.i 31) (y1.i 32) (y1.i 33) (y1.i 34) (y1.i 35) (y1.i 36) (y1.i 37))) λy2=>(.an (Az (y2.g 1)) (.at (y2.g 1=z.g 2/\V8.mk ((y2.i 30+y2.i 40)%(4294967296:Int)) ((y2.i 31+y2.i 41)%4294967296) ((y2.i 32+y2.i 42)%4294967296) ((y2.i 33+y2.i 43)%4294967296) ((y2.i 34+y2.i 44)%4294967296) ((y2.i 35+y2.i 45)%4294967296) ((y2.i 36+y2.i 46)%4294967296) ((y2.i 37+y2.i 47)%4294967296)=mX (z.g 2) (z.s 1) (V8.mk (z.i 30) (z.i 31) (z.i 32) (z.i 33) (z.i 34) (z.i 35) (z.i 36) (z.i 37)))))))))) by
 dsimp only [Ov,v8] at hA;conv=>zeta
 repeat' with_reducible first|intro _|apply d_|apply ed|apply ef|apply eu|apply ew
 all_goals first|omega|rfl|(exact qa (by assumption) (by assumption) (by assumption))|grind [aA,aq,ao,List.append_assoc,List.length_append,List.length_cons,List.length_nil,List.append_cancel_left_eq,List.cons.injEq]
abbrev L3(a:Prop)(b:List Nat)(c:List G)(d):=Fm.cl (a) (64<=b.length/\c.length=64) (λy=>y.g 2=c/\V8.mk (y.i 30) (y.i 31) (y.i 32) (y.i 33) (y.i 34) (y.i 35) (y.i 36) (y.i 37)=mX c b d)
abbrev SX(a:Prop)(b:List G):=a/\a/\a/\a/\a/\a/\a/\a/\a/\a/\a/\a/\a/\a/\a/\a/\a/\a/\a/\a/\a/\a/\a/\a/\a/\a/\a/\a/\a/\a/\a/\a/\0<b.length/\True
def L4:cH 204 0 Ii:=cG 3 1 (ar Ip eN) lN λp z hA=>show Fm.den (let vx:=(0:Int)=0;let v0:=(V8.mk (z.i 30) (z.i 31) (z.i 32) (z.i 33) (z.i 34) (z.i 35) (z.i 36) (z.i 37));let v2:=(↑(z.s 5).length:Int);let v1:=(List.drop (Int.toNat 64) (List.take v2.toNat (z.s 5)));(.two (64<=v2) (L3 (Az (z.g 2)) (z.s 5) (z.g 2) v0 λy0=>(.an ((0:Int)<=64/\64<=v2/\v2<=v2) (.an (SX vx (y0.g 2)) (.at (y0.g 2=KG/\v1.length<(z.s 5).length/\∀(y:Sy),y.s 6=z.s 6/\y.g 2=KG/\V8.mk (y.i 30) (y.i 31) (y.i 32) (y.i 33) (y.i 34) (y.i 35) (y.i 36) (y.i 37)=ft KG v1 (V8.mk (y0.i 30) (y0.i 31) (y0.i 32) (y0.i 33) (y0.i 34) (y0.i 35) (y0.i 36) (y0.i 37))/\y.s 5=bG v1/\(y.s 5).length<64->y.s 6=z.s 6/\y.g 2=KG/\V8.mk (y.i 30) (y.i 31) (y.i 32) (y.i 33) (y.i 34) (y.i 35) (y.i 36) (y.i 37)=ft KG (z.s 5) v0/\y.s 5=bG (z.s 5)/\(y.s 5).length<64))))) (.an (SX vx (z.g 2)) (.at (z.s 6=z.s 6/\z.g 2=KG/\V8.mk (z.i 30) (z.i 31) (z.i 32) (z.i 33) (z.i 34) (z.i 35) (z.i 36) (z.i 37)=ft KG (z.s 5) v0/\z.s 5=bG (z.s 5)/\(z.s 5).length<64))))) by
 dsimp only [Ii,v8] at hA;have e1:=@dG KG (z.s 5) (v8 z);have e2:=@gJ KG (z.s 5) (v8 z);have:=@mY (z.s 5);have:=@qb (z.s 5);have e5:KG.length=64:=rfl;dsimp only [v8] at e1 e2;conv=>zeta
 repeat' with_reducible first|intro _|apply d_|apply ed|apply ef|apply eu|apply ew
 all_goals first|omega|rfl|grind [aA,aq,ao,List.append_assoc,List.length_append,List.length_cons,List.length_nil,List.append_cancel_left_eq,List.cons.injEq]
abbrev L5:=aZ IntKind.u64
def L6:cH 204 2 Ij:=cG 7 681 eN lN λp z hA=>show Fm.den (let vx:=(0:Int)=0;let v0:=((z.s 7).set (z.i 8-1-z.i 20).toNat (z.i 9/(↑(2 ^ Min.min (8 * z.i 20).toNat (L5)):Int)%256).toNat);(.two (z.i 20<8) (.an ((-9223372036854775808)<=z.i 8-1/\z.i 8-1<=9223372036854775807) (.an ((-9223372036854775808)<=z.i 8-1-z.i 20/\z.i 8-1-z.i 20<=9223372036854775807) (.an ((-9223372036854775808)<=8 * z.i 20/\8 * z.i 20<=9223372036854775807) (.an (0<=8 * z.i 20) (.an (0<=z.i 8-1-z.i 20/\z.i 8-1-z.i 20<128) (.an (0<(z.s 7).length) (.an ((z.i 8-1-z.i 20).toNat<(z.s 7).length/\0<=z.i 9/(↑(2 ^ Min.min (8 * z.i 20).toNat (L5)):Int)%256) (.an ((-9223372036854775808)<=z.i 20+1/\z.i 20+1<=9223372036854775807) (.an (0<v0.length/\vx/\vx/\vx/\vx/\vx/\vx/\vx/\vx/\vx/\vx/\vx/\vx/\vx/\vx/\vx/\vx/\vx/\vx/\vx/\vx/\vx/\vx/\vx/\vx/\vx/\vx/\vx/\vx/\vx/\vx/\vx/\vx/\0<(z.g 2).length/\True) (.at ((z.g 2=KG/\v0.length=128/\(z.i 8=64∨z.i 8=128)/\0<=z.i 20+1/\z.i 20+1<=8)/\((8:Int)-(z.i 20+1)).toNat<(8-z.i 20).toNat/\∀(y:Sy),y.g 2=KG/\V8.mk (y.i 30) (y.i 31) (y.i 32) (y.i 33) (y.i 34) (y.i 35) (y.i 36) (y.i 37)=V8.mk (z.i 30) (z.i 31) (z.i 32) (z.i 33) (z.i 34) (z.i 35) (z.i 36) (z.i 37)/\y.i 8=z.i 8/\(y.s 7).length=128/\y.s 7=qc (z.i 8) (z.i 9) (z.i 20+1) v0->y.g 2=KG/\V8.mk (y.i 30) (y.i 31) (y.i 32) (y.i 33) (y.i 34) (y.i 35) (y.i 36) (y.i 37)=V8.mk (z.i 30) (z.i 31) (z.i 32) (z.i 33) (z.i 34) (z.i 35) (z.i 36) (z.i 37)/\y.i 8=z.i 8/\(y.s 7).length=128/\y.s 7=qc (z.i 8) (z.i 9) (z.i 20) (z.s 7)))))))))))) (.an (0<(z.s 7).length/\vx/\vx/\vx/\vx/\vx/\vx/\vx/\vx/\vx/\vx/\vx/\vx/\vx/\vx/\vx/\vx/\vx/\vx/\vx/\vx/\vx/\vx/\vx/\vx/\vx/\vx/\vx/\vx/\vx/\vx/\vx/\vx/\0<(z.g 2).length/\True) (.at (z.g 2=KG/\V8.mk (z.i 30) (z.i 31) (z.i 32) (z.i 33) (z.i 34) (z.i 35) (z.i 36) (z.i 37)=V8.mk (z.i 30) (z.i 31) (z.i 32) (z.i 33) (z.i 34) (z.i 35) (z.i 36) (z.i 37)/\z.i 8=z.i 8/\(z.s 7).length=128/\z.s 7=qc (z.i 8) (z.i 9) (z.i 20) (z.s 7)))))) by
 dsimp only [Ij,v8] at hA;have:=@EW (z.i 8) (z.i 9) (z.i 20) (z.s 7);have:=@Ic (z.i 8) (z.i 9) (z.i 20) (z.s 7);have e5:KG.length=64:=rfl;conv=>zeta
 repeat' with_reducible first|intro _|apply d_|apply ed|apply ef|apply eu|apply ew
 all_goals first|omega|rfl|grind [aA,aq,ao,List.append_assoc,List.length_append,List.length_cons,List.length_nil,List.append_cancel_left_eq,List.cons.injEq]
abbrev SY:=V8.mk 1779033703 3144134277 1013904242 2773480762 1359893119 2600822924 528734635 1541459225
def xN:bI 204 SU:=cC 8 14569 (ar Ip eN) (aX (ptm:=[]) L4 (aX (ptm:=[]) L6 lN)) λz hA=>show Fm.den (let vx:=(0:Int)=0;let zw:=(0:Int)<=0;let vxn:=Int.toNat 0;let v0:=(fx (z.s 1));let v1:=(Int.toNat 128);let v2:=(zw/\(0:Int)<=128/\(128:Int)<=128);let v3:=(Int.toNat 0);(.an (64=64/aS (bO 9)) (.cl ((vx/\vx/\vx/\vx/\vx/\vx/\vx/\vx/\vx/\vx/\vx/\vx/\vx/\vx/\vx/\vx/\vx/\vx/\vx/\vx/\vx/\vx/\vx/\vx/\vx/\vx/\vx/\vx/\vx/\vx/\vx/\vx/\0<64/\True)) ([G.node [G.int 1116352408],G.node [G.int 1899447441],G.node [G.int 3049323471],G.node [G.int 3921009573],G.node [G.int 961987163],G.node [G.int 1508970993],G.node [G.int 2453635748],G.node [G.int 2870763221],G.node [G.int 3624381080],G.node [G.int 310598401],G.node [G.int 607225278],G.node [G.int 1426881987],G.node [G.int 1925078388],G.node [G.int 2162078206],G.node [G.int 2614888103],G.node [G.int 3248222580],G.node [G.int 3835390401],G.node [G.int 4022224774],G.node [G.int 264347078],G.node [G.int 604807628],G.node [G.int 770255983],G.node [G.int 1249150122],G.node [G.int 1555081692],G.node [G.int 1996064986],G.node [G.int 2554220882],G.node [G.int 2821834349],G.node [G.int 2952996808],G.node [G.int 3210313671],G.node [G.int 3336571891],G.node [G.int 3584528711],G.node [G.int 113926993],G.node [G.int 338241895],G.node [G.int 666307205],G.node [G.int 773529912],G.node [G.int 1294757372],G.node [G.int 1396182291],G.node [G.int 1695183700],G.node [G.int 1986661051],G.node [G.int 2177026350],G.node [G.int 2456956037],G.node [G.int 2730485921],G.node [G.int 2820302411],G.node [G.int 3259730800],G.node [G.int 3345764771],G.node [G.int 3516065817],G.node [G.int 3600352804],G.node [G.int 4094571909],G.node [G.int 275423344],G.node [G.int 430227734],G.node [G.int 506948616],G.node [G.int 659060556],G.node [G.int 883997877],G.node [G.int 958139571],G.node [G.int 1322822218],G.node [G.int 1537002063],G.node [G.int 1747873779],G.node [G.int 1955562222],G.node [G.int 2024104815],G.node [G.int 2227730452],G.node [G.int 2361852424],G.node [G.int 2428436474],G.node [G.int 2756734187],G.node [G.int 3204031479],G.node [G.int 3329325298]]=KG) (λy0=>y0.s 6=z.s 1/\y0.g 2=KG/\V8.mk (y0.i 30) (y0.i 31) (y0.i 32) (y0.i 33) (y0.i 34) (y0.i 35) (y0.i 36) (y0.i 37)=ft KG (z.s 1) (SY)/\y0.s 5=bG (z.s 1)/\(y0.s 5).length<64) λy0=>(let v4:=(List.take 128 (y0.s 5)++List.drop (y0.s 5).length [vxn,vxn,vxn,vxn,vxn,vxn,vxn,vxn,vxn,vxn,vxn,vxn,vxn,vxn,vxn,vxn,vxn,vxn,vxn,vxn,vxn,vxn,vxn,vxn,vxn,vxn,vxn,vxn,vxn,vxn,vxn,vxn,vxn,vxn,vxn,vxn,vxn,vxn,vxn,vxn,vxn,vxn,vxn,vxn,vxn,vxn,vxn,vxn,vxn,vxn,vxn,vxn,vxn,vxn,vxn,vxn,vxn,vxn,vxn,vxn,vxn,vxn,vxn,vxn,vxn,vxn,vxn,vxn,vxn,vxn,vxn,vxn,vxn,vxn,vxn,vxn,vxn,vxn,vxn,vxn,vxn,vxn,vxn,vxn,vxn,vxn,vxn,vxn,vxn,vxn,vxn,vxn,vxn,vxn,vxn,vxn,vxn,vxn,vxn,vxn,vxn,vxn,vxn,vxn,vxn,vxn,vxn,vxn,vxn,vxn,vxn,vxn,vxn,vxn,vxn,vxn,vxn,vxn,vxn,vxn,vxn,vxn,vxn,vxn,vxn,vxn,vxn,vxn]);let v5:=(↑(Min.min (y0.s 5).length 128):Int);let v7:=((↑(y0.s 6).length:Int)%18446744073709551616 * 8%18446744073709551616);let v8:=(v4.set v5.toNat v1);let v6:=((0<v8.length/\vx/\vx/\vx/\vx/\vx/\vx/\vx/\vx/\vx/\vx/\vx/\vx/\vx/\vx/\vx/\vx/\vx/\vx/\vx/\vx/\vx/\vx/\vx/\vx/\vx/\vx/\vx/\vx/\vx/\vx/\vx/\vx/\0<(y0.g 2).length/\True));(.an (zw/\zw/\zw/\zw/\zw/\zw/\zw/\zw/\zw/\zw/\zw/\zw/\zw/\zw/\zw/\zw/\zw/\zw/\zw/\zw/\zw/\zw/\zw/\zw/\zw/\zw/\zw/\zw/\zw/\zw/\zw/\zw/\zw/\zw/\zw/\zw/\zw/\zw/\zw/\zw/\zw/\zw/\zw/\zw/\zw/\zw/\zw/\zw/\zw/\zw/\zw/\zw/\zw/\zw/\zw/\zw/\zw/\zw/\zw/\zw/\zw/\zw/\zw/\zw/\zw/\zw/\zw/\zw/\zw/\zw/\zw/\zw/\zw/\zw/\zw/\zw/\zw/\zw/\zw/\zw/\zw/\zw/\zw/\zw/\zw/\zw/\zw/\zw/\zw/\zw/\zw/\zw/\zw/\zw/\zw/\zw/\zw/\zw/\zw/\zw/\zw/\zw/\zw/\zw/\zw/\zw/\zw/\zw/\zw/\zw/\zw/\zw/\zw/\zw/\zw/\zw/\zw/\zw/\zw/\zw/\zw/\zw/\zw/\zw/\zw/\zw/\zw/\zw/\True) (.an (128=128) (.an (128=128) (.an (0<=v5/\v5<128) (.an (0<(List.take 128 (y0.s 5)++List.drop (y0.s 5).length [Int.toNat 0,vxn,vxn,vxn,vxn,vxn,vxn,vxn,vxn,vxn,vxn,vxn,vxn,vxn,vxn,vxn,vxn,vxn,vxn,vxn,vxn,vxn,vxn,vxn,vxn,vxn,vxn,vxn,vxn,vxn,vxn,vxn,vxn,vxn,vxn,vxn,vxn,vxn,vxn,vxn,vxn,vxn,vxn,vxn,vxn,vxn,vxn,vxn,vxn,vxn,vxn,vxn,vxn,vxn,vxn,vxn,vxn,vxn,vxn,vxn,vxn,vxn,vxn,vxn,vxn,vxn,vxn,vxn,vxn,vxn,vxn,vxn,vxn,vxn,vxn,vxn,vxn,vxn,vxn,vxn,vxn,vxn,vxn,vxn,vxn,vxn,vxn,vxn,vxn,vxn,vxn,vxn,vxn,vxn,vxn,vxn,vxn,vxn,vxn,vxn,vxn,vxn,vxn,vxn,vxn,vxn,vxn,vxn,vxn,vxn,vxn,vxn,vxn,vxn,vxn,vxn,vxn,vxn,vxn,vxn,vxn,vxn,vxn,vxn,vxn,vxn,vxn,vxn]).length) (.an (v5.toNat<v4.length/\(0:Int)<=128) (.two (56<=v5) (.cl v6 (y0.g 2=KG/\v8.length=128/\((128:Int)=64∨(128:Int)=128)/\zw/\(0:Int)<=8) (λy1=>y1.g 2=KG/\V8.mk (y1.i 30) (y1.i 31) (y1.i 32) (y1.i 33) (y1.i 34) (y1.i 35) (y1.i 36) (y1.i 37)=V8.mk (y0.i 30) (y0.i 31) (y0.i 32) (y0.i 33) (y0.i 34) (y0.i 35) (y0.i 36) (y0.i 37)/\y1.i 8=128/\(y1.s 7).length=128/\y1.s 7=qc 128 v7 0 v8) λy1=>(let v9:=(List.take v1 (y1.s 7));let v10:=(List.drop (Int.toNat 64) v9);(.an (0<y1.i 8) (.an ((y1.s 7).length=128) (.an v2 (L3 (Az (y1.g 2)) (List.drop v3 v9) (y1.g 2) (V8.mk (y1.i 30) (y1.i 31) (y1.i 32) (y1.i 33) (y1.i 34) (y1.i 35) (y1.i 36) (y1.i 37)) λy2=>(.an (64<y1.i 8) (.an ((y1.s 7).length=128) (.an ((0:Int)<=64/\(64:Int)<=128/\(128:Int)<=128) (L3 (Az (y2.g 2)) v10 (y2.g 2) (V8.mk (y2.i 30) (y2.i 31) (y2.i 32) (y2.i 33) (y2.i 34) (y2.i 35) (y2.i 36) (y2.i 37)) λy3=>(.an (¬(128<y1.i 8)) (.an (y3.i 37%256=hb v0 (nat_lit 31)/\y3.i 37/256%256=hb v0 (nat_lit 30)/\y3.i 37/65536%256=hb v0 (nat_lit 29)/\y3.i 37/16777216%256=hb v0 (nat_lit 28)/\y3.i 36%256=hb v0 (nat_lit 27)/\y3.i 36/256%256=hb v0 (nat_lit 26)/\y3.i 36/65536%256=hb v0 (nat_lit 25)/\y3.i 36/16777216%256=hb v0 (nat_lit 24)/\y3.i 35%256=hb v0 (nat_lit 23)/\y3.i 35/256%256=hb v0 (nat_lit 22)/\y3.i 35/65536%256=hb v0 (nat_lit 21)/\y3.i 35/16777216%256=hb v0 (nat_lit 20)/\y3.i 34%256=hb v0 (nat_lit 19)/\y3.i 34/256%256=hb v0 (nat_lit 18)/\y3.i 34/65536%256=hb v0 (nat_lit 17)/\y3.i 34/16777216%256=hb v0 (nat_lit 16)/\y3.i 33%256=hb v0 (nat_lit 15)/\y3.i 33/256%256=hb v0 (nat_lit 14)/\y3.i 33/65536%256=hb v0 (nat_lit 13)/\y3.i 33/16777216%256=hb v0 (nat_lit 12)/\y3.i 32%256=hb v0 (nat_lit 11)/\y3.i 32/256%256=hb v0 (nat_lit 10)/\y3.i 32/65536%256=hb v0 (nat_lit 9)/\y3.i 32/16777216%256=hb v0 (nat_lit 8)/\y3.i 31%256=hb v0 (nat_lit 7)/\y3.i 31/256%256=hb v0 (nat_lit 6)/\y3.i 31/65536%256=hb v0 (nat_lit 5)/\y3.i 31/16777216%256=hb v0 (nat_lit 4)/\y3.i 30%256=hb v0 (nat_lit 3)/\y3.i 30/256%256=hb v0 (nat_lit 2)/\y3.i 30/65536%256=hb v0 (nat_lit 1)/\y3.i 30/16777216%256=hb v0 (nat_lit 0)/\True) (.at (True)))))))))))))) (.cl v6 (y0.g 2=KG/\v8.length=128/\((64:Int)=64∨(64:Int)=128)/\zw/\(0:Int)<=8) (λy1=>y1.g 2=KG/\V8.mk (y1.i 30) (y1.i 31) (y1.i 32) (y1.i 33) (y1.i 34) (y1.i 35) (y1.i 36) (y1.i 37)=V8.mk (y0.i 30) (y0.i 31) (y0.i 32) (y0.i 33) (y0.i 34) (y0.i 35) (y0.i 36) (y0.i 37)/\y1.i 8=64/\(y1.s 7).length=128/\y1.s 7=qc 64 v7 0 v8) λy1=>(let v11:=(List.drop v3 (List.take v1 (y1.s 7)));(.an (0<y1.i 8) (.an ((y1.s 7).length=128) (.an v2 (L3 (Az (y1.g 2)) v11 (y1.g 2) (V8.mk (y1.i 30) (y1.i 31) (y1.i 32) (y1.i 33) (y1.i 34) (y1.i 35) (y1.i 36) (y1.i 37)) λy2=>(.an (¬(64<y1.i 8)) (.an (y2.i 37%256=hb v0 (nat_lit 31)/\y2.i 37/256%256=hb v0 (nat_lit 30)/\y2.i 37/65536%256=hb v0 (nat_lit 29)/\y2.i 37/16777216%256=hb v0 (nat_lit 28)/\y2.i 36%256=hb v0 (nat_lit 27)/\y2.i 36/256%256=hb v0 (nat_lit 26)/\y2.i 36/65536%256=hb v0 (nat_lit 25)/\y2.i 36/16777216%256=hb v0 (nat_lit 24)/\y2.i 35%256=hb v0 (nat_lit 23)/\y2.i 35/256%256=hb v0 (nat_lit 22)/\y2.i 35/65536%256=hb v0 (nat_lit 21)/\y2.i 35/16777216%256=hb v0 (nat_lit 20)/\y2.i 34%256=hb v0 (nat_lit 19)/\y2.i 34/256%256=hb v0 (nat_lit 18)/\y2.i 34/65536%256=hb v0 (nat_lit 17)/\y2.i 34/16777216%256=hb v0 (nat_lit 16)/\y2.i 33%256=hb v0 (nat_lit 15)/\y2.i 33/256%256=hb v0 (nat_lit 14)/\y2.i 33/65536%256=hb v0 (nat_lit 13)/\y2.i 33/16777216%256=hb v0 (nat_lit 12)/\y2.i 32%256=hb v0 (nat_lit 11)/\y2.i 32/256%256=hb v0 (nat_lit 10)/\y2.i 32/65536%256=hb v0 (nat_lit 9)/\y2.i 32/16777216%256=hb v0 (nat_lit 8)/\y2.i 31%256=hb v0 (nat_lit 7)/\y2.i 31/256%256=hb v0 (nat_lit 6)/\y2.i 31/65536%256=hb v0 (nat_lit 5)/\y2.i 31/16777216%256=hb v0 (nat_lit 4)/\y2.i 30%256=hb v0 (nat_lit 3)/\y2.i 30/256%256=hb v0 (nat_lit 2)/\y2.i 30/65536%256=hb v0 (nat_lit 1)/\y2.i 30/16777216%256=hb v0 (nat_lit 0)/\True) (.at (True))))))))))))))))))))) by
 dsimp only [SU] at hA;have e5:KG.length=64:=rfl;conv=>zeta
 repeat' with_reducible first|intro _|apply d_|apply ed|apply ef|apply eu|apply ew
 all_goals first|omega|rfl|((repeat' first|exact rfl|exact trivial|exact Int.le_refl _|exact(by decide)|refine And.intro ?_ ?_);done)|(rw[←Ie (by assumption) (by assumption) (by assumption) (by assumption) (by assumption)];(repeat' first|exact rfl|exact trivial|refine And.intro ?_ ?_);done)|(rw[←If (by assumption) (by assumption) (by assumption) (by assumption)];(repeat' first|exact rfl|exact trivial|refine And.intro ?_ ?_);done)|((obtain⟨e7,e8,e9⟩:=PU (by assumption);unfold ZB at e7;(repeat' first|exact trivial|refine And.intro ?_ ?_) <;> first|exact PV (by assumption)|(simp only [List.length_set,e7,e8] <;> omega)|omega);done)|grind [aA,aq,ao,List.append_assoc,List.length_append,List.length_cons,List.length_nil,List.append_cancel_left_eq,List.cons.injEq]
noncomputable section
def z8:List Sh:=List.replicate 8 (.pi .u32 0)
def L7:List BSh:=[.cells 282 K0,.arr 9 283 1,.arr 9 283 2,.cells 282 z8]
def VN:List (Nat×Sa):=[(2,.c (.p 1)),(3,.c (.p 0)),(6,.c (.p 3)),(7,.c (.p 2))]
def Iq(p:Sy):LSpec:=⟨[(2,.c (.p 1)),(3,.c (.p 0)),(6,.c (.p 3)),(7,.c (.p 2)),(1,.c (.vb 3)),(8,.c (.i .i64 20))],L7,λz=>64<=(z.s 3).length/\(z.g 1).length=64/\(z.g 2).length=64/\0<=z.i 20/\z.i 20<=16,λz=>(16-z.i 20).toNat,[⟨.exit 0,VN,L7⟩],λz y=>v8 y=v8 z/\y.g 1=z.g 1/\(y.g 2).length=64/\y.g 2=uF (z.s 3) (16-z.i 20).toNat (z.i 20) (z.g 2),[],[]⟩
def Ir(p:Sy):LSpec:=⟨[(2,.c (.p 1)),(3,.c (.p 0)),(6,.c (.p 3)),(7,.c (.p 2)),(9,.c (.i .i64 8))],L7,λz=>(z.g 1).length=64/\(z.g 2).length=64/\16<=z.i 8/\z.i 8<=64,λz=>(64-z.i 8).toNat,[⟨.exit 2,VN,L7⟩],λz y=>v8 y=v8 z/\y.g 1=z.g 1/\(y.g 2).length=64/\y.g 2=Ax (64-z.i 8).toNat (z.i 8) (z.g 2),[],[]⟩
def Ox:List BSh:=[.cells 282 K0,.arr 9 283 1,.arr 9 283 2,.cells 282 z8,.cells 282 SS]
def Vg:List (Nat×Sa):=[(2,.c (.p 1)),(3,.c (.p 0)),(6,.c (.p 3)),(7,.c (.p 2)),(12,.c (.p 4))]
def Is(p:Sy):LSpec:=⟨[(2,.c (.p 1)),(3,.c (.p 0)),(6,.c (.p 3)),(7,.c (.p 2)),(12,.c (.p 4)),(13,.c (.i .i64 77))],Ox,λz=>(z.g 1).length=64/\(z.g 2).length=64/\0<=z.i 77/\z.i 77<=64,λz=>(64-z.i 77).toNat,[⟨.exit 4,Vg,Ox⟩],λz y=>v8 y=v8 z/\y.g 1=z.g 1/\Cd y=yX (z.g 1) (z.g 2) (64-z.i 77).toNat (z.i 77) (Cd z),[],[]⟩
def SZ:FSpec:=⟨[.ag K0,.c (.vb 1),.c (.p 0)],[.arr 9 283 2],λz=>64<=(z.s 1).length/\(z.g 2).length=64,λz=>.one (.ag (We (mX (z.g 2) (z.s 1) (v8 z)))),λz=>[.arr 9 283 2],λz y=>y.g 2=z.g 2,[]⟩
end
abbrev It(a:Prop)(b c:List G):=a/\a/\a/\a/\a/\a/\a/\a/\0<b.length/\0<c.length/\True
def L8:cH 212 0 Iq:=cG 11 174761 eN lN λp z hA=>show Fm.den (let vx:=(0:Int)=0;let v0:=((z.g 2).set (z.i 20).toNat (G.node [G.int (IntKind.u32.wrap (Int.ofNat ((aD (bM) (Ay (Int.ofNat ((aD (bM) (dU (Int.ofNat ((aD (bM) ((↑((z.s 3).getD (4 * z.i 20).toNat 0):Int)%4294967296 * 16777216%4294967296)).lor (aD (bM) ((↑((z.s 3).getD (4 * z.i 20+1).toNat 0):Int)%4294967296 * 65536%4294967296)))))).lor (aD (bM) ((↑((z.s 3).getD (4 * z.i 20+2).toNat 0):Int)%4294967296 * 256%4294967296)))))).lor (aD (bM) ((↑((z.s 3).getD (4 * z.i 20+3).toNat 0):Int)%4294967296)))))]));let v1:=((-9223372036854775808)<=4 * z.i 20/\4 * z.i 20<=9223372036854775807);let v2:=(↑(z.s 3).length:Int);(.two (z.i 20<16) (.an v1 (.an (0<=4 * z.i 20/\4 * z.i 20<v2) (.an v1 (.an ((-9223372036854775808)<=4 * z.i 20+1/\4 * z.i 20+1<=9223372036854775807) (.an (0<=4 * z.i 20+1/\4 * z.i 20+1<v2) (.an v1 (.an ((-9223372036854775808)<=4 * z.i 20+2/\4 * z.i 20+2<=9223372036854775807) (.an (0<=4 * z.i 20+2/\4 * z.i 20+2<v2) (.an v1 (.an ((-9223372036854775808)<=4 * z.i 20+3/\4 * z.i 20+3<=9223372036854775807) (.an (0<=4 * z.i 20+3/\4 * z.i 20+3<v2) (.an (sN (z.i 20)) (.an (ry (z.g 2)) (.an (xM (z.i 20) (z.g 2)) (.an ((-9223372036854775808)<=z.i 20+1/\z.i 20+1<=9223372036854775807) (.an (vx/\vx/\vx/\vx/\vx/\vx/\vx/\vx/\0<v0.length/\0<(z.g 1).length/\True) (.at ((64<=(z.s 3).length/\(z.g 1).length=64/\v0.length=64/\0<=z.i 20+1/\z.i 20+1<=16)/\((16:Int)-(z.i 20+1)).toNat<(16-z.i 20).toNat/\∀(y:Sy),V8.mk (y.i 30) (y.i 31) (y.i 32) (y.i 33) (y.i 34) (y.i 35) (y.i 36) (y.i 37)=V8.mk (z.i 30) (z.i 31) (z.i 32) (z.i 33) (z.i 34) (z.i 35) (z.i 36) (z.i 37)/\y.g 1=z.g 1/\(y.g 2).length=64/\y.g 2=uF (z.s 3) (16-(z.i 20+1)).toNat (z.i 20+1) v0->V8.mk (y.i 30) (y.i 31) (y.i 32) (y.i 33) (y.i 34) (y.i 35) (y.i 36) (y.i 37)=V8.mk (z.i 30) (z.i 31) (z.i 32) (z.i 33) (z.i 34) (z.i 35) (z.i 36) (z.i 37)/\y.g 1=z.g 1/\(y.g 2).length=64/\y.g 2=uF (z.s 3) (16-z.i 20).toNat (z.i 20) (z.g 2))))))))))))))))))) (.an (It vx (z.g 2) (z.g 1)) (.at (V8.mk (z.i 30) (z.i 31) (z.i 32) (z.i 33) (z.i 34) (z.i 35) (z.i 36) (z.i 37)=V8.mk (z.i 30) (z.i 31) (z.i 32) (z.i 33) (z.i 34) (z.i 35) (z.i 36) (z.i 37)/\z.g 1=z.g 1/\(z.g 2).length=64/\z.g 2=uF (z.s 3) (16-z.i 20).toNat (z.i 20) (z.g 2)))))) by
 dsimp only [Iq,v8] at hA;have e2:=@xJ (z.s 3) (z.i 20) (z.g 2);have:=@Ca (z.s 3) (z.i 20) (z.g 2);dsimp only [rx,On,RY,jT,Ia] at e2;conv=>zeta
 repeat' with_reducible first|intro _|apply d_|apply ed|apply ef|apply eu|apply ew
 all_goals first|omega|grind [aA,aq,ao,List.append_assoc,List.length_append,List.length_cons,List.length_nil,List.append_cancel_left_eq,List.cons.injEq,rx]
def L9:cH 212 2 Ir:=cG 8 2729 (ar Cj eN) lN λp z hA=>show Fm.den (let vx:=(0:Int)=0;let v0:=((z.g 2).set (z.i 8).toNat (G.node [G.int ((((gI (cw (bx (z.g 2) (z.i 8-16)))+IntKind.u32.wrap (Int.ofNat ((aD (bM) (dU (Int.ofNat ((aD (bM) (jS (gI (cw (bx (z.g 2) (z.i 8-15)))) 7)).xor (aD (bM) (jS (gI (cw (bx (z.g 2) (z.i 8-15)))) 18)))))).xor (aD (bM) (gI (cw (bx (z.g 2) (z.i 8-15)))/8)))))%4294967296+gI (cw (bx (z.g 2) (z.i 8-7))))%4294967296+IntKind.u32.wrap (Int.ofNat ((aD (bM) (dU (Int.ofNat ((aD (bM) (jS (gI (cw (bx (z.g 2) (z.i 8-2)))) 17)).xor (aD (bM) (jS (gI (cw (bx (z.g 2) (z.i 8-2)))) 19)))))).xor (aD (bM) (gI (cw (bx (z.g 2) (z.i 8-2)))/1024)))))%4294967296)]));let v1:=(ry (z.g 2));let v2:=((64:Int)-(z.i 8+1));(.two (z.i 8<64) (.an ((-9223372036854775808)<=z.i 8-15/\z.i 8-15<=9223372036854775807) (.an (0<=z.i 8-15/\z.i 8-15<64) (.an v1 (.an (gK (z.i 8-15) (z.g 2)) (.an ((-9223372036854775808)<=z.i 8-2/\z.i 8-2<=9223372036854775807) (.an (0<=z.i 8-2/\z.i 8-2<64) (.an v1 (.an (gK (z.i 8-2) (z.g 2)) (.an ((-9223372036854775808)<=z.i 8-16/\z.i 8-16<=9223372036854775807) (.an (0<=z.i 8-16/\z.i 8-16<64) (.an v1 (.an (gK (z.i 8-16) (z.g 2)) (.ct ((0:Int)<=7) (λy0=>True) λy0=>(.ct ((0:Int)<=18) (λy1=>True) λy1=>(.an ((-9223372036854775808)<=z.i 8-7/\z.i 8-7<=9223372036854775807) (.an (0<=z.i 8-7/\z.i 8-7<64) (.an v1 (.an (gK (z.i 8-7) (z.g 2)) (.ct ((0:Int)<=17) (λy2=>True) λy2=>(.ct ((0:Int)<=19) (λy3=>True) λy3=>(.an (sN (z.i 8)) (.an v1 (.an (xM (z.i 8) (z.g 2)) (.an ((-9223372036854775808)<=z.i 8+1/\z.i 8+1<=9223372036854775807) (.an (vx/\vx/\vx/\vx/\vx/\vx/\vx/\vx/\0<v0.length/\0<(z.g 1).length/\True) (.at (((z.g 1).length=64/\v0.length=64/\16<=z.i 8+1/\z.i 8+1<=64)/\v2.toNat<(64-z.i 8).toNat/\∀(y:Sy),V8.mk (y.i 30) (y.i 31) (y.i 32) (y.i 33) (y.i 34) (y.i 35) (y.i 36) (y.i 37)=V8.mk (z.i 30) (z.i 31) (z.i 32) (z.i 33) (z.i 34) (z.i 35) (z.i 36) (z.i 37)/\y.g 1=z.g 1/\(y.g 2).length=64/\y.g 2=Ax v2.toNat (z.i 8+1) v0->V8.mk (y.i 30) (y.i 31) (y.i 32) (y.i 33) (y.i 34) (y.i 35) (y.i 36) (y.i 37)=V8.mk (z.i 30) (z.i 31) (z.i 32) (z.i 33) (z.i 34) (z.i 35) (z.i 36) (z.i 37)/\y.g 1=z.g 1/\(y.g 2).length=64/\y.g 2=Ax (64-z.i 8).toNat (z.i 8) (z.g 2)))))))))))))))))))))))))))) (.an (It vx (z.g 2) (z.g 1)) (.at (V8.mk (z.i 30) (z.i 31) (z.i 32) (z.i 33) (z.i 34) (z.i 35) (z.i 36) (z.i 37)=V8.mk (z.i 30) (z.i 31) (z.i 32) (z.i 33) (z.i 34) (z.i 35) (z.i 36) (z.i 37)/\z.g 1=z.g 1/\(z.g 2).length=64/\z.g 2=Ax (64-z.i 8).toNat (z.i 8) (z.g 2)))))) by dsimp only [Ir,v8] at hA;have e2:=@xK (z.i 8) (z.g 2);have:=@Cb (z.i 8) (z.g 2);dsimp only [rx,Uy,uE,dk] at e2;exact xH
def L_:cH 212 4 Is:=cG 4 9 (ar Cj eN) lN λp z hA=>show Fm.den (let vx:=(0:Int)=0;let v1:=(bM);let v0:=((((z.i 47+IntKind.u32.wrap (Int.ofNat ((aD v1 (dU (Int.ofNat ((aD v1 (jS (z.i 44) 6)).xor (aD v1 (jS (z.i 44) 11)))))).xor (aD v1 (jS (z.i 44) 25)))))%4294967296+IntKind.u32.wrap (Int.ofNat ((aD v1 (dU (Int.ofNat ((aD v1 (z.i 44)).land (aD v1 (z.i 45)))))).xor (aD v1 (Ay (Int.ofNat ((aD v1 (dU (Int.ofNat ((aD v1 (PX (-1))).xor (aD v1 (z.i 44)))))).land (aD v1 (z.i 46)))))))))%4294967296+gI (cw (bx (z.g 1) (z.i 77))))%4294967296+gI (cw (bx (z.g 2) (z.i 77))));let v2:=(It vx (z.g 2) (z.g 1));let v3:=(V8.mk (z.i 40) (z.i 41) (z.i 42) (z.i 43) (z.i 44) (z.i 45) (z.i 46) (z.i 47));let v4:=(sN (z.i 77));let v5:=((64:Int)-(z.i 77+1));(.two (z.i 77<64) (.ct ((0:Int)<=6) (λy0=>True) λy0=>(.ct ((0:Int)<=11) (λy1=>True) λy1=>(.ct ((0:Int)<=25) (λy2=>True) λy2=>(.an v4 (.an (ry (z.g 1)) (.an (gK (z.i 77) (z.g 1)) (.an v4 (.an (ry (z.g 2)) (.an (gK (z.i 77) (z.g 2)) (.ct ((0:Int)<=2) (λy3=>True) λy3=>(.ct ((0:Int)<=13) (λy4=>True) λy4=>(.ct ((0:Int)<=22) (λy5=>True) λy5=>(.an ((-9223372036854775808)<=z.i 77+1/\z.i 77+1<=9223372036854775807) (.an v2 (.at (((z.g 1).length=64/\(z.g 2).length=64/\0<=z.i 77+1/\z.i 77+1<=64)/\v5.toNat<(64-z.i 77).toNat/\∀(y:Sy),V8.mk (y.i 30) (y.i 31) (y.i 32) (y.i 33) (y.i 34) (y.i 35) (y.i 36) (y.i 37)=V8.mk (z.i 30) (z.i 31) (z.i 32) (z.i 33) (z.i 34) (z.i 35) (z.i 36) (z.i 37)/\y.g 1=z.g 1/\V8.mk (y.i 40) (y.i 41) (y.i 42) (y.i 43) (y.i 44) (y.i 45) (y.i 46) (y.i 47)=yX (z.g 1) (z.g 2) v5.toNat (z.i 77+1) (V8.mk ((v0%4294967296+(IntKind.u32.wrap (Int.ofNat ((aD v1 (dU (Int.ofNat ((aD v1 (jS (z.i 40) 2)).xor (aD v1 (jS (z.i 40) 13)))))).xor (aD v1 (jS (z.i 40) 22))))+IntKind.u32.wrap (Int.ofNat ((aD v1 (Ay (Int.ofNat ((aD v1 (dU (Int.ofNat ((aD v1 (z.i 40)).land (aD v1 (z.i 41)))))).xor (aD v1 (dU (Int.ofNat ((aD v1 (z.i 40)).land (aD v1 (z.i 42)))))))))).xor (aD v1 (dU (Int.ofNat ((aD v1 (z.i 41)).land (aD v1 (z.i 42)))))))))%4294967296)%4294967296) (z.i 40) (z.i 41) (z.i 42) ((z.i 43+v0%4294967296)%4294967296) (z.i 44) (z.i 45) (z.i 46))->V8.mk (y.i 30) (y.i 31) (y.i 32) (y.i 33) (y.i 34) (y.i 35) (y.i 36) (y.i 37)=V8.mk (z.i 30) (z.i 31) (z.i 32) (z.i 33) (z.i 34) (z.i 35) (z.i 36) (z.i 37)/\y.g 1=z.g 1/\V8.mk (y.i 40) (y.i 41) (y.i 42) (y.i 43) (y.i 44) (y.i 45) (y.i 46) (y.i 47)=yX (z.g 1) (z.g 2) (64-z.i 77).toNat (z.i 77) v3)))))))))))))))) (.an v2 (.at (V8.mk (z.i 30) (z.i 31) (z.i 32) (z.i 33) (z.i 34) (z.i 35) (z.i 36) (z.i 37)=V8.mk (z.i 30) (z.i 31) (z.i 32) (z.i 33) (z.i 34) (z.i 35) (z.i 36) (z.i 37)/\z.g 1=z.g 1/\V8.mk (z.i 40) (z.i 41) (z.i 42) (z.i 43) (z.i 44) (z.i 45) (z.i 46) (z.i 47)=yX (z.g 1) (z.g 2) (64-z.i 77).toNat (z.i 77) v3))))) by dsimp only [Is,v8,Cd] at hA;have e2:=@xL (z.g 1) (z.g 2) (z.i 77) (Cd z);have e3:=@Cc (z.g 1) (z.g 2) (z.i 77) (Cd z);dsimp only [Cd,dr,rt,ru,uE,dk,lT,Aw] at e2 e3;exact xH
def S0:bI 212 SZ:=cC 1 0 eN (aX (ptm:=[]) L8 (aX (ptm:=[]) L9 (aX (ptm:=[]) L_ lN))) λz hA=>show Fm.den (let vx:=(0:Int)=0;let vxg:=G.node [G.int 0];let v0:=(mX (z.g 2) (z.s 1) (V8.mk (z.i 30) (z.i 31) (z.i 32) (z.i 33) (z.i 34) (z.i 35) (z.i 36) (z.i 37)));(.an (64=64/aS (bO 9)) (SV (vx/\vx/\vx/\vx/\vx/\vx/\vx/\vx/\0<64/\0<(z.g 2).length/\True) (z.s 1) (z.g 2) (z.i 30) (z.i 31) (z.i 32) (z.i 33) (z.i 34) (z.i 35) (z.i 36) (z.i 37) ((16:Int)-0) vxg λy0=>(SW (It vx (y0.g 2) (y0.g 1)) (y0.g 1) (y0.g 2) (y0.i 30) (y0.i 31) (y0.i 32) (y0.i 33) (y0.i 34) (y0.i 35) (y0.i 36) (y0.i 37) ((64:Int)-16) λy1=>(.cl ((It vx (y1.g 2) (y1.g 1))) ((y1.g 1).length=64/\(y1.g 2).length=64/\(0:Int)<=0/\(0:Int)<=64) (λy2=>V8.mk (y2.i 30) (y2.i 31) (y2.i 32) (y2.i 33) (y2.i 34) (y2.i 35) (y2.i 36) (y2.i 37)=V8.mk (y1.i 30) (y1.i 31) (y1.i 32) (y1.i 33) (y1.i 34) (y1.i 35) (y1.i 36) (y1.i 37)/\y2.g 1=y1.g 1/\V8.mk (y2.i 40) (y2.i 41) (y2.i 42) (y2.i 43) (y2.i 44) (y2.i 45) (y2.i 46) (y2.i 47)=yX (y1.g 1) (y1.g 2) ((64:Int)-0).toNat 0 (V8.mk (y1.i 30) (y1.i 31) (y1.i 32) (y1.i 33) (y1.i 34) (y1.i 35) (y1.i 36) (y1.i 37))) λy2=>(.an (0<(y2.g 1).length/\(y2.i 37+y2.i 47)%4294967296=v0.h/\(y2.i 36+y2.i 46)%4294967296=v0.g/\(y2.i 35+y2.i 45)%4294967296=v0.f/\(y2.i 34+y2.i 44)%4294967296=v0.e/\(y2.i 33+y2.i 43)%4294967296=v0.d/\(y2.i 32+y2.i 42)%4294967296=v0.c/\(y2.i 31+y2.i 41)%4294967296=v0.b/\(y2.i 30+y2.i 40)%4294967296=v0.a/\True) (.at (y2.g 1=z.g 2)))))))) by
 dsimp only [SZ,v8] at hA;conv=>zeta
 repeat' with_reducible first|intro _|apply d_|apply ed|apply ef|apply eu|apply ew
 all_goals first|omega|rfl|((repeat' first|exact rfl|exact trivial|exact Int.le_refl _|exact(by decide)|refine And.intro ?_ ?_);done)|(exact(qa (by assumption) (by assumption) (by assumption)).1)|(have k:=qa (by assumption) (by assumption) (by assumption);refine And.intro (by rw[k.1];omega) ?_;rw[←k.2];(repeat' first|exact rfl|exact trivial|refine And.intro ?_ ?_);done)|grind [aA,aq,ao,List.append_assoc,List.length_append,List.length_cons,List.length_nil,List.append_cancel_left_eq,List.cons.injEq]
noncomputable section
def sO(l:List Nat):Nat:=(120-l.length%64)%64
def S1:Nat->List Nat->List Nat
 |0,l=>l
 |k+1,l=>S1 k (l++ [0])
def EX(l:List Nat):List Nat:=S1 (sO l) l
def Iu{l:List Nat}(h:(l.length:Int)%64≠56):EX l=EX (l++ [0])/\sO l=sO (l++ [0])+1:=by
 have e:sO l=sO (l++ [0])+1:=by unfold sO;rw[aal];simp only [Zx];omega
 refine⟨?_,e⟩;unfold EX;rw[e];rfl
def Ma{l:List Nat}(h:(l.length:Int)%64=56):EX l=l:=by unfold EX;rw[show sO l=0 by unfold sO;omega];rfl
def PY(l:List Nat):sO l<=63:=by unfold sO;omega
def Uz(d:Int):Nat->Int->List Nat->List Nat
 |0,_,l=>l
 |k+1,i,l=>Uz d k (i-1) (l++ [((d/((2 ^ min (8 * i%18446744073709551616).toNat (aZ .u64):Nat):Int))%256).toNat])
def lV(d i:Int)(l:List Nat):List Nat:=Uz d (i+1).toNat i l
def EY{d i:Int}{l:List Nat}(h:0<=i):lV d i l=lV d (i-1) (l++ [((d/((2 ^ min (8 * i%18446744073709551616).toNat (aZ .u64):Nat):Int))%256).toNat]):=by unfold lV;rw[show(i+1).toNat=(i-1+1).toNat+1 by omega];rfl
def Iv{d i:Int}{l:List Nat}(h:i<0):lV d i l=l:=by unfold lV;rw[show(i+1).toNat=0 by omega];rfl
def UA(m:List Nat):Nat->Int->V8->V8
 |0,_,v=>v
 |k+1,i,v=>UA m k (i+64) (mX KG ((m.take (i+64).toNat).drop i.toNat) v)
def lW(m:List Nat)(i:Int)(v:V8):V8:=UA m (((m.length:Int)-i+63)/64).toNat i v
def EZ{m:List Nat}{i:Int}{v:V8}(h:i<m.length):lW m i v=lW m (i+64) (mX KG ((m.take (i+64).toNat).drop i.toNat) v):=by unfold lW;rw[show(((m.length:Int)-i+63)/64).toNat=(((m.length:Int)-(i+64)+63)/64).toNat+1 by omega];rfl
def Iw{m:List Nat}{i:Int}{v:V8}(h:(m.length:Int)<=i):lW m i v=v:=by unfold lW;rw[show(((m.length:Int)-i+63)/64).toNat=0 by omega];rfl
def Ck:List BSh:=[.cells 44 z32,.growb 5 7]
def Ix(p:Sy):LSpec:=⟨[(0,.c (.vb 6)),(2,.c (.p 0)),(3,.c (.gb 1 7))],Ck,λz=>(z.s 7).length+sO (z.s 7)<=900000100,λz=>sO (z.s 7),[⟨.exit 0,[(0,.c (.vb 6)),(2,.c (.p 0)),(3,.c (.gb 1 7))],Ck⟩],λz y=>y.s 6=z.s 6/\y.s 7=EX (z.s 7)/\(y.s 7).length<=900000100/\((y.s 7).length:Int)%64=56,[],[]⟩
def Iy(p:Sy):LSpec:=⟨[(2,.c (.p 0)),(3,.c (.gb 1 7)),(4,.c (.i .u64 9)),(5,.c (.i .i64 20))],Ck,λz=>0-1<=z.i 20/\z.i 20<=7/\((z.s 7).length:Int)+z.i 20<=900000200,λz=>(z.i 20+1).toNat,[⟨.exit 2,[(2,.c (.p 0)),(3,.c (.gb 1 7))],Ck⟩],λz y=>y.s 7=lV (z.i 9) (z.i 20) (z.s 7)/\((y.s 7).length:Int)=(z.s 7).length+z.i 20+1,[],[]⟩
def Iz:List BSh:=[.cells 44 z32,.cells 282 K0,.arr 9 283 2]
def PZ(p:Sy):LSpec:=⟨[(2,.c (.p 0)),(3,.c (.vb 7)),(6,.c (.p 1)),(7,.c (.p 2)),(8,.c (.i .i64 8))],Iz,λz=>z.g 2=KG/\(z.s 7).length<=900000200/\((z.s 7).length:Int)%64=0/\0<=z.i 8/\z.i 8<=(z.s 7).length/\z.i 8%64=0,λz=>((z.s 7).length-z.i 8).toNat,[⟨.exit 4,[(2,.c (.p 0)),(6,.c (.p 1))],Iz⟩],λz y=>v8 y=lW (z.s 7) (z.i 8) (v8 z),[],[]⟩
def sP(s:List Nat):V8:=lW (lV ((s.length:Int)%18446744073709551616 * 8%18446744073709551616) 7 (EX (s++ [128]))) 0 V0
def Mb{z y0 y1 y2:Sy}{p q:Prop}(h0:y0.s 6=z.s 1/\y0.s 7=EX ([]++z.s 1++ [Int.toNat 128])/\p)(h1:y1.s 7=lV (((y0.s 6).length:Int)%18446744073709551616 * 8%18446744073709551616) 7 (y0.s 7)/\q)(h2:v8 y2=lW (y1.s 7) 0 V0):v8 y2=sP (z.s 1):=by rw[h2,h1.1,h0.2.1,h0.1];rfl
def S2:FSpec:=⟨[.c (.vb 1)],[],λz=>(z.s 1).length<=1000000,λz=>.one (.ag (VK (sP (z.s 1)))),λ_=>[],λz y=>True,[]⟩
end
abbrev P0(a:List Nat)(b:Prop):=a.length=a.length/\b/\b/\b/\b/\b/\b/\b/\b/\b/\b/\b/\b/\b/\b/\b/\b/\b/\b/\b/\b/\b/\b/\b/\b/\b/\b/\b/\b/\b/\b/\b/\b/\True
abbrev S3(a b:List Nat)(c:Prop):=a.length=b.length+1/\c/\c/\c/\c/\c/\c/\c/\c/\c/\c/\c/\c/\c/\c/\c/\c/\c/\c/\c/\c/\c/\c/\c/\c/\c/\c/\c/\c/\c/\c/\c/\c/\True
abbrev S4(a:List Nat):=a.length=a.length/\a.length<=1000000000/\(0:Int)<=0/\True
def Mc:cH 133 0 Ix:=cG 4 6 eN lN λp z hA=>show Fm.den (let vx:=(0:Int)=0;let v0:=(z.s 7++ [Int.toNat 0]);let v1:=(↑(z.s 7).length:Int);(.an ((64:Int)≠0) (.an (0<=v1/\(0:Int)<64) (.two (v1%64≠56) (.an (S4 (z.s 7)) (.an (S3 v0 (z.s 7) vx) (.at (v0.length+sO v0<=900000100/\sO v0<sO (z.s 7)/\∀(y:Sy),y.s 6=z.s 6/\y.s 7=EX v0/\(y.s 7).length<=900000100/\(↑(y.s 7).length:Int)%64=56->y.s 6=z.s 6/\y.s 7=EX (z.s 7)/\(y.s 7).length<=900000100/\(↑(y.s 7).length:Int)%64=56)))) (.an (P0 (z.s 7) vx) (.at (z.s 6=z.s 6/\z.s 7=EX (z.s 7)/\(z.s 7).length<=900000100/\v1%64=56))))))) by dsimp only [Ix] at hA;have:=@Iu (z.s 7);have:=@Ma (z.s 7);exact xH
def Md:cH 133 2 Iy:=cG 5 41 eN lN λp z hA=>show Fm.den (let vx:=(0:Int)=0;let v0:=(z.s 7++ [(z.i 9/(↑(2 ^ Min.min (8 * z.i 20%18446744073709551616).toNat (L5)):Int)%256).toNat]);let v1:=(↑(z.s 7).length:Int);(.two (0<=z.i 20) (.an ((-9223372036854775808)<=8 * z.i 20/\8 * z.i 20<=9223372036854775807) (.an (0<=8 * z.i 20%18446744073709551616) (.an ((z.s 7).length=(z.s 7).length/\(z.s 7).length<=1000000000/\0<=z.i 9/(↑(2 ^ Min.min (8 * z.i 20%18446744073709551616).toNat (L5)):Int)%256/\True) (.an ((-9223372036854775808)<=z.i 20-1/\z.i 20-1<=9223372036854775807) (.an (S3 v0 (z.s 7) vx) (.at ((0-1<=z.i 20-1/\z.i 20-1<=7/\(↑v0.length:Int)+(z.i 20-1)<=900000200)/\(z.i 20-1+1).toNat<(z.i 20+1).toNat/\∀(y:Sy),y.s 7=lV (z.i 9) (z.i 20-1) v0/\(↑(y.s 7).length:Int)=(↑v0.length:Int)+(z.i 20-1)+1->y.s 7=lV (z.i 9) (z.i 20) (z.s 7)/\(↑(y.s 7).length:Int)=v1+z.i 20+1))))))) (.an (P0 (z.s 7) vx) (.at (z.s 7=lV (z.i 9) (z.i 20) (z.s 7)/\v1=v1+z.i 20+1))))) by dsimp only [Iy] at hA;have:=@EY (z.i 9) (z.i 20) (z.s 7);have:=@Iv (z.i 9) (z.i 20) (z.s 7);exact xH
abbrev S5(a:List G)(b:Prop):=0<a.length/\b/\b/\b/\b/\b/\b/\b/\b/\b/\b/\b/\b/\b/\b/\b/\b/\b/\b/\b/\b/\b/\b/\b/\b/\b/\b/\b/\b/\b/\b/\b/\b/\True
def Me:cH 133 4 PZ:=cG 5 41 (ar S0 eN) lN λp z hA=>show Fm.den (let vx:=(0:Int)=0;let v1:=(V8.mk (z.i 30) (z.i 31) (z.i 32) (z.i 33) (z.i 34) (z.i 35) (z.i 36) (z.i 37));let v2:=((-9223372036854775808)<=z.i 8+64/\z.i 8+64<=9223372036854775807);let v3:=(↑(z.s 7).length:Int);let v4:=(z.i 8+64);let v0:=(mX (z.g 2) (List.drop (z.i 8).toNat (List.take v4.toNat (z.s 7))) v1);(.two (z.i 8 < ↑(z.s 7).length) (.an v2 (.an (0<=z.i 8/\z.i 8<=z.i 8+64/\z.i 8+64<= ↑(z.s 7).length) (.cl ((Az (z.g 2))) (64<=(List.drop (z.i 8).toNat (List.take v4.toNat (z.s 7))).length/\(z.g 2).length=64) (λy0=>y0.g 2=z.g 2) λy0=>(.an v2 (.an (S5 (y0.g 2) vx) (.at ((y0.g 2=KG/\(z.s 7).length<=900000200/\v3%64=0/\0<=z.i 8+64/\z.i 8+64<= ↑(z.s 7).length/\v4%64=0)/\(v3-v4).toNat<(v3-z.i 8).toNat/\∀(y:Sy),V8.mk (y.i 30) (y.i 31) (y.i 32) (y.i 33) (y.i 34) (y.i 35) (y.i 36) (y.i 37)=lW (z.s 7) v4 (V8.mk v0.a v0.b v0.c v0.d v0.e v0.f v0.g v0.h)->V8.mk (y.i 30) (y.i 31) (y.i 32) (y.i 33) (y.i 34) (y.i 35) (y.i 36) (y.i 37)=lW (z.s 7) (z.i 8) v1))))))) (.an (S5 (z.g 2) vx) (.at (V8.mk (z.i 30) (z.i 31) (z.i 32) (z.i 33) (z.i 34) (z.i 35) (z.i 36) (z.i 37)=lW (z.s 7) (z.i 8) v1))))) by
 have hB:True/\z.g 2=KG/\(z.s 7).length<=900000200/\(↑(z.s 7).length:Int)%64=0/\(0:Int)<=z.i 8/\z.i 8<= ↑(z.s 7).length/\z.i 8%64=0:=⟨trivial,hA⟩
 have e2:=@EZ (z.s 7) (z.i 8) (v8 z);have e3:=@Iw (z.s 7) (z.i 8) (v8 z);have e5:KG.length=64:=rfl;dsimp only [v8] at e2 e3;have e6:∀v:V8,v=mX (z.g 2) (List.drop (z.i 8).toNat (List.take (z.i 8+64).toNat (z.s 7))) (V8.mk (z.i 30) (z.i 31) (z.i 32) (z.i 33) (z.i 34) (z.i 35) (z.i 36) (z.i 37))->V8.mk v.a v.b v.c v.d v.e v.f v.g v.h=v:=λ_ _=>rfl;have e7:=e6 _ rfl;clear e6;have e8:z.i 8+64<=((z.s 7).length:Int)->0<=z.i 8->(List.drop (z.i 8).toNat (List.take (z.i 8+64).toNat (z.s 7))).length=64:=λ_ _=>by rw[List.length_drop,List.length_take];omega
 have e9:=hB.2.1;rw[e9] at e7;conv=>zeta
 repeat' with_reducible first|intro _|apply d_|apply ed|apply ef|apply eu|apply ew
 all_goals first|omega|(refine And.intro (by grind) (And.intro (by omega) (λy hy=>hy.trans ?_));rw[e2 (by omega),hB.2.1];done)|grind [aA,aq,ao,List.append_assoc,List.length_append,List.length_cons,List.length_nil,List.append_cancel_left_eq,List.cons.injEq]
abbrev E0(a:List Nat):=a.length=a.length
def S6:bI 133 S2:=cC 1 0 eN (aX (ptm:=[]) Mc (aX (ptm:=[]) Md (aX (ptm:=[]) Me lN))) λz hA=>show Fm.den (let vx:=(0:Int)=0;let v0:=(sP (z.s 1));let v1:=([]++z.s 1++ [Int.toNat 128]);(.an (0=0/\0<=1000000000/\(z.s 1).length<=1000000) (.an (([]++z.s 1).length=0+(z.s 1).length/\0+(z.s 1).length<=1000000000/\(0:Int)<=128/\True) (.cl ((v1.length=0+(z.s 1).length+1/\vx/\vx/\vx/\vx/\vx/\vx/\vx/\vx/\vx/\vx/\vx/\vx/\vx/\vx/\vx/\vx/\vx/\vx/\vx/\vx/\vx/\vx/\vx/\vx/\vx/\vx/\vx/\vx/\vx/\vx/\vx/\vx/\True)) (v1.length+sO v1<=900000100) (λy0=>y0.s 6=z.s 1/\y0.s 7=EX v1/\(y0.s 7).length<=900000100/\(↑(y0.s 7).length:Int)%64=56) λy0=>(let v2:=(↑(y0.s 7).length:Int);(.cl ((P0 (y0.s 7) vx)) ((0:Int)-1<=7/\(7:Int)<=7/\v2+7<=900000200) (λy1=>y1.s 7=lV ((↑(y0.s 6).length:Int)%18446744073709551616 * 8%18446744073709551616) 7 (y0.s 7)/\(↑(y1.s 7).length:Int)=v2+7+1) λy1=>(let v3:=(↑(y1.s 7).length:Int);(.an (E0 (y1.s 7)) (.an (64=64/aS (bO 9)) (.cl ((0<64/\vx/\vx/\vx/\vx/\vx/\vx/\vx/\vx/\vx/\vx/\vx/\vx/\vx/\vx/\vx/\vx/\vx/\vx/\vx/\vx/\vx/\vx/\vx/\vx/\vx/\vx/\vx/\vx/\vx/\vx/\vx/\vx/\True)) ([G.node [G.int 1116352408],G.node [G.int 1899447441],G.node [G.int 3049323471],G.node [G.int 3921009573],G.node [G.int 961987163],G.node [G.int 1508970993],G.node [G.int 2453635748],G.node [G.int 2870763221],G.node [G.int 3624381080],G.node [G.int 310598401],G.node [G.int 607225278],G.node [G.int 1426881987],G.node [G.int 1925078388],G.node [G.int 2162078206],G.node [G.int 2614888103],G.node [G.int 3248222580],G.node [G.int 3835390401],G.node [G.int 4022224774],G.node [G.int 264347078],G.node [G.int 604807628],G.node [G.int 770255983],G.node [G.int 1249150122],G.node [G.int 1555081692],G.node [G.int 1996064986],G.node [G.int 2554220882],G.node [G.int 2821834349],G.node [G.int 2952996808],G.node [G.int 3210313671],G.node [G.int 3336571891],G.node [G.int 3584528711],G.node [G.int 113926993],G.node [G.int 338241895],G.node [G.int 666307205],G.node [G.int 773529912],G.node [G.int 1294757372],G.node [G.int 1396182291],G.node [G.int 1695183700],G.node [G.int 1986661051],G.node [G.int 2177026350],G.node [G.int 2456956037],G.node [G.int 2730485921],G.node [G.int 2820302411],G.node [G.int 3259730800],G.node [G.int 3345764771],G.node [G.int 3516065817],G.node [G.int 3600352804],G.node [G.int 4094571909],G.node [G.int 275423344],G.node [G.int 430227734],G.node [G.int 506948616],G.node [G.int 659060556],G.node [G.int 883997877],G.node [G.int 958139571],G.node [G.int 1322822218],G.node [G.int 1537002063],G.node [G.int 1747873779],G.node [G.int 1955562222],G.node [G.int 2024104815],G.node [G.int 2227730452],G.node [G.int 2361852424],G.node [G.int 2428436474],G.node [G.int 2756734187],G.node [G.int 3204031479],G.node [G.int 3329325298]]=KG/\(y1.s 7).length<=900000200/\v3%64=0/\(0:Int)<=0/\0<=v3/\(0:Int)%64=0) (λy2=>V8.mk (y2.i 30) (y2.i 31) (y2.i 32) (y2.i 33) (y2.i 34) (y2.i 35) (y2.i 36) (y2.i 37)=lW (y1.s 7) 0 (SY)) λy2=>(.an (y2.i 37/1%256=hb v0 (nat_lit 31)/\y2.i 37/256%256=hb v0 (nat_lit 30)/\y2.i 37/65536%256=hb v0 (nat_lit 29)/\y2.i 37/16777216%256=hb v0 (nat_lit 28)/\y2.i 36/1%256=hb v0 (nat_lit 27)/\y2.i 36/256%256=hb v0 (nat_lit 26)/\y2.i 36/65536%256=hb v0 (nat_lit 25)/\y2.i 36/16777216%256=hb v0 (nat_lit 24)/\y2.i 35/1%256=hb v0 (nat_lit 23)/\y2.i 35/256%256=hb v0 (nat_lit 22)/\y2.i 35/65536%256=hb v0 (nat_lit 21)/\y2.i 35/16777216%256=hb v0 (nat_lit 20)/\y2.i 34/1%256=hb v0 (nat_lit 19)/\y2.i 34/256%256=hb v0 (nat_lit 18)/\y2.i 34/65536%256=hb v0 (nat_lit 17)/\y2.i 34/16777216%256=hb v0 (nat_lit 16)/\y2.i 33/1%256=hb v0 (nat_lit 15)/\y2.i 33/256%256=hb v0 (nat_lit 14)/\y2.i 33/65536%256=hb v0 (nat_lit 13)/\y2.i 33/16777216%256=hb v0 (nat_lit 12)/\y2.i 32/1%256=hb v0 (nat_lit 11)/\y2.i 32/256%256=hb v0 (nat_lit 10)/\y2.i 32/65536%256=hb v0 (nat_lit 9)/\y2.i 32/16777216%256=hb v0 (nat_lit 8)/\y2.i 31/1%256=hb v0 (nat_lit 7)/\y2.i 31/256%256=hb v0 (nat_lit 6)/\y2.i 31/65536%256=hb v0 (nat_lit 5)/\y2.i 31/16777216%256=hb v0 (nat_lit 4)/\y2.i 30/1%256=hb v0 (nat_lit 3)/\y2.i 30/256%256=hb v0 (nat_lit 2)/\y2.i 30/65536%256=hb v0 (nat_lit 1)/\y2.i 30/16777216%256=hb v0 (nat_lit 0)/\True) (.at (True))))))))))))) by
 dsimp only [S2] at hA;have:=@PY;have e5:KG.length=64:=rfl;conv=>zeta
 repeat' with_reducible first|intro _|apply d_|apply ed|apply ef|apply eu|apply ew
 all_goals first|omega|rfl|(rw[←Mb (by assumption) (by assumption) (by assumption)];(repeat' first|exact rfl|exact trivial|refine And.intro ?_ ?_|(rw[Int.ediv_one];exact rfl));done)|((repeat' first|(with_reducible rfl)|exact trivial|refine And.intro ?_ ?_) <;> first|omega|grind [List.length_append,List.length_cons,List.length_nil]|rfl)|grind [aA,aq,ao,List.append_assoc,List.length_append,List.length_cons,List.length_nil,List.append_cancel_left_eq,List.cons.injEq]
def lX{s:List Nat}{i:Int}(h0:0<=i)(h:i<64):jT (s.take 64) i=jT s i:=by unfold jT;rw[aai,aav (by omega),aai]
def IA{s:List Nat}{i:Int}(h0:0<=i)(h:i<16):On (s.take 64) i=On s i:=by unfold On;rw[lX (by omega) (by omega),lX (by omega) (by omega),lX (by omega) (by omega),lX (by omega) (by omega)]
def xO{s:List Nat}:∀(k:Nat) (i:Int) (l:List G),0<=i->i+k=16->uF (s.take 64) k i l=uF s k i l
 |0,_,_,_,_=>rfl
 |k+1,i,l,h0,h=>by show uF (s.take 64) k (i+1) _=uF s k (i+1) _;rw[IA h0 (by omega)];exact xO k (i+1) _ (by omega) (by omega)
def xP(k:List G)(s:List Nat)(v:V8):mX k (s.take 64) v=mX k s v:=by unfold mX SQ SP;rw[xO 16 0 _ (by decide) (by decide)]
def uG(k:List G){s t:List Nat}(v:V8)(h:s.take 64=t.take 64):mX k s v=mX k t v:=by rw[←xP k s,h,xP]
def IB{m:List Nat}:∀(k:Nat) (i:Int) (v:V8),0<=i->i+64 * k=m.length->UA m k i v=ft KG (m.drop i.toNat) v
 |0,i,v,h0,h=>by rw[gJ (by rw[aat];omega)];rfl
 |k+1,i,v,h0,h=>by
  have e:mX KG ((m.take (i+64).toNat).drop i.toNat) v=mX KG (m.drop i.toNat) v:=uG KG v (by rw[abv,List.take_take,abq (by omega)]);have e2:m.drop (i+64).toNat=(m.drop i.toNat).drop 64:=by rw[ZW];congr 1;omega
  show UA m k (i+64) _=_;rw[IB k (i+64) _ (by omega) (by omega),dG (s:=m.drop i.toNat) (by rw[aat];omega),e,e2]
def Mf{m:List Nat}(h:m.length%64=0)(v:V8):lW m 0 v=ft KG m v:=by unfold lW;rw[IB _ 0 v (by decide) (by omega)];rfl
def qd{k:List G}:∀(n:Nat) (a b:List Nat) (v:V8),a.length=64 * n->ft k (a++b) v=ft k b (ft k a v)
 |0,a,b,v,h=>by have:a= []:=List.length_eq_zero_iff.1 (by omega);subst this;rw[gJ (s:=[]) (by simp)];rfl
 |n+1,a,b,v,h=>by rw[dG (s:=a++b) (by rw[aal];omega),dG (s:=a) (by omega)];have e:mX k (a++b) v=mX k a v:=uG k v (by rw[abs (by omega)]);rw[e,abG (by omega),qd n (a.drop 64) b _ (by rw[aat];omega)]
def qe:∀(n:Nat) (s:List Nat),s.length/64=n->∃a,s=a++bG s/\a.length=64 * n/\(bG s).length=s.length-64 * n
 |0,s,h=>⟨[],by rw[qb (by omega)];rfl,rfl,by rw[qb (by omega)];omega⟩
 |n+1,s,h=>by
  have d4:64<=s.length:=by omega
  obtain⟨a,h1,h2,h3⟩:=qe n (s.drop 64) (by rw[aat];omega);refine⟨s.take 64++a, ?_,by rw[aal,aar,h2];omega,by rw[mY d4,h3,aat];omega⟩;rw[mY d4,aaJ, ←h1,List.take_append_drop]
def IC:∀(k:Nat) (l:List Nat),S1 k l=l++List.replicate k 0
 |0,l=>by simp [S1]
 |k+1,l=>by rw[S1,IC k];simp [List.replicate_succ]
def Mg(d:Int):List Nat:=[7,6,5,4,3,2,1,0].map λi=>((d/((2 ^ (8 * i):Nat):Int))%256).toNat
def Mh(d:Int)(l:List Nat):lV d 7 l=l++Mg d:=by unfold lV;show Uz d 8 7 l=_;simp only [Uz,aaJ];rfl
def il{α:Type}(A B:List α)(j:Nat)(x:α):(A++B).set (A.length+j) x=A++B.set j x:=by rw[List.set_append_right _ _ (by omega)];congr 2;omega
def ID(e:Int)(d:Int)(A C:List Nat)(hA:(A.length:Int)+8=e):Ce e d 8 0 (A++(List.replicate 8 0++C))=A++(Mg d++C):=by simp only [Ce];rw[show(e-1-0).toNat=A.length+7 by omega,show(e-1-(0+1)).toNat=A.length+6 by omega,show(e-1-(0+1+1)).toNat=A.length+5 by omega,show(e-1-(0+1+1+1)).toNat=A.length+4 by omega,show(e-1-(0+1+1+1+1)).toNat=A.length+3 by omega,show(e-1-(0+1+1+1+1+1)).toNat=A.length+2 by omega,show(e-1-(0+1+1+1+1+1+1)).toNat=A.length+1 by omega,show(e-1-(0+1+1+1+1+1+1+1)).toNat=A.length+0 by omega];rw[il,il,il,il,il,il,il,il];rfl
def sQ{r:List Nat}(h:r.length<64):Oo r=r++ [128]++List.replicate (127-r.length) 0:=by unfold Oo;rw[abt (by omega),abq (by omega),List.drop_replicate,show 128-r.length=(127-r.length)+1 by omega,List.replicate_succ];have:=il r (0::List.replicate (127-r.length) 0) 0 128;rw[aas] at this;rw[this];simp
def P1(s:List Nat):(s.length:Int)%18446744073709551616 * 8%18446744073709551616=yY s:=rfl
def ol(s:List Nat):fx s=sP s:=by
 obtain⟨a,h1,h2,h3⟩:=qe _ s rfl;have hr:(bG s).length<64:=by omega
 unfold sP;rw[P1,Mh];unfold EX;rw[IC];have hB:ft KG s V0=ft KG a V0:=by
  conv=>lhs;rw[h1,qd _ _ _ _ h2]
  exact gJ hr
 have hpd:sO (s++ [128])=(119-(bG s).length)%64:=by unfold sO;rw[aal];simp only [Zx];omega
 have hM:s++ [128]++List.replicate (sO (s++ [128])) 0++Mg (yY s)=a++(bG s++ [128]++List.replicate (sO (s++ [128])) 0++Mg (yY s)):=by
  conv=>lhs;rw[aaJ,aaJ];lhs;rw[h1]
  simp only [aaJ]
 have hb8:(Mg (yY s)).length=8:=rfl;rw[Mf (by rw[aal,aal,aal,List.length_replicate,hb8,hpd,Zx];omega),hM,qd _ _ _ _ h2, ←hB,hpd];unfold fx;rw[abq (by omega),aaT,aaT];generalize ft KG s V0=W;split
 ·rename_i hc;have e1:(119-(bG s).length)%64=119-(bG s).length:=by omega
  have e2:Ce 128 (yY s) 8 0 (Oo (bG s))=bG s++ [128]++List.replicate (119-(bG s).length) 0++Mg (yY s):=by rw[sQ hr];have:=ID 128 (yY s) (bG s++ [128]++List.replicate (119-(bG s).length) 0) [] (by simp;omega);rw[abo,abo] at this;rw[←this];rw[aaJ (bG s++ [128]),abS,show 119-(bG s).length+8=127-(bG s).length by omega]
  rw[e1,e2];generalize hX:bG s++ [128]++List.replicate (119-(bG s).length) 0++Mg (yY s)=X;have hl:X.length=128:=by rw[←hX];simp [hb8];omega
  rw[abt (by omega),dG (s:=X) (by omega),dG (by rw[aat];omega),gJ (by rw[aat,aat];omega)]
 ·rename_i hc;have e1:(119-(bG s).length)%64=55-(bG s).length:=by omega
  have e2:(Ce 64 (yY s) 8 0 (Oo (bG s))).take 128=(bG s++ [128]++List.replicate (55-(bG s).length) 0)++(Mg (yY s)++List.replicate 64 0):=by
   rw[sQ hr];have:=ID 64 (yY s) (bG s++ [128]++List.replicate (55-(bG s).length) 0) (List.replicate 64 0) (by simp;omega);rw[←this];rw[abS,aaJ (bG s++ [128]),abS,show 55-(bG s).length+(8+64)=127-(bG s).length by omega,abt];have hl:∀(k:Nat) (i:Int) (l:List Nat),(Ce 64 (yY s) k i l).length=l.length:=by
    intro k
    induction k with
    |zero=>intro i l;rfl
    |succ k ih=>intro i l;rw[Ce,ih,abz]
   rw[hl];simp;omega
  rw[e1,e2];generalize hX:bG s++ [128]++List.replicate (55-(bG s).length) 0=X;have hl:X.length=56:=by rw[←hX];simp;omega
  rw[dG (s:=X++Mg (yY s)) (by rw[aal,hb8];omega),gJ (by rw[aat,aal,hb8];omega)];exact uG KG _ (by rw[←aaJ,abs (by rw[aal,hb8];omega)])
noncomputable section
def xQ(y:Sy)(t:Nat):List Int:=(List.range 32).map λj=>y.i (t+j)
def P2(g:G):List Int:=(List.range 32).map λj=>gI (ah g j)
def UB(v:V8):List Int:=(List.range 32).map λj=>hb v j
def VO:List Int:=(List.range 32).map λ_=>0
def hN(l:List Int):G:=.node (l.map .int)
def hT(y:Sy)(t:Nat):G:=.node ((List.range 32).map λj=>.int (y.i (t+j)))
def hX(g:G):G:=.node ((List.range 32).map λj=>.int (gI (ah g j)))
def hG(v:V8):G:=.node ((List.range 32).map λj=>.int (hb v j))
def hZ:G:=.node ((List.range 32).map λ_=>.int 0)
def qf(y:Sy)(t:Nat):hT y t=hN (xQ y t):=by unfold hT hN xQ;rw[aaW];rfl
def qj(g:G):hX g=hN (P2 g):=by unfold hX hN P2;rw[aaW];rfl
def S7(v:V8):hG v=hN (UB v):=by unfold hG hN UB;rw[aaW];rfl
def Cl:hZ=hN VO:=rfl
def gd{a b:List Int}(h:hN a=hN b):a=b:=by
 have:∀a b:List Int,a.map G.int=b.map G.int->a=b:=by
  intro a
  induction a with
  |nil=>intro b h;cases b with|nil=>rfl|cons y b=>simp at h
  |cons x a ih=>intro b h;cases b with
   |nil=>simp at h
   |cons y b=>simp at h;rw[h.1,ih b (by simpa using h.2)]
 unfold hN at h;injection h with h;exact this _ _ h
abbrev E1:Prop:=([]:List Nat)= []
abbrev Vh:Prop:=([]:List G)= []
def Mi(g:G):List Int:=(gL g).map gI
def ra(a b:G):Prop:=Mi a=Mi b
def bN(l:List Int):Mi (hN l)=l:=by unfold Mi hN;show(l.map G.int).map gI=l;rw[aaW];exact List.map_id l
theorem cd{y y':Sy}{t t':Nat}:ra (hT y t) (hT y' t')↔hT y t=hT y' t':=by unfold ra;rw[qf,qf,bN,bN];exact⟨λh=>by rw[h],gd⟩
theorem ce{y:Sy}{t:Nat}{g:G}:ra (hT y t) (hX g)↔hT y t=hX g:=by unfold ra;rw[qf,qj,bN,bN];exact⟨λh=>by rw[h],gd⟩
theorem cf{y:Sy}{t:Nat}{g:G}:ra (hX g) (hT y t)↔hX g=hT y t:=by unfold ra;rw[qf,qj,bN,bN];exact⟨λh=>by rw[h],gd⟩
theorem cg{g g':G}:ra (hX g) (hX g')↔hX g=hX g':=by unfold ra;rw[qj,qj,bN,bN];exact⟨λh=>by rw[h],gd⟩
theorem ci{y:Sy}{t:Nat}:ra (hT y t) hZ↔hT y t=hZ:=by unfold ra;rw[qf,Cl,bN,bN];exact⟨λh=>by rw[h],gd⟩
theorem cj{g:G}:ra (hX g) hZ↔hX g=hZ:=by unfold ra;rw[qj,Cl,bN,bN];exact⟨λh=>by rw[h],gd⟩
theorem ck{y:Sy}{t:Nat}:ra hZ (hT y t)↔hZ=hT y t:=by unfold ra;rw[qf,Cl,bN,bN];exact⟨λh=>by rw[h],gd⟩
theorem cm{g:G}:ra hZ (hX g)↔hZ=hX g:=by unfold ra;rw[qj,Cl,bN,bN];exact⟨λh=>by rw[h],gd⟩
theorem co:ra hZ hZ:=rfl
def FV(y:Sy)(t:Nat)(j:Nat):Int:=y.i (t+j)
def Cm(f g:Nat->Int)(r:Prop):Nat->Prop
 |0=>r
 |n+1=>f n=g n/\Cm f g r n
def qk(f g:Nat->Int)(r:Prop):Prop:=Cm f g r 32
def sR(f g:Nat->Int)(r:Prop):∀n,Cm f g r n↔(∀j,j<n->f j=g j)/\r
 |0=>⟨λh=>⟨λj hj=>by omega,h⟩,λh=>h.2⟩
 |n+1=>by show _/\Cm f g r n↔_;rw[sR f g r n];exact⟨λh=>⟨λj hj=>by by_cases e:j=n;rw[e];exact h.1;exact h.2.1 j (by omega),h.2.2⟩,λh=>⟨h.1 n (by omega),λj hj=>h.1 j (by omega),h.2⟩⟩
theorem aY{f:Nat->Int}{r:Prop}:qk f f r↔r:=by unfold qk;rw[sR];exact⟨λh=>h.2,λh=>⟨λ_ _=>rfl,h⟩⟩
def cD(g:G):Prop:=∃l:List Int,g=hN l/\l.length=32/\∀x∈l,0<=x/\x<256
def xR{α:Type}{l:List α}(h:l.length=32)(f:Nat->α)(hf:∀j (hj:j<l.length),f j=l[j]):(List.range 32).map f=l:=by refine List.ext_getElem (by simp [h]) λi h1 h2=>?_;rw[List.getElem_map,List.getElem_range];exact hf i h2
def lY{g:G}(h:cD g):hX g=g:=by
 obtain⟨l,rfl,hl,_⟩:=h;unfold hX hN;rw[xR (l:=l.map G.int) (by simpa using hl)];intro j hj;have:j<l.length:=by simpa using hj
 simp [ah,gL,gI,this]
def Co(v:V8):cD (hG v):=by
 refine⟨UB v,S7 v,by simp [UB],λx hx=>?_⟩;obtain⟨j,hj,rfl⟩:=List.mem_map.1 hx;have hj:=List.mem_range.1 hj;have key:∀(l:List Int) (j:Nat),(∀x∈l,0<=x/\x<256)->0<=l.getD j 0/\l.getD j 0<256:=λl j h=>by
  rw[aai]
  cases e:l[j]? with
  |none=>exact⟨by decide,by decide⟩
  |some x=>exact h x (Zv e)
 have m:∀n:Int,0<=n%256/\n%256<256:=λn=>by omega
 refine key _ _ λx hx=>?_;simp only [abr,aaS,or_false] at hx;rcases hx with h|h|h|h|h|h|h|h|h|h|h|h|h|h|h|h|h|h|h|h|h|h|h|h|h|h|h|h|h|h|h|h <;> rw[h] <;> exact m _
def ql:cD hZ:=⟨VO,rfl,rfl,λx hx=>by obtain⟨j,_,rfl⟩:=List.mem_map.1 hx;decide⟩
def hB(g:G):List Nat:=(gL g).map λx=>(gI x).toNat
def IE{g:G}(h:cD g):(hB g).length=32:=by obtain⟨l,rfl,hl,_⟩:=h;simp [hB,hN,gL,hl]
def dV(s:List Nat):G:=hG (fx (0::s))
def dl(a b:G):G:=hG (fx (1::(hB a++hB b)))
def fu(a:G)(s:List Nat):G:=hG (fx (2::(hB a++s)))
def qm(s:List Nat):G:=hG (fx s)
theorem lZ(s:List Nat):cD (dV s):=Co _
theorem jl(a b:G):cD (dl a b):=Co _
theorem E2(a:G)(s:List Nat):cD (fu a s):=Co _
theorem Cq(s:List Nat):cD (qm s):=Co _
def om(y:Sy)(t:Nat):(xQ y t).length=32:=by simp [xQ]
def oo(g:G):(P2 g).length=32:=by simp [P2]
def fQ(x:Int)(l:List Int):aN (x::l)=x.toNat::aN l:=rfl
def im(a b:List Int):aN (a++b)=aN a++aN b:=by
 induction a with
 |nil=>rfl
 |cons x a ih=>show _::aN (a++b)=_::(aN a++aN b);rw[ih]
def bV(l:List Int):(aN l).length=l.length:=by induction l with|nil=>rfl|cons x l ih=>simp [aN,ih]
theorem cI(y:Sy)(t:Nat):aN (xQ y t)=hB (hT y t):=rfl
def jF(g:G):aN (P2 g)=hB (hX g):=rfl
def fS(y:Sy)(t:Nat):(hB (hT y t)).length=32:=by simp [hB,hT,gL]
def oq(g:G):(hB (hX g)).length=32:=by simp [hB,hX,gL]
def fT(x:Int)(l:List Int):bA (x::l)↔0<=x/\bA l:=Iff.rfl
def io(a b:List Int):bA (a++b)↔bA a/\bA b:=by
 induction a with
 |nil=>simp [bA]
 |cons x a ih=>show _/\bA (a++b)↔(_/\bA a)/\bA b;rw[ih,and_assoc]
def sT{l:List Int}(h:∀x∈l,0<=x):bA l:=by
 induction l with
 |nil=>trivial
 |cons x l ih=>exact⟨h x aaj,ih λy hy=>h y (aag _ hy)⟩
def bh{y:Sy}{t:Nat}(h:cD (hT y t)):bA (xQ y t):=by obtain⟨l,e,_,hb⟩:=h;rw[qf] at e;rw[gd e];exact sT λx hx=>(hb x hx).1
def jG{g:G}(h:cD (hX g)):bA (P2 g):=by obtain⟨l,e,_,hb⟩:=h;rw[qj] at e;rw[gd e];exact sT λx hx=>(hb x hx).1
def Cr(s:List Nat):hG (fx (0::s))=dV s:=rfl
def Cs(a b:G):hG (fx (1::(hB a++hB b)))=dl a b:=rfl
def uH(a:G)(s:List Nat):hG (fx (2::(hB a++s)))=fu a s:=rfl
def Mj(s:List Nat):hG (fx s)=qm s:=rfl
def Mk:Int.toNat 0=0:=rfl
def Ml:Int.toNat 1=1:=rfl
def Mm:Int.toNat 2=2:=rfl
def hs(t:Nat):List Sh:=(List.range 32).map λj=>.i .u8 (t+j)
def IF:FSpec:=⟨[.c (.vb 1)],[],λz=>(z.s 1).length<=999999,λz=>.one (.ag (hs 300)),λ_=>[],λz y=>hT y 300=dV (z.s 1),[]⟩
abbrev P3:=IF
def AA:FSpec:=⟨[.ag (hs 100),.ag (hs 200)],[],λz=>cD (hT z 100)/\cD (hT z 200),λz=>.one (.ag (hs 300)),λ_=>[],λz y=>hT y 300=dl (hT z 100) (hT z 200),[]⟩
def Mn:FSpec:=⟨[.ag (hs 100),.c (.vb 1)],[],λz=>cD (hT z 100)/\(z.s 1).length<=900000,λz=>.one (.ag (hs 300)),λ_=>[],λz y=>hT y 300=fu (hT z 100) (z.s 1),[]⟩
attribute [irreducible] ra qk hB dV dl fu qm cD xQ P2 hN
end
def nN{p:Prop}(h:p:=by(try conv=>zeta);(repeat' with_reducible first|intro _|apply d_|apply ed|apply ef|apply eu|apply ew);all_goals first|omega|grind [aA,aq,ao,cd,ce,cf,cg,ci,cj,ck,cm,co,aY]):p:=h
def nO{p:Prop}(h:p:=by(try conv=>zeta);(repeat' with_reducible first|intro _|apply d_|apply ed|apply ef|apply eu|apply ew);all_goals first|omega|grind [aA,aq,ao,cd,ce,cf,cg,ci,cj,ck,cm,co,aY,List.append_assoc]):p:=h
def Mo:bI 72 P3:=cC 1 0 (ar S6 eN) lN λz hA=>show Fm.den (let v0:=([Int.toNat 0]++z.s 1);(.an ((0:Int)<=0/\True) (.an (1=1) (.an (1=1/\1<=1000000000/\(z.s 1).length<=1000000) (.an (v0.length=1+(z.s 1).length) (.ct (v0.length<=1000000) (λy0=>True) λy0=>(.ax (hG (sP v0)=dV (z.s 1))))))))) by
 have hB:True/\(z.s 1).length<=999999:=⟨trivial,hA⟩
 conv=>zeta
 repeat' with_reducible first|intro _|apply d_|apply ed|apply ef|apply eu|apply ew
 all_goals first|omega|((try simp only [←ol,fQ,im,cI,jF,fT,io,Mk,Ml,Mm,List.cons_append,List.nil_append,List.append_assoc,Cr,Cs,uH,List.length_append,List.length_cons,List.length_nil,bV,om,oo,fS,oq]) <;> (repeat' first|rfl|trivial|refine And.intro ?_ ?_) <;> first|omega|exact bh hB.2.1|exact bh hB.2.2|exact bh (by assumption)|exact jG (by assumption))|grind [aA,aq,ao]
abbrev P4(a:List Nat):=Fm.ct (a.length<=1000000000) (λy=>True)
def Cu:bI 162 IF:=cC 1 0 (ar xN eN) lN λz hA=>show Fm.den (let v0:=([Int.toNat 0]++z.s 1);(.an ((0:Int)<=0/\True) (.an (1=1) (.an (1=1/\1<=1000000000/\(z.s 1).length<=1000000) (.an (v0.length=1+(z.s 1).length) (P4 v0 λy0=>(.ax (hG (fx v0)=dV (z.s 1))))))))) by
 have hB:True/\(z.s 1).length<=999999:=⟨trivial,hA⟩
 conv=>zeta
 repeat' with_reducible first|intro _|apply d_|apply ed|apply ef|apply eu|apply ew
 all_goals first|omega|((try simp only [←ol,fQ,im,cI,jF,fT,io,Mk,Ml,Mm,List.cons_append,List.nil_append,List.append_assoc,Cr,Cs,uH,List.length_append,List.length_cons,List.length_nil,bV,om,oo,fS,oq]) <;> (repeat' first|rfl|trivial|refine And.intro ?_ ?_) <;> first|omega|exact bh hB.2.1|exact bh hB.2.2|exact bh (by assumption)|exact jG (by assumption))|grind [aA,aq,ao]
def uI:bI 129 AA:=cC 1 0 (ar xN eN) lN λz hA=>show Fm.den (let v0:=((1:Int)::(xQ z 100++xQ z 200));(.an (bA v0) (.an (65=65) (.an (65=65) (.ct (65<=1000000000) (λy0=>True) λy0=>(.ax (hG (fx (aN v0))=dl (hT z 100) (hT z 200)))))))) by
 have hB:True/\cD (hT z 100)/\cD (hT z 200):=⟨trivial,hA⟩
 conv=>zeta
 repeat' with_reducible first|intro _|apply d_|apply ed|apply ef|apply eu|apply ew
 all_goals first|omega|((try simp only [←ol,fQ,im,cI,jF,fT,io,Mk,Ml,Mm,List.cons_append,List.nil_append,List.append_assoc,Cr,Cs,uH,List.length_append,List.length_cons,List.length_nil,bV,om,oo,fS,oq]) <;> (repeat' first|rfl|trivial|refine And.intro ?_ ?_) <;> first|omega|exact bh hB.2.1|exact bh hB.2.2|exact bh (by assumption)|exact jG (by assumption))|grind [aA,aq,ao]
def IG:bI 206 Mn:=cC 1 0 (ar xN eN) lN λz hA=>show Fm.den (let v0:=(aN ((2:Int)::xQ z 100)++z.s 1);(.an (bA ((2:Int)::xQ z 100)) (.an (33=33) (.an (33=33/\33<=1000000000/\(z.s 1).length<=1000000) (.an (v0.length=33+(z.s 1).length) (P4 v0 λy0=>(.ax (hG (fx v0)=fu (hT z 100) (z.s 1))))))))) by
 have hB:True/\cD (hT z 100)/\(z.s 1).length<=900000:=⟨trivial,hA⟩
 conv=>zeta
 repeat' with_reducible first|intro _|apply d_|apply ed|apply ef|apply eu|apply ew
 all_goals first|omega|((try simp only [←ol,fQ,im,cI,jF,fT,io,Mk,Ml,Mm,List.cons_append,List.nil_append,List.append_assoc,Cr,Cs,uH,List.length_append,List.length_cons,List.length_nil,bV,om,oo,fS,oq]) <;> (repeat' first|rfl|trivial|refine And.intro ?_ ?_) <;> first|omega|exact bh hB.2.1|exact bh hB.2.2|exact bh (by assumption)|exact jG (by assumption))|grind [aA,aq,ao]
noncomputable section
abbrev sU(l:List G)(i:Int):List Nat:=gS (ah (aL l i.toNat) 0)
def IH(l:List G)(i:Int):Prop:=(1<=(sU l i).length/\(sU l i).length<=40)/\(0<i->tC (sU l (i-1)) (sU l i)=true)
def fy(l:List G)(n:Int):Prop:=∀i:Int,0<=i->i<n->IH l i
theorem xS(l:List G){n:Int}(h:n<=0):fy l n:=λi h0 h1=>by omega
def xT{l:List G}{n:Int}(h:fy l n)(h1:IH l n):fy l (n+1):=λi h0 hi=>by
 by_cases e:i<n
 ·exact h i h0 e
 ·have:i=n:=by omega
  rw[this];exact h1
theorem II{l:List G}{n m:Int}(h:fy l n)(e:m<=n):fy l m:=λi h0 hi=>h i h0 (by omega)
def Cv{l:List G}{n m:Int}(h:¬IH l n)(h0:0<=n)(h1:n<m):¬fy l m:=λhh=>h (hh n h0 h1)
def uJ{l:List G}{n m:Int}(h:fy l m)(h0:0<=n)(h1:n<m):(sU l n).length<=40:=(h n h0 h1).1.2
def nP(ns ks:List G):Prop:=fy ns ns.length/\ns.length=ks.length
def vE(kd i sc:Int)(t:List Nat)(ns ks:List G):Prop:=
 if kd=1 then i=0/\sc=0/\ns.length=0/\ks.length=0/\t= [] else if kd=2 then(0<=i/\i<=1)/\sc=0/\ns.length=0/\ks.length=0/\t= [] else if kd=3 then sc=0/\ns.length=0/\ks.length=0/\t= [] else if kd=4 then(1<=sc/\sc<=18)/\i%10≠0/\ns.length=0/\ks.length=0/\t= [] else if kd=5 then(0<=i/\i<=9007199254740992)/\sc=0/\ns.length=0/\ks.length=0/\t= [] else if kd=6 then i=0/\sc=0/\ns.length=0/\ks.length=0 else if kd=7 then i=0/\sc=0/\ns.length=0/\ks.length=0 else if kd=8 then i=0/\sc=0/\ns.length=0/\t= [] else if kd=9 then i=0/\sc=0/\t= [] else False
def Cw{kd i sc:Int}{t:List Nat}{ns ks:List G}(h:kd=1):vE kd i sc t ns ks↔i=0/\sc=0/\ns.length=0/\ks.length=0/\t= []:=by subst h;rfl
def Cx{kd i sc:Int}{t:List Nat}{ns ks:List G}(h:kd=2):vE kd i sc t ns ks↔(0<=i/\i<=1)/\sc=0/\ns.length=0/\ks.length=0/\t= []:=by subst h;rfl
def Cy{kd i sc:Int}{t:List Nat}{ns ks:List G}(h:kd=3):vE kd i sc t ns ks↔sc=0/\ns.length=0/\ks.length=0/\t= []:=by subst h;rfl
def Cz{kd i sc:Int}{t:List Nat}{ns ks:List G}(h:kd=4):vE kd i sc t ns ks↔(1<=sc/\sc<=18)/\i%10≠0/\ns.length=0/\ks.length=0/\t= []:=by subst h;rfl
def IJ{kd i sc:Int}{t:List Nat}{ns ks:List G}(h:kd=5):vE kd i sc t ns ks↔(0<=i/\i<=9007199254740992)/\sc=0/\ns.length=0/\ks.length=0/\t= []:=by subst h;rfl
def CA{kd i sc:Int}{t:List Nat}{ns ks:List G}(h:kd=6):vE kd i sc t ns ks↔i=0/\sc=0/\ns.length=0/\ks.length=0:=by subst h;rfl
def CB{kd i sc:Int}{t:List Nat}{ns ks:List G}(h:kd=7):vE kd i sc t ns ks↔i=0/\sc=0/\ns.length=0/\ks.length=0:=by subst h;rfl
def CC{kd i sc:Int}{t:List Nat}{ns ks:List G}(h:kd=8):vE kd i sc t ns ks↔i=0/\sc=0/\ns.length=0/\t= []:=by subst h;rfl
def IK{kd i sc:Int}{t:List Nat}{ns ks:List G}(h:kd=9):vE kd i sc t ns ks↔i=0/\sc=0/\t= []:=by subst h;rfl
def IL{kd i sc:Int}{t:List Nat}{ns ks:List G}(h:kd<1∨9<kd):¬vE kd i sc t ns ks:=by unfold vE;rw[if_neg (by omega),if_neg (by omega),if_neg (by omega),if_neg (by omega),if_neg (by omega),if_neg (by omega),if_neg (by omega),if_neg (by omega),if_neg (by omega)];exact id
open Classical in
def kV(kd i sc:Int)(t:List Nat)(ns ks:List G):Int:=
 if ¬vE kd i sc t ns ks then 3 else if 16384<t.length∨200<ks.length then 5 else if kd=9/\¬nP ns ks then 3 else 0
def xU{kd i sc:Int}{t:List Nat}{ns ks:List G}(h:¬vE kd i sc t ns ks):kV kd i sc t ns ks=3:=by unfold kV;rw[if_pos h]
def xV{kd i sc:Int}{t:List Nat}{ns ks:List G}(h:vE kd i sc t ns ks)(h1:16384<t.length∨200<ks.length):kV kd i sc t ns ks=5:=by unfold kV;rw[if_neg (Classical.not_not.2 h),if_pos h1]
def xW{kd i sc:Int}{t:List Nat}{ns ks:List G}(h:vE kd i sc t ns ks)(h1:¬(16384<t.length∨200<ks.length))(h2:kd=9/\¬nP ns ks):kV kd i sc t ns ks=3:=by unfold kV;rw[if_neg (Classical.not_not.2 h),if_neg h1,if_pos h2]
def IM{kd i sc:Int}{t:List Nat}{ns ks:List G}(h:vE kd i sc t ns ks)(h1:¬(16384<t.length∨200<ks.length))(h2:¬(kd=9/\¬nP ns ks)):kV kd i sc t ns ks=0:=by unfold kV;rw[if_neg (Classical.not_not.2 h),if_neg h1,if_neg h2]
def l_{kd i sc:Int}{t:List Nat}{ns ks:List G}(h:kV kd i sc t ns ks=0):vE kd i sc t ns ks/\t.length<=16384/\ks.length<=200/\(kd=9->nP ns ks):=by
 unfold kV at h;split at h
 ·cases h
 ·rename_i h0;split at h
  ·cases h
  ·rename_i h1;split at h
   ·cases h
   ·rename_i h2;exact⟨Classical.not_not.1 h0,by omega,by omega,λe=>Classical.not_not.1 λhn=>h2 ⟨e,hn⟩⟩
def S8(x:Int):x.tmod 10=0↔x%10=0:=by
 rw[Int.tmod_eq_emod];split
 ·simp
 ·constructor
  ·intro h;omega
  ·intro h;rename_i hn;exact absurd (Or.inr (abJ h)) hn
def nQ:List Int->Int
 | []=>0
 |x::l=>if x=0 then nQ l else x
def CD:Nat->G->Int
 |0,_=>9
 |k+1,g=>if kV (gI (ah g 0)) (gI (ah g 1)) (gI (ah g 2)) (gS (ah g 3)) (gL (ah g 4)) (gL (ah g 5))=0 then nQ ((gL (ah g 5)).map (CD k)) else kV (gI (ah g 0)) (gI (ah g 1)) (gI (ah g 2)) (gS (ah g 3)) (gL (ah g 4)) (gL (ah g 5))
def dm(k:Nat)(ks:List G)(i:Int):Int:=nQ ((ks.drop i.toNat).map (CD k))
def ge(k:Nat)(kd i sc:Int)(t:List Nat)(ns ks:List G):Int:=match k with
 |0=>9
 |k+1=>if kV kd i sc t ns ks=0 then dm k ks 0 else kV kd i sc t ns ks
def eD(k:Nat)(g:G):ge k (gI (ah g 0)) (gI (ah g 1)) (gI (ah g 2)) (gS (ah g 3)) (gL (ah g 4)) (gL (ah g 5))=CD k g:=by cases k <;> rfl
theorem fw(kd i sc:Int)(t:List Nat)(ns ks:List G):ge 0 kd i sc t ns ks=9:=rfl
theorem ma{k:Nat}{kd i sc:Int}{t:List Nat}{ns ks:List G}(h:¬kV kd i sc t ns ks=0):ge (k+1) kd i sc t ns ks=kV kd i sc t ns ks:=if_neg h
theorem qn{k:Nat}{kd i sc:Int}{t:List Nat}{ns ks:List G}(h:kV kd i sc t ns ks=0):ge (k+1) kd i sc t ns ks=dm k ks 0:=if_pos h
def fU{l:List G}{i:Int}(h0:0<=i)(h:i<l.length):l.drop i.toNat=aL l i.toNat::l.drop (i+1).toNat:=by
 have h1:i.toNat<l.length:=by omega
 rw[aba h1,show(i+1).toNat=i.toNat+1 by omega];congr 1;unfold aL;rw[aai,aah h1];rfl
def xX{k:Nat}{ks:List G}{i:Int}(h0:0<=i)(h:i<ks.length)(e:CD k (aL ks i.toNat)=0):dm k ks i=dm k ks (i+1):=by unfold dm;rw[fU h0 h,aaw,nQ,if_pos e]
def CE{k:Nat}{ks:List G}{i:Int}(h0:0<=i)(h:i<ks.length)(e:¬CD k (aL ks i.toNat)=0):dm k ks i=CD k (aL ks i.toNat):=by unfold dm;rw[fU h0 h,aaw,nQ,if_neg e]
def uK{k:Nat}{ks:List G}{i:Int}(h:(ks.length:Int)<=i):dm k ks i=0:=by unfold dm;rw[Zw (by omega)];rfl
def qp:∀{l:List Int},nQ l=0->∀x∈l,x=0
 | [],_,x,hx=>by cases hx
 |y::l,h,x,hx=>by
  unfold nQ at h;split at h
  ·rename_i e;rcases List.mem_cons.1 hx with rfl|hx
   ·exact e
   ·exact qp h x hx
  ·rename_i e;exact absurd h e
def dK{l:List G}{i:Int}(h0:0<=i)(h:i<l.length):aL l i.toNat∈l:=by
 have h1:i.toNat<l.length:=by omega
 unfold aL;rw[aai,aah h1];exact abk _
def jH{k:Nat}{ks:List G}{i:Int}(h:dm k ks 0=0)(h0:0<=i)(hi:i<ks.length):CD k (aL ks i.toNat)=0:=
 qp h _ (abf (by rw[show(0:Int).toNat=0 by rfl,aaT];exact dK h0 hi))
def nR(v:Int):Int:=if 0<=v then 2 * v else -2 * v-1
def IN{a:Nat}(h:a<18446744073709551616):Nat.xor a 18446744073709551615=18446744073709551615-a:=by
 show a ^^^ 18446744073709551615=_;refine Nat.eq_of_testBit_eq λi=>?_;rw[Nat.testBit_xor,show 18446744073709551615-a=2 ^ 64-(a+1) by omega,Nat.testBit_two_pow_sub_succ (by simpa using h),show 18446744073709551615=2 ^ 64-1 by decide,Nat.testBit_two_pow_sub_one];by_cases hi:i<64
 ·simp [hi]
 ·simp [hi];exact Nat.testBit_lt_two_pow (Zm (by simpa using h:a<2 ^ 64) (abK (by decide) (by omega)))
def Oy{n:Int}(h0:0<=n)(h:n<18446744073709551616):aD (ai .u64) n=n.toNat:=by
 obtain⟨m,rfl⟩:∃m:Nat,n=m:=⟨n.toNat,by omega⟩
 show m%18446744073709551616=_;rw[abc (by omega)];rfl
def P5{v x:Int}(h: -9223372036854775808<=v/\v<9223372036854775808)(hx:x=v * 2%18446744073709551616):IntKind.u64.wrap (Int.ofNat ((aD (ai .u64) x).xor (aD (ai .u64) (v/9223372036854775808%18446744073709551616))))=nR v:=by
 subst hx;rw[mV,Oy (by omega) (by omega),Oy (by omega) (by omega)];unfold nR;split
 ·rw[show(v/9223372036854775808%18446744073709551616).toNat=0 by omega];have e:((v * 2%18446744073709551616).toNat).xor 0=(v * 2%18446744073709551616).toNat:=Nat.xor_zero _;rw[e];show((v * 2%18446744073709551616).toNat:Int)%_=_;omega
 ·rw[show(v/9223372036854775808%18446744073709551616).toNat=18446744073709551615 by omega,IN (by omega)];show((18446744073709551615-(v * 2%18446744073709551616).toNat:Nat):Int)%_=_;omega
def P6(x:Int):IntKind.i64.wrap x%18446744073709551616=x%18446744073709551616:=by
 have key:∀(c:Bool) (a b:Int),a%18446744073709551616=x%18446744073709551616->b%18446744073709551616=x%18446744073709551616->(if c=true then a else b)%18446744073709551616=x%18446744073709551616:=λc a b h1 h2=>by cases c <;> simp [h1,h2]
 exact key _ _ _ (by show(x%18446744073709551616-18446744073709551616)%_=_;omega) (by show(x%18446744073709551616)%_=_;omega)
def Mp{v:Int}(h:0<=v):nR v=2 * v:=if_pos h
def Mq{v:Int}(h:v<0):nR v= -2 * v-1:=if_neg (by omega)
def P7(e:G->List Nat)(kd:Int)(ns ks:List G):Nat->Int->List Nat
 |0,_=>[]
 |n+1,i=>(if kd=9 then aG (sU ns i).length++sU ns i else [])++(e (aL ks i.toNat)++P7 e kd ns ks n (i+1))
def sV(e:G->List Nat)(kd:Int)(ns ks:List G)(i:Int):List Nat:=P7 e kd ns ks ((ks.length:Int)-i).toNat i
def xY{e:G->List Nat}{kd:Int}{ns ks:List G}{i:Int}(h0:kd=9)(h:i<ks.length):sV e kd ns ks i=aG (sU ns i).length++(sU ns i++(e (aL ks i.toNat)++sV e kd ns ks (i+1))):=by unfold sV;rw[show((ks.length:Int)-i).toNat=((ks.length:Int)-(i+1)).toNat+1 by omega];show(if kd=9 then _ else _)++_=_;rw[if_pos h0,aaJ]
def xZ{e:G->List Nat}{kd:Int}{ns ks:List G}{i:Int}(h0:¬kd=9)(h:i<ks.length):sV e kd ns ks i=e (aL ks i.toNat)++sV e kd ns ks (i+1):=by unfold sV;rw[show((ks.length:Int)-i).toNat=((ks.length:Int)-(i+1)).toNat+1 by omega];show(if kd=9 then _ else _)++_=_;rw[if_neg h0];rfl
def CF{e:G->List Nat}{kd:Int}{ns ks:List G}{i:Int}(h:(ks.length:Int)<=i):sV e kd ns ks i= []:=by unfold sV;rw[show((ks.length:Int)-i).toNat=0 by omega];rfl
def E3(e:G->List Nat)(kd i sc:Int)(t:List Nat)(ns ks:List G):List Nat:=
 if kd=2 then [(i%256).toNat] else if kd=3 then aG (nR i).toNat else if kd=4 then aG (nR i).toNat++ [(sc%256).toNat] else if kd=5 then aG (i%18446744073709551616).toNat
 else if kd=6∨kd=7 then aG t.length++t else if kd=8∨kd=9 then aG ks.length++sV e kd ns ks 0 else []
def jm:Nat->G->List Nat
 |0,_=>[]
 |k+1,g=>(gI (ah g 0)%256).toNat::E3 (jm k) (gI (ah g 0)) (gI (ah g 1)) (gI (ah g 2)) (gS (ah g 3)) (gL (ah g 4)) (gL (ah g 5))
def dw(k:Nat)(kd i sc:Int)(t:List Nat)(ns ks:List G):List Nat:=match k with
 |0=>[]
 |k+1=>(kd%256).toNat::E3 (jm k) kd i sc t ns ks
def qq(k:Nat)(g:G):dw k (gI (ah g 0)) (gI (ah g 1)) (gI (ah g 2)) (gS (ah g 3)) (gL (ah g 4)) (gL (ah g 5))=jm k g:=by cases k <;> rfl
def qr(k:Nat){kd i sc:Int}{t:List Nat}{ns ks:List G}(h:kd=2):dw (k+1) kd i sc t ns ks= [(kd%256).toNat]++ [(i%256).toNat]:=by simp [dw,E3,h]
def uL(k:Nat){kd i sc:Int}{t:List Nat}{ns ks:List G}(h:kd=3):dw (k+1) kd i sc t ns ks= [(kd%256).toNat]++aG (nR i).toNat:=by simp [dw,E3,h]
def uM(k:Nat){kd i sc:Int}{t:List Nat}{ns ks:List G}(h:kd=4):dw (k+1) kd i sc t ns ks= [(kd%256).toNat]++(aG (nR i).toNat++ [(sc%256).toNat]):=by simp [dw,E3,h]
def qs(k:Nat){kd i sc:Int}{t:List Nat}{ns ks:List G}(h:kd=5):dw (k+1) kd i sc t ns ks= [(kd%256).toNat]++aG (i%18446744073709551616).toNat:=by simp [dw,E3,h]
def mc(k:Nat){kd i sc:Int}{t:List Nat}{ns ks:List G}(h:kd=6∨kd=7):dw (k+1) kd i sc t ns ks= [(kd%256).toNat]++(aG t.length++t):=by rcases h with h|h <;> simp [dw,E3,h]
def qt(k:Nat){kd i sc:Int}{t:List Nat}{ns ks:List G}(h:kd=8∨kd=9):dw (k+1) kd i sc t ns ks= [(kd%256).toNat]++(aG ks.length++sV (jm k) kd ns ks 0):=by rcases h with h|h <;> simp [dw,E3,h]
def qu(k:Nat){kd i sc:Int}{t:List Nat}{ns ks:List G}(h:kd<2∨9<kd):dw (k+1) kd i sc t ns ks= [(kd%256).toNat]:=by show _::E3 _ _ _ _ _ _ _=_;unfold E3;rw[if_neg (by omega),if_neg (by omega),if_neg (by omega),if_neg (by omega),if_neg (by omega),if_neg (by omega)]
def RZ(w:G->Nat)(ks:List G):Nat->Int->Nat
 |0,_=>0
 |n+1,i=>50+w (aL ks i.toNat)+RZ w ks n (i+1)
def rb(w:G->Nat)(ks:List G)(i:Int):Nat:=RZ w ks ((ks.length:Int)-i).toNat i
def x_{w:G->Nat}{ks:List G}{i:Int}(h:i<ks.length):rb w ks i=50+w (aL ks i.toNat)+rb w ks (i+1):=by unfold rb;rw[show((ks.length:Int)-i).toNat=((ks.length:Int)-(i+1)).toNat+1 by omega];rfl
def jU:Nat->G->Nat
 |0,_=>0
 |k+1,g=>24+(gS (ah g 3)).length+rb (jU k) (gL (ah g 5)) 0
def sW(k:Nat)(t:List Nat)(ks:List G):Nat:=match k with
 |0=>0
 |k+1=>24+t.length+rb (jU k) ks 0
def uN(k:Nat)(g:G):sW k (gS (ah g 3)) (gL (ah g 5))=jU k g:=by cases k <;> rfl
def ya(k:Nat)(t:List Nat)(ks:List G):sW (k+1) t ks=24+t.length+rb (jU k) ks 0:=rfl
def IP:Nat->G->Prop
 |0,_=>True
 |k+1,g=>((-9223372036854775808<=gI (ah g 1)/\gI (ah g 1)<9223372036854775808)/\(gS (ah g 3)).length<=1000000/\(gL (ah g 4)).length<=1000000/\(gL (ah g 5)).length<=1000000)/\∀x∈gL (ah g 5),IP k x
def E4(k:Nat)(ks:List G):Prop:=∀x∈ks,IP k x
def qw(k:Nat)(i:Int)(t:List Nat)(ns ks:List G):Prop:=match k with
 |0=>True
 |k+1=>((-9223372036854775808<=i/\i<9223372036854775808)/\t.length<=1000000/\ns.length<=1000000/\ks.length<=1000000)/\E4 k ks
def mZ(k:Nat)(g:G):qw k (gI (ah g 1)) (gS (ah g 3)) (gL (ah g 4)) (gL (ah g 5))=IP k g:=by cases k <;> rfl
def Mr{k:Nat}{i:Int}{t:List Nat}{ns ks:List G}(h:qw (k+1) i t ns ks):(-9223372036854775808<=i/\i<9223372036854775808)/\t.length<=1000000/\ns.length<=1000000/\ks.length<=1000000:=h.1
def IQ{k:Nat}{i:Int}{t:List Nat}{ns ks:List G}(h:qw (k+1) i t ns ks):E4 k ks:=h.2
def me{k:Nat}{ks:List G}{i:Int}(h:E4 k ks)(h0:0<=i)(hi:i<ks.length):IP k (aL ks i.toNat):=h _ (dK h0 hi)
def CH{k:Nat}{g:G}(h:CD (k+1) g=0):kV (gI (ah g 0)) (gI (ah g 1)) (gI (ah g 2)) (gS (ah g 3)) (gL (ah g 4)) (gL (ah g 5))=0/\dm k (gL (ah g 5)) 0=0:=by
 rw[←eD] at h;by_cases e:kV (gI (ah g 0)) (gI (ah g 1)) (gI (ah g 2)) (gS (ah g 3)) (gL (ah g 4)) (gL (ah g 5))=0
 ·rw[qn e] at h;exact⟨e,h⟩
 ·rw[ma e] at h;exact absurd h e
def AB{v:Int}(h: -9223372036854775808<=v/\v<9223372036854775808):0<=nR v/\nR v<18446744073709551616:=by unfold nR;split <;> omega
def CI{k:Nat}(ih:∀g,CD k g=0->IP k g->(jm k g).length<=jU k g){kd:Int}{ns ks:List G}(hk:dm k ks 0=0)(hv:E4 k ks)(hn:kd=9->fy ns ks.length):∀(n:Nat) (i:Int),0<=i->i+n=ks.length->(P7 (jm k) kd ns ks n i).length<=RZ (jU k) ks n i
 |0,_,_,_=>aab _
 |n+1,i,h0,hi=>by
  have h1:=CI ih hk hv hn n (i+1) (by omega) (by omega);have h2:=ih _ (jH hk h0 (by omega)) (me hv h0 (by omega));have h3:(if kd=9 then aG (sU ns i).length++sU ns i else []).length<=50:=by
   split
   ·rename_i e;have:=uJ (hn e) h0 (n:=i) (by omega);rw[aal];have:=uB 1 (sU ns i).length (by omega) (by decide);omega
   ·simp
  show((if kd=9 then aG (sU ns i).length++sU ns i else [])++(jm k (aL ks i.toNat)++P7 (jm k) kd ns ks n (i+1))).length<=50+jU k (aL ks i.toNat)+RZ (jU k) ks n (i+1);rw[aal,aal];omega
def ot:∀(k:Nat) (g:G),CD k g=0->IP k g->(jm k g).length<=jU k g
 |0,_,_,_=>aab _
 |k+1,g,h,hv=>by
  obtain⟨hs,h⟩:=CH h;obtain⟨h1,h2,h3,h4⟩:=l_ hs;have u10:∀n:Nat,n<18446744073709551616->(aG n).length<=10:=λn hn=>uB 10 n (Zm hn (by decide)) (by decide);have hz:∀i:Int,0<=(i%18446744073709551616)/\(i%18446744073709551616).toNat<18446744073709551616:=λi=>by omega
  have hf:(sV (jm k) (gI (ah g 0)) (gL (ah g 4)) (gL (ah g 5)) 0).length<=rb (jU k) (gL (ah g 5)) 0:=
   CI (ot k) h hv.2 (λe=>by have:=(h4 e).1;rw[(h4 e).2] at this;exact this) _ 0 (by decide) (by omega)
  show((gI (ah g 0)%256).toNat::E3 (jm k) (gI (ah g 0)) (gI (ah g 1)) (gI (ah g 2)) (gS (ah g 3)) (gL (ah g 4)) (gL (ah g 5))).length<=24+(gS (ah g 3)).length+rb (jU k) (gL (ah g 5)) 0;rw[aaM];have al3:(aG (nR (gI (ah g 1))).toNat).length<=10:=u10 _ (by have:=AB hv.1.1;omega);have:(E3 (jm k) (gI (ah g 0)) (gI (ah g 1)) (gI (ah g 2)) (gS (ah g 3)) (gL (ah g 4)) (gL (ah g 5))).length<=23+(gS (ah g 3)).length+rb (jU k) (gL (ah g 5)) 0:=by
   unfold E3;split
   ·simp;omega
   ·split
    ·omega
    ·split
     ·rw[aal];simp;omega
     ·split
      ·have:=u10 _ (hz (gI (ah g 1))).2;omega
      ·split
       ·rw[aal];have:=u10 (gS (ah g 3)).length (by omega);omega
       ·split
        ·rw[aal];have:=u10 (gL (ah g 5)).length (by omega);omega
        ·simp
  omega
def P8:Nat->G->Nat
 |0,_=>0
 |k+1,g=>1+(gS (ah g 3)).length+((gL (ah g 5)).map (P8 k)).sum
def sX(k:Nat)(ks:List G)(i:Int):Nat:=((ks.drop i.toNat).map (P8 k)).sum
def Ms(k:Nat)(t:List Nat)(ks:List G):Nat:=match k with
 |0=>0
 |k+1=>1+t.length+sX k ks 0
def IR(k:Nat)(t:List Nat)(ks:List G):Ms (k+1) t ks=1+t.length+sX k ks 0:=rfl
def AC(k:Nat)(g:G):Ms k (gS (ah g 3)) (gL (ah g 5))=P8 k g:=by cases k <;> rfl
def yb{k:Nat}{ks:List G}{i:Int}(h0:0<=i)(h:i<ks.length):sX k ks i=P8 k (aL ks i.toNat)+sX k ks (i+1):=by unfold sX;rw[fU h0 h,aaw,abg]
def uO{k:Nat}{ks:List G}{i:Int}(h:(ks.length:Int)<=i):sX k ks i=0:=by unfold sX;rw[Zw (by omega)];rfl
def IS{k:Nat}(ih:∀g,CD k g=0->P8 k g<=(jm k g).length){kd:Int}{ns ks:List G}(hk:dm k ks 0=0):∀(n:Nat) (i:Int),0<=i->i+n=ks.length->sX k ks i<=(P7 (jm k) kd ns ks n i).length
 |0,i,h0,h=>by rw[uO (by omega)];exact aan _
 |n+1,i,h0,hi=>by have h1:=IS ih hk (kd:=kd) (ns:=ns) n (i+1) (by omega) (by omega);have h2:=ih _ (jH hk h0 (by omega));rw[yb h0 (by omega)];show _<=((if kd=9 then aG (sU ns i).length++sU ns i else [])++(jm k (aL ks i.toNat)++P7 (jm k) kd ns ks n (i+1))).length;rw[aal,aal];omega
def IT:∀(k:Nat) (g:G),CD k g=0->P8 k g<=(jm k g).length
 |0,_,_=>aan _
 |k+1,g,h=>by
  obtain⟨hs,h⟩:=CH h;obtain⟨h1,h2,h3,h4⟩:=l_ hs;rw[←qq, ←AC];have hp:=IS (IT k) (kd:=gI (ah g 0)) (ns:=gL (ah g 4)) h (((gL (ah g 5)).length:Int)-0).toNat 0 (by decide) (by omega);have hk8:∀n:Nat,1<=(aG n).length:=λn=>by rw[aG];split <;> simp
  show 1+_+sX k _ 0<=_;have hd:gI (ah g 0)=1∨gI (ah g 0)=2∨gI (ah g 0)=3∨gI (ah g 0)=4∨gI (ah g 0)=5∨gI (ah g 0)=6∨gI (ah g 0)=7∨gI (ah g 0)=8∨gI (ah g 0)=9:=by
   by_cases e:gI (ah g 0)<1∨9<gI (ah g 0)
   ·exact absurd h1 (IL e)
   ·omega
  have e0:(gL (ah g 5)).length=0->sX k (gL (ah g 5)) 0=0:=λe=>uO (by omega);have hl:(gI (ah g 0)=8∨gI (ah g 0)=9)->gS (ah g 3)= []->1+(gS (ah g 3)).length+sX k (gL (ah g 5)) 0<=(dw (k+1) (gI (ah g 0)) (gI (ah g 1)) (gI (ah g 2)) (gS (ah g 3)) (gL (ah g 4)) (gL (ah g 5))).length:=λe ht=>by rw[qt k e,ht];have:=hk8 (gL (ah g 5)).length;simp only [aal,aaM,abx];show 1+0+_<=0+1+(_+(P7 (jm k) _ _ _ _ 0).length);omega
  rcases hd with e|e|e|e|e|e|e|e|e
  ·have v:=(Cw e).1 h1;rw[qu k (by omega),v.2.2.2.2,e0 v.2.2.2.1];simp
  ·have v:=(Cx e).1 h1;rw[qr k e,v.2.2.2.2,e0 v.2.2.2.1];simp
  ·have v:=(Cy e).1 h1;rw[uL k e,v.2.2.2,e0 v.2.2.1];simp
  ·have v:=(Cz e).1 h1;rw[uM k e,v.2.2.2.2,e0 v.2.2.2.1];simp
  ·have v:=(IJ e).1 h1;rw[qs k e,v.2.2.2.2,e0 v.2.2.2.1];simp
  ·have v:=(CA e).1 h1;rw[mc k (.inl e),e0 v.2.2.2];simp;omega
  ·have v:=(CB e).1 h1;rw[mc k (.inr e),e0 v.2.2.2];simp;omega
  ·have v:=(CC e).1 h1;exact hl (.inl e) v.2.2.2
  ·have v:=(IK e).1 h1;exact hl (.inr e) v.2.2
def va:List Sh:=[.i .i64 1,.i .i64 2,.i .i64 3,.s 4,.v 1 5,.v 2 6]
def vp(p:Sy):List Sh:=[.pi .i64 (p.i 1),.pi .i64 (p.i 2),.pi .i64 (p.i 3),.ps (p.s 4),.pv 1 (p.g 5),.pv 2 (p.g 6)]
abbrev VP(z:Sy):Int:=kV (z.i 1) (z.i 2) (z.i 3) (z.s 4) (z.g 5) (z.g 6)
abbrev uP(k:Nat)(z:Sy):Int:=ge k (z.i 1) (z.i 2) (z.i 3) (z.s 4) (z.g 5) (z.g 6)
abbrev uQ(k:Nat)(z:Sy):Prop:=qw k (z.i 2) (z.s 4) (z.g 5) (z.g 6)
abbrev IU(k:Nat)(z:Sy):List Nat:=dw k (z.i 1) (z.i 2) (z.i 3) (z.s 4) (z.g 5) (z.g 6)
def qx(p:Sy):LSpec:=⟨[(1,.c (.p 0)),(6,.c (.pv 1 (p.g 5))),(7,.c (.pi .i64 (p.g 5).length)),(8,.c (.i .i64 9))],[.cells 25 (vp p)],λz=>(p.g 5).length<=1000000/\(0<=z.i 9/\z.i 9<=(p.g 5).length)/\fy (p.g 5) (z.i 9),λz=>((p.g 5).length-z.i 9).toNat,[⟨.exit 0,[(1,.c (.p 0))],[.cells 25 (vp p)]⟩,⟨.ret,[(2,.c (.b 10))],[.cells 25 (vp p)]⟩],λz y=>(y.i 999=0->fy (p.g 5) (p.g 5).length)/\(¬y.i 999=0->¬y.p 10/\¬fy (p.g 5) (p.g 5).length),[],[]⟩
def yc:FSpec:=⟨[.ag va],[],λz=>(z.g 5).length<=1000000,λ_=>.one (.c (.b 10)),λ_=>[],λz y=>y.p 10↔nP (z.g 5) (z.g 6),[]⟩
def CJ:FSpec:=⟨[.ag va],[],λz=>(z.s 4).length<=1000000/\(z.g 5).length<=1000000/\(z.g 6).length<=1000000,λ_=>.one (.c (.i .i64 10)),λ_=>[],λz y=>y.i 10=VP z,[]⟩
def sY(k:Nat)(p:Sy):LSpec:=⟨[(1,.c (.pi .i64 (p.i 7))),(17,.c (.pv 2 (p.g 6))),(18,.c (.pi .i64 (p.g 6).length)),(19,.c (.i .i64 9))],[],λz=>p.i 7=16-(k:Int)/\k<=15/\E4 k (p.g 6)/\(p.g 6).length<=1000000/\(0<=z.i 9/\z.i 9<=(p.g 6).length)/\dm k (p.g 6) 0=dm k (p.g 6) (z.i 9),λz=>((p.g 6).length-z.i 9).toNat,[⟨.exit 0,[],[]⟩,⟨.ret,[(4,.c (.i .i64 10))],[]⟩],λz y=>(y.i 999=0->dm k (p.g 6) 0=0)/\(¬y.i 999=0->y.i 10=dm k (p.g 6) 0),[],[]⟩
def eR(k:Nat):FSpec:=⟨[.ag va,.c (.i .i64 7)],[],λz=>z.i 7=17-(k:Int)/\k<=16/\uQ k z,λ_=>.one (.c (.i .i64 10)),λ_=>[],λz y=>y.i 10=uP k z,[]⟩
def ou:FSpec:=⟨[.ag va],[],λz=>uQ 16 z,λ_=>.one (.c (.i .i64 10)),λ_=>[],λz y=>y.i 10=uP 16 z,[]⟩
def sZ(p:Sy):LSpec:=⟨[(0,.ag (vp p)),(2,.c (.p 0)),(1,.c (.pi .i64 (p.i 7))),(7,.c (.i .i64 9))],[.cells 25 (vp p)],λz=>(p.g 5).length<=1000000/\(0<=z.i 9/\z.i 9<=(p.g 5).length)/\fy (p.g 5) (z.i 9),λz=>((p.g 5).length-z.i 9).toNat,[⟨.exit 1,[(0,.ag (vp p)),(1,.c (.pi .i64 (p.i 7))),(2,.c (.p 0))],[.cells 25 (vp p)]⟩,⟨.ret,[(4,.c (.i .i64 10))],[.cells 25 (vp p)]⟩],λz y=>(y.i 999=0->fy (p.g 5) (p.g 5).length)/\(¬y.i 999=0->y.i 10=3/\¬fy (p.g 5) (p.g 5).length),[],[]⟩
def s_(k:Nat)(p:Sy):LSpec:=⟨[(1,.c (.pi .i64 (p.i 7))),(2,.c (.p 0)),(8,.c (.i .i64 9))],[.cells 25 (vp p)],λz=>p.i 7=16-(k:Int)/\k<=15/\E4 k (p.g 6)/\(p.g 6).length<=1000000/\(0<=z.i 9/\z.i 9<=(p.g 6).length)/\dm k (p.g 6) 0=dm k (p.g 6) (z.i 9),λz=>((p.g 6).length-z.i 9).toNat,[⟨.exit 3,[],[.cells 25 (vp p)]⟩,⟨.ret,[(4,.c (.i .i64 10))],[.cells 25 (vp p)]⟩],λz y=>(y.i 999=0->dm k (p.g 6) 0=0)/\(¬y.i 999=0->y.i 10=dm k (p.g 6) 0),[],[]⟩
abbrev uR:=eR
abbrev CK:=ou
def P9:FSpec:=⟨[.c (.i .i64 1)],[],λz=>-9223372036854775808<=z.i 1/\z.i 1<9223372036854775808,λz=>.one (.c (.pi .u64 (nR (z.i 1)))),λ_=>[],λz y=>True,[]⟩
abbrev Oz:=P9
def OA:FSpec:=⟨[.c (.i .u64 1),.c (.p 0)],[.cells 105 [.gb 1 20],.growb 5 20],λz=>(0<=z.i 1/\z.i 1<18446744073709551616)/\(z.s 20).length<=900000000,λ_=>.tu [],λ_=>[.cells 105 [.gb 1 20],.growb 5 20],λz y=>y.s 20=z.s 20++aG (z.i 1).toNat,[]⟩
def P_(p:Sy):List BSh:=[.cells 105 [.gb 1 20],.growb 5 20,.cells 25 (vp p)]
abbrev UC(k:Nat)(p:Sy):Prop:=(p.i 1=9->fy (p.g 5) (p.g 6).length/\(p.g 5).length=(p.g 6).length)/\dm k (p.g 6) 0=0/\E4 k (p.g 6)/\(p.g 6).length<=200
def IV(k:Nat)(p:Sy):LSpec:=⟨[(2,.c (.p 0)),(3,.c (.p 2)),(5,.c (.fn 245 0)),(75,.c (.pv 2 (p.g 6))),(76,.c (.pi .i64 (p.g 6).length)),(77,.c (.i .i64 9))],P_ p,λz=>UC k p/\(0<=z.i 9/\z.i 9<=(p.g 6).length)/\(z.s 20).length+rb (jU k) (p.g 6) (z.i 9)<=100000000,λz=>((p.g 6).length-z.i 9).toNat,[⟨.exit 1,[(2,.c (.p 0))],P_ p⟩],λz y=>y.s 20=z.s 20++sV (jm k) (p.i 1) (p.g 5) (p.g 6) (z.i 9),[],[]⟩
def IW(k:Nat):FSpec:=⟨[.c (.gb 0 20),.ag va],[.growb 5 20],λz=>uP k z=0/\uQ k z/\(z.s 20).length+sW k (z.s 4) (z.g 6)<=100000000,λ_=>.one (.c (.gb 0 20)),λ_=>[.growb 5 20],λz y=>y.s 20=z.s 20++IU k z,[]⟩
def yd(k:Nat)(p:Sy):LSpec:=⟨[(0,.c (.gb 1 20)),(3,.c (.p 0)),(5,.c (.i .i64 9))],[.cells 25 (vp p),.growb 5 20],λz=>UC k p/\(0<=z.i 9/\z.i 9<=(p.g 6).length)/\(z.s 20).length+rb (jU k) (p.g 6) (z.i 9)<=100000000,λz=>((p.g 6).length-z.i 9).toNat,[⟨.exit 1,[(0,.c (.gb 1 20))],[.cells 25 (vp p),.growb 5 20]⟩],λz y=>y.s 20=z.s 20++sV (jm k) (p.i 1) (p.g 5) (p.g 6) (z.i 9),[],[]⟩
abbrev AD:=IW
def OB:FSpec:=⟨[.c (.gb 0 20),.c (.s 2)],[.growb 5 20],λz=>(z.s 2).length<=100000/\(z.s 20).length<=200000000,λ_=>.one (.c (.gb 0 20)),λ_=>[.growb 5 20],λz y=>y.s 20=z.s 20++(aG (z.s 2).length++z.s 2),[]⟩
def fA(kd i sc:Int)(t:List Nat)(ns ks:List G):Int:=if ge 16 kd i sc t ns ks=0 then(if 65536<(dw 16 kd i sc t ns ks).length then 5 else 0) else ge 16 kd i sc t ns ks
section
variable{kd i sc:Int}{t:List Nat}{ns ks:List G}
def CL(h:¬ge 16 kd i sc t ns ks=0):fA kd i sc t ns ks=ge 16 kd i sc t ns ks:=if_neg h
def ye(h:ge 16 kd i sc t ns ks=0)(h1:65536<(dw 16 kd i sc t ns ks).length):fA kd i sc t ns ks=5:=by unfold fA;rw[if_pos h,if_pos h1]
def IX(h:ge 16 kd i sc t ns ks=0)(h1:¬65536<(dw 16 kd i sc t ns ks).length):fA kd i sc t ns ks=0:=by unfold fA;rw[if_pos h,if_neg h1]
def CM(h:fA kd i sc t ns ks=0):ge 16 kd i sc t ns ks=0/\(dw 16 kd i sc t ns ks).length<=65536:=by
 unfold fA at h;split at h
 ·rename_i h1;split at h
  ·cases h
  ·exact⟨h1,by omega⟩
 ·rename_i h1;exact absurd h h1
end
abbrev OC(z:Sy):Int:=fA (z.i 1) (z.i 2) (z.i 3) (z.s 4) (z.g 5) (z.g 6)
abbrev R0(z:Sy):Prop:=uQ 16 z/\sW 16 (z.s 4) (z.g 6)<=10000000
def ow:FSpec:=⟨[.ag va],[],R0,λ_=>.tu [.c (.vb 10),.c (.i .i64 11)],λ_=>[],λz y=>y.i 11=OC z/\(OC z=0->y.s 10=IU 16 z/\(IU 16 z).length<=65536)/\(¬OC z=0->y.s 10= []),[]⟩
abbrev yf:=ow
def vF(kd i sc:Int)(t:List Nat)(ns ks:List G):G:=if fA kd i sc t ns ks=0 then dV (dw 16 kd i sc t ns ks) else hZ
def IY{kd i sc:Int}{t:List Nat}{ns ks:List G}(h:fA kd i sc t ns ks=0):vF kd i sc t ns ks=dV (dw 16 kd i sc t ns ks):=if_pos h
def CN{kd i sc:Int}{t:List Nat}{ns ks:List G}(h:¬fA kd i sc t ns ks=0):vF kd i sc t ns ks=hZ:=if_neg h
abbrev Vi(z:Sy):G:=vF (z.i 1) (z.i 2) (z.i 3) (z.s 4) (z.g 5) (z.g 6)
def CO:FSpec:=⟨[.ag va],[],R0,λ_=>.tu [.ag (hs 300),.c (.i .i64 11)],λ_=>[],λz y=>y.i 11=OC z/\hT y 300=Vi z,[]⟩
abbrev IZ:=CO
def yg(k:Nat)(p:Sy):LSpec:=⟨[(1,.c (.p 1)),(2,.c (.p 0)),(5,.c (.i .i64 9))],[.cells 25 (vp p),.cells 3 [.i .i64 7]],λz=>dm k (p.g 6) 0=0/\(p.g 6).length<=200/\(0<=z.i 9/\z.i 9<=(p.g 6).length)/\(0<=z.i 7/\z.i 7<=2000000)/\(z.i 7<=65536->p.i 7+sX k (p.g 6) 0=z.i 7+sX k (p.g 6) (z.i 9))/\(65536<z.i 7->65536<p.i 7+sX k (p.g 6) 0),λz=>((p.g 6).length-z.i 9).toNat,[⟨.exit 0,[(1,.c (.p 1))],[.cells 25 (vp p),.cells 3 [.i .i64 7]]⟩],λz y=>(0<=y.i 7/\y.i 7<=2000000)/\(y.i 7<=65536->p.i 7+sX k (p.g 6) 0=y.i 7)/\(65536<y.i 7->65536<p.i 7+sX k (p.g 6) 0),[],[]⟩
def AE(k:Nat):FSpec:=⟨[.ag va,.c (.p 0)],[.cells 3 [.i .i64 7]],λz=>uP k z=0/\0<=z.i 7/\z.i 7<=65536,λ_=>.one (.c (.b 10)),λ_=>[.cells 3 [.i .i64 7]],λz y=>(0<=y.i 7/\y.i 7<=2000000)/\(y.i 7<=65536->z.i 7+Ms k (z.s 4) (z.g 6)=y.i 7)/\(65536<y.i 7->65536<z.i 7+Ms k (z.s 4) (z.g 6))/\(y.p 10↔65536<y.i 7),[]⟩
attribute [irreducible] fy kV vE dm ge CD sV dw jm rb sW jU qw IP E4 sX Ms P8 fA vF
end
abbrev fV(a:Int):=a=a
abbrev jV(a:Int)(b:List G):=0<=a+1/\a+1<= ↑b.length
abbrev gf(a:Int)(b:List G):=0<=a/\a < ↑b.length
abbrev AF(a b:List G)(c:List Nat)(d e f:Int):=a=a/\b=b/\c=c/\d=d/\e=e/\f=f/\True
def yh:cH 292 0 qx:=cG 14 2234645 eN lN λp z hA=>show Fm.den (let v2:=(↑(p.g 5).length:Int);let v3:=(AF (p.g 6) (p.g 5) (p.s 4) (p.i 3) (p.i 2) (p.i 1));let v4:=(gS (cw (bx (p.g 5) (z.i 9))));let v1:Fm:=(.an v3 (.at (((1:Int)=0->fy (p.g 5) v2)/\(¬(1:Int)=0->¬false=true/\¬fy (p.g 5) v2))));let v0:Fm:=(.an ((-9223372036854775808)<=z.i 9+1/\z.i 9+1<=9223372036854775807) (.an (p.g 6=p.g 6/\p.g 5=p.g 5/\p.s 4=p.s 4/\p.i 3=p.i 3/\p.i 2=p.i 2/\p.i 1=p.i 1/\v2=v2/\p.g 5=p.g 5/\True) (.at (((p.g 5).length<=1000000/\(jV (z.i 9) (p.g 5))/\fy (p.g 5) (z.i 9+1))/\(v2-(z.i 9+1)).toNat<(v2-z.i 9).toNat/\∀(y:Sy),(y.i 999=0->fy (p.g 5) v2)/\(¬y.i 999=0->¬y.p 10/\¬fy (p.g 5) v2)->(y.i 999=0->fy (p.g 5) v2)/\(¬y.i 999=0->¬y.p 10/\¬fy (p.g 5) v2)))));(.two (z.i 9 < ↑(p.g 5).length) (.an (gf (z.i 9) (p.g 5)) (.two ((1:Int)<=(↑v4.length:Int)) (.two (¬(↑v4.length:Int)<=(40:Int)) v1 (.two (0<z.i 9) (.an ((-9223372036854775808)<=z.i 9-1/\z.i 9-1<=9223372036854775807) (.an (0<=z.i 9-1/\z.i 9-1 < ↑(p.g 5).length) (.two (tC (gS (cw (bx (p.g 5) (z.i 9-1)))) v4=false) v1 v0))) v0)) v1)) (.an v3 (.at (((0:Int)=0->fy (p.g 5) v2)/\(¬(0:Int)=0->¬(aK (((((((PS.mk [(999,Tm.i (Int.ofNat (nat_lit 0)))] ((0,(bw 0).fst,0)::q_.loc) q_.ln q_.pr q_.fz).and (fV (p.i 1))).and (fV (p.i 2))).and (fV (p.i 3))).and (p.s 4=p.s 4)).and (p.g 5=p.g 5)).and (p.g 6=p.g 6)).tm).p 10/\¬fy (p.g 5) v2)))))) by
 dsimp only [qx,vp] at hA;have e1:=@Cv (p.g 5) (z.i 9) (p.g 5).length;have e2:=@xT (p.g 5) (z.i 9);dsimp only [IH,sU] at e1 e2;conv=>zeta
 repeat' with_reducible first|intro _|apply d_|apply ed|apply ef|apply eu|apply ew
 all_goals first|omega|grind [aA,aq,ao,II]
abbrev rz(a:Int):=(0:Int)<=0/\0<=a
def E5:bI 292 yc:=cC 3 1 eN (aX (ptm:=[(0,.ag va)]) yh lN) λz hA=>show Fm.den (let v0:=(↑(z.g 5).length:Int);(.cl ((z.g 6=z.g 6/\z.g 5=z.g 5/\z.s 4=z.s 4/\z.i 3=z.i 3/\z.i 2=z.i 2/\z.i 1=z.i 1/\v0=v0/\z.g 5=z.g 5/\True)) ((z.g 5).length<=1000000/\(rz v0)/\fy (z.g 5) 0) (λy0=>(y0.i 999=0->fy (z.g 5) v0)/\(¬y0.i 999=0->¬y0.p 10/\¬fy (z.g 5) v0)) λy0=>(.two (y0.i 999=0) (.ax (v0=(↑(z.g 6).length:Int)↔nP (z.g 5) (z.g 6))) (.ax (y0.p 10↔nP (z.g 5) (z.g 6)))))) by
 dsimp only [yc,va] at hA;conv=>zeta
 repeat' with_reducible first|intro _|apply d_|apply ed|apply ef|apply eu|apply ew
 all_goals first|omega|grind [aA,aq,ao,xS,nP]
def UD(z:Sy):=@IL (z.i 1) (z.i 2) (z.i 3) (z.s 4) (z.g 5) (z.g 6)
def oz(z:Sy):=@IJ (z.i 1) (z.i 2) (z.i 3) (z.s 4) (z.g 5) (z.g 6)
def I1:bI 277 CJ:=cC 276 245767243367362692129139271385821503728016604324543854543610501625845425621207670256678298420598998860157320293601534641743472979889381497667939026292410524678210901 (ar E5 eN) lN λz hA=>show Fm.den (let v6:=((0:Int)=kV (z.i 1) (z.i 2) (z.i 3) (z.s 4) (z.g 5) (z.g 6));let v7:=(z.i 3=0);let v8:=((5:Int)=kV (z.i 1) (z.i 2) (z.i 3) (z.s 4) (z.g 5) (z.g 6));let v9:=(↑(z.g 6).length:Int);let v10:=(16384<(↑(z.s 4).length:Int));let v11:=((↑(z.g 5).length:Int)=0);let j8:=(z.i 2<=9007199254740992);let l9:=(0<=z.i 2/\(0:Int)<10);let p5:=(z.i 1=6);let Wv:=(z.i 1=9);let F':=(z.i 2/2=0);let XI:=((10:Int)≠0);let YG:=(z.i 2%10≠0);let Zd:=(0<=z.i 2);let v0:Fm:=(.ax ((3:Int)=kV (z.i 1) (z.i 2) (z.i 3) (z.s 4) (z.g 5) (z.g 6)));let v5:Fm:=(.two p5 (.an p5 v0) (.two (z.i 1=7) v0 (.two (z.i 1=8) v0 (.two Wv v0 v0))));let v4:Fm:=(.two (1<=z.i 3) (.two (z.i 3<=18) (.an XI (.an l9 (.an (¬YG) v0))) v0) v0);let v3:Fm:=(.two v7 (.two (¬v9=0) v0 (.two v10 (.ax v8) (.an (¬(200<v9)) (.an (¬Wv) (.ax v6))))) v0);let v2:Fm:=(.two Wv (.two v7 (.two (¬z.s 4= []) v0 (.an (¬v10) (.two (200<v9) (.ax v8) (.an Wv (.ct ((z.g 5).length<=1000000) (λy0=>(y0.p 10↔nP (z.g 5) (z.g 6))) λy0=>(.two (¬y0.p 10) v0 (.ax v6))))))) v0) v0);let v1:Fm:=(.two (v9=0) (.two (¬z.s 4= []) v0 (.an (¬v10) (.an (¬(200<v9)) (.an (¬Wv) (.ax v6))))) v0);(.two (z.i 2=0) (.two v11 (.two (z.i 1=1) (.two v7 v1 v0) (.two (z.i 1=2) (.an F' (.two v7 v1 v0)) (.two (z.i 1=3) (.two v7 v1 v0) (.two (z.i 1=4) v4 (.two (z.i 1=5) (.an Zd (.an j8 (.two v7 v1 v0))) (.two p5 (.an p5 v3) (.two (z.i 1=7) v3 (.two (z.i 1=8) (.two v7 (.an v11 (.two (¬z.s 4= []) v0 (.an (¬v10) (.two (200<v9) (.ax v8) (.an (¬Wv) (.ax v6)))))) v0) v2)))))))) (.two (z.i 1=1) (.two v7 v0 v0) (.two (z.i 1=2) (.an F' (.two v7 v0 v0)) (.two (z.i 1=3) (.two v7 v0 v0) (.two (z.i 1=4) v4 (.two (z.i 1=5) (.an Zd (.an j8 (.two v7 v0 v0))) (.two p5 (.an p5 (.two v7 v0 v0)) (.two (z.i 1=7) (.two v7 v0 v0) (.two (z.i 1=8) (.two v7 (.an (¬v11) v0) v0) v2))))))))) (.two v11 (.two (z.i 1=1) v0 (.two (z.i 1=2) (.two F' (.two v7 v1 v0) v0) (.two (z.i 1=3) (.two v7 v1 v0) (.two (z.i 1=4) (.two (1<=z.i 3) (.two (z.i 3<=18) (.an XI (.two l9 (.two YG v1 v0) (.two ((z.i 2).tmod 10≠0) v1 v0))) v0) v0) (.two (z.i 1=5) (.two Zd (.two j8 (.two v7 v1 v0) v0) v0) v5))))) (.two (z.i 1=1) v0 (.two (z.i 1=2) (.two F' (.two v7 v0 v0) v0) (.two (z.i 1=3) (.two v7 v0 v0) (.two (z.i 1=4) (.two (1<=z.i 3) (.two (z.i 3<=18) (.an XI (.two l9 (.two YG v0 v0) (.two ((z.i 2).tmod 10≠0) v0 v0))) v0) v0) (.two (z.i 1=5) (.two Zd (.two j8 (.two v7 v0 v0) v0) v0) v5)))))))) by dsimp only [CJ,va,VP] at hA;have:=UD z;have:=@Cw (z.i 1) (z.i 2) (z.i 3) (z.s 4) (z.g 5) (z.g 6);have:=@Cx (z.i 1) (z.i 2) (z.i 3) (z.s 4) (z.g 5) (z.g 6);have:=@Cy (z.i 1) (z.i 2) (z.i 3) (z.s 4) (z.g 5) (z.g 6);have:=@Cz (z.i 1) (z.i 2) (z.i 3) (z.s 4) (z.g 5) (z.g 6);have:=oz z;have:=@CA (z.i 1) (z.i 2) (z.i 3) (z.s 4) (z.g 5) (z.g 6);have:=@CB (z.i 1) (z.i 2) (z.i 3) (z.s 4) (z.g 5) (z.g 6);have:=@CC (z.i 1) (z.i 2) (z.i 3) (z.s 4) (z.g 5) (z.g 6);have:=@IK (z.i 1) (z.i 2) (z.i 3) (z.s 4) (z.g 5) (z.g 6);have:=@xU (z.i 1) (z.i 2) (z.i 3) (z.s 4) (z.g 5) (z.g 6);have:=@xV (z.i 1) (z.i 2) (z.i 3) (z.s 4) (z.g 5) (z.g 6);have:=@xW (z.i 1) (z.i 2) (z.i 3) (z.s 4) (z.g 5) (z.g 6);have:=@IM (z.i 1) (z.i 2) (z.i 3) (z.s 4) (z.g 5) (z.g 6);have:=S8 (z.i 2);exact jR
def E6:bI 244 (eR 0):=cC 2 2 eN lN λz hA=>show Fm.den ((.an (16<z.i 7) (.ax ((9:Int)=ge 0 (z.i 1) (z.i 2) (z.i 3) (z.s 4) (z.g 5) (z.g 6))))) by
 dsimp only [eR,va,uQ,uP] at hA;repeat' with_reducible first|intro _|apply d_|apply ed|apply ef|apply eu|apply ew
 all_goals first|omega|grind [aA,aq,ao,fw]
abbrev S9(a:Prop)(b c:Int)(d:Nat)(e:List G):=a/\b.toNat<c.toNat/\∀(y:Sy),(y.i 999=0->dm d e 0=0)/\(¬y.i 999=0->y.i 10=dm d e 0)->(y.i 999=0->dm d e 0=0)/\(¬y.i 999=0->y.i 10=dm d e 0)
abbrev OD(a:Int)(b:Nat)(c:Int)(d:List Nat)(e f:List G)(g h:Int):=Fm.ct (a+1=17 - ↑b/\b<=16/\qw b c d e f) (λy=>y.i 10=ge b g c h d e f)
def AG(k:Nat)(hvcheck:bI 244 (eR k)):cH 244 0 (sY k):=cG 7 537 (ar hvcheck eN) lN λp z hA=>show Fm.den (let v0:=(bx (p.g 6) (z.i 9));let v1:=(↑(p.g 6).length:Int);(.two (z.i 9 < ↑(p.g 6).length) (.an (gf (z.i 9) (p.g 6)) (.an ((-9223372036854775808)<=p.i 7+1/\p.i 7+1<=9223372036854775807) (OD (p.i 7) k (gI (ah v0 1)) (gS (ah v0 3)) (gL (ah v0 4)) (gL (ah v0 5)) (gI (ah v0 0)) (gI (ah v0 2)) λy0=>(.two (y0.i 10≠0) (.ax (((1:Int)=0->dm k (p.g 6) 0=0)/\(¬(1:Int)=0->y0.i 10=dm k (p.g 6) 0))) (.an ((-9223372036854775808)<=z.i 9+1/\z.i 9+1<=9223372036854775807) (.an (v1=v1/\p.g 6=p.g 6/\p.i 7=p.i 7/\True) (.at (S9 (p.i 7=16 - ↑k/\k<=15/\E4 k (p.g 6)/\(p.g 6).length<=1000000/\(jV (z.i 9) (p.g 6))/\dm k (p.g 6) 0=dm k (p.g 6) (z.i 9+1)) (v1-(z.i 9+1)) (v1-z.i 9) k (p.g 6))))))))) (.ax (((0:Int)=0->dm k (p.g 6) 0=0)/\(¬(0:Int)=0->(aK (have __src:=q_;PS.mk [(999,Tm.i (Int.ofNat (nat_lit 0)))] __src.loc __src.ln __src.pr __src.fz).tm).i 10=dm k (p.g 6) 0))))) by dsimp only [sY] at hA;have:=@xX k (p.g 6) (z.i 9);have:=@CE k (p.g 6) (z.i 9);have:=@uK k (p.g 6) (z.i 9);have:=eD k (aL (p.g 6) (z.i 9).toNat);have:=@me k (p.g 6) (z.i 9);have:=mZ k (aL (p.g 6) (z.i 9).toNat);exact jR
def vG(k:Nat)(z:Sy):=@Mr k (z.i 2) (z.s 4) (z.g 5) (z.g 6)
def FW(k:Nat)(z:Sy):=@IQ k (z.i 2) (z.s 4) (z.g 5) (z.g 6)
def ta:∀k,bI 244 (eR k)
 |0=>E6
 |k+1=>cC 6 71 (ar I1 eN) (aX (ptm:=[(0,.ag va),(1,.c (.i .i64 7))]) (AG k (ta k)) lN) λz hA=>show Fm.den (let v0:=(↑(z.g 6).length:Int);(.an (¬(16<z.i 7)) (.ct ((z.s 4).length<=1000000/\(z.g 5).length<=1000000/\(z.g 6).length<=1000000) (λy0=>y0.i 10=kV (z.i 1) (z.i 2) (z.i 3) (z.s 4) (z.g 5) (z.g 6)) λy0=>(.two (y0.i 10≠0) (.ax (y0.i 10=ge (k+1) (z.i 1) (z.i 2) (z.i 3) (z.s 4) (z.g 5) (z.g 6))) (.cl ((v0=v0/\z.g 6=z.g 6/\z.i 7=z.i 7/\True)) (z.i 7=16 - ↑k/\k<=15/\E4 k (z.g 6)/\(z.g 6).length<=1000000/\(rz v0)/\dm k (z.g 6) 0=dm k (z.g 6) 0) (λy1=>(y1.i 999=0->dm k (z.g 6) 0=0)/\(¬y1.i 999=0->y1.i 10=dm k (z.g 6) 0)) λy1=>(.two (y1.i 999=0) (.ax ((0:Int)=ge (k+1) (z.i 1) (z.i 2) (z.i 3) (z.s 4) (z.g 5) (z.g 6))) (.ax (y1.i 10=ge (k+1) (z.i 1) (z.i 2) (z.i 3) (z.s 4) (z.g 5) (z.g 6))))))))) by
  dsimp only [eR,va,uQ,uP] at hA;have:=vG k z;have:=FW k z;conv=>zeta
  repeat' with_reducible first|intro _|apply d_|apply ed|apply ef|apply eu|apply ew
  all_goals first|omega|grind [aA,aq,ao,ma,qn]
def I3:bI 195 ou:=cC 1 0 (ar (ta 16) eN) lN λz hA=>show Fm.den ((.ct ((1:Int)=17-16/\16<=16/\qw 16 (z.i 2) (z.s 4) (z.g 5) (z.g 6)) (λy0=>y0.i 10=ge 16 (z.i 1) (z.i 2) (z.i 3) (z.s 4) (z.g 5) (z.g 6)) λy0=>(.ax (y0.i 10=ge 16 (z.i 1) (z.i 2) (z.i 3) (z.s 4) (z.g 5) (z.g 6))))) by dsimp only [ou,va,uQ,uP] at hA;exact jR
def Qa:bI 209 Oz:=cC 5 161 eN lN λz hA=>show Fm.den ((.two (0<=z.i 1) (.an ((2:Int) * (z.i 1%18446744073709551616)%18446744073709551616=nR (z.i 1)/\True) (.at (True))) (.an ((-9223372036854775808)<=z.i 1+1/\z.i 1+1<=9223372036854775807) (.an ((-9223372036854775808:Int)<=0-(z.i 1+1)/\(0:Int)-(z.i 1+1)<=9223372036854775807) (.an (((2:Int) * ((0-(z.i 1+1))%18446744073709551616)%18446744073709551616+1)%18446744073709551616=nR (z.i 1)/\True) (.at (True))))))) by dsimp only [Oz,P9] at hA;have:=@Mp (z.i 1);have:=@Mq (z.i 1);exact jR
abbrev K1(a b:List Nat):=a.length=a.length/\a.length<=1000000000/\b.length<=1000000
abbrev UE(a:Int):=0<=a%18446744073709551616/\a%18446744073709551616<18446744073709551616
abbrev Qb(a b c d:List Nat):=a.length=b.length+c.length/\b.length+c.length<=1000000000/\d.length<=1000000
abbrev I4(a b:Int):=Fm.ct (UE a) (λy=>y.s 10=aG b.toNat)
def I5:bI 210 OB:=cC 1 0 (ar p_ eN) lN λz hA=>show Fm.den (let v0:=(↑(z.s 2).length:Int);(I4 v0 (v0%18446744073709551616) λy0=>(.an (K1 (z.s 20) (y0.s 10)) (.an (Qb (z.s 20++y0.s 10) (z.s 20) (y0.s 10) (z.s 2)) (.an ((z.s 20++y0.s 10++z.s 2).length=(z.s 20).length+(y0.s 10).length+(z.s 2).length/\True) (.at (z.s 20++y0.s 10++z.s 2=z.s 20++(aG (z.s 2).length++z.s 2)))))))) by dsimp only [OB] at hA;have:=@bW (((z.s 2).length:Int)%18446744073709551616) (by omega);exact pY
abbrev Mt(a:List Nat)(b c:List G)(d:List Nat)(e f g:Int):=a.length=a.length/\b=b/\c=c/\d=d/\e=e/\f=f/\g=g/\True
abbrev Mu(a:Prop)(b c:Int)(d:List Nat)(e)(f:Int)(g h:List G)(i:Int)(j:List Nat)(k:Int):=a/\b.toNat<c.toNat/\∀(y:Sy),y.s 20=d++sV e f g h i->y.s 20=j++sV e f g h k
abbrev Mv(a:Prop)(b:Nat)(c:List G):=a/\dm b c 0=0/\E4 b c/\c.length<=200
abbrev Mw(a:Nat)(b c d:Int)(e:List Nat)(f g:List G)(h:List Nat):=ge a b c d e f g=(0:Int)/\qw a c e f g/\h.length+sW a e g<=100000000
def VS(p:Sy)(z:Sy):=@bW (((gS (ah (aL (p.g 5) (z.i 9).toNat) 0)).length:Int)%18446744073709551616) (by omega)
def E7(k:Nat)(G':bI 132 (AD k)):cH 132 1 (yd k):=cG 7 549 (ar I5 (ar G' eN)) lN λp z hA=>show Fm.den (let v0:=(bx (p.g 6) (z.i 9));let v2:=(gS (ah v0 3));let v3:=(gL (ah v0 5));let v4:=((-9223372036854775808)<=z.i 9+1/\z.i 9+1<=9223372036854775807);let v5:=(↑(p.g 6).length:Int);let v1:=(Mv (p.i 1=9->fy (p.g 5) v5/\(p.g 5).length=(p.g 6).length) k (p.g 6));let v6:=(cw (bx (p.g 5) (z.i 9)));let v7:=(gI (ah v0 1));let v8:=(gL (ah v0 4));let v9:=(jV (z.i 9) (p.g 6));let v10:=((pZ (z.s 20)));let v11:=(gf (z.i 9) (p.g 6));let j8:=(z.i 9+1);let l9:=(gI (ah v0 0));let p5:=(gI (ah v0 2));(.two (z.i 9 < ↑(p.g 6).length) (.two (p.i 1=9) (.an (gf (z.i 9) (p.g 5)) (.cl v10 ((gS v6).length<=100000/\(z.s 20).length<=200000000) (λy0=>y0.s 20=z.s 20++(aG (gS v6).length++gS v6)) λy0=>(.an v11 (.cl ((pZ (y0.s 20))) (Mw k l9 v7 p5 v2 v8 v3 (y0.s 20)) (λy1=>y1.s 20=y0.s 20++dw k l9 v7 p5 v2 v8 v3) λy1=>(.an v4 (.an (Mt (y1.s 20) (p.g 6) (p.g 5) (p.s 4) (p.i 3) (p.i 2) (p.i 1)) (.at (Mu (v1/\v9/\(y1.s 20).length+rb (jU k) (p.g 6) j8<=100000000) (v5-j8) (v5-z.i 9) (y1.s 20) (jm k) (p.i 1) (p.g 5) (p.g 6) j8 (z.s 20) (z.i 9))))))))) (.an v11 (.cl v10 (Mw k l9 v7 p5 v2 v8 v3 (z.s 20)) (λy0=>y0.s 20=z.s 20++dw k l9 v7 p5 v2 v8 v3) λy0=>(.an v4 (.an (Mt (y0.s 20) (p.g 6) (p.g 5) (p.s 4) (p.i 3) (p.i 2) (p.i 1)) (.at (Mu (v1/\v9/\(y0.s 20).length+rb (jU k) (p.g 6) j8<=100000000) (v5-j8) (v5-z.i 9) (y0.s 20) (jm k) (p.i 1) (p.g 5) (p.g 6) j8 (z.s 20) (z.i 9)))))))) (.an (Mt (z.s 20) (p.g 6) (p.g 5) (p.s 4) (p.i 3) (p.i 2) (p.i 1)) (.at (z.s 20=z.s 20++sV (jm k) (p.i 1) (p.g 5) (p.g 6) (z.i 9)))))) by dsimp only [yd,vp,UC] at hA;have n1:=@xY (jm k) (p.i 1) (p.g 5) (p.g 6) (z.i 9);have:=@xZ (jm k) (p.i 1) (p.g 5) (p.g 6) (z.i 9);have:=@CF (jm k) (p.i 1) (p.g 5) (p.g 6) (z.i 9);have:=qq k (aL (p.g 6) (z.i 9).toNat);have:=@me k (p.g 6) (z.i 9);have:=mZ k (aL (p.g 6) (z.i 9).toNat);have:=@x_ (jU k) (p.g 6) (z.i 9);have:=uN k (aL (p.g 6) (z.i 9).toNat);have:=eD k (aL (p.g 6) (z.i 9).toNat);have:=@jH k (p.g 6) (z.i 9);have m2:=@uJ (p.g 5) (z.i 9) (p.g 6).length;have:=@ot k (aL (p.g 6) (z.i 9).toNat);have:=VS p z;dsimp only [sU] at n1 m2;exact pY
abbrev Mx(a b c:List Nat):=a.length=b.length+1/\b.length+1<=1000000000/\c.length<=1000000
abbrev S_(a:Int):=(0:Int)<=nR a/\nR a<(18446744073709551616:Int)
def VT(z:Sy):=@bW (((z.s 4).length:Int)%18446744073709551616) (by omega)
def VU(z:Sy):=@bW (((z.g 6).length:Int)%18446744073709551616) (by omega)
def UF(k:Nat)(z:Sy):=@ma k (z.i 1) (z.i 2) (z.i 3) (z.s 4) (z.g 5) (z.g 6)
def UG(k:Nat)(z:Sy):=@qn k (z.i 1) (z.i 2) (z.i 3) (z.s 4) (z.g 5) (z.g 6)
def Vj(z:Sy):=@l_ (z.i 1) (z.i 2) (z.i 3) (z.s 4) (z.g 5) (z.g 6)
def yi:∀k,bI 132 (AD k)
 |0=>RX λz h=>absurd ((fw _ _ _ _ _ _).symm.trans h.1) (by decide)
 |k+1=>cC 19 4903735569 (ar Qa (ar p_ (ar I5 eN))) (aX (ptm:=[(1,.ag va)]) (E7 k (yi k)) lN) λz hA=>show Fm.den (let v2:=(z.i 1%256);let v3:=(z.s 20++ [v2.toNat]);let v4:=(↑(z.g 6).length:Int);let v5:=(S_ (z.i 2));let v6:=((-9223372036854775808)<=z.i 2/\z.i 2<9223372036854775808);let v7:=(uC v3 (z.s 20));let v1:Fm:=(.cl (v7) ((z.s 4).length<=100000/\v3.length<=200000000) (λy0=>y0.s 20=z.s 20++ [v2.toNat]++(aG (z.s 4).length++z.s 4)) λy0=>(.an (pZ (y0.s 20)) (.at (y0.s 20=z.s 20++dw (k+1) (z.i 1) (z.i 2) (z.i 3) (z.s 4) (z.g 5) (z.g 6)))));let v0:Fm:=(I4 v4 (v4%18446744073709551616) λy0=>(let v8:=(z.s 20++ [v2.toNat]++y0.s 10);(.an (Mx v3 (z.s 20) (y0.s 10)) (.cl ((v8.length=(z.s 20).length+1+(y0.s 10).length/\z.g 6=z.g 6/\z.g 5=z.g 5/\z.s 4=z.s 4/\z.i 3=z.i 3/\z.i 2=z.i 2/\z.i 1=z.i 1/\True)) ((Mv (z.i 1=9->fy (z.g 5) v4/\(z.g 5).length=(z.g 6).length) k (z.g 6))/\(rz v4)/\v8.length+rb (jU k) (z.g 6) 0<=100000000) (λy1=>y1.s 20=z.s 20++ [v2.toNat]++y0.s 10++sV (jm k) (z.i 1) (z.g 5) (z.g 6) 0) λy1=>(.an (pZ (y1.s 20)) (.at (y1.s 20=z.s 20++dw (k+1) (z.i 1) (z.i 2) (z.i 3) (z.s 4) (z.g 5) (z.g 6))))))));(.an (EV (z.s 20) (z.i 1)) (.two (z.i 1=2) (.an (v3.length=(z.s 20).length+1/\(z.s 20).length+1<=1000000000/\0<=z.i 2%256/\True) (.an ((z.s 20++ [v2.toNat]++ [(z.i 2%256).toNat]).length=(z.s 20).length+1+1/\True) (.at (z.s 20++ [v2.toNat]++ [(z.i 2%256).toNat]=z.s 20++dw (k+1) (z.i 1) (z.i 2) (z.i 3) (z.s 4) (z.g 5) (z.g 6))))) (.two (z.i 1=3) (.ct v6 (λy0=>True) λy0=>(.ct v5 (λy1=>y1.s 10=aG (nR (z.i 2)).toNat) λy1=>(.an (Mx v3 (z.s 20) (y1.s 10)) (.an ((z.s 20++ [v2.toNat]++y1.s 10).length=(z.s 20).length+1+(y1.s 10).length/\True) (.at (z.s 20++ [v2.toNat]++y1.s 10=z.s 20++dw (k+1) (z.i 1) (z.i 2) (z.i 3) (z.s 4) (z.g 5) (z.g 6))))))) (.two (z.i 1=4) (.ct v6 (λy0=>True) λy0=>(.ct v5 (λy1=>y1.s 10=aG (nR (z.i 2)).toNat) λy1=>(.an (Mx v3 (z.s 20) (y1.s 10)) (.an ((z.s 20++ [v2.toNat]++y1.s 10).length=(z.s 20).length+1+(y1.s 10).length/\(z.s 20).length+1+(y1.s 10).length<=1000000000/\0<=z.i 3%256/\True) (.an ((z.s 20++ [v2.toNat]++y1.s 10++ [(z.i 3%256).toNat]).length=(z.s 20).length+1+(y1.s 10).length+1/\True) (.at (z.s 20++ [v2.toNat]++y1.s 10++ [(z.i 3%256).toNat]=z.s 20++dw (k+1) (z.i 1) (z.i 2) (z.i 3) (z.s 4) (z.g 5) (z.g 6)))))))) (.two (z.i 1=5) (I4 (z.i 2) (z.i 2%18446744073709551616) λy0=>(.an (Mx v3 (z.s 20) (y0.s 10)) (.an ((z.s 20++ [v2.toNat]++y0.s 10).length=(z.s 20).length+1+(y0.s 10).length/\True) (.at (z.s 20++ [v2.toNat]++y0.s 10=z.s 20++dw (k+1) (z.i 1) (z.i 2) (z.i 3) (z.s 4) (z.g 5) (z.g 6)))))) (.two (z.i 1=6) (.an (z.i 1=6) v1) (.two (z.i 1=7) v1 (.two (z.i 1=8) (.an (z.i 1=8) v0) (.two (z.i 1=9) v0 (.an v7 (.at (z.s 20++ [v2.toNat]=z.s 20++dw (k+1) (z.i 1) (z.i 2) (z.i 3) (z.s 4) (z.g 5) (z.g 6)))))))))))))) by
  dsimp only [AD,IW,va,uP,uQ,IU] at hA;have:=vG k z;have:=FW k z;have:=@bW (nR (z.i 2));have:=@bW (z.i 2%18446744073709551616) (by omega);have:=VT z;have:=VU z;have:=@AB (z.i 2);have v3:(z.s 4).length<=1000000->(((z.s 4).length:Int)%18446744073709551616).toNat=(z.s 4).length:=λh=>by omega
  have v4:(z.g 6).length<=1000000->(((z.g 6).length:Int)%18446744073709551616).toNat=(z.g 6).length:=λh=>by omega
  have:=@qr k (z.i 1) (z.i 2) (z.i 3) (z.s 4) (z.g 5) (z.g 6);have:=@uL k (z.i 1) (z.i 2) (z.i 3) (z.s 4) (z.g 5) (z.g 6);have:=@uM k (z.i 1) (z.i 2) (z.i 3) (z.s 4) (z.g 5) (z.g 6);have:=@qs k (z.i 1) (z.i 2) (z.i 3) (z.s 4) (z.g 5) (z.g 6);have:=@mc k (z.i 1) (z.i 2) (z.i 3) (z.s 4) (z.g 5) (z.g 6);have:=@qt k (z.i 1) (z.i 2) (z.i 3) (z.s 4) (z.g 5) (z.g 6);have:=@qu k (z.i 1) (z.i 2) (z.i 3) (z.s 4) (z.g 5) (z.g 6);have:=UF k z;have:=UG k z;have c3:=Vj z;have:=UD z;have:=oz z;have:=ya k (z.s 4) (z.g 6);dsimp only [nP] at c3;exact pY
def Ta:bI 246 P9:=cC 3 1 eN lN λz hA=>show Fm.den (let v0:=(aD (lS) (z.i 1/9223372036854775808%18446744073709551616));(.two ((-9223372036854775808)<=z.i 1 * 2/\z.i 1 * 2<=9223372036854775807) (.an (IntKind.u64.wrap (Int.ofNat ((aD (lS) (z.i 1 * 2%18446744073709551616)).xor v0))=nR (z.i 1)/\True) (.at (True))) (.an (IntKind.u64.wrap (Int.ofNat ((aD (lS) (IntKind.i64.wrap (z.i 1 * 2)%18446744073709551616)).xor v0))=nR (z.i 1)/\True) (.at (True))))) by
 have hB:True/\(-9223372036854775808:Int)<=z.i 1/\z.i 1<9223372036854775808:=⟨trivial,hA⟩
 conv=>zeta
 repeat' with_reducible first|intro _|apply d_|apply ed|apply ef|apply eu|apply ew
 all_goals first|omega|(exact P5 hB.2 rfl)|(exact⟨P5 hB.2 rfl,trivial⟩)|(exact⟨P5 hB.2 (P6 _),trivial⟩)|grind [aA,aq,ao]
abbrev E8(a b c:List Nat):=a.length=b.length+c.length/\True
def I6:bI 245 OA:=cC 1 0 (ar jE eN) lN λz hA=>show Fm.den ((.ct (LY (z.i 1)) (λy0=>y0.s 10=aG (z.i 1).toNat) λy0=>(.an (K1 (z.s 20) (y0.s 10)) (.an (E8 (z.s 20++y0.s 10) (z.s 20) (y0.s 10)) (.at (z.s 20++y0.s 10=z.s 20++aG (z.i 1).toNat)))))) by dsimp only [OA] at hA;have:=@bW (z.i 1);exact jR
abbrev Qc(a:List Nat)(b c:List G)(d:List Nat)(e f g h:Int):=a.length=a.length/\b=b/\c=c/\d=d/\e=e/\f=f/\g=g/\h=h/\b=b/\True
def My(k:Nat)(aj1:bI 196 (IW k)):cH 196 1 (IV k):=cG 7 549 (ar I6 (ar aj1 eN)) lN λp z hA=>show Fm.den (let v0:=(bx (p.g 6) (z.i 9));let v1:=(cw (bx (p.g 5) (z.i 9)));let v2:=(↑(p.g 6).length:Int);let v3:=(Mv (p.i 1=9->fy (p.g 5) v2/\(p.g 5).length=(p.g 6).length) k (p.g 6));let v4:=(gS (ah v0 3));let v5:=(gL (ah v0 5));let v6:=((-9223372036854775808)<=z.i 9+1/\z.i 9+1<=9223372036854775807);let v7:=(gI (ah v0 1));let v8:=(gL (ah v0 4));let v9:=(jV (z.i 9) (p.g 6));let v10:=(↑(gS v1).length:Int);let v11:=((pZ (z.s 20)));let j8:=(gf (z.i 9) (p.g 5));let l9:=(z.i 9+1);let p5:=(gI (ah v0 0));let Wv:=(gI (ah v0 2));(.two (z.i 9 < ↑(p.g 6).length) (.an (gf (z.i 9) (p.g 6)) (.two (p.i 1=9) (.an j8 (.cl v11 (((0:Int)<=v10%18446744073709551616/\v10%(18446744073709551616:Int)<18446744073709551616)/\(z.s 20).length<=900000000) (λy0=>y0.s 20=z.s 20++aG (v10%(18446744073709551616:Int)).toNat) λy0=>(.an j8 (.an (K1 (y0.s 20) (gS v1)) (.cl ((E8 (y0.s 20++gS v1) (y0.s 20) (gS v1))) (Mw k p5 v7 Wv v4 v8 v5 (y0.s 20++gS v1)) (λy1=>y1.s 20=y0.s 20++gS v1++dw k p5 v7 Wv v4 v8 v5) λy1=>(.an v6 (.an (Qc (y1.s 20) (p.g 6) (p.g 5) (p.s 4) (p.i 3) (p.i 2) (p.i 1) v2) (.at (Mu (v3/\v9/\(y1.s 20).length+rb (jU k) (p.g 6) l9<=100000000) (v2-l9) (v2-z.i 9) (y1.s 20) (jm k) (p.i 1) (p.g 5) (p.g 6) l9 (z.s 20) (z.i 9)))))))))) (.cl v11 (Mw k p5 v7 Wv v4 v8 v5 (z.s 20)) (λy0=>y0.s 20=z.s 20++dw k p5 v7 Wv v4 v8 v5) λy0=>(.an v6 (.an (Qc (y0.s 20) (p.g 6) (p.g 5) (p.s 4) (p.i 3) (p.i 2) (p.i 1) v2) (.at (Mu (v3/\v9/\(y0.s 20).length+rb (jU k) (p.g 6) l9<=100000000) (v2-l9) (v2-z.i 9) (y0.s 20) (jm k) (p.i 1) (p.g 5) (p.g 6) l9 (z.s 20) (z.i 9)))))))) (.an (Mt (z.s 20) (p.g 6) (p.g 5) (p.s 4) (p.i 3) (p.i 2) (p.i 1)) (.at (z.s 20=z.s 20++sV (jm k) (p.i 1) (p.g 5) (p.g 6) (z.i 9)))))) by dsimp only [IV,P_,vp,UC] at hA;have n1:=@xY (jm k) (p.i 1) (p.g 5) (p.g 6) (z.i 9);have:=@xZ (jm k) (p.i 1) (p.g 5) (p.g 6) (z.i 9);have:=@CF (jm k) (p.i 1) (p.g 5) (p.g 6) (z.i 9);have:=qq k (aL (p.g 6) (z.i 9).toNat);have:=@me k (p.g 6) (z.i 9);have:=mZ k (aL (p.g 6) (z.i 9).toNat);have:=@x_ (jU k) (p.g 6) (z.i 9);have:=uN k (aL (p.g 6) (z.i 9).toNat);have:=eD k (aL (p.g 6) (z.i 9).toNat);have:=@jH k (p.g 6) (z.i 9);have m2:=@uJ (p.g 5) (z.i 9) (p.g 6).length;have:=@ot k (aL (p.g 6) (z.i 9).toNat);have:=VS p z;dsimp only [sU] at n1 m2;exact pY
abbrev Qd(a b:Prop)(c d:List Nat)(e f:Int):=Fm.cl a (b/\c.length<=900000000) (λy=>y.s 20=d++ [e.toNat]++aG f.toNat)
def I7:∀k,bI 196 (IW k)
 |0=>RX λz h=>absurd ((fw _ _ _ _ _ _).symm.trans h.1) (by decide)
 |k+1=>cC 19 4903735569 (ar Ta (ar I6 eN)) (aX (ptm:=[(1,.ag va)]) (My k (I7 k)) lN) λz hA=>show Fm.den (let v4:=(↑(z.g 6).length:Int);let v6:=(z.i 1%256);let v3:=(z.s 20++ [v6.toNat]);let v2:=(uC v3 (z.s 20));let v5:=((S_ (z.i 2))/\v3.length<=900000000);let v7:=((-9223372036854775808)<=z.i 2/\z.i 2<9223372036854775808);let v8:=(↑(z.s 4).length:Int);let v1:Fm:=(Qd (v2) (UE v8) v3 (z.s 20) v6 (v8%18446744073709551616) λy0=>(.an (K1 (y0.s 20) (z.s 4)) (.an (E8 (y0.s 20++z.s 4) (y0.s 20) (z.s 4)) (.at (y0.s 20++z.s 4=z.s 20++dw (k+1) (z.i 1) (z.i 2) (z.i 3) (z.s 4) (z.g 5) (z.g 6))))));let v0:Fm:=(Qd (v2) (UE v4) v3 (z.s 20) v6 (v4%18446744073709551616) λy0=>(.cl ((Qc (y0.s 20) (z.g 6) (z.g 5) (z.s 4) (z.i 3) (z.i 2) (z.i 1) v4)) ((Mv (z.i 1=9->fy (z.g 5) v4/\(z.g 5).length=(z.g 6).length) k (z.g 6))/\(rz v4)/\(y0.s 20).length+rb (jU k) (z.g 6) 0<=100000000) (λy1=>y1.s 20=y0.s 20++sV (jm k) (z.i 1) (z.g 5) (z.g 6) 0) λy1=>(.an (pZ (y1.s 20)) (.at (y1.s 20=z.s 20++dw (k+1) (z.i 1) (z.i 2) (z.i 3) (z.s 4) (z.g 5) (z.g 6))))));(.an (EV (z.s 20) (z.i 1)) (.two (z.i 1=2) (.an (v3.length=(z.s 20).length+1/\(z.s 20).length+1<=1000000000/\0<=z.i 2%256/\True) (.an ((z.s 20++ [v6.toNat]++ [(z.i 2%256).toNat]).length=(z.s 20).length+1+1/\True) (.at (z.s 20++ [v6.toNat]++ [(z.i 2%256).toNat]=z.s 20++dw (k+1) (z.i 1) (z.i 2) (z.i 3) (z.s 4) (z.g 5) (z.g 6))))) (.two (z.i 1=3) (.ct v7 (λy0=>True) λy0=>(.cl (v2) v5 (λy1=>y1.s 20=z.s 20++ [v6.toNat]++aG (nR (z.i 2)).toNat) λy1=>(.an (pZ (y1.s 20)) (.at (y1.s 20=z.s 20++dw (k+1) (z.i 1) (z.i 2) (z.i 3) (z.s 4) (z.g 5) (z.g 6)))))) (.two (z.i 1=4) (.ct v7 (λy0=>True) λy0=>(.cl (v2) v5 (λy1=>y1.s 20=z.s 20++ [v6.toNat]++aG (nR (z.i 2)).toNat) λy1=>(.an (EV (y1.s 20) (z.i 3)) (.an (uC (y1.s 20++ [(z.i 3%256).toNat]) (y1.s 20)) (.at (y1.s 20++ [(z.i 3%256).toNat]=z.s 20++dw (k+1) (z.i 1) (z.i 2) (z.i 3) (z.s 4) (z.g 5) (z.g 6))))))) (.two (z.i 1=5) (Qd (v2) (UE (z.i 2)) v3 (z.s 20) v6 (z.i 2%18446744073709551616) λy0=>(.an (pZ (y0.s 20)) (.at (y0.s 20=z.s 20++dw (k+1) (z.i 1) (z.i 2) (z.i 3) (z.s 4) (z.g 5) (z.g 6))))) (.two (z.i 1=6) (.an (z.i 1=6) v1) (.two (z.i 1=7) v1 (.two (z.i 1=8) (.an (z.i 1=8) v0) (.two (z.i 1=9) v0 (.an v2 (.at (z.s 20++ [v6.toNat]=z.s 20++dw (k+1) (z.i 1) (z.i 2) (z.i 3) (z.s 4) (z.g 5) (z.g 6)))))))))))))) by
  dsimp only [IW,va,uP,uQ,IU] at hA;have:=vG k z;have:=FW k z;have:=@bW (nR (z.i 2));have:=@bW (z.i 2%18446744073709551616) (by omega);have:=VT z;have:=VU z;have:=@AB (z.i 2);have v3:(z.s 4).length<=1000000->(((z.s 4).length:Int)%18446744073709551616).toNat=(z.s 4).length:=λh=>by omega
  have v4:(z.g 6).length<=1000000->(((z.g 6).length:Int)%18446744073709551616).toNat=(z.g 6).length:=λh=>by omega
  have:=@qr k (z.i 1) (z.i 2) (z.i 3) (z.s 4) (z.g 5) (z.g 6);have:=@uL k (z.i 1) (z.i 2) (z.i 3) (z.s 4) (z.g 5) (z.g 6);have:=@uM k (z.i 1) (z.i 2) (z.i 3) (z.s 4) (z.g 5) (z.g 6);have:=@qs k (z.i 1) (z.i 2) (z.i 3) (z.s 4) (z.g 5) (z.g 6);have:=@mc k (z.i 1) (z.i 2) (z.i 3) (z.s 4) (z.g 5) (z.g 6);have:=@qt k (z.i 1) (z.i 2) (z.i 3) (z.s 4) (z.g 5) (z.g 6);have:=@qu k (z.i 1) (z.i 2) (z.i 3) (z.s 4) (z.g 5) (z.g 6);have:=UF k z;have:=UG k z;have c3:=Vj z;have:=UD z;have:=oz z;have:=ya k (z.s 4) (z.g 6);dsimp only [nP] at c3;exact pY
def CP(z:Sy)(h:uP 16 z=0)(hv:uQ 16 z):(IU 16 z).length<=sW 16 (z.s 4) (z.g 6):=
 ot 16 (.node [.int (z.i 1),.int (z.i 2),.int (z.i 3),.str (z.s 4),.node (z.g 5),.node (z.g 6)]) ((eD 16 _).symm.trans h) ((mZ 16 _)▸hv) |> λh=>by rw[←qq, ←uN] at h;exact h
def I8(z:Sy)(h:uP 16 z=0):Ms 16 (z.s 4) (z.g 6)<=(IU 16 z).length:=
 IT 16 (.node [.int (z.i 1),.int (z.i 2),.int (z.i 3),.str (z.s 4),.node (z.g 5),.node (z.g 6)]) ((eD 16 _).symm.trans h) |> λh=>by rw[←qq, ←AC] at h;exact h
end Go.Proofs.YtknhaomckfianaaGreatDoor
