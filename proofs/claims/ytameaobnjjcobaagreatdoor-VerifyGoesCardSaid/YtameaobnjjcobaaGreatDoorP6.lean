/- Part 6. -/
import Derived.Test.YtameaobnjjcobaaGreatDoorProg
import Derived.KernelRfl
import Derived.Test.YtameaobnjjcobaaGreatDoorP5
set_option linter.all false
namespace Go.Proofs.YtameaobnjjcobaaGreatDoor
open Go.Sym
set_option maxRecDepth 100000
def oN(n:Int):IntKind.u64.wrap n=n%18446744073709551616:=by simp [IntKind.wrap,IntKind.bits,IntKind.signed]
def sb(n:Int):IntKind.u8.wrap n=n%256:=by simp [IntKind.wrap,IntKind.bits,IntKind.signed]
def aK(n:Nat):List Nat:=if n<128 then [n] else(n%128+128)::aK (n/128)
termination_by n
decreasing_by omega
def EK{v:Int}(h:v<128):aK v.toNat= [v.toNat]:=by rw[aK,if_pos (by omega)]
def TL{v:Int}(h:128<=v):aK v.toNat=(v.toNat%128+128)::aK (v/128).toNat:=by rw[aK,if_neg (by omega)];congr 2;omega
def wR:∀(k n:Nat),n<128 ^ k->0<k->(aK n).length<=k:=by
 intro k
 induction k with
 |zero=>intro n _ h;omega
 |succ k ih=>
  intro n h _;rw[aK];split
  ·simp
  ·rename_i hn;have h2:n/128<128 ^ k:=by rw[aa_] at h;exact Nat.div_lt_of_lt_mul (by omega)
   have hk:0<k:=by
    rcases aa6 k with e|e
    ·subst e;simp at h;omega
    ·exact e
   have:=ih _ h2 hk;simp;omega
def cL{v:Int}(h:v<18446744073709551616):(aK v.toNat).length<=10:=by
 refine wR 10 _ ?_ (by decide);have:v.toNat<18446744073709551616:=by omega
 exact abh this (by decide)
def YY{v:Int}(h0:0<=v)(h:v<256):(Nat.lor (aE 256 v) (aE 256 128):Nat)=v.toNat%128+128:=by
 obtain⟨n,rfl⟩:∃n:Nat,v=n:=⟨v.toNat,by omega⟩
 have hn:n<256:=by omega
 show(n%256) ||| (128%256)=_;have:∀m:Fin 256,(m.1%256) ||| (128%256)=(m.1:Int).toNat%128+128:=by decide
 exact this ⟨n,hn⟩
def VK{v:Int}(h0:0<=v)(h:v<18446744073709551616):(Nat.land (aE 18446744073709551616 v) (aE 18446744073709551616 127):Nat)=v.toNat%128:=by
 obtain⟨n,rfl⟩:∃n:Nat,v=n:=⟨v.toNat,by omega⟩
 show(n%18446744073709551616) &&& (127%18446744073709551616)=_;rw[abt (by omega:n<18446744073709551616)];show n &&& (2 ^ 7-1)=_;rw[ab6];rfl
def LC{v:Int}(h0:0<=v)(h:v<256):IntKind.u8.wrap (Int.ofNat ((aE (am .u8) v).lor (aE (am .u8) 128)))=v%128+128:=by show IntKind.u8.wrap (Int.ofNat ((aE 256 v).lor (aE 256 128)))=_;rw[YY h0 h,sb];show((v.toNat%128+128:Nat):Int)%256=_;omega
def QI{v:Int}(h0:0<=v)(h:v<18446744073709551616):IntKind.u64.wrap (Int.ofNat ((aE (am .u64) v).land (aE (am .u64) 127)))=v%128:=by show IntKind.u64.wrap (Int.ofNat ((aE 18446744073709551616 v).land (aE 18446744073709551616 127)))=_;rw[VK h0 h,oN];show((v.toNat%128:Nat):Int)%18446744073709551616=_;omega
noncomputable section
def nw:FSpec:=⟨[.c (.i .u64 1)],[],λz=>0<=z.i 1/\z.i 1<18446744073709551616,λ_=>.one (.c (.vb 10)),λ_=>[],λz y=>y.s 10=aK (z.i 1).toNat,none⟩
def jv(p:Sy):LSpec:=⟨[(0,.c (.i .u64 1)),(3,.c (.gb 0 20))],[.growb 5 20],λz=>(0<=z.i 1/\z.i 1<18446744073709551616)/\(z.s 20).length+(aK (z.i 1).toNat).length<=10,λz=>(z.i 1).toNat,[⟨.exit 0,[(0,.c (.i .u64 1)),(3,.c (.gb 0 20))],[.growb 5 20]⟩],λz y=>y.s 20++aK (y.i 1).toNat=z.s 20++aK (z.i 1).toNat/\0<=y.i 1/\y.i 1<128/\(y.s 20).length<=10,none,[]⟩
abbrev uR:=nw
abbrev pH:=jv
end
set_option maxHeartbeats 4000000
abbrev bq:=Ok Tryz.prog
abbrev bM:=YU Tryz.prog
abbrev oP(a:List Nat):=a.length=a.length/\True
abbrev wS(a b:List Nat):=a.length=b.length+1/\True
abbrev YZ(a:Prop)(b c:Int)(d:List Nat)(e:Int):=a/\b.toNat<c.toNat/\∀(y:Sy),y.s 20++aK (y.i 1).toNat=d++ [e.toNat]++aK b.toNat/\0<=y.i 1/\y.i 1<128/\(y.s 20).length<=10->y.s 20++aK (y.i 1).toNat=d++aK c.toNat/\0<=y.i 1/\y.i 1<128/\(y.s 20).length<=10
abbrev nx:=am .u64
abbrev TM(a:List Nat)(b:Int):=a++aK b.toNat=a++aK b.toNat/\0<=b/\b<128/\a.length<=10
abbrev TN(a:List Nat)(b:Int):=a.length=a.length/\a.length<=1000000000/\(0:Int)<=IntKind.u8.wrap b/\True
def wT:bM 171 0 pH:=bL 3 1 eN lN λp z hA=>show Fm.den (let v0:=(Int.ofNat ((aE (am .u8) (IntKind.u64.wrap (Int.ofNat ((aE (nx) (z.i 1)).land (aE (nx) 127)))%256)).lor (aE (am .u8) 128)));let v1:=(IntKind.u8.wrap v0);(.two (128<=z.i 1) (.an (TN (z.s 20) v0) (.an (wS (z.s 20++ [v1.toNat]) (z.s 20)) (.at (YZ ((0<=z.i 1/128/\z.i 1/128<18446744073709551616)/\(z.s 20++ [v1.toNat]).length+(aK (z.i 1/128).toNat).length<=10) (z.i 1/128) (z.i 1) (z.s 20) v1)))) (.an (oP (z.s 20)) (.at (TM (z.s 20) (z.i 1)))))) by dsimp only [pH,jv] at hA;have:=@QI (z.i 1);have:=@LC (z.i 1%128%256) (by omega) (by omega);have:=@TL (z.i 1);have:=@EK (z.i 1);exact z_
abbrev It(a:List Nat)(b:Int):=a.length=a.length/\a.length<=1000000000/\0<=b%256/\True
abbrev TO(a b:Prop)(c:List Nat)(d:Int):=Fm.cl (a) (b/\0+c.length<=10) (λy=>y.s 20++aK (y.i 1).toNat= []++aK d.toNat/\0<=y.i 1/\y.i 1<128/\(y.s 20).length<=10)
abbrev lM:=0=0/\True
abbrev EL(a:Int):=0<=a/\a<18446744073709551616
def da:bq 171 uR:=bC 1 0 eN (aG (ptm:=[]) wT lN) λz hA=>show Fm.den ((TO (lM) (EL (z.i 1)) (aK (z.i 1).toNat) (z.i 1) λy0=>(.an (It (y0.s 20) (y0.i 1)) (.an (wS (y0.s 20++ [(y0.i 1%256).toNat]) (y0.s 20)) (.at (y0.s 20++ [(y0.i 1%256).toNat]=aK (z.i 1).toNat)))))) by dsimp only [uR,nw] at hA;have:=@cL (z.i 1);have:=@EK;exact z_
def Aa:bM 130 0 jv:=bL 3 1 eN lN λp z hA=>show Fm.den (let v0:=(Int.ofNat ((aE (am .u8) (z.i 1%256)).lor (aE (am .u8) 128)));let v1:=(IntKind.u8.wrap v0);(.two (128<=z.i 1) (.an (TN (z.s 20) v0) (.an (wS (z.s 20++ [v1.toNat]) (z.s 20)) (.at (YZ ((0<=z.i 1/128/\z.i 1/128<18446744073709551616)/\(z.s 20++ [v1.toNat]).length+(aK (z.i 1/128).toNat).length<=10) (z.i 1/128) (z.i 1) (z.s 20) v1)))) (.an (oP (z.s 20)) (.at (TM (z.s 20) (z.i 1)))))) by dsimp only [jv] at hA;have:=@LC (z.i 1%256) (by omega) (by omega);have:=@TL (z.i 1);have:=@EK (z.i 1);exact z_
def fY:bq 130 nw:=bC 1 0 eN (aG (ptm:=[]) Aa lN) λz hA=>show Fm.den ((TO (lM) (EL (z.i 1)) (aK (z.i 1).toNat) (z.i 1) λy0=>(.an (It (y0.s 20) (y0.i 1)) (.an (wS (y0.s 20++ [(y0.i 1%256).toNat]) (y0.s 20)) (.at (y0.s 20++ [(y0.i 1%256).toNat]=aK (z.i 1).toNat)))))) by dsimp only [nw] at hA;have:=@cL (z.i 1);have:=@EK;exact z_
noncomputable section
abbrev EM:Nat:=am .u32
def LD(a b:Int):Int:=IntKind.u32.wrap (.ofNat (Nat.lor (aE EM a) (aE EM b)))
def cR(a b:Int):Int:=IntKind.u32.wrap (.ofNat (Nat.xor (aE EM a) (aE EM b)))
def iP(a b:Int):Int:=IntKind.u32.wrap (.ofNat (Nat.land (aE EM a) (aE EM b)))
def Ab(a:Int):Int:=IntKind.u32.wrap (.ofNat (Nat.xor (aE EM (if IntKind.u32.signed then -1 else IntKind.u32.max)) (aE EM a)))
def lm(x n:Int):Int:=LD (x/((2 ^ min n.toNat (bj .u32):Nat):Int)) (x * ((2 ^ min ((32-n)%18446744073709551616).toNat (bj .u32):Nat):Int)%4294967296)
def kE(s:List Nat)(i:Int):Int:=((s.getD i.toNat 0:Nat):Int)
def X8(a b c d:Int):Int:=LD (LD (LD (a%4294967296 * 16777216%4294967296) (b%4294967296 * 65536%4294967296)) (c%4294967296 * 256%4294967296)) (d%4294967296)
def TP(s:List Nat)(i:Int):Int:=X8 (kE s (4 * i)) (kE s (4 * i+1)) (kE s (4 * i+2)) (kE s (4 * i+3))
def tP(l:List G)(i:Int):Int:=gI (aa (aq l i.toNat) 0)
def tQ(x:Int):G:=.node [.int x]
def wU(s:List Nat):Nat->Int->List G->List G
 |0,_,l=>l
 |k+1,i,l=>wU s k (i+1) (l.set i.toNat (tQ (TP s i)))
def wNx(l:List G)(i:Int):Int:=
 (((tP l (i-16)+cR (cR (lm (tP l (i-15)) 7) (lm (tP l (i-15)) 18)) (tP l (i-15)/8))%4294967296+tP l (i-7))%4294967296+cR (cR (lm (tP l (i-2)) 17) (lm (tP l (i-2)) 19)) (tP l (i-2)/1024))%4294967296
def CD:Nat->Int->List G->List G
 |0,_,l=>l
 |k+1,i,l=>CD k (i+1) (l.set i.toNat (tQ (wNx l i)))
structure V8 where
 (a b c d e f g h:Int)
def rt(k w:Int)(v:V8):Int:=((((v.h+cR (cR (lm v.e 6) (lm v.e 11)) (lm v.e 25))%4294967296+cR (iP v.e v.f) (iP (Ab v.e) v.g))%4294967296+k)%4294967296+w)%4294967296
def ru(v:V8):Int:=(cR (cR (lm v.a 2) (lm v.a 13)) (lm v.a 22)+cR (cR (iP v.a v.b) (iP v.a v.c)) (iP v.b v.c))%4294967296
def eJ(k w:Int)(v:V8):V8:=⟨(rt k w v+ru v)%4294967296,v.a,v.b,v.c,(v.d+rt k w v)%4294967296,v.e,v.f,v.g⟩
def BG(k w:List G):Nat->Int->V8->V8
 |0,_,v=>v
 |n+1,i,v=>BG k w n (i+1) (eJ (tP k i) (tP w i) v)
def Ac{s:List Nat}{i:Int}{l:List G}(h:i<16):wU s (16-i).toNat i l=wU s (16-(i+1)).toNat (i+1) (l.set i.toNat (tQ (TP s i))):=by rw[show(16-i).toNat=(16-(i+1)).toNat+1 by omega];rfl
def EN{s:List Nat}{i:Int}{l:List G}(h:16<=i):wU s (16-i).toNat i l=l:=by rw[show(16-i).toNat=0 by omega];rfl
def Ad{i:Int}{l:List G}(h:i<64):CD (64-i).toNat i l=CD (64-(i+1)).toNat (i+1) (l.set i.toNat (tQ (wNx l i))):=by rw[show(64-i).toNat=(64-(i+1)).toNat+1 by omega];rfl
def EO{i:Int}{l:List G}(h:64<=i):CD (64-i).toNat i l=l:=by rw[show(64-i).toNat=0 by omega];rfl
def Ae{k w:List G}{i:Int}{v:V8}(h:i<64):BG k w (64-i).toNat i v=BG k w (64-(i+1)).toNat (i+1) (eJ (tP k i) (tP w i) v):=by rw[show(64-i).toNat=(64-(i+1)).toNat+1 by omega];rfl
def EP{k w:List G}{i:Int}{v:V8}(h:64<=i):BG k w (64-i).toNat i v=v:=by rw[show(64-i).toNat=0 by omega];rfl
def zw(n:Nat):List G:=List.replicate n (tQ 0)
def Y0(s:List Nat):List G:=CD 48 16 (wU s 16 0 (zw 64))
def Y1(k:List G)(s:List Nat)(v:V8):V8:=BG k (Y0 s) 64 0 v
def Y2(v u:V8):V8:=⟨(v.a+u.a)%4294967296,(v.b+u.b)%4294967296,(v.c+u.c)%4294967296,(v.d+u.d)%4294967296,(v.e+u.e)%4294967296,(v.f+u.f)%4294967296,(v.g+u.g)%4294967296,(v.h+u.h)%4294967296⟩
def oQ(k:List G)(s:List Nat)(v:V8):V8:=Y2 v (Y1 k s v)
abbrev v8(z:Sy):V8:=⟨z.i 30,z.i 31,z.i 32,z.i 33,z.i 34,z.i 35,z.i 36,z.i 37⟩
def PN:List Sh:=[.i .u32 30,.i .u32 31,.i .u32 32,.i .u32 33,.i .u32 34,.i .u32 35,.i .u32 36,.i .u32 37]
abbrev EQ(z:Sy):V8:=⟨z.i 40,z.i 41,z.i 42,z.i 43,z.i 44,z.i 45,z.i 46,z.i 47⟩
def Y3:List Sh:=[.i .u32 40,.i .u32 41,.i .u32 42,.i .u32 43,.i .u32 44,.i .u32 45,.i .u32 46,.i .u32 47]
def sg{z y0 y1 y2:Sy}{p q:Prop}(h0:v8 y0=v8 z/\y0.g 1=z.g 2/\p/\y0.g 2=wU (z.s 1) (16-0:Int).toNat 0 [G.node [G.int 0],G.node [G.int 0],G.node [G.int 0],G.node [G.int 0],G.node [G.int 0],G.node [G.int 0],G.node [G.int 0],G.node [G.int 0],G.node [G.int 0],G.node [G.int 0],G.node [G.int 0],G.node [G.int 0],G.node [G.int 0],G.node [G.int 0],G.node [G.int 0],G.node [G.int 0],G.node [G.int 0],G.node [G.int 0],G.node [G.int 0],G.node [G.int 0],G.node [G.int 0],G.node [G.int 0],G.node [G.int 0],G.node [G.int 0],G.node [G.int 0],G.node [G.int 0],G.node [G.int 0],G.node [G.int 0],G.node [G.int 0],G.node [G.int 0],G.node [G.int 0],G.node [G.int 0],G.node [G.int 0],G.node [G.int 0],G.node [G.int 0],G.node [G.int 0],G.node [G.int 0],G.node [G.int 0],G.node [G.int 0],G.node [G.int 0],G.node [G.int 0],G.node [G.int 0],G.node [G.int 0],G.node [G.int 0],G.node [G.int 0],G.node [G.int 0],G.node [G.int 0],G.node [G.int 0],G.node [G.int 0],G.node [G.int 0],G.node [G.int 0],G.node [G.int 0],G.node [G.int 0],G.node [G.int 0],G.node [G.int 0],G.node [G.int 0],G.node [G.int 0],G.node [G.int 0],G.node [G.int 0],G.node [G.int 0],G.node [G.int 0],G.node [G.int 0],G.node [G.int 0],G.node [G.int 0]])(h1:v8 y1=v8 y0/\y1.g 1=y0.g 1/\q/\y1.g 2=CD (64-16:Int).toNat 16 (y0.g 2))(h2:v8 y2=v8 y1/\y2.g 1=y1.g 1/\EQ y2=BG (y1.g 1) (y1.g 2) (64-0:Int).toNat 0 (v8 y1)):
 y2.g 1=z.g 2/\Y2 (v8 y2) (EQ y2)=oQ (z.g 2) (z.s 1) (v8 z):=by
 obtain⟨a1,a2,_,a3⟩:=h0
 obtain⟨b1,b2,_,b3⟩:=h1
 obtain⟨c1,c2,c3⟩:=h2
 refine⟨by rw[c2,b2,a2], ?_⟩
 rw[c3,c1,b1,a1,b2,a2,b3,a3]
 rfl
def KG:List G:=[.node [.int 1116352408],.node [.int 1899447441],.node [.int 3049323471],.node [.int 3921009573],.node [.int 961987163],.node [.int 1508970993],.node [.int 2453635748],.node [.int 2870763221],.node [.int 3624381080],.node [.int 310598401],.node [.int 607225278],.node [.int 1426881987],.node [.int 1925078388],.node [.int 2162078206],.node [.int 2614888103],.node [.int 3248222580],.node [.int 3835390401],.node [.int 4022224774],.node [.int 264347078],.node [.int 604807628],.node [.int 770255983],.node [.int 1249150122],.node [.int 1555081692],.node [.int 1996064986],.node [.int 2554220882],.node [.int 2821834349],.node [.int 2952996808],.node [.int 3210313671],.node [.int 3336571891],.node [.int 3584528711],.node [.int 113926993],.node [.int 338241895],.node [.int 666307205],.node [.int 773529912],.node [.int 1294757372],.node [.int 1396182291],.node [.int 1695183700],.node [.int 1986661051],.node [.int 2177026350],.node [.int 2456956037],.node [.int 2730485921],.node [.int 2820302411],.node [.int 3259730800],.node [.int 3345764771],.node [.int 3516065817],.node [.int 3600352804],.node [.int 4094571909],.node [.int 275423344],.node [.int 430227734],.node [.int 506948616],.node [.int 659060556],.node [.int 883997877],.node [.int 958139571],.node [.int 1322822218],.node [.int 1537002063],.node [.int 1747873779],.node [.int 1955562222],.node [.int 2024104815],.node [.int 2227730452],.node [.int 2361852424],.node [.int 2428436474],.node [.int 2756734187],.node [.int 3204031479],.node [.int 3329325298]]
def V0:V8:=⟨1779033703,3144134277,1013904242,2773480762,1359893119,2600822924,528734635,1541459225⟩
def gm(k:List G)(s:List Nat)(v:V8):V8:=if 64<=s.length then gm k (s.drop 64) (oQ k s v) else v
termination_by s.length
decreasing_by simp;omega
def bZ(s:List Nat):List Nat:=if 64<=s.length then bZ (s.drop 64) else s
termination_by s.length
decreasing_by simp;omega
def eW{k:List G}{s:List Nat}{v:V8}(h:64<=s.length):gm k s v=gm k (s.drop 64) (oQ k s v):=by rw[gm,if_pos h]
def iQ{k:List G}{s:List Nat}{v:V8}(h:s.length<64):gm k s v=v:=by rw[gm,if_neg (by omega)]
def oR{s:List Nat}(h:64<=s.length):bZ s=bZ (s.drop 64):=by rw[bZ,if_pos h]
def sh{s:List Nat}(h:s.length<64):bZ s=s:=by rw[bZ,if_neg (by omega)]
def ES(e d:Int):Nat->Int->List Nat->List Nat
 |0,_,l=>l
 |k+1,i,l=>ES e d k (i+1) (l.set (e-1-i).toNat ((d/((2 ^ min (8 * i).toNat (bj .u64):Nat):Int))%256).toNat)
def si(e d i:Int)(l:List Nat):List Nat:=ES e d (8-i).toNat i l
def LE{e d i:Int}{l:List Nat}(h:i<8):ES e d (8-i).toNat i l=ES e d (8-(i+1)).toNat (i+1) (l.set (e-1-i).toNat ((d/((2 ^ min (8 * i).toNat (bj .u64):Nat):Int))%256).toNat):=by rw[show(8-i).toNat=(8-(i+1)).toNat+1 by omega];rfl
def QJ{e d i:Int}{l:List Nat}(h:8<=i):ES e d (8-i).toNat i l=l:=by rw[show(8-i).toNat=0 by omega];rfl
def Iu{e d i:Int}{l:List Nat}(h:i<8):si e d i l=si e d (i+1) (l.set (e-1-i).toNat ((d/((2 ^ min (8 * i).toNat (bj .u64):Nat):Int))%256).toNat):=LE h
def LG{e d i:Int}{l:List Nat}(h:8<=i):si e d i l=l:=QJ h
def TQ(r:List Nat):List Nat:=(r.take 128++(List.replicate 128 0).drop r.length).set (min r.length 128) 128
def BH(s:List Nat):Int:=(s.length:Int)%18446744073709551616 * 8%18446744073709551616
def eB(s:List Nat):V8:=
 if 56<=min (bZ s).length 128 then oQ KG (((ES 128 (BH s) 8 0 (TQ (bZ s))).take 128).drop 64) (oQ KG (((ES 128 (BH s) 8 0 (TQ (bZ s))).take 128).drop 0) (gm KG s V0))
 else oQ KG (((ES 64 (BH s) 8 0 (TQ (bZ s))).take 128).drop 0) (gm KG s V0)
def ZB:List Nat:=let x:=Int.toNat 0; [x,x,x,x,x,x,x,x,x,x,x,x,x,x,x,x,x,x,x,x,x,x,x,x,x,x,x,x,x,x,x,x,x,x,x,x,x,x,x,x,x,x,x,x,x,x,x,x,x,x,x,x,x,x,x,x,x,x,x,x,x,x,x,x,x,x,x,x,x,x,x,x,x,x,x,x,x,x,x,x,x,x,x,x,x,x,x,x,x,x,x,x,x,x,x,x,x,x,x,x,x,x,x,x,x,x,x,x,x,x,x,x,x,x,x,x,x,x,x,x,x,x,x,x,x,x,x,x]
def TR:ZB=List.replicate 128 0:=by decide
def VM(r:List Nat)(h:r.length<64):(List.take 128 r++List.drop r.length ZB).length=128:=by rw[TR];simp;omega
def LH{r:List Nat}:(List.take 128 r++List.drop r.length ZB).set (((min r.length 128:Nat):Int)).toNat (Int.toNat 128)=TQ r:=by rw[TR];rfl
def VN{z y0:Sy}{p q:Prop}(h0:y0.s 6=z.s 1/\y0.g 2=KG/\p/\q/\(y0.s 5).length<64):(List.take 128 (y0.s 5)++List.drop (y0.s 5).length ZB).length=128/\(y0.g 2).length=64/\(y0.s 5).length<64:=
 ⟨VM _ h0.2.2.2.2,by rw[h0.2.1];rfl,h0.2.2.2.2⟩
def VO{z y0:Sy}{p q:Prop}(h0:y0.s 6=z.s 1/\y0.g 2=KG/\p/\q/\(y0.s 5).length<64):y0.g 2=KG:=h0.2.1
def LI{z y0 y1 y2 y3:Sy}{p q:Prop}(h0:y0.s 6=z.s 1/\y0.g 2=KG/\v8 y0=gm KG (z.s 1) V0/\y0.s 5=bZ (z.s 1)/\(y0.s 5).length<64)(hc:56<=((min (y0.s 5).length 128:Nat):Int))(h1:y1.g 2=KG/\v8 y1=v8 y0/\p/\q/\y1.s 7=si 128 (((y0.s 6).length:Int)%18446744073709551616 * 8%18446744073709551616) 0 ((List.take 128 (y0.s 5)++List.drop (y0.s 5).length ZB).set (((min (y0.s 5).length 128:Nat):Int)).toNat (Int.toNat 128)))(h2:y2.g 2=y1.g 2/\v8 y2=oQ (y1.g 2) (List.drop (Int.toNat 0) (List.take (Int.toNat 128) (y1.s 7))) (v8 y1))(h3:y3.g 2=y2.g 2/\v8 y3=oQ (y2.g 2) (List.drop (Int.toNat 64) (List.take (Int.toNat 128) (y1.s 7))) (v8 y2)):v8 y3=eB (z.s 1):=by
 obtain⟨a1,a2,a3,a4,a5⟩:=h0
 obtain⟨b1,b2,_,_,b3⟩:=h1
 rw[LH] at b3
 unfold eB
 rw[←a4,if_pos (by omega),h3.2,h2.1,h2.2,b1,b2,a3,b3,a1]
 rfl
def LJ{z y0 y1 y2:Sy}{p q:Prop}(h0:y0.s 6=z.s 1/\y0.g 2=KG/\v8 y0=gm KG (z.s 1) V0/\y0.s 5=bZ (z.s 1)/\(y0.s 5).length<64)(hc:¬56<=((min (y0.s 5).length 128:Nat):Int))(h1:y1.g 2=KG/\v8 y1=v8 y0/\p/\q/\y1.s 7=si 64 (((y0.s 6).length:Int)%18446744073709551616 * 8%18446744073709551616) 0 ((List.take 128 (y0.s 5)++List.drop (y0.s 5).length ZB).set (((min (y0.s 5).length 128:Nat):Int)).toNat (Int.toNat 128)))(h2:y2.g 2=y1.g 2/\v8 y2=oQ (y1.g 2) (List.drop (Int.toNat 0) (List.take (Int.toNat 128) (y1.s 7))) (v8 y1)):v8 y2=eB (z.s 1):=by
 obtain⟨a1,a2,a3,a4,a5⟩:=h0
 obtain⟨b1,b2,_,_,b3⟩:=h1
 rw[LH] at b3
 unfold eB
 rw[←a4,if_neg (by omega),h2.2,b1,b2,a3,b3,a1]
 rfl
def sp8(v:V8):List Sh:=[.pi .u32 v.a,.pi .u32 v.b,.pi .u32 v.c,.pi .u32 v.d,.pi .u32 v.e,.pi .u32 v.f,.pi .u32 v.g,.pi .u32 v.h]
def ny{s:List Nat}{i:Int}(j:Int)(h0:0<=i)(h1:0<=j):kE (List.drop (4 * i).toNat (List.take (s.length:Int).toNat s)) j=kE s (4 * i+j):=by unfold kE;rw[aaE,abg,aas,aaH,aas];congr 3;omega
def LK{s:List Nat}{i:Int}(h0:0<=i):X8 (kE (List.drop (4 * i).toNat (List.take (s.length:Int).toNat s)) 0) (kE (List.drop (4 * i).toNat (List.take (s.length:Int).toNat s)) 1) (kE (List.drop (4 * i).toNat (List.take (s.length:Int).toNat s)) 2) (kE (List.drop (4 * i).toNat (List.take (s.length:Int).toNat s)) 3)=TP s i:=by unfold TP;rw[ny 0 h0 (by decide),ny 1 h0 (by decide),ny 2 h0 (by decide),ny 3 h0 (by decide),Int.add_zero]
def hb(v:V8)(j:Nat):Int:=[v.a/16777216%256,v.a/65536%256,v.a/256%256,v.a%256,v.b/16777216%256,v.b/65536%256,v.b/256%256,v.b%256,v.c/16777216%256,v.c/65536%256,v.c/256%256,v.c%256,v.d/16777216%256,v.d/65536%256,v.d/256%256,v.d%256,
 v.e/16777216%256,v.e/65536%256,v.e/256%256,v.e%256,v.f/16777216%256,v.f/65536%256,v.f/256%256,v.f%256,v.g/16777216%256,v.g/65536%256,v.g/256%256,v.g%256,v.h/16777216%256,v.h/65536%256,v.h/256%256,v.h%256].getD j 0
def h32(v:V8):List Sh:=(List.range 32).map λj=>.pi .u8 (hb v j)
def ET:FSpec:=⟨[.c (.i .u32 1),.c (.i .u64 2)],[],λz=>0<=z.i 2,λz=>.one (.c (.pi .u32 (lm (z.i 1) (z.i 2)))),λ_=>[],λz y=>True,none⟩
abbrev LL:=ET
def TS:FSpec:=⟨[.c (.vb 1)],[],λz=>4<=(z.s 1).length,λz=>.one (.c (.pi .u32 (X8 (kE (z.s 1) 0) (kE (z.s 1) 1) (kE (z.s 1) 2) (kE (z.s 1) 3)))),λ_=>[],λz y=>True,none⟩
def QK:List BSh:=[.cells 145 PN,.arr 9 146 1,.arr 9 146 2]
def tkT:List (Nat×Sa):=[(0,.c (.p 0)),(2,.c (.p 1)),(6,.c (.p 2))]
def EU(p:Sy):LSpec:=⟨[(0,.c (.p 0)),(2,.c (.p 1)),(6,.c (.p 2)),(1,.c (.vb 3)),(20,.c (.i .i64 20))],QK,λz=>64<=(z.s 3).length/\(z.g 1).length=64/\(z.g 2).length=64/\0<=z.i 20/\z.i 20<=16,λz=>(16-z.i 20).toNat,[⟨.exit 0,tkT,QK⟩],λz y=>v8 y=v8 z/\y.g 1=z.g 1/\(y.g 2).length=64/\y.g 2=wU (z.s 3) (16-z.i 20).toNat (z.i 20) (z.g 2),none,[]⟩
def EV(p:Sy):LSpec:=⟨[(0,.c (.p 0)),(2,.c (.p 1)),(6,.c (.p 2)),(8,.c (.i .i64 8))],QK,λz=>(z.g 1).length=64/\(z.g 2).length=64/\16<=z.i 8/\z.i 8<=64,λz=>(64-z.i 8).toNat,[⟨.exit 2,tkT,QK⟩],λz y=>v8 y=v8 z/\y.g 1=z.g 1/\(y.g 2).length=64/\y.g 2=CD (64-z.i 8).toNat (z.i 8) (z.g 2),none,[]⟩
def TU:List BSh:=[.cells 145 PN,.arr 9 146 1,.arr 9 146 2,.cells 145 Y3]
def tkT2:List (Nat×Sa):=[(0,.c (.p 0)),(2,.c (.p 1)),(6,.c (.p 2)),(13,.c (.p 3))]
def EW(p:Sy):LSpec:=⟨[(0,.c (.p 0)),(2,.c (.p 1)),(6,.c (.p 2)),(13,.c (.p 3)),(77,.c (.i .i64 77))],TU,λz=>(z.g 1).length=64/\(z.g 2).length=64/\0<=z.i 77/\z.i 77<=64,λz=>(64-z.i 77).toNat,[⟨.exit 4,tkT2,TU⟩],λz y=>v8 y=v8 z/\y.g 1=z.g 1/\EQ y=BG (z.g 1) (z.g 2) (64-z.i 77).toNat (z.i 77) (EQ z),none,[]⟩
def TV:FSpec:=⟨[.c (.p 0),.c (.vb 1),.c (.p 1)],[.cells 145 PN,.arr 9 146 2],λz=>64<=(z.s 1).length/\(z.g 2).length=64,λz=>.tu [],λz=>[.cells 145 PN,.arr 9 146 2],λz y=>y.g 2=z.g 2/\v8 y=oQ (z.g 2) (z.s 1) (v8 z),none⟩
def z32:List Sh:=List.replicate 32 (.pi .u8 0)
def Y4:List BSh:=[.cells 145 PN,.arr 9 146 2,.cells 36 z32]
def smT:List (Nat×Sa):=[(0,.c (.vb 6)),(2,.c (.p 2)),(3,.c (.p 0)),(4,.c (.p 1)),(5,.c (.vb 5))]
def LM(p:Sy):LSpec:=⟨smT,Y4,λz=>z.g 2=KG,λz=>(z.s 5).length,[⟨.exit 0,smT,Y4⟩],λz y=>y.s 6=z.s 6/\y.g 2=KG/\v8 y=gm KG (z.s 5) (v8 z)/\y.s 5=bZ (z.s 5)/\(y.s 5).length<64,none,[]⟩
def TW:List BSh:=[.cells 145 PN,.arr 9 146 2,.cells 36 z32,.arb 150 7]
def LN(p:Sy):LSpec:=⟨[(2,.c (.p 2)),(3,.c (.p 0)),(4,.c (.p 1)),(6,.c (.p 3)),(8,.c (.i .i64 8)),(9,.c (.i .u64 9)),(35,.c (.i .i64 20))],TW,λz=>z.g 2=KG/\(z.s 7).length=128/\(z.i 8=64∨z.i 8=128)/\0<=z.i 20/\z.i 20<=8,λz=>(8-z.i 20).toNat,[⟨.exit 2,[(2,.c (.p 2)),(3,.c (.p 0)),(4,.c (.p 1)),(6,.c (.p 3)),(8,.c (.i .i64 8))],TW⟩],λz y=>y.g 2=KG/\v8 y=v8 z/\y.i 8=z.i 8/\(y.s 7).length=128/\y.s 7=si (z.i 8) (z.i 9) (z.i 20) (z.s 7),none,[]⟩
def VP:FSpec:=⟨[.c (.vb 1)],[],λz=>(z.s 1).length<=1000000000,λz=>.one (.ag (h32 (eB (z.s 1)))),λ_=>[],λz y=>True,none⟩
end
abbrev b_:=am .u32
abbrev EX:=bj IntKind.u32
def EY:bq 198 LL:=bC 1 0 eN lN λz hA=>show Fm.den ((.an (0<=z.i 2) (.an ((0:Int)<=(32-z.i 2)%18446744073709551616) (.an (IntKind.u32.wrap (Int.ofNat ((aE (b_) (z.i 1/(↑(2 ^ Min.min (z.i 2).toNat (EX)):Int))).lor (aE (b_) (z.i 1 * (↑(2 ^ Min.min ((32-z.i 2)%18446744073709551616).toNat (EX)):Int)%4294967296))))=lm (z.i 1) (z.i 2)/\True) (.at (True)))))) by
 dsimp only [LL,ET] at hA;repeat' with_reducible first|intro _|apply ci|apply cm|apply cj|apply cD|apply cA
 all_goals first|omega|(repeat' first|refine And.intro ?_ ?_|intro _) <;> first|omega|rfl|grind [ao,ak,aj]
abbrev eL(a:Int):=IntKind.u32.wrap a
abbrev kF:=Int.toNat 0
abbrev sj(a:Int):=IntKind.u32.wrap a
def VS:bq 134 TS:=bC 1 0 eN lN λz hA=>show Fm.den (let v0:=(b_);let v1:=(↑(z.s 1).length:Int);(.an ((0:Int)<=0/\0<v1) (.an ((0:Int)<=1/\1<v1) (.an ((0:Int)<=2/\2<v1) (.an ((0:Int)<=3/\3<v1) (.an (IntKind.u32.wrap (Int.ofNat ((aE v0 (sj (Int.ofNat ((aE v0 (eL (Int.ofNat ((aE v0 ((↑((z.s 1).getD (kF) 0):Int)%4294967296 * 16777216%4294967296)).lor (aE v0 ((↑((z.s 1).getD (Int.toNat 1) 0):Int)%4294967296 * 65536%4294967296)))))).lor (aE v0 ((↑((z.s 1).getD (Int.toNat 2) 0):Int)%4294967296 * 256%4294967296)))))).lor (aE v0 ((↑((z.s 1).getD (Int.toNat 3) 0):Int)%4294967296))))=X8 (kE (z.s 1) 0) (kE (z.s 1) 1) (kE (z.s 1) 2) (kE (z.s 1) 3)/\True) (.at (True)))))))) by
 dsimp only [TS] at hA;conv=>zeta
 repeat' with_reducible first|intro _|apply ci|apply cm|apply cj|apply cD|apply cA
 all_goals first|omega|(repeat' first|refine And.intro ?_ ?_|intro _) <;> first|omega|rfl|grind [ao,ak,aj]
abbrev tS(a:Int)(b:List G):=a.toNat<b.length/\True
abbrev LO(a b:List G):=0<a.length/\0<b.length/\True
abbrev lO(a:List G):=0<a.length
abbrev sn(a:Int):=G.node [G.int a]
abbrev uS(a:Int):=0<=a/\a<64
def LP:bM 63 0 EU:=bL 5 41 (ai VS eN) lN λp z hA=>show Fm.den (let v2:=(↑(z.s 3).length:Int);let v0:=(List.drop (4 * z.i 20).toNat (List.take v2.toNat (z.s 3)));let v1:=((z.g 2).set (z.i 20).toNat (sn (X8 (kE v0 0) (kE v0 1) (kE v0 2) (kE v0 3))));(.two (z.i 20<16) (.an ((-9223372036854775808)<=4 * z.i 20/\4 * z.i 20<=9223372036854775807) (.an (0<=4 * z.i 20/\4 * z.i 20<=v2/\v2<=v2) (.ct (4<=v0.length) (λy0=>True) λy0=>(.an (uS (z.i 20)) (.an (lO (z.g 2)) (.an (tS (z.i 20) (z.g 2)) (.an ((-9223372036854775808)<=z.i 20+1/\z.i 20+1<=9223372036854775807) (.an (0<v1.length/\0<(z.g 1).length/\True) (.at ((64<=(z.s 3).length/\(z.g 1).length=64/\v1.length=64/\0<=z.i 20+1/\z.i 20+1<=16)/\((16:Int)-(z.i 20+1)).toNat<(16-z.i 20).toNat/\∀(y:Sy),V8.mk (y.i 30) (y.i 31) (y.i 32) (y.i 33) (y.i 34) (y.i 35) (y.i 36) (y.i 37)=V8.mk (z.i 30) (z.i 31) (z.i 32) (z.i 33) (z.i 34) (z.i 35) (z.i 36) (z.i 37)/\y.g 1=z.g 1/\(y.g 2).length=64/\y.g 2=wU (z.s 3) (16-(z.i 20+1)).toNat (z.i 20+1) v1->V8.mk (y.i 30) (y.i 31) (y.i 32) (y.i 33) (y.i 34) (y.i 35) (y.i 36) (y.i 37)=V8.mk (z.i 30) (z.i 31) (z.i 32) (z.i 33) (z.i 34) (z.i 35) (z.i 36) (z.i 37)/\y.g 1=z.g 1/\(y.g 2).length=64/\y.g 2=wU (z.s 3) (16-z.i 20).toNat (z.i 20) (z.g 2))))))))))) (.an (LO (z.g 2) (z.g 1)) (.at (V8.mk (z.i 30) (z.i 31) (z.i 32) (z.i 33) (z.i 34) (z.i 35) (z.i 36) (z.i 37)=V8.mk (z.i 30) (z.i 31) (z.i 32) (z.i 33) (z.i 34) (z.i 35) (z.i 36) (z.i 37)/\z.g 1=z.g 1/\(z.g 2).length=64/\z.g 2=wU (z.s 3) (16-z.i 20).toNat (z.i 20) (z.g 2)))))) by
 dsimp only [EU,v8] at hA;have:=@LK (z.s 3) (z.i 20);have:=@Ac (z.s 3) (z.i 20) (z.g 2);have:=@EN (z.s 3) (z.i 20) (z.g 2);conv=>zeta
 repeat' with_reducible first|intro _|apply ci|apply cm|apply cj|apply cD|apply cA
 all_goals first|omega|(repeat' first|refine And.intro ?_ ?_|intro _) <;> first|omega|rfl|grind [ao,ak,aj,List.append_assoc,List.length_append,List.length_cons,List.length_nil,List.append_cancel_left_eq,List.cons.injEq,tQ]
def LQ:bq 135 ET:=bC 1 0 eN lN λz hA=>show Fm.den ((.an (0<=z.i 2) (.an ((0:Int)<=(32-z.i 2)%18446744073709551616) (.an (IntKind.u32.wrap (Int.ofNat ((aE (b_) (z.i 1/(↑(2 ^ Min.min (z.i 2).toNat (EX)):Int))).lor (aE (b_) (z.i 1 * (↑(2 ^ Min.min ((32-z.i 2)%18446744073709551616).toNat (EX)):Int)%4294967296))))=lm (z.i 1) (z.i 2)/\True) (.at (True)))))) by
 dsimp only [ET] at hA;repeat' with_reducible first|intro _|apply ci|apply cm|apply cj|apply cD|apply cA
 all_goals first|omega|(repeat' first|refine And.intro ?_ ?_|intro _) <;> first|omega|rfl|grind [ao,ak,aj]
abbrev aM(a:List G)(b:Int):=aq a b.toNat
abbrev eD(a:Int)(b:List G):=a.toNat<b.length
abbrev aT(a:G):=aa a 0
def LT:bM 63 2 EV:=bL 8 2729 (ai LQ eN) lN λp z hA=>show Fm.den (let v0:=((z.g 2).set (z.i 8).toNat (sn ((((gI (aT (aM (z.g 2) (z.i 8-16)))+IntKind.u32.wrap (Int.ofNat ((aE (b_) (eL (Int.ofNat ((aE (b_) (lm (gI (aT (aM (z.g 2) (z.i 8-15)))) 7)).xor (aE (b_) (lm (gI (aT (aM (z.g 2) (z.i 8-15)))) 18)))))).xor (aE (b_) (gI (aT (aM (z.g 2) (z.i 8-15)))/8)))))%4294967296+gI (aT (aM (z.g 2) (z.i 8-7))))%4294967296+IntKind.u32.wrap (Int.ofNat ((aE (b_) (eL (Int.ofNat ((aE (b_) (lm (gI (aT (aM (z.g 2) (z.i 8-2)))) 17)).xor (aE (b_) (lm (gI (aT (aM (z.g 2) (z.i 8-2)))) 19)))))).xor (aE (b_) (gI (aT (aM (z.g 2) (z.i 8-2)))/1024)))))%4294967296)));let v1:=(lO (z.g 2));let v2:=((64:Int)-(z.i 8+1));(.two (z.i 8<64) (.an ((-9223372036854775808)<=z.i 8-15/\z.i 8-15<=9223372036854775807) (.an (0<=z.i 8-15/\z.i 8-15<64) (.an v1 (.an (eD (z.i 8-15) (z.g 2)) (.an ((-9223372036854775808)<=z.i 8-2/\z.i 8-2<=9223372036854775807) (.an (0<=z.i 8-2/\z.i 8-2<64) (.an v1 (.an (eD (z.i 8-2) (z.g 2)) (.ct ((0:Int)<=7) (λy0=>True) λy0=>(.ct ((0:Int)<=18) (λy1=>True) λy1=>(.ct ((0:Int)<=17) (λy2=>True) λy2=>(.ct ((0:Int)<=19) (λy3=>True) λy3=>(.an ((-9223372036854775808)<=z.i 8-16/\z.i 8-16<=9223372036854775807) (.an (0<=z.i 8-16/\z.i 8-16<64) (.an v1 (.an (eD (z.i 8-16) (z.g 2)) (.an ((-9223372036854775808)<=z.i 8-7/\z.i 8-7<=9223372036854775807) (.an (0<=z.i 8-7/\z.i 8-7<64) (.an v1 (.an (eD (z.i 8-7) (z.g 2)) (.an (uS (z.i 8)) (.an v1 (.an (tS (z.i 8) (z.g 2)) (.an ((-9223372036854775808)<=z.i 8+1/\z.i 8+1<=9223372036854775807) (.an (0<v0.length/\0<(z.g 1).length/\True) (.at (((z.g 1).length=64/\v0.length=64/\16<=z.i 8+1/\z.i 8+1<=64)/\v2.toNat<(64-z.i 8).toNat/\∀(y:Sy),V8.mk (y.i 30) (y.i 31) (y.i 32) (y.i 33) (y.i 34) (y.i 35) (y.i 36) (y.i 37)=V8.mk (z.i 30) (z.i 31) (z.i 32) (z.i 33) (z.i 34) (z.i 35) (z.i 36) (z.i 37)/\y.g 1=z.g 1/\(y.g 2).length=64/\y.g 2=CD v2.toNat (z.i 8+1) v0->V8.mk (y.i 30) (y.i 31) (y.i 32) (y.i 33) (y.i 34) (y.i 35) (y.i 36) (y.i 37)=V8.mk (z.i 30) (z.i 31) (z.i 32) (z.i 33) (z.i 34) (z.i 35) (z.i 36) (z.i 37)/\y.g 1=z.g 1/\(y.g 2).length=64/\y.g 2=CD (64-z.i 8).toNat (z.i 8) (z.g 2)))))))))))))))))))))))))))) (.an (LO (z.g 2) (z.g 1)) (.at (V8.mk (z.i 30) (z.i 31) (z.i 32) (z.i 33) (z.i 34) (z.i 35) (z.i 36) (z.i 37)=V8.mk (z.i 30) (z.i 31) (z.i 32) (z.i 33) (z.i 34) (z.i 35) (z.i 36) (z.i 37)/\z.g 1=z.g 1/\(z.g 2).length=64/\z.g 2=CD (64-z.i 8).toNat (z.i 8) (z.g 2)))))) by
 dsimp only [EV,v8] at hA;have e2:=@Ad (z.i 8) (z.g 2);have:=@EO (z.i 8) (z.g 2);dsimp only [tQ,wNx,tP,cR] at e2;conv=>zeta
 repeat' with_reducible first|intro _|apply ci|apply cm|apply cj|apply cD|apply cA
 all_goals first|omega|(repeat' first|refine And.intro ?_ ?_|intro _) <;> first|omega|rfl|grind [ao,ak,aj,List.append_assoc,List.length_append,List.length_cons,List.length_nil,List.append_cancel_left_eq,List.cons.injEq]
abbrev QL(a):=if IntKind.u32.signed=true then a else IntKind.u32.max
def LU:bM 63 4 EW:=bL 4 9 (ai LQ eN) lN λp z hA=>show Fm.den (let v1:=(b_);let v0:=((((z.i 47+IntKind.u32.wrap (Int.ofNat ((aE v1 (eL (Int.ofNat ((aE v1 (lm (z.i 44) 6)).xor (aE v1 (lm (z.i 44) 11)))))).xor (aE v1 (lm (z.i 44) 25)))))%4294967296+IntKind.u32.wrap (Int.ofNat ((aE v1 (eL (Int.ofNat ((aE v1 (z.i 44)).land (aE v1 (z.i 45)))))).xor (aE v1 (sj (Int.ofNat ((aE v1 (eL (Int.ofNat ((aE v1 (QL (-1))).xor (aE v1 (z.i 44)))))).land (aE v1 (z.i 46)))))))))%4294967296+gI (aT (aM (z.g 1) (z.i 77))))%4294967296+gI (aT (aM (z.g 2) (z.i 77))));let v2:=(V8.mk (z.i 40) (z.i 41) (z.i 42) (z.i 43) (z.i 44) (z.i 45) (z.i 46) (z.i 47));let v3:=(LO (z.g 2) (z.g 1));let v4:=(uS (z.i 77));let v5:=((64:Int)-(z.i 77+1));(.two (z.i 77<64) (.ct ((0:Int)<=6) (λy0=>True) λy0=>(.ct ((0:Int)<=11) (λy1=>True) λy1=>(.ct ((0:Int)<=25) (λy2=>True) λy2=>(.an v4 (.an (lO (z.g 1)) (.an (eD (z.i 77) (z.g 1)) (.an v4 (.an (lO (z.g 2)) (.an (eD (z.i 77) (z.g 2)) (.ct ((0:Int)<=2) (λy3=>True) λy3=>(.ct ((0:Int)<=13) (λy4=>True) λy4=>(.ct ((0:Int)<=22) (λy5=>True) λy5=>(.an ((-9223372036854775808)<=z.i 77+1/\z.i 77+1<=9223372036854775807) (.an v3 (.at (((z.g 1).length=64/\(z.g 2).length=64/\0<=z.i 77+1/\z.i 77+1<=64)/\v5.toNat<(64-z.i 77).toNat/\∀(y:Sy),V8.mk (y.i 30) (y.i 31) (y.i 32) (y.i 33) (y.i 34) (y.i 35) (y.i 36) (y.i 37)=V8.mk (z.i 30) (z.i 31) (z.i 32) (z.i 33) (z.i 34) (z.i 35) (z.i 36) (z.i 37)/\y.g 1=z.g 1/\V8.mk (y.i 40) (y.i 41) (y.i 42) (y.i 43) (y.i 44) (y.i 45) (y.i 46) (y.i 47)=BG (z.g 1) (z.g 2) v5.toNat (z.i 77+1) (V8.mk ((v0%4294967296+(IntKind.u32.wrap (Int.ofNat ((aE v1 (eL (Int.ofNat ((aE v1 (lm (z.i 40) 2)).xor (aE v1 (lm (z.i 40) 13)))))).xor (aE v1 (lm (z.i 40) 22))))+IntKind.u32.wrap (Int.ofNat ((aE v1 (sj (Int.ofNat ((aE v1 (eL (Int.ofNat ((aE v1 (z.i 40)).land (aE v1 (z.i 41)))))).xor (aE v1 (eL (Int.ofNat ((aE v1 (z.i 40)).land (aE v1 (z.i 42)))))))))).xor (aE v1 (eL (Int.ofNat ((aE v1 (z.i 41)).land (aE v1 (z.i 42)))))))))%4294967296)%4294967296) (z.i 40) (z.i 41) (z.i 42) ((z.i 43+v0%4294967296)%4294967296) (z.i 44) (z.i 45) (z.i 46))->V8.mk (y.i 30) (y.i 31) (y.i 32) (y.i 33) (y.i 34) (y.i 35) (y.i 36) (y.i 37)=V8.mk (z.i 30) (z.i 31) (z.i 32) (z.i 33) (z.i 34) (z.i 35) (z.i 36) (z.i 37)/\y.g 1=z.g 1/\V8.mk (y.i 40) (y.i 41) (y.i 42) (y.i 43) (y.i 44) (y.i 45) (y.i 46) (y.i 47)=BG (z.g 1) (z.g 2) (64-z.i 77).toNat (z.i 77) v2)))))))))))))))) (.an v3 (.at (V8.mk (z.i 30) (z.i 31) (z.i 32) (z.i 33) (z.i 34) (z.i 35) (z.i 36) (z.i 37)=V8.mk (z.i 30) (z.i 31) (z.i 32) (z.i 33) (z.i 34) (z.i 35) (z.i 36) (z.i 37)/\z.g 1=z.g 1/\V8.mk (z.i 40) (z.i 41) (z.i 42) (z.i 43) (z.i 44) (z.i 45) (z.i 46) (z.i 47)=BG (z.g 1) (z.g 2) (64-z.i 77).toNat (z.i 77) v2))))) by
 dsimp only [EW,v8,EQ] at hA;have e2:=@Ae (z.g 1) (z.g 2) (z.i 77) (EQ z);have e3:=@EP (z.g 1) (z.g 2) (z.i 77) (EQ z);dsimp only [EQ,eJ,rt,ru,tP,cR,iP,Ab] at e2 e3;conv=>zeta
 repeat' with_reducible first|intro _|apply ci|apply cm|apply cj|apply cD|apply cA
 all_goals first|omega|(repeat' first|refine And.intro ?_ ?_|intro _) <;> first|omega|rfl|grind [ao,ak,aj,List.append_assoc,List.length_append,List.length_cons,List.length_nil,List.append_cancel_left_eq,List.cons.injEq]
abbrev Y5(a:Prop)(b:List Nat)(c:List G)(d e f g h i j k l:Int)(m:G):=Fm.cl (a) (64<=b.length/\c.length=64/\64=64/\(0:Int)<=0/\(0:Int)<=16) (λy=>V8.mk (y.i 30) (y.i 31) (y.i 32) (y.i 33) (y.i 34) (y.i 35) (y.i 36) (y.i 37)=V8.mk d e f g h i j k/\y.g 1=c/\(y.g 2).length=64/\y.g 2=wU b l.toNat 0 [m,m,m,m,m,m,m,m,m,m,m,m,m,m,m,m,m,m,m,m,m,m,m,m,m,m,m,m,m,m,m,m,m,m,m,m,m,m,m,m,m,m,m,m,m,m,m,m,m,m,m,m,m,m,m,m,m,m,m,m,m,m,m,m])
abbrev TX(a:Prop)(b c:List G)(d e f g h i j k l:Int):=Fm.cl (a) (b.length=64/\c.length=64/\(16:Int)<=16/\(16:Int)<=64) (λy=>V8.mk (y.i 30) (y.i 31) (y.i 32) (y.i 33) (y.i 34) (y.i 35) (y.i 36) (y.i 37)=V8.mk d e f g h i j k/\y.g 1=b/\(y.g 2).length=64/\y.g 2=CD l.toNat 16 c)
abbrev so(a:List G):=0<a.length/\True
def LV:bq 63 TV:=bC 1 0 eN (aG (ptm:=[]) LP (aG (ptm:=[]) LT (aG (ptm:=[]) LU lN))) λz hA=>show Fm.den (let vxg:=G.node [G.int 0];(.an (64=64/bn (cP 9)) (Y5 (0<64/\0<(z.g 2).length/\True) (z.s 1) (z.g 2) (z.i 30) (z.i 31) (z.i 32) (z.i 33) (z.i 34) (z.i 35) (z.i 36) (z.i 37) ((16:Int)-0) vxg λy0=>(TX (LO (y0.g 2) (y0.g 1)) (y0.g 1) (y0.g 2) (y0.i 30) (y0.i 31) (y0.i 32) (y0.i 33) (y0.i 34) (y0.i 35) (y0.i 36) (y0.i 37) ((64:Int)-16) λy1=>(.cl ((LO (y1.g 2) (y1.g 1))) ((y1.g 1).length=64/\(y1.g 2).length=64/\(0:Int)<=0/\(0:Int)<=64) (λy2=>V8.mk (y2.i 30) (y2.i 31) (y2.i 32) (y2.i 33) (y2.i 34) (y2.i 35) (y2.i 36) (y2.i 37)=V8.mk (y1.i 30) (y1.i 31) (y1.i 32) (y1.i 33) (y1.i 34) (y1.i 35) (y1.i 36) (y1.i 37)/\y2.g 1=y1.g 1/\V8.mk (y2.i 40) (y2.i 41) (y2.i 42) (y2.i 43) (y2.i 44) (y2.i 45) (y2.i 46) (y2.i 47)=BG (y1.g 1) (y1.g 2) ((64:Int)-0).toNat 0 (V8.mk (y1.i 30) (y1.i 31) (y1.i 32) (y1.i 33) (y1.i 34) (y1.i 35) (y1.i 36) (y1.i 37))) λy2=>(.an (so (y2.g 1)) (.at (y2.g 1=z.g 2/\V8.mk ((y2.i 30+y2.i 40)%(4294967296:Int)) ((y2.i 31+y2.i 41)%4294967296) ((y2.i 32+y2.i 42)%4294967296) ((y2.i 33+y2.i 43)%4294967296) ((y2.i 34+y2.i 44)%4294967296) ((y2.i 35+y2.i 45)%4294967296) ((y2.i 36+y2.i 46)%4294967296) ((y2.i 37+y2.i 47)%4294967296)=oQ (z.g 2) (z.s 1) (V8.mk (z.i 30) (z.i 31) (z.i 32) (z.i 33) (z.i 34) (z.i 35) (z.i 36) (z.i 37)))))))))) by
 dsimp only [TV,v8] at hA;conv=>zeta
 repeat' with_reducible first|intro _|apply ci|apply cm|apply cj|apply cD|apply cA
 all_goals first|omega|rfl|(exact sg (by assumption) (by assumption) (by assumption))|grind [ao,ak,aj,List.append_assoc,List.length_append,List.length_cons,List.length_nil,List.append_cancel_left_eq,List.cons.injEq]
abbrev QM(a:Prop)(b:List Nat)(c:List G)(d):=Fm.cl (a) (64<=b.length/\c.length=64) (λy=>y.g 2=c/\V8.mk (y.i 30) (y.i 31) (y.i 32) (y.i 33) (y.i 34) (y.i 35) (y.i 36) (y.i 37)=oQ c b d)
abbrev TY(a:Prop)(b:List G):=a/\a/\a/\a/\a/\a/\a/\a/\a/\a/\a/\a/\a/\a/\a/\a/\a/\a/\a/\a/\a/\a/\a/\a/\a/\a/\a/\a/\a/\a/\a/\a/\0<b.length/\True
def QN:bM 25 0 LM:=bL 3 1 (ai LV eN) lN λp z hA=>show Fm.den (let vx:=(0:Int)=0;let v0:=(V8.mk (z.i 30) (z.i 31) (z.i 32) (z.i 33) (z.i 34) (z.i 35) (z.i 36) (z.i 37));let v2:=(↑(z.s 5).length:Int);let v1:=(List.drop (Int.toNat 64) (List.take v2.toNat (z.s 5)));(.two (64<=v2) (QM (so (z.g 2)) (z.s 5) (z.g 2) v0 λy0=>(.an ((0:Int)<=64/\64<=v2/\v2<=v2) (.an (TY vx (y0.g 2)) (.at (y0.g 2=KG/\v1.length<(z.s 5).length/\∀(y:Sy),y.s 6=z.s 6/\y.g 2=KG/\V8.mk (y.i 30) (y.i 31) (y.i 32) (y.i 33) (y.i 34) (y.i 35) (y.i 36) (y.i 37)=gm KG v1 (V8.mk (y0.i 30) (y0.i 31) (y0.i 32) (y0.i 33) (y0.i 34) (y0.i 35) (y0.i 36) (y0.i 37))/\y.s 5=bZ v1/\(y.s 5).length<64->y.s 6=z.s 6/\y.g 2=KG/\V8.mk (y.i 30) (y.i 31) (y.i 32) (y.i 33) (y.i 34) (y.i 35) (y.i 36) (y.i 37)=gm KG (z.s 5) v0/\y.s 5=bZ (z.s 5)/\(y.s 5).length<64))))) (.an (TY vx (z.g 2)) (.at (z.s 6=z.s 6/\z.g 2=KG/\V8.mk (z.i 30) (z.i 31) (z.i 32) (z.i 33) (z.i 34) (z.i 35) (z.i 36) (z.i 37)=gm KG (z.s 5) v0/\z.s 5=bZ (z.s 5)/\(z.s 5).length<64))))) by
 dsimp only [LM,v8] at hA;have e1:=@eW KG (z.s 5) (v8 z);have e2:=@iQ KG (z.s 5) (v8 z);have:=@oR (z.s 5);have:=@sh (z.s 5);have e5:KG.length=64:=rfl;dsimp only [v8] at e1 e2;conv=>zeta
 repeat' with_reducible first|intro _|apply ci|apply cm|apply cj|apply cD|apply cA
 all_goals first|omega|rfl|grind [ao,ak,aj,List.append_assoc,List.length_append,List.length_cons,List.length_nil,List.append_cancel_left_eq,List.cons.injEq]
abbrev EZ:=bj IntKind.u64
def QO:bM 25 2 LN:=bL 7 681 eN lN λp z hA=>show Fm.den (let vx:=(0:Int)=0;let v0:=((z.s 7).set (z.i 8-1-z.i 20).toNat (z.i 9/(↑(2 ^ Min.min (8 * z.i 20).toNat (EZ)):Int)%256).toNat);(.two (z.i 20<8) (.an ((-9223372036854775808)<=z.i 8-1/\z.i 8-1<=9223372036854775807) (.an ((-9223372036854775808)<=z.i 8-1-z.i 20/\z.i 8-1-z.i 20<=9223372036854775807) (.an ((-9223372036854775808)<=8 * z.i 20/\8 * z.i 20<=9223372036854775807) (.an (0<=8 * z.i 20) (.an (0<=z.i 8-1-z.i 20/\z.i 8-1-z.i 20<128) (.an (0<(z.s 7).length) (.an ((z.i 8-1-z.i 20).toNat<(z.s 7).length/\0<=z.i 9/(↑(2 ^ Min.min (8 * z.i 20).toNat (EZ)):Int)%256) (.an ((-9223372036854775808)<=z.i 20+1/\z.i 20+1<=9223372036854775807) (.an (0<v0.length/\vx/\vx/\vx/\vx/\vx/\vx/\vx/\vx/\vx/\vx/\vx/\vx/\vx/\vx/\vx/\vx/\vx/\vx/\vx/\vx/\vx/\vx/\vx/\vx/\vx/\vx/\vx/\vx/\vx/\vx/\vx/\vx/\0<(z.g 2).length/\True) (.at ((z.g 2=KG/\v0.length=128/\(z.i 8=64∨z.i 8=128)/\0<=z.i 20+1/\z.i 20+1<=8)/\((8:Int)-(z.i 20+1)).toNat<(8-z.i 20).toNat/\∀(y:Sy),y.g 2=KG/\V8.mk (y.i 30) (y.i 31) (y.i 32) (y.i 33) (y.i 34) (y.i 35) (y.i 36) (y.i 37)=V8.mk (z.i 30) (z.i 31) (z.i 32) (z.i 33) (z.i 34) (z.i 35) (z.i 36) (z.i 37)/\y.i 8=z.i 8/\(y.s 7).length=128/\y.s 7=si (z.i 8) (z.i 9) (z.i 20+1) v0->y.g 2=KG/\V8.mk (y.i 30) (y.i 31) (y.i 32) (y.i 33) (y.i 34) (y.i 35) (y.i 36) (y.i 37)=V8.mk (z.i 30) (z.i 31) (z.i 32) (z.i 33) (z.i 34) (z.i 35) (z.i 36) (z.i 37)/\y.i 8=z.i 8/\(y.s 7).length=128/\y.s 7=si (z.i 8) (z.i 9) (z.i 20) (z.s 7)))))))))))) (.an (0<(z.s 7).length/\vx/\vx/\vx/\vx/\vx/\vx/\vx/\vx/\vx/\vx/\vx/\vx/\vx/\vx/\vx/\vx/\vx/\vx/\vx/\vx/\vx/\vx/\vx/\vx/\vx/\vx/\vx/\vx/\vx/\vx/\vx/\vx/\0<(z.g 2).length/\True) (.at (z.g 2=KG/\V8.mk (z.i 30) (z.i 31) (z.i 32) (z.i 33) (z.i 34) (z.i 35) (z.i 36) (z.i 37)=V8.mk (z.i 30) (z.i 31) (z.i 32) (z.i 33) (z.i 34) (z.i 35) (z.i 36) (z.i 37)/\z.i 8=z.i 8/\(z.s 7).length=128/\z.s 7=si (z.i 8) (z.i 9) (z.i 20) (z.s 7)))))) by
 dsimp only [LN,v8] at hA;have:=@Iu (z.i 8) (z.i 9) (z.i 20) (z.s 7);have:=@LG (z.i 8) (z.i 9) (z.i 20) (z.s 7);have e5:KG.length=64:=rfl;conv=>zeta
 repeat' with_reducible first|intro _|apply ci|apply cm|apply cj|apply cD|apply cA
 all_goals first|omega|rfl|grind [ao,ak,aj,List.append_assoc,List.length_append,List.length_cons,List.length_nil,List.append_cancel_left_eq,List.cons.injEq]
abbrev TZ:=V8.mk 1779033703 3144134277 1013904242 2773480762 1359893119 2600822924 528734635 1541459225
def pJ:bq 25 VP:=bC 8 14569 (ai LV eN) (aG (ptm:=[]) QN (aG (ptm:=[]) QO lN)) λz hA=>show Fm.den (let vx:=(0:Int)=0;let zw:=(0:Int)<=0;let vxn:=Int.toNat 0;let v0:=(eB (z.s 1));let v1:=(Int.toNat 128);let v2:=(zw/\(0:Int)<=128/\(128:Int)<=128);let v3:=(kF);(.an (64=64/bn (cP 9)) (.cl ((vx/\vx/\vx/\vx/\vx/\vx/\vx/\vx/\vx/\vx/\vx/\vx/\vx/\vx/\vx/\vx/\vx/\vx/\vx/\vx/\vx/\vx/\vx/\vx/\vx/\vx/\vx/\vx/\vx/\vx/\vx/\vx/\0<64/\True)) ([G.node [G.int 1116352408],G.node [G.int 1899447441],G.node [G.int 3049323471],G.node [G.int 3921009573],G.node [G.int 961987163],G.node [G.int 1508970993],G.node [G.int 2453635748],G.node [G.int 2870763221],G.node [G.int 3624381080],G.node [G.int 310598401],G.node [G.int 607225278],G.node [G.int 1426881987],G.node [G.int 1925078388],G.node [G.int 2162078206],G.node [G.int 2614888103],G.node [G.int 3248222580],G.node [G.int 3835390401],G.node [G.int 4022224774],G.node [G.int 264347078],G.node [G.int 604807628],G.node [G.int 770255983],G.node [G.int 1249150122],G.node [G.int 1555081692],G.node [G.int 1996064986],G.node [G.int 2554220882],G.node [G.int 2821834349],G.node [G.int 2952996808],G.node [G.int 3210313671],G.node [G.int 3336571891],G.node [G.int 3584528711],G.node [G.int 113926993],G.node [G.int 338241895],G.node [G.int 666307205],G.node [G.int 773529912],G.node [G.int 1294757372],G.node [G.int 1396182291],G.node [G.int 1695183700],G.node [G.int 1986661051],G.node [G.int 2177026350],G.node [G.int 2456956037],G.node [G.int 2730485921],G.node [G.int 2820302411],G.node [G.int 3259730800],G.node [G.int 3345764771],G.node [G.int 3516065817],G.node [G.int 3600352804],G.node [G.int 4094571909],G.node [G.int 275423344],G.node [G.int 430227734],G.node [G.int 506948616],G.node [G.int 659060556],G.node [G.int 883997877],G.node [G.int 958139571],G.node [G.int 1322822218],G.node [G.int 1537002063],G.node [G.int 1747873779],G.node [G.int 1955562222],G.node [G.int 2024104815],G.node [G.int 2227730452],G.node [G.int 2361852424],G.node [G.int 2428436474],G.node [G.int 2756734187],G.node [G.int 3204031479],G.node [G.int 3329325298]]=KG) (λy0=>y0.s 6=z.s 1/\y0.g 2=KG/\V8.mk (y0.i 30) (y0.i 31) (y0.i 32) (y0.i 33) (y0.i 34) (y0.i 35) (y0.i 36) (y0.i 37)=gm KG (z.s 1) (TZ)/\y0.s 5=bZ (z.s 1)/\(y0.s 5).length<64) λy0=>(let v4:=(List.take 128 (y0.s 5)++List.drop (y0.s 5).length [vxn,vxn,vxn,vxn,vxn,vxn,vxn,vxn,vxn,vxn,vxn,vxn,vxn,vxn,vxn,vxn,vxn,vxn,vxn,vxn,vxn,vxn,vxn,vxn,vxn,vxn,vxn,vxn,vxn,vxn,vxn,vxn,vxn,vxn,vxn,vxn,vxn,vxn,vxn,vxn,vxn,vxn,vxn,vxn,vxn,vxn,vxn,vxn,vxn,vxn,vxn,vxn,vxn,vxn,vxn,vxn,vxn,vxn,vxn,vxn,vxn,vxn,vxn,vxn,vxn,vxn,vxn,vxn,vxn,vxn,vxn,vxn,vxn,vxn,vxn,vxn,vxn,vxn,vxn,vxn,vxn,vxn,vxn,vxn,vxn,vxn,vxn,vxn,vxn,vxn,vxn,vxn,vxn,vxn,vxn,vxn,vxn,vxn,vxn,vxn,vxn,vxn,vxn,vxn,vxn,vxn,vxn,vxn,vxn,vxn,vxn,vxn,vxn,vxn,vxn,vxn,vxn,vxn,vxn,vxn,vxn,vxn,vxn,vxn,vxn,vxn,vxn,vxn]);let v5:=(↑(Min.min (y0.s 5).length 128):Int);let v7:=((↑(y0.s 6).length:Int)%18446744073709551616 * 8%18446744073709551616);let v8:=(v4.set v5.toNat v1);let v6:=((0<v8.length/\vx/\vx/\vx/\vx/\vx/\vx/\vx/\vx/\vx/\vx/\vx/\vx/\vx/\vx/\vx/\vx/\vx/\vx/\vx/\vx/\vx/\vx/\vx/\vx/\vx/\vx/\vx/\vx/\vx/\vx/\vx/\vx/\0<(y0.g 2).length/\True));(.an (zw/\zw/\zw/\zw/\zw/\zw/\zw/\zw/\zw/\zw/\zw/\zw/\zw/\zw/\zw/\zw/\zw/\zw/\zw/\zw/\zw/\zw/\zw/\zw/\zw/\zw/\zw/\zw/\zw/\zw/\zw/\zw/\zw/\zw/\zw/\zw/\zw/\zw/\zw/\zw/\zw/\zw/\zw/\zw/\zw/\zw/\zw/\zw/\zw/\zw/\zw/\zw/\zw/\zw/\zw/\zw/\zw/\zw/\zw/\zw/\zw/\zw/\zw/\zw/\zw/\zw/\zw/\zw/\zw/\zw/\zw/\zw/\zw/\zw/\zw/\zw/\zw/\zw/\zw/\zw/\zw/\zw/\zw/\zw/\zw/\zw/\zw/\zw/\zw/\zw/\zw/\zw/\zw/\zw/\zw/\zw/\zw/\zw/\zw/\zw/\zw/\zw/\zw/\zw/\zw/\zw/\zw/\zw/\zw/\zw/\zw/\zw/\zw/\zw/\zw/\zw/\zw/\zw/\zw/\zw/\zw/\zw/\zw/\zw/\zw/\zw/\zw/\zw/\True) (.an (128=128) (.an (128=128) (.an (0<=v5/\v5<128) (.an (0<(List.take 128 (y0.s 5)++List.drop (y0.s 5).length [Int.toNat 0,vxn,vxn,vxn,vxn,vxn,vxn,vxn,vxn,vxn,vxn,vxn,vxn,vxn,vxn,vxn,vxn,vxn,vxn,vxn,vxn,vxn,vxn,vxn,vxn,vxn,vxn,vxn,vxn,vxn,vxn,vxn,vxn,vxn,vxn,vxn,vxn,vxn,vxn,vxn,vxn,vxn,vxn,vxn,vxn,vxn,vxn,vxn,vxn,vxn,vxn,vxn,vxn,vxn,vxn,vxn,vxn,vxn,vxn,vxn,vxn,vxn,vxn,vxn,vxn,vxn,vxn,vxn,vxn,vxn,vxn,vxn,vxn,vxn,vxn,vxn,vxn,vxn,vxn,vxn,vxn,vxn,vxn,vxn,vxn,vxn,vxn,vxn,vxn,vxn,vxn,vxn,vxn,vxn,vxn,vxn,vxn,vxn,vxn,vxn,vxn,vxn,vxn,vxn,vxn,vxn,vxn,vxn,vxn,vxn,vxn,vxn,vxn,vxn,vxn,vxn,vxn,vxn,vxn,vxn,vxn,vxn,vxn,vxn,vxn,vxn,vxn,vxn]).length) (.an (v5.toNat<v4.length/\(0:Int)<=128) (.two (56<=v5) (.cl v6 (y0.g 2=KG/\v8.length=128/\((128:Int)=64∨(128:Int)=128)/\zw/\(0:Int)<=8) (λy1=>y1.g 2=KG/\V8.mk (y1.i 30) (y1.i 31) (y1.i 32) (y1.i 33) (y1.i 34) (y1.i 35) (y1.i 36) (y1.i 37)=V8.mk (y0.i 30) (y0.i 31) (y0.i 32) (y0.i 33) (y0.i 34) (y0.i 35) (y0.i 36) (y0.i 37)/\y1.i 8=128/\(y1.s 7).length=128/\y1.s 7=si 128 v7 0 v8) λy1=>(let v9:=(List.take v1 (y1.s 7));let v10:=(List.drop (Int.toNat 64) v9);(.an (0<y1.i 8) (.an ((y1.s 7).length=128) (.an v2 (QM (so (y1.g 2)) (List.drop v3 v9) (y1.g 2) (V8.mk (y1.i 30) (y1.i 31) (y1.i 32) (y1.i 33) (y1.i 34) (y1.i 35) (y1.i 36) (y1.i 37)) λy2=>(.an (64<y1.i 8) (.an ((y1.s 7).length=128) (.an ((0:Int)<=64/\(64:Int)<=128/\(128:Int)<=128) (QM (so (y2.g 2)) v10 (y2.g 2) (V8.mk (y2.i 30) (y2.i 31) (y2.i 32) (y2.i 33) (y2.i 34) (y2.i 35) (y2.i 36) (y2.i 37)) λy3=>(.an (¬(128<y1.i 8)) (.an (y3.i 37%256=hb v0 (nat_lit 31)/\y3.i 37/256%256=hb v0 (nat_lit 30)/\y3.i 37/65536%256=hb v0 (nat_lit 29)/\y3.i 37/16777216%256=hb v0 (nat_lit 28)/\y3.i 36%256=hb v0 (nat_lit 27)/\y3.i 36/256%256=hb v0 (nat_lit 26)/\y3.i 36/65536%256=hb v0 (nat_lit 25)/\y3.i 36/16777216%256=hb v0 (nat_lit 24)/\y3.i 35%256=hb v0 (nat_lit 23)/\y3.i 35/256%256=hb v0 (nat_lit 22)/\y3.i 35/65536%256=hb v0 (nat_lit 21)/\y3.i 35/16777216%256=hb v0 (nat_lit 20)/\y3.i 34%256=hb v0 (nat_lit 19)/\y3.i 34/256%256=hb v0 (nat_lit 18)/\y3.i 34/65536%256=hb v0 (nat_lit 17)/\y3.i 34/16777216%256=hb v0 (nat_lit 16)/\y3.i 33%256=hb v0 (nat_lit 15)/\y3.i 33/256%256=hb v0 (nat_lit 14)/\y3.i 33/65536%256=hb v0 (nat_lit 13)/\y3.i 33/16777216%256=hb v0 (nat_lit 12)/\y3.i 32%256=hb v0 (nat_lit 11)/\y3.i 32/256%256=hb v0 (nat_lit 10)/\y3.i 32/65536%256=hb v0 (nat_lit 9)/\y3.i 32/16777216%256=hb v0 (nat_lit 8)/\y3.i 31%256=hb v0 (nat_lit 7)/\y3.i 31/256%256=hb v0 (nat_lit 6)/\y3.i 31/65536%256=hb v0 (nat_lit 5)/\y3.i 31/16777216%256=hb v0 (nat_lit 4)/\y3.i 30%256=hb v0 (nat_lit 3)/\y3.i 30/256%256=hb v0 (nat_lit 2)/\y3.i 30/65536%256=hb v0 (nat_lit 1)/\y3.i 30/16777216%256=hb v0 (nat_lit 0)/\True) (.at (True)))))))))))))) (.cl v6 (y0.g 2=KG/\v8.length=128/\((64:Int)=64∨(64:Int)=128)/\zw/\(0:Int)<=8) (λy4=>y4.g 2=KG/\V8.mk (y4.i 30) (y4.i 31) (y4.i 32) (y4.i 33) (y4.i 34) (y4.i 35) (y4.i 36) (y4.i 37)=V8.mk (y0.i 30) (y0.i 31) (y0.i 32) (y0.i 33) (y0.i 34) (y0.i 35) (y0.i 36) (y0.i 37)/\y4.i 8=64/\(y4.s 7).length=128/\y4.s 7=si 64 v7 0 v8) λy4=>(let v11:=(List.drop v3 (List.take v1 (y4.s 7)));(.an (0<y4.i 8) (.an ((y4.s 7).length=128) (.an v2 (QM (so (y4.g 2)) v11 (y4.g 2) (V8.mk (y4.i 30) (y4.i 31) (y4.i 32) (y4.i 33) (y4.i 34) (y4.i 35) (y4.i 36) (y4.i 37)) λy5=>(.an (¬(64<y4.i 8)) (.an (y5.i 37%256=hb v0 (nat_lit 31)/\y5.i 37/256%256=hb v0 (nat_lit 30)/\y5.i 37/65536%256=hb v0 (nat_lit 29)/\y5.i 37/16777216%256=hb v0 (nat_lit 28)/\y5.i 36%256=hb v0 (nat_lit 27)/\y5.i 36/256%256=hb v0 (nat_lit 26)/\y5.i 36/65536%256=hb v0 (nat_lit 25)/\y5.i 36/16777216%256=hb v0 (nat_lit 24)/\y5.i 35%256=hb v0 (nat_lit 23)/\y5.i 35/256%256=hb v0 (nat_lit 22)/\y5.i 35/65536%256=hb v0 (nat_lit 21)/\y5.i 35/16777216%256=hb v0 (nat_lit 20)/\y5.i 34%256=hb v0 (nat_lit 19)/\y5.i 34/256%256=hb v0 (nat_lit 18)/\y5.i 34/65536%256=hb v0 (nat_lit 17)/\y5.i 34/16777216%256=hb v0 (nat_lit 16)/\y5.i 33%256=hb v0 (nat_lit 15)/\y5.i 33/256%256=hb v0 (nat_lit 14)/\y5.i 33/65536%256=hb v0 (nat_lit 13)/\y5.i 33/16777216%256=hb v0 (nat_lit 12)/\y5.i 32%256=hb v0 (nat_lit 11)/\y5.i 32/256%256=hb v0 (nat_lit 10)/\y5.i 32/65536%256=hb v0 (nat_lit 9)/\y5.i 32/16777216%256=hb v0 (nat_lit 8)/\y5.i 31%256=hb v0 (nat_lit 7)/\y5.i 31/256%256=hb v0 (nat_lit 6)/\y5.i 31/65536%256=hb v0 (nat_lit 5)/\y5.i 31/16777216%256=hb v0 (nat_lit 4)/\y5.i 30%256=hb v0 (nat_lit 3)/\y5.i 30/256%256=hb v0 (nat_lit 2)/\y5.i 30/65536%256=hb v0 (nat_lit 1)/\y5.i 30/16777216%256=hb v0 (nat_lit 0)/\True) (.at (True))))))))))))))))))))) by
 dsimp only [VP] at hA;have e5:KG.length=64:=rfl;conv=>zeta
 repeat' with_reducible first|intro _|apply ci|apply cm|apply cj|apply cD|apply cA
 all_goals first|omega|rfl|((repeat' first|exact rfl|exact trivial|exact Int.le_refl _|exact(by decide)|refine And.intro ?_ ?_);done)|(rw[←LI (by assumption) (by assumption) (by assumption) (by assumption) (by assumption)];(repeat' first|exact rfl|exact trivial|refine And.intro ?_ ?_);done)|(rw[←LJ (by assumption) (by assumption) (by assumption) (by assumption)];(repeat' first|exact rfl|exact trivial|refine And.intro ?_ ?_);done)|((obtain⟨e7,e8,e9⟩:=VN (by assumption);unfold ZB at e7;(repeat' first|exact trivial|refine And.intro ?_ ?_) <;> first|exact VO (by assumption)|(simp only [List.length_set,e7,e8] <;> omega)|omega);done)|grind [ao,ak,aj,List.append_assoc,List.length_append,List.length_cons,List.length_nil,List.append_cancel_left_eq,List.cons.injEq]
noncomputable section
def z8:List Sh:=List.replicate 8 (.pi .u32 0)
def QP:List BSh:=[.cells 144 PN,.arr 9 146 1,.arr 9 146 2,.cells 144 z8]
def bkT:List (Nat×Sa):=[(2,.c (.p 1)),(3,.c (.p 0)),(6,.c (.p 3)),(7,.c (.p 2))]
def LW(p:Sy):LSpec:=⟨[(2,.c (.p 1)),(3,.c (.p 0)),(6,.c (.p 3)),(7,.c (.p 2)),(1,.c (.vb 3)),(8,.c (.i .i64 20))],QP,λz=>64<=(z.s 3).length/\(z.g 1).length=64/\(z.g 2).length=64/\0<=z.i 20/\z.i 20<=16,λz=>(16-z.i 20).toNat,[⟨.exit 0,bkT,QP⟩],λz y=>v8 y=v8 z/\y.g 1=z.g 1/\(y.g 2).length=64/\y.g 2=wU (z.s 3) (16-z.i 20).toNat (z.i 20) (z.g 2),none,[]⟩
def LX(p:Sy):LSpec:=⟨[(2,.c (.p 1)),(3,.c (.p 0)),(6,.c (.p 3)),(7,.c (.p 2)),(9,.c (.i .i64 8))],QP,λz=>(z.g 1).length=64/\(z.g 2).length=64/\16<=z.i 8/\z.i 8<=64,λz=>(64-z.i 8).toNat,[⟨.exit 2,bkT,QP⟩],λz y=>v8 y=v8 z/\y.g 1=z.g 1/\(y.g 2).length=64/\y.g 2=CD (64-z.i 8).toNat (z.i 8) (z.g 2),none,[]⟩
def T0:List BSh:=[.cells 144 PN,.arr 9 146 1,.arr 9 146 2,.cells 144 z8,.cells 144 Y3]
def bkT2:List (Nat×Sa):=[(2,.c (.p 1)),(3,.c (.p 0)),(6,.c (.p 3)),(7,.c (.p 2)),(12,.c (.p 4))]
def LY(p:Sy):LSpec:=⟨[(2,.c (.p 1)),(3,.c (.p 0)),(6,.c (.p 3)),(7,.c (.p 2)),(12,.c (.p 4)),(13,.c (.i .i64 77))],T0,λz=>(z.g 1).length=64/\(z.g 2).length=64/\0<=z.i 77/\z.i 77<=64,λz=>(64-z.i 77).toNat,[⟨.exit 4,bkT2,T0⟩],λz y=>v8 y=v8 z/\y.g 1=z.g 1/\EQ y=BG (z.g 1) (z.g 2) (64-z.i 77).toNat (z.i 77) (EQ z),none,[]⟩
def Y6:FSpec:=⟨[.ag PN,.c (.vb 1),.c (.p 0)],[.arr 9 146 2],λz=>64<=(z.s 1).length/\(z.g 2).length=64,λz=>.one (.ag (sp8 (oQ (z.g 2) (z.s 1) (v8 z)))),λz=>[.arr 9 146 2],λz y=>y.g 2=z.g 2,none⟩
end
abbrev LZ(a:Prop)(b c:List G):=a/\a/\a/\a/\a/\a/\a/\a/\0<b.length/\0<c.length/\True
def QQ:bM 133 0 LW:=bL 11 174761 eN lN λp z hA=>show Fm.den (let vx:=(0:Int)=0;let v0:=((z.g 2).set (z.i 20).toNat (sn (IntKind.u32.wrap (Int.ofNat ((aE (b_) (sj (Int.ofNat ((aE (b_) (eL (Int.ofNat ((aE (b_) ((↑((z.s 3).getD (4 * z.i 20).toNat 0):Int)%4294967296 * 16777216%4294967296)).lor (aE (b_) ((↑((z.s 3).getD (4 * z.i 20+1).toNat 0):Int)%4294967296 * 65536%4294967296)))))).lor (aE (b_) ((↑((z.s 3).getD (4 * z.i 20+2).toNat 0):Int)%4294967296 * 256%4294967296)))))).lor (aE (b_) ((↑((z.s 3).getD (4 * z.i 20+3).toNat 0):Int)%4294967296)))))));let v1:=((-9223372036854775808)<=4 * z.i 20/\4 * z.i 20<=9223372036854775807);let v2:=(↑(z.s 3).length:Int);(.two (z.i 20<16) (.an v1 (.an (0<=4 * z.i 20/\4 * z.i 20<v2) (.an v1 (.an ((-9223372036854775808)<=4 * z.i 20+1/\4 * z.i 20+1<=9223372036854775807) (.an (0<=4 * z.i 20+1/\4 * z.i 20+1<v2) (.an v1 (.an ((-9223372036854775808)<=4 * z.i 20+2/\4 * z.i 20+2<=9223372036854775807) (.an (0<=4 * z.i 20+2/\4 * z.i 20+2<v2) (.an v1 (.an ((-9223372036854775808)<=4 * z.i 20+3/\4 * z.i 20+3<=9223372036854775807) (.an (0<=4 * z.i 20+3/\4 * z.i 20+3<v2) (.an (uS (z.i 20)) (.an (lO (z.g 2)) (.an (tS (z.i 20) (z.g 2)) (.an ((-9223372036854775808)<=z.i 20+1/\z.i 20+1<=9223372036854775807) (.an (vx/\vx/\vx/\vx/\vx/\vx/\vx/\vx/\0<v0.length/\0<(z.g 1).length/\True) (.at ((64<=(z.s 3).length/\(z.g 1).length=64/\v0.length=64/\0<=z.i 20+1/\z.i 20+1<=16)/\((16:Int)-(z.i 20+1)).toNat<(16-z.i 20).toNat/\∀(y:Sy),V8.mk (y.i 30) (y.i 31) (y.i 32) (y.i 33) (y.i 34) (y.i 35) (y.i 36) (y.i 37)=V8.mk (z.i 30) (z.i 31) (z.i 32) (z.i 33) (z.i 34) (z.i 35) (z.i 36) (z.i 37)/\y.g 1=z.g 1/\(y.g 2).length=64/\y.g 2=wU (z.s 3) (16-(z.i 20+1)).toNat (z.i 20+1) v0->V8.mk (y.i 30) (y.i 31) (y.i 32) (y.i 33) (y.i 34) (y.i 35) (y.i 36) (y.i 37)=V8.mk (z.i 30) (z.i 31) (z.i 32) (z.i 33) (z.i 34) (z.i 35) (z.i 36) (z.i 37)/\y.g 1=z.g 1/\(y.g 2).length=64/\y.g 2=wU (z.s 3) (16-z.i 20).toNat (z.i 20) (z.g 2))))))))))))))))))) (.an (LZ vx (z.g 2) (z.g 1)) (.at (V8.mk (z.i 30) (z.i 31) (z.i 32) (z.i 33) (z.i 34) (z.i 35) (z.i 36) (z.i 37)=V8.mk (z.i 30) (z.i 31) (z.i 32) (z.i 33) (z.i 34) (z.i 35) (z.i 36) (z.i 37)/\z.g 1=z.g 1/\(z.g 2).length=64/\z.g 2=wU (z.s 3) (16-z.i 20).toNat (z.i 20) (z.g 2)))))) by
 dsimp only [LW,v8] at hA;have e2:=@Ac (z.s 3) (z.i 20) (z.g 2);have:=@EN (z.s 3) (z.i 20) (z.g 2);dsimp only [tQ,TP,X8,kE,LD] at e2;conv=>zeta
 repeat' with_reducible first|intro _|apply ci|apply cm|apply cj|apply cD|apply cA
 all_goals first|omega|grind [ao,ak,aj,List.append_assoc,List.length_append,List.length_cons,List.length_nil,List.append_cancel_left_eq,List.cons.injEq,tQ]
def QR:bM 133 2 LX:=bL 8 2729 (ai EY eN) lN λp z hA=>show Fm.den (let vx:=(0:Int)=0;let v0:=((z.g 2).set (z.i 8).toNat (sn ((((gI (aT (aM (z.g 2) (z.i 8-16)))+IntKind.u32.wrap (Int.ofNat ((aE (b_) (eL (Int.ofNat ((aE (b_) (lm (gI (aT (aM (z.g 2) (z.i 8-15)))) 7)).xor (aE (b_) (lm (gI (aT (aM (z.g 2) (z.i 8-15)))) 18)))))).xor (aE (b_) (gI (aT (aM (z.g 2) (z.i 8-15)))/8)))))%4294967296+gI (aT (aM (z.g 2) (z.i 8-7))))%4294967296+IntKind.u32.wrap (Int.ofNat ((aE (b_) (eL (Int.ofNat ((aE (b_) (lm (gI (aT (aM (z.g 2) (z.i 8-2)))) 17)).xor (aE (b_) (lm (gI (aT (aM (z.g 2) (z.i 8-2)))) 19)))))).xor (aE (b_) (gI (aT (aM (z.g 2) (z.i 8-2)))/1024)))))%4294967296)));let v1:=(lO (z.g 2));let v2:=((64:Int)-(z.i 8+1));(.two (z.i 8<64) (.an ((-9223372036854775808)<=z.i 8-15/\z.i 8-15<=9223372036854775807) (.an (0<=z.i 8-15/\z.i 8-15<64) (.an v1 (.an (eD (z.i 8-15) (z.g 2)) (.an ((-9223372036854775808)<=z.i 8-2/\z.i 8-2<=9223372036854775807) (.an (0<=z.i 8-2/\z.i 8-2<64) (.an v1 (.an (eD (z.i 8-2) (z.g 2)) (.an ((-9223372036854775808)<=z.i 8-16/\z.i 8-16<=9223372036854775807) (.an (0<=z.i 8-16/\z.i 8-16<64) (.an v1 (.an (eD (z.i 8-16) (z.g 2)) (.ct ((0:Int)<=7) (λy0=>True) λy0=>(.ct ((0:Int)<=18) (λy1=>True) λy1=>(.an ((-9223372036854775808)<=z.i 8-7/\z.i 8-7<=9223372036854775807) (.an (0<=z.i 8-7/\z.i 8-7<64) (.an v1 (.an (eD (z.i 8-7) (z.g 2)) (.ct ((0:Int)<=17) (λy2=>True) λy2=>(.ct ((0:Int)<=19) (λy3=>True) λy3=>(.an (uS (z.i 8)) (.an v1 (.an (tS (z.i 8) (z.g 2)) (.an ((-9223372036854775808)<=z.i 8+1/\z.i 8+1<=9223372036854775807) (.an (vx/\vx/\vx/\vx/\vx/\vx/\vx/\vx/\0<v0.length/\0<(z.g 1).length/\True) (.at (((z.g 1).length=64/\v0.length=64/\16<=z.i 8+1/\z.i 8+1<=64)/\v2.toNat<(64-z.i 8).toNat/\∀(y:Sy),V8.mk (y.i 30) (y.i 31) (y.i 32) (y.i 33) (y.i 34) (y.i 35) (y.i 36) (y.i 37)=V8.mk (z.i 30) (z.i 31) (z.i 32) (z.i 33) (z.i 34) (z.i 35) (z.i 36) (z.i 37)/\y.g 1=z.g 1/\(y.g 2).length=64/\y.g 2=CD v2.toNat (z.i 8+1) v0->V8.mk (y.i 30) (y.i 31) (y.i 32) (y.i 33) (y.i 34) (y.i 35) (y.i 36) (y.i 37)=V8.mk (z.i 30) (z.i 31) (z.i 32) (z.i 33) (z.i 34) (z.i 35) (z.i 36) (z.i 37)/\y.g 1=z.g 1/\(y.g 2).length=64/\y.g 2=CD (64-z.i 8).toNat (z.i 8) (z.g 2)))))))))))))))))))))))))))) (.an (LZ vx (z.g 2) (z.g 1)) (.at (V8.mk (z.i 30) (z.i 31) (z.i 32) (z.i 33) (z.i 34) (z.i 35) (z.i 36) (z.i 37)=V8.mk (z.i 30) (z.i 31) (z.i 32) (z.i 33) (z.i 34) (z.i 35) (z.i 36) (z.i 37)/\z.g 1=z.g 1/\(z.g 2).length=64/\z.g 2=CD (64-z.i 8).toNat (z.i 8) (z.g 2)))))) by dsimp only [LX,v8] at hA;have e2:=@Ad (z.i 8) (z.g 2);have:=@EO (z.i 8) (z.g 2);dsimp only [tQ,wNx,tP,cR] at e2;exact z_
def QS:bM 133 4 LY:=bL 4 9 (ai EY eN) lN λp z hA=>show Fm.den (let vx:=(0:Int)=0;let v1:=(b_);let v0:=((((z.i 47+IntKind.u32.wrap (Int.ofNat ((aE v1 (eL (Int.ofNat ((aE v1 (lm (z.i 44) 6)).xor (aE v1 (lm (z.i 44) 11)))))).xor (aE v1 (lm (z.i 44) 25)))))%4294967296+IntKind.u32.wrap (Int.ofNat ((aE v1 (eL (Int.ofNat ((aE v1 (z.i 44)).land (aE v1 (z.i 45)))))).xor (aE v1 (sj (Int.ofNat ((aE v1 (eL (Int.ofNat ((aE v1 (QL (-1))).xor (aE v1 (z.i 44)))))).land (aE v1 (z.i 46)))))))))%4294967296+gI (aT (aM (z.g 1) (z.i 77))))%4294967296+gI (aT (aM (z.g 2) (z.i 77))));let v2:=(LZ vx (z.g 2) (z.g 1));let v3:=(V8.mk (z.i 40) (z.i 41) (z.i 42) (z.i 43) (z.i 44) (z.i 45) (z.i 46) (z.i 47));let v4:=(uS (z.i 77));let v5:=((64:Int)-(z.i 77+1));(.two (z.i 77<64) (.ct ((0:Int)<=6) (λy0=>True) λy0=>(.ct ((0:Int)<=11) (λy1=>True) λy1=>(.ct ((0:Int)<=25) (λy2=>True) λy2=>(.an v4 (.an (lO (z.g 1)) (.an (eD (z.i 77) (z.g 1)) (.an v4 (.an (lO (z.g 2)) (.an (eD (z.i 77) (z.g 2)) (.ct ((0:Int)<=2) (λy3=>True) λy3=>(.ct ((0:Int)<=13) (λy4=>True) λy4=>(.ct ((0:Int)<=22) (λy5=>True) λy5=>(.an ((-9223372036854775808)<=z.i 77+1/\z.i 77+1<=9223372036854775807) (.an v2 (.at (((z.g 1).length=64/\(z.g 2).length=64/\0<=z.i 77+1/\z.i 77+1<=64)/\v5.toNat<(64-z.i 77).toNat/\∀(y:Sy),V8.mk (y.i 30) (y.i 31) (y.i 32) (y.i 33) (y.i 34) (y.i 35) (y.i 36) (y.i 37)=V8.mk (z.i 30) (z.i 31) (z.i 32) (z.i 33) (z.i 34) (z.i 35) (z.i 36) (z.i 37)/\y.g 1=z.g 1/\V8.mk (y.i 40) (y.i 41) (y.i 42) (y.i 43) (y.i 44) (y.i 45) (y.i 46) (y.i 47)=BG (z.g 1) (z.g 2) v5.toNat (z.i 77+1) (V8.mk ((v0%4294967296+(IntKind.u32.wrap (Int.ofNat ((aE v1 (eL (Int.ofNat ((aE v1 (lm (z.i 40) 2)).xor (aE v1 (lm (z.i 40) 13)))))).xor (aE v1 (lm (z.i 40) 22))))+IntKind.u32.wrap (Int.ofNat ((aE v1 (sj (Int.ofNat ((aE v1 (eL (Int.ofNat ((aE v1 (z.i 40)).land (aE v1 (z.i 41)))))).xor (aE v1 (eL (Int.ofNat ((aE v1 (z.i 40)).land (aE v1 (z.i 42)))))))))).xor (aE v1 (eL (Int.ofNat ((aE v1 (z.i 41)).land (aE v1 (z.i 42)))))))))%4294967296)%4294967296) (z.i 40) (z.i 41) (z.i 42) ((z.i 43+v0%4294967296)%4294967296) (z.i 44) (z.i 45) (z.i 46))->V8.mk (y.i 30) (y.i 31) (y.i 32) (y.i 33) (y.i 34) (y.i 35) (y.i 36) (y.i 37)=V8.mk (z.i 30) (z.i 31) (z.i 32) (z.i 33) (z.i 34) (z.i 35) (z.i 36) (z.i 37)/\y.g 1=z.g 1/\V8.mk (y.i 40) (y.i 41) (y.i 42) (y.i 43) (y.i 44) (y.i 45) (y.i 46) (y.i 47)=BG (z.g 1) (z.g 2) (64-z.i 77).toNat (z.i 77) v3)))))))))))))))) (.an v2 (.at (V8.mk (z.i 30) (z.i 31) (z.i 32) (z.i 33) (z.i 34) (z.i 35) (z.i 36) (z.i 37)=V8.mk (z.i 30) (z.i 31) (z.i 32) (z.i 33) (z.i 34) (z.i 35) (z.i 36) (z.i 37)/\z.g 1=z.g 1/\V8.mk (z.i 40) (z.i 41) (z.i 42) (z.i 43) (z.i 44) (z.i 45) (z.i 46) (z.i 47)=BG (z.g 1) (z.g 2) (64-z.i 77).toNat (z.i 77) v3))))) by dsimp only [LY,v8,EQ] at hA;have e2:=@Ae (z.g 1) (z.g 2) (z.i 77) (EQ z);have e3:=@EP (z.g 1) (z.g 2) (z.i 77) (EQ z);dsimp only [EQ,eJ,rt,ru,tP,cR,iP,Ab] at e2 e3;exact z_
def Y7:bq 133 Y6:=bC 1 0 eN (aG (ptm:=[]) QQ (aG (ptm:=[]) QR (aG (ptm:=[]) QS lN))) λz hA=>show Fm.den (let vx:=(0:Int)=0;let vxg:=G.node [G.int 0];let v0:=(oQ (z.g 2) (z.s 1) (V8.mk (z.i 30) (z.i 31) (z.i 32) (z.i 33) (z.i 34) (z.i 35) (z.i 36) (z.i 37)));(.an (64=64/bn (cP 9)) (Y5 (vx/\vx/\vx/\vx/\vx/\vx/\vx/\vx/\0<64/\0<(z.g 2).length/\True) (z.s 1) (z.g 2) (z.i 30) (z.i 31) (z.i 32) (z.i 33) (z.i 34) (z.i 35) (z.i 36) (z.i 37) ((16:Int)-0) vxg λy0=>(TX (LZ vx (y0.g 2) (y0.g 1)) (y0.g 1) (y0.g 2) (y0.i 30) (y0.i 31) (y0.i 32) (y0.i 33) (y0.i 34) (y0.i 35) (y0.i 36) (y0.i 37) ((64:Int)-16) λy1=>(.cl ((LZ vx (y1.g 2) (y1.g 1))) ((y1.g 1).length=64/\(y1.g 2).length=64/\(0:Int)<=0/\(0:Int)<=64) (λy2=>V8.mk (y2.i 30) (y2.i 31) (y2.i 32) (y2.i 33) (y2.i 34) (y2.i 35) (y2.i 36) (y2.i 37)=V8.mk (y1.i 30) (y1.i 31) (y1.i 32) (y1.i 33) (y1.i 34) (y1.i 35) (y1.i 36) (y1.i 37)/\y2.g 1=y1.g 1/\V8.mk (y2.i 40) (y2.i 41) (y2.i 42) (y2.i 43) (y2.i 44) (y2.i 45) (y2.i 46) (y2.i 47)=BG (y1.g 1) (y1.g 2) ((64:Int)-0).toNat 0 (V8.mk (y1.i 30) (y1.i 31) (y1.i 32) (y1.i 33) (y1.i 34) (y1.i 35) (y1.i 36) (y1.i 37))) λy2=>(.an (0<(y2.g 1).length/\(y2.i 37+y2.i 47)%4294967296=v0.h/\(y2.i 36+y2.i 46)%4294967296=v0.g/\(y2.i 35+y2.i 45)%4294967296=v0.f/\(y2.i 34+y2.i 44)%4294967296=v0.e/\(y2.i 33+y2.i 43)%4294967296=v0.d/\(y2.i 32+y2.i 42)%4294967296=v0.c/\(y2.i 31+y2.i 41)%4294967296=v0.b/\(y2.i 30+y2.i 40)%4294967296=v0.a/\True) (.at (y2.g 1=z.g 2)))))))) by
 dsimp only [Y6,v8] at hA;conv=>zeta
 repeat' with_reducible first|intro _|apply ci|apply cm|apply cj|apply cD|apply cA
 all_goals first|omega|rfl|((repeat' first|exact rfl|exact trivial|exact Int.le_refl _|exact(by decide)|refine And.intro ?_ ?_);done)|(exact(sg (by assumption) (by assumption) (by assumption)).1)|(have k:=sg (by assumption) (by assumption) (by assumption);refine And.intro (by rw[k.1];omega) ?_;rw[←k.2];(repeat' first|exact rfl|exact trivial|refine And.intro ?_ ?_);done)|grind [ao,ak,aj,List.append_assoc,List.length_append,List.length_cons,List.length_nil,List.append_cancel_left_eq,List.cons.injEq]
noncomputable section
def uT(l:List Nat):Nat:=(120-l.length%64)%64
def Y8:Nat->List Nat->List Nat
 |0,l=>l
 |k+1,l=>Y8 k (l++ [0])
def Iv(l:List Nat):List Nat:=Y8 (uT l) l
def L0{l:List Nat}(h:(l.length:Int)%64≠56):Iv l=Iv (l++ [0])/\uT l=uT (l++ [0])+1:=by
 have e:uT l=uT (l++ [0])+1:=by unfold uT;rw[aav];simp only [aaQ];omega
 refine⟨?_,e⟩;unfold Iv;rw[e];rfl
def QT{l:List Nat}(h:(l.length:Int)%64=56):Iv l=l:=by unfold Iv;rw[show uT l=0 by unfold uT;omega];rfl
def VT(l:List Nat):uT l<=63:=by unfold uT;omega
def itE(d:Int):Nat->Int->List Nat->List Nat
 |0,_,l=>l
 |k+1,i,l=>itE d k (i-1) (l++ [((d/((2 ^ min (8 * i%18446744073709551616).toNat (bj .u64):Nat):Int))%256).toNat])
def nA(d i:Int)(l:List Nat):List Nat:=itE d (i+1).toNat i l
def Iw{d i:Int}{l:List Nat}(h:0<=i):nA d i l=nA d (i-1) (l++ [((d/((2 ^ min (8 * i%18446744073709551616).toNat (bj .u64):Nat):Int))%256).toNat]):=by unfold nA;rw[show(i+1).toNat=(i-1+1).toNat+1 by omega];rfl
def L2{d i:Int}{l:List Nat}(h:i<0):nA d i l=l:=by unfold nA;rw[show(i+1).toNat=0 by omega];rfl
def itB(m:List Nat):Nat->Int->V8->V8
 |0,_,v=>v
 |k+1,i,v=>itB m k (i+64) (oQ KG ((m.take (i+64).toNat).drop i.toNat) v)
def nB(m:List Nat)(i:Int)(v:V8):V8:=itB m (((m.length:Int)-i+63)/64).toNat i v
def Ix{m:List Nat}{i:Int}{v:V8}(h:i<m.length):nB m i v=nB m (i+64) (oQ KG ((m.take (i+64).toNat).drop i.toNat) v):=by unfold nB;rw[show(((m.length:Int)-i+63)/64).toNat=(((m.length:Int)-(i+64)+63)/64).toNat+1 by omega];rfl
def L3{m:List Nat}{i:Int}{v:V8}(h:(m.length:Int)<=i):nB m i v=v:=by unfold nB;rw[show(((m.length:Int)-i+63)/64).toNat=0 by omega];rfl
def E0:List BSh:=[.cells 36 z32,.growb 5 7]
def L4(p:Sy):LSpec:=⟨[(0,.c (.vb 6)),(2,.c (.p 0)),(3,.c (.gb 1 7))],E0,λz=>(z.s 7).length+uT (z.s 7)<=900000100,λz=>uT (z.s 7),[⟨.exit 0,[(0,.c (.vb 6)),(2,.c (.p 0)),(3,.c (.gb 1 7))],E0⟩],λz y=>y.s 6=z.s 6/\y.s 7=Iv (z.s 7)/\(y.s 7).length<=900000100/\((y.s 7).length:Int)%64=56,none,[]⟩
def L5(p:Sy):LSpec:=⟨[(2,.c (.p 0)),(3,.c (.gb 1 7)),(4,.c (.i .u64 9)),(5,.c (.i .i64 20))],E0,λz=>0-1<=z.i 20/\z.i 20<=7/\((z.s 7).length:Int)+z.i 20<=900000200,λz=>(z.i 20+1).toNat,[⟨.exit 2,[(2,.c (.p 0)),(3,.c (.gb 1 7))],E0⟩],λz y=>y.s 7=nA (z.i 9) (z.i 20) (z.s 7)/\((y.s 7).length:Int)=(z.s 7).length+z.i 20+1,none,[]⟩
def L6:List BSh:=[.cells 36 z32,.cells 144 PN,.arr 9 146 2]
def VU(p:Sy):LSpec:=⟨[(2,.c (.p 0)),(3,.c (.vb 7)),(6,.c (.p 1)),(7,.c (.p 2)),(8,.c (.i .i64 8))],L6,λz=>z.g 2=KG/\(z.s 7).length<=900000200/\((z.s 7).length:Int)%64=0/\0<=z.i 8/\z.i 8<=(z.s 7).length/\z.i 8%64=0,λz=>((z.s 7).length-z.i 8).toNat,[⟨.exit 4,[(2,.c (.p 0)),(6,.c (.p 1))],L6⟩],λz y=>v8 y=nB (z.s 7) (z.i 8) (v8 z),none,[]⟩
def lP(s:List Nat):V8:=nB (nA ((s.length:Int)%18446744073709551616 * 8%18446744073709551616) 7 (Iv (s++ [128]))) 0 V0
def QU{z y0 y1 y2:Sy}{p q:Prop}(h0:y0.s 6=z.s 1/\y0.s 7=Iv ([]++z.s 1++ [Int.toNat 128])/\p)(h1:y1.s 7=nA (((y0.s 6).length:Int)%18446744073709551616 * 8%18446744073709551616) 7 (y0.s 7)/\q)(h2:v8 y2=nB (y1.s 7) 0 V0):v8 y2=lP (z.s 1):=by rw[h2,h1.1,h0.2.1,h0.1];rfl
def Y9:FSpec:=⟨[.c (.vb 1)],[],λz=>(z.s 1).length<=1000000,λz=>.one (.ag (h32 (lP (z.s 1)))),λ_=>[],λz y=>True,none⟩
end
abbrev VV(a:List Nat)(b:Prop):=a.length=a.length/\b/\b/\b/\b/\b/\b/\b/\b/\b/\b/\b/\b/\b/\b/\b/\b/\b/\b/\b/\b/\b/\b/\b/\b/\b/\b/\b/\b/\b/\b/\b/\b/\True
abbrev T1(a b:List Nat)(c:Prop):=a.length=b.length+1/\c/\c/\c/\c/\c/\c/\c/\c/\c/\c/\c/\c/\c/\c/\c/\c/\c/\c/\c/\c/\c/\c/\c/\c/\c/\c/\c/\c/\c/\c/\c/\c/\True
abbrev T2(a:List Nat):=a.length=a.length/\a.length<=1000000000/\(0:Int)<=0/\True
def QV:bM 58 0 L4:=bL 4 6 eN lN λp z hA=>show Fm.den (let vx:=(0:Int)=0;let v0:=(z.s 7++ [Int.toNat 0]);let v1:=(↑(z.s 7).length:Int);(.an ((64:Int)≠0) (.an (0<=v1/\(0:Int)<64) (.two (v1%64≠56) (.an (T2 (z.s 7)) (.an (T1 v0 (z.s 7) vx) (.at (v0.length+uT v0<=900000100/\uT v0<uT (z.s 7)/\∀(y:Sy),y.s 6=z.s 6/\y.s 7=Iv v0/\(y.s 7).length<=900000100/\(↑(y.s 7).length:Int)%64=56->y.s 6=z.s 6/\y.s 7=Iv (z.s 7)/\(y.s 7).length<=900000100/\(↑(y.s 7).length:Int)%64=56)))) (.an (VV (z.s 7) vx) (.at (z.s 6=z.s 6/\z.s 7=Iv (z.s 7)/\(z.s 7).length<=900000100/\v1%64=56))))))) by dsimp only [L4] at hA;have:=@L0 (z.s 7);have:=@QT (z.s 7);exact z_
def QW:bM 58 2 L5:=bL 5 41 eN lN λp z hA=>show Fm.den (let vx:=(0:Int)=0;let v0:=(z.s 7++ [(z.i 9/(↑(2 ^ Min.min (8 * z.i 20%18446744073709551616).toNat (EZ)):Int)%256).toNat]);let v1:=(↑(z.s 7).length:Int);(.two (0<=z.i 20) (.an ((-9223372036854775808)<=8 * z.i 20/\8 * z.i 20<=9223372036854775807) (.an (0<=8 * z.i 20%18446744073709551616) (.an ((z.s 7).length=(z.s 7).length/\(z.s 7).length<=1000000000/\0<=z.i 9/(↑(2 ^ Min.min (8 * z.i 20%18446744073709551616).toNat (EZ)):Int)%256/\True) (.an ((-9223372036854775808)<=z.i 20-1/\z.i 20-1<=9223372036854775807) (.an (T1 v0 (z.s 7) vx) (.at ((0-1<=z.i 20-1/\z.i 20-1<=7/\(↑v0.length:Int)+(z.i 20-1)<=900000200)/\(z.i 20-1+1).toNat<(z.i 20+1).toNat/\∀(y:Sy),y.s 7=nA (z.i 9) (z.i 20-1) v0/\(↑(y.s 7).length:Int)=(↑v0.length:Int)+(z.i 20-1)+1->y.s 7=nA (z.i 9) (z.i 20) (z.s 7)/\(↑(y.s 7).length:Int)=v1+z.i 20+1))))))) (.an (VV (z.s 7) vx) (.at (z.s 7=nA (z.i 9) (z.i 20) (z.s 7)/\v1=v1+z.i 20+1))))) by dsimp only [L5] at hA;have:=@Iw (z.i 9) (z.i 20) (z.s 7);have:=@L2 (z.i 9) (z.i 20) (z.s 7);exact z_
abbrev T3(a:List G)(b:Prop):=0<a.length/\b/\b/\b/\b/\b/\b/\b/\b/\b/\b/\b/\b/\b/\b/\b/\b/\b/\b/\b/\b/\b/\b/\b/\b/\b/\b/\b/\b/\b/\b/\b/\b/\True
def QX:bM 58 4 VU:=bL 5 41 (ai Y7 eN) lN λp z hA=>show Fm.den (let vx:=(0:Int)=0;let v1:=(V8.mk (z.i 30) (z.i 31) (z.i 32) (z.i 33) (z.i 34) (z.i 35) (z.i 36) (z.i 37));let v2:=((-9223372036854775808)<=z.i 8+64/\z.i 8+64<=9223372036854775807);let v3:=(↑(z.s 7).length:Int);let v4:=(z.i 8+64);let v0:=(oQ (z.g 2) (List.drop (z.i 8).toNat (List.take v4.toNat (z.s 7))) v1);(.two (z.i 8 < ↑(z.s 7).length) (.an v2 (.an (0<=z.i 8/\z.i 8<=z.i 8+64/\z.i 8+64<= ↑(z.s 7).length) (.cl ((so (z.g 2))) (64<=(List.drop (z.i 8).toNat (List.take v4.toNat (z.s 7))).length/\(z.g 2).length=64) (λy0=>y0.g 2=z.g 2) λy0=>(.an v2 (.an (T3 (y0.g 2) vx) (.at ((y0.g 2=KG/\(z.s 7).length<=900000200/\v3%64=0/\0<=z.i 8+64/\z.i 8+64<= ↑(z.s 7).length/\v4%64=0)/\(v3-v4).toNat<(v3-z.i 8).toNat/\∀(y:Sy),V8.mk (y.i 30) (y.i 31) (y.i 32) (y.i 33) (y.i 34) (y.i 35) (y.i 36) (y.i 37)=nB (z.s 7) v4 (V8.mk v0.a v0.b v0.c v0.d v0.e v0.f v0.g v0.h)->V8.mk (y.i 30) (y.i 31) (y.i 32) (y.i 33) (y.i 34) (y.i 35) (y.i 36) (y.i 37)=nB (z.s 7) (z.i 8) v1))))))) (.an (T3 (z.g 2) vx) (.at (V8.mk (z.i 30) (z.i 31) (z.i 32) (z.i 33) (z.i 34) (z.i 35) (z.i 36) (z.i 37)=nB (z.s 7) (z.i 8) v1))))) by
 have hB:True/\z.g 2=KG/\(z.s 7).length<=900000200/\(↑(z.s 7).length:Int)%64=0/\(0:Int)<=z.i 8/\z.i 8<= ↑(z.s 7).length/\z.i 8%64=0:=⟨trivial,hA⟩
 have e2:=@Ix (z.s 7) (z.i 8) (v8 z);have e3:=@L3 (z.s 7) (z.i 8) (v8 z);have e5:KG.length=64:=rfl;dsimp only [v8] at e2 e3;have e6:∀v:V8,v=oQ (z.g 2) (List.drop (z.i 8).toNat (List.take (z.i 8+64).toNat (z.s 7))) (V8.mk (z.i 30) (z.i 31) (z.i 32) (z.i 33) (z.i 34) (z.i 35) (z.i 36) (z.i 37))->V8.mk v.a v.b v.c v.d v.e v.f v.g v.h=v:=λ_ _=>rfl;have e7:=e6 _ rfl;clear e6;have e8:z.i 8+64<=((z.s 7).length:Int)->0<=z.i 8->(List.drop (z.i 8).toNat (List.take (z.i 8+64).toNat (z.s 7))).length=64:=λ_ _=>by rw[List.length_drop,List.length_take];omega
 have e9:=hB.2.1;rw[e9] at e7;conv=>zeta
 repeat' with_reducible first|intro _|apply ci|apply cm|apply cj|apply cD|apply cA
 all_goals first|omega|(refine And.intro (by grind) (And.intro (by omega) (λy hy=>hy.trans ?_));rw[e2 (by omega),hB.2.1];done)|grind [ao,ak,aj,List.append_assoc,List.length_append,List.length_cons,List.length_nil,List.append_cancel_left_eq,List.cons.injEq]
abbrev sq(a:List Nat):=a.length=a.length
abbrev Iy(a:List Nat):=0=0/\0<=1000000000/\a.length<=1000000
def Af:bq 58 Y9:=bC 1 0 eN (aG (ptm:=[]) QV (aG (ptm:=[]) QW (aG (ptm:=[]) QX lN))) λz hA=>show Fm.den (let vx:=(0:Int)=0;let v0:=(lP (z.s 1));let v1:=([]++z.s 1++ [Int.toNat 128]);(.an (Iy (z.s 1)) (.an (([]++z.s 1).length=0+(z.s 1).length/\0+(z.s 1).length<=1000000000/\(0:Int)<=128/\True) (.cl ((v1.length=0+(z.s 1).length+1/\vx/\vx/\vx/\vx/\vx/\vx/\vx/\vx/\vx/\vx/\vx/\vx/\vx/\vx/\vx/\vx/\vx/\vx/\vx/\vx/\vx/\vx/\vx/\vx/\vx/\vx/\vx/\vx/\vx/\vx/\vx/\vx/\True)) (v1.length+uT v1<=900000100) (λy0=>y0.s 6=z.s 1/\y0.s 7=Iv v1/\(y0.s 7).length<=900000100/\(↑(y0.s 7).length:Int)%64=56) λy0=>(let v2:=(↑(y0.s 7).length:Int);(.cl ((VV (y0.s 7) vx)) ((0:Int)-1<=7/\(7:Int)<=7/\v2+7<=900000200) (λy1=>y1.s 7=nA ((↑(y0.s 6).length:Int)%18446744073709551616 * 8%18446744073709551616) 7 (y0.s 7)/\(↑(y1.s 7).length:Int)=v2+7+1) λy1=>(let v3:=(↑(y1.s 7).length:Int);(.an (sq (y1.s 7)) (.an (64=64/bn (cP 9)) (.cl ((0<64/\vx/\vx/\vx/\vx/\vx/\vx/\vx/\vx/\vx/\vx/\vx/\vx/\vx/\vx/\vx/\vx/\vx/\vx/\vx/\vx/\vx/\vx/\vx/\vx/\vx/\vx/\vx/\vx/\vx/\vx/\vx/\vx/\True)) ([G.node [G.int 1116352408],G.node [G.int 1899447441],G.node [G.int 3049323471],G.node [G.int 3921009573],G.node [G.int 961987163],G.node [G.int 1508970993],G.node [G.int 2453635748],G.node [G.int 2870763221],G.node [G.int 3624381080],G.node [G.int 310598401],G.node [G.int 607225278],G.node [G.int 1426881987],G.node [G.int 1925078388],G.node [G.int 2162078206],G.node [G.int 2614888103],G.node [G.int 3248222580],G.node [G.int 3835390401],G.node [G.int 4022224774],G.node [G.int 264347078],G.node [G.int 604807628],G.node [G.int 770255983],G.node [G.int 1249150122],G.node [G.int 1555081692],G.node [G.int 1996064986],G.node [G.int 2554220882],G.node [G.int 2821834349],G.node [G.int 2952996808],G.node [G.int 3210313671],G.node [G.int 3336571891],G.node [G.int 3584528711],G.node [G.int 113926993],G.node [G.int 338241895],G.node [G.int 666307205],G.node [G.int 773529912],G.node [G.int 1294757372],G.node [G.int 1396182291],G.node [G.int 1695183700],G.node [G.int 1986661051],G.node [G.int 2177026350],G.node [G.int 2456956037],G.node [G.int 2730485921],G.node [G.int 2820302411],G.node [G.int 3259730800],G.node [G.int 3345764771],G.node [G.int 3516065817],G.node [G.int 3600352804],G.node [G.int 4094571909],G.node [G.int 275423344],G.node [G.int 430227734],G.node [G.int 506948616],G.node [G.int 659060556],G.node [G.int 883997877],G.node [G.int 958139571],G.node [G.int 1322822218],G.node [G.int 1537002063],G.node [G.int 1747873779],G.node [G.int 1955562222],G.node [G.int 2024104815],G.node [G.int 2227730452],G.node [G.int 2361852424],G.node [G.int 2428436474],G.node [G.int 2756734187],G.node [G.int 3204031479],G.node [G.int 3329325298]]=KG/\(y1.s 7).length<=900000200/\v3%64=0/\(0:Int)<=0/\0<=v3/\(0:Int)%64=0) (λy2=>V8.mk (y2.i 30) (y2.i 31) (y2.i 32) (y2.i 33) (y2.i 34) (y2.i 35) (y2.i 36) (y2.i 37)=nB (y1.s 7) 0 (TZ)) λy2=>(.an (y2.i 37/1%256=hb v0 (nat_lit 31)/\y2.i 37/256%256=hb v0 (nat_lit 30)/\y2.i 37/65536%256=hb v0 (nat_lit 29)/\y2.i 37/16777216%256=hb v0 (nat_lit 28)/\y2.i 36/1%256=hb v0 (nat_lit 27)/\y2.i 36/256%256=hb v0 (nat_lit 26)/\y2.i 36/65536%256=hb v0 (nat_lit 25)/\y2.i 36/16777216%256=hb v0 (nat_lit 24)/\y2.i 35/1%256=hb v0 (nat_lit 23)/\y2.i 35/256%256=hb v0 (nat_lit 22)/\y2.i 35/65536%256=hb v0 (nat_lit 21)/\y2.i 35/16777216%256=hb v0 (nat_lit 20)/\y2.i 34/1%256=hb v0 (nat_lit 19)/\y2.i 34/256%256=hb v0 (nat_lit 18)/\y2.i 34/65536%256=hb v0 (nat_lit 17)/\y2.i 34/16777216%256=hb v0 (nat_lit 16)/\y2.i 33/1%256=hb v0 (nat_lit 15)/\y2.i 33/256%256=hb v0 (nat_lit 14)/\y2.i 33/65536%256=hb v0 (nat_lit 13)/\y2.i 33/16777216%256=hb v0 (nat_lit 12)/\y2.i 32/1%256=hb v0 (nat_lit 11)/\y2.i 32/256%256=hb v0 (nat_lit 10)/\y2.i 32/65536%256=hb v0 (nat_lit 9)/\y2.i 32/16777216%256=hb v0 (nat_lit 8)/\y2.i 31/1%256=hb v0 (nat_lit 7)/\y2.i 31/256%256=hb v0 (nat_lit 6)/\y2.i 31/65536%256=hb v0 (nat_lit 5)/\y2.i 31/16777216%256=hb v0 (nat_lit 4)/\y2.i 30/1%256=hb v0 (nat_lit 3)/\y2.i 30/256%256=hb v0 (nat_lit 2)/\y2.i 30/65536%256=hb v0 (nat_lit 1)/\y2.i 30/16777216%256=hb v0 (nat_lit 0)/\True) (.at (True))))))))))))) by
 dsimp only [Y9] at hA;have:=@VT;have e5:KG.length=64:=rfl;conv=>zeta
 repeat' with_reducible first|intro _|apply ci|apply cm|apply cj|apply cD|apply cA
 all_goals first|omega|rfl|(rw[←QU (by assumption) (by assumption) (by assumption)];(repeat' first|exact rfl|exact trivial|refine And.intro ?_ ?_|(rw[Int.ediv_one];exact rfl));done)|((repeat' first|(with_reducible rfl)|exact trivial|refine And.intro ?_ ?_) <;> first|omega|grind [List.length_append,List.length_cons,List.length_nil]|rfl)|grind [ao,ak,aj,List.append_assoc,List.length_append,List.length_cons,List.length_nil,List.append_cancel_left_eq,List.cons.injEq]
def nC{s:List Nat}{i:Int}(h0:0<=i)(h:i<64):kE (s.take 64) i=kE s i:=by unfold kE;rw[aas,aaF (by omega),aas]
def L7{s:List Nat}{i:Int}(h0:0<=i)(h:i<16):TP (s.take 64) i=TP s i:=by unfold TP;rw[nC (by omega) (by omega),nC (by omega) (by omega),nC (by omega) (by omega),nC (by omega) (by omega)]
def Ag{s:List Nat}:∀(k:Nat) (i:Int) (l:List G),0<=i->i+k=16->wU (s.take 64) k i l=wU s k i l
 |0,_,_,_,_=>rfl
 |k+1,i,l,h0,h=>by show wU (s.take 64) k (i+1) _=wU s k (i+1) _;rw[L7 h0 (by omega)];exact Ag k (i+1) _ (by omega) (by omega)
def Ah(k:List G)(s:List Nat)(v:V8):oQ k (s.take 64) v=oQ k s v:=by unfold oQ Y1 Y0;rw[Ag 16 0 _ (by decide) (by decide)]
def wV(k:List G){s t:List Nat}(v:V8)(h:s.take 64=t.take 64):oQ k s v=oQ k t v:=by rw[←Ah k s,h,Ah]
def L8{m:List Nat}:∀(k:Nat) (i:Int) (v:V8),0<=i->i+64 * k=m.length->itB m k i v=gm KG (m.drop i.toNat) v
 |0,i,v,h0,h=>by rw[iQ (by rw[aaA];omega)];rfl
 |k+1,i,v,h0,h=>by
  have e:oQ KG ((m.take (i+64).toNat).drop i.toNat) v=oQ KG (m.drop i.toNat) v:=wV KG v (by rw[abC,abv,abl (by omega)]);have e2:m.drop (i+64).toNat=(m.drop i.toNat).drop 64:=by rw[abe];congr 1;omega
  show itB m k (i+64) _=_;rw[L8 k (i+64) _ (by omega) (by omega),eW (s:=m.drop i.toNat) (by rw[aaA];omega),e,e2]
def QY{m:List Nat}(h:m.length%64=0)(v:V8):nB m 0 v=gm KG m v:=by unfold nB;rw[L8 _ 0 v (by decide) (by omega)];rfl
def su{k:List G}:∀(n:Nat) (a b:List Nat) (v:V8),a.length=64 * n->gm k (a++b) v=gm k b (gm k a v)
 |0,a,b,v,h=>by have:a= []:=List.length_eq_zero_iff.1 (by omega);subst this;rw[iQ (s:=[]) (by simp)];rfl
 |n+1,a,b,v,h=>by rw[eW (s:=a++b) (by rw[aav];omega),eW (s:=a) (by omega)];have e:oQ k (a++b) v=oQ k a v:=wV k v (by rw[abG (by omega)]);rw[e,abP (by omega),su n (a.drop 64) b _ (by rw[aaA];omega)]
def sv:∀(n:Nat) (s:List Nat),s.length/64=n->∃a,s=a++bZ s/\a.length=64 * n/\(bZ s).length=s.length-64 * n
 |0,s,h=>⟨[],by rw[sh (by omega)];rfl,rfl,by rw[sh (by omega)];omega⟩
 |n+1,s,h=>by
  have c7:64<=s.length:=by omega
  obtain⟨a,h1,h2,h3⟩:=sv n (s.drop 64) (by rw[aaA];omega);refine⟨s.take 64++a, ?_,by rw[aav,aax,h2];omega,by rw[oR c7,h3,aaA];omega⟩;rw[oR c7,aaK, ←h1,aby]
def L9:∀(k:Nat) (l:List Nat),Y8 k l=l++List.replicate k 0
 |0,l=>by simp [Y8]
 |k+1,l=>by rw[Y8,L9 k];simp [List.replicate_succ]
def QZ(d:Int):List Nat:=[7,6,5,4,3,2,1,0].map λi=>((d/((2 ^ (8 * i):Nat):Int))%256).toNat
def Q0(d:Int)(l:List Nat):nA d 7 l=l++QZ d:=by unfold nA;show itE d 8 7 l=_;simp only [itE,aaK];rfl
def jw{α:Type}(A B:List α)(j:Nat)(x:α):(A++B).set (A.length+j) x=A++B.set j x:=by rw[List.set_append_right _ _ (by omega)];congr 2;omega
def L_(e:Int)(d:Int)(A C:List Nat)(hA:(A.length:Int)+8=e):ES e d 8 0 (A++(List.replicate 8 0++C))=A++(QZ d++C):=by simp only [ES];rw[show(e-1-0).toNat=A.length+7 by omega,show(e-1-(0+1)).toNat=A.length+6 by omega,show(e-1-(0+1+1)).toNat=A.length+5 by omega,show(e-1-(0+1+1+1)).toNat=A.length+4 by omega,show(e-1-(0+1+1+1+1)).toNat=A.length+3 by omega,show(e-1-(0+1+1+1+1+1)).toNat=A.length+2 by omega,show(e-1-(0+1+1+1+1+1+1)).toNat=A.length+1 by omega,show(e-1-(0+1+1+1+1+1+1+1)).toNat=A.length+0 by omega];rw[jw,jw,jw,jw,jw,jw,jw,jw];rfl
def uU{r:List Nat}(h:r.length<64):TQ r=r++ [128]++List.replicate (127-r.length) 0:=by unfold TQ;rw[abz (by omega),abl (by omega),List.drop_replicate,show 128-r.length=(127-r.length)+1 by omega,List.replicate_succ];have:=jw r (0::List.replicate (127-r.length) 0) 0 128;rw[aaG] at this;rw[this];simp
def VW(s:List Nat):(s.length:Int)%18446744073709551616 * 8%18446744073709551616=BH s:=rfl
theorem fa(s:List Nat):eB s=lP s:=by
 obtain⟨a,h1,h2,h3⟩:=sv _ s rfl;have hr:(bZ s).length<64:=by omega
 unfold lP;rw[VW,Q0];unfold Iv;rw[L9];have hB:gm KG s V0=gm KG a V0:=by
  conv=>lhs;rw[h1,su _ _ _ _ h2]
  exact iQ hr
 have hpd:uT (s++ [128])=(119-(bZ s).length)%64:=by unfold uT;rw[aav];simp only [aaQ];omega
 have hM:s++ [128]++List.replicate (uT (s++ [128])) 0++QZ (BH s)=a++(bZ s++ [128]++List.replicate (uT (s++ [128])) 0++QZ (BH s)):=by
  conv=>lhs;rw[aaK,aaK];lhs;rw[h1]
  simp only [aaK]
 have hb8:(QZ (BH s)).length=8:=rfl;rw[QY (by rw[aav,aav,aav,abM,hb8,hpd,aaQ];omega),hM,su _ _ _ _ h2, ←hB,hpd];unfold eB;rw[abl (by omega),aa4,aa4];generalize gm KG s V0=W;split
 ·rename_i hc;have e1:(119-(bZ s).length)%64=119-(bZ s).length:=by omega
  have e2:ES 128 (BH s) 8 0 (TQ (bZ s))=bZ s++ [128]++List.replicate (119-(bZ s).length) 0++QZ (BH s):=by rw[uU hr];have:=L_ 128 (BH s) (bZ s++ [128]++List.replicate (119-(bZ s).length) 0) [] (by simp;omega);rw[abp,abp] at this;rw[←this];rw[aaK (bZ s++ [128]),ab7,show 119-(bZ s).length+8=127-(bZ s).length by omega]
  rw[e1,e2];generalize hX:bZ s++ [128]++List.replicate (119-(bZ s).length) 0++QZ (BH s)=X;have hl:X.length=128:=by rw[←hX];simp [hb8];omega
  rw[abz (by omega),eW (s:=X) (by omega),eW (by rw[aaA];omega),iQ (by rw[aaA,aaA];omega)]
 ·rename_i hc;have e1:(119-(bZ s).length)%64=55-(bZ s).length:=by omega
  have e2:(ES 64 (BH s) 8 0 (TQ (bZ s))).take 128=(bZ s++ [128]++List.replicate (55-(bZ s).length) 0)++(QZ (BH s)++List.replicate 64 0):=by
   rw[uU hr];have:=L_ 64 (BH s) (bZ s++ [128]++List.replicate (55-(bZ s).length) 0) (List.replicate 64 0) (by simp;omega);rw[←this];rw[ab7,aaK (bZ s++ [128]),ab7,show 55-(bZ s).length+(8+64)=127-(bZ s).length by omega,abz];have hl:∀(k:Nat) (i:Int) (l:List Nat),(ES 64 (BH s) k i l).length=l.length:=by
    intro k
    induction k with
    |zero=>intro i l;rfl
    |succ k ih=>intro i l;rw[ES,ih,aba]
   rw[hl];simp;omega
  rw[e1,e2];generalize hX:bZ s++ [128]++List.replicate (55-(bZ s).length) 0=X;have hl:X.length=56:=by rw[←hX];simp;omega
  rw[eW (s:=X++QZ (BH s)) (by rw[aav,hb8];omega),iQ (by rw[aaA,aav,hb8];omega)];exact wV KG _ (by rw[←aaK,abG (by rw[aav,hb8];omega)])
noncomputable section
def jU(y:Sy)(t:Nat):List Int:=(List.range 32).map λj=>y.i (t+j)
def Iz(g:G):List Int:=(List.range 32).map λj=>gI (aa g j)
def hGi(v:V8):List Int:=(List.range 32).map λj=>hb v j
def hZi:List Int:=(List.range 32).map λ_=>0
def hN(l:List Int):G:=.node (l.map .int)
def hT(y:Sy)(t:Nat):G:=.node ((List.range 32).map λj=>.int (y.i (t+j)))
def hX(g:G):G:=.node ((List.range 32).map λj=>.int (gI (aa g j)))
def hG(v:V8):G:=.node ((List.range 32).map λj=>.int (hb v j))
def hZ:G:=.node ((List.range 32).map λ_=>.int 0)
def nD(y:Sy)(t:Nat):hT y t=hN (jU y t):=by unfold hT hN jU;rw[abo];rfl
def sw(g:G):hX g=hN (Iz g):=by unfold hX hN Iz;rw[abo];rfl
def T4(v:V8):hG v=hN (hGi v):=by unfold hG hN hGi;rw[abo];rfl
def E1:hZ=hN hZi:=rfl
def fD{a b:List Int}(h:hN a=hN b):a=b:=by
 have:∀a b:List Int,a.map G.int=b.map G.int->a=b:=by
  intro a
  induction a with
  |nil=>intro b h;cases b with|nil=>rfl|cons y b=>simp at h
  |cons x a ih=>intro b h;cases b with
   |nil=>simp at h
   |cons y b=>simp at h;rw[h.1,ih b (by simpa using h.2)]
 unfold hN at h;injection h with h;exact this _ _ h
abbrev pV:Prop:=([]:List Nat)= []
abbrev IA:Prop:=([]:List G)= []
def Q1(g:G):List Int:=(gL g).map gI
def lQ(a b:G):Prop:=Q1 a=Q1 b
def bY(l:List Int):Q1 (hN l)=l:=by unfold Q1 hN;show(l.map G.int).map gI=l;rw[abo];exact List.map_id l
theorem aX{y y':Sy}{t t':Nat}:lQ (hT y t) (hT y' t')↔hT y t=hT y' t':=by unfold lQ;rw[nD,nD,bY,bY];exact⟨λh=>by rw[h],fD⟩
theorem aY{y:Sy}{t:Nat}{g:G}:lQ (hT y t) (hX g)↔hT y t=hX g:=by unfold lQ;rw[nD,sw,bY,bY];exact⟨λh=>by rw[h],fD⟩
theorem aZ{y:Sy}{t:Nat}{g:G}:lQ (hX g) (hT y t)↔hX g=hT y t:=by unfold lQ;rw[nD,sw,bY,bY];exact⟨λh=>by rw[h],fD⟩
theorem a_{g g':G}:lQ (hX g) (hX g')↔hX g=hX g':=by unfold lQ;rw[sw,sw,bY,bY];exact⟨λh=>by rw[h],fD⟩
theorem ba{y:Sy}{t:Nat}:lQ (hT y t) hZ↔hT y t=hZ:=by unfold lQ;rw[nD,E1,bY,bY];exact⟨λh=>by rw[h],fD⟩
theorem bc{g:G}:lQ (hX g) hZ↔hX g=hZ:=by unfold lQ;rw[sw,E1,bY,bY];exact⟨λh=>by rw[h],fD⟩
theorem be{y:Sy}{t:Nat}:lQ hZ (hT y t)↔hZ=hT y t:=by unfold lQ;rw[nD,E1,bY,bY];exact⟨λh=>by rw[h],fD⟩
theorem bf{g:G}:lQ hZ (hX g)↔hZ=hX g:=by unfold lQ;rw[sw,E1,bY,bY];exact⟨λh=>by rw[h],fD⟩
theorem bh:lQ hZ hZ:=rfl
def jP(y:Sy)(t:Nat)(j:Nat):Int:=y.i (t+j)
def E2(f g:Nat->Int)(r:Prop):Nat->Prop
 |0=>r
 |n+1=>f n=g n/\E2 f g r n
def fS(f g:Nat->Int)(r:Prop):Prop:=E2 f g r 32
def uV(f g:Nat->Int)(r:Prop):∀n,E2 f g r n↔(∀j,j<n->f j=g j)/\r
 |0=>⟨λh=>⟨λj hj=>by omega,h⟩,λh=>h.2⟩
 |n+1=>by show _/\E2 f g r n↔_;rw[uV f g r n];exact⟨λh=>⟨λj hj=>by by_cases e:j=n;rw[e];exact h.1;exact h.2.1 j (by omega),h.2.2⟩,λh=>⟨h.1 n (by omega),λj hj=>h.1 j (by omega),h.2⟩⟩
theorem aB{f:Nat->Int}{r:Prop}:fS f f r↔r:=by unfold fS;rw[uV];exact⟨λh=>h.2,λh=>⟨λ_ _=>rfl,h⟩⟩
def HOk(g:G):Prop:=∃l:List Int,g=hN l/\l.length=32/\∀x∈l,0<=x/\x<256
def Ai{α:Type}{l:List α}(h:l.length=32)(f:Nat->α)(hf:∀j (hj:j<l.length),f j=l[j]):(List.range 32).map f=l:=by refine List.ext_getElem (by simp [h]) λi h1 h2=>?_;rw[abT,List.getElem_range];exact hf i h2
def db{g:G}(h:HOk g):hX g=g:=by
 obtain⟨l,rfl,hl,_⟩:=h;unfold hX hN;rw[Ai (l:=l.map G.int) (by simpa using hl)];intro j hj;have:j<l.length:=by simpa using hj
 simp [aa,gL,gI,this]
def HOk.of_hT{y:Sy}{t:Nat}(h:HOk (hT y t)):∀j,j<32->0<=y.i (t+j)/\y.i (t+j)<256:=by
 obtain⟨l,e,hl,hb⟩:=h;intro j hj;rw[nD] at e;have e:=fD e;have:y.i (t+j)∈l:=by rw[←e];unfold jU;exact List.mem_map.2 ⟨j,List.mem_range.2 hj,rfl⟩
 exact hb _ this
def E3(v:V8):HOk (hG v):=by
 refine⟨hGi v,T4 v,by simp [hGi],λx hx=>?_⟩;obtain⟨j,hj,rfl⟩:=List.mem_map.1 hx;have hj:=List.mem_range.1 hj;have key:∀(l:List Int) (j:Nat),(∀x∈l,0<=x/\x<256)->0<=l.getD j 0/\l.getD j 0<256:=λl j h=>by
  rw[aas]
  cases e:l[j]? with
  |none=>exact⟨by decide,by decide⟩
  |some x=>exact h x (abs e)
 have m:∀n:Int,0<=n%256/\n%256<256:=λn=>by omega
 refine key _ _ λx hx=>?_;simp only [List.mem_cons,aa5,or_false] at hx;rcases hx with h|h|h|h|h|h|h|h|h|h|h|h|h|h|h|h|h|h|h|h|h|h|h|h|h|h|h|h|h|h|h|h <;> rw[h] <;> exact m _
def fG:HOk hZ:=⟨hZi,rfl,rfl,λx hx=>by obtain⟨j,_,rfl⟩:=List.mem_map.1 hx;decide⟩
def hB(g:G):List Nat:=(gL g).map λx=>(gI x).toNat
def Ma{g:G}(h:HOk g):(hB g).length=32:=by obtain⟨l,rfl,hl,_⟩:=h;simp [hB,hN,gL,hl]
def bN(s:List Nat):G:=hG (eB (0::s))
def aO(a b:G):G:=hG (eB (1::(hB a++hB b)))
def dh(a:G)(s:List Nat):G:=hG (eB (2::(hB a++s)))
def dK(s:List Nat):G:=hG (eB s)
theorem iR(s:List Nat):HOk (bN s):=E3 _
theorem cy(a b:G):HOk (aO a b):=E3 _
theorem kW(a:G)(s:List Nat):HOk (dh a s):=E3 _
theorem gR(s:List Nat):HOk (dK s):=E3 _
def jx(y:Sy)(t:Nat):(jU y t).length=32:=by simp [jU]
def jy(g:G):(Iz g).length=32:=by simp [Iz]
def cf(x:Int)(l:List Int):aH (x::l)=x.toNat::aH l:=rfl
def dL(a b:List Int):aH (a++b)=aH a++aH b:=by
 induction a with
 |nil=>rfl
 |cons x a ih=>show _::aH (a++b)=_::(aH a++aH b);rw[ih]
def bS(l:List Int):(aH l).length=l.length:=by induction l with|nil=>rfl|cons x l ih=>simp [aH,ih]
theorem bu(y:Sy)(t:Nat):aH (jU y t)=hB (hT y t):=rfl
def dm(g:G):aH (Iz g)=hB (hX g):=rfl
def cr(y:Sy)(t:Nat):(hB (hT y t)).length=32:=by simp [hB,hT,gL]
def gT(g:G):(hB (hX g)).length=32:=by simp [hB,hX,gL]
def cE(x:Int)(l:List Int):br (x::l)↔0<=x/\br l:=Iff.rfl
def dM(a b:List Int):br (a++b)↔br a/\br b:=by
 induction a with
 |nil=>simp [br]
 |cons x a ih=>show _/\br (a++b)↔(_/\br a)/\br b;rw[ih,and_assoc]
def uW{l:List Int}(h:∀x∈l,0<=x):br l:=by
 induction l with
 |nil=>trivial
 |cons x l ih=>exact⟨h x aaB,ih λy hy=>h y (aay _ hy)⟩
def aI{y:Sy}{t:Nat}(h:HOk (hT y t)):br (jU y t):=by obtain⟨l,e,_,hb⟩:=h;rw[nD] at e;rw[fD e];exact uW λx hx=>(hb x hx).1
def dT{g:G}(h:HOk (hX g)):br (Iz g):=by obtain⟨l,e,_,hb⟩:=h;rw[sw] at e;rw[fD e];exact uW λx hx=>(hb x hx).1
def pK(s:List Nat):hG (eB (0::s))=bN s:=rfl
def sx(a b:G):hG (eB (1::(hB a++hB b)))=aO a b:=rfl
def kG(a:G)(s:List Nat):hG (eB (2::(hB a++s)))=dh a s:=rfl
def sy(s:List Nat):hG (eB s)=dK s:=rfl
def CE:Int.toNat 0=0:=rfl
def CF:Int.toNat 1=1:=rfl
def CH:Int.toNat 2=2:=rfl
def hs(t:Nat):List Sh:=(List.range 32).map λj=>.i .u8 (t+j)
def Mb:FSpec:=⟨[.c (.vb 1)],[],λz=>(z.s 1).length<=999999,λz=>.one (.ag (hs 300)),λ_=>[],λz y=>hT y 300=bN (z.s 1),none⟩
abbrev VX:=Mb
def wW:FSpec:=⟨[.ag (hs 100),.ag (hs 200)],[],λz=>HOk (hT z 100)/\HOk (hT z 200),λz=>.one (.ag (hs 300)),λ_=>[],λz y=>hT y 300=aO (hT z 100) (hT z 200),none⟩
abbrev VY:=wW
def E4:FSpec:=⟨[.ag (hs 100),.c (.vb 1)],[],λz=>HOk (hT z 100)/\(z.s 1).length<=900000,λz=>.one (.ag (hs 300)),λ_=>[],λz y=>hT y 300=dh (hT z 100) (z.s 1),none⟩
abbrev Q2:=E4
attribute [irreducible] lQ fS hB bN aO dh dK HOk jU Iz hN
end
def ft{p:Prop}(h:p:=by(try conv=>zeta);(repeat' with_reducible first|intro _|apply ci|apply cm|apply cj|apply cD|apply cA);all_goals first|omega|grind [ao,ak,aj,aX,aY,aZ,a_,ba,bc,be,bf,bh,aB]):p:=h
def dD{p:Prop}(h:p:=by(try conv=>zeta);(repeat' with_reducible first|intro _|apply ci|apply cm|apply cj|apply cD|apply cA);all_goals first|omega|grind [ao,ak,aj,aX,aY,aZ,a_,ba,bc,be,bf,bh,aB,List.append_assoc]):p:=h
abbrev Mc(a:List Nat):=1=1/\1<=1000000000/\a.length<=1000000
abbrev Md(a:List Nat):=Fm.ct (a.length<=1000000) (λy=>True)
def E5:bq 38 VX:=bC 1 0 (ai Af eN) lN λz hA=>show Fm.den (let v0:=([Int.toNat 0]++z.s 1);(.an ((0:Int)<=0/\True) (.an (1=1) (.an (Mc (z.s 1)) (.an (v0.length=1+(z.s 1).length) (Md v0 λy0=>(.ax (hG (lP v0)=bN (z.s 1))))))))) by
 have hB:True/\(z.s 1).length<=999999:=⟨trivial,hA⟩
 conv=>zeta
 repeat' with_reducible first|intro _|apply ci|apply cm|apply cj|apply cD|apply cA
 all_goals first|omega|((try simp only [←fa,cf,dL,bu,dm,cE,dM,CE,CF,CH,List.cons_append,List.nil_append,List.append_assoc,pK,sx,kG,List.length_append,List.length_cons,List.length_nil,bS,jx,jy,cr,gT]) <;> (repeat' first|rfl|trivial|refine And.intro ?_ ?_) <;> first|omega|exact aI hB.2.1|exact aI hB.2.2|exact aI (by assumption)|exact dT (by assumption))|grind [ao,ak,aj]
def E6:bq 60 VY:=bC 1 0 (ai Af eN) lN λz hA=>show Fm.den (let v0:=((1:Int)::(jU z 100++jU z 200));(.an (br v0) (.an (65=65) (.an (65=65) (.ct (65<=1000000) (λy0=>True) λy0=>(.ax (hG (lP (aH v0))=aO (hT z 100) (hT z 200)))))))) by
 have hB:True/\HOk (hT z 100)/\HOk (hT z 200):=⟨trivial,hA⟩
 conv=>zeta
 repeat' with_reducible first|intro _|apply ci|apply cm|apply cj|apply cD|apply cA
 all_goals first|omega|((try simp only [←fa,cf,dL,bu,dm,cE,dM,CE,CF,CH,List.cons_append,List.nil_append,List.append_assoc,pK,sx,kG,List.length_append,List.length_cons,List.length_nil,bS,jx,jy,cr,gT]) <;> (repeat' first|rfl|trivial|refine And.intro ?_ ?_) <;> first|omega|exact aI hB.2.1|exact aI hB.2.2|exact aI (by assumption)|exact dT (by assumption))|grind [ao,ak,aj]
abbrev Me(a:List Nat):=33=33/\33<=1000000000/\a.length<=1000000
def Mf:bq 180 Q2:=bC 1 0 (ai Af eN) lN λz hA=>show Fm.den (let v0:=(aH ((2:Int)::jU z 100)++z.s 1);(.an (br ((2:Int)::jU z 100)) (.an (33=33) (.an (Me (z.s 1)) (.an (v0.length=33+(z.s 1).length) (Md v0 λy0=>(.ax (hG (lP v0)=dh (hT z 100) (z.s 1))))))))) by
 have hB:True/\HOk (hT z 100)/\(z.s 1).length<=900000:=⟨trivial,hA⟩
 conv=>zeta
 repeat' with_reducible first|intro _|apply ci|apply cm|apply cj|apply cD|apply cA
 all_goals first|omega|((try simp only [←fa,cf,dL,bu,dm,cE,dM,CE,CF,CH,List.cons_append,List.nil_append,List.append_assoc,pK,sx,kG,List.length_append,List.length_cons,List.length_nil,bS,jx,jy,cr,gT]) <;> (repeat' first|rfl|trivial|refine And.intro ?_ ?_) <;> first|omega|exact aI hB.2.1|exact aI hB.2.2|exact aI (by assumption)|exact dT (by assumption))|grind [ao,ak,aj]
abbrev Aj(a:List Nat):=a.length<=1000000000
def E7:bq 161 Mb:=bC 1 0 (ai pJ eN) lN λz hA=>show Fm.den (let v0:=([Int.toNat 0]++z.s 1);(.an ((0:Int)<=0/\True) (.an (1=1) (.an (Mc (z.s 1)) (.an (v0.length=1+(z.s 1).length) (.ct (Aj v0) (λy0=>True) λy0=>(.ax (hG (eB v0)=bN (z.s 1))))))))) by
 have hB:True/\(z.s 1).length<=999999:=⟨trivial,hA⟩
 conv=>zeta
 repeat' with_reducible first|intro _|apply ci|apply cm|apply cj|apply cD|apply cA
 all_goals first|omega|((try simp only [←fa,cf,dL,bu,dm,cE,dM,CE,CF,CH,List.cons_append,List.nil_append,List.append_assoc,pK,sx,kG,List.length_append,List.length_cons,List.length_nil,bS,jx,jy,cr,gT]) <;> (repeat' first|rfl|trivial|refine And.intro ?_ ?_) <;> first|omega|exact aI hB.2.1|exact aI hB.2.2|exact aI (by assumption)|exact dT (by assumption))|grind [ao,ak,aj]
def qr:bq 138 wW:=bC 1 0 (ai pJ eN) lN λz hA=>show Fm.den (let v0:=((1:Int)::(jU z 100++jU z 200));(.an (br v0) (.an (65=65) (.an (65=65) (.ct (65<=1000000000) (λy0=>True) λy0=>(.ax (hG (eB (aH v0))=aO (hT z 100) (hT z 200)))))))) by
 have hB:True/\HOk (hT z 100)/\HOk (hT z 200):=⟨trivial,hA⟩
 conv=>zeta
 repeat' with_reducible first|intro _|apply ci|apply cm|apply cj|apply cD|apply cA
 all_goals first|omega|((try simp only [←fa,cf,dL,bu,dm,cE,dM,CE,CF,CH,List.cons_append,List.nil_append,List.append_assoc,pK,sx,kG,List.length_append,List.length_cons,List.length_nil,bS,jx,jy,cr,gT]) <;> (repeat' first|rfl|trivial|refine And.intro ?_ ?_) <;> first|omega|exact aI hB.2.1|exact aI hB.2.2|exact aI (by assumption)|exact dT (by assumption))|grind [ao,ak,aj]
def Mg:bq 237 E4:=bC 1 0 (ai pJ eN) lN λz hA=>show Fm.den (let v0:=(aH ((2:Int)::jU z 100)++z.s 1);(.an (br ((2:Int)::jU z 100)) (.an (33=33) (.an (Me (z.s 1)) (.an (v0.length=33+(z.s 1).length) (.ct (Aj v0) (λy0=>True) λy0=>(.ax (hG (eB v0)=dh (hT z 100) (z.s 1))))))))) by
 have hB:True/\HOk (hT z 100)/\(z.s 1).length<=900000:=⟨trivial,hA⟩
 conv=>zeta
 repeat' with_reducible first|intro _|apply ci|apply cm|apply cj|apply cD|apply cA
 all_goals first|omega|((try simp only [←fa,cf,dL,bu,dm,cE,dM,CE,CF,CH,List.cons_append,List.nil_append,List.append_assoc,pK,sx,kG,List.length_append,List.length_cons,List.length_nil,bS,jx,jy,cr,gT]) <;> (repeat' first|rfl|trivial|refine And.intro ?_ ?_) <;> first|omega|exact aI hB.2.1|exact aI hB.2.2|exact aI (by assumption)|exact dT (by assumption))|grind [ao,ak,aj]
noncomputable section
abbrev uX(l:List G)(i:Int):List Nat:=gS (aa (aq l i.toNat) 0)
def Mh(l:List G)(i:Int):Prop:=(1<=(uX l i).length/\(uX l i).length<=40)/\(0<i->mB (uX l (i-1)) (uX l i)=true)
def gp(l:List G)(n:Int):Prop:=∀i:Int,0<=i->i<n->Mh l i
theorem Ak(l:List G){n:Int}(h:n<=0):gp l n:=λi h0 h1=>by omega
def Al{l:List G}{n:Int}(h:gp l n)(h1:Mh l n):gp l (n+1):=λi h0 hi=>by
 by_cases e:i<n
 ·exact h i h0 e
 ·have:i=n:=by omega
  rw[this];exact h1
theorem Mi{l:List G}{n m:Int}(h:gp l n)(e:m<=n):gp l m:=λi h0 hi=>h i h0 (by omega)
def E8{l:List G}{n m:Int}(h:¬Mh l n)(h0:0<=n)(h1:n<m):¬gp l m:=λhh=>h (hh n h0 h1)
def wX{l:List G}{n m:Int}(h:gp l m)(h0:0<=n)(h1:n<m):(uX l n).length<=40:=(h n h0 h1).1.2
def oS(ns ks:List G):Prop:=gp ns ns.length/\ns.length=ks.length
def yl(kd i sc:Int)(t:List Nat)(ns ks:List G):Prop:=
 if kd=1 then i=0/\sc=0/\ns.length=0/\ks.length=0/\t= [] else if kd=2 then(0<=i/\i<=1)/\sc=0/\ns.length=0/\ks.length=0/\t= [] else if kd=3 then sc=0/\ns.length=0/\ks.length=0/\t= [] else if kd=4 then(1<=sc/\sc<=18)/\i%10≠0/\ns.length=0/\ks.length=0/\t= [] else if kd=5 then(0<=i/\i<=9007199254740992)/\sc=0/\ns.length=0/\ks.length=0/\t= [] else if kd=6 then i=0/\sc=0/\ns.length=0/\ks.length=0 else if kd=7 then i=0/\sc=0/\ns.length=0/\ks.length=0 else if kd=8 then i=0/\sc=0/\ns.length=0/\t= [] else if kd=9 then i=0/\sc=0/\t= [] else False
def E9{kd i sc:Int}{t:List Nat}{ns ks:List G}(h:kd=1):yl kd i sc t ns ks↔i=0/\sc=0/\ns.length=0/\ks.length=0/\t= []:=by subst h;rfl
def E_{kd i sc:Int}{t:List Nat}{ns ks:List G}(h:kd=2):yl kd i sc t ns ks↔(0<=i/\i<=1)/\sc=0/\ns.length=0/\ks.length=0/\t= []:=by subst h;rfl
def Am{kd i sc:Int}{t:List Nat}{ns ks:List G}(h:kd=3):yl kd i sc t ns ks↔sc=0/\ns.length=0/\ks.length=0/\t= []:=by subst h;rfl
def Fa{kd i sc:Int}{t:List Nat}{ns ks:List G}(h:kd=4):yl kd i sc t ns ks↔(1<=sc/\sc<=18)/\i%10≠0/\ns.length=0/\ks.length=0/\t= []:=by subst h;rfl
def Mj{kd i sc:Int}{t:List Nat}{ns ks:List G}(h:kd=5):yl kd i sc t ns ks↔(0<=i/\i<=9007199254740992)/\sc=0/\ns.length=0/\ks.length=0/\t= []:=by subst h;rfl
def Fb{kd i sc:Int}{t:List Nat}{ns ks:List G}(h:kd=6):yl kd i sc t ns ks↔i=0/\sc=0/\ns.length=0/\ks.length=0:=by subst h;rfl
def Fc{kd i sc:Int}{t:List Nat}{ns ks:List G}(h:kd=7):yl kd i sc t ns ks↔i=0/\sc=0/\ns.length=0/\ks.length=0:=by subst h;rfl
def Fd{kd i sc:Int}{t:List Nat}{ns ks:List G}(h:kd=8):yl kd i sc t ns ks↔i=0/\sc=0/\ns.length=0/\t= []:=by subst h;rfl
def Mk{kd i sc:Int}{t:List Nat}{ns ks:List G}(h:kd=9):yl kd i sc t ns ks↔i=0/\sc=0/\t= []:=by subst h;rfl
def Ml{kd i sc:Int}{t:List Nat}{ns ks:List G}(h:kd<1∨9<kd):¬yl kd i sc t ns ks:=by unfold yl;rw[if_neg (by omega),if_neg (by omega),if_neg (by omega),if_neg (by omega),if_neg (by omega),if_neg (by omega),if_neg (by omega),if_neg (by omega),if_neg (by omega)];exact id
open Classical in
def oT(kd i sc:Int)(t:List Nat)(ns ks:List G):Int:=
 if ¬yl kd i sc t ns ks then 3 else if 16384<t.length∨200<ks.length then 5 else if kd=9/\¬oS ns ks then 3 else 0
def An{kd i sc:Int}{t:List Nat}{ns ks:List G}(h:¬yl kd i sc t ns ks):oT kd i sc t ns ks=3:=by unfold oT;rw[if_pos h]
def Ao{kd i sc:Int}{t:List Nat}{ns ks:List G}(h:yl kd i sc t ns ks)(h1:16384<t.length∨200<ks.length):oT kd i sc t ns ks=5:=by unfold oT;rw[if_neg (Classical.not_not.2 h),if_pos h1]
def Ap{kd i sc:Int}{t:List Nat}{ns ks:List G}(h:yl kd i sc t ns ks)(h1:¬(16384<t.length∨200<ks.length))(h2:kd=9/\¬oS ns ks):oT kd i sc t ns ks=3:=by unfold oT;rw[if_neg (Classical.not_not.2 h),if_neg h1,if_pos h2]
def CI{kd i sc:Int}{t:List Nat}{ns ks:List G}(h:yl kd i sc t ns ks)(h1:¬(16384<t.length∨200<ks.length))(h2:¬(kd=9/\¬oS ns ks)):oT kd i sc t ns ks=0:=by unfold oT;rw[if_neg (Classical.not_not.2 h),if_neg h1,if_neg h2]
def nE{kd i sc:Int}{t:List Nat}{ns ks:List G}(h:oT kd i sc t ns ks=0):yl kd i sc t ns ks/\t.length<=16384/\ks.length<=200/\(kd=9->oS ns ks):=by
 unfold oT at h;split at h
 ·cases h
 ·rename_i h0;split at h
  ·cases h
  ·rename_i h1;split at h
   ·cases h
   ·rename_i h2;exact⟨Classical.not_not.1 h0,by omega,by omega,λe=>Classical.not_not.1 λhn=>h2 ⟨e,hn⟩⟩
def Y_(x:Int):x.tmod 10=0↔x%10=0:=by
 rw[Int.tmod_eq_emod];split
 ·simp
 ·constructor
  ·intro h;omega
  ·intro h;rename_i hn;exact absurd (Or.inr (abU h)) hn
def tT:List Int->Int
 | []=>0
 |x::l=>if x=0 then tT l else x
def IB:Nat->G->Int
 |0,_=>9
 |k+1,g=>if oT (gI (aa g 0)) (gI (aa g 1)) (gI (aa g 2)) (gS (aa g 3)) (gL (aa g 4)) (gL (aa g 5))=0 then tT ((gL (aa g 5)).map (IB k)) else oT (gI (aa g 0)) (gI (aa g 1)) (gI (aa g 2)) (gS (aa g 3)) (gL (aa g 4)) (gL (aa g 5))
def eE(k:Nat)(ks:List G)(i:Int):Int:=tT ((ks.drop i.toNat).map (IB k))
def eG(k:Nat)(kd i sc:Int)(t:List Nat)(ns ks:List G):Int:=match k with
 |0=>9
 |k+1=>if oT kd i sc t ns ks=0 then eE k ks 0 else oT kd i sc t ns ks
def gq(k:Nat)(g:G):eG k (gI (aa g 0)) (gI (aa g 1)) (gI (aa g 2)) (gS (aa g 3)) (gL (aa g 4)) (gL (aa g 5))=IB k g:=by cases k <;> rfl
theorem gt(kd i sc:Int)(t:List Nat)(ns ks:List G):eG 0 kd i sc t ns ks=9:=rfl
theorem qs{k:Nat}{kd i sc:Int}{t:List Nat}{ns ks:List G}(h:¬oT kd i sc t ns ks=0):eG (k+1) kd i sc t ns ks=oT kd i sc t ns ks:=if_neg h
theorem sz{k:Nat}{kd i sc:Int}{t:List Nat}{ns ks:List G}(h:oT kd i sc t ns ks=0):eG (k+1) kd i sc t ns ks=eE k ks 0:=if_pos h
def eH{l:List G}{i:Int}(h0:0<=i)(h:i<l.length):l.drop i.toNat=aq l i.toNat::l.drop (i+1).toNat:=by
 have h1:i.toNat<l.length:=by omega
 rw[abf h1,show(i+1).toNat=i.toNat+1 by omega];congr 1;unfold aq;rw[aas,aaw h1];rfl
def Aq{k:Nat}{ks:List G}{i:Int}(h0:0<=i)(h:i<ks.length)(e:IB k (aq ks i.toNat)=0):eE k ks i=eE k ks (i+1):=by unfold eE;rw[eH h0 h,aaP,tT,if_pos e]
def Fe{k:Nat}{ks:List G}{i:Int}(h0:0<=i)(h:i<ks.length)(e:¬IB k (aq ks i.toNat)=0):eE k ks i=IB k (aq ks i.toNat):=by unfold eE;rw[eH h0 h,aaP,tT,if_neg e]
def qt{k:Nat}{ks:List G}{i:Int}(h:(ks.length:Int)<=i):eE k ks i=0:=by unfold eE;rw[aa2 (by omega)];rfl
def sA:∀{l:List Int},tT l=0->∀x∈l,x=0
 | [],_,x,hx=>by cases hx
 |y::l,h,x,hx=>by
  unfold tT at h;split at h
  ·rename_i e;rcases List.mem_cons.1 hx with rfl|hx
   ·exact e
   ·exact sA h x hx
  ·rename_i e;exact absurd h e
def dn{l:List G}{i:Int}(h0:0<=i)(h:i<l.length):aq l i.toNat∈l:=by
 have h1:i.toNat<l.length:=by omega
 unfold aq;rw[aas,aaw h1];exact abr _
def wY{k:Nat}{ks:List G}{i:Int}(h:eE k ks 0=0)(h0:0<=i)(hi:i<ks.length):IB k (aq ks i.toNat)=0:=
 sA h _ (abJ (by rw[show(0:Int).toNat=0 by rfl,aa4];exact dn h0 hi))
def pL(v:Int):Int:=if 0<=v then 2 * v else -2 * v-1
def Mm{a:Nat}(h:a<18446744073709551616):Nat.xor a 18446744073709551615=18446744073709551615-a:=by
 show a ^^^ 18446744073709551615=_;refine Nat.eq_of_testBit_eq λi=>?_;rw[Nat.testBit_xor,show 18446744073709551615-a=2 ^ 64-(a+1) by omega,Nat.testBit_two_pow_sub_succ (by simpa using h),show 18446744073709551615=2 ^ 64-1 by decide,Nat.testBit_two_pow_sub_one];by_cases hi:i<64
 ·simp [hi]
 ·simp [hi];exact Nat.testBit_lt_two_pow (abh (by simpa using h:a<2 ^ 64) (abK (by decide) (by omega)))
def T5{n:Int}(h0:0<=n)(h:n<18446744073709551616):aE (am .u64) n=n.toNat:=by
 obtain⟨m,rfl⟩:∃m:Nat,n=m:=⟨n.toNat,by omega⟩
 show m%18446744073709551616=_;rw[abt (by omega)];rfl
def VZ{v x:Int}(h: -9223372036854775808<=v/\v<9223372036854775808)(hx:x=v * 2%18446744073709551616):IntKind.u64.wrap (Int.ofNat ((aE (am .u64) x).xor (aE (am .u64) (v/9223372036854775808%18446744073709551616))))=pL v:=by
 subst hx;rw[oN,T5 (by omega) (by omega),T5 (by omega) (by omega)];unfold pL;split
 ·rw[show(v/9223372036854775808%18446744073709551616).toNat=0 by omega];have e:((v * 2%18446744073709551616).toNat).xor 0=(v * 2%18446744073709551616).toNat:=Nat.xor_zero _;rw[e];show((v * 2%18446744073709551616).toNat:Int)%_=_;omega
 ·rw[show(v/9223372036854775808%18446744073709551616).toNat=18446744073709551615 by omega,Mm (by omega)];show((18446744073709551615-(v * 2%18446744073709551616).toNat:Nat):Int)%_=_;omega
def V1(x:Int):IntKind.i64.wrap x%18446744073709551616=x%18446744073709551616:=by
 have key:∀(c:Bool) (a b:Int),a%18446744073709551616=x%18446744073709551616->b%18446744073709551616=x%18446744073709551616->(if c=true then a else b)%18446744073709551616=x%18446744073709551616:=λc a b h1 h2=>by cases c <;> simp [h1,h2]
 exact key _ _ _ (by show(x%18446744073709551616-18446744073709551616)%_=_;omega) (by show(x%18446744073709551616)%_=_;omega)
def Q3{v:Int}(h:0<=v):pL v=2 * v:=if_pos h
def Q4{v:Int}(h:v<0):pL v= -2 * v-1:=if_neg (by omega)
def V2(e:G->List Nat)(kd:Int)(ns ks:List G):Nat->Int->List Nat
 |0,_=>[]
 |n+1,i=>(if kd=9 then aK (uX ns i).length++uX ns i else [])++(e (aq ks i.toNat)++V2 e kd ns ks n (i+1))
def tD(e:G->List Nat)(kd:Int)(ns ks:List G)(i:Int):List Nat:=V2 e kd ns ks ((ks.length:Int)-i).toNat i
def Ar{e:G->List Nat}{kd:Int}{ns ks:List G}{i:Int}(h0:kd=9)(h:i<ks.length):tD e kd ns ks i=aK (uX ns i).length++(uX ns i++(e (aq ks i.toNat)++tD e kd ns ks (i+1))):=by unfold tD;rw[show((ks.length:Int)-i).toNat=((ks.length:Int)-(i+1)).toNat+1 by omega];show(if kd=9 then _ else _)++_=_;rw[if_pos h0,aaK]
def As{e:G->List Nat}{kd:Int}{ns ks:List G}{i:Int}(h0:¬kd=9)(h:i<ks.length):tD e kd ns ks i=e (aq ks i.toNat)++tD e kd ns ks (i+1):=by unfold tD;rw[show((ks.length:Int)-i).toNat=((ks.length:Int)-(i+1)).toNat+1 by omega];show(if kd=9 then _ else _)++_=_;rw[if_neg h0];rfl
def Ff{e:G->List Nat}{kd:Int}{ns ks:List G}{i:Int}(h:(ks.length:Int)<=i):tD e kd ns ks i= []:=by unfold tD;rw[show((ks.length:Int)-i).toNat=0 by omega];rfl
def IC(e:G->List Nat)(kd i sc:Int)(t:List Nat)(ns ks:List G):List Nat:=
 if kd=2 then [(i%256).toNat] else if kd=3 then aK (pL i).toNat else if kd=4 then aK (pL i).toNat++ [(sc%256).toNat] else if kd=5 then aK (i%18446744073709551616).toNat
 else if kd=6∨kd=7 then aK t.length++t else if kd=8∨kd=9 then aK ks.length++tD e kd ns ks 0 else []
def jQ:Nat->G->List Nat
 |0,_=>[]
 |k+1,g=>(gI (aa g 0)%256).toNat::IC (jQ k) (gI (aa g 0)) (gI (aa g 1)) (gI (aa g 2)) (gS (aa g 3)) (gL (aa g 4)) (gL (aa g 5))
def dN(k:Nat)(kd i sc:Int)(t:List Nat)(ns ks:List G):List Nat:=match k with
 |0=>[]
 |k+1=>(kd%256).toNat::IC (jQ k) kd i sc t ns ks
def oU(k:Nat)(g:G):dN k (gI (aa g 0)) (gI (aa g 1)) (gI (aa g 2)) (gS (aa g 3)) (gL (aa g 4)) (gL (aa g 5))=jQ k g:=by cases k <;> rfl
def sC(k:Nat){kd i sc:Int}{t:List Nat}{ns ks:List G}(h:kd=2):dN (k+1) kd i sc t ns ks= [(kd%256).toNat]++ [(i%256).toNat]:=by simp [dN,IC,h]
def qu(k:Nat){kd i sc:Int}{t:List Nat}{ns ks:List G}(h:kd=3):dN (k+1) kd i sc t ns ks= [(kd%256).toNat]++aK (pL i).toNat:=by simp [dN,IC,h]
def wZ(k:Nat){kd i sc:Int}{t:List Nat}{ns ks:List G}(h:kd=4):dN (k+1) kd i sc t ns ks= [(kd%256).toNat]++(aK (pL i).toNat++ [(sc%256).toNat]):=by simp [dN,IC,h]
def sD(k:Nat){kd i sc:Int}{t:List Nat}{ns ks:List G}(h:kd=5):dN (k+1) kd i sc t ns ks= [(kd%256).toNat]++aK (i%18446744073709551616).toNat:=by simp [dN,IC,h]
def nF(k:Nat){kd i sc:Int}{t:List Nat}{ns ks:List G}(h:kd=6∨kd=7):dN (k+1) kd i sc t ns ks= [(kd%256).toNat]++(aK t.length++t):=by rcases h with h|h <;> simp [dN,IC,h]
def sE(k:Nat){kd i sc:Int}{t:List Nat}{ns ks:List G}(h:kd=8∨kd=9):dN (k+1) kd i sc t ns ks= [(kd%256).toNat]++(aK ks.length++tD (jQ k) kd ns ks 0):=by rcases h with h|h <;> simp [dN,IC,h]
def sG(k:Nat){kd i sc:Int}{t:List Nat}{ns ks:List G}(h:kd<2∨9<kd):dN (k+1) kd i sc t ns ks= [(kd%256).toNat]:=by show _::IC _ _ _ _ _ _ _=_;unfold IC;rw[if_neg (by omega),if_neg (by omega),if_neg (by omega),if_neg (by omega),if_neg (by omega),if_neg (by omega)]
def X9(w:G->Nat)(ks:List G):Nat->Int->Nat
 |0,_=>0
 |n+1,i=>50+w (aq ks i.toNat)+X9 w ks n (i+1)
def qw(w:G->Nat)(ks:List G)(i:Int):Nat:=X9 w ks ((ks.length:Int)-i).toNat i
def At{w:G->Nat}{ks:List G}{i:Int}(h:i<ks.length):qw w ks i=50+w (aq ks i.toNat)+qw w ks (i+1):=by unfold qw;rw[show((ks.length:Int)-i).toNat=((ks.length:Int)-(i+1)).toNat+1 by omega];rfl
def jV:Nat->G->Nat
 |0,_=>0
 |k+1,g=>24+(gS (aa g 3)).length+qw (jV k) (gL (aa g 5)) 0
def ym(k:Nat)(t:List Nat)(ks:List G):Nat:=match k with
 |0=>0
 |k+1=>24+t.length+qw (jV k) ks 0
def oV(k:Nat)(g:G):ym k (gS (aa g 3)) (gL (aa g 5))=jV k g:=by cases k <;> rfl
def Au(k:Nat)(t:List Nat)(ks:List G):ym (k+1) t ks=24+t.length+qw (jV k) ks 0:=rfl
def Mn:Nat->G->Prop
 |0,_=>True
 |k+1,g=>((-9223372036854775808<=gI (aa g 1)/\gI (aa g 1)<9223372036854775808)/\(gS (aa g 3)).length<=1000000/\(gL (aa g 4)).length<=1000000/\(gL (aa g 5)).length<=1000000)/\∀x∈gL (aa g 5),Mn k x
def ID(k:Nat)(ks:List G):Prop:=∀x∈ks,Mn k x
def tE(k:Nat)(i:Int)(t:List Nat)(ns ks:List G):Prop:=match k with
 |0=>True
 |k+1=>((-9223372036854775808<=i/\i<9223372036854775808)/\t.length<=1000000/\ns.length<=1000000/\ks.length<=1000000)/\ID k ks
def mq(k:Nat)(g:G):tE k (gI (aa g 1)) (gS (aa g 3)) (gL (aa g 4)) (gL (aa g 5))=Mn k g:=by cases k <;> rfl
def Q5{k:Nat}{i:Int}{t:List Nat}{ns ks:List G}(h:tE (k+1) i t ns ks):(-9223372036854775808<=i/\i<9223372036854775808)/\t.length<=1000000/\ns.length<=1000000/\ks.length<=1000000:=h.1
def Mo{k:Nat}{i:Int}{t:List Nat}{ns ks:List G}(h:tE (k+1) i t ns ks):ID k ks:=h.2
def nG{k:Nat}{ks:List G}{i:Int}(h:ID k ks)(h0:0<=i)(hi:i<ks.length):Mn k (aq ks i.toNat):=h _ (dn h0 hi)
def Fg{k:Nat}{g:G}(h:IB (k+1) g=0):oT (gI (aa g 0)) (gI (aa g 1)) (gI (aa g 2)) (gS (aa g 3)) (gL (aa g 4)) (gL (aa g 5))=0/\eE k (gL (aa g 5)) 0=0:=by
 rw[←gq] at h;by_cases e:oT (gI (aa g 0)) (gI (aa g 1)) (gI (aa g 2)) (gS (aa g 3)) (gL (aa g 4)) (gL (aa g 5))=0
 ·rw[sz e] at h;exact⟨e,h⟩
 ·rw[qs e] at h;exact absurd h e
def w_{v:Int}(h: -9223372036854775808<=v/\v<9223372036854775808):0<=pL v/\pL v<18446744073709551616:=by unfold pL;split <;> omega
def Fh{k:Nat}(ih:∀g,IB k g=0->Mn k g->(jQ k g).length<=jV k g){kd:Int}{ns ks:List G}(hk:eE k ks 0=0)(hv:ID k ks)(hn:kd=9->gp ns ks.length):∀(n:Nat) (i:Int),0<=i->i+n=ks.length->(V2 (jQ k) kd ns ks n i).length<=X9 (jV k) ks n i
 |0,_,_,_=>aao _
 |n+1,i,h0,hi=>by
  have h1:=Fh ih hk hv hn n (i+1) (by omega) (by omega);have h2:=ih _ (wY hk h0 (by omega)) (nG hv h0 (by omega));have h3:(if kd=9 then aK (uX ns i).length++uX ns i else []).length<=50:=by
   split
   ·rename_i e;have:=wX (hn e) h0 (n:=i) (by omega);rw[aav];have:=wR 1 (uX ns i).length (by omega) (by decide);omega
   ·simp
  show((if kd=9 then aK (uX ns i).length++uX ns i else [])++(jQ k (aq ks i.toNat)++V2 (jQ k) kd ns ks n (i+1))).length<=50+jV k (aq ks i.toNat)+X9 (jV k) ks n (i+1);rw[aav,aav];omega
def nI:∀(k:Nat) (g:G),IB k g=0->Mn k g->(jQ k g).length<=jV k g
 |0,_,_,_=>aao _
 |k+1,g,h,hv=>by
  obtain⟨hs,h⟩:=Fg h;obtain⟨h1,h2,h3,h4⟩:=nE hs;have u10:∀n:Nat,n<18446744073709551616->(aK n).length<=10:=λn hn=>wR 10 n (abh hn (by decide)) (by decide);have hz:∀i:Int,0<=(i%18446744073709551616)/\(i%18446744073709551616).toNat<18446744073709551616:=λi=>by omega
  have hf:(tD (jQ k) (gI (aa g 0)) (gL (aa g 4)) (gL (aa g 5)) 0).length<=qw (jV k) (gL (aa g 5)) 0:=
   Fh (nI k) h hv.2 (λe=>by have:=(h4 e).1;rw[(h4 e).2] at this;exact this) _ 0 (by decide) (by omega)
  show((gI (aa g 0)%256).toNat::IC (jQ k) (gI (aa g 0)) (gI (aa g 1)) (gI (aa g 2)) (gS (aa g 3)) (gL (aa g 4)) (gL (aa g 5))).length<=24+(gS (aa g 3)).length+qw (jV k) (gL (aa g 5)) 0;rw[aaI];have at7:(aK (pL (gI (aa g 1))).toNat).length<=10:=u10 _ (by have:=w_ hv.1.1;omega);have:(IC (jQ k) (gI (aa g 0)) (gI (aa g 1)) (gI (aa g 2)) (gS (aa g 3)) (gL (aa g 4)) (gL (aa g 5))).length<=23+(gS (aa g 3)).length+qw (jV k) (gL (aa g 5)) 0:=by
   unfold IC;split
   ·simp;omega
   ·split
    ·omega
    ·split
     ·rw[aav];simp;omega
     ·split
      ·have:=u10 _ (hz (gI (aa g 1))).2;omega
      ·split
       ·rw[aav];have:=u10 (gS (aa g 3)).length (by omega);omega
       ·split
        ·rw[aav];have:=u10 (gL (aa g 5)).length (by omega);omega
        ·simp
  omega
def V3:Nat->G->Nat
 |0,_=>0
 |k+1,g=>1+(gS (aa g 3)).length+((gL (aa g 5)).map (V3 k)).sum
def uY(k:Nat)(ks:List G)(i:Int):Nat:=((ks.drop i.toNat).map (V3 k)).sum
def Q6(k:Nat)(t:List Nat)(ks:List G):Nat:=match k with
 |0=>0
 |k+1=>1+t.length+uY k ks 0
def Mp(k:Nat)(t:List Nat)(ks:List G):Q6 (k+1) t ks=1+t.length+uY k ks 0:=rfl
def CJ(k:Nat)(g:G):Q6 k (gS (aa g 3)) (gL (aa g 5))=V3 k g:=by cases k <;> rfl
def Av{k:Nat}{ks:List G}{i:Int}(h0:0<=i)(h:i<ks.length):uY k ks i=V3 k (aq ks i.toNat)+uY k ks (i+1):=by unfold uY;rw[eH h0 h,aaP,abw]
def xa{k:Nat}{ks:List G}{i:Int}(h:(ks.length:Int)<=i):uY k ks i=0:=by unfold uY;rw[aa2 (by omega)];rfl
def Mq{k:Nat}(ih:∀g,IB k g=0->V3 k g<=(jQ k g).length){kd:Int}{ns ks:List G}(hk:eE k ks 0=0):∀(n:Nat) (i:Int),0<=i->i+n=ks.length->uY k ks i<=(V2 (jQ k) kd ns ks n i).length
 |0,i,h0,h=>by rw[xa (by omega)];exact aaD _
 |n+1,i,h0,hi=>by have h1:=Mq ih hk (kd:=kd) (ns:=ns) n (i+1) (by omega) (by omega);have h2:=ih _ (wY hk h0 (by omega));rw[Av h0 (by omega)];show _<=((if kd=9 then aK (uX ns i).length++uX ns i else [])++(jQ k (aq ks i.toNat)++V2 (jQ k) kd ns ks n (i+1))).length;rw[aav,aav];omega
def Mr:∀(k:Nat) (g:G),IB k g=0->V3 k g<=(jQ k g).length
 |0,_,_=>aaD _
 |k+1,g,h=>by
  obtain⟨hs,h⟩:=Fg h;obtain⟨h1,h2,h3,h4⟩:=nE hs;rw[←oU, ←CJ];have hp:=Mq (Mr k) (kd:=gI (aa g 0)) (ns:=gL (aa g 4)) h (((gL (aa g 5)).length:Int)-0).toNat 0 (by decide) (by omega);have hk8:∀n:Nat,1<=(aK n).length:=λn=>by rw[aK];split <;> simp
  show 1+_+uY k _ 0<=_;have hd:gI (aa g 0)=1∨gI (aa g 0)=2∨gI (aa g 0)=3∨gI (aa g 0)=4∨gI (aa g 0)=5∨gI (aa g 0)=6∨gI (aa g 0)=7∨gI (aa g 0)=8∨gI (aa g 0)=9:=by
   by_cases e:gI (aa g 0)<1∨9<gI (aa g 0)
   ·exact absurd h1 (Ml e)
   ·omega
  have e0:(gL (aa g 5)).length=0->uY k (gL (aa g 5)) 0=0:=λe=>xa (by omega);have hl:(gI (aa g 0)=8∨gI (aa g 0)=9)->gS (aa g 3)= []->1+(gS (aa g 3)).length+uY k (gL (aa g 5)) 0<=(dN (k+1) (gI (aa g 0)) (gI (aa g 1)) (gI (aa g 2)) (gS (aa g 3)) (gL (aa g 4)) (gL (aa g 5))).length:=λe ht=>by rw[sE k e,ht];have:=hk8 (gL (aa g 5)).length;simp only [aav,aaI,List.length_nil];show 1+0+_<=0+1+(_+(V2 (jQ k) _ _ _ _ 0).length);omega
  rcases hd with e|e|e|e|e|e|e|e|e
  ·have v:=(E9 e).1 h1;rw[sG k (by omega),v.2.2.2.2,e0 v.2.2.2.1];simp
  ·have v:=(E_ e).1 h1;rw[sC k e,v.2.2.2.2,e0 v.2.2.2.1];simp
  ·have v:=(Am e).1 h1;rw[qu k e,v.2.2.2,e0 v.2.2.1];simp
  ·have v:=(Fa e).1 h1;rw[wZ k e,v.2.2.2.2,e0 v.2.2.2.1];simp
  ·have v:=(Mj e).1 h1;rw[sD k e,v.2.2.2.2,e0 v.2.2.2.1];simp
  ·have v:=(Fb e).1 h1;rw[nF k (.inl e),e0 v.2.2.2];simp;omega
  ·have v:=(Fc e).1 h1;rw[nF k (.inr e),e0 v.2.2.2];simp;omega
  ·have v:=(Fd e).1 h1;exact hl (.inl e) v.2.2.2
  ·have v:=(Mk e).1 h1;exact hl (.inr e) v.2.2
def va:List Sh:=[.i .i64 1,.i .i64 2,.i .i64 3,.s 4,.v 1 5,.v 2 6]
def vp(p:Sy):List Sh:=[.pi .i64 (p.i 1),.pi .i64 (p.i 2),.pi .i64 (p.i 3),.ps (p.s 4),.pv 1 (p.g 5),.pv 2 (p.g 6)]
abbrev shZ(z:Sy):Int:=oT (z.i 1) (z.i 2) (z.i 3) (z.s 4) (z.g 5) (z.g 6)
abbrev uZ(k:Nat)(z:Sy):Int:=eG k (z.i 1) (z.i 2) (z.i 3) (z.s 4) (z.g 5) (z.g 6)
abbrev xb(k:Nat)(z:Sy):Prop:=tE k (z.i 2) (z.s 4) (z.g 5) (z.g 6)
abbrev Ms(k:Nat)(z:Sy):List Nat:=dN k (z.i 1) (z.i 2) (z.i 3) (z.s 4) (z.g 5) (z.g 6)
def sH(p:Sy):LSpec:=⟨[(1,.c (.p 0)),(6,.c (.pv 1 (p.g 5))),(7,.c (.pi .i64 (p.g 5).length)),(8,.c (.i .i64 9))],[.cells 51 (vp p)],λz=>(p.g 5).length<=1000000/\(0<=z.i 9/\z.i 9<=(p.g 5).length)/\gp (p.g 5) (z.i 9),λz=>((p.g 5).length-z.i 9).toNat,[⟨.exit 0,[(1,.c (.p 0))],[.cells 51 (vp p)]⟩,⟨.ret,[(2,.c (.b 10))],[.cells 51 (vp p)]⟩],λz y=>(y.i 999=0->gp (p.g 5) (p.g 5).length)/\(¬y.i 999=0->¬y.p 10/\¬gp (p.g 5) (p.g 5).length),none,[]⟩
def Aw:FSpec:=⟨[.ag va],[],λz=>(z.g 5).length<=1000000,λ_=>.one (.c (.b 10)),λ_=>[],λz y=>y.p 10↔oS (z.g 5) (z.g 6),none⟩
def Fi:FSpec:=⟨[.ag va],[],λz=>(z.s 4).length<=1000000/\(z.g 5).length<=1000000/\(z.g 6).length<=1000000,λ_=>.one (.c (.i .i64 10)),λ_=>[],λz y=>y.i 10=shZ z,none⟩
def u_(k:Nat)(p:Sy):LSpec:=⟨[(1,.c (.pi .i64 (p.i 7))),(17,.c (.pv 2 (p.g 6))),(18,.c (.pi .i64 (p.g 6).length)),(19,.c (.i .i64 9))],[],λz=>p.i 7=16-(k:Int)/\k<=15/\ID k (p.g 6)/\(p.g 6).length<=1000000/\(0<=z.i 9/\z.i 9<=(p.g 6).length)/\eE k (p.g 6) 0=eE k (p.g 6) (z.i 9),λz=>((p.g 6).length-z.i 9).toNat,[⟨.exit 0,[],[]⟩,⟨.ret,[(4,.c (.i .i64 10))],[]⟩],λz y=>(y.i 999=0->eE k (p.g 6) 0=0)/\(¬y.i 999=0->y.i 10=eE k (p.g 6) 0),none,[]⟩
def fT(k:Nat):FSpec:=⟨[.ag va,.c (.i .i64 7)],[],λz=>z.i 7=17-(k:Int)/\k<=16/\xb k z,λ_=>.one (.c (.i .i64 10)),λ_=>[],λz y=>y.i 10=uZ k z,none⟩
def qx:FSpec:=⟨[.ag va],[],λz=>xb 16 z,λ_=>.one (.c (.i .i64 10)),λ_=>[],λz y=>y.i 10=uZ 16 z,none⟩
def vg(p:Sy):LSpec:=⟨[(0,.ag (vp p)),(2,.c (.p 0)),(1,.c (.pi .i64 (p.i 7))),(7,.c (.i .i64 9))],[.cells 51 (vp p)],λz=>(p.g 5).length<=1000000/\(0<=z.i 9/\z.i 9<=(p.g 5).length)/\gp (p.g 5) (z.i 9),λz=>((p.g 5).length-z.i 9).toNat,[⟨.exit 1,[(0,.ag (vp p)),(1,.c (.pi .i64 (p.i 7))),(2,.c (.p 0))],[.cells 51 (vp p)]⟩,⟨.ret,[(4,.c (.i .i64 10))],[.cells 51 (vp p)]⟩],λz y=>(y.i 999=0->gp (p.g 5) (p.g 5).length)/\(¬y.i 999=0->y.i 10=3/\¬gp (p.g 5) (p.g 5).length),none,[]⟩
def vh(k:Nat)(p:Sy):LSpec:=⟨[(1,.c (.pi .i64 (p.i 7))),(2,.c (.p 0)),(8,.c (.i .i64 9))],[.cells 51 (vp p)],λz=>p.i 7=16-(k:Int)/\k<=15/\ID k (p.g 6)/\(p.g 6).length<=1000000/\(0<=z.i 9/\z.i 9<=(p.g 6).length)/\eE k (p.g 6) 0=eE k (p.g 6) (z.i 9),λz=>((p.g 6).length-z.i 9).toNat,[⟨.exit 3,[],[.cells 51 (vp p)]⟩,⟨.ret,[(4,.c (.i .i64 10))],[.cells 51 (vp p)]⟩],λz y=>(y.i 999=0->eE k (p.g 6) 0=0)/\(¬y.i 999=0->y.i 10=eE k (p.g 6) 0),none,[]⟩
abbrev xc:=fT
abbrev Fj:=qx
def V4:FSpec:=⟨[.c (.i .i64 1)],[],λz=>-9223372036854775808<=z.i 1/\z.i 1<9223372036854775808,λz=>.one (.c (.pi .u64 (pL (z.i 1)))),λ_=>[],λz y=>True,none⟩
abbrev T6:=V4
def T7:FSpec:=⟨[.c (.i .u64 1),.c (.p 0)],[.cells 102 [.gb 1 20],.growb 5 20],λz=>(0<=z.i 1/\z.i 1<18446744073709551616)/\(z.s 20).length<=900000000,λ_=>.tu [],λ_=>[.cells 102 [.gb 1 20],.growb 5 20],λz y=>y.s 20=z.s 20++aK (z.i 1).toNat,none⟩
def V5(p:Sy):List BSh:=[.cells 102 [.gb 1 20],.growb 5 20,.cells 51 (vp p)]
abbrev Kds(k:Nat)(p:Sy):Prop:=(p.i 1=9->gp (p.g 5) (p.g 6).length/\(p.g 5).length=(p.g 6).length)/\eE k (p.g 6) 0=0/\ID k (p.g 6)/\(p.g 6).length<=200
def Mt(k:Nat)(p:Sy):LSpec:=⟨[(2,.c (.p 0)),(3,.c (.p 2)),(5,.c (.fn 257 0)),(75,.c (.pv 2 (p.g 6))),(76,.c (.pi .i64 (p.g 6).length)),(77,.c (.i .i64 9))],V5 p,λz=>Kds k p/\(0<=z.i 9/\z.i 9<=(p.g 6).length)/\(z.s 20).length+qw (jV k) (p.g 6) (z.i 9)<=100000000,λz=>((p.g 6).length-z.i 9).toNat,[⟨.exit 1,[(2,.c (.p 0))],V5 p⟩],λz y=>y.s 20=z.s 20++tD (jQ k) (p.i 1) (p.g 5) (p.g 6) (z.i 9),none,[]⟩
def Mu(k:Nat):FSpec:=⟨[.c (.gb 0 20),.ag va],[.growb 5 20],λz=>uZ k z=0/\xb k z/\(z.s 20).length+ym k (z.s 4) (z.g 6)<=100000000,λ_=>.one (.c (.gb 0 20)),λ_=>[.growb 5 20],λz y=>y.s 20=z.s 20++Ms k z,none⟩
def Ax(k:Nat)(p:Sy):LSpec:=⟨[(0,.c (.gb 1 20)),(3,.c (.p 0)),(5,.c (.i .i64 9))],[.cells 51 (vp p),.growb 5 20],λz=>Kds k p/\(0<=z.i 9/\z.i 9<=(p.g 6).length)/\(z.s 20).length+qw (jV k) (p.g 6) (z.i 9)<=100000000,λz=>((p.g 6).length-z.i 9).toNat,[⟨.exit 1,[(0,.c (.gb 1 20))],[.cells 51 (vp p),.growb 5 20]⟩],λz y=>y.s 20=z.s 20++tD (jQ k) (p.i 1) (p.g 5) (p.g 6) (z.i 9),none,[]⟩
abbrev CK:=Mu
def T8:FSpec:=⟨[.c (.gb 0 20),.c (.s 2)],[.growb 5 20],λz=>(z.s 2).length<=100000/\(z.s 20).length<=200000000,λ_=>.one (.c (.gb 0 20)),λ_=>[.growb 5 20],λz y=>y.s 20=z.s 20++(aK (z.s 2).length++z.s 2),none⟩
def gU(kd i sc:Int)(t:List Nat)(ns ks:List G):Int:=if eG 16 kd i sc t ns ks=0 then(if 65536<(dN 16 kd i sc t ns ks).length then 5 else 0) else eG 16 kd i sc t ns ks
section
variable{kd i sc:Int}{t:List Nat}{ns ks:List G}
def Fk(h:¬eG 16 kd i sc t ns ks=0):gU kd i sc t ns ks=eG 16 kd i sc t ns ks:=if_neg h
def Ay(h:eG 16 kd i sc t ns ks=0)(h1:65536<(dN 16 kd i sc t ns ks).length):gU kd i sc t ns ks=5:=by unfold gU;rw[if_pos h,if_pos h1]
def CL(h:eG 16 kd i sc t ns ks=0)(h1:¬65536<(dN 16 kd i sc t ns ks).length):gU kd i sc t ns ks=0:=by unfold gU;rw[if_pos h,if_neg h1]
def xd(h:gU kd i sc t ns ks=0):eG 16 kd i sc t ns ks=0/\(dN 16 kd i sc t ns ks).length<=65536:=by
 unfold gU at h;split at h
 ·rename_i h1;split at h
  ·cases h
  ·exact⟨h1,by omega⟩
 ·rename_i h1;exact absurd h h1
end
abbrev T9(z:Sy):Int:=gU (z.i 1) (z.i 2) (z.i 3) (z.s 4) (z.g 5) (z.g 6)
abbrev X_(z:Sy):Prop:=xb 16 z/\ym 16 (z.s 4) (z.g 6)<=10000000
def qy:FSpec:=⟨[.ag va],[],X_,λ_=>.tu [.c (.vb 10),.c (.i .i64 11)],λ_=>[],λz y=>y.i 11=T9 z/\(T9 z=0->y.s 10=Ms 16 z/\(Ms 16 z).length<=65536)/\(¬T9 z=0->y.s 10= []),none⟩
abbrev Az:=qy
def CM(kd i sc:Int)(t:List Nat)(ns ks:List G):G:=if gU kd i sc t ns ks=0 then bN (dN 16 kd i sc t ns ks) else hZ
def Mv{kd i sc:Int}{t:List Nat}{ns ks:List G}(h:gU kd i sc t ns ks=0):CM kd i sc t ns ks=bN (dN 16 kd i sc t ns ks):=if_pos h
def Fl{kd i sc:Int}{t:List Nat}{ns ks:List G}(h:¬gU kd i sc t ns ks=0):CM kd i sc t ns ks=hZ:=if_neg h
abbrev ehY(z:Sy):G:=CM (z.i 1) (z.i 2) (z.i 3) (z.s 4) (z.g 5) (z.g 6)
def Fo:FSpec:=⟨[.ag va],[],X_,λ_=>.tu [.ag (hs 300),.c (.i .i64 11)],λ_=>[],λz y=>y.i 11=T9 z/\hT y 300=ehY z,none⟩
abbrev Mw:=Fo
def AA(k:Nat)(p:Sy):LSpec:=⟨[(1,.c (.p 1)),(2,.c (.p 0)),(5,.c (.i .i64 9))],[.cells 51 (vp p),.cells 3 [.i .i64 7]],λz=>eE k (p.g 6) 0=0/\(p.g 6).length<=200/\(0<=z.i 9/\z.i 9<=(p.g 6).length)/\(0<=z.i 7/\z.i 7<=2000000)/\(z.i 7<=65536->p.i 7+uY k (p.g 6) 0=z.i 7+uY k (p.g 6) (z.i 9))/\(65536<z.i 7->65536<p.i 7+uY k (p.g 6) 0),λz=>((p.g 6).length-z.i 9).toNat,[⟨.exit 0,[(1,.c (.p 1))],[.cells 51 (vp p),.cells 3 [.i .i64 7]]⟩],λz y=>(0<=y.i 7/\y.i 7<=2000000)/\(y.i 7<=65536->p.i 7+uY k (p.g 6) 0=y.i 7)/\(65536<y.i 7->65536<p.i 7+uY k (p.g 6) 0),none,[]⟩
def CN(k:Nat):FSpec:=⟨[.ag va,.c (.p 0)],[.cells 3 [.i .i64 7]],λz=>uZ k z=0/\0<=z.i 7/\z.i 7<=65536,λ_=>.one (.c (.b 10)),λ_=>[.cells 3 [.i .i64 7]],λz y=>(0<=y.i 7/\y.i 7<=2000000)/\(y.i 7<=65536->z.i 7+Q6 k (z.s 4) (z.g 6)=y.i 7)/\(65536<y.i 7->65536<z.i 7+Q6 k (z.s 4) (z.g 6))/\(y.p 10↔65536<y.i 7),none⟩
attribute [irreducible] gp oT yl eE eG IB tD dN jQ qw ym jV tE Mn ID uY Q6 V3 gU CM
end
abbrev cI(a:Int):=a=a
abbrev dE(a:Int)(b:List G):=0<=a+1/\a+1<= ↑b.length
abbrev cg(a:Int)(b:List G):=0<=a/\a < ↑b.length
abbrev CO(a b:List G)(c:List Nat)(d e f:Int):=a=a/\b=b/\c=c/\d=d/\e=e/\f=f/\True
abbrev bR(a:Int)(b:List G):=a < ↑b.length
abbrev T_(a:Prop)(b c:Int)(d:List G)(e:Int):=a/\b.toNat<c.toNat/\∀(y:Sy),(y.i 999=0->gp d e)/\(¬y.i 999=0->¬y.p 10/\¬gp d e)->(y.i 999=0->gp d e)/\(¬y.i 999=0->¬y.p 10/\¬gp d e)
def AB:bM 307 0 sH:=bL 14 2234645 eN lN λp z hA=>show Fm.den (let v0:=(↑(p.g 5).length:Int);let v1:=(CO (p.g 6) (p.g 5) (p.s 4) (p.i 3) (p.i 2) (p.i 1));let v2:=(((1:Int)=0->gp (p.g 5) v0)/\(¬(1:Int)=0->¬false=true/\¬gp (p.g 5) v0));let v3:=(p.g 6=p.g 6/\p.g 5=p.g 5/\p.s 4=p.s 4/\p.i 3=p.i 3/\p.i 2=p.i 2/\p.i 1=p.i 1/\v0=v0/\p.g 5=p.g 5/\True);let v4:=((p.g 5).length<=1000000/\(dE (z.i 9) (p.g 5))/\gp (p.g 5) (z.i 9+1));let v5:=(gS (aT (aM (p.g 5) (z.i 9))));let v6:=((-9223372036854775808)<=z.i 9+1/\z.i 9+1<=9223372036854775807);(.two (bR (z.i 9) (p.g 5)) (.an (cg (z.i 9) (p.g 5)) (.two ((1:Int)<=(↑v5.length:Int)) (.two (¬(↑v5.length:Int)<=(40:Int)) (.an v1 (.at v2)) (.two (0<z.i 9) (.an ((-9223372036854775808)<=z.i 9-1/\z.i 9-1<=9223372036854775807) (.an (0<=z.i 9-1/\z.i 9-1 < ↑(p.g 5).length) (.two (mB (gS (aT (aM (p.g 5) (z.i 9-1)))) v5=false) (.an v1 (.at v2)) (.an v6 (.an v3 (.at (T_ v4 (v0-(z.i 9+1)) (v0-z.i 9) (p.g 5) v0))))))) (.an v6 (.an v3 (.at (T_ v4 (v0-(z.i 9+1)) (v0-z.i 9) (p.g 5) v0)))))) (.an v1 (.at v2)))) (.an v1 (.at (((0:Int)=0->gp (p.g 5) v0)/\(¬(0:Int)=0->¬(aP (((((((PS.mk [(999,Tm.i (Int.ofNat (nat_lit 0)))] ((0,(bO 0).fst,0)::jN.loc) jN.ln jN.pr jN.fz).and (cI (p.i 1))).and (cI (p.i 2))).and (cI (p.i 3))).and (p.s 4=p.s 4)).and (p.g 5=p.g 5)).and (p.g 6=p.g 6)).tm).p 10/\¬gp (p.g 5) v0)))))) by
 dsimp only [sH,vp] at hA;have e1:=@E8 (p.g 5) (z.i 9) (p.g 5).length;have e2:=@Al (p.g 5) (z.i 9);dsimp only [Mh,uX] at e1 e2;conv=>zeta
 repeat' with_reducible first|intro _|apply ci|apply cm|apply cj|apply cD|apply cA
 all_goals first|omega|grind [ao,ak,aj,Mi]
abbrev fE(a:Int):=(0:Int)<=0/\0<=a
def IE:bq 307 Aw:=bC 3 1 eN (aG (ptm:=[(0,.ag va)]) AB lN) λz hA=>show Fm.den (let v0:=(↑(z.g 5).length:Int);(.cl ((z.g 6=z.g 6/\z.g 5=z.g 5/\z.s 4=z.s 4/\z.i 3=z.i 3/\z.i 2=z.i 2/\z.i 1=z.i 1/\v0=v0/\z.g 5=z.g 5/\True)) ((z.g 5).length<=1000000/\(fE v0)/\gp (z.g 5) 0) (λy0=>(y0.i 999=0->gp (z.g 5) v0)/\(¬y0.i 999=0->¬y0.p 10/\¬gp (z.g 5) v0)) λy0=>(.two (y0.i 999=0) (.ax (v0=(↑(z.g 6).length:Int)↔oS (z.g 5) (z.g 6))) (.ax (y0.p 10↔oS (z.g 5) (z.g 6)))))) by
 dsimp only [Aw,va] at hA;conv=>zeta
 repeat' with_reducible first|intro _|apply ci|apply cm|apply cj|apply cD|apply cA
 all_goals first|omega|grind [ao,ak,aj,Ak,oS]
def hv0(z:Sy):=@Ml (z.i 1) (z.i 2) (z.i 3) (z.s 4) (z.g 5) (z.g 6)
def PO(z:Sy):=@Mj (z.i 1) (z.i 2) (z.i 3) (z.s 4) (z.g 5) (z.g 6)
def Mx:bq 294 Fi:=bC 276 245767243367362692129139271385821503728016604324543854543610501625845425621207670256678298420598998860157320293601534641743472979889381497667939026292410524678210901 (ai IE eN) lN λz hA=>show Fm.den (let v0:=((3:Int)=oT (z.i 1) (z.i 2) (z.i 3) (z.s 4) (z.g 5) (z.g 6));let v1:=((0:Int)=oT (z.i 1) (z.i 2) (z.i 3) (z.s 4) (z.g 5) (z.g 6));let v2:=(↑(z.g 6).length:Int);let v3:=(16384<(↑(z.s 4).length:Int));let v4:=((5:Int)=oT (z.i 1) (z.i 2) (z.i 3) (z.s 4) (z.g 5) (z.g 6));let v5:=(z.i 3=0);let v7:=(¬z.s 4= []);let v8:=(¬(200<v2));let v9:=(0<=z.i 2/\(0:Int)<10);let v10:=((↑(z.g 5).length:Int)=0);let v11:=(z.i 2<=9007199254740992);let d5:=(z.i 1=6);let g7:=((10:Int)≠0);let i4:=(z.i 2%10≠0);let j7:=(z.i 1=9);let v6:=(¬j7);let r9:=(z.i 2/2=0);let p9:=(z.i 3<=18);let p5:=(1<=z.i 3);let q9:=(0<=z.i 2);(.two (z.i 2=0) (.two v10 (.two (z.i 1=1) (.two v5 (.two (v2=0) (.two v7 (.ax v0) (.an (¬v3) (.an v8 (.an v6 (.ax v1))))) (.ax v0)) (.ax v0)) (.two (z.i 1=2) (.an r9 (.two v5 (.two (v2=0) (.two v7 (.ax v0) (.an (¬v3) (.an v8 (.an v6 (.ax v1))))) (.ax v0)) (.ax v0))) (.two (z.i 1=3) (.two v5 (.two (v2=0) (.two v7 (.ax v0) (.an (¬v3) (.an v8 (.an v6 (.ax v1))))) (.ax v0)) (.ax v0)) (.two (z.i 1=4) (.two p5 (.two p9 (.an g7 (.an v9 (.an (¬i4) (.ax v0)))) (.ax v0)) (.ax v0)) (.two (z.i 1=5) (.an q9 (.an v11 (.two v5 (.two (v2=0) (.two v7 (.ax v0) (.an (¬v3) (.an v8 (.an v6 (.ax v1))))) (.ax v0)) (.ax v0)))) (.two d5 (.an d5 (.two v5 (.two (¬v2=0) (.ax v0) (.two v3 (.ax v4) (.an v8 (.an v6 (.ax v1))))) (.ax v0))) (.two (z.i 1=7) (.two v5 (.two (¬v2=0) (.ax v0) (.two v3 (.ax v4) (.an v8 (.an v6 (.ax v1))))) (.ax v0)) (.two (z.i 1=8) (.two v5 (.an v10 (.two v7 (.ax v0) (.an (¬v3) (.two (200<v2) (.ax v4) (.an v6 (.ax v1)))))) (.ax v0)) (.two j7 (.two v5 (.two v7 (.ax v0) (.an (¬v3) (.two (200<v2) (.ax v4) (.an j7 (.ct ((z.g 5).length<=1000000) (λy0=>(y0.p 10↔oS (z.g 5) (z.g 6))) λy0=>(.two (¬y0.p 10) (.ax v0) (.ax v1))))))) (.ax v0)) (.ax v0)))))))))) (.two (z.i 1=1) (.two v5 (.ax v0) (.ax v0)) (.two (z.i 1=2) (.an r9 (.two v5 (.ax v0) (.ax v0))) (.two (z.i 1=3) (.two v5 (.ax v0) (.ax v0)) (.two (z.i 1=4) (.two p5 (.two p9 (.an g7 (.an v9 (.an (¬i4) (.ax v0)))) (.ax v0)) (.ax v0)) (.two (z.i 1=5) (.an q9 (.an v11 (.two v5 (.ax v0) (.ax v0)))) (.two d5 (.an d5 (.two v5 (.ax v0) (.ax v0))) (.two (z.i 1=7) (.two v5 (.ax v0) (.ax v0)) (.two (z.i 1=8) (.two v5 (.an (¬v10) (.ax v0)) (.ax v0)) (.two j7 (.two v5 (.two v7 (.ax v0) (.an (¬v3) (.two (200<v2) (.ax v4) (.an j7 (.ct ((z.g 5).length<=1000000) (λy1=>(y1.p 10↔oS (z.g 5) (z.g 6))) λy1=>(.two (¬y1.p 10) (.ax v0) (.ax v1))))))) (.ax v0)) (.ax v0))))))))))) (.two v10 (.two (z.i 1=1) (.ax v0) (.two (z.i 1=2) (.two r9 (.two v5 (.two (v2=0) (.two v7 (.ax v0) (.an (¬v3) (.an v8 (.an v6 (.ax v1))))) (.ax v0)) (.ax v0)) (.ax v0)) (.two (z.i 1=3) (.two v5 (.two (v2=0) (.two v7 (.ax v0) (.an (¬v3) (.an v8 (.an v6 (.ax v1))))) (.ax v0)) (.ax v0)) (.two (z.i 1=4) (.two p5 (.two p9 (.an g7 (.two v9 (.two i4 (.two (v2=0) (.two v7 (.ax v0) (.an (¬v3) (.an v8 (.an v6 (.ax v1))))) (.ax v0)) (.ax v0)) (.two ((z.i 2).tmod 10≠0) (.two (v2=0) (.two v7 (.ax v0) (.an (¬v3) (.an v8 (.an v6 (.ax v1))))) (.ax v0)) (.ax v0)))) (.ax v0)) (.ax v0)) (.two (z.i 1=5) (.two q9 (.two v11 (.two v5 (.two (v2=0) (.two v7 (.ax v0) (.an (¬v3) (.an v8 (.an v6 (.ax v1))))) (.ax v0)) (.ax v0)) (.ax v0)) (.ax v0)) (.two d5 (.an d5 (.ax v0)) (.two (z.i 1=7) (.ax v0) (.two (z.i 1=8) (.ax v0) (.two j7 (.ax v0) (.ax v0)))))))))) (.two (z.i 1=1) (.ax v0) (.two (z.i 1=2) (.two r9 (.two v5 (.ax v0) (.ax v0)) (.ax v0)) (.two (z.i 1=3) (.two v5 (.ax v0) (.ax v0)) (.two (z.i 1=4) (.two p5 (.two p9 (.an g7 (.two v9 (.two i4 (.ax v0) (.ax v0)) (.two ((z.i 2).tmod 10≠0) (.ax v0) (.ax v0)))) (.ax v0)) (.ax v0)) (.two (z.i 1=5) (.two q9 (.two v11 (.two v5 (.ax v0) (.ax v0)) (.ax v0)) (.ax v0)) (.two d5 (.an d5 (.ax v0)) (.two (z.i 1=7) (.ax v0) (.two (z.i 1=8) (.ax v0) (.two j7 (.ax v0) (.ax v0))))))))))))) by dsimp only [Fi,va,shZ] at hA;have:=hv0 z;have:=@E9 (z.i 1) (z.i 2) (z.i 3) (z.s 4) (z.g 5) (z.g 6);have:=@E_ (z.i 1) (z.i 2) (z.i 3) (z.s 4) (z.g 5) (z.g 6);have:=@Am (z.i 1) (z.i 2) (z.i 3) (z.s 4) (z.g 5) (z.g 6);have:=@Fa (z.i 1) (z.i 2) (z.i 3) (z.s 4) (z.g 5) (z.g 6);have:=PO z;have:=@Fb (z.i 1) (z.i 2) (z.i 3) (z.s 4) (z.g 5) (z.g 6);have:=@Fc (z.i 1) (z.i 2) (z.i 3) (z.s 4) (z.g 5) (z.g 6);have:=@Fd (z.i 1) (z.i 2) (z.i 3) (z.s 4) (z.g 5) (z.g 6);have:=@Mk (z.i 1) (z.i 2) (z.i 3) (z.s 4) (z.g 5) (z.g 6);have:=@An (z.i 1) (z.i 2) (z.i 3) (z.s 4) (z.g 5) (z.g 6);have:=@Ao (z.i 1) (z.i 2) (z.i 3) (z.s 4) (z.g 5) (z.g 6);have:=@Ap (z.i 1) (z.i 2) (z.i 3) (z.s 4) (z.g 5) (z.g 6);have:=@CI (z.i 1) (z.i 2) (z.i 3) (z.s 4) (z.g 5) (z.g 6);have:=Y_ (z.i 2);exact jO
def IF:bq 256 (fT 0):=bC 2 2 eN lN λz hA=>show Fm.den ((.an (16<z.i 7) (.ax ((9:Int)=eG 0 (z.i 1) (z.i 2) (z.i 3) (z.s 4) (z.g 5) (z.g 6))))) by
 dsimp only [fT,va,xb,uZ] at hA;repeat' with_reducible first|intro _|apply ci|apply cm|apply cj|apply cD|apply cA
 all_goals first|omega|grind [ao,ak,aj,gt]
abbrev Ua(a:Prop)(b c:Int)(d:Nat)(e:List G):=a/\b.toNat<c.toNat/\∀(y:Sy),(y.i 999=0->eE d e 0=0)/\(¬y.i 999=0->y.i 10=eE d e 0)->(y.i 999=0->eE d e 0=0)/\(¬y.i 999=0->y.i 10=eE d e 0)
abbrev Ub(a:Int)(b:Nat)(c:Int)(d:List Nat)(e f:List G)(g h:Int):=Fm.ct (a+1=17 - ↑b/\b<=16/\tE b c d e f) (λy=>y.i 10=eG b g c h d e f)
def CP(k:Nat)(hvcheck:bq 256 (fT k)):bM 256 0 (u_ k):=bL 7 537 (ai hvcheck eN) lN λp z hA=>show Fm.den (let v0:=(aM (p.g 6) (z.i 9));let v1:=(↑(p.g 6).length:Int);(.two (bR (z.i 9) (p.g 6)) (.an (cg (z.i 9) (p.g 6)) (.an ((-9223372036854775808)<=p.i 7+1/\p.i 7+1<=9223372036854775807) (Ub (p.i 7) k (gI (aa v0 1)) (gS (aa v0 3)) (gL (aa v0 4)) (gL (aa v0 5)) (gI (aa v0 0)) (gI (aa v0 2)) λy0=>(.two (y0.i 10≠0) (.ax (((1:Int)=0->eE k (p.g 6) 0=0)/\(¬(1:Int)=0->y0.i 10=eE k (p.g 6) 0))) (.an ((-9223372036854775808)<=z.i 9+1/\z.i 9+1<=9223372036854775807) (.an (v1=v1/\p.g 6=p.g 6/\p.i 7=p.i 7/\True) (.at (Ua (p.i 7=16 - ↑k/\k<=15/\ID k (p.g 6)/\(p.g 6).length<=1000000/\(dE (z.i 9) (p.g 6))/\eE k (p.g 6) 0=eE k (p.g 6) (z.i 9+1)) (v1-(z.i 9+1)) (v1-z.i 9) k (p.g 6))))))))) (.ax (((0:Int)=0->eE k (p.g 6) 0=0)/\(¬(0:Int)=0->(aP (have __src:=jN;PS.mk [(999,Tm.i (Int.ofNat (nat_lit 0)))] __src.loc __src.ln __src.pr __src.fz).tm).i 10=eE k (p.g 6) 0))))) by dsimp only [u_] at hA;have:=@Aq k (p.g 6) (z.i 9);have:=@Fe k (p.g 6) (z.i 9);have:=@qt k (p.g 6) (z.i 9);have:=gq k (aq (p.g 6) (z.i 9).toNat);have:=@nG k (p.g 6) (z.i 9);have:=mq k (aq (p.g 6) (z.i 9).toNat);exact jO
def Ya(k:Nat)(z:Sy):=@Q5 k (z.i 2) (z.s 4) (z.g 5) (z.g 6)
def hv3(k:Nat)(z:Sy):=@Mo k (z.i 2) (z.s 4) (z.g 5) (z.g 6)
def vj:∀k,bq 256 (fT k)
 |0=>IF
 |k+1=>bC 6 71 (ai Mx eN) (aG (ptm:=[(0,.ag va),(1,.c (.i .i64 7))]) (CP k (vj k)) lN) λz hA=>show Fm.den (let v0:=(↑(z.g 6).length:Int);(.an (¬(16<z.i 7)) (.ct ((z.s 4).length<=1000000/\(z.g 5).length<=1000000/\(z.g 6).length<=1000000) (λy0=>y0.i 10=oT (z.i 1) (z.i 2) (z.i 3) (z.s 4) (z.g 5) (z.g 6)) λy0=>(.two (y0.i 10≠0) (.ax (y0.i 10=eG (k+1) (z.i 1) (z.i 2) (z.i 3) (z.s 4) (z.g 5) (z.g 6))) (.cl ((v0=v0/\z.g 6=z.g 6/\z.i 7=z.i 7/\True)) (z.i 7=16 - ↑k/\k<=15/\ID k (z.g 6)/\(z.g 6).length<=1000000/\(fE v0)/\eE k (z.g 6) 0=eE k (z.g 6) 0) (λy1=>(y1.i 999=0->eE k (z.g 6) 0=0)/\(¬y1.i 999=0->y1.i 10=eE k (z.g 6) 0)) λy1=>(.two (y1.i 999=0) (.ax ((0:Int)=eG (k+1) (z.i 1) (z.i 2) (z.i 3) (z.s 4) (z.g 5) (z.g 6))) (.ax (y1.i 10=eG (k+1) (z.i 1) (z.i 2) (z.i 3) (z.s 4) (z.g 5) (z.g 6))))))))) by
  dsimp only [fT,va,xb,uZ] at hA;have:=Ya k z;have:=hv3 k z;conv=>zeta
  repeat' with_reducible first|intro _|apply ci|apply cm|apply cj|apply cD|apply cA
  all_goals first|omega|grind [ao,ak,aj,qs,sz]
def My:bq 216 qx:=bC 1 0 (ai (vj 16) eN) lN λz hA=>show Fm.den ((.ct ((1:Int)=17-16/\16<=16/\tE 16 (z.i 2) (z.s 4) (z.g 5) (z.g 6)) (λy0=>y0.i 10=eG 16 (z.i 1) (z.i 2) (z.i 3) (z.s 4) (z.g 5) (z.g 6)) λy0=>(.ax (y0.i 10=eG 16 (z.i 1) (z.i 2) (z.i 3) (z.s 4) (z.g 5) (z.g 6))))) by dsimp only [qx,va,xb,uZ] at hA;exact jO
def V6:bq 172 T6:=bC 5 161 eN lN λz hA=>show Fm.den ((.two (0<=z.i 1) (.an ((2:Int) * (z.i 1%18446744073709551616)%18446744073709551616=pL (z.i 1)/\True) (.at (True))) (.an ((-9223372036854775808)<=z.i 1+1/\z.i 1+1<=9223372036854775807) (.an ((-9223372036854775808:Int)<=0-(z.i 1+1)/\(0:Int)-(z.i 1+1)<=9223372036854775807) (.an (((2:Int) * ((0-(z.i 1+1))%18446744073709551616)%18446744073709551616+1)%18446744073709551616=pL (z.i 1)/\True) (.at (True))))))) by dsimp only [T6,V4] at hA;have:=@Q3 (z.i 1);have:=@Q4 (z.i 1);exact jO
abbrev tF(a b:Int):=Fm.ct (0<=a%18446744073709551616/\a%18446744073709551616<18446744073709551616) (λy=>y.s 10=aK b.toNat)
abbrev CQ(a b:List Nat):=a.length=a.length/\a.length<=1000000000/\b.length<=1000000
abbrev Mz(a b c d:List Nat):=a.length=b.length+c.length/\b.length+c.length<=1000000000/\d.length<=1000000
def MA:bq 173 T8:=bC 1 0 (ai da eN) lN λz hA=>show Fm.den (let v0:=(↑(z.s 2).length:Int);(tF v0 (v0%18446744073709551616) λy0=>(.an (CQ (z.s 20) (y0.s 10)) (.an (Mz (z.s 20++y0.s 10) (z.s 20) (y0.s 10) (z.s 2)) (.an ((z.s 20++y0.s 10++z.s 2).length=(z.s 20).length+(y0.s 10).length+(z.s 2).length/\True) (.at (z.s 20++y0.s 10++z.s 2=z.s 20++(aK (z.s 2).length++z.s 2)))))))) by dsimp only [T8] at hA;have:=@cL (((z.s 2).length:Int)%18446744073709551616) (by omega);exact iO
abbrev Q7(a:List Nat)(b c:List G)(d:List Nat)(e f g:Int):=a.length=a.length/\b=b/\c=c/\d=d/\e=e/\f=f/\g=g/\True
abbrev Fp(a:Prop)(b c:Int)(d:List Nat)(e)(f:Int)(g h:List G)(i:Int)(j:List Nat)(k:Int):=a/\b.toNat<c.toNat/\∀(y:Sy),y.s 20=d++tD e f g h i->y.s 20=j++tD e f g h k
abbrev Fq(a:Prop)(b:Nat)(c:List G):=a/\eE b c 0=0/\ID b c/\c.length<=200
abbrev Fr(a:Nat)(b c d:Int)(e:List Nat)(f g:List G)(h:List Nat):=eG a b c d e f g=(0:Int)/\tE a c e f g/\h.length+ym a e g<=100000000
def Za(k:Nat)(p:Sy)(z:Sy):=@wY k (p.g 6) (z.i 9)
def hv5(p:Sy)(z:Sy):=@cL (((gS (aa (aq (p.g 5) (z.i 9).toNat) 0)).length:Int)%18446744073709551616) (by omega)
def IG(k:Nat)(af4:bq 96 (CK k)):bM 96 1 (Ax k):=bL 7 549 (ai MA (ai af4 eN)) lN λp z hA=>show Fm.den (let v0:=(aM (p.g 6) (z.i 9));let v2:=(gS (aa v0 3));let v3:=(gL (aa v0 5));let v4:=((-9223372036854775808)<=z.i 9+1/\z.i 9+1<=9223372036854775807);let v5:=(↑(p.g 6).length:Int);let v1:=(Fq (p.i 1=9->gp (p.g 5) v5/\(p.g 5).length=(p.g 6).length) k (p.g 6));let v6:=(aT (aM (p.g 5) (z.i 9)));let v7:=(gI (aa v0 1));let v8:=(gL (aa v0 4));let v9:=(dE (z.i 9) (p.g 6));let v10:=((oP (z.s 20)));let v11:=(cg (z.i 9) (p.g 6));let d5:=(z.i 9+1);let g7:=(gI (aa v0 0));let i4:=(gI (aa v0 2));(.two (bR (z.i 9) (p.g 6)) (.two (p.i 1=9) (.an (cg (z.i 9) (p.g 5)) (.cl v10 ((gS v6).length<=100000/\(z.s 20).length<=200000000) (λy0=>y0.s 20=z.s 20++(aK (gS v6).length++gS v6)) λy0=>(.an v11 (.cl ((oP (y0.s 20))) (Fr k g7 v7 i4 v2 v8 v3 (y0.s 20)) (λy1=>y1.s 20=y0.s 20++dN k g7 v7 i4 v2 v8 v3) λy1=>(.an v4 (.an (Q7 (y1.s 20) (p.g 6) (p.g 5) (p.s 4) (p.i 3) (p.i 2) (p.i 1)) (.at (Fp (v1/\v9/\(y1.s 20).length+qw (jV k) (p.g 6) d5<=100000000) (v5-d5) (v5-z.i 9) (y1.s 20) (jQ k) (p.i 1) (p.g 5) (p.g 6) d5 (z.s 20) (z.i 9))))))))) (.an v11 (.cl v10 (Fr k g7 v7 i4 v2 v8 v3 (z.s 20)) (λy2=>y2.s 20=z.s 20++dN k g7 v7 i4 v2 v8 v3) λy2=>(.an v4 (.an (Q7 (y2.s 20) (p.g 6) (p.g 5) (p.s 4) (p.i 3) (p.i 2) (p.i 1)) (.at (Fp (v1/\v9/\(y2.s 20).length+qw (jV k) (p.g 6) d5<=100000000) (v5-d5) (v5-z.i 9) (y2.s 20) (jQ k) (p.i 1) (p.g 5) (p.g 6) d5 (z.s 20) (z.i 9)))))))) (.an (Q7 (z.s 20) (p.g 6) (p.g 5) (p.s 4) (p.i 3) (p.i 2) (p.i 1)) (.at (z.s 20=z.s 20++tD (jQ k) (p.i 1) (p.g 5) (p.g 6) (z.i 9)))))) by dsimp only [Ax,vp,Kds] at hA;have n1:=@Ar (jQ k) (p.i 1) (p.g 5) (p.g 6) (z.i 9);have:=@As (jQ k) (p.i 1) (p.g 5) (p.g 6) (z.i 9);have:=@Ff (jQ k) (p.i 1) (p.g 5) (p.g 6) (z.i 9);have:=oU k (aq (p.g 6) (z.i 9).toNat);have:=@nG k (p.g 6) (z.i 9);have:=mq k (aq (p.g 6) (z.i 9).toNat);have:=@At (jV k) (p.g 6) (z.i 9);have:=oV k (aq (p.g 6) (z.i 9).toNat);have:=gq k (aq (p.g 6) (z.i 9).toNat);have:=Za k p z;have m2:=@wX (p.g 5) (z.i 9) (p.g 6).length;have:=@nI k (aq (p.g 6) (z.i 9).toNat);have:=hv5 p z;dsimp only [uX] at n1 m2;exact iO
abbrev Tq1(a:Int):=0<=a%18446744073709551616/\a%18446744073709551616<18446744073709551616
abbrev MB(a b c:List Nat):=a.length=b.length+1/\b.length+1<=1000000000/\c.length<=1000000
abbrev Fs(a:Prop)(b:Int):=Fm.ct a (λy=>y.s 10=aK b.toNat)
abbrev Uc(a:Int):=(0:Int)<=pL a/\pL a<(18446744073709551616:Int)
def hv6(z:Sy):=@cL (((z.s 4).length:Int)%18446744073709551616) (by omega)
def hv7(z:Sy):=@cL (((z.g 6).length:Int)%18446744073709551616) (by omega)
def hv8(k:Nat)(z:Sy):=@qs k (z.i 1) (z.i 2) (z.i 3) (z.s 4) (z.g 5) (z.g 6)
def hv9(k:Nat)(z:Sy):=@sz k (z.i 1) (z.i 2) (z.i 3) (z.s 4) (z.g 5) (z.g 6)
def V7(z:Sy):=@nE (z.i 1) (z.i 2) (z.i 3) (z.s 4) (z.g 5) (z.g 6)
def AC:∀k,bq 96 (CK k)
 |0=>LB λz h=>absurd ((gt _ _ _ _ _ _).symm.trans h.1) (by decide)
 |k+1=>bC 19 4903735569 (ai V6 (ai da (ai MA eN))) (aG (ptm:=[(1,.ag va)]) (IG k (AC k)) lN) λz hA=>show Fm.den (let v1:=(↑(z.g 6).length:Int);let v2:=(z.i 1%256);let v0:=(z.s 20++ [v2.toNat]);let v3:=(Fq (z.i 1=9->gp (z.g 5) v1/\(z.g 5).length=(z.g 6).length) k (z.g 6));let v4:=(Tq1 v1);let v5:=(wS v0 (z.s 20));let v6:=(Uc (z.i 2));let v7:=((-9223372036854775808)<=z.i 2/\z.i 2<9223372036854775808);let v8:=((z.s 4).length<=100000/\v0.length<=200000000);let v9:=(aK (z.s 4).length++z.s 4);let v10:=(fE v1);(.an (It (z.s 20) (z.i 1)) (.two (z.i 1=2) (.an (v0.length=(z.s 20).length+1/\(z.s 20).length+1<=1000000000/\0<=z.i 2%256/\True) (.an ((z.s 20++ [v2.toNat]++ [(z.i 2%256).toNat]).length=(z.s 20).length+1+1/\True) (.at (z.s 20++ [v2.toNat]++ [(z.i 2%256).toNat]=z.s 20++dN (k+1) (z.i 1) (z.i 2) (z.i 3) (z.s 4) (z.g 5) (z.g 6))))) (.two (z.i 1=3) (.ct v7 (λy0=>True) λy0=>(Fs v6 (pL (z.i 2)) λy1=>(.an (MB v0 (z.s 20) (y1.s 10)) (.an ((z.s 20++ [v2.toNat]++y1.s 10).length=(z.s 20).length+1+(y1.s 10).length/\True) (.at (z.s 20++ [v2.toNat]++y1.s 10=z.s 20++dN (k+1) (z.i 1) (z.i 2) (z.i 3) (z.s 4) (z.g 5) (z.g 6))))))) (.two (z.i 1=4) (.ct v7 (λy2=>True) λy2=>(Fs v6 (pL (z.i 2)) λy3=>(.an (MB v0 (z.s 20) (y3.s 10)) (.an ((z.s 20++ [v2.toNat]++y3.s 10).length=(z.s 20).length+1+(y3.s 10).length/\(z.s 20).length+1+(y3.s 10).length<=1000000000/\0<=z.i 3%256/\True) (.an ((z.s 20++ [v2.toNat]++y3.s 10++ [(z.i 3%256).toNat]).length=(z.s 20).length+1+(y3.s 10).length+1/\True) (.at (z.s 20++ [v2.toNat]++y3.s 10++ [(z.i 3%256).toNat]=z.s 20++dN (k+1) (z.i 1) (z.i 2) (z.i 3) (z.s 4) (z.g 5) (z.g 6)))))))) (.two (z.i 1=5) (tF (z.i 2) (z.i 2%18446744073709551616) λy4=>(.an (MB v0 (z.s 20) (y4.s 10)) (.an ((z.s 20++ [v2.toNat]++y4.s 10).length=(z.s 20).length+1+(y4.s 10).length/\True) (.at (z.s 20++ [v2.toNat]++y4.s 10=z.s 20++dN (k+1) (z.i 1) (z.i 2) (z.i 3) (z.s 4) (z.g 5) (z.g 6)))))) (.two (z.i 1=6) (.an (z.i 1=6) (.cl (v5) v8 (λy5=>y5.s 20=z.s 20++ [v2.toNat]++v9) λy5=>(.an (oP (y5.s 20)) (.at (y5.s 20=z.s 20++dN (k+1) (z.i 1) (z.i 2) (z.i 3) (z.s 4) (z.g 5) (z.g 6)))))) (.two (z.i 1=7) (.cl (v5) v8 (λy6=>y6.s 20=z.s 20++ [v2.toNat]++v9) λy6=>(.an (oP (y6.s 20)) (.at (y6.s 20=z.s 20++dN (k+1) (z.i 1) (z.i 2) (z.i 3) (z.s 4) (z.g 5) (z.g 6))))) (.two (z.i 1=8) (.an (z.i 1=8) (Fs v4 (v1%18446744073709551616) λy7=>(let v11:=(z.s 20++ [v2.toNat]++y7.s 10);(.an (MB v0 (z.s 20) (y7.s 10)) (.cl ((v11.length=(z.s 20).length+1+(y7.s 10).length/\z.g 6=z.g 6/\z.g 5=z.g 5/\z.s 4=z.s 4/\z.i 3=z.i 3/\z.i 2=z.i 2/\z.i 1=z.i 1/\True)) (v3/\v10/\v11.length+qw (jV k) (z.g 6) 0<=100000000) (λy8=>y8.s 20=z.s 20++ [v2.toNat]++y7.s 10++tD (jQ k) (z.i 1) (z.g 5) (z.g 6) 0) λy8=>(.an (oP (y8.s 20)) (.at (y8.s 20=z.s 20++dN (k+1) (z.i 1) (z.i 2) (z.i 3) (z.s 4) (z.g 5) (z.g 6))))))))) (.two (z.i 1=9) (Fs v4 (v1%18446744073709551616) λy9=>(let d5:=(z.s 20++ [v2.toNat]++y9.s 10);(.an (MB v0 (z.s 20) (y9.s 10)) (.cl ((d5.length=(z.s 20).length+1+(y9.s 10).length/\z.g 6=z.g 6/\z.g 5=z.g 5/\z.s 4=z.s 4/\z.i 3=z.i 3/\z.i 2=z.i 2/\z.i 1=z.i 1/\True)) (v3/\v10/\d5.length+qw (jV k) (z.g 6) 0<=100000000) (λm6=>m6.s 20=z.s 20++ [v2.toNat]++y9.s 10++tD (jQ k) (z.i 1) (z.g 5) (z.g 6) 0) λm6=>(.an (oP (m6.s 20)) (.at (m6.s 20=z.s 20++dN (k+1) (z.i 1) (z.i 2) (z.i 3) (z.s 4) (z.g 5) (z.g 6)))))))) (.an v5 (.at (z.s 20++ [v2.toNat]=z.s 20++dN (k+1) (z.i 1) (z.i 2) (z.i 3) (z.s 4) (z.g 5) (z.g 6)))))))))))))) by
  dsimp only [CK,Mu,va,uZ,xb,Ms] at hA;have:=Ya k z;have:=hv3 k z;have:=@cL (pL (z.i 2));have:=@cL (z.i 2%18446744073709551616) (by omega);have:=hv6 z;have:=hv7 z;have:=@w_ (z.i 2);have v3:(z.s 4).length<=1000000->(((z.s 4).length:Int)%18446744073709551616).toNat=(z.s 4).length:=λh=>by omega
  have v4:(z.g 6).length<=1000000->(((z.g 6).length:Int)%18446744073709551616).toNat=(z.g 6).length:=λh=>by omega
  have:=@sC k (z.i 1) (z.i 2) (z.i 3) (z.s 4) (z.g 5) (z.g 6);have:=@qu k (z.i 1) (z.i 2) (z.i 3) (z.s 4) (z.g 5) (z.g 6);have:=@wZ k (z.i 1) (z.i 2) (z.i 3) (z.s 4) (z.g 5) (z.g 6);have:=@sD k (z.i 1) (z.i 2) (z.i 3) (z.s 4) (z.g 5) (z.g 6);have:=@nF k (z.i 1) (z.i 2) (z.i 3) (z.s 4) (z.g 5) (z.g 6);have:=@sE k (z.i 1) (z.i 2) (z.i 3) (z.s 4) (z.g 5) (z.g 6);have:=@sG k (z.i 1) (z.i 2) (z.i 3) (z.s 4) (z.g 5) (z.g 6);have:=hv8 k z;have:=hv9 k z;have c3:=V7 z;have:=hv0 z;have:=PO z;have:=Au k (z.s 4) (z.g 6);dsimp only [oS] at c3;exact iO
def Zb:bq 258 V4:=bC 3 1 eN lN λz hA=>show Fm.den (let v0:=(aE (nx) (z.i 1/9223372036854775808%18446744073709551616));(.two ((-9223372036854775808)<=z.i 1 * 2/\z.i 1 * 2<=9223372036854775807) (.an (IntKind.u64.wrap (Int.ofNat ((aE (nx) (z.i 1 * 2%18446744073709551616)).xor v0))=pL (z.i 1)/\True) (.at (True))) (.an (IntKind.u64.wrap (Int.ofNat ((aE (nx) (IntKind.i64.wrap (z.i 1 * 2)%18446744073709551616)).xor v0))=pL (z.i 1)/\True) (.at (True))))) by
 have hB:True/\(-9223372036854775808:Int)<=z.i 1/\z.i 1<9223372036854775808:=⟨trivial,hA⟩
 conv=>zeta
 repeat' with_reducible first|intro _|apply ci|apply cm|apply cj|apply cD|apply cA
 all_goals first|omega|(exact VZ hB.2 rfl)|(exact⟨VZ hB.2 rfl,trivial⟩)|(exact⟨VZ hB.2 (V1 _),trivial⟩)|grind [ao,ak,aj]
abbrev CR(a b c:List Nat):=a.length=b.length+c.length/\True
def MC:bq 257 T7:=bC 1 0 (ai fY eN) lN λz hA=>show Fm.den ((.ct (EL (z.i 1)) (λy0=>y0.s 10=aK (z.i 1).toNat) λy0=>(.an (CQ (z.s 20) (y0.s 10)) (.an (CR (z.s 20++y0.s 10) (z.s 20) (y0.s 10)) (.at (z.s 20++y0.s 10=z.s 20++aK (z.i 1).toNat)))))) by dsimp only [T7] at hA;have:=@cL (z.i 1);exact jO
abbrev Q8(a:List Nat)(b c:List G)(d:List Nat)(e f g h:Int):=a.length=a.length/\b=b/\c=c/\d=d/\e=e/\f=f/\g=g/\h=h/\b=b/\True
def Q9(k:Nat)(ar2:bq 217 (Mu k)):bM 217 1 (Mt k):=bL 7 549 (ai MC (ai ar2 eN)) lN λp z hA=>show Fm.den (let v0:=(aM (p.g 6) (z.i 9));let v1:=(aT (aM (p.g 5) (z.i 9)));let v2:=(↑(p.g 6).length:Int);let v3:=(Fq (p.i 1=9->gp (p.g 5) v2/\(p.g 5).length=(p.g 6).length) k (p.g 6));let v4:=(gS (aa v0 3));let v5:=(gL (aa v0 5));let v6:=((-9223372036854775808)<=z.i 9+1/\z.i 9+1<=9223372036854775807);let v7:=(gI (aa v0 1));let v8:=(gL (aa v0 4));let v9:=(dE (z.i 9) (p.g 6));let v10:=(↑(gS v1).length:Int);let v11:=((oP (z.s 20)));let d5:=(cg (z.i 9) (p.g 5));let g7:=(z.i 9+1);let i4:=(gI (aa v0 0));let j7:=(gI (aa v0 2));(.two (bR (z.i 9) (p.g 6)) (.an (cg (z.i 9) (p.g 6)) (.two (p.i 1=9) (.an d5 (.cl v11 (((0:Int)<=v10%18446744073709551616/\v10%(18446744073709551616:Int)<18446744073709551616)/\(z.s 20).length<=900000000) (λy0=>y0.s 20=z.s 20++aK (v10%(18446744073709551616:Int)).toNat) λy0=>(.an d5 (.an (CQ (y0.s 20) (gS v1)) (.cl ((CR (y0.s 20++gS v1) (y0.s 20) (gS v1))) (Fr k i4 v7 j7 v4 v8 v5 (y0.s 20++gS v1)) (λy1=>y1.s 20=y0.s 20++gS v1++dN k i4 v7 j7 v4 v8 v5) λy1=>(.an v6 (.an (Q8 (y1.s 20) (p.g 6) (p.g 5) (p.s 4) (p.i 3) (p.i 2) (p.i 1) v2) (.at (Fp (v3/\v9/\(y1.s 20).length+qw (jV k) (p.g 6) g7<=100000000) (v2-g7) (v2-z.i 9) (y1.s 20) (jQ k) (p.i 1) (p.g 5) (p.g 6) g7 (z.s 20) (z.i 9)))))))))) (.cl v11 (Fr k i4 v7 j7 v4 v8 v5 (z.s 20)) (λy2=>y2.s 20=z.s 20++dN k i4 v7 j7 v4 v8 v5) λy2=>(.an v6 (.an (Q8 (y2.s 20) (p.g 6) (p.g 5) (p.s 4) (p.i 3) (p.i 2) (p.i 1) v2) (.at (Fp (v3/\v9/\(y2.s 20).length+qw (jV k) (p.g 6) g7<=100000000) (v2-g7) (v2-z.i 9) (y2.s 20) (jQ k) (p.i 1) (p.g 5) (p.g 6) g7 (z.s 20) (z.i 9)))))))) (.an (Q7 (z.s 20) (p.g 6) (p.g 5) (p.s 4) (p.i 3) (p.i 2) (p.i 1)) (.at (z.s 20=z.s 20++tD (jQ k) (p.i 1) (p.g 5) (p.g 6) (z.i 9)))))) by dsimp only [Mt,V5,vp,Kds] at hA;have n1:=@Ar (jQ k) (p.i 1) (p.g 5) (p.g 6) (z.i 9);have:=@As (jQ k) (p.i 1) (p.g 5) (p.g 6) (z.i 9);have:=@Ff (jQ k) (p.i 1) (p.g 5) (p.g 6) (z.i 9);have:=oU k (aq (p.g 6) (z.i 9).toNat);have:=@nG k (p.g 6) (z.i 9);have:=mq k (aq (p.g 6) (z.i 9).toNat);have:=@At (jV k) (p.g 6) (z.i 9);have:=oV k (aq (p.g 6) (z.i 9).toNat);have:=gq k (aq (p.g 6) (z.i 9).toNat);have:=Za k p z;have m2:=@wX (p.g 5) (z.i 9) (p.g 6).length;have:=@nI k (aq (p.g 6) (z.i 9).toNat);have:=hv5 p z;dsimp only [uX] at n1 m2;exact iO
abbrev IH(a b:Prop)(c:List Nat)(d e:Int):=Fm.cl a b (λy=>y.s 20=c++ [d.toNat]++aK e.toNat)
def MD:∀k,bq 217 (Mu k)
 |0=>LB λz h=>absurd ((gt _ _ _ _ _ _).symm.trans h.1) (by decide)
 |k+1=>bC 19 4903735569 (ai Zb (ai MC eN)) (aG (ptm:=[(1,.ag va)]) (Q9 k (MD k)) lN) λz hA=>show Fm.den (let v1:=(↑(z.g 6).length:Int);let v4:=(Fq (z.i 1=9->gp (z.g 5) v1/\(z.g 5).length=(z.g 6).length) k (z.g 6));let v7:=(z.i 1%256);let v2:=(z.s 20++ [v7.toNat]);let v0:=(wS v2 (z.s 20));let v3:=((Tq1 (↑(z.s 4).length:Int))/\v2.length<=900000000);let v5:=((Tq1 v1)/\v2.length<=900000000);let v6:=((Uc (z.i 2))/\v2.length<=900000000);let v8:=((-9223372036854775808)<=z.i 2/\z.i 2<9223372036854775808);let v9:=((↑(z.s 4).length:Int)%18446744073709551616);let v10:=(fE v1);(.an (It (z.s 20) (z.i 1)) (.two (z.i 1=2) (.an (v2.length=(z.s 20).length+1/\(z.s 20).length+1<=1000000000/\0<=z.i 2%256/\True) (.an ((z.s 20++ [v7.toNat]++ [(z.i 2%256).toNat]).length=(z.s 20).length+1+1/\True) (.at (z.s 20++ [v7.toNat]++ [(z.i 2%256).toNat]=z.s 20++dN (k+1) (z.i 1) (z.i 2) (z.i 3) (z.s 4) (z.g 5) (z.g 6))))) (.two (z.i 1=3) (.ct v8 (λy0=>True) λy0=>(IH (v0) v6 (z.s 20) v7 (pL (z.i 2)) λy1=>(.an (oP (y1.s 20)) (.at (y1.s 20=z.s 20++dN (k+1) (z.i 1) (z.i 2) (z.i 3) (z.s 4) (z.g 5) (z.g 6)))))) (.two (z.i 1=4) (.ct v8 (λy2=>True) λy2=>(IH (v0) v6 (z.s 20) v7 (pL (z.i 2)) λy3=>(.an (It (y3.s 20) (z.i 3)) (.an (wS (y3.s 20++ [(z.i 3%256).toNat]) (y3.s 20)) (.at (y3.s 20++ [(z.i 3%256).toNat]=z.s 20++dN (k+1) (z.i 1) (z.i 2) (z.i 3) (z.s 4) (z.g 5) (z.g 6))))))) (.two (z.i 1=5) (.cl (v0) ((Tq1 (z.i 2))/\v2.length<=900000000) (λy4=>y4.s 20=z.s 20++ [v7.toNat]++aK (z.i 2%18446744073709551616).toNat) λy4=>(.an (oP (y4.s 20)) (.at (y4.s 20=z.s 20++dN (k+1) (z.i 1) (z.i 2) (z.i 3) (z.s 4) (z.g 5) (z.g 6))))) (.two (z.i 1=6) (.an (z.i 1=6) (IH (v0) v3 (z.s 20) v7 v9 λy5=>(.an (CQ (y5.s 20) (z.s 4)) (.an (CR (y5.s 20++z.s 4) (y5.s 20) (z.s 4)) (.at (y5.s 20++z.s 4=z.s 20++dN (k+1) (z.i 1) (z.i 2) (z.i 3) (z.s 4) (z.g 5) (z.g 6))))))) (.two (z.i 1=7) (IH (v0) v3 (z.s 20) v7 v9 λy6=>(.an (CQ (y6.s 20) (z.s 4)) (.an (CR (y6.s 20++z.s 4) (y6.s 20) (z.s 4)) (.at (y6.s 20++z.s 4=z.s 20++dN (k+1) (z.i 1) (z.i 2) (z.i 3) (z.s 4) (z.g 5) (z.g 6)))))) (.two (z.i 1=8) (.an (z.i 1=8) (IH (v0) v5 (z.s 20) v7 (v1%18446744073709551616) λy7=>(.cl ((Q8 (y7.s 20) (z.g 6) (z.g 5) (z.s 4) (z.i 3) (z.i 2) (z.i 1) v1)) (v4/\v10/\(y7.s 20).length+qw (jV k) (z.g 6) 0<=100000000) (λy8=>y8.s 20=y7.s 20++tD (jQ k) (z.i 1) (z.g 5) (z.g 6) 0) λy8=>(.an (oP (y8.s 20)) (.at (y8.s 20=z.s 20++dN (k+1) (z.i 1) (z.i 2) (z.i 3) (z.s 4) (z.g 5) (z.g 6))))))) (.two (z.i 1=9) (IH (v0) v5 (z.s 20) v7 (v1%18446744073709551616) λy9=>(.cl ((Q8 (y9.s 20) (z.g 6) (z.g 5) (z.s 4) (z.i 3) (z.i 2) (z.i 1) v1)) (v4/\v10/\(y9.s 20).length+qw (jV k) (z.g 6) 0<=100000000) (λm6=>m6.s 20=y9.s 20++tD (jQ k) (z.i 1) (z.g 5) (z.g 6) 0) λm6=>(.an (oP (m6.s 20)) (.at (m6.s 20=z.s 20++dN (k+1) (z.i 1) (z.i 2) (z.i 3) (z.s 4) (z.g 5) (z.g 6)))))) (.an v0 (.at (z.s 20++ [v7.toNat]=z.s 20++dN (k+1) (z.i 1) (z.i 2) (z.i 3) (z.s 4) (z.g 5) (z.g 6)))))))))))))) by
  dsimp only [Mu,va,uZ,xb,Ms] at hA;have:=Ya k z;have:=hv3 k z;have:=@cL (pL (z.i 2));have:=@cL (z.i 2%18446744073709551616) (by omega);have:=hv6 z;have:=hv7 z;have:=@w_ (z.i 2);have v3:(z.s 4).length<=1000000->(((z.s 4).length:Int)%18446744073709551616).toNat=(z.s 4).length:=λh=>by omega
  have v4:(z.g 6).length<=1000000->(((z.g 6).length:Int)%18446744073709551616).toNat=(z.g 6).length:=λh=>by omega
  have:=@sC k (z.i 1) (z.i 2) (z.i 3) (z.s 4) (z.g 5) (z.g 6);have:=@qu k (z.i 1) (z.i 2) (z.i 3) (z.s 4) (z.g 5) (z.g 6);have:=@wZ k (z.i 1) (z.i 2) (z.i 3) (z.s 4) (z.g 5) (z.g 6);have:=@sD k (z.i 1) (z.i 2) (z.i 3) (z.s 4) (z.g 5) (z.g 6);have:=@nF k (z.i 1) (z.i 2) (z.i 3) (z.s 4) (z.g 5) (z.g 6);have:=@sE k (z.i 1) (z.i 2) (z.i 3) (z.s 4) (z.g 5) (z.g 6);have:=@sG k (z.i 1) (z.i 2) (z.i 3) (z.s 4) (z.g 5) (z.g 6);have:=hv8 k z;have:=hv9 k z;have c3:=V7 z;have:=hv0 z;have:=PO z;have:=Au k (z.s 4) (z.g 6);dsimp only [oS] at c3;exact iO
def Ft(z:Sy)(h:uZ 16 z=0)(hv:xb 16 z):(Ms 16 z).length<=ym 16 (z.s 4) (z.g 6):=
 nI 16 (.node [.int (z.i 1),.int (z.i 2),.int (z.i 3),.str (z.s 4),.node (z.g 5),.node (z.g 6)]) ((gq 16 _).symm.trans h) ((mq 16 _)▸hv) |> λh=>by rw[←oU, ←oV] at h;exact h
def MF(z:Sy)(h:uZ 16 z=0):Q6 16 (z.s 4) (z.g 6)<=(Ms 16 z).length:=
 Mr 16 (.node [.int (z.i 1),.int (z.i 2),.int (z.i 3),.str (z.s 4),.node (z.g 5),.node (z.g 6)]) ((gq 16 _).symm.trans h) |> λh=>by rw[←oU, ←CJ] at h;exact h
abbrev Ud(a:Prop)(b c:Int)(d:List G)(e:Int):=a/\b.toNat<c.toNat/\∀(y:Sy),(y.i 999=0->gp d e)/\(¬y.i 999=0->y.i 10=3/\¬gp d e)->(y.i 999=0->gp d e)/\(¬y.i 999=0->y.i 10=3/\¬gp d e)
abbrev Ue(a b:List G)(c:List Nat)(d e f g:Int):=a=a/\b=b/\c=c/\d=d/\e=e/\f=f/\g=g/\a=a/\b=b/\c=c/\d=d/\e=e/\f=f/\True
def CS:bM 170 1 vg:=bL 62 996920995764833359449776373990861477 eN lN λp z hA=>show Fm.den (let v0:=(↑(gS (aT (aM (p.g 5) (z.i 9)))).length:Int);let v1:=(Ue (p.g 6) (p.g 5) (p.s 4) (p.i 3) (p.i 2) (p.i 1) (p.i 7));let v2:=(↑(p.g 5).length:Int);let v3:=(CO (p.g 6) (p.g 5) (p.s 4) (p.i 3) (p.i 2) (p.i 1));let v4:=(0<z.i 9);let v5:=(v0<(1:Int));let v6:=(((1:Int)=0->gp (p.g 5) v2)/\(¬(1:Int)=0->(3:Int)=3/\¬gp (p.g 5) v2));let v7:=((40:Int)<v0);let v8:=((p.g 5).length<=1000000/\(dE (z.i 9) (p.g 5))/\gp (p.g 5) (z.i 9+1));let v9:=(cg (z.i 9) (p.g 5));let v10:=((-9223372036854775808)<=z.i 9+1/\z.i 9+1<=9223372036854775807);(.two (bR (z.i 9) (p.g 5)) (.an v9 (.two v5 (.an v5 (.an v5 (.an v5 (.an v5 (.an v5 (.an v5 (.an v5 (.an v3 (.at v6))))))))) (.an (¬v5) (.an (¬v5) (.an (¬v5) (.an v9 (.an (¬v5) (.an (¬v5) (.an (¬v5) (.an (¬v5) (.two v7 (.an v7 (.an v7 (.an v7 (.an v7 (.an v3 (.at v6)))))) (.an (¬v7) (.an (¬v7) (.two v4 (.an v4 (.an v4 (.an v4 (.an v9 (.an v4 (.an v4 (.an v4 (.an v4 (.an v4 (.an ((-9223372036854775808)<=z.i 9-1/\z.i 9-1<=9223372036854775807) (.an v4 (.an (0<=z.i 9-1/\z.i 9-1 < ↑(p.g 5).length) (.an v4 (.an v4 (.an (¬v7) (.an v4 (.an (¬v7) (.two (mB (gS (aT (aM (p.g 5) (z.i 9-1)))) (gS (aT (aM (p.g 5) (z.i 9))))=false) (.an v3 (.at v6)) (.an v10 (.an v1 (.at (Ud v8 (v2-(z.i 9+1)) (v2-z.i 9) (p.g 5) v2)))))))))))))))))))))) (.an (¬v4) (.an (¬v4) (.an (¬v4) (.an (¬v4) (.an (¬v4) (.an (¬v4) (.an (¬v4) (.an (¬v4) (.an (¬v4) (.an (¬v4) (.an (¬v4) (.an (¬v7) (.an (¬v4) (.an (¬v7) (.an v10 (.an v1 (.at (Ud v8 (v2-(z.i 9+1)) (v2-z.i 9) (p.g 5) v2)))))))))))))))))))))))))))))))) (.an v1 (.at (((0:Int)=0->gp (p.g 5) v2)/\(¬(0:Int)=0->(aP (((((((PS.mk [(999,Tm.i (Int.ofNat (nat_lit 0)))] ((0,(bO 0).fst,0)::jN.loc) jN.ln (p.i 7=p.i 7/\p.g 6=p.g 6/\p.g 5=p.g 5/\p.s 4=p.s 4/\p.i 3=p.i 3/\p.i 2=p.i 2/\p.i 1=p.i 1/\jN.pr) jN.fz).and (cI (p.i 1))).and (cI (p.i 2))).and (cI (p.i 3))).and (p.s 4=p.s 4)).and (p.g 5=p.g 5)).and (p.g 6=p.g 6)).tm).i 10=(3:Int)/\¬gp (p.g 5) v2)))))) by
 dsimp only [vg,vp] at hA;have e1:=@E8 (p.g 5) (z.i 9) (p.g 5).length;have e2:=@Al (p.g 5) (z.i 9);dsimp only [Mh,uX] at e1 e2;conv=>zeta
 repeat' with_reducible first|intro _|apply ci|apply cm|apply cj|apply cD|apply cA
 all_goals first|omega|grind [ao,ak,aj,Mi]
def II:bq 170 (fT 0):=bC 2 2 eN lN λz hA=>show Fm.den ((.an (16<z.i 7) (.ax ((9:Int)=eG 0 (z.i 1) (z.i 2) (z.i 3) (z.s 4) (z.g 5) (z.g 6))))) by
 dsimp only [fT,va,xb,uZ] at hA;repeat' with_reducible first|intro _|apply ci|apply cm|apply cj|apply cD|apply cA
 all_goals first|omega|grind [ao,ak,aj,gt]
def CT(k:Nat)(hrcheck:bq 170 (xc k)):bM 170 3 (vh k):=bL 7 537 (ai hrcheck eN) lN λp z hA=>show Fm.den (let v0:=(aM (p.g 6) (z.i 9));let v1:=(CO (p.g 6) (p.g 5) (p.s 4) (p.i 3) (p.i 2) (p.i 1));(.two (bR (z.i 9) (p.g 6)) (.an (cg (z.i 9) (p.g 6)) (.an ((-9223372036854775808)<=p.i 7+1/\p.i 7+1<=9223372036854775807) (Ub (p.i 7) k (gI (aa v0 1)) (gS (aa v0 3)) (gL (aa v0 4)) (gL (aa v0 5)) (gI (aa v0 0)) (gI (aa v0 2)) λy0=>(.two (y0.i 10≠0) (.an v1 (.at (((1:Int)=0->eE k (p.g 6) 0=0)/\(¬(1:Int)=0->y0.i 10=eE k (p.g 6) 0)))) (.an ((-9223372036854775808)<=z.i 9+1/\z.i 9+1<=9223372036854775807) (.an (p.g 6=p.g 6/\p.g 5=p.g 5/\p.s 4=p.s 4/\p.i 3=p.i 3/\p.i 2=p.i 2/\p.i 1=p.i 1/\p.i 7=p.i 7/\True) (.at (Ua (p.i 7=16 - ↑k/\k<=15/\ID k (p.g 6)/\(p.g 6).length<=1000000/\(dE (z.i 9) (p.g 6))/\eE k (p.g 6) 0=eE k (p.g 6) (z.i 9+1)) ((↑(p.g 6).length:Int)-(z.i 9+1)) ((↑(p.g 6).length:Int)-z.i 9) k (p.g 6))))))))) (.an v1 (.at (((0:Int)=0->eE k (p.g 6) 0=0)/\(¬(0:Int)=0->(aP ((((((((have __src:=jN;PS.mk [(999,Tm.i (Int.ofNat (nat_lit 0)))] __src.loc __src.ln __src.pr __src.fz).name (0,base+0,tL (mh bO z 0 (BSh.cells 25 (vp p))))).and (cI (p.i 1))).and (cI (p.i 2))).and (cI (p.i 3))).and (p.s 4=p.s 4)).and (p.g 5=p.g 5)).and (p.g 6=p.g 6)).tm).i 10=eE k (p.g 6) 0)))))) by dsimp only [vh,vp] at hA;have:=@Aq k (p.g 6) (z.i 9);have:=@Fe k (p.g 6) (z.i 9);have:=@qt k (p.g 6) (z.i 9);have:=gq k (aq (p.g 6) (z.i 9).toNat);have:=@nG k (p.g 6) (z.i 9);have:=mq k (aq (p.g 6) (z.i 9).toNat);exact jO
abbrev pW(a b:Prop)(c:Nat)(d:List G):=Fm.cl a b (λy=>(y.i 999=0->eE c d 0=0)/\(¬y.i 999=0->y.i 10=eE c d 0))
def vm:∀k,bq 170 (xc k)
 |0=>II
 |k+1=>bC 234 953442819000121726201262095695649363329921864283241058312356325173683069069044876558159509452364324075753668357220830729648882722404320343 eN (aG (ptm:=[(0,.ag va),(1,.c (.i .i64 7))]) CS (aG (ptm:=[(0,.ag va),(1,.c (.i .i64 7))]) (CT k (vm k)) lN)) λz hA=>show Fm.den (let zw:=(0:Int)<=0;let v0:=((3:Int)=eG (k+1) (z.i 1) (z.i 2) (z.i 3) (z.s 4) (z.g 5) (z.g 6));let v2:=((z.g 6=z.g 6/\z.g 5=z.g 5/\z.s 4=z.s 4/\z.i 3=z.i 3/\z.i 2=z.i 2/\z.i 1=z.i 1/\z.i 7=z.i 7/\True));let v3:=((0:Int)=eG (k+1) (z.i 1) (z.i 2) (z.i 3) (z.s 4) (z.g 5) (z.g 6));let v4:=(↑(z.g 5).length:Int);let v5:=((Ue (z.g 6) (z.g 5) (z.s 4) (z.i 3) (z.i 2) (z.i 1) (z.i 7)));let v6:=((5:Int)=eG (k+1) (z.i 1) (z.i 2) (z.i 3) (z.s 4) (z.g 5) (z.g 6));let v7:=(z.s 4≠ []);let v8:=(z.i 3≠0);let v9:=(↑(z.g 6).length:Int);let v1:=(z.i 7=16 - ↑k/\k<=15/\ID k (z.g 6)/\(z.g 6).length<=1000000/\(zw/\0<=v9)/\eE k (z.g 6) 0=eE k (z.g 6) 0);let v10:=(z.i 2≠0);let v11:=(z.i 1=8);let d5:=((z.g 5).length<=1000000/\(zw/\0<=v4)/\gp (z.g 5) 0);let g7:=(16384<(↑(z.s 4).length:Int));let i4:=(0<=z.i 2/\(0:Int)<10);(.an (¬(16<z.i 7)) (.two (0<v9) (.two (z.i 1=1) (.two v10 (.ax v0) (.two v8 (.ax v0) (.two v7 (.ax v0) (.ax v0)))) (.two (z.i 1=2) (.two (z.i 2<0) (.ax v0) (.two (1<z.i 2) (.ax v0) (.two v8 (.ax v0) (.two v7 (.ax v0) (.ax v0))))) (.two (z.i 1=3) (.two v8 (.ax v0) (.two v7 (.ax v0) (.ax v0))) (.two (z.i 1=4) (.two (z.i 3<1) (.ax v0) (.two (18<z.i 3) (.ax v0) (.an ((10:Int)≠0) (.two i4 (.two (z.i 2%10=0) (.ax v0) (.two v7 (.ax v0) (.ax v0))) (.two ((z.i 2).tmod 10=0) (.ax v0) (.two v7 (.ax v0) (.ax v0))))))) (.two (z.i 1=5) (.two (z.i 2<0) (.ax v0) (.two (9007199254740992<z.i 2) (.ax v0) (.two v8 (.ax v0) (.two v7 (.ax v0) (.ax v0))))) (.two (z.i 1=6) (.an (z.i 1=6) (.two v10 (.ax v0) (.two v8 (.ax v0) (.ax v0)))) (.two (z.i 1=7) (.two v10 (.ax v0) (.two v8 (.ax v0) (.ax v0))) (.two v11 (.an v11 (.two v10 (.ax v0) (.two v8 (.ax v0) (.two v7 (.ax v0) (.an v11 (.two (0<v4) (.ax v0) (.two (200<v9) (.ax v6) (.an v11 (pW v2 v1 k (z.g 6) λy0=>(.two (y0.i 999=0) (.ax v3) (.ax (y0.i 10=eG (k+1) (z.i 1) (z.i 2) (z.i 3) (z.s 4) (z.g 5) (z.g 6))))))))))))) (.two (z.i 1=9) (.two v10 (.ax v0) (.two v8 (.ax v0) (.two v7 (.ax v0) (.an (¬v11) (.two (200<v9) (.ax v6) (.an (¬v11) (.two (v4≠v9) (.ax v0) (.cl v5 d5 (λy1=>(y1.i 999=0->gp (z.g 5) v4)/\(¬y1.i 999=0->y1.i 10=3/\¬gp (z.g 5) v4)) λy1=>(.two (y1.i 999=0) (pW v2 v1 k (z.g 6) λy2=>(.two (y2.i 999=0) (.ax v3) (.ax (y2.i 10=eG (k+1) (z.i 1) (z.i 2) (z.i 3) (z.s 4) (z.g 5) (z.g 6))))) (.ax (y1.i 10=eG (k+1) (z.i 1) (z.i 2) (z.i 3) (z.s 4) (z.g 5) (z.g 6)))))))))))) (.ax v0)))))))))) (.two (z.i 1=1) (.two v10 (.ax v0) (.two v8 (.ax v0) (.two v7 (.ax v0) (.two (0<v4) (.ax v0) (pW v2 v1 k (z.g 6) λy3=>(.two (y3.i 999=0) (.ax v3) (.ax (y3.i 10=eG (k+1) (z.i 1) (z.i 2) (z.i 3) (z.s 4) (z.g 5) (z.g 6))))))))) (.two (z.i 1=2) (.two (z.i 2<0) (.ax v0) (.two (1<z.i 2) (.ax v0) (.two v8 (.ax v0) (.two v7 (.ax v0) (.two (0<v4) (.ax v0) (pW v2 v1 k (z.g 6) λy4=>(.two (y4.i 999=0) (.ax v3) (.ax (y4.i 10=eG (k+1) (z.i 1) (z.i 2) (z.i 3) (z.s 4) (z.g 5) (z.g 6)))))))))) (.two (z.i 1=3) (.two v8 (.ax v0) (.two v7 (.ax v0) (.two (0<v4) (.ax v0) (pW v2 v1 k (z.g 6) λy5=>(.two (y5.i 999=0) (.ax v3) (.ax (y5.i 10=eG (k+1) (z.i 1) (z.i 2) (z.i 3) (z.s 4) (z.g 5) (z.g 6)))))))) (.two (z.i 1=4) (.two (z.i 3<1) (.ax v0) (.two (18<z.i 3) (.ax v0) (.an ((10:Int)≠0) (.two i4 (.two (z.i 2%10=0) (.ax v0) (.two v7 (.ax v0) (.two (0<v4) (.ax v0) (pW v2 v1 k (z.g 6) λy6=>(.two (y6.i 999=0) (.ax v3) (.ax (y6.i 10=eG (k+1) (z.i 1) (z.i 2) (z.i 3) (z.s 4) (z.g 5) (z.g 6)))))))) (.two ((z.i 2).tmod 10=0) (.ax v0) (.two v7 (.ax v0) (.two (0<v4) (.ax v0) (pW v2 v1 k (z.g 6) λy7=>(.two (y7.i 999=0) (.ax v3) (.ax (y7.i 10=eG (k+1) (z.i 1) (z.i 2) (z.i 3) (z.s 4) (z.g 5) (z.g 6)))))))))))) (.two (z.i 1=5) (.two (z.i 2<0) (.ax v0) (.two (9007199254740992<z.i 2) (.ax v0) (.two v8 (.ax v0) (.two v7 (.ax v0) (.two (0<v4) (.ax v0) (pW v2 v1 k (z.g 6) λy8=>(.two (y8.i 999=0) (.ax v3) (.ax (y8.i 10=eG (k+1) (z.i 1) (z.i 2) (z.i 3) (z.s 4) (z.g 5) (z.g 6)))))))))) (.two (z.i 1=6) (.an (z.i 1=6) (.two v10 (.ax v0) (.two v8 (.ax v0) (.two (0<v4) (.ax v0) (.two g7 (.ax v6) (pW v2 v1 k (z.g 6) λy9=>(.two (y9.i 999=0) (.ax v3) (.ax (y9.i 10=eG (k+1) (z.i 1) (z.i 2) (z.i 3) (z.s 4) (z.g 5) (z.g 6)))))))))) (.two (z.i 1=7) (.two v10 (.ax v0) (.two v8 (.ax v0) (.two (0<v4) (.ax v0) (.two g7 (.ax v6) (pW v2 v1 k (z.g 6) λm6=>(.two (m6.i 999=0) (.ax v3) (.ax (m6.i 10=eG (k+1) (z.i 1) (z.i 2) (z.i 3) (z.s 4) (z.g 5) (z.g 6))))))))) (.two v11 (.an v11 (.two v10 (.ax v0) (.two v8 (.ax v0) (.two v7 (.ax v0) (.an v11 (.two (0<v4) (.ax v0) (.an (¬(200<v9)) (.an v11 (pW v2 v1 k (z.g 6) λu9=>(.two (u9.i 999=0) (.ax v3) (.ax (u9.i 10=eG (k+1) (z.i 1) (z.i 2) (z.i 3) (z.s 4) (z.g 5) (z.g 6))))))))))))) (.two (z.i 1=9) (.two v10 (.ax v0) (.two v8 (.ax v0) (.two v7 (.ax v0) (.an (¬v11) (.an (¬(200<v9)) (.an (¬v11) (.two (v4≠v9) (.ax v0) (.cl v5 d5 (λy12=>(y12.i 999=0->gp (z.g 5) v4)/\(¬y12.i 999=0->y12.i 10=3/\¬gp (z.g 5) v4)) λy12=>(.two (y12.i 999=0) (pW v2 v1 k (z.g 6) λp6=>(.two (p6.i 999=0) (.ax v3) (.ax (p6.i 10=eG (k+1) (z.i 1) (z.i 2) (z.i 3) (z.s 4) (z.g 5) (z.g 6))))) (.ax (y12.i 10=eG (k+1) (z.i 1) (z.i 2) (z.i 3) (z.s 4) (z.g 5) (z.g 6)))))))))))) (.ax v0))))))))))))) by dsimp only [xc,fT,va,xb,uZ] at hA;have:=hv0 z;have:=@E9 (z.i 1) (z.i 2) (z.i 3) (z.s 4) (z.g 5) (z.g 6);have:=@E_ (z.i 1) (z.i 2) (z.i 3) (z.s 4) (z.g 5) (z.g 6);have:=@Am (z.i 1) (z.i 2) (z.i 3) (z.s 4) (z.g 5) (z.g 6);have:=@Fa (z.i 1) (z.i 2) (z.i 3) (z.s 4) (z.g 5) (z.g 6);have:=PO z;have:=@Fb (z.i 1) (z.i 2) (z.i 3) (z.s 4) (z.g 5) (z.g 6);have:=@Fc (z.i 1) (z.i 2) (z.i 3) (z.s 4) (z.g 5) (z.g 6);have:=@Fd (z.i 1) (z.i 2) (z.i 3) (z.s 4) (z.g 5) (z.g 6);have:=@Mk (z.i 1) (z.i 2) (z.i 3) (z.s 4) (z.g 5) (z.g 6);have:=@An (z.i 1) (z.i 2) (z.i 3) (z.s 4) (z.g 5) (z.g 6);have:=@Ao (z.i 1) (z.i 2) (z.i 3) (z.s 4) (z.g 5) (z.g 6);have f3:=@Ap (z.i 1) (z.i 2) (z.i 3) (z.s 4) (z.g 5) (z.g 6);have f4:=@CI (z.i 1) (z.i 2) (z.i 3) (z.s 4) (z.g 5) (z.g 6);have:=Y_ (z.i 2);dsimp only [oS] at f3 f4;have:=hv8 k z;have:=hv9 k z;have:=@Ak (z.g 5) 0;have:=Ya k z;have:=hv3 k z;exact jO
def MG:bq 94 Fj:=bC 1 0 (ai (vm 16) eN) lN λz hA=>show Fm.den ((.ct ((1:Int)=17-16/\16<=16/\tE 16 (z.i 2) (z.s 4) (z.g 5) (z.g 6)) (λy0=>y0.i 10=eG 16 (z.i 1) (z.i 2) (z.i 3) (z.s 4) (z.g 5) (z.g 6)) λy0=>(.ax (y0.i 10=eG 16 (z.i 1) (z.i 2) (z.i 3) (z.s 4) (z.g 5) (z.g 6))))) by dsimp only [Fj,qx,va,xb,uZ] at hA;exact jO
abbrev pM(a:Int):=0<=a/\a<=2000000
def IJ(k:Nat)(al3:bq 95 (CN k)):bM 95 0 (AA k):=bL 6 37 (ai al3 eN) lN λp z hA=>show Fm.den (let v0:=(aM (p.g 6) (z.i 9));let v1:=(CO (p.g 6) (p.g 5) (p.s 4) (p.i 3) (p.i 2) (p.i 1));let v3:=(uY k (p.g 6) 0);let v2:=((pM (z.i 7))/\(z.i 7<=65536->p.i 7+ ↑v3=z.i 7)/\(65536<z.i 7->65536<p.i 7+(↑v3:Int)));let v4:=(↑(Q6 k (gS (aa v0 3)) (gL (aa v0 5))):Int);(.two (bR (z.i 9) (p.g 6)) (.two (z.i 7<=65536) (.an (cg (z.i 9) (p.g 6)) (.ct (eG k (gI (aa v0 0)) (gI (aa v0 1)) (gI (aa v0 2)) (gS (aa v0 3)) (gL (aa v0 4)) (gL (aa v0 5))=(0:Int)/\0<=z.i 7/\z.i 7<=65536) (λy0=>(pM (y0.i 7))/\(y0.i 7<=65536->z.i 7+v4=y0.i 7)/\(65536<y0.i 7->65536<z.i 7+v4)/\(y0.p 10↔65536<y0.i 7)) λy0=>(.an ((-9223372036854775808)<=z.i 9+1/\z.i 9+1<=9223372036854775807) (.an v1 (.at ((eE k (p.g 6) 0=0/\(p.g 6).length<=200/\(dE (z.i 9) (p.g 6))/\(pM (y0.i 7))/\(y0.i 7<=65536->p.i 7+ ↑v3=y0.i 7+ ↑(uY k (p.g 6) (z.i 9+1)))/\(65536<y0.i 7->65536<p.i 7+(↑v3:Int)))/\((↑(p.g 6).length:Int)-(z.i 9+1)).toNat<((↑(p.g 6).length:Int)-z.i 9).toNat/\∀(y:Sy),(0<=y.i 7/\y.i 7<=2000000)/\(y.i 7<=65536->p.i 7+ ↑v3=y.i 7)/\(65536<y.i 7->65536<p.i 7+(↑v3:Int))->(0<=y.i 7/\y.i 7<=2000000)/\(y.i 7<=65536->p.i 7+ ↑v3=y.i 7)/\(65536<y.i 7->65536<p.i 7+(↑v3:Int)))))))) (.an v1 (.at v2))) (.an v1 (.at v2)))) by dsimp only [AA,vp] at hA;have:=@Av k (p.g 6) (z.i 9);have:=@xa k (p.g 6) (z.i 9);have:=CJ k (aq (p.g 6) (z.i 9).toNat);have:=gq k (aq (p.g 6) (z.i 9).toNat);have:=Za k p z;exact jO
def AD:∀k,bq 95 (CN k)
 |0=>LB λz h=>absurd ((gt _ _ _ _ _ _).symm.trans h.1) (by decide)
 |k+1=>bC 4 6 eN (aG (ptm:=[(0,.ag va),(14,.c (.i .i64 7))]) (IJ k (AD k)) lN) λz hA=>show Fm.den (let v0:=(↑(z.s 4).length:Int);let v1:=(uY k (z.g 6) 0);let v2:=((CO (z.g 6) (z.g 5) (z.s 4) (z.i 3) (z.i 2) (z.i 1)));let v3:=(z.i 7+1+v0);let v4:=(Q6 (k+1) (z.s 4) (z.g 6));let v5:=(fE (↑(z.g 6).length:Int));let v6:=(↑v1:Int);(.an ((-9223372036854775808)<=z.i 7+1/\z.i 7+1<=9223372036854775807) (.two ((-9223372036854775808)<=z.i 7+1+v0/\z.i 7+1+ ↑(z.s 4).length<=9223372036854775807) (.cl v2 (eE k (z.g 6) 0=0/\(z.g 6).length<=200/\v5/\(0<=z.i 7+1+v0/\z.i 7+1+ ↑(z.s 4).length<=2000000)/\(z.i 7+1+ ↑(z.s 4).length<=65536->z.i 7+1+ ↑(z.s 4).length+ ↑v1=z.i 7+1+ ↑(z.s 4).length+ ↑v1)/\(65536<z.i 7+1+v0->65536<z.i 7+1+v0+v6)) (λy0=>(pM (y0.i 7))/\(y0.i 7<=65536->z.i 7+1+ ↑(z.s 4).length+ ↑v1=y0.i 7)/\(65536<y0.i 7->65536<z.i 7+1+v0+v6)) λy0=>(.ax ((pM (y0.i 7))/\(y0.i 7<=65536->z.i 7+ ↑v4=y0.i 7)/\(65536<y0.i 7->65536<z.i 7+(↑v4:Int))/\(65536<y0.i 7↔65536<y0.i 7)))) (.cl v2 (eE k (z.g 6) 0=0/\(z.g 6).length<=200/\v5/\(0<=IntKind.i64.wrap v3/\IntKind.i64.wrap v3<=2000000)/\(IntKind.i64.wrap v3<=65536->IntKind.i64.wrap v3+ ↑v1=IntKind.i64.wrap v3+ ↑v1)/\(65536<IntKind.i64.wrap v3->65536<IntKind.i64.wrap v3+v6)) (λy1=>(pM (y1.i 7))/\(y1.i 7<=65536->IntKind.i64.wrap v3+ ↑v1=y1.i 7)/\(65536<y1.i 7->65536<IntKind.i64.wrap v3+v6)) λy1=>(.ax ((pM (y1.i 7))/\(y1.i 7<=65536->z.i 7+ ↑v4=y1.i 7)/\(65536<y1.i 7->65536<z.i 7+(↑v4:Int))/\(65536<y1.i 7↔65536<y1.i 7))))))) by dsimp only [CN,va,uZ] at hA;have:=hv8 k z;have:=hv9 k z;have:=V7 z;have:=Mp k (z.s 4) (z.g 6);exact jO
abbrev Zc(a:Prop)(b c d:Int)(e:List Nat)(f g:List G):=Fm.cl (a) (eG 16 b c d e f g=(0:Int)/\tE 16 c e f g/\0+ym 16 e g<=100000000) (λy=>y.s 20= []++dN 16 b c d e f g)
def oW:bq 37 Az:=bC 7 273 (ai MG (ai (AD 16) (ai (AC 16) eN))) lN λz hA=>show Fm.den (let v0:=(gU (z.i 1) (z.i 2) (z.i 3) (z.s 4) (z.g 5) (z.g 6)=(0:Int)-> []=dN 16 (z.i 1) (z.i 2) (z.i 3) (z.s 4) (z.g 5) (z.g 6)/\(dN 16 (z.i 1) (z.i 2) (z.i 3) (z.s 4) (z.g 5) (z.g 6)).length<=65536);let v1:=((5:Int)=gU (z.i 1) (z.i 2) (z.i 3) (z.s 4) (z.g 5) (z.g 6)/\v0/\(¬gU (z.i 1) (z.i 2) (z.i 3) (z.s 4) (z.g 5) (z.g 6)=(0:Int)->pV));let v2:=(↑(Q6 16 (z.s 4) (z.g 6)):Int);(.ct (tE 16 (z.i 2) (z.s 4) (z.g 5) (z.g 6)) (λy0=>y0.i 10=eG 16 (z.i 1) (z.i 2) (z.i 3) (z.s 4) (z.g 5) (z.g 6)) λy0=>(.two (y0.i 10≠0) (.ax (y0.i 10=gU (z.i 1) (z.i 2) (z.i 3) (z.s 4) (z.g 5) (z.g 6)/\v0/\(¬gU (z.i 1) (z.i 2) (z.i 3) (z.s 4) (z.g 5) (z.g 6)=(0:Int)->pV))) (.ct (eG 16 (z.i 1) (z.i 2) (z.i 3) (z.s 4) (z.g 5) (z.g 6)=(0:Int)/\(0:Int)<=0/\(0:Int)<=65536) (λy1=>(pM (y1.i 7))/\(y1.i 7<=65536->0+v2=y1.i 7)/\(65536<y1.i 7->65536<0+v2)/\(y1.p 10↔65536<y1.i 7)) λy1=>(.two (y1.p 10) (.ax v1) (Zc (lM) (z.i 1) (z.i 2) (z.i 3) (z.s 4) (z.g 5) (z.g 6) λy2=>(.two (65536<(↑(y2.s 20).length:Int)) (.ax v1) (.an (oP (y2.s 20)) (.at ((0:Int)=gU (z.i 1) (z.i 2) (z.i 3) (z.s 4) (z.g 5) (z.g 6)/\(gU (z.i 1) (z.i 2) (z.i 3) (z.s 4) (z.g 5) (z.g 6)=(0:Int)->y2.s 20=dN 16 (z.i 1) (z.i 2) (z.i 3) (z.s 4) (z.g 5) (z.g 6)/\(dN 16 (z.i 1) (z.i 2) (z.i 3) (z.s 4) (z.g 5) (z.g 6)).length<=65536)/\(¬gU (z.i 1) (z.i 2) (z.i 3) (z.s 4) (z.g 5) (z.g 6)=(0:Int)->y2.s 20= []))))))))))) by dsimp only [Az,qy,va,X_,xb,T9,Ms] at hA;have:=@Fk (z.i 1) (z.i 2) (z.i 3) (z.s 4) (z.g 5) (z.g 6);have:=@Ay (z.i 1) (z.i 2) (z.i 3) (z.s 4) (z.g 5) (z.g 6);have:=@CL (z.i 1) (z.i 2) (z.i 3) (z.s 4) (z.g 5) (z.g 6);have v1:=Ft z;have v2:=MF z;dsimp only [uZ,Ms,xb] at v1 v2;exact jO
abbrev Yb(a:Int)(b:List Nat)(c d:List G)(e f:Int)(g:List Nat):=Fm.ct (tE 16 a b c d/\ym 16 b d<=10000000) (λy=>y.i 11=gU e a f b c d/\(gU e a f b c d=(0:Int)->y.s 10=dN 16 e a f b c d/\g.length<=65536)/\(¬gU e a f b c d=(0:Int)->y.s 10= []))
abbrev Q_(a:List Nat):=Fm.ct (a.length<=999999) (λy=>hT y 300=bN a)
def Fu:bq 16 Mw:=bC 3 1 (ai oW (ai E5 eN)) lN λz hA=>show Fm.den ((Yb (z.i 2) (z.s 4) (z.g 5) (z.g 6) (z.i 1) (z.i 3) (dN 16 (z.i 1) (z.i 2) (z.i 3) (z.s 4) (z.g 5) (z.g 6)) λy0=>(.two (y0.i 11≠0) (.ax (y0.i 11=gU (z.i 1) (z.i 2) (z.i 3) (z.s 4) (z.g 5) (z.g 6)/\hZ=CM (z.i 1) (z.i 2) (z.i 3) (z.s 4) (z.g 5) (z.g 6))) (Q_ (y0.s 10) λy1=>(.ax ((0:Int)=gU (z.i 1) (z.i 2) (z.i 3) (z.s 4) (z.g 5) (z.g 6)/\hT y1 300=CM (z.i 1) (z.i 2) (z.i 3) (z.s 4) (z.g 5) (z.g 6))))))) by dsimp only [Mw,Fo,va,X_,xb,T9,ehY] at hA;have:=@Mv (z.i 1) (z.i 2) (z.i 3) (z.s 4) (z.g 5) (z.g 6);have:=@Fl (z.i 1) (z.i 2) (z.i 3) (z.s 4) (z.g 5) (z.g 6);exact jO
def sJ:bq 160 qy:=bC 5 17 (ai My (ai (MD 16) eN)) lN λz hA=>show Fm.den (let v0:=(gU (z.i 1) (z.i 2) (z.i 3) (z.s 4) (z.g 5) (z.g 6)=(0:Int)-> []=dN 16 (z.i 1) (z.i 2) (z.i 3) (z.s 4) (z.g 5) (z.g 6)/\(dN 16 (z.i 1) (z.i 2) (z.i 3) (z.s 4) (z.g 5) (z.g 6)).length<=65536);let v1:=(¬gU (z.i 1) (z.i 2) (z.i 3) (z.s 4) (z.g 5) (z.g 6)=(0:Int)->pV);(.ct (tE 16 (z.i 2) (z.s 4) (z.g 5) (z.g 6)) (λy0=>y0.i 10=eG 16 (z.i 1) (z.i 2) (z.i 3) (z.s 4) (z.g 5) (z.g 6)) λy0=>(.two (y0.i 10≠0) (.ax (y0.i 10=gU (z.i 1) (z.i 2) (z.i 3) (z.s 4) (z.g 5) (z.g 6)/\v0/\v1)) (Zc (lM) (z.i 1) (z.i 2) (z.i 3) (z.s 4) (z.g 5) (z.g 6) λy1=>(.two (65536<(↑(y1.s 20).length:Int)) (.ax ((5:Int)=gU (z.i 1) (z.i 2) (z.i 3) (z.s 4) (z.g 5) (z.g 6)/\v0/\v1)) (.an (oP (y1.s 20)) (.at ((0:Int)=gU (z.i 1) (z.i 2) (z.i 3) (z.s 4) (z.g 5) (z.g 6)/\(gU (z.i 1) (z.i 2) (z.i 3) (z.s 4) (z.g 5) (z.g 6)=(0:Int)->y1.s 20=dN 16 (z.i 1) (z.i 2) (z.i 3) (z.s 4) (z.g 5) (z.g 6)/\(dN 16 (z.i 1) (z.i 2) (z.i 3) (z.s 4) (z.g 5) (z.g 6)).length<=65536)/\(¬gU (z.i 1) (z.i 2) (z.i 3) (z.s 4) (z.g 5) (z.g 6)=(0:Int)->y1.s 20= []))))))))) by dsimp only [qy,va,X_,xb,T9,Ms] at hA;have:=@Fk (z.i 1) (z.i 2) (z.i 3) (z.s 4) (z.g 5) (z.g 6);have:=@Ay (z.i 1) (z.i 2) (z.i 3) (z.s 4) (z.g 5) (z.g 6);have:=@CL (z.i 1) (z.i 2) (z.i 3) (z.s 4) (z.g 5) (z.g 6);have v1:=Ft z;have v2:=MF z;dsimp only [uZ,Ms,xb] at v1 v2;exact jO
def V9:bq 81 Fo:=bC 3 1 (ai sJ (ai E7 eN)) lN λz hA=>show Fm.den ((Yb (z.i 2) (z.s 4) (z.g 5) (z.g 6) (z.i 1) (z.i 3) (dN 16 (z.i 1) (z.i 2) (z.i 3) (z.s 4) (z.g 5) (z.g 6)) λy0=>(.two (y0.i 11≠0) (.ax (y0.i 11=gU (z.i 1) (z.i 2) (z.i 3) (z.s 4) (z.g 5) (z.g 6)/\hZ=CM (z.i 1) (z.i 2) (z.i 3) (z.s 4) (z.g 5) (z.g 6))) (Q_ (y0.s 10) λy1=>(.ax ((0:Int)=gU (z.i 1) (z.i 2) (z.i 3) (z.s 4) (z.g 5) (z.g 6)/\hT y1 300=CM (z.i 1) (z.i 2) (z.i 3) (z.s 4) (z.g 5) (z.g 6))))))) by dsimp only [Fo,va,X_,xb,T9,ehY] at hA;have:=@Mv (z.i 1) (z.i 2) (z.i 3) (z.s 4) (z.g 5) (z.g 6);have:=@Fl (z.i 1) (z.i 2) (z.i 3) (z.s 4) (z.g 5) (z.g 6);exact jO
noncomputable section
def ib(kd i sc:Int)(t:List Nat)(ns ks:List G):Prop:=kd=0/\i=0/\sc=0/\t= []/\ns.length=0/\ks.length=0
def bH(kd i sc:Int)(t:List Nat)(ns ks:List G):ib kd i sc t ns ks↔kd=0/\i=0/\sc=0/\t= []/\ns.length=0/\ks.length=0:=Iff.rfl
def ic(kd:Int)(tx:List Nat)(tb dc vr:Int)(bl hz gn:Prop)(ab ae:Int):Prop:=
 if kd=1 then(1<=tx.length/\tx.length<=4096)/\tb=0/\dc=0/\vr=0/\bl/\hz/\¬gn/\ab=0/\ae=0
 else if kd=2 then(1<=tb/\tb<=64)/\(1<=dc/\dc<=65536)/\(0<=vr/\vr<=2147483648)/\tx= []/\ab=0/\ae=0/\(gn->bl)
 else if kd=3 then(1<=tb/\tb<=64)/\(1<=dc/\dc<=65536)/\(1<=vr/\vr<=2147483648)/\tx= []/\bl/\hz/\¬gn/\ab=0/\ae=0
 else if kd=4 then(0<=ab/\ab<=2147483648)/\(0<=ae/\ae<=2147483648)/\tx= []/\tb=0/\dc=0/\vr=0/\bl/\hz/\¬gn
 else if kd=5 then(1<=tb/\tb<=64)/\(1<=tx.length/\tx.length<=40)/\dc=0/\vr=0/\bl/\hz/\¬gn/\ab=0/\ae=0
 else if kd=7 then(1<=tb/\tb<=64)/\(1<=tx.length/\tx.length<=40)/\dc=0/\vr=0/\bl/\hz/\¬gn/\ab=0/\ae=0
 else if kd=6 then(1<=tb/\tb<=64)/\tx= []/\dc=0/\vr=0/\bl/\hz/\¬gn/\ab=0/\ae=0
 else False
section
variable{kd:Int}{tx:List Nat}{tb dc vr:Int}{bl hz gn:Prop}{ab ae:Int}
def AE(h:kd=1):ic kd tx tb dc vr bl hz gn ab ae↔(1<=tx.length/\tx.length<=4096)/\tb=0/\dc=0/\vr=0/\bl/\hz/\¬gn/\ab=0/\ae=0:=by subst h;rfl
def AF(h:kd=2):ic kd tx tb dc vr bl hz gn ab ae↔(1<=tb/\tb<=64)/\(1<=dc/\dc<=65536)/\(0<=vr/\vr<=2147483648)/\tx= []/\ab=0/\ae=0/\(gn->bl):=by subst h;rfl
def Fv(h:kd=3):ic kd tx tb dc vr bl hz gn ab ae↔(1<=tb/\tb<=64)/\(1<=dc/\dc<=65536)/\(1<=vr/\vr<=2147483648)/\tx= []/\bl/\hz/\¬gn/\ab=0/\ae=0:=by subst h;rfl
def Fw(h:kd=4):ic kd tx tb dc vr bl hz gn ab ae↔(0<=ab/\ab<=2147483648)/\(0<=ae/\ae<=2147483648)/\tx= []/\tb=0/\dc=0/\vr=0/\bl/\hz/\¬gn:=by subst h;rfl
def Fx(h:kd=5):ic kd tx tb dc vr bl hz gn ab ae↔(1<=tb/\tb<=64)/\(1<=tx.length/\tx.length<=40)/\dc=0/\vr=0/\bl/\hz/\¬gn/\ab=0/\ae=0:=by subst h;rfl
def Fy(h:kd=7):ic kd tx tb dc vr bl hz gn ab ae↔(1<=tb/\tb<=64)/\(1<=tx.length/\tx.length<=40)/\dc=0/\vr=0/\bl/\hz/\¬gn/\ab=0/\ae=0:=by subst h;rfl
def Fz(h:kd=6):ic kd tx tb dc vr bl hz gn ab ae↔(1<=tb/\tb<=64)/\tx= []/\dc=0/\vr=0/\bl/\hz/\¬gn/\ab=0/\ae=0:=by subst h;rfl
def MH(h:kd<1∨7<kd):¬ic kd tx tb dc vr bl hz gn ab ae:=by unfold ic;rw[if_neg (by omega),if_neg (by omega),if_neg (by omega),if_neg (by omega),if_neg (by omega),if_neg (by omega),if_neg (by omega)];exact id
def MI(h:ic kd tx tb dc vr bl hz gn ab ae):1<=kd/\kd<=7:=by
 by_cases e:kd<1∨7<kd
 ·exact absurd h (MH e)
 ·omega
def oX(h:ic kd tx tb dc vr bl hz gn ab ae):(0<=tb/\tb<=64)/\(0<=dc/\dc<=65536)/\(0<=vr/\vr<=2147483648)/\tx.length<=4096/\(0<=ab/\ab<=2147483648)/\(0<=ae/\ae<=2147483648):=by
 obtain⟨h1,h2⟩:=MI h;have hd:kd=1∨kd=2∨kd=3∨kd=4∨kd=5∨kd=6∨kd=7:=by omega
 have t0:tx= []->tx.length=0:=λe=>by rw[e];rfl
 rcases hd with e|e|e|e|e|e|e
 ·have:=(AE e).1 h;refine⟨?_, ?_, ?_, ?_, ?_, ?_⟩ <;> omega
 ·have:=(AF e).1 h;have:=t0 this.2.2.2.1;refine⟨?_, ?_, ?_, ?_, ?_, ?_⟩ <;> omega
 ·have:=(Fv e).1 h;have:=t0 this.2.2.2.1;refine⟨?_, ?_, ?_, ?_, ?_, ?_⟩ <;> omega
 ·have:=(Fw e).1 h;have:=t0 this.2.2.1;refine⟨?_, ?_, ?_, ?_, ?_, ?_⟩ <;> omega
 ·have:=(Fx e).1 h;refine⟨?_, ?_, ?_, ?_, ?_, ?_⟩ <;> omega
 ·have:=(Fz e).1 h;have:=t0 this.2.1;refine⟨?_, ?_, ?_, ?_, ?_, ?_⟩ <;> omega
 ·have:=(Fy e).1 h;refine⟨?_, ?_, ?_, ?_, ?_, ?_⟩ <;> omega
end
def AG{a b:Nat}:Nat.lor a b=0↔a=0/\b=0:=by
 constructor
 ·intro h;have h:a ||| b=0:=h;exact Nat.or_eq_zero_iff.1 h
 ·rintro⟨rfl,rfl⟩;rfl
def sK{n:Int}(h: -9223372036854775808<=n/\n<9223372036854775808):aE (am .i64) n=0↔n=0:=by
 cases n with
 |ofNat m=>
  show m%18446744073709551616=0↔_;have:(m:Int)<9223372036854775808:=h.2;constructor
  ·intro e;have:m=0:=by omega
   subst this;rfl
  ·intro e;have:m=0:=by simpa using e
   subst this;rfl
 |negSucc m=>
  show 18446744073709551615-m%18446744073709551616=0↔_;have:=h.1;constructor
  ·intro e;omega
  ·intro e;cases e
def CU(n:Int):aE (am .i64) n<18446744073709551616:=by
 cases n with
 |ofNat m=>exact Nat.mod_lt _ (by decide)
 |negSucc m=>show 18446744073709551615-m%18446744073709551616<_;omega
def sL{u:Nat}(h:u<18446744073709551616):IntKind.i64.wrap (Int.ofNat u)=0↔u=0:=by
 have:=V1 (Int.ofNat u);constructor
 ·intro e;rw[e] at this;have e2:(Int.ofNat u)%18446744073709551616=(u:Int):=by show(u:Int)%_=_;omega
  omega
 ·rintro rfl;rfl
def MJ(u:Nat)(h:u<18446744073709551616):aE (am .i64) (IntKind.i64.wrap (Int.ofNat u))=u:=by
 have h1:=V1 (Int.ofNat u)
 have h1:IntKind.i64.wrap (Int.ofNat u)%18446744073709551616=(u:Int):=by rw[h1];show(u:Int)%_=_;omega
 generalize IntKind.i64.wrap (Int.ofNat u)=n at h1
 cases n with
 |ofNat m=>show m%18446744073709551616=u;have h1:(m:Int)%18446744073709551616=u:=h1;omega
 |negSucc m=>show 18446744073709551615-m%18446744073709551616=u;have h1:(Int.negSucc m)%18446744073709551616=u:=h1;omega
def or3{x y z:Int}(hx: -9223372036854775808<=x/\x<9223372036854775808)(hy: -9223372036854775808<=y/\y<9223372036854775808)(hz: -9223372036854775808<=z/\z<9223372036854775808):
 IntKind.i64.wrap (Int.ofNat ((aE (am .i64) (IntKind.i64.wrap (Int.ofNat ((aE (am .i64) x).lor (aE (am .i64) y))))).lor (aE (am .i64) z)))=0↔x=0/\y=0/\z=0:=by
 have l1:(aE (am .i64) x).lor (aE (am .i64) y)<18446744073709551616:=Nat.or_lt_two_pow (n:=64) (CU x) (CU y)
 have l2:((aE (am .i64) x).lor (aE (am .i64) y)).lor (aE (am .i64) z)<18446744073709551616:=Nat.or_lt_two_pow (n:=64) l1 (CU z)
 rw[MJ _ l1,sL l2,AG,AG,sK hx,sK hy,sK hz,and_assoc]
def fH(kd:Int)(tx:List Nat)(tb dc vr vk vi vs:Int)(vt:List Nat)(vn vx:List G)(h:G)(gn:Prop)(ab ae:Int):Int:=
 @ite Int (¬ic kd tx tb dc vr (ib vk vi vs vt vn vx) (h=hZ) gn ab ae) (Classical.propDecidable _) 3
  (@ite Int (kd=2/\¬gn) (Classical.propDecidable _) (@ite Int (gU vk vi vs vt vn vx=0) (Classical.propDecidable _) (@ite Int (CM vk vi vs vt vn vx=h) (Classical.propDecidable _) 0 18) (gU vk vi vs vt vn vx)) 0)
section
variable{kd:Int}{tx:List Nat}{tb dc vr vk vi vs:Int}{vt:List Nat}{vn vx:List G}{h:G}{gn:Prop}{ab ae:Int}
def iS(h1:¬ic kd tx tb dc vr (ib vk vi vs vt vn vx) (h=hZ) gn ab ae):fH kd tx tb dc vr vk vi vs vt vn vx h gn ab ae=3:=if_pos h1
def iT(h1:ic kd tx tb dc vr (ib vk vi vs vt vn vx) (h=hZ) gn ab ae)(h2:¬(kd=2/\¬gn)):fH kd tx tb dc vr vk vi vs vt vn vx h gn ab ae=0:=by unfold fH;rw[if_neg (Classical.not_not.2 h1),if_neg h2]
def kX(h1:ic kd tx tb dc vr (ib vk vi vs vt vn vx) (h=hZ) gn ab ae)(h2:kd=2/\¬gn)(h3:¬gU vk vi vs vt vn vx=0):fH kd tx tb dc vr vk vi vs vt vn vx h gn ab ae=gU vk vi vs vt vn vx:=by unfold fH;rw[if_neg (Classical.not_not.2 h1),if_pos h2,if_neg h3]
def nJ(h1:ic kd tx tb dc vr (ib vk vi vs vt vn vx) (h=hZ) gn ab ae)(h2:kd=2/\¬gn)(h3:gU vk vi vs vt vn vx=0)(h4:¬CM vk vi vs vt vn vx=h):fH kd tx tb dc vr vk vi vs vt vn vx h gn ab ae=18:=by unfold fH;rw[if_neg (Classical.not_not.2 h1),if_pos h2,if_pos h3,if_neg h4]
def oY(h1:ic kd tx tb dc vr (ib vk vi vs vt vn vx) (h=hZ) gn ab ae)(h2:kd=2/\¬gn)(h3:gU vk vi vs vt vn vx=0)(h4:CM vk vi vs vt vn vx=h):fH kd tx tb dc vr vk vi vs vt vn vx h gn ab ae=0:=by unfold fH;rw[if_neg (Classical.not_not.2 h1),if_pos h2,if_pos h3,if_pos h4]
def fc(h0:fH kd tx tb dc vr vk vi vs vt vn vx h gn ab ae=0):ic kd tx tb dc vr (ib vk vi vs vt vn vx) (h=hZ) gn ab ae/\(kd=2/\¬gn->gU vk vi vs vt vn vx=0):=by
 by_cases h1:ic kd tx tb dc vr (ib vk vi vs vt vn vx) (h=hZ) gn ab ae
 ·refine⟨h1,λh2=>?_⟩;by_cases h3:gU vk vi vs vt vn vx=0
  ·exact h3
  ·rw[kX h1 h2 h3] at h0;exact absurd h0 h3
 ·rw[iS h1] at h0;cases h0
end
def vo(tx:List Nat)(tb dc vr vi:Int)(vt:List Nat)(vn vx:List G)(h:G)(ab ae:Int):Prop:=
 tx.length<=1000000/\(-9223372036854775808<=tb/\tb<9223372036854775808)/\(-9223372036854775808<=dc/\dc<9223372036854775808)/\(-9223372036854775808<=vr/\vr<9223372036854775808)/\
 (-9223372036854775808<=ab/\ab<9223372036854775808)/\(-9223372036854775808<=ae/\ae<9223372036854775808)/\tE 16 vi vt vn vx/\ym 16 vt vx<=10000000/\HOk h
def fe{tx:List Nat}{tb dc vr vi:Int}{vt:List Nat}{vn vx:List G}{h:G}{ab ae:Int}(h0:vo tx tb dc vr vi vt vn vx h ab ae):tx.length<=1000000/\(-9223372036854775808<=tb/\tb<9223372036854775808)/\(-9223372036854775808<=dc/\dc<9223372036854775808)/\(-9223372036854775808<=vr/\vr<9223372036854775808)/\
 (-9223372036854775808<=ab/\ab<9223372036854775808)/\(-9223372036854775808<=ae/\ae<9223372036854775808)/\tE 16 vi vt vn vx/\ym 16 vt vx<=10000000/\HOk h:=h0
def lp(kd:Int)(tx:List Nat)(tb dc vr:Int)(h:G)(ab ae:Int):List Nat:=
 (kd%256).toNat::(aK tb.toNat++(aK dc.toNat++(aK vr.toNat++(aK tx.length++(tx++(aK ab.toNat++(aK ae.toNat++(if kd=2 then hB h else []))))))))
def xe{kd:Int}{tx:List Nat}{tb dc vr:Int}{h:G}{ab ae:Int}(e:kd=2):lp kd tx tb dc vr h ab ae= [(kd%256).toNat]++(aK tb.toNat++(aK dc.toNat++(aK vr.toNat++(aK tx.length++(tx++(aK ab.toNat++(aK ae.toNat++hB h))))))):=by unfold lp;rw[if_pos e];rfl
def sM{kd:Int}{tx:List Nat}{tb dc vr:Int}{h:G}{ab ae:Int}(e:¬kd=2):lp kd tx tb dc vr h ab ae= [(kd%256).toNat]++(aK tb.toNat++(aK dc.toNat++(aK vr.toNat++(aK tx.length++(tx++(aK ab.toNat++aK ae.toNat)))))):=by unfold lp;rw[if_neg e,abp];rfl
theorem bP{n:Int}(h:n<18446744073709551616):(aK n.toNat).length<=10:=cL h
theorem fu{n:Nat}(h:n<18446744073709551616):(aK n).length<=10:=wR 10 n (abh h (by decide)) (by decide)
def kY{kd:Int}{tx:List Nat}{tb dc vr:Int}{h:G}{ab ae:Int}(h1:tb<9223372036854775808)(h2:dc<9223372036854775808)(h3:vr<9223372036854775808)(h4:ab<9223372036854775808)(h5:ae<9223372036854775808)(h6:tx.length<=1000000)(h7:HOk h):(lp kd tx tb dc vr h ab ae).length<=93+tx.length:=by have a1:=bP (n:=tb) (by omega);have a2:=bP (n:=dc) (by omega);have a3:=bP (n:=vr) (by omega);have a4:=bP (n:=ab) (by omega);have a5:=bP (n:=ae) (by omega);have a6:=fu (n:=tx.length) (by omega);have a7:=Ma h7;unfold lp;split <;> simp [a7] <;> omega
abbrev mD(e:G):Int:=fH (gI (aa e 0)) (gS (aa e 1)) (gI (aa e 2)) (gI (aa e 3)) (gI (aa e 4)) (gI (aa e 5)) (gI (aa e 6)) (gI (aa e 7)) (gS (aa e 8)) (gL (aa e 9)) (gL (aa e 10)) (hX (aa e 11)) (gI (aa e 12)=1) (gI (aa e 13)) (gI (aa e 14))
abbrev xf(e:G):Prop:=vo (gS (aa e 1)) (gI (aa e 2)) (gI (aa e 3)) (gI (aa e 4)) (gI (aa e 6)) (gS (aa e 8)) (gL (aa e 9)) (gL (aa e 10)) (hX (aa e 11)) (gI (aa e 13)) (gI (aa e 14))
abbrev tU(e:G):List Nat:=lp (gI (aa e 0)) (gS (aa e 1)) (gI (aa e 2)) (gI (aa e 3)) (gI (aa e 4)) (hX (aa e 11)) (gI (aa e 13)) (gI (aa e 14))
abbrev jR(e:G):List Nat:=dN 16 (gI (aa e 5)) (gI (aa e 6)) (gI (aa e 7)) (gS (aa e 8)) (gL (aa e 9)) (gL (aa e 10))
def qA(es:List G):Prop:=∀e∈es,xf e
def sN{es:List G}{i:Int}(h:qA es)(h0:0<=i)(hi:i<es.length):xf (aq es i.toNat):=h _ (dn h0 hi)
def fJ(es:List G)(i:Int):Int:=tT ((es.drop i.toNat).map λe=>mD e)
def nK{es:List G}{i:Int}(h0:0<=i)(h:i<es.length)(e:mD (aq es i.toNat)=0):fJ es i=fJ es (i+1):=by unfold fJ;rw[eH h0 h,aaP,tT,if_pos e]
def FA{es:List G}{i:Int}(h0:0<=i)(h:i<es.length)(e:¬mD (aq es i.toNat)=0):fJ es i=mD (aq es i.toNat):=by unfold fJ;rw[eH h0 h,aaP,tT,if_neg e]
def xg{es:List G}{i:Int}(h:(es.length:Int)<=i):fJ es i=0:=by unfold fJ;rw[aa2 (by omega)];rfl
def kZ{es:List G}{i:Int}(h:fJ es 0=0)(h0:0<=i)(hi:i<es.length):mD (aq es i.toNat)=0:=
 sA h _ (abJ (f:=λe=>mD e) (by rw[show(0:Int).toNat=0 by rfl,aa4];exact dn h0 hi))
def yn(d:Prop)(e:G):List Nat:=tU e++(@ite _ (gI (aa e 0)=2) (Classical.propDecidable _) (@ite _ (gI (aa e 12)=1∨¬d) (Classical.propDecidable _) [0] (1::(aK (jR e).length++jR e))) [])
def nL{d:Prop}{e:G}(h:¬gI (aa e 0)=2):yn d e=tU e:=by unfold yn;rw[if_neg h,abp]
def sO{d:Prop}{e:G}(h:gI (aa e 0)=2)(h1:gI (aa e 12)=1∨¬d):yn d e=tU e++ [0]:=by unfold yn;rw[if_pos h,if_pos h1]
def kH{d:Prop}{e:G}(h:gI (aa e 0)=2)(h1:¬(gI (aa e 12)=1∨¬d)):yn d e=tU e++([1]++(aK (jR e).length++jR e)):=by unfold yn;rw[if_pos h,if_neg h1];rfl
def fZ(d:Prop)(es:List G)(i:Int):List Nat:=(es.drop i.toNat).flatMap (yn d)
def nM{d:Prop}{es:List G}{i:Int}(h0:0<=i)(h:i<es.length):fZ d es i=yn d (aq es i.toNat)++fZ d es (i+1):=by unfold fZ;rw[eH h0 h,List.flatMap_cons]
def qB{d:Prop}{es:List G}{i:Int}(h:(es.length:Int)<=i):fZ d es i= []:=by unfold fZ;rw[aa2 (by omega)];rfl
def k_(ix tm tn:Int)(pv:G):List Nat:=aK ix.toNat++(aK tm.toNat++(aK tn.toNat++hB pv))
def gV{ix tm tn:Int}{pv:G}(h:HOk pv)(h1:ix<9223372036854775808)(h2:tm<9223372036854775808)(h3:tn<9223372036854775808):(k_ ix tm tn pv).length<=62:=by have a1:=bP (n:=ix) (by omega);have a2:=bP (n:=tm) (by omega);have a3:=bP (n:=tn) (by omega);have a4:=Ma h;unfold k_;simp [a4];omega
def mE(d:Prop)(ix tm tn:Int)(pv:G)(es:List G):List Nat:=k_ ix tm tn pv++(aK es.length++fZ d es 0)
def xh(ix tm tn:Int)(es:List G):Prop:=(0<=ix/\ix<=2147483648)/\(0<=tm/\tm<=9007199254740992)/\(0<=tn/\tn<=9007199254740992)/\1<=es.length/\es.length<=200
def bz(ix tm tn:Int)(pv:G)(es:List G):Int:=
 @ite Int (¬xh ix tm tn es) (Classical.propDecidable _) 1 (if fJ es 0=0 then(if 262144<(mE True ix tm tn pv es).length then 5 else 0) else fJ es 0)
section
variable{ix tm tn:Int}{pv:G}{es:List G}
def jz(h:¬xh ix tm tn es):bz ix tm tn pv es=1:=if_pos h
def jA(h:xh ix tm tn es)(h1:¬fJ es 0=0):bz ix tm tn pv es=fJ es 0:=by unfold bz;rw[if_neg (Classical.not_not.2 h),if_neg h1]
def gu(h:xh ix tm tn es)(h1:fJ es 0=0)(h2:262144<(mE True ix tm tn pv es).length):bz ix tm tn pv es=5:=by unfold bz;rw[if_neg (Classical.not_not.2 h),if_pos h1,if_pos h2]
def mr(h:xh ix tm tn es)(h1:fJ es 0=0)(h2:¬262144<(mE True ix tm tn pv es).length):bz ix tm tn pv es=0:=by unfold bz;rw[if_neg (Classical.not_not.2 h),if_pos h1,if_neg h2]
def fg(h0:bz ix tm tn pv es=0):xh ix tm tn es/\fJ es 0=0/\(mE True ix tm tn pv es).length<=262144:=by
 by_cases h:xh ix tm tn es
 ·by_cases h1:fJ es 0=0
  ·by_cases h2:262144<(mE True ix tm tn pv es).length
   ·rw[gu h h1 h2] at h0;cases h0
   ·exact⟨h,h1,by omega⟩
  ·rw[jA h h1] at h0;exact absurd h0 h1
 ·rw[jz h] at h0;cases h0
end
def xi{d:Prop}{e:G}(h:mD e=0)(hi:xf e):(yn d e).length<=70000:=by
 obtain⟨h1,h2⟩:=fc h;have hn:=oX h1;have hl:(tU e).length<=93+(gS (aa e 1)).length:=kY (kd:=gI (aa e 0)) (tx:=gS (aa e 1)) (tb:=gI (aa e 2)) (dc:=gI (aa e 3)) (vr:=gI (aa e 4)) (h:=hX (aa e 11)) (ab:=gI (aa e 13)) (ae:=gI (aa e 14)) (by omega) (by omega) (by omega) (by omega) (by omega) (by omega) hi.2.2.2.2.2.2.2.2;by_cases hk:gI (aa e 0)=2
 ·by_cases hg:gI (aa e 12)=1∨¬d
  ·rw[sO hk hg,aav];have:([0]:List Nat).length=1:=rfl;omega
  ·rw[kH hk hg];have he:(jR e).length<=65536:=(xd (h2 ⟨hk,λhn=>hg (.inl hn)⟩)).2;have:=fu (n:=(jR e).length) (by omega);rw[aav,aav,aav];have:([1]:List Nat).length=1:=rfl;omega
 ·rw[nL hk];omega
def xj{d:Prop}{es:List G}(h:fJ es 0=0)(hi:qA es):∀(n:Nat) (i:Int),0<=i->i+n=es.length->(fZ d es i).length<=70000 * n
 |0,i,h0,e=>by rw[qB (by omega)];exact aaD _
 |n+1,i,h0,e=>by have:=xj (d:=d) h hi n (i+1) (by omega) (by omega);have:=xi (d:=d) (kZ h h0 (by omega)) (sN hi h0 (by omega));rw[nM h0 (by omega),aav];omega
def MK{d:Prop}{es:List G}(h:fJ es 0=0)(hi:qA es)(hn:es.length<=200){i:Int}(h0:0<=i)(h1:i<=es.length):(fZ d es i).length<=14000000:=by have:=xj (d:=d) h hi ((es.length:Int)-i).toNat i h0 (by omega);omega
def en:List Sh:=[.i .i64 1,.s 2,.i .i64 3,.i .i64 4,.i .i64 5,.i .i64 6,.i .i64 7,.i .i64 8,.s 9,.v 1 10,.v 2 11]++hs 100++ [.b 12,.i .i64 13,.i .i64 14]
def tV(p:Sy)(t:Nat):List Sh:=(List.range 32).map λj=>.pi .u8 (p.i (t+j))
def bk:List Sh:=[.i .i64 21,.i .i64 22,.i .i64 23]++hs 200++ [.v 7 24]
def mF(p:Sy):List Sh:=[.pi .i64 (p.i 21),.pi .i64 (p.i 22),.pi .i64 (p.i 23)]++tV p 200++ [.pv 7 (p.g 24)]
abbrev oc(z:Sy):Prop:=ib (z.i 6) (z.i 7) (z.i 8) (z.s 9) (z.g 10) (z.g 11)
abbrev FB(z:Sy):Prop:=ic (z.i 1) (z.s 2) (z.i 3) (z.i 4) (z.i 5) (oc z) (hT z 100=hZ) (z.p 12) (z.i 13) (z.i 14)
abbrev BI(z:Sy):Prop:=vo (z.s 2) (z.i 3) (z.i 4) (z.i 5) (z.i 7) (z.s 9) (z.g 10) (z.g 11) (hT z 100) (z.i 13) (z.i 14)
abbrev FC(z:Sy):Int:=fH (z.i 1) (z.s 2) (z.i 3) (z.i 4) (z.i 5) (z.i 6) (z.i 7) (z.i 8) (z.s 9) (z.g 10) (z.g 11) (hT z 100) (z.p 12) (z.i 13) (z.i 14)
abbrev IK(z:Sy):List Nat:=lp (z.i 1) (z.s 2) (z.i 3) (z.i 4) (z.i 5) (hT z 100) (z.i 13) (z.i 14)
def AH:FSpec:=⟨[.ag en],[],λz=>(-9223372036854775808<=z.i 3/\z.i 3<9223372036854775808)/\(-9223372036854775808<=z.i 4/\z.i 4<9223372036854775808)/\(-9223372036854775808<=z.i 5/\z.i 5<9223372036854775808),λ_=>.one (.c (.b 50)),λ_=>[],λz y=>y.p 50↔(z.s 2= []/\z.i 3=0/\z.i 4=0/\z.i 5=0/\oc z/\hT z 100=hZ/\¬z.p 12/\z.i 13=0/\z.i 14=0),none⟩
def ML:FSpec:=⟨[.ag en],[],BI,λ_=>.one (.c (.b 50)),λ_=>[],λz y=>y.p 50↔FB z,none⟩
def gW:FSpec:=⟨[.ag en],[],BI,λ_=>.one (.c (.i .i64 50)),λ_=>[],λz y=>y.i 50=FC z,none⟩
def FD:FSpec:=⟨[.c (.gb 0 20),.c (.i .i64 1)],[.growb 5 20],λz=>z.i 1<9223372036854775808/\(z.s 20).length<=900000000,λ_=>.one (.c (.gb 0 20)),λ_=>[.growb 5 20],λz y=>y.s 20=z.s 20++aK (z.i 1).toNat,none⟩
def vq:FSpec:=⟨[.c (.gb 0 20),.ag en],[.growb 5 20],λz=>BI z/\(z.s 20).length<=100000000,λ_=>.one (.c (.gb 0 20)),λ_=>[.growb 5 20],λz y=>y.s 20=z.s 20++IK z,none⟩
def FE:FSpec:=⟨[.ag bk],[],λz=>HOk (hT z 200)/\z.i 21<9223372036854775808/\z.i 22<9223372036854775808/\z.i 23<9223372036854775808,λ_=>.one (.c (.gb 0 20)),λ_=>[.growb 5 20],λz y=>y.s 20=k_ (z.i 21) (z.i 22) (z.i 23) (hT z 200),none⟩
abbrev jJ(es:List G):Prop:=fJ es 0=0/\qA es/\es.length<=200
def FF(p:Sy):LSpec:=⟨[(1,.c (.pb (p.p 25))),(5,.c (.gb 0 20)),(18,.c (.pv 7 (p.g 24))),(19,.c (.pi .i64 (p.g 24).length)),(20,.c (.i .i64 9))],[.growb 5 20],λz=>jJ (p.g 24)/\(0<=z.i 9/\z.i 9<=(p.g 24).length)/\(z.s 20).length+(fZ (p.p 25) (p.g 24) (z.i 9)).length<=20000000,λz=>((p.g 24).length-z.i 9).toNat,[⟨.exit 0,[(5,.c (.gb 0 20))],[.growb 5 20]⟩],λz y=>y.s 20=z.s 20++fZ (p.p 25) (p.g 24) (z.i 9),none,[]⟩
def FG:FSpec:=⟨[.ag bk,.c (.b 25)],[],λz=>jJ (z.g 24)/\HOk (hT z 200)/\z.i 21<9223372036854775808/\z.i 22<9223372036854775808/\z.i 23<9223372036854775808,λ_=>.one (.c (.vb 10)),λ_=>[],λz y=>y.s 10=mE (z.p 25) (z.i 21) (z.i 22) (z.i 23) (hT z 200) (z.g 24),none⟩
abbrev BJ(z:Sy):Prop:=qA (z.g 24)/\HOk (hT z 200)/\(z.g 24).length<=1000000/\z.i 21<9223372036854775808/\z.i 22<9223372036854775808/\z.i 23<9223372036854775808
def vu(p:Sy):LSpec:=⟨[(1,.c (.p 0)),(30,.c (.pv 7 (p.g 24))),(31,.c (.pi .i64 (p.g 24).length)),(32,.c (.i .i64 9))],[.cells 71 (mF p)],λz=>qA (p.g 24)/\(p.g 24).length<=200/\(0<=z.i 9/\z.i 9<=(p.g 24).length)/\fJ (p.g 24) 0=fJ (p.g 24) (z.i 9),λz=>((p.g 24).length-z.i 9).toNat,[⟨.exit 0,[(1,.c (.p 0))],[.cells 71 (mF p)]⟩,⟨.ret,[(2,.c (.i .i64 50))],[.cells 71 (mF p)]⟩],λz y=>(y.i 999=0->fJ (p.g 24) 0=0)/\(¬y.i 999=0->y.i 50=fJ (p.g 24) 0/\¬y.i 50=0),none,[]⟩
def qC:FSpec:=⟨[.ag bk],[],BJ,λ_=>.one (.c (.i .i64 50)),λ_=>[],λz y=>y.i 50=bz (z.i 21) (z.i 22) (z.i 23) (hT z 200) (z.g 24),none⟩
def sP:FSpec:=⟨[.ag en],[],BI,λ_=>.tu [.ag (hs 300),.c (.i .i64 50)],λ_=>[],λz y=>y.i 50=FC z/\(FC z=0->hT y 300=bN (IK z))/\(¬FC z=0->hT y 300=hZ),none⟩
def xk:FSpec:=⟨[.ag bk],[],λz=>HOk (hT z 200)/\z.i 21<9223372036854775808/\z.i 22<9223372036854775808/\z.i 23<9223372036854775808,λ_=>.one (.ag (hs 300)),λ_=>[],λz y=>hT y 300=dK (k_ (z.i 21) (z.i 22) (z.i 23) (hT z 200)),none⟩
abbrev sQ(z:Sy):Int:=bz (z.i 21) (z.i 22) (z.i 23) (hT z 200) (z.g 24)
def nN:FSpec:=⟨[.ag bk,.c (.b 25)],[],BJ,λ_=>.tu [.c (.vb 10),.c (.i .i64 50)],λ_=>[],λz y=>y.i 50=sQ z/\(sQ z=0->y.s 10=mE (z.p 25) (z.i 21) (z.i 22) (z.i 23) (hT z 200) (z.g 24))/\(¬sQ z=0->y.s 10= []),none⟩
attribute [irreducible] ic fH vo lp qA fJ yn fZ k_ mE xh bz ib
end
abbrev MM(a b:Int):=Fm.ct ((0:Int)<=Max.max 0 a%18446744073709551616/\Max.max 0 a%18446744073709551616<18446744073709551616) (λy=>y.s 10=aK b.toNat)
def nO:bq 223 FD:=bC 1 0 (ai fY eN) lN λz hA=>show Fm.den ((MM (z.i 1) (Max.max 0 (z.i 1)%18446744073709551616) λy0=>(.an (CQ (z.s 20) (y0.s 10)) (.an (CR (z.s 20++y0.s 10) (z.s 20) (y0.s 10)) (.at (z.s 20++y0.s 10=z.s 20++aK (z.i 1).toNat)))))) by
 dsimp only [FD] at hA;have e1:(max 0 (z.i 1)%18446744073709551616).toNat=(z.i 1).toNat∨¬z.i 1<9223372036854775808:=by omega
 have:=@bP (max 0 (z.i 1)%18446744073709551616) (by omega);exact ft
abbrev CV(a:Prop)(b:Int)(c:List Nat):=Fm.cl (a) (b<9223372036854775808/\c.length<=900000000) (λy=>y.s 20=c++aK b.toNat)
abbrev Uf(a:List Nat)(b:List Int):=a.length=a.length/\a.length<=1000000000/\br b
def IL(z:Sy):=@fu (z.g 24).length
def MN:bq 222 FE:=bC 1 0 (ai nO eN) lN λz hA=>show Fm.den ((.cl ((lM)) (z.i 21<9223372036854775808/\0<=900000000) (λy0=>y0.s 20= []++aK (z.i 21).toNat) λy0=>(CV (oP (y0.s 20)) (z.i 22) (y0.s 20) λy1=>(CV (oP (y1.s 20)) (z.i 23) (y1.s 20) λy2=>(.an (Uf (y2.s 20) (jU z 200)) (.an ((y2.s 20++aH (jU z 200)).length=(y2.s 20).length+32/\True) (.at (y2.s 20++aH (jU z 200)=k_ (z.i 21) (z.i 22) (z.i 23) (hT z 200))))))))) by
 dsimp only [FE,bk,hs] at hA;have:=@gV (z.i 21) (z.i 22) (z.i 23) (hT z 200);have:=sy (k_ (z.i 21) (z.i 22) (z.i 23) (hT z 200));have:=IL z;have t1:(((z.g 24).length:Nat):Int).toNat=(z.g 24).length:=Int.toNat_natCast _;have:=@bP (z.i 21);have:=@bP (z.i 22);have:=@bP (z.i 23);have:=cr z 200;have:=@aI z 200;have:=bu z 200;repeat' with_reducible first|intro _|apply ci|apply cm|apply cj|apply cD|apply cA
 all_goals first|omega|grind [ao,ak,aj,aX,aY,aZ,a_,ba,bc,be,bf,bh,aB,List.append_assoc,k_]
abbrev MO(a:Int)(b:List Nat):=a<9223372036854775808/\b.length<=900000000
def sR:bq 224 vq:=bC 3 1 (ai nO eN) lN λz hA=>show Fm.den (let v0:=(z.s 20++ [(z.i 1%256).toNat]);(.an (It (z.s 20) (z.i 1)) (.cl ((wS v0 (z.s 20))) (MO (z.i 3) v0) (λy0=>y0.s 20=z.s 20++ [(z.i 1%256).toNat]++aK (z.i 3).toNat) λy0=>(CV (oP (y0.s 20)) (z.i 4) (y0.s 20) λy1=>(CV (oP (y1.s 20)) (z.i 5) (y1.s 20) λy2=>(CV (oP (y2.s 20)) (↑(z.s 2).length:Int) (y2.s 20) λy3=>(.an (CQ (y3.s 20) (z.s 2)) (.cl ((CR (y3.s 20++z.s 2) (y3.s 20) (z.s 2))) (MO (z.i 13) (y3.s 20++z.s 2)) (λy4=>y4.s 20=y3.s 20++z.s 2++aK (z.i 13).toNat) λy4=>(CV (oP (y4.s 20)) (z.i 14) (y4.s 20) λy5=>(.two (z.i 1=2) (.an (Uf (y5.s 20) (jU z 100)) (.an ((y5.s 20++aH (jU z 100)).length=(y5.s 20).length+32/\True) (.at (y5.s 20++aH (jU z 100)=z.s 20++lp (z.i 1) (z.s 2) (z.i 3) (z.i 4) (z.i 5) (hT z 100) (z.i 13) (z.i 14))))) (.an (oP (y5.s 20)) (.at (y5.s 20=z.s 20++lp (z.i 1) (z.s 2) (z.i 3) (z.i 4) (z.i 5) (hT z 100) (z.i 13) (z.i 14)))))))))))))) by
 dsimp only [vq,en,hs,BI,IK] at hA;have:=bH 0 0 0 [] [] [];have:=bH (z.i 6) (z.i 7) (z.i 8) (z.s 9) (z.g 10) (z.g 11);have:=@fe (z.s 2) (z.i 3) (z.i 4) (z.i 5) (z.i 7) (z.s 9) (z.g 10) (z.g 11) (hT z 100) (z.i 13) (z.i 14);have:=@xe (z.i 1) (z.s 2) (z.i 3) (z.i 4) (z.i 5) (hT z 100) (z.i 13) (z.i 14);have:=@sM (z.i 1) (z.s 2) (z.i 3) (z.i 4) (z.i 5) (hT z 100) (z.i 13) (z.i 14);have:=@bP (z.i 3);have:=@bP (z.i 4);have:=@bP (z.i 5);have:=@bP (z.i 13);have:=@bP (z.i 14);have:=@fu (z.s 2).length;have:=cr z 100;have:=@aI z 100;have:=bu z 100;have t1:(((z.s 2).length:Nat):Int).toNat=(z.s 2).length:=Int.toNat_natCast _;conv=>zeta
 repeat' with_reducible first|intro _|apply ci|apply cm|apply cj|apply cD|apply cA
 all_goals first|omega|grind [ao,ak,aj,aX,aY,aZ,a_,ba,bc,be,bf,bh,aB,List.append_assoc,bu]
abbrev eX(a:Int):=IntKind.i64.wrap a
abbrev sT:=am .i64
def IM:bq 267 AH:=bC 21 349525 eN lN λz hA=>show Fm.den (let v0:=(false=true↔z.s 2= []/\z.i 3=0/\z.i 4=0/\z.i 5=0/\ib (z.i 6) (z.i 7) (z.i 8) (z.s 9) (z.g 10) (z.g 11)/\hT z 100=hZ/\¬z.p 12/\z.i 13=0/\z.i 14=0);let v1:=(sT);(.two (z.s 2= []) (.two (IntKind.i64.wrap (Int.ofNat ((aE v1 (eX (Int.ofNat ((aE v1 (z.i 3)).lor (aE v1 (z.i 4)))))).lor (aE v1 (z.i 5))))=0) (.two (z.i 6=0) (.two (z.i 7=0) (.two (z.i 8=0) (.two (z.s 9= []) (.two ((↑(z.g 10).length:Int)=0) (.two ((↑(z.g 11).length:Int)=0) (.two (lQ (hT z 100) hZ) (.two (¬z.p 12) (.ax ([z.i 13,z.i 14]= [0,0]↔z.s 2= []/\z.i 3=0/\z.i 4=0/\z.i 5=0/\ib (z.i 6) (z.i 7) (z.i 8) (z.s 9) (z.g 10) (z.g 11)/\hT z 100=hZ/\¬z.p 12/\z.i 13=0/\z.i 14=0)) (.ax v0)) (.ax v0)) (.ax v0)) (.ax v0)) (.ax v0)) (.ax v0)) (.ax v0)) (.ax v0)) (.ax v0)) (.ax v0))) by dsimp only [AH,en,hs,oc] at hA;have:=bH 0 0 0 [] [] [];have:=bH (z.i 6) (z.i 7) (z.i 8) (z.s 9) (z.g 10) (z.g 11);have:=@fe (z.s 2) (z.i 3) (z.i 4) (z.i 5) (z.i 7) (z.s 9) (z.g 10) (z.g 11) (hT z 100) (z.i 13) (z.i 14);have:=@or3 (z.i 3) (z.i 4) (z.i 5);exact ft
abbrev V_:=(-9223372036854775808:Int)<=0/\(0:Int)<9223372036854775808
def Ra:bq 221 ML:=bC 125 30284871951383847606871494801089340678452057665660186281603786162571198549 (ai IM eN) lN λz hA=>show Fm.den (let vx:=(0:Int)=0;let v1:=(((-9223372036854775808)<=z.i 3/\z.i 3<9223372036854775808)/\((-9223372036854775808)<=z.i 4/\z.i 4<9223372036854775808)/\(-9223372036854775808)<=z.i 5/\z.i 5<9223372036854775808);let v2:=(ib (z.i 6) (z.i 7) (z.i 8) (z.s 9) (z.g 10) (z.g 11));let v3:=((V_)/\((-9223372036854775808)<=z.i 4/\z.i 4<9223372036854775808)/\(-9223372036854775808)<=z.i 5/\z.i 5<9223372036854775808);let v4:=((V_)/\(V_)/\(-9223372036854775808:Int)<=0/\(0:Int)<9223372036854775808);let v5:=(↑(z.s 2).length:Int);let v6:=(hT z 100=hZ);let v0:=(false=true↔ic (z.i 1) (z.s 2) (z.i 3) (z.i 4) (z.i 5) v2 v6 (z.p 12) (z.i 13) (z.i 14));let v7:=((↑(z.g 11).length:Int)=0↔ic (z.i 1) (z.s 2) (z.i 3) (z.i 4) (z.i 5) v2 v6 (z.p 12) (z.i 13) (z.i 14));let v8:=(true=true↔ic (z.i 1) (z.s 2) (z.i 3) (z.i 4) (z.i 5) v2 v6 (z.p 12) (z.i 13) (z.i 14));let v9:=(z.i 3<=64);let v10:=(z.i 1=3);let v11:=((↑(z.g 10).length:Int)=0);(.two (1<=z.i 3) (.two (z.i 1=1) (.two (1<=v5) (.two (v5<=4096) (.ct v1 (λy0=>(y0.p 50↔pV/\z.i 3=0/\z.i 4=0/\z.i 5=0/\ib (z.i 6) (z.i 7) (z.i 8) (z.s 9) (z.g 10) (z.g 11)/\hT z 100=hZ/\¬z.p 12/\z.i 13=0/\z.i 14=0)) λy0=>(.ax (y0.p 50↔ic (z.i 1) (z.s 2) (z.i 3) (z.i 4) (z.i 5) v2 v6 (z.p 12) (z.i 13) (z.i 14)))) (.ax v0)) (.ax v0)) (.two (z.i 1=2) (.an (z.i 1=2) (.an (¬v10) (.two v9 (.two (1<=z.i 4) (.two (z.i 4<=65536) (.two (0<=z.i 5) (.two (z.i 5<=2147483648) (.ct v4 (λy1=>(y1.p 50↔z.s 2= []/\vx/\vx/\vx/\ib 0 0 0 [] [] []/\hZ=hZ/\¬false=true/\z.i 13=0/\z.i 14=0)) λy1=>(.two (y1.p 50) (.two (¬z.p 12) (.ax v8) (.two (z.i 6=0) (.two (z.i 7=0) (.two (z.i 8=0) (.two (z.s 9= []) (.two v11 (.ax v7) (.ax v0)) (.ax v0)) (.ax v0)) (.ax v0)) (.ax v0))) (.ax v0))) (.ax v0)) (.ax v0)) (.ax v0)) (.ax v0)) (.ax v0)))) (.two v10 (.an v10 (.two v9 (.two (1<=z.i 4) (.two (z.i 4<=65536) (.two (1<=z.i 5) (.two (z.i 5<=2147483648) (.ct v4 (λy2=>(y2.p 50↔z.s 2= []/\vx/\vx/\vx/\ib (z.i 6) (z.i 7) (z.i 8) (z.s 9) (z.g 10) (z.g 11)/\hT z 100=hZ/\¬z.p 12/\z.i 13=0/\z.i 14=0)) λy2=>(.two (y2.p 50) (.two (¬z.p 12) (.ax v8) (.two (z.i 6=0) (.two (z.i 7=0) (.two (z.i 8=0) (.two (z.s 9= []) (.two v11 (.ax v7) (.ax v0)) (.ax v0)) (.ax v0)) (.ax v0)) (.ax v0))) (.ax v0))) (.ax v0)) (.ax v0)) (.ax v0)) (.ax v0)) (.ax v0))) (.two (z.i 1=4) (.two (0<=z.i 13) (.two (z.i 13<=2147483648) (.two (0<=z.i 14) (.two (z.i 14<=2147483648) (.ct v1 (λy3=>(y3.p 50↔z.s 2= []/\z.i 3=0/\z.i 4=0/\z.i 5=0/\ib (z.i 6) (z.i 7) (z.i 8) (z.s 9) (z.g 10) (z.g 11)/\hT z 100=hZ/\¬z.p 12/\vx/\vx)) λy3=>(.ax (y3.p 50↔ic (z.i 1) (z.s 2) (z.i 3) (z.i 4) (z.i 5) v2 v6 (z.p 12) (z.i 13) (z.i 14)))) (.ax v0)) (.ax v0)) (.ax v0)) (.ax v0)) (.two (z.i 1=5) (.an (z.i 1=5) (.two v9 (.two (1<=v5) (.two (v5<=40) (.ct v3 (λy4=>(y4.p 50↔pV/\vx/\z.i 4=0/\z.i 5=0/\ib (z.i 6) (z.i 7) (z.i 8) (z.s 9) (z.g 10) (z.g 11)/\hT z 100=hZ/\¬z.p 12/\z.i 13=0/\z.i 14=0)) λy4=>(.ax (y4.p 50↔ic (z.i 1) (z.s 2) (z.i 3) (z.i 4) (z.i 5) v2 v6 (z.p 12) (z.i 13) (z.i 14)))) (.ax v0)) (.ax v0)) (.ax v0))) (.two (z.i 1=7) (.two v9 (.two (1<=v5) (.two (v5<=40) (.ct v3 (λy5=>(y5.p 50↔pV/\vx/\z.i 4=0/\z.i 5=0/\ib (z.i 6) (z.i 7) (z.i 8) (z.s 9) (z.g 10) (z.g 11)/\hT z 100=hZ/\¬z.p 12/\z.i 13=0/\z.i 14=0)) λy5=>(.ax (y5.p 50↔ic (z.i 1) (z.s 2) (z.i 3) (z.i 4) (z.i 5) v2 v6 (z.p 12) (z.i 13) (z.i 14)))) (.ax v0)) (.ax v0)) (.ax v0)) (.two (z.i 1=6) (.two v9 (.ct v3 (λy6=>(y6.p 50↔z.s 2= []/\vx/\z.i 4=0/\z.i 5=0/\ib (z.i 6) (z.i 7) (z.i 8) (z.s 9) (z.g 10) (z.g 11)/\hT z 100=hZ/\¬z.p 12/\z.i 13=0/\z.i 14=0)) λy6=>(.ax (y6.p 50↔ic (z.i 1) (z.s 2) (z.i 3) (z.i 4) (z.i 5) v2 v6 (z.p 12) (z.i 13) (z.i 14)))) (.ax v0)) (.ax v0)))))))) (.two (z.i 1=1) (.two (1<=v5) (.two (v5<=4096) (.ct v1 (λy7=>(y7.p 50↔pV/\z.i 3=0/\z.i 4=0/\z.i 5=0/\ib (z.i 6) (z.i 7) (z.i 8) (z.s 9) (z.g 10) (z.g 11)/\hT z 100=hZ/\¬z.p 12/\z.i 13=0/\z.i 14=0)) λy7=>(.ax (y7.p 50↔ic (z.i 1) (z.s 2) (z.i 3) (z.i 4) (z.i 5) v2 v6 (z.p 12) (z.i 13) (z.i 14)))) (.ax v0)) (.ax v0)) (.two (z.i 1=2) (.an (z.i 1=2) (.an (¬v10) (.ax v0))) (.two v10 (.an v10 (.ax v0)) (.two (z.i 1=4) (.two (0<=z.i 13) (.two (z.i 13<=2147483648) (.two (0<=z.i 14) (.two (z.i 14<=2147483648) (.ct v1 (λy8=>(y8.p 50↔z.s 2= []/\z.i 3=0/\z.i 4=0/\z.i 5=0/\ib (z.i 6) (z.i 7) (z.i 8) (z.s 9) (z.g 10) (z.g 11)/\hT z 100=hZ/\¬z.p 12/\vx/\vx)) λy8=>(.ax (y8.p 50↔ic (z.i 1) (z.s 2) (z.i 3) (z.i 4) (z.i 5) v2 v6 (z.p 12) (z.i 13) (z.i 14)))) (.ax v0)) (.ax v0)) (.ax v0)) (.ax v0)) (.two (z.i 1=5) (.an (z.i 1=5) (.ax v0)) (.two (z.i 1=7) (.ax v0) (.two (z.i 1=6) (.ax v0) (.ax v0)))))))))) by dsimp only [ML,en,hs,BI,FB,oc] at hA;have:=bH 0 0 0 [] [] [];have:=bH (z.i 6) (z.i 7) (z.i 8) (z.s 9) (z.g 10) (z.g 11);have:=@fe (z.s 2) (z.i 3) (z.i 4) (z.i 5) (z.i 7) (z.s 9) (z.g 10) (z.g 11) (hT z 100) (z.i 13) (z.i 14);have:=@MH (z.i 1) (z.s 2) (z.i 3) (z.i 4) (z.i 5) (oc z) (hT z 100=hZ) (z.p 12) (z.i 13) (z.i 14);have:=@AE (z.i 1) (z.s 2) (z.i 3) (z.i 4) (z.i 5) (oc z) (hT z 100=hZ) (z.p 12) (z.i 13) (z.i 14);have:=@AF (z.i 1) (z.s 2) (z.i 3) (z.i 4) (z.i 5) (oc z) (hT z 100=hZ) (z.p 12) (z.i 13) (z.i 14);have:=@Fv (z.i 1) (z.s 2) (z.i 3) (z.i 4) (z.i 5) (oc z) (hT z 100=hZ) (z.p 12) (z.i 13) (z.i 14);have:=@Fw (z.i 1) (z.s 2) (z.i 3) (z.i 4) (z.i 5) (oc z) (hT z 100=hZ) (z.p 12) (z.i 13) (z.i 14);have:=@Fx (z.i 1) (z.s 2) (z.i 3) (z.i 4) (z.i 5) (oc z) (hT z 100=hZ) (z.p 12) (z.i 13) (z.i 14);have:=@Fz (z.i 1) (z.s 2) (z.i 3) (z.i 4) (z.i 5) (oc z) (hT z 100=hZ) (z.p 12) (z.i 13) (z.i 14);have:=@Fy (z.i 1) (z.s 2) (z.i 3) (z.i 4) (z.i 5) (oc z) (hT z 100=hZ) (z.p 12) (z.i 13) (z.i 14);exact ft
abbrev Wa(a:Int)(b:List Nat)(c d:List G)(e f:Int):=Fm.ct (tE 16 a b c d/\ym 16 b d<=10000000) (λy=>y.i 11=gU e a f b c d/\hT y 300=CM e a f b c d)
def nP:bq 182 gW:=bC 11 20753 (ai Ra (ai V9 eN)) lN λz hA=>show Fm.den (let v1:=(hT z 100);let v0:=((0:Int)=fH (z.i 1) (z.s 2) (z.i 3) (z.i 4) (z.i 5) (z.i 6) (z.i 7) (z.i 8) (z.s 9) (z.g 10) (z.g 11) v1 (z.p 12) (z.i 13) (z.i 14));(.ct (vo (z.s 2) (z.i 3) (z.i 4) (z.i 5) (z.i 7) (z.s 9) (z.g 10) (z.g 11) v1 (z.i 13) (z.i 14)) (λy0=>(y0.p 50↔ic (z.i 1) (z.s 2) (z.i 3) (z.i 4) (z.i 5) (ib (z.i 6) (z.i 7) (z.i 8) (z.s 9) (z.g 10) (z.g 11)) (hT z 100=hZ) (z.p 12) (z.i 13) (z.i 14))) λy0=>(.two (¬y0.p 50) (.ax ((3:Int)=fH (z.i 1) (z.s 2) (z.i 3) (z.i 4) (z.i 5) (z.i 6) (z.i 7) (z.i 8) (z.s 9) (z.g 10) (z.g 11) v1 (z.p 12) (z.i 13) (z.i 14))) (.two (z.i 1≠2) (.ax v0) (.two (z.p 12) (.ax v0) (Wa (z.i 7) (z.s 9) (z.g 10) (z.g 11) (z.i 6) (z.i 8) λy1=>(let v2:=(y1.i 11=fH (z.i 1) (z.s 2) (z.i 3) (z.i 4) (z.i 5) (z.i 6) (z.i 7) (z.i 8) (z.s 9) (z.g 10) (z.g 11) v1 (z.p 12) (z.i 13) (z.i 14));(.two (y1.i 11=0) (.two (¬lQ (hT y1 300) v1) (.ax ((18:Int)=fH (z.i 1) (z.s 2) (z.i 3) (z.i 4) (z.i 5) (z.i 6) (z.i 7) (z.i 8) (z.s 9) (z.g 10) (z.g 11) v1 (z.p 12) (z.i 13) (z.i 14))) (.ax v2)) (.ax v2))))))))) by dsimp only [gW,en,hs,BI,FC] at hA;have:=bH 0 0 0 [] [] [];have:=bH (z.i 6) (z.i 7) (z.i 8) (z.s 9) (z.g 10) (z.g 11);have:=@fe (z.s 2) (z.i 3) (z.i 4) (z.i 5) (z.i 7) (z.s 9) (z.g 10) (z.g 11) (hT z 100) (z.i 13) (z.i 14);have:=@iS (z.i 1) (z.s 2) (z.i 3) (z.i 4) (z.i 5) (z.i 6) (z.i 7) (z.i 8) (z.s 9) (z.g 10) (z.g 11) (hT z 100) (z.p 12) (z.i 13) (z.i 14);have:=@iT (z.i 1) (z.s 2) (z.i 3) (z.i 4) (z.i 5) (z.i 6) (z.i 7) (z.i 8) (z.s 9) (z.g 10) (z.g 11) (hT z 100) (z.p 12) (z.i 13) (z.i 14);have:=@kX (z.i 1) (z.s 2) (z.i 3) (z.i 4) (z.i 5) (z.i 6) (z.i 7) (z.i 8) (z.s 9) (z.g 10) (z.g 11) (hT z 100) (z.p 12) (z.i 13) (z.i 14);have:=@nJ (z.i 1) (z.s 2) (z.i 3) (z.i 4) (z.i 5) (z.i 6) (z.i 7) (z.i 8) (z.s 9) (z.g 10) (z.g 11) (hT z 100) (z.p 12) (z.i 13) (z.i 14);have:=@oY (z.i 1) (z.s 2) (z.i 3) (z.i 4) (z.i 5) (z.i 6) (z.i 7) (z.i 8) (z.s 9) (z.g 10) (z.g 11) (hT z 100) (z.p 12) (z.i 13) (z.i 14);have:=@fc (z.i 1) (z.s 2) (z.i 3) (z.i 4) (z.i 5) (z.i 6) (z.i 7) (z.i 8) (z.s 9) (z.g 10) (z.g 11) (hT z 100) (z.p 12) (z.i 13) (z.i 14);exact ft
end Go.Proofs.YtameaobnjjcobaaGreatDoor
