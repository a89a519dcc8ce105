/- Part 8. -/
import Derived.Test.YtameaobnjjcobaaGreatDoorChecked
import Derived.WalkKit
import Derived.Maps.RangeWalk
import Derived.Maps.OwnSet
import Derived.WalkSpells
import Derived.Deep.QuietTactic
import Derived.BigQuiet
import Derived.RegionTactic
import Derived.ChangeAlike
import Derived.Deep.AppendLies
import Derived.Deep.RegionHeld
import Derived.Test.YtameaobnjjcobaaGreatDoorProg
import Derived.KernelRfl
import Derived.Test.YtameaobnjjcobaaGreatDoorP5
import Derived.Test.YtameaobnjjcobaaGreatDoorP6
import Derived.Test.YtameaobnjjcobaaGreatDoorP7
set_option linter.all false
namespace Go.Proofs.YtameaobnjjcobaaGreatDoor
open Go.Sym
set_option maxRecDepth 100000
set_option maxHeartbeats 4000000
def RT:bq 9 NT:=bC 13 4180645 (ai pJ (ai De eN)) lN λz hA=>show Fm.den (let v0:=((↑(z.g 63).length:Int)=0);let v1:=(hT z 500);let v2:=(hT z 700);(.two (z.i 66=0) (.two v0 (.an v0 (.an v0 (.ct (0<=1000000000) (λy0=>True) λy0=>(.an v0 (.an v0 (.ax (lQ v1 (hG (eB []))↔tg (z.i 66) v1 (z.i 67) v2 (z.g 63)))))))) (.an (¬v0) (.an (¬v0) (.an (¬v0) (.an (¬v0) (.ax (false=true↔tg (z.i 66) v1 (z.i 67) v2 (z.g 63)))))))) (.ct (HOk v1/\HOk v2/\(z.g 63).length<=1000000/\RowsOk (z.g 63)) (λy1=>(y1.p 50↔A8 (z.i 66) (z.i 67) (z.g 63) v1 v2)) λy1=>(.ax (y1.p 50↔tg (z.i 66) v1 (z.i 67) v2 (z.g 63)))))) by
 dsimp only [NT,dg,hs] at hA;have:=@WO (z.i 66) (hT z 500) (z.i 67) (hT z 700) (z.g 63);have:=λh=>(@Dh (z.i 66) (hT z 500) (z.i 67) (hT z 700) (z.g 63) h).1;have:=λh=>(@Dh (z.i 66) (hT z 500) (z.i 67) (hT z 700) (z.g 63) h).2;have:=sy [];have:=fa [];conv=>zeta
 repeat' with_reducible first|intro _|apply ci|apply cm|apply cj|apply cD|apply cA
 all_goals first|omega|grind [ao,ak,aj,aX,aY,aZ,a_,ba,bc,be,bf,bh,aB,WN]
noncomputable section
def io(n:Nat):List Nat:=if n<10 then [48+n] else [48+n/10,48+n%10]
def Gq{n:Nat}(h:n<10):io n= [48+n]:=if_pos h
def Gr{n:Nat}(h:¬n<10):io n= [48+n/10,48+n%10]:=if_neg h
def Be(n:Nat):1<=(io n).length/\(io n).length<=2:=by unfold io;split <;> simp
def cO(i:Int):List Nat:=100::(List.replicate (8-(io i.toNat).length) 48++io i.toNat)
def xH{i:Int}(h0:0<=i)(h:i<10):cO i= [100,48,48,48,48,48,48,48,48+i.toNat]:=by unfold cO;rw[Gq (by omega)];rfl
def xI{i:Int}(h0:¬i<10):cO i= [100,48,48,48,48,48,48,48+i.toNat/10,48+i.toNat%10]:=by unfold cO;rw[Gr (by omega)];rfl
def xJ(i:Int):(cO i).length=9:=by have:=Be i.toNat;unfold cO;rw[aaI,aav,abM];omega
def Gs{i k:Int}(hi:0<=i)(hk:0<=k)(at8:i<100)(at9:k<100)(h:cO i=cO k):i=k:=by
 by_cases a:i<10 <;> by_cases b:k<10
 ·rw[xH hi a,xH hk b] at h;simp at h;omega
 ·rw[xH hi a,xI b] at h;simp at h;omega
 ·rw[xI a,xH hk b] at h;simp at h;omega
 ·rw[xI a,xI b] at h;simp at h;omega
def fx:List Nat:=[106,111,117,114,110,97,108]
def NU(i:Int):cO i≠fx:=λh=>by have:=congrArg List.length h;rw[xJ] at this;cases this
def RU:List Nat:=[48,49,50,51,52,53,54,55,56,57,97,98,99,100,101,102,103,104,105,106,107,108,109,110,111,112,113,114,115,116,117,118,119,120,121,122]
def smS:List Nat:=(List.range 100).flatMap λi=>[48+i/10,48+i%10]
def WP{i:Int}(h0:0<=i)(h:i<10):(RU.take (i+1).toNat).drop i.toNat=io i.toNat:=by
 have:∀k:Fin 10,(RU.take (k.1+1)).drop k.1=io k.1:=by decide
 have:=this ⟨i.toNat,by omega⟩;rw[show(i+1).toNat=i.toNat+1 by omega];exact this
def ZN{i:Int}(h0:10<=i)(h:i<100):(smS.take (i * 2+2).toNat).drop (i * 2).toNat=io i.toNat:=by
 have:∀k:Fin 100,10<=k.1->(smS.take (k.1 * 2+2)).drop (k.1 * 2)=io k.1:=by decide
 have:=this ⟨i.toNat,by omega⟩ (by show 10<=i.toNat;omega);rw[show(i * 2+2).toNat=i.toNat * 2+2 by omega,show(i * 2).toNat=i.toNat * 2 by omega];exact this
def UC:FSpec:=⟨[.c (.i .i64 1)],[],λz=>0<=z.i 1/\z.i 1<100,λ_=>.one (.c (.s 10)),λ_=>[],λz y=>y.s 10=io (z.i 1).toNat/\1<=(y.s 10).length/\(y.s 10).length<=2,none⟩
def ZO:FSpec:=⟨[.c (.i .u64 1)],[],λz=>0<=z.i 1/\z.i 1<100,λ_=>.one (.c (.s 10)),λ_=>[],λz y=>y.s 10=io (z.i 1).toNat/\1<=(y.s 10).length/\(y.s 10).length<=2,none⟩
def Gt:FSpec:=⟨[.c (.i .i64 1)],[],λz=>0<=z.i 1/\z.i 1<100,λ_=>.one (.c (.s 10)),λ_=>[],λz y=>y.s 10=cO (z.i 1),none⟩
abbrev vI:=Gt
def BL(s:List Nat):List Nat:=List.replicate (8-s.length) 48++s
def RV{s:List Nat}(h:¬(s.length:Int)<8):BL s=s:=by unfold BL;rw[show 8-s.length=0 by omega];rfl
def NV{s:List Nat}(h:(s.length:Int)<8):BL ([48]++s)=BL s:=by unfold BL;rw[aav,aaQ,show 8-s.length=(8-(1+s.length))+1 by omega,List.replicate_succ',aaK]
def NW(i:Int):cO i= [100]++BL (io i.toNat):=rfl
def Gu(p:Sy):LSpec:=⟨[(3,.c (.s 1))],[],λz=>(z.s 1).length<=8,λz=>8-(z.s 1).length,[⟨.exit 0,[(3,.c (.s 1))],[]⟩],λz y=>y.s 1=BL (z.s 1),none,[]⟩
def NX{n:Int}(h0:0<=n)(h:n<4294967296):IntKind.u64.wrap (Int.ofNat ((aE (am .u64) n).land (aE (am .u64) 4294967295)))=n:=by
 obtain⟨a,rfl⟩:∃a:Nat,n=a:=⟨n.toNat,by omega⟩
 have e:aE (am .u64) (4294967295:Int)=2 ^ 32-1:=by decide
 have e2:(a.land (2 ^ 32-1))=a:=by show a &&& (2 ^ 32-1)=a;rw[ab6];omega
 rw[Db a (by omega),e,e2,Ga a (by omega)]
def ZP:FSpec:=⟨[.c (.pi .u64 1),.c (.i .u64 2)],[],λz=>0<=z.i 2/\z.i 2<=100,λ_=>.tu [.c (.i .u64 10),.c (.i .u64 11)],λ_=>[],λz y=>y.i 10=0/\y.i 11=z.i 2,none⟩
def NY:List Nat:=[48,48,48,48,48,48,48,48,48,48,48,48,48,48,48,48,48,48,48,48,48,48,48,48,48,48,48,48,48,48,48,48,48,48,48,48,48,48,48,48,48,48,48,48,48,48,48,48,48,48,48,48,48,48,48,48,48,48,48,48,48,48,48,48]
def ZQ{n:Int}{s:List Nat}(hs:n=8-(s.length:Int))(h:s.length<=8):NY.take n.toNat++s=BL s:=by have e:NY=List.replicate 64 48:=rfl;rw[e,List.take_replicate];unfold BL;congr 2;omega
theorem WQ(n:Int):(NY.take n.toNat).length<=64:=by rw[aax];exact Nat.min_le_right _ _
theorem inB1{x:Int}(h:0<=x)(h1:x<256):Go.Sym.inB [x]:=by simp [Go.Sym.inB];omega
theorem RX(s:List Nat):(BL s).length<=8+s.length:=by unfold BL;rw[aav,abM];omega
def ZR:IntKind.u64.wrap 1=1:=rfl
attribute [irreducible] cO io BL NY RU smS
end
def ZS:bq 177 ZO:=bC 8 10778 eN lN λz hA=>show Fm.den (let v0:=(0<=z.i 1/10%18446744073709551616/\(0:Int)<10);let v1:=((10:Int)≠0);let v2:=((48+z.i 1%10)%18446744073709551616%256);let v3:=(48+z.i 1/10%18446744073709551616%10);let v4:=(0<=z.i 1/\(0:Int)<10);(.an v1 (.an v4 (.an (inB [(48+z.i 1%10)%18446744073709551616%256]) (.an (1<=1000000000) (.an v1 (.an v4 (.two (z.i 1/10%18446744073709551616=0) (.ax ([v2.toNat]++ []=io (z.i 1).toNat/\1<=1/\1<=2)) (.an v1 (.an v0 (.an (inB [v3%18446744073709551616%256]) (.an (2<=1000000000) (.an v1 (.an v0 (.an (z.i 1/10%18446744073709551616/10%18446744073709551616=0) (.ax ([(v3%18446744073709551616%256).toNat]++([v2.toNat]++ [])=io (z.i 1).toNat/\1<=2/\2<=2))))))))))))))))) by
 dsimp only [ZO] at hA;have:=@Gq (z.i 1).toNat;have:=@Gr (z.i 1).toNat;conv=>zeta
 repeat' with_reducible first|intro _|apply ci|apply cm|apply cj|apply cD|apply cA
 all_goals first|omega|grind [ao,ak,aj,List.append_assoc,inB1]
def NZ:bM 101 0 Gu:=bL 3 1 eN lN λp z hA=>show Fm.den (let v0:=([48]++z.s 1);(.two ((↑(z.s 1).length:Int)<8) (.an (Aj v0) (.ax (v0.length<=8/\8-v0.length<8-(z.s 1).length/\∀(y:Sy),y.s 1=BL v0->y.s 1=BL (z.s 1)))) (.ax (z.s 1=BL (z.s 1))))) by dsimp only [Gu] at hA;have:=@RV (z.s 1);have:=@NV (z.s 1);exact iO
def WR:bq 101 Gt:=bC 1 0 (ai ZS eN) (aG (ptm:=[]) NZ lN) λz hA=>show Fm.den ((.ct (0<=z.i 1%18446744073709551616/\z.i 1%18446744073709551616<100) (λy0=>y0.s 10=io (z.i 1%18446744073709551616).toNat/\1<=(y0.s 10).length/\(y0.s 10).length<=2) λy0=>(.ct ((y0.s 10).length<=8) (λy1=>y1.s 1=BL (y0.s 10)) λy1=>(.an (Aj ([100]++y1.s 1)) (.ax ([100]++y1.s 1=cO (z.i 1))))))) by
 dsimp only [Gt] at hA;have:=NW (z.i 1);repeat' with_reducible first|intro _|apply ci|apply cm|apply cj|apply cD|apply cA
 all_goals first|omega|grind [ao,ak,aj,List.append_assoc,RX,List.length_append,List.length_cons,List.length_nil]
def WS:bq 152 UC:=bC 9 43162 eN lN λz hA=>show Fm.den (let v0:=((-9223372036854775808)<=z.i 1 * 2/\z.i 1 * 2<=9223372036854775807);let v1:=(List.take (z.i 1 * 2+2).toNat smS);let v2:=(List.take (z.i 1+1).toNat RU);let v3:=(List.drop (z.i 1 * 2).toNat v1);let v4:=(List.drop (z.i 1).toNat v2);(.an (0<=z.i 1) (.an (z.i 1<100) (.two (z.i 1<10) (.an ((-9223372036854775808)<=z.i 1+1/\z.i 1+1<=9223372036854775807) (.an (0<=z.i 1/\z.i 1<=z.i 1+1/\z.i 1+1<= ↑36) (.ax (List.drop (z.i 1).toNat v2=io (z.i 1).toNat/\1<=v4.length/\v4.length<=2)))) (.an v0 (.an v0 (.an ((-9223372036854775808)<=z.i 1 * 2+2/\z.i 1 * 2+2<=9223372036854775807) (.an (0<=z.i 1 * 2/\z.i 1 * 2<=z.i 1 * 2+2/\z.i 1 * 2+2<= ↑200) (.ax (List.drop (z.i 1 * 2).toNat v1=io (z.i 1).toNat/\1<=v3.length/\v3.length<=2)))))))))) by dsimp only [UC] at hA;have:=@WP (z.i 1);have:=@ZN (z.i 1);have:=Be (z.i 1).toNat;exact iO
def ZT:bq 208 ZP:=bC 1 0 eN lN λz hA=>show Fm.den (let v0:=((1/4294967296:Int) * IntKind.u64.wrap (Int.ofNat ((aE (nx) (z.i 2)).land (aE (nx) 4294967295)))%18446744073709551616+IntKind.u64.wrap 1 * IntKind.u64.wrap (Int.ofNat ((aE (nx) (z.i 2)).land (aE (nx) 4294967295)))%18446744073709551616/4294967296);(.ax ((((1/4294967296:Int) * (z.i 2/4294967296)%18446744073709551616+v0%18446744073709551616/4294967296)%18446744073709551616+(IntKind.u64.wrap (Int.ofNat ((aE (nx) (v0%18446744073709551616)).land (aE (nx) 4294967295)))+IntKind.u64.wrap 1 * (z.i 2/4294967296)%18446744073709551616)%18446744073709551616/4294967296)%18446744073709551616=0/\1 * z.i 2%18446744073709551616=z.i 2))) by dsimp only [ZP] at hA;have:=@NX (z.i 2);have:=@NX 0 (by omega) (by omega);have:=ZR;exact iO
def Di:bq 77 vI:=bC 11 700414 (ai WS (ai ZT eN)) lN λz hA=>show Fm.den ((.ct (0<=z.i 1/\z.i 1<100) (λy0=>y0.s 10=io (z.i 1).toNat/\1<=(y0.s 10).length/\(y0.s 10).length<=2) λy0=>(let v0:=(↑(y0.s 10).length:Int);(.an ((-9223372036854775808)<=8-v0/\8-v0<=9223372036854775807) (.an (¬(Max.max 0 (8-v0)=0)) (.an (¬(Max.max 0 (8-v0)=1)) (.an (¬(Max.max 0 (8-v0)<0)) (.cl (((1:Int)=1/\True)) (0<=Max.max 0 (8-v0)%18446744073709551616/\Max.max 0 (8-v0)%18446744073709551616<=100) (λy1=>y1.i 10=0/\y1.i 11=Max.max 0 (8-v0)%18446744073709551616) λy1=>(let v1:=(List.take (y1.i 11).toNat NY);(.an (¬(0<y1.i 10)) (.an (¬(9223372036854775807<y1.i 11)) (.an ((-9223372036854775808)<=y1.i 11/\y1.i 11<=9223372036854775807) (.an (y1.i 11<=128) (.an (y1.i 11<=128) (.an (y1.i 11<=64) (.an ((0:Int)<=0/\0<=y1.i 11/\y1.i 11<= ↑64) (.an (([100]++List.drop (kF) v1).length<=1000000000) (.an (Aj ([100]++List.drop (kF) v1++y0.s 10)) (.ax ([100]++List.drop (kF) v1++y0.s 10=cO (z.i 1))))))))))))))))))))) by
 dsimp only [vI,Gt] at hA;have:=NW (z.i 1);have:=@ZQ;conv=>zeta
 repeat' with_reducible first|intro _|apply ci|apply cm|apply cj|apply cD|apply cA
 all_goals first|omega|grind [ao,ak,aj,List.append_assoc,WQ,Int.toNat_zero,List.length_append,List.length_cons,List.length_nil]
noncomputable section
def cJ(nm:List Nat):List G->Nat
 | []=>0
 |r::l=>bif mB (gS (aa r 0)) nm then cJ nm l+1 else 0
def Ye(l:List G)(i:Nat):List Nat:=gS (aa (aq l i) 0)
def bX(nm:List Nat)(l:List G):Prop:=cJ nm l<l.length/\Ye l (cJ nm l)=nm
def pj(nm:List Nat):∀l,cJ nm l<=l.length
 | []=>aao _
 |r::l=>by
  unfold cJ;cases mB (gS (aa r 0)) nm
  ·exact aaD _
  ·exact Nat.succ_le_succ (pj nm l)
def Dj(i:Int)(nm:List Nat)(l:List G)(k:Int):Prop:=k=i+(cJ nm (l.drop i.toNat):Nat)
def mw{l:List G}{i:Int}(h0:0<=i)(h:i<l.length):l.drop i.toNat=aq l i.toNat::l.drop (i+1).toNat:=by rw[abf (by omega),show(i+1).toNat=i.toNat+1 by omega];congr 1;unfold aq;rw[aas,aaw (by omega)];rfl
def N0{i k:Int}{nm:List Nat}{l:List G}(h0:0<=i)(h:i<l.length)(hl:mB (gS (aa (aq l i.toNat) 0)) nm=true)(hs:Dj (i+1) nm l k):Dj i nm l k:=by unfold Dj at hs⊢;rw[mw h0 h];show k=i+((bif mB (gS (aa (aq l i.toNat) 0)) nm then cJ nm (l.drop (i+1).toNat)+1 else 0:Nat):Int);rw[hl,hs];show _=i+((cJ nm (l.drop (i+1).toNat)+1:Nat):Int);omega
def RY{i:Int}{nm:List Nat}{l:List G}(h0:0<=i)(h:i<l.length)(hl:¬mB (gS (aa (aq l i.toNat) 0)) nm=true):Dj i nm l i:=by unfold Dj;rw[mw h0 h];show i=i+((bif mB (gS (aa (aq l i.toNat) 0)) nm then cJ nm (l.drop (i+1).toNat)+1 else 0:Nat):Int);rw[show mB (gS (aa (aq l i.toNat) 0)) nm=false by simpa using hl];show i=i+((0:Nat):Int);omega
def RZ{i:Int}{nm:List Nat}{l:List G}(h:(l.length:Int)<=i):Dj i nm l i:=by unfold Dj;rw[aa2 (by omega)];show i=i+((0:Nat):Int);omega
def WT{nm:List Nat}{l:List G}{k:Int}(h:Dj 0 nm l k):k=(cJ nm l:Nat):=by unfold Dj at h;rw[h];simp
def dG(nm:List Nat)(l:List G):bX nm l↔cJ nm l<l.length/\gS (aa (aq l (cJ nm l)) 0)=nm:=Iff.rfl
def ce:List G->Nat
 | []=>0
 |r::l=>(gS (aa r 1)).length+ce l
def xK:ce []=0:=rfl
def Dk(i n:Int)(l:List G)(m:Int):Prop:=m=n+(ce (l.drop i.toNat):Nat)
def N1{i n m:Int}{l:List G}(h0:0<=i)(h:i<l.length)(hs:Dk (i+1) (n+((gS (aa (aq l i.toNat) 1)).length:Nat)) l m):Dk i n l m:=by unfold Dk at hs⊢;rw[mw h0 h,hs];show _=n+(((gS (aa (aq l i.toNat) 1)).length+ce (l.drop (i+1).toNat):Nat):Int);omega
def R0{i n:Int}{l:List G}(h:(l.length:Int)<=i):Dk i n l n:=by unfold Dk;rw[aa2 (by omega)];show n=n+((0:Nat):Int);omega
def WU{l:List G}{m:Int}(h:Dk 0 0 l m):m=(ce l:Nat):=by unfold Dk at h;rw[h];simp
def N2:∀(l:List G) (i:Nat),i<l.length->(gS (aa (aq l i) 1)).length<=ce l
 | [],i,h=>by simp at h
 |r::l,0,_=>by show _<=_+_;unfold aq;simp
 |r::l,i+1,h=>by have:=N2 l i (by simpa using h);show(gS (aa (aq l i) 1)).length<=_+_;omega
def WV{i:Int}{l:List G}(h0:0<=i)(h:i<l.length):ce (l.drop (i+1).toNat)+(gS (aa (aq l i.toNat) 1)).length<=ce (l.drop i.toNat):=by rw[mw h0 h];show _<=_+_;omega
def fiN(nm:List Nat):G:=.node [.str nm,.str [],.int 0]
def R1(r:G)(b:List Nat):G:=.node [.str (gS (aa r 0)),.str (gS (aa r 1)++b),.int (gI (aa r 2))]
def fiS(r:G):G:=.node [.str (gS (aa r 0)),.str (gS (aa r 1)),.int ((gS (aa r 1)).length:Nat)]
def Dl(nm:List Nat)(l:List G):List G:=l.take (cJ nm l)++fiN nm::l.drop (cJ nm l)
def fU(nm b:List Nat)(l:List G):List G:=(@ite _ (bX nm l) (Classical.propDecidable _) l (Dl nm l)).set (cJ nm l) (R1 (aq (@ite _ (bX nm l) (Classical.propDecidable _) l (Dl nm l)) (cJ nm l)) b)
def lS(nm:List Nat)(l:List G):List G:=l.set (cJ nm l) (fiS (aq l (cJ nm l)))
def di(room:Int)(nm:List Nat)(n:Nat)(l:List G):Prop:=(ce l:Int)+n<=room/\(bX nm l∨l.length<4096)
def Gv{l:List G}{i:Nat}{r:G}(h:i<=l.length):aq (l.take i++r::l.drop i) i=r:=by unfold aq;rw[aas,aaJ (by rw[aax];omega),aax,show i-min i l.length=0 by omega];rfl
def WX{nm:List Nat}{l m:List G}{k:Int}(hm:m=Dl nm l)(hk:k=(cJ nm l:Nat)):gS (aa (aq m k.toNat) 1)= []:=by subst hm;subst hk;rw[aaE];unfold Dl;rw[Gv (pj nm l)];rfl
def I9(room:Int)(nm:List Nat)(n:Nat)(l:List G):di room nm n l↔(ce l:Int)+n<=room/\(bX nm l∨l.length<4096):=Iff.rfl
def WY{nm b:List Nat}{l:List G}{k:Int}(hk:k=(cJ nm l:Nat))(h:bX nm l):l.set k.toNat (.node [.str (gS (aa (aq l k.toNat) 0)),.str (gS (aa (aq l k.toNat) 1)++b),.int (gI (aa (aq l k.toNat) 2))])=fU nm b l:=by subst hk;unfold fU R1;rw[if_pos h,aaE]
def R2{nm b:List Nat}{l m:List G}{k:Int}(hm:m=Dl nm l)(hk:k=(cJ nm l:Nat))(h:¬bX nm l):m.set k.toNat (.node [.str (gS (aa (aq m k.toNat) 0)),.str (gS (aa (aq m k.toNat) 1)++b),.int (gI (aa (aq m k.toNat) 2))])=fU nm b l:=by subst hk;subst hm;unfold fU R1;rw[if_neg h,aaE]
def R3{nm:List Nat}{l:List G}(h:l.length=0):l++ [.node [.str nm,.str [],.int 0]]++l=Dl nm l:=by have e:l= []:=List.length_eq_zero_iff.1 h;subst e;rfl
def R4{nm:List Nat}{l:List G}{k:Int}(hk:k=(cJ nm l:Nat)):List.take k.toNat l++ [.node [.str nm,.str [],.int 0]]++List.take ((l.length:Int)-k).toNat (List.drop (k.toNat * 3/3) l)=Dl nm l:=by subst hk;rw[aaE,Nat.mul_div_cancel _ (by decide),abz (l:=l.drop (cJ nm l)) (by rw[aaA];omega),aaK];rfl
def WZ{nm:List Nat}{l:List G}{k:Int}(hk:k=(cJ nm l:Nat)):l.set k.toNat (.node [.str (gS (aa (aq l k.toNat) 0)),.str (gS (aa (aq l k.toNat) 1)),.int ((gS (aa (aq l k.toNat) 1)).length:Nat)])=lS nm l:=by subst hk;unfold lS fiS;rw[aaE]
def N3{nm:List Nat}{l:List G}{k:Int}(hk:k=(cJ nm l:Nat)):gS (aa (aq l k.toNat) 1)=gS (aa (aq l (cJ nm l)) 1)/\(gS (aa (aq l k.toNat) 1)).length<=ce l∨(l.length:Int)<=k:=by
 subst hk;rw[aaE];rcases aat (cJ nm l) l.length with h|h
 ·exact .inl ⟨rfl,N2 l _ h⟩
 ·exact .inr (by omega)
def fL(l:List G):List (List Nat):=l.map λr=>gS (aa r 0)
def Gw(nm:List Nat):∀(l m:List G),fL l=fL m->cJ nm l=cJ nm m
 | [],[],_=>rfl
 |r::l,r'::m,h=>by have h:gS (aa r 0)::fL l=gS (aa r' 0)::fL m:=h;injection h with h1 h2;unfold cJ;rw[h1,Gw nm l m h2]
 | [],_::_,h=>by cases h
 |_::_,[],h=>by cases h
def qG{l:List G}{i:Nat}(h:i<l.length):(fL l)[i]? =some (Ye l i):=by unfold fL Ye aq;rw[aaW,aas,aaw h];rfl
def Gx(l:List G):(fL l).length=l.length:=aaZ ..
def N4{nm:List Nat}{l m:List G}(h:fL l=fL m):bX nm l↔bX nm m:=by
 have hl:l.length=m.length:=by rw[←Gx l, ←Gx m,h]
 have e:=Gw nm l m h;rw[dG,dG,e,hl];constructor
 ·rintro⟨h1,h2⟩;refine⟨h1, ?_⟩;have a:=qG (l:=l) (i:=cJ nm m) (by omega);have b:=qG (l:=m) h1;rw[h] at a;rw[a] at b;injection b with b;exact b.symm.trans h2
 ·rintro⟨h1,h2⟩;refine⟨h1, ?_⟩;have a:=qG (l:=l) (i:=cJ nm m) (by omega);have b:=qG (l:=m) h1;rw[h] at a;rw[a] at b;injection b with b;exact b.trans h2
def N5{nm:List Nat}{l:List G}(h:bX nm l):∃r∈l,gS (aa r 0)=nm:=by obtain⟨h1,h2⟩:=(dG nm l).1 h;exact⟨aq l (cJ nm l),by unfold aq;rw[aas,aaw h1];exact abr h1,h2⟩
def Gy{l:List G}{i:Nat}{r:G}(h:gS (aa r 0)=Ye l i):fL (l.set i r)=fL l:=by
 unfold fL;rw[List.map_set];refine List.ext_getElem (by simp) λj h1 h2=>?_;rw[List.getElem_set];split
 ·rename_i e;subst e;rw[abT,h];unfold Ye aq;rw[aas,aaw (by simpa using h2)];rfl
 ·rfl
def xL:∀(l m:List G),ce (l++m)=ce l+ce m
 | [],m=>by simp [ce]
 |r::l,m=>by show _+ce (l++m)=_;rw[xL l m];show _=(_+ce l)+ce m;omega
def xM:∀(l:List G) (i:Nat) (r:G),i<l.length->ce (l.set i r)+(gS (aa (aq l i) 1)).length=ce l+(gS (aa r 1)).length
 | [],i,r,h=>by simp at h
 |a::l,0,r,_=>by show((gS (aa r 1)).length+ce l)+(gS (aa a 1)).length=((gS (aa a 1)).length+ce l)+_;omega
 |a::l,i+1,r,h=>by have:=xM l i r (by simpa using h);show((gS (aa a 1)).length+ce (l.set i r))+(gS (aa (aq l i) 1)).length=((gS (aa a 1)).length+ce l)+_;omega
def Gz{nm:List Nat}:∀(l:List G) (r:G),gS (aa r 0)=nm->cJ nm (l.take (cJ nm l)++r::l.drop (cJ nm l))=cJ nm l
 | [],r,h=>by show(bif mB (gS (aa r 0)) nm then _ else 0)=0;rw[h,ltL_irr];rfl
 |a::l,r,h=>by
  cases ha:mB (gS (aa a 0)) nm with
  |true=>
   have e:cJ nm (a::l)=cJ nm l+1:=by show(bif mB (gS (aa a 0)) nm then _ else _)=_;rw[ha];rfl
   rw[e];show(bif mB (gS (aa a 0)) nm then cJ nm (l.take (cJ nm l)++r::l.drop (cJ nm l))+1 else 0)=_;rw[ha,Gz l r h];rfl
  |false=>
   have e:cJ nm (a::l)=0:=by show(bif mB (gS (aa a 0)) nm then _ else _)=_;rw[ha];rfl
   rw[e];show(bif mB (gS (aa r 0)) nm then _ else 0)=0;rw[h,ltL_irr];rfl
where
 ltL_irr:∀{s:List Nat},mB s s=false:=by
  intro s
  induction s with
  |nil=>rfl
  |cons x s ih=>show ac (Nat.ble (Nat.succ x) x) true (ac (Nat.beq x x) (mB s s) false)=false;rw[show Nat.ble (Nat.succ x) x=false by cases h:Nat.ble (Nat.succ x) x with|false=>rfl|true=>exact absurd (aaL h) (by omega),abA];exact ih
def iY(nm b:List Nat)(l:List G):bX nm (fU nm b l)/\ce (fU nm b l)=ce l+b.length/\(fU nm b l).length<=l.length+1/\∀r∈fU nm b l,gS (aa r 0)=nm∨∃r'∈l,gS (aa r' 0)=gS (aa r 0):=by
 unfold fU;have hle:=pj nm l;have key:∀m:List G,cJ nm m=cJ nm l->cJ nm l<m.length->gS (aa (aq m (cJ nm l)) 0)=nm->bX nm (m.set (cJ nm l) (R1 (aq m (cJ nm l)) b))/\ce (m.set (cJ nm l) (R1 (aq m (cJ nm l)) b))=ce m+b.length/\(∀r∈m.set (cJ nm l) (R1 (aq m (cJ nm l)) b),gS (aa r 0)=nm∨∃r'∈m,gS (aa r' 0)=gS (aa r 0)):=λm h1 h2 h3=>by
  have hn:gS (aa (R1 (aq m (cJ nm l)) b) 0)=Ye m (cJ nm l):=rfl;refine⟨(N4 (Gy hn)).2 ((dG nm m).2 ⟨by rw[h1];exact h2,by rw[h1];exact h3⟩), ?_,λr hr=>?_⟩
  ·have:=xM m (cJ nm l) (R1 (aq m (cJ nm l)) b) h2;have e:(gS (aa (R1 (aq m (cJ nm l)) b) 1)).length=(gS (aa (aq m (cJ nm l)) 1)).length+b.length:=by show(gS (aa (aq m (cJ nm l)) 1)++b).length=_;rw[aav]
   omega
  ·rcases List.mem_or_eq_of_mem_set hr with h|h
   ·exact .inr ⟨r,h,rfl⟩
   ·subst h;exact .inl (hn.trans h3)
 by_cases hs:bX nm l
 ·rw[if_pos hs];obtain⟨h1,h2⟩:=(dG nm l).1 hs;obtain⟨q1,q2,q3⟩:=key l rfl h1 h2;exact⟨q1,q2,by rw[aba];omega,q3⟩
 ·rw[if_neg hs];have e1:cJ nm (Dl nm l)=cJ nm l:=Gz l (fiN nm) rfl;have hlen:(Dl nm l).length=l.length+1:=by unfold Dl;simp;omega
  have e2:aq (Dl nm l) (cJ nm l)=fiN nm:=Gv hle;obtain⟨q1,q2,q3⟩:=key (Dl nm l) e1 (by omega) (by rw[e2];rfl);have e3:ce (Dl nm l)=ce l:=by
   unfold Dl;rw[xL];show ce (l.take (cJ nm l))+(0+ce (l.drop (cJ nm l)))=_;conv=>rhs;rw[←aby (cJ nm l) l,xL]
   omega
  refine⟨q1,by rw[q2,e3],by rw[aba];omega,λr hr=>?_⟩;rcases q3 r hr with h|⟨r',h1,h2⟩
  ·exact .inl h
  ·unfold Dl at h1;rcases List.mem_append.1 h1 with h|h
   ·exact .inr ⟨r',List.mem_of_mem_take h,h2⟩
   ·rcases List.mem_cons.1 h with h|h
    ·subst h;exact .inl h2.symm
    ·exact .inr ⟨r',List.mem_of_mem_drop h,h2⟩
def pk(nm:List Nat)(l:List G)(h:bX nm l):fL (lS nm l)=fL l/\ce (lS nm l)=ce l/\(lS nm l).length=l.length:=by obtain⟨h1,h2⟩:=(dG nm l).1 h;unfold lS;refine⟨Gy rfl, ?_,aba⟩;have:=xM l (cJ nm l) (fiS (aq l (cJ nm l))) h1;have e:gS (aa (fiS (aq l (cJ nm l))) 1)=gS (aa (aq l (cJ nm l)) 1):=rfl;rw[e] at this;omega
def PT:List Sh:=[.i .i64 1,.v 12 20,.i .i64 2]
def R5:List BSh:=[.cells 101 [.i .i64 1,.g 1 3 20,.i .i64 2],.grow 12 190 20]
def nX(z:Sy):Prop:=(z.g 20).length<=5000/\ce (z.g 20)<=1000000/\0<=z.i 1/\z.i 1<=1073741824/\z.i 2= -1
def xN(z y:Sy):Prop:=y.i 1=z.i 1/\y.i 2=z.i 2
def GA(p:Sy):LSpec:=⟨[(0,.cp PT),(1,.c (.s 5)),(6,.c (.i .i64 9))],[],λz=>0<=z.i 9/\z.i 9<=(z.g 20).length/\(z.g 20).length<=5000,λz=>((z.g 20).length-z.i 9).toNat,[⟨.exit 0,[(0,.cp PT),(1,.c (.s 5)),(6,.c (.i .i64 9))],[]⟩],λz y=>y.g 20=z.g 20/\y.s 5=z.s 5/\(0<=y.i 9/\y.i 9<=(z.g 20).length)/\Dj (z.i 9) (z.s 5) (z.g 20) (y.i 9),none,[]⟩
def UD:FSpec:=⟨[.cp PT,.c (.s 5)],[],λz=>(z.g 20).length<=5000,λ_=>.tu [.c (.i .i64 30),.c (.b 40)],λ_=>[],λz y=>y.i 30=(cJ (z.s 5) (z.g 20):Nat)/\(y.p 40↔bX (z.s 5) (z.g 20)),none⟩
def GB(p:Sy):LSpec:=⟨[(0,.cp PT),(3,.c (.i .i64 8)),(4,.c (.i .i64 9))],[],λz=>0<=z.i 9/\(z.g 20).length<=5000/\(0<=z.i 8/\z.i 8+ce ((z.g 20).drop (z.i 9).toNat)<=1073741824),λz=>((z.g 20).length-z.i 9).toNat,[⟨.exit 0,[(0,.cp PT),(3,.c (.i .i64 8))],[]⟩],λz y=>Dk (z.i 9) (z.i 8) (z.g 20) (y.i 8),none,[]⟩
def UE:FSpec:=⟨[.cp PT],[],nX,λ_=>.one (.c (.i .i64 30)),λ_=>[],λz y=>y.i 30=(ce (z.g 20):Nat),none⟩
def nY:FSpec:=⟨[.c (.p 0),.c (.s 5),.c (.vb 6)],R5,λz=>nX z/\(1<=(z.s 5).length/\(z.s 5).length<=64)/\(z.s 6).length<=1000000,λ_=>.one (.c (.i .i64 30)),λ_=>R5,λz y=>xN z y/\(di (z.i 1) (z.s 5) (z.s 6).length (z.g 20)->y.i 30=0/\y.g 20=fU (z.s 5) (z.s 6) (z.g 20))/\(¬di (z.i 1) (z.s 5) (z.s 6).length (z.g 20)->y.i 30=6/\y.g 20=z.g 20),none⟩
def xO:FSpec:=⟨[.c (.p 0),.c (.s 5)],R5,λz=>nX z/\(1<=(z.s 5).length/\(z.s 5).length<=64),λ_=>.one (.c (.i .i64 30)),λ_=>R5,λz y=>xN z y/\(bX (z.s 5) (z.g 20)->y.i 30=0/\y.g 20=lS (z.s 5) (z.g 20))/\(¬bX (z.s 5) (z.g 20)->y.i 30=7/\y.g 20=z.g 20),none⟩
def xP:FSpec:=⟨[.c (.p 0),.c (.s 5)],R5,nX,λ_=>.tu [.c (.vb 31),.c (.i .i64 30)],λ_=>R5,λz y=>y.g 20=z.g 20/\xN z y/\(bX (z.s 5) (z.g 20)->y.i 30=0/\y.s 31=gS (aa (aq (z.g 20) (cJ (z.s 5) (z.g 20))) 1))/\(¬bX (z.s 5) (z.g 20)->y.i 30=7/\y.s 31= []),none⟩
attribute [irreducible] cJ bX Dj Dk ce fU lS di
end
abbrev th(a:Int)(b:List G):=0<=a/\a<= ↑b.length
def N6:bM 83 0 GA:=bL 6 37 eN lN λp z hA=>show Fm.den (let v0:=(z.g 20=z.g 20/\z.s 5=z.s 5/\(th (z.i 9) (z.g 20))/\Dj (z.i 9) (z.s 5) (z.g 20) (z.i 9));let v1:=(↑(z.g 20).length:Int);(.two (bR (z.i 9) (z.g 20)) (.an (cg (z.i 9) (z.g 20)) (.two (mB (gS (aT (aM (z.g 20) (z.i 9)))) (z.s 5)=true) (.an ((-9223372036854775808)<=z.i 9+1/\z.i 9+1<=9223372036854775807) (.ax ((0<=z.i 9+1/\z.i 9+1<= ↑(z.g 20).length/\(z.g 20).length<=5000)/\(v1-(z.i 9+1)).toNat<(v1-z.i 9).toNat/\∀(y:Sy),y.g 20=z.g 20/\y.s 5=z.s 5/\(0<=y.i 9/\y.i 9<= ↑(z.g 20).length)/\Dj (z.i 9+1) (z.s 5) (z.g 20) (y.i 9)->y.g 20=z.g 20/\y.s 5=z.s 5/\(0<=y.i 9/\y.i 9<= ↑(z.g 20).length)/\Dj (z.i 9) (z.s 5) (z.g 20) (y.i 9)))) (.ax v0))) (.ax v0))) by dsimp only [GA,PT] at hA;have:=λk h0 h hl hs=>@N0 (z.i 9) k (z.s 5) (z.g 20) h0 h hl hs;have:=@RY (z.i 9) (z.s 5) (z.g 20);have:=@RZ (z.i 9) (z.s 5) (z.g 20);exact iO
def Dm:bq 83 UD:=bC 23 17592172063401 eN (aG (ptm:=[]) N6 lN) λz hA=>show Fm.den ((.ct ((0:Int)<=0/\0<=(↑(z.g 20).length:Int)/\(z.g 20).length<=5000) (λy0=>y0.g 20=z.g 20/\y0.s 5=z.s 5/\(th (y0.i 9) (z.g 20))/\Dj 0 (z.s 5) (z.g 20) (y0.i 9)) λy0=>(let v0:=(bR (y0.i 9) (y0.g 20));(.two v0 (.an v0 (.an v0 (.an v0 (.an v0 (.an v0 (.an (cg (y0.i 9) (y0.g 20)) (.an v0 (.an v0 (.an v0 (.an v0 (.an v0 (.ax (y0.i 9= ↑(cJ (z.s 5) (z.g 20))/\(gS (aT (aM (y0.g 20) (y0.i 9)))=y0.s 5↔bX (z.s 5) (z.g 20))))))))))))))) (.an (¬v0) (.an (¬v0) (.an (¬v0) (.an (¬v0) (.an (¬v0) (.an (¬v0) (.an (¬v0) (.an (¬v0) (.an (¬v0) (.an (¬v0) (.ax (y0.i 9= ↑(cJ (z.s 5) (z.g 20))/\(false=true↔bX (z.s 5) (z.g 20)))))))))))))))))) by dsimp only [UD,PT] at hA;have:=@WT (z.s 5) (z.g 20);have:=dG (z.s 5) (z.g 20);exact iO
abbrev xQ(a:List G):=a.length=a.length
def R6:bq 31 xP:=bC 3 1 (jI Dm eN) lN λz hA=>show Fm.den (let v0:=(aa (aq (z.g 20) (cJ (z.s 5) (z.g 20))) 1);let v1:=(z.i 1=z.i 1/\z.i 2=z.i 2);(.an (xQ (z.g 20)) (.ct ((z.g 20).length<=5000) (λy0=>y0.i 30= ↑(cJ (z.s 5) (z.g 20))/\(y0.p 40↔bX (z.s 5) (z.g 20))) λy0=>(let v2:=(aa (aM (z.g 20) (y0.i 30)) 1);(.two (¬y0.p 40) (.an (ig (z.g 20)) (.at (z.g 20=z.g 20/\v1/\(bX (z.s 5) (z.g 20)->(7:Int)=0/\ []=gS v0)/\(¬bX (z.s 5) (z.g 20)->(7:Int)=7/\pV)))) (.an (cg (y0.i 30) (z.g 20)) (.an (eD (y0.i 30) (z.g 20)) (.an (Iy (gS v2)) (.an ((z.g 20).length=(z.g 20).length/\([]++gS v2).length=0+(gS v2).length/\True) (.at (z.g 20=z.g 20/\v1/\(bX (z.s 5) (z.g 20)->(0:Int)=0/\ []++gS v2=gS v0)/\(¬bX (z.s 5) (z.g 20)->(0:Int)=7/\ []++gS v2= [])))))))))))) by dsimp only [xP,R5,nX,xN] at hA;have:=dG (z.s 5) (z.g 20);have:=pj (z.s 5) (z.g 20);have:=@N3 (z.s 5) (z.g 20);exact iO
def N7:bM 179 0 GB:=bL 7 549 eN lN λp z hA=>show Fm.den (let v0:=(↑(gS (aa (aM (z.g 20) (z.i 9)) 1)).length:Int);let v1:=((-9223372036854775808)<=z.i 9+1/\z.i 9+1<=9223372036854775807);let v2:=(↑(z.g 20).length:Int);let v4:=(z.i 8+v0);let v5:=(z.i 9+1);let v3:=(↑(ce (List.drop v5.toNat (z.g 20))):Int);(.two (bR (z.i 9) (z.g 20)) (.an (cg (z.i 9) (z.g 20)) (.two ((-9223372036854775808)<=z.i 8+v0/\z.i 8+v0<=9223372036854775807) (.an v1 (.ax ((0<=z.i 9+1/\(z.g 20).length<=5000/\0<=z.i 8+v0/\z.i 8+v0+v3<=1073741824)/\(v2-v5).toNat<(v2-z.i 9).toNat/\∀(y:Sy),Dk v5 v4 (z.g 20) (y.i 8)->Dk (z.i 9) (z.i 8) (z.g 20) (y.i 8)))) (.an v1 (.ax ((0<=z.i 9+1/\(z.g 20).length<=5000/\(0:Int)<=IntKind.i64.wrap v4/\IntKind.i64.wrap v4+v3<=1073741824)/\(v2-v5).toNat<(v2-z.i 9).toNat/\∀(y:Sy),Dk v5 (eX v4) (z.g 20) (y.i 8)->Dk (z.i 9) (z.i 8) (z.g 20) (y.i 8)))))) (.ax (Dk (z.i 9) (z.i 8) (z.g 20) (z.i 8))))) by dsimp only [GB,PT] at hA;have:=λm h0 h hs=>@N1 (z.i 9) (z.i 8) m (z.g 20) h0 h hs;have:=@R0 (z.i 9) (z.i 8) (z.g 20);have:=@WV (z.i 9) (z.g 20);exact iO
def W0:bq 179 UE:=bC 1 0 eN (aG (ptm:=[]) N7 lN) λz hA=>show Fm.den ((.ct ((0:Int)<=0/\(z.g 20).length<=5000/\(0:Int)<=0/\(0:Int)+(↑(ce (List.drop (kF) (z.g 20))):Int)<=1073741824) (λy0=>Dk 0 0 (z.g 20) (y0.i 8)) λy0=>(.ax (y0.i 8= ↑(ce (z.g 20)))))) by dsimp only [UE,PT,nX] at hA;have:=@WU (z.g 20);exact iO
abbrev N8(a:List G):=0=0/\0<=1000000000/\a.length<=1000000
def I_:bq 104 nY:=bC 44 77371196226073830408497599 (jI Dm (jI W0 eN)) lN λz hA=>show Fm.den (let v0:=([]++z.g 20++ [G.node [G.str (z.s 5),G.str [],G.int 0]]++z.g 20);let v1:=(List.drop (Int.toNat 0 * 3/3) (z.g 20));let v2:=(↑(z.g 20).length:Int);let v4:=((z.g 20).length=0);let v5:=(z.i 1=z.i 1/\z.i 2=z.i 2);let v3:=(v5/\(di (z.i 1) (z.s 5) (z.s 6).length (z.g 20)->(6:Int)=0/\z.g 20=fU (z.s 5) (z.s 6) (z.g 20))/\(¬di (z.i 1) (z.s 5) (z.s 6).length (z.g 20)->(6:Int)=6/\z.g 20=z.g 20));let v6:=(ig (z.g 20));let v7:=(0+(z.g 20).length+1+(z.g 20).length);let v8:=(xQ (z.g 20));let v9:=(¬(0<z.i 2));(.an (¬(z.i 2=0)) (.an (¬((↑(z.s 5).length:Int)<1)) (.an (¬(64<(↑(z.s 5).length:Int))) (.an v8 (.ct ((z.g 20).length<=5000) (λy0=>y0.i 30= ↑(cJ (z.s 5) (z.g 20))/\(y0.p 40↔bX (z.s 5) (z.g 20))) λy0=>(let v10:=([]++List.take (y0.i 30-0).toNat v1++ [G.node [G.str (z.s 5),G.str [],G.int 0]]++List.take (v2-y0.i 30).toNat (List.drop ((y0.i 30).toNat * 3/3) (z.g 20)));let v11:=(aM (z.g 20) (y0.i 30));let i4:=(im (v2-y0.i 30) (List.drop ((y0.i 30).toNat * 3/3) (z.g 20)));let j7:=(im (y0.i 30-0) v1);let p9:=(aa (aM v10 (y0.i 30)) 1);let d5:=(G.node [G.str (gS (aT (aM v10 (y0.i 30)))),G.str ([]++gS p9++z.s 6),G.int (gI (aa (aM v10 (y0.i 30)) 2))]);let p5:=(aa (aM v0 (y0.i 30)) 1);let g7:=(G.node [G.str (gS (aT (aM v0 (y0.i 30)))),G.str ([]++gS p5++z.s 6),G.int (gI (aa (aM v0 (y0.i 30)) 2))]);let q9:=(¬y0.p 40);let v20:=(0<=y0.i 30/\y0.i 30<(↑(0+j7.length+1+i4.length):Int));let v21:=(cg (y0.i 30) (z.g 20));let v22:=(aa v11 1);let r9:=(G.node [G.str (gS (aa v11 0)),G.str ([]++gS v22++z.s 6),G.int (gI (aa v11 2))]);let v23:=(0<=y0.i 30/\y0.i 30 < ↑v7);(.an v8 (.ct ((z.g 20).length<=5000/\ce (z.g 20)<=1000000/\0<=z.i 1/\z.i 1<=1073741824/\z.i 2=(-1)) (λy1=>y1.i 30= ↑(ce (z.g 20))) λy1=>(let O':=(z.i 1<y1.i 30+ ↑(z.s 6).length);(.an ((-9223372036854775808)<=y1.i 30+(↑(z.s 6).length:Int)/\y1.i 30+ ↑(z.s 6).length<=9223372036854775807) (.two O' (.an O' (.an O' (.an O' (.an O' (.an v6 (.at v3)))))) (.an (¬O') (.an (¬O') (.two q9 (.an q9 (.an q9 (.an q9 (.an q9 (.an q9 (.an (¬O') (.an q9 (.an (¬O') (.two (4096<=v2) (.an v6 (.at v3)) (.an q9 (.two v4 (.an ((0:Int)=0/\y0.i 30=0) (.an v4 (.an (N8 (z.g 20)) (.an (([]++z.g 20).length=0+(z.g 20).length/\0+(z.g 20).length<=1000000000/\True) (.an v4 (.an (y0.i 30=0/\v2=0) (.an v4 (.an (([]++z.g 20++ [G.node [G.str (z.s 5),G.str [],G.int 0]]).length=0+(z.g 20).length+1/\0+(z.g 20).length+1<=1000000000/\(z.g 20).length<=1000000) (.an v23 (.an (eD (y0.i 30) v0) (.an (Iy (gS p5)) (.an (([]++gS p5).length=0+(gS p5).length/\0+(gS p5).length<=1000000000/\(z.s 6).length<=1000000) (.an v23 (.an (([]++gS p5++z.s 6).length=0+(gS p5).length+(z.s 6).length) (.an (tS (y0.i 30) v0) (.an v9 (.an ((v0.set (y0.i 30).toNat g7).length=0+(z.g 20).length+1+(z.g 20).length/\True) (.at (v5/\(di (z.i 1) (z.s 5) (z.s 6).length (z.g 20)->(0:Int)=0/\v0.set (y0.i 30).toNat g7=fU (z.s 5) (z.s 6) (z.g 20))/\(¬di (z.i 1) (z.s 5) (z.s 6).length (z.g 20)->(0:Int)=6/\v0.set (y0.i 30).toNat g7=z.g 20)))))))))))))))))))) (.an (C9 (y0.i 30) (z.g 20)) (.an (Int.toNat 0 * 3=Int.toNat 0 * 3/3 * 3/\Int.toNat 0 * 3/3+(y0.i 30-0).toNat<=(z.g 20).length) (.an (N8 j7) (.an (([]++List.take (y0.i 30-0).toNat v1).length=0+j7.length/\0+j7.length<=1000000000/\True) (.an (¬v4) (.an (0<=y0.i 30/\y0.i 30<= ↑(z.g 20).length/\v2<=v2) (.an ((y0.i 30).toNat * 3=(y0.i 30).toNat * 3/3 * 3/\(y0.i 30).toNat * 3/3+(↑(z.g 20).length-y0.i 30).toNat<=(z.g 20).length) (.an (([]++List.take (y0.i 30-0).toNat v1++ [G.node [G.str (z.s 5),G.str [],G.int 0]]).length=0+j7.length+1/\0+j7.length+1<=1000000000/\i4.length<=1000000) (.an v20 (.an (eD (y0.i 30) v10) (.an (Iy (gS p9)) (.an (([]++gS p9).length=0+(gS p9).length/\0+(gS p9).length<=1000000000/\(z.s 6).length<=1000000) (.an v20 (.an (([]++gS p9++z.s 6).length=0+(gS p9).length+(z.s 6).length) (.an (tS (y0.i 30) v10) (.an v9 (.an ((v10.set (y0.i 30).toNat d5).length=0+j7.length+1+i4.length/\True) (.at (v5/\(di (z.i 1) (z.s 5) (z.s 6).length (z.g 20)->(0:Int)=0/\v10.set (y0.i 30).toNat d5=fU (z.s 5) (z.s 6) (z.g 20))/\(¬di (z.i 1) (z.s 5) (z.s 6).length (z.g 20)->(0:Int)=6/\v10.set (y0.i 30).toNat d5=z.g 20))))))))))))))))))))))))))))))) (.an (¬q9) (.an (¬q9) (.an (¬q9) (.an (¬q9) (.an (¬q9) (.an (¬O') (.an (¬q9) (.an (¬O') (.an (¬q9) (.an v21 (.an (eD (y0.i 30) (z.g 20)) (.an (Iy (gS v22)) (.an (([]++gS v22).length=0+(gS v22).length/\0+(gS v22).length<=1000000000/\(z.s 6).length<=1000000) (.an v21 (.an (([]++gS v22++z.s 6).length=0+(gS v22).length+(z.s 6).length) (.an (tS (y0.i 30) (z.g 20)) (.an v9 (.an (((z.g 20).set (y0.i 30).toNat r9).length=(z.g 20).length/\True) (.at (v5/\(di (z.i 1) (z.s 5) (z.s 6).length (z.g 20)->(0:Int)=0/\(z.g 20).set (y0.i 30).toNat r9=fU (z.s 5) (z.s 6) (z.g 20))/\(¬di (z.i 1) (z.s 5) (z.s 6).length (z.g 20)->(0:Int)=6/\(z.g 20).set (y0.i 30).toNat r9=z.g 20)))))))))))))))))))))))))))))))))))) by dsimp only [nY,R5,nX,xN] at hA;have:=dG (z.s 5) (z.g 20);have:=pj (z.s 5) (z.g 20);have:=@N3 (z.s 5) (z.g 20);have:=I9 (z.i 1) (z.s 5) (z.s 6).length (z.g 20);have:=@WY (z.s 5) (z.s 6) (z.g 20);have:=@R2 (z.s 5) (z.s 6) (z.g 20);have:=@R3 (z.s 5) (z.g 20);have:=@R4 (z.s 5) (z.g 20);have:=@WX (z.s 5) (z.g 20);exact iO
def R7:bq 34 xO:=bC 7 3199 (jI Dm eN) lN λz hA=>show Fm.den (let v0:=(z.i 1=z.i 1/\z.i 2=z.i 2);(.an (¬(z.i 2=0)) (.an (¬((↑(z.s 5).length:Int)<1)) (.an (¬(64<(↑(z.s 5).length:Int))) (.an (xQ (z.g 20)) (.ct ((z.g 20).length<=5000) (λy0=>y0.i 30= ↑(cJ (z.s 5) (z.g 20))/\(y0.p 40↔bX (z.s 5) (z.g 20))) λy0=>(let v1:=(G.node [G.str (gS (aT (aM (z.g 20) (y0.i 30)))),G.str (gS (aa (aM (z.g 20) (y0.i 30)) 1)),G.int (↑(gS (aa (aM (z.g 20) (y0.i 30)) 1)).length:Int)]);let v2:=(cg (y0.i 30) (z.g 20));(.two (¬y0.p 40) (.an (ig (z.g 20)) (.at (v0/\(bX (z.s 5) (z.g 20)->(7:Int)=0/\z.g 20=lS (z.s 5) (z.g 20))/\(¬bX (z.s 5) (z.g 20)->(7:Int)=7/\z.g 20=z.g 20)))) (.an v2 (.an (eD (y0.i 30) (z.g 20)) (.an v2 (.an (tS (y0.i 30) (z.g 20)) (.an (¬(0<z.i 2)) (.an (((z.g 20).set (y0.i 30).toNat v1).length=(z.g 20).length/\True) (.at (v0/\(bX (z.s 5) (z.g 20)->(0:Int)=0/\(z.g 20).set (y0.i 30).toNat v1=lS (z.s 5) (z.g 20))/\(¬bX (z.s 5) (z.g 20)->(0:Int)=7/\(z.g 20).set (y0.i 30).toNat v1=z.g 20))))))))))))))))) by dsimp only [xO,R5,nX,xN] at hA;have:=dG (z.s 5) (z.g 20);have:=pj (z.s 5) (z.g 20);have:=@N3 (z.s 5) (z.g 20);have:=@WZ (z.s 5) (z.g 20);exact iO
noncomputable section
def W1(i:Nat)(e:G):List Nat:=@ite _ (gI (aa e 0)=2/\¬gI (aa e 12)=1) (Classical.propDecidable _) (aK i++(aK (jR e).length++jR e)) []
def nZ{i:Nat}{e:G}(h:¬gI (aa e 0)=2∨gI (aa e 12)=1):W1 i e= []:=if_neg λ⟨a,b⟩=>h.elim (λc=>c a) b
def ti{i:Nat}{e:G}(h:gI (aa e 0)=2)(h1:¬gI (aa e 12)=1):W1 i e=aK i++(aK (jR e).length++jR e):=if_pos ⟨h,h1⟩
def ZU:Nat->List G->List Nat
 |_,[]=>[]
 |i,e::es=>W1 i e++ZU (i+1) es
def ga(es:List G)(i:Int):List Nat:=ZU i.toNat (es.drop i.toNat)
def tj{es:List G}{i:Int}(h0:0<=i)(h:i<es.length):ga es i=W1 i.toNat (aq es i.toNat)++ga es (i+1):=by unfold ga;rw[mw h0 h,show(i+1).toNat=i.toNat+1 by omega];rfl
def xR{es:List G}{i:Int}(h:(es.length:Int)<=i):ga es i= []:=by unfold ga;rw[aa2 (by omega)];rfl
def N9{i:Nat}{e:G}(hi:i<200):(W1 i e).length<=(yn True e).length+10:=by
 by_cases h:gI (aa e 0)=2
 ·by_cases h1:gI (aa e 12)=1
  ·rw[nZ (.inr h1)];exact aaD _
  ·rw[ti h h1,kH h (λq=>q.elim h1 (λq=>q trivial))];have:=fu (n:=i) (by omega);simp only [aav,aaI,List.length_nil];omega
 ·rw[nZ (.inl h)];exact aaD _
def R8{i:Nat}{e:G}(h:mD e=0)(hi:xf e)(h2:i<200):(W1 i e).length<=70010:=by have:=xi (d:=True) h hi;have:=@N9 i e h2;omega
def GC:∀(es:List G) (i:Nat),(∀e∈es,mD e=0/\xf e)->i+es.length<=200->(ZU i es).length<=es.length * 70010
 | [],_,_,_=>aaD _
 |e::es,i,h,hi=>by have h1:=h e aaB;have a:=R8 (i:=i) h1.1 h1.2 (by simp at hi;omega);have b:=GC es (i+1) (λx hx=>h x (aay _ hx)) (by simp at hi⊢;omega);rw[ZU,aav,aaI];omega
def GD{es:List G}(h:jJ es):(ga es 0).length<=14002000:=by
 obtain⟨h1,h2,h3⟩:=h;have hm:∀e∈es,mD e=0/\xf e:=λe he=>by
  obtain⟨i,hi,e2⟩:=abW he;have:=kZ (i:=(i:Int)) h1 (by omega) (by omega);have e3:aq es (i:Int).toNat=e:=by unfold aq;rw[aaE,aas,aaw hi, ←e2];rfl
  rw[e3] at this;exact⟨this,by unfold qA at h2;exact h2 e he⟩
 have:=GC es 0 hm (by omega);unfold ga;show(ZU 0 (es.drop 0)).length<=_;rw[aa4];have:es.length * 70010<=200 * 70010:=aaM _ h3;omega
theorem R9{n:Nat}(h:n<18446744073709551616):((n:Int)%18446744073709551616).toNat=n:=by omega
def Ja(p:Sy):List BSh:=[.cells 71 (mF p),.growb 5 20]
def GE(p:Sy):LSpec:=⟨[(1,.c (.p 0)),(4,.c (.gb 1 20)),(5,.c (.i .i64 9))],Ja p,λz=>jJ (p.g 24)/\(0<=z.i 9/\z.i 9<=(p.g 24).length)/\(z.s 20).length+(ga (p.g 24) (z.i 9)).length<=20000000,λz=>((p.g 24).length-z.i 9).toNat,[⟨.exit 0,[(1,.c (.p 0)),(4,.c (.gb 1 20))],Ja p⟩],λz y=>y.s 20=z.s 20++ga (p.g 24) (z.i 9),none,[]⟩
def vJ(p:Sy):LSpec:=⟨[(1,.c (.p 0)),(4,.c (.gb 1 20)),(10,.c (.pv 7 (p.g 24))),(11,.c (.pi .i64 (p.g 24).length)),(12,.c (.i .i64 9))],Ja p,λz=>jJ (p.g 24)/\(0<=z.i 9/\z.i 9<=(p.g 24).length)/\(z.s 20).length+(ga (p.g 24) (z.i 9)).length<=20000000,λz=>((p.g 24).length-z.i 9).toNat,[⟨.exit 0,[(1,.c (.p 0)),(4,.c (.gb 1 20))],Ja p⟩],λz y=>y.s 20=z.s 20++ga (p.g 24) (z.i 9),none,[]⟩
def UF:FSpec:=⟨[.ag bk],[],λz=>jJ (z.g 24),λ_=>.tu [.c (.vb 30),.c (.b 40)],λ_=>[],λz y=>(y.p 40↔0<(ga (z.g 24) 0).length)/\((ga (z.g 24) 0).length<=524288->y.s 30=yo (ga (z.g 24) 0))/\(y.s 30).length<=524300,none⟩
def GF:FSpec:=⟨[.ag bk],[],λz=>jJ (z.g 24),λ_=>.tu [.c (.vb 30),.c (.b 40)],λ_=>[],λz y=>(y.p 40↔0<(ga (z.g 24) 0).length)/\y.s 30=ga (z.g 24) 0,none⟩
attribute [irreducible] ga W1
end
abbrev W2(a b c d e:List Nat):=a.length=b.length+c.length+d.length/\b.length+c.length+d.length<=1000000000/\e.length<=1000000
def tl:bq 103 vD:=bC 3 1 (ai Np (jI WB eN)) lN λz hA=>show Fm.den (let v0:=(↑(z.s 1).length:Int);(.two (524288<v0) (.ax (((z.s 1).length<=524288->(5:Int)=0/\ []=yo (z.s 1))/\(524288<(z.s 1).length->(5:Int)=5/\pV)/\0<=524300)) (.ct (0<=v0%4294967296) (λy0=>y0.s 20=b4 (v0%4294967296)) λy0=>(.an (sq (y0.s 20)) (RB (y0.s 20) λy1=>(Gc (y1.i 10) λy2=>(let v1:=(y0.s 20++y2.s 20++z.s 1);(.an (sq (y2.s 20)) (.an (CQ (y0.s 20) (y2.s 20)) (.an (Mz (y0.s 20++y2.s 20) (y0.s 20) (y2.s 20) (z.s 1)) (.an (v1.length=(y0.s 20).length+(y2.s 20).length+(z.s 1).length) (RB v1 λy3=>(Gc (y3.i 10) λy4=>(let v2:=(y0.s 20++y2.s 20++z.s 1++y4.s 20);(.an (sq (y4.s 20)) (.an (W2 v1 (y0.s 20) (y2.s 20) (z.s 1) (y4.s 20)) (.an (v2.length=(y0.s 20).length+(y2.s 20).length+(z.s 1).length+(y4.s 20).length/\True) (.at (((z.s 1).length<=524288->(0:Int)=0/\y0.s 20++y2.s 20++z.s 1++y4.s 20=yo (z.s 1))/\(524288<(z.s 1).length->(0:Int)=5/\y0.s 20++y2.s 20++z.s 1++y4.s 20= [])/\v2.length<=524300))))))))))))))))))) by
 dsimp only [vD,iW] at hA;have m1:(z.s 1).length<=524288->((z.s 1).length:Int)%4294967296=(z.s 1).length:=λh=>by omega
 have:=dI (z.s 1);conv=>zeta
 repeat' with_reducible first|intro _|apply ci|apply cm|apply cj|apply cD|apply cA
 all_goals first|omega|grind [ao,ak,aj,List.append_assoc,yo,ZC,sZ]
def vK:bq 118 iW:=bC 3 1 (ai Nu (ai ZE (jI Nt (ai s_ eN)))) lN λz hA=>show Fm.den (let v0:=(↑(z.s 1).length:Int);(.two (524288<v0) (.ax (((z.s 1).length<=524288->(5:Int)=0/\ []=yo (z.s 1))/\(524288<(z.s 1).length->(5:Int)=5/\pV)/\0<=524300)) (.ct (0<=v0%4294967296/\v0%4294967296<4294967296) (λy0=>y0.i 10/4294967296%4294967296= ↑(z.s 1).length%4294967296/\y0.i 10%4294967296=Da (b4 (v0%4294967296))/\0<=y0.i 10/\y0.i 10<18446744073709551616) λy0=>(.ct (EL (y0.i 10)) (λy1=>y1.s 20=b4 (y0.i 10/4294967296%4294967296)++b4 (y0.i 10%4294967296)) λy1=>(let v1:=(y1.s 20++z.s 1);(.an (CQ (y1.s 20) (z.s 1)) (.an (v1.length=(y1.s 20).length+(z.s 1).length) (RB v1 λy2=>(Gc (y2.i 10) λy3=>(let v2:=(y1.s 20++z.s 1++y3.s 20);(.an (sq (y3.s 20)) (.an (Mz v1 (y1.s 20) (z.s 1) (y3.s 20)) (.an (v2.length=(y1.s 20).length+(z.s 1).length+(y3.s 20).length/\True) (.at (((z.s 1).length<=524288->(0:Int)=0/\y1.s 20++z.s 1++y3.s 20=yo (z.s 1))/\(524288<(z.s 1).length->(0:Int)=5/\y1.s 20++z.s 1++y3.s 20= [])/\v2.length<=524300))))))))))))))) by
 dsimp only [iW] at hA;have m1:(z.s 1).length<=524288->((z.s 1).length:Int)%4294967296=(z.s 1).length:=λh=>by omega
 have:=dI (z.s 1);conv=>zeta
 repeat' with_reducible first|intro _|apply ci|apply cm|apply cj|apply cD|apply cA
 all_goals first|omega|grind [ao,ak,aj,List.append_assoc,yo,ZC,sZ]
abbrev R_(a:Prop)(b c:Int)(d:List Nat)(e:List G)(f g:Int):=a/\b.toNat<c.toNat/\∀(y:Sy),y.s 20=d++ga e f->y.s 20=d++ga e g
def N_:bM 99 0 GE:=bL 10 35109 (ai oW (ai da eN)) lN λp z hA=>show Fm.den (let v0:=(aM (p.g 24) (z.i 9));let v1:=(FM (z.s 20) (p.g 24) (jP p 200) (iU (p.i 23) (p.i 22) (p.i 21)));let v3:=((-9223372036854775808)<=z.i 9+1/\z.i 9+1<=9223372036854775807);let v4:=(↑(p.g 24).length:Int);let v5:=(gL (aa v0 10));let v6:=(gS (aa v0 8));let v7:=(gI (aa v0 6));let v8:=(gL (aa v0 9));let v9:=(z.i 9+1);let v2:=(pX (od (p.g 24)) (dE (z.i 9) (p.g 24)) (z.s 20) (ga (p.g 24) v9));let v10:=(gI (aa v0 5));let v11:=(gI (aa v0 7));(.two (bR (z.i 9) (p.g 24)) (.an (cg (z.i 9) (p.g 24)) (.two (gI (aa v0 0)≠2) (.an v3 (.an v1 (.at (R_ v2 (v4-v9) (v4-z.i 9) (z.s 20) (p.g 24) v9 (z.i 9))))) (.two (gI (aa v0 12)=1) (.an v3 (.an v1 (.at (R_ v2 (v4-v9) (v4-z.i 9) (z.s 20) (p.g 24) v9 (z.i 9))))) (Yb v7 v6 v8 v5 v10 v11 (dN 16 v10 v7 v11 v6 v8 v5) λy0=>(let d5:=(↑(y0.s 10).length:Int);(tF (z.i 9) (z.i 9%18446744073709551616) λy1=>(.an (CQ (z.s 20) (y1.s 10)) (tF d5 (d5%18446744073709551616) λy2=>(let g7:=(z.s 20++y1.s 10++y2.s 10++y0.s 10);(.an (Mz (z.s 20++y1.s 10) (z.s 20) (y1.s 10) (y2.s 10)) (.an (W2 (z.s 20++y1.s 10++y2.s 10) (z.s 20) (y1.s 10) (y2.s 10) (y0.s 10)) (.an v3 (.an (g7.length=(z.s 20).length+(y1.s 10).length+(y2.s 10).length+(y0.s 10).length/\p.g 24=p.g 24/\fS (jP p 200) (jP p 200) (iU (p.i 23) (p.i 22) (p.i 21))) (.at ((pX (od (p.g 24)) (dE (z.i 9) (p.g 24)) g7 (ga (p.g 24) v9))/\(v4-v9).toNat<(v4-z.i 9).toNat/\∀(y:Sy),y.s 20=z.s 20++y1.s 10++y2.s 10++y0.s 10++ga (p.g 24) v9->y.s 20=z.s 20++ga (p.g 24) (z.i 9)))))))))))))))) (.an v1 (.at (z.s 20=z.s 20++ga (p.g 24) (z.i 9)))))) by
 dsimp only [GE,Ja,mF,tV,jJ] at hA;have:=@tj (p.g 24) (z.i 9);have:=@xR (p.g 24) (z.i 9);have a3:=@nZ (z.i 9).toNat (aq (p.g 24) (z.i 9).toNat);have a4:=@ti (z.i 9).toNat (aq (p.g 24) (z.i 9).toNat);have a6:=AI p z;have a7:=IN p z;dsimp only [jR,xf,mD] at a3 a4 a6 a7;have m9:0<=z.i 9->z.i 9<=200->(z.i 9%18446744073709551616).toNat=(z.i 9).toNat:=λa b=>by omega
 have:=MP p z;have:=MQ p z;have q1:=Rg p z;dsimp only [mD] at q1;conv=>zeta
 repeat' with_reducible first|intro _|apply ci|apply cm|apply cj|apply cD|apply cA
 all_goals first|omega|grind [ao,ak,aj,aX,aY,aZ,a_,ba,bc,be,bf,bh,aB,List.append_assoc,fu,bP,R9]
abbrev Sb(a:List Nat):=Fm.ct (a.length<=100000000) (λy=>(a.length<=524288->y.i 50=0/\y.s 10=yo a)/\(524288<a.length->y.i 50=5/\y.s 10= [])/\(y.s 10).length<=524300)
def W3:bq 99 UF:=bC 1 0 (ai tl eN) (aG (ptm:=[(0,.ag bk)]) N_ lN) λz hA=>show Fm.den (let v0:=(ga (z.g 24) 0);(.cl ((FO (z.g 24) (jP z 200) (iU (z.i 23) (z.i 22) (z.i 21)))) ((od (z.g 24))/\(fE (↑(z.g 24).length:Int))/\0+v0.length<=20000000) (λy0=>y0.s 20= []++ga (z.g 24) 0) λy0=>(let v1:=(sq (y0.s 20));(.an v1 (Sb (y0.s 20) λy1=>(.an v1 (.ax ((0<(↑(y0.s 20).length:Int)↔0<v0.length)/\(v0.length<=524288->y1.s 10=yo v0)/\(y1.s 10).length<=524300)))))))) by
 dsimp only [UF,bk,hs,jJ] at hA;have:=@GD (z.g 24);conv=>zeta
 repeat' with_reducible first|intro _|apply ci|apply cm|apply cj|apply cD|apply cA
 all_goals first|omega|grind [ao,ak,aj,aX,aY,aZ,a_,ba,bc,be,bf,bh,aB,List.append_assoc,fu,bP,R9]
def Dn:bM 115 0 vJ:=bL 10 35109 (ai sJ (ai fY eN)) lN λp z hA=>show Fm.den (let v0:=(aM (p.g 24) (z.i 9));let v3:=((-9223372036854775808)<=z.i 9+1/\z.i 9+1<=9223372036854775807);let v4:=(↑(p.g 24).length:Int);let v1:=(CW (p.i 23) (p.i 22) (p.i 21) v4 (p.g 24));let v5:=(FM (z.s 20) (p.g 24) (jP p 200) v1);let v6:=(gL (aa v0 10));let v7:=(gS (aa v0 8));let v8:=(gI (aa v0 6));let v9:=(gL (aa v0 9));let v10:=(z.i 9+1);let v2:=(pX (od (p.g 24)) (dE (z.i 9) (p.g 24)) (z.s 20) (ga (p.g 24) v10));let v11:=(gI (aa v0 5));let d5:=(gI (aa v0 7));(.two (bR (z.i 9) (p.g 24)) (.an (cg (z.i 9) (p.g 24)) (.two (gI (aa v0 0)≠2) (.an v3 (.an v5 (.at (R_ v2 (v4-v10) (v4-z.i 9) (z.s 20) (p.g 24) v10 (z.i 9))))) (.two (gI (aa v0 12)=1) (.an v3 (.an v5 (.at (R_ v2 (v4-v10) (v4-z.i 9) (z.s 20) (p.g 24) v10 (z.i 9))))) (Yb v8 v7 v9 v6 v11 d5 (dN 16 v11 v8 d5 v7 v9 v6) λy0=>(let g7:=(↑(y0.s 10).length:Int);(tF (z.i 9) (z.i 9%18446744073709551616) λy1=>(.an (CQ (z.s 20) (y1.s 10)) (tF g7 (g7%18446744073709551616) λy2=>(let i4:=(z.s 20++y1.s 10++y2.s 10++y0.s 10);(.an (Mz (z.s 20++y1.s 10) (z.s 20) (y1.s 10) (y2.s 10)) (.an (W2 (z.s 20++y1.s 10++y2.s 10) (z.s 20) (y1.s 10) (y2.s 10) (y0.s 10)) (.an v3 (.an (i4.length=(z.s 20).length+(y1.s 10).length+(y2.s 10).length+(y0.s 10).length/\p.g 24=p.g 24/\fS (jP p 200) (jP p 200) v1) (.at ((pX (od (p.g 24)) (dE (z.i 9) (p.g 24)) i4 (ga (p.g 24) v10))/\(v4-v10).toNat<(v4-z.i 9).toNat/\∀(y:Sy),y.s 20=z.s 20++y1.s 10++y2.s 10++y0.s 10++ga (p.g 24) v10->y.s 20=z.s 20++ga (p.g 24) (z.i 9)))))))))))))))) (.an (FM (z.s 20) (p.g 24) (jP p 200) (iU (p.i 23) (p.i 22) (p.i 21))) (.at (z.s 20=z.s 20++ga (p.g 24) (z.i 9)))))) by
 dsimp only [vJ,Ja,mF,tV,jJ] at hA;have:=@tj (p.g 24) (z.i 9);have:=@xR (p.g 24) (z.i 9);have a3:=@nZ (z.i 9).toNat (aq (p.g 24) (z.i 9).toNat);have a4:=@ti (z.i 9).toNat (aq (p.g 24) (z.i 9).toNat);have a6:=AI p z;have a7:=IN p z;dsimp only [jR,xf,mD] at a3 a4 a6 a7;have m9:0<=z.i 9->z.i 9<=200->(z.i 9%18446744073709551616).toNat=(z.i 9).toNat:=λa b=>by omega
 have:=MP p z;have:=MQ p z;have q1:=Rg p z;dsimp only [mD] at q1;conv=>zeta
 repeat' with_reducible first|intro _|apply ci|apply cm|apply cj|apply cD|apply cA
 all_goals first|omega|grind [ao,ak,aj,aX,aY,aZ,a_,ba,bc,be,bf,bh,aB,List.append_assoc,fu,bP,R9]
def Oa:bq 115 GF:=bC 1 0 eN (aG (ptm:=[(0,.ag bk)]) Dn lN) λz hA=>show Fm.den (let v0:=(↑(z.g 24).length:Int);(.cl ((FO (z.g 24) (jP z 200) (CW (z.i 23) (z.i 22) (z.i 21) v0 (z.g 24)))) ((od (z.g 24))/\(fE v0)/\0+(ga (z.g 24) 0).length<=20000000) (λy0=>y0.s 20= []++ga (z.g 24) 0) λy0=>(.an (oP (y0.s 20)) (.at ((0<(↑(y0.s 20).length:Int)↔0<(ga (z.g 24) 0).length)/\y0.s 20=ga (z.g 24) 0))))) by
 dsimp only [GF,bk,hs,jJ] at hA;have:=@GD (z.g 24);conv=>zeta
 repeat' with_reducible first|intro _|apply ci|apply cm|apply cj|apply cD|apply cA
 all_goals first|omega|grind [ao,ak,aj,aX,aY,aZ,a_,ba,bc,be,bf,bh,aB,List.append_assoc,fu,bP,R9]
noncomputable section
def GG(k:Int)(n:Nat)(l:List G):Prop:=(∀r∈l,gS (aa r 0)=fx∨∃i:Int,0<=i/\i<k/\gS (aa r 0)=cO i)/\(l.length:Int)<=2 * k/\ce l<=n
def Sd:GG 0 0 []:=⟨λr h=>absurd h aa5,by simp,by rw[xK];exact aao _⟩
def Se{k:Int}{n:Nat}{l:List G}(h:GG k n l)(h0:0<=k)(h1:k<100):¬bX (cO k) l:=λhs=>by
 obtain⟨r,hr,e⟩:=N5 hs;rcases h.1 r hr with h2|⟨i,i0,ik,h2⟩
 ·exact NU k (e.symm.trans h2)
 ·have:=Gs h0 i0 h1 (by omega) (e.symm.trans h2);omega
def GH{k:Int}{n:Nat}{l:List G}{room:Int}{nm b:List Nat}(h:GG k n l)(h1:k<100)(hr:(n:Int)+b.length<=room):di room nm b.length l:=by obtain⟨_,h2,h3⟩:=h;unfold di;exact⟨by omega,.inr (by omega)⟩
def Ob{k:Int}{n:Nat}{l:List G}{b:List Nat}(h:GG k n l)(h0:0<=k):bX (cO k) (fU (cO k) b l)/\(∀r∈lS (cO k) (fU (cO k) b l),gS (aa r 0)=fx∨∃i:Int,0<=i/\i<k+1/\gS (aa r 0)=cO i)/\((lS (cO k) (fU (cO k) b l)).length:Int)<=2 * k+1/\ce (lS (cO k) (fU (cO k) b l))<=n+b.length:=by
 obtain⟨q1,q2,q3,q4⟩:=iY (cO k) b l;obtain⟨s1,s2,s3⟩:=pk _ _ q1;obtain⟨h1,h2,h3⟩:=h;refine⟨q1,λr hr=>?_,by omega,by omega⟩;have hm:gS (aa r 0)∈fL (lS (cO k) (fU (cO k) b l)):=List.mem_map.2 ⟨r,hr,rfl⟩;rw[s1] at hm;obtain⟨r2,hr2,e2⟩:=List.mem_map.1 hm;rcases q4 r2 hr2 with h|⟨r',hr',e'⟩
 ·exact .inr ⟨k,h0,by omega,e2.symm.trans h⟩
 ·rcases h1 r' hr' with h|⟨i,i0,ik,h⟩
  ·exact .inl (e2.symm.trans (e'.symm.trans h))
  ·exact .inr ⟨i,i0,by omega,e2.symm.trans (e'.symm.trans h)⟩
def GI{k:Int}{n:Nat}{l:List G}{b:List Nat}(h1:∀r∈l,gS (aa r 0)=fx∨∃i:Int,0<=i/\i<k+1/\gS (aa r 0)=cO i)(h2:(l.length:Int)<=2 * k+1)(h3:ce l<=n):bX fx (fU fx b l)/\GG (k+1) (n+b.length) (lS fx (fU fx b l)):=by
 obtain⟨q1,q2,q3,q4⟩:=iY fx b l;obtain⟨s1,s2,s3⟩:=pk _ _ q1;refine⟨q1,λr hr=>?_,by omega,by omega⟩;have hm:gS (aa r 0)∈fL (lS fx (fU fx b l)):=List.mem_map.2 ⟨r,hr,rfl⟩;rw[s1] at hm;obtain⟨r2,hr2,e2⟩:=List.mem_map.1 hm;rcases q4 r2 hr2 with h|⟨r',hr',e'⟩
 ·exact .inl (e2.symm.trans h)
 ·rcases h1 r' hr' with h|⟨i,i0,ik,h⟩
  ·exact .inl (e2.symm.trans (e'.symm.trans h))
  ·exact .inr ⟨i,i0,ik,e2.symm.trans (e'.symm.trans h)⟩
attribute [irreducible] GG
end
noncomputable section
def yp:Nat->List G->List G
 |0,l=>l
 |k+1,l=>l.map λg=>.node [.int (gI (aa g 0)),.int (gI (aa g 1)),.int (gI (aa g 2)),.str (gS (aa g 3)),.node (gL (aa g 4)),.node (yp k (gL (aa g 5)))]
def Yf(k:Nat)(g:G):G:=.node [.int (gI (aa g 0)),.int (gI (aa g 1)),.int (gI (aa g 2)),.str (gS (aa g 3)),.node (gL (aa g 4)),.node (yp k (gL (aa g 5)))]
def Oc(k:Nat)(g:G):Yf k g= .node [.int (gI (aa g 0)),.int (gI (aa g 1)),.int (gI (aa g 2)),.str (gS (aa g 3)),.node (gL (aa g 4)),.node (yp k (gL (aa g 5)))]:=rfl
def BM(k:Nat)(l:List G)(i:Int):List G:=(l.drop i.toNat).map (Yf k)
def Bf{k:Nat}{l:List G}{i:Int}(h0:0<=i)(h:i<l.length):BM k l i=Yf k (aq l i.toNat)::BM k l (i+1):=by unfold BM;rw[mw h0 h];rfl
def GJ{k:Nat}{l:List G}{i:Int}(h:(l.length:Int)<=i):BM k l i= []:=by unfold BM;rw[aa2 (by omega)];rfl
def Bg(k:Nat)(l:List G):yp (k+1) l=BM k l 0:=rfl
def Jb(ns ks:List G):Prop:=ns.length=0/\ks.length=0
def W4(p:Sy):List BSh:=[.cells 51 [.pi .i64 (p.i 1),.pi .i64 (p.i 2),.pi .i64 (p.i 3),.ps (p.s 4),.v 1 15,.pv 2 (p.g 6)],.grow 2 51 20,.cells 51 [.i .i64 51,.i .i64 52,.i .i64 53,.s 54,.v 1 55,.v 2 56]]
def Bh(k:Nat)(p:Sy):LSpec:=⟨[(1,.c (.p 0)),(2,.c (.p 2)),(3,.c (.g 1 6 20)),(4,.c (.i .i64 9))],W4 p,λz=>eE k (p.g 6) 0=0/\(p.g 6).length<=1000/\(0<=z.i 9/\z.i 9<=(p.g 6).length)/\(z.g 20).length<=z.i 9,λz=>((p.g 6).length-z.i 9).toNat,[⟨.exit 0,[(1,.c (.p 0)),(2,.c (.p 2)),(3,.c (.g 1 6 20))],W4 p⟩],λz y=>y.g 15=z.g 15/\y.g 20=z.g 20++BM k (p.g 6) (z.i 9),none,[]⟩
def va':List Sh:=[.i .i64 11,.i .i64 12,.i .i64 13,.s 14,.v 1 15,.v 2 16]
def tp(k:Nat):FSpec:=⟨[.ag va],[],λz=>uZ k z=0∨(k=16/\Jb (z.g 5) (z.g 6)),λ_=>.one (.ag va'),λ_=>[],λz y=>y.i 11=z.i 1/\y.i 12=z.i 2/\y.i 13=z.i 3/\y.s 14=z.s 4/\y.g 15=z.g 5/\y.g 16=yp k (z.g 6),none⟩
def W5{kd i sc:Int}{t:List Nat}{ns ks:List G}(h:oT kd i sc t ns ks=0):ns.length<=200:=by
 obtain⟨h1,h2,h3,h4⟩:=nE h;have hd:(kd<1∨9<kd)∨kd=1∨kd=2∨kd=3∨kd=4∨kd=5∨kd=6∨kd=7∨kd=8∨kd=9:=by omega
 rcases hd with e|e|e|e|e|e|e|e|e|e
 ·exact absurd h1 (Ml e)
 ·have:=(E9 e).1 h1;omega
 ·have:=(E_ e).1 h1;omega
 ·have:=(Am e).1 h1;omega
 ·have:=(Fa e).1 h1;omega
 ·have:=(Mj e).1 h1;omega
 ·have:=(Fb e).1 h1;omega
 ·have:=(Fc e).1 h1;omega
 ·have:=(Fd e).1 h1;omega
 ·have:=(h4 e).2;omega
def Od{k:Nat}{kd i sc:Int}{t:List Nat}{ns ks:List G}(h:eG (k+1) kd i sc t ns ks=0∨(k+1=16/\Jb ns ks)):eE k ks 0=0/\ks.length<=1000/\ns.length<=1000:=by
 rcases h with h|⟨_,h1,h2⟩
 ·by_cases hv:oT kd i sc t ns ks=0
  ·obtain⟨h1,h2,h3,h4⟩:=nE hv;have h5:=W5 hv;rw[sz hv] at h;exact⟨h,by omega,by omega⟩
  ·rw[qs hv] at h;exact absurd h hv
 ·rw[List.length_eq_zero_iff] at h2;subst h2;exact⟨qt (by simp),by simp,by omega⟩
def UG(e:G):G:=.node [.int (gI (aa e 0)),.str (gS (aa e 1)),.int (gI (aa e 2)),.int (gI (aa e 3)),.int (gI (aa e 4)),.int (gI (aa e 5)),.int (gI (aa e 6)),.int (gI (aa e 7)),.str (gS (aa e 8)),.node (gL (aa e 9)),.node (yp 16 (gL (aa e 10))),hX (aa e 11),.int (pI (gI (aa e 12)=1)),.int (gI (aa e 13)),.int (gI (aa e 14))]
def Oe(e:G):UG e= .node [.int (gI (aa e 0)),.str (gS (aa e 1)),.int (gI (aa e 2)),.int (gI (aa e 3)),.int (gI (aa e 4)),.int (gI (aa e 5)),.int (gI (aa e 6)),.int (gI (aa e 7)),.str (gS (aa e 8)),.node (gL (aa e 9)),.node (yp 16 (gL (aa e 10))),hX (aa e 11),.int (pI (gI (aa e 12)=1)),.int (gI (aa e 13)),.int (gI (aa e 14))]:=rfl
def kN(l:List G)(i:Int):List G:=(l.drop i.toNat).map UG
def Jc{l:List G}{i:Int}(h0:0<=i)(h:i<l.length):kN l i=UG (aq l i.toNat)::kN l (i+1):=by unfold kN;rw[mw h0 h];rfl
def Of{l:List G}{i:Int}(h:(l.length:Int)<=i):kN l i= []:=by unfold kN;rw[aa2 (by omega)];rfl
def W6{kd i sc:Int}{t:List Nat}{ns ks:List G}(h:ib kd i sc t ns ks):Jb ns ks:=by obtain⟨_,_,_,_,h1,h2⟩:=(bH kd i sc t ns ks).1 h;exact⟨h1,h2⟩
def W7{kd:Int}{tx:List Nat}{tb dc vr:Int}{bl hz gn:Prop}{ab ae:Int}(h:ic kd tx tb dc vr bl hz gn ab ae)(hk:¬(kd=2/\¬gn)):bl:=by
 obtain⟨h1,h2⟩:=MI h;have hd:kd=1∨kd=2∨kd=3∨kd=4∨kd=5∨kd=6∨kd=7:=by omega
 rcases hd with e|e|e|e|e|e|e
 ·exact((AE e).1 h).2.2.2.2.1
 ·exact((AF e).1 h).2.2.2.2.2.2 (Classical.not_not.1 λq=>hk ⟨e,q⟩)
 ·exact((Fv e).1 h).2.2.2.2.1
 ·exact((Fw e).1 h).2.2.2.2.2.2.1
 ·exact((Fx e).1 h).2.2.2.2.1
 ·exact((Fz e).1 h).2.2.2.2.1
 ·exact((Fy e).1 h).2.2.2.2.1
def ZV{e:G}(h:mD e=0):eG 16 (gI (aa e 5)) (gI (aa e 6)) (gI (aa e 7)) (gS (aa e 8)) (gL (aa e 9)) (gL (aa e 10))=0∨Jb (gL (aa e 9)) (gL (aa e 10)):=by
 obtain⟨h1,h2⟩:=fc h;by_cases hk:gI (aa e 0)=2/\¬gI (aa e 12)=1
 ·exact .inl (xd (h2 hk)).1
 ·exact .inr (W6 (W7 h1 hk))
def GK{es:List G}{i:Int}(h:jJ es)(h0:0<=i)(hi:i<es.length):eG 16 (gI (aa (aq es i.toNat) 5)) (gI (aa (aq es i.toNat) 6)) (gI (aa (aq es i.toNat) 7)) (gS (aa (aq es i.toNat) 8)) (gL (aa (aq es i.toNat) 9)) (gL (aa (aq es i.toNat) 10))=0∨((16:Nat)=16/\Jb (gL (aa (aq es i.toNat) 9)) (gL (aa (aq es i.toNat) 10))):=
 (ZV (kZ h.1 h0 hi)).imp id λh=>⟨rfl,h⟩
def GL{es:List G}(h:jJ es):es.length<=200:=h.2.2
def bkC:List Sh:=[.i .i64 31,.i .i64 32,.i .i64 33]++hs 400++ [.v 7 34]
def W8(p:Sy):List BSh:=[.cells 71 (mF p),.grow 7 68 20,.cells 71 ([.i .i64 61,.i .i64 62,.i .i64 63]++hs 500++ [.v 7 64])]
def vL(p:Sy):LSpec:=⟨[(1,.c (.p 0)),(2,.c (.p 2)),(3,.c (.g 1 46 20)),(4,.c (.i .i64 9))],W8 p,λz=>jJ (p.g 24)/\(0<=z.i 9/\z.i 9<=(p.g 24).length)/\(z.g 20).length<=z.i 9,λz=>((p.g 24).length-z.i 9).toNat,[⟨.exit 0,[(1,.c (.p 0)),(2,.c (.p 2)),(3,.c (.g 1 46 20))],W8 p⟩],λz y=>y.g 20=z.g 20++kN (p.g 24) (z.i 9),none,[]⟩
def GM:FSpec:=⟨[.ag bk],[],λz=>jJ (z.g 24),λ_=>.one (.ag bkC),λ_=>[],λz y=>y.i 31=z.i 21/\y.i 32=z.i 22/\y.i 33=z.i 23/\hT y 400=hT z 200/\y.g 34=kN (z.g 24) 0,none⟩
end
def Jd(k:Nat)(al4:bq 106 (tp k)):bM 106 0 (Bh k):=bL 4 9 (ai al4 eN) lN λp z hA=>show Fm.den (let v0:=(aM (p.g 6) (z.i 9));let v1:=(gL (aa v0 5));let v2:=(gL (aa v0 4));(.two (bR (z.i 9) (p.g 6)) (.an (cg (z.i 9) (p.g 6)) (.an (True/\(eG k (gI (aa v0 0)) (gI (aa v0 1)) (gI (aa v0 2)) (gS (aa v0 3)) v2 v1=(0:Int)∨k=16/\Jb v2 v1)) (.al (λy0=>eG k (gI (aa v0 0)) (gI (aa v0 1)) (gI (aa v0 2)) (gS (aa v0 3)) v2 v1=(0:Int)∨k=16/\Jb v2 v1->y0.i 11=gI (aa v0 0)/\y0.i 12=gI (aa v0 1)/\y0.i 13=gI (aa v0 2)/\y0.s 14=gS (aa v0 3)/\y0.g 15=gL (aa v0 4)/\y0.g 16=yp k v1) λy0=>(let v3:=(z.g 20++ [G.node [G.int (y0.i 11),G.int (y0.i 12),G.int (y0.i 13),G.str (y0.s 14),G.node (y0.g 15),G.node (y0.g 16)]]);(.an (lq (z.g 20)) (.an ((-9223372036854775808)<=z.i 9+1/\z.i 9+1<=9223372036854775807) (.an (v3.length=(z.g 20).length+1/\p.g 6=p.g 6/\p.s 4=p.s 4/\p.i 3=p.i 3/\p.i 2=p.i 2/\p.i 1=p.i 1/\True) (.at ((eE k (p.g 6) 0=0/\(p.g 6).length<=1000/\(dE (z.i 9) (p.g 6))/\(↑v3.length:Int)<=z.i 9+1)/\((↑(p.g 6).length:Int)-(z.i 9+1)).toNat<((↑(p.g 6).length:Int)-z.i 9).toNat/\∀(y:Sy),y.g 15=z.g 15/\y.g 20=z.g 20++ [G.node [G.int (y0.i 11),G.int (y0.i 12),G.int (y0.i 13),G.str (y0.s 14),G.node (y0.g 15),G.node (y0.g 16)]]++BM k (p.g 6) (z.i 9+1)->y.g 15=z.g 15/\y.g 20=z.g 20++BM k (p.g 6) (z.i 9)))))))))) (.an ((z.g 20).length=(z.g 20).length/\p.g 6=p.g 6/\p.s 4=p.s 4/\p.i 3=p.i 3/\p.i 2=p.i 2/\p.i 1=p.i 1/\True) (.at (z.g 15=z.g 15/\z.g 20=z.g 20++BM k (p.g 6) (z.i 9)))))) by dsimp only [Bh,W4] at hA;have:=@Bf k (p.g 6) (z.i 9);have:=@GJ k (p.g 6) (z.i 9);have:=Za k p z;have:=gq k (aq (p.g 6) (z.i 9).toNat);have:=Oc k (aq (p.g 6) (z.i 9).toNat);exact dD
def Bi:∀k,bq 106 (tp k)
 |0=>LB λz h=>h.elim (λh=>absurd ((gt _ _ _ _ _ _).symm.trans h) (by decide)) λh=>absurd h.1 (by decide)
 |k+1=>bC 1 0 eN (aG (ptm:=[(0,.ag va)]) (Jd k (Bi k)) lN) λz hA=>show Fm.den ((.an (N8 (z.g 5)) (.an (([]++z.g 5).length=0+(z.g 5).length) (.cl ((0=0/\z.g 6=z.g 6/\z.s 4=z.s 4/\z.i 3=z.i 3/\z.i 2=z.i 2/\z.i 1=z.i 1/\True)) (eE k (z.g 6) 0=0/\(z.g 6).length<=1000/\(fE (↑(z.g 6).length:Int))/\(↑0:Int)<=0) (λy0=>y0.g 15= []++z.g 5/\y0.g 20= []++BM k (z.g 6) 0) λy0=>(.an (ig (y0.g 20)) (.at (z.i 1=z.i 1/\z.i 2=z.i 2/\z.i 3=z.i 3/\z.s 4=z.s 4/\y0.g 15=z.g 5/\y0.g 20=yp (k+1) (z.g 6)))))))) by dsimp only [tp,va,uZ,va'] at hA;have:=@Od k (z.i 1) (z.i 2) (z.i 3) (z.s 4) (z.g 5) (z.g 6);have:=Bg k (z.g 6);exact dD
def Do:bM 44 0 vL:=bL 4 9 (ai (Bi 16) eN) lN λp z hA=>show Fm.den (let v0:=(aM (p.g 24) (z.i 9));let v1:=(iU (p.i 23) (p.i 22) (p.i 21));let v2:=(pI (gI (aa v0 12)=(1:Int)));let v3:=(gL (aa v0 10));let v4:=(gL (aa v0 9));let v5:=(gI (aa v0 13));let v6:=(gI (aa v0 14));let v7:=(jP p 200);let v8:=(gI (aa v0 0));let v9:=(gS (aa v0 1));(.two (bR (z.i 9) (p.g 24)) (.an (cg (z.i 9) (p.g 24)) (.an (True/\(eG 16 (gI (aa v0 5)) (gI (aa v0 6)) (gI (aa v0 7)) (gS (aa v0 8)) v4 v3=(0:Int)∨16=16/\Jb v4 v3)) (.al (λy0=>eG 16 (gI (aa v0 5)) (gI (aa v0 6)) (gI (aa v0 7)) (gS (aa v0 8)) v4 v3=(0:Int)∨16=16/\Jb v4 v3->y0.i 11=gI (aa v0 5)/\y0.i 12=gI (aa v0 6)/\y0.i 13=gI (aa v0 7)/\y0.s 14=gS (aa v0 8)/\y0.g 15=gL (aa v0 9)/\y0.g 16=yp 16 v3) λy0=>(let v10:=(z.g 20++ [G.node [G.int v8,G.str v9,G.int (gI (aa v0 2)),G.int (gI (aa v0 3)),G.int (gI (aa v0 4)),G.int (y0.i 11),G.int (y0.i 12),G.int (y0.i 13),G.str (y0.s 14),G.node (y0.g 15),G.node (y0.g 16),hX (aa v0 11),G.int v2,G.int v5,G.int v6]]);(.an (lq (z.g 20)) (.an ((-9223372036854775808)<=z.i 9+1/\z.i 9+1<=9223372036854775807) (.an (v10.length=(z.g 20).length+1/\p.g 24=p.g 24/\fS v7 v7 v1) (.at (((od (p.g 24))/\(dE (z.i 9) (p.g 24))/\(↑v10.length:Int)<=z.i 9+1)/\((↑(p.g 24).length:Int)-(z.i 9+1)).toNat<((↑(p.g 24).length:Int)-z.i 9).toNat/\∀(y:Sy),y.g 20=z.g 20++ [G.node [G.int v8,G.str v9,G.int (gI (aa v0 2)),G.int (gI (aa v0 3)),G.int (gI (aa v0 4)),G.int (y0.i 11),G.int (y0.i 12),G.int (y0.i 13),G.str (y0.s 14),G.node (y0.g 15),G.node (y0.g 16),hX (aa v0 11),G.int v2,G.int v5,G.int v6]]++kN (p.g 24) (z.i 9+1)->y.g 20=z.g 20++kN (p.g 24) (z.i 9)))))))))) (.an (MZ (z.g 20) (p.g 24) v7 v1) (.at (z.g 20=z.g 20++kN (p.g 24) (z.i 9)))))) by dsimp only [vL,W8,mF,tV,hs,jJ] at hA;have:=@Jc (p.g 24) (z.i 9);have:=@Of (p.g 24) (z.i 9);have:=@GK (p.g 24) (z.i 9);have:=Oe (aq (p.g 24) (z.i 9).toNat);exact dD
def Bj:bq 44 GM:=bC 1 0 eN (aG (ptm:=[(0,.ag bk)]) Do lN) λz hA=>show Fm.den ((.cl ((FO (z.g 24) (jP z 200) (iU (z.i 23) (z.i 22) (z.i 21)))) ((od (z.g 24))/\(fE (↑(z.g 24).length:Int))/\(↑0:Int)<=0) (λy0=>y0.g 20= []++kN (z.g 24) 0) λy0=>(.an (ig (y0.g 20)) (.at (z.i 21=z.i 21/\z.i 22=z.i 22/\z.i 23=z.i 23/\hT z 200=hT z 200/\y0.g 20=kN (z.g 24) 0))))) by dsimp only [GM,bk,hs,jJ,bkC] at hA;have:=@GL (z.g 24);exact dD
noncomputable section
def Og(es:List G):Prop:=∀e∈es,UG e=e
def W9{es:List G}{i:Int}(h:Og es)(h0:0<=i)(hi:i<es.length):UG (aq es i.toNat)=aq es i.toNat:=h _ (dn h0 hi)
def Sf{es:List G}{i:Int}{g:G}(h0:0<=i)(hi:i<es.length)(e:g=aq es i.toNat):es.set i.toNat g=es:=by
 subst e;have h1:i.toNat<es.length:=by omega
 unfold aq;rw[aas,aaw h1];exact List.set_getElem_self h1
def Sg{es:List G}{i:Int}(h:Og es)(h0:0<=i)(hi:i<es.length):es.set i.toNat (UG (aq es i.toNat))=es:=Sf h0 hi (W9 h h0 hi)
def GN{es:List G}(h:Og es):kN es 0=es:=by unfold kN;show(es.drop 0).map UG=es;rw[aa4];exact(List.map_congr_left h).trans (List.map_id' es)
def GO:FSpec:=⟨[.c (.v 1 5)],[],λz=>(z.g 5).length<=1000000,λ_=>.one (.c (.v 1 20)),λ_=>[],λz y=>y.g 20=z.g 5,none⟩
def GP:FSpec:=⟨[.c (.v 7 24)],[],λz=>(z.g 24).length<=1000000,λ_=>.one (.c (.g 0 46 20)),λ_=>[.grow 7 68 20],λz y=>y.g 20=z.g 24,none⟩
def GQ(k:Nat)(p:Sy):LSpec:=⟨[(1,.c (.p 0)),(3,.c (.g 1 6 20)),(11,.c (.pv 2 (p.g 6))),(12,.c (.pi .i64 (p.g 6).length)),(13,.c (.i .i64 9))],[.cells 51 [.pi .i64 (p.i 1),.pi .i64 (p.i 2),.pi .i64 (p.i 3),.ps (p.s 4),.v 1 15,.pv 2 (p.g 6)],.grow 2 51 20],λz=>eE k (p.g 6) 0=0/\(p.g 6).length<=1000/\(0<=z.i 9/\z.i 9<=(p.g 6).length)/\(z.g 20).length<=z.i 9,λz=>((p.g 6).length-z.i 9).toNat,[⟨.exit 0,[(1,.c (.p 0)),(3,.c (.g 1 6 20))],[.cells 51 [.pi .i64 (p.i 1),.pi .i64 (p.i 2),.pi .i64 (p.i 3),.ps (p.s 4),.v 1 15,.pv 2 (p.g 6)],.grow 2 51 20]⟩],λz y=>y.g 15=z.g 15/\y.g 20=z.g 20++BM k (p.g 6) (z.i 9),none,[2]⟩
def Oh(k:Nat):FSpec:=tp k
def vM(p:Sy):List BSh:=[.cells 71 ([.pi .i64 (p.i 21),.pi .i64 (p.i 22),.pi .i64 (p.i 23)]++tV p 200++ [.g 1 46 20]),.grow 7 68 20]
def Oi(p:Sy):LSpec:=⟨[(1,.c (.p 0)),(10,.c (.pi .i64 (p.g 24).length)),(11,.c (.i .i64 9))],vM p,λz=>z.g 20=p.g 24/\jJ (p.g 24)/\Og (p.g 24)/\(0<=z.i 9/\z.i 9<=(p.g 24).length),λz=>((p.g 24).length-z.i 9).toNat,[⟨.exit 0,[(1,.c (.p 0))],vM p⟩],λz y=>y.g 20=p.g 24,none,[2]⟩
def ZW:FSpec:=⟨[.ag bk],[],λz=>jJ (z.g 24)/\Og (z.g 24),λ_=>.one (.ag bkC),λ_=>[],λz y=>y.i 31=z.i 21/\y.i 32=z.i 22/\y.i 33=z.i 23/\hT y 400=hT z 200/\y.g 34=z.g 24,none⟩
end
def Oj:bq 110 GP:=okP 1000 (t0:=20) (D:=λz=>.g (z.g 24)) mN eN lN (hn:=hC 5 5) λz hA=>show Fm.den (let v0:=(N8 (z.g 24));let v1:=(([]++z.g 24).length=0+(z.g 24).length/\True);(.two (v_ (kx bO z (Sa.c (Sh.v 7 24)))=0) (.al (λy0=>True) λy0=>(.two (y0.p 0) (.an (lM) (.at ([]=z.g 24))) (.an v0 (.an v1 (.at ([]++z.g 24=z.g 24)))))) (.an v0 (.an v1 (.at ([]++z.g 24=z.g 24)))))) by dsimp only [GP] at hA;have a1:v_ (kx bO z (Sa.c (Sh.v 7 24)))=(z.g 24).length:=rfl;have a2:(z.g 24).length=0-> []=z.g 24:=λh=>(List.length_eq_zero_iff.1 h).symm;exact dD
def Ol:bq 184 GO:=okP 1000 (t0:=20) (D:=λz=>.g (z.g 5)) mN eN lN (hn:=hC 5 5) λz hA=>show Fm.den (let v0:=(N8 (z.g 5));let v1:=(([]++z.g 5).length=0+(z.g 5).length/\True);(.two (v_ (kx bO z (Sa.c (Sh.v 1 5)))=0) (.al (λy0=>True) λy0=>(.two (y0.p 0) (.ax ([]=z.g 5)) (.an v0 (.an v1 (.at ([]++z.g 5=z.g 5)))))) (.an v0 (.an v1 (.at ([]++z.g 5=z.g 5)))))) by dsimp only [GO] at hA;have a1:v_ (kx bO z (Sa.c (Sh.v 1 5)))=(z.g 5).length:=rfl;have a2:(z.g 5).length=0-> []=z.g 5:=λh=>(List.length_eq_zero_iff.1 h).symm;exact dD
def Om(k:Nat)(ao7:bq 111 (Oh k)):bM 111 0 (GQ k):=bL 4 9 (ai ao7 eN) lN λp z hA=>show Fm.den (let v0:=(aM (p.g 6) (z.i 9));let v1:=(↑(p.g 6).length:Int);let v2:=(gL (aa v0 5));let v3:=(gL (aa v0 4));(.two (bR (z.i 9) (p.g 6)) (.an (cg (z.i 9) (p.g 6)) (.an (True/\(eG k (gI (aa v0 0)) (gI (aa v0 1)) (gI (aa v0 2)) (gS (aa v0 3)) v3 v2=(0:Int)∨k=16/\Jb v3 v2)) (.al (λy0=>eG k (gI (aa v0 0)) (gI (aa v0 1)) (gI (aa v0 2)) (gS (aa v0 3)) v3 v2=(0:Int)∨k=16/\Jb v3 v2->y0.i 11=gI (aa v0 0)/\y0.i 12=gI (aa v0 1)/\y0.i 13=gI (aa v0 2)/\y0.s 14=gS (aa v0 3)/\y0.g 15=gL (aa v0 4)/\y0.g 16=yp k v2) λy0=>(let v4:=(z.g 20++ [G.node [G.int (y0.i 11),G.int (y0.i 12),G.int (y0.i 13),G.str (y0.s 14),G.node (y0.g 15),G.node (y0.g 16)]]);(.an (lq (z.g 20)) (.an ((-9223372036854775808)<=z.i 9+1/\z.i 9+1<=9223372036854775807) (.an (v4.length=(z.g 20).length+1/\p.g 6=p.g 6/\p.s 4=p.s 4/\p.i 3=p.i 3/\p.i 2=p.i 2/\p.i 1=p.i 1/\v1=v1/\p.g 6=p.g 6/\True) (.at ((eE k (p.g 6) 0=0/\(p.g 6).length<=1000/\(dE (z.i 9) (p.g 6))/\(↑v4.length:Int)<=z.i 9+1)/\(v1-(z.i 9+1)).toNat<(v1-z.i 9).toNat/\∀(y:Sy),y.g 15=z.g 15/\y.g 20=z.g 20++ [G.node [G.int (y0.i 11),G.int (y0.i 12),G.int (y0.i 13),G.str (y0.s 14),G.node (y0.g 15),G.node (y0.g 16)]]++BM k (p.g 6) (z.i 9+1)->y.g 15=z.g 15/\y.g 20=z.g 20++BM k (p.g 6) (z.i 9)))))))))) (.an ((z.g 20).length=(z.g 20).length/\p.g 6=p.g 6/\p.s 4=p.s 4/\p.i 3=p.i 3/\p.i 2=p.i 2/\p.i 1=p.i 1/\True) (.at (z.g 15=z.g 15/\z.g 20=z.g 20++BM k (p.g 6) (z.i 9)))))) by dsimp only [GQ] at hA;have:=@Bf k (p.g 6) (z.i 9);have:=@GJ k (p.g 6) (z.i 9);have:=Za k p z;have:=gq k (aq (p.g 6) (z.i 9).toNat);have:=Oc k (aq (p.g 6) (z.i 9).toNat);exact dD
def GR:∀k,bq 111 (Oh k)
 |0=>LB λz h=>h.elim (λh=>absurd ((gt _ _ _ _ _ _).symm.trans h) (by decide)) λh=>absurd h.1 (by decide)
 |k+1=>bC 1 0 (ai Ol eN) (aG (ptm:=[(0,.ag va)]) (Om k (GR k)) lN) λz hA=>show Fm.den (let v0:=(↑(z.g 6).length:Int);(.ct ((z.g 5).length<=1000000) (λy0=>y0.g 20=z.g 5) λy0=>(.cl ((0=0/\z.g 6=z.g 6/\z.s 4=z.s 4/\z.i 3=z.i 3/\z.i 2=z.i 2/\z.i 1=z.i 1/\v0=v0/\z.g 6=z.g 6/\True)) (eE k (z.g 6) 0=0/\(z.g 6).length<=1000/\(fE v0)/\(↑0:Int)<=0) (λy1=>y1.g 15=y0.g 20/\y1.g 20= []++BM k (z.g 6) 0) λy1=>(.an (ig (y1.g 20)) (.at (z.i 1=z.i 1/\z.i 2=z.i 2/\z.i 3=z.i 3/\z.s 4=z.s 4/\y1.g 15=z.g 5/\y1.g 20=yp (k+1) (z.g 6))))))) by dsimp only [Oh,tp,va,uZ,va'] at hA;have:=@Od k (z.i 1) (z.i 2) (z.i 3) (z.s 4) (z.g 5) (z.g 6);have:=Bg k (z.g 6);exact dD
def Si:bM 47 0 Oi:=bL 4 9 (ai (GR 16) eN) lN λp z hA=>show Fm.den (let v0:=(aM (z.g 20) (z.i 9));let v1:=(↑(p.g 24).length:Int);let v2:=(gL (aa v0 10));let v3:=(cg (z.i 9) (z.g 20));let v4:=(gL (aa v0 9));let v5:=(pI (gI (aa v0 12)=(1:Int)));let v6:=(jP p 200);(.two (bR (z.i 9) (p.g 24)) (.an v3 (.an (eD (z.i 9) (z.g 20)) (.an (True/\(eG 16 (gI (aa v0 5)) (gI (aa v0 6)) (gI (aa v0 7)) (gS (aa v0 8)) v4 v2=(0:Int)∨16=16/\Jb v4 v2)) (.al (λy0=>eG 16 (gI (aa v0 5)) (gI (aa v0 6)) (gI (aa v0 7)) (gS (aa v0 8)) v4 v2=(0:Int)∨16=16/\Jb v4 v2->y0.i 11=gI (aa v0 5)/\y0.i 12=gI (aa v0 6)/\y0.i 13=gI (aa v0 7)/\y0.s 14=gS (aa v0 8)/\y0.g 15=gL (aa v0 9)/\y0.g 16=yp 16 v2) λy0=>(let v7:=(G.node [G.int (gI (aa v0 0)),G.str (gS (aa v0 1)),G.int (gI (aa v0 2)),G.int (gI (aa v0 3)),G.int (gI (aa v0 4)),G.int (y0.i 11),G.int (y0.i 12),G.int (y0.i 13),G.str (y0.s 14),G.node (y0.g 15),G.node (y0.g 16),hX (aa v0 11),G.int v5,G.int (gI (aa v0 13)),G.int (gI (aa v0 14))]);(.an v3 (.an (tS (z.i 9) (z.g 20)) (.an ((-9223372036854775808)<=z.i 9+1/\z.i 9+1<=9223372036854775807) (.an (((z.g 20).set (z.i 9).toNat v7).length=(z.g 20).length/\fS v6 v6 (p.i 23=p.i 23/\p.i 22=p.i 22/\p.i 21=p.i 21/\v1=v1/\True)) (.at (((z.g 20).set (z.i 9).toNat v7=p.g 24/\(od (p.g 24))/\Og (p.g 24)/\0<=z.i 9+1/\z.i 9+1<= ↑(p.g 24).length)/\(v1-(z.i 9+1)).toNat<(v1-z.i 9).toNat/\∀(y:Sy),y.g 20=p.g 24->y.g 20=p.g 24))))))))))) (.an ((z.g 20).length=(z.g 20).length/\fS v6 v6 (iU (p.i 23) (p.i 22) (p.i 21))) (.at (z.g 20=p.g 24))))) by dsimp only [Oi,vM,tV,jJ] at hA;have:=@Sg (p.g 24) (z.i 9);have:=@GK (p.g 24) (z.i 9);have:=Oe (aq (p.g 24) (z.i 9).toNat);exact dD
def ZX:bq 47 ZW:=bC 1 0 (ai Oj eN) (aG (ptm:=[(0,.ag bk)]) Si lN) λz hA=>show Fm.den (let v0:=(↑(z.g 24).length:Int);(.ct ((z.g 24).length<=1000000) (λy0=>y0.g 20=z.g 24) λy0=>(.cl (((y0.g 20).length=(y0.g 20).length/\fS (jP z 200) (jP z 200) (z.i 23=z.i 23/\z.i 22=z.i 22/\z.i 21=z.i 21/\(↑(y0.g 20).length:Int)=v0/\True))) (y0.g 20=z.g 24/\(od (z.g 24))/\Og (z.g 24)/\(0:Int)<=0/\0<=v0) (λy1=>y1.g 20=z.g 24) λy1=>(.an (ig (y1.g 20)) (.at (z.i 21=z.i 21/\z.i 22=z.i 22/\z.i 23=z.i 23/\hT z 200=hT z 200/\y1.g 20=z.g 24)))))) by dsimp only [ZW,bk,hs,jJ,bkC] at hA;have:=@GL (z.g 24);exact dD
noncomputable section
abbrev Yg(i:Int)(t:List Nat)(ns ks:List G):Prop:=(-9223372036854775808<=i/\i<9223372036854775808)/\t.length<=1125899906842624/\ns.length<=1125899906842624/\ks.length<=1125899906842624
def Sj:Nat->G->Prop
 |0,g=>Yg (gI (aa g 1)) (gS (aa g 3)) (gL (aa g 4)) (gL (aa g 5))
 |k+1,g=>Yg (gI (aa g 1)) (gS (aa g 3)) (gL (aa g 4)) (gL (aa g 5))/\∀x∈gL (aa g 5),Sj k x
def xS(k:Nat)(ks:List G):Prop:=∀x∈ks,Sj k x
def Yh(k:Nat)(i:Int)(t:List Nat)(ns ks:List G):Prop:=match k with
 |0=>Yg i t ns ks
 |k+1=>Yg i t ns ks/\xS k ks
def On(k:Nat)(g:G):Yh k (gI (aa g 1)) (gS (aa g 3)) (gL (aa g 4)) (gL (aa g 5))=Sj k g:=by cases k <;> rfl
def Sk{k:Nat}{i:Int}{t:List Nat}{ns ks:List G}(h:Yh (k+1) i t ns ks):Yg i t ns ks/\xS k ks:=h
def Oo{k:Nat}{ks:List G}{i:Int}(h:xS k ks)(h0:0<=i)(hi:i<ks.length):Sj k (aq ks i.toNat):=h _ (dn h0 hi)
def pm:Nat->G->Nat
 |0,_=>0
 |k+1,g=>1+(gS (aa g 3)).length/20+(gL (aa g 4)).length+((gL (aa g 5)).map (pm k)).sum
def ja(k:Nat)(ks:List G)(i:Int):Nat:=((ks.drop i.toNat).map (pm k)).sum
def n_{k:Nat}{ks:List G}{i:Int}(h0:0<=i)(h:i<ks.length):ja k ks i=pm k (aq ks i.toNat)+ja k ks (i+1):=by unfold ja;rw[eH h0 h];rfl
def qH{k:Nat}{ks:List G}{i:Int}(h:(ks.length:Int)<=i):ja k ks i=0:=by unfold ja;rw[aa2 (by omega)];rfl
def W_(k:Nat)(t:List Nat)(ns ks:List G):Nat:=match k with
 |0=>0
 |k+1=>1+t.length/20+ns.length+ja k ks 0
def Oq(k:Nat)(g:G):W_ k (gS (aa g 3)) (gL (aa g 4)) (gL (aa g 5))=pm k g:=by cases k <;> rfl
def Ot(k:Nat)(t:List Nat)(ns ks:List G):W_ (k+1) t ns ks=1+t.length/20+ns.length+ja k ks 0:=rfl
def Dp(k:Nat):FSpec:=⟨[.ag va,.c (.p 0)],[.cells 3 [.i .i64 20]],λz=>Yh k (z.i 2) (z.s 4) (z.g 5) (z.g 6)/\(0<=z.i 20/\z.i 20<=3000000000000000)/\1001<=z.i 20+k/\1<=k,λ_=>.one (.c (.b 10)),λ_=>[.cells 3 [.i .i64 21]],λz y=>(y.p 10↔1000<y.i 21)/\z.i 20<y.i 21/\y.i 21<=5000000000000000/\(y.i 21<=1000->y.i 21=z.i 20+W_ k (z.s 4) (z.g 5) (z.g 6)),none⟩
def Bk(k:Nat)(p:Sy):LSpec:=⟨[(1,.c (.p 1)),(2,.c (.p 0)),(5,.c (.i .i64 9))],[.cells 51 (vp p),.cells 3 [.i .i64 20]],λz=>xS k (p.g 6)/\(p.g 6).length<=1125899906842624/\(0<=z.i 9/\z.i 9<=(p.g 6).length)/\(0<=z.i 20/\z.i 20<=5000000000000000)/\1001<=z.i 20+k,λz=>((p.g 6).length-z.i 9).toNat,[⟨.exit 0,[(1,.c (.p 1))],[.cells 51 (vp p),.cells 3 [.i .i64 21]]⟩],λz y=>(z.i 20<=y.i 21/\y.i 21<=5000000000000000)/\(y.i 21<=1000->y.i 21=z.i 20+ja k (p.g 6) (z.i 9)),none,[]⟩
def Dq(l:List G):Prop:=∀r∈l,xS 1002 (gL (aa r 0))/\(gL (aa r 0)).length<=1125899906842624
def Dr{l:List G}{i:Int}(h:Dq l)(h0:0<=i)(hi:i<l.length):xS 1002 (gL (aa (aq l i.toNat) 0))/\(gL (aa (aq l i.toNat) 0)).length<=1125899906842624:=h _ (dn h0 hi)
def mG(l:List G)(i:Int):Nat:=((l.drop i.toNat).map λr=>2+ja 1002 (gL (aa r 0)) 0).sum
def gz{l:List G}{i:Int}(h0:0<=i)(h:i<l.length):mG l i=2+ja 1002 (gL (aa (aq l i.toNat) 0)) 0+mG l (i+1):=by unfold mG;rw[eH h0 h];rfl
def xT{l:List G}{i:Int}(h:(l.length:Int)<=i):mG l i=0:=by unfold mG;rw[aa2 (by omega)];rfl
def Bl(p:Sy):LSpec:=⟨[(0,.c (.pv 13 (p.g 1))),(3,.c (.p 0)),(4,.c (.pi .i64 (p.i 8))),(5,.c (.i .i64 9))],[.cells 3 [.i .i64 20]],λz=>Dq (p.g 1)/\(0<=p.i 8/\p.i 8<(p.g 1).length)/\(0<=z.i 9/\z.i 9<=(gL (aa (aq (p.g 1) (p.i 8).toNat) 0)).length)/\(0<=z.i 20/\z.i 20<=3000000000000000),λz=>((gL (aa (aq (p.g 1) (p.i 8).toNat) 0)).length-z.i 9).toNat,[⟨.exit 2,[(0,.c (.pv 13 (p.g 1))),(3,.c (.p 0)),(4,.c (.pi .i64 (p.i 8)))],[.cells 3 [.i .i64 21]]⟩,⟨.ret,[(2,.c (.b 10))],[.cells 3 [.i .i64 21]]⟩],λz y=>(y.i 999=0->y.i 21=z.i 20+ja 1002 (gL (aa (aq (p.g 1) (p.i 8).toNat) 0)) (z.i 9)/\(y.i 21=z.i 20∨y.i 21<=1000))/\(¬y.i 999=0->y.p 10),none,[]⟩
def Bm(p:Sy):LSpec:=⟨[(0,.c (.pv 13 (p.g 1))),(3,.c (.p 0)),(4,.c (.i .i64 9))],[.cells 3 [.i .i64 20]],λz=>Dq (p.g 1)/\(p.g 1).length<=1125899906842624/\(0<=z.i 9/\z.i 9<=(p.g 1).length)/\(0<=z.i 20/\z.i 20<=1000+2 * z.i 9),λz=>((p.g 1).length-z.i 9).toNat,[⟨.exit 0,[(0,.c (.pv 13 (p.g 1))),(3,.c (.p 0))],[.cells 3 [.i .i64 21]]⟩,⟨.ret,[(2,.c (.b 10))],[.cells 3 [.i .i64 21]]⟩],λz y=>(y.i 999=0->y.i 21=z.i 20+mG (p.g 1) (z.i 9))/\(¬y.i 999=0->y.p 10),none,[]⟩
def Ou:FSpec:=⟨[.c (.v 13 1)],[],λz=>Dq (z.g 1)/\(z.g 1).length<=1125899906842624,λ_=>.one (.c (.b 10)),λ_=>[],λz y=>¬y.p 10->(z.g 1).length<=30/\mG (z.g 1) 0<=1000,none⟩
def xU{f:G->Nat}:∀{l:List G} {x:G},x∈l->f x<=(l.map f).sum
 |y::l,x,h=>by
  rw[aaP,abw];rcases List.mem_cons.1 h with rfl|h
  ·omega
  ·have:=xU (f:=f) h;omega
def xV{f:G->Nat}:∀{l:List G},(∀x∈l,1<=f x)->l.length<=(l.map f).sum
 | [],_=>aaD _
 |y::l,h=>by rw[aaP,abw,aaI];have h1:=h y aaB;have:=xV (f:=f) (l:=l) λx hx=>h x (aay _ hx);omega
def oa(k:Nat)(g:G):1<=pm (k+1) g:=by show 1<=1+_+_+_;omega
def Ov{w f:G->Nat}{ks:List G}(h:∀x∈ks,w x+50<=93 * f x):∀(n:Nat) (i:Int),0<=i->i+n=ks.length->X9 w ks n i<=93 * ((ks.drop i.toNat).map f).sum
 |0,i,_,_=>aaD _
 |n+1,i,h0,hn=>by
  have c8:i<ks.length:=by omega
  have h1:=h _ (dn h0 c8);have h2:=Ov h n (i+1) (by omega) (by omega);rw[eH h0 c8,aaP,abw];show 50+w (aq ks i.toNat)+X9 w ks n (i+1)<=_;omega
def UH(g:G):jV 0 g=0:=by with_unfolding_all rfl
def ZY(k:Nat)(g:G):jV (k+1) g=24+(gS (aa g 3)).length+qw (jV k) (gL (aa g 5)) 0:=by with_unfolding_all rfl
def Ds:∀(k j:Nat) (g:G),k<=j->jV k g+50<=93 * pm (j+1) g+50/\(1<=k->jV k g+50<=93 * pm (j+1) g)
 |0,j,g,_=>⟨by rw[UH];omega,λh=>by omega⟩
 |k+1,j,g,hj=>by
  obtain⟨j,rfl⟩:∃j',j=j'+1:=⟨j-1,by omega⟩
  have key:qw (jV k) (gL (aa g 5)) 0<=93 * ((gL (aa g 5)).map (pm (j+1))).sum:=by
   unfold qw;refine Ov (λx hx=>?_) _ 0 (by omega) (by omega);have h1:=Ds k j x (by omega);by_cases hk:1<=k
   ·exact h1.2 hk
   ·have:k=0:=by omega
    subst this;have:=oa j x;rw[UH];omega
  have e1:jV (k+1) g=24+(gS (aa g 3)).length+qw (jV k) (gL (aa g 5)) 0:=ZY k g;have e2:pm (j+1+1) g=1+(gS (aa g 3)).length/20+(gL (aa g 4)).length+((gL (aa g 5)).map (pm (j+1))).sum:=rfl;have:jV (k+1) g+50<=93 * pm (j+1+1) g:=by omega
  exact⟨by omega,λ_=>this⟩
def ZZ(g:G):Mn 0 g:=by with_unfolding_all exact True.intro
def Xa{k:Nat}{g:G}(h:((-9223372036854775808<=gI (aa g 1)/\gI (aa g 1)<9223372036854775808)/\(gS (aa g 3)).length<=1000000/\(gL (aa g 4)).length<=1000000/\(gL (aa g 5)).length<=1000000)/\∀x∈gL (aa g 5),Mn k x):Mn (k+1) g:=by with_unfolding_all exact h
def Ow:∀(k j:Nat) (g:G),k<=j->Sj j g->pm (j+1) g<=1000->Mn k g
 |0,_,_,_,_,_=>ZZ _
 |k+1,j,g,hj,hn,hw=>by
  obtain⟨j,rfl⟩:∃j',j=j'+1:=⟨j-1,by omega⟩
  have e2:pm (j+1+1) g=1+(gS (aa g 3)).length/20+(gL (aa g 4)).length+((gL (aa g 5)).map (pm (j+1))).sum:=rfl;have hl:=xV (f:=pm (j+1)) (l:=gL (aa g 5)) λx _=>oa j x;obtain⟨⟨h1,h2,h3,h4⟩,h5⟩:=hn;refine Xa ⟨⟨h1,by omega,by omega,by omega⟩,λx hx=>?_⟩;have:=xU (f:=pm (j+1)) hx;exact Ow k j x (by omega) (h5 x hx) (by omega)
def Ox{l:List G}{i:Int}(hn:xS 1002 l)(hw:ja 1002 l 0<=1000)(h0:0<=i)(hi:i<l.length):
 tE 16 (gI (aa (aq l i.toNat) 1)) (gS (aa (aq l i.toNat) 3)) (gL (aa (aq l i.toNat) 4)) (gL (aa (aq l i.toNat) 5))/\ym 16 (gS (aa (aq l i.toNat) 3)) (gL (aa (aq l i.toNat) 5))<=100000:=by
 have hm:=dn h0 hi
 have h1:pm 1002 (aq l i.toNat)<=1000:=by
  have:=xU (f:=pm 1002) hm;have:ja 1002 l 0=(l.map (pm 1002)).sum:=by unfold ja;show((l.drop 0).map _).sum=_;rw[aa4]
  omega
 have h2:Sj 1002 (aq l i.toNat):=hn _ hm
 have down:∀(j:Nat) (g:G),Sj (j+1) g->Sj j g:=by
  intro j
  induction j with
  |zero=>intro g h;exact h.1
  |succ j ih=>intro g h;exact⟨h.1,λx hx=>ih x (h.2 x hx)⟩
 have h3:=Ow 16 1001 _ (by omega) (down _ _ h2) h1
 have h4:jV 16 (aq l i.toNat)+50<=93 * pm 1002 (aq l i.toNat):=(Ds 16 1001 (aq l i.toNat) (by omega)).2 (by omega)
 refine⟨by rw[mq];exact h3, ?_⟩
 rw[oV];omega
def vN{l:List G}(hw:ja 1002 l 0<=1000):l.length<=1000:=by
 have:=xV (f:=pm 1002) (l:=l) λx _=>oa 1001 x;have:ja 1002 l 0=(l.map (pm 1002)).sum:=by unfold ja;show((l.drop 0).map _).sum=_;rw[aa4]
 omega
attribute [irreducible] xS Dq ja W_ mG Yh
end
def Je(k:Nat)(al5:bq 10 (Dp k)):bM 10 0 (Bk k):=bL 6 37 (ai al5 eN) lN λp z hA=>show Fm.den (let v0:=(CO (p.g 6) (p.g 5) (p.s 4) (p.i 3) (p.i 2) (p.i 1));let v1:=(aM (p.g 6) (z.i 9));let v2:=((z.i 20<=z.i 20/\z.i 20<=5000000000000000)/\(z.i 20<=1000->z.i 20=z.i 20+ ↑(ja k (p.g 6) (z.i 9))));(.two (bR (z.i 9) (p.g 6)) (.two (z.i 20<=1000) (.an (cg (z.i 9) (p.g 6)) (.ct (Yh k (gI (aa v1 1)) (gS (aa v1 3)) (gL (aa v1 4)) (gL (aa v1 5))/\(0<=z.i 20/\z.i 20<=3000000000000000)/\1001<=z.i 20+(↑k:Int)/\1<=k) (λy0=>(y0.p 10↔1000<y0.i 21)/\z.i 20<y0.i 21/\y0.i 21<=5000000000000000/\(y0.i 21<=1000->y0.i 21=z.i 20+(↑(W_ k (gS (aa v1 3)) (gL (aa v1 4)) (gL (aa v1 5))):Int))) λy0=>(.an ((-9223372036854775808)<=z.i 9+1/\z.i 9+1<=9223372036854775807) (.an v0 (.at ((xS k (p.g 6)/\(p.g 6).length<=1125899906842624/\(dE (z.i 9) (p.g 6))/\(0<=y0.i 21/\y0.i 21<=5000000000000000)/\1001<=y0.i 21+(↑k:Int))/\((↑(p.g 6).length:Int)-(z.i 9+1)).toNat<((↑(p.g 6).length:Int)-z.i 9).toNat/\∀(y:Sy),(y0.i 21<=y.i 21/\y.i 21<=5000000000000000)/\(y.i 21<=1000->y.i 21=y0.i 21+ ↑(ja k (p.g 6) (z.i 9+1)))->(z.i 20<=y.i 21/\y.i 21<=5000000000000000)/\(y.i 21<=1000->y.i 21=z.i 20+ ↑(ja k (p.g 6) (z.i 9))))))))) (.an v0 (.at v2))) (.an v0 (.at v2)))) by dsimp only [Bk,vp] at hA;have:=@Oo k (p.g 6) (z.i 9);have:=@n_ k (p.g 6) (z.i 9);have:=@qH k (p.g 6) (z.i 9);have:=On k (aq (p.g 6) (z.i 9).toNat);have:=Oq k (aq (p.g 6) (z.i 9).toNat);exact iO
abbrev Sl(a:Prop)(b:Nat)(c:List G)(d e:Prop)(f g:Int)(h:Nat):=Fm.cl a (xS b c/\c.length<=1125899906842624/\d/\e/\1001<=IntKind.i64.wrap f+g) (λy=>(IntKind.i64.wrap f<=y.i 21/\y.i 21<=5000000000000000)/\(y.i 21<=1000->y.i 21=IntKind.i64.wrap f+ ↑h))
abbrev Sm(a:Int):=0<=IntKind.i64.wrap a/\IntKind.i64.wrap a<=5000000000000000
abbrev Bn(a:Prop)(b c:Int)(d:Prop):=a/\b<c/\c<=5000000000000000/\d
abbrev Bo(a:Int):=1000<a↔1000<a
abbrev UI(a:Prop)(b:Nat)(c:List G)(d e:Prop)(f g h:Int)(i:List G)(j:Nat):=Fm.cl a (xS b c/\c.length<=1125899906842624/\d/\e/\1001<=IntKind.i64.wrap f+g+h) (λy=>(IntKind.i64.wrap f+ ↑i.length<=y.i 21/\y.i 21<=5000000000000000)/\(y.i 21<=1000->y.i 21=IntKind.i64.wrap f+ ↑i.length+ ↑j))
abbrev pQ(a b:Int)(c:Nat):=a<=1000->a=b+ ↑c
def Bp:∀k,bq 10 (Dp k)
 |0=>LB λz h=>absurd h.2.2.2 (by decide)
 |k+1=>bC 17 273695066 eN (aG (ptm:=[(0,.ag va)]) (Je k (Bp k)) lN) λz hA=>show Fm.den (let zw:=(0:Int)<=0;let v0:=(↑(z.s 4).length:Int);let v1:=((CO (z.g 6) (z.g 5) (z.s 4) (z.i 3) (z.i 2) (z.i 1)));let v2:=(↑(z.g 5).length:Int);let v3:=(z.i 20+1+IntKind.i64.wrap (v0/20));let v4:=(zw/\0<=(↑(z.g 6).length:Int));let v5:=(W_ (k+1) (z.s 4) (z.g 5) (z.g 6));let v6:=(z.i 20+1+v0/20);let v7:=(z.i 20+1+IntKind.i64.wrap (v0/20)+v2);let v8:=(IntKind.i64.wrap v6+v2);let v9:=(IntKind.i64.wrap v3+v2);let v10:=(ja k (z.g 6) 0);let v11:=(z.i 20+1+v0/20+v2);let d5:=(↑k:Int);(.an ((-9223372036854775808)<=z.i 20+1/\z.i 20+1<=9223372036854775807) (.an ((20:Int)≠0) (.an (0<=v0/\(0:Int)<20) (.two ((-9223372036854775808)<=v0/20/\v0/20<=9223372036854775807) (.two ((-9223372036854775808)<=z.i 20+1+v0/20/\z.i 20+1+ ↑(z.s 4).length/20<=9223372036854775807) (.two ((-9223372036854775808)<=z.i 20+1+v0/20+v2/\z.i 20+1+ ↑(z.s 4).length/20+ ↑(z.g 5).length<=9223372036854775807) (.cl v1 (xS k (z.g 6)/\(z.g 6).length<=1125899906842624/\v4/\(0<=z.i 20+1+v0/20+v2/\z.i 20+1+ ↑(z.s 4).length/20+ ↑(z.g 5).length<=5000000000000000)/\1001<=z.i 20+1+v0/20+v2+d5) (λy0=>(z.i 20+1+ ↑(z.s 4).length/20+ ↑(z.g 5).length<=y0.i 21/\y0.i 21<=5000000000000000)/\(y0.i 21<=1000->y0.i 21=z.i 20+1+ ↑(z.s 4).length/20+ ↑(z.g 5).length+ ↑v10)) λy0=>(.ax (Bn (Bo (y0.i 21)) (z.i 20) (y0.i 21) (pQ (y0.i 21) (z.i 20) v5)))) (Sl v1 k (z.g 6) v4 (Sm v11) v11 d5 v10 λy1=>(.ax (Bn (Bo (y1.i 21)) (z.i 20) (y1.i 21) (pQ (y1.i 21) (z.i 20) v5))))) (.two ((-9223372036854775808)<=IntKind.i64.wrap v6+v2/\IntKind.i64.wrap v6+ ↑(z.g 5).length<=9223372036854775807) (UI v1 k (z.g 6) v4 (0<=IntKind.i64.wrap v6+v2/\IntKind.i64.wrap v6+ ↑(z.g 5).length<=5000000000000000) v6 v2 d5 (z.g 5) v10 λy2=>(.ax (Bn (Bo (y2.i 21)) (z.i 20) (y2.i 21) (pQ (y2.i 21) (z.i 20) v5)))) (Sl v1 k (z.g 6) v4 (Sm v8) v8 d5 v10 λy3=>(.ax (Bn (Bo (y3.i 21)) (z.i 20) (y3.i 21) (pQ (y3.i 21) (z.i 20) v5)))))) (.two ((-9223372036854775808)<=z.i 20+1+IntKind.i64.wrap (v0/20)/\z.i 20+1+IntKind.i64.wrap (v0/20)<=9223372036854775807) (.two ((-9223372036854775808)<=z.i 20+1+IntKind.i64.wrap (v0/20)+v2/\z.i 20+1+IntKind.i64.wrap (v0/20)+ ↑(z.g 5).length<=9223372036854775807) (.cl v1 (xS k (z.g 6)/\(z.g 6).length<=1125899906842624/\v4/\(0<=z.i 20+1+IntKind.i64.wrap (v0/20)+v2/\z.i 20+1+IntKind.i64.wrap (v0/20)+ ↑(z.g 5).length<=5000000000000000)/\1001<=z.i 20+1+IntKind.i64.wrap (v0/20)+v2+d5) (λy4=>(z.i 20+1+IntKind.i64.wrap (v0/20)+ ↑(z.g 5).length<=y4.i 21/\y4.i 21<=5000000000000000)/\(y4.i 21<=1000->y4.i 21=z.i 20+1+IntKind.i64.wrap (v0/20)+ ↑(z.g 5).length+ ↑v10)) λy4=>(.ax (Bn (Bo (y4.i 21)) (z.i 20) (y4.i 21) (pQ (y4.i 21) (z.i 20) v5)))) (Sl v1 k (z.g 6) v4 (Sm v7) v7 d5 v10 λy5=>(.ax (Bn (Bo (y5.i 21)) (z.i 20) (y5.i 21) (pQ (y5.i 21) (z.i 20) v5))))) (.two ((-9223372036854775808)<=IntKind.i64.wrap v3+v2/\IntKind.i64.wrap v3+ ↑(z.g 5).length<=9223372036854775807) (UI v1 k (z.g 6) v4 (0<=IntKind.i64.wrap v3+v2/\IntKind.i64.wrap v3+ ↑(z.g 5).length<=5000000000000000) v3 v2 d5 (z.g 5) v10 λy6=>(.ax (Bn (Bo (y6.i 21)) (z.i 20) (y6.i 21) (pQ (y6.i 21) (z.i 20) v5)))) (Sl v1 k (z.g 6) v4 (Sm v9) v9 d5 v10 λy7=>(.ax (Bn (Bo (y7.i 21)) (z.i 20) (y7.i 21) (pQ (y7.i 21) (z.i 20) v5))))))))))) by dsimp only [Dp,va] at hA;have:=@Sk k (z.i 2) (z.s 4) (z.g 5) (z.g 6);have:=Ot k (z.s 4) (z.g 5) (z.g 6);exact iO
abbrev Dt(a:Int)(b:List G):=a=a/\b=b/\True
abbrev UJ(a:Prop)(b c d e f g:Int):=a/\b.toNat<c.toNat/\∀(y:Sy),(y.i 999=0->y.i 21=d+e/\(y.i 21=d∨y.i 21<=1000))/\(¬y.i 999=0->y.p 10)->(y.i 999=0->y.i 21=f+g/\(y.i 21=f∨y.i 21<=1000))/\(¬y.i 999=0->y.p 10)
def Jf:bM 4 2 Bl:=bL 7 69 (ai (Bp 1002) eN) lN λp z hA=>show Fm.den (let v0:=(gL (aT (aM (p.g 1) (p.i 8))));let v1:=(↑v0.length:Int);let v2:=(cg (p.i 8) (p.g 1));let v3:=(aM v0 (z.i 9));let v4:=(↑(ja 1002 v0 (z.i 9)):Int);let v5:=(Dt (p.i 8) (p.g 1));let v6:=(z.i 9+1);(.an v2 (.two (z.i 9<v1) (.an v2 (.an (0<=z.i 9/\z.i 9<v1) (.ct (Yh 1002 (gI (aa v3 1)) (gS (aa v3 3)) (gL (aa v3 4)) (gL (aa v3 5))/\(0<=z.i 20/\z.i 20<=3000000000000000)/\1001<=z.i 20+1002/\1<=1002) (λy0=>(y0.p 10↔1000<y0.i 21)/\z.i 20<y0.i 21/\y0.i 21<=5000000000000000/\(y0.i 21<=1000->y0.i 21=z.i 20+(↑(W_ 1002 (gS (aa v3 3)) (gL (aa v3 4)) (gL (aa v3 5))):Int))) λy0=>(.two (y0.p 10) (.ax (((1:Int)=0->y0.i 21=z.i 20+v4/\(y0.i 21=z.i 20∨y0.i 21<=1000))/\(¬(1:Int)=0->true=true))) (.two ((-9223372036854775808)<=z.i 9+1/\z.i 9+1<=9223372036854775807) (.an v5 (.at (UJ (Dq (p.g 1)/\v2/\(0<=z.i 9+1/\z.i 9+1<=v1)/\0<=y0.i 21/\y0.i 21<=3000000000000000) (v1-v6) (v1-z.i 9) (y0.i 21) (↑(ja 1002 v0 v6):Int) (z.i 20) v4))) (.an v5 (.at (UJ (Dq (p.g 1)/\v2/\((0:Int)<=IntKind.i64.wrap v6/\IntKind.i64.wrap v6<=v1)/\0<=y0.i 21/\y0.i 21<=3000000000000000) (v1-IntKind.i64.wrap v6) (v1-z.i 9) (y0.i 21) (↑(ja 1002 v0 (eX v6)):Int) (z.i 20) v4)))))))) (.an v5 (.at (((0:Int)=0->z.i 20=z.i 20+v4/\(z.i 20=z.i 20∨z.i 20<=1000))/\(¬(0:Int)=0->(aP (PS.mk [(21,Tm.i (z.i 20)),(999,Tm.i (Int.ofNat (nat_lit 0)))] ((0,(bO 0).fst,0)::jN.loc) jN.ln (p.i 8=p.i 8/\p.g 1=p.g 1/\jN.pr) jN.fz).tm).p 10))))))) by dsimp only [Bl] at hA;have:=@Dr (p.g 1) (p.i 8);have:=@Oo 1002 (gL (aa (aq (p.g 1) (p.i 8).toNat) 0)) (z.i 9);have:=@n_ 1002 (gL (aa (aq (p.g 1) (p.i 8).toNat) 0)) (z.i 9);have:=@qH 1002 (gL (aa (aq (p.g 1) (p.i 8).toNat) 0)) (z.i 9);have:=On 1002 (aq (gL (aa (aq (p.g 1) (p.i 8).toNat) 0)) (z.i 9).toNat);have:=Oq 1002 (aq (gL (aa (aq (p.g 1) (p.i 8).toNat) 0)) (z.i 9).toNat);exact iO
def Jg:bM 4 0 Bm:=bL 7 153 eN (aG (ptm:=[(0,.c (.v 13 1)),(4,.c (.i .i64 8))]) Jf lN) λp z hA=>show Fm.den (let v0:=(gL (aT (aM (p.g 1) (z.i 9))));let v1:=(mG (p.g 1) (z.i 9));(.two (bR (z.i 9) (p.g 1)) (.an ((-9223372036854775808)<=z.i 20+2/\z.i 20+2<=9223372036854775807) (.cl ((Dt (z.i 9) (p.g 1))) (Dq (p.g 1)/\(cg (z.i 9) (p.g 1))/\((0:Int)<=0/\(0:Int)<=(↑v0.length:Int))/\0<=z.i 20+2/\z.i 20+2<=3000000000000000) (λy0=>(y0.i 999=0->y0.i 21=z.i 20+2+(↑(ja 1002 v0 0):Int)/\(y0.i 21=z.i 20+2∨y0.i 21<=1000))/\(¬y0.i 999=0->y0.p 10)) λy0=>(.two (y0.i 999=0) (.an ((-9223372036854775808)<=z.i 9+1/\z.i 9+1<=9223372036854775807) (.an (p.g 1=p.g 1/\True) (.at ((Dq (p.g 1)/\(p.g 1).length<=1125899906842624/\(dE (z.i 9) (p.g 1))/\0<=y0.i 21/\y0.i 21<=1000+2 * (z.i 9+1))/\((↑(p.g 1).length:Int)-(z.i 9+1)).toNat<((↑(p.g 1).length:Int)-z.i 9).toNat/\∀(y:Sy),(y.i 999=0->y.i 21=y0.i 21+ ↑(mG (p.g 1) (z.i 9+1)))/\(¬y.i 999=0->y.p 10)->(y.i 999=0->y.i 21=z.i 20+ ↑v1)/\(¬y.i 999=0->y.p 10))))) (.ax (((1:Int)=0->y0.i 21=z.i 20+ ↑v1)/\(¬(1:Int)=0->y0.p 10)))))) (.an (p.g 1=p.g 1/\True) (.at (((0:Int)=0->z.i 20=z.i 20+ ↑v1)/\(¬(0:Int)=0->(aP (PS.mk [(21,Tm.i (z.i 20)),(999,Tm.i (Int.ofNat (nat_lit 0)))] ((0,(bO 0).fst,0)::jN.loc) jN.ln (p.g 1=p.g 1/\jN.pr) jN.fz).tm).p 10)))))) by dsimp only [Bm] at hA;have:=@Dr (p.g 1) (z.i 9);have:=@gz (p.g 1) (z.i 9);have:=@xT (p.g 1) (z.i 9);exact iO
def Sn:bq 4 Ou:=bC 5 5 eN (aG (ptm:=[(0,.c (.v 13 1))]) Jg lN) λz hA=>show Fm.den ((.cl ((z.g 1=z.g 1/\True)) (Dq (z.g 1)/\(z.g 1).length<=1125899906842624/\(fE (↑(z.g 1).length:Int))/\(0:Int)<=0/\(0:Int)<=1000+2 * 0) (λy0=>(y0.i 999=0->y0.i 21=0+ ↑(mG (z.g 1) 0))/\(¬y0.i 999=0->y0.p 10)) λy0=>(.two (y0.i 999=0) (.two (1000<y0.i 21) (.ax (¬true=true->(z.g 1).length<=30/\mG (z.g 1) 0<=1000)) (.ax (¬30<(↑(z.g 1).length:Int)->(z.g 1).length<=30/\mG (z.g 1) 0<=1000))) (.ax (¬y0.p 10->(z.g 1).length<=30/\mG (z.g 1) 0<=1000))))) by dsimp only [Ou] at hA;exact iO
noncomputable section
def esG(i:Int)(e:G):Prop:=xf e/\UG e=e/\(gI (aa e 0)=1∨gI (aa e 0)=2)/\(gI (aa e 0)=2↔1<=i)/\¬gI (aa e 12)=1/\gI (aa e 13)=0/\gI (aa e 14)=0
def dU(es:List G):Prop:=∀i:Int,0<=i->i<es.length->esG i (aq es i.toNat)
def Z0{es:List G}{i:Int}(h:dU es)(h0:0<=i)(hi:i<es.length):(gI (aa (aq es i.toNat) 0)=1∨gI (aa (aq es i.toNat) 0)=2)/\(gI (aa (aq es i.toNat) 0)=2↔1<=i)/\¬gI (aa (aq es i.toNat) 12)=1/\gI (aa (aq es i.toNat) 13)=0/\gI (aa (aq es i.toNat) 14)=0:=(h i h0 hi).2.2
def GS{es:List G}{e:G}{i:Int}(h0:0<=i)(hi:i<es.length):aq (es++ [e]) i.toNat=aq es i.toNat:=by unfold aq;rw[aas,aas,aaO (by omega)]
def tq{es:List G}{e:G}{i:Int}(hi:i=es.length):aq (es++ [e]) i.toNat=e:=by subst hi;unfold aq;rw[aas,aaE,aaJ (aao _),abk];rfl
def tr{es:List G}(h:dU es):qA es:=by
 unfold qA
 intro e he
 obtain⟨i,hi,e2⟩:=abW he
 have:=(h (i:Int) (by omega) (by omega)).1
 have e3:aq es (i:Int).toNat=e:=by unfold aq;rw[aaE,aas,aaw hi, ←e2];rfl
 rwa [e3] at this
def GT{es:List G}(h:dU es):Og es:=by
 intro e he
 obtain⟨i,hi,e2⟩:=abW he
 have:=(h (i:Int) (by omega) (by omega)).2.1
 have e3:aq es (i:Int).toNat=e:=by unfold aq;rw[aaE,aas,aaw hi, ←e2];rfl
 rwa [e3] at this
abbrev Xb(es:List G):Int:=bz 0 0 0 hZ es
def qI{es:List G}(h:es.length<=200):∀(n:Nat) (i:Int),0<=i->i+n=es.length->(ga es i).length<=(fZ True es i).length+10 * n
 |0,i,h0,hn=>by rw[xR (by omega)];exact aaD _
 |n+1,i,h0,hn=>by
  have hi:i<es.length:=by omega
  rw[tj h0 hi,nM h0 hi,aav,aav];have a:=@N9 i.toNat (aq es i.toNat) (by omega);have b:=qI h n (i+1) (by omega) (by omega);omega
def Xc(e:G):(yn False e).length<=(yn True e).length:=by
 unfold yn;rw[aav,aav];by_cases h:gI (aa e 0)=2
 ·rw[if_pos h,if_pos h,if_pos (.inr id)];by_cases h1:gI (aa e 12)=1∨¬True
  ·rw[if_pos h1];exact aao _
  ·rw[if_neg h1,aaI];simp
 ·rw[if_neg h,if_neg h];exact aao _
def Oy(es:List G):(fZ False es 0).length<=(fZ True es 0).length:=by
 unfold fZ
 show((es.drop 0).flatMap _).length<=((es.drop 0).flatMap _).length
 rw[aa4]
 induction es with
 |nil=>exact aao _
 |cons e es ih=>rw[List.flatMap_cons,List.flatMap_cons,aav,aav];have:=Xc e;omega
def So{es:List G}(h:dU es)(hb:Xb es=0):jJ es/\(mE False 0 0 0 hZ es).length<=262144/\(ga es 0).length<=270000:=by
 obtain⟨h1,h2,h3⟩:=fg hb;have h4:es.length<=200:=by unfold xh at h1;exact h1.2.2.2.2
 have a:=qI h4 es.length 0 (by omega) (by omega);have b:=Oy es;unfold mE at h3⊢;simp only [aav] at h3⊢;exact⟨⟨h2,tr h,h4⟩,by omega,by omega⟩
def jL(es:List G):G:=.node [.int 0,.int 0,.int 0,hZ,.node es]
def JB(es:List G):G:=jK 0 0 0 hZ es
def Sp(n:Int):List G:=(List.range n.toNat).map λ(k:Nat)=>.node [.int 0,.int ((k:Int)+1)]
def Z1{n:Int}(h:n<=0):Sp n= []:=by unfold Sp;rw[show n.toNat=0 by omega];rfl
def Z2{n:Int}(h:0<=n):Sp (n+1)=Sp n++ [.node [.int 0,.int (n+1)]]:=by unfold Sp;rw[show(n+1).toNat=n.toNat+1 by omega,List.range_succ,List.map_append];congr 1;show [G.node [.int 0,.int ((n.toNat:Int)+1)]]=_;rw[abD h]
attribute [irreducible] dU Sp
end
noncomputable section
def JC:G:=.node [.int 1,.str [115],.int 0,.int 0,.int 0,.int 0,.int 0,.int 0,.str [],.node [],.node [],hZ,.int 0,.int 0,.int 0]
def Yi(v:G):G:=CM (gI (aa v 0)) (gI (aa v 1)) (gI (aa v 2)) (gS (aa v 3)) (gL (aa v 4)) (gL (aa v 5))
def lu(k:Int)(v:G):G:=.node [.int 2,.str [],.int 1,.int (1+k),.int 0,.int (gI (aa v 0)),.int (gI (aa v 1)),.int (gI (aa v 2)),.str (gS (aa v 3)),.node (gL (aa v 4)),.node (gL (aa v 5)),Yi v,.int 0,.int 0,.int 0]
def JD:List G->Int->List G
 | [],_=>[]
 |v::vs,k=>lu k v::JD vs (k+1)
def xW(l:List G)(i:Int):List G:=JD (l.drop i.toNat) i
def Oz{l:List G}{i:Int}(h0:0<=i)(h:i<l.length):xW l i=lu i (aq l i.toNat)::xW l (i+1):=by unfold xW;rw[eH h0 h];rfl
def Sq{l:List G}{i:Int}(h:(l.length:Int)<=i):xW l i= []:=by unfold xW;rw[aa2 (by omega)];rfl
def cK(l:List G):List G:=JC::xW l 0
def my(k:Int)(v:G):lu k v= .node [.int 2,.str [],.int 1,.int (1+k),.int 0,.int (gI (aa v 0)),.int (gI (aa v 1)),.int (gI (aa v 2)),.str (gS (aa v 3)),.node (gL (aa v 4)),.node (gL (aa v 5)),Yi v,.int 0,.int 0,.int 0]:=rfl
def Yj(l:List G):Prop:=∀g∈l,Yf 16 g=g
def jT(l:List G):Prop:=Yj l/\xS 1002 l/\ja 1002 l 0<=1000/\l.length<=1000
def GU:∀(l:List G) (i:Int),(JD l i).length=l.length
 | [],_=>rfl
 |_::l,i=>by rw[JD,aaI,GU,aaI]
def xX(l:List G):(cK l).length=l.length+1:=by unfold cK xW;rw[aaI,GU];rfl
def OA{l:List G}{i:Int}(h:jT l)(h0:0<=i)(hi:i<l.length):tE 16 (gI (aa (aq l i.toNat) 1)) (gS (aa (aq l i.toNat) 3)) (gL (aa (aq l i.toNat) 4)) (gL (aa (aq l i.toNat) 5))/\ym 16 (gS (aa (aq l i.toNat) 3)) (gL (aa (aq l i.toNat) 5))<=100000:=Ox h.2.1 h.2.2.1 h0 hi
def Du:∀(l:List G) (k:Int) (n:Nat),n<l.length->aq (JD l k) n=lu (k+n) (aq l n)
 | [],k,n,h=>by simp at h
 |v::vs,k,0,h=>by show lu k v=lu (k+(0:Nat)) v;congr 1;omega
 |v::vs,k,n+1,h=>by have:=Du vs (k+1) n (by simpa using h);show aq (JD vs (k+1)) n=lu _ (aq vs n);rw[this];congr 1;omega
def Ss:tE 16 0 [] [] []:=by with_unfolding_all exact⟨⟨⟨by decide,by decide⟩,by decide,by decide,by decide⟩,λ_ h=>absurd h aa5⟩
def Su:ym 16 [] []<=10000000:=by
 have:ym 16 [] []=24:=by with_unfolding_all rfl
 omega
def GV(kd i sc:Int)(t:List Nat)(ns ks:List G):HOk (CM kd i sc t ns ks):=by
 unfold CM;split
 ·exact iR _
 ·exact fG
def Z3:pI ((0:Int)=1)=0:=if_neg (by decide)
def OB{tx:List Nat}{tb dc vr vi:Int}{vt:List Nat}{vn vx:List G}{h:G}{ab ae:Int}(h0:tx.length<=1000000/\(-9223372036854775808<=tb/\tb<9223372036854775808)/\(-9223372036854775808<=dc/\dc<9223372036854775808)/\(-9223372036854775808<=vr/\vr<9223372036854775808)/\
 (-9223372036854775808<=ab/\ab<9223372036854775808)/\(-9223372036854775808<=ae/\ae<9223372036854775808)/\tE 16 vi vt vn vx/\ym 16 vt vx<=10000000/\HOk h):vo tx tb dc vr vi vt vn vx h ab ae:=by unfold vo;exact h0
def Z4:esG 0 JC:=by
 refine⟨?_, ?_,.inl rfl,⟨λh=>?_,λh=>?_⟩,by decide,rfl,rfl⟩
 ·refine OB ⟨by decide,⟨by decide,by decide⟩,⟨by decide,by decide⟩,⟨by decide,by decide⟩,⟨by decide,by decide⟩,⟨by decide,by decide⟩,Ss,Su, ?_⟩;show HOk (hX hZ);rw[db fG];exact fG
 ·show G.node [.int 1,.str [115],.int 0,.int 0,.int 0,.int 0,.int 0,.int 0,.str [],.node [],.node (yp 16 []),hX hZ,.int (pI ((0:Int)=1)),.int 0,.int 0]=_;rw[db fG,Z3];rfl
 ·exact absurd (show(1:Int)=2 from h) (by decide)
 ·omega
def Z5{l:List G}{k:Int}(h:jT l)(h0:0<=k)(hk:k<l.length):esG (k+1) (lu k (aq l k.toNat)):=by
 obtain⟨a1,a2⟩:=OA h h0 hk;have hl:=h.2.2.2;have hn:=h.1 _ (dn h0 hk);have e5:yp 16 (gL (aa (aq l k.toNat) 5))=gL (aa (aq l k.toNat) 5):=by
  have:gL (aa (Yf 16 (aq l k.toNat)) 5)=gL (aa (aq l k.toNat) 5):=by rw[hn]
  exact this
 have hh:HOk (Yi (aq l k.toNat)):=GV _ _ _ _ _ _;refine⟨?_, ?_,.inr rfl,⟨λ_=>by omega,λ_=>rfl⟩,show ¬(0:Int)=1 by decide,rfl,rfl⟩
 ·have z1: -9223372036854775808<=(0:Int)/\(0:Int)<9223372036854775808:=⟨by decide,by decide⟩
  have z2: -9223372036854775808<=(1:Int)/\(1:Int)<9223372036854775808:=⟨by decide,by decide⟩
  refine OB ⟨aaD _,z2, ?_,z1,z1,z1,a1,aaV a2 (by decide), ?_⟩
  ·show -9223372036854775808<=1+k/\1+k<9223372036854775808;omega
  ·show HOk (hX (Yi _));rw[db hh];exact hh
 ·show G.node [.int 2,.str [],.int 1,.int (1+k),.int 0,.int (gI (aa (aq l k.toNat) 0)),.int (gI (aa (aq l k.toNat) 1)),.int (gI (aa (aq l k.toNat) 2)),.str (gS (aa (aq l k.toNat) 3)),.node (gL (aa (aq l k.toNat) 4)),.node (yp 16 (gL (aa (aq l k.toNat) 5))),hX (Yi (aq l k.toNat)),.int (pI ((0:Int)=1)),.int 0,.int 0]=_;rw[db hh,Z3,e5];rfl
def tv{l:List G}(h:jT l):dU (cK l):=by
 unfold dU;intro i h0 hi;rw[xX] at hi;by_cases e:i=0
 ·subst e;exact Z4
 ·have h1:=Du l 0 (i-1).toNat (by omega);have h2:aq (cK l) i.toNat=aq (JD l 0) (i-1).toNat:=by rw[show i.toNat=(i-1).toNat+1 by omega];rfl
  have h3:=Z5 (k:=i-1) h (by omega) (by omega);rw[h2,h1];rw[show(0:Int)+((i-1).toNat:Nat)=i-1 by omega];rw[show i-1+1=i by omega] at h3;exact h3
def OC{l:List G}(h:jT l):l.length<=1000:=h.2.2.2
def GW(p:Sy):LSpec:=⟨[(68,.c (.pv 7 (p.g 24))),(69,.c (.pi .i64 (p.g 24).length)),(70,.c (.i .i64 9))],[],λz=>dU (p.g 24)/\(0<=z.i 9/\z.i 9<=(p.g 24).length)/\(p.g 24).length<=1000000,λz=>((p.g 24).length-z.i 9).toNat,[⟨.exit 1,[],[]⟩],λz y=>True,none,[]⟩
def GX(p:Sy):LSpec:=⟨[(30,.c (.pv 7 (p.g 24))),(31,.c (.pi .i64 (p.g 24).length)),(32,.c (.i .i64 9))],[],λz=>dU (p.g 24)/\(0<=z.i 9/\z.i 9<=(p.g 24).length)/\(p.g 24).length<=1000000,λz=>((p.g 24).length-z.i 9).toNat,[⟨.exit 0,[],[]⟩],λz y=>True,none,[0,3,6]⟩
def Bq(es L H A:List G):Prop:=(Xb es=0->L= [jL es]/\H= [.node [JB es]]/\A=Sp (es.length-1))/\(¬Xb es=0->L= []/\H= []/\A= [])
def OD{l:List G}:cK l= [.node [.int 1,.str [115],.int 0,.int 0,.int 0,.int 0,.int 0,.int 0,.str [],.node [],.node [],hZ,.int 0,.int 0,.int 0]]++xW l 0:=rfl
attribute [irreducible] jT cK xW lu Bq
end
abbrev xY(a:List G)(b:Prop):=dU a/\b/\a.length<=1000000
abbrev Dv(a:Prop)(b c:Int):=a/\b.toNat<c.toNat/\∀(y:Sy),True->True
def Jh(p:Sy)(z:Sy):=@Z0 (p.g 24) (z.i 9)
def OE:bM 46 1 GW:=bL 12 150037 eN lN λp z hA=>show Fm.den (let v0:=(↑(p.g 24).length:Int);let v1:=(xY (p.g 24) (dE (z.i 9) (p.g 24)));let v2:=(aM (p.g 24) (z.i 9));let v3:=((-9223372036854775808)<=z.i 9+1/\z.i 9+1<=9223372036854775807);let v4:=(Dt v0 (p.g 24));(.two (bR (z.i 9) (p.g 24)) (.an (cg (z.i 9) (p.g 24)) (.two (gI (aa v2 0)=2) (.two (gI (aa v2 12)=1) .ff (.an (gI (aa v2 0)≠4) (.an v3 (.an v4 (.at (Dv v1 (v0-(z.i 9+1)) (v0-z.i 9))))))) (.two (gI (aa v2 0)≠4) (.an v3 (.an v4 (.at (Dv v1 (v0-(z.i 9+1)) (v0-z.i 9))))) .ff))) (.ax (True)))) by dsimp only [GW] at hA;have:=Jh p z;exact dD
def OF:bM 18 0 GX:=bL 6 133 eN lN λp z hA=>show Fm.den (let v0:=(↑(p.g 24).length:Int);(.two (bR (z.i 9) (p.g 24)) (.an (cg (z.i 9) (p.g 24)) (.two (gI (aT (aM (p.g 24) (z.i 9)))=4) .ff (.an ((-9223372036854775808)<=z.i 9+1/\z.i 9+1<=9223372036854775807) (.an (Dt v0 (p.g 24)) (.at (Dv (xY (p.g 24) (dE (z.i 9) (p.g 24))) (v0-(z.i 9+1)) (v0-z.i 9))))))) (.ax (True)))) by dsimp only [GX] at hA;have:=Jh p z;exact dD
noncomputable section
end
noncomputable section
def B8(l:List Nat):Prop:=∀x∈l,x<256
def B8.cons{x:Nat}{l:List Nat}(h:x<256)(hl:B8 l):B8 (x::l):=λy hy=>by
 rcases List.mem_cons.1 hy with rfl|hy
 ·exact h
 ·exact hl y hy
def B8.app{a b:List Nat}(h:B8 a)(hb:B8 b):B8 (a++b):=λy hy=>by
 rcases List.mem_append.1 hy with hy|hy
 ·exact h y hy
 ·exact hb y hy
def dj{l:List G}{h:G}(hl:RowsOk l)(hh:HOk h):RowsOk (l++ [.node [h]]):=λr hr=>by
 rcases List.mem_append.1 hr with hr|hr
 ·exact hl r hr
 ·rw[List.mem_singleton.1 hr];show HOk (hX h);rw[db hh];exact hh
def cz:RowsOk []:=λ_ h=>absurd h aa5
attribute [irreducible] B8
end
noncomputable section
abbrev OG(b:G):List G:=gL (aa b 4)
abbrev bOk(b:G):Prop:=jJ (OG b)/\Og (OG b)/\HOk (hX (aa b 3))/\gI (aa b 0)<9223372036854775808/\gI (aa b 1)<9223372036854775808/\gI (aa b 2)<9223372036854775808
def kO(l:List G):Prop:=∀b∈l,bOk b
def Xd{l:List G}{i:Int}(h:kO l)(h0:0<=i)(hi:i<l.length):bOk (aq l i.toNat):=h _ (dn h0 hi)
def Xe{es:List G}{i:Int}(h:jJ es)(h0:0<=i)(hi:i<es.length):xf (aq es i.toNat)/\mD (aq es i.toNat)=0:=⟨sN h.2.1 h0 hi,kZ h.1 h0 hi⟩
def UK:List BSh:=[.cells 33 [.o,.v 11 31,.v 6 32,.b 33]]
def UL(z:Sy):List BSh:=[.cells 33 [.o,.pv 11 (z.g 31),.pv 6 (z.g 32),.b 33]]
abbrev Br(z:Sy):Prop:=kO (z.g 31)/\RowsOk (z.g 32)/\(z.g 31).length=(z.g 32).length/\(z.g 31).length<=1000
abbrev Z6(y:Sy)(e:G):Prop:=y.i 1=gI (aa e 0)/\y.s 2=gS (aa e 1)/\y.i 3=gI (aa e 2)/\y.i 4=gI (aa e 3)/\y.i 5=gI (aa e 4)/\y.i 6=gI (aa e 5)/\y.i 7=gI (aa e 6)/\y.i 8=gI (aa e 7)/\y.s 9=gS (aa e 8)/\y.g 10=gL (aa e 9)/\y.g 11=gL (aa e 10)/\hT y 100=hX (aa e 11)/\(y.p 12↔gI (aa e 12)=1)/\y.i 13=gI (aa e 13)/\y.i 14=gI (aa e 14)
abbrev xrG(z:Sy):Prop:=(0<=z.i 61/\z.i 61<z.i 66)/\(0<=z.i 62/\z.i 62<(OG (aq (z.g 31) (z.i 61).toNat)).length)
def UM:FSpec:=⟨[.c (.p 0),.ag [.i .i64 61,.i .i64 62],.c (.i .i64 66)],UK,Br,λ_=>.tu [.ag rv,.c (.i .i64 50)],UL,λz y=>(1<=z.i 66->z.i 66<=(z.g 32).length->xrG z->y.i 50=0/\y.i 61=z.i 61/\y.i 62=z.i 62/\Z6 y (aq (OG (aq (z.g 31) (z.i 61).toNat)) (z.i 62).toNat)/\hT y 400=dK (k_ (gI (aa (aq (z.g 31) (z.i 61).toNat) 0)) (gI (aa (aq (z.g 31) (z.i 61).toNat) 1)) (gI (aa (aq (z.g 31) (z.i 61).toNat) 2)) (hX (aa (aq (z.g 31) (z.i 61).toNat) 3)))/\y.g 63=bm (z.i 62) (iv (OG (aq (z.g 31) (z.i 61).toNat)) 0)/\y.i 64=(OG (aq (z.g 31) (z.i 61).toNat)).length/\y.g 65=bm (z.i 61) (List.take (z.i 66).toNat (z.g 32)))/\(¬((1<=z.i 66/\z.i 66<=(z.g 32).length)/\xrG z)->¬y.i 50=0),none⟩
def UN:FSpec:=⟨[.c (.p 0)],UK,Br,λ_=>.one (.ag (dg 66 500)),UL,λz y=>y.i 66=(z.g 31).length/\hT y 500=aF (z.g 32),none⟩
def Ji:∀(n:Nat) (i:Int) (l:List G),l.length<=n->(bm i l).length<=l.length:=by
 intro n
 induction n with
 |zero=>intro i l h;rw[f_ (by omega)];exact aaD _
 |succ n ih=>
  intro i l h;by_cases h2:2<=l.length
  ·have a1:=dv h2;have a2:=dH l.length;by_cases hi:i<(aL l.length:Nat)
   ·rw[nQ h2 hi,aav];have:=ih i (l.take (aL l.length)) (by rw[aax];omega);rw[aax] at this;simp only [aaQ];omega
   ·rw[nR h2 hi,aav];have:=ih (i-(aL l.length:Nat)) (l.drop (aL l.length)) (by rw[aaA];omega);rw[aaA] at this;simp only [aaQ];omega
  ·rw[f_ h2];exact aaD _
def Bs(i:Int)(l:List G):(bm i l).length<=l.length:=Ji _ i l (aao _)
def Jj:∀(n:Nat) (i:Int) (l:List G),l.length<=n->RowsOk l->RowsOk (bm i l):=by
 intro n
 induction n with
 |zero=>intro i l h _;rw[f_ (by omega)];exact cz
 |succ n ih=>
  intro i l h hr;by_cases h2:2<=l.length
  ·have a1:=dv h2;have a2:=dH l.length;by_cases hi:i<(aL l.length:Nat)
   ·rw[nQ h2 hi];exact dj (ih i _ (by rw[aax];omega) (hr.take _)) (bx _ (hr.drop _))
   ·rw[nR h2 hi];exact dj (ih _ _ (by rw[aaA];omega) (hr.drop _)) (bx _ (hr.take _))
  ·rw[f_ h2];exact cz
def Bu{i:Int}{l:List G}(h:RowsOk l):RowsOk (bm i l):=Jj _ i l (aao _) h
def Bv{l:List G}{n:Nat}{i:Int}(h0:0<=i)(hi:i<n):aq (l.take n) i.toNat=aq l i.toNat:=by unfold aq;rw[aas,aas,aaF (by omega)]
def OH{l:List G}{n:Nat}{i:Int}(hi:(n:Int)<=i):aq (l.drop n) (i-n).toNat=aq l i.toNat:=by unfold aq;rw[aas,aas,aaH,show n+(i-n).toNat=i.toNat by omega]
def Dw:∀(n:Nat) (i:Int) (l:List G),l.length<=n->RowsOk l->0<=i->i<l.length->ms (hX (aa (aq l i.toNat) 0)) i l.length (bm i l)=(aF l,True):=by
 intro n
 induction n with
 |zero=>intro i l h _ h0 hi;omega
 |succ n ih=>
  intro i l h hr h0 hi;by_cases h2:2<=l.length
  ·have a1:=dv h2;have a2:=dH l.length;have en:((l.length:Int)).toNat=l.length:=aaE _;by_cases hk:i<(aL l.length:Nat)
   ·have e:=ih i (l.take (aL l.length)) (by rw[aax];omega) (hr.take _) h0 (by rw[aax];omega);rw[Bv h0 (by omega),show((l.take (aL l.length)).length:Int)=(aL l.length:Nat) by rw[aax];omega] at e;rw[nQ h2 hk,C2 (by omega) (by simp) (by rw[en];exact hk),abX,en,e,dp h2];congr 2;rw[aav,aaQ,abV];unfold aq;rw[aas,aaJ (aao _),abk];exact db (bx _ (hr.drop _))
   ·have e:=ih (i-(aL l.length:Nat)) (l.drop (aL l.length)) (by rw[aaA];omega) (hr.drop _) (by omega) (by rw[aaA];omega);rw[OH (by omega),show((l.drop (aL l.length)).length:Int)=(l.length:Int)-(aL l.length:Nat) by rw[aaA];omega] at e;rw[nR h2 hk,C3 (by omega) (by simp) (by rw[en];exact hk),abX,en,e,dp h2];congr 2;rw[aav,aaQ,abV];unfold aq;rw[aas,aaJ (aao _),abk];exact db (bx _ (hr.take _))
  ·have e1:l.length=1:=by omega
   rw[f_ h2,nS (by omega),ld e1,show i.toNat=0 by omega];simp
def vO{i:Int}{l:List G}{h:G}{n:Int}(hr:RowsOk l)(h0:0<=i)(hi:i<l.length)(hn:n=l.length)(hh:h=hX (aa (aq l i.toNat) 0)):ms h i n (bm i l)=(aF l,True):=by subst hn;subst hh;exact Dw _ i l (aao _) hr h0 hi
def OI{es H:List G}{ae ab n:Int}{ix tm tn:Int}{pv:G}(hE:1<=es.length/\es.length<=200)(h0:0<=ae)(hi:ae<es.length)(hH:RowsOk H)(hn:n<=H.length)(hn1:n<=1000000)(b0:0<=ab)(bi:ab<n)(hb:hX (aa (aq H ab.toNat) 0)=jK ix tm tn pv es):ph 0 (bN (tU (aq es ae.toNat))) (dK (k_ ix tm tn pv)) ab ae es.length n (bm ae (iv es 0)) (bm ab (H.take n.toNat)) (aF (H.take n.toNat)):=by
 have e1:ms (bN (tU (aq es ae.toNat))) ae es.length (bm ae (iv es 0))=(aF (iv es 0),True):=by
  refine vO (kL es) h0 (by rw[lc];exact hi) (by rw[lc]) ?_;have:=Ng (es:=es) (i:=ae.toNat) (by omega);have e:aq (iv es 0) ae.toNat= .node [bN (tU (aq es ae.toNat))]:=by unfold aq at this⊢;rw[aas,this];rfl
  rw[e];exact(db (iR _)).symm
 have e2:JA (bN (tU (aq es ae.toNat))) (dK (k_ ix tm tn pv)) ae es.length (bm ae (iv es 0))=jK ix tm tn pv es:=by rw[NP,NO,NS,e1,C_,aaE]
 have e3:ms (jK ix tm tn pv es) ab n (bm ab (H.take n.toNat))=(aF (H.take n.toNat),True):=by refine vO (hH.take _) b0 (by rw[aax];omega) (by rw[aax];omega) ?_;rw[Bv b0 (by omega),hb]
 rw[RS,e2,Gd,e3,e1]
 exact⟨⟨rfl,by omega,⟨h0,hi⟩,trivial⟩,⟨b0,bi⟩,by omega,trivial,rfl⟩
def OJ{es L H A:List G}(h:Bq es L H A):(Xb es=0/\L= [jL es]/\H= [.node [JB es]]/\A=Sp (es.length-1))∨(¬Xb es=0/\L= []/\H= []/\A= []):=by
 unfold Bq at h;by_cases hb:Xb es=0
 ·exact .inl ⟨hb,h.1 hb⟩
 ·exact .inr ⟨hb,h.2 hb⟩
def Sv:kO []:=by unfold kO;exact λ_ h=>absurd h aa5
def OK{l L H A:List G}(hv:jT l)(h:Bq (cK l) L H A):kO L/\RowsOk H/\L.length=H.length/\L.length<=1/\(1<=L.length->L= [jL (cK l)]/\H= [.node [JB (cK l)]]/\jJ (cK l)):=by
 have he:=tv hv;rcases OJ h with⟨hb,rfl,rfl,_⟩|⟨_,rfl,rfl,_⟩
 ·obtain⟨g1,_,_⟩:=So he hb;have hok:HOk hZ:=fG;have hk:kO [jL (cK l)]:=by unfold kO;intro b p7;rw[List.mem_singleton.1 p7];refine⟨g1,GT he, ?_,by show(0:Int)<_;decide,by show(0:Int)<_;decide,by show(0:Int)<_;decide⟩;show HOk (hX hZ);rw[db hok];exact hok
  exact⟨hk,dj cz (pd _ _ _ _ _),rfl,aao _,λ_=>⟨rfl,rfl,g1⟩⟩
 ·exact⟨Sv,cz,rfl,aaD _,λh=>by simp at h⟩
def Z7(es:List G):gL (aa (jL es) 4)=es/\gI (aa (jL es) 0)=0/\gI (aa (jL es) 1)=0/\gI (aa (jL es) 2)=0/\hX (aa (jL es) 3)=hZ:=by refine⟨rfl,rfl,rfl,rfl, ?_⟩;show hX hZ=hZ;exact db fG
def Z8(es:List G):hX (aa (aq [G.node [JB es]] 0) 0)=jK 0 0 0 hZ es:=db (pd _ _ _ _ _)
def Z9{l:List G}(h:Yj l)(hn:xS 1002 l)(hw:mG [.node [.node l]] 0<=1000):jT l:=by have e:mG [.node [.node l]] 0=2+ja 1002 l 0+mG [.node [.node l]] (0+1):=gz (by omega) (by simp);have hl:=vN (l:=l) (by omega);unfold jT;exact⟨h,hn,by omega,hl⟩
def kv:List G:=[.node [.int 3,.int 5,.int 0,.str [],.node [],.node []]]
def Z_:kv= [.node [.int 3,.int 5,.int 0,.str [],.node [],.node []]]:=rfl
def OL:jT kv:=by
 have h1:Yj kv:=λg hg=>by rw[List.mem_singleton.1 hg];rfl
 have hb:Yg 5 [] [] []:=⟨⟨by decide,by decide⟩,by decide,by decide,by decide⟩
 have h2:xS 1002 kv:=by unfold xS;intro g hg;rw[List.mem_singleton.1 hg];exact⟨hb,λx hx=>absurd hx aa5⟩
 refine Z9 h1 h2 ?_;rw[gz (by omega) (by simp),xT (by simp)];show 2+ja 1002 kv 0+0<=1000;rw[n_ (by omega) (by unfold kv;simp),qH (by unfold kv;simp)];show 2+(1+0/20+0+0+0)+0<=1000;decide
def mz:cK kv= [JC,lu 0 (.node [.int 3,.int 5,.int 0,.str [],.node [],.node []])]:=by unfold cK xW kv;rfl
def UO:mD JC=0:=by have hz:hX hZ=hZ:=db fG;refine iT ?_ (by rintro⟨h,_⟩;exact absurd (show(1:Int)=2 from h) (by decide));exact(AE (show(1:Int)=1 from rfl)).2 ⟨by decide,rfl,rfl,rfl,(bH _ _ _ _ _ _).2 ⟨rfl,rfl,rfl,rfl,rfl,rfl⟩,hz,by show ¬(0:Int)=1;decide,rfl,rfl⟩
def aaa:eG 16 3 5 0 [] [] []=0:=by rw[sz (CI ((Am rfl).2 ⟨rfl,rfl,rfl,rfl⟩) (by simp) (by simp))];exact qt (by simp)
def aab:gU 3 5 0 [] [] []=0:=CL aaa (by rw[qu 15 rfl];have:=bP (n:=pL 5) (w_ ⟨by decide,by decide⟩).2;simp only [aav,aaQ];omega)
def aac:mD (lu 0 (.node [.int 3,.int 5,.int 0,.str [],.node [],.node []]))=0:=by rw[my];refine oY ((AF (show(2:Int)=2 from rfl)).2 ⟨by decide,by decide,by decide,rfl,rfl,rfl,λh=>absurd (show(0:Int)=1 from h) (by decide)⟩) ⟨rfl,by show ¬(0:Int)=1;decide⟩ aab ?_;exact(db (GV _ _ _ _ _ _)).symm
def OM:Xb (cK kv)=0:=by
 have hE:=tv OL;have hl:(cK kv).length=2:=by rw[mz];rfl
 have h1:fJ (cK kv) 0=0:=by rw[nK (by omega) (by omega) (by rw[mz];exact UO),nK (by omega) (by omega) (by rw[mz];exact aac),xg (by omega)]
 refine mr (by unfold xh;exact⟨by decide,by decide,by decide,by omega,by omega⟩) h1 ?_;have h2:=xj (d:=True) h1 (tr hE) 2 0 (by omega) (by omega);have h3:=gV (ix:=0) (tm:=0) (tn:=0) fG (by decide) (by decide) (by decide);have h4:=fu (n:=(cK kv).length) (by omega);unfold mE;simp only [aav];omega
def UP:Sp ((cK kv).length-1)= [.node [.int 0,.int 1]]:=by
 have hl:(cK kv).length=2:=by rw[mz];rfl
 rw[show(((cK kv).length:Nat):Int)-1=0+1 by omega,Z2 (by omega),Z1 (by omega)];rfl
def ON{L H A:List G}(h:Bq (cK kv) L H A):L= [jL (cK kv)]/\H= [.node [JB (cK kv)]]/\A= [.node [.int 0,.int 1]]/\(cK kv).length=2:=by
 have hl:(cK kv).length=2:=by rw[mz];rfl
 rcases OJ h with⟨_,h1,h2,h3⟩|⟨hb,_⟩
 ·exact⟨h1,h2,by rw[h3,UP],hl⟩
 ·exact absurd OM hb
def OO:ph 0 (bN (tU (aq (cK kv) 1))) (dK (k_ 0 0 0 hZ)) 0 1 (cK kv).length 1 (bm 1 (iv (cK kv) 0)) (bm 0 (List.take (1:Int).toNat [.node [JB (cK kv)]])) (aF [.node [JB (cK kv)]]):=by
 have hl:(cK kv).length=2:=by rw[mz];rfl
 exact OI (es:=cK kv) (H:=[.node [JB (cK kv)]]) (ae:=1) (ab:=0) (n:=1) (by omega) (by decide) (by omega) (dj cz (pd _ _ _ _ _)) (by decide) (by decide) (by decide) (by decide) (Z8 _)
def Sw{er:Int}{lh hd:G}{ab ae c n:Int}{ip op:List G}{r r':G}(h:ph er lh hd ab ae c n ip op r)(h':ph er lh hd ab ae c n ip op r'):r=r':=((nW _ _ _ _ _ _ _ _ _ _).1 h).2.symm.trans ((nW _ _ _ _ _ _ _ _ _ _).1 h').2
def Xf:FSpec:=⟨[],[],λ_=>True,λ_=>.one (.c (.b 50)),λ_=>[],λz y=>y.p 50,kJ⟩
attribute [irreducible] kO kv
end
abbrev aad(a:List G)(b:Int):=Fm.ct (a.length<1000001/\a.length<=1000000/\RowsOk a/\0<=b/\b<=1000000) (λy=>y.g 30=bm b a/\(y.g 30).length<=a.length)
def Xg:bq 20 UM:=bC 55 306771445239490293540679322872081 (ai Bj (ai AN (ai AM (ai (F0 1000001) eN)))) lN λz hA=>show Fm.den (let v2:=(aM (z.g 31) (z.i 61));let v5:=(z.i 62<0);let v6:=(List.drop (kF) (im (z.i 66) (z.g 32)));let v7:=(z.g 32=z.g 32/\z.g 31=z.g 31/\True);let v8:=(gL (aa v2 4));let v4:=(aM v8 (z.i 62));let v0:=((0:Int)=gI (aa v4 0)/\ []=gS (aa v4 1)/\(0:Int)=gI (aa v4 2)/\(0:Int)=gI (aa v4 3)/\(0:Int)=gI (aa v4 4)/\(0:Int)=gI (aa v4 5)/\(0:Int)=gI (aa v4 6)/\(0:Int)=gI (aa v4 7)/\ []=gS (aa v4 8)/\ []=gL (aa v4 9)/\ []=gL (aa v4 10)/\hZ=hX (aa v4 11)/\(false=true↔gI (aa v4 12)=1)/\(0:Int)=gI (aa v4 13)/\(0:Int)=gI (aa v4 14));let v9:=(z.i 66<=z.i 61);let v10:=(z.i 61<0);let v11:=(↑v8.length:Int);let d5:=(cg (z.i 61) (z.g 31));let g7:=(0<=z.i 61/\z.i 61<z.i 66);let v1:=((1<=z.i 66->z.i 66<= ↑(z.g 32).length->g7/\0<=z.i 62/\z.i 62<v11->(7:Int)=0/\0=z.i 61/\0=z.i 62/\v0/\hZ=dK (k_ (gI (aa v2 0)) (gI (aa v2 1)) (gI (aa v2 2)) (hX (aa v2 3)))/\ []=bm (z.i 62) (iv v8 0)/\(0:Int)=v11/\ []=bm (z.i 61) (im (z.i 66) (z.g 32)))/\(¬((1<=z.i 66/\z.i 66<= ↑(z.g 32).length)/\g7/\0<=z.i 62/\z.i 62<v11)->¬(7:Int)=0));let v3:=((1<=z.i 66->z.i 66<= ↑(z.g 32).length->g7/\0<=z.i 62/\z.i 62<v11->(1:Int)=0/\0=z.i 61/\0=z.i 62/\v0/\hZ=dK (k_ (gI (aa v2 0)) (gI (aa v2 1)) (gI (aa v2 2)) (hX (aa v2 3)))/\ []=bm (z.i 62) (iv v8 0)/\(0:Int)=v11/\ []=bm (z.i 61) (im (z.i 66) (z.g 32)))/\(¬((1<=z.i 66/\z.i 66<= ↑(z.g 32).length)/\g7/\0<=z.i 62/\z.i 62<v11)->¬(1:Int)=0));(.two (z.i 66<1) (.an v7 (.at v3)) (.two ((↑(z.g 32).length:Int)<z.i 66) (.an v7 (.at v3)) (.two v10 (.an v10 (.an v10 (.an v10 (.an v10 (.an v7 (.at v1)))))) (.an (¬v10) (.an (¬v10) (.an (¬v10) (.an (¬v10) (.two v9 (.an v9 (.an v9 (.an v9 (.an v7 (.at v1))))) (.an (¬v9) (.an (¬v9) (.an (¬v9) (.two v5 (.an v5 (.an v5 (.an v5 (.an v5 (.an v5 (.an v5 (.an v5 (.an v5 (.an v5 (.an v5 (.an v5 (.an v5 (.an v5 (.an v7 (.at v1))))))))))))))) (.an (¬v5) (.an (¬v5) (.an (¬v5) (.an (¬v5) (.an (¬v5) (.an (¬v5) (.an (¬v5) (.an (¬v5) (.an d5 (.an (¬v5) (.an (¬v5) (.an (¬v5) (.an (¬v5) (.an (¬v5) (.two (v11<=z.i 62) (.an v7 (.at v1)) (.an (¬v10) (.an (¬((↑(z.g 31).length:Int)<=z.i 61)) (.an d5 (.ct (od v8) (λy0=>y0.i 31=gI (aa v2 0)/\y0.i 32=gI (aa v2 1)/\y0.i 33=gI (aa v2 2)/\hT y0 400=hX (aa v2 3)/\y0.g 34=kN v8 0) λy0=>(let i4:=(aM (y0.g 34) (z.i 62));(.ct (od (y0.g 34)) (λy1=>y1.g 30=iv (y0.g 34) 0) λy1=>(.an (cg (z.i 62) (y0.g 34)) (.ct (Ws (hT y0 400) (y0.i 31) (y0.i 32) (y0.i 33)) (λy2=>hT y2 300=dK (k_ (y0.i 31) (y0.i 32) (y0.i 33) (hT y0 400))) λy2=>(aad (y1.g 30) (z.i 62) λy3=>(.an (C9 (z.i 66) (z.g 32)) (aad v6 (z.i 61) λy4=>(.an (z.g 32=z.g 32/\z.g 31=z.g 31/\(y4.g 30).length=(y4.g 30).length/\(y3.g 30).length=(y3.g 30).length/\True) (.at ((1<=z.i 66->z.i 66<= ↑(z.g 32).length->g7/\0<=z.i 62/\z.i 62<v11->(0:Int)=0/\z.i 61=z.i 61/\z.i 62=z.i 62/\(gI (aa i4 0)=gI (aa v4 0)/\gS (aa i4 1)=gS (aa v4 1)/\gI (aa i4 2)=gI (aa v4 2)/\gI (aa i4 3)=gI (aa v4 3)/\gI (aa i4 4)=gI (aa v4 4)/\gI (aa i4 5)=gI (aa v4 5)/\gI (aa i4 6)=gI (aa v4 6)/\gI (aa i4 7)=gI (aa v4 7)/\gS (aa i4 8)=gS (aa v4 8)/\gL (aa i4 9)=gL (aa v4 9)/\gL (aa i4 10)=gL (aa v4 10)/\hX (aa i4 11)=hX (aa v4 11)/\(gI (aa i4 12)=1↔gI (aa v4 12)=1)/\gI (aa i4 13)=gI (aa v4 13)/\gI (aa i4 14)=gI (aa v4 14))/\hT y2 300=dK (k_ (gI (aa v2 0)) (gI (aa v2 1)) (gI (aa v2 2)) (hX (aa v2 3)))/\y3.g 30=bm (z.i 62) (iv v8 0)/\(↑(y1.g 30).length:Int)=v11/\y4.g 30=bm (z.i 61) (im (z.i 66) (z.g 32)))/\(¬((1<=z.i 66/\z.i 66<= ↑(z.g 32).length)/\g7/\0<=z.i 62/\z.i 62<v11)->¬(0:Int)=0))))))))))))))))))))))))))))))))))))))))))) by
 dsimp only [UM,UK,Br,rv,en,hs,UL,xrG,OG,Z6] at hA;have a1:=@Xd (z.g 31) (z.i 61);have a2:=@GN (OG (aq (z.g 31) (z.i 61).toNat));have a3:=kL (OG (aq (z.g 31) (z.i 61).toNat));have a4:=lc (OG (aq (z.g 31) (z.i 61).toNat));have:=λn h=>@RowsOk.take (z.g 32) h n;dsimp only [OG,bOk] at a1 a2 a3 a4;conv=>zeta
 repeat' with_reducible first|intro _|apply ci|apply cm|apply cj|apply cD|apply cA
 all_goals first|omega|grind [ao,ak,aj,aX,aY,aZ,a_,ba,bc,be,bf,bh,aB,List.append_assoc,gR]
noncomputable section
end
noncomputable section
def Jk{E:List G}{i:Int}:RowsOk (bm i (iv E 0))/\(bm i (iv E 0)).length<=E.length/\RowsOk (bm 0 (List.take (Int.toNat 1) [.node [JB E]]))/\(bm 0 (List.take (Int.toNat 1) [.node [JB E]])).length<=1/\HOk (aF [.node [JB E]]):=by
 have hk:RowsOk [.node [JB E]]:=dj cz (pd _ _ _ _ _)
 refine⟨Bu (kL E), ?_,Bu (hk.take _),Bs _ _,bx _ hk⟩
 have:=Bs i (iv E 0)
 rwa [lc] at this
def xor1{v:Int}(h:0<=v/\v<256):(0<=IntKind.u8.wrap (Int.ofNat ((aE (am .u8) v).xor (aE (am .u8) (1:Int))))/\IntKind.u8.wrap (Int.ofNat ((aE (am .u8) v).xor (aE (am .u8) (1:Int))))<256)/\¬v=IntKind.u8.wrap (Int.ofNat ((aE (am .u8) v).xor (aE (am .u8) (1:Int)))):=by
 obtain⟨n,rfl⟩:∃n:Nat,v=n:=⟨v.toNat,by omega⟩
 have e1:aE (am .u8) (n:Int)=n:=by show n%256=n;omega
 have e2:aE (am .u8) (1:Int)=1:=rfl;have e3:n ^^^ 1<256:=Nat.xor_lt_two_pow (n:=8) (by omega) (by decide);rw[e1,e2,sb];have e4:Int.ofNat (n.xor 1)%256=((n ^^^ 1:Nat):Int):=by show(((n ^^^ 1:Nat):Int))%256=_;omega
 rw[e4];refine⟨by omega,λh=>?_⟩;have h:n ^^^ 1=n:=by omega
 have:n ^^^ (n ^^^ 1)=n ^^^ n:=by rw[h]
 rw[←Nat.xor_assoc,Nat.xor_self,Nat.zero_xor] at this;cases this
def Sx{y:Sy}(h:HOk (hT y 500)):HOk (G.node [G.int (y.i 500),G.int (y.i 501),G.int (y.i 502),G.int (Go.IntKind.u8.wrap (Int.ofNat ((aE (am Go.IntKind.u8) (y.i 503)).xor (aE (am Go.IntKind.u8) (1:Int))))),G.int (y.i 504),G.int (y.i 505),G.int (y.i 506),G.int (y.i 507),G.int (y.i 508),G.int (y.i 509),G.int (y.i 510),G.int (y.i 511),G.int (y.i 512),G.int (y.i 513),G.int (y.i 514),G.int (y.i 515),G.int (y.i 516),G.int (y.i 517),G.int (y.i 518),G.int (y.i 519),G.int (y.i 520),G.int (y.i 521),G.int (y.i 522),G.int (y.i 523),G.int (y.i 524),G.int (y.i 525),G.int (y.i 526),G.int (y.i 527),G.int (y.i 528),G.int (y.i 529),G.int (y.i 530),G.int (y.i 531)])/\¬hT y 500=G.node [G.int (y.i 500),G.int (y.i 501),G.int (y.i 502),G.int (Go.IntKind.u8.wrap (Int.ofNat ((aE (am Go.IntKind.u8) (y.i 503)).xor (aE (am Go.IntKind.u8) (1:Int))))),G.int (y.i 504),G.int (y.i 505),G.int (y.i 506),G.int (y.i 507),G.int (y.i 508),G.int (y.i 509),G.int (y.i 510),G.int (y.i 511),G.int (y.i 512),G.int (y.i 513),G.int (y.i 514),G.int (y.i 515),G.int (y.i 516),G.int (y.i 517),G.int (y.i 518),G.int (y.i 519),G.int (y.i 520),G.int (y.i 521),G.int (y.i 522),G.int (y.i 523),G.int (y.i 524),G.int (y.i 525),G.int (y.i 526),G.int (y.i 527),G.int (y.i 528),G.int (y.i 529),G.int (y.i 530),G.int (y.i 531)]:=by
 have hb:=h.of_hT;obtain⟨x1,x2⟩:=xor1 (hb 3 (by decide));constructor
 ·unfold HOk;refine⟨(jU y 500).set 3 (Go.IntKind.u8.wrap (Int.ofNat ((aE (am Go.IntKind.u8) (y.i 503)).xor (aE (am Go.IntKind.u8) (1:Int))))),by with_unfolding_all rfl,by unfold jU;rw[aba,aaZ,abY],λx hx=>?_⟩;rcases List.mem_or_eq_of_mem_set hx with hx|rfl
  ·unfold jU at hx;obtain⟨j,hj,rfl⟩:=List.mem_map.1 hx;exact hb j (List.mem_range.1 hj)
  ·exact x1
 ·intro e;have e2:gI (aa (hT y 500) 3)=y.i 503:=by with_unfolding_all rfl
  have:gI (aa (hT y 500) 3)=gI (aa (G.node [G.int (y.i 500),G.int (y.i 501),G.int (y.i 502),G.int (Go.IntKind.u8.wrap (Int.ofNat ((aE (am Go.IntKind.u8) (y.i 503)).xor (aE (am Go.IntKind.u8) (1:Int))))),G.int (y.i 504),G.int (y.i 505),G.int (y.i 506),G.int (y.i 507),G.int (y.i 508),G.int (y.i 509),G.int (y.i 510),G.int (y.i 511),G.int (y.i 512),G.int (y.i 513),G.int (y.i 514),G.int (y.i 515),G.int (y.i 516),G.int (y.i 517),G.int (y.i 518),G.int (y.i 519),G.int (y.i 520),G.int (y.i 521),G.int (y.i 522),G.int (y.i 523),G.int (y.i 524),G.int (y.i 525),G.int (y.i 526),G.int (y.i 527),G.int (y.i 528),G.int (y.i 529),G.int (y.i 530),G.int (y.i 531)]) 3):=by rw[e]
  exact x2 (e2.symm.trans this)
end
def Xh:bq 21 UN:=bC 1 0 (ai (iV 1000001) eN) lN λz hA=>show Fm.den (let v0:=(↑(z.g 31).length:Int);(AU (z.g 32) λy0=>(.an (z.g 32=z.g 32/\z.g 31=z.g 31/\True) (.at (v0=v0/\hT y0 300=aF (z.g 32)))))) by
 dsimp only [UN,UK,Br,dg,hs,UL] at hA;conv=>zeta
 repeat' with_reducible first|intro _|apply ci|apply cm|apply cj|apply cD|apply cA
 all_goals first|omega|grind [ao,ak,aj,aX,aY,aZ,a_,ba,bc,be,bf,bh,aB,List.append_assoc,gR]
open Go.RowKit Go.Maps
def jD(v:Value):Option (DataW Unit×List MemPlace):=match v with | .pointer (some ⟨b,0,none⟩)=>some (.lit (.int .i64 b),[])|_=>none
def tw{v:Value}{y:DataW Unit×List MemPlace}(h:jD v=some y):∃b:Nat,v= .pointer (some ⟨b,0,none⟩)/\y=(.lit (.int .i64 b),[]):=by
 unfold jD at h;split at h
 ·injection h with h;exact⟨_,rfl,h.symm⟩
 ·cases h
def Xi{key:Value}{kl:Lit}(h:keyOf Tryz.prog 9 key=some kl):∃s,key= .string s:=by cases key <;> simp [keyOf,Tryz.underlying9,mapKey] at h;exact⟨_,rfl⟩
def UQ(w:World)(x:DataW Unit):Nat:=match x with
 | .lit (.int .i64 b)=>(match w.cell? ⟨b.toNat,0,none⟩ with|some (.slice _ l _)=>l|_=>0)
 |_=>0
def dk(f:DataW Unit->Nat)(l:List (Lit×DataW Unit)):Nat:=(l.map λp=>f p.2).sum
def OP(f:DataW Unit->Nat)(es:List (Lit×DataW Unit))(left:Lit->Bool):Nat:=dk f (es.filter λp=>!left p.1)
def OQ{f:DataW Unit->Nat}{left:Lit->Bool}{kl:Lit}{x:DataW Unit}(hs:∀z:Lit,z.sameKey kl=true↔z=kl)(hl:left kl=true):∀{es:List (Lit×DataW Unit)},es.Pairwise (λp q=>p.1≠q.1)->(kl,x)∈es->
 OP f es (λz=>left z && !z.sameKey kl)=OP f es left+f x:=by
 intro es
 induction es with
 |nil=>intro _ h;cases h
 |cons p es ih=>
  intro hp hm
  obtain⟨h1,h2⟩:=List.pairwise_cons.1 hp
  unfold OP at ih⊢
  by_cases e:p.1=kl
  ·have hx:p=(kl,x):=by
    rcases List.mem_cons.1 hm with h|h
    ·exact h.symm
    ·exact absurd e (h1 _ h)
   subst hx;have hr:es.filter (λp=>!(left p.1 && !p.1.sameKey kl))=es.filter (λp=>!left p.1):=List.filter_congr λq hq=>by
    have:q.1.sameKey kl=false:=by
     cases hk:q.1.sameKey kl with
     |false=>rfl
     |true=>exact absurd ((hs _).1 hk).symm (h1 _ hq)
    rw[this];simp
   have hk:kl.sameKey kl=true:=(hs _).2 rfl;rw[abZ (by simp [hk]),ab0 (by simp [hl]),hr];simp [dk];omega
  ·have hm:(kl,x)∈es:=by
    rcases List.mem_cons.1 hm with h|h
    ·subst h;exact absurd rfl e
    ·exact h
   have:=ih h2 hm
   have hk:p.1.sameKey kl=false:=by
    cases hk:p.1.sameKey kl with
    |false=>rfl
    |true=>exact absurd ((hs _).1 hk) e
   cases hlp:left p.1 with
   |true=>rw[ab0 (by simp [hlp,hk]),ab0 (by simp [hlp]),this]
   |false=>rw[abZ (by simp [hlp]),abZ (by simp [hlp])];simp only [dk,aaP,abw] at this⊢;omega
def Dx(f:DataW Unit->Nat)(left:Lit->Bool):∀es:List (Lit×DataW Unit),OP f es left<=dk f es
 | []=>aao _
 |p::es=>by
  have:=Dx f left es
  unfold OP at this⊢
  cases h:left p.1 with
  |true=>rw[ab0 (by simp [h])];simp only [dk,aaP,abw] at this⊢;omega
  |false=>rw[abZ (by simp [h])];simp only [dk,aaP,abw] at this⊢;omega
def Sz{f:DataW Unit->Nat}{left:Lit->Bool}(h:∀k,left k=false)(es:List (Lit×DataW Unit)):OP f es left=dk f es:=by unfold OP;rw[List.filter_eq_self.2 (λp _=>by rw[h];rfl)]
def Jl{f:DataW Unit->Nat}{es:List (Lit×DataW Unit)}(hk:∀p∈es,WideAt.IsKeyLit p.1):OP f es (Maps.has (.map es))=0:=by unfold OP;rw[List.filter_eq_nil_iff.2 (λp hp=>by have:Maps.has (DataW.map es) p.1=true:=List.any_eq_true.2 ⟨p,hp,WideAt.sameKey_self (hk p hp)⟩;rw[this];simp)];rfl
def UR{es:List (Lit×DataW Unit)}{kl:Lit}{y:DataW Unit}(h:∀zd,(DataW.map es).atKey kl zd=y):(kl,y)∈es:=by
 cases hf:es.find? (λp=>p.1.sameKey kl) with
 |none=>have a:=h (.lit (.int .i64 0));have b:=h (.lit (.int .i64 1));simp only [DataW.atKey,hf] at a b;rw[←b] at a;cases a
 |some p=>have h1:=List.mem_of_find?_eq_some hf;have h2:p.1.sameKey kl=true:=List.find?_some (p:=λp:Lit×DataW Unit=>p.1.sameKey kl) hf;have h2:=WideAt.sameKey_eq h2;have h3:=h y;simp only [DataW.atKey,hf] at h3;rw[←h2, ←h3];exact h1
def SA{kl:Lit}(hk:WideAt.IsKeyLit kl):∀z:Lit,z.sameKey kl=true↔z=kl:=λz=>⟨λh=>WideAt.sameKey_eq h,λh=>by subst h;exact WideAt.sameKey_self hk⟩
def aae(x:Int)(n:Nat)(h:n<4294967296):IntKind.wrap .u32 (bits BinOp.or IntKind.u64 (IntKind.u64.wrap (x * 4294967296)) (n:Int))=n:=by
 have e:∀k:Nat,((k:Int)%4294967296)=((k%4294967296:Nat):Int):=λk=>by omega
 rw[IntKind.wrap_u32];unfold bits;show(IntKind.u64.wrap ((BitVec.ofInt 64 _ ||| BitVec.ofInt 64 _).toNat:Int))%4294967296=_;rw[IntKind.wrap_u64,IntKind.wrap_u64,BitVec.toNat_or,BitVec.toNat_ofInt,BitVec.toNat_ofInt];have e1:((x * 4294967296%18446744073709551616)%((2 ^ 64:Nat):Int)).toNat%4294967296=0:=by omega
 have e2:((n:Int)%((2 ^ 64:Nat):Int)).toNat%4294967296=n:=by omega
 have e3:∀a b:Nat,(((a ||| b:Nat):Int)%18446744073709551616)%4294967296=(((a%4294967296) ||| (b%4294967296):Nat):Int):=λa b=>by
  have:(a ||| b)%2 ^ 32=(a%2 ^ 32) ||| (b%2 ^ 32):=Nat.or_mod_two_pow;have h2:(((a ||| b:Nat):Int)%18446744073709551616)%4294967296=(((a ||| b)%4294967296:Nat):Int):=by omega
  rw[h2];exact congrArg _ this
 rw[e3,e1,e2,Nat.zero_or]
def SB(f:Nat)(a:Option Addr)(len cap:Nat)(lt:Int)(w:World)(c0:w.cell? ⟨f,0,none⟩=some (.slice a len cap))(c1:w.cell? ⟨f,1,none⟩=some (.int .u32 lt))(hn:len<4294967296):
 Calls Tryz.prog 235 #[.pointer (some ⟨f,0,none⟩)] w λe w'=>(∃x,e= .returned (.int .u64 x)/\IntKind.wrap .u32 x=len)/\∃n,w'=w.drewN n:=by
 go_enter Tryz.func235,Tryz.ntmps235
 go_wp2_with fail
 go_quiet (fail)
 go_wp2
 go_ret
 refine⟨⟨_,rfl, ?_⟩,_,rfl⟩
 rw[aae _ _ hn]
def aS{w w':World}(h:w.grownBy w' none){p:Addr}{v:Value}(hc:w.cell? p=some v):w'.cell? p=some v:=h.cell hc (by simp)
structure PkF(w:World)(f n:Nat):Prop where
 c0:∃a cap,w.cell? ⟨f,0,none⟩=some (.slice a n cap)
 c1:∃lt,w.cell? ⟨f,1,none⟩=some (.int .u32 lt)
 hn:n<4294967296
def PkF.grown{w w':World}{f n:Nat}(h:PkF w f n)(hg:w.grownBy w' none):PkF w' f n:=
 ⟨by obtain⟨a,c,e⟩:=h.c0;exact⟨a,c,aS hg e⟩,by obtain⟨a,e⟩:=h.c1;exact⟨a,aS hg e⟩,h.hn⟩
def pn:Keyed Tryz.prog 9:=string_keyed Tryz.underlying9
set_option maxRecDepth 100000 in
theorem GY(d m n:Nat)(es:List (Lit×DataW Unit))(f:DataW Unit->Nat)(w:World)(c1:w.cell? ⟨d,1,none⟩=some (.map (some m)))
 (d4:w.ownsMap Tryz.prog 9 jD m n (.map es)) (hfl:∀p∈es,∀b:Nat,p.2= .lit (.int .i64 b)->PkF w b (f p.2)) (ac5:dk f es<=1073741824):
 Calls Tryz.prog 190 #[.pointer (some ⟨d,0,none⟩)] w λe w'=>e= .returned (.int .i64 (dk f es:Nat))/\w.grownBy w' none:=by
 obtain⟨o7,he,hap,hkl⟩:=d4.entries pn
 injection he with he;subst he
 have ar4:∀p∈es,WideAt.IsKeyLit p.1:=hkl
 go_enter Tryz.func190,Tryz.ntmps190
 go_wp2_with (first
  |(at_range;refine wpList_range_own _ rfl _ 90 rfl 9 231 pn Tryz.underlying90 _ m n _ rfl d4 ?_;intro w0 ar5 hg0 hs0)
  |go_in)
 go_frame
 go_loopw [3] (λt wr=>∃(left:Lit->Bool) (cnt:Nat),wr.ranges Tryz.prog 9 jD m w.heap.size n (.map es) left cnt/\w.grownBy wr none/\t= .int .u64 (OP f es left:Nat))
  (λ_ wr=>wr.rangeLeft m w.heap.size)
 case atStart=>exact⟨_,_,ar5,hg0,by rw[Jl hkl];rfl⟩
 case round=>
  obtain⟨left,cnt,hrg,hgw,rfl⟩:=hrel
  have hle:=Dx f left es
  go_wp2_with (first
   |(at_next;refine wpList_next_ranges _ rfl _ rfl 9 pn jD Value.string (λb:Nat=>Value.pointer (some ⟨b,0,none⟩)) (λkey kl hk=>Xi hk) (λv y hv=>by obtain⟨b,hb,_⟩:=tw hv;exact⟨b,hb⟩) m w.heap.size n _ _ _ rfl hrg ?_ ?_)
   |go_in)
  ·intro _ hl0
   go_wp2
   go_ret
   exact⟨by rw[Sz hl0];rfl,hgw⟩
  ·intro x c kl y ps w1 ar6 ai3 hlk hv j0 ao8 c8 hg1 w8 hen
   obtain⟨b,hb,hy⟩:=tw hv
   injection hb with hb;injection hb with hb;injection hb with hb
   subst hb;injection hy with hy _;subst hy
   have u5:=UR j0
   have ah4:=OQ (f:=f) (SA (hkl _ u5)) hlk hap u5
   have ag3:w.grownBy w1 none:=hgw.andThen hg1 (λj hj=>by cases hj;exact Or.inl (aao _))
   obtain⟨⟨a,cp,e0⟩,⟨lt,e1⟩,hn⟩:=(hfl _ u5 c rfl).grown ag3
   have m8:=Dx f (λz=>left z && !z.sameKey kl) es
   have hlen:=ao8.left_eq
   have n7:=hrg.left_eq
   clear j0 hfl d4 hv hkl ar4 hap
   generalize OP f es left=T at ah4 hle⊢
   generalize f (DataW.lit (Lit.int IntKind.i64 ↑c))=N at ah4 e0 hn
   go_wp2_with (first
    |(go_at_call 235;refine(SB _ _ _ _ _ _ e0 e1 hn).mono ?_;rintro e w2 ⟨⟨x,rfl,hx⟩,nd,rfl⟩)
    |go_in)
   refine⟨⟨λz=>left z && !z.sameKey kl,ar6,ao8,⟨ag3.os,ag3.tape,ag3.output,ag3.size,ag3.block⟩,by rw[ah4];simp⟩, ?_⟩
   rw[n7]
   show w1.rangeLeft m w.heap.size<cnt
   rw[hlen];exact c8
def SC(w:World):(zeroValue 231).run Tryz.prog w= .ok (.pointer none) w:=by kernel_rfl
def xZ{m n:Nat}{es:List (Lit×DataW Unit)}{w:World}(d4:w.ownsMap Tryz.prog 9 jD m n (.map es))(s:ByteArray)(hs:s.size<=maxLen):
 (∃b:Nat,(Lit.string s.data.toList,DataW.lit (.int .i64 b))∈es/\(Instr.lookup 90 (.map (some m)) (.string s) false).run Tryz.prog w= .ok (.pointer (some ⟨b,0,none⟩)) w)∨
 ((∀p∈es,p.1≠ .string s.data.toList)/\(Instr.lookup 90 (.map (some m)) (.string s) false).run Tryz.prog w= .ok (.pointer none) w):=by
 have ai3:keyOf Tryz.prog 9 (.string s)=some (.string s.data.toList):=WideMaps.keyOf_string_mk Tryz.underlying9 hs
 obtain⟨es0,clock,hb,F,_,he⟩:=d4
 injection he with he
 rcases Maps.fit_look false pn Tryz.underlying90 (SC w) hb F ai3 with⟨b9,_,j0⟩|⟨e0,y,_,_,b9,hRv,j0,_⟩
 ·rw[←he] at j0
  refine .inr ⟨λp hp e=>?_,b9⟩
  cases hf:es.find? (λp=>p.1.sameKey (.string s.data.toList)) with
  |none=>have:=List.find?_eq_none.1 hf p hp;rw[e] at this;exact this (WideAt.sameKey_self (a:=.string s.data.toList) trivial)
  |some q=>have a:=j0 (.lit (.int .i64 0));have b:=j0 (.lit (.int .i64 1));simp only [DataW.atKey,hf] at a b;rw[a] at b;cases b
 ·obtain⟨b,hv,hy⟩:=tw hRv;rw[←he] at j0;subst hy;refine .inl ⟨b,UR j0, ?_⟩;rw[b9,hv];rfl
def SD(d m n:Nat)(es:List (Lit×DataW Unit))(s:ByteArray)(w:World)(c1:w.cell? ⟨d,1,none⟩=some (.map (some m)))(d4:w.ownsMap Tryz.prog 9 jD m n (.map es))(hs:s.size<=maxLen)(j5:∀p∈es,p.1≠ .string s.data.toList):
 Calls Tryz.prog 65 #[.pointer (some ⟨d,0,none⟩),.string s] w λe w'=>e= .returned (.tuple #[.slice none 0 0,.int .i64 7])/\w'=w:=by
 rcases xZ d4 s hs with⟨b,hm,_⟩|⟨_,b9⟩
 ·exact absurd rfl (j5 _ hm)
 clear j5 d4 hs
 go_enter Tryz.func65,Tryz.ntmps65
 go_wp2
 go_ret2
 exact⟨rfl,rfl⟩
def tz(d:Nat)(w:World)(c2:w.cell? ⟨d,2,none⟩=some (.bool false)):
 Calls Tryz.prog 141 #[.pointer (some ⟨d,0,none⟩)] w λe w'=>e= .returned (.int .i64 0)/\w'=w:=by
 go_enter Tryz.func141,Tryz.ntmps141
 go_wp2
 go_ret
 exact⟨rfl,rfl⟩
def Dy(d b:Nat)(s:ByteArray)(w:World)(c2:w.cell? ⟨d,2,none⟩=some (.bool false))(h1:1<=s.size)(h2:s.size<=64)(cs:w.cell? ⟨b,0,none⟩=some (.string s)):
 Calls Tryz.prog 140 #[.pointer (some ⟨d,0,none⟩),.slice (some ⟨b,0,none⟩) 1 1] w λe w'=>e= .returned (.int .i64 0)/\w'=w:=by
 go_enter Tryz.func140,Tryz.ntmps140
 go_wp2
 refine wp_loop_rounds 2 ?_
 rw[rounds_succ]
 go_wp2
 rw[rounds_succ]
 go_wp2
 go_ret
 exact⟨rfl,rfl⟩
set_option maxRecDepth 100000 in
theorem SE(d m n b N:Nat)(s:ByteArray)(w:World)(c1:w.cell? ⟨d,1,none⟩=some (.map (some m)))(c2:w.cell? ⟨d,2,none⟩=some (.bool false))(h1:1<=s.size)(h2:s.size<=64)
 (b9:∀W:World,W.heap[m]? =w.heap[m]? ->(Instr.lookup 90 (.map (some m)) (.string s) false).run Tryz.prog W= .ok (.pointer (some ⟨b,0,none⟩)) W)
 (hm:m<w.heap.size) (hF:PkF w b N) (f1:w.frozen? ⟨b,1,none⟩=false):
 Calls Tryz.prog 68 #[.pointer (some ⟨d,0,none⟩),.string s] w λe w'=>e= .returned (.int .i64 0)/\w'=(w.alloc (.cells #[.string s] 9)).setCell ⟨b,1,none⟩ (.int .u32 N):=by
 have af_:=b9 (w.alloc (.cells #[.string s] 9)) (heap_alloc_old w _ hm)
 obtain⟨⟨a,cp,e0⟩,⟨lt,e1⟩,hn⟩:=hF
 have hx:=e1
 have hc:((w.alloc (.cells #[.string s] 9)).setCell ⟨b,1,none⟩ (.int .u32 N)).cell? ⟨d,2,none⟩=some (.bool false):=by rw[World.cell?_setCell_other _ _ _ _ (by simp)];exact aS (World.grownBy_alloc w _ none) c2
 have hg:=World.grownBy_alloc w (.cells #[.string s] 9) none
 have cs:(w.alloc (.cells #[.string s] 9)).cell? ⟨w.heap.size,0,none⟩=some (.string s):=by simp
 replace c1:=aS hg c1
 have c2':=aS hg c2
 replace e0:=aS hg e0
 replace e1:=aS hg e1
 have f1':(w.alloc (.cells #[.string s] 9)).frozen? ⟨b,1,none⟩=false:=by rw[←f1];exact World.frozen?_of_block (heap_alloc_old w _ (World.block_lt_of_cell? _ _ hx))
 clear b9 hm hg f1
 go_enter Tryz.func68,Tryz.ntmps68
 go_wp2_with (first
  |(go_at_call 140;refine(Dy _ _ _ _ c2' h1 h2 cs).mono ?_;rintro e w2 ⟨rfl,rfl⟩)
  |(go_at_call 141;refine(tz _ _ hc).mono ?_;rintro e w2 ⟨rfl,rfl⟩)
  |go_in)
 go_ret
 exact⟨rfl,rfl⟩
def Bw:(Tryz.prog.info? 5).map (λi=>(i.zero,i.size,i.bytes))=some (some (.int .u8 0),1,1):=by kernel_rfl
def OS{d m n:Nat}{room:Int}{es:List (Lit×DataW Unit)}{f:DataW Unit->Nat}{W w:World}(d4:W.ownsMap Tryz.prog 9 jD m n (.map es))(hfl:∀p∈es,∀b:Nat,p.2= .lit (.int .i64 b)->PkF W b (f p.2))(ac5:dk f es<=1073741824)(hS:w.cell? ⟨d,0,none⟩=some (.int .i64 room)/\w.cell? ⟨d,1,none⟩=some (.map (some m))/\W.grownBy w none):
 Calls Tryz.prog 190 #[.pointer (some ⟨d,0,none⟩)] w λe w'=>e= .returned (.int .i64 (dk f es:Nat))/\(w'.cell? ⟨d,0,none⟩=some (.int .i64 room)/\w'.cell? ⟨d,1,none⟩=some (.map (some m))/\W.grownBy w' none):=
 (GY d m n es f w hS.2.1 (d4.kept hS.2.2 (by simp)) (λp hp b hb=>(hfl p hp b hb).grown hS.2.2) ac5).mono λe w' h=>⟨h.1,aS h.2 hS.1,aS h.2 hS.2.1,hS.2.2.trans h.2⟩
set_option maxRecDepth 100000 in
set_option maxHeartbeats 4000000 in
def Dz{P:Program}{ops:Array Oper}{Q:Exit->Act->World->Prop}{md:Region.Mode}{S:World->Prop}{oi:Oper}{v:Value}{fuel:Nat}{listed:Array Bool}{a:Act}{w:World}(i:Nat)(hS:S w)(h:wpAnyH P md ops Q S fuel (listed.setIfInBounds i true) (a.put oi.dst v) w)(hi:ops[i]? =some oi:=by simp only [abj,ab2,abS];rfl)(hs:Region.noSelect ops=true:=by kernel_rfl)(hf:Region.free md ops listed i=true:=by kernel_rfl)(hr:(Region.ready md ops listed).contains i=true:=by kernel_rfl)(hQ:∀c a w,Q (.panic c) (a.put oi.dst v) w->Q (.panic c) a w:=by intro _ _ _ h;exact h)(h1:Region.wanted oi (yielded ops a.tmps)=true:=by rfl)(h2:∀W,S W->(execOp a.eval oi).run P W= .ok (.value v) W:=by(intro W hW;(try dsimp only at hW);obtain⟨hW0,hW1,hW2⟩:=hW;go_simp;try with_reducible rfl)):wpAnyH P md ops Q S (fuel+1) listed a w:=wpAnyH_take hi hs hf hr hQ (.inl ⟨h1,h2⟩) hS h
def Yk{P:Program}{ops:Array Oper}{Q:Exit->Act->World->Prop}{md:Region.Mode}{S:World->Prop}{oi:Oper}{fuel:Nat}{listed:Array Bool}{a:Act}{w:World}(i:Nat)(hS:S w)(h:wpAnyH P md ops Q S fuel (listed.setIfInBounds i true) (a.put oi.dst undef) w)(hi:ops[i]? =some oi:=by simp only [abj,ab2,abS];rfl)(hs:Region.noSelect ops=true:=by kernel_rfl)(hf:Region.free md ops listed i=true:=by kernel_rfl)(hr:(Region.ready md ops listed).contains i=true:=by kernel_rfl)(hQ:∀c a w,Q (.panic c) (a.put oi.dst undef) w->Q (.panic c) a w:=by intro _ _ _ h;exact h)(h1:Region.wanted oi (yielded ops a.tmps)=false:=by rfl):wpAnyH P md ops Q S (fuel+1) listed a w:=wpAnyH_take hi hs hf hr hQ (.inr ⟨h1,rfl⟩) hS h
def tZ(d m n b N M sc:Nat)(room:Int)(es:List (Lit×DataW Unit))(f:DataW Unit->Nat)(s:ByteArray)(v:Value)(xs news:List Value)(ad:Addr)(w:World)(c0:w.cell? ⟨d,0,none⟩=some (.int .i64 room))(c1:w.cell? ⟨d,1,none⟩=some (.map (some m)))(c2:w.cell? ⟨d,2,none⟩=some (.bool false))(h1:1<=s.size)(h2:s.size<=64)(d4:w.ownsMap Tryz.prog 9 jD m n (.map es))(hfl:∀p∈es,∀b:Nat,p.2= .lit (.int .i64 b)->PkF w b (f p.2))(ac5:(dk f es:Int)+M<=room)(M':room<=1073741824)(b9:∀W:World,W.heap[m]? =w.heap[m]? ->(Instr.lookup 90 (.map (some m)) (.string s) false).run Tryz.prog W= .ok (.pointer (some ⟨b,0,none⟩)) W)(f0:w.cell? ⟨b,0,none⟩=some v)(fz:w.frozen? ⟨b,0,none⟩=false)(ad6:w.ownsRow 0 5 1 v N xs)(hvb:v.ownBlock≠some b)(hvd:v.ownBlock≠some d)(hbd:b≠d)(hN:N+M<=1073741824)(hl:news.length=M)(hM:0<M)(ae8:∀j u,news[j]? =some u->w.cell? (ad.add j)=some u)(u0:∀u∈news,u.oneCell'=true):
 Calls Tryz.prog 119 #[.pointer (some ⟨d,0,none⟩),.string s,.slice (some ad) M sc] w λe w'=>e= .returned (.int .i64 0)/\∃g cap w1,w.grownBy w1 v.ownBlock/\
  w1.ownsRow 0 5 1 (.slice (some ⟨g,0,none⟩) (N+M) cap) (N+M) (xs++news)/\(v.ownBlock=some g∨w.heap.size<=g)/\w'=w1.setCell ⟨b,0,none⟩ (.slice (some ⟨g,0,none⟩) (N+M) cap):=by
 obtain⟨i0,hi,hz0,hz1,hz2⟩:=info_parts Bw
 have ai4:=d4.lt
 have al6:=World.block_lt_of_cell? _ _ f0
 have hg:=World.grownBy_alloc w (.cells #[.string s] 9) none
 have cs:(w.alloc (.cells #[.string s] 9)).cell? ⟨w.heap.size,0,none⟩=some (.string s):=by simp
 have af_:=b9 (w.alloc (.cells #[.string s] 9)) (heap_alloc_old w _ ai4)
 have c0':=aS hg c0
 have c1':=aS hg c1
 have c2':=aS hg c2
 clear b9
 go_enter Tryz.func119,Tryz.ntmps119
 go_wp2_with (first
  |(go_at_call 140;refine(Dy _ _ _ _ c2' h1 h2 cs).mono ?_;rintro e w2 ⟨rfl,rfl⟩)
  |fail)
 have ac6:=d4.kept hg (by simp)
 have ah5:∀p∈es,∀b:Nat,p.2= .lit (.int .i64 b)->PkF (w.alloc (.cells #[.string s] 9)) b (f p.2):=λp hp b hb=>(hfl p hp b hb).grown hg
 have hle:dk f es<=1073741824:=by omega
 clear d4 hfl c0 c1
 generalize hT:dk f es=T at ac5
 have al7:decide (IntKind.i64.wrap (room-(T:Int))<(M:Int))=false:=by rw[IntKind.wrap_i64];exact decide_eq_false (by omega)
 refine wp_region_held_drew (S:=λw'=>w'.cell? ⟨d,0,none⟩=some (.int .i64 room)/\w'.cell? ⟨d,1,none⟩=some (.map (some m))/\(w.alloc (.cells #[.string s] 9)).grownBy w' none) (by kernel_rfl) ⟨c0',c1',rfl,rfl,rfl,aao _,λ_ _ _=>rfl⟩ (λi9=>?_)
 refine Dz 0 i9 ?_
 (try simp only [Act.put,aaR,aaS,aaT])
 refine Dz 1 i9 ?_
 (try simp only [Act.put,aaR,aaS,aaT])
 refine Dz 2 i9 ?_
 (try simp only [Act.put,aaR,aaS,aaT])
 refine Dz 3 i9 ?_
 (try simp only [Act.put,aaR,aaS,aaT])
 refine Dz 4 i9 ?_
 (try simp only [Act.put,aaR,aaS,aaT])
 refine Dz 5 i9 ?_
 (try simp only [Act.put,aaR,aaS,aaT])
 refine Dz 6 i9 ?_
 (try simp only [Act.put,aaR,aaS,aaT])
 refine wpAnyH_ready (rs:=[7]) (by kernel_rfl) (by simp) ?_
 refine AllReadyH.cons rfl (λK hK=>?_) AllReadyH.nil
 go_simp
 refine(OS ac6 ah5 hle i9).mono ?_
 rintro e w2 ⟨rfl,d6⟩
 refine hK.out _ _ d6 (λi9=>?_)
 refine Dz 8 i9 ?_
 (try simp only [Act.put,aaR,aaS,aaT])
 refine Dz 9 i9 ?_
 (try simp only [Act.put,aaR,aaS,aaT])
 refine Dz 10 i9 ?_
 (try simp only [Act.put,aaR,aaS,aaT])
 refine Dz 11 i9 ?_
 (try simp only [Act.put,aaR,aaS,aaT])
 refine Dz 12 i9 ?_
 (try simp only [Act.put,aaR,aaS,aaT])
 refine Dz 13 i9 ?_
 (try simp only [Act.put,aaR,aaS,aaT])
 refine Yk 14 i9 ?_
 (try simp only [Act.put,aaR,aaS,aaT])
 refine Yk 15 i9 ?_
 (try simp only [Act.put,aaR,aaS,aaT])
 refine Yk 16 i9 ?_
 (try simp only [Act.put,aaR,aaS,aaT])
 refine Yk 17 i9 ?_
 (try simp only [Act.put,aaR,aaS,aaT])
 refine Yk 18 i9 ?_
 (try simp only [Act.put,aaR,aaS,aaT])
 refine Yk 19 i9 ?_
 (try simp only [Act.put,aaR,aaS,aaT])
 refine Dz 20 i9 ?_
 (try simp only [Act.put,aaR,aaS,aaT])
 refine Dz 21 i9 ?_
 (try simp only [Act.put,aaR,aaS,aaT])
 refine wpAnyH_done (by kernel_rfl) ?_ _
 obtain⟨a0,a1,hg2⟩:=d6
 have hgw:w.grownBy w2 none:=hg.trans hg2
 have ao9:=ad6.kept hgw (by cases v.ownBlock <;> simp)
 have f02:=aS hgw f0
 have fz2:w2.frozen? ⟨b,0,none⟩=false:=by rw[←fz];exact World.frozen?_of_block (hgw.block b al6 (by simp))
 have ad_:∀j u,news[j]? =some u->w2.cell? (ad.add j)=some u:=λj u hj=>aS hgw (ae8 j u hj)
 have c22:w2.cell? ⟨d,2,none⟩=some (.bool false):=aS hgw c2
 have hlen:news.length=M * 1:=by omega
 have hmx:N+M<=maxLen:=by unfold maxLen;omega
 have hby:(N+M) * 1<=140737488355328:=by omega
 clear ac6 ah5 hle al7 ae8 ad6 fz f0 af_ cs c0' c1' c2'
 have c23:∀w3 u,w2.grownBy w3 v.ownBlock->(w3.setCell ⟨b,0,none⟩ u).cell? ⟨d,2,none⟩=some (.bool false):=λw3 u h=>by rw[World.cell?_setCell_other _ _ _ _ (by simp [Ne.symm hbd])];exact h.cell c22 (Ne.symm hvd)
 go_wp2_with (first
  |(at_builtin;refine wpList_append_lies _ rfl _ _ 102 rfl 0 5 i0 (.int .u8 0) 1 1 Tryz.underlying102 hi hz0 hz1 hz2 rfl (by decide) v N xs rfl ao9 ad M sc news rfl hlen ad_ u0 hM hmx hby (aaD _) _ rfl ?_;intro g cap w3 ah6 n9 ah0 ao_;have q0:=n9.cell f02 (Ne.symm hvb);have qz:w3.frozen? ⟨b,0,none⟩=false:=(World.frozen?_of_block (n9.block b (World.block_lt_of_cell? _ _ f02) (Ne.symm hvb))).trans fz2)
  |(go_at_call 141;refine(tz _ _ (c23 _ _ n9)).mono ?_;rintro e w4 ⟨rfl,rfl⟩)
  |fail)
 go_ret
 refine⟨rfl,g,cap,w3,⟨n9.os.trans hgw.os,n9.tape.trans hgw.tape,n9.output.trans hgw.output,aaV hgw.size n9.size,λk hk i5=>(n9.block k (abh hk hgw.size) i5).trans (hgw.block k hk (by simp))⟩,ah6, ?_,rfl⟩
 rcases ah0 with h|h
 ·exact .inl h
 ·exact .inr (by rw[h];exact hgw.size)
def US{m n:Nat}{es:List (Lit×DataW Unit)}{w:World}(d4:w.ownsMap Tryz.prog 9 jD m n (.map es)){a:Addr}{u:Value}(h:w.cell? a=some u):a.block≠m:=λe=>by obtain⟨_,_,hq,_⟩:=d4;unfold World.cell? at h;rw[e] at h;simp [hq] at h
def OT{m n:Nat}{es:List (Lit×DataW Unit)}{w:World}(d4:w.ownsMap Tryz.prog 9 jD m n (.map es))(ty:TypeId):(Builtin.len_ #[90] ty #[.map (some m)]).run Tryz.prog w= .ok (.int .i64 (es.length:Nat)) w:=
 d4.len Tryz.underlying90 ty
def OU{d m n:Nat}{room:Int}{es:List (Lit×DataW Unit)}{f:DataW Unit->Nat}{W w:World}(d4:W.ownsMap Tryz.prog 9 jD m n (.map es))(hfl:∀p∈es,∀b:Nat,p.2= .lit (.int .i64 b)->PkF W b (f p.2))(ac5:dk f es<=1073741824)(hS:w.cell? ⟨d,0,none⟩=some (.int .i64 room)/\w.cell? ⟨d,1,none⟩=some (.map (some m))/\(∀ty,(Builtin.len_ #[90] ty #[.map (some m)]).run Tryz.prog w= .ok (.int .i64 (es.length:Nat)) w)/\W.grownBy w none):
 Calls Tryz.prog 190 #[.pointer (some ⟨d,0,none⟩)] w λe w'=>e= .returned (.int .i64 (dk f es:Nat))/\(w'.cell? ⟨d,0,none⟩=some (.int .i64 room)/\w'.cell? ⟨d,1,none⟩=some (.map (some m))/\(∀ty,(Builtin.len_ #[90] ty #[.map (some m)]).run Tryz.prog w'= .ok (.int .i64 (es.length:Nat)) w')/\W.grownBy w' none):=
 (GY d m n es f w hS.2.1 (d4.kept hS.2.2.2 (by simp)) (λp hp b hb=>(hfl p hp b hb).grown hS.2.2.2) ac5).mono λe w' h=>⟨h.1,aS h.2 hS.1,aS h.2 hS.2.1,OT (d4.kept (hS.2.2.2.trans h.2) (by simp)),hS.2.2.2.trans h.2⟩
set_option maxRecDepth 100000 in
theorem t_(d m n M sc:Nat)(room:Int)(es:List (Lit×DataW Unit))(f:DataW Unit->Nat)(s:ByteArray)(news:List Value)(ad:Addr)(w:World)(c0:w.cell? ⟨d,0,none⟩=some (.int .i64 room))
 (c1:w.cell? ⟨d,1,none⟩=some (.map (some m))) (c2:w.cell? ⟨d,2,none⟩=some (.bool false)) (h1:1<=s.size) (h2:s.size<=64)
 (d4:w.ownsMap Tryz.prog 9 jD m n (.map es)) (hfl:∀p∈es,∀b:Nat,p.2= .lit (.int .i64 b)->PkF w b (f p.2)) (ac5:(dk f es:Int)+M<=room) (M':room<=1073741824)
 (b9:∀W:World,W.heap[m]? =w.heap[m]? ->(Instr.lookup 90 (.map (some m)) (.string s) false).run Tryz.prog W= .ok (.pointer none) W)
 (ak3:es.length<4096) (hn:n<4096)
 (hl:news.length=M) (hM:0<M) (ae8:∀j u,news[j]? =some u->w.cell? (ad.add j)=some u) (u0:∀u∈news,u.oneCell'=true):
 Calls Tryz.prog 119 #[.pointer (some ⟨d,0,none⟩),.string s,.slice (some ad) M sc] w λe w'=>e= .returned (.int .i64 0)/\∃b g cap w1,w.grownBy w1 (some m)/\w.heap.size<=b/\w.heap.size<=g/\b≠g/\b<w1.heap.size/\
  w1.ownsMap Tryz.prog 9 jD m (n+1) ((DataW.map es).put (.string s.data.toList) (.lit (.int .i64 b)))/\w1.ownsRow 0 5 1 (.slice (some ⟨g,0,none⟩) M cap) M news/\w1.heap[b]? =some (.cells #[.slice none 0 0,.int .u32 0] 234)/\w'=w1.setCell ⟨b,0,none⟩ (.slice (some ⟨g,0,none⟩) M cap):=by
 obtain⟨i0,hi,hz0,hz1,hz2⟩:=info_parts Bw
 have ai4:=d4.lt
 have hg:=World.grownBy_alloc w (.cells #[.string s] 9) none
 have cs:(w.alloc (.cells #[.string s] 9)).cell? ⟨w.heap.size,0,none⟩=some (.string s):=by simp
 have af_:=b9 (w.alloc (.cells #[.string s] 9)) (heap_alloc_old w _ ai4)
 have c0':=aS hg c0
 have c1':=aS hg c1
 have c2':=aS hg c2
 have ac6:=d4.kept hg (by simp)
 have ah5:∀p∈es,∀b:Nat,p.2= .lit (.int .i64 b)->PkF (w.alloc (.cells #[.string s] 9)) b (f p.2):=λp hp b hb=>(hfl p hp b hb).grown hg
 have hle:dk f es<=1073741824:=by omega
 clear b9 d4 hfl c0 c1
 go_enter Tryz.func119,Tryz.ntmps119
 go_wp2_with (first
  |(go_at_call 140;refine(Dy _ _ _ _ c2' h1 h2 cs).mono ?_;rintro e w2 ⟨rfl,rfl⟩)
  |fail)
 generalize hT:dk f es=T at ac5
 have al7:decide (IntKind.i64.wrap (room-(T:Int))<(M:Int))=false:=by rw[IntKind.wrap_i64];exact decide_eq_false (by omega)
 have ap0:decide (4096<=((es.length:Nat):Int))=false:=decide_eq_false (by omega)
 first
 |(go_region_held (λw'=>w'.cell? ⟨d,0,none⟩=some (.int .i64 room)/\w'.cell? ⟨d,1,none⟩=some (.map (some m))/\(∀ty,(Builtin.len_ #[90] ty #[.map (some m)]).run Tryz.prog w'= .ok (.int .i64 (es.length:Nat)) w')/\(w.alloc (.cells #[.string s] 9)).grownBy w' none)
  (first|exact⟨c0',c1',OT (w:=(w.alloc (.cells #[.string s] 9)).drew) ac6,rfl,rfl,rfl,aao _,λ_ _ _=>rfl⟩|assumption)
  (first|(go_at_call 190;refine(OU ac6 ah5 hle (by assumption)).mono ?_;rintro e w2 ⟨rfl,d6⟩)))
 |fail
 obtain⟨a0,a1,_,hg2⟩:=d6
 have hgw:w.grownBy w2 none:=hg.trans hg2
 have ah7:=ac6.kept hg2 (by simp)
 have ad_:∀j u,news[j]? =some u->w2.cell? (ad.add j)=some u:=λj u hj=>aS hgw (ae8 j u hj)
 have c22:w2.cell? ⟨d,2,none⟩=some (.bool false):=aS hgw c2
 have hlen:news.length=M * 1:=by omega
 have hmx:0+M<=maxLen:=by unfold maxLen;omega
 have hby:(0+M) * 1<=140737488355328:=by omega
 have ai3:keyOf Tryz.prog 9 (.string s)=some (.string s.data.toList):=WideMaps.keyOf_string_mk Tryz.underlying9 (by unfold maxLen;omega)
 have qT:∀(w:World) (r:Option Nat),(binOp .eql 90 (.map r) (.map none)).run Tryz.prog w= .ok (.bool r.isNone) w:=λw r=>run_eql_map_nil w _ _ _ r Tryz.underlying90
 have a1':=aS (World.grownBy_alloc w2 (.cells #[.slice none 0 0,.int .u32 0] 234) none) a1
 have ar7:(w2.alloc (.cells #[.slice none 0 0,.int .u32 0] 234)).heap[w2.heap.size]? =some (.cells #[.slice none 0 0,.int .u32 0] 234):=heap_alloc_new w2 _
 have p8:(w2.alloc (.cells #[.slice none 0 0,.int .u32 0] 234)).heap.size=w2.heap.size+1:=by simp
 have hm2:m<w2.heap.size:=abh ai4 hgw.size
 have ae7:∀w3,(w2.alloc (.cells #[.slice none 0 0,.int .u32 0] 234)).grownBy w3 (some m)->w3.heap[w2.heap.size]? =some (.cells #[.slice none 0 0,.int .u32 0] 234)/\w3.cell? ⟨w2.heap.size,0,none⟩=some (.slice none 0 0)/\
  w3.frozen? ⟨w2.heap.size,0,none⟩=false/\w3.cell? ⟨d,2,none⟩=some (.bool false)/\∀j u,news[j]? =some u->w3.cell? (ad.add j)=some u:=λw3 h=>by
  have hb:=(h.block w2.heap.size (by rw[p8];omega) (λe=>by injection e with e;omega)).trans ar7
  refine⟨hb,by simp [World.cell?,hb],by simp [World.frozen?,hb],h.cell (aS (World.grownBy_alloc w2 _ none) c22) (λe=>US ah7 c22 (Option.some.inj e)),λj u hj=>h.cell (aS (World.grownBy_alloc w2 _ none) (ad_ j u hj)) (λe=>US ah7 (ad_ j u hj) (Option.some.inj e))⟩
 have ar8:w2.heap.size≠d:=λe=>by have:=World.block_lt_of_cell? _ _ c22;simp at this;omega
 clear ac6 ah5 hle al7 ap0 ae8 af_ cs c0' c1' c2' c2
 go_wp2_with (first
  |(at_mapUpdate;refine wpList_mapUpdate_own _ rfl _ _ _ 90 rfl 9 231 pn Tryz.underlying90 jD m n _ rfl (ah7.alloc _) (by unfold maxLen;omega) _ _ _ rfl rfl ai3 (.lit (.int .i64 w2.heap.size)) [] rfl ?_;intro w3 ah6 n9;obtain⟨p0,p1,p2,p3,p4⟩:=ae7 w3 n9)
  |(at_builtin;refine wpList_append_lies _ rfl _ _ 102 rfl 0 5 i0 (.int .u8 0) 1 1 Tryz.underlying102 hi hz0 hz1 hz2 rfl (by decide) (.slice none 0 0) 0 [] rfl (World.ownsRow_nil _ _ _ _) ad M sc news rfl hlen p4 u0 hM hmx hby (aaD _) _ rfl ?_;intro g cap w4 ap1 ae0 ar9 au0;have r1:=aS ae0 p1;have r2:w4.frozen? ⟨w2.heap.size,0,none⟩=false:=(World.frozen?_of_block (ae0.block _ (World.block_lt_of_cell? _ _ p1) (by simp [Value.ownBlock]))).trans p2)
  |(go_at_call 141;refine(tz _ _ (by rw[World.cell?_setCell_other _ _ _ _ (λe=>absurd (congrArg Addr.block e) ar8)];exact aS ae0 p3)).mono ?_;rintro e w5 ⟨rfl,rfl⟩)
  |fail)
 go_ret
 have hga:w.grownBy w3 (some m):=((hgw.but _).trans (World.grownBy_alloc w2 _ _)).trans n9
 have h4:w3.grownBy w4 none:=ae0
 have hg3:g=w3.heap.size:=by
  rcases ar9 with h|h
  ·cases h
  ·exact h
 have ao_:w2.heap.size<w3.heap.size:=by simpa using World.block_lt_of_cell? _ _ p1
 have ah8:w4.ownsRow 0 5 1 (.slice (some ⟨g,0,none⟩) (0+M) cap) (0+M) ([]++news):=by simpa using ap1
 rw[aaC] at ah8
 exact⟨rfl,w2.heap.size,g,cap,w4,hga.trans (h4.but _),hgw.size,by rw[hg3];exact aaV hgw.size (by omega),by omega,by have:=h4.size;omega,ah6.kept h4 (by simp),ah8,(h4.block _ ao_ (by simp)).trans p0,rfl⟩
def Xj(room:Int)(w:World)(h1:0<=room)(h2:room<=1073741824):
 Calls Tryz.prog 11 #[.int .i64 room] w λe w'=>e= .returned (.tuple #[.pointer (some ⟨w.heap.size+1,0,none⟩),.int .i64 0])/\w'=(w.alloc (.map #[] 0)).alloc (.cells #[.int .i64 room,.map (some w.heap.size),.bool false,.int .i64 0] 92):=by
 have o8:=@run_makeMap Tryz.prog
 go_enter Tryz.func11,Tryz.ntmps11
 go_wp2
 go_ret2
 exact⟨rfl,rfl⟩
open Go.Sym Go.Maps
noncomputable section
structure PkE where
 nm:ByteArray
 f:Nat
 bk:Option Nat
 n:Nat
def PkE.ent(x:PkE):Lit×DataW Unit:=(.string x.nm.data.toList,.lit (.int .i64 x.f))
def PkE.row(x:PkE):G:=.node [.str (bytesOf x.nm),.int x.n]
def PkE.own(x:PkE):List Nat:=x.f::x.bk.toList
def PkFile(w:World)(x:PkE):Prop:=∃v xs lt,w.heap[x.f]? =some (.cells #[v,.int .u32 lt] 234)/\w.ownsRow 0 5 1 v x.n xs/\v.ownBlock=x.bk
def eK:List G->Nat
 | []=>0
 |r::l=>(gI (aa r 1)).toNat+eK l
def iq(nm:List Nat)(l:List G):Prop:=∃r∈l,gS (aa r 0)=nm
open Classical in
def fV(nm:List Nat)(n:Nat):List G->List G
 | []=>[.node [.str nm,.int n]]
 |r::l=>if gS (aa r 0)=nm then .node [.str nm,.int ((gI (aa r 1)).toNat+n:Nat)]::l else r::fV nm n l
def qJ{nm:List Nat}{n:Nat}{r:G}{l:List G}(h:gS (aa r 0)=nm):fV nm n (r::l)= .node [.str nm,.int ((gI (aa r 1)).toNat+n:Nat)]::l:=if_pos h
def ob{nm:List Nat}{n:Nat}{r:G}{l:List G}(h:¬gS (aa r 0)=nm):fV nm n (r::l)=r::fV nm n l:=if_neg h
def pZ(room:Int)(rows:List G)(d:Nat)(fp:List Nat)(w:World):Prop:=
 ∃(m:Nat) (lf:Int) (L:List PkE) (es:List (Lit×DataW Unit)),w.heap[d]? =some (.cells #[.int .i64 room,.map (some m),.bool false,.int .i64 lf] 92)/\w.ownsMap Tryz.prog 9 jD m L.length (.map es)/\
  es.Perm (L.map PkE.ent)/\rows=L.map PkE.row/\(∀x∈L,PkFile w x)/\fp=m::L.flatMap PkE.own/\(d::fp).Nodup/\eK rows<=1073741824/\(L= []->w.heap[m]? =some (.map #[] 0))
def eI{w w':World}{m n:Nat}{D:DataW Unit}(h:w.ownsMap Tryz.prog 9 jD m n D)(hk:w'.heap[m]? =w.heap[m]?):w'.ownsMap Tryz.prog 9 jD m n D:=by obtain⟨es,c,hb,r⟩:=h;exact⟨es,c,hk.trans hb,r⟩
def PkFile.keep{w w':World}{x:PkE}(h:PkFile w x)(hk:∀k∈x.own,w'.heap[k]? =w.heap[k]?):PkFile w' x:=by
 obtain⟨v,xs,lt,h1,h2,h3⟩:=h;refine⟨v,xs,lt,(hk _ aaB).trans h1,⟨h2.1, ?_⟩,h3⟩;rcases h2.2 with hn|⟨g,cap,rE,rfl,hb,hg,rest⟩
 ·exact .inl hn
 ·refine .inr ⟨g,cap,rE,rfl,hb,(hk g ?_).trans hg,rest⟩;have p7:x.bk=some g:=by rw[←h3];rfl
  exact aay _ (by rw[p7];exact List.mem_singleton.2 rfl)
def lg(room:Int)(l:List G):qR (pZ room l):=λd fp w w' hk h=>by
 obtain⟨m,lf,L,es,h1,h2,h3,h4,h5,h6,h7,h8,h9⟩:=h;have hm:m∈d::fp:=by rw[h6];exact aay _ aaB
 refine⟨m,lf,L,es,(hk d aaB).trans h1,eI h2 (hk m hm),h3,h4,λx hx=>(h5 x hx).keep λk hkx=>hk k ?_,h6,h7,h8,λhL=>(hk m hm).trans (h9 hL)⟩;rw[h6];exact aay _ (aay _ (List.mem_flatMap.2 ⟨x,hx,hkx⟩))
def ir(w:World)(b o:Nat)(v:Value):w.grownBy (w.setCell ⟨b,o,none⟩ v) (some b):=
 ⟨rfl,rfl,rfl,by simp,λk _ hk=>heap_setCell_other w _ k v (λe=>hk (by rw[e]))⟩
def OV{a s:ByteArray}:(Lit.string a.data.toList= .string s.data.toList)↔a=s:=by
 constructor
 ·intro h;injection h with h;exact ByteArray.ext (Array.toList_inj.1 h)
 ·rintro rfl;rfl
def GZ{L:List PkE}{s:ByteArray}:iq (bytesOf s) (L.map PkE.row)↔∃x∈L,x.nm=s:=by
 constructor
 ·rintro⟨r,hr,e⟩;obtain⟨x,hx,rfl⟩:=List.mem_map.1 hr;exact⟨x,hx,gH e⟩
 ·rintro⟨x,hx,rfl⟩;exact⟨x.row,abJ hx,rfl⟩
def Xk{L:List PkE}{s:ByteArray}{n:Nat}(h:∀x∈L,x.nm≠s):fV (bytesOf s) n (L.map PkE.row)=L.map PkE.row++ [.node [.str (bytesOf s),.int n]]:=by
 induction L with
 |nil=>rfl
 |cons x L ih=>show fV _ _ (x.row::L.map PkE.row)=_;rw[ob (r:=x.row) (λe=>h x aaB (gH e)),ih λy hy=>h y (aay _ hy)];rfl
def Xl{A B:List PkE}{x:PkE}{n:Nat}(h:∀y∈A,y.nm≠x.nm)(g:Option Nat):fV (bytesOf x.nm) n ((A++x::B).map PkE.row)=(A++{x with bk:=g,n:=x.n+n}::B).map PkE.row:=by
 induction A with
 |nil=>show fV _ _ (x.row::B.map PkE.row)=_;rw[qJ (nm:=bytesOf x.nm) (r:=x.row) rfl];rfl
 |cons y A ih=>show fV _ _ (y.row::(A++x::B).map PkE.row)=_;rw[ob (r:=y.row) (λe=>h y aaB (gH e)),ih λz hz=>h z (aay _ hz)];rfl
def Bx(nm:List Nat)(n:Nat):∀l,eK (fV nm n l)=eK l+n
 | []=>by show((n:Int)).toNat+0=0+n;omega
 |r::l=>by
  by_cases he:gS (aa r 0)=nm
  ·rw[qJ he];show(((gI (aa r 1)).toNat+n:Nat):Int).toNat+eK l=((gI (aa r 1)).toNat+eK l)+n;omega
  ·rw[ob he];show(gI (aa r 1)).toNat+eK (fV nm n l)=((gI (aa r 1)).toNat+eK l)+n;rw[Bx nm n l];omega
def qK(nm:List Nat)(n:Nat):∀l,(fV nm n l).length<=l.length+1
 | []=>aao _
 |r::l=>by
  by_cases he:gS (aa r 0)=nm
  ·rw[qJ he];simp
  ·rw[ob he];have:=qK nm n l;simp;omega
def qL(nm:List Nat)(n:Nat):∀l,iq nm (fV nm n l)/\∀r∈fV nm n l,gS (aa r 0)=nm∨∃r'∈l,gS (aa r' 0)=gS (aa r 0)
 | []=>⟨⟨_,List.mem_singleton.2 rfl,rfl⟩,λr hr=>.inl (by rw[List.mem_singleton.1 hr];rfl)⟩
 |r::l=>by
  obtain⟨⟨q,q1,q2⟩,q3⟩:=qL nm n l;by_cases he:gS (aa r 0)=nm
  ·rw[qJ he];refine⟨⟨_,aaB,rfl⟩,λx hx=>?_⟩;rcases List.mem_cons.1 hx with rfl|hx
   ·exact .inl rfl
   ·exact .inr ⟨x,aay _ hx,rfl⟩
  ·rw[ob he];refine⟨⟨q,aay _ q1,q2⟩,λx hx=>?_⟩;rcases List.mem_cons.1 hx with rfl|hx
   ·exact .inr ⟨x,aaB,rfl⟩
   ·rcases q3 x hx with h|⟨r',h1,h2⟩
    ·exact .inl h
    ·exact .inr ⟨r',aay _ h1,h2⟩
def x_{L:List PkE}{x:PkE}(h:x∈L):x.n<=eK (L.map PkE.row):=by
 induction L with
 |nil=>cases h
 |cons y L ih=>
  show _<=(gI (aa y.row 1)).toNat+eK (L.map PkE.row);rcases List.mem_cons.1 h with rfl|h
  ·show _<=((x.n:Int)).toNat+_;omega
  ·have:=ih h;omega
def SF{L:List PkE}(s:ByteArray):(∃A x B,L=A++x::B/\x.nm=s/\∀y∈A,y.nm≠s)∨∀y∈L,y.nm≠s:=by
 induction L with
 |nil=>exact .inr λy h=>absurd h aa5
 |cons y L ih=>
  by_cases e:y.nm=s
  ·exact .inl ⟨[],y,L,rfl,e,λz h=>absurd h aa5⟩
  ·rcases ih with⟨A,x,B,rfl,h1,h2⟩|h
   ·refine .inl ⟨y::A,x,B,rfl,h1,λz hz=>?_⟩;rcases List.mem_cons.1 hz with rfl|hz
    ·exact e
    ·exact h2 z hz
   ·refine .inr λz hz=>?_;rcases List.mem_cons.1 hz with rfl|hz
    ·exact e
    ·exact h z hz
def By{m n:Nat}{es:List (Lit×DataW Unit)}{L:List PkE}{w:World}(d4:w.ownsMap Tryz.prog 9 jD m n (.map es))(hp:es.Perm (L.map PkE.ent))(s:ByteArray)(hs:s.size<=maxLen):
 (∃A x B,L=A++x::B/\x.nm=s/\(∀y∈A,y.nm≠s)/\∀W:World,W.heap[m]? =w.heap[m]? ->(Instr.lookup 90 (.map (some m)) (.string s) false).run Tryz.prog W= .ok (.pointer (some ⟨x.f,0,none⟩)) W)∨
 ((∀y∈L,y.nm≠s)/\∀W:World,W.heap[m]? =w.heap[m]? ->(Instr.lookup 90 (.map (some m)) (.string s) false).run Tryz.prog W= .ok (.pointer none) W):=by
 obtain⟨o7,he,hap,_⟩:=d4.entries pn
 injection he with he;subst he
 rcases SF (L:=L) s with⟨A,x,B,e1,e2,e3⟩|h
 ·refine .inl ⟨A,x,B,e1,e2,e3,λW hW=>?_⟩;have hx:x.ent∈es:=hp.symm.mem_iff.1 (abJ (by rw[e1];simp));have hk:x.ent.1= .string s.data.toList:=by rw[←e2];rfl
  have uniq:∀p∈es,p.1=x.ent.1->p=x.ent:=λp hp' e=>by have:=entry_key_one hap hp' hx e;exact this
  rcases xZ (eI d4 hW) s hs with⟨b,hm,hr⟩|⟨hn,_⟩
  ·have:=uniq _ hm hk.symm;have e:b=x.f:=by have h2:=congrArg Prod.snd this;have h2:(DataW.lit (Lit.int .i64 (b:Int)):DataW Unit)= .lit (.int .i64 x.f):=h2;injection h2 with h2;injection h2 with _ h2;omega
   rw[hr,e]
  ·exact absurd hk (hn _ hx)
 ·refine .inr ⟨h,λW hW=>?_⟩;rcases xZ (eI d4 hW) s hs with⟨b,hm,hr⟩|⟨_,hr⟩
  ·obtain⟨y,hy,e⟩:=List.mem_map.1 (hp.mem_iff.1 hm);exact absurd (OV.1 (congrArg Prod.fst e)) (h y hy)
  ·exact hr
where
 entry_key_one:∀{l:List (Lit×DataW Unit)},l.Pairwise (λp q=>p.1≠q.1)->∀{p q:Lit×DataW Unit},p∈l->q∈l->p.1=q.1->p=q
  | [],_,_,_,h,_,_=>absurd h aa5
  |a::l,hp,p,q,h1,h2,e=>by
   obtain⟨q1,q2⟩:=List.pairwise_cons.1 hp;rcases List.mem_cons.1 h1 with r1|r1
   ·rcases List.mem_cons.1 h2 with r2|r2
    ·rw[r1,r2]
    ·subst r1;exact absurd e (q1 _ r2)
   ·rcases List.mem_cons.1 h2 with r2|r2
    ·subst r2;exact absurd e.symm (q1 _ r1)
    ·exact entry_key_one q2 r1 r2 e
def ya{w:World}{x:PkE}(h:PkFile w x):∃a cap v xs lt,w.heap[x.f]? =some (.cells #[v,.int .u32 lt] 234)/\v= .slice a x.n cap/\w.ownsRow 0 5 1 v x.n xs/\v.ownBlock=x.bk:=by
 obtain⟨v,xs,lt,h1,h2,h3⟩:=h;rcases h2.2 with⟨hv,hn⟩|⟨g,cap,rE,hv,_⟩
 ·exact⟨none,0,v,xs,lt,h1,by rw[hv,hn],h2,h3⟩
 ·exact⟨_,cap,v,xs,lt,h1,hv,h2,h3⟩
def OW{w:World}{x:PkE}(h:PkFile w x)(hn:x.n<4294967296):PkF w x.f x.n:=by obtain⟨a,cap,v,xs,lt,h1,rfl,_⟩:=ya h;exact⟨⟨a,cap,by rw[cell_of_row _ _ _ _ _ _ h1];rfl⟩,⟨lt,by rw[cell_of_row _ _ _ _ _ _ h1];rfl⟩,hn⟩
def OX{w:World}{x:PkE}(h:PkFile w x):UQ w x.ent.2=x.n:=by
 obtain⟨a,cap,v,xs,lt,h1,rfl,_⟩:=ya h;have hc:w.cell? ⟨x.f,0,none⟩=some (.slice a x.n cap):=by rw[cell_of_row _ _ _ _ _ _ h1];rfl
 show(match w.cell? ⟨((x.f:Nat):Int).toNat,0,none⟩ with|some (.slice _ l _)=>l|_=>0)=_;rw[aaE,hc]
def OY{w:World}{L:List PkE}{es:List (Lit×DataW Unit)}(hp:es.Perm (L.map PkE.ent))(h:∀x∈L,PkFile w x):dk (UQ w) es=eK (L.map PkE.row):=by
 unfold dk
 rw[(hp.map _).sum_nat]
 clear hp
 induction L with
 |nil=>rfl
 |cons x L ih=>show UQ w x.ent.2+_=(gI (aa x.row 1)).toNat+eK (L.map PkE.row);rw[OX (h x aaB), ←ih λy hy=>h y (aay _ hy)];show _=((x.n:Int)).toNat+_;rw[aaE];rfl
def lw:Int:=4194304
def DA:List BSh:=[.obj 1 (pZ lw) 20]
def OZ:FSpec:=⟨[.c (.i .i64 1)],[],λz=>z.i 1=4194304,λ_=>.tu [.c (.p 0),.c (.i .i64 30)],λ_=>DA,λz y=>y.g 20= []/\y.i 30=0,none⟩
def DB:FSpec:=⟨[.c (.p 0),.c (.s 5)],DA,λz=>¬iq (z.s 5) (z.g 20)/\(z.s 5).length<=64,λ_=>.tu [.c .o,.c (.i .i64 30)],λ_=>DA,λz y=>y.g 20=z.g 20/\y.i 30=7,none⟩
def DC:FSpec:=⟨[.c (.p 0),.c (.s 5)],DA,λz=>iq (z.s 5) (z.g 20)/\(1<=(z.s 5).length/\(z.s 5).length<=64),λ_=>.one (.c (.i .i64 30)),λ_=>DA,λz y=>y.g 20=z.g 20/\y.i 30=0,none⟩
def tA:FSpec:=⟨[.c (.p 0),.c (.s 5),.c (.vb 6)],DA,λz=>(1<=(z.s 5).length/\(z.s 5).length<=64)/\1<=(z.s 6).length/\(eK (z.g 20):Int)+(z.s 6).length<=4194304/\(z.g 20).length<4000,λ_=>.one (.c (.i .i64 30)),λ_=>DA,λz y=>y.g 20=fV (z.s 5) (z.s 6).length (z.g 20)/\y.i 30=0,none⟩
def O0{ρ:Rho}{l:List Nat}{v:Value}(h:VR ρ (.sS l) v):∃s,bytesOf s=l/\v= .string s:=by cases h;exact⟨_,rfl,rfl⟩
def UT{ρ:Rho}{k:IntKind}{n:Int}{v:Value}(h:VR ρ (.sI k n) v):v= .int k n:=by cases h;rfl
def aaf{ρ:Rho}{l:List Nat}{v:Value}(h:VR ρ (.cv (.bytes l)) v)(hl:1<=l.length):
 ∃b off cp arr ty,v= .slice (some ⟨b,off,none⟩) l.length cp/\ρ.frz b=some (arr,ty)/\off+l.length<=arr.size/\∀i,i<l.length->∃n,arr[off+i]? =some (.int .u8 n):=by
 generalize hc:Ct.bytes l=c at h
 cases h with
 |cv c b off cp arr ty hf hcp hb r=>
  subst hc
  refine⟨b,off,cp,arr,ty,rfl,hf,by simpa [Ct.len,Ct.es] using hb,λi hi=>?_⟩
  have c8:off+i<arr.size:=by have:off+l.length * 1<=arr.size:=hb;omega
  have h1:arr[off+i]? =some arr[off+i]:=aa0 c8
  have:=r i 0 _ arr[off+i] hi (show((Ct.bytes l).row i)[0]? =some (.sI .u8 ((l.getD i 0:Nat):Int)) from rfl) (by rw[show off+i * (Ct.bytes l).es+0=off+i by show off+i * 1+0=_;omega];exact h1)
  exact⟨_,by rw[h1,UT this]⟩
 |cvnil c h=>subst hc;have h:l.length=0:=h;omega
 |cvempty c a h=>subst hc;have h:l.length=0:=h;omega
def SG{w:World}{b off n:Nat}{arr:Array Value}{ty:TypeId}{fr:Nat×Nat}(hb:w.heap[b]? =some (.cells arr ty fr))(hn:off+n<=arr.size)(h:∀i,i<n->∃k,arr[off+i]? =some (.int .u8 k)):
 ∃news:List Value,news.length=n/\(∀j u,news[j]? =some u->w.cell? ((⟨b,off,none⟩:Addr).add j)=some u)/\∀u∈news,u.oneCell'=true:=by
 have key:∀j u,((arr.toList.drop off).take n)[j]? =some u->j<n/\arr[off+j]? =some u:=λj u hj=>by
  rw[abd] at hj;split at hj
  ·rename_i c8;rw[aaH] at hj;exact⟨c8,by simpa using hj⟩
  ·cases hj
 refine⟨(arr.toList.drop off).take n,by simp;omega,λj u hj=>?_,λu hu=>?_⟩
 ·obtain⟨_,h2⟩:=key j u hj;rw[Addr.add_lit,cell_of_row _ _ _ _ _ _ hb];exact h2
 ·obtain⟨j,hj⟩:=List.getElem?_of_mem hu;obtain⟨h1,h2⟩:=key j u hj;obtain⟨k,hk⟩:=h j h1;rw[hk] at h2;injection h2 with h2;subst h2;rfl
def iZ{A B:List PkE}{x:PkE}:(A++x::B).flatMap PkE.own=A.flatMap PkE.own++(x.own++B.flatMap PkE.own):=by simp
def kP(d m:Nat)(A B:List PkE)(o:List Nat):(d::m::(A.flatMap PkE.own++(o++B.flatMap PkE.own))).Perm (o++(d::m::(A.flatMap PkE.own++B.flatMap PkE.own))):=
 List.perm_append_comm_assoc (d::m::A.flatMap PkE.own) o (B.flatMap PkE.own)
def tB{d:Nat}{room lf:Int}{m:Nat}{w:World}(h:w.heap[d]? =some (.cells #[.int .i64 room,.map (some m),.bool false,.int .i64 lf] 92)):
 w.cell? ⟨d,0,none⟩=some (.int .i64 room)/\w.cell? ⟨d,1,none⟩=some (.map (some m))/\w.cell? ⟨d,2,none⟩=some (.bool false):=by
 refine⟨?_, ?_, ?_⟩ <;> (rw[cell_of_row _ _ _ _ _ _ h];rfl)
def DD{s:ByteArray}{n:Nat}(h:(bytesOf s).length<=n):s.size<=n:=by rw[bW] at h;exact h
def SH:Ok Tryz.prog 65 DB:=by
 refine QH (k:=1) (C:=pZ lw) (S:=DB) (al:=[.c (.s 5)]) (lg lw) (λz=>z.g 20) (λ_=>.tup [.nils,.sI .i64 7]) (λz=>[(20,.g (z.g 20)),(30,.i 7)]) rfl rfl rfl (λz h=>⟨rfl,rfl⟩) (λz=>⟨_,rfl,⟨rfl,trivial⟩,rfl⟩) (λargs w=>Tryz.call65 args w) ?_;rintro z ⟨j5,hlen⟩ w ρ d fp vs hfz c8 o6 ⟨m,lf,L,es,h1,h2,h3,h4,h5,h6,h7,h8,h9⟩;obtain⟨v,m7,rfl,hv,hn⟩:=LR.cons_inv (show LR ρ [.sS (z.s 5)] vs from o6);obtain rfl:=LR.nil_inv hn;obtain⟨s,hs,rfl⟩:=O0 hv;obtain⟨_,c1,_⟩:=tB h1;refine(SD d m _ es s w c1 h2 (by have:=DD (s:=s) (n:=64) (by rw[hs];exact hlen);unfold maxLen;omega) (λp hp e=>j5 ?_)).mono ?_
 ·rw[←hs,h4];obtain⟨x,hx,rfl⟩:=List.mem_map.1 (h3.mem_iff.1 hp);exact GZ.2 ⟨x,hx,OV.1 e⟩
 ·rintro e w' ⟨rfl,rfl⟩;refine⟨_,fp,rfl,⟨m,lf,L,es,h1,h2,h3,h4,h5,h6,h7,h8,h9⟩,⟨rfl,rfl,rfl,aao _,λ_ _ _=>rfl,λx hx=>.inl hx⟩,λρ'=>.tup _ _ rfl ?_⟩;exact(LR.arr (cs:= #[.slice none 0 0,.int .i64 7]) (LR.cons .nils (LR.cons (.sI .i64 7) (LR.nil _)))).2
def SJ:Ok Tryz.prog 68 DC:=by
 refine QH (k:=1) (C:=pZ lw) (S:=DC) (al:=[.c (.s 5)]) (lg lw) (λz=>z.g 20) (λ_=>.sI .i64 0) (λz=>[(20,.g (z.g 20)),(30,.i 0)]) rfl rfl rfl (λz h=>⟨rfl,rfl⟩) (λz=>⟨_,rfl,⟨rfl,trivial⟩,rfl⟩) (λargs w=>Tryz.call68 args w) ?_;rintro z ⟨his,hl1,hl2⟩ w ρ d fp vs hfz c8 o6 ⟨m,lf,L,es,h1,h2,h3,h4,h5,h6,h7,h8,h9⟩;obtain⟨v,m7,rfl,hv,hn⟩:=LR.cons_inv (show LR ρ [.sS (z.s 5)] vs from o6);obtain rfl:=LR.nil_inv hn;obtain⟨s,hs,rfl⟩:=O0 hv;obtain⟨_,c1,c2⟩:=tB h1;have w8:1<=s.size:=by rw[←bW,hs];exact hl1
 have hs2:s.size<=64:=DD (by rw[hs];exact hl2);rcases By h2 h3 s (by unfold maxLen;omega) with⟨A,x,B,e1,e2,e3,b9⟩|⟨j5,_⟩
 ·have hx:x∈L:=by rw[e1];simp
  have hxn:x.n<=1073741824:=aaV (x_ hx) (by rw[←h4];exact h8);obtain⟨a,cap,v,xs,lt,q1,q2,q3,q4⟩:=ya (h5 x hx);have hfm:x.f∈d::fp:=by rw[h6];exact aay _ (aay _ (List.mem_flatMap.2 ⟨x,hx,aaB⟩))
  have o8:m∈d::fp:=by rw[h6];exact aay _ aaB
  refine(SE d m L.length x.f x.n s w c1 c2 w8 hs2 b9 (c8 m o8) (OW (h5 x hx) (by omega)) (frozen_of_row _ _ _ _ _ q1)).mono ?_;rintro e w' ⟨rfl,rfl⟩;have hold:∀k,k<w.heap.size->k≠x.f->((w.alloc (.cells #[.string s] 9)).setCell ⟨x.f,1,none⟩ (.int .u32 x.n)).heap[k]? =w.heap[k]? :=λk hk i5=>by rw[heap_setCell_other _ _ _ _ i5];exact heap_alloc_old w _ hk
  have hxf:((w.alloc (.cells #[.string s] 9)).setCell ⟨x.f,1,none⟩ (.int .u32 x.n)).heap[x.f]? =some (.cells #[v,.int .u32 x.n] 234):=
   heap_setCell_same _ _ _ #[v,.int .u32 lt] _ _ ((heap_alloc_old w _ (c8 _ hfm)).trans q1)
  have hnd:∀k∈d::fp,k<w.heap.size:=c8;have hP:(d::m::(A.flatMap PkE.own++(x.own++B.flatMap PkE.own))).Nodup:=by rw[←iZ, ←e1, ←h6];exact h7
  have hP:=((kP d m A B x.own).nodup_iff).1 hP;have i5:∀k,k∈x.bk.toList∨k∈(d::m::(A.flatMap PkE.own++B.flatMap PkE.own))->k≠x.f:=λk hk e=>by have:=(List.nodup_cons.1 (show(x.f::(x.bk.toList++(d::m::(A.flatMap PkE.own++B.flatMap PkE.own)))).Nodup from hP)).1;rw[←e] at this;exact this (List.mem_append.2 hk)
  have u5:∀k,k∈(d::m::(A.flatMap PkE.own++B.flatMap PkE.own))->k∈d::fp:=λk hk=>by rw[h6,e1,iZ];have:=((kP d m A B x.own).mem_iff (a:=k)).2 (abF _ hk);exact this
  have hA:∀y,y∈A∨y∈B->∀k∈y.own,k∈(d::m::(A.flatMap PkE.own++B.flatMap PkE.own)):=λy hy k hk=>by
   refine aay _ (aay _ (List.mem_append.2 ?_));rcases hy with hy|hy
   ·exact .inl (List.mem_flatMap.2 ⟨y,hy,hk⟩)
   ·exact .inr (List.mem_flatMap.2 ⟨y,hy,hk⟩)
  refine⟨_,fp,rfl,⟨m,lf,L,es, ?_, ?_,h3,h4,λy hy=>?_,h6,h7,h8,λhL=>absurd hx (by rw[hL];exact aa5)⟩,⟨rfl,rfl,rfl,by simp,λk hk j5=>hold k hk (λe=>j5 (e▸hfm)),λx hx=>.inl hx⟩,λρ'=>.sI .i64 0⟩
  ·exact(hold d (c8 d aaB) (i5 d (.inr aaB))).trans h1
  ·exact eI h2 (hold m (c8 m o8) (i5 m (.inr (aay _ aaB))))
  ·have hy':y∈A∨y=x∨y∈B:=by rw[e1] at hy;simpa using hy
   rcases hy' with hy'|rfl|hy'
   ·exact(h5 y hy).keep λk hk=>hold k (c8 k (u5 k (hA y (.inl hy') k hk))) (i5 k (.inr (hA y (.inl hy') k hk)))
   ·refine⟨v,xs,_,hxf,⟨q3.1, ?_⟩,q4⟩;rcases q3.2 with hn|⟨g,cp,rE,rfl,hb,hg,rest⟩
    ·exact .inl hn
    ·have p7:y.bk=some g:=by rw[←q4];rfl
     have hgm:g∈d::fp:=by rw[h6];exact aay _ (aay _ (List.mem_flatMap.2 ⟨y,hx,aay _ (by rw[p7];exact List.mem_singleton.2 rfl)⟩))
     exact .inr ⟨g,cp,rE,rfl,hb,(hold g (c8 g hgm) (i5 g (.inl (by rw[p7];exact List.mem_singleton.2 rfl)))).trans hg,rest⟩
   ·exact(h5 y hy).keep λk hk=>hold k (c8 k (u5 k (hA y (.inr hy') k hk))) (i5 k (.inr (hA y (.inr hy') k hk)))
 ·rw[←hs,h4] at his;obtain⟨x,hx,e⟩:=GZ.1 his;exact absurd e (j5 x hx)
def pR(x:Lit×DataW Unit):∀l:List (Lit×DataW Unit),(DataW.insert x l).Perm (x::l)
 | []=>.refl _
 |y::l=>by
  unfold DataW.insert;split
  ·exact .refl _
  ·exact((pR x l).cons y).trans (.swap _ _ _)
def Jm:Ok Tryz.prog 119 tA:=by
 refine QH (k:=1) (C:=pZ lw) (S:=tA) (al:=[.c (.s 5),.c (.vb 6)]) (lg lw) (λz=>fV (z.s 5) (z.s 6).length (z.g 20)) (λ_=>.sI .i64 0) (λz=>[(20,.g (fV (z.s 5) (z.s 6).length (z.g 20))),(30,.i 0)]) rfl rfl rfl (λz h=>⟨rfl,rfl⟩) (λz=>⟨_,rfl,⟨rfl,trivial⟩,rfl⟩) (λargs w=>Tryz.call119 args w) ?_;rintro z ⟨⟨hl1,hl2⟩,hb1,T',ak3⟩ w ρ d fp vs hfz c8 o6 ⟨m,lf,L,es,h1,h2,h3,h4,h5,h6,h7,h8,h9⟩;obtain⟨v1,m7,rfl,PO,hn⟩:=LR.cons_inv (show LR ρ [.sS (z.s 5),.cv (.bytes (z.s 6))] vs from o6);obtain⟨v2,m7,rfl,Ya,hn⟩:=LR.cons_inv hn;obtain rfl:=LR.nil_inv hn;obtain⟨s,hs,rfl⟩:=O0 PO;obtain⟨bb,off,cp,arr,ty,rfl,hf,p8,af4⟩:=aaf Ya hb1;obtain⟨hbn,fr,hbb⟩:=hfz _ _ hf;obtain⟨news,n1,n2,n3⟩:=SG hbb p8 af4;obtain⟨c0,c1,c2⟩:=tB h1;have w8:1<=s.size:=by rw[←bW,hs];exact hl1
 have hs2:s.size<=64:=DD (by rw[hs];exact hl2);have hU:dk (UQ w) es=eK (z.g 20):=by rw[OY h3 h5,h4]
 have as8:L.length=(z.g 20).length:=by rw[h4,aaZ]
 have hlen:es.length=L.length:=by rw[h3.length_eq,aaZ]
 have hfl:∀p∈es,∀b:Nat,p.2= .lit (.int .i64 b)->PkF w b (UQ w p.2):=λp hp b hb=>by
  obtain⟨x,hx,rfl⟩:=List.mem_map.1 (h3.mem_iff.1 hp);rw[OX (h5 x hx)];have:(DataW.lit (Lit.int .i64 (x.f:Int)):DataW Unit)= .lit (.int .i64 b):=hb;injection this with this;injection this with _ this;have e:x.f=b:=by omega
  subst e;exact OW (h5 x hx) (by have:=x_ hx;rw[←h4] at this;omega)
 have ac5:(dk (UQ w) es:Int)+(z.s 6).length<=lw:=by rw[hU];exact T'
 have o8:m∈d::fp:=by rw[h6];exact aay _ aaB
 have ah9:∀k,k∈d::fp↔k=d∨k=m∨∃x∈L,k∈x.own:=λk=>by rw[h6,List.mem_cons,List.mem_cons,List.mem_flatMap]
 have ad1:eK (fV (z.s 5) (z.s 6).length (z.g 20))<=1073741824:=by rw[Bx];omega
 rcases By h2 h3 s (by unfold maxLen;omega) with⟨A,x,B,e1,e2,e3,b9⟩|⟨j5,b9⟩
 ·have hx:x∈L:=by rw[e1];simp
  obtain⟨a,cap,v,xs,lt,q1,q2,q3,q4⟩:=ya (h5 x hx);have hxn:x.n+(z.s 6).length<=1073741824:=by have:=x_ hx;rw[←h4] at this;omega
  have hP:(d::m::(A.flatMap PkE.own++(x.own++B.flatMap PkE.own))).Nodup:=by rw[←iZ, ←e1, ←h6];exact h7
  have hP:=((kP d m A B x.own).nodup_iff).1 hP;obtain⟨hQ1,hQ2⟩:=List.nodup_cons.1 (show(x.f::(x.bk.toList++(d::m::(A.flatMap PkE.own++B.flatMap PkE.own)))).Nodup from hP);have hbk:∀k,k∈(d::m::(A.flatMap PkE.own++B.flatMap PkE.own))->v.ownBlock≠some k:=λk hk e=>by rw[q4] at e;have:=(List.nodup_append.1 hQ2).2.2;exact this k (by rw[e];exact List.mem_singleton.2 rfl) k hk rfl
  have i5:∀k,k∈(d::m::(A.flatMap PkE.own++B.flatMap PkE.own))->k≠x.f:=λk hk e=>hQ1 (e▸abF _ hk);have hvb:v.ownBlock≠some x.f:=λe=>hQ1 (abE _ (by rw[←q4,e];exact List.mem_singleton.2 rfl));have u5:∀k,k∈(d::m::(A.flatMap PkE.own++B.flatMap PkE.own))->k∈d::fp:=λk hk=>by rw[h6,e1,iZ];exact((kP d m A B x.own).mem_iff (a:=k)).2 (abF _ hk)
  have hA:∀y,y∈A∨y∈B->∀k∈y.own,k∈(d::m::(A.flatMap PkE.own++B.flatMap PkE.own)):=λy hy k hk=>by
   refine aay _ (aay _ (List.mem_append.2 ?_));rcases hy with hy|hy
   ·exact .inl (List.mem_flatMap.2 ⟨y,hy,hk⟩)
   ·exact .inr (List.mem_flatMap.2 ⟨y,hy,hk⟩)
  have hfm:x.f∈d::fp:=(ah9 _).2 (.inr (.inr ⟨x,hx,aaB⟩));refine(tZ d m L.length x.f x.n (z.s 6).length cp lw es (UQ w) s v xs news ⟨bb,off,none⟩ w c0 c1 c2 w8 hs2 h2 hfl ac5 (by decide) b9 (by rw[cell_of_row _ _ _ _ _ _ q1];rfl) (frozen_of_row _ _ _ _ _ q1) q3 hvb (hbk d aaB) (λe=>i5 d aaB e.symm) hxn n1 hb1 n2 n3).mono ?_;rintro e w' ⟨rfl,g,ag4,w1,hg,ag0,ad8,rfl⟩;have hold:∀k,k<w.heap.size->v.ownBlock≠some k->k≠x.f->(w1.setCell ⟨x.f,0,none⟩ (.slice (some ⟨g,0,none⟩) (x.n+(z.s 6).length) ag4)).heap[k]? =w.heap[k]? :=λk hk hn2 ar_=>by rw[heap_setCell_other _ _ _ _ ar_];exact hg.block k hk (λe=>hn2 e.symm)
  have u7:∀k,k∈(d::m::(A.flatMap PkE.own++B.flatMap PkE.own))->(w1.setCell ⟨x.f,0,none⟩ (.slice (some ⟨g,0,none⟩) (x.n+(z.s 6).length) ag4)).heap[k]? =w.heap[k]? :=λk hk=>hold k (c8 k (u5 k hk)) (hbk k hk) (i5 k hk);have al8:g<w1.heap.size:=by obtain⟨g',_,B',_,l3⟩:=ag0.form (by omega);injection B' with B';injection B' with B';injection B' with B';rw[B'];exact l3
  have hgx:g≠x.f:=λe=>by
   rcases ad8 with h|h
   ·exact hvb (e▸h)
   ·have:=c8 _ hfm;omega
  have hgk:∀k,k∈(d::m::(A.flatMap PkE.own++B.flatMap PkE.own))->g≠k:=λk hk e=>by
   rcases ad8 with h|h
   ·exact hbk k hk (e▸h)
   ·have:=c8 _ (u5 k hk);omega
  have hL':∀y,y∈A++{x with bk:=some g,n:=x.n+(z.s 6).length}::B↔y∈A∨y={x with bk:=some g,n:=x.n+(z.s 6).length}∨y∈B:=λy=>by simp
  refine⟨_,m::(A++{x with bk:=some g,n:=x.n+(z.s 6).length}::B).flatMap PkE.own,rfl,⟨m,lf,A++{x with bk:=some g,n:=x.n+(z.s 6).length}::B,es, ?_, ?_, ?_, ?_,λy hy=>?_,rfl, ?_,ad1,λhL=>absurd hL (by simp)⟩,⟨hg.os,hg.tape,hg.output,by simpa using hg.size,λk hk j5=>hold k hk (λe=>j5 ?_) (λe=>j5 (e▸hfm)),λk hk=>?_⟩,λρ'=>.sI .i64 0⟩
  ·exact(u7 d aaB).trans h1
  ·have:(A++{x with bk:=some g,n:=x.n+(z.s 6).length}::B).length=L.length:=by rw[e1];simp
   rw[this];exact eI h2 (u7 m (aay _ aaB))
  ·rw[e1] at h3;simpa [PkE.ent] using h3
  ·rw[h4,e1, ←hs, ←e2];exact Xl (λy hy=>by rw[e2];exact e3 y hy) _
  ·rcases(hL' y).1 hy with hy|rfl|hy
   ·exact(h5 y (by rw[e1];simp [hy])).keep λk hk=>u7 k (hA y (.inl hy) k hk)
   ·refine⟨.slice (some ⟨g,0,none⟩) (x.n+(z.s 6).length) ag4,xs++news,lt,heap_setCell_same w1 x.f 0 #[v,.int .u32 lt] _ _ ((hg.block x.f (c8 _ hfm) (λe=>hvb e.symm)).trans q1),ag0.kept (ir w1 x.f 0 _) (.inr (λe=>hgx (by injection e))),rfl⟩
   ·exact(h5 y (by rw[e1];simp [hy])).keep λk hk=>u7 k (hA y (.inr hy) k hk)
  ·have hp:=kP d m A B ({x with bk:=some g,n:=x.n+(z.s 6).length}:PkE).own;rw[iZ];refine hp.nodup_iff.2 (List.nodup_cons.2 ⟨λhm=>?_,List.nodup_cons.2 ⟨λhm=>hgk g hm rfl,(List.nodup_append.1 hQ2).2.1⟩⟩);rcases List.mem_cons.1 hm with h|h
   ·exact hgx h.symm
   ·exact i5 _ h rfl
  ·rw[q4] at e;exact(ah9 _).2 (.inr (.inr ⟨x,hx,aay _ (by rw[e];exact List.mem_singleton.2 rfl)⟩))
  ·rcases List.mem_cons.1 hk with rfl|hk
   ·rw[h6];exact .inl aaB
   ·obtain⟨y,hy,hky⟩:=List.mem_flatMap.1 hk;have qA:∀y∈L,∀k∈y.own,k∈fp:=λy hy k hk=>by rw[h6];exact aay _ (List.mem_flatMap.2 ⟨y,hy,hk⟩)
    rcases(hL' y).1 hy with hy|rfl|hy
    ·exact .inl (qA y (by rw[e1];simp [hy]) k hky)
    ·rcases List.mem_cons.1 hky with rfl|hky
     ·exact .inl (qA x hx _ aaB)
     ·obtain rfl:=List.mem_singleton.1 hky;rcases ad8 with h|h
      ·rw[q4] at h;exact .inl (qA x hx _ (aay _ (by rw[h];exact List.mem_singleton.2 rfl)))
      ·exact .inr ⟨h,by simpa using al8⟩
    ·exact .inl (qA y (by rw[e1];simp [hy]) k hky)
 ·refine(t_ d m L.length (z.s 6).length cp lw es (UQ w) s news ⟨bb,off,none⟩ w c0 c1 c2 w8 hs2 h2 hfl ac5 (by decide) b9 (by omega) (by omega) n1 hb1 n2 n3).mono ?_;rintro e w' ⟨rfl,b,g,ag4,w1,hg,hb,hgb,hbg,al6,ag0,aj6,ap2,rfl⟩;have al8:g<w1.heap.size:=by obtain⟨g',_,B',_,l3⟩:=aj6.form (by omega);injection B' with B';injection B' with B';injection B' with B';rw[B'];exact l3
  have u7:∀k,k<w.heap.size->k≠m->(w1.setCell ⟨b,0,none⟩ (.slice (some ⟨g,0,none⟩) (z.s 6).length ag4)).heap[k]? =w.heap[k]? :=λk hk i5=>by rw[heap_setCell_other _ _ _ _ (show k≠b by omega)];exact hg.block k hk (λe=>i5 (Option.some.inj e))
  obtain⟨hdm,hnd⟩:=List.nodup_cons.1 h7;have hdm:d≠m:=λe=>hdm (by rw[h6,e];exact aaB);rw[h6] at hnd;obtain⟨hm1,hnd⟩:=List.nodup_cons.1 hnd;have au1:∀k∈d::fp,k<w.heap.size:=c8;refine⟨_,m::(L++ [(⟨s,b,some g,(z.s 6).length⟩:PkE)]).flatMap PkE.own,rfl,⟨m,lf,L++ [(⟨s,b,some g,(z.s 6).length⟩:PkE)],DataW.insert (.string s.data.toList,.lit (.int .i64 b)) (es.filter λp=>!p.1.sameKey (.string s.data.toList)), ?_, ?_, ?_, ?_,λy hy=>?_,rfl, ?_,ad1,λhL=>absurd hL (by simp)⟩,⟨hg.os,hg.tape,hg.output,by simpa using hg.size,λk hk j5=>u7 k hk (λe=>j5 (e▸o8)),λk hk=>?_⟩,λρ'=>.sI .i64 0⟩
  ·exact(u7 d (c8 d aaB) hdm).trans h1
  ·have e:(L++ [(⟨s,b,some g,(z.s 6).length⟩:PkE)]).length=L.length+1:=by simp
   rw[e];exact ag0.kept (ir w1 b 0 _) (λe=>by have:=c8 m o8;have:=Option.some.inj e;omega)
  ·have as0:es.filter (λp=>!p.1.sameKey (.string s.data.toList))=es:=List.filter_eq_self.2 λp hp=>by obtain⟨x,hx,rfl⟩:=List.mem_map.1 (h3.mem_iff.1 hp);have:x.ent.1.sameKey (.string s.data.toList)=false:=Maps.sameKey_ne λe=>j5 x hx (OV.1 e);rw[this];rfl
   rw[as0,List.map_append];exact((pR _ _).trans (h3.cons _)).trans (List.perm_append_comm (l₁:=[(⟨s,b,some g,(z.s 6).length⟩:PkE).ent]))
  ·rw[h4, ←hs,Xk j5,List.map_append];rfl
  ·rcases List.mem_append.1 hy with hy|hy
   ·refine(h5 y hy).keep λk hk=>u7 k (c8 k ((ah9 k).2 (.inr (.inr ⟨y,hy,hk⟩)))) (λe=>hm1 (e▸List.mem_flatMap.2 ⟨y,hy,hk⟩))
   ·obtain rfl:=List.mem_singleton.1 hy;exact⟨.slice (some ⟨g,0,none⟩) (z.s 6).length ag4,news,0,heap_setCell_same w1 b 0 #[.slice none 0 0,.int .u32 0] _ _ ap2,aj6.kept (ir w1 b 0 _) (.inr (λe=>hbg (by injection e with e;exact e.symm))),rfl⟩
  ·have e:(d::m::(L++ [(⟨s,b,some g,(z.s 6).length⟩:PkE)]).flatMap PkE.own)=(d::fp)++ [b,g]:=by rw[h6];simp [PkE.own]
   rw[e];refine List.nodup_append.2 ⟨h7,by simp [hbg],λk hk k' hk'=>?_⟩;have:=c8 k hk;rcases List.mem_cons.1 hk' with rfl|hk'
   ·omega
   ·obtain rfl:=List.mem_singleton.1 hk';omega
  ·have e:m::(L++ [(⟨s,b,some g,(z.s 6).length⟩:PkE)]).flatMap PkE.own=fp++ [b,g]:=by rw[h6];simp [PkE.own]
   rw[e] at hk;rcases List.mem_append.1 hk with hk|hk
   ·exact .inl hk
   ·right;rw[World.size_setCell];rcases List.mem_cons.1 hk with rfl|hk
    ·exact⟨hb,al6⟩
    ·obtain rfl:=List.mem_singleton.1 hk;exact⟨hgb,al8⟩
def Xm:Ok Tryz.prog 11 OZ:=by
 refine YX (k:=1) (C:=pZ lw) (S:=OZ) (lg lw) (λz=>[]) (λ_=>.tup [.ptr (base+64) 0 0,.sI .i64 0]) (λz=>[(20,.g []),(30,.i 0)]) rfl rfl (λz h=>⟨rfl,rfl⟩) (λz=>⟨_,rfl,⟨rfl,trivial⟩,rfl⟩) (λargs w=>Tryz.call11 args w) ?_;rintro z hz w ρ vs o6;obtain⟨v1,m7,rfl,PO,hn⟩:=LR.cons_inv (show LR ρ [.sI .i64 (z.i 1)] vs from o6);obtain rfl:=LR.nil_inv hn;obtain rfl:=UT PO;have hz:z.i 1=4194304:=hz;rw[hz];refine(Xj 4194304 w (by decide) (by decide)).mono ?_;rintro e w' ⟨rfl,rfl⟩;have e1:((w.alloc (.map #[] 0)).alloc (.cells #[.int .i64 4194304,.map (some w.heap.size),.bool false,.int .i64 0] 92)).heap[w.heap.size+1]? =some (.cells #[.int .i64 4194304,.map (some w.heap.size),.bool false,.int .i64 0] 92):=by have:=heap_alloc_new (w.alloc (.map #[] 0)) (.cells #[.int .i64 4194304,.map (some w.heap.size),.bool false,.int .i64 0] 92);simpa using this
 refine⟨_,w.heap.size+1,[w.heap.size],rfl,⟨w.heap.size,0,[],[],e1,(World.ownsMap_made w _ _ _).alloc _,.refl _,rfl,λx h=>absurd h aa5,rfl,by simp,by simp [eK],λ_=>(heap_alloc_old _ _ (by simp)).trans (heap_alloc_new w _)⟩,((RowKit.Below.refl _ _).alloc (aao _) _).alloc (by simp) _,λx hx=>?_,λρ' hρ=>.tup _ _ rfl ?_⟩
 ·simp at hx⊢;omega
 ·exact(LR.arr (cs:= #[.pointer (some ⟨w.heap.size+1,0,none⟩),.int .i64 0]) (LR.cons (.ptr _ _ _ _ hρ (aao _)) (LR.cons (.sI .i64 0) (LR.nil _)))).2
def Bz{nm:List Nat}{l:List G}(h:iq nm l):∃r∈l,gS (aa r 0)=nm:=h
def yb:eK []=0:=rfl
attribute [irreducible] pZ eK iq fV
end
noncomputable section
def mH(l:List G):G:=@ite _ (l.length=0) (Classical.propDecidable _) hZ (hX (aa (aq l (((l.length:Nat):Int)-1).toNat) 0))
def G0{l:List G}(h:l.length=0):mH l=hZ:=if_pos h
def O1{l:List G}(h:¬l.length=0):mH l=hX (aa (aq l (((l.length:Nat):Int)-1).toNat) 0):=if_neg h
def yc{l:List G}(h:RowsOk l):HOk (mH l):=by
 by_cases e:l.length=0
 ·rw[G0 e];exact fG
 ·rw[O1 e];exact h.at (by omega) (by omega)
def O2(k:Int)(n:Nat)(l:List G):Prop:=(∀r∈l,gS (aa r 0)=fx∨∃i:Int,0<=i/\i<k/\gS (aa r 0)=cO i)/\(l.length:Int)<=2 * k/\eK l<=n
def SK:O2 0 0 []:=⟨λr h=>absurd h aa5,by simp,by rw[yb];exact aao _⟩
def SL{k:Int}{n:Nat}{l:List G}(h:O2 k n l)(h0:0<=k)(h1:k<100):¬iq (cO k) l:=λhs=>by
 obtain⟨r,hr,e⟩:=Bz hs;rcases h.1 r hr with h2|⟨i,i0,ik,h2⟩
 ·exact NU k (e.symm.trans h2)
 ·have:=Gs h0 i0 h1 (by omega) (e.symm.trans h2);omega
def G1{k:Int}{n:Nat}{l:List G}(h:O2 k n l):(l.length:Int)<=2 * k/\eK l<=n:=h.2
def O3{k:Int}{n m:Nat}{l:List G}(h:O2 k n l)(h0:0<=k):(∀r∈fV (cO k) m l,gS (aa r 0)=fx∨∃i:Int,0<=i/\i<k+1/\gS (aa r 0)=cO i)/\((fV (cO k) m l).length:Int)<=2 * k+1/\eK (fV (cO k) m l)<=n+m:=by
 obtain⟨h1,h2,h3⟩:=h;have:=qK (cO k) m l;refine⟨λr hr=>?_,by omega,by rw[Bx];omega⟩;rcases(qL (cO k) m l).2 r hr with h|⟨r',hr',e'⟩
 ·exact .inr ⟨k,h0,by omega,h⟩
 ·rcases h1 r' hr' with h|⟨i,i0,ik,h⟩
  ·exact .inl (e'.symm.trans h)
  ·exact .inr ⟨i,i0,by omega,e'.symm.trans h⟩
def G2{k:Int}{n m:Nat}{l:List G}(h1:∀r∈l,gS (aa r 0)=fx∨∃i:Int,0<=i/\i<k+1/\gS (aa r 0)=cO i)(h2:(l.length:Int)<=2 * k+1)(h3:eK l<=n):O2 (k+1) (n+m) (fV fx m l):=by
 have:=qK fx m l;refine⟨λr hr=>?_,by omega,by rw[Bx];omega⟩;rcases(qL fx m l).2 r hr with h|⟨r',hr',e'⟩
 ·exact .inl h
 ·rcases h1 r' hr' with h|⟨i,i0,ik,h⟩
  ·exact .inl (e'.symm.trans h)
  ·exact .inr ⟨i,i0,ik,e'.symm.trans h⟩
def O4{k:Int}{n a b:Nat}{l:List G}(h:O2 k n l)(h0:0<=k):O2 (k+1) (n+a+b) (fV fx b (fV (cO k) a l)):=by obtain⟨q1,q2,q3⟩:=O3 (m:=a) h h0;exact G2 q1 q2 q3
def SM{k:Int}{n b:Nat}{l:List G}(h:O2 k n l)(h0:0<=k):O2 (k+1) (n+b) (fV fx b l):=by
 obtain⟨h1,h2,h3⟩:=h;refine G2 (λr hr=>?_) (by omega) h3;rcases h1 r hr with h|⟨i,i0,ik,h⟩
 ·exact .inl h
 ·exact .inr ⟨i,i0,by omega,h⟩
def DE(nm:List Nat)(n:Nat)(l:List G):iq nm (fV nm n l):=(qL nm n l).1
def yd(nm:List Nat)(n:Nat)(l:List G):eK (fV nm n l)=eK l+n/\(fV nm n l).length<=l.length+1:=⟨Bx nm n l,qK nm n l⟩
def vP:FSpec:=⟨[.c (.p 0),.c (.s 5)],DA,λz=>¬iq (z.s 5) (z.g 20)/\(z.s 5).length<=64,λ_=>.one (.c (.i .i64 30)),λ_=>DA,λz y=>y.g 20=z.g 20/\y.i 30=0,none⟩
def O5:FSpec:=⟨[.c (.p 0),.c (.s 5),.c (.vb 6)],DA,λz=>¬iq (z.s 5) (z.g 20)/\(1<=(z.s 5).length/\(z.s 5).length<=64)/\(z.s 6).length<=524288/\(eK (z.g 20):Int)+(z.s 6).length+12<=4194304/\(z.g 20).length<4000,λ_=>.one (.c (.i .i64 30)),λ_=>DA,λz y=>y.g 20=fV (z.s 5) ((z.s 6).length+12) (z.g 20)/\y.i 30=0,none⟩
def O6:FSpec:=⟨[.cp [.o,.v 11 31,.v 6 32,.o]],[],λz=>RowsOk (z.g 32)/\(z.g 32).length<=1000,λ_=>.one (.ag (hs 300)),λ_=>[],λz y=>hT y 300=mH (z.g 32),none⟩
end
def Xn:bq 11 OZ:=Xm
def G3:bq 65 DB:=SH
def vQ:bq 119 tA:=Jm
def G4:bq 68 DC:=SJ
def aag(z:Sy):=λh h0 hi=>@RowsOk.at (z.g 32) h (((z.g 32).length:Int)-1) h0 hi
def G5:bq 15 O6:=bC 4 33 eN lN λz hA=>show Fm.den (let v0:=(↑(z.g 32).length:Int);(.two (v0=0) (.ax (hZ=mH (z.g 32))) (.an ((-9223372036854775808)<=v0-1/\v0-1<=9223372036854775807) (.an (pP v0) (.ax (hX (aT (aM (z.g 32) (v0-1)))=mH (z.g 32))))))) by
 dsimp only [O6,hs] at hA;have:=@G0 (z.g 32);have:=@O1 (z.g 32);have:=aag z;conv=>zeta
 repeat' with_reducible first|intro _|apply ci|apply cm|apply cj|apply cD|apply cA
 all_goals first|omega|grind [ao,ak,aj,aX,aY,aZ,a_,ba,bc,be,bf,bh,aB,List.append_assoc,dI]
abbrev mA(a:List G):=pZ lw a=pZ lw a/\True
def DH:bq 123 vP:=bC 2 2 (ai G3 eN) lN λz hA=>show Fm.den ((.cl ((mA (z.g 20))) (¬iq (z.s 5) (z.g 20)/\(z.s 5).length<=64) (λy0=>y0.g 20=z.g 20/\y0.i 30=7) λy0=>(.an (y0.i 30≠0) (.an (mA (y0.g 20)) (.at (y0.g 20=z.g 20/\(0:Int)=0)))))) by
 dsimp only [vP,DA] at hA;repeat' with_reducible first|intro _|apply ci|apply cm|apply cj|apply cD|apply cA
 all_goals first|omega|grind [ao,ak,aj,aX,aY,aZ,a_,ba,bc,be,bf,bh,aB,List.append_assoc,dI]
abbrev G6(a:List Nat):=1<=a.length/\a.length<=64
abbrev G7(a:Prop)(b:List Nat)(c d:Int)(e:List G):=a/\1<=b.length/\c+d<=4194304/\e.length<4000
def SO:bq 116 O5:=bC 4 63 (ai DH (ai vK (ai vQ (ai G4 eN)))) lN λz hA=>show Fm.den ((.cl ((mA (z.g 20))) (¬iq (z.s 5) (z.g 20)/\(z.s 5).length<=64) (λy0=>y0.g 20=z.g 20/\y0.i 30=0) λy0=>(.an (¬(y0.i 30≠0)) (Sb (z.s 6) λy1=>(.an (¬(y1.i 50≠0)) (.cl ((mA (y0.g 20))) (G7 (G6 (z.s 5)) (y1.s 10) (↑(eK (y0.g 20)):Int) (↑(y1.s 10).length:Int) (y0.g 20)) (λy2=>y2.g 20=fV (z.s 5) (y1.s 10).length (y0.g 20)/\y2.i 30=0) λy2=>(.an (¬(y2.i 30≠0)) (.cl ((mA (y2.g 20))) (iq (z.s 5) (y2.g 20)/\1<=(z.s 5).length/\(z.s 5).length<=64) (λy3=>y3.g 20=y2.g 20/\y3.i 30=0) λy3=>(.an (mA (y3.g 20)) (.at (y3.g 20=fV (z.s 5) ((z.s 6).length+12) (z.g 20)/\y3.i 30=0))))))))))) by
 dsimp only [O5,DA] at hA;have:=DE (z.s 5) ((z.s 6).length+12) (z.g 20);have:=dI (z.s 6);repeat' with_reducible first|intro _|apply ci|apply cm|apply cj|apply cD|apply cA
 all_goals first|omega|grind [ao,ak,aj,aX,aY,aZ,a_,ba,bc,be,bf,bh,aB,List.append_assoc,dI]
noncomputable section
def mI(es:List G):Nat:=(fZ True es 0).length+(ga es 0).length+96
def lz(k t n:Int)(pv:G)(es:List G):G:=.node [.int k,.int t,.int n,pv,.node es]
def O9(k t n:Int)(pv:G)(es:List G):lz k t n pv es= .node [.int k,.int t,.int n,pv,.node es]:=rfl
def po(l:List G)(t:Int):Prop:=0<l.length->gI (aa (aq l (((l.length:Nat):Int)-1).toNat) 1)<=t
def UU{l:List G}{t:Int}(h:po l t)(hl:0<l.length):gI (aa (aq l (((l.length:Nat):Int)-1).toNat) 1)<=t:=h hl
def Xo(t:Int):po [] t:=λh=>by simp at h
def Xp{l:List G}{k t n u:Int}{pv:G}{es:List G}(h:t<=u):po (l++ [lz k t n pv es]) u:=λ_=>by
 have e:(((l++ [lz k t n pv es]).length:Nat):Int)-1=l.length:=by simp
 rw[e,tq rfl];exact h
def SP{l:List G}{t u:Int}(h:po l t)(hu:t<=u):po l u:=λhl=>Int.le_trans (h hl) hu
def tC{es:List G}{k t n:Int}{pv:G}(h:dU es)(hp:HOk pv)(hk:k<9223372036854775808)(ht:t<9223372036854775808)(hn:n<9223372036854775808)(hb:bz k t n pv es=0):
 jJ es/\(mE False k t n pv es).length<=262144/\(ga es 0).length<=270000/\(ga es 0).length+(mE False k t n pv es).length+24<=mI es/\1<=es.length:=by
 obtain⟨h1,h2,h3⟩:=fg hb
 have h1:(0<=k/\k<=2147483648)/\(0<=t/\t<=9007199254740992)/\(0<=n/\n<=9007199254740992)/\1<=es.length/\es.length<=200:=by unfold xh at h1;exact h1
 have h4:=h1.2.2.2.2
 have a:=qI h4 es.length 0 (by omega) (by omega)
 have b:=Oy es
 have c:=gV hp hk ht hn
 have d:=fu (n:=es.length) (by omega)
 unfold mE at h3⊢
 simp only [aav] at h3⊢
 unfold mI
 exact⟨⟨h2,tr h,h4⟩,by omega,by omega,by omega,h1.2.2.2.1⟩
def p_(k:Int)(l:List G):Prop:=GG k (ce l) l
def SQ:p_ 0 []:=by unfold p_;rw[xK];exact Sd
def O_{k:Int}{n:Nat}{l:List G}(h:GG k n l):p_ k l:=by unfold p_ GG at *;exact⟨h.1,h.2.1,aao _⟩
def ye{k:Int}{n:Nat}{l:List G}(h:GG k n l):(l.length:Int)<=2 * k/\ce l<=n:=by unfold GG at h;exact h.2
def SR{k:Int}{l:List G}(h:p_ k l)(h0:0<=k)(h1:k<100)(b r:List Nat)(hr:ce l+b.length+r.length<=1000000):
 (¬bX (cO k) l/\l.length<=200)/\di 4194304 (cO k) b.length l/\bX (cO k) (fU (cO k) b l)/\((fU (cO k) b l).length<=300/\ce (fU (cO k) b l)<=1000000)/\
  ((lS (cO k) (fU (cO k) b l)).length<=300/\ce (lS (cO k) (fU (cO k) b l))<=1000000)/\di 4194304 fx r.length (lS (cO k) (fU (cO k) b l))/\
  bX fx (fU fx r (lS (cO k) (fU (cO k) b l)))/\((fU fx r (lS (cO k) (fU (cO k) b l))).length<=300/\ce (fU fx r (lS (cO k) (fU (cO k) b l)))<=1000000)/\p_ (k+1) (lS fx (fU fx r (lS (cO k) (fU (cO k) b l))))/\ce (lS fx (fU fx r (lS (cO k) (fU (cO k) b l))))<=ce l+b.length+r.length:=by
 have hk:GG k (ce l) l:=h
 have hl:=ye hk
 obtain⟨q1,q2,q3,q4⟩:=Ob (b:=b) hk h0
 have f1:=GH (nm:=cO k) (b:=b) (room:=4194304) hk h1 (by omega)
 obtain⟨a1,a2,a3,_⟩:=iY (cO k) b l
 obtain⟨s1,s2,s3⟩:=pk _ _ q1
 obtain⟨r1,r2⟩:=GI (b:=r) q2 q3 q4
 obtain⟨c1,c2,c3,_⟩:=iY fx r (lS (cO k) (fU (cO k) b l))
 have hk2:=ye r2
 refine⟨⟨Se hk h0 h1,by omega⟩,f1,q1,⟨by omega,by omega⟩,⟨by omega,by omega⟩, ?_,r1,⟨by omega,by omega⟩,O_ r2,by omega⟩
 unfold di
 exact⟨by omega,.inr (by omega)⟩
def SS{k:Int}{l:List G}(h:p_ k l)(h0:0<=k)(h1:k<100)(r:List Nat)(hr:ce l+r.length<=1000000):
 l.length<=200/\di 4194304 fx r.length l/\bX fx (fU fx r l)/\((fU fx r l).length<=300/\ce (fU fx r l)<=1000000)/\p_ (k+1) (lS fx (fU fx r l))/\ce (lS fx (fU fx r l))<=ce l+r.length:=by
 have hk:GG k (ce l) l:=h
 have hl:=ye hk
 have f1:=GH (nm:=fx) (b:=r) (room:=4194304) hk h1 (by omega)
 have hn:∀r∈l,gS (aa r 0)=fx∨∃i:Int,0<=i/\i<k+1/\gS (aa r 0)=cO i:=λr hr=>by
  have hk:=hk;unfold GG at hk;rcases hk.1 r hr with h|⟨i,i0,ik,h⟩
  ·exact .inl h
  ·exact .inr ⟨i,i0,by omega,h⟩
 obtain⟨r1,r2⟩:=GI (k:=k) (n:=ce l) (b:=r) hn (by omega) (aao _)
 obtain⟨c1,c2,c3,_⟩:=iY fx r l
 have hk2:=ye r2
 exact⟨by omega,f1,r1,⟨by omega,by omega⟩,O_ r2,by omega⟩
def G8(p:Sy):LSpec:=⟨[(3,.c (.p 0)),(7,.c (.i .i64 9))],[.cells 71 (mF p)],λz=>dU (p.g 24)/\(0<=z.i 9/\z.i 9<=(p.g 24).length)/\(p.g 24).length<=1000000,λz=>((p.g 24).length-z.i 9).toNat,[⟨.exit 0,[],[.cells 71 (mF p)]⟩],λz y=>True,none,[]⟩
def Jn(z:Sy):Prop:=RowsOk (z.g 32)/\(z.g 31).length=(z.g 32).length/\(z.g 31).length<=60/\z.i 21=(z.g 31).length/\hT z 200=mH (z.g 32)/\po (z.g 31) (z.i 22)
def UV:FSpec:=⟨[.cp [.o,.v 11 31,.v 6 32,.o],.ag bk],[],λz=>Jn z/\BJ z/\dU (z.g 24),λ_=>.one (.c (.i .i64 50)),λ_=>[],λz y=>y.i 50=bz (z.i 21) (z.i 22) (z.i 23) (hT z 200) (z.g 24),none⟩
def G9(p:Sy):LSpec:=⟨[(3,.c (.p 0)),(7,.c (.i .i64 9))],[.cells 71 (mF p)],λz=>dU (p.g 24)/\(0<=z.i 9/\z.i 9<=(p.g 24).length)/\(p.g 24).length<=1000000,λz=>((p.g 24).length-z.i 9).toNat,[⟨.exit 0,[],[.cells 71 (mF p)]⟩],λz y=>True,none,[0,6]⟩
def Yl:List BSh:=[.cells 33 [.p 1,.g 2 36 31,.g 3 32 32,.pb False],.cells 101 [.i .i64 1,.g 4 3 20,.i .i64 2],.grow 11 71 31,.grow 6 36 32,.grow 12 190 20]
def G_(p:Sy):LSpec:=⟨[(0,.c (.p 0)),(6,.c (.m 5)),(14,.c (.i .i64 9))],Yl++ [.sm 5 35],λz=>(0<=z.i 9/\z.i 9<=(z.g 31).length)/\(z.g 31).length<=60/\z.g 35= [],λz=>((z.g 31).length-z.i 9).toNat,[⟨.exit 2,[(0,.c (.p 0)),(6,.c (.m 5))],Yl++ [.sm 5 35]⟩],λz y=>y.g 31=z.g 31/\y.g 32=z.g 32/\y.g 20=z.g 20/\y.i 1=z.i 1/\y.i 2=z.i 2/\y.g 35= [],none,[13]⟩
def Pa:FSpec:=⟨[.c (.p 0),.ag bk],Yl,λz=>Jn z/\BJ z/\dU (z.g 24)/\(z.i 1=4194304/\z.i 2= -1)/\p_ (z.i 21) (z.g 20)/\(sQ z=0->ce (z.g 20)+mI (z.g 24)<=1000000),λ_=>.one (.c (.i .i64 50)),λ_=>Yl,λz y=>y.i 50=sQ z/\(y.i 1=4194304/\y.i 2= -1)/\(sQ z=0->y.g 31=z.g 31++ [lz (z.i 21) (z.i 22) (z.i 23) (hT z 200) (z.g 24)]/\y.g 32=z.g 32++ [.node [jK (z.i 21) (z.i 22) (z.i 23) (hT z 200) (z.g 24)]]/\p_ (z.i 21+1) (y.g 20)/\ce (y.g 20)<=ce (z.g 20)+mI (z.g 24))/\(¬sQ z=0->y.g 31=z.g 31/\y.g 32=z.g 32/\y.g 20=z.g 20),none⟩
def qM{P:Program}{f:Nat}{S:FSpec}(al9:Sy->Prop)(aj7:Sy->Sy->Prop)(hp:∀z,al9 z->S.pre z)(h:∀z y,al9 z->S.post z y->aj7 z y)(hS:Ok P f S):Ok P f {S with pre:=al9,post:=aj7}:=by obtain⟨zf,hc⟩:=hS;exact⟨λz=>⟨(zf z).1,λhz=>h z _ hz ((zf z).2 (hp z hz))⟩,λz hz=>hc z (hp z hz)⟩
def Ha:FSpec:={xP with pre:=λz=>nX z/\¬bX (z.s 5) (z.g 20),post:=λz y=>y.g 20=z.g 20/\xN z y/\y.i 30=7}
def Pb(h:Ok Tryz.prog 31 xP):Ok Tryz.prog 31 Ha:=qM (λz=>nX z/\¬bX (z.s 5) (z.g 20)) _ (λz h=>h.1) (λz y h q=>⟨q.1,q.2.1,(q.2.2.2 h.2).1⟩) h
def vR:FSpec:={nY with pre:=λz=>(nX z/\(1<=(z.s 5).length/\(z.s 5).length<=64)/\(z.s 6).length<=1000000)/\di (z.i 1) (z.s 5) (z.s 6).length (z.g 20),post:=λz y=>xN z y/\y.i 30=0/\y.g 20=fU (z.s 5) (z.s 6) (z.g 20)}
def DI(h:Ok Tryz.prog 104 nY):Ok Tryz.prog 104 vR:=qM (λz=>(nX z/\(1<=(z.s 5).length/\(z.s 5).length<=64)/\(z.s 6).length<=1000000)/\di (z.i 1) (z.s 5) (z.s 6).length (z.g 20)) _ (λz h=>h.1) (λz y h q=>⟨q.1,q.2.1 h.2⟩) h
def Hb:FSpec:={xO with pre:=λz=>(nX z/\(1<=(z.s 5).length/\(z.s 5).length<=64))/\bX (z.s 5) (z.g 20),post:=λz y=>xN z y/\y.i 30=0/\y.g 20=lS (z.s 5) (z.g 20)}
def Pc(h:Ok Tryz.prog 34 xO):Ok Tryz.prog 34 Hb:=qM (λz=>(nX z/\(1<=(z.s 5).length/\(z.s 5).length<=64))/\bX (z.s 5) (z.g 20)) _ (λz h=>h.1) (λz y h q=>⟨q.1,q.2.1 h.2⟩) h
def vS:FSpec:={iW with pre:=λz=>(z.s 1).length<=524288,post:=λz y=>y.i 50=0/\y.s 10=yo (z.s 1)}
def DJ(h:Ok Tryz.prog 118 iW):Ok Tryz.prog 118 vS:=qM (λz=>(z.s 1).length<=524288) _ (λz h=>by have h:(z.s 1).length<=524288:=h;show(z.s 1).length<=100000000;omega) (λz y h q=>q.1 h) h
def tG(k:Int)(l:List G):Prop:=O2 k (eK l) l
def ST:tG 0 []:=by unfold tG;rw[yb];exact SK
def Pd{k:Int}{n:Nat}{l:List G}(h:O2 k n l):tG k l:=⟨h.1,h.2.1,aao _⟩
def SU{k:Int}{l:List G}(h:tG k l)(h0:0<=k)(h1:k<100)(a r:Nat):
 (¬iq (cO k) l/\l.length<=200)/\(eK (fV (cO k) a l)=eK l+a/\(fV (cO k) a l).length<=201)/\iq fx (fV fx r (fV (cO k) a l))/\tG (k+1) (fV fx r (fV (cO k) a l))/\eK (fV fx r (fV (cO k) a l))=eK l+a+r:=by
 have hf:=G1 h
 have e1:=yd (cO k) a l
 have e2:=yd fx r (fV (cO k) a l)
 exact⟨⟨SL h h0 h1,by omega⟩,⟨e1.1,by omega⟩,DE _ _ _,Pd (O4 (a:=a) (b:=r) h h0),by omega⟩
def SV{k:Int}{l:List G}(h:tG k l)(h0:0<=k)(h1:k<100)(r:Nat):l.length<=200/\iq fx (fV fx r l)/\tG (k+1) (fV fx r l)/\eK (fV fx r l)=eK l+r:=by have hf:=G1 h;exact⟨by omega,DE _ _ _,Pd (SM (b:=r) h h0),(yd fx r l).1⟩
def Xq{n n':Int}{rows i7:List G}{h:G}(ht:AR n rows h n' i7)(hh:HOk h)(hx:dF n rows):dF n' i7:=by unfold dF at hx;obtain⟨L,h1,h2⟩:=hx;exact Nc (FV ht L h1) (dj h2 hh)
def UW:List BSh:=[.cells 97 [.p 1,.g 2 36 31,.g 3 32 32,.p 4,.m 6,.pb False],.obj 1 (pZ lw) 20,.grow 11 71 31,.grow 6 36 32,.cells 160 [.i .i64 1,.m 5],.sm 0 2,.sm 1 36]
def Hc(p:Sy):LSpec:=⟨[(0,.c (.p 0)),(42,.c (.pv 7 (p.g 24))),(43,.c (.pi .i64 (p.g 24).length)),(44,.c (.i .i64 9))],UW,λz=>dU (p.g 24)/\(0<=z.i 9/\z.i 9<=(p.g 24).length)/\(p.g 24).length<=1000000/\(z.g 31).length<=1000000,λz=>((p.g 24).length-z.i 9).toNat,[⟨.exit 0,[(0,.c (.p 0))],UW⟩],λz y=>y.g 31=z.g 31/\y.g 32=z.g 32/\y.g 20=z.g 20/\y.i 1=z.i 1/\y.g 2=z.g 2/\y.g 36=z.g 36,none,[]⟩
def Pe:FSpec:=⟨[.c (.p 0),.ag bk],UW,λz=>Jn z/\BJ z/\dU (z.g 24)/\tG (z.i 21) (z.g 20)/\(sQ z=0->eK (z.g 20)+mI (z.g 24)<=1000000)/\(0<=z.i 1/\z.i 1<=1000)/\dF (z.i 1) (z.g 2),λ_=>.one (.c (.i .i64 50)),λ_=>UW,λz y=>y.i 50=sQ z/\(sQ z=0->y.g 31=z.g 31++ [lz (z.i 21) (z.i 22) (z.i 23) (hT z 200) (z.g 24)]/\y.g 32=z.g 32++ [.node [jK (z.i 21) (z.i 22) (z.i 23) (hT z 200) (z.g 24)]]/\tG (z.i 21+1) (y.g 20)/\eK (y.g 20)<=eK (z.g 20)+mI (z.g 24)/\y.i 1=z.i 1+1/\dF (y.i 1) (y.g 2))/\(¬sQ z=0->y.g 31=z.g 31/\y.g 32=z.g 32/\y.g 20=z.g 20/\y.i 1=z.i 1/\y.g 2=z.g 2),kJ⟩
def Pf{m:Nat}{l:List G}{k:List Int}(h:l= []):¬jM m l k:=by subst h;unfold jM;simp
attribute [irreducible] p_ po mI tG
end
def O7:bq 31 Ha:=Pb R6
def DF:bq 104 vR:=DI I_
def O8:bq 34 Hb:=Pc R7
def DG:bq 118 vS:=DJ vK
def Pg:bM 39 0 G8:=bL 12 150037 eN lN λp z hA=>show Fm.den (let v0:=(pY (p.g 24) (jP p 200) (iU (p.i 23) (p.i 22) (p.i 21)));let v1:=(xY (p.g 24) (dE (z.i 9) (p.g 24)));let v2:=(aM (p.g 24) (z.i 9));let v3:=((-9223372036854775808)<=z.i 9+1/\z.i 9+1<=9223372036854775807);let v4:=(↑(p.g 24).length:Int);(.two (bR (z.i 9) (p.g 24)) (.an (cg (z.i 9) (p.g 24)) (.two (gI (aa v2 0)=2) (.two (gI (aa v2 12)=1) .ff (.an (gI (aa v2 0)≠4) (.an v3 (.an v0 (.at (Dv v1 (v4-(z.i 9+1)) (v4-z.i 9))))))) (.two (gI (aa v2 0)≠4) (.an v3 (.an v0 (.at (Dv v1 (v4-(z.i 9+1)) (v4-z.i 9))))) .ff))) (.an v0 (.at (True))))) by dsimp only [G8,mF,tV] at hA;have:=Jh p z;exact dD
def Xr:bq 39 UV:=bC 68 2722258935348047528044841860678099312639 (jI G5 (ai oZ eN)) (aG (ptm:=[(1,.ag bk)]) Pg lN) λz hA=>show Fm.den (let v1:=(hT z 200);let v2:=(¬(z.i 21≠ ↑(z.g 31).length));let v3:=(IP (z.g 24) v1 (z.i 21) (z.i 22) (z.i 23));let v4:=(↑(z.g 31).length:Int);let v0:=(0<v4);let v5:=((pY (z.g 24) (jP z 200) (iU (z.i 23) (z.i 22) (z.i 21))));let v6:=(xY (z.g 24) (fE (↑(z.g 24).length:Int)));let v7:=((1:Int)=bz (z.i 21) (z.i 22) (z.i 23) v1 (z.g 24));let v8:=((0:Int)=bz (z.i 21) (z.i 22) (z.i 23) v1 (z.g 24));(.an v2 (.an v2 (.an v2 (.an v2 (.ct (RowsOk (z.g 32)/\(z.g 32).length<=1000) (λy0=>hT y0 300=mH (z.g 32)) λy0=>(let v9:=(¬lQ v1 (hT y0 300));(.an v2 (.an v2 (.two v9 (.an v9 (.an v9 (.an v9 (.an v9 (.an v9 (.an v9 (.an v9 (.an v9 (.ax v7))))))))) (.an (¬v9) (.an (¬v9) (.an (¬v9) (.an (¬v9) (.an (¬v9) (.an (¬v9) (.two v0 (.an v0 (.an v0 (.an v0 (.an v0 (.an v0 (.an v0 (.an v0 (.an v0 (.an v0 (.an v0 (.an v0 (.an ((-9223372036854775808)<=v4-1/\v4-1<=9223372036854775807) (.an v0 (.an (pP v4) (.an v0 (.an v0 (.an v0 (.an (¬v9) (.an v0 (.an (¬v9) (.two (z.i 22<gI (aa (aM (z.g 31) (v4-1)) 1)) (.ax v7) (.ct v3 (λy1=>y1.i 50=bz (z.i 21) (z.i 22) (z.i 23) v1 (z.g 24)) λy1=>(.two (y1.i 50≠0) (.ax (y1.i 50=bz (z.i 21) (z.i 22) (z.i 23) v1 (z.g 24))) (.cl v5 v6 (λy2=>True) λy2=>(.ax v8))))))))))))))))))))))))) (.an (¬v0) (.an (¬v0) (.an (¬v0) (.an (¬v0) (.an (¬v0) (.an (¬v0) (.an (¬v0) (.an (¬v0) (.an (¬v0) (.an (¬v0) (.an (¬v0) (.an (¬v0) (.an (¬v0) (.an (¬v0) (.an (¬v0) (.an (¬v9) (.an (¬v0) (.an (¬v9) (.ct v3 (λy3=>y3.i 50=bz (z.i 21) (z.i 22) (z.i 23) v1 (z.g 24)) λy3=>(.two (y3.i 50≠0) (.ax (y3.i 50=bz (z.i 21) (z.i 22) (z.i 23) v1 (z.g 24))) (.cl v5 v6 (λy4=>True) λy4=>(.ax v8))))))))))))))))))))))))))))))))))))))) by dsimp only [UV,bk,hs,Jn,BJ] at hA;have:=@yc (z.g 32);have:=@UU (z.g 31) (z.i 22);exact dD
def Ph:bM 40 0 G9:=bL 20 67824691493 eN lN λp z hA=>show Fm.den (let v0:=(gI (aa (aM (p.g 24) (z.i 9)) 13)<0);let v1:=(pY (p.g 24) (jP p 200) (iU (p.i 23) (p.i 22) (p.i 21)));let v2:=(xY (p.g 24) (dE (z.i 9) (p.g 24)));let v3:=((-9223372036854775808)<=z.i 9+1/\z.i 9+1<=9223372036854775807);let v4:=(↑(p.g 24).length:Int);let v5:=(cg (z.i 9) (p.g 24));(.two (bR (z.i 9) (p.g 24)) (.an v5 (.an v5 (.two (gI (aT (aM (p.g 24) (z.i 9)))≠4) (.an v3 (.an v1 (.at (Dv v2 (v4-(z.i 9+1)) (v4-z.i 9))))) (.two v0 (.an v0 (.an v0 (.an v0 (.an v0 (.an v0 (.an v0 (.an v0 (.an v0 (.an v3 (.an v1 (.at (Dv v2 (v4-(z.i 9+1)) (v4-z.i 9))))))))))))) (.an (¬v0) (.an (¬v0) (.an (¬v0) .ff))))))) (.an v1 (.at (True))))) by dsimp only [G9,mF,tV] at hA;have:=Jh p z;exact dD
abbrev Xs(a b c:List G)(d:Prop):=a.length=a.length/\b.length=b.length/\c.length=c.length/\d/\True
abbrev pS:=False↔False
def Pi:bM 40 2 G_:=bL 6 133 eN lN λp z hA=>show Fm.den (let v0:=(Xs (z.g 31) (z.g 32) (z.g 20) (pS));let v1:=(↑(z.g 31).length:Int);(.two (bR (z.i 9) (z.g 31)) (.two (jM 5 (z.g 35) [z.i 9]) .ff (.an ((-9223372036854775808)<=z.i 9+1/\z.i 9+1<=9223372036854775807) (.an v0 (.at (((dE (z.i 9) (z.g 31))/\(z.g 31).length<=60/\z.g 35= [])/\(v1-(z.i 9+1)).toNat<(v1-z.i 9).toNat/\∀(y:Sy),y.g 31=z.g 31/\y.g 32=z.g 32/\y.g 20=z.g 20/\y.i 1=z.i 1/\y.i 2=z.i 2/\y.g 35= []->y.g 31=z.g 31/\y.g 32=z.g 32/\y.g 20=z.g 20/\y.i 1=z.i 1/\y.i 2=z.i 2/\y.g 35= []))))) (.an v0 (.at (z.g 31=z.g 31/\z.g 32=z.g 32/\z.g 20=z.g 20/\z.i 1=z.i 1/\z.i 2=z.i 2/\z.g 35= []))))) by dsimp only [G_,Yl] at hA;have:=@Pf 5 (z.g 35) [z.i 9];exact dD
end Go.Proofs.YtameaobnjjcobaaGreatDoor
