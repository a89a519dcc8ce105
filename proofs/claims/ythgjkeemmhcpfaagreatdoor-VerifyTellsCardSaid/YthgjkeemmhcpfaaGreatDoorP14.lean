/- Part 14. -/
import Derived.Test.YthgjkeemmhcpfaaGreatDoorProg
import Derived.KernelRfl
import Derived.Test.YthgjkeemmhcpfaaGreatDoorP12
import Derived.Test.YthgjkeemmhcpfaaGreatDoorP13
set_option linter.all false
namespace Go.Proofs.YthgjkeemmhcpfaaGreatDoor
open Go.Sym
set_option maxRecDepth 100000
set_option maxHeartbeats 4000000
abbrev M4(a:List Nat):=1=1/\1<=1000000000/\a.length<=1000000
abbrev M5(a:List Nat):=Fm.ct (a.length<=1000000) (λy=>True)
def xW:bn 47 WR:=bA 1 0 (ai vP eN) lN λz hA=>show Fm.den (let v0:=([Int.toNat 0]++z.s 1);(.an ((0:Int)<=0/\True) (.an (1=1) (.an (M4 (z.s 1)) (.an (v0.length=1+(z.s 1).length) (M5 v0 λy0=>(.ax (hG (kZ v0)=be (z.s 1))))))))) by
 have hB:True/\(z.s 1).length<=999999:=⟨trivial,hA⟩
 conv=>zeta
 repeat' with_reducible first|intro _|apply bV|apply bW|apply bX|apply cy|apply cj
 all_goals first|omega|((try simp only [←eG,cq,dK,bv,dn,cF,dL,DC,DD,DE,List.cons_append,List.nil_append,List.append_assoc,qj,td,k_,List.length_append,List.length_cons,List.length_nil,bQ,jI,jJ,cz,ig]) <;> (repeat' first|rfl|trivial|refine And.intro ?_ ?_) <;> first|omega|exact aH hB.2.1|exact aH hB.2.2|exact aH (by assumption)|exact dS (by assumption))|grind [ao,am,ak]
def oc:bn 65 WS:=bA 1 0 (ai vP eN) lN λz hA=>show Fm.den (let v0:=((1:Int)::(ko z 100++ko z 200));(.an (bu v0) (.an (65=65) (.an (65=65) (.ct (65<=1000000) (λy0=>True) λy0=>(.ax (hG (kZ (aG v0))=aY (hT z 100) (hT z 200)))))))) by
 have hB:True/\HOk (hT z 100)/\HOk (hT z 200):=⟨trivial,hA⟩
 conv=>zeta
 repeat' with_reducible first|intro _|apply bV|apply bW|apply bX|apply cy|apply cj
 all_goals first|omega|((try simp only [←eG,cq,dK,bv,dn,cF,dL,DC,DD,DE,List.cons_append,List.nil_append,List.append_assoc,qj,td,k_,List.length_append,List.length_cons,List.length_nil,bQ,jI,jJ,cz,ig]) <;> (repeat' first|rfl|trivial|refine And.intro ?_ ?_) <;> first|omega|exact aH hB.2.1|exact aH hB.2.2|exact aH (by assumption)|exact dS (by assumption))|grind [ao,am,ak]
abbrev M6(a:List Nat):=33=33/\33<=1000000000/\a.length<=1000000
def M7:bn 144 R3:=bA 1 0 (ai vP eN) lN λz hA=>show Fm.den (let v0:=(aG ((2:Int)::ko z 100)++z.s 1);(.an (bu ((2:Int)::ko z 100)) (.an (33=33) (.an (M6 (z.s 1)) (.an (v0.length=33+(z.s 1).length) (M5 v0 λy0=>(.ax (hG (kZ v0)=du (hT z 100) (z.s 1))))))))) by
 have hB:True/\HOk (hT z 100)/\(z.s 1).length<=900000:=⟨trivial,hA⟩
 conv=>zeta
 repeat' with_reducible first|intro _|apply bV|apply bW|apply bX|apply cy|apply cj
 all_goals first|omega|((try simp only [←eG,cq,dK,bv,dn,cF,dL,DC,DD,DE,List.cons_append,List.nil_append,List.append_assoc,qj,td,k_,List.length_append,List.length_cons,List.length_nil,bQ,jI,jJ,cz,ig]) <;> (repeat' first|rfl|trivial|refine And.intro ?_ ?_) <;> first|omega|exact aH hB.2.1|exact aH hB.2.2|exact aH (by assumption)|exact dS (by assumption))|grind [ao,am,ak]
abbrev Bk(a:List Nat):=a.length<=1000000000
def F6:bn 173 M3:=bA 1 0 (ai qh eN) lN λz hA=>show Fm.den (let v0:=([Int.toNat 0]++z.s 1);(.an ((0:Int)<=0/\True) (.an (1=1) (.an (M4 (z.s 1)) (.an (v0.length=1+(z.s 1).length) (.ct (Bk v0) (λy0=>True) λy0=>(.ax (hG (eD v0)=be (z.s 1))))))))) by
 have hB:True/\(z.s 1).length<=999999:=⟨trivial,hA⟩
 conv=>zeta
 repeat' with_reducible first|intro _|apply bV|apply bW|apply bX|apply cy|apply cj
 all_goals first|omega|((try simp only [←eG,cq,dK,bv,dn,cF,dL,DC,DD,DE,List.cons_append,List.nil_append,List.append_assoc,qj,td,k_,List.length_append,List.length_cons,List.length_nil,bQ,jI,jJ,cz,ig]) <;> (repeat' first|rfl|trivial|refine And.intro ?_ ?_) <;> first|omega|exact aH hB.2.1|exact aH hB.2.2|exact aH (by assumption)|exact dS (by assumption))|grind [ao,am,ak]
def qX:bn 149 xV:=bA 1 0 (ai qh eN) lN λz hA=>show Fm.den (let v0:=((1:Int)::(ko z 100++ko z 200));(.an (bu v0) (.an (65=65) (.an (65=65) (.ct (65<=1000000000) (λy0=>True) λy0=>(.ax (hG (eD (aG v0))=aY (hT z 100) (hT z 200)))))))) by
 have hB:True/\HOk (hT z 100)/\HOk (hT z 200):=⟨trivial,hA⟩
 conv=>zeta
 repeat' with_reducible first|intro _|apply bV|apply bW|apply bX|apply cy|apply cj
 all_goals first|omega|((try simp only [←eG,cq,dK,bv,dn,cF,dL,DC,DD,DE,List.cons_append,List.nil_append,List.append_assoc,qj,td,k_,List.length_append,List.length_cons,List.length_nil,bQ,jI,jJ,cz,ig]) <;> (repeat' first|rfl|trivial|refine And.intro ?_ ?_) <;> first|omega|exact aH hB.2.1|exact aH hB.2.2|exact aH (by assumption)|exact dS (by assumption))|grind [ao,am,ak]
def M8:bn 242 F5:=bA 1 0 (ai qh eN) lN λz hA=>show Fm.den (let v0:=(aG ((2:Int)::ko z 100)++z.s 1);(.an (bu ((2:Int)::ko z 100)) (.an (33=33) (.an (M6 (z.s 1)) (.an (v0.length=33+(z.s 1).length) (.ct (Bk v0) (λy0=>True) λy0=>(.ax (hG (eD v0)=du (hT z 100) (z.s 1))))))))) by
 have hB:True/\HOk (hT z 100)/\(z.s 1).length<=900000:=⟨trivial,hA⟩
 conv=>zeta
 repeat' with_reducible first|intro _|apply bV|apply bW|apply bX|apply cy|apply cj
 all_goals first|omega|((try simp only [←eG,cq,dK,bv,dn,cF,dL,DC,DD,DE,List.cons_append,List.nil_append,List.append_assoc,qj,td,k_,List.length_append,List.length_cons,List.length_nil,bQ,jI,jJ,cz,ig]) <;> (repeat' first|rfl|trivial|refine And.intro ?_ ?_) <;> first|omega|exact aH hB.2.1|exact aH hB.2.2|exact aH (by assumption)|exact dS (by assumption))|grind [ao,am,ak]
noncomputable section
abbrev vT(l:List G)(i:Int):List Nat:=gS (aa (aq l i.toNat) 0)
def M9(l:List G)(i:Int):Prop:=(1<=(vT l i).length/\(vT l i).length<=40)/\(0<i->mV (vT l (i-1)) (vT l i)=true)
def gQ(l:List G)(n:Int):Prop:=∀i:Int,0<=i->i<n->M9 l i
theorem Bl(l:List G){n:Int}(h:n<=0):gQ l n:=λi h0 h1=>by omega
def Bm{l:List G}{n:Int}(h:gQ l n)(h1:M9 l n):gQ l (n+1):=λi h0 hi=>by
 by_cases e:i<n
 ·exact h i h0 e
 ·have:i=n:=by omega
  rw[this];exact h1
theorem M_{l:List G}{n m:Int}(h:gQ l n)(e:m<=n):gQ l m:=λi h0 hi=>h i h0 (by omega)
def F7{l:List G}{n m:Int}(h:¬M9 l n)(h0:0<=n)(h1:n<m):¬gQ l m:=λhh=>h (hh n h0 h1)
def xX{l:List G}{n m:Int}(h:gQ l m)(h0:0<=n)(h1:n<m):(vT l n).length<=40:=(h n h0 h1).1.2
def qA(ns ks:List G):Prop:=gQ ns ns.length/\ns.length=ks.length
def zB(kd i sc:Int)(t:List Nat)(ns ks:List G):Prop:=
 if kd=1 then i=0/\sc=0/\ns.length=0/\ks.length=0/\t= [] else if kd=2 then(0<=i/\i<=1)/\sc=0/\ns.length=0/\ks.length=0/\t= [] else if kd=3 then sc=0/\ns.length=0/\ks.length=0/\t= [] else if kd=4 then(1<=sc/\sc<=18)/\i%10≠0/\ns.length=0/\ks.length=0/\t= [] else if kd=5 then(0<=i/\i<=9007199254740992)/\sc=0/\ns.length=0/\ks.length=0/\t= [] else if kd=6 then i=0/\sc=0/\ns.length=0/\ks.length=0 else if kd=7 then i=0/\sc=0/\ns.length=0/\ks.length=0 else if kd=8 then i=0/\sc=0/\ns.length=0/\t= [] else if kd=9 then i=0/\sc=0/\t= [] else False
def F8{kd i sc:Int}{t:List Nat}{ns ks:List G}(h:kd=1):zB kd i sc t ns ks↔i=0/\sc=0/\ns.length=0/\ks.length=0/\t= []:=by subst h;rfl
def F9{kd i sc:Int}{t:List Nat}{ns ks:List G}(h:kd=2):zB kd i sc t ns ks↔(0<=i/\i<=1)/\sc=0/\ns.length=0/\ks.length=0/\t= []:=by subst h;rfl
def Bn{kd i sc:Int}{t:List Nat}{ns ks:List G}(h:kd=3):zB kd i sc t ns ks↔sc=0/\ns.length=0/\ks.length=0/\t= []:=by subst h;rfl
def F_{kd i sc:Int}{t:List Nat}{ns ks:List G}(h:kd=4):zB kd i sc t ns ks↔(1<=sc/\sc<=18)/\i%10≠0/\ns.length=0/\ks.length=0/\t= []:=by subst h;rfl
def Na{kd i sc:Int}{t:List Nat}{ns ks:List G}(h:kd=5):zB kd i sc t ns ks↔(0<=i/\i<=9007199254740992)/\sc=0/\ns.length=0/\ks.length=0/\t= []:=by subst h;rfl
def Ga{kd i sc:Int}{t:List Nat}{ns ks:List G}(h:kd=6):zB kd i sc t ns ks↔i=0/\sc=0/\ns.length=0/\ks.length=0:=by subst h;rfl
def Gb{kd i sc:Int}{t:List Nat}{ns ks:List G}(h:kd=7):zB kd i sc t ns ks↔i=0/\sc=0/\ns.length=0/\ks.length=0:=by subst h;rfl
def Gc{kd i sc:Int}{t:List Nat}{ns ks:List G}(h:kd=8):zB kd i sc t ns ks↔i=0/\sc=0/\ns.length=0/\t= []:=by subst h;rfl
def Nb{kd i sc:Int}{t:List Nat}{ns ks:List G}(h:kd=9):zB kd i sc t ns ks↔i=0/\sc=0/\t= []:=by subst h;rfl
def Nc{kd i sc:Int}{t:List Nat}{ns ks:List G}(h:kd<1∨9<kd):¬zB kd i sc t ns ks:=by unfold zB;rw[if_neg (by omega),if_neg (by omega),if_neg (by omega),if_neg (by omega),if_neg (by omega),if_neg (by omega),if_neg (by omega),if_neg (by omega),if_neg (by omega)];exact id
open Classical in
def pA(kd i sc:Int)(t:List Nat)(ns ks:List G):Int:=
 if ¬zB kd i sc t ns ks then 3 else if 16384<t.length∨200<ks.length then 5 else if kd=9/\¬qA ns ks then 3 else 0
def Bo{kd i sc:Int}{t:List Nat}{ns ks:List G}(h:¬zB kd i sc t ns ks):pA kd i sc t ns ks=3:=by unfold pA;rw[if_pos h]
def Bp{kd i sc:Int}{t:List Nat}{ns ks:List G}(h:zB kd i sc t ns ks)(h1:16384<t.length∨200<ks.length):pA kd i sc t ns ks=5:=by unfold pA;rw[if_neg (Classical.not_not.2 h),if_pos h1]
def Bq{kd i sc:Int}{t:List Nat}{ns ks:List G}(h:zB kd i sc t ns ks)(h1:¬(16384<t.length∨200<ks.length))(h2:kd=9/\¬qA ns ks):pA kd i sc t ns ks=3:=by unfold pA;rw[if_neg (Classical.not_not.2 h),if_neg h1,if_pos h2]
def DF{kd i sc:Int}{t:List Nat}{ns ks:List G}(h:zB kd i sc t ns ks)(h1:¬(16384<t.length∨200<ks.length))(h2:¬(kd=9/\¬qA ns ks)):pA kd i sc t ns ks=0:=by unfold pA;rw[if_neg (Classical.not_not.2 h),if_neg h1,if_neg h2]
def od{kd i sc:Int}{t:List Nat}{ns ks:List G}(h:pA kd i sc t ns ks=0):zB kd i sc t ns ks/\t.length<=16384/\ks.length<=200/\(kd=9->qA ns ks):=by
 unfold pA at h;split at h
 ·cases h
 ·rename_i h0;split at h
  ·cases h
  ·rename_i h1;split at h
   ·cases h
   ·rename_i h2;exact⟨Classical.not_not.1 h0,by omega,by omega,λe=>Classical.not_not.1 λhn=>h2 ⟨e,hn⟩⟩
def Z9(x:Int):x.tmod 10=0↔x%10=0:=by
 rw[Int.tmod_eq_emod];split
 ·simp
 ·constructor
  ·intro h;omega
  ·intro h;rename_i hn;exact absurd (Or.inr (abG h)) hn
def uy:List Int->Int
 | []=>0
 |x::l=>if x=0 then uy l else x
def Jt:Nat->G->Int
 |0,_=>9
 |k+1,g=>if pA (gI (aa g 0)) (gI (aa g 1)) (gI (aa g 2)) (gS (aa g 3)) (gL (aa g 4)) (gL (aa g 5))=0 then uy ((gL (aa g 5)).map (Jt k)) else pA (gI (aa g 0)) (gI (aa g 1)) (gI (aa g 2)) (gS (aa g 3)) (gL (aa g 4)) (gL (aa g 5))
def dT(k:Nat)(ks:List G)(i:Int):Int:=uy ((ks.drop i.toNat).map (Jt k))
def gf(k:Nat)(kd i sc:Int)(t:List Nat)(ns ks:List G):Int:=match k with
 |0=>9
 |k+1=>if pA kd i sc t ns ks=0 then dT k ks 0 else pA kd i sc t ns ks
def gC(k:Nat)(g:G):gf k (gI (aa g 0)) (gI (aa g 1)) (gI (aa g 2)) (gS (aa g 3)) (gL (aa g 4)) (gL (aa g 5))=Jt k g:=by cases k <;> rfl
theorem gD(kd i sc:Int)(t:List Nat)(ns ks:List G):gf 0 kd i sc t ns ks=9:=rfl
theorem qY{k:Nat}{kd i sc:Int}{t:List Nat}{ns ks:List G}(h:¬pA kd i sc t ns ks=0):gf (k+1) kd i sc t ns ks=pA kd i sc t ns ks:=if_neg h
theorem te{k:Nat}{kd i sc:Int}{t:List Nat}{ns ks:List G}(h:pA kd i sc t ns ks=0):gf (k+1) kd i sc t ns ks=dT k ks 0:=if_pos h
def eH{l:List G}{i:Int}(h0:0<=i)(h:i<l.length):l.drop i.toNat=aq l i.toNat::l.drop (i+1).toNat:=by
 have h1:i.toNat<l.length:=by omega
 rw[aa2 h1,show(i+1).toNat=i.toNat+1 by omega];congr 1;unfold aq;rw[aag,aai h1];rfl
def Br{k:Nat}{ks:List G}{i:Int}(h0:0<=i)(h:i<ks.length)(e:Jt k (aq ks i.toNat)=0):dT k ks i=dT k ks (i+1):=by unfold dT;rw[eH h0 h,aaB,uy,if_pos e]
def Gd{k:Nat}{ks:List G}{i:Int}(h0:0<=i)(h:i<ks.length)(e:¬Jt k (aq ks i.toNat)=0):dT k ks i=Jt k (aq ks i.toNat):=by unfold dT;rw[eH h0 h,aaB,uy,if_neg e]
def qZ{k:Nat}{ks:List G}{i:Int}(h:(ks.length:Int)<=i):dT k ks i=0:=by unfold dT;rw[aaO (by omega)];rfl
def tf:∀{l:List Int},uy l=0->∀x∈l,x=0
 | [],_,x,hx=>by cases hx
 |y::l,h,x,hx=>by
  unfold uy at h;split at h
  ·rename_i e;rcases List.mem_cons.1 hx with rfl|hx
   ·exact e
   ·exact tf h x hx
  ·rename_i e;exact absurd h e
def dp{l:List G}{i:Int}(h0:0<=i)(h:i<l.length):aq l i.toNat∈l:=by
 have h1:i.toNat<l.length:=by omega
 unfold aq;rw[aag,aai h1];exact abe _
def xY{k:Nat}{ks:List G}{i:Int}(h:dT k ks 0=0)(h0:0<=i)(hi:i<ks.length):Jt k (aq ks i.toNat)=0:=
 tf h _ (abu (by rw[show(0:Int).toNat=0 by rfl,aaR];exact dp h0 hi))
def qk(v:Int):Int:=if 0<=v then 2 * v else -2 * v-1
def Nd{a:Nat}(h:a<18446744073709551616):Nat.xor a 18446744073709551615=18446744073709551615-a:=by
 show a ^^^ 18446744073709551615=_;refine Nat.eq_of_testBit_eq λi=>?_;rw[Nat.testBit_xor,show 18446744073709551615-a=2 ^ 64-(a+1) by omega,Nat.testBit_two_pow_sub_succ (by simpa using h),show 18446744073709551615=2 ^ 64-1 by decide,Nat.testBit_two_pow_sub_one];by_cases hi:i<64
 ·simp [hi]
 ·simp [hi];exact Nat.testBit_lt_two_pow (aa5 (by simpa using h:a<2 ^ 64) (abv (by decide) (by omega)))
def UZ{n:Int}(h0:0<=n)(h:n<18446744073709551616):aC (aj .u64) n=n.toNat:=by
 obtain⟨m,rfl⟩:∃m:Nat,n=m:=⟨n.toNat,by omega⟩
 show m%18446744073709551616=_;rw[aa9 (by omega)];rfl
def WT{v x:Int}(h: -9223372036854775808<=v/\v<9223372036854775808)(hx:x=v * 2%18446744073709551616):IntKind.u64.wrap (Int.ofNat ((aC (aj .u64) x).xor (aC (aj .u64) (v/9223372036854775808%18446744073709551616))))=qk v:=by
 subst hx;rw[pw,UZ (by omega) (by omega),UZ (by omega) (by omega)];unfold qk;split
 ·rw[show(v/9223372036854775808%18446744073709551616).toNat=0 by omega];have e:((v * 2%18446744073709551616).toNat).xor 0=(v * 2%18446744073709551616).toNat:=Nat.xor_zero _;rw[e];show((v * 2%18446744073709551616).toNat:Int)%_=_;omega
 ·rw[show(v/9223372036854775808%18446744073709551616).toNat=18446744073709551615 by omega,Nd (by omega)];show((18446744073709551615-(v * 2%18446744073709551616).toNat:Nat):Int)%_=_;omega
def WU(x:Int):IntKind.i64.wrap x%18446744073709551616=x%18446744073709551616:=by
 have key:∀(c:Bool) (a b:Int),a%18446744073709551616=x%18446744073709551616->b%18446744073709551616=x%18446744073709551616->(if c=true then a else b)%18446744073709551616=x%18446744073709551616:=λc a b h1 h2=>by cases c <;> simp [h1,h2]
 exact key _ _ _ (by show(x%18446744073709551616-18446744073709551616)%_=_;omega) (by show(x%18446744073709551616)%_=_;omega)
def R4{v:Int}(h:0<=v):qk v=2 * v:=if_pos h
def R5{v:Int}(h:v<0):qk v= -2 * v-1:=if_neg (by omega)
def WV(e:G->List Nat)(kd:Int)(ns ks:List G):Nat->Int->List Nat
 |0,_=>[]
 |n+1,i=>(if kd=9 then aJ (vT ns i).length++vT ns i else [])++(e (aq ks i.toNat)++WV e kd ns ks n (i+1))
def vU(e:G->List Nat)(kd:Int)(ns ks:List G)(i:Int):List Nat:=WV e kd ns ks ((ks.length:Int)-i).toNat i
def Bs{e:G->List Nat}{kd:Int}{ns ks:List G}{i:Int}(h0:kd=9)(h:i<ks.length):vU e kd ns ks i=aJ (vT ns i).length++(vT ns i++(e (aq ks i.toNat)++vU e kd ns ks (i+1))):=by unfold vU;rw[show((ks.length:Int)-i).toNat=((ks.length:Int)-(i+1)).toNat+1 by omega];show(if kd=9 then _ else _)++_=_;rw[if_pos h0,aav]
def Bu{e:G->List Nat}{kd:Int}{ns ks:List G}{i:Int}(h0:¬kd=9)(h:i<ks.length):vU e kd ns ks i=e (aq ks i.toNat)++vU e kd ns ks (i+1):=by unfold vU;rw[show((ks.length:Int)-i).toNat=((ks.length:Int)-(i+1)).toNat+1 by omega];show(if kd=9 then _ else _)++_=_;rw[if_neg h0];rfl
def Ge{e:G->List Nat}{kd:Int}{ns ks:List G}{i:Int}(h:(ks.length:Int)<=i):vU e kd ns ks i= []:=by unfold vU;rw[show((ks.length:Int)-i).toNat=0 by omega];rfl
def Ju(e:G->List Nat)(kd i sc:Int)(t:List Nat)(ns ks:List G):List Nat:=
 if kd=2 then [(i%256).toNat] else if kd=3 then aJ (qk i).toNat else if kd=4 then aJ (qk i).toNat++ [(sc%256).toNat] else if kd=5 then aJ (i%18446744073709551616).toNat
 else if kd=6∨kd=7 then aJ t.length++t else if kd=8∨kd=9 then aJ ks.length++vU e kd ns ks 0 else []
def lc:Nat->G->List Nat
 |0,_=>[]
 |k+1,g=>(gI (aa g 0)%256).toNat::Ju (lc k) (gI (aa g 0)) (gI (aa g 1)) (gI (aa g 2)) (gS (aa g 3)) (gL (aa g 4)) (gL (aa g 5))
def eI(k:Nat)(kd i sc:Int)(t:List Nat)(ns ks:List G):List Nat:=match k with
 |0=>[]
 |k+1=>(kd%256).toNat::Ju (lc k) kd i sc t ns ks
def pB(k:Nat)(g:G):eI k (gI (aa g 0)) (gI (aa g 1)) (gI (aa g 2)) (gS (aa g 3)) (gL (aa g 4)) (gL (aa g 5))=lc k g:=by cases k <;> rfl
def tg(k:Nat){kd i sc:Int}{t:List Nat}{ns ks:List G}(h:kd=2):eI (k+1) kd i sc t ns ks= [(kd%256).toNat]++ [(i%256).toNat]:=by simp [eI,Ju,h]
def q_(k:Nat){kd i sc:Int}{t:List Nat}{ns ks:List G}(h:kd=3):eI (k+1) kd i sc t ns ks= [(kd%256).toNat]++aJ (qk i).toNat:=by simp [eI,Ju,h]
def xZ(k:Nat){kd i sc:Int}{t:List Nat}{ns ks:List G}(h:kd=4):eI (k+1) kd i sc t ns ks= [(kd%256).toNat]++(aJ (qk i).toNat++ [(sc%256).toNat]):=by simp [eI,Ju,h]
def th(k:Nat){kd i sc:Int}{t:List Nat}{ns ks:List G}(h:kd=5):eI (k+1) kd i sc t ns ks= [(kd%256).toNat]++aJ (i%18446744073709551616).toNat:=by simp [eI,Ju,h]
def oe(k:Nat){kd i sc:Int}{t:List Nat}{ns ks:List G}(h:kd=6∨kd=7):eI (k+1) kd i sc t ns ks= [(kd%256).toNat]++(aJ t.length++t):=by rcases h with h|h <;> simp [eI,Ju,h]
def ti(k:Nat){kd i sc:Int}{t:List Nat}{ns ks:List G}(h:kd=8∨kd=9):eI (k+1) kd i sc t ns ks= [(kd%256).toNat]++(aJ ks.length++vU (lc k) kd ns ks 0):=by rcases h with h|h <;> simp [eI,Ju,h]
def tj(k:Nat){kd i sc:Int}{t:List Nat}{ns ks:List G}(h:kd<2∨9<kd):eI (k+1) kd i sc t ns ks= [(kd%256).toNat]:=by show _::Ju _ _ _ _ _ _ _=_;unfold Ju;rw[if_neg (by omega),if_neg (by omega),if_neg (by omega),if_neg (by omega),if_neg (by omega),if_neg (by omega)]
def Y0(w:G->Nat)(ks:List G):Nat->Int->Nat
 |0,_=>0
 |n+1,i=>50+w (aq ks i.toNat)+Y0 w ks n (i+1)
def uh(w:G->Nat)(ks:List G)(i:Int):Nat:=Y0 w ks ((ks.length:Int)-i).toNat i
def Bv{w:G->Nat}{ks:List G}{i:Int}(h:i<ks.length):uh w ks i=50+w (aq ks i.toNat)+uh w ks (i+1):=by unfold uh;rw[show((ks.length:Int)-i).toNat=((ks.length:Int)-(i+1)).toNat+1 by omega];rfl
def lL:Nat->G->Nat
 |0,_=>0
 |k+1,g=>24+(gS (aa g 3)).length+uh (lL k) (gL (aa g 5)) 0
def x_(k:Nat)(t:List Nat)(ks:List G):Nat:=match k with
 |0=>0
 |k+1=>24+t.length+uh (lL k) ks 0
def pC(k:Nat)(g:G):x_ k (gS (aa g 3)) (gL (aa g 5))=lL k g:=by cases k <;> rfl
def Bw(k:Nat)(t:List Nat)(ks:List G):x_ (k+1) t ks=24+t.length+uh (lL k) ks 0:=rfl
def Nf:Nat->G->Prop
 |0,_=>True
 |k+1,g=>((-9223372036854775808<=gI (aa g 1)/\gI (aa g 1)<9223372036854775808)/\(gS (aa g 3)).length<=1000000/\(gL (aa g 4)).length<=1000000/\(gL (aa g 5)).length<=1000000)/\∀x∈gL (aa g 5),Nf k x
def Jv(k:Nat)(ks:List G):Prop:=∀x∈ks,Nf k x
def tl(k:Nat)(i:Int)(t:List Nat)(ns ks:List G):Prop:=match k with
 |0=>True
 |k+1=>((-9223372036854775808<=i/\i<9223372036854775808)/\t.length<=1000000/\ns.length<=1000000/\ks.length<=1000000)/\Jv k ks
def mK(k:Nat)(g:G):tl k (gI (aa g 1)) (gS (aa g 3)) (gL (aa g 4)) (gL (aa g 5))=Nf k g:=by cases k <;> rfl
def R6{k:Nat}{i:Int}{t:List Nat}{ns ks:List G}(h:tl (k+1) i t ns ks):(-9223372036854775808<=i/\i<9223372036854775808)/\t.length<=1000000/\ns.length<=1000000/\ks.length<=1000000:=h.1
def Ng{k:Nat}{i:Int}{t:List Nat}{ns ks:List G}(h:tl (k+1) i t ns ks):Jv k ks:=h.2
def og{k:Nat}{ks:List G}{i:Int}(h:Jv k ks)(h0:0<=i)(hi:i<ks.length):Nf k (aq ks i.toNat):=h _ (dp h0 hi)
def Gf{k:Nat}{g:G}(h:Jt (k+1) g=0):pA (gI (aa g 0)) (gI (aa g 1)) (gI (aa g 2)) (gS (aa g 3)) (gL (aa g 4)) (gL (aa g 5))=0/\dT k (gL (aa g 5)) 0=0:=by
 rw[←gC] at h;by_cases e:pA (gI (aa g 0)) (gI (aa g 1)) (gI (aa g 2)) (gS (aa g 3)) (gL (aa g 4)) (gL (aa g 5))=0
 ·rw[te e] at h;exact⟨e,h⟩
 ·rw[qY e] at h;exact absurd h e
def ya{v:Int}(h: -9223372036854775808<=v/\v<9223372036854775808):0<=qk v/\qk v<18446744073709551616:=by unfold qk;split <;> omega
def Gg{k:Nat}(ih:∀g,Jt k g=0->Nf k g->(lc k g).length<=lL k g){kd:Int}{ns ks:List G}(hk:dT k ks 0=0)(hv:Jv k ks)(hn:kd=9->gQ ns ks.length):∀(n:Nat) (i:Int),0<=i->i+n=ks.length->(WV (lc k) kd ns ks n i).length<=Y0 (lL k) ks n i
 |0,_,_,_=>aaa _
 |n+1,i,h0,hi=>by
  have h1:=Gg ih hk hv hn n (i+1) (by omega) (by omega);have h2:=ih _ (xY hk h0 (by omega)) (og hv h0 (by omega));have h3:(if kd=9 then aJ (vT ns i).length++vT ns i else []).length<=50:=by
   split
   ·rename_i e;have:=xX (hn e) h0 (n:=i) (by omega);rw[aah];have:=xP 1 (vT ns i).length (by omega) (by decide);omega
   ·simp
  show((if kd=9 then aJ (vT ns i).length++vT ns i else [])++(lc k (aq ks i.toNat)++WV (lc k) kd ns ks n (i+1))).length<=50+lL k (aq ks i.toNat)+Y0 (lL k) ks n (i+1);rw[aah,aah];omega
def oh:∀(k:Nat) (g:G),Jt k g=0->Nf k g->(lc k g).length<=lL k g
 |0,_,_,_=>aaa _
 |k+1,g,h,hv=>by
  obtain⟨hs,h⟩:=Gf h;obtain⟨h1,h2,h3,h4⟩:=od hs;have u10:∀n:Nat,n<18446744073709551616->(aJ n).length<=10:=λn hn=>xP 10 n (aa5 hn (by decide)) (by decide);have hz:∀i:Int,0<=(i%18446744073709551616)/\(i%18446744073709551616).toNat<18446744073709551616:=λi=>by omega
  have hf:(vU (lc k) (gI (aa g 0)) (gL (aa g 4)) (gL (aa g 5)) 0).length<=uh (lL k) (gL (aa g 5)) 0:=
   Gg (oh k) h hv.2 (λe=>by have:=(h4 e).1;rw[(h4 e).2] at this;exact this) _ 0 (by decide) (by omega)
  show((gI (aa g 0)%256).toNat::Ju (lc k) (gI (aa g 0)) (gI (aa g 1)) (gI (aa g 2)) (gS (aa g 3)) (gL (aa g 4)) (gL (aa g 5))).length<=24+(gS (aa g 3)).length+uh (lL k) (gL (aa g 5)) 0;rw[aau];have au7:(aJ (qk (gI (aa g 1))).toNat).length<=10:=u10 _ (by have:=ya hv.1.1;omega);have:(Ju (lc k) (gI (aa g 0)) (gI (aa g 1)) (gI (aa g 2)) (gS (aa g 3)) (gL (aa g 4)) (gL (aa g 5))).length<=23+(gS (aa g 3)).length+uh (lL k) (gL (aa g 5)) 0:=by
   unfold Ju;split
   ·simp;omega
   ·split
    ·omega
    ·split
     ·rw[aah];simp;omega
     ·split
      ·have:=u10 _ (hz (gI (aa g 1))).2;omega
      ·split
       ·rw[aah];have:=u10 (gS (aa g 3)).length (by omega);omega
       ·split
        ·rw[aah];have:=u10 (gL (aa g 5)).length (by omega);omega
        ·simp
  omega
def WX:Nat->G->Nat
 |0,_=>0
 |k+1,g=>1+(gS (aa g 3)).length+((gL (aa g 5)).map (WX k)).sum
def vV(k:Nat)(ks:List G)(i:Int):Nat:=((ks.drop i.toNat).map (WX k)).sum
def R7(k:Nat)(t:List Nat)(ks:List G):Nat:=match k with
 |0=>0
 |k+1=>1+t.length+vV k ks 0
def Nh(k:Nat)(t:List Nat)(ks:List G):R7 (k+1) t ks=1+t.length+vV k ks 0:=rfl
def DG(k:Nat)(g:G):R7 k (gS (aa g 3)) (gL (aa g 5))=WX k g:=by cases k <;> rfl
def Bx{k:Nat}{ks:List G}{i:Int}(h0:0<=i)(h:i<ks.length):vV k ks i=WX k (aq ks i.toNat)+vV k ks (i+1):=by unfold vV;rw[eH h0 h,aaB,abh]
def yb{k:Nat}{ks:List G}{i:Int}(h:(ks.length:Int)<=i):vV k ks i=0:=by unfold vV;rw[aaO (by omega)];rfl
def Ni{k:Nat}(ih:∀g,Jt k g=0->WX k g<=(lc k g).length){kd:Int}{ns ks:List G}(hk:dT k ks 0=0):∀(n:Nat) (i:Int),0<=i->i+n=ks.length->vV k ks i<=(WV (lc k) kd ns ks n i).length
 |0,i,h0,h=>by rw[yb (by omega)];exact aap _
 |n+1,i,h0,hi=>by have h1:=Ni ih hk (kd:=kd) (ns:=ns) n (i+1) (by omega) (by omega);have h2:=ih _ (xY hk h0 (by omega));rw[Bx h0 (by omega)];show _<=((if kd=9 then aJ (vT ns i).length++vT ns i else [])++(lc k (aq ks i.toNat)++WV (lc k) kd ns ks n (i+1))).length;rw[aah,aah];omega
def Nj:∀(k:Nat) (g:G),Jt k g=0->WX k g<=(lc k g).length
 |0,_,_=>aap _
 |k+1,g,h=>by
  obtain⟨hs,h⟩:=Gf h;obtain⟨h1,h2,h3,h4⟩:=od hs;rw[←pB, ←DG];have hp:=Ni (Nj k) (kd:=gI (aa g 0)) (ns:=gL (aa g 4)) h (((gL (aa g 5)).length:Int)-0).toNat 0 (by decide) (by omega);have hk8:∀n:Nat,1<=(aJ n).length:=λn=>by rw[aJ];split <;> simp
  show 1+_+vV k _ 0<=_;have hd:gI (aa g 0)=1∨gI (aa g 0)=2∨gI (aa g 0)=3∨gI (aa g 0)=4∨gI (aa g 0)=5∨gI (aa g 0)=6∨gI (aa g 0)=7∨gI (aa g 0)=8∨gI (aa g 0)=9:=by
   by_cases e:gI (aa g 0)<1∨9<gI (aa g 0)
   ·exact absurd h1 (Nc e)
   ·omega
  have e0:(gL (aa g 5)).length=0->vV k (gL (aa g 5)) 0=0:=λe=>yb (by omega);have hl:(gI (aa g 0)=8∨gI (aa g 0)=9)->gS (aa g 3)= []->1+(gS (aa g 3)).length+vV k (gL (aa g 5)) 0<=(eI (k+1) (gI (aa g 0)) (gI (aa g 1)) (gI (aa g 2)) (gS (aa g 3)) (gL (aa g 4)) (gL (aa g 5))).length:=λe ht=>by rw[ti k e,ht];have:=hk8 (gL (aa g 5)).length;simp only [aah,aau,List.length_nil];show 1+0+_<=0+1+(_+(WV (lc k) _ _ _ _ 0).length);omega
  rcases hd with e|e|e|e|e|e|e|e|e
  ·have v:=(F8 e).1 h1;rw[tj k (by omega),v.2.2.2.2,e0 v.2.2.2.1];simp
  ·have v:=(F9 e).1 h1;rw[tg k e,v.2.2.2.2,e0 v.2.2.2.1];simp
  ·have v:=(Bn e).1 h1;rw[q_ k e,v.2.2.2,e0 v.2.2.1];simp
  ·have v:=(F_ e).1 h1;rw[xZ k e,v.2.2.2.2,e0 v.2.2.2.1];simp
  ·have v:=(Na e).1 h1;rw[th k e,v.2.2.2.2,e0 v.2.2.2.1];simp
  ·have v:=(Ga e).1 h1;rw[oe k (.inl e),e0 v.2.2.2];simp;omega
  ·have v:=(Gb e).1 h1;rw[oe k (.inr e),e0 v.2.2.2];simp;omega
  ·have v:=(Gc e).1 h1;exact hl (.inl e) v.2.2.2
  ·have v:=(Nb e).1 h1;exact hl (.inr e) v.2.2
def va:List Sh:=[.i .i64 1,.i .i64 2,.i .i64 3,.s 4,.v 1 5,.v 2 6]
def vp(p:Sy):List Sh:=[.pi .i64 (p.i 1),.pi .i64 (p.i 2),.pi .i64 (p.i 3),.ps (p.s 4),.pv 1 (p.g 5),.pv 2 (p.g 6)]
abbrev shZ(z:Sy):Int:=pA (z.i 1) (z.i 2) (z.i 3) (z.s 4) (z.g 5) (z.g 6)
abbrev vW(k:Nat)(z:Sy):Int:=gf k (z.i 1) (z.i 2) (z.i 3) (z.s 4) (z.g 5) (z.g 6)
abbrev yc(k:Nat)(z:Sy):Prop:=tl k (z.i 2) (z.s 4) (z.g 5) (z.g 6)
abbrev Nk(k:Nat)(z:Sy):List Nat:=eI k (z.i 1) (z.i 2) (z.i 3) (z.s 4) (z.g 5) (z.g 6)
def tp(p:Sy):LSpec:=⟨[(1,.c (.p 0)),(6,.c (.pv 1 (p.g 5))),(7,.c (.pi .i64 (p.g 5).length)),(8,.c (.i .i64 9))],[.cells 26 (vp p)],λz=>(p.g 5).length<=1000000/\(0<=z.i 9/\z.i 9<=(p.g 5).length)/\gQ (p.g 5) (z.i 9),λz=>((p.g 5).length-z.i 9).toNat,[⟨.exit 0,[(1,.c (.p 0))],[.cells 26 (vp p)]⟩,⟨.ret,[(2,.c (.b 10))],[.cells 26 (vp p)]⟩],λz y=>(y.i 999=0->gQ (p.g 5) (p.g 5).length)/\(¬y.i 999=0->¬y.p 10/\¬gQ (p.g 5) (p.g 5).length),none,[]⟩
def By:FSpec:=⟨[.ag va],[],λz=>(z.g 5).length<=1000000,λ_=>.one (.c (.b 10)),λ_=>[],λz y=>y.p 10↔qA (z.g 5) (z.g 6),none⟩
def Gh:FSpec:=⟨[.ag va],[],λz=>(z.s 4).length<=1000000/\(z.g 5).length<=1000000/\(z.g 6).length<=1000000,λ_=>.one (.c (.i .i64 10)),λ_=>[],λz y=>y.i 10=shZ z,none⟩
def vX(k:Nat)(p:Sy):LSpec:=⟨[(1,.c (.pi .i64 (p.i 7))),(17,.c (.pv 2 (p.g 6))),(18,.c (.pi .i64 (p.g 6).length)),(19,.c (.i .i64 9))],[],λz=>p.i 7=16-(k:Int)/\k<=15/\Jv k (p.g 6)/\(p.g 6).length<=1000000/\(0<=z.i 9/\z.i 9<=(p.g 6).length)/\dT k (p.g 6) 0=dT k (p.g 6) (z.i 9),λz=>((p.g 6).length-z.i 9).toNat,[⟨.exit 0,[],[]⟩,⟨.ret,[(4,.c (.i .i64 10))],[]⟩],λz y=>(y.i 999=0->dT k (p.g 6) 0=0)/\(¬y.i 999=0->y.i 10=dT k (p.g 6) 0),none,[]⟩
def fX(k:Nat):FSpec:=⟨[.ag va,.c (.i .i64 7)],[],λz=>z.i 7=17-(k:Int)/\k<=16/\yc k z,λ_=>.one (.c (.i .i64 10)),λ_=>[],λz y=>y.i 10=vW k z,none⟩
def rc:FSpec:=⟨[.ag va],[],λz=>yc 16 z,λ_=>.one (.c (.i .i64 10)),λ_=>[],λz y=>y.i 10=vW 16 z,none⟩
def vY(p:Sy):LSpec:=⟨[(0,.ag (vp p)),(2,.c (.p 0)),(1,.c (.pi .i64 (p.i 7))),(7,.c (.i .i64 9))],[.cells 26 (vp p)],λz=>(p.g 5).length<=1000000/\(0<=z.i 9/\z.i 9<=(p.g 5).length)/\gQ (p.g 5) (z.i 9),λz=>((p.g 5).length-z.i 9).toNat,[⟨.exit 1,[(0,.ag (vp p)),(1,.c (.pi .i64 (p.i 7))),(2,.c (.p 0))],[.cells 26 (vp p)]⟩,⟨.ret,[(4,.c (.i .i64 10))],[.cells 26 (vp p)]⟩],λz y=>(y.i 999=0->gQ (p.g 5) (p.g 5).length)/\(¬y.i 999=0->y.i 10=3/\¬gQ (p.g 5) (p.g 5).length),none,[]⟩
def vZ(k:Nat)(p:Sy):LSpec:=⟨[(1,.c (.pi .i64 (p.i 7))),(2,.c (.p 0)),(8,.c (.i .i64 9))],[.cells 26 (vp p)],λz=>p.i 7=16-(k:Int)/\k<=15/\Jv k (p.g 6)/\(p.g 6).length<=1000000/\(0<=z.i 9/\z.i 9<=(p.g 6).length)/\dT k (p.g 6) 0=dT k (p.g 6) (z.i 9),λz=>((p.g 6).length-z.i 9).toNat,[⟨.exit 3,[],[.cells 26 (vp p)]⟩,⟨.ret,[(4,.c (.i .i64 10))],[.cells 26 (vp p)]⟩],λz y=>(y.i 999=0->dT k (p.g 6) 0=0)/\(¬y.i 999=0->y.i 10=dT k (p.g 6) 0),none,[]⟩
abbrev yd:=fX
abbrev Gi:=rc
def WY:FSpec:=⟨[.c (.i .i64 1)],[],λz=>-9223372036854775808<=z.i 1/\z.i 1<9223372036854775808,λz=>.one (.c (.pi .u64 (qk (z.i 1)))),λ_=>[],λz y=>True,none⟩
abbrev U0:=WY
def U1:FSpec:=⟨[.c (.i .u64 1),.c (.p 0)],[.cells 90 [.gb 1 20],.growb 5 20],λz=>(0<=z.i 1/\z.i 1<18446744073709551616)/\(z.s 20).length<=900000000,λ_=>.tu [],λ_=>[.cells 90 [.gb 1 20],.growb 5 20],λz y=>y.s 20=z.s 20++aJ (z.i 1).toNat,none⟩
def WZ(p:Sy):List BSh:=[.cells 90 [.gb 1 20],.growb 5 20,.cells 26 (vp p)]
abbrev Kds(k:Nat)(p:Sy):Prop:=(p.i 1=9->gQ (p.g 5) (p.g 6).length/\(p.g 5).length=(p.g 6).length)/\dT k (p.g 6) 0=0/\Jv k (p.g 6)/\(p.g 6).length<=200
def Nl(k:Nat)(p:Sy):LSpec:=⟨[(2,.c (.p 0)),(3,.c (.p 2)),(5,.c (.fn 265 0)),(75,.c (.pv 2 (p.g 6))),(76,.c (.pi .i64 (p.g 6).length)),(77,.c (.i .i64 9))],WZ p,λz=>Kds k p/\(0<=z.i 9/\z.i 9<=(p.g 6).length)/\(z.s 20).length+uh (lL k) (p.g 6) (z.i 9)<=100000000,λz=>((p.g 6).length-z.i 9).toNat,[⟨.exit 1,[(2,.c (.p 0))],WZ p⟩],λz y=>y.s 20=z.s 20++vU (lc k) (p.i 1) (p.g 5) (p.g 6) (z.i 9),none,[]⟩
def Nm(k:Nat):FSpec:=⟨[.c (.gb 0 20),.ag va],[.growb 5 20],λz=>vW k z=0/\yc k z/\(z.s 20).length+x_ k (z.s 4) (z.g 6)<=100000000,λ_=>.one (.c (.gb 0 20)),λ_=>[.growb 5 20],λz y=>y.s 20=z.s 20++Nk k z,none⟩
def Bz(k:Nat)(p:Sy):LSpec:=⟨[(0,.c (.gb 1 20)),(3,.c (.p 0)),(5,.c (.i .i64 9))],[.cells 26 (vp p),.growb 5 20],λz=>Kds k p/\(0<=z.i 9/\z.i 9<=(p.g 6).length)/\(z.s 20).length+uh (lL k) (p.g 6) (z.i 9)<=100000000,λz=>((p.g 6).length-z.i 9).toNat,[⟨.exit 1,[(0,.c (.gb 1 20))],[.cells 26 (vp p),.growb 5 20]⟩],λz y=>y.s 20=z.s 20++vU (lc k) (p.i 1) (p.g 5) (p.g 6) (z.i 9),none,[]⟩
abbrev DH:=Nm
def U2:FSpec:=⟨[.c (.gb 0 20),.c (.s 2)],[.growb 5 20],λz=>(z.s 2).length<=100000/\(z.s 20).length<=200000000,λ_=>.one (.c (.gb 0 20)),λ_=>[.growb 5 20],λz y=>y.s 20=z.s 20++(aJ (z.s 2).length++z.s 2),none⟩
def iC(kd i sc:Int)(t:List Nat)(ns ks:List G):Int:=if gf 16 kd i sc t ns ks=0 then(if 65536<(eI 16 kd i sc t ns ks).length then 5 else 0) else gf 16 kd i sc t ns ks
section
variable{kd i sc:Int}{t:List Nat}{ns ks:List G}
def Gj(h:¬gf 16 kd i sc t ns ks=0):iC kd i sc t ns ks=gf 16 kd i sc t ns ks:=if_neg h
def BA(h:gf 16 kd i sc t ns ks=0)(h1:65536<(eI 16 kd i sc t ns ks).length):iC kd i sc t ns ks=5:=by unfold iC;rw[if_pos h,if_pos h1]
def DI(h:gf 16 kd i sc t ns ks=0)(h1:¬65536<(eI 16 kd i sc t ns ks).length):iC kd i sc t ns ks=0:=by unfold iC;rw[if_pos h,if_neg h1]
def ye(h:iC kd i sc t ns ks=0):gf 16 kd i sc t ns ks=0/\(eI 16 kd i sc t ns ks).length<=65536:=by
 unfold iC at h;split at h
 ·rename_i h1;split at h
  ·cases h
  ·exact⟨h1,by omega⟩
 ·rename_i h1;exact absurd h h1
end
abbrev U3(z:Sy):Int:=iC (z.i 1) (z.i 2) (z.i 3) (z.s 4) (z.g 5) (z.g 6)
abbrev Y1(z:Sy):Prop:=yc 16 z/\x_ 16 (z.s 4) (z.g 6)<=10000000
def rf:FSpec:=⟨[.ag va],[],Y1,λ_=>.tu [.c (.vb 10),.c (.i .i64 11)],λ_=>[],λz y=>y.i 11=U3 z/\(U3 z=0->y.s 10=Nk 16 z/\(Nk 16 z).length<=65536)/\(¬U3 z=0->y.s 10= []),none⟩
abbrev BB:=rf
def DJ(kd i sc:Int)(t:List Nat)(ns ks:List G):G:=if iC kd i sc t ns ks=0 then be (eI 16 kd i sc t ns ks) else hZ
def Nn{kd i sc:Int}{t:List Nat}{ns ks:List G}(h:iC kd i sc t ns ks=0):DJ kd i sc t ns ks=be (eI 16 kd i sc t ns ks):=if_pos h
def Gk{kd i sc:Int}{t:List Nat}{ns ks:List G}(h:¬iC kd i sc t ns ks=0):DJ kd i sc t ns ks=hZ:=if_neg h
abbrev ehY(z:Sy):G:=DJ (z.i 1) (z.i 2) (z.i 3) (z.s 4) (z.g 5) (z.g 6)
def Gl:FSpec:=⟨[.ag va],[],Y1,λ_=>.tu [.ag (hs 300),.c (.i .i64 11)],λ_=>[],λz y=>y.i 11=U3 z/\hT y 300=ehY z,none⟩
abbrev No:=Gl
def BC(k:Nat)(p:Sy):LSpec:=⟨[(1,.c (.p 1)),(2,.c (.p 0)),(5,.c (.i .i64 9))],[.cells 26 (vp p),.cells 3 [.i .i64 7]],λz=>dT k (p.g 6) 0=0/\(p.g 6).length<=200/\(0<=z.i 9/\z.i 9<=(p.g 6).length)/\(0<=z.i 7/\z.i 7<=2000000)/\(z.i 7<=65536->p.i 7+vV k (p.g 6) 0=z.i 7+vV k (p.g 6) (z.i 9))/\(65536<z.i 7->65536<p.i 7+vV k (p.g 6) 0),λz=>((p.g 6).length-z.i 9).toNat,[⟨.exit 0,[(1,.c (.p 1))],[.cells 26 (vp p),.cells 3 [.i .i64 7]]⟩],λz y=>(0<=y.i 7/\y.i 7<=2000000)/\(y.i 7<=65536->p.i 7+vV k (p.g 6) 0=y.i 7)/\(65536<y.i 7->65536<p.i 7+vV k (p.g 6) 0),none,[]⟩
def DK(k:Nat):FSpec:=⟨[.ag va,.c (.p 0)],[.cells 3 [.i .i64 7]],λz=>vW k z=0/\0<=z.i 7/\z.i 7<=65536,λ_=>.one (.c (.b 10)),λ_=>[.cells 3 [.i .i64 7]],λz y=>(0<=y.i 7/\y.i 7<=2000000)/\(y.i 7<=65536->z.i 7+R7 k (z.s 4) (z.g 6)=y.i 7)/\(65536<y.i 7->65536<z.i 7+R7 k (z.s 4) (z.g 6))/\(y.p 10↔65536<y.i 7),none⟩
attribute [irreducible] gQ pA zB dT gf Jt vU eI lc uh x_ lL tl Nf Jv vV R7 WX iC DJ
end
abbrev cI(a:Int):=a=a
abbrev cr(a:Int)(b:List G):=0<=a/\a < ↑b.length
abbrev dU(a:Int)(b:List G):=0<=a+1/\a+1<= ↑b.length
abbrev DL(a b:List G)(c:List Nat)(d e f:Int):=a=a/\b=b/\c=c/\d=d/\e=e/\f=f/\True
abbrev dq(a:Int)(b:List G):=a < ↑b.length
def BD:bN 312 0 tp:=bM 14 2234645 eN lN λp z hA=>show Fm.den (let v2:=(↑(p.g 5).length:Int);let v3:=(DL (p.g 6) (p.g 5) (p.s 4) (p.i 3) (p.i 2) (p.i 1));let v4:=(gS (aZ (aK (p.g 5) (z.i 9))));let v1:Fm:=(.an v3 (.at (((1:Int)=0->gQ (p.g 5) v2)/\(¬(1:Int)=0->¬false=true/\¬gQ (p.g 5) v2))));let v0:Fm:=(.an ((-9223372036854775808)<=z.i 9+1/\z.i 9+1<=9223372036854775807) (.an (p.g 6=p.g 6/\p.g 5=p.g 5/\p.s 4=p.s 4/\p.i 3=p.i 3/\p.i 2=p.i 2/\p.i 1=p.i 1/\v2=v2/\p.g 5=p.g 5/\True) (.at (((p.g 5).length<=1000000/\(dU (z.i 9) (p.g 5))/\gQ (p.g 5) (z.i 9+1))/\(v2-(z.i 9+1)).toNat<(v2-z.i 9).toNat/\∀(y:Sy),(y.i 999=0->gQ (p.g 5) v2)/\(¬y.i 999=0->¬y.p 10/\¬gQ (p.g 5) v2)->(y.i 999=0->gQ (p.g 5) v2)/\(¬y.i 999=0->¬y.p 10/\¬gQ (p.g 5) v2)))));(.two (dq (z.i 9) (p.g 5)) (.an (cr (z.i 9) (p.g 5)) (.two ((1:Int)<=(↑v4.length:Int)) (.two (¬(↑v4.length:Int)<=(40:Int)) v1 (.two (0<z.i 9) (.an ((-9223372036854775808)<=z.i 9-1/\z.i 9-1<=9223372036854775807) (.an (0<=z.i 9-1/\z.i 9-1 < ↑(p.g 5).length) (.two (mV (gS (aZ (aK (p.g 5) (z.i 9-1)))) v4=false) v1 v0))) v0)) v1)) (.an v3 (.at (((0:Int)=0->gQ (p.g 5) v2)/\(¬(0:Int)=0->¬(aM (((((((PS.mk [(999,Tm.i (Int.ofNat (nat_lit 0)))] ((0,(bH 0).fst,0)::kj.loc) kj.ln kj.pr kj.fz).and (cI (p.i 1))).and (cI (p.i 2))).and (cI (p.i 3))).and (p.s 4=p.s 4)).and (p.g 5=p.g 5)).and (p.g 6=p.g 6)).tm).p 10/\¬gQ (p.g 5) v2)))))) by
 dsimp only [tp,vp] at hA;have e1:=@F7 (p.g 5) (z.i 9) (p.g 5).length;have e2:=@Bm (p.g 5) (z.i 9);dsimp only [M9,vT] at e1 e2;conv=>zeta
 repeat' with_reducible first|intro _|apply bV|apply bW|apply bX|apply cy|apply cj
 all_goals first|omega|grind [ao,am,ak,M_]
abbrev fJ(a:Int):=(0:Int)<=0/\0<=a
def Jw:bn 312 By:=bA 3 1 eN (aF (ptm:=[(0,.ag va)]) BD lN) λz hA=>show Fm.den (let v0:=(↑(z.g 5).length:Int);(.cl ((z.g 6=z.g 6/\z.g 5=z.g 5/\z.s 4=z.s 4/\z.i 3=z.i 3/\z.i 2=z.i 2/\z.i 1=z.i 1/\v0=v0/\z.g 5=z.g 5/\True)) ((z.g 5).length<=1000000/\(fJ v0)/\gQ (z.g 5) 0) (λy0=>(y0.i 999=0->gQ (z.g 5) v0)/\(¬y0.i 999=0->¬y0.p 10/\¬gQ (z.g 5) v0)) λy0=>(.two (y0.i 999=0) (.ax (v0=(↑(z.g 6).length:Int)↔qA (z.g 5) (z.g 6))) (.ax (y0.p 10↔qA (z.g 5) (z.g 6)))))) by
 dsimp only [By,va] at hA;conv=>zeta
 repeat' with_reducible first|intro _|apply bV|apply bW|apply bX|apply cy|apply cj
 all_goals first|omega|grind [ao,am,ak,Bl,qA]
def hv0(z:Sy):=@Nc (z.i 1) (z.i 2) (z.i 3) (z.s 4) (z.g 5) (z.g 6)
def Jx(z:Sy):=@Na (z.i 1) (z.i 2) (z.i 3) (z.s 4) (z.g 5) (z.g 6)
def Np:bn 300 Gh:=bA 276 245767243367362692129139271385821503728016604324543854543610501625845425621207670256678298420598998860157320293601534641743472979889381497667939026292410524678210901 (ai Jw eN) lN λz hA=>show Fm.den (let v6:=((0:Int)=pA (z.i 1) (z.i 2) (z.i 3) (z.s 4) (z.g 5) (z.g 6));let v7:=(z.i 3=0);let v8:=((5:Int)=pA (z.i 1) (z.i 2) (z.i 3) (z.s 4) (z.g 5) (z.g 6));let v9:=(↑(z.g 6).length:Int);let v10:=(16384<(↑(z.s 4).length:Int));let v11:=((↑(z.g 5).length:Int)=0);let i4:=(z.i 2<=9007199254740992);let i7:=(0<=z.i 2/\(0:Int)<10);let j6:=(z.i 1=6);let o8:=(z.i 1=9);let z':=(z.i 2/2=0);let B':=((10:Int)≠0);let j8:=(z.i 2%10≠0);let v19:=(0<=z.i 2);let v0:Fm:=(.ax ((3:Int)=pA (z.i 1) (z.i 2) (z.i 3) (z.s 4) (z.g 5) (z.g 6)));let v5:Fm:=(.two j6 (.an j6 v0) (.two (z.i 1=7) v0 (.two (z.i 1=8) v0 (.two o8 v0 v0))));let v4:Fm:=(.two (1<=z.i 3) (.two (z.i 3<=18) (.an B' (.an i7 (.an (¬j8) v0))) v0) v0);let v3:Fm:=(.two v7 (.two (¬v9=0) v0 (.two v10 (.ax v8) (.an (¬(200<v9)) (.an (¬o8) (.ax v6))))) v0);let v2:Fm:=(.two o8 (.two v7 (.two (¬z.s 4= []) v0 (.an (¬v10) (.two (200<v9) (.ax v8) (.an o8 (.ct ((z.g 5).length<=1000000) (λy0=>(y0.p 10↔qA (z.g 5) (z.g 6))) λy0=>(.two (¬y0.p 10) v0 (.ax v6))))))) v0) v0);let v1:Fm:=(.two (v9=0) (.two (¬z.s 4= []) v0 (.an (¬v10) (.an (¬(200<v9)) (.an (¬o8) (.ax v6))))) v0);(.two (z.i 2=0) (.two v11 (.two (z.i 1=1) (.two v7 v1 v0) (.two (z.i 1=2) (.an z' (.two v7 v1 v0)) (.two (z.i 1=3) (.two v7 v1 v0) (.two (z.i 1=4) v4 (.two (z.i 1=5) (.an v19 (.an i4 (.two v7 v1 v0))) (.two j6 (.an j6 v3) (.two (z.i 1=7) v3 (.two (z.i 1=8) (.two v7 (.an v11 (.two (¬z.s 4= []) v0 (.an (¬v10) (.two (200<v9) (.ax v8) (.an (¬o8) (.ax v6)))))) v0) v2)))))))) (.two (z.i 1=1) (.two v7 v0 v0) (.two (z.i 1=2) (.an z' (.two v7 v0 v0)) (.two (z.i 1=3) (.two v7 v0 v0) (.two (z.i 1=4) v4 (.two (z.i 1=5) (.an v19 (.an i4 (.two v7 v0 v0))) (.two j6 (.an j6 (.two v7 v0 v0)) (.two (z.i 1=7) (.two v7 v0 v0) (.two (z.i 1=8) (.two v7 (.an (¬v11) v0) v0) v2))))))))) (.two v11 (.two (z.i 1=1) v0 (.two (z.i 1=2) (.two z' (.two v7 v1 v0) v0) (.two (z.i 1=3) (.two v7 v1 v0) (.two (z.i 1=4) (.two (1<=z.i 3) (.two (z.i 3<=18) (.an B' (.two i7 (.two j8 v1 v0) (.two ((z.i 2).tmod 10≠0) v1 v0))) v0) v0) (.two (z.i 1=5) (.two v19 (.two i4 (.two v7 v1 v0) v0) v0) v5))))) (.two (z.i 1=1) v0 (.two (z.i 1=2) (.two z' (.two v7 v0 v0) v0) (.two (z.i 1=3) (.two v7 v0 v0) (.two (z.i 1=4) (.two (1<=z.i 3) (.two (z.i 3<=18) (.an B' (.two i7 (.two j8 v0 v0) (.two ((z.i 2).tmod 10≠0) v0 v0))) v0) v0) (.two (z.i 1=5) (.two v19 (.two i4 (.two v7 v0 v0) v0) v0) v5)))))))) by dsimp only [Gh,va,shZ] at hA;have:=hv0 z;have:=@F8 (z.i 1) (z.i 2) (z.i 3) (z.s 4) (z.g 5) (z.g 6);have:=@F9 (z.i 1) (z.i 2) (z.i 3) (z.s 4) (z.g 5) (z.g 6);have:=@Bn (z.i 1) (z.i 2) (z.i 3) (z.s 4) (z.g 5) (z.g 6);have:=@F_ (z.i 1) (z.i 2) (z.i 3) (z.s 4) (z.g 5) (z.g 6);have:=Jx z;have:=@Ga (z.i 1) (z.i 2) (z.i 3) (z.s 4) (z.g 5) (z.g 6);have:=@Gb (z.i 1) (z.i 2) (z.i 3) (z.s 4) (z.g 5) (z.g 6);have:=@Gc (z.i 1) (z.i 2) (z.i 3) (z.s 4) (z.g 5) (z.g 6);have:=@Nb (z.i 1) (z.i 2) (z.i 3) (z.s 4) (z.g 5) (z.g 6);have:=@Bo (z.i 1) (z.i 2) (z.i 3) (z.s 4) (z.g 5) (z.g 6);have:=@Bp (z.i 1) (z.i 2) (z.i 3) (z.s 4) (z.g 5) (z.g 6);have:=@Bq (z.i 1) (z.i 2) (z.i 3) (z.s 4) (z.g 5) (z.g 6);have:=@DF (z.i 1) (z.i 2) (z.i 3) (z.s 4) (z.g 5) (z.g 6);have:=Z9 (z.i 2);exact kn
def Jy:bn 264 (fX 0):=bA 2 2 eN lN λz hA=>show Fm.den ((.an (16<z.i 7) (.ax ((9:Int)=gf 0 (z.i 1) (z.i 2) (z.i 3) (z.s 4) (z.g 5) (z.g 6))))) by
 dsimp only [fX,va,yc,vW] at hA;repeat' with_reducible first|intro _|apply bV|apply bW|apply bX|apply cy|apply cj
 all_goals first|omega|grind [ao,am,ak,gD]
abbrev Z_(a:Prop)(b c:Int)(d:Nat)(e:List G):=a/\b.toNat<c.toNat/\∀(y:Sy),(y.i 999=0->dT d e 0=0)/\(¬y.i 999=0->y.i 10=dT d e 0)->(y.i 999=0->dT d e 0=0)/\(¬y.i 999=0->y.i 10=dT d e 0)
abbrev U4(a:Int)(b:Nat)(c:Int)(d:List Nat)(e f:List G)(g h:Int):=Fm.ct (a+1=17 - ↑b/\b<=16/\tl b c d e f) (λy=>y.i 10=gf b g c h d e f)
def DM(k:Nat)(hvcheck:bn 264 (fX k)):bN 264 0 (vX k):=bM 7 537 (ai hvcheck eN) lN λp z hA=>show Fm.den (let v0:=(aK (p.g 6) (z.i 9));let v1:=(↑(p.g 6).length:Int);(.two (dq (z.i 9) (p.g 6)) (.an (cr (z.i 9) (p.g 6)) (.an ((-9223372036854775808)<=p.i 7+1/\p.i 7+1<=9223372036854775807) (U4 (p.i 7) k (gI (aa v0 1)) (gS (aa v0 3)) (gL (aa v0 4)) (gL (aa v0 5)) (gI (aa v0 0)) (gI (aa v0 2)) λy0=>(.two (y0.i 10≠0) (.ax (((1:Int)=0->dT k (p.g 6) 0=0)/\(¬(1:Int)=0->y0.i 10=dT k (p.g 6) 0))) (.an ((-9223372036854775808)<=z.i 9+1/\z.i 9+1<=9223372036854775807) (.an (v1=v1/\p.g 6=p.g 6/\p.i 7=p.i 7/\True) (.at (Z_ (p.i 7=16 - ↑k/\k<=15/\Jv k (p.g 6)/\(p.g 6).length<=1000000/\(dU (z.i 9) (p.g 6))/\dT k (p.g 6) 0=dT k (p.g 6) (z.i 9+1)) (v1-(z.i 9+1)) (v1-z.i 9) k (p.g 6))))))))) (.ax (((0:Int)=0->dT k (p.g 6) 0=0)/\(¬(0:Int)=0->(aM (have __src:=kj;PS.mk [(999,Tm.i (Int.ofNat (nat_lit 0)))] __src.loc __src.ln __src.pr __src.fz).tm).i 10=dT k (p.g 6) 0))))) by dsimp only [vX] at hA;have:=@Br k (p.g 6) (z.i 9);have:=@Gd k (p.g 6) (z.i 9);have:=@qZ k (p.g 6) (z.i 9);have:=gC k (aq (p.g 6) (z.i 9).toNat);have:=@og k (p.g 6) (z.i 9);have:=mK k (aq (p.g 6) (z.i 9).toNat);exact kn
def R8(k:Nat)(z:Sy):=@R6 k (z.i 2) (z.s 4) (z.g 5) (z.g 6)
def hv3(k:Nat)(z:Sy):=@Ng k (z.i 2) (z.s 4) (z.g 5) (z.g 6)
def v_:∀k,bn 264 (fX k)
 |0=>Jy
 |k+1=>bA 6 71 (ai Np eN) (aF (ptm:=[(0,.ag va),(1,.c (.i .i64 7))]) (DM k (v_ k)) lN) λz hA=>show Fm.den (let v0:=(↑(z.g 6).length:Int);(.an (¬(16<z.i 7)) (.ct ((z.s 4).length<=1000000/\(z.g 5).length<=1000000/\(z.g 6).length<=1000000) (λy0=>y0.i 10=pA (z.i 1) (z.i 2) (z.i 3) (z.s 4) (z.g 5) (z.g 6)) λy0=>(.two (y0.i 10≠0) (.ax (y0.i 10=gf (k+1) (z.i 1) (z.i 2) (z.i 3) (z.s 4) (z.g 5) (z.g 6))) (.cl ((v0=v0/\z.g 6=z.g 6/\z.i 7=z.i 7/\True)) (z.i 7=16 - ↑k/\k<=15/\Jv k (z.g 6)/\(z.g 6).length<=1000000/\(fJ v0)/\dT k (z.g 6) 0=dT k (z.g 6) 0) (λy1=>(y1.i 999=0->dT k (z.g 6) 0=0)/\(¬y1.i 999=0->y1.i 10=dT k (z.g 6) 0)) λy1=>(.two (y1.i 999=0) (.ax ((0:Int)=gf (k+1) (z.i 1) (z.i 2) (z.i 3) (z.s 4) (z.g 5) (z.g 6))) (.ax (y1.i 10=gf (k+1) (z.i 1) (z.i 2) (z.i 3) (z.s 4) (z.g 5) (z.g 6))))))))) by
  dsimp only [fX,va,yc,vW] at hA;have:=R8 k z;have:=hv3 k z;conv=>zeta
  repeat' with_reducible first|intro _|apply bV|apply bW|apply bX|apply cy|apply cj
  all_goals first|omega|grind [ao,am,ak,qY,te]
def Nq:bn 223 rc:=bA 1 0 (ai (v_ 16) eN) lN λz hA=>show Fm.den ((.ct ((1:Int)=17-16/\16<=16/\tl 16 (z.i 2) (z.s 4) (z.g 5) (z.g 6)) (λy0=>y0.i 10=gf 16 (z.i 1) (z.i 2) (z.i 3) (z.s 4) (z.g 5) (z.g 6)) λy0=>(.ax (y0.i 10=gf 16 (z.i 1) (z.i 2) (z.i 3) (z.s 4) (z.g 5) (z.g 6))))) by dsimp only [rc,va,yc,vW] at hA;exact kn
def W0:bn 183 U0:=bA 5 161 eN lN λz hA=>show Fm.den ((.two (0<=z.i 1) (.an ((2:Int) * (z.i 1%18446744073709551616)%18446744073709551616=qk (z.i 1)/\True) (.at (True))) (.an ((-9223372036854775808)<=z.i 1+1/\z.i 1+1<=9223372036854775807) (.an ((-9223372036854775808:Int)<=0-(z.i 1+1)/\(0:Int)-(z.i 1+1)<=9223372036854775807) (.an (((2:Int) * ((0-(z.i 1+1))%18446744073709551616)%18446744073709551616+1)%18446744073709551616=qk (z.i 1)/\True) (.at (True))))))) by dsimp only [U0,WY] at hA;have:=@R4 (z.i 1);have:=@R5 (z.i 1);exact kn
abbrev tq(a b:Int):=Fm.ct (0<=a%18446744073709551616/\a%18446744073709551616<18446744073709551616) (λy=>y.s 10=aJ b.toNat)
abbrev Gm(a b:List Nat):=a.length=a.length/\a.length<=1000000000/\b.length<=1000000
abbrev Nr(a b c d:List Nat):=a.length=b.length+c.length/\b.length+c.length<=1000000000/\d.length<=1000000
def Ns:bn 184 U2:=bA 1 0 (ai da eN) lN λz hA=>show Fm.den (let v0:=(↑(z.s 2).length:Int);(tq v0 (v0%18446744073709551616) λy0=>(.an (Gm (z.s 20) (y0.s 10)) (.an (Nr (z.s 20++y0.s 10) (z.s 20) (y0.s 10) (z.s 2)) (.an ((z.s 20++y0.s 10++z.s 2).length=(z.s 20).length+(y0.s 10).length+(z.s 2).length/\True) (.at (z.s 20++y0.s 10++z.s 2=z.s 20++(aJ (z.s 2).length++z.s 2)))))))) by dsimp only [U2] at hA;have:=@cL (((z.s 2).length:Int)%18446744073709551616) (by omega);exact i_
abbrev R9(a:List Nat)(b c:List G)(d:List Nat)(e f g:Int):=a.length=a.length/\b=b/\c=c/\d=d/\e=e/\f=f/\g=g/\True
abbrev R_(a:Prop)(b c:Int)(d:List Nat)(e)(f:Int)(g h:List G)(i:Int)(j:List Nat)(k:Int):=a/\b.toNat<c.toNat/\∀(y:Sy),y.s 20=d++vU e f g h i->y.s 20=j++vU e f g h k
abbrev Sb(a:Prop)(b:Nat)(c:List G):=a/\dT b c 0=0/\Jv b c/\c.length<=200
abbrev Gn(a:Nat)(b c d:Int)(e:List Nat)(f g:List G)(h:List Nat):=gf a b c d e f g=(0:Int)/\tl a c e f g/\h.length+x_ a e g<=100000000
def hv4(k:Nat)(p:Sy)(z:Sy):=@xY k (p.g 6) (z.i 9)
def hv5(p:Sy)(z:Sy):=@cL (((gS (aa (aq (p.g 5) (z.i 9).toNat) 0)).length:Int)%18446744073709551616) (by omega)
def Jz(k:Nat)(ag1:bn 111 (DH k)):bN 111 1 (Bz k):=bM 7 549 (ai Ns (ai ag1 eN)) lN λp z hA=>show Fm.den (let v0:=(aK (p.g 6) (z.i 9));let v2:=(gS (aa v0 3));let v3:=(gL (aa v0 5));let v4:=((-9223372036854775808)<=z.i 9+1/\z.i 9+1<=9223372036854775807);let v5:=(↑(p.g 6).length:Int);let v1:=(Sb (p.i 1=9->gQ (p.g 5) v5/\(p.g 5).length=(p.g 6).length) k (p.g 6));let v6:=(aZ (aK (p.g 5) (z.i 9)));let v7:=(gI (aa v0 1));let v8:=(gL (aa v0 4));let v9:=(dU (z.i 9) (p.g 6));let v10:=((qW (z.s 20)));let v11:=(cr (z.i 9) (p.g 6));let i4:=(z.i 9+1);let i7:=(gI (aa v0 0));let j6:=(gI (aa v0 2));(.two (dq (z.i 9) (p.g 6)) (.two (p.i 1=9) (.an (cr (z.i 9) (p.g 5)) (.cl v10 ((gS v6).length<=100000/\(z.s 20).length<=200000000) (λy0=>y0.s 20=z.s 20++(aJ (gS v6).length++gS v6)) λy0=>(.an v11 (.cl ((qW (y0.s 20))) (Gn k i7 v7 j6 v2 v8 v3 (y0.s 20)) (λy1=>y1.s 20=y0.s 20++eI k i7 v7 j6 v2 v8 v3) λy1=>(.an v4 (.an (R9 (y1.s 20) (p.g 6) (p.g 5) (p.s 4) (p.i 3) (p.i 2) (p.i 1)) (.at (R_ (v1/\v9/\(y1.s 20).length+uh (lL k) (p.g 6) i4<=100000000) (v5-i4) (v5-z.i 9) (y1.s 20) (lc k) (p.i 1) (p.g 5) (p.g 6) i4 (z.s 20) (z.i 9))))))))) (.an v11 (.cl v10 (Gn k i7 v7 j6 v2 v8 v3 (z.s 20)) (λy0=>y0.s 20=z.s 20++eI k i7 v7 j6 v2 v8 v3) λy0=>(.an v4 (.an (R9 (y0.s 20) (p.g 6) (p.g 5) (p.s 4) (p.i 3) (p.i 2) (p.i 1)) (.at (R_ (v1/\v9/\(y0.s 20).length+uh (lL k) (p.g 6) i4<=100000000) (v5-i4) (v5-z.i 9) (y0.s 20) (lc k) (p.i 1) (p.g 5) (p.g 6) i4 (z.s 20) (z.i 9)))))))) (.an (R9 (z.s 20) (p.g 6) (p.g 5) (p.s 4) (p.i 3) (p.i 2) (p.i 1)) (.at (z.s 20=z.s 20++vU (lc k) (p.i 1) (p.g 5) (p.g 6) (z.i 9)))))) by dsimp only [Bz,vp,Kds] at hA;have n1:=@Bs (lc k) (p.i 1) (p.g 5) (p.g 6) (z.i 9);have:=@Bu (lc k) (p.i 1) (p.g 5) (p.g 6) (z.i 9);have:=@Ge (lc k) (p.i 1) (p.g 5) (p.g 6) (z.i 9);have:=pB k (aq (p.g 6) (z.i 9).toNat);have:=@og k (p.g 6) (z.i 9);have:=mK k (aq (p.g 6) (z.i 9).toNat);have:=@Bv (lL k) (p.g 6) (z.i 9);have:=pC k (aq (p.g 6) (z.i 9).toNat);have:=gC k (aq (p.g 6) (z.i 9).toNat);have:=hv4 k p z;have m2:=@xX (p.g 5) (z.i 9) (p.g 6).length;have:=@oh k (aq (p.g 6) (z.i 9).toNat);have:=hv5 p z;dsimp only [vT] at n1 m2;exact i_
abbrev Sd(a b c:List Nat):=a.length=b.length+1/\b.length+1<=1000000000/\c.length<=1000000
abbrev U5(a:Int):=(0:Int)<=qk a/\qk a<(18446744073709551616:Int)
def hv6(z:Sy):=@cL (((z.s 4).length:Int)%18446744073709551616) (by omega)
def hv7(z:Sy):=@cL (((z.g 6).length:Int)%18446744073709551616) (by omega)
def Y2(k:Nat)(z:Sy):=@qY k (z.i 1) (z.i 2) (z.i 3) (z.s 4) (z.g 5) (z.g 6)
def Y3(k:Nat)(z:Sy):=@te k (z.i 1) (z.i 2) (z.i 3) (z.s 4) (z.g 5) (z.g 6)
def W1(z:Sy):=@od (z.i 1) (z.i 2) (z.i 3) (z.s 4) (z.g 5) (z.g 6)
def BE:∀k,bn 111 (DH k)
 |0=>Ko λz h=>absurd ((gD _ _ _ _ _ _).symm.trans h.1) (by decide)
 |k+1=>bA 19 4903735569 (ai W0 (ai da (ai Ns eN))) (aF (ptm:=[(1,.ag va)]) (Jz k (BE k)) lN) λz hA=>show Fm.den (let v2:=(z.i 1%256);let v3:=(z.s 20++ [v2.toNat]);let v4:=(↑(z.g 6).length:Int);let v5:=(U5 (z.i 2));let v6:=((-9223372036854775808)<=z.i 2/\z.i 2<9223372036854775808);let v7:=(xQ v3 (z.s 20));let v1:Fm:=(.cl (v7) ((z.s 4).length<=100000/\v3.length<=200000000) (λy0=>y0.s 20=z.s 20++ [v2.toNat]++(aJ (z.s 4).length++z.s 4)) λy0=>(.an (qW (y0.s 20)) (.at (y0.s 20=z.s 20++eI (k+1) (z.i 1) (z.i 2) (z.i 3) (z.s 4) (z.g 5) (z.g 6)))));let v0:Fm:=(tq v4 (v4%18446744073709551616) λy0=>(let v8:=(z.s 20++ [v2.toNat]++y0.s 10);(.an (Sd v3 (z.s 20) (y0.s 10)) (.cl ((v8.length=(z.s 20).length+1+(y0.s 10).length/\z.g 6=z.g 6/\z.g 5=z.g 5/\z.s 4=z.s 4/\z.i 3=z.i 3/\z.i 2=z.i 2/\z.i 1=z.i 1/\True)) ((Sb (z.i 1=9->gQ (z.g 5) v4/\(z.g 5).length=(z.g 6).length) k (z.g 6))/\(fJ v4)/\v8.length+uh (lL k) (z.g 6) 0<=100000000) (λy1=>y1.s 20=z.s 20++ [v2.toNat]++y0.s 10++vU (lc k) (z.i 1) (z.g 5) (z.g 6) 0) λy1=>(.an (qW (y1.s 20)) (.at (y1.s 20=z.s 20++eI (k+1) (z.i 1) (z.i 2) (z.i 3) (z.s 4) (z.g 5) (z.g 6))))))));(.an (Jm (z.s 20) (z.i 1)) (.two (z.i 1=2) (.an (v3.length=(z.s 20).length+1/\(z.s 20).length+1<=1000000000/\0<=z.i 2%256/\True) (.an ((z.s 20++ [v2.toNat]++ [(z.i 2%256).toNat]).length=(z.s 20).length+1+1/\True) (.at (z.s 20++ [v2.toNat]++ [(z.i 2%256).toNat]=z.s 20++eI (k+1) (z.i 1) (z.i 2) (z.i 3) (z.s 4) (z.g 5) (z.g 6))))) (.two (z.i 1=3) (.ct v6 (λy0=>True) λy0=>(.ct v5 (λy1=>y1.s 10=aJ (qk (z.i 2)).toNat) λy1=>(.an (Sd v3 (z.s 20) (y1.s 10)) (.an ((z.s 20++ [v2.toNat]++y1.s 10).length=(z.s 20).length+1+(y1.s 10).length/\True) (.at (z.s 20++ [v2.toNat]++y1.s 10=z.s 20++eI (k+1) (z.i 1) (z.i 2) (z.i 3) (z.s 4) (z.g 5) (z.g 6))))))) (.two (z.i 1=4) (.ct v6 (λy0=>True) λy0=>(.ct v5 (λy1=>y1.s 10=aJ (qk (z.i 2)).toNat) λy1=>(.an (Sd v3 (z.s 20) (y1.s 10)) (.an ((z.s 20++ [v2.toNat]++y1.s 10).length=(z.s 20).length+1+(y1.s 10).length/\(z.s 20).length+1+(y1.s 10).length<=1000000000/\0<=z.i 3%256/\True) (.an ((z.s 20++ [v2.toNat]++y1.s 10++ [(z.i 3%256).toNat]).length=(z.s 20).length+1+(y1.s 10).length+1/\True) (.at (z.s 20++ [v2.toNat]++y1.s 10++ [(z.i 3%256).toNat]=z.s 20++eI (k+1) (z.i 1) (z.i 2) (z.i 3) (z.s 4) (z.g 5) (z.g 6)))))))) (.two (z.i 1=5) (tq (z.i 2) (z.i 2%18446744073709551616) λy0=>(.an (Sd v3 (z.s 20) (y0.s 10)) (.an ((z.s 20++ [v2.toNat]++y0.s 10).length=(z.s 20).length+1+(y0.s 10).length/\True) (.at (z.s 20++ [v2.toNat]++y0.s 10=z.s 20++eI (k+1) (z.i 1) (z.i 2) (z.i 3) (z.s 4) (z.g 5) (z.g 6)))))) (.two (z.i 1=6) (.an (z.i 1=6) v1) (.two (z.i 1=7) v1 (.two (z.i 1=8) (.an (z.i 1=8) v0) (.two (z.i 1=9) v0 (.an v7 (.at (z.s 20++ [v2.toNat]=z.s 20++eI (k+1) (z.i 1) (z.i 2) (z.i 3) (z.s 4) (z.g 5) (z.g 6)))))))))))))) by
  dsimp only [DH,Nm,va,vW,yc,Nk] at hA;have:=R8 k z;have:=hv3 k z;have:=@cL (qk (z.i 2));have:=@cL (z.i 2%18446744073709551616) (by omega);have:=hv6 z;have:=hv7 z;have:=@ya (z.i 2);have v3:(z.s 4).length<=1000000->(((z.s 4).length:Int)%18446744073709551616).toNat=(z.s 4).length:=λh=>by omega
  have v4:(z.g 6).length<=1000000->(((z.g 6).length:Int)%18446744073709551616).toNat=(z.g 6).length:=λh=>by omega
  have:=@tg k (z.i 1) (z.i 2) (z.i 3) (z.s 4) (z.g 5) (z.g 6);have:=@q_ k (z.i 1) (z.i 2) (z.i 3) (z.s 4) (z.g 5) (z.g 6);have:=@xZ k (z.i 1) (z.i 2) (z.i 3) (z.s 4) (z.g 5) (z.g 6);have:=@th k (z.i 1) (z.i 2) (z.i 3) (z.s 4) (z.g 5) (z.g 6);have:=@oe k (z.i 1) (z.i 2) (z.i 3) (z.s 4) (z.g 5) (z.g 6);have:=@ti k (z.i 1) (z.i 2) (z.i 3) (z.s 4) (z.g 5) (z.g 6);have:=@tj k (z.i 1) (z.i 2) (z.i 3) (z.s 4) (z.g 5) (z.g 6);have:=Y2 k z;have:=Y3 k z;have c3:=W1 z;have:=hv0 z;have:=Jx z;have:=Bw k (z.s 4) (z.g 6);dsimp only [qA] at c3;exact i_
def o_zig:bn 266 WY:=bA 3 1 eN lN λz hA=>show Fm.den (let v0:=(aC (nV) (z.i 1/9223372036854775808%18446744073709551616));(.two ((-9223372036854775808)<=z.i 1 * 2/\z.i 1 * 2<=9223372036854775807) (.an (IntKind.u64.wrap (Int.ofNat ((aC (nV) (z.i 1 * 2%18446744073709551616)).xor v0))=qk (z.i 1)/\True) (.at (True))) (.an (IntKind.u64.wrap (Int.ofNat ((aC (nV) (IntKind.i64.wrap (z.i 1 * 2)%18446744073709551616)).xor v0))=qk (z.i 1)/\True) (.at (True))))) by
 have hB:True/\(-9223372036854775808:Int)<=z.i 1/\z.i 1<9223372036854775808:=⟨trivial,hA⟩
 conv=>zeta
 repeat' with_reducible first|intro _|apply bV|apply bW|apply bX|apply cy|apply cj
 all_goals first|omega|(exact WT hB.2 rfl)|(exact⟨WT hB.2 rfl,trivial⟩)|(exact⟨WT hB.2 (WU _),trivial⟩)|grind [ao,am,ak]
abbrev we(a b c:List Nat):=a.length=b.length+c.length/\True
def Nt:bn 265 U1:=bA 1 0 (ai ge eN) lN λz hA=>show Fm.den ((.ct (FK (z.i 1)) (λy0=>y0.s 10=aJ (z.i 1).toNat) λy0=>(.an (Gm (z.s 20) (y0.s 10)) (.an (we (z.s 20++y0.s 10) (z.s 20) (y0.s 10)) (.at (z.s 20++y0.s 10=z.s 20++aJ (z.i 1).toNat)))))) by dsimp only [U1] at hA;have:=@cL (z.i 1);exact kn
abbrev Nu(a:List Nat)(b c:List G)(d:List Nat)(e f g h:Int):=a.length=a.length/\b=b/\c=c/\d=d/\e=e/\f=f/\g=g/\h=h/\b=b/\True
def Se(k:Nat)(as0:bn 224 (Nm k)):bN 224 1 (Nl k):=bM 7 549 (ai Nt (ai as0 eN)) lN λp z hA=>show Fm.den (let v0:=(aK (p.g 6) (z.i 9));let v1:=(aZ (aK (p.g 5) (z.i 9)));let v2:=(↑(p.g 6).length:Int);let v3:=(Sb (p.i 1=9->gQ (p.g 5) v2/\(p.g 5).length=(p.g 6).length) k (p.g 6));let v4:=(gS (aa v0 3));let v5:=(gL (aa v0 5));let v6:=((-9223372036854775808)<=z.i 9+1/\z.i 9+1<=9223372036854775807);let v7:=(gI (aa v0 1));let v8:=(gL (aa v0 4));let v9:=(dU (z.i 9) (p.g 6));let v10:=(↑(gS v1).length:Int);let v11:=((qW (z.s 20)));let i4:=(cr (z.i 9) (p.g 5));let i7:=(z.i 9+1);let j6:=(gI (aa v0 0));let o8:=(gI (aa v0 2));(.two (dq (z.i 9) (p.g 6)) (.an (cr (z.i 9) (p.g 6)) (.two (p.i 1=9) (.an i4 (.cl v11 (((0:Int)<=v10%18446744073709551616/\v10%(18446744073709551616:Int)<18446744073709551616)/\(z.s 20).length<=900000000) (λy0=>y0.s 20=z.s 20++aJ (v10%(18446744073709551616:Int)).toNat) λy0=>(.an i4 (.an (Gm (y0.s 20) (gS v1)) (.cl ((we (y0.s 20++gS v1) (y0.s 20) (gS v1))) (Gn k j6 v7 o8 v4 v8 v5 (y0.s 20++gS v1)) (λy1=>y1.s 20=y0.s 20++gS v1++eI k j6 v7 o8 v4 v8 v5) λy1=>(.an v6 (.an (Nu (y1.s 20) (p.g 6) (p.g 5) (p.s 4) (p.i 3) (p.i 2) (p.i 1) v2) (.at (R_ (v3/\v9/\(y1.s 20).length+uh (lL k) (p.g 6) i7<=100000000) (v2-i7) (v2-z.i 9) (y1.s 20) (lc k) (p.i 1) (p.g 5) (p.g 6) i7 (z.s 20) (z.i 9)))))))))) (.cl v11 (Gn k j6 v7 o8 v4 v8 v5 (z.s 20)) (λy0=>y0.s 20=z.s 20++eI k j6 v7 o8 v4 v8 v5) λy0=>(.an v6 (.an (Nu (y0.s 20) (p.g 6) (p.g 5) (p.s 4) (p.i 3) (p.i 2) (p.i 1) v2) (.at (R_ (v3/\v9/\(y0.s 20).length+uh (lL k) (p.g 6) i7<=100000000) (v2-i7) (v2-z.i 9) (y0.s 20) (lc k) (p.i 1) (p.g 5) (p.g 6) i7 (z.s 20) (z.i 9)))))))) (.an (R9 (z.s 20) (p.g 6) (p.g 5) (p.s 4) (p.i 3) (p.i 2) (p.i 1)) (.at (z.s 20=z.s 20++vU (lc k) (p.i 1) (p.g 5) (p.g 6) (z.i 9)))))) by dsimp only [Nl,WZ,vp,Kds] at hA;have n1:=@Bs (lc k) (p.i 1) (p.g 5) (p.g 6) (z.i 9);have:=@Bu (lc k) (p.i 1) (p.g 5) (p.g 6) (z.i 9);have:=@Ge (lc k) (p.i 1) (p.g 5) (p.g 6) (z.i 9);have:=pB k (aq (p.g 6) (z.i 9).toNat);have:=@og k (p.g 6) (z.i 9);have:=mK k (aq (p.g 6) (z.i 9).toNat);have:=@Bv (lL k) (p.g 6) (z.i 9);have:=pC k (aq (p.g 6) (z.i 9).toNat);have:=gC k (aq (p.g 6) (z.i 9).toNat);have:=hv4 k p z;have m2:=@xX (p.g 5) (z.i 9) (p.g 6).length;have:=@oh k (aq (p.g 6) (z.i 9).toNat);have:=hv5 p z;dsimp only [vT] at n1 m2;exact i_
abbrev Tq1(a:Int):=0<=a%18446744073709551616/\a%18446744073709551616<18446744073709551616
abbrev Nv(a b:Prop)(c d:List Nat)(e f:Int):=Fm.cl a (b/\c.length<=900000000) (λy=>y.s 20=d++ [e.toNat]++aJ f.toNat)
def Nw:∀k,bn 224 (Nm k)
 |0=>Ko λz h=>absurd ((gD _ _ _ _ _ _).symm.trans h.1) (by decide)
 |k+1=>bA 19 4903735569 (ai o_zig (ai Nt eN)) (aF (ptm:=[(1,.ag va)]) (Se k (Nw k)) lN) λz hA=>show Fm.den (let v4:=(↑(z.g 6).length:Int);let v6:=(z.i 1%256);let v3:=(z.s 20++ [v6.toNat]);let v2:=(xQ v3 (z.s 20));let v5:=((U5 (z.i 2))/\v3.length<=900000000);let v7:=((-9223372036854775808)<=z.i 2/\z.i 2<9223372036854775808);let v8:=(↑(z.s 4).length:Int);let v1:Fm:=(Nv (v2) (Tq1 v8) v3 (z.s 20) v6 (v8%18446744073709551616) λy0=>(.an (Gm (y0.s 20) (z.s 4)) (.an (we (y0.s 20++z.s 4) (y0.s 20) (z.s 4)) (.at (y0.s 20++z.s 4=z.s 20++eI (k+1) (z.i 1) (z.i 2) (z.i 3) (z.s 4) (z.g 5) (z.g 6))))));let v0:Fm:=(Nv (v2) (Tq1 v4) v3 (z.s 20) v6 (v4%18446744073709551616) λy0=>(.cl ((Nu (y0.s 20) (z.g 6) (z.g 5) (z.s 4) (z.i 3) (z.i 2) (z.i 1) v4)) ((Sb (z.i 1=9->gQ (z.g 5) v4/\(z.g 5).length=(z.g 6).length) k (z.g 6))/\(fJ v4)/\(y0.s 20).length+uh (lL k) (z.g 6) 0<=100000000) (λy1=>y1.s 20=y0.s 20++vU (lc k) (z.i 1) (z.g 5) (z.g 6) 0) λy1=>(.an (qW (y1.s 20)) (.at (y1.s 20=z.s 20++eI (k+1) (z.i 1) (z.i 2) (z.i 3) (z.s 4) (z.g 5) (z.g 6))))));(.an (Jm (z.s 20) (z.i 1)) (.two (z.i 1=2) (.an (v3.length=(z.s 20).length+1/\(z.s 20).length+1<=1000000000/\0<=z.i 2%256/\True) (.an ((z.s 20++ [v6.toNat]++ [(z.i 2%256).toNat]).length=(z.s 20).length+1+1/\True) (.at (z.s 20++ [v6.toNat]++ [(z.i 2%256).toNat]=z.s 20++eI (k+1) (z.i 1) (z.i 2) (z.i 3) (z.s 4) (z.g 5) (z.g 6))))) (.two (z.i 1=3) (.ct v7 (λy0=>True) λy0=>(.cl (v2) v5 (λy1=>y1.s 20=z.s 20++ [v6.toNat]++aJ (qk (z.i 2)).toNat) λy1=>(.an (qW (y1.s 20)) (.at (y1.s 20=z.s 20++eI (k+1) (z.i 1) (z.i 2) (z.i 3) (z.s 4) (z.g 5) (z.g 6)))))) (.two (z.i 1=4) (.ct v7 (λy0=>True) λy0=>(.cl (v2) v5 (λy1=>y1.s 20=z.s 20++ [v6.toNat]++aJ (qk (z.i 2)).toNat) λy1=>(.an (Jm (y1.s 20) (z.i 3)) (.an (xQ (y1.s 20++ [(z.i 3%256).toNat]) (y1.s 20)) (.at (y1.s 20++ [(z.i 3%256).toNat]=z.s 20++eI (k+1) (z.i 1) (z.i 2) (z.i 3) (z.s 4) (z.g 5) (z.g 6))))))) (.two (z.i 1=5) (Nv (v2) (Tq1 (z.i 2)) v3 (z.s 20) v6 (z.i 2%18446744073709551616) λy0=>(.an (qW (y0.s 20)) (.at (y0.s 20=z.s 20++eI (k+1) (z.i 1) (z.i 2) (z.i 3) (z.s 4) (z.g 5) (z.g 6))))) (.two (z.i 1=6) (.an (z.i 1=6) v1) (.two (z.i 1=7) v1 (.two (z.i 1=8) (.an (z.i 1=8) v0) (.two (z.i 1=9) v0 (.an v2 (.at (z.s 20++ [v6.toNat]=z.s 20++eI (k+1) (z.i 1) (z.i 2) (z.i 3) (z.s 4) (z.g 5) (z.g 6)))))))))))))) by
  dsimp only [Nm,va,vW,yc,Nk] at hA;have:=R8 k z;have:=hv3 k z;have:=@cL (qk (z.i 2));have:=@cL (z.i 2%18446744073709551616) (by omega);have:=hv6 z;have:=hv7 z;have:=@ya (z.i 2);have v3:(z.s 4).length<=1000000->(((z.s 4).length:Int)%18446744073709551616).toNat=(z.s 4).length:=λh=>by omega
  have v4:(z.g 6).length<=1000000->(((z.g 6).length:Int)%18446744073709551616).toNat=(z.g 6).length:=λh=>by omega
  have:=@tg k (z.i 1) (z.i 2) (z.i 3) (z.s 4) (z.g 5) (z.g 6);have:=@q_ k (z.i 1) (z.i 2) (z.i 3) (z.s 4) (z.g 5) (z.g 6);have:=@xZ k (z.i 1) (z.i 2) (z.i 3) (z.s 4) (z.g 5) (z.g 6);have:=@th k (z.i 1) (z.i 2) (z.i 3) (z.s 4) (z.g 5) (z.g 6);have:=@oe k (z.i 1) (z.i 2) (z.i 3) (z.s 4) (z.g 5) (z.g 6);have:=@ti k (z.i 1) (z.i 2) (z.i 3) (z.s 4) (z.g 5) (z.g 6);have:=@tj k (z.i 1) (z.i 2) (z.i 3) (z.s 4) (z.g 5) (z.g 6);have:=Y2 k z;have:=Y3 k z;have c3:=W1 z;have:=hv0 z;have:=Jx z;have:=Bw k (z.s 4) (z.g 6);dsimp only [qA] at c3;exact i_
def Gp(z:Sy)(h:vW 16 z=0)(hv:yc 16 z):(Nk 16 z).length<=x_ 16 (z.s 4) (z.g 6):=
 oh 16 (.node [.int (z.i 1),.int (z.i 2),.int (z.i 3),.str (z.s 4),.node (z.g 5),.node (z.g 6)]) ((gC 16 _).symm.trans h) ((mK 16 _)▸hv) |> λh=>by rw[←pB, ←pC] at h;exact h
def Nx(z:Sy)(h:vW 16 z=0):R7 16 (z.s 4) (z.g 6)<=(Nk 16 z).length:=
 Nj 16 (.node [.int (z.i 1),.int (z.i 2),.int (z.i 3),.str (z.s 4),.node (z.g 5),.node (z.g 6)]) ((gC 16 _).symm.trans h) |> λh=>by rw[←pB, ←DG] at h;exact h
abbrev U6(a b:List G)(c:List Nat)(d e f g:Int):=a=a/\b=b/\c=c/\d=d/\e=e/\f=f/\g=g/\a=a/\b=b/\c=c/\d=d/\e=e/\f=f/\True
def DN:bN 182 1 vY:=bM 62 996920995764833359449776373990861477 eN lN λp z hA=>show Fm.den (let v2:=(↑(gS (aZ (aK (p.g 5) (z.i 9)))).length:Int);let v3:=(U6 (p.g 6) (p.g 5) (p.s 4) (p.i 3) (p.i 2) (p.i 1) (p.i 7));let v4:=(0<z.i 9);let v5:=(↑(p.g 5).length:Int);let v6:=(v2<(1:Int));let v7:=((40:Int)<v2);let v8:=(cr (z.i 9) (p.g 5));let v1:Fm:=(.an (DL (p.g 6) (p.g 5) (p.s 4) (p.i 3) (p.i 2) (p.i 1)) (.at (((1:Int)=0->gQ (p.g 5) v5)/\(¬(1:Int)=0->(3:Int)=3/\¬gQ (p.g 5) v5))));let v0:Fm:=(.an ((-9223372036854775808)<=z.i 9+1/\z.i 9+1<=9223372036854775807) (.an v3 (.at (((p.g 5).length<=1000000/\(dU (z.i 9) (p.g 5))/\gQ (p.g 5) (z.i 9+1))/\(v5-(z.i 9+1)).toNat<(v5-z.i 9).toNat/\∀(y:Sy),(y.i 999=0->gQ (p.g 5) v5)/\(¬y.i 999=0->y.i 10=3/\¬gQ (p.g 5) v5)->(y.i 999=0->gQ (p.g 5) v5)/\(¬y.i 999=0->y.i 10=3/\¬gQ (p.g 5) v5)))));(.two (dq (z.i 9) (p.g 5)) (.an v8 (.two v6 (.an v6 (.an v6 (.an v6 (.an v6 (.an v6 (.an v6 (.an v6 v1))))))) (.an (¬v6) (.an (¬v6) (.an (¬v6) (.an v8 (.an (¬v6) (.an (¬v6) (.an (¬v6) (.an (¬v6) (.two v7 (.an v7 (.an v7 (.an v7 (.an v7 v1)))) (.an (¬v7) (.an (¬v7) (.two v4 (.an v4 (.an v4 (.an v4 (.an v8 (.an v4 (.an v4 (.an v4 (.an v4 (.an v4 (.an ((-9223372036854775808)<=z.i 9-1/\z.i 9-1<=9223372036854775807) (.an v4 (.an (0<=z.i 9-1/\z.i 9-1 < ↑(p.g 5).length) (.an v4 (.an v4 (.an (¬v7) (.an v4 (.an (¬v7) (.two (mV (gS (aZ (aK (p.g 5) (z.i 9-1)))) (gS (aZ (aK (p.g 5) (z.i 9))))=false) v1 v0)))))))))))))))))) (.an (¬v4) (.an (¬v4) (.an (¬v4) (.an (¬v4) (.an (¬v4) (.an (¬v4) (.an (¬v4) (.an (¬v4) (.an (¬v4) (.an (¬v4) (.an (¬v4) (.an (¬v7) (.an (¬v4) (.an (¬v7) v0)))))))))))))))))))))))))))) (.an v3 (.at (((0:Int)=0->gQ (p.g 5) v5)/\(¬(0:Int)=0->(aM (((((((PS.mk [(999,Tm.i (Int.ofNat (nat_lit 0)))] ((0,(bH 0).fst,0)::kj.loc) kj.ln (p.i 7=p.i 7/\p.g 6=p.g 6/\p.g 5=p.g 5/\p.s 4=p.s 4/\p.i 3=p.i 3/\p.i 2=p.i 2/\p.i 1=p.i 1/\kj.pr) kj.fz).and (cI (p.i 1))).and (cI (p.i 2))).and (cI (p.i 3))).and (p.s 4=p.s 4)).and (p.g 5=p.g 5)).and (p.g 6=p.g 6)).tm).i 10=(3:Int)/\¬gQ (p.g 5) v5)))))) by
 dsimp only [vY,vp] at hA;have e1:=@F7 (p.g 5) (z.i 9) (p.g 5).length;have e2:=@Bm (p.g 5) (z.i 9);dsimp only [M9,vT] at e1 e2;conv=>zeta
 repeat' with_reducible first|intro _|apply bV|apply bW|apply bX|apply cy|apply cj
 all_goals first|omega|grind [ao,am,ak,M_]
def JA:bn 182 (fX 0):=bA 2 2 eN lN λz hA=>show Fm.den ((.an (16<z.i 7) (.ax ((9:Int)=gf 0 (z.i 1) (z.i 2) (z.i 3) (z.s 4) (z.g 5) (z.g 6))))) by
 dsimp only [fX,va,yc,vW] at hA;repeat' with_reducible first|intro _|apply bV|apply bW|apply bX|apply cy|apply cj
 all_goals first|omega|grind [ao,am,ak,gD]
def DO(k:Nat)(hrcheck:bn 182 (yd k)):bN 182 3 (vZ k):=bM 7 537 (ai hrcheck eN) lN λp z hA=>show Fm.den (let v0:=(aK (p.g 6) (z.i 9));let v1:=(DL (p.g 6) (p.g 5) (p.s 4) (p.i 3) (p.i 2) (p.i 1));(.two (dq (z.i 9) (p.g 6)) (.an (cr (z.i 9) (p.g 6)) (.an ((-9223372036854775808)<=p.i 7+1/\p.i 7+1<=9223372036854775807) (U4 (p.i 7) k (gI (aa v0 1)) (gS (aa v0 3)) (gL (aa v0 4)) (gL (aa v0 5)) (gI (aa v0 0)) (gI (aa v0 2)) λy0=>(.two (y0.i 10≠0) (.an v1 (.at (((1:Int)=0->dT k (p.g 6) 0=0)/\(¬(1:Int)=0->y0.i 10=dT k (p.g 6) 0)))) (.an ((-9223372036854775808)<=z.i 9+1/\z.i 9+1<=9223372036854775807) (.an (p.g 6=p.g 6/\p.g 5=p.g 5/\p.s 4=p.s 4/\p.i 3=p.i 3/\p.i 2=p.i 2/\p.i 1=p.i 1/\p.i 7=p.i 7/\True) (.at (Z_ (p.i 7=16 - ↑k/\k<=15/\Jv k (p.g 6)/\(p.g 6).length<=1000000/\(dU (z.i 9) (p.g 6))/\dT k (p.g 6) 0=dT k (p.g 6) (z.i 9+1)) ((↑(p.g 6).length:Int)-(z.i 9+1)) ((↑(p.g 6).length:Int)-z.i 9) k (p.g 6))))))))) (.an v1 (.at (((0:Int)=0->dT k (p.g 6) 0=0)/\(¬(0:Int)=0->(aM ((((((((have __src:=kj;PS.mk [(999,Tm.i (Int.ofNat (nat_lit 0)))] __src.loc __src.ln __src.pr __src.fz).name (0,base+0,up (mF bH z 0 (BSh.cells 25 (vp p))))).and (cI (p.i 1))).and (cI (p.i 2))).and (cI (p.i 3))).and (p.s 4=p.s 4)).and (p.g 5=p.g 5)).and (p.g 6=p.g 6)).tm).i 10=dT k (p.g 6) 0)))))) by dsimp only [vZ,vp] at hA;have:=@Br k (p.g 6) (z.i 9);have:=@Gd k (p.g 6) (z.i 9);have:=@qZ k (p.g 6) (z.i 9);have:=gC k (aq (p.g 6) (z.i 9).toNat);have:=@og k (p.g 6) (z.i 9);have:=mK k (aq (p.g 6) (z.i 9).toNat);exact kn
def wg:∀k,bn 182 (yd k)
 |0=>JA
 |k+1=>bA 234 953442819000121726201262095695649363329921864283241058312356325173683069069044876558159509452364324075753668357220830729648882722404320343 eN (aF (ptm:=[(0,.ag va),(1,.c (.i .i64 7))]) DN (aF (ptm:=[(0,.ag va),(1,.c (.i .i64 7))]) (DO k (wg k)) lN)) λz hA=>show Fm.den (let zw:=(0:Int)<=0;let v9:=(↑(z.g 5).length:Int);let v10:=((z.g 6=z.g 6/\z.g 5=z.g 5/\z.s 4=z.s 4/\z.i 3=z.i 3/\z.i 2=z.i 2/\z.i 1=z.i 1/\z.i 7=z.i 7/\True));let v11:=(↑(z.g 6).length:Int);let v8:=(z.i 7=16 - ↑k/\k<=15/\Jv k (z.g 6)/\(z.g 6).length<=1000000/\(zw/\0<=v11)/\dT k (z.g 6) 0=dT k (z.g 6) 0);let i4:=(z.i 3≠0);let i7:=(z.i 1=8);let j6:=(z.s 4≠ []);let o8:=((0:Int)=gf (k+1) (z.i 1) (z.i 2) (z.i 3) (z.s 4) (z.g 5) (z.g 6));let z':=(z.i 2≠0);let B':=(0<=z.i 2/\(0:Int)<10);let v4:Fm:=(.ax ((5:Int)=gf (k+1) (z.i 1) (z.i 2) (z.i 3) (z.s 4) (z.g 5) (z.g 6)));let v1:Fm:=(.cl v10 v8 (λy0=>(y0.i 999=0->dT k (z.g 6) 0=0)/\(¬y0.i 999=0->y0.i 10=dT k (z.g 6) 0)) λy0=>(.two (y0.i 999=0) (.ax o8) (.ax (y0.i 10=gf (k+1) (z.i 1) (z.i 2) (z.i 3) (z.s 4) (z.g 5) (z.g 6)))));let v0:Fm:=(.ax ((3:Int)=gf (k+1) (z.i 1) (z.i 2) (z.i 3) (z.s 4) (z.g 5) (z.g 6)));let v7:Fm:=(.two z' v0 (.two i4 v0 v0));let v6:Fm:=(.two z' v0 (.two i4 v0 (.two (0<v9) v0 (.two (16384<(↑(z.s 4).length:Int)) v4 v1))));let v5:Fm:=(.two i4 v0 (.two j6 v0 v0));let v3:Fm:=(.two j6 v0 (.two (0<v9) v0 v1));let v2:Fm:=(.an (¬i7) (.two (v9≠v11) v0 (.cl ((U6 (z.g 6) (z.g 5) (z.s 4) (z.i 3) (z.i 2) (z.i 1) (z.i 7))) ((z.g 5).length<=1000000/\(zw/\0<=v9)/\gQ (z.g 5) 0) (λy0=>(y0.i 999=0->gQ (z.g 5) v9)/\(¬y0.i 999=0->y0.i 10=3/\¬gQ (z.g 5) v9)) λy0=>(.two (y0.i 999=0) (.cl v10 v8 (λy1=>(y1.i 999=0->dT k (z.g 6) 0=0)/\(¬y1.i 999=0->y1.i 10=dT k (z.g 6) 0)) λy1=>(.two (y1.i 999=0) (.ax o8) (.ax (y1.i 10=gf (k+1) (z.i 1) (z.i 2) (z.i 3) (z.s 4) (z.g 5) (z.g 6))))) (.ax (y0.i 10=gf (k+1) (z.i 1) (z.i 2) (z.i 3) (z.s 4) (z.g 5) (z.g 6)))))));(.an (¬(16<z.i 7)) (.two (0<v11) (.two (z.i 1=1) (.two z' v0 v5) (.two (z.i 1=2) (.two (z.i 2<0) v0 (.two (1<z.i 2) v0 v5)) (.two (z.i 1=3) v5 (.two (z.i 1=4) (.two (z.i 3<1) v0 (.two (18<z.i 3) v0 (.an ((10:Int)≠0) (.two B' (.two (z.i 2%10=0) v0 (.two j6 v0 v0)) (.two ((z.i 2).tmod 10=0) v0 (.two j6 v0 v0)))))) (.two (z.i 1=5) (.two (z.i 2<0) v0 (.two (9007199254740992<z.i 2) v0 v5)) (.two (z.i 1=6) (.an (z.i 1=6) v7) (.two (z.i 1=7) v7 (.two i7 (.an i7 (.two z' v0 (.two i4 v0 (.two j6 v0 (.an i7 (.two (0<v9) v0 (.two (200<v11) v4 (.an i7 v1)))))))) (.two (z.i 1=9) (.two z' v0 (.two i4 v0 (.two j6 v0 (.an (¬i7) (.two (200<v11) v4 v2))))) v0))))))))) (.two (z.i 1=1) (.two z' v0 (.two i4 v0 v3)) (.two (z.i 1=2) (.two (z.i 2<0) v0 (.two (1<z.i 2) v0 (.two i4 v0 v3))) (.two (z.i 1=3) (.two i4 v0 v3) (.two (z.i 1=4) (.two (z.i 3<1) v0 (.two (18<z.i 3) v0 (.an ((10:Int)≠0) (.two B' (.two (z.i 2%10=0) v0 v3) (.two ((z.i 2).tmod 10=0) v0 v3))))) (.two (z.i 1=5) (.two (z.i 2<0) v0 (.two (9007199254740992<z.i 2) v0 (.two i4 v0 v3))) (.two (z.i 1=6) (.an (z.i 1=6) v6) (.two (z.i 1=7) v6 (.two i7 (.an i7 (.two z' v0 (.two i4 v0 (.two j6 v0 (.an i7 (.two (0<v9) v0 (.an (¬(200<v11)) (.an i7 v1)))))))) (.two (z.i 1=9) (.two z' v0 (.two i4 v0 (.two j6 v0 (.an (¬i7) (.an (¬(200<v11)) v2))))) v0)))))))))))) by dsimp only [yd,fX,va,yc,vW] at hA;have:=hv0 z;have:=@F8 (z.i 1) (z.i 2) (z.i 3) (z.s 4) (z.g 5) (z.g 6);have:=@F9 (z.i 1) (z.i 2) (z.i 3) (z.s 4) (z.g 5) (z.g 6);have:=@Bn (z.i 1) (z.i 2) (z.i 3) (z.s 4) (z.g 5) (z.g 6);have:=@F_ (z.i 1) (z.i 2) (z.i 3) (z.s 4) (z.g 5) (z.g 6);have:=Jx z;have:=@Ga (z.i 1) (z.i 2) (z.i 3) (z.s 4) (z.g 5) (z.g 6);have:=@Gb (z.i 1) (z.i 2) (z.i 3) (z.s 4) (z.g 5) (z.g 6);have:=@Gc (z.i 1) (z.i 2) (z.i 3) (z.s 4) (z.g 5) (z.g 6);have:=@Nb (z.i 1) (z.i 2) (z.i 3) (z.s 4) (z.g 5) (z.g 6);have:=@Bo (z.i 1) (z.i 2) (z.i 3) (z.s 4) (z.g 5) (z.g 6);have:=@Bp (z.i 1) (z.i 2) (z.i 3) (z.s 4) (z.g 5) (z.g 6);have f3:=@Bq (z.i 1) (z.i 2) (z.i 3) (z.s 4) (z.g 5) (z.g 6);have f4:=@DF (z.i 1) (z.i 2) (z.i 3) (z.s 4) (z.g 5) (z.g 6);have:=Z9 (z.i 2);dsimp only [qA] at f3 f4;have:=Y2 k z;have:=Y3 k z;have:=@Bl (z.g 5) 0;have:=R8 k z;have:=hv3 k z;exact kn
def Ny:bn 109 Gi:=bA 1 0 (ai (wg 16) eN) lN λz hA=>show Fm.den ((.ct ((1:Int)=17-16/\16<=16/\tl 16 (z.i 2) (z.s 4) (z.g 5) (z.g 6)) (λy0=>y0.i 10=gf 16 (z.i 1) (z.i 2) (z.i 3) (z.s 4) (z.g 5) (z.g 6)) λy0=>(.ax (y0.i 10=gf 16 (z.i 1) (z.i 2) (z.i 3) (z.s 4) (z.g 5) (z.g 6))))) by dsimp only [Gi,rc,va,yc,vW] at hA;exact kn
abbrev BF(a:Int):=0<=a/\a<=2000000
def JB(k:Nat)(al_:bn 110 (DK k)):bN 110 0 (BC k):=bM 6 37 (ai al_ eN) lN λp z hA=>show Fm.den (let v1:=(aK (p.g 6) (z.i 9));let v2:=(DL (p.g 6) (p.g 5) (p.s 4) (p.i 3) (p.i 2) (p.i 1));let v3:=(vV k (p.g 6) 0);let v4:=(↑(R7 k (gS (aa v1 3)) (gL (aa v1 5))):Int);let v5:=(↑v3:Int);let v0:Fm:=(.an v2 (.at ((BF (z.i 7))/\(z.i 7<=65536->p.i 7+ ↑v3=z.i 7)/\(65536<z.i 7->65536<p.i 7+v5))));(.two (dq (z.i 9) (p.g 6)) (.two (z.i 7<=65536) (.an (cr (z.i 9) (p.g 6)) (.ct (gf k (gI (aa v1 0)) (gI (aa v1 1)) (gI (aa v1 2)) (gS (aa v1 3)) (gL (aa v1 4)) (gL (aa v1 5))=(0:Int)/\0<=z.i 7/\z.i 7<=65536) (λy0=>(BF (y0.i 7))/\(y0.i 7<=65536->z.i 7+v4=y0.i 7)/\(65536<y0.i 7->65536<z.i 7+v4)/\(y0.p 10↔65536<y0.i 7)) λy0=>(.an ((-9223372036854775808)<=z.i 9+1/\z.i 9+1<=9223372036854775807) (.an v2 (.at ((dT k (p.g 6) 0=0/\(p.g 6).length<=200/\(dU (z.i 9) (p.g 6))/\(BF (y0.i 7))/\(y0.i 7<=65536->p.i 7+ ↑v3=y0.i 7+ ↑(vV k (p.g 6) (z.i 9+1)))/\(65536<y0.i 7->65536<p.i 7+v5))/\((↑(p.g 6).length:Int)-(z.i 9+1)).toNat<((↑(p.g 6).length:Int)-z.i 9).toNat/\∀(y:Sy),(0<=y.i 7/\y.i 7<=2000000)/\(y.i 7<=65536->p.i 7+ ↑v3=y.i 7)/\(65536<y.i 7->65536<p.i 7+v5)->(0<=y.i 7/\y.i 7<=2000000)/\(y.i 7<=65536->p.i 7+ ↑v3=y.i 7)/\(65536<y.i 7->65536<p.i 7+v5))))))) v0) v0)) by dsimp only [BC,vp] at hA;have:=@Bx k (p.g 6) (z.i 9);have:=@yb k (p.g 6) (z.i 9);have:=DG k (aq (p.g 6) (z.i 9).toNat);have:=gC k (aq (p.g 6) (z.i 9).toNat);have:=hv4 k p z;exact kn
def BG:∀k,bn 110 (DK k)
 |0=>Ko λz h=>absurd ((gD _ _ _ _ _ _).symm.trans h.1) (by decide)
 |k+1=>bA 4 6 eN (aF (ptm:=[(0,.ag va),(14,.c (.i .i64 7))]) (JB k (BG k)) lN) λz hA=>show Fm.den (let v0:=(↑(z.s 4).length:Int);let v1:=(vV k (z.g 6) 0);let v2:=((DL (z.g 6) (z.g 5) (z.s 4) (z.i 3) (z.i 2) (z.i 1)));let v3:=(z.i 7+1+v0);let v4:=(R7 (k+1) (z.s 4) (z.g 6));let v5:=(fJ (↑(z.g 6).length:Int));let v6:=(↑v1:Int);(.an ((-9223372036854775808)<=z.i 7+1/\z.i 7+1<=9223372036854775807) (.two ((-9223372036854775808)<=z.i 7+1+v0/\z.i 7+1+ ↑(z.s 4).length<=9223372036854775807) (.cl v2 (dT k (z.g 6) 0=0/\(z.g 6).length<=200/\v5/\(0<=z.i 7+1+v0/\z.i 7+1+ ↑(z.s 4).length<=2000000)/\(z.i 7+1+ ↑(z.s 4).length<=65536->z.i 7+1+ ↑(z.s 4).length+ ↑v1=z.i 7+1+ ↑(z.s 4).length+ ↑v1)/\(65536<z.i 7+1+v0->65536<z.i 7+1+v0+v6)) (λy0=>(BF (y0.i 7))/\(y0.i 7<=65536->z.i 7+1+ ↑(z.s 4).length+ ↑v1=y0.i 7)/\(65536<y0.i 7->65536<z.i 7+1+v0+v6)) λy0=>(.ax ((BF (y0.i 7))/\(y0.i 7<=65536->z.i 7+ ↑v4=y0.i 7)/\(65536<y0.i 7->65536<z.i 7+(↑v4:Int))/\(65536<y0.i 7↔65536<y0.i 7)))) (.cl v2 (dT k (z.g 6) 0=0/\(z.g 6).length<=200/\v5/\(0<=IntKind.i64.wrap v3/\IntKind.i64.wrap v3<=2000000)/\(IntKind.i64.wrap v3<=65536->IntKind.i64.wrap v3+ ↑v1=IntKind.i64.wrap v3+ ↑v1)/\(65536<IntKind.i64.wrap v3->65536<IntKind.i64.wrap v3+v6)) (λy0=>(BF (y0.i 7))/\(y0.i 7<=65536->IntKind.i64.wrap v3+ ↑v1=y0.i 7)/\(65536<y0.i 7->65536<IntKind.i64.wrap v3+v6)) λy0=>(.ax ((BF (y0.i 7))/\(y0.i 7<=65536->z.i 7+ ↑v4=y0.i 7)/\(65536<y0.i 7->65536<z.i 7+(↑v4:Int))/\(65536<y0.i 7↔65536<y0.i 7))))))) by dsimp only [DK,va,vW] at hA;have:=Y2 k z;have:=Y3 k z;have:=W1 z;have:=Nh k (z.s 4) (z.g 6);exact kn
abbrev Tq75(a:Prop)(b c d:Int)(e:List Nat)(f g:List G):=Fm.cl (a) (gf 16 b c d e f g=(0:Int)/\tl 16 c e f g/\0+x_ 16 e g<=100000000) (λy=>y.s 20= []++eI 16 b c d e f g)
def pD:bn 46 BB:=bA 7 273 (ai Ny (ai (BG 16) (ai (BE 16) eN))) lN λz hA=>show Fm.den (let v1:=(iC (z.i 1) (z.i 2) (z.i 3) (z.s 4) (z.g 5) (z.g 6)=(0:Int)-> []=eI 16 (z.i 1) (z.i 2) (z.i 3) (z.s 4) (z.g 5) (z.g 6)/\(eI 16 (z.i 1) (z.i 2) (z.i 3) (z.s 4) (z.g 5) (z.g 6)).length<=65536);let v2:=(¬iC (z.i 1) (z.i 2) (z.i 3) (z.s 4) (z.g 5) (z.g 6)=(0:Int)->ta);let v3:=(↑(R7 16 (z.s 4) (z.g 6)):Int);let v0:Fm:=(.ax ((5:Int)=iC (z.i 1) (z.i 2) (z.i 3) (z.s 4) (z.g 5) (z.g 6)/\v1/\v2));(.ct (tl 16 (z.i 2) (z.s 4) (z.g 5) (z.g 6)) (λy0=>y0.i 10=gf 16 (z.i 1) (z.i 2) (z.i 3) (z.s 4) (z.g 5) (z.g 6)) λy0=>(.two (y0.i 10≠0) (.ax (y0.i 10=iC (z.i 1) (z.i 2) (z.i 3) (z.s 4) (z.g 5) (z.g 6)/\v1/\v2)) (.ct (gf 16 (z.i 1) (z.i 2) (z.i 3) (z.s 4) (z.g 5) (z.g 6)=(0:Int)/\(0:Int)<=0/\(0:Int)<=65536) (λy1=>(BF (y1.i 7))/\(y1.i 7<=65536->0+v3=y1.i 7)/\(65536<y1.i 7->65536<0+v3)/\(y1.p 10↔65536<y1.i 7)) λy1=>(.two (y1.p 10) v0 (Tq75 (nX) (z.i 1) (z.i 2) (z.i 3) (z.s 4) (z.g 5) (z.g 6) λy2=>(.two (65536<(↑(y2.s 20).length:Int)) v0 (.an (qW (y2.s 20)) (.at ((0:Int)=iC (z.i 1) (z.i 2) (z.i 3) (z.s 4) (z.g 5) (z.g 6)/\(iC (z.i 1) (z.i 2) (z.i 3) (z.s 4) (z.g 5) (z.g 6)=(0:Int)->y2.s 20=eI 16 (z.i 1) (z.i 2) (z.i 3) (z.s 4) (z.g 5) (z.g 6)/\(eI 16 (z.i 1) (z.i 2) (z.i 3) (z.s 4) (z.g 5) (z.g 6)).length<=65536)/\(¬iC (z.i 1) (z.i 2) (z.i 3) (z.s 4) (z.g 5) (z.g 6)=(0:Int)->y2.s 20= []))))))))))) by dsimp only [BB,rf,va,Y1,yc,U3,Nk] at hA;have:=@Gj (z.i 1) (z.i 2) (z.i 3) (z.s 4) (z.g 5) (z.g 6);have:=@BA (z.i 1) (z.i 2) (z.i 3) (z.s 4) (z.g 5) (z.g 6);have:=@DI (z.i 1) (z.i 2) (z.i 3) (z.s 4) (z.g 5) (z.g 6);have v1:=Gp z;have v2:=Nx z;dsimp only [vW,Nk,yc] at v1 v2;exact kn
abbrev Y4(a:Int)(b:List Nat)(c d:List G)(e f:Int)(g:List Nat):=Fm.ct (tl 16 a b c d/\x_ 16 b d<=10000000) (λy=>y.i 11=iC e a f b c d/\(iC e a f b c d=(0:Int)->y.s 10=eI 16 e a f b c d/\g.length<=65536)/\(¬iC e a f b c d=(0:Int)->y.s 10= []))
abbrev Nz(a:List Nat):=Fm.ct (a.length<=999999) (λy=>hT y 300=be a)
def Gq:bn 19 No:=bA 3 1 (ai pD (ai xW eN)) lN λz hA=>show Fm.den ((Y4 (z.i 2) (z.s 4) (z.g 5) (z.g 6) (z.i 1) (z.i 3) (eI 16 (z.i 1) (z.i 2) (z.i 3) (z.s 4) (z.g 5) (z.g 6)) λy0=>(.two (y0.i 11≠0) (.ax (y0.i 11=iC (z.i 1) (z.i 2) (z.i 3) (z.s 4) (z.g 5) (z.g 6)/\hZ=DJ (z.i 1) (z.i 2) (z.i 3) (z.s 4) (z.g 5) (z.g 6))) (Nz (y0.s 10) λy1=>(.ax ((0:Int)=iC (z.i 1) (z.i 2) (z.i 3) (z.s 4) (z.g 5) (z.g 6)/\hT y1 300=DJ (z.i 1) (z.i 2) (z.i 3) (z.s 4) (z.g 5) (z.g 6))))))) by dsimp only [No,Gl,va,Y1,yc,U3,ehY] at hA;have:=@Nn (z.i 1) (z.i 2) (z.i 3) (z.s 4) (z.g 5) (z.g 6);have:=@Gk (z.i 1) (z.i 2) (z.i 3) (z.s 4) (z.g 5) (z.g 6);exact kn
def tr:bn 172 rf:=bA 5 17 (ai Nq (ai (Nw 16) eN)) lN λz hA=>show Fm.den (let v0:=(iC (z.i 1) (z.i 2) (z.i 3) (z.s 4) (z.g 5) (z.g 6)=(0:Int)-> []=eI 16 (z.i 1) (z.i 2) (z.i 3) (z.s 4) (z.g 5) (z.g 6)/\(eI 16 (z.i 1) (z.i 2) (z.i 3) (z.s 4) (z.g 5) (z.g 6)).length<=65536);let v1:=(¬iC (z.i 1) (z.i 2) (z.i 3) (z.s 4) (z.g 5) (z.g 6)=(0:Int)->ta);(.ct (tl 16 (z.i 2) (z.s 4) (z.g 5) (z.g 6)) (λy0=>y0.i 10=gf 16 (z.i 1) (z.i 2) (z.i 3) (z.s 4) (z.g 5) (z.g 6)) λy0=>(.two (y0.i 10≠0) (.ax (y0.i 10=iC (z.i 1) (z.i 2) (z.i 3) (z.s 4) (z.g 5) (z.g 6)/\v0/\v1)) (Tq75 (nX) (z.i 1) (z.i 2) (z.i 3) (z.s 4) (z.g 5) (z.g 6) λy1=>(.two (65536<(↑(y1.s 20).length:Int)) (.ax ((5:Int)=iC (z.i 1) (z.i 2) (z.i 3) (z.s 4) (z.g 5) (z.g 6)/\v0/\v1)) (.an (qW (y1.s 20)) (.at ((0:Int)=iC (z.i 1) (z.i 2) (z.i 3) (z.s 4) (z.g 5) (z.g 6)/\(iC (z.i 1) (z.i 2) (z.i 3) (z.s 4) (z.g 5) (z.g 6)=(0:Int)->y1.s 20=eI 16 (z.i 1) (z.i 2) (z.i 3) (z.s 4) (z.g 5) (z.g 6)/\(eI 16 (z.i 1) (z.i 2) (z.i 3) (z.s 4) (z.g 5) (z.g 6)).length<=65536)/\(¬iC (z.i 1) (z.i 2) (z.i 3) (z.s 4) (z.g 5) (z.g 6)=(0:Int)->y1.s 20= []))))))))) by dsimp only [rf,va,Y1,yc,U3,Nk] at hA;have:=@Gj (z.i 1) (z.i 2) (z.i 3) (z.s 4) (z.g 5) (z.g 6);have:=@BA (z.i 1) (z.i 2) (z.i 3) (z.s 4) (z.g 5) (z.g 6);have:=@DI (z.i 1) (z.i 2) (z.i 3) (z.s 4) (z.g 5) (z.g 6);have v1:=Gp z;have v2:=Nx z;dsimp only [vW,Nk,yc] at v1 v2;exact kn
def W2:bn 96 Gl:=bA 3 1 (ai tr (ai F6 eN)) lN λz hA=>show Fm.den ((Y4 (z.i 2) (z.s 4) (z.g 5) (z.g 6) (z.i 1) (z.i 3) (eI 16 (z.i 1) (z.i 2) (z.i 3) (z.s 4) (z.g 5) (z.g 6)) λy0=>(.two (y0.i 11≠0) (.ax (y0.i 11=iC (z.i 1) (z.i 2) (z.i 3) (z.s 4) (z.g 5) (z.g 6)/\hZ=DJ (z.i 1) (z.i 2) (z.i 3) (z.s 4) (z.g 5) (z.g 6))) (Nz (y0.s 10) λy1=>(.ax ((0:Int)=iC (z.i 1) (z.i 2) (z.i 3) (z.s 4) (z.g 5) (z.g 6)/\hT y1 300=DJ (z.i 1) (z.i 2) (z.i 3) (z.s 4) (z.g 5) (z.g 6))))))) by dsimp only [Gl,va,Y1,yc,U3,ehY] at hA;have:=@Nn (z.i 1) (z.i 2) (z.i 3) (z.s 4) (z.g 5) (z.g 6);have:=@Gk (z.i 1) (z.i 2) (z.i 3) (z.s 4) (z.g 5) (z.g 6);exact kn
end Go.Proofs.YthgjkeemmhcpfaaGreatDoor
