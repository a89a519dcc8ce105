/- Part 18. -/
import Derived.Test.YthgjkeemmhcpfaaGreatDoorProg
import Derived.KernelRfl
import Derived.Test.YthgjkeemmhcpfaaGreatDoorP11
import Derived.Test.YthgjkeemmhcpfaaGreatDoorP12
import Derived.Test.YthgjkeemmhcpfaaGreatDoorP13
import Derived.Test.YthgjkeemmhcpfaaGreatDoorP14
import Derived.Test.YthgjkeemmhcpfaaGreatDoorP15
import Derived.Test.YthgjkeemmhcpfaaGreatDoorP16
import Derived.Test.YthgjkeemmhcpfaaGreatDoorP17
set_option linter.all false
namespace Go.Proofs.YthgjkeemmhcpfaaGreatDoor
open Go.Sym
set_option maxRecDepth 100000
noncomputable section
def cJ(nm:List Nat):List G->Nat
 | []=>0
 |r::l=>bif mV (gS (aa r 0)) nm then cJ nm l+1 else 0
def Y7(l:List G)(i:Nat):List Nat:=gS (aa (aq l i) 0)
def b_(nm:List Nat)(l:List G):Prop:=cJ nm l<l.length/\Y7 l (cJ nm l)=nm
def pL(nm:List Nat):∀l,cJ nm l<=l.length
 | []=>aaa _
 |r::l=>by
  unfold cJ;cases mV (gS (aa r 0)) nm
  ·exact aap _
  ·exact Nat.succ_le_succ (pL nm l)
def Ef(i:Int)(nm:List Nat)(l:List G)(k:Int):Prop:=k=i+(cJ nm (l.drop i.toNat):Nat)
def mR{l:List G}{i:Int}(h0:0<=i)(h:i<l.length):l.drop i.toNat=aq l i.toNat::l.drop (i+1).toNat:=by rw[aa2 (by omega),show(i+1).toNat=i.toNat+1 by omega];congr 1;unfold aq;rw[aag,aai (by omega)];rfl
def O6{i k:Int}{nm:List Nat}{l:List G}(h0:0<=i)(h:i<l.length)(hl:mV (gS (aa (aq l i.toNat) 0)) nm=true)(hs:Ef (i+1) nm l k):Ef i nm l k:=by unfold Ef at hs⊢;rw[mR h0 h];show k=i+((bif mV (gS (aa (aq l i.toNat) 0)) nm then cJ nm (l.drop (i+1).toNat)+1 else 0:Nat):Int);rw[hl,hs];show _=i+((cJ nm (l.drop (i+1).toNat)+1:Nat):Int);omega
def S7{i:Int}{nm:List Nat}{l:List G}(h0:0<=i)(h:i<l.length)(hl:¬mV (gS (aa (aq l i.toNat) 0)) nm=true):Ef i nm l i:=by unfold Ef;rw[mR h0 h];show i=i+((bif mV (gS (aa (aq l i.toNat) 0)) nm then cJ nm (l.drop (i+1).toNat)+1 else 0:Nat):Int);rw[show mV (gS (aa (aq l i.toNat) 0)) nm=false by simpa using hl];show i=i+((0:Nat):Int);omega
def S8{i:Int}{nm:List Nat}{l:List G}(h:(l.length:Int)<=i):Ef i nm l i:=by unfold Ef;rw[aaO (by omega)];show i=i+((0:Nat):Int);omega
def XI{nm:List Nat}{l:List G}{k:Int}(h:Ef 0 nm l k):k=(cJ nm l:Nat):=by unfold Ef at h;rw[h];simp
def dE(nm:List Nat)(l:List G):b_ nm l↔cJ nm l<l.length/\gS (aa (aq l (cJ nm l)) 0)=nm:=Iff.rfl
def ck:List G->Nat
 | []=>0
 |r::l=>(gS (aa r 1)).length+ck l
def yQ:ck []=0:=rfl
def Eg(i n:Int)(l:List G)(m:Int):Prop:=m=n+(ck (l.drop i.toNat):Nat)
def O7{i n m:Int}{l:List G}(h0:0<=i)(h:i<l.length)(hs:Eg (i+1) (n+((gS (aa (aq l i.toNat) 1)).length:Nat)) l m):Eg i n l m:=by unfold Eg at hs⊢;rw[mR h0 h,hs];show _=n+(((gS (aa (aq l i.toNat) 1)).length+ck (l.drop (i+1).toNat):Nat):Int);omega
def S9{i n:Int}{l:List G}(h:(l.length:Int)<=i):Eg i n l n:=by unfold Eg;rw[aaO (by omega)];show n=n+((0:Nat):Int);omega
def XJ{l:List G}{m:Int}(h:Eg 0 0 l m):m=(ck l:Nat):=by unfold Eg at h;rw[h];simp
def O8:∀(l:List G) (i:Nat),i<l.length->(gS (aa (aq l i) 1)).length<=ck l
 | [],i,h=>by simp at h
 |r::l,0,_=>by show _<=_+_;unfold aq;simp
 |r::l,i+1,h=>by have:=O8 l i (by simpa using h);show(gS (aa (aq l i) 1)).length<=_+_;omega
def XL{i:Int}{l:List G}(h0:0<=i)(h:i<l.length):ck (l.drop (i+1).toNat)+(gS (aa (aq l i.toNat) 1)).length<=ck (l.drop i.toNat):=by rw[mR h0 h];show _<=_+_;omega
def fiN(nm:List Nat):G:=.node [.str nm,.str [],.int 0]
def S_(r:G)(b:List Nat):G:=.node [.str (gS (aa r 0)),.str (gS (aa r 1)++b),.int (gI (aa r 2))]
def fiS(r:G):G:=.node [.str (gS (aa r 0)),.str (gS (aa r 1)),.int ((gS (aa r 1)).length:Nat)]
def Eh(nm:List Nat)(l:List G):List G:=l.take (cJ nm l)++fiN nm::l.drop (cJ nm l)
def fZ(nm b:List Nat)(l:List G):List G:=(@ite _ (b_ nm l) (Classical.propDecidable _) l (Eh nm l)).set (cJ nm l) (S_ (aq (@ite _ (b_ nm l) (Classical.propDecidable _) l (Eh nm l)) (cJ nm l)) b)
def mm(nm:List Nat)(l:List G):List G:=l.set (cJ nm l) (fiS (aq l (cJ nm l)))
def di(room:Int)(nm:List Nat)(n:Nat)(l:List G):Prop:=(ck l:Int)+n<=room/\(b_ nm l∨l.length<4096)
def Hk{l:List G}{i:Nat}{r:G}(h:i<=l.length):aq (l.take i++r::l.drop i) i=r:=by unfold aq;rw[aag,aax (by rw[aal];omega),aal,show i-min i l.length=0 by omega];rfl
def XM{nm:List Nat}{l m:List G}{k:Int}(hm:m=Eh nm l)(hk:k=(cJ nm l:Nat)):gS (aa (aq m k.toNat) 1)= []:=by subst hm;subst hk;rw[aaq];unfold Eh;rw[Hk (pL nm l)];rfl
def JW(room:Int)(nm:List Nat)(n:Nat)(l:List G):di room nm n l↔(ck l:Int)+n<=room/\(b_ nm l∨l.length<4096):=Iff.rfl
def XN{nm b:List Nat}{l:List G}{k:Int}(hk:k=(cJ nm l:Nat))(h:b_ nm l):l.set k.toNat (.node [.str (gS (aa (aq l k.toNat) 0)),.str (gS (aa (aq l k.toNat) 1)++b),.int (gI (aa (aq l k.toNat) 2))])=fZ nm b l:=by subst hk;unfold fZ S_;rw[if_pos h,aaq]
def Ta{nm b:List Nat}{l m:List G}{k:Int}(hm:m=Eh nm l)(hk:k=(cJ nm l:Nat))(h:¬b_ nm l):m.set k.toNat (.node [.str (gS (aa (aq m k.toNat) 0)),.str (gS (aa (aq m k.toNat) 1)++b),.int (gI (aa (aq m k.toNat) 2))])=fZ nm b l:=by subst hk;subst hm;unfold fZ S_;rw[if_neg h,aaq]
def Tb{nm:List Nat}{l:List G}(h:l.length=0):l++ [.node [.str nm,.str [],.int 0]]++l=Eh nm l:=by have e:l= []:=List.length_eq_zero_iff.1 h;subst e;rfl
def Tc{nm:List Nat}{l:List G}{k:Int}(hk:k=(cJ nm l:Nat)):List.take k.toNat l++ [.node [.str nm,.str [],.int 0]]++List.take ((l.length:Int)-k).toNat (List.drop (k.toNat * 3/3) l)=Eh nm l:=by subst hk;rw[aaq,Nat.mul_div_cancel _ (by decide),abd (l:=l.drop (cJ nm l)) (by rw[aao];omega),aav];rfl
def XO{nm:List Nat}{l:List G}{k:Int}(hk:k=(cJ nm l:Nat)):l.set k.toNat (.node [.str (gS (aa (aq l k.toNat) 0)),.str (gS (aa (aq l k.toNat) 1)),.int ((gS (aa (aq l k.toNat) 1)).length:Nat)])=mm nm l:=by subst hk;unfold mm fiS;rw[aaq]
def O9{nm:List Nat}{l:List G}{k:Int}(hk:k=(cJ nm l:Nat)):gS (aa (aq l k.toNat) 1)=gS (aa (aq l (cJ nm l)) 1)/\(gS (aa (aq l k.toNat) 1)).length<=ck l∨(l.length:Int)<=k:=by
 subst hk;rw[aaq];rcases aaf (cJ nm l) l.length with h|h
 ·exact .inl ⟨rfl,O8 l _ h⟩
 ·exact .inr (by omega)
def fO(l:List G):List (List Nat):=l.map λr=>gS (aa r 0)
def Hl(nm:List Nat):∀(l m:List G),fO l=fO m->cJ nm l=cJ nm m
 | [],[],_=>rfl
 |r::l,r'::m,h=>by have h:gS (aa r 0)::fO l=gS (aa r' 0)::fO m:=h;injection h with h1 h2;unfold cJ;rw[h1,Hl nm l m h2]
 | [],_::_,h=>by cases h
 |_::_,[],h=>by cases h
def rm{l:List G}{i:Nat}(h:i<l.length):(fO l)[i]? =some (Y7 l i):=by unfold fO Y7 aq;rw[aaI,aag,aai h];rfl
def Hm(l:List G):(fO l).length=l.length:=aaK ..
def O_{nm:List Nat}{l m:List G}(h:fO l=fO m):b_ nm l↔b_ nm m:=by
 have hl:l.length=m.length:=by rw[←Hm l, ←Hm m,h]
 have e:=Hl nm l m h;rw[dE,dE,e,hl];constructor
 ·rintro⟨h1,h2⟩;refine⟨h1, ?_⟩;have a:=rm (l:=l) (i:=cJ nm m) (by omega);have b:=rm (l:=m) h1;rw[h] at a;rw[a] at b;injection b with b;exact b.symm.trans h2
 ·rintro⟨h1,h2⟩;refine⟨h1, ?_⟩;have a:=rm (l:=l) (i:=cJ nm m) (by omega);have b:=rm (l:=m) h1;rw[h] at a;rw[a] at b;injection b with b;exact b.trans h2
def Pa{nm:List Nat}{l:List G}(h:b_ nm l):∃r∈l,gS (aa r 0)=nm:=by obtain⟨h1,h2⟩:=(dE nm l).1 h;exact⟨aq l (cJ nm l),by unfold aq;rw[aag,aai h1];exact abe h1,h2⟩
def Ho{l:List G}{i:Nat}{r:G}(h:gS (aa r 0)=Y7 l i):fO (l.set i r)=fO l:=by
 unfold fO;rw[List.map_set];refine List.ext_getElem (by simp) λj h1 h2=>?_;rw[List.getElem_set];split
 ·rename_i e;subst e;rw[abF,h];unfold Y7 aq;rw[aag,aai (by simpa using h2)];rfl
 ·rfl
def yR:∀(l m:List G),ck (l++m)=ck l+ck m
 | [],m=>by simp [ck]
 |r::l,m=>by show _+ck (l++m)=_;rw[yR l m];show _=(_+ck l)+ck m;omega
def yS:∀(l:List G) (i:Nat) (r:G),i<l.length->ck (l.set i r)+(gS (aa (aq l i) 1)).length=ck l+(gS (aa r 1)).length
 | [],i,r,h=>by simp at h
 |a::l,0,r,_=>by show((gS (aa r 1)).length+ck l)+(gS (aa a 1)).length=((gS (aa a 1)).length+ck l)+_;omega
 |a::l,i+1,r,h=>by have:=yS l i r (by simpa using h);show((gS (aa a 1)).length+ck (l.set i r))+(gS (aa (aq l i) 1)).length=((gS (aa a 1)).length+ck l)+_;omega
def Hq{nm:List Nat}:∀(l:List G) (r:G),gS (aa r 0)=nm->cJ nm (l.take (cJ nm l)++r::l.drop (cJ nm l))=cJ nm l
 | [],r,h=>by show(bif mV (gS (aa r 0)) nm then _ else 0)=0;rw[h,ltL_irr];rfl
 |a::l,r,h=>by
  cases ha:mV (gS (aa a 0)) nm with
  |true=>
   have e:cJ nm (a::l)=cJ nm l+1:=by show(bif mV (gS (aa a 0)) nm then _ else _)=_;rw[ha];rfl
   rw[e];show(bif mV (gS (aa a 0)) nm then cJ nm (l.take (cJ nm l)++r::l.drop (cJ nm l))+1 else 0)=_;rw[ha,Hq l r h];rfl
  |false=>
   have e:cJ nm (a::l)=0:=by show(bif mV (gS (aa a 0)) nm then _ else _)=_;rw[ha];rfl
   rw[e];show(bif mV (gS (aa r 0)) nm then _ else 0)=0;rw[h,ltL_irr];rfl
where
 ltL_irr:∀{s:List Nat},mV s s=false:=by
  intro s
  induction s with
  |nil=>rfl
  |cons x s ih=>show ac (Nat.ble (Nat.succ x) x) true (ac (Nat.beq x x) (mV s s) false)=false;rw[show Nat.ble (Nat.succ x) x=false by cases h:Nat.ble (Nat.succ x) x with|false=>rfl|true=>exact absurd (aaw h) (by omega),abk];exact ih
def ji(nm b:List Nat)(l:List G):b_ nm (fZ nm b l)/\ck (fZ nm b l)=ck l+b.length/\(fZ nm b l).length<=l.length+1/\∀r∈fZ nm b l,gS (aa r 0)=nm∨∃r'∈l,gS (aa r' 0)=gS (aa r 0):=by
 unfold fZ;have hle:=pL nm l;have key:∀m:List G,cJ nm m=cJ nm l->cJ nm l<m.length->gS (aa (aq m (cJ nm l)) 0)=nm->b_ nm (m.set (cJ nm l) (S_ (aq m (cJ nm l)) b))/\ck (m.set (cJ nm l) (S_ (aq m (cJ nm l)) b))=ck m+b.length/\(∀r∈m.set (cJ nm l) (S_ (aq m (cJ nm l)) b),gS (aa r 0)=nm∨∃r'∈m,gS (aa r' 0)=gS (aa r 0)):=λm h1 h2 h3=>by
  have hn:gS (aa (S_ (aq m (cJ nm l)) b) 0)=Y7 m (cJ nm l):=rfl;refine⟨(O_ (Ho hn)).2 ((dE nm m).2 ⟨by rw[h1];exact h2,by rw[h1];exact h3⟩), ?_,λr hr=>?_⟩
  ·have:=yS m (cJ nm l) (S_ (aq m (cJ nm l)) b) h2;have e:(gS (aa (S_ (aq m (cJ nm l)) b) 1)).length=(gS (aa (aq m (cJ nm l)) 1)).length+b.length:=by show(gS (aa (aq m (cJ nm l)) 1)++b).length=_;rw[aah]
   omega
  ·rcases List.mem_or_eq_of_mem_set hr with h|h
   ·exact .inr ⟨r,h,rfl⟩
   ·subst h;exact .inl (hn.trans h3)
 by_cases hs:b_ nm l
 ·rw[if_pos hs];obtain⟨h1,h2⟩:=(dE nm l).1 hs;obtain⟨q1,q2,q3⟩:=key l rfl h1 h2;exact⟨q1,q2,by rw[aaY];omega,q3⟩
 ·rw[if_neg hs];have e1:cJ nm (Eh nm l)=cJ nm l:=Hq l (fiN nm) rfl;have hlen:(Eh nm l).length=l.length+1:=by unfold Eh;simp;omega
  have e2:aq (Eh nm l) (cJ nm l)=fiN nm:=Hk hle;obtain⟨q1,q2,q3⟩:=key (Eh nm l) e1 (by omega) (by rw[e2];rfl);have e3:ck (Eh nm l)=ck l:=by
   unfold Eh;rw[yR];show ck (l.take (cJ nm l))+(0+ck (l.drop (cJ nm l)))=_;conv=>rhs;rw[←abb (cJ nm l) l,yR]
   omega
  refine⟨q1,by rw[q2,e3],by rw[aaY];omega,λr hr=>?_⟩;rcases q3 r hr with h|⟨r',h1,h2⟩
  ·exact .inl h
  ·unfold Eh at h1;rcases List.mem_append.1 h1 with h|h
   ·exact .inr ⟨r',List.mem_of_mem_take h,h2⟩
   ·rcases List.mem_cons.1 h with h|h
    ·subst h;exact .inl h2.symm
    ·exact .inr ⟨r',List.mem_of_mem_drop h,h2⟩
def pM(nm:List Nat)(l:List G)(h:b_ nm l):fO (mm nm l)=fO l/\ck (mm nm l)=ck l/\(mm nm l).length=l.length:=by obtain⟨h1,h2⟩:=(dE nm l).1 h;unfold mm;refine⟨Ho rfl, ?_,aaY⟩;have:=yS l (cJ nm l) (fiS (aq l (cJ nm l))) h1;have e:gS (aa (fiS (aq l (cJ nm l))) 1)=gS (aa (aq l (cJ nm l)) 1):=rfl;rw[e] at this;omega
def QR:List Sh:=[.i .i64 1,.v 12 20,.i .i64 2]
def Td:List BSh:=[.cells 110 [.i .i64 1,.g 1 3 20,.i .i64 2],.grow 12 198 20]
def oG(z:Sy):Prop:=(z.g 20).length<=5000/\ck (z.g 20)<=1000000/\0<=z.i 1/\z.i 1<=1073741824/\z.i 2= -1
def yT(z y:Sy):Prop:=y.i 1=z.i 1/\y.i 2=z.i 2
def Hr(p:Sy):LSpec:=⟨[(0,.cp QR),(1,.c (.s 5)),(6,.c (.i .i64 9))],[],λz=>0<=z.i 9/\z.i 9<=(z.g 20).length/\(z.g 20).length<=5000,λz=>((z.g 20).length-z.i 9).toNat,[⟨.exit 0,[(0,.cp QR),(1,.c (.s 5)),(6,.c (.i .i64 9))],[]⟩],λz y=>y.g 20=z.g 20/\y.s 5=z.s 5/\(0<=y.i 9/\y.i 9<=(z.g 20).length)/\Ef (z.i 9) (z.s 5) (z.g 20) (y.i 9),none,[]⟩
def Vw:FSpec:=⟨[.cp QR,.c (.s 5)],[],λz=>(z.g 20).length<=5000,λ_=>.tu [.c (.i .i64 30),.c (.b 40)],λ_=>[],λz y=>y.i 30=(cJ (z.s 5) (z.g 20):Nat)/\(y.p 40↔b_ (z.s 5) (z.g 20)),none⟩
def Hs(p:Sy):LSpec:=⟨[(0,.cp QR),(3,.c (.i .i64 8)),(4,.c (.i .i64 9))],[],λz=>0<=z.i 9/\(z.g 20).length<=5000/\(0<=z.i 8/\z.i 8+ck ((z.g 20).drop (z.i 9).toNat)<=1073741824),λz=>((z.g 20).length-z.i 9).toNat,[⟨.exit 0,[(0,.cp QR),(3,.c (.i .i64 8))],[]⟩],λz y=>Eg (z.i 9) (z.i 8) (z.g 20) (y.i 8),none,[]⟩
def Vx:FSpec:=⟨[.cp QR],[],oG,λ_=>.one (.c (.i .i64 30)),λ_=>[],λz y=>y.i 30=(ck (z.g 20):Nat),none⟩
def oH:FSpec:=⟨[.c (.p 0),.c (.s 5),.c (.vb 6)],Td,λz=>oG z/\(1<=(z.s 5).length/\(z.s 5).length<=64)/\(z.s 6).length<=1000000,λ_=>.one (.c (.i .i64 30)),λ_=>Td,λz y=>yT z y/\(di (z.i 1) (z.s 5) (z.s 6).length (z.g 20)->y.i 30=0/\y.g 20=fZ (z.s 5) (z.s 6) (z.g 20))/\(¬di (z.i 1) (z.s 5) (z.s 6).length (z.g 20)->y.i 30=6/\y.g 20=z.g 20),none⟩
def yU:FSpec:=⟨[.c (.p 0),.c (.s 5)],Td,λz=>oG z/\(1<=(z.s 5).length/\(z.s 5).length<=64),λ_=>.one (.c (.i .i64 30)),λ_=>Td,λz y=>yT z y/\(b_ (z.s 5) (z.g 20)->y.i 30=0/\y.g 20=mm (z.s 5) (z.g 20))/\(¬b_ (z.s 5) (z.g 20)->y.i 30=7/\y.g 20=z.g 20),none⟩
def yV:FSpec:=⟨[.c (.p 0),.c (.s 5)],Td,oG,λ_=>.tu [.c (.vb 31),.c (.i .i64 30)],λ_=>Td,λz y=>y.g 20=z.g 20/\yT z y/\(b_ (z.s 5) (z.g 20)->y.i 30=0/\y.s 31=gS (aa (aq (z.g 20) (cJ (z.s 5) (z.g 20))) 1))/\(¬b_ (z.s 5) (z.g 20)->y.i 30=7/\y.s 31= []),none⟩
attribute [irreducible] cJ b_ Ef Eg ck fZ mm di
end
set_option maxHeartbeats 4000000
def Pb:bN 98 0 Hr:=bM 6 37 eN lN λp z hA=>show Fm.den (let v1:=(↑(z.g 20).length:Int);let v0:Fm:=(.ax (z.g 20=z.g 20/\z.s 5=z.s 5/\(0<=z.i 9/\z.i 9<= ↑(z.g 20).length)/\Ef (z.i 9) (z.s 5) (z.g 20) (z.i 9)));(.two (dq (z.i 9) (z.g 20)) (.an (cr (z.i 9) (z.g 20)) (.two (mV (gS (aZ (aK (z.g 20) (z.i 9)))) (z.s 5)=true) (.an ((-9223372036854775808)<=z.i 9+1/\z.i 9+1<=9223372036854775807) (.ax ((0<=z.i 9+1/\z.i 9+1<= ↑(z.g 20).length/\(z.g 20).length<=5000)/\(v1-(z.i 9+1)).toNat<(v1-z.i 9).toNat/\∀(y:Sy),y.g 20=z.g 20/\y.s 5=z.s 5/\(0<=y.i 9/\y.i 9<= ↑(z.g 20).length)/\Ef (z.i 9+1) (z.s 5) (z.g 20) (y.i 9)->y.g 20=z.g 20/\y.s 5=z.s 5/\(0<=y.i 9/\y.i 9<= ↑(z.g 20).length)/\Ef (z.i 9) (z.s 5) (z.g 20) (y.i 9)))) v0)) v0)) by dsimp only [Hr,QR] at hA;have:=λk h0 h hl hs=>@O6 (z.i 9) k (z.s 5) (z.g 20) h0 h hl hs;have:=@S7 (z.i 9) (z.s 5) (z.g 20);have:=@S8 (z.i 9) (z.s 5) (z.g 20);exact i_
def Ei:bn 98 Vw:=bA 23 17592172063401 eN (aF (ptm:=[]) Pb lN) λz hA=>show Fm.den ((.ct ((0:Int)<=0/\0<=(↑(z.g 20).length:Int)/\(z.g 20).length<=5000) (λy0=>y0.g 20=z.g 20/\y0.s 5=z.s 5/\(0<=y0.i 9/\y0.i 9<= ↑(z.g 20).length)/\Ef 0 (z.s 5) (z.g 20) (y0.i 9)) λy0=>(let v0:=(dq (y0.i 9) (y0.g 20));(.two v0 (.an v0 (.an v0 (.an v0 (.an v0 (.an v0 (.an (cr (y0.i 9) (y0.g 20)) (.an v0 (.an v0 (.an v0 (.an v0 (.an v0 (.ax (y0.i 9= ↑(cJ (z.s 5) (z.g 20))/\(gS (aZ (aK (y0.g 20) (y0.i 9)))=y0.s 5↔b_ (z.s 5) (z.g 20))))))))))))))) (.an (¬v0) (.an (¬v0) (.an (¬v0) (.an (¬v0) (.an (¬v0) (.an (¬v0) (.an (¬v0) (.an (¬v0) (.an (¬v0) (.an (¬v0) (.ax (y0.i 9= ↑(cJ (z.s 5) (z.g 20))/\(false=true↔b_ (z.s 5) (z.g 20)))))))))))))))))) by dsimp only [Vw,QR] at hA;have:=@XI (z.s 5) (z.g 20);have:=dE (z.s 5) (z.g 20);exact i_
abbrev yW(a:List G):=a.length=a.length
def Te:bn 40 yV:=bA 3 1 (jZ Ei eN) lN λz hA=>show Fm.den (let v0:=(aa (aq (z.g 20) (cJ (z.s 5) (z.g 20))) 1);let v1:=(z.i 1=z.i 1/\z.i 2=z.i 2);(.an (yW (z.g 20)) (.ct ((z.g 20).length<=5000) (λy0=>y0.i 30= ↑(cJ (z.s 5) (z.g 20))/\(y0.p 40↔b_ (z.s 5) (z.g 20))) λy0=>(let v2:=(aa (aK (z.g 20) (y0.i 30)) 1);(.two (¬y0.p 40) (.an (jf (z.g 20)) (.at (z.g 20=z.g 20/\v1/\(b_ (z.s 5) (z.g 20)->(7:Int)=0/\ []=gS v0)/\(¬b_ (z.s 5) (z.g 20)->(7:Int)=7/\ta)))) (.an (cr (y0.i 30) (z.g 20)) (.an (eE (y0.i 30) (z.g 20)) (.an (Jr (gS v2)) (.an ((z.g 20).length=(z.g 20).length/\([]++gS v2).length=0+(gS v2).length/\True) (.at (z.g 20=z.g 20/\v1/\(b_ (z.s 5) (z.g 20)->(0:Int)=0/\ []++gS v2=gS v0)/\(¬b_ (z.s 5) (z.g 20)->(0:Int)=7/\ []++gS v2= [])))))))))))) by dsimp only [yV,Td,oG,yT] at hA;have:=dE (z.s 5) (z.g 20);have:=pL (z.s 5) (z.g 20);have:=@O9 (z.s 5) (z.g 20);exact i_
def Pc:bN 189 0 Hs:=bM 7 549 eN lN λp z hA=>show Fm.den (let v0:=(↑(gS (aa (aK (z.g 20) (z.i 9)) 1)).length:Int);let v1:=((-9223372036854775808)<=z.i 9+1/\z.i 9+1<=9223372036854775807);let v2:=(↑(z.g 20).length:Int);let v4:=(z.i 8+v0);let v5:=(z.i 9+1);let v3:=(↑(ck (List.drop v5.toNat (z.g 20))):Int);(.two (dq (z.i 9) (z.g 20)) (.an (cr (z.i 9) (z.g 20)) (.two ((-9223372036854775808)<=z.i 8+v0/\z.i 8+v0<=9223372036854775807) (.an v1 (.ax ((0<=z.i 9+1/\(z.g 20).length<=5000/\0<=z.i 8+v0/\z.i 8+v0+v3<=1073741824)/\(v2-v5).toNat<(v2-z.i 9).toNat/\∀(y:Sy),Eg v5 v4 (z.g 20) (y.i 8)->Eg (z.i 9) (z.i 8) (z.g 20) (y.i 8)))) (.an v1 (.ax ((0<=z.i 9+1/\(z.g 20).length<=5000/\(0:Int)<=IntKind.i64.wrap v4/\IntKind.i64.wrap v4+v3<=1073741824)/\(v2-v5).toNat<(v2-z.i 9).toNat/\∀(y:Sy),Eg v5 (dw v4) (z.g 20) (y.i 8)->Eg (z.i 9) (z.i 8) (z.g 20) (y.i 8)))))) (.ax (Eg (z.i 9) (z.i 8) (z.g 20) (z.i 8))))) by dsimp only [Hs,QR] at hA;have:=λm h0 h hs=>@O7 (z.i 9) (z.i 8) m (z.g 20) h0 h hs;have:=@S9 (z.i 9) (z.i 8) (z.g 20);have:=@XL (z.i 9) (z.g 20);exact i_
def XP:bn 189 Vx:=bA 1 0 eN (aF (ptm:=[]) Pc lN) λz hA=>show Fm.den ((.ct ((0:Int)<=0/\(z.g 20).length<=5000/\(0:Int)<=0/\(0:Int)+(↑(ck (List.drop (ic) (z.g 20))):Int)<=1073741824) (λy0=>Eg 0 0 (z.g 20) (y0.i 8)) λy0=>(.ax (y0.i 8= ↑(ck (z.g 20)))))) by dsimp only [Vx,QR,oG] at hA;have:=@XJ (z.g 20);exact i_
abbrev Pd(a:List G):=0=0/\0<=1000000000/\a.length<=1000000
def JX:bn 119 oH:=bA 44 77371196226073830408497599 (jZ Ei (jZ XP eN)) lN λz hA=>show Fm.den (let v1:=([]++z.g 20++ [G.node [G.str (z.s 5),G.str [],G.int 0]]++z.g 20);let v2:=(List.drop (Int.toNat 0 * 3/3) (z.g 20));let v3:=(↑(z.g 20).length:Int);let v4:=(z.i 1=z.i 1/\z.i 2=z.i 2);let v5:=((z.g 20).length=0);let v6:=(0+(z.g 20).length+1+(z.g 20).length);let v7:=(yW (z.g 20));let v8:=(¬(0<z.i 2));let v0:Fm:=(.an (jf (z.g 20)) (.at (v4/\(di (z.i 1) (z.s 5) (z.s 6).length (z.g 20)->(6:Int)=0/\z.g 20=fZ (z.s 5) (z.s 6) (z.g 20))/\(¬di (z.i 1) (z.s 5) (z.s 6).length (z.g 20)->(6:Int)=6/\z.g 20=z.g 20))));(.an (¬(z.i 2=0)) (.an (¬((↑(z.s 5).length:Int)<1)) (.an (¬(64<(↑(z.s 5).length:Int))) (.an v7 (.ct ((z.g 20).length<=5000) (λy0=>y0.i 30= ↑(cJ (z.s 5) (z.g 20))/\(y0.p 40↔b_ (z.s 5) (z.g 20))) λy0=>(let v9:=([]++List.take (y0.i 30-0).toNat v2++ [G.node [G.str (z.s 5),G.str [],G.int 0]]++List.take (v3-y0.i 30).toNat (List.drop ((y0.i 30).toNat * 3/3) (z.g 20)));let v10:=(aK (z.g 20) (y0.i 30));let i7:=(pG (v3-y0.i 30) (List.drop ((y0.i 30).toNat * 3/3) (z.g 20)));let j6:=(pG (y0.i 30-0) v2);let z':=(aa (aK v1 (y0.i 30)) 1);let v11:=(G.node [G.str (gS (aZ (aK v1 (y0.i 30)))),G.str ([]++gS z'++z.s 6),G.int (gI (aa (aK v1 (y0.i 30)) 2))]);let B':=(aa (aK v9 (y0.i 30)) 1);let i4:=(G.node [G.str (gS (aZ (aK v9 (y0.i 30)))),G.str ([]++gS B'++z.s 6),G.int (gI (aa (aK v9 (y0.i 30)) 2))]);let j8:=(¬y0.p 40);let v19:=(0<=y0.i 30/\y0.i 30<(↑(0+j6.length+1+i7.length):Int));let v20:=(cr (y0.i 30) (z.g 20));let v21:=(aa v10 1);let o8:=(G.node [G.str (gS (aa v10 0)),G.str ([]++gS v21++z.s 6),G.int (gI (aa v10 2))]);let v22:=(0<=y0.i 30/\y0.i 30 < ↑v6);(.an v7 (.ct ((z.g 20).length<=5000/\ck (z.g 20)<=1000000/\0<=z.i 1/\z.i 1<=1073741824/\z.i 2=(-1)) (λy1=>y1.i 30= ↑(ck (z.g 20))) λy1=>(let Y':=(z.i 1<y1.i 30+ ↑(z.s 6).length);(.an ((-9223372036854775808)<=y1.i 30+(↑(z.s 6).length:Int)/\y1.i 30+ ↑(z.s 6).length<=9223372036854775807) (.two Y' (.an Y' (.an Y' (.an Y' (.an Y' v0)))) (.an (¬Y') (.an (¬Y') (.two j8 (.an j8 (.an j8 (.an j8 (.an j8 (.an j8 (.an (¬Y') (.an j8 (.an (¬Y') (.two (4096<=v3) v0 (.an j8 (.two v5 (.an ((0:Int)=0/\y0.i 30=0) (.an v5 (.an (Pd (z.g 20)) (.an (([]++z.g 20).length=0+(z.g 20).length/\0+(z.g 20).length<=1000000000/\True) (.an v5 (.an (y0.i 30=0/\v3=0) (.an v5 (.an (([]++z.g 20++ [G.node [G.str (z.s 5),G.str [],G.int 0]]).length=0+(z.g 20).length+1/\0+(z.g 20).length+1<=1000000000/\(z.g 20).length<=1000000) (.an v22 (.an (eE (y0.i 30) v1) (.an (Jr (gS z')) (.an (([]++gS z').length=0+(gS z').length/\0+(gS z').length<=1000000000/\(z.s 6).length<=1000000) (.an v22 (.an (([]++gS z'++z.s 6).length=0+(gS z').length+(z.s 6).length) (.an (ux (y0.i 30) v1) (.an v8 (.an ((v1.set (y0.i 30).toNat v11).length=0+(z.g 20).length+1+(z.g 20).length/\True) (.at (v4/\(di (z.i 1) (z.s 5) (z.s 6).length (z.g 20)->(0:Int)=0/\v1.set (y0.i 30).toNat v11=fZ (z.s 5) (z.s 6) (z.g 20))/\(¬di (z.i 1) (z.s 5) (z.s 6).length (z.g 20)->(0:Int)=6/\v1.set (y0.i 30).toNat v11=z.g 20)))))))))))))))))))) (.an (N_ (y0.i 30) (z.g 20)) (.an (Int.toNat 0 * 3=Int.toNat 0 * 3/3 * 3/\Int.toNat 0 * 3/3+(y0.i 30-0).toNat<=(z.g 20).length) (.an (Pd j6) (.an (([]++List.take (y0.i 30-0).toNat v2).length=0+j6.length/\0+j6.length<=1000000000/\True) (.an (¬v5) (.an (0<=y0.i 30/\y0.i 30<= ↑(z.g 20).length/\v3<=v3) (.an ((y0.i 30).toNat * 3=(y0.i 30).toNat * 3/3 * 3/\(y0.i 30).toNat * 3/3+(↑(z.g 20).length-y0.i 30).toNat<=(z.g 20).length) (.an (([]++List.take (y0.i 30-0).toNat v2++ [G.node [G.str (z.s 5),G.str [],G.int 0]]).length=0+j6.length+1/\0+j6.length+1<=1000000000/\i7.length<=1000000) (.an v19 (.an (eE (y0.i 30) v9) (.an (Jr (gS B')) (.an (([]++gS B').length=0+(gS B').length/\0+(gS B').length<=1000000000/\(z.s 6).length<=1000000) (.an v19 (.an (([]++gS B'++z.s 6).length=0+(gS B').length+(z.s 6).length) (.an (ux (y0.i 30) v9) (.an v8 (.an ((v9.set (y0.i 30).toNat i4).length=0+j6.length+1+i7.length/\True) (.at (v4/\(di (z.i 1) (z.s 5) (z.s 6).length (z.g 20)->(0:Int)=0/\v9.set (y0.i 30).toNat i4=fZ (z.s 5) (z.s 6) (z.g 20))/\(¬di (z.i 1) (z.s 5) (z.s 6).length (z.g 20)->(0:Int)=6/\v9.set (y0.i 30).toNat i4=z.g 20))))))))))))))))))))))))))))))) (.an (¬j8) (.an (¬j8) (.an (¬j8) (.an (¬j8) (.an (¬j8) (.an (¬Y') (.an (¬j8) (.an (¬Y') (.an (¬j8) (.an v20 (.an (eE (y0.i 30) (z.g 20)) (.an (Jr (gS v21)) (.an (([]++gS v21).length=0+(gS v21).length/\0+(gS v21).length<=1000000000/\(z.s 6).length<=1000000) (.an v20 (.an (([]++gS v21++z.s 6).length=0+(gS v21).length+(z.s 6).length) (.an (ux (y0.i 30) (z.g 20)) (.an v8 (.an (((z.g 20).set (y0.i 30).toNat o8).length=(z.g 20).length/\True) (.at (v4/\(di (z.i 1) (z.s 5) (z.s 6).length (z.g 20)->(0:Int)=0/\(z.g 20).set (y0.i 30).toNat o8=fZ (z.s 5) (z.s 6) (z.g 20))/\(¬di (z.i 1) (z.s 5) (z.s 6).length (z.g 20)->(0:Int)=6/\(z.g 20).set (y0.i 30).toNat o8=z.g 20)))))))))))))))))))))))))))))))))))) by dsimp only [oH,Td,oG,yT] at hA;have:=dE (z.s 5) (z.g 20);have:=pL (z.s 5) (z.g 20);have:=@O9 (z.s 5) (z.g 20);have:=JW (z.i 1) (z.s 5) (z.s 6).length (z.g 20);have:=@XN (z.s 5) (z.s 6) (z.g 20);have:=@Ta (z.s 5) (z.s 6) (z.g 20);have:=@Tb (z.s 5) (z.g 20);have:=@Tc (z.s 5) (z.g 20);have:=@XM (z.s 5) (z.g 20);exact i_
def Tf:bn 43 yU:=bA 7 3199 (jZ Ei eN) lN λz hA=>show Fm.den (let v0:=(z.i 1=z.i 1/\z.i 2=z.i 2);(.an (¬(z.i 2=0)) (.an (¬((↑(z.s 5).length:Int)<1)) (.an (¬(64<(↑(z.s 5).length:Int))) (.an (yW (z.g 20)) (.ct ((z.g 20).length<=5000) (λy0=>y0.i 30= ↑(cJ (z.s 5) (z.g 20))/\(y0.p 40↔b_ (z.s 5) (z.g 20))) λy0=>(let v1:=(G.node [G.str (gS (aZ (aK (z.g 20) (y0.i 30)))),G.str (gS (aa (aK (z.g 20) (y0.i 30)) 1)),G.int (↑(gS (aa (aK (z.g 20) (y0.i 30)) 1)).length:Int)]);let v2:=(cr (y0.i 30) (z.g 20));(.two (¬y0.p 40) (.an (jf (z.g 20)) (.at (v0/\(b_ (z.s 5) (z.g 20)->(7:Int)=0/\z.g 20=mm (z.s 5) (z.g 20))/\(¬b_ (z.s 5) (z.g 20)->(7:Int)=7/\z.g 20=z.g 20)))) (.an v2 (.an (eE (y0.i 30) (z.g 20)) (.an v2 (.an (ux (y0.i 30) (z.g 20)) (.an (¬(0<z.i 2)) (.an (((z.g 20).set (y0.i 30).toNat v1).length=(z.g 20).length/\True) (.at (v0/\(b_ (z.s 5) (z.g 20)->(0:Int)=0/\(z.g 20).set (y0.i 30).toNat v1=mm (z.s 5) (z.g 20))/\(¬b_ (z.s 5) (z.g 20)->(0:Int)=7/\(z.g 20).set (y0.i 30).toNat v1=z.g 20))))))))))))))))) by dsimp only [yU,Td,oG,yT] at hA;have:=dE (z.s 5) (z.g 20);have:=pL (z.s 5) (z.g 20);have:=@O9 (z.s 5) (z.g 20);have:=@XO (z.s 5) (z.g 20);exact i_
noncomputable section
def XQ(i:Nat)(e:G):List Nat:=@ite _ (gI (aa e 0)=2/\¬gI (aa e 12)=1) (Classical.propDecidable _) (aJ i++(aJ (kr e).length++kr e)) []
def oI{i:Nat}{e:G}(h:¬gI (aa e 0)=2∨gI (aa e 12)=1):XQ i e= []:=if_neg λ⟨a,b⟩=>h.elim (λc=>c a) b
def tN{i:Nat}{e:G}(h:gI (aa e 0)=2)(h1:¬gI (aa e 12)=1):XQ i e=aJ i++(aJ (kr e).length++kr e):=if_pos ⟨h,h1⟩
def dtL:Nat->List G->List Nat
 |_,[]=>[]
 |i,e::es=>XQ i e++dtL (i+1) es
def f_(es:List G)(i:Int):List Nat:=dtL i.toNat (es.drop i.toNat)
def tO{es:List G}{i:Int}(h0:0<=i)(h:i<es.length):f_ es i=XQ i.toNat (aq es i.toNat)++f_ es (i+1):=by unfold f_;rw[mR h0 h,show(i+1).toNat=i.toNat+1 by omega];rfl
def yX{es:List G}{i:Int}(h:(es.length:Int)<=i):f_ es i= []:=by unfold f_;rw[aaO (by omega)];rfl
def Pe{i:Nat}{e:G}(hi:i<200):(XQ i e).length<=(zC True e).length+10:=by
 by_cases h:gI (aa e 0)=2
 ·by_cases h1:gI (aa e 12)=1
  ·rw[oI (.inr h1)];exact aap _
  ·rw[tN h h1,lj h (λq=>q.elim h1 (λq=>q trivial))];have:=fB (n:=i) (by omega);simp only [aah,aau,List.length_nil];omega
 ·rw[oI (.inl h)];exact aap _
def Tg{i:Nat}{e:G}(h:mL e=0)(hi:wh e)(h2:i<200):(XQ i e).length<=70010:=by have:=yi (d:=True) h hi;have:=@Pe i e h2;omega
def Ht:∀(es:List G) (i:Nat),(∀e∈es,mL e=0/\wh e)->i+es.length<=200->(dtL i es).length<=es.length * 70010
 | [],_,_,_=>aap _
 |e::es,i,h,hi=>by have h1:=h e aan;have a:=Tg (i:=i) h1.1 h1.2 (by simp at hi;omega);have b:=Ht es (i+1) (λx hx=>h x (aaj _ hx)) (by simp at hi⊢;omega);rw[dtL,aah,aau];omega
def Hu{es:List G}(h:jO es):(f_ es 0).length<=14002000:=by
 obtain⟨h1,h2,h3⟩:=h;have hm:∀e∈es,mL e=0/\wh e:=λe he=>by
  obtain⟨i,hi,e2⟩:=abH he;have:=lM (i:=(i:Int)) h1 (by omega) (by omega);have e3:aq es (i:Int).toNat=e:=by unfold aq;rw[aaq,aag,aai hi, ←e2];rfl
  rw[e3] at this;exact⟨this,by unfold qm at h2;exact h2 e he⟩
 have:=Ht es 0 hm (by omega);unfold f_;show(dtL 0 (es.drop 0)).length<=_;rw[aaR];have:es.length * 70010<=200 * 70010:=aay _ h3;omega
theorem Th{n:Nat}(h:n<18446744073709551616):((n:Int)%18446744073709551616).toNat=n:=by omega
def JY(p:Sy):List BSh:=[.cells 75 (mY p),.growb 5 20]
def Hv(p:Sy):LSpec:=⟨[(1,.c (.p 0)),(4,.c (.gb 1 20)),(5,.c (.i .i64 9))],JY p,λz=>jO (p.g 24)/\(0<=z.i 9/\z.i 9<=(p.g 24).length)/\(z.s 20).length+(f_ (p.g 24) (z.i 9)).length<=20000000,λz=>((p.g 24).length-z.i 9).toNat,[⟨.exit 0,[(1,.c (.p 0)),(4,.c (.gb 1 20))],JY p⟩],λz y=>y.s 20=z.s 20++f_ (p.g 24) (z.i 9),none,[]⟩
def wH(p:Sy):LSpec:=⟨[(1,.c (.p 0)),(4,.c (.gb 1 20)),(10,.c (.pv 7 (p.g 24))),(11,.c (.pi .i64 (p.g 24).length)),(12,.c (.i .i64 9))],JY p,λz=>jO (p.g 24)/\(0<=z.i 9/\z.i 9<=(p.g 24).length)/\(z.s 20).length+(f_ (p.g 24) (z.i 9)).length<=20000000,λz=>((p.g 24).length-z.i 9).toNat,[⟨.exit 0,[(1,.c (.p 0)),(4,.c (.gb 1 20))],JY p⟩],λz y=>y.s 20=z.s 20++f_ (p.g 24) (z.i 9),none,[]⟩
def Vy:FSpec:=⟨[.ag bk],[],λz=>jO (z.g 24),λ_=>.tu [.c (.vb 30),.c (.b 40)],λ_=>[],λz y=>(y.p 40↔0<(f_ (z.g 24) 0).length)/\((f_ (z.g 24) 0).length<=524288->y.s 30=zF (f_ (z.g 24) 0))/\(y.s 30).length<=524300,none⟩
def Hw:FSpec:=⟨[.ag bk],[],λz=>jO (z.g 24),λ_=>.tu [.c (.vb 30),.c (.b 40)],λ_=>[],λz y=>(y.p 40↔0<(f_ (z.g 24) 0).length)/\y.s 30=f_ (z.g 24) 0,none⟩
attribute [irreducible] f_ XQ
end
abbrev XR(a b c d e:List Nat):=a.length=b.length+c.length+d.length/\b.length+c.length+d.length<=1000000000/\e.length<=1000000
def tP:bn 118 wy:=bA 3 1 (ai On (jZ Xu eN)) lN λz hA=>show Fm.den (let v0:=(↑(z.s 1).length:Int);(.two (524288<v0) (.ax (((z.s 1).length<=524288->(5:Int)=0/\ []=zF (z.s 1))/\(524288<(z.s 1).length->(5:Int)=5/\ta)/\0<=524300)) (.ct (0<=v0%4294967296) (λy0=>y0.s 20=b4 (v0%4294967296)) λy0=>(.an (sX (y0.s 20)) (SK (y0.s 20) λy1=>(SL (y1.i 10) λy2=>(let v1:=(y0.s 20++y2.s 20++z.s 1);(.an (sX (y2.s 20)) (.an (Gm (y0.s 20) (y2.s 20)) (.an (Nr (y0.s 20++y2.s 20) (y0.s 20) (y2.s 20) (z.s 1)) (.an (v1.length=(y0.s 20).length+(y2.s 20).length+(z.s 1).length) (SK v1 λy3=>(SL (y3.i 10) λy4=>(let v2:=(y0.s 20++y2.s 20++z.s 1++y4.s 20);(.an (sX (y4.s 20)) (.an (XR v1 (y0.s 20) (y2.s 20) (z.s 1) (y4.s 20)) (.an (v2.length=(y0.s 20).length+(y2.s 20).length+(z.s 1).length+(y4.s 20).length/\True) (.at (((z.s 1).length<=524288->(0:Int)=0/\y0.s 20++y2.s 20++z.s 1++y4.s 20=zF (z.s 1))/\(524288<(z.s 1).length->(0:Int)=5/\y0.s 20++y2.s 20++z.s 1++y4.s 20= [])/\v2.length<=524300))))))))))))))))))) by
 dsimp only [wy,jg] at hA;have m1:(z.s 1).length<=524288->((z.s 1).length:Int)%4294967296=(z.s 1).length:=λh=>by omega
 have:=dH (z.s 1);conv=>zeta
 repeat' with_reducible first|intro _|apply bV|apply bW|apply bX|apply cy|apply cj
 all_goals first|omega|grind [ao,am,ak,List.append_assoc,zF,frH,tI]
def wI:bn 132 jg:=bA 3 1 (ai Ov (ai o_Big (jZ Ou (ai tJ eN)))) lN λz hA=>show Fm.den (let v0:=(↑(z.s 1).length:Int);(.two (524288<v0) (.ax (((z.s 1).length<=524288->(5:Int)=0/\ []=zF (z.s 1))/\(524288<(z.s 1).length->(5:Int)=5/\ta)/\0<=524300)) (.ct (0<=v0%4294967296/\v0%4294967296<4294967296) (λy0=>y0.i 10/4294967296%4294967296= ↑(z.s 1).length%4294967296/\y0.i 10%4294967296=D3 (b4 (v0%4294967296))/\0<=y0.i 10/\y0.i 10<18446744073709551616) λy0=>(.ct (FK (y0.i 10)) (λy1=>y1.s 20=b4 (y0.i 10/4294967296%4294967296)++b4 (y0.i 10%4294967296)) λy1=>(let v1:=(y1.s 20++z.s 1);(.an (Gm (y1.s 20) (z.s 1)) (.an (v1.length=(y1.s 20).length+(z.s 1).length) (SK v1 λy2=>(SL (y2.i 10) λy3=>(let v2:=(y1.s 20++z.s 1++y3.s 20);(.an (sX (y3.s 20)) (.an (Nr v1 (y1.s 20) (z.s 1) (y3.s 20)) (.an (v2.length=(y1.s 20).length+(z.s 1).length+(y3.s 20).length/\True) (.at (((z.s 1).length<=524288->(0:Int)=0/\y1.s 20++z.s 1++y3.s 20=zF (z.s 1))/\(524288<(z.s 1).length->(0:Int)=5/\y1.s 20++z.s 1++y3.s 20= [])/\v2.length<=524300))))))))))))))) by
 dsimp only [jg] at hA;have m1:(z.s 1).length<=524288->((z.s 1).length:Int)%4294967296=(z.s 1).length:=λh=>by omega
 have:=dH (z.s 1);conv=>zeta
 repeat' with_reducible first|intro _|apply bV|apply bW|apply bX|apply cy|apply cj
 all_goals first|omega|grind [ao,am,ak,List.append_assoc,zF,frH,tI]
def Pf:bN 114 0 Hv:=bM 10 35109 (ai pD (ai da eN)) lN λp z hA=>show Fm.den (let v1:=(aK (p.g 24) (z.i 9));let v2:=(GG (z.s 20) (p.g 24) (lK p 200) (je (p.i 23) (p.i 22) (p.i 21)));let v3:=(gL (aa v1 10));let v4:=(gS (aa v1 8));let v5:=((-9223372036854775808)<=z.i 9+1/\z.i 9+1<=9223372036854775807);let v6:=(↑(p.g 24).length:Int);let v7:=(gI (aa v1 6));let v8:=(gL (aa v1 9));let v9:=(qn (p.g 24));let v10:=(dU (z.i 9) (p.g 24));let v11:=(gI (aa v1 5));let i4:=(gI (aa v1 7));let i7:=(z.i 9+1);let v0:Fm:=(.an v5 (.an v2 (.at ((qB v9 v10 (z.s 20) (f_ (p.g 24) i7))/\(v6-i7).toNat<(v6-z.i 9).toNat/\∀(y:Sy),y.s 20=z.s 20++f_ (p.g 24) i7->y.s 20=z.s 20++f_ (p.g 24) (z.i 9)))));(.two (dq (z.i 9) (p.g 24)) (.an (cr (z.i 9) (p.g 24)) (.two (gI (aa v1 0)≠2) v0 (.two (gI (aa v1 12)=1) v0 (Y4 v7 v4 v8 v3 v11 i4 (eI 16 v11 v7 i4 v4 v8 v3) λy0=>(let j6:=(↑(y0.s 10).length:Int);(tq (z.i 9) (z.i 9%18446744073709551616) λy1=>(.an (Gm (z.s 20) (y1.s 10)) (tq j6 (j6%18446744073709551616) λy2=>(let o8:=(z.s 20++y1.s 10++y2.s 10++y0.s 10);(.an (Nr (z.s 20++y1.s 10) (z.s 20) (y1.s 10) (y2.s 10)) (.an (XR (z.s 20++y1.s 10++y2.s 10) (z.s 20) (y1.s 10) (y2.s 10) (y0.s 10)) (.an v5 (.an (o8.length=(z.s 20).length+(y1.s 10).length+(y2.s 10).length+(y0.s 10).length/\p.g 24=p.g 24/\fV (lK p 200) (lK p 200) (je (p.i 23) (p.i 22) (p.i 21))) (.at ((qB v9 v10 o8 (f_ (p.g 24) i7))/\(v6-i7).toNat<(v6-z.i 9).toNat/\∀(y:Sy),y.s 20=z.s 20++y1.s 10++y2.s 10++y0.s 10++f_ (p.g 24) i7->y.s 20=z.s 20++f_ (p.g 24) (z.i 9)))))))))))))))) (.an v2 (.at (z.s 20=z.s 20++f_ (p.g 24) (z.i 9)))))) by
 dsimp only [Hv,JY,mY,uz,jO] at hA;have:=@tO (p.g 24) (z.i 9);have:=@yX (p.g 24) (z.i 9);have a3:=@oI (z.i 9).toNat (aq (p.g 24) (z.i 9).toNat);have a4:=@tN (z.i 9).toNat (aq (p.g 24) (z.i 9).toNat);have a6:=BL p z;have a7:=JE p z;dsimp only [kr,wh,mL] at a3 a4 a6 a7;have m9:0<=z.i 9->z.i 9<=200->(z.i 9%18446744073709551616).toNat=(z.i 9).toNat:=λa b=>by omega
 have:=NI p z;have:=NJ p z;have q1:=Sl p z;dsimp only [mL] at q1;conv=>zeta
 repeat' with_reducible first|intro _|apply bV|apply bW|apply bX|apply cy|apply cj
 all_goals first|omega|grind [ao,am,ak,aP,aQ,aR,aS,aT,aU,aV,aW,aX,az,List.append_assoc,fB,bO,Th]
abbrev Ti(a:List Nat):=Fm.ct (a.length<=100000000) (λy=>(a.length<=524288->y.i 50=0/\y.s 10=zF a)/\(524288<a.length->y.i 50=5/\y.s 10= [])/\(y.s 10).length<=524300)
def XS:bn 114 Vy:=bA 1 0 (ai tP eN) (aF (ptm:=[(0,.ag bk)]) Pf lN) λz hA=>show Fm.den (let v0:=(f_ (z.g 24) 0);(.cl ((GI (z.g 24) (lK z 200) (je (z.i 23) (z.i 22) (z.i 21)))) ((qn (z.g 24))/\(fJ (↑(z.g 24).length:Int))/\0+v0.length<=20000000) (λy0=>y0.s 20= []++f_ (z.g 24) 0) λy0=>(let v1:=(sX (y0.s 20));(.an v1 (Ti (y0.s 20) λy1=>(.an v1 (.ax ((0<(↑(y0.s 20).length:Int)↔0<v0.length)/\(v0.length<=524288->y1.s 10=zF v0)/\(y1.s 10).length<=524300)))))))) by
 dsimp only [Vy,bk,hs,jO] at hA;have:=@Hu (z.g 24);conv=>zeta
 repeat' with_reducible first|intro _|apply bV|apply bW|apply bX|apply cy|apply cj
 all_goals first|omega|grind [ao,am,ak,aP,aQ,aR,aS,aT,aU,aV,aW,aX,az,List.append_assoc,fB,bO,Th]
def Ej:bN 129 0 wH:=bM 10 35109 (ai tr (ai ge eN)) lN λp z hA=>show Fm.den (let v1:=(aK (p.g 24) (z.i 9));let v2:=(↑(p.g 24).length:Int);let v3:=(DS (p.i 23) (p.i 22) (p.i 21) v2 (p.g 24));let v4:=(gL (aa v1 10));let v5:=(gS (aa v1 8));let v6:=((-9223372036854775808)<=z.i 9+1/\z.i 9+1<=9223372036854775807);let v7:=(gI (aa v1 6));let v8:=(gL (aa v1 9));let v9:=(qn (p.g 24));let v10:=(dU (z.i 9) (p.g 24));let v11:=(gI (aa v1 5));let i4:=(gI (aa v1 7));let i7:=(lK p 200);let j6:=(z.i 9+1);let v0:Fm:=(.an v6 (.an (GG (z.s 20) (p.g 24) i7 v3) (.at ((qB v9 v10 (z.s 20) (f_ (p.g 24) j6))/\(v2-j6).toNat<(v2-z.i 9).toNat/\∀(y:Sy),y.s 20=z.s 20++f_ (p.g 24) j6->y.s 20=z.s 20++f_ (p.g 24) (z.i 9)))));(.two (dq (z.i 9) (p.g 24)) (.an (cr (z.i 9) (p.g 24)) (.two (gI (aa v1 0)≠2) v0 (.two (gI (aa v1 12)=1) v0 (Y4 v7 v5 v8 v4 v11 i4 (eI 16 v11 v7 i4 v5 v8 v4) λy0=>(let o8:=(↑(y0.s 10).length:Int);(tq (z.i 9) (z.i 9%18446744073709551616) λy1=>(.an (Gm (z.s 20) (y1.s 10)) (tq o8 (o8%18446744073709551616) λy2=>(let z':=(z.s 20++y1.s 10++y2.s 10++y0.s 10);(.an (Nr (z.s 20++y1.s 10) (z.s 20) (y1.s 10) (y2.s 10)) (.an (XR (z.s 20++y1.s 10++y2.s 10) (z.s 20) (y1.s 10) (y2.s 10) (y0.s 10)) (.an v6 (.an (z'.length=(z.s 20).length+(y1.s 10).length+(y2.s 10).length+(y0.s 10).length/\p.g 24=p.g 24/\fV i7 i7 v3) (.at ((qB v9 v10 z' (f_ (p.g 24) j6))/\(v2-j6).toNat<(v2-z.i 9).toNat/\∀(y:Sy),y.s 20=z.s 20++y1.s 10++y2.s 10++y0.s 10++f_ (p.g 24) j6->y.s 20=z.s 20++f_ (p.g 24) (z.i 9)))))))))))))))) (.an (GG (z.s 20) (p.g 24) i7 (je (p.i 23) (p.i 22) (p.i 21))) (.at (z.s 20=z.s 20++f_ (p.g 24) (z.i 9)))))) by
 dsimp only [wH,JY,mY,uz,jO] at hA;have:=@tO (p.g 24) (z.i 9);have:=@yX (p.g 24) (z.i 9);have a3:=@oI (z.i 9).toNat (aq (p.g 24) (z.i 9).toNat);have a4:=@tN (z.i 9).toNat (aq (p.g 24) (z.i 9).toNat);have a6:=BL p z;have a7:=JE p z;dsimp only [kr,wh,mL] at a3 a4 a6 a7;have m9:0<=z.i 9->z.i 9<=200->(z.i 9%18446744073709551616).toNat=(z.i 9).toNat:=λa b=>by omega
 have:=NI p z;have:=NJ p z;have q1:=Sl p z;dsimp only [mL] at q1;conv=>zeta
 repeat' with_reducible first|intro _|apply bV|apply bW|apply bX|apply cy|apply cj
 all_goals first|omega|grind [ao,am,ak,aP,aQ,aR,aS,aT,aU,aV,aW,aX,az,List.append_assoc,fB,bO,Th]
def Pg:bn 129 Hw:=bA 1 0 eN (aF (ptm:=[(0,.ag bk)]) Ej lN) λz hA=>show Fm.den (let v0:=(↑(z.g 24).length:Int);(.cl ((GI (z.g 24) (lK z 200) (DS (z.i 23) (z.i 22) (z.i 21) v0 (z.g 24)))) ((qn (z.g 24))/\(fJ v0)/\0+(f_ (z.g 24) 0).length<=20000000) (λy0=>y0.s 20= []++f_ (z.g 24) 0) λy0=>(.an (qW (y0.s 20)) (.at ((0<(↑(y0.s 20).length:Int)↔0<(f_ (z.g 24) 0).length)/\y0.s 20=f_ (z.g 24) 0))))) by
 dsimp only [Hw,bk,hs,jO] at hA;have:=@Hu (z.g 24);conv=>zeta
 repeat' with_reducible first|intro _|apply bV|apply bW|apply bX|apply cy|apply cj
 all_goals first|omega|grind [ao,am,ak,aP,aQ,aR,aS,aT,aU,aV,aW,aX,az,List.append_assoc,fB,bO,Th]
noncomputable section
def Hx(k:Int)(n:Nat)(l:List G):Prop:=(∀r∈l,gS (aa r 0)=fD∨∃i:Int,0<=i/\i<k/\gS (aa r 0)=cP i)/\(l.length:Int)<=2 * k/\ck l<=n
def Tj:Hx 0 0 []:=⟨λr h=>absurd h aaP,by simp,by rw[yQ];exact aaa _⟩
def Tl{k:Int}{n:Nat}{l:List G}(h:Hx k n l)(h0:0<=k)(h1:k<100):¬b_ (cP k) l:=λhs=>by
 obtain⟨r,hr,e⟩:=Pa hs;rcases h.1 r hr with h2|⟨i,i0,ik,h2⟩
 ·exact O0 k (e.symm.trans h2)
 ·have:=Hh h0 i0 h1 (by omega) (e.symm.trans h2);omega
def Hy{k:Int}{n:Nat}{l:List G}{room:Int}{nm b:List Nat}(h:Hx k n l)(h1:k<100)(hr:(n:Int)+b.length<=room):di room nm b.length l:=by obtain⟨_,h2,h3⟩:=h;unfold di;exact⟨by omega,.inr (by omega)⟩
def Ph{k:Int}{n:Nat}{l:List G}{b:List Nat}(h:Hx k n l)(h0:0<=k):b_ (cP k) (fZ (cP k) b l)/\(∀r∈mm (cP k) (fZ (cP k) b l),gS (aa r 0)=fD∨∃i:Int,0<=i/\i<k+1/\gS (aa r 0)=cP i)/\((mm (cP k) (fZ (cP k) b l)).length:Int)<=2 * k+1/\ck (mm (cP k) (fZ (cP k) b l))<=n+b.length:=by
 obtain⟨q1,q2,q3,q4⟩:=ji (cP k) b l;obtain⟨s1,s2,s3⟩:=pM _ _ q1;obtain⟨h1,h2,h3⟩:=h;refine⟨q1,λr hr=>?_,by omega,by omega⟩;have hm:gS (aa r 0)∈fO (mm (cP k) (fZ (cP k) b l)):=List.mem_map.2 ⟨r,hr,rfl⟩;rw[s1] at hm;obtain⟨r2,hr2,e2⟩:=List.mem_map.1 hm;rcases q4 r2 hr2 with h|⟨r',hr',e'⟩
 ·exact .inr ⟨k,h0,by omega,e2.symm.trans h⟩
 ·rcases h1 r' hr' with h|⟨i,i0,ik,h⟩
  ·exact .inl (e2.symm.trans (e'.symm.trans h))
  ·exact .inr ⟨i,i0,by omega,e2.symm.trans (e'.symm.trans h)⟩
def Hz{k:Int}{n:Nat}{l:List G}{b:List Nat}(h1:∀r∈l,gS (aa r 0)=fD∨∃i:Int,0<=i/\i<k+1/\gS (aa r 0)=cP i)(h2:(l.length:Int)<=2 * k+1)(h3:ck l<=n):b_ fD (fZ fD b l)/\Hx (k+1) (n+b.length) (mm fD (fZ fD b l)):=by
 obtain⟨q1,q2,q3,q4⟩:=ji fD b l;obtain⟨s1,s2,s3⟩:=pM _ _ q1;refine⟨q1,λr hr=>?_,by omega,by omega⟩;have hm:gS (aa r 0)∈fO (mm fD (fZ fD b l)):=List.mem_map.2 ⟨r,hr,rfl⟩;rw[s1] at hm;obtain⟨r2,hr2,e2⟩:=List.mem_map.1 hm;rcases q4 r2 hr2 with h|⟨r',hr',e'⟩
 ·exact .inl (e2.symm.trans h)
 ·rcases h1 r' hr' with h|⟨i,i0,ik,h⟩
  ·exact .inl (e2.symm.trans (e'.symm.trans h))
  ·exact .inr ⟨i,i0,ik,e2.symm.trans (e'.symm.trans h)⟩
attribute [irreducible] Hx
end
noncomputable section
def zG:Nat->List G->List G
 |0,l=>l
 |k+1,l=>l.map λg=>.node [.int (gI (aa g 0)),.int (gI (aa g 1)),.int (gI (aa g 2)),.str (gS (aa g 3)),.node (gL (aa g 4)),.node (zG k (gL (aa g 5)))]
def Y8(k:Nat)(g:G):G:=.node [.int (gI (aa g 0)),.int (gI (aa g 1)),.int (gI (aa g 2)),.str (gS (aa g 3)),.node (gL (aa g 4)),.node (zG k (gL (aa g 5)))]
def Pi(k:Nat)(g:G):Y8 k g= .node [.int (gI (aa g 0)),.int (gI (aa g 1)),.int (gI (aa g 2)),.str (gS (aa g 3)),.node (gL (aa g 4)),.node (zG k (gL (aa g 5)))]:=rfl
def CQ(k:Nat)(l:List G)(i:Int):List G:=(l.drop i.toNat).map (Y8 k)
def Ch{k:Nat}{l:List G}{i:Int}(h0:0<=i)(h:i<l.length):CQ k l i=Y8 k (aq l i.toNat)::CQ k l (i+1):=by unfold CQ;rw[mR h0 h];rfl
def HA{k:Nat}{l:List G}{i:Int}(h:(l.length:Int)<=i):CQ k l i= []:=by unfold CQ;rw[aaO (by omega)];rfl
def Ci(k:Nat)(l:List G):zG (k+1) l=CQ k l 0:=rfl
def JZ(ns ks:List G):Prop:=ns.length=0/\ks.length=0
def XT(p:Sy):List BSh:=[.cells 26 [.pi .i64 (p.i 1),.pi .i64 (p.i 2),.pi .i64 (p.i 3),.ps (p.s 4),.v 1 15,.pv 2 (p.g 6)],.grow 2 26 20,.cells 26 [.i .i64 51,.i .i64 52,.i .i64 53,.s 54,.v 1 55,.v 2 56]]
def Cj(k:Nat)(p:Sy):LSpec:=⟨[(1,.c (.p 0)),(2,.c (.p 2)),(3,.c (.g 1 6 20)),(4,.c (.i .i64 9))],XT p,λz=>dT k (p.g 6) 0=0/\(p.g 6).length<=1000/\(0<=z.i 9/\z.i 9<=(p.g 6).length)/\(z.g 20).length<=z.i 9,λz=>((p.g 6).length-z.i 9).toNat,[⟨.exit 0,[(1,.c (.p 0)),(2,.c (.p 2)),(3,.c (.g 1 6 20))],XT p⟩],λz y=>y.g 15=z.g 15/\y.g 20=z.g 20++CQ k (p.g 6) (z.i 9),none,[]⟩
def va':List Sh:=[.i .i64 11,.i .i64 12,.i .i64 13,.s 14,.v 1 15,.v 2 16]
def tQ(k:Nat):FSpec:=⟨[.ag va],[],λz=>vW k z=0∨(k=16/\JZ (z.g 5) (z.g 6)),λ_=>.one (.ag va'),λ_=>[],λz y=>y.i 11=z.i 1/\y.i 12=z.i 2/\y.i 13=z.i 3/\y.s 14=z.s 4/\y.g 15=z.g 5/\y.g 16=zG k (z.g 6),none⟩
def XU{kd i sc:Int}{t:List Nat}{ns ks:List G}(h:pA kd i sc t ns ks=0):ns.length<=200:=by
 obtain⟨h1,h2,h3,h4⟩:=od h;have hd:(kd<1∨9<kd)∨kd=1∨kd=2∨kd=3∨kd=4∨kd=5∨kd=6∨kd=7∨kd=8∨kd=9:=by omega
 rcases hd with e|e|e|e|e|e|e|e|e|e
 ·exact absurd h1 (Nc e)
 ·have:=(F8 e).1 h1;omega
 ·have:=(F9 e).1 h1;omega
 ·have:=(Bn e).1 h1;omega
 ·have:=(F_ e).1 h1;omega
 ·have:=(Na e).1 h1;omega
 ·have:=(Ga e).1 h1;omega
 ·have:=(Gb e).1 h1;omega
 ·have:=(Gc e).1 h1;omega
 ·have:=(h4 e).2;omega
def Pj{k:Nat}{kd i sc:Int}{t:List Nat}{ns ks:List G}(h:gf (k+1) kd i sc t ns ks=0∨(k+1=16/\JZ ns ks)):dT k ks 0=0/\ks.length<=1000/\ns.length<=1000:=by
 rcases h with h|⟨_,h1,h2⟩
 ·by_cases hv:pA kd i sc t ns ks=0
  ·obtain⟨h1,h2,h3,h4⟩:=od hv;have h5:=XU hv;rw[te hv] at h;exact⟨h,by omega,by omega⟩
  ·rw[qY hv] at h;exact absurd h hv
 ·rw[List.length_eq_zero_iff] at h2;subst h2;exact⟨qZ (by simp),by simp,by omega⟩
def Vz(e:G):G:=.node [.int (gI (aa e 0)),.str (gS (aa e 1)),.int (gI (aa e 2)),.int (gI (aa e 3)),.int (gI (aa e 4)),.int (gI (aa e 5)),.int (gI (aa e 6)),.int (gI (aa e 7)),.str (gS (aa e 8)),.node (gL (aa e 9)),.node (zG 16 (gL (aa e 10))),hX (aa e 11),.int (pI (gI (aa e 12)=1)),.int (gI (aa e 13)),.int (gI (aa e 14))]
def Pk(e:G):Vz e= .node [.int (gI (aa e 0)),.str (gS (aa e 1)),.int (gI (aa e 2)),.int (gI (aa e 3)),.int (gI (aa e 4)),.int (gI (aa e 5)),.int (gI (aa e 6)),.int (gI (aa e 7)),.str (gS (aa e 8)),.node (gL (aa e 9)),.node (zG 16 (gL (aa e 10))),hX (aa e 11),.int (pI (gI (aa e 12)=1)),.int (gI (aa e 13)),.int (gI (aa e 14))]:=rfl
def lq(l:List G)(i:Int):List G:=(l.drop i.toNat).map Vz
def J0{l:List G}{i:Int}(h0:0<=i)(h:i<l.length):lq l i=Vz (aq l i.toNat)::lq l (i+1):=by unfold lq;rw[mR h0 h];rfl
def Pl{l:List G}{i:Int}(h:(l.length:Int)<=i):lq l i= []:=by unfold lq;rw[aaO (by omega)];rfl
def XV{kd i sc:Int}{t:List Nat}{ns ks:List G}(h:kq kd i sc t ns ks):JZ ns ks:=by obtain⟨_,_,_,_,h1,h2⟩:=(bw kd i sc t ns ks).1 h;exact⟨h1,h2⟩
def XW{kd:Int}{tx:List Nat}{tb dc vr:Int}{bl hz gn:Prop}{ab ae:Int}(h:jK kd tx tb dc vr bl hz gn ab ae)(hk:¬(kd=2/\¬gn)):bl:=by
 obtain⟨h1,h2⟩:=NB h;have hd:kd=1∨kd=2∨kd=3∨kd=4∨kd=5∨kd=6∨kd=7:=by omega
 rcases hd with e|e|e|e|e|e|e
 ·exact((BH e).1 h).2.2.2.2.1
 ·exact((BI e).1 h).2.2.2.2.2.2 (Classical.not_not.1 λq=>hk ⟨e,q⟩)
 ·exact((Gr e).1 h).2.2.2.2.1
 ·exact((Gs e).1 h).2.2.2.2.2.2.1
 ·exact((Gt e).1 h).2.2.2.2.1
 ·exact((Gv e).1 h).2.2.2.2.1
 ·exact((Gu e).1 h).2.2.2.2.1
def er_ch{e:G}(h:mL e=0):gf 16 (gI (aa e 5)) (gI (aa e 6)) (gI (aa e 7)) (gS (aa e 8)) (gL (aa e 9)) (gL (aa e 10))=0∨JZ (gL (aa e 9)) (gL (aa e 10)):=by
 obtain⟨h1,h2⟩:=dF h;by_cases hk:gI (aa e 0)=2/\¬gI (aa e 12)=1
 ·exact .inl (ye (h2 hk)).1
 ·exact .inr (XV (XW h1 hk))
def HB{es:List G}{i:Int}(h:jO es)(h0:0<=i)(hi:i<es.length):gf 16 (gI (aa (aq es i.toNat) 5)) (gI (aa (aq es i.toNat) 6)) (gI (aa (aq es i.toNat) 7)) (gS (aa (aq es i.toNat) 8)) (gL (aa (aq es i.toNat) 9)) (gL (aa (aq es i.toNat) 10))=0∨((16:Nat)=16/\JZ (gL (aa (aq es i.toNat) 9)) (gL (aa (aq es i.toNat) 10))):=
 (er_ch (lM h.1 h0 hi)).imp id λh=>⟨rfl,h⟩
def HC{es:List G}(h:jO es):es.length<=200:=h.2.2
def bkC:List Sh:=[.i .i64 31,.i .i64 32,.i .i64 33]++hs 400++ [.v 7 34]
def XX(p:Sy):List BSh:=[.cells 75 (mY p),.grow 7 32 20,.cells 75 ([.i .i64 61,.i .i64 62,.i .i64 63]++hs 500++ [.v 7 64])]
def wJ(p:Sy):LSpec:=⟨[(1,.c (.p 0)),(2,.c (.p 2)),(3,.c (.g 1 46 20)),(4,.c (.i .i64 9))],XX p,λz=>jO (p.g 24)/\(0<=z.i 9/\z.i 9<=(p.g 24).length)/\(z.g 20).length<=z.i 9,λz=>((p.g 24).length-z.i 9).toNat,[⟨.exit 0,[(1,.c (.p 0)),(2,.c (.p 2)),(3,.c (.g 1 46 20))],XX p⟩],λz y=>y.g 20=z.g 20++lq (p.g 24) (z.i 9),none,[]⟩
def HD:FSpec:=⟨[.ag bk],[],λz=>jO (z.g 24),λ_=>.one (.ag bkC),λ_=>[],λz y=>y.i 31=z.i 21/\y.i 32=z.i 22/\y.i 33=z.i 23/\hT y 400=hT z 200/\y.g 34=lq (z.g 24) 0,none⟩
end
def J1(k:Nat)(am0:bn 120 (tQ k)):bN 120 0 (Cj k):=bM 4 9 (ai am0 eN) lN λp z hA=>show Fm.den (let v0:=(aK (p.g 6) (z.i 9));let v1:=(gL (aa v0 5));let v2:=(gL (aa v0 4));(.two (dq (z.i 9) (p.g 6)) (.an (cr (z.i 9) (p.g 6)) (.an (True/\(gf k (gI (aa v0 0)) (gI (aa v0 1)) (gI (aa v0 2)) (gS (aa v0 3)) v2 v1=(0:Int)∨k=16/\JZ v2 v1)) (.al (λy0=>gf k (gI (aa v0 0)) (gI (aa v0 1)) (gI (aa v0 2)) (gS (aa v0 3)) v2 v1=(0:Int)∨k=16/\JZ v2 v1->y0.i 11=gI (aa v0 0)/\y0.i 12=gI (aa v0 1)/\y0.i 13=gI (aa v0 2)/\y0.s 14=gS (aa v0 3)/\y0.g 15=gL (aa v0 4)/\y0.g 16=zG k v1) λy0=>(let v3:=(z.g 20++ [G.node [G.int (y0.i 11),G.int (y0.i 12),G.int (y0.i 13),G.str (y0.s 14),G.node (y0.g 15),G.node (y0.g 16)]]);(.an (ow (z.g 20)) (.an ((-9223372036854775808)<=z.i 9+1/\z.i 9+1<=9223372036854775807) (.an (v3.length=(z.g 20).length+1/\p.g 6=p.g 6/\p.s 4=p.s 4/\p.i 3=p.i 3/\p.i 2=p.i 2/\p.i 1=p.i 1/\True) (.at ((dT k (p.g 6) 0=0/\(p.g 6).length<=1000/\(dU (z.i 9) (p.g 6))/\(↑v3.length:Int)<=z.i 9+1)/\((↑(p.g 6).length:Int)-(z.i 9+1)).toNat<((↑(p.g 6).length:Int)-z.i 9).toNat/\∀(y:Sy),y.g 15=z.g 15/\y.g 20=z.g 20++ [G.node [G.int (y0.i 11),G.int (y0.i 12),G.int (y0.i 13),G.str (y0.s 14),G.node (y0.g 15),G.node (y0.g 16)]]++CQ k (p.g 6) (z.i 9+1)->y.g 15=z.g 15/\y.g 20=z.g 20++CQ k (p.g 6) (z.i 9)))))))))) (.an ((z.g 20).length=(z.g 20).length/\p.g 6=p.g 6/\p.s 4=p.s 4/\p.i 3=p.i 3/\p.i 2=p.i 2/\p.i 1=p.i 1/\True) (.at (z.g 15=z.g 15/\z.g 20=z.g 20++CQ k (p.g 6) (z.i 9)))))) by dsimp only [Cj,XT] at hA;have:=@Ch k (p.g 6) (z.i 9);have:=@HA k (p.g 6) (z.i 9);have:=hv4 k p z;have:=gC k (aq (p.g 6) (z.i 9).toNat);have:=Pi k (aq (p.g 6) (z.i 9).toNat);exact dD
def Ck:∀k,bn 120 (tQ k)
 |0=>Ko λz h=>h.elim (λh=>absurd ((gD _ _ _ _ _ _).symm.trans h) (by decide)) λh=>absurd h.1 (by decide)
 |k+1=>bA 1 0 eN (aF (ptm:=[(0,.ag va)]) (J1 k (Ck k)) lN) λz hA=>show Fm.den ((.an (Pd (z.g 5)) (.an (([]++z.g 5).length=0+(z.g 5).length) (.cl ((0=0/\z.g 6=z.g 6/\z.s 4=z.s 4/\z.i 3=z.i 3/\z.i 2=z.i 2/\z.i 1=z.i 1/\True)) (dT k (z.g 6) 0=0/\(z.g 6).length<=1000/\(fJ (↑(z.g 6).length:Int))/\(↑0:Int)<=0) (λy0=>y0.g 15= []++z.g 5/\y0.g 20= []++CQ k (z.g 6) 0) λy0=>(.an (jf (y0.g 20)) (.at (z.i 1=z.i 1/\z.i 2=z.i 2/\z.i 3=z.i 3/\z.s 4=z.s 4/\y0.g 15=z.g 5/\y0.g 20=zG (k+1) (z.g 6)))))))) by dsimp only [tQ,va,vW,va'] at hA;have:=@Pj k (z.i 1) (z.i 2) (z.i 3) (z.s 4) (z.g 5) (z.g 6);have:=Ci k (z.g 6);exact dD
def Ek:bN 53 0 wJ:=bM 4 9 (ai (Ck 16) eN) lN λp z hA=>show Fm.den (let v0:=(aK (p.g 24) (z.i 9));let v1:=(je (p.i 23) (p.i 22) (p.i 21));let v2:=(pI (gI (aa v0 12)=(1:Int)));let v3:=(gL (aa v0 10));let v4:=(gL (aa v0 9));let v5:=(gI (aa v0 13));let v6:=(gI (aa v0 14));let v7:=(lK p 200);let v8:=(gI (aa v0 0));let v9:=(gS (aa v0 1));(.two (dq (z.i 9) (p.g 24)) (.an (cr (z.i 9) (p.g 24)) (.an (True/\(gf 16 (gI (aa v0 5)) (gI (aa v0 6)) (gI (aa v0 7)) (gS (aa v0 8)) v4 v3=(0:Int)∨16=16/\JZ v4 v3)) (.al (λy0=>gf 16 (gI (aa v0 5)) (gI (aa v0 6)) (gI (aa v0 7)) (gS (aa v0 8)) v4 v3=(0:Int)∨16=16/\JZ v4 v3->y0.i 11=gI (aa v0 5)/\y0.i 12=gI (aa v0 6)/\y0.i 13=gI (aa v0 7)/\y0.s 14=gS (aa v0 8)/\y0.g 15=gL (aa v0 9)/\y0.g 16=zG 16 v3) λy0=>(let v10:=(z.g 20++ [G.node [G.int v8,G.str v9,G.int (gI (aa v0 2)),G.int (gI (aa v0 3)),G.int (gI (aa v0 4)),G.int (y0.i 11),G.int (y0.i 12),G.int (y0.i 13),G.str (y0.s 14),G.node (y0.g 15),G.node (y0.g 16),hX (aa v0 11),G.int v2,G.int v5,G.int v6]]);(.an (ow (z.g 20)) (.an ((-9223372036854775808)<=z.i 9+1/\z.i 9+1<=9223372036854775807) (.an (v10.length=(z.g 20).length+1/\p.g 24=p.g 24/\fV v7 v7 v1) (.at (((qn (p.g 24))/\(dU (z.i 9) (p.g 24))/\(↑v10.length:Int)<=z.i 9+1)/\((↑(p.g 24).length:Int)-(z.i 9+1)).toNat<((↑(p.g 24).length:Int)-z.i 9).toNat/\∀(y:Sy),y.g 20=z.g 20++ [G.node [G.int v8,G.str v9,G.int (gI (aa v0 2)),G.int (gI (aa v0 3)),G.int (gI (aa v0 4)),G.int (y0.i 11),G.int (y0.i 12),G.int (y0.i 13),G.str (y0.s 14),G.node (y0.g 15),G.node (y0.g 16),hX (aa v0 11),G.int v2,G.int v5,G.int v6]]++lq (p.g 24) (z.i 9+1)->y.g 20=z.g 20++lq (p.g 24) (z.i 9)))))))))) (.an (NR (z.g 20) (p.g 24) v7 v1) (.at (z.g 20=z.g 20++lq (p.g 24) (z.i 9)))))) by dsimp only [wJ,XX,mY,uz,hs,jO] at hA;have:=@J0 (p.g 24) (z.i 9);have:=@Pl (p.g 24) (z.i 9);have:=@HB (p.g 24) (z.i 9);have:=Pk (aq (p.g 24) (z.i 9).toNat);exact dD
def Cl:bn 53 HD:=bA 1 0 eN (aF (ptm:=[(0,.ag bk)]) Ek lN) λz hA=>show Fm.den ((.cl ((GI (z.g 24) (lK z 200) (je (z.i 23) (z.i 22) (z.i 21)))) ((qn (z.g 24))/\(fJ (↑(z.g 24).length:Int))/\(↑0:Int)<=0) (λy0=>y0.g 20= []++lq (z.g 24) 0) λy0=>(.an (jf (y0.g 20)) (.at (z.i 21=z.i 21/\z.i 22=z.i 22/\z.i 23=z.i 23/\hT z 200=hT z 200/\y0.g 20=lq (z.g 24) 0))))) by dsimp only [HD,bk,hs,jO,bkC] at hA;have:=@HC (z.g 24);exact dD
noncomputable section
def Pm(es:List G):Prop:=∀e∈es,Vz e=e
def XY{es:List G}{i:Int}(h:Pm es)(h0:0<=i)(hi:i<es.length):Vz (aq es i.toNat)=aq es i.toNat:=h _ (dp h0 hi)
def Tn{es:List G}{i:Int}{g:G}(h0:0<=i)(hi:i<es.length)(e:g=aq es i.toNat):es.set i.toNat g=es:=by
 subst e;have h1:i.toNat<es.length:=by omega
 unfold aq;rw[aag,aai h1];exact List.set_getElem_self h1
def To{es:List G}{i:Int}(h:Pm es)(h0:0<=i)(hi:i<es.length):es.set i.toNat (Vz (aq es i.toNat))=es:=Tn h0 hi (XY h h0 hi)
def HE{es:List G}(h:Pm es):lq es 0=es:=by unfold lq;show(es.drop 0).map Vz=es;rw[aaR];exact(List.map_congr_left h).trans (List.map_id' es)
def HF:FSpec:=⟨[.c (.v 1 5)],[],λz=>(z.g 5).length<=1000000,λ_=>.one (.c (.v 1 20)),λ_=>[],λz y=>y.g 20=z.g 5,none⟩
def HG:FSpec:=⟨[.c (.v 7 24)],[],λz=>(z.g 24).length<=1000000,λ_=>.one (.c (.g 0 46 20)),λ_=>[.grow 7 32 20],λz y=>y.g 20=z.g 24,none⟩
def HH(k:Nat)(p:Sy):LSpec:=⟨[(1,.c (.p 0)),(3,.c (.g 1 6 20)),(11,.c (.pv 2 (p.g 6))),(12,.c (.pi .i64 (p.g 6).length)),(13,.c (.i .i64 9))],[.cells 26 [.pi .i64 (p.i 1),.pi .i64 (p.i 2),.pi .i64 (p.i 3),.ps (p.s 4),.v 1 15,.pv 2 (p.g 6)],.grow 2 26 20],λz=>dT k (p.g 6) 0=0/\(p.g 6).length<=1000/\(0<=z.i 9/\z.i 9<=(p.g 6).length)/\(z.g 20).length<=z.i 9,λz=>((p.g 6).length-z.i 9).toNat,[⟨.exit 0,[(1,.c (.p 0)),(3,.c (.g 1 6 20))],[.cells 26 [.pi .i64 (p.i 1),.pi .i64 (p.i 2),.pi .i64 (p.i 3),.ps (p.s 4),.v 1 15,.pv 2 (p.g 6)],.grow 2 26 20]⟩],λz y=>y.g 15=z.g 15/\y.g 20=z.g 20++CQ k (p.g 6) (z.i 9),none,[2]⟩
def Pn(k:Nat):FSpec:=tQ k
def wK(p:Sy):List BSh:=[.cells 75 ([.pi .i64 (p.i 21),.pi .i64 (p.i 22),.pi .i64 (p.i 23)]++uz p 200++ [.g 1 46 20]),.grow 7 32 20]
def Po(p:Sy):LSpec:=⟨[(1,.c (.p 0)),(10,.c (.pi .i64 (p.g 24).length)),(11,.c (.i .i64 9))],wK p,λz=>z.g 20=p.g 24/\jO (p.g 24)/\Pm (p.g 24)/\(0<=z.i 9/\z.i 9<=(p.g 24).length),λz=>((p.g 24).length-z.i 9).toNat,[⟨.exit 0,[(1,.c (.p 0))],wK p⟩],λz y=>y.g 20=p.g 24,none,[2]⟩
def Sown:FSpec:=⟨[.ag bk],[],λz=>jO (z.g 24)/\Pm (z.g 24),λ_=>.one (.ag bkC),λ_=>[],λz y=>y.i 31=z.i 21/\y.i 32=z.i 22/\y.i 33=z.i 23/\hT y 400=hT z 200/\y.g 34=z.g 24,none⟩
end
def Pp:bn 124 HG:=okP 1000 (t0:=20) (D:=λz=>.g (z.g 24)) mN eN lN (hn:=hC 5 5) λz hA=>show Fm.den (let v0:Fm:=(.an (Pd (z.g 24)) (.an (([]++z.g 24).length=0+(z.g 24).length/\True) (.at ([]++z.g 24=z.g 24))));(.two (xa (kR bH z (Sa.c (Sh.v 7 24)))=0) (.al (λy0=>True) λy0=>(.two (y0.p 0) (.an (nX) (.at ([]=z.g 24))) v0)) v0)) by dsimp only [HG] at hA;have a1:xa (kR bH z (Sa.c (Sh.v 7 24)))=(z.g 24).length:=rfl;have a2:(z.g 24).length=0-> []=z.g 24:=λh=>(List.length_eq_zero_iff.1 h).symm;exact dD
def Pq:bn 193 HF:=okP 1000 (t0:=20) (D:=λz=>.g (z.g 5)) mN eN lN (hn:=hC 5 5) λz hA=>show Fm.den (let v0:Fm:=(.an (Pd (z.g 5)) (.an (([]++z.g 5).length=0+(z.g 5).length/\True) (.at ([]++z.g 5=z.g 5))));(.two (xa (kR bH z (Sa.c (Sh.v 1 5)))=0) (.al (λy0=>True) λy0=>(.two (y0.p 0) (.ax ([]=z.g 5)) v0)) v0)) by dsimp only [HF] at hA;have a1:xa (kR bH z (Sa.c (Sh.v 1 5)))=(z.g 5).length:=rfl;have a2:(z.g 5).length=0-> []=z.g 5:=λh=>(List.length_eq_zero_iff.1 h).symm;exact dD
def Pr(k:Nat)(ap4:bn 125 (Pn k)):bN 125 0 (HH k):=bM 4 9 (ai ap4 eN) lN λp z hA=>show Fm.den (let v0:=(aK (p.g 6) (z.i 9));let v1:=(↑(p.g 6).length:Int);let v2:=(gL (aa v0 5));let v3:=(gL (aa v0 4));(.two (dq (z.i 9) (p.g 6)) (.an (cr (z.i 9) (p.g 6)) (.an (True/\(gf k (gI (aa v0 0)) (gI (aa v0 1)) (gI (aa v0 2)) (gS (aa v0 3)) v3 v2=(0:Int)∨k=16/\JZ v3 v2)) (.al (λy0=>gf k (gI (aa v0 0)) (gI (aa v0 1)) (gI (aa v0 2)) (gS (aa v0 3)) v3 v2=(0:Int)∨k=16/\JZ v3 v2->y0.i 11=gI (aa v0 0)/\y0.i 12=gI (aa v0 1)/\y0.i 13=gI (aa v0 2)/\y0.s 14=gS (aa v0 3)/\y0.g 15=gL (aa v0 4)/\y0.g 16=zG k v2) λy0=>(let v4:=(z.g 20++ [G.node [G.int (y0.i 11),G.int (y0.i 12),G.int (y0.i 13),G.str (y0.s 14),G.node (y0.g 15),G.node (y0.g 16)]]);(.an (ow (z.g 20)) (.an ((-9223372036854775808)<=z.i 9+1/\z.i 9+1<=9223372036854775807) (.an (v4.length=(z.g 20).length+1/\p.g 6=p.g 6/\p.s 4=p.s 4/\p.i 3=p.i 3/\p.i 2=p.i 2/\p.i 1=p.i 1/\v1=v1/\p.g 6=p.g 6/\True) (.at ((dT k (p.g 6) 0=0/\(p.g 6).length<=1000/\(dU (z.i 9) (p.g 6))/\(↑v4.length:Int)<=z.i 9+1)/\(v1-(z.i 9+1)).toNat<(v1-z.i 9).toNat/\∀(y:Sy),y.g 15=z.g 15/\y.g 20=z.g 20++ [G.node [G.int (y0.i 11),G.int (y0.i 12),G.int (y0.i 13),G.str (y0.s 14),G.node (y0.g 15),G.node (y0.g 16)]]++CQ k (p.g 6) (z.i 9+1)->y.g 15=z.g 15/\y.g 20=z.g 20++CQ k (p.g 6) (z.i 9)))))))))) (.an ((z.g 20).length=(z.g 20).length/\p.g 6=p.g 6/\p.s 4=p.s 4/\p.i 3=p.i 3/\p.i 2=p.i 2/\p.i 1=p.i 1/\True) (.at (z.g 15=z.g 15/\z.g 20=z.g 20++CQ k (p.g 6) (z.i 9)))))) by dsimp only [HH] at hA;have:=@Ch k (p.g 6) (z.i 9);have:=@HA k (p.g 6) (z.i 9);have:=hv4 k p z;have:=gC k (aq (p.g 6) (z.i 9).toNat);have:=Pi k (aq (p.g 6) (z.i 9).toNat);exact dD
def HI:∀k,bn 125 (Pn k)
 |0=>Ko λz h=>h.elim (λh=>absurd ((gD _ _ _ _ _ _).symm.trans h) (by decide)) λh=>absurd h.1 (by decide)
 |k+1=>bA 1 0 (ai Pq eN) (aF (ptm:=[(0,.ag va)]) (Pr k (HI k)) lN) λz hA=>show Fm.den (let v0:=(↑(z.g 6).length:Int);(.ct ((z.g 5).length<=1000000) (λy0=>y0.g 20=z.g 5) λy0=>(.cl ((0=0/\z.g 6=z.g 6/\z.s 4=z.s 4/\z.i 3=z.i 3/\z.i 2=z.i 2/\z.i 1=z.i 1/\v0=v0/\z.g 6=z.g 6/\True)) (dT k (z.g 6) 0=0/\(z.g 6).length<=1000/\(fJ v0)/\(↑0:Int)<=0) (λy1=>y1.g 15=y0.g 20/\y1.g 20= []++CQ k (z.g 6) 0) λy1=>(.an (jf (y1.g 20)) (.at (z.i 1=z.i 1/\z.i 2=z.i 2/\z.i 3=z.i 3/\z.s 4=z.s 4/\y1.g 15=z.g 5/\y1.g 20=zG (k+1) (z.g 6))))))) by dsimp only [Pn,tQ,va,vW,va'] at hA;have:=@Pj k (z.i 1) (z.i 2) (z.i 3) (z.s 4) (z.g 5) (z.g 6);have:=Ci k (z.g 6);exact dD
def Tp:bN 56 0 Po:=bM 4 9 (ai (HI 16) eN) lN λp z hA=>show Fm.den (let v0:=(aK (z.g 20) (z.i 9));let v1:=(↑(p.g 24).length:Int);let v2:=(gL (aa v0 10));let v3:=(cr (z.i 9) (z.g 20));let v4:=(gL (aa v0 9));let v5:=(pI (gI (aa v0 12)=(1:Int)));let v6:=(lK p 200);(.two (dq (z.i 9) (p.g 24)) (.an v3 (.an (eE (z.i 9) (z.g 20)) (.an (True/\(gf 16 (gI (aa v0 5)) (gI (aa v0 6)) (gI (aa v0 7)) (gS (aa v0 8)) v4 v2=(0:Int)∨16=16/\JZ v4 v2)) (.al (λy0=>gf 16 (gI (aa v0 5)) (gI (aa v0 6)) (gI (aa v0 7)) (gS (aa v0 8)) v4 v2=(0:Int)∨16=16/\JZ v4 v2->y0.i 11=gI (aa v0 5)/\y0.i 12=gI (aa v0 6)/\y0.i 13=gI (aa v0 7)/\y0.s 14=gS (aa v0 8)/\y0.g 15=gL (aa v0 9)/\y0.g 16=zG 16 v2) λy0=>(let v7:=(G.node [G.int (gI (aa v0 0)),G.str (gS (aa v0 1)),G.int (gI (aa v0 2)),G.int (gI (aa v0 3)),G.int (gI (aa v0 4)),G.int (y0.i 11),G.int (y0.i 12),G.int (y0.i 13),G.str (y0.s 14),G.node (y0.g 15),G.node (y0.g 16),hX (aa v0 11),G.int v5,G.int (gI (aa v0 13)),G.int (gI (aa v0 14))]);(.an v3 (.an (ux (z.i 9) (z.g 20)) (.an ((-9223372036854775808)<=z.i 9+1/\z.i 9+1<=9223372036854775807) (.an (((z.g 20).set (z.i 9).toNat v7).length=(z.g 20).length/\fV v6 v6 (p.i 23=p.i 23/\p.i 22=p.i 22/\p.i 21=p.i 21/\v1=v1/\True)) (.at (((z.g 20).set (z.i 9).toNat v7=p.g 24/\(qn (p.g 24))/\Pm (p.g 24)/\0<=z.i 9+1/\z.i 9+1<= ↑(p.g 24).length)/\(v1-(z.i 9+1)).toNat<(v1-z.i 9).toNat/\∀(y:Sy),y.g 20=p.g 24->y.g 20=p.g 24))))))))))) (.an ((z.g 20).length=(z.g 20).length/\fV v6 v6 (je (p.i 23) (p.i 22) (p.i 21))) (.at (z.g 20=p.g 24))))) by dsimp only [Po,wK,uz,jO] at hA;have:=@To (p.g 24) (z.i 9);have:=@HB (p.g 24) (z.i 9);have:=Pk (aq (p.g 24) (z.i 9).toNat);exact dD
def o_own:bn 56 Sown:=bA 1 0 (ai Pp eN) (aF (ptm:=[(0,.ag bk)]) Tp lN) λz hA=>show Fm.den (let v0:=(↑(z.g 24).length:Int);(.ct ((z.g 24).length<=1000000) (λy0=>y0.g 20=z.g 24) λy0=>(.cl (((y0.g 20).length=(y0.g 20).length/\fV (lK z 200) (lK z 200) (z.i 23=z.i 23/\z.i 22=z.i 22/\z.i 21=z.i 21/\(↑(y0.g 20).length:Int)=v0/\True))) (y0.g 20=z.g 24/\(qn (z.g 24))/\Pm (z.g 24)/\(0:Int)<=0/\0<=v0) (λy1=>y1.g 20=z.g 24) λy1=>(.an (jf (y1.g 20)) (.at (z.i 21=z.i 21/\z.i 22=z.i 22/\z.i 23=z.i 23/\hT z 200=hT z 200/\y1.g 20=z.g 24)))))) by dsimp only [Sown,bk,hs,jO,bkC] at hA;have:=@HC (z.g 24);exact dD
noncomputable section
abbrev Y9(i:Int)(t:List Nat)(ns ks:List G):Prop:=(-9223372036854775808<=i/\i<9223372036854775808)/\t.length<=1125899906842624/\ns.length<=1125899906842624/\ks.length<=1125899906842624
def QS:Nat->G->Prop
 |0,g=>Y9 (gI (aa g 1)) (gS (aa g 3)) (gL (aa g 4)) (gL (aa g 5))
 |k+1,g=>Y9 (gI (aa g 1)) (gS (aa g 3)) (gL (aa g 4)) (gL (aa g 5))/\∀x∈gL (aa g 5),QS k x
def wL(k:Nat)(ks:List G):Prop:=∀x∈ks,QS k x
def QT(k:Nat)(i:Int)(t:List Nat)(ns ks:List G):Prop:=match k with
 |0=>Y9 i t ns ks
 |k+1=>Y9 i t ns ks/\wL k ks
def yY(k:Nat)(g:G):QT k (gI (aa g 1)) (gS (aa g 3)) (gL (aa g 4)) (gL (aa g 5))=QS k g:=by cases k <;> rfl
def Tq{k:Nat}{i:Int}{t:List Nat}{ns ks:List G}(h:QT (k+1) i t ns ks):Y9 i t ns ks/\wL k ks:=h
def Ps{k:Nat}{ks:List G}{i:Int}(h:wL k ks)(h0:0<=i)(hi:i<ks.length):QS k (aq ks i.toNat):=h _ (dp h0 hi)
def oR:Nat->G->Nat
 |0,_=>0
 |k+1,g=>1+(gS (aa g 3)).length/20+(gL (aa g 4)).length+((gL (aa g 5)).map (oR k)).sum
def jn(k:Nat)(ks:List G)(i:Int):Nat:=((ks.drop i.toNat).map (oR k)).sum
def ls{k:Nat}{ks:List G}{i:Int}(h0:0<=i)(h:i<ks.length):jn k ks i=oR k (aq ks i.toNat)+jn k ks (i+1):=by unfold jn;rw[eH h0 h];rfl
def oJ{k:Nat}{ks:List G}{i:Int}(h:(ks.length:Int)<=i):jn k ks i=0:=by unfold jn;rw[aaO (by omega)];rfl
def QU(k:Nat)(t:List Nat)(ns ks:List G):Nat:=match k with
 |0=>0
 |k+1=>1+t.length/20+ns.length+jn k ks 0
def El(k:Nat)(g:G):QU k (gS (aa g 3)) (gL (aa g 4)) (gL (aa g 5))=oR k g:=by cases k <;> rfl
def Pt(k:Nat)(t:List Nat)(ns ks:List G):QU (k+1) t ns ks=1+t.length/20+ns.length+jn k ks 0:=rfl
def Em(k:Nat):FSpec:=⟨[.ag va,.c (.p 0)],[.cells 3 [.i .i64 20]],λz=>QT k (z.i 2) (z.s 4) (z.g 5) (z.g 6)/\(0<=z.i 20/\z.i 20<=3000000000000000)/\1001<=z.i 20+k/\1<=k,λ_=>.one (.c (.b 10)),λ_=>[.cells 3 [.i .i64 21]],λz y=>(y.p 10↔1000<y.i 21)/\z.i 20<y.i 21/\y.i 21<=5000000000000000/\(y.i 21<=1000->y.i 21=z.i 20+QU k (z.s 4) (z.g 5) (z.g 6)),none⟩
def Cm(k:Nat)(p:Sy):LSpec:=⟨[(1,.c (.p 1)),(2,.c (.p 0)),(5,.c (.i .i64 9))],[.cells 26 (vp p),.cells 3 [.i .i64 20]],λz=>wL k (p.g 6)/\(p.g 6).length<=1125899906842624/\(0<=z.i 9/\z.i 9<=(p.g 6).length)/\(0<=z.i 20/\z.i 20<=5000000000000000)/\1001<=z.i 20+k,λz=>((p.g 6).length-z.i 9).toNat,[⟨.exit 0,[(1,.c (.p 1))],[.cells 26 (vp p),.cells 3 [.i .i64 21]]⟩],λz y=>(z.i 20<=y.i 21/\y.i 21<=5000000000000000)/\(y.i 21<=1000->y.i 21=z.i 20+jn k (p.g 6) (z.i 9)),none,[]⟩
def En(l:List G):Prop:=∀r∈l,wL 1002 (gL (aa r 0))/\(gL (aa r 0)).length<=1125899906842624
def Eo{l:List G}{i:Int}(h:En l)(h0:0<=i)(hi:i<l.length):wL 1002 (gL (aa (aq l i.toNat) 0))/\(gL (aa (aq l i.toNat) 0)).length<=1125899906842624:=h _ (dp h0 hi)
def m_(l:List G)(i:Int):Nat:=((l.drop i.toNat).map λr=>2+jn 1002 (gL (aa r 0)) 0).sum
def gH{l:List G}{i:Int}(h0:0<=i)(h:i<l.length):m_ l i=2+jn 1002 (gL (aa (aq l i.toNat) 0)) 0+m_ l (i+1):=by unfold m_;rw[eH h0 h];rfl
def yZ{l:List G}{i:Int}(h:(l.length:Int)<=i):m_ l i=0:=by unfold m_;rw[aaO (by omega)];rfl
def Co(p:Sy):LSpec:=⟨[(0,.c (.pv 13 (p.g 1))),(3,.c (.p 0)),(4,.c (.pi .i64 (p.i 8))),(5,.c (.i .i64 9))],[.cells 3 [.i .i64 20]],λz=>En (p.g 1)/\(0<=p.i 8/\p.i 8<(p.g 1).length)/\(0<=z.i 9/\z.i 9<=(gL (aa (aq (p.g 1) (p.i 8).toNat) 0)).length)/\(0<=z.i 20/\z.i 20<=3000000000000000),λz=>((gL (aa (aq (p.g 1) (p.i 8).toNat) 0)).length-z.i 9).toNat,[⟨.exit 2,[(0,.c (.pv 13 (p.g 1))),(3,.c (.p 0)),(4,.c (.pi .i64 (p.i 8)))],[.cells 3 [.i .i64 21]]⟩,⟨.ret,[(2,.c (.b 10))],[.cells 3 [.i .i64 21]]⟩],λz y=>(y.i 999=0->y.i 21=z.i 20+jn 1002 (gL (aa (aq (p.g 1) (p.i 8).toNat) 0)) (z.i 9)/\(y.i 21=z.i 20∨y.i 21<=1000))/\(¬y.i 999=0->y.p 10),none,[]⟩
def Cq(p:Sy):LSpec:=⟨[(0,.c (.pv 13 (p.g 1))),(3,.c (.p 0)),(4,.c (.i .i64 9))],[.cells 3 [.i .i64 20]],λz=>En (p.g 1)/\(p.g 1).length<=1125899906842624/\(0<=z.i 9/\z.i 9<=(p.g 1).length)/\(0<=z.i 20/\z.i 20<=1000+2 * z.i 9),λz=>((p.g 1).length-z.i 9).toNat,[⟨.exit 0,[(0,.c (.pv 13 (p.g 1))),(3,.c (.p 0))],[.cells 3 [.i .i64 21]]⟩,⟨.ret,[(2,.c (.b 10))],[.cells 3 [.i .i64 21]]⟩],λz y=>(y.i 999=0->y.i 21=z.i 20+m_ (p.g 1) (z.i 9))/\(¬y.i 999=0->y.p 10),none,[]⟩
def Pu:FSpec:=⟨[.c (.v 13 1)],[],λz=>En (z.g 1)/\(z.g 1).length<=1125899906842624,λ_=>.one (.c (.b 10)),λ_=>[],λz y=>¬y.p 10->(z.g 1).length<=30/\m_ (z.g 1) 0<=1000,none⟩
def y_{f:G->Nat}:∀{l:List G} {x:G},x∈l->f x<=(l.map f).sum
 |y::l,x,h=>by
  rw[aaB,abh];rcases List.mem_cons.1 h with rfl|h
  ·omega
  ·have:=y_ (f:=f) h;omega
def zg{f:G->Nat}:∀{l:List G},(∀x∈l,1<=f x)->l.length<=(l.map f).sum
 | [],_=>aap _
 |y::l,h=>by rw[aaB,abh,aau];have h1:=h y aan;have:=zg (f:=f) (l:=l) λx hx=>h x (aaj _ hx);omega
def oK(k:Nat)(g:G):1<=oR (k+1) g:=by show 1<=1+_+_+_;omega
def Pv{w f:G->Nat}{ks:List G}(h:∀x∈ks,w x+50<=93 * f x):∀(n:Nat) (i:Int),0<=i->i+n=ks.length->Y0 w ks n i<=93 * ((ks.drop i.toNat).map f).sum
 |0,i,_,_=>aap _
 |n+1,i,h0,hn=>by
  have c8:i<ks.length:=by omega
  have h1:=h _ (dp h0 c8);have h2:=Pv h n (i+1) (by omega) (by omega);rw[eH h0 c8,aaB,abh];show 50+w (aq ks i.toNat)+Y0 w ks n (i+1)<=_;omega
def VA(g:G):lL 0 g=0:=by with_unfolding_all rfl
def weG_s(k:Nat)(g:G):lL (k+1) g=24+(gS (aa g 3)).length+uh (lL k) (gL (aa g 5)) 0:=by with_unfolding_all rfl
def Ep:∀(k j:Nat) (g:G),k<=j->lL k g+50<=93 * oR (j+1) g+50/\(1<=k->lL k g+50<=93 * oR (j+1) g)
 |0,j,g,_=>⟨by rw[VA];omega,λh=>by omega⟩
 |k+1,j,g,hj=>by
  obtain⟨j,rfl⟩:∃j',j=j'+1:=⟨j-1,by omega⟩
  have key:uh (lL k) (gL (aa g 5)) 0<=93 * ((gL (aa g 5)).map (oR (j+1))).sum:=by
   unfold uh;refine Pv (λx hx=>?_) _ 0 (by omega) (by omega);have h1:=Ep k j x (by omega);by_cases hk:1<=k
   ·exact h1.2 hk
   ·have:k=0:=by omega
    subst this;have:=oK j x;rw[VA];omega
  have e1:lL (k+1) g=24+(gS (aa g 3)).length+uh (lL k) (gL (aa g 5)) 0:=weG_s k g;have e2:oR (j+1+1) g=1+(gS (aa g 3)).length/20+(gL (aa g 4)).length+((gL (aa g 5)).map (oR (j+1))).sum:=rfl;have:lL (k+1) g+50<=93 * oR (j+1+1) g:=by omega
  exact⟨by omega,λ_=>this⟩
def viG_0(g:G):Nf 0 g:=by with_unfolding_all exact True.intro
def XZ{k:Nat}{g:G}(h:((-9223372036854775808<=gI (aa g 1)/\gI (aa g 1)<9223372036854775808)/\(gS (aa g 3)).length<=1000000/\(gL (aa g 4)).length<=1000000/\(gL (aa g 5)).length<=1000000)/\∀x∈gL (aa g 5),Nf k x):Nf (k+1) g:=by with_unfolding_all exact h
def Pw:∀(k j:Nat) (g:G),k<=j->QS j g->oR (j+1) g<=1000->Nf k g
 |0,_,_,_,_,_=>viG_0 _
 |k+1,j,g,hj,hn,hw=>by
  obtain⟨j,rfl⟩:∃j',j=j'+1:=⟨j-1,by omega⟩
  have e2:oR (j+1+1) g=1+(gS (aa g 3)).length/20+(gL (aa g 4)).length+((gL (aa g 5)).map (oR (j+1))).sum:=rfl;have hl:=zg (f:=oR (j+1)) (l:=gL (aa g 5)) λx _=>oK j x;obtain⟨⟨h1,h2,h3,h4⟩,h5⟩:=hn;refine XZ ⟨⟨h1,by omega,by omega,by omega⟩,λx hx=>?_⟩;have:=y_ (f:=oR (j+1)) hx;exact Pw k j x (by omega) (h5 x hx) (by omega)
def Cr{l:List G}{i:Int}(hn:wL 1002 l)(hw:jn 1002 l 0<=1000)(h0:0<=i)(hi:i<l.length):
 tl 16 (gI (aa (aq l i.toNat) 1)) (gS (aa (aq l i.toNat) 3)) (gL (aa (aq l i.toNat) 4)) (gL (aa (aq l i.toNat) 5))/\x_ 16 (gS (aa (aq l i.toNat) 3)) (gL (aa (aq l i.toNat) 5))<=100000:=by
 have hm:=dp h0 hi
 have h1:oR 1002 (aq l i.toNat)<=1000:=by
  have:=y_ (f:=oR 1002) hm;have:jn 1002 l 0=(l.map (oR 1002)).sum:=by unfold jn;show((l.drop 0).map _).sum=_;rw[aaR]
  omega
 have h2:QS 1002 (aq l i.toNat):=hn _ hm
 have down:∀(j:Nat) (g:G),QS (j+1) g->QS j g:=by
  intro j
  induction j with
  |zero=>intro g h;exact h.1
  |succ j ih=>intro g h;exact⟨h.1,λx hx=>ih x (h.2 x hx)⟩
 have h3:=Pw 16 1001 _ (by omega) (down _ _ h2) h1
 have h4:lL 16 (aq l i.toNat)+50<=93 * oR 1002 (aq l i.toNat):=(Ep 16 1001 (aq l i.toNat) (by omega)).2 (by omega)
 refine⟨by rw[mK];exact h3, ?_⟩
 rw[pC];omega
def wM{l:List G}(hw:jn 1002 l 0<=1000):l.length<=1000:=by
 have:=zg (f:=oR 1002) (l:=l) λx _=>oK 1001 x;have:jn 1002 l 0=(l.map (oR 1002)).sum:=by unfold jn;show((l.drop 0).map _).sum=_;rw[aaR]
 omega
attribute [irreducible] wL En jn QU m_ QT
end
def J2(k:Nat)(am1:bn 5 (Em k)):bN 5 0 (Cm k):=bM 6 37 (ai am1 eN) lN λp z hA=>show Fm.den (let v1:=(aK (p.g 6) (z.i 9));let v2:=(DL (p.g 6) (p.g 5) (p.s 4) (p.i 3) (p.i 2) (p.i 1));let v0:Fm:=(.an v2 (.at ((z.i 20<=z.i 20/\z.i 20<=5000000000000000)/\(z.i 20<=1000->z.i 20=z.i 20+ ↑(jn k (p.g 6) (z.i 9))))));(.two (dq (z.i 9) (p.g 6)) (.two (z.i 20<=1000) (.an (cr (z.i 9) (p.g 6)) (.ct (QT k (gI (aa v1 1)) (gS (aa v1 3)) (gL (aa v1 4)) (gL (aa v1 5))/\(0<=z.i 20/\z.i 20<=3000000000000000)/\1001<=z.i 20+(↑k:Int)/\1<=k) (λy0=>(y0.p 10↔1000<y0.i 21)/\z.i 20<y0.i 21/\y0.i 21<=5000000000000000/\(y0.i 21<=1000->y0.i 21=z.i 20+(↑(QU k (gS (aa v1 3)) (gL (aa v1 4)) (gL (aa v1 5))):Int))) λy0=>(.an ((-9223372036854775808)<=z.i 9+1/\z.i 9+1<=9223372036854775807) (.an v2 (.at ((wL k (p.g 6)/\(p.g 6).length<=1125899906842624/\(dU (z.i 9) (p.g 6))/\(0<=y0.i 21/\y0.i 21<=5000000000000000)/\1001<=y0.i 21+(↑k:Int))/\((↑(p.g 6).length:Int)-(z.i 9+1)).toNat<((↑(p.g 6).length:Int)-z.i 9).toNat/\∀(y:Sy),(y0.i 21<=y.i 21/\y.i 21<=5000000000000000)/\(y.i 21<=1000->y.i 21=y0.i 21+ ↑(jn k (p.g 6) (z.i 9+1)))->(z.i 20<=y.i 21/\y.i 21<=5000000000000000)/\(y.i 21<=1000->y.i 21=z.i 20+ ↑(jn k (p.g 6) (z.i 9))))))))) v0) v0)) by dsimp only [Cm,vp] at hA;have:=@Ps k (p.g 6) (z.i 9);have:=@ls k (p.g 6) (z.i 9);have:=@oJ k (p.g 6) (z.i 9);have:=yY k (aq (p.g 6) (z.i 9).toNat);have:=El k (aq (p.g 6) (z.i 9).toNat);exact i_
abbrev Ts(a:Prop)(b:Nat)(c:List G)(d e:Prop)(f g:Int)(h:Nat):=Fm.cl a (wL b c/\c.length<=1125899906842624/\d/\e/\1001<=IntKind.i64.wrap f+g) (λy=>(IntKind.i64.wrap f<=y.i 21/\y.i 21<=5000000000000000)/\(y.i 21<=1000->y.i 21=IntKind.i64.wrap f+ ↑h))
abbrev Tt(a:Int):=0<=IntKind.i64.wrap a/\IntKind.i64.wrap a<=5000000000000000
abbrev Cs(a:Prop)(b c:Int)(d:Prop):=a/\b<c/\c<=5000000000000000/\d
abbrev Cu(a:Int):=1000<a↔1000<a
abbrev VB(a:Prop)(b:Nat)(c:List G)(d e:Prop)(f g h:Int)(i:List G)(j:Nat):=Fm.cl a (wL b c/\c.length<=1125899906842624/\d/\e/\1001<=IntKind.i64.wrap f+g+h) (λy=>(IntKind.i64.wrap f+ ↑i.length<=y.i 21/\y.i 21<=5000000000000000)/\(y.i 21<=1000->y.i 21=IntKind.i64.wrap f+ ↑i.length+ ↑j))
abbrev qt(a b:Int)(c:Nat):=a<=1000->a=b+ ↑c
def tS:∀k,bn 5 (Em k)
 |0=>Ko λz h=>absurd h.2.2.2 (by decide)
 |k+1=>bA 17 273695066 eN (aF (ptm:=[(0,.ag va)]) (J2 k (tS k)) lN) λz hA=>show Fm.den (let zw:=(0:Int)<=0;let v0:=(↑(z.s 4).length:Int);let v1:=((DL (z.g 6) (z.g 5) (z.s 4) (z.i 3) (z.i 2) (z.i 1)));let v2:=(↑(z.g 5).length:Int);let v3:=(z.i 20+1+IntKind.i64.wrap (v0/20));let v4:=(zw/\0<=(↑(z.g 6).length:Int));let v5:=(QU (k+1) (z.s 4) (z.g 5) (z.g 6));let v6:=(z.i 20+1+v0/20);let v7:=(z.i 20+1+IntKind.i64.wrap (v0/20)+v2);let v8:=(IntKind.i64.wrap v6+v2);let v9:=(IntKind.i64.wrap v3+v2);let v10:=(jn k (z.g 6) 0);let v11:=(z.i 20+1+v0/20+v2);let i4:=(↑k:Int);(.an ((-9223372036854775808)<=z.i 20+1/\z.i 20+1<=9223372036854775807) (.an ((20:Int)≠0) (.an (0<=v0/\(0:Int)<20) (.two ((-9223372036854775808)<=v0/20/\v0/20<=9223372036854775807) (.two ((-9223372036854775808)<=z.i 20+1+v0/20/\z.i 20+1+ ↑(z.s 4).length/20<=9223372036854775807) (.two ((-9223372036854775808)<=z.i 20+1+v0/20+v2/\z.i 20+1+ ↑(z.s 4).length/20+ ↑(z.g 5).length<=9223372036854775807) (.cl v1 (wL k (z.g 6)/\(z.g 6).length<=1125899906842624/\v4/\(0<=z.i 20+1+v0/20+v2/\z.i 20+1+ ↑(z.s 4).length/20+ ↑(z.g 5).length<=5000000000000000)/\1001<=z.i 20+1+v0/20+v2+i4) (λy0=>(z.i 20+1+ ↑(z.s 4).length/20+ ↑(z.g 5).length<=y0.i 21/\y0.i 21<=5000000000000000)/\(y0.i 21<=1000->y0.i 21=z.i 20+1+ ↑(z.s 4).length/20+ ↑(z.g 5).length+ ↑v10)) λy0=>(.ax (Cs (Cu (y0.i 21)) (z.i 20) (y0.i 21) (qt (y0.i 21) (z.i 20) v5)))) (Ts v1 k (z.g 6) v4 (Tt v11) v11 i4 v10 λy0=>(.ax (Cs (Cu (y0.i 21)) (z.i 20) (y0.i 21) (qt (y0.i 21) (z.i 20) v5))))) (.two ((-9223372036854775808)<=IntKind.i64.wrap v6+v2/\IntKind.i64.wrap v6+ ↑(z.g 5).length<=9223372036854775807) (VB v1 k (z.g 6) v4 (0<=IntKind.i64.wrap v6+v2/\IntKind.i64.wrap v6+ ↑(z.g 5).length<=5000000000000000) v6 v2 i4 (z.g 5) v10 λy0=>(.ax (Cs (Cu (y0.i 21)) (z.i 20) (y0.i 21) (qt (y0.i 21) (z.i 20) v5)))) (Ts v1 k (z.g 6) v4 (Tt v8) v8 i4 v10 λy0=>(.ax (Cs (Cu (y0.i 21)) (z.i 20) (y0.i 21) (qt (y0.i 21) (z.i 20) v5)))))) (.two ((-9223372036854775808)<=z.i 20+1+IntKind.i64.wrap (v0/20)/\z.i 20+1+IntKind.i64.wrap (v0/20)<=9223372036854775807) (.two ((-9223372036854775808)<=z.i 20+1+IntKind.i64.wrap (v0/20)+v2/\z.i 20+1+IntKind.i64.wrap (v0/20)+ ↑(z.g 5).length<=9223372036854775807) (.cl v1 (wL k (z.g 6)/\(z.g 6).length<=1125899906842624/\v4/\(0<=z.i 20+1+IntKind.i64.wrap (v0/20)+v2/\z.i 20+1+IntKind.i64.wrap (v0/20)+ ↑(z.g 5).length<=5000000000000000)/\1001<=z.i 20+1+IntKind.i64.wrap (v0/20)+v2+i4) (λy0=>(z.i 20+1+IntKind.i64.wrap (v0/20)+ ↑(z.g 5).length<=y0.i 21/\y0.i 21<=5000000000000000)/\(y0.i 21<=1000->y0.i 21=z.i 20+1+IntKind.i64.wrap (v0/20)+ ↑(z.g 5).length+ ↑v10)) λy0=>(.ax (Cs (Cu (y0.i 21)) (z.i 20) (y0.i 21) (qt (y0.i 21) (z.i 20) v5)))) (Ts v1 k (z.g 6) v4 (Tt v7) v7 i4 v10 λy0=>(.ax (Cs (Cu (y0.i 21)) (z.i 20) (y0.i 21) (qt (y0.i 21) (z.i 20) v5))))) (.two ((-9223372036854775808)<=IntKind.i64.wrap v3+v2/\IntKind.i64.wrap v3+ ↑(z.g 5).length<=9223372036854775807) (VB v1 k (z.g 6) v4 (0<=IntKind.i64.wrap v3+v2/\IntKind.i64.wrap v3+ ↑(z.g 5).length<=5000000000000000) v3 v2 i4 (z.g 5) v10 λy0=>(.ax (Cs (Cu (y0.i 21)) (z.i 20) (y0.i 21) (qt (y0.i 21) (z.i 20) v5)))) (Ts v1 k (z.g 6) v4 (Tt v9) v9 i4 v10 λy0=>(.ax (Cs (Cu (y0.i 21)) (z.i 20) (y0.i 21) (qt (y0.i 21) (z.i 20) v5))))))))))) by dsimp only [Em,va] at hA;have:=@Tq k (z.i 2) (z.s 4) (z.g 5) (z.g 6);have:=Pt k (z.s 4) (z.g 5) (z.g 6);exact i_
abbrev J3(a:Int)(b:List G):=a=a/\b=b/\True
abbrev Tq98(a:Prop)(b c d e f g:Int):=a/\b.toNat<c.toNat/\∀(y:Sy),(y.i 999=0->y.i 21=d+e/\(y.i 21=d∨y.i 21<=1000))/\(¬y.i 999=0->y.p 10)->(y.i 999=0->y.i 21=f+g/\(y.i 21=f∨y.i 21<=1000))/\(¬y.i 999=0->y.p 10)
def J4:bN 4 2 Co:=bM 7 69 (ai (tS 1002) eN) lN λp z hA=>show Fm.den (let v0:=(gL (aZ (aK (p.g 1) (p.i 8))));let v1:=(↑v0.length:Int);let v2:=(cr (p.i 8) (p.g 1));let v3:=(aK v0 (z.i 9));let v4:=(↑(jn 1002 v0 (z.i 9)):Int);let v5:=(J3 (p.i 8) (p.g 1));let v6:=(z.i 9+1);(.an v2 (.two (z.i 9<v1) (.an v2 (.an (0<=z.i 9/\z.i 9<v1) (.ct (QT 1002 (gI (aa v3 1)) (gS (aa v3 3)) (gL (aa v3 4)) (gL (aa v3 5))/\(0<=z.i 20/\z.i 20<=3000000000000000)/\1001<=z.i 20+1002/\1<=1002) (λy0=>(y0.p 10↔1000<y0.i 21)/\z.i 20<y0.i 21/\y0.i 21<=5000000000000000/\(y0.i 21<=1000->y0.i 21=z.i 20+(↑(QU 1002 (gS (aa v3 3)) (gL (aa v3 4)) (gL (aa v3 5))):Int))) λy0=>(.two (y0.p 10) (.ax (((1:Int)=0->y0.i 21=z.i 20+v4/\(y0.i 21=z.i 20∨y0.i 21<=1000))/\(¬(1:Int)=0->true=true))) (.two ((-9223372036854775808)<=z.i 9+1/\z.i 9+1<=9223372036854775807) (.an v5 (.at (Tq98 (En (p.g 1)/\v2/\(0<=z.i 9+1/\z.i 9+1<=v1)/\0<=y0.i 21/\y0.i 21<=3000000000000000) (v1-v6) (v1-z.i 9) (y0.i 21) (↑(jn 1002 v0 v6):Int) (z.i 20) v4))) (.an v5 (.at (Tq98 (En (p.g 1)/\v2/\((0:Int)<=IntKind.i64.wrap v6/\IntKind.i64.wrap v6<=v1)/\0<=y0.i 21/\y0.i 21<=3000000000000000) (v1-IntKind.i64.wrap v6) (v1-z.i 9) (y0.i 21) (↑(jn 1002 v0 (dw v6)):Int) (z.i 20) v4)))))))) (.an v5 (.at (((0:Int)=0->z.i 20=z.i 20+v4/\(z.i 20=z.i 20∨z.i 20<=1000))/\(¬(0:Int)=0->(aM (PS.mk [(21,Tm.i (z.i 20)),(999,Tm.i (Int.ofNat (nat_lit 0)))] ((0,(bH 0).fst,0)::kj.loc) kj.ln (p.i 8=p.i 8/\p.g 1=p.g 1/\kj.pr) kj.fz).tm).p 10))))))) by dsimp only [Co] at hA;have:=@Eo (p.g 1) (p.i 8);have:=@Ps 1002 (gL (aa (aq (p.g 1) (p.i 8).toNat) 0)) (z.i 9);have:=@ls 1002 (gL (aa (aq (p.g 1) (p.i 8).toNat) 0)) (z.i 9);have:=@oJ 1002 (gL (aa (aq (p.g 1) (p.i 8).toNat) 0)) (z.i 9);have:=yY 1002 (aq (gL (aa (aq (p.g 1) (p.i 8).toNat) 0)) (z.i 9).toNat);have:=El 1002 (aq (gL (aa (aq (p.g 1) (p.i 8).toNat) 0)) (z.i 9).toNat);exact i_
def J5:bN 4 0 Cq:=bM 7 153 eN (aF (ptm:=[(0,.c (.v 13 1)),(4,.c (.i .i64 8))]) J4 lN) λp z hA=>show Fm.den (let v0:=(gL (aZ (aK (p.g 1) (z.i 9))));let v1:=(m_ (p.g 1) (z.i 9));(.two (dq (z.i 9) (p.g 1)) (.an ((-9223372036854775808)<=z.i 20+2/\z.i 20+2<=9223372036854775807) (.cl ((J3 (z.i 9) (p.g 1))) (En (p.g 1)/\(cr (z.i 9) (p.g 1))/\((0:Int)<=0/\(0:Int)<=(↑v0.length:Int))/\0<=z.i 20+2/\z.i 20+2<=3000000000000000) (λy0=>(y0.i 999=0->y0.i 21=z.i 20+2+(↑(jn 1002 v0 0):Int)/\(y0.i 21=z.i 20+2∨y0.i 21<=1000))/\(¬y0.i 999=0->y0.p 10)) λy0=>(.two (y0.i 999=0) (.an ((-9223372036854775808)<=z.i 9+1/\z.i 9+1<=9223372036854775807) (.an (p.g 1=p.g 1/\True) (.at ((En (p.g 1)/\(p.g 1).length<=1125899906842624/\(dU (z.i 9) (p.g 1))/\0<=y0.i 21/\y0.i 21<=1000+2 * (z.i 9+1))/\((↑(p.g 1).length:Int)-(z.i 9+1)).toNat<((↑(p.g 1).length:Int)-z.i 9).toNat/\∀(y:Sy),(y.i 999=0->y.i 21=y0.i 21+ ↑(m_ (p.g 1) (z.i 9+1)))/\(¬y.i 999=0->y.p 10)->(y.i 999=0->y.i 21=z.i 20+ ↑v1)/\(¬y.i 999=0->y.p 10))))) (.ax (((1:Int)=0->y0.i 21=z.i 20+ ↑v1)/\(¬(1:Int)=0->y0.p 10)))))) (.an (p.g 1=p.g 1/\True) (.at (((0:Int)=0->z.i 20=z.i 20+ ↑v1)/\(¬(0:Int)=0->(aM (PS.mk [(21,Tm.i (z.i 20)),(999,Tm.i (Int.ofNat (nat_lit 0)))] ((0,(bH 0).fst,0)::kj.loc) kj.ln (p.g 1=p.g 1/\kj.pr) kj.fz).tm).p 10)))))) by dsimp only [Cq] at hA;have:=@Eo (p.g 1) (z.i 9);have:=@gH (p.g 1) (z.i 9);have:=@yZ (p.g 1) (z.i 9);exact i_
def Tu:bn 4 Pu:=bA 5 5 eN (aF (ptm:=[(0,.c (.v 13 1))]) J5 lN) λz hA=>show Fm.den ((.cl ((z.g 1=z.g 1/\True)) (En (z.g 1)/\(z.g 1).length<=1125899906842624/\(fJ (↑(z.g 1).length:Int))/\(0:Int)<=0/\(0:Int)<=1000+2 * 0) (λy0=>(y0.i 999=0->y0.i 21=0+ ↑(m_ (z.g 1) 0))/\(¬y0.i 999=0->y0.p 10)) λy0=>(.two (y0.i 999=0) (.two (1000<y0.i 21) (.ax (¬true=true->(z.g 1).length<=30/\m_ (z.g 1) 0<=1000)) (.ax (¬30<(↑(z.g 1).length:Int)->(z.g 1).length<=30/\m_ (z.g 1) 0<=1000))) (.ax (¬y0.p 10->(z.g 1).length<=30/\m_ (z.g 1) 0<=1000))))) by dsimp only [Pu] at hA;exact i_
noncomputable section
def esG(i:Int)(e:G):Prop:=wh e/\Vz e=e/\(gI (aa e 0)=1∨gI (aa e 0)=2)/\(gI (aa e 0)=2↔1<=i)/\¬gI (aa e 12)=1/\gI (aa e 13)=0/\gI (aa e 14)=0
def dM(es:List G):Prop:=∀i:Int,0<=i->i<es.length->esG i (aq es i.toNat)
def es_at{es:List G}{i:Int}(h:dM es)(h0:0<=i)(hi:i<es.length):(gI (aa (aq es i.toNat) 0)=1∨gI (aa (aq es i.toNat) 0)=2)/\(gI (aa (aq es i.toNat) 0)=2↔1<=i)/\¬gI (aa (aq es i.toNat) 12)=1/\gI (aa (aq es i.toNat) 13)=0/\gI (aa (aq es i.toNat) 14)=0:=(h i h0 hi).2.2
def HJ{es:List G}{e:G}{i:Int}(h0:0<=i)(hi:i<es.length):aq (es++ [e]) i.toNat=aq es i.toNat:=by unfold aq;rw[aag,aag,aaA (by omega)]
def tT{es:List G}{e:G}{i:Int}(hi:i=es.length):aq (es++ [e]) i.toNat=e:=by subst hi;unfold aq;rw[aag,aaq,aax (aaa _),aa_];rfl
def tU{es:List G}(h:dM es):qm es:=by
 unfold qm
 intro e he
 obtain⟨i,hi,e2⟩:=abH he
 have:=(h (i:Int) (by omega) (by omega)).1
 have e3:aq es (i:Int).toNat=e:=by unfold aq;rw[aaq,aag,aai hi, ←e2];rfl
 rwa [e3] at this
def HK{es:List G}(h:dM es):Pm es:=by
 intro e he
 obtain⟨i,hi,e2⟩:=abH he
 have:=(h (i:Int) (by omega) (by omega)).2.1
 have e3:aq es (i:Int).toNat=e:=by unfold aq;rw[aaq,aag,aai hi, ←e2];rfl
 rwa [e3] at this
abbrev X1(es:List G):Int:=bI 0 0 0 hZ es
def rp{es:List G}(h:es.length<=200):∀(n:Nat) (i:Int),0<=i->i+n=es.length->(f_ es i).length<=(im True es i).length+10 * n
 |0,i,h0,hn=>by rw[yX (by omega)];exact aap _
 |n+1,i,h0,hn=>by
  have hi:i<es.length:=by omega
  rw[tO h0 hi,oo h0 hi,aah,aah];have a:=@Pe i.toNat (aq es i.toNat) (by omega);have b:=rp h n (i+1) (by omega) (by omega);omega
def X3(e:G):(zC False e).length<=(zC True e).length:=by
 unfold zC;rw[aah,aah];by_cases h:gI (aa e 0)=2
 ·rw[if_pos h,if_pos h,if_pos (.inr id)];by_cases h1:gI (aa e 12)=1∨¬True
  ·rw[if_pos h1];exact aaa _
  ·rw[if_neg h1,aau];simp
 ·rw[if_neg h,if_neg h];exact aaa _
def Px(es:List G):(im False es 0).length<=(im True es 0).length:=by
 unfold im
 show((es.drop 0).flatMap _).length<=((es.drop 0).flatMap _).length
 rw[aaR]
 induction es with
 |nil=>exact aaa _
 |cons e es ih=>rw[List.flatMap_cons,List.flatMap_cons,aah,aah];have:=X3 e;omega
def Tw{es:List G}(h:dM es)(hb:X1 es=0):jO es/\(mX False 0 0 0 hZ es).length<=262144/\(f_ es 0).length<=270000:=by
 obtain⟨h1,h2,h3⟩:=fi hb;have h4:es.length<=200:=by unfold yh at h1;exact h1.2.2.2.2
 have a:=rp h4 es.length 0 (by omega) (by omega);have b:=Px es;unfold mX at h3⊢;simp only [aah] at h3⊢;exact⟨⟨h2,tU h,h4⟩,by omega,by omega⟩
def kf(es:List G):G:=.node [.int 0,.int 0,.int 0,hZ,.node es]
def Kr(es:List G):G:=kz 0 0 0 hZ es
def Tx(n:Int):List G:=(List.range n.toNat).map λ(k:Nat)=>.node [.int 0,.int ((k:Int)+1)]
def atN_0{n:Int}(h:n<=0):Tx n= []:=by unfold Tx;rw[show n.toNat=0 by omega];rfl
def atN_s{n:Int}(h:0<=n):Tx (n+1)=Tx n++ [.node [.int 0,.int (n+1)]]:=by unfold Tx;rw[show(n+1).toNat=n.toNat+1 by omega,List.range_succ,List.map_append];congr 1;show [G.node [.int 0,.int ((n.toNat:Int)+1)]]=_;rw[abm h]
attribute [irreducible] dM Tx
end
noncomputable section
def Ks:G:=.node [.int 1,.str [115],.int 0,.int 0,.int 0,.int 0,.int 0,.int 0,.str [],.node [],.node [],hZ,.int 0,.int 0,.int 0]
def Y_(v:G):G:=DJ (gI (aa v 0)) (gI (aa v 1)) (gI (aa v 2)) (gS (aa v 3)) (gL (aa v 4)) (gL (aa v 5))
def lW(k:Int)(v:G):G:=.node [.int 2,.str [],.int 1,.int (1+k),.int 0,.int (gI (aa v 0)),.int (gI (aa v 1)),.int (gI (aa v 2)),.str (gS (aa v 3)),.node (gL (aa v 4)),.node (gL (aa v 5)),Y_ v,.int 0,.int 0,.int 0]
def J6:List G->Int->List G
 | [],_=>[]
 |v::vs,k=>lW k v::J6 vs (k+1)
def uj(l:List G)(i:Int):List G:=J6 (l.drop i.toNat) i
def Py{l:List G}{i:Int}(h0:0<=i)(h:i<l.length):uj l i=lW i (aq l i.toNat)::uj l (i+1):=by unfold uj;rw[eH h0 h];rfl
def Ty{l:List G}{i:Int}(h:(l.length:Int)<=i):uj l i= []:=by unfold uj;rw[aaO (by omega)];rfl
def cA(l:List G):List G:=Ks::uj l 0
def lu(k:Int)(v:G):lW k v= .node [.int 2,.str [],.int 1,.int (1+k),.int 0,.int (gI (aa v 0)),.int (gI (aa v 1)),.int (gI (aa v 2)),.str (gS (aa v 3)),.node (gL (aa v 4)),.node (gL (aa v 5)),Y_ v,.int 0,.int 0,.int 0]:=rfl
def Za(l:List G):Prop:=∀g∈l,Y8 16 g=g
def kx(l:List G):Prop:=Za l/\wL 1002 l/\jn 1002 l 0<=1000/\l.length<=1000
def HL:∀(l:List G) (i:Int),(J6 l i).length=l.length
 | [],_=>rfl
 |_::l,i=>by rw[J6,aau,HL,aau]
def oL(l:List G):(cA l).length=l.length+1:=by unfold cA uj;rw[aau,HL];rfl
def Pz{l:List G}{i:Int}(h:kx l)(h0:0<=i)(hi:i<l.length):tl 16 (gI (aa (aq l i.toNat) 1)) (gS (aa (aq l i.toNat) 3)) (gL (aa (aq l i.toNat) 4)) (gL (aa (aq l i.toNat) 5))/\x_ 16 (gS (aa (aq l i.toNat) 3)) (gL (aa (aq l i.toNat) 5))<=100000:=Cr h.2.1 h.2.2.1 h0 hi
def zh:∀(l:List G) (k:Int) (n:Nat),n<l.length->aq (J6 l k) n=lW (k+n) (aq l n)
 | [],k,n,h=>by simp at h
 |v::vs,k,0,h=>by show lW k v=lW (k+(0:Nat)) v;congr 1;omega
 |v::vs,k,n+1,h=>by have:=zh vs (k+1) n (by simpa using h);show aq (J6 vs (k+1)) n=lW _ (aq vs n);rw[this];congr 1;omega
def HM:tl 16 0 [] [] []:=by with_unfolding_all exact⟨⟨⟨by decide,by decide⟩,by decide,by decide,by decide⟩,λ_ h=>absurd h aaP⟩
def HN:x_ 16 [] []<=10000000:=by
 have:x_ 16 [] []=24:=by with_unfolding_all rfl
 omega
def HO(kd i sc:Int)(t:List Nat)(ns ks:List G):HOk (DJ kd i sc t ns ks):=by
 unfold DJ;split
 ·exact gB _
 ·exact dh
def pI_0:pI ((0:Int)=1)=0:=if_neg (by decide)
def zi{tx:List Nat}{tb dc vr vi:Int}{vt:List Nat}{vn vx:List G}{h:G}{ab ae:Int}(h0:tx.length<=1000000/\(-9223372036854775808<=tb/\tb<9223372036854775808)/\(-9223372036854775808<=dc/\dc<9223372036854775808)/\(-9223372036854775808<=vr/\vr<9223372036854775808)/\
 (-9223372036854775808<=ab/\ab<9223372036854775808)/\(-9223372036854775808<=ae/\ae<9223372036854775808)/\tl 16 vi vt vn vx/\x_ 16 vt vx<=10000000/\HOk h):ql tx tb dc vr vi vt vn vx h ab ae:=by unfold ql;exact h0
def st_ok:esG 0 Ks:=by
 refine⟨?_, ?_,.inl rfl,⟨λh=>?_,λh=>?_⟩,by decide,rfl,rfl⟩
 ·refine zi ⟨by decide,⟨by decide,by decide⟩,⟨by decide,by decide⟩,⟨by decide,by decide⟩,⟨by decide,by decide⟩,⟨by decide,by decide⟩,HM,HN, ?_⟩;show HOk (hX hZ);rw[db dh];exact dh
 ·show G.node [.int 1,.str [115],.int 0,.int 0,.int 0,.int 0,.int 0,.int 0,.str [],.node [],.node (zG 16 []),hX hZ,.int (pI ((0:Int)=1)),.int 0,.int 0]=_;rw[db dh,pI_0];rfl
 ·exact absurd (show(1:Int)=2 from h) (by decide)
 ·omega
def rv_ok{l:List G}{k:Int}(h:kx l)(h0:0<=k)(hk:k<l.length):esG (k+1) (lW k (aq l k.toNat)):=by
 obtain⟨a1,a2⟩:=Pz h h0 hk;have hl:=h.2.2.2;have hn:=h.1 _ (dp h0 hk);have e5:zG 16 (gL (aa (aq l k.toNat) 5))=gL (aa (aq l k.toNat) 5):=by
  have:gL (aa (Y8 16 (aq l k.toNat)) 5)=gL (aa (aq l k.toNat) 5):=by rw[hn]
  exact this
 have hh:HOk (Y_ (aq l k.toNat)):=HO _ _ _ _ _ _;refine⟨?_, ?_,.inr rfl,⟨λ_=>by omega,λ_=>rfl⟩,show ¬(0:Int)=1 by decide,rfl,rfl⟩
 ·have z1: -9223372036854775808<=(0:Int)/\(0:Int)<9223372036854775808:=⟨by decide,by decide⟩
  have z2: -9223372036854775808<=(1:Int)/\(1:Int)<9223372036854775808:=⟨by decide,by decide⟩
  refine zi ⟨aap _,z2, ?_,z1,z1,z1,a1,aaH a2 (by decide), ?_⟩
  ·show -9223372036854775808<=1+k/\1+k<9223372036854775808;omega
  ·show HOk (hX (Y_ _));rw[db hh];exact hh
 ·show G.node [.int 2,.str [],.int 1,.int (1+k),.int 0,.int (gI (aa (aq l k.toNat) 0)),.int (gI (aa (aq l k.toNat) 1)),.int (gI (aa (aq l k.toNat) 2)),.str (gS (aa (aq l k.toNat) 3)),.node (gL (aa (aq l k.toNat) 4)),.node (zG 16 (gL (aa (aq l k.toNat) 5))),hX (Y_ (aq l k.toNat)),.int (pI ((0:Int)=1)),.int 0,.int 0]=_;rw[db hh,pI_0,e5];rfl
def pN{l:List G}(h:kx l):dM (cA l):=by
 unfold dM;intro i h0 hi;rw[oL] at hi;by_cases e:i=0
 ·subst e;exact st_ok
 ·have h1:=zh l 0 (i-1).toNat (by omega);have h2:aq (cA l) i.toNat=aq (J6 l 0) (i-1).toNat:=by rw[show i.toNat=(i-1).toNat+1 by omega];rfl
  have h3:=rv_ok (k:=i-1) h (by omega) (by omega);rw[h2,h1];rw[show(0:Int)+((i-1).toNat:Nat)=i-1 by omega];rw[show i-1+1=i by omega] at h3;exact h3
def PA{l:List G}(h:kx l):l.length<=1000:=h.2.2.2
def HP(p:Sy):LSpec:=⟨[(68,.c (.pv 7 (p.g 24))),(69,.c (.pi .i64 (p.g 24).length)),(70,.c (.i .i64 9))],[],λz=>dM (p.g 24)/\(0<=z.i 9/\z.i 9<=(p.g 24).length)/\(p.g 24).length<=1000000,λz=>((p.g 24).length-z.i 9).toNat,[⟨.exit 1,[],[]⟩],λz y=>True,none,[]⟩
def HQ(p:Sy):LSpec:=⟨[(30,.c (.pv 7 (p.g 24))),(31,.c (.pi .i64 (p.g 24).length)),(32,.c (.i .i64 9))],[],λz=>dM (p.g 24)/\(0<=z.i 9/\z.i 9<=(p.g 24).length)/\(p.g 24).length<=1000000,λz=>((p.g 24).length-z.i 9).toNat,[⟨.exit 0,[],[]⟩],λz y=>True,none,[0,3,6]⟩
def HR{P:Program}{f:Nat}{S:FSpec}(af4:Sy->Sy->Prop)(h:∀z y,S.pre z->S.post z y->af4 z y)(hS:Ok P f S):Ok P f {S with post:=af4}:=by obtain⟨zf,hc⟩:=hS;exact⟨λz=>⟨(zf z).1,λhz=>h z _ hz ((zf z).2 hz)⟩,hc⟩
def Cv(es L H A:List G):Prop:=(X1 es=0->L= [kf es]/\H= [.node [Kr es]]/\A=Tx (es.length-1))/\(¬X1 es=0->L= []/\H= []/\A= [])
def zj{l:List G}:cA l= [.node [.int 1,.str [115],.int 0,.int 0,.int 0,.int 0,.int 0,.int 0,.str [],.node [],.node [],hZ,.int 0,.int 0,.int 0]]++uj l 0:=rfl
attribute [irreducible] kx cA uj lW Cv
end
abbrev Cw(a:List G)(b:Prop):=dM a/\b/\a.length<=1000000
abbrev HS(a:Prop)(b c:Int):=a/\b.toNat<c.toNat/\∀(y:Sy),True->True
def J7(p:Sy)(z:Sy):=@es_at (p.g 24) (z.i 9)
def PB:bN 55 1 HP:=bM 12 150037 eN lN λp z hA=>show Fm.den (let v1:=(aK (p.g 24) (z.i 9));let v2:=(↑(p.g 24).length:Int);let v0:Fm:=(.an ((-9223372036854775808)<=z.i 9+1/\z.i 9+1<=9223372036854775807) (.an (J3 v2 (p.g 24)) (.at (HS (Cw (p.g 24) (dU (z.i 9) (p.g 24))) (v2-(z.i 9+1)) (v2-z.i 9)))));(.two (dq (z.i 9) (p.g 24)) (.an (cr (z.i 9) (p.g 24)) (.two (gI (aa v1 0)=2) (.two (gI (aa v1 12)=1) .ff (.an (gI (aa v1 0)≠4) v0)) (.two (gI (aa v1 0)≠4) v0 .ff))) (.ax (True)))) by dsimp only [HP] at hA;have:=J7 p z;exact dD
def PC:bN 21 0 HQ:=bM 6 133 eN lN λp z hA=>show Fm.den (let v0:=(↑(p.g 24).length:Int);(.two (dq (z.i 9) (p.g 24)) (.an (cr (z.i 9) (p.g 24)) (.two (gI (aZ (aK (p.g 24) (z.i 9)))=4) .ff (.an ((-9223372036854775808)<=z.i 9+1/\z.i 9+1<=9223372036854775807) (.an (J3 v0 (p.g 24)) (.at (HS (Cw (p.g 24) (dU (z.i 9) (p.g 24))) (v0-(z.i 9+1)) (v0-z.i 9))))))) (.ax (True)))) by dsimp only [HQ] at hA;have:=J7 p z;exact dD
noncomputable section
end
noncomputable section
def B8(l:List Nat):Prop:=∀x∈l,x<256
def PD:B8 []:=λ_ h=>absurd h aaP
def B8.cons{x:Nat}{l:List Nat}(h:x<256)(hl:B8 l):B8 (x::l):=λy hy=>by
 rcases List.mem_cons.1 hy with rfl|hy
 ·exact h
 ·exact hl y hy
def B8.app{a b:List Nat}(h:B8 a)(hb:B8 b):B8 (a++b):=λy hy=>by
 rcases List.mem_append.1 hy with hy|hy
 ·exact h y hy
 ·exact hb y hy
def gJ{l:List G}{h:G}(hl:RowsOk l)(hh:HOk h):RowsOk (l++ [.node [h]]):=λr hr=>by
 rcases List.mem_append.1 hr with hr|hr
 ·exact hl r hr
 ·rw[List.mem_singleton.1 hr];show HOk (hX h);rw[db hh];exact hh
def gM:RowsOk []:=λ_ h=>absurd h aaP
def enD:List Sh:=[.i .i64 1001,.s 1002,.i .i64 1003,.i .i64 1004,.i .i64 1005,.i .i64 1006,.i .i64 1007,.i .i64 1008,.s 1009,.v 1 1010,.v 2 1011]++hs 1100++ [.b 1012,.i .i64 1013,.i .i64 1014]
attribute [irreducible] B8
end
end Go.Proofs.YthgjkeemmhcpfaaGreatDoor
