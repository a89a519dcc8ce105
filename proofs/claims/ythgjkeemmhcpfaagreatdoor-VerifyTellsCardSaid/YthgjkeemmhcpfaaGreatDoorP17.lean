/- Part 17. -/
import Derived.Test.YthgjkeemmhcpfaaGreatDoorProg
import Derived.KernelRfl
import Derived.Test.YthgjkeemmhcpfaaGreatDoorP12
import Derived.Test.YthgjkeemmhcpfaaGreatDoorP13
import Derived.Test.YthgjkeemmhcpfaaGreatDoorP14
import Derived.Test.YthgjkeemmhcpfaaGreatDoorP15
import Derived.Test.YthgjkeemmhcpfaaGreatDoorP16
set_option linter.all false
namespace Go.Proofs.YthgjkeemmhcpfaaGreatDoor
open Go.Sym
set_option maxRecDepth 100000
noncomputable section
structure Tk where
 a:G
 b:G
 r:List G
 ok:Prop
open Classical in
def nH(r:List G):G:=if r.length=0 then hZ else hX (aa (aq r 0) 0)
def Ox{r:List G}(h:r.length=0):nH r=hZ:=if_pos h
def B9{r:List G}(h:¬r.length=0):nH r=hX (aa (aq r 0) 0):=if_neg h
theorem nH_ok{r:List G}(h:RowsOk r):HOk (nH r):=by
 by_cases h0:r.length=0
 ·rw[Ox h0];exact dh
 ·rw[B9 h0];exact h.at (i:=0) (by omega) (by omega)
open Classical in
def cS(m n:Int)(c:Prop)(r:List G)(ok:Prop)(o:G):Tk:=
 if m=n then(if c then⟨o,o,r,ok⟩ else⟨nH r,nH r,r.drop 1,ok/\¬r.length=0⟩)
 else if h:2<=n then
  if m<=(br n.toNat:Nat) then⟨(cS m (br n.toNat:Nat) c r ok o).a,aY (cS m (br n.toNat:Nat) c r ok o).b (nH (cS m (br n.toNat:Nat) c r ok o).r),(cS m (br n.toNat:Nat) c r ok o).r.drop 1,(cS m (br n.toNat:Nat) c r ok o).ok/\¬(cS m (br n.toNat:Nat) c r ok o).r.length=0⟩
  else⟨aY (nH (cS (m-(br n.toNat:Nat)) (n-(br n.toNat:Nat)) False r ok o).r) (cS (m-(br n.toNat:Nat)) (n-(br n.toNat:Nat)) False r ok o).a,aY (nH (cS (m-(br n.toNat:Nat)) (n-(br n.toNat:Nat)) False r ok o).r) (cS (m-(br n.toNat:Nat)) (n-(br n.toNat:Nat)) False r ok o).b,(cS (m-(br n.toNat:Nat)) (n-(br n.toNat:Nat)) False r ok o).r.drop 1,(cS (m-(br n.toNat:Nat)) (n-(br n.toNat:Nat)) False r ok o).ok/\¬(cS (m-(br n.toNat:Nat)) (n-(br n.toNat:Nat)) False r ok o).r.length=0⟩
 else⟨hZ,hZ,r,False⟩
termination_by n.toNat
decreasing_by all_goals (have:=eY h;omega)
variable{m n k:Int}{c d ok:Prop}{r:List G}{o:G}
def G4(h:m=n)(hc:c):cS m n c r ok o=⟨o,o,r,ok⟩:=by rw[cS,if_pos h,if_pos hc]
def G5(h:m=n)(hc:¬c):cS m n c r ok o=⟨nH r,nH r,r.drop 1,ok/\¬r.length=0⟩:=by rw[cS,if_pos h,if_neg hc]
def G6(hd:¬d)(h:¬m=n)(hn:2<=n)(hk:k=(br n.toNat:Nat)):
 (m<=k->cS m n c r ok o=⟨(cS m k c r ok o).a,aY (cS m k c r ok o).b (nH (cS m k c r ok o).r),(cS m k c r ok o).r.drop 1,(cS m k c r ok o).ok/\¬(cS m k c r ok o).r.length=0⟩)/\
 (¬m<=k->cS m n c r ok o=⟨aY (nH (cS (m-k) (n-k) d r ok o).r) (cS (m-k) (n-k) d r ok o).a,aY (nH (cS (m-k) (n-k) d r ok o).r) (cS (m-k) (n-k) d r ok o).b,(cS (m-k) (n-k) d r ok o).r.drop 1,(cS (m-k) (n-k) d r ok o).ok/\¬(cS (m-k) (n-k) d r ok o).r.length=0⟩):=by
 subst hk
 rw[show d=False from propext ⟨hd,False.elim⟩]
 refine⟨λhi=>?_,λhi=>?_⟩
 ·conv=>lhs;rw[cS,if_neg h,dif_pos hn,if_pos hi]
 ·conv=>lhs;rw[cS,if_neg h,dif_pos hn,if_neg hi]
def JQ:List BSh:=[.cells 161 [.v 6 1,.b 5]]
def dropI(l:List G):List.drop (1:Int).toNat (List.take (l.length:Int).toNat l)=l.drop 1:=by rw[oB];rfl
def Oy:FSpec:=⟨[.c (.p 0)],JQ,λz=>(z.g 1).length<=1000000/\RowsOk (z.g 1),λ_=>.one (.ag (hs 300)),λ_=>JQ,λz y=>y.g 1=(z.g 1).drop 1/\(y.p 5↔z.p 5/\¬(z.g 1).length=0)/\hT y 300=nH (z.g 1),none⟩
def Oz(k:Nat):FSpec:=⟨[.c (.p 0),.c (.i .i64 3),.c (.i .i64 4),.c (.b 8),.ag (hs 100)],JQ,λz=>HOk (hT z 100)/\(1<=z.i 3/\z.i 3<=z.i 4)/\z.i 4<k/\z.i 4<=1099511627776/\(z.g 1).length<=1000000/\RowsOk (z.g 1),λ_=>.tu [.ag (hs 300),.ag (hs 400)],λ_=>JQ,λz y=>(HOk (hT y 300)/\HOk (hT y 400)/\RowsOk (y.g 1)/\(y.g 1).length<=(z.g 1).length)/\hT y 300=(cS (z.i 3) (z.i 4) (z.p 8) (z.g 1) (z.p 5) (hT z 100)).a/\hT y 400=(cS (z.i 3) (z.i 4) (z.p 8) (z.g 1) (z.p 5) (hT z 100)).b/\y.g 1=(cS (z.i 3) (z.i 4) (z.p 8) (z.g 1) (z.p 5) (hT z 100)).r/\(y.p 5↔(cS (z.i 3) (z.i 4) (z.p 8) (z.g 1) (z.p 5) (hT z 100)).ok),none⟩
theorem D7{l:List G}(h:RowsOk l):RowsOk (l.drop 1):=h.drop 1
def B_(m n:Int)(p:List G)(o r:G):Prop:=(1<=m/\m<=n)/\n<=1099511627776/\(cS m n True p True o).ok/\(cS m n True p True o).r.length=0/\(cS m n True p True o).a=o/\(cS m n True p True o).b=r
def G7(t:Prop)(ht:t)(m n:Int)(p:List G)(o r:G):B_ m n p o r↔(1<=m/\m<=n)/\n<=1099511627776/\(cS m n t p t o).ok/\(cS m n t p t o).r.length=0/\(cS m n t p t o).a=o/\(cS m n t p t o).b=r:=by rw[show t=True from propext ⟨λ_=>trivial,λ_=>ht⟩];exact Iff.rfl
def wC:FSpec:=⟨[.c (.i .i64 3),.c (.i .i64 4),.ag [.v 6 1],.ag (hs 100),.ag (hs 200)],[],λz=>HOk (hT z 100)/\HOk (hT z 200)/\(z.g 1).length<=1000000/\RowsOk (z.g 1),λ_=>.one (.c (.b 50)),λ_=>[],λz y=>y.p 50↔B_ (z.i 3) (z.i 4) (z.g 1) (hT z 100) (hT z 200),none⟩
def JR{l:List G}(h:l.length=0):l.drop 1=l:=by rw[List.length_eq_zero_iff.1 h];rfl
attribute [irreducible] nH B_
end
set_option maxHeartbeats 4000000
def SM:bn 147 Oy:=bA 3 1 eN lN λz hA=>show Fm.den (let v0:=(↑(z.g 1).length:Int);(.two (v0=0) (.ax (z.g 1=List.drop 1 (z.g 1)/\(false=true↔z.p 5/\¬(z.g 1).length=0)/\hZ=nH (z.g 1))) (.an (vM v0) (.an ((0:Int)<=1/\1<=v0/\v0<=v0) (.ax (List.drop (Int.toNat 1) (pG v0 (z.g 1))=List.drop 1 (z.g 1)/\(z.p 5↔z.p 5/\¬(z.g 1).length=0)/\hX (aZ (aq (z.g 1) (ic)))=nH (z.g 1))))))) by dsimp only [Oy,JQ,hs] at hA;have:=@Ox (z.g 1);have:=@B9 (z.g 1);have:=dropI (z.g 1);have:=@JR (z.g 1);exact fx
abbrev Xw(a:List G)(b:Prop):=Fm.ct (a.length<=1000000/\RowsOk a) (λy=>y.g 1=List.drop 1 a/\(y.p 5↔b/\¬a.length=0)/\hT y 300=nH a)
abbrev OA(a b:G)(c d:List G):=HOk a/\HOk b/\RowsOk c/\c.length<=d.length
def Ca:∀k,bn 76 (Oz k)
 |0=>Ko λz h=>by have a:1<=z.i 3/\z.i 3<=z.i 4:=h.2.1;have b:z.i 4<((0:Nat):Int):=h.2.2.1;omega
 |k+1=>bA 9 41221 (ai SM (ai N7 (ai (Ca k) (ai qX eN)))) lN λz hA=>show Fm.den (let v1:=(hT z 100);let v0:=(cS (z.i 3) (z.i 4) (z.p 8) (z.g 1) (z.p 5) v1);let v2:=(ke);(.two (z.i 3=z.i 4) (.two (¬z.p 8) (Xw (z.g 1) (z.p 5) λy0=>(.ax ((HOk (hT y0 300)/\HOk (hT y0 300)/\RowsOk (y0.g 1)/\(y0.g 1).length<=(z.g 1).length)/\hT y0 300=v0.a/\hT y0 300=v0.b/\y0.g 1=v0.r/\(y0.p 5↔v0.ok)))) (.ax ((HOk v1/\HOk v1/\RowsOk (z.g 1)/\(z.g 1).length<=(z.g 1).length)/\hT z 100=v0.a/\hT z 100=v0.b/\z.g 1=v0.r/\(z.p 5↔v0.ok)))) (JM (z.i 4) (mi (z.i 4)) λy0=>(let v3:=(cS (z.i 3-y0.i 10) (z.i 4-y0.i 10) v2 (z.g 1) (z.p 5) v1);let v4:=(cS (z.i 3) (y0.i 10) (z.p 8) (z.g 1) (z.p 5) v1);(.two (z.i 3<=y0.i 10) (.ct (Oc v1 (1<=z.i 3/\z.i 3<=y0.i 10) (y0.i 10) k (z.g 1)) (λy1=>(OA (hT y1 300) (hT y1 400) (y1.g 1) (z.g 1))/\hT y1 300=v4.a/\hT y1 400=v4.b/\y1.g 1=v4.r/\(y1.p 5↔v4.ok)) λy1=>(Xw (y1.g 1) (y1.p 5) λy2=>(CM (hT y1 400) (hT y2 300) λy3=>(.ax ((OA (hT y1 300) (hT y3 300) (y2.g 1) (z.g 1))/\hT y1 300=v0.a/\hT y3 300=v0.b/\y2.g 1=v0.r/\(y2.p 5↔v0.ok)))))) (.an ((-9223372036854775808)<=z.i 3-y0.i 10/\z.i 3-y0.i 10<=9223372036854775807) (.an ((-9223372036854775808)<=z.i 4-y0.i 10/\z.i 4-y0.i 10<=9223372036854775807) (.ct (Ob v1 (1<=z.i 3-y0.i 10/\z.i 3-y0.i 10<=z.i 4-y0.i 10) (z.i 4) (y0.i 10) k (z.g 1)) (λy1=>(OA (hT y1 300) (hT y1 400) (y1.g 1) (z.g 1))/\hT y1 300=v3.a/\hT y1 400=v3.b/\y1.g 1=v3.r/\(y1.p 5↔v3.ok)) λy1=>(Xw (y1.g 1) (y1.p 5) λy2=>(let v5:=(hT y2 300);(CM v5 (hT y1 300) λy3=>(CM v5 (hT y1 400) λy4=>(.ax ((OA (hT y3 300) (hT y4 300) (y2.g 1) (z.g 1))/\hT y3 300=v0.a/\hT y4 300=v0.b/\y2.g 1=v0.r/\(y2.p 5↔v0.ok))))))))))))))) by
  dsimp only [Oz,hs,JQ] at hA;have:=@G4 (z.i 3) (z.i 4) (z.p 8) (z.p 5) (z.g 1) (hT z 100);have:=@G5 (z.i 3) (z.i 4) (z.p 8) (z.p 5) (z.g 1) (hT z 100);have:=λk h hn hk=>@G6 (z.i 3) (z.i 4) k (z.p 8) (false=true) (z.p 5) (z.g 1) (hT z 100) (λe=>by cases e) h hn hk;have:=@eY (z.i 4);conv=>zeta
  repeat' with_reducible first|intro _|apply bV|apply bW|apply bX|apply cy|apply cj
  all_goals first|omega|grind [ao,am,ak,aP,aQ,aR,aS,aT,aU,aV,aW,aX,az,bR,nH_ok,D7,List.length_drop]
def D8:bn 32 wC:=bA 13 86289 (ai (Ca 1099511627777) eN) lN λz hA=>show Fm.den (let v2:=(hT z 100);let v1:=(cS (z.i 3) (z.i 4) (qp) (z.g 1) (qp) v2);let v0:Fm:=(.ax (false=true↔B_ (z.i 3) (z.i 4) (z.g 1) v2 (hT z 200)));(.two (z.i 3<1) v0 (.two (z.i 4<z.i 3) v0 (.two (1099511627776<z.i 4) v0 (.ct (Xv v2 (1<=z.i 3/\z.i 3<=z.i 4) (z.i 4) (z.g 1)) (λy0=>(OA (hT y0 300) (hT y0 400) (y0.g 1) (z.g 1))/\hT y0 300=v1.a/\hT y0 400=v1.b/\y0.g 1=v1.r/\(y0.p 5↔v1.ok)) λy0=>(.two (y0.p 5) (.two ((↑(y0.g 1).length:Int)=0) (.two (ky (hT y0 300) v2) (.ax (ky (hT y0 400) (hT z 200)↔B_ (z.i 3) (z.i 4) (z.g 1) v2 (hT z 200))) v0) v0) v0)))))) by dsimp only [wC,hs] at hA;have:=@G7 (true=true) rfl (z.i 3) (z.i 4) (z.g 1) (hT z 100) (hT z 200);exact fx
noncomputable section
open Classical in
def need(m n:Int)(c:Prop):Nat:=
 if m=n then(if c then 0 else 1)
 else if h:2<=n then
  if m<=(br n.toNat:Nat) then need m (br n.toNat:Nat) c+1 else need (m-(br n.toNat:Nat)) (n-(br n.toNat:Nat)) False+1
 else 0
termination_by n.toNat
decreasing_by all_goals (have:=eY h;omega)
def G8{r:List G}{N:Nat}:aq (r.drop N) 0=aq r N:=by unfold aq;rw[aag,aag,aat,aas]
def yC{r:List G}{N:Nat}:aq (r.take (N+1)) N=aq r N:=by unfold aq;rw[aag,aag,aar (by omega)]
def mj{r:List G}{N:Nat}(h:N+1<=r.length):(r.take (N+1)).dropLast=r.take N:=by rw[List.dropLast_eq_take,aal,List.take_take];congr 1;omega
def SN:∀(K:Nat) (m n:Int) (c:Prop) (p:List G) (o:G),n.toNat<=K->1<=m->m<=n->((bp m n c p o).p↔p.length=need m n c):=by
 intro K
 induction K with
 |zero=>intro m n c p o hK h1 h2;omega
 |succ K ih=>
  intro m n c p o hK h1 h2;by_cases hm:m=n
  ·by_cases hc:c
   ·rw[pH hm hc,need,if_pos hm,if_pos hc]
   ·rw[need,if_pos hm,if_neg hc];by_cases hp:p.length=1
    ·rw[pJ hm hc hp];exact⟨λ_=>hp,λ_=>trivial⟩
    ·rw[wz hm hc hp];exact⟨False.elim,hp⟩
  ·have hn:2<=n:=by omega
   obtain⟨k1,k2,k3⟩:=eY hn;rw[need,if_neg hm,dif_pos hn];by_cases hp:p.length=0
   ·rw[wA hm hp];refine⟨False.elim,λh=>?_⟩;split at h <;> omega
   ·obtain⟨b1,b2⟩:=yB (m:=m) (n:=n) (c:=c) (d:=False) (p:=p) (o:=o) id hm hn (by omega) rfl;rw[wq (by omega)] at b1 b2;have hl:p.dropLast.length=p.length-1:=List.length_dropLast;by_cases hi:m<=(br n.toNat:Nat)
    ·rw[b1 hi,if_pos hi];show(bp _ _ _ _ _).p↔_;rw[ih _ _ _ _ _ (by omega) h1 hi,hl];omega
    ·rw[b2 hi,if_neg hi];show(bp _ _ _ _ _).p↔_;rw[ih _ _ _ _ _ (by omega) (by omega) (by omega),hl];omega
def SO:∀(K:Nat) (m n:Int) (c:Prop) (r:List G) (ok:Prop) (o:G),n.toNat<=K->1<=m->m<=n->
 (need m n c<=r.length->(cS m n c r ok o).r=r.drop (need m n c)/\((cS m n c r ok o).ok↔ok)/\(cS m n c r ok o).a=(bp m n c (r.take (need m n c)) o).a/\(cS m n c r ok o).b=(bp m n c (r.take (need m n c)) o).b)/\
 (r.length<need m n c->¬(cS m n c r ok o).ok):=by
 intro K
 induction K with
 |zero=>intro m n c r ok o hK h1 h2;omega
 |succ K ih=>
  intro m n c r ok o hK h1 h2
  by_cases hm:m=n
  ·by_cases hc:c
   ·have e:need m n c=0:=by rw[need,if_pos hm,if_pos hc]
    rw[e,G4 hm hc,pH hm hc];exact⟨λ_=>⟨rfl,Iff.rfl,rfl,rfl⟩,λh=>by omega⟩
   ·have e:need m n c=1:=by rw[need,if_pos hm,if_neg hc]
    rw[e,G5 hm hc];refine⟨λh=>?_,λh hk=>hk.2 (by omega)⟩;have e1:(r.take 1).length=1:=by rw[aal];omega
    rw[pJ hm hc e1,B9 (by omega),yC];exact⟨rfl,⟨λh=>h.1,λh=>⟨h,by omega⟩⟩,rfl,rfl⟩
  ·have hn:2<=n:=by omega
   obtain⟨k1,k2,k3⟩:=eY hn;have key:∀(m' n':Int) (c':Prop),n'.toNat<=K->1<=m'->m'<=n'->need m n c=need m' n' c'+1->
    ((cS m n c r ok o).r=(cS m' n' c' r ok o).r.drop 1/\((cS m n c r ok o).ok↔(cS m' n' c' r ok o).ok/\¬(cS m' n' c' r ok o).r.length=0))->
    ((∀N,need m' n' c'=N->N+1<=r.length->(cS m' n' c' r ok o).r=r.drop N->(cS m' n' c' r ok o).a=(bp m' n' c' (r.take N) o).a->(cS m' n' c' r ok o).b=(bp m' n' c' (r.take N) o).b->(cS m n c r ok o).a=(bp m n c (r.take (N+1)) o).a/\(cS m n c r ok o).b=(bp m n c (r.take (N+1)) o).b))->
    (need m n c<=r.length->(cS m n c r ok o).r=r.drop (need m n c)/\((cS m n c r ok o).ok↔ok)/\(cS m n c r ok o).a=(bp m n c (r.take (need m n c)) o).a/\(cS m n c r ok o).b=(bp m n c (r.take (need m n c)) o).b)/\(r.length<need m n c->¬(cS m n c r ok o).ok):=by
    intro m' n' c' hK' h1' h2' en ⟨er,eo⟩ hab
    obtain⟨i1,i2⟩:=ih m' n' c' r ok o hK' h1' h2'
    rw[en]
    refine⟨λhl=>?_,λhl hk=>?_⟩
    ·obtain⟨j1,j2,j3,j4⟩:=i1 (by omega);refine⟨by rw[er,j1,aa1], ?_,hab _ rfl hl j1 j3 j4⟩;rw[eo,j2,j1,aao];exact⟨λh=>h.1,λh=>⟨h,by omega⟩⟩
    ·have hk:=eo.1 hk;rcases aaf r.length (need m' n' c') with h|h
     ·exact i2 h hk.1
     ·obtain⟨j1,_⟩:=i1 h;apply hk.2;rw[j1,aao];omega
   obtain⟨t1,t2⟩:=G6 (m:=m) (n:=n) (c:=c) (d:=False) (ok:=ok) (r:=r) (o:=o) id hm hn rfl;by_cases hi:m<=(br n.toNat:Nat)
   ·refine key m (br n.toNat:Nat) c (by omega) h1 hi (by conv=>lhs;rw[need,if_neg hm,dif_pos hn,if_pos hi]) (by rw[t1 hi];exact⟨rfl,Iff.rfl⟩) λN eN hl hr ha hb=>?_;obtain⟨b1,_⟩:=yB (m:=m) (n:=n) (c:=c) (d:=False) (p:=r.take (N+1)) (o:=o) id hm hn (by rw[aal];omega) rfl;have b1:=b1 hi;have e1:(r.take (N+1)).length=N+1:=by rw[aal];omega
    rw[wq (by omega),mj hl,e1,show(((N+1:Nat):Int)-1).toNat=N by omega,yC] at b1;rw[t1 hi,b1];have:nH (cS m (br n.toNat:Nat) c r ok o).r=hX (aa (aq r N) 0):=by rw[hr,B9 (by rw[aao];omega),G8]
    exact⟨ha,by show aY _ _=aY _ _;rw[hb,this]⟩
   ·refine key (m-(br n.toNat:Nat)) (n-(br n.toNat:Nat)) False (by omega) (by omega) (by omega) (by conv=>lhs;rw[need,if_neg hm,dif_pos hn,if_neg hi]) (by rw[t2 hi];exact⟨rfl,Iff.rfl⟩) λN eN hl hr ha hb=>?_;obtain⟨_,b1⟩:=yB (m:=m) (n:=n) (c:=c) (d:=False) (p:=r.take (N+1)) (o:=o) id hm hn (by rw[aal];omega) rfl;have b1:=b1 hi;have e1:(r.take (N+1)).length=N+1:=by rw[aal];omega
    rw[wq (by omega),mj hl,e1,show(((N+1:Nat):Int)-1).toNat=N by omega,yC] at b1;rw[t2 hi,b1];have:nH (cS (m-(br n.toNat:Nat)) (n-(br n.toNat:Nat)) False r ok o).r=hX (aa (aq r N) 0):=by rw[hr,B9 (by rw[aao];omega),G8]
    exact⟨by show aY _ _=aY _ _;rw[ha,this],by show aY _ _=aY _ _;rw[hb,this]⟩
def ck_co(m n:Int)(p:List G)(o r:G):B_ m n p o r↔uC m n p o r:=by
 rw[G7 True trivial,G2 True trivial];refine and_congr_right λhm=>and_congr_right λ_=>?_;obtain⟨t1,t2⟩:=SO _ m n True p True o (aaa _) hm.1 hm.2;rw[SN _ m n True p o (aaa _) hm.1 hm.2];constructor
 ·rintro⟨h1,h2,h3,h4⟩;have hl:need m n True<=p.length:=by
   rcases aaf p.length (need m n True) with h|h
   ·exact absurd h1 (t2 h)
   ·exact h
  obtain⟨j1,_,j3,j4⟩:=t1 hl;rw[j1,aao] at h2;have e:p.length=need m n True:=by omega
  rw[←e,aa7] at j3 j4;exact⟨e,by rw[←j3];exact h3,by rw[←j4];exact h4⟩
 ·rintro⟨e,h3,h4⟩;obtain⟨j1,j2,j3,j4⟩:=t1 (by omega);rw[←e,aa7] at j3 j4;refine⟨j2.2 trivial,by rw[j1,aao];omega,by rw[j3];exact h3,by rw[j4];exact h4⟩
end
noncomputable section
end
noncomputable section
def cR(i n:Int):List Prop:=
 if h:2<=n then
  if i<(br n.toNat:Nat) then False::cR i (br n.toNat:Nat)
  else True::cR (i-(br n.toNat:Nat)) (n-(br n.toNat:Nat))
 else []
termination_by n.toNat
decreasing_by all_goals (have:=eX (n:=n.toNat) (by omega);have:=fY n.toNat;omega)
def lm{i n:Int}(h:¬2<=n):cR i n= []:=by rw[cR,dif_neg h]
def oC{i n k:Int}(h:2<=n)(hk:k=(br n.toNat:Nat))(hi:¬k<=i):cR i n=False::cR i k:=by subst hk;rw[cR,dif_pos h,if_pos (by omega)]
def oD{i n k:Int}(h:2<=n)(hk:k=(br n.toNat:Nat))(hi:k<=i):cR i n=True::cR (i-k) (n-k):=by subst hk;rw[cR,dif_pos h,if_neg (by omega)]
def OB:∀(j:Nat) (i n:Int),n<=(2 ^ j:Nat)->(cR i n).length<=j:=by
 intro j
 induction j with
 |zero=>intro i n h;rw[lm (by have:n<=1:=h;omega)];exact aaa _
 |succ j ih=>
  intro i n h;by_cases h2:2<=n
  ·have a1:=eX (n:=n.toNat) (by omega);have a2:=DX (n:=n.toNat) (by omega);have a3:br n.toNat<=2 ^ j:=by unfold br;refine abv (by decide) (Nat.lt_succ_iff.1 ((Nat.log2_lt (by omega)).2 ?_));omega
   by_cases hi:((br n.toNat:Nat):Int)<=i
   ·rw[oD h2 rfl hi];have:=ih (i-(br n.toNat:Nat)) (n-(br n.toNat:Nat)) (by omega);simp only [aau];omega
   ·rw[oC h2 rfl hi];have:=ih i (br n.toNat:Nat) (by omega);simp only [aau];omega
  ·rw[lm h2];exact aap _
def j2(s:Prop)(h x:G):G:=@ite _ s (Classical.propDecidable _) (aY x h) (aY h x)
def jB(s:Prop)(h x:G):List Nat:=@ite _ s (Classical.propDecidable _) (1::(hB x++hB h)) (1::(hB h++hB x))
def SP(h:G):List Prop->List G->G
 |s::ss,r::ps=>SP (j2 s h (hX (aa r 0))) ss ps
 |_,_=>h
def rk(h:G):List Prop->List G->List G
 |s::ss,r::ps=>.node [.str (jB s h (hX (aa r 0))),j2 s h (hX (aa r 0))]::rk (j2 s h (hX (aa r 0))) ss ps
 |_,_=>[]
def tK:∀(ss:List Prop) (ps:List G) (h:G) (s:Prop) (r:G),ps.length=ss.length->SP h (ss++ [s]) (ps++ [r])=j2 s (SP h ss ps) (hX (aa r 0))
 | [],[],_,_,_,_=>rfl
 |s0::ss,r0::ps,h,s,r,e=>tK ss ps (j2 s0 h (hX (aa r0 0))) s r (by simpa using e)
 | [],_::_,_,_,_,e=>by simp at e
 |_::_,[],_,_,_,e=>by simp at e
def OC(m:Nat):∀(h:G) (i n:Int) (p:List G),n.toNat<=m->((gP h i n p).2↔p.length=(cR i n).length)/\(p.length=(cR i n).length->(gP h i n p).1=SP h (cR i n).reverse p):=by
 induction m with
 |zero=>intro h i n p hm;rw[lQ (by omega),lm (by omega)];exact⟨Iff.rfl,λe=>by cases p with|nil=>rfl|cons _ _=>cases e⟩
 |succ m ih=>
  intro h i n p hm;by_cases h2:2<=n
  ·have a1:=eX (n:=n.toNat) (by omega);have a2:=fY n.toNat;by_cases hp:p.length=0
   ·rw[yo h2 hp,hp];have:(cR i n).length≠0:=by
     by_cases hi:((br n.toNat:Nat):Int)<=i
     ·rw[oD h2 rfl hi];simp
     ·rw[oC h2 rfl hi];simp
    exact⟨⟨False.elim,λe=>this e.symm⟩,λe=>absurd e.symm this⟩
   ·have m8:p≠ []:=λe=>hp (by rw[e];rfl);have ak2:p=p.dropLast++ [aq p (p.length-1)]:=by
     conv=>lhs;rw[←List.dropLast_concat_getLast m8]
     congr 2;unfold aq;rw[aag,aai (by omega),List.getLast_eq_getElem];rfl
    have hdl:p.dropLast.length=p.length-1:=List.length_dropLast;by_cases hi:i<(br n.toNat:Nat)
    ·rw[yp h2 hp hi,oC h2 rfl (by omega)];obtain⟨q1,q2⟩:=ih h i (br n.toNat:Nat) p.dropLast (by omega);refine⟨by rw[aau];exact q1.trans (by omega),λe=>?_⟩;rw[aau] at e;have e':p.dropLast.length=(cR i (br n.toNat:Nat)).length:=by omega
     rw[List.reverse_cons];conv=>rhs;rw[ak2]
     rw[tK _ _ _ _ _ (by rw[List.length_reverse];exact e'), ←q2 e'];unfold j2;rw[if_neg id]
    ·rw[yq h2 hp hi,oD h2 rfl (by omega)];obtain⟨q1,q2⟩:=ih h (i-(br n.toNat:Nat)) (n-(br n.toNat:Nat)) p.dropLast (by omega);refine⟨by rw[aau];exact q1.trans (by omega),λe=>?_⟩;rw[aau] at e;have e':p.dropLast.length=(cR (i-(br n.toNat:Nat)) (n-(br n.toNat:Nat))).length:=by omega
     rw[List.reverse_cons];conv=>rhs;rw[ak2]
     rw[tK _ _ _ _ _ (by rw[List.length_reverse];exact e'), ←q2 e'];unfold j2;rw[if_pos trivial]
  ·rw[lQ h2,lm h2];exact⟨Iff.rfl,λe=>by cases p with|nil=>rfl|cons _ _=>cases e⟩
def D9{n m:Int}(hm:m=(n-1)%18446744073709551616)(h:2<=n)(h1:n<=1099511627776):(0<=dz m-1/\dz m-1<=40)/\((2 ^ min (dz m-1).toNat (bo .i64):Nat):Int)=(br n.toNat:Nat):=by
 have e:m=n-1:=by omega
 rw[e];exact wp h h1
def rl(l:List G):List Prop:=l.map λr=>gI (aa r 0)=1
def ir(l:List G):(rl l).length=l.length:=aaK ..
def yD(l:List G)(q:Prop):rl (l++ [.node [.int (pI q)]])=rl l++ [q]:=by unfold rl;rw[List.map_append];congr 1;show [pI q=1]= [q];congr 1;unfold pI;exact propext ⟨λh=>Classical.byContradiction λhn=>(by rw[if_neg hn] at h;cases h),λh=>(by rw[if_pos h])⟩
def tL(i n:Int)(l r:List G):Prop:=rl r=rl l++cR i n
def SQ{i n:Int}{l:List G}(h:¬1<n):tL i n l l:=by unfold tL;rw[lm (by omega),aba]
def OD{i n k:Int}{l r:List G}{q:Prop}(h:1<n)(hk:k=(br n.toNat:Nat))(hq:q↔k<=i):(q->tL (i-k) (n-k) (l++ [.node [.int (pI q)]]) r->tL i n l r)/\(¬q->tL i k (l++ [.node [.int (pI q)]]) r->tL i n l r):=by
 refine⟨λh1 h2=>?_,λh1 h2=>?_⟩
 ·unfold tL at h2⊢;rw[h2,oD (by omega) hk (hq.1 h1),yD,aav,show q=True from propext ⟨λ_=>trivial,λ_=>h1⟩];rfl
 ·unfold tL at h2⊢;rw[h2,oC (by omega) hk (λh=>h1 (hq.2 h)),yD,aav,show q=False from propext ⟨h1,False.elim⟩];rfl
def pK(i n:Int):Nat:=(cR i n).length
def yE{i n:Int}(h:n<=1099511627776):pK i n<=40:=OB 40 i n h
def OE{i n k:Int}(h:1<n)(hk:k=(br n.toNat:Nat)):(k<=i->pK i n=pK (i-k) (n-k)+1)/\(¬k<=i->pK i n=pK i k+1):=⟨λhi=>by unfold pK;rw[oD (by omega) hk hi];rfl,λhi=>by unfold pK;rw[oC (by omega) hk hi];rfl⟩
def G9{i n:Int}{l r:List G}(h:tL i n l r):r.length=l.length+pK i n:=by
 have:=congrArg List.length h
 rwa [ir,aah,ir] at this
def Vo{α:Type}(a b:Int)(l:List α):List α:=l.take a.toNat++(((l.drop a.toNat).take (b+1-a).toNat).reverse++l.drop (b+1).toNat)
def SR{α:Type}{a b:Int}{l:List α}(h0:0<=a)(hab:a+b+1=l.length)(h1:a<=b+1)(h:¬a<b):Vo a b l=l:=by
 unfold Vo;have:((l.drop a.toNat).take (b+1-a).toNat).reverse=(l.drop a.toNat).take (b+1-a).toNat:=by
  have hl:((l.drop a.toNat).take (b+1-a).toNat).length<=1:=by rw[aal];omega
  match(l.drop a.toNat).take (b+1-a).toNat,hl with
  | [],_=>rfl
  | [_],_=>rfl
  |_::_::_,hl=>simp at hl
 rw[this];rcases(show b<a∨a<=b by omega) with hb|hb
 ·rw[show(b+1-a).toNat=0 by omega,List.take_zero,aa8];rw[show(b+1).toNat=a.toNat by omega,abb]
 ·rw[show(b+1).toNat=a.toNat+(b+1-a).toNat by omega, ←aa1,abb,abb]
def SS{α:Type}{l:List α}:Vo 0 ((l.length:Int)-1) l=l.reverse:=by unfold Vo;rw[show(0:Int).toNat=0 by rfl,List.take_zero,aaR,show((l.length:Int)-1+1-0).toNat=l.length by omega,show((l.length:Int)-1+1).toNat=l.length by omega,aa7,List.drop_length,aba,aa8]
def OF{α:Type}{a b:Int}{l:List α}{x y:α}(h0:0<=a)(hab:a+b+1=l.length)(h:a<b)(hx:l[a.toNat]? =some x)(hy:l[b.toNat]? =some y):Vo (a+1) (b-1) ((l.set a.toNat y).set b.toNat x)=Vo a b l:=by
 obtain⟨i,rfl⟩:∃i:Nat,a=i:=⟨a.toNat,by omega⟩
 obtain⟨k,rfl⟩:∃k:Nat,b=i+1+k:=⟨(b-i-1).toNat,by omega⟩
 unfold Vo;simp only [aaq,show((i:Int)+1+k).toNat=i+1+k by omega,show((i:Int)+1).toNat=i+1 by omega,show((i:Int)+1+k-1+1-(i+1)).toNat=k by omega,show((i:Int)+1+k-1+1).toNat=i+1+k by omega,show((i:Int)+1+k+1-i).toNat=k+2 by omega,show((i:Int)+1+k+1).toNat=i+k+2 by omega] at hx hy⊢;have hi:i<l.length:=by omega
 have hk:i+1+k<l.length:=by omega
 rw[aai hi] at hx;rw[aai hk] at hy;injection hx with hx;injection hy with hy;subst hx;subst hy;refine List.ext_getElem (by simp;omega) λj h1 h2=>?_;simp only [List.getElem_append,List.getElem_take,List.getElem_drop,List.getElem_reverse,List.getElem_set,aal,aao,List.length_reverse,aaY,aah] at h1 h2⊢;split <;> split <;> (try split) <;> (try split) <;> (try split) <;> (try split) <;> first|rfl|omega|(congr 1;omega)
def G_(l:List G)(i:Nat)(q:Prop):rl (l.set i (.node [.int (pI q)]))=(rl l).set i q:=by have:=yD [] q;simp only [aa8] at this;unfold rl at this⊢;rw[List.map_set];congr 1;exact List.head_eq_of_cons_eq this
def OG{l:List G}{i:Nat}(h:i<l.length):(rl l)[i]? =some (gI (aa (aq l i) 0)=1):=by unfold rl aq;rw[aaI,aag,aai h];rfl
def OH(a b:Int)(l r:List G):Prop:=rl r=Vo a b (rl l)/\r.length=l.length
def ST{a b:Int}{l:List G}(h0:0<=a)(hab:a+b+1=l.length)(h1:a<=b+1)(h:¬a<b):OH a b l l:=⟨(SR h0 (by rw[ir];exact hab) h1 h).symm,rfl⟩
def OI{a b:Int}{l r:List G}(h0:0<=a)(hab:a+b+1=l.length)(h:a<b)(hr:OH (a+1) (b-1) ((l.set a.toNat (.node [.int (pI (gI (aa (aq l b.toNat) 0)=1))])).set b.toNat (.node [.int (pI (gI (aa (aq l a.toNat) 0)=1))])) r):OH a b l r:=by obtain⟨h1,h2⟩:=hr;refine⟨?_,by rw[h2,aaY,aaY]⟩;rw[h1,G_,G_];exact OF h0 (by rw[ir];exact hab) h (OG (by omega)) (OG (by omega))
def SU{i n:Int}{l r:List G}(hs:tL i n [] l)(h:OH 0 ((l.length:Int)-1) l r):rl r=(cR i n).reverse/\r.length=pK i n:=by
 have hl:=G9 hs;obtain⟨h1,h2⟩:=h;refine⟨?_,by rw[h2,hl];simp⟩;have e:(l.length:Int)=(rl l).length:=by rw[ir]
 rw[h1,e,SS];unfold tL at hs;rw[hs];rfl
attribute [irreducible] tL pK OH
def Stwo:FSpec:=⟨[.ag (hs 100),.ag (hs 200)],[],λz=>HOk (hT z 100)/\HOk (hT z 200),λ_=>.one (.ag ([.vb 10]++hs 300)),λ_=>[],λz y=>y.s 10=1::(hB (hT z 100)++hB (hT z 200))/\hT y 300=aY (hT z 100) (hT z 200),none⟩
def Y5:List BSh:=[.grow 4 4 20]
def Cb(p:Sy):LSpec:=⟨[(0,.c (.i .i64 1)),(1,.c (.i .i64 2)),(5,.c (.g 0 1 20))],Y5,λz=>(0<=z.i 1/\z.i 1<z.i 2)/\z.i 2<=1099511627776/\(z.g 20).length+pK (z.i 1) (z.i 2)<=1000,λz=>(z.i 2).toNat,[⟨.exit 0,[(5,.c (.g 0 1 20))],Y5⟩],λz y=>tL (z.i 1) (z.i 2) (z.g 20) (y.g 20),none,[]⟩
def Cc(p:Sy):LSpec:=⟨[(5,.c (.g 0 1 20)),(8,.c (.i .i64 1)),(9,.c (.i .i64 2))],Y5,λz=>(0<=z.i 1/\z.i 1<=z.i 2+1)/\z.i 1+z.i 2+1=(z.g 20).length/\(z.g 20).length<=1000,λz=>(z.i 2-z.i 1).toNat,[⟨.exit 2,[(5,.c (.g 0 1 20))],Y5⟩],λz y=>OH (z.i 1) (z.i 2) (z.g 20) (y.g 20),none,[]⟩
def OJ:FSpec:=⟨[.c (.i .i64 1),.c (.i .i64 2)],[],λz=>(0<=z.i 1/\z.i 1<z.i 2)/\z.i 2<=1099511627776,λ_=>.one (.c (.v 4 10)),λ_=>[],λz y=>rl (y.g 10)=(cR (z.i 1) (z.i 2)).reverse/\(y.g 10).length=pK (z.i 1) (z.i 2),none⟩
def yF(i:Int)(h:G)(S p l r:List G):Prop:=r=l++rk h ((rl S).drop i.toNat) (p.drop i.toNat)
def SV{i:Int}{h:G}{S p l:List G}(hi:¬i<S.length)(h0:0<=i):yF i h S p l l:=by unfold yF;rw[aaO (by rw[ir];omega)];cases p.drop i.toNat <;> simp [rk]
def OK{i:Int}{h x:G}{S p l r:List G}(h0:0<=i)(hi:i<S.length)(hp:S.length=p.length)(hx:x=hX (aa (aq p i.toNat) 0)):
 (gI (aa (aq S i.toNat) 0)=1->yF (i+1) (aY x h) S p (l++ [.node [.str (1::(hB x++hB h)),aY x h]]) r->yF i h S p l r)/\
 (¬gI (aa (aq S i.toNat) 0)=1->yF (i+1) (aY h x) S p (l++ [.node [.str (1::(hB h++hB x)),aY h x]]) r->yF i h S p l r):=by
 have e1:(rl S).drop i.toNat=(gI (aa (aq S i.toNat) 0)=1)::(rl S).drop (i+1).toNat:=by rw[aa2 (by rw[ir];omega),show(i+1).toNat=i.toNat+1 by omega];congr 1;unfold rl aq;rw[abF,aag,aai (by omega)];rfl
 have e2:p.drop i.toNat=aq p i.toNat::p.drop (i+1).toNat:=by rw[aa2 (by omega),show(i+1).toNat=i.toNat+1 by omega];congr 1;unfold aq;rw[aag,aai (by omega)];rfl
 subst hx
 refine⟨λhs h2=>?_,λhs h2=>?_⟩
 all_goals
  unfold yF at h2⊢
  rw[h2,e1,e2]
  show _=l++(.node [.str (jB _ h _),j2 _ h _]::rk (j2 _ h _) _ _)
  unfold j2 jB
 ·rw[if_pos hs,if_pos hs,aav];rfl
 ·rw[if_neg hs,if_neg hs,aav];rfl
def yG:∀(h:G) (ss:List Prop) (ps:List G),(rk h ss ps).length=min ss.length ps.length
 |h,s::ss,r::ps=>by simp only [rk,aau,yG];omega
 |_,[],_=>by simp [rk]
 |_,_::_,[]=>by simp [rk]
def Xx{i n:Int}{h:G}{S p r:List G}(hc:yF 0 h S p [] r)(hs:rl S=(cR i n).reverse):r=rk h (cR i n).reverse p:=by unfold yF at hc;rw[hc,hs];rfl
def SW{h:G}{S p r:List G}(hc:yF 0 h S p [] r):r.length<=S.length:=by unfold yF at hc;rw[hc,aa8,yG,aao,ir];omega
abbrev jh(i n:Int)(p:List G):Prop:=(0<=i/\i<n)/\n<=1099511627776/\p.length=pK i n
def clB(p:Sy):List BSh:=[.cells 28 (hs 100),.cells 45 [.pv 6 (p.g 3)],.grow 15 92 30]
def wD(p:Sy):LSpec:=⟨[(4,.c (.p 0)),(7,.c (.p 1)),(11,.c (.g 2 33 30)),(35,.c (.pv 4 (p.g 4))),(36,.c (.pi .i64 (p.g 4).length)),(37,.c (.i .i64 9))],clB p,λz=>HOk (hT z 100)/\RowsOk (p.g 3)/\(0<=z.i 9/\z.i 9<=(p.g 4).length)/\(p.g 4).length=(p.g 3).length/\(p.g 4).length<=1000/\(z.g 30).length<=z.i 9,λz=>((p.g 4).length-z.i 9).toNat,[⟨.exit 0,[(4,.c (.p 0)),(7,.c (.p 1)),(11,.c (.g 2 33 30))],clB p⟩],λz y=>yF (z.i 9) (hT z 100) (p.g 4) (p.g 3) (z.g 30) (y.g 30),none,[]⟩
def Ha:FSpec:=⟨[.ag (hs 100),.c (.i .i64 1),.c (.i .i64 2),.ag [.v 6 3]],[],λz=>HOk (hT z 100)/\(z.g 3).length<=1000000/\RowsOk (z.g 3),λ_=>.tu [.c (.v 15 30),.c (.b 40)],λ_=>[],λz y=>(y.p 40↔jh (z.i 1) (z.i 2) (z.g 3))/\(y.g 30).length<=40/\(jh (z.i 1) (z.i 2) (z.g 3)->y.g 30=rk (hT z 100) (cR (z.i 1) (z.i 2)).reverse (z.g 3)),none⟩
def Cd:FSpec:=⟨[.ag en],[],wi,λ_=>.tu [.c (.vb 30),.c (.b 40)],λ_=>[],λz y=>(y.p 40↔zD z=0)/\(zD z=0->y.s 30=0::zE z),none⟩
attribute [irreducible] yF
end
def JS:bn 66 Cd:=bA 5 17 (ai qq (ai ge eN)) lN λz hA=>show Fm.den (let v1:=(z.i 1%256);let v2:=(hT z 100);let v0:=(true=true↔dv (z.i 1) (z.s 2) (z.i 3) (z.i 4) (z.i 5) (z.i 6) (z.i 7) (z.i 8) (z.s 9) (z.g 10) (z.g 11) v2 (z.p 12) (z.i 13) (z.i 14)=(0:Int));let v3:=(↑(z.s 2).length:Int);(.ct (ql (z.s 2) (z.i 3) (z.i 4) (z.i 5) (z.i 7) (z.s 9) (z.g 10) (z.g 11) v2 (z.i 13) (z.i 14)) (λy0=>y0.i 50=dv (z.i 1) (z.s 2) (z.i 3) (z.i 4) (z.i 5) (z.i 6) (z.i 7) (z.i 8) (z.s 9) (z.g 10) (z.g 11) v2 (z.p 12) (z.i 13) (z.i 14)/\(dv (z.i 1) (z.s 2) (z.i 3) (z.i 4) (z.i 5) (z.i 6) (z.i 7) (z.i 8) (z.s 9) (z.g 10) (z.g 11) v2 (z.p 12) (z.i 13) (z.i 14)=(0:Int)->hT y0 300=be (gR (z.i 1) (z.s 2) (z.i 3) (z.i 4) (z.i 5) v2 (z.i 13) (z.i 14)))/\(¬dv (z.i 1) (z.s 2) (z.i 3) (z.i 4) (z.i 5) (z.i 6) (z.i 7) (z.i 8) (z.s 9) (z.g 10) (z.g 11) v2 (z.p 12) (z.i 13) (z.i 14)=(0:Int)->hT y0 300=hZ)) λy0=>(.two (y0.i 50≠0) (.ax ((false=true↔dv (z.i 1) (z.s 2) (z.i 3) (z.i 4) (z.i 5) (z.i 6) (z.i 7) (z.i 8) (z.s 9) (z.g 10) (z.g 11) v2 (z.p 12) (z.i 13) (z.i 14)=(0:Int))/\(dv (z.i 1) (z.s 2) (z.i 3) (z.i 4) (z.i 5) (z.i 6) (z.i 7) (z.i 8) (z.s 9) (z.g 10) (z.g 11) v2 (z.p 12) (z.i 13) (z.i 14)=(0:Int)-> []=0::gR (z.i 1) (z.s 2) (z.i 3) (z.i 4) (z.i 5) v2 (z.i 13) (z.i 14)))) (tq (z.i 3) (z.i 3%18446744073709551616) λy1=>(.an ((0:Int)<=0/\0<=z.i 1%256/\True) (.an (2=2) (.an (2=2/\2<=1000000000/\(y1.s 10).length<=1000000) (tq (z.i 4) (z.i 4%18446744073709551616) λy2=>(.an (([Int.toNat 0,v1.toNat]++y1.s 10).length=2+(y1.s 10).length/\2+(y1.s 10).length<=1000000000/\(y2.s 10).length<=1000000) (tq (z.i 5) (z.i 5%18446744073709551616) λy3=>(.an (([Int.toNat 0,v1.toNat]++y1.s 10++y2.s 10).length=2+(y1.s 10).length+(y2.s 10).length/\2+(y1.s 10).length+(y2.s 10).length<=1000000000/\(y3.s 10).length<=1000000) (tq v3 (v3%18446744073709551616) λy4=>(.an (([Int.toNat 0,v1.toNat]++y1.s 10++y2.s 10++y3.s 10).length=2+(y1.s 10).length+(y2.s 10).length+(y3.s 10).length/\2+(y1.s 10).length+(y2.s 10).length+(y3.s 10).length<=1000000000/\(y4.s 10).length<=1000000) (.an (([Int.toNat 0,v1.toNat]++y1.s 10++y2.s 10++y3.s 10++y4.s 10).length=2+(y1.s 10).length+(y2.s 10).length+(y3.s 10).length+(y4.s 10).length/\2+(y1.s 10).length+(y2.s 10).length+(y3.s 10).length+(y4.s 10).length<=1000000000/\(z.s 2).length<=1000000) (tq (z.i 13) (z.i 13%18446744073709551616) λy5=>(.an (([Int.toNat 0,v1.toNat]++y1.s 10++y2.s 10++y3.s 10++y4.s 10++z.s 2).length=2+(y1.s 10).length+(y2.s 10).length+(y3.s 10).length+(y4.s 10).length+(z.s 2).length/\2+(y1.s 10).length+(y2.s 10).length+(y3.s 10).length+(y4.s 10).length+(z.s 2).length<=1000000000/\(y5.s 10).length<=1000000) (tq (z.i 14) (z.i 14%18446744073709551616) λy6=>(let v4:=([Int.toNat 0,v1.toNat]++y1.s 10++y2.s 10++y3.s 10++y4.s 10++z.s 2++y5.s 10++y6.s 10);(.an (([Int.toNat 0,v1.toNat]++y1.s 10++y2.s 10++y3.s 10++y4.s 10++z.s 2++y5.s 10).length=2+(y1.s 10).length+(y2.s 10).length+(y3.s 10).length+(y4.s 10).length+(z.s 2).length+(y5.s 10).length/\2+(y1.s 10).length+(y2.s 10).length+(y3.s 10).length+(y4.s 10).length+(z.s 2).length+(y5.s 10).length<=1000000000/\(y6.s 10).length<=1000000) (.two (z.i 1=2) (.an (v4.length=2+(y1.s 10).length+(y2.s 10).length+(y3.s 10).length+(y4.s 10).length+(z.s 2).length+(y5.s 10).length+(y6.s 10).length/\2+(y1.s 10).length+(y2.s 10).length+(y3.s 10).length+(y4.s 10).length+(z.s 2).length+(y5.s 10).length+(y6.s 10).length<=1000000000/\bu (ko z 100)) (.an (([Int.toNat 0,v1.toNat]++y1.s 10++y2.s 10++y3.s 10++y4.s 10++z.s 2++y5.s 10++y6.s 10++aG (ko z 100)).length=2+(y1.s 10).length+(y2.s 10).length+(y3.s 10).length+(y4.s 10).length+(z.s 2).length+(y5.s 10).length+(y6.s 10).length+32/\True) (.at (v0/\(dv (z.i 1) (z.s 2) (z.i 3) (z.i 4) (z.i 5) (z.i 6) (z.i 7) (z.i 8) (z.s 9) (z.g 10) (z.g 11) v2 (z.p 12) (z.i 13) (z.i 14)=(0:Int)-> [Int.toNat 0,v1.toNat]++y1.s 10++y2.s 10++y3.s 10++y4.s 10++z.s 2++y5.s 10++y6.s 10++aG (ko z 100)=0::gR (z.i 1) (z.s 2) (z.i 3) (z.i 4) (z.i 5) v2 (z.i 13) (z.i 14)))))) (.an (v4.length=2+(y1.s 10).length+(y2.s 10).length+(y3.s 10).length+(y4.s 10).length+(z.s 2).length+(y5.s 10).length+(y6.s 10).length/\True) (.at (v0/\(dv (z.i 1) (z.s 2) (z.i 3) (z.i 4) (z.i 5) (z.i 6) (z.i 7) (z.i 8) (z.s 9) (z.g 10) (z.g 11) v2 (z.p 12) (z.i 13) (z.i 14)=(0:Int)-> [Int.toNat 0,v1.toNat]++y1.s 10++y2.s 10++y3.s 10++y4.s 10++z.s 2++y5.s 10++y6.s 10=0::gR (z.i 1) (z.s 2) (z.i 3) (z.i 4) (z.i 5) v2 (z.i 13) (z.i 14))))))))))))))))))))))))) by
 dsimp only [Cd,en,hs,wi,zD,zE] at hA;have:=bw 0 0 0 [] [] [];have:=bw (z.i 6) (z.i 7) (z.i 8) (z.s 9) (z.g 10) (z.g 11);have:=@dG (z.s 2) (z.i 3) (z.i 4) (z.i 5) (z.i 7) (z.s 9) (z.g 10) (z.g 11) (hT z 100) (z.i 13) (z.i 14);have:=@yf (z.i 1) (z.s 2) (z.i 3) (z.i 4) (z.i 5) (hT z 100) (z.i 13) (z.i 14);have:=@tz (z.i 1) (z.s 2) (z.i 3) (z.i 4) (z.i 5) (hT z 100) (z.i 13) (z.i 14);have:=@bO (z.i 3);have:=@bO (z.i 4);have:=@bO (z.i 5);have:=@bO (z.i 13);have:=@bO (z.i 14);have:=@fB (z.s 2).length;have:=cz z 100;have:=@aH z 100;have:=bv z 100;have t1:(((z.s 2).length:Nat):Int).toNat=(z.s 2).length:=Int.toNat_natCast _;have:=@fy (z.i 1) (z.s 2) (z.i 3) (z.i 4) (z.i 5) (z.i 6) (z.i 7) (z.i 8) (z.s 9) (z.g 10) (z.g 11) (hT z 100) (z.p 12) (z.i 13) (z.i 14);have:=@fA (z.i 1) (z.s 2) (z.i 3) (z.i 4) (z.i 5) (z.i 6) (z.i 7) (z.i 8) (z.s 9) (z.g 10) (z.g 11) (hT z 100) (z.p 12) (z.i 13) (z.i 14);have:=@ij (z.i 1) (z.s 2) (z.i 3) (z.i 4) (z.i 5) (z.i 6) (z.i 7) (z.i 8) (z.s 9) (z.g 10) (z.g 11) (hT z 100) (z.p 12) (z.i 13) (z.i 14);have:=@jL (z.i 1) (z.s 2) (z.i 3) (z.i 4) (z.i 5) (z.i 6) (z.i 7) (z.i 8) (z.s 9) (z.g 10) (z.g 11) (hT z 100) (z.p 12) (z.i 13) (z.i 14);have:=@lg (z.i 1) (z.s 2) (z.i 3) (z.i 4) (z.i 5) (z.i 6) (z.i 7) (z.i 8) (z.s 9) (z.g 10) (z.g 11) (hT z 100) (z.p 12) (z.i 13) (z.i 14);have:=@dF (z.i 1) (z.s 2) (z.i 3) (z.i 4) (z.i 5) (z.i 6) (z.i 7) (z.i 8) (z.s 9) (z.g 10) (z.g 11) (hT z 100) (z.p 12) (z.i 13) (z.i 14);have m3:0<=z.i 3->z.i 3<9223372036854775808->(z.i 3%18446744073709551616).toNat=(z.i 3).toNat:=λa b=>by omega
 have m4:0<=z.i 4->z.i 4<9223372036854775808->(z.i 4%18446744073709551616).toNat=(z.i 4).toNat:=λa b=>by omega
 have m5:0<=z.i 5->z.i 5<9223372036854775808->(z.i 5%18446744073709551616).toNat=(z.i 5).toNat:=λa b=>by omega
 have m13:0<=z.i 13->z.i 13<9223372036854775808->(z.i 13%18446744073709551616).toNat=(z.i 13).toNat:=λa b=>by omega
 have m14:0<=z.i 14->z.i 14<9223372036854775808->(z.i 14%18446744073709551616).toNat=(z.i 14).toNat:=λa b=>by omega
 have m2:(z.s 2).length<=1000000->(((z.s 2).length:Int)%18446744073709551616).toNat=(z.s 2).length:=λh=>by omega
 have:=@ld (z.i 1) (z.s 2) (z.i 3) (z.i 4) (z.i 5) (mZ z) (hT z 100=hZ) (z.p 12) (z.i 13) (z.i 14);conv=>zeta
 repeat' with_reducible first|intro _|apply bV|apply bW|apply bX|apply cy|apply cj
 all_goals first|omega|grind [ao,am,ak,aP,aQ,aR,aS,aT,aU,aV,aW,aX,az,List.append_assoc,bv,bO,fB]
abbrev tM(a:Prop)(b c d:Int)(e:List G)(f:Int)(g:List G):=a/\b.toNat<c.toNat/\∀(y:Sy),tL d b e (y.g 20)->tL f c g (y.g 20)
abbrev uD(a:Prop)(b:Int)(c:List G)(d:Int)(e):=a/\IntKind.i64.wrap b<=1099511627776/\c.length+pK d e<=1000
abbrev OL(a:Prop)(b c d:Int)(e f:List G):=a/\b.toNat<c.toNat/\∀(y:Sy),tL d b e (y.g 20)->tL d c f (y.g 20)
abbrev Vp(a b c:Int):=0<=a-IntKind.i64.wrap b/\a-IntKind.i64.wrap b<c-IntKind.i64.wrap b
def JT:bN 142 0 Cb:=bM 38 891510157746507617625 (ai GN eN) lN λp z hA=>show Fm.den (let v0:=(bo IntKind.i64);let v1:=(ow (z.g 20));(.two (1<z.i 2) (.an ((-9223372036854775808)<=z.i 2-1/\z.i 2-1<=9223372036854775807) (Tq96 (z.i 2-1) ((z.i 2-1)%18446744073709551616) λy0=>(let v2:=(↑(2 ^ Min.min (dw (y0.i 10-1)).toNat v0):Int);let v7:=(z.g 20++ [G.node [G.int (pI (1 * v2<=z.i 1))]]);let v9:=(z.i 2-IntKind.i64.wrap (1 * v2));let v10:=(2 ^ Min.min (y0.i 10-1).toNat v0);let v3:=(↑v10:Int);let v4:=(z.g 20++ [G.node [G.int (pI (IntKind.i64.wrap (1 * v3)<=z.i 1))]]);let v6:=(z.g 20++ [G.node [G.int (pI (1 * v3<=z.i 1))]]);let v8:=(z.i 2-IntKind.i64.wrap (1 * v3));let v11:=(z.i 1-IntKind.i64.wrap (1 * v3));let i4:=(z.g 20++ [G.node [G.int (pI (IntKind.i64.wrap (1 * v2)<=z.i 1))]]);let o8:=(z.i 1-IntKind.i64.wrap (1 * v2));let z':=((-9223372036854775808)<=z.i 2-IntKind.i64.wrap (1 * v3)/\z.i 2-IntKind.i64.wrap (1 * v3)<=9223372036854775807);let B':=((-9223372036854775808)<=z.i 2-IntKind.i64.wrap (1 * v2)/\z.i 2-IntKind.i64.wrap (1 * v2)<=9223372036854775807);let j8:=(ws v6 (z.g 20));let v19:=(ws v4 (z.g 20));let v20:=(ws v7 (z.g 20));let v22:=(dw v8);let Y':=(dw v9);let v24:=(z.i 1-1 * v3);let v25:=(z.i 1-1 * v2);let v26:=((-9223372036854775808)<=z.i 2-1 * v3/\z.i 2-1 * ↑v10<=9223372036854775807);let v28:=((-9223372036854775808)<=z.i 2-1 * v2/\z.i 2-1 * v2<=9223372036854775807);let v29:=(z.i 2-1 * v2);let j6:=(dw v29);let v30:=(z.i 2-1 * v3);let i7:=(dw v30);let v31:=(dw (1 * v3));let v32:=(dw (1 * v2));let v33:=((1:Int) * v2);let v5:=(z.g 20++ [G.node [G.int (pI (IntKind.i64.wrap v33<=z.i 1))]]);let v21:=(ws v5 (z.g 20));let v27:=(z.i 1-IntKind.i64.wrap v33);(.two ((-9223372036854775808)<=y0.i 10-1/\y0.i 10-1<=9223372036854775807) (.an (0<=y0.i 10-1) (.two ((-9223372036854775808)<=1 * v3/\1 * v3<=9223372036854775807) (.an v1 (.two (1 * v3<=z.i 1) (.two ((-9223372036854775808)<=z.i 1-1 * v3/\z.i 1-1 * ↑v10<=9223372036854775807) (.two v26 (.an j8 (.at (((0<=z.i 1-1 * v3/\z.i 1-1 * ↑v10<z.i 2-1 * ↑v10)/\z.i 2-1 * ↑v10<=1099511627776/\v6.length+pK v24 v30<=1000)/\(z.i 2-1 * ↑v10).toNat<(z.i 2).toNat/\∀(y:Sy),tL v24 v30 v6 (y.g 20)->tL (z.i 1) (z.i 2) (z.g 20) (y.g 20)))) (.an j8 (.at (tM (uD (0<=z.i 1-1 * v3/\z.i 1-1 * ↑v10<IntKind.i64.wrap v30) v30 v6 v24 i7) i7 (z.i 2) v24 v6 (z.i 1) (z.g 20))))) (.an (¬v26) (.an j8 (.at (tM (uD (0<=IntKind.i64.wrap v24/\IntKind.i64.wrap v24<IntKind.i64.wrap v30) v30 v6 (dw v24) i7) i7 (z.i 2) (dw v24) v6 (z.i 1) (z.g 20)))))) (.an j8 (.at (OL ((0<=z.i 1/\z.i 1<1 * ↑v10)/\1 * v3<=1099511627776/\v6.length+pK (z.i 1) (1 * v3)<=1000) (1 * v3) (z.i 2) (z.i 1) v6 (z.g 20)))))) (.an v1 (.two (IntKind.i64.wrap (1 * v3)<=z.i 1) (.two ((-9223372036854775808)<=z.i 1-IntKind.i64.wrap (1 * v3)/\z.i 1-IntKind.i64.wrap (1 * v3)<=9223372036854775807) (.two z' (.an v19 (.at (tM ((Vp (z.i 1) (1 * v3) (z.i 2))/\z.i 2-IntKind.i64.wrap (1 * v3)<=1099511627776/\v4.length+pK v11 v8<=1000) v8 (z.i 2) v11 v4 (z.i 1) (z.g 20)))) (.an v19 (.at (tM (uD (0<=z.i 1-IntKind.i64.wrap (1 * v3)/\z.i 1-IntKind.i64.wrap (1 * v3)<IntKind.i64.wrap v8) v8 v4 v11 v22) v22 (z.i 2) v11 v4 (z.i 1) (z.g 20))))) (.an (¬z') (.an v19 (.at (tM (uD (0<=IntKind.i64.wrap v11/\IntKind.i64.wrap v11<IntKind.i64.wrap v8) v8 v4 (dw v11) v22) v22 (z.i 2) (dw v11) v4 (z.i 1) (z.g 20)))))) (.an v19 (.at (OL (uD (0<=z.i 1/\z.i 1<IntKind.i64.wrap (1 * v3)) (1 * v3) v4 (z.i 1) v31) v31 (z.i 2) (z.i 1) v4 (z.g 20)))))))) (.an ((0:Int)<=IntKind.i64.wrap (y0.i 10-1)) (.two (Vd v2) (.an v1 (.two (1 * v2<=z.i 1) (.two ((-9223372036854775808)<=z.i 1-1 * v2/\z.i 1-1 * v2<=9223372036854775807) (.two v28 (.an v20 (.at (tM ((0<=z.i 1-1 * v2/\z.i 1-1 * v2<z.i 2-1 * v2)/\z.i 2-1 * v2<=1099511627776/\v7.length+pK v25 v29<=1000) v29 (z.i 2) v25 v7 (z.i 1) (z.g 20)))) (.an v20 (.at (tM (uD (0<=z.i 1-1 * v2/\z.i 1-1 * v2<IntKind.i64.wrap v29) v29 v7 v25 j6) j6 (z.i 2) v25 v7 (z.i 1) (z.g 20))))) (.an (¬v28) (.an v20 (.at (tM (uD ((0:Int)<=IntKind.i64.wrap v25/\IntKind.i64.wrap v25<IntKind.i64.wrap v29) v29 v7 (dw v25) j6) j6 (z.i 2) (dw v25) v7 (z.i 1) (z.g 20)))))) (.an v20 (.at (OL ((0<=z.i 1/\z.i 1<1 * v2)/\(1:Int) * v2<=1099511627776/\v7.length+pK (z.i 1) (1 * v2)<=1000) v33 (z.i 2) (z.i 1) v7 (z.g 20)))))) (.an v1 (.two (IntKind.i64.wrap (1 * v2)<=z.i 1) (.two ((-9223372036854775808)<=z.i 1-IntKind.i64.wrap (1 * v2)/\z.i 1-IntKind.i64.wrap (1 * v2)<=9223372036854775807) (.two B' (.an v21 (.at (tM ((Vp (z.i 1) (1 * v2) (z.i 2))/\z.i 2-IntKind.i64.wrap (1 * v2)<=1099511627776/\v5.length+pK o8 v9<=1000) v9 (z.i 2) v27 i4 (z.i 1) (z.g 20)))) (.an v21 (.at (tM (uD (0<=z.i 1-IntKind.i64.wrap (1 * v2)/\z.i 1-IntKind.i64.wrap (1 * v2)<IntKind.i64.wrap v9) v9 v5 o8 Y') Y' (z.i 2) v27 i4 (z.i 1) (z.g 20))))) (.an (¬B') (.an v21 (.at (tM (uD ((0:Int)<=IntKind.i64.wrap o8/\IntKind.i64.wrap o8<IntKind.i64.wrap v9) v9 v5 (dw o8) Y') Y' (z.i 2) (dw v27) i4 (z.i 1) (z.g 20)))))) (.an v21 (.at ((uD (0<=z.i 1/\z.i 1<IntKind.i64.wrap (1 * v2)) (1 * v2) v5 (z.i 1) v32)/\v32.toNat<(z.i 2).toNat/\∀(y:Sy),tL (z.i 1) (dw v33) i4 (y.g 20)->tL (z.i 1) (z.i 2) (z.g 20) (y.g 20)))))))))))) (.an (jf (z.g 20)) (.at (tL (z.i 1) (z.i 2) (z.g 20) (z.g 20)))))) by
 dsimp only [Cb,Y5] at hA;have:=@D9 (z.i 2) ((z.i 2-1)%18446744073709551616) rfl;have:=@eY (z.i 2);have:=@OE (z.i 1) (z.i 2) (1 * (↑(2 ^ Min.min (dz ((z.i 2-1)%18446744073709551616)-1).toNat (bo Go.IntKind.i64)):Int));have:=(λe=>λr h hk=>@OD (z.i 1) (z.i 2) e (z.g 20) r (e<=z.i 1) h hk Iff.rfl) (1 * (↑(2 ^ Min.min (dz ((z.i 2-1)%18446744073709551616)-1).toNat (bo Go.IntKind.i64)):Int))
 have:=@SQ (z.i 1) (z.i 2) (z.g 20);exact fx
def JU:bN 142 2 Cc:=bM 5 41 eN lN λp z hA=>show Fm.den (let v0:=(sV (pI (gI (aZ (aK (z.g 20) (z.i 1)))=1)));let v1:=((z.g 20).set (z.i 1).toNat (sV (pI (gI (aZ (aK (z.g 20) (z.i 2)))=1))));let v2:=(((z.g 20).set (z.i 1).toNat (sV (pI (gI (aZ (aK (z.g 20) (z.i 2)))=(1:Int))))).set (z.i 2).toNat v0);let v3:=(cr (z.i 2) (z.g 20));let v4:=(cr (z.i 1) (z.g 20));(.two (z.i 1<z.i 2) (.an v3 (.an (eE (z.i 2) (z.g 20)) (.an v4 (.an (eE (z.i 1) (z.g 20)) (.an v4 (.an (ux (z.i 1) (z.g 20)) (.an v3 (.an ((z.i 2).toNat<v1.length/\True) (.an ((-9223372036854775808)<=z.i 1+1/\z.i 1+1<=9223372036854775807) (.an ((-9223372036854775808)<=z.i 2-1/\z.i 2-1<=9223372036854775807) (.an (v2.length=(z.g 20).length/\True) (.at (((0<=z.i 1+1/\z.i 1+1<=z.i 2-1+1)/\z.i 1+1+(z.i 2-1)+1=(↑(v1.set (z.i 2).toNat v0).length:Int)/\v2.length<=1000)/\(z.i 2-1-(z.i 1+1)).toNat<(z.i 2-z.i 1).toNat/\∀(y:Sy),OH (z.i 1+1) (z.i 2-1) (v1.set (z.i 2).toNat v0) (y.g 20)->OH (z.i 1) (z.i 2) (z.g 20) (y.g 20)))))))))))))) (.an (jf (z.g 20)) (.at (OH (z.i 1) (z.i 2) (z.g 20) (z.g 20)))))) by dsimp only [Cc,Y5] at hA;have:=@ST (z.i 1) (z.i 2) (z.g 20);have:=@OI (z.i 1) (z.i 2) (z.g 20);exact fx
def SX:bn 142 OJ:=bA 3 1 eN (aF (ptm:=[]) JT (aF (ptm:=[]) JU lN)) λz hA=>show Fm.den ((.cl ((nX)) ((0<=z.i 1/\z.i 1<z.i 2)/\z.i 2<=1099511627776/\0+pK (z.i 1) (z.i 2)<=1000) (λy0=>tL (z.i 1) (z.i 2) [] (y0.g 20)) λy0=>(let v0:=(↑(y0.g 20).length:Int);let v1:=((jf (y0.g 20)));(.two ((-9223372036854775808)<=v0-1/\v0-1<=9223372036854775807) (.cl v1 (((0:Int)<=0/\0<=v0-1+1)/\0+(v0-1)+1=v0/\(y0.g 20).length<=1000) (λy1=>OH 0 (v0-1) (y0.g 20) (y1.g 20)) λy1=>(.an (jf (y1.g 20)) (.at (rl (y1.g 20)=(cR (z.i 1) (z.i 2)).reverse/\(y1.g 20).length=pK (z.i 1) (z.i 2))))) (.cl v1 (((0:Int)<=0/\0<=IntKind.i64.wrap (v0-1)+1)/\0+IntKind.i64.wrap (v0-1)+1=v0/\(y0.g 20).length<=1000) (λy1=>OH 0 (dw (v0-1)) (y0.g 20) (y1.g 20)) λy1=>(.an (jf (y1.g 20)) (.at (rl (y1.g 20)=(cR (z.i 1) (z.i 2)).reverse/\(y1.g 20).length=pK (z.i 1) (z.i 2))))))))) by dsimp only [OJ] at hA;have:=@SU (z.i 1) (z.i 2);have:=@G9 (z.i 1) (z.i 2) [];have:=@yE (z.i 1) (z.i 2);exact fx
def Vq:bn 70 Stwo:=bA 1 0 (jZ qh eN) lN λz hA=>show Fm.den (let v0:=((1:Int)::(ko z 100++ko z 200));(.an (bu v0) (.an (65=65) (.ct (65<=1000000000) (λy0=>True) λy0=>(.an (bu v0/\True) (.at (aG v0=1::(hB (hT z 100)++hB (hT z 200))/\hG (eD (aG v0))=aY (hT z 100) (hT z 200)))))))) by
 have hB:True/\HOk (hT z 100)/\HOk (hT z 200):=⟨trivial,hA⟩
 conv=>zeta
 repeat' with_reducible first|intro _|apply bV|apply bW|apply bX|apply cy|apply cj
 all_goals first|omega|((try simp only [←eG,cq,dK,bv,dn,cF,dL,DC,DD,DE,List.cons_append,List.nil_append,List.append_assoc,qj,td,k_,List.length_append,List.length_cons,List.length_nil,bQ,jI,jJ,cz,ig]) <;> (repeat' first|rfl|trivial|refine And.intro ?_ ?_) <;> first|omega|exact aH hB.2.1|exact aH hB.2.2|exact aH (by assumption)|exact dS (by assumption))|grind [ao,am,ak,aP,aQ,aR,aS,aT,aU,aV,aW,aX,az]
def D_:bN 68 0 wD:=bM 7 549 (ai Vq eN) lN λp z hA=>show Fm.den (let v0:=(hX (aZ (aK (p.g 3) (z.i 9))));let v1:=(↑(p.g 4).length:Int);let v2:=(ow (z.g 30));let v3:=((-9223372036854775808)<=z.i 9+1/\z.i 9+1<=9223372036854775807);let v4:=(hT z 100);let v5:=(dU (z.i 9) (p.g 4));let v6:=(cr (z.i 9) (p.g 3));let v7:=(z.i 9+1);(.two (dq (z.i 9) (p.g 4)) (.an (cr (z.i 9) (p.g 4)) (.an v6 (.ct (HOk v4/\HOk v0) (λy0=>y0.s 10=1::(hB v4++hB v0)/\hT y0 300=aY v4 v0) λy0=>(let v8:=(z.g 30++ [G.node [G.str (y0.s 10),hT y0 300]]);(.two (gI (aZ (aK (p.g 4) (z.i 9)))=1) (.an v6 (.ct (HOk v0/\HOk v4) (λy1=>y1.s 10=1::(hB v0++hB v4)/\hT y1 300=aY v0 v4) λy1=>(let v9:=(z.g 30++ [G.node [G.str (y1.s 10),hT y1 300]]);(.an v2 (.an v3 (.an (v9.length=(z.g 30).length+1/\p.g 3=p.g 3/\v1=v1/\p.g 4=p.g 4/\True) (.at ((HOk (hT y1 300)/\RowsOk (p.g 3)/\v5/\(p.g 4).length=(p.g 3).length/\(p.g 4).length<=1000/\(↑v9.length:Int)<=z.i 9+1)/\(v1-v7).toNat<(v1-z.i 9).toNat/\∀(y:Sy),yF v7 (hT y1 300) (p.g 4) (p.g 3) v9 (y.g 30)->yF (z.i 9) v4 (p.g 4) (p.g 3) (z.g 30) (y.g 30))))))))) (.an v2 (.an v3 (.an (v8.length=(z.g 30).length+1/\p.g 3=p.g 3/\v1=v1/\p.g 4=p.g 4/\True) (.at ((HOk (hT y0 300)/\RowsOk (p.g 3)/\v5/\(p.g 4).length=(p.g 3).length/\(p.g 4).length<=1000/\(↑v8.length:Int)<=z.i 9+1)/\(v1-v7).toNat<(v1-z.i 9).toNat/\∀(y:Sy),yF v7 (hT y0 300) (p.g 4) (p.g 3) v8 (y.g 30)->yF (z.i 9) v4 (p.g 4) (p.g 3) (z.g 30) (y.g 30))))))))))) (.an ((z.g 30).length=(z.g 30).length/\p.g 3=p.g 3/\True) (.at (yF (z.i 9) v4 (p.g 4) (p.g 3) (z.g 30) (z.g 30)))))) by
 dsimp only [wD,clB,hs] at hA;have:=λh h0 hi=>@RowsOk.at (p.g 3) h (z.i 9) h0 hi;have:=@SV (z.i 9) (hT z 100) (p.g 4) (p.g 3) (z.g 30);have:=λr h0 hi hp=>@OK (z.i 9) (hT z 100) (hX (aa (aq (p.g 3) (z.i 9).toNat) 0)) (p.g 4) (p.g 3) (z.g 30) r h0 hi hp rfl;conv=>zeta
 repeat' with_reducible first|intro _|apply bV|apply bW|apply bX|apply cy|apply cj
 all_goals first|omega|grind [ao,am,ak,aP,aQ,aR,aS,aT,aU,aV,aW,aX,az,bR]
def OM:bn 68 Ha:=bA 9 4369 (ai SX eN) (aF (ptm:=[(3,.ag [.v 6 3]),(35,.c (.v 4 4))]) D_ lN) λz hA=>show Fm.den (let v1:=(cR (z.i 1) (z.i 2));let v2:=(hT z 100);let v0:Fm:=(.ax ((false=true↔jh (z.i 1) (z.i 2) (z.g 3))/\0<=40/\(jh (z.i 1) (z.i 2) (z.g 3)-> []=rk v2 v1.reverse (z.g 3))));(.two (z.i 1<0) v0 (.two (z.i 2<=z.i 1) v0 (.two (1099511627776<z.i 2) v0 (.ct ((0<=z.i 1/\z.i 1<z.i 2)/\z.i 2<=1099511627776) (λy0=>rl (y0.g 10)=v1.reverse/\(y0.g 10).length=pK (z.i 1) (z.i 2)) λy0=>(let v3:=(↑(y0.g 10).length:Int);(.two (v3≠(↑(z.g 3).length:Int)) v0 (.cl ((0=0/\z.g 3=z.g 3/\v3=v3/\y0.g 10=y0.g 10/\True)) (HOk v2/\RowsOk (z.g 3)/\(fJ v3)/\(y0.g 10).length=(z.g 3).length/\(y0.g 10).length<=1000/\(↑0:Int)<=0) (λy1=>yF 0 v2 (y0.g 10) (z.g 3) [] (y1.g 30)) λy1=>(.an (jf (y1.g 30)) (.at ((true=true↔jh (z.i 1) (z.i 2) (z.g 3))/\(y1.g 30).length<=40/\(jh (z.i 1) (z.i 2) (z.g 3)->y1.g 30=rk v2 v1.reverse (z.g 3))))))))))))) by dsimp only [Ha,hs] at hA;have:=λS r hc hs=>@Xx (z.i 1) (z.i 2) (hT z 100) S (z.g 3) r hc hs;have:=λS r hc=>@SW (hT z 100) S (z.g 3) r hc;have:=@yE (z.i 1) (z.i 2);exact fx
noncomputable section
def hsR:Nat->Nat->List Sh
 |0,_=>[]
 |n+1,t=>.i .u8 t::hsR n (t+1)
def wE:Nat->List Int->List (Nat×Tm)->List (Nat×Tm)
 |_,[],l=>l
 |t,n::ns,l=>wE (t+1) ns ((t,.i n)::l)
def Ce{H:T ABlk}:∀(ns:List Int) (avs:List AV) (s s':PS),iT H [] (ns.map λn=>.pi .u8 n) avs s=some s'->s'.pr->cH (λa n=>ce a=some (.u8,n)) avs ns/\s.pr/\s'.tm=s.tm/\s'.loc=s.loc/\s'.ln=s.ln/\s'.fz=s.fz
 | [],[],s,s',h,hp=>by injection h with h;subst h;exact⟨trivial,hp,rfl,rfl,rfl,rfl⟩
 | [],_::_,s,s',h,hp=>by cases h
 |n::ns,[],s,s',h,hp=>by cases h
 |n::ns,a::avs,s,s',h,hp=>by
  obtain⟨s1,h1,h2⟩:=aB (show bC (nK H [] (.pi .u8 n) a s) (λs=>iT H [] (ns.map λn=>.pi .u8 n) avs s)=some s' from h);obtain⟨q1,q2,q3,q4,q5,q6⟩:=Ce ns avs s1 s' h2 hp;have h1:(match ce a with|some (k',n')=>ac (decide (IntKind.u8=k')) (s.must (n'=n)) none|none=>none)=some s1:=h1;split at h1
  ·rename_i k' n' hn
   obtain⟨hk,h1⟩:=bf h1
   have hk:=of_decide_eq_true hk
   injection h1 with h1
   subst h1
   cases s with
   |mk tm loc ln pr fz=>
   obtain⟨e,hpr⟩:n'=n/\pr:=q2
   subst hk;subst e
   exact⟨⟨hn,q1⟩,hpr,q3,q4,q5,q6⟩
  ·cases h1
def wF{H:T ABlk}:∀(ns:List Int) (avs:List AV) (t:Nat) (tm:List (Nat×Tm)),cH (λa n=>ce a=some (.u8,n)) avs ns->(∀j,t<=j->bE j tm=none)->iT H [] (hsR ns.length t) avs ⟨tm,[],[],True,[]⟩=some ⟨wE t ns tm,[],[],True,[]⟩
 | [],[],t,tm,h,hf=>rfl
 |n::ns,a::avs,t,tm,⟨h1,h2⟩,hf=>by
  have ht:bE t tm=none:=hf t (aaa _);have e:nK H [] (.i .u8 t) a ⟨tm,[],[],True,[]⟩=some ⟨(t,.i n)::tm,[],[],True,[]⟩:=by show(match ce a with|some (k',n)=>ac (decide (IntKind.u8=k')) (PS.add ⟨tm,[],[],True,[]⟩ t (.i n)) none|none=>none)=_;rw[h1];show PS.add ⟨tm,[],[],True,[]⟩ t (.i n)=_;unfold PS.add;simp only [ht]
  show bC (nK H [] (.i .u8 t) a ⟨tm,[],[],True,[]⟩) (λs=>iT H [] (hsR ns.length (t+1)) avs s)=_;rw[e];exact wF ns avs (t+1) _ h2 λj hj=>by rw[cZ,if_neg (by show ¬t=j;omega)];exact hf j (by omega)
 | [],_::_,_,_,h,_=>h.elim
 |_::_,[],_,_,h,_=>h.elim
def Vr:FSpec:=⟨[.c (.vb 1)],[],λz=>(z.s 1).length<=1000000000,λz=>.one (.ag (hs 300)),λ_=>[],λz y=>hT y 300=dJ (z.s 1),none⟩
def Y6(v:V8):List Int:=(List.range 32).map (hb v)
def tm_hT(v:V8):hT (aM (wE 300 (Y6 v) [])) 300=hG v:=by rfl
def Xy(h:Ok Tryz.prog 31 WL):Ok Tryz.prog 31 Vr:=by
 obtain⟨zf,h⟩:=h
 refine⟨λz=>⟨aM (wE 300 (Y6 (eD (z.s 1))) []),λ_=>show hT (aM (wE 300 (Y6 (eD (z.s 1))) [])) 300=dJ (z.s 1) by rw[tm_hT];unfold dJ;rfl⟩,λz hz w ρ vs hG hl=>?_⟩
 obtain⟨h1,h2⟩:=h z hz w ρ vs hG hl
 refine⟨h1,h2.mono λe w' he=>?_⟩
 obtain⟨v,ρ',H',a,s,e1,e2,e3,e4,e5,e6,e7⟩:=he
 obtain⟨s1,q1,q2⟩:=aB e5
 obtain⟨s2,r2,q3⟩:=aB q2
 obtain⟨s3,r3,q4⟩:=aB q3
 obtain⟨s4,r4,q5⟩:=aB q4
 obtain⟨_,q6⟩:=bf q5
 obtain⟨_,q7⟩:=bf q6
 injection q7 with q7
 subst q7
 have hp:s1.pr:=((qS r2).1.trans ((qU (ρ:=ρ') r3).1.trans (eu r4).1)).pr e6
 clear q2 q3 q4 q5 q6 r2 r3 r4 e5 e6 e7
 cases a with
 |agg avs=>obtain⟨p1,_⟩:=Ce (Y6 (eD (z.s 1))) avs kj s1 q1 hp;have p2:=wF (H:=H') (Y6 (eD (z.s 1))) avs 300 [] p1 (λ_ _=>rfl);refine⟨v,ρ',H',.agg avs,⟨wE 300 (Y6 (eD (z.s 1))) [],[],[],True,[]⟩,e1,e2,e3,e4, ?_,trivial,rfl⟩;have p2:AM H' [] (.one (.ag (hs 300))) (.agg avs) kj=_:=p2;show bC (AM H' [] (.one (.ag (hs 300))) (.agg avs) kj) _=_;rw[p2];rfl
 |_=>cases q1
def QQ(l:List G):G:=hX (aa (aq l ((l.length:Int)-1).toNat) 1)
def yH(l:List G)(r:G)(m:List G):QQ (l++(r::m))=QQ (r::m):=by unfold QQ aq;rw[aag,aag];congr 3;rw[aax (by simp;omega)];congr 1;simp;omega
def yI(b:List Nat){h:G}(hh:HOk h):QQ [.node [.str b,h]]=h:=db hh
def j2_ok(s:Prop)(h x:G):HOk (j2 s h x):=by
 unfold j2;split
 ·exact bR _ _
 ·exact bR _ _
def ON:∀(ss:List Prop) (ps:List G) (h:G) (b:List Nat),HOk h->QQ (.node [.str b,h]::rk h ss ps)=SP h ss ps
 | [],_,h,b,hh=>by simp only [rk,SP];exact yI b hh
 |_::_,[],h,b,hh=>by simp only [rk,SP];exact yI b hh
 |s::ss,r::ps,h,b,hh=>by simp only [rk,SP];rw[←ON ss ps _ (jB s h (hX (aa r 0))) (j2_ok _ _ _)];exact yH [_] _ _
def Hb(h:G)(i n:Int)(p:List G):G:=(gP h i n p).1
theorem OO{h:G}{i n:Int}{p:List G}(hh:HOk h):HOk (Hb h i n p):=by
 have key:∀(m:Nat) (i n:Int) (p:List G),n.toNat<=m->HOk (gP h i n p).1:=by
  intro m
  induction m with
  |zero=>intro i n p hm;rw[lQ (by omega)];exact hh
  |succ m ih=>
   intro i n p hm;by_cases h2:2<=n
   ·by_cases hp:p.length=0
    ·rw[yo h2 hp];exact dh
    ·by_cases hi:i<(br n.toNat:Nat)
     ·rw[yp h2 hp hi];exact bR _ _
     ·rw[yq h2 hp hi];exact bR _ _
   ·rw[lQ h2];exact hh
 exact key _ _ _ _ (aaa _)
def Xz{h:G}{i n:Int}{p:List G}(hc:jh i n p):Hb h i n p=SP h (cR i n).reverse p:=by unfold jh pK at hc;exact(OC _ h i n p (aaa _)).2 hc.2.2
def Vs{h:G}{i n:Int}{p:List G}:(gP h i n p).2↔p.length=pK i n:=by unfold pK;exact(OC _ h i n p (aaa _)).1
def OP{h:G}{i n:Int}{p:List G}(l:List G)(b:List Nat)(hc:jh i n p)(hh:HOk h):QQ (l++(.node [.str b,h]::rk h (cR i n).reverse p))=Hb h i n p:=by rw[yH,ON _ _ _ _ hh,Xz hc]
def SY(lh:G)(ae c:Int)(ip:List G):G:=du (Hb lh ae c ip) (aJ c.toNat)
def CO(lh hd:G)(ae c:Int)(ip:List G):G:=aY hd (SY lh ae c ip)
def kw(er:Int)(lh hd:G)(ab ae c n:Int)(ip op:List G)(r:G):Prop:=er=0/\(1<=c/\c<=200)/\jh ae c ip/\jh ab n op/\Hb (CO lh hd ae c ip) ab n op=r
def Vt(er:Int)(ab ae c n:Int)(ip op:List G):Prop:=er=0/\(1<=c/\c<=200)/\jh ae c ip/\jh ab n op
def SZ(e:List Nat)(lh hd:G)(ab ae c n:Int)(ip op:List G):List G:=
 [.node [.str (0::e),lh]]++rk lh (cR ae c).reverse ip++ [.node [.str (2::(hB (Hb lh ae c ip)++aJ c.toNat)),SY lh ae c ip]]++ [.node [.str (1::(hB hd++hB (SY lh ae c ip))),CO lh hd ae c ip]]++rk (CO lh hd ae c ip) (cR ab n).reverse op
def yJ(er:Int)(ab ae c n:Int)(ip op:List G):Vt er ab ae c n ip op↔er=0/\(1<=c/\c<=200)/\jh ae c ip/\jh ab n op:=Iff.rfl
def oE(er:Int)(lh hd:G)(ab ae c n:Int)(ip op:List G)(r:G):kw er lh hd ab ae c n ip op r↔Vt er ab ae c n ip op/\Hb (CO lh hd ae c ip) ab n op=r:=⟨λ⟨a,b,c,d,e⟩=>⟨⟨a,b,c,d⟩,e⟩,λ⟨⟨a,b,c,d⟩,e⟩=>⟨a,b,c,d,e⟩⟩
def yK(e:List Nat)(lh hd:G)(ab ae c n:Int)(ip op:List G):SZ e lh hd ab ae c n ip op=
 [.node [.str (0::e),lh]]++rk lh (cR ae c).reverse ip++ [.node [.str (2::(hB (Hb lh ae c ip)++aJ c.toNat)),SY lh ae c ip]]++ [.node [.str (1::(hB hd++hB (SY lh ae c ip))),CO lh hd ae c ip]]++rk (CO lh hd ae c ip) (cR ab n).reverse op:=rfl
def Ea(lh:G)(ae c:Int)(ip:List G):SY lh ae c ip=du (Hb lh ae c ip) (aJ c.toNat):=rfl
def Eb(lh hd:G)(ae c:Int)(ip:List G):CO lh hd ae c ip=aY hd (SY lh ae c ip):=rfl
theorem Ec(lh hd:G)(ae c:Int)(ip:List G):HOk (CO lh hd ae c ip):=bR _ _
theorem XA(lh:G)(ae c:Int)(ip:List G):HOk (SY lh ae c ip):=jd _ _
def OQ{er:Int}{e:List Nat}{lh hd:G}{ab ae c n:Int}{ip op:List G}(h:Vt er ab ae c n ip op):QQ (SZ e lh hd ab ae c n ip op)=Hb (CO lh hd ae c ip) ab n op/\3<=(SZ e lh hd ab ae c n ip op).length/\(SZ e lh hd ab ae c n ip op).length<=100:=by
 obtain⟨_,hc,h1,h2⟩:=h;refine⟨?_, ?_, ?_⟩
 ·rw[yK,aav,List.singleton_append];exact OP _ _ h2 (Ec _ _ _ _ _)
 ·rw[yK];simp only [aah,aaL];omega
 ·have a1:=yE (i:=ae) (n:=c) h1.2.1;have a2:=yE (i:=ab) (n:=n) h2.2.1;have b1:=h1.2.2;have b2:=h2.2.2;rw[yK];simp only [aah,aaL,yG];omega
def ls_a{b:List Nat}{h:G}{r:List G}{i n:Int}{p:List G}(hh:HOk h)(hc:jh i n p)(hr:r=rk h (cR i n).reverse p):hX (aa (aq ([.node [.str b,h]]++r) (((1+r.length:Nat):Int)-1).toNat) 1)=Hb h i n p:=by have:=OP (h:=h) (i:=i) (n:=n) (p:=p) [] b hc hh;rw[aa8, ←hr] at this;rw[←this];unfold QQ;simp only [List.singleton_append,aau,Nat.add_comm]
def ls_c{A:List G}{s:List Nat}{h:G}{m:Nat}(hh:HOk h)(hl:A.length=m):hX (aa (aq (A++ [.node [.str s,h]]) (((m+1:Nat):Int)-1).toNat) 1)=h:=by
 have:=yH A (.node [.str s,h]) [];rw[yI s hh] at this;conv=>rhs;rw[←this]
 unfold QQ;rw[aah,hl];rfl
def XB{g a:G}{s:List Nat}(hg:HOk (hX g))(ha:hX g=a):dJ (aG (2::Js g)++s)=du a s/\aG (2::Js g)++s=2::(hB a++s)/\bu (2::Js g):=by
 have e:aG (2::Js g)++s=2::(hB a++s):=by rw[cq,dn,ha];rfl
 refine⟨?_,e, ?_⟩
 ·rw[e];exact(qy _).symm.trans (k_ a s)
 ·rw[cF];exact⟨by decide,dS hg⟩
theorem tn33(g:G)(s:List Nat):(aG (2::Js g)++s).length=33+s.length:=by rw[cq,dn];simp only [aah,aau,ig]
def leafS(s:List Nat):dJ (0::s)=be s:=(qy _).symm.trans (qj s)
def rv:List Sh:=[.i .i64 61,.i .i64 62]++en++hs 400++ [.v 6 63]++ [.i .i64 64]++ [.v 6 65]
def dg(t u:Nat):List Sh:=[.i .i64 t]++hs u
def yL(z:Sy):Prop:=wi z/\HOk (hT z 400)/\RowsOk (z.g 63)/\(z.g 63).length<=1000000/\RowsOk (z.g 65)/\(z.g 65).length<=1000000
def OS:FSpec:=⟨[.ag rv,.c (.i .i64 66)],[],yL,λ_=>.tu [.c (.v 15 30),.c (.b 40)],λ_=>[],λz y=>(y.p 40↔Vt (zD z) (z.i 61) (z.i 62) (z.i 64) (z.i 66) (z.g 63) (z.g 65))/\(y.p 40->y.g 30=SZ (zE z) (be (zE z)) (hT z 400) (z.i 61) (z.i 62) (z.i 64) (z.i 66) (z.g 63) (z.g 65)),none⟩
attribute [irreducible] Vt kw SZ SY CO Hb
def Hc:FSpec:=⟨[.ag rv,.ag (dg 66 500)],[],λz=>yL z/\HOk (hT z 500),λ_=>.one (.c (.b 40)),λ_=>[],λz y=>y.p 40↔kw (zD z) (be (zE z)) (hT z 400) (z.i 61) (z.i 62) (z.i 64) (z.i 66) (z.g 63) (z.g 65) (hT z 500),none⟩
end
def XC:bn 31 Vr:=Xy qh
def S0:bn 28 OS:=bA 12 2756881 (ai JS (jZ XC (ai OM (ai ge (ai Vq eN))))) lN λz hA=>show Fm.den (let v3:=(hT z 400);let v4:=(hT z 100);let v1:=(gR (z.i 1) (z.s 2) (z.i 3) (z.i 4) (z.i 5) v4 (z.i 13) (z.i 14));let v2:=(dv (z.i 1) (z.s 2) (z.i 3) (z.i 4) (z.i 5) (z.i 6) (z.i 7) (z.i 8) (z.s 9) (z.g 10) (z.g 11) v4 (z.p 12) (z.i 13) (z.i 14));let v0:Fm:=(.ax ((false=true↔Vt v2 (z.i 61) (z.i 62) (z.i 64) (z.i 66) (z.g 63) (z.g 65))/\(false=true-> []=SZ v1 (be v1) v3 (z.i 61) (z.i 62) (z.i 64) (z.i 66) (z.g 63) (z.g 65))));(.ct (ql (z.s 2) (z.i 3) (z.i 4) (z.i 5) (z.i 7) (z.s 9) (z.g 10) (z.g 11) v4 (z.i 13) (z.i 14)) (λy0=>(y0.p 40↔dv (z.i 1) (z.s 2) (z.i 3) (z.i 4) (z.i 5) (z.i 6) (z.i 7) (z.i 8) (z.s 9) (z.g 10) (z.g 11) v4 (z.p 12) (z.i 13) (z.i 14)=(0:Int))/\(dv (z.i 1) (z.s 2) (z.i 3) (z.i 4) (z.i 5) (z.i 6) (z.i 7) (z.i 8) (z.s 9) (z.g 10) (z.g 11) v4 (z.p 12) (z.i 13) (z.i 14)=(0:Int)->y0.s 30=0::gR (z.i 1) (z.s 2) (z.i 3) (z.i 4) (z.i 5) v4 (z.i 13) (z.i 14))) λy0=>(.two (¬y0.p 40) v0 (.two (z.i 64<1) v0 (.two (200<z.i 64) v0 (.ct (Bk (y0.s 30)) (λy1=>hT y1 300=dJ (y0.s 30)) λy1=>(.ct (HOk (hT y1 300)/\(z.g 63).length<=1000000/\RowsOk (z.g 63)) (λy2=>(y2.p 40↔jh (z.i 62) (z.i 64) (z.g 63))/\(y2.g 30).length<=40/\(jh (z.i 62) (z.i 64) (z.g 63)->y2.g 30=rk (hT y1 300) (cR (z.i 62) (z.i 64)).reverse (z.g 63))) λy2=>(let v6:=(↑(1+(y2.g 30).length+1):Int);let v7:=(↑(1+(y2.g 30).length+1+1):Int);let v8:=(↑(1+(y2.g 30).length):Int);let v9:=([G.node [G.str (y0.s 30),hT y1 300]]++y2.g 30);let v5:=(2::Js (aa (aK v9 (v8-1)) 1));(.two (¬y2.p 40) v0 (.an (1=1) (.an (1=1/\1<=1000000000/\(y2.g 30).length<=1000000) (.an ((-9223372036854775808)<=v8-1/\v8-1<=9223372036854775807) (.an (uB v8) (.an (eE (v8-1) v9) (tq (z.i 64) (z.i 64%18446744073709551616) λy3=>(let v10:=(aG v5++y3.s 10);let v11:=(v10.length=33+(y3.s 10).length);(.an (bu v5) (.an (33=33) (.an (M6 (y3.s 10)) (.an v11 (.ct (Bk v10) (λy4=>hT y4 300=dJ v10) λy4=>(let i4:=([G.node [G.str (y0.s 30),hT y1 300]]++y2.g 30++ [G.node [G.str v10,hT y4 300]]);let i7:=(hX (aa (aK i4 (v6-1)) 1));(.an v11 (.an (v9.length=1+(y2.g 30).length/\1+(y2.g 30).length<=1000000000/\True) (.an ((-9223372036854775808)<=v6-1/\v6-1<=9223372036854775807) (.an (uB v6) (.an (eE (v6-1) i4) (.ct (HOk v3/\HOk i7) (λy5=>y5.s 10=1::(hB v3++hB i7)/\hT y5 300=aY v3 i7) λy5=>(let j6:=([G.node [G.str (y0.s 30),hT y1 300]]++y2.g 30++ [G.node [G.str v10,hT y4 300]]++ [G.node [G.str (y5.s 10),hT y5 300]]);let o8:=(hX (aa (aK j6 (v7-1)) 1));(.an (i4.length=1+(y2.g 30).length+1/\1+(y2.g 30).length+1<=1000000000/\True) (.an ((-9223372036854775808)<=v7-1/\v7-1<=9223372036854775807) (.an (uB v7) (.an (eE (v7-1) j6) (.ct (HOk o8/\(z.g 65).length<=1000000/\RowsOk (z.g 65)) (λy6=>(y6.p 40↔jh (z.i 61) (z.i 66) (z.g 65))/\(y6.g 30).length<=40/\(jh (z.i 61) (z.i 66) (z.g 65)->y6.g 30=rk o8 (cR (z.i 61) (z.i 66)).reverse (z.g 65))) λy6=>(.an (j6.length=1+(y2.g 30).length+1+1/\1+(y2.g 30).length+1+1<=1000000000/\(y6.g 30).length<=1000000) (.an (([G.node [G.str (y0.s 30),hT y1 300]]++y2.g 30++ [G.node [G.str v10,hT y4 300]]++ [G.node [G.str (y5.s 10),hT y5 300]]++y6.g 30).length=1+(y2.g 30).length+1+1+(y6.g 30).length/\True) (.at ((y6.p 40↔Vt v2 (z.i 61) (z.i 62) (z.i 64) (z.i 66) (z.g 63) (z.g 65))/\(y6.p 40-> [G.node [G.str (y0.s 30),hT y1 300]]++y2.g 30++ [G.node [G.str v10,hT y4 300]]++ [G.node [G.str (y5.s 10),hT y5 300]]++y6.g 30=SZ v1 (be v1) v3 (z.i 61) (z.i 62) (z.i 64) (z.i 66) (z.g 63) (z.g 65)))))))))))))))))))))))))))))))))))))))) by
 dsimp only [OS,rv,en,hs,yL,wi,zD,zE] at hA;have:=bw 0 0 0 [] [] [];have:=bw (z.i 6) (z.i 7) (z.i 8) (z.s 9) (z.g 10) (z.g 11);have:=@dG (z.s 2) (z.i 3) (z.i 4) (z.i 5) (z.i 7) (z.s 9) (z.g 10) (z.g 11) (hT z 100) (z.i 13) (z.i 14);have:=@fy (z.i 1) (z.s 2) (z.i 3) (z.i 4) (z.i 5) (z.i 6) (z.i 7) (z.i 8) (z.s 9) (z.g 10) (z.g 11) (hT z 100) (z.p 12) (z.i 13) (z.i 14);have:=@fA (z.i 1) (z.s 2) (z.i 3) (z.i 4) (z.i 5) (z.i 6) (z.i 7) (z.i 8) (z.s 9) (z.g 10) (z.g 11) (hT z 100) (z.p 12) (z.i 13) (z.i 14);have:=@ij (z.i 1) (z.s 2) (z.i 3) (z.i 4) (z.i 5) (z.i 6) (z.i 7) (z.i 8) (z.s 9) (z.g 10) (z.g 11) (hT z 100) (z.p 12) (z.i 13) (z.i 14);have:=@jL (z.i 1) (z.s 2) (z.i 3) (z.i 4) (z.i 5) (z.i 6) (z.i 7) (z.i 8) (z.s 9) (z.g 10) (z.g 11) (hT z 100) (z.p 12) (z.i 13) (z.i 14);have:=@lg (z.i 1) (z.s 2) (z.i 3) (z.i 4) (z.i 5) (z.i 6) (z.i 7) (z.i 8) (z.s 9) (z.g 10) (z.g 11) (hT z 100) (z.p 12) (z.i 13) (z.i 14);have:=@dF (z.i 1) (z.s 2) (z.i 3) (z.i 4) (z.i 5) (z.i 6) (z.i 7) (z.i 8) (z.s 9) (z.g 10) (z.g 11) (hT z 100) (z.p 12) (z.i 13) (z.i 14);have:=@ld (z.i 1) (z.s 2) (z.i 3) (z.i 4) (z.i 5) (mZ z) (hT z 100=hZ) (z.p 12) (z.i 13) (z.i 14);have:=@il (z.i 1) (z.s 2) (z.i 3) (z.i 4) (z.i 5) (hT z 100) (z.i 13) (z.i 14);have:=yJ (dv (z.i 1) (z.s 2) (z.i 3) (z.i 4) (z.i 5) (z.i 6) (z.i 7) (z.i 8) (z.s 9) (z.g 10) (z.g 11) (hT z 100) (z.p 12) (z.i 13) (z.i 14)) (z.i 61) (z.i 62) (z.i 64) (z.i 66) (z.g 63) (z.g 65);have:=(λe=>yK e (be e) (hT z 400) (z.i 61) (z.i 62) (z.i 64) (z.i 66) (z.g 63) (z.g 65)) (gR (z.i 1) (z.s 2) (z.i 3) (z.i 4) (z.i 5) (hT z 100) (z.i 13) (z.i 14))
 have:=leafS (gR (z.i 1) (z.s 2) (z.i 3) (z.i 4) (z.i 5) (hT z 100) (z.i 13) (z.i 14));have:=Ea (be (gR (z.i 1) (z.s 2) (z.i 3) (z.i 4) (z.i 5) (hT z 100) (z.i 13) (z.i 14))) (z.i 62) (z.i 64) (z.g 63);have:=Eb (be (gR (z.i 1) (z.s 2) (z.i 3) (z.i 4) (z.i 5) (hT z 100) (z.i 13) (z.i 14))) (hT z 400) (z.i 62) (z.i 64) (z.g 63);have:=λb h r hh hc hr=>@ls_a b h r (z.i 62) (z.i 64) (z.g 63) hh hc hr;have:=@ls_c;have:=λg a s hg ha=>(@XB g a s hg ha).1;have:=λg a s hg ha=>(@XB g a s hg ha).2.1;have:=λg a hg ha=>(@XB g a [] hg ha).2.2;have m1:1<=z.i 64->z.i 64<=200->z.i 64%18446744073709551616=z.i 64:=λa b=>by omega
 conv=>zeta
 repeat' with_reducible first|intro _|apply bV|apply bW|apply bX|apply cy|apply cj
 all_goals first|omega|grind [ao,am,ak,aP,aQ,aR,aS,aT,aU,aV,aW,aX,az,gB,bO,OO,jd,XA,bR,tn33,List.length_append,List.length_cons,List.length_nil]
abbrev uE(a:List Nat)(b c d e:Int)(f:List Nat)(g h:List G)(i:G)(j k:Int)(l:G)(m n:List G):=ql a b c d e f g h i j k/\HOk l/\RowsOk m/\m.length<=1000000/\RowsOk n/\n.length<=1000000
def OT:bn 9 Hc:=bA 32 4611682353355073961 (ai S0 eN) lN λz hA=>show Fm.den (let v0:=(dv (z.i 1) (z.s 2) (z.i 3) (z.i 4) (z.i 5) (z.i 6) (z.i 7) (z.i 8) (z.s 9) (z.g 10) (z.g 11) (hT z 100) (z.p 12) (z.i 13) (z.i 14));let v1:=(gR (z.i 1) (z.s 2) (z.i 3) (z.i 4) (z.i 5) (hT z 100) (z.i 13) (z.i 14));let v2:=(hT z 400);let v3:=(hT z 500);let v4:=(be v1);(.ct (uE (z.s 2) (z.i 3) (z.i 4) (z.i 5) (z.i 7) (z.s 9) (z.g 10) (z.g 11) (hT z 100) (z.i 13) (z.i 14) v2 (z.g 63) (z.g 65)) (λy0=>(y0.p 40↔Vt v0 (z.i 61) (z.i 62) (z.i 64) (z.i 66) (z.g 63) (z.g 65))/\(y0.p 40->y0.g 30=SZ v1 v4 v2 (z.i 61) (z.i 62) (z.i 64) (z.i 66) (z.g 63) (z.g 65))) λy0=>(let v5:=(↑(y0.g 30).length:Int);let v6:=(¬(y0.p 40));(.two (y0.p 40) (.an (y0.p 40) (.an (y0.p 40) (.an (y0.p 40) (.two ((-9223372036854775808)<=v5-1/\v5-1<=9223372036854775807) (.an (y0.p 40) (.an (uB v5) (.an (y0.p 40) (.an (y0.p 40) (.an (y0.p 40) (.an (y0.p 40) (.an (y0.p 40) (.an (y0.p 40) (.ax (ky (hX (aa (aK (y0.g 30) (v5-1)) 1)) v3↔kw v0 v4 v2 (z.i 61) (z.i 62) (z.i 64) (z.i 66) (z.g 63) (z.g 65) v3)))))))))) (.an (y0.p 40) (.an (0<=IntKind.i64.wrap (v5-1)/\IntKind.i64.wrap (v5-1) < ↑(y0.g 30).length) (.an (y0.p 40) (.an (y0.p 40) (.an (y0.p 40) (.an (y0.p 40) (.an (y0.p 40) (.an (y0.p 40) (.ax (ky (hX (aa (aK (y0.g 30) (dw (v5-1))) 1)) v3↔kw v0 v4 v2 (z.i 61) (z.i 62) (z.i 64) (z.i 66) (z.g 63) (z.g 65) v3)))))))))))))) (.an v6 (.an v6 (.an v6 (.an v6 (.an v6 (.an v6 (.an v6 (.an v6 (.an v6 (.an v6 (.ax (false=true↔kw v0 v4 v2 (z.i 61) (z.i 62) (z.i 64) (z.i 66) (z.g 63) (z.g 65) v3)))))))))))))))) by
 dsimp only [Hc,rv,en,hs,dg,yL,wi,zD,zE] at hA;have:=oE (dv (z.i 1) (z.s 2) (z.i 3) (z.i 4) (z.i 5) (z.i 6) (z.i 7) (z.i 8) (z.s 9) (z.g 10) (z.g 11) (hT z 100) (z.p 12) (z.i 13) (z.i 14)) (be (gR (z.i 1) (z.s 2) (z.i 3) (z.i 4) (z.i 5) (hT z 100) (z.i 13) (z.i 14))) (hT z 400) (z.i 61) (z.i 62) (z.i 64) (z.i 66) (z.g 63) (z.g 65) (hT z 500);have s2:=(λe=>@OQ (dv (z.i 1) (z.s 2) (z.i 3) (z.i 4) (z.i 5) (z.i 6) (z.i 7) (z.i 8) (z.s 9) (z.g 10) (z.g 11) (hT z 100) (z.p 12) (z.i 13) (z.i 14)) e (be e) (hT z 400) (z.i 61) (z.i 62) (z.i 64) (z.i 66) (z.g 63) (z.g 65)) (gR (z.i 1) (z.s 2) (z.i 3) (z.i 4) (z.i 5) (hT z 100) (z.i 13) (z.i 14))
 dsimp only [QQ] at s2;exact fx
noncomputable section
theorem OU{y:Sy}{t:Nat}{v:V8}:ky (hT y t) (hG v)↔hT y t=hG v:=by unfold ky;rw[ob,UY,cd,cd];exact⟨λh=>by rw[h],fH⟩
def Ed(h:G)(i n:Int)(p:List G):Hb h i n p=(gP h i n p).1:=by unfold Hb;rfl
def Hd(er:Int)(lh hd:G)(ab ae c n:Int)(ip op:List G)(r:G):kw er lh hd ab ae c n ip op r↔(er=0/\(1<=c/\c<=200)/\(0<=ae/\ae<c)/\(gP lh ae c ip).2)/\D5 (CO lh hd ae c ip) ab n op r:=by
 rw[yA,oE,yJ,Vs,Vs,Ed];constructor
 ·rintro⟨⟨a,b,⟨c1,c2,c3⟩,⟨d1,d2,d3⟩⟩,e⟩;exact⟨⟨a,b,c1,c3⟩,d1,d2,d3,e⟩
 ·rintro⟨⟨a,b,c1,c3⟩,d1,d2,d3,e⟩;exact⟨⟨a,b,⟨c1,by omega,c3⟩,⟨d1,d2,d3⟩⟩,e⟩
def JV(er:Int)(lh:G)(ae c:Int)(ip:List G):Prop:=er=0/\(1<=c/\c<=200)/\(0<=ae/\ae<c)/\(gP lh ae c ip).2
def Cf(er:Int)(lh:G)(ae c:Int)(ip:List G):JV er lh ae c ip↔er=0/\(1<=c/\c<=200)/\(0<=ae/\ae<c)/\(gP lh ae c ip).2:=Iff.rfl
def OV:FSpec:=⟨[.ag rv],[],yL,λ_=>.tu [.ag (hs 300),.c (.b 40)],λ_=>[],λz y=>HOk (hT y 300)/\(y.p 40↔JV (zD z) (be (zE z)) (z.i 62) (z.i 64) (z.g 63))/\(y.p 40->hT y 300=CO (be (zE z)) (hT z 400) (z.i 62) (z.i 64) (z.g 63)),none⟩
abbrev Vu:=Hc
def oF(m:Int)(ra:G)(n:Int)(rb:G)(p:List G):Prop:=(m=0->p.length=0/\ra=dJ [])/\(¬m=0->uC m n p ra rb)
def OW{m:Int}{ra:G}{n:Int}{rb:G}{p:List G}(h:m=0):oF m ra n rb p↔p.length=0/\ra=dJ []:=⟨λa=>a.1 h,λa=>⟨λ_=>a,λb=>absurd h b⟩⟩
def OX{m:Int}{ra:G}{n:Int}{rb:G}{p:List G}(h:¬m=0):(oF m ra n rb p↔uC m n p ra rb)/\(oF m ra n rb p↔B_ m n p ra rb):=by
 have:oF m ra n rb p↔uC m n p ra rb:=⟨λa=>a.2 h,λa=>⟨λb=>absurd b h,λ_=>a⟩⟩
 exact⟨this,this.trans (ck_co m n p ra rb).symm⟩
def yM:FSpec:=⟨[.ag (dg 66 500),.ag (dg 67 700),.ag [.v 6 63]],[],λz=>HOk (hT z 500)/\HOk (hT z 700)/\RowsOk (z.g 63)/\(z.g 63).length<=1000000,λ_=>.one (.c (.b 40)),λ_=>[],λz y=>y.p 40↔oF (z.i 66) (hT z 500) (z.i 67) (hT z 700) (z.g 63),none⟩
abbrev OY:=yM
attribute [irreducible] JV oF
end
def S1:bn 29 OV:=bA 11 69905 (ai yn (ai (Od 1000001) (ai wt (ai oc eN)))) lN λz hA=>show Fm.den (let v4:=(hT z 400);let v5:=(hT z 100);let v1:=(gR (z.i 1) (z.s 2) (z.i 3) (z.i 4) (z.i 5) v5 (z.i 13) (z.i 14));let v2:=(dv (z.i 1) (z.s 2) (z.i 3) (z.i 4) (z.i 5) (z.i 6) (z.i 7) (z.i 8) (z.s 9) (z.g 10) (z.g 11) v5 (z.p 12) (z.i 13) (z.i 14));let v3:=(be v1);let v0:Fm:=(.ax (HOk hZ/\(false=true↔JV v2 v3 (z.i 62) (z.i 64) (z.g 63))/\(false=true->hZ=CO v3 v4 (z.i 62) (z.i 64) (z.g 63))));(.ct (ql (z.s 2) (z.i 3) (z.i 4) (z.i 5) (z.i 7) (z.s 9) (z.g 10) (z.g 11) v5 (z.i 13) (z.i 14)) (λy0=>y0.i 50=dv (z.i 1) (z.s 2) (z.i 3) (z.i 4) (z.i 5) (z.i 6) (z.i 7) (z.i 8) (z.s 9) (z.g 10) (z.g 11) v5 (z.p 12) (z.i 13) (z.i 14)/\(dv (z.i 1) (z.s 2) (z.i 3) (z.i 4) (z.i 5) (z.i 6) (z.i 7) (z.i 8) (z.s 9) (z.g 10) (z.g 11) v5 (z.p 12) (z.i 13) (z.i 14)=(0:Int)->hT y0 300=be v1)/\(¬dv (z.i 1) (z.s 2) (z.i 3) (z.i 4) (z.i 5) (z.i 6) (z.i 7) (z.i 8) (z.s 9) (z.g 10) (z.g 11) v5 (z.p 12) (z.i 13) (z.i 14)=(0:Int)->hT y0 300=hZ)) λy0=>(let v6:=(gP (hT y0 300) (z.i 62) (z.i 64) (z.g 63));(.two (y0.i 50≠0) v0 (.two (z.i 64<1) v0 (.two (200<z.i 64) v0 (.two (z.i 62<0) v0 (.two (z.i 64<=z.i 62) v0 (.ct (HOk (hT y0 300)/\(0<=z.i 62/\z.i 62<z.i 64)/\z.i 64<1000001/\z.i 64<=1099511627776/\(z.g 63).length<=1000000/\RowsOk (z.g 63)) (λy1=>HOk (hT y1 300)/\hT y1 300=v6.fst/\(y1.p 50↔v6.snd)) λy1=>(Xk (hT y1 300) (z.i 64) (nW (z.i 64)) λy2=>(CM v4 (hT y2 300) λy3=>(.ax (HOk (hT y3 300)/\(y1.p 50↔JV v2 v3 (z.i 62) (z.i 64) (z.g 63))/\(y1.p 50->hT y3 300=CO v3 v4 (z.i 62) (z.i 64) (z.g 63))))))))))))))) by
 dsimp only [OV,rv,en,hs,yL,wi,zD,zE] at hA;have:=bw 0 0 0 [] [] [];have:=bw (z.i 6) (z.i 7) (z.i 8) (z.s 9) (z.g 10) (z.g 11);have:=@dG (z.s 2) (z.i 3) (z.i 4) (z.i 5) (z.i 7) (z.s 9) (z.g 10) (z.g 11) (hT z 100) (z.i 13) (z.i 14);have:=@fy (z.i 1) (z.s 2) (z.i 3) (z.i 4) (z.i 5) (z.i 6) (z.i 7) (z.i 8) (z.s 9) (z.g 10) (z.g 11) (hT z 100) (z.p 12) (z.i 13) (z.i 14);have:=@fA (z.i 1) (z.s 2) (z.i 3) (z.i 4) (z.i 5) (z.i 6) (z.i 7) (z.i 8) (z.s 9) (z.g 10) (z.g 11) (hT z 100) (z.p 12) (z.i 13) (z.i 14);have:=@ij (z.i 1) (z.s 2) (z.i 3) (z.i 4) (z.i 5) (z.i 6) (z.i 7) (z.i 8) (z.s 9) (z.g 10) (z.g 11) (hT z 100) (z.p 12) (z.i 13) (z.i 14);have:=@jL (z.i 1) (z.s 2) (z.i 3) (z.i 4) (z.i 5) (z.i 6) (z.i 7) (z.i 8) (z.s 9) (z.g 10) (z.g 11) (hT z 100) (z.p 12) (z.i 13) (z.i 14);have:=@lg (z.i 1) (z.s 2) (z.i 3) (z.i 4) (z.i 5) (z.i 6) (z.i 7) (z.i 8) (z.s 9) (z.g 10) (z.g 11) (hT z 100) (z.p 12) (z.i 13) (z.i 14);have:=@dF (z.i 1) (z.s 2) (z.i 3) (z.i 4) (z.i 5) (z.i 6) (z.i 7) (z.i 8) (z.s 9) (z.g 10) (z.g 11) (hT z 100) (z.p 12) (z.i 13) (z.i 14);have:=@ld (z.i 1) (z.s 2) (z.i 3) (z.i 4) (z.i 5) (mZ z) (hT z 100=hZ) (z.p 12) (z.i 13) (z.i 14);have:=@il (z.i 1) (z.s 2) (z.i 3) (z.i 4) (z.i 5) (hT z 100) (z.i 13) (z.i 14);have s1:=yJ (dv (z.i 1) (z.s 2) (z.i 3) (z.i 4) (z.i 5) (z.i 6) (z.i 7) (z.i 8) (z.s 9) (z.g 10) (z.g 11) (hT z 100) (z.p 12) (z.i 13) (z.i 14)) (z.i 61) (z.i 62) (z.i 64) (z.i 66) (z.g 63) (z.g 65);have s1:=Cf (dv (z.i 1) (z.s 2) (z.i 3) (z.i 4) (z.i 5) (z.i 6) (z.i 7) (z.i 8) (z.s 9) (z.g 10) (z.g 11) (hT z 100) (z.p 12) (z.i 13) (z.i 14)) (be (gR (z.i 1) (z.s 2) (z.i 3) (z.i 4) (z.i 5) (hT z 100) (z.i 13) (z.i 14))) (z.i 62) (z.i 64) (z.g 63);have:=Eb (be (gR (z.i 1) (z.s 2) (z.i 3) (z.i 4) (z.i 5) (hT z 100) (z.i 13) (z.i 14))) (hT z 400) (z.i 62) (z.i 64) (z.g 63);have:=Ea (be (gR (z.i 1) (z.s 2) (z.i 3) (z.i 4) (z.i 5) (hT z 100) (z.i 13) (z.i 14))) (z.i 62) (z.i 64) (z.g 63);have:=Ed (be (gR (z.i 1) (z.s 2) (z.i 3) (z.i 4) (z.i 5) (hT z 100) (z.i 13) (z.i 14))) (z.i 62) (z.i 64) (z.g 63);conv=>zeta
 repeat' with_reducible first|intro _|apply bV|apply bW|apply bX|apply cy|apply cj
 all_goals first|omega|grind [ao,am,ak,aP,aQ,aR,aS,aT,aU,aV,aW,aX,az,gB,jd,bR,OO,Ec,dh]
abbrev OZ(a b:G)(c:List G):=HOk a/\HOk b/\c.length<=1000000/\RowsOk c
def XD:bn 10 Vu:=bA 3 1 (ai S1 (ai JP eN)) lN λz hA=>show Fm.den (let v0:=(dv (z.i 1) (z.s 2) (z.i 3) (z.i 4) (z.i 5) (z.i 6) (z.i 7) (z.i 8) (z.s 9) (z.g 10) (z.g 11) (hT z 100) (z.p 12) (z.i 13) (z.i 14));let v1:=(be (gR (z.i 1) (z.s 2) (z.i 3) (z.i 4) (z.i 5) (hT z 100) (z.i 13) (z.i 14)));let v2:=(hT z 400);let v3:=(hT z 500);(.ct (uE (z.s 2) (z.i 3) (z.i 4) (z.i 5) (z.i 7) (z.s 9) (z.g 10) (z.g 11) (hT z 100) (z.i 13) (z.i 14) v2 (z.g 63) (z.g 65)) (λy0=>HOk (hT y0 300)/\(y0.p 40↔JV v0 v1 (z.i 62) (z.i 64) (z.g 63))/\(y0.p 40->hT y0 300=CO v1 v2 (z.i 62) (z.i 64) (z.g 63))) λy0=>(.two (y0.p 40) (.ct (OZ (hT y0 300) v3 (z.g 65)) (λy1=>(y1.p 50↔D5 (hT y0 300) (z.i 61) (z.i 66) (z.g 65) v3)) λy1=>(.ax (y1.p 50↔kw v0 v1 v2 (z.i 61) (z.i 62) (z.i 64) (z.i 66) (z.g 63) (z.g 65) v3))) (.ax (false=true↔kw v0 v1 v2 (z.i 61) (z.i 62) (z.i 64) (z.i 66) (z.g 63) (z.g 65) v3))))) by
 dsimp only [Vu,Hc,rv,en,hs,dg,yL,wi,zD,zE] at hA;have:=Hd (dv (z.i 1) (z.s 2) (z.i 3) (z.i 4) (z.i 5) (z.i 6) (z.i 7) (z.i 8) (z.s 9) (z.g 10) (z.g 11) (hT z 100) (z.p 12) (z.i 13) (z.i 14)) (be (gR (z.i 1) (z.s 2) (z.i 3) (z.i 4) (z.i 5) (hT z 100) (z.i 13) (z.i 14))) (hT z 400) (z.i 61) (z.i 62) (z.i 64) (z.i 66) (z.g 63) (z.g 65) (hT z 500);have:=Cf (dv (z.i 1) (z.s 2) (z.i 3) (z.i 4) (z.i 5) (z.i 6) (z.i 7) (z.i 8) (z.s 9) (z.g 10) (z.g 11) (hT z 100) (z.p 12) (z.i 13) (z.i 14)) (be (gR (z.i 1) (z.s 2) (z.i 3) (z.i 4) (z.i 5) (hT z 100) (z.i 13) (z.i 14))) (z.i 62) (z.i 64) (z.g 63);conv=>zeta
 repeat' with_reducible first|intro _|apply bV|apply bW|apply bX|apply cy|apply cj
 all_goals first|omega|grind [ao,am,ak,aP,aQ,aR,aS,aT,aU,aV,aW,aX,az,Ec]
def hv19(z:Sy):=λh=>(@OX (z.i 66) (hT z 500) (z.i 67) (hT z 700) (z.g 63) h).1
def hv20(z:Sy):=λh=>(@OX (z.i 66) (hT z 500) (z.i 67) (hT z 700) (z.g 63) h).2
def S2:bn 11 yM:=bA 13 4180645 (ai qh (ai D8 eN)) lN λz hA=>show Fm.den (let v0:=((↑(z.g 63).length:Int)=0);let v1:=(hT z 500);let v2:=(hT z 700);(.two (z.i 66=0) (.two v0 (.an v0 (.an v0 (.ct (0<=1000000000) (λy0=>True) λy0=>(.an v0 (.an v0 (.ax (ky v1 (hG (eD []))↔oF (z.i 66) v1 (z.i 67) v2 (z.g 63)))))))) (.an (¬v0) (.an (¬v0) (.an (¬v0) (.an (¬v0) (.ax (false=true↔oF (z.i 66) v1 (z.i 67) v2 (z.g 63)))))))) (.ct (OZ v1 v2 (z.g 63)) (λy0=>(y0.p 50↔B_ (z.i 66) (z.i 67) (z.g 63) v1 v2)) λy0=>(.ax (y0.p 50↔oF (z.i 66) v1 (z.i 67) v2 (z.g 63)))))) by
 dsimp only [yM,dg,hs] at hA;have:=@OW (z.i 66) (hT z 500) (z.i 67) (hT z 700) (z.g 63);have:=hv19 z;have:=hv20 z;have:=qy [];have:=eG [];conv=>zeta
 repeat' with_reducible first|intro _|apply bV|apply bW|apply bX|apply cy|apply cj
 all_goals first|omega|grind [ao,am,ak,aP,aQ,aR,aS,aT,aU,aV,aW,aX,az,OU]
def S3:bn 12 OY:=bA 13 4180645 (ai vP (ai D6 eN)) lN λz hA=>show Fm.den (let v0:=((↑(z.g 63).length:Int)=0);let v1:=(hT z 500);let v2:=(hT z 700);(.two (z.i 66=0) (.two v0 (.an v0 (.an v0 (.ct (0<=1000000) (λy0=>True) λy0=>(.an v0 (.an v0 (.ax (ky v1 (hG (kZ []))↔oF (z.i 66) v1 (z.i 67) v2 (z.g 63)))))))) (.an (¬v0) (.an (¬v0) (.an (¬v0) (.an (¬v0) (.ax (false=true↔oF (z.i 66) v1 (z.i 67) v2 (z.g 63)))))))) (.ct (OZ v1 v2 (z.g 63)) (λy0=>(y0.p 50↔uC (z.i 66) (z.i 67) (z.g 63) v1 v2)) λy0=>(.ax (y0.p 50↔oF (z.i 66) v1 (z.i 67) v2 (z.g 63)))))) by
 dsimp only [OY,yM,dg,hs] at hA;have:=@OW (z.i 66) (hT z 500) (z.i 67) (hT z 700) (z.g 63);have:=hv19 z;have:=hv20 z;have:=qy [];have:=eG [];conv=>zeta
 repeat' with_reducible first|intro _|apply bV|apply bW|apply bX|apply cy|apply cj
 all_goals first|omega|grind [ao,am,ak,aP,aQ,aR,aS,aT,aU,aV,aW,aX,az,OU]
noncomputable section
def iE(n:Nat):List Nat:=if n<10 then [48+n] else [48+n/10,48+n%10]
def He{n:Nat}(h:n<10):iE n= [48+n]:=if_pos h
def Hg{n:Nat}(h:¬n<10):iE n= [48+n/10,48+n%10]:=if_neg h
def Cg(n:Nat):1<=(iE n).length/\(iE n).length<=2:=by unfold iE;split <;> simp
def cP(i:Int):List Nat:=100::(List.replicate (8-(iE i.toNat).length) 48++iE i.toNat)
def yN{i:Int}(h0:0<=i)(h:i<10):cP i= [100,48,48,48,48,48,48,48,48+i.toNat]:=by unfold cP;rw[He (by omega)];rfl
def yO{i:Int}(h0:¬i<10):cP i= [100,48,48,48,48,48,48,48+i.toNat/10,48+i.toNat%10]:=by unfold cP;rw[Hg (by omega)];rfl
def yP(i:Int):(cP i).length=9:=by have:=Cg i.toNat;unfold cP;rw[aau,aah,abx];omega
def Hh{i k:Int}(hi:0<=i)(hk:0<=k)(au8:i<100)(au9:k<100)(h:cP i=cP k):i=k:=by
 by_cases a:i<10 <;> by_cases b:k<10
 ·rw[yN hi a,yN hk b] at h;simp at h;omega
 ·rw[yN hi a,yO b] at h;simp at h;omega
 ·rw[yO a,yN hk b] at h;simp at h;omega
 ·rw[yO a,yO b] at h;simp at h;omega
def fD:List Nat:=[106,111,117,114,110,97,108]
def O0(i:Int):cP i≠fD:=λh=>by have:=congrArg List.length h;rw[yP] at this;cases this
def S4:List Nat:=[48,49,50,51,52,53,54,55,56,57,97,98,99,100,101,102,103,104,105,106,107,108,109,110,111,112,113,114,115,116,117,118,119,120,121,122]
def smS:List Nat:=(List.range 100).flatMap λi=>[48+i/10,48+i%10]
def XE{i:Int}(h0:0<=i)(h:i<10):(S4.take (i+1).toNat).drop i.toNat=iE i.toNat:=by
 have:∀k:Fin 10,(S4.take (k.1+1)).drop k.1=iE k.1:=by decide
 have:=this ⟨i.toNat,by omega⟩;rw[show(i+1).toNat=i.toNat+1 by omega];exact this
def sm_at{i:Int}(h0:10<=i)(h:i<100):(smS.take (i * 2+2).toNat).drop (i * 2).toNat=iE i.toNat:=by
 have:∀k:Fin 100,10<=k.1->(smS.take (k.1 * 2+2)).drop (k.1 * 2)=iE k.1:=by decide
 have:=this ⟨i.toNat,by omega⟩ (by show 10<=i.toNat;omega);rw[show(i * 2+2).toNat=i.toNat * 2+2 by omega,show(i * 2).toNat=i.toNat * 2 by omega];exact this
def Vv:FSpec:=⟨[.c (.i .i64 1)],[],λz=>0<=z.i 1/\z.i 1<100,λ_=>.one (.c (.s 10)),λ_=>[],λz y=>y.s 10=iE (z.i 1).toNat/\1<=(y.s 10).length/\(y.s 10).length<=2,none⟩
def SDec:FSpec:=⟨[.c (.i .u64 1)],[],λz=>0<=z.i 1/\z.i 1<100,λ_=>.one (.c (.s 10)),λ_=>[],λz y=>y.s 10=iE (z.i 1).toNat/\1<=(y.s 10).length/\(y.s 10).length<=2,none⟩
def Hi:FSpec:=⟨[.c (.i .i64 1)],[],λz=>0<=z.i 1/\z.i 1<100,λ_=>.one (.c (.s 10)),λ_=>[],λz y=>y.s 10=cP (z.i 1),none⟩
abbrev wG:=Hi
def CP(s:List Nat):List Nat:=List.replicate (8-s.length) 48++s
def S5{s:List Nat}(h:¬(s.length:Int)<8):CP s=s:=by unfold CP;rw[show 8-s.length=0 by omega];rfl
def O1{s:List Nat}(h:(s.length:Int)<8):CP ([48]++s)=CP s:=by unfold CP;rw[aah,aaL,show 8-s.length=(8-(1+s.length))+1 by omega,List.replicate_succ',aav]
def O2(i:Int):cP i= [100]++CP (iE i.toNat):=rfl
def Hj(p:Sy):LSpec:=⟨[(3,.c (.s 1))],[],λz=>(z.s 1).length<=8,λz=>8-(z.s 1).length,[⟨.exit 0,[(3,.c (.s 1))],[]⟩],λz y=>y.s 1=CP (z.s 1),none,[]⟩
def O3{n:Int}(h0:0<=n)(h:n<4294967296):IntKind.u64.wrap (Int.ofNat ((aC (aj .u64) n).land (aC (aj .u64) 4294967295)))=n:=by
 obtain⟨a,rfl⟩:∃a:Nat,n=a:=⟨n.toNat,by omega⟩
 have e:aC (aj .u64) (4294967295:Int)=2 ^ 32-1:=by decide
 have e2:(a.land (2 ^ 32-1))=a:=by show a &&& (2 ^ 32-1)=a;rw[abP];omega
 rw[D4 a (by omega),e,e2,G0 a (by omega)]
def SMul:FSpec:=⟨[.c (.pi .u64 1),.c (.i .u64 2)],[],λz=>0<=z.i 2/\z.i 2<=100,λ_=>.tu [.c (.i .u64 10),.c (.i .u64 11)],λ_=>[],λz y=>y.i 10=0/\y.i 11=z.i 2,none⟩
def O4:List Nat:=[48,48,48,48,48,48,48,48,48,48,48,48,48,48,48,48,48,48,48,48,48,48,48,48,48,48,48,48,48,48,48,48,48,48,48,48,48,48,48,48,48,48,48,48,48,48,48,48,48,48,48,48,48,48,48,48,48,48,48,48,48,48,48,48]
def zr_at{n:Int}{s:List Nat}(hs:n=8-(s.length:Int))(h:s.length<=8):O4.take n.toNat++s=CP s:=by have e:O4=List.replicate 64 48:=rfl;rw[e,List.take_replicate];unfold CP;congr 2;omega
theorem XF(n:Int):(O4.take n.toNat).length<=64:=by rw[aal];exact Nat.min_le_right _ _
theorem inB1{x:Int}(h:0<=x)(h1:x<256):Go.Sym.inB [x]:=by simp [Go.Sym.inB];omega
theorem S6(s:List Nat):(CP s).length<=8+s.length:=by unfold CP;rw[aah,abx];omega
def wrap1:IntKind.u64.wrap 1=1:=rfl
attribute [irreducible] cP iE CP O4 S4 smS
end
def o_Dec:bn 187 SDec:=bA 8 10778 eN lN λz hA=>show Fm.den (let v0:=(0<=z.i 1/10%18446744073709551616/\(0:Int)<10);let v1:=((10:Int)≠0);let v2:=((48+z.i 1%10)%18446744073709551616%256);let v3:=(48+z.i 1/10%18446744073709551616%10);let v4:=(0<=z.i 1/\(0:Int)<10);(.an v1 (.an v4 (.an (inB [(48+z.i 1%10)%18446744073709551616%256]) (.an (1<=1000000000) (.an v1 (.an v4 (.two (z.i 1/10%18446744073709551616=0) (.ax ([v2.toNat]++ []=iE (z.i 1).toNat/\1<=1/\1<=2)) (.an v1 (.an v0 (.an (inB [v3%18446744073709551616%256]) (.an (2<=1000000000) (.an v1 (.an v0 (.an (z.i 1/10%18446744073709551616/10%18446744073709551616=0) (.ax ([(v3%18446744073709551616%256).toNat]++([v2.toNat]++ [])=iE (z.i 1).toNat/\1<=2/\2<=2))))))))))))))))) by
 dsimp only [SDec] at hA;have:=@He (z.i 1).toNat;have:=@Hg (z.i 1).toNat;conv=>zeta
 repeat' with_reducible first|intro _|apply bV|apply bW|apply bX|apply cy|apply cj
 all_goals first|omega|grind [ao,am,ak,List.append_assoc,inB1]
def O5:bN 116 0 Hj:=bM 3 1 eN lN λp z hA=>show Fm.den (let v0:=([48]++z.s 1);(.two ((↑(z.s 1).length:Int)<8) (.an (Bk v0) (.ax (v0.length<=8/\8-v0.length<8-(z.s 1).length/\∀(y:Sy),y.s 1=CP v0->y.s 1=CP (z.s 1)))) (.ax (z.s 1=CP (z.s 1))))) by dsimp only [Hj] at hA;have:=@S5 (z.s 1);have:=@O1 (z.s 1);exact i_
def XG:bn 116 Hi:=bA 1 0 (ai o_Dec eN) (aF (ptm:=[]) O5 lN) λz hA=>show Fm.den ((.ct (0<=z.i 1%18446744073709551616/\z.i 1%18446744073709551616<100) (λy0=>y0.s 10=iE (z.i 1%18446744073709551616).toNat/\1<=(y0.s 10).length/\(y0.s 10).length<=2) λy0=>(.ct ((y0.s 10).length<=8) (λy1=>y1.s 1=CP (y0.s 10)) λy1=>(.an (Bk ([100]++y1.s 1)) (.ax ([100]++y1.s 1=cP (z.i 1))))))) by
 dsimp only [Hi] at hA;have:=O2 (z.i 1);repeat' with_reducible first|intro _|apply bV|apply bW|apply bX|apply cy|apply cj
 all_goals first|omega|grind [ao,am,ak,List.append_assoc,S6,List.length_append,List.length_cons,List.length_nil]
def XH:bn 164 Vv:=bA 9 43162 eN lN λz hA=>show Fm.den (let v0:=((-9223372036854775808)<=z.i 1 * 2/\z.i 1 * 2<=9223372036854775807);let v1:=(List.take (z.i 1 * 2+2).toNat smS);let v2:=(List.take (z.i 1+1).toNat S4);let v3:=(List.drop (z.i 1 * 2).toNat v1);let v4:=(List.drop (z.i 1).toNat v2);(.an (0<=z.i 1) (.an (z.i 1<100) (.two (z.i 1<10) (.an ((-9223372036854775808)<=z.i 1+1/\z.i 1+1<=9223372036854775807) (.an (0<=z.i 1/\z.i 1<=z.i 1+1/\z.i 1+1<= ↑36) (.ax (List.drop (z.i 1).toNat v2=iE (z.i 1).toNat/\1<=v4.length/\v4.length<=2)))) (.an v0 (.an v0 (.an ((-9223372036854775808)<=z.i 1 * 2+2/\z.i 1 * 2+2<=9223372036854775807) (.an (0<=z.i 1 * 2/\z.i 1 * 2<=z.i 1 * 2+2/\z.i 1 * 2+2<= ↑200) (.ax (List.drop (z.i 1 * 2).toNat v1=iE (z.i 1).toNat/\1<=v3.length/\v3.length<=2)))))))))) by dsimp only [Vv] at hA;have:=@XE (z.i 1);have:=@sm_at (z.i 1);have:=Cg (z.i 1).toNat;exact i_
def o_Mul:bn 215 SMul:=bA 1 0 eN lN λz hA=>show Fm.den (let v0:=((1/4294967296:Int) * IntKind.u64.wrap (Int.ofNat ((aC (nV) (z.i 2)).land (aC (nV) 4294967295)))%18446744073709551616+IntKind.u64.wrap 1 * IntKind.u64.wrap (Int.ofNat ((aC (nV) (z.i 2)).land (aC (nV) 4294967295)))%18446744073709551616/4294967296);(.ax ((((1/4294967296:Int) * (z.i 2/4294967296)%18446744073709551616+v0%18446744073709551616/4294967296)%18446744073709551616+(IntKind.u64.wrap (Int.ofNat ((aC (nV) (v0%18446744073709551616)).land (aC (nV) 4294967295)))+IntKind.u64.wrap 1 * (z.i 2/4294967296)%18446744073709551616)%18446744073709551616/4294967296)%18446744073709551616=0/\1 * z.i 2%18446744073709551616=z.i 2))) by dsimp only [SMul] at hA;have:=@O3 (z.i 2);have:=@O3 0 (by omega) (by omega);have:=wrap1;exact i_
def Ee:bn 92 wG:=bA 11 700414 (ai XH (ai o_Mul eN)) lN λz hA=>show Fm.den ((.ct (0<=z.i 1/\z.i 1<100) (λy0=>y0.s 10=iE (z.i 1).toNat/\1<=(y0.s 10).length/\(y0.s 10).length<=2) λy0=>(let v0:=(↑(y0.s 10).length:Int);(.an ((-9223372036854775808)<=8-v0/\8-v0<=9223372036854775807) (.an (¬(Max.max 0 (8-v0)=0)) (.an (¬(Max.max 0 (8-v0)=1)) (.an (¬(Max.max 0 (8-v0)<0)) (.cl (((1:Int)=1/\True)) (0<=Max.max 0 (8-v0)%18446744073709551616/\Max.max 0 (8-v0)%18446744073709551616<=100) (λy1=>y1.i 10=0/\y1.i 11=Max.max 0 (8-v0)%18446744073709551616) λy1=>(let v1:=(List.take (y1.i 11).toNat O4);(.an (¬(0<y1.i 10)) (.an (¬(9223372036854775807<y1.i 11)) (.an ((-9223372036854775808)<=y1.i 11/\y1.i 11<=9223372036854775807) (.an (y1.i 11<=128) (.an (y1.i 11<=128) (.an (y1.i 11<=64) (.an ((0:Int)<=0/\0<=y1.i 11/\y1.i 11<= ↑64) (.an (([100]++List.drop (ic) v1).length<=1000000000) (.an (Bk ([100]++List.drop (ic) v1++y0.s 10)) (.ax ([100]++List.drop (ic) v1++y0.s 10=cP (z.i 1))))))))))))))))))))) by
 dsimp only [wG,Hi] at hA;have:=O2 (z.i 1);have:=@zr_at;conv=>zeta
 repeat' with_reducible first|intro _|apply bV|apply bW|apply bX|apply cy|apply cj
 all_goals first|omega|grind [ao,am,ak,List.append_assoc,XF,Int.toNat_zero,List.length_append,List.length_cons,List.length_nil]
end Go.Proofs.YthgjkeemmhcpfaaGreatDoor
