/- Part 11. -/
import Derived.Test.YtknhaomckfianaaGreatDoorChecked
import Derived.WalkKit
import Derived.Maps.RangeWalk
import Derived.Maps.OwnSet
import Derived.WalkSpells
import Derived.Deep.QuietTactic
import Derived.BigQuiet
import Derived.RegionTactic
import Derived.ChangeAlike
import Derived.Deep.AppendLies
import Derived.Deep.RegionHeld
import Derived.Shelf.SlIter.Nil
import Derived.Shelf.SortM.Plain
import Derived.Shelf.SortM.SortNone
import Derived.Test.YtknhaomckfianaaGreatDoorProg
import Derived.KernelRfl
import Derived.Test.YtknhaomckfianaaGreatDoorP8
import Derived.Test.YtknhaomckfianaaGreatDoorP9
import Derived.Test.YtknhaomckfianaaGreatDoorP10
set_option linter.all false
namespace Go.Proofs.YtknhaomckfianaaGreatDoor
open Go.Sym
set_option maxRecDepth 100000
noncomputable section
abbrev TL(i:Int)(t:List Nat)(ns ks:List G):Prop:=(-9223372036854775808<=i/\i<9223372036854775808)/\t.length<=1125899906842624/\ns.length<=1125899906842624/\ks.length<=1125899906842624
def K3:Nat->G->Prop
 |0,g=>TL (gI (ah g 1)) (gS (ah g 3)) (gL (ah g 4)) (gL (ah g 5))
 |k+1,g=>TL (gI (ah g 1)) (gS (ah g 3)) (gL (ah g 4)) (gL (ah g 5))/\∀x∈gL (ah g 5),K3 k x
def Fp(k:Nat)(ks:List G):Prop:=∀x∈ks,K3 k x
def Dl(k:Nat)(i:Int)(t:List Nat)(ns ks:List G):Prop:=match k with
 |0=>TL i t ns ks
 |k+1=>TL i t ns ks/\Fp k ks
def vc(k:Nat)(g:G):Dl k (gI (ah g 1)) (gS (ah g 3)) (gL (ah g 4)) (gL (ah g 5))=K3 k g:=by cases k <;> rfl
def Nb{k:Nat}{i:Int}{t:List Nat}{ns ks:List G}(h:Dl (k+1) i t ns ks):TL i t ns ks/\Fp k ks:=h
def QW{k:Nat}{ks:List G}{i:Int}(h:Fp k ks)(h0:0<=i)(hi:i<ks.length):K3 k (aL ks i.toNat):=h _ (dK h0 hi)
def rC:Nat->G->Nat
 |0,_=>0
 |k+1,g=>1+(gS (ah g 3)).length/20+(gL (ah g 4)).length+((gL (ah g 5)).map (rC k)).sum
def yG(k:Nat)(ks:List G)(i:Int):Nat:=((ks.drop i.toNat).map (rC k)).sum
def J6{k:Nat}{ks:List G}{i:Int}(h0:0<=i)(h:i<ks.length):yG k ks i=rC k (aL ks i.toNat)+yG k ks (i+1):=by unfold yG;rw[fU h0 h];rfl
def Nc{k:Nat}{ks:List G}{i:Int}(h:(ks.length:Int)<=i):yG k ks i=0:=by unfold yG;rw[Zw (by omega)];rfl
def J7(k:Nat)(t:List Nat)(ns ks:List G):Nat:=match k with
 |0=>0
 |k+1=>1+t.length/20+ns.length+yG k ks 0
def J8(k:Nat)(g:G):J7 k (gS (ah g 3)) (gL (ah g 4)) (gL (ah g 5))=rC k g:=by cases k <;> rfl
def J9(k:Nat)(t:List Nat)(ns ks:List G):J7 (k+1) t ns ks=1+t.length/20+ns.length+yG k ks 0:=rfl
def vd{f:G->Nat}:∀{l:List G} {x:G},x∈l->f x<=(l.map f).sum
 |y::l,x,h=>by
  rw[aaw,abg];rcases List.mem_cons.1 h with rfl|h
  ·omega
  ·have:=vd (f:=f) h;omega
def Dm{f:G->Nat}:∀{l:List G},(∀x∈l,1<=f x)->l.length<=(l.map f).sum
 | [],_=>aan _
 |y::l,h=>by rw[aaw,abg,aaM];have h1:=h y aaj;have:=Dm (f:=f) (l:=l) λx hx=>h x (aag _ hx);omega
def Dn(k:Nat)(g:G):1<=rC (k+1) g:=by show 1<=1+_+_+_;omega
def J_{w f:G->Nat}{ks:List G}(h:∀x∈ks,w x+50<=93 * f x):∀(n:Nat) (i:Int),0<=i->i+n=ks.length->RZ w ks n i<=93 * ((ks.drop i.toNat).map f).sum
 |0,i,_,_=>aan _
 |n+1,i,h0,hn=>by
  have c8:i<ks.length:=by omega
  have h1:=h _ (dK h0 c8);have h2:=J_ h n (i+1) (by omega) (by omega);rw[fU h0 c8,aaw,abg];show 50+w (aL ks i.toNat)+RZ w ks n (i+1)<=_;omega
def OX(g:G):jU 0 g=0:=by with_unfolding_all rfl
def TM(k:Nat)(g:G):jU (k+1) g=24+(gS (ah g 3)).length+rb (jU k) (gL (ah g 5)) 0:=by with_unfolding_all rfl
def Ka:∀(k j:Nat) (g:G),k<=j->jU k g+50<=93 * rC (j+1) g+50/\(1<=k->jU k g+50<=93 * rC (j+1) g)
 |0,j,g,_=>⟨by rw[OX];omega,λh=>by omega⟩
 |k+1,j,g,hj=>by
  obtain⟨j,rfl⟩:∃j',j=j'+1:=⟨j-1,by omega⟩
  have key:rb (jU k) (gL (ah g 5)) 0<=93 * ((gL (ah g 5)).map (rC (j+1))).sum:=by
   unfold rb;refine J_ (λx hx=>?_) _ 0 (by omega) (by omega);have h1:=Ka k j x (by omega);by_cases hk:1<=k
   ·exact h1.2 hk
   ·have:k=0:=by omega
    subst this;have:=Dn j x;rw[OX];omega
  have e1:jU (k+1) g=24+(gS (ah g 3)).length+rb (jU k) (gL (ah g 5)) 0:=TM k g;have e2:rC (j+1+1) g=1+(gS (ah g 3)).length/20+(gL (ah g 4)).length+((gL (ah g 5)).map (rC (j+1))).sum:=rfl;have:jU (k+1) g+50<=93 * rC (j+1+1) g:=by omega
  exact⟨by omega,λ_=>this⟩
def TN(g:G):IP 0 g:=by with_unfolding_all exact True.intro
def QX{k:Nat}{g:G}(h:((-9223372036854775808<=gI (ah g 1)/\gI (ah g 1)<9223372036854775808)/\(gS (ah g 3)).length<=1000000/\(gL (ah g 4)).length<=1000000/\(gL (ah g 5)).length<=1000000)/\∀x∈gL (ah g 5),IP k x):IP (k+1) g:=by with_unfolding_all exact h
def Kb:∀(k j:Nat) (g:G),k<=j->K3 j g->rC (j+1) g<=3000->IP k g
 |0,_,_,_,_,_=>TN _
 |k+1,j,g,hj,hn,hw=>by
  obtain⟨j,rfl⟩:∃j',j=j'+1:=⟨j-1,by omega⟩
  have e2:rC (j+1+1) g=1+(gS (ah g 3)).length/20+(gL (ah g 4)).length+((gL (ah g 5)).map (rC (j+1))).sum:=rfl;have hl:=Dm (f:=rC (j+1)) (l:=gL (ah g 5)) λx _=>Dn j x;obtain⟨⟨h1,h2,h3,h4⟩,h5⟩:=hn;refine QX ⟨⟨h1,by omega,by omega,by omega⟩,λx hx=>?_⟩;have:=vd (f:=rC (j+1)) hx;exact Kb k j x (by omega) (h5 x hx) (by omega)
attribute [irreducible] Fp yG J7 Dl
end
noncomputable section
def Vq(i:Int)(e:G):Prop:=Jk e/\TH e=e/\(gI (ah e 0)=1∨gI (ah e 0)=2)/\(gI (ah e 0)=2↔1<=i)/\¬gI (ah e 12)=1/\gI (ah e 13)=0/\gI (ah e 14)=0
def dY(es:List G):Prop:=∀i:Int,0<=i->i<es.length->Vq i (aL es i.toNat)
def Kc{es:List G}{i:Int}(h:dY es)(h0:0<=i)(hi:i<es.length):(gI (ah (aL es i.toNat) 0)=1∨gI (ah (aL es i.toNat) 0)=2)/\(gI (ah (aL es i.toNat) 0)=2↔1<=i)/\¬gI (ah (aL es i.toNat) 12)=1/\gI (ah (aL es i.toNat) 13)=0/\gI (ah (aL es i.toNat) 14)=0:=(h i h0 hi).2.2
def Kd{es:List G}{e:G}{i:Int}(hi:i=es.length):aL (es++ [e]) i.toNat=e:=by subst hi;unfold aL;rw[aai,aaA,aaG (aab _),abn];rfl
def QY{es:List G}(h:dY es):re es:=by
 unfold re
 intro e he
 obtain⟨i,hi,e2⟩:=abM he
 have:=(h (i:Int) (by omega) (by omega)).1
 have e3:aL es (i:Int).toNat=e:=by unfold aL;rw[aaA,aai,aah hi, ←e2];rfl
 rwa [e3] at this
def TO{es:List G}(h:dY es):OW es:=by
 intro e he
 obtain⟨i,hi,e2⟩:=abM he
 have:=(h (i:Int) (by omega) (by omega)).2.1
 have e3:aL es (i:Int).toNat=e:=by unfold aL;rw[aaA,aai,aah hi, ←e2];rfl
 rwa [e3] at this
def Do{es:List G}(h:es.length<=200):∀(n:Nat) (i:Int),0<=i->i+n=es.length->(kX es i).length<=(nH True es i).length+10 * n
 |0,i,h0,hn=>by rw[De (by omega)];exact aan _
 |n+1,i,h0,hn=>by
  have hi:i<es.length:=by omega
  rw[yF h0 hi,qF h0 hi,aal,aal];have a:=@JU i.toNat (aL es i.toNat) (by omega);have b:=Do h n (i+1) (by omega) (by omega);omega
def QZ(e:G):(CS False e).length<=(CS True e).length:=by
 unfold CS;rw[aal,aal];by_cases h:gI (ah e 0)=2
 ·rw[if_pos h,if_pos h,if_pos (.inr id)];by_cases h1:gI (ah e 12)=1∨¬True
  ·rw[if_pos h1];exact aab _
  ·rw[if_neg h1,aaM];simp
 ·rw[if_neg h,if_neg h];exact aab _
def Q0(es:List G):(nH False es 0).length<=(nH True es 0).length:=by
 unfold nH
 show((es.drop 0).flatMap _).length<=((es.drop 0).flatMap _).length
 rw[aaT]
 induction es with
 |nil=>exact aab _
 |cons e es ih=>rw[abL,abL,aal,aal];have:=QZ e;omega
attribute [irreducible] dY
end
noncomputable section
def Vr:G:=.node [.int 1,.str [115],.int 0,.int 0,.int 0,.int 0,.int 0,.int 0,.str [],.node [],.node [],hZ,.int 0,.int 0,.int 0]
def UN(v:G):G:=vF (gI (ah v 0)) (gI (ah v 1)) (gI (ah v 2)) (gS (ah v 3)) (gL (ah v 4)) (gL (ah v 5))
def K4(k:Int)(v:G):G:=.node [.int 2,.str [],.int 1,.int (1+k),.int 0,.int (gI (ah v 0)),.int (gI (ah v 1)),.int (gI (ah v 2)),.str (gS (ah v 3)),.node (gL (ah v 4)),.node (gL (ah v 5)),UN v,.int 0,.int 0,.int 0]
def Nd:List G->Int->List G
 | [],_=>[]
 |v::vs,k=>K4 k v::Nd vs (k+1)
def R3(l:List G)(i:Int):List G:=Nd (l.drop i.toNat) i
def Ke(l:List G):List G:=Vr::R3 l 0
def OY(l:List G):Prop:=∀g∈l,R2 16 g=g
def Dp:∀(l:List G) (i:Int),(Nd l i).length=l.length
 | [],_=>rfl
 |_::l,i=>by rw[Nd,aaM,Dp,aaM]
def Nf(l:List G):(Ke l).length=l.length+1:=by unfold Ke R3;rw[aaM,Dp];rfl
def Kf:∀(l:List G) (k:Int) (n:Nat),n<l.length->aL (Nd l k) n=K4 (k+n) (aL l n)
 | [],k,n,h=>by simp at h
 |v::vs,k,0,h=>by show K4 k v=K4 (k+(0:Nat)) v;congr 1;omega
 |v::vs,k,n+1,h=>by have:=Kf vs (k+1) n (by simpa using h);show aL (Nd vs (k+1)) n=K4 _ (aL vs n);rw[this];congr 1;omega
def Ng:qw 16 0 [] [] []:=by with_unfolding_all exact⟨⟨⟨by decide,by decide⟩,by decide,by decide,by decide⟩,λ_ h=>absurd h aaS⟩
def Nh:sW 16 [] []<=10000000:=by
 have:sW 16 [] []=24:=by with_unfolding_all rfl
 omega
def Ni(kd i sc:Int)(t:List Nat)(ns ks:List G):cD (vF kd i sc t ns ks):=by
 unfold vF;split
 ·exact lZ _
 ·exact ql
def TP:pI ((0:Int)=1)=0:=if_neg (by decide)
def Kg{tx:List Nat}{tb dc vr vi:Int}{vt:List Nat}{vn vx:List G}{h:G}{ab ae:Int}(h0:tx.length<=1000000/\(-9223372036854775808<=tb/\tb<9223372036854775808)/\(-9223372036854775808<=dc/\dc<9223372036854775808)/\(-9223372036854775808<=vr/\vr<9223372036854775808)/\
 (-9223372036854775808<=ab/\ab<9223372036854775808)/\(-9223372036854775808<=ae/\ae<9223372036854775808)/\qw 16 vi vt vn vx/\sW 16 vt vx<=10000000/\cD h):FY tx tb dc vr vi vt vn vx h ab ae:=by unfold FY;exact h0
def TQ:Vq 0 Vr:=by
 refine⟨?_, ?_,.inl rfl,⟨λh=>?_,λh=>?_⟩,by decide,rfl,rfl⟩
 ·refine Kg ⟨by decide,⟨by decide,by decide⟩,⟨by decide,by decide⟩,⟨by decide,by decide⟩,⟨by decide,by decide⟩,⟨by decide,by decide⟩,Ng,Nh, ?_⟩;show cD (hX hZ);rw[lY ql];exact ql
 ·show G.node [.int 1,.str [115],.int 0,.int 0,.int 0,.int 0,.int 0,.int 0,.str [],.node [],.node (A0 16 []),hX hZ,.int (pI ((0:Int)=1)),.int 0,.int 0]=_;rw[lY ql,TP];rfl
 ·exact absurd (show(1:Int)=2 from h) (by decide)
 ·omega
def Dq(p:Sy):LSpec:=⟨[(68,.c (.pv 7 (p.g 24))),(69,.c (.pi .i64 (p.g 24).length)),(70,.c (.i .i64 9))],[],λz=>dY (p.g 24)/\(0<=z.i 9/\z.i 9<=(p.g 24).length)/\(p.g 24).length<=1000000,λz=>((p.g 24).length-z.i 9).toNat,[⟨.exit 1,[],[]⟩],λz y=>True,[],[]⟩
def Dr(p:Sy):LSpec:=⟨[(30,.c (.pv 7 (p.g 24))),(31,.c (.pi .i64 (p.g 24).length)),(32,.c (.i .i64 9))],[],λz=>dY (p.g 24)/\(0<=z.i 9/\z.i 9<=(p.g 24).length)/\(p.g 24).length<=1000000,λz=>((p.g 24).length-z.i 9).toNat,[⟨.exit 0,[],[]⟩],λz y=>True,[],[0,3,6]⟩
attribute [irreducible] Ke R3 K4
end
set_option maxHeartbeats 4000000
abbrev Nj(a:List G)(b:Prop):=dY a/\b/\a.length<=1000000
def Kh:cH 23 1 Dq:=cG 12 150037 eN lN λp z hA=>show Fm.den (let v1:=(bx (p.g 24) (z.i 9));let v2:=(↑(p.g 24).length:Int);let v0:Fm:=(.an ((-9223372036854775808)<=z.i 9+1/\z.i 9+1<=9223372036854775807) (.an (v2=v2/\p.g 24=p.g 24/\True) (.at ((Nj (p.g 24) (jV (z.i 9) (p.g 24)))/\(v2-(z.i 9+1)).toNat<(v2-z.i 9).toNat/\∀(y:Sy),True->True))));(.two (z.i 9 < ↑(p.g 24).length) (.an (gf (z.i 9) (p.g 24)) (.two (gI (ah v1 0)=2) (.two (gI (ah v1 12)=1) .ff (.an (gI (ah v1 0)≠4) v0)) (.two (gI (ah v1 0)≠4) v0 .ff))) (.ax (True)))) by dsimp only [Dq] at hA;have:=@Kc (p.g 24) (z.i 9);exact nO
def Ki:cH 9 0 Dr:=cG 6 133 eN lN λp z hA=>show Fm.den (let v0:=(↑(p.g 24).length:Int);(.two (z.i 9 < ↑(p.g 24).length) (.an (gf (z.i 9) (p.g 24)) (.two (gI (cw (bx (p.g 24) (z.i 9)))=4) .ff (.an ((-9223372036854775808)<=z.i 9+1/\z.i 9+1<=9223372036854775807) (.an (v0=v0/\p.g 24=p.g 24/\True) (.at ((Nj (p.g 24) (jV (z.i 9) (p.g 24)))/\(v0-(z.i 9+1)).toNat<(v0-z.i 9).toNat/\∀(y:Sy),True->True)))))) (.ax (True)))) by dsimp only [Dr] at hA;have:=@Kc (p.g 24) (z.i 9);exact nO
noncomputable section
end
noncomputable section
def B8(l:List Nat):Prop:=∀x∈l,x<256
def B8.cons{x:Nat}{l:List Nat}(h:x<256)(hl:B8 l):B8 (x::l):=λy hy=>by
 rcases List.mem_cons.1 hy with rfl|hy
 ·exact h
 ·exact hl y hy
def B8.app{a b:List Nat}(h:B8 a)(hb:B8 b):B8 (a++b):=λy hy=>by
 rcases List.mem_append.1 hy with hy|hy
 ·exact h y hy
 ·exact hb y hy
def yH{l:List G}{h:G}(hl:RowsOk l)(hh:cD h):RowsOk (l++ [.node [h]]):=λr hr=>by
 rcases List.mem_append.1 hr with hr|hr
 ·exact hl r hr
 ·rw[List.mem_singleton.1 hr];show cD (hX h);rw[lY hh];exact hh
def Kj:RowsOk []:=λ_ h=>absurd h aaS
attribute [irreducible] B8
end
noncomputable section
def kv:List G:=[.node [.int 3,.int 5,.int 0,.str [],.node [],.node []]]
attribute [irreducible] kv
end
noncomputable section
end
noncomputable section
end
open Go.RowKit Go.Maps
def dH(v:Value):Option (DataW Unit×List MemPlace):=match v with | .pointer (some ⟨b,0,none⟩)=>some (.lit (.int .i64 b),[])|_=>none
def qO{v:Value}{y:DataW Unit×List MemPlace}(h:dH v=some y):∃b:Nat,v= .pointer (some ⟨b,0,none⟩)/\y=(.lit (.int .i64 b),[]):=by
 unfold dH at h;split at h
 ·injection h with h;exact⟨_,rfl,h.symm⟩
 ·cases h
def Q1{key:Value}{kl:Lit}(h:keyOf Tryz.prog 9 key=some kl):∃s,key= .string s:=by cases key <;> simp [keyOf,Tryz.underlying9,mapKey] at h;exact⟨_,rfl⟩
def Ds(w:World)(x:DataW Unit):Nat:=match x with
 | .lit (.int .i64 b)=>(match w.cell? ⟨b.toNat,0,none⟩ with|some (.slice _ l _)=>l|_=>0)
 |_=>0
def bL(f:DataW Unit->Nat)(l:List (Lit×DataW Unit)):Nat:=(l.map λp=>f p.2).sum
def Kk(f:DataW Unit->Nat)(es:List (Lit×DataW Unit))(left:Lit->Bool):Nat:=bL f (es.filter λp=>!left p.1)
def Kl{f:DataW Unit->Nat}{left:Lit->Bool}{kl:Lit}{x:DataW Unit}(hs:∀z:Lit,z.sameKey kl=true↔z=kl)(hl:left kl=true):∀{es:List (Lit×DataW Unit)},es.Pairwise (λp q=>p.1≠q.1)->(kl,x)∈es->
 Kk f es (λz=>left z && !z.sameKey kl)=Kk f es left+f x:=by
 intro es
 induction es with
 |nil=>intro _ h;cases h
 |cons p es ih=>
  intro hp hm
  obtain⟨h1,h2⟩:=List.pairwise_cons.1 hp
  unfold Kk at ih⊢
  by_cases e:p.1=kl
  ·have hx:p=(kl,x):=by
    rcases List.mem_cons.1 hm with h|h
    ·exact h.symm
    ·exact absurd e (h1 _ h)
   subst hx;have hr:es.filter (λp=>!(left p.1 && !p.1.sameKey kl))=es.filter (λp=>!left p.1):=List.filter_congr λq hq=>by
    have:q.1.sameKey kl=false:=by
     cases hk:q.1.sameKey kl with
     |false=>rfl
     |true=>exact absurd ((hs _).1 hk).symm (h1 _ hq)
    rw[this];simp
   have hk:kl.sameKey kl=true:=(hs _).2 rfl;rw[abA (by simp [hk]),abh (by simp [hl]),hr];simp [bL];omega
  ·have hm:(kl,x)∈es:=by
    rcases List.mem_cons.1 hm with h|h
    ·subst h;exact absurd rfl e
    ·exact h
   have:=ih h2 hm
   have hk:p.1.sameKey kl=false:=by
    cases hk:p.1.sameKey kl with
    |false=>rfl
    |true=>exact absurd ((hs _).1 hk) e
   cases hlp:left p.1 with
   |true=>rw[abh (by simp [hlp,hk]),abh (by simp [hlp]),this]
   |false=>rw[abA (by simp [hlp]),abA (by simp [hlp])];simp only [bL,aaw,abg] at this⊢;omega
def A1(f:DataW Unit->Nat)(left:Lit->Bool):∀es:List (Lit×DataW Unit),Kk f es left<=bL f es
 | []=>aab _
 |p::es=>by
  have:=A1 f left es
  unfold Kk at this⊢
  cases h:left p.1 with
  |true=>rw[abh (by simp [h])];simp only [bL,aaw,abg] at this⊢;omega
  |false=>rw[abA (by simp [h])];simp only [bL,aaw,abg] at this⊢;omega
def Nk{f:DataW Unit->Nat}{left:Lit->Bool}(h:∀k,left k=false)(es:List (Lit×DataW Unit)):Kk f es left=bL f es:=by unfold Kk;rw[List.filter_eq_self.2 (λp _=>by rw[h];rfl)]
def Fq{f:DataW Unit->Nat}{es:List (Lit×DataW Unit)}(hk:∀p∈es,WideAt.IsKeyLit p.1):Kk f es (Maps.has (.map es))=0:=by unfold Kk;rw[List.filter_eq_nil_iff.2 (λp hp=>by have:Maps.has (DataW.map es) p.1=true:=List.any_eq_true.2 ⟨p,hp,WideAt.sameKey_self (hk p hp)⟩;rw[this];simp)];rfl
def OZ{es:List (Lit×DataW Unit)}{kl:Lit}{y:DataW Unit}(h:∀zd,(DataW.map es).atKey kl zd=y):(kl,y)∈es:=by
 cases hf:es.find? (λp=>p.1.sameKey kl) with
 |none=>have a:=h (.lit (.int .i64 0));have b:=h (.lit (.int .i64 1));simp only [DataW.atKey,hf] at a b;rw[←b] at a;cases a
 |some p=>have h1:=List.mem_of_find?_eq_some hf;have h2:p.1.sameKey kl=true:=List.find?_some (p:=λp:Lit×DataW Unit=>p.1.sameKey kl) hf;have h2:=WideAt.sameKey_eq h2;have h3:=h y;simp only [DataW.atKey,hf] at h3;rw[←h2, ←h3];exact h1
def Dt{kl:Lit}(hk:WideAt.IsKeyLit kl):∀z:Lit,z.sameKey kl=true↔z=kl:=λz=>⟨λh=>WideAt.sameKey_eq h,λh=>by subst h;exact WideAt.sameKey_self hk⟩
def TR(x:Int)(n:Nat)(h:n<4294967296):IntKind.wrap .u32 (bits BinOp.or IntKind.u64 (IntKind.u64.wrap (x * 4294967296)) (n:Int))=n:=by
 have e:∀k:Nat,((k:Int)%4294967296)=((k%4294967296:Nat):Int):=λk=>by omega
 rw[IntKind.wrap_u32];unfold bits;show(IntKind.u64.wrap ((BitVec.ofInt 64 _ ||| BitVec.ofInt 64 _).toNat:Int))%4294967296=_;rw[IntKind.wrap_u64,IntKind.wrap_u64,BitVec.toNat_or,BitVec.toNat_ofInt,BitVec.toNat_ofInt];have e1:((x * 4294967296%18446744073709551616)%((2 ^ 64:Nat):Int)).toNat%4294967296=0:=by omega
 have e2:((n:Int)%((2 ^ 64:Nat):Int)).toNat%4294967296=n:=by omega
 have e3:∀a b:Nat,(((a ||| b:Nat):Int)%18446744073709551616)%4294967296=(((a%4294967296) ||| (b%4294967296):Nat):Int):=λa b=>by
  have:(a ||| b)%2 ^ 32=(a%2 ^ 32) ||| (b%2 ^ 32):=Nat.or_mod_two_pow;have h2:(((a ||| b:Nat):Int)%18446744073709551616)%4294967296=(((a ||| b)%4294967296:Nat):Int):=by omega
  rw[h2];exact congrArg _ this
 rw[e3,e1,e2,Nat.zero_or]
def Nl(f:Nat)(a:Option Addr)(len cap:Nat)(lt:Int)(w:World)(c0:w.cell? ⟨f,0,none⟩=some (.slice a len cap))(c1:w.cell? ⟨f,1,none⟩=some (.int .u32 lt))(hn:len<4294967296):
 Calls Tryz.prog 31 #[.pointer (some ⟨f,0,none⟩)] w λe w'=>(∃x,e= .returned (.int .u64 x)/\IntKind.wrap .u32 x=len)/\∃n,w'=w.drewN n:=by
 go_enter Tryz.func31,Tryz.ntmps31
 go_wp2_with fail
 go_quiet (fail)
 go_wp2
 go_ret
 refine⟨⟨_,rfl, ?_⟩,_,rfl⟩
 rw[TR _ _ hn]
def aH{w w':World}(h:w.grownBy w' none){p:Addr}{v:Value}(hc:w.cell? p=some v):w'.cell? p=some v:=h.cell hc (by simp)
structure PkF(w:World)(f n:Nat):Prop where
 c0:∃a cap,w.cell? ⟨f,0,none⟩=some (.slice a n cap)
 c1:∃lt,w.cell? ⟨f,1,none⟩=some (.int .u32 lt)
 hn:n<4294967296
def PkF.grown{w w':World}{f n:Nat}(h:PkF w f n)(hg:w.grownBy w' none):PkF w' f n:=
 ⟨by obtain⟨a,c,e⟩:=h.c0;exact⟨a,c,aH hg e⟩,by obtain⟨a,e⟩:=h.c1;exact⟨a,aH hg e⟩,h.hn⟩
def jq:Keyed Tryz.prog 9:=string_keyed Tryz.underlying9
set_option maxRecDepth 100000 in
theorem ve(d m n:Nat)(es:List (Lit×DataW Unit))(f:DataW Unit->Nat)(w:World)(c1:w.cell? ⟨d,1,none⟩=some (.map (some m)))
 (d6:w.ownsMap Tryz.prog 9 dH m n (.map es)) (WJ:∀p∈es,∀b:Nat,p.2= .lit (.int .i64 b)->PkF w b (f p.2)) (I':bL f es<=1073741824):
 Calls Tryz.prog 13 #[.pointer (some ⟨d,0,none⟩)] w λe w'=>e= .returned (.int .i64 (bL f es:Nat))/\w.grownBy w' none:=by
 obtain⟨o4,he,YP,hkl⟩:=d6.entries jq
 injection he with he;subst he
 have aj3:∀p∈es,WideAt.IsKeyLit p.1:=hkl
 go_enter Tryz.func13,Tryz.ntmps13
 go_wp2_with (first
  |(at_range;refine wpList_range_own _ rfl _ 69 rfl 9 70 jq Tryz.underlying69 _ m n _ rfl d6 ?_;intro w0 aj4 Z7 WZ)
  |go_in)
 go_frame
 go_loopw [3] (λt wr=>∃(left:Lit->Bool) (cnt:Nat),wr.ranges Tryz.prog 9 dH m w.heap.size n (.map es) left cnt/\w.grownBy wr none/\t= .int .u64 (Kk f es left:Nat))
  (λ_ wr=>wr.rangeLeft m w.heap.size)
 case atStart=>exact⟨_,_,aj4,Z7,by rw[Fq hkl];rfl⟩
 case round=>
  obtain⟨left,cnt,hrg,T',rfl⟩:=hrel
  have hle:=A1 f left es
  go_wp2_with (first
   |(at_next;refine wpList_next_ranges _ rfl _ rfl 9 jq dH Value.string (λb:Nat=>Value.pointer (some ⟨b,0,none⟩)) (λkey kl hk=>Q1 hk) (λv y hv=>by obtain⟨b,hb,_⟩:=qO hv;exact⟨b,hb⟩) m w.heap.size n _ _ _ rfl hrg ?_ ?_)
   |go_in)
  ·intro _ Y0
   go_wp2
   go_ret
   exact⟨by rw[Nk Y0];rfl,T'⟩
  ·intro x c kl y ps w1 aj5 YH hlk hv j5 ag3 c8 hg1 o9 Y6
   obtain⟨b,hb,hy⟩:=qO hv
   injection hb with hb;injection hb with hb;injection hb with hb
   subst hb;injection hy with hy _;subst hy
   have C':=OZ j5
   have Ze:=Kl (f:=f) (Dt (hkl _ C')) hlk YP C'
   have YI:w.grownBy w1 none:=T'.andThen hg1 (λj hj=>by cases hj;exact Or.inl (aab _))
   obtain⟨⟨a,cp,e0⟩,⟨lt,e1⟩,hn⟩:=(WJ _ C' c rfl).grown YI
   have o8:=A1 f (λz=>left z && !z.sameKey kl) es
   have hlen:=ag3.left_eq
   have r9:=hrg.left_eq
   clear j5 WJ d6 hv hkl aj3 YP
   generalize Kk f es left=T at Ze hle⊢
   generalize f (DataW.lit (Lit.int IntKind.i64 ↑c))=N at Ze e0 hn
   go_wp2_with (first
    |(go_at_call 31;refine(Nl _ _ _ _ _ _ e0 e1 hn).mono ?_;rintro e w2 ⟨⟨x,rfl,hx⟩,nd,rfl⟩)
    |go_in)
   refine⟨⟨λz=>left z && !z.sameKey kl,aj5,ag3,⟨YI.os,YI.tape,YI.output,YI.size,YI.block⟩,by rw[Ze];simp⟩, ?_⟩
   rw[r9]
   show w1.rangeLeft m w.heap.size<cnt
   rw[hlen];exact c8
def Nm(w:World):(zeroValue 70).run Tryz.prog w= .ok (.pointer none) w:=by kernel_rfl
def vf{m n:Nat}{es:List (Lit×DataW Unit)}{w:World}(d6:w.ownsMap Tryz.prog 9 dH m n (.map es))(s:ByteArray)(hs:s.size<=maxLen):
 (∃b:Nat,(Lit.string s.data.toList,DataW.lit (.int .i64 b))∈es/\(Instr.lookup 69 (.map (some m)) (.string s) false).run Tryz.prog w= .ok (.pointer (some ⟨b,0,none⟩)) w)∨
 ((∀p∈es,p.1≠ .string s.data.toList)/\(Instr.lookup 69 (.map (some m)) (.string s) false).run Tryz.prog w= .ok (.pointer none) w):=by
 have YH:keyOf Tryz.prog 9 (.string s)=some (.string s.data.toList):=WideMaps.keyOf_string_mk Tryz.underlying9 hs
 obtain⟨es0,clock,hb,F,_,he⟩:=d6
 injection he with he
 rcases Maps.fit_look false jq Tryz.underlying69 (Nm w) hb F YH with⟨b7,_,j5⟩|⟨e0,y,_,_,b7,hRv,j5,_⟩
 ·rw[←he] at j5
  refine .inr ⟨λp hp e=>?_,b7⟩
  cases hf:es.find? (λp=>p.1.sameKey (.string s.data.toList)) with
  |none=>have:=List.find?_eq_none.1 hf p hp;rw[e] at this;exact this (WideAt.sameKey_self (a:=.string s.data.toList) trivial)
  |some q=>have a:=j5 (.lit (.int .i64 0));have b:=j5 (.lit (.int .i64 1));simp only [DataW.atKey,hf] at a b;rw[a] at b;cases b
 ·obtain⟨b,hv,hy⟩:=qO hRv;rw[←he] at j5;subst hy;refine .inl ⟨b,OZ j5, ?_⟩;rw[b7,hv];rfl
def Nn(d m n:Nat)(es:List (Lit×DataW Unit))(s:ByteArray)(w:World)(c1:w.cell? ⟨d,1,none⟩=some (.map (some m)))(d6:w.ownsMap Tryz.prog 9 dH m n (.map es))(hs:s.size<=maxLen)(j6:∀p∈es,p.1≠ .string s.data.toList):
 Calls Tryz.prog 81 #[.pointer (some ⟨d,0,none⟩),.string s] w λe w'=>e= .returned (.tuple #[.slice none 0 0,.int .i64 7])/\w'=w:=by
 rcases vf d6 s hs with⟨b,hm,_⟩|⟨_,b7⟩
 ·exact absurd rfl (j6 _ hm)
 clear j6 d6 hs
 go_enter Tryz.func81,Tryz.ntmps81
 go_wp2
 go_ret2
 exact⟨rfl,rfl⟩
def mn(d:Nat)(w:World)(c2:w.cell? ⟨d,2,none⟩=some (.bool false)):
 Calls Tryz.prog 123 #[.pointer (some ⟨d,0,none⟩)] w λe w'=>e= .returned (.int .i64 0)/\w'=w:=by
 go_enter Tryz.func123,Tryz.ntmps123
 go_wp2
 go_ret
 exact⟨rfl,rfl⟩
def qP(d b:Nat)(s:ByteArray)(w:World)(c2:w.cell? ⟨d,2,none⟩=some (.bool false))(h1:1<=s.size)(h2:s.size<=64)(cs:w.cell? ⟨b,0,none⟩=some (.string s)):
 Calls Tryz.prog 122 #[.pointer (some ⟨d,0,none⟩),.slice (some ⟨b,0,none⟩) 1 1] w λe w'=>e= .returned (.int .i64 0)/\w'=w:=by
 go_enter Tryz.func122,Tryz.ntmps122
 go_wp2
 refine wp_loop_rounds 2 ?_
 rw[rounds_succ]
 go_wp2
 rw[rounds_succ]
 go_wp2
 go_ret
 exact⟨rfl,rfl⟩
set_option maxRecDepth 100000 in
theorem No(d m n b N:Nat)(s:ByteArray)(w:World)(c1:w.cell? ⟨d,1,none⟩=some (.map (some m)))(c2:w.cell? ⟨d,2,none⟩=some (.bool false))(h1:1<=s.size)(h2:s.size<=64)
 (b7:∀W:World,W.heap[m]? =w.heap[m]? ->(Instr.lookup 69 (.map (some m)) (.string s) false).run Tryz.prog W= .ok (.pointer (some ⟨b,0,none⟩)) W)
 (hm:m<w.heap.size) (hF:PkF w b N) (f1:w.frozen? ⟨b,1,none⟩=false):
 Calls Tryz.prog 66 #[.pointer (some ⟨d,0,none⟩),.string s] w λe w'=>e= .returned (.int .i64 0)/\w'=(w.alloc (.cells #[.string s] 9)).setCell ⟨b,1,none⟩ (.int .u32 N):=by
 have Xa:=b7 (w.alloc (.cells #[.string s] 9)) (heap_alloc_old w _ hm)
 obtain⟨⟨a,cp,e0⟩,⟨lt,e1⟩,hn⟩:=hF
 have hx:=e1
 have hc:((w.alloc (.cells #[.string s] 9)).setCell ⟨b,1,none⟩ (.int .u32 N)).cell? ⟨d,2,none⟩=some (.bool false):=by rw[World.cell?_setCell_other _ _ _ _ (by simp)];exact aH (World.grownBy_alloc w _ none) c2
 have hg:=World.grownBy_alloc w (.cells #[.string s] 9) none
 have cs:(w.alloc (.cells #[.string s] 9)).cell? ⟨w.heap.size,0,none⟩=some (.string s):=by simp
 replace c1:=aH hg c1
 have YJ:=aH hg c2
 replace e0:=aH hg e0
 replace e1:=aH hg e1
 have f1':(w.alloc (.cells #[.string s] 9)).frozen? ⟨b,1,none⟩=false:=by rw[←f1];exact World.frozen?_of_block (heap_alloc_old w _ (World.block_lt_of_cell? _ _ hx))
 clear b7 hm hg f1
 go_enter Tryz.func66,Tryz.ntmps66
 go_wp2_with (first
  |(go_at_call 122;refine(qP _ _ _ _ YJ h1 h2 cs).mono ?_;rintro e w2 ⟨rfl,rfl⟩)
  |(go_at_call 123;refine(mn _ _ hc).mono ?_;rintro e w2 ⟨rfl,rfl⟩)
  |go_in)
 go_ret
 exact⟨rfl,rfl⟩
def qQ:(Tryz.prog.info? 5).map (λi=>(i.zero,i.size,i.bytes))=some (some (.int .u8 0),1,1):=by kernel_rfl
def yI{d m n:Nat}{room:Int}{es:List (Lit×DataW Unit)}{f:DataW Unit->Nat}{W w:World}(d6:W.ownsMap Tryz.prog 9 dH m n (.map es))(WJ:∀p∈es,∀b:Nat,p.2= .lit (.int .i64 b)->PkF W b (f p.2))(I':bL f es<=1073741824)(hS:w.cell? ⟨d,0,none⟩=some (.int .i64 room)/\w.cell? ⟨d,1,none⟩=some (.map (some m))/\W.grownBy w none):
 Calls Tryz.prog 13 #[.pointer (some ⟨d,0,none⟩)] w λe w'=>e= .returned (.int .i64 (bL f es:Nat))/\(w'.cell? ⟨d,0,none⟩=some (.int .i64 room)/\w'.cell? ⟨d,1,none⟩=some (.map (some m))/\W.grownBy w' none):=
 (ve d m n es f w hS.2.1 (d6.kept hS.2.2 (by simp)) (λp hp b hb=>(WJ p hp b hb).grown hS.2.2) I').mono λe w' h=>⟨h.1,aH h.2 hS.1,aH h.2 hS.2.1,hS.2.2.trans h.2⟩
set_option maxRecDepth 100000 in
set_option maxHeartbeats 4000000 in
def nJ{P:Program}{ops:Array Oper}{Q:Exit->Act->World->Prop}{md:Region.Mode}{S:World->Prop}{oi:Oper}{v:Value}{fuel:Nat}{listed:Array Bool}{a:Act}{w:World}(i:Nat)(hS:S w)(h:wpAnyH P md ops Q S fuel (listed.setIfInBounds i true) (a.put oi.dst v) w)(hi:ops[i]? =some oi:=by simp only [Zu,abD,abI];rfl)(hs:Region.noSelect ops=true:=by kernel_rfl)(hf:Region.free md ops listed i=true:=by kernel_rfl)(hr:(Region.ready md ops listed).contains i=true:=by kernel_rfl)(hQ:∀c a w,Q (.panic c) (a.put oi.dst v) w->Q (.panic c) a w:=by intro _ _ _ h;exact h)(h1:Region.wanted oi (yielded ops a.tmps)=true:=by rfl)(h2:∀W,S W->(execOp a.eval oi).run P W= .ok (.value v) W:=by(intro W hW;(try dsimp only at hW);obtain⟨hW0,hW1,hW2⟩:=hW;go_simp;try with_reducible rfl)):wpAnyH P md ops Q S (fuel+1) listed a w:=wpAnyH_take hi hs hf hr hQ (.inl ⟨h1,h2⟩) hS h
def zg{P:Program}{ops:Array Oper}{Q:Exit->Act->World->Prop}{md:Region.Mode}{S:World->Prop}{oi:Oper}{fuel:Nat}{listed:Array Bool}{a:Act}{w:World}(i:Nat)(hS:S w)(h:wpAnyH P md ops Q S fuel (listed.setIfInBounds i true) (a.put oi.dst undef) w)(hi:ops[i]? =some oi:=by simp only [Zu,abD,abI];rfl)(hs:Region.noSelect ops=true:=by kernel_rfl)(hf:Region.free md ops listed i=true:=by kernel_rfl)(hr:(Region.ready md ops listed).contains i=true:=by kernel_rfl)(hQ:∀c a w,Q (.panic c) (a.put oi.dst undef) w->Q (.panic c) a w:=by intro _ _ _ h;exact h)(h1:Region.wanted oi (yielded ops a.tmps)=false:=by rfl):wpAnyH P md ops Q S (fuel+1) listed a w:=wpAnyH_take hi hs hf hr hQ (.inr ⟨h1,rfl⟩) hS h
def rD(d m n b N M sc:Nat)(room:Int)(es:List (Lit×DataW Unit))(f:DataW Unit->Nat)(s:ByteArray)(v:Value)(xs news:List Value)(ad:Addr)(w:World)(c0:w.cell? ⟨d,0,none⟩=some (.int .i64 room))(c1:w.cell? ⟨d,1,none⟩=some (.map (some m)))(c2:w.cell? ⟨d,2,none⟩=some (.bool false))(h1:1<=s.size)(h2:s.size<=64)(d6:w.ownsMap Tryz.prog 9 dH m n (.map es))(WJ:∀p∈es,∀b:Nat,p.2= .lit (.int .i64 b)->PkF w b (f p.2))(I':(bL f es:Int)+M<=room)(q9:room<=1073741824)(b7:∀W:World,W.heap[m]? =w.heap[m]? ->(Instr.lookup 69 (.map (some m)) (.string s) false).run Tryz.prog W= .ok (.pointer (some ⟨b,0,none⟩)) W)(f0:w.cell? ⟨b,0,none⟩=some v)(fz:w.frozen? ⟨b,0,none⟩=false)(WI:w.ownsRow 0 5 1 v N xs)(Z0:v.ownBlock≠some b)(hvd:v.ownBlock≠some d)(hbd:b≠d)(hN:N+M<=1073741824)(hl:news.length=M)(hM:0<M)(WB:∀j u,news[j]? =some u->w.cell? (ad.add j)=some u)(p8:∀u∈news,u.oneCell'=true):
 Calls Tryz.prog 64 #[.pointer (some ⟨d,0,none⟩),.string s,.slice (some ad) M sc] w λe w'=>e= .returned (.int .i64 0)/\∃g cap w1,w.grownBy w1 v.ownBlock/\
  w1.ownsRow 0 5 1 (.slice (some ⟨g,0,none⟩) (N+M) cap) (N+M) (xs++news)/\(v.ownBlock=some g∨w.heap.size<=g)/\w'=w1.setCell ⟨b,0,none⟩ (.slice (some ⟨g,0,none⟩) (N+M) cap):=by
 obtain⟨i0,hi,XB,ZI,hz2⟩:=info_parts qQ
 have XW:=d6.lt
 have ad3:=World.block_lt_of_cell? _ _ f0
 have hg:=World.grownBy_alloc w (.cells #[.string s] 9) none
 have cs:(w.alloc (.cells #[.string s] 9)).cell? ⟨w.heap.size,0,none⟩=some (.string s):=by simp
 have Xa:=b7 (w.alloc (.cells #[.string s] 9)) (heap_alloc_old w _ XW)
 have c0':=aH hg c0
 have c1':=aH hg c1
 have YJ:=aH hg c2
 clear b7
 go_enter Tryz.func64,Tryz.ntmps64
 go_wp2_with (first
  |(go_at_call 122;refine(qP _ _ _ _ YJ h1 h2 cs).mono ?_;rintro e w2 ⟨rfl,rfl⟩)
  |fail)
 have x7:=d6.kept hg (by simp)
 have XX:∀p∈es,∀b:Nat,p.2= .lit (.int .i64 b)->PkF (w.alloc (.cells #[.string s] 9)) b (f p.2):=λp hp b hb=>(WJ p hp b hb).grown hg
 have hle:bL f es<=1073741824:=by omega
 clear d6 WJ c0 c1
 generalize hT:bL f es=T at I'
 have YA:decide (IntKind.i64.wrap (room-(T:Int))<(M:Int))=false:=by rw[IntKind.wrap_i64];exact decide_eq_false (by omega)
 refine wp_region_held_drew (S:=λw'=>w'.cell? ⟨d,0,none⟩=some (.int .i64 room)/\w'.cell? ⟨d,1,none⟩=some (.map (some m))/\(w.alloc (.cells #[.string s] 9)).grownBy w' none) (by kernel_rfl) ⟨c0',c1',rfl,rfl,rfl,aab _,λ_ _ _=>rfl⟩ (λd7=>?_)
 refine nJ 0 d7 ?_
 (try simp only [Act.put,aao,aap,aaq])
 refine nJ 1 d7 ?_
 (try simp only [Act.put,aao,aap,aaq])
 refine nJ 2 d7 ?_
 (try simp only [Act.put,aao,aap,aaq])
 refine nJ 3 d7 ?_
 (try simp only [Act.put,aao,aap,aaq])
 refine nJ 4 d7 ?_
 (try simp only [Act.put,aao,aap,aaq])
 refine nJ 5 d7 ?_
 (try simp only [Act.put,aao,aap,aaq])
 refine nJ 6 d7 ?_
 (try simp only [Act.put,aao,aap,aaq])
 refine wpAnyH_ready (rs:=[7]) (by kernel_rfl) (by simp) ?_
 refine AllReadyH.cons rfl (λK hK=>?_) AllReadyH.nil
 go_simp
 refine(yI x7 XX hle d7).mono ?_
 rintro e w2 ⟨rfl,d8⟩
 refine hK.out _ _ d8 (λd7=>?_)
 refine nJ 8 d7 ?_
 (try simp only [Act.put,aao,aap,aaq])
 refine nJ 9 d7 ?_
 (try simp only [Act.put,aao,aap,aaq])
 refine nJ 10 d7 ?_
 (try simp only [Act.put,aao,aap,aaq])
 refine nJ 11 d7 ?_
 (try simp only [Act.put,aao,aap,aaq])
 refine nJ 12 d7 ?_
 (try simp only [Act.put,aao,aap,aaq])
 refine nJ 13 d7 ?_
 (try simp only [Act.put,aao,aap,aaq])
 refine zg 14 d7 ?_
 (try simp only [Act.put,aao,aap,aaq])
 refine zg 15 d7 ?_
 (try simp only [Act.put,aao,aap,aaq])
 refine zg 16 d7 ?_
 (try simp only [Act.put,aao,aap,aaq])
 refine zg 17 d7 ?_
 (try simp only [Act.put,aao,aap,aaq])
 refine zg 18 d7 ?_
 (try simp only [Act.put,aao,aap,aaq])
 refine zg 19 d7 ?_
 (try simp only [Act.put,aao,aap,aaq])
 refine nJ 20 d7 ?_
 (try simp only [Act.put,aao,aap,aaq])
 refine nJ 21 d7 ?_
 (try simp only [Act.put,aao,aap,aaq])
 refine wpAnyH_done (by kernel_rfl) ?_ _
 obtain⟨a0,a1,hg2⟩:=d8
 have T':w.grownBy w2 none:=hg.trans hg2
 have ag4:=WI.kept T' (by cases v.ownBlock <;> simp)
 have f02:=aH T' f0
 have fz2:w2.frozen? ⟨b,0,none⟩=false:=by rw[←fz];exact World.frozen?_of_block (T'.block b ad3 (by simp))
 have WL:∀j u,news[j]? =some u->w2.cell? (ad.add j)=some u:=λj u hj=>aH T' (WB j u hj)
 have c22:w2.cell? ⟨d,2,none⟩=some (.bool false):=aH T' c2
 have hlen:news.length=M * 1:=by omega
 have hmx:N+M<=maxLen:=by unfold maxLen;omega
 have W0:(N+M) * 1<=140737488355328:=by omega
 clear x7 XX hle YA WB WI fz f0 Xa cs c0' c1' YJ
 have c23:∀w3 u,w2.grownBy w3 v.ownBlock->(w3.setCell ⟨b,0,none⟩ u).cell? ⟨d,2,none⟩=some (.bool false):=λw3 u h=>by rw[World.cell?_setCell_other _ _ _ _ (by simp [Ne.symm hbd])];exact h.cell c22 (Ne.symm hvd)
 go_wp2_with (first
  |(at_builtin;refine wpList_append_lies _ rfl _ _ 105 rfl 0 5 i0 (.int .u8 0) 1 1 Tryz.underlying105 hi XB ZI hz2 rfl (by decide) v N xs rfl ag4 ad M sc news rfl hlen WL p8 hM hmx W0 (aan _) _ rfl ?_;intro g cap w3 Yx l3 YE ad4;have q0:=l3.cell f02 (Ne.symm Z0);have qz:w3.frozen? ⟨b,0,none⟩=false:=(World.frozen?_of_block (l3.block b (World.block_lt_of_cell? _ _ f02) (Ne.symm Z0))).trans fz2)
  |(go_at_call 123;refine(mn _ _ (c23 _ _ l3)).mono ?_;rintro e w4 ⟨rfl,rfl⟩)
  |fail)
 go_ret
 refine⟨rfl,g,cap,w3,⟨l3.os.trans T'.os,l3.tape.trans T'.tape,l3.output.trans T'.output,aaH T'.size l3.size,λk hk j0=>(l3.block k (Zm hk T'.size) j0).trans (T'.block k hk (by simp))⟩,Yx, ?_,rfl⟩
 rcases YE with h|h
 ·exact .inl h
 ·exact .inr (by rw[h];exact T'.size)
def O0{m n:Nat}{es:List (Lit×DataW Unit)}{w:World}(d6:w.ownsMap Tryz.prog 9 dH m n (.map es)){a:Addr}{u:Value}(h:w.cell? a=some u):a.block≠m:=λe=>by obtain⟨_,_,hq,_⟩:=d6;unfold World.cell? at h;rw[e] at h;simp [hq] at h
def Km{m n:Nat}{es:List (Lit×DataW Unit)}{w:World}(d6:w.ownsMap Tryz.prog 9 dH m n (.map es))(ty:TypeId):(Builtin.len_ #[69] ty #[.map (some m)]).run Tryz.prog w= .ok (.int .i64 (es.length:Nat)) w:=
 d6.len Tryz.underlying69 ty
def Kn{d m n:Nat}{room:Int}{es:List (Lit×DataW Unit)}{f:DataW Unit->Nat}{W w:World}(d6:W.ownsMap Tryz.prog 9 dH m n (.map es))(WJ:∀p∈es,∀b:Nat,p.2= .lit (.int .i64 b)->PkF W b (f p.2))(I':bL f es<=1073741824)(hS:w.cell? ⟨d,0,none⟩=some (.int .i64 room)/\w.cell? ⟨d,1,none⟩=some (.map (some m))/\(∀ty,(Builtin.len_ #[69] ty #[.map (some m)]).run Tryz.prog w= .ok (.int .i64 (es.length:Nat)) w)/\W.grownBy w none):
 Calls Tryz.prog 13 #[.pointer (some ⟨d,0,none⟩)] w λe w'=>e= .returned (.int .i64 (bL f es:Nat))/\(w'.cell? ⟨d,0,none⟩=some (.int .i64 room)/\w'.cell? ⟨d,1,none⟩=some (.map (some m))/\(∀ty,(Builtin.len_ #[69] ty #[.map (some m)]).run Tryz.prog w'= .ok (.int .i64 (es.length:Nat)) w')/\W.grownBy w' none):=
 (ve d m n es f w hS.2.1 (d6.kept hS.2.2.2 (by simp)) (λp hp b hb=>(WJ p hp b hb).grown hS.2.2.2) I').mono λe w' h=>⟨h.1,aH h.2 hS.1,aH h.2 hS.2.1,Km (d6.kept (hS.2.2.2.trans h.2) (by simp)),hS.2.2.2.trans h.2⟩
set_option maxRecDepth 100000 in
theorem rE(d m n M sc:Nat)(room:Int)(es:List (Lit×DataW Unit))(f:DataW Unit->Nat)(s:ByteArray)(news:List Value)(ad:Addr)(w:World)(c0:w.cell? ⟨d,0,none⟩=some (.int .i64 room))
 (c1:w.cell? ⟨d,1,none⟩=some (.map (some m))) (c2:w.cell? ⟨d,2,none⟩=some (.bool false)) (h1:1<=s.size) (h2:s.size<=64)
 (d6:w.ownsMap Tryz.prog 9 dH m n (.map es)) (WJ:∀p∈es,∀b:Nat,p.2= .lit (.int .i64 b)->PkF w b (f p.2)) (I':(bL f es:Int)+M<=room) (q9:room<=1073741824)
 (b7:∀W:World,W.heap[m]? =w.heap[m]? ->(Instr.lookup 69 (.map (some m)) (.string s) false).run Tryz.prog W= .ok (.pointer none) W)
 (Y7:es.length<4096) (hn:n<4096)
 (hl:news.length=M) (hM:0<M) (WB:∀j u,news[j]? =some u->w.cell? (ad.add j)=some u) (p8:∀u∈news,u.oneCell'=true):
 Calls Tryz.prog 64 #[.pointer (some ⟨d,0,none⟩),.string s,.slice (some ad) M sc] w λe w'=>e= .returned (.int .i64 0)/\∃b g cap w1,w.grownBy w1 (some m)/\w.heap.size<=b/\w.heap.size<=g/\b≠g/\b<w1.heap.size/\
  w1.ownsMap Tryz.prog 9 dH m (n+1) ((DataW.map es).put (.string s.data.toList) (.lit (.int .i64 b)))/\w1.ownsRow 0 5 1 (.slice (some ⟨g,0,none⟩) M cap) M news/\w1.heap[b]? =some (.cells #[.slice none 0 0,.int .u32 0] 107)/\w'=w1.setCell ⟨b,0,none⟩ (.slice (some ⟨g,0,none⟩) M cap):=by
 obtain⟨i0,hi,XB,ZI,hz2⟩:=info_parts qQ
 have XW:=d6.lt
 have hg:=World.grownBy_alloc w (.cells #[.string s] 9) none
 have cs:(w.alloc (.cells #[.string s] 9)).cell? ⟨w.heap.size,0,none⟩=some (.string s):=by simp
 have Xa:=b7 (w.alloc (.cells #[.string s] 9)) (heap_alloc_old w _ XW)
 have c0':=aH hg c0
 have c1':=aH hg c1
 have YJ:=aH hg c2
 have x7:=d6.kept hg (by simp)
 have XX:∀p∈es,∀b:Nat,p.2= .lit (.int .i64 b)->PkF (w.alloc (.cells #[.string s] 9)) b (f p.2):=λp hp b hb=>(WJ p hp b hb).grown hg
 have hle:bL f es<=1073741824:=by omega
 clear b7 d6 WJ c0 c1
 go_enter Tryz.func64,Tryz.ntmps64
 go_wp2_with (first
  |(go_at_call 122;refine(qP _ _ _ _ YJ h1 h2 cs).mono ?_;rintro e w2 ⟨rfl,rfl⟩)
  |fail)
 generalize hT:bL f es=T at I'
 have YA:decide (IntKind.i64.wrap (room-(T:Int))<(M:Int))=false:=by rw[IntKind.wrap_i64];exact decide_eq_false (by omega)
 have ag5:decide (4096<=((es.length:Nat):Int))=false:=decide_eq_false (by omega)
 first
 |(go_region_held (λw'=>w'.cell? ⟨d,0,none⟩=some (.int .i64 room)/\w'.cell? ⟨d,1,none⟩=some (.map (some m))/\(∀ty,(Builtin.len_ #[69] ty #[.map (some m)]).run Tryz.prog w'= .ok (.int .i64 (es.length:Nat)) w')/\(w.alloc (.cells #[.string s] 9)).grownBy w' none)
  (first|exact⟨c0',c1',Km (w:=(w.alloc (.cells #[.string s] 9)).drew) x7,rfl,rfl,rfl,aab _,λ_ _ _=>rfl⟩|assumption)
  (first|(go_at_call 13;refine(Kn x7 XX hle (by assumption)).mono ?_;rintro e w2 ⟨rfl,d8⟩)))
 |fail
 obtain⟨a0,a1,_,hg2⟩:=d8
 have T':w.grownBy w2 none:=hg.trans hg2
 have Zg:=x7.kept hg2 (by simp)
 have WL:∀j u,news[j]? =some u->w2.cell? (ad.add j)=some u:=λj u hj=>aH T' (WB j u hj)
 have c22:w2.cell? ⟨d,2,none⟩=some (.bool false):=aH T' c2
 have hlen:news.length=M * 1:=by omega
 have hmx:0+M<=maxLen:=by unfold maxLen;omega
 have W0:(0+M) * 1<=140737488355328:=by omega
 have YH:keyOf Tryz.prog 9 (.string s)=some (.string s.data.toList):=WideMaps.keyOf_string_mk Tryz.underlying9 (by unfold maxLen;omega)
 have qT:∀(w:World) (r:Option Nat),(binOp .eql 69 (.map r) (.map none)).run Tryz.prog w= .ok (.bool r.isNone) w:=λw r=>run_eql_map_nil w _ _ _ r Tryz.underlying69
 have a1':=aH (World.grownBy_alloc w2 (.cells #[.slice none 0 0,.int .u32 0] 107) none) a1
 have W4:(w2.alloc (.cells #[.slice none 0 0,.int .u32 0] 107)).heap[w2.heap.size]? =some (.cells #[.slice none 0 0,.int .u32 0] 107):=heap_alloc_new w2 _
 have m8:(w2.alloc (.cells #[.slice none 0 0,.int .u32 0] 107)).heap.size=w2.heap.size+1:=by simp
 have WT:m<w2.heap.size:=Zm XW T'.size
 have W9:∀w3,(w2.alloc (.cells #[.slice none 0 0,.int .u32 0] 107)).grownBy w3 (some m)->w3.heap[w2.heap.size]? =some (.cells #[.slice none 0 0,.int .u32 0] 107)/\w3.cell? ⟨w2.heap.size,0,none⟩=some (.slice none 0 0)/\
  w3.frozen? ⟨w2.heap.size,0,none⟩=false/\w3.cell? ⟨d,2,none⟩=some (.bool false)/\∀j u,news[j]? =some u->w3.cell? (ad.add j)=some u:=λw3 h=>by
  have hb:=(h.block w2.heap.size (by rw[m8];omega) (λe=>by injection e with e;omega)).trans W4
  refine⟨hb,by simp [World.cell?,hb],by simp [World.frozen?,hb],h.cell (aH (World.grownBy_alloc w2 _ none) c22) (λe=>O0 Zg c22 (Option.some.inj e)),λj u hj=>h.cell (aH (World.grownBy_alloc w2 _ none) (WL j u hj)) (λe=>O0 Zg (WL j u hj) (Option.some.inj e))⟩
 have aj6:w2.heap.size≠d:=λe=>by have:=World.block_lt_of_cell? _ _ c22;simp at this;omega
 clear x7 XX hle YA ag5 WB Xa cs c0' c1' YJ c2
 go_wp2_with (first
  |(at_mapUpdate;refine wpList_mapUpdate_own _ rfl _ _ _ 69 rfl 9 70 jq Tryz.underlying69 dH m n _ rfl (Zg.alloc _) (by unfold maxLen;omega) _ _ _ rfl rfl YH (.lit (.int .i64 w2.heap.size)) [] rfl ?_;intro w3 Yx l3;obtain⟨p0,p1,p2,p3,p4⟩:=W9 w3 l3)
  |(at_builtin;refine wpList_append_lies _ rfl _ _ 105 rfl 0 5 i0 (.int .u8 0) 1 1 Tryz.underlying105 hi XB ZI hz2 rfl (by decide) (.slice none 0 0) 0 [] rfl (World.ownsRow_nil _ _ _ _) ad M sc news rfl hlen p4 p8 hM hmx W0 (aan _) _ rfl ?_;intro g cap w4 ag6 Xw aj7 al6;have r1:=aH Xw p1;have r2:w4.frozen? ⟨w2.heap.size,0,none⟩=false:=(World.frozen?_of_block (Xw.block _ (World.block_lt_of_cell? _ _ p1) (by simp [Value.ownBlock]))).trans p2)
  |(go_at_call 123;refine(mn _ _ (by rw[World.cell?_setCell_other _ _ _ _ (λe=>absurd (congrArg Addr.block e) aj6)];exact aH Xw p3)).mono ?_;rintro e w5 ⟨rfl,rfl⟩)
  |fail)
 go_ret
 have hga:w.grownBy w3 (some m):=((T'.but _).trans (World.grownBy_alloc w2 _ _)).trans l3
 have h4:w3.grownBy w4 none:=Xw
 have hg3:g=w3.heap.size:=by
  rcases aj7 with h|h
  ·cases h
  ·exact h
 have ad4:w2.heap.size<w3.heap.size:=by simpa using World.block_lt_of_cell? _ _ p1
 have Zh:w4.ownsRow 0 5 1 (.slice (some ⟨g,0,none⟩) (0+M) cap) (0+M) ([]++news):=by simpa using ag6
 rw[aam] at Zh
 exact⟨rfl,w2.heap.size,g,cap,w4,hga.trans (h4.but _),T'.size,by rw[hg3];exact aaH T'.size (by omega),by omega,by have:=h4.size;omega,Yx.kept h4 (by simp),Zh,(h4.block _ ad4 (by simp)).trans p0,rfl⟩
def Q2(room:Int)(w:World)(h1:0<=room)(h2:room<=1073741824):
 Calls Tryz.prog 18 #[.int .i64 room] w λe w'=>e= .returned (.tuple #[.pointer (some ⟨w.heap.size+1,0,none⟩),.int .i64 0])/\w'=(w.alloc (.map #[] 0)).alloc (.cells #[.int .i64 room,.map (some w.heap.size),.bool false,.int .i64 0] 72):=by
 have s9:=@run_makeMap Tryz.prog
 go_enter Tryz.func18,Tryz.ntmps18
 go_wp2
 go_ret2
 exact⟨rfl,rfl⟩
open Go.Sym Go.Maps
noncomputable section
structure PkE where
 nm:ByteArray
 f:Nat
 bk:Option Nat
 n:Nat
def PkE.ent(x:PkE):Lit×DataW Unit:=(.string x.nm.data.toList,.lit (.int .i64 x.f))
def PkE.row(x:PkE):G:=.node [.str (bytesOf x.nm),.int x.n]
def PkE.own(x:PkE):List Nat:=x.f::x.bk.toList
def PkFile(w:World)(x:PkE):Prop:=∃v xs lt,w.heap[x.f]? =some (.cells #[v,.int .u32 lt] 107)/\w.ownsRow 0 5 1 v x.n xs/\v.ownBlock=x.bk/\∀u∈xs,u.oneCell'=true
def cB:List G->Nat
 | []=>0
 |r::l=>(gI (ah r 1)).toNat+cB l
def cJ(nm:List Nat)(l:List G):Prop:=∃r∈l,gS (ah r 0)=nm
open Classical in
def dz(nm:List Nat)(n:Nat):List G->List G
 | []=>[.node [.str nm,.int n]]
 |r::l=>if gS (ah r 0)=nm then .node [.str nm,.int ((gI (ah r 1)).toNat+n:Nat)]::l else r::dz nm n l
def mo{nm:List Nat}{n:Nat}{r:G}{l:List G}(h:gS (ah r 0)=nm):dz nm n (r::l)= .node [.str nm,.int ((gI (ah r 1)).toNat+n:Nat)]::l:=if_pos h
def iq{nm:List Nat}{n:Nat}{r:G}{l:List G}(h:¬gS (ah r 0)=nm):dz nm n (r::l)=r::dz nm n l:=if_neg h
def oE(q:Bool)(room:Int)(rows:List G)(d:Nat)(fp:List Nat)(w:World):Prop:=
 ∃(m:Nat) (lf:Int) (L:List PkE) (es:List (Lit×DataW Unit)),w.heap[d]? =some (.cells #[.int .i64 room,.map (some m),.bool false,.int .i64 lf] 72)/\w.ownsMap Tryz.prog 9 dH m L.length (.map es)/\
  es.Perm (L.map PkE.ent)/\rows=L.map PkE.row/\(∀x∈L,PkFile w x)/\fp=m::L.flatMap PkE.own/\(d::fp).Nodup/\cB rows<=1073741824/\(q=true->L= []->w.heap[m]? =some (.map #[] 0))
def dp{w w':World}{m n:Nat}{D:DataW Unit}(h:w.ownsMap Tryz.prog 9 dH m n D)(hk:w'.heap[m]? =w.heap[m]?):w'.ownsMap Tryz.prog 9 dH m n D:=by obtain⟨es,c,hb,r⟩:=h;exact⟨es,c,hk.trans hb,r⟩
def PkFile.keep{w w':World}{x:PkE}(h:PkFile w x)(hk:∀k∈x.own,w'.heap[k]? =w.heap[k]?):PkFile w' x:=by
 obtain⟨v,xs,lt,h1,h2,h3⟩:=h;refine⟨v,xs,lt,(hk _ aaj).trans h1,⟨h2.1, ?_⟩,h3⟩;rcases h2.2 with hn|⟨g,cap,kT,rfl,hb,hg,rest⟩
 ·exact .inl hn
 ·refine .inr ⟨g,cap,kT,rfl,hb,(hk g ?_).trans hg,rest⟩;have w9:x.bk=some g:=by rw[←h3.1];rfl
  exact aag _ (by rw[w9];exact List.mem_singleton.2 rfl)
def jL(q:Bool)(room:Int)(l:List G):kx (oE q room l):=λd fp w w' hk h=>by
 obtain⟨m,lf,L,es,h1,h2,h3,h4,h5,h6,h7,h8,h9⟩:=h;have hm:m∈d::fp:=by rw[h6];exact aag _ aaj
 refine⟨m,lf,L,es,(hk d aaj).trans h1,dp h2 (hk m hm),h3,h4,λx hx=>(h5 x hx).keep λk hkx=>hk k ?_,h6,h7,h8,λhq hL=>(hk m hm).trans (h9 hq hL)⟩;rw[h6];exact aag _ (aag _ (List.mem_flatMap.2 ⟨x,hx,hkx⟩))
def gh(w:World)(b o:Nat)(v:Value):w.grownBy (w.setCell ⟨b,o,none⟩ v) (some b):=
 ⟨rfl,rfl,rfl,by simp,λk _ hk=>heap_setCell_other w _ k v (λe=>hk (by rw[e]))⟩
def Du{a s:ByteArray}:(Lit.string a.data.toList= .string s.data.toList)↔a=s:=by
 constructor
 ·intro h;injection h with h;exact ByteArray.ext (Array.toList_inj.1 h)
 ·rintro rfl;rfl
def oF{L:List PkE}{s:ByteArray}:cJ (bytesOf s) (L.map PkE.row)↔∃x∈L,x.nm=s:=by
 constructor
 ·rintro⟨r,hr,e⟩;obtain⟨x,hx,rfl⟩:=List.mem_map.1 hr;exact⟨x,hx,dS e⟩
 ·rintro⟨x,hx,rfl⟩;exact⟨x.row,abf hx,rfl⟩
def Q3{L:List PkE}{s:ByteArray}{n:Nat}(h:∀x∈L,x.nm≠s):dz (bytesOf s) n (L.map PkE.row)=L.map PkE.row++ [.node [.str (bytesOf s),.int n]]:=by
 induction L with
 |nil=>rfl
 |cons x L ih=>show dz _ _ (x.row::L.map PkE.row)=_;rw[iq (r:=x.row) (λe=>h x aaj (dS e)),ih λy hy=>h y (aag _ hy)];rfl
def Q4{A B:List PkE}{x:PkE}{n:Nat}(h:∀y∈A,y.nm≠x.nm)(g:Option Nat):dz (bytesOf x.nm) n ((A++x::B).map PkE.row)=(A++{x with bk:=g,n:=x.n+n}::B).map PkE.row:=by
 induction A with
 |nil=>show dz _ _ (x.row::B.map PkE.row)=_;rw[mo (nm:=bytesOf x.nm) (r:=x.row) rfl];rfl
 |cons y A ih=>show dz _ _ (y.row::(A++x::B).map PkE.row)=_;rw[iq (r:=y.row) (λe=>h y aaj (dS e)),ih λz hz=>h z (aag _ hz)];rfl
def vg:∀l m:List G,cB (l++m)=cB l+cB m
 | [],m=>by simp [cB]
 |r::l,m=>by show _+cB (l++m)=(_+cB l)+cB m;rw[vg l m];omega
def yJ(nm:List Nat)(n:Nat):∀l,cB (dz nm n l)=cB l+n
 | []=>by show((n:Int)).toNat+0=0+n;omega
 |r::l=>by
  by_cases he:gS (ah r 0)=nm
  ·rw[mo he];show(((gI (ah r 1)).toNat+n:Nat):Int).toNat+cB l=((gI (ah r 1)).toNat+cB l)+n;omega
  ·rw[iq he];show(gI (ah r 1)).toNat+cB (dz nm n l)=((gI (ah r 1)).toNat+cB l)+n;rw[yJ nm n l];omega
def oG(nm:List Nat)(n:Nat):∀l,(dz nm n l).length<=l.length+1
 | []=>aab _
 |r::l=>by
  by_cases he:gS (ah r 0)=nm
  ·rw[mo he];simp
  ·rw[iq he];have:=oG nm n l;simp;omega
def oH(nm:List Nat)(n:Nat):∀l,cJ nm (dz nm n l)/\∀r∈dz nm n l,gS (ah r 0)=nm∨∃r'∈l,gS (ah r' 0)=gS (ah r 0)
 | []=>⟨⟨_,List.mem_singleton.2 rfl,rfl⟩,λr hr=>.inl (by rw[List.mem_singleton.1 hr];rfl)⟩
 |r::l=>by
  obtain⟨⟨q,q1,q2⟩,q3⟩:=oH nm n l;by_cases he:gS (ah r 0)=nm
  ·rw[mo he];refine⟨⟨_,aaj,rfl⟩,λx hx=>?_⟩;rcases List.mem_cons.1 hx with rfl|hx
   ·exact .inl rfl
   ·exact .inr ⟨x,aag _ hx,rfl⟩
  ·rw[iq he];refine⟨⟨q,aag _ q1,q2⟩,λx hx=>?_⟩;rcases List.mem_cons.1 hx with rfl|hx
   ·exact .inr ⟨x,aaj,rfl⟩
   ·rcases q3 x hx with h|⟨r',h1,h2⟩
    ·exact .inl h
    ·exact .inr ⟨r',aag _ h1,h2⟩
def jM{L:List PkE}{x:PkE}(h:x∈L):x.n<=cB (L.map PkE.row):=by
 induction L with
 |nil=>cases h
 |cons y L ih=>
  show _<=(gI (ah y.row 1)).toNat+cB (L.map PkE.row);rcases List.mem_cons.1 h with rfl|h
  ·show _<=((x.n:Int)).toNat+_;omega
  ·have:=ih h;omega
def Np{L:List PkE}(s:ByteArray):(∃A x B,L=A++x::B/\x.nm=s/\∀y∈A,y.nm≠s)∨∀y∈L,y.nm≠s:=by
 induction L with
 |nil=>exact .inr λy h=>absurd h aaS
 |cons y L ih=>
  by_cases e:y.nm=s
  ·exact .inl ⟨[],y,L,rfl,e,λz h=>absurd h aaS⟩
  ·rcases ih with⟨A,x,B,rfl,h1,h2⟩|h
   ·refine .inl ⟨y::A,x,B,rfl,h1,λz hz=>?_⟩;rcases List.mem_cons.1 hz with rfl|hz
    ·exact e
    ·exact h2 z hz
   ·refine .inr λz hz=>?_;rcases List.mem_cons.1 hz with rfl|hz
    ·exact e
    ·exact h z hz
def jr{m n:Nat}{es:List (Lit×DataW Unit)}{L:List PkE}{w:World}(d6:w.ownsMap Tryz.prog 9 dH m n (.map es))(hp:es.Perm (L.map PkE.ent))(s:ByteArray)(hs:s.size<=maxLen):
 (∃A x B,L=A++x::B/\x.nm=s/\(∀y∈A,y.nm≠s)/\∀W:World,W.heap[m]? =w.heap[m]? ->(Instr.lookup 69 (.map (some m)) (.string s) false).run Tryz.prog W= .ok (.pointer (some ⟨x.f,0,none⟩)) W)∨
 ((∀y∈L,y.nm≠s)/\∀W:World,W.heap[m]? =w.heap[m]? ->(Instr.lookup 69 (.map (some m)) (.string s) false).run Tryz.prog W= .ok (.pointer none) W):=by
 obtain⟨o4,he,YP,_⟩:=d6.entries jq
 injection he with he;subst he
 rcases Np (L:=L) s with⟨A,x,B,e1,e2,e3⟩|h
 ·refine .inl ⟨A,x,B,e1,e2,e3,λW hW=>?_⟩;have hx:x.ent∈es:=hp.symm.mem_iff.1 (abf (by rw[e1];simp));have hk:x.ent.1= .string s.data.toList:=by rw[←e2];rfl
  have uniq:∀p∈es,p.1=x.ent.1->p=x.ent:=λp hp' e=>by have:=entry_key_one YP hp' hx e;exact this
  rcases vf (dp d6 hW) s hs with⟨b,hm,hr⟩|⟨hn,_⟩
  ·have:=uniq _ hm hk.symm;have e:b=x.f:=by have h2:=congrArg Prod.snd this;have h2:(DataW.lit (Lit.int .i64 (b:Int)):DataW Unit)= .lit (.int .i64 x.f):=h2;injection h2 with h2;injection h2 with _ h2;omega
   rw[hr,e]
  ·exact absurd hk (hn _ hx)
 ·refine .inr ⟨h,λW hW=>?_⟩;rcases vf (dp d6 hW) s hs with⟨b,hm,hr⟩|⟨_,hr⟩
  ·obtain⟨y,hy,e⟩:=List.mem_map.1 (hp.mem_iff.1 hm);exact absurd (Du.1 (congrArg Prod.fst e)) (h y hy)
  ·exact hr
where
 entry_key_one:∀{l:List (Lit×DataW Unit)},l.Pairwise (λp q=>p.1≠q.1)->∀{p q:Lit×DataW Unit},p∈l->q∈l->p.1=q.1->p=q
  | [],_,_,_,h,_,_=>absurd h aaS
  |a::l,hp,p,q,h1,h2,e=>by
   obtain⟨q1,q2⟩:=List.pairwise_cons.1 hp;rcases List.mem_cons.1 h1 with r1|r1
   ·rcases List.mem_cons.1 h2 with r2|r2
    ·rw[r1,r2]
    ·subst r1;exact absurd e (q1 _ r2)
   ·rcases List.mem_cons.1 h2 with r2|r2
    ·subst r2;exact absurd e.symm (q1 _ r1)
    ·exact entry_key_one q2 r1 r2 e
def qR{w:World}{x:PkE}(h:PkFile w x):∃a cap v xs lt,w.heap[x.f]? =some (.cells #[v,.int .u32 lt] 107)/\v= .slice a x.n cap/\w.ownsRow 0 5 1 v x.n xs/\v.ownBlock=x.bk/\∀u∈xs,u.oneCell'=true:=by
 obtain⟨v,xs,lt,h1,h2,h3⟩:=h;rcases h2.2 with⟨hv,hn⟩|⟨g,cap,kT,hv,_⟩
 ·exact⟨none,0,v,xs,lt,h1,by rw[hv,hn],h2,h3⟩
 ·exact⟨_,cap,v,xs,lt,h1,hv,h2,h3⟩
def vh{w:World}{x:PkE}(h:PkFile w x)(hn:x.n<4294967296):PkF w x.f x.n:=by obtain⟨a,cap,v,xs,lt,h1,rfl,_⟩:=qR h;exact⟨⟨a,cap,by rw[cell_of_row _ _ _ _ _ _ h1];rfl⟩,⟨lt,by rw[cell_of_row _ _ _ _ _ _ h1];rfl⟩,hn⟩
def vj{w:World}{x:PkE}(h:PkFile w x):Ds w x.ent.2=x.n:=by
 obtain⟨a,cap,v,xs,lt,h1,rfl,_⟩:=qR h;have hc:w.cell? ⟨x.f,0,none⟩=some (.slice a x.n cap):=by rw[cell_of_row _ _ _ _ _ _ h1];rfl
 show(match w.cell? ⟨((x.f:Nat):Int).toNat,0,none⟩ with|some (.slice _ l _)=>l|_=>0)=_;rw[aaA,hc]
def qS{w:World}{L:List PkE}{es:List (Lit×DataW Unit)}(hp:es.Perm (L.map PkE.ent))(h:∀x∈L,PkFile w x):bL (Ds w) es=cB (L.map PkE.row):=by
 unfold bL
 rw[(hp.map _).sum_nat]
 clear hp
 induction L with
 |nil=>rfl
 |cons x L ih=>show Ds w x.ent.2+_=(gI (ah x.row 1)).toNat+cB (L.map PkE.row);rw[vj (h x aaj), ←ih λy hy=>h y (aag _ hy)];show _=((x.n:Int)).toNat+_;rw[aaA];rfl
def tq{ρ:Rho}{l:List Nat}{v:Value}(h:VR ρ (.sS l) v):∃s,bytesOf s=l/\v= .string s:=by cases h;exact⟨_,rfl,rfl⟩
def O1{ρ:Rho}{k:IntKind}{n:Int}{v:Value}(h:VR ρ (.sI k n) v):v= .int k n:=by cases h;rfl
def O2{ρ:Rho}{l:List Nat}{v:Value}(h:VR ρ (.cv (.bytes l)) v)(hl:1<=l.length):
 ∃b off cp arr ty,v= .slice (some ⟨b,off,none⟩) l.length cp/\ρ.frz b=some (arr,ty)/\off+l.length<=arr.size/\∀i,i<l.length->∃n,arr[off+i]? =some (.int .u8 n):=by
 generalize hc:Ct.bytes l=c at h
 cases h with
 |cv c b off cp arr ty hf hcp hb r=>
  subst hc
  refine⟨b,off,cp,arr,ty,rfl,hf,by simpa [Ct.len,Ct.es] using hb,λi hi=>?_⟩
  have c8:off+i<arr.size:=by have:off+l.length * 1<=arr.size:=hb;omega
  have h1:arr[off+i]? =some arr[off+i]:=aaK c8
  have:=r i 0 _ arr[off+i] hi (show((Ct.bytes l).row i)[0]? =some (.sI .u8 ((l.getD i 0:Nat):Int)) from rfl) (by rw[show off+i * (Ct.bytes l).es+0=off+i by show off+i * 1+0=_;omega];exact h1)
  exact⟨_,by rw[h1,O1 this]⟩
 |cvnil c h=>subst hc;have h:l.length=0:=h;omega
 |cvempty c a h=>subst hc;have h:l.length=0:=h;omega
def Nq{w:World}{b off n:Nat}{arr:Array Value}{ty:TypeId}{fr:Nat×Nat}(hb:w.heap[b]? =some (.cells arr ty fr))(hn:off+n<=arr.size)(h:∀i,i<n->∃k,arr[off+i]? =some (.int .u8 k)):
 ∃news:List Value,news.length=n/\(∀j u,news[j]? =some u->w.cell? ((⟨b,off,none⟩:Addr).add j)=some u)/\∀u∈news,u.oneCell'=true:=by
 have key:∀j u,((arr.toList.drop off).take n)[j]? =some u->j<n/\arr[off+j]? =some u:=λj u hj=>by
  rw[aaV] at hj;split at hj
  ·rename_i c8;rw[aax] at hj;exact⟨c8,by simpa using hj⟩
  ·cases hj
 refine⟨(arr.toList.drop off).take n,by simp;omega,λj u hj=>?_,λu hu=>?_⟩
 ·obtain⟨_,h2⟩:=key j u hj;rw[Addr.add_lit,cell_of_row _ _ _ _ _ _ hb];exact h2
 ·obtain⟨j,hj⟩:=List.getElem?_of_mem hu;obtain⟨h1,h2⟩:=key j u hj;obtain⟨k,hk⟩:=h j h1;rw[hk] at h2;injection h2 with h2;subst h2;rfl
def gN{A B:List PkE}{x:PkE}:(A++x::B).flatMap PkE.own=A.flatMap PkE.own++(x.own++B.flatMap PkE.own):=by simp
def js(d m:Nat)(A B:List PkE)(o:List Nat):(d::m::(A.flatMap PkE.own++(o++B.flatMap PkE.own))).Perm (o++(d::m::(A.flatMap PkE.own++B.flatMap PkE.own))):=
 List.perm_append_comm_assoc (d::m::A.flatMap PkE.own) o (B.flatMap PkE.own)
def dq{d:Nat}{room lf:Int}{m:Nat}{w:World}(h:w.heap[d]? =some (.cells #[.int .i64 room,.map (some m),.bool false,.int .i64 lf] 72)):
 w.cell? ⟨d,0,none⟩=some (.int .i64 room)/\w.cell? ⟨d,1,none⟩=some (.map (some m))/\w.cell? ⟨d,2,none⟩=some (.bool false):=by
 refine⟨?_, ?_, ?_⟩ <;> (rw[cell_of_row _ _ _ _ _ _ h];rfl)
def na{s:ByteArray}{n:Nat}(h:(bytesOf s).length<=n):s.size<=n:=by rw[aM] at h;exact h
def Fr{q:Bool}{room:Int}{rows:List G}{nm:List Nat}(j6:¬cJ nm rows)(hlen:nm.length<=64){w:World}{ρ:Rho}{d:Nat}{fp:List Nat}{vs:List Value}(c8:∀x∈d::fp,x<w.heap.size)(l6:LR ρ [.sS nm] vs)(hC:oE q room rows d fp w):
 Calls Tryz.prog 81 (Value.pointer (some ⟨d,0,none⟩)::vs).toArray w λe w'=>∃v fp',e= .returned v/\oE q room rows d fp' w'/\ObStep d fp fp' w w'/\∀ρ',VR ρ' (.tup [.nils,.sI .i64 7]) v:=by
 obtain⟨m,lf,L,es,h1,h2,h3,h4,h5,h6,h7,h8,h9⟩:=hC
 obtain⟨v,o7,rfl,hv,hn⟩:=LR.cons_inv (show LR ρ [.sS nm] vs from l6)
 obtain rfl:=LR.nil_inv hn
 obtain⟨s,hs,rfl⟩:=tq hv
 obtain⟨_,c1,_⟩:=dq h1
 refine(Nn d m _ es s w c1 h2 (by have:=na (s:=s) (n:=64) (by rw[hs];exact hlen);unfold maxLen;omega) (λp hp e=>j6 ?_)).mono ?_
 ·rw[←hs,h4];obtain⟨x,hx,rfl⟩:=List.mem_map.1 (h3.mem_iff.1 hp);exact oF.2 ⟨x,hx,Du.1 e⟩
 ·rintro e w' ⟨rfl,rfl⟩;refine⟨_,fp,rfl,⟨m,lf,L,es,h1,h2,h3,h4,h5,h6,h7,h8,h9⟩,⟨rfl,rfl,rfl,aab _,λ_ _ _=>rfl,λx hx=>.inl hx⟩,λρ'=>.tup _ _ rfl ?_⟩;exact(LR.arr (cs:= #[.slice none 0 0,.int .i64 7]) (LR.cons .nils (LR.cons (.sI .i64 7) (LR.nil _)))).2
def Ko{q:Bool}{room:Int}{rows:List G}{nm:List Nat}(WV:cJ nm rows)(u5:1<=nm.length)(o5:nm.length<=64){w:World}{ρ:Rho}{d:Nat}{fp:List Nat}{vs:List Value}(c8:∀x∈d::fp,x<w.heap.size)(l6:LR ρ [.sS nm] vs)(hC:oE q room rows d fp w):
 Calls Tryz.prog 66 (Value.pointer (some ⟨d,0,none⟩)::vs).toArray w λe w'=>∃v fp',e= .returned v/\oE q room rows d fp' w'/\ObStep d fp fp' w w'/\∀ρ',VR ρ' (.sI .i64 0) v:=by
 obtain⟨m,lf,L,es,h1,h2,h3,h4,h5,h6,h7,h8,h9⟩:=hC
 obtain⟨v,o7,rfl,hv,hn⟩:=LR.cons_inv (show LR ρ [.sS nm] vs from l6)
 obtain rfl:=LR.nil_inv hn
 obtain⟨s,hs,rfl⟩:=tq hv
 obtain⟨_,c1,c2⟩:=dq h1
 have o9:1<=s.size:=by rw[←aM,hs];exact u5
 have Xh:s.size<=64:=na (by rw[hs];exact o5)
 rcases jr h2 h3 s (by unfold maxLen;omega) with⟨A,x,B,e1,e2,e3,b7⟩|⟨j6,_⟩
 ·have hx:x∈L:=by rw[e1];simp
  have hxn:x.n<=1073741824:=aaH (jM hx) (by rw[←h4];exact h8);obtain⟨a,cap,v,xs,lt,q1,q2,q3,q4,q5⟩:=qR (h5 x hx);have XG:x.f∈d::fp:=by rw[h6];exact aag _ (aag _ (List.mem_flatMap.2 ⟨x,hx,aaj⟩))
  have s9:m∈d::fp:=by rw[h6];exact aag _ aaj
  refine(No d m L.length x.f x.n s w c1 c2 o9 Xh b7 (c8 m s9) (vh (h5 x hx) (by omega)) (frozen_of_row _ _ _ _ _ q1)).mono ?_;rintro e w' ⟨rfl,rfl⟩;have hold:∀k,k<w.heap.size->k≠x.f->((w.alloc (.cells #[.string s] 9)).setCell ⟨x.f,1,none⟩ (.int .u32 x.n)).heap[k]? =w.heap[k]? :=λk hk j0=>by rw[heap_setCell_other _ _ _ _ j0];exact heap_alloc_old w _ hk
  have hxf:((w.alloc (.cells #[.string s] 9)).setCell ⟨x.f,1,none⟩ (.int .u32 x.n)).heap[x.f]? =some (.cells #[v,.int .u32 x.n] 107):=
   heap_setCell_same _ _ _ #[v,.int .u32 lt] _ _ ((heap_alloc_old w _ (c8 _ XG)).trans q1)
  have YC:∀k∈d::fp,k<w.heap.size:=c8;have hP:(d::m::(A.flatMap PkE.own++(x.own++B.flatMap PkE.own))).Nodup:=by rw[←gN, ←e1, ←h6];exact h7
  have hP:=((js d m A B x.own).nodup_iff).1 hP;have j0:∀k,k∈x.bk.toList∨k∈(d::m::(A.flatMap PkE.own++B.flatMap PkE.own))->k≠x.f:=λk hk e=>by have:=(List.nodup_cons.1 (show(x.f::(x.bk.toList++(d::m::(A.flatMap PkE.own++B.flatMap PkE.own)))).Nodup from hP)).1;rw[←e] at this;exact this (List.mem_append.2 hk)
  have C':∀k,k∈(d::m::(A.flatMap PkE.own++B.flatMap PkE.own))->k∈d::fp:=λk hk=>by rw[h6,e1,gN];have:=((js d m A B x.own).mem_iff (a:=k)).2 (abe _ hk);exact this
  have hA:∀y,y∈A∨y∈B->∀k∈y.own,k∈(d::m::(A.flatMap PkE.own++B.flatMap PkE.own)):=λy hy k hk=>by
   refine aag _ (aag _ (List.mem_append.2 ?_));rcases hy with hy|hy
   ·exact .inl (List.mem_flatMap.2 ⟨y,hy,hk⟩)
   ·exact .inr (List.mem_flatMap.2 ⟨y,hy,hk⟩)
  refine⟨_,fp,rfl,⟨m,lf,L,es, ?_, ?_,h3,h4,λy hy=>?_,h6,h7,h8,λ_ hL=>absurd hx (by rw[hL];exact aaS)⟩,⟨rfl,rfl,rfl,by simp,λk hk j6=>hold k hk (λe=>j6 (e▸XG)),λx hx=>.inl hx⟩,λρ'=>.sI .i64 0⟩
  ·exact(hold d (c8 d aaj) (j0 d (.inr aaj))).trans h1
  ·exact dp h2 (hold m (c8 m s9) (j0 m (.inr (aag _ aaj))))
  ·have ZD:y∈A∨y=x∨y∈B:=by rw[e1] at hy;simpa using hy
   rcases ZD with ZD|rfl|ZD
   ·exact(h5 y hy).keep λk hk=>hold k (c8 k (C' k (hA y (.inl ZD) k hk))) (j0 k (.inr (hA y (.inl ZD) k hk)))
   ·refine⟨v,xs,_,hxf,⟨q3.1, ?_⟩,q4,q5⟩;rcases q3.2 with hn|⟨g,cp,kT,rfl,hb,hg,rest⟩
    ·exact .inl hn
    ·have w9:y.bk=some g:=by rw[←q4];rfl
     have hgm:g∈d::fp:=by rw[h6];exact aag _ (aag _ (List.mem_flatMap.2 ⟨y,hx,aag _ (by rw[w9];exact List.mem_singleton.2 rfl)⟩))
     exact .inr ⟨g,cp,kT,rfl,hb,(hold g (c8 g hgm) (j0 g (.inl (by rw[w9];exact List.mem_singleton.2 rfl)))).trans hg,rest⟩
   ·exact(h5 y hy).keep λk hk=>hold k (c8 k (C' k (hA y (.inr ZD) k hk))) (j0 k (.inr (hA y (.inr ZD) k hk)))
 ·rw[←hs,h4] at WV;obtain⟨x,hx,e⟩:=oF.1 WV;exact absurd e (j6 x hx)
def nK(x:Lit×DataW Unit):∀l:List (Lit×DataW Unit),(DataW.insert x l).Perm (x::l)
 | []=>.refl _
 |y::l=>by
  unfold DataW.insert;split
  ·exact .refl _
  ·exact((nK x l).cons y).trans (.swap _ _ _)
def A2{q:Bool}{room:Int}(q9:room<=1073741824){rows:List G}{nm bs:List Nat}(u5:1<=nm.length)(o5:nm.length<=64)(XL:1<=bs.length)(w7:(cB rows:Int)+bs.length<=room)(Y7:rows.length<4000){w:World}{ρ:Rho}{d:Nat}{fp:List Nat}{vs:List Value}(WD:∀b x,ρ.frz b=some x->b∉d::fp/\∃fr,w.heap[b]? =some (.cells x.1 x.2 fr))(c8:∀x∈d::fp,x<w.heap.size)(l6:LR ρ [.sS nm,.cv (.bytes bs)] vs)(hC:oE q room rows d fp w):
 Calls Tryz.prog 64 (Value.pointer (some ⟨d,0,none⟩)::vs).toArray w λe w'=>∃v fp',e= .returned v/\oE q room (dz nm bs.length rows) d fp' w'/\ObStep d fp fp' w w'/\∀ρ',VR ρ' (.sI .i64 0) v:=by
 obtain⟨m,lf,L,es,h1,h2,h3,h4,h5,h6,h7,h8,h9⟩:=hC
 obtain⟨v1,o7,rfl,oz,hn⟩:=LR.cons_inv (show LR ρ [.sS nm,.cv (.bytes bs)] vs from l6)
 obtain⟨v2,o7,rfl,vG,hn⟩:=LR.cons_inv hn
 obtain rfl:=LR.nil_inv hn
 obtain⟨s,hs,rfl⟩:=tq oz
 obtain⟨bb,off,cp,arr,ty,rfl,hf,m8,G'⟩:=O2 vG XL
 obtain⟨WX,fr,hbb⟩:=WD _ _ hf
 obtain⟨news,n1,n2,n3⟩:=Nq hbb m8 G'
 obtain⟨c0,c1,c2⟩:=dq h1
 have o9:1<=s.size:=by rw[←aM,hs];exact u5
 have Xh:s.size<=64:=na (by rw[hs];exact o5)
 have hU:bL (Ds w) es=cB rows:=by rw[qS h3 h5,h4]
 have ak5:L.length=rows.length:=by rw[h4,aaF]
 have hlen:es.length=L.length:=by rw[h3.length_eq,aaF]
 have WJ:∀p∈es,∀b:Nat,p.2= .lit (.int .i64 b)->PkF w b (Ds w p.2):=λp hp b hb=>by
  obtain⟨x,hx,rfl⟩:=List.mem_map.1 (h3.mem_iff.1 hp);rw[vj (h5 x hx)];have:(DataW.lit (Lit.int .i64 (x.f:Int)):DataW Unit)= .lit (.int .i64 b):=hb;injection this with this;injection this with _ this;have e:x.f=b:=by omega
  subst e;exact vh (h5 x hx) (by have:=jM hx;rw[←h4] at this;omega)
 have I':(bL (Ds w) es:Int)+bs.length<=room:=by rw[hU];exact w7
 have s9:m∈d::fp:=by rw[h6];exact aag _ aaj
 have Zi:∀k,k∈d::fp↔k=d∨k=m∨∃x∈L,k∈x.own:=λk=>by rw[h6,abr,abr,List.mem_flatMap]
 have Xl:cB (dz nm bs.length rows)<=1073741824:=by rw[yJ];omega
 rcases jr h2 h3 s (by unfold maxLen;omega) with⟨A,x,B,e1,e2,e3,b7⟩|⟨j6,b7⟩
 ·have hx:x∈L:=by rw[e1];simp
  obtain⟨a,cap,v,xs,lt,q1,q2,q3,q4,q5⟩:=qR (h5 x hx);have hxn:x.n+bs.length<=1073741824:=by have:=jM hx;rw[←h4] at this;omega
  have hP:(d::m::(A.flatMap PkE.own++(x.own++B.flatMap PkE.own))).Nodup:=by rw[←gN, ←e1, ←h6];exact h7
  have hP:=((js d m A B x.own).nodup_iff).1 hP;obtain⟨hQ1,hQ2⟩:=List.nodup_cons.1 (show(x.f::(x.bk.toList++(d::m::(A.flatMap PkE.own++B.flatMap PkE.own)))).Nodup from hP);have hbk:∀k,k∈(d::m::(A.flatMap PkE.own++B.flatMap PkE.own))->v.ownBlock≠some k:=λk hk e=>by rw[q4] at e;have:=(List.nodup_append.1 hQ2).2.2;exact this k (by rw[e];exact List.mem_singleton.2 rfl) k hk rfl
  have j0:∀k,k∈(d::m::(A.flatMap PkE.own++B.flatMap PkE.own))->k≠x.f:=λk hk e=>hQ1 (e▸abe _ hk);have Z0:v.ownBlock≠some x.f:=λe=>hQ1 (abd _ (by rw[←q4,e];exact List.mem_singleton.2 rfl));have C':∀k,k∈(d::m::(A.flatMap PkE.own++B.flatMap PkE.own))->k∈d::fp:=λk hk=>by rw[h6,e1,gN];exact((js d m A B x.own).mem_iff (a:=k)).2 (abe _ hk)
  have hA:∀y,y∈A∨y∈B->∀k∈y.own,k∈(d::m::(A.flatMap PkE.own++B.flatMap PkE.own)):=λy hy k hk=>by
   refine aag _ (aag _ (List.mem_append.2 ?_));rcases hy with hy|hy
   ·exact .inl (List.mem_flatMap.2 ⟨y,hy,hk⟩)
   ·exact .inr (List.mem_flatMap.2 ⟨y,hy,hk⟩)
  have XG:x.f∈d::fp:=(Zi _).2 (.inr (.inr ⟨x,hx,aaj⟩));refine(rD d m L.length x.f x.n bs.length cp room es (Ds w) s v xs news ⟨bb,off,none⟩ w c0 c1 c2 o9 Xh h2 WJ I' q9 b7 (by rw[cell_of_row _ _ _ _ _ _ q1];rfl) (frozen_of_row _ _ _ _ _ q1) q3 Z0 (hbk d aaj) (λe=>j0 d aaj e.symm) hxn n1 XL n2 n3).mono ?_;rintro e w' ⟨rfl,g,XY,w1,hg,Xp,Xj,rfl⟩;have hold:∀k,k<w.heap.size->v.ownBlock≠some k->k≠x.f->(w1.setCell ⟨x.f,0,none⟩ (.slice (some ⟨g,0,none⟩) (x.n+bs.length) XY)).heap[k]? =w.heap[k]? :=λk hk hn2 aj8=>by rw[heap_setCell_other _ _ _ _ aj8];exact hg.block k hk (λe=>hn2 e.symm)
  have u9:∀k,k∈(d::m::(A.flatMap PkE.own++B.flatMap PkE.own))->(w1.setCell ⟨x.f,0,none⟩ (.slice (some ⟨g,0,none⟩) (x.n+bs.length) XY)).heap[k]? =w.heap[k]? :=λk hk=>hold k (c8 k (C' k hk)) (hbk k hk) (j0 k hk);have ad5:g<w1.heap.size:=by obtain⟨g',_,U',_,m7⟩:=Xp.form (by omega);injection U' with U';injection U' with U';injection U' with U';rw[U'];exact m7
  have hgx:g≠x.f:=λe=>by
   rcases Xj with h|h
   ·exact Z0 (e▸h)
   ·have:=c8 _ XG;omega
  have hgk:∀k,k∈(d::m::(A.flatMap PkE.own++B.flatMap PkE.own))->g≠k:=λk hk e=>by
   rcases Xj with h|h
   ·exact hbk k hk (e▸h)
   ·have:=c8 _ (C' k hk);omega
  have ZT:∀y,y∈A++{x with bk:=some g,n:=x.n+bs.length}::B↔y∈A∨y={x with bk:=some g,n:=x.n+bs.length}∨y∈B:=λy=>by simp
  refine⟨_,m::(A++{x with bk:=some g,n:=x.n+bs.length}::B).flatMap PkE.own,rfl,⟨m,lf,A++{x with bk:=some g,n:=x.n+bs.length}::B,es, ?_, ?_, ?_, ?_,λy hy=>?_,rfl, ?_,Xl,λ_ hL=>absurd hL (by simp)⟩,⟨hg.os,hg.tape,hg.output,by simpa using hg.size,λk hk j6=>hold k hk (λe=>j6 ?_) (λe=>j6 (e▸XG)),λk hk=>?_⟩,λρ'=>.sI .i64 0⟩
  ·exact(u9 d aaj).trans h1
  ·have:(A++{x with bk:=some g,n:=x.n+bs.length}::B).length=L.length:=by rw[e1];simp
   rw[this];exact dp h2 (u9 m (aag _ aaj))
  ·rw[e1] at h3;simpa [PkE.ent] using h3
  ·rw[h4,e1, ←hs, ←e2];exact Q4 (λy hy=>by rw[e2];exact e3 y hy) _
  ·rcases(ZT y).1 hy with hy|rfl|hy
   ·exact(h5 y (by rw[e1];simp [hy])).keep λk hk=>u9 k (hA y (.inl hy) k hk)
   ·refine⟨.slice (some ⟨g,0,none⟩) (x.n+bs.length) XY,xs++news,lt,heap_setCell_same w1 x.f 0 #[v,.int .u32 lt] _ _ ((hg.block x.f (c8 _ XG) (λe=>Z0 e.symm)).trans q1),Xp.kept (gh w1 x.f 0 _) (.inr (λe=>hgx (by injection e))),rfl,λu hu=>(List.mem_append.1 hu).elim (q5 u) (n3 u)⟩
   ·exact(h5 y (by rw[e1];simp [hy])).keep λk hk=>u9 k (hA y (.inr hy) k hk)
  ·have hp:=js d m A B ({x with bk:=some g,n:=x.n+bs.length}:PkE).own;rw[gN];refine hp.nodup_iff.2 (List.nodup_cons.2 ⟨λhm=>?_,List.nodup_cons.2 ⟨λhm=>hgk g hm rfl,(List.nodup_append.1 hQ2).2.1⟩⟩);rcases List.mem_cons.1 hm with h|h
   ·exact hgx h.symm
   ·exact j0 _ h rfl
  ·rw[q4] at e;exact(Zi _).2 (.inr (.inr ⟨x,hx,aag _ (by rw[e];exact List.mem_singleton.2 rfl)⟩))
  ·rcases List.mem_cons.1 hk with rfl|hk
   ·rw[h6];exact .inl aaj
   ·obtain⟨y,hy,hky⟩:=List.mem_flatMap.1 hk;have re:∀y∈L,∀k∈y.own,k∈fp:=λy hy k hk=>by rw[h6];exact aag _ (List.mem_flatMap.2 ⟨y,hy,hk⟩)
    rcases(ZT y).1 hy with hy|rfl|hy
    ·exact .inl (re y (by rw[e1];simp [hy]) k hky)
    ·rcases List.mem_cons.1 hky with rfl|hky
     ·exact .inl (re x hx _ aaj)
     ·obtain rfl:=List.mem_singleton.1 hky;rcases Xj with h|h
      ·rw[q4] at h;exact .inl (re x hx _ (aag _ (by rw[h];exact List.mem_singleton.2 rfl)))
      ·exact .inr ⟨h,by simpa using ad5⟩
    ·exact .inl (re y (by rw[e1];simp [hy]) k hky)
 ·refine(rE d m L.length bs.length cp room es (Ds w) s news ⟨bb,off,none⟩ w c0 c1 c2 o9 Xh h2 WJ I' q9 b7 (by omega) (by omega) n1 XL n2 n3).mono ?_;rintro e w' ⟨rfl,b,g,XY,w1,hg,hb,hgb,Xy,ad3,Xp,ab6,ag7,rfl⟩;have ad5:g<w1.heap.size:=by obtain⟨g',_,U',_,m7⟩:=ab6.form (by omega);injection U' with U';injection U' with U';injection U' with U';rw[U'];exact m7
  have u9:∀k,k<w.heap.size->k≠m->(w1.setCell ⟨b,0,none⟩ (.slice (some ⟨g,0,none⟩) bs.length XY)).heap[k]? =w.heap[k]? :=λk hk j0=>by rw[heap_setCell_other _ _ _ _ (show k≠b by omega)];exact hg.block k hk (λe=>j0 (Option.some.inj e))
  obtain⟨hdm,YC⟩:=List.nodup_cons.1 h7;have hdm:d≠m:=λe=>hdm (by rw[h6,e];exact aaj);rw[h6] at YC;obtain⟨hm1,YC⟩:=List.nodup_cons.1 YC;have al7:∀k∈d::fp,k<w.heap.size:=c8;refine⟨_,m::(L++ [(⟨s,b,some g,bs.length⟩:PkE)]).flatMap PkE.own,rfl,⟨m,lf,L++ [(⟨s,b,some g,bs.length⟩:PkE)],DataW.insert (.string s.data.toList,.lit (.int .i64 b)) (es.filter λp=>!p.1.sameKey (.string s.data.toList)), ?_, ?_, ?_, ?_,λy hy=>?_,rfl, ?_,Xl,λ_ hL=>absurd hL (by simp)⟩,⟨hg.os,hg.tape,hg.output,by simpa using hg.size,λk hk j6=>u9 k hk (λe=>j6 (e▸s9)),λk hk=>?_⟩,λρ'=>.sI .i64 0⟩
  ·exact(u9 d (c8 d aaj) hdm).trans h1
  ·have e:(L++ [(⟨s,b,some g,bs.length⟩:PkE)]).length=L.length+1:=by simp
   rw[e];exact Xp.kept (gh w1 b 0 _) (λe=>by have:=c8 m s9;have:=Option.some.inj e;omega)
  ·have aj9:es.filter (λp=>!p.1.sameKey (.string s.data.toList))=es:=List.filter_eq_self.2 λp hp=>by obtain⟨x,hx,rfl⟩:=List.mem_map.1 (h3.mem_iff.1 hp);have:x.ent.1.sameKey (.string s.data.toList)=false:=Maps.sameKey_ne λe=>j6 x hx (Du.1 e);rw[this];rfl
   rw[aj9,Zy];exact((nK _ _).trans (h3.cons _)).trans (List.perm_append_comm (l₁:=[(⟨s,b,some g,bs.length⟩:PkE).ent]))
  ·rw[h4, ←hs,Q3 j6,Zy];rfl
  ·rcases List.mem_append.1 hy with hy|hy
   ·refine(h5 y hy).keep λk hk=>u9 k (c8 k ((Zi k).2 (.inr (.inr ⟨y,hy,hk⟩)))) (λe=>hm1 (e▸List.mem_flatMap.2 ⟨y,hy,hk⟩))
   ·obtain rfl:=List.mem_singleton.1 hy;exact⟨.slice (some ⟨g,0,none⟩) bs.length XY,news,0,heap_setCell_same w1 b 0 #[.slice none 0 0,.int .u32 0] _ _ ag7,ab6.kept (gh w1 b 0 _) (.inr (λe=>Xy (by injection e with e;exact e.symm))),rfl,n3⟩
  ·have e:(d::m::(L++ [(⟨s,b,some g,bs.length⟩:PkE)]).flatMap PkE.own)=(d::fp)++ [b,g]:=by rw[h6];simp [PkE.own]
   rw[e];refine List.nodup_append.2 ⟨h7,by simp [Xy],λk hk k' hk'=>?_⟩;have:=c8 k hk;rcases List.mem_cons.1 hk' with rfl|hk'
   ·omega
   ·obtain rfl:=List.mem_singleton.1 hk';omega
  ·have e:m::(L++ [(⟨s,b,some g,bs.length⟩:PkE)]).flatMap PkE.own=fp++ [b,g]:=by rw[h6];simp [PkE.own]
   rw[e] at hk;rcases List.mem_append.1 hk with hk|hk
   ·exact .inl hk
   ·right;rw[World.size_setCell];rcases List.mem_cons.1 hk with rfl|hk
    ·exact⟨hb,ad3⟩
    ·obtain rfl:=List.mem_singleton.1 hk;exact⟨hgb,ad5⟩
def yK{nm:List Nat}{l:List G}(h:cJ nm l):∃r∈l,gS (ah r 0)=nm:=h
def vm:cB []=0:=rfl
def Dv(nm:List Nat)(n:Nat):dz nm n []= [.node [.str nm,.int n]]:=rfl
attribute [irreducible] oE cB cJ dz
end
open Go.RowKit Go.Maps Go.Sym
def Fs{w w':World}{m:Nat}(h:w.mapTurned w' m){p:Addr}{v:Value}(hp:p.block≠m)(hc:w.cell? p=some v):w'.cell? p=some v:=by exact h.grown.cell hc (λe=>hp (by first|exact(Option.some.inj e).symm|exact Option.some.inj e|exact e|exact e.symm))
def Fu(d m n b:Nat)(es:List (Lit×DataW Unit))(s:ByteArray)(w:World)(c1:w.cell? ⟨d,1,none⟩=some (.map (some m)))(c2:w.cell? ⟨d,2,none⟩=some (.bool false))(h1:1<=s.size)(h2:s.size<=64)(d6:w.ownsMap Tryz.prog 9 dH m n (.map es))(hdm:d≠m)(b7:∀W:World,W.heap[m]? =w.heap[m]? ->(Instr.lookup 69 (.map (some m)) (.string s) false).run Tryz.prog W= .ok (.pointer (some ⟨b,0,none⟩)) W):
 Calls Tryz.prog 89 #[.pointer (some ⟨d,0,none⟩),.string s] w λe w'=>e= .returned (.int .i64 0)/\w'.ownsMap Tryz.prog 9 dH m n ((DataW.map es).del (.string s.data.toList))/\(w.alloc (.cells #[.string s] 9)).mapTurned w' m:=by
 have XW:=d6.lt
 have hg:=World.grownBy_alloc w (.cells #[.string s] 9) none
 have Xa:=b7 (w.alloc (.cells #[.string s] 9)) (heap_alloc_old w _ XW)
 have x7:=d6.kept hg (by simp)
 have cs:(w.alloc (.cells #[.string s] 9)).cell? ⟨w.heap.size,0,none⟩=some (.string s):=by simp
 have YH:keyOf Tryz.prog 9 (.string s)=some (.string s.data.toList):=WideMaps.keyOf_string_mk Tryz.underlying9 (by unfold maxLen;omega)
 replace c1:=aH hg c1
 have YJ:=aH hg c2
 clear b7 d6 hg
 go_enter Tryz.func89,Tryz.ntmps89
 go_wp2_with (first
  |(go_at_call 122;refine(qP _ _ _ _ YJ h1 h2 cs).mono ?_;rintro e w2 ⟨rfl,rfl⟩)
  |(at_delete;refine wpList_delete_own _ rfl _ _ 69 9 rfl 70 jq Tryz.underlying69 dH m n (.map es) rfl x7 _ _ rfl YH ?_;intro w1 Xp Zj)
  |(go_at_call 123;refine(mn _ _ (Fs Zj hdm YJ)).mono ?_;rintro e w2 ⟨rfl,rfl⟩)
  |go_in)
 go_ret
 exact⟨rfl,Xp,Zj⟩
set_option maxRecDepth 100000 in
set_option maxHeartbeats 4000000 in
def qU(d m n M sc:Nat)(room:Int)(es:List (Lit×DataW Unit))(f:DataW Unit->Nat)(s:ByteArray)(o:Option Addr)(ad:Addr)(w:World)(c0:w.cell? ⟨d,0,none⟩=some (.int .i64 room))(c1:w.cell? ⟨d,1,none⟩=some (.map (some m)))(c2:w.cell? ⟨d,2,none⟩=some (.bool false))(h1:1<=s.size)(h2:s.size<=64)(d6:w.ownsMap Tryz.prog 9 dH m n (.map es))(WJ:∀p∈es,∀b:Nat,p.2= .lit (.int .i64 b)->PkF w b (f p.2))(hle:bL f es<=1073741824)(I':room<(bL f es:Int)+M)(q9:0<=room/\room<=1073741824)(hM:M<=1073741824)(b7:∀W:World,W.heap[m]? =w.heap[m]? ->(Instr.lookup 69 (.map (some m)) (.string s) false).run Tryz.prog W= .ok (.pointer o) W):
 Calls Tryz.prog 64 #[.pointer (some ⟨d,0,none⟩),.string s,.slice (some ad) M sc] w λe w'=>e= .returned (.int .i64 6)/\w.grownBy w' none:=by
 have XW:=d6.lt
 have hg:=World.grownBy_alloc w (.cells #[.string s] 9) none
 have cs:(w.alloc (.cells #[.string s] 9)).cell? ⟨w.heap.size,0,none⟩=some (.string s):=by simp
 have Xa:=b7 (w.alloc (.cells #[.string s] 9)) (heap_alloc_old w _ XW)
 have c0':=aH hg c0
 have c1':=aH hg c1
 have YJ:=aH hg c2
 clear b7
 go_enter Tryz.func64,Tryz.ntmps64
 go_wp2_with (first
  |(go_at_call 122;refine(qP _ _ _ _ YJ h1 h2 cs).mono ?_;rintro e w2 ⟨rfl,rfl⟩)
  |fail)
 have x7:=d6.kept hg (by simp)
 have XX:∀p∈es,∀b:Nat,p.2= .lit (.int .i64 b)->PkF (w.alloc (.cells #[.string s] 9)) b (f p.2):=λp hp b hb=>(WJ p hp b hb).grown hg
 clear d6 WJ c0 c1
 generalize hT:bL f es=T at I'
 have YA:decide (IntKind.i64.wrap (room-(T:Int))<(M:Int))=true:=by rw[IntKind.wrap_i64];exact decide_eq_true (by omega)
 refine wp_region_held_drew (S:=λw'=>w'.cell? ⟨d,0,none⟩=some (.int .i64 room)/\w'.cell? ⟨d,1,none⟩=some (.map (some m))/\(w.alloc (.cells #[.string s] 9)).grownBy w' none) (by kernel_rfl) ⟨c0',c1',rfl,rfl,rfl,aab _,λ_ _ _=>rfl⟩ (λd7=>?_)
 refine nJ 0 d7 ?_
 (try simp only [Act.put,aao,aap,aaq])
 refine nJ 1 d7 ?_
 (try simp only [Act.put,aao,aap,aaq])
 refine nJ 2 d7 ?_
 (try simp only [Act.put,aao,aap,aaq])
 refine nJ 3 d7 ?_
 (try simp only [Act.put,aao,aap,aaq])
 refine nJ 4 d7 ?_
 (try simp only [Act.put,aao,aap,aaq])
 refine nJ 5 d7 ?_
 (try simp only [Act.put,aao,aap,aaq])
 refine nJ 6 d7 ?_
 (try simp only [Act.put,aao,aap,aaq])
 refine wpAnyH_ready (rs:=[7]) (by kernel_rfl) (by simp) ?_
 refine AllReadyH.cons rfl (λK hK=>?_) AllReadyH.nil
 go_simp
 refine(yI x7 XX hle d7).mono ?_
 rintro e w2 ⟨rfl,d8⟩
 refine hK.out _ _ d8 (λd7=>?_)
 refine nJ 8 d7 ?_
 (try simp only [Act.put,aao,aap,aaq])
 refine nJ 9 d7 ?_
 (try simp only [Act.put,aao,aap,aaq])
 refine nJ 10 d7 ?_
 (try simp only [Act.put,aao,aap,aaq])
 refine zg 11 d7 ?_
 (try simp only [Act.put,aao,aap,aaq])
 refine zg 12 d7 ?_
 (try simp only [Act.put,aao,aap,aaq])
 refine zg 13 d7 ?_
 (try simp only [Act.put,aao,aap,aaq])
 refine zg 14 d7 ?_
 (try simp only [Act.put,aao,aap,aaq])
 refine zg 15 d7 ?_
 (try simp only [Act.put,aao,aap,aaq])
 refine zg 16 d7 ?_
 (try simp only [Act.put,aao,aap,aaq])
 refine zg 17 d7 ?_
 (try simp only [Act.put,aao,aap,aaq])
 refine zg 18 d7 ?_
 (try simp only [Act.put,aao,aap,aaq])
 refine zg 19 d7 ?_
 (try simp only [Act.put,aao,aap,aaq])
 refine zg 20 d7 ?_
 (try simp only [Act.put,aao,aap,aaq])
 refine nJ 21 d7 ?_
 (try simp only [Act.put,aao,aap,aaq])
 refine wpAnyH_done (by kernel_rfl) ?_ _
 obtain⟨a0,a1,hg2⟩:=d8
 have T':w.grownBy w2 none:=hg.trans hg2
 clear x7 XX hle Xa cs c0' c1' YJ
 go_wp2
 go_ret
 exact⟨rfl,T'⟩
def Q5(ad:Addr)(N c:Nat)(w:World):(binOp .eql 105 (.slice (some ad) N c) (.slice none 0 0)).run Tryz.prog w= .ok (.bool false) w:=by
 have:∀D:Nat,(Op.equalIn (D+1) 105 (.slice (some ad) N c) (.slice none 0 0)).run Tryz.prog w= .ok false w:=λD=>by simp [Op.equalIn,run_underlying Tryz.underlying105]
 have e:(Op.equal 105 (.slice (some ad) N c) (.slice none 0 0)).run Tryz.prog w= .ok false w:=this 9999;show(Sem.run Tryz.prog (Op.equal 105 (.slice (some ad) N c) (.slice none 0 0) >>=λr=>(pure (Value.bool r):Sem Value)) w)=_;rw[aaa,e];rfl
set_option maxRecDepth 100000 in
def Kp(ad:Addr)(N c:Nat)(news:List Value)(w:World)(hl:news.length=N)(hN:0<N)(hm:N<=1073741824)(WB:∀j u,news[j]? =some u->w.cell? (ad.add j)=some u)(p8:∀u∈news,u.oneCell'=true):
 Calls Tryz.prog 149 #[.slice (some ad) N c] w λe w'=>(∃g cap,e= .returned (.slice (some ⟨g,0,none⟩) N cap))/\w.grownBy w' none:=by
 obtain⟨i0,hi,XB,ZI,hz2⟩:=info_parts qQ
 have hg:=World.grownBy_alloc w (.cells #[] 5) none
 have WI:(w.alloc (.cells #[] 5)).ownsRow 0 5 1 (.slice (some ⟨w.heap.size,0,none⟩) 0 0) 0 []:=by exact⟨rfl,.inr ⟨w.heap.size,0, #[],rfl,aan _,heap_alloc_new w _,aab _,aan _,rfl,rfl⟩⟩
 have WL:∀j u,news[j]? =some u->(w.alloc (.cells #[] 5)).cell? (ad.add j)=some u:=λj u hj=>aH hg (WB j u hj)
 go_enter Tryz.func149,Tryz.ntmps149
 have hq:=Q5 ad N c w
 go_wp2_with (first
  |(at_builtin;refine wpList_append_lies _ rfl _ _ 105 rfl 0 5 i0 (.int .u8 0) 1 1 Tryz.underlying105 hi XB ZI hz2 rfl (by decide) (.slice (some ⟨w.heap.size,0,none⟩) 0 0) 0 [] rfl WI ad N c news rfl (by omega) WL p8 hN (by unfold maxLen;omega) (by omega) (aan _) _ rfl ?_;intro g cap w3 Yx l3 YE ad4)
  |go_in)
 go_ret
 exact⟨⟨g,cap,rfl⟩,⟨l3.os,l3.tape,l3.output,aaH (by simp) l3.size,λk hk _=>(l3.block k (by simp;omega) (by intro e;have:=Option.some.inj e;simp at this;omega)).trans (heap_alloc_old w _ hk)⟩⟩
set_option maxRecDepth 100000 in
def Kq(d m b N c:Nat)(ad:Addr)(news:List Value)(s:ByteArray)(w:World)(c1:w.cell? ⟨d,1,none⟩=some (.map (some m)))(b7:∀W:World,W.heap[m]? =w.heap[m]? ->(Instr.lookup 69 (.map (some m)) (.string s) false).run Tryz.prog W= .ok (.pointer (some ⟨b,0,none⟩)) W)(e0:w.cell? ⟨b,0,none⟩=some (.slice (some ad) N c))(hl:news.length=N)(hN:0<N)(hm:N<=1073741824)(WB:∀j u,news[j]? =some u->w.cell? (ad.add j)=some u)(p8:∀u∈news,u.oneCell'=true):
 Calls Tryz.prog 81 #[.pointer (some ⟨d,0,none⟩),.string s] w λe w'=>(∃g cap,e= .returned (.tuple #[.slice (some ⟨g,0,none⟩) N cap,.int .i64 0]))/\w.grownBy w' none:=by
 have b7:=b7 w rfl
 go_enter Tryz.func81,Tryz.ntmps81
 go_wp2_with (first
  |(go_at_call 149;refine(Kp ad N c news w hl hN hm WB p8).mono ?_;rintro e w2 ⟨⟨g,cap,rfl⟩,hg2⟩)
  |go_in)
 go_ret2
 exact⟨⟨g,cap,rfl⟩,hg2⟩
noncomputable section
open Classical in
def cu(nm:List Nat)(l:List G):List G:=l.filter λr=>decide (¬gS (ah r 0)=nm)
def yL{A B:List PkE}{x:PkE}(hA:∀y∈A,y.nm≠x.nm)(hB:∀y∈B,y.nm≠x.nm):cu (bytesOf x.nm) ((A++x::B).map PkE.row)=(A++B).map PkE.row:=by
 have key:∀L:List PkE,(∀y∈L,y.nm≠x.nm)->(L.map PkE.row).filter (λr=>decide (¬gS (ah r 0)=bytesOf x.nm))=L.map PkE.row:=λL hL=>List.filter_eq_self.2 λr hr=>by obtain⟨y,hy,rfl⟩:=List.mem_map.1 hr;exact decide_eq_true λe=>hL y hy (dS e)
 unfold cu;rw[Zy,aaw,List.filter_append,abh (by have:gS (ah x.row 0)=bytesOf x.nm:=rfl;simp [this]),key A hA,key B hB,Zy]
def yM{m n:Nat}{l:List (Lit×DataW Unit)}{w:World}(h:w.ownsMap Tryz.prog 9 dH m n (.map l)):w.ownsMap Tryz.prog 9 dH m l.length (.map l):=by obtain⟨es,c,hb,F,hs,he⟩:=h;refine⟨es,c,hb,F, ?_,he⟩;injection he with he;rw[he,length_sorted];simp
def A3{room:Int}{rows:List G}{nm:List Nat}(WV:cJ nm rows)(u5:1<=nm.length)(o5:nm.length<=64){w:World}{ρ:Rho}{d:Nat}{fp:List Nat}{vs:List Value}(c8:∀x∈d::fp,x<w.heap.size)(l6:LR ρ [.sS nm] vs)(hC:oE false room rows d fp w):
 Calls Tryz.prog 89 (Value.pointer (some ⟨d,0,none⟩)::vs).toArray w λe w'=>∃v fp',e= .returned v/\oE false room (cu nm rows) d fp' w'/\ObStep d fp fp' w w'/\∀ρ',VR ρ' (.sI .i64 0) v:=by
 unfold oE at hC
 obtain⟨m,lf,L,es,h1,h2,h3,h4,h5,h6,h7,h8,h9⟩:=hC
 obtain⟨v,o7,rfl,hv,hn⟩:=LR.cons_inv l6
 obtain rfl:=LR.nil_inv hn
 obtain⟨s,hs,rfl⟩:=tq hv
 obtain⟨_,c1,c2⟩:=dq h1
 have o9:1<=s.size:=by rw[←aM,hs];exact u5
 have Xh:s.size<=64:=na (by rw[hs];exact o5)
 have hdm:d≠m:=λe=>(List.nodup_cons.1 h7).1 (by rw[h6,e];exact aaj)
 obtain⟨o4,he,YP,_⟩:=h2.entries jq
 injection he with he;subst he
 rcases jr h2 h3 s (by unfold maxLen;omega) with⟨A,x,B,e1,e2,e3,b7⟩|⟨j6,_⟩
 ·have hx:x∈L:=by rw[e1];simp
  have YF:∀y∈L,∀k∈y.own,k∈fp:=λy hy k hk=>by rw[h6];exact aag _ (List.mem_flatMap.2 ⟨y,hy,hk⟩)
  have ag8:(L.map PkE.ent).Pairwise (λp q=>p.1≠q.1):=(h3.pairwise_iff (λh=>Ne.symm h)).1 YP;have hB:∀y∈B,y.nm≠x.nm:=λy hy e=>by rw[e1,Zy,aaw] at ag8;have:=(List.pairwise_cons.1 (List.pairwise_append.1 ag8).2.1).1 y.ent (abf hy);exact this (by show Lit.string x.nm.data.toList= .string y.nm.data.toList;rw[e])
  have hA:∀y∈A,y.nm≠x.nm:=λy hy=>by rw[e2];exact e3 y hy
  have aj_:(DataW.map es).del (.string s.data.toList)= .map (es.filter λp=>!p.1.sameKey (.string s.data.toList)):=rfl;have hp:(es.filter λp=>!p.1.sameKey (.string s.data.toList)).Perm ((A++B).map PkE.ent):=by
   refine(h3.filter _).trans ?_;have keep:∀M:List PkE,(∀y∈M,y.nm≠x.nm)->(M.map PkE.ent).filter (λp=>!p.1.sameKey (.string s.data.toList))=M.map PkE.ent:=λM hM=>List.filter_eq_self.2 λp hp=>by obtain⟨y,hy,rfl⟩:=List.mem_map.1 hp;have:y.ent.1.sameKey (.string s.data.toList)=false:=Maps.sameKey_ne λe=>hM y hy (by rw[e2];exact Du.1 e);rw[this];rfl
   have hk:x.ent.1.sameKey (.string s.data.toList)=true:=(Dt (kl:=.string s.data.toList) trivial _).2 (by rw[←e2];rfl);rw[e1,Zy,aaw,List.filter_append,abh (by rw[hk];simp),keep A hA,keep B hB,Zy]
  refine(Fu d m L.length x.f es s w c1 c2 o9 Xh h2 hdm b7).mono ?_;rintro e w' ⟨rfl,d6,XZ⟩;rw[aj_] at d6;have hlen:(es.filter λp=>!p.1.sameKey (.string s.data.toList)).length=(A++B).length:=by rw[hp.length_eq,aaF]
  have d6:=yM d6;rw[hlen] at d6;have hg:w.grownBy w' (some m):=⟨XZ.grown.os,XZ.grown.tape,XZ.grown.output,aaH (by simp) XZ.grown.size,λk hk j0=>(XZ.grown.block k (by simp;omega) j0).trans (heap_alloc_old w _ hk)⟩
  have u9:∀k,k∈d::fp->k≠m->w'.heap[k]? =w.heap[k]? :=λk hk j0=>hg.block k (c8 k hk) (λe=>j0 (Option.some.inj e));obtain⟨_,YC⟩:=List.nodup_cons.1 h7;rw[h6] at YC;obtain⟨hm1,YC⟩:=List.nodup_cons.1 YC;have sub:∀y∈A++B,y∈L:=λy hy=>by
   rw[e1];rcases List.mem_append.1 hy with h|h
   ·exact abd _ h
   ·exact abe _ (aag _ h)
  have Yb:(m::(A++B).flatMap PkE.own).Sublist fp:=by rw[h6,e1];refine List.Sublist.cons_cons _ ?_;rw[List.flatMap_append,List.flatMap_append,abL];exact(List.Sublist.refl _).append (List.sublist_append_right _ _)
  have hU:cB (cu nm rows)<=cB rows:=by
   have e:rows=(A.map PkE.row)++(x.row::B.map PkE.row):=by rw[h4,e1,Zy,aaw]
   have e':cu nm rows=A.map PkE.row++B.map PkE.row:=by rw[h4,e1, ←hs, ←e2,yL hA hB,Zy]
   rw[e',e,vg,vg];have:cB (x.row::B.map PkE.row)=(gI (ah x.row 1)).toNat+cB (B.map PkE.row):=by rw[cB]
   omega
  refine⟨_,m::(A++B).flatMap PkE.own,rfl, ?_,⟨hg.os,hg.tape,hg.output,hg.size,λk hk j6=>hg.block k hk (λe=>j6 ?_),λk hk=>.inl ?_⟩,λρ'=>.sI .i64 0⟩
  ·unfold oE;refine⟨m,lf,A++B,_,(u9 d aaj hdm).trans h1,d6,hp, ?_,λy hy=>(h5 y (sub y hy)).keep λk hk=>u9 k (aag _ (YF y (sub y hy) k hk)) (λe=>hm1 (e▸List.mem_flatMap.2 ⟨y,sub y hy,hk⟩)),rfl,(h7.sublist (Yb.cons_cons d)),aaH hU h8,λh=>by cases h⟩;rw[h4,e1, ←hs, ←e2,yL hA hB]
  ·obtain rfl:=Option.some.inj e;rw[h6];exact aag _ aaj
  ·exact Yb.subset hk
 ·rw[←hs,h4] at WV;obtain⟨x,hx,e⟩:=oF.1 WV;exact absurd e (j6 x hx)
def Kr{q:Bool}{room:Int}(q9:0<=room/\room<=1073741824){rows:List G}{nm bs:List Nat}(u5:1<=nm.length)(o5:nm.length<=64)(XL:1<=bs.length)(XA:bs.length<=1073741824)(j6:room<(cB rows:Int)+bs.length){w:World}{ρ:Rho}{d:Nat}{fp:List Nat}{vs:List Value}(c8:∀x∈d::fp,x<w.heap.size)(l6:LR ρ [.sS nm,.cv (.bytes bs)] vs)(hC:oE q room rows d fp w):
 Calls Tryz.prog 64 (Value.pointer (some ⟨d,0,none⟩)::vs).toArray w λe w'=>∃v fp',e= .returned v/\oE q room rows d fp' w'/\ObStep d fp fp' w w'/\∀ρ',VR ρ' (.sI .i64 6) v:=by
 have ZU:=hC
 unfold oE at hC
 obtain⟨m,lf,L,es,h1,h2,h3,h4,h5,h6,h7,h8,h9⟩:=hC
 obtain⟨v1,o7,rfl,oz,hn⟩:=LR.cons_inv l6
 obtain⟨v2,o7,rfl,vG,hn⟩:=LR.cons_inv hn
 obtain rfl:=LR.nil_inv hn
 obtain⟨s,hs,rfl⟩:=tq oz
 obtain⟨bb,off,cp,arr,ty,rfl,hf,m8,G'⟩:=O2 vG XL
 obtain⟨c0,c1,c2⟩:=dq h1
 have o9:1<=s.size:=by rw[←aM,hs];exact u5
 have Xh:s.size<=64:=na (by rw[hs];exact o5)
 have hU:bL (Ds w) es=cB rows:=by rw[qS h3 h5,h4]
 have WJ:∀p∈es,∀b:Nat,p.2= .lit (.int .i64 b)->PkF w b (Ds w p.2):=λp hp b hb=>by
  obtain⟨x,hx,rfl⟩:=List.mem_map.1 (h3.mem_iff.1 hp);rw[vj (h5 x hx)];have:(DataW.lit (Lit.int .i64 (x.f:Int)):DataW Unit)= .lit (.int .i64 b):=hb;injection this with this;injection this with _ this;have e:x.f=b:=by omega
  subst e;exact vh (h5 x hx) (by have:=jM hx;rw[←h4] at this;omega)
 have key:∃o,∀W:World,W.heap[m]? =w.heap[m]? ->(Instr.lookup 69 (.map (some m)) (.string s) false).run Tryz.prog W= .ok (.pointer o) W:=by
  rcases jr h2 h3 s (by unfold maxLen;omega) with⟨A,x,B,_,_,_,b7⟩|⟨_,b7⟩
  ·exact⟨_,b7⟩
  ·exact⟨_,b7⟩
 obtain⟨o,b7⟩:=key
 refine(qU d m L.length bs.length cp room es (Ds w) s o ⟨bb,off,none⟩ w c0 c1 c2 o9 Xh h2 WJ (by rw[hU];exact h8) (by rw[hU];exact j6) q9 XA b7).mono ?_
 rintro e w' ⟨rfl,hg⟩
 have hk:∀x∈d::fp,w'.heap[x]? =w.heap[x]? :=λx hx=>hg.block x (c8 x hx) (by simp)
 exact⟨_,fp,rfl,jL q room rows d fp w w' hk ZU,⟨hg.os,hg.tape,hg.output,hg.size,λk hk _=>hg.block k hk (by simp),λx hx=>.inl hx⟩,λρ'=>.sI .i64 6⟩
def Fv{q:Bool}{room:Int}{rows:List G}{nm:List Nat}(WV:cJ nm rows)(o5:nm.length<=64)(i4:∀r∈rows,1<=gI (ah r 1)){w:World}{ρ:Rho}{d:Nat}{fp:List Nat}{vs:List Value}(c8:∀x∈d::fp,x<w.heap.size)(l6:LR ρ [.sS nm] vs)(hC:oE q room rows d fp w):
 Calls Tryz.prog 81 (Value.pointer (some ⟨d,0,none⟩)::vs).toArray w λe w'=>∃v fp',e= .returned v/\oE q room rows d fp' w'/\ObStep d fp fp' w w'/\∀ρ',VR ρ' (.tup [.any1,.sI .i64 0]) v:=by
 have ZU:=hC
 unfold oE at hC
 obtain⟨m,lf,L,es,h1,h2,h3,h4,h5,h6,h7,h8,h9⟩:=hC
 obtain⟨v1,o7,rfl,oz,hn⟩:=LR.cons_inv l6
 obtain rfl:=LR.nil_inv hn
 obtain⟨s,hs,rfl⟩:=tq oz
 obtain⟨_,c1,_⟩:=dq h1
 have Xh:s.size<=64:=na (by rw[hs];exact o5)
 rcases jr h2 h3 s (by unfold maxLen;omega) with⟨A,x,B,e1,e2,e3,b7⟩|⟨j6,_⟩
 ·have hx:x∈L:=by rw[e1];simp
  obtain⟨a,cap,v,xs,lt,q1,q2,q3,q4,q5⟩:=qR (h5 x hx);have hp:1<=x.n:=by have:=i4 x.row (by rw[h4];exact abf hx);have:(1:Int)<=(x.n:Int):=this;omega
  have hxm:x.n<=1073741824:=aaH (jM hx) (by rw[←h4];exact h8);obtain⟨hl,hr⟩:=q3;rcases hr with⟨_,hn⟩|⟨g,cp,kT,rfl,_,hg,hcp,_,Xz,YT⟩
  ·omega
  ·rw[aaC] at hl Xz YT;refine(Kq d m x.f x.n cp ⟨g,0,none⟩ xs s w c1 b7 (by rw[cell_of_row _ _ _ _ _ _ q1];rfl) hl hp hxm (λj u hj=>?_) q5).mono ?_
   ·rw[Addr.add_lit,cell_of_row _ _ _ _ _ _ hg,aam];rw[←YT,aaV] at hj;split at hj
    ·simpa using hj
    ·cases hj
   ·rintro e w' ⟨⟨g',XY,rfl⟩,T'⟩;have hk:∀x∈d::fp,w'.heap[x]? =w.heap[x]? :=λx hx=>T'.block x (c8 x hx) (by simp)
    refine⟨_,fp,rfl,jL q room rows d fp w w' hk ZU,⟨T'.os,T'.tape,T'.output,T'.size,λk hk _=>T'.block k hk (by simp),λx hx=>.inl hx⟩,λρ'=>.tup _ _ rfl ?_⟩;exact(LR.arr (cs:= #[.slice (some ⟨g',0,none⟩) x.n XY,.int .i64 0]) (LR.cons (.any1 _ rfl) (LR.cons (.sI .i64 0) (LR.nil _)))).2
 ·rw[←hs,h4] at WV;obtain⟨x,hx,e⟩:=oF.1 WV;exact absurd e (j6 x hx)
end
noncomputable section
open Classical in
def dR(room:Int)(r:List G):List G:=.node [.int room]::r
def bX(l:List G):Int:=gI (ah (l.headD (.node [])) 0)
def bn(l:List G):List G:=l.drop 1
theorem ir(room:Int)(r:List G):bX (dR room r)=room:=rfl
theorem iu(room:Int)(r:List G):bn (dR room r)=r:=rfl
def ez(l:List G)(d:Nat)(fp:List Nat)(w:World):Prop:=l=dR (bX l) (bn l)/\(0<=bX l/\bX l<=1073741824)/\oE false (bX l) (bn l) d fp w
def fW(l:List G):kx (ez l):=λd fp w w' hk ⟨h1,h2,h3⟩=>⟨h1,h2,jL _ _ _ d fp w w' hk h3⟩
def rF:List BSh:=[.obj 2 ez 20]
def Ks(l:List G):Prop:=∀r∈bn l,1<=gI (ah r 1)
def Kt:FSpec:=⟨[.c (.i .i64 1)],[],λz=>1<=z.i 1/\z.i 1<=1073741824,λ_=>.tu [.c (.p 0),.c (.i .i64 30)],λ_=>rF,λz y=>y.g 20=dR (z.i 1) []/\y.i 30=0,[]⟩
def nc:FSpec:=⟨[.c (.p 0),.c (.s 5)],rF,λz=>Ks (z.g 20)/\(z.s 5).length<=64,λ_=>.tu [.c .o,.c (.i .i64 30)],λ_=>rF,λz y=>y.g 20=z.g 20/\(cJ (z.s 5) (bn (z.g 20))->y.i 30=0)/\(¬cJ (z.s 5) (bn (z.g 20))->y.i 30=7),[]⟩
def A4:FSpec:=⟨[.c (.p 0),.c (.s 5)],rF,λz=>cJ (z.s 5) (bn (z.g 20))/\(1<=(z.s 5).length/\(z.s 5).length<=64),λ_=>.one (.c (.i .i64 30)),λ_=>rF,λz y=>y.g 20=z.g 20/\y.i 30=0,[]⟩
def qV:FSpec:=⟨[.c (.p 0),.c (.s 5)],rF,λz=>cJ (z.s 5) (bn (z.g 20))/\(1<=(z.s 5).length/\(z.s 5).length<=64),λ_=>.one (.c (.i .i64 30)),λ_=>rF,λz y=>y.g 20=dR (bX (z.g 20)) (cu (z.s 5) (bn (z.g 20)))/\y.i 30=0,[]⟩
def qW:FSpec:=⟨[.c (.p 0),.c (.s 5),.c (.vb 6)],rF,λz=>(1<=(z.s 5).length/\(z.s 5).length<=64)/\(1<=(z.s 6).length/\(z.s 6).length<=1000000)/\(bn (z.g 20)).length<4000,λ_=>.one (.c (.i .i64 30)),λ_=>rF,λz y=>((cB (bn (z.g 20)):Int)+(z.s 6).length<=bX (z.g 20)->y.g 20=dR (bX (z.g 20)) (dz (z.s 5) (z.s 6).length (bn (z.g 20)))/\y.i 30=0)/\(¬(cB (bn (z.g 20)):Int)+(z.s 6).length<=bX (z.g 20)->y.g 20=z.g 20/\y.i 30=6),[]⟩
def Q6:Ok Tryz.prog 18 Kt:=by
 refine SH (k:=2) (C:=ez) (S:=Kt) fW (λz=>dR (z.i 1) []) (λ_=>.tup [.ptr (base+64) 0 0,.sI .i64 0]) (λz=>[(20,.g (dR (z.i 1) [])),(30,.i 0)]) rfl rfl (λz h=>⟨rfl,rfl⟩) (λz=>⟨_,rfl,⟨rfl,trivial⟩,rfl⟩) (λargs w=>Tryz.call18 args w) ?_;rintro z ⟨ZI,hz2⟩ w ρ vs l6;obtain⟨v1,o7,rfl,oz,hn⟩:=LR.cons_inv (show LR ρ [.sI .i64 (z.i 1)] vs from l6);obtain rfl:=LR.nil_inv hn;obtain rfl:=O1 oz;generalize z.i 1=room at ZI hz2;refine(Q2 room w (by omega) (by omega)).mono ?_;rintro e w' ⟨rfl,rfl⟩;have e1:((w.alloc (.map #[] 0)).alloc (.cells #[.int .i64 room,.map (some w.heap.size),.bool false,.int .i64 0] 72)).heap[w.heap.size+1]? =some (.cells #[.int .i64 room,.map (some w.heap.size),.bool false,.int .i64 0] 72):=by have:=heap_alloc_new (w.alloc (.map #[] 0)) (.cells #[.int .i64 room,.map (some w.heap.size),.bool false,.int .i64 0] 72);simpa using this
 have hC:oE false room [] (w.heap.size+1) [w.heap.size] ((w.alloc (.map #[] 0)).alloc (.cells #[.int .i64 room,.map (some w.heap.size),.bool false,.int .i64 0] 72)):=by unfold oE;exact⟨w.heap.size,0,[],[],e1,(World.ownsMap_made w _ _ _).alloc _,.refl _,rfl,λx h=>absurd h aaS,rfl,by simp,by rw[vm];exact aan _,λh=>by cases h⟩
 refine⟨_,w.heap.size+1,[w.heap.size],rfl,⟨rfl,⟨by show 0<=room;omega,by show room<=_;omega⟩,hC⟩,((RowKit.Below.refl _ _).alloc (aab _) _).alloc (by simp) _,λx hx=>?_,λρ' hρ=>.tup _ _ rfl ?_⟩
 ·simp at hx⊢;omega
 ·exact(LR.arr (cs:= #[.pointer (some ⟨w.heap.size+1,0,none⟩),.int .i64 0]) (LR.cons (.ptr _ _ _ _ hρ (aab _)) (LR.cons (.sI .i64 0) (LR.nil _)))).2
def Nr:Ok Tryz.prog 66 A4:=by refine EU (k:=2) (C:=ez) (S:=A4) (al:=[.c (.s 5)]) fW (λz=>z.g 20) (λ_=>.sI .i64 0) (λz=>[(20,.g (z.g 20)),(30,.i 0)]) rfl rfl rfl (λz h=>⟨rfl,rfl⟩) (λz=>⟨_,rfl,⟨rfl,trivial⟩,rfl⟩) (λargs w=>Tryz.call66 args w) ?_;rintro z ⟨WV,u5,o5⟩ w ρ d fp vs WD c8 l6 ⟨hz,hr,hC⟩;exact(Ko WV u5 o5 c8 l6 hC).mono λe w' ⟨v,fp',h1,h2,h3,h4⟩=>⟨v,fp',h1,⟨hz,hr,h2⟩,h3,h4⟩
def Fw:Ok Tryz.prog 89 qV:=by refine EU (k:=2) (C:=ez) (S:=qV) (al:=[.c (.s 5)]) fW (λz=>dR (bX (z.g 20)) (cu (z.s 5) (bn (z.g 20)))) (λ_=>.sI .i64 0) (λz=>[(20,.g (dR (bX (z.g 20)) (cu (z.s 5) (bn (z.g 20))))),(30,.i 0)]) rfl rfl rfl (λz h=>⟨rfl,rfl⟩) (λz=>⟨_,rfl,⟨rfl,trivial⟩,rfl⟩) (λargs w=>Tryz.call89 args w) ?_;rintro z ⟨WV,u5,o5⟩ w ρ d fp vs WD c8 l6 ⟨hz,hr,hC⟩;exact(A3 WV u5 o5 c8 l6 hC).mono λe w' ⟨v,fp',h1,h2,h3,h4⟩=>⟨v,fp',h1,⟨rfl,hr,h2⟩,h3,h4⟩
open Classical in
theorem Ns:Ok Tryz.prog 81 nc:=by
 refine EU (k:=2) (C:=ez) (S:=nc) (al:=[.c (.s 5)]) fW (λz=>z.g 20) (λz=>.tup [.any1,.sI .i64 (if cJ (z.s 5) (bn (z.g 20)) then 0 else 7)]) (λz=>[(20,.g (z.g 20)),(30,.i (if cJ (z.s 5) (bn (z.g 20)) then 0 else 7))]) rfl rfl rfl (λz h=>⟨rfl,λq=>if_pos q,λq=>if_neg q⟩) (λz=>⟨_,rfl,⟨rfl,trivial⟩,rfl⟩) (λargs w=>Tryz.call81 args w) ?_;rintro z ⟨i4,o5⟩ w ρ d fp vs WD c8 l6 ⟨hz,hr,hC⟩;by_cases WV:cJ (z.s 5) (bn (z.g 20))
 ·rw[if_pos WV];exact(Fv WV o5 i4 c8 l6 hC).mono λe w' ⟨v,fp',h1,h2,h3,h4⟩=>⟨v,fp',h1,⟨hz,hr,h2⟩,h3,h4⟩
 ·rw[if_neg WV]
  refine(Fr WV o5 c8 l6 hC).mono λe w' ⟨v,fp',h1,h2,h3,h4⟩=>⟨v,fp',h1,⟨hz,hr,h2⟩,h3,λρ'=>?_⟩
  have:=h4 ρ'
  cases this with
  |tup l cs hs hr=>
   refine .tup _ cs hs λi a u ha hu=>?_
   match i,ha with
   |0,ha=>
    injection ha with ha;subst ha
    have:=hr 0 .nils u rfl hu
    cases this with
    |nils=>exact .any1 _ rfl
   |1,ha=>exact hr 1 a u ha hu
open Classical in
theorem Fx:Ok Tryz.prog 64 qW:=by
 refine EU (k:=2) (C:=ez) (S:=qW) (al:=[.c (.s 5),.c (.vb 6)]) fW (λz=>if(cB (bn (z.g 20)):Int)+(z.s 6).length<=bX (z.g 20) then dR (bX (z.g 20)) (dz (z.s 5) (z.s 6).length (bn (z.g 20))) else z.g 20) (λz=>.sI .i64 (if(cB (bn (z.g 20)):Int)+(z.s 6).length<=bX (z.g 20) then 0 else 6))
  (λz=>[(20,.g (if(cB (bn (z.g 20)):Int)+(z.s 6).length<=bX (z.g 20) then dR (bX (z.g 20)) (dz (z.s 5) (z.s 6).length (bn (z.g 20))) else z.g 20)),(30,.i (if(cB (bn (z.g 20)):Int)+(z.s 6).length<=bX (z.g 20) then 0 else 6))]) rfl rfl rfl (λz h=>⟨λq=>⟨if_pos q,if_pos q⟩,λq=>⟨if_neg q,if_neg q⟩⟩) (λz=>⟨_,rfl,⟨rfl,trivial⟩,rfl⟩) (λargs w=>Tryz.call64 args w) ?_
 rintro z ⟨⟨u5,o5⟩,⟨XL,XA⟩,Y7⟩ w ρ d fp vs WD c8 l6 ⟨hz,hr,hC⟩;by_cases w7:(cB (bn (z.g 20)):Int)+(z.s 6).length<=bX (z.g 20)
 ·rw[if_pos w7,if_pos w7];exact(A2 hr.2 u5 o5 XL w7 Y7 WD c8 l6 hC).mono λe w' ⟨v,fp',h1,h2,h3,h4⟩=>⟨v,fp',h1,⟨rfl,hr,h2⟩,h3,h4⟩
 ·rw[if_neg w7,if_neg w7];exact(Kr hr u5 o5 XL (by omega) (by omega) c8 l6 hC).mono λe w' ⟨v,fp',h1,h2,h3,h4⟩=>⟨v,fp',h1,⟨hz,hr,h2⟩,h3,h4⟩
def A5:FSpec:=⟨[.c (.p 0)],rF,λ_=>True,λ_=>.one (.c (.i .i64 30)),λ_=>rF,λz y=>y.g 20=z.g 20/\y.i 30=cB (bn (z.g 20)),[]⟩
def Nt:Ok Tryz.prog 13 A5:=by
 refine EU (k:=2) (C:=ez) (S:=A5) (al:=[]) fW (λz=>z.g 20) (λz=>.sI .i64 (cB (bn (z.g 20)))) (λz=>[(20,.g (z.g 20)),(30,.i (cB (bn (z.g 20))))]) rfl rfl rfl (λz h=>⟨rfl,rfl⟩) (λz=>⟨_,rfl,⟨rfl,trivial⟩,rfl⟩) (λargs w=>Tryz.call13 args w) ?_;rintro z-w ρ d fp vs WD c8 l6 ⟨hz,hr,hC⟩;obtain rfl:=LR.nil_inv (show LR ρ [] vs from l6);have ZU:=hC;unfold oE at hC;obtain⟨m,lf,L,es,h1,h2,h3,h4,h5,h6,h7,h8,h9⟩:=hC;obtain⟨_,c1,_⟩:=dq h1;have hU:bL (Ds w) es=cB (bn (z.g 20)):=by rw[qS h3 h5,h4]
 have WJ:∀p∈es,∀b:Nat,p.2= .lit (.int .i64 b)->PkF w b (Ds w p.2):=λp hp b hb=>by
  obtain⟨x,hx,rfl⟩:=List.mem_map.1 (h3.mem_iff.1 hp);rw[vj (h5 x hx)];have:(DataW.lit (Lit.int .i64 (x.f:Int)):DataW Unit)= .lit (.int .i64 b):=hb;injection this with this;injection this with _ this;have e:x.f=b:=by omega
  subst e;exact vh (h5 x hx) (by have:=jM hx;rw[←h4] at this;omega)
 refine(ve d m L.length es (Ds w) w c1 h2 WJ (by rw[hU];exact h8)).mono ?_;rintro e w' ⟨rfl,hg⟩;have hk:∀x∈d::fp,w'.heap[x]? =w.heap[x]? :=λx hx=>hg.block x (c8 x hx) (by simp);exact⟨_,fp,by rw[hU],⟨hz,hr,jL _ _ _ d fp w w' hk ZU⟩,⟨hg.os,hg.tape,hg.output,hg.size,λk hk _=>hg.block k hk (by simp),λx hx=>.inl hx⟩,λρ'=>.sI .i64 _⟩
end
open Go.RowKit Go.Maps Go.Sort Go.Shelf Go.Proofs
def yN:Ren:=⟨λx=>match x with|7=>22|10=>50|n=>n,λx=>match x with|23=>69|26=>9|3=>70|28=>67|0=>0|27=>66|33=>122|4=>4|n=>n,λx=>x⟩
def keys:SlLaysZ.n7 Tryz.prog yN:={mixed:=rfl,f7:=⟨ "maps.Keys[map[string]*scrivener/disk.file,string,*scrivener/disk.file]",of_decide_eq_true (id (Eq.refl true)),Tryz.func22.trans (congrArg some rfl)⟩,f10:=⟨ "maps.Keys[map[string]*scrivener/disk.file,string,*scrivener/disk.file]$1",of_decide_eq_true (id (Eq.refl true)),Tryz.func50.trans (congrArg some rfl)⟩,t0:=Tryz.underlying0,a0:=Tryz.isAgg0,z0:=Tryz.sizeOf0,v0:=Tryz.zeroValue0,t4:=Tryz.underlying4,a4:=Tryz.isAgg4,z4:=Tryz.sizeOf4,v4:=Tryz.zeroValue4,t23:=Tryz.underlying69,a23:=Tryz.isAgg69,z23:=Tryz.sizeOf69,v23:=Tryz.zeroValue69,t26:=Tryz.underlying9,a26:=Tryz.isAgg9,z26:=Tryz.sizeOf9,v26:=Tryz.zeroValue9,t27:=Tryz.underlying66,a27:=Tryz.isAgg66,z27:=Tryz.sizeOf66,v27:=Tryz.zeroValue66,t28:=Tryz.underlying67,a28:=Tryz.isAgg67,z28:=Tryz.sizeOf67,v28:=Tryz.zeroValue67,t33:=Tryz.underlying122,a33:=Tryz.isAgg122,z33:=Tryz.sizeOf122,v33:=Tryz.zeroValue122}
def qX:Ren:=⟨λx=>match x with|6=>21|8=>48|9=>49|11=>105|13=>107|12=>106|23=>180|24=>181|14=>171|15=>172|16=>173|17=>174|18=>175|19=>176|20=>177|21=>178|22=>179|25=>232|26=>233|27=>234|28=>235|29=>236|30=>237|31=>275|n=>n,λx=>match x with|26=>9|28=>67|24=>22|0=>0|3=>3|37=>104|48=>98|50=>97|4=>4|40=>253|39=>252|45=>169|5=>5|9=>9|51=>301|55=>27|57=>328|58=>329|33=>122|n=>n,λx=>x⟩
def Q7:SlLaysZ.n6 Tryz.prog qX:={mixed:=rfl,f6:=⟨ "slices.Sorted[string]",of_decide_eq_true (id (Eq.refl true)),Tryz.func21.trans (congrArg some rfl)⟩,f8:=⟨ "slices.Collect[string]",of_decide_eq_true (id (Eq.refl true)),Tryz.func48.trans (congrArg some rfl)⟩,f11:=⟨ "slices.AppendSeq[[]string,string]",of_decide_eq_true (id (Eq.refl true)),Tryz.func105.trans (congrArg some rfl)⟩,t0:=Tryz.underlying0,a0:=Tryz.isAgg0,z0:=Tryz.sizeOf0,v0:=Tryz.zeroValue0,t24:=Tryz.underlying22,a24:=Tryz.isAgg22,z24:=Tryz.sizeOf22,v24:=Tryz.zeroValue22,t26:=Tryz.underlying9,a26:=Tryz.isAgg9,z26:=Tryz.sizeOf9,v26:=Tryz.zeroValue9,t28:=Tryz.underlying67,a28:=Tryz.isAgg67,z28:=Tryz.sizeOf67,v28:=Tryz.zeroValue67,i26:=rfl}
def Ku:Ren:=⟨λx=>match x with|6=>49|8=>107|9=>106|19=>180|20=>181|21=>171|22=>172|23=>173|24=>174|25=>175|26=>176|27=>177|28=>178|29=>179|36=>232|31=>233|32=>234|37=>235|38=>236|39=>237|41=>275|n=>n,λx=>match x with|27=>22|29=>9|3=>3|32=>104|26=>22|0=>0|44=>98|46=>97|4=>4|36=>253|35=>252|41=>169|5=>5|9=>9|53=>301|57=>27|63=>328|64=>329|n=>n,λx=>x⟩
def TS:SlLaysM.n6 Tryz.prog Ku:={mixed:=rfl,f6:=⟨ "slices.Sort[[]string,string]",of_decide_eq_true (id (Eq.refl true)),Tryz.func49.trans (congrArg some rfl)⟩,f8:=Tryz.func107.trans (congrArg some rfl),f9:=⟨ "slices.pdqsortOrdered[string]",of_decide_eq_true (id (Eq.refl true)),Tryz.func106.trans (congrArg some rfl)⟩,f19:=Tryz.func180.trans (congrArg some rfl),f20:=Tryz.func181.trans (congrArg some rfl),f21:=⟨ "slices.insertionSortOrdered[string]",of_decide_eq_true (id (Eq.refl true)),Tryz.func171.trans (congrArg some rfl)⟩,f22:=⟨ "slices.heapSortOrdered[string]",of_decide_eq_true (id (Eq.refl true)),Tryz.func172.trans (congrArg some rfl)⟩,f23:=⟨ "slices.breakPatternsOrdered[string]",of_decide_eq_true (id (Eq.refl true)),Tryz.func173.trans (congrArg some rfl)⟩,f24:=⟨ "slices.choosePivotOrdered[string]",of_decide_eq_true (id (Eq.refl true)),Tryz.func174.trans (congrArg some rfl)⟩,f25:=⟨ "slices.reverseRangeOrdered[string]",of_decide_eq_true (id (Eq.refl true)),Tryz.func175.trans (congrArg some rfl)⟩,f26:=⟨ "slices.partialInsertionSortOrdered[string]",of_decide_eq_true (id (Eq.refl true)),Tryz.func176.trans (congrArg some rfl)⟩,f27:=⟨ "cmp.Less[string]",of_decide_eq_true (id (Eq.refl true)),Tryz.func177.trans (congrArg some rfl)⟩,f28:=⟨ "slices.partitionEqualOrdered[string]",of_decide_eq_true (id (Eq.refl true)),Tryz.func178.trans (congrArg some rfl)⟩,f29:=⟨ "slices.partitionOrdered[string]",of_decide_eq_true (id (Eq.refl true)),Tryz.func179.trans (congrArg some rfl)⟩,f31:=Tryz.func233.trans (congrArg some rfl),f32:=Tryz.func234.trans (congrArg some rfl),f36:=⟨ "slices.siftDownOrdered[string]",of_decide_eq_true (id (Eq.refl true)),Tryz.func232.trans (congrArg some rfl)⟩,f37:=⟨ "slices.medianAdjacentOrdered[string]",of_decide_eq_true (id (Eq.refl true)),Tryz.func235.trans (congrArg some rfl)⟩,f38:=⟨ "slices.medianOrdered[string]",of_decide_eq_true (id (Eq.refl true)),Tryz.func236.trans (congrArg some rfl)⟩,f39:=⟨ "cmp.isNaN[string]",of_decide_eq_true (id (Eq.refl true)),Tryz.func237.trans (congrArg some rfl)⟩,f41:=⟨ "slices.order2Ordered[string]",of_decide_eq_true (id (Eq.refl true)),Tryz.func275.trans (congrArg some rfl)⟩,t0:=Tryz.underlying0,a0:=Tryz.isAgg0,z0:=Tryz.sizeOf0,v0:=Tryz.zeroValue0,t3:=Tryz.underlying3,a3:=Tryz.isAgg3,z3:=Tryz.sizeOf3,v3:=Tryz.zeroValue3,t4:=Tryz.underlying4,a4:=Tryz.isAgg4,z4:=Tryz.sizeOf4,v4:=Tryz.zeroValue4,t5:=Tryz.underlying5,a5:=Tryz.isAgg5,z5:=Tryz.sizeOf5,v5:=Tryz.zeroValue5,t9:=Tryz.underlying9,a9:=Tryz.isAgg9,z9:=Tryz.sizeOf9,v9:=Tryz.zeroValue9,t26:=Tryz.underlying22,a26:=Tryz.isAgg22,z26:=Tryz.sizeOf22,v26:=Tryz.zeroValue22,t27:=Tryz.underlying22,a27:=Tryz.isAgg22,z27:=Tryz.sizeOf22,v27:=Tryz.zeroValue22,t29:=Tryz.underlying9,a29:=Tryz.isAgg9,z29:=Tryz.sizeOf9,v29:=Tryz.zeroValue9,t32:=Tryz.underlying104,a32:=Tryz.isAgg104,z32:=Tryz.sizeOf104,v32:=Tryz.zeroValue104,t35:=Tryz.underlying252,a35:=Tryz.isAgg252,z35:=Tryz.sizeOf252,v35:=Tryz.zeroValue252,t36:=Tryz.underlying253,a36:=Tryz.isAgg253,z36:=Tryz.sizeOf253,v36:=Tryz.zeroValue253,t41:=Tryz.underlying169,a41:=Tryz.isAgg169,z41:=Tryz.sizeOf169,v41:=Tryz.zeroValue169,t44:=Tryz.underlying98,a44:=Tryz.isAgg98,z44:=Tryz.sizeOf98,v44:=Tryz.zeroValue98,t46:=Tryz.underlying97,a46:=Tryz.isAgg97,z46:=Tryz.sizeOf97,v46:=Tryz.zeroValue97,t53:=Tryz.underlying301,a53:=Tryz.isAgg301,z53:=Tryz.sizeOf301,v53:=Tryz.zeroValue301,t57:=Tryz.underlying27,a57:=Tryz.isAgg27,z57:=Tryz.sizeOf27,v57:=Tryz.zeroValue27,t63:=Tryz.underlying328,a63:=Tryz.isAgg328,z63:=Tryz.sizeOf328,v63:=Tryz.zeroValue328,t64:=Tryz.underlying329,a64:=Tryz.isAgg329,z64:=Tryz.sizeOf329,v64:=Tryz.zeroValue329}
open Go.RowKit Go.Maps Go.Sort Go.Shelf Go.Proofs Go.Sym
def TU(m:Nat):AnyZ.SortsIn Tryz.prog qX Fence.wide m:=
 ⟨λblk off cap ss W hH W4 m8=>callsIn_wide.2 (AnyM.slices_Sort_string TS blk off cap ss W hH W4 m8),
  λp cap W=>callsIn_wide.2 (AnyM.slices_Sort_string_none TS p cap W)⟩
def Fy(mb:Option Nat)(W:World):CallsIn Fence.wide 5 Tryz.prog 22 #[.map mb] W λe w'=>e= .returned (.func (.func 50) #[] #[.pointer (some ⟨W.heap.size,0,none⟩)])/\w'=W.alloc (.cells #[.map mb] 69):=
 AnyZ.keys_in keys Fence.wide 5 trivial rfl mb W
set_option maxHeartbeats 1000000 in
theorem yO{H:Type}(b nn:Nat)(D0:DataW H)(R:Value->Option (DataW H×List MemPlace))(w:World)(d6:w.ownsMap Tryz.prog 9 R b nn D0)(I':Maps.size D0<=maxLen)(G':Maps.size D0 * 16<=140737488355328):
 CallsIn Fence.wide 5 Tryz.prog 21 #[.func (.func 50) #[] #[.pointer (some ⟨w.heap.size,0,none⟩)]] (w.alloc (.cells #[.map (some b)] 69)) λe w'=>∃(v:Value) (ss:List (List UInt8)),e= .returned v/\ss.Perm (strKeys D0)/\
  w'.ownsRow (w.alloc (.cells #[.map (some b)] 69)).heap.size 9 1 v ss.length ((ss.mergeSort (λx y=>decide (x<=y))).map encStr)/\(v= .slice none 0 0↔ss= [])/\Below (w.alloc (.cells #[.map (some b)] 69)).heap.size (w.alloc (.cells #[.map (some b)] 69)) w':=by
 have XD:=d6.lt
 have ak0:SeqGives Fence.wide 2 Tryz.prog 50 #[.pointer (some ⟨w.heap.size,0,none⟩)] encStr (λss=>ss.Perm (strKeys D0)) (Maps.size D0) (w.alloc (.cells #[.map (some b)] 69)):=
  AnyZ.keys_gives (ρ:=yN) {keys with} Fence.wide _ trivial rfl (by omega) w.heap.size b nn D0 _ (by simp) (by simp) (by obtain⟨es,clock,hb,Ft,hs,hD⟩:=d6;exact⟨es,clock,(Below.heap_alloc _ _ b XD).trans hb,Ft,hs,hD⟩)
 exact AnyZ.sorted_in Q7 Fence.wide 5 trivial trivial trivial trivial rfl (by omega) (TU _) (enters_of Tryz.func49 (by kernel_rfl) rfl) 50 #[.pointer (some ⟨w.heap.size,0,none⟩)] trivial (enters_of Tryz.func50 (by kernel_rfl) rfl) _ _ I' G' _ ak0
set_option maxHeartbeats 1000000 in
theorem Dw{H:Type}(d m nn:Nat)(D0:DataW H)(R:Value->Option (DataW H×List MemPlace))(w:World)(c1:w.cell? ⟨d,1,none⟩=some (.map (some m)))(d6:w.ownsMap Tryz.prog 9 R m nn D0)(I':Maps.size D0<=maxLen)(G':Maps.size D0 * 16<=140737488355328):
 Calls Tryz.prog 7 #[.pointer (some ⟨d,0,none⟩)] w λe w'=>∃(v:Value) (ss:List (List UInt8)),e= .returned v/\ss.Perm (strKeys D0)/\
  w'.ownsRow w.heap.size 9 1 v ss.length ((ss.mergeSort (λx y=>decide (x<=y))).map encStr)/\(v= .slice none 0 0↔ss= [])/\Below w.heap.size w w':=by
 refine(callsIn_wide (n:=6)).1 ?_
 have hfK:Fence.wide.fn 22:=trivial
 have hfS:Fence.wide.fn 21:=trivial
 refine callsIn_of_wp Tryz.func7 rfl trivial ?_ rfl
 simp only [Tryz.ntmps7,List.size_toArray,aaM,abx,Nat.reduceAdd,Nat.reduceSub,Array.replicate_succ,Array.replicate_zero,List.push_toArray,List.append_toArray,List.nil_append,List.cons_append]
 gi_wp2_with (first
  |(gi_at_call 22;refine(Fy _ _).mono ?_;rintro e w' ⟨rfl,rfl⟩)
  |(gi_at_call 21;refine(yO m nn D0 R w d6 I' G').mono ?_;rintro e w' ⟨v,ss,rfl,hS,WI,YB,hb⟩))
 go_ret
 exact⟨v,ss,rfl,hS,ownsRow_base_a WI (by simp),YB,((Below.refl _ w).alloc (aab _) _).trans (hb.mono (by simp))⟩
open Go.Proofs (encStr)
noncomputable section
def Q8(l:List G):List (List UInt8):=l.map λr=>(gS (ah r 0)).map UInt8.ofNat
def zh(l:List G):List G:=((Q8 l).mergeSort λx y=>decide (x<=y)).map λs=>.node [.str (s.map UInt8.toNat)]
def Nu(L:List PkE):Q8 (L.map PkE.row)=L.map λx=>x.nm.data.toList:=by unfold Q8;rw[aaW];refine List.map_congr_left λx _=>?_;show(bytesOf x.nm).map UInt8.ofNat=x.nm.data.toList;unfold bytesOf;rw[aaW];exact(List.map_congr_left λu _=>by simp).trans (List.map_id _)
def Dx(l:List G):(zh l).length=l.length:=by unfold zh Q8;rw[aaF,List.length_mergeSort,aaF]
def A6:FSpec:=⟨[.c (.p 0)],rF,λz=>(bn (z.g 20)).length<=100000,λ_=>.one (.c (.v 1 40)),λ_=>rF,λz y=>y.g 20=z.g 20/\y.g 40=zh (bn (z.g 20)),[]⟩
def Nv:Ok Tryz.prog 7 A6:=by
 refine SJ (k:=2) (C:=ez) (S:=A6) (al:=[]) fW (λz=>z.g 20) (λz=>.cv (.rows 1 (zh (bn (z.g 20))))) (λz=>[(20,.g (z.g 20)),(40,.g (zh (bn (z.g 20))))]) rfl rfl rfl (λz h=>⟨rfl,rfl⟩) (λz=>⟨_,rfl,⟨rfl,trivial⟩,rfl⟩) (λargs w=>Tryz.call7 args w) ?_;rintro z hlen w ρ d fp vs WD c8 l6 ⟨hz,hr,hC⟩;have hlen:(bn (z.g 20)).length<=100000:=hlen;obtain rfl:=LR.nil_inv (show LR ρ [] vs from l6);have ZU:=hC;unfold oE at hC;obtain⟨m,lf,L,es,h1,h2,h3,h4,h5,h6,h7,h8,h9⟩:=hC;obtain⟨_,c1,_⟩:=dq h1;have n8:es.length=L.length:=by rw[h3.length_eq,aaF]
 have hL:L.length<=100000:=by rw[h4,aaF] at hlen;exact hlen
 have m8:Maps.size (DataW.map es)=es.length:=rfl;refine(Dw d m L.length (DataW.map es) dH w c1 h2 (by rw[m8];unfold maxLen;omega) (by rw[m8];omega)).mono ?_;rintro e w' ⟨v,ss,rfl,Zk,WI,YB,hb⟩;have hk:∀x∈d::fp,w'.heap[x]? =w.heap[x]? :=λx hx=>hb.block x (c8 x hx);have l8:ObStep d fp fp w w':=⟨hb.os,hb.tape,hb.output,hb.size,λk hk _=>hb.block k hk,λx hx=>.inl hx⟩
 have hD:ez (z.g 20) d fp w':=⟨hz,hr,jL _ _ _ d fp w w' hk ZU⟩
 have hss:ss.Perm (Q8 (bn (z.g 20))):=by rw[h4,Nu];refine Zk.trans ?_;show(es.map λp=>strOf p.1).Perm _;refine(h3.map _).trans ?_;rw[aaW];exact .refl _
 have hms:ss.mergeSort (λx y=>decide (x<=y))=(Q8 (bn (z.g 20))).mergeSort λx y=>decide (x<=y):=mergeSort_of_perm hss;have hn:(zh (bn (z.g 20))).length=ss.length:=by rw[Dx,hss.length_eq];unfold Q8;rw[aaF]
 refine⟨v,fp,rfl,hD,l8, ?_⟩;obtain⟨hl,hr2⟩:=WI;rcases hr2 with⟨hv,h0⟩|⟨g,cap,kT,rfl,hg,ak1,ac1,_,Xz,YT⟩
 ·left;intro ρ';rw[hv];have:zh (bn (z.g 20))= []:=List.length_eq_zero_iff.1 (by rw[hn,h0]);rw[this];exact .cvnil _ rfl
 ·right;refine⟨g,kT,_,_,hg,λhm=>by have:=c8 g (aag _ hm);omega,ak1,λρ' hf=>?_⟩;have hc:(Ct.rows 1 (zh (bn (z.g 20)))).len=ss.length:=hn;rw[←hc];refine VR.cv (.rows 1 (zh (bn (z.g 20)))) g 0 cap kT _ hf (by rw[hc];exact ac1) (by rw[hc];show 0+ss.length * 1<=_;omega) λi j a u hi ha hu=>?_;have hi:i<ss.length:=by rw[hc] at hi;exact hi
  have hj:j=0:=by
   cases j with
   |zero=>rfl
   |succ j=>cases ha
  subst hj;have ag9:i<(ss.mergeSort λx y=>decide (x<=y)).length:=by rw[List.length_mergeSort];exact hi
  have hx:((ss.mergeSort λx y=>decide (x<=y)).map encStr)[i]? =some (encStr ((ss.mergeSort λx y=>decide (x<=y))[i])):=by rw[aaE,aah ag9];rfl
  have YV:kT[i]? =some (encStr ((ss.mergeSort λx y=>decide (x<=y))[i])):=by
   rw[←YT,aaV] at hx;split at hx
   ·simpa using hx
   ·cases hx
  have hu3:kT[i]? =some u:=by have:kT[0+i * 1+0]? =some u:=hu;rw[show 0+i * 1+0=i by omega] at this;exact this
  rw[YV] at hu3;injection hu3 with hu3;subst hu3;have hr:(zh (bn (z.g 20)))[i]? =some (.node [.str (((ss.mergeSort λx y=>decide (x<=y))[i]).map UInt8.toNat)]):=by unfold zh;rw[←hms,aaE,aah ag9];rfl
  have X5:a= .sS (((ss.mergeSort λx y=>decide (x<=y))[i]).map UInt8.toNat):=by
   have:(aV (bO 1) (aL (zh (bn (z.g 20))) i) 0)[0]? =some a:=ha;have hq:aL (zh (bn (z.g 20))) i= .node [.str (((ss.mergeSort λx y=>decide (x<=y))[i]).map UInt8.toNat)]:=by unfold aL;rw[aai,hr];rfl
   rw[hq] at this;have:some (AV.sS (((ss.mergeSort λx y=>decide (x<=y))[i]).map UInt8.toNat))=some a:=this;injection this with this;exact this.symm
  subst X5;have hb:bytesOf ⟨((ss.mergeSort λx y=>decide (x<=y))[i]).toArray⟩=((ss.mergeSort λx y=>decide (x<=y))[i]).map UInt8.toNat:=rfl;rw[←hb];exact .sS _
end
noncomputable section
def F3(l:List G):G:=@ite _ (l.length=0) (Classical.propDecidable _) hZ (hX (ah (aL l (((l.length:Nat):Int)-1).toNat) 0))
def Kv{l:List G}(h:l.length=0):F3 l=hZ:=if_pos h
def Kw{l:List G}(h:¬l.length=0):F3 l=hX (ah (aL l (((l.length:Nat):Int)-1).toNat) 0):=if_neg h
def A7{l:List G}(h:RowsOk l):cD (F3 l):=by
 by_cases e:l.length=0
 ·rw[Kv e];exact ql
 ·rw[Kw e];exact h.at (by omega) (by omega)
def K5(k:Int)(n:Nat)(l:List G):Prop:=(∀r∈l,gS (ah r 0)=rf∨∃i:Int,0<=i/\i<k/\gS (ah r 0)=iC i)/\(l.length:Int)<=2 * k/\cB l<=n
def Nw:K5 0 0 []:=⟨λr h=>absurd h aaS,by simp,by rw[vm];exact aab _⟩
def vo{k:Int}{n:Nat}{l:List G}(h:K5 k n l)(h0:0<=k)(h1:k<100):¬cJ (iC k) l:=λhs=>by
 obtain⟨r,hr,e⟩:=yK hs;rcases h.1 r hr with h2|⟨i,i0,ik,h2⟩
 ·exact QH k (e.symm.trans h2)
 ·have:=M1 h0 i0 h1 (by omega) (e.symm.trans h2);omega
def Dy{k:Int}{n:Nat}{l:List G}(h:K5 k n l):(l.length:Int)<=2 * k/\cB l<=n:=h.2
def Kx{k:Int}{n m:Nat}{l:List G}(h:K5 k n l)(h0:0<=k):(∀r∈dz (iC k) m l,gS (ah r 0)=rf∨∃i:Int,0<=i/\i<k+1/\gS (ah r 0)=iC i)/\((dz (iC k) m l).length:Int)<=2 * k+1/\cB (dz (iC k) m l)<=n+m:=by
 obtain⟨h1,h2,h3⟩:=h;have:=oG (iC k) m l;refine⟨λr hr=>?_,by omega,by rw[yJ];omega⟩;rcases(oH (iC k) m l).2 r hr with h|⟨r',hr',e'⟩
 ·exact .inr ⟨k,h0,by omega,h⟩
 ·rcases h1 r' hr' with h|⟨i,i0,ik,h⟩
  ·exact .inl (e'.symm.trans h)
  ·exact .inr ⟨i,i0,by omega,e'.symm.trans h⟩
def Dz{k:Int}{n m:Nat}{l:List G}(h1:∀r∈l,gS (ah r 0)=rf∨∃i:Int,0<=i/\i<k+1/\gS (ah r 0)=iC i)(h2:(l.length:Int)<=2 * k+1)(h3:cB l<=n):K5 (k+1) (n+m) (dz rf m l):=by
 have:=oG rf m l;refine⟨λr hr=>?_,by omega,by rw[yJ];omega⟩;rcases(oH rf m l).2 r hr with h|⟨r',hr',e'⟩
 ·exact .inl h
 ·rcases h1 r' hr' with h|⟨i,i0,ik,h⟩
  ·exact .inl (e'.symm.trans h)
  ·exact .inr ⟨i,i0,ik,e'.symm.trans h⟩
def Ky{k:Int}{n a b:Nat}{l:List G}(h:K5 k n l)(h0:0<=k):K5 (k+1) (n+a+b) (dz rf b (dz (iC k) a l)):=by obtain⟨q1,q2,q3⟩:=Kx (m:=a) h h0;exact Dz q1 q2 q3
def Nx{k:Int}{n b:Nat}{l:List G}(h:K5 k n l)(h0:0<=k):K5 (k+1) (n+b) (dz rf b l):=by
 obtain⟨h1,h2,h3⟩:=h;refine Dz (λr hr=>?_) (by omega) h3;rcases h1 r hr with h|⟨i,i0,ik,h⟩
 ·exact .inl h
 ·exact .inr ⟨i,i0,by omega,h⟩
def A8(nm:List Nat)(n:Nat)(l:List G):cJ nm (dz nm n l):=(oH nm n l).1
def vq(nm:List Nat)(n:Nat)(l:List G):cB (dz nm n l)=cB l+n/\(dz nm n l).length<=l.length+1:=⟨yJ nm n l,oG nm n l⟩
end
noncomputable section
def Vs(es:List G):Nat:=(nH True es 0).length+(kX es 0).length+96
def Ny(k t n:Int)(pv:G)(es:List G):G:=.node [.int k,.int t,.int n,pv,.node es]
def Q9(k t n:Int)(pv:G)(es:List G):Ny k t n pv es= .node [.int k,.int t,.int n,pv,.node es]:=rfl
def Fz(l:List G)(t:Int):Prop:=0<l.length->gI (ah (aL l (((l.length:Nat):Int)-1).toNat) 1)<=t
def TV{l:List G}{t:Int}(h:Fz l t)(hl:0<l.length):gI (ah (aL l (((l.length:Nat):Int)-1).toNat) 1)<=t:=h hl
def Q_(t:Int):Fz [] t:=λh=>by simp at h
def Ra{l:List G}{k t n u:Int}{pv:G}{es:List G}(h:t<=u):Fz (l++ [Ny k t n pv es]) u:=λ_=>by
 have e:(((l++ [Ny k t n pv es]).length:Nat):Int)-1=l.length:=by simp
 rw[e,Kd rfl];exact h
def Kz{es:List G}{k t n:Int}{pv:G}(h:dY es)(hp:cD pv)(hk:k<9223372036854775808)(ht:t<9223372036854775808)(hn:n<9223372036854775808)(hb:dt k t n pv es=0):
 vH es/\(rA False k t n pv es).length<=262144/\(kX es 0).length<=270000/\(kX es 0).length+(rA False k t n pv es).length+24<=Vs es/\1<=es.length:=by
 obtain⟨h1,h2,h3⟩:=oD hb
 have h1:(0<=k/\k<=2147483648)/\(0<=t/\t<=9007199254740992)/\(0<=n/\n<=9007199254740992)/\1<=es.length/\es.length<=200:=by unfold FZ at h1;exact h1
 have h4:=h1.2.2.2.2
 have a:=Do h4 es.length 0 (by omega) (by omega)
 have b:=Q0 es
 have c:=oA hp hk ht hn
 have d:=jn (n:=es.length) (by omega)
 unfold rA at h3⊢
 simp only [aal] at h3⊢
 unfold Vs
 exact⟨⟨h2,QY h,h4⟩,by omega,by omega,by omega,h1.2.2.2.1⟩
def TW(z:Sy):Prop:=RowsOk (z.g 32)/\(z.g 31).length=(z.g 32).length/\(z.g 31).length<=60/\z.i 21=(z.g 31).length/\hT z 200=F3 (z.g 32)/\Fz (z.g 31) (z.i 22)
def vu{P:Program}{f:Nat}{S:FSpec}(ad6:Sy->Prop)(ab7:Sy->Sy->Prop)(hp:∀z,ad6 z->S.pre z)(h:∀z y,ad6 z->S.post z y->ab7 z y)(hS:Ok P f S):Ok P f {S with pre:=ad6,post:=ab7}:=by obtain⟨zf,hc⟩:=hS;exact⟨λz=>⟨(zf z).1,λhz=>h z _ hz ((zf z).2 (hp z hz))⟩,λz hz=>hc z (hp z hz)⟩
def tr:FSpec:={mm with pre:=λz=>(z.s 1).length<=524288,post:=λz y=>y.i 50=0/\y.s 10=MW (z.s 1)}
def A9(h:Ok Tryz.prog 63 mm):Ok Tryz.prog 63 tr:=vu (λz=>(z.s 1).length<=524288) _ (λz h=>by have h:(z.s 1).length<=524288:=h;show(z.s 1).length<=100000000;omega) (λz y h q=>q.1 h) h
def Rb{n n':Int}{rows j9:List G}{h:G}(ht:yy n rows h n' j9)(hh:cD h)(hx:eE n rows):eE n' j9:=by unfold eE at hx;obtain⟨L,h1,h2⟩:=hx;exact JD (C4 ht L h1) (yH h2 hh)
attribute [irreducible] Fz Vs
end
def A_:bI 63 tr:=A9 tp
noncomputable section
def ne(l:List G):Prop:=l=dR (bX l) (bn l)/\(0<=bX l/\bX l<=1073741824)/\Ks l
def KA{nm:List Nat}{l:List G}(h:¬cJ nm l):cu nm l=l:=by unfold cu;exact List.filter_eq_self.2 λr hr=>decide_eq_true λe=>h (by unfold cJ;exact⟨r,hr,e⟩)
def DA{l:List G}(h:ne l):Ks l:=h.2.2
def Ba{l:List G}{nm:List Nat}(h:ne l)(hn:¬cJ nm (bn l)):dR (bX l) (cu nm (bn l))=l:=by rw[KA hn];exact h.1.symm
def O3{nm:List Nat}{n:Nat}(h1:1<=n):∀{l:List G},(∀r∈l,1<=gI (ah r 1))->∀r∈dz nm n l,1<=gI (ah r 1)
 | [],_,r,hr=>by have:=Dv nm n;rw[this] at hr;obtain rfl:=List.mem_singleton.1 hr;show(1:Int)<=(n:Int);omega
 |x::l,h,r,hr=>by
  by_cases he:gS (ah x 0)=nm
  ·rw[mo he] at hr;rcases List.mem_cons.1 hr with rfl|hr
   ·have:=h x aaj;show(1:Int)<=(((gI (ah x 1)).toNat+n:Nat):Int);omega
   ·exact h r (aag _ hr)
  ·rw[iq he] at hr;rcases List.mem_cons.1 hr with rfl|hr
   ·exact h r aaj
   ·exact O3 h1 (λq hq=>h q (aag _ hq)) r hr
def KB{l:List G}{nm:List Nat}{n:Nat}(h:ne l)(h1:1<=n):ne (dR (bX l) (dz nm n (bn l))):=⟨rfl,h.2.1,O3 h1 h.2.2⟩
def DB{nm:List Nat}{n:Nat}:∀{l:List G},¬cJ nm l->cu nm (dz nm n l)=l
 | [],_=>by have:=Dv nm n;rw[this];unfold cu;exact abh (by simp [ah,gL,gS])
 |x::l,h=>by have hx:¬gS (ah x 0)=nm:=λe=>h (by unfold cJ;exact⟨x,aaj,e⟩);have hl:¬cJ nm l:=λq=>h (by unfold cJ at q⊢;obtain⟨r,hr,e⟩:=q;exact⟨r,aag _ hr,e⟩);rw[iq hx];have:=DB (n:=n) hl;unfold cu at this⊢;rw[abA (by simp [hx]),this]
def tv:FSpec:=⟨[.c (.p 0),.c (.s 5)],rF,λz=>ne (z.g 20)/\(1<=(z.s 5).length/\(z.s 5).length<=64),λ_=>.one (.c (.i .i64 30)),λ_=>rF,λz y=>y.g 20=dR (bX (z.g 20)) (cu (z.s 5) (bn (z.g 20)))/\y.i 30=0,[]⟩
def KC:FSpec:=⟨[.c (.p 0),.c (.s 5),.c (.vb 6)],rF,λz=>ne (z.g 20)/\¬cJ (z.s 5) (bn (z.g 20))/\(1<=(z.s 5).length/\(z.s 5).length<=64)/\(z.s 6).length<=524288/\(bn (z.g 20)).length<3000,λ_=>.one (.c (.i .i64 30)),λ_=>rF,λz y=>((cB (bn (z.g 20)):Int)+(z.s 6).length+12<=bX (z.g 20)->y.g 20=dR (bX (z.g 20)) (dz (z.s 5) ((z.s 6).length+12) (bn (z.g 20)))/\y.i 30=0)/\(¬(cB (bn (z.g 20)):Int)+(z.s 6).length+12<=bX (z.g 20)->y.g 20=z.g 20/\y.i 30=6),[]⟩
attribute [irreducible] ne
end
def Rc:bI 18 Kt:=Q6
def DC:bI 81 nc:=Ns
def Nz:bI 7 A6:=Nv
def FA:bI 89 qV:=Fw
def tw:bI 64 qW:=Fx
def DD:bI 66 A4:=Nr
def NA:bI 13 A5:=Nt
abbrev gi(a:List G):=ez a=ez a/\True
def qY:bI 69 tv:=cC 3 1 (ar DC (ar FA eN)) lN λz hA=>show Fm.den (let v0:=(bn (z.g 20));(.cl ((gi (z.g 20))) (Ks (z.g 20)/\(z.s 5).length<=64) (λy0=>y0.g 20=z.g 20/\(cJ (z.s 5) v0->y0.i 30=0)/\(¬cJ (z.s 5) v0->y0.i 30=7)) λy0=>(let v1:=(gi (y0.g 20));(.two (y0.i 30≠0) (.an v1 (.at (y0.g 20=dR (bX (z.g 20)) (cu (z.s 5) v0)/\(0:Int)=0))) (.cl (v1) (cJ (z.s 5) (bn (y0.g 20))/\1<=(z.s 5).length/\(z.s 5).length<=64) (λy1=>y1.g 20=dR (bX (y0.g 20)) (cu (z.s 5) (bn (y0.g 20)))/\y1.i 30=0) λy1=>(.an (gi (y1.g 20)) (.at (y1.g 20=dR (bX (z.g 20)) (cu (z.s 5) v0)/\y1.i 30=0)))))))) by
 dsimp only [tv,rF] at hA;have:=@DA (z.g 20);have:=@Ba (z.g 20) (z.s 5);conv=>zeta
 repeat' with_reducible first|intro _|apply d_|apply ed|apply ef|apply eu|apply ew
 all_goals first|omega|grind [aA,aq,ao,cd,ce,cf,cg,ci,cj,ck,cm,co,aY,List.append_assoc,ip,ir,iu]
abbrev Rd(a:List Nat):=1<=a.length/\a.length<=1000000
def NB:bI 59 KC:=cC 5 31 (ar qY (ar tp (ar tw (ar DD eN)))) lN λz hA=>show Fm.den (let v0:=(↑(cB (bn (z.g 20))):Int);let v1:=(↑(z.s 6).length:Int);let v2:=(dz (z.s 5) ((z.s 6).length+12) (bn (z.g 20)));let v3:=(bX (z.g 20));(.cl ((gi (z.g 20))) (ne (z.g 20)/\1<=(z.s 5).length/\(z.s 5).length<=64) (λy0=>y0.g 20=dR v3 (cu (z.s 5) (bn (z.g 20)))/\y0.i 30=0) λy0=>(let v4:=(bn (y0.g 20));(.an (¬(y0.i 30≠0)) (.ct ((z.s 6).length<=100000000) (λy1=>((z.s 6).length<=524288->y1.i 50=0/\y1.s 10=MW (z.s 6))/\(524288<(z.s 6).length->y1.i 50=5/\y1.s 10= [])/\(y1.s 10).length<=524300) λy1=>(let v5:=(↑(y1.s 10).length:Int);(.an (¬(y1.i 50≠0)) (.cl ((gi (y0.g 20))) ((1<=(z.s 5).length/\(z.s 5).length<=64)/\(Rd (y1.s 10))/\v4.length<4000) (λy2=>((↑(cB v4):Int)+v5<=bX (y0.g 20)->y2.g 20=dR (bX (y0.g 20)) (dz (z.s 5) (y1.s 10).length v4)/\y2.i 30=0)/\(¬(↑(cB v4):Int)+v5<=bX (y0.g 20)->y2.g 20=y0.g 20/\y2.i 30=6)) λy2=>(let v6:=(gi (y2.g 20));(.two (y2.i 30≠0) (.an v6 (.at ((v0+v1+12<=bX (z.g 20)->y2.g 20=dR v3 v2/\y2.i 30=0)/\(¬v0+v1+12<=bX (z.g 20)->y2.g 20=z.g 20/\y2.i 30=6)))) (.cl (v6) (cJ (z.s 5) (bn (y2.g 20))/\1<=(z.s 5).length/\(z.s 5).length<=64) (λy3=>y3.g 20=y2.g 20/\y3.i 30=0) λy3=>(.an (gi (y3.g 20)) (.at ((v0+v1+12<=bX (z.g 20)->y3.g 20=dR v3 v2/\y3.i 30=0)/\(¬v0+v1+12<=bX (z.g 20)->y3.g 20=z.g 20/\y3.i 30=6))))))))))))))) by
 dsimp only [KC,rF] at hA;have:=@DA (z.g 20);have:=@Ba (z.g 20) (z.s 5);have:=A8 (z.s 5) ((z.s 6).length+12) (bn (z.g 20));have:=ip (z.s 6);conv=>zeta
 repeat' with_reducible first|intro _|apply d_|apply ed|apply ef|apply eu|apply ew
 all_goals first|omega|grind [aA,aq,ao,cd,ce,cf,cg,ci,cj,ck,cm,co,aY,List.append_assoc,ip,ir,iu]
noncomputable section
def vw(k:Int)(l:List G):Prop:=K5 k (cB (bn l)) (bn l)/\(cB (bn l):Int)<=bX l
def NC{room:Int}(h:0<=room/\room<=1073741824):vw 0 (dR room [])/\ne (dR room []):=by
 constructor
 ·unfold vw;rw[iu,ir,vm];exact⟨Nw,h.1⟩
 ·unfold ne;exact⟨rfl,h,λr hr=>absurd hr aaS⟩
def DE{k:Int}{l:List G}(h:vw k l)(h0:0<=k)(h1:k<100):¬cJ (iC k) (bn l)/\(bn l).length<=200:=by have hf:=Dy h.1;exact⟨vo h.1 h0 h1,by omega⟩
def ND{k:Int}{l:List G}(h:vw k l)(hd:ne l)(h0:0<=k)(h1:k<100)(a r:Nat)(ha:1<=a)(hr:1<=r):
 (cB (dz (iC k) a (bn l))=cB (bn l)+a/\(dz (iC k) a (bn l)).length<=201/\ne (dR (bX l) (dz (iC k) a (bn l)))/\dR (bX l) (cu (iC k) (dz (iC k) a (bn l)))=l)/\
  cJ rf (dz rf r (dz (iC k) a (bn l)))/\ne (dR (bX l) (dz rf r (dz (iC k) a (bn l))))/\((cB (bn l):Int)+a+r<=bX l->vw (k+1) (dR (bX l) (dz rf r (dz (iC k) a (bn l))))):=by
 have hf:=Dy h.1
 have e1:=vq (iC k) a (bn l)
 have e2:=vq rf r (dz (iC k) a (bn l))
 have d1:=KB (nm:=iC k) (n:=a) hd ha
 have d2:=KB (nm:=rf) (n:=r) d1 hr
 rw[ir,iu] at d2
 refine⟨⟨e1.1,by omega,d1, ?_⟩,A8 _ _ _,d2,λw7=>?_⟩
 ·rw[DB (vo h.1 h0 h1)];unfold ne at hd;exact hd.1.symm
 ·unfold vw;rw[iu,ir];have:=Ky (a:=a) (b:=r) h.1 h0;have e:cB (dz rf r (dz (iC k) a (bn l)))=cB (bn l)+a+r:=by omega
  rw[e];exact⟨this,by omega⟩
def NE{k:Int}{l:List G}(h:vw k l)(hd:ne l)(h0:0<=k)(h1:k<100)(r:Nat)(hr:1<=r):
 dR (bX l) (cu (iC k) (bn l))=l/\cJ rf (dz rf r (bn l))/\ne (dR (bX l) (dz rf r (bn l)))/\((cB (bn l):Int)+r<=bX l->vw (k+1) (dR (bX l) (dz rf r (bn l)))):=by
 have e1:=vq rf r (bn l)
 refine⟨Ba hd (vo h.1 h0 h1),A8 _ _ _,KB hd hr,λw7=>?_⟩
 unfold vw
 rw[iu,ir,e1.1]
 exact⟨Nx (b:=r) h.1 h0,by omega⟩
def NF{k:Int}{l:List G}(h:vw k l):(cB (bn l):Int)<=bX l:=h.2
def R4:List BSh:=[.cells 78 [.p 1,.g 2 36 31,.g 3 32 32,.p 4,.m 6,.pb False],.obj 2 ez 20,.grow 11 47 31,.grow 6 44 32,.cells 160 [.i .i64 1,.m 5],.sm 0 2,.sm 1 36]
def DF(p:Sy):LSpec:=⟨[(0,.c (.p 0)),(42,.c (.pv 7 (p.g 24))),(43,.c (.pi .i64 (p.g 24).length)),(44,.c (.i .i64 9))],R4,λz=>dY (p.g 24)/\(0<=z.i 9/\z.i 9<=(p.g 24).length)/\(p.g 24).length<=1000000/\(z.g 31).length<=1000000,λz=>((p.g 24).length-z.i 9).toNat,[⟨.exit 0,[(0,.c (.p 0))],R4⟩],λz y=>y.g 31=z.g 31/\y.g 32=z.g 32/\y.g 20=z.g 20/\y.i 1=z.i 1/\y.g 2=z.g 2/\y.g 36=z.g 36,[],[]⟩
def yP:FSpec:=⟨[.c (.p 0),.ag bk],R4,λz=>TW z/\OK z/\dY (z.g 24)/\ne (z.g 20)/\vw (z.i 21) (z.g 20)/\(0<=z.i 1/\z.i 1<=1000)/\eE (z.i 1) (z.g 2),λ_=>.one (.c (.i .i64 50)),λ_=>R4,λz y=>(¬yZ z=0->y.i 50=yZ z)/\(yZ z=0->y.i 50=0∨y.i 50=6)/\(yZ z=0->y.i 50=0->y.g 31=z.g 31++ [Ny (z.i 21) (z.i 22) (z.i 23) (hT z 200) (z.g 24)]/\y.g 32=z.g 32++ [.node [C7 (z.i 21) (z.i 22) (z.i 23) (hT z 200) (z.g 24)]]/\ne (y.g 20)/\bX (y.g 20)=bX (z.g 20)/\vw (z.i 21+1) (y.g 20)/\y.i 1=z.i 1+1/\eE (y.i 1) (y.g 2))/\(¬y.i 50=0->y.g 31=z.g 31/\y.g 32=z.g 32/\y.g 20=z.g 20/\y.i 1=z.i 1/\y.g 2=z.g 2),uX⟩
attribute [irreducible] vw
end
abbrev NG(a b c:List G)(d:Prop):=a.length=a.length/\b.length=b.length/\ez c=ez c/\d/\True
def KD:cH 28 0 DF:=cG 82 779735233060740043664323263096199472354386684581 eN lN λp z hA=>show Fm.den (let v2:=(bx (p.g 24) (z.i 9));let v4:=(ah v2 13);let v5:=((↑(z.g 31).length:Int)<=gI v4);let v7:=(gI v4<0);let v8:=(dY (p.g 24)/\(jV (z.i 9) (p.g 24))/\(p.g 24).length<=1000000/\(z.g 31).length<=1000000);let v9:=(gL (ah (bx (z.g 31) (gI v4)) 4));let v10:=((-9223372036854775808)<=z.i 9+1/\z.i 9+1<=9223372036854775807);let v11:=(↑(p.g 24).length:Int);let v6:=((z.g 31).length=(z.g 31).length/\(z.g 32).length=(z.g 32).length/\ez (z.g 20)=ez (z.g 20)/\(False↔False)/\v11=v11/\p.g 24=p.g 24/\True);let j8:=((0:Int)<=gI v4/\gI v4 < ↑(z.g 31).length);let l9:=(ah v2 14);let v3:=(gI l9<0);let p5:=(gK (gI v4) (z.g 31));let v0:Fm:=(.an v10 (.an v6 (.at (v8/\(v11-(z.i 9+1)).toNat<(v11-z.i 9).toNat/\∀(y:Sy),y.g 31=z.g 31/\y.g 32=z.g 32/\y.g 20=z.g 20/\y.i 1=z.i 1/\y.g 2=z.g 2/\y.g 36=z.g 36->y.g 31=z.g 31/\y.g 32=z.g 32/\y.g 20=z.g 20/\y.i 1=z.i 1/\y.g 2=z.g 2/\y.g 36=z.g 36))));let v1:Fm:=(.two (gI (ah v2 0)=4) v0 v0);(.two (z.i 9 < ↑(p.g 24).length) (.an (gf (z.i 9) (p.g 24)) (.two v7 (.an v7 (.an v7 (.an v7 (.an v7 (.an v7 (.an v7 (.an v7 (.an v7 v1)))))))) (.an (¬v7) (.an (¬v7) (.an (¬v7) (.an (¬v7) (.an (¬v7) (.an (¬v7) (.an (¬v7) (.an (¬v7) (.two v5 (.an v5 (.an v5 (.an v5 v1))) (.an (¬v5) (.an (¬v5) (.an (¬v5) (.two v3 (.an v3 (.an v3 (.an v3 (.an v3 (.an v3 (.an v3 (.an v3 (.an v3 (.an v3 (.an v3 (.an v3 (.an v3 (.an v3 v1))))))))))))) (.an (¬v3) (.an (¬v3) (.an (¬v3) (.an (¬v3) (.an (¬v3) (.an (¬v3) (.an (¬v3) (.an (¬v3) (.an j8 (.an (¬v3) (.an (¬v3) (.an p5 (.an (¬v3) (.an (¬v3) (.an (¬v3) (.two ((↑v9.length:Int)<=gI l9) v1 (.an j8 (.an p5 (.an ((0:Int)<=gI l9/\gI l9<(↑v9.length:Int)) (.two (gI (ah v2 0)=4) (.two (gI (cw (bx v9 (gI l9)))=2) (.an v10 (.an v6 (.at (v8/\(v11-(z.i 9+1)).toNat<(v11-z.i 9).toNat/\∀(y:Sy),y.g 31=z.g 31/\y.g 32=z.g 32/\y.g 20=z.g 20/\y.i 1=z.i 1/\y.g 2=z.g 2/\y.g 36=cE 1 (z.g 36) [gI v4,gI l9] [G.int (pI (true=true))]->y.g 31=z.g 31/\y.g 32=z.g 32/\y.g 20=z.g 20/\y.i 1=z.i 1/\y.g 2=z.g 2/\y.g 36=z.g 36)))) v0) v0))))))))))))))))))))))))))))))))))) (.an (NG (z.g 31) (z.g 32) (z.g 20) (False↔False)) (.at (z.g 31=z.g 31/\z.g 32=z.g 32/\z.g 20=z.g 20/\z.i 1=z.i 1/\z.g 2=z.g 2/\z.g 36=z.g 36))))) by
 dsimp only [DF,R4] at hA;have:=@Kc (p.g 24) (z.i 9);conv=>zeta
 repeat' with_reducible first|intro _|apply d_|apply ed|apply ef|apply eu|apply ew
 all_goals first|omega|grind [aA,aq,ao,cd,ce,cf,cg,ci,cj,ck,cm,co,aY,List.append_assoc,ip,ir,iu]
abbrev Re(a b c:Int)(d:G)(e f g h i:List G)(j k:Int)(l:List G):=dt a b c d e=(0:Int)->(6:Int)=0->f=f++ [Ny a b c d e]/\g=g++ [G.node [C7 a b c d e]]/\ne h/\bX h=bX i/\vw j h/\k=k+1/\eE k l
abbrev TX(a:Prop)(b c d:Int)(e:G)(f:List G):=Fm.ct a (λy=>y.i 50=dt b c d e f/\(dt b c d e f=(0:Int)->hT y 300=C7 b c d e f)/\(¬dt b c d e f=(0:Int)->hT y 300=hZ))
abbrev TY(a:Prop)(b c d:Int)(e:G)(f:List G)(g:Prop):=Fm.ct a (λy=>y.i 50=dt b c d e f/\(dt b c d e f=(0:Int)->y.s 10=rA g b c d e f)/\(¬dt b c d e f=(0:Int)->y.s 10= []))
abbrev Rf(a:Prop)(b:List G)(c:List Nat)(d:Int)(e:List G):=Fm.cl a (ne b/\1<=c.length/\c.length<=64) (λy=>y.g 20=dR d e/\y.i 30=0)
abbrev TZ(a b c:Int)(d:G)(e:List G)(f:Int)(g h i:List G)(j k:Int)(l:List G):=dt a b c d e=(0:Int)->f=0->g=g++ [Ny a b c d e]/\h=h++ [G.node [C7 a b c d e]]/\ne i/\bX i=bX i/\vw j i/\k=k+1/\eE k l
abbrev T0(a b c:Prop)(d:List G)(e f:Int)(g:List G)(h:Int)(i):=Fm.cl a (b/\c/\d.length<4000) (λy=>(e+f<=bX g->y.g 20=dR h i/\y.i 30=0)/\(¬e+f<=bX g->y.g 20=g/\y.i 30=6))
abbrev T1(a:List Nat):=Fm.ct (a.length<=524288) (λy=>y.i 50=0/\y.s 10=MW a)
abbrev NH(a:Prop)(b:Int):=Fm.ct a (λy=>y.s 10=iC b)
abbrev T2(a:Prop)(b c:List G):=Fm.cl a (cJ [106,111,117,114,110,97,108] b/\1<=7/\7<=64) (λy=>y.g 20=c/\y.i 30=0)
def Rg:bI 9 yP:=cC 131 1645618779478549408291638612891716364404678606713028061956499084297284602028017 (ar qI (ar TK (ar JV (ar NB (ar qY (ar AY (ar Fg (ar A_ (ar tw (ar DD (ar MU (ar OO eN)))))))))))) (aX (ptm:=[(68,.c (.v 7 24))]) Kh (aX (ptm:=[(30,.c (.v 7 24))]) Ki (aX (ptm:=[(42,.c (.v 7 24))]) KD lN))) λz hA=>show Fm.den (let zw:=(0:Int)<=0;let v4:=(hT z 200);let v6:=(¬(z.i 21≠ ↑(z.g 31).length));let v7:=(¬dt (z.i 21) (z.i 22) (z.i 23) v4 (z.g 24)=(0:Int)->(6:Int)=dt (z.i 21) (z.i 22) (z.i 23) v4 (z.g 24));let v8:=(dt (z.i 21) (z.i 22) (z.i 23) v4 (z.g 24)=(0:Int)->(6:Int)=0∨(6:Int)=6);let v9:=(¬ra v4 hZ);let v10:=(↑(z.g 32).length:Int);let v2:=(¬ra v4 (hX (cw (bx (z.g 32) (v10-1)))));let v11:=(↑(z.g 31).length:Int);let v3:=(0<v11);let j8:=(¬dt (z.i 21) (z.i 22) (z.i 23) v4 (z.g 24)=(0:Int)->(0:Int)=dt (z.i 21) (z.i 22) (z.i 23) v4 (z.g 24));let l9:=(dt (z.i 21) (z.i 22) (z.i 23) v4 (z.g 24)=(0:Int)->(0:Int)=0∨(0:Int)=6);let p5:=(bn (z.g 20));let Wv:=(QV (z.g 31));let F':=(QV (z.g 32));let XI:=(z.i 21+1);let YG:=(False↔False);let v5:=(NG (z.g 31) (z.g 32) (z.g 20) YG);let Zd:=(↑(cB p5):Int);let v20:=(↑(z.g 24).length:Int);let v21:=((gi (z.g 20)));let v22:=(0<=z.i 1/\z.i 1<1000000);let v23:=(20:Int);let v1:Fm:=(.an v5 (.at ((¬dt (z.i 21) (z.i 22) (z.i 23) v4 (z.g 24)=(0:Int)->(1:Int)=dt (z.i 21) (z.i 22) (z.i 23) v4 (z.g 24))/\(dt (z.i 21) (z.i 22) (z.i 23) v4 (z.g 24)=(0:Int)->(1:Int)=0∨(1:Int)=6)/\(dt (z.i 21) (z.i 22) (z.i 23) v4 (z.g 24)=(0:Int)->(1:Int)=0->z.g 31=z.g 31++ [Ny (z.i 21) (z.i 22) (z.i 23) v4 (z.g 24)]/\z.g 32=z.g 32++ [G.node [C7 (z.i 21) (z.i 22) (z.i 23) v4 (z.g 24)]]/\ne (z.g 20)/\bX (z.g 20)=bX (z.g 20)/\vw XI (z.g 20)/\z.i 1=z.i 1+1/\eE (z.i 1) (z.g 2))/\(¬(1:Int)=0->z.g 31=z.g 31/\z.g 32=z.g 32/\z.g 20=z.g 20/\z.i 1=z.i 1/\z.g 2=z.g 2))));let v0:Fm:=(Qh (z.g 24) v4 (z.i 21) (z.i 22) (z.i 23) λy0=>(.two (y0.i 50≠0) (.an (y0.i 50≠0) (.an v5 (.at ((¬dt (z.i 21) (z.i 22) (z.i 23) v4 (z.g 24)=(0:Int)->y0.i 50=dt (z.i 21) (z.i 22) (z.i 23) v4 (z.g 24))/\(dt (z.i 21) (z.i 22) (z.i 23) v4 (z.g 24)=(0:Int)->y0.i 50=0∨y0.i 50=6)/\(TZ (z.i 21) (z.i 22) (z.i 23) v4 (z.g 24) (y0.i 50) (z.g 31) (z.g 32) (z.g 20) XI (z.i 1) (z.g 2))/\(¬y0.i 50=0->z.g 31=z.g 31/\z.g 32=z.g 32/\z.g 20=z.g 20/\z.i 1=z.i 1/\z.g 2=z.g 2))))) (.cl ((v20=v20/\z.g 24=z.g 24/\True)) (Nj (z.g 24) (zw/\0<=v20)) (λy1=>True) λy1=>(.ct ((F1 (z.g 24))/\OW (z.g 24)) (λy2=>y2.i 31=z.i 21/\y2.i 32=z.i 22/\y2.i 33=z.i 23/\hT y2 400=hT z 200/\y2.g 34=z.g 24) λy2=>(let v25:=(z.g 31++ [G.node [G.int (y2.i 31),G.int (y2.i 32),G.int (y2.i 33),hT y2 400,G.node (y2.g 34)]]);let v26:=(↑(y2.g 34).length:Int);let v27:=(hT y2 400);let v24:=(re (y2.g 34)/\cD v27/\(y2.g 34).length<=1000000/\y2.i 31<9223372036854775808/\y2.i 32<9223372036854775808/\y2.i 33<9223372036854775808);let v28:=(dY (y2.g 34)/\(zw/\0<=v26)/\(y2.g 34).length<=1000000/\v25.length<=1000000);let v29:=(0<=y2.i 31/\y2.i 31<100);(.cl ((v26=v26/\y2.g 34=y2.g 34/\True)) (Nj (y2.g 34) (zw/\0<=v26)) (λy3=>True) λy3=>(.ct (F1 (y2.g 34)) (λy4=>(y4.p 40↔0<(kX (y2.g 34) 0).length)/\y4.s 30=kX (y2.g 34) 0) λy4=>(.two (y4.p 40) (NH v29 (y2.i 31) λy5=>(.cl v21 (ne (z.g 20)/\¬cJ (y5.s 10) p5/\(1<=(y5.s 10).length/\(y5.s 10).length<=64)/\(y4.s 30).length<=524288/\p5.length<3000) (λy6=>(Zd+(↑(y4.s 30).length:Int)+12<=bX (z.g 20)->y6.g 20=dR (bX (z.g 20)) (dz (y5.s 10) ((y4.s 30).length+12) p5)/\y6.i 30=0)/\(¬Zd+(↑(y4.s 30).length:Int)+12<=bX (z.g 20)->y6.g 20=z.g 20/\y6.i 30=6)) λy6=>(let v30:=(bn (y6.g 20));let v31:=((gi (y6.g 20)));(TY v24 (y2.i 31) (y2.i 32) (y2.i 33) v27 (y2.g 34) (false=true) λy7=>(T1 (y7.s 10) λy8=>(.two (y6.i 30=0) (.an (y8.i 50=0) (T0 v31 (1<=7/\7<=64) (Rd (y8.s 10)) v30 (↑(cB v30):Int) (↑(y8.s 10).length:Int) (y6.g 20) (bX (y6.g 20)) (dz [106,111,117,114,110,97,108] (y8.s 10).length v30) λy9=>(let v32:=((gi (y9.g 20)));(.two (y9.i 30=6) (NH v29 (y2.i 31) λYi=>(Rf v32 (y9.g 20) (Yi.s 10) (bX (y9.g 20)) (cu (Yi.s 10) (bn (y9.g 20))) λWF=>(let v33:=(WF.g 20);(.an (¬(WF.i 30≠0)) (.an (NG (z.g 31) (z.g 32) v33 YG) (.at (v7/\v8/\(Re (z.i 21) (z.i 22) (z.i 23) v4 (z.g 24) (z.g 31) (z.g 32) v33 (z.g 20) XI (z.i 1) (z.g 2))/\(¬(6:Int)=0->z.g 31=z.g 31/\z.g 32=z.g 32/\WF.g 20=z.g 20/\z.i 1=z.i 1/\z.g 2=z.g 2)))))))) (.an (y9.i 30=0) (T2 v32 (bn (y9.g 20)) (y9.g 20) λYi=>(.an (¬(Yi.i 30≠0)) (TX v24 (y2.i 31) (y2.i 32) (y2.i 33) v27 (y2.g 34) λWF=>(.an Wv (.an F' (QA (hT WF 300) v22 (z.i 1) (z.g 2) λy12=>(.cl ((v25.length=(z.g 31).length+1/\(z.g 32++ [G.node [hT WF 300]]).length=(z.g 32).length+1/\ez (Yi.g 20)=ez (Yi.g 20)/\(Yi.i 30≠0↔False)/\v26=v26/\y2.g 34=y2.g 34/\True)) v28 (λXq=>Xq.g 31=z.g 31++ [G.node [G.int (y2.i 31),G.int (y2.i 32),G.int (y2.i 33),hT y2 400,G.node (y2.g 34)]]/\Xq.g 32=z.g 32++ [G.node [hT WF 300]]/\Xq.g 20=Yi.g 20/\Xq.i 1=y12.i 1/\Xq.g 2=y12.g 2/\Xq.g 36=z.g 36) λXq=>(let ZV:=(Xq.g 20);(.an (NG (Xq.g 31) (Xq.g 32) ZV YG) (.at (j8/\l9/\(dt (z.i 21) (z.i 22) (z.i 23) v4 (z.g 24)=(0:Int)->(0:Int)=0->Xq.g 31=z.g 31++ [Ny (z.i 21) (z.i 22) (z.i 23) v4 (z.g 24)]/\Xq.g 32=z.g 32++ [G.node [C7 (z.i 21) (z.i 22) (z.i 23) v4 (z.g 24)]]/\ne ZV/\bX ZV=bX (z.g 20)/\vw XI ZV/\Xq.i 1=z.i 1+1/\eE (Xq.i 1) (Xq.g 2))/\(¬(0:Int)=0->Xq.g 31=z.g 31/\Xq.g 32=z.g 32/\Xq.g 20=z.g 20/\Xq.i 1=z.i 1/\Xq.g 2=z.g 2))))))))))))))))) (.an (¬(y6.i 30=0)) (.an (y6.i 30=6) (NH v29 (y2.i 31) λy9=>(Rf v31 (y6.g 20) (y9.s 10) (bX (y6.g 20)) (cu (y9.s 10) v30) λYi=>(let v35:=(Yi.g 20);(.an (¬(Yi.i 30≠0)) (.an (NG (z.g 31) (z.g 32) v35 YG) (.at (v7/\v8/\(Re (z.i 21) (z.i 22) (z.i 23) v4 (z.g 24) (z.g 31) (z.g 32) v35 (z.g 20) XI (z.i 1) (z.g 2))/\(¬(6:Int)=0->z.g 31=z.g 31/\z.g 32=z.g 32/\Yi.g 20=z.g 20/\z.i 1=z.i 1/\z.g 2=z.g 2)))))))))))))))) (TY v24 (y2.i 31) (y2.i 32) (y2.i 33) v27 (y2.g 34) (false=true) λy5=>(T1 (y5.s 10) λy6=>(.an (y6.i 50=0) (T0 v21 (1<=7/\7<=64) (Rd (y6.s 10)) p5 Zd (↑(y6.s 10).length:Int) (z.g 20) (bX (z.g 20)) (dz [106,111,117,114,110,97,108] (y6.s 10).length p5) λy7=>(let v36:=((gi (y7.g 20)));(.two (y7.i 30=6) (NH v29 (y2.i 31) λy8=>(Rf v36 (y7.g 20) (y8.s 10) (bX (y7.g 20)) (cu (y8.s 10) (bn (y7.g 20))) λy9=>(.an (¬(y9.i 30≠0)) (.an (NG (z.g 31) (z.g 32) (y9.g 20) YG) (.at (v7/\v8/\(Re (z.i 21) (z.i 22) (z.i 23) v4 (z.g 24) (z.g 31) (z.g 32) (y9.g 20) (z.g 20) XI (z.i 1) (z.g 2))/\(¬(6:Int)=0->z.g 31=z.g 31/\z.g 32=z.g 32/\y9.g 20=z.g 20/\z.i 1=z.i 1/\z.g 2=z.g 2))))))) (.an (y7.i 30=0) (T2 v36 (bn (y7.g 20)) (y7.g 20) λy8=>(.an (¬(y8.i 30≠0)) (TX v24 (y2.i 31) (y2.i 32) (y2.i 33) v27 (y2.g 34) λy9=>(.an Wv (.an F' (QA (hT y9 300) v22 (z.i 1) (z.g 2) λYi=>(.cl ((v25.length=(z.g 31).length+1/\(z.g 32++ [G.node [hT y9 300]]).length=(z.g 32).length+1/\ez (y8.g 20)=ez (y8.g 20)/\(y8.i 30≠0↔False)/\v26=v26/\y2.g 34=y2.g 34/\True)) v28 (λWF=>WF.g 31=z.g 31++ [G.node [G.int (y2.i 31),G.int (y2.i 32),G.int (y2.i 33),hT y2 400,G.node (y2.g 34)]]/\WF.g 32=z.g 32++ [G.node [hT y9 300]]/\WF.g 20=y8.g 20/\WF.i 1=Yi.i 1/\WF.g 2=Yi.g 2/\WF.g 36=z.g 36) λWF=>(let v37:=(WF.g 20);(.an (NG (WF.g 31) (WF.g 32) v37 YG) (.at (j8/\l9/\(dt (z.i 21) (z.i 22) (z.i 23) v4 (z.g 24)=(0:Int)->(0:Int)=0->WF.g 31=z.g 31++ [Ny (z.i 21) (z.i 22) (z.i 23) v4 (z.g 24)]/\WF.g 32=z.g 32++ [G.node [C7 (z.i 21) (z.i 22) (z.i 23) v4 (z.g 24)]]/\ne v37/\bX v37=bX (z.g 20)/\vw XI v37/\WF.i 1=z.i 1+1/\eE (WF.i 1) (WF.g 2))/\(¬(0:Int)=0->WF.g 31=z.g 31/\WF.g 32=z.g 32/\WF.g 20=z.g 20/\WF.i 1=z.i 1/\WF.g 2=z.g 2)))))))))))))))))))))))))));(.two (False) (.an v5 (.at ((¬dt (z.i 21) (z.i 22) (z.i 23) v4 (z.g 24)=(0:Int)->v23=dt (z.i 21) (z.i 22) (z.i 23) v4 (z.g 24))/\(dt (z.i 21) (z.i 22) (z.i 23) v4 (z.g 24)=(0:Int)->v23=0∨v23=6)/\(TZ (z.i 21) (z.i 22) (z.i 23) v4 (z.g 24) v23 (z.g 31) (z.g 32) (z.g 20) XI (z.i 1) (z.g 2))/\(¬v23=0->z.g 31=z.g 31/\z.g 32=z.g 32/\z.g 20=z.g 20/\z.i 1=z.i 1/\z.g 2=z.g 2)))) (.an v6 (.an v6 (.an v6 (.an v6 (.two (v10=0) (.an v6 (.an v6 (.two v9 (.an v9 (.an v9 (.an v9 (.an v9 (.an v9 (.an v9 (.an v9 (.an v9 v1)))))))) (.an (¬v9) (.an (¬v9) (.an (¬v9) (.an (¬v9) (.an (¬v9) (.an (¬v9) (.an (¬v3) (.an (¬v3) (.an (¬v3) (.an (¬v3) (.an (¬v3) (.an (¬v3) (.an (¬v3) (.an (¬v3) (.an (¬v3) (.an (¬v3) (.an (¬v3) (.an (¬v3) (.an (¬v3) (.an (¬v3) (.an (¬v3) (.an (¬v3) (.an (¬v9) (.an (¬v3) (.an (¬v9) v0)))))))))))))))))))))))))))) (.an ((-9223372036854775808)<=v10-1/\v10-1<=9223372036854775807) (.an (0<=v10-1/\v10-1<v10) (.an (gK (v10-1) (z.g 32)) (.an v6 (.an v6 (.two v2 (.an v2 (.an v2 (.an v2 (.an v2 (.an v2 (.an v2 (.an v2 (.an v2 v1)))))))) (.an (¬v2) (.an (¬v2) (.an (¬v2) (.an (¬v2) (.an (¬v2) (.an (¬v2) (.an v3 (.an v3 (.an v3 (.an v3 (.an v3 (.an v3 (.an v3 (.an v3 (.an v3 (.an v3 (.an v3 (.an v3 (.an ((-9223372036854775808)<=v11-1/\v11-1<=9223372036854775807) (.an v3 (.an (0<=v11-1/\v11-1<v11) (.an v3 (.an v3 (.an (gK (v11-1) (z.g 31)) (.an v3 (.an (¬v2) (.an v3 (.an (¬v2) (.two (z.i 22<gI (ah (bx (z.g 31) (v11-1)) 1)) v1 v0)))))))))))))))))))))))))))))))))))))))))) by
 dsimp only [yP,bk,hs,R4,TW,OK,yZ] at hA;have a1:=@Kv (z.g 32);have a2:=@Kw (z.g 32);have:=λh h0 hi=>@RowsOk.at (z.g 32) h (((z.g 32).length:Int)-1) h0 hi;have a1:=@A7 (z.g 32);have a2:=@TV (z.g 31) (z.i 22);have:=@Kz (z.g 24) (z.i 21) (z.i 22) (z.i 23) (hT z 200);have:=@TO (z.g 24);have b8:(false=true)=False:=by simp
 have:=@DE (z.i 21) (z.g 20);have d2:=λh hd h0 h1 ha hr=>@ND (z.i 21) (z.g 20) h hd h0 h1 ((kX (z.g 24) 0).length+12) ((rA False (z.i 21) (z.i 22) (z.i 23) (hT z 200) (z.g 24)).length+12) ha hr;have d1:=λh hd h0 h1 hr=>@NE (z.i 21) (z.g 20) h hd h0 h1 ((rA False (z.i 21) (z.i 22) (z.i 23) (hT z 200) (z.g 24)).length+12) hr;have:=Dd (z.i 21);have:=Q9 (z.i 21) (z.i 22) (z.i 23) (hT z 200) (z.g 24);have:=ip (rA False (z.i 21) (z.i 22) (z.i 23) (hT z 200) (z.g 24));have:=λn' j9 ht hh hx=>@Rb (z.i 1) n' (z.g 2) j9 (C7 (z.i 21) (z.i 22) (z.i 23) (hT z 200) (z.g 24)) ht hh hx;have:=JJ (z.i 21) (z.i 22) (z.i 23) (hT z 200) (z.g 24);unfold rf at d1 d2;conv=>zeta
 repeat' with_reducible first|intro _|apply d_|apply ed|apply ef|apply eu|apply ew
 all_goals first|omega|grind [aA,aq,ao,cd,ce,cf,cg,ci,cj,ck,cm,co,aY,List.append_assoc,ip,ir,iu]
noncomputable section
def KE(k:Nat):FSpec:=⟨[.ag va,.c (.p 0)],[.cells 3 [.i .i64 20]],λz=>Dl k (z.i 2) (z.s 4) (z.g 5) (z.g 6)/\(0<=z.i 20/\z.i 20<=3000000000000000)/\2501<=z.i 20+k/\1<=k,λ_=>.one (.c (.b 10)),λ_=>[.cells 3 [.i .i64 21]],λz y=>(y.p 10↔2500<y.i 21)/\z.i 20<y.i 21/\y.i 21<=5000000000000000/\(y.i 21<=2500->y.i 21=z.i 20+J7 k (z.s 4) (z.g 5) (z.g 6)),[]⟩
def DG(k:Nat)(p:Sy):LSpec:=⟨[(1,.c (.p 1)),(2,.c (.p 0)),(5,.c (.i .i64 9))],[.cells 25 (vp p),.cells 3 [.i .i64 20]],λz=>Fp k (p.g 6)/\(p.g 6).length<=1125899906842624/\(0<=z.i 9/\z.i 9<=(p.g 6).length)/\(0<=z.i 20/\z.i 20<=5000000000000000)/\2501<=z.i 20+k,λz=>((p.g 6).length-z.i 9).toNat,[⟨.exit 0,[(1,.c (.p 1))],[.cells 25 (vp p),.cells 3 [.i .i64 21]]⟩],λz y=>(z.i 20<=y.i 21/\y.i 21<=5000000000000000)/\(y.i 21<=2500->y.i 21=z.i 20+yG k (p.g 6) (z.i 9)),[],[]⟩
def yQ(p:Sy):LSpec:=⟨[(0,.c (.pv 1 (p.g 1))),(1,.c (.pv 1 (p.g 2))),(5,.c (.i .i64 9))],[],λz=>p.g 1=p.g 2/\(p.g 1).length<=100000000/\(0<=z.i 9/\z.i 9<=(p.g 1).length),λz=>((p.g 1).length-z.i 9).toNat,[⟨.exit 0,[],[]⟩,⟨.ret,[(4,.c (.b 10))],[]⟩],λz y=>y.i 999=0,[],[]⟩
def KF:FSpec:=⟨[.c (.v 1 1),.c (.v 1 2)],[],λz=>z.g 1=z.g 2/\(z.g 1).length<=100000000,λ_=>.one (.c (.b 50)),λ_=>[],λz y=>y.p 50,[]⟩
def jt(l:List G):Prop:=OY l/\Fp 2502 l/\yG 2502 l 0<=2500/\l.length<=1000
def vy{l:List G}{i:Int}(h:jt l)(h0:0<=i)(hi:i<l.length):qw 16 (gI (ah (aL l i.toNat) 1)) (gS (ah (aL l i.toNat) 3)) (gL (ah (aL l i.toNat) 4)) (gL (ah (aL l i.toNat) 5))/\sW 16 (gS (ah (aL l i.toNat) 3)) (gL (ah (aL l i.toNat) 5))<=10000000:=by
 have hm:=dK h0 hi;have h1:rC 2502 (aL l i.toNat)<=2500:=by
  have:=vd (f:=rC 2502) hm;have e:yG 2502 l 0=(l.map (rC 2502)).sum:=by unfold yG;show((l.drop 0).map _).sum=_;rw[aaT]
  have:=h.2.2.1;omega
 have h2:K3 2502 (aL l i.toNat):=by have:=h.2.1;unfold Fp at this;exact this _ hm
 have down:∀(j:Nat) (g:G),K3 (j+1) g->K3 j g:=by
  intro j
  induction j with
  |zero=>intro g h;exact h.1
  |succ j ih=>intro g h;exact⟨h.1,λx hx=>ih x (h.2 x hx)⟩
 have h3:=Kb 16 2501 _ (by omega) (down _ _ h2) (aaH h1 (by decide));have h4:jU 16 (aL l i.toNat)+50<=93 * rC 2502 (aL l i.toNat):=(Ka 16 2501 (aL l i.toNat) (by omega)).2 (by omega);refine⟨by rw[mZ];exact h3, ?_⟩;rw[uN];omega
def NI{l:List G}{k:Int}(h:jt l)(h0:0<=k)(hk:k<l.length):Vq (k+1) (K4 k (aL l k.toNat)):=by
 obtain⟨a1,a2⟩:=vy h h0 hk;have hl:=h.2.2.2;have hn:=h.1 _ (dK h0 hk);have e5:A0 16 (gL (ah (aL l k.toNat) 5))=gL (ah (aL l k.toNat) 5):=by
  have:gL (ah (R2 16 (aL l k.toNat)) 5)=gL (ah (aL l k.toNat) 5):=by rw[hn]
  exact this
 have hh:cD (UN (aL l k.toNat)):=Ni _ _ _ _ _ _;unfold K4;refine⟨?_, ?_,.inr rfl,⟨λ_=>by omega,λ_=>rfl⟩,show ¬(0:Int)=1 by decide,rfl,rfl⟩
 ·have z1: -9223372036854775808<=(0:Int)/\(0:Int)<9223372036854775808:=⟨by decide,by decide⟩
  have z2: -9223372036854775808<=(1:Int)/\(1:Int)<9223372036854775808:=⟨by decide,by decide⟩
  refine Kg ⟨aan _,z2, ?_,z1,z1,z1,a1,a2, ?_⟩
  ·show -9223372036854775808<=1+k/\1+k<9223372036854775808;omega
  ·show cD (hX (UN _));rw[lY hh];exact hh
 ·show G.node [.int 2,.str [],.int 1,.int (1+k),.int 0,.int (gI (ah (aL l k.toNat) 0)),.int (gI (ah (aL l k.toNat) 1)),.int (gI (ah (aL l k.toNat) 2)),.str (gS (ah (aL l k.toNat) 3)),.node (gL (ah (aL l k.toNat) 4)),.node (A0 16 (gL (ah (aL l k.toNat) 5))),hX (UN (aL l k.toNat)),.int (pI ((0:Int)=1)),.int 0,.int 0]=_;rw[lY hh,TP,e5]
def NJ{l:List G}(h:jt l):dY (Ke l):=by
 unfold dY;intro i h0 hi;rw[Nf] at hi;by_cases e:i=0
 ·subst e;have:aL (Ke l) (0:Int).toNat=Vr:=by unfold Ke;rfl
  rw[this];exact TQ
 ·have h1:=Kf l 0 (i-1).toNat (by omega);have h2:aL (Ke l) i.toNat=aL (Nd l 0) (i-1).toNat:=by rw[show i.toNat=(i-1).toNat+1 by omega];unfold Ke R3;rfl
  have h3:=NI (k:=i-1) h (by omega) (by omega);rw[h2,h1];rw[show(0:Int)+((i-1).toNat:Nat)=i-1 by omega];rw[show i-1+1=i by omega] at h3;exact h3
end
def KH(k:Nat)(ag_:bI 4 (KE k)):cH 4 0 (DG k):=cG 6 37 (ar ag_ eN) lN λp z hA=>show Fm.den (let v1:=(bx (p.g 6) (z.i 9));let v2:=(AF (p.g 6) (p.g 5) (p.s 4) (p.i 3) (p.i 2) (p.i 1));let v0:Fm:=(.an v2 (.at ((z.i 20<=z.i 20/\z.i 20<=5000000000000000)/\(z.i 20<=2500->z.i 20=z.i 20+ ↑(yG k (p.g 6) (z.i 9))))));(.two (z.i 9 < ↑(p.g 6).length) (.two (z.i 20<=2500) (.an (gf (z.i 9) (p.g 6)) (.ct (Dl k (gI (ah v1 1)) (gS (ah v1 3)) (gL (ah v1 4)) (gL (ah v1 5))/\(0<=z.i 20/\z.i 20<=3000000000000000)/\2501<=z.i 20+(↑k:Int)/\1<=k) (λy0=>(y0.p 10↔2500<y0.i 21)/\z.i 20<y0.i 21/\y0.i 21<=5000000000000000/\(y0.i 21<=2500->y0.i 21=z.i 20+(↑(J7 k (gS (ah v1 3)) (gL (ah v1 4)) (gL (ah v1 5))):Int))) λy0=>(.an ((-9223372036854775808)<=z.i 9+1/\z.i 9+1<=9223372036854775807) (.an v2 (.at ((Fp k (p.g 6)/\(p.g 6).length<=1125899906842624/\(jV (z.i 9) (p.g 6))/\(0<=y0.i 21/\y0.i 21<=5000000000000000)/\2501<=y0.i 21+(↑k:Int))/\((↑(p.g 6).length:Int)-(z.i 9+1)).toNat<((↑(p.g 6).length:Int)-z.i 9).toNat/\∀(y:Sy),(y0.i 21<=y.i 21/\y.i 21<=5000000000000000)/\(y.i 21<=2500->y.i 21=y0.i 21+ ↑(yG k (p.g 6) (z.i 9+1)))->(z.i 20<=y.i 21/\y.i 21<=5000000000000000)/\(y.i 21<=2500->y.i 21=z.i 20+ ↑(yG k (p.g 6) (z.i 9))))))))) v0) v0)) by dsimp only [DG,vp] at hA;have:=@QW k (p.g 6) (z.i 9);have:=@J6 k (p.g 6) (z.i 9);have:=@Nc k (p.g 6) (z.i 9);have:=vc k (aL (p.g 6) (z.i 9).toNat);have:=J8 k (aL (p.g 6) (z.i 9).toNat);exact pY
abbrev UO(a:Prop)(b:Nat)(c:List G)(d e:Prop)(f g:Int)(h:Nat):=Fm.cl a (Fp b c/\c.length<=1125899906842624/\d/\e/\2501<=IntKind.i64.wrap f+g) (λy=>(IntKind.i64.wrap f<=y.i 21/\y.i 21<=5000000000000000)/\(y.i 21<=2500->y.i 21=IntKind.i64.wrap f+ ↑h))
abbrev NK(a:Int):=0<=IntKind.i64.wrap a/\IntKind.i64.wrap a<=5000000000000000
abbrev yR(a:Prop)(b c:Int)(d:Prop):=a/\b<c/\c<=5000000000000000/\d
abbrev yS(a:Int):=2500<a↔2500<a
abbrev T3(a:Prop)(b:Nat)(c:List G)(d e:Prop)(f g h:Int)(i:List G)(j:Nat):=Fm.cl a (Fp b c/\c.length<=1125899906842624/\d/\e/\2501<=IntKind.i64.wrap f+g+h) (λy=>(IntKind.i64.wrap f+ ↑i.length<=y.i 21/\y.i 21<=5000000000000000)/\(y.i 21<=2500->y.i 21=IntKind.i64.wrap f+ ↑i.length+ ↑j))
abbrev vz(a b:Int)(c:Nat):=a<=2500->a=b+ ↑c
def DH:∀k,bI 4 (KE k)
 |0=>RX λz h=>absurd h.2.2.2 (by decide)
 |k+1=>cC 17 273695066 eN (aX (ptm:=[(0,.ag va)]) (KH k (DH k)) lN) λz hA=>show Fm.den (let zw:=(0:Int)<=0;let v0:=(↑(z.s 4).length:Int);let v1:=((AF (z.g 6) (z.g 5) (z.s 4) (z.i 3) (z.i 2) (z.i 1)));let v2:=(↑(z.g 5).length:Int);let v3:=(z.i 20+1+IntKind.i64.wrap (v0/20));let v4:=(zw/\0<=(↑(z.g 6).length:Int));let v5:=(J7 (k+1) (z.s 4) (z.g 5) (z.g 6));let v6:=(z.i 20+1+v0/20);let v7:=(z.i 20+1+IntKind.i64.wrap (v0/20)+v2);let v8:=(IntKind.i64.wrap v6+v2);let v9:=(IntKind.i64.wrap v3+v2);let v10:=(yG k (z.g 6) 0);let v11:=(z.i 20+1+v0/20+v2);let j8:=(↑k:Int);(.an ((-9223372036854775808)<=z.i 20+1/\z.i 20+1<=9223372036854775807) (.an ((20:Int)≠0) (.an (0<=v0/\(0:Int)<20) (.two ((-9223372036854775808)<=v0/20/\v0/20<=9223372036854775807) (.two ((-9223372036854775808)<=z.i 20+1+v0/20/\z.i 20+1+ ↑(z.s 4).length/20<=9223372036854775807) (.two ((-9223372036854775808)<=z.i 20+1+v0/20+v2/\z.i 20+1+ ↑(z.s 4).length/20+ ↑(z.g 5).length<=9223372036854775807) (.cl v1 (Fp k (z.g 6)/\(z.g 6).length<=1125899906842624/\v4/\(0<=z.i 20+1+v0/20+v2/\z.i 20+1+ ↑(z.s 4).length/20+ ↑(z.g 5).length<=5000000000000000)/\2501<=z.i 20+1+v0/20+v2+j8) (λy0=>(z.i 20+1+ ↑(z.s 4).length/20+ ↑(z.g 5).length<=y0.i 21/\y0.i 21<=5000000000000000)/\(y0.i 21<=2500->y0.i 21=z.i 20+1+ ↑(z.s 4).length/20+ ↑(z.g 5).length+ ↑v10)) λy0=>(.ax (yR (yS (y0.i 21)) (z.i 20) (y0.i 21) (vz (y0.i 21) (z.i 20) v5)))) (UO v1 k (z.g 6) v4 (NK v11) v11 j8 v10 λy0=>(.ax (yR (yS (y0.i 21)) (z.i 20) (y0.i 21) (vz (y0.i 21) (z.i 20) v5))))) (.two ((-9223372036854775808)<=IntKind.i64.wrap v6+v2/\IntKind.i64.wrap v6+ ↑(z.g 5).length<=9223372036854775807) (T3 v1 k (z.g 6) v4 (0<=IntKind.i64.wrap v6+v2/\IntKind.i64.wrap v6+ ↑(z.g 5).length<=5000000000000000) v6 v2 j8 (z.g 5) v10 λy0=>(.ax (yR (yS (y0.i 21)) (z.i 20) (y0.i 21) (vz (y0.i 21) (z.i 20) v5)))) (UO v1 k (z.g 6) v4 (NK v8) v8 j8 v10 λy0=>(.ax (yR (yS (y0.i 21)) (z.i 20) (y0.i 21) (vz (y0.i 21) (z.i 20) v5)))))) (.two ((-9223372036854775808)<=z.i 20+1+IntKind.i64.wrap (v0/20)/\z.i 20+1+IntKind.i64.wrap (v0/20)<=9223372036854775807) (.two ((-9223372036854775808)<=z.i 20+1+IntKind.i64.wrap (v0/20)+v2/\z.i 20+1+IntKind.i64.wrap (v0/20)+ ↑(z.g 5).length<=9223372036854775807) (.cl v1 (Fp k (z.g 6)/\(z.g 6).length<=1125899906842624/\v4/\(0<=z.i 20+1+IntKind.i64.wrap (v0/20)+v2/\z.i 20+1+IntKind.i64.wrap (v0/20)+ ↑(z.g 5).length<=5000000000000000)/\2501<=z.i 20+1+IntKind.i64.wrap (v0/20)+v2+j8) (λy0=>(z.i 20+1+IntKind.i64.wrap (v0/20)+ ↑(z.g 5).length<=y0.i 21/\y0.i 21<=5000000000000000)/\(y0.i 21<=2500->y0.i 21=z.i 20+1+IntKind.i64.wrap (v0/20)+ ↑(z.g 5).length+ ↑v10)) λy0=>(.ax (yR (yS (y0.i 21)) (z.i 20) (y0.i 21) (vz (y0.i 21) (z.i 20) v5)))) (UO v1 k (z.g 6) v4 (NK v7) v7 j8 v10 λy0=>(.ax (yR (yS (y0.i 21)) (z.i 20) (y0.i 21) (vz (y0.i 21) (z.i 20) v5))))) (.two ((-9223372036854775808)<=IntKind.i64.wrap v3+v2/\IntKind.i64.wrap v3+ ↑(z.g 5).length<=9223372036854775807) (T3 v1 k (z.g 6) v4 (0<=IntKind.i64.wrap v3+v2/\IntKind.i64.wrap v3+ ↑(z.g 5).length<=5000000000000000) v3 v2 j8 (z.g 5) v10 λy0=>(.ax (yR (yS (y0.i 21)) (z.i 20) (y0.i 21) (vz (y0.i 21) (z.i 20) v5)))) (UO v1 k (z.g 6) v4 (NK v9) v9 j8 v10 λy0=>(.ax (yR (yS (y0.i 21)) (z.i 20) (y0.i 21) (vz (y0.i 21) (z.i 20) v5))))))))))) by dsimp only [KE,va] at hA;have:=@Nb k (z.i 2) (z.s 4) (z.g 5) (z.g 6);have:=J9 k (z.s 4) (z.g 5) (z.g 6);exact pY
def FB:cH 12 0 yQ:=cG 6 133 eN lN λp z hA=>show Fm.den ((.two (z.i 9 < ↑(p.g 1).length) (.an (gf (z.i 9) (p.g 1)) (.an (gf (z.i 9) (p.g 2)) (.two (gS (cw (bx (p.g 1) (z.i 9)))≠gS (cw (bx (p.g 2) (z.i 9)))) (.ax ((1:Int)=0)) (.an ((-9223372036854775808)<=z.i 9+1/\z.i 9+1<=9223372036854775807) (.an (p.g 2=p.g 2/\p.g 1=p.g 1/\True) (.at ((p.g 1=p.g 2/\(p.g 1).length<=100000000/\0<=z.i 9+1/\z.i 9+1<= ↑(p.g 1).length)/\((↑(p.g 1).length:Int)-(z.i 9+1)).toNat<((↑(p.g 1).length:Int)-z.i 9).toNat/\∀(y:Sy),y.i 999=0->y.i 999=0))))))) (.ax ((0:Int)=0)))) by dsimp only [yQ] at hA;exact pY
def NL:bI 12 KF:=cC 4 33 eN (aX (ptm:=[(0,.c (.v 1 1)),(1,.c (.v 1 2))]) FB lN) λz hA=>show Fm.den ((.two ((↑(z.g 1).length:Int)≠(↑(z.g 2).length:Int)) (.ax (false=true)) (.cl ((z.g 2=z.g 2/\z.g 1=z.g 1/\True)) (z.g 1=z.g 2/\(z.g 1).length<=100000000/\(0:Int)<=0/\0<=(↑(z.g 1).length:Int)) (λy0=>y0.i 999=0) λy0=>(.an (y0.i 999=0) (.ax (true=true)))))) by dsimp only [KF] at hA;exact pY
noncomputable section
def vN(n:Nat):List Sh:=[.i .i64 (n+1),.i .i64 (n+2),.i .i64 (n+3),.s (n+4),.v 1 (n+5),.v 2 (n+6)]
def vQ(p:Sy)(n:Nat):List Sh:=[.pi .i64 (p.i (n+1)),.pi .i64 (p.i (n+2)),.pi .i64 (p.i (n+3)),.ps (p.s (n+4)),.pv 1 (p.g (n+5)),.pv 2 (p.g (n+6))]
def iv(p:Sy)(n:Nat):G:=.node [.int (p.i (n+1)),.int (p.i (n+2)),.int (p.i (n+3)),.str (p.s (n+4)),.node (p.g (n+5)),.node (p.g (n+6))]
def Vt(p:Sy):List BSh:=[.cells 25 (vQ p 100),.cells 25 (vQ p 110),.cells 38 [.p 4,.o,.p 3,.o,.o,.o],.cells 78 [.p 4,.g 5 36 31,.g 6 32 32,.p 7,.m 9,.pb False],.obj 2 ez 20,.grow 11 47 31,.grow 6 44 32,.cells 160 [.i .i64 51,.m 8],.sm 0 52,.sm 1 36]
end
end Go.Proofs.YtknhaomckfianaaGreatDoor
