/- Part 7. -/
import Derived.Test.YtknhaomckfianaaGreatDoorP6
set_option linter.all false
namespace Go.Sym
open Go.RowKit (Below)
def kU(s:PS)(F:T ABlk):Nat->Option ABlk:=λb=>if b∈s.fz then F.get b else none
def RdC(F:Nat->Option ABlk)(ct:Ct)(a:AV):Prop:=
 (a= .nils/\ct.len=0)∨a= .cv ct∨
 (∃b g es ty,a= .gsl b g ct.len es/\base+64<=b/\F b=some (.grow ct g ty))∨
 (∃(b g o:Nat) (cap:Option Nat) (c:T Cell) (gen lo hi fl fh ty:Nat) (as:List AV),a= .slc b g o ct.len cap ct.es/\base+64<=b/\F b=some (.cells c gen lo hi fl fh false ty)/\g<=gen/\1<=ct.len/\1<=ct.es/\
  KZ c g (ct.len * ct.es) o=some as/\∀i,i<ct.len->∀(ρ:Rho) (vs:List Value),LR ρ ((as.drop (i * ct.es)).take ct.es) vs->LR ρ (ct.row i) vs)∨
 (∃b g,a= .gsl b g ct.len ct.es/\base+64<=b/\F b=some (.froz ct g))
def Tv(F:Nat->Option ABlk)(blk:List BSh)(L:Nat->Option (Nat×Nat))(y:Sy)(x:Sh)(a:AV):Prop:=match x with
 | .i k t=>bD a=some (k,y.i t)
 | .b t=>cS a=some (y.p t)
 | .s t=>eY a=some (y.s t)
 | .o=>eK a=true
 | .v m t=>RdC F (.rows m (y.g t)) a
 | .vb t=>RdC F (.bytes (y.s t)) a
 | .pi k n=>bD a=some (k,n)
 | .pb q=>∃q',cS a=some q'/\(q'↔q)
 | .ps l=>eY a=some l
 | .pv m l=>RdC F (.rows m l) a
 | .pvb l=>RdC F (.bytes l) a
 | .np=>a= .nilp
 | .m j=>∃b,L j=some (b,0)/\a= .map b/\ul blk j=true
 | .p j=>∃b,L j=some (b,0)/\a= .ptr b 0 0/\ia blk j=true
 | .g j es t=>∃b g,L j=some (b,g)/\a= .gsl b g (y.g t).length es/\∃m ty,blk[j]? =some (.grow m ty t)
 | .gb j t=>∃b g,L j=some (b,g)/\a= .gsl b g (y.s t).length 1/\∃ty,blk[j]? =some (.growb ty t)
 | .fn f j=>∃b,L j=some (b,0)/\a= .func (.func f) [] [.ptr b 0 0]/\ia blk j=true
 | .li k n=>a= .int k n
 | .nz=>a= .nils
structure PS.Le(s s':PS):Prop where
 tm:∀t x,bm t s.tm=some x->bm t s'.tm=some x
 loc:∀j p,bm j s.loc=some p->bm j s'.loc=some p
 ln:∀q,q∈s.ln->q∈s'.ln
 pr:s'.pr->s.pr
 mem:∀q,q∈s.loc->q∈s'.loc
 fz:∀b,b∈s.fz->b∈s'.fz
def PS.Le.refl(s:PS):s.Le s:=⟨λ_ _ h=>h,λ_ _ h=>h,λ_ h=>h,λh=>h,λ_ h=>h,λ_ h=>h⟩
def PS.Le.trans{a b c:PS}(h:a.Le b)(h':b.Le c):a.Le c:=⟨λt x q=>h'.tm t x (h.tm t x q),λj p q=>h'.loc j p (h.loc j p q),λq p=>h'.ln q (h.ln q p),λp=>h.pr (h'.pr p),λq p=>h'.mem q (h.mem q p),λb p=>h'.fz b (h.fz b p)⟩
def pF(blk:List BSh)(s:PS):Prop:=∀j tag n,(j,tag,n)∈s.ln->(∃m ty t,blk[j]? =some (.grow m ty t)/\tag=2 * t/\(Aj s.tm t).length=n)∨(∃ty t,blk[j]? =some (.growb ty t)/\tag=2 * t+1/\(Ey s.tm t).length=n)
noncomputable def PS.L(s:PS):Nat->Option (Nat×Nat):=λj=>bm j s.loc
def cQ{α:Type}(n:Nat)(x:Nat×α)(l:List (Nat×α)):bm n (x::l)=if x.1=n then some x.2 else bm n l:=by
 show aa (Nat.beq x.1 n) (some x.2) (bm n l)=_;rw[ak];by_cases h:x.1=n
 ·rw[if_pos h,if_pos (by rw[h];exact abl n)]
 ·rw[if_neg h,if_neg (λe=>h (aae e))]
def PS.and_le(s:PS)(p:Prop):s.Le (s.and p)/\((s.and p).pr->p):=by cases s;exact⟨⟨λ_ _ h=>h,λ_ _ h=>h,λ_ h=>h,λh=>h.2,λ_ h=>h,λ_ h=>h⟩,λh=>h.1⟩
def PS.fzn_le(s:PS)(b:Nat):s.Le (s.fzn b)/\b∈(s.fzn b).fz:=by cases s;exact⟨⟨λ_ _ h=>h,λ_ _ h=>h,λ_ h=>h,λh=>h,λ_ h=>h,λ_ h=>aag _ h⟩,aaj⟩
def mR{s sF:PS}{F:T ABlk}{b:Nat}(h:b∈s.fz)(hF:s.Le sF):kU sF F b=F.get b:=by unfold kU;rw[if_pos (hF.fz _ h)]
def PS.add_ok{s s':PS}{t:Nat}{x:Tm}(h:s.add t x=some s'):s.Le s'/\bm t s'.tm=some x:=by
 cases s with
 |mk tm loc ln pr fz=>
 unfold PS.add at h
 simp only at h
 split at h
 ·rename_i hn;injection h with h;subst h;refine⟨⟨λt' x' h'=>?_,λ_ _ h=>h,λ_ h=>h,λh=>h,λ_ h=>h,λ_ h=>h⟩,by rw[cQ,if_pos rfl]⟩;rw[cQ];split
  ·rename_i e;simp only at e;subst e;have h':bm t tm=some x':=h';rw[hn] at h';cases h'
  ·exact h'
 ·cases h
def PS.must_ok{s s':PS}{p:Prop}(h:s.must p=some s'):s.Le s'/\(s'.pr->p):=by injection h with h;subst h;exact PS.and_le s p
def PS.at_ok{s s':PS}{j b g:Nat}(h:s.at_ j b g=some s'):s.Le s'/\bm j s'.loc=some (b,g):=by
 cases s with
 |mk tm loc ln pr fz=>
 unfold PS.at_ at h
 simp only at h
 split at h
 ·rename_i hn;obtain⟨_,h⟩:=aR h;injection h with h;subst h;refine⟨⟨λ_ _ h=>h,λj' p h'=>?_,λ_ h=>h,λh=>h,λ_ h=>aag _ h,λ_ h=>h⟩,by rw[cQ,if_pos rfl]⟩;rw[cQ];split
  ·rename_i e;simp only at e;subst e;have h':bm j loc=some p:=h';rw[hn] at h';cases h'
  ·exact h'
 ·rename_i b' g' hn;obtain⟨e1,h⟩:=aR h;obtain⟨e2,h⟩:=aR h;have e1:=aae e1;have e2:=aae e2;injection h with h;subst h;subst e1;subst e2;exact⟨.refl _,hn⟩
def PS.len_ok{s s':PS}{j tag n:Nat}(h:s.len_ j tag n=some s'):s.Le s'/\(j,tag,n)∈s'.ln:=by
 cases s with
 |mk tm loc ln pr fz=>
 injection h with h
 subst h
 exact⟨⟨λ_ _ h=>h,λ_ _ h=>h,λ_ h=>aag _ h,λh=>h,λ_ h=>h,λ_ h=>h⟩,aaj⟩
def xd{F:T ABlk}{m:Nat}{a:AV}{s s':PS}{k:List G->PS->Option PS}(h:BV F m a s k=some s'):
 ∃l s1,k l s1=some s'/\s.Le s1/\(s1.pr->∀sF,s1.Le sF->RdC (kU sF F) (.rows m l) a):=by
 unfold BV at h
 split at h
 ·exact⟨_,_,h,.refl _,λ_ _ _=>.inl ⟨rfl,rfl⟩⟩
 ·replace h:=aR h;obtain⟨e,h⟩:=h;have e:=aae e;subst e;exact⟨_,_,h,.refl _,λ_ _ _=>.inr (.inl rfl)⟩
 ·rename_i b g n es;replace h:=lz h;obtain⟨x,hx,h⟩:=h;split at h
  ·rename_i m' l gen ty;replace h:=aR h;obtain⟨e0,h⟩:=h;replace h:=aR h;obtain⟨e1,h⟩:=h;replace h:=aR h;obtain⟨e2,h⟩:=h;have e1:=aae e1;have e2:=aae e2;subst e1;subst e2;refine⟨_,_,h,(PS.fzn_le s b).1.trans (PS.and_le _ _).1,λhp sF hF=>.inr (.inr (.inl ⟨b,g,es,ty, ?_,aau e0,(mR ((PS.and_le _ _).1.fz _ (PS.fzn_le s b).2) hF).trans hx⟩))⟩;show AV.gsl b g n es= .gsl b g l.length es;rw[←(PS.and_le _ _).2 hp]
  ·rename_i m' l gen;replace h:=aR h;obtain⟨e0,h⟩:=h;replace h:=aR h;obtain⟨e1,h⟩:=h;replace h:=aR h;obtain⟨e2,h⟩:=h;replace h:=aR h;obtain⟨e3,h⟩:=h;have e1:=aae e1;have e2:=aae e2;have e3:=aae e3;subst e1;subst e2;subst e3;refine⟨_,_,h,(PS.fzn_le s b).1.trans (PS.and_le _ _).1,λhp sF hF=>.inr (.inr (.inr (.inr ⟨b,g, ?_,aau e0,(mR ((PS.and_le _ _).1.fz _ (PS.fzn_le s b).2) hF).trans hx⟩)))⟩;show AV.gsl b g n _= .gsl b g l.length _;rw[←(PS.and_le _ _).2 hp];rfl
  ·cases h
 ·rename_i b g o len cap es;replace h:=lz h;obtain⟨x,hx,h⟩:=h;split at h
  ·rename_i c gen lo hi fl fh ro ty;replace h:=aR h;obtain⟨e0,h⟩:=h;replace h:=Pt h;obtain⟨e1,h⟩:=h;replace h:=aR h;obtain⟨e2,h⟩:=h;replace h:=aR h;obtain⟨e3,h⟩:=h;replace h:=aR h;obtain⟨e4,h⟩:=h;replace h:=aR h;obtain⟨e5,h⟩:=h;replace h:=aB h;obtain⟨as,hl,h⟩:=h;replace h:=aB h;obtain⟨q,hq,h⟩:=h;split at h
   ·rename_i gs;have e4:=aae e4;subst e1;obtain⟨c1,f1,f2,f3,f4⟩:=fH _ _ _ _ hq;have f1:as=c1:=by simpa using f1
    subst f1;subst e4;subst f3;exact⟨_,_,h,(PS.fzn_le s b).1,λ_ sF hF=>.inr (.inr (.inr (.inl ⟨b,g,o,cap,c,gen,lo,hi,fl,fh,ty,as,rfl,aau e0,(mR (PS.fzn_le s b).2 hF).trans hx,aau e2,aau e3,aau e5,hl,f4⟩)))⟩
   ·cases h
  ·cases h
 ·cases h
def sq{F:T ABlk}{a:AV}{s s':PS}{k:List Nat->PS->Option PS}(h:uk F a s k=some s'):
 ∃l s1,k l s1=some s'/\s.Le s1/\(s1.pr->∀sF,s1.Le sF->RdC (kU sF F) (.bytes l) a):=by
 unfold uk at h
 split at h
 ·exact⟨_,_,h,.refl _,λ_ _ _=>.inl ⟨rfl,rfl⟩⟩
 ·exact⟨_,_,h,.refl _,λ_ _ _=>.inr (.inl rfl)⟩
 ·rename_i b g n es;replace h:=lz h;obtain⟨x,hx,h⟩:=h;split at h
  ·rename_i l gen ty;replace h:=aR h;obtain⟨e0,h⟩:=h;replace h:=aR h;obtain⟨e2,h⟩:=h;have e2:=aae e2;subst e2;refine⟨_,_,h,(PS.fzn_le s b).1.trans (PS.and_le _ _).1,λhp sF hF=>.inr (.inr (.inl ⟨b,g,es,ty, ?_,aau e0,(mR ((PS.and_le _ _).1.fz _ (PS.fzn_le s b).2) hF).trans hx⟩))⟩;show AV.gsl b g n es= .gsl b g l.length es;rw[←(PS.and_le _ _).2 hp]
  ·rename_i l gen;replace h:=aR h;obtain⟨e0,h⟩:=h;replace h:=aR h;obtain⟨e2,h⟩:=h;replace h:=aR h;obtain⟨e3,h⟩:=h;have e2:=aae e2;have e3:=aae e3;subst e2;subst e3;refine⟨_,_,h,(PS.fzn_le s b).1.trans (PS.and_le _ _).1,λhp sF hF=>.inr (.inr (.inr (.inr ⟨b,g, ?_,aau e0,(mR ((PS.and_le _ _).1.fz _ (PS.fzn_le s b).2) hF).trans hx⟩)))⟩;show AV.gsl b g n _= .gsl b g l.length _;rw[←(PS.and_le _ _).2 hp];rfl
  ·cases h
 ·rename_i b g o len cap es;replace h:=lz h;obtain⟨x,hx,h⟩:=h;split at h
  ·rename_i c gen lo hi fl fh ro ty;replace h:=aR h;obtain⟨e0,h⟩:=h;replace h:=Pt h;obtain⟨e1,h⟩:=h;replace h:=aR h;obtain⟨e2,h⟩:=h;replace h:=aR h;obtain⟨e3,h⟩:=h;replace h:=aR h;obtain⟨e4,h⟩:=h;replace h:=aB h;obtain⟨as,hl,h⟩:=h;replace h:=aB h;obtain⟨ns,hq,h⟩:=h;have e4:=aae e4;subst e1;subst e4;obtain⟨f1,f2⟩:=ls _ _ hq;have hal:as.length=len:=by
    have:∀(n o:Nat) (l:List AV),KZ c g n o=some l->l.length=n:=by
     intro n
     induction n with
     |zero=>intro o l h;injection h with h;subst h;rfl
     |succ n ih=>
      intro o l h
      replace h:=lz h;obtain⟨x,_,h⟩:=h
      cases x with
      |mk tag v=>replace h:=aR h;obtain⟨_,h⟩:=h;rw[eG] at h;obtain⟨l',h1,h2⟩:=aB h;injection h2 with h2;subst h2;simp [ih _ _ h1]
    exact this _ _ _ hl
   have Yl:(Ct.bytes (aN ns)).len=len:=by show(aN ns).length=len;rw[bV,f1,hal]
   refine⟨_,_,h,(PS.fzn_le s b).1.trans (PS.and_le _ _).1,λhp sF hF=>.inr (.inr (.inr (.inl ⟨b,g,o,cap,c,gen,lo,hi,fl,fh,ty,as,by rw[Yl];rfl,aau e0,(mR ((PS.and_le _ _).1.fz _ (PS.fzn_le s b).2) hF).trans hx,aau e2,by rw[Yl];exact aau e3,aab _,by rw[Yl];show KZ c g (len * 1) o=_;rw[aaC];exact hl,λi hi ρ vs l6=>?_⟩)))⟩;rw[Yl] at hi;have Z6:i<as.length:=by omega
   have hd:(as.drop (i * 1)).take 1= [as[i]]:=by rw[aaC,aba Z6];rfl
   have l6:LR ρ ((as.drop (i * 1)).take 1) vs:=l6;rw[hd] at l6;refine l6.one λv hv=>?_;obtain⟨n',q1,q2⟩:=f2 i as[i] (aah Z6);obtain⟨q3,q4⟩:=gV _ _ _ ((PS.and_le _ _).2 hp) q1;rw[aI hv q2,aai,q3];show VR ρ (.sI .u8 ((n'.toNat:Nat):Int)) _;rw[show((n'.toNat:Nat):Int)=n' by omega];exact .sI _ _
  ·cases h
 ·cases h
def HH{l:List (Nat×Tm)}{t:Nat}{n:Int}(h:bm t l=some (.i n)):Uw l t=n:=by unfold Uw;rw[h]
def pG{l:List (Nat×Tm)}{t:Nat}{n:List Nat}(h:bm t l=some (.s n)):Ey l t=n:=by unfold Ey;rw[h]
def PE{l:List (Nat×Tm)}{t:Nat}{n:Prop}(h:bm t l=some (.p n)):Ux l t=n:=by unfold Ux;rw[h]
def kN{l:List (Nat×Tm)}{t:Nat}{n:List G}(h:bm t l=some (.g n)):Aj l t=n:=by unfold Aj;rw[h]
def xe{F:T ABlk}{blk:List BSh}{x:Sh}{a:AV}{s s':PS}(h:si F blk x a s=some s'):
 s.Le s'/\∀sF,s'.Le sF->sF.pr->pF blk sF->Tv (kU sF F) blk sF.L (aK sF.tm) x a:=by
 unfold si at h
 cases x with
 |i k t=>
  simp only at h
  split at h
  ·rename_i k' n hn;replace h:=aR h;obtain⟨e,h⟩:=h;have e:=of_decide_eq_true e;subst e;obtain⟨h1,h2⟩:=PS.add_ok h;refine⟨h1,λsF hF _ _=>?_⟩;show bD a=some (k,Uw sF.tm t);rw[HH (hF.tm _ _ h2),hn]
  ·cases h
 |b t=>
  simp only at h
  split at h
  ·rename_i q hn;obtain⟨h1,h2⟩:=PS.add_ok h;refine⟨h1,λsF hF _ _=>?_⟩;show cS a=some (Ux sF.tm t);rw[PE (hF.tm _ _ h2),hn]
  ·cases h
 |s t=>
  simp only at h
  split at h
  ·rename_i q hn;obtain⟨h1,h2⟩:=PS.add_ok h;refine⟨h1,λsF hF _ _=>?_⟩;show eY a=some (Ey sF.tm t);rw[pG (hF.tm _ _ h2),hn]
  ·cases h
 |o=>
  replace h:=aR h;obtain⟨e,h⟩:=h
  injection h with h
  subst h
  exact⟨.refl _,λsF _ _ _=>e⟩
 |v m t=>
  obtain⟨l,s1,hk,hle,hr⟩:=xd h
  obtain⟨h1,h2⟩:=PS.add_ok hk
  refine⟨hle.trans h1,λsF hF hp _=>?_⟩
  show RdC (kU sF F) (.rows m (Aj sF.tm t)) a
  rw[kN (hF.tm _ _ h2)]
  exact hr (h1.pr (hF.pr hp)) sF (h1.trans hF)
 |vb t=>
  obtain⟨l,s1,hk,hle,hr⟩:=sq h
  obtain⟨h1,h2⟩:=PS.add_ok hk
  refine⟨hle.trans h1,λsF hF hp _=>?_⟩
  show RdC (kU sF F) (.bytes (Ey sF.tm t)) a
  rw[pG (hF.tm _ _ h2)]
  exact hr (h1.pr (hF.pr hp)) sF (h1.trans hF)
 |pi k n=>
  simp only at h
  split at h
  ·rename_i k' n' hn;replace h:=aR h;obtain⟨e,h⟩:=h;have e:=of_decide_eq_true e;subst e;obtain⟨h1,h2⟩:=PS.must_ok h;refine⟨h1,λsF hF hp _=>?_⟩;show bD a=some (k,n);rw[hn,h2 (hF.pr hp)]
  ·cases h
 |pb q=>
  simp only at h
  split at h
  ·rename_i q' hn;obtain⟨h1,h2⟩:=PS.must_ok h;exact⟨h1,λsF hF hp _=>⟨q',hn,h2 (hF.pr hp)⟩⟩
  ·cases h
 |ps l=>
  simp only at h
  split at h
  ·rename_i l' hn;obtain⟨h1,h2⟩:=PS.must_ok h;refine⟨h1,λsF hF hp _=>?_⟩;show eY a=some l;rw[hn,h2 (hF.pr hp)]
  ·cases h
 |pv m l=>
  obtain⟨l',s1,hk,hle,hr⟩:=xd h
  obtain⟨h1,h2⟩:=PS.must_ok hk
  refine⟨hle.trans h1,λsF hF hp _=>?_⟩
  show RdC (kU sF F) (.rows m l) a
  rw[←h2 (hF.pr hp)]
  exact hr (h1.pr (hF.pr hp)) sF (h1.trans hF)
 |pvb l=>
  obtain⟨l',s1,hk,hle,hr⟩:=sq h
  obtain⟨h1,h2⟩:=PS.must_ok hk
  refine⟨hle.trans h1,λsF hF hp _=>?_⟩
  show RdC (kU sF F) (.bytes l) a
  rw[←h2 (hF.pr hp)]
  exact hr (h1.pr (hF.pr hp)) sF (h1.trans hF)
 |np=>
  simp only at h
  split at h
  ·injection h with h;subst h;exact⟨.refl _,λsF _ _ _=>rfl⟩
  ·cases h
 |li k n=>
  simp only at h
  split at h
  ·replace h:=aR h;obtain⟨e,h⟩:=h;replace h:=aR h;obtain⟨e2,h⟩:=h;have e:=of_decide_eq_true e;have e2:=of_decide_eq_true e2;injection h with h;subst h;subst e;subst e2;exact⟨.refl _,λsF _ _ _=>rfl⟩
  ·cases h
 |nz=>
  simp only at h
  split at h
  ·injection h with h;subst h;exact⟨.refl _,λsF _ _ _=>rfl⟩
  ·cases h
 |p j=>
  simp only at h
  split at h
  ·rename_i b g o;replace h:=aR h;obtain⟨e1,h⟩:=h;replace h:=aR h;obtain⟨e2,h⟩:=h;replace h:=aR h;obtain⟨e3,h⟩:=h;have e1:=aae e1;have e2:=aae e2;subst e1;subst e2;obtain⟨h1,h2⟩:=PS.at_ok h;exact⟨h1,λsF hF _ _=>⟨b,hF.loc _ _ h2,rfl,e3⟩⟩
  ·cases h
 |fn f j=>
  simp only at h
  split at h
  ·rename_i f' b g o;replace h:=aR h;obtain⟨e0,h⟩:=h;replace h:=aR h;obtain⟨e1,h⟩:=h;replace h:=aR h;obtain⟨e2,h⟩:=h;replace h:=aR h;obtain⟨e3,h⟩:=h;have e0:=aae e0;have e1:=aae e1;have e2:=aae e2;subst e0;subst e1;subst e2;obtain⟨h1,h2⟩:=PS.at_ok h;exact⟨h1,λsF hF _ _=>⟨b,hF.loc _ _ h2,rfl,e3⟩⟩
  ·cases h
 |m j=>
  simp only at h
  split at h
  ·rename_i b;replace h:=aR h;obtain⟨e3,h⟩:=h;obtain⟨h1,h2⟩:=PS.at_ok h;exact⟨h1,λsF hF _ _=>⟨b,hF.loc _ _ h2,rfl,e3⟩⟩
  ·cases h
 |g j es t=>
  simp only at h
  split at h
  ·rename_i b g n o4;replace h:=aR h;obtain⟨e1,h⟩:=h;have e1:=aae e1;subst e1;replace h:=aB h;obtain⟨s1,h1,h⟩:=h;obtain⟨h1,h2⟩:=PS.at_ok h1;obtain⟨h3,h4⟩:=PS.len_ok h;refine⟨h1.trans h3,λsF hF _ hl=>⟨b,g,hF.loc _ _ (h3.loc _ _ h2), ?_⟩⟩;rcases hl _ _ _ (hF.ln _ h4) with⟨m,ty,t',eb,e,e2⟩|⟨ty,t',eb,e,e2⟩
   ·have:t'=t:=by omega
    subst this;refine⟨?_,m,ty,eb⟩;show AV.gsl b g n es= .gsl b g (Aj sF.tm t').length es;rw[e2]
   ·omega
  ·cases h
 |gb j t=>
  simp only at h
  split at h
  ·rename_i b g n o4;replace h:=aR h;obtain⟨e1,h⟩:=h;have e1:=aae e1;subst e1;replace h:=aB h;obtain⟨s1,h1,h⟩:=h;obtain⟨h1,h2⟩:=PS.at_ok h1;obtain⟨h3,h4⟩:=PS.len_ok h;refine⟨h1.trans h3,λsF hF _ hl=>⟨b,g,hF.loc _ _ (h3.loc _ _ h2), ?_⟩⟩;rcases hl _ _ _ (hF.ln _ h4) with⟨m,ty,t',eb,e,e2⟩|⟨ty,t',eb,e,e2⟩
   ·omega
   ·have:t'=t:=by omega
    subst this;refine⟨?_,ty,eb⟩;show AV.gsl b g n 1= .gsl b g (Ey sF.tm t').length 1;rw[e2]
  ·cases h
def cb{α β:Type}(R:α->β->Prop):List α->List β->Prop
 | [],[]=>True
 |a::l,b::m=>R a b/\cb R l m
 |_,_=>False
def lO{F:T ABlk}{blk:List BSh}:∀{l:List Sh} {as:List AV} {s s':PS},lK F blk l as s=some s'->
 s.Le s'/\∀sF,s'.Le sF->sF.pr->pF blk sF->cb (Tv (kU sF F) blk sF.L (aK sF.tm)) l as:=by
 intro l
 induction l with
 |nil=>
  intro as s s' h
  cases as with
  |nil=>injection h with h;subst h;exact⟨.refl _,λ_ _ _ _=>trivial⟩
  |cons _ _=>cases h
 |cons x l ih=>
  intro as s s' h
  cases as with
  |nil=>cases h
  |cons a as=>
   obtain⟨s1,h1,h2⟩:=aB (show bi (si F blk x a s) (λs=>lK F blk l as s)=some s' from h)
   obtain⟨q1,q2⟩:=xe (blk:=blk) h1
   obtain⟨r1,r2⟩:=ih h2
   exact⟨q1.trans r1,λsF hF hp hl=>⟨q2 sF (r1.trans hF) hp hl,r2 sF hF hp hl⟩⟩
def TvA(F:Nat->Option ABlk)(blk:List BSh)(L:Nat->Option (Nat×Nat))(y:Sy)(x:Sa)(a:AV):Prop:=match x with
 | .c x=>Tv F blk L y x a
 | .ag l=>∃as,a= .agg as/\cb (Tv F blk L y) l as
 | .cp l=>∃as,a= .cptr as/\cb (Tv F blk L y) l as
def TvR(F:Nat->Option ABlk)(blk:List BSh)(L:Nat->Option (Nat×Nat))(y:Sy)(x:Sr)(a:AV):Prop:=match x with
 | .one x=>TvA F blk L y x a
 | .tu l=>∃as,a= .tup as/\cb (TvA F blk L y) l as
def xf{F:T ABlk}{blk:List BSh}{x:Sa}{a:AV}{s s':PS}(h:pD F blk x a s=some s'):
 s.Le s'/\∀sF,s'.Le sF->sF.pr->pF blk sF->TvA (kU sF F) blk sF.L (aK sF.tm) x a:=by
 cases x with
 |c x=>exact xe h
 |ag l=>
  unfold pD at h
  simp only at h
  split at h
  ·obtain⟨h1,h2⟩:=lO (blk:=blk) h;exact⟨h1,λsF hF hp hl=>⟨_,rfl,h2 sF hF hp hl⟩⟩
  ·cases h
 |cp l=>
  unfold pD at h
  simp only at h
  split at h
  ·obtain⟨h1,h2⟩:=lO (blk:=blk) h;exact⟨h1,λsF hF hp hl=>⟨_,rfl,h2 sF hF hp hl⟩⟩
  ·cases h
def eU{F:T ABlk}{blk:List BSh}:∀{l:List Sa} {as:List AV} {s s':PS},gc F blk l as s=some s'->
 s.Le s'/\∀sF,s'.Le sF->sF.pr->pF blk sF->cb (TvA (kU sF F) blk sF.L (aK sF.tm)) l as:=by
 intro l
 induction l with
 |nil=>
  intro as s s' h
  cases as with
  |nil=>injection h with h;subst h;exact⟨.refl _,λ_ _ _ _=>trivial⟩
  |cons _ _=>cases h
 |cons x l ih=>
  intro as s s' h
  cases as with
  |nil=>cases h
  |cons a as=>
   obtain⟨s1,h1,h2⟩:=aB (show bi (pD F blk x a s) (λs=>gc F blk l as s)=some s' from h)
   obtain⟨q1,q2⟩:=xf (blk:=blk) h1
   obtain⟨r1,r2⟩:=ih h2
   exact⟨q1.trans r1,λsF hF hp hl=>⟨q2 sF (r1.trans hF) hp hl,r2 sF hF hp hl⟩⟩
def HI{F:T ABlk}{blk:List BSh}{x:Sr}{a:AV}{s s':PS}(h:HF F blk x a s=some s'):
 s.Le s'/\∀sF,s'.Le sF->sF.pr->pF blk sF->TvR (kU sF F) blk sF.L (aK sF.tm) x a:=by
 cases x with
 |one x=>exact xf h
 |tu l=>
  unfold HF at h
  simp only at h
  split at h
  ·obtain⟨h1,h2⟩:=eU (blk:=blk) h;exact⟨h1,λsF hF hp hl=>⟨_,rfl,h2 sF hF hp hl⟩⟩
  ·cases h
def pH{ty n g:Nat}{q:ABlk}{as:List AV}(h:lL ty n q g=some as):g=0/\∃c,q= .cells c 0 0 n 0 0 false ty/\KZ c 0 n 0=some as:=by
 unfold lL at h;split at h
 ·replace h:=Pt h;obtain⟨e0,h⟩:=h;replace h:=aR h;obtain⟨e1,h⟩:=h;replace h:=aR h;obtain⟨e2,h⟩:=h;replace h:=aR h;obtain⟨e3,h⟩:=h;replace h:=aR h;obtain⟨e4,h⟩:=h;replace h:=aR h;obtain⟨e5,h⟩:=h;replace h:=aR h;obtain⟨e6,h⟩:=h;replace h:=aR h;obtain⟨e7,h⟩:=h;have e1:=aae e1;have e2:=aae e2;have e3:=aae e3;have e4:=aae e4;have e5:=aae e5;have e6:=aae e6;have e7:=aae e7;subst e0 e1 e2 e3 e4 e5 e6 e7;exact⟨rfl,_,rfl,h⟩
 ·cases h
def BT(ρ:Rho)(F:Nat->Option ABlk)(blk:List BSh)(L:Nat->Option (Nat×Nat))(y:Sy)(x:BSh)(q:ABlk)(g:Nat):Prop:=match x with
 | .cells ty l=>g=0/\∃c as,q= .cells c 0 0 l.length 0 0 false ty/\as.length=l.length/\(∀(j:Nat) (a:AV),as[j]? =some a->∃a0,c.get j=some (.mk 0 a0)/\∀v,VR ρ a0 v->VR ρ a v)/\cb (Tv F blk L y) l as
 | .grow m ty t=>q= .grow (.rows m (y.g t)) g ty
 | .growb ty t=>q= .grow (.bytes (y.s t)) g ty
 | .arb ty t=>g=0/\q= .grow (.bytes (y.s t)) 0 ty/\0<(y.s t).length
 | .arr m ty t=>g=0/\q= .grow (.rows m (y.g t)) 0 ty/\0<(y.g t).length
 | .sm m t=>g=0/\(q= .smap m (y.g t)∨∃c,q= .mapo [] c/\y.g t= [])
 | .obj k C t=>g=0/\q= .obj k (C (y.g t)) (y.g t)
def dE{ρ:Rho}{F:T ABlk}{blk:List BSh}{x:BSh}{q:ABlk}{g:Nat}{s s':PS}(h:fo x q g s=some s'):
 s.Le s'/\∀sF,s'.Le sF->sF.pr->BT ρ (kU sF F) blk sF.L (aK sF.tm) x q g:=by
 unfold fo at h
 cases x with
 |cells ty l=>cases h
 |grow m ty t=>
  simp only at h
  split at h
  ·replace h:=aR h;obtain⟨e1,h⟩:=h;replace h:=aR h;obtain⟨e2,h⟩:=h;replace h:=aR h;obtain⟨e3,h⟩:=h;have e1:=aae e1;have e2:=aae e2;have e3:=aae e3;subst e1;subst e2;subst e3;obtain⟨h1,h2⟩:=PS.add_ok h;refine⟨h1,λsF hF _=>?_⟩;show ABlk.grow _ _ _=ABlk.grow (.rows m (Aj sF.tm t)) g ty;rw[kN (hF.tm _ _ h2)]
  ·cases h
 |growb ty t=>
  simp only at h
  split at h
  ·replace h:=aR h;obtain⟨e2,h⟩:=h;replace h:=aR h;obtain⟨e3,h⟩:=h;have e2:=aae e2;have e3:=aae e3;subst e2;subst e3;obtain⟨h1,h2⟩:=PS.add_ok h;refine⟨h1,λsF hF _=>?_⟩;show ABlk.grow _ _ _=ABlk.grow (.bytes (Ey sF.tm t)) g ty;rw[pG (hF.tm _ _ h2)]
  ·cases h
 |sm m t=>
  simp only at h
  split at h
  ·replace h:=aR h;obtain⟨e2,h⟩:=h;replace h:=aR h;obtain⟨e3,h⟩:=h;have e2:=aae e2;have e3:=aae e3;subst e2;subst e3;obtain⟨h1,h2⟩:=PS.add_ok h;exact⟨h1,λsF hF _=>⟨rfl,.inl (by show ABlk.smap _ _=ABlk.smap _ (Aj sF.tm t);rw[kN (hF.tm _ _ h2)])⟩⟩
  ·replace h:=aR h;obtain⟨e3,h⟩:=h;have e3:=aae e3;subst e3;obtain⟨h1,h2⟩:=PS.add_ok h;exact⟨h1,λsF hF _=>⟨rfl,.inr ⟨_,rfl,kN (hF.tm _ _ h2)⟩⟩⟩
  ·cases h
 |arb ty t=>
  simp only at h
  split at h
  ·replace h:=aR h;obtain⟨e2,h⟩:=h;replace h:=aR h;obtain⟨e3,h⟩:=h;replace h:=aR h;obtain⟨e4,h⟩:=h;have e2:=aae e2;have e3:=aae e3;have e4:=aae e4;subst e2;subst e3;subst e4;obtain⟨s1,hm,h⟩:=aB h;obtain⟨m1,m2⟩:=PS.must_ok hm;obtain⟨h1,h2⟩:=PS.add_ok h;refine⟨m1.trans h1,λsF hF hp=>⟨rfl, ?_, ?_⟩⟩
   ·show ABlk.grow _ _ _=ABlk.grow (.bytes (Ey sF.tm t)) 0 ty;rw[pG (hF.tm _ _ h2)]
   ·show 0<(Ey sF.tm t).length;rw[pG (hF.tm _ _ h2)];exact m2 (h1.pr (hF.pr hp))
  ·cases h
 |arr m ty t=>
  simp only at h
  split at h
  ·replace h:=aR h;obtain⟨e1,h⟩:=h;replace h:=aR h;obtain⟨e2,h⟩:=h;replace h:=aR h;obtain⟨e3,h⟩:=h;replace h:=aR h;obtain⟨e4,h⟩:=h;have e1:=aae e1;have e2:=aae e2;have e3:=aae e3;have e4:=aae e4;subst e1;subst e2;subst e3;subst e4;obtain⟨s1,hm,h⟩:=aB h;obtain⟨m1,m2⟩:=PS.must_ok hm;obtain⟨h1,h2⟩:=PS.add_ok h;refine⟨m1.trans h1,λsF hF hp=>⟨rfl, ?_, ?_⟩⟩
   ·show ABlk.grow _ _ _=ABlk.grow (.rows m (Aj sF.tm t)) 0 ty;rw[kN (hF.tm _ _ h2)]
   ·show 0<(Aj sF.tm t).length;rw[kN (hF.tm _ _ h2)];exact m2 (h1.pr (hF.pr hp))
  ·cases h
 |obj k C t=>
  simp only at h
  split at h
  ·replace h:=aR h;obtain⟨e2,h⟩:=h;replace h:=aR h;obtain⟨e3,h⟩:=h;have e2:=aae e2;have e3:=aae e3;subst e2;subst e3;obtain⟨s1,hm,h⟩:=aB h;obtain⟨m1,m2⟩:=PS.must_ok hm;obtain⟨h1,h2⟩:=PS.add_ok h;refine⟨m1.trans h1,λsF hF hp=>⟨rfl, ?_⟩⟩;show ABlk.obj _ _ _=ABlk.obj k (C (Aj sF.tm t)) (Aj sF.tm t);rw[kN (hF.tm _ _ h2),m2 (h1.pr (hF.pr hp))]
  ·cases h
def EB{ρ:Rho}{F:T ABlk}{blk:List BSh}{x:BSh}{q:ABlk}{g:Nat}{s s':PS}(h:mP F blk x q g s=some s'):
 s.Le s'/\∀sF,s'.Le sF->sF.pr->pF blk sF->BT ρ (kU sF F) blk sF.L (aK sF.tm) x q g:=by
 cases x with
 |cells ty l=>
  obtain⟨as,h1,h2⟩:=aB (show bi (lL ty (List.length l) q g) (λas=>lK F blk l as s)=some s' from h)
  obtain⟨e,c,eq,hl⟩:=pH h1
  obtain⟨q1,q2⟩:=lO (blk:=blk) h2
  obtain⟨r1,r2⟩:=pd hl
  refine⟨q1,λsF hF hp hl=>⟨e,c,as,eq,r1,λj a ha=>?_,q2 sF hF hp hl⟩⟩
  obtain⟨tag,t1,t2⟩:=r2 j a ha
  have:tag=0:=by omega
  subst this
  exact⟨a,by rw[←t1];congr 1;omega,λ_ h=>h⟩
 |grow m ty t=>obtain⟨h1,h2⟩:=dE (ρ:=ρ) (F:=F) (blk:=blk) (show fo (.grow m ty t) q g s=some s' from h);exact⟨h1,λsF hF hp _=>h2 sF hF hp⟩
 |growb ty t=>obtain⟨h1,h2⟩:=dE (ρ:=ρ) (F:=F) (blk:=blk) (show fo (.growb ty t) q g s=some s' from h);exact⟨h1,λsF hF hp _=>h2 sF hF hp⟩
 |arb ty t=>obtain⟨h1,h2⟩:=dE (ρ:=ρ) (F:=F) (blk:=blk) (show fo (.arb ty t) q g s=some s' from h);exact⟨h1,λsF hF hp _=>h2 sF hF hp⟩
 |arr m ty t=>obtain⟨h1,h2⟩:=dE (ρ:=ρ) (F:=F) (blk:=blk) (show fo (.arr m ty t) q g s=some s' from h);exact⟨h1,λsF hF hp _=>h2 sF hF hp⟩
 |sm m t=>obtain⟨h1,h2⟩:=dE (ρ:=ρ) (F:=F) (blk:=blk) (show fo (.sm m t) q g s=some s' from h);exact⟨h1,λsF hF hp _=>h2 sF hF hp⟩
 |obj k C t=>obtain⟨h1,h2⟩:=dE (ρ:=ρ) (F:=F) (blk:=blk) (show fo (.obj k C t) q g s=some s' from h);exact⟨h1,λsF hF hp _=>h2 sF hF hp⟩
def dT{blk:List BSh}:∀{l:List (Nat×Nat×Nat)} {s s':PS},kn blk l s=some s'->
 s.Le s'/\s'.tm=s.tm/\s'.loc=s.loc/\s'.ln=s.ln/\(s'.pr->∀j tag n,(j,tag,n)∈l->(∃m ty t,blk[j]? =some (.grow m ty t)/\tag=2 * t/\(Aj s.tm t).length=n)∨(∃ty t,blk[j]? =some (.growb ty t)/\tag=2 * t+1/\(Ey s.tm t).length=n)):=by
 intro l
 induction l with
 |nil=>intro s s' h;injection h with h;subst h;exact⟨.refl _,rfl,rfl,rfl,λ_ j tag n h=>by cases h⟩
 |cons x l ih=>
  intro s s' h
  obtain⟨j,tag,n⟩:=x
  have h:(match blk[j]? with
   |some (.grow _ _ t)=>aa (Nat.beq tag (2 * t)) (bi (s.must ((Aj s.tm t).length=n)) (kn blk l)) none
   |some (.growb _ t)=>aa (Nat.beq tag (2 * t+1)) (bi (s.must ((Ey s.tm t).length=n)) (kn blk l)) none
   |_=>none)=some s':=h
  split at h
  ·rename_i m ty t hb;replace h:=aR h;obtain⟨e,h⟩:=h;have e:=aae e;replace h:=aB h;obtain⟨s1,h1,h⟩:=h;obtain⟨q1,q2,q3,q4,q5⟩:=ih h;have hm:=PS.must_ok h1;injection h1 with h1;subst h1;refine⟨hm.1.trans q1,q2,q3,q4,λhp j' Xr n' C'=>?_⟩;rcases List.mem_cons.1 C' with e'|C'
   ·injection e' with e1 e2;injection e2 with e2 e3;subst e1;subst e2;subst e3;exact .inl ⟨m,ty,t,hb,e,hm.2 (q1.pr hp)⟩
   ·exact q5 hp _ _ _ C'
  ·rename_i ty t hb;replace h:=aR h;obtain⟨e,h⟩:=h;have e:=aae e;replace h:=aB h;obtain⟨s1,h1,h⟩:=h;obtain⟨q1,q2,q3,q4,q5⟩:=ih h;have hm:=PS.must_ok h1;injection h1 with h1;subst h1;refine⟨hm.1.trans q1,q2,q3,q4,λhp j' Xr n' C'=>?_⟩;rcases List.mem_cons.1 C' with e'|C'
   ·injection e' with e1 e2;injection e2 with e2 e3;subst e1;subst e2;subst e3;exact .inr ⟨ty,t,hb,e,hm.2 (q1.pr hp)⟩
   ·exact q5 hp _ _ _ C'
  ·cases h
def jB{blk:List BSh}{s s':PS}(h:kn blk s.ln s=some s')(hp:s'.pr):pF blk s':=by obtain⟨_,q2,_,q4,q5⟩:=dT h;intro j tag n hm;rw[q4] at hm;rw[q2];exact q5 hp j tag n hm
end Go.Sym
namespace Go.Sym
open Go.RowKit (Below)
def hl:AV->Bool
 | .bool _=>true | .int _ _=>true | .str _=>true | .nilp=>true | .nils=>true | .sI _ _=>true | .sB _=>true | .sS _=>true | .any1=>true | .cv _=>true
 |_=>false
def mS:∀(g:G) (n i:Nat),∀a∈kr g n i,hl a=true:=by
 intro g n
 induction n with
 |zero=>intro i a h;cases h
 |succ n ih=>
  intro i a h;rcases List.mem_cons.1 h with e|h
  ·subst e;rfl
  ·exact ih _ a h
def cF{ρ ρ':Rho}{a:AV}{v:Value}(hf:∀b x,ρ.frz b=some x->ρ'.frz b=some x)(h:VR ρ a v):hl a=true->VR ρ' a v:=by
 induction h with
 |bool b=>intro _;exact .bool b
 |int k n=>intro _;exact .int k n
 |str s=>intro _;exact .str s
 |nilp=>intro _;exact .nilp
 |nils=>intro _;exact .nils
 |sI k n=>intro _;exact .sI k n
 |sB p b h=>intro _;exact .sB p b h
 |sS s=>intro _;exact .sS s
 |any1 v h=>intro _;exact .any1 v h
 |cv c blk off cp arr ty WD hc hb r ih=>
  intro _
  refine .cv c blk off cp arr ty (hf _ _ WD) hc hb λi j a v hi ha hv=>ih i j a v hi ha hv ?_
  cases c with
  |bytes s=>
   cases j with
   |zero=>simp [Ct.row] at ha;subst ha;rfl
   |succ j=>simp [Ct.row] at ha
  |rows m l=>
   have key:∀(xs:List Sc) (g:G) (q:Nat),∀a∈aV xs g q,hl a=true:=by
    intro xs
    induction xs with
    |nil=>intro g q a h;cases h
    |cons x xs ihx=>
     intro g q a h;rcases List.mem_append.1 h with h|h
     ·cases x <;> simp [eJ] at h;case h n=>exact mS _ _ _ a h
      all_goals (subst h;rfl)
     ·exact ihx _ _ a h
   exact key _ _ _ a (Zv ha)
 |cvnil c h=>intro _;exact .cvnil c h
 |cvempty c a h=>intro _;exact .cvempty c a h
 |_=>intro h;cases h
def kO{c:Ct}{i j:Nat}{a:AV}(ha:(c.row i)[j]? =some a):hl a=true:=by
 cases c with
 |bytes s=>
  cases j with
  |zero=>simp [Ct.row] at ha;subst ha;rfl
  |succ j=>simp [Ct.row] at ha
 |rows m l=>
  have key:∀(xs:List Sc) (g:G) (q:Nat),∀a∈aV xs g q,hl a=true:=by
   intro xs
   induction xs with
   |nil=>intro g q a h;cases h
   |cons x xs ihx=>
    intro g q a h;rcases List.mem_append.1 h with h|h
    ·cases x <;> simp [eJ] at h;case h n=>exact mS _ _ _ a h
     all_goals (subst h;rfl)
    ·exact ihx _ _ a h
  exact key _ _ _ a (Zv ha)
def VR.into{ρ ρ':Rho}(h1:∀b g h,ρ.at_ b g=some h->ρ'.at_ b g=some h)(h2:ρ'.val=ρ.val)(h3:∀b x,ρ.frz b=some x->ρ'.frz b=some x){a:AV}{v:Value}(h:VR ρ a v):VR ρ' a v:=by
 have sl:∀{b g o len:Nat} {cap:Option Nat} {es:Nat} {a:Addr} {c:Nat},SlOk ρ b g o len cap es a c->SlOk ρ' b g o len cap es a c:=by
  intro b g o len cap es a c h
  refine⟨h.1, ?_⟩
  have h2:=h.2
  cases cap with
  |some k=>obtain⟨e,x,hx,r⟩:=h2;exact⟨e,x,h1 _ _ _ hx,r⟩
  |none=>
   rcases h2 with h2|⟨x,hx,r⟩
   ·exact .inl h2
   ·exact .inr ⟨x,h1 _ _ _ hx,r⟩
 induction h with
 |bool b=>exact .bool b
 |int k n=>exact .int k n
 |str s=>exact .str s
 |nilp=>exact .nilp
 |ptr b g o h hh ho=>exact .ptr b g o h (h1 _ _ _ hh) ho
 |nils=>exact .nils
 |slc b g o len cap es a c h=>exact .slc b g o len cap es a c (sl h)
 |nilm=>exact .nilm
 |map b h hh=>exact .map b h (h1 _ _ _ hh)
 |func fn l m first captured e1 e2 r1 r2 hf i1 i2=>exact .func fn l m first captured e1 e2 i1 i2 hf
 |yld b h hh=>exact .yld b h (h1 _ _ _ hh)
 |nilf=>exact .nilf
 |iface t x v h ih=>exact .iface t x v ih
 |nili=>exact .nili
 |agg l cs h r ih=>exact .agg l cs h ih
 |tup l cs h r ih=>exact .tup l cs h ih
 |opq n=>rw[←h2];exact .opq n
 |opc n h=>rw[←h2];exact .opc n (by rw[h2];exact h)
 |anyB b=>exact .anyB b
 |anyI k n=>exact .anyI k n
 |osl n base len cap h=>exact .osl n base len cap (by rw[h2];exact h)
 |sI k n=>exact .sI k n
 |sB p b h=>exact .sB p b h
 |sS s=>exact .sS s
 |any1 v h=>exact .any1 v h
 |cptr l blk off arr ty hf hb r ih=>exact .cptr l blk off arr ty (h3 _ _ hf) hb ih
 |cv c blk off cp arr ty hf hc hb r ih=>exact .cv c blk off cp arr ty (h3 _ _ hf) hc hb ih
 |cvnil c h=>exact .cvnil c h
 |cvempty c a h=>exact .cvempty c a h
 |gsl b g n es h c hn hh hs hc hz=>exact .gsl b g n es h c hn (h1 _ _ _ hh) hs hc hz
 |gnil b g es=>exact .gnil b g es
 |gempty b g es a=>exact .gempty b g es a
 |gptr b g i o es h hh hs=>exact .gptr b g i o es h (h1 _ _ _ hh) hs
 |aptr b g o n i h hh ho h0 h9=>exact .aptr b g o n i h (h1 _ _ _ hh) ho h0 h9
def HJ(γ:jO)(y:Sy):∀(l:List Sh) (i:Nat),(jP γ y l)[i]? =(l[i]?).map (put γ y):=by
 intro l
 induction l with
 |nil=>intro i;rfl
 |cons x l ih=>intro i;cases i with
  |zero=>rfl
  |succ i=>exact ih i
def HK(γ:jO)(y:Sy):∀(l:List Sh),(jP γ y l).length=l.length:=by
 intro l
 induction l with
 |nil=>rfl
 |cons x l ih=>show(put γ y x::jP γ y l).length=_;simp [ih]
def su:∀(l:List AV) (i:Nat) (t:T Cell) (o:Nat) (x:Cell),(HE l i t).get o=some x->
 (∃(j:Nat) (a:AV),o=i+j/\l[j]? =some a/\x= .mk 0 a)∨(t.get o=some x/\(o<i∨i+l.length<=o)):=by
 intro l
 induction l with
 |nil=>intro i t o x h;exact .inr ⟨h,by simp;omega⟩
 |cons a l ih=>
  intro i t o x h
  rcases ih (i+1) (t.set i (.mk 0 a)) o x h with⟨j,b,e,hb,hx⟩|⟨hx,ho⟩
  ·exact .inl ⟨j+1,b,by omega,by simpa using hb,hx⟩
  ·by_cases e:o=i
   ·subst e;have:=T.get_set_some _ _ hx;exact .inl ⟨0,a,by omega,rfl,this⟩
   ·rw[T.get_set_ne _ e] at hx;exact .inr ⟨hx,by simp at ho⊢;omega⟩
def pJ{γ:jO}{y:Sy}:∀(l:List BSh) (j:Nat) (H:T ABlk) (b:Nat) (X:ABlk),(fm γ y l j H).get b=some X->
 (∃i x,l[i]? =some x/\b=(γ (j+i)).1/\X=kM γ y (j+i) x)∨(H.get b=some X/\∀i,i<l.length->b≠(γ (j+i)).1):=by
 intro l
 induction l with
 |nil=>intro j H b X h;exact .inr ⟨h,λi hi=>by simp at hi⟩
 |cons x l ih=>
  intro j H b X h
  rcases ih (j+1) _ b X h with⟨i,x',h1,h2,h3⟩|⟨h1,h2⟩
  ·exact .inl ⟨i+1,x',by simpa using h1,by rw[h2];congr 2;omega,by rw[h3];congr 1;omega⟩
  ·by_cases e:b=(γ j).1
   ·subst e;have:=T.get_set_some _ _ h1;exact .inl ⟨0,x,rfl,rfl,this⟩
   ·rw[T.get_set_ne _ e] at h1
    refine .inr ⟨h1,λi hi=>?_⟩
    cases i with
    |zero=>exact e
    |succ i=>have:=h2 i (by simpa using hi);rwa [show j+1+i=j+(i+1) by omega] at this
def pK{γ:jO}{y:Sy}:∀(l:List BSh) (j:Nat) (H:T ABlk) (i:Nat) (x:BSh),l[i]? =some x->(∀i,i<l.length->(γ (j+i)).1+1<2 ^ 64)->
 (∀a b,a<l.length->b<l.length->(γ (j+a)).1=(γ (j+b)).1->a=b)->(fm γ y l j H).get (γ (j+i)).1=some (kM γ y (j+i) x):=by
 intro l
 induction l with
 |nil=>intro j H i x h;simp at h
 |cons z l ih=>
  intro j H i x h d4 af6
  cases i with
  |zero=>
   simp at h;subst h
   have keep:∀(l:List BSh) (j':Nat) (H:T ABlk),(∀i,i<l.length->(γ (j'+i)).1≠(γ j).1)->(fm γ y l j' H).get (γ j).1=H.get (γ j).1:=by
    intro l
    induction l with
    |nil=>intro j' H _;rfl
    |cons q l ihl=>intro j' H j0;show(fm γ y l (j'+1) (H.set (γ j').1 (kM γ y j' q))).get (γ j).1=_;rw[ihl (j'+1) _ (λi hi=>by have:=j0 (i+1) (by simpa using hi);rwa [show j'+(i+1)=j'+1+i by omega] at this),T.get_set_ne _ (Ne.symm (show(γ j').1≠(γ j).1 from j0 0 (by simp)))]
   show(fm γ y l (j+1) (H.set (γ j).1 (kM γ y j z))).get (γ j).1=_
   rw[keep l (j+1) _ (λi hi e=>by have:=af6 (i+1) 0 (by simpa using hi) (by simp) (by rw[show j+(i+1)=j+1+i by omega];exact e);omega),T.get_set_same _ _ _ (show(γ j).1+1<2 ^ 64 from d4 0 (by simp))]
   rfl
  |succ i=>
   have:=ih (j+1) (H.set (γ j).1 (kM γ y j z)) i x (by simpa using h) (λi hi=>by have:=d4 (i+1) (by simpa using hi);rwa [show j+(i+1)=j+1+i by omega] at this) (λa b ha hb e=>by have:=af6 (a+1) (b+1) (by simpa using ha) (by simpa using hb) (by rw[show j+(a+1)=j+1+a by omega,show j+(b+1)=j+1+b by omega];exact e);omega)
   rw[show j+(i+1)=j+1+i by omega]
   exact this
section
variable(B:Nat)(ρ:Rho)(H:T ABlk)(w wf:World)(L:Nat->Option (Nat×Nat))(γ:jO)(n:Nat)(own:Nat->Prop)(frz0:Nat->Option (Array Value×TypeId))
def ba(j:Nat):Option Home:=match L j with
 |some (b,g)=>(match H.get b with
  |some (.grow c _ _)=>if c.len=0 then none else ρ.at_ b g
  |_=>ρ.at_ b g)
 |none=>none
def vD(j:Nat):Prop:=∃b g k I l,L j=some (b,g)/\H.get b=some (.obj k I l)
def pL(j:Nat)(h:Home):Prop:=ba ρ H L j=some h∨∃b g,L j=some (b,g)/\vD H L j/\(∃g',ρ.at_ b g'=some h)/\Own ρ B h.blk
open Classical in
noncomputable def pM(j g':Nat):Option Home:=if vD H L j then(match L j with
 |some (b,_)=>(match ρ.at_ b g' with|some h=>if Own ρ B h.blk then some h else none|none=>none)
 |none=>none) else if g'=(γ j).2 then ba ρ H L j else none
open Classical in
noncomputable def xg(b' g':Nat):Option Home:=if h:∃j,j<n/\(γ j).1=b' then pM B ρ H L γ (Classical.choose h) g' else none
open Classical in
noncomputable def je(blk:Nat):Option (Array Value×TypeId):=match ρ.frz blk with
 |some x=>some x
 |none=>if wf.heap.size<=blk/\∀j h,pL B ρ H L j h->h.blk≠blk then(match w.heap[blk]? with|some (.cells arr ty _)=>some (arr,ty)|_=>none) else none
noncomputable def jQ(vl:Nat->Value):Rho:=⟨xg B ρ H L γ n,vl,own,je B ρ H w wf L,frz0⟩
end
structure MvHyp(w0:World)(ρ:Rho)(H:T ABlk)(F:Nat->Option ABlk)(w wf wb:World)(L:Nat->Option (Nat×Nat))(γ:jO)(blk:List BSh)(y:Sy)(own:Nat->Prop)(frz0:Nat->Option (Array Value×TypeId)):Prop where
 good:Good w0 ρ H w
 hb:∀j x,blk[j]? =some x->∃b g,L j=some (b,g)/\∃q,H.get b=some q/\BT ρ F blk L y x q g
 dom:∀j p,L j=some p->j<blk.length
 linj:∀j j' b g g',L j=some (b,g)->L j'=some (b,g')->j=j'
 ginj:∀a b,a<blk.length->b<blk.length->(γ a).1=(γ b).1->a=b
 g64:∀j,j<blk.length->(γ j).1+1<2 ^ 64
 g0:∀j x,blk[j]? =some x->gB x=true->(γ j).2=0
 kept:Kept own wb.heap.size wb w
 owns:∀j h,pL w0.heap.size ρ H L j h->Own ρ w0.heap.size h.blk->wb.heap.size<=h.blk∨own h.blk
 frF:∀b x,base+64<=b->F b=some x->H.get b=some x/\(∀j g,L j≠some (b,g))/\∀g h,ρ.at_ b g=some h->Own ρ w0.heap.size h.blk->wf.heap.size<=h.blk
 frz:∀b x,je w0.heap.size ρ H w wf L b=some x->b<wb.heap.size->frz0 b=some x
section
variable{w0:World}{ρ:Rho}{H:T ABlk}{F:Nat->Option ABlk}{w wf wb:World}{L:Nat->Option (Nat×Nat)}{γ:jO}{blk:List BSh}{y:Sy}{own:Nat->Prop}{frz0:Nat->Option (Array Value×TypeId)}
def jf{j:Nat}{h:Home}(hh:ba ρ H L j=some h):∃b g,L j=some (b,g)/\ρ.at_ b g=some h:=by
 unfold ba at hh;split at hh
 ·rename_i b g e;split at hh
  ·split at hh
   ·cases hh
   ·exact⟨b,g,e,hh⟩
  ·exact⟨b,g,e,hh⟩
 ·cases hh
def cA{B:Nat}{j:Nat}{h:Home}(hh:pL B ρ H L j h):∃b g g',L j=some (b,g)/\ρ.at_ b g'=some h:=by
 rcases hh with hh|⟨b,g,h1,_,⟨g',h2⟩,_⟩
 ·obtain⟨b,g,h1,h2⟩:=jf hh;exact⟨b,g,g,h1,h2⟩
 ·exact⟨b,g,g',h1,h2⟩
def dg{B:Nat}{j g':Nat}{h:Home}(hh:pM B ρ H L γ j g'=some h):pL B ρ H L j h/\((vD H L j/\∃b g,L j=some (b,g)/\ρ.at_ b g'=some h)∨(¬vD H L j/\g'=(γ j).2/\ba ρ H L j=some h)):=by
 unfold pM at hh;split at hh
 ·rename_i ho;split at hh
  ·rename_i b g e;split at hh
   ·rename_i h' e';split at hh
    ·rename_i d6;injection hh with hh;subst hh;exact⟨.inr ⟨b,g,e,ho,⟨g',e'⟩,d6⟩,.inl ⟨ho,b,g,e,e'⟩⟩
    ·cases hh
   ·cases hh
  ·cases hh
 ·rename_i ho;split at hh
  ·rename_i e;exact⟨.inl hh,.inr ⟨ho,e,hh⟩⟩
  ·cases hh
def Og(hm:MvHyp w0 ρ H F w wf wb L γ blk y own frz0){j g':Nat}(hj:j<blk.length):xg w0.heap.size ρ H L γ blk.length (γ j).1 g'=pM w0.heap.size ρ H L γ j g':=by
 unfold xg;have he:∃j',j'<blk.length/\(γ j').1=(γ j).1:=⟨j,hj,rfl⟩
 rw[dif_pos he];obtain⟨h1,h2⟩:=aby he;rw[hm.ginj _ _ h1 hj h2]
def dh(hm:MvHyp w0 ρ H F w wf wb L γ blk y own frz0){j:Nat}(hj:j<blk.length)(j6:¬vD H L j):xg w0.heap.size ρ H L γ blk.length (γ j).1 (γ j).2=ba ρ H L j:=by rw[Og hm hj];unfold pM;rw[if_neg j6,if_pos rfl]
def ic(hm:MvHyp w0 ρ H F w wf wb L γ blk y own frz0){j b g g':Nat}{h:Home}(hj:j<blk.length)(ho:vD H L j)(hL:L j=some (b,g))(hh:ρ.at_ b g'=some h)(d6:Own ρ w0.heap.size h.blk):xg w0.heap.size ρ H L γ blk.length (γ j).1 g'=some h:=by rw[Og hm hj];unfold pM;rw[if_pos ho];simp only [hL,hh,if_pos d6]
def di{B:Nat}{b g:Nat}{h:Home}(hh:xg B ρ H L γ blk.length b g=some h):∃j,j<blk.length/\(γ j).1=b/\pM B ρ H L γ j g=some h:=by
 unfold xg at hh;split at hh
 ·rename_i he;obtain⟨h1,h2⟩:=aby he;exact⟨_,h1,h2,hh⟩
 ·cases hh
def dj{B:Nat}{b:Nat}{x:Array Value×TypeId}(h:ρ.frz b=some x):je B ρ H w wf L b=some x:=by unfold je;rw[h]
def xh(hm:MvHyp w0 ρ H F w wf wb L γ blk y own frz0){b g:Nat}{h:Home}{x:ABlk}{arr:Array Value}{ty:TypeId}{fr:Nat×Nat}(hh:ρ.at_ b g=some h)(hx:H.get b=some x)(hn:¬tz x)(hL:∀j g,L j≠some (b,g))(hb:wf.heap.size<=h.blk)(hw:w.heap[h.blk]? =some (.cells arr ty fr)):je w0.heap.size ρ H w wf L h.blk=some (arr,ty):=by
 unfold je
 cases hf:ρ.frz h.blk with
 |some x=>exact absurd rfl (hm.good.frzE (show ρ.frz h.blk=some (x.1,x.2) from hf) hh hx hn)
 |none=>
  have:wf.heap.size<=h.blk/\∀j h',pL w0.heap.size ρ H L j h'->h'.blk≠h.blk:=⟨hb,λj h' hj e=>by obtain⟨b',g',g2,e1,e2⟩:=cA hj;have:=(hm.good.inj _ _ _ _ _ _ e2 hh e).1;subst this;exact hL _ _ e1⟩
  simp only [if_pos this,hw]
def xi{j:Nat}(h:ia blk j=true):(∃ty l,blk[j]? =some (.cells ty l))∨(∃k C t,blk[j]? =some (.obj k C t))∨(∃m ty t,blk[j]? =some (.arr m ty t))∨∃ty t,blk[j]? =some (.arb ty t):=by
 unfold ia at h;split at h
 ·exact .inl ⟨_,_,by assumption⟩
 ·exact .inr (.inl ⟨_,_,_,by assumption⟩)
 ·exact .inr (.inr (.inl ⟨_,_,_,by assumption⟩))
 ·exact .inr (.inr (.inr ⟨_,_,by assumption⟩))
 ·cases h
def An{j:Nat}(h:ul blk j=true):∃m t,blk[j]? =some (.sm m t):=by
 unfold ul at h;split at h
 ·exact⟨_,_,by assumption⟩
 ·cases h
def rr{j b g:Nat}{q:ABlk}(hL:L j=some (b,g))(hq:H.get b=some q)(hn:∀k I l,q≠ .obj k I l):¬vD H L j:=λ⟨b',g',k,I,l,e1,e2⟩=>by rw[hL] at e1;injection e1 with e1;injection e1 with e1 e1';subst e1;rw[hq] at e2;injection e2 with e2;exact hn _ _ _ e2
def RdC.vr{vl:Nat->Value}(hm:MvHyp w0 ρ H F w wf wb L γ blk y own frz0){ct:Ct}{a:AV}{v:Value}(h:RdC F ct a)(hv:VR ρ a v):VR (jQ w0.heap.size ρ H w wf L γ blk.length own frz0 vl) (.cv ct) v:=by
 have XG:∀b x,ρ.frz b=some x->(jQ w0.heap.size ρ H w wf L γ blk.length own frz0 vl).frz b=some x:=λb x h=>dj h;rcases h with⟨e,h0⟩|e|⟨b,g,es,ty,e,hb,hF⟩|⟨b,g,o,cap,c,gen,lo,hi,fl,fh,ty,as,e,hb,hF,hg,h1,h2,hl,hr⟩|⟨b,g,e,hb,hF⟩
 ·subst e;cases hv;exact .cvnil _ h0
 ·subst e;exact cF XG hv rfl
 ·subst e
  obtain⟨q1,q2,q3⟩:=hm.frF _ _ hb hF
  generalize Xk:ct.len=nn at hv
  cases hv with
  |gnil _ _ _=>exact .cvnil _ Xk
  |gempty _ _ _ a=>exact .cvempty _ a Xk
  |gsl _ _ _ _ h c hn hh hs hc hz=>
   subst Xk;rcases hm.good.blk _ _ q1 with h0|⟨h',r1,r2,r3,arr,fr,r4,r5,r6,r7,r8⟩
   ·omega
   rw[hh] at r1;injection r1 with r1;subst r1;refine .cv ct h.blk 0 c arr ty (xh hm hh q1 (λh=>h) q2 (q3 _ _ hh r3) r4) hc (by omega) λi j a v hi ha hv=>?_;obtain⟨u,u1,u2⟩:=r8 i hi j a ha;rw[aam,u1] at hv;injection hv with hv;subst hv;exact cF XG u2 (kO ha)
 ·subst e
  obtain⟨q1,q2,q3⟩:=hm.frF _ _ hb hF
  cases hv with
  |slc _ _ _ _ _ _ ad cp t8=>
   obtain⟨s9,r1,r2,_,arr,fr,r3,r4,r5,r6⟩:=(hm.good.blk _ _ q1).2 g hg;obtain⟨Wz,O'⟩:=t8;have Y_:∃h,ρ.at_ b g=some h/\h.shift<=o/\ad=⟨h.blk,o-h.shift,none⟩:=by
    cases cap with
    |some k=>obtain⟨_,h,x1,x2,x3⟩:=O';exact⟨h,x1,x2,x3⟩
    |none=>
     rcases O' with O'|⟨h,x1,x2,x3,_⟩
     ·omega
     ·exact⟨h,x1,x2,x3⟩
   obtain⟨h,x1,x2,x3⟩:=Y_;rw[x1] at r1;injection r1 with r1;subst r1;subst x3;obtain⟨l1,l2⟩:=pd hl;have g8:∀j,j<ct.len * ct.es->∃a u,as[j]? =some a/\arr[o-h.shift+j]? =some u/\VR ρ a u:=λj hj=>by have ha:as[j]? =some (as[j]'(by omega)):=aah (by omega);obtain⟨tag,t1,t2⟩:=l2 j _ ha;obtain⟨s1,u,s2,s3⟩:=r6 _ _ _ t1 (aaH t2 (aab _));exact⟨_,u,ha,by rw[show o-h.shift+j=o+j-h.shift by omega];exact s2,s3⟩
   have WU:o-h.shift+ct.len * ct.es<=arr.size:=by
    have i4:1<=ct.len * ct.es:=Nat.mul_pos h1 h2;obtain⟨a,u,_,hu,_⟩:=g8 (ct.len * ct.es-1) (by omega);rcases aaf (o-h.shift+(ct.len * ct.es-1)) arr.size with h'|h'
    ·omega
    ·rw[aaN h'] at hu;cases hu
   refine .cv ct h.blk (o-h.shift) cp arr ty (xh hm x1 q1 (λh=>h) q2 (q3 _ _ x1 (r2 rfl)) r3) Wz WU λi j a v hi ha hv=>?_;have hrl:=ct.row_len i;have hj:j<ct.es:=by
    rcases aaf j ct.es with h'|h'
    ·exact h'
    ·rw[aak (by omega)] at ha;cases ha
   have WI:i * ct.es+ct.es<=ct.len * ct.es:=by rw[←aaL];exact aay _ hi
   have Xe:∀q a0,((as.drop (i * ct.es)).take ct.es)[q]? =some a0->∃u,arr[o-h.shift+(i * ct.es+q)]? =some u/\VR ρ a0 u:=λq a0 hq=>by
    rw[aaV] at hq;split at hq
    ·rw[aax] at hq;obtain⟨a1,u,e1,e2,e3⟩:=g8 (i * ct.es+q) (by omega);rw[hq] at e1;injection e1 with e1;subst e1;exact⟨u,e2,e3⟩
    ·cases hq
   obtain⟨u,u1,u2⟩:=lu (A:=λq=>arr[o-h.shift+(i * ct.es+q)]?) Xe (λvs=>hr i hi ρ vs) j a ha;rw[abu] at hv;have u1:arr[o-h.shift+(i * ct.es+j)]? =some u:=u1;rw[u1] at hv;injection hv with hv;subst hv;exact cF XG u2 (kO ha)
 ·subst e;obtain⟨q1,q2,q3⟩:=hm.frF _ _ hb hF;exact cF XG (gW (hm.good.blk _ _ q1) hv) rfl
def Sz{vl:Nat->Value}(hm:MvHyp w0 ρ H F w wf wb L γ blk y own frz0){j b g n es:Nat}{v:Value}(hL:L j=some (b,g))(hq:∀q,H.get b=some q->∃c ty,q= .grow c g ty/\c.len=n)(hv:VR ρ (.gsl b g n es) v):
 VR (jQ w0.heap.size ρ H w wf L γ blk.length own frz0 vl) (.gsl (γ j).1 (γ j).2 n es) v:=by
 have hj:=hm.dom _ _ hL
 cases hv with
 |gnil _ _ _=>exact .gnil _ _ _
 |gempty _ _ _ a=>exact .gempty _ _ _ a
 |gsl _ _ _ _ h c hn hh hs hc hz=>
  refine .gsl _ _ _ _ h c hn ?_ hs hc hz
  show xg w0.heap.size ρ H L γ blk.length (γ j).1 (γ j).2=some h
  have j6:¬vD H L j:=λ⟨b',g',k,I,l,e1,e2⟩=>by rw[hL] at e1;injection e1 with e1;injection e1 with e1 e1';subst e1;obtain⟨c,ty,e,_⟩:=hq _ e2;cases e
  rw[dh hm hj j6]
  unfold ba
  rw[hL]
  simp only
  split
  ·rename_i c' g' Ww e;obtain⟨c2,XE,e2,e3⟩:=hq _ e;injection e2 with e2;subst e2;rw[if_neg (by omega)];exact hh
  ·exact hh
def SA{vl:Nat->Value}(hm:MvHyp w0 ρ H F w wf wb L γ blk y own frz0){j b:Nat}{v:Value}(hL:L j=some (b,0))(hc:ia blk j=true)(hv:VR ρ (.ptr b 0 0) v):VR (jQ w0.heap.size ρ H w wf L γ blk.length own frz0 vl) (.ptr (γ j).1 0 0) v:=by
 cases hv with
 |ptr _ _ _ h hh ho=>
  have hj:=hm.dom _ _ hL;refine .ptr _ _ _ h ?_ ho;show xg w0.heap.size ρ H L γ blk.length (γ j).1 0=_;rcases xi hc with⟨ty,l,hx⟩|⟨k,C,t,hx⟩|⟨m,ty,t,hx⟩|⟨ty,t,hx⟩
  ·obtain⟨b',g',q1,q,q2,q3⟩:=hm.hb j _ hx;rw[hL] at q1;injection q1 with q1;injection q1 with q1 X_;subst q1;subst X_;obtain⟨_,c,as,e,_⟩:=q3;have hJ:ba ρ H L j=some h:=by unfold ba;rw[hL];simp only [q2,e,hh]
   have:=dh hm hj (rr hL q2 (λk I l e'=>by rw[e] at e';cases e'));rw[hm.g0 j _ hx rfl] at this;rw[this];exact hJ
  ·obtain⟨b',g',q1,q,q2,q3⟩:=hm.hb j _ hx;rw[hL] at q1;injection q1 with q1;injection q1 with q1 X_;subst q1;subst X_;obtain⟨_,e⟩:=q3;subst e;obtain⟨_,h',fp,r1,r2,r3,_⟩:=hm.good.blk _ _ q2;rw[hh] at r1;injection r1 with r1;subst r1;exact ic hm hj ⟨_,_,_,_,_,hL,q2⟩ hL hh (r3 _ aaj).1
  ·obtain⟨b',g',q1,q,q2,q3⟩:=hm.hb j _ hx;rw[hL] at q1;injection q1 with q1;injection q1 with q1 X_;subst q1;subst X_;obtain⟨_,e,i4⟩:=q3;have j0:¬(Ct.rows m (y.g t)).len=0:=by show ¬(y.g t).length=0;omega
   have hJ:ba ρ H L j=some h:=by unfold ba;rw[hL];simp only [q2,e];rw[if_neg j0];exact hh
   have:=dh hm hj (rr hL q2 (λk I l e'=>by rw[e] at e';cases e'));rw[hm.g0 j _ hx rfl] at this;rw[this];exact hJ
  ·obtain⟨b',g',q1,q,q2,q3⟩:=hm.hb j _ hx;rw[hL] at q1;injection q1 with q1;injection q1 with q1 X_;subst q1;subst X_;obtain⟨_,e,i4⟩:=q3;have j0:¬(Ct.bytes (y.s t)).len=0:=by show ¬(y.s t).length=0;omega
   have hJ:ba ρ H L j=some h:=by unfold ba;rw[hL];simp only [q2,e];rw[if_neg j0];exact hh
   have:=dh hm hj (rr hL q2 (λk I l e'=>by rw[e] at e';cases e'));rw[hm.g0 j _ hx rfl] at this;rw[this];exact hJ
def Tv.vr{vl:Nat->Value}(hm:MvHyp w0 ρ H F w wf wb L γ blk y own frz0){x:Sh}{a:AV}{v:Value}(h:Tv F blk L y x a)(hv:VR ρ a v):VR (jQ w0.heap.size ρ H w wf L γ blk.length own frz0 vl) (put γ y x) v:=by
 cases x with
 |i k t=>have h:bD a=some (k,y.i t):=h;rw[aI hv h];exact .sI _ _
 |b t=>have h:cS a=some (y.p t):=h;obtain⟨b,e,hb⟩:=dB hv h;rw[e];exact .sB _ b hb
 |s t=>have h:eY a=some (y.s t):=h;obtain⟨s,e,hs⟩:=cM hv h;rw[e];show VR _ (.sS (y.s t)) _;rw[hs];exact .sS s
 |o=>exact .any1 v (gO hv h)
 |v m t=>exact RdC.vr hm h hv
 |vb t=>exact RdC.vr hm h hv
 |pi k n=>have h:bD a=some (k,n):=h;rw[aI hv h];exact .sI _ _
 |pb q=>obtain⟨q',h1,h2⟩:=h;obtain⟨b,e,hb⟩:=dB hv h1;rw[e];exact .sB _ b (hb.trans h2)
 |ps l=>have h:eY a=some l:=h;obtain⟨s,e,hs⟩:=cM hv h;rw[e];show VR _ (.sS l) _;rw[hs];exact .sS s
 |pv m l=>exact RdC.vr hm h hv
 |pvb l=>exact RdC.vr hm h hv
 |np=>have h:a= .nilp:=h;subst h;cases hv;exact .nilp
 |li k n=>have h:a= .int k n:=h;subst h;cases hv;exact .int _ _
 |nz=>have h:a= .nils:=h;subst h;cases hv;exact .nils
 |p j=>obtain⟨b,hL,e,hc⟩:=h;subst e;exact SA hm hL hc hv
 |fn f j=>
  obtain⟨b,hL,e,hc⟩:=h
  subst e
  cases hv with
  |func _ _ _ first captured h1 h2 r1 r2 hf=>
   refine .func _ _ _ _ _ h1 (by simpa using h2) (λi a u ha hu=>by simp at ha) (λi a u ha hu=>?_) rfl
   match i,ha with
   |0,ha=>injection ha with ha;subst ha;exact SA hm hL hc (r2 0 _ u rfl hu)
 |m j=>
  obtain⟨b,hL,e,hc⟩:=h
  subst e
  cases hv with
  |map _ h hh=>
   have hj:=hm.dom _ _ hL;refine .map _ h ?_;show xg w0.heap.size ρ H L γ blk.length (γ j).1 0=_;obtain⟨m,t,hx⟩:=An hc;obtain⟨b',g',q1,q,q2,q3⟩:=hm.hb j _ hx;rw[hL] at q1;injection q1 with q1;injection q1 with q1 X_;subst q1;subst X_;have hq:(∃m l,q= .smap m l)∨∃es c,q= .mapo es c:=by
    rcases q3.2 with e|⟨c,e,_⟩
    ·exact .inl ⟨_,_,e⟩
    ·exact .inr ⟨_,_,e⟩
   have hJ:ba ρ H L j=some h:=by unfold ba;rw[hL];rcases hq with⟨m,l,e⟩|⟨es,c,e⟩ <;> simp only [q2,e,hh]
   have:=dh hm hj (rr hL q2 (λk I l e'=>by rcases hq with⟨m,l,e⟩|⟨es,c,e⟩ <;> (rw[e] at e';cases e')));rw[hm.g0 j _ hx rfl] at this;rw[this];exact hJ
 |g j es t=>obtain⟨b,g,hL,e,m,ty,hx⟩:=h;subst e;show VR _ (.gsl (γ j).1 (γ j).2 (y.g t).length es) v;exact Sz hm hL (λq hq=>by obtain⟨b',g',q1,q',q2,q3⟩:=hm.hb j _ hx;rw[hL] at q1;injection q1 with q1;injection q1 with q1 X_;subst q1;subst X_;rw[hq] at q2;injection q2 with q2;subst q2;exact⟨_,_,q3,rfl⟩) hv
 |gb j t=>obtain⟨b,g,hL,e,ty,hx⟩:=h;subst e;show VR _ (.gsl (γ j).1 (γ j).2 (y.s t).length 1) v;exact Sz hm hL (λq hq=>by obtain⟨b',g',q1,q',q2,q3⟩:=hm.hb j _ hx;rw[hL] at q1;injection q1 with q1;injection q1 with q1 X_;subst q1;subst X_;rw[hq] at q2;injection q2 with q2;subst q2;exact⟨_,_,q3,rfl⟩) hv
def un{ρ ρ':Rho}{α:Type}{R:α->AV->Prop}{f:α->AV}{fs:List α->List AV}(XF:fs []= [])(Yj:∀x l,fs (x::l)=f x::fs l)(hR:∀x a v,R x a->VR ρ a v->VR ρ' (f x) v):
 ∀{l:List α} {as:List AV} {vs:List Value},cb R l as->LR ρ as vs->LR ρ' (fs l) vs
 | [],[],vs,_,h=>by rw[XF,h.nil_inv];exact LR.nil _
 |x::l,a::as,vs,⟨h1,h2⟩,h=>by obtain⟨v,o7,rfl,hv,h'⟩:=h.cons_inv;rw[Yj];exact LR.cons (hR x a v h1 hv) (un XF Yj hR h2 h')
 | [],_::_,_,h,_=>h.elim
 |_::_,[],_,h,_=>h.elim
def Tvs.lr{vl:Nat->Value}(hm:MvHyp w0 ρ H F w wf wb L γ blk y own frz0){l:List Sh}{as:List AV}{vs:List Value}(h:cb (Tv F blk L y) l as)(hv:LR ρ as vs):LR (jQ w0.heap.size ρ H w wf L γ blk.length own frz0 vl) (jP γ y l) vs:=
 un rfl (λ_ _=>rfl) (λ_ _ _ h hv=>Tv.vr hm h hv) h hv
def sv{ρ ρ':Rho}{as bs:List AV}{bl off:Nat}{arr:Array Value}{ty:TypeId}(hf:ρ.frz bl=some (arr,ty))(hf':ρ'.frz bl=some (arr,ty))(hb:off+as.length<=arr.size)(r:∀(j:Nat) (a:AV) (v:Value),as[j]? =some a->arr[off+j]? =some v->VR ρ a v)(h:∀vs,LR ρ as vs->LR ρ' bs vs):VR ρ' (.cptr bs) (.pointer (some ⟨bl,off,none⟩)):=by
 have hl:LR ρ as ((arr.toList.drop off).take as.length):=by
  refine⟨by rw[aar,aat,aaI (xs:=arr)];omega,λj a v ha hv=>r j a v ha ?_⟩;rw[aaV] at hv;split at hv
  ·rw[aax,aaP] at hv;exact hv
  ·cases hv
 obtain⟨e,hr⟩:=h _ hl
 rw[aar,aat,aaI (xs:=arr)] at e
 refine .cptr bs bl off arr ty hf' (by omega) λj a v ha hv=>hr j a v ha ?_
 have hj:j<bs.length:=by
  rcases aaf j bs.length with h'|h'
  ·exact h'
  ·rw[aak h'] at ha;cases ha
 rw[aav (by omega),aax,aaP];exact hv
def TvA.vr{vl:Nat->Value}(hm:MvHyp w0 ρ H F w wf wb L γ blk y own frz0){x:Sa}{a:AV}{v:Value}(h:TvA F blk L y x a)(hv:VR ρ a v):VR (jQ w0.heap.size ρ H w wf L γ blk.length own frz0 vl) (jb γ y x) v:=by
 cases x with
 |c x=>exact Tv.vr hm h hv
 |ag l=>
  obtain⟨as,e,ha⟩:=h
  subst e
  cases hv with
  |agg _ cs h1 h2=>obtain⟨q1,q2⟩:=(Tvs.lr hm ha (LR.of_arr h1 h2)).arr;exact .agg _ cs q1 q2
 |cp l=>
  obtain⟨as,e,ha⟩:=h
  subst e
  cases hv with
  |cptr _ bl off arr ty hf hb r=>exact sv hf (dj hf) hb r λvs hl=>Tvs.lr hm ha hl
def TvAs.lr{vl:Nat->Value}(hm:MvHyp w0 ρ H F w wf wb L γ blk y own frz0){l:List Sa}{as:List AV}{vs:List Value}(h:cb (TvA F blk L y) l as)(hv:LR ρ as vs):LR (jQ w0.heap.size ρ H w wf L γ blk.length own frz0 vl) (jd γ y l) vs:=
 un rfl (λ_ _=>rfl) (λ_ _ _ h hv=>TvA.vr hm h hv) h hv
def TvR.vr{vl:Nat->Value}(hm:MvHyp w0 ρ H F w wf wb L γ blk y own frz0){x:Sr}{a:AV}{v:Value}(h:TvR F blk L y x a)(hv:VR ρ a v):VR (jQ w0.heap.size ρ H w wf L γ blk.length own frz0 vl) (Ai γ y x) v:=by
 cases x with
 |one x=>exact TvA.vr hm h hv
 |tu l=>
  obtain⟨as,e,ha⟩:=h
  subst e
  cases hv with
  |tup _ cs h1 h2=>obtain⟨q1,q2⟩:=(TvAs.lr hm ha (LR.of_arr h1 h2)).arr;exact .tup _ cs q1 q2
def HL{j:Nat}{x:BSh}(hg:gB x=true->(γ j).2=0):F6 (γ j).2 (kM γ y j x):=by
 cases x with
 |cells ty l=>show(γ j).2<=0;rw[hg rfl];exact aab _
 |grow m ty t=>exact aab _
 |growb ty t=>exact aab _
 |sm m t=>trivial
 |arr m ty t=>show(γ j).2<=0;rw[hg rfl];exact aab _
 |arb ty t=>show(γ j).2<=0;rw[hg rfl];exact aab _
 |obj k C t=>trivial
def EC:∀(ks:List IntKind) (g:G) (j:Nat),∀a∈ku ks g j,hl a=true:=by
 intro ks
 induction ks with
 |nil=>intro g j a h;cases h
 |cons k ks ih=>
  intro g j a h;rcases List.mem_cons.1 h with h|h
  ·subst h;rfl
  ·exact ih _ _ _ h
def HM{ρ ρ':Rho}(hf:∀b x,ρ.frz b=some x->ρ'.frz b=some x){b:Bool}{l:List AV}(m7:∀a∈l,hl a=true){v:Value}(h:VR ρ (O9 b l) v):VR ρ' (O9 b l) v:=by
 cases b with
 |true=>
  cases h with
  |agg _ cs h1 h2=>exact .agg _ cs h1 λi a v ha hv=>cF hf (h2 i a v ha hv) (m7 a (Zv ha))
 |false=>
  cases l with
  |nil=>exact cF hf h rfl
  |cons a l=>exact cF hf h (m7 a aaj)
def ED:∀(xs:List Sc) (g:G) (q:Nat),∀a∈aV xs g q,hl a=true:=by
 intro xs
 induction xs with
 |nil=>intro g q a h;cases h
 |cons x xs ihx=>
  intro g q a h;rcases List.mem_append.1 h with h|h
  ·cases x <;> simp [eJ] at h;case h n=>exact mS _ _ _ a h
   all_goals (subst h;rfl)
  ·exact ihx _ _ a h
def MvHyp.to0{vl:Nat->Value}(hm:MvHyp w0 ρ H F w wf wb L γ blk y own frz0):Good0 wb (jQ w0.heap.size ρ H w wf L γ blk.length own frz0 vl) (fm γ y blk 0 .leaf) w:=by
 have XG:∀b x,ρ.frz b=some x->(jQ w0.heap.size ρ H w wf L γ blk.length own frz0 vl).frz b=some x:=λb x h=>dj h;have s8:∀j x,blk[j]? =some x->(fm γ y blk 0 .leaf).get (γ j).1=some (kM γ y j x):=λj x hx=>by have:=pK (γ:=γ) (y:=y) blk 0 .leaf j x hx (λi hi=>by rw[aam];exact hm.g64 i hi) (λa b ha hb e=>hm.ginj a b ha hb (by simpa using e));simpa using this
 refine⟨hm.kept,λb X hX=>?_,λb' g' h hh=>?_,λb1 g1 h1 b2 g2 h2 q1 q2 e=>?_,λb' g' h X hh hX=>?_,λb arr ty hf=>?_,λb x hf c8=>?_,λb k I l hX g h hh=>?_⟩
 ·rcases pJ blk 0 .leaf b X hX with⟨j,x,hx,e1,e2⟩|⟨h,_⟩
  case inr=>simp [T.get] at h
  rw[aam] at e1 e2
  subst e1;subst e2
  have hj:j<blk.length:=by
   rcases aaf j blk.length with h'|h'
   ·exact h'
   ·rw[aak h'] at hx;cases hx
  obtain⟨b,g,hL,q,hq,u6⟩:=hm.hb j x hx
  have Yc:∀h,ba ρ H L j=some h->Own ρ w0.heap.size h.blk->Own (jQ w0.heap.size ρ H w wf L γ blk.length own frz0 vl) wb.heap.size h.blk:=λh h1 h2=>hm.owns j h (.inl h1) h2
  cases x with
  |cells ty l=>
   obtain⟨eg,c,as,eq,hlen,g8,Xg⟩:=u6;subst eg;subst eq;have j5:=dh hm hj (rr hL hq (λ_ _ _ e=>by cases e));obtain⟨s9,r1,r2,_,arr,fr,r3,r4,r5,r6⟩:=(hm.good.blk _ _ hq).2 0 (aab _);have hJ:ba ρ H L j=some s9:=by unfold ba;rw[hL];simp only [hq,r1]
   have hz:=hm.g0 j _ hx rfl;refine⟨λo x ho=>?_,λg hg=>?_⟩
   ·rcases su _ _ _ _ _ ho with⟨i,a,e,ha,ex⟩|⟨h,_⟩
    ·have:i<l.length:=by
      rcases aaf i l.length with h'|h'
      ·exact h'
      ·rw[aak (by rw[HK];exact h')] at ha;cases ha
     subst ex;exact⟨aan _,by omega,aab _⟩
    ·simp [T.get] at h
   ·have:g=0:=by omega
    subst this;refine⟨s9, ?_,λ_=>Yc s9 hJ (r2 rfl),(λh=>by cases h),arr,fr,r3,r4,r5,λo tag a ho _=>?_⟩
    ·rw[hz] at j5;show xg w0.heap.size ρ H L γ blk.length (γ j).1 0=_;rw[j5];exact hJ
    ·rcases su _ _ _ _ _ ho with⟨i,a',e,ha,ex⟩|⟨h,_⟩
     ·injection ex with ex1 ex2
      subst ex1;subst ex2
      rw[HJ] at ha
      have e:o=i:=by omega
      subst e
      cases hli:l[o]? with
      |none=>rw[hli] at ha;cases ha
      |some xs=>
       rw[hli] at ha;injection ha with ha;subst ha;have af7:∀{l:List Sh} {as:List AV},cb (Tv F blk L y) l as->∀(i:Nat) (xs:Sh),l[i]? =some xs->∃a,as[i]? =some a/\Tv F blk L y xs a:=by
        intro l
        induction l with
        |nil=>intro as _ i xs h;simp at h
        |cons x l ih=>
         intro as h i xs hi
         cases as with
         |nil=>exact h.elim
         |cons a as=>cases i with
          |zero=>simp at hi;subst hi;exact⟨a,rfl,h.1⟩
          |succ i=>simp at hi;obtain⟨b,h1,h2⟩:=ih h.2 i xs hi;exact⟨b,by simpa using h1,h2⟩
       obtain⟨a1,ha1,ht⟩:=af7 Xg o xs hli;obtain⟨a0,hc0,hwk⟩:=g8 o a1 ha1;obtain⟨s1,u,s2,s3⟩:=r6 o 0 a0 hc0 (aab _);exact⟨s1,u,s2,Tv.vr hm ht (hwk _ s3)⟩
     ·simp [T.get] at h
  |grow m ty t=>
   have u6:q= .grow (.rows m (y.g t)) g ty:=u6;subst u6;have j5:=dh hm hj (rr hL hq (λ_ _ _ e=>by cases e));rcases aaR (Ct.rows m (y.g t)).len with h0|i4
   ·exact .inl h0
   ·rcases hm.good.blk _ _ hq with h0|⟨s9,r1,r2,r3,arr,fr,r4,r5,r6,r7,r8⟩
    ·omega
    have hJ:ba ρ H L j=some s9:=by unfold ba;rw[hL];simp only [hq];rw[if_neg (by omega)];exact r1
    refine .inr ⟨s9, ?_,r2,Yc s9 hJ r3,arr,fr,r4,r5,r6,r7,λi hi j' a ha=>?_⟩
    ·show xg w0.heap.size ρ H L γ blk.length (γ j).1 (γ j).2=_;rw[j5];exact hJ
    ·obtain⟨u,u1,u2⟩:=r8 i hi j' a ha;exact⟨u,u1,cF XG u2 (kO ha)⟩
  |growb ty t=>
   have u6:q= .grow (.bytes (y.s t)) g ty:=u6;subst u6;have j5:=dh hm hj (rr hL hq (λ_ _ _ e=>by cases e));rcases aaR (Ct.bytes (y.s t)).len with h0|i4
   ·exact .inl h0
   ·rcases hm.good.blk _ _ hq with h0|⟨s9,r1,r2,r3,arr,fr,r4,r5,r6,r7,r8⟩
    ·omega
    have hJ:ba ρ H L j=some s9:=by unfold ba;rw[hL];simp only [hq];rw[if_neg (by omega)];exact r1
    refine .inr ⟨s9, ?_,r2,Yc s9 hJ r3,arr,fr,r4,r5,r6,r7,λi hi j' a ha=>?_⟩
    ·show xg w0.heap.size ρ H L γ blk.length (γ j).1 (γ j).2=_;rw[j5];exact hJ
    ·obtain⟨u,u1,u2⟩:=r8 i hi j' a ha;exact⟨u,u1,cF XG u2 (kO ha)⟩
  |arr m ty t=>
   obtain⟨eg,e,i4⟩:=u6;subst eg;subst e;have hz:=hm.g0 j _ hx rfl;have j5:=dh hm hj (rr hL hq (λ_ _ _ e=>by cases e));rw[hz] at j5;have j0:¬(Ct.rows m (y.g t)).len=0:=by show ¬(y.g t).length=0;omega
   rcases hm.good.blk _ _ hq with h0|⟨s9,r1,r2,r3,arr,fr,r4,r5,r6,r7,r8⟩
   ·exact absurd h0 j0
   have hJ:ba ρ H L j=some s9:=by unfold ba;rw[hL];simp only [hq];rw[if_neg j0];exact r1
   refine .inr ⟨s9,j5.trans hJ,r2,Yc s9 hJ r3,arr,fr,r4,r5,r6,r7,λi hi j' a ha=>?_⟩;obtain⟨u,u1,u2⟩:=r8 i hi j' a ha;exact⟨u,u1,cF XG u2 (kO ha)⟩
  |arb ty t=>
   obtain⟨eg,e,i4⟩:=u6;subst eg;subst e;have hz:=hm.g0 j _ hx rfl;have j5:=dh hm hj (rr hL hq (λ_ _ _ e=>by cases e));rw[hz] at j5;have j0:¬(Ct.bytes (y.s t)).len=0:=by show ¬(y.s t).length=0;omega
   rcases hm.good.blk _ _ hq with h0|⟨s9,r1,r2,r3,arr,fr,r4,r5,r6,r7,r8⟩
   ·exact absurd h0 j0
   have hJ:ba ρ H L j=some s9:=by unfold ba;rw[hL];simp only [hq];rw[if_neg j0];exact r1
   refine .inr ⟨s9,j5.trans hJ,r2,Yc s9 hJ r3,arr,fr,r4,r5,r6,r7,λi hi j' a ha=>?_⟩;obtain⟨u,u1,u2⟩:=r8 i hi j' a ha;exact⟨u,u1,cF XG u2 (kO ha)⟩
  |sm m t=>
   obtain⟨eg,YR⟩:=u6;subst eg;have hz:=hm.g0 j _ hx rfl;have j6:¬vD H L j:=rr hL hq (λ_ _ _ e=>by rcases YR with h|⟨_,h,_⟩ <;> (rw[h] at e;cases e));have j5:=dh hm hj j6;rw[hz] at j5;rcases YR with e|⟨c,e,e0⟩
   ·subst e;obtain⟨s9,r1,r2,es,clock,r3,r4,r5⟩:=hm.good.blk _ _ hq;have hJ:ba ρ H L j=some s9:=by unfold ba;rw[hL];simp only [hq,r1]
    refine⟨s9,j5.trans hJ,Yc s9 hJ r2,es,clock,r3,r4,λi g e hi he=>?_⟩;obtain⟨s1,s2⟩:=r5 i g e hi he;exact⟨HM XG (EC _ _ _) s1,HM XG (ED _ _ _) s2⟩
   ·subst e;obtain⟨s9,r1,r2,es,r3,r4,r5⟩:=hm.good.blk _ _ hq;have hJ:ba ρ H L j=some s9:=by unfold ba;rw[hL];simp only [hq,r1]
    refine⟨s9,j5.trans hJ,Yc s9 hJ r2,es,c,r3,by rw[e0];exact r4,λi g e hi he=>?_⟩;rw[e0] at hi;simp at hi
  |obj k C t=>
   obtain⟨eg,e⟩:=u6;subst eg;subst e;have hz:=hm.g0 j _ hx rfl;have hO:vD H L j:=⟨_,_,_,_,_,hL,hq⟩
   obtain⟨Xj,s9,fp,r1,r2,r3,r4⟩:=hm.good.blk _ _ hq;refine⟨Xj,s9,fp,ic hm hj hO hL r1 (r3 _ aaj).1,r2,λx hx=>?_,r4⟩;obtain⟨s1,g,w6,s2,s3⟩:=r3 x hx;subst s3;exact⟨hm.owns j w6 (.inr ⟨_,_,hL,hO,⟨g,s2⟩,s1⟩) s1,g,w6,ic hm hj hO hL s2 s1,rfl⟩
 ·obtain⟨j,hj,e1,hG⟩:=di hh;obtain⟨b,g,g2,_,j5⟩:=cA (dg hG).1;refine⟨(hm.good.dom _ _ _ j5).1,kM γ y j blk[j], ?_⟩;rw[←e1];exact s8 j blk[j] (aah hj)
 ·obtain⟨j1,hj1,e1,b9⟩:=di q1;obtain⟨j2,hj2,e3,d9⟩:=di q2;obtain⟨b1',g1',_,WR,E'⟩:=cA (dg b9).1;obtain⟨b2',g2',_,hL2,ai2⟩:=cA (dg d9).1;obtain⟨r1,r2⟩:=hm.good.inj _ _ _ _ _ _ E' ai2 e;subst r1;have:=hm.linj _ _ _ _ _ WR hL2;subst this;exact⟨by rw[←e1, ←e3],r2⟩
 ·obtain⟨j,hj,e1,hG⟩:=di hh;have hxj:=aah hj;have:=s8 j blk[j] hxj;rw[e1,hX] at this;injection this with this;subst this;rcases(dg hG).2 with⟨⟨b0,g0,k,I,l,hL,hq⟩,_⟩|⟨_,e2,_⟩
  ·obtain⟨b1,g1,WR,q,p9,u6⟩:=hm.hb j _ hxj
   rw[hL] at WR;injection WR with WR;injection WR with e3 e4
   subst e3
   rw[hq] at p9;injection p9 with p9
   generalize blk[j]=x at u6
   cases x with
   |cells ty l=>obtain⟨_,c,as,e,_⟩:=u6;rw[←p9] at e;cases e
   |grow m ty t=>have u6:q=_:=u6;rw[←p9] at u6;cases u6
   |growb ty t=>have u6:q=_:=u6;rw[←p9] at u6;cases u6
   |sm m t=>obtain⟨_,e|⟨c,e,_⟩⟩:=u6 <;> (rw[←p9] at e;cases e)
   |arr m ty t=>obtain⟨_,e,_⟩:=u6;rw[←p9] at e;cases e
   |arb ty t=>obtain⟨_,e,_⟩:=u6;rw[←p9] at e;cases e
   |obj k C t=>trivial
  ·rw[e2];exact HL λe=>hm.g0 j _ hxj e
 ·have hf:je w0.heap.size ρ H w wf L b=some (arr,ty):=hf;unfold je at hf;split at hf
  ·rename_i x hx
   injection hf with hf
   subst hf
   refine⟨(hm.good.frz _ _ _ hx).1,λb' g' h hh e=>?_⟩
   obtain⟨j,hj,e1,hG⟩:=di hh
   obtain⟨b2,g2,g3,hL,j5⟩:=cA (dg hG).1
   obtain⟨b1,g1,WR,q,p9,u6⟩:=hm.hb j _ (aah hj)
   rw[hL] at WR;injection WR with WR;injection WR with e3 e4
   subst e3
   refine absurd e (hm.good.frzE hx j5 p9 ?_)
   generalize blk[j]=x at u6
   cases x with
   |cells ty l=>obtain⟨_,c,as,e,_⟩:=u6;rw[e];exact λh=>h
   |grow m ty t=>have u6:q=_:=u6;rw[u6];exact λh=>h
   |growb ty t=>have u6:q=_:=u6;rw[u6];exact λh=>h
   |sm m t=>obtain⟨_,e|⟨c,e,_⟩⟩:=u6 <;> (rw[e];exact λh=>h)
   |arr m ty t=>obtain⟨_,e,_⟩:=u6;rw[e];exact λh=>h
   |arb ty t=>obtain⟨_,e,_⟩:=u6;rw[e];exact λh=>h
   |obj k C t=>obtain⟨_,e⟩:=u6;rw[e];exact λh=>h
  ·split at hf
   ·rename_i hc;split at hf
    ·rename_i l7 Ww Z1 hw;injection hf with hf;injection hf with e1 e2;subst e1;subst e2;refine⟨⟨Z1,hw⟩,λb' g' h hh e=>?_⟩;obtain⟨j,hj,e1,hG⟩:=di hh;exact absurd e (hc.2 j h (dg hG).1)
    ·cases hf
   ·cases hf
 ·exact hm.frz b x hf c8
 ·obtain⟨j,hj,e1,hG⟩:=di hh;have hxj:=aah hj;have hp:=s8 j blk[j] hxj;rw[e1,hX] at hp;injection hp with hp;obtain⟨b0,g0,hL,q,hq,u6⟩:=hm.hb j _ hxj;have hO:vD H L j:=by
   generalize blk[j]=x at u6 hp
   cases x with
   |obj k C t=>obtain⟨_,e⟩:=u6;subst e;exact⟨_,_,_,_,_,hL,hq⟩
   |_=>cases hp
  rcases dg hG with⟨hA,hc⟩
  rcases hc with⟨_,b2,g2,hL2,j5⟩|⟨hn,_⟩
  ·rw[hL] at hL2;injection hL2 with hL2;injection hL2 with e3 e4;subst e3;obtain⟨_,_,k0,I0,l0,e5,e6⟩:=hO;rw[hL] at e5;injection e5 with e5;injection e5 with e5 _;subst e5;exact⟨hm.owns j h hA (hm.good.objO _ _ _ _ e6 _ _ j5).1,(hm.good.objO _ _ _ _ e6 _ _ j5).2⟩
  ·exact absurd hO hn
end
end Go.Sym
namespace Go.Sym
open Go.RowKit (Below)
def SB{w0 w w':World}{ρ ρp:Rho}{H Hp H2:T ABlk}(hG:Good w0 ρ H w)(hP:Good0 w ρp Hp w')(hH2:∀b,H2.get b=match Hp.get b with|some X=>some X|none=>H.get b)(d6:∀x,ρp.own x->Own ρ w0.heap.size x)(XR:ρp.val=ρ.val)(ac0:∀b x,ρ.frz b=some x->ρp.frz b=some x)(XF:ρp.frz0=ρ.frz)(hq:∀b g h,ρp.at_ b g=some h->ρ.at_ b g=some h∨(ρ.at_ b g=none/\∀b' g' h',ρ.at_ b' g'=some h'->h'.blk=h.blk->b'=b/\h'=h))(WH:∀b g h X,ρ.at_ b g=some h->Hp.get b=some X->F6 g X)(hex:∀b X,Hp.get b=some X->∃X0,H.get b=some X0/\¬tz X0)(ai3:∀b g h,ρ.at_ b g=some h->Hp.get b=none->¬ρp.own h.blk)(WA:∀b k I l,Hp.get b=some (.obj k I l)->(∃k I l,H.get b=some (.obj k I l))∨∀g,ρ.at_ b g=none)(Y':∀b X,Hp.get b=some X->(∃c n ty,X= .cells c 0 0 n 0 0 false ty)∨(∃c g ty,X= .grow c g ty)∨(∃m l,X= .smap m l)∨∃k I l,X= .obj k I l):
 ∃ρ2:Rho,Good w0 ρ2 H2 w'/\ρ.le ρ2/\(∀b g h,ρp.at_ b g=some h->ρ2.at_ b g=some h)/\ρ2.val=ρp.val/\ρ2.frz=ρp.frz:=by
 let ρ2:Rho:=⟨λb g=>match ρ.at_ b g with|some h=>some h|none=>ρp.at_ b g,ρp.val,ρ.own,ρp.frz,ρ.frz0⟩
 have h21:∀b g h,ρ.at_ b g=some h->ρ2.at_ b g=some h:=λb g h hh=>by show(match ρ.at_ b g with|some h=>some h|none=>ρp.at_ b g)=some h;rw[hh]
 have h22:∀b g h,ρp.at_ b g=some h->ρ2.at_ b g=some h:=λb g h hh=>by
  show(match ρ.at_ b g with|some h=>some h|none=>ρp.at_ b g)=some h;rcases hq b g h hh with h'|⟨h',_⟩
  ·rw[h']
  ·rw[h'];exact hh
 have h23:∀b g h,ρ2.at_ b g=some h->ρ.at_ b g=some h∨(ρ.at_ b g=none/\ρp.at_ b g=some h):=λb g h hh=>by
  have hh:(match ρ.at_ b g with|some h=>some h|none=>ρp.at_ b g)=some h:=hh
  cases hr:ρ.at_ b g with
  |some h'=>rw[hr] at hh;exact .inl hh
  |none=>rw[hr] at hh;exact .inr ⟨rfl,hh⟩
 have hle:ρ.le ρ2:=⟨h21,XR,rfl,ac0,rfl⟩
 have hvp:∀a v,VR ρp a v->VR ρ2 a v:=λa v h=>h.into h22 rfl λ_ _ h=>h
 have m8:=hG.below.size
 have ai4:=hP.below.size
 have j4:∀b g h,ρp.at_ b g=some h->ρ.at_ b g=none->∀b' g' h',ρ.at_ b' g'=some h'->h'.blk=h.blk->b'=b/\h'=h:=λb g h hh hn=>by
  rcases hq b g h hh with h'|⟨_,h'⟩
  ·rw[hn] at h';cases h'
  ·exact h'
 have XS:∀x,Own ρp w.heap.size x->Own ρ2 w0.heap.size x:=λx hx=>by
  rcases hx with hx|hx
  ·exact .inl (by omega)
  ·exact d6 x hx
 refine⟨ρ2,⟨⟨?_,λb X hX=>?_,λb g h hh=>?_,λb g h b' g' h' q1 q2 e=>?_,λb g h X hh hX=>?_,λb arr ty hf=>?_,λb x hf c8=>?_,λb k I l hX g h hh=>?_⟩,λx hx=>by obtain⟨b,g,h,q1,q2,q3⟩:=hG.ownB x hx;exact⟨b,g,h,q1,h21 _ _ _ q2,q3⟩⟩,hle,h22,rfl,rfl⟩
 ·refine hG.below.trans ⟨hP.below.os,hP.below.tape,hP.below.output,ai4,λx hx ho=>hP.below.block x (by omega) λhpo=>?_⟩;rcases d6 x hpo with h|h
  ·omega
  ·exact ho h
 ·rw[hH2] at hX
  cases hp:Hp.get b with
  |some X'=>
   rw[hp] at hX;injection hX with hX;subst hX;have hB:=hP.blk _ _ hp;rcases Y' _ _ hp with⟨c,n,ty,e⟩|⟨c,g,ty,e⟩|⟨m,l,e⟩|⟨k,I,l,e⟩
   ·subst e;refine⟨hB.1,λg hg=>?_⟩;obtain⟨hm,r1,r2,r3,arr,fr,r4,r5,r6,r7⟩:=hB.2 g hg;refine⟨hm,h22 _ _ _ r1,λh=>XS _ (r2 h),r3,arr,fr,r4,r5,r6,λo tag a ho ht=>?_⟩;obtain⟨s1,u,s2,s3⟩:=r7 o tag a ho ht;exact⟨s1,u,s2,hvp _ _ s3⟩
   ·subst e;rcases hB with h0|⟨hm,r1,r2,r3,arr,fr,r4,r5,r6,r7,r8⟩
    ·exact .inl h0
    ·refine .inr ⟨hm,h22 _ _ _ r1,r2,XS _ r3,arr,fr,r4,r5,r6,r7,λi hi j a ha=>?_⟩;obtain⟨u,u1,u2⟩:=r8 i hi j a ha;exact⟨u,u1,hvp _ _ u2⟩
   ·subst e;obtain⟨hm,r1,r2,es,clock,r3,r4,r5⟩:=hB;refine⟨hm,h22 _ _ _ r1,XS _ r2,es,clock,r3,r4,λi g e hi he=>?_⟩;obtain⟨s1,s2⟩:=r5 i g e hi he;exact⟨hvp _ _ s1,hvp _ _ s2⟩
   ·subst e;obtain⟨hl,hm,fp,r1,r2,r3,r4⟩:=hB;refine⟨hl,hm,fp,h22 _ _ _ r1,r2,λx hx=>?_,r4⟩;obtain⟨s1,g,w6,s2,s3⟩:=r3 x hx;exact⟨XS _ s1,g,w6,h22 _ _ _ s2,s3⟩
  |none=>rw[hp] at hX;exact(hG.blk _ _ hX).keep hle λg h hh=>hP.below.block _ (hG.dom _ _ _ hh).1 (ai3 b g h hh hp)
 ·rcases h23 b g h hh with hh|⟨hn,hh⟩
  ·obtain⟨q1,X,q2⟩:=hG.dom _ _ _ hh
   refine⟨by omega, ?_⟩
   rw[hH2]
   cases hp:Hp.get b with
   |some X'=>exact⟨_,rfl⟩
   |none=>exact⟨X,q2⟩
  ·obtain⟨q1,X,q2⟩:=hP.dom _ _ _ hh;exact⟨q1,X,by rw[hH2,q2]⟩
 ·rcases h23 b g h q1 with q1|⟨Yp,q1⟩ <;> rcases h23 b' g' h' q2 with q2|⟨hn2,q2⟩
  ·exact hG.inj _ _ _ _ _ _ q1 q2 e
  ·exact j4 _ _ _ q2 hn2 _ _ _ q1 e
  ·obtain⟨r1,r2⟩:=j4 _ _ _ q1 Yp _ _ _ q2 e.symm;exact⟨r1.symm,r2.symm⟩
  ·exact hP.inj _ _ _ _ _ _ q1 q2 e
 ·rw[hH2] at hX
  cases hp:Hp.get b with
  |some X'=>
   rw[hp] at hX;injection hX with hX;subst hX;rcases h23 b g h hh with hh|⟨hn,hh⟩
   ·exact WH _ _ _ _ hh hp
   ·exact hP.gens _ _ _ _ hh hp
  |none=>
   rw[hp] at hX;rcases h23 b g h hh with hh|⟨hn,hh⟩
   ·exact hG.gens _ _ _ _ hh hX
   ·obtain⟨_,X2,q2⟩:=hP.dom _ _ _ hh;rw[hp] at q2;cases q2
 ·have hf:ρp.frz b=some (arr,ty):=hf;obtain⟨q1,q2⟩:=hP.frz _ _ _ hf;have hnp:∀b' X,Hp.get b'=some X->¬tz X:=λb' X hX hz=>by rcases Y' _ _ hX with⟨c,n,ty,e⟩|⟨c,g,ty,e⟩|⟨m,l,e⟩|⟨k,I,l,e⟩ <;> (subst e;exact hz)
  refine⟨q1,λb' g h hh e=>?_⟩;rcases h23 b' g h hh with hh|⟨hn,hh⟩
  ·have c8:=(hG.dom _ _ _ hh).1
   have h1:=hP.frzB b _ hf (by omega)
   rw[XF] at h1
   obtain⟨X,y1,y2⟩:=(hG.frz _ _ _ h1).2 _ _ _ hh e
   refine⟨X, ?_,y2⟩
   rw[hH2]
   cases hp:Hp.get b' with
   |none=>exact y1
   |some X'=>obtain⟨X0,z1,z2⟩:=hex _ _ hp;rw[y1] at z1;injection z1 with z1;subst z1;exact absurd y2 z2
  ·obtain⟨X,y1,y2⟩:=q2 _ _ _ hh e;exact absurd y2 (hnp _ _ y1)
 ·have hf:ρp.frz b=some x:=hf;have h1:=hP.frzB b x hf (by omega);rw[XF] at h1;exact hG.frzB _ _ h1 c8
 ·rw[hH2] at hX
  cases hp:Hp.get b with
  |some X'=>
   rw[hp] at hX;injection hX with hX;subst hX;rcases h23 b g h hh with hh|⟨hn,hh⟩
   ·rcases WA _ _ _ _ hp with⟨_,_,_,q⟩|q
    ·exact hG.objO _ _ _ _ q _ _ hh
    ·rw[q] at hh;cases hh
   ·exact⟨XS _ (hP.objO _ _ _ _ hp _ _ hh).1,(hP.objO _ _ _ _ hp _ _ hh).2⟩
  |none=>
   rw[hp] at hX;rcases h23 b g h hh with hh|⟨hn,hh⟩
   ·exact hG.objO _ _ _ _ hX _ _ hh
   ·obtain⟨_,X2,q2⟩:=hP.dom _ _ _ hh;rw[hp] at q2;cases q2
section
variable{P:Program}{w0:World}{ρ:Rho}{w:World}{σ:St}{K:Fin}
def cU{α:Type}{j:Nat}{p:α}:∀{loc:List (Nat×α)},bm j loc=some p->(j,p)∈loc:=by
 intro loc
 induction loc with
 |nil=>intro h;cases h
 |cons z l ih=>
  intro h;rw[cQ] at h;split at h
  ·rename_i e;injection h with h;have:z=(j,p):=by rw[←e, ←h]
   rw[this];exact aaj
  ·exact aag _ (ih h)
def xj(K:Fin)(w0:World)(ρ:Rho)(w:World)(σ:St)(loc:List (Nat×Nat×Nat))(a:AV)(k:AV->Tr):Prop:=
 ∃a' a8 ρ',run (k a') a8 K=true/\SI a8/\Good w0 ρ' a8.h w/\ρ.le ρ'/\Stays loc σ.h a8.h/\∀ρ2,ρ'.le ρ2->∀v,VR ρ2 a v->VR ρ2 a' v
def uo{loc:List (Nat×Nat×Nat)}{a:AV}{k:AV->Tr}(hS:SI σ)(hG:Good w0 ρ σ.h w)(h:run (Al loc a k) σ K=true):xj K w0 ρ w σ loc a k:=by
 have same:run (k a) σ K=true->xj K w0 ρ w σ loc a k:=λh=>⟨a,σ,ρ,h,hS,hG,.refl _,.refl _ _,λ_ _ _ h=>h⟩
 unfold Al at h
 cases a with
 |gsl b g n es=>
  have d4:=cy hS h
  replace h:=aT hS h;obtain⟨q,c7,hq,e1,b6,h⟩:=h
  have b9:Good w0 ρ c7.h w:=by rw[e1];exact hG
  have p9:c7.h.get b=some q:=by rw[e1];exact hq
  cases q with
  |grow c gen ty=>replace h:=aj h;obtain⟨k1,h⟩:=h;replace h:=aj h;obtain⟨k2,h⟩:=h;replace h:=aj h;obtain⟨k3,h⟩:=h;replace h:=aJ h;obtain⟨k4,h⟩:=h;replace h:=cr b6 h;obtain⟨x0,d5,A',e2,d8,_,h⟩:=h;have k1:=aF k1;have k2:=aF k2;obtain⟨k3a,k3b⟩:=az k3;have k3a:=aU k3a;subst k1;subst k2;subst k4;obtain⟨ρ',f1,f2,f3⟩:=b9.freeze p9 d4 k3a;refine⟨_,d5,ρ',h,d8,by rw[e2];exact f2,f1,λb' X hf hX=>?_,f3⟩;obtain⟨x,x9,p7⟩:=hf;rw[e2,T.get_set_ne _ (λe=>by subst e;rw[gu x9 p7] at k3b;cases k3b),e1];exact hX
  |froz c gen=>replace h:=aj h;obtain⟨k1,h⟩:=h;replace h:=aj h;obtain⟨k2,h⟩:=h;replace h:=aJ h;obtain⟨k4,h⟩:=h;have k1:=aF k1;have k2:=aF k2;subst k1;subst k2;subst k4;exact⟨_,c7,ρ,h,b6,b9,.refl _,λb' X _ hX=>by rw[e1];exact hX,λρ2 i5 v hv=>gW ((b9.blk _ _ p9).keep (w':=w) i5 λ_ _ _=>rfl) hv⟩
  |_=>exact(ac h).elim
 |_=>exact same h
def xk{loc:List (Nat×Nat×Nat)}{blk:List BSh}{x:Sh}{a:AV}{k:AV->Tr}(hS:SI σ)(hG:Good w0 ρ σ.h w)(h:run (sj loc blk x a k) σ K=true):xj K w0 ρ w σ loc a k:=by
 have same:run (k a) σ K=true->xj K w0 ρ w σ loc a k:=λh=>⟨a,σ,ρ,h,hS,hG,.refl _,.refl _ _,λ_ _ _ h=>h⟩
 have fresh:∀(ct:Ct) (ty es:Nat),ct.len=0->a= .nils->run (.new (.grow ct 0 ty) λb=>k (.gsl b 0 0 es)) σ K=true->xj K w0 ρ w σ loc a k:=by
  intro ct ty es h0 ea h;obtain⟨n,a8,hn,d4,e,j7,h⟩:=cZ hS h;refine⟨_,a8,ρ,h,j7,by rw[e];exact hG.none_new hn d4 h0,.refl _,λb X _ hX=>?_,λρ2 _ v hv=>?_⟩
  ·rw[e,T.get_set_ne _ (λe'=>by subst e';rw[hn] at hX;cases hX)];exact hX
  ·subst ea;cases hv;exact .gnil _ _ _
 have rowsMT:∀{m len:Nat} (tyf:Nat->Nat),∀(XC:Nat) (as:List AV) (kk:Ct->Nat->Tr) (a8:St),run (bS (cW (bO m) len as) .fail λq=>(match q with|(gs,[])=>kk (.rows m gs) (tyf XC)|_=>.fail)) a8 K=true->
  ∃ct ty,run (kk ct ty) a8 K=true/\(as.length=ct.len * ct.es->∀i,i<ct.len->∀(ρ:Rho) (vs:List Value),LR ρ ((as.drop (i * ct.es)).take ct.es) vs->LR ρ (ct.row i) vs):=by
  intro m len tyf XC as kk a8 h
  replace h:=br h;obtain⟨q,hq,h⟩:=h
  split at h
  ·rename_i gs;obtain⟨c1,f1,f2,f3,f4⟩:=fH _ _ _ _ hq;have f1:as=c1:=by simpa using f1
   subst f1;exact⟨_,_,h,λhlen i hi ρ vs=>f4 i (by rw[←f3];exact hi) ρ vs⟩
  ·exact(ac h).elim
 have rowsBT:∀(tyf:Nat->Nat),∀(XC:Nat) (as:List AV) (kk:Ct->Nat->Tr) (a8:St),run (bS (eZ as) .fail λns=>.req (bA ns) (kk (.bytes (aN ns)) (tyf XC))) a8 K=true->
  ∃ct ty,run (kk ct ty) a8 K=true/\(as.length=ct.len * ct.es->∀i,i<ct.len->∀(ρ:Rho) (vs:List Value),LR ρ ((as.drop (i * ct.es)).take ct.es) vs->LR ρ (ct.row i) vs):=by
  intro tyf XC as kk a8 h
  replace h:=br h;obtain⟨ns,hq,h⟩:=h
  replace h:=aJ h;obtain⟨Xk,h⟩:=h
  obtain⟨f1,f2⟩:=ls _ _ hq
  refine⟨_,_,h,λhlen i hi ρ vs l6=>?_⟩
  have hal:as.length=(aN ns).length:=by rw[bV,f1]
  have hi:i<(aN ns).length:=hi
  have Z6:i<as.length:=by omega
  have hd:(as.drop (i * 1)).take 1= [as[i]]:=by rw[aaC,aba Z6];rfl
  have l6:LR ρ ((as.drop (i * 1)).take 1) vs:=l6
  rw[hd] at l6
  refine l6.one λv hv=>?_
  obtain⟨n',q1,q2⟩:=f2 i as[i] (aah Z6)
  obtain⟨q3,q4⟩:=gV _ _ _ Xk q1
  rw[aI hv q2,aai,q3]
  show VR ρ (.sI .u8 ((n'.toNat:Nat):Int)) _
  rw[show((n'.toNat:Nat):Int)=n' by omega]
  exact .sI _ _
 have andthen:∀(b g o len es:Nat) (cap:Option Nat),a= .slc b g o len cap es->(∃a8,run (Al loc (.gsl b g len es) k) a8 K=true/\SI a8/\Good w0 ρ a8.h w/\Stays loc σ.h a8.h/\∀ρ2,ρ.le ρ2->∀v,VR ρ2 (.slc b g o len cap es) v->VR ρ2 (.gsl b g len es) v)->xj K w0 ρ w σ loc a k:=by intro b g o len es cap ea ⟨a8,h1,h2,h3,h4,h5⟩;obtain⟨a',d5,ρ',q1,q2,q3,q4,q5,q6⟩:=uo h2 h3 h1;subst ea;exact⟨a',d5,ρ',q1,q2,q3,q4,h4.trans q5,λρ2 i5 v hv=>q6 ρ2 i5 v (h5 ρ2 (q4.trans i5) v hv)⟩
 have fv:∀m,run (LH loc m a k) σ K=true->xj K w0 ρ w σ loc a k:=by
  intro m z
  unfold LH at z
  cases a with
  |slc b g o len cap es=>replace z:=aj z;obtain⟨he,z⟩:=z;exact andthen b g o len es cap rfl (da hS hG (rowsMT λty=>ty) z)
  |_=>exact uo hS hG z
 have fb:run (frzB loc a k) σ K=true->xj K w0 ρ w σ loc a k:=by
  intro z
  unfold frzB at z
  cases a with
  |slc b g o len cap es=>replace z:=aj z;obtain⟨he,z⟩:=z;have he:=aF he;subst he;exact andthen b g o len 1 cap rfl (da hS hG (rowsBT λty=>ty) z)
  |_=>exact uo hS hG z
 unfold sj at h
 cases x with
 |g j es t=>
  simp only at h;split at h
  ·split at h
   ·exact fresh _ _ _ rfl rfl h
   ·exact(ac h).elim
  ·rename_i b g o len cap o4;split at h
   ·rename_i m ty t' _;replace h:=aj h;obtain⟨e,h⟩:=h;have e:=aF e;subst e;obtain⟨a8,h1,h2,h3,h4,h5⟩:=da hS hG (rowsMT λ_=>ty) h;exact⟨_,a8,ρ,h1,h2,h3,.refl _,h4,h5⟩
   ·exact(ac h).elim
  ·exact same h
 |gb j t=>
  simp only at h;split at h
  ·split at h
   ·exact fresh _ _ _ rfl rfl h
   ·exact(ac h).elim
  ·rename_i b g o len cap o4;split at h
   ·rename_i ty t' _;replace h:=aj h;obtain⟨e,h⟩:=h;have e:=aF e;subst e;obtain⟨a8,h1,h2,h3,h4,h5⟩:=da hS hG (rowsBT λ_=>ty) h;exact⟨_,a8,ρ,h1,h2,h3,.refl _,h4,h5⟩
   ·exact(ac h).elim
  ·exact same h
 |p j=>
  simp only at h;split at h
  ·rename_i b g o;split at h
   ·rename_i m _ _ _
    obtain⟨q,c7,hq,e1,b6,z⟩:=aT hS h
    have b9:Good w0 ρ c7.h w:=by rw[e1];exact hG
    have st1:Stays loc σ.h c7.h:=λb' X _ hX=>by rw[e1];exact hX
    cases q with
    |cells c gen lo hi fl fh ro ty=>obtain⟨d5,z2,d8,d9,l8,_⟩:=da b6 b9 gw z;exact⟨_,d5,ρ,z2,d8,d9,.refl _,st1.trans l8,λ_ _ _ h=>h⟩
    |_=>exact⟨_,c7,ρ,z,b6,b9,.refl _,st1,λ_ _ _ h=>h⟩
   ·rename_i XE t2 _
    obtain⟨q,c7,hq,e1,b6,z⟩:=aT hS h
    have b9:Good w0 ρ c7.h w:=by rw[e1];exact hG
    have st1:Stays loc σ.h c7.h:=λb' X _ hX=>by rw[e1];exact hX
    cases q with
    |cells c gen lo hi fl fh ro ty=>obtain⟨d5,z2,d8,d9,l8,_⟩:=da b6 b9 iV z;exact⟨_,d5,ρ,z2,d8,d9,.refl _,st1.trans l8,λ_ _ _ h=>h⟩
    |_=>exact⟨_,c7,ρ,z,b6,b9,.refl _,st1,λ_ _ _ h=>h⟩
   ·exact same h
  ·exact same h
 |v m t=>exact fv m h
 |pv m t=>exact fv m h
 |vb t=>exact fb h
 |pvb t=>exact fb h
 |_=>exact same h
def To2(ρ:Rho):List AV->List AV->Prop:=cb λa a'=>∀ρ2,ρ.le ρ2->∀v,VR ρ2 a v->VR ρ2 a' v
def To2.lr{ρ ρ2:Rho}(hle:ρ.le ρ2):∀{as m6:List AV} {vs:List Value},To2 ρ as m6->LR ρ2 as vs->LR ρ2 m6 vs
 | [],[],vs,_,h=>h
 |a::as,a'::m6,vs,⟨h1,h2⟩,h=>by obtain⟨v,o7,rfl,hv,h'⟩:=h.cons_inv;exact LR.cons (h1 ρ2 hle v hv) (To2.lr hle h2 h')
 | [],_::_,_,h,_=>h.elim
 |_::_,[],_,h,_=>h.elim
def To2.get{ρ:Rho}:∀{as m6:List AV} {i:Nat} {a':AV},To2 ρ as m6->m6[i]? =some a'->∃a,as[i]? =some a/\∀ρ2,ρ.le ρ2->∀v,VR ρ2 a v->VR ρ2 a' v
 | [],[],i,a',_,h=>by simp at h
 |a::as,b::m6,0,a',⟨h1,h2⟩,h=>by simp at h;subst h;exact⟨a,rfl,h1⟩
 |a::as,b::m6,i+1,a',⟨h1,h2⟩,h=>by simp at h;obtain⟨x,q1,q2⟩:=To2.get h2 h;exact⟨x,by simpa using q1,q2⟩
 | [],_::_,_,_,h,_=>h.elim
 |_::_,[],_,_,h,_=>h.elim
def sw{loc:List (Nat×Nat×Nat)}{blk:List BSh}:∀{l:List Sh} {as:List AV} {k:List AV->Tr} {σ:St} {ρ:Rho},SI σ->Good w0 ρ σ.h w->run (um loc blk l as k) σ K=true->
 ∃m6 a8 ρ',run (k m6) a8 K=true/\SI a8/\Good w0 ρ' a8.h w/\ρ.le ρ'/\Stays loc σ.h a8.h/\(as.length=l.length->To2 ρ' as m6):=by
 intro l
 induction l with
 |nil=>intro as k σ ρ hS hG h;exact⟨as,σ,ρ,h,hS,hG,.refl _,.refl _ _,λe=>by cases as with|nil=>exact trivial|cons _ _=>simp at e⟩
 |cons x l ih=>
  intro as k σ ρ hS hG h
  cases as with
  |nil=>exact⟨[],σ,ρ,h,hS,hG,.refl _,.refl _ _,λe=>by simp at e⟩
  |cons a as=>
   have h:run (sj loc blk x a λa=>um loc blk l as λas=>k (a::as)) σ K=true:=h
   obtain⟨a',c7,J',h1,h2,h3,h4,h5,h6⟩:=xk hS hG h
   obtain⟨m6,d5,ρ2,q1,q2,q3,q4,q5,q6⟩:=ih h2 h3 h1
   exact⟨a'::m6,d5,ρ2,q1,q2,q3,h4.trans q4,h5.trans q5,λe=>⟨λρ3 hle=>h6 ρ3 (q4.trans hle),q6 (by simpa using e)⟩⟩
def gC{loc:List (Nat×Nat×Nat)}{blk:List BSh}:∀{l:List Sa} {as:List AV} {k:List AV->Tr} {σ:St} {vs:List Value} {ρ:Rho},SI σ->Good w0 ρ σ.h w->LR ρ as vs->run (ib loc blk l as k) σ K=true->
 ∃m6 a8 ρ',run (k m6) a8 K=true/\SI a8/\Good w0 ρ' a8.h w/\ρ.le ρ'/\m6.length=as.length/\(l.length=as.length->LR ρ' m6 vs):=by
 intro l
 induction l with
 |nil=>intro as k σ vs ρ hS hG hl h;exact⟨as,σ,ρ,h,hS,hG,.refl _,rfl,λ_=>hl⟩
 |cons x l ih=>
  intro as k σ vs ρ hS hG hl h
  cases as with
  |nil=>exact⟨[],σ,ρ,h,hS,hG,.refl _,rfl,λ_=>hl⟩
  |cons a as=>
   obtain⟨v,o7,rfl,hv,m7⟩:=hl.cons_inv
   have h:run (HG loc blk x a λa=>ib loc blk l as λas=>k (a::as)) σ K=true:=h
   have:∃a' a8 ρ',run (ib loc blk l as λas=>k (a'::as)) a8 K=true/\SI a8/\Good w0 ρ' a8.h w/\ρ.le ρ'/\∀ρ2,ρ'.le ρ2->VR ρ2 a' v:=by
    cases x with
    |c x=>have h:run (sj loc blk x a λa=>ib loc blk l as λas=>k (a::as)) σ K=true:=h;obtain⟨a',c7,J',h1,h2,h3,h4,_,h6⟩:=xk hS hG h;exact⟨a',c7,J',h1,h2,h3,h4,λρ2 hle=>h6 ρ2 hle v ((hv.mono h4).mono hle)⟩
    |ag l'=>
     unfold HG at h;simp only at h;split at h
     ·rename_i as1 _
      obtain⟨hlen,h1⟩:=aj h
      have hlen:=aF hlen
      obtain⟨ai5,c7,J',q1,q2,q3,q4,_,q6⟩:=sw hS hG h1
      refine⟨.agg ai5,c7,J',q1,q2,q3,q4,λρ2 hle=>?_⟩
      cases hv with
      |agg _ cs e1 e2=>have o5:LR ρ2 as1 cs.toList:=(LR.of_arr e1 e2).mono (q4.trans hle);obtain⟨r1,r2⟩:=(To2.lr hle (q6 hlen) o5).arr;exact .agg _ cs r1 r2
     ·exact⟨_,σ,ρ,h,hS,hG,.refl _,λρ2 hle=>hv.mono hle⟩
    |cp l'=>exact⟨_,σ,ρ,h,hS,hG,.refl _,λρ2 hle=>hv.mono hle⟩
   obtain⟨a',c7,J',h1,h2,h3,h4,h5⟩:=this
   obtain⟨m6,d5,ρ2,q1,q2,q3,q6,q5,q4⟩:=ih h2 h3 (m7.mono h4) h1
   exact⟨a'::m6,d5,ρ2,q1,q2,q3,h4.trans q6,by simp [q5],λe=>LR.cons (h5 ρ2 q6) (q4 (by simpa using e))⟩
def kP{F:T ABlk}{blk:List BSh}:∀{l:List Sa} {as:List AV} {s s':PS},gc F blk l as s=some s'->l.length=as.length:=by
 intro l
 induction l with
 |nil=>intro as s s' h;cases as with|nil=>rfl|cons _ _=>cases h
 |cons x l ih=>
  intro as s s' h
  cases as with
  |nil=>cases h
  |cons a as=>obtain⟨s1,_,h2⟩:=aB (show bi (pD F blk x a s) (λs=>gc F blk l as s)=some s' from h);simp [ih h2]
def EE{F:T ABlk}{blk:List BSh}:∀{l:List Sh} {as:List AV} {s s':PS},lK F blk l as s=some s'->l.length=as.length:=by
 intro l
 induction l with
 |nil=>intro as s s' h;cases as with|nil=>rfl|cons _ _=>cases h
 |cons x l ih=>
  intro as s s' h
  cases as with
  |nil=>cases h
  |cons a as=>obtain⟨s1,_,h2⟩:=aB (show bi (si F blk x a s) (λs=>lK F blk l as s)=some s' from h);simp [ih h2]
def jg(s:PS):kU s .leaf=λ_=>none:=by
 funext b;unfold kU;split
 ·simp [T.get]
 ·rfl
def up(ρ:Rho)(blk:List BSh)(H:T ABlk)(s':PS)(l:List BSh)(j:Nat):Prop:=
 ∀i x,l[i]? =some x->∃b g,bm (j+i) s'.loc=some (b,g)/\∃q,H.get b=some q/\∀ρ2,ρ.le ρ2->∀sF,s'.Le sF->sF.pr->pF blk sF->BT ρ2 (λ_=>none) blk sF.L (aK sF.tm) x q g
def xl{blk:List BSh}{k:PS->Tr}:∀{l:List BSh} {j:Nat} {s:PS} {σ:St} {ρ:Rho},SI σ->Good w0 ρ σ.h w->run (sn blk l j s k) σ K=true->
 ∃s' a8 ρ',run (k s') a8 K=true/\SI a8/\Good w0 ρ' a8.h w/\ρ.le ρ'/\s.Le s'/\Stays s.loc σ.h a8.h/\up ρ' blk a8.h s' l j:=by
 intro l
 induction l with
 |nil=>intro j s σ ρ hS hG h;exact⟨s,σ,ρ,h,hS,hG,.refl _,.refl _,.refl _ _,λi x hx=>by simp at hx⟩
 |cons x l ih=>
  intro j s σ ρ hS hG h
  have h:run (bS (bm j s.loc) .fail λbg=>.rd bg.1 λq=>Sx blk x q bg.2 s λs=>sn blk l (Nat.succ j) s k) σ K=true:=h
  obtain⟨bg,Xy,h⟩:=br h
  obtain⟨b,g⟩:=bg
  obtain⟨q,c7,hq,e1,b6,h⟩:=aT hS h
  have b9:Good w0 ρ c7.h w:=by rw[e1];exact hG
  have hqs:σ.h.get b=some q:=hq
  have fin:∀(s1:PS) (d5:St) (J':Rho),s.Le s1->SI d5->Good w0 J' d5.h w->ρ.le J'->Stays s.loc c7.h d5.h->(∀ρ2,J'.le ρ2->∀sF,s1.Le sF->sF.pr->pF blk sF->BT ρ2 (λ_=>none) blk sF.L (aK sF.tm) x q g)->run (sn blk l (Nat.succ j) s1 k) d5 K=true->
   ∃s' a8 ρ',run (k s') a8 K=true/\SI a8/\Good w0 ρ' a8.h w/\ρ.le ρ'/\s.Le s'/\Stays s.loc σ.h a8.h/\up ρ' blk a8.h s' (x::l) j:=by
   intro s1 d5 J' hle d8 d9 hr l8 u6 h
   obtain⟨s',a8,ρ',q1,q2,q3,q0,q4,q5,q6⟩:=ih d8 d9 h
   have af8:∀b X,(∃x,x∈s.loc/\x.2.1=b)->c7.h.get b=some X->a8.h.get b=some X:=λb X ⟨x,x9,p7⟩ hX=>
    q5 b X ⟨x,hle.mem _ x9,p7⟩ (l8 b X ⟨x,x9,p7⟩ hX)
   refine⟨s',a8,ρ',q1,q2,q3,hr.trans q0,hle.trans q4,λb' X hf hX=>?_,λi y hy=>?_⟩
   ·exact af8 b' X hf (by rw[e1];exact hX)
   ·cases i with
    |zero=>simp at hy;subst hy;exact⟨b,g,(hle.trans q4).loc _ _ Xy,q,af8 b q ⟨_,cU Xy,rfl⟩ (by rw[e1];exact hqs),λρ2 i5 sF hF hp hl=>u6 ρ2 (q0.trans i5) sF (q4.trans hF) hp hl⟩
    |succ i=>obtain⟨b',g',r1,r2⟩:=q6 i y (by simpa using hy);exact⟨b',g',by rw[show j+(i+1)=Nat.succ j+i by omega];exact r1,r2⟩
  have hd:(∀ty l',x≠ .cells ty l')->run (bS (fo x q g s) .fail λs=>sn blk l (Nat.succ j) s k) c7 K=true->
   ∃s' a8 ρ',run (k s') a8 K=true/\SI a8/\Good w0 ρ' a8.h w/\ρ.le ρ'/\s.Le s'/\Stays s.loc σ.h a8.h/\up ρ' blk a8.h s' (x::l) j:=λ_ h=>by
   obtain⟨s1,o9,h⟩:=br h
   have key:∀ρ2:Rho,s.Le s1/\∀sF,s1.Le sF->sF.pr->BT ρ2 (kU sF .leaf) blk sF.L (aK sF.tm) x q g:=λρ2=>dE (F:=.leaf) (blk:=blk) o9
   exact fin s1 c7 ρ (key ρ).1 b6 b9 (.refl _) (.refl _ _) (λρ2 _ sF hF hp _=>by have:=(key ρ2).2 sF hF hp;rwa [jg] at this) h
  cases x with
  |cells ty l'=>
   obtain⟨as,has,h⟩:=br h
   obtain⟨m6,d5,J',h1,h2,h3,h0,h4,h5⟩:=sw b6 b9 h
   obtain⟨s1,o9,h⟩:=br h1
   obtain⟨p1,p2⟩:=lO (blk:=blk) o9
   obtain⟨eg,c,eq,hl⟩:=pH has
   obtain⟨r1,r2⟩:=pd hl
   refine fin s1 d5 J' p1 h2 h3 h0 h4 (λρ2 i5 sF hF hp Xt=>⟨eg,c,m6,eq,(EE o9).symm,λj' a' X5=>?_,by have:=p2 sF hF hp Xt;rwa [jg] at this⟩) h
   obtain⟨a,ha,hto⟩:=(h5 r1).get X5
   obtain⟨tag,t1,t2⟩:=r2 _ a ha
   have:tag=0:=by omega
   subst this
   exact⟨a,by rw[←t1];congr 1;omega,hto ρ2 i5⟩
  |grow m ty t=>exact hd (λ_ _ e=>by cases e) h
  |growb ty t=>exact hd (λ_ _ e=>by cases e) h
  |sm m t=>exact hd (λ_ _ e=>by cases e) h
  |arr m ty t=>exact hd (λ_ _ e=>by cases e) h
  |arb ty t=>exact hd (λ_ _ e=>by cases e) h
  |obj k C t=>exact hd (λ_ _ e=>by cases e) h
def HN{γ:jO}{y:Sy}{k:Tr}:∀{l:List BSh} {j:Nat} {σ:St},SI σ->run (PC γ y l j k) σ K=true->
 ∃a8,run k a8 K=true/\SI a8/\a8.h=fm γ y l j σ.h/\∀i,i<l.length->(γ (j+i)).1+1<2 ^ 64:=by
 intro l
 induction l with
 |nil=>intro j σ hS h;exact⟨σ,h,hS,rfl,λi hi=>by simp at hi⟩
 |cons x l ih=>
  intro j σ hS h
  obtain⟨x0,c7,_,e1,b6,d4,h1⟩:=cr hS (show run (.wr (γ j).1 (kM γ y j x) (PC γ y l (Nat.succ j) k)) σ K=true from h)
  obtain⟨d5,q1,q2,q3,q4⟩:=ih b6 h1
  refine⟨d5,q1,q2,by rw[q3,e1];rfl,λi hi=>?_⟩
  cases i with
  |zero=>exact d4
  |succ i=>have:=q4 i (by simpa using hi);rwa [show Nat.succ j+i=j+(i+1) by omega] at this
def Ao{γ:jO}{y:Sy}:∀(l:List BSh) (j:Nat) (H:T ABlk) (b:Nat),(∀i,i<l.length->b≠(γ (j+i)).1)->(fm γ y l j H).get b=H.get b:=by
 intro l
 induction l with
 |nil=>intro j H b _;rfl
 |cons x l ih=>intro j H b j0;show(fm γ y l (j+1) (H.set (γ j).1 (kM γ y j x))).get b=_;rw[ih (j+1) _ b (λi hi=>by have:=j0 (i+1) (by simpa using hi);rwa [show j+(i+1)=j+1+i by omega] at this),T.get_set_ne _ (show b≠(γ j).1 from j0 0 (by simp))]
def sx{n:Nat}:∀{l:List (Nat×Nat×Nat)},ko n l=true->∀x∈l,x.1<n:=by
 intro l
 induction l with
 |nil=>intro _ x hx;cases hx
 |cons z l ih=>
  intro h x hx;obtain⟨h1,h2⟩:=az (show aa (Nat.ble (Nat.succ z.1) n) (aa (iL z.2.1 l) (ko n l) false) false=true from h);obtain⟨h3,h4⟩:=az h2;rcases List.mem_cons.1 hx with e|hx
  ·subst e;exact aau h1
  ·exact ih h4 x hx
def sy{n:Nat}:∀{l:List (Nat×Nat×Nat)},ko n l=true->∀x∈l,∀z∈l,x.2.1=z.2.1->x=z:=by
 intro l
 induction l with
 |nil=>intro _ x hx;cases hx
 |cons a l ih=>
  intro h x hx z hz e;obtain⟨h1,h2⟩:=az (show aa (Nat.ble (Nat.succ a.1) n) (aa (iL a.2.1 l) (ko n l) false) false=true from h);obtain⟨h3,h4⟩:=az h2;replace hx:=List.mem_cons.1 hx;replace hz:=List.mem_cons.1 hz;rcases hx with e1|hx <;> rcases hz with e2|hz
  ·rw[e1,e2]
  ·subst e1;rw[gu hz e.symm] at h3;cases h3
  ·subst e2;rw[gu hx e] at h3;cases h3
  ·exact ih h4 x hx z hz e
def LK{bl:List BSh}{j:Nat}(h:LE bl j=true):∃x,bl[j]? =some x/\gB x=false:=by
 unfold LE at h;split at h
 ·rename_i hx;exact⟨_,hx,rfl⟩
 ·rename_i hx;exact⟨_,hx,rfl⟩
 ·cases h
def xm{bl:List BSh}{n:Nat}:∀{l:List (Nat×Nat×Nat)},lM bl n l=true->∀x∈l,(x.1<n->x.2.1=base+x.1∨(base+64<=x.2.1/\∃y,bl[x.1]? =some y/\gB y=false))/\(n<=x.1->base+64<=x.2.1):=by
 intro l
 induction l with
 |nil=>intro _ x hx;cases hx
 |cons a l ih=>
  intro h x hx;obtain⟨h1,h2⟩:=az (show aa (aa (Nat.ble (Nat.succ a.1) n) (aa (Nat.beq a.2.1 (base+a.1)) true (aa (LE bl a.1) (Nat.ble (base+64) a.2.1) false)) (Nat.ble (base+64) a.2.1)) (lM bl n l) false=true from h);rcases List.mem_cons.1 hx with e|hx
  ·subst e;rw[ak] at h1;split at h1
   ·rename_i hb;have hb:=aau hb;refine⟨λ_=>?_,λh'=>by omega⟩;rw[ak] at h1;split at h1
    ·rename_i hq;exact .inl (aae hq)
    ·obtain⟨q1,q2⟩:=az h1;exact .inr ⟨aau q2,LK q1⟩
   ·rename_i hb;refine⟨λh'=>absurd (Nat.ble_eq.mpr h') hb,λ_=>aau h1⟩
  ·exact ih h2 x hx
def EF{l:List (Nat×Nat×Nat)}:∀{fz:List Nat},pE fz l=true->∀b∈fz,∀x∈l,x.2.1≠b:=by
 intro fz
 induction fz with
 |nil=>intro _ b hb;cases hb
 |cons c fz ih=>
  intro h b hb x hx e;obtain⟨h1,h2⟩:=az (show aa (iL c l) (pE fz l) false=true from h);rcases List.mem_cons.1 hb with e'|hb
  ·subst e';rw[gu hx e] at h1;cases h1
  ·exact ih h2 b hb x hx e
def xn:∀{l m:List BSh},nB l m=true->l.length<=m.length/\∀(j:Nat) (x y:BSh),l[j]? =some x->m[j]? =some y->xc x y=true:=by
 intro l
 induction l with
 |nil=>intro m h;exact⟨aan _,λj x y hx=>by simp at hx⟩
 |cons a l ih=>
  intro m h
  cases m with
  |nil=>cases h
  |cons b m=>
   obtain⟨h1,h2⟩:=az (show aa (xc a b) (nB l m) false=true from h)
   obtain⟨q1,q2⟩:=ih h2
   refine⟨by simp;omega,λj x y hx hy=>?_⟩
   cases j with
   |zero=>simp at hx hy;subst hx;subst hy;exact h1
   |succ j=>exact q2 j x y (by simpa using hx) (by simpa using hy)
def fq{x y:BSh}(h:xc x y=true):gB x=gB y:=by cases x <;> cases y <;> first|rfl|(cases h;done)
def jC{x y:BSh}(h:xc x y=true):(∃k C t,x= .obj k C t)↔∃k C t,y= .obj k C t:=by cases x <;> cases y <;> first|(cases h;done)|exact⟨λ_=>⟨_,_,_,rfl⟩,λ_=>⟨_,_,_,rfl⟩⟩|exact⟨λ⟨_,_,_,e⟩=>(by cases e),λ⟨_,_,_,e⟩=>(by cases e)⟩
def BX{s:PS}{j b g:Nat}(hn:bm j s.loc=none):s.Le (s.name (j,b,g)):=by
 cases s with
 |mk tm loc ln pr fz=>
 have hn:bm j loc=none:=hn
 refine⟨λ_ _ h=>h,λj' p h'=>?_,λ_ h=>h,λh=>h,λ_ h=>aag _ h,λ_ h=>h⟩
 show bm j' ((j,b,g)::loc)=some p
 rw[cQ]
 split
 ·rename_i e;simp only at e;subst e;have h':bm j loc=some p:=h';rw[hn] at h';cases h'
 ·exact h'
def uq{H:T ABlk}:∀{l:List BSh} {j:Nat} {s s':PS},EA H l j s=some s'->s.Le s'/\s'.ln=s.ln/\s'.tm=s.tm:=by
 intro l
 induction l with
 |nil=>intro j s s' h;injection h with h;subst h;exact⟨.refl _,rfl,rfl⟩
 |cons x l ih=>
  intro j s s' h;have h:(match bm j s.loc with
   |some _=>EA H l (Nat.succ j) s
   |none=>aa (gB x) (T.getK H (base+j) none λq=>EA H l (Nat.succ j) (s.name (j,base+j,rp q))) (EA H l (Nat.succ j) s))=some s':=h
  split at h
  ·exact ih h
  ·rename_i hn;rw[ak] at h;split at h
   ·obtain⟨q,hq,h⟩:=lz h;obtain⟨h1,h2,h3⟩:=ih h;refine⟨(BX hn).trans h1, ?_, ?_⟩
    ·rw[h2];cases s;rfl
    ·rw[h3];cases s;rfl
   ·exact ih h
def ur{ρ:Rho}{H:T ABlk}{blk:List BSh}:∀{l:List BSh} {j:Nat} {s s':PS},Ez H blk l j s=some s'->
 s.Le s'/\∀sF,s'.Le sF->sF.pr->pF blk sF->∀i x,l[i]? =some x->∃b g,sF.L (j+i)=some (b,g)/\∃q,H.get b=some q/\BT ρ (kU sF H) blk sF.L (aK sF.tm) x q g:=by
 intro l
 induction l with
 |nil=>intro j s s' h;injection h with h;subst h;exact⟨.refl _,λsF _ _ _ i x hx=>by simp at hx⟩
 |cons x l ih=>
  intro j s s' h
  have key:∀(b g:Nat) (s0:PS) (q:ABlk),s.Le s0->bm j s0.loc=some (b,g)->H.get b=some q->(bi (mP H blk x q g s0) λs=>Ez H blk l (Nat.succ j) s)=some s'->s.Le s'/\∀sF,s'.Le sF->sF.pr->pF blk sF->∀i y,(x::l)[i]? =some y->∃b g,sF.L (j+i)=some (b,g)/\∃q,H.get b=some q/\BT ρ (kU sF H) blk sF.L (aK sF.tm) y q g:=λb g s0 q hle Xy hq h=>by
   obtain⟨s1,h1,h⟩:=aB h
   obtain⟨p1,p2⟩:=EB (ρ:=ρ) (blk:=blk) h1
   obtain⟨r1,r2⟩:=ih h
   refine⟨hle.trans (p1.trans r1),λsF hF hp hl i y hy=>?_⟩
   cases i with
   |zero=>simp at hy;subst hy;exact⟨b,g,hF.loc _ _ (r1.loc _ _ (p1.loc _ _ Xy)),q,hq,p2 sF (r1.trans hF) hp hl⟩
   |succ i=>obtain⟨b,g,q1,q2⟩:=r2 sF hF hp hl i y (by simpa using hy);exact⟨b,g,by rw[show j+(i+1)=Nat.succ j+i by omega];exact q1,q2⟩
  have h:(match bm j s.loc with
   |some bg=>T.getK H bg.1 none λq=>bi (mP H blk x q bg.2 s) λs=>Ez H blk l (Nat.succ j) s
   |none=>T.getK H (base+j) none λq=>bi (mP H blk x q (rp q) (s.name (j,base+j,rp q))) λs=>Ez H blk l (Nat.succ j) s)=some s':=h
  split at h
  ·rename_i bg Xy;obtain⟨q,hq,h⟩:=lz h;exact key bg.1 bg.2 s q (.refl _) Xy hq h
  ·rename_i hn
   obtain⟨q,hq,h⟩:=lz h
   refine key (base+j) (rp q) (s.name (j,base+j,rp q)) q (BX hn) ?_ hq h
   cases s with
   |mk tm loc ln pr fz=>
   show bm j ((j,base+j,rp q)::loc)=_
   rw[cQ,if_pos rfl]
structure Fin2(bl:List BSh)(n:Nat)(s:PS)(len:Nat):Prop where
 t3:∀j b g,s.L j=some (b,g)->j<len/\(j<n->b=base+j∨(base+64<=b/\∃y,bl[j]? =some y/\gB y=false))/\(n<=j->base+64<=b)
 t4:∀j j' b g g',s.L j=some (b,g)->s.L j'=some (b,g')->j=j'
 t5:∀b,b∈s.fz->∀j g,s.L j≠some (b,g)
def Fin2.at0{n len:Nat}{s:PS}(h:Fin2 [] n s len){j b g:Nat}(hL:s.L j=some (b,g))(hj:j<n):b=base+j:=by
 rcases(h.t3 j b g hL).2.1 hj with h'|⟨_,y,hy,_⟩
 ·exact h'
 ·simp at hy
def BY{bl:List BSh}{n len:Nat}{s:PS}(h5:lM bl n s.loc=true)(h6:ko len s.loc=true)(h7:pE s.fz s.loc=true):Fin2 bl n s len where
 t3:=λj b g hL=>by have hm:=cU hL;obtain⟨q1,q2⟩:=xm h5 _ hm;exact⟨sx h6 _ hm,q1,q2⟩
 t4:=λj j' b g g' h1 h2=>congrArg Prod.fst (sy h6 _ (cU h1) _ (cU h2) rfl)
 t5:=λb hb j g hL=>EF h7 b hb _ (cU hL) rfl
def pN{n:Nat}{ρ:Rho}{H:T ABlk}{r:Sr}{l:List BSh}{a:AV}{s:PS}(h:db n H r l a=some s)(hp:s.pr):
 TvR (kU s H) l s.L (aK s.tm) r a/\(∀j x,l[j]? =some x->∃b g,s.L j=some (b,g)/\∃q,H.get b=some q/\BT ρ (kU s H) l s.L (aK s.tm) x q g)/\Fin2 l n s l.length:=by
 obtain⟨s1,h1,h⟩:=aB h
 obtain⟨s2,h2,h⟩:=aB h
 obtain⟨s3,h3,h⟩:=aB h
 obtain⟨s4,h4,h⟩:=aB h
 obtain⟨h5,h⟩:=aR h
 obtain⟨h6,h⟩:=aR h
 injection h with h
 subst h
 obtain⟨h5,h7⟩:=az h5
 have Xt:=jB h4 hp
 obtain⟨f1,_,_,_,_⟩:=dT h4
 obtain⟨p1,p2⟩:=HI (blk:=l) h1
 obtain⟨st,_,_⟩:=uq h2
 obtain⟨b1,b2⟩:=ur (ρ:=ρ) h3
 refine⟨p2 s4 (st.trans (b1.trans f1)) hp Xt,λj x hx=>?_,BY h5 h6 h7⟩
 obtain⟨b,g,q1,q2⟩:=b2 s4 f1 hp Xt j x hx
 exact⟨b,g,by rw[aam] at q1;exact q1,q2⟩
def gD{s:PS}{H:T ABlk}{b:Nat}{x:ABlk}(h:kU s H b=some x):H.get b=some x/\b∈s.fz:=by
 unfold kU at h;split at h
 ·rename_i hb;exact⟨h,hb⟩
 ·cases h
def PF(blk:List BSh)(j:Nat):Prop:=∃x,blk[j]? =some x/\gB x=true
def BZ(blk:List BSh)(j:Nat):Prop:=∃k C t,blk[j]? =some (.obj k C t)
structure FinRel(blk:List BSh)(ρ:Rho)(w:World)(ρ':Rho)(wx:World):Prop where
 kept:Kept ρ.own w.heap.size w wx
 frz:∀b x,ρ.frz b=some x->ρ'.frz b=some x
 frzB:∀b x,ρ'.frz0 b=some x->b<w.heap.size->ρ.frz b=some x
 ownx:∀x,ρ'.own x->∃j g h,h.blk=x/\ρ'.at_ (base+j) g=some h/\j<64/\(w.heap.size<=x∨(ρ.own x/\∃g',ρ.at_ (base+j) g'=some h))
 stb:∀j h,PF blk j->ρ.at_ (base+j) 0=some h->ρ'.at_ (base+j) 0=some h
 objs:∀j g h,BZ blk j->ρ.at_ (base+j) g=some h->ρ'.at_ (base+j) g=some h
def OwnOk(ρ:Rho):Prop:=∀x,ρ.own x->∃j g h,h.blk=x/\ρ.at_ (base+j) g=some h/\j<64
def OwnOk.B{ρ:Rho}(h:OwnOk ρ):∀x,ρ.own x->∃b g h,b<base+64/\ρ.at_ b g=some h/\h.blk=x:=λx hx=>by obtain⟨j,g,h,q1,q2,q3⟩:=h x hx;exact⟨base+j,g,h,by omega,q2,q1⟩
def FinRel.of_le{blk:List BSh}{ρ ρ':Rho}{w:World}(hle:ρ.le ρ')(ho:OwnOk ρ)(hf:ρ.frz0=ρ.frz):FinRel blk ρ w ρ' w where
 kept:=Kept.refl _ _ _
 frz:=hle.frz
 frzB:=λb x h _=>by rw[hle.frz0,hf] at h;exact h
 ownx:=λx hx=>by rw[hle.own] at hx;obtain⟨j,g,h,q1,q2,q3⟩:=ho x hx;exact⟨j,g,h,q1,hle.at_ _ _ _ q2,q3,.inr ⟨hx,g,q2⟩⟩
 stb:=λj h _ hh=>hle.at_ _ _ _ hh
 objs:=λj g h _ hh=>hle.at_ _ _ _ hh
def B0:base+64+1<2 ^ 64:=by decide
def xp(w0:World)(ρ:Rho)(H:T ABlk)(L:Nat->Option (Nat×Nat)):Nat->Prop:=λx=>∃j h,pL w0.heap.size ρ H L j h/\h.blk=x/\Own ρ w0.heap.size x
def HO{B:Nat}(ρ:Rho)(H:T ABlk)(w:World)(L:Nat->Option (Nat×Nat))(b:Nat):je B ρ H w w L b=ρ.frz b:=by
 unfold je;split
 ·rename_i x hx;exact hx.symm
 ·rename_i hx;rw[hx];split
  ·rename_i hc;rw[aaN hc.1]
  ·rfl
structure Lent(w0:World)(ρ:Rho)(H:T ABlk)(w:World)(L:Nat->Option (Nat×Nat))(blk:List BSh)(z:Sy):Prop where
 good:Good w0 ρ H w
 hb:∀j x,blk[j]? =some x->∃b g,L j=some (b,g)/\∃q,H.get b=some q/\BT ρ (λ_=>none) blk L z x q g
 dom:∀j p,L j=some p->j<blk.length
 inj:∀j j' b g g',L j=some (b,g)->L j'=some (b,g')->j=j'
 n64:blk.length<=64
noncomputable def xr(w0:World)(ρ:Rho)(H:T ABlk)(w:World)(L:Nat->Option (Nat×Nat))(blk:List BSh)(vl:Nat->Value):Rho:=jQ w0.heap.size ρ H w w L bw blk.length (xp w0 ρ H L) ρ.frz vl
def Lent.mv{w0 w:World}{ρ:Rho}{H:T ABlk}{L:Nat->Option (Nat×Nat)}{blk:List BSh}{z:Sy}(hL:Lent w0 ρ H w L blk z):MvHyp w0 ρ H (λ_=>none) w w w L bw blk z (xp w0 ρ H L) ρ.frz:=
 {good:=hL.good,hb:=hL.hb,dom:=hL.dom,linj:=hL.inj,ginj:=λa b _ _ e=>by have e:base+a=base+b:=e;omega,g64:=λj hj=>by have:=B0;have:=hL.n64;show base+j+1<_;omega,
  g0:=λ_ _ _ _=>rfl,kept:=Kept.refl _ _ _,owns:=λj h h1 h2=>.inr ⟨j,h,h1,rfl,h2⟩,frF:=λb x _ hF=>(by cases hF),frz:=λb x h _=>by rw[HO] at h;exact h}
def xu{w0 w wf wb:World}{ρ:Rho}{H:T ABlk}{F:Nat->Option ABlk}{L:Nat->Option (Nat×Nat)}{γ:jO}{blk:List BSh}{y:Sy}{own:Nat->Prop}{frz0:Nat->Option (Array Value×TypeId)}(hm:MvHyp w0 ρ H F w wf wb L γ blk y own frz0){j:Nat}{h:Home}(hh:pL w0.heap.size ρ H L j h)(d6:Own ρ w0.heap.size h.blk)(hj:j<blk.length):∃g,xg w0.heap.size ρ H L γ blk.length (γ j).1 g=some h:=by
 rcases hh with hh|⟨b,g,h1,h2,⟨g',h3⟩,_⟩
 ·by_cases ho:vD H L j
  ·obtain⟨b,g,e1,e2⟩:=jf hh;exact⟨g,ic hm hj ho e1 e2 d6⟩
  ·exact⟨_,(dh hm hj ho).trans hh⟩
 ·exact⟨g',ic hm hj h2 h1 h3 d6⟩
def Lent.ownOk{vl:Nat->Value}{w0 w:World}{ρ:Rho}{H:T ABlk}{L:Nat->Option (Nat×Nat)}{blk:List BSh}{z:Sy}(hL:Lent w0 ρ H w L blk z):OwnOk (xr w0 ρ H w L blk vl):=λx hx=>by obtain⟨j,h,q1,q2,q3⟩:=hx;obtain⟨b,g,_,e,_⟩:=cA q1;have hj:=hL.dom _ _ e;obtain⟨g',Xs⟩:=xu hL.mv q1 (by rw[q2];exact q3) hj;exact⟨j,g',h,q2,Xs,Zm hj hL.n64⟩
def Lent.to{vl:Nat->Value}{w0 w:World}{ρ:Rho}{H:T ABlk}{L:Nat->Option (Nat×Nat)}{blk:List BSh}{z:Sy}(hL:Lent w0 ρ H w L blk z):Good w (xr w0 ρ H w L blk vl) (fm bw z blk 0 .leaf) w:=
 ⟨hL.mv.to0,hL.ownOk.B⟩
def TabIn(ρ:Rho)(o:List (Nat×Nat×List Nat)):Prop:=∀x∈o,x.1<1048576/\∃arr,ρ.frz x.1=some (arr,x.2.1)/\oL x.2.2 arr
def TabIn.mono{ρ ρ':Rho}{o:List (Nat×Nat×List Nat)}(hf:∀b x,ρ.frz b=some x->ρ'.frz b=some x)(h:TabIn ρ o):TabIn ρ' o:=λx hx=>by obtain⟨h1,arr,h2,h3⟩:=h x hx;exact⟨h1,arr,hf _ _ h2,h3⟩
def HP{z:Sy}{blk:List BSh}{g:Nat}(hg:g<1048576):(fm bw z blk 0 .leaf).get g=none:=by
 cases e:(fm bw z blk 0 .leaf).get g with
 |none=>rfl
 |some X=>
  rcases pJ blk 0 .leaf g X e with⟨i,x,_,eb,_⟩|⟨h,_⟩
  ·have eb:g=1048576+(0+i):=eb;omega
  ·simp [T.get] at h
def HQ:∀{a b:List Nat},vL a b=true->a=b
 | [],[],_=>rfl
 | [],_::_,h=>by cases h
 |_::_,[],h=>by cases h
 |x::a,y::b,h=>by obtain⟨h1,h2⟩:=az (show aa (Nat.beq x y) (vL a b) false=true from h);rw[aae h1,HQ h2]
def Ap{o:List (Nat×Nat×List Nat)}{H:T ABlk}(c8:∀x∈o,x.1<1048576){b:Nat}{X:ABlk}(h:(addTab o H).get b=some X):(∃ty l,X= .tab ty l)∨H.get b=some X:=by
 induction o with
 |nil=>exact .inr h
 |cons x o ih=>
  by_cases e:b=x.1
  ·subst e;have h:((addTab o H).set x.1 (.tab x.2.1 x.2.2)).get x.1=some X:=h;rw[T.get_set_same _ _ _ (by have:=c8 x aaj;omega)] at h;injection h with h;exact .inl ⟨_,_,h.symm⟩
  ·have h:((addTab o H).set x.1 (.tab x.2.1 x.2.2)).get b=some X:=h;rw[T.get_set_ne _ e _] at h;exact ih (λy hy=>c8 y (aag _ hy)) h
def Good.setTab{w w0:World}{ρ:Rho}{H:T ABlk}{g ty:Nat}{l:List Nat}(hG:Good w0 ρ H w)(hg:g<1048576)(ht:∃arr,ρ.frz g=some (arr,ty)/\oL l arr)(hn:∀X,H.get g=some X->¬tz X):Good w0 ρ (H.set g (.tab ty l)) w:=by
 have hs:(H.set g (.tab ty l)).get g=some (.tab ty l):=T.get_set_same _ _ _ (by omega);have ho:∀b,b≠g->(H.set g (.tab ty l)).get b=H.get b:=λb hb=>T.get_set_ne _ hb _;refine⟨⟨hG.below,λb x hx=>?_,λb g' h hh=>?_,hG.inj,λb g' h x hh hx=>?_,λb arr Ww hb=>⟨(hG.frz _ _ _ hb).1,λb' g' h hh e=>?_⟩,hG.frzB,λb k I l' hx=>?_⟩,hG.ownB⟩
 ·by_cases e:b=g
  ·subst e;rw[hs] at hx;injection hx with hx;subst hx;exact⟨hg,ht⟩
  ·rw[ho _ e] at hx;exact hG.blk _ _ hx
 ·obtain⟨h1,x,h2⟩:=hG.dom _ _ _ hh;by_cases e:b=g
  ·subst e;exact⟨h1,_,hs⟩
  ·exact⟨h1,x,by rw[ho _ e];exact h2⟩
 ·by_cases e:b=g
  ·subst e;rw[hs] at hx;injection hx with hx;subst hx;trivial
  ·rw[ho _ e] at hx;exact hG.gens _ _ _ _ hh hx
 ·obtain⟨x,h1,h2⟩:=(hG.frz _ _ _ hb).2 _ _ _ hh e;exact⟨x,by rw[ho _ (λe=>by subst e;exact hn _ h1 h2)];exact h1,h2⟩
 ·by_cases e:b=g
  ·subst e;rw[hs] at hx;cases hx
  ·rw[ho _ e] at hx;exact hG.objO _ _ _ _ hx
def Good.addTab{w w0:World}{ρ:Rho}{z:Sy}{blk:List BSh}{o:List (Nat×Nat×List Nat)}(hG:Good w0 ρ (fm bw z blk 0 .leaf) w)(ht:TabIn ρ o):Good w0 ρ (Go.Sym.addTab o (fm bw z blk 0 .leaf)) w:=by
 induction o with
 |nil=>exact hG
 |cons x o ih=>
  have ih:=ih λy hy=>ht y (aag _ hy);obtain⟨hg,h2⟩:=ht x aaj;refine ih.setTab hg h2 λX hX=>?_;rcases Ap (λy hy=>(ht y (aag _ hy)).1) hX with⟨_,_,rfl⟩|h
  ·exact λh=>h
  ·rw[HP hg] at h;cases h
def Good.tabIn{w w0:World}{ρ:Rho}{z:Sy}{H:T ABlk}{o:List (Nat×Nat×List Nat)}(hg:Ak o=true)(hG:Good w0 ρ (Go.Sym.addTab o H) w):TabIn ρ o:=by
 have key:∀(o:List (Nat×Nat×List Nat)),Ak o=true->∀x∈o,x.1<1048576/\(Go.Sym.addTab o H).get x.1=some (.tab x.2.1 x.2.2):=by
  intro o
  induction o with
  |nil=>intro _ x hx;cases hx
  |cons y o ih=>
   intro h x hx;obtain⟨h1,h2⟩:=az (show aa (aa (Nat.ble (Nat.succ y.1) 1048576) (o.all λz=>aa (Nat.beq y.1 z.1) false true) false) (Ak o) false=true from h);obtain⟨h3,h4⟩:=az h1;have h3:y.1<1048576:=aau h3;rcases List.mem_cons.1 hx with rfl|hx
   ·exact⟨h3,T.get_set_same _ _ _ (by omega)⟩
   ·obtain⟨i1,i2⟩:=ih h2 x hx;refine⟨i1, ?_⟩;have j0:x.1≠y.1:=λe=>by have:=List.all_eq_true.1 h4 x hx;rw[e,abl] at this;cases this
    exact(T.get_set_ne _ j0 _).trans i2
 intro x hx;obtain⟨h1,h2⟩:=key o hg x hx;exact hG.blk _ _ h2
def ut{w0 w:World}{ρ:Rho}{σ:St}{K:Fin}{o:List (Nat×Nat×List Nat)}{k:Tr}(hS:SI σ)(hG:Good w0 ρ σ.h w)(h:run (LG o k) σ K=true):∃a8,a8.h=σ.h/\SI a8/\run k a8 K=true/\TabIn ρ o:=by
 induction o generalizing σ with
 |nil=>exact⟨σ,rfl,hS,h,λ_ h=>by cases h⟩
 |cons y o ih=>
  obtain⟨c8,h⟩:=aj h
  have c8:=aU c8
  obtain⟨x,a8,h1,h2,h3,h4⟩:=aT hS h
  cases x with
  |tab Ww l'=>
   obtain⟨e1,h5⟩:=aj h4;obtain⟨e2,h6⟩:=aj h5;have e1:=aae e1;have e2:=HQ e2;obtain⟨d5,q1,q2,q3,q4⟩:=ih h3 (by rw[h2];exact hG) h6;refine⟨d5,q1.trans h2,q2,q3,λz hz=>?_⟩;rcases List.mem_cons.1 hz with rfl|hz
   ·rw[e1,e2];exact hG.blk _ _ h1
   ·exact q4 z hz
  |_=>exact(ac h4).elim
def frzE(w0:World)(ρ:Rho)(H:T ABlk)(w:World)(L:Nat->Option (Nat×Nat))(blk:List BSh)(vl:Nat->Value):(xr w0 ρ H w L blk vl).frz=(xr w0 ρ H w L blk vl).frz0:=by funext b;exact HO ρ H w L b
def fM{ρ:Rho}{F:Nat->Option ABlk}{blk:List BSh}{L:Nat->Option (Nat×Nat)}{y:Sy}{x:BSh}{q:ABlk}{g:Nat}(h:BT ρ F blk L y x q g):(gB x=true->g=0)/\((∃k C t,x= .obj k C t)↔∃k I l,q= .obj k I l)/\¬tz q:=by
 cases x with
 |cells ty l=>obtain⟨e0,c,as,e,_⟩:=h;subst e;exact⟨λ_=>e0,⟨λ⟨_,_,_,e⟩=>(by cases e),λ⟨_,_,_,e⟩=>(by cases e)⟩,λh=>h⟩
 |grow m ty t=>have h:q=_:=h;subst h;exact⟨λe=>(by cases e),⟨λ⟨_,_,_,e⟩=>(by cases e),λ⟨_,_,_,e⟩=>(by cases e)⟩,λh=>h⟩
 |growb ty t=>have h:q=_:=h;subst h;exact⟨λe=>(by cases e),⟨λ⟨_,_,_,e⟩=>(by cases e),λ⟨_,_,_,e⟩=>(by cases e)⟩,λh=>h⟩
 |arr m ty t=>obtain⟨e0,e,_⟩:=h;subst e;exact⟨λ_=>e0,⟨λ⟨_,_,_,e⟩=>(by cases e),λ⟨_,_,_,e⟩=>(by cases e)⟩,λh=>h⟩
 |arb ty t=>obtain⟨e0,e,_⟩:=h;subst e;exact⟨λ_=>e0,⟨λ⟨_,_,_,e⟩=>(by cases e),λ⟨_,_,_,e⟩=>(by cases e)⟩,λh=>h⟩
 |sm m t=>obtain⟨e0,e|⟨c,e,_⟩⟩:=h <;> (subst e;exact⟨λ_=>e0,⟨λ⟨_,_,_,e⟩=>(by cases e),λ⟨_,_,_,e⟩=>(by cases e)⟩,λh=>h⟩)
 |obj k C t=>obtain⟨e0,e⟩:=h;subst e;exact⟨λ_=>e0,⟨λ_=>⟨_,_,_,rfl⟩,λ_=>⟨_,_,_,rfl⟩⟩,λh=>h⟩
def Oh{vl:Nat->Value}{w0 w wx w':World}{ρ ρ':Rho}{H H':T ABlk}{F:Nat->Option ABlk}{L LF:Nat->Option (Nat×Nat)}{blk out:List BSh}{z y:Sy}{γ:jO}(hL:Lent w0 ρ H w L blk z)(Xo:nB blk out=true)(hγ:∀j x b g,blk[j]? =some x->L j=some (b,g)->γ j=(b,BW x g))(hγn:∀j,blk.length<=j->j<out.length->(γ j).2=0/\(∀g,ρ.at_ (γ j).1 g=none)/\(∃X0,H.get (γ j).1=some X0/\¬tz X0)/\(∀i b g,L i=some (b,g)->b≠(γ j).1)/\∀i,blk.length<=i->i<out.length->(γ i).1=(γ j).1->i=j)(d4:∀i,i<out.length->(γ i).1+1<2 ^ 64)(g9:Good wx ρ' H' w')(hF:FinRel blk (xr w0 ρ H w L blk vl) w ρ' wx)(hFF:∀b x,F b=some x->H'.get b=some x/\∀j g,LF j≠some (b,g))(t2:∀j x,out[j]? =some x->∃b g,LF j=some (b,g)/\∃q,H'.get b=some q/\BT ρ' F out LF y x q g)(t3:∀j b g,LF j=some (b,g)->j<out.length/\(j<blk.length->b=base+j∨(base+64<=b/\∃y,out[j]? =some y/\gB y=false))/\(blk.length<=j->base+64<=b))(t4:∀j j' b g g',LF j=some (b,g)->LF j'=some (b,g')->j=j'):
 ∃ρ2:Rho,Good w0 ρ2 (fm γ y out 0 H) w'/\ρ.le ρ2/\(∀x a v,TvA F out LF y x a->VR ρ' a v->VR ρ2 (jb γ y x) v)/\∀x a v,TvR F out LF y x a->VR ρ' a v->VR ρ2 (Ai γ y x) v:=by
 obtain⟨hkl,Xo⟩:=xn Xo
 have d9:=hL.good
 have hsx:=hF.kept.size
 have ab_:=hL.n64
 have i3:∀j,j<blk.length->∃x b g q,blk[j]? =some x/\L j=some (b,g)/\H.get b=some q/\BT ρ (λ_=>none) blk L z x q g:=λj hj=>by obtain⟨b,g,q1,q,q2,q3⟩:=hL.hb j _ (aah hj);exact⟨_,b,g,q,aah hj,q1,q2,q3⟩
 have ab2:∀x,ρ'.own x->w.heap.size<=x∨xp w0 ρ H L x:=λx hx=>by
  obtain⟨j,g,h,_,_,_,q|q⟩:=hF.ownx x hx
  ·exact .inl q
  ·exact .inr q.1
 have Yd:∀b g h,base+64<=b->ρ'.at_ b g=some h->Own ρ' wx.heap.size h.blk->w.heap.size<=h.blk:=λb g h hb hh ho=>by
  rcases ho with ho|ho
  ·omega
  ·obtain⟨j,g0,h0,q2,q3,hj,_⟩:=hF.ownx _ ho;have:=(g9.inj _ _ _ _ _ _ q3 hh q2).1;omega
 have WT:MvHyp wx ρ' H' F w' w w LF γ out y (xp w0 ρ H L) ρ.frz:=
  {good:=g9,hb:=t2,dom:=λj p h=>(t3 j p.1 p.2 h).1,linj:=t4,
   ginj:=λa b ha hb e=>by
    rcases aaf a blk.length with X5|X5 <;> rcases aaf b blk.length with w9|w9
    ·obtain⟨x1,b1,g1,_,q1,q2,_⟩:=i3 a X5;obtain⟨x2,b2,g2,_,r1,r2,_⟩:=i3 b w9;rw[hγ _ _ _ _ q1 q2,hγ _ _ _ _ r1 r2] at e;have e:b1=b2:=e;subst e;exact hL.inj _ _ _ _ _ q2 r2
    ·obtain⟨x1,b1,g1,_,q1,q2,_⟩:=i3 a X5;rw[hγ _ _ _ _ q1 q2] at e;exact absurd e ((hγn b w9 hb).2.2.2.1 _ _ _ q2)
    ·obtain⟨x1,b1,g1,_,q1,q2,_⟩:=i3 b w9;rw[hγ _ _ _ _ q1 q2] at e;exact absurd e.symm ((hγn a X5 ha).2.2.2.1 _ _ _ q2)
    ·exact(hγn b w9 hb).2.2.2.2 a X5 ha e,
   g64:=d4,
   g0:=λj x hx l8=>by
    have YD:j<out.length:=by
     rcases aaf j out.length with h'|h'
     ·exact h'
     ·rw[aak h'] at hx;cases hx
    rcases aaf j blk.length with hj|hj
    ·obtain⟨x0,b,g,q,q1,q2,q3,q4⟩:=i3 j hj;have hs:=fq (Xo j x0 x q1 hx);rw[hγ _ _ _ _ q1 q2];show aa (gB x0) g (g+1)=0;rw[hs,l8];exact(fM q4).1 (hs.trans l8)
    ·exact(hγn j hj YD).1,
   kept:=by
    refine hF.kept.trans ⟨g9.below.os,g9.below.tape,g9.below.output,g9.below.size,λx hx ho=>g9.below.block x (by omega) λhpo=>?_⟩;rcases ab2 x hpo with h|h
    ·omega
    ·exact ho h,
   owns:=λj h _ h2=>by
    rcases h2 with h2|h2
    ·exact .inl (by omega)
    ·exact ab2 _ h2,
   frF:=λb x hb hF'=>⟨(hFF b x hF').1,(hFF b x hF').2,λg h hh ho=>Yd b g h hb hh ho⟩,
   frz:=λb x hx c8=>by
    unfold je at hx;split at hx
    ·rename_i x' w6;injection hx with hx;subst hx;have:=hF.frzB b _ (g9.frzB b _ w6 (by omega)) c8;have h:je w0.heap.size ρ H w w L b=some x':=this;rw[HO] at h;exact h
    ·split at hx
     ·rename_i hc;omega
     ·cases hx}
 have hGp:=WT.to0 (vl:=ρ.val)
 have ab3:∀j x,out[j]? =some x->(fm γ y out 0 .leaf).get (γ j).1=some (kM γ y j x):=λj x hx=>by have:=pK (γ:=γ) (y:=y) out 0 .leaf j x hx (λi hi=>by rw[aam];exact WT.g64 i hi) (λa b ha hb e=>WT.ginj a b ha hb (by simpa using e));simpa using this
 have XT:∀b X,(fm γ y out 0 .leaf).get b=some X->∃j x,out[j]? =some x/\b=(γ j).1/\X=kM γ y j x/\j<out.length:=λb X hX=>by
  rcases pJ out 0 .leaf b X hX with⟨j,x,hx,q1,q2⟩|⟨h,_⟩
  ·have hj:j<out.length:=by
    rcases aaf j out.length with h'|h'
    ·exact h'
    ·rw[aak h'] at hx;cases hx
   exact⟨j,x,hx,by rw[q1,aam],by rw[q2,aam],hj⟩
  ·simp [T.get] at h
 have x6:∀b g h,(w.heap.size<=h.blk)->ρ.at_ b g=none->ρ.at_ b g=some h∨(ρ.at_ b g=none/\∀b' g' h',ρ.at_ b' g'=some h'->h'.blk=h.blk->b'=b/\h'=h):=λb g h W3 hn=>
  .inr ⟨hn,λb' g' h' g7 e=>by have:=(d9.dom _ _ _ g7).1;omega⟩
 have Y_:∀b g h,(jQ wx.heap.size ρ' H' w' w LF γ out.length (xp w0 ρ H L) ρ.frz ρ.val).at_ b g=some h->
  ρ.at_ b g=some h∨(ρ.at_ b g=none/\∀b' g' h',ρ.at_ b' g'=some h'->h'.blk=h.blk->b'=b/\h'=h):=λb g h hh=>by
  obtain⟨j,YD,eb,hGj⟩:=di hh
  obtain⟨hA,Yv⟩:=dg hGj
  have hxo:=aah YD
  obtain⟨bF,gF,Ye,qo,XH,XU⟩:=t2 j _ hxo
  obtain⟨kb1,kb2,_⟩:=fM XU
  obtain⟨e3a,e3b,e3c⟩:=t3 _ _ _ Ye
  rcases aaf j blk.length with hj|hj
  ·obtain⟨x,b0,g0,q,q1,q2,q3,q4⟩:=i3 j hj;have o6:=Xo j x _ q1 hxo;have Xy:=hγ _ _ _ _ q1 q2;rw[Xy] at eb;have eb:b0=b:=eb;subst eb;rcases e3b hj with eF|⟨eF,xo',ZR,ai6⟩
   ·subst eF;obtain⟨ka1,ka2,_⟩:=fM q4;by_cases WA:∃k C t,x= .obj k C t
    ·have af9:=(jC o6).1 WA
     obtain⟨k,I,l,eqo⟩:=kb2.1 af9
     obtain⟨k0,I0,l0,eq⟩:=ka2.1 WA
     subst eqo;subst eq
     have hOF:vD H' LF j:=⟨_,_,_,_,_,Ye,XH⟩
     have hOL:vD H L j:=⟨_,_,_,_,_,q2,q3⟩
     have ac5:ρ'.at_ (base+j) g=some h:=by
      rcases Yv with⟨_,b2,g2,e1,e2⟩|⟨hn,_⟩
      ·rw[Ye] at e1;injection e1 with e1;injection e1 with e1 _;rw[←e1] at e2;exact e2
      ·exact absurd hOF hn
     have ac6:BZ blk j:=by obtain⟨k,C,t,e⟩:=WA;exact⟨k,C,t,by rw[q1,e]⟩
     cases hr:ρ.at_ b0 g with
     |some h0=>have ho:=(d9.objO _ _ _ _ q3 _ _ hr).1;have h1:=hF.objs j g h0 ac6 (ic hL.mv hj hOL q2 hr ho);rw[ac5] at h1;injection h1 with h1;subst h1;exact .inl rfl
     |none=>
      have ho:=(g9.objO _ _ _ _ XH _ _ ac5).1;refine .inr ⟨rfl,λb' g' h' g7 e=>?_⟩;have c8:=(d9.dom _ _ _ g7).1;rcases ho with ho|ho
      ·rw[←e] at ho;omega
      ·obtain⟨j2,g2,h2,s1,s2,_,Yf⟩:=hF.ownx _ ho;obtain⟨u1,u2⟩:=g9.inj _ _ _ _ _ _ s2 ac5 s1;have:j2=j:=by omega
       subst this;subst u2;rcases Yf with Yf|⟨_,g5,Yf⟩
       ·rw[←e] at Yf;omega
       ·obtain⟨j3,_,e5,B'⟩:=di (show xg w0.heap.size ρ H L bw blk.length (base+j2) g5=some h2 from Yf);have e5:base+j3=base+j2:=e5;have:j3=j2:=by omega
        subst this;obtain⟨b3,g3,g4,ZS,YE⟩:=cA (dg B').1;rw[q2] at ZS;injection ZS with ZS;injection ZS with e6 _;subst e6;exact d9.inj _ _ _ _ _ _ g7 YE e
    ·have hnO:¬vD H' LF j:=λ⟨b2,g2,k,I,l,e1,e2⟩=>by rw[Ye] at e1;injection e1 with e1;injection e1 with e1 _;subst e1;rw[XH] at e2;injection e2 with e2;exact WA ((jC o6).2 (kb2.2 ⟨k,I,l,e2⟩))
     have ai7:¬vD H L j:=λ⟨b2,g2,k,I,l,e1,e2⟩=>by rw[q2] at e1;injection e1 with e1;injection e1 with e1 _;subst e1;rw[q3] at e2;injection e2 with e2;exact WA (ka2.2 ⟨k,I,l,e2⟩)
     have hJ:g=(γ j).2/\ba ρ' H' LF j=some h:=by
      rcases Yv with⟨ho,_⟩|⟨_,e1,e2⟩
      ·exact absurd ho hnO
      ·exact⟨e1,e2⟩
     obtain⟨eg,hJ⟩:=hJ
     rw[Xy] at eg
     obtain⟨b1,g1,WR,E'⟩:=jf hJ
     rw[Ye] at WR;injection WR with WR;injection WR with e1 e2
     subst e1;subst e2
     cases l8:gB x with
     |true=>
      have eg:g=g0:=by rw[eg];show aa (gB x) g0 (g0+1)=g0;rw[l8];rfl
      have e0:=ka1 l8;subst e0;subst eg;have eF0:=kb1 ((fq o6).symm.trans l8);subst eF0;have:∃h0,ρ.at_ b0 0=some h0/\ba ρ H L j=some h0:=by
       cases x with
       |cells ty l=>obtain⟨_,c,as,eq,_⟩:=q4;subst eq;obtain⟨h0,r1,_⟩:=(d9.blk _ _ q3).2 0 (aab _);exact⟨h0,r1,by unfold ba;rw[q2];simp only [q3,r1]⟩
       |arr m ty t=>
        obtain⟨_,e,i4⟩:=q4;subst e;have j0:¬(Ct.rows m (z.g t)).len=0:=by show ¬(z.g t).length=0;omega
        rcases d9.blk _ _ q3 with h0|⟨h0,r1,_⟩
        ·exact absurd h0 j0
        ·exact⟨h0,r1,by unfold ba;rw[q2];simp only [q3];rw[if_neg j0];exact r1⟩
       |arb ty t=>
        obtain⟨_,e,i4⟩:=q4;subst e;have j0:¬(Ct.bytes (z.s t)).len=0:=by show ¬(z.s t).length=0;omega
        rcases d9.blk _ _ q3 with h0|⟨h0,r1,_⟩
        ·exact absurd h0 j0
        ·exact⟨h0,r1,by unfold ba;rw[q2];simp only [q3];rw[if_neg j0];exact r1⟩
       |sm m t=>
        obtain⟨_,e|⟨c,e,_⟩⟩:=q4
        ·subst e;obtain⟨h0,r1,_⟩:=d9.blk _ _ q3;exact⟨h0,r1,by unfold ba;rw[q2];simp only [q3,r1]⟩
        ·subst e;obtain⟨h0,r1,_⟩:=d9.blk _ _ q3;exact⟨h0,r1,by unfold ba;rw[q2];simp only [q3,r1]⟩
       |obj k C t=>exact absurd ⟨_,_,_,rfl⟩ WA
       |grow m ty t=>cases l8
       |growb ty t=>cases l8
      obtain⟨h0,r1,hJ0⟩:=this;have:=hF.stb j h0 ⟨x,q1,l8⟩ ((dh hL.mv hj ai7).trans hJ0);rw[E'] at this;injection this with this;subst this;exact .inl r1
     |false=>
      have eg:g=g0+1:=by rw[eg];show aa (gB x) g0 (g0+1)=g0+1;rw[l8];rfl
      subst eg;have hqg:∃ct ty,q= .grow ct g0 ty:=by
       cases x with
       |grow m ty t=>exact⟨_,_,q4⟩
       |growb ty t=>exact⟨_,_,q4⟩
       |_=>cases l8
      obtain⟨ct,ty,eq⟩:=hqg;subst eq;have j6:ρ.at_ b0 (g0+1)=none:=by
       cases hn:ρ.at_ b0 (g0+1) with
       |none=>rfl
       |some hh=>have:g0+1<=g0:=d9.gens _ _ _ _ hn q3;omega
      refine .inr ⟨j6,λb' g' h' g7 e=>?_⟩;have c8:=(d9.dom _ _ _ g7).1;have ac7:∃ct ty,qo= .grow ct gF ty/\ct.len≠0:=by
       have hso:=(fq o6).symm.trans l8;have:∃ct ty,qo= .grow ct gF ty:=by
        generalize out[j]=xo at *
        cases xo with
        |grow m ty t=>exact⟨_,_,XU⟩
        |growb ty t=>exact⟨_,_,XU⟩
        |_=>cases hso
       obtain⟨ct,ty,e⟩:=this;refine⟨ct,ty,e,λh0=>?_⟩;unfold ba at hJ;rw[Ye] at hJ;simp only [XH,e,if_pos h0] at hJ;cases hJ
      obtain⟨cto,tyo,eqo,j0⟩:=ac7;subst eqo;rcases g9.blk _ _ XH with h0|⟨s9,r1,r2,r3,_⟩
      ·exact absurd h0 j0
      rw[E'] at r1;injection r1 with r1;subst r1;rcases r3 with r3|r3
      ·rw[←e] at r3;omega
      ·obtain⟨j2,g2,h2,s2',s3',_,Yf⟩:=hF.ownx _ r3;obtain⟨u1,u2⟩:=g9.inj _ _ _ _ _ _ s3' E' s2';have:j2=j:=by omega
       subst this;subst u2;rcases Yf with Yf|⟨_,g5,Yf⟩
       ·rw[←e] at Yf;omega
       ·obtain⟨j3,_,e5,B'⟩:=di (show xg w0.heap.size ρ H L bw blk.length (base+j2) g5=some h2 from Yf);have e5:base+j3=base+j2:=e5;have:j3=j2:=by omega
        subst this;obtain⟨b3,g3,g4,ZS,YE⟩:=cA (dg B').1;rw[q2] at ZS;injection ZS with ZS;injection ZS with e6 _;subst e6;exact d9.inj _ _ _ _ _ _ g7 YE e
   ·rw[hxo] at ZR;injection ZR with ZR;have Za:gB x=false:=by rw[fq o6,ZR];exact ai6
    have hnO:¬vD H' LF j:=λ⟨b2,g2,k,I,l,e1,e2⟩=>by rw[Ye] at e1;injection e1 with e1;injection e1 with e1 _;subst e1;rw[XH] at e2;injection e2 with e2;obtain⟨_,_,_,e⟩:=(jC o6).2 (kb2.2 ⟨k,I,l,e2⟩);rw[e] at Za;cases Za
    have hJ:g=(γ j).2/\ba ρ' H' LF j=some h:=by
     rcases Yv with⟨ho,_⟩|⟨_,e1,e2⟩
     ·exact absurd ho hnO
     ·exact⟨e1,e2⟩
    obtain⟨eg,hJ⟩:=hJ;rw[Xy] at eg;obtain⟨b1,g1,WR,E'⟩:=jf hJ;rw[Ye] at WR;injection WR with WR;injection WR with e1 e2;subst e1;subst e2;have eg:g=g0+1:=by rw[eg];show aa (gB x) g0 (g0+1)=g0+1;rw[Za];rfl
    subst eg;have hqg:∃ct ty,q= .grow ct g0 ty:=by
     cases x with
     |grow m ty t=>exact⟨_,_,q4⟩
     |growb ty t=>exact⟨_,_,q4⟩
     |_=>cases Za
    obtain⟨ct,ty,eq⟩:=hqg;subst eq;have j6:ρ.at_ b0 (g0+1)=none:=by
     cases hn:ρ.at_ b0 (g0+1) with
     |none=>rfl
     |some hh=>have:g0+1<=g0:=d9.gens _ _ _ _ hn q3;omega
    have ac7:∃ct ty,qo= .grow ct gF ty/\ct.len≠0:=by
     have hso:=(fq o6).symm.trans Za;have:∃ct ty,qo= .grow ct gF ty:=by
      generalize out[j]=xo at *
      cases xo with
      |grow m ty t=>exact⟨_,_,XU⟩
      |growb ty t=>exact⟨_,_,XU⟩
      |_=>cases hso
     obtain⟨ct,ty,e⟩:=this;refine⟨ct,ty,e,λh0=>?_⟩;unfold ba at hJ;rw[Ye] at hJ;simp only [XH,e,if_pos h0] at hJ;cases hJ
    obtain⟨cto,tyo,eqo,j0⟩:=ac7;subst eqo;rcases g9.blk _ _ XH with h0|⟨s9,r1,r2,r3,_⟩
    ·exact absurd h0 j0
    rw[E'] at r1;injection r1 with r1;subst r1;exact x6 _ _ _ (Yd _ _ _ eF E' r3) j6
  ·obtain⟨n1,n2,n3,n4,n5⟩:=hγn j hj YD;have eF:=e3c hj;have j6:ρ.at_ b g=none:=by rw[←eb];exact n2 g
   refine x6 b g h ?_ j6;have:∃g1,ρ'.at_ bF g1=some h/\Own ρ' wx.heap.size h.blk:=by
    rcases Yv with⟨⟨b5,g5,k,I,l,e8,e9⟩,b2,g2,e1,e2⟩|⟨hnO,_,hJ⟩
    ·rw[Ye] at e1;injection e1 with e1;injection e1 with e1 _;subst e1;rw[Ye] at e8;injection e8 with e8;injection e8 with e8 _;subst e8;exact⟨g,e2,(g9.objO _ _ _ _ e9 _ _ e2).1⟩
    ·obtain⟨b1,g1,WR,E'⟩:=jf hJ
     rw[Ye] at WR;injection WR with WR;injection WR with e1 e2
     subst e1;subst e2
     refine⟨gF,E', ?_⟩
     generalize out[j]=xo at XU
     cases xo with
     |cells ty l=>obtain⟨e0,c,as,eq,_⟩:=XU;subst e0;subst eq;obtain⟨h0,r1,r2,_⟩:=(g9.blk _ _ XH).2 0 (aab _);rw[E'] at r1;injection r1 with r1;subst r1;exact r2 rfl
     |arr m ty t=>
      obtain⟨e0,e,i4⟩:=XU;subst e0;subst e;rcases g9.blk _ _ XH with h0|⟨h0,r1,_,r2,_⟩
      ·have h0:(y.g t).length=0:=h0;omega
      ·rw[E'] at r1;injection r1 with r1;subst r1;exact r2
     |arb ty t=>
      obtain⟨e0,e,i4⟩:=XU;subst e0;subst e;rcases g9.blk _ _ XH with h0|⟨h0,r1,_,r2,_⟩
      ·have h0:(y.s t).length=0:=h0;omega
      ·rw[E'] at r1;injection r1 with r1;subst r1;exact r2
     |sm m t=>
      obtain⟨e0,e|⟨c,e,_⟩⟩:=XU
      ·subst e0;subst e;obtain⟨h0,r1,r2,_⟩:=g9.blk _ _ XH;rw[E'] at r1;injection r1 with r1;subst r1;exact r2
      ·subst e0;subst e;obtain⟨h0,r1,r2,_⟩:=g9.blk _ _ XH;rw[E'] at r1;injection r1 with r1;subst r1;exact r2
     |obj k C t=>obtain⟨e0,e⟩:=XU;subst e;exact absurd ⟨_,_,_,_,_,Ye,XH⟩ hnO
     |grow m ty t=>
      have XU:qo=_:=XU;subst XU;rcases g9.blk _ _ XH with h0|⟨s9,r1,r2,r3,_⟩
      ·unfold ba at hJ;rw[Ye] at hJ;simp only [XH,if_pos h0] at hJ;cases hJ
      ·rw[E'] at r1;injection r1 with r1;subst r1;exact r3
     |growb ty t=>
      have XU:qo=_:=XU;subst XU;rcases g9.blk _ _ XH with h0|⟨s9,r1,r2,r3,_⟩
      ·unfold ba at hJ;rw[Ye] at hJ;simp only [XH,if_pos h0] at hJ;cases hJ
      ·rw[E'] at r1;injection r1 with r1;subst r1;exact r3
   obtain⟨g1,r1,r2⟩:=this;exact Yd _ _ _ eF r1 r2
 have Xe:∀j,j<out.length->(j<blk.length/\∃x b0 g0 q,blk[j]? =some x/\L j=some (b0,g0)/\H.get b0=some q/\BT ρ (λ_=>none) blk L z x q g0/\γ j=(b0,BW x g0))∨blk.length<=j:=λj hj=>by
  rcases aaf j blk.length with h|h
  ·obtain⟨x,b0,g0,q,q1,q2,q3,q4⟩:=i3 j h;exact .inl ⟨h,x,b0,g0,q,q1,q2,q3,q4,hγ _ _ _ _ q1 q2⟩
  ·exact .inr h
 obtain⟨ρ2,m1,m2,m3,m4,m5⟩:=SB (H2:=fm γ y out 0 H) d9 hGp (λb=>by
  cases hp:(fm γ y out 0 .leaf).get b with
  |some X=>obtain⟨j,x,hx,q1,q2,_⟩:=XT b X hp;subst q1;have:=pK (γ:=γ) (y:=y) out 0 H j x hx (λi hi=>by rw[aam];exact WT.g64 i hi) (λa b ha hb e=>WT.ginj a b ha hb (by simpa using e));rw[aam] at this;rw[this,q2]
  |none=>refine Ao _ _ _ _ λi hi e=>?_;rw[aam] at e;have:=ab3 i _ (aah hi);rw[←e,hp] at this;cases this)
  (λx hx=>by obtain⟨_,_,_,_,q⟩:=hx;exact q) rfl (λb x hx=>dj (hF.frz _ _ (dj hx))) rfl
  Y_
  (λb g h X hh hX=>by
   obtain⟨j,xo,hx,q1,q2,YD⟩:=XT b X hX;subst q1;subst q2;rcases Xe j YD with⟨hj,x,b0,g0,q,r1,r2,r3,r4,Xx⟩|hj
   ·have o6:=Xo j x xo r1 hx
    rw[Xx] at hh
    have WH:=d9.gens _ _ _ _ hh r3
    obtain⟨ka1,ka2,_⟩:=fM r4
    cases xo with
    |cells ty l=>
     cases x with
     |cells Ww l'=>obtain⟨eg,cc,as,eq,_⟩:=r4;subst eq;exact WH
     |_=>cases o6
    |grow m ty t=>
     cases x with
     |grow m' Ww t'=>have eq:q=_:=r4;subst eq;have WH:g<=g0:=WH;show g<=(γ j).2;rw[Xx];show g<=g0+1;omega
     |_=>cases o6
    |growb ty t=>
     cases x with
     |growb Ww t'=>have eq:q=_:=r4;subst eq;have WH:g<=g0:=WH;show g<=(γ j).2;rw[Xx];show g<=g0+1;omega
     |_=>cases o6
    |sm m t=>trivial
    |obj k C t=>trivial
    |arr m ty t=>
     cases x with
     |arr m' Ww t'=>obtain⟨eg,eq,_⟩:=r4;subst eq;exact WH
     |_=>cases o6
    |arb ty t=>
     cases x with
     |arb Ww t'=>obtain⟨eg,eq,_⟩:=r4;subst eq;exact WH
     |_=>cases o6
   ·rw[(hγn j hj YD).2.1 g] at hh;cases hh)
  (λb X hX=>by
   obtain⟨j,xo,hx,q1,q2,YD⟩:=XT b X hX;subst q1;rcases Xe j YD with⟨hj,x,b0,g0,q,r1,r2,r3,r4,Xx⟩|hj
   ·rw[Xx];exact⟨q,r3,(fM r4).2.2⟩
   ·exact(hγn j hj YD).2.2.1)
  (λb g h hh hn ho=>by obtain⟨j,h0,q1,q2,d6⟩:=ho;obtain⟨b0,g0,g1,ZT,j5⟩:=cA q1;have hj:=hL.dom _ _ ZT;have e:=(d9.inj _ _ _ _ _ _ j5 hh q2).1;subst e;obtain⟨x,b1,g1',q,r1,r2,r3,r4⟩:=i3 j hj;rw[ZT] at r2;injection r2 with r2;injection r2 with e1 e2;subst e1;subst e2;have:=ab3 j _ (aah (by omega:j<out.length));rw[hγ _ _ _ _ r1 ZT,hn] at this;cases this)
  (λb k I l hX=>by
   obtain⟨j,xo,hx,q1,q2,YD⟩:=XT b _ hX;subst q1;rcases Xe j YD with⟨hj,x,b0,g0,q,r1,r2,r3,r4,Xx⟩|hj
   ·refine .inl ?_
    rw[Xx]
    have o6:=Xo j x xo r1 hx
    cases xo with
    |obj k' C t=>obtain⟨k0,I0,l0,e⟩:=(fM r4).2.1.1 ((jC o6).2 ⟨_,_,_,rfl⟩);exact⟨k0,I0,l0,by rw[r3,e]⟩
    |_=>cases q2
   ·exact .inr (hγn j hj YD).2.1)
  (λb X hX=>by
   obtain⟨j,xo,hx,q1,q2,hj⟩:=XT b X hX
   subst q2
   cases xo with
   |cells ty c=>exact .inl ⟨_,_,_,rfl⟩
   |grow m ty t=>exact .inr (.inl ⟨_,_,_,rfl⟩)
   |growb ty t=>exact .inr (.inl ⟨_,_,_,rfl⟩)
   |sm m t=>exact .inr (.inr (.inl ⟨_,_,rfl⟩))
   |arr m ty t=>exact .inr (.inl ⟨_,_,_,rfl⟩)
   |arb ty t=>exact .inr (.inl ⟨_,_,_,rfl⟩)
   |obj k C t=>exact .inr (.inr (.inr ⟨_,_,_,rfl⟩)))
 exact⟨ρ2,m1,m2,λx a v h hv=>(TvA.vr WT h hv).into m3 m4 (λb x hx=>by rw[m5];exact hx),λx a v h hv=>(TvR.vr WT h hv).into m3 m4 (λb x hx=>by rw[m5];exact hx)⟩
def jh(P:Program)(f:Nat)(S:FSpec)(zf:(z:Sy)->{y:Sy // S.pre z->S.post z y}):Prop:=
 ∀z,S.pre z->∀(w:World) (ρ:Rho) (vs:List Value),Good w ρ (S.heap z) w->LR ρ (S.argsA z) vs->
  (∀args:Array Value,(callFunc f args).run P w= .ok (.enter f args) w)/\CallsIn Fence.wide 0 P f vs.toArray w λe w'=>∃v ρ' H' a s,e= .returned v/\Good w ρ' H' w'/\ρ.le ρ'/\VR ρ' a v/\
   db S.blk.length H' (S.res z) (S.out z) a=some s/\s.pr/\(zf z).1=aK s.tm
def B1{blk:List BSh}{s1 s2:PS}{H:T ABlk}(hG:Good w0 ρ H w)(R':kn blk s1.ln s1=some s2)(hp:s2.pr)(s8:up ρ blk H s1 blk 0)(d4:blk.length<=64)(Xj:ko blk.length s2.loc=true):Lent w0 ρ H w s2.L blk (aK s2.tm):=by
 obtain⟨f1,f2,f3,f4,_⟩:=dT R';have Xt:=jB R' hp;refine⟨hG,λj x hx=>?_,λj p h=>sx Xj _ (cU h),λj j' b g g' h1 h2=>?_,d4⟩
 ·obtain⟨b,g,q1,q,q2,q3⟩:=s8 j x hx;rw[aam] at q1;exact⟨b,g,f1.loc _ _ q1,q,q2,q3 ρ (.refl _) s2 f1 hp Xt⟩
 ·have:=sy Xj _ (cU h1) _ (cU h2) rfl;exact congrArg Prod.fst this
def B2{blk:List BSh}{s:PS}{j b g:Nat}{x:BSh}(hx:blk[j]? =some x)(hL:s.L j=some (b,g)):nM blk (mQ s) j=(b,BW x g):=by
 have e:mQ s j=(b,g):=by unfold mQ;rw[show bm j s.loc=some (b,g) from hL]
 unfold nM;rw[hx,e]
def LL{k:List Nat->Tr}:∀{l:List BSh} {σ:St},SI σ->Good w0 ρ σ.h w->run (LJ l k) σ K=true->
 ∃bs a8,run (k bs) a8 K=true/\SI a8/\Good w0 ρ a8.h w/\bs.length=l.length/\(∀b X,σ.h.get b=some X->a8.h.get b=some X)/\(∀b∈bs,σ.h.get b=none/\∃X,a8.h.get b=some X/\¬tz X)/\bs.Nodup:=by
 intro l
 induction l generalizing k with
 |nil=>intro σ hS hG h;exact⟨[],σ,h,hS,hG,rfl,λ_ _ h=>h,(λb hb=>by cases hb),List.nodup_nil⟩
 |cons x l ih=>
  intro σ hS hG h
  have h:run (.new (.grow (.bytes []) 0 0) λb=>LJ l λbs=>k (b::bs)) σ K=true:=h
  obtain⟨n,c7,hn,d4,e1,b6,h1⟩:=cZ hS h
  have b9:Good w0 ρ c7.h w:=by rw[e1];exact hG.none_new hn d4 rfl
  obtain⟨bs,d5,q1,q2,q3,q4,q5,q6,q7⟩:=ih (k:=λbs=>k (n::bs)) b6 b9 h1
  have Yp:c7.h.get n=some (.grow (.bytes []) 0 0):=by rw[e1];exact T.get_set_same _ _ _ d4
  refine⟨n::bs,d5,q1,q2,q3,by simp [q4],λb X hX=>q5 b X ?_,λb hb=>?_,List.nodup_cons.2 ⟨λhm=>?_,q7⟩⟩
  ·rw[e1,T.get_set_ne _ (λe=>by subst e;rw[hn] at hX;cases hX)];exact hX
  ·rcases List.mem_cons.1 hb with e|hb
   ·subst e;exact⟨hn,_,q5 _ _ Yp,λh=>h⟩
   ·obtain⟨r1,r2⟩:=q6 b hb;refine⟨?_,r2⟩;have j0:b≠n:=λe=>by subst e;rw[Yp] at r1;cases r1
    rw[e1,T.get_set_ne _ j0] at r1;exact r1
  ·have:=(q6 n hm).1;rw[Yp] at this;cases this
def Lent.more{H':T ABlk}{L:Nat->Option (Nat×Nat)}{blk:List BSh}{z:Sy}{H:T ABlk}(hL:Lent w0 ρ H w L blk z)(hG:Good w0 ρ H' w)(h:∀b X,H.get b=some X->H'.get b=some X):Lent w0 ρ H' w L blk z:=
 ⟨hG,λj x hx=>by obtain⟨b,g,q1,q,q2,q3⟩:=hL.hb j x hx;exact⟨b,g,q1,q,h _ _ q2,q3⟩,hL.dom,hL.inj,hL.n64⟩
def LM{n:Nat}{γ:jO}{bs:List Nat}{j:Nat}(h:j<n):rq n γ bs j=γ j:=by unfold rq;rw[ak,if_pos (Nat.ble_eq.mpr h)]
def LN{n:Nat}{γ:jO}{bs:List Nat}{j:Nat}(h:n<=j):rq n γ bs j=(bs.getD (j-n) 0,0):=by unfold rq;rw[ak,if_neg (λe=>by have:=aau e;omega)]
def PG{f:Nat}{S:FSpec}{zf:(z:Sy)->{y:Sy // S.pre z->S.post z y}}(hC:jh P f S zf)(w0:World)(l:List AV):PB P w0 f l (PD S zf l):=by
 intro vs k σ0 K ρ w R ZO YS hl h0 hR;obtain⟨σ,eh,hS,h,Yg⟩:=ut ZO YS h0;have hG:Good w0 ρ σ.h w:=by rw[eh];exact YS
 clear h0 YS ZO;obtain⟨l',c7,J',z1,b6,b9,o8,hlen,Zr⟩:=gC hS hG hl h;obtain⟨s0,WZ,z2⟩:=br z1;obtain⟨s1,d5,ρ2,z3,d8,d9,i5,ac8,_,s8⟩:=xl b6 b9 z2;obtain⟨s2,Xh,z4⟩:=br z3;obtain⟨Zb,z5⟩:=aj z4;obtain⟨⟨Zc,WK⟩,z6⟩:=aJ z5;clear h z1 z2 z3 z4 z5;obtain⟨ac9,hc2⟩:=az Zb;obtain⟨hcK,hcL⟩:=az hc2;have ac9:=aU ac9;obtain⟨p1,p2⟩:=eU (blk:=S.blk) WZ;obtain⟨f1,f2,f3,f4,_⟩:=dT Xh;have Xt:=jB Xh Zc;have l6:LR ρ2 l' vs:=(Zr (by rw[←hlen];exact kP WZ)).mono i5;have i7:=p2 s2 (ac8.trans f1) Zc Xt;rw[jg] at i7;have hL0:=B1 d9 Xh Zc s8 ac9 hcL;obtain⟨z,hz⟩:∃z,z=aK s2.tm:=⟨_,rfl⟩
 rw[←hz] at WK z6 i7 hL0 hcK;have z6:run (LJ ((S.out z).drop S.blk.length) λbs=>PC (rq S.blk.length (nM S.blk (mQ s2)) bs) (zf z).1 (S.out z) 0 (k (Ai (rq S.blk.length (nM S.blk (mQ s2)) bs) (zf z).1 (S.res z)))) d5 K=true:=z6;obtain⟨bs,σn,z7,hSn,hGn,XD,hbk,WX,hbd⟩:=LL d8 d9 z6;have hL:=hL0.more hGn hbk;have hLb:=TvAs.lr (vl:=ρ.val) hL.mv i7 l6;obtain⟨hcf,Yh⟩:=hC z WK w _ vs ((hL.to (vl:=ρ.val)).addTab ((Yg.mono (o8.trans i5).frz).mono λb x h=>dj h)) hLb;refine⟨hcf,Yh.mono λe w' he=>?_⟩;obtain⟨v,ρ',H',a,s,rfl,g9,Xi,ZZ,R',ac_,hzf⟩:=he;obtain⟨WO,z8,WP,e3,d4⟩:=HN hSn z7;obtain⟨t1,t2,t3⟩:=pN (ρ:=ρ') R' ac_;rw[←hzf] at t1 t2;obtain⟨hkl,_⟩:=xn hcK;have hdl:bs.length=(S.out z).length-S.blk.length:=by rw[XD,aat]
 have Xy:∀j,S.blk.length<=j->j<(S.out z).length->∃b,bs[j-S.blk.length]? =some b/\(rq S.blk.length (nM S.blk (mQ s2)) bs j)=(b,0):=λj h1 h2=>by
  have c8:j-S.blk.length<bs.length:=by omega
  refine⟨bs[j-S.blk.length],aah c8, ?_⟩;rw[LN h1,aai,aah c8];rfl
 obtain⟨ρ3,m1,m2,_,m3⟩:=Oh (F:=kU s H') (γ:=rq S.blk.length (nM S.blk (mQ s2)) bs) hL hcK (λj x b g hx hl=>by
  have hj:j<S.blk.length:=by
   rcases aaf j S.blk.length with h'|h'
   ·exact h'
   ·rw[aak h'] at hx;cases hx
  rw[LM hj];exact B2 hx hl)
  (λj h1 h2=>by
   obtain⟨b,r1,r2⟩:=Xy j h1 h2;rw[r2];have hm:=Zv r1;obtain⟨u1,u2⟩:=WX b hm;refine⟨rfl,λg=>d9.none_at u1 g,u2,λi b' g' ZT e=>?_,λi h3 h4 e=>?_⟩
   ·obtain⟨b2,g2,q1,q,q2,_⟩:=hL0.hb i _ (aah (hL0.dom _ _ ZT));rw[ZT] at q1;injection q1 with q1;injection q1 with q1 _;subst q1;subst e;rw[u1] at q2;cases q2
   ·obtain⟨b3,r3,r4⟩:=Xy i h3 h4;rw[r4] at e;have e:b3=b:=e;subst e;have hi1:i-S.blk.length<bs.length:=by omega
    have X7:j-S.blk.length<bs.length:=by omega
    rw[aah hi1] at r3;rw[aah X7] at r1;injection r3 with r3;injection r1 with r1;have:=(List.getElem_inj (h₀:=hi1) (h₁:=X7) hbd).1 (r3.trans r1.symm);omega)
  (λi hi=>by have:=d4 i hi;rwa [aam] at this) g9 (FinRel.of_le Xi hL.ownOk (frzE _ _ _ _ _ _ _).symm) (λb x hF=>⟨(gD hF).1,t3.t5 b (gD hF).2⟩) t2 (λj b g h=>t3.t3 j b g h) t3.t4
 exact hR _ v WO ρ3 w' z8 WP (by rw[e3];exact m1) ((o8.trans i5).trans m2) (m3 _ _ _ t1 ZZ)
def B3{blk:List BSh}{r:Sr}{a:AV}{v:Value}{k:AV->Tr}(hS:SI σ)(hG:Good w0 ρ σ.h w)(hv:VR ρ a v)(h:run (Am blk r a k) σ K=true):
 ∃a' a8 ρ',run (k a') a8 K=true/\SI a8/\Good w0 ρ' a8.h w/\ρ.le ρ'/\VR ρ' a' v:=by
 cases r with
 |one x=>
  have hl:LR ρ [a] [v]:=LR.cons hv (LR.nil _)
  obtain⟨m6,a8,ρ',h1,h2,h3,h4,h5,h6⟩:=gC (loc:=[]) (blk:=blk) (l:=[LI x]) (k:=λas=>match as with | [a]=>k a|_=>.fail) hS hG hl h
  have h6:=h6 rfl
  match m6,h5,h6,h1 with
  | [a'],_,h6,h1=>
   obtain⟨u,us,e,hu,_⟩:=h6.cons_inv
   injection e with e _
   subst e
   exact⟨a',a8,ρ',h1,h2,h3,h4,hu⟩
 |tu l=>
  unfold Am at h
  simp only at h
  split at h
  ·rename_i as;rcases bf h with⟨hl,h⟩|⟨_,h⟩
   ·have hl:=aF hl
    cases hv with
    |tup _ cs e1 e2=>obtain⟨m6,a8,ρ',h1,h2,h3,h4,h5,h6⟩:=gC hS hG (LR.of_arr e1 e2) h;obtain⟨r1,r2⟩:=(h6 hl).arr;exact⟨_,a8,ρ',h1,h2,h3,h4,.tup _ cs r1 r2⟩
   ·exact⟨_,σ,ρ,h,hS,hG,.refl _,hv⟩
  ·exact⟨_,σ,ρ,h,hS,hG,.refl _,hv⟩
def LO{M:Tab}(hM:TabOk P M){n f:Nat}{S:FSpec}(h:∀z,S.pre z->∃hn,(S.callFm P M n f z hn).den):∃zf:(z:Sy)->{y:Sy // S.pre z->S.post z y},jh P f S zf:=by
 have key:∀z,∃y:{y:Sy // S.pre z->S.post z y},S.pre z->∃a σf s,(∀K,run (iR P (oV P M n) f (S.argsA z) λa=>Am (S.out z) (S.res z) a .ret) (start (S.heap z) (base+64)) K=K a σf)/\db S.blk.length σf.h (S.res z) (S.out z) a=some s/\s.pr/\y.1=aK s.tm:=λz=>by
  by_cases hz:S.pre z
  ·obtain⟨hn,hd⟩:=h z hz;obtain⟨a,σf,e,Xc,hl⟩:=HD _ _ _ _ hd;unfold Of at hl;split at hl
   ·rename_i s hs;exact⟨⟨aK s.tm,λ_=>hl.2 hl.1⟩,λ_=>⟨a,σf,s,e,hs,hl.1,rfl⟩⟩
   ·exact hl.elim
  ·exact⟨⟨⟨λ_=>0,λ_=>[],λ_=>False,λ_=>[]⟩,λh=>absurd h hz⟩,λh=>absurd h hz⟩
 refine⟨λz=>Classical.choose (key z),λz hz w ρ vs hG hl=>?_⟩;obtain⟨a,σf,s,e,hs,hp,hy⟩:=aby (key z) hz;refine fk (lI P hM w n).1 f (S.argsA z) vs (λa=>Am (S.out z) (S.res z) a .ret) (start (S.heap z) (base+64)) (λa' s'=>dP (a'=a/\s'=σf)) ρ w _ (iZ (by decide) (by decide)) hG hl (by rw[e];exact fX.2 ⟨rfl,rfl⟩) λav v a8 ρ' w' q1 q2 q3 q4 q5=>?_;obtain⟨a',d5,ρ2,q1,q2,q3,q4',q5⟩:=B3 q2 q3 q5 q1;obtain⟨e1,e2⟩:=fX.1 (show dP (a'=a/\d5=σf)=true from q1);subst e1;subst e2;exact⟨v,ρ2,_,_,s,rfl,q3,q4.trans q4',q5,hs,hp,hy⟩
end
end Go.Sym
