/- Part 5. -/
import Derived.ChangeArms
import Derived.DataReads
import GoSem.ClaimJoined
import Derived.Test.YtameaobnjjcobaaGreatDoorP4
set_option linter.all false
namespace Go.Sym
open Go.RowKit (Below)
def YR{w0 w w':World}{ρ ρp:Rho}{H Hp H2:T ABlk}(hG:Good w0 ρ H w)(hP:Good0 w ρp Hp w')(hH2:∀b,H2.get b=match Hp.get b with|some X=>some X|none=>H.get b)(d4:∀x,ρp.own x->Own ρ w0.heap.size x)(ad9:ρp.val=ρ.val)(ak0:∀b x,ρ.frz b=some x->ρp.frz b=some x)(hf0:ρp.frz0=ρ.frz)(hq:∀b g h,ρp.at_ b g=some h->ρ.at_ b g=some h∨(ρ.at_ b g=none/\∀b' g' h',ρ.at_ b' g'=some h'->h'.blk=h.blk->b'=b/\h'=h))(R':∀b g h X,ρ.at_ b g=some h->Hp.get b=some X->JH g X)(hex:∀b X,Hp.get b=some X->∃X0,H.get b=some X0/\¬yu X0)(aq4:∀b g h,ρ.at_ b g=some h->Hp.get b=none->¬ρp.own h.blk)(L':∀b k I l,Hp.get b=some (.obj k I l)->(∃k I l,H.get b=some (.obj k I l))∨∀g,ρ.at_ b g=none)(ag_:∀b X,Hp.get b=some X->(∃c n ty,X= .cells c 0 0 n 0 0 false ty)∨(∃c g ty,X= .grow c g ty)∨(∃m l,X= .smap m l)∨∃k I l,X= .obj k I l):
 ∃ρ2:Rho,Good w0 ρ2 H2 w'/\ρ.le ρ2/\(∀b g h,ρp.at_ b g=some h->ρ2.at_ b g=some h)/\ρ2.val=ρp.val/\ρ2.frz=ρp.frz:=by
 let ρ2:Rho:=⟨λb g=>match ρ.at_ b g with|some h=>some h|none=>ρp.at_ b g,ρp.val,ρ.own,ρp.frz,ρ.frz0⟩
 have h21:∀b g h,ρ.at_ b g=some h->ρ2.at_ b g=some h:=λb g h hh=>by show(match ρ.at_ b g with|some h=>some h|none=>ρp.at_ b g)=some h;rw[hh]
 have h22:∀b g h,ρp.at_ b g=some h->ρ2.at_ b g=some h:=λb g h hh=>by
  show(match ρ.at_ b g with|some h=>some h|none=>ρp.at_ b g)=some h;rcases hq b g h hh with h'|⟨h',_⟩
  ·rw[h']
  ·rw[h'];exact hh
 have h23:∀b g h,ρ2.at_ b g=some h->ρ.at_ b g=some h∨(ρ.at_ b g=none/\ρp.at_ b g=some h):=λb g h hh=>by
  have hh:(match ρ.at_ b g with|some h=>some h|none=>ρp.at_ b g)=some h:=hh
  cases hr:ρ.at_ b g with
  |some h'=>rw[hr] at hh;exact .inl hh
  |none=>rw[hr] at hh;exact .inr ⟨rfl,hh⟩
 have hle:ρ.le ρ2:=⟨h21,ad9,rfl,ak0,rfl⟩
 have hvp:∀a v,VR ρp a v->VR ρ2 a v:=λa v h=>h.into h22 rfl λ_ _ h=>h
 have p8:=hG.below.size
 have aq5:=hP.below.size
 have g9:∀b g h,ρp.at_ b g=some h->ρ.at_ b g=none->∀b' g' h',ρ.at_ b' g'=some h'->h'.blk=h.blk->b'=b/\h'=h:=λb g h hh hn=>by
  rcases hq b g h hh with h'|⟨_,h'⟩
  ·rw[hn] at h';cases h'
  ·exact h'
 have ae4:∀x,Own ρp w.heap.size x->Own ρ2 w0.heap.size x:=λx hx=>by
  rcases hx with hx|hx
  ·exact .inl (by omega)
  ·exact d4 x hx
 refine⟨ρ2,⟨⟨?_,λb X hX=>?_,λb g h hh=>?_,λb g h b' g' h' q1 q2 e=>?_,λb g h X hh hX=>?_,λb arr ty hf=>?_,λb x hf c8=>?_,λb k I l hX g h hh=>?_⟩,λx hx=>by obtain⟨b,g,h,q1,q2,q3⟩:=hG.ownB x hx;exact⟨b,g,h,q1,h21 _ _ _ q2,q3⟩⟩,hle,h22,rfl,rfl⟩
 ·refine hG.below.trans ⟨hP.below.os,hP.below.tape,hP.below.output,aq5,λx hx ho=>hP.below.block x (by omega) λhpo=>?_⟩;rcases d4 x hpo with h|h
  ·omega
  ·exact ho h
 ·rw[hH2] at hX
  cases hp:Hp.get b with
  |some X'=>
   rw[hp] at hX;injection hX with hX;subst hX;have hB:=hP.blk _ _ hp;rcases ag_ _ _ hp with⟨c,n,ty,e⟩|⟨c,g,ty,e⟩|⟨m,l,e⟩|⟨k,I,l,e⟩
   ·subst e;refine⟨hB.1,λg hg=>?_⟩;obtain⟨hm,r1,r2,r3,arr,fr,r4,r5,r6,r7⟩:=hB.2 g hg;refine⟨hm,h22 _ _ _ r1,λh=>ae4 _ (r2 h),r3,arr,fr,r4,r5,r6,λo tag a ho ht=>?_⟩;obtain⟨s1,u,s2,s3⟩:=r7 o tag a ho ht;exact⟨s1,u,s2,hvp _ _ s3⟩
   ·subst e;rcases hB with h0|⟨hm,r1,r2,r3,arr,fr,r4,r5,r6,r7,r8⟩
    ·exact .inl h0
    ·refine .inr ⟨hm,h22 _ _ _ r1,r2,ae4 _ r3,arr,fr,r4,r5,r6,r7,λi hi j a ha=>?_⟩;obtain⟨u,u1,u2⟩:=r8 i hi j a ha;exact⟨u,u1,hvp _ _ u2⟩
   ·subst e;obtain⟨hm,r1,r2,es,clock,r3,r4,r5⟩:=hB;refine⟨hm,h22 _ _ _ r1,ae4 _ r2,es,clock,r3,r4,λi g e hi he=>?_⟩;obtain⟨s1,s2⟩:=r5 i g e hi he;exact⟨hvp _ _ s1,hvp _ _ s2⟩
   ·subst e;obtain⟨hl,hm,fp,r1,r2,r3,r4⟩:=hB;refine⟨hl,hm,fp,h22 _ _ _ r1,r2,λx hx=>?_,r4⟩;obtain⟨s1,g,w9,s2,s3⟩:=r3 x hx;exact⟨ae4 _ s1,g,w9,h22 _ _ _ s2,s3⟩
  |none=>rw[hp] at hX;exact(hG.blk _ _ hX).keep hle λg h hh=>hP.below.block _ (hG.dom _ _ _ hh).1 (aq4 b g h hh hp)
 ·rcases h23 b g h hh with hh|⟨hn,hh⟩
  ·obtain⟨q1,X,q2⟩:=hG.dom _ _ _ hh
   refine⟨by omega, ?_⟩
   rw[hH2]
   cases hp:Hp.get b with
   |some X'=>exact⟨_,rfl⟩
   |none=>exact⟨X,q2⟩
  ·obtain⟨q1,X,q2⟩:=hP.dom _ _ _ hh;exact⟨q1,X,by rw[hH2,q2]⟩
 ·rcases h23 b g h q1 with q1|⟨hn1,q1⟩ <;> rcases h23 b' g' h' q2 with q2|⟨hn2,q2⟩
  ·exact hG.inj _ _ _ _ _ _ q1 q2 e
  ·exact g9 _ _ _ q2 hn2 _ _ _ q1 e
  ·obtain⟨r1,r2⟩:=g9 _ _ _ q1 hn1 _ _ _ q2 e.symm;exact⟨r1.symm,r2.symm⟩
  ·exact hP.inj _ _ _ _ _ _ q1 q2 e
 ·rw[hH2] at hX
  cases hp:Hp.get b with
  |some X'=>
   rw[hp] at hX;injection hX with hX;subst hX;rcases h23 b g h hh with hh|⟨hn,hh⟩
   ·exact R' _ _ _ _ hh hp
   ·exact hP.gens _ _ _ _ hh hp
  |none=>
   rw[hp] at hX;rcases h23 b g h hh with hh|⟨hn,hh⟩
   ·exact hG.gens _ _ _ _ hh hX
   ·obtain⟨_,X2,q2⟩:=hP.dom _ _ _ hh;rw[hp] at q2;cases q2
 ·have hf:ρp.frz b=some (arr,ty):=hf;obtain⟨q1,q2⟩:=hP.frz _ _ _ hf;have hnp:∀b' X,Hp.get b'=some X->¬yu X:=λb' X hX hz=>by rcases ag_ _ _ hX with⟨c,n,ty,e⟩|⟨c,g,ty,e⟩|⟨m,l,e⟩|⟨k,I,l,e⟩ <;> (subst e;exact hz)
  refine⟨q1,λb' g h hh e=>?_⟩;rcases h23 b' g h hh with hh|⟨hn,hh⟩
  ·have c8:=(hG.dom _ _ _ hh).1
   have h1:=hP.frzB b _ hf (by omega)
   rw[hf0] at h1
   obtain⟨X,y1,y2⟩:=(hG.frz _ _ _ h1).2 _ _ _ hh e
   refine⟨X, ?_,y2⟩
   rw[hH2]
   cases hp:Hp.get b' with
   |none=>exact y1
   |some X'=>obtain⟨X0,z1,z2⟩:=hex _ _ hp;rw[y1] at z1;injection z1 with z1;subst z1;exact absurd y2 z2
  ·obtain⟨X,y1,y2⟩:=q2 _ _ _ hh e;exact absurd y2 (hnp _ _ y1)
 ·have hf:ρp.frz b=some x:=hf;have h1:=hP.frzB b x hf (by omega);rw[hf0] at h1;exact hG.frzB _ _ h1 c8
 ·rw[hH2] at hX
  cases hp:Hp.get b with
  |some X'=>
   rw[hp] at hX;injection hX with hX;subst hX;rcases h23 b g h hh with hh|⟨hn,hh⟩
   ·rcases L' _ _ _ _ hp with⟨_,_,_,q⟩|q
    ·exact hG.objO _ _ _ _ q _ _ hh
    ·rw[q] at hh;cases hh
   ·exact⟨ae4 _ (hP.objO _ _ _ _ hp _ _ hh).1,(hP.objO _ _ _ _ hp _ _ hh).2⟩
  |none=>
   rw[hp] at hX;rcases h23 b g h hh with hh|⟨hn,hh⟩
   ·exact hG.objO _ _ _ _ hX _ _ hh
   ·obtain⟨_,X2,q2⟩:=hP.dom _ _ _ hh;rw[hp] at q2;cases q2
section
variable{P:Program}{w0:World}{ρ:Rho}{w:World}{σ:St}{K:Fin}
def dS{α:Type}{j:Nat}{p:α}:∀{loc:List (Nat×α)},bD j loc=some p->(j,p)∈loc:=by
 intro loc
 induction loc with
 |nil=>intro h;cases h
 |cons z l ih=>
  intro h;rw[cZ] at h;split at h
  ·rename_i e;injection h with h;have:z=(j,p):=by rw[←e, ←h]
   rw[this];exact aaB
  ·exact aay _ (ih h)
def zI(K:Fin)(w0:World)(ρ:Rho)(w:World)(σ:St)(loc:List (Nat×Nat×Nat))(a:AV)(k:AV->Tr):Prop:=
 ∃a' a8 ρ',run (k a') a8 K=true/\SI a8/\Good w0 ρ' a8.h w/\ρ.le ρ'/\Stays loc σ.h a8.h/\∀ρ2,ρ'.le ρ2->∀v,VR ρ2 a v->VR ρ2 a' v
def wI{loc:List (Nat×Nat×Nat)}{a:AV}{k:AV->Tr}(hS:SI σ)(hG:Good w0 ρ σ.h w)(h:run (Cv loc a k) σ K=true):zI K w0 ρ w σ loc a k:=by
 have same:run (k a) σ K=true->zI K w0 ρ w σ loc a k:=λh=>⟨a,σ,ρ,h,hS,hG,.refl _,.refl _ _,λ_ _ _ h=>h⟩
 unfold Cv at h
 cases a with
 |gsl b g n es=>
  have c7:=cX hS h
  replace h:=bG hS h;obtain⟨q,b6,hq,e1,a9,h⟩:=h
  have b7:Good w0 ρ b6.h w:=by rw[e1];exact hG
  have n6:b6.h.get b=some q:=by rw[e1];exact hq
  cases q with
  |grow c gen ty=>replace h:=ay h;obtain⟨k1,h⟩:=h;replace h:=ay h;obtain⟨k2,h⟩:=h;replace h:=ay h;obtain⟨k3,h⟩:=h;replace h:=aQ h;obtain⟨k4,h⟩:=h;replace h:=fo a9 h;obtain⟨x0,c9,hx0,e2,d6,_,h⟩:=h;have k1:=aN k1;have k2:=aN k2;obtain⟨k3a,k3b⟩:=aC k3;have k3a:=bV k3a;subst k1;subst k2;subst k4;obtain⟨ρ',f1,f2,f3⟩:=b7.freeze n6 c7 k3a;refine⟨_,c9,ρ',h,d6,by rw[e2];exact f2,f1,λb' X hf hX=>?_,f3⟩;obtain⟨x,C',t8⟩:=hf;rw[e2,T.get_set_ne _ (λe=>by subst e;rw[iE C' t8] at k3b;cases k3b),e1];exact hX
  |froz c gen=>replace h:=ay h;obtain⟨k1,h⟩:=h;replace h:=ay h;obtain⟨k2,h⟩:=h;replace h:=aQ h;obtain⟨k4,h⟩:=h;have k1:=aN k1;have k2:=aN k2;subst k1;subst k2;subst k4;exact⟨_,b6,ρ,h,a9,b7,.refl _,λb' X _ hX=>by rw[e1];exact hX,λρ2 d8 v hv=>ji ((b7.blk _ _ n6).keep (w':=w) d8 λ_ _ _=>rfl) hv⟩
  |_=>exact(ah h).elim
 |_=>exact same h
def zJ{loc:List (Nat×Nat×Nat)}{blk:List BSh}{x:Sh}{a:AV}{k:AV->Tr}(hS:SI σ)(hG:Good w0 ρ σ.h w)(h:run (uB loc blk x a k) σ K=true):zI K w0 ρ w σ loc a k:=by
 have same:run (k a) σ K=true->zI K w0 ρ w σ loc a k:=λh=>⟨a,σ,ρ,h,hS,hG,.refl _,.refl _ _,λ_ _ _ h=>h⟩
 have fresh:∀(ct:Ct) (ty es:Nat),ct.len=0->a= .nils->run (.new (.grow ct 0 ty) λb=>k (.gsl b 0 0 es)) σ K=true->zI K w0 ρ w σ loc a k:=by
  intro ct ty es h0 ea h;obtain⟨n,a8,hn,c7,e,l6,h⟩:=gi hS h;refine⟨_,a8,ρ,h,l6,by rw[e];exact hG.none_new hn c7 h0,.refl _,λb X _ hX=>?_,λρ2 _ v hv=>?_⟩
  ·rw[e,T.get_set_ne _ (λe'=>by subst e';rw[hn] at hX;cases hX)];exact hX
  ·subst ea;cases hv;exact .gnil _ _ _
 have rowsMT:∀{m len:Nat} (tyf:Nat->Nat),∀(ty0:Nat) (as:List AV) (kk:Ct->Nat->Tr) (a8:St),run (dr (dV (cP m) len as) .fail λq=>(match q with|(gs,[])=>kk (.rows m gs) (tyf ty0)|_=>.fail)) a8 K=true->
  ∃ct ty,run (kk ct ty) a8 K=true/\(as.length=ct.len * ct.es->∀i,i<ct.len->∀(ρ:Rho) (vs:List Value),LR ρ ((as.drop (i * ct.es)).take ct.es) vs->LR ρ (ct.row i) vs):=by
  intro m len tyf ty0 as kk a8 h
  replace h:=cb h;obtain⟨q,hq,h⟩:=h
  split at h
  ·rename_i gs;obtain⟨c1,f1,f2,f3,f4⟩:=gN _ _ _ _ hq;have f1:as=c1:=by simpa using f1
   subst f1;exact⟨_,_,h,λhlen i hi ρ vs=>f4 i (by rw[←f3];exact hi) ρ vs⟩
  ·exact(ah h).elim
 have rowsBT:∀(tyf:Nat->Nat),∀(ty0:Nat) (as:List AV) (kk:Ct->Nat->Tr) (a8:St),run (dr (gf as) .fail λns=>.req (br ns) (kk (.bytes (aH ns)) (tyf ty0))) a8 K=true->
  ∃ct ty,run (kk ct ty) a8 K=true/\(as.length=ct.len * ct.es->∀i,i<ct.len->∀(ρ:Rho) (vs:List Value),LR ρ ((as.drop (i * ct.es)).take ct.es) vs->LR ρ (ct.row i) vs):=by
  intro tyf ty0 as kk a8 h
  replace h:=cb h;obtain⟨ns,hq,h⟩:=h
  replace h:=aQ h;obtain⟨hnn,h⟩:=h
  obtain⟨f1,f2⟩:=mW _ _ hq
  refine⟨_,_,h,λhlen i hi ρ vs o6=>?_⟩
  have hal:as.length=(aH ns).length:=by rw[bS,f1]
  have hi:i<(aH ns).length:=hi
  have hia:i<as.length:=by omega
  have hd:(as.drop (i * 1)).take 1= [as[i]]:=by rw[aaU,abf hia];rfl
  have o6:LR ρ ((as.drop (i * 1)).take 1) vs:=o6
  rw[hd] at o6
  refine o6.one λv hv=>?_
  obtain⟨n',q1,q2⟩:=f2 i as[i] (aaw hia)
  obtain⟨q3,q4⟩:=jh _ _ _ hnn q1
  rw[bp hv q2,aas,q3]
  show VR ρ (.sI .u8 ((n'.toNat:Nat):Int)) _
  rw[show((n'.toNat:Nat):Int)=n' by omega]
  exact .sI _ _
 have andthen:∀(b g o len es:Nat) (cap:Option Nat),a= .slc b g o len cap es->(∃a8,run (Cv loc (.gsl b g len es) k) a8 K=true/\SI a8/\Good w0 ρ a8.h w/\Stays loc σ.h a8.h/\∀ρ2,ρ.le ρ2->∀v,VR ρ2 (.slc b g o len cap es) v->VR ρ2 (.gsl b g len es) v)->zI K w0 ρ w σ loc a k:=by intro b g o len es cap ea ⟨a8,h1,h2,h3,h4,h5⟩;obtain⟨a',c9,ρ',q1,q2,q3,q4,q5,q6⟩:=wI h2 h3 h1;subst ea;exact⟨a',c9,ρ',q1,q2,q3,q4,h4.trans q5,λρ2 d8 v hv=>q6 ρ2 d8 v (h5 ρ2 (q4.trans d8) v hv)⟩
 have fv:∀m,run (Qs loc m a k) σ K=true->zI K w0 ρ w σ loc a k:=by
  intro m z
  unfold Qs at z
  cases a with
  |slc b g o len cap es=>replace z:=ay z;obtain⟨he,z⟩:=z;exact andthen b g o len es cap rfl (d_ hS hG (rowsMT λty=>ty) z)
  |_=>exact wI hS hG z
 have fb:run (frzB loc a k) σ K=true->zI K w0 ρ w σ loc a k:=by
  intro z
  unfold frzB at z
  cases a with
  |slc b g o len cap es=>replace z:=ay z;obtain⟨he,z⟩:=z;have he:=aN he;subst he;exact andthen b g o len 1 cap rfl (d_ hS hG (rowsBT λty=>ty) z)
  |_=>exact wI hS hG z
 unfold uB at h
 cases x with
 |g j es t=>
  simp only at h;split at h
  ·split at h
   ·exact fresh _ _ _ rfl rfl h
   ·exact(ah h).elim
  ·rename_i b g o len cap o7;split at h
   ·rename_i m ty t' _;replace h:=ay h;obtain⟨e,h⟩:=h;have e:=aN e;subst e;obtain⟨a8,h1,h2,h3,h4,h5⟩:=d_ hS hG (rowsMT λ_=>ty) h;exact⟨_,a8,ρ,h1,h2,h3,.refl _,h4,h5⟩
   ·exact(ah h).elim
  ·exact same h
 |gb j t=>
  simp only at h;split at h
  ·split at h
   ·exact fresh _ _ _ rfl rfl h
   ·exact(ah h).elim
  ·rename_i b g o len cap o7;split at h
   ·rename_i ty t' _;replace h:=ay h;obtain⟨e,h⟩:=h;have e:=aN e;subst e;obtain⟨a8,h1,h2,h3,h4,h5⟩:=d_ hS hG (rowsBT λ_=>ty) h;exact⟨_,a8,ρ,h1,h2,h3,.refl _,h4,h5⟩
   ·exact(ah h).elim
  ·exact same h
 |p j=>
  simp only at h;split at h
  ·rename_i b g o;split at h
   ·rename_i m _ _ _
    obtain⟨q,b6,hq,e1,a9,z⟩:=bG hS h
    have b7:Good w0 ρ b6.h w:=by rw[e1];exact hG
    have st1:Stays loc σ.h b6.h:=λb' X _ hX=>by rw[e1];exact hX
    cases q with
    |cells c gen lo hi fl fh ro ty=>obtain⟨c9,z2,d6,f9,j9,_⟩:=d_ a9 b7 iF z;exact⟨_,c9,ρ,z2,d6,f9,.refl _,st1.trans j9,λ_ _ _ h=>h⟩
    |_=>exact⟨_,b6,ρ,z,a9,b7,.refl _,st1,λ_ _ _ h=>h⟩
   ·rename_i ty2 t2 _
    obtain⟨q,b6,hq,e1,a9,z⟩:=bG hS h
    have b7:Good w0 ρ b6.h w:=by rw[e1];exact hG
    have st1:Stays loc σ.h b6.h:=λb' X _ hX=>by rw[e1];exact hX
    cases q with
    |cells c gen lo hi fl fh ro ty=>obtain⟨c9,z2,d6,f9,j9,_⟩:=d_ a9 b7 kq z;exact⟨_,c9,ρ,z2,d6,f9,.refl _,st1.trans j9,λ_ _ _ h=>h⟩
    |_=>exact⟨_,b6,ρ,z,a9,b7,.refl _,st1,λ_ _ _ h=>h⟩
   ·exact same h
  ·exact same h
 |v m t=>exact fv m h
 |pv m t=>exact fv m h
 |vb t=>exact fb h
 |pvb t=>exact fb h
 |_=>exact same h
def To2(ρ:Rho):List AV->List AV->Prop:=cH λa a'=>∀ρ2,ρ.le ρ2->∀v,VR ρ2 a v->VR ρ2 a' v
def To2.lr{ρ ρ2:Rho}(hle:ρ.le ρ2):∀{as j6:List AV} {vs:List Value},To2 ρ as j6->LR ρ2 as vs->LR ρ2 j6 vs
 | [],[],vs,_,h=>h
 |a::as,a'::j6,vs,⟨h1,h2⟩,h=>by obtain⟨v,m7,rfl,hv,h'⟩:=h.cons_inv;exact LR.cons (h1 ρ2 hle v hv) (To2.lr hle h2 h')
 | [],_::_,_,h,_=>h.elim
 |_::_,[],_,h,_=>h.elim
def To2.get{ρ:Rho}:∀{as j6:List AV} {i:Nat} {a':AV},To2 ρ as j6->j6[i]? =some a'->∃a,as[i]? =some a/\∀ρ2,ρ.le ρ2->∀v,VR ρ2 a v->VR ρ2 a' v
 | [],[],i,a',_,h=>by simp at h
 |a::as,b::j6,0,a',⟨h1,h2⟩,h=>by simp at h;subst h;exact⟨a,rfl,h1⟩
 |a::as,b::j6,i+1,a',⟨h1,h2⟩,h=>by simp at h;obtain⟨x,q1,q2⟩:=To2.get h2 h;exact⟨x,by simpa using q1,q2⟩
 | [],_::_,_,_,h,_=>h.elim
 |_::_,[],_,_,h,_=>h.elim
def uG{loc:List (Nat×Nat×Nat)}{blk:List BSh}:∀{l:List Sh} {as:List AV} {k:List AV->Tr} {σ:St} {ρ:Rho},SI σ->Good w0 ρ σ.h w->run (wG loc blk l as k) σ K=true->
 ∃j6 a8 ρ',run (k j6) a8 K=true/\SI a8/\Good w0 ρ' a8.h w/\ρ.le ρ'/\Stays loc σ.h a8.h/\(as.length=l.length->To2 ρ' as j6):=by
 intro l
 induction l with
 |nil=>intro as k σ ρ hS hG h;exact⟨as,σ,ρ,h,hS,hG,.refl _,.refl _ _,λe=>by cases as with|nil=>exact trivial|cons _ _=>simp at e⟩
 |cons x l ih=>
  intro as k σ ρ hS hG h
  cases as with
  |nil=>exact⟨[],σ,ρ,h,hS,hG,.refl _,.refl _ _,λe=>by simp at e⟩
  |cons a as=>
   have h:run (uB loc blk x a λa=>wG loc blk l as λas=>k (a::as)) σ K=true:=h
   obtain⟨a',b6,x7,h1,h2,h3,h4,h5,h6⟩:=zJ hS hG h
   obtain⟨j6,c9,ρ2,q1,q2,q3,q4,q5,q6⟩:=ih h2 h3 h1
   exact⟨a'::j6,c9,ρ2,q1,q2,q3,h4.trans q4,h5.trans q5,λe=>⟨λρ3 hle=>h6 ρ3 (q4.trans hle),q6 (by simpa using e)⟩⟩
def iK{loc:List (Nat×Nat×Nat)}{blk:List BSh}:∀{l:List Sa} {as:List AV} {k:List AV->Tr} {σ:St} {vs:List Value} {ρ:Rho},SI σ->Good w0 ρ σ.h w->LR ρ as vs->run (jr loc blk l as k) σ K=true->
 ∃j6 a8 ρ',run (k j6) a8 K=true/\SI a8/\Good w0 ρ' a8.h w/\ρ.le ρ'/\j6.length=as.length/\(l.length=as.length->LR ρ' j6 vs):=by
 intro l
 induction l with
 |nil=>intro as k σ vs ρ hS hG hl h;exact⟨as,σ,ρ,h,hS,hG,.refl _,rfl,λ_=>hl⟩
 |cons x l ih=>
  intro as k σ vs ρ hS hG hl h
  cases as with
  |nil=>exact⟨[],σ,ρ,h,hS,hG,.refl _,rfl,λ_=>hl⟩
  |cons a as=>
   obtain⟨v,m7,rfl,hv,l3⟩:=hl.cons_inv
   have h:run (K7 loc blk x a λa=>jr loc blk l as λas=>k (a::as)) σ K=true:=h
   have:∃a' a8 ρ',run (jr loc blk l as λas=>k (a'::as)) a8 K=true/\SI a8/\Good w0 ρ' a8.h w/\ρ.le ρ'/\∀ρ2,ρ'.le ρ2->VR ρ2 a' v:=by
    cases x with
    |c x=>have h:run (uB loc blk x a λa=>jr loc blk l as λas=>k (a::as)) σ K=true:=h;obtain⟨a',b6,x7,h1,h2,h3,h4,_,h6⟩:=zJ hS hG h;exact⟨a',b6,x7,h1,h2,h3,h4,λρ2 hle=>h6 ρ2 hle v ((hv.mono h4).mono hle)⟩
    |ag l'=>
     unfold K7 at h;simp only at h;split at h
     ·rename_i as1 _
      obtain⟨hlen,h1⟩:=ay h
      have hlen:=aN hlen
      obtain⟨aq6,b6,x7,q1,q2,q3,q4,_,q6⟩:=uG hS hG h1
      refine⟨.agg aq6,b6,x7,q1,q2,q3,q4,λρ2 hle=>?_⟩
      cases hv with
      |agg _ cs e1 e2=>have hl2:LR ρ2 as1 cs.toList:=(LR.of_arr e1 e2).mono (q4.trans hle);obtain⟨r1,r2⟩:=(To2.lr hle (q6 hlen) hl2).arr;exact .agg _ cs r1 r2
     ·exact⟨_,σ,ρ,h,hS,hG,.refl _,λρ2 hle=>hv.mono hle⟩
    |cp l'=>exact⟨_,σ,ρ,h,hS,hG,.refl _,λρ2 hle=>hv.mono hle⟩
   obtain⟨a',b6,x7,h1,h2,h3,h4,h5⟩:=this
   obtain⟨j6,c9,ρ2,q1,q2,q3,q6,q5,q4⟩:=ih h2 h3 (l3.mono h4) h1
   exact⟨a'::j6,c9,ρ2,q1,q2,q3,h4.trans q6,by simp [q5],λe=>LR.cons (h5 ρ2 q6) (q4 (by simpa using e))⟩
def mm{F:T ABlk}{blk:List BSh}:∀{l:List Sa} {as:List AV} {s s':PS},ia F blk l as s=some s'->l.length=as.length:=by
 intro l
 induction l with
 |nil=>intro as s s' h;cases as with|nil=>rfl|cons _ _=>cases h
 |cons x l ih=>
  intro as s s' h
  cases as with
  |nil=>cases h
  |cons a as=>obtain⟨s1,_,h2⟩:=az (show bA (rK F blk x a s) (λs=>ia F blk l as s)=some s' from h);simp [ih h2]
def Ie{F:T ABlk}{blk:List BSh}:∀{l:List Sh} {as:List AV} {s s':PS},iI F blk l as s=some s'->l.length=as.length:=by
 intro l
 induction l with
 |nil=>intro as s s' h;cases as with|nil=>rfl|cons _ _=>cases h
 |cons x l ih=>
  intro as s s' h
  cases as with
  |nil=>cases h
  |cons a as=>obtain⟨s1,_,h2⟩:=az (show bA (ni F blk x a s) (λs=>iI F blk l as s)=some s' from h);simp [ih h2]
def kA(s:PS):mC s .leaf=λ_=>none:=by
 funext b;unfold mC;split
 ·simp [T.get]
 ·rfl
def wJ(ρ:Rho)(blk:List BSh)(H:T ABlk)(s':PS)(l:List BSh)(j:Nat):Prop:=
 ∀i x,l[i]? =some x->∃b g,bD (j+i) s'.loc=some (b,g)/\∃q,H.get b=some q/\∀ρ2,ρ.le ρ2->∀sF,s'.Le sF->sF.pr->rM blk sF->BT ρ2 (λ_=>none) blk sF.L (aP sF.tm) x q g
def zK{blk:List BSh}{k:PS->Tr}:∀{l:List BSh} {j:Nat} {s:PS} {σ:St} {ρ:Rho},SI σ->Good w0 ρ σ.h w->run (uC blk l j s k) σ K=true->
 ∃s' a8 ρ',run (k s') a8 K=true/\SI a8/\Good w0 ρ' a8.h w/\ρ.le ρ'/\s.Le s'/\Stays s.loc σ.h a8.h/\wJ ρ' blk a8.h s' l j:=by
 intro l
 induction l with
 |nil=>intro j s σ ρ hS hG h;exact⟨s,σ,ρ,h,hS,hG,.refl _,.refl _,.refl _ _,λi x hx=>by simp at hx⟩
 |cons x l ih=>
  intro j s σ ρ hS hG h
  have h:run (dr (bD j s.loc) .fail λbg=>.rd bg.1 λq=>YO blk x q bg.2 s λs=>uC blk l (Nat.succ j) s k) σ K=true:=h
  obtain⟨bg,hbg,h⟩:=cb h
  obtain⟨b,g⟩:=bg
  obtain⟨q,b6,hq,e1,a9,h⟩:=bG hS h
  have b7:Good w0 ρ b6.h w:=by rw[e1];exact hG
  have hqs:σ.h.get b=some q:=hq
  have fin:∀(s1:PS) (c9:St) (x7:Rho),s.Le s1->SI c9->Good w0 x7 c9.h w->ρ.le x7->Stays s.loc b6.h c9.h->(∀ρ2,x7.le ρ2->∀sF,s1.Le sF->sF.pr->rM blk sF->BT ρ2 (λ_=>none) blk sF.L (aP sF.tm) x q g)->run (uC blk l (Nat.succ j) s1 k) c9 K=true->
   ∃s' a8 ρ',run (k s') a8 K=true/\SI a8/\Good w0 ρ' a8.h w/\ρ.le ρ'/\s.Le s'/\Stays s.loc σ.h a8.h/\wJ ρ' blk a8.h s' (x::l) j:=by
   intro s1 c9 x7 hle d6 f9 hr j9 o9 h
   obtain⟨s',a8,ρ',q1,q2,q3,q0,q4,q5,q6⟩:=ih d6 f9 h
   have ao2:∀b X,(∃x,x∈s.loc/\x.2.1=b)->b6.h.get b=some X->a8.h.get b=some X:=λb X ⟨x,C',t8⟩ hX=>
    q5 b X ⟨x,hle.mem _ C',t8⟩ (j9 b X ⟨x,C',t8⟩ hX)
   refine⟨s',a8,ρ',q1,q2,q3,hr.trans q0,hle.trans q4,λb' X hf hX=>?_,λi y hy=>?_⟩
   ·exact ao2 b' X hf (by rw[e1];exact hX)
   ·cases i with
    |zero=>simp at hy;subst hy;exact⟨b,g,(hle.trans q4).loc _ _ hbg,q,ao2 b q ⟨_,dS hbg,rfl⟩ (by rw[e1];exact hqs),λρ2 d8 sF hF hp hl=>o9 ρ2 (q0.trans d8) sF (q4.trans hF) hp hl⟩
    |succ i=>obtain⟨b',g',r1,r2⟩:=q6 i y (by simpa using hy);exact⟨b',g',by rw[show j+(i+1)=Nat.succ j+i by omega];exact r1,r2⟩
  have hd:(∀ty l',x≠ .cells ty l')->run (dr (gj x q g s) .fail λs=>uC blk l (Nat.succ j) s k) b6 K=true->
   ∃s' a8 ρ',run (k s') a8 K=true/\SI a8/\Good w0 ρ' a8.h w/\ρ.le ρ'/\s.Le s'/\Stays s.loc σ.h a8.h/\wJ ρ' blk a8.h s' (x::l) j:=λ_ h=>by
   obtain⟨s1,w8,h⟩:=cb h
   have key:∀ρ2:Rho,s.Le s1/\∀sF,s1.Le sF->sF.pr->BT ρ2 (mC sF .leaf) blk sF.L (aP sF.tm) x q g:=λρ2=>eT (F:=.leaf) (blk:=blk) w8
   exact fin s1 b6 ρ (key ρ).1 a9 b7 (.refl _) (.refl _ _) (λρ2 _ sF hF hp _=>by have:=(key ρ2).2 sF hF hp;rwa [kA] at this) h
  cases x with
  |cells ty l'=>
   obtain⟨as,has,h⟩:=cb h
   obtain⟨j6,c9,x7,h1,h2,h3,h0,h4,h5⟩:=uG a9 b7 h
   obtain⟨s1,w8,h⟩:=cb h1
   obtain⟨p1,p2⟩:=nl (blk:=blk) w8
   obtain⟨eg,c,eq,hl⟩:=rO has
   obtain⟨r1,r2⟩:=rl hl
   refine fin s1 c9 x7 p1 h2 h3 h0 h4 (λρ2 d8 sF hF hp hln=>⟨eg,c,j6,eq,(Ie w8).symm,λj' a' ha'=>?_,by have:=p2 sF hF hp hln;rwa [kA] at this⟩) h
   obtain⟨a,ha,hto⟩:=(h5 r1).get ha'
   obtain⟨tag,t1,t2⟩:=r2 _ a ha
   have:tag=0:=by omega
   subst this
   exact⟨a,by rw[←t1];congr 1;omega,hto ρ2 d8⟩
  |grow m ty t=>exact hd (λ_ _ e=>by cases e) h
  |growb ty t=>exact hd (λ_ _ e=>by cases e) h
  |sm m t=>exact hd (λ_ _ e=>by cases e) h
  |arr m ty t=>exact hd (λ_ _ e=>by cases e) h
  |arb ty t=>exact hd (λ_ _ e=>by cases e) h
  |obj k C t=>exact hd (λ_ _ e=>by cases e) h
def Ld{γ:lk}{y:Sy}{k:Tr}:∀{l:List BSh} {j:Nat} {σ:St},SI σ->run (Vv γ y l j k) σ K=true->
 ∃a8,run k a8 K=true/\SI a8/\a8.h=eS γ y l j σ.h/\∀i,i<l.length->(γ (j+i)).1+1<2 ^ 64:=by
 intro l
 induction l with
 |nil=>intro j σ hS h;exact⟨σ,h,hS,rfl,λi hi=>by simp at hi⟩
 |cons x l ih=>
  intro j σ hS h
  obtain⟨x0,b6,_,e1,a9,c7,h1⟩:=fo hS (show run (.wr (γ j).1 (mh γ y j x) (Vv γ y l (Nat.succ j) k)) σ K=true from h)
  obtain⟨c9,q1,q2,q3,q4⟩:=ih a9 h1
  refine⟨c9,q1,q2,by rw[q3,e1];rfl,λi hi=>?_⟩
  cases i with
  |zero=>exact c7
  |succ i=>have:=q4 i (by simpa using hi);rwa [show Nat.succ j+i=j+(i+1) by omega] at this
def Cy{γ:lk}{y:Sy}:∀(l:List BSh) (j:Nat) (H:T ABlk) (b:Nat),(∀i,i<l.length->b≠(γ (j+i)).1)->(eS γ y l j H).get b=H.get b:=by
 intro l
 induction l with
 |nil=>intro j H b _;rfl
 |cons x l ih=>intro j H b i5;show(eS γ y l (j+1) (H.set (γ j).1 (mh γ y j x))).get b=_;rw[ih (j+1) _ b (λi hi=>by have:=i5 (i+1) (by simpa using hi);rwa [show j+(i+1)=j+1+i by omega] at this),T.get_set_ne _ (show b≠(γ j).1 from i5 0 (by simp))]
def uH{n:Nat}:∀{l:List (Nat×Nat×Nat)},lL n l=true->∀x∈l,x.1<n:=by
 intro l
 induction l with
 |nil=>intro _ x hx;cases hx
 |cons z l ih=>
  intro h x hx;obtain⟨h1,h2⟩:=aC (show ac (Nat.ble (Nat.succ z.1) n) (ac (kg z.2.1 l) (lL n l) false) false=true from h);obtain⟨h3,h4⟩:=aC h2;rcases List.mem_cons.1 hx with e|hx
  ·subst e;exact aaL h1
  ·exact ih h4 x hx
def uI{n:Nat}:∀{l:List (Nat×Nat×Nat)},lL n l=true->∀x∈l,∀z∈l,x.2.1=z.2.1->x=z:=by
 intro l
 induction l with
 |nil=>intro _ x hx;cases hx
 |cons a l ih=>
  intro h x hx z hz e;obtain⟨h1,h2⟩:=aC (show ac (Nat.ble (Nat.succ a.1) n) (ac (kg a.2.1 l) (lL n l) false) false=true from h);obtain⟨h3,h4⟩:=aC h2;replace hx:=List.mem_cons.1 hx;replace hz:=List.mem_cons.1 hz;rcases hx with e1|hx <;> rcases hz with e2|hz
  ·rw[e1,e2]
  ·subst e1;rw[iE hz e.symm] at h3;cases h3
  ·subst e2;rw[iE hx e] at h3;cases h3
  ·exact ih h4 x hx z hz e
def Qv{bl:List BSh}{j:Nat}(h:Qq bl j=true):∃x,bl[j]? =some x/\iJ x=false:=by
 unfold Qq at h;split at h
 ·rename_i hx;exact⟨_,hx,rfl⟩
 ·rename_i hx;exact⟨_,hx,rfl⟩
 ·cases h
def zL{bl:List BSh}{n:Nat}:∀{l:List (Nat×Nat×Nat)},nk bl n l=true->∀x∈l,(x.1<n->x.2.1=base+x.1∨(base+64<=x.2.1/\∃y,bl[x.1]? =some y/\iJ y=false))/\(n<=x.1->base+64<=x.2.1):=by
 intro l
 induction l with
 |nil=>intro _ x hx;cases hx
 |cons a l ih=>
  intro h x hx;obtain⟨h1,h2⟩:=aC (show ac (ac (Nat.ble (Nat.succ a.1) n) (ac (Nat.beq a.2.1 (base+a.1)) true (ac (Qq bl a.1) (Nat.ble (base+64) a.2.1) false)) (Nat.ble (base+64) a.2.1)) (nk bl n l) false=true from h);rcases List.mem_cons.1 hx with e|hx
  ·subst e;rw[ar] at h1;split at h1
   ·rename_i hb;have hb:=aaL hb;refine⟨λ_=>?_,λh'=>by omega⟩;rw[ar] at h1;split at h1
    ·rename_i hq;exact .inl (aaq hq)
    ·obtain⟨q1,q2⟩:=aC h1;exact .inr ⟨aaL q2,Qv q1⟩
   ·rename_i hb;refine⟨λh'=>absurd (Nat.ble_eq.mpr h') hb,λ_=>aaL h1⟩
  ·exact ih h2 x hx
def If{l:List (Nat×Nat×Nat)}:∀{fz:List Nat},rL fz l=true->∀b∈fz,∀x∈l,x.2.1≠b:=by
 intro fz
 induction fz with
 |nil=>intro _ b hb;cases hb
 |cons c fz ih=>
  intro h b hb x hx e;obtain⟨h1,h2⟩:=aC (show ac (kg c l) (rL fz l) false=true from h);rcases List.mem_cons.1 hb with e'|hb
  ·subst e';rw[iE hx e] at h1;cases h1
  ·exact ih h2 b hb x hx e
def zM:∀{l m:List BSh},pC l m=true->l.length<=m.length/\∀(j:Nat) (x y:BSh),l[j]? =some x->m[j]? =some y->zC x y=true:=by
 intro l
 induction l with
 |nil=>intro m h;exact⟨aaD _,λj x y hx=>by simp at hx⟩
 |cons a l ih=>
  intro m h
  cases m with
  |nil=>cases h
  |cons b m=>
   obtain⟨h1,h2⟩:=aC (show ac (zC a b) (pC l m) false=true from h)
   obtain⟨q1,q2⟩:=ih h2
   refine⟨by simp;omega,λj x y hx hy=>?_⟩
   cases j with
   |zero=>simp at hx hy;subst hx;subst hy;exact h1
   |succ j=>exact q2 j x y (by simpa using hx) (by simpa using hy)
def gk{x y:BSh}(h:zC x y=true):iJ x=iJ y:=by cases x <;> cases y <;> first|rfl|(cases h;done)
def kU{x y:BSh}(h:zC x y=true):(∃k C t,x= .obj k C t)↔∃k C t,y= .obj k C t:=by cases x <;> cases y <;> first|(cases h;done)|exact⟨λ_=>⟨_,_,_,rfl⟩,λ_=>⟨_,_,_,rfl⟩⟩|exact⟨λ⟨_,_,_,e⟩=>(by cases e),λ⟨_,_,_,e⟩=>(by cases e)⟩
def Ez{s:PS}{j b g:Nat}(hn:bD j s.loc=none):s.Le (s.name (j,b,g)):=by
 cases s with
 |mk tm loc ln pr fz=>
 have hn:bD j loc=none:=hn
 refine⟨λ_ _ h=>h,λj' p h'=>?_,λ_ h=>h,λh=>h,λ_ h=>aay _ h,λ_ h=>h⟩
 show bD j' ((j,b,g)::loc)=some p
 rw[cZ]
 split
 ·rename_i e;simp only at e;subst e;have h':bD j loc=some p:=h';rw[hn] at h';cases h'
 ·exact h'
def qn{H:T ABlk}:∀{l:List BSh} {j:Nat} {s s':PS},Ia H l j s=some s'->s.Le s'/\s'.ln=s.ln/\s'.tm=s.tm:=by
 intro l
 induction l with
 |nil=>intro j s s' h;injection h with h;subst h;exact⟨.refl _,rfl,rfl⟩
 |cons x l ih=>
  intro j s s' h;have h:(match bD j s.loc with
   |some _=>Ia H l (Nat.succ j) s
   |none=>ac (iJ x) (T.getK H (base+j) none λq=>Ia H l (Nat.succ j) (s.name (j,base+j,tL q))) (Ia H l (Nat.succ j) s))=some s':=h
  split at h
  ·exact ih h
  ·rename_i hn;rw[ar] at h;split at h
   ·obtain⟨q,hq,h⟩:=mY h;obtain⟨h1,h2,h3⟩:=ih h;refine⟨(Ez hn).trans h1, ?_, ?_⟩
    ·rw[h2];cases s;rfl
    ·rw[h3];cases s;rfl
   ·exact ih h
def qp{ρ:Rho}{H:T ABlk}{blk:List BSh}:∀{l:List BSh} {j:Nat} {s s':PS},H_ H blk l j s=some s'->
 s.Le s'/\∀sF,s'.Le sF->sF.pr->rM blk sF->∀i x,l[i]? =some x->∃b g,sF.L (j+i)=some (b,g)/\∃q,H.get b=some q/\BT ρ (mC sF H) blk sF.L (aP sF.tm) x q g:=by
 intro l
 induction l with
 |nil=>intro j s s' h;injection h with h;subst h;exact⟨.refl _,λsF _ _ _ i x hx=>by simp at hx⟩
 |cons x l ih=>
  intro j s s' h
  have key:∀(b g:Nat) (s0:PS) (q:ABlk),s.Le s0->bD j s0.loc=some (b,g)->H.get b=some q->(bA (oH H blk x q g s0) λs=>H_ H blk l (Nat.succ j) s)=some s'->s.Le s'/\∀sF,s'.Le sF->sF.pr->rM blk sF->∀i y,(x::l)[i]? =some y->∃b g,sF.L (j+i)=some (b,g)/\∃q,H.get b=some q/\BT ρ (mC sF H) blk sF.L (aP sF.tm) y q g:=λb g s0 q hle hbg hq h=>by
   obtain⟨s1,h1,h⟩:=az h
   obtain⟨p1,p2⟩:=Ib (ρ:=ρ) (blk:=blk) h1
   obtain⟨r1,r2⟩:=ih h
   refine⟨hle.trans (p1.trans r1),λsF hF hp hl i y hy=>?_⟩
   cases i with
   |zero=>simp at hy;subst hy;exact⟨b,g,hF.loc _ _ (r1.loc _ _ (p1.loc _ _ hbg)),q,hq,p2 sF (r1.trans hF) hp hl⟩
   |succ i=>obtain⟨b,g,q1,q2⟩:=r2 sF hF hp hl i y (by simpa using hy);exact⟨b,g,by rw[show j+(i+1)=Nat.succ j+i by omega];exact q1,q2⟩
  have h:(match bD j s.loc with
   |some bg=>T.getK H bg.1 none λq=>bA (oH H blk x q bg.2 s) λs=>H_ H blk l (Nat.succ j) s
   |none=>T.getK H (base+j) none λq=>bA (oH H blk x q (tL q) (s.name (j,base+j,tL q))) λs=>H_ H blk l (Nat.succ j) s)=some s':=h
  split at h
  ·rename_i bg hbg;obtain⟨q,hq,h⟩:=mY h;exact key bg.1 bg.2 s q (.refl _) hbg hq h
  ·rename_i hn
   obtain⟨q,hq,h⟩:=mY h
   refine key (base+j) (tL q) (s.name (j,base+j,tL q)) q (Ez hn) ?_ hq h
   cases s with
   |mk tm loc ln pr fz=>
   show bD j ((j,base+j,tL q)::loc)=_
   rw[cZ,if_pos rfl]
structure Fin2(bl:List BSh)(n:Nat)(s:PS)(len:Nat):Prop where
 t3:∀j b g,s.L j=some (b,g)->j<len/\(j<n->b=base+j∨(base+64<=b/\∃y,bl[j]? =some y/\iJ y=false))/\(n<=j->base+64<=b)
 t4:∀j j' b g g',s.L j=some (b,g)->s.L j'=some (b,g')->j=j'
 t5:∀b,b∈s.fz->∀j g,s.L j≠some (b,g)
def Fin2.at0{n len:Nat}{s:PS}(h:Fin2 [] n s len){j b g:Nat}(hL:s.L j=some (b,g))(hj:j<n):b=base+j:=by
 rcases(h.t3 j b g hL).2.1 hj with h'|⟨_,y,hy,_⟩
 ·exact h'
 ·simp at hy
def EA{bl:List BSh}{n len:Nat}{s:PS}(h5:nk bl n s.loc=true)(h6:lL len s.loc=true)(h7:rL s.fz s.loc=true):Fin2 bl n s len where
 t3:=λj b g hL=>by have hm:=dS hL;obtain⟨q1,q2⟩:=zL h5 _ hm;exact⟨uH h6 _ hm,q1,q2⟩
 t4:=λj j' b g g' h1 h2=>congrArg Prod.fst (uI h6 _ (dS h1) _ (dS h2) rfl)
 t5:=λb hb j g hL=>If h7 b hb _ (dS hL) rfl
def rT{n:Nat}{ρ:Rho}{H:T ABlk}{r:Sr}{l:List BSh}{a:AV}{s:PS}(h:e_ n H r l a=some s)(hp:s.pr):
 TvR (mC s H) l s.L (aP s.tm) r a/\(∀j x,l[j]? =some x->∃b g,s.L j=some (b,g)/\∃q,H.get b=some q/\BT ρ (mC s H) l s.L (aP s.tm) x q g)/\Fin2 l n s l.length:=by
 obtain⟨s1,h1,h⟩:=az h
 obtain⟨s2,h2,h⟩:=az h
 obtain⟨s3,h3,h⟩:=az h
 obtain⟨s4,h4,h⟩:=az h
 obtain⟨h5,h⟩:=aU h
 obtain⟨h6,h⟩:=aU h
 injection h with h
 subst h
 obtain⟨h5,h7⟩:=aC h5
 have hln:=kT h4 hp
 obtain⟨f1,_,_,_,_⟩:=ef h4
 obtain⟨p1,p2⟩:=K9 (blk:=l) h1
 obtain⟨st,_,_⟩:=qn h2
 obtain⟨b1,b2⟩:=qp (ρ:=ρ) h3
 refine⟨p2 s4 (st.trans (b1.trans f1)) hp hln,λj x hx=>?_,EA h5 h6 h7⟩
 obtain⟨b,g,q1,q2⟩:=b2 s4 f1 hp hln j x hx
 exact⟨b,g,by rw[aaC] at q1;exact q1,q2⟩
def iL{s:PS}{H:T ABlk}{b:Nat}{x:ABlk}(h:mC s H b=some x):H.get b=some x/\b∈s.fz:=by
 unfold mC at h;split at h
 ·rename_i hb;exact⟨h,hb⟩
 ·cases h
def Vy(blk:List BSh)(j:Nat):Prop:=∃x,blk[j]? =some x/\iJ x=true
def EB(blk:List BSh)(j:Nat):Prop:=∃k C t,blk[j]? =some (.obj k C t)
structure FinRel(blk:List BSh)(ρ:Rho)(w:World)(ρ':Rho)(wx:World):Prop where
 kept:Kept ρ.own w.heap.size w wx
 frz:∀b x,ρ.frz b=some x->ρ'.frz b=some x
 frzB:∀b x,ρ'.frz0 b=some x->b<w.heap.size->ρ.frz b=some x
 ownx:∀x,ρ'.own x->∃j g h,h.blk=x/\ρ'.at_ (base+j) g=some h/\j<64/\(w.heap.size<=x∨(ρ.own x/\∃g',ρ.at_ (base+j) g'=some h))
 stb:∀j h,Vy blk j->ρ.at_ (base+j) 0=some h->ρ'.at_ (base+j) 0=some h
 objs:∀j g h,EB blk j->ρ.at_ (base+j) g=some h->ρ'.at_ (base+j) g=some h
def OwnOk(ρ:Rho):Prop:=∀x,ρ.own x->∃j g h,h.blk=x/\ρ.at_ (base+j) g=some h/\j<64
def OwnOk.B{ρ:Rho}(h:OwnOk ρ):∀x,ρ.own x->∃b g h,b<base+64/\ρ.at_ b g=some h/\h.blk=x:=λx hx=>by obtain⟨j,g,h,q1,q2,q3⟩:=h x hx;exact⟨base+j,g,h,by omega,q2,q1⟩
def FinRel.of_le{blk:List BSh}{ρ ρ':Rho}{w:World}(hle:ρ.le ρ')(ho:OwnOk ρ)(hf:ρ.frz0=ρ.frz):FinRel blk ρ w ρ' w where
 kept:=Kept.refl _ _ _
 frz:=hle.frz
 frzB:=λb x h _=>by rw[hle.frz0,hf] at h;exact h
 ownx:=λx hx=>by rw[hle.own] at hx;obtain⟨j,g,h,q1,q2,q3⟩:=ho x hx;exact⟨j,g,h,q1,hle.at_ _ _ _ q2,q3,.inr ⟨hx,g,q2⟩⟩
 stb:=λj h _ hh=>hle.at_ _ _ _ hh
 objs:=λj g h _ hh=>hle.at_ _ _ _ hh
def EC:base+64+1<2 ^ 64:=by decide
def zN(w0:World)(ρ:Rho)(H:T ABlk)(L:Nat->Option (Nat×Nat)):Nat->Prop:=λx=>∃j h,rR w0.heap.size ρ H L j h/\h.blk=x/\Own ρ w0.heap.size x
def Lg{B:Nat}(ρ:Rho)(H:T ABlk)(w:World)(L:Nat->Option (Nat×Nat))(b:Nat):ky B ρ H w w L b=ρ.frz b:=by
 unfold ky;split
 ·rename_i x hx;exact hx.symm
 ·rename_i hx;rw[hx];split
  ·rename_i hc;rw[aa7 hc.1]
  ·rfl
structure Lent(w0:World)(ρ:Rho)(H:T ABlk)(w:World)(L:Nat->Option (Nat×Nat))(blk:List BSh)(z:Sy):Prop where
 good:Good w0 ρ H w
 hb:∀j x,blk[j]? =some x->∃b g,L j=some (b,g)/\∃q,H.get b=some q/\BT ρ (λ_=>none) blk L z x q g
 dom:∀j p,L j=some p->j<blk.length
 inj:∀j j' b g g',L j=some (b,g)->L j'=some (b,g')->j=j'
 n64:blk.length<=64
noncomputable def zO(w0:World)(ρ:Rho)(H:T ABlk)(w:World)(L:Nat->Option (Nat×Nat))(blk:List BSh)(vl:Nat->Value):Rho:=ll w0.heap.size ρ H w w L bO blk.length (zN w0 ρ H L) ρ.frz vl
def Lent.mv{w0 w:World}{ρ:Rho}{H:T ABlk}{L:Nat->Option (Nat×Nat)}{blk:List BSh}{z:Sy}(hL:Lent w0 ρ H w L blk z):MvHyp w0 ρ H (λ_=>none) w w w L bO blk z (zN w0 ρ H L) ρ.frz:=
 {good:=hL.good,hb:=hL.hb,dom:=hL.dom,linj:=hL.inj,ginj:=λa b _ _ e=>by have e:base+a=base+b:=e;omega,g64:=λj hj=>by have:=EC;have:=hL.n64;show base+j+1<_;omega,
  g0:=λ_ _ _ _=>rfl,kept:=Kept.refl _ _ _,owns:=λj h h1 h2=>.inr ⟨j,h,h1,rfl,h2⟩,frF:=λb x _ hF=>(by cases hF),frz:=λb x h _=>by rw[Lg] at h;exact h}
def zP{w0 w wf wb:World}{ρ:Rho}{H:T ABlk}{F:Nat->Option ABlk}{L:Nat->Option (Nat×Nat)}{γ:lk}{blk:List BSh}{y:Sy}{own:Nat->Prop}{frz0:Nat->Option (Array Value×TypeId)}(hm:MvHyp w0 ρ H F w wf wb L γ blk y own frz0){j:Nat}{h:Home}(hh:rR w0.heap.size ρ H L j h)(d4:Own ρ w0.heap.size h.blk)(hj:j<blk.length):∃g,iu w0.heap.size ρ H L γ blk.length (γ j).1 g=some h:=by
 rcases hh with hh|⟨b,g,h1,h2,⟨g',h3⟩,_⟩
 ·by_cases ho:yj H L j
  ·obtain⟨b,g,e1,e2⟩:=kz hh;exact⟨g,js hm hj ho e1 e2 d4⟩
  ·exact⟨_,(ew hm hj ho).trans hh⟩
 ·exact⟨g',js hm hj h2 h1 h3 d4⟩
def Lent.ownOk{vl:Nat->Value}{w0 w:World}{ρ:Rho}{H:T ABlk}{L:Nat->Option (Nat×Nat)}{blk:List BSh}{z:Sy}(hL:Lent w0 ρ H w L blk z):OwnOk (zO w0 ρ H w L blk vl):=λx hx=>by obtain⟨j,h,q1,q2,q3⟩:=hx;obtain⟨b,g,_,e,_⟩:=c_ q1;have hj:=hL.dom _ _ e;obtain⟨g',hg'⟩:=zP hL.mv q1 (by rw[q2];exact q3) hj;exact⟨j,g',h,q2,hg',abh hj hL.n64⟩
def Lent.to{vl:Nat->Value}{w0 w:World}{ρ:Rho}{H:T ABlk}{L:Nat->Option (Nat×Nat)}{blk:List BSh}{z:Sy}(hL:Lent w0 ρ H w L blk z):Good w (zO w0 ρ H w L blk vl) (eS bO z blk 0 .leaf) w:=
 ⟨hL.mv.to0,hL.ownOk.B⟩
def TabIn(ρ:Rho)(o:Option (Nat×Nat×List Nat)):Prop:=match o with|none=>True|some (g,ty,l)=>g<1048576/\ρ.frz g=some ((l.map λn=>Value.int .u8 (Int.ofNat n)).toArray,ty)
def TabIn.mono{ρ ρ':Rho}{o:Option (Nat×Nat×List Nat)}(hf:∀b x,ρ.frz b=some x->ρ'.frz b=some x)(h:TabIn ρ o):TabIn ρ' o:=by
 match o,h with
 |none,_=>trivial
 |some (g,ty,l),h=>exact⟨h.1,hf _ _ h.2⟩
def Lh{z:Sy}{blk:List BSh}{g:Nat}(hg:g<1048576):(eS bO z blk 0 .leaf).get g=none:=by
 cases e:(eS bO z blk 0 .leaf).get g with
 |none=>rfl
 |some X=>
  rcases rP blk 0 .leaf g X e with⟨i,x,_,eb,_⟩|⟨h,_⟩
  ·have eb:g=1048576+(0+i):=eb;omega
  ·simp [T.get] at h
def Lk:∀{a b:List Nat},DW a b=true->a=b
 | [],[],_=>rfl
 | [],_::_,h=>by cases h
 |_::_,[],h=>by cases h
 |x::a,y::b,h=>by obtain⟨h1,h2⟩:=aC (show ac (Nat.beq x y) (DW a b) false=true from h);rw[aaq h1,Lk h2]
def Good.addTab{w w0:World}{ρ:Rho}{z:Sy}{blk:List BSh}{o:Option (Nat×Nat×List Nat)}(hG:Good w0 ρ (eS bO z blk 0 .leaf) w)(ht:TabIn ρ o):Good w0 ρ (Go.Sym.addTab o (eS bO z blk 0 .leaf)) w:=by
 match o,ht with
 |none,_=>exact hG
 |some (g,ty,l),ht=>
  obtain⟨hg,hf⟩:=ht;have hn:=Lh (z:=z) (blk:=blk) hg;have hs:((eS bO z blk 0 .leaf).set g (.tab ty l)).get g=some (.tab ty l):=T.get_set_same _ _ _ (by omega);have ho:∀b,b≠g->((eS bO z blk 0 .leaf).set g (.tab ty l)).get b=(eS bO z blk 0 .leaf).get b:=λb hb=>T.get_set_ne _ hb _;show Good w0 ρ ((eS bO z blk 0 .leaf).set g (.tab ty l)) w;refine⟨⟨hG.below,λb x hx=>?_,λb g' h hh=>?_,hG.inj,λb g' h x hh hx=>?_,λb arr G' hb=>⟨(hG.frz _ _ _ hb).1,λb' g' h hh e=>?_⟩,hG.frzB,λb k I l' hx=>?_⟩,hG.ownB⟩
  ·by_cases e:b=g
   ·subst e;rw[hs] at hx;injection hx with hx;subst hx;exact⟨hg,hf⟩
   ·rw[ho _ e] at hx;exact hG.blk _ _ hx
  ·obtain⟨h1,x,h2⟩:=hG.dom _ _ _ hh;exact⟨h1,x,by rw[ho _ (λe=>by subst e;rw[hn] at h2;cases h2)];exact h2⟩
  ·by_cases e:b=g
   ·subst e;rw[hs] at hx;injection hx with hx;subst hx;trivial
   ·rw[ho _ e] at hx;exact hG.gens _ _ _ _ hh hx
  ·obtain⟨x,h1,h2⟩:=(hG.frz _ _ _ hb).2 _ _ _ hh e;exact⟨x,by rw[ho _ (λe=>by subst e;rw[hn] at h1;cases h1)];exact h1,h2⟩
  ·by_cases e:b=g
   ·subst e;rw[hs] at hx;cases hx
   ·rw[ho _ e] at hx;exact hG.objO _ _ _ _ hx
def Good.tabIn{w w0:World}{ρ:Rho}{z:Sy}{H:T ABlk}{o:Option (Nat×Nat×List Nat)}(hg:∀g ty l,o=some (g,ty,l)->g<1048576)(hG:Good w0 ρ (Go.Sym.addTab o H) w):TabIn ρ o:=by
 match o,hg,hG with
 |none,_,_=>trivial
 |some (g,ty,l),hg,hG=>have hs:(H.set g (.tab ty l)).get g=some (.tab ty l):=T.get_set_same _ _ _ (by have:=hg g ty l rfl;omega);exact hG.blk _ _ hs
def wK{w0 w:World}{ρ:Rho}{σ:St}{K:Fin}{o:Option (Nat×Nat×List Nat)}{k:Tr}(hS:SI σ)(hG:Good w0 ρ σ.h w)(h:run (Qr o k) σ K=true):∃a8,a8.h=σ.h/\SI a8/\run k a8 K=true/\TabIn ρ o:=by
 match o,h with
 |none,h=>exact⟨σ,rfl,hS,h,trivial⟩
 |some (g,ty,l),h=>
  obtain⟨c8,h⟩:=ay h
  have c8:=bV c8
  obtain⟨x,a8,h1,h2,h3,h4⟩:=bG hS h
  cases x with
  |tab G' l'=>obtain⟨e1,h5⟩:=ay h4;obtain⟨e2,h6⟩:=ay h5;have e1:=aaq e1;have e2:=Lk e2;subst e1;subst e2;exact⟨a8,h2,h3,h6,c8,(hG.blk _ _ h1).2⟩
  |_=>exact(ah h4).elim
def frzE(w0:World)(ρ:Rho)(H:T ABlk)(w:World)(L:Nat->Option (Nat×Nat))(blk:List BSh)(vl:Nat->Value):(zO w0 ρ H w L blk vl).frz=(zO w0 ρ H w L blk vl).frz0:=by funext b;exact Lg ρ H w L b
def gP{ρ:Rho}{F:Nat->Option ABlk}{blk:List BSh}{L:Nat->Option (Nat×Nat)}{y:Sy}{x:BSh}{q:ABlk}{g:Nat}(h:BT ρ F blk L y x q g):(iJ x=true->g=0)/\((∃k C t,x= .obj k C t)↔∃k I l,q= .obj k I l)/\¬yu q:=by
 cases x with
 |cells ty l=>obtain⟨e0,c,as,e,_⟩:=h;subst e;exact⟨λ_=>e0,⟨λ⟨_,_,_,e⟩=>(by cases e),λ⟨_,_,_,e⟩=>(by cases e)⟩,λh=>h⟩
 |grow m ty t=>have h:q=_:=h;subst h;exact⟨λe=>(by cases e),⟨λ⟨_,_,_,e⟩=>(by cases e),λ⟨_,_,_,e⟩=>(by cases e)⟩,λh=>h⟩
 |growb ty t=>have h:q=_:=h;subst h;exact⟨λe=>(by cases e),⟨λ⟨_,_,_,e⟩=>(by cases e),λ⟨_,_,_,e⟩=>(by cases e)⟩,λh=>h⟩
 |arr m ty t=>obtain⟨e0,e,_⟩:=h;subst e;exact⟨λ_=>e0,⟨λ⟨_,_,_,e⟩=>(by cases e),λ⟨_,_,_,e⟩=>(by cases e)⟩,λh=>h⟩
 |arb ty t=>obtain⟨e0,e,_⟩:=h;subst e;exact⟨λ_=>e0,⟨λ⟨_,_,_,e⟩=>(by cases e),λ⟨_,_,_,e⟩=>(by cases e)⟩,λh=>h⟩
 |sm m t=>obtain⟨e0,e|⟨c,e,_⟩⟩:=h <;> (subst e;exact⟨λ_=>e0,⟨λ⟨_,_,_,e⟩=>(by cases e),λ⟨_,_,_,e⟩=>(by cases e)⟩,λh=>h⟩)
 |obj k C t=>obtain⟨e0,e⟩:=h;subst e;exact⟨λ_=>e0,⟨λ_=>⟨_,_,_,rfl⟩,λ_=>⟨_,_,_,rfl⟩⟩,λh=>h⟩
def TI{vl:Nat->Value}{w0 w wx w':World}{ρ ρ':Rho}{H H':T ABlk}{F:Nat->Option ABlk}{L LF:Nat->Option (Nat×Nat)}{blk out:List BSh}{z y:Sy}{γ:lk}(hL:Lent w0 ρ H w L blk z)(ad4:pC blk out=true)(hγ:∀j x b g,blk[j]? =some x->L j=some (b,g)->γ j=(b,Ey x g))(hγn:∀j,blk.length<=j->j<out.length->(γ j).2=0/\(∀g,ρ.at_ (γ j).1 g=none)/\(∃X0,H.get (γ j).1=some X0/\¬yu X0)/\(∀i b g,L i=some (b,g)->b≠(γ j).1)/\∀i,blk.length<=i->i<out.length->(γ i).1=(γ j).1->i=j)(c7:∀i,i<out.length->(γ i).1+1<2 ^ 64)(f6:Good wx ρ' H' w')(hF:FinRel blk (zO w0 ρ H w L blk vl) w ρ' wx)(hFF:∀b x,F b=some x->H'.get b=some x/\∀j g,LF j≠some (b,g))(t2:∀j x,out[j]? =some x->∃b g,LF j=some (b,g)/\∃q,H'.get b=some q/\BT ρ' F out LF y x q g)(t3:∀j b g,LF j=some (b,g)->j<out.length/\(j<blk.length->b=base+j∨(base+64<=b/\∃y,out[j]? =some y/\iJ y=false))/\(blk.length<=j->base+64<=b))(t4:∀j j' b g g',LF j=some (b,g)->LF j'=some (b,g')->j=j'):
 ∃ρ2:Rho,Good w0 ρ2 (eS γ y out 0 H) w'/\ρ.le ρ2/\(∀x a v,TvA F out LF y x a->VR ρ' a v->VR ρ2 (kx γ y x) v)/\∀x a v,TvR F out LF y x a->VR ρ' a v->VR ρ2 (Cs γ y x) v:=by
 obtain⟨hkl,ad4⟩:=zM ad4
 have f9:=hL.good
 have hsx:=hF.kept.size
 have aj_:=hL.n64
 have f8:∀j,j<blk.length->∃x b g q,blk[j]? =some x/\L j=some (b,g)/\H.get b=some q/\BT ρ (λ_=>none) blk L z x q g:=λj hj=>by obtain⟨b,g,q1,q,q2,q3⟩:=hL.hb j _ (aaw hj);exact⟨_,b,g,q,aaw hj,q1,q2,q3⟩
 have aj1:∀x,ρ'.own x->w.heap.size<=x∨zN w0 ρ H L x:=λx hx=>by
  obtain⟨j,g,h,_,_,_,q|q⟩:=hF.ownx x hx
  ·exact .inl q
  ·exact .inr q.1
 have af0:∀b g h,base+64<=b->ρ'.at_ b g=some h->Own ρ' wx.heap.size h.blk->w.heap.size<=h.blk:=λb g h hb hh ho=>by
  rcases ho with ho|ho
  ·omega
  ·obtain⟨j,g0,h0,q2,q3,hj,_⟩:=hF.ownx _ ho;have:=(f6.inj _ _ _ _ _ _ q3 hh q2).1;omega
 have hm2:MvHyp wx ρ' H' F w' w w LF γ out y (zN w0 ρ H L) ρ.frz:=
  {good:=f6,hb:=t2,dom:=λj p h=>(t3 j p.1 p.2 h).1,linj:=t4,
   ginj:=λa b ha hb e=>by
    rcases aat a blk.length with ha'|ha' <;> rcases aat b blk.length with p7|p7
    ·obtain⟨x1,b1,g1,_,q1,q2,_⟩:=f8 a ha';obtain⟨x2,b2,g2,_,r1,r2,_⟩:=f8 b p7;rw[hγ _ _ _ _ q1 q2,hγ _ _ _ _ r1 r2] at e;have e:b1=b2:=e;subst e;exact hL.inj _ _ _ _ _ q2 r2
    ·obtain⟨x1,b1,g1,_,q1,q2,_⟩:=f8 a ha';rw[hγ _ _ _ _ q1 q2] at e;exact absurd e ((hγn b p7 hb).2.2.2.1 _ _ _ q2)
    ·obtain⟨x1,b1,g1,_,q1,q2,_⟩:=f8 b p7;rw[hγ _ _ _ _ q1 q2] at e;exact absurd e.symm ((hγn a ha' ha).2.2.2.1 _ _ _ q2)
    ·exact(hγn b p7 hb).2.2.2.2 a ha' ha e,
   g64:=c7,
   g0:=λj x hx j9=>by
    have hjo:j<out.length:=by
     rcases aat j out.length with h'|h'
     ·exact h'
     ·rw[aaz h'] at hx;cases hx
    rcases aat j blk.length with hj|hj
    ·obtain⟨x0,b,g,q,q1,q2,q3,q4⟩:=f8 j hj;have hs:=gk (ad4 j x0 x q1 hx);rw[hγ _ _ _ _ q1 q2];show ac (iJ x0) g (g+1)=0;rw[hs,j9];exact(gP q4).1 (hs.trans j9)
    ·exact(hγn j hj hjo).1,
   kept:=by
    refine hF.kept.trans ⟨f6.below.os,f6.below.tape,f6.below.output,f6.below.size,λx hx ho=>f6.below.block x (by omega) λhpo=>?_⟩;rcases aj1 x hpo with h|h
    ·omega
    ·exact ho h,
   owns:=λj h _ h2=>by
    rcases h2 with h2|h2
    ·exact .inl (by omega)
    ·exact aj1 _ h2,
   frF:=λb x hb hF'=>⟨(hFF b x hF').1,(hFF b x hF').2,λg h hh ho=>af0 b g h hb hh ho⟩,
   frz:=λb x hx c8=>by
    unfold ky at hx;split at hx
    ·rename_i x' w9;injection hx with hx;subst hx;have:=hF.frzB b _ (f6.frzB b _ w9 (by omega)) c8;have h:ky w0.heap.size ρ H w w L b=some x':=this;rw[Lg] at h;exact h
    ·split at hx
     ·rename_i hc;omega
     ·cases hx}
 have hGp:=hm2.to0 (vl:=ρ.val)
 have aj2:∀j x,out[j]? =some x->(eS γ y out 0 .leaf).get (γ j).1=some (mh γ y j x):=λj x hx=>by have:=rQ (γ:=γ) (y:=y) out 0 .leaf j x hx (λi hi=>by rw[aaC];exact hm2.g64 i hi) (λa b ha hb e=>hm2.ginj a b ha hb (by simpa using e));simpa using this
 have ae5:∀b X,(eS γ y out 0 .leaf).get b=some X->∃j x,out[j]? =some x/\b=(γ j).1/\X=mh γ y j x/\j<out.length:=λb X hX=>by
  rcases rP out 0 .leaf b X hX with⟨j,x,hx,q1,q2⟩|⟨h,_⟩
  ·have hj:j<out.length:=by
    rcases aat j out.length with h'|h'
    ·exact h'
    ·rw[aaz h'] at hx;cases hx
   exact⟨j,x,hx,by rw[q1,aaC],by rw[q2,aaC],hj⟩
  ·simp [T.get] at h
 have ab_:∀b g h,(w.heap.size<=h.blk)->ρ.at_ b g=none->ρ.at_ b g=some h∨(ρ.at_ b g=none/\∀b' g' h',ρ.at_ b' g'=some h'->h'.blk=h.blk->b'=b/\h'=h):=λb g h hge hn=>
  .inr ⟨hn,λb' g' h' f7 e=>by have:=(f9.dom _ _ _ f7).1;omega⟩
 have ag9:∀b g h,(ll wx.heap.size ρ' H' w' w LF γ out.length (zN w0 ρ H L) ρ.frz ρ.val).at_ b g=some h->
  ρ.at_ b g=some h∨(ρ.at_ b g=none/\∀b' g' h',ρ.at_ b' g'=some h'->h'.blk=h.blk->b'=b/\h'=h):=λb g h hh=>by
  obtain⟨j,hjo,eb,hGj⟩:=ez hh
  obtain⟨hA,af8⟩:=eu hGj
  have hxo:=aaw hjo
  obtain⟨bF,gF,hLF,qo,hqo,hbo⟩:=t2 j _ hxo
  obtain⟨kb1,kb2,_⟩:=gP hbo
  obtain⟨e3a,e3b,e3c⟩:=t3 _ _ _ hLF
  rcases aat j blk.length with hj|hj
  ·obtain⟨x,b0,g0,q,q1,q2,q3,q4⟩:=f8 j hj;have l7:=ad4 j x _ q1 hxo;have hbg:=hγ _ _ _ _ q1 q2;rw[hbg] at eb;have eb:b0=b:=eb;subst eb;rcases e3b hj with eF|⟨eF,xo',ai2,aq7⟩
   ·subst eF;obtain⟨ka1,ka2,_⟩:=gP q4;by_cases L':∃k C t,x= .obj k C t
    ·have ao3:=(kU l7).1 L'
     obtain⟨k,I,l,eqo⟩:=kb2.1 ao3
     obtain⟨k0,I0,l0,eq⟩:=ka2.1 L'
     subst eqo;subst eq
     have hOF:yj H' LF j:=⟨_,_,_,_,_,hLF,hqo⟩
     have hOL:yj H L j:=⟨_,_,_,_,_,q2,q3⟩
     have ak5:ρ'.at_ (base+j) g=some h:=by
      rcases af8 with⟨_,b2,g2,e1,e2⟩|⟨hn,_⟩
      ·rw[hLF] at e1;injection e1 with e1;injection e1 with e1 _;rw[←e1] at e2;exact e2
      ·exact absurd hOF hn
     have ak6:EB blk j:=by obtain⟨k,C,t,e⟩:=L';exact⟨k,C,t,by rw[q1,e]⟩
     cases hr:ρ.at_ b0 g with
     |some h0=>have ho:=(f9.objO _ _ _ _ q3 _ _ hr).1;have h1:=hF.objs j g h0 ak6 (js hL.mv hj hOL q2 hr ho);rw[ak5] at h1;injection h1 with h1;subst h1;exact .inl rfl
     |none=>
      have ho:=(f6.objO _ _ _ _ hqo _ _ ak5).1;refine .inr ⟨rfl,λb' g' h' f7 e=>?_⟩;have c8:=(f9.dom _ _ _ f7).1;rcases ho with ho|ho
      ·rw[←e] at ho;omega
      ·obtain⟨j2,g2,h2,s1,s2,_,hor⟩:=hF.ownx _ ho;obtain⟨u1,u2⟩:=f6.inj _ _ _ _ _ _ s2 ak5 s1;have:j2=j:=by omega
       subst this;subst u2;rcases hor with hor|⟨_,g5,hor⟩
       ·rw[←e] at hor;omega
       ·obtain⟨j3,_,e5,K'⟩:=ez (show iu w0.heap.size ρ H L bO blk.length (base+j2) g5=some h2 from hor);have e5:base+j3=base+j2:=e5;have:j3=j2:=by omega
        subst this;obtain⟨b3,g3,g4,hL3,ah0⟩:=c_ (eu K').1;rw[q2] at hL3;injection hL3 with hL3;injection hL3 with e6 _;subst e6;exact f9.inj _ _ _ _ _ _ f7 ah0 e
    ·have hnO:¬yj H' LF j:=λ⟨b2,g2,k,I,l,e1,e2⟩=>by rw[hLF] at e1;injection e1 with e1;injection e1 with e1 _;subst e1;rw[hqo] at e2;injection e2 with e2;exact L' ((kU l7).2 (kb2.2 ⟨k,I,l,e2⟩))
     have aq8:¬yj H L j:=λ⟨b2,g2,k,I,l,e1,e2⟩=>by rw[q2] at e1;injection e1 with e1;injection e1 with e1 _;subst e1;rw[q3] at e2;injection e2 with e2;exact L' (ka2.2 ⟨k,I,l,e2⟩)
     have hJ:g=(γ j).2/\bw ρ' H' LF j=some h:=by
      rcases af8 with⟨ho,_⟩|⟨_,e1,e2⟩
      ·exact absurd ho hnO
      ·exact⟨e1,e2⟩
     obtain⟨eg,hJ⟩:=hJ
     rw[hbg] at eg
     obtain⟨b1,g1,hL1,u6⟩:=kz hJ
     rw[hLF] at hL1;injection hL1 with hL1;injection hL1 with e1 e2
     subst e1;subst e2
     cases j9:iJ x with
     |true=>
      have eg:g=g0:=by rw[eg];show ac (iJ x) g0 (g0+1)=g0;rw[j9];rfl
      have e0:=ka1 j9;subst e0;subst eg;have eF0:=kb1 ((gk l7).symm.trans j9);subst eF0;have:∃h0,ρ.at_ b0 0=some h0/\bw ρ H L j=some h0:=by
       cases x with
       |cells ty l=>obtain⟨_,c,as,eq,_⟩:=q4;subst eq;obtain⟨h0,r1,_⟩:=(f9.blk _ _ q3).2 0 (aao _);exact⟨h0,r1,by unfold bw;rw[q2];simp only [q3,r1]⟩
       |arr m ty t=>
        obtain⟨_,e,i3⟩:=q4;subst e;have i5:¬(Ct.rows m (z.g t)).len=0:=by show ¬(z.g t).length=0;omega
        rcases f9.blk _ _ q3 with h0|⟨h0,r1,_⟩
        ·exact absurd h0 i5
        ·exact⟨h0,r1,by unfold bw;rw[q2];simp only [q3];rw[if_neg i5];exact r1⟩
       |arb ty t=>
        obtain⟨_,e,i3⟩:=q4;subst e;have i5:¬(Ct.bytes (z.s t)).len=0:=by show ¬(z.s t).length=0;omega
        rcases f9.blk _ _ q3 with h0|⟨h0,r1,_⟩
        ·exact absurd h0 i5
        ·exact⟨h0,r1,by unfold bw;rw[q2];simp only [q3];rw[if_neg i5];exact r1⟩
       |sm m t=>
        obtain⟨_,e|⟨c,e,_⟩⟩:=q4
        ·subst e;obtain⟨h0,r1,_⟩:=f9.blk _ _ q3;exact⟨h0,r1,by unfold bw;rw[q2];simp only [q3,r1]⟩
        ·subst e;obtain⟨h0,r1,_⟩:=f9.blk _ _ q3;exact⟨h0,r1,by unfold bw;rw[q2];simp only [q3,r1]⟩
       |obj k C t=>exact absurd ⟨_,_,_,rfl⟩ L'
       |grow m ty t=>cases j9
       |growb ty t=>cases j9
      obtain⟨h0,r1,hJ0⟩:=this;have:=hF.stb j h0 ⟨x,q1,j9⟩ ((ew hL.mv hj aq8).trans hJ0);rw[u6] at this;injection this with this;subst this;exact .inl r1
     |false=>
      have eg:g=g0+1:=by rw[eg];show ac (iJ x) g0 (g0+1)=g0+1;rw[j9];rfl
      subst eg;have hqg:∃ct ty,q= .grow ct g0 ty:=by
       cases x with
       |grow m ty t=>exact⟨_,_,q4⟩
       |growb ty t=>exact⟨_,_,q4⟩
       |_=>cases j9
      obtain⟨ct,ty,eq⟩:=hqg;subst eq;have j5:ρ.at_ b0 (g0+1)=none:=by
       cases hn:ρ.at_ b0 (g0+1) with
       |none=>rfl
       |some hh=>have:g0+1<=g0:=f9.gens _ _ _ _ hn q3;omega
      refine .inr ⟨j5,λb' g' h' f7 e=>?_⟩;have c8:=(f9.dom _ _ _ f7).1;have ak7:∃ct ty,qo= .grow ct gF ty/\ct.len≠0:=by
       have hso:=(gk l7).symm.trans j9;have:∃ct ty,qo= .grow ct gF ty:=by
        generalize out[j]=xo at *
        cases xo with
        |grow m ty t=>exact⟨_,_,hbo⟩
        |growb ty t=>exact⟨_,_,hbo⟩
        |_=>cases hso
       obtain⟨ct,ty,e⟩:=this;refine⟨ct,ty,e,λh0=>?_⟩;unfold bw at hJ;rw[hLF] at hJ;simp only [hqo,e,if_pos h0] at hJ;cases hJ
      obtain⟨cto,tyo,eqo,i5⟩:=ak7;subst eqo;rcases f6.blk _ _ hqo with h0|⟨o8,r1,r2,r3,_⟩
      ·exact absurd h0 i5
      rw[u6] at r1;injection r1 with r1;subst r1;rcases r3 with r3|r3
      ·rw[←e] at r3;omega
      ·obtain⟨j2,g2,h2,s2',s3',_,hor⟩:=hF.ownx _ r3;obtain⟨u1,u2⟩:=f6.inj _ _ _ _ _ _ s3' u6 s2';have:j2=j:=by omega
       subst this;subst u2;rcases hor with hor|⟨_,g5,hor⟩
       ·rw[←e] at hor;omega
       ·obtain⟨j3,_,e5,K'⟩:=ez (show iu w0.heap.size ρ H L bO blk.length (base+j2) g5=some h2 from hor);have e5:base+j3=base+j2:=e5;have:j3=j2:=by omega
        subst this;obtain⟨b3,g3,g4,hL3,ah0⟩:=c_ (eu K').1;rw[q2] at hL3;injection hL3 with hL3;injection hL3 with e6 _;subst e6;exact f9.inj _ _ _ _ _ _ f7 ah0 e
   ·rw[hxo] at ai2;injection ai2 with ai2;have ah1:iJ x=false:=by rw[gk l7,ai2];exact aq7
    have hnO:¬yj H' LF j:=λ⟨b2,g2,k,I,l,e1,e2⟩=>by rw[hLF] at e1;injection e1 with e1;injection e1 with e1 _;subst e1;rw[hqo] at e2;injection e2 with e2;obtain⟨_,_,_,e⟩:=(kU l7).2 (kb2.2 ⟨k,I,l,e2⟩);rw[e] at ah1;cases ah1
    have hJ:g=(γ j).2/\bw ρ' H' LF j=some h:=by
     rcases af8 with⟨ho,_⟩|⟨_,e1,e2⟩
     ·exact absurd ho hnO
     ·exact⟨e1,e2⟩
    obtain⟨eg,hJ⟩:=hJ;rw[hbg] at eg;obtain⟨b1,g1,hL1,u6⟩:=kz hJ;rw[hLF] at hL1;injection hL1 with hL1;injection hL1 with e1 e2;subst e1;subst e2;have eg:g=g0+1:=by rw[eg];show ac (iJ x) g0 (g0+1)=g0+1;rw[ah1];rfl
    subst eg;have hqg:∃ct ty,q= .grow ct g0 ty:=by
     cases x with
     |grow m ty t=>exact⟨_,_,q4⟩
     |growb ty t=>exact⟨_,_,q4⟩
     |_=>cases ah1
    obtain⟨ct,ty,eq⟩:=hqg;subst eq;have j5:ρ.at_ b0 (g0+1)=none:=by
     cases hn:ρ.at_ b0 (g0+1) with
     |none=>rfl
     |some hh=>have:g0+1<=g0:=f9.gens _ _ _ _ hn q3;omega
    have ak7:∃ct ty,qo= .grow ct gF ty/\ct.len≠0:=by
     have hso:=(gk l7).symm.trans ah1;have:∃ct ty,qo= .grow ct gF ty:=by
      generalize out[j]=xo at *
      cases xo with
      |grow m ty t=>exact⟨_,_,hbo⟩
      |growb ty t=>exact⟨_,_,hbo⟩
      |_=>cases hso
     obtain⟨ct,ty,e⟩:=this;refine⟨ct,ty,e,λh0=>?_⟩;unfold bw at hJ;rw[hLF] at hJ;simp only [hqo,e,if_pos h0] at hJ;cases hJ
    obtain⟨cto,tyo,eqo,i5⟩:=ak7;subst eqo;rcases f6.blk _ _ hqo with h0|⟨o8,r1,r2,r3,_⟩
    ·exact absurd h0 i5
    rw[u6] at r1;injection r1 with r1;subst r1;exact ab_ _ _ _ (af0 _ _ _ eF u6 r3) j5
  ·obtain⟨n1,n2,n3,n4,n5⟩:=hγn j hj hjo;have eF:=e3c hj;have j5:ρ.at_ b g=none:=by rw[←eb];exact n2 g
   refine ab_ b g h ?_ j5;have:∃g1,ρ'.at_ bF g1=some h/\Own ρ' wx.heap.size h.blk:=by
    rcases af8 with⟨⟨b5,g5,k,I,l,e8,e9⟩,b2,g2,e1,e2⟩|⟨hnO,_,hJ⟩
    ·rw[hLF] at e1;injection e1 with e1;injection e1 with e1 _;subst e1;rw[hLF] at e8;injection e8 with e8;injection e8 with e8 _;subst e8;exact⟨g,e2,(f6.objO _ _ _ _ e9 _ _ e2).1⟩
    ·obtain⟨b1,g1,hL1,u6⟩:=kz hJ
     rw[hLF] at hL1;injection hL1 with hL1;injection hL1 with e1 e2
     subst e1;subst e2
     refine⟨gF,u6, ?_⟩
     generalize out[j]=xo at hbo
     cases xo with
     |cells ty l=>obtain⟨e0,c,as,eq,_⟩:=hbo;subst e0;subst eq;obtain⟨h0,r1,r2,_⟩:=(f6.blk _ _ hqo).2 0 (aao _);rw[u6] at r1;injection r1 with r1;subst r1;exact r2 rfl
     |arr m ty t=>
      obtain⟨e0,e,i3⟩:=hbo;subst e0;subst e;rcases f6.blk _ _ hqo with h0|⟨h0,r1,_,r2,_⟩
      ·have h0:(y.g t).length=0:=h0;omega
      ·rw[u6] at r1;injection r1 with r1;subst r1;exact r2
     |arb ty t=>
      obtain⟨e0,e,i3⟩:=hbo;subst e0;subst e;rcases f6.blk _ _ hqo with h0|⟨h0,r1,_,r2,_⟩
      ·have h0:(y.s t).length=0:=h0;omega
      ·rw[u6] at r1;injection r1 with r1;subst r1;exact r2
     |sm m t=>
      obtain⟨e0,e|⟨c,e,_⟩⟩:=hbo
      ·subst e0;subst e;obtain⟨h0,r1,r2,_⟩:=f6.blk _ _ hqo;rw[u6] at r1;injection r1 with r1;subst r1;exact r2
      ·subst e0;subst e;obtain⟨h0,r1,r2,_⟩:=f6.blk _ _ hqo;rw[u6] at r1;injection r1 with r1;subst r1;exact r2
     |obj k C t=>obtain⟨e0,e⟩:=hbo;subst e;exact absurd ⟨_,_,_,_,_,hLF,hqo⟩ hnO
     |grow m ty t=>
      have hbo:qo=_:=hbo;subst hbo;rcases f6.blk _ _ hqo with h0|⟨o8,r1,r2,r3,_⟩
      ·unfold bw at hJ;rw[hLF] at hJ;simp only [hqo,if_pos h0] at hJ;cases hJ
      ·rw[u6] at r1;injection r1 with r1;subst r1;exact r3
     |growb ty t=>
      have hbo:qo=_:=hbo;subst hbo;rcases f6.blk _ _ hqo with h0|⟨o8,r1,r2,r3,_⟩
      ·unfold bw at hJ;rw[hLF] at hJ;simp only [hqo,if_pos h0] at hJ;cases hJ
      ·rw[u6] at r1;injection r1 with r1;subst r1;exact r3
   obtain⟨g1,r1,r2⟩:=this;exact af0 _ _ _ eF r1 r2
 have ac8:∀j,j<out.length->(j<blk.length/\∃x b0 g0 q,blk[j]? =some x/\L j=some (b0,g0)/\H.get b0=some q/\BT ρ (λ_=>none) blk L z x q g0/\γ j=(b0,Ey x g0))∨blk.length<=j:=λj hj=>by
  rcases aat j blk.length with h|h
  ·obtain⟨x,b0,g0,q,q1,q2,q3,q4⟩:=f8 j h;exact .inl ⟨h,x,b0,g0,q,q1,q2,q3,q4,hγ _ _ _ _ q1 q2⟩
  ·exact .inr h
 obtain⟨ρ2,m1,m2,m3,m4,m5⟩:=YR (H2:=eS γ y out 0 H) f9 hGp (λb=>by
  cases hp:(eS γ y out 0 .leaf).get b with
  |some X=>obtain⟨j,x,hx,q1,q2,_⟩:=ae5 b X hp;subst q1;have:=rQ (γ:=γ) (y:=y) out 0 H j x hx (λi hi=>by rw[aaC];exact hm2.g64 i hi) (λa b ha hb e=>hm2.ginj a b ha hb (by simpa using e));rw[aaC] at this;rw[this,q2]
  |none=>refine Cy _ _ _ _ λi hi e=>?_;rw[aaC] at e;have:=aj2 i _ (aaw hi);rw[←e,hp] at this;cases this)
  (λx hx=>by obtain⟨_,_,_,_,q⟩:=hx;exact q) rfl (λb x hx=>eA (hF.frz _ _ (eA hx))) rfl
  ag9
  (λb g h X hh hX=>by
   obtain⟨j,xo,hx,q1,q2,hjo⟩:=ae5 b X hX;subst q1;subst q2;rcases ac8 j hjo with⟨hj,x,b0,g0,q,r1,r2,r3,r4,hgg⟩|hj
   ·have l7:=ad4 j x xo r1 hx
    rw[hgg] at hh
    have R':=f9.gens _ _ _ _ hh r3
    obtain⟨ka1,ka2,_⟩:=gP r4
    cases xo with
    |cells ty l=>
     cases x with
     |cells G' l'=>obtain⟨eg,cc,as,eq,_⟩:=r4;subst eq;exact R'
     |_=>cases l7
    |grow m ty t=>
     cases x with
     |grow m' G' t'=>have eq:q=_:=r4;subst eq;have R':g<=g0:=R';show g<=(γ j).2;rw[hgg];show g<=g0+1;omega
     |_=>cases l7
    |growb ty t=>
     cases x with
     |growb G' t'=>have eq:q=_:=r4;subst eq;have R':g<=g0:=R';show g<=(γ j).2;rw[hgg];show g<=g0+1;omega
     |_=>cases l7
    |sm m t=>trivial
    |obj k C t=>trivial
    |arr m ty t=>
     cases x with
     |arr m' G' t'=>obtain⟨eg,eq,_⟩:=r4;subst eq;exact R'
     |_=>cases l7
    |arb ty t=>
     cases x with
     |arb G' t'=>obtain⟨eg,eq,_⟩:=r4;subst eq;exact R'
     |_=>cases l7
   ·rw[(hγn j hj hjo).2.1 g] at hh;cases hh)
  (λb X hX=>by
   obtain⟨j,xo,hx,q1,q2,hjo⟩:=ae5 b X hX;subst q1;rcases ac8 j hjo with⟨hj,x,b0,g0,q,r1,r2,r3,r4,hgg⟩|hj
   ·rw[hgg];exact⟨q,r3,(gP r4).2.2⟩
   ·exact(hγn j hj hjo).2.2.1)
  (λb g h hh hn ho=>by obtain⟨j,h0,q1,q2,d4⟩:=ho;obtain⟨b0,g0,g1,hL',j0⟩:=c_ q1;have hj:=hL.dom _ _ hL';have e:=(f9.inj _ _ _ _ _ _ j0 hh q2).1;subst e;obtain⟨x,b1,g1',q,r1,r2,r3,r4⟩:=f8 j hj;rw[hL'] at r2;injection r2 with r2;injection r2 with e1 e2;subst e1;subst e2;have:=aj2 j _ (aaw (by omega:j<out.length));rw[hγ _ _ _ _ r1 hL',hn] at this;cases this)
  (λb k I l hX=>by
   obtain⟨j,xo,hx,q1,q2,hjo⟩:=ae5 b _ hX;subst q1;rcases ac8 j hjo with⟨hj,x,b0,g0,q,r1,r2,r3,r4,hgg⟩|hj
   ·refine .inl ?_
    rw[hgg]
    have l7:=ad4 j x xo r1 hx
    cases xo with
    |obj k' C t=>obtain⟨k0,I0,l0,e⟩:=(gP r4).2.1.1 ((kU l7).2 ⟨_,_,_,rfl⟩);exact⟨k0,I0,l0,by rw[r3,e]⟩
    |_=>cases q2
   ·exact .inr (hγn j hj hjo).2.1)
  (λb X hX=>by
   obtain⟨j,xo,hx,q1,q2,hj⟩:=ae5 b X hX
   subst q2
   cases xo with
   |cells ty c=>exact .inl ⟨_,_,_,rfl⟩
   |grow m ty t=>exact .inr (.inl ⟨_,_,_,rfl⟩)
   |growb ty t=>exact .inr (.inl ⟨_,_,_,rfl⟩)
   |sm m t=>exact .inr (.inr (.inl ⟨_,_,rfl⟩))
   |arr m ty t=>exact .inr (.inl ⟨_,_,_,rfl⟩)
   |arb ty t=>exact .inr (.inl ⟨_,_,_,rfl⟩)
   |obj k C t=>exact .inr (.inr (.inr ⟨_,_,_,rfl⟩)))
 exact⟨ρ2,m1,m2,λx a v h hv=>(TvA.vr hm2 h hv).into m3 m4 (λb x hx=>by rw[m5];exact hx),λx a v h hv=>(TvR.vr hm2 h hv).into m3 m4 (λb x hx=>by rw[m5];exact hx)⟩
def kB(P:Program)(f:Nat)(S:FSpec)(zf:(z:Sy)->{y:Sy // S.pre z->S.post z y}):Prop:=
 ∀z,S.pre z->∀(w:World) (ρ:Rho) (vs:List Value),Good w ρ (S.heap z) w->LR ρ (S.argsA z) vs->
  (∀args:Array Value,(callFunc f args).run P w= .ok (.enter f args) w)/\CallsIn Fence.wide 0 P f vs.toArray w λe w'=>∃v ρ' H' a s,e= .returned v/\Good w ρ' H' w'/\ρ.le ρ'/\VR ρ' a v/\
   e_ S.blk.length H' (S.res z) (S.out z) a=some s/\s.pr/\(zf z).1=aP s.tm
def ED{blk:List BSh}{s1 s2:PS}{H:T ABlk}(hG:Good w0 ρ H w)(Y':lK blk s1.ln s1=some s2)(hp:s2.pr)(n8:wJ ρ blk H s1 blk 0)(c7:blk.length<=64)(ad8:lL blk.length s2.loc=true):Lent w0 ρ H w s2.L blk (aP s2.tm):=by
 obtain⟨f1,f2,f3,f4,_⟩:=ef Y';have hln:=kT Y' hp;refine⟨hG,λj x hx=>?_,λj p h=>uH ad8 _ (dS h),λj j' b g g' h1 h2=>?_,c7⟩
 ·obtain⟨b,g,q1,q,q2,q3⟩:=n8 j x hx;rw[aaC] at q1;exact⟨b,g,f1.loc _ _ q1,q,q2,q3 ρ (.refl _) s2 f1 hp hln⟩
 ·have:=uI ad8 _ (dS h1) _ (dS h2) rfl;exact congrArg Prod.fst this
def EE{blk:List BSh}{s:PS}{j b g:Nat}{x:BSh}(hx:blk[j]? =some x)(hL:s.L j=some (b,g)):pU blk (oI s) j=(b,Ey x g):=by
 have e:oI s j=(b,g):=by unfold oI;rw[show bD j s.loc=some (b,g) from hL]
 unfold pU;rw[hx,e]
def Qw{k:List Nat->Tr}:∀{l:List BSh} {σ:St},SI σ->Good w0 ρ σ.h w->run (Qu l k) σ K=true->
 ∃bs a8,run (k bs) a8 K=true/\SI a8/\Good w0 ρ a8.h w/\bs.length=l.length/\(∀b X,σ.h.get b=some X->a8.h.get b=some X)/\(∀b∈bs,σ.h.get b=none/\∃X,a8.h.get b=some X/\¬yu X)/\bs.Nodup:=by
 intro l
 induction l generalizing k with
 |nil=>intro σ hS hG h;exact⟨[],σ,h,hS,hG,rfl,λ_ _ h=>h,(λb hb=>by cases hb),List.nodup_nil⟩
 |cons x l ih=>
  intro σ hS hG h
  have h:run (.new (.grow (.bytes []) 0 0) λb=>Qu l λbs=>k (b::bs)) σ K=true:=h
  obtain⟨n,b6,hn,c7,e1,a9,h1⟩:=gi hS h
  have b7:Good w0 ρ b6.h w:=by rw[e1];exact hG.none_new hn c7 rfl
  obtain⟨bs,c9,q1,q2,q3,q4,q5,q6,q7⟩:=ih (k:=λbs=>k (n::bs)) a9 b7 h1
  have hn1:b6.h.get n=some (.grow (.bytes []) 0 0):=by rw[e1];exact T.get_set_same _ _ _ c7
  refine⟨n::bs,c9,q1,q2,q3,by simp [q4],λb X hX=>q5 b X ?_,λb hb=>?_,List.nodup_cons.2 ⟨λhm=>?_,q7⟩⟩
  ·rw[e1,T.get_set_ne _ (λe=>by subst e;rw[hn] at hX;cases hX)];exact hX
  ·rcases List.mem_cons.1 hb with e|hb
   ·subst e;exact⟨hn,_,q5 _ _ hn1,λh=>h⟩
   ·obtain⟨r1,r2⟩:=q6 b hb;refine⟨?_,r2⟩;have i5:b≠n:=λe=>by subst e;rw[hn1] at r1;cases r1
    rw[e1,T.get_set_ne _ i5] at r1;exact r1
  ·have:=(q6 n hm).1;rw[hn1] at this;cases this
def Lent.more{H':T ABlk}{L:Nat->Option (Nat×Nat)}{blk:List BSh}{z:Sy}{H:T ABlk}(hL:Lent w0 ρ H w L blk z)(hG:Good w0 ρ H' w)(h:∀b X,H.get b=some X->H'.get b=some X):Lent w0 ρ H' w L blk z:=
 ⟨hG,λj x hx=>by obtain⟨b,g,q1,q,q2,q3⟩:=hL.hb j x hx;exact⟨b,g,q1,q,h _ _ q2,q3⟩,hL.dom,hL.inj,hL.n64⟩
def Qx{n:Nat}{γ:lk}{bs:List Nat}{j:Nat}(h:j<n):tM n γ bs j=γ j:=by unfold tM;rw[ar,if_pos (Nat.ble_eq.mpr h)]
def Qy{n:Nat}{γ:lk}{bs:List Nat}{j:Nat}(h:n<=j):tM n γ bs j=(bs.getD (j-n) 0,0):=by unfold tM;rw[ar,if_neg (λe=>by have:=aaL e;omega)]
def Vz{f:Nat}{S:FSpec}{zf:(z:Sy)->{y:Sy // S.pre z->S.post z y}}(hC:kB P f S zf)(w0:World)(l:List AV):Vu P w0 f l (Vw S zf l):=by
 intro vs k σ0 K ρ w R hS0 hG0 hl h0 hR;obtain⟨σ,eh,hS,h,af1⟩:=wK hS0 hG0 h0;have hG:Good w0 ρ σ.h w:=by rw[eh];exact hG0
 clear h0 hG0 hS0;obtain⟨l',b6,x7,z1,a9,b7,m8,hlen,hlr⟩:=iK hS hG hl h;obtain⟨s0,hs0,z2⟩:=cb z1;obtain⟨s1,c9,ρ2,z3,d6,f9,d8,ak8,_,n8⟩:=zK a9 b7 z2;obtain⟨s2,hs2,z4⟩:=cb z3;obtain⟨ah2,z5⟩:=ay z4;obtain⟨⟨hpr,V'⟩,z6⟩:=aQ z5;clear h z1 z2 z3 z4 z5;obtain⟨ak9,hc2⟩:=aC ah2;obtain⟨hcK,hcL⟩:=aC hc2;have ak9:=bV ak9;obtain⟨p1,p2⟩:=fX (blk:=S.blk) hs0;obtain⟨f1,f2,f3,f4,_⟩:=ef hs2;have hln:=kT hs2 hpr;have o6:LR ρ2 l' vs:=(hlr (by rw[←hlen];exact mm hs0)).mono d8;have g8:=p2 s2 (ak8.trans f1) hpr hln;rw[kA] at g8;have hL0:=ED f9 hs2 hpr n8 ak9 hcL;obtain⟨z,hz⟩:∃z,z=aP s2.tm:=⟨_,rfl⟩
 rw[←hz] at V' z6 g8 hL0 hcK;have z6:run (Qu ((S.out z).drop S.blk.length) λbs=>Vv (tM S.blk.length (pU S.blk (oI s2)) bs) (zf z).1 (S.out z) 0 (k (Cs (tM S.blk.length (pU S.blk (oI s2)) bs) (zf z).1 (S.res z)))) c9 K=true:=z6;obtain⟨bs,σn,z7,hSn,hGn,hbl,hbk,hbn,hbd⟩:=Qw d6 f9 z6;have hL:=hL0.more hGn hbk;have hLb:=TvAs.lr (vl:=ρ.val) hL.mv g8 o6;obtain⟨hcf,af2⟩:=hC z V' w _ vs ((hL.to (vl:=ρ.val)).addTab ((af1.mono (m8.trans d8).frz).mono λb x h=>eA h)) hLb;refine⟨hcf,af2.mono λe w' he=>?_⟩;obtain⟨v,ρ',H',a,s,rfl,f6,ac_,hva,Y',ak_,hzf⟩:=he;obtain⟨σ3,z8,hS3,e3,c7⟩:=Ld hSn z7;obtain⟨t1,t2,t3⟩:=rT (ρ:=ρ') Y' ak_;rw[←hzf] at t1 t2;obtain⟨hkl,_⟩:=zM hcK;have hdl:bs.length=(S.out z).length-S.blk.length:=by rw[hbl,aaA]
 have hbg:∀j,S.blk.length<=j->j<(S.out z).length->∃b,bs[j-S.blk.length]? =some b/\(tM S.blk.length (pU S.blk (oI s2)) bs j)=(b,0):=λj h1 h2=>by
  have c8:j-S.blk.length<bs.length:=by omega
  refine⟨bs[j-S.blk.length],aaw c8, ?_⟩;rw[Qy h1,aas,aaw c8];rfl
 obtain⟨ρ3,m1,m2,_,m3⟩:=TI (F:=mC s H') (γ:=tM S.blk.length (pU S.blk (oI s2)) bs) hL hcK (λj x b g hx hl=>by
  have hj:j<S.blk.length:=by
   rcases aat j S.blk.length with h'|h'
   ·exact h'
   ·rw[aaz h'] at hx;cases hx
  rw[Qx hj];exact EE hx hl)
  (λj h1 h2=>by
   obtain⟨b,r1,r2⟩:=hbg j h1 h2;rw[r2];have hm:=abs r1;obtain⟨u1,u2⟩:=hbn b hm;refine⟨rfl,λg=>f9.none_at u1 g,u2,λi b' g' hL' e=>?_,λi h3 h4 e=>?_⟩
   ·obtain⟨b2,g2,q1,q,q2,_⟩:=hL0.hb i _ (aaw (hL0.dom _ _ hL'));rw[hL'] at q1;injection q1 with q1;injection q1 with q1 _;subst q1;subst e;rw[u1] at q2;cases q2
   ·obtain⟨b3,r3,r4⟩:=hbg i h3 h4;rw[r4] at e;have e:b3=b:=e;subst e;have hi1:i-S.blk.length<bs.length:=by omega
    have hi2:j-S.blk.length<bs.length:=by omega
    rw[aaw hi1] at r3;rw[aaw hi2] at r1;injection r3 with r3;injection r1 with r1;have:=(List.getElem_inj (h₀:=hi1) (h₁:=hi2) hbd).1 (r3.trans r1.symm);omega)
  (λi hi=>by have:=c7 i hi;rwa [aaC] at this) f6 (FinRel.of_le ac_ hL.ownOk (frzE _ _ _ _ _ _ _).symm) (λb x hF=>⟨(iL hF).1,t3.t5 b (iL hF).2⟩) t2 (λj b g h=>t3.t3 j b g h) t3.t4
 exact hR _ v σ3 ρ3 w' z8 hS3 (by rw[e3];exact m1) ((m8.trans d8).trans m2) (m3 _ _ _ t1 hva)
def EF{blk:List BSh}{r:Sr}{a:AV}{v:Value}{k:AV->Tr}(hS:SI σ)(hG:Good w0 ρ σ.h w)(hv:VR ρ a v)(h:run (Cw blk r a k) σ K=true):
 ∃a' a8 ρ',run (k a') a8 K=true/\SI a8/\Good w0 ρ' a8.h w/\ρ.le ρ'/\VR ρ' a' v:=by
 cases r with
 |one x=>
  have hl:LR ρ [a] [v]:=LR.cons hv (LR.nil _)
  obtain⟨j6,a8,ρ',h1,h2,h3,h4,h5,h6⟩:=iK (loc:=[]) (blk:=blk) (l:=[Qt x]) (k:=λas=>match as with | [a]=>k a|_=>.fail) hS hG hl h
  have h6:=h6 rfl
  match j6,h5,h6,h1 with
  | [a'],_,h6,h1=>
   obtain⟨u,us,e,hu,_⟩:=h6.cons_inv
   injection e with e _
   subst e
   exact⟨a',a8,ρ',h1,h2,h3,h4,hu⟩
 |tu l=>
  unfold Cw at h
  simp only at h
  split at h
  ·rename_i as;rcases bU h with⟨hl,h⟩|⟨_,h⟩
   ·have hl:=aN hl
    cases hv with
    |tup _ cs e1 e2=>obtain⟨j6,a8,ρ',h1,h2,h3,h4,h5,h6⟩:=iK hS hG (LR.of_arr e1 e2) h;obtain⟨r1,r2⟩:=(h6 hl).arr;exact⟨_,a8,ρ',h1,h2,h3,h4,.tup _ cs r1 r2⟩
   ·exact⟨_,σ,ρ,h,hS,hG,.refl _,hv⟩
  ·exact⟨_,σ,ρ,h,hS,hG,.refl _,hv⟩
def Qz{M:Tab}(hM:TabOk P M){n f:Nat}{S:FSpec}(h:∀z,S.pre z->∃hn,(S.callFm P M n f z hn).den):∃zf:(z:Sy)->{y:Sy // S.pre z->S.post z y},kB P f S zf:=by
 have key:∀z,∃y:{y:Sy // S.pre z->S.post z y},S.pre z->∃a σf s,(∀K,run (mT P (wm P M n) f (S.argsA z) λa=>Cw (S.out z) (S.res z) a .ret) (start (S.heap z) (base+64)) K=K a σf)/\e_ S.blk.length σf.h (S.res z) (S.out z) a=some s/\s.pr/\y.1=aP s.tm:=λz=>by
  by_cases hz:S.pre z
  ·obtain⟨hn,hd⟩:=h z hz;obtain⟨a,σf,e,hn',hl⟩:=Cr _ _ _ _ hd;unfold TG at hl;split at hl
   ·rename_i s hs;exact⟨⟨aP s.tm,λ_=>hl.2 hl.1⟩,λ_=>⟨a,σf,s,e,hs,hl.1,rfl⟩⟩
   ·exact hl.elim
  ·exact⟨⟨⟨λ_=>0,λ_=>[],λ_=>False,λ_=>[]⟩,λh=>absurd h hz⟩,λh=>absurd h hz⟩
 refine⟨λz=>Classical.choose (key z),λz hz w ρ vs hG hl=>?_⟩;obtain⟨a,σf,s,e,hs,hp,hy⟩:=abI (key z) hz;refine iG (qm P hM w n).1 f (S.argsA z) vs (λa=>Cw (S.out z) (S.res z) a .ret) (start (S.heap z) (base+64)) (λa' s'=>dP (a'=a/\s'=σf)) ρ w _ (ne (by decide) (by decide)) hG hl (by rw[e];exact fA.2 ⟨rfl,rfl⟩) λav v a8 ρ' w' q1 q2 q3 q4 q5=>?_;obtain⟨a',c9,ρ2,q1,q2,q3,q4',q5⟩:=EF q2 q3 q5 q1;obtain⟨e1,e2⟩:=fA.1 (show dP (a'=a/\c9=σf)=true from q1);subst e1;subst e2;exact⟨v,ρ2,_,_,s,rfl,q3,q4.trans q4',q5,hs,hp,hy⟩
end
end Go.Sym
namespace Go.Sym
open Go.RowKit (Below)
noncomputable section
def bK:Code->List Nat
 | .block j a=>j::bK a
 | .seq a b=>bK a++bK b
 | .cond _ a b=>bK a++bK b
 | .loop a=>bK a
 |_=>[]
def bB(id:Nat):Code->Option Code
 | .block j a=>ac (Nat.beq j id) (some a) (bB id a)
 | .seq a b=>Option.rec (motive:=λ_=>Option Code) (bB id b) some (bB id a)
 | .cond _ a b=>Option.rec (motive:=λ_=>Option Code) (bB id b) some (bB id a)
 | .loop a=>bB id a
 |_=>none
def QA(n:Nat)(l:List Nat):Bool:=List.rec (motive:=λ_=>Bool) false (λx _ ih=>ac (Nat.beq x n) true ih) l
def rU:List Nat->Bool
 | []=>true
 |x::l=>ac (QA x l) false (rU l)
def Ll{n:Nat}:∀{l:List Nat},QA n l=true↔n∈l:=by
 intro l
 induction l with
 |nil=>exact⟨λh=>(by cases h),λh=>(by cases h)⟩
 |cons x l ih=>
  show ac (Nat.beq x n) true (QA n l)=true↔_;rw[ar];split
  ·rename_i e;have:=aaq e;subst this;simp
  ·rename_i e;rw[ih];exact⟨λh=>by simp [h],λh=>by rcases List.mem_cons.1 h with h|h;exact absurd (by rw[h];exact abA _) e;exact h⟩
def Ig:∀{l:List Nat},rU l=true->l.Nodup:=by
 intro l
 induction l with
 |nil=>intro _;exact List.nodup_nil
 |cons x l ih=>intro h;have h:ac (QA x l) false (rU l)=true:=h;obtain⟨h1,h2⟩:=BN h;refine List.nodup_cons.2 ⟨λhm=>?_,ih h2⟩;rw[Ll.2 hm] at h1;cases h1
def Cz{id:Nat}:∀{c:Code},id∈bK c->∃d,bB id c=some d:=by
 intro c
 induction c with
 |block j a ih=>
  intro h;show ∃d,ac (Nat.beq j id) (some a) (bB id a)=some d;rw[ar];split
  ·exact⟨_,rfl⟩
  ·rename_i e;rcases List.mem_cons.1 h with h|h
   ·exact absurd (by rw[h];exact abA _) e
   ·exact ih h
 |seq a b iha ihb=>
  intro h
  show ∃d,Option.rec (motive:=λ_=>Option Code) (bB id b) some (bB id a)=some d
  cases ha:bB id a with
  |some d=>exact⟨d,rfl⟩
  |none=>
   rcases List.mem_append.1 h with h|h
   ·obtain⟨d,e⟩:=iha h;rw[ha] at e;cases e
   ·exact ihb h
 |cond x a b iha ihb=>
  intro h
  show ∃d,Option.rec (motive:=λ_=>Option Code) (bB id b) some (bB id a)=some d
  cases ha:bB id a with
  |some d=>exact⟨d,rfl⟩
  |none=>
   rcases List.mem_append.1 h with h|h
   ·obtain⟨d,e⟩:=iha h;rw[ha] at e;cases e
   ·exact ihb h
 |loop a ih=>intro h;exact ih h
 |_=>intro h;cases h
def CA{id:Nat}:∀{c:Code},id∉bK c->bB id c=none:=by
 intro c
 induction c with
 |block j a ih=>intro h;show ac (Nat.beq j id) (some a) (bB id a)=none;rw[ar,if_neg (λe=>h (by have:=aaq e;subst this;exact aaB))];exact ih λhm=>h (aay _ hm)
 |seq a b iha ihb=>intro h;show Option.rec (motive:=λ_=>Option Code) (bB id b) some (bB id a)=none;rw[iha λhm=>h (List.mem_append.2 (.inl hm))];exact ihb λhm=>h (List.mem_append.2 (.inr hm))
 |cond x a b iha ihb=>intro h;show Option.rec (motive:=λ_=>Option Code) (bB id b) some (bB id a)=none;rw[iha λhm=>h (List.mem_append.2 (.inl hm))];exact ihb λhm=>h (List.mem_append.2 (.inr hm))
 |loop a ih=>intro h;exact ih h
 |_=>intro h;rfl
def kV{id:Nat}{a b:Code}{f:Code}(hf:bB id f=Option.rec (motive:=λ_=>Option Code) (bB id b) some (bB id a))(hn:(bK a++bK b).Nodup):
 (id∈bK a->bB id f=bB id a)/\(id∈bK b->bB id f=bB id b):=by
 refine⟨λh=>?_,λh=>?_⟩
 ·obtain⟨d,e⟩:=Cz h;rw[hf,e]
 ·have:id∉bK a:=λha=>(List.nodup_append.1 hn).2.2 id ha id h rfl;rw[hf,CA this]
def Ih{d c:Code}(h:SubC d c)(hn:(bK c).Nodup):(bK d).Nodup/\∀id,id∈bK d->bB id c=bB id d:=by
 induction h with
 |refl c=>exact⟨hn,λ_ _=>rfl⟩
 | @seqL a b c h ih=>obtain⟨h1,h2⟩:=ih hn;have h1:(bK a++bK b).Nodup:=h1;exact⟨(List.nodup_append.1 h1).1,λid hm=>(h2 id (List.mem_append.2 (.inl hm))).trans ((kV (f:=.seq a b) rfl h1).1 hm)⟩
 | @seqR a b c h ih=>obtain⟨h1,h2⟩:=ih hn;have h1:(bK a++bK b).Nodup:=h1;exact⟨(List.nodup_append.1 h1).2.1,λid hm=>(h2 id (List.mem_append.2 (.inr hm))).trans ((kV (f:=.seq a b) rfl h1).2 hm)⟩
 | @condL x a b c h ih=>obtain⟨h1,h2⟩:=ih hn;have h1:(bK a++bK b).Nodup:=h1;exact⟨(List.nodup_append.1 h1).1,λid hm=>(h2 id (List.mem_append.2 (.inl hm))).trans ((kV (f:=.cond x a b) rfl h1).1 hm)⟩
 | @condR x a b c h ih=>obtain⟨h1,h2⟩:=ih hn;have h1:(bK a++bK b).Nodup:=h1;exact⟨(List.nodup_append.1 h1).2.1,λid hm=>(h2 id (List.mem_append.2 (.inr hm))).trans ((kV (f:=.cond x a b) rfl h1).2 hm)⟩
 | @block id' a c h ih=>obtain⟨h1,h2⟩:=ih hn;have h1:(id'::bK a).Nodup:=h1;obtain⟨g1,g2⟩:=List.nodup_cons.1 h1;refine⟨g2,λid hm=>(h2 id (aay _ hm)).trans ?_⟩;show ac (Nat.beq id' id) (some a) (bB id a)=_;rw[ar,if_neg (λe=>g1 (by have:=aaq e;subst this;exact hm))]
 | @loop a c h ih=>obtain⟨h1,h2⟩:=ih hn;exact⟨h1,λid hm=>h2 id hm⟩
def rV(P:Program)(fn id:Nat):Option (Code×Nat):=match P.funcs[fn]? with
 |some f=>(match f.body with
  |some b=>ac (rU (bK b)) (match bB id b with|some (.loop c)=>some (c,f.ntmps)|_=>none) none
  |none=>none)
 |none=>none
def kC(P:Program)(fn id:Nat):Code:=match rV P fn id with|some (c,_)=>c|none=>.skip
def iM(P:Program)(fn id:Nat):Nat:=match rV P fn id with|some (_,n)=>n|none=>0
def eU(P:Program)(fn id:Nat):Bool:=match rV P fn id with|some _=>true|none=>false
def zQ{P:Program}{fn id:Nat}{c:Code}(hl:eU P fn id=true)(h:∃f b,P.funcs[fn]? =some f/\f.body=some b/\SubC (.block id c) b):c= .loop (kC P fn id):=by
 obtain⟨f,b,h1,h2,h3⟩:=h
 unfold eU at hl
 unfold kC
 unfold rV at hl⊢
 simp only [h1,h2] at hl⊢
 cases hn:rU (bK b) with
 |false=>rw[hn] at hl;cases hl
 |true=>
  rw[hn] at hl;obtain⟨_,q⟩:=Ih h3 (Ig hn);have e:bB id b=some c:=by rw[q id aaB];show ac (Nat.beq id id) (some c) (bB id c)=some c;rw[ar,if_pos (abA id)]
  rw[e] at hl⊢;cases c <;> first|(cases hl;done)|rfl
structure Alt where
 ex:AEx
 tmps:List (Nat×Sa)
 out:List BSh
structure LSpec where
 tmps:List (Nat×Sa)
 blk:List BSh
 inv:Sy->Prop
 mu:Sy->Nat
 alts:List Alt
 post:Sy->Sy->Prop
 gl:Option (Nat×Nat×List Nat):=none
 keep:List Nat:=[]
def Lm(l:List (Nat×Sa)):List Sa:=List.rec (motive:=λ_=>List Sa) [] (λx _ ih=>x.2::ih) l
def pD(l:List (Nat×Sa))(env:T AV)(k:List AV->Tr):Tr:=List.rec (motive:=λ_=>(List AV->Tr)->Tr) (λk=>k []) (λx _ ih k=>T.getK env x.1 .fail λa=>ih λl=>k (a::l)) l k
def uJ(γ:lk)(y:Sy)(l:List (Nat×Sa))(t:T AV)(k:T AV->Tr):Tr:=List.rec (motive:=λ_=>T AV->(T AV->Tr)->Tr) (λt k=>k t) (λx _ ih t k=>T.setK t x.1 (kx γ y x.2) λt=>ih t k) l t k
def zR(γ:lk)(y:Sy)(l:List (Nat×Sa))(t:T AV):T AV:=List.rec (motive:=λ_=>T AV->T AV) (λt=>t) (λx _ ih t=>ih (t.set x.1 (kx γ y x.2))) l t
def zS(γ:lk)(y:Sy):∀(l:List (Nat×Sa)) (t:T AV) (k:T AV->Tr),uJ γ y l t k=k (zR γ y l t):=by
 intro l
 induction l with
 |nil=>intro t k;rfl
 |cons x l ih=>intro t k;show T.setK t x.1 (kx γ y x.2) (λt=>uJ γ y l t k)=_;rw[T.setK_eq,ih];rfl
def VA(l:List Nat)(t:T AV)(k:T AV->Tr):Tr:=List.rec (motive:=λ_=>T AV->(T AV->Tr)->Tr) (λt k=>k t) (λn _ ih t k=>T.setK t n (.opq n) λt=>ih t k) l t k
def VB(l:List Nat)(t:T AV):T AV:=List.rec (motive:=λ_=>T AV->T AV) (λt=>t) (λn _ ih t=>ih (t.set n (.opq n))) l t
def QB:∀(l:List Nat) (t:T AV) (k:T AV->Tr),VA l t k=k (VB l t):=by
 intro l
 induction l with
 |nil=>intro t k;rfl
 |cons x l ih=>intro t k;show T.setK t x (.opq x) (λt=>VA l t k)=_;rw[T.setK_eq,ih];rfl
def zT:∀{l:List Nat} {t:T AV} {b:Nat} {a:AV},(VB l t).get b=some a->(b∈l/\a= .opq b)∨t.get b=some a:=by
 intro l
 induction l with
 |nil=>intro t b a h;exact .inr h
 |cons x l ih=>
  intro t b a h;rcases ih (t:=t.set x (.opq x)) h with⟨h1,h2⟩|h
  ·exact .inl ⟨aay _ h1,h2⟩
  ·by_cases e:b=x
   ·subst e;exact .inl ⟨aaB,T.get_set_some _ _ h⟩
   ·rw[T.get_set_ne _ e] at h;exact .inr h
def Ii(l:List Nat)(env:T AV)(k:Tr):Tr:=List.rec (motive:=λ_=>Tr) k (λn _ ih=>T.getK env n .fail λa=>match a with | .opq m=>ac (Nat.beq m n) ih .fail|_=>.fail) l
def zU{σ:St}{K:Fin}{env:T AV}{k:Tr}:∀{l:List Nat},run (Ii l env k) σ K=true->run k σ K=true/\∀n∈l,env.get n=some (.opq n):=by
 intro l
 induction l with
 |nil=>intro h;exact⟨h,λn hn=>by cases hn⟩
 |cons x l ih=>
  intro h;obtain⟨a,ha,h⟩:=tH (show run (T.getK env x .fail λa=>match a with | .opq m=>ac (Nat.beq m x) (Ii l env k) .fail|_=>.fail) σ K=true from h);split at h
  ·obtain⟨e,h'⟩:=ay h;have e:=aN e;subst e;obtain⟨h1,h2⟩:=ih h';exact⟨h1,λn hn=>by
    rcases List.mem_cons.1 hn with rfl|hn
    ·exact ha
    ·exact h2 n hn⟩
  ·exact(ah h).elim
def uK(l:List Nat)(env t:T AV)(k:T AV->Tr):Tr:=List.rec (motive:=λ_=>T AV->(T AV->Tr)->Tr) (λt k=>k t) (λn _ ih t k=>T.getK env n (ih t k) λa=>T.setK t n a λt=>ih t k) l t k
def pE(l:List Nat)(env t:T AV):T AV:=List.rec (motive:=λ_=>T AV->T AV) (λt=>t) (λn _ ih t=>match env.get n with|none=>ih t|some a=>ih (t.set n a)) l t
def Ln:∀(l:List Nat) (env t:T AV) (k:T AV->Tr),uK l env t k=k (pE l env t):=by
 intro l env
 induction l with
 |nil=>intro t k;rfl
 |cons x l ih=>
  intro t k
  show T.getK env x (uK l env t k) (λa=>T.setK t x a λt=>uK l env t k)=k (match env.get x with|none=>pE l env t|some a=>pE l env (t.set x a))
  rw[T.getK_eq]
  cases env.get x with
  |none=>exact ih t k
  |some a=>show T.setK t x a (λt=>uK l env t k)=_;rw[T.setK_eq];exact ih _ k
def Ij{env:T AV}:∀{l:List Nat} {t:T AV} {b:Nat} {a:AV},(pE l env t).get b=some a->(b∈l/\env.get b=some a)∨t.get b=some a:=by
 intro l
 induction l with
 |nil=>intro t b a h;exact .inr h
 |cons x l ih=>
  intro t b a h
  have h:(match env.get x with|none=>pE l env t|some a=>pE l env (t.set x a)).get b=some a:=h
  cases he:env.get x with
  |none=>
   rw[he] at h;rcases ih h with⟨h1,h2⟩|h
   ·exact .inl ⟨aay _ h1,h2⟩
   ·exact .inr h
  |some v=>
   rw[he] at h;rcases ih (t:=t.set x v) h with⟨h1,h2⟩|h
   ·exact .inl ⟨aay _ h1,h2⟩
   ·by_cases e:b=x
    ·subst e;have:=T.get_set_some _ _ h;exact .inl ⟨aaB,by rw[he,this]⟩
    ·rw[T.get_set_ne _ e] at h;exact .inr h
def wL(a b:AEx):Bool:=match a,b with
 | .normal,.normal=>true
 | .ret,.ret=>true
 | .exit i,.exit j=>Nat.beq i j
 |_,_=>false
def Ik{a b:AEx}(h:wL a b=true):a=b:=by
 unfold wL at h;split at h
 ·rfl
 ·rfl
 ·have:=aaq h;subst this;rfl
 ·cases h
def kD(l:List Alt)(i:Nat)(ex:AEx)(env:T AV):Tr:=
 List.rec (motive:=λ_=>Nat->Tr) (λ_=>.fail) (λa _ ih i=>ac (wL a.ex ex) (pD a.tmps env λas=>.ret (.tup [.int .i64 (.ofNat i),.tup as])) (ih (Nat.succ i))) l i
def Lo(S:LSpec):XK:=λex env df=>match df with
 | []=>(match ex with
  | .normal=>Ii S.keep env (pD S.tmps env λas=>.ret (.tup [.int .i64 0,.tup as]))
  |ex=>Ii S.keep env (kD S.alts 1 ex env))
 |_=>.fail
def uL(H:T ABlk)(tm:List (Nat×Tm))(l:List Sa)(blk:List BSh)(as:List AV):Option PS:=
 bA (ia H blk l as {jN with tm:=tm}) λs=>bA (Ia H blk 0 s) λs=>bA (H_ H blk blk 0 s) λs=>bA (lK blk s.ln s) λs=>ac (ac (nk [] (List.length blk) s.loc) (rL s.fz s.loc) false) (ac (lL (List.length blk) s.loc) (some s) none) none
def pF(l:List Alt)(i:Nat):Option Alt:=List.rec (motive:=λ_=>Nat->Option Alt) (λ_=>none) (λa _ ih i=>Nat.rec (motive:=λ_=>Option Alt) (some a) (λi _=>ih i) i) l i
def TJ(S:LSpec)(z:Sy):Lf:=λa σ _=>match a with
 | .tup [.int .i64 (.ofNat i),.tup as]=>(match i with
  |0=>(match uL σ.h [] (Lm S.tmps) S.blk as with
   |some s=>.an s.pr (.at (S.inv (aP s.tm)/\S.mu (aP s.tm)<S.mu z/\∀y,S.post (aP s.tm) y->S.post z y))
   |none=>.ff)
  |i+1=>(match pF S.alts i with
   |some alt=>(match uL σ.h [(999,.i (.ofNat i))] (Lm alt.tmps) alt.out as with
    |some s=>.an s.pr (.at (S.post z (aP s.tm)))
    |none=>.ff)
   |none=>.ff))
 |_=>.ff
def LSpec.env(S:LSpec)(z:Sy):T AV:=VB S.keep (zR bO z S.tmps .leaf)
def LSpec.heap(S:LSpec)(z:Sy):T ABlk:=addTab S.gl (eS bO z S.blk 0 .leaf)
def LSpec.roundFm(S:LSpec)(P:Program)(M:Tab)(n fn id:Nat)(z:Sy)(h:Hn):Fm:=
 BF (uJ bO z S.tmps .leaf λenv=>VA S.keep env λenv=>wm P M n (kC P fn id) env (iM P fn id) fn none [] (Lo S)) (start (S.heap z) (base+64)) (TJ S z) h
def Lp(n:Nat)(S:LSpec):Bool:=ac (S.keep.all λt=>Nat.ble (Nat.succ t) n) (S.alts.all λa=>ac (pC S.blk a.out) (Nat.beq a.out.length S.blk.length) false) false
def Il{id:Nat}{t:Code}:∀{c d:Code},bB id c=some d->SubC c t->SubC (.block id d) t:=by
 intro c
 induction c with
 |block j a ih=>
  intro d h hs;replace h:ac (Nat.beq j id) (some a) (bB id a)=some d:=h;rw[ar] at h;split at h
  ·rename_i e;injection h with h;have:=aaq e;subst this;subst h;exact hs
  ·exact ih h (.block hs)
 |seq a b iha ihb=>
  intro d h hs
  have h:Option.rec (motive:=λ_=>Option Code) (bB id b) some (bB id a)=some d:=h
  cases ha:bB id a with
  |some d'=>rw[ha] at h;injection h with h;subst h;exact iha ha (.seqL hs)
  |none=>rw[ha] at h;exact ihb h (.seqR hs)
 |cond x a b iha ihb=>
  intro d h hs
  have h:Option.rec (motive:=λ_=>Option Code) (bB id b) some (bB id a)=some d:=h
  cases ha:bB id a with
  |some d'=>rw[ha] at h;injection h with h;subst h;exact iha ha (.condL hs)
  |none=>rw[ha] at h;exact ihb h (.condR hs)
 |loop a ih=>intro d h hs;exact ih h (.loop hs)
 |_=>intro d h;cases h
def Lq{P:Program}{fn id:Nat}(hl:eU P fn id=true):InF P fn none (kC P fn id):=λ_=>by
 unfold eU at hl;unfold kC;unfold rV at hl⊢;split at hl <;> try (cases hl;done)
 rename_i x cn hc;split at hc <;> try (cases hc;done)
 rename_i f hf;split at hc <;> try (cases hc;done)
 rename_i b hb;obtain⟨hn,hc⟩:=aU hc;split at hc <;> try (cases hc;done)
 rename_i c ad3;simp only [hn];exact .inr ⟨f,b,hf,hb,.loop (.block (Il ad3 (.refl b)))⟩
def X7(ρ:Rho)(l:List (Nat×Sa))(as:List AV)(tmps:Array Value):Prop:=cH (λ(x:Nat×Sa) a=>∃v,tmps[x.1]? =some v/\VR ρ a v) l as
section
variable{P:Program}{σ:St}{K:Fin}{ρ:Rho}
def iN{env:T AV}{k:List AV->Tr}:∀{l:List (Nat×Sa)},run (pD l env k) σ K=true->∃as,run (k as) σ K=true/\cH (λ(x:Nat×Sa) a=>env.get x.1=some a) l as
 | [],h=>⟨[],h,trivial⟩
 |x::l,h=>by obtain⟨a,ha,h⟩:=tH (show run (T.getK env x.1 .fail λa=>pD l env λl=>k (a::l)) σ K=true from h);obtain⟨as,h1,h2⟩:=iN (k:=λl=>k (a::l)) h;exact⟨a::as,h1,ha,h2⟩
def Lr{nt:Nat}{env:T AV}{tmps:Array Value}(hE:ER ρ nt env tmps):∀{l:List (Nat×Sa)} {as:List AV},cH (λ(x:Nat×Sa) a=>env.get x.1=some a) l as->X7 ρ l as tmps
 | [],[],_=>trivial
 |x::l,a::as,⟨h1,h2⟩=>⟨hE.val _ _ h1,Lr hE h2⟩
 | [],_::_,h=>h.elim
 |_::_,[],h=>h.elim
def oL{γ:lk}{y:Sy}:∀{l:List (Nat×Sa)} {t:T AV} {b:Nat} {a:AV},(zR γ y l t).get b=some a->(∃x,x∈l/\x.1=b/\a=kx γ y x.2)∨t.get b=some a:=by
 intro l
 induction l with
 |nil=>intro t b a h;exact .inr h
 |cons x l ih=>
  intro t b a h;rcases ih (t:=t.set x.1 (kx γ y x.2)) h with⟨z,h1,h2,h3⟩|h
  ·exact .inl ⟨z,aay _ h1,h2,h3⟩
  ·by_cases e:b=x.1
   ·subst e;exact .inl ⟨x,aaB,rfl,T.get_set_some _ _ h⟩
   ·rw[T.get_set_ne _ e] at h;exact .inr h
def wM{env:T AV}{ex:AEx}{A:AV}{σf:St}:∀{l:List Alt} {i:Nat},run (kD l i ex env) σ (λa s=>dP (a=A/\s=σf))=true->
 ∃j alt as,pF l j=some alt/\alt.ex=ex/\cH (λ(x:Nat×Sa) a=>env.get x.1=some a) alt.tmps as/\A= .tup [.int .i64 (.ofNat (i+j)),.tup as]/\σ=σf:=by
 intro l
 induction l with
 |nil=>intro i h;exact(ah h).elim
 |cons a l ih=>
  intro i h
  have h:run (ac (wL a.ex ex) (pD a.tmps env λas=>.ret (.tup [.int .i64 (.ofNat i),.tup as])) (kD l (Nat.succ i) ex env)) σ (λa s=>dP (a=A/\s=σf))=true:=h
  rcases bU h with⟨e,h⟩|⟨e,h⟩
  ·obtain⟨as,h1,h2⟩:=iN h;obtain⟨e1,e2⟩:=fA.1 (show dP (AV.tup [.int .i64 (.ofNat i),.tup as]=A/\σ=σf)=true from h1);exact⟨0,a,as,rfl,Ik e,h2,e1.symm,e2⟩
  ·obtain⟨j,alt,as,h1,h2,h3,h4,h5⟩:=ih h;exact⟨j+1,alt,as,h1,h2,h3,by rw[h4,show Nat.succ i+j=i+(j+1) by omega],h5⟩
def zV{H:T ABlk}{tm:List (Nat×Tm)}{l:List Sa}{blk:List BSh}{as:List AV}{s:PS}(h:uL H tm l blk as=some s)(hp:s.pr):
 cH (TvA (mC s H) blk s.L (aP s.tm)) l as/\(∀j x,blk[j]? =some x->∃b g,s.L j=some (b,g)/\∃q,H.get b=some q/\BT ρ (mC s H) blk s.L (aP s.tm) x q g)/\Fin2 [] blk.length s blk.length:=by
 obtain⟨s1,h1,h⟩:=az h
 obtain⟨s2,h2,h⟩:=az h
 obtain⟨s3,h3,h⟩:=az h
 obtain⟨s4,h4,h⟩:=az h
 obtain⟨h5,h⟩:=aU h
 obtain⟨h6,h⟩:=aU h
 injection h with h
 subst h
 obtain⟨h5,h7⟩:=aC h5
 have hln:=kT h4 hp
 obtain⟨f1,_,_,_,_⟩:=ef h4
 obtain⟨p1,p2⟩:=fX (blk:=blk) h1
 obtain⟨st,_,_⟩:=qn h2
 obtain⟨b1,b2⟩:=qp (ρ:=ρ) h3
 refine⟨p2 s4 (st.trans (b1.trans f1)) hp hln,λj x hx=>?_,EA h5 h6 h7⟩
 obtain⟨b,g,q1,q2⟩:=b2 s4 f1 hp hln j x hx
 exact⟨b,g,by rw[aaC] at q1;exact q1,q2⟩
def mn(P:Program)(fn id:Nat)(S:LSpec)(z y:Sy):Prop:=
 ∀(w:World) (ρ:Rho) (a:Act) (Q:Exit->Act->World->Prop),Good w ρ (S.heap z) w->OwnOk ρ->ρ.frz0=ρ.frz->ER ρ (iM P fn id) (S.env z) a.tmps->a.defers= []->
  (∀(ρ':Rho) (wx w':World) (H':T ABlk) (a':Act) (i:Nat) (alt:Alt) (as:List AV) (s:PS),FinRel S.blk ρ w ρ' wx->Good wx ρ' H' w'->pF S.alts i=some alt->a'.tmps.size=iM P fn id->a'.defers= []->
   X7 ρ' alt.tmps as a'.tmps->uL H' [(999,.i (.ofNat i))] (Lm alt.tmps) alt.out as=some s->s.pr->y=aP s.tm->(∀t∈S.keep,a'.tmps[t]? =some (ρ.val t))->Q (X6 alt.ex) a' w')->jo P none (kC P fn id) Q a w
def rW{R:Sa->AV->Prop}:∀{l:List (Nat×Sa)} {as:List AV},cH R (Lm l) as->cH (λ(x:Nat×Sa) a=>R x.2 a) l as
 | [],[],_=>trivial
 |x::l,a::as,h=>⟨h.1,rW h.2⟩
 | [],_::_,h=>h.elim
 |_::_,[],h=>h.elim
def rX{α β:Type}{R:α->β->Prop}:∀{l:List α} {m:List β} {x:α},cH R l m->x∈l->∃b,R x b
 | [],[],x,_,h=>by cases h
 |a::l,b::m,x,⟨h1,h2⟩,h=>by
  rcases List.mem_cons.1 h with e|h
  ·subst e;exact⟨b,h1⟩
  ·exact rX h2 h
 | [],_::_,_,h,_=>h.elim
 |_::_,[],_,h,_=>h.elim
def rY{α β:Type}{R S:α->β->Prop}:∀{l:List α} {m:List β},cH R l m->cH S l m->cH (λa b=>R a b/\S a b) l m
 | [],[],_,_=>trivial
 |_::_,_::_,⟨h1,h2⟩,⟨h3,h4⟩=>⟨⟨h1,h3⟩,rY h2 h4⟩
 | [],_::_,h,_=>h.elim
 |_::_,[],h,_=>h.elim
def uM{vl:Nat->Value}{w w':World}{ρ ρ':Rho}{H':T ABlk}{S:LSpec}{as:List AV}{s:PS}{a':Act}{nt:Nat}(ho:OwnOk ρ)(hf0:ρ.frz0=ρ.frz)(f6:Good w ρ' H' w')(hle:ρ.le ρ')(hs:uL H' [] (Lm S.tmps) S.blk as=some s)(hp:s.pr)(p8:a'.tmps.size=nt)(j0:X7 ρ' S.tmps as a'.tmps)(c7:S.blk.length<=64)(af1:TabIn ρ S.gl)(htk:∀t∈S.keep,a'.tmps[t]? =some (vl t)):
 ∃ρ2:Rho,ρ2.val=vl/\Good w' ρ2 (S.heap (aP s.tm)) w'/\OwnOk ρ2/\ρ2.frz0=ρ2.frz/\ER ρ2 nt (S.env (aP s.tm)) a'.tmps/\∀ρf wx,FinRel S.blk ρ2 w' ρf wx->FinRel S.blk ρ w ρf wx:=by
 obtain⟨t1,t2,t3⟩:=zV (ρ:=ρ') hs hp
 have hm:MvHyp w ρ' H' (mC s H') w' w w' s.L bO S.blk (aP s.tm) (zN w ρ' H' s.L) (ky w.heap.size ρ' H' w' w s.L):=
  {good:=f6,hb:=t2,dom:=λj p h=>(t3.t3 j p.1 p.2 h).1,linj:=t3.t4,
   ginj:=λa b _ _ e=>by have e:base+a=base+b:=e;omega,g64:=λj hj=>by have:=EC;show base+j+1<_;omega,
   g0:=λ_ _ _ _=>rfl,kept:=Kept.refl _ _ _,owns:=λj h h1 h2=>.inr ⟨j,h,h1,rfl,h2⟩,
   frF:=λb x hb hF=>⟨(iL hF).1,t3.t5 b (iL hF).2,λg h hh d4=>by
    rcases d4 with d4|d4
    ·exact d4
    ·rw[hle.own] at d4;obtain⟨j,g0,h0,q1,q2,q3⟩:=ho _ d4;have:=(f6.inj _ _ _ _ _ _ (hle.at_ _ _ _ q2) hh q1).1;omega⟩,
   frz:=λb x h _=>h}
 have aj3:OwnOk (ll w.heap.size ρ' H' w' w s.L bO S.blk.length (zN w ρ' H' s.L) (ky w.heap.size ρ' H' w' w s.L) vl):=λx hx=>by obtain⟨j,h,q1,q2,q3⟩:=hx;obtain⟨b,g,_,e,_⟩:=c_ q1;have hj:=(t3.t3 _ _ _ e).1;obtain⟨g',hg'⟩:=zP hm q1 (by rw[q2];exact q3) hj;exact⟨j,g',h,q2,hg',abh hj c7⟩
 have ac8:∀j x,S.blk[j]? =some x->iJ x=true->∃q,s.L j=some (base+j,0)/\H'.get (base+j)=some q/\BT ρ' (mC s H') S.blk s.L (aP s.tm) x q 0/\j<S.blk.length:=λj x hx j9=>by obtain⟨b,g,e1,q,e2,e3⟩:=t2 j _ hx;have:=(gP e3).1 j9;subst this;have hj:=(t3.t3 _ _ _ e1).1;have:=t3.at0 e1 hj;subst this;exact⟨q,e1,e2,e3,hj⟩
 have L':∀j g h,EB S.blk j->ρ'.at_ (base+j) g=some h->(ll w.heap.size ρ' H' w' w s.L bO S.blk.length (zN w ρ' H' s.L) (ky w.heap.size ρ' H' w' w s.L) vl).at_ (base+j) g=some h:=λj g h hc h1=>by obtain⟨k,C,t,hx⟩:=hc;obtain⟨q,e1,e2,e3,hj⟩:=ac8 j _ hx rfl;obtain⟨_,e⟩:=e3;subst e;exact js hm hj ⟨_,_,_,_,_,e1,e2⟩ e1 h1 (f6.objO _ _ _ _ e2 _ _ h1).1
 refine⟨_,rfl,Good.addTab ⟨hm.to0,aj3.B⟩ (af1.mono λb x h=>eA (hle.frz _ _ h)),aj3,rfl,⟨p8,λt a ha=>?_⟩,λρf wx hF=>?_⟩
 ·rcases zT ha with⟨h1,h2⟩|ha
  ·subst h2;exact⟨_,htk _ h1,.opq _⟩
  rcases oL ha with⟨x,h1,h2,h3⟩|h
  ·subst h3;obtain⟨b,⟨v,hv,hr⟩,htv⟩:=rX (rY j0 (rW t1)) h1;exact⟨v,by rw[←h2];exact hv,TvA.vr hm htv hr⟩
  ·simp [T.get] at h
 ·have at4:=f6.below.size;refine⟨?_,λb x hx=>hF.frz _ _ (eA (hle.frz _ _ hx)),λb x hx c8=>?_,λx hx=>?_,λj h hc hh=>?_,λj g h hc hh=>hF.objs j g h hc (L' j g h hc (hle.at_ _ _ _ hh))⟩
  ·have hk:=f6.below;rw[hle.own] at hk;refine hk.trans ⟨hF.kept.os,hF.kept.tape,hF.kept.output,hF.kept.size,λx hx j5=>hF.kept.block x (by omega) λhpo=>?_⟩;obtain⟨_,_,_,_,q⟩:=hpo;rcases q with q|q
   ·omega
   ·rw[hle.own] at q;exact j5 q
  ·have h1:=hF.frzB b x hx (by omega);have h1:ky w.heap.size ρ' H' w' w s.L b=some x:=h1;unfold ky at h1;split at h1
   ·rename_i x' w9;injection h1 with h1;subst h1;have:=f6.frzB b _ w9 c8;rw[hle.frz0,hf0] at this;exact this
   ·split at h1
    ·rename_i hc;omega
    ·cases h1
  ·obtain⟨j,g,h,q1,q2,q3,q4⟩:=hF.ownx x hx;refine⟨j,g,h,q1,q2,q3, ?_⟩;rcases q4 with q4|⟨q4,g',q5⟩
   ·exact .inl (by omega)
   ·obtain⟨_,_,_,_,q6⟩:=q4;rcases q6 with q6|q6
    ·exact .inl q6
    ·rw[hle.own] at q6;refine .inr ⟨q6, ?_⟩;obtain⟨j',hj',e1,hGj⟩:=ez (show iu w.heap.size ρ' H' s.L bO S.blk.length (base+j) g'=some h from q5);have e1:base+j'=base+j:=e1;have:j'=j:=by omega
     subst this;obtain⟨b,g1,g2,e3,e4⟩:=c_ (eu hGj).1;have:=t3.at0 e3 hj';subst this;obtain⟨j2,g3,h2,r1,r2,r3⟩:=ho _ q6;obtain⟨u1,u2⟩:=f6.inj _ _ _ _ _ _ (hle.at_ _ _ _ r2) e4 (by rw[r1,q1]);have:j2=j':=by omega
     subst this;subst u2;exact⟨g3,r2⟩
  ·have h1:=hle.at_ _ _ _ hh;obtain⟨x,hx,j9⟩:=hc;refine hF.stb j h ⟨x,hx,j9⟩ ?_;by_cases hob:EB S.blk j
   ·exact L' j 0 h hob h1
   ·obtain⟨q,e1,e2,e3,hj⟩:=ac8 j x hx j9;have j5:¬yj H' s.L j:=λ⟨b2,g2,k,I,l,f1,f2⟩=>by rw[e1] at f1;injection f1 with f1;injection f1 with f1 _;subst f1;rw[e2] at f2;injection f2 with f2;obtain⟨k,C,t,e⟩:=(gP e3).2.1.2 ⟨k,I,l,f2⟩;exact hob ⟨k,C,t,by rw[hx,e]⟩
    refine(ew hm hj j5).trans ?_;unfold bw;rw[e1];have:∀c g ty,q= .grow c g ty->¬c.len=0:=λc g ty e=>by
     subst e
     cases x with
     |cells ty l=>obtain⟨_,c,as,e,_⟩:=e3;cases e
     |sm m t=>obtain⟨_,e|⟨c,e,_⟩⟩:=e3 <;> cases e
     |arr m ty t=>obtain⟨_,e,i3⟩:=e3;injection e with e;subst e;intro h0;have h0:List.length _=0:=h0;omega
     |arb ty t=>obtain⟨_,e,i3⟩:=e3;injection e with e;subst e;intro h0;have h0:List.length _=0:=h0;omega
     |obj k C t=>obtain⟨_,e⟩:=e3;cases e
     |_=>cases j9
    simp only [e2];split
    ·rename_i e;injection e with e;rw[if_neg (this _ _ _ e)];exact h1
    ·exact h1
def qq{i j:Int}{as bs:List AV}(h:AV.tup [.int .i64 i,.tup as]= .tup [.int .i64 j,.tup bs]):i=j/\as=bs:=by injection h with h;injection h with h1 h2;injection h1 with _ h1;injection h2 with h2 _;injection h2 with h2;exact⟨h1,h2⟩
def QC{M:Tab}(hM:TabOk P M){n fn id:Nat}{S:LSpec}(hl:eU P fn id=true)(c7:S.blk.length<=64)(hgl:∀g ty l,S.gl=some (g,ty,l)->g<1048576)(h:∀z,S.inv z->∃hn,(S.roundFm P M n fn id z hn).den):
 ∀(m:Nat) (z:Sy),S.mu z=m->S.inv z->∃y,S.post z y/\mn P fn id S z y:=by
 intro m
 induction m using Nat.strongRecOn with
 |_ m ih=>
 intro z hm hz
 obtain⟨hn,hd⟩:=h z hz
 obtain⟨A,σf,e,hn',l8⟩:=Cr _ _ _ _ hd
 replace e:∀K,run (wm P M n (kC P fn id) (S.env z) (iM P fn id) fn none [] (Lo S)) (start (S.heap z) (base+64)) K=K A σf:=λK=>by rw[←e K,zS,QB];rfl
 have round:∀(w:World) (ρ:Rho) (a:Act) (Q:Exit->Act->World->Prop),Good w ρ (S.heap z) w->ER ρ (iM P fn id) (S.env z) a.tmps->a.defers= []->
  (∀(ρ':Rho) (w':World) (a':Act) (ex:AEx) (as:List AV),ρ.le ρ'->Good w ρ' σf.h w'->a'.tmps.size=iM P fn id->a'.defers= []->(∀t∈S.keep,a'.tmps[t]? =some (ρ.val t))->
   ((ex= .normal/\A= .tup [.int .i64 0,.tup as]/\X7 ρ' S.tmps as a'.tmps)∨(ex≠ .normal/\∃i alt,pF S.alts i=some alt/\alt.ex=ex/\A= .tup [.int .i64 (.ofNat (i+1)),.tup as]/\X7 ρ' alt.tmps as a'.tmps))->
   (match X6 ex with | .normal=>jo P none (kC P fn id) Q a' w'|e=>Q e a' w'))->jo P none (kC P fn id) Q a w:=by
  intro w ρ a Q hG hE hdf Y'
  refine H6 ((qm P hM w n).1 (kC P fn id) (S.env z) (iM P fn id) fn [] (Lo S) (start (S.heap z) (base+64)) (λa' s'=>dP (a'=A/\s'=σf)) ρ w a _ none none rfl (ne (by decide) (by decide)) hG hE (by rw[hdf];trivial) (by rw[e];exact fA.2 ⟨rfl,rfl⟩) (λex env' df' a8 ρ' w' a' q1 q2 q3 q4 q5 q6=>?_) (Lq hl))
  cases df' with
  |cons _ _=>exact(ah q1).elim
  |nil=>
  have U':a'.defers= []:=by
   cases hd:a'.defers with
   |nil=>rfl
   |cons _ _=>rw[hd] at q6;exact q6.elim
  have toks:(∀n∈S.keep,env'.get n=some (.opq n))->∀t∈S.keep,a'.tmps[t]? =some (ρ.val t):=λh t ht=>by obtain⟨v,h1,h2⟩:=q5.val _ _ (h t ht);cases h2;rw[←q4.val];exact h1
  have alts:run (kD S.alts 1 ex env') a8 (λa' s'=>dP (a'=A/\s'=σf))=true->∃as,a8=σf/\∃i alt,pF S.alts i=some alt/\alt.ex=ex/\A= .tup [.int .i64 (.ofNat (i+1)),.tup as]/\X7 ρ' alt.tmps as a'.tmps:=λq=>by obtain⟨j,alt,as,r1,r2,r3,r4,r5⟩:=wM q;exact⟨as,r5,j,alt,r1,r2,by rw[r4,Nat.add_comm],Lr q5 r3⟩
  have other:ex≠ .normal->run (Ii S.keep env' (kD S.alts 1 ex env')) a8 (λa' s'=>dP (a'=A/\s'=σf))=true->(match X6 ex with | .normal=>jo P none (kC P fn id) Q a' w'|e=>Q e a' w'):=λi5 q=>by obtain⟨q,hk⟩:=zU q;obtain⟨as,r1,r2⟩:=alts q;subst r1;exact Y' ρ' w' a' ex as q4 q3 q5.size U' (toks hk) (.inr ⟨i5,r2⟩)
  cases ex with
  |normal=>
   obtain⟨q1,hk⟩:=zU (show run (Ii S.keep env' (pD S.tmps env' λas=>.ret (.tup [.int .i64 0,.tup as]))) a8 _=true from q1)
   obtain⟨as,r1,r2⟩:=iN q1
   obtain⟨e1,e2⟩:=fA.1 (show dP (AV.tup [.int .i64 0,.tup as]=A/\a8=σf)=true from r1)
   subst e2
   exact Y' ρ' w' a' .normal as q4 q3 q5.size U' (toks hk) (.inl ⟨rfl,e1.symm,Lr q5 r2⟩)
  |exit i=>exact other (λh=>by cases h) q1
  |goto l=>exact other (λh=>by cases h) q1
  |ret=>exact other (λh=>by cases h) q1
 unfold TJ at l8
 split at l8
 case h_2=>exact l8.elim
 rename_i i as
 split at l8
 ·split at l8;case h_2=>exact l8.elim
  rename_i s hs;have hsp:=l8.1;obtain⟨k1,k2,k3⟩:=l8.2 l8.1;obtain⟨y,y1,y2⟩:=ih (S.mu (aP s.tm)) (by omega) (aP s.tm) rfl k1;refine⟨y,k3 y y1,λw ρ a Q hG ho hf0 hE hdf hQ=>round w ρ a Q hG hE hdf λρ' w' a' ex j6 hle f6 p8 U' htk hor=>?_⟩;rcases hor with⟨r1,r2,r3⟩|⟨_,i,alt,_,_,r2,_⟩
  ·subst r1;obtain⟨_,r2⟩:=qq r2;subst r2;obtain⟨ρ2,g0,g1,g2,g3,g4,g5⟩:=uM (a':=a') ho hf0 f6 hle hs hsp p8 r3 c7 (Good.tabIn (z:=z) hgl hG) htk;exact y2 w' ρ2 a' Q g1 g2 g3 g4 U' λρf wx wf Hf af j alt asf sf hF h1 h2 h3 h4 h5 h6 h7 h8 h9=>hQ ρf wx wf Hf af j alt asf sf (g5 ρf wx hF) h1 h2 h3 h4 h5 h6 h7 h8 (by rw[←g0];exact h9)
  ·obtain⟨r2,_⟩:=qq r2;have r2:((0:Nat):Int)=((i+1:Nat):Int):=r2;omega
 ·rename_i j;split at l8;case h_2=>exact l8.elim
  rename_i alt halt;split at l8;case h_2=>exact l8.elim
  rename_i s hs;have hsp:=l8.1;have k1:=l8.2 l8.1;refine⟨aP s.tm,k1,λw ρ a Q hG ho hf0 hE hdf hQ=>round w ρ a Q hG hE hdf λρ' w' a' ex j6 hle f6 p8 U' htk hor=>?_⟩;rcases hor with⟨r1,r2,r3⟩|⟨i5,i,at5,r1,r1',r2,r3⟩
  ·obtain⟨r2,_⟩:=qq r2;have r2:((j+1:Nat):Int)=0:=r2;omega
  ·obtain⟨r2,r4⟩:=qq r2
   have r2:((j+1:Nat):Int)=((i+1:Nat):Int):=r2
   have r2:j=i:=by omega
   subst r2;subst r4
   rw[halt] at r1;injection r1 with r1;subst r1
   have hq:=hQ ρ' w w' σf.h a' j alt as s (FinRel.of_le hle ho hf0) f6 halt p8 U' r3 hs hsp rfl htk
   rw[r1'] at hq
   cases ex with
   |normal=>exact absurd rfl i5
   |_=>exact hq
end
noncomputable section
structure LTab where
 ptm:List (Nat×Sa)
 S:Sy->LSpec
def EG(e0:T AV)(id:Nat)(γ:lk)(y:Sy)(l:List Alt)(i:Nat)(k:AEx->T AV->Tr):Tr:=
 List.rec (motive:=λ_=>Nat->Tr) (λ_=>.fail) (λa l ih i=>
  let go:Tr:=Vv γ y a.out 0 (uJ γ y a.tmps e0 λenv=>match a.ex with
   | .exit j=>ac (Nat.beq j id) (k .normal env) (k (.exit j) env)
   |ex=>k ex env)
  List.rec (motive:=λ_=>Tr) go (λ_ _ _=>.ask (y.i 999=(i:Int)) go (ih (Nat.succ i))) l) l i
def VC(ptm:List (Nat×Sa))(LS:Sy->LSpec)(zf:(p z:Sy)->{y:Sy // (LS p).inv z->(LS p).post z y})(n id:Nat)(nt:Nat)(env:T AV)(k:AEx->T AV->Tr):Tr:=
 ac (Nat.beq nt n) (pD ptm env λpas=>jr [] [] (Lm ptm) pas λpas=>dr (ia .leaf [] (Lm ptm) pas jN) .fail λps=>
  Qr (LS (aP ps.tm)).gl <| pD (LS (aP ps.tm)).tmps env λas=>jr [] (LS (aP ps.tm)).blk (Lm (LS (aP ps.tm)).tmps) as λas=>dr (ia .leaf (LS (aP ps.tm)).blk (Lm (LS (aP ps.tm)).tmps) as jN) .fail λs=>
   uC (LS (aP ps.tm)).blk (LS (aP ps.tm)).blk 0 s λs=>dr (lK (LS (aP ps.tm)).blk s.ln s) .fail λs=>
    ac (ac (Lp n (LS (aP ps.tm))) (lL (List.length (LS (aP ps.tm)).blk) s.loc) false) (.req (s.pr/\(LS (aP ps.tm)).inv (aP s.tm))
     (.sk (λy=>(LS (aP ps.tm)).inv (aP s.tm)->(LS (aP ps.tm)).post (aP s.tm) y) (zf (aP ps.tm) (aP s.tm)) λy=>uK (LS (aP ps.tm)).keep env .leaf λe0=>EG e0 id (pU (LS (aP ps.tm)).blk (oI s)) y (LS (aP ps.tm)).alts 0 k)) .fail) .fail
end
section
variable{P:Program}{w0:World}{σ:St}{K:Fin}{ρ:Rho}
def Ls{e0:T AV}{id:Nat}{γ:lk}{y:Sy}{k:AEx->T AV->Tr}{i0:Nat}(hi:y.i 999=(i0:Int)):∀{l:List Alt} {i:Nat} {alt:Alt} {j:Nat},pF l j=some alt->i+j=i0->run (EG e0 id γ y l i k) σ K=true->
 run (Vv γ y alt.out 0 (uJ γ y alt.tmps e0 λenv=>match alt.ex with
  | .exit j=>ac (Nat.beq j id) (k .normal env) (k (.exit j) env)
  |ex=>k ex env)) σ K=true:=by
 intro l
 induction l with
 |nil=>intro i alt j h;cases h
 |cons a l ih=>
  intro i alt j h e hr
  cases l with
  |nil=>
   cases j with
   |zero=>injection h with h;subst h;exact hr
   |succ j=>cases h
  |cons b l=>
   rcases du (show run (.ask (y.i 999=(i:Int)) (Vv γ y a.out 0 (uJ γ y a.tmps e0 λenv=>match a.ex with
    | .exit j=>ac (Nat.beq j id) (k .normal env) (k (.exit j) env)
    |ex=>k ex env)) (EG e0 id γ y (b::l) (Nat.succ i) k)) σ K=true from hr) with⟨hp,hr⟩|⟨hp,hr⟩
   ·have:j=0:=by omega
    subst this;injection h with h;subst h;exact hr
   ·cases j with
    |zero=>exact absurd (by rw[hi];congr 1;omega) hp
    |succ j=>exact ih h (by omega) hr
def Im{n:Nat}{S:LSpec}(h:Lp n S=true):∀{i:Nat} {alt:Alt},pF S.alts i=some alt->pC S.blk alt.out=true/\alt.out.length=S.blk.length:=by
 have h:S.alts.all (λa=>ac (pC S.blk a.out) (Nat.beq a.out.length S.blk.length) false)=true:=(aC h).2;have key:∀{l:List Alt} {i:Nat} {alt:Alt},pF l i=some alt->alt∈l:=by
  intro l
  induction l with
  |nil=>intro i alt h;cases h
  |cons a l ih=>
   intro i alt h
   cases i with
   |zero=>injection h with h;rw[h];exact aaB
   |succ i=>exact aay _ (ih h)
 intro i alt ha;obtain⟨h1,h2⟩:=aC ((List.all_eq_true.1 h) alt (key ha));exact⟨h1,aaq h2⟩
def In{H:T ABlk}{n:Int}{l:List Sa}{blk:List BSh}{as:List AV}{s:PS}(h:uL H [(999,.i n)] l blk as=some s):(aP s.tm).i 999=n:=by obtain⟨s1,h1,h⟩:=az h;obtain⟨s2,h2,h⟩:=az h;obtain⟨s3,h3,h⟩:=az h;obtain⟨s4,h4,h⟩:=az h;obtain⟨h5,h⟩:=aU h;obtain⟨h6,h⟩:=aU h;injection h with h;subst h;obtain⟨f1,_⟩:=ef h4;obtain⟨p1,_⟩:=fX (blk:=blk) h1;obtain⟨st,_,_⟩:=qn h2;obtain⟨b1,_⟩:=qp (ρ:=⟨λ_ _=>none,λ_=>undef,λ_=>False,λ_=>none,λ_=>none⟩) h3;exact K8 ((p1.trans (st.trans (b1.trans f1))).tm 999 (.i n) rfl)
def VD{fn id:Nat}{ptm:List (Nat×Sa)}{LS:Sy->LSpec}{zf:(p z:Sy)->{y:Sy // (LS p).inv z->(LS p).post z y}}(hl:eU P fn id=true)(c7:∀p,(LS p).blk.length<=64)(hC:∀p z,(LS p).inv z->mn P fn id (LS p) z (zf p z).1)(w0:World):
 TE P w0 fn id (VC ptm LS zf (iM P fn id) id):=by
 intro c env nt k σ0 K ρ0 w a Q hS0 hG0 hE0 hdf h hQ0 ai0
 have hc:=zQ hl ai0
 subst hc
 obtain⟨hnt,z0⟩:=ay h
 have hnt:=aN hnt
 obtain⟨at6,z00,aq9⟩:=iN z0
 have al1:∀{l:List (Nat×Sa)} {as:List AV},cH (λ(x:Nat×Sa) a=>env.get x.1=some a) l as->∃vs,LR ρ0 as vs:=by
  intro l
  induction l with
  |nil=>intro as h;cases as with|nil=>exact⟨[],LR.nil _⟩|cons _ _=>exact h.elim
  |cons x l ih=>
   intro as h
   cases as with
   |nil=>exact h.elim
   |cons b as=>obtain⟨v,hv,hr⟩:=hE0.val _ _ h.1;obtain⟨vs,h1⟩:=ih h.2;exact⟨v::vs,LR.cons hr h1⟩
 obtain⟨pvs,aq_⟩:=al1 aq9
 obtain⟨pas,σ,ρ,z1,hS,hG,ao4,_,_⟩:=iK hS0 hG0 aq_ z00
 have hE:ER ρ nt env a.tmps:=hE0.mono ao4
 have hQ:K3 w0 ρ K nt k Q:=λex env' df' a8 ρ' w' a' q1 q2 q3 q4 q5 q6=>hQ0 ex env' df' a8 ρ' w' a' q1 q2 q3 (ao4.trans q4) q5 q6
 obtain⟨ps,tV,z2⟩:=cb z1
 obtain⟨p,hp⟩:∃p,p=aP ps.tm:=⟨_,rfl⟩
 rw[←hp] at z2
 obtain⟨σt,eh,hSt,z2t,af1⟩:=wK hS hG z2
 have hGt:Good w0 ρ σt.h w:=by rw[eh];exact hG
 obtain⟨as,z3,has⟩:=iN z2t
 have ao5:∀{l:List (Nat×Sa)} {as:List AV},cH (λ(x:Nat×Sa) a=>env.get x.1=some a) l as->∃vs,LR ρ as vs/\cH (λ(x:Nat×Sa) v=>a.tmps[x.1]? =some v) l vs:=by
  intro l
  induction l with
  |nil=>intro as h;cases as with|nil=>exact⟨[],LR.nil _,trivial⟩|cons _ _=>exact h.elim
  |cons x l ih=>
   intro as h
   cases as with
   |nil=>exact h.elim
   |cons b as=>obtain⟨v,hv,hr⟩:=hE.val _ _ h.1;obtain⟨vs,h1,h2⟩:=ih h.2;exact⟨v::vs,LR.cons hr h1,hv,h2⟩
 obtain⟨vs,ar0,htv⟩:=ao5 has
 obtain⟨j6,b6,x7,z4,a9,b7,m8,hlen,hlr⟩:=iK hSt hGt ar0 z3
 obtain⟨s0,hs0,z5⟩:=cb z4
 obtain⟨s1,c9,ρ2,z6,d6,f9,d8,ak8,_,n8⟩:=zK a9 b7 z5
 obtain⟨s2,hs2,z7⟩:=cb z6
 obtain⟨ah2,z8⟩:=ay z7
 obtain⟨⟨hpr,V'⟩,z9⟩:=aQ z8
 clear h z0 z00 z1 z2 z3 z4 z5 z6 z7 z8
 obtain⟨hcA,hcL⟩:=aC ah2
 obtain⟨p1,p2⟩:=fX (blk:=(LS p).blk) hs0
 obtain⟨f1,f2,f3,f4,_⟩:=ef hs2
 have hln:=kT hs2 hpr
 have o6:LR ρ2 j6 vs:=(hlr (by rw[←hlen];exact mm hs0)).mono d8
 have g8:=p2 s2 (ak8.trans f1) hpr hln
 rw[kA] at g8
 have hL:=ED f9 hs2 hpr n8 (c7 p) hcL
 obtain⟨z,hz⟩:∃z,z=aP s2.tm:=⟨_,rfl⟩
 rw[←hz] at V' z9 g8 hL
 have z9:run (uK (LS p).keep env .leaf λe0=>EG e0 id (pU (LS p).blk (oI s2)) (zf p z).1 (LS p).alts 0 (λex env=>k ex env [])) c9 K=true:=z9
 rw[Ln] at z9
 obtain⟨vl,hvl⟩:∃vl:Nat->Value,vl=λt=>(a.tmps[t]?).getD undef:=⟨_,rfl⟩
 have hkp:∀t∈(LS p).keep,a.tmps[t]? =some (vl t):=λt ht=>by have c8:=aaL (List.all_eq_true.1 (aC hcA).1 t ht);have e1:=aa0 (xs:=a.tmps) (i:=t) (by rw[hE.size,hnt];exact c8);rw[hvl];show a.tmps[t]? =some ((a.tmps[t]?).getD undef);rw[e1];rfl
 have hLb:=TvAs.lr (vl:=vl) hL.mv g8 o6
 have hER:ER (zO w0 ρ2 c9.h w s2.L (LS p).blk vl) nt ((LS p).env z) a.tmps:=by
  refine⟨hE.size,λt b hb=>?_⟩;rcases zT hb with⟨h1,h2⟩|hb
  ·subst h2;exact⟨_,hkp _ h1,.opq _⟩
  rcases oL hb with⟨x,h1,h2,h3⟩|h
  ·subst h3;have key:∀{l:List (Nat×Sa)} {vs:List Value},cH (λ(x:Nat×Sa) v=>a.tmps[x.1]? =some v) l vs->LR (zO w0 ρ2 c9.h w s2.L (LS p).blk vl) (nh bO z (Lm l)) vs->∀x∈l,∃v,a.tmps[x.1]? =some v/\VR (zO w0 ρ2 c9.h w s2.L (LS p).blk vl) (kx bO z x.2) v:=by
    intro l
    induction l with
    |nil=>intro vs _ _ x hx;cases hx
    |cons q l ih=>
     intro vs h1 h2 x hx
     cases vs with
     |nil=>exact h1.elim
     |cons v vs=>
      obtain⟨v',m7,e,hv,l3⟩:=LR.cons_inv (show LR _ (kx bO z q.2::nh bO z (Lm l)) (v::vs) from h2);injection e with e1 e2;subst e1;subst e2;rcases List.mem_cons.1 hx with e|hx
      ·subst e;exact⟨v,h1.1,hv⟩
      ·exact ih h1.2 l3 x hx
   obtain⟨v,r1,r2⟩:=key htv hLb x h1;exact⟨v,by rw[←h2];exact r1,r2⟩
  ·simp [T.get] at h
 subst hnt
 refine wpIn_block (Ew (hC p z V' w _ a _ ((hL.to (vl:=vl)).addTab ((af1.mono (m8.trans d8).frz).mono λb x h=>eA h)) hL.ownOk (frzE _ _ _ _ _ _ _).symm hER hdf λρ' wx w' H' a' i alt asf s hF f6 halt p8 U' j0 hpt hsp hy htk=>?_))
 have ao6:=In hpt
 obtain⟨t1,t2,t3⟩:=zV (ρ:=ρ') hpt hsp
 rw[←hy] at t1 t2 ao6
 have z10:=Ls (i0:=i) ao6 halt (aaC _) z9
 obtain⟨σ3,z11,hS3,e3,ar1⟩:=Ld d6 z10
 obtain⟨hsk,aj4⟩:=Im hcA halt
 obtain⟨ρ3,m1,m2,m3,_⟩:=TI (F:=mC s H') hL hsk (λj x b g hx hl=>EE hx hl) (λj h1 h2=>by omega) (λi hi=>by have:=ar1 i hi;rwa [aaC] at this) f6 hF (λb x hF=>⟨(iL hF).1,t3.t5 b (iL hF).2⟩) t2 (λj b g h=>by obtain⟨q1,_,q3⟩:=t3.t3 j b g h;have q2:j<alt.out.length->b=base+j:=λhj=>t3.at0 h hj;rw[aj4] at q1 q2 q3;exact⟨by rw[aj4];exact q1,λhj=>.inl (q2 hj),q3⟩) t3.t4
 rw[zS] at z11
 have hE2:ER ρ3 (iM P fn id) (zR (pU (LS p).blk (oI s2)) (zf p z).1 alt.tmps (pE (LS p).keep env .leaf)) a'.tmps:=by
  refine⟨p8,λt b hb=>?_⟩;rcases oL hb with⟨x,h1,h2,h3⟩|h
  ·subst h3;obtain⟨b,⟨v,hv,hr⟩,htv⟩:=rX (rY j0 (rW t1)) h1;exact⟨v,by rw[←h2];exact hv,m3 _ _ _ htv hr⟩
  ·rcases Ij h with⟨h1,h2⟩|h
   ·obtain⟨v,h3,h4⟩:=hE.val _ _ h2;rw[hkp _ h1] at h3;injection h3 with h3;exact⟨v,by rw[←h3];exact htk _ h1,h4.mono ((m8.trans d8).trans m2)⟩
   ·simp [T.get] at h
 have hDR:DR ρ3 [] a'.defers:=by rw[U'];trivial
 have K':Good w0 ρ3 σ3.h w':=by rw[e3];exact m1
 have fin:∀ex,run (k ex (zR (pU (LS p).blk (oI s2)) (zf p z).1 alt.tmps (pE (LS p).keep env .leaf)) []) σ3 K=true->Q (X6 ex) a' w':=λex hr=>hQ ex _ [] σ3 ρ3 w' a' hr hS3 K' ((m8.trans d8).trans m2) hE2 hDR
 generalize alt.ex=ex at z11
 cases ex with
 |normal=>exact fin .normal z11
 |exit j=>
  rcases bU z11 with⟨e,hr⟩|⟨e,hr⟩
  ·have e:=aN e;show(if j=id then Q .normal a' w' else Q (.exit j) a' w');rw[if_pos e];exact fin .normal hr
  ·show(if j=id then Q .normal a' w' else Q (.exit j) a' w');rw[if_neg (λe'=>by subst e';simp at e)];exact fin (.exit j) hr
 |goto l=>exact fin (.goto l) z11
 |ret=>exact fin .ret z11
end
end
end Go.Sym
namespace Go.Sym
open Go.RowKit (Below)
noncomputable section
def uN(x:Sh)(a:AV)(k:AV->Tr):Tr:=match x with
 | .v _ _=>(match a with
  | .gsl b g n es=>.rd b λq=>(match q with | .grow ct gen _=>ac (Nat.beq g gen) (.req (ct.len=n) (k (.cv ct))) .fail | .froz ct gen=>ac (Nat.beq g gen) (ac (Nat.beq ct.es es) (.req (ct.len=n) (k (.cv ct))) .fail) .fail|_=>.fail)
  |a=>k a)
 | .vb _=>(match a with
  | .gsl b g n es=>.rd b λq=>(match q with | .grow ct gen _=>ac (Nat.beq g gen) (.req (ct.len=n) (k (.cv ct))) .fail | .froz ct gen=>ac (Nat.beq g gen) (ac (Nat.beq ct.es es) (.req (ct.len=n) (k (.cv ct))) .fail) .fail|_=>.fail)
  | .slc b g o len cap es=>ac (Nat.beq 1 es) (PZ [] b g o len cap 1 qY λct _=>k (.cv ct)) .fail
  |a=>k a)
 |_=>k a
def CB(l:List Sh)(as:List AV)(k:List AV->Tr):Tr:=
 List.rec (motive:=λ_=>List AV->(List AV->Tr)->Tr) (λas k=>k as) (λx _ ih as k=>match as with
  | []=>k []
  |a::as=>uN x a λa=>ih as λas=>k (a::as)) l as k
def TK(l:List Sh)(b g:Nat)(k:AV->Tr):Tr:=.rd b λq=>match q with
 | .cells c gen _ _ _ _ _ _=>ac (Nat.ble g gen) (ac (Nat.ble 1 (List.length l)) (dr (PM c g (List.length l) 0) .fail λas=>CB l as λas=>k (.cptr as)) .fail) .fail
 |_=>.fail
def Lt(x:Sa)(a:AV)(k:AV->Tr):Tr:=match x with
 | .c x=>uN x a k
 | .ag _=>k a
 | .cp l=>(match a with
  | .ptr b g o=>ac (Nat.beq o 0) (TK l b g k) .fail
  |a=>k a)
def rZ(l:List Sa)(as:List AV)(k:List AV->Tr):Tr:=
 List.rec (motive:=λ_=>List AV->(List AV->Tr)->Tr) (λas k=>k as) (λx _ ih as k=>match as with
  | []=>k []
  |a::as=>Lt x a λa=>ih as λas=>k (a::as)) l as k
def wN(x:Sh):Bool:=match x with
 | .i _ _=>true | .b _=>true | .s _=>true | .o=>true | .pi _ _=>true | .pb _=>true | .ps _=>true | .np=>true | .li _ _=>true | .nz=>true
 |_=>false
def wO(l:List Sh):Bool:=List.rec (motive:=λ_=>Bool) true (λx _ ih=>ac (wN x) ih false) l
def wP(x:Sa):Bool:=match x with | .c x=>wN x | .ag l=>wO l | .cp _=>false
def wQ(l:List Sa):Bool:=List.rec (motive:=λ_=>Bool) true (λx _ ih=>ac (wP x) ih false) l
def Lu(r:Sr):Bool:=match r with | .one a=>wP a | .tu l=>wQ l
def Lv{α:Type}(l:List α):Bool:=match l with | []=>true|_=>false
def Lw(S:FSpec)(zf:(z:Sy)->{y:Sy // S.pre z->S.post z y})(args:List AV)(k:AV->Tr):Tr:=
 Qr S.gl <| rZ S.args args λargs=>dr (ia .leaf [] S.args args jN) .fail λs=>dr (lK [] s.ln s) .fail λs=>
  ac (ac (Lv S.blk) (ac (Lv (S.out (aP s.tm))) (Lu (S.res (aP s.tm))) false) false) (.req (s.pr/\S.pre (aP s.tm))
   (.sk (λy=>S.pre (aP s.tm)->S.post (aP s.tm) y) (zf (aP s.tm)) λy=>k (Cs bO y (S.res (aP s.tm))))) .fail
end
section
variable{P:Program}{w0:World}{ρ:Rho}{w:World}{σ:St}{K:Fin}
open Classical in
noncomputable def tO(ρ:Rho)(w:World)(b:Nat):Option (Array Value×TypeId):=match ρ.frz b with
 |some x=>some x
 |none=>(match w.heap[b]? with|some (.cells arr ty _)=>some (arr,ty)|_=>none)
noncomputable def r_(ρ:Rho)(w:World):Rho:=⟨λ_ _=>none,ρ.val,λ_=>False,tO ρ w,tO ρ w⟩
def CC{H:T ABlk}(hG:Good w0 ρ H w){b:Nat}{arr:Array Value}{ty:TypeId}(hf:tO ρ w b=some (arr,ty)):∃fr,w.heap[b]? =some (.cells arr ty fr):=by
 unfold tO at hf;split at hf
 ·rename_i x hx;injection hf with hf;subst hf;exact(hG.frz _ _ _ hx).1
 ·split at hf
  ·rename_i j8 G' fr hw;injection hf with hf;injection hf with e1 e2;subst e1;subst e2;exact⟨fr,hw⟩
  ·cases hf
def YS{H:T ABlk}(hG:Good w0 ρ H w):Good w (r_ ρ w) .leaf w:=
 ⟨⟨Kept.refl _ _ _,(λb x h=>by simp [T.get] at h),(λb g h hh=>by cases hh),(λb g h b' g' h' hh=>by cases hh),(λb g h x hh=>by cases hh),λb arr ty hf=>⟨CC hG hf,λb' g h hh=>by cases hh⟩,λb x hf _=>hf,(λb k I l h=>by simp [T.get] at h)⟩,λx h=>h.elim⟩
def nq{b:Nat}{x:Array Value×TypeId}(h:ρ.frz b=some x):(r_ ρ w).frz b=some x:=by show tO ρ w b=_;unfold tO;rw[h]
def Cn(ρ:Rho)(w:World)(a':AV)(v:Value):Prop:=VR ρ a' v∨∃ct,a'= .cv ct/\VR (r_ ρ w) (.cv ct) v
def EH{H:T ABlk}(hG:Good w0 ρ H w){b g n es ty:Nat}{ct:Ct}{v:Value}(hq:H.get b=some (.grow ct g ty))(hn:ct.len=n)(hv:VR ρ (.gsl b g n es) v):Cn ρ w (.cv ct) v:=by
 refine .inr ⟨ct,rfl, ?_⟩
 cases hv with
 |gnil _ _ _=>exact .cvnil _ hn
 |gempty _ _ _ a=>exact .cvempty _ a hn
 |gsl _ _ _ _ hm c hn0 hh hs hc hz=>
  subst hn;rcases hG.blk _ _ hq with h0|⟨t9,r1,r2,r3,arr,fr,r4,r5,r6,r7,r8⟩
  ·omega
  rw[hh] at r1;injection r1 with r1;subst r1;refine .cv ct hm.blk 0 c arr ty ?_ hc (by omega) λi j a v hi ha hv=>?_
  ·show tO ρ w hm.blk=_
   unfold tO
   cases hf:ρ.frz hm.blk with
   |some x=>exact absurd rfl (hG.frzE (show ρ.frz hm.blk=some (x.1,x.2) from hf) hh hq (λh=>h))
   |none=>simp only [r4]
  ·obtain⟨u,u1,u2⟩:=r8 i hi j a ha;rw[aaC,u1] at hv;injection hv with hv;subst hv;exact dl (λb x h=>nq h) u2 (mj ha)
def zW{b g n es:Nat}{k:AV->Tr}{v:Value}(hS:SI σ)(hG:Good w0 ρ σ.h w)(hv:VR ρ (.gsl b g n es) v)(h:run (.rd b λq=>(match q with | .grow ct gen _=>ac (Nat.beq g gen) (.req (ct.len=n) (k (.cv ct))) .fail | .froz ct gen=>ac (Nat.beq g gen) (ac (Nat.beq ct.es es) (.req (ct.len=n) (k (.cv ct))) .fail) .fail|_=>.fail)) σ K=true):
 ∃a' a8,run (k a') a8 K=true/\SI a8/\Good w0 ρ a8.h w/\Cn ρ w a' v:=by
 obtain⟨q,b6,hq,e1,a9,h⟩:=bG hS h
 have b7:Good w0 ρ b6.h w:=by rw[e1];exact hG
 cases q with
 |grow ct gen ty=>
  obtain⟨hg,z1⟩:=ay h
  obtain⟨hn,z2⟩:=aQ z1
  have hg:=aN hg
  subst hg
  exact⟨_,b6,z2,a9,b7,EH hG hq hn hv⟩
 |froz ct gen=>
  obtain⟨hg,z1⟩:=ay h
  obtain⟨he,z1⟩:=ay z1
  obtain⟨hn,z2⟩:=aQ z1
  have hg:=aN hg
  have he:=aN he
  subst hg;subst he;subst hn
  exact⟨_,b6,z2,a9,b7,.inl (ji (hG.blk _ _ hq) hv)⟩
 |_=>exact(ah h).elim
def Lx{b g o len es:Nat}{cap:Option Nat}{k:AV->Tr}{v:Value}(hS:SI σ)(hG:Good w0 ρ σ.h w)(hv:VR ρ (.slc b g o len cap es) v)(h:run (ac (Nat.beq 1 es) (PZ [] b g o len cap 1 qY λct _=>k (.cv ct)) .fail) σ K=true):
 ∃a' a8,run (k a') a8 K=true/\SI a8/\Good w0 ρ a8.h w/\Cn ρ w a' v:=by
 obtain⟨he,h⟩:=ay h
 have he:=aN he
 subst he
 obtain⟨ct,ty,b6,h1,a9,e1,c7,_,hl,_,f9,hvv⟩:=Ek hS hG kq h
 exact⟨_,b6,h1,a9,by rw[e1];exact hG,EH f9 (T.get_set_same _ _ _ c7) hl (hvv ρ (.refl _) v hv)⟩
def zX{x:Sh}{a:AV}{k:AV->Tr}{v:Value}(hS:SI σ)(hG:Good w0 ρ σ.h w)(hv:VR ρ a v)(h:run (uN x a k) σ K=true):
 ∃a' a8,run (k a') a8 K=true/\SI a8/\Good w0 ρ a8.h w/\Cn ρ w a' v:=by
 have same:run (k a) σ K=true->∃a' a8,run (k a') a8 K=true/\SI a8/\Good w0 ρ a8.h w/\Cn ρ w a' v:=λh=>⟨a,σ,h,hS,hG,.inl hv⟩
 unfold uN at h
 cases x with
 |v m t=>
  simp only at h
  split at h
  ·exact zW hS hG hv h
  ·exact same h
 |vb t=>
  simp only at h
  split at h
  ·exact zW hS hG hv h
  ·exact Lx hS hG hv h
  ·exact same h
 |_=>exact same h
def Io:∀{l:List Sh} {as:List AV} {k:List AV->Tr} {σ:St} {vs:List Value},SI σ->Good w0 ρ σ.h w->LR ρ as vs->run (CB l as k) σ K=true->
 ∃j6 a8,run (k j6) a8 K=true/\SI a8/\Good w0 ρ a8.h w/\(l.length=as.length->cH (λa v=>Cn ρ w a v) j6 vs/\j6.length=as.length):=by
 intro l
 induction l with
 |nil=>intro as k σ vs hS hG hl h;exact⟨as,σ,h,hS,hG,λe=>by cases as with|nil=>rw[hl.nil_inv];exact⟨trivial,rfl⟩|cons _ _=>simp at e⟩
 |cons x l ih=>
  intro as k σ vs hS hG hl h
  cases as with
  |nil=>exact⟨[],σ,h,hS,hG,λe=>by simp at e⟩
  |cons a as=>
   obtain⟨v,m7,rfl,hv,l3⟩:=hl.cons_inv
   obtain⟨a',b6,h1,h2,h3,h5⟩:=zX hS hG hv (show run (uN x a λa=>CB l as λas=>k (a::as)) σ K=true from h)
   obtain⟨j6,c9,q1,q2,q3,q4⟩:=ih h2 h3 l3 h1
   exact⟨a'::j6,c9,q1,q2,q3,λe=>⟨⟨h5,(q4 (by simpa using e)).1⟩,by simp [(q4 (by simpa using e)).2]⟩⟩
def Cp(ρ:Rho)(w:World)(a':AV)(v:Value):Prop:=∃j6 blk arr ty,a'= .cptr j6/\v= .pointer (some ⟨blk,0,none⟩)/\tO ρ w blk=some (arr,ty)/\j6.length<=arr.size/\cH (λa v=>Cn ρ w a v) j6 (arr.toList.take j6.length)
def YT(ρ:Rho)(w:World)(a':AV)(v:Value):Prop:=Cn ρ w a' v∨Cp ρ w a' v
def Ly{l:List Sh}{b g:Nat}{k:AV->Tr}{v:Value}(hS:SI σ)(hG:Good w0 ρ σ.h w)(hv:VR ρ (.ptr b g 0) v)(h:run (TK l b g k) σ K=true):
 ∃a' a8,run (k a') a8 K=true/\SI a8/\Good w0 ρ a8.h w/\YT ρ w a' v:=by
 obtain⟨q,b6,hq,e1,a9,h⟩:=bG hS h
 have b7:Good w0 ρ b6.h w:=by rw[e1];exact hG
 cases q with
 |cells c gen lo hi fl fh ro ty=>
  obtain⟨k1,z1⟩:=ay h
  obtain⟨k2,z2⟩:=ay z1
  obtain⟨as,hl,z3⟩:=cb z2
  have k1:=bV k1
  have k2:=bV k2
  obtain⟨hm,r1,r2,_,arr,fr,r3,r4,r5,r6⟩:=(hG.blk _ _ hq).2 g k1
  obtain⟨l1,l2⟩:=rl hl
  cases hv with
  |ptr _ _ _ h0 hh ho=>
   rw[hh] at r1;injection r1 with r1;subst r1
   have hs0:h0.shift=0:=by omega
   have d7:∀j a,as[j]? =some a->∃u,arr[j]? =some u/\VR ρ a u:=λj a ha=>by obtain⟨tag,t1,t2⟩:=l2 j _ ha;rw[aaC] at t1;obtain⟨s1,u,s2,s3⟩:=r6 _ _ _ t1 t2;rw[hs0,abB] at s2;exact⟨u,s2,s3⟩
   have p8:as.length<=arr.size:=by
    rcases aat arr.size as.length with h'|h'
    ·obtain⟨u,hu,_⟩:=d7 arr.size _ (aaw h');rw[aa7 (aao _)] at hu;cases hu
    ·exact h'
   have hLR:LR ρ as (arr.toList.take as.length):=by
    refine⟨by rw[aax,aaY (xs:=arr)];omega,λj a u ha hu=>?_⟩;obtain⟨u',h1,h2⟩:=d7 j a ha;have hj:j<as.length:=by
     rcases aat j as.length with h'|h'
     ·exact h'
     ·rw[aaz h'] at ha;cases ha
    rw[aaF hj,aa9,h1] at hu;injection hu with hu;rw[←hu];exact h2
   obtain⟨j6,c9,q1,q2,q3,q4⟩:=Io a9 b7 hLR z3
   obtain⟨q5,q6⟩:=q4 l1.symm
   refine⟨_,c9,q1,q2,q3,.inr ⟨j6,h0.blk,arr,ty,rfl,by rw[hs0], ?_,by omega,by rw[q6];exact q5⟩⟩
   unfold tO
   cases hf:ρ.frz h0.blk with
   |some x=>exact absurd rfl (hG.frzE (show ρ.frz h0.blk=some (x.1,x.2) from hf) hh hq (λh=>h))
   |none=>simp only [r3]
 |_=>exact(ah h).elim
def Ip:∀{l:List Sa} {as:List AV} {k:List AV->Tr} {σ:St} {vs:List Value},SI σ->Good w0 ρ σ.h w->LR ρ as vs->run (rZ l as k) σ K=true->
 ∃j6 a8,run (k j6) a8 K=true/\SI a8/\Good w0 ρ a8.h w/\(l.length=j6.length->cH (λa v=>YT ρ w a v) j6 vs/\j6.length=as.length):=by
 intro l
 induction l with
 |nil=>intro as k σ vs hS hG hl h;exact⟨as,σ,h,hS,hG,λe=>by cases as with|nil=>rw[hl.nil_inv];exact⟨trivial,rfl⟩|cons _ _=>simp at e⟩
 |cons x l ih=>
  intro as k σ vs hS hG hl h
  cases as with
  |nil=>exact⟨[],σ,h,hS,hG,λe=>by simp at e⟩
  |cons a as=>
   obtain⟨v,m7,rfl,hv,l3⟩:=hl.cons_inv
   have h:run (Lt x a λa=>rZ l as λas=>k (a::as)) σ K=true:=h
   have:∃a' a8,run (rZ l as λas=>k (a'::as)) a8 K=true/\SI a8/\Good w0 ρ a8.h w/\YT ρ w a' v:=by
    cases x with
    |c x=>obtain⟨a',a8,q1,q2,q3,q4⟩:=zX hS hG hv (show run (uN x a λa=>rZ l as λas=>k (a::as)) σ K=true from h);exact⟨a',a8,q1,q2,q3,.inl q4⟩
    |ag l=>exact⟨a,σ,h,hS,hG,.inl (.inl hv)⟩
    |cp l'=>
     unfold Lt at h;simp only at h;split at h
     ·rename_i b g o;obtain⟨e,h⟩:=ay h;have e:=aN e;subst e;exact Ly hS hG hv h
     ·exact⟨a,σ,h,hS,hG,.inl (.inl hv)⟩
   obtain⟨a',b6,h1,h2,h3,h5⟩:=this
   obtain⟨j6,c9,q1,q2,q3,q4⟩:=ih h2 h3 l3 h1
   exact⟨a'::j6,c9,q1,q2,q3,λe=>⟨⟨h5,(q4 (by simpa using e)).1⟩,by simp [(q4 (by simpa using e)).2]⟩⟩
def RdC.look{ct:Ct}{a:AV}{v:Value}(h:RdC (λ_=>none) ct a)(hv:Cn ρ w a v):VR (r_ ρ w) (.cv ct) v:=by
 rcases h with⟨e,h0⟩|e|⟨b,g,es,ty,_,_,hF⟩|⟨b,g,o,cap,c,gen,lo,hi,fl,fh,ty,as,_,_,hF,_⟩|⟨b,g,_,_,hF⟩
 ·subst e;rcases hv with hv|⟨_,e,_⟩
  ·cases hv;exact .cvnil _ h0
  ·cases e
 ·subst e;rcases hv with hv|⟨_,e,hv⟩
  ·exact dl (λb x h=>nq h) hv rfl
  ·injection e with e;subst e;exact hv
 ·cases hF
 ·cases hF
 ·cases hF
def RdC.nocp{ct:Ct}{l:List AV}(h:RdC (λ_=>none) ct (.cptr l)):False:=by
 rcases h with⟨e,h0⟩|e|⟨b,g,es,ty,_,_,hF⟩|⟨b,g,o,cap,c,gen,lo,hi,fl,fh,ty,as,_,_,hF,_⟩|⟨b,g,_,_,hF⟩
 ·cases e
 ·cases e
 ·cases hF
 ·cases hF
 ·cases hF
def Tv.look{L:Nat->Option (Nat×Nat)}{z:Sy}{x:Sh}{a:AV}{v:Value}(h:Tv (λ_=>none) [] L z x a)(hv:Cn ρ w a v):VR (r_ ρ w) (put bO z x) v:=by
 have num:∀{k n},co a=some (k,n)->v= .int k n:=λhn=>by
  rcases hv with hv|⟨_,e,_⟩
  ·exact bp hv hn
  ·subst e;cases hn
 have pr:∀{q},dQ a=some q->∃b,v= .bool b/\(b=true↔q):=λhn=>by
  rcases hv with hv|⟨_,e,_⟩
  ·exact eP hv hn
  ·subst e;cases hn
 have st:∀{l},ge a=some l->∃s,v= .string s/\l=bytesOf s:=λhn=>by
  rcases hv with hv|⟨_,e,_⟩
  ·exact dB hv hn
  ·subst e;cases hn
 cases x with
 |i k t=>have h:co a=some (k,z.i t):=h;rw[num h];exact .sI _ _
 |b t=>have h:dQ a=some (z.p t):=h;obtain⟨b,e,hb⟩:=pr h;rw[e];exact .sB _ b hb
 |s t=>have h:ge a=some (z.s t):=h;obtain⟨s,e,hs⟩:=st h;rw[e];show VR _ (.sS (z.s t)) _;rw[hs];exact .sS s
 |o=>
  rcases hv with hv|⟨_,e,hv⟩
  ·exact .any1 v (jb hv h)
  ·exact .any1 v (jb hv rfl)
 |v m t=>exact RdC.look h hv
 |vb t=>exact RdC.look h hv
 |pi k n=>have h:co a=some (k,n):=h;rw[num h];exact .sI _ _
 |pb q=>obtain⟨q',h1,h2⟩:=h;obtain⟨b,e,hb⟩:=pr h1;rw[e];exact .sB _ b (hb.trans h2)
 |ps l=>have h:ge a=some l:=h;obtain⟨s,e,hs⟩:=st h;rw[e];show VR _ (.sS l) _;rw[hs];exact .sS s
 |pv m l=>exact RdC.look h hv
 |pvb l=>exact RdC.look h hv
 |np=>
  have h:a= .nilp:=h;subst h;rcases hv with hv|⟨_,e,_⟩
  ·cases hv;exact .nilp
  ·cases e
 |li k n=>
  have h:a= .int k n:=h;subst h;rcases hv with hv|⟨_,e,_⟩
  ·cases hv;exact .int _ _
  ·cases e
 |nz=>
  have h:a= .nils:=h;subst h;rcases hv with hv|⟨_,e,_⟩
  ·cases hv;exact .nils
  ·cases e
 |p j=>obtain⟨_,_,_,hc⟩:=h;cases hc
 |m j=>obtain⟨_,_,_,hc⟩:=h;cases hc
 |fn f j=>obtain⟨_,_,_,hc⟩:=h;cases hc
 |g j es t=>obtain⟨_,_,_,_,_,_,hc⟩:=h;simp at hc
 |gb j t=>obtain⟨_,_,_,_,_,hc⟩:=h;simp at hc
def oM{α:Type}{C:AV->Value->Prop}{R:α->AV->Prop}{f:α->AV}{fs:List α->List AV}(hf0:fs []= [])(hfs:∀x l,fs (x::l)=f x::fs l)(hR:∀x a v,R x a->C a v->VR (r_ ρ w) (f x) v):
 ∀{l:List α} {as:List AV} {vs:List Value},cH R l as->cH C as vs->LR (r_ ρ w) (fs l) vs
 | [],[],[],_,_=>by rw[hf0];exact LR.nil _
 |x::l,a::as,v::vs,⟨h1,h2⟩,⟨h3,h4⟩=>by rw[hfs];exact LR.cons (hR x a v h1 h3) (oM hf0 hfs hR h2 h4)
 | [],_::_,_,h,_=>h.elim
 |_::_,[],_,h,_=>h.elim
 | [],[],_::_,_,h=>h.elim
 |_::_,_::_,[],_,h=>h.elim
def LR.cn:∀{as:List AV} {vs:List Value},LR ρ as vs->cH (λa v=>Cn ρ w a v) as vs:=by
 intro as
 induction as with
 |nil=>intro vs h;rw[h.nil_inv];trivial
 |cons a as ih=>intro vs h;obtain⟨v,m7,rfl,hv,h'⟩:=h.cons_inv;exact⟨.inl hv,ih h'⟩
def Tvs.look{L:Nat->Option (Nat×Nat)}{z:Sy}{l:List Sh}{as:List AV}{vs:List Value}(ha:cH (Tv (λ_=>none) [] L z) l as)(h:cH (λa v=>Cn ρ w a v) as vs):LR (r_ ρ w) (pT bO z l) vs:=
 oM (C:=λa v=>Cn ρ w a v) (fs:=pT bO z) rfl (λ_ _=>rfl) (λ_ _ _ h hv=>Tv.look h hv) ha h
def TvA.look{L:Nat->Option (Nat×Nat)}{z:Sy}{x:Sa}{a:AV}{v:Value}(h:TvA (λ_=>none) [] L z x a)(hv:YT ρ w a v):VR (r_ ρ w) (kx bO z x) v:=by
 cases x with
 |c x=>
  rcases hv with hv|⟨j6,_,_,_,e,ev⟩
  ·exact Tv.look h hv
  ·subst e
   have h:Tv (λ_=>none) [] L z x (.cptr j6):=h
   cases x with
   |i k t=>have h:co (.cptr j6)=some (k,z.i t):=h;cases h
   |b t=>have h:dQ (.cptr j6)=some (z.p t):=h;cases h
   |s t=>have h:ge (.cptr j6)=some (z.s t):=h;cases h
   |o=>exact .any1 v (by rw[ev.1];rfl)
   |v m t=>exact(RdC.nocp h).elim
   |vb t=>exact(RdC.nocp h).elim
   |pi k n=>have h:co (.cptr j6)=some (k,n):=h;cases h
   |pb q=>obtain⟨q',h1,_⟩:=h;cases h1
   |ps l=>have h:ge (.cptr j6)=some l:=h;cases h
   |pv m l=>exact(RdC.nocp h).elim
   |pvb l=>exact(RdC.nocp h).elim
   |np=>have h:AV.cptr j6= .nilp:=h;cases h
   |li k n=>have h:AV.cptr j6= .int k n:=h;cases h
   |nz=>have h:AV.cptr j6= .nils:=h;cases h
   |p j=>obtain⟨_,_,_,hc⟩:=h;cases hc
   |m j=>obtain⟨_,_,_,hc⟩:=h;cases hc
   |fn f j=>obtain⟨_,_,_,hc⟩:=h;cases hc
   |g j es t=>obtain⟨_,_,_,_,_,_,hc⟩:=h;simp at hc
   |gb j t=>obtain⟨_,_,_,_,_,hc⟩:=h;simp at hc
 |ag l=>
  obtain⟨as,e,ha⟩:=h;subst e;rcases hv with(hv|⟨_,e,_⟩)|⟨_,_,_,_,e,_⟩
  ·cases hv with
   |agg _ cs h1 h2=>obtain⟨q1,q2⟩:=(Tvs.look ha (LR.of_arr h1 h2).cn).arr;exact .agg _ cs q1 q2
  ·cases e
  ·cases e
 |cp l=>
  obtain⟨as,e,ha⟩:=h;subst e;rcases hv with(hv|⟨_,e,_⟩)|⟨j6,blk,arr,ty,e,ev,hf,p8,hc⟩
  ·cases hv with
   |cptr _ bl off arr ty hf hb r=>exact uF hf (nq hf) hb r λvs hl=>Tvs.look ha hl.cn
  ·cases e
  ·injection e with e;subst e;subst ev;obtain⟨e2,hr⟩:=Tvs.look ha hc;rw[aax,aaY (xs:=arr)] at e2;refine .cptr _ blk 0 arr ty hf (by omega) λj a u ha2 hu=>hr j a u ha2 ?_;have hj:j<(pT bO z l).length:=by
    rcases aat j (pT bO z l).length with h'|h'
    ·exact h'
    ·rw[aaz h'] at ha2;cases ha2
   rw[aaF (by omega),aa9];rw[aaC] at hu;exact hu
def zY{x7 ρ2:Rho}{F:Nat->Option ABlk}{blk:List BSh}{L:Nat->Option (Nat×Nat)}{y:Sy}{x:Sh}{a:AV}{v:Value}(hp:wN x=true)(h:Tv F blk L y x a)(hv:VR x7 a v):VR ρ2 (put bO y x) v:=by
 cases x with
 |i k t=>have h:co a=some (k,y.i t):=h;rw[bp hv h];exact .sI _ _
 |b t=>have h:dQ a=some (y.p t):=h;obtain⟨b,e,hb⟩:=eP hv h;rw[e];exact .sB _ b hb
 |s t=>have h:ge a=some (y.s t):=h;obtain⟨s,e,hs⟩:=dB hv h;rw[e];show VR _ (.sS (y.s t)) _;rw[hs];exact .sS s
 |o=>exact .any1 v (jb hv h)
 |pi k n=>have h:co a=some (k,n):=h;rw[bp hv h];exact .sI _ _
 |pb q=>obtain⟨q',h1,h2⟩:=h;obtain⟨b,e,hb⟩:=eP hv h1;rw[e];exact .sB _ b (hb.trans h2)
 |ps l=>have h:ge a=some l:=h;obtain⟨s,e,hs⟩:=dB hv h;rw[e];show VR _ (.sS l) _;rw[hs];exact .sS s
 |np=>have h:a= .nilp:=h;subst h;cases hv;exact .nilp
 |li k n=>have h:a= .int k n:=h;subst h;cases hv;exact .int _ _
 |nz=>have h:a= .nils:=h;subst h;cases hv;exact .nils
 |_=>cases hp
def uO{x7 ρ2:Rho}{F:Nat->Option ABlk}{blk:List BSh}{L:Nat->Option (Nat×Nat)}{y:Sy}:∀{l:List Sh} {as:List AV} {vs:List Value},wO l=true->cH (Tv F blk L y) l as->LR x7 as vs->LR ρ2 (pT bO y l) vs
 | [],[],vs,_,_,h=>by rw[h.nil_inv];exact LR.nil _
 |x::l,a::as,vs,hp,⟨h1,h2⟩,h=>by obtain⟨v,m7,rfl,hv,h'⟩:=h.cons_inv;obtain⟨p1,p2⟩:=aC (show ac (wN x) (wO l) false=true from hp);exact LR.cons (zY p1 h1 hv) (uO p2 h2 h')
 | [],_::_,_,_,h,_=>h.elim
 |_::_,[],_,_,h,_=>h.elim
def uP{x7 ρ2:Rho}{F:Nat->Option ABlk}{blk:List BSh}{L:Nat->Option (Nat×Nat)}{y:Sy}{x:Sa}{a:AV}{v:Value}(hp:wP x=true)(h:TvA F blk L y x a)(hv:VR x7 a v):VR ρ2 (kx bO y x) v:=by
 cases x with
 |c x=>exact zY hp h hv
 |ag l=>
  obtain⟨as,e,ha⟩:=h
  subst e
  cases hv with
  |agg _ cs h1 h2=>obtain⟨q1,q2⟩:=(uO (ρ2:=ρ2) hp ha (LR.of_arr h1 h2)).arr;exact .agg _ cs q1 q2
 |cp l=>cases hp
def sa{x7 ρ2:Rho}{F:Nat->Option ABlk}{blk:List BSh}{L:Nat->Option (Nat×Nat)}{y:Sy}:∀{l:List Sa} {as:List AV} {vs:List Value},wQ l=true->cH (TvA F blk L y) l as->LR x7 as vs->LR ρ2 (nh bO y l) vs
 | [],[],vs,_,_,h=>by rw[h.nil_inv];exact LR.nil _
 |x::l,a::as,vs,hp,⟨h1,h2⟩,h=>by obtain⟨v,m7,rfl,hv,h'⟩:=h.cons_inv;obtain⟨p1,p2⟩:=aC (show ac (wP x) (wQ l) false=true from hp);exact LR.cons (uP p1 h1 hv) (sa p2 h2 h')
 | [],_::_,_,_,h,_=>h.elim
 |_::_,[],_,_,h,_=>h.elim
def Iq{x7 ρ2:Rho}{F:Nat->Option ABlk}{blk:List BSh}{L:Nat->Option (Nat×Nat)}{y:Sy}{x:Sr}{a:AV}{v:Value}(hp:Lu x=true)(h:TvR F blk L y x a)(hv:VR x7 a v):VR ρ2 (Cs bO y x) v:=by
 cases x with
 |one x=>exact uP hp h hv
 |tu l=>
  obtain⟨as,e,ha⟩:=h
  subst e
  cases hv with
  |tup _ cs h1 h2=>obtain⟨q1,q2⟩:=(sa (ρ2:=ρ2) hp ha (LR.of_arr h1 h2)).arr;exact .tup _ cs q1 q2
def QD{f:Nat}{S:FSpec}{zf:(z:Sy)->{y:Sy // S.pre z->S.post z y}}(hC:kB P f S zf)(w0:World)(l:List AV):Vu P w0 f l (Lw S zf l):=by
 intro vs k σ0 K ρ w R hS0 hG0 hl h0 hR;obtain⟨σ,eh,hS,h,af1⟩:=wK hS0 hG0 h0;have hG:Good w0 ρ σ.h w:=by rw[eh];exact hG0
 clear h0 hG0 hS0;obtain⟨l',b6,z1,a9,b7,hcn⟩:=Ip hS hG hl h;obtain⟨s0,hs0,z2⟩:=cb z1;obtain⟨s2,hs2,z4⟩:=cb z2;obtain⟨ah2,z5⟩:=ay z4;obtain⟨⟨hpr,V'⟩,z6⟩:=aQ z5;clear h z1 z2 z4 z5;obtain⟨hc1,hc2⟩:=aC ah2;obtain⟨hc3,hc4⟩:=aC hc2;obtain⟨p1,p2⟩:=fX (blk:=[]) hs0;obtain⟨f1,_⟩:=ef hs2;have hln:=kT hs2 hpr;have g8:=p2 s2 f1 hpr hln;rw[kA] at g8;have hcv:=(hcn (mm hs0)).1;obtain⟨z,hz⟩:∃z,z=aP s2.tm:=⟨_,rfl⟩
 rw[←hz] at V' z6 g8 hc3 hc4;have z6:run (k (Cs bO (zf z).1 (S.res z))) b6 K=true:=z6;have hLb:=oM (C:=λa v=>YT ρ w a v) (fs:=nh bO z) rfl (λ_ _=>rfl) (λ_ _ _ h hv=>TvA.look h hv) g8 hcv;have hbl:S.blk= []:=by cases hb:S.blk with|nil=>rfl|cons _ _=>rw[hb] at hc1;cases hc1
 have hgz:Good w (r_ ρ w) (S.heap z) w:=by unfold FSpec.heap;rw[hbl];exact(YS b7).addTab (z:=z) (blk:=[]) (af1.mono λb x h=>nq h)
 obtain⟨hcf,af2⟩:=hC z V' w (r_ ρ w) vs hgz hLb;refine⟨hcf,af2.mono λe w' he=>?_⟩;obtain⟨v,ρ',H',a,s,rfl,f6,ac_,hva,Y',ak_,hzf⟩:=he;obtain⟨t1,_,_⟩:=rT (ρ:=ρ') Y' ak_;rw[←hzf] at t1;have al2:Below w.heap.size w w':=f6.below.below λx=>by rw[ac_.own];exact λh=>h
 exact hR _ v b6 ρ w' z6 a9 (b7.later al2) (Rho.le.refl ρ) (Iq hc4 t1 hva)
end
end Go.Sym
namespace Go.Sym
theorem ak(s:List Nat):(JL s).length=s.length:=aaZ ..
theorem ao{a:List Nat}(h:¬a= []):0<a.length:=List.length_pos_iff.2 h
def oN(n:Int):IntKind.wrap .u64 n=n%18446744073709551616:=rfl
def sb(n:Int):IntKind.wrap .u8 n=n%256:=rfl
noncomputable section
def Fm.ana_den{a q:Prop}{r:Sy->Prop}{f:Sy->Fm}(h1:a/\q)(h2:a/\q->∀y,r y->(f y).den):(Fm.an (a/\q) (Fm.al (λy=>q->r y) f)).den:=⟨h1,λh y hy=>h2 h y (hy h1.2)⟩
def ci{a q:Prop}{r:Sy->Prop}{f:Sy->Fm}(h1:a/\q)(h2:a/\q->∀y,r y->(f y).den):(Fm.an (a/\q) (Fm.al (λy=>q->r y) f)).den:=Fm.ana_den h1 h2
def cm{p:Prop}{f g:Fm}(h1:p->f.den)(h2:¬p->g.den):(Fm.two p f g).den:=⟨h1,h2⟩
def cj{p:Prop}{f:Fm}(h1:p)(h2:p->f.den):(Fm.an p f).den:=⟨h1,h2⟩
def cD{p:Sy->Prop}{f:Sy->Fm}(h:∀y,p y->(f y).den):(Fm.al p f).den:=h
def cA{p:Prop}(h:p):(Fm.at p).den:=h
abbrev Zf(S:FSpec):=(z:Sy)->{y:Sy // S.pre z->S.post z y}
abbrev Lf0(LS:Sy->LSpec):=(p z:Sy)->{y:Sy // (LS p).inv z->(LS p).post z y}
structure Ent where
 f:Nat
 S:FSpec
 zf:(z:Sy)->{y:Sy // S.pre z->S.post z y}
 look:Bool:=false
structure LEnt where
 fn:Nat
 id:Nat
 n:Nat
 ptm:List (Nat×Sa)
 LS:Sy->LSpec
 zf:(p z:Sy)->{y:Sy // (LS p).inv z->(LS p).post z y}
def VE(l:List Ent)(f:Nat)(args:List AV):Option ((AV->Tr)->Tr):=
 List.rec (motive:=λ_=>Option ((AV->Tr)->Tr)) none (λe _ ih=>ac (Nat.beq e.f f) (some (ac e.look (Lw e.S e.zf args) (Vw e.S e.zf args))) ih) l
def VF(l:List LEnt)(fn id:Nat):Option (Nat->T AV->(AEx->T AV->Tr)->Tr):=
 List.rec (motive:=λ_=>Option (Nat->T AV->(AEx->T AV->Tr)->Tr)) none (λe _ ih=>ac (ac (Nat.beq e.fn fn) (Nat.beq e.id id) false) (some (VC e.ptm e.LS e.zf e.n e.id)) ih) l
def nr(m:List Memo)(c:List Ent)(l:List LEnt):Tab:=⟨m,VE c,VF l⟩
def gQ(P:Program)(e:Ent):Prop:=kB P e.f e.S e.zf
def fC(P:Program)(e:LEnt):Prop:=eU P e.fn e.id=true/\e.n=iM P e.fn e.id/\(∀p,(e.LS p).blk.length<=64)/\∀p z,(e.LS p).inv z->mn P e.fn e.id (e.LS p) z (e.zf p z).1
end
def Ok(P:Program)(f:Nat)(S:FSpec):Prop:=∃zf,kB P f S zf
def YU(P:Program)(fn id:Nat)(LS:Sy->LSpec):Prop:=∃zf:Lf0 LS,eU P fn id=true/\(∀p,(LS p).blk.length<=64)/\∀p z,(LS p).inv z->mn P fn id (LS p) z (zf p z).1
def nu{P:Program}{m:List Memo}{c:List Ent}{l:List LEnt}(hm:∀x∈m,me P x)(hc:∀e∈c,gQ P e)(hl:∀e∈l,fC P e):TabOk P (nr m c l) where
 memos:=hm
 con:=λw0 f args t h=>by
  replace h:VE c f args=some t:=h
  clear hl hm
  induction c with
  |nil=>cases h
  |cons e c ih=>
   replace h:ac (Nat.beq e.f f) (some (ac e.look (Lw e.S e.zf args) (Vw e.S e.zf args))) (VE c f args)=some t:=h;rw[ar] at h;split at h
   ·rename_i hf
    have hf:=aaq hf
    injection h with h
    subst hf;subst h
    cases hlk:e.look with
    |true=>exact QD (hc e aaB) w0 args
    |false=>exact Vz (hc e aaB) w0 args
   ·exact ih (λe he=>hc e (aay _ he)) h
 blk:=λw0 fn id t h=>by
  replace h:VF l fn id=some t:=h
  clear hc hm
  induction l with
  |nil=>cases h
  |cons e l ih=>
   replace h:ac (ac (Nat.beq e.fn fn) (Nat.beq e.id id) false) (some (VC e.ptm e.LS e.zf e.n e.id)) (VF l fn id)=some t:=h;rw[ar] at h;split at h
   ·rename_i hf;obtain⟨h1,h2⟩:=aC hf;have h1:=aaq h1;have h2:=aaq h2;injection h with h;subst h1;subst h2;subst h;obtain⟨q1,q2,q3,q4⟩:=hl e aaB;rw[q2];exact VD q1 q3 q4 w0
   ·exact ih (λe he=>hl e (aay _ he)) h
def VG{P:Program}{M:Tab}(hM:TabOk P M){n fn id:Nat}{LS:Sy->LSpec}(hl:eU P fn id=true)(c7:∀p,(LS p).blk.length<=64)(h:∀p z,(LS p).inv z->∃hn,((LS p).roundFm P M n fn id z hn).den)(hgl:∀p g ty l,(LS p).gl=some (g,ty,l)->g<1048576:=by intro p g ty l h;cases h):YU P fn id LS:=by
 have key:∀p z,∃y:{y:Sy // (LS p).inv z->(LS p).post z y},(LS p).inv z->mn P fn id (LS p) z y.1:=λp z=>by
  by_cases hz:(LS p).inv z
  ·obtain⟨y,h1,h2⟩:=QC hM hl (c7 p) (hgl p) (h p) _ z rfl hz;exact⟨⟨y,λ_=>h1⟩,λ_=>h2⟩
  ·exact⟨⟨⟨λ_=>0,λ_=>[],λ_=>False,λ_=>[]⟩,λh=>absurd h hz⟩,λh=>absurd h hz⟩
 exact⟨λp z=>Classical.choose (key p z),hl,c7,λp z hz=>abI (key p z) hz⟩
def Lz{P:Program}{f:Nat}{S:FSpec}{zf:Zf S}{look:Bool}(h:kB P f S zf):gQ P ⟨f,S,zf,look⟩:=h
def Ir{P:Program}{fn id:Nat}{ptm:List (Nat×Sa)}{LS:Sy->LSpec}{zf:Lf0 LS}(h:eU P fn id=true/\(∀p,(LS p).blk.length<=64)/\∀p z,(LS p).inv z->mn P fn id (LS p) z (zf p z).1):fC P ⟨fn,id,iM P fn id,ptm,LS,zf⟩:=⟨h.1,rfl,h.2.1,h.2.2⟩
def mN{P:Program}:∀x∈([]:List Memo),me P x:=λ_ h=>by cases h
def eN{P:Program}:∀e∈([]:List Ent),gQ P e:=λ_ h=>by cases h
def lN{P:Program}:∀e∈([]:List LEnt),fC P e:=λ_ h=>by cases h
def eC{P:Program}{f:Nat}{S:FSpec}{zf:Zf S}{look:Bool}{l:List Ent}(h:kB P f S zf)(hl:∀e∈l,gQ P e):∀e∈(⟨f,S,zf,look⟩:Ent)::l,gQ P e:=λe he=>by
 rcases List.mem_cons.1 he with rfl|he
 ·exact Lz h
 ·exact hl e he
def lC{P:Program}{fn id:Nat}{ptm:List (Nat×Sa)}{LS:Sy->LSpec}{zf:Lf0 LS}{l:List LEnt}(h:eU P fn id=true/\(∀p,(LS p).blk.length<=64)/\∀p z,(LS p).inv z->mn P fn id (LS p) z (zf p z).1)(hl:∀e∈l,fC P e):∀e∈(⟨fn,id,iM P fn id,ptm,LS,zf⟩:LEnt)::l,fC P e:=λe he=>by
 rcases List.mem_cons.1 he with rfl|he
 ·exact Ir h
 ·exact hl e he
end Go.Sym
namespace Go.Sym
noncomputable section
def VH(n:Nat)(_:Nat->Tr)(ih:Nat->St->Lf->Hn->Fm)(σ:St)(K:Lf)(hn:Hn):Fm:=
 ac (Nat.ble n 1) (ih 0 σ K hn) (St.rec (motive:=λ_=>Fm) (λ_ _ fs _ _=>ac (ac (Nat.beq n 2) (Nat.beq fs 0) false) (.al (λ_=>True) λy=>H8 (y.p 0) .fail .fail (ih 0) (ih 1) σ K hn) .ff) σ)
def EI(t:Tr):St->Lf->Hn->Fm:=Tr.rec (motive:=λ_=>St->Lf->Hn->Fm) TF YI eRd eWr YJ VH YL H8 YM eSk t
def EvM(r:Fin->Bool)(Φ:AV->St->Prop):Prop:=∀K:Fin,(∀a σ,Φ a σ->K a σ=true)->r K=true
def EvM.congr{r r':Fin->Bool}{Φ:AV->St->Prop}(h:∀K,r K=r' K)(he:EvM r' Φ):EvM r Φ:=λK hK=>(h K).trans (he K hK)
def VI{p:Prop}{t e:Tr}{it ie:St->Lf->Hn->Fm}{σ:St}{K:Lf}{hn:Hn}(h:(H8 p t e it ie σ K hn).den):(p->∃a,(it σ K a).den)/\(¬p->∃a,(ie σ K a).den):=by
 have both:∀a b,(Fm.two p (it σ K a) (ie σ K b)).den->(p->∃a,(it σ K a).den)/\(¬p->∃a,(ie σ K a).den):=λa b h=>⟨λq=>⟨a,h.1 q⟩,λq=>⟨b,h.2 q⟩⟩
 cases hn with
 |nil=>exact both _ _ h
 |both a b=>exact both _ _ h
 |yes a=>have h:(Fm.an p (it σ K a)).den:=h;exact⟨λ_=>⟨a,h.2 h.1⟩,λq=>absurd h.1 q⟩
 |no a=>have h:(Fm.an (¬p) (ie σ K a)).den:=h;exact⟨λq=>absurd q h.1,λ_=>⟨a,h.2 h.1⟩⟩
def VJ:∀(t:Tr) (σ:St) (K:Lf) (hn:Hn),(EI t σ K hn).den->EvM (run t σ) λa a8=>∃hn',(K a a8 hn').den:=by
 intro t
 induction t with
 |fail=>intro σ K hn h;exact h.elim
 |ret a=>intro σ K hn h Q hQ;exact hQ _ _ ⟨hn,h⟩
 |rd b k ih=>
  intro σ K hn h
  cases σ with
  |mk H n fs t w=>
   have h:(ac (Nat.ble (Nat.succ b) n) (T.getK H b Fm.ff λx=>lJ fs b t λt=>EI (k x) (.mk H n fs t w) K hn) .ff).den:=h;rw[ar] at h;split at h
   ·rename_i hb;have hb:=aaL hb;rw[T.getK_eq] at h;split at h
    ·exact h.elim
    ·rename_i x hx;rw[kw] at h;refine(ih x _ K hn h).congr λK=>?_;rw[gY,if_pos (show b<n from hb),hx]
   ·exact h.elim
 |wr b x k ih=>
  intro σ K hn h
  cases σ with
  |mk H n fs t w=>
   have h:(ac (Nat.ble (Nat.succ b) n) (T.getK H b Fm.ff λ_=>T.setK H b x λH=>lJ fs b t λt=>mg fs b w λw=>EI k (.mk H n fs t w) K hn) .ff).den:=h;rw[ar] at h;split at h
   ·rename_i hb;have hb:=aaL hb;rw[T.getK_eq] at h;split at h
    ·exact h.elim
    ·rename_i y hy;rw[T.setK_eq,kw,oG] at h;refine(ih _ K hn h).congr λK=>?_;rw[jX,if_pos (show b<n from hb),hy]
   ·exact h.elim
 |new x k ih=>
  intro σ K hn h
  cases σ with
  |mk H n fs t w=>
   have h:(ac (Nat.ble n 1000000000) (T.getK H n (T.setK H n x λH=>fN (Nat.succ n) λm=>EI (k n) (.mk H m fs t w) K hn) λ_=>Fm.ff) .ff).den:=h;rw[ar] at h;split at h
   ·rename_i hb;have hb:=aaL hb;rw[T.getK_eq] at h;split at h
    ·rename_i hx;rw[T.setK_eq,qP] at h;refine(ih n _ K hn h).congr λK=>?_;rw[gC,if_pos hb,hx]
    ·exact h.elim
   ·exact h.elim
 |pick n k ih=>
  intro σ K hn h;have h:(ac (Nat.ble n 1) (EI (k 0) σ K hn) (St.rec (motive:=λ_=>Fm) (λ_ _ fs _ _=>ac (ac (Nat.beq n 2) (Nat.beq fs 0) false) (.al (λ_=>True) λy=>H8 (y.p 0) .fail .fail (EI (k 0)) (EI (k 1)) σ K hn) .ff) σ)).den:=h;rw[ar] at h;split at h
  ·rename_i hb;refine(ih 0 σ K hn h).congr λK=>?_;show ac (Nat.ble n 1) (run (k 0) σ K) _=_;rw[ar,if_pos hb]
  ·cases σ with
   |mk H m fs t w=>
    have h:(ac (ac (Nat.beq n 2) (Nat.beq fs 0) false) (Fm.al (λ_=>True) λy=>H8 (y.p 0) .fail .fail (EI (k 0)) (EI (k 1)) (.mk H m fs t w) K hn) .ff).den:=h;rw[ar] at h;split at h
    ·rename_i hc;rw[ar] at hc;split at hc
     ·rename_i h2
      have h2:=aaq h2
      have hfs:=aaq hc
      subst h2;subst hfs
      obtain⟨a,ha⟩:=(VI (h ⟨λ_=>0,λ_=>[],λ_=>True,λ_=>[]⟩ trivial)).1 trivial
      obtain⟨b,hb⟩:=(VI (h ⟨λ_=>0,λ_=>[],λ_=>False,λ_=>[]⟩ trivial)).2 id
      intro Q hQ
      have e1:=ih 0 _ K a ha Q hQ
      have e2:=ih 1 _ K b hb Q hQ
      show iy (λi=>run (k i) (.mk H m 0 t w) Q) 2=true
      refine mL.mpr λi hi=>?_
      match i,hi with
      |0,_=>exact e1
      |1,_=>exact e2
     ·cases hc
    ·exact h.elim
 |sub t k iht ihk=>
  intro σ K hn h
  cases σ with
  |mk H n fs tc w=>
   intro Q hQ
   rw[gD]
   refine iht _ _ _ h _ λa a8 ⟨hn',h2⟩=>?_
   cases a8 with
   |mk h' n' f' t' w'=>
    have h2:(ac (Nat.beq fs 0) (EI (k a n n' t' w') (.mk h' n' fs tc w) K hn')
     (ku fs (T.keys t' id []) tc λt2=>iH fs w' w λw2=>EI (k a n n' t' w') (.mk h' n' fs t2 w2) K hn')).den:=h2
    rw[ar,pB,ng] at h2;by_cases hf:fs=0
    ·subst hf;rw[if_pos (show Nat.beq 0 0=true from rfl)] at h2;exact ihk a n n' t' w' _ K hn' h2 Q hQ
    ·have:¬Nat.beq fs 0=true:=λhb=>hf (aaq hb);rw[if_neg this] at h2;simp only [if_neg hf];exact ihk a n n' t' w' _ K hn' h2 Q hQ
 |ask p t e iht ihe=>
  intro σ K hn h;obtain⟨h1,h2⟩:=VI (t:=t) (e:=e) h;by_cases hp:p
  ·obtain⟨a,h1⟩:=h1 hp;exact(iht σ K a h1).congr λK=>fj _ _ _ _ hp
  ·obtain⟨a,h2⟩:=h2 hp;exact(ihe σ K a h2).congr λK=>fk _ _ _ _ hp
 |req p t ih=>intro σ K hn h;have h:(Fm.an p (EI t σ K hn)).den:=h;exact(ih σ K hn (h.2 h.1)).congr λK=>fm _ _ _ h.1
 |sk p z k ih=>intro σ K hn h;have h:(Fm.al p λy=>EI (k y) σ K hn).den:=h;exact ih z.1 σ K hn (h z.1 z.2)
def YV(x D:Tm):Fm:=match x,D with | .g l,.g m=>.at (l=m) | .s l,.s m=>.at (l=m)|_,_=>.ff
def QE{x D:Tm}(h:(YV x D).den):x=D:=by cases x <;> cases D <;> first|exact h.elim|exact congrArg _ h
def EJ(n:Nat)(r:Sr)(l:List BSh)(t0:Nat)(D:Tm):Lf:=λa σ _=>match e_ n σ.h r l a with
 |some s=>.an s.pr (match s.tm with | [(t,x)]=>ac (Nat.beq t t0) (YV x D) .ff|_=>.ff)
 |none=>.ff
def FSpec.callFmP(S:FSpec)(t0:Nat)(D:Sy->Tm)(P:Program)(M:Tab)(n f:Nat)(z:Sy)(h:Hn):Fm:=
 EI (mT P (wm P M n) f (S.argsA z) λa=>Cw (S.out z) (S.res z) a .ret) (start (S.heap z) (base+64)) (EJ (List.length S.blk) (S.res z) (S.out z) t0 (D z)) h
def LA{P:Program}{M:Tab}(hM:TabOk P M){n f:Nat}{S:FSpec}{t0:Nat}{D:Sy->Tm}(hp:∀z,S.pre z->S.post z (aP [(t0,D z)]))(h:∀z,S.pre z->∃hn,(S.callFmP t0 D P M n f z hn).den):Ok P f S:=by
 refine⟨λz=>⟨aP [(t0,D z)],hp z⟩,λz hz w ρ vs hG hl=>?_⟩;obtain⟨hn,hd⟩:=h z hz;refine iG (qm P hM w n).1 f (S.argsA z) vs (λa=>Cw (S.out z) (S.res z) a .ret) (start (S.heap z) (base+64)) (λa s=>dP (∃hn',(EJ (List.length S.blk) (S.res z) (S.out z) t0 (D z) a s hn').den)) ρ w _ (ne (by decide) (by decide)) hG hl (VJ _ _ _ _ hd _ λa σ hd=>fA.2 hd) λav v a8 ρ' w' q1 q2 q3 q4 q5=>?_;obtain⟨a',c9,ρ2,q1,q2,q3,q4',q5⟩:=EF q2 q3 q5 q1;obtain⟨hn',U'⟩:=fA.1 (show dP (∃hn',(EJ (List.length S.blk) (S.res z) (S.out z) t0 (D z) a' c9 hn').den)=true from q1);unfold EJ at U';split at U'
 ·rename_i s hs;obtain⟨h1,h2⟩:=U';replace h2:=h2 h1;split at h2
  ·rename_i t l htm;rw[ar] at h2;split at h2
   ·rename_i ht;have ht:=aaq ht;have h3:l=D z:=QE h2;subst ht;exact⟨v,ρ2,_,_,s,rfl,q3,q4.trans q4',q5,hs,h1,by rw[htm,h3]⟩
   ·exact h2.elim
  ·exact h2.elim
 ·exact U'.elim
end
end Go.Sym
namespace Go.Sym
noncomputable section
variable{H:Type}{enc:TypeId×Value->H}{P:Program}{W:World}
def mo(W:World):Rho:=⟨λ_ _=>none,λ_=>undef,λ_=>False,λb=>match W.heap[b]? with|some (.cells c t _)=>some (c,t)|_=>none,λb=>match W.heap[b]? with|some (.cells c t _)=>some (c,t)|_=>none⟩
def zZ{b:Nat}{c:Array Value}{t:TypeId}{fr:_}(h:W.heap[b]? =some (.cells c t fr)):(mo W).frz b=some (c,t):=by show(match W.heap[b]? with|some (.cells c t _)=>some (c,t)|_=>none)=_;rw[h]
def YW(W:World){T:T ABlk}(hT:∀b x,T.get b=some x->BR (mo W) W.heap.size W b x)(hO:∀b k I l,¬T.get b=some (.obj k I l)):Good W (mo W) T W:=
 ⟨⟨Kept.refl _ _ _,hT,(λb g h hh=>by cases hh),(λb g h b' g' h' hh=>by cases hh),(λb g h x hh=>by cases hh),(λb arr ty hh=>by
  have hh:(match W.heap[b]? with|some (.cells c t _)=>some (c,t)|_=>none)=some (arr,ty):=hh;split at hh
  ·rename_i c t fr e;injection hh with hh;injection hh with h1 h2;subst h1;subst h2;exact⟨⟨fr,e⟩,λb' g h hh=>by cases hh⟩
  ·cases hh),(λb x hh _=>hh),(λb k I l h=>absurd h (hO b k I l))⟩,λx h=>h.elim⟩
def oO{base n:Nat}{a:Addr}{cs:List Value}(h:W.cells? base a n=some cs)(hn:0<n):cs.length=n/\∃arr t fr,W.heap[a.block]? =some (.cells arr t fr)/\a.spot=none/\a.off+n<=arr.size/\∀j,j<n->arr[a.off+j]? =cs[j]? :=by
 obtain⟨h1,h2,h3⟩:=World.cells?_some h;refine⟨h2, ?_⟩;have c0:=h3 0 hn;have f8:∀j,j<n->∃v,W.cell? (a.add j)=some v/\cs[j]? =some v:=λj hj=>by have:=h3 j hj;rw[aaw (by omega)] at this;exact⟨_,this,aaw (by omega)⟩
 obtain⟨v0,e0,_⟩:=f8 0 hn;unfold World.cell? Addr.add at e0;rw[if_pos rfl] at e0;split at e0
 ·rename_i arr t fr hb;have hs:a.spot=none:=by
   cases hs:a.spot with
   |none=>rfl
   |some x=>rw[hs] at e0;cases e0
  have key:∀j,j<n->arr[a.off+j]? =cs[j]? :=λj hj=>by
   obtain⟨v,e1,e2⟩:=f8 j hj;rw[e2, ←e1];unfold World.cell? Addr.add;by_cases hj0:j=0
   ·subst hj0;rw[if_pos rfl,hb];simp [hs]
   ·rw[if_neg hj0];show _=(match W.heap[a.block]? with|some (.cells c _ _)=>_|_=>none);rw[hb];rfl
  refine⟨arr,t,fr,hb,hs, ?_,key⟩;obtain⟨v,_,e2⟩:=f8 (n-1) (by omega);have:=key (n-1) (by omega);rw[e2] at this;have:=(Array.getElem?_eq_some_iff.1 this).1;omega
 ·cases e0
def Is(a:Addr)(k:Nat):(a.add k).block=a.block:=by unfold Addr.add;split <;> rfl
def QF(a:Addr)(k:Nat):(a.add k).off=a.off+k:=by
 unfold Addr.add;split
 ·rename_i h;rw[h];rfl
 ·rfl
def pG{e:TypeId}{N:Nat}:∀{l:List (DataW H)},(∀k∈DataW.weightsAll P e l,k<=N)->∀d∈l,∀k∈d.weights P e,k<=N
 |d::l,h,x,hx,k,hk=>by
  rw[DataW.weightsAll] at h;rcases List.mem_cons.1 hx with rfl|hx
  ·exact h k (abE _ hk)
  ·exact pG (λk hk=>h k (abF _ hk)) x hx k hk
def jt{N:Nat}:∀{ts:List TypeId} {l:List (DataW H)},(∀k∈DataW.weightsEach P ts l,k<=N)->∀(i:Nat) (t:TypeId) (d:DataW H),ts[i]? =some t->l[i]? =some d->∀k∈d.weights P t,k<=N
 | [],_,_,_,_,_,ht,_,_,_=>by cases ht
 |_::_,[],_,_,_,_,_,hd,_,_=>by cases hd
 |u::ts,x::l,h,0,t,d,ht,hd,k,hk=>by rw[DataW.weightsEach] at h;injection ht with ht;injection hd with hd;subst ht;subst hd;exact h k (abE _ hk)
 |u::ts,x::l,h,i+1,t,d,ht,hd,k,hk=>by rw[DataW.weightsEach] at h;exact jt (ts:=ts) (l:=l) (λk hk=>h k (abF _ hk)) i t d ht hd k hk
def sd{sp:Nat->Bool}{held:Bool}{t e:TypeId}{m N:Nat}(hsp:∀b,sp b=true)(ht:P.underlying t=some (.slice e))(l9:P.cellsOf e=bn (cP m))(i3:0<bn (cP m))(hbe:0<P.bytesOf e)(Q:G->Prop){n:Nat}(hel:∀cs x,DataW.trod enc P W 0 sp held n e cs=some x->(∀k∈x.1.weights P e,k<=N)->∃g,Q g/\LR (mo W) (bE (cP m) g 0) cs){cs:List Value}{x:DataW H×List MemPlace}(h:DataW.trod enc P W 0 sp held (n+1) t cs=some x)(hw:∀k∈x.1.weights P t,k<=N):
 ∃v l,cs= [v]/\VR (mo W) (.cv (.rows m l)) v/\(∀g∈l,Q g)/\l.length<=N:=by
 rcases DataW.trod_slice ht h with⟨rfl,rfl⟩|⟨a,len,cap,elems,rest,n',hn,rfl,rfl,hb,hlc,hcm,hll,hi,hr,_⟩
 ·exact⟨_,[],rfl,.cvnil _ rfl,(λ_ hg=>absurd hg aa5),aaD _⟩
 ·injection hn with hn;subst hn;rw[l9] at hi hr;obtain⟨hr1,hr2⟩:=hr (hsp _);have hw':∀k∈((elems.map (·.1)).length * P.bytesOf e+(rest.map (·.1)).length * P.bytesOf e)::(DataW.weightsAll P e (elems.map (·.1))++DataW.weightsAll P e (rest.map (·.1))),k<=N:=by have:=hw;simp only [DataW.weights,ht,aaN] at this;exact this
  have hlN:len<=N:=by have:=hw' _ aaB;rw[aaZ,hll] at this;have h2:len * 1<=len * P.bytesOf e:=Nat.mul_le_mul_left _ hbe;omega
  have hwe:∀d∈elems.map (·.1),∀k∈d.weights P e,k<=N:=pG λk hk=>hw' k (aay _ (abE _ hk));have each:∀i,i<len->∃g cs',Q g/\W.cells? 0 (a.add (i * bn (cP m))) (bn (cP m))=some cs'/\LR (mo W) (bE (cP m) g 0) cs':=λi hl=>by have e1:=hi i hl;rw[aaw (by omega)] at e1;obtain⟨cs',e2,e3⟩:=Option.bind_eq_some_iff.1 e1;obtain⟨g,g1,g2⟩:=hel cs' _ e3 (hwe _ (abJ (f:=λy:DataW H×List MemPlace=>y.1) (abr _)));exact⟨g,cs',g1,e2,g2⟩
  by_cases hc0:cap=0
  ·have:len=0:=by omega
   subst hc0;subst this;exact⟨_,[],rfl,.cvempty _ a rfl,(λ_ hg=>absurd hg aa5),aaD _⟩
  ·have first:∃arr ty fr,W.heap[a.block]? =some (.cells arr ty fr)/\a.spot=none/\a.off<=arr.size:=by
    by_cases hl:0<len
    ·obtain⟨g,cs',_,e2,_⟩:=each 0 hl;obtain⟨_,arr,ty,fr,q1,q2,q3,_⟩:=oO e2 i3;rw[abq] at q1 q2 q3;exact⟨arr,ty,fr,q1,q2,by have:(a.add 0).off=a.off:=rfl;omega⟩
    ·have e1:=hr2 0 (by omega);have h0:len=0:=by omega
     rw[show len+0=0 by omega,abq,aaw (by omega)] at e1;obtain⟨cs',e2,_⟩:=Option.bind_eq_some_iff.1 e1;obtain⟨_,arr,ty,fr,q1,q2,q3,_⟩:=oO e2 i3;exact⟨arr,ty,fr,q1,q2,by have:(a.add 0).off=a.off:=rfl;omega⟩
   obtain⟨arr,ty,fr,hH,hS,hO⟩:=first
   have fr2:∀i,i<len->∃g cs',Q g/\LR (mo W) (bE (cP m) g 0) cs'/\a.off+i * bn (cP m)+bn (cP m)<=arr.size/\∀j,j<bn (cP m)->arr[a.off+i * bn (cP m)+j]? =cs'[j]? :=λi hl=>by obtain⟨g,cs',g1,e2,g2⟩:=each i hl;obtain⟨_,j8,G',fr',q1,_,q3,q4⟩:=oO e2 i3;rw[Is,hH] at q1;injection q1 with q1;injection q1 with q1;subst q1;rw[QF] at q3 q4;exact⟨g,cs',g1,g2,q3,q4⟩
   let f:_root_.Fin len->G:=λi=>Classical.choose (fr2 i.1 i.2);have hf:∀i:_root_.Fin len,∃cs',Q (f i)/\LR (mo W) (bE (cP m) (f i) 0) cs'/\a.off+i.1 * bn (cP m)+bn (cP m)<=arr.size/\∀j,j<bn (cP m)->arr[a.off+i.1 * bn (cP m)+j]? =cs'[j]? :=λi=>abI (fr2 i.1 i.2);refine⟨_,List.ofFn f,rfl, ?_,λg hg=>?_,by rw[List.length_ofFn];exact hlN⟩
   ·obtain⟨bl,off,spot⟩:=a;have hS:spot=none:=hS;subst hS;have hlen:(Ct.rows m (List.ofFn f)).len=len:=List.length_ofFn;have hr0:VR (mo W) (.cv (.rows m (List.ofFn f))) (.slice (some ⟨bl,off,none⟩) (Ct.rows m (List.ofFn f)).len cap):=by
     refine .cv (.rows m (List.ofFn f)) bl off cap arr ty (zZ hH) (by rw[hlen];exact hlc) ?_ λi j av v hi' hav hv=>?_
     ·rw[hlen];show off+len * bn (cP m)<=arr.size;by_cases hl:0<len
      ·obtain⟨_,_,_,q,_⟩:=hf ⟨len-1,by omega⟩;have q:off+(len-1) * bn (cP m)+bn (cP m)<=arr.size:=q;have e:len * bn (cP m)=(len-1) * bn (cP m)+bn (cP m):=by
        have:len=(len-1)+1:=by omega
        conv=>lhs;rw[this,aaN,Nat.one_mul]
       omega
      ·have:len=0:=by omega
       rw[this,abq];exact hO
     ·rw[hlen] at hi';obtain⟨cs',_,hL,_,q⟩:=hf ⟨i,hi'⟩;have hgi:aq (List.ofFn f) i=f ⟨i,hi'⟩:=by unfold aq;rw[aas,aaw (by rw[List.length_ofFn];exact hi'),List.getElem_ofFn];rfl
      have hav:(bE (cP m) (aq (List.ofFn f) i) 0)[j]? =some av:=hav;rw[hgi] at hav;have hj:j<bn (cP m):=by
       have:=(List.getElem?_eq_some_iff.1 hav).1
       rwa [qQ] at this
      have hv:arr[off+i * bn (cP m)+j]? =some v:=hv;have q:arr[off+i * bn (cP m)+j]? =cs'[j]? :=q j hj;rw[q] at hv;exact hL.2 j av v hav hv
    rw[hlen] at hr0;exact hr0
   ·obtain⟨i,rfl⟩:=List.mem_ofFn.1 hg;exact(hf i).choose_spec.1
end
end Go.Sym
namespace Go.Sym
open Go.RowKit (Below)
variable{P:Program}
structure ObStep(root:Nat)(fp fp':List Nat)(w w':World):Prop where
 os:w'.os=w.os
 tape:w'.tape=w.tape
 output:w'.output=w.output
 size:w.heap.size<=w'.heap.size
 block:∀k,k<w.heap.size->k∉root::fp->w'.heap[k]? =w.heap[k]?
 sub:∀x∈fp',x∈fp∨(w.heap.size<=x/\x<w'.heap.size)
noncomputable section
open Classical in
def nv(ρ:Rho)(b0 n:Nat)(fp':List Nat):Rho:=
 {at_:=λb g=>match ρ.at_ b g with|some h=>some h|none=>if b=b0/\1<=g/\g-1∈fp'/\n<=g-1 then some ⟨g-1,0,0⟩ else none,val:=ρ.val,own:=ρ.own,frz:=ρ.frz,frz0:=ρ.frz0}
def se(ρ:Rho)(b0 n:Nat)(fp':List Nat):ρ.le (nv ρ b0 n fp'):=
 ⟨λb g h hh=>by show(match ρ.at_ b g with|some h=>some h|none=>_)=_;rw[hh],rfl,rfl,λ_ _ h=>h,rfl⟩
def eV{ρ:Rho}{b0 n:Nat}{fp':List Nat}{b g:Nat}{h:Home}(hh:(nv ρ b0 n fp').at_ b g=some h):
 ρ.at_ b g=some h∨(b=b0/\g=h.blk+1/\h=⟨h.blk,0,0⟩/\h.blk∈fp'/\n<=h.blk):=by
 have hh:(match ρ.at_ b g with|some h=>some h|none=>if b=b0/\1<=g/\g-1∈fp'/\n<=g-1 then some (⟨g-1,0,0⟩:Home) else none)=some h:=hh
 cases hr:ρ.at_ b g with
 |some h0=>rw[hr] at hh;exact .inl hh
 |none=>
  rw[hr] at hh
  by_cases hc:b=b0/\1<=g/\g-1∈fp'/\n<=g-1
  ·simp only [if_pos hc] at hh;injection hh with hh;subst hh;exact .inr ⟨hc.1,by show g=g-1+1;omega,rfl,hc.2.2.1,hc.2.2.2⟩
  ·simp only [if_neg hc] at hh;cases hh
def uQ{ρ:Rho}{b0 n:Nat}{fp':List Nat}{x:Nat}(hx:x∈fp')(hn:n<=x)(h0:ρ.at_ b0 (x+1)=none):(nv ρ b0 n fp').at_ b0 (x+1)=some ⟨x,0,0⟩:=by show(match ρ.at_ b0 (x+1) with|some h=>some h|none=>if b0=b0/\1<=x+1/\x+1-1∈fp'/\n<=x+1-1 then some (⟨x+1-1,0,0⟩:Home) else none)=_;rw[h0];exact if_pos ⟨rfl,by omega,hx,hn⟩
def ju{b0 b:Nat}{q x:ABlk}(h0:b0+1<2 ^ 64)(h:((T.leaf:T ABlk).set b0 q).get b=some x):b=b0/\x=q:=by
 by_cases e:b=b0
 ·subst e;rw[T.get_set_same _ _ _ h0] at h;exact⟨rfl,(Option.some.inj h).symm⟩
 ·rw[T.get_set_ne _ e] at h;simp [T.get] at h
def QG{w w':World}{ρ:Rho}{k b0:Nat}{C:List G->Nat->List Nat->World->Prop}(hC:∀l,qR (C l)){l l':List G}{h:Home}{fp fp':List Nat}(c7:b0+1<2 ^ 64)(hG:Good w ρ ((T.leaf:T ABlk).set b0 (.obj k (C l) l)) w)(j0:ρ.at_ b0 0=some h)(hs:h.shift=0)(hfp:∀x∈h.blk::fp,Own ρ w.heap.size x/\∃g hx,ρ.at_ b0 g=some hx/\hx.blk=x)(hfz:∀b x,ρ.frz b=some x->b∉h.blk::fp)(hI:C l' h.blk fp' w')(j9:ObStep h.blk fp fp' w w'):
 Good w (nv ρ b0 w.heap.size fp') ((T.leaf:T ABlk).set b0 (.obj k (C l') l')) w':=by
 have f8:((T.leaf:T ABlk).set b0 (.obj k (C l') l')).get b0=some (.obj k (C l') l'):=T.get_set_same _ _ _ c7
 have ae6:((T.leaf:T ABlk).set b0 (.obj k (C l) l)).get b0=some (.obj k (C l) l):=T.get_set_same _ _ _ c7
 have hle:=se ρ b0 w.heap.size fp'
 have hb0:∀b g h,ρ.at_ b g=some h->b=b0/\h.blk<w.heap.size:=λb g h hh=>by obtain⟨q1,x,q2⟩:=hG.dom _ _ _ hh;exact⟨(ju c7 q2).1,q1⟩
 have ab_:∀x,w.heap.size<=x->ρ.at_ b0 (x+1)=none:=λx hx=>by
  cases hr:ρ.at_ b0 (x+1) with
  |none=>rfl
  |some t8=>
   rcases(hG.objO _ _ _ _ ae6 _ _ hr).2 with e|e
   ·omega
   ·have:=(hb0 _ _ _ hr).2;omega
 have u7:∀b,b<w.heap.size->b∉h.blk::fp->w'.heap[b]? =w.heap[b]? :=j9.block
 refine⟨⟨⟨j9.os,j9.tape,j9.output,j9.size,λb hb j5=>u7 b hb (λhm=>?_)⟩,λb x hx=>?_,λb g h2 hh=>?_,λb g h1 b' g' h2 hh1 hh2 e=>?_,λb g h2 x hh hx=>?_,λb arr ty hf=>?_,hG.frzB,λb k2 I2 l2 hx g h2 hh=>?_⟩,λx hx=>?_⟩
 ·rcases(hfp _ hm).1 with h1|h1
  ·omega
  ·exact j5 h1
 ·obtain⟨rfl,rfl⟩:=ju c7 hx;refine⟨hC l',h,fp',hle.at_ _ _ _ j0,hs,λy hy=>?_,hI⟩;have old:y∈h.blk::fp->Own (nv ρ b w.heap.size fp') w.heap.size y/\∃g hx,(nv ρ b w.heap.size fp').at_ b g=some hx/\hx.blk=y:=λhm=>by obtain⟨q1,g,hx,q2,q3⟩:=hfp _ hm;exact⟨q1,g,hx,hle.at_ _ _ _ q2,q3⟩
  rcases List.mem_cons.1 hy with e|hy
  ·exact old (e▸aaB)
  ·rcases j9.sub y hy with h1|⟨h1,h2⟩
   ·exact old (aay _ h1)
   ·exact⟨.inl h1,y+1,_,uQ hy h1 (ab_ y h1),rfl⟩
 ·rcases eV hh with h1|⟨rfl,_,_,h3,h4⟩
  ·obtain⟨rfl,q⟩:=hb0 _ _ _ h1;exact⟨abh q j9.size,_,f8⟩
  ·rcases j9.sub _ h3 with h5|⟨_,h5⟩
   ·obtain⟨_,g2,hx,q2,q3⟩:=hfp _ (aay _ h5);have:=(hb0 _ _ _ q2).2;omega
   ·exact⟨h5,_,f8⟩
 ·rcases eV hh1 with a1|⟨a1,a2,a3,a4,a5⟩
  ·rcases eV hh2 with c1|⟨c1,c2,c3,c4,c5⟩
   ·exact hG.inj _ _ _ _ _ _ a1 c1 e
   ·have:=(hb0 _ _ _ a1).2;omega
  ·rcases eV hh2 with c1|⟨c1,c2,c3,c4,c5⟩
   ·have:=(hb0 _ _ _ c1).2;omega
   ·exact⟨a1.trans c1.symm,by rw[a3,c3,e]⟩
 ·obtain⟨rfl,rfl⟩:=ju c7 hx;trivial
 ·obtain⟨⟨fr,q1⟩,q2⟩:=hG.frz _ _ _ hf;have c8:b<w.heap.size:=(Array.getElem?_eq_some_iff.1 q1).1;refine⟨⟨fr,(u7 b c8 (hfz _ _ hf)).trans q1⟩,λb' g h2 hh e=>?_⟩;rcases eV hh with a1|⟨a1,a2,a3,a4,a5⟩
  ·obtain⟨x,r1,r2⟩:=q2 _ _ _ a1 e;obtain⟨rfl,rfl⟩:=ju c7 r1;exact absurd r2 (λh=>h)
  ·omega
 ·obtain⟨rfl,e⟩:=ju c7 hx;rcases eV hh with a1|⟨a1,a2,a3,a4,a5⟩
  ·exact hG.objO _ _ _ _ ae6 _ _ a1
  ·exact⟨.inl a5,.inr a2⟩
 ·obtain⟨b,g,h2,q1,q2,q3⟩:=hG.ownB x hx;exact⟨b,g,h2,q1,hle.at_ _ _ _ q2,q3⟩
def QH{f k:Nat}{C:List G->Nat->List Nat->World->Prop}{S:FSpec}{al:List Sa}(hC:∀l,qR (C l))(tR:Sy->List G)(av:Sy->AV)(tm:Sy->List (Nat×Tm))(e1:S.args= .c (.p 0)::al)(e2:S.blk= [.obj k C 20])(e3:S.gl=none)(ae7:∀z,S.pre z->S.post z (aP (tm z)))(Y':∀z,∃s,e_ 1 ((T.leaf:T ABlk).set base (.obj k (C (tR z)) (tR z))) (S.res z) (S.out z) (av z)=some s/\s.pr/\s.tm=tm z)(af3:∀(args:Array Value) (w:World),(callFunc f args).run P w= .ok (.enter f args) w)(ah3:∀z,S.pre z->∀(w:World) (ρ:Rho) (root:Nat) (fp:List Nat) (vs:List Value),(∀b x,ρ.frz b=some x->b∉root::fp/\∃fr,w.heap[b]? =some (.cells x.1 x.2 fr))->(∀x∈root::fp,x<w.heap.size)->LR ρ (nh bO z al) vs->C (z.g 20) root fp w->
  Calls P f (Value.pointer (some ⟨root,0,none⟩)::vs).toArray w λe w'=>∃v fp',e= .returned v/\C (tR z) root fp' w'/\ObStep root fp fp' w w'/\∀ρ',VR ρ' (av z) v):Ok P f S:=by
 refine⟨λz=>⟨aP (tm z),ae7 z⟩,λz hz w ρ vs hG hl=>?_⟩
 have hH:S.heap z=(T.leaf:T ABlk).set base (.obj k (C (z.g 20)) (z.g 20)):=by unfold FSpec.heap;rw[e3,e2];rfl
 rw[hH] at hG
 unfold FSpec.argsA at hl
 rw[e1] at hl
 obtain⟨v0,m7,rfl,h0,l3⟩:=LR.cons_inv (show LR ρ (.ptr base 0 0::nh bO z al) vs from hl)
 have c7:base+1<2 ^ 64:=by decide
 have ae6:((T.leaf:T ABlk).set base (.obj k (C (z.g 20)) (z.g 20))).get base=some (.obj k (C (z.g 20)) (z.g 20)):=T.get_set_same _ _ _ c7
 cases h0 with
 |ptr b g o h hh ho=>
  obtain⟨ad8,h1,fp,j0,hs,hfp,hI⟩:=hG.blk _ _ ae6
  rw[hh] at j0;injection j0 with j0;subst j0
  have hfz:∀b x,ρ.frz b=some x->b∉h.blk::fp:=λb x hf hm=>by obtain⟨_,g,hx,q2,q3⟩:=hfp _ hm;exact hG.frzE (show ρ.frz b=some (x.1,x.2) from hf) q2 ae6 (λh=>h) q3
  have hc:=ah3 z hz w ρ h.blk fp m7 (λb x hf=>⟨hfz b x hf,(hG.frz _ _ _ (show ρ.frz b=some (x.1,x.2) from hf)).1⟩) (λx hm=>by obtain⟨_,g,hx,q2,q3⟩:=hfp _ hm;have:=(hG.dom _ _ _ q2).1;omega) l3 hI
  rw[hs]
  refine⟨λargs=>af3 args w,callsIn_wide.2 (hc.mono ?_)⟩
  rintro e w' ⟨v,fp',rfl,hI',j9,hv⟩
  obtain⟨s,p1,p2,p3⟩:=Y' z
  refine⟨v,nv ρ base w.heap.size fp',_,av z,s,rfl,QG hC c7 hG hh hs hfp hfz hI' j9,se _ _ _ _,hv _, ?_,p2,by rw[p3]⟩
  rw[e2];exact p1
def YX{f k:Nat}{C:List G->Nat->List Nat->World->Prop}{S:FSpec}(hC:∀l,qR (C l))(tR:Sy->List G)(av:Sy->AV)(tm:Sy->List (Nat×Tm))(e2:S.blk= [])(e3:S.gl=none)(ae7:∀z,S.pre z->S.post z (aP (tm z)))(Y':∀z,∃s,e_ 0 ((T.leaf:T ABlk).set (base+64) (.obj k (C (tR z)) (tR z))) (S.res z) (S.out z) (av z)=some s/\s.pr/\s.tm=tm z)(af3:∀(args:Array Value) (w:World),(callFunc f args).run P w= .ok (.enter f args) w)(ah3:∀z,S.pre z->∀(w:World) (ρ:Rho) (vs:List Value),LR ρ (S.argsA z) vs->
  Calls P f vs.toArray w λe w'=>∃v root fp',e= .returned v/\C (tR z) root fp' w'/\Below w.heap.size w w'/\(∀x∈root::fp',w.heap.size<=x/\x<w'.heap.size)/\∀ρ':Rho,ρ'.at_ (base+64) 0=some ⟨root,0,0⟩->VR ρ' (av z) v):Ok P f S:=by
 refine⟨λz=>⟨aP (tm z),ae7 z⟩,λz hz w ρ vs hG hl=>?_⟩
 have hH:S.heap z=(T.leaf:T ABlk):=by unfold FSpec.heap;rw[e3,e2];rfl
 rw[hH] at hG
 have c7:base+64+1<2 ^ 64:=by decide
 refine⟨λargs=>af3 args w,callsIn_wide.2 ((ah3 z hz w ρ vs hl).mono ?_)⟩
 rintro e w' ⟨v,root,fp',rfl,hI,hb,g9,hv⟩
 obtain⟨s,p1,p2,p3⟩:=Y' z
 have j5:∀b g,ρ.at_ b g=none:=λb g=>by
  cases hr:ρ.at_ b g with
  |none=>rfl
  |some h=>obtain⟨_,x,q⟩:=hG.dom _ _ _ hr;simp [T.get] at q
 let x7:Rho:={at_:=λb g=>if b=base+64/\g=0 then some ⟨root,0,0⟩ else ρ.at_ b g,val:=ρ.val,own:=ρ.own,frz:=ρ.frz,frz0:=ρ.frz0}
 have h1:x7.at_ (base+64) 0=some ⟨root,0,0⟩:=by show(if base+64=base+64/\(0:Nat)=0 then some (⟨root,0,0⟩:Home) else ρ.at_ (base+64) 0)=_;exact if_pos ⟨rfl,rfl⟩
 have h1i:∀b g h,x7.at_ b g=some h->b=base+64/\g=0/\h=⟨root,0,0⟩:=λb g h hh=>by
  have hh:(if b=base+64/\g=0 then some (⟨root,0,0⟩:Home) else ρ.at_ b g)=some h:=hh;split at hh
  ·rename_i hc;injection hh with hh;exact⟨hc.1,hc.2,hh.symm⟩
  ·rw[j5] at hh;cases hh
 have m8:ρ.le x7:=⟨(λb g h hh=>by rw[j5] at hh;cases hh),rfl,rfl,λ_ _ h=>h,rfl⟩
 have d8:=se x7 (base+64) w.heap.size fp'
 have hinv:∀b g h,(nv x7 (base+64) w.heap.size fp').at_ b g=some h->b=base+64/\h=⟨h.blk,0,0⟩/\h.blk∈root::fp'/\(g=0∨g=h.blk+1):=λb g h hh=>by
  rcases eV hh with a1|⟨a1,a2,a3,a4,a5⟩
  ·obtain⟨q1,q2,rfl⟩:=h1i _ _ _ a1;exact⟨q1,rfl,aaB,.inl q2⟩
  ·exact⟨a1,a3,aay _ a4,.inr a2⟩
 have f8:((T.leaf:T ABlk).set (base+64) (.obj k (C (tR z)) (tR z))).get (base+64)=some (.obj k (C (tR z)) (tR z)):=T.get_set_same _ _ _ c7
 refine⟨v,nv x7 (base+64) w.heap.size fp',(T.leaf:T ABlk).set (base+64) (.obj k (C (tR z)) (tR z)),av z,s,rfl, ?_,m8.trans d8,hv _ (d8.at_ _ _ _ h1),by rw[e2];exact p1,p2,by rw[p3]⟩
 refine⟨⟨Kept.of hb,λb x hx=>?_,λb g h2 hh=>?_,λb g a b' g' c hh1 hh2 e=>?_,λb g h2 x hh hx=>?_,λb arr ty hf=>?_,hG.frzB,λb k2 I2 l2 hx g h2 hh=>?_⟩,λx hx=>?_⟩
 ·obtain⟨rfl,rfl⟩:=ju c7 hx;refine⟨hC _,⟨root,0,0⟩,fp',d8.at_ _ _ _ h1,rfl,λy hy=>⟨.inl (g9 y hy).1, ?_⟩,hI⟩;rcases List.mem_cons.1 hy with e|hy
  ·exact⟨0,_,d8.at_ _ _ _ h1,e.symm⟩
  ·refine⟨y+1,_,uQ hy (g9 y (aay _ hy)).1 ?_,rfl⟩;show(if base+64=base+64/\y+1=0 then some (⟨root,0,0⟩:Home) else ρ.at_ (base+64) (y+1))=none;rw[if_neg (by omega)];exact j5 _ _
 ·obtain⟨rfl,_,q3,_⟩:=hinv _ _ _ hh;exact⟨(g9 _ q3).2,_,f8⟩
 ·obtain⟨q1,q2,_,_⟩:=hinv _ _ _ hh1;obtain⟨r1,r2,_,_⟩:=hinv _ _ _ hh2;exact⟨q1.trans r1.symm,by rw[q2,r2,e]⟩
 ·obtain⟨rfl,rfl⟩:=ju c7 hx;trivial
 ·obtain⟨⟨fr,q1⟩,_⟩:=hG.frz _ _ _ hf;have c8:b<w.heap.size:=(Array.getElem?_eq_some_iff.1 q1).1;refine⟨⟨fr,(hb.block b c8).trans q1⟩,λb' g h2 hh e=>?_⟩;obtain⟨_,_,q3,_⟩:=hinv _ _ _ hh;have:=(g9 _ q3).1;omega
 ·obtain⟨_,_,q3,q4⟩:=hinv _ _ _ hh;exact⟨.inl (g9 _ q3).1,q4⟩
 ·obtain⟨b,g,h2,q1,q2,q3⟩:=hG.ownB x hx;rw[j5] at q2;cases q2
end
end Go.Sym
namespace Go.Sym
def LB{P:Program}{f:Nat}{S:FSpec}(h:∀z,¬S.pre z):Ok P f S:=⟨λz=>⟨⟨λ_=>0,λ_=>[],λ_=>False,λ_=>[]⟩,λhp=>absurd hp (h z)⟩,λz hz=>absurd hz (h z)⟩
def ai{P:Program}{f:Nat}{S:FSpec}{l:List Ent}(h:Ok P f S)(hl:∀e∈l,gQ P e):∀e∈(⟨f,S,Classical.choose h,false⟩:Ent)::l,gQ P e:=eC (Classical.choose_spec h) hl
def jI{P:Program}{f:Nat}{S:FSpec}{l:List Ent}(h:Ok P f S)(hl:∀e∈l,gQ P e):∀e∈(⟨f,S,Classical.choose h,true⟩:Ent)::l,gQ P e:=eC (Classical.choose_spec h) hl
def aG{P:Program}{fn id:Nat}{ptm:List (Nat×Sa)}{LS:Sy->LSpec}{l:List LEnt}(h:YU P fn id LS)(hl:∀e∈l,fC P e):∀e∈(⟨fn,id,iM P fn id,ptm,LS,Classical.choose h⟩:LEnt)::l,fC P e:=lC (Classical.choose_spec h) hl
def okF{P:Program}{m:List Memo}{c:List Ent}{l:List LEnt}{f:Nat}{S:FSpec}{T:Sy->Fm}{hn:Hn}(n:Nat)(hm:∀x∈m,me P x)(hc:∀e∈c,gQ P e)(hl:∀e∈l,fC P e)(hd:∀z,S.pre z->(T z).den)(he:∀z,S.callFm P (nr m c l) n f z hn=T z:=by intro _;kernel_rfl):Ok P f S:=Qz (nu hm hc hl) λz hz=>⟨hn,by rw[he];exact hd z hz⟩
def okP{P:Program}{m:List Memo}{c:List Ent}{l:List LEnt}{f:Nat}{S:FSpec}{T:Sy->Fm}{hn:Hn}{t0:Nat}{D:Sy->Tm}(n:Nat)(hm:∀x∈m,me P x)(hc:∀e∈c,gQ P e)(hl:∀e∈l,fC P e)(hd:∀z,S.pre z->(T z).den)(hp:∀z,S.pre z->S.post z (aP [(t0,D z)]):=by intro _ _;rfl)(he:∀z,S.callFmP t0 D P (nr m c l) n f z hn=T z:=by intro _;kernel_rfl):Ok P f S:=LA (nu hm hc hl) hp λz hz=>⟨hn,by rw[he];exact hd z hz⟩
def okLF{P:Program}{m:List Memo}{c:List Ent}{l:List LEnt}{fn id:Nat}{LS:Sy->LSpec}{T:Sy->Sy->Fm}{hn:Hn}(n:Nat)(hm:∀x∈m,me P x)(hc:∀e∈c,gQ P e)(hl:∀e∈l,fC P e)(hd:∀p z,(LS p).inv z->(T p z).den)(he:∀p z,(LS p).roundFm P (nr m c l) n fn id z hn=T p z:=by intro _ _;kernel_rfl)(hi:eU P fn id=true:=by kernel_rfl)(c7:∀p,Nat.ble (LS p).blk.length 64=true:=by intro _;rfl)(hgl:∀p g ty l,(LS p).gl=some (g,ty,l)->g<1048576:=by intro p g ty l h;cases h):YU P fn id LS:=VG (nu hm hc hl) hi (λp=>Nat.le_of_ble_eq_true (c7 p)) (λp z hz=>⟨hn,by rw[he];exact hd p z hz⟩) hgl
def hD:Nat->Nat->Hn×Nat
 |0,n=>(.nil,n)
 |k+1,n=>match n%4 with
  |0=>(.nil,n/4)
  |1=>(.both (hD k (n/4)).1 (hD k (hD k (n/4)).2).1,(hD k (hD k (n/4)).2).2)
  |2=>(.yes (hD k (n/4)).1,(hD k (n/4)).2)
  |_=>(.no (hD k (n/4)).1,(hD k (n/4)).2)
def hC(k n:Nat):Hn:=(hD k n).1
def bC{P:Program}{c:List Ent}{l:List LEnt}{f:Nat}{S:FSpec}{T:Sy->Fm}(i j:Nat)(hc:∀e∈c,gQ P e)(hl:∀e∈l,fC P e)(hd:∀z,S.pre z->(T z).den)(he:∀z,S.callFm P (nr [] c l) 1000 f z (hC i j)=T z:=by intro _;kernel_rfl):Ok P f S:=okF 1000 mN hc hl hd he
def bL{P:Program}{c:List Ent}{l:List LEnt}{fn id:Nat}{LS:Sy->LSpec}{T:Sy->Sy->Fm}(i j:Nat)(hc:∀e∈c,gQ P e)(hl:∀e∈l,fC P e)(hd:∀p z,(LS p).inv z->(T p z).den)(he:∀p z,(LS p).roundFm P (nr [] c l) 1000 fn id z (hC i j)=T p z:=by intro _ _;kernel_rfl)(hi:eU P fn id=true:=by kernel_rfl)(c7:∀p,Nat.ble (LS p).blk.length 64=true:=by intro _;rfl)(hgl:∀p g ty l,(LS p).gl=some (g,ty,l)->g<1048576:=by intro p g ty l h;cases h):YU P fn id LS:=okLF 1000 mN hc hl hd he hi c7 hgl
abbrev Fm.ax(q:Prop):Fm:=.an True (.at q)
abbrev Fm.ct(q:Prop)(r:Sy->Prop)(f:Sy->Fm):Fm:=.an (True/\q) (.al (λy=>q->r y) f)
abbrev Fm.cl(a q:Prop)(r:Sy->Prop)(f:Sy->Fm):Fm:=.an (a/\q) (.al (λy=>q->r y) f)
def jO{p:Prop}(h:p:=by(try conv=>zeta);(repeat' with_reducible first|intro _|apply ci|apply cm|apply cj|apply cD|apply cA);all_goals first|omega|grind [ao,ak,aj]):p:=h
def iO{p:Prop}(h:p:=by(try conv=>zeta);(repeat' with_reducible first|intro _|apply ci|apply cm|apply cj|apply cD|apply cA);all_goals first|omega|grind [ao,ak,aj,List.append_assoc]):p:=h
def z_{p:Prop}(h:p:=by(try conv=>zeta);(repeat' with_reducible first|intro _|apply ci|apply cm|apply cj|apply cD|apply cA);all_goals first|omega|grind [ao,ak,aj,List.append_assoc,List.length_append,List.length_cons,List.length_nil,List.append_cancel_left_eq,List.cons.injEq]):p:=h
end Go.Sym
