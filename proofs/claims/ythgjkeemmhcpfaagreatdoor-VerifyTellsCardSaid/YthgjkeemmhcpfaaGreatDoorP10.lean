/- Part 10. -/
import Derived.Test.YthgjkeemmhcpfaaGreatDoorP9
set_option linter.all false
namespace Go.Sym
open Go.RowKit (Below)
def ZN{w0 w w':World}{ρ ρp:Rho}{H Hp H2:T ABlk}(hG:Good w0 ρ H w)(hP:Good0 w ρp Hp w')(hH2:∀b,H2.get b=match Hp.get b with|some X=>some X|none=>H.get b)(i5:∀x,ρp.own x->Own ρ w0.heap.size x)(ab7:ρp.val=ρ.val)(ak7:∀b x,ρ.frz b=some x->ρp.frz b=some x)(hf0:ρp.frz0=ρ.frz)(hq:∀b g h,ρp.at_ b g=some h->ρ.at_ b g=some h∨(ρ.at_ b g=none/\∀b' g' h',ρ.at_ b' g'=some h'->h'.blk=h.blk->b'=b/\h'=h))(ac2:∀b g h X,ρ.at_ b g=some h->Hp.get b=some X->Kw g X)(hex:∀b X,Hp.get b=some X->∃X0,H.get b=some X0/\¬zK X0)(ar2:∀b g h,ρ.at_ b g=some h->Hp.get b=none->¬ρp.own h.blk)(ab9:∀b k I l,Hp.get b=some (.obj k I l)->(∃k I l,H.get b=some (.obj k I l))∨∀g,ρ.at_ b g=none)(ah7:∀b X,Hp.get b=some X->(∃c n ty,X= .cells c 0 0 n 0 0 false ty)∨(∃c g ty,X= .grow c g ty)∨(∃m l,X= .smap m l)∨∃k I l,X= .obj k I l):
 ∃ρ2:Rho,Good w0 ρ2 H2 w'/\ρ.le ρ2/\(∀b g h,ρp.at_ b g=some h->ρ2.at_ b g=some h)/\ρ2.val=ρp.val/\ρ2.frz=ρp.frz:=by
 let ρ2:Rho:=⟨λb g=>match ρ.at_ b g with|some h=>some h|none=>ρp.at_ b g,ρp.val,ρ.own,ρp.frz,ρ.frz0⟩
 have h21:∀b g h,ρ.at_ b g=some h->ρ2.at_ b g=some h:=λb g h hh=>by show(match ρ.at_ b g with|some h=>some h|none=>ρp.at_ b g)=some h;rw[hh]
 have h22:∀b g h,ρp.at_ b g=some h->ρ2.at_ b g=some h:=λb g h hh=>by
  show(match ρ.at_ b g with|some h=>some h|none=>ρp.at_ b g)=some h;rcases hq b g h hh with h'|⟨h',_⟩
  ·rw[h']
  ·rw[h'];exact hh
 have h23:∀b g h,ρ2.at_ b g=some h->ρ.at_ b g=some h∨(ρ.at_ b g=none/\ρp.at_ b g=some h):=λb g h hh=>by
  have hh:(match ρ.at_ b g with|some h=>some h|none=>ρp.at_ b g)=some h:=hh
  cases hr:ρ.at_ b g with
  |some h'=>rw[hr] at hh;exact .inl hh
  |none=>rw[hr] at hh;exact .inr ⟨rfl,hh⟩
 have hle:ρ.le ρ2:=⟨h21,ab7,rfl,ak7,rfl⟩
 have hvp:∀a v,VR ρp a v->VR ρ2 a v:=λa v h=>h.into h22 rfl λ_ _ h=>h
 have T':=hG.below.size
 have ar3:=hP.below.size
 have m7:∀b g h,ρp.at_ b g=some h->ρ.at_ b g=none->∀b' g' h',ρ.at_ b' g'=some h'->h'.blk=h.blk->b'=b/\h'=h:=λb g h hh hn=>by
  rcases hq b g h hh with h'|⟨_,h'⟩
  ·rw[hn] at h';cases h'
  ·exact h'
 have af0:∀x,Own ρp w.heap.size x->Own ρ2 w0.heap.size x:=λx hx=>by
  rcases hx with hx|hx
  ·exact .inl (by omega)
  ·exact i5 x hx
 refine⟨ρ2,⟨⟨?_,λb X hX=>?_,λb g h hh=>?_,λb g h b' g' h' q1 q2 e=>?_,λb g h X hh hX=>?_,λb arr ty hf=>?_,λb x hf c8=>?_,λb k I l hX g h hh=>?_⟩,λx hx=>by obtain⟨b,g,h,q1,q2,q3⟩:=hG.ownB x hx;exact⟨b,g,h,q1,h21 _ _ _ q2,q3⟩⟩,hle,h22,rfl,rfl⟩
 ·refine hG.below.trans ⟨hP.below.os,hP.below.tape,hP.below.output,ar3,λx hx ho=>hP.below.block x (by omega) λhpo=>?_⟩;rcases i5 x hpo with h|h
  ·omega
  ·exact ho h
 ·rw[hH2] at hX
  cases hp:Hp.get b with
  |some X'=>
   rw[hp] at hX;injection hX with hX;subst hX;have hB:=hP.blk _ _ hp;rcases ah7 _ _ hp with⟨c,n,ty,e⟩|⟨c,g,ty,e⟩|⟨m,l,e⟩|⟨k,I,l,e⟩
   ·subst e;refine⟨hB.1,λg hg=>?_⟩;obtain⟨hm,r1,r2,r3,arr,fr,r4,r5,r6,r7⟩:=hB.2 g hg;refine⟨hm,h22 _ _ _ r1,λh=>af0 _ (r2 h),r3,arr,fr,r4,r5,r6,λo tag a ho ht=>?_⟩;obtain⟨s1,u,s2,s3⟩:=r7 o tag a ho ht;exact⟨s1,u,s2,hvp _ _ s3⟩
   ·subst e;rcases hB with h0|⟨hm,r1,r2,r3,arr,fr,r4,r5,r6,r7,r8⟩
    ·exact .inl h0
    ·refine .inr ⟨hm,h22 _ _ _ r1,r2,af0 _ r3,arr,fr,r4,r5,r6,r7,λi hi j a ha=>?_⟩;obtain⟨u,u1,u2⟩:=r8 i hi j a ha;exact⟨u,u1,hvp _ _ u2⟩
   ·subst e;obtain⟨hm,r1,r2,es,clock,r3,r4,r5⟩:=hB;refine⟨hm,h22 _ _ _ r1,af0 _ r2,es,clock,r3,r4,λi g e hi he=>?_⟩;obtain⟨s1,s2⟩:=r5 i g e hi he;exact⟨hvp _ _ s1,hvp _ _ s2⟩
   ·subst e;obtain⟨hl,hm,fp,r1,r2,r3,r4⟩:=hB;refine⟨hl,hm,fp,h22 _ _ _ r1,r2,λx hx=>?_,r4⟩;obtain⟨s1,g,hx',s2,s3⟩:=r3 x hx;exact⟨af0 _ s1,g,hx',h22 _ _ _ s2,s3⟩
  |none=>rw[hp] at hX;exact(hG.blk _ _ hX).keep hle λg h hh=>hP.below.block _ (hG.dom _ _ _ hh).1 (ar2 b g h hh hp)
 ·rcases h23 b g h hh with hh|⟨hn,hh⟩
  ·obtain⟨q1,X,q2⟩:=hG.dom _ _ _ hh
   refine⟨by omega, ?_⟩
   rw[hH2]
   cases hp:Hp.get b with
   |some X'=>exact⟨_,rfl⟩
   |none=>exact⟨X,q2⟩
  ·obtain⟨q1,X,q2⟩:=hP.dom _ _ _ hh;exact⟨q1,X,by rw[hH2,q2]⟩
 ·rcases h23 b g h q1 with q1|⟨hn1,q1⟩ <;> rcases h23 b' g' h' q2 with q2|⟨hn2,q2⟩
  ·exact hG.inj _ _ _ _ _ _ q1 q2 e
  ·exact m7 _ _ _ q2 hn2 _ _ _ q1 e
  ·obtain⟨r1,r2⟩:=m7 _ _ _ q1 hn1 _ _ _ q2 e.symm;exact⟨r1.symm,r2.symm⟩
  ·exact hP.inj _ _ _ _ _ _ q1 q2 e
 ·rw[hH2] at hX
  cases hp:Hp.get b with
  |some X'=>
   rw[hp] at hX;injection hX with hX;subst hX;rcases h23 b g h hh with hh|⟨hn,hh⟩
   ·exact ac2 _ _ _ _ hh hp
   ·exact hP.gens _ _ _ _ hh hp
  |none=>
   rw[hp] at hX;rcases h23 b g h hh with hh|⟨hn,hh⟩
   ·exact hG.gens _ _ _ _ hh hX
   ·obtain⟨_,X2,q2⟩:=hP.dom _ _ _ hh;rw[hp] at q2;cases q2
 ·have hf:ρp.frz b=some (arr,ty):=hf;obtain⟨q1,q2⟩:=hP.frz _ _ _ hf;have hnp:∀b' X,Hp.get b'=some X->¬zK X:=λb' X hX hz=>by rcases ah7 _ _ hX with⟨c,n,ty,e⟩|⟨c,g,ty,e⟩|⟨m,l,e⟩|⟨k,I,l,e⟩ <;> (subst e;exact hz)
  refine⟨q1,λb' g h hh e=>?_⟩;rcases h23 b' g h hh with hh|⟨hn,hh⟩
  ·have c8:=(hG.dom _ _ _ hh).1
   have h1:=hP.frzB b _ hf (by omega)
   rw[hf0] at h1
   obtain⟨X,y1,y2⟩:=(hG.frz _ _ _ h1).2 _ _ _ hh e
   refine⟨X, ?_,y2⟩
   rw[hH2]
   cases hp:Hp.get b' with
   |none=>exact y1
   |some X'=>obtain⟨X0,z1,z2⟩:=hex _ _ hp;rw[y1] at z1;injection z1 with z1;subst z1;exact absurd y2 z2
  ·obtain⟨X,y1,y2⟩:=q2 _ _ _ hh e;exact absurd y2 (hnp _ _ y1)
 ·have hf:ρp.frz b=some x:=hf;have h1:=hP.frzB b x hf (by omega);rw[hf0] at h1;exact hG.frzB _ _ h1 c8
 ·rw[hH2] at hX
  cases hp:Hp.get b with
  |some X'=>
   rw[hp] at hX;injection hX with hX;subst hX;rcases h23 b g h hh with hh|⟨hn,hh⟩
   ·rcases ab9 _ _ _ _ hp with⟨_,_,_,q⟩|q
    ·exact hG.objO _ _ _ _ q _ _ hh
    ·rw[q] at hh;cases hh
   ·exact⟨af0 _ (hP.objO _ _ _ _ hp _ _ hh).1,(hP.objO _ _ _ _ hp _ _ hh).2⟩
  |none=>
   rw[hp] at hX;rcases h23 b g h hh with hh|⟨hn,hh⟩
   ·exact hG.objO _ _ _ _ hX _ _ hh
   ·obtain⟨_,X2,q2⟩:=hP.dom _ _ _ hh;rw[hp] at q2;cases q2
section
variable{P:Program}{w0:World}{ρ:Rho}{w:World}{σ:St}{K:Fin}
def dR{α:Type}{j:Nat}{p:α}:∀{loc:List (Nat×α)},bE j loc=some p->(j,p)∈loc:=by
 intro loc
 induction loc with
 |nil=>intro h;cases h
 |cons z l ih=>
  intro h;rw[cZ] at h;split at h
  ·rename_i e;injection h with h;have:z=(j,p):=by rw[←e, ←h]
   rw[this];exact aan
  ·exact aaj _ (ih h)
def AT(K:Fin)(w0:World)(ρ:Rho)(w:World)(σ:St)(loc:List (Nat×Nat×Nat))(a:AV)(k:AV->Tr):Prop:=
 ∃a' a9 ρ',run (k a') a9 K=true/\SI a9/\Good w0 ρ' a9.h w/\ρ.le ρ'/\Stays loc σ.h a9.h/\∀ρ2,ρ'.le ρ2->∀v,VR ρ2 a v->VR ρ2 a' v
def xG{loc:List (Nat×Nat×Nat)}{a:AV}{k:AV->Tr}(hS:SI σ)(hG:Good w0 ρ σ.h w)(h:run (Dt loc a k) σ K=true):AT K w0 ρ w σ loc a k:=by
 have same:run (k a) σ K=true->AT K w0 ρ w σ loc a k:=λh=>⟨a,σ,ρ,h,hS,hG,.refl _,.refl _ _,λ_ _ _ h=>h⟩
 unfold Dt at h
 cases a with
 |gsl b g n es=>
  have f9:=cW hS h
  replace h:=bG hS h;obtain⟨q,b7,hq,e1,b6,h⟩:=h
  have b9:Good w0 ρ b7.h w:=by rw[e1];exact hG
  have M':b7.h.get b=some q:=by rw[e1];exact hq
  cases q with
  |grow c gen ty=>replace h:=ay h;obtain⟨k1,h⟩:=h;replace h:=ay h;obtain⟨k2,h⟩:=h;replace h:=ay h;obtain⟨k3,h⟩:=h;replace h:=aN h;obtain⟨k4,h⟩:=h;replace h:=ft b6 h;obtain⟨x0,i3,hx0,e2,i9,_,h⟩:=h;have k1:=aL k1;have k2:=aL k2;obtain⟨k3a,k3b⟩:=aD k3;have k3a:=bY k3a;subst k1;subst k2;subst k4;obtain⟨ρ',f1,f2,f3⟩:=b9.freeze M' f9 k3a;refine⟨_,i3,ρ',h,i9,by rw[e2];exact f2,f1,λb' X hf hX=>?_,f3⟩;obtain⟨x,hx1,hx2⟩:=hf;rw[e2,T.get_set_ne _ (λe=>by subst e;rw[iP hx1 hx2] at k3b;cases k3b),e1];exact hX
  |froz c gen=>replace h:=ay h;obtain⟨k1,h⟩:=h;replace h:=ay h;obtain⟨k2,h⟩:=h;replace h:=aN h;obtain⟨k4,h⟩:=h;have k1:=aL k1;have k2:=aL k2;subst k1;subst k2;subst k4;exact⟨_,b7,ρ,h,b6,b9,.refl _,λb' X _ hX=>by rw[e1];exact hX,λρ2 j0 v hv=>jv ((b9.blk _ _ M').keep (w':=w) j0 λ_ _ _=>rfl) hv⟩
  |_=>exact(ah h).elim
 |_=>exact same h
def AU{loc:List (Nat×Nat×Nat)}{blk:List BSh}{x:Sh}{a:AV}{k:AV->Tr}(hS:SI σ)(hG:Good w0 ρ σ.h w)(h:run (vq loc blk x a k) σ K=true):AT K w0 ρ w σ loc a k:=by
 have same:run (k a) σ K=true->AT K w0 ρ w σ loc a k:=λh=>⟨a,σ,ρ,h,hS,hG,.refl _,.refl _ _,λ_ _ _ h=>h⟩
 have fresh:∀(ct:Ct) (ty es:Nat),ct.len=0->a= .nils->run (.new (.grow ct 0 ty) λb=>k (.gsl b 0 0 es)) σ K=true->AT K w0 ρ w σ loc a k:=by
  intro ct ty es h0 ea h;obtain⟨n,a9,hn,f9,e,C',h⟩:=gt hS h;refine⟨_,a9,ρ,h,C',by rw[e];exact hG.none_new hn f9 h0,.refl _,λb X _ hX=>?_,λρ2 _ v hv=>?_⟩
  ·rw[e,T.get_set_ne _ (λe'=>by subst e';rw[hn] at hX;cases hX)];exact hX
  ·subst ea;cases hv;exact .gnil _ _ _
 have rowsMT:∀{m len:Nat} (tyf:Nat->Nat),∀(ty0:Nat) (as:List AV) (kk:Ct->Nat->Tr) (a9:St),run (cU (dW (cK m) len as) .fail λq=>(match q with|(gs,[])=>kk (.rows m gs) (tyf ty0)|_=>.fail)) a9 K=true->
  ∃ct ty,run (kk ct ty) a9 K=true/\(as.length=ct.len * ct.es->∀i,i<ct.len->∀(ρ:Rho) (vs:List Value),LR ρ ((as.drop (i * ct.es)).take ct.es) vs->LR ρ (ct.row i) vs):=by
  intro m len tyf ty0 as kk a9 h
  replace h:=bT h;obtain⟨q,hq,h⟩:=h
  split at h
  ·rename_i gs;obtain⟨c1,f1,f2,f3,f4⟩:=hY _ _ _ _ hq;have f1:as=c1:=by simpa using f1
   subst f1;exact⟨_,_,h,λhlen i hi ρ vs=>f4 i (by rw[←f3];exact hi) ρ vs⟩
  ·exact(ah h).elim
 have rowsBT:∀(tyf:Nat->Nat),∀(ty0:Nat) (as:List AV) (kk:Ct->Nat->Tr) (a9:St),run (cU (gk as) .fail λns=>.req (bu ns) (kk (.bytes (aG ns)) (tyf ty0))) a9 K=true->
  ∃ct ty,run (kk ct ty) a9 K=true/\(as.length=ct.len * ct.es->∀i,i<ct.len->∀(ρ:Rho) (vs:List Value),LR ρ ((as.drop (i * ct.es)).take ct.es) vs->LR ρ (ct.row i) vs):=by
  intro tyf ty0 as kk a9 h
  replace h:=bT h;obtain⟨ns,hq,h⟩:=h
  replace h:=aN h;obtain⟨hnn,h⟩:=h
  obtain⟨f1,f2⟩:=nw _ _ hq
  refine⟨_,_,h,λhlen i hi ρ vs I'=>?_⟩
  have hal:as.length=(aG ns).length:=by rw[bQ,f1]
  have hi:i<(aG ns).length:=hi
  have hia:i<as.length:=by omega
  have hd:(as.drop (i * 1)).take 1= [as[i]]:=by rw[aaF,aa2 hia];rfl
  have I':LR ρ ((as.drop (i * 1)).take 1) vs:=I'
  rw[hd] at I'
  refine I'.one λv hv=>?_
  obtain⟨n',q1,q2⟩:=f2 i as[i] (aai hia)
  obtain⟨q3,q4⟩:=ju _ _ _ hnn q1
  rw[bc hv q2,aag,q3]
  show VR ρ (.sI .u8 ((n'.toNat:Nat):Int)) _
  rw[show((n'.toNat:Nat):Int)=n' by omega]
  exact .sI _ _
 have andthen:∀(b g o len es:Nat) (cap:Option Nat),a= .slc b g o len cap es->(∃a9,run (Dt loc (.gsl b g len es) k) a9 K=true/\SI a9/\Good w0 ρ a9.h w/\Stays loc σ.h a9.h/\∀ρ2,ρ.le ρ2->∀v,VR ρ2 (.slc b g o len cap es) v->VR ρ2 (.gsl b g len es) v)->AT K w0 ρ w σ loc a k:=by intro b g o len es cap ea ⟨a9,h1,h2,h3,h4,h5⟩;obtain⟨a',i3,ρ',q1,q2,q3,q4,q5,q6⟩:=xG h2 h3 h1;subst ea;exact⟨a',i3,ρ',q1,q2,q3,q4,h4.trans q5,λρ2 j0 v hv=>q6 ρ2 j0 v (h5 ρ2 (q4.trans j0) v hv)⟩
 have fv:∀m,run (Rs loc m a k) σ K=true->AT K w0 ρ w σ loc a k:=by
  intro m z
  unfold Rs at z
  cases a with
  |slc b g o len cap es=>replace z:=ay z;obtain⟨he,z⟩:=z;exact andthen b g o len es cap rfl (ef hS hG (rowsMT λty=>ty) z)
  |_=>exact xG hS hG z
 have fb:run (frzB loc a k) σ K=true->AT K w0 ρ w σ loc a k:=by
  intro z
  unfold frzB at z
  cases a with
  |slc b g o len cap es=>replace z:=ay z;obtain⟨he,z⟩:=z;have he:=aL he;subst he;exact andthen b g o len 1 cap rfl (ef hS hG (rowsBT λty=>ty) z)
  |_=>exact xG hS hG z
 unfold vq at h
 cases x with
 |g j es t=>
  simp only at h;split at h
  ·split at h
   ·exact fresh _ _ _ rfl rfl h
   ·exact(ah h).elim
  ·rename_i b g o len cap R';split at h
   ·rename_i m ty t' _;replace h:=ay h;obtain⟨e,h⟩:=h;have e:=aL e;subst e;obtain⟨a9,h1,h2,h3,h4,h5⟩:=ef hS hG (rowsMT λ_=>ty) h;exact⟨_,a9,ρ,h1,h2,h3,.refl _,h4,h5⟩
   ·exact(ah h).elim
  ·exact same h
 |gb j t=>
  simp only at h;split at h
  ·split at h
   ·exact fresh _ _ _ rfl rfl h
   ·exact(ah h).elim
  ·rename_i b g o len cap R';split at h
   ·rename_i ty t' _;replace h:=ay h;obtain⟨e,h⟩:=h;have e:=aL e;subst e;obtain⟨a9,h1,h2,h3,h4,h5⟩:=ef hS hG (rowsBT λ_=>ty) h;exact⟨_,a9,ρ,h1,h2,h3,.refl _,h4,h5⟩
   ·exact(ah h).elim
  ·exact same h
 |p j=>
  simp only at h;split at h
  ·rename_i b g o;split at h
   ·rename_i m _ _ _
    obtain⟨q,b7,hq,e1,b6,z⟩:=bG hS h
    have b9:Good w0 ρ b7.h w:=by rw[e1];exact hG
    have st1:Stays loc σ.h b7.h:=λb' X _ hX=>by rw[e1];exact hX
    cases q with
    |cells c gen lo hi fl fh ro ty=>obtain⟨i3,z2,i9,l8,A',_⟩:=ef b6 b9 iQ z;exact⟨_,i3,ρ,z2,i9,l8,.refl _,st1.trans A',λ_ _ _ h=>h⟩
    |_=>exact⟨_,b7,ρ,z,b6,b9,.refl _,st1,λ_ _ _ h=>h⟩
   ·rename_i ty2 t2 _
    obtain⟨q,b7,hq,e1,b6,z⟩:=bG hS h
    have b9:Good w0 ρ b7.h w:=by rw[e1];exact hG
    have st1:Stays loc σ.h b7.h:=λb' X _ hX=>by rw[e1];exact hX
    cases q with
    |cells c gen lo hi fl fh ro ty=>obtain⟨i3,z2,i9,l8,A',_⟩:=ef b6 b9 kN z;exact⟨_,i3,ρ,z2,i9,l8,.refl _,st1.trans A',λ_ _ _ h=>h⟩
    |_=>exact⟨_,b7,ρ,z,b6,b9,.refl _,st1,λ_ _ _ h=>h⟩
   ·exact same h
  ·exact same h
 |v m t=>exact fv m h
 |pv m t=>exact fv m h
 |vb t=>exact fb h
 |pvb t=>exact fb h
 |_=>exact same h
def To2(ρ:Rho):List AV->List AV->Prop:=cH λa a'=>∀ρ2,ρ.le ρ2->∀v,VR ρ2 a v->VR ρ2 a' v
def To2.lr{ρ ρ2:Rho}(hle:ρ.le ρ2):∀{as s9:List AV} {vs:List Value},To2 ρ as s9->LR ρ2 as vs->LR ρ2 s9 vs
 | [],[],vs,_,h=>h
 |a::as,a'::s9,vs,⟨h1,h2⟩,h=>by obtain⟨v,K',rfl,hv,h'⟩:=h.cons_inv;exact LR.cons (h1 ρ2 hle v hv) (To2.lr hle h2 h')
 | [],_::_,_,h,_=>h.elim
 |_::_,[],_,h,_=>h.elim
def To2.get{ρ:Rho}:∀{as s9:List AV} {i:Nat} {a':AV},To2 ρ as s9->s9[i]? =some a'->∃a,as[i]? =some a/\∀ρ2,ρ.le ρ2->∀v,VR ρ2 a v->VR ρ2 a' v
 | [],[],i,a',_,h=>by simp at h
 |a::as,b::s9,0,a',⟨h1,h2⟩,h=>by simp at h;subst h;exact⟨a,rfl,h1⟩
 |a::as,b::s9,i+1,a',⟨h1,h2⟩,h=>by simp at h;obtain⟨x,q1,q2⟩:=To2.get h2 h;exact⟨x,by simpa using q1,q2⟩
 | [],_::_,_,_,h,_=>h.elim
 |_::_,[],_,_,h,_=>h.elim
def vA{loc:List (Nat×Nat×Nat)}{blk:List BSh}:∀{l:List Sh} {as:List AV} {k:List AV->Tr} {σ:St} {ρ:Rho},SI σ->Good w0 ρ σ.h w->run (xE loc blk l as k) σ K=true->
 ∃s9 a9 ρ',run (k s9) a9 K=true/\SI a9/\Good w0 ρ' a9.h w/\ρ.le ρ'/\Stays loc σ.h a9.h/\(as.length=l.length->To2 ρ' as s9):=by
 intro l
 induction l with
 |nil=>intro as k σ ρ hS hG h;exact⟨as,σ,ρ,h,hS,hG,.refl _,.refl _ _,λe=>by cases as with|nil=>exact trivial|cons _ _=>simp at e⟩
 |cons x l ih=>
  intro as k σ ρ hS hG h
  cases as with
  |nil=>exact⟨[],σ,ρ,h,hS,hG,.refl _,.refl _ _,λe=>by simp at e⟩
  |cons a as=>
   have h:run (vq loc blk x a λa=>xE loc blk l as λas=>k (a::as)) σ K=true:=h
   obtain⟨a',b7,ρ1,h1,h2,h3,h4,h5,h6⟩:=AU hS hG h
   obtain⟨s9,i3,ρ2,q1,q2,q3,q4,q5,q6⟩:=ih h2 h3 h1
   exact⟨a'::s9,i3,ρ2,q1,q2,q3,h4.trans q4,h5.trans q5,λe=>⟨λρ3 hle=>h6 ρ3 (q4.trans hle),q6 (by simpa using e)⟩⟩
def iV{loc:List (Nat×Nat×Nat)}{blk:List BSh}:∀{l:List Sa} {as:List AV} {k:List AV->Tr} {σ:St} {vs:List Value} {ρ:Rho},SI σ->Good w0 ρ σ.h w->LR ρ as vs->run (jD loc blk l as k) σ K=true->
 ∃s9 a9 ρ',run (k s9) a9 K=true/\SI a9/\Good w0 ρ' a9.h w/\ρ.le ρ'/\s9.length=as.length/\(l.length=as.length->LR ρ' s9 vs):=by
 intro l
 induction l with
 |nil=>intro as k σ vs ρ hS hG hl h;exact⟨as,σ,ρ,h,hS,hG,.refl _,rfl,λ_=>hl⟩
 |cons x l ih=>
  intro as k σ vs ρ hS hG hl h
  cases as with
  |nil=>exact⟨[],σ,ρ,h,hS,hG,.refl _,rfl,λ_=>hl⟩
  |cons a as=>
   obtain⟨v,K',rfl,hv,E'⟩:=hl.cons_inv
   have h:run (L5 loc blk x a λa=>jD loc blk l as λas=>k (a::as)) σ K=true:=h
   have:∃a' a9 ρ',run (jD loc blk l as λas=>k (a'::as)) a9 K=true/\SI a9/\Good w0 ρ' a9.h w/\ρ.le ρ'/\∀ρ2,ρ'.le ρ2->VR ρ2 a' v:=by
    cases x with
    |c x=>have h:run (vq loc blk x a λa=>jD loc blk l as λas=>k (a::as)) σ K=true:=h;obtain⟨a',b7,ρ1,h1,h2,h3,h4,_,h6⟩:=AU hS hG h;exact⟨a',b7,ρ1,h1,h2,h3,h4,λρ2 hle=>h6 ρ2 hle v ((hv.mono h4).mono hle)⟩
    |ag l'=>
     unfold L5 at h;simp only at h;split at h
     ·rename_i as1 _
      obtain⟨hlen,h1⟩:=ay h
      have hlen:=aL hlen
      obtain⟨ar4,b7,ρ1,q1,q2,q3,q4,_,q6⟩:=vA hS hG h1
      refine⟨.agg ar4,b7,ρ1,q1,q2,q3,q4,λρ2 hle=>?_⟩
      cases hv with
      |agg _ cs e1 e2=>have hl2:LR ρ2 as1 cs.toList:=(LR.of_arr e1 e2).mono (q4.trans hle);obtain⟨r1,r2⟩:=(To2.lr hle (q6 hlen) hl2).arr;exact .agg _ cs r1 r2
     ·exact⟨_,σ,ρ,h,hS,hG,.refl _,λρ2 hle=>hv.mono hle⟩
    |cp l'=>exact⟨_,σ,ρ,h,hS,hG,.refl _,λρ2 hle=>hv.mono hle⟩
   obtain⟨a',b7,ρ1,h1,h2,h3,h4,h5⟩:=this
   obtain⟨s9,i3,ρ2,q1,q2,q3,q6,q5,q4⟩:=ih h2 h3 (E'.mono h4) h1
   exact⟨a'::s9,i3,ρ2,q1,q2,q3,h4.trans q6,by simp [q5],λe=>LR.cons (h5 ρ2 q6) (q4 (by simpa using e))⟩
def mI{F:T ABlk}{blk:List BSh}:∀{l:List Sa} {as:List AV} {s s':PS},iB F blk l as s=some s'->l.length=as.length:=by
 intro l
 induction l with
 |nil=>intro as s s' h;cases as with|nil=>rfl|cons _ _=>cases h
 |cons x l ih=>
  intro as s s' h
  cases as with
  |nil=>cases h
  |cons a as=>obtain⟨s1,_,h2⟩:=aB (show bC (su F blk x a s) (λs=>iB F blk l as s)=some s' from h);simp [ih h2]
def I8{F:T ABlk}{blk:List BSh}:∀{l:List Sh} {as:List AV} {s s':PS},iT F blk l as s=some s'->l.length=as.length:=by
 intro l
 induction l with
 |nil=>intro as s s' h;cases as with|nil=>rfl|cons _ _=>cases h
 |cons x l ih=>
  intro as s s' h
  cases as with
  |nil=>cases h
  |cons a as=>obtain⟨s1,_,h2⟩:=aB (show bC (nK F blk x a s) (λs=>iT F blk l as s)=some s' from h);simp [ih h2]
def kU(s:PS):mW s .leaf=λ_=>none:=by
 funext b;unfold mW;split
 ·simp [T.get]
 ·rfl
def xH(ρ:Rho)(blk:List BSh)(H:T ABlk)(s':PS)(l:List BSh)(j:Nat):Prop:=
 ∀i x,l[i]? =some x->∃b g,bE (j+i) s'.loc=some (b,g)/\∃q,H.get b=some q/\∀ρ2,ρ.le ρ2->∀sF,s'.Le sF->sF.pr->sw blk sF->BT ρ2 (λ_=>none) blk sF.L (aM sF.tm) x q g
def AW{blk:List BSh}{k:PS->Tr}:∀{l:List BSh} {j:Nat} {s:PS} {σ:St} {ρ:Rho},SI σ->Good w0 ρ σ.h w->run (vu blk l j s k) σ K=true->
 ∃s' a9 ρ',run (k s') a9 K=true/\SI a9/\Good w0 ρ' a9.h w/\ρ.le ρ'/\s.Le s'/\Stays s.loc σ.h a9.h/\xH ρ' blk a9.h s' l j:=by
 intro l
 induction l with
 |nil=>intro j s σ ρ hS hG h;exact⟨s,σ,ρ,h,hS,hG,.refl _,.refl _,.refl _ _,λi x hx=>by simp at hx⟩
 |cons x l ih=>
  intro j s σ ρ hS hG h
  have h:run (cU (bE j s.loc) .fail λbg=>.rd bg.1 λq=>ZK blk x q bg.2 s λs=>vu blk l (Nat.succ j) s k) σ K=true:=h
  obtain⟨bg,hbg,h⟩:=bT h
  obtain⟨b,g⟩:=bg
  obtain⟨q,b7,hq,e1,b6,h⟩:=bG hS h
  have b9:Good w0 ρ b7.h w:=by rw[e1];exact hG
  have hqs:σ.h.get b=some q:=hq
  have fin:∀(s1:PS) (i3:St) (ρ1:Rho),s.Le s1->SI i3->Good w0 ρ1 i3.h w->ρ.le ρ1->Stays s.loc b7.h i3.h->(∀ρ2,ρ1.le ρ2->∀sF,s1.Le sF->sF.pr->sw blk sF->BT ρ2 (λ_=>none) blk sF.L (aM sF.tm) x q g)->run (vu blk l (Nat.succ j) s1 k) i3 K=true->
   ∃s' a9 ρ',run (k s') a9 K=true/\SI a9/\Good w0 ρ' a9.h w/\ρ.le ρ'/\s.Le s'/\Stays s.loc σ.h a9.h/\xH ρ' blk a9.h s' (x::l) j:=by
   intro s1 i3 ρ1 hle i9 l8 hr A' V' h
   obtain⟨s',a9,ρ',q1,q2,q3,q0,q4,q5,q6⟩:=ih i9 l8 h
   have ao_:∀b X,(∃x,x∈s.loc/\x.2.1=b)->b7.h.get b=some X->a9.h.get b=some X:=λb X ⟨x,hx1,hx2⟩ hX=>
    q5 b X ⟨x,hle.mem _ hx1,hx2⟩ (A' b X ⟨x,hx1,hx2⟩ hX)
   refine⟨s',a9,ρ',q1,q2,q3,hr.trans q0,hle.trans q4,λb' X hf hX=>?_,λi y hy=>?_⟩
   ·exact ao_ b' X hf (by rw[e1];exact hX)
   ·cases i with
    |zero=>simp at hy;subst hy;exact⟨b,g,(hle.trans q4).loc _ _ hbg,q,ao_ b q ⟨_,dR hbg,rfl⟩ (by rw[e1];exact hqs),λρ2 j0 sF hF hp hl=>V' ρ2 (q0.trans j0) sF (q4.trans hF) hp hl⟩
    |succ i=>obtain⟨b',g',r1,r2⟩:=q6 i y (by simpa using hy);exact⟨b',g',by rw[show j+(i+1)=Nat.succ j+i by omega];exact r1,r2⟩
  have hd:(∀ty l',x≠ .cells ty l')->run (cU (gw x q g s) .fail λs=>vu blk l (Nat.succ j) s k) b7 K=true->
   ∃s' a9 ρ',run (k s') a9 K=true/\SI a9/\Good w0 ρ' a9.h w/\ρ.le ρ'/\s.Le s'/\Stays s.loc σ.h a9.h/\xH ρ' blk a9.h s' (x::l) j:=λ_ h=>by
   obtain⟨s1,hs1,h⟩:=bT h
   have key:∀ρ2:Rho,s.Le s1/\∀sF,s1.Le sF->sF.pr->BT ρ2 (mW sF .leaf) blk sF.L (aM sF.tm) x q g:=λρ2=>eT (F:=.leaf) (blk:=blk) hs1
   exact fin s1 b7 ρ (key ρ).1 b6 b9 (.refl _) (.refl _ _) (λρ2 _ sF hF hp _=>by have:=(key ρ2).2 sF hF hp;rwa [kU] at this) h
  cases x with
  |cells ty l'=>
   obtain⟨as,has,h⟩:=bT h
   obtain⟨s9,i3,ρ1,h1,h2,h3,h0,h4,h5⟩:=vA b6 b9 h
   obtain⟨s1,hs1,h⟩:=bT h1
   obtain⟨p1,p2⟩:=nN (blk:=blk) hs1
   obtain⟨eg,c,eq,hl⟩:=sy has
   obtain⟨r1,r2⟩:=rT hl
   refine fin s1 i3 ρ1 p1 h2 h3 h0 h4 (λρ2 j0 sF hF hp hln=>⟨eg,c,s9,eq,(I8 hs1).symm,λj' a' ha'=>?_,by have:=p2 sF hF hp hln;rwa [kU] at this⟩) h
   obtain⟨a,ha,hto⟩:=(h5 r1).get ha'
   obtain⟨tag,t1,t2⟩:=r2 _ a ha
   have:tag=0:=by omega
   subst this
   exact⟨a,by rw[←t1];congr 1;omega,hto ρ2 j0⟩
  |grow m ty t=>exact hd (λ_ _ e=>by cases e) h
  |growb ty t=>exact hd (λ_ _ e=>by cases e) h
  |sm m t=>exact hd (λ_ _ e=>by cases e) h
  |arr m ty t=>exact hd (λ_ _ e=>by cases e) h
  |arb ty t=>exact hd (λ_ _ e=>by cases e) h
  |obj k C t=>exact hd (λ_ _ e=>by cases e) h
def Mb{γ:lS}{y:Sy}{k:Tr}:∀{l:List BSh} {j:Nat} {σ:St},SI σ->run (Ws γ y l j k) σ K=true->
 ∃a9,run k a9 K=true/\SI a9/\a9.h=eS γ y l j σ.h/\∀i,i<l.length->(γ (j+i)).1+1<2 ^ 64:=by
 intro l
 induction l with
 |nil=>intro j σ hS h;exact⟨σ,h,hS,rfl,λi hi=>by simp at hi⟩
 |cons x l ih=>
  intro j σ hS h
  obtain⟨x0,b7,_,e1,b6,f9,h1⟩:=ft hS (show run (.wr (γ j).1 (mF γ y j x) (Ws γ y l (Nat.succ j) k)) σ K=true from h)
  obtain⟨i3,q1,q2,q3,q4⟩:=ih b6 h1
  refine⟨i3,q1,q2,by rw[q3,e1];rfl,λi hi=>?_⟩
  cases i with
  |zero=>exact f9
  |succ i=>have:=q4 i (by simpa using hi);rwa [show Nat.succ j+i=j+(i+1) by omega] at this
def Dw{γ:lS}{y:Sy}:∀(l:List BSh) (j:Nat) (H:T ABlk) (b:Nat),(∀i,i<l.length->b≠(γ (j+i)).1)->(eS γ y l j H).get b=H.get b:=by
 intro l
 induction l with
 |nil=>intro j H b _;rfl
 |cons x l ih=>intro j H b m8;show(eS γ y l (j+1) (H.set (γ j).1 (mF γ y j x))).get b=_;rw[ih (j+1) _ b (λi hi=>by have:=m8 (i+1) (by simpa using hi);rwa [show j+(i+1)=j+1+i by omega] at this),T.get_set_ne _ (show b≠(γ j).1 from m8 0 (by simp))]
def vB{n:Nat}:∀{l:List (Nat×Nat×Nat)},mg n l=true->∀x∈l,x.1<n:=by
 intro l
 induction l with
 |nil=>intro _ x hx;cases hx
 |cons z l ih=>
  intro h x hx;obtain⟨h1,h2⟩:=aD (show ac (Nat.ble (Nat.succ z.1) n) (ac (kG z.2.1 l) (mg n l) false) false=true from h);obtain⟨h3,h4⟩:=aD h2;rcases List.mem_cons.1 hx with e|hx
  ·subst e;exact aaw h1
  ·exact ih h4 x hx
def vC{n:Nat}:∀{l:List (Nat×Nat×Nat)},mg n l=true->∀x∈l,∀z∈l,x.2.1=z.2.1->x=z:=by
 intro l
 induction l with
 |nil=>intro _ x hx;cases hx
 |cons a l ih=>
  intro h x hx z hz e;obtain⟨h1,h2⟩:=aD (show ac (Nat.ble (Nat.succ a.1) n) (ac (kG a.2.1 l) (mg n l) false) false=true from h);obtain⟨h3,h4⟩:=aD h2;replace hx:=List.mem_cons.1 hx;replace hz:=List.mem_cons.1 hz;rcases hx with e1|hx <;> rcases hz with e2|hz
  ·rw[e1,e2]
  ·subst e1;rw[iP hz e.symm] at h3;cases h3
  ·subst e2;rw[iP hx e] at h3;cases h3
  ·exact ih h4 x hx z hz e
def Rv{bl:List BSh}{j:Nat}(h:Rq bl j=true):∃x,bl[j]? =some x/\iU x=false:=by
 unfold Rq at h;split at h
 ·rename_i hx;exact⟨_,hx,rfl⟩
 ·rename_i hx;exact⟨_,hx,rfl⟩
 ·cases h
def AX{bl:List BSh}{n:Nat}:∀{l:List (Nat×Nat×Nat)},nM bl n l=true->∀x∈l,(x.1<n->x.2.1=base+x.1∨(base+64<=x.2.1/\∃y,bl[x.1]? =some y/\iU y=false))/\(n<=x.1->base+64<=x.2.1):=by
 intro l
 induction l with
 |nil=>intro _ x hx;cases hx
 |cons a l ih=>
  intro h x hx;obtain⟨h1,h2⟩:=aD (show ac (ac (Nat.ble (Nat.succ a.1) n) (ac (Nat.beq a.2.1 (base+a.1)) true (ac (Rq bl a.1) (Nat.ble (base+64) a.2.1) false)) (Nat.ble (base+64) a.2.1)) (nM bl n l) false=true from h);rcases List.mem_cons.1 hx with e|hx
  ·subst e;rw[ar] at h1;split at h1
   ·rename_i hb;have hb:=aaw hb;refine⟨λ_=>?_,λh'=>by omega⟩;rw[ar] at h1;split at h1
    ·rename_i hq;exact .inl (aac hq)
    ·obtain⟨q1,q2⟩:=aD h1;exact .inr ⟨aaw q2,Rv q1⟩
   ·rename_i hb;refine⟨λh'=>absurd (Nat.ble_eq.mpr h') hb,λ_=>aaw h1⟩
  ·exact ih h2 x hx
def I9{l:List (Nat×Nat×Nat)}:∀{fz:List Nat},sv fz l=true->∀b∈fz,∀x∈l,x.2.1≠b:=by
 intro fz
 induction fz with
 |nil=>intro _ b hb;cases hb
 |cons c fz ih=>
  intro h b hb x hx e;obtain⟨h1,h2⟩:=aD (show ac (kG c l) (sv fz l) false=true from h);rcases List.mem_cons.1 hb with e'|hb
  ·subst e';rw[iP hx e] at h1;cases h1
  ·exact ih h2 b hb x hx e
def AY:∀{l m:List BSh},qb l m=true->l.length<=m.length/\∀(j:Nat) (x y:BSh),l[j]? =some x->m[j]? =some y->AN x y=true:=by
 intro l
 induction l with
 |nil=>intro m h;exact⟨aap _,λj x y hx=>by simp at hx⟩
 |cons a l ih=>
  intro m h
  cases m with
  |nil=>cases h
  |cons b m=>
   obtain⟨h1,h2⟩:=aD (show ac (AN a b) (qb l m) false=true from h)
   obtain⟨q1,q2⟩:=ih h2
   refine⟨by simp;omega,λj x y hx hy=>?_⟩
   cases j with
   |zero=>simp at hx hy;subst hx;subst hy;exact h1
   |succ j=>exact q2 j x y (by simpa using hx) (by simpa using hy)
def gz{x y:BSh}(h:AN x y=true):iU x=iU y:=by cases x <;> cases y <;> first|rfl|(cases h;done)
def lI{x y:BSh}(h:AN x y=true):(∃k C t,x= .obj k C t)↔∃k C t,y= .obj k C t:=by cases x <;> cases y <;> first|(cases h;done)|exact⟨λ_=>⟨_,_,_,rfl⟩,λ_=>⟨_,_,_,rfl⟩⟩|exact⟨λ⟨_,_,_,e⟩=>(by cases e),λ⟨_,_,_,e⟩=>(by cases e)⟩
def Fy{s:PS}{j b g:Nat}(hn:bE j s.loc=none):s.Le (s.name (j,b,g)):=by
 cases s with
 |mk tm loc ln pr fz=>
 have hn:bE j loc=none:=hn
 refine⟨λ_ _ h=>h,λj' p h'=>?_,λ_ h=>h,λh=>h,λ_ h=>aaj _ h,λ_ h=>h⟩
 show bE j' ((j,b,g)::loc)=some p
 rw[cZ]
 split
 ·rename_i e;simp only at e;subst e;have h':bE j loc=some p:=h';rw[hn] at h';cases h'
 ·exact h'
def qS{H:T ABlk}:∀{l:List BSh} {j:Nat} {s s':PS},I4 H l j s=some s'->s.Le s'/\s'.ln=s.ln/\s'.tm=s.tm:=by
 intro l
 induction l with
 |nil=>intro j s s' h;injection h with h;subst h;exact⟨.refl _,rfl,rfl⟩
 |cons x l ih=>
  intro j s s' h;have h:(match bE j s.loc with
   |some _=>I4 H l (Nat.succ j) s
   |none=>ac (iU x) (T.getK H (base+j) none λq=>I4 H l (Nat.succ j) (s.name (j,base+j,up q))) (I4 H l (Nat.succ j) s))=some s':=h
  split at h
  ·exact ih h
  ·rename_i hn;rw[ar] at h;split at h
   ·obtain⟨q,hq,h⟩:=nA h;obtain⟨h1,h2,h3⟩:=ih h;refine⟨(Fy hn).trans h1, ?_, ?_⟩
    ·rw[h2];cases s;rfl
    ·rw[h3];cases s;rfl
   ·exact ih h
def qU{ρ:Rho}{H:T ABlk}{blk:List BSh}:∀{l:List BSh} {j:Nat} {s s':PS},I3 H blk l j s=some s'->
 s.Le s'/\∀sF,s'.Le sF->sF.pr->sw blk sF->∀i x,l[i]? =some x->∃b g,sF.L (j+i)=some (b,g)/\∃q,H.get b=some q/\BT ρ (mW sF H) blk sF.L (aM sF.tm) x q g:=by
 intro l
 induction l with
 |nil=>intro j s s' h;injection h with h;subst h;exact⟨.refl _,λsF _ _ _ i x hx=>by simp at hx⟩
 |cons x l ih=>
  intro j s s' h
  have key:∀(b g:Nat) (s0:PS) (q:ABlk),s.Le s0->bE j s0.loc=some (b,g)->H.get b=some q->(bC (pn H blk x q g s0) λs=>I3 H blk l (Nat.succ j) s)=some s'->s.Le s'/\∀sF,s'.Le sF->sF.pr->sw blk sF->∀i y,(x::l)[i]? =some y->∃b g,sF.L (j+i)=some (b,g)/\∃q,H.get b=some q/\BT ρ (mW sF H) blk sF.L (aM sF.tm) y q g:=λb g s0 q hle hbg hq h=>by
   obtain⟨s1,h1,h⟩:=aB h
   obtain⟨p1,p2⟩:=I5 (ρ:=ρ) (blk:=blk) h1
   obtain⟨r1,r2⟩:=ih h
   refine⟨hle.trans (p1.trans r1),λsF hF hp hl i y hy=>?_⟩
   cases i with
   |zero=>simp at hy;subst hy;exact⟨b,g,hF.loc _ _ (r1.loc _ _ (p1.loc _ _ hbg)),q,hq,p2 sF (r1.trans hF) hp hl⟩
   |succ i=>obtain⟨b,g,q1,q2⟩:=r2 sF hF hp hl i y (by simpa using hy);exact⟨b,g,by rw[show j+(i+1)=Nat.succ j+i by omega];exact q1,q2⟩
  have h:(match bE j s.loc with
   |some bg=>T.getK H bg.1 none λq=>bC (pn H blk x q bg.2 s) λs=>I3 H blk l (Nat.succ j) s
   |none=>T.getK H (base+j) none λq=>bC (pn H blk x q (up q) (s.name (j,base+j,up q))) λs=>I3 H blk l (Nat.succ j) s)=some s':=h
  split at h
  ·rename_i bg hbg;obtain⟨q,hq,h⟩:=nA h;exact key bg.1 bg.2 s q (.refl _) hbg hq h
  ·rename_i hn
   obtain⟨q,hq,h⟩:=nA h
   refine key (base+j) (up q) (s.name (j,base+j,up q)) q (Fy hn) ?_ hq h
   cases s with
   |mk tm loc ln pr fz=>
   show bE j ((j,base+j,up q)::loc)=_
   rw[cZ,if_pos rfl]
structure Fin2(bl:List BSh)(n:Nat)(s:PS)(len:Nat):Prop where
 t3:∀j b g,s.L j=some (b,g)->j<len/\(j<n->b=base+j∨(base+64<=b/\∃y,bl[j]? =some y/\iU y=false))/\(n<=j->base+64<=b)
 t4:∀j j' b g g',s.L j=some (b,g)->s.L j'=some (b,g')->j=j'
 t5:∀b,b∈s.fz->∀j g,s.L j≠some (b,g)
def Fin2.at0{n len:Nat}{s:PS}(h:Fin2 [] n s len){j b g:Nat}(hL:s.L j=some (b,g))(hj:j<n):b=base+j:=by
 rcases(h.t3 j b g hL).2.1 hj with h'|⟨_,y,hy,_⟩
 ·exact h'
 ·simp at hy
def Fz{bl:List BSh}{n len:Nat}{s:PS}(h5:nM bl n s.loc=true)(h6:mg len s.loc=true)(h7:sv s.fz s.loc=true):Fin2 bl n s len where
 t3:=λj b g hL=>by have hm:=dR hL;obtain⟨q1,q2⟩:=AX h5 _ hm;exact⟨vB h6 _ hm,q1,q2⟩
 t4:=λj j' b g g' h1 h2=>congrArg Prod.fst (vC h6 _ (dR h1) _ (dR h2) rfl)
 t5:=λb hb j g hL=>I9 h7 b hb _ (dR hL) rfl
def sE{n:Nat}{ρ:Rho}{H:T ABlk}{r:Sr}{l:List BSh}{a:AV}{s:PS}(h:fg n H r l a=some s)(hp:s.pr):
 TvR (mW s H) l s.L (aM s.tm) r a/\(∀j x,l[j]? =some x->∃b g,s.L j=some (b,g)/\∃q,H.get b=some q/\BT ρ (mW s H) l s.L (aM s.tm) x q g)/\Fin2 l n s l.length:=by
 obtain⟨s1,h1,h⟩:=aB h
 obtain⟨s2,h2,h⟩:=aB h
 obtain⟨s3,h3,h⟩:=aB h
 obtain⟨s4,h4,h⟩:=aB h
 obtain⟨h5,h⟩:=bf h
 obtain⟨h6,h⟩:=bf h
 injection h with h
 subst h
 obtain⟨h5,h7⟩:=aD h5
 have hln:=lH h4 hp
 obtain⟨f1,_,_,_,_⟩:=eu h4
 obtain⟨p1,p2⟩:=L7 (blk:=l) h1
 obtain⟨st,_,_⟩:=qS h2
 obtain⟨b1,b2⟩:=qU (ρ:=ρ) h3
 refine⟨p2 s4 (st.trans (b1.trans f1)) hp hln,λj x hx=>?_,Fz h5 h6 h7⟩
 obtain⟨b,g,q1,q2⟩:=b2 s4 f1 hp hln j x hx
 exact⟨b,g,by rw[aam] at q1;exact q1,q2⟩
def iW{s:PS}{H:T ABlk}{b:Nat}{x:ABlk}(h:mW s H b=some x):H.get b=some x/\b∈s.fz:=by
 unfold mW at h;split at h
 ·rename_i hb;exact⟨h,hb⟩
 ·cases h
def Wv(blk:List BSh)(j:Nat):Prop:=∃x,blk[j]? =some x/\iU x=true
def FA(blk:List BSh)(j:Nat):Prop:=∃k C t,blk[j]? =some (.obj k C t)
structure FinRel(blk:List BSh)(ρ:Rho)(w:World)(ρ':Rho)(wx:World):Prop where
 kept:Kept ρ.own w.heap.size w wx
 frz:∀b x,ρ.frz b=some x->ρ'.frz b=some x
 frzB:∀b x,ρ'.frz0 b=some x->b<w.heap.size->ρ.frz b=some x
 ownx:∀x,ρ'.own x->∃j g h,h.blk=x/\ρ'.at_ (base+j) g=some h/\j<64/\(w.heap.size<=x∨(ρ.own x/\∃g',ρ.at_ (base+j) g'=some h))
 stb:∀j h,Wv blk j->ρ.at_ (base+j) 0=some h->ρ'.at_ (base+j) 0=some h
 objs:∀j g h,FA blk j->ρ.at_ (base+j) g=some h->ρ'.at_ (base+j) g=some h
def OwnOk(ρ:Rho):Prop:=∀x,ρ.own x->∃j g h,h.blk=x/\ρ.at_ (base+j) g=some h/\j<64
def OwnOk.B{ρ:Rho}(h:OwnOk ρ):∀x,ρ.own x->∃b g h,b<base+64/\ρ.at_ b g=some h/\h.blk=x:=λx hx=>by obtain⟨j,g,h,q1,q2,q3⟩:=h x hx;exact⟨base+j,g,h,by omega,q2,q1⟩
def FinRel.of_le{blk:List BSh}{ρ ρ':Rho}{w:World}(hle:ρ.le ρ')(ho:OwnOk ρ)(hf:ρ.frz0=ρ.frz):FinRel blk ρ w ρ' w where
 kept:=Kept.refl _ _ _
 frz:=hle.frz
 frzB:=λb x h _=>by rw[hle.frz0,hf] at h;exact h
 ownx:=λx hx=>by rw[hle.own] at hx;obtain⟨j,g,h,q1,q2,q3⟩:=ho x hx;exact⟨j,g,h,q1,hle.at_ _ _ _ q2,q3,.inr ⟨hx,g,q2⟩⟩
 stb:=λj h _ hh=>hle.at_ _ _ _ hh
 objs:=λj g h _ hh=>hle.at_ _ _ _ hh
def FB:base+64+1<2 ^ 64:=by decide
def AZ(w0:World)(ρ:Rho)(H:T ABlk)(L:Nat->Option (Nat×Nat)):Nat->Prop:=λx=>∃j h,sC w0.heap.size ρ H L j h/\h.blk=x/\Own ρ w0.heap.size x
def Mc{B:Nat}(ρ:Rho)(H:T ABlk)(w:World)(L:Nat->Option (Nat×Nat))(b:Nat):kS B ρ H w w L b=ρ.frz b:=by
 unfold kS;split
 ·rename_i x hx;exact hx.symm
 ·rename_i hx;rw[hx];split
  ·rename_i hc;rw[aaT hc.1]
  ·rfl
structure Lent(w0:World)(ρ:Rho)(H:T ABlk)(w:World)(L:Nat->Option (Nat×Nat))(blk:List BSh)(z:Sy):Prop where
 good:Good w0 ρ H w
 hb:∀j x,blk[j]? =some x->∃b g,L j=some (b,g)/\∃q,H.get b=some q/\BT ρ (λ_=>none) blk L z x q g
 dom:∀j p,L j=some p->j<blk.length
 inj:∀j j' b g g',L j=some (b,g)->L j'=some (b,g')->j=j'
 n64:blk.length<=64
noncomputable def A0(w0:World)(ρ:Rho)(H:T ABlk)(w:World)(L:Nat->Option (Nat×Nat))(blk:List BSh)(vl:Nat->Value):Rho:=lT w0.heap.size ρ H w w L bH blk.length (AZ w0 ρ H L) ρ.frz vl
def Lent.mv{w0 w:World}{ρ:Rho}{H:T ABlk}{L:Nat->Option (Nat×Nat)}{blk:List BSh}{z:Sy}(hL:Lent w0 ρ H w L blk z):MvHyp w0 ρ H (λ_=>none) w w w L bH blk z (AZ w0 ρ H L) ρ.frz:=
 {good:=hL.good,hb:=hL.hb,dom:=hL.dom,linj:=hL.inj,ginj:=λa b _ _ e=>by have e:base+a=base+b:=e;omega,g64:=λj hj=>by have:=FB;have:=hL.n64;show base+j+1<_;omega,
  g0:=λ_ _ _ _=>rfl,kept:=Kept.refl _ _ _,owns:=λj h h1 h2=>.inr ⟨j,h,h1,rfl,h2⟩,frF:=λb x _ hF=>(by cases hF),frz:=λb x h _=>by rw[Mc] at h;exact h}
def A1{w0 w wf wb:World}{ρ:Rho}{H:T ABlk}{F:Nat->Option ABlk}{L:Nat->Option (Nat×Nat)}{γ:lS}{blk:List BSh}{y:Sy}{own:Nat->Prop}{frz0:Nat->Option (Array Value×TypeId)}(hm:MvHyp w0 ρ H F w wf wb L γ blk y own frz0){j:Nat}{h:Home}(hh:sC w0.heap.size ρ H L j h)(i5:Own ρ w0.heap.size h.blk)(hj:j<blk.length):∃g,iI w0.heap.size ρ H L γ blk.length (γ j).1 g=some h:=by
 rcases hh with hh|⟨b,g,h1,h2,⟨g',h3⟩,_⟩
 ·by_cases ho:zA H L j
  ·obtain⟨b,g,e1,e2⟩:=kT hh;exact⟨g,jE hm hj ho e1 e2 i5⟩
  ·exact⟨_,(ez hm hj ho).trans hh⟩
 ·exact⟨g',jE hm hj h2 h1 h3 i5⟩
def Lent.ownOk{vl:Nat->Value}{w0 w:World}{ρ:Rho}{H:T ABlk}{L:Nat->Option (Nat×Nat)}{blk:List BSh}{z:Sy}(hL:Lent w0 ρ H w L blk z):OwnOk (A0 w0 ρ H w L blk vl):=λx hx=>by obtain⟨j,h,q1,q2,q3⟩:=hx;obtain⟨b,g,_,e,_⟩:=c_ q1;have hj:=hL.dom _ _ e;obtain⟨g',hg'⟩:=A1 hL.mv q1 (by rw[q2];exact q3) hj;exact⟨j,g',h,q2,hg',aa5 hj hL.n64⟩
def Lent.to{vl:Nat->Value}{w0 w:World}{ρ:Rho}{H:T ABlk}{L:Nat->Option (Nat×Nat)}{blk:List BSh}{z:Sy}(hL:Lent w0 ρ H w L blk z):Good w (A0 w0 ρ H w L blk vl) (eS bH z blk 0 .leaf) w:=
 ⟨hL.mv.to0,hL.ownOk.B⟩
def TabIn(ρ:Rho)(o:Option (Nat×Nat×List Nat)):Prop:=match o with|none=>True|some (g,ty,l)=>g<1048576/\ρ.frz g=some ((l.map λn=>Value.int .u8 (Int.ofNat n)).toArray,ty)
def TabIn.mono{ρ ρ':Rho}{o:Option (Nat×Nat×List Nat)}(hf:∀b x,ρ.frz b=some x->ρ'.frz b=some x)(h:TabIn ρ o):TabIn ρ' o:=by
 match o,h with
 |none,_=>trivial
 |some (g,ty,l),h=>exact⟨h.1,hf _ _ h.2⟩
def Md{z:Sy}{blk:List BSh}{g:Nat}(hg:g<1048576):(eS bH z blk 0 .leaf).get g=none:=by
 cases e:(eS bH z blk 0 .leaf).get g with
 |none=>rfl
 |some X=>
  rcases sz blk 0 .leaf g X e with⟨i,x,_,eb,_⟩|⟨h,_⟩
  ·have eb:g=1048576+(0+i):=eb;omega
  ·simp [T.get] at h
def Me:∀{a b:List Nat},ES a b=true->a=b
 | [],[],_=>rfl
 | [],_::_,h=>by cases h
 |_::_,[],h=>by cases h
 |x::a,y::b,h=>by obtain⟨h1,h2⟩:=aD (show ac (Nat.beq x y) (ES a b) false=true from h);rw[aac h1,Me h2]
def Good.addTab{w w0:World}{ρ:Rho}{z:Sy}{blk:List BSh}{o:Option (Nat×Nat×List Nat)}(hG:Good w0 ρ (eS bH z blk 0 .leaf) w)(ht:TabIn ρ o):Good w0 ρ (Go.Sym.addTab o (eS bH z blk 0 .leaf)) w:=by
 match o,ht with
 |none,_=>exact hG
 |some (g,ty,l),ht=>
  obtain⟨hg,hf⟩:=ht;have hn:=Md (z:=z) (blk:=blk) hg;have hs:((eS bH z blk 0 .leaf).set g (.tab ty l)).get g=some (.tab ty l):=T.get_set_same _ _ _ (by omega);have ho:∀b,b≠g->((eS bH z blk 0 .leaf).set g (.tab ty l)).get b=(eS bH z blk 0 .leaf).get b:=λb hb=>T.get_set_ne _ hb _;show Good w0 ρ ((eS bH z blk 0 .leaf).set g (.tab ty l)) w;refine⟨⟨hG.below,λb x hx=>?_,λb g' h hh=>?_,hG.inj,λb g' h x hh hx=>?_,λb arr ty' hb=>⟨(hG.frz _ _ _ hb).1,λb' g' h hh e=>?_⟩,hG.frzB,λb k I l' hx=>?_⟩,hG.ownB⟩
  ·by_cases e:b=g
   ·subst e;rw[hs] at hx;injection hx with hx;subst hx;exact⟨hg,hf⟩
   ·rw[ho _ e] at hx;exact hG.blk _ _ hx
  ·obtain⟨h1,x,h2⟩:=hG.dom _ _ _ hh;exact⟨h1,x,by rw[ho _ (λe=>by subst e;rw[hn] at h2;cases h2)];exact h2⟩
  ·by_cases e:b=g
   ·subst e;rw[hs] at hx;injection hx with hx;subst hx;trivial
   ·rw[ho _ e] at hx;exact hG.gens _ _ _ _ hh hx
  ·obtain⟨x,h1,h2⟩:=(hG.frz _ _ _ hb).2 _ _ _ hh e;exact⟨x,by rw[ho _ (λe=>by subst e;rw[hn] at h1;cases h1)];exact h1,h2⟩
  ·by_cases e:b=g
   ·subst e;rw[hs] at hx;cases hx
   ·rw[ho _ e] at hx;exact hG.objO _ _ _ _ hx
def Good.tabIn{w w0:World}{ρ:Rho}{z:Sy}{H:T ABlk}{o:Option (Nat×Nat×List Nat)}(hg:∀g ty l,o=some (g,ty,l)->g<1048576)(hG:Good w0 ρ (Go.Sym.addTab o H) w):TabIn ρ o:=by
 match o,hg,hG with
 |none,_,_=>trivial
 |some (g,ty,l),hg,hG=>have hs:(H.set g (.tab ty l)).get g=some (.tab ty l):=T.get_set_same _ _ _ (by have:=hg g ty l rfl;omega);exact hG.blk _ _ hs
def xI{w0 w:World}{ρ:Rho}{σ:St}{K:Fin}{o:Option (Nat×Nat×List Nat)}{k:Tr}(hS:SI σ)(hG:Good w0 ρ σ.h w)(h:run (Rr o k) σ K=true):∃a9,a9.h=σ.h/\SI a9/\run k a9 K=true/\TabIn ρ o:=by
 match o,h with
 |none,h=>exact⟨σ,rfl,hS,h,trivial⟩
 |some (g,ty,l),h=>
  obtain⟨c8,h⟩:=ay h
  have c8:=bY c8
  obtain⟨x,a9,h1,h2,h3,h4⟩:=bG hS h
  cases x with
  |tab ty' l'=>obtain⟨e1,h5⟩:=ay h4;obtain⟨e2,h6⟩:=ay h5;have e1:=aac e1;have e2:=Me e2;subst e1;subst e2;exact⟨a9,h2,h3,h6,c8,(hG.blk _ _ h1).2⟩
  |_=>exact(ah h4).elim
def frzE(w0:World)(ρ:Rho)(H:T ABlk)(w:World)(L:Nat->Option (Nat×Nat))(blk:List BSh)(vl:Nat->Value):(A0 w0 ρ H w L blk vl).frz=(A0 w0 ρ H w L blk vl).frz0:=by funext b;exact Mc ρ H w L b
def ia{ρ:Rho}{F:Nat->Option ABlk}{blk:List BSh}{L:Nat->Option (Nat×Nat)}{y:Sy}{x:BSh}{q:ABlk}{g:Nat}(h:BT ρ F blk L y x q g):(iU x=true->g=0)/\((∃k C t,x= .obj k C t)↔∃k I l,q= .obj k I l)/\¬zK q:=by
 cases x with
 |cells ty l=>obtain⟨e0,c,as,e,_⟩:=h;subst e;exact⟨λ_=>e0,⟨λ⟨_,_,_,e⟩=>(by cases e),λ⟨_,_,_,e⟩=>(by cases e)⟩,λh=>h⟩
 |grow m ty t=>have h:q=_:=h;subst h;exact⟨λe=>(by cases e),⟨λ⟨_,_,_,e⟩=>(by cases e),λ⟨_,_,_,e⟩=>(by cases e)⟩,λh=>h⟩
 |growb ty t=>have h:q=_:=h;subst h;exact⟨λe=>(by cases e),⟨λ⟨_,_,_,e⟩=>(by cases e),λ⟨_,_,_,e⟩=>(by cases e)⟩,λh=>h⟩
 |arr m ty t=>obtain⟨e0,e,_⟩:=h;subst e;exact⟨λ_=>e0,⟨λ⟨_,_,_,e⟩=>(by cases e),λ⟨_,_,_,e⟩=>(by cases e)⟩,λh=>h⟩
 |arb ty t=>obtain⟨e0,e,_⟩:=h;subst e;exact⟨λ_=>e0,⟨λ⟨_,_,_,e⟩=>(by cases e),λ⟨_,_,_,e⟩=>(by cases e)⟩,λh=>h⟩
 |sm m t=>obtain⟨e0,e|⟨c,e,_⟩⟩:=h <;> (subst e;exact⟨λ_=>e0,⟨λ⟨_,_,_,e⟩=>(by cases e),λ⟨_,_,_,e⟩=>(by cases e)⟩,λh=>h⟩)
 |obj k C t=>obtain⟨e0,e⟩:=h;subst e;exact⟨λ_=>e0,⟨λ_=>⟨_,_,_,rfl⟩,λ_=>⟨_,_,_,rfl⟩⟩,λh=>h⟩
def UG{vl:Nat->Value}{w0 w wx w':World}{ρ ρ':Rho}{H H':T ABlk}{F:Nat->Option ABlk}{L LF:Nat->Option (Nat×Nat)}{blk out:List BSh}{z y:Sy}{γ:lS}(hL:Lent w0 ρ H w L blk z)(ae1:qb blk out=true)(hγ:∀j x b g,blk[j]? =some x->L j=some (b,g)->γ j=(b,Fx x g))(hγn:∀j,blk.length<=j->j<out.length->(γ j).2=0/\(∀g,ρ.at_ (γ j).1 g=none)/\(∃X0,H.get (γ j).1=some X0/\¬zK X0)/\(∀i b g,L i=some (b,g)->b≠(γ j).1)/\∀i,blk.length<=i->i<out.length->(γ i).1=(γ j).1->i=j)(f9:∀i,i<out.length->(γ i).1+1<2 ^ 64)(j7:Good wx ρ' H' w')(hF:FinRel blk (A0 w0 ρ H w L blk vl) w ρ' wx)(hFF:∀b x,F b=some x->H'.get b=some x/\∀j g,LF j≠some (b,g))(t2:∀j x,out[j]? =some x->∃b g,LF j=some (b,g)/\∃q,H'.get b=some q/\BT ρ' F out LF y x q g)(t3:∀j b g,LF j=some (b,g)->j<out.length/\(j<blk.length->b=base+j∨(base+64<=b/\∃y,out[j]? =some y/\iU y=false))/\(blk.length<=j->base+64<=b))(t4:∀j j' b g g',LF j=some (b,g)->LF j'=some (b,g')->j=j'):
 ∃ρ2:Rho,Good w0 ρ2 (eS γ y out 0 H) w'/\ρ.le ρ2/\(∀x a v,TvA F out LF y x a->VR ρ' a v->VR ρ2 (kR γ y x) v)/\∀x a v,TvR F out LF y x a->VR ρ' a v->VR ρ2 (Dr γ y x) v:=by
 obtain⟨hkl,ae1⟩:=AY ae1
 have l8:=hL.good
 have hsx:=hF.kept.size
 have ak6:=hL.n64
 have l6:∀j,j<blk.length->∃x b g q,blk[j]? =some x/\L j=some (b,g)/\H.get b=some q/\BT ρ (λ_=>none) blk L z x q g:=λj hj=>by obtain⟨b,g,q1,q,q2,q3⟩:=hL.hb j _ (aai hj);exact⟨_,b,g,q,aai hj,q1,q2,q3⟩
 have aj9:∀x,ρ'.own x->w.heap.size<=x∨AZ w0 ρ H L x:=λx hx=>by
  obtain⟨j,g,h,_,_,_,q|q⟩:=hF.ownx x hx
  ·exact .inl q
  ·exact .inr q.1
 have af8:∀b g h,base+64<=b->ρ'.at_ b g=some h->Own ρ' wx.heap.size h.blk->w.heap.size<=h.blk:=λb g h hb hh ho=>by
  rcases ho with ho|ho
  ·omega
  ·obtain⟨j,g0,h0,q2,q3,hj,_⟩:=hF.ownx _ ho;have:=(j7.inj _ _ _ _ _ _ q3 hh q2).1;omega
 have hm2:MvHyp wx ρ' H' F w' w w LF γ out y (AZ w0 ρ H L) ρ.frz:=
  {good:=j7,hb:=t2,dom:=λj p h=>(t3 j p.1 p.2 h).1,linj:=t4,
   ginj:=λa b ha hb e=>by
    rcases aaf a blk.length with ha'|ha' <;> rcases aaf b blk.length with hb'|hb'
    ·obtain⟨x1,b1,g1,_,q1,q2,_⟩:=l6 a ha';obtain⟨x2,b2,g2,_,r1,r2,_⟩:=l6 b hb';rw[hγ _ _ _ _ q1 q2,hγ _ _ _ _ r1 r2] at e;have e:b1=b2:=e;subst e;exact hL.inj _ _ _ _ _ q2 r2
    ·obtain⟨x1,b1,g1,_,q1,q2,_⟩:=l6 a ha';rw[hγ _ _ _ _ q1 q2] at e;exact absurd e ((hγn b hb' hb).2.2.2.1 _ _ _ q2)
    ·obtain⟨x1,b1,g1,_,q1,q2,_⟩:=l6 b hb';rw[hγ _ _ _ _ q1 q2] at e;exact absurd e.symm ((hγn a ha' ha).2.2.2.1 _ _ _ q2)
    ·exact(hγn b hb' hb).2.2.2.2 a ha' ha e,
   g64:=f9,
   g0:=λj x hx A'=>by
    have hjo:j<out.length:=by
     rcases aaf j out.length with h'|h'
     ·exact h'
     ·rw[aak h'] at hx;cases hx
    rcases aaf j blk.length with hj|hj
    ·obtain⟨x0,b,g,q,q1,q2,q3,q4⟩:=l6 j hj;have hs:=gz (ae1 j x0 x q1 hx);rw[hγ _ _ _ _ q1 q2];show ac (iU x0) g (g+1)=0;rw[hs,A'];exact(ia q4).1 (hs.trans A')
    ·exact(hγn j hj hjo).1,
   kept:=by
    refine hF.kept.trans ⟨j7.below.os,j7.below.tape,j7.below.output,j7.below.size,λx hx ho=>j7.below.block x (by omega) λhpo=>?_⟩;rcases aj9 x hpo with h|h
    ·omega
    ·exact ho h,
   owns:=λj h _ h2=>by
    rcases h2 with h2|h2
    ·exact .inl (by omega)
    ·exact aj9 _ h2,
   frF:=λb x hb hF'=>⟨(hFF b x hF').1,(hFF b x hF').2,λg h hh ho=>af8 b g h hb hh ho⟩,
   frz:=λb x hx c8=>by
    unfold kS at hx;split at hx
    ·rename_i x' hx';injection hx with hx;subst hx;have:=hF.frzB b _ (j7.frzB b _ hx' (by omega)) c8;have h:kS w0.heap.size ρ H w w L b=some x':=this;rw[Mc] at h;exact h
    ·split at hx
     ·rename_i hc;omega
     ·cases hx}
 have hGp:=hm2.to0 (vl:=ρ.val)
 have aj_:∀j x,out[j]? =some x->(eS γ y out 0 .leaf).get (γ j).1=some (mF γ y j x):=λj x hx=>by have:=sA (γ:=γ) (y:=y) out 0 .leaf j x hx (λi hi=>by rw[aam];exact hm2.g64 i hi) (λa b ha hb e=>hm2.ginj a b ha hb (by simpa using e));simpa using this
 have af1:∀b X,(eS γ y out 0 .leaf).get b=some X->∃j x,out[j]? =some x/\b=(γ j).1/\X=mF γ y j x/\j<out.length:=λb X hX=>by
  rcases sz out 0 .leaf b X hX with⟨j,x,hx,q1,q2⟩|⟨h,_⟩
  ·have hj:j<out.length:=by
    rcases aaf j out.length with h'|h'
    ·exact h'
    ·rw[aak h'] at hx;cases hx
   exact⟨j,x,hx,by rw[q1,aam],by rw[q2,aam],hj⟩
  ·simp [T.get] at h
 have ac7:∀b g h,(w.heap.size<=h.blk)->ρ.at_ b g=none->ρ.at_ b g=some h∨(ρ.at_ b g=none/\∀b' g' h',ρ.at_ b' g'=some h'->h'.blk=h.blk->b'=b/\h'=h):=λb g h hge hn=>
  .inr ⟨hn,λb' g' h' j9 e=>by have:=(l8.dom _ _ _ j9).1;omega⟩
 have ah6:∀b g h,(lT wx.heap.size ρ' H' w' w LF γ out.length (AZ w0 ρ H L) ρ.frz ρ.val).at_ b g=some h->
  ρ.at_ b g=some h∨(ρ.at_ b g=none/\∀b' g' h',ρ.at_ b' g'=some h'->h'.blk=h.blk->b'=b/\h'=h):=λb g h hh=>by
  obtain⟨j,hjo,eb,hGj⟩:=eA hh
  obtain⟨hA,ag5⟩:=ew hGj
  have hxo:=aai hjo
  obtain⟨bF,gF,hLF,qo,hqo,hbo⟩:=t2 j _ hxo
  obtain⟨kb1,kb2,_⟩:=ia hbo
  obtain⟨e3a,e3b,e3c⟩:=t3 _ _ _ hLF
  rcases aaf j blk.length with hj|hj
  ·obtain⟨x,b0,g0,q,q1,q2,q3,q4⟩:=l6 j hj;have F':=ae1 j x _ q1 hxo;have hbg:=hγ _ _ _ _ q1 q2;rw[hbg] at eb;have eb:b0=b:=eb;subst eb;rcases e3b hj with eF|⟨eF,xo',ai_,ar5⟩
   ·subst eF;obtain⟨ka1,ka2,_⟩:=ia q4;by_cases ab9:∃k C t,x= .obj k C t
    ·have ap0:=(lI F').1 ab9
     obtain⟨k,I,l,eqo⟩:=kb2.1 ap0
     obtain⟨k0,I0,l0,eq⟩:=ka2.1 ab9
     subst eqo;subst eq
     have hOF:zA H' LF j:=⟨_,_,_,_,_,hLF,hqo⟩
     have hOL:zA H L j:=⟨_,_,_,_,_,q2,q3⟩
     have al2:ρ'.at_ (base+j) g=some h:=by
      rcases ag5 with⟨_,b2,g2,e1,e2⟩|⟨hn,_⟩
      ·rw[hLF] at e1;injection e1 with e1;injection e1 with e1 _;rw[←e1] at e2;exact e2
      ·exact absurd hOF hn
     have al3:FA blk j:=by obtain⟨k,C,t,e⟩:=ab9;exact⟨k,C,t,by rw[q1,e]⟩
     cases hr:ρ.at_ b0 g with
     |some h0=>have ho:=(l8.objO _ _ _ _ q3 _ _ hr).1;have h1:=hF.objs j g h0 al3 (jE hL.mv hj hOL q2 hr ho);rw[al2] at h1;injection h1 with h1;subst h1;exact .inl rfl
     |none=>
      have ho:=(j7.objO _ _ _ _ hqo _ _ al2).1;refine .inr ⟨rfl,λb' g' h' j9 e=>?_⟩;have c8:=(l8.dom _ _ _ j9).1;rcases ho with ho|ho
      ·rw[←e] at ho;omega
      ·obtain⟨j2,g2,h2,s1,s2,_,hor⟩:=hF.ownx _ ho;obtain⟨u1,u2⟩:=j7.inj _ _ _ _ _ _ s2 al2 s1;have:j2=j:=by omega
       subst this;subst u2;rcases hor with hor|⟨_,g5,hor⟩
       ·rw[←e] at hor;omega
       ·obtain⟨j3,_,e5,hG3⟩:=eA (show iI w0.heap.size ρ H L bH blk.length (base+j2) g5=some h2 from hor);have e5:base+j3=base+j2:=e5;have:j3=j2:=by omega
        subst this;obtain⟨b3,g3,g4,hL3,ah8⟩:=c_ (ew hG3).1;rw[q2] at hL3;injection hL3 with hL3;injection hL3 with e6 _;subst e6;exact l8.inj _ _ _ _ _ _ j9 ah8 e
    ·have hnO:¬zA H' LF j:=λ⟨b2,g2,k,I,l,e1,e2⟩=>by rw[hLF] at e1;injection e1 with e1;injection e1 with e1 _;subst e1;rw[hqo] at e2;injection e2 with e2;exact ab9 ((lI F').2 (kb2.2 ⟨k,I,l,e2⟩))
     have ar6:¬zA H L j:=λ⟨b2,g2,k,I,l,e1,e2⟩=>by rw[q2] at e1;injection e1 with e1;injection e1 with e1 _;subst e1;rw[q3] at e2;injection e2 with e2;exact ab9 (ka2.2 ⟨k,I,l,e2⟩)
     have hJ:g=(γ j).2/\bz ρ' H' LF j=some h:=by
      rcases ag5 with⟨ho,_⟩|⟨_,e1,e2⟩
      ·exact absurd ho hnO
      ·exact⟨e1,e2⟩
     obtain⟨eg,hJ⟩:=hJ
     rw[hbg] at eg
     obtain⟨b1,g1,hL1,ab2⟩:=kT hJ
     rw[hLF] at hL1;injection hL1 with hL1;injection hL1 with e1 e2
     subst e1;subst e2
     cases A':iU x with
     |true=>
      have eg:g=g0:=by rw[eg];show ac (iU x) g0 (g0+1)=g0;rw[A'];rfl
      have e0:=ka1 A';subst e0;subst eg;have eF0:=kb1 ((gz F').symm.trans A');subst eF0;have:∃h0,ρ.at_ b0 0=some h0/\bz ρ H L j=some h0:=by
       cases x with
       |cells ty l=>obtain⟨_,c,as,eq,_⟩:=q4;subst eq;obtain⟨h0,r1,_⟩:=(l8.blk _ _ q3).2 0 (aaa _);exact⟨h0,r1,by unfold bz;rw[q2];simp only [q3,r1]⟩
       |arr m ty t=>
        obtain⟨_,e,l9⟩:=q4;subst e;have m8:¬(Ct.rows m (z.g t)).len=0:=by show ¬(z.g t).length=0;omega
        rcases l8.blk _ _ q3 with h0|⟨h0,r1,_⟩
        ·exact absurd h0 m8
        ·exact⟨h0,r1,by unfold bz;rw[q2];simp only [q3];rw[if_neg m8];exact r1⟩
       |arb ty t=>
        obtain⟨_,e,l9⟩:=q4;subst e;have m8:¬(Ct.bytes (z.s t)).len=0:=by show ¬(z.s t).length=0;omega
        rcases l8.blk _ _ q3 with h0|⟨h0,r1,_⟩
        ·exact absurd h0 m8
        ·exact⟨h0,r1,by unfold bz;rw[q2];simp only [q3];rw[if_neg m8];exact r1⟩
       |sm m t=>
        obtain⟨_,e|⟨c,e,_⟩⟩:=q4
        ·subst e;obtain⟨h0,r1,_⟩:=l8.blk _ _ q3;exact⟨h0,r1,by unfold bz;rw[q2];simp only [q3,r1]⟩
        ·subst e;obtain⟨h0,r1,_⟩:=l8.blk _ _ q3;exact⟨h0,r1,by unfold bz;rw[q2];simp only [q3,r1]⟩
       |obj k C t=>exact absurd ⟨_,_,_,rfl⟩ ab9
       |grow m ty t=>cases A'
       |growb ty t=>cases A'
      obtain⟨h0,r1,hJ0⟩:=this;have:=hF.stb j h0 ⟨x,q1,A'⟩ ((ez hL.mv hj ar6).trans hJ0);rw[ab2] at this;injection this with this;subst this;exact .inl r1
     |false=>
      have eg:g=g0+1:=by rw[eg];show ac (iU x) g0 (g0+1)=g0+1;rw[A'];rfl
      subst eg;have hqg:∃ct ty,q= .grow ct g0 ty:=by
       cases x with
       |grow m ty t=>exact⟨_,_,q4⟩
       |growb ty t=>exact⟨_,_,q4⟩
       |_=>cases A'
      obtain⟨ct,ty,eq⟩:=hqg;subst eq;have s8:ρ.at_ b0 (g0+1)=none:=by
       cases hn:ρ.at_ b0 (g0+1) with
       |none=>rfl
       |some hh=>have:g0+1<=g0:=l8.gens _ _ _ _ hn q3;omega
      refine .inr ⟨s8,λb' g' h' j9 e=>?_⟩;have c8:=(l8.dom _ _ _ j9).1;have al4:∃ct ty,qo= .grow ct gF ty/\ct.len≠0:=by
       have hso:=(gz F').symm.trans A';have:∃ct ty,qo= .grow ct gF ty:=by
        generalize out[j]=xo at *
        cases xo with
        |grow m ty t=>exact⟨_,_,hbo⟩
        |growb ty t=>exact⟨_,_,hbo⟩
        |_=>cases hso
       obtain⟨ct,ty,e⟩:=this;refine⟨ct,ty,e,λh0=>?_⟩;unfold bz at hJ;rw[hLF] at hJ;simp only [hqo,e,if_pos h0] at hJ;cases hJ
      obtain⟨cto,tyo,eqo,m8⟩:=al4;subst eqo;rcases j7.blk _ _ hqo with h0|⟨U',r1,r2,r3,_⟩
      ·exact absurd h0 m8
      rw[ab2] at r1;injection r1 with r1;subst r1;rcases r3 with r3|r3
      ·rw[←e] at r3;omega
      ·obtain⟨j2,g2,h2,s2',s3',_,hor⟩:=hF.ownx _ r3;obtain⟨u1,u2⟩:=j7.inj _ _ _ _ _ _ s3' ab2 s2';have:j2=j:=by omega
       subst this;subst u2;rcases hor with hor|⟨_,g5,hor⟩
       ·rw[←e] at hor;omega
       ·obtain⟨j3,_,e5,hG3⟩:=eA (show iI w0.heap.size ρ H L bH blk.length (base+j2) g5=some h2 from hor);have e5:base+j3=base+j2:=e5;have:j3=j2:=by omega
        subst this;obtain⟨b3,g3,g4,hL3,ah8⟩:=c_ (ew hG3).1;rw[q2] at hL3;injection hL3 with hL3;injection hL3 with e6 _;subst e6;exact l8.inj _ _ _ _ _ _ j9 ah8 e
   ·rw[hxo] at ai_;injection ai_ with ai_;have ah9:iU x=false:=by rw[gz F',ai_];exact ar5
    have hnO:¬zA H' LF j:=λ⟨b2,g2,k,I,l,e1,e2⟩=>by rw[hLF] at e1;injection e1 with e1;injection e1 with e1 _;subst e1;rw[hqo] at e2;injection e2 with e2;obtain⟨_,_,_,e⟩:=(lI F').2 (kb2.2 ⟨k,I,l,e2⟩);rw[e] at ah9;cases ah9
    have hJ:g=(γ j).2/\bz ρ' H' LF j=some h:=by
     rcases ag5 with⟨ho,_⟩|⟨_,e1,e2⟩
     ·exact absurd ho hnO
     ·exact⟨e1,e2⟩
    obtain⟨eg,hJ⟩:=hJ;rw[hbg] at eg;obtain⟨b1,g1,hL1,ab2⟩:=kT hJ;rw[hLF] at hL1;injection hL1 with hL1;injection hL1 with e1 e2;subst e1;subst e2;have eg:g=g0+1:=by rw[eg];show ac (iU x) g0 (g0+1)=g0+1;rw[ah9];rfl
    subst eg;have hqg:∃ct ty,q= .grow ct g0 ty:=by
     cases x with
     |grow m ty t=>exact⟨_,_,q4⟩
     |growb ty t=>exact⟨_,_,q4⟩
     |_=>cases ah9
    obtain⟨ct,ty,eq⟩:=hqg;subst eq;have s8:ρ.at_ b0 (g0+1)=none:=by
     cases hn:ρ.at_ b0 (g0+1) with
     |none=>rfl
     |some hh=>have:g0+1<=g0:=l8.gens _ _ _ _ hn q3;omega
    have al4:∃ct ty,qo= .grow ct gF ty/\ct.len≠0:=by
     have hso:=(gz F').symm.trans ah9;have:∃ct ty,qo= .grow ct gF ty:=by
      generalize out[j]=xo at *
      cases xo with
      |grow m ty t=>exact⟨_,_,hbo⟩
      |growb ty t=>exact⟨_,_,hbo⟩
      |_=>cases hso
     obtain⟨ct,ty,e⟩:=this;refine⟨ct,ty,e,λh0=>?_⟩;unfold bz at hJ;rw[hLF] at hJ;simp only [hqo,e,if_pos h0] at hJ;cases hJ
    obtain⟨cto,tyo,eqo,m8⟩:=al4;subst eqo;rcases j7.blk _ _ hqo with h0|⟨U',r1,r2,r3,_⟩
    ·exact absurd h0 m8
    rw[ab2] at r1;injection r1 with r1;subst r1;exact ac7 _ _ _ (af8 _ _ _ eF ab2 r3) s8
  ·obtain⟨n1,n2,n3,n4,n5⟩:=hγn j hj hjo;have eF:=e3c hj;have s8:ρ.at_ b g=none:=by rw[←eb];exact n2 g
   refine ac7 b g h ?_ s8;have:∃g1,ρ'.at_ bF g1=some h/\Own ρ' wx.heap.size h.blk:=by
    rcases ag5 with⟨⟨b5,g5,k,I,l,e8,e9⟩,b2,g2,e1,e2⟩|⟨hnO,_,hJ⟩
    ·rw[hLF] at e1;injection e1 with e1;injection e1 with e1 _;subst e1;rw[hLF] at e8;injection e8 with e8;injection e8 with e8 _;subst e8;exact⟨g,e2,(j7.objO _ _ _ _ e9 _ _ e2).1⟩
    ·obtain⟨b1,g1,hL1,ab2⟩:=kT hJ
     rw[hLF] at hL1;injection hL1 with hL1;injection hL1 with e1 e2
     subst e1;subst e2
     refine⟨gF,ab2, ?_⟩
     generalize out[j]=xo at hbo
     cases xo with
     |cells ty l=>obtain⟨e0,c,as,eq,_⟩:=hbo;subst e0;subst eq;obtain⟨h0,r1,r2,_⟩:=(j7.blk _ _ hqo).2 0 (aaa _);rw[ab2] at r1;injection r1 with r1;subst r1;exact r2 rfl
     |arr m ty t=>
      obtain⟨e0,e,l9⟩:=hbo;subst e0;subst e;rcases j7.blk _ _ hqo with h0|⟨h0,r1,_,r2,_⟩
      ·have h0:(y.g t).length=0:=h0;omega
      ·rw[ab2] at r1;injection r1 with r1;subst r1;exact r2
     |arb ty t=>
      obtain⟨e0,e,l9⟩:=hbo;subst e0;subst e;rcases j7.blk _ _ hqo with h0|⟨h0,r1,_,r2,_⟩
      ·have h0:(y.s t).length=0:=h0;omega
      ·rw[ab2] at r1;injection r1 with r1;subst r1;exact r2
     |sm m t=>
      obtain⟨e0,e|⟨c,e,_⟩⟩:=hbo
      ·subst e0;subst e;obtain⟨h0,r1,r2,_⟩:=j7.blk _ _ hqo;rw[ab2] at r1;injection r1 with r1;subst r1;exact r2
      ·subst e0;subst e;obtain⟨h0,r1,r2,_⟩:=j7.blk _ _ hqo;rw[ab2] at r1;injection r1 with r1;subst r1;exact r2
     |obj k C t=>obtain⟨e0,e⟩:=hbo;subst e;exact absurd ⟨_,_,_,_,_,hLF,hqo⟩ hnO
     |grow m ty t=>
      have hbo:qo=_:=hbo;subst hbo;rcases j7.blk _ _ hqo with h0|⟨U',r1,r2,r3,_⟩
      ·unfold bz at hJ;rw[hLF] at hJ;simp only [hqo,if_pos h0] at hJ;cases hJ
      ·rw[ab2] at r1;injection r1 with r1;subst r1;exact r3
     |growb ty t=>
      have hbo:qo=_:=hbo;subst hbo;rcases j7.blk _ _ hqo with h0|⟨U',r1,r2,r3,_⟩
      ·unfold bz at hJ;rw[hLF] at hJ;simp only [hqo,if_pos h0] at hJ;cases hJ
      ·rw[ab2] at r1;injection r1 with r1;subst r1;exact r3
   obtain⟨g1,r1,r2⟩:=this;exact af8 _ _ _ eF r1 r2
 have ad5:∀j,j<out.length->(j<blk.length/\∃x b0 g0 q,blk[j]? =some x/\L j=some (b0,g0)/\H.get b0=some q/\BT ρ (λ_=>none) blk L z x q g0/\γ j=(b0,Fx x g0))∨blk.length<=j:=λj hj=>by
  rcases aaf j blk.length with h|h
  ·obtain⟨x,b0,g0,q,q1,q2,q3,q4⟩:=l6 j h;exact .inl ⟨h,x,b0,g0,q,q1,q2,q3,q4,hγ _ _ _ _ q1 q2⟩
  ·exact .inr h
 obtain⟨ρ2,m1,m2,m3,m4,m5⟩:=ZN (H2:=eS γ y out 0 H) l8 hGp (λb=>by
  cases hp:(eS γ y out 0 .leaf).get b with
  |some X=>obtain⟨j,x,hx,q1,q2,_⟩:=af1 b X hp;subst q1;have:=sA (γ:=γ) (y:=y) out 0 H j x hx (λi hi=>by rw[aam];exact hm2.g64 i hi) (λa b ha hb e=>hm2.ginj a b ha hb (by simpa using e));rw[aam] at this;rw[this,q2]
  |none=>refine Dw _ _ _ _ λi hi e=>?_;rw[aam] at e;have:=aj_ i _ (aai hi);rw[←e,hp] at this;cases this)
  (λx hx=>by obtain⟨_,_,_,_,q⟩:=hx;exact q) rfl (λb x hx=>eB (hF.frz _ _ (eB hx))) rfl
  ah6
  (λb g h X hh hX=>by
   obtain⟨j,xo,hx,q1,q2,hjo⟩:=af1 b X hX;subst q1;subst q2;rcases ad5 j hjo with⟨hj,x,b0,g0,q,r1,r2,r3,r4,hgg⟩|hj
   ·have F':=ae1 j x xo r1 hx
    rw[hgg] at hh
    have ac2:=l8.gens _ _ _ _ hh r3
    obtain⟨ka1,ka2,_⟩:=ia r4
    cases xo with
    |cells ty l=>
     cases x with
     |cells ty' l'=>obtain⟨eg,cc,as,eq,_⟩:=r4;subst eq;exact ac2
     |_=>cases F'
    |grow m ty t=>
     cases x with
     |grow m' ty' t'=>have eq:q=_:=r4;subst eq;have ac2:g<=g0:=ac2;show g<=(γ j).2;rw[hgg];show g<=g0+1;omega
     |_=>cases F'
    |growb ty t=>
     cases x with
     |growb ty' t'=>have eq:q=_:=r4;subst eq;have ac2:g<=g0:=ac2;show g<=(γ j).2;rw[hgg];show g<=g0+1;omega
     |_=>cases F'
    |sm m t=>trivial
    |obj k C t=>trivial
    |arr m ty t=>
     cases x with
     |arr m' ty' t'=>obtain⟨eg,eq,_⟩:=r4;subst eq;exact ac2
     |_=>cases F'
    |arb ty t=>
     cases x with
     |arb ty' t'=>obtain⟨eg,eq,_⟩:=r4;subst eq;exact ac2
     |_=>cases F'
   ·rw[(hγn j hj hjo).2.1 g] at hh;cases hh)
  (λb X hX=>by
   obtain⟨j,xo,hx,q1,q2,hjo⟩:=af1 b X hX;subst q1;rcases ad5 j hjo with⟨hj,x,b0,g0,q,r1,r2,r3,r4,hgg⟩|hj
   ·rw[hgg];exact⟨q,r3,(ia r4).2.2⟩
   ·exact(hγn j hj hjo).2.2.1)
  (λb g h hh hn ho=>by obtain⟨j,h0,q1,q2,i5⟩:=ho;obtain⟨b0,g0,g1,hL',q9⟩:=c_ q1;have hj:=hL.dom _ _ hL';have e:=(l8.inj _ _ _ _ _ _ q9 hh q2).1;subst e;obtain⟨x,b1,g1',q,r1,r2,r3,r4⟩:=l6 j hj;rw[hL'] at r2;injection r2 with r2;injection r2 with e1 e2;subst e1;subst e2;have:=aj_ j _ (aai (by omega:j<out.length));rw[hγ _ _ _ _ r1 hL',hn] at this;cases this)
  (λb k I l hX=>by
   obtain⟨j,xo,hx,q1,q2,hjo⟩:=af1 b _ hX;subst q1;rcases ad5 j hjo with⟨hj,x,b0,g0,q,r1,r2,r3,r4,hgg⟩|hj
   ·refine .inl ?_
    rw[hgg]
    have F':=ae1 j x xo r1 hx
    cases xo with
    |obj k' C t=>obtain⟨k0,I0,l0,e⟩:=(ia r4).2.1.1 ((lI F').2 ⟨_,_,_,rfl⟩);exact⟨k0,I0,l0,by rw[r3,e]⟩
    |_=>cases q2
   ·exact .inr (hγn j hj hjo).2.1)
  (λb X hX=>by
   obtain⟨j,xo,hx,q1,q2,hj⟩:=af1 b X hX
   subst q2
   cases xo with
   |cells ty c=>exact .inl ⟨_,_,_,rfl⟩
   |grow m ty t=>exact .inr (.inl ⟨_,_,_,rfl⟩)
   |growb ty t=>exact .inr (.inl ⟨_,_,_,rfl⟩)
   |sm m t=>exact .inr (.inr (.inl ⟨_,_,rfl⟩))
   |arr m ty t=>exact .inr (.inl ⟨_,_,_,rfl⟩)
   |arb ty t=>exact .inr (.inl ⟨_,_,_,rfl⟩)
   |obj k C t=>exact .inr (.inr (.inr ⟨_,_,_,rfl⟩)))
 exact⟨ρ2,m1,m2,λx a v h hv=>(TvA.vr hm2 h hv).into m3 m4 (λb x hx=>by rw[m5];exact hx),λx a v h hv=>(TvR.vr hm2 h hv).into m3 m4 (λb x hx=>by rw[m5];exact hx)⟩
def kV(P:Program)(f:Nat)(S:FSpec)(zf:(z:Sy)->{y:Sy // S.pre z->S.post z y}):Prop:=
 ∀z,S.pre z->∀(w:World) (ρ:Rho) (vs:List Value),Good w ρ (S.heap z) w->LR ρ (S.argsA z) vs->
  (∀args:Array Value,(callFunc f args).run P w= .ok (.enter f args) w)/\CallsIn Fence.wide 0 P f vs.toArray w λe w'=>∃v ρ' H' a s,e= .returned v/\Good w ρ' H' w'/\ρ.le ρ'/\VR ρ' a v/\
   fg S.blk.length H' (S.res z) (S.out z) a=some s/\s.pr/\(zf z).1=aM s.tm
def FC{blk:List BSh}{s1 s2:PS}{H:T ABlk}(hG:Good w0 ρ H w)(ac5:mf blk s1.ln s1=some s2)(hp:s2.pr)(P':xH ρ blk H s1 blk 0)(f9:blk.length<=64)(ae5:mg blk.length s2.loc=true):Lent w0 ρ H w s2.L blk (aM s2.tm):=by
 obtain⟨f1,f2,f3,f4,_⟩:=eu ac5;have hln:=lH ac5 hp;refine⟨hG,λj x hx=>?_,λj p h=>vB ae5 _ (dR h),λj j' b g g' h1 h2=>?_,f9⟩
 ·obtain⟨b,g,q1,q,q2,q3⟩:=P' j x hx;rw[aam] at q1;exact⟨b,g,f1.loc _ _ q1,q,q2,q3 ρ (.refl _) s2 f1 hp hln⟩
 ·have:=vC ae5 _ (dR h1) _ (dR h2) rfl;exact congrArg Prod.fst this
def FD{blk:List BSh}{s:PS}{j b g:Nat}{x:BSh}(hx:blk[j]? =some x)(hL:s.L j=some (b,g)):qx blk (po s) j=(b,Fx x g):=by
 have e:po s j=(b,g):=by unfold po;rw[show bE j s.loc=some (b,g) from hL]
 unfold qx;rw[hx,e]
def Rw{k:List Nat->Tr}:∀{l:List BSh} {σ:St},SI σ->Good w0 ρ σ.h w->run (Ru l k) σ K=true->
 ∃bs a9,run (k bs) a9 K=true/\SI a9/\Good w0 ρ a9.h w/\bs.length=l.length/\(∀b X,σ.h.get b=some X->a9.h.get b=some X)/\(∀b∈bs,σ.h.get b=none/\∃X,a9.h.get b=some X/\¬zK X)/\bs.Nodup:=by
 intro l
 induction l generalizing k with
 |nil=>intro σ hS hG h;exact⟨[],σ,h,hS,hG,rfl,λ_ _ h=>h,(λb hb=>by cases hb),List.nodup_nil⟩
 |cons x l ih=>
  intro σ hS hG h
  have h:run (.new (.grow (.bytes []) 0 0) λb=>Ru l λbs=>k (b::bs)) σ K=true:=h
  obtain⟨n,b7,hn,f9,e1,b6,h1⟩:=gt hS h
  have b9:Good w0 ρ b7.h w:=by rw[e1];exact hG.none_new hn f9 rfl
  obtain⟨bs,i3,q1,q2,q3,q4,q5,q6,q7⟩:=ih (k:=λbs=>k (n::bs)) b6 b9 h1
  have hn1:b7.h.get n=some (.grow (.bytes []) 0 0):=by rw[e1];exact T.get_set_same _ _ _ f9
  refine⟨n::bs,i3,q1,q2,q3,by simp [q4],λb X hX=>q5 b X ?_,λb hb=>?_,List.nodup_cons.2 ⟨λhm=>?_,q7⟩⟩
  ·rw[e1,T.get_set_ne _ (λe=>by subst e;rw[hn] at hX;cases hX)];exact hX
  ·rcases List.mem_cons.1 hb with e|hb
   ·subst e;exact⟨hn,_,q5 _ _ hn1,λh=>h⟩
   ·obtain⟨r1,r2⟩:=q6 b hb;refine⟨?_,r2⟩;have m8:b≠n:=λe=>by subst e;rw[hn1] at r1;cases r1
    rw[e1,T.get_set_ne _ m8] at r1;exact r1
  ·have:=(q6 n hm).1;rw[hn1] at this;cases this
def Lent.more{H':T ABlk}{L:Nat->Option (Nat×Nat)}{blk:List BSh}{z:Sy}{H:T ABlk}(hL:Lent w0 ρ H w L blk z)(hG:Good w0 ρ H' w)(h:∀b X,H.get b=some X->H'.get b=some X):Lent w0 ρ H' w L blk z:=
 ⟨hG,λj x hx=>by obtain⟨b,g,q1,q,q2,q3⟩:=hL.hb j x hx;exact⟨b,g,q1,q,h _ _ q2,q3⟩,hL.dom,hL.inj,hL.n64⟩
def Rx{n:Nat}{γ:lS}{bs:List Nat}{j:Nat}(h:j<n):uq n γ bs j=γ j:=by unfold uq;rw[ar,if_pos (Nat.ble_eq.mpr h)]
def Ry{n:Nat}{γ:lS}{bs:List Nat}{j:Nat}(h:n<=j):uq n γ bs j=(bs.getD (j-n) 0,0):=by unfold uq;rw[ar,if_neg (λe=>by have:=aaw e;omega)]
def Ww{f:Nat}{S:FSpec}{zf:(z:Sy)->{y:Sy // S.pre z->S.post z y}}(hC:kV P f S zf)(w0:World)(l:List AV):Wr P w0 f l (Wt S zf l):=by
 intro vs k σ0 K ρ w R hS0 hG0 hl h0 hR;obtain⟨σ,eh,hS,h,af9⟩:=xI hS0 hG0 h0;have hG:Good w0 ρ σ.h w:=by rw[eh];exact hG0
 clear h0 hG0 hS0;obtain⟨l',b7,ρ1,z1,b6,b9,L',hlen,hlr⟩:=iV hS hG hl h;obtain⟨s0,hs0,z2⟩:=bT z1;obtain⟨s1,i3,ρ2,z3,i9,l8,j0,al5,_,P'⟩:=AW b6 b9 z2;obtain⟨s2,hs2,z4⟩:=bT z3;obtain⟨ah_,z5⟩:=ay z4;obtain⟨⟨hpr,ac4⟩,z6⟩:=aN z5;clear h z1 z2 z3 z4 z5;obtain⟨al6,hc2⟩:=aD ah_;obtain⟨hcK,hcL⟩:=aD hc2;have al6:=bY al6;obtain⟨p1,p2⟩:=gd (blk:=S.blk) hs0;obtain⟨f1,f2,f3,f4,_⟩:=eu hs2;have hln:=lH hs2 hpr;have I':LR ρ2 l' vs:=(hlr (by rw[←hlen];exact mI hs0)).mono j0;have m6:=p2 s2 (al5.trans f1) hpr hln;rw[kU] at m6;have hL0:=FC l8 hs2 hpr P' al6 hcL;obtain⟨z,hz⟩:∃z,z=aM s2.tm:=⟨_,rfl⟩
 rw[←hz] at ac4 z6 m6 hL0 hcK;have z6:run (Ru ((S.out z).drop S.blk.length) λbs=>Ws (uq S.blk.length (qx S.blk (po s2)) bs) (zf z).1 (S.out z) 0 (k (Dr (uq S.blk.length (qx S.blk (po s2)) bs) (zf z).1 (S.res z)))) i3 K=true:=z6;obtain⟨bs,σn,z7,hSn,hGn,hbl,hbk,hbn,hbd⟩:=Rw i9 l8 z6;have hL:=hL0.more hGn hbk;have hLb:=TvAs.lr (vl:=ρ.val) hL.mv m6 I';obtain⟨hcf,af_⟩:=hC z ac4 w _ vs ((hL.to (vl:=ρ.val)).addTab ((af9.mono (L'.trans j0).frz).mono λb x h=>eB h)) hLb;refine⟨hcf,af_.mono λe w' he=>?_⟩;obtain⟨v,ρ',H',a,s,rfl,j7,ad7,hva,ac5,al7,hzf⟩:=he;obtain⟨σ3,z8,hS3,e3,f9⟩:=Mb hSn z7;obtain⟨t1,t2,t3⟩:=sE (ρ:=ρ') ac5 al7;rw[←hzf] at t1 t2;obtain⟨hkl,_⟩:=AY hcK;have hdl:bs.length=(S.out z).length-S.blk.length:=by rw[hbl,aao]
 have hbg:∀j,S.blk.length<=j->j<(S.out z).length->∃b,bs[j-S.blk.length]? =some b/\(uq S.blk.length (qx S.blk (po s2)) bs j)=(b,0):=λj h1 h2=>by
  have c8:j-S.blk.length<bs.length:=by omega
  refine⟨bs[j-S.blk.length],aai c8, ?_⟩;rw[Ry h1,aag,aai c8];rfl
 obtain⟨ρ3,m1,m2,_,m3⟩:=UG (F:=mW s H') (γ:=uq S.blk.length (qx S.blk (po s2)) bs) hL hcK (λj x b g hx hl=>by
  have hj:j<S.blk.length:=by
   rcases aaf j S.blk.length with h'|h'
   ·exact h'
   ·rw[aak h'] at hx;cases hx
  rw[Rx hj];exact FD hx hl)
  (λj h1 h2=>by
   obtain⟨b,r1,r2⟩:=hbg j h1 h2;rw[r2];have hm:=abf r1;obtain⟨u1,u2⟩:=hbn b hm;refine⟨rfl,λg=>l8.none_at u1 g,u2,λi b' g' hL' e=>?_,λi h3 h4 e=>?_⟩
   ·obtain⟨b2,g2,q1,q,q2,_⟩:=hL0.hb i _ (aai (hL0.dom _ _ hL'));rw[hL'] at q1;injection q1 with q1;injection q1 with q1 _;subst q1;subst e;rw[u1] at q2;cases q2
   ·obtain⟨b3,r3,r4⟩:=hbg i h3 h4;rw[r4] at e;have e:b3=b:=e;subst e;have hi1:i-S.blk.length<bs.length:=by omega
    have hi2:j-S.blk.length<bs.length:=by omega
    rw[aai hi1] at r3;rw[aai hi2] at r1;injection r3 with r3;injection r1 with r1;have:=(List.getElem_inj (h₀:=hi1) (h₁:=hi2) hbd).1 (r3.trans r1.symm);omega)
  (λi hi=>by have:=f9 i hi;rwa [aam] at this) j7 (FinRel.of_le ad7 hL.ownOk (frzE _ _ _ _ _ _ _).symm) (λb x hF=>⟨(iW hF).1,t3.t5 b (iW hF).2⟩) t2 (λj b g h=>t3.t3 j b g h) t3.t4
 exact hR _ v σ3 ρ3 w' z8 hS3 (by rw[e3];exact m1) ((L'.trans j0).trans m2) (m3 _ _ _ t1 hva)
def FE{blk:List BSh}{r:Sr}{a:AV}{v:Value}{k:AV->Tr}(hS:SI σ)(hG:Good w0 ρ σ.h w)(hv:VR ρ a v)(h:run (Du blk r a k) σ K=true):
 ∃a' a9 ρ',run (k a') a9 K=true/\SI a9/\Good w0 ρ' a9.h w/\ρ.le ρ'/\VR ρ' a' v:=by
 cases r with
 |one x=>
  have hl:LR ρ [a] [v]:=LR.cons hv (LR.nil _)
  obtain⟨s9,a9,ρ',h1,h2,h3,h4,h5,h6⟩:=iV (loc:=[]) (blk:=blk) (l:=[Rt x]) (k:=λas=>match as with | [a]=>k a|_=>.fail) hS hG hl h
  have h6:=h6 rfl
  match s9,h5,h6,h1 with
  | [a'],_,h6,h1=>
   obtain⟨u,us,e,hu,_⟩:=h6.cons_inv
   injection e with e _
   subst e
   exact⟨a',a9,ρ',h1,h2,h3,h4,hu⟩
 |tu l=>
  unfold Du at h
  simp only at h
  split at h
  ·rename_i as;rcases bU h with⟨hl,h⟩|⟨_,h⟩
   ·have hl:=aL hl
    cases hv with
    |tup _ cs e1 e2=>obtain⟨s9,a9,ρ',h1,h2,h3,h4,h5,h6⟩:=iV hS hG (LR.of_arr e1 e2) h;obtain⟨r1,r2⟩:=(h6 hl).arr;exact⟨_,a9,ρ',h1,h2,h3,h4,.tup _ cs r1 r2⟩
   ·exact⟨_,σ,ρ,h,hS,hG,.refl _,hv⟩
  ·exact⟨_,σ,ρ,h,hS,hG,.refl _,hv⟩
def Rz{M:Tab}(hM:TabOk P M){n f:Nat}{S:FSpec}(h:∀z,S.pre z->∃hn,(S.callFm P M n f z hn).den):∃zf:(z:Sy)->{y:Sy // S.pre z->S.post z y},kV P f S zf:=by
 have key:∀z,∃y:{y:Sy // S.pre z->S.post z y},S.pre z->∃a σf s,(∀K,run (nu P (xj P M n) f (S.argsA z) λa=>Du (S.out z) (S.res z) a .ret) (start (S.heap z) (base+64)) K=K a σf)/\fg S.blk.length σf.h (S.res z) (S.out z) a=some s/\s.pr/\y.1=aM s.tm:=λz=>by
  by_cases hz:S.pre z
  ·obtain⟨hn,hd⟩:=h z hz;obtain⟨a,σf,e,hn',hl⟩:=Dq _ _ _ _ hd;unfold UE at hl;split at hl
   ·rename_i s hs;exact⟨⟨aM s.tm,λ_=>hl.2 hl.1⟩,λ_=>⟨a,σf,s,e,hs,hl.1,rfl⟩⟩
   ·exact hl.elim
  ·exact⟨⟨⟨λ_=>0,λ_=>[],λ_=>False,λ_=>[]⟩,λh=>absurd h hz⟩,λh=>absurd h hz⟩
 refine⟨λz=>Classical.choose (key z),λz hz w ρ vs hG hl=>?_⟩;obtain⟨a,σf,s,e,hs,hp,hy⟩:=abt (key z) hz;refine iR (qR P hM w n).1 f (S.argsA z) vs (λa=>Du (S.out z) (S.res z) a .ret) (start (S.heap z) (base+64)) (λa' s'=>dP (a'=a/\s'=σf)) ρ w _ (nG (by decide) (by decide)) hG hl (by rw[e];exact fE.2 ⟨rfl,rfl⟩) λav v a9 ρ' w' q1 q2 q3 q4 q5=>?_;obtain⟨a',i3,ρ2,q1,q2,q3,q4',q5⟩:=FE q2 q3 q5 q1;obtain⟨e1,e2⟩:=fE.1 (show dP (a'=a/\i3=σf)=true from q1);subst e1;subst e2;exact⟨v,ρ2,_,_,s,rfl,q3,q4.trans q4',q5,hs,hp,hy⟩
end
end Go.Sym
