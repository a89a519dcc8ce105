/- Part 4. -/
import Derived.Laws.IdiomStrings
import Derived.Laws.BytesArg
import Derived.Test.YtknhaomckfianaaGreatDoorP1
import Derived.Test.YtknhaomckfianaaGreatDoorP3
set_option linter.all false
namespace Go.Sym
open Go.RowKit (Below)
section
variable{P:Program}{w0:World}{ρ:Rho}{w:World}{σ:St}{K:Fin}{k:AV->Tr}
def heap_setCell(w:World)(a:Addr)(v:Value)(i:Nat):(w.setCell a v).heap[i]? =if a.block=i then(w.heap[i]?).map (fun
 | .cells c elem fr=>.cells (if a.spot.isSome then c else c.setIfInBounds a.off v) elem fr
 |o=>o) else w.heap[i]? :=by
 simp only [World.setCell,abb]
 split <;> rfl
def Good.store{H:T ABlk}(hG:Good w0 ρ H w){b o gen lo hi fl fh tag ty:Nat}{c:T Cell}{h:Home}{a0 a:AV}{v:Value}(hb:H.get b=some (.cells c gen lo hi fl fh false ty))(d4:b+1<2 ^ 64)(hh:ρ.at_ b gen=some h)(hc:c.get o=some (.mk tag a0))(ht:tag<=gen)(hv:VR ρ a v)(p8:eK a=true)(WD:¬(fl<=o/\o<fh)):
 h.shift<=o/\(Go.store ⟨h.blk,o-h.shift,none⟩ v).run P w= .ok () (w.setCell ⟨h.blk,o-h.shift,none⟩ v)/\
 Good w0 ρ (H.set b (.cells (c.set o (.mk gen a)) gen lo hi fl fh false ty)) (w.setCell ⟨h.blk,o-h.shift,none⟩ v):=by
 have hB:=hG.blk _ _ hb
 obtain⟨hm,q1,q2,_,arr,fr,q3,q4,q5,q6⟩:=hB.2 gen (aab _)
 rw[hh] at q1;injection q1 with q1;subst q1
 have q2:=q2 rfl
 obtain⟨q5a,q5b⟩:=q5 rfl
 obtain⟨w8,v0,r1,_⟩:=q6 o tag a0 hc ht
 have c8:o-h.shift<arr.size:=by
  rcases aaf (o-h.shift) arr.size with h'|h'
  ·exact h'
  ·rw[aaN h'] at r1;cases r1
 have g8:w.cell? ⟨h.blk,o-h.shift,none⟩=some v0:=by simp [World.cell?,q3,r1]
 have ac0:w.frozen? ⟨h.blk,o-h.shift,none⟩=false:=by
  simp only [World.frozen?,q3]
  obtain⟨f1,f2⟩:=fr
  cases hx:(decide (f1<=o-h.shift) && decide (o-h.shift<f2)) with
  |false=>rfl
  |true=>simp only [Bool.and_eq_true,decide_eq_true_eq] at hx;have:=q5b (o-h.shift) (.inl (by omega)) hx.1 hx.2;exact absurd (by omega) WD
 refine⟨w8, ?_, ?_⟩
 ·rw[run_store P w _ v .plain (gO hv p8),g8];simp [ac0]
 ·refine hG.turn (hrs:=⟨b,gen,h,hh,rfl⟩) hb d4 h.blk q2 (Kept.setCell (p:=⟨h.blk,o-h.shift,none⟩) q2 v) (by simp [World.setCell]) (λk hk _=>?_) (λb' g' h' g7 e'=>(hG.inj _ _ _ _ _ _ g7 hh e').1) ⟨λo' x hx=>?_,λg' Xs=>?_⟩
  ·rw[heap_setCell,if_neg (λe=>hk e.symm)]
  ·by_cases eo:o'=o
   ·subst eo;have:=T.get_set_some _ _ hx;rw[this];exact⟨(hB.1 _ _ hc).1,(hB.1 _ _ hc).2.1,aab _⟩
   ·rw[T.get_set_ne _ eo] at hx;exact hB.1 _ _ hx
  ·obtain⟨u0,s1,s2,s2',l7,Z1,s3,s4,s5,s6⟩:=hB.2 g' Xs;by_cases eb:u0.blk=h.blk
   ·obtain⟨_,ehm⟩:=hG.inj _ _ _ _ _ _ s1 hh eb;subst ehm;rw[q3] at s3;injection s3 with s3;injection s3 with s3a s3b s3c;subst s3a;subst s3c;refine⟨_,s1,s2,s2',arr.setIfInBounds (o-u0.shift) v,fr, ?_,by simpa using s4,s5,λo' Xr a' YL ht'=>?_⟩
    ·rw[heap_setCell,if_pos rfl,q3];rfl
    ·by_cases eo:o'=o
     ·subst eo;have:=T.get_set_some _ _ YL;injection this with e1 e2;subst e2;exact⟨w8,v,by rw[aaD];simp [c8],hv⟩
     ·rw[T.get_set_ne _ eo] at YL;obtain⟨u1,v',u2,u3⟩:=s6 o' Xr a' YL ht';exact⟨u1,v',by rw[aaD,if_neg (by omega)];exact u2,u3⟩
   ·refine⟨u0,s1,s2,s2',l7,Z1, ?_,s4,s5,λo' Xr a' YL ht'=>?_⟩
    ·rw[heap_setCell,if_neg (λe=>eb e.symm)];exact s3
    ·by_cases eo:o'=o
     ·subst eo;have:=T.get_set_some _ _ YL;injection this with e1 e2;have:g'=gen:=by omega
      subst this;rw[hh] at s1;injection s1 with s1;subst s1;exact absurd rfl eb
     ·rw[T.get_set_ne _ eo] at YL;exact s6 o' Xr a' YL ht'
def U9{b gen lo hi fl fh o0 ty:Nat}{h:Home}(d4:b+1<2 ^ 64)(hh:ρ.at_ b gen=some h)(ho0:h.shift<=o0):∀(l:List AV) (vs:List Value) (i:Nat) (c:T Cell) (w:World) (H:T ABlk) (k:T Cell->Tr),
 Good w0 ρ H w->H.get b=some (.cells c gen lo hi fl fh false ty)->LR ρ l vs->run (Pf gen fl fh l (o0+i) c k) σ K=true->
 ∃c' w',run (k c') σ K=true/\(storeCells ⟨h.blk,o0-h.shift,none⟩ vs i).run P w= .ok () w'/\Good w0 ρ (H.set b (.cells c' gen lo hi fl fh false ty)) w':=by
 intro l
 induction l with
 |nil=>
  intro vs i c w H k hG hb hl hr
  rw[hl.nil_inv]
  exact⟨c,w,hr,rfl,hG.ext λb'=>by
   by_cases e:b'=b
   ·subst e;rw[T.get_set_same _ _ _ d4,hb]
   ·rw[T.get_set_ne _ e]⟩
 |cons a l ih=>
  intro vs i c w H k hG hb hl hr
  obtain⟨v,o7,rfl,hv,m7⟩:=hl.cons_inv
  have hr:run (aa (eK a) (aa (aa (Nat.ble fl (o0+i)) (Nat.ble (Nat.succ (o0+i)) fh) false) .fail (T.getK c (o0+i) .fail λx=>match x with
   | .mk tag _=>aa (Nat.ble tag gen) (T.setK c (o0+i) (.mk gen a) λc=>fN (Nat.succ (o0+i)) λo=>Pf gen fl fh l o c k) .fail)) .fail) σ K=true:=hr
  obtain⟨p8,hr⟩:=aj hr
  obtain⟨WD,hr⟩:=kB hr
  obtain⟨x,hx,hr⟩:=mD hr
  cases x with
  |mk tag a0=>
   obtain⟨ht,hr⟩:=aj hr
   rw[T.setK_eq] at hr
   have hr:=fg hr
   have ah3:¬(fl<=o0+i/\o0+i<fh):=λ⟨e1,e2⟩=>by rw[ak,if_pos (Nat.ble_eq.mpr e1)] at WD;rw[Nat.ble_eq.mpr e2] at WD;cases WD
   obtain⟨_,s1,s2⟩:=hG.store (P:=P) hb d4 hh hx (aU ht) hv p8 ah3
   obtain⟨c',w',r1,r2,r3⟩:=ih o7 (i+1) (c.set (o0+i) (.mk gen a)) _ _ k s2 (T.get_set_same _ _ _ d4) m7 hr
   refine⟨c',w',r1, ?_,r3.ext λb'=>?_⟩
   ·have ea:(⟨h.blk,o0-h.shift,none⟩:Addr).add i=⟨h.blk,o0+i-h.shift,none⟩:=by
     unfold Addr.add;split
     ·rename_i e;subst e;simp
     ·simp;omega
    simp only [storeCells,aaa,ea,s1,aad];exact r2
   ·by_cases e:b'=b
    ·subst e;rw[T.get_set_same _ _ _ d4,T.get_set_same _ _ _ d4]
    ·rw[T.get_set_ne _ e,T.get_set_ne _ e,T.get_set_ne _ e]
def fJ{b g o:Nat}{h:Home}{l:List AV}{vs:List Value}{k:Tr}(hS:SI σ)(hG:Good w0 ρ σ.h w)(hh:ρ.at_ b g=some h)(ho:h.shift<=o)(hl:LR ρ l vs)(hr:run (gk b g o l k) σ K=true):
 zF P w0 ρ w k K (storeCells ⟨h.blk,o-h.shift,none⟩ vs):=by
 have d4:=cy hS hr
 obtain⟨x,c7,hx,e1,b6,hr⟩:=aT hS hr
 cases x with
 |cells c gen lo hi fl fh ro ty=>
  obtain⟨YW,hr⟩:=kB hr
  subst YW
  obtain⟨hg,hr⟩:=aj hr
  have hg:=aF hg
  subst hg
  obtain⟨c',w',r1,r2,r3⟩:=U9 (P:=P) (o0:=o) d4 hh ho l vs 0 c w σ.h _ hG hx hl hr
  obtain⟨x0,d5,_,e2,d8,_,r4⟩:=cr b6 r1
  exact⟨d5,w',r4,d8,by rw[e2,e1];exact r3,r2⟩
 |_=>exact(ac hr).elim
def lw{w:World}{b o:Nat}{v:Value}(h:w.cell? ⟨b,o,none⟩=some v):w.setCell ⟨b,o,none⟩ v=w:=by
 have e:(w.setCell ⟨b,o,none⟩ v).heap=w.heap:=by
  refine Array.ext_getElem? λi=>?_;rw[heap_setCell];split
  ·rename_i hb
   subst hb
   simp only [World.cell?] at h
   cases hw:w.heap[b]? with
   |none=>rfl
   |some y=>
    rw[hw] at h
    cases y with
    |cells c elem fr=>
     simp only [Zl,Bool.false_eq_true,if_false] at h;simp only [aaQ,Zl,Bool.false_eq_true,if_false,Option.some.injEq,Obj.cells.injEq,and_true];refine Array.ext_getElem? λj=>?_;rw[aaD];split
     ·rename_i ej;subst ej;rw[h];split
      ·rfl
      ·rename_i hn;rw[aaN (by omega)] at h;cases h
     ·rfl
    |_=>rfl
  ·rfl
 show({w with heap:=(w.setCell ⟨b,o,none⟩ v).heap}:World)=w;rw[e]
def iA{w w':World}{b o:Nat}:∀{vs:List Value} {i:Nat},(∀u∈vs,u.oneCell'=true)->(∀(j:Nat) (u:Value),vs[j]? =some u->w.cell? ⟨b,o+(i+j),none⟩=some u)->(storeCells ⟨b,o,none⟩ vs i).run P w= .ok () w'->w'=w
 | [],i,_,_,h=>by simp only [storeCells,aac] at h;injection h with _ h;exact h.symm
 |u::r,i,h1,h2,h=>by
  have hu:=h2 0 u rfl;have ea:(⟨b,o,none⟩:Addr).add i=⟨b,o+(i+0),none⟩:=by unfold Addr.add;split <;> simp_all
  simp only [storeCells,aaa,ea,run_store P w _ u .plain (h1 u (by simp)),hu] at h;split at h
  ·cases h
  ·rw[lw hu] at h;simp only [aad] at h;exact iA (λx hx=>h1 x (by simp [hx])) (λj x hx=>by rw[show i+1+j=i+(j+1) by omega];exact h2 (j+1) x (by simpa using hx)) h
def iU{w w':World}{b o:Nat}{v:Value}:∀{vs:List Value} {i m:Nat},(∀u∈vs,u.oneCell'=true)->(∀(j:Nat) (u:Value),vs[j]? =some u->(j=m->u=v)/\(j≠m->w.cell? ⟨b,o+(i+j),none⟩=some u))->m<vs.length->
 (storeCells ⟨b,o,none⟩ vs i).run P w= .ok () w'->(∃v0,w.cell? ⟨b,o+(i+m),none⟩=some v0)->(Go.store ⟨b,o+(i+m),none⟩ v).run P w= .ok () w'
 | [],i,m,_,_,hm,_,_=>by simp at hm
 |u::r,i,m,h1,h2,hm,h,hc=>by
  have ea:(⟨b,o,none⟩:Addr).add i=⟨b,o+(i+0),none⟩:=by unfold Addr.add;split <;> simp_all
  have p8:=h1 u (by simp)
  cases m with
  |zero=>
   obtain⟨v0,hc⟩:=hc;have hu:=(h2 0 u rfl).1 rfl;subst hu;simp only [storeCells,aaa,ea] at h;rw[run_store P w _ u .plain p8,hc] at h⊢;simp only at h⊢;split at h
   ·cases h
   ·rename_i hf;rw[if_neg hf];simp only [aad] at h;have:=iA (λx hx=>h1 x (by simp [hx])) (λj x hx=>by rw[World.cell?_setCell_other _ _ _ _ (by intro e;injection e with _ e2;omega),show i+1+j=i+(j+1) by omega];exact(h2 (j+1) x (by simpa using hx)).2 (by omega)) h;rw[this]
  |succ m=>
   have hu:=(h2 0 u rfl).2 (by omega);simp only [storeCells,aaa,ea,run_store P w _ u .plain p8,hu] at h;split at h
   ·cases h
   ·rw[lw hu] at h;simp only [aad] at h;rw[show i+(m+1)=i+1+m by omega] at hc⊢;refine iU (λx hx=>h1 x (by simp [hx])) (λj x hx=>?_) (by simpa using hm) h hc;obtain⟨q1,q2⟩:=h2 (j+1) x (by simpa using hx);exact⟨λe=>q1 (by omega),λe=>by rw[show i+1+j=i+(j+1) by omega];exact q2 (by omega)⟩
def wt(j:IntKind)(i x:Int):∀(m:Nat) (ns:List Int),(ri j i x m ns).length=ns.length
 |_,[]=>rfl
 |m,n::ns=>by simp [ri,wt j i x (m+1) ns]
def tY(j:IntKind)(i x:Int):∀(m:Nat) (ns:List Int) (p:Nat),(ri j i x m ns)[p]? =(ns[p]?).map λn=>.sI j (R_ (i=((m+p:Nat):Int)) x n)
 |_,[],p=>by simp [ri]
 |m,n::ns,p=>by
  cases p with
  |zero=>simp [ri]
  |succ p=>simp only [ri,abD,tY j i x (m+1) ns p];rw[show m+1+p=m+(p+1) by omega]
def GU(j:IntKind)(i x:Int)(m:Nat)(ns:List Int):∀a∈ri j i x m ns,eK a=true:=by
 intro a ha
 obtain⟨p,hp⟩:=List.mem_iff_getElem?.1 ha
 rw[tY] at hp
 cases hn:ns[p]? with
 |none=>rw[hn] at hp;cases hp
 |some n=>rw[hn] at hp;injection hp with hp;rw[←hp];rfl
def GV{t:TypeId}{x y:AV}{v u:Value}{k:Tr}(hS:SI σ)(hG:Good w0 ρ σ.h w)(hx:VR ρ x v)(hy:VR ρ y u)(hr:run (Gh P t x y k) σ K=true):zF P w0 ρ w k K (Instr.storeAt t v u):=by
 cases hx with
 |ptr b g o h hh ho=>
  obtain⟨i,hi,hr⟩:=bE hr;obtain⟨l,hl,hr⟩:=fi hy hr;obtain⟨hlen,hr⟩:=aj hr;have hlen:=aF hlen;obtain⟨a8,w',r1,r2,r3,r4⟩:=fJ (P:=P) hS hG hh ho hl hr;refine⟨a8,w',r1,r2,r3, ?_⟩;have m8:u.cells.size=i.size:=by rw[←aaI,hl.1];exact hlen
  simp only [Instr.storeAt,Instr.sureAddr,storeVar,aaa,aac,aad,am hi,m8,ne_eq,not_true_eq_false,if_false];exact r4
 |gptr b g i o es hm hh hs=>
  obtain⟨ii,hi,hr⟩:=bE hr
  obtain⟨l,hl,hr⟩:=fi hy hr
  obtain⟨hlen,hr⟩:=aj hr
  have hlen:=aF hlen
  obtain⟨i4,hr⟩:=aj hr
  have i4:=aU i4
  have d4:=cy hS hr
  obtain⟨q,c7,hq,e1,b6,hr⟩:=aT hS hr
  have b9:Good w0 ρ c7.h w:=by rw[e1];exact hG
  cases q with
  |grow c gen ty=>
   obtain⟨k1,z1⟩:=aj hr
   obtain⟨k2,z2⟩:=aj z1
   obtain⟨k3,z3⟩:=aj z2
   obtain⟨k4,z4⟩:=aj z3
   clear hr z1 z2 z3
   have k1:=aF k1
   have k2:=aF k2
   have k3:=aU k3
   have p8:∀a∈l,eK a=true:=λa ha=>List.all_eq_true.1 k4 a ha
   subst k1;subst k2
   cases hu:c.upd i o l with
   |none=>rw[hu] at z4;exact(ac z4).elim
   |some r=>
    obtain⟨c',p⟩:=r;rw[hu] at z4;obtain⟨⟨M',hp⟩,z5⟩:=aJ z4;obtain⟨x0,d5,A',e2,d8,_,z6⟩:=cr b6 z5;clear z4 z5;obtain⟨u1,u2,u3,u4⟩:=Ps hu hp M' (by omega);have p9:c7.h.get b=some (.grow c g ty):=by rw[e1];exact hq
    rcases b9.blk _ _ p9 with h0|⟨u0,q1,q2,q3,arr,fr,q4,q5,q6,q7,q8⟩
    ·omega
    rw[hh] at q1;injection q1 with q1;subst q1;have x8:u.cells.toList.length=l.length:=hl.1;have WI:i * c.es+c.es<=c.len * c.es:=by rw[←aaL];exact aay _ M'
    have WU:(i * c.es+o)+u.cells.toList.length<=arr.size:=by rw[x8];omega
    obtain⟨l7,s1,s2,s3,s4,s5,s6,s7⟩:=dJ hm.blk u.cells.toList (i * c.es+o) w arr ty fr q4 WU;have l8:=run_storeCells_cells (P:=P) hm.blk (i * c.es+o) u.cells.toList 0 w (λj hj=>by
     simp only [World.cell?,q4]
     simp only [Zl,Bool.false_eq_true,if_false,aas]
     rw[aaK (by omega)];rfl) (λj hj=>by
     simp only [World.frozen?,q4,aas]
     cases hx:(decide (fr.1<=i * c.es+o+j) && decide (i * c.es+o+j<fr.2)) with
     |false=>rfl
     |true=>simp only [Bool.and_eq_true,decide_eq_true_eq] at hx;exact(q7 _ (by omega) hx.1 hx.2).elim) (hl.ones p8)
    rw[aas] at l8;have B':Good w0 ρ (c7.h.set b (.grow c' g ty)) (w.setCells hm.blk (i * c.es+o) u.cells.toList):=by
     refine b9.turn (hrs:=⟨b,g,hm,hh,rfl⟩) p9 d4 hm.blk q3 (Kept.of_set (s7 0 (aan _)) s5 q3) (by omega) (λx hx _=>s5 x hx) (λb' g' h' g7 e'=>(hG.inj _ _ _ _ _ _ g7 hh e').1) ?_;refine .inr ⟨hm,hh,q2,q3,l7,fr,s1,by omega,by rw[u1,u2];exact q6,q7,λi' hi'=>?_⟩;rw[u1] at hi';rw[u2];by_cases e:i'=i
     ·subst e;refine lu (λj a ha=>?_) (u4 ρ);have hrl:=c.row_len i';have hj:j<c.es:=by
       rcases aaf j c.es with h'|h'
       ·exact h'
       ·rw[aak (by simp;omega)] at ha;cases ha
      by_cases hj1:j<o
      ·rw[aaJ,aaB (by simp;omega),aav hj1] at ha;obtain⟨uu,v1,v2⟩:=q8 i' M' j a ha;exact⟨uu,by rw[s4 _ (.inl (by omega))];exact v1,v2⟩
      ·by_cases hj2:j<o+l.length
       ·rw[aaJ,aaG (by simp;omega),aaB (by simp;omega)] at ha;have ha:l[j-o]? =some a:=by rw[←ha];congr 1;simp;omega
        obtain⟨uu,v1,v2⟩:=hl.get ha;refine⟨uu, ?_,v2⟩;have Zp:j-o<u.cells.toList.length:=by
         rcases aaf (j-o) u.cells.toList.length with h'|h'
         ·exact h'
         ·rw[aak h'] at v1;cases v1
        have:=s3 (j-o) Zp;rw[show i' * c.es+j=i' * c.es+o+(j-o) by omega,this];exact v1
       ·rw[aaG (by simp;omega),aax] at ha;have ha:(c.row i')[j]? =some a:=by rw[←ha];congr 1;simp;omega
        obtain⟨uu,v1,v2⟩:=q8 i' M' j a ha;exact⟨uu,by rw[s4 _ (.inr (by rw[x8];omega))];exact v1,v2⟩
     ·rw[u3 i' e];intro j a ha;obtain⟨uu,v1,v2⟩:=q8 i' hi' j a ha;have hj:j<c.es:=by
       have:=c.row_len i';rcases aaf j c.es with h'|h'
       ·exact h'
       ·rw[aak (by omega)] at ha;cases ha
      refine⟨uu, ?_,v2⟩;rw[s4 _ ?_]
      ·exact v1
      ·rw[x8];rcases Nat.lt_or_gt_of_ne e with e|e
       ·left;have:i' * c.es+c.es<=i * c.es:=by rw[←aaL];exact aay _ e
        omega
       ·right;have:i * c.es+c.es<=i' * c.es:=by rw[←aaL];exact aay _ e
        omega
    refine⟨d5,_,z6,d8,by rw[e2];exact B', ?_⟩;have m8:u.cells.size=ii.size:=by rw[←aaI,hl.1];exact hlen
    simp only [Instr.storeAt,Instr.sureAddr,storeVar,aaa,aac,aad,am hi,m8,ne_eq,not_true_eq_false,if_false];exact l8
  |_=>exact(ac hr).elim
 |aptr b g o n i hm hh ho hi0 hi1=>
  obtain⟨ii,hi,hr⟩:=bE hr;obtain⟨m8,hr⟩:=aj hr;have m8:=aF m8;obtain⟨l,cs,c7,e1,b6,hr,hl,hlen,g8,_⟩:=fj (P:=P) hS hG hh ho hr;obtain⟨q,hq,hr⟩:=br hr;obtain⟨r,hy1,hr⟩:=br hr;obtain⟨hk,hr⟩:=aj hr;have hk:=of_decide_eq_true hk;obtain⟨j,ns⟩:=q;obtain⟨j',x⟩:=r;have hk:j=j':=hk;subst hk;obtain⟨q1,q2⟩:=wn hq;have q1:ns.length=l.length:=q1;have hu:=aI hy hy1;subst hu;have Xt:l.length=n:=by have:=hl.1;omega
  let vs:List Value:=(List.range n).map λ(p:Nat)=>Value.int j (R_ (i=(p:Int)) x (ns.getD p 0));have l6:LR ρ (ri j i x 0 ns) vs:=by
   refine⟨by simp [vs,wt];omega,λp a v ha hv=>?_⟩
   rw[tY] at ha
   cases hn:ns[p]? with
   |none=>rw[hn] at ha;cases ha
   |some m=>
    rw[hn] at ha;injection ha with ha;have hp:p<n:=by
     rcases aaf p n with h'|h'
     ·exact h'
     ·rw[aak (by omega)] at hn;cases hn
    simp [vs,hp,List.getD,hn] at hv;rw[←ha, ←hv,aam];exact .sI j _
  obtain⟨a8,w',r1,r2,r3,r4⟩:=fJ (P:=P) b6 (by rw[e1];exact hG) hh ho l6 hr;have M':i.toNat<n:=by omega
  have ad9:∀(p:Nat),p<n->w.cell? ⟨hm.blk,o-hm.shift+p,none⟩=some (.int j (ns.getD p 0)):=λp hp=>by have ha:l[p]? =some l[p]:=aah (by omega);obtain⟨u,u1,u2⟩:=hl.get ha;rw[g8 _ _ u1,aI u2 (q2 _ _ ha)]
  refine⟨a8,w',r1,r2,r3, ?_⟩;have key:=iU (P:=P) (v:=.int j x) (m:=i.toNat) (l6.ones (GU j i x 0 ns)) (λp u hp=>?_) (by simp [vs];exact M') r4 ⟨_,by rw[aam];exact ad9 _ M'⟩
  ·rw[aam] at key;simp only [Instr.storeAt,Instr.sureAddr,storeVar,aaa,aac,aad,am hi,m8];have ec:(Value.int j x).cells= #[.int j x]:=rfl;have ea:(⟨hm.blk,o-hm.shift+i.toNat,none⟩:Addr).add 0=⟨hm.blk,o-hm.shift+i.toNat,none⟩:=rfl;have e1:(#[Value.int j x]:Array Value).size=1:=rfl;simp only [ec,e1,ne_eq,not_true_eq_false,if_false,storeCells,ea,aaa,key,aad];rfl
  ·have hp':p<n:=by
    rcases aaf p n with h'|h'
    ·exact h'
    ·rw[aak (by simp [vs];exact h')] at hp;cases hp
   simp [vs,hp'] at hp;rw[←hp,aam];constructor
   ·intro e;subst e;simp only [R_];rw[if_pos (by omega)]
   ·intro e;rw[ad9 p hp'];simp only [R_,Option.some.injEq,Value.int.injEq,true_and];rw[if_neg (by omega)];simp [List.getD]
 |_=>exact(ac hr).elim
end
end Go.Sym
namespace Go.Sym
open Go.RowKit (Below)
def rj(off:Nat):∀(l:List Value) (j:Nat) (cs:Array Value),off+j+l.length<=cs.size->
 ((l.zipIdx j).foldl (λcs p=>cs.setIfInBounds (off+p.2) p.1) cs).size=cs.size/\
 ∀x,((l.zipIdx j).foldl (λcs p=>cs.setIfInBounds (off+p.2) p.1) cs)[x]? =if off+j<=x/\x<off+j+l.length then l[x-off-j]? else cs[x]? :=by
 intro l
 induction l with
 |nil=>intro j cs _;refine⟨rfl,λx=>?_⟩;simp;intro h1 h2;omega
 |cons a l ih=>
  intro j cs h
  simp only [aaM] at h
  rw[List.zipIdx_cons,List.foldl_cons]
  obtain⟨h1,h2⟩:=ih (j+1) (cs.setIfInBounds (off+j) a) (by simp;omega)
  refine⟨by rw[h1];simp,λx=>?_⟩
  rw[h2 x,aaD]
  simp only [aaM]
  by_cases e:x=off+j
  ·subst e;rw[if_neg (by omega),if_pos rfl,if_pos (by omega),if_pos (by omega)];simp
  ·by_cases e2:off+(j+1)<=x/\x<off+(j+1)+l.length
   ·rw[if_pos e2,if_pos (by omega),show x-off-j=(x-off-(j+1))+1 by omega];simp
   ·rw[if_neg e2,if_neg (by omega),if_neg (by omega)]
section
variable{P:Program}{w0:World}{ρ:Rho}{w:World}{σ:St}{K:Fin}{k:AV->Tr}
def zJ{l cs:List AV}{arr:Array Value}{vs:Array Value}{off:Nat}(hl:LR ρ l arr.toList)(hc:LR ρ cs vs.toList)(hlen:off+cs.length<=l.length):
 LR ρ (cX l off cs) (vs.zipIdx.foldl (λcs (c,j)=>cs.setIfInBounds (off+j) c) arr).toList:=by
 have hn:vs.size=cs.length:=by have:=hc.1;simpa using this
 have hm:arr.size=l.length:=by have:=hl.1;simpa using this
 have e:vs.zipIdx.foldl (λcs (c,j)=>cs.setIfInBounds (off+j) c) arr=(vs.toList.zipIdx 0).foldl (λcs p=>cs.setIfInBounds (off+p.2) p.1) arr:=by rw[←Array.foldl_toList,Array.toList_zipIdx]
 rw[e]
 obtain⟨h1,h2⟩:=rj off vs.toList 0 arr (by simp [hn,hm];omega)
 have Z2:(cX l off cs).length=l.length:=by simp [cX];omega
 refine⟨by rw[Z2];simp [h1,hm],λi a v ha hv=>?_⟩
 have hv:((vs.toList.zipIdx 0).foldl (λcs p=>cs.setIfInBounds (off+p.2) p.1) arr)[i]? =some v:=by simpa using hv
 rw[h2 i] at hv
 have hi:i<l.length:=by
  rcases aaf i l.length with h'|h'
  ·exact h'
  ·rw[aak (by rw[Z2];exact h')] at ha;cases ha
 have hvl:vs.toList.length=cs.length:=by simp [hn]
 rw[hvl] at hv
 by_cases c1:i<off
 ·rw[if_neg (by omega)] at hv;have:(cX l off cs)[i]? =l[i]? :=by unfold cX;rw[aaJ,aaB (by simp;omega),aaV,if_pos c1]
  rw[this] at ha;exact hl.2 i a v ha (by simpa using hv)
 ·by_cases c2:i<off+cs.length
  ·rw[if_pos (by omega)] at hv;have:(cX l off cs)[i]? =cs[i-off]? :=by unfold cX;rw[aaJ,aaG (by simp;omega),aaB (by simp;omega)];congr 1;simp;omega
   rw[this] at ha;exact hc.2 (i-off) a v ha (by simpa using hv)
  ·rw[if_neg (by omega)] at hv;have:(cX l off cs)[i]? =l[i]? :=by unfold cX;rw[aaG (by simp;omega)];rw[aax];congr 1;simp;omega
   rw[this] at ha;exact hl.2 i a v ha (by simpa using hv)
def GW{place:Nat->Option (Nat×Nat)}:∀(parts:List (Nat×AV)) (ps:List (Nat×Value)) (cells:List AV) (arr:Array Value) (k:List AV->Tr),parts.map (·.1)=ps.map (·.1)->LR ρ (parts.map (·.2)) (ps.map (·.2))->LR ρ cells arr.toList->
 run (vP place cells parts k) σ K=true->∃l l7,run (k l) σ K=true/\LR ρ l l7.toList/\Instr.fill place arr ps=some l7:=by
 intro parts
 induction parts with
 |nil=>
  intro ps cells arr k h1 h2 hl h
  have:ps= []:=by cases ps <;> simp at h1⊢
  subst this
  exact⟨cells,arr,h,hl,rfl⟩
 |cons p parts ih=>
  intro ps cells arr k h1 h2 hl h
  cases ps with
  |nil=>simp at h1
  |cons q ps=>
   simp only [aaw,List.cons.injEq] at h1
   obtain⟨h1a,h1b⟩:=h1
   simp only [aaw] at h2
   obtain⟨v,o7,e,hv,h2'⟩:=h2.cons_inv
   injection e with e1 e2
   subst e1;subst e2
   have h:run (bS (place p.1) .fail λq=>eV p.2 λcs=>aa (Nat.beq cs.length q.2) (aa (Nat.ble (q.1+q.2) cells.length) (eX (cX cells q.1 cs) λcells=>vP place cells parts k) .fail) .fail) σ K=true:=h
   obtain⟨pl,hpl,h⟩:=br h
   obtain⟨cs,Xz,h⟩:=fi hv h
   obtain⟨XL,h⟩:=aj h
   obtain⟨XA,h⟩:=aj h
   have XL:=aF XL
   have XA:=aU XA
   have hn:q.2.cells.size=cs.length:=by have:=Xz.1;simpa using this
   have hm:arr.size=cells.length:=by have:=hl.1;simpa using this
   obtain⟨l,l7,r1,r2,r3⟩:=ih ps _ _ k h1b h2' (zJ (off:=pl.1) hl Xz (by omega)) (eO h)
   refine⟨l,l7,r1,r2, ?_⟩
   obtain⟨qi,qv⟩:=q
   obtain⟨off,size⟩:=pl
   simp only at h1a XL XA hn⊢
   simp only [Instr.fill, ←h1a,hpl]
   rw[if_neg]
   ·exact r3
   ·simp;omega
def zK(fs:Array Field)(h:nV P fs=true):∃pl:Array (Nat×Nat),(fs.mapM λf=>do pure (f.offset, ←sizeOf f.type):Sem (Array (Nat×Nat))).run P w= .ok pl w/\∀i,pl[i]? =tH P fs i:=by
 refine⟨(fs.toList.map λf=>(f.offset,((P.info? f.type).map (·.size)).getD 0)).toArray, ?_,λi=>?_⟩
 ·rw[Array.mapM_eq_mapM_toList,Sem.run_map];have key:∀l:List Field,(∀f∈l,(P.info? f.type).isSome=true)->(l.mapM λf=>do pure (f.offset, ←sizeOf f.type):Sem (List (Nat×Nat))).run P w= .ok (l.map λf=>(f.offset,((P.info? f.type).map (·.size)).getD 0)) w:=by
   intro l
   induction l with
   |nil=>intro _;rfl
   |cons f l ih=>
    intro hl
    have hf:=hl f (by simp)
    cases hi:P.info? f.type with
    |none=>rw[hi] at hf;cases hf
    |some i=>rw[List.mapM_cons];simp only [aaa,am hi,aad,aac,ih (λx hx=>hl x (by simp [hx]))];simp [hi]
  rw[key fs.toList (λf hf=>by simp only [nV,abj] at h;exact h f hf)];rfl
 ·simp only [tH,Zu,aaE,aaP]
  cases hf:fs[i]? with
  |none=>rfl
  |some f=>
   simp only [aaQ]
   have:(P.info? f.type).isSome=true:=by simp only [nV,abj] at h;exact h f (Zv (by simpa using hf))
   cases hi:P.info? f.type with
   |none=>rw[hi] at this;cases this
   |some x=>rfl
def GX{t:TypeId}{parts:List (Nat×AV)}{ps:Array (Nat×Value)}(hS:SI σ)(hG:Good w0 ρ σ.h w)(h1:parts.map (·.1)=ps.toList.map (·.1))(h2:LR ρ (parts.map (·.2)) (ps.toList.map (·.2)))(h:run (Gi P t parts k) σ K=true):Res P w0 ρ w k K (Instr.build t ps):=by
 obtain⟨z,zv,i,hi,hz,WN,h⟩:=j_ ρ w h
 obtain⟨d,hu,h⟩:=bp h
 cases d with
 |struct fs=>
  obtain⟨hs,h⟩:=aj h
  obtain⟨zl,ZF,h⟩:=fi WN h
  obtain⟨l,arr,r1,r2,r3⟩:=GW parts ps.toList zl zv.cells _ h1 h2 ZF h
  obtain⟨pl,p1,p2⟩:=zK (P:=P) (w:=w) fs hs
  refine .plain r1 hS hG (VR.agg l arr r2.arr.1 r2.arr.2) ?_
  have e:(λx=>pl[x]?)=tH P fs:=funext p2
  simp only [Instr.build,aaa,hz,aad,run_underlying hu,p1]
  rw[e,r3]
  rfl
 |array n e=>
  obtain⟨j,hj,h⟩:=bE h
  obtain⟨zl,ZF,h⟩:=fi WN h
  obtain⟨l,arr,r1,r2,r3⟩:=GW parts ps.toList zl zv.cells _ h1 h2 ZF h
  refine .plain r1 hS hG (VR.agg l arr r2.arr.1 r2.arr.2) ?_
  simp only [Instr.build,aaa,hz,aad,run_underlying hu,am hj]
  rw[r3]
  rfl
 |_=>exact(ac h).elim
def pc(z:List AV)(n:Nat):(cO z n).length=n * z.length:=by
 induction n with
 |zero=>simp [cO]
 |succ n ih=>simp [cO,ih,aaL];omega
def rV{z:List AV}{zv:Array Value}(hz:LR ρ z zv.toList)(i4:1<=z.length)(n:Nat):LR ρ (cO z n) ((Array.range (n * z.length)).map λi=>zv[i%zv.size]!).toList:=by
 have hs:zv.size=z.length:=by have:=hz.1;simpa using this
 refine⟨by simp [pc],λi a v ha hv=>?_⟩;have hi:i<n * z.length:=by
  rcases aaf i (n * z.length) with h'|h'
  ·exact h'
  ·rw[aak (by rw[pc];exact h')] at ha;cases ha
 have key:∀(n i:Nat),i<n * z.length->(cO z n)[i]? =z[i%z.length]? :=by
  intro n
  induction n with
  |zero=>intro i hi;simp at hi
  |succ n ih=>
   intro i hi;simp only [cO];by_cases c:i<z.length
   ·rw[aaB c,abc c]
   ·rw[aaG (by omega),ih _ (by rw[aaL] at hi;omega)];congr 1;rw[Nat.mod_eq_sub_mod (by omega:i≥z.length)]
 rw[key n i hi] at ha;have hv:zv[i%zv.size]! =v:=by simp [hi] at hv;exact hv
 have c8:i%zv.size<zv.size:=Nat.mod_lt _ (by omega);refine hz.2 (i%z.length) a v ha ?_;rw[←hs];simp only [aaP];rw[←hv,getElem!_pos zv _ c8,aaK c8]
def rk{t:TypeId}{len:Nat}{parts:List (Nat×AV)}{ps:Array (Nat×Value)}(hS:SI σ)(hG:Good w0 ρ σ.h w)(h1:parts.map (·.1)=ps.toList.map (·.1))(h2:LR ρ (parts.map (·.2)) (ps.toList.map (·.2)))(h:run (nk P t len parts k) σ K=true):Res P w0 ρ w k K (Instr.buildSlice t len ps):=by
 obtain⟨d,hu,h⟩:=bp h
 cases d with
 |slice e=>
  obtain⟨j,hj,h⟩:=bE h
  obtain⟨hb,h⟩:=aj h
  obtain⟨XL,h⟩:=aj h
  have hb:=aU hb
  have XL:=aU XL
  obtain⟨z,zv,i,hi,hz,WN,h⟩:=j_ ρ w h
  obtain⟨zl,ZF,h⟩:=fi WN h
  obtain⟨XA,h⟩:=aj h
  have XA:=aF XA
  have YX:=rV ZF (by omega) len
  rw[XA] at YX
  obtain⟨zero,b7,ad_⟩:∃zero:Array Value,(if len * j.size=0 then pure #[] else do pure (←zeroValue e).cells:Sem (Array Value)).run P w= .ok zero w/\LR ρ (cO zl len) ((Array.range (len * j.size)).map λi=>zero[i%zero.size]!).toList:=by
   by_cases e0:len * j.size=0
   ·have:len=0:=by
     rcases Nat.mul_eq_zero.mp e0 with h'|h'
     ·exact h'
     ·omega
    subst this;refine⟨#[],by rw[if_pos e0];rfl, ?_⟩;simp [cO];exact LR.nil ρ
   ·exact⟨zv.cells,by rw[if_neg e0];simp [hz],YX⟩
  obtain⟨l,arr,r1,r2,r3⟩:=GW parts ps.toList (cO zl len) _ _ h1 h2 ad_ h
  obtain⟨q1,q2⟩:=LR.to_arr r2
  obtain⟨b,a8,h5,j7,hle,g9⟩:=jx arr e hS hG q1 q2 r1
  refine⟨_,a8,_,_,_,h5,j7,g9,hle,VR.slc b 0 0 len (some len) j.size _ len ⟨aab _,rfl,_,Rho.put_at _ _ _ _,aan _,rfl⟩, ?_⟩
  simp only [Instr.buildSlice,aaa,run_underlying hu,aad,am hj]
  rw[if_neg (by omega)]
  by_cases e0:len * j.size=0
  ·rw[if_pos e0] at b7⊢;rw[aaa,b7];simp only [aad,r3];simp [newRow]
  ·rw[if_neg e0] at b7⊢;have XB:zv.cells=zero:=by simpa [hz] using b7
   subst XB;simp only [aaa,hz,aad,aac,r3];simp [newRow]
 |_=>exact(ac h).elim
end
end Go.Sym
namespace Go.Sym
open Go.RowKit (Below)
def aB{α β:Type}{o:Option α}{k:α->Option β}{b:β}(h:bi o k=some b):∃a,o=some a/\k a=some b:=by
 cases o with
 |none=>cases h
 |some a=>exact⟨a,rfl,h⟩
def aR{α:Type}{c:Bool}{o:Option α}{b:α}(h:aa c o none=some b):c=true/\o=some b:=by
 cases c with
 |true=>exact⟨rfl,h⟩
 |false=>cases h
def Pt{α:Type}{c:Bool}{o:Option α}{b:α}(h:aa c none o=some b):c=false/\o=some b:=by
 cases c with
 |false=>exact⟨rfl,h⟩
 |true=>cases h
def lz{α β:Type}{t:T α}{n:Nat}{k:α->Option β}{b:β}(h:T.getK t n none k=some b):∃a,t.get n=some a/\k a=some b:=by
 rw[T.getK_eq] at h;split at h
 ·cases h
 ·exact⟨_,by assumption,h⟩
def pd{c:T Cell}{g:Nat}:∀{n o:Nat} {l:List AV},KZ c g n o=some l->l.length=n/\∀(j:Nat) (a:AV),l[j]? =some a->∃tag,c.get (o+j)=some (.mk tag a)/\tag<=g:=by
 intro n
 induction n with
 |zero=>intro o l h;injection h with h;subst h;exact⟨rfl,by simp⟩
 |succ n ih=>
  intro o l h
  replace h:=lz h;obtain⟨x,hx,h⟩:=h
  cases x with
  |mk tag v=>
   replace h:=aR h;obtain⟨ht,h⟩:=h
   rw[eG] at h
   obtain⟨l',h1,h2⟩:=aB h
   injection h2 with h2
   subst h2
   obtain⟨q1,q2⟩:=ih h1
   refine⟨by simp [q1],λj a ha=>?_⟩
   cases j with
   |zero=>simp at ha;subst ha;exact⟨tag,hx,aau ht⟩
   |succ j=>simp at ha;obtain⟨Xr,r1,r2⟩:=q2 j a ha;exact⟨Xr,by rw[←r1];congr 1;omega,r2⟩
def gW{ρ:Rho}{B b g:Nat}{w:World}{ct:Ct}{v:Value}(hb:BR ρ B w b (.froz ct g))(hv:VR ρ (.gsl b g ct.len ct.es) v):VR ρ (.cv ct) v:=by
 generalize Xk:ct.len=nn at hv
 generalize hee:ct.es=ee at hv
 cases hv with
 |gnil _ _ _=>exact .cvnil _ Xk
 |gempty _ _ _ a=>exact .cvempty _ a Xk
 |gsl _ _ _ _ h c hn hh hs hc hz=>
  subst Xk;subst hee;rcases hb with h0|⟨h',arr,ty,r1,r2,r3,r4,r5⟩
  ·omega
  rw[hh] at r1;injection r1 with r1;subst r1;refine .cv ct h.blk 0 c arr ty r3 hc (by omega) λi j a v hi ha hv=>?_;obtain⟨u,u1,u2⟩:=r5 i hi j a ha;rw[aam,u1] at hv;injection hv with hv;subst hv;exact u2
section
variable{P:Program}{w0:World}{ρ:Rho}{w:World}{σ:St}{K:Fin}
def Good.none_new{H:T ABlk}(hG:Good w0 ρ H w){n:Nat}(hn:H.get n=none)(d4:n+1<2 ^ 64){ct:Ct}{g ty:Nat}(h0:ct.len=0):Good w0 ρ (H.set n (.grow ct g ty)) w:=by
 have j6:∀g h,ρ.at_ n g≠some h:=λg h hh=>by obtain⟨_,X,hX⟩:=hG.dom _ _ _ hh;rw[hn] at hX;cases hX
 refine⟨⟨hG.below,λb X hX=>?_,λb g h hh=>?_,hG.inj,λb g h X hh hX=>?_,λb arr ty hf=>⟨(hG.frz b arr ty hf).1,λb' g' h hh e=>?_⟩,hG.frzB,λb k I l hX g h hh=>?_⟩,hG.ownB⟩
 ·by_cases e:b=n
  ·subst e;rw[T.get_set_same _ _ _ d4] at hX;injection hX with hX;subst hX;exact .inl h0
  ·rw[T.get_set_ne _ e] at hX;exact hG.blk _ _ hX
 ·obtain⟨q1,X,q2⟩:=hG.dom _ _ _ hh;refine⟨q1,X, ?_⟩;rw[T.get_set_ne _ (λe=>by subst e;exact j6 _ _ hh)];exact q2
 ·rw[T.get_set_ne _ (λe=>by subst e;exact j6 _ _ hh)] at hX;exact hG.gens _ _ _ _ hh hX
 ·obtain⟨X,q1,q2⟩:=(hG.frz b arr ty hf).2 _ _ _ hh e;exact⟨X,by rw[T.get_set_ne _ (λe=>by subst e;exact j6 _ _ hh)];exact q1,q2⟩
 ·rw[T.get_set_ne _ (λe=>by subst e;exact j6 _ _ hh)] at hX;exact hG.objO _ _ _ _ hX _ _ hh
def gu{b:Nat}:∀{loc:List (Nat×Nat×Nat)} {x:Nat×Nat×Nat},x∈loc->x.2.1=b->iL b loc=false:=by
 intro loc
 induction loc with
 |nil=>intro x h;cases h
 |cons z l ih=>
  intro x h e;show aa (Nat.beq z.2.1 b) false (iL b l)=false;rw[ak];split
  ·rfl
  ·rename_i hz;rcases List.mem_cons.1 h with h|h
   ·subst h;exact absurd (by rw[e];exact abl _) hz
   ·exact ih h e
def Stays(loc:List (Nat×Nat×Nat))(H H':T ABlk):Prop:=∀b X,(∃x,x∈loc/\x.2.1=b)->H.get b=some X->H'.get b=some X
def Stays.refl(loc:List (Nat×Nat×Nat))(H:T ABlk):Stays loc H H:=λ_ _ _ h=>h
def Stays.trans{loc:List (Nat×Nat×Nat)}{a b c:T ABlk}(h:Stays loc a b)(h':Stays loc b c):Stays loc a c:=λx X q r=>h' x X q (h x X q r)
def BG{loc:List (Nat×Nat×Nat)}{b g o len es:Nat}{cap:Option Nat}{rows:Nat->List AV->(Ct->Nat->Tr)->Tr}{k:Ct->Nat->Tr}(hS:SI σ)(hG:Good w0 ρ σ.h w)(Xl:∀(XC:Nat) (as:List AV) (kk:Ct->Nat->Tr) (a8:St),run (rows XC as kk) a8 K=true->∃ct ty,run (kk ct ty) a8 K=true/\(as.length=ct.len * ct.es->∀i,i<ct.len->∀(ρ:Rho) (vs:List Value),LR ρ ((as.drop (i * ct.es)).take ct.es) vs->LR ρ (ct.row i) vs))(h:run (K9 loc b g o len cap es rows k) σ K=true):
 ∃ct ty c7,run (k ct ty) c7 K=true/\SI c7/\c7.h=σ.h/\b+1<2 ^ 64/\iL b loc=true/\ct.len=len/\ct.es=es/\Good w0 ρ (σ.h.set b (.grow ct g ty)) w/\∀ρ2,ρ.le ρ2->∀v,VR ρ2 (.slc b g o len cap es) v->VR ρ2 (.gsl b g len es) v:=by
 have d4:=cy hS h
 obtain⟨q,c7,hq,e1,b6,z0⟩:=aT hS h
 cases q with
 |cells c gen lo hi fl fh ro ty=>
  obtain⟨k0,z1⟩:=kB z0
  obtain⟨k1,z2⟩:=aj z1
  obtain⟨k2,z3⟩:=aj z2
  obtain⟨k3,z4⟩:=aj z3
  obtain⟨k4,z5⟩:=aj z4
  obtain⟨k5,z6⟩:=aj z5
  obtain⟨k6,z7⟩:=aj z6
  obtain⟨k7,z8⟩:=aj z7
  obtain⟨k8,z9⟩:=aj z8
  clear z0 z1 z2 z3 z4 z5 z6 z7 z8 h
  obtain⟨as,hl,za⟩:=br z9
  obtain⟨ct,Ww,zb,hct⟩:=Xl _ _ _ _ za
  obtain⟨k9,zc⟩:=aj zb
  obtain⟨Z3,zd⟩:=aj zc
  obtain⟨k11,ze⟩:=aJ zd
  clear za zb zc zd z9
  have k1:=aF k1
  have k2:=aF k2
  have k3:=aF k3
  have k4:=aF k4
  have k5:=aF k5
  have k6:=aF k6
  have k7:=aU k7
  obtain⟨k8a,k8⟩:=az k8
  obtain⟨k8c,k8b⟩:=az k8
  have k8c:=aU k8c
  have k8b:=aU k8b
  have k9:=aF k9
  have Z3:=aF Z3
  subst k0 k1 k2 k3 k4 k6 k9
  obtain⟨hm,r1,r2,_,arr,fr,r3,r4,r5,r6⟩:=(hG.blk _ _ hq).2 gen (aab _)
  obtain⟨l1,l2⟩:=pd hl
  have g8:∀j,j<jX cap len * es->∃a u,as[j]? =some a/\arr[j-hm.shift]? =some u/\VR ρ a u/\hm.shift<=j:=λj hj=>by have ha:as[j]? =some (as[j]'(by omega)):=aah (by omega);obtain⟨tag,t1,t2⟩:=l2 j _ ha;rw[aam] at t1;obtain⟨s1,u,s2,s3⟩:=r6 _ _ _ t1 t2;exact⟨_,u,ha,s2,s3,s1⟩
  have hle:len * es<=jX cap len * es:=aay _ k8b
  have ae0:(as.take (len * es)).length=ct.len * ct.es:=by rw[aar,l1,Z3,k11];omega
  have hzp:0<jX cap len * es:=Nat.mul_pos (by omega) k8c
  have w8:hm.shift=0:=by obtain⟨a,u,_,_,_,q⟩:=g8 0 hzp;omega
  have d9:Good w0 ρ (σ.h.set b (.grow ct gen ty)) w:=by
   refine hG.turn (hrs:=⟨b,gen,hm,r1,rfl⟩) hq d4 hm.blk (r2 rfl) (Kept.refl _ _ _) (aab _) (λ_ _ _=>rfl) (λb' g' h' g7 e'=>(hG.inj _ _ _ _ _ _ g7 r1 e').1) (.inr ⟨hm,r1,w8,r2 rfl,arr,fr,r3,r4, ?_,λx hx h1 h2=>?_,λi hi j a ha=>?_⟩)
   ·rw[Z3,k11];obtain⟨a,u,_,hu,_⟩:=g8 (jX cap len * es-1) (by omega);rcases aaf (jX cap len * es-1-hm.shift) arr.size with h'|h'
    ·omega
    ·rw[aaN h'] at hu;cases hu
   ·have:=(r5 rfl).2 x (.inl hx) h1 h2;omega
   ·have WI:i * ct.es+ct.es<=ct.len * ct.es:=by rw[←aaL];exact aay _ hi
    rw[Z3,k11] at WI;have Xe:∀q a0,(((as.take (len * es)).drop (i * ct.es)).take ct.es)[q]? =some a0->∃u,arr[i * ct.es+q]? =some u/\VR ρ a0 u:=λq a0 hq=>by
     rw[aaV] at hq;split at hq
     ·rename_i hqe;rw[aax,aav (by rw[Z3] at hqe⊢;omega)] at hq;obtain⟨a1,u,f1,f2,f3,_⟩:=g8 (i * ct.es+q) (by rw[Z3] at hqe⊢;omega);rw[hq] at f1;injection f1 with f1;subst f1;rw[w8,abm] at f2;exact⟨u,f2,f3⟩
     ·cases hq
    exact lu (A:=λq=>arr[i * ct.es+q]?) Xe (λvs=>hct ae0 i hi ρ vs) j a ha
  refine⟨ct,ty,c7,ze,b6,e1,d4,k8a,k11,Z3,d9,λρ2 i5 v hv=>?_⟩
  ·cases hv with
   |slc _ _ _ _ _ _ ad cp t8=>
    obtain⟨Wz,O'⟩:=t8
    cases cap with
    |some kc=>
     obtain⟨ek,h',x1,x2,x3⟩:=O';rw[i5.at_ _ _ _ r1] at x1;injection x1 with x1;subst x1;subst x3;rw[w8];refine .gsl _ _ _ _ hm cp (by omega) (i5.at_ _ _ _ r1) w8 Wz ?_;rw[ek];obtain⟨a,u,_,hu,_⟩:=g8 (jX (some kc) len * es-1) (by omega);rw[←r4];rcases aaf (jX (some kc) len * es-1-hm.shift) arr.size with h'|h'
     ·show kc * es<=arr.size;have:jX (some kc) len=kc:=rfl;rw[this] at h' hzp;omega
     ·rw[aaN h'] at hu;cases hu
    |none=>
     rcases O' with O'|⟨h',x1,x2,x3,x4⟩
     ·omega
     ·rw[i5.at_ _ _ _ r1] at x1;injection x1 with x1;subst x1;subst x3;rw[w8];exact .gsl _ _ _ _ hm cp (by omega) (i5.at_ _ _ _ r1) w8 Wz (by omega)
 |_=>exact(ac z0).elim
def da{loc:List (Nat×Nat×Nat)}{b g o len es:Nat}{cap:Option Nat}{rows:Nat->List AV->(Ct->Nat->Tr)->Tr}{k:AV->Tr}(hS:SI σ)(hG:Good w0 ρ σ.h w)(Xl:∀(XC:Nat) (as:List AV) (kk:Ct->Nat->Tr) (a8:St),run (rows XC as kk) a8 K=true->∃ct ty,run (kk ct ty) a8 K=true/\(as.length=ct.len * ct.es->∀i,i<ct.len->∀(ρ:Rho) (vs:List Value),LR ρ ((as.drop (i * ct.es)).take ct.es) vs->LR ρ (ct.row i) vs))(h:run (my loc b g o len cap es rows k) σ K=true):
 ∃a8,run (k (.gsl b g len es)) a8 K=true/\SI a8/\Good w0 ρ a8.h w/\Stays loc σ.h a8.h/\∀ρ2,ρ.le ρ2->∀v,VR ρ2 (.slc b g o len cap es) v->VR ρ2 (.gsl b g len es) v:=by
 obtain⟨ct,ty,c7,h1,b6,e1,d4,k8a,_,_,d9,hv⟩:=BG hS hG Xl h
 obtain⟨x0,d5,A',e2,d8,_,z⟩:=cr b6 h1
 refine⟨d5,z,d8,by rw[e2,e1];exact d9,λb' X hf hX=>?_,hv⟩
 obtain⟨x,x9,p7⟩:=hf
 rw[e2,T.get_set_ne _ (λe=>by subst e;rw[gu x9 p7] at k8a;cases k8a),e1];exact hX
def Good.freeze{H:T ABlk}(hG:Good w0 ρ H w){b g ty:Nat}{c:Ct}(hb:H.get b=some (.grow c g ty))(d4:b+1<2 ^ 64)(Yy:base+64<=b):
 ∃ρ':Rho,ρ.le ρ'/\Good w0 ρ' (H.set b (.froz c g)) w/\∀ρ2,ρ'.le ρ2->∀v,VR ρ2 (.gsl b g c.len c.es) v->VR ρ2 (.cv c) v:=by
 have i3:(H.set b (.froz c g)).get b=some (.froz c g):=T.get_set_same _ _ _ d4
 have ae1:∀b' g' h,ρ.at_ b' g'=some h->h.blk<w.heap.size/\∃x,(H.set b (.froz c g)).get b'=some x:=λb' g' h hh=>by
  obtain⟨q1,X,q2⟩:=hG.dom _ _ _ hh;refine⟨q1, ?_⟩;by_cases e:b'=b
  ·subst e;exact⟨_,i3⟩
  ·exact⟨X,by rw[T.get_set_ne _ e];exact q2⟩
 have Z4:∀b' g' h X,ρ.at_ b' g'=some h->(H.set b (.froz c g)).get b'=some X->F6 g' X:=λb' g' h X hh hX=>by
  by_cases e:b'=b
  ·subst e;rw[i3] at hX;injection hX with hX;subst hX;have:=hG.gens _ _ _ _ hh hb;exact(this:g'<=g)
  ·rw[T.get_set_ne _ e] at hX;exact hG.gens _ _ _ _ hh hX
 have Z5:∀b0 arr ty,ρ.frz b0=some (arr,ty)->∀b' g' h,ρ.at_ b' g'=some h->h.blk=b0->∃x,(H.set b (.froz c g)).get b'=some x/\tz x:=λb0 arr ty hf b' g' h hh e=>by
  by_cases e':b'=b
  ·subst e';exact⟨_,i3,trivial⟩
  ·obtain⟨X,q1,q2⟩:=(hG.frz _ _ _ hf).2 _ _ _ hh e;exact⟨X,by rw[T.get_set_ne _ e'];exact q1,q2⟩
 have WA:∀b' k I l,(H.set b (.froz c g)).get b'=some (.obj k I l)->∀g' h,ρ.at_ b' g'=some h->Own ρ w0.heap.size h.blk/\(g'=0∨g'=h.blk+1):=λb' k I l hX g' h hh=>by
  by_cases e:b'=b
  ·subst e;rw[i3] at hX;injection hX with hX;cases hX
  ·rw[T.get_set_ne _ e] at hX;exact hG.objO _ _ _ _ hX _ _ hh
 rcases hG.blk _ _ hb with h0|⟨h,r1,r2,r3,arr,fr,r4,r5,r6,r7,r8⟩
 ·refine⟨ρ,.refl _,⟨⟨hG.below,λb' X hX=>?_,ae1,hG.inj,Z4,λb0 arr ty hf=>⟨(hG.frz _ _ _ hf).1,Z5 _ _ _ hf⟩,hG.frzB,WA⟩,hG.ownB⟩,λρ2 _ v hv=>gW (B:=w0.heap.size) (w:=w) (.inl h0) hv⟩;by_cases e:b'=b
  ·subst e;rw[i3] at hX;injection hX with hX;subst hX;exact .inl h0
  ·rw[T.get_set_ne _ e] at hX;exact hG.blk _ _ hX
 ·let ρ':Rho:=⟨ρ.at_,ρ.val,ρ.own,λx=>if x=h.blk then some (arr,ty) else ρ.frz x,ρ.frz0⟩
  have hnf:ρ.frz h.blk=none:=by
   cases hf:ρ.frz h.blk with
   |none=>rfl
   |some x=>exact absurd rfl (hG.frzE (show ρ.frz h.blk=some (x.1,x.2) from hf) r1 hb (λh=>h))
  have hle:ρ.le ρ':=⟨λ_ _ _ h=>h,rfl,rfl,λb0 x hx=>by show(if b0=h.blk then some (arr,ty) else ρ.frz b0)=some x;rw[if_neg (λe=>by subst e;rw[hnf] at hx;cases hx)];exact hx,rfl⟩
  have hbr:BR ρ' w0.heap.size w b (.froz c g):=.inr ⟨h,arr,ty,r1,r2,if_pos rfl,by omega,λi hi j a ha=>by obtain⟨u,u1,u2⟩:=r8 i hi j a ha;exact⟨u,u1,u2.mono hle⟩⟩;refine⟨ρ',hle,⟨⟨hG.below,λb' X hX=>?_,ae1,hG.inj,Z4,λb0 l7 Ww hf=>?_,λb0 x hf c8=>?_,WA⟩,hG.ownB⟩,λρ2 i5 v hv=>gW (hbr.keep (w':=w) i5 λ_ _ _=>rfl) hv⟩
  ·by_cases e:b'=b
   ·subst e;rw[i3] at hX;injection hX with hX;subst hX;exact hbr
   ·rw[T.get_set_ne _ e] at hX;exact(hG.blk _ _ hX).keep hle λ_ _ _=>rfl
  ·have hf:(if b0=h.blk then some (arr,ty) else ρ.frz b0)=some (l7,Ww):=hf;split at hf
   ·rename_i e0;injection hf with hf;injection hf with e1 e2;subst e0;subst e1;subst e2;refine⟨⟨fr,r4⟩,λb' g' h' hh e=>?_⟩;have:=(hG.inj _ _ _ _ _ _ hh r1 e).1;subst this;exact⟨_,i3,trivial⟩
   ·exact⟨(hG.frz _ _ _ hf).1,Z5 _ _ _ hf⟩
  ·have hf:(if b0=h.blk then some (arr,ty) else ρ.frz b0)=some x:=hf;split at hf
   ·rename_i e0;subst e0;rcases r3 with r3|r3
    ·omega
    ·obtain⟨b1,g1,h1,q1,q2,q3⟩:=hG.ownB _ r3;have:=(hG.inj _ _ _ _ _ _ q2 r1 q3).1;omega
   ·exact hG.frzB _ _ hf c8
def Good.none_turn{H:T ABlk}(hG:Good w0 ρ H w){b:Nat}{x0:ABlk}(hb:H.get b=some x0)(d4:b+1<2 ^ 64){ct:Ct}{g ty:Nat}(h0:ct.len=0)(WH:∀g',F6 g' x0->g'<=g)(hnf:¬tz x0):Good w0 ρ (H.set b (.grow ct g ty)) w:=by
 have i3:(H.set b (.grow ct g ty)).get b=some (.grow ct g ty):=T.get_set_same _ _ _ d4;refine⟨⟨hG.below,λb' X hX=>?_,λb' g' h hh=>?_,hG.inj,λb' g' h X hh hX=>?_,λb0 arr ty hf=>⟨(hG.frz b0 arr ty hf).1,λb' g' h hh e=>?_⟩,hG.frzB,λb' k I l hX g' h hh=>?_⟩,hG.ownB⟩
 ·by_cases e:b'=b
  ·subst e;rw[i3] at hX;injection hX with hX;subst hX;exact .inl h0
  ·rw[T.get_set_ne _ e] at hX;exact hG.blk _ _ hX
 ·obtain⟨q1,X,q2⟩:=hG.dom _ _ _ hh;refine⟨q1, ?_⟩;by_cases e:b'=b
  ·subst e;exact⟨_,i3⟩
  ·exact⟨X,by rw[T.get_set_ne _ e];exact q2⟩
 ·by_cases e:b'=b
  ·subst e;rw[i3] at hX;injection hX with hX;subst hX;exact WH _ (hG.gens _ _ _ _ hh hb)
  ·rw[T.get_set_ne _ e] at hX;exact hG.gens _ _ _ _ hh hX
 ·obtain⟨X,q1,q2⟩:=(hG.frz b0 arr ty hf).2 _ _ _ hh e;exact⟨X,by rw[T.get_set_ne _ (λe=>by subst e;rw[hb] at q1;injection q1 with q1;subst q1;exact hnf q2)];exact q1,q2⟩
 ·by_cases e:b'=b
  ·subst e;rw[i3] at hX;injection hX with hX;cases hX
  ·rw[T.get_set_ne _ e] at hX;exact hG.objO _ _ _ _ hX _ _ hh
def iV:∀(XC:Nat) (as:List AV) (kk:Ct->Nat->Tr) (a8:St),run (oQ XC as kk) a8 K=true->
 ∃ct ty,run (kk ct ty) a8 K=true/\(as.length=ct.len * ct.es->∀i,i<ct.len->∀(ρ:Rho) (vs:List Value),LR ρ ((as.drop (i * ct.es)).take ct.es) vs->LR ρ (ct.row i) vs):=by
 intro XC as kk a8 h
 replace h:=br h;obtain⟨ns,hq,h⟩:=h
 replace h:=aJ h;obtain⟨Xk,h⟩:=h
 obtain⟨f1,f2⟩:=ls _ _ hq
 refine⟨_,_,h,λhlen i hi ρ vs l6=>?_⟩
 have hal:as.length=(aN ns).length:=by rw[bV,f1]
 have hi:i<(aN ns).length:=hi
 have Z6:i<as.length:=by omega
 have hd:(as.drop (i * 1)).take 1= [as[i]]:=by rw[aaC,aba Z6];rfl
 have l6:LR ρ ((as.drop (i * 1)).take 1) vs:=l6
 rw[hd] at l6
 refine l6.one λv hv=>?_
 obtain⟨n',q1,q2⟩:=f2 i as[i] (aah Z6)
 obtain⟨q3,q4⟩:=gV _ _ _ Xk q1
 rw[aI hv q2,aai,q3]
 show VR ρ (.sI .u8 ((n'.toNat:Nat):Int)) _
 rw[show((n'.toNat:Nat):Int)=n' by omega]
 exact .sI _ _
def gw{m len:Nat}:∀(XC:Nat) (as:List AV) (kk:Ct->Nat->Tr) (a8:St),run (oP m len XC as kk) a8 K=true->
 ∃ct ty,run (kk ct ty) a8 K=true/\(as.length=ct.len * ct.es->∀i,i<ct.len->∀(ρ:Rho) (vs:List Value),LR ρ ((as.drop (i * ct.es)).take ct.es) vs->LR ρ (ct.row i) vs):=by
 intro XC as kk a8 h
 replace h:=br h;obtain⟨q,hq,h⟩:=h
 split at h
 ·rename_i gs;obtain⟨c1,f1,f2,f3,f4⟩:=fH _ _ _ _ hq;have f1:as=c1:=by simpa using f1
  subst f1;exact⟨_,_,h,λhlen i hi ρ vs=>f4 i (by rw[←f3];exact hi) ρ vs⟩
 ·exact(ac h).elim
def zL{e:TypeId}{len:Nat}{rows:Nat->List AV->(Ct->Nat->Tr)->Tr}(hr:nW P e len=some rows):∀(XC:Nat) (as:List AV) (kk:Ct->Nat->Tr) (a8:St),run (rows XC as kk) a8 K=true->
 ∃ct ty,run (kk ct ty) a8 K=true/\(as.length=ct.len * ct.es->∀i,i<ct.len->∀(ρ:Rho) (vs:List Value),LR ρ ((as.drop (i * ct.es)).take ct.es) vs->LR ρ (ct.row i) vs):=by
 unfold nW at hr
 split at hr
 ·injection hr with hr;subst hr;exact iV
 ·injection hr with hr;subst hr;exact gw
 ·injection hr with hr;subst hr;exact gw
 ·injection hr with hr;subst hr;exact gw
 ·cases hr
def BH{x:AV}{v:Value}{kk:AV->Tr}(hS:SI σ)(hG:Good w0 ρ σ.h w)(hx:VR ρ x v)(h:run (K_ x kk) σ K=true):∃x' a8,run (kk x') a8 K=true/\SI a8/\a8.h=σ.h/\VR ρ x' v:=by
 unfold K_ at h;split at h
 ·rename_i b g o
  obtain⟨q,c7,hq,e1,b6,z⟩:=aT hS h
  clear h
  cases q with
  |grow c gen ty=>
   obtain⟨k1,z1⟩:=aj z
   obtain⟨k2,z2⟩:=aj z1
   obtain⟨k4,z3⟩:=aJ z2
   clear z z1 z2
   have k1:=aF k1
   subst k1
   refine⟨_,c7,z3,b6,e1, ?_⟩
   cases hx with
   |ptr _ _ _ h0 hh ho=>
    rcases hG.blk _ _ hq with hz|⟨hm,r1,r2,_⟩
    ·omega
    rw[hh] at r1;injection r1 with r1;subst r1;have e:o-h0.shift=o * 1+0:=by omega
    rw[e];exact .gptr b g o 0 1 h0 hh r2
  |_=>exact⟨_,c7,z,b6,e1,hx⟩
 ·exact⟨_,σ,h,hS,rfl,hx⟩
def lA{x:AV}{v:Value}{kk:AV->Tr}(hS:SI σ)(hG:Good w0 ρ σ.h w)(hx:VR ρ x v)(h:run (oU x kk) σ K=true):∃x' a8,run (kk x') a8 K=true/\SI a8/\a8.h=σ.h/\VR ρ x' v:=by
 unfold oU at h;split at h
 ·obtain⟨q,c7,hq,e1,b6,z⟩:=aT hS h
  clear h
  cases q with
  |froz c gen=>obtain⟨k1,z1⟩:=aj z;obtain⟨k2,z2⟩:=aj z1;obtain⟨k4,z3⟩:=aJ z2;clear z z1 z2;have k1:=aF k1;have k2:=aF k2;subst k1;subst k2;subst k4;exact⟨_,c7,z3,b6,e1,gW (hG.blk _ _ hq) hx⟩
  |_=>exact⟨_,c7,z,b6,e1,hx⟩
 ·exact⟨_,σ,h,hS,rfl,hx⟩
def rW:∀{l:List AV} {vs:List Value} {kk:List AV->Tr} {σ:St},SI σ->Good w0 ρ σ.h w->LR ρ l vs->run (mz l kk) σ K=true->∃l' a8,run (kk l') a8 K=true/\SI a8/\a8.h=σ.h/\LR ρ l' vs
 | [],vs,kk,σ,hS,hG,hl,h=>⟨[],σ,h,hS,rfl,hl⟩
 |a::l,vs,kk,σ,hS,hG,hl,h=>by obtain⟨v,o7,rfl,hv,m7⟩:=hl.cons_inv;obtain⟨a',c7,h1,b6,e1,U'⟩:=lA hS hG hv (show run (oU a λx=>mz l λl=>kk (x::l)) σ K=true from h);obtain⟨l2,d5,h2,d8,e2,o5⟩:=rW b6 (by rw[e1];exact hG) m7 h1;exact⟨_,d5,h2,d8,by rw[e2,e1],LR.cons U' o5⟩
def BI{x:AV}{v:Value}{kk:AV->Tr}(hS:SI σ)(hG:Good w0 ρ σ.h w)(hx:VR ρ x v)(h:run (frz0 x kk) σ K=true):∃x' a8 ρ',run (kk x') a8 K=true/\SI a8/\Good w0 ρ' a8.h w/\ρ.le ρ'/\VR ρ' x' v:=by
 unfold frz0 at h;split at h
 ·rename_i b g n es
  have d4:=cy hS h
  obtain⟨q,c7,hq,e1,b6,z⟩:=aT hS h
  have b9:Good w0 ρ c7.h w:=by rw[e1];exact hG
  have p9:c7.h.get b=some q:=by rw[e1];exact hq
  clear h
  cases q with
  |grow c gen ty=>
   rcases bf z with⟨k0,z1⟩|⟨_,z1⟩
   ·obtain⟨k1,k3⟩:=az k0;obtain⟨k1,k2⟩:=az k1;obtain⟨k4,z2⟩:=aJ z1;obtain⟨x0,d5,A',e2,d8,_,z3⟩:=cr b6 z2;have k1:=aF k1;have k2:=aF k2;have k3:=aU k3;subst k1;subst k2;subst k4;obtain⟨ρ',f1,f2,f3⟩:=b9.freeze p9 d4 k3;exact⟨_,d5,ρ',z3,d8,by rw[e2];exact f2,f1,f3 ρ' (.refl _) v (hx.mono f1)⟩
   ·exact⟨_,c7,ρ,z1,b6,b9,.refl _,hx⟩
  |froz c gen=>obtain⟨k1,z1⟩:=aj z;obtain⟨k2,z2⟩:=aj z1;obtain⟨k4,z3⟩:=aJ z2;have k1:=aF k1;have k2:=aF k2;subst k1;subst k2;subst k4;exact⟨_,c7,ρ,z3,b6,b9,.refl _,gW (hG.blk _ _ hq) hx⟩
  |_=>exact⟨_,c7,ρ,z,b6,b9,.refl _,hx⟩
 ·exact⟨_,σ,ρ,h,hS,hG,.refl _,hx⟩
def BJ{x:AV}{v:Value}{kk:AV->Tr}(hS:SI σ)(hG:Good w0 ρ σ.h w)(hx:VR ρ x v)(h:run (GE x kk) σ K=true):∃x' a8 ρ',run (kk x') a8 K=true/\SI a8/\Good w0 ρ' a8.h w/\ρ.le ρ'/\VR ρ' x' v:=by
 unfold GE at h;split at h
 ·rcases bf h with⟨_,z⟩|⟨_,z⟩
  ·obtain⟨a8,z1,b6,b9,_,hv⟩:=da hS hG gw z;exact BI b6 b9 (hv ρ (.refl _) v hx) z1
  ·exact⟨_,σ,ρ,z,hS,hG,.refl _,hx⟩
 ·exact BI hS hG hx h
def wu:∀{l:List AV} {vs:List Value} {kk:List AV->Tr} {σ:St} {ρ:Rho},SI σ->Good w0 ρ σ.h w->LR ρ l vs->run (GF l kk) σ K=true->∃l' a8 ρ',run (kk l') a8 K=true/\SI a8/\Good w0 ρ' a8.h w/\ρ.le ρ'/\LR ρ' l' vs
 | [],vs,kk,σ,ρ,hS,hG,hl,h=>⟨[],σ,ρ,h,hS,hG,.refl _,hl⟩
 |a::l,vs,kk,σ,ρ,hS,hG,hl,h=>by obtain⟨v,o7,rfl,hv,m7⟩:=hl.cons_inv;obtain⟨a',c7,J',h1,b6,b9,o8,U'⟩:=BJ hS hG hv (show run (GE a λx=>GF l λl=>kk (x::l)) σ K=true from h);obtain⟨l2,d5,ρ2,h2,d8,d9,i5,o5⟩:=wu b6 b9 (m7.mono o8) h1;exact⟨_,d5,ρ2,h2,d8,d9,o8.trans i5,LR.cons (U'.mono i5) o5⟩
def wv{x:AV}{v:Value}{kk:AV->Tr}(hS:SI σ)(hG:Good w0 ρ σ.h w)(hx:VR ρ x v)(h:run (we x kk) σ K=true):∃x' a8 ρ',run (kk x') a8 K=true/\SI a8/\Good w0 ρ' a8.h w/\ρ.le ρ'/\VR ρ' x' v:=by
 unfold we at h;split at h
 ·cases hx with
  |agg l cs h1 h2=>obtain⟨l',a8,ρ',q1,q2,q3,q4,q5⟩:=wu hS hG (LR.of_arr h1 h2) h;obtain⟨r1,r2⟩:=q5.arr;exact⟨_,a8,ρ',q1,q2,q3,q4,.agg _ cs r1 r2⟩
 ·exact BJ hS hG hx h
def GY{a x:AV}{v:Value}{kk:AV->Tr}(hS:SI σ)(hG:Good w0 ρ σ.h w)(hx:VR ρ x v)(h:run (GH a x kk) σ K=true):∃x' a8 ρ',run (kk x') a8 K=true/\SI a8/\Good w0 ρ' a8.h w/\ρ.le ρ'/\VR ρ' x' v:=by
 unfold GH at h;split at h
 ·exact wv hS hG hx h
 ·exact⟨_,σ,ρ,h,hS,hG,.refl _,hx⟩
def wy:∀{l:List (Nat×AV)} {vs:List Value} {kk:List (Nat×AV)->Tr} {σ:St} {ρ:Rho},SI σ->Good w0 ρ σ.h w->LR ρ (l.map Prod.snd) vs->run (GG l kk) σ K=true->∃l' a8 ρ',run (kk l') a8 K=true/\SI a8/\Good w0 ρ' a8.h w/\ρ.le ρ'/\LR ρ' (l'.map Prod.snd) vs/\l'.map Prod.fst=l.map Prod.fst
 | [],vs,kk,σ,ρ,hS,hG,hl,h=>⟨[],σ,ρ,h,hS,hG,.refl _,hl,rfl⟩
 |a::l,vs,kk,σ,ρ,hS,hG,hl,h=>by obtain⟨v,o7,rfl,hv,m7⟩:=LR.cons_inv (a:=a.2) (l:=l.map Prod.snd) hl;obtain⟨a',c7,J',h1,b6,b9,o8,U'⟩:=wv hS hG hv (show run (we a.2 λx=>GG l λl=>kk ((a.1,x)::l)) σ K=true from h);obtain⟨l2,d5,ρ2,h2,d8,d9,i5,o5,e2⟩:=wy b6 b9 (m7.mono o8) h1;exact⟨_,d5,ρ2,h2,d8,d9,o8.trans i5,LR.cons (U'.mono i5) o5,by simp [e2]⟩
end
end Go.Sym
namespace Go.Sym
open Go.RowKit (Below)
def cN{h:Home}{o n:Nat}(ho:h.shift<=o):(⟨h.blk,o-h.shift,none⟩:Addr).add n=⟨h.blk,o+n-h.shift,none⟩:=by
 unfold Addr.add;split
 ·rename_i e;subst e;simp
 ·simp;omega
def VR.ptr_add{ρ:Rho}{b g o n:Nat}{h:Home}(hh:ρ.at_ b g=some h)(ho:h.shift<=o):VR ρ (.ptr b g (o+n)) (.pointer (some ((⟨h.blk,o-h.shift,none⟩:Addr).add n))):=by rw[cN ho];exact .ptr b g (o+n) h hh (by omega)
def pe{ρ:Rho}{b g o len:Nat}{cap:Option Nat}{es:Nat}{a:Addr}{c:Nat}(h:SlOk ρ b g o len cap es a c)(hl:0<len):∃h,ρ.at_ b g=some h/\h.shift<=o/\a=⟨h.blk,o-h.shift,none⟩:=by
 obtain⟨h1,h2⟩:=h
 cases cap with
 |some k=>obtain⟨_,x,hx,r1,r2⟩:=h2;exact⟨x,hx,r1,r2⟩
 |none=>
  rcases h2 with⟨e,_⟩|⟨x,hx,r1,r2,_⟩
  ·omega
  ·exact⟨x,hx,r1,r2⟩
def bz{b o n:Nat}:(⟨b,o,none⟩:Addr).add n=⟨b,o+n,none⟩:=by
 unfold Addr.add;split
 ·rename_i e;subst e;simp
 ·simp
section
variable{P:Program}{w0:World}{ρ:Rho}{w:World}{σ:St}{K:Fin}{k:AV->Tr}
def wz{t:TypeId}{l:List AV}{cs:Array Value}{off:Nat}(hS:SI σ)(hG:Good w0 ρ σ.h w)(hl:LR ρ l cs.toList)(h:run (Gl P t l off k) σ K=true):Res P w0 ρ w k K (part t cs off):=by
 obtain⟨d,hu,h⟩:=bp h;obtain⟨i,hi⟩:=info_of_underlying hu;rcases bf h with⟨hd,h⟩|⟨hd,h⟩
 ·obtain⟨j,hj,h⟩:=bE h;rw[hi] at hj;injection hj with hj;subst hj;obtain⟨v,h1,h2⟩:=iS (w:=w) hu hi hl (off:=off) (a:=.agg ((l.drop off).take i.size)) (by rw[if_pos hd]);exact .plain (eO h) hS hG h2 h1
 ·obtain⟨a,ha,h⟩:=br h;obtain⟨v,h1,h2⟩:=iS (w:=w) hu hi hl (off:=off) (a:=a) (by rw[if_neg (by rw[hd];simp)];exact ha);exact .plain h hS hG h2 h1
def GZ{t:TypeId}{x:AV}{v:Value}{i:Nat}(hS:SI σ)(hG:Good w0 ρ σ.h w)(hx:VR ρ x v)(h:run (Gm P t x i k) σ K=true):Res P w0 ρ w k K (Instr.field t v i):=by
 obtain⟨d,hu,h⟩:=bp h
 cases d with
 |struct fs=>
  obtain⟨f,hf,h⟩:=br h
  obtain⟨l,e,h⟩:=Pl h
  subst e
  cases hx with
  |agg _ cs h1 h2=>refine(wz hS hG (LR.of_arr h1 h2) h).of_eq ?_;simp only [Instr.field,aaa,run_underlying hu,aad,hf];simp [asAgg]
 |_=>exact(ac h).elim
def tZ{t:TypeId}{x:AV}{v:Value}{i:Nat}(hS:SI σ)(hG:Good w0 ρ σ.h w)(hx:VR ρ x v)(h:run (oO P t x i k) σ K=true):Res P w0 ρ w k K (Instr.fieldAt t v i):=by
 obtain⟨d,hu,h⟩:=bp h
 cases d with
 |struct fs=>
  cases hx with
  |ptr b g o h0 hh ho=>
   obtain⟨f,hf,h⟩:=br h;obtain⟨j,hj,h⟩:=bE h;obtain⟨hz,h⟩:=kB h;have hz:¬j.size=0:=λe=>by rw[e] at hz;cases hz
   refine .plain (fg h) hS hG (VR.ptr_add hh ho) ?_;simp only [Instr.fieldAt,aaa,run_underlying hu,aad,hf,Instr.sureAddr,aac,fieldPlace,am hj,if_neg hz]
  |gptr b g m o es hm hh hs=>
   obtain⟨f,hf,h⟩:=br h;obtain⟨j,hj,h⟩:=bE h;obtain⟨hz,h⟩:=kB h;have hz:¬j.size=0:=λe=>by rw[e] at hz;cases hz
   refine .plain h hS hG (VR.gptr b g m (o+f.offset) es hm hh hs) ?_;simp only [Instr.fieldAt,aaa,run_underlying hu,aad,hf,Instr.sureAddr,aac,fieldPlace,am hj,if_neg hz,bz,abu]
  |cptr l blk off arr ty WD hb r=>
   obtain⟨f,hf,h⟩:=br h;obtain⟨j,hj,h⟩:=bE h;obtain⟨hz,h⟩:=kB h;have hz:¬j.size=0:=λe=>by rw[e] at hz;cases hz
   obtain⟨hle,h⟩:=aj h;have hle:=aU hle;have h:=eO h;refine .plain h hS hG (VR.cptr (l.drop f.offset) blk (off+f.offset) arr ty WD (by rw[aat];omega) λj a v ha hv=>?_) ?_
   ·rw[aax] at ha;exact r (f.offset+j) a v ha (by rw[←hv];congr 1;omega)
   ·simp only [Instr.fieldAt,aaa,run_underlying hu,aad,hf,Instr.sureAddr,aac,fieldPlace,am hj,if_neg hz,bz]
  |_=>exact(ac h).elim
 |_=>exact(ac h).elim
def ke{t:TypeId}{x ix:AV}{v u:Value}(hS:SI σ)(hG:Good w0 ρ σ.h w)(hx:VR ρ x v)(hy:VR ρ ix u)(h:run (iK P t x ix k) σ K=true):Res P w0 ρ w k K (Instr.indexAt t v u):=by
 obtain⟨kk,n,e,h⟩:=kC h
 subst e
 cases hy
 obtain⟨i,e,h⟩:=tT h
 subst e
 obtain⟨d,hu,h⟩:=bp h
 cases d with
 |array len e=>
  cases hx with
  |ptr b g o h0 hh ho=>
   obtain⟨hb,h⟩:=aj h;have hb:=aU hb;obtain⟨j,hj,h⟩:=bE h;refine .plain (fg h) hS hG (VR.ptr_add hh ho) ?_;have c8:(0:Int)<=(i:Int)/\(i:Int)<(len:Int):=by omega
   simp only [Instr.indexAt,aaa,asIntOf,aac,aad,run_underlying hu,Instr.sureAddr,if_pos c8,am hj,aaA]
  |_=>exact(ac h).elim
 |slice e=>
  cases hx with
  |slc b g o len cap es a c t8=>
   obtain⟨hb,h⟩:=aj h;have hb:=aU hb;obtain⟨j,hj,h⟩:=bE h;obtain⟨h0,hh,ho,ea⟩:=pe t8 (by omega);subst ea;refine .plain (fg h) hS hG (VR.ptr_add hh ho) ?_;have c8:(0:Int)<=(i:Int)/\(i:Int)<(len:Int):=by omega
   simp only [Instr.indexAt,aaa,asIntOf,aac,aad,run_underlying hu,if_pos c8,am hj,aaA]
  |_=>exact(ac h).elim
 |_=>exact(ac h).elim
def DW{t:TypeId}{c:Ct}{ix:AV}{v u:Value}(hS:SI σ)(hG:Good w0 ρ σ.h w)(hx:VR ρ (.cv c) v)(hy:VR ρ ix u)(h:run (Bp P t c ix k) σ K=true):Res P w0 ρ w k K (Instr.indexAt t v u):=by
 obtain⟨d,hu,h⟩:=bp h;split at h
 ·rename_i e kk i hi
  have e2:=aI hy hi
  subst e2
  obtain⟨j,hj,h⟩:=bE h
  obtain⟨he,h⟩:=aj h
  have he:=aF he
  obtain⟨c8,h⟩:=aJ h
  have h:=eO h
  have c8:(0:Int)<=i/\i<(c.len:Int):=c8
  have M':i.toNat<c.len:=by omega
  cases hx with
  |cv _ blk off cp arr ty hf hc hb r=>
   refine .plain h hS hG (VR.cptr (c.row i.toNat) blk (off+i.toNat * c.es) arr ty hf ?_ λj a v ha hv=>r i.toNat j a v M' ha hv) ?_
   ·rw[c.row_len];have:i.toNat * c.es+c.es<=c.len * c.es:=by rw[←aaL];exact aay _ M'
    omega
   ·simp only [Instr.indexAt,aaa,asIntOf,aac,aad,run_underlying hu,if_pos c8,am hj,he,bz]
  |cvnil _ h0=>omega
  |cvempty _ _ h0=>omega
 ·exact(ac h).elim
def DX{t:TypeId}{b g n es:Nat}{ix:AV}{v u:Value}(hS:SI σ)(hG:Good w0 ρ σ.h w)(hx:VR ρ (.gsl b g n es) v)(hy:VR ρ ix u)(h:run (Bq P t b g n es ix k) σ K=true):Res P w0 ρ w k K (Instr.indexAt t v u):=by
 obtain⟨d,hu,h⟩:=bp h;split at h
 ·rename_i e kk i hi
  have e2:=aI hy hi
  subst e2
  obtain⟨j,hj,h⟩:=bE h
  obtain⟨he,h⟩:=aj h
  have he:=aF he
  obtain⟨c8,h⟩:=aJ h
  have M':i.toNat<n:=by omega
  cases hx with
  |gsl _ _ _ _ hm c hn hh hs hc hz=>refine .plain h hS hG (VR.gptr b g i.toNat 0 es hm hh hs) ?_;simp only [Instr.indexAt,aaa,asIntOf,aac,aad,run_underlying hu,if_pos c8,am hj,he,bz,aam,aas]
  |gnil _ _ _=>omega
  |gempty _ _ _ _=>omega
 ·exact(ac h).elim
def G0{t:TypeId}{b g o:Nat}{ix:AV}{v u:Value}(hS:SI σ)(hG:Good w0 ρ σ.h w)(hx:VR ρ (.ptr b g o) v)(hy:VR ρ ix u)(h:run (Gn P t b g o ix k) σ K=true):Res P w0 ρ w k K (Instr.indexAt t v u):=by
 obtain⟨d,hu,z1⟩:=bp h;split at z1
 ·rename_i len e kk i hi
  have e2:=aI hy hi
  subst e2
  obtain⟨j,hj,z2⟩:=bE z1
  rcases bf z2 with⟨ho0,z3⟩|⟨ho0,z3⟩
  rotate_left
  ·obtain⟨o9,z4⟩:=aj z3
   obtain⟨c8,z5⟩:=aJ z4
   have o9:=aae o9
   cases hx with
   |ptr _ _ _ hm hh ho=>
    refine .plain z5 hS hG (.aptr b g o len i hm hh ho c8.1 c8.2) ?_;have ea:(⟨hm.blk,o-hm.shift,none⟩:Addr).add i.toNat=⟨hm.blk,o-hm.shift+i.toNat,none⟩:=by
     unfold Addr.add;split
     ·rename_i e;rw[e];rfl
     ·rfl
    simp only [Instr.indexAt,aaa,asIntOf,aac,aad,run_underlying hu,Instr.sureAddr,if_pos c8,am hj,o9,aaC,ea]
  obtain⟨o9,z4⟩:=aj z3
  obtain⟨c8,z5⟩:=aJ z4
  have ho0:=aae ho0
  have o9:=aae o9
  cases hx with
  |ptr _ _ _ hm hh ho=>
   have b7:hm.shift=0->(Instr.indexAt t (.pointer (some ⟨hm.blk,o-hm.shift,none⟩)) (.int kk i)).run P w= .ok (.pointer (some ⟨hm.blk,i.toNat * 1+0,none⟩)) w:=by
    intro w8;have e0:o-hm.shift=0:=by omega
    rw[e0];simp only [Instr.indexAt,aaa,asIntOf,aac,aad,run_underlying hu,Instr.sureAddr,if_pos c8,am hj,o9,bz,aam,aas]
   obtain⟨q,c7,hq,e1,b6,z6⟩:=aT hS z5
   have b9:Good w0 ρ c7.h w:=by rw[e1];exact hG
   have conv:run (aa (Nat.beq g 0) (bS (nW P e len) .fail λrows=>my [] b g 0 len (some len) 1 rows λ_=>k (.gptr b 0 i.toNat 0 1)) .fail) c7 K=true->Res P w0 ρ w k K (Instr.indexAt t (.pointer (some ⟨hm.blk,o-hm.shift,none⟩)) (.int kk i)):=by
    intro z
    obtain⟨Z7,z7⟩:=aj z
    have Z7:=aae Z7
    obtain⟨rows,hr,z8⟩:=br z7
    obtain⟨d5,z9,d8,d9,_,hv⟩:=da b6 b9 (zL hr) z8
    have t8:VR ρ (.slc b g 0 len (some len) 1) (.slice (some ⟨hm.blk,0-hm.shift,none⟩) len len):=.slc _ _ _ _ _ _ _ _ ⟨aab _,rfl,hm,hh,by omega,rfl⟩
    have:=hv ρ (.refl _) _ t8
    subst Z7
    generalize hvv:Value.slice (some ⟨hm.blk,0-hm.shift,none⟩) len len=vv at this
    cases this with
    |gsl _ _ _ _ u0 c hn g7 hs' hc hz=>rw[hh] at g7;injection g7 with g7;subst g7;exact .plain z9 d8 d9 (.gptr b 0 i.toNat 0 1 hm hh hs') (b7 hs')
    |gnil _ _ _=>omega
    |gempty _ _ _ _=>omega
   cases q with
   |grow c gen ty=>
    obtain⟨k1,y1⟩:=aj z6;obtain⟨k2,y2⟩:=aj y1;obtain⟨k4,y3⟩:=aJ y2;have k1:=aae k1;rcases hG.blk _ _ hq with hz|⟨u0,r1,r2,_⟩
    ·omega
    rw[←k1,hh] at r1;injection r1 with r1;subst r1;exact .plain y3 b6 b9 (.gptr b g i.toNat 0 1 hm hh r2) (b7 r2)
   |_=>exact conv z6
 ·exact(ac z1).elim
def BK:∀{l:List AV} {bs:List Nat},Bo l=some bs->∀i,i<bs.length->l[i]? =some (.int .u8 (Int.ofNat (bs.getD i 0)))
 | [],bs,h,i,hi=>by injection h with h;subst h;cases hi
 |a::r,bs,h,i,hi=>by
  unfold Bo at h;split at h
  ·rename_i e;cases e
  ·rename_i n r' e;injection e with e1 e2;subst e1;subst e2;split at h
   ·split at h
    ·rename_i l' hl
     injection h with h;subst h
     cases i with
     |zero=>rfl
     |succ i=>exact BK hl i (by simpa using hi)
    ·cases h
   ·cases h
  ·cases h
def G1{t:TypeId}{l:List AV}{ix:AV}{v u:Value}(hS:SI σ)(hG:Good w0 ρ σ.h w)(hx:VR ρ (.cptr l) v)(hy:VR ρ ix u)(h:run (Gp P t l ix k) σ K=true):Res P w0 ρ w k K (Instr.indexAt t v u):=by
 obtain⟨d,hu,h⟩:=bp h;split at h
 ·rename_i len e kk i hi;have e2:=aI hy hi;subst e2;obtain⟨j,hj,h⟩:=bE h;obtain⟨he,h⟩:=aj h;have he:=aF he;obtain⟨bs,WE,h⟩:=br h;obtain⟨hlen,h⟩:=aj h;have hlen:=aU hlen;have fin:∀(X:AV),(0:Int)<=i/\i<(len:Int)->(∀v,VR ρ (.int .u8 (Int.ofNat (bs.getD i.toNat 0))) v->VR ρ X v)->run (k (.cptr [X])) σ K=true->Res P w0 ρ w k K (Instr.indexAt t v (.int kk i)):=λX c8 hX h=>by
   have M':i.toNat<bs.length:=by omega
   have hg:=BK WE _ M'
   have hll:i.toNat<l.length:=by
    rcases aaf i.toNat l.length with h'|h'
    ·exact h'
    ·rw[aak h'] at hg;cases hg
   cases hx with
   |cptr _ blk off arr ty hf hb r=>
    refine .plain h hS hG (VR.cptr _ blk (off+i.toNat) arr ty hf (by simp;omega) λq a v ha hv=>?_) ?_
    ·cases q with
     |zero=>injection ha with ha;subst ha;exact hX _ (r i.toNat _ v hg (by simpa using hv))
     |succ q=>simp at ha
    ·simp only [Instr.indexAt,aaa,asIntOf,aac,aad,run_underlying hu,Instr.sureAddr,if_pos c8,am hj,he,aaC,bz]
  rcases bf h with⟨_,h⟩|⟨_,h⟩
  ·obtain⟨c8,h⟩:=aJ h;exact fin _ c8 (λv hv=>by cases hv with|int _ _=>exact .sI _ _) h
  ·cases i with
   |negSucc _=>exact(ac h).elim
   |ofNat n=>obtain⟨hn,h⟩:=aj h;have hn:=aU hn;rw[eG] at h;exact fin _ ⟨Int.natCast_nonneg n,Int.ofNat_lt.2 hn⟩ (λv hv=>hv) h
 ·exact(ac h).elim
def t_{t:TypeId}{x ix:AV}{v u:Value}(hS:SI σ)(hG:Good w0 ρ σ.h w)(hx:VR ρ x v)(hy:VR ρ ix u)(h:run (ky P t x ix k) σ K=true):Res P w0 ρ w k K (Instr.indexAt t v u):=by
 unfold ky at h;split at h
 ·exact G1 hS hG hx hy h
 ·exact DW hS hG hx hy h
 ·exact DX hS hG hx hy h
 ·rcases bf h with⟨_,h⟩|⟨_,h⟩
  ·exact G0 hS hG hx hy h
  ·exact ke hS hG hx hy h
 ·exact ke hS hG hx hy h
def nv(s:ByteArray)(i:Nat):(bytesOf s)[i]? =(s[i]?).map UInt8.toNat:=by
 unfold bytesOf;rw[aaE];congr 1;by_cases h:i<s.size
 ·rw[getElem?_pos s i h];have h':i<s.data.toList.length:=by simpa using h
  rw[aah h'];rfl
 ·rw[getElem?_neg s i h,aak (by simpa using h)]
def DY{t:TypeId}{x ix:AV}{v u:Value}(hS:SI σ)(hG:Good w0 ρ σ.h w)(hx:VR ρ x v)(hy:VR ρ ix u)(h:run (Br P t x ix k) σ K=true):Res P w0 ρ w k K (Instr.index t v u):=by
 obtain⟨kk,n,e,h⟩:=kC h
 subst e
 cases hy
 obtain⟨i,e,h⟩:=tT h
 subst e
 obtain⟨d,hu,h⟩:=bp h
 cases d with
 |array len e=>
  cases hx with
  |agg l cs h1 h2=>
   obtain⟨hb,h⟩:=aj h;have hb:=aU hb;obtain⟨j,hj,h⟩:=bE h;have c8:(0:Int)<=(i:Int)/\(i:Int)<(len:Int):=by omega
   refine(wz hS hG (LR.of_arr h1 h2) h).of_eq ?_;simp only [Instr.index,aaa,asIntOf,aac,aad,run_underlying hu,if_pos c8,am hj,aaA]
  |_=>exact(ac h).elim
 |string=>
  cases hx with
  |str s=>
   obtain⟨c,hc,h⟩:=br h
   rw[nv] at hc
   cases hs:s[i]? with
   |none=>rw[hs] at hc;cases hc
   |some cc=>
    rw[hs] at hc;injection hc with hc;subst hc;refine .plain (fg h) hS hG (.int _ _) ?_;have h0:(0:Int)<=(i:Int):=by omega
    simp only [Instr.index,aaa,asIntOf,aac,aad,run_underlying hu,if_pos h0,aaA,hs];rfl
  |_=>exact(ac h).elim
 |_=>exact(ac h).elim
def G2{t:TypeId}{s:ByteArray}{kk:IntKind}{i:Int}(hS:SI σ)(hG:Good w0 ρ σ.h w)(h:run (Gq P t (bytesOf s) i k) σ K=true):Res P w0 ρ w k K (Instr.index t (.string s) (.int kk i)):=by
 obtain⟨d,hu,h⟩:=bp h
 cases d with
 |string=>
  obtain⟨⟨h0,h1⟩,h⟩:=aJ h;rw[aM] at h1;have M':i.toNat<s.size:=by omega
  have hb:iE (bytesOf s) i.toNat=(s[i.toNat]).toNat:=by unfold iE;rw[aai,nv,getElem?_pos s i.toNat M'];exact abc (UInt8.toNat_lt _)
  rw[hb] at h;refine .plain h hS hG (.sI _ _) ?_;simp only [Instr.index,aaa,asIntOf,aac,aad,run_underlying hu,if_pos h0,getElem?_pos s i.toNat M']
 |_=>exact(ac h).elim
def G3{t:TypeId}{x ix:AV}{v u:Value}(hS:SI σ)(hG:Good w0 ρ σ.h w)(hx:VR ρ x v)(hy:VR ρ ix u)(h:run (Gr P t x ix k) σ K=true):Res P w0 ρ w k K (Instr.index t v u):=by
 rcases bf h with⟨_,h⟩|⟨_,h⟩
 ·split at h
  ·rename_i l kk i el ei;obtain⟨s,e1,e2⟩:=cM hx el;have e3:=aI hy ei;subst e1;subst e2;subst e3;exact G2 hS hG h
  ·exact(ac h).elim
 ·exact DY hS hG hx hy h
def zM{x:AV}{v:Value}{i:Nat}(hS:SI σ)(hG:Good w0 ρ σ.h w)(hx:VR ρ x v)(h:run (vU x i k) σ K=true):Res P w0 ρ w k K (Instr.extract v i):=by
 cases hx with
 |tup l cs h1 h2=>
  obtain⟨a,ha,h⟩:=br h;obtain⟨u,hu,hr⟩:=(LR.of_arr h1 h2).get ha;have hu:cs[i]? =some u:=by simpa using hu
  exact .plain h hS hG hr (by simp [Instr.extract,hu])
 |_=>exact(ac h).elim
def zN{t:TypeId}{x:AV}{v:Value}(hS:SI σ)(hG:Good w0 ρ σ.h w)(hx:VR ρ x v)(h:run (vS P t x k) σ K=true):Res P w0 ρ w k K (Instr.makeInterface t v):=by
 obtain⟨d,hu,h⟩:=bp h
 cases d with
 |interface m=>exact(ac h).elim
 |_=>exact .plain h hS hG (.iface t x v hx) (by simp [Instr.makeInterface,run_underlying hu])
def kF{ov:Option AV}{vv:Option Value}{d top:Nat}{k:Nat->Tr}(ho:OR ρ ov vv)(h:run (iM ov d top k) σ K=true):
 ∃n,run (k n) σ K=true/\((ov=none/\vv=none/\n=d)∨∃kk,ov.isSome=true/\vv=some (.int kk (n:Int))/\n<=top):=by
 cases ov with
 |none=>
  cases vv with
  |none=>exact⟨d,h,.inl ⟨rfl,rfl,rfl⟩⟩
  |some v=>exact ho.elim
 |some a=>
  cases vv with
  |none=>exact ho.elim
  |some v=>
   obtain⟨kk,n,e,h⟩:=kC h
   subst e
   cases ho
   obtain⟨i,e,h⟩:=tT h
   subst e
   obtain⟨hb,h⟩:=aj h
   exact⟨i,h,.inr ⟨kk,rfl,rfl,aU hb⟩⟩
def aE{kk:IntKind}{n y:Nat}{code:BoundsCode}(h:n<=y):(Instr.sliceBound (.int kk (n:Int)) y code).run P w= .ok n w:=by simp [Instr.sliceBound,asIntOf,h]
def wA{isS:Bool}{len cap c:Nat}{lo hi mx:Option AV}{lo' hi' L':Option Value}{k:Nat->Nat->Nat->Tr}(Wz:len<=cap)(W2:cap<=c)(hmx:mx=none->c=cap)(h1:OR ρ lo lo')(h2:OR ρ hi hi')(h3:OR ρ mx L')(h:run (gP len cap lo hi mx k) σ K=true):
 ∃l hh m,run (k l hh m) σ K=true/\(Instr.sliceBounds isS len c lo' hi' L').run P w= .ok (l,hh,m) w/\l<=hh/\hh<=m/\m<=cap:=by
 obtain⟨m,h,hm⟩:=kF h3 h
 have b7:∃hh l,run (k l hh m) σ K=true/\((hi=none/\hi'=none/\hh=len/\mx=none)∨∃kk,hi'=some (.int kk (hh:Int))/\hh<=m)/\((lo=none/\lo'=none/\l=0)∨∃kk,lo.isSome=true/\lo'=some (.int kk (l:Int))/\l<=hh):=by
  cases hi with
  |none=>
   cases mx with
   |some _=>exact(ac h).elim
   |none=>
    obtain⟨hh,h,YM⟩:=kF (d:=len) (top:=m) (k:=λh=>iM lo 0 h λl=>k l h m) h2 h;obtain⟨l,h,hl⟩:=kF (k:=λl=>k l hh m) h1 h;refine⟨hh,l,h, ?_,hl⟩;rcases YM with⟨a,b,c⟩|⟨kk,a,b,c⟩
    ·exact .inl ⟨rfl,b,c,rfl⟩
    ·simp at a
  |some x=>
   obtain⟨hh,h,YM⟩:=kF (d:=len) (top:=m) (k:=λh=>iM lo 0 h λl=>k l h m) h2 (by cases mx <;> exact h);obtain⟨l,h,hl⟩:=kF (k:=λl=>k l hh m) h1 h;refine⟨hh,l,h, ?_,hl⟩;rcases YM with⟨a,b,c⟩|⟨kk,a,b,c⟩
   ·cases a
   ·exact .inr ⟨kk,b,c⟩
 obtain⟨hh,l,hk,YM,Yy⟩:=b7
 have hmc:m<=cap:=by rcases hm with⟨_,_,e⟩|⟨_,_,_,e⟩ <;> omega
 have ZG:hh<=m:=by
  rcases YM with⟨_,_,e,emx⟩|⟨_,_,e⟩
  ·rcases hm with⟨_,_,em⟩|⟨_,em,_,_⟩
   ·omega
   ·rw[emx] at em;simp at em
  ·exact e
 have hll:l<=hh:=by rcases Yy with⟨_,_,e⟩|⟨_,_,_,e⟩ <;> omega
 refine⟨l,hh,m,hk, ?_,hll,ZG,hmc⟩
 rcases hm with⟨em1,em2,em3⟩|⟨km,em1,em2,em3⟩
 ·subst em2;rcases YM with⟨_,eh,Ym,_⟩|⟨kh,eh,Ym⟩
  ·subst eh;subst Ym;rw[←hmx em1] at em3;subst em3;rcases Yy with⟨_,el,Xf⟩|⟨kl,_,el,Xf⟩
   ·subst el;subst Xf;simp [Instr.sliceBounds]
   ·subst el;simp [Instr.sliceBounds,aE Xf]
  ·subst eh;rw[←hmx em1] at em3;subst em3;rcases Yy with⟨_,el,Xf⟩|⟨kl,_,el,Xf⟩
   ·subst el;subst Xf;simp [Instr.sliceBounds,aE Ym]
   ·subst el;simp [Instr.sliceBounds,aE Xf,aE Ym]
 ·subst em2;rcases YM with⟨_,eh,Ym,e⟩|⟨kh,eh,Ym⟩
  ·rw[e] at em1;simp at em1
  ·subst eh;rcases Yy with⟨_,el,Xf⟩|⟨kl,_,el,Xf⟩
   ·subst el;subst Xf;simp [Instr.sliceBounds,aE Ym,aE (aaH em3 W2)]
   ·subst el;simp [Instr.sliceBounds,aE Xf,aE Ym,aE (aaH em3 W2)]
def oe{isS:Bool}{len cap:Nat}{lo hi mx:Option AV}{lo' hi' L':Option Value}{k:Nat->Nat->Nat->Tr}(Wz:len<=cap)(h1:OR ρ lo lo')(h2:OR ρ hi hi')(h3:OR ρ mx L')(h:run (gP len cap lo hi mx k) σ K=true):
 ∃l hh m,run (k l hh m) σ K=true/\(Instr.sliceBounds isS len cap lo' hi' L').run P w= .ok (l,hh,m) w/\l<=hh/\hh<=m/\m<=cap:=
 wA Wz (aab _) (λ_=>rfl) h1 h2 h3 h
end
end Go.Sym
namespace Go.Sym
open Go.RowKit (Below)
section
variable{P:Program}{w0:World}{ρ:Rho}{w:World}{σ:St}{K:Fin}{k:AV->Tr}
def pf{b g o s l h m:Nat}{hm:Home}(hh:ρ.at_ b g=some hm)(ho:hm.shift<=o)(ZG:h<=m)(hr:run (vT b g o s l h m k) σ K=true):
 ∃r,run (k r) σ K=true/\VR ρ r (.slice (some (if m=l then⟨hm.blk,o-hm.shift,none⟩ else(⟨hm.blk,o-hm.shift,none⟩:Addr).add (l * s))) (h-l) (m-l)):=by
 unfold vT at hr
 have hr:=fg hr
 have hr:=fg hr
 rcases bf hr with⟨e,hr⟩|⟨e,hr⟩
 ·have e:=aF e;refine⟨_,hr, ?_⟩;rw[if_pos e];exact .slc _ _ _ _ _ _ _ _ ⟨by omega,rfl,hm,hh,ho,rfl⟩
 ·have e:¬m=l:=λe'=>by subst e';simp at e
  have hr:=fg hr;refine⟨_,hr, ?_⟩;rw[if_neg e,cN ho];exact .slc _ _ _ _ _ _ _ _ ⟨by omega,rfl,hm,hh,by omega,rfl⟩
def G4{b g o s l h len c:Nat}{a:Addr}(hs:SlOk ρ b g o len none s a c)(hl:l<=h)(hh:h<=len)(hr:run (Gt b g o s l h k) σ K=true):
 ∃r,run (k r) σ K=true/\VR ρ r (.slice (some (if c=l then a else a.add (l * s))) (h-l) (c-l)):=by
 obtain⟨hlen,hs⟩:=hs
 unfold Gt at hr
 have hr:=fg hr
 rcases bf hr with⟨e,hr⟩|⟨e,hr⟩
 ·have e:=aF e;subst e;refine⟨_,hr, ?_⟩;have ea:(if c=0 then a else a.add (0 * s))=a:=by
   split
   ·rfl
   ·unfold Addr.add;simp
  rw[ea];refine .slc _ _ _ _ _ _ _ _ ⟨by omega, ?_⟩;rcases hs with⟨h1,h2⟩|⟨hm,h1,h2,h3,h4⟩
  ·exact .inl ⟨by omega,by omega⟩
  ·exact .inr ⟨hm,h1,h2,h3,by simpa using h4⟩
 ·have e:¬l=0:=λe'=>by subst e';simp at e
  have hr:=fg hr;refine⟨_,hr, ?_⟩;refine .slc _ _ _ _ _ _ _ _ ⟨by omega, ?_⟩;by_cases hc:c=l
  ·exact .inl ⟨by omega,by omega⟩
  ·rcases hs with⟨h1,h2⟩|⟨hm,h1,h2,h3,h4⟩
   ·omega
   ·refine .inr ⟨hm,h1,by omega, ?_, ?_⟩
    ·rw[if_neg hc,h3,cN h2]
    ·have:c * s=l * s+(c-l) * s:=by rw[←aaz];congr 1;omega
     omega
def gX{α:Type}{p:Prop}[Decidable p]{a b:α}:(if p then some a else some b)=some (if p then a else b):=by split <;> rfl
def DZ{t:TypeId}{s:ByteArray}{lo hi mx:Option AV}{lo' hi' L':Option Value}(hS:SI σ)(hG:Good w0 ρ σ.h w)(h1:OR ρ lo lo')(h2:OR ρ hi hi')(h3:OR ρ mx L')(hu:P.underlying t=some .string)(h:run (zo (bytesOf s) lo hi mx k) σ K=true):Res P w0 ρ w k K (Instr.sliceAt t (.string s) lo' hi' L'):=by
 cases mx with
 |some _=>exact(ac h).elim
 |none=>
  cases L' with
  |some _=>exact h3.elim
  |none=>
   have hn:(bytesOf s).length=s.size:=by unfold bytesOf;rw[aaF];rfl
   unfold zo at h
   have h:=fg h
   obtain⟨l,hh,m,h,hb,hl,hm,hc⟩:=oe (P:=P) (w:=w) (isS:=false) (aab _) h1 h2 h3 h
   have h:=zH h
   refine .plain h hS hG (v:=.string (s.extract l hh)) ?_ ?_
   ·have e:((bytesOf s).take hh).drop l=bytesOf (s.extract l hh):=by unfold bytesOf;rw[←List.map_take, ←List.map_drop,ByteArray.data_extract,Array.toList_extract,abE,abv]
    rw[e];exact .str _
   ·rw[hn] at hb;simp only [Instr.sliceAt,Instr.slice,aaa,run_underlying hu,aad,Zl,Bool.false_eq_true,if_false,aac];simp [hb,aad]
def zO{t:TypeId}{x:AV}{v:Value}{lo hi mx:Option AV}{lo' hi' L':Option Value}(hS:SI σ)(hG:Good w0 ρ σ.h w)(hx:VR ρ x v)(h1:OR ρ lo lo')(h2:OR ρ hi hi')(h3:OR ρ mx L')(h:run (Bu P t x lo hi mx k) σ K=true):Res P w0 ρ w k K (Instr.sliceAt t v lo' hi' L'):=by
 obtain⟨d,hu,h⟩:=bp h
 cases d with
 |array n e=>
  cases hx with
  |ptr b g o hm hh ho=>
   obtain⟨l,hi,m,h,hb,hl,ZG,hc⟩:=oe (P:=P) (w:=w) (isS:=false) (aab _) h1 h2 h3 h
   obtain⟨j,hj,h⟩:=bE h
   obtain⟨r,h,hr⟩:=pf hh ho ZG h
   refine .plain h hS hG hr ?_
   simp only [Instr.sliceAt,aaa,run_underlying hu,aad,Instr.sureAddr,aac,hb,am hj]
  |_=>exact(ac h).elim
 |string=>
  cases hx with
  |str s=>exact DZ hS hG h1 h2 h3 hu h
  |_=>exact(ac h).elim
 |slice e=>
  cases hx with
  |nils=>
   obtain⟨j,hj,h⟩:=bE h
   obtain⟨l,hi,m,h,hb,hl,ZG,hc⟩:=oe (P:=P) (w:=w) (isS:=true) (aab _) h1 h2 h3 h
   have:m=0:=by omega
   subst this
   have:hi=0:=by omega
   subst this
   have:l=0:=by omega
   subst this
   refine .plain h hS hG .nils ?_
   simp only [Instr.sliceAt,Instr.slice,aaa,run_underlying hu,aad,aac,hb,am hj,if_true,abn]
  |slc b g o len cap es a c t8=>
   cases cap with
   |some c'=>
    obtain⟨j,hj,h⟩:=bE h
    obtain⟨n8,h⟩:=aj h
    have n8:=aF n8
    obtain⟨hlen,ec,hm,hh,ho,ea⟩:=t8
    subst ec;subst ea
    obtain⟨l,hi,m,h,hb,hl,ZG,hc⟩:=oe (P:=P) (w:=w) (isS:=true) hlen h1 h2 h3 h
    obtain⟨r,h,hr⟩:=pf hh ho ZG h
    refine .plain h hS hG hr ?_
    subst n8
    simp only [Instr.sliceAt,Instr.slice,aaa,run_underlying hu,aad,aac,hb,am hj,aaQ,gX]
   |none=>
    obtain⟨j,hj,h⟩:=bE h
    obtain⟨n8,h⟩:=aj h
    have n8:=aF n8
    subst n8
    cases mx with
    |none=>
     cases L' with
     |some _=>exact h3.elim
     |none=>
      unfold Bs at h
      obtain⟨hh,h,YM⟩:=kF (d:=len) (top:=len) h2 h
      obtain⟨l,h,Yy⟩:=kF (d:=0) (top:=hh) h1 h
      have hle:hh<=len:=by rcases YM with⟨_,_,e⟩|⟨_,_,_,e⟩ <;> omega
      have hll:l<=hh:=by rcases Yy with⟨_,_,e⟩|⟨_,_,_,e⟩ <;> omega
      obtain⟨r,h,hr⟩:=G4 t8 hll hle h
      refine .plain h hS hG hr ?_
      have hb:(Instr.sliceBounds true len c lo' hi' none).run P w= .ok (l,hh,c) w:=by
       have x8:=t8.1;rcases YM with⟨_,eh,Ym⟩|⟨kh,_,eh,Ym⟩
       ·subst eh;subst Ym;rcases Yy with⟨_,el,Xf⟩|⟨kl,_,el,Xf⟩
        ·subst el;subst Xf;simp [Instr.sliceBounds]
        ·subst el;simp [Instr.sliceBounds,aE Xf]
       ·subst eh;rcases Yy with⟨_,el,Xf⟩|⟨kl,_,el,Xf⟩
        ·subst el;subst Xf;simp [Instr.sliceBounds,aE (aaH Ym x8)]
        ·subst el;simp [Instr.sliceBounds,aE Xf,aE (aaH Ym x8)]
      simp only [Instr.sliceAt,Instr.slice,aaa,run_underlying hu,aad,aac,hb,am hj,aaQ,gX]
    |some y=>
     obtain⟨hz,h⟩:=kB h
     have hz:len≠0:=by intro e;subst e;simp at hz
     obtain⟨Wz,hs⟩:=t8
     obtain⟨l,hi,m,h,hb,hl,ZG,hc⟩:=wA (P:=P) (w:=w) (isS:=true) (aab _) Wz (λe=>by cases e) h1 h2 h3 h
     rcases hs with⟨ZY,h2'⟩|⟨hm,hh,ho,ea,w7⟩
     ·omega
     ·subst ea;obtain⟨r,h,hr⟩:=pf hh ho ZG h;refine .plain h hS hG hr ?_;simp only [Instr.sliceAt,Instr.slice,aaa,run_underlying hu,aad,aac,hb,am hj,aaQ,gX]
  |_=>exact(ac h).elim
 |_=>exact(ac h).elim
def cT{ov:Option AV}{vv:Option Value}{d:Int}{k:Int->Tr}(ho:OR ρ ov vv)(h:run (bZ ov d k) σ K=true):
 ∃n,run (k n) σ K=true/\((vv=none/\n=d)∨∃kk,vv=some (.int kk n)):=by
 cases ov with
 |none=>
  cases vv with
  |none=>exact⟨d,h,.inl ⟨rfl,rfl⟩⟩
  |some v=>exact ho.elim
 |some a=>
  cases vv with
  |none=>exact ho.elim
  |some v=>
   unfold bZ at h
   simp only at h
   split at h
   ·rename_i kk n hi;exact⟨n,h,.inr ⟨kk,by rw[aI ho hi]⟩⟩
   ·exact(ac h).elim
def bC{isS:Bool}{len c:Nat}{lo' hi':Option Value}{l h:Int}(Wz:len<=c)(hl:(lo'=none/\l=0)∨∃kk,lo'=some (.int kk l))(hh:(hi'=none/\h=(len:Int))∨∃kk,hi'=some (.int kk h))(hr:0<=l/\l<=h/\h<=(len:Int)):(Instr.sliceBounds isS len c lo' hi' none).run P w= .ok (l.toNat,h.toNat,c) w:=by
 obtain⟨a,ea⟩:∃a:Nat,l=(a:Int):=⟨l.toNat,by omega⟩
 obtain⟨b,eb⟩:∃b:Nat,h=(b:Int):=⟨h.toNat,by omega⟩
 subst ea;subst eb
 simp only [aaA]
 have YN:a<=b:=by omega
 have XD:b<=len:=by omega
 rcases hh with⟨eh,Ym⟩|⟨kh,eh⟩
 ·subst eh;have:b=len:=by omega
  subst this;rcases hl with⟨el,Xf⟩|⟨kl,el⟩
  ·subst el;have:a=0:=by omega
   subst this;simp [Instr.sliceBounds]
  ·subst el;simp [Instr.sliceBounds,aE YN]
 ·subst eh;rcases hl with⟨el,Xf⟩|⟨kl,el⟩
  ·subst el;have:a=0:=by omega
   subst this;simp [Instr.sliceBounds,aE (aaH XD Wz)]
  ·subst el;simp [Instr.sliceBounds,aE YN,aE (aaH XD Wz)]
def wB{t:TypeId}{x:AV}{v:Value}{lo hi mx:Option AV}{lo' hi' L':Option Value}(hS:SI σ)(hG:Good w0 ρ σ.h w)(hx:VR ρ x v)(h1:OR ρ lo lo')(h2:OR ρ hi hi')(h3:OR ρ mx L')(h:run (rL P t x lo hi mx k) σ K=true):Res P w0 ρ w k K (Instr.sliceAt t v lo' hi' L'):=by
 obtain⟨d,hu,h⟩:=bp h
 split at h
 ·rename_i e c _
  cases L' with
  |some _=>exact h3.elim
  |none=>
  obtain⟨j,hj,h⟩:=bE h
  obtain⟨he,h⟩:=aj h
  have he:=aF he
  obtain⟨b,h8,hb⟩:=cT h2 h
  obtain⟨a,h7,ha⟩:=cT h1 h8
  obtain⟨hr,h9⟩:=aJ h7
  clear h h8 h7
  cases hx with
  |cv _ blk off cp arr ty hf hc hbd r=>
   have WE:=bC (P:=P) (w:=w) (isS:=true) hc ha hb hr;obtain⟨a,rfl⟩:∃q:Nat,a=(q:Int):=⟨a.toNat,by omega⟩
   obtain⟨b,rfl⟩:∃q:Nat,b=(q:Int):=⟨b.toNat,by omega⟩
   simp only [aaA] at WE h9;have YN:a<=b:=by omega
   have WX:b<=c.len:=by omega
   have hlen:=c.cut_len YN WX;have n8:=c.cut_es a b;have hmul:a * c.es+(b-a) * c.es=b * c.es:=by rw[←aaz];congr 1;omega
   have ae2:b * c.es<=c.len * c.es:=aay _ WX;have b7:(Instr.sliceAt t (.slice (some ⟨blk,off,none⟩) c.len cp) lo' hi' none).run P w= .ok (.slice (some (if cp=a then⟨blk,off,none⟩ else⟨blk,off+a * j.size,none⟩)) (b-a) (cp-a)) w:=by simp only [Instr.sliceAt,Instr.slice,aaa,run_underlying hu,aad,aac,WE,am hj,aaQ,gX,bz]
   rw[he] at b7;by_cases hca:cp=a
   ·rw[if_pos hca] at b7;have hba:b-a=0:=by omega
    have hz:off+(c.cut a b).len * (c.cut a b).es<=arr.size:=by rw[hlen,hba,aa_];omega
    have:=VR.cv (ρ:=ρ) (c.cut a b) blk off (cp-a) arr ty hf (by omega) hz (λi q av u hi hq YV=>by omega);rw[hlen] at this;exact .plain h9 hS hG this b7
   ·rw[if_neg hca] at b7;have:=VR.cv (ρ:=ρ) (c.cut a b) blk (off+a * c.es) (cp-a) arr ty hf (by omega) (by rw[hlen,n8];omega) (λi q av u hi hq YV=>by rw[hlen] at hi;rw[c.cut_row (by omega)] at hq;rw[n8] at YV;exact r (a+i) q av u (by omega) hq (by rw[←YV];congr 1;rw[aaz];omega));rw[hlen] at this;exact .plain h9 hS hG this b7
  |cvnil _ h0=>
   rw[h0] at hb hr;have WE:=bC (P:=P) (w:=w) (isS:=true) (c:=0) (aab 0) ha hb hr;obtain rfl:a=0:=by have:=hr.2.2;omega
   obtain rfl:b=0:=by have:=hr.2.2;omega
   refine .plain h9 hS hG (.cvnil _ (by rw[c.cut_len (by simp) (by simp)];rfl)) ?_;simp only [Int.toNat_zero] at WE;simp only [Instr.sliceAt,Instr.slice,aaa,run_underlying hu,aad,aac,WE,am hj,if_true,abn]
  |cvempty _ ad h0=>
   rw[h0] at hb hr;have WE:=bC (P:=P) (w:=w) (isS:=true) (c:=0) (aab 0) ha hb hr;obtain rfl:a=0:=by have:=hr.2.2;omega
   obtain rfl:b=0:=by have:=hr.2.2;omega
   refine .plain h9 hS hG (.cvempty _ ad (by rw[c.cut_len (by simp) (by simp)];rfl)) ?_;simp only [Int.toNat_zero] at WE;simp only [Instr.sliceAt,Instr.slice,aaa,run_underlying hu,aad,aac,WE,am hj,if_true,abn,aaQ]
 ·rename_i x2 _
  cases L' with
  |some _=>exact h3.elim
  |none=>
  split at h
  ·rename_i l hl;obtain⟨s,e1,e2⟩:=cM hx hl;subst e1;subst e2;obtain⟨b,h,hb⟩:=cT h2 h;obtain⟨a,h,ha⟩:=cT h1 h;obtain⟨hr,h⟩:=aJ h;rw[aM] at hb hr;have WE:=bC (P:=P) (w:=w) (isS:=false) (aab s.size) ha hb hr;refine .plain h hS hG (v:=.string (s.extract a.toNat b.toNat)) ?_ ?_
   ·have e:((bytesOf s).take b.toNat).drop a.toNat=bytesOf (s.extract a.toNat b.toNat):=by unfold bytesOf;rw[←List.map_take, ←List.map_drop,ByteArray.data_extract,Array.toList_extract,abE,abv]
    rw[e];exact .sS _
   ·simp only [Instr.sliceAt,Instr.slice,aaa,run_underlying hu,aad,Zl,Bool.false_eq_true,if_false,aac];simp [WE,aad]
  ·exact(ac h).elim
 ·exact(ac h).elim
def pg{t:TypeId}{x:AV}{v:Value}{lo hi mx:Option AV}{lo' hi' L':Option Value}(hS:SI σ)(hG:Good w0 ρ σ.h w)(hx:VR ρ x v)(h1:OR ρ lo lo')(h2:OR ρ hi hi')(h3:OR ρ mx L')(h:run (tI P t x lo hi mx k) σ K=true):Res P w0 ρ w k K (Instr.sliceAt t v lo' hi' L'):=by
 rcases bf h with⟨_,h⟩|⟨_,h⟩
 ·exact wB hS hG hx h1 h2 h3 h
 ·exact zO hS hG hx h1 h2 h3 h
def OR.mono{ρ ρ':Rho}(hle:ρ.le ρ'){a:Option AV}{v:Option Value}(h:OR ρ a v):OR ρ' a v:=by cases a <;> cases v <;> first|trivial|exact h.elim|exact VR.mono hle h
def rX{t e:TypeId}{n blk:Nat}{c:Ct}{j:TypeInfo}{lo hi:Option AV}{lo' hi':Option Value}(hS:SI σ)(hG:Good w0 ρ σ.h w)(hu:P.underlying t=some (.array n e))(hj:P.info? e=some j)(x8:c.len=n)(he:c.es=j.size)(hn:0<n)(hv:VR ρ (.cv c) (.slice (some ⟨blk,0,none⟩) n n))(h1:OR ρ lo lo')(h2:OR ρ hi hi')(h:run (tJ n c lo hi k) σ K=true):Res P w0 ρ w k K (Instr.sliceAt t (.pointer (some ⟨blk,0,none⟩)) lo' hi' none):=by
 obtain⟨b,h8,hb⟩:=cT h2 h
 obtain⟨a,h7,ha⟩:=cT h1 h8
 obtain⟨hr,h9⟩:=aJ h7
 clear h h8 h7
 have WE:=bC (P:=P) (w:=w) (isS:=false) (aab n) ha hb hr
 obtain⟨a,rfl⟩:∃q:Nat,a=(q:Int):=⟨a.toNat,by omega⟩
 obtain⟨b,rfl⟩:∃q:Nat,b=(q:Int):=⟨b.toNat,by omega⟩
 simp only [aaA] at WE h9
 have YN:a<=b:=by omega
 have WX:b<=n:=by omega
 have hlen:=c.cut_len YN (by omega:b<=c.len)
 have n8:=c.cut_es a b
 have hmul:a * c.es+(b-a) * c.es=b * c.es:=by rw[←aaz];congr 1;omega
 have ae2:b * c.es<=c.len * c.es:=aay _ (by omega)
 have b7:(Instr.sliceAt t (.pointer (some ⟨blk,0,none⟩)) lo' hi' none).run P w= .ok (.slice (some (if n=a then⟨blk,0,none⟩ else⟨blk,0+a * j.size,none⟩)) (b-a) (n-a)) w:=by simp only [Instr.sliceAt,Instr.slice,aaa,run_underlying hu,aad,Instr.sureAddr,aac,WE,am hj,aaQ,gX,bz]
 rw[←he] at b7
 generalize hvv:Value.slice (some ⟨blk,0,none⟩) n n=vv at hv
 cases hv with
 |cv _ ak6 off cp arr ty hf hc hbd r=>
  injection hvv with e1 e2 e3
  injection e1 with e1
  injection e1 with e4 e5
  subst e4;subst e5;subst e3
  by_cases hca:n=a
  ·rw[if_pos hca] at b7;have hz:0+(c.cut a b).len * (c.cut a b).es<=arr.size:=by rw[hlen,show b-a=0 by omega,aa_];omega
   have:=VR.cv (ρ:=ρ) (c.cut a b) blk 0 (n-a) arr ty hf (by omega) hz (λi q av u hi hq YV=>by omega);rw[hlen] at this;exact .plain h9 hS hG this b7
  ·rw[if_neg hca] at b7;have:=VR.cv (ρ:=ρ) (c.cut a b) blk (0+a * c.es) (n-a) arr ty hf (by omega) (by rw[hlen,n8];omega) (λi q av u hi hq YV=>by rw[hlen] at hi;rw[c.cut_row (by omega)] at hq;rw[n8] at YV;exact r (a+i) q av u (by omega) hq (by rw[←YV];congr 1;rw[aaz];omega));rw[hlen] at this;exact .plain h9 hS hG this b7
 |cvnil _ h0=>omega
 |cvempty _ _ h0=>omega
def G5{t:TypeId}{b g o:Nat}{q:ABlk}{v:Value}{lo hi mx:Option AV}{lo' hi' L':Option Value}(hS:SI σ)(hG:Good w0 ρ σ.h w)(d4:b+1<2 ^ 64)(hq:σ.h.get b=some q)(hx:VR ρ (.ptr b g o) v)(h1:OR ρ lo lo')(h2:OR ρ hi hi')(h3:OR ρ mx L')(h:run (Gu P t b g o q lo hi mx k) σ K=true):Res P w0 ρ w k K (Instr.sliceAt t v lo' hi' L'):=by
 obtain⟨d,hu,z1⟩:=bp h
 split at z1
 ·rename_i n e
  cases L' with
  |some _=>exact h3.elim
  |none=>
  obtain⟨j,hj,z2⟩:=bE z1
  obtain⟨ho0,z3⟩:=aj z2
  have ho0:=aae ho0
  cases hx with
  |ptr _ _ _ hm hh ho=>
   have e0:o-hm.shift=0:=by omega
   rw[e0];split at z3
   ·rename_i c gen ty;obtain⟨k1,y1⟩:=aj z3;obtain⟨k2,y2⟩:=aj y1;obtain⟨k3,y3⟩:=aj y2;obtain⟨k4,y4⟩:=aJ y3;clear h z1 z2 z3 y1 y2 y3;have k1:=aae k1;have k2:=aae k2;have k3:=aU k3;subst k1;rcases hG.blk _ _ hq with hz|⟨u0,r1,r2,r3,arr,fr,r4,r5,r6,_⟩
    ·omega
    rw[hh] at r1;injection r1 with r1;subst r1;have hgv:VR ρ (.gsl b g n c.es) (.slice (some ⟨hm.blk,0,none⟩) n n):=.gsl b g n c.es hm n (by omega) hh r2 (aab _) (by rw[←k4];exact r6);rcases bf y4 with⟨hb,y5⟩|⟨_,y5⟩
    ·obtain⟨XL,XA⟩:=az hb
     have lo0:lo=none:=by cases lo with|none=>rfl|some _=>cases XL
     have hi0:hi=none:=by cases hi with|none=>rfl|some _=>cases XA
     subst lo0;subst hi0
     cases lo' with
     |some _=>exact h1.elim
     |none=>
     cases hi' with
     |some _=>exact h2.elim
     |none=>
     rw[←k2] at y5
     refine .plain y5 hS hG hgv ?_
     have WE:=bC (P:=P) (w:=w) (isS:=false) (lo':=none) (hi':=none) (l:=0) (h:=(n:Int)) (aab n) (.inl ⟨rfl,rfl⟩) (.inl ⟨rfl,rfl⟩) (by omega)
     simp only [aaA,Int.toNat_zero] at WE
     have X6:n≠0:=by omega
     simp only [Instr.sliceAt,Instr.slice,aaa,run_underlying hu,aad,Instr.sureAddr,aac,WE,am hj,aaQ,gX,bz,if_neg X6,aa_,aam,abm]
    ·obtain⟨Yy,y6⟩:=aj y5;have Yy:=aU Yy;obtain⟨x0,d5,A',e2,d8,_,y7⟩:=cr hS y6;obtain⟨ρ',f1,f2,f3⟩:=hG.freeze hq d4 Yy;rw[←k4] at hgv;have hcv:=f3 ρ' (.refl _) _ (hgv.mono f1);rw[k4] at hcv;obtain⟨av,a8,ρ2,v2,w2,q1,q2,q3,q4,q5,q6⟩:=rX d8 (by rw[e2];exact f2) hu hj k4 k2 (by omega) hcv (h1.mono f1) (h2.mono f1) y7;exact⟨av,a8,ρ2,v2,w2,q1,q2,q3,f1.trans q4,q5,q6⟩
   ·rename_i c gen;obtain⟨k1,y1⟩:=aj z3;obtain⟨k2,y2⟩:=aj y1;obtain⟨k3,y3⟩:=aj y2;obtain⟨k4,y4⟩:=aJ y3;clear h z1 z2 z3 y1 y2 y3;have k1:=aae k1;have k2:=aae k2;have k3:=aU k3;subst k1;have hB:=hG.blk _ _ hq;have hB2:=hB;rcases hB with hz|⟨u0,arr,ty,r1,r2,r3,r4,_⟩
    ·omega
    rw[hh] at r1;injection r1 with r1;subst r1;obtain⟨⟨fr,hw⟩,_⟩:=hG.frz _ _ _ r3;have hcv:VR ρ (.cv c) (.slice (some ⟨hm.blk,0,none⟩) n n):=by
     rw[←k4];rcases hB2 with hz|⟨u0,l7,Ww,s1,s2,s3,s4,s5⟩
     ·omega
     rw[hh] at s1;injection s1 with s1;subst s1;refine .cv c hm.blk 0 c.len l7 Ww s3 (aab _) (by omega) λi j' a u hi ha Z8=>?_;obtain⟨u2,u3,u4⟩:=s5 i hi j' a ha;rw[aam,u3] at Z8;injection Z8 with Z8;subst Z8;exact u4
    exact rX hS hG hu hj k4 k2 (by omega) hcv h1 h2 y4
   ·exact(ac z3).elim
 ·exact(ac z1).elim
def G6{t:TypeId}{b g n es:Nat}{v:Value}{lo hi mx:Option AV}{lo' hi' L':Option Value}(hS:SI σ)(hG:Good w0 ρ σ.h w)(hx:VR ρ (.gsl b g n es) v)(h1:OR ρ lo lo')(h2:OR ρ hi hi')(h3:OR ρ mx L')(h:run (N7 P t b g n es lo hi mx k) σ K=true):Res P w0 ρ w k K (Instr.sliceAt t v lo' hi' L'):=by
 obtain⟨d,hu,h⟩:=bp h
 cases mx with
 |some _=>exact(ac h).elim
 |none=>
 cases L' with
 |some _=>exact h3.elim
 |none=>
 cases d with
 |slice e=>
  obtain⟨j,hj,h⟩:=bE h
  obtain⟨he,h⟩:=aj h
  have he:=aF he
  obtain⟨w9,h8,hb⟩:=cT h2 h
  clear h
  have key:∀(l:Int) (c:Nat) (blk:Nat),n<=c->((lo'=none/\l=0)∨∃kk,lo'=some (.int kk l))->0<=l/\l<=w9/\w9<=(n:Int)->
   (Instr.sliceAt t (.slice (some ⟨blk,0,none⟩) n c) lo' hi' none).run P w= .ok (.slice (some (if c=l.toNat then⟨blk,0,none⟩ else⟨blk,l.toNat * es,none⟩)) (w9.toNat-l.toNat) (c-l.toNat)) w:=λl c blk hc hl hr=>by
   have WE:=bC (P:=P) (w:=w) (isS:=true) hc hl hb hr
   simp only [Instr.sliceAt,Instr.slice,aaa,run_underlying hu,aad,aac,WE,am hj,aaQ,gX,bz,aam,he]
  have Yz:∀(a:Option Addr) (l:Int),n=0->((lo'=none/\l=0)∨∃kk,lo'=some (.int kk l))->l=0->w9=0->(Instr.sliceAt t (.slice a 0 0) lo' hi' none).run P w= .ok (.slice a 0 0) w:=λa l h0 hl el eh=>by subst el;subst eh;rw[h0] at hb;have WE:=bC (P:=P) (w:=w) (isS:=true) (c:=0) (aab 0) hl hb ⟨by omega,by omega,by simp⟩;simp only [Int.toNat_zero] at WE;cases a <;> simp only [Instr.sliceAt,Instr.slice,aaa,run_underlying hu,aad,aac,WE,am hj,if_true,abn,aaQ,Option.map_none]
  obtain⟨l,h10,hl⟩:=cT h1 h8
  clear h8
  rcases bU h10 with⟨h0,h11⟩|⟨h0,h11⟩
  ·obtain⟨⟨el,eh⟩,h12⟩:=aJ h11
   cases hx with
   |gsl _ _ _ _ hm c hn hh hs hc hz=>omega
   |gnil _ _ _=>exact .plain h12 hS hG (.gnil _ _ _) (Yz none l rfl hl el eh)
   |gempty _ _ _ a=>exact .plain h12 hS hG (.gempty _ _ _ a) (Yz (some a) l rfl hl el eh)
  ·obtain⟨hr,h12⟩:=aJ h11
   cases hx with
   |gsl _ _ _ _ hm c hn hh hs hc hz=>
    have b7:=key l c hm.blk hc hl hr;have hlen:(w9-l).toNat=w9.toNat-l.toNat:=by omega
    rw[hlen] at h12;refine .plain h12 hS hG (.slc _ _ _ _ _ _ _ _ ⟨by omega, ?_⟩) b7;by_cases hca:c=l.toNat
    ·exact .inl ⟨by omega,by omega⟩
    ·refine .inr ⟨hm,hh,by omega,by rw[if_neg hca,hs,abm], ?_⟩;have:c * es=l.toNat * es+(c-l.toNat) * es:=by rw[←aaz];congr 1;omega
     omega
   |gnil _ _ _=>exact absurd rfl h0
   |gempty _ _ _ a=>exact absurd rfl h0
 |_=>exact(ac h).elim
def D1{t:TypeId}{x:AV}{v:Value}{lo hi mx:Option AV}{lo' hi' L':Option Value}(hS:SI σ)(hG:Good w0 ρ σ.h w)(hx:VR ρ x v)(h1:OR ρ lo lo')(h2:OR ρ hi hi')(h3:OR ρ mx L')(h:run (zp P t x lo hi mx k) σ K=true):Res P w0 ρ w k K (Instr.sliceAt t v lo' hi' L'):=by
 unfold zp at h
 split at h
 ·exact G6 hS hG hx h1 h2 h3 h
 ·have d4:=cy hS h;obtain⟨q,c7,hq,e1,b6,z⟩:=aT hS h;have b9:Good w0 ρ c7.h w:=by rw[e1];exact hG
  rcases bf z with⟨_,z⟩|⟨_,z⟩
  ·exact G5 b6 b9 d4 (by rw[e1];exact hq) hx h1 h2 h3 z
  ·exact pg b6 b9 hx h1 h2 h3 z
 ·exact pg hS hG hx h1 h2 h3 h
end
end Go.Sym
namespace Go.Sym
open Go.RowKit (Below)
def gY(ρ:Rho)(s:ByteArray):LR ρ (bY (bytesOf s)) (s.data.toList.map λb=>Value.int .u8 b.toNat):=by
 refine⟨by simp [bY,bytesOf],λi a v ha hv=>?_⟩
 unfold bY bytesOf at ha
 rw[aaW,aaE] at ha
 rw[aaE] at hv
 cases hs:s.data.toList[i]? with
 |none=>rw[hs] at ha;cases ha
 |some b=>rw[hs] at ha hv;injection ha with ha;injection hv with hv;subst ha;subst hv;exact .int .u8 (b.toNat:Int)
def kf{s:ByteArray}{c:Nat}(h:s.size<=c):(bytesRow s c).size=c:=by unfold bytesRow;have:s.data.size=s.size:=rfl;simp;omega
def lB{s:ByteArray}{c i:Nat}{v:Value}(h:(s.data.toList.map λb=>Value.int .u8 b.toNat)[i]? =some v):(bytesRow s c)[i]? =some v:=by
 unfold bytesRow;have hi:i<s.data.size:=by
  rcases aaf i s.data.size with h'|h'
  ·exact h'
  ·rw[aak (by simpa using h')] at h;cases h
 rw[Array.getElem?_append_left (by simpa using hi)];simpa using h
def U_{ρ:Rho}:∀{l:List AV} {vs:List Value} {r:List Nat},Bo l=some r->LR ρ l vs->∃bs:List UInt8,r=bs.map UInt8.toNat/\vs=bs.map λb=>Value.int .u8 (b.toNat:Int):=by
 intro l
 induction l with
 |nil=>intro vs r h hl;injection h with h;subst h;exact⟨[],rfl,hl.nil_inv⟩
 |cons a l ih=>
  intro vs r h hl;obtain⟨v,o7,rfl,hv,m7⟩:=hl.cons_inv;unfold Bo at h;split at h
  ·rename_i e;cases e
  ·rename_i n r' e;injection e with e1 e2;subst e1;subst e2;split at h
   ·rename_i hn;split at h
    ·rename_i l' o5;injection h with h;subst h;obtain⟨bs,e1,e2⟩:=ih o5 m7;cases hv;have Xk:(UInt8.ofNat n).toNat=n:=by simp;omega
     refine⟨UInt8.ofNat n::bs,by rw[aaw,Xk,e1], ?_⟩;rw[aaw,Xk,e2];rfl
    ·cases h
   ·cases h
  ·cases h
def zP{ρ:Rho}:∀{l:List AV} {vs:List Value} {ns:List Int},eZ l=some ns->U5 ns->LR ρ l vs->∃bs:List UInt8,aN ns=bs.map UInt8.toNat/\vs=bs.map λb=>Value.int .u8 (b.toNat:Int):=by
 intro l
 induction l with
 |nil=>intro vs r h _ hl;injection h with h;subst h;exact⟨[],rfl,hl.nil_inv⟩
 |cons a l ih=>
  intro vs r h hb hl;obtain⟨v,o7,rfl,hv,m7⟩:=hl.cons_inv;unfold eZ at h;split at h
  ·rename_i n hn;split at h
   ·rename_i r' hr;injection h with h;subst h;obtain⟨⟨h0,h1⟩,hb⟩:=hb;obtain⟨bs,e1,e2⟩:=ih hr hb m7;have Xk:(UInt8.ofNat n.toNat).toNat=n.toNat:=by simp;omega
    refine⟨UInt8.ofNat n.toNat::bs,by rw[aaw,Xk, ←e1];rfl, ?_⟩;rw[aaw,Xk,e2,aI hv hn,Int.toNat_of_nonneg h0]
   ·cases h
  ·cases h
def wC{ρ:Rho}{l:List AV}{vs:List Value}{k:AV->Tr}{σ:St}{K:Fin}(hl:LR ρ l vs)(h:run (ll l k) σ K=true):∃(bs:List UInt8) (x:AV),vs=(bs.map λb=>Value.int .u8 (b.toNat:Int))/\VR ρ x (.string ⟨bs.toArray⟩)/\run (k x) σ K=true:=by
 unfold ll at h;split at h
 ·rename_i r hr;obtain⟨bs,e2,e3⟩:=U_ hr hl;subst e2;refine⟨bs,_,e3, ?_,h⟩;have:=VR.str (ρ:=ρ) ⟨bs.toArray⟩;simpa [bytesOf] using this
 ·obtain⟨ns,hr,h⟩:=br h;obtain⟨hp,h⟩:=aJ h;obtain⟨bs,e2,e3⟩:=zP hr hp hl;rw[e2] at h;refine⟨bs,_,e3, ?_,h⟩;have:=VR.sS (ρ:=ρ) ⟨bs.toArray⟩;simpa [bytesOf] using this
section
variable{P:Program}{w0:World}{ρ:Rho}{w:World}{σ:St}{K:Fin}{k:AV->Tr}
def zQ{src dst e:TypeId}{s:ByteArray}(hS:SI σ)(hG:Good w0 ρ σ.h w)(hs:P.underlying src=some .string)(hd:P.underlying dst=some (.slice e))(he:P.underlying e=some (.int .u8))(h:run (fN (List.length (bytesOf s)) λn=>aa (Nat.ble n 1000000) (lh 1 e (bY (bytesOf s)) λb=>k (.slc b 0 0 n none 1)) .fail) σ K=true):
 Res P w0 ρ w k K (convert src dst (.string s)):=by
 obtain⟨_,h⟩:=aj (fg h)
 have hn:(bytesOf s).length=s.size:=by unfold bytesOf;rw[aaF];rfl
 have W3:=grownCap_ge w s.size 0 e
 have m8:=kf W3
 have hL:=gY ρ s
 obtain⟨b,a8,h2,j7,hle,g9⟩:=kE 1 (w:=w.drew) (bytesRow s (grownCap w s.size 0 e)) e ((bytesRow s (grownCap w s.size 0 e)).size,(bytesRow s (grownCap w s.size 0 e)).size+1)
  ⟨by simp,λx h1 h2 _=>by omega⟩ hS (hG.drawn _) (by simp [bY,hn,m8];exact W3) (λi a ha=>by obtain⟨v,hv,hr⟩:=hL.get ha;exact⟨v,lB hv,hr⟩) h
 refine⟨_,a8,_,_,_,h2,j7,g9,hle, ?_,run_bytes_of_string w src dst e s hs hd he⟩
 rw[hn]
 refine .slc _ _ _ _ _ _ _ _ ⟨W3,.inr ⟨_,Rho.put_at _ _ _ _,aan _,rfl, ?_⟩⟩
 show 0-0+grownCap w s.size 0 e * 1<=(bytesRow s _).size
 omega
def D2{src dst e:TypeId}{x:AV}{v:Value}(hS:SI σ)(hG:Good w0 ρ σ.h w)(hs:P.underlying src=some (.slice e))(hd:P.underlying dst=some .string)(he:P.underlying e=some (.int .u8))(hx:VR ρ x v){b g o len es:Nat}{cap:Option Nat}(ex:x= .slc b g o len cap es)(h:run (aa (Nat.beq len 0) (k (.str [])) (fa b g o len λl=>ll l k)) σ K=true):
 Res P w0 ρ w k K (convert src dst v):=by
 subst ex
 cases hx with
 |slc b g o len cap es a c t8=>
  rcases bf h with⟨hb,h⟩|⟨hb,h⟩
  ·have hb:=aF hb;subst hb;refine .plain h hS hG (v:=.string ⟨#[]⟩) ?_ ?_
   ·exact .str ⟨#[]⟩
   ·exact run_convert_bytes_back w src dst e a c [] hs he hd (λj hj=>by cases hj)
  ·have hb:0<len:=by
    rcases aaR len with e|e
    ·subst e;simp at hb
    ·exact e
   obtain⟨hm,hh,ho,ea⟩:=pe t8 hb;subst ea;obtain⟨l,cs,a8,e1,j7,h,hL,hlen,g8,_⟩:=fj (P:=P) hS hG hh ho h;obtain⟨bs,x,e3,hx,h⟩:=wC hL h;have XD:bs.length=len:=by rw[←hlen,e3,aaF]
   refine .plain h j7 (by rw[e1];exact hG) (v:=.string ⟨bs.toArray⟩) hx ?_
   ·have:=run_convert_bytes_back (P:=P) w src dst e ⟨hm.blk,o-hm.shift,none⟩ c bs hs he hd (λj hj=>by
     have h1:=g8 j (.int .u8 (bs[j].toNat:Int)) (by rw[e3];simp [hj]);unfold Addr.add;split
     ·rename_i e;subst e;simpa using h1
     ·exact h1)
    rw[XD] at this;exact this
def fK(w:World)(a:Addr)(n:Nat)(hn:n≠0)(i:Nat):(w.freeze a n).heap[i]? =if a.block=i then(w.heap[i]?).map (fun
 | .cells c elem (lo,hi)=>.cells c elem (if lo==hi then(a.off,a.off+n) else(min lo a.off,max hi (a.off+n)))
 |o=>o) else w.heap[i]? :=by
 simp only [World.freeze,if_neg hn,abb]
 split <;> rfl
def Good.freezeAt{H:T ABlk}(hG:Good w0 ρ H w){b g gen lo hi fl fh fl' fh' ty off n:Nat}{c:T Cell}{h:Home}(hb:H.get b=some (.cells c gen lo hi fl fh false ty))(d4:b+1<2 ^ 64)(hh:ρ.at_ b g=some h)(hg:g<=gen)(hn:n≠0)(hold:∀(x:Nat) (hm:Home),(x<hm.size∨fl'<=fh')->(∀q,(q<hm.size∨fl<=fh)->True)->((x<hm.size∨fl<=fh)->fl<=x+hm.shift/\x+hm.shift<fh)->fl'<=x+hm.shift/\x+hm.shift<fh')(j4:∀f1 f2:Nat,f1<=f2->(∀x,(x<h.size∨fl<=fh)->f1<=x->x<f2->fl<=x+h.shift/\x+h.shift<fh)->∀x,(x<h.size∨fl'<=fh')->(if f1=f2 then off<=x/\x<off+n else min f1 off<=x/\x<max f2 (off+n))->fl'<=x+h.shift/\x+h.shift<fh'):
 Good w0 ρ (H.set b (.cells c gen lo hi fl' fh' false ty)) (w.freeze ⟨h.blk,off,none⟩ n):=by
 have hB:=hG.blk _ _ hb
 obtain⟨hm,q1,q2,_,arr,fr,q3,q4,q5,q6⟩:=hB.2 g hg
 rw[hh] at q1;injection q1 with q1;subst q1
 have q2:=q2 rfl
 have m8:(w.freeze ⟨h.blk,off,none⟩ n).heap.size=w.heap.size:=by simp [World.freeze,hn]
 refine hG.turn (hrs:=⟨b,g,h,hh,rfl⟩) hb d4 h.blk q2 ⟨by simp [World.freeze,hn],by simp [World.freeze,hn],by simp [World.freeze,hn],by rw[m8];exact aab _,λk hk ho=>?_⟩ (by rw[m8];exact aab _) (λk hk _=>?_) (λb' g' h' g7 e'=>(hG.inj _ _ _ _ _ _ g7 hh e').1) ⟨hB.1,λg' Xs=>?_⟩
 ·rw[fK _ _ _ hn,if_neg (λe=>by have e:h.blk=k:=e;rcases q2 with q2|q2;omega;exact ho (e▸q2))]
 ·rw[fK _ _ _ hn,if_neg (λe=>hk e.symm)]
 ·obtain⟨u0,s1,s2,s2',l7,Z1,s3,s4,s5,s6⟩:=hB.2 g' Xs;obtain⟨q5a,q5b⟩:=s5 rfl;by_cases eb:u0.blk=h.blk
  ·obtain⟨_,ehm⟩:=hG.inj _ _ _ _ _ _ s1 hh eb;subst ehm;obtain⟨f1,f2⟩:=Z1;refine⟨_,s1,s2,s2',l7,_,by rw[fK _ _ _ hn,if_pos rfl,s3];rfl,s4,λ_=>⟨?_,λx hx h1 h2=>?_⟩,s6⟩
   ·simp only at q5a;split <;> simp <;> omega
   ·refine j4 f1 f2 q5a q5b x hx ?_;by_cases e:f1=f2
    ·rw[if_pos e];rw[if_pos (by simpa using e)] at h1 h2;exact⟨h1,h2⟩
    ·rw[if_neg e];rw[if_neg (by simpa using e)] at h1 h2;exact⟨h1,h2⟩
  ·refine⟨u0,s1,s2,s2',l7,Z1,by rw[fK _ _ _ hn,if_neg (λe=>eb e.symm)];exact s3,s4,λ_=>⟨q5a,λx hx h1 h2=>?_⟩,s6⟩;exact hold x u0 hx (λ_ _=>trivial) λhq=>q5b x hq h1 h2
def D3{src dst e e':TypeId}{b g o len es:Nat}{cap:Option Nat}{v:Value}(hS:SI σ)(hG:Good w0 ρ σ.h w)(hs:P.underlying src=some (.slice e'))(hd:P.underlying dst=some (.slice e))(he:P.underlying e=some (.int .u8))(hx:VR ρ (.slc b g o len cap es) v)(hsd:src=dst)(hlen:1<=len)(h:run (.rd b λq=>(match q with
  | .cells c gen lo hi fl fh ro ty=>aa ro .fail (aa (Nat.beq fh 0) (aa (Nat.ble g gen) (.wr b (.cells c gen lo hi 1 0 false ty) (k (.slc b g o len cap es))) .fail) .fail)
  |_=>.fail)) σ K=true):Res P w0 ρ w k K (convert src dst v):=by
 obtain⟨q,a8,h1,h2,h3,h⟩:=aT hS h
 cases q with
 |cells c gen lo hi fl fh ro ty=>
  obtain⟨ero,h5⟩:=kB h
  obtain⟨efh,h6⟩:=aj h5
  obtain⟨Xx,h7⟩:=aj h6
  clear h h5 h6
  obtain⟨x0,d5,A',e2,d8,d4,h8⟩:=cr h3 h7
  have efh:=aF efh
  have Xx:=aU Xx
  subst ero;subst efh
  cases hx with
  |slc b g o len cap es a c' t8=>
   obtain⟨hm,hh,ho,ea⟩:=pe t8 hlen
   have hB:=hG.blk _ _ h1
   obtain⟨WT,q1,_,_,arr,fr,q3,q4,q5,q6⟩:=hB.2 g Xx
   rw[hh] at q1;injection q1 with q1;subst q1
   have g9:=hG.freezeAt (fl':=1) (fh':=0) (off:=arr.size) (n:=1) h1 d4 hh Xx (by decide) (λx hm3 x9 _ p7=>by
    have:=p7 (.inl (by omega));omega) (λf1 f2 hf hq x x9 p7=>by
    have hxs:x<hm.size:=by omega
    split at p7
    ·omega
    ·rename_i j0;have h3:f1<=x:=by simp only [Nat.min_def] at p7;split at p7 <;> omega
     have:=hq f1 (.inl (by omega)) (aab _) (by omega);omega)
   refine⟨_,d5,ρ,.slice (some a) len c',_,h8,d8,by rw[e2,h2];exact g9,Rho.le.refl ρ,.slc _ _ _ _ _ _ _ _ t8, ?_⟩
   have hb:(src==dst)=true:=by simpa using hsd
   have W4:a.block=hm.blk:=by rw[ea]
   have w8:w.shape? hm.blk=some (ty,arr.size):=by simp [World.shape?,q3]
   simp [convert,run_underlying hs,run_underlying hd,run_underlying he,hb,markStringish,W4,w8]
 |_=>exact(ac h).elim
def zS{fits:TypeId->Bool}:∀(d:Nat) (e:TypeId) (c c' off n:Nat),c<=c'->rowAt P fits d e c off n=true->rowAt P fits d e c' off n=true:=by
 intro d
 cases d with
 |zero=>intro e c c' off n _ h;simp [rowAt] at h
 |succ d=>
  intro e c c' off n W2 h;simp only [rowAt] at h⊢;split at h
  ·cases h
  ·rename_i hs;rw[if_neg hs];rw[Bool.or_eq_true] at h⊢;rcases h with h|h
   ·left;simp only [Bool.and_eq_true,decide_eq_true_eq] at h⊢;exact⟨⟨h.1.1,by omega⟩,h.2⟩
   ·right;rw[Bool.and_eq_true] at h⊢;exact⟨by have:=of_decide_eq_true h.1;exact decide_eq_true (by omega),h.2⟩
def wD:∀(d:Nat) (e:TypeId) (c c' off:Nat) (u:TypeId) (n:Nat),c<=c'->liesAt P d e c off u n=true->liesAt P d e c' off u n=true:=by
 intro d
 induction d with
 |zero=>intro e c c' off u n _ h;simp [liesAt] at h
 |succ d ih=>
  intro e c c' off u n W2 h;simp only [liesAt] at h⊢;rw[Bool.or_eq_true] at h⊢;rcases h with h|h
  ·exact .inl (zS _ _ _ _ _ _ W2 h)
  ·right;split at h
   ·exact ih _ _ _ _ _ _ W2 h
   ·cases h
def BL{b g o n:Nat}{u:TypeId}{t:Tr}{h0:Home}(hS:SI σ)(hG:Good w0 ρ σ.h w)(hh:ρ.at_ b g=some h0)(h:run (Gj P b g o u n t) σ K=true):
 ∃a8,run t a8 K=true/\SI a8/\a8.h=σ.h/\h0.shift=0/\(variablesAt ⟨h0.blk,o,none⟩ u n).run P w= .ok true w/\∃ty m,w.shape? h0.blk=some (ty,m):=by
 obtain⟨q,c7,hq,e1,b6,h⟩:=aT hS h
 cases q with
 |cells c gen lo hi fl fh ro ty=>
  obtain⟨k1,h⟩:=aj h
  obtain⟨k2,h⟩:=aj h
  obtain⟨x0,A',h⟩:=mD h
  cases x0 with
  |mk t0 a0=>
   obtain⟨k3,h⟩:=aj h
   have h:=fg h
   obtain⟨x1,x9,h⟩:=mD h
   cases x1 with
   |mk t1 a1=>
    obtain⟨k4,h⟩:=aj h
    obtain⟨k5,h⟩:=aj h
    obtain⟨hm,q1,_,_,arr,fr,q3,q4,q5,q6⟩:=(hG.blk _ _ hq).2 g (aU k1)
    rw[hh] at q1;injection q1 with q1;subst q1
    obtain⟨r1,_⟩:=q6 0 t0 a0 A' (aU k3)
    obtain⟨_,v,r2,_⟩:=q6 _ t1 a1 x9 (aU k4)
    have WZ:h0.shift=0:=by omega
    have W3:Nat.sub hi 1<arr.size:=by
     rcases aaf (Nat.sub hi 1) arr.size with h'|h'
     ·exact h'
     ·rw[WZ,aaN (by omega)] at r2;cases r2
    have YM:hi<=arr.size:=by have:Nat.sub hi 1=hi-1:=rfl;omega
    have w8:w.shape? h0.blk=some (ty,arr.size):=by simp [World.shape?,q3]
    refine⟨c7,h,b6,e1,WZ, ?_,ty,arr.size,w8⟩
    have hl:=wD (P:=P) P.depth ty _ (arr.size/P.cellsOf ty) o u n (Nat.div_le_div_right YM) k5
    simp [variablesAt,w8,hl]
 |_=>exact(ac h).elim
def wE{h:Home}{o:Nat}(hs:h.shift=0):(⟨h.blk,o-h.shift,none⟩:Addr)=⟨h.blk,o,none⟩:=by rw[hs];rfl
def ph{a:Addr}{ty m:Nat}(w8:w.shape? a.block=some (ty,m)):(Conv.seenAt a).run P w= .ok a w:=by simp [Conv.seenAt,viewAt,w8]
def D4{src dst:TypeId}{x:AV}{v:Value}(hS:SI σ)(hG:Good w0 ρ σ.h w)(hx:VR ρ x v)(h:run (Gk P src dst x k) σ K=true):Res P w0 ρ w k K (convert src dst v):=by
 obtain⟨s,hs,h1⟩:=bp h;obtain⟨d,hd,h2⟩:=bp h1;clear h h1;split at h2 <;> (have h:=h2;clear h2)
 ·cases hx;have h:=iy h;refine .plain h hS hG (.int _ _) ?_;simp [convert,run_underlying hs,run_underlying hd,Conv.intToInt]
 ·cases hx;refine .plain h hS hG (.str _) ?_;simp [convert,run_underlying hs,run_underlying hd]
 ·obtain⟨de,he,h⟩:=bp h;split at h
  ·cases hx;exact zQ hS hG hs hd he h
  ·exact(ac h).elim
 ·obtain⟨hsd,h⟩:=aj h;obtain⟨de,he,h⟩:=bp h;split at h
  ·obtain⟨hl,h⟩:=aj h;exact D3 hS hG hs hd he hx (by simpa using aF hsd) (aU hl) h
  ·exact(ac h).elim
 ·cases hx;refine .plain h hS hG .nilp ?_;simp [convert,run_underlying hs,run_underlying hd,Conv.unsafePointer]
 ·rename_i t0 b g o
  cases hx with
  |ptr b g o hm hh ho=>
   obtain⟨i,hi,h⟩:=bE h
   obtain⟨hz,h⟩:=kB h
   have hz:¬i.size=0:=λe=>by rw[e] at hz;cases hz
   obtain⟨q,c7,hq,e1,b6,h⟩:=aT hS h
   have b9:Good w0 ρ c7.h w:=by rw[e1];exact hG
   cases q with
   |cells c gen lo X7 fl fh ro ty=>
    obtain⟨k1,h⟩:=aj h
    obtain⟨x0,A',h⟩:=mD h
    cases x0 with
    |mk tag a0=>
     obtain⟨k2,h⟩:=aj h;obtain⟨WT,q1,_,_,arr,fr,q3,q4,q5,q6⟩:=(hG.blk _ _ hq).2 g (aU k1);rw[hh] at q1;injection q1 with q1;subst q1;obtain⟨_,v,r2,_⟩:=q6 o tag a0 A' (aU k2);have c8:o-hm.shift<arr.size:=by
      rcases aaf (o-hm.shift) arr.size with h'|h'
      ·exact h'
      ·rw[aaN h'] at r2;cases r2
     have w8:w.shape? hm.blk=some (ty,arr.size):=by simp [World.shape?,q3]
     refine .plain h b6 b9 (.ptr b g o hm hh ho) ?_;have Yl:¬arr.size<=o-hm.shift:=by omega
     simp [convert,run_underlying hs,run_underlying hd,Conv.unsafePointer,ph (a:=⟨hm.blk,o-hm.shift,none⟩) w8,cellsIn,w8,am hi,hz,Yl]
   |_=>exact(ac h).elim
 ·cases hx;refine .plain h hS hG .nilp ?_;simp [convert,run_underlying hs,run_underlying hd,Conv.unsafePointer]
 ·rename_i u b g o
  cases hx with
  |ptr b g o hm hh ho=>obtain⟨i,hi,h⟩:=bE h;obtain⟨c7,h,b6,e1,WZ,hv,ty,m,w8⟩:=BL hS hG hh h;refine .plain h b6 (by rw[e1];exact hG) (.ptr b g o hm hh ho) ?_;rw[wE WZ];simp [convert,run_underlying hs,run_underlying hd,Conv.unsafePointer,ph (a:=⟨hm.blk,o,none⟩) w8,am hi,hv]
 ·obtain⟨de,he,h⟩:=bp h;split at h
  ·cases hx;refine .plain h hS hG (v:=.string ⟨#[]⟩) (.str ⟨#[]⟩) ?_;exact(run_convert_bytes_nil w src _ hs he 0 0 dst hd)
  ·exact D2 hS hG hs hd he hx rfl h
  ·exact(ac h).elim
 ·exact(ac h).elim
def wF{src dst e:TypeId}{s:List Nat}{a:Addr}{c:Nat}(hs:P.underlying src=some (.slice e))(hd:P.underlying dst=some .string)(he:P.underlying e=some (.int .u8))(hc:∀j n,s[j]? =some n->w.cell? (a.add j)=some (.int .u8 (n:Nat))):∃t:ByteArray,bytesOf t=Ga s/\(convert src dst (.slice (some a) s.length c)).run P w= .ok (.string t) w:=by
 have fold:∀(l:List Nat) (r:ByteArray),(l.map (λn:Nat=>(n:Int))).foldl (λr n=>r.push (UInt8.ofNat n.toNat)) r=⟨r.data++(l.map UInt8.ofNat).toArray⟩:=by
  intro l
  induction l with
  |nil=>intro r;simp
  |cons n l ih=>intro r;simp only [aaw,List.foldl_cons];rw[ih];simp [ByteArray.push]
 refine⟨⟨(s.map UInt8.ofNat).toArray⟩, ?_, ?_⟩
 ·simp [bytesOf,Ga,aaW,Function.comp_def]
 ·rw[run_convert_bytes_string w src dst e (some a) s.length c hs he hd];have hl:=run_loadCells_list (P:=P) w a ((s.map (λn:Nat=>(n:Int))).map (Value.int .u8)) (λj v hj=>by
   rw[aaW,aaE] at hj
   cases hn:s[j]? with
   |none=>rw[hn] at hj;cases hj
   |some n=>rw[hn] at hj;injection hj with hj;rw[←hj];exact hc j n hn)
  simp only [aaF] at hl;rw[run_bytesToString w a s.length c _ hl,fold];have he0:ByteArray.empty.data= #[]:=rfl;rw[he0];simp
def mK{s:List Nat}{j n:Nat}(h:s[j]? =some n):((Ct.bytes s).row j)[0]? =some (.sI .u8 (n:Nat)):=by simp [Ct.row,aai,h]
def zT{src dst:TypeId}{x:AV}{v:Value}(hS:SI σ)(hG:Good w0 ρ σ.h w)(hx:VR ρ x v)(h:run (vR P src dst x k) σ K=true):Res P w0 ρ w k K (convert src dst v):=by
 obtain⟨s,hs,h1⟩:=bp h;obtain⟨d,hd,h2⟩:=bp h1;clear h h1;split at h2 <;> (have h:=h2;clear h2)
 ·cases hx;have h:=gT h;refine .plain h hS hG (.sI _ _) ?_;simp [convert,run_underlying hs,run_underlying hd,Conv.intToInt]
 ·cases hx;refine .plain h hS hG (.sS _) ?_;simp [convert,run_underlying hs,run_underlying hd]
 ·rename_i e l;obtain⟨de,he,h⟩:=bp h;split at h
  ·cases hx with
   |sS s=>
    have hn:(bytesOf s).length=s.size:=aM s;have W3:=grownCap_ge w s.size 0 e;have m8:=kf W3;rcases bU h with⟨i4,h⟩|⟨i4,h⟩
    ·obtain⟨b,a8,x6,d4,e1,j7,h⟩:=cZ hS h;have hGd:Good w0 ρ σ.h w.drew:=hG.drawn _;obtain⟨hle,g9⟩:=hGd.alloc x6 d4 (.grow (.bytes (bytesOf s)) 0 e) (.cells (bytesRow s (grownCap w s.size 0 e)) e ((bytesRow s (grownCap w s.size 0 e)).size,(bytesRow s (grownCap w s.size 0 e)).size+1)) 0 (bytesRow s (grownCap w s.size 0 e)).size (λρ' hle j5 _=>by
      refine .inr ⟨_,j5,rfl,.new hG.below.size,bytesRow s (grownCap w s.size 0 e),((bytesRow s (grownCap w s.size 0 e)).size,(bytesRow s (grownCap w s.size 0 e)).size+1), ?_,rfl, ?_, ?_,λi hi j a ha=>?_⟩
      ·show(w.heap.push _)[w.heap.size]? =_;simp
      ·show(bytesOf s).length * 1<=(bytesRow s (grownCap w s.size 0 e)).size;rw[hn,m8];omega
      ·intro x h1 h2 h3;simp only at h1 h2;omega
      ·have hi:i<(bytesOf s).length:=hi
       have ZH:(bytesOf s)[i]? =some (bytesOf s)[i]:=aah hi
       cases j with
       |succ j=>simp [Ct.row] at ha
       |zero=>
        rw[mK ZH] at ha
        injection ha with ha
        subst ha
        refine⟨.int .u8 ((bytesOf s)[i]:Nat), ?_,.sI _ _⟩
        show(bytesRow s _)[i * 1+0]? =_
        refine lB ?_
        rw[aaC,aas,aaE]
        unfold bytesOf at ZH⊢
        rw[aaE] at ZH
        cases hq:s.data.toList[i]? with
        |none=>rw[hq] at ZH;cases ZH
        |some q=>rw[hq] at ZH;injection ZH with ZH;simp only [aaQ];rw[←ZH])
     rw[←e1] at g9;refine⟨_,a8,_,_,_,h,j7,g9,hle, ?_,run_bytes_of_string w src dst e s hs hd he⟩;have c8:0<s.size:=by omega
     rw[hn];refine .gsl b 0 s.size 1 _ _ c8 (Rho.put_at _ _ _ _) rfl W3 ?_;show grownCap w s.size 0 e * 1<=(bytesRow s _).size;omega
    ·have h0:s.size=0:=by omega
     obtain⟨b,a8,h2,j7,hle,g9⟩:=kE 1 (w:=w.drew) (bytesRow s (grownCap w s.size 0 e)) e ((bytesRow s (grownCap w s.size 0 e)).size,(bytesRow s (grownCap w s.size 0 e)).size+1)
      ⟨by simp,λx h1 h2 _=>by omega⟩ hS (hG.drawn _) (by simp) (λi a ha=>by simp at ha) h
     have b7:=run_bytes_of_string w src dst e s hs hd he;have e0:=congrArg (λn=>Value.slice (some ⟨w.heap.size,0,none⟩) n (grownCap w s.size 0 e)) h0;have b7:(convert src dst (.string s)).run P w= .ok (Value.slice (some ⟨w.heap.size,0,none⟩) 0 (grownCap w s.size 0 e)) (w.drew.alloc (.cells (bytesRow s (grownCap w s.size 0 e)) e ((bytesRow s (grownCap w s.size 0 e)).size,(bytesRow s (grownCap w s.size 0 e)).size+1))):=by rw[b7];exact congrArg (Result.ok · _) e0
     refine⟨_,a8,_,_,_,h2,j7,g9,hle, ?_,b7⟩;exact VR.slc (ρ:=ρ.put b 0 ⟨w.heap.size,0,(bytesRow s (grownCap w s.size 0 e)).size⟩) b 0 0 0 none 1 ⟨w.heap.size,0,none⟩ (grownCap w s.size 0 e) ⟨aan _,.inr ⟨_,Rho.put_at _ _ _ _,aan _,rfl,by show 0-0+grownCap w s.size 0 e * 1<=(bytesRow s _).size;omega⟩⟩
  ·exact(ac h).elim
 ·obtain⟨de,he,h⟩:=bp h;split at h
  ·rename_i e s _ _
   cases hx with
   |cv _ blk off cp arr ty hf hc hb r=>
    obtain⟨⟨fr,hw⟩,_⟩:=hG.frz _ _ _ hf;have hb:off+s.length * 1<=arr.size:=hb;obtain⟨t,ht,b7⟩:=wF (P:=P) (w:=w) (s:=s) (a:=⟨blk,off,none⟩) (c:=cp) hs hd he (λj n hj=>by
     have Zp:j<s.length:=by
      rcases aaf j s.length with h'|h'
      ·exact h'
      ·rw[aak h'] at hj;cases hj
     have hv:arr[off+j * 1+0]? =some arr[off+j]:=by rw[aaC,aas];exact aaK (by omega)
     have:=r j 0 _ _ Zp (mK hj) hv
     rw[bz]
     simp only [World.cell?,hw]
     simp only [Zl,Bool.false_eq_true,if_false]
     rw[aaK (by omega)]
     cases g8:arr[off+j]'(by omega) with
     |int k2 n2=>rw[g8] at this;cases this;rfl
     |_=>rw[g8] at this;cases this)
    refine .plain h hS hG (v:=.string t) (by rw[←ht];exact .sS t) b7
   |cvnil _ h0=>have h0:s.length=0:=h0;have:s= []:=List.length_eq_zero_iff.1 h0;subst this;refine .plain h hS hG (v:=.string ⟨#[]⟩) (.sS ⟨#[]⟩) (run_convert_bytes_nil w src _ hs he 0 0 dst hd)
   |cvempty _ a h0=>have h0:s.length=0:=h0;have:s= []:=List.length_eq_zero_iff.1 h0;subst this;refine .plain h hS hG (v:=.string ⟨#[]⟩) (.sS ⟨#[]⟩) (run_convert_bytes_back w src dst _ a 0 [] hs he hd (λj hj=>by cases hj))
  ·exact(ac h).elim
 ·rename_i e b g n es;obtain⟨de,he,h⟩:=bp h;split at h
  ·obtain⟨q,c7,hq,e1,b6,z0⟩:=aT hS h;clear h;have b9:Good w0 ρ c7.h w:=by rw[e1];exact hG
   split at z0
   ·rename_i s gen ty
    obtain⟨k1,z1⟩:=aj z0
    obtain⟨k2,z2⟩:=aj z1
    obtain⟨k3,z3⟩:=aJ z2
    clear z0 z1 z2
    have k1:=aF k1
    have k2:=aF k2
    subst k1;subst k2
    have hsn:∀{m:Nat},s.length=m->m=0->s= []:=λe1 e2=>List.length_eq_zero_iff.1 (by omega)
    cases hx with
    |gsl _ _ _ _ hm c X6 hh w8 W2 hz=>
     rcases hG.blk _ _ hq with h0|⟨u0,q1,q2,q3,arr,fr,q4,q5,q6,q7,q8⟩
     ·have h0:s.length=0:=h0;omega
     rw[hh] at q1;injection q1 with q1;subst q1;obtain⟨t,ht,b7⟩:=wF (P:=P) (w:=w) (s:=s) (a:=⟨hm.blk,0,none⟩) (c:=c) hs hd he (λj n hj=>by
      have Zp:j<s.length:=by
       rcases aaf j s.length with h'|h'
       ·exact h'
       ·rw[aak h'] at hj;cases hj
      obtain⟨u,u1,u2⟩:=q8 j Zp 0 _ (mK hj);rw[bz];simp only [World.cell?,q4];simp only [Zl,Bool.false_eq_true,if_false,aam];have u1:arr[j * 1+0]? =some u:=u1;rw[aaC,aas] at u1;rw[u1];cases u2;rfl)
     rw[k3] at b7;exact .plain z3 b6 b9 (v:=.string t) (by rw[←ht];exact .sS t) b7
    |gnil _ _ _=>obtain rfl:=hsn k3 rfl;exact .plain z3 b6 b9 (v:=.string ⟨#[]⟩) (.sS ⟨#[]⟩) (run_convert_bytes_nil w src _ hs he 0 0 dst hd)
    |gempty _ _ _ a=>obtain rfl:=hsn k3 rfl;exact .plain z3 b6 b9 (v:=.string ⟨#[]⟩) (.sS ⟨#[]⟩) (run_convert_bytes_back w src dst _ a 0 [] hs he hd (λj hj=>by cases hj))
   ·exact(ac z0).elim
  ·exact(ac h).elim
 ·exact(ac h).elim
def G7{src dst:TypeId}{x:AV}{v:Value}(hS:SI σ)(hG:Good w0 ρ σ.h w)(hx:VR ρ x v)(h:run (N5 P src dst x k) σ K=true):Res P w0 ρ w k K (convert src dst v):=by
 rcases bf h with⟨_,h⟩|⟨_,h⟩
 ·exact zT hS hG hx h
 ·exact D4 hS hG hx h
end
end Go.Sym
