/- Part 5. -/
import Derived.Laws.IdiomStrings
import Derived.Test.YthgjkeemmhcpfaaGreatDoorP2
import Derived.Test.YthgjkeemmhcpfaaGreatDoorP4
set_option linter.all false
namespace Go.Sym
open Go.RowKit (Below)
section
variable{P:Program}{w0:World}{ρ:Rho}{w:World}{σ:St}{K:Fin}{k:AV->Tr}
def heap_setCell(w:World)(a:Addr)(v:Value)(i:Nat):(w.setCell a v).heap[i]? =if a.block=i then(w.heap[i]?).map (fun
 | .cells c elem fr=>.cells (if a.spot.isSome then c else c.setIfInBounds a.off v) elem fr
 |o=>o) else w.heap[i]? :=by
 simp only [World.setCell,Array.getElem?_modify]
 split <;> rfl
def Good.store{H:T ABlk}(hG:Good w0 ρ H w){b o gen lo hi fl fh tag ty:Nat}{c:T Cell}{h:Home}{a0 a:AV}{v:Value}(hb:H.get b=some (.cells c gen lo hi fl fh false ty))(f9:b+1<2 ^ 64)(hh:ρ.at_ b gen=some h)(hc:c.get o=some (.mk tag a0))(ht:tag<=gen)(hv:VR ρ a v)(ab0:fQ a=true)(hfz:¬(fl<=o/\o<fh)):
 h.shift<=o/\(Go.store ⟨h.blk,o-h.shift,none⟩ v).run P w= .ok () (w.setCell ⟨h.blk,o-h.shift,none⟩ v)/\
 Good w0 ρ (H.set b (.cells (c.set o (.mk gen a)) gen lo hi fl fh false ty)) (w.setCell ⟨h.blk,o-h.shift,none⟩ v):=by
 have hB:=hG.blk _ _ hb
 obtain⟨hm,q1,q2,_,arr,fr,q3,q4,q5,q6⟩:=hB.2 gen (aaa _)
 rw[hh] at q1;injection q1 with q1;subst q1
 have q2:=q2 rfl
 obtain⟨q5a,q5b⟩:=q5 rfl
 obtain⟨hsh,v0,r1,_⟩:=q6 o tag a0 hc ht
 have c8:o-h.shift<arr.size:=by
  rcases aaf (o-h.shift) arr.size with h'|h'
  ·exact h'
  ·rw[aaT h'] at r1;cases r1
 have i6:w.cell? ⟨h.blk,o-h.shift,none⟩=some v0:=by simp [World.cell?,q3,r1]
 have ak7:w.frozen? ⟨h.blk,o-h.shift,none⟩=false:=by
  simp only [World.frozen?,q3]
  obtain⟨f1,f2⟩:=fr
  cases hx:(decide (f1<=o-h.shift) && decide (o-h.shift<f2)) with
  |false=>rfl
  |true=>simp only [Bool.and_eq_true,decide_eq_true_eq] at hx;have:=q5b (o-h.shift) (.inl (by omega)) hx.1 hx.2;exact absurd (by omega) hfz
 refine⟨hsh, ?_, ?_⟩
 ·rw[run_store P w _ v .plain (jo hv ab0),i6];simp [ak7]
 ·refine hG.turn (hrs:=⟨b,gen,h,hh,rfl⟩) hb f9 h.blk q2 (Kept.setCell (p:=⟨h.blk,o-h.shift,none⟩) q2 v) (by simp [World.setCell]) (λk hk _=>?_) (λb' g' h' j9 e'=>(hG.inj _ _ _ _ _ _ j9 hh e').1) ⟨λo' x hx=>?_,λg' hg'=>?_⟩
  ·rw[heap_setCell,if_neg (λe=>hk e.symm)]
  ·by_cases eo:o'=o
   ·subst eo;have:=T.get_set_some _ _ hx;rw[this];exact⟨(hB.1 _ _ hc).1,(hB.1 _ _ hc).2.1,aaa _⟩
   ·rw[T.get_set_ne _ eo] at hx;exact hB.1 _ _ hx
  ·obtain⟨hm',s1,s2,s2',u0,fr',s3,s4,s5,s6⟩:=hB.2 g' hg';by_cases eb:hm'.blk=h.blk
   ·obtain⟨_,ehm⟩:=hG.inj _ _ _ _ _ _ s1 hh eb;subst ehm;rw[q3] at s3;injection s3 with s3;injection s3 with s3a s3b s3c;subst s3a;subst s3c;refine⟨_,s1,s2,s2',arr.setIfInBounds (o-hm'.shift) v,fr, ?_,by simpa using s4,s5,λo' ae2 a' ho' ht'=>?_⟩
    ·rw[heap_setCell,if_pos rfl,q3];rfl
    ·by_cases eo:o'=o
     ·subst eo;have:=T.get_set_some _ _ ho';injection this with e1 e2;subst e2;exact⟨hsh,v,by rw[aaG];simp [c8],hv⟩
     ·rw[T.get_set_ne _ eo] at ho';obtain⟨u1,v',u2,u3⟩:=s6 o' ae2 a' ho' ht';exact⟨u1,v',by rw[aaG,if_neg (by omega)];exact u2,u3⟩
   ·refine⟨hm',s1,s2,s2',u0,fr', ?_,s4,s5,λo' ae2 a' ho' ht'=>?_⟩
    ·rw[heap_setCell,if_neg (λe=>eb e.symm)];exact s3
    ·by_cases eo:o'=o
     ·subst eo;have:=T.get_set_some _ _ ho';injection this with e1 e2;have:g'=gen:=by omega
      subst this;rw[hh] at s1;injection s1 with s1;subst s1;exact absurd rfl eb
     ·rw[T.get_set_ne _ eo] at ho';exact s6 o' ae2 a' ho' ht'
def stsT{b gen lo hi fl fh o0 ty:Nat}{h:Home}(f9:b+1<2 ^ 64)(hh:ρ.at_ b gen=some h)(ho0:h.shift<=o0):∀(l:List AV) (vs:List Value) (i:Nat) (c:T Cell) (w:World) (H:T ABlk) (k:T Cell->Tr),
 Good w0 ρ H w->H.get b=some (.cells c gen lo hi fl fh false ty)->LR ρ l vs->run (Wa gen fl fh l (o0+i) c k) σ K=true->
 ∃c' w',run (k c') σ K=true/\(storeCells ⟨h.blk,o0-h.shift,none⟩ vs i).run P w= .ok () w'/\Good w0 ρ (H.set b (.cells c' gen lo hi fl fh false ty)) w':=by
 intro l
 induction l with
 |nil=>
  intro vs i c w H k hG hb hl hr
  rw[hl.nil_inv]
  exact⟨c,w,hr,rfl,hG.ext λb'=>by
   by_cases e:b'=b
   ·subst e;rw[T.get_set_same _ _ _ f9,hb]
   ·rw[T.get_set_ne _ e]⟩
 |cons a l ih=>
  intro vs i c w H k hG hb hl hr
  obtain⟨v,K',rfl,hv,E'⟩:=hl.cons_inv
  have hr:run (ac (fQ a) (ac (ac (Nat.ble fl (o0+i)) (Nat.ble (Nat.succ (o0+i)) fh) false) .fail (T.getK c (o0+i) .fail λx=>match x with
   | .mk tag _=>ac (Nat.ble tag gen) (T.setK c (o0+i) (.mk gen a) λc=>fN (Nat.succ (o0+i)) λo=>Wa gen fl fh l o c k) .fail)) .fail) σ K=true:=hr
  obtain⟨ab0,hr⟩:=ay hr
  obtain⟨hfz,hr⟩:=qw hr
  obtain⟨x,hx,hr⟩:=ul hr
  cases x with
  |mk tag a0=>
   obtain⟨ht,hr⟩:=ay hr
   rw[T.setK_eq] at hr
   have hr:=jV hr
   have aq4:¬(fl<=o0+i/\o0+i<fh):=λ⟨e1,e2⟩=>by rw[ar,if_pos (Nat.ble_eq.mpr e1)] at hfz;rw[Nat.ble_eq.mpr e2] at hfz;cases hfz
   obtain⟨_,s1,s2⟩:=hG.store (P:=P) hb f9 hh hx (bY ht) hv ab0 aq4
   obtain⟨c',w',r1,r2,r3⟩:=ih K' (i+1) (c.set (o0+i) (.mk gen a)) _ _ k s2 (T.get_set_same _ _ _ f9) E' hr
   refine⟨c',w',r1, ?_,r3.ext λb'=>?_⟩
   ·have ea:(⟨h.blk,o0-h.shift,none⟩:Addr).add i=⟨h.blk,o0+i-h.shift,none⟩:=by
     unfold Addr.add;split
     ·rename_i e;subst e;simp
     ·simp;omega
    simp only [storeCells,aab,ea,s1,aae];exact r2
   ·by_cases e:b'=b
    ·subst e;rw[T.get_set_same _ _ _ f9,T.get_set_same _ _ _ f9]
    ·rw[T.get_set_ne _ e,T.get_set_ne _ e,T.get_set_ne _ e]
def kL{b g o:Nat}{h:Home}{l:List AV}{vs:List Value}{k:Tr}(hS:SI σ)(hG:Good w0 ρ σ.h w)(hh:ρ.at_ b g=some h)(ho:h.shift<=o)(hl:LR ρ l vs)(hr:run (lD b g o l k) σ K=true):
 Il P w0 ρ w k K (storeCells ⟨h.blk,o-h.shift,none⟩ vs):=by
 have f9:=cW hS hr
 obtain⟨x,b7,hx,e1,b6,hr⟩:=bG hS hr
 cases x with
 |cells c gen lo hi fl fh ro ty=>
  obtain⟨hro,hr⟩:=qw hr
  subst hro
  obtain⟨hg,hr⟩:=ay hr
  have hg:=aL hg
  subst hg
  obtain⟨c',w',r1,r2,r3⟩:=stsT (P:=P) (o0:=o) f9 hh ho l vs 0 c w σ.h _ hG hx hl hr
  obtain⟨x0,i3,_,e2,i9,_,r4⟩:=ft b6 r1
  exact⟨i3,w',r4,i9,by rw[e2,e1];exact r3,r2⟩
 |_=>exact(ah hr).elim
def ny{w:World}{b o:Nat}{v:Value}(h:w.cell? ⟨b,o,none⟩=some v):w.setCell ⟨b,o,none⟩ v=w:=by
 have e:(w.setCell ⟨b,o,none⟩ v).heap=w.heap:=by
  refine Array.ext_getElem? λi=>?_;rw[heap_setCell];split
  ·rename_i hb
   subst hb
   simp only [World.cell?] at h
   cases hw:w.heap[b]? with
   |none=>rfl
   |some y=>
    rw[hw] at h
    cases y with
    |cells c elem fr=>
     simp only [aa3,Bool.false_eq_true,if_false] at h;simp only [aaV,aa3,Bool.false_eq_true,if_false,Option.some.injEq,Obj.cells.injEq,and_true];refine Array.ext_getElem? λj=>?_;rw[aaG];split
     ·rename_i ej;subst ej;rw[h];split
      ·rfl
      ·rename_i hn;rw[aaT (by omega)] at h;cases h
     ·rfl
    |_=>rfl
  ·rfl
 show({w with heap:=(w.setCell ⟨b,o,none⟩ v).heap}:World)=w;rw[e]
def jX{w w':World}{b o:Nat}:∀{vs:List Value} {i:Nat},(∀u∈vs,u.oneCell'=true)->(∀(j:Nat) (u:Value),vs[j]? =some u->w.cell? ⟨b,o+(i+j),none⟩=some u)->(storeCells ⟨b,o,none⟩ vs i).run P w= .ok () w'->w'=w
 | [],i,_,_,h=>by simp only [storeCells,aad] at h;injection h with _ h;exact h.symm
 |u::r,i,h1,h2,h=>by
  have hu:=h2 0 u rfl;have ea:(⟨b,o,none⟩:Addr).add i=⟨b,o+(i+0),none⟩:=by unfold Addr.add;split <;> simp_all
  simp only [storeCells,aab,ea,run_store P w _ u .plain (h1 u (by simp)),hu] at h;split at h
  ·cases h
  ·rw[ny hu] at h;simp only [aae] at h;exact jX (λx hx=>h1 x (by simp [hx])) (λj x hx=>by rw[show i+1+j=i+(j+1) by omega];exact h2 (j+1) x (by simpa using hx)) h
def kM{w w':World}{b o:Nat}{v:Value}:∀{vs:List Value} {i m:Nat},(∀u∈vs,u.oneCell'=true)->(∀(j:Nat) (u:Value),vs[j]? =some u->(j=m->u=v)/\(j≠m->w.cell? ⟨b,o+(i+j),none⟩=some u))->m<vs.length->
 (storeCells ⟨b,o,none⟩ vs i).run P w= .ok () w'->(∃v0,w.cell? ⟨b,o+(i+m),none⟩=some v0)->(Go.store ⟨b,o+(i+m),none⟩ v).run P w= .ok () w'
 | [],i,m,_,_,hm,_,_=>by simp at hm
 |u::r,i,m,h1,h2,hm,h,hc=>by
  have ea:(⟨b,o,none⟩:Addr).add i=⟨b,o+(i+0),none⟩:=by unfold Addr.add;split <;> simp_all
  have ab0:=h1 u (by simp)
  cases m with
  |zero=>
   obtain⟨v0,hc⟩:=hc;have hu:=(h2 0 u rfl).1 rfl;subst hu;simp only [storeCells,aab,ea] at h;rw[run_store P w _ u .plain ab0,hc] at h⊢;simp only at h⊢;split at h
   ·cases h
   ·rename_i hf;rw[if_neg hf];simp only [aae] at h;have:=jX (λx hx=>h1 x (by simp [hx])) (λj x hx=>by rw[World.cell?_setCell_other _ _ _ _ (by intro e;injection e with _ e2;omega),show i+1+j=i+(j+1) by omega];exact(h2 (j+1) x (by simpa using hx)).2 (by omega)) h;rw[this]
  |succ m=>
   have hu:=(h2 0 u rfl).2 (by omega);simp only [storeCells,aab,ea,run_store P w _ u .plain ab0,hu] at h;split at h
   ·cases h
   ·rw[ny hu] at h;simp only [aae] at h;rw[show i+(m+1)=i+1+m by omega] at hc⊢;refine kM (λx hx=>h1 x (by simp [hx])) (λj x hx=>?_) (by simpa using hm) h hc;obtain⟨q1,q2⟩:=h2 (j+1) x (by simpa using hx);exact⟨λe=>q1 (by omega),λe=>by rw[show i+1+j=i+(j+1) by omega];exact q2 (by omega)⟩
def Ai(j:IntKind)(i x:Int):∀(m:Nat) (ns:List Int),(uk j i x m ns).length=ns.length
 |_,[]=>rfl
 |m,n::ns=>by simp [uk,Ai j i x (m+1) ns]
def xq(j:IntKind)(i x:Int):∀(m:Nat) (ns:List Int) (p:Nat),(uk j i x m ns)[p]? =(ns[p]?).map λn=>.sI j (Ur (i=((m+p:Nat):Int)) x n)
 |_,[],p=>by simp [uk]
 |m,n::ns,p=>by
  cases p with
  |zero=>simp [uk]
  |succ p=>simp only [uk,aby,xq j i x (m+1) ns p];rw[show m+1+p=m+(p+1) by omega]
def Lm(j:IntKind)(i x:Int)(m:Nat)(ns:List Int):∀a∈uk j i x m ns,fQ a=true:=by
 intro a ha
 obtain⟨p,hp⟩:=List.mem_iff_getElem?.1 ha
 rw[xq] at hp
 cases hn:ns[p]? with
 |none=>rw[hn] at hp;cases hp
 |some n=>rw[hn] at hp;injection hp with hp;rw[←hp];rfl
def Ln{t:TypeId}{x y:AV}{v u:Value}{k:Tr}(hS:SI σ)(hG:Good w0 ρ σ.h w)(hx:VR ρ x v)(hy:VR ρ y u)(hr:run (KF P t x y k) σ K=true):Il P w0 ρ w k K (Instr.storeAt t v u):=by
 cases hx with
 |ptr b g o h hh ho=>
  obtain⟨i,hi,hr⟩:=cC hr;obtain⟨l,hl,hr⟩:=iy hy hr;obtain⟨hlen,hr⟩:=ay hr;have hlen:=aL hlen;obtain⟨a9,w',r1,r2,r3,r4⟩:=kL (P:=P) hS hG hh ho hl hr;refine⟨a9,w',r1,r2,r3, ?_⟩;have T':u.cells.size=i.size:=by rw[←aaJ,hl.1];exact hlen
  simp only [Instr.storeAt,Instr.sureAddr,storeVar,aab,aad,aae,aA hi,T',ne_eq,not_true_eq_false,if_false];exact r4
 |gptr b g i o es hm hh hs=>
  obtain⟨ii,hi,hr⟩:=cC hr
  obtain⟨l,hl,hr⟩:=iy hy hr
  obtain⟨hlen,hr⟩:=ay hr
  have hlen:=aL hlen
  obtain⟨l9,hr⟩:=ay hr
  have l9:=bY l9
  have f9:=cW hS hr
  obtain⟨q,b7,hq,e1,b6,hr⟩:=bG hS hr
  have b9:Good w0 ρ b7.h w:=by rw[e1];exact hG
  cases q with
  |grow c gen ty=>
   obtain⟨k1,z1⟩:=ay hr
   obtain⟨k2,z2⟩:=ay z1
   obtain⟨k3,z3⟩:=ay z2
   obtain⟨k4,z4⟩:=ay z3
   clear hr z1 z2 z3
   have k1:=aL k1
   have k2:=aL k2
   have k3:=bY k3
   have ab0:∀a∈l,fQ a=true:=λa ha=>List.all_eq_true.1 k4 a ha
   subst k1;subst k2
   cases hu:c.upd i o l with
   |none=>rw[hu] at z4;exact(ah z4).elim
   |some r=>
    obtain⟨c',p⟩:=r;rw[hu] at z4;obtain⟨⟨hin,hp⟩,z5⟩:=aN z4;obtain⟨x0,i3,hx0,e2,i9,_,z6⟩:=ft b6 z5;clear z4 z5;obtain⟨u1,u2,u3,u4⟩:=Wk hu hp hin (by omega);have M':b7.h.get b=some (.grow c g ty):=by rw[e1];exact hq
    rcases b9.blk _ _ M' with h0|⟨hm',q1,q2,q3,arr,fr,q4,q5,q6,q7,q8⟩
    ·omega
    rw[hh] at q1;injection q1 with q1;subst q1;have hcl:u.cells.toList.length=l.length:=hl.1;have ae3:i * c.es+c.es<=c.len * c.es:=by rw[←aaN];exact aay _ hin
    have ac8:(i * c.es+o)+u.cells.toList.length<=arr.size:=by rw[hcl];omega
    obtain⟨u0,s1,s2,s3,s4,s5,s6,s7⟩:=fe hm.blk u.cells.toList (i * c.es+o) w arr ty fr q4 ac8;have A':=run_storeCells_cells (P:=P) hm.blk (i * c.es+o) u.cells.toList 0 w (λj hj=>by
     simp only [World.cell?,q4]
     simp only [aa3,Bool.false_eq_true,if_false,aas]
     rw[aaM (by omega)];rfl) (λj hj=>by
     simp only [World.frozen?,q4,aas]
     cases hx:(decide (fr.1<=i * c.es+o+j) && decide (i * c.es+o+j<fr.2)) with
     |false=>rfl
     |true=>simp only [Bool.and_eq_true,decide_eq_true_eq] at hx;exact(q7 _ (by omega) hx.1 hx.2).elim) (hl.ones ab0)
    rw[aas] at A';have hG3:Good w0 ρ (b7.h.set b (.grow c' g ty)) (w.setCells hm.blk (i * c.es+o) u.cells.toList):=by
     refine b9.turn (hrs:=⟨b,g,hm,hh,rfl⟩) M' f9 hm.blk q3 (Kept.of_set (s7 0 (aap _)) s5 q3) (by omega) (λx hx _=>s5 x hx) (λb' g' h' j9 e'=>(hG.inj _ _ _ _ _ _ j9 hh e').1) ?_;refine .inr ⟨hm,hh,q2,q3,u0,fr,s1,by omega,by rw[u1,u2];exact q6,q7,λi' hi'=>?_⟩;rw[u1] at hi';rw[u2];by_cases e:i'=i
     ·subst e;refine nx (λj a ha=>?_) (u4 ρ);have hrl:=c.row_len i';have hj:j<c.es:=by
       rcases aaf j c.es with h'|h'
       ·exact h'
       ·rw[aak (by simp;omega)] at ha;cases ha
      by_cases hj1:j<o
      ·rw[aav,aaA (by simp;omega),aar hj1] at ha;obtain⟨uu,v1,v2⟩:=q8 i' hin j a ha;exact⟨uu,by rw[s4 _ (.inl (by omega))];exact v1,v2⟩
      ·by_cases hj2:j<o+l.length
       ·rw[aav,aax (by simp;omega),aaA (by simp;omega)] at ha;have ha:l[j-o]? =some a:=by rw[←ha];congr 1;simp;omega
        obtain⟨uu,v1,v2⟩:=hl.get ha;refine⟨uu, ?_,v2⟩;have hjl:j-o<u.cells.toList.length:=by
         rcases aaf (j-o) u.cells.toList.length with h'|h'
         ·exact h'
         ·rw[aak h'] at v1;cases v1
        have:=s3 (j-o) hjl;rw[show i' * c.es+j=i' * c.es+o+(j-o) by omega,this];exact v1
       ·rw[aax (by simp;omega),aat] at ha;have ha:(c.row i')[j]? =some a:=by rw[←ha];congr 1;simp;omega
        obtain⟨uu,v1,v2⟩:=q8 i' hin j a ha;exact⟨uu,by rw[s4 _ (.inr (by rw[hcl];omega))];exact v1,v2⟩
     ·rw[u3 i' e];intro j a ha;obtain⟨uu,v1,v2⟩:=q8 i' hi' j a ha;have hj:j<c.es:=by
       have:=c.row_len i';rcases aaf j c.es with h'|h'
       ·exact h'
       ·rw[aak (by omega)] at ha;cases ha
      refine⟨uu, ?_,v2⟩;rw[s4 _ ?_]
      ·exact v1
      ·rw[hcl];rcases Nat.lt_or_gt_of_ne e with e|e
       ·left;have:i' * c.es+c.es<=i * c.es:=by rw[←aaN];exact aay _ e
        omega
       ·right;have:i * c.es+c.es<=i' * c.es:=by rw[←aaN];exact aay _ e
        omega
    refine⟨i3,_,z6,i9,by rw[e2];exact hG3, ?_⟩;have T':u.cells.size=ii.size:=by rw[←aaJ,hl.1];exact hlen
    simp only [Instr.storeAt,Instr.sureAddr,storeVar,aab,aad,aae,aA hi,T',ne_eq,not_true_eq_false,if_false];exact A'
  |_=>exact(ah hr).elim
 |aptr b g o n i hm hh ho hi0 hi1=>
  obtain⟨ii,hi,hr⟩:=cC hr;obtain⟨T',hr⟩:=ay hr;have T':=aL T';obtain⟨l,cs,b7,e1,b6,hr,hl,hlen,i6,_⟩:=gu (P:=P) hS hG hh ho hr;obtain⟨q,hq,hr⟩:=bT hr;obtain⟨r,hy1,hr⟩:=bT hr;obtain⟨hk,hr⟩:=ay hr;have hk:=of_decide_eq_true hk;obtain⟨j,ns⟩:=q;obtain⟨j',x⟩:=r;have hk:j=j':=hk;subst hk;obtain⟨q1,q2⟩:=Ac hq;have q1:ns.length=l.length:=q1;have hu:=bc hy hy1;subst hu;have hln:l.length=n:=by have:=hl.1;omega
  let vs:List Value:=(List.range n).map λ(p:Nat)=>Value.int j (Ur (i=(p:Int)) x (ns.getD p 0));have I':LR ρ (uk j i x 0 ns) vs:=by
   refine⟨by simp [vs,Ai];omega,λp a v ha hv=>?_⟩
   rw[xq] at ha
   cases hn:ns[p]? with
   |none=>rw[hn] at ha;cases ha
   |some m=>
    rw[hn] at ha;injection ha with ha;have hp:p<n:=by
     rcases aaf p n with h'|h'
     ·exact h'
     ·rw[aak (by omega)] at hn;cases hn
    simp [vs,hp,List.getD,hn] at hv;rw[←ha, ←hv,aam];exact .sI j _
  obtain⟨a9,w',r1,r2,r3,r4⟩:=kL (P:=P) b6 (by rw[e1];exact hG) hh ho I' hr;have hin:i.toNat<n:=by omega
  have am8:∀(p:Nat),p<n->w.cell? ⟨hm.blk,o-hm.shift+p,none⟩=some (.int j (ns.getD p 0)):=λp hp=>by have ha:l[p]? =some l[p]:=aai (by omega);obtain⟨u,u1,u2⟩:=hl.get ha;rw[i6 _ _ u1,bc u2 (q2 _ _ ha)]
  refine⟨a9,w',r1,r2,r3, ?_⟩;have key:=kM (P:=P) (v:=.int j x) (m:=i.toNat) (I'.ones (Lm j i x 0 ns)) (λp u hp=>?_) (by simp [vs];exact hin) r4 ⟨_,by rw[aam];exact am8 _ hin⟩
  ·rw[aam] at key;simp only [Instr.storeAt,Instr.sureAddr,storeVar,aab,aad,aae,aA hi,T'];have ec:(Value.int j x).cells= #[.int j x]:=rfl;have ea:(⟨hm.blk,o-hm.shift+i.toNat,none⟩:Addr).add 0=⟨hm.blk,o-hm.shift+i.toNat,none⟩:=rfl;have e1:(#[Value.int j x]:Array Value).size=1:=rfl;simp only [ec,e1,ne_eq,not_true_eq_false,if_false,storeCells,ea,aab,key,aae];rfl
  ·have hp':p<n:=by
    rcases aaf p n with h'|h'
    ·exact h'
    ·rw[aak (by simp [vs];exact h')] at hp;cases hp
   simp [vs,hp'] at hp;rw[←hp,aam];constructor
   ·intro e;subst e;simp only [Ur];rw[if_pos (by omega)]
   ·intro e;rw[am8 p hp'];simp only [Ur,Option.some.injEq,Value.int.injEq,true_and];rw[if_neg (by omega)];simp [List.getD]
 |_=>exact(ah hr).elim
end
end Go.Sym
namespace Go.Sym
open Go.RowKit (Below)
def um(off:Nat):∀(l:List Value) (j:Nat) (cs:Array Value),off+j+l.length<=cs.size->
 ((l.zipIdx j).foldl (λcs p=>cs.setIfInBounds (off+p.2) p.1) cs).size=cs.size/\
 ∀x,((l.zipIdx j).foldl (λcs p=>cs.setIfInBounds (off+p.2) p.1) cs)[x]? =if off+j<=x/\x<off+j+l.length then l[x-off-j]? else cs[x]? :=by
 intro l
 induction l with
 |nil=>intro j cs _;refine⟨rfl,λx=>?_⟩;simp;intro h1 h2;omega
 |cons a l ih=>
  intro j cs h
  simp only [aau] at h
  rw[List.zipIdx_cons,List.foldl_cons]
  obtain⟨h1,h2⟩:=ih (j+1) (cs.setIfInBounds (off+j) a) (by simp;omega)
  refine⟨by rw[h1];simp,λx=>?_⟩
  rw[h2 x,aaG]
  simp only [aau]
  by_cases e:x=off+j
  ·subst e;rw[if_neg (by omega),if_pos rfl,if_pos (by omega),if_pos (by omega)];simp
  ·by_cases e2:off+(j+1)<=x/\x<off+(j+1)+l.length
   ·rw[if_pos e2,if_pos (by omega),show x-off-j=(x-off-(j+1))+1 by omega];simp
   ·rw[if_neg e2,if_neg (by omega),if_neg (by omega)]
section
variable{P:Program}{w0:World}{ρ:Rho}{w:World}{σ:St}{K:Fin}{k:AV->Tr}
def C_{l cs:List AV}{arr:Array Value}{vs:Array Value}{off:Nat}(hl:LR ρ l arr.toList)(hc:LR ρ cs vs.toList)(hlen:off+cs.length<=l.length):
 LR ρ (dX l off cs) (vs.zipIdx.foldl (λcs (c,j)=>cs.setIfInBounds (off+j) c) arr).toList:=by
 have hn:vs.size=cs.length:=by have:=hc.1;simpa using this
 have hm:arr.size=l.length:=by have:=hl.1;simpa using this
 have e:vs.zipIdx.foldl (λcs (c,j)=>cs.setIfInBounds (off+j) c) arr=(vs.toList.zipIdx 0).foldl (λcs p=>cs.setIfInBounds (off+p.2) p.1) arr:=by rw[←Array.foldl_toList,Array.toList_zipIdx]
 rw[e]
 obtain⟨h1,h2⟩:=um off vs.toList 0 arr (by simp [hn,hm];omega)
 have aj2:(dX l off cs).length=l.length:=by simp [dX];omega
 refine⟨by rw[aj2];simp [h1,hm],λi a v ha hv=>?_⟩
 have hv:((vs.toList.zipIdx 0).foldl (λcs p=>cs.setIfInBounds (off+p.2) p.1) arr)[i]? =some v:=by simpa using hv
 rw[h2 i] at hv
 have hi:i<l.length:=by
  rcases aaf i l.length with h'|h'
  ·exact h'
  ·rw[aak (by rw[aj2];exact h')] at ha;cases ha
 have hvl:vs.toList.length=cs.length:=by simp [hn]
 rw[hvl] at hv
 by_cases c1:i<off
 ·rw[if_neg (by omega)] at hv;have:(dX l off cs)[i]? =l[i]? :=by unfold dX;rw[aav,aaA (by simp;omega),aa0,if_pos c1]
  rw[this] at ha;exact hl.2 i a v ha (by simpa using hv)
 ·by_cases c2:i<off+cs.length
  ·rw[if_pos (by omega)] at hv;have:(dX l off cs)[i]? =cs[i-off]? :=by unfold dX;rw[aav,aax (by simp;omega),aaA (by simp;omega)];congr 1;simp;omega
   rw[this] at ha;exact hc.2 (i-off) a v ha (by simpa using hv)
  ·rw[if_neg (by omega)] at hv;have:(dX l off cs)[i]? =l[i]? :=by unfold dX;rw[aax (by simp;omega)];rw[aat];congr 1;simp;omega
   rw[this] at ha;exact hl.2 i a v ha (by simpa using hv)
def Lo{place:Nat->Option (Nat×Nat)}:∀(parts:List (Nat×AV)) (ps:List (Nat×Value)) (cells:List AV) (arr:Array Value) (k:List AV->Tr),parts.map (·.1)=ps.map (·.1)->LR ρ (parts.map (·.2)) (ps.map (·.2))->LR ρ cells arr.toList->
 run (zO place cells parts k) σ K=true->∃l u0,run (k l) σ K=true/\LR ρ l u0.toList/\Instr.fill place arr ps=some u0:=by
 intro parts
 induction parts with
 |nil=>
  intro ps cells arr k h1 h2 hl h
  have:ps= []:=by cases ps <;> simp at h1⊢
  subst this
  exact⟨cells,arr,h,hl,rfl⟩
 |cons p parts ih=>
  intro ps cells arr k h1 h2 hl h
  cases ps with
  |nil=>simp at h1
  |cons q ps=>
   simp only [aaB,List.cons.injEq] at h1
   obtain⟨h1a,h1b⟩:=h1
   simp only [aaB] at h2
   obtain⟨v,K',e,hv,h2'⟩:=h2.cons_inv
   injection e with e1 e2
   subst e1;subst e2
   have h:run (cU (place p.1) .fail λq=>iv p.2 λcs=>ac (Nat.beq cs.length q.2) (ac (Nat.ble (q.1+q.2) cells.length) (iw (dX cells q.1 cs) λcells=>zO place cells parts k) .fail) .fail) σ K=true:=h
   obtain⟨pl,hpl,h⟩:=bT h
   obtain⟨cs,hcs,h⟩:=iy hv h
   obtain⟨hb1,h⟩:=ay h
   obtain⟨hb2,h⟩:=ay h
   have hb1:=aL hb1
   have hb2:=bY hb2
   have hn:q.2.cells.size=cs.length:=by have:=hcs.1;simpa using this
   have hm:arr.size=cells.length:=by have:=hl.1;simpa using this
   obtain⟨l,u0,r1,r2,r3⟩:=ih ps _ _ k h1b h2' (C_ (off:=pl.1) hl hcs (by omega)) (gZ h)
   refine⟨l,u0,r1,r2, ?_⟩
   obtain⟨qi,qv⟩:=q
   obtain⟨off,size⟩:=pl
   simp only at h1a hb1 hb2 hn⊢
   simp only [Instr.fill, ←h1a,hpl]
   rw[if_neg]
   ·exact r3
   ·simp;omega
def Da(fs:Array Field)(h:qJ P fs=true):∃pl:Array (Nat×Nat),(fs.mapM λf=>do pure (f.offset, ←sizeOf f.type):Sem (Array (Nat×Nat))).run P w= .ok pl w/\∀i,pl[i]? =xb P fs i:=by
 refine⟨(fs.toList.map λf=>(f.offset,((P.info? f.type).map (·.size)).getD 0)).toArray, ?_,λi=>?_⟩
 ·rw[Array.mapM_eq_mapM_toList,Sem.run_map];have key:∀l:List Field,(∀f∈l,(P.info? f.type).isSome=true)->(l.mapM λf=>do pure (f.offset, ←sizeOf f.type):Sem (List (Nat×Nat))).run P w= .ok (l.map λf=>(f.offset,((P.info? f.type).map (·.size)).getD 0)) w:=by
   intro l
   induction l with
   |nil=>intro _;rfl
   |cons f l ih=>
    intro hl
    have hf:=hl f (by simp)
    cases hi:P.info? f.type with
    |none=>rw[hi] at hf;cases hf
    |some i=>rw[List.mapM_cons];simp only [aab,aA hi,aae,aad,ih (λx hx=>hl x (by simp [hx]))];simp [hi]
  rw[key fs.toList (λf hf=>by simp only [qJ,abj] at h;exact h f hf)];rfl
 ·simp only [xb,aa6,aaI,aaW]
  cases hf:fs[i]? with
  |none=>rfl
  |some f=>
   simp only [aaV]
   have:(P.info? f.type).isSome=true:=by simp only [qJ,abj] at h;exact h f (abf (by simpa using hf))
   cases hi:P.info? f.type with
   |none=>rw[hi] at this;cases this
   |some x=>rfl
def Lp{t:TypeId}{parts:List (Nat×AV)}{ps:Array (Nat×Value)}(hS:SI σ)(hG:Good w0 ρ σ.h w)(h1:parts.map (·.1)=ps.toList.map (·.1))(h2:LR ρ (parts.map (·.2)) (ps.toList.map (·.2)))(h:run (KH P t parts k) σ K=true):Res P w0 ρ w k K (Instr.build t ps):=by
 obtain⟨z,zv,i,hi,hz,hzr,h⟩:=Ag ρ w h
 obtain⟨d,hu,h⟩:=cB h
 cases d with
 |struct fs=>
  obtain⟨hs,h⟩:=ay h
  obtain⟨zl,hzl,h⟩:=iy hzr h
  obtain⟨l,arr,r1,r2,r3⟩:=Lo parts ps.toList zl zv.cells _ h1 h2 hzl h
  obtain⟨pl,p1,p2⟩:=Da (P:=P) (w:=w) fs hs
  refine .plain r1 hS hG (VR.agg l arr r2.arr.1 r2.arr.2) ?_
  have e:(λx=>pl[x]?)=xb P fs:=funext p2
  simp only [Instr.build,aab,hz,aae,run_underlying hu,p1]
  rw[e,r3]
  rfl
 |array n e=>
  obtain⟨j,hj,h⟩:=cC h
  obtain⟨zl,hzl,h⟩:=iy hzr h
  obtain⟨l,arr,r1,r2,r3⟩:=Lo parts ps.toList zl zv.cells _ h1 h2 hzl h
  refine .plain r1 hS hG (VR.agg l arr r2.arr.1 r2.arr.2) ?_
  simp only [Instr.build,aab,hz,aae,run_underlying hu,aA hj]
  rw[r3]
  rfl
 |_=>exact(ah h).elim
def rS(z:List AV)(n:Nat):(dY z n).length=n * z.length:=by
 induction n with
 |zero=>simp [dY]
 |succ n ih=>simp [dY,ih,aaN];omega
def Is{z:List AV}{zv:Array Value}(hz:LR ρ z zv.toList)(l9:1<=z.length)(n:Nat):LR ρ (dY z n) ((Array.range (n * z.length)).map λi=>zv[i%zv.size]!).toList:=by
 have hs:zv.size=z.length:=by have:=hz.1;simpa using this
 refine⟨by simp [rS],λi a v ha hv=>?_⟩;have hi:i<n * z.length:=by
  rcases aaf i (n * z.length) with h'|h'
  ·exact h'
  ·rw[aak (by rw[rS];exact h')] at ha;cases ha
 have key:∀(n i:Nat),i<n * z.length->(dY z n)[i]? =z[i%z.length]? :=by
  intro n
  induction n with
  |zero=>intro i hi;simp at hi
  |succ n ih=>
   intro i hi;simp only [dY];by_cases c:i<z.length
   ·rw[aaA c,aa9 c]
   ·rw[aax (by omega),ih _ (by rw[aaN] at hi;omega)];congr 1;rw[Nat.mod_eq_sub_mod (by omega:i≥z.length)]
 rw[key n i hi] at ha;have hv:zv[i%zv.size]! =v:=by simp [hi] at hv;exact hv
 have c8:i%zv.size<zv.size:=Nat.mod_lt _ (by omega);refine hz.2 (i%z.length) a v ha ?_;rw[←hs];simp only [aaW];rw[←hv,getElem!_pos zv _ c8,aaM c8]
def un{t:TypeId}{len:Nat}{parts:List (Nat×AV)}{ps:Array (Nat×Value)}(hS:SI σ)(hG:Good w0 ρ σ.h w)(h1:parts.map (·.1)=ps.toList.map (·.1))(h2:LR ρ (parts.map (·.2)) (ps.toList.map (·.2)))(h:run (pX P t len parts k) σ K=true):Res P w0 ρ w k K (Instr.buildSlice t len ps):=by
 obtain⟨d,hu,h⟩:=cB h
 cases d with
 |slice e=>
  obtain⟨j,hj,h⟩:=cC h
  obtain⟨hb,h⟩:=ay h
  obtain⟨hb1,h⟩:=ay h
  have hb:=bY hb
  have hb1:=bY hb1
  obtain⟨z,zv,i,hi,hz,hzr,h⟩:=Ag ρ w h
  obtain⟨zl,hzl,h⟩:=iy hzr h
  obtain⟨hb2,h⟩:=ay h
  have hb2:=aL hb2
  have am9:=Is hzl (by omega) len
  rw[hb2] at am9
  obtain⟨zero,c9,am_⟩:∃zero:Array Value,(if len * j.size=0 then pure #[] else do pure (←zeroValue e).cells:Sem (Array Value)).run P w= .ok zero w/\LR ρ (dY zl len) ((Array.range (len * j.size)).map λi=>zero[i%zero.size]!).toList:=by
   by_cases e0:len * j.size=0
   ·have:len=0:=by
     rcases Nat.mul_eq_zero.mp e0 with h'|h'
     ·exact h'
     ·omega
    subst this;refine⟨#[],by rw[if_pos e0];rfl, ?_⟩;simp [dY];exact LR.nil ρ
   ·exact⟨zv.cells,by rw[if_neg e0];simp [hz],am9⟩
  obtain⟨l,arr,r1,r2,r3⟩:=Lo parts ps.toList (dY zl len) _ _ h1 h2 am_ h
  obtain⟨q1,q2⟩:=LR.to_arr r2
  obtain⟨b,a9,h5,C',hle,j7⟩:=ph arr e hS hG q1 q2 r1
  refine⟨_,a9,_,_,_,h5,C',j7,hle,VR.slc b 0 0 len (some len) j.size _ len ⟨aaa _,rfl,_,Rho.put_at _ _ _ _,aap _,rfl⟩, ?_⟩
  simp only [Instr.buildSlice,aab,run_underlying hu,aae,aA hj]
  rw[if_neg (by omega)]
  by_cases e0:len * j.size=0
  ·rw[if_pos e0] at c9⊢;rw[aab,c9];simp only [aae,r3];simp [newRow]
  ·rw[if_neg e0] at c9⊢;have hz0:zv.cells=zero:=by simpa [hz] using c9
   subst hz0;simp only [aab,hz,aae,aad,r3];simp [newRow]
 |_=>exact(ah h).elim
end
end Go.Sym
namespace Go.Sym
open Go.RowKit (Below)
def aB{α β:Type}{o:Option α}{k:α->Option β}{b:β}(h:bC o k=some b):∃a,o=some a/\k a=some b:=by
 cases o with
 |none=>cases h
 |some a=>exact⟨a,rfl,h⟩
def bf{α:Type}{c:Bool}{o:Option α}{b:α}(h:ac c o none=some b):c=true/\o=some b:=by
 cases c with
 |true=>exact⟨rfl,h⟩
 |false=>cases h
def Wl{α:Type}{c:Bool}{o:Option α}{b:α}(h:ac c none o=some b):c=false/\o=some b:=by
 cases c with
 |false=>exact⟨rfl,h⟩
 |true=>cases h
def nA{α β:Type}{t:T α}{n:Nat}{k:α->Option β}{b:β}(h:T.getK t n none k=some b):∃a,t.get n=some a/\k a=some b:=by
 rw[T.getK_eq] at h;split at h
 ·cases h
 ·exact⟨_,by assumption,h⟩
def rT{c:T Cell}{g:Nat}:∀{n o:Nat} {l:List AV},QM c g n o=some l->l.length=n/\∀(j:Nat) (a:AV),l[j]? =some a->∃tag,c.get (o+j)=some (.mk tag a)/\tag<=g:=by
 intro n
 induction n with
 |zero=>intro o l h;injection h with h;subst h;exact⟨rfl,by simp⟩
 |succ n ih=>
  intro o l h
  replace h:=nA h;obtain⟨x,hx,h⟩:=h
  cases x with
  |mk tag v=>
   replace h:=bf h;obtain⟨ht,h⟩:=h
   rw[rB] at h
   obtain⟨l',h1,h2⟩:=aB h
   injection h2 with h2
   subst h2
   obtain⟨q1,q2⟩:=ih h1
   refine⟨by simp [q1],λj a ha=>?_⟩
   cases j with
   |zero=>simp at ha;subst ha;exact⟨tag,hx,aaw ht⟩
   |succ j=>simp at ha;obtain⟨ae2,r1,r2⟩:=q2 j a ha;exact⟨ae2,by rw[←r1];congr 1;omega,r2⟩
def jv{ρ:Rho}{B b g:Nat}{w:World}{ct:Ct}{v:Value}(hb:BR ρ B w b (.froz ct g))(hv:VR ρ (.gsl b g ct.len ct.es) v):VR ρ (.cv ct) v:=by
 generalize hnn:ct.len=nn at hv
 generalize hee:ct.es=ee at hv
 cases hv with
 |gnil _ _ _=>exact .cvnil _ hnn
 |gempty _ _ _ a=>exact .cvempty _ a hnn
 |gsl _ _ _ _ h c hn hh hs hc hz=>
  subst hnn;subst hee;rcases hb with h0|⟨h',arr,ty,r1,r2,r3,r4,r5⟩
  ·omega
  rw[hh] at r1;injection r1 with r1;subst r1;refine .cv ct h.blk 0 c arr ty r3 hc (by omega) λi j a v hi ha hv=>?_;obtain⟨u,u1,u2⟩:=r5 i hi j a ha;rw[aam,u1] at hv;injection hv with hv;subst hv;exact u2
section
variable{P:Program}{w0:World}{ρ:Rho}{w:World}{σ:St}{K:Fin}
def Good.none_new{H:T ABlk}(hG:Good w0 ρ H w){n:Nat}(hn:H.get n=none)(f9:n+1<2 ^ 64){ct:Ct}{g ty:Nat}(h0:ct.len=0):Good w0 ρ (H.set n (.grow ct g ty)) w:=by
 have s8:∀g h,ρ.at_ n g≠some h:=λg h hh=>by obtain⟨_,X,hX⟩:=hG.dom _ _ _ hh;rw[hn] at hX;cases hX
 refine⟨⟨hG.below,λb X hX=>?_,λb g h hh=>?_,hG.inj,λb g h X hh hX=>?_,λb arr ty hf=>⟨(hG.frz b arr ty hf).1,λb' g' h hh e=>?_⟩,hG.frzB,λb k I l hX g h hh=>?_⟩,hG.ownB⟩
 ·by_cases e:b=n
  ·subst e;rw[T.get_set_same _ _ _ f9] at hX;injection hX with hX;subst hX;exact .inl h0
  ·rw[T.get_set_ne _ e] at hX;exact hG.blk _ _ hX
 ·obtain⟨q1,X,q2⟩:=hG.dom _ _ _ hh;refine⟨q1,X, ?_⟩;rw[T.get_set_ne _ (λe=>by subst e;exact s8 _ _ hh)];exact q2
 ·rw[T.get_set_ne _ (λe=>by subst e;exact s8 _ _ hh)] at hX;exact hG.gens _ _ _ _ hh hX
 ·obtain⟨X,q1,q2⟩:=(hG.frz b arr ty hf).2 _ _ _ hh e;exact⟨X,by rw[T.get_set_ne _ (λe=>by subst e;exact s8 _ _ hh)];exact q1,q2⟩
 ·rw[T.get_set_ne _ (λe=>by subst e;exact s8 _ _ hh)] at hX;exact hG.objO _ _ _ _ hX _ _ hh
def iP{b:Nat}:∀{loc:List (Nat×Nat×Nat)} {x:Nat×Nat×Nat},x∈loc->x.2.1=b->kG b loc=false:=by
 intro loc
 induction loc with
 |nil=>intro x h;cases h
 |cons z l ih=>
  intro x h e;show ac (Nat.beq z.2.1 b) false (kG b l)=false;rw[ar];split
  ·rfl
  ·rename_i hz;rcases List.mem_cons.1 h with h|h
   ·subst h;exact absurd (by rw[e];exact abk _) hz
   ·exact ih h e
def Stays(loc:List (Nat×Nat×Nat))(H H':T ABlk):Prop:=∀b X,(∃x,x∈loc/\x.2.1=b)->H.get b=some X->H'.get b=some X
def Stays.refl(loc:List (Nat×Nat×Nat))(H:T ABlk):Stays loc H H:=λ_ _ _ h=>h
def Stays.trans{loc:List (Nat×Nat×Nat)}{a b c:T ABlk}(h:Stays loc a b)(h':Stays loc b c):Stays loc a c:=λx X q r=>h' x X q (h x X q r)
def Fh{loc:List (Nat×Nat×Nat)}{b g o len es:Nat}{cap:Option Nat}{rows:Nat->List AV->(Ct->Nat->Tr)->Tr}{k:Ct->Nat->Tr}(hS:SI σ)(hG:Good w0 ρ σ.h w)(ad9:∀(ty0:Nat) (as:List AV) (kk:Ct->Nat->Tr) (a9:St),run (rows ty0 as kk) a9 K=true->∃ct ty,run (kk ct ty) a9 K=true/\(as.length=ct.len * ct.es->∀i,i<ct.len->∀(ρ:Rho) (vs:List Value),LR ρ ((as.drop (i * ct.es)).take ct.es) vs->LR ρ (ct.row i) vs))(h:run (QZ loc b g o len cap es rows k) σ K=true):
 ∃ct ty b7,run (k ct ty) b7 K=true/\SI b7/\b7.h=σ.h/\b+1<2 ^ 64/\kG b loc=true/\ct.len=len/\ct.es=es/\Good w0 ρ (σ.h.set b (.grow ct g ty)) w/\∀ρ2,ρ.le ρ2->∀v,VR ρ2 (.slc b g o len cap es) v->VR ρ2 (.gsl b g len es) v:=by
 have f9:=cW hS h
 obtain⟨q,b7,hq,e1,b6,z0⟩:=bG hS h
 cases q with
 |cells c gen lo hi fl fh ro ty=>
  obtain⟨k0,z1⟩:=qw z0
  obtain⟨k1,z2⟩:=ay z1
  obtain⟨k2,z3⟩:=ay z2
  obtain⟨k3,z4⟩:=ay z3
  obtain⟨k4,z5⟩:=ay z4
  obtain⟨k5,z6⟩:=ay z5
  obtain⟨k6,z7⟩:=ay z6
  obtain⟨k7,z8⟩:=ay z7
  obtain⟨k8,z9⟩:=ay z8
  clear z0 z1 z2 z3 z4 z5 z6 z7 z8 h
  obtain⟨as,hl,za⟩:=bT z9
  obtain⟨ct,ty',zb,hct⟩:=ad9 _ _ _ _ za
  obtain⟨k9,zc⟩:=ay zb
  obtain⟨k10,zd⟩:=ay zc
  obtain⟨k11,ze⟩:=aN zd
  clear za zb zc zd z9
  have k1:=aL k1
  have k2:=aL k2
  have k3:=aL k3
  have k4:=aL k4
  have k5:=aL k5
  have k6:=aL k6
  have k7:=bY k7
  obtain⟨k8a,k8⟩:=aD k8
  obtain⟨k8c,k8b⟩:=aD k8
  have k8c:=bY k8c
  have k8b:=bY k8b
  have k9:=aL k9
  have k10:=aL k10
  subst k0 k1 k2 k3 k4 k6 k9
  obtain⟨hm,r1,r2,_,arr,fr,r3,r4,r5,r6⟩:=(hG.blk _ _ hq).2 gen (aaa _)
  obtain⟨l1,l2⟩:=rT hl
  have i6:∀j,j<lZ cap len * es->∃a u,as[j]? =some a/\arr[j-hm.shift]? =some u/\VR ρ a u/\hm.shift<=j:=λj hj=>by have ha:as[j]? =some (as[j]'(by omega)):=aai (by omega);obtain⟨tag,t1,t2⟩:=l2 j _ ha;rw[aam] at t1;obtain⟨s1,u,s2,s3⟩:=r6 _ _ _ t1 t2;exact⟨_,u,ha,s2,s3,s1⟩
  have hle:len * es<=lZ cap len * es:=aay _ k8b
  have an0:(as.take (len * es)).length=ct.len * ct.es:=by rw[aal,l1,k10,k11];omega
  have hzp:0<lZ cap len * es:=Nat.mul_pos (by omega) k8c
  have hsh:hm.shift=0:=by obtain⟨a,u,_,_,_,q⟩:=i6 0 hzp;omega
  have l8:Good w0 ρ (σ.h.set b (.grow ct gen ty)) w:=by
   refine hG.turn (hrs:=⟨b,gen,hm,r1,rfl⟩) hq f9 hm.blk (r2 rfl) (Kept.refl _ _ _) (aaa _) (λ_ _ _=>rfl) (λb' g' h' j9 e'=>(hG.inj _ _ _ _ _ _ j9 r1 e').1) (.inr ⟨hm,r1,hsh,r2 rfl,arr,fr,r3,r4, ?_,λx hx h1 h2=>?_,λi hi j a ha=>?_⟩)
   ·rw[k10,k11];obtain⟨a,u,_,hu,_⟩:=i6 (lZ cap len * es-1) (by omega);rcases aaf (lZ cap len * es-1-hm.shift) arr.size with h'|h'
    ·omega
    ·rw[aaT h'] at hu;cases hu
   ·have:=(r5 rfl).2 x (.inl hx) h1 h2;omega
   ·have ae3:i * ct.es+ct.es<=ct.len * ct.es:=by rw[←aaN];exact aay _ hi
    rw[k10,k11] at ae3;have ad5:∀q a0,(((as.take (len * es)).drop (i * ct.es)).take ct.es)[q]? =some a0->∃u,arr[i * ct.es+q]? =some u/\VR ρ a0 u:=λq a0 hq=>by
     rw[aa0] at hq;split at hq
     ·rename_i hqe;rw[aat,aar (by rw[k10] at hqe⊢;omega)] at hq;obtain⟨a1,u,f1,f2,f3,_⟩:=i6 (i * ct.es+q) (by rw[k10] at hqe⊢;omega);rw[hq] at f1;injection f1 with f1;subst f1;rw[hsh,abl] at f2;exact⟨u,f2,f3⟩
     ·cases hq
    exact nx (A:=λq=>arr[i * ct.es+q]?) ad5 (λvs=>hct an0 i hi ρ vs) j a ha
  refine⟨ct,ty,b7,ze,b6,e1,f9,k8a,k11,k10,l8,λρ2 j0 v hv=>?_⟩
  ·cases hv with
   |slc _ _ _ _ _ _ ad cp hsl=>
    obtain⟨hlc,ab4⟩:=hsl
    cases cap with
    |some kc=>
     obtain⟨ek,h',x1,x2,x3⟩:=ab4;rw[j0.at_ _ _ _ r1] at x1;injection x1 with x1;subst x1;subst x3;rw[hsh];refine .gsl _ _ _ _ hm cp (by omega) (j0.at_ _ _ _ r1) hsh hlc ?_;rw[ek];obtain⟨a,u,_,hu,_⟩:=i6 (lZ (some kc) len * es-1) (by omega);rw[←r4];rcases aaf (lZ (some kc) len * es-1-hm.shift) arr.size with h'|h'
     ·show kc * es<=arr.size;have:lZ (some kc) len=kc:=rfl;rw[this] at h' hzp;omega
     ·rw[aaT h'] at hu;cases hu
    |none=>
     rcases ab4 with ab4|⟨h',x1,x2,x3,x4⟩
     ·omega
     ·rw[j0.at_ _ _ _ r1] at x1;injection x1 with x1;subst x1;subst x3;rw[hsh];exact .gsl _ _ _ _ hm cp (by omega) (j0.at_ _ _ _ r1) hsh hlc (by omega)
 |_=>exact(ah z0).elim
def ef{loc:List (Nat×Nat×Nat)}{b g o len es:Nat}{cap:Option Nat}{rows:Nat->List AV->(Ct->Nat->Tr)->Tr}{k:AV->Tr}(hS:SI σ)(hG:Good w0 ρ σ.h w)(ad9:∀(ty0:Nat) (as:List AV) (kk:Ct->Nat->Tr) (a9:St),run (rows ty0 as kk) a9 K=true->∃ct ty,run (kk ct ty) a9 K=true/\(as.length=ct.len * ct.es->∀i,i<ct.len->∀(ρ:Rho) (vs:List Value),LR ρ ((as.drop (i * ct.es)).take ct.es) vs->LR ρ (ct.row i) vs))(h:run (oV loc b g o len cap es rows k) σ K=true):
 ∃a9,run (k (.gsl b g len es)) a9 K=true/\SI a9/\Good w0 ρ a9.h w/\Stays loc σ.h a9.h/\∀ρ2,ρ.le ρ2->∀v,VR ρ2 (.slc b g o len cap es) v->VR ρ2 (.gsl b g len es) v:=by
 obtain⟨ct,ty,b7,h1,b6,e1,f9,k8a,_,_,l8,hv⟩:=Fh hS hG ad9 h
 obtain⟨x0,i3,hx0,e2,i9,_,z⟩:=ft b6 h1
 refine⟨i3,z,i9,by rw[e2,e1];exact l8,λb' X hf hX=>?_,hv⟩
 obtain⟨x,hx1,hx2⟩:=hf
 rw[e2,T.get_set_ne _ (λe=>by subst e;rw[iP hx1 hx2] at k8a;cases k8a),e1];exact hX
def Good.freeze{H:T ABlk}(hG:Good w0 ρ H w){b g ty:Nat}{c:Ct}(hb:H.get b=some (.grow c g ty))(f9:b+1<2 ^ 64)(hlo:base+64<=b):
 ∃ρ':Rho,ρ.le ρ'/\Good w0 ρ' (H.set b (.froz c g)) w/\∀ρ2,ρ'.le ρ2->∀v,VR ρ2 (.gsl b g c.len c.es) v->VR ρ2 (.cv c) v:=by
 have l6:(H.set b (.froz c g)).get b=some (.froz c g):=T.get_set_same _ _ _ f9
 have an1:∀b' g' h,ρ.at_ b' g'=some h->h.blk<w.heap.size/\∃x,(H.set b (.froz c g)).get b'=some x:=λb' g' h hh=>by
  obtain⟨q1,X,q2⟩:=hG.dom _ _ _ hh;refine⟨q1, ?_⟩;by_cases e:b'=b
  ·subst e;exact⟨_,l6⟩
  ·exact⟨X,by rw[T.get_set_ne _ e];exact q2⟩
 have aj3:∀b' g' h X,ρ.at_ b' g'=some h->(H.set b (.froz c g)).get b'=some X->Kw g' X:=λb' g' h X hh hX=>by
  by_cases e:b'=b
  ·subst e;rw[l6] at hX;injection hX with hX;subst hX;have:=hG.gens _ _ _ _ hh hb;exact(this:g'<=g)
  ·rw[T.get_set_ne _ e] at hX;exact hG.gens _ _ _ _ hh hX
 have aj4:∀b0 arr ty,ρ.frz b0=some (arr,ty)->∀b' g' h,ρ.at_ b' g'=some h->h.blk=b0->∃x,(H.set b (.froz c g)).get b'=some x/\zK x:=λb0 arr ty hf b' g' h hh e=>by
  by_cases e':b'=b
  ·subst e';exact⟨_,l6,trivial⟩
  ·obtain⟨X,q1,q2⟩:=(hG.frz _ _ _ hf).2 _ _ _ hh e;exact⟨X,by rw[T.get_set_ne _ e'];exact q1,q2⟩
 have ab9:∀b' k I l,(H.set b (.froz c g)).get b'=some (.obj k I l)->∀g' h,ρ.at_ b' g'=some h->Own ρ w0.heap.size h.blk/\(g'=0∨g'=h.blk+1):=λb' k I l hX g' h hh=>by
  by_cases e:b'=b
  ·subst e;rw[l6] at hX;injection hX with hX;cases hX
  ·rw[T.get_set_ne _ e] at hX;exact hG.objO _ _ _ _ hX _ _ hh
 rcases hG.blk _ _ hb with h0|⟨h,r1,r2,r3,arr,fr,r4,r5,r6,r7,r8⟩
 ·refine⟨ρ,.refl _,⟨⟨hG.below,λb' X hX=>?_,an1,hG.inj,aj3,λb0 arr ty hf=>⟨(hG.frz _ _ _ hf).1,aj4 _ _ _ hf⟩,hG.frzB,ab9⟩,hG.ownB⟩,λρ2 _ v hv=>jv (B:=w0.heap.size) (w:=w) (.inl h0) hv⟩;by_cases e:b'=b
  ·subst e;rw[l6] at hX;injection hX with hX;subst hX;exact .inl h0
  ·rw[T.get_set_ne _ e] at hX;exact hG.blk _ _ hX
 ·let ρ':Rho:=⟨ρ.at_,ρ.val,ρ.own,λx=>if x=h.blk then some (arr,ty) else ρ.frz x,ρ.frz0⟩
  have hnf:ρ.frz h.blk=none:=by
   cases hf:ρ.frz h.blk with
   |none=>rfl
   |some x=>exact absurd rfl (hG.frzE (show ρ.frz h.blk=some (x.1,x.2) from hf) r1 hb (λh=>h))
  have hle:ρ.le ρ':=⟨λ_ _ _ h=>h,rfl,rfl,λb0 x hx=>by show(if b0=h.blk then some (arr,ty) else ρ.frz b0)=some x;rw[if_neg (λe=>by subst e;rw[hnf] at hx;cases hx)];exact hx,rfl⟩
  have hbr:BR ρ' w0.heap.size w b (.froz c g):=.inr ⟨h,arr,ty,r1,r2,if_pos rfl,by omega,λi hi j a ha=>by obtain⟨u,u1,u2⟩:=r8 i hi j a ha;exact⟨u,u1,u2.mono hle⟩⟩;refine⟨ρ',hle,⟨⟨hG.below,λb' X hX=>?_,an1,hG.inj,aj3,λb0 u0 ty' hf=>?_,λb0 x hf c8=>?_,ab9⟩,hG.ownB⟩,λρ2 j0 v hv=>jv (hbr.keep (w':=w) j0 λ_ _ _=>rfl) hv⟩
  ·by_cases e:b'=b
   ·subst e;rw[l6] at hX;injection hX with hX;subst hX;exact hbr
   ·rw[T.get_set_ne _ e] at hX;exact(hG.blk _ _ hX).keep hle λ_ _ _=>rfl
  ·have hf:(if b0=h.blk then some (arr,ty) else ρ.frz b0)=some (u0,ty'):=hf;split at hf
   ·rename_i e0;injection hf with hf;injection hf with e1 e2;subst e0;subst e1;subst e2;refine⟨⟨fr,r4⟩,λb' g' h' hh e=>?_⟩;have:=(hG.inj _ _ _ _ _ _ hh r1 e).1;subst this;exact⟨_,l6,trivial⟩
   ·exact⟨(hG.frz _ _ _ hf).1,aj4 _ _ _ hf⟩
  ·have hf:(if b0=h.blk then some (arr,ty) else ρ.frz b0)=some x:=hf;split at hf
   ·rename_i e0;subst e0;rcases r3 with r3|r3
    ·omega
    ·obtain⟨b1,g1,h1,q1,q2,q3⟩:=hG.ownB _ r3;have:=(hG.inj _ _ _ _ _ _ q2 r1 q3).1;omega
   ·exact hG.frzB _ _ hf c8
def Good.none_turn{H:T ABlk}(hG:Good w0 ρ H w){b:Nat}{x0:ABlk}(hb:H.get b=some x0)(f9:b+1<2 ^ 64){ct:Ct}{g ty:Nat}(h0:ct.len=0)(ac2:∀g',Kw g' x0->g'<=g)(hnf:¬zK x0):Good w0 ρ (H.set b (.grow ct g ty)) w:=by
 have l6:(H.set b (.grow ct g ty)).get b=some (.grow ct g ty):=T.get_set_same _ _ _ f9;refine⟨⟨hG.below,λb' X hX=>?_,λb' g' h hh=>?_,hG.inj,λb' g' h X hh hX=>?_,λb0 arr ty hf=>⟨(hG.frz b0 arr ty hf).1,λb' g' h hh e=>?_⟩,hG.frzB,λb' k I l hX g' h hh=>?_⟩,hG.ownB⟩
 ·by_cases e:b'=b
  ·subst e;rw[l6] at hX;injection hX with hX;subst hX;exact .inl h0
  ·rw[T.get_set_ne _ e] at hX;exact hG.blk _ _ hX
 ·obtain⟨q1,X,q2⟩:=hG.dom _ _ _ hh;refine⟨q1, ?_⟩;by_cases e:b'=b
  ·subst e;exact⟨_,l6⟩
  ·exact⟨X,by rw[T.get_set_ne _ e];exact q2⟩
 ·by_cases e:b'=b
  ·subst e;rw[l6] at hX;injection hX with hX;subst hX;exact ac2 _ (hG.gens _ _ _ _ hh hb)
  ·rw[T.get_set_ne _ e] at hX;exact hG.gens _ _ _ _ hh hX
 ·obtain⟨X,q1,q2⟩:=(hG.frz b0 arr ty hf).2 _ _ _ hh e;exact⟨X,by rw[T.get_set_ne _ (λe=>by subst e;rw[hb] at q1;injection q1 with q1;subst q1;exact hnf q2)];exact q1,q2⟩
 ·by_cases e:b'=b
  ·subst e;rw[l6] at hX;injection hX with hX;cases hX
  ·rw[T.get_set_ne _ e] at hX;exact hG.objO _ _ _ _ hX _ _ hh
def kN:∀(ty0:Nat) (as:List AV) (kk:Ct->Nat->Tr) (a9:St),run (rJ ty0 as kk) a9 K=true->
 ∃ct ty,run (kk ct ty) a9 K=true/\(as.length=ct.len * ct.es->∀i,i<ct.len->∀(ρ:Rho) (vs:List Value),LR ρ ((as.drop (i * ct.es)).take ct.es) vs->LR ρ (ct.row i) vs):=by
 intro ty0 as kk a9 h
 replace h:=bT h;obtain⟨ns,hq,h⟩:=h
 replace h:=aN h;obtain⟨hnn,h⟩:=h
 obtain⟨f1,f2⟩:=nw _ _ hq
 refine⟨_,_,h,λhlen i hi ρ vs I'=>?_⟩
 have hal:as.length=(aG ns).length:=by rw[bQ,f1]
 have hi:i<(aG ns).length:=hi
 have hia:i<as.length:=by omega
 have hd:(as.drop (i * 1)).take 1= [as[i]]:=by rw[aaF,aa2 hia];rfl
 have I':LR ρ ((as.drop (i * 1)).take 1) vs:=I'
 rw[hd] at I'
 refine I'.one λv hv=>?_
 obtain⟨n',q1,q2⟩:=f2 i as[i] (aai hia)
 obtain⟨q3,q4⟩:=ju _ _ _ hnn q1
 rw[bc hv q2,aag,q3]
 show VR ρ (.sI .u8 ((n'.toNat:Nat):Int)) _
 rw[show((n'.toNat:Nat):Int)=n' by omega]
 exact .sI _ _
def iQ{m len:Nat}:∀(ty0:Nat) (as:List AV) (kk:Ct->Nat->Tr) (a9:St),run (rI m len ty0 as kk) a9 K=true->
 ∃ct ty,run (kk ct ty) a9 K=true/\(as.length=ct.len * ct.es->∀i,i<ct.len->∀(ρ:Rho) (vs:List Value),LR ρ ((as.drop (i * ct.es)).take ct.es) vs->LR ρ (ct.row i) vs):=by
 intro ty0 as kk a9 h
 replace h:=bT h;obtain⟨q,hq,h⟩:=h
 split at h
 ·rename_i gs;obtain⟨c1,f1,f2,f3,f4⟩:=hY _ _ _ _ hq;have f1:as=c1:=by simpa using f1
  subst f1;exact⟨_,_,h,λhlen i hi ρ vs=>f4 i (by rw[←f3];exact hi) ρ vs⟩
 ·exact(ah h).elim
def Db{e:TypeId}{len:Nat}{rows:Nat->List AV->(Ct->Nat->Tr)->Tr}(hr:qK P e len=some rows):∀(ty0:Nat) (as:List AV) (kk:Ct->Nat->Tr) (a9:St),run (rows ty0 as kk) a9 K=true->
 ∃ct ty,run (kk ct ty) a9 K=true/\(as.length=ct.len * ct.es->∀i,i<ct.len->∀(ρ:Rho) (vs:List Value),LR ρ ((as.drop (i * ct.es)).take ct.es) vs->LR ρ (ct.row i) vs):=by
 unfold qK at hr
 split at hr
 ·injection hr with hr;subst hr;exact kN
 ·injection hr with hr;subst hr;exact iQ
 ·injection hr with hr;subst hr;exact iQ
 ·injection hr with hr;subst hr;exact iQ
 ·cases hr
def Fi{x:AV}{v:Value}{kk:AV->Tr}(hS:SI σ)(hG:Good w0 ρ σ.h w)(hx:VR ρ x v)(h:run (Q0 x kk) σ K=true):∃x' a9,run (kk x') a9 K=true/\SI a9/\a9.h=σ.h/\VR ρ x' v:=by
 unfold Q0 at h;split at h
 ·rename_i b g o
  obtain⟨q,b7,hq,e1,b6,z⟩:=bG hS h
  clear h
  cases q with
  |grow c gen ty=>
   obtain⟨k1,z1⟩:=ay z
   obtain⟨k2,z2⟩:=ay z1
   obtain⟨k4,z3⟩:=aN z2
   clear z z1 z2
   have k1:=aL k1
   subst k1
   refine⟨_,b7,z3,b6,e1, ?_⟩
   cases hx with
   |ptr _ _ _ h0 hh ho=>
    rcases hG.blk _ _ hq with hz|⟨hm,r1,r2,_⟩
    ·omega
    rw[hh] at r1;injection r1 with r1;subst r1;have e:o-h0.shift=o * 1+0:=by omega
    rw[e];exact .gptr b g o 0 1 h0 hh r2
  |_=>exact⟨_,b7,z,b6,e1,hx⟩
 ·exact⟨_,σ,h,hS,rfl,hx⟩
def nB{x:AV}{v:Value}{kk:AV->Tr}(hS:SI σ)(hG:Good w0 ρ σ.h w)(hx:VR ρ x v)(h:run (rL x kk) σ K=true):∃x' a9,run (kk x') a9 K=true/\SI a9/\a9.h=σ.h/\VR ρ x' v:=by
 unfold rL at h;split at h
 ·obtain⟨q,b7,hq,e1,b6,z⟩:=bG hS h
  clear h
  cases q with
  |froz c gen=>obtain⟨k1,z1⟩:=ay z;obtain⟨k2,z2⟩:=ay z1;obtain⟨k4,z3⟩:=aN z2;clear z z1 z2;have k1:=aL k1;have k2:=aL k2;subst k1;subst k2;subst k4;exact⟨_,b7,z3,b6,e1,jv (hG.blk _ _ hq) hx⟩
  |_=>exact⟨_,b7,z,b6,e1,hx⟩
 ·exact⟨_,σ,h,hS,rfl,hx⟩
def uW:∀{l:List AV} {vs:List Value} {kk:List AV->Tr} {σ:St},SI σ->Good w0 ρ σ.h w->LR ρ l vs->run (oX l kk) σ K=true->∃l' a9,run (kk l') a9 K=true/\SI a9/\a9.h=σ.h/\LR ρ l' vs
 | [],vs,kk,σ,hS,hG,hl,h=>⟨[],σ,h,hS,rfl,hl⟩
 |a::l,vs,kk,σ,hS,hG,hl,h=>by obtain⟨v,K',rfl,hv,E'⟩:=hl.cons_inv;obtain⟨a',b7,h1,b6,e1,hv'⟩:=nB hS hG hv (show run (rL a λx=>oX l λl=>kk (x::l)) σ K=true from h);obtain⟨l2,i3,h2,i9,e2,hl2⟩:=uW b6 (by rw[e1];exact hG) E' h1;exact⟨_,i3,h2,i9,by rw[e2,e1],LR.cons hv' hl2⟩
def Fj{x:AV}{v:Value}{kk:AV->Tr}(hS:SI σ)(hG:Good w0 ρ σ.h w)(hx:VR ρ x v)(h:run (frz0 x kk) σ K=true):∃x' a9 ρ',run (kk x') a9 K=true/\SI a9/\Good w0 ρ' a9.h w/\ρ.le ρ'/\VR ρ' x' v:=by
 unfold frz0 at h;split at h
 ·rename_i b g n es
  have f9:=cW hS h
  obtain⟨q,b7,hq,e1,b6,z⟩:=bG hS h
  have b9:Good w0 ρ b7.h w:=by rw[e1];exact hG
  have M':b7.h.get b=some q:=by rw[e1];exact hq
  clear h
  cases q with
  |grow c gen ty=>
   rcases bU z with⟨k0,z1⟩|⟨_,z1⟩
   ·obtain⟨k1,k3⟩:=aD k0;obtain⟨k1,k2⟩:=aD k1;obtain⟨k4,z2⟩:=aN z1;obtain⟨x0,i3,hx0,e2,i9,_,z3⟩:=ft b6 z2;have k1:=aL k1;have k2:=aL k2;have k3:=bY k3;subst k1;subst k2;subst k4;obtain⟨ρ',f1,f2,f3⟩:=b9.freeze M' f9 k3;exact⟨_,i3,ρ',z3,i9,by rw[e2];exact f2,f1,f3 ρ' (.refl _) v (hx.mono f1)⟩
   ·exact⟨_,b7,ρ,z1,b6,b9,.refl _,hx⟩
  |froz c gen=>obtain⟨k1,z1⟩:=ay z;obtain⟨k2,z2⟩:=ay z1;obtain⟨k4,z3⟩:=aN z2;have k1:=aL k1;have k2:=aL k2;subst k1;subst k2;subst k4;exact⟨_,b7,ρ,z3,b6,b9,.refl _,jv (hG.blk _ _ hq) hx⟩
  |_=>exact⟨_,b7,ρ,z,b6,b9,.refl _,hx⟩
 ·exact⟨_,σ,ρ,h,hS,hG,.refl _,hx⟩
def Fk{x:AV}{v:Value}{kk:AV->Tr}(hS:SI σ)(hG:Good w0 ρ σ.h w)(hx:VR ρ x v)(h:run (K0 x kk) σ K=true):∃x' a9 ρ',run (kk x') a9 K=true/\SI a9/\Good w0 ρ' a9.h w/\ρ.le ρ'/\VR ρ' x' v:=by
 unfold K0 at h;split at h
 ·rcases bU h with⟨_,z⟩|⟨_,z⟩
  ·obtain⟨a9,z1,b6,b9,_,hv⟩:=ef hS hG iQ z;exact Fj b6 b9 (hv ρ (.refl _) v hx) z1
  ·exact⟨_,σ,ρ,z,hS,hG,.refl _,hx⟩
 ·exact Fj hS hG hx h
def Aj:∀{l:List AV} {vs:List Value} {kk:List AV->Tr} {σ:St} {ρ:Rho},SI σ->Good w0 ρ σ.h w->LR ρ l vs->run (K1 l kk) σ K=true->∃l' a9 ρ',run (kk l') a9 K=true/\SI a9/\Good w0 ρ' a9.h w/\ρ.le ρ'/\LR ρ' l' vs
 | [],vs,kk,σ,ρ,hS,hG,hl,h=>⟨[],σ,ρ,h,hS,hG,.refl _,hl⟩
 |a::l,vs,kk,σ,ρ,hS,hG,hl,h=>by obtain⟨v,K',rfl,hv,E'⟩:=hl.cons_inv;obtain⟨a',b7,ρ1,h1,b6,b9,L',hv'⟩:=Fk hS hG hv (show run (K0 a λx=>K1 l λl=>kk (x::l)) σ K=true from h);obtain⟨l2,i3,ρ2,h2,i9,l8,j0,hl2⟩:=Aj b6 b9 (E'.mono L') h1;exact⟨_,i3,ρ2,h2,i9,l8,L'.trans j0,LR.cons (hv'.mono j0) hl2⟩
def Ak{x:AV}{v:Value}{kk:AV->Tr}(hS:SI σ)(hG:Good w0 ρ σ.h w)(hx:VR ρ x v)(h:run (zW x kk) σ K=true):∃x' a9 ρ',run (kk x') a9 K=true/\SI a9/\Good w0 ρ' a9.h w/\ρ.le ρ'/\VR ρ' x' v:=by
 unfold zW at h;split at h
 ·cases hx with
  |agg l cs h1 h2=>obtain⟨l',a9,ρ',q1,q2,q3,q4,q5⟩:=Aj hS hG (LR.of_arr h1 h2) h;obtain⟨r1,r2⟩:=q5.arr;exact⟨_,a9,ρ',q1,q2,q3,q4,.agg _ cs r1 r2⟩
 ·exact Fk hS hG hx h
def Lq{a x:AV}{v:Value}{kk:AV->Tr}(hS:SI σ)(hG:Good w0 ρ σ.h w)(hx:VR ρ x v)(h:run (K3 a x kk) σ K=true):∃x' a9 ρ',run (kk x') a9 K=true/\SI a9/\Good w0 ρ' a9.h w/\ρ.le ρ'/\VR ρ' x' v:=by
 unfold K3 at h;split at h
 ·exact Ak hS hG hx h
 ·exact⟨_,σ,ρ,h,hS,hG,.refl _,hx⟩
def Al:∀{l:List (Nat×AV)} {vs:List Value} {kk:List (Nat×AV)->Tr} {σ:St} {ρ:Rho},SI σ->Good w0 ρ σ.h w->LR ρ (l.map Prod.snd) vs->run (K2 l kk) σ K=true->∃l' a9 ρ',run (kk l') a9 K=true/\SI a9/\Good w0 ρ' a9.h w/\ρ.le ρ'/\LR ρ' (l'.map Prod.snd) vs/\l'.map Prod.fst=l.map Prod.fst
 | [],vs,kk,σ,ρ,hS,hG,hl,h=>⟨[],σ,ρ,h,hS,hG,.refl _,hl,rfl⟩
 |a::l,vs,kk,σ,ρ,hS,hG,hl,h=>by obtain⟨v,K',rfl,hv,E'⟩:=LR.cons_inv (a:=a.2) (l:=l.map Prod.snd) hl;obtain⟨a',b7,ρ1,h1,b6,b9,L',hv'⟩:=Ak hS hG hv (show run (zW a.2 λx=>K2 l λl=>kk ((a.1,x)::l)) σ K=true from h);obtain⟨l2,i3,ρ2,h2,i9,l8,j0,hl2,e2⟩:=Al b6 b9 (E'.mono L') h1;exact⟨_,i3,ρ2,h2,i9,l8,L'.trans j0,LR.cons (hv'.mono j0) hl2,by simp [e2]⟩
end
end Go.Sym
namespace Go.Sym
open Go.RowKit (Below)
def dC{h:Home}{o n:Nat}(ho:h.shift<=o):(⟨h.blk,o-h.shift,none⟩:Addr).add n=⟨h.blk,o+n-h.shift,none⟩:=by
 unfold Addr.add;split
 ·rename_i e;subst e;simp
 ·simp;omega
def VR.ptr_add{ρ:Rho}{b g o n:Nat}{h:Home}(hh:ρ.at_ b g=some h)(ho:h.shift<=o):VR ρ (.ptr b g (o+n)) (.pointer (some ((⟨h.blk,o-h.shift,none⟩:Addr).add n))):=by rw[dC ho];exact .ptr b g (o+n) h hh (by omega)
def Dc{ρ:Rho}{b g o len:Nat}{cap:Option Nat}{es:Nat}{a:Addr}{c:Nat}(h:SlOk ρ b g o len cap es a c)(hl:0<len):∃h,ρ.at_ b g=some h/\h.shift<=o/\a=⟨h.blk,o-h.shift,none⟩:=by
 obtain⟨h1,h2⟩:=h
 cases cap with
 |some k=>obtain⟨_,x,hx,r1,r2⟩:=h2;exact⟨x,hx,r1,r2⟩
 |none=>
  rcases h2 with⟨e,_⟩|⟨x,hx,r1,r2,_⟩
  ·omega
  ·exact⟨x,hx,r1,r2⟩
def bP{b o n:Nat}:(⟨b,o,none⟩:Addr).add n=⟨b,o+n,none⟩:=by
 unfold Addr.add;split
 ·rename_i e;subst e;simp
 ·simp
section
variable{P:Program}{w0:World}{ρ:Rho}{w:World}{σ:St}{K:Fin}{k:AV->Tr}
def Lr{t:TypeId}{l:List AV}{cs:Array Value}{off:Nat}(hS:SI σ)(hG:Good w0 ρ σ.h w)(hl:LR ρ l cs.toList)(h:run (Ut P t l off k) σ K=true):Res P w0 ρ w k K (part t cs off):=by
 obtain⟨d,hu,h⟩:=cB h;obtain⟨i,hi⟩:=info_of_underlying hu;rcases bU h with⟨hd,h⟩|⟨hd,h⟩
 ·obtain⟨j,hj,h⟩:=cC h;rw[hi] at hj;injection hj with hj;subst hj;obtain⟨v,h1,h2⟩:=kK (w:=w) hu hi hl (off:=off) (a:=.agg ((l.drop off).take i.size)) (by rw[if_pos hd]);exact .plain (gZ h) hS hG h2 h1
 ·obtain⟨a,ha,h⟩:=bT h;obtain⟨v,h1,h2⟩:=kK (w:=w) hu hi hl (off:=off) (a:=a) (by rw[if_neg (by rw[hd];simp)];exact ha);exact .plain h hS hG h2 h1
def xr{t:TypeId}{x:AV}{v:Value}{i:Nat}(hS:SI σ)(hG:Good w0 ρ σ.h w)(hx:VR ρ x v)(h:run (rH P t x i k) σ K=true):Res P w0 ρ w k K (Instr.fieldAt t v i):=by
 obtain⟨d,hu,h⟩:=cB h
 cases d with
 |struct fs=>
  cases hx with
  |ptr b g o h0 hh ho=>
   obtain⟨f,hf,h⟩:=bT h;obtain⟨j,hj,h⟩:=cC h;obtain⟨hz,h⟩:=qw h;have hz:¬j.size=0:=λe=>by rw[e] at hz;cases hz
   refine .plain (jV h) hS hG (VR.ptr_add hh ho) ?_;simp only [Instr.fieldAt,aab,run_underlying hu,aae,hf,Instr.sureAddr,aad,fieldPlace,aA hj,if_neg hz]
  |gptr b g m o es hm hh hs=>
   obtain⟨f,hf,h⟩:=bT h;obtain⟨j,hj,h⟩:=cC h;obtain⟨hz,h⟩:=qw h;have hz:¬j.size=0:=λe=>by rw[e] at hz;cases hz
   refine .plain h hS hG (VR.gptr b g m (o+f.offset) es hm hh hs) ?_;simp only [Instr.fieldAt,aab,run_underlying hu,aae,hf,Instr.sureAddr,aad,fieldPlace,aA hj,if_neg hz,bP,abr]
  |cptr l blk off arr ty hfz hb r=>
   obtain⟨f,hf,h⟩:=bT h;obtain⟨j,hj,h⟩:=cC h;obtain⟨hz,h⟩:=qw h;have hz:¬j.size=0:=λe=>by rw[e] at hz;cases hz
   obtain⟨hle,h⟩:=ay h;have hle:=bY hle;have h:=gZ h;refine .plain h hS hG (VR.cptr (l.drop f.offset) blk (off+f.offset) arr ty hfz (by rw[aao];omega) λj a v ha hv=>?_) ?_
   ·rw[aat] at ha;exact r (f.offset+j) a v ha (by rw[←hv];congr 1;omega)
   ·simp only [Instr.fieldAt,aab,run_underlying hu,aae,hf,Instr.sureAddr,aad,fieldPlace,aA hj,if_neg hz,bP]
  |_=>exact(ah h).elim
 |_=>exact(ah h).elim
def mb{t:TypeId}{x ix:AV}{v u:Value}(hS:SI σ)(hG:Good w0 ρ σ.h w)(hx:VR ρ x v)(hy:VR ρ ix u)(h:run (kF P t x ix k) σ K=true):Res P w0 ρ w k K (Instr.indexAt t v u):=by
 obtain⟨kk,n,e,h⟩:=xk h
 subst e
 cases hy
 obtain⟨i,e,h⟩:=K9 h
 subst e
 obtain⟨d,hu,h⟩:=cB h
 cases d with
 |array len e=>
  cases hx with
  |ptr b g o h0 hh ho=>
   obtain⟨hb,h⟩:=ay h;have hb:=bY hb;obtain⟨j,hj,h⟩:=cC h;refine .plain (jV h) hS hG (VR.ptr_add hh ho) ?_;have c8:(0:Int)<=(i:Int)/\(i:Int)<(len:Int):=by omega
   simp only [Instr.indexAt,aab,asIntOf,aad,aae,run_underlying hu,Instr.sureAddr,if_pos c8,aA hj,aaq]
  |_=>exact(ah h).elim
 |slice e=>
  cases hx with
  |slc b g o len cap es a c hsl=>
   obtain⟨hb,h⟩:=ay h;have hb:=bY hb;obtain⟨j,hj,h⟩:=cC h;obtain⟨h0,hh,ho,ea⟩:=Dc hsl (by omega);subst ea;refine .plain (jV h) hS hG (VR.ptr_add hh ho) ?_;have c8:(0:Int)<=(i:Int)/\(i:Int)<(len:Int):=by omega
   simp only [Instr.indexAt,aab,asIntOf,aad,aae,run_underlying hu,if_pos c8,aA hj,aaq]
  |_=>exact(ah h).elim
 |_=>exact(ah h).elim
def It{t:TypeId}{c:Ct}{ix:AV}{v u:Value}(hS:SI σ)(hG:Good w0 ρ σ.h w)(hx:VR ρ (.cv c) v)(hy:VR ρ ix u)(h:run (E0 P t c ix k) σ K=true):Res P w0 ρ w k K (Instr.indexAt t v u):=by
 obtain⟨d,hu,h⟩:=cB h;split at h
 ·rename_i e kk i hi
  have e2:=bc hy hi
  subst e2
  obtain⟨j,hj,h⟩:=cC h
  obtain⟨he,h⟩:=ay h
  have he:=aL he
  obtain⟨c8,h⟩:=aN h
  have h:=gZ h
  have c8:(0:Int)<=i/\i<(c.len:Int):=c8
  have hin:i.toNat<c.len:=by omega
  cases hx with
  |cv _ blk off cp arr ty hf hc hb r=>
   refine .plain h hS hG (VR.cptr (c.row i.toNat) blk (off+i.toNat * c.es) arr ty hf ?_ λj a v ha hv=>r i.toNat j a v hin ha hv) ?_
   ·rw[c.row_len];have:i.toNat * c.es+c.es<=c.len * c.es:=by rw[←aaN];exact aay _ hin
    omega
   ·simp only [Instr.indexAt,aab,asIntOf,aad,aae,run_underlying hu,if_pos c8,aA hj,he,bP]
  |cvnil _ h0=>omega
  |cvempty _ _ h0=>omega
 ·exact(ah h).elim
def Iu{t:TypeId}{b g n es:Nat}{ix:AV}{v u:Value}(hS:SI σ)(hG:Good w0 ρ σ.h w)(hx:VR ρ (.gsl b g n es) v)(hy:VR ρ ix u)(h:run (E1 P t b g n es ix k) σ K=true):Res P w0 ρ w k K (Instr.indexAt t v u):=by
 obtain⟨d,hu,h⟩:=cB h;split at h
 ·rename_i e kk i hi
  have e2:=bc hy hi
  subst e2
  obtain⟨j,hj,h⟩:=cC h
  obtain⟨he,h⟩:=ay h
  have he:=aL he
  obtain⟨c8,h⟩:=aN h
  have hin:i.toNat<n:=by omega
  cases hx with
  |gsl _ _ _ _ hm c hn hh hs hc hz=>refine .plain h hS hG (VR.gptr b g i.toNat 0 es hm hh hs) ?_;simp only [Instr.indexAt,aab,asIntOf,aad,aae,run_underlying hu,if_pos c8,aA hj,he,bP,aam,aas]
  |gnil _ _ _=>omega
  |gempty _ _ _ _=>omega
 ·exact(ah h).elim
def Ls{t:TypeId}{b g o:Nat}{ix:AV}{v u:Value}(hS:SI σ)(hG:Good w0 ρ σ.h w)(hx:VR ρ (.ptr b g o) v)(hy:VR ρ ix u)(h:run (KK P t b g o ix k) σ K=true):Res P w0 ρ w k K (Instr.indexAt t v u):=by
 obtain⟨d,hu,z1⟩:=cB h;split at z1
 ·rename_i len e kk i hi
  have e2:=bc hy hi
  subst e2
  obtain⟨j,hj,z2⟩:=cC z1
  rcases bU z2 with⟨ho0,z3⟩|⟨ho0,z3⟩
  rotate_left
  ·obtain⟨hs1,z4⟩:=ay z3
   obtain⟨c8,z5⟩:=aN z4
   have hs1:=aac hs1
   cases hx with
   |ptr _ _ _ hm hh ho=>
    refine .plain z5 hS hG (.aptr b g o len i hm hh ho c8.1 c8.2) ?_;have ea:(⟨hm.blk,o-hm.shift,none⟩:Addr).add i.toNat=⟨hm.blk,o-hm.shift+i.toNat,none⟩:=by
     unfold Addr.add;split
     ·rename_i e;rw[e];rfl
     ·rfl
    simp only [Instr.indexAt,aab,asIntOf,aad,aae,run_underlying hu,Instr.sureAddr,if_pos c8,aA hj,hs1,aaF,ea]
  obtain⟨hs1,z4⟩:=ay z3
  obtain⟨c8,z5⟩:=aN z4
  have ho0:=aac ho0
  have hs1:=aac hs1
  cases hx with
  |ptr _ _ _ hm hh ho=>
   have c9:hm.shift=0->(Instr.indexAt t (.pointer (some ⟨hm.blk,o-hm.shift,none⟩)) (.int kk i)).run P w= .ok (.pointer (some ⟨hm.blk,i.toNat * 1+0,none⟩)) w:=by
    intro hsh;have e0:o-hm.shift=0:=by omega
    rw[e0];simp only [Instr.indexAt,aab,asIntOf,aad,aae,run_underlying hu,Instr.sureAddr,if_pos c8,aA hj,hs1,bP,aam,aas]
   obtain⟨q,b7,hq,e1,b6,z6⟩:=bG hS z5
   have b9:Good w0 ρ b7.h w:=by rw[e1];exact hG
   have conv:run (ac (Nat.beq g 0) (cU (qK P e len) .fail λrows=>oV [] b g 0 len (some len) 1 rows λ_=>k (.gptr b 0 i.toNat 0 1)) .fail) b7 K=true->Res P w0 ρ w k K (Instr.indexAt t (.pointer (some ⟨hm.blk,o-hm.shift,none⟩)) (.int kk i)):=by
    intro z
    obtain⟨hg0,z7⟩:=ay z
    have hg0:=aac hg0
    obtain⟨rows,hr,z8⟩:=bT z7
    obtain⟨i3,z9,i9,l8,_,hv⟩:=ef b6 b9 (Db hr) z8
    have hsl:VR ρ (.slc b g 0 len (some len) 1) (.slice (some ⟨hm.blk,0-hm.shift,none⟩) len len):=.slc _ _ _ _ _ _ _ _ ⟨aaa _,rfl,hm,hh,by omega,rfl⟩
    have:=hv ρ (.refl _) _ hsl
    subst hg0
    generalize hvv:Value.slice (some ⟨hm.blk,0-hm.shift,none⟩) len len=vv at this
    cases this with
    |gsl _ _ _ _ hm' c hn j9 hs' hc hz=>rw[hh] at j9;injection j9 with j9;subst j9;exact .plain z9 i9 l8 (.gptr b 0 i.toNat 0 1 hm hh hs') (c9 hs')
    |gnil _ _ _=>omega
    |gempty _ _ _ _=>omega
   cases q with
   |grow c gen ty=>
    obtain⟨k1,y1⟩:=ay z6;obtain⟨k2,y2⟩:=ay y1;obtain⟨k4,y3⟩:=aN y2;have k1:=aac k1;rcases hG.blk _ _ hq with hz|⟨hm',r1,r2,_⟩
    ·omega
    rw[←k1,hh] at r1;injection r1 with r1;subst r1;exact .plain y3 b6 b9 (.gptr b g i.toNat 0 1 hm hh r2) (c9 r2)
   |_=>exact conv z6
 ·exact(ah z1).elim
def Fl:∀{l:List AV} {bs:List Nat},KI l=some bs->∀i,i<bs.length->l[i]? =some (.int .u8 (Int.ofNat (bs.getD i 0)))
 | [],bs,h,i,hi=>by injection h with h;subst h;cases hi
 |a::r,bs,h,i,hi=>by
  unfold KI at h;split at h
  ·rename_i e;cases e
  ·rename_i n r' e;injection e with e1 e2;subst e1;subst e2;split at h
   ·split at h
    ·rename_i l' hl
     injection h with h;subst h
     cases i with
     |zero=>rfl
     |succ i=>exact Fl hl i (by simpa using hi)
    ·cases h
   ·cases h
  ·cases h
def Lt{t:TypeId}{l:List AV}{ix:AV}{v u:Value}(hS:SI σ)(hG:Good w0 ρ σ.h w)(hx:VR ρ (.cptr l) v)(hy:VR ρ ix u)(h:run (KL P t l ix k) σ K=true):Res P w0 ρ w k K (Instr.indexAt t v u):=by
 obtain⟨d,hu,h⟩:=cB h;split at h
 ·rename_i len e kk i hi
  have e2:=bc hy hi
  subst e2
  obtain⟨j,hj,h⟩:=cC h
  obtain⟨he,h⟩:=ay h
  have he:=aL he
  obtain⟨bs,hbs,h⟩:=bT h
  obtain⟨hlen,h⟩:=ay h
  have hlen:=bY hlen
  obtain⟨c8,h⟩:=aN h
  have c8:(0:Int)<=i/\i<(len:Int):=c8
  have hin:i.toNat<bs.length:=by omega
  have hg:=Fl hbs _ hin
  have hll:i.toNat<l.length:=by
   rcases aaf i.toNat l.length with h'|h'
   ·exact h'
   ·rw[aak h'] at hg;cases hg
  cases hx with
  |cptr _ blk off arr ty hf hb r=>
   refine .plain h hS hG (VR.cptr _ blk (off+i.toNat) arr ty hf (by simp;omega) λq a v ha hv=>?_) ?_
   ·cases q with
    |zero=>
     injection ha with ha
     subst ha
     have:=r i.toNat _ v hg (by simpa using hv)
     cases this with
     |int _ _=>exact .sI _ _
    |succ q=>simp at ha
   ·simp only [Instr.indexAt,aab,asIntOf,aad,aae,run_underlying hu,Instr.sureAddr,if_pos c8,aA hj,he,aaF,bP]
 ·exact(ah h).elim
def xt{t:TypeId}{x ix:AV}{v u:Value}(hS:SI σ)(hG:Good w0 ρ σ.h w)(hx:VR ρ x v)(hy:VR ρ ix u)(h:run (ms P t x ix k) σ K=true):Res P w0 ρ w k K (Instr.indexAt t v u):=by
 unfold ms at h;split at h
 ·exact Lt hS hG hx hy h
 ·exact It hS hG hx hy h
 ·exact Iu hS hG hx hy h
 ·rcases bU h with⟨_,h⟩|⟨_,h⟩
  ·exact Ls hS hG hx hy h
  ·exact mb hS hG hx hy h
 ·exact mb hS hG hx hy h
def pZ(s:ByteArray)(i:Nat):(bytesOf s)[i]? =(s[i]?).map UInt8.toNat:=by
 unfold bytesOf;rw[aaI];congr 1;by_cases h:i<s.size
 ·rw[getElem?_pos s i h];have h':i<s.data.toList.length:=by simpa using h
  rw[aai h'];rfl
 ·rw[getElem?_neg s i h,aak (by simpa using h)]
def Iv{t:TypeId}{x ix:AV}{v u:Value}(hS:SI σ)(hG:Good w0 ρ σ.h w)(hx:VR ρ x v)(hy:VR ρ ix u)(h:run (E2 P t x ix k) σ K=true):Res P w0 ρ w k K (Instr.index t v u):=by
 obtain⟨kk,n,e,h⟩:=xk h
 subst e
 cases hy
 obtain⟨i,e,h⟩:=K9 h
 subst e
 obtain⟨d,hu,h⟩:=cB h
 cases d with
 |array len e=>
  cases hx with
  |agg l cs h1 h2=>
   obtain⟨hb,h⟩:=ay h;have hb:=bY hb;obtain⟨j,hj,h⟩:=cC h;have c8:(0:Int)<=(i:Int)/\(i:Int)<(len:Int):=by omega
   refine(Lr hS hG (LR.of_arr h1 h2) h).of_eq ?_;simp only [Instr.index,aab,asIntOf,aad,aae,run_underlying hu,if_pos c8,aA hj,aaq]
  |_=>exact(ah h).elim
 |string=>
  cases hx with
  |str s=>
   obtain⟨c,hc,h⟩:=bT h
   rw[pZ] at hc
   cases hs:s[i]? with
   |none=>rw[hs] at hc;cases hc
   |some cc=>
    rw[hs] at hc;injection hc with hc;subst hc;refine .plain (jV h) hS hG (.int _ _) ?_;have h0:(0:Int)<=(i:Int):=by omega
    simp only [Instr.index,aab,asIntOf,aad,aae,run_underlying hu,if_pos h0,aaq,hs];rfl
  |_=>exact(ah h).elim
 |_=>exact(ah h).elim
def Lu{t:TypeId}{s:ByteArray}{kk:IntKind}{i:Int}(hS:SI σ)(hG:Good w0 ρ σ.h w)(h:run (KM P t (bytesOf s) i k) σ K=true):Res P w0 ρ w k K (Instr.index t (.string s) (.int kk i)):=by
 obtain⟨d,hu,h⟩:=cB h
 cases d with
 |string=>
  obtain⟨⟨h0,h1⟩,h⟩:=aN h;rw[bZ] at h1;have hin:i.toNat<s.size:=by omega
  have hb:kA (bytesOf s) i.toNat=(s[i.toNat]).toNat:=by unfold kA;rw[aag,pZ,getElem?_pos s i.toNat hin];exact aa9 (UInt8.toNat_lt _)
  rw[hb] at h;refine .plain h hS hG (.sI _ _) ?_;simp only [Instr.index,aab,asIntOf,aad,aae,run_underlying hu,if_pos h0,getElem?_pos s i.toNat hin]
 |_=>exact(ah h).elim
def Lv{t:TypeId}{x ix:AV}{v u:Value}(hS:SI σ)(hG:Good w0 ρ σ.h w)(hx:VR ρ x v)(hy:VR ρ ix u)(h:run (KN P t x ix k) σ K=true):Res P w0 ρ w k K (Instr.index t v u):=by
 rcases bU h with⟨_,h⟩|⟨_,h⟩
 ·split at h
  ·rename_i l kk i el ei;obtain⟨s,e1,e2⟩:=dB hx el;have e3:=bc hy ei;subst e1;subst e2;subst e3;exact Lu hS hG h
  ·exact(ah h).elim
 ·exact Iv hS hG hx hy h
def Dd{x:AV}{v:Value}{i:Nat}(hS:SI σ)(hG:Good w0 ρ σ.h w)(hx:VR ρ x v)(h:run (zR x i k) σ K=true):Res P w0 ρ w k K (Instr.extract v i):=by
 cases hx with
 |tup l cs h1 h2=>
  obtain⟨a,ha,h⟩:=bT h;obtain⟨u,hu,hr⟩:=(LR.of_arr h1 h2).get ha;have hu:cs[i]? =some u:=by simpa using hu
  exact .plain h hS hG hr (by simp [Instr.extract,hu])
 |_=>exact(ah h).elim
def my{ov:Option AV}{vv:Option Value}{d top:Nat}{k:Nat->Tr}(ho:OR ρ ov vv)(h:run (kH ov d top k) σ K=true):
 ∃n,run (k n) σ K=true/\((ov=none/\vv=none/\n=d)∨∃kk,ov.isSome=true/\vv=some (.int kk (n:Int))/\n<=top):=by
 cases ov with
 |none=>
  cases vv with
  |none=>exact⟨d,h,.inl ⟨rfl,rfl,rfl⟩⟩
  |some v=>exact ho.elim
 |some a=>
  cases vv with
  |none=>exact ho.elim
  |some v=>
   obtain⟨kk,n,e,h⟩:=xk h
   subst e
   cases ho
   obtain⟨i,e,h⟩:=K9 h
   subst e
   obtain⟨hb,h⟩:=ay h
   exact⟨i,h,.inr ⟨kk,rfl,rfl,bY hb⟩⟩
def aI{kk:IntKind}{n y:Nat}{code:BoundsCode}(h:n<=y):(Instr.sliceBound (.int kk (n:Int)) y code).run P w= .ok n w:=by simp [Instr.sliceBound,asIntOf,h]
def Am{isS:Bool}{len cap c:Nat}{lo hi mx:Option AV}{lo' hi' mx':Option Value}{k:Nat->Nat->Nat->Tr}(hlc:len<=cap)(hcc:cap<=c)(hmx:mx=none->c=cap)(h1:OR ρ lo lo')(h2:OR ρ hi hi')(h3:OR ρ mx mx')(h:run (jq len cap lo hi mx k) σ K=true):
 ∃l hh m,run (k l hh m) σ K=true/\(Instr.sliceBounds isS len c lo' hi' mx').run P w= .ok (l,hh,m) w/\l<=hh/\hh<=m/\m<=cap:=by
 obtain⟨m,h,hm⟩:=my h3 h
 have c9:∃hh l,run (k l hh m) σ K=true/\((hi=none/\hi'=none/\hh=len/\mx=none)∨∃kk,hi'=some (.int kk (hh:Int))/\hh<=m)/\((lo=none/\lo'=none/\l=0)∨∃kk,lo.isSome=true/\lo'=some (.int kk (l:Int))/\l<=hh):=by
  cases hi with
  |none=>
   cases mx with
   |some _=>exact(ah h).elim
   |none=>
    obtain⟨hh,h,hhi⟩:=my (d:=len) (top:=m) (k:=λh=>kH lo 0 h λl=>k l h m) h2 h;obtain⟨l,h,hl⟩:=my (k:=λl=>k l hh m) h1 h;refine⟨hh,l,h, ?_,hl⟩;rcases hhi with⟨a,b,c⟩|⟨kk,a,b,c⟩
    ·exact .inl ⟨rfl,b,c,rfl⟩
    ·simp at a
  |some x=>
   obtain⟨hh,h,hhi⟩:=my (d:=len) (top:=m) (k:=λh=>kH lo 0 h λl=>k l h m) h2 (by cases mx <;> exact h);obtain⟨l,h,hl⟩:=my (k:=λl=>k l hh m) h1 h;refine⟨hh,l,h, ?_,hl⟩;rcases hhi with⟨a,b,c⟩|⟨kk,a,b,c⟩
   ·cases a
   ·exact .inr ⟨kk,b,c⟩
 obtain⟨hh,l,hk,hhi,hlo⟩:=c9
 have hmc:m<=cap:=by rcases hm with⟨_,_,e⟩|⟨_,_,_,e⟩ <;> omega
 have hhm:hh<=m:=by
  rcases hhi with⟨_,_,e,emx⟩|⟨_,_,e⟩
  ·rcases hm with⟨_,_,em⟩|⟨_,em,_,_⟩
   ·omega
   ·rw[emx] at em;simp at em
  ·exact e
 have hll:l<=hh:=by rcases hlo with⟨_,_,e⟩|⟨_,_,_,e⟩ <;> omega
 refine⟨l,hh,m,hk, ?_,hll,hhm,hmc⟩
 rcases hm with⟨em1,em2,em3⟩|⟨km,em1,em2,em3⟩
 ·subst em2;rcases hhi with⟨_,eh,eh2,_⟩|⟨kh,eh,eh2⟩
  ·subst eh;subst eh2;rw[←hmx em1] at em3;subst em3;rcases hlo with⟨_,el,el2⟩|⟨kl,_,el,el2⟩
   ·subst el;subst el2;simp [Instr.sliceBounds]
   ·subst el;simp [Instr.sliceBounds,aI el2]
  ·subst eh;rw[←hmx em1] at em3;subst em3;rcases hlo with⟨_,el,el2⟩|⟨kl,_,el,el2⟩
   ·subst el;subst el2;simp [Instr.sliceBounds,aI eh2]
   ·subst el;simp [Instr.sliceBounds,aI el2,aI eh2]
 ·subst em2;rcases hhi with⟨_,eh,eh2,e⟩|⟨kh,eh,eh2⟩
  ·rw[e] at em1;simp at em1
  ·subst eh;rcases hlo with⟨_,el,el2⟩|⟨kl,_,el,el2⟩
   ·subst el;subst el2;simp [Instr.sliceBounds,aI eh2,aI (aaH em3 hcc)]
   ·subst el;simp [Instr.sliceBounds,aI el2,aI eh2,aI (aaH em3 hcc)]
def qQ{isS:Bool}{len cap:Nat}{lo hi mx:Option AV}{lo' hi' mx':Option Value}{k:Nat->Nat->Nat->Tr}(hlc:len<=cap)(h1:OR ρ lo lo')(h2:OR ρ hi hi')(h3:OR ρ mx mx')(h:run (jq len cap lo hi mx k) σ K=true):
 ∃l hh m,run (k l hh m) σ K=true/\(Instr.sliceBounds isS len cap lo' hi' mx').run P w= .ok (l,hh,m) w/\l<=hh/\hh<=m/\m<=cap:=
 Am hlc (aaa _) (λ_=>rfl) h1 h2 h3 h
end
end Go.Sym
namespace Go.Sym
open Go.RowKit (Below)
section
variable{P:Program}{w0:World}{ρ:Rho}{w:World}{σ:St}{K:Fin}{k:AV->Tr}
def rV{b g o s l h m:Nat}{hm:Home}(hh:ρ.at_ b g=some hm)(ho:hm.shift<=o)(hhm:h<=m)(hr:run (zQ b g o s l h m k) σ K=true):
 ∃r,run (k r) σ K=true/\VR ρ r (.slice (some (if m=l then⟨hm.blk,o-hm.shift,none⟩ else(⟨hm.blk,o-hm.shift,none⟩:Addr).add (l * s))) (h-l) (m-l)):=by
 unfold zQ at hr
 have hr:=jV hr
 have hr:=jV hr
 rcases bU hr with⟨e,hr⟩|⟨e,hr⟩
 ·have e:=aL e;refine⟨_,hr, ?_⟩;rw[if_pos e];exact .slc _ _ _ _ _ _ _ _ ⟨by omega,rfl,hm,hh,ho,rfl⟩
 ·have e:¬m=l:=λe'=>by subst e';simp at e
  have hr:=jV hr;refine⟨_,hr, ?_⟩;rw[if_neg e,dC ho];exact .slc _ _ _ _ _ _ _ _ ⟨by omega,rfl,hm,hh,by omega,rfl⟩
def Lw{b g o s l h len c:Nat}{a:Addr}(hs:SlOk ρ b g o len none s a c)(hl:l<=h)(hh:h<=len)(hr:run (KP b g o s l h k) σ K=true):
 ∃r,run (k r) σ K=true/\VR ρ r (.slice (some (if c=l then a else a.add (l * s))) (h-l) (c-l)):=by
 obtain⟨hlen,hs⟩:=hs
 unfold KP at hr
 have hr:=jV hr
 rcases bU hr with⟨e,hr⟩|⟨e,hr⟩
 ·have e:=aL e;subst e;refine⟨_,hr, ?_⟩;have ea:(if c=0 then a else a.add (0 * s))=a:=by
   split
   ·rfl
   ·unfold Addr.add;simp
  rw[ea];refine .slc _ _ _ _ _ _ _ _ ⟨by omega, ?_⟩;rcases hs with⟨h1,h2⟩|⟨hm,h1,h2,h3,h4⟩
  ·exact .inl ⟨by omega,by omega⟩
  ·exact .inr ⟨hm,h1,h2,h3,by simpa using h4⟩
 ·have e:¬l=0:=λe'=>by subst e';simp at e
  have hr:=jV hr;refine⟨_,hr, ?_⟩;refine .slc _ _ _ _ _ _ _ _ ⟨by omega, ?_⟩;by_cases hc:c=l
  ·exact .inl ⟨by omega,by omega⟩
  ·rcases hs with⟨h1,h2⟩|⟨hm,h1,h2,h3,h4⟩
   ·omega
   ·refine .inr ⟨hm,h1,by omega, ?_, ?_⟩
    ·rw[if_neg hc,h3,dC h2]
    ·have:c * s=l * s+(c-l) * s:=by rw[←aaz];congr 1;omega
     omega
def jw{α:Type}{p:Prop}[Decidable p]{a b:α}:(if p then some a else some b)=some (if p then a else b):=by split <;> rfl
def Iw{t:TypeId}{s:ByteArray}{lo hi mx:Option AV}{lo' hi' mx':Option Value}(hS:SI σ)(hG:Good w0 ρ σ.h w)(h1:OR ρ lo lo')(h2:OR ρ hi hi')(h3:OR ρ mx mx')(hu:P.underlying t=some .string)(h:run (CW (bytesOf s) lo hi mx k) σ K=true):Res P w0 ρ w k K (Instr.sliceAt t (.string s) lo' hi' mx'):=by
 cases mx with
 |some _=>exact(ah h).elim
 |none=>
  cases mx' with
  |some _=>exact h3.elim
  |none=>
   have hn:(bytesOf s).length=s.size:=by unfold bytesOf;rw[aaK];rfl
   unfold CW at h
   have h:=jV h
   obtain⟨l,hh,m,h,hb,hl,hm,hc⟩:=qQ (P:=P) (w:=w) (isS:=false) (aaa _) h1 h2 h3 h
   have h:=K_ h
   refine .plain h hS hG (v:=.string (s.extract l hh)) ?_ ?_
   ·have e:((bytesOf s).take hh).drop l=bytesOf (s.extract l hh):=by unfold bytesOf;rw[←List.map_take, ←List.map_drop,ByteArray.data_extract,Array.toList_extract,abz,abs]
    rw[e];exact .str _
   ·rw[hn] at hb;simp only [Instr.sliceAt,Instr.slice,aab,run_underlying hu,aae,aa3,Bool.false_eq_true,if_false,aad];simp [hb,aae]
def De{t:TypeId}{x:AV}{v:Value}{lo hi mx:Option AV}{lo' hi' mx':Option Value}(hS:SI σ)(hG:Good w0 ρ σ.h w)(hx:VR ρ x v)(h1:OR ρ lo lo')(h2:OR ρ hi hi')(h3:OR ρ mx mx')(h:run (E4 P t x lo hi mx k) σ K=true):Res P w0 ρ w k K (Instr.sliceAt t v lo' hi' mx'):=by
 obtain⟨d,hu,h⟩:=cB h
 cases d with
 |array n e=>
  cases hx with
  |ptr b g o hm hh ho=>
   obtain⟨l,hi,m,h,hb,hl,hhm,hc⟩:=qQ (P:=P) (w:=w) (isS:=false) (aaa _) h1 h2 h3 h
   obtain⟨j,hj,h⟩:=cC h
   obtain⟨r,h,hr⟩:=rV hh ho hhm h
   refine .plain h hS hG hr ?_
   simp only [Instr.sliceAt,aab,run_underlying hu,aae,Instr.sureAddr,aad,hb,aA hj]
  |_=>exact(ah h).elim
 |string=>
  cases hx with
  |str s=>exact Iw hS hG h1 h2 h3 hu h
  |_=>exact(ah h).elim
 |slice e=>
  cases hx with
  |nils=>
   obtain⟨j,hj,h⟩:=cC h
   obtain⟨l,hi,m,h,hb,hl,hhm,hc⟩:=qQ (P:=P) (w:=w) (isS:=true) (aaa _) h1 h2 h3 h
   have:m=0:=by omega
   subst this
   have:hi=0:=by omega
   subst this
   have:l=0:=by omega
   subst this
   refine .plain h hS hG .nils ?_
   simp only [Instr.sliceAt,Instr.slice,aab,run_underlying hu,aae,aad,hb,aA hj,if_true,aa_]
  |slc b g o len cap es a c hsl=>
   cases cap with
   |some c'=>
    obtain⟨j,hj,h⟩:=cC h
    obtain⟨J',h⟩:=ay h
    have J':=aL J'
    obtain⟨hlen,ec,hm,hh,ho,ea⟩:=hsl
    subst ec;subst ea
    obtain⟨l,hi,m,h,hb,hl,hhm,hc⟩:=qQ (P:=P) (w:=w) (isS:=true) hlen h1 h2 h3 h
    obtain⟨r,h,hr⟩:=rV hh ho hhm h
    refine .plain h hS hG hr ?_
    subst J'
    simp only [Instr.sliceAt,Instr.slice,aab,run_underlying hu,aae,aad,hb,aA hj,aaV,jw]
   |none=>
    obtain⟨j,hj,h⟩:=cC h
    obtain⟨J',h⟩:=ay h
    have J':=aL J'
    subst J'
    cases mx with
    |none=>
     cases mx' with
     |some _=>exact h3.elim
     |none=>
      unfold E3 at h
      obtain⟨hh,h,hhi⟩:=my (d:=len) (top:=len) h2 h
      obtain⟨l,h,hlo⟩:=my (d:=0) (top:=hh) h1 h
      have hle:hh<=len:=by rcases hhi with⟨_,_,e⟩|⟨_,_,_,e⟩ <;> omega
      have hll:l<=hh:=by rcases hlo with⟨_,_,e⟩|⟨_,_,_,e⟩ <;> omega
      obtain⟨r,h,hr⟩:=Lw hsl hll hle h
      refine .plain h hS hG hr ?_
      have hb:(Instr.sliceBounds true len c lo' hi' none).run P w= .ok (l,hh,c) w:=by
       have hcl:=hsl.1;rcases hhi with⟨_,eh,eh2⟩|⟨kh,_,eh,eh2⟩
       ·subst eh;subst eh2;rcases hlo with⟨_,el,el2⟩|⟨kl,_,el,el2⟩
        ·subst el;subst el2;simp [Instr.sliceBounds]
        ·subst el;simp [Instr.sliceBounds,aI el2]
       ·subst eh;rcases hlo with⟨_,el,el2⟩|⟨kl,_,el,el2⟩
        ·subst el;subst el2;simp [Instr.sliceBounds,aI (aaH eh2 hcl)]
        ·subst el;simp [Instr.sliceBounds,aI el2,aI (aaH eh2 hcl)]
      simp only [Instr.sliceAt,Instr.slice,aab,run_underlying hu,aae,aad,hb,aA hj,aaV,jw]
    |some y=>
     obtain⟨hz,h⟩:=qw h
     have hz:len≠0:=by intro e;subst e;simp at hz
     obtain⟨hlc,hs⟩:=hsl
     obtain⟨l,hi,m,h,hb,hl,hhm,hc⟩:=Am (P:=P) (w:=w) (isS:=true) (aaa _) hlc (λe=>by cases e) h1 h2 h3 h
     rcases hs with⟨h1',h2'⟩|⟨hm,hh,ho,ea,ac3⟩
     ·omega
     ·subst ea;obtain⟨r,h,hr⟩:=rV hh ho hhm h;refine .plain h hS hG hr ?_;simp only [Instr.sliceAt,Instr.slice,aab,run_underlying hu,aae,aad,hb,aA hj,aaV,jw]
  |_=>exact(ah h).elim
 |_=>exact(ah h).elim
def dQ{ov:Option AV}{vv:Option Value}{d:Int}{k:Int->Tr}(ho:OR ρ ov vv)(h:run (cM ov d k) σ K=true):
 ∃n,run (k n) σ K=true/\((vv=none/\n=d)∨∃kk,vv=some (.int kk n)):=by
 cases ov with
 |none=>
  cases vv with
  |none=>exact⟨d,h,.inl ⟨rfl,rfl⟩⟩
  |some v=>exact ho.elim
 |some a=>
  cases vv with
  |none=>exact ho.elim
  |some v=>
   unfold cM at h
   simp only at h
   split at h
   ·rename_i kk n hi;exact⟨n,h,.inr ⟨kk,by rw[bc ho hi]⟩⟩
   ·exact(ah h).elim
def bS{isS:Bool}{len c:Nat}{lo' hi':Option Value}{l h:Int}(hlc:len<=c)(hl:(lo'=none/\l=0)∨∃kk,lo'=some (.int kk l))(hh:(hi'=none/\h=(len:Int))∨∃kk,hi'=some (.int kk h))(hr:0<=l/\l<=h/\h<=(len:Int)):(Instr.sliceBounds isS len c lo' hi' none).run P w= .ok (l.toNat,h.toNat,c) w:=by
 obtain⟨a,ea⟩:∃a:Nat,l=(a:Int):=⟨l.toNat,by omega⟩
 obtain⟨b,eb⟩:∃b:Nat,h=(b:Int):=⟨h.toNat,by omega⟩
 subst ea;subst eb
 simp only [aaq]
 have hab:a<=b:=by omega
 have hbl:b<=len:=by omega
 rcases hh with⟨eh,eh2⟩|⟨kh,eh⟩
 ·subst eh;have:b=len:=by omega
  subst this;rcases hl with⟨el,el2⟩|⟨kl,el⟩
  ·subst el;have:a=0:=by omega
   subst this;simp [Instr.sliceBounds]
  ·subst el;simp [Instr.sliceBounds,aI hab]
 ·subst eh;rcases hl with⟨el,el2⟩|⟨kl,el⟩
  ·subst el;have:a=0:=by omega
   subst this;simp [Instr.sliceBounds,aI (aaH hbl hlc)]
  ·subst el;simp [Instr.sliceBounds,aI hab,aI (aaH hbl hlc)]
def An{t:TypeId}{x:AV}{v:Value}{lo hi mx:Option AV}{lo' hi' mx':Option Value}(hS:SI σ)(hG:Good w0 ρ σ.h w)(hx:VR ρ x v)(h1:OR ρ lo lo')(h2:OR ρ hi hi')(h3:OR ρ mx mx')(h:run (uM P t x lo hi mx k) σ K=true):Res P w0 ρ w k K (Instr.sliceAt t v lo' hi' mx'):=by
 obtain⟨d,hu,h⟩:=cB h
 split at h
 ·rename_i e c _
  cases mx' with
  |some _=>exact h3.elim
  |none=>
  obtain⟨j,hj,h⟩:=cC h
  obtain⟨he,h⟩:=ay h
  have he:=aL he
  obtain⟨b,h8,hb⟩:=dQ h2 h
  obtain⟨a,h7,ha⟩:=dQ h1 h8
  obtain⟨hr,h9⟩:=aN h7
  clear h h8 h7
  cases hx with
  |cv _ blk off cp arr ty hf hc hbd r=>
   have hbs:=bS (P:=P) (w:=w) (isS:=true) hc ha hb hr;obtain⟨a,rfl⟩:∃q:Nat,a=(q:Int):=⟨a.toNat,by omega⟩
   obtain⟨b,rfl⟩:∃q:Nat,b=(q:Int):=⟨b.toNat,by omega⟩
   simp only [aaq] at hbs h9;have hab:a<=b:=by omega
   have hbn:b<=c.len:=by omega
   have hlen:=c.cut_len hab hbn;have J':=c.cut_es a b;have hmul:a * c.es+(b-a) * c.es=b * c.es:=by rw[←aaz];congr 1;omega
   have an2:b * c.es<=c.len * c.es:=aay _ hbn;have c9:(Instr.sliceAt t (.slice (some ⟨blk,off,none⟩) c.len cp) lo' hi' none).run P w= .ok (.slice (some (if cp=a then⟨blk,off,none⟩ else⟨blk,off+a * j.size,none⟩)) (b-a) (cp-a)) w:=by simp only [Instr.sliceAt,Instr.slice,aab,run_underlying hu,aae,aad,hbs,aA hj,aaV,jw,bP]
   rw[he] at c9;by_cases hca:cp=a
   ·rw[if_pos hca] at c9;have hba:b-a=0:=by omega
    have hz:off+(c.cut a b).len * (c.cut a b).es<=arr.size:=by rw[hlen,hba,abc];omega
    have:=VR.cv (ρ:=ρ) (c.cut a b) blk off (cp-a) arr ty hf (by omega) hz (λi q av u hi hq hu2=>by omega);rw[hlen] at this;exact .plain h9 hS hG this c9
   ·rw[if_neg hca] at c9;have:=VR.cv (ρ:=ρ) (c.cut a b) blk (off+a * c.es) (cp-a) arr ty hf (by omega) (by rw[hlen,J'];omega) (λi q av u hi hq hu2=>by rw[hlen] at hi;rw[c.cut_row (by omega)] at hq;rw[J'] at hu2;exact r (a+i) q av u (by omega) hq (by rw[←hu2];congr 1;rw[aaz];omega));rw[hlen] at this;exact .plain h9 hS hG this c9
  |cvnil _ h0=>
   rw[h0] at hb hr;have hbs:=bS (P:=P) (w:=w) (isS:=true) (c:=0) (aaa 0) ha hb hr;obtain rfl:a=0:=by have:=hr.2.2;omega
   obtain rfl:b=0:=by have:=hr.2.2;omega
   refine .plain h9 hS hG (.cvnil _ (by rw[c.cut_len (by simp) (by simp)];rfl)) ?_;simp only [Int.toNat_zero] at hbs;simp only [Instr.sliceAt,Instr.slice,aab,run_underlying hu,aae,aad,hbs,aA hj,if_true,aa_]
  |cvempty _ ad h0=>
   rw[h0] at hb hr;have hbs:=bS (P:=P) (w:=w) (isS:=true) (c:=0) (aaa 0) ha hb hr;obtain rfl:a=0:=by have:=hr.2.2;omega
   obtain rfl:b=0:=by have:=hr.2.2;omega
   refine .plain h9 hS hG (.cvempty _ ad (by rw[c.cut_len (by simp) (by simp)];rfl)) ?_;simp only [Int.toNat_zero] at hbs;simp only [Instr.sliceAt,Instr.slice,aab,run_underlying hu,aae,aad,hbs,aA hj,if_true,aa_,aaV]
 ·rename_i x2 _
  cases mx' with
  |some _=>exact h3.elim
  |none=>
  split at h
  ·rename_i l hl;obtain⟨s,e1,e2⟩:=dB hx hl;subst e1;subst e2;obtain⟨b,h,hb⟩:=dQ h2 h;obtain⟨a,h,ha⟩:=dQ h1 h;obtain⟨hr,h⟩:=aN h;rw[bZ] at hb hr;have hbs:=bS (P:=P) (w:=w) (isS:=false) (aaa s.size) ha hb hr;refine .plain h hS hG (v:=.string (s.extract a.toNat b.toNat)) ?_ ?_
   ·have e:((bytesOf s).take b.toNat).drop a.toNat=bytesOf (s.extract a.toNat b.toNat):=by unfold bytesOf;rw[←List.map_take, ←List.map_drop,ByteArray.data_extract,Array.toList_extract,abz,abs]
    rw[e];exact .sS _
   ·simp only [Instr.sliceAt,Instr.slice,aab,run_underlying hu,aae,aa3,Bool.false_eq_true,if_false,aad];simp [hbs,aae]
  ·exact(ah h).elim
 ·exact(ah h).elim
def rW{t:TypeId}{x:AV}{v:Value}{lo hi mx:Option AV}{lo' hi' mx':Option Value}(hS:SI σ)(hG:Good w0 ρ σ.h w)(hx:VR ρ x v)(h1:OR ρ lo lo')(h2:OR ρ hi hi')(h3:OR ρ mx mx')(h:run (xc P t x lo hi mx k) σ K=true):Res P w0 ρ w k K (Instr.sliceAt t v lo' hi' mx'):=by
 rcases bU h with⟨_,h⟩|⟨_,h⟩
 ·exact An hS hG hx h1 h2 h3 h
 ·exact De hS hG hx h1 h2 h3 h
def OR.mono{ρ ρ':Rho}(hle:ρ.le ρ'){a:Option AV}{v:Option Value}(h:OR ρ a v):OR ρ' a v:=by cases a <;> cases v <;> first|trivial|exact h.elim|exact VR.mono hle h
def uX{t e:TypeId}{n blk:Nat}{c:Ct}{j:TypeInfo}{lo hi:Option AV}{lo' hi':Option Value}(hS:SI σ)(hG:Good w0 ρ σ.h w)(hu:P.underlying t=some (.array n e))(hj:P.info? e=some j)(hcl:c.len=n)(he:c.es=j.size)(hn:0<n)(hv:VR ρ (.cv c) (.slice (some ⟨blk,0,none⟩) n n))(h1:OR ρ lo lo')(h2:OR ρ hi hi')(h:run (xd n c lo hi k) σ K=true):Res P w0 ρ w k K (Instr.sliceAt t (.pointer (some ⟨blk,0,none⟩)) lo' hi' none):=by
 obtain⟨b,h8,hb⟩:=dQ h2 h
 obtain⟨a,h7,ha⟩:=dQ h1 h8
 obtain⟨hr,h9⟩:=aN h7
 clear h h8 h7
 have hbs:=bS (P:=P) (w:=w) (isS:=false) (aaa n) ha hb hr
 obtain⟨a,rfl⟩:∃q:Nat,a=(q:Int):=⟨a.toNat,by omega⟩
 obtain⟨b,rfl⟩:∃q:Nat,b=(q:Int):=⟨b.toNat,by omega⟩
 simp only [aaq] at hbs h9
 have hab:a<=b:=by omega
 have hbn:b<=n:=by omega
 have hlen:=c.cut_len hab (by omega:b<=c.len)
 have J':=c.cut_es a b
 have hmul:a * c.es+(b-a) * c.es=b * c.es:=by rw[←aaz];congr 1;omega
 have an2:b * c.es<=c.len * c.es:=aay _ (by omega)
 have c9:(Instr.sliceAt t (.pointer (some ⟨blk,0,none⟩)) lo' hi' none).run P w= .ok (.slice (some (if n=a then⟨blk,0,none⟩ else⟨blk,0+a * j.size,none⟩)) (b-a) (n-a)) w:=by simp only [Instr.sliceAt,Instr.slice,aab,run_underlying hu,aae,Instr.sureAddr,aad,hbs,aA hj,aaV,jw,bP]
 rw[←he] at c9
 generalize hvv:Value.slice (some ⟨blk,0,none⟩) n n=vv at hv
 cases hv with
 |cv _ at8 off cp arr ty hf hc hbd r=>
  injection hvv with e1 e2 e3
  injection e1 with e1
  injection e1 with e4 e5
  subst e4;subst e5;subst e3
  by_cases hca:n=a
  ·rw[if_pos hca] at c9;have hz:0+(c.cut a b).len * (c.cut a b).es<=arr.size:=by rw[hlen,show b-a=0 by omega,abc];omega
   have:=VR.cv (ρ:=ρ) (c.cut a b) blk 0 (n-a) arr ty hf (by omega) hz (λi q av u hi hq hu2=>by omega);rw[hlen] at this;exact .plain h9 hS hG this c9
  ·rw[if_neg hca] at c9;have:=VR.cv (ρ:=ρ) (c.cut a b) blk (0+a * c.es) (n-a) arr ty hf (by omega) (by rw[hlen,J'];omega) (λi q av u hi hq hu2=>by rw[hlen] at hi;rw[c.cut_row (by omega)] at hq;rw[J'] at hu2;exact r (a+i) q av u (by omega) hq (by rw[←hu2];congr 1;rw[aaz];omega));rw[hlen] at this;exact .plain h9 hS hG this c9
 |cvnil _ h0=>omega
 |cvempty _ _ h0=>omega
def Lx{t:TypeId}{b g o:Nat}{q:ABlk}{v:Value}{lo hi mx:Option AV}{lo' hi' mx':Option Value}(hS:SI σ)(hG:Good w0 ρ σ.h w)(f9:b+1<2 ^ 64)(hq:σ.h.get b=some q)(hx:VR ρ (.ptr b g o) v)(h1:OR ρ lo lo')(h2:OR ρ hi hi')(h3:OR ρ mx mx')(h:run (KQ P t b g o q lo hi mx k) σ K=true):Res P w0 ρ w k K (Instr.sliceAt t v lo' hi' mx'):=by
 obtain⟨d,hu,z1⟩:=cB h
 split at z1
 ·rename_i n e
  cases mx' with
  |some _=>exact h3.elim
  |none=>
  obtain⟨j,hj,z2⟩:=cC z1
  obtain⟨ho0,z3⟩:=ay z2
  have ho0:=aac ho0
  cases hx with
  |ptr _ _ _ hm hh ho=>
   have e0:o-hm.shift=0:=by omega
   rw[e0];split at z3
   ·rename_i c gen ty;obtain⟨k1,y1⟩:=ay z3;obtain⟨k2,y2⟩:=ay y1;obtain⟨k3,y3⟩:=ay y2;obtain⟨k4,y4⟩:=aN y3;clear h z1 z2 z3 y1 y2 y3;have k1:=aac k1;have k2:=aac k2;have k3:=bY k3;subst k1;rcases hG.blk _ _ hq with hz|⟨hm',r1,r2,r3,arr,fr,r4,r5,r6,_⟩
    ·omega
    rw[hh] at r1;injection r1 with r1;subst r1;have hgv:VR ρ (.gsl b g n c.es) (.slice (some ⟨hm.blk,0,none⟩) n n):=.gsl b g n c.es hm n (by omega) hh r2 (aaa _) (by rw[←k4];exact r6);rcases bU y4 with⟨hb,y5⟩|⟨_,y5⟩
    ·obtain⟨hb1,hb2⟩:=aD hb
     have lo0:lo=none:=by cases lo with|none=>rfl|some _=>cases hb1
     have hi0:hi=none:=by cases hi with|none=>rfl|some _=>cases hb2
     subst lo0;subst hi0
     cases lo' with
     |some _=>exact h1.elim
     |none=>
     cases hi' with
     |some _=>exact h2.elim
     |none=>
     rw[←k2] at y5
     refine .plain y5 hS hG hgv ?_
     have hbs:=bS (P:=P) (w:=w) (isS:=false) (lo':=none) (hi':=none) (l:=0) (h:=(n:Int)) (aaa n) (.inl ⟨rfl,rfl⟩) (.inl ⟨rfl,rfl⟩) (by omega)
     simp only [aaq,Int.toNat_zero] at hbs
     have hn0:n≠0:=by omega
     simp only [Instr.sliceAt,Instr.slice,aab,run_underlying hu,aae,Instr.sureAddr,aad,hbs,aA hj,aaV,jw,bP,if_neg hn0,abc,aam,abl]
    ·obtain⟨hlo,y6⟩:=ay y5;have hlo:=bY hlo;obtain⟨x0,i3,hx0,e2,i9,_,y7⟩:=ft hS y6;obtain⟨ρ',f1,f2,f3⟩:=hG.freeze hq f9 hlo;rw[←k4] at hgv;have hcv:=f3 ρ' (.refl _) _ (hgv.mono f1);rw[k4] at hcv;obtain⟨av,a9,ρ2,v2,w2,q1,q2,q3,q4,q5,q6⟩:=uX i9 (by rw[e2];exact f2) hu hj k4 k2 (by omega) hcv (h1.mono f1) (h2.mono f1) y7;exact⟨av,a9,ρ2,v2,w2,q1,q2,q3,f1.trans q4,q5,q6⟩
   ·rename_i c gen;obtain⟨k1,y1⟩:=ay z3;obtain⟨k2,y2⟩:=ay y1;obtain⟨k3,y3⟩:=ay y2;obtain⟨k4,y4⟩:=aN y3;clear h z1 z2 z3 y1 y2 y3;have k1:=aac k1;have k2:=aac k2;have k3:=bY k3;subst k1;have hB:=hG.blk _ _ hq;have hB2:=hB;rcases hB with hz|⟨hm',arr,ty,r1,r2,r3,r4,_⟩
    ·omega
    rw[hh] at r1;injection r1 with r1;subst r1;obtain⟨⟨fr,hw⟩,_⟩:=hG.frz _ _ _ r3;have hcv:VR ρ (.cv c) (.slice (some ⟨hm.blk,0,none⟩) n n):=by
     rw[←k4];rcases hB2 with hz|⟨hm',u0,ty',s1,s2,s3,s4,s5⟩
     ·omega
     rw[hh] at s1;injection s1 with s1;subst s1;refine .cv c hm.blk 0 c.len u0 ty' s3 (aaa _) (by omega) λi j' a u hi ha hu'=>?_;obtain⟨u2,u3,u4⟩:=s5 i hi j' a ha;rw[aam,u3] at hu';injection hu' with hu';subst hu';exact u4
    exact uX hS hG hu hj k4 k2 (by omega) hcv h1 h2 y4
   ·exact(ah z3).elim
 ·exact(ah z1).elim
def Ly{t:TypeId}{b g n es:Nat}{v:Value}{lo hi mx:Option AV}{lo' hi' mx':Option Value}(hS:SI σ)(hG:Good w0 ρ σ.h w)(hx:VR ρ (.gsl b g n es) v)(h1:OR ρ lo lo')(h2:OR ρ hi hi')(h3:OR ρ mx mx')(h:run (Uv P t b g n es lo hi mx k) σ K=true):Res P w0 ρ w k K (Instr.sliceAt t v lo' hi' mx'):=by
 obtain⟨d,hu,h⟩:=cB h
 cases mx with
 |some _=>exact(ah h).elim
 |none=>
 cases mx' with
 |some _=>exact h3.elim
 |none=>
 cases d with
 |slice e=>
  obtain⟨j,hj,h⟩:=cC h
  obtain⟨he,h⟩:=ay h
  have he:=aL he
  obtain⟨hb',h8,hb⟩:=dQ h2 h
  clear h
  have key:∀(l:Int) (c:Nat) (blk:Nat),n<=c->((lo'=none/\l=0)∨∃kk,lo'=some (.int kk l))->0<=l/\l<=hb'/\hb'<=(n:Int)->
   (Instr.sliceAt t (.slice (some ⟨blk,0,none⟩) n c) lo' hi' none).run P w= .ok (.slice (some (if c=l.toNat then⟨blk,0,none⟩ else⟨blk,l.toNat * es,none⟩)) (hb'.toNat-l.toNat) (c-l.toNat)) w:=λl c blk hc hl hr=>by
   have hbs:=bS (P:=P) (w:=w) (isS:=true) hc hl hb hr
   simp only [Instr.sliceAt,Instr.slice,aab,run_underlying hu,aae,aad,hbs,aA hj,aaV,jw,bP,aam,he]
  have ag9:∀(a:Option Addr) (l:Int),n=0->((lo'=none/\l=0)∨∃kk,lo'=some (.int kk l))->l=0->hb'=0->(Instr.sliceAt t (.slice a 0 0) lo' hi' none).run P w= .ok (.slice a 0 0) w:=λa l h0 hl el eh=>by subst el;subst eh;rw[h0] at hb;have hbs:=bS (P:=P) (w:=w) (isS:=true) (c:=0) (aaa 0) hl hb ⟨by omega,by omega,by simp⟩;simp only [Int.toNat_zero] at hbs;cases a <;> simp only [Instr.sliceAt,Instr.slice,aab,run_underlying hu,aae,aad,hbs,aA hj,if_true,aa_,aaV,Option.map_none]
  obtain⟨l,h10,hl⟩:=dQ h1 h8
  clear h8
  rcases cX h10 with⟨h0,h11⟩|⟨h0,h11⟩
  ·obtain⟨⟨el,eh⟩,h12⟩:=aN h11
   cases hx with
   |gsl _ _ _ _ hm c hn hh hs hc hz=>omega
   |gnil _ _ _=>exact .plain h12 hS hG (.gnil _ _ _) (ag9 none l rfl hl el eh)
   |gempty _ _ _ a=>exact .plain h12 hS hG (.gempty _ _ _ a) (ag9 (some a) l rfl hl el eh)
  ·obtain⟨hr,h12⟩:=aN h11
   cases hx with
   |gsl _ _ _ _ hm c hn hh hs hc hz=>
    have c9:=key l c hm.blk hc hl hr;have hlen:(hb'-l).toNat=hb'.toNat-l.toNat:=by omega
    rw[hlen] at h12;refine .plain h12 hS hG (.slc _ _ _ _ _ _ _ _ ⟨by omega, ?_⟩) c9;by_cases hca:c=l.toNat
    ·exact .inl ⟨by omega,by omega⟩
    ·refine .inr ⟨hm,hh,by omega,by rw[if_neg hca,hs,abl], ?_⟩;have:c * es=l.toNat * es+(c-l.toNat) * es:=by rw[←aaz];congr 1;omega
     omega
   |gnil _ _ _=>exact absurd rfl h0
   |gempty _ _ _ a=>exact absurd rfl h0
 |_=>exact(ah h).elim
def Ix{t:TypeId}{x:AV}{v:Value}{lo hi mx:Option AV}{lo' hi' mx':Option Value}(hS:SI σ)(hG:Good w0 ρ σ.h w)(hx:VR ρ x v)(h1:OR ρ lo lo')(h2:OR ρ hi hi')(h3:OR ρ mx mx')(h:run (CX P t x lo hi mx k) σ K=true):Res P w0 ρ w k K (Instr.sliceAt t v lo' hi' mx'):=by
 unfold CX at h
 split at h
 ·exact Ly hS hG hx h1 h2 h3 h
 ·have f9:=cW hS h;obtain⟨q,b7,hq,e1,b6,z⟩:=bG hS h;have b9:Good w0 ρ b7.h w:=by rw[e1];exact hG
  rcases bU z with⟨_,z⟩|⟨_,z⟩
  ·exact Lx b6 b9 f9 (by rw[e1];exact hq) hx h1 h2 h3 z
  ·exact rW b6 b9 hx h1 h2 h3 z
 ·exact rW hS hG hx h1 h2 h3 h
end
end Go.Sym
