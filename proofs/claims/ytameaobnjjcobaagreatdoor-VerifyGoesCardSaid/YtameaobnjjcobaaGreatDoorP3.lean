/- Part 3. -/
import Derived.Laws.IdiomStrings
import Derived.Laws.BytesArg
import Derived.Laws.Sem
import Derived.Laws.RangeString
import Derived.Test.YtameaobnjjcobaaGreatDoorP0
import Derived.Test.YtameaobnjjcobaaGreatDoorP1
import Derived.Test.YtameaobnjjcobaaGreatDoorP2
set_option linter.all false
namespace Go.Sym
open Go.RowKit (Below)
section
variable{P:Program}{w0:World}{ρ:Rho}{w:World}{σ:St}{K:Fin}{k:AV->Tr}
def heap_setCell(w:World)(a:Addr)(v:Value)(i:Nat):(w.setCell a v).heap[i]? =if a.block=i then(w.heap[i]?).map (fun
 | .cells c elem fr=>.cells (if a.spot.isSome then c else c.setIfInBounds a.off v) elem fr
 |o=>o) else w.heap[i]? :=by
 simp only [World.setCell,Array.getElem?_modify]
 split <;> rfl
def Good.store{H:T ABlk}(hG:Good w0 ρ H w){b o gen lo hi fl fh tag ty:Nat}{c:T Cell}{h:Home}{a0 a:AV}{v:Value}(hb:H.get b=some (.cells c gen lo hi fl fh false ty))(c7:b+1<2 ^ 64)(hh:ρ.at_ b gen=some h)(hc:c.get o=some (.mk tag a0))(ht:tag<=gen)(hv:VR ρ a v)(u0:gd a=true)(hfz:¬(fl<=o/\o<fh)):
 h.shift<=o/\(Go.store ⟨h.blk,o-h.shift,none⟩ v).run P w= .ok () (w.setCell ⟨h.blk,o-h.shift,none⟩ v)/\
 Good w0 ρ (H.set b (.cells (c.set o (.mk gen a)) gen lo hi fl fh false ty)) (w.setCell ⟨h.blk,o-h.shift,none⟩ v):=by
 have hB:=hG.blk _ _ hb
 obtain⟨hm,q1,q2,_,arr,fr,q3,q4,q5,q6⟩:=hB.2 gen (aao _)
 rw[hh] at q1;injection q1 with q1;subst q1
 have q2:=q2 rfl
 obtain⟨q5a,q5b⟩:=q5 rfl
 obtain⟨E',v0,r1,_⟩:=q6 o tag a0 hc ht
 have c8:o-h.shift<arr.size:=by
  rcases aat (o-h.shift) arr.size with h'|h'
  ·exact h'
  ·rw[aa7 h'] at r1;cases r1
 have d7:w.cell? ⟨h.blk,o-h.shift,none⟩=some v0:=by simp [World.cell?,q3,r1]
 have ak0:w.frozen? ⟨h.blk,o-h.shift,none⟩=false:=by
  simp only [World.frozen?,q3]
  obtain⟨f1,f2⟩:=fr
  cases hx:(decide (f1<=o-h.shift) && decide (o-h.shift<f2)) with
  |false=>rfl
  |true=>simp only [Bool.and_eq_true,decide_eq_true_eq] at hx;have:=q5b (o-h.shift) (.inl (by omega)) hx.1 hx.2;exact absurd (by omega) hfz
 refine⟨E', ?_, ?_⟩
 ·rw[run_store P w _ v .plain (jb hv u0),d7];simp [ak0]
 ·refine hG.turn (hrs:=⟨b,gen,h,hh,rfl⟩) hb c7 h.blk q2 (Kept.setCell (p:=⟨h.blk,o-h.shift,none⟩) q2 v) (by simp [World.setCell]) (λk hk _=>?_) (λb' g' h' f7 e'=>(hG.inj _ _ _ _ _ _ f7 hh e').1) ⟨λo' x hx=>?_,λg' hg'=>?_⟩
  ·rw[heap_setCell,if_neg (λe=>hk e.symm)]
  ·by_cases eo:o'=o
   ·subst eo;have:=T.get_set_some _ _ hx;rw[this];exact⟨(hB.1 _ _ hc).1,(hB.1 _ _ hc).2.1,aao _⟩
   ·rw[T.get_set_ne _ eo] at hx;exact hB.1 _ _ hx
  ·obtain⟨t9,s1,s2,s2',j8,fr',s3,s4,s5,s6⟩:=hB.2 g' hg';by_cases eb:t9.blk=h.blk
   ·obtain⟨_,ehm⟩:=hG.inj _ _ _ _ _ _ s1 hh eb;subst ehm;rw[q3] at s3;injection s3 with s3;injection s3 with s3a s3b s3c;subst s3a;subst s3c;refine⟨_,s1,s2,s2',arr.setIfInBounds (o-t9.shift) v,fr, ?_,by simpa using s4,s5,λo' ad5 a' ho' ht'=>?_⟩
    ·rw[heap_setCell,if_pos rfl,q3];rfl
    ·by_cases eo:o'=o
     ·subst eo;have:=T.get_set_some _ _ ho';injection this with e1 e2;subst e2;exact⟨E',v,by rw[aaX];simp [c8],hv⟩
     ·rw[T.get_set_ne _ eo] at ho';obtain⟨u1,v',u2,u3⟩:=s6 o' ad5 a' ho' ht';exact⟨u1,v',by rw[aaX,if_neg (by omega)];exact u2,u3⟩
   ·refine⟨t9,s1,s2,s2',j8,fr', ?_,s4,s5,λo' ad5 a' ho' ht'=>?_⟩
    ·rw[heap_setCell,if_neg (λe=>eb e.symm)];exact s3
    ·by_cases eo:o'=o
     ·subst eo;have:=T.get_set_some _ _ ho';injection this with e1 e2;have:g'=gen:=by omega
      subst this;rw[hh] at s1;injection s1 with s1;subst s1;exact absurd rfl eb
     ·rw[T.get_set_ne _ eo] at ho';exact s6 o' ad5 a' ho' ht'
def stsT{b gen lo hi fl fh o0 ty:Nat}{h:Home}(c7:b+1<2 ^ 64)(hh:ρ.at_ b gen=some h)(ho0:h.shift<=o0):∀(l:List AV) (vs:List Value) (i:Nat) (c:T Cell) (w:World) (H:T ABlk) (k:T Cell->Tr),
 Good w0 ρ H w->H.get b=some (.cells c gen lo hi fl fh false ty)->LR ρ l vs->run (Vd gen fl fh l (o0+i) c k) σ K=true->
 ∃c' w',run (k c') σ K=true/\(storeCells ⟨h.blk,o0-h.shift,none⟩ vs i).run P w= .ok () w'/\Good w0 ρ (H.set b (.cells c' gen lo hi fl fh false ty)) w':=by
 intro l
 induction l with
 |nil=>
  intro vs i c w H k hG hb hl hr
  rw[hl.nil_inv]
  exact⟨c,w,hr,rfl,hG.ext λb'=>by
   by_cases e:b'=b
   ·subst e;rw[T.get_set_same _ _ _ c7,hb]
   ·rw[T.get_set_ne _ e]⟩
 |cons a l ih=>
  intro vs i c w H k hG hb hl hr
  obtain⟨v,m7,rfl,hv,l3⟩:=hl.cons_inv
  have hr:run (ac (gd a) (ac (ac (Nat.ble fl (o0+i)) (Nat.ble (Nat.succ (o0+i)) fh) false) .fail (T.getK c (o0+i) .fail λx=>match x with
   | .mk tag _=>ac (Nat.ble tag gen) (T.setK c (o0+i) (.mk gen a) λc=>fN (Nat.succ (o0+i)) λo=>Vd gen fl fh l o c k) .fail)) .fail) σ K=true:=hr
  obtain⟨u0,hr⟩:=ay hr
  obtain⟨hfz,hr⟩:=rc hr
  obtain⟨x,hx,hr⟩:=tH hr
  cases x with
  |mk tag a0=>
   obtain⟨ht,hr⟩:=ay hr
   rw[T.setK_eq] at hr
   have hr:=jF hr
   have ap6:¬(fl<=o0+i/\o0+i<fh):=λ⟨e1,e2⟩=>by rw[ar,if_pos (Nat.ble_eq.mpr e1)] at hfz;rw[Nat.ble_eq.mpr e2] at hfz;cases hfz
   obtain⟨_,s1,s2⟩:=hG.store (P:=P) hb c7 hh hx (bV ht) hv u0 ap6
   obtain⟨c',w',r1,r2,r3⟩:=ih m7 (i+1) (c.set (o0+i) (.mk gen a)) _ _ k s2 (T.get_set_same _ _ _ c7) l3 hr
   refine⟨c',w',r1, ?_,r3.ext λb'=>?_⟩
   ·have ea:(⟨h.blk,o0-h.shift,none⟩:Addr).add i=⟨h.blk,o0+i-h.shift,none⟩:=by
     unfold Addr.add;split
     ·rename_i e;subst e;simp
     ·simp;omega
    simp only [storeCells,aap,ea,s1,aau];exact r2
   ·by_cases e:b'=b
    ·subst e;rw[T.get_set_same _ _ _ c7,T.get_set_same _ _ _ c7]
    ·rw[T.get_set_ne _ e,T.get_set_ne _ e,T.get_set_ne _ e]
def py{b g o:Nat}{h:Home}{l:List AV}{vs:List Value}{k:Tr}(hS:SI σ)(hG:Good w0 ρ σ.h w)(hh:ρ.at_ b g=some h)(ho:h.shift<=o)(hl:LR ρ l vs)(hr:run (oh b g o l k) σ K=true):
 Hu P w0 ρ w k K (storeCells ⟨h.blk,o-h.shift,none⟩ vs):=by
 have c7:=cX hS hr
 obtain⟨x,b6,hx,e1,a9,hr⟩:=bG hS hr
 cases x with
 |cells c gen lo hi fl fh ro ty=>
  obtain⟨hro,hr⟩:=rc hr
  subst hro
  obtain⟨hg,hr⟩:=ay hr
  have hg:=aN hg
  subst hg
  obtain⟨c',w',r1,r2,r3⟩:=stsT (P:=P) (o0:=o) c7 hh ho l vs 0 c w σ.h _ hG hx hl hr
  obtain⟨x0,c9,_,e2,d6,_,r4⟩:=fo a9 r1
  exact⟨c9,w',r4,d6,by rw[e2,e1];exact r3,r2⟩
 |_=>exact(ah hr).elim
def Ks{t:TypeId}{x y:AV}{v u:Value}{k:Tr}(hS:SI σ)(hG:Good w0 ρ σ.h w)(hx:VR ρ x v)(hy:VR ρ y u)(hr:run (JQ P t x y k) σ K=true):Hu P w0 ρ w k K (Instr.storeAt t v u):=by
 cases hx with
 |ptr b g o h hh ho=>
  obtain⟨i,hi,hr⟩:=cB hr;obtain⟨l,hl,hr⟩:=hY hy hr;obtain⟨hlen,hr⟩:=ay hr;have hlen:=aN hlen;obtain⟨a8,w',r1,r2,r3,r4⟩:=py (P:=P) hS hG hh ho hl hr;refine⟨a8,w',r1,r2,r3, ?_⟩;have p8:u.cells.size=i.size:=by rw[←aaY,hl.1];exact hlen
  simp only [Instr.storeAt,Instr.sureAddr,storeVar,aap,aar,aau,aA hi,p8,ne_eq,not_true_eq_false,if_false];exact r4
 |gptr b g i o es hm hh hs=>
  obtain⟨ii,hi,hr⟩:=cB hr
  obtain⟨l,hl,hr⟩:=hY hy hr
  obtain⟨hlen,hr⟩:=ay hr
  have hlen:=aN hlen
  obtain⟨i3,hr⟩:=ay hr
  have i3:=bV i3
  have c7:=cX hS hr
  obtain⟨q,b6,hq,e1,a9,hr⟩:=bG hS hr
  have b7:Good w0 ρ b6.h w:=by rw[e1];exact hG
  cases q with
  |grow c gen ty=>
   obtain⟨k1,z1⟩:=ay hr
   obtain⟨k2,z2⟩:=ay z1
   obtain⟨k3,z3⟩:=ay z2
   obtain⟨k4,z4⟩:=ay z3
   clear hr z1 z2 z3
   have k1:=aN k1
   have k2:=aN k2
   have k3:=bV k3
   have u0:∀a∈l,gd a=true:=λa ha=>List.all_eq_true.1 k4 a ha
   subst k1;subst k2
   cases hu:c.upd i o l with
   |none=>rw[hu] at z4;exact(ah z4).elim
   |some r=>
    obtain⟨c',p⟩:=r;rw[hu] at z4;obtain⟨⟨J',hp⟩,z5⟩:=aQ z4;obtain⟨x0,c9,hx0,e2,d6,_,z6⟩:=fo a9 z5;clear z4 z5;obtain⟨u1,u2,u3,u4⟩:=Vn hu hp J' (by omega);have n6:b6.h.get b=some (.grow c g ty):=by rw[e1];exact hq
    rcases b7.blk _ _ n6 with h0|⟨t9,q1,q2,q3,arr,fr,q4,q5,q6,q7,q8⟩
    ·omega
    rw[hh] at q1;injection q1 with q1;subst q1;have x6:u.cells.toList.length=l.length:=hl.1;have ad6:i * c.es+c.es<=c.len * c.es:=by rw[←aa1];exact aaM _ J'
    have ac0:(i * c.es+o)+u.cells.toList.length<=arr.size:=by rw[x6];omega
    obtain⟨j8,s1,s2,s3,s4,s5,s6,s7⟩:=eZ hm.blk u.cells.toList (i * c.es+o) w arr ty fr q4 ac0;have j9:=run_storeCells_cells (P:=P) hm.blk (i * c.es+o) u.cells.toList 0 w (λj hj=>by
     simp only [World.cell?,q4]
     simp only [abn,Bool.false_eq_true,if_false,aaG]
     rw[aa0 (by omega)];rfl) (λj hj=>by
     simp only [World.frozen?,q4,aaG]
     cases hx:(decide (fr.1<=i * c.es+o+j) && decide (i * c.es+o+j<fr.2)) with
     |false=>rfl
     |true=>simp only [Bool.and_eq_true,decide_eq_true_eq] at hx;exact(q7 _ (by omega) hx.1 hx.2).elim) (hl.ones u0)
    rw[aaG] at j9;have K':Good w0 ρ (b6.h.set b (.grow c' g ty)) (w.setCells hm.blk (i * c.es+o) u.cells.toList):=by
     refine b7.turn (hrs:=⟨b,g,hm,hh,rfl⟩) n6 c7 hm.blk q3 (Kept.of_set (s7 0 (aaD _)) s5 q3) (by omega) (λx hx _=>s5 x hx) (λb' g' h' f7 e'=>(hG.inj _ _ _ _ _ _ f7 hh e').1) ?_;refine .inr ⟨hm,hh,q2,q3,j8,fr,s1,by omega,by rw[u1,u2];exact q6,q7,λi' hi'=>?_⟩;rw[u1] at hi';rw[u2];by_cases e:i'=i
     ·subst e;refine mX (λj a ha=>?_) (u4 ρ);have hrl:=c.row_len i';have hj:j<c.es:=by
       rcases aat j c.es with h'|h'
       ·exact h'
       ·rw[aaz (by simp;omega)] at ha;cases ha
      by_cases hj1:j<o
      ·rw[aaK,aaO (by simp;omega),aaF hj1] at ha;obtain⟨uu,v1,v2⟩:=q8 i' J' j a ha;exact⟨uu,by rw[s4 _ (.inl (by omega))];exact v1,v2⟩
      ·by_cases hj2:j<o+l.length
       ·rw[aaK,aaJ (by simp;omega),aaO (by simp;omega)] at ha;have ha:l[j-o]? =some a:=by rw[←ha];congr 1;simp;omega
        obtain⟨uu,v1,v2⟩:=hl.get ha;refine⟨uu, ?_,v2⟩;have hjl:j-o<u.cells.toList.length:=by
         rcases aat (j-o) u.cells.toList.length with h'|h'
         ·exact h'
         ·rw[aaz h'] at v1;cases v1
        have:=s3 (j-o) hjl;rw[show i' * c.es+j=i' * c.es+o+(j-o) by omega,this];exact v1
       ·rw[aaJ (by simp;omega),aaH] at ha;have ha:(c.row i')[j]? =some a:=by rw[←ha];congr 1;simp;omega
        obtain⟨uu,v1,v2⟩:=q8 i' J' j a ha;exact⟨uu,by rw[s4 _ (.inr (by rw[x6];omega))];exact v1,v2⟩
     ·rw[u3 i' e];intro j a ha;obtain⟨uu,v1,v2⟩:=q8 i' hi' j a ha;have hj:j<c.es:=by
       have:=c.row_len i';rcases aat j c.es with h'|h'
       ·exact h'
       ·rw[aaz (by omega)] at ha;cases ha
      refine⟨uu, ?_,v2⟩;rw[s4 _ ?_]
      ·exact v1
      ·rw[x6];rcases Nat.lt_or_gt_of_ne e with e|e
       ·left;have:i' * c.es+c.es<=i * c.es:=by rw[←aa1];exact aaM _ e
        omega
       ·right;have:i * c.es+c.es<=i' * c.es:=by rw[←aa1];exact aaM _ e
        omega
    refine⟨c9,_,z6,d6,by rw[e2];exact K', ?_⟩;have p8:u.cells.size=ii.size:=by rw[←aaY,hl.1];exact hlen
    simp only [Instr.storeAt,Instr.sureAddr,storeVar,aap,aar,aau,aA hi,p8,ne_eq,not_true_eq_false,if_false];exact j9
  |_=>exact(ah hr).elim
 |_=>exact(ah hr).elim
end
end Go.Sym
namespace Go.Sym
open Go.RowKit (Below)
def tI(off:Nat):∀(l:List Value) (j:Nat) (cs:Array Value),off+j+l.length<=cs.size->
 ((l.zipIdx j).foldl (λcs p=>cs.setIfInBounds (off+p.2) p.1) cs).size=cs.size/\
 ∀x,((l.zipIdx j).foldl (λcs p=>cs.setIfInBounds (off+p.2) p.1) cs)[x]? =if off+j<=x/\x<off+j+l.length then l[x-off-j]? else cs[x]? :=by
 intro l
 induction l with
 |nil=>intro j cs _;refine⟨rfl,λx=>?_⟩;simp;intro h1 h2;omega
 |cons a l ih=>
  intro j cs h
  simp only [aaI] at h
  rw[List.zipIdx_cons,List.foldl_cons]
  obtain⟨h1,h2⟩:=ih (j+1) (cs.setIfInBounds (off+j) a) (by simp;omega)
  refine⟨by rw[h1];simp,λx=>?_⟩
  rw[h2 x,aaX]
  simp only [aaI]
  by_cases e:x=off+j
  ·subst e;rw[if_neg (by omega),if_pos rfl,if_pos (by omega),if_pos (by omega)];simp
  ·by_cases e2:off+(j+1)<=x/\x<off+(j+1)+l.length
   ·rw[if_pos e2,if_pos (by omega),show x-off-j=(x-off-(j+1))+1 by omega];simp
   ·rw[if_neg e2,if_neg (by omega),if_neg (by omega)]
section
variable{P:Program}{w0:World}{ρ:Rho}{w:World}{σ:St}{K:Fin}{k:AV->Tr}
def B9{l cs:List AV}{arr:Array Value}{vs:Array Value}{off:Nat}(hl:LR ρ l arr.toList)(hc:LR ρ cs vs.toList)(hlen:off+cs.length<=l.length):
 LR ρ (dW l off cs) (vs.zipIdx.foldl (λcs (c,j)=>cs.setIfInBounds (off+j) c) arr).toList:=by
 have hn:vs.size=cs.length:=by have:=hc.1;simpa using this
 have hm:arr.size=l.length:=by have:=hl.1;simpa using this
 have e:vs.zipIdx.foldl (λcs (c,j)=>cs.setIfInBounds (off+j) c) arr=(vs.toList.zipIdx 0).foldl (λcs p=>cs.setIfInBounds (off+p.2) p.1) arr:=by rw[←Array.foldl_toList,Array.toList_zipIdx]
 rw[e]
 obtain⟨h1,h2⟩:=tI off vs.toList 0 arr (by simp [hn,hm];omega)
 have ai5:(dW l off cs).length=l.length:=by simp [dW];omega
 refine⟨by rw[ai5];simp [h1,hm],λi a v ha hv=>?_⟩
 have hv:((vs.toList.zipIdx 0).foldl (λcs p=>cs.setIfInBounds (off+p.2) p.1) arr)[i]? =some v:=by simpa using hv
 rw[h2 i] at hv
 have hi:i<l.length:=by
  rcases aat i l.length with h'|h'
  ·exact h'
  ·rw[aaz (by rw[ai5];exact h')] at ha;cases ha
 have hvl:vs.toList.length=cs.length:=by simp [hn]
 rw[hvl] at hv
 by_cases c1:i<off
 ·rw[if_neg (by omega)] at hv;have:(dW l off cs)[i]? =l[i]? :=by unfold dW;rw[aaK,aaO (by simp;omega),abd,if_pos c1]
  rw[this] at ha;exact hl.2 i a v ha (by simpa using hv)
 ·by_cases c2:i<off+cs.length
  ·rw[if_pos (by omega)] at hv;have:(dW l off cs)[i]? =cs[i-off]? :=by unfold dW;rw[aaK,aaJ (by simp;omega),aaO (by simp;omega)];congr 1;simp;omega
   rw[this] at ha;exact hc.2 (i-off) a v ha (by simpa using hv)
  ·rw[if_neg (by omega)] at hv;have:(dW l off cs)[i]? =l[i]? :=by unfold dW;rw[aaJ (by simp;omega)];rw[aaH];congr 1;simp;omega
   rw[this] at ha;exact hl.2 i a v ha (by simpa using hv)
def Kt{place:Nat->Option (Nat×Nat)}:∀(parts:List (Nat×AV)) (ps:List (Nat×Value)) (cells:List AV) (arr:Array Value) (k:List AV->Tr),parts.map (·.1)=ps.map (·.1)->LR ρ (parts.map (·.2)) (ps.map (·.2))->LR ρ cells arr.toList->
 run (yy place cells parts k) σ K=true->∃l j8,run (k l) σ K=true/\LR ρ l j8.toList/\Instr.fill place arr ps=some j8:=by
 intro parts
 induction parts with
 |nil=>
  intro ps cells arr k h1 h2 hl h
  have:ps= []:=by cases ps <;> simp at h1⊢
  subst this
  exact⟨cells,arr,h,hl,rfl⟩
 |cons p parts ih=>
  intro ps cells arr k h1 h2 hl h
  cases ps with
  |nil=>simp at h1
  |cons q ps=>
   simp only [aaP,List.cons.injEq] at h1
   obtain⟨h1a,h1b⟩:=h1
   simp only [aaP] at h2
   obtain⟨v,m7,e,hv,h2'⟩:=h2.cons_inv
   injection e with e1 e2
   subst e1;subst e2
   have h:run (dr (place p.1) .fail λq=>gZ p.2 λcs=>ac (Nat.beq cs.length q.2) (ac (Nat.ble (q.1+q.2) cells.length) (g_ (dW cells q.1 cs) λcells=>yy place cells parts k) .fail) .fail) σ K=true:=h
   obtain⟨pl,hpl,h⟩:=cb h
   obtain⟨cs,hcs,h⟩:=hY hv h
   obtain⟨hb1,h⟩:=ay h
   obtain⟨hb2,h⟩:=ay h
   have hb1:=aN hb1
   have hb2:=bV hb2
   have hn:q.2.cells.size=cs.length:=by have:=hcs.1;simpa using this
   have hm:arr.size=cells.length:=by have:=hl.1;simpa using this
   obtain⟨l,j8,r1,r2,r3⟩:=ih ps _ _ k h1b h2' (B9 (off:=pl.1) hl hcs (by omega)) (gJ h)
   refine⟨l,j8,r1,r2, ?_⟩
   obtain⟨qi,qv⟩:=q
   obtain⟨off,size⟩:=pl
   simp only at h1a hb1 hb2 hn⊢
   simp only [Instr.fill, ←h1a,hpl]
   rw[if_neg]
   ·exact r3
   ·simp;omega
def B_(fs:Array Field)(h:qd P fs=true):∃pl:Array (Nat×Nat),(fs.mapM λf=>do pure (f.offset, ←sizeOf f.type):Sem (Array (Nat×Nat))).run P w= .ok pl w/\∀i,pl[i]? =wd P fs i:=by
 refine⟨(fs.toList.map λf=>(f.offset,((P.info? f.type).map (·.size)).getD 0)).toArray, ?_,λi=>?_⟩
 ·rw[Array.mapM_eq_mapM_toList,Sem.run_map];have key:∀l:List Field,(∀f∈l,(P.info? f.type).isSome=true)->(l.mapM λf=>do pure (f.offset, ←sizeOf f.type):Sem (List (Nat×Nat))).run P w= .ok (l.map λf=>(f.offset,((P.info? f.type).map (·.size)).getD 0)) w:=by
   intro l
   induction l with
   |nil=>intro _;rfl
   |cons f l ih=>
    intro hl
    have hf:=hl f (by simp)
    cases hi:P.info? f.type with
    |none=>rw[hi] at hf;cases hf
    |some i=>rw[List.mapM_cons];simp only [aap,aA hi,aau,aar,ih (λx hx=>hl x (by simp [hx]))];simp [hi]
  rw[key fs.toList (λf hf=>by simp only [qd,abx] at h;exact h f hf)];rfl
 ·simp only [wd,abj,aaW,aa9]
  cases hf:fs[i]? with
  |none=>rfl
  |some f=>
   simp only [abb]
   have:(P.info? f.type).isSome=true:=by simp only [qd,abx] at h;exact h f (abs (by simpa using hf))
   cases hi:P.info? f.type with
   |none=>rw[hi] at this;cases this
   |some x=>rfl
def Ku{t:TypeId}{parts:List (Nat×AV)}{ps:Array (Nat×Value)}(hS:SI σ)(hG:Good w0 ρ σ.h w)(h1:parts.map (·.1)=ps.toList.map (·.1))(h2:LR ρ (parts.map (·.2)) (ps.toList.map (·.2)))(h:run (JR P t parts k) σ K=true):Res P w0 ρ w k K (Instr.build t ps):=by
 obtain⟨z,zv,i,hi,hz,hzr,h⟩:=yO ρ w h
 obtain⟨d,hu,h⟩:=cG h
 cases d with
 |struct fs=>
  obtain⟨hs,h⟩:=ay h
  obtain⟨zl,hzl,h⟩:=hY hzr h
  obtain⟨l,arr,r1,r2,r3⟩:=Kt parts ps.toList zl zv.cells _ h1 h2 hzl h
  obtain⟨pl,p1,p2⟩:=B_ (P:=P) (w:=w) fs hs
  refine .plain r1 hS hG (VR.agg l arr r2.arr.1 r2.arr.2) ?_
  have e:(λx=>pl[x]?)=wd P fs:=funext p2
  simp only [Instr.build,aap,hz,aau,run_underlying hu,p1]
  rw[e,r3]
  rfl
 |array n e=>
  obtain⟨j,hj,h⟩:=cB h
  obtain⟨zl,hzl,h⟩:=hY hzr h
  obtain⟨l,arr,r1,r2,r3⟩:=Kt parts ps.toList zl zv.cells _ h1 h2 hzl h
  refine .plain r1 hS hG (VR.agg l arr r2.arr.1 r2.arr.2) ?_
  simp only [Instr.build,aap,hz,aau,run_underlying hu,aA hj]
  rw[r3]
  rfl
 |_=>exact(ah h).elim
def rk(z:List AV)(n:Nat):(dX z n).length=n * z.length:=by
 induction n with
 |zero=>simp [dX]
 |succ n ih=>simp [dX,ih,aa1];omega
def HB{z:List AV}{zv:Array Value}(hz:LR ρ z zv.toList)(i3:1<=z.length)(n:Nat):LR ρ (dX z n) ((Array.range (n * z.length)).map λi=>zv[i%zv.size]!).toList:=by
 have hs:zv.size=z.length:=by have:=hz.1;simpa using this
 refine⟨by simp [rk],λi a v ha hv=>?_⟩;have hi:i<n * z.length:=by
  rcases aat i (n * z.length) with h'|h'
  ·exact h'
  ·rw[aaz (by rw[rk];exact h')] at ha;cases ha
 have key:∀(n i:Nat),i<n * z.length->(dX z n)[i]? =z[i%z.length]? :=by
  intro n
  induction n with
  |zero=>intro i hi;simp at hi
  |succ n ih=>
   intro i hi;simp only [dX];by_cases c:i<z.length
   ·rw[aaO c,abt c]
   ·rw[aaJ (by omega),ih _ (by rw[aa1] at hi;omega)];congr 1;rw[Nat.mod_eq_sub_mod (by omega:i≥z.length)]
 rw[key n i hi] at ha;have hv:zv[i%zv.size]! =v:=by simp [hi] at hv;exact hv
 have c8:i%zv.size<zv.size:=Nat.mod_lt _ (by omega);refine hz.2 (i%z.length) a v ha ?_;rw[←hs];simp only [aa9];rw[←hv,getElem!_pos zv _ c8,aa0 c8]
def tJ{t:TypeId}{len:Nat}{parts:List (Nat×AV)}{ps:Array (Nat×Value)}(hS:SI σ)(hG:Good w0 ρ σ.h w)(h1:parts.map (·.1)=ps.toList.map (·.1))(h2:LR ρ (parts.map (·.2)) (ps.toList.map (·.2)))(h:run (pw P t len parts k) σ K=true):Res P w0 ρ w k K (Instr.buildSlice t len ps):=by
 obtain⟨d,hu,h⟩:=cG h
 cases d with
 |slice e=>
  obtain⟨j,hj,h⟩:=cB h
  obtain⟨hb,h⟩:=ay h
  obtain⟨hb1,h⟩:=ay h
  have hb:=bV hb
  have hb1:=bV hb1
  obtain⟨z,zv,i,hi,hz,hzr,h⟩:=yO ρ w h
  obtain⟨zl,hzl,h⟩:=hY hzr h
  obtain⟨hb2,h⟩:=ay h
  have hb2:=aN hb2
  have am1:=HB hzl (by omega) len
  rw[hb2] at am1
  obtain⟨zero,b9,am2⟩:∃zero:Array Value,(if len * j.size=0 then pure #[] else do pure (←zeroValue e).cells:Sem (Array Value)).run P w= .ok zero w/\LR ρ (dX zl len) ((Array.range (len * j.size)).map λi=>zero[i%zero.size]!).toList:=by
   by_cases e0:len * j.size=0
   ·have:len=0:=by
     rcases Nat.mul_eq_zero.mp e0 with h'|h'
     ·exact h'
     ·omega
    subst this;refine⟨#[],by rw[if_pos e0];rfl, ?_⟩;simp [dX];exact LR.nil ρ
   ·exact⟨zv.cells,by rw[if_neg e0];simp [hz],am1⟩
  obtain⟨l,arr,r1,r2,r3⟩:=Kt parts ps.toList (dX zl len) _ _ h1 h2 am2 h
  obtain⟨q1,q2⟩:=LR.to_arr r2
  obtain⟨b,a8,h5,l6,hle,f6⟩:=oD arr e hS hG q1 q2 r1
  refine⟨_,a8,_,_,_,h5,l6,f6,hle,VR.slc b 0 0 len (some len) j.size _ len ⟨aao _,rfl,_,Rho.put_at _ _ _ _,aaD _,rfl⟩, ?_⟩
  simp only [Instr.buildSlice,aap,run_underlying hu,aau,aA hj]
  rw[if_neg (by omega)]
  by_cases e0:len * j.size=0
  ·rw[if_pos e0] at b9⊢;rw[aap,b9];simp only [aau,r3];simp [newRow]
  ·rw[if_neg e0] at b9⊢;have hz0:zv.cells=zero:=by simpa [hz] using b9
   subst hz0;simp only [aap,hz,aau,aar,r3];simp [newRow]
 |_=>exact(ah h).elim
end
end Go.Sym
namespace Go.Sym
open Go.RowKit (Below)
def az{α β:Type}{o:Option α}{k:α->Option β}{b:β}(h:bA o k=some b):∃a,o=some a/\k a=some b:=by
 cases o with
 |none=>cases h
 |some a=>exact⟨a,rfl,h⟩
def aU{α:Type}{c:Bool}{o:Option α}{b:α}(h:ac c o none=some b):c=true/\o=some b:=by
 cases c with
 |true=>exact⟨rfl,h⟩
 |false=>cases h
def Vo{α:Type}{c:Bool}{o:Option α}{b:α}(h:ac c none o=some b):c=false/\o=some b:=by
 cases c with
 |false=>exact⟨rfl,h⟩
 |true=>cases h
def mY{α β:Type}{t:T α}{n:Nat}{k:α->Option β}{b:β}(h:T.getK t n none k=some b):∃a,t.get n=some a/\k a=some b:=by
 rw[T.getK_eq] at h;split at h
 ·cases h
 ·exact⟨_,by assumption,h⟩
def rl{c:T Cell}{g:Nat}:∀{n o:Nat} {l:List AV},PM c g n o=some l->l.length=n/\∀(j:Nat) (a:AV),l[j]? =some a->∃tag,c.get (o+j)=some (.mk tag a)/\tag<=g:=by
 intro n
 induction n with
 |zero=>intro o l h;injection h with h;subst h;exact⟨rfl,by simp⟩
 |succ n ih=>
  intro o l h
  replace h:=mY h;obtain⟨x,hx,h⟩:=h
  cases x with
  |mk tag v=>
   replace h:=aU h;obtain⟨ht,h⟩:=h
   rw[qP] at h
   obtain⟨l',h1,h2⟩:=az h
   injection h2 with h2
   subst h2
   obtain⟨q1,q2⟩:=ih h1
   refine⟨by simp [q1],λj a ha=>?_⟩
   cases j with
   |zero=>simp at ha;subst ha;exact⟨tag,hx,aaL ht⟩
   |succ j=>simp at ha;obtain⟨ad5,r1,r2⟩:=q2 j a ha;exact⟨ad5,by rw[←r1];congr 1;omega,r2⟩
def ji{ρ:Rho}{B b g:Nat}{w:World}{ct:Ct}{v:Value}(hb:BR ρ B w b (.froz ct g))(hv:VR ρ (.gsl b g ct.len ct.es) v):VR ρ (.cv ct) v:=by
 generalize hnn:ct.len=nn at hv
 generalize hee:ct.es=ee at hv
 cases hv with
 |gnil _ _ _=>exact .cvnil _ hnn
 |gempty _ _ _ a=>exact .cvempty _ a hnn
 |gsl _ _ _ _ h c hn hh hs hc hz=>
  subst hnn;subst hee;rcases hb with h0|⟨h',arr,ty,r1,r2,r3,r4,r5⟩
  ·omega
  rw[hh] at r1;injection r1 with r1;subst r1;refine .cv ct h.blk 0 c arr ty r3 hc (by omega) λi j a v hi ha hv=>?_;obtain⟨u,u1,u2⟩:=r5 i hi j a ha;rw[aaC,u1] at hv;injection hv with hv;subst hv;exact u2
section
variable{P:Program}{w0:World}{ρ:Rho}{w:World}{σ:St}{K:Fin}
def Good.none_new{H:T ABlk}(hG:Good w0 ρ H w){n:Nat}(hn:H.get n=none)(c7:n+1<2 ^ 64){ct:Ct}{g ty:Nat}(h0:ct.len=0):Good w0 ρ (H.set n (.grow ct g ty)) w:=by
 have j5:∀g h,ρ.at_ n g≠some h:=λg h hh=>by obtain⟨_,X,hX⟩:=hG.dom _ _ _ hh;rw[hn] at hX;cases hX
 refine⟨⟨hG.below,λb X hX=>?_,λb g h hh=>?_,hG.inj,λb g h X hh hX=>?_,λb arr ty hf=>⟨(hG.frz b arr ty hf).1,λb' g' h hh e=>?_⟩,hG.frzB,λb k I l hX g h hh=>?_⟩,hG.ownB⟩
 ·by_cases e:b=n
  ·subst e;rw[T.get_set_same _ _ _ c7] at hX;injection hX with hX;subst hX;exact .inl h0
  ·rw[T.get_set_ne _ e] at hX;exact hG.blk _ _ hX
 ·obtain⟨q1,X,q2⟩:=hG.dom _ _ _ hh;refine⟨q1,X, ?_⟩;rw[T.get_set_ne _ (λe=>by subst e;exact j5 _ _ hh)];exact q2
 ·rw[T.get_set_ne _ (λe=>by subst e;exact j5 _ _ hh)] at hX;exact hG.gens _ _ _ _ hh hX
 ·obtain⟨X,q1,q2⟩:=(hG.frz b arr ty hf).2 _ _ _ hh e;exact⟨X,by rw[T.get_set_ne _ (λe=>by subst e;exact j5 _ _ hh)];exact q1,q2⟩
 ·rw[T.get_set_ne _ (λe=>by subst e;exact j5 _ _ hh)] at hX;exact hG.objO _ _ _ _ hX _ _ hh
def iE{b:Nat}:∀{loc:List (Nat×Nat×Nat)} {x:Nat×Nat×Nat},x∈loc->x.2.1=b->kg b loc=false:=by
 intro loc
 induction loc with
 |nil=>intro x h;cases h
 |cons z l ih=>
  intro x h e;show ac (Nat.beq z.2.1 b) false (kg b l)=false;rw[ar];split
  ·rfl
  ·rename_i hz;rcases List.mem_cons.1 h with h|h
   ·subst h;exact absurd (by rw[e];exact abA _) hz
   ·exact ih h e
def Stays(loc:List (Nat×Nat×Nat))(H H':T ABlk):Prop:=∀b X,(∃x,x∈loc/\x.2.1=b)->H.get b=some X->H'.get b=some X
def Stays.refl(loc:List (Nat×Nat×Nat))(H:T ABlk):Stays loc H H:=λ_ _ _ h=>h
def Stays.trans{loc:List (Nat×Nat×Nat)}{a b c:T ABlk}(h:Stays loc a b)(h':Stays loc b c):Stays loc a c:=λx X q r=>h' x X q (h x X q r)
def Ek{loc:List (Nat×Nat×Nat)}{b g o len es:Nat}{cap:Option Nat}{rows:Nat->List AV->(Ct->Nat->Tr)->Tr}{k:Ct->Nat->Tr}(hS:SI σ)(hG:Good w0 ρ σ.h w)(ad1:∀(ty0:Nat) (as:List AV) (kk:Ct->Nat->Tr) (a8:St),run (rows ty0 as kk) a8 K=true->∃ct ty,run (kk ct ty) a8 K=true/\(as.length=ct.len * ct.es->∀i,i<ct.len->∀(ρ:Rho) (vs:List Value),LR ρ ((as.drop (i * ct.es)).take ct.es) vs->LR ρ (ct.row i) vs))(h:run (PZ loc b g o len cap es rows k) σ K=true):
 ∃ct ty b6,run (k ct ty) b6 K=true/\SI b6/\b6.h=σ.h/\b+1<2 ^ 64/\kg b loc=true/\ct.len=len/\ct.es=es/\Good w0 ρ (σ.h.set b (.grow ct g ty)) w/\∀ρ2,ρ.le ρ2->∀v,VR ρ2 (.slc b g o len cap es) v->VR ρ2 (.gsl b g len es) v:=by
 have c7:=cX hS h
 obtain⟨q,b6,hq,e1,a9,z0⟩:=bG hS h
 cases q with
 |cells c gen lo hi fl fh ro ty=>
  obtain⟨k0,z1⟩:=rc z0
  obtain⟨k1,z2⟩:=ay z1
  obtain⟨k2,z3⟩:=ay z2
  obtain⟨k3,z4⟩:=ay z3
  obtain⟨k4,z5⟩:=ay z4
  obtain⟨k5,z6⟩:=ay z5
  obtain⟨k6,z7⟩:=ay z6
  obtain⟨k7,z8⟩:=ay z7
  obtain⟨k8,z9⟩:=ay z8
  clear z0 z1 z2 z3 z4 z5 z6 z7 z8 h
  obtain⟨as,hl,za⟩:=cb z9
  obtain⟨ct,G',zb,hct⟩:=ad1 _ _ _ _ za
  obtain⟨k9,zc⟩:=ay zb
  obtain⟨k10,zd⟩:=ay zc
  obtain⟨k11,ze⟩:=aQ zd
  clear za zb zc zd z9
  have k1:=aN k1
  have k2:=aN k2
  have k3:=aN k3
  have k4:=aN k4
  have k5:=aN k5
  have k6:=aN k6
  have k7:=bV k7
  obtain⟨k8a,k8⟩:=aC k8
  obtain⟨k8c,k8b⟩:=aC k8
  have k8c:=bV k8c
  have k8b:=bV k8b
  have k9:=aN k9
  have k10:=aN k10
  subst k0 k1 k2 k3 k4 k6 k9
  obtain⟨hm,r1,r2,_,arr,fr,r3,r4,r5,r6⟩:=(hG.blk _ _ hq).2 gen (aao _)
  obtain⟨l1,l2⟩:=rl hl
  have d7:∀j,j<lD cap len * es->∃a u,as[j]? =some a/\arr[j-hm.shift]? =some u/\VR ρ a u/\hm.shift<=j:=λj hj=>by have ha:as[j]? =some (as[j]'(by omega)):=aaw (by omega);obtain⟨tag,t1,t2⟩:=l2 j _ ha;rw[aaC] at t1;obtain⟨s1,u,s2,s3⟩:=r6 _ _ _ t1 t2;exact⟨_,u,ha,s2,s3,s1⟩
  have hle:len * es<=lD cap len * es:=aaM _ k8b
  have am3:(as.take (len * es)).length=ct.len * ct.es:=by rw[aax,l1,k10,k11];omega
  have hzp:0<lD cap len * es:=Nat.mul_pos (by omega) k8c
  have E':hm.shift=0:=by obtain⟨a,u,_,_,_,q⟩:=d7 0 hzp;omega
  have f9:Good w0 ρ (σ.h.set b (.grow ct gen ty)) w:=by
   refine hG.turn (hrs:=⟨b,gen,hm,r1,rfl⟩) hq c7 hm.blk (r2 rfl) (Kept.refl _ _ _) (aao _) (λ_ _ _=>rfl) (λb' g' h' f7 e'=>(hG.inj _ _ _ _ _ _ f7 r1 e').1) (.inr ⟨hm,r1,E',r2 rfl,arr,fr,r3,r4, ?_,λx hx h1 h2=>?_,λi hi j a ha=>?_⟩)
   ·rw[k10,k11];obtain⟨a,u,_,hu,_⟩:=d7 (lD cap len * es-1) (by omega);rcases aat (lD cap len * es-1-hm.shift) arr.size with h'|h'
    ·omega
    ·rw[aa7 h'] at hu;cases hu
   ·have:=(r5 rfl).2 x (.inl hx) h1 h2;omega
   ·have ad6:i * ct.es+ct.es<=ct.len * ct.es:=by rw[←aa1];exact aaM _ hi
    rw[k10,k11] at ad6;have ac8:∀q a0,(((as.take (len * es)).drop (i * ct.es)).take ct.es)[q]? =some a0->∃u,arr[i * ct.es+q]? =some u/\VR ρ a0 u:=λq a0 hq=>by
     rw[abd] at hq;split at hq
     ·rename_i hqe;rw[aaH,aaF (by rw[k10] at hqe⊢;omega)] at hq;obtain⟨a1,u,f1,f2,f3,_⟩:=d7 (i * ct.es+q) (by rw[k10] at hqe⊢;omega);rw[hq] at f1;injection f1 with f1;subst f1;rw[E',abB] at f2;exact⟨u,f2,f3⟩
     ·cases hq
    exact mX (A:=λq=>arr[i * ct.es+q]?) ac8 (λvs=>hct am3 i hi ρ vs) j a ha
  refine⟨ct,ty,b6,ze,a9,e1,c7,k8a,k11,k10,f9,λρ2 d8 v hv=>?_⟩
  ·cases hv with
   |slc _ _ _ _ _ _ ad cp s8=>
    obtain⟨hlc,x9⟩:=s8
    cases cap with
    |some kc=>
     obtain⟨ek,h',x1,x2,x3⟩:=x9;rw[d8.at_ _ _ _ r1] at x1;injection x1 with x1;subst x1;subst x3;rw[E'];refine .gsl _ _ _ _ hm cp (by omega) (d8.at_ _ _ _ r1) E' hlc ?_;rw[ek];obtain⟨a,u,_,hu,_⟩:=d7 (lD (some kc) len * es-1) (by omega);rw[←r4];rcases aat (lD (some kc) len * es-1-hm.shift) arr.size with h'|h'
     ·show kc * es<=arr.size;have:lD (some kc) len=kc:=rfl;rw[this] at h' hzp;omega
     ·rw[aa7 h'] at hu;cases hu
    |none=>
     rcases x9 with x9|⟨h',x1,x2,x3,x4⟩
     ·omega
     ·rw[d8.at_ _ _ _ r1] at x1;injection x1 with x1;subst x1;subst x3;rw[E'];exact .gsl _ _ _ _ hm cp (by omega) (d8.at_ _ _ _ r1) E' hlc (by omega)
 |_=>exact(ah z0).elim
def d_{loc:List (Nat×Nat×Nat)}{b g o len es:Nat}{cap:Option Nat}{rows:Nat->List AV->(Ct->Nat->Tr)->Tr}{k:AV->Tr}(hS:SI σ)(hG:Good w0 ρ σ.h w)(ad1:∀(ty0:Nat) (as:List AV) (kk:Ct->Nat->Tr) (a8:St),run (rows ty0 as kk) a8 K=true->∃ct ty,run (kk ct ty) a8 K=true/\(as.length=ct.len * ct.es->∀i,i<ct.len->∀(ρ:Rho) (vs:List Value),LR ρ ((as.drop (i * ct.es)).take ct.es) vs->LR ρ (ct.row i) vs))(h:run (ol loc b g o len cap es rows k) σ K=true):
 ∃a8,run (k (.gsl b g len es)) a8 K=true/\SI a8/\Good w0 ρ a8.h w/\Stays loc σ.h a8.h/\∀ρ2,ρ.le ρ2->∀v,VR ρ2 (.slc b g o len cap es) v->VR ρ2 (.gsl b g len es) v:=by
 obtain⟨ct,ty,b6,h1,a9,e1,c7,k8a,_,_,f9,hv⟩:=Ek hS hG ad1 h
 obtain⟨x0,c9,hx0,e2,d6,_,z⟩:=fo a9 h1
 refine⟨c9,z,d6,by rw[e2,e1];exact f9,λb' X hf hX=>?_,hv⟩
 obtain⟨x,C',t8⟩:=hf
 rw[e2,T.get_set_ne _ (λe=>by subst e;rw[iE C' t8] at k8a;cases k8a),e1];exact hX
def Good.freeze{H:T ABlk}(hG:Good w0 ρ H w){b g ty:Nat}{c:Ct}(hb:H.get b=some (.grow c g ty))(c7:b+1<2 ^ 64)(hlo:base+64<=b):
 ∃ρ':Rho,ρ.le ρ'/\Good w0 ρ' (H.set b (.froz c g)) w/\∀ρ2,ρ'.le ρ2->∀v,VR ρ2 (.gsl b g c.len c.es) v->VR ρ2 (.cv c) v:=by
 have f8:(H.set b (.froz c g)).get b=some (.froz c g):=T.get_set_same _ _ _ c7
 have am4:∀b' g' h,ρ.at_ b' g'=some h->h.blk<w.heap.size/\∃x,(H.set b (.froz c g)).get b'=some x:=λb' g' h hh=>by
  obtain⟨q1,X,q2⟩:=hG.dom _ _ _ hh;refine⟨q1, ?_⟩;by_cases e:b'=b
  ·subst e;exact⟨_,f8⟩
  ·exact⟨X,by rw[T.get_set_ne _ e];exact q2⟩
 have ai6:∀b' g' h X,ρ.at_ b' g'=some h->(H.set b (.froz c g)).get b'=some X->JH g' X:=λb' g' h X hh hX=>by
  by_cases e:b'=b
  ·subst e;rw[f8] at hX;injection hX with hX;subst hX;have:=hG.gens _ _ _ _ hh hb;exact(this:g'<=g)
  ·rw[T.get_set_ne _ e] at hX;exact hG.gens _ _ _ _ hh hX
 have ai7:∀b0 arr ty,ρ.frz b0=some (arr,ty)->∀b' g' h,ρ.at_ b' g'=some h->h.blk=b0->∃x,(H.set b (.froz c g)).get b'=some x/\yu x:=λb0 arr ty hf b' g' h hh e=>by
  by_cases e':b'=b
  ·subst e';exact⟨_,f8,trivial⟩
  ·obtain⟨X,q1,q2⟩:=(hG.frz _ _ _ hf).2 _ _ _ hh e;exact⟨X,by rw[T.get_set_ne _ e'];exact q1,q2⟩
 have L':∀b' k I l,(H.set b (.froz c g)).get b'=some (.obj k I l)->∀g' h,ρ.at_ b' g'=some h->Own ρ w0.heap.size h.blk/\(g'=0∨g'=h.blk+1):=λb' k I l hX g' h hh=>by
  by_cases e:b'=b
  ·subst e;rw[f8] at hX;injection hX with hX;cases hX
  ·rw[T.get_set_ne _ e] at hX;exact hG.objO _ _ _ _ hX _ _ hh
 rcases hG.blk _ _ hb with h0|⟨h,r1,r2,r3,arr,fr,r4,r5,r6,r7,r8⟩
 ·refine⟨ρ,.refl _,⟨⟨hG.below,λb' X hX=>?_,am4,hG.inj,ai6,λb0 arr ty hf=>⟨(hG.frz _ _ _ hf).1,ai7 _ _ _ hf⟩,hG.frzB,L'⟩,hG.ownB⟩,λρ2 _ v hv=>ji (B:=w0.heap.size) (w:=w) (.inl h0) hv⟩;by_cases e:b'=b
  ·subst e;rw[f8] at hX;injection hX with hX;subst hX;exact .inl h0
  ·rw[T.get_set_ne _ e] at hX;exact hG.blk _ _ hX
 ·let ρ':Rho:=⟨ρ.at_,ρ.val,ρ.own,λx=>if x=h.blk then some (arr,ty) else ρ.frz x,ρ.frz0⟩
  have hnf:ρ.frz h.blk=none:=by
   cases hf:ρ.frz h.blk with
   |none=>rfl
   |some x=>exact absurd rfl (hG.frzE (show ρ.frz h.blk=some (x.1,x.2) from hf) r1 hb (λh=>h))
  have hle:ρ.le ρ':=⟨λ_ _ _ h=>h,rfl,rfl,λb0 x hx=>by show(if b0=h.blk then some (arr,ty) else ρ.frz b0)=some x;rw[if_neg (λe=>by subst e;rw[hnf] at hx;cases hx)];exact hx,rfl⟩
  have hbr:BR ρ' w0.heap.size w b (.froz c g):=.inr ⟨h,arr,ty,r1,r2,if_pos rfl,by omega,λi hi j a ha=>by obtain⟨u,u1,u2⟩:=r8 i hi j a ha;exact⟨u,u1,u2.mono hle⟩⟩;refine⟨ρ',hle,⟨⟨hG.below,λb' X hX=>?_,am4,hG.inj,ai6,λb0 j8 G' hf=>?_,λb0 x hf c8=>?_,L'⟩,hG.ownB⟩,λρ2 d8 v hv=>ji (hbr.keep (w':=w) d8 λ_ _ _=>rfl) hv⟩
  ·by_cases e:b'=b
   ·subst e;rw[f8] at hX;injection hX with hX;subst hX;exact hbr
   ·rw[T.get_set_ne _ e] at hX;exact(hG.blk _ _ hX).keep hle λ_ _ _=>rfl
  ·have hf:(if b0=h.blk then some (arr,ty) else ρ.frz b0)=some (j8,G'):=hf;split at hf
   ·rename_i e0;injection hf with hf;injection hf with e1 e2;subst e0;subst e1;subst e2;refine⟨⟨fr,r4⟩,λb' g' h' hh e=>?_⟩;have:=(hG.inj _ _ _ _ _ _ hh r1 e).1;subst this;exact⟨_,f8,trivial⟩
   ·exact⟨(hG.frz _ _ _ hf).1,ai7 _ _ _ hf⟩
  ·have hf:(if b0=h.blk then some (arr,ty) else ρ.frz b0)=some x:=hf;split at hf
   ·rename_i e0;subst e0;rcases r3 with r3|r3
    ·omega
    ·obtain⟨b1,g1,h1,q1,q2,q3⟩:=hG.ownB _ r3;have:=(hG.inj _ _ _ _ _ _ q2 r1 q3).1;omega
   ·exact hG.frzB _ _ hf c8
def Good.none_turn{H:T ABlk}(hG:Good w0 ρ H w){b:Nat}{x0:ABlk}(hb:H.get b=some x0)(c7:b+1<2 ^ 64){ct:Ct}{g ty:Nat}(h0:ct.len=0)(R':∀g',JH g' x0->g'<=g)(hnf:¬yu x0):Good w0 ρ (H.set b (.grow ct g ty)) w:=by
 have f8:(H.set b (.grow ct g ty)).get b=some (.grow ct g ty):=T.get_set_same _ _ _ c7;refine⟨⟨hG.below,λb' X hX=>?_,λb' g' h hh=>?_,hG.inj,λb' g' h X hh hX=>?_,λb0 arr ty hf=>⟨(hG.frz b0 arr ty hf).1,λb' g' h hh e=>?_⟩,hG.frzB,λb' k I l hX g' h hh=>?_⟩,hG.ownB⟩
 ·by_cases e:b'=b
  ·subst e;rw[f8] at hX;injection hX with hX;subst hX;exact .inl h0
  ·rw[T.get_set_ne _ e] at hX;exact hG.blk _ _ hX
 ·obtain⟨q1,X,q2⟩:=hG.dom _ _ _ hh;refine⟨q1, ?_⟩;by_cases e:b'=b
  ·subst e;exact⟨_,f8⟩
  ·exact⟨X,by rw[T.get_set_ne _ e];exact q2⟩
 ·by_cases e:b'=b
  ·subst e;rw[f8] at hX;injection hX with hX;subst hX;exact R' _ (hG.gens _ _ _ _ hh hb)
  ·rw[T.get_set_ne _ e] at hX;exact hG.gens _ _ _ _ hh hX
 ·obtain⟨X,q1,q2⟩:=(hG.frz b0 arr ty hf).2 _ _ _ hh e;exact⟨X,by rw[T.get_set_ne _ (λe=>by subst e;rw[hb] at q1;injection q1 with q1;subst q1;exact hnf q2)];exact q1,q2⟩
 ·by_cases e:b'=b
  ·subst e;rw[f8] at hX;injection hX with hX;cases hX
  ·rw[T.get_set_ne _ e] at hX;exact hG.objO _ _ _ _ hX _ _ hh
def kq:∀(ty0:Nat) (as:List AV) (kk:Ct->Nat->Tr) (a8:St),run (qY ty0 as kk) a8 K=true->
 ∃ct ty,run (kk ct ty) a8 K=true/\(as.length=ct.len * ct.es->∀i,i<ct.len->∀(ρ:Rho) (vs:List Value),LR ρ ((as.drop (i * ct.es)).take ct.es) vs->LR ρ (ct.row i) vs):=by
 intro ty0 as kk a8 h
 replace h:=cb h;obtain⟨ns,hq,h⟩:=h
 replace h:=aQ h;obtain⟨hnn,h⟩:=h
 obtain⟨f1,f2⟩:=mW _ _ hq
 refine⟨_,_,h,λhlen i hi ρ vs o6=>?_⟩
 have hal:as.length=(aH ns).length:=by rw[bS,f1]
 have hi:i<(aH ns).length:=hi
 have hia:i<as.length:=by omega
 have hd:(as.drop (i * 1)).take 1= [as[i]]:=by rw[aaU,abf hia];rfl
 have o6:LR ρ ((as.drop (i * 1)).take 1) vs:=o6
 rw[hd] at o6
 refine o6.one λv hv=>?_
 obtain⟨n',q1,q2⟩:=f2 i as[i] (aaw hia)
 obtain⟨q3,q4⟩:=jh _ _ _ hnn q1
 rw[bp hv q2,aas,q3]
 show VR ρ (.sI .u8 ((n'.toNat:Nat):Int)) _
 rw[show((n'.toNat:Nat):Int)=n' by omega]
 exact .sI _ _
def iF{m len:Nat}:∀(ty0:Nat) (as:List AV) (kk:Ct->Nat->Tr) (a8:St),run (qX m len ty0 as kk) a8 K=true->
 ∃ct ty,run (kk ct ty) a8 K=true/\(as.length=ct.len * ct.es->∀i,i<ct.len->∀(ρ:Rho) (vs:List Value),LR ρ ((as.drop (i * ct.es)).take ct.es) vs->LR ρ (ct.row i) vs):=by
 intro ty0 as kk a8 h
 replace h:=cb h;obtain⟨q,hq,h⟩:=h
 split at h
 ·rename_i gs;obtain⟨c1,f1,f2,f3,f4⟩:=gN _ _ _ _ hq;have f1:as=c1:=by simpa using f1
  subst f1;exact⟨_,_,h,λhlen i hi ρ vs=>f4 i (by rw[←f3];exact hi) ρ vs⟩
 ·exact(ah h).elim
def Ca{e:TypeId}{len:Nat}{rows:Nat->List AV->(Ct->Nat->Tr)->Tr}(hr:qe P e len=some rows):∀(ty0:Nat) (as:List AV) (kk:Ct->Nat->Tr) (a8:St),run (rows ty0 as kk) a8 K=true->
 ∃ct ty,run (kk ct ty) a8 K=true/\(as.length=ct.len * ct.es->∀i,i<ct.len->∀(ρ:Rho) (vs:List Value),LR ρ ((as.drop (i * ct.es)).take ct.es) vs->LR ρ (ct.row i) vs):=by
 unfold qe at hr
 split at hr
 ·injection hr with hr;subst hr;exact kq
 ·injection hr with hr;subst hr;exact iF
 ·injection hr with hr;subst hr;exact iF
 ·injection hr with hr;subst hr;exact iF
 ·cases hr
def El{x:AV}{v:Value}{kk:AV->Tr}(hS:SI σ)(hG:Good w0 ρ σ.h w)(hx:VR ρ x v)(h:run (P0 x kk) σ K=true):∃x' a8,run (kk x') a8 K=true/\SI a8/\a8.h=σ.h/\VR ρ x' v:=by
 unfold P0 at h;split at h
 ·rename_i b g o
  obtain⟨q,b6,hq,e1,a9,z⟩:=bG hS h
  clear h
  cases q with
  |grow c gen ty=>
   obtain⟨k1,z1⟩:=ay z
   obtain⟨k2,z2⟩:=ay z1
   obtain⟨k4,z3⟩:=aQ z2
   clear z z1 z2
   have k1:=aN k1
   subst k1
   refine⟨_,b6,z3,a9,e1, ?_⟩
   cases hx with
   |ptr _ _ _ h0 hh ho=>
    rcases hG.blk _ _ hq with hz|⟨hm,r1,r2,_⟩
    ·omega
    rw[hh] at r1;injection r1 with r1;subst r1;have e:o-h0.shift=o * 1+0:=by omega
    rw[e];exact .gptr b g o 0 1 h0 hh r2
  |_=>exact⟨_,b6,z,a9,e1,hx⟩
 ·exact⟨_,σ,h,hS,rfl,hx⟩
def mZ{x:AV}{v:Value}{kk:AV->Tr}(hS:SI σ)(hG:Good w0 ρ σ.h w)(hx:VR ρ x v)(h:run (q_ x kk) σ K=true):∃x' a8,run (kk x') a8 K=true/\SI a8/\a8.h=σ.h/\VR ρ x' v:=by
 unfold q_ at h;split at h
 ·obtain⟨q,b6,hq,e1,a9,z⟩:=bG hS h
  clear h
  cases q with
  |froz c gen=>obtain⟨k1,z1⟩:=ay z;obtain⟨k2,z2⟩:=ay z1;obtain⟨k4,z3⟩:=aQ z2;clear z z1 z2;have k1:=aN k1;have k2:=aN k2;subst k1;subst k2;subst k4;exact⟨_,b6,z3,a9,e1,ji (hG.blk _ _ hq) hx⟩
  |_=>exact⟨_,b6,z,a9,e1,hx⟩
 ·exact⟨_,σ,h,hS,rfl,hx⟩
def up:∀{l:List AV} {vs:List Value} {kk:List AV->Tr} {σ:St},SI σ->Good w0 ρ σ.h w->LR ρ l vs->run (oo l kk) σ K=true->∃l' a8,run (kk l') a8 K=true/\SI a8/\a8.h=σ.h/\LR ρ l' vs
 | [],vs,kk,σ,hS,hG,hl,h=>⟨[],σ,h,hS,rfl,hl⟩
 |a::l,vs,kk,σ,hS,hG,hl,h=>by obtain⟨v,m7,rfl,hv,l3⟩:=hl.cons_inv;obtain⟨a',b6,h1,a9,e1,B'⟩:=mZ hS hG hv (show run (q_ a λx=>oo l λl=>kk (x::l)) σ K=true from h);obtain⟨l2,c9,h2,d6,e2,hl2⟩:=up a9 (by rw[e1];exact hG) l3 h1;exact⟨_,c9,h2,d6,by rw[e2,e1],LR.cons B' hl2⟩
def Em{x:AV}{v:Value}{kk:AV->Tr}(hS:SI σ)(hG:Good w0 ρ σ.h w)(hx:VR ρ x v)(h:run (frz0 x kk) σ K=true):∃x' a8 ρ',run (kk x') a8 K=true/\SI a8/\Good w0 ρ' a8.h w/\ρ.le ρ'/\VR ρ' x' v:=by
 unfold frz0 at h;split at h
 ·rename_i b g n es
  have c7:=cX hS h
  obtain⟨q,b6,hq,e1,a9,z⟩:=bG hS h
  have b7:Good w0 ρ b6.h w:=by rw[e1];exact hG
  have n6:b6.h.get b=some q:=by rw[e1];exact hq
  clear h
  cases q with
  |grow c gen ty=>
   rcases bU z with⟨k0,z1⟩|⟨_,z1⟩
   ·obtain⟨k1,k3⟩:=aC k0;obtain⟨k1,k2⟩:=aC k1;obtain⟨k4,z2⟩:=aQ z1;obtain⟨x0,c9,hx0,e2,d6,_,z3⟩:=fo a9 z2;have k1:=aN k1;have k2:=aN k2;have k3:=bV k3;subst k1;subst k2;subst k4;obtain⟨ρ',f1,f2,f3⟩:=b7.freeze n6 c7 k3;exact⟨_,c9,ρ',z3,d6,by rw[e2];exact f2,f1,f3 ρ' (.refl _) v (hx.mono f1)⟩
   ·exact⟨_,b6,ρ,z1,a9,b7,.refl _,hx⟩
  |froz c gen=>obtain⟨k1,z1⟩:=ay z;obtain⟨k2,z2⟩:=ay z1;obtain⟨k4,z3⟩:=aQ z2;have k1:=aN k1;have k2:=aN k2;subst k1;subst k2;subst k4;exact⟨_,b6,ρ,z3,a9,b7,.refl _,ji (hG.blk _ _ hq) hx⟩
  |_=>exact⟨_,b6,ρ,z,a9,b7,.refl _,hx⟩
 ·exact⟨_,σ,ρ,h,hS,hG,.refl _,hx⟩
def En{x:AV}{v:Value}{kk:AV->Tr}(hS:SI σ)(hG:Good w0 ρ σ.h w)(hx:VR ρ x v)(h:run (J_ x kk) σ K=true):∃x' a8 ρ',run (kk x') a8 K=true/\SI a8/\Good w0 ρ' a8.h w/\ρ.le ρ'/\VR ρ' x' v:=by
 unfold J_ at h;split at h
 ·rcases bU h with⟨_,z⟩|⟨_,z⟩
  ·obtain⟨a8,z1,a9,b7,_,hv⟩:=d_ hS hG iF z;exact Em a9 b7 (hv ρ (.refl _) v hx) z1
  ·exact⟨_,σ,ρ,z,hS,hG,.refl _,hx⟩
 ·exact Em hS hG hx h
def yQ:∀{l:List AV} {vs:List Value} {kk:List AV->Tr} {σ:St} {ρ:Rho},SI σ->Good w0 ρ σ.h w->LR ρ l vs->run (Ka l kk) σ K=true->∃l' a8 ρ',run (kk l') a8 K=true/\SI a8/\Good w0 ρ' a8.h w/\ρ.le ρ'/\LR ρ' l' vs
 | [],vs,kk,σ,ρ,hS,hG,hl,h=>⟨[],σ,ρ,h,hS,hG,.refl _,hl⟩
 |a::l,vs,kk,σ,ρ,hS,hG,hl,h=>by obtain⟨v,m7,rfl,hv,l3⟩:=hl.cons_inv;obtain⟨a',b6,x7,h1,a9,b7,m8,B'⟩:=En hS hG hv (show run (J_ a λx=>Ka l λl=>kk (x::l)) σ K=true from h);obtain⟨l2,c9,ρ2,h2,d6,f9,d8,hl2⟩:=yQ a9 b7 (l3.mono m8) h1;exact⟨_,c9,ρ2,h2,d6,f9,m8.trans d8,LR.cons (B'.mono d8) hl2⟩
def yR{x:AV}{v:Value}{kk:AV->Tr}(hS:SI σ)(hG:Good w0 ρ σ.h w)(hx:VR ρ x v)(h:run (yF x kk) σ K=true):∃x' a8 ρ',run (kk x') a8 K=true/\SI a8/\Good w0 ρ' a8.h w/\ρ.le ρ'/\VR ρ' x' v:=by
 unfold yF at h;split at h
 ·cases hx with
  |agg l cs h1 h2=>obtain⟨l',a8,ρ',q1,q2,q3,q4,q5⟩:=yQ hS hG (LR.of_arr h1 h2) h;obtain⟨r1,r2⟩:=q5.arr;exact⟨_,a8,ρ',q1,q2,q3,q4,.agg _ cs r1 r2⟩
 ·exact En hS hG hx h
def Kv{a x:AV}{v:Value}{kk:AV->Tr}(hS:SI σ)(hG:Good w0 ρ σ.h w)(hx:VR ρ x v)(h:run (Kc a x kk) σ K=true):∃x' a8 ρ',run (kk x') a8 K=true/\SI a8/\Good w0 ρ' a8.h w/\ρ.le ρ'/\VR ρ' x' v:=by
 unfold Kc at h;split at h
 ·exact yR hS hG hx h
 ·exact⟨_,σ,ρ,h,hS,hG,.refl _,hx⟩
def yS:∀{l:List (Nat×AV)} {vs:List Value} {kk:List (Nat×AV)->Tr} {σ:St} {ρ:Rho},SI σ->Good w0 ρ σ.h w->LR ρ (l.map Prod.snd) vs->run (Kb l kk) σ K=true->∃l' a8 ρ',run (kk l') a8 K=true/\SI a8/\Good w0 ρ' a8.h w/\ρ.le ρ'/\LR ρ' (l'.map Prod.snd) vs/\l'.map Prod.fst=l.map Prod.fst
 | [],vs,kk,σ,ρ,hS,hG,hl,h=>⟨[],σ,ρ,h,hS,hG,.refl _,hl,rfl⟩
 |a::l,vs,kk,σ,ρ,hS,hG,hl,h=>by obtain⟨v,m7,rfl,hv,l3⟩:=LR.cons_inv (a:=a.2) (l:=l.map Prod.snd) hl;obtain⟨a',b6,x7,h1,a9,b7,m8,B'⟩:=yR hS hG hv (show run (yF a.2 λx=>Kb l λl=>kk ((a.1,x)::l)) σ K=true from h);obtain⟨l2,c9,ρ2,h2,d6,f9,d8,hl2,e2⟩:=yS a9 b7 (l3.mono m8) h1;exact⟨_,c9,ρ2,h2,d6,f9,m8.trans d8,LR.cons (B'.mono d8) hl2,by simp [e2]⟩
end
end Go.Sym
namespace Go.Sym
open Go.RowKit (Below)
def dC{h:Home}{o n:Nat}(ho:h.shift<=o):(⟨h.blk,o-h.shift,none⟩:Addr).add n=⟨h.blk,o+n-h.shift,none⟩:=by
 unfold Addr.add;split
 ·rename_i e;subst e;simp
 ·simp;omega
def VR.ptr_add{ρ:Rho}{b g o n:Nat}{h:Home}(hh:ρ.at_ b g=some h)(ho:h.shift<=o):VR ρ (.ptr b g (o+n)) (.pointer (some ((⟨h.blk,o-h.shift,none⟩:Addr).add n))):=by rw[dC ho];exact .ptr b g (o+n) h hh (by omega)
def Cb{ρ:Rho}{b g o len:Nat}{cap:Option Nat}{es:Nat}{a:Addr}{c:Nat}(h:SlOk ρ b g o len cap es a c)(hl:0<len):∃h,ρ.at_ b g=some h/\h.shift<=o/\a=⟨h.blk,o-h.shift,none⟩:=by
 obtain⟨h1,h2⟩:=h
 cases cap with
 |some k=>obtain⟨_,x,hx,r1,r2⟩:=h2;exact⟨x,hx,r1,r2⟩
 |none=>
  rcases h2 with⟨e,_⟩|⟨x,hx,r1,r2,_⟩
  ·omega
  ·exact⟨x,hx,r1,r2⟩
def bQ{b o n:Nat}:(⟨b,o,none⟩:Addr).add n=⟨b,o+n,none⟩:=by
 unfold Addr.add;split
 ·rename_i e;subst e;simp
 ·simp
section
variable{P:Program}{w0:World}{ρ:Rho}{w:World}{σ:St}{K:Fin}{k:AV->Tr}
def Kw{t:TypeId}{l:List AV}{cs:Array Value}{off:Nat}(hS:SI σ)(hG:Good w0 ρ σ.h w)(hl:LR ρ l cs.toList)(h:run (Tu P t l off k) σ K=true):Res P w0 ρ w k K (part t cs off):=by
 obtain⟨d,hu,h⟩:=cG h;obtain⟨i,hi⟩:=info_of_underlying hu;rcases bU h with⟨hd,h⟩|⟨hd,h⟩
 ·obtain⟨j,hj,h⟩:=cB h;rw[hi] at hj;injection hj with hj;subst hj;obtain⟨v,h1,h2⟩:=ko (w:=w) hu hi hl (off:=off) (a:=.agg ((l.drop off).take i.size)) (by rw[if_pos hd]);exact .plain (gJ h) hS hG h2 h1
 ·obtain⟨a,ha,h⟩:=cb h;obtain⟨v,h1,h2⟩:=ko (w:=w) hu hi hl (off:=off) (a:=a) (by rw[if_neg (by rw[hd];simp)];exact ha);exact .plain h hS hG h2 h1
def wt{t:TypeId}{x:AV}{v:Value}{i:Nat}(hS:SI σ)(hG:Good w0 ρ σ.h w)(hx:VR ρ x v)(h:run (qW P t x i k) σ K=true):Res P w0 ρ w k K (Instr.fieldAt t v i):=by
 obtain⟨d,hu,h⟩:=cG h
 cases d with
 |struct fs=>
  cases hx with
  |ptr b g o h0 hh ho=>
   obtain⟨f,hf,h⟩:=cb h;obtain⟨j,hj,h⟩:=cB h;obtain⟨hz,h⟩:=rc h;have hz:¬j.size=0:=λe=>by rw[e] at hz;cases hz
   refine .plain (jF h) hS hG (VR.ptr_add hh ho) ?_;simp only [Instr.fieldAt,aap,run_underlying hu,aau,hf,Instr.sureAddr,aar,fieldPlace,aA hj,if_neg hz]
  |gptr b g m o es hm hh hs=>
   obtain⟨f,hf,h⟩:=cb h;obtain⟨j,hj,h⟩:=cB h;obtain⟨hz,h⟩:=rc h;have hz:¬j.size=0:=λe=>by rw[e] at hz;cases hz
   refine .plain h hS hG (VR.gptr b g m (o+f.offset) es hm hh hs) ?_;simp only [Instr.fieldAt,aap,run_underlying hu,aau,hf,Instr.sureAddr,aar,fieldPlace,aA hj,if_neg hz,bQ,abH]
  |cptr l blk off arr ty hfz hb r=>
   obtain⟨f,hf,h⟩:=cb h;obtain⟨j,hj,h⟩:=cB h;obtain⟨hz,h⟩:=rc h;have hz:¬j.size=0:=λe=>by rw[e] at hz;cases hz
   obtain⟨hle,h⟩:=ay h;have hle:=bV hle;have h:=gJ h;refine .plain h hS hG (VR.cptr (l.drop f.offset) blk (off+f.offset) arr ty hfz (by rw[aaA];omega) λj a v ha hv=>?_) ?_
   ·rw[aaH] at ha;exact r (f.offset+j) a v ha (by rw[←hv];congr 1;omega)
   ·simp only [Instr.fieldAt,aap,run_underlying hu,aau,hf,Instr.sureAddr,aar,fieldPlace,aA hj,if_neg hz,bQ]
  |_=>exact(ah h).elim
 |_=>exact(ah h).elim
def lH{t:TypeId}{x ix:AV}{v u:Value}(hS:SI σ)(hG:Good w0 ρ σ.h w)(hx:VR ρ x v)(hy:VR ρ ix u)(h:run (kf P t x ix k) σ K=true):Res P w0 ρ w k K (Instr.indexAt t v u):=by
 obtain⟨kk,n,e,h⟩:=wn h
 subst e
 cases hy
 obtain⟨i,e,h⟩:=Ki h
 subst e
 obtain⟨d,hu,h⟩:=cG h
 cases d with
 |array len e=>
  cases hx with
  |ptr b g o h0 hh ho=>
   obtain⟨hb,h⟩:=ay h;have hb:=bV hb;obtain⟨j,hj,h⟩:=cB h;refine .plain (jF h) hS hG (VR.ptr_add hh ho) ?_;have c8:(0:Int)<=(i:Int)/\(i:Int)<(len:Int):=by omega
   simp only [Instr.indexAt,aap,asIntOf,aar,aau,run_underlying hu,Instr.sureAddr,if_pos c8,aA hj,aaE]
  |_=>exact(ah h).elim
 |slice e=>
  cases hx with
  |slc b g o len cap es a c s8=>
   obtain⟨hb,h⟩:=ay h;have hb:=bV hb;obtain⟨j,hj,h⟩:=cB h;obtain⟨h0,hh,ho,ea⟩:=Cb s8 (by omega);subst ea;refine .plain (jF h) hS hG (VR.ptr_add hh ho) ?_;have c8:(0:Int)<=(i:Int)/\(i:Int)<(len:Int):=by omega
   simp only [Instr.indexAt,aap,asIntOf,aar,aau,run_underlying hu,if_pos c8,aA hj,aaE]
  |_=>exact(ah h).elim
 |_=>exact(ah h).elim
def HC{t:TypeId}{c:Ct}{ix:AV}{v u:Value}(hS:SI σ)(hG:Good w0 ρ σ.h w)(hx:VR ρ (.cv c) v)(hy:VR ρ ix u)(h:run (D3 P t c ix k) σ K=true):Res P w0 ρ w k K (Instr.indexAt t v u):=by
 obtain⟨d,hu,h⟩:=cG h;split at h
 ·rename_i e kk i hi
  have e2:=bp hy hi
  subst e2
  obtain⟨j,hj,h⟩:=cB h
  obtain⟨he,h⟩:=ay h
  have he:=aN he
  obtain⟨c8,h⟩:=aQ h
  have h:=gJ h
  have c8:(0:Int)<=i/\i<(c.len:Int):=c8
  have J':i.toNat<c.len:=by omega
  cases hx with
  |cv _ blk off cp arr ty hf hc hb r=>
   refine .plain h hS hG (VR.cptr (c.row i.toNat) blk (off+i.toNat * c.es) arr ty hf ?_ λj a v ha hv=>r i.toNat j a v J' ha hv) ?_
   ·rw[c.row_len];have:i.toNat * c.es+c.es<=c.len * c.es:=by rw[←aa1];exact aaM _ J'
    omega
   ·simp only [Instr.indexAt,aap,asIntOf,aar,aau,run_underlying hu,if_pos c8,aA hj,he,bQ]
  |cvnil _ h0=>omega
  |cvempty _ _ h0=>omega
 ·exact(ah h).elim
def HD{t:TypeId}{b g n es:Nat}{ix:AV}{v u:Value}(hS:SI σ)(hG:Good w0 ρ σ.h w)(hx:VR ρ (.gsl b g n es) v)(hy:VR ρ ix u)(h:run (D4 P t b g n es ix k) σ K=true):Res P w0 ρ w k K (Instr.indexAt t v u):=by
 obtain⟨d,hu,h⟩:=cG h;split at h
 ·rename_i e kk i hi
  have e2:=bp hy hi
  subst e2
  obtain⟨j,hj,h⟩:=cB h
  obtain⟨he,h⟩:=ay h
  have he:=aN he
  obtain⟨c8,h⟩:=aQ h
  have J':i.toNat<n:=by omega
  cases hx with
  |gsl _ _ _ _ hm c hn hh hs hc hz=>refine .plain h hS hG (VR.gptr b g i.toNat 0 es hm hh hs) ?_;simp only [Instr.indexAt,aap,asIntOf,aar,aau,run_underlying hu,if_pos c8,aA hj,he,bQ,aaC,aaG]
  |gnil _ _ _=>omega
  |gempty _ _ _ _=>omega
 ·exact(ah h).elim
def Kx{t:TypeId}{b g o:Nat}{ix:AV}{v u:Value}(hS:SI σ)(hG:Good w0 ρ σ.h w)(hx:VR ρ (.ptr b g o) v)(hy:VR ρ ix u)(h:run (JU P t b g o ix k) σ K=true):Res P w0 ρ w k K (Instr.indexAt t v u):=by
 obtain⟨d,hu,z1⟩:=cG h;split at z1
 ·rename_i len e kk i hi
  have e2:=bp hy hi
  subst e2
  obtain⟨j,hj,z2⟩:=cB z1
  obtain⟨ho0,z3⟩:=ay z2
  obtain⟨w8,z4⟩:=ay z3
  obtain⟨c8,z5⟩:=aQ z4
  have ho0:=aaq ho0
  have w8:=aaq w8
  cases hx with
  |ptr _ _ _ hm hh ho=>
   have b9:hm.shift=0->(Instr.indexAt t (.pointer (some ⟨hm.blk,o-hm.shift,none⟩)) (.int kk i)).run P w= .ok (.pointer (some ⟨hm.blk,i.toNat * 1+0,none⟩)) w:=by
    intro E';have e0:o-hm.shift=0:=by omega
    rw[e0];simp only [Instr.indexAt,aap,asIntOf,aar,aau,run_underlying hu,Instr.sureAddr,if_pos c8,aA hj,w8,bQ,aaC,aaG]
   obtain⟨q,b6,hq,e1,a9,z6⟩:=bG hS z5
   have b7:Good w0 ρ b6.h w:=by rw[e1];exact hG
   have conv:run (ac (Nat.beq g 0) (dr (qe P e len) .fail λrows=>ol [] b g 0 len (some len) 1 rows λ_=>k (.gptr b 0 i.toNat 0 1)) .fail) b6 K=true->Res P w0 ρ w k K (Instr.indexAt t (.pointer (some ⟨hm.blk,o-hm.shift,none⟩)) (.int kk i)):=by
    intro z
    obtain⟨hg0,z7⟩:=ay z
    have hg0:=aaq hg0
    obtain⟨rows,hr,z8⟩:=cb z7
    obtain⟨c9,z9,d6,f9,_,hv⟩:=d_ a9 b7 (Ca hr) z8
    have s8:VR ρ (.slc b g 0 len (some len) 1) (.slice (some ⟨hm.blk,0-hm.shift,none⟩) len len):=.slc _ _ _ _ _ _ _ _ ⟨aao _,rfl,hm,hh,by omega,rfl⟩
    have:=hv ρ (.refl _) _ s8
    subst hg0
    generalize hvv:Value.slice (some ⟨hm.blk,0-hm.shift,none⟩) len len=vv at this
    cases this with
    |gsl _ _ _ _ t9 c hn f7 hs' hc hz=>rw[hh] at f7;injection f7 with f7;subst f7;exact .plain z9 d6 f9 (.gptr b 0 i.toNat 0 1 hm hh hs') (b9 hs')
    |gnil _ _ _=>omega
    |gempty _ _ _ _=>omega
   cases q with
   |grow c gen ty=>
    obtain⟨k1,y1⟩:=ay z6;obtain⟨k2,y2⟩:=ay y1;obtain⟨k4,y3⟩:=aQ y2;have k1:=aaq k1;rcases hG.blk _ _ hq with hz|⟨t9,r1,r2,_⟩
    ·omega
    rw[←k1,hh] at r1;injection r1 with r1;subst r1;exact .plain y3 a9 b7 (.gptr b g i.toNat 0 1 hm hh r2) (b9 r2)
   |_=>exact conv z6
 ·exact(ah z1).elim
def Eo:∀{l:List AV} {bs:List Nat},JS l=some bs->∀i,i<bs.length->l[i]? =some (.int .u8 (Int.ofNat (bs.getD i 0)))
 | [],bs,h,i,hi=>by injection h with h;subst h;cases hi
 |a::r,bs,h,i,hi=>by
  unfold JS at h;split at h
  ·rename_i e;cases e
  ·rename_i n r' e;injection e with e1 e2;subst e1;subst e2;split at h
   ·split at h
    ·rename_i l' hl
     injection h with h;subst h
     cases i with
     |zero=>rfl
     |succ i=>exact Eo hl i (by simpa using hi)
    ·cases h
   ·cases h
  ·cases h
def Ky{t:TypeId}{l:List AV}{ix:AV}{v u:Value}(hS:SI σ)(hG:Good w0 ρ σ.h w)(hx:VR ρ (.cptr l) v)(hy:VR ρ ix u)(h:run (JV P t l ix k) σ K=true):Res P w0 ρ w k K (Instr.indexAt t v u):=by
 obtain⟨d,hu,h⟩:=cG h;split at h
 ·rename_i len e kk i hi
  have e2:=bp hy hi
  subst e2
  obtain⟨j,hj,h⟩:=cB h
  obtain⟨he,h⟩:=ay h
  have he:=aN he
  obtain⟨bs,hbs,h⟩:=cb h
  obtain⟨hlen,h⟩:=ay h
  have hlen:=bV hlen
  obtain⟨c8,h⟩:=aQ h
  have c8:(0:Int)<=i/\i<(len:Int):=c8
  have J':i.toNat<bs.length:=by omega
  have hg:=Eo hbs _ J'
  have hll:i.toNat<l.length:=by
   rcases aat i.toNat l.length with h'|h'
   ·exact h'
   ·rw[aaz h'] at hg;cases hg
  cases hx with
  |cptr _ blk off arr ty hf hb r=>
   refine .plain h hS hG (VR.cptr _ blk (off+i.toNat) arr ty hf (by simp;omega) λq a v ha hv=>?_) ?_
   ·cases q with
    |zero=>
     injection ha with ha
     subst ha
     have:=r i.toNat _ v hg (by simpa using hv)
     cases this with
     |int _ _=>exact .sI _ _
    |succ q=>simp at ha
   ·simp only [Instr.indexAt,aap,asIntOf,aar,aau,run_underlying hu,Instr.sureAddr,if_pos c8,aA hj,he,aaU,bQ]
 ·exact(ah h).elim
def wu{t:TypeId}{x ix:AV}{v u:Value}(hS:SI σ)(hG:Good w0 ρ σ.h w)(hx:VR ρ x v)(hy:VR ρ ix u)(h:run (lW P t x ix k) σ K=true):Res P w0 ρ w k K (Instr.indexAt t v u):=by
 unfold lW at h;split at h
 ·exact Ky hS hG hx hy h
 ·exact HC hS hG hx hy h
 ·exact HD hS hG hx hy h
 ·rcases bU h with⟨_,h⟩|⟨_,h⟩
  ·exact Kx hS hG hx hy h
  ·exact lH hS hG hx hy h
 ·exact lH hS hG hx hy h
def pz(s:ByteArray)(i:Nat):(bytesOf s)[i]? =(s[i]?).map UInt8.toNat:=by
 unfold bytesOf;rw[aaW];congr 1;by_cases h:i<s.size
 ·rw[getElem?_pos s i h];have h':i<s.data.toList.length:=by simpa using h
  rw[aaw h'];rfl
 ·rw[getElem?_neg s i h,aaz (by simpa using h)]
def HE{t:TypeId}{x ix:AV}{v u:Value}(hS:SI σ)(hG:Good w0 ρ σ.h w)(hx:VR ρ x v)(hy:VR ρ ix u)(h:run (D5 P t x ix k) σ K=true):Res P w0 ρ w k K (Instr.index t v u):=by
 obtain⟨kk,n,e,h⟩:=wn h
 subst e
 cases hy
 obtain⟨i,e,h⟩:=Ki h
 subst e
 obtain⟨d,hu,h⟩:=cG h
 cases d with
 |array len e=>
  cases hx with
  |agg l cs h1 h2=>
   obtain⟨hb,h⟩:=ay h;have hb:=bV hb;obtain⟨j,hj,h⟩:=cB h;have c8:(0:Int)<=(i:Int)/\(i:Int)<(len:Int):=by omega
   refine(Kw hS hG (LR.of_arr h1 h2) h).of_eq ?_;simp only [Instr.index,aap,asIntOf,aar,aau,run_underlying hu,if_pos c8,aA hj,aaE]
  |_=>exact(ah h).elim
 |string=>
  cases hx with
  |str s=>
   obtain⟨c,hc,h⟩:=cb h
   rw[pz] at hc
   cases hs:s[i]? with
   |none=>rw[hs] at hc;cases hc
   |some cc=>
    rw[hs] at hc;injection hc with hc;subst hc;refine .plain (jF h) hS hG (.int _ _) ?_;have h0:(0:Int)<=(i:Int):=by omega
    simp only [Instr.index,aap,asIntOf,aar,aau,run_underlying hu,if_pos h0,aaE,hs];rfl
  |_=>exact(ah h).elim
 |_=>exact(ah h).elim
def Kz{t:TypeId}{s:ByteArray}{kk:IntKind}{i:Int}(hS:SI σ)(hG:Good w0 ρ σ.h w)(h:run (JW P t (bytesOf s) i k) σ K=true):Res P w0 ρ w k K (Instr.index t (.string s) (.int kk i)):=by
 obtain⟨d,hu,h⟩:=cG h
 cases d with
 |string=>
  obtain⟨⟨h0,h1⟩,h⟩:=aQ h;rw[bW] at h1;have J':i.toNat<s.size:=by omega
  have hb:jW (bytesOf s) i.toNat=(s[i.toNat]).toNat:=by unfold jW;rw[aas,pz,getElem?_pos s i.toNat J'];exact abt (UInt8.toNat_lt _)
  rw[hb] at h;refine .plain h hS hG (.sI _ _) ?_;simp only [Instr.index,aap,asIntOf,aar,aau,run_underlying hu,if_pos h0,getElem?_pos s i.toNat J']
 |_=>exact(ah h).elim
def KA{t:TypeId}{x ix:AV}{v u:Value}(hS:SI σ)(hG:Good w0 ρ σ.h w)(hx:VR ρ x v)(hy:VR ρ ix u)(h:run (JX P t x ix k) σ K=true):Res P w0 ρ w k K (Instr.index t v u):=by
 rcases bU h with⟨_,h⟩|⟨_,h⟩
 ·split at h
  ·rename_i l kk i el ei;obtain⟨s,e1,e2⟩:=dB hx el;have e3:=bp hy ei;subst e1;subst e2;subst e3;exact Kz hS hG h
  ·exact(ah h).elim
 ·exact HE hS hG hx hy h
def Cc{x:AV}{v:Value}{i:Nat}(hS:SI σ)(hG:Good w0 ρ σ.h w)(hx:VR ρ x v)(h:run (yB x i k) σ K=true):Res P w0 ρ w k K (Instr.extract v i):=by
 cases hx with
 |tup l cs h1 h2=>
  obtain⟨a,ha,h⟩:=cb h;obtain⟨u,hu,hr⟩:=(LR.of_arr h1 h2).get ha;have hu:cs[i]? =some u:=by simpa using hu
  exact .plain h hS hG hr (by simp [Instr.extract,hu])
 |_=>exact(ah h).elim
def l_{ov:Option AV}{vv:Option Value}{d top:Nat}{k:Nat->Tr}(ho:OR ρ ov vv)(h:run (ki ov d top k) σ K=true):
 ∃n,run (k n) σ K=true/\((ov=none/\vv=none/\n=d)∨∃kk,ov.isSome=true/\vv=some (.int kk (n:Int))/\n<=top):=by
 cases ov with
 |none=>
  cases vv with
  |none=>exact⟨d,h,.inl ⟨rfl,rfl,rfl⟩⟩
  |some v=>exact ho.elim
 |some a=>
  cases vv with
  |none=>exact ho.elim
  |some v=>
   obtain⟨kk,n,e,h⟩:=wn h
   subst e
   cases ho
   obtain⟨i,e,h⟩:=Ki h
   subst e
   obtain⟨hb,h⟩:=ay h
   exact⟨i,h,.inr ⟨kk,rfl,rfl,bV hb⟩⟩
def aJ{kk:IntKind}{n y:Nat}{code:BoundsCode}(h:n<=y):(Instr.sliceBound (.int kk (n:Int)) y code).run P w= .ok n w:=by simp [Instr.sliceBound,asIntOf,h]
def yT{isS:Bool}{len cap c:Nat}{lo hi mx:Option AV}{lo' hi' x8:Option Value}{k:Nat->Nat->Nat->Tr}(hlc:len<=cap)(hcc:cap<=c)(hmx:mx=none->c=cap)(h1:OR ρ lo lo')(h2:OR ρ hi hi')(h3:OR ρ mx x8)(h:run (jd len cap lo hi mx k) σ K=true):
 ∃l hh m,run (k l hh m) σ K=true/\(Instr.sliceBounds isS len c lo' hi' x8).run P w= .ok (l,hh,m) w/\l<=hh/\hh<=m/\m<=cap:=by
 obtain⟨m,h,hm⟩:=l_ h3 h
 have b9:∃hh l,run (k l hh m) σ K=true/\((hi=none/\hi'=none/\hh=len/\mx=none)∨∃kk,hi'=some (.int kk (hh:Int))/\hh<=m)/\((lo=none/\lo'=none/\l=0)∨∃kk,lo.isSome=true/\lo'=some (.int kk (l:Int))/\l<=hh):=by
  cases hi with
  |none=>
   cases mx with
   |some _=>exact(ah h).elim
   |none=>
    obtain⟨hh,h,hhi⟩:=l_ (d:=len) (top:=m) (k:=λh=>ki lo 0 h λl=>k l h m) h2 h;obtain⟨l,h,hl⟩:=l_ (k:=λl=>k l hh m) h1 h;refine⟨hh,l,h, ?_,hl⟩;rcases hhi with⟨a,b,c⟩|⟨kk,a,b,c⟩
    ·exact .inl ⟨rfl,b,c,rfl⟩
    ·simp at a
  |some x=>
   obtain⟨hh,h,hhi⟩:=l_ (d:=len) (top:=m) (k:=λh=>ki lo 0 h λl=>k l h m) h2 (by cases mx <;> exact h);obtain⟨l,h,hl⟩:=l_ (k:=λl=>k l hh m) h1 h;refine⟨hh,l,h, ?_,hl⟩;rcases hhi with⟨a,b,c⟩|⟨kk,a,b,c⟩
   ·cases a
   ·exact .inr ⟨kk,b,c⟩
 obtain⟨hh,l,hk,hhi,hlo⟩:=b9
 have hmc:m<=cap:=by rcases hm with⟨_,_,e⟩|⟨_,_,_,e⟩ <;> omega
 have hhm:hh<=m:=by
  rcases hhi with⟨_,_,e,emx⟩|⟨_,_,e⟩
  ·rcases hm with⟨_,_,em⟩|⟨_,em,_,_⟩
   ·omega
   ·rw[emx] at em;simp at em
  ·exact e
 have hll:l<=hh:=by rcases hlo with⟨_,_,e⟩|⟨_,_,_,e⟩ <;> omega
 refine⟨l,hh,m,hk, ?_,hll,hhm,hmc⟩
 rcases hm with⟨em1,em2,em3⟩|⟨km,em1,em2,em3⟩
 ·subst em2;rcases hhi with⟨_,eh,eh2,_⟩|⟨kh,eh,eh2⟩
  ·subst eh;subst eh2;rw[←hmx em1] at em3;subst em3;rcases hlo with⟨_,el,el2⟩|⟨kl,_,el,el2⟩
   ·subst el;subst el2;simp [Instr.sliceBounds]
   ·subst el;simp [Instr.sliceBounds,aJ el2]
  ·subst eh;rw[←hmx em1] at em3;subst em3;rcases hlo with⟨_,el,el2⟩|⟨kl,_,el,el2⟩
   ·subst el;subst el2;simp [Instr.sliceBounds,aJ eh2]
   ·subst el;simp [Instr.sliceBounds,aJ el2,aJ eh2]
 ·subst em2;rcases hhi with⟨_,eh,eh2,e⟩|⟨kh,eh,eh2⟩
  ·rw[e] at em1;simp at em1
  ·subst eh;rcases hlo with⟨_,el,el2⟩|⟨kl,_,el,el2⟩
   ·subst el;subst el2;simp [Instr.sliceBounds,aJ eh2,aJ (aaV em3 hcc)]
   ·subst el;simp [Instr.sliceBounds,aJ el2,aJ eh2,aJ (aaV em3 hcc)]
def ql{isS:Bool}{len cap:Nat}{lo hi mx:Option AV}{lo' hi' x8:Option Value}{k:Nat->Nat->Nat->Tr}(hlc:len<=cap)(h1:OR ρ lo lo')(h2:OR ρ hi hi')(h3:OR ρ mx x8)(h:run (jd len cap lo hi mx k) σ K=true):
 ∃l hh m,run (k l hh m) σ K=true/\(Instr.sliceBounds isS len cap lo' hi' x8).run P w= .ok (l,hh,m) w/\l<=hh/\hh<=m/\m<=cap:=
 yT hlc (aao _) (λ_=>rfl) h1 h2 h3 h
end
end Go.Sym
namespace Go.Sym
open Go.RowKit (Below)
section
variable{P:Program}{w0:World}{ρ:Rho}{w:World}{σ:St}{K:Fin}{k:AV->Tr}
def rm{b g o s l h m:Nat}{hm:Home}(hh:ρ.at_ b g=some hm)(ho:hm.shift<=o)(hhm:h<=m)(hr:run (yA b g o s l h m k) σ K=true):
 ∃r,run (k r) σ K=true/\VR ρ r (.slice (some (if m=l then⟨hm.blk,o-hm.shift,none⟩ else(⟨hm.blk,o-hm.shift,none⟩:Addr).add (l * s))) (h-l) (m-l)):=by
 unfold yA at hr
 have hr:=jF hr
 have hr:=jF hr
 rcases bU hr with⟨e,hr⟩|⟨e,hr⟩
 ·have e:=aN e;refine⟨_,hr, ?_⟩;rw[if_pos e];exact .slc _ _ _ _ _ _ _ _ ⟨by omega,rfl,hm,hh,ho,rfl⟩
 ·have e:¬m=l:=λe'=>by subst e';simp at e
  have hr:=jF hr;refine⟨_,hr, ?_⟩;rw[if_neg e,dC ho];exact .slc _ _ _ _ _ _ _ _ ⟨by omega,rfl,hm,hh,by omega,rfl⟩
def KB{b g o s l h len c:Nat}{a:Addr}(hs:SlOk ρ b g o len none s a c)(hl:l<=h)(hh:h<=len)(hr:run (JZ b g o s l h k) σ K=true):
 ∃r,run (k r) σ K=true/\VR ρ r (.slice (some (if c=l then a else a.add (l * s))) (h-l) (c-l)):=by
 obtain⟨hlen,hs⟩:=hs
 unfold JZ at hr
 have hr:=jF hr
 rcases bU hr with⟨e,hr⟩|⟨e,hr⟩
 ·have e:=aN e;subst e;refine⟨_,hr, ?_⟩;have ea:(if c=0 then a else a.add (0 * s))=a:=by
   split
   ·rfl
   ·unfold Addr.add;simp
  rw[ea];refine .slc _ _ _ _ _ _ _ _ ⟨by omega, ?_⟩;rcases hs with⟨h1,h2⟩|⟨hm,h1,h2,h3,h4⟩
  ·exact .inl ⟨by omega,by omega⟩
  ·exact .inr ⟨hm,h1,h2,h3,by simpa using h4⟩
 ·have e:¬l=0:=λe'=>by subst e';simp at e
  have hr:=jF hr;refine⟨_,hr, ?_⟩;refine .slc _ _ _ _ _ _ _ _ ⟨by omega, ?_⟩;by_cases hc:c=l
  ·exact .inl ⟨by omega,by omega⟩
  ·rcases hs with⟨h1,h2⟩|⟨hm,h1,h2,h3,h4⟩
   ·omega
   ·refine .inr ⟨hm,h1,by omega, ?_, ?_⟩
    ·rw[if_neg hc,h3,dC h2]
    ·have:c * s=l * s+(c-l) * s:=by rw[←aaN];congr 1;omega
     omega
def jk{α:Type}{p:Prop}[Decidable p]{a b:α}:(if p then some a else some b)=some (if p then a else b):=by split <;> rfl
def HF{t:TypeId}{s:ByteArray}{lo hi mx:Option AV}{lo' hi' x8:Option Value}(hS:SI σ)(hG:Good w0 ρ σ.h w)(h1:OR ρ lo lo')(h2:OR ρ hi hi')(h3:OR ρ mx x8)(hu:P.underlying t=some .string)(h:run (BU (bytesOf s) lo hi mx k) σ K=true):Res P w0 ρ w k K (Instr.sliceAt t (.string s) lo' hi' x8):=by
 cases mx with
 |some _=>exact(ah h).elim
 |none=>
  cases x8 with
  |some _=>exact h3.elim
  |none=>
   have hn:(bytesOf s).length=s.size:=by unfold bytesOf;rw[aaZ];rfl
   unfold BU at h
   have h:=jF h
   obtain⟨l,hh,m,h,hb,hl,hm,hc⟩:=ql (P:=P) (w:=w) (isS:=false) (aao _) h1 h2 h3 h
   have h:=Kj h
   refine .plain h hS hG (v:=.string (s.extract l hh)) ?_ ?_
   ·have e:((bytesOf s).take hh).drop l=bytesOf (s.extract l hh):=by unfold bytesOf;rw[←List.map_take, ←List.map_drop,ByteArray.data_extract,Array.toList_extract,abN,abC]
    rw[e];exact .str _
   ·rw[hn] at hb;simp only [Instr.sliceAt,Instr.slice,aap,run_underlying hu,aau,abn,Bool.false_eq_true,if_false,aar];simp [hb,aau]
def Cd{t:TypeId}{x:AV}{v:Value}{lo hi mx:Option AV}{lo' hi' x8:Option Value}(hS:SI σ)(hG:Good w0 ρ σ.h w)(hx:VR ρ x v)(h1:OR ρ lo lo')(h2:OR ρ hi hi')(h3:OR ρ mx x8)(h:run (D7 P t x lo hi mx k) σ K=true):Res P w0 ρ w k K (Instr.sliceAt t v lo' hi' x8):=by
 obtain⟨d,hu,h⟩:=cG h
 cases d with
 |array n e=>
  cases hx with
  |ptr b g o hm hh ho=>
   obtain⟨l,hi,m,h,hb,hl,hhm,hc⟩:=ql (P:=P) (w:=w) (isS:=false) (aao _) h1 h2 h3 h
   obtain⟨j,hj,h⟩:=cB h
   obtain⟨r,h,hr⟩:=rm hh ho hhm h
   refine .plain h hS hG hr ?_
   simp only [Instr.sliceAt,aap,run_underlying hu,aau,Instr.sureAddr,aar,hb,aA hj]
  |_=>exact(ah h).elim
 |string=>
  cases hx with
  |str s=>exact HF hS hG h1 h2 h3 hu h
  |_=>exact(ah h).elim
 |slice e=>
  cases hx with
  |nils=>
   obtain⟨j,hj,h⟩:=cB h
   obtain⟨l,hi,m,h,hb,hl,hhm,hc⟩:=ql (P:=P) (w:=w) (isS:=true) (aao _) h1 h2 h3 h
   have:m=0:=by omega
   subst this
   have:hi=0:=by omega
   subst this
   have:l=0:=by omega
   subst this
   refine .plain h hS hG .nils ?_
   simp only [Instr.sliceAt,Instr.slice,aap,run_underlying hu,aau,aar,hb,aA hj,if_true,abk]
  |slc b g o len cap es a c s8=>
   cases cap with
   |some c'=>
    obtain⟨j,hj,h⟩:=cB h
    obtain⟨l9,h⟩:=ay h
    have l9:=aN l9
    obtain⟨hlen,ec,hm,hh,ho,ea⟩:=s8
    subst ec;subst ea
    obtain⟨l,hi,m,h,hb,hl,hhm,hc⟩:=ql (P:=P) (w:=w) (isS:=true) hlen h1 h2 h3 h
    obtain⟨r,h,hr⟩:=rm hh ho hhm h
    refine .plain h hS hG hr ?_
    subst l9
    simp only [Instr.sliceAt,Instr.slice,aap,run_underlying hu,aau,aar,hb,aA hj,abb,jk]
   |none=>
    obtain⟨j,hj,h⟩:=cB h
    obtain⟨l9,h⟩:=ay h
    have l9:=aN l9
    subst l9
    cases mx with
    |none=>
     cases x8 with
     |some _=>exact h3.elim
     |none=>
      unfold D6 at h
      obtain⟨hh,h,hhi⟩:=l_ (d:=len) (top:=len) h2 h
      obtain⟨l,h,hlo⟩:=l_ (d:=0) (top:=hh) h1 h
      have hle:hh<=len:=by rcases hhi with⟨_,_,e⟩|⟨_,_,_,e⟩ <;> omega
      have hll:l<=hh:=by rcases hlo with⟨_,_,e⟩|⟨_,_,_,e⟩ <;> omega
      obtain⟨r,h,hr⟩:=KB s8 hll hle h
      refine .plain h hS hG hr ?_
      have hb:(Instr.sliceBounds true len c lo' hi' none).run P w= .ok (l,hh,c) w:=by
       have x6:=s8.1;rcases hhi with⟨_,eh,eh2⟩|⟨kh,_,eh,eh2⟩
       ·subst eh;subst eh2;rcases hlo with⟨_,el,el2⟩|⟨kl,_,el,el2⟩
        ·subst el;subst el2;simp [Instr.sliceBounds]
        ·subst el;simp [Instr.sliceBounds,aJ el2]
       ·subst eh;rcases hlo with⟨_,el,el2⟩|⟨kl,_,el,el2⟩
        ·subst el;subst el2;simp [Instr.sliceBounds,aJ (aaV eh2 x6)]
        ·subst el;simp [Instr.sliceBounds,aJ el2,aJ (aaV eh2 x6)]
      simp only [Instr.sliceAt,Instr.slice,aap,run_underlying hu,aau,aar,hb,aA hj,abb,jk]
    |some y=>
     obtain⟨hz,h⟩:=rc h
     have hz:len≠0:=by intro e;subst e;simp at hz
     obtain⟨hlc,hs⟩:=s8
     obtain⟨l,hi,m,h,hb,hl,hhm,hc⟩:=yT (P:=P) (w:=w) (isS:=true) (aao _) hlc (λe=>by cases e) h1 h2 h3 h
     rcases hs with⟨h1',h2'⟩|⟨hm,hh,ho,ea,T'⟩
     ·omega
     ·subst ea;obtain⟨r,h,hr⟩:=rm hh ho hhm h;refine .plain h hS hG hr ?_;simp only [Instr.sliceAt,Instr.slice,aap,run_underlying hu,aau,aar,hb,aA hj,abb,jk]
  |_=>exact(ah h).elim
 |_=>exact(ah h).elim
def dR{ov:Option AV}{vv:Option Value}{d:Int}{k:Int->Tr}(ho:OR ρ ov vv)(h:run (cN ov d k) σ K=true):
 ∃n,run (k n) σ K=true/\((vv=none/\n=d)∨∃kk,vv=some (.int kk n)):=by
 cases ov with
 |none=>
  cases vv with
  |none=>exact⟨d,h,.inl ⟨rfl,rfl⟩⟩
  |some v=>exact ho.elim
 |some a=>
  cases vv with
  |none=>exact ho.elim
  |some v=>
   unfold cN at h
   simp only at h
   split at h
   ·rename_i kk n hi;exact⟨n,h,.inr ⟨kk,by rw[bp ho hi]⟩⟩
   ·exact(ah h).elim
def bT{isS:Bool}{len c:Nat}{lo' hi':Option Value}{l h:Int}(hlc:len<=c)(hl:(lo'=none/\l=0)∨∃kk,lo'=some (.int kk l))(hh:(hi'=none/\h=(len:Int))∨∃kk,hi'=some (.int kk h))(hr:0<=l/\l<=h/\h<=(len:Int)):(Instr.sliceBounds isS len c lo' hi' none).run P w= .ok (l.toNat,h.toNat,c) w:=by
 obtain⟨a,ea⟩:∃a:Nat,l=(a:Int):=⟨l.toNat,by omega⟩
 obtain⟨b,eb⟩:∃b:Nat,h=(b:Int):=⟨h.toNat,by omega⟩
 subst ea;subst eb
 simp only [aaE]
 have hab:a<=b:=by omega
 have hbl:b<=len:=by omega
 rcases hh with⟨eh,eh2⟩|⟨kh,eh⟩
 ·subst eh;have:b=len:=by omega
  subst this;rcases hl with⟨el,el2⟩|⟨kl,el⟩
  ·subst el;have:a=0:=by omega
   subst this;simp [Instr.sliceBounds]
  ·subst el;simp [Instr.sliceBounds,aJ hab]
 ·subst eh;rcases hl with⟨el,el2⟩|⟨kl,el⟩
  ·subst el;have:a=0:=by omega
   subst this;simp [Instr.sliceBounds,aJ (aaV hbl hlc)]
  ·subst el;simp [Instr.sliceBounds,aJ hab,aJ (aaV hbl hlc)]
def yU{t:TypeId}{x:AV}{v:Value}{lo hi mx:Option AV}{lo' hi' x8:Option Value}(hS:SI σ)(hG:Good w0 ρ σ.h w)(hx:VR ρ x v)(h1:OR ρ lo lo')(h2:OR ρ hi hi')(h3:OR ρ mx x8)(h:run (uf P t x lo hi mx k) σ K=true):Res P w0 ρ w k K (Instr.sliceAt t v lo' hi' x8):=by
 obtain⟨d,hu,h⟩:=cG h
 split at h
 ·rename_i e c _
  cases x8 with
  |some _=>exact h3.elim
  |none=>
  obtain⟨j,hj,h⟩:=cB h
  obtain⟨he,h⟩:=ay h
  have he:=aN he
  obtain⟨b,h8,hb⟩:=dR h2 h
  obtain⟨a,h7,ha⟩:=dR h1 h8
  obtain⟨hr,h9⟩:=aQ h7
  clear h h8 h7
  cases hx with
  |cv _ blk off cp arr ty hf hc hbd r=>
   have hbs:=bT (P:=P) (w:=w) (isS:=true) hc ha hb hr;obtain⟨a,rfl⟩:∃q:Nat,a=(q:Int):=⟨a.toNat,by omega⟩
   obtain⟨b,rfl⟩:∃q:Nat,b=(q:Int):=⟨b.toNat,by omega⟩
   simp only [aaE] at hbs h9;have hab:a<=b:=by omega
   have hbn:b<=c.len:=by omega
   have hlen:=c.cut_len hab hbn;have l9:=c.cut_es a b;have hmul:a * c.es+(b-a) * c.es=b * c.es:=by rw[←aaN];congr 1;omega
   have am5:b * c.es<=c.len * c.es:=aaM _ hbn;have b9:(Instr.sliceAt t (.slice (some ⟨blk,off,none⟩) c.len cp) lo' hi' none).run P w= .ok (.slice (some (if cp=a then⟨blk,off,none⟩ else⟨blk,off+a * j.size,none⟩)) (b-a) (cp-a)) w:=by simp only [Instr.sliceAt,Instr.slice,aap,run_underlying hu,aau,aar,hbs,aA hj,abb,jk,bQ]
   rw[he] at b9;by_cases hca:cp=a
   ·rw[if_pos hca] at b9;have hba:b-a=0:=by omega
    have hz:off+(c.cut a b).len * (c.cut a b).es<=arr.size:=by rw[hlen,hba,abq];omega
    have:=VR.cv (ρ:=ρ) (c.cut a b) blk off (cp-a) arr ty hf (by omega) hz (λi q av u hi hq hu2=>by omega);rw[hlen] at this;exact .plain h9 hS hG this b9
   ·rw[if_neg hca] at b9;have:=VR.cv (ρ:=ρ) (c.cut a b) blk (off+a * c.es) (cp-a) arr ty hf (by omega) (by rw[hlen,l9];omega) (λi q av u hi hq hu2=>by rw[hlen] at hi;rw[c.cut_row (by omega)] at hq;rw[l9] at hu2;exact r (a+i) q av u (by omega) hq (by rw[←hu2];congr 1;rw[aaN];omega));rw[hlen] at this;exact .plain h9 hS hG this b9
  |cvnil _ h0=>
   rw[h0] at hb hr;have hbs:=bT (P:=P) (w:=w) (isS:=true) (c:=0) (aao 0) ha hb hr;obtain rfl:a=0:=by have:=hr.2.2;omega
   obtain rfl:b=0:=by have:=hr.2.2;omega
   refine .plain h9 hS hG (.cvnil _ (by rw[c.cut_len (by simp) (by simp)];rfl)) ?_;simp only [Int.toNat_zero] at hbs;simp only [Instr.sliceAt,Instr.slice,aap,run_underlying hu,aau,aar,hbs,aA hj,if_true,abk]
  |cvempty _ ad h0=>
   rw[h0] at hb hr;have hbs:=bT (P:=P) (w:=w) (isS:=true) (c:=0) (aao 0) ha hb hr;obtain rfl:a=0:=by have:=hr.2.2;omega
   obtain rfl:b=0:=by have:=hr.2.2;omega
   refine .plain h9 hS hG (.cvempty _ ad (by rw[c.cut_len (by simp) (by simp)];rfl)) ?_;simp only [Int.toNat_zero] at hbs;simp only [Instr.sliceAt,Instr.slice,aap,run_underlying hu,aau,aar,hbs,aA hj,if_true,abk,abb]
 ·rename_i x2 _
  cases x8 with
  |some _=>exact h3.elim
  |none=>
  split at h
  ·rename_i l hl;obtain⟨s,e1,e2⟩:=dB hx hl;subst e1;subst e2;obtain⟨b,h,hb⟩:=dR h2 h;obtain⟨a,h,ha⟩:=dR h1 h;obtain⟨hr,h⟩:=aQ h;rw[bW] at hb hr;have hbs:=bT (P:=P) (w:=w) (isS:=false) (aao s.size) ha hb hr;refine .plain h hS hG (v:=.string (s.extract a.toNat b.toNat)) ?_ ?_
   ·have e:((bytesOf s).take b.toNat).drop a.toNat=bytesOf (s.extract a.toNat b.toNat):=by unfold bytesOf;rw[←List.map_take, ←List.map_drop,ByteArray.data_extract,Array.toList_extract,abN,abC]
    rw[e];exact .sS _
   ·simp only [Instr.sliceAt,Instr.slice,aap,run_underlying hu,aau,abn,Bool.false_eq_true,if_false,aar];simp [hbs,aau]
  ·exact(ah h).elim
 ·exact(ah h).elim
def rp{t:TypeId}{x:AV}{v:Value}{lo hi mx:Option AV}{lo' hi' x8:Option Value}(hS:SI σ)(hG:Good w0 ρ σ.h w)(hx:VR ρ x v)(h1:OR ρ lo lo')(h2:OR ρ hi hi')(h3:OR ρ mx x8)(h:run (we P t x lo hi mx k) σ K=true):Res P w0 ρ w k K (Instr.sliceAt t v lo' hi' x8):=by
 rcases bU h with⟨_,h⟩|⟨_,h⟩
 ·exact yU hS hG hx h1 h2 h3 h
 ·exact Cd hS hG hx h1 h2 h3 h
def OR.mono{ρ ρ':Rho}(hle:ρ.le ρ'){a:Option AV}{v:Option Value}(h:OR ρ a v):OR ρ' a v:=by cases a <;> cases v <;> first|trivial|exact h.elim|exact VR.mono hle h
def uq{t e:TypeId}{n blk:Nat}{c:Ct}{j:TypeInfo}{lo hi:Option AV}{lo' hi':Option Value}(hS:SI σ)(hG:Good w0 ρ σ.h w)(hu:P.underlying t=some (.array n e))(hj:P.info? e=some j)(x6:c.len=n)(he:c.es=j.size)(hn:0<n)(hv:VR ρ (.cv c) (.slice (some ⟨blk,0,none⟩) n n))(h1:OR ρ lo lo')(h2:OR ρ hi hi')(h:run (wg n c lo hi k) σ K=true):Res P w0 ρ w k K (Instr.sliceAt t (.pointer (some ⟨blk,0,none⟩)) lo' hi' none):=by
 obtain⟨b,h8,hb⟩:=dR h2 h
 obtain⟨a,h7,ha⟩:=dR h1 h8
 obtain⟨hr,h9⟩:=aQ h7
 clear h h8 h7
 have hbs:=bT (P:=P) (w:=w) (isS:=false) (aao n) ha hb hr
 obtain⟨a,rfl⟩:∃q:Nat,a=(q:Int):=⟨a.toNat,by omega⟩
 obtain⟨b,rfl⟩:∃q:Nat,b=(q:Int):=⟨b.toNat,by omega⟩
 simp only [aaE] at hbs h9
 have hab:a<=b:=by omega
 have hbn:b<=n:=by omega
 have hlen:=c.cut_len hab (by omega:b<=c.len)
 have l9:=c.cut_es a b
 have hmul:a * c.es+(b-a) * c.es=b * c.es:=by rw[←aaN];congr 1;omega
 have am5:b * c.es<=c.len * c.es:=aaM _ (by omega)
 have b9:(Instr.sliceAt t (.pointer (some ⟨blk,0,none⟩)) lo' hi' none).run P w= .ok (.slice (some (if n=a then⟨blk,0,none⟩ else⟨blk,0+a * j.size,none⟩)) (b-a) (n-a)) w:=by simp only [Instr.sliceAt,Instr.slice,aap,run_underlying hu,aau,Instr.sureAddr,aar,hbs,aA hj,abb,jk,bQ]
 rw[←he] at b9
 generalize hvv:Value.slice (some ⟨blk,0,none⟩) n n=vv at hv
 cases hv with
 |cv _ as9 off cp arr ty hf hc hbd r=>
  injection hvv with e1 e2 e3
  injection e1 with e1
  injection e1 with e4 e5
  subst e4;subst e5;subst e3
  by_cases hca:n=a
  ·rw[if_pos hca] at b9;have hz:0+(c.cut a b).len * (c.cut a b).es<=arr.size:=by rw[hlen,show b-a=0 by omega,abq];omega
   have:=VR.cv (ρ:=ρ) (c.cut a b) blk 0 (n-a) arr ty hf (by omega) hz (λi q av u hi hq hu2=>by omega);rw[hlen] at this;exact .plain h9 hS hG this b9
  ·rw[if_neg hca] at b9;have:=VR.cv (ρ:=ρ) (c.cut a b) blk (0+a * c.es) (n-a) arr ty hf (by omega) (by rw[hlen,l9];omega) (λi q av u hi hq hu2=>by rw[hlen] at hi;rw[c.cut_row (by omega)] at hq;rw[l9] at hu2;exact r (a+i) q av u (by omega) hq (by rw[←hu2];congr 1;rw[aaN];omega));rw[hlen] at this;exact .plain h9 hS hG this b9
 |cvnil _ h0=>omega
 |cvempty _ _ h0=>omega
def KC{t:TypeId}{b g o:Nat}{q:ABlk}{v:Value}{lo hi mx:Option AV}{lo' hi' x8:Option Value}(hS:SI σ)(hG:Good w0 ρ σ.h w)(c7:b+1<2 ^ 64)(hq:σ.h.get b=some q)(hx:VR ρ (.ptr b g o) v)(h1:OR ρ lo lo')(h2:OR ρ hi hi')(h3:OR ρ mx x8)(h:run (J0 P t b g o q lo hi mx k) σ K=true):Res P w0 ρ w k K (Instr.sliceAt t v lo' hi' x8):=by
 obtain⟨d,hu,z1⟩:=cG h
 split at z1
 ·rename_i n e
  cases x8 with
  |some _=>exact h3.elim
  |none=>
  obtain⟨j,hj,z2⟩:=cB z1
  obtain⟨ho0,z3⟩:=ay z2
  have ho0:=aaq ho0
  cases hx with
  |ptr _ _ _ hm hh ho=>
   have e0:o-hm.shift=0:=by omega
   rw[e0];split at z3
   ·rename_i c gen ty;obtain⟨k1,y1⟩:=ay z3;obtain⟨k2,y2⟩:=ay y1;obtain⟨k3,y3⟩:=ay y2;obtain⟨k4,y4⟩:=aQ y3;clear h z1 z2 z3 y1 y2 y3;have k1:=aaq k1;have k2:=aaq k2;have k3:=bV k3;subst k1;rcases hG.blk _ _ hq with hz|⟨t9,r1,r2,r3,arr,fr,r4,r5,r6,_⟩
    ·omega
    rw[hh] at r1;injection r1 with r1;subst r1;have hgv:VR ρ (.gsl b g n c.es) (.slice (some ⟨hm.blk,0,none⟩) n n):=.gsl b g n c.es hm n (by omega) hh r2 (aao _) (by rw[←k4];exact r6);rcases bU y4 with⟨hb,y5⟩|⟨_,y5⟩
    ·obtain⟨hb1,hb2⟩:=aC hb
     have lo0:lo=none:=by cases lo with|none=>rfl|some _=>cases hb1
     have hi0:hi=none:=by cases hi with|none=>rfl|some _=>cases hb2
     subst lo0;subst hi0
     cases lo' with
     |some _=>exact h1.elim
     |none=>
     cases hi' with
     |some _=>exact h2.elim
     |none=>
     rw[←k2] at y5
     refine .plain y5 hS hG hgv ?_
     have hbs:=bT (P:=P) (w:=w) (isS:=false) (lo':=none) (hi':=none) (l:=0) (h:=(n:Int)) (aao n) (.inl ⟨rfl,rfl⟩) (.inl ⟨rfl,rfl⟩) (by omega)
     simp only [aaE,Int.toNat_zero] at hbs
     have hn0:n≠0:=by omega
     simp only [Instr.sliceAt,Instr.slice,aap,run_underlying hu,aau,Instr.sureAddr,aar,hbs,aA hj,abb,jk,bQ,if_neg hn0,abq,aaC,abB]
    ·obtain⟨hlo,y6⟩:=ay y5;have hlo:=bV hlo;obtain⟨x0,c9,hx0,e2,d6,_,y7⟩:=fo hS y6;obtain⟨ρ',f1,f2,f3⟩:=hG.freeze hq c7 hlo;rw[←k4] at hgv;have hcv:=f3 ρ' (.refl _) _ (hgv.mono f1);rw[k4] at hcv;obtain⟨av,a8,ρ2,v2,w2,q1,q2,q3,q4,q5,q6⟩:=uq d6 (by rw[e2];exact f2) hu hj k4 k2 (by omega) hcv (h1.mono f1) (h2.mono f1) y7;exact⟨av,a8,ρ2,v2,w2,q1,q2,q3,f1.trans q4,q5,q6⟩
   ·rename_i c gen;obtain⟨k1,y1⟩:=ay z3;obtain⟨k2,y2⟩:=ay y1;obtain⟨k3,y3⟩:=ay y2;obtain⟨k4,y4⟩:=aQ y3;clear h z1 z2 z3 y1 y2 y3;have k1:=aaq k1;have k2:=aaq k2;have k3:=bV k3;subst k1;have hB:=hG.blk _ _ hq;have hB2:=hB;rcases hB with hz|⟨t9,arr,ty,r1,r2,r3,r4,_⟩
    ·omega
    rw[hh] at r1;injection r1 with r1;subst r1;obtain⟨⟨fr,hw⟩,_⟩:=hG.frz _ _ _ r3;have hcv:VR ρ (.cv c) (.slice (some ⟨hm.blk,0,none⟩) n n):=by
     rw[←k4];rcases hB2 with hz|⟨t9,j8,G',s1,s2,s3,s4,s5⟩
     ·omega
     rw[hh] at s1;injection s1 with s1;subst s1;refine .cv c hm.blk 0 c.len j8 G' s3 (aao _) (by omega) λi j' a u hi ha hu'=>?_;obtain⟨u2,u3,u4⟩:=s5 i hi j' a ha;rw[aaC,u3] at hu';injection hu' with hu';subst hu';exact u4
    exact uq hS hG hu hj k4 k2 (by omega) hcv h1 h2 y4
   ·exact(ah z3).elim
 ·exact(ah z1).elim
def KD{t:TypeId}{b g n es:Nat}{v:Value}{lo hi mx:Option AV}{lo' hi' x8:Option Value}(hS:SI σ)(hG:Good w0 ρ σ.h w)(hx:VR ρ (.gsl b g n es) v)(h1:OR ρ lo lo')(h2:OR ρ hi hi')(h3:OR ρ mx x8)(h:run (Tx P t b g n es lo hi mx k) σ K=true):Res P w0 ρ w k K (Instr.sliceAt t v lo' hi' x8):=by
 obtain⟨d,hu,h⟩:=cG h
 cases mx with
 |some _=>exact(ah h).elim
 |none=>
 cases x8 with
 |some _=>exact h3.elim
 |none=>
 cases d with
 |slice e=>
  obtain⟨j,hj,h⟩:=cB h
  obtain⟨he,h⟩:=ay h
  have he:=aN he
  obtain⟨p7,h8,hb⟩:=dR h2 h
  clear h
  have key:∀(l:Int) (c:Nat) (blk:Nat),n<=c->((lo'=none/\l=0)∨∃kk,lo'=some (.int kk l))->0<=l/\l<=p7/\p7<=(n:Int)->
   (Instr.sliceAt t (.slice (some ⟨blk,0,none⟩) n c) lo' hi' none).run P w= .ok (.slice (some (if c=l.toNat then⟨blk,0,none⟩ else⟨blk,l.toNat * es,none⟩)) (p7.toNat-l.toNat) (c-l.toNat)) w:=λl c blk hc hl hr=>by
   have hbs:=bT (P:=P) (w:=w) (isS:=true) hc hl hb hr
   simp only [Instr.sliceAt,Instr.slice,aap,run_underlying hu,aau,aar,hbs,aA hj,abb,jk,bQ,aaC,he]
  have ag1:∀(a:Option Addr) (l:Int),n=0->((lo'=none/\l=0)∨∃kk,lo'=some (.int kk l))->l=0->p7=0->(Instr.sliceAt t (.slice a 0 0) lo' hi' none).run P w= .ok (.slice a 0 0) w:=λa l h0 hl el eh=>by subst el;subst eh;rw[h0] at hb;have hbs:=bT (P:=P) (w:=w) (isS:=true) (c:=0) (aao 0) hl hb ⟨by omega,by omega,by simp⟩;simp only [Int.toNat_zero] at hbs;cases a <;> simp only [Instr.sliceAt,Instr.slice,aap,run_underlying hu,aau,aar,hbs,aA hj,if_true,abk,abb,Option.map_none]
  obtain⟨l,h10,hl⟩:=dR h1 h8
  clear h8
  rcases du h10 with⟨h0,h11⟩|⟨h0,h11⟩
  ·obtain⟨⟨el,eh⟩,h12⟩:=aQ h11
   cases hx with
   |gsl _ _ _ _ hm c hn hh hs hc hz=>omega
   |gnil _ _ _=>exact .plain h12 hS hG (.gnil _ _ _) (ag1 none l rfl hl el eh)
   |gempty _ _ _ a=>exact .plain h12 hS hG (.gempty _ _ _ a) (ag1 (some a) l rfl hl el eh)
  ·obtain⟨hr,h12⟩:=aQ h11
   cases hx with
   |gsl _ _ _ _ hm c hn hh hs hc hz=>
    have b9:=key l c hm.blk hc hl hr;have hlen:(p7-l).toNat=p7.toNat-l.toNat:=by omega
    rw[hlen] at h12;refine .plain h12 hS hG (.slc _ _ _ _ _ _ _ _ ⟨by omega, ?_⟩) b9;by_cases hca:c=l.toNat
    ·exact .inl ⟨by omega,by omega⟩
    ·refine .inr ⟨hm,hh,by omega,by rw[if_neg hca,hs,abB], ?_⟩;have:c * es=l.toNat * es+(c-l.toNat) * es:=by rw[←aaN];congr 1;omega
     omega
   |gnil _ _ _=>exact absurd rfl h0
   |gempty _ _ _ a=>exact absurd rfl h0
 |_=>exact(ah h).elim
def HG{t:TypeId}{x:AV}{v:Value}{lo hi mx:Option AV}{lo' hi' x8:Option Value}(hS:SI σ)(hG:Good w0 ρ σ.h w)(hx:VR ρ x v)(h1:OR ρ lo lo')(h2:OR ρ hi hi')(h3:OR ρ mx x8)(h:run (BV P t x lo hi mx k) σ K=true):Res P w0 ρ w k K (Instr.sliceAt t v lo' hi' x8):=by
 unfold BV at h
 split at h
 ·exact KD hS hG hx h1 h2 h3 h
 ·have c7:=cX hS h;obtain⟨q,b6,hq,e1,a9,z⟩:=bG hS h;have b7:Good w0 ρ b6.h w:=by rw[e1];exact hG
  rcases bU z with⟨_,z⟩|⟨_,z⟩
  ·exact KC a9 b7 c7 (by rw[e1];exact hq) hx h1 h2 h3 z
  ·exact rp a9 b7 hx h1 h2 h3 z
 ·exact rp hS hG hx h1 h2 h3 h
end
end Go.Sym
namespace Go.Sym
open Go.RowKit (Below)
def m_(ρ:Rho)(s:ByteArray):LR ρ (eO (bytesOf s)) (s.data.toList.map λb=>Value.int .u8 b.toNat):=by
 refine⟨by simp [eO,bytesOf],λi a v ha hv=>?_⟩
 unfold eO bytesOf at ha
 rw[abo,aaW] at ha
 rw[aaW] at hv
 cases hs:s.data.toList[i]? with
 |none=>rw[hs] at ha;cases ha
 |some b=>rw[hs] at ha hv;injection ha with ha;injection hv with hv;subst ha;subst hv;exact .int .u8 (b.toNat:Int)
def u8LT{ρ:Rho}:∀{l:List AV} {vs:List Value} {r:List Nat},JS l=some r->LR ρ l vs->∃bs:List UInt8,r=bs.map UInt8.toNat/\vs=bs.map λb=>Value.int .u8 (b.toNat:Int):=by
 intro l
 induction l with
 |nil=>intro vs r h hl;injection h with h;subst h;exact⟨[],rfl,hl.nil_inv⟩
 |cons a l ih=>
  intro vs r h hl;obtain⟨v,m7,rfl,hv,l3⟩:=hl.cons_inv;unfold JS at h;split at h
  ·rename_i e;cases e
  ·rename_i n r' e;injection e with e1 e2;subst e1;subst e2;split at h
   ·rename_i hn;split at h
    ·rename_i l' hl2;injection h with h;subst h;obtain⟨bs,e1,e2⟩:=ih hl2 l3;cases hv;have hnn:(UInt8.ofNat n).toNat=n:=by simp;omega
     refine⟨UInt8.ofNat n::bs,by rw[aaP,hnn,e1], ?_⟩;rw[aaP,hnn,e2];rfl
    ·cases h
   ·cases h
  ·cases h
def Ce{ρ:Rho}:∀{l:List AV} {vs:List Value} {ns:List Int},gf l=some ns->inB ns->LR ρ l vs->∃bs:List UInt8,aH ns=bs.map UInt8.toNat/\vs=bs.map λb=>Value.int .u8 (b.toNat:Int):=by
 intro l
 induction l with
 |nil=>intro vs r h _ hl;injection h with h;subst h;exact⟨[],rfl,hl.nil_inv⟩
 |cons a l ih=>
  intro vs r h hb hl;obtain⟨v,m7,rfl,hv,l3⟩:=hl.cons_inv;unfold gf at h;split at h
  ·rename_i n hn;split at h
   ·rename_i r' hr;injection h with h;subst h;obtain⟨⟨h0,h1⟩,hb⟩:=hb;obtain⟨bs,e1,e2⟩:=ih hr hb l3;have hnn:(UInt8.ofNat n.toNat).toNat=n.toNat:=by simp;omega
    refine⟨UInt8.ofNat n.toNat::bs,by rw[aaP,hnn, ←e1];rfl, ?_⟩;rw[aaP,hnn,e2,bp hv hn,abD h0]
   ·cases h
  ·cases h
def yV{ρ:Rho}{l:List AV}{vs:List Value}{k:AV->Tr}{σ:St}{K:Fin}(hl:LR ρ l vs)(h:run (mR l k) σ K=true):∃(bs:List UInt8) (x:AV),vs=(bs.map λb=>Value.int .u8 (b.toNat:Int))/\VR ρ x (.string ⟨bs.toArray⟩)/\run (k x) σ K=true:=by
 unfold mR at h;split at h
 ·rename_i r hr;obtain⟨bs,e2,e3⟩:=u8LT hr hl;subst e2;refine⟨bs,_,e3, ?_,h⟩;have:=VR.str (ρ:=ρ) ⟨bs.toArray⟩;simpa [bytesOf] using this
 ·obtain⟨ns,hr,h⟩:=cb h;obtain⟨hp,h⟩:=aQ h;obtain⟨bs,e2,e3⟩:=Ce hr hp hl;rw[e2] at h;refine⟨bs,_,e3, ?_,h⟩;have:=VR.sS (ρ:=ρ) ⟨bs.toArray⟩;simpa [bytesOf] using this
section
variable{P:Program}{w0:World}{ρ:Rho}{w:World}{σ:St}{K:Fin}{k:AV->Tr}
def HH{src dst e:TypeId}{x:AV}{v:Value}(hS:SI σ)(hG:Good w0 ρ σ.h w)(hs:P.underlying src=some (.slice e))(hd:P.underlying dst=some .string)(he:P.underlying e=some (.int .u8))(hx:VR ρ x v){b g o len es:Nat}{cap:Option Nat}(ex:x= .slc b g o len cap es)(h:run (ac (Nat.beq len 0) (k (.str [])) (ke b g o len λl=>mR l k)) σ K=true):
 Res P w0 ρ w k K (convert src dst v):=by
 subst ex
 cases hx with
 |slc b g o len cap es a c s8=>
  rcases bU h with⟨hb,h⟩|⟨hb,h⟩
  ·have hb:=aN hb;subst hb;refine .plain h hS hG (v:=.string ⟨#[]⟩) ?_ ?_
   ·exact .str ⟨#[]⟩
   ·exact run_convert_bytes_back w src dst e a c [] hs he hd (λj hj=>by cases hj)
  ·have hb:0<len:=by
    rcases aa6 len with e|e
    ·subst e;simp at hb
    ·exact e
   obtain⟨hm,hh,ho,ea⟩:=Cb s8 hb;subst ea;obtain⟨l,cs,a8,e1,l6,h,hL,hlen,d7,_⟩:=lZ (P:=P) hS hG hh ho h;obtain⟨bs,x,e3,hx,h⟩:=yV hL h;have hbl:bs.length=len:=by rw[←hlen,e3,aaZ]
   refine .plain h l6 (by rw[e1];exact hG) (v:=.string ⟨bs.toArray⟩) hx ?_
   ·have:=run_convert_bytes_back (P:=P) w src dst e ⟨hm.blk,o-hm.shift,none⟩ c bs hs he hd (λj hj=>by
     have h1:=d7 j (.int .u8 (bs[j].toNat:Int)) (by rw[e3];simp [hj]);unfold Addr.add;split
     ·rename_i e;subst e;simpa using h1
     ·exact h1)
    rw[hbl] at this;exact this
def HI{src dst:TypeId}{x:AV}{v:Value}(hS:SI σ)(hG:Good w0 ρ σ.h w)(hx:VR ρ x v)(h:run (JT P src dst x k) σ K=true):Res P w0 ρ w k K (convert src dst v):=by
 obtain⟨s,hs,h1⟩:=cG h;obtain⟨d,hd,h2⟩:=cG h1;clear h h1;split at h2 <;> (have h:=h2;clear h2)
 ·cases hx;have h:=jG h;refine .plain h hS hG (.int _ _) ?_;simp [convert,run_underlying hs,run_underlying hd,Conv.intToInt]
 ·cases hx;refine .plain h hS hG (.str _) ?_;simp [convert,run_underlying hs,run_underlying hd]
 ·obtain⟨de,he,h⟩:=cG h;split at h
  ·cases hx;refine .plain h hS hG (v:=.string ⟨#[]⟩) (.str ⟨#[]⟩) ?_;exact(run_convert_bytes_nil w src _ hs he 0 0 dst hd)
  ·exact HH hS hG hs hd he hx rfl h
  ·exact(ah h).elim
 ·exact(ah h).elim
def yW{src dst e:TypeId}{s:List Nat}{a:Addr}{c:Nat}(hs:P.underlying src=some (.slice e))(hd:P.underlying dst=some .string)(he:P.underlying e=some (.int .u8))(hc:∀j n,s[j]? =some n->w.cell? (a.add j)=some (.int .u8 (n:Nat))):∃t:ByteArray,bytesOf t=JL s/\(convert src dst (.slice (some a) s.length c)).run P w= .ok (.string t) w:=by
 have fold:∀(l:List Nat) (r:ByteArray),(l.map (λn:Nat=>(n:Int))).foldl (λr n=>r.push (UInt8.ofNat n.toNat)) r=⟨r.data++(l.map UInt8.ofNat).toArray⟩:=by
  intro l
  induction l with
  |nil=>intro r;simp
  |cons n l ih=>intro r;simp only [aaP,List.foldl_cons];rw[ih];simp [ByteArray.push]
 refine⟨⟨(s.map UInt8.ofNat).toArray⟩, ?_, ?_⟩
 ·simp [bytesOf,JL,abo,Function.comp_def]
 ·rw[run_convert_bytes_string w src dst e (some a) s.length c hs he hd];have hl:=run_loadCells_list (P:=P) w a ((s.map (λn:Nat=>(n:Int))).map (Value.int .u8)) (λj v hj=>by
   rw[abo,aaW] at hj
   cases hn:s[j]? with
   |none=>rw[hn] at hj;cases hj
   |some n=>rw[hn] at hj;injection hj with hj;rw[←hj];exact hc j n hn)
  simp only [aaZ] at hl;rw[run_bytesToString w a s.length c _ hl,fold];have he0:ByteArray.empty.data= #[]:=rfl;rw[he0];simp
def ur{s:List Nat}{j n:Nat}(h:s[j]? =some n):((Ct.bytes s).row j)[0]? =some (.sI .u8 (n:Nat)):=by simp [Ct.row,aas,h]
def Cf{src dst:TypeId}{x:AV}{v:Value}(hS:SI σ)(hG:Good w0 ρ σ.h w)(hx:VR ρ x v)(h:run (yz P src dst x k) σ K=true):Res P w0 ρ w k K (convert src dst v):=by
 obtain⟨s,hs,h1⟩:=cG h;obtain⟨d,hd,h2⟩:=cG h1;clear h h1;split at h2 <;> (have h:=h2;clear h2)
 ·cases hx;have h:=jf h;refine .plain h hS hG (.sI _ _) ?_;simp [convert,run_underlying hs,run_underlying hd,Conv.intToInt]
 ·cases hx;refine .plain h hS hG (.sS _) ?_;simp [convert,run_underlying hs,run_underlying hd]
 ·obtain⟨de,he,h⟩:=cG h;split at h
  ·rename_i e s _ _
   cases hx with
   |cv _ blk off cp arr ty hf hc hb r=>
    obtain⟨⟨fr,hw⟩,_⟩:=hG.frz _ _ _ hf;have hb:off+s.length * 1<=arr.size:=hb;obtain⟨t,ht,b9⟩:=yW (P:=P) (w:=w) (s:=s) (a:=⟨blk,off,none⟩) (c:=cp) hs hd he (λj n hj=>by
     have hjl:j<s.length:=by
      rcases aat j s.length with h'|h'
      ·exact h'
      ·rw[aaz h'] at hj;cases hj
     have hv:arr[off+j * 1+0]? =some arr[off+j]:=by rw[aaU,aaG];exact aa0 (by omega)
     have:=r j 0 _ _ hjl (ur hj) hv
     rw[bQ]
     simp only [World.cell?,hw]
     simp only [abn,Bool.false_eq_true,if_false]
     rw[aa0 (by omega)]
     cases d7:arr[off+j]'(by omega) with
     |int k2 n2=>rw[d7] at this;cases this;rfl
     |_=>rw[d7] at this;cases this)
    refine .plain h hS hG (v:=.string t) (by rw[←ht];exact .sS t) b9
   |cvnil _ h0=>have h0:s.length=0:=h0;have:s= []:=List.length_eq_zero_iff.1 h0;subst this;refine .plain h hS hG (v:=.string ⟨#[]⟩) (.sS ⟨#[]⟩) (run_convert_bytes_nil w src _ hs he 0 0 dst hd)
   |cvempty _ a h0=>have h0:s.length=0:=h0;have:s= []:=List.length_eq_zero_iff.1 h0;subst this;refine .plain h hS hG (v:=.string ⟨#[]⟩) (.sS ⟨#[]⟩) (run_convert_bytes_back w src dst _ a 0 [] hs he hd (λj hj=>by cases hj))
  ·exact(ah h).elim
 ·rename_i e b g n es;obtain⟨de,he,h⟩:=cG h;split at h
  ·obtain⟨q,b6,hq,e1,a9,z0⟩:=bG hS h;clear h;have b7:Good w0 ρ b6.h w:=by rw[e1];exact hG
   split at z0
   ·rename_i s gen ty
    obtain⟨k1,z1⟩:=ay z0
    obtain⟨k2,z2⟩:=ay z1
    obtain⟨k3,z3⟩:=aQ z2
    clear z0 z1 z2
    have k1:=aN k1
    have k2:=aN k2
    subst k1;subst k2
    have hsn:∀{m:Nat},s.length=m->m=0->s= []:=λe1 e2=>List.length_eq_zero_iff.1 (by omega)
    cases hx with
    |gsl _ _ _ _ hm c hn0 hh E' hcc hz=>
     rcases hG.blk _ _ hq with h0|⟨t9,q1,q2,q3,arr,fr,q4,q5,q6,q7,q8⟩
     ·have h0:s.length=0:=h0;omega
     rw[hh] at q1;injection q1 with q1;subst q1;obtain⟨t,ht,b9⟩:=yW (P:=P) (w:=w) (s:=s) (a:=⟨hm.blk,0,none⟩) (c:=c) hs hd he (λj n hj=>by
      have hjl:j<s.length:=by
       rcases aat j s.length with h'|h'
       ·exact h'
       ·rw[aaz h'] at hj;cases hj
      obtain⟨u,u1,u2⟩:=q8 j hjl 0 _ (ur hj);rw[bQ];simp only [World.cell?,q4];simp only [abn,Bool.false_eq_true,if_false,aaC];have u1:arr[j * 1+0]? =some u:=u1;rw[aaU,aaG] at u1;rw[u1];cases u2;rfl)
     rw[k3] at b9;exact .plain z3 a9 b7 (v:=.string t) (by rw[←ht];exact .sS t) b9
    |gnil _ _ _=>obtain rfl:=hsn k3 rfl;exact .plain z3 a9 b7 (v:=.string ⟨#[]⟩) (.sS ⟨#[]⟩) (run_convert_bytes_nil w src _ hs he 0 0 dst hd)
    |gempty _ _ _ a=>obtain rfl:=hsn k3 rfl;exact .plain z3 a9 b7 (v:=.string ⟨#[]⟩) (.sS ⟨#[]⟩) (run_convert_bytes_back w src dst _ a 0 [] hs he hd (λj hj=>by cases hj))
   ·exact(ah z0).elim
  ·exact(ah h).elim
 ·exact(ah h).elim
def KE{src dst:TypeId}{x:AV}{v:Value}(hS:SI σ)(hG:Good w0 ρ σ.h w)(hx:VR ρ x v)(h:run (Tt P src dst x k) σ K=true):Res P w0 ρ w k K (convert src dst v):=by
 rcases bU h with⟨_,h⟩|⟨_,h⟩
 ·exact Cf hS hG hx h
 ·exact HI hS hG hx h
end
end Go.Sym
namespace Go.Sym
open Go.RowKit (Below)
section
variable{P:Program}{w0:World}{ρ:Rho}{w:World}{σ:St}{K:Fin}{k:AV->Tr}
def bv{r:Nat}{o:Obj}(h:w.heap[r]? =some o)(ho:∀c t f,o≠ .cells c t f):(getObj r).run P w= .ok o w:=by cases o <;> first|(exact absurd rfl (ho _ _ _))|(simp [getObj,Sem.run,h])
def P9{x:AV}{v:Value}{f:Nat->Tr}(hx:VR ρ x v)(h:run (J1 x f) σ K=true):∃n,run (f n) σ K=true/\∀w,(Builtin.lenOf v).run P w= .ok n w:=by
 cases hx with
 |nils=>exact⟨0,h,λ_=>rfl⟩
 |slc b g o len cap es a c s8=>exact⟨len,h,λ_=>rfl⟩
 |str s=>
  have hn:(bytesOf s).length=s.size:=by unfold bytesOf;rw[aaZ];rfl
  exact⟨s.size,by have:=jF h;rw[hn] at this;exact this,λ_=>rfl⟩
 |_=>exact(ah h).elim
def ut{x:AV}{v:Value}{size n len:Nat}{f:List AV->Tr}(hS:SI σ)(hG:Good w0 ρ σ.h w)(hx:VR ρ x v)(hlen:(Builtin.lenOf v).run P w= .ok len w)(hn:n<=len)(p8:1<=size)(h:run (om size n x f) σ K=true):
 ∃l cs a8,a8.h=σ.h/\SI a8/\run (f l) a8 K=true/\LR ρ l cs/\cs.length=n * size/\∀w2:World,w2.heap=w.heap->(Builtin.firstCells size n v).run P w2= .ok cs.toArray w2:=by
 cases hx with
 |nils=>
  have:len=0:=by have:Result.ok 0 w=Result.ok len w:=hlen;injection this with e;exact e.symm
  subst this
  have:n=0:=by omega
  subst this
  exact⟨[],[],σ,rfl,hS,h,LR.nil ρ,by simp,λ_ _=>rfl⟩
 |slc b g o ln cap es a c s8=>
  have:ln=len:=by have:Result.ok ln w=Result.ok len w:=hlen;injection this
  subst this
  rcases bU h with⟨hz,h⟩|⟨hz,h⟩
  ·have hz:=aN hz;refine⟨[],[],σ,rfl,hS,h,LR.nil ρ,by simp [hz],λw2 _=>?_⟩;simp [Builtin.firstCells,hz,loadCells,loadCellsFrom]
  ·have h:=jF h;have i3:0<ln:=by
    rcases aa6 n with e|e
    ·subst e;simp at hz
    ·omega
   obtain⟨hm,hh,ho,ea⟩:=Cb s8 i3;subst ea;obtain⟨l,cs,a8,e1,l6,h,hL,hlen,d7,_⟩:=lZ (P:=P) hS hG hh ho h;refine⟨l,cs,a8,e1,l6,h,hL,hlen,λw2 hw2=>run_firstCells_some w2 size n _ ln c cs hlen λj v hj=>?_⟩;rw[dC ho, ←d7 j v hj];simp only [World.cell?,hw2];rw[show o+j-hm.shift=o-hm.shift+j by omega]
 |str s=>
  obtain⟨h1,h⟩:=ay h
  have h1:=aN h1
  subst h1
  have h:=gJ (Kj h)
  have hls:s.size=len:=by have:Result.ok s.size w=Result.ok len w:=hlen;injection this
  have hL:=(m_ ρ s).take n
  have e1:(eO (bytesOf s)).take n=eO ((bytesOf s).take n):=by simp [eO,List.map_take]
  rw[e1] at hL
  refine⟨_,_,σ,rfl,hS,h,hL, ?_,λw2 _=>?_⟩
  ·have:s.data.size=s.size:=rfl;simp;omega
  simp only [Builtin.firstCells,aar]
  congr 1
  apply Array.ext'
  simp [ByteArray.data_extract,abN]
 |_=>exact(ah h).elim
def Ep{e:TypeId}{size need:Nat}{old new:List AV}{ovs nvs:List Value}{rest:Nat->List Value}{a:Value}(hS:SI σ)(hG:Good w0 ρ σ.h w)(ho:LR ρ old ovs)(hn:LR ρ new nvs)(c:Nat)(hc:need<=c)(hr:ovs.length+nvs.length+(rest c).length=c * size)(h:run (lX e size old new need k) σ K=true)(s:Sem Value)(hs:s.run P w= .ok (.slice (some ⟨w.heap.size,0,none⟩) need c) (w.drew.alloc (.cells (ovs++nvs++rest c).toArray e))):Res P w0 ρ w k K s:=by
 have h:=gJ h
 have hL:=ho.append hn
 obtain⟨b,a8,h2,l6,hle,f6⟩:=oD (w:=w.drew) (ovs++nvs++rest c).toArray e hS (hG.drawn _) (by simp [ho.1,hn.1]) (λi a ha=>by
  obtain⟨v,hv,hr⟩:=hL.get ha;refine⟨v, ?_,hr⟩;have hi:i<(ovs++nvs).length:=by
   rcases aat i (ovs++nvs).length with h'|h'
   ·exact h'
   ·rw[aaz h'] at hv;cases hv
  show(ovs++nvs++rest c).toArray[i]? =some v;rw[abj,aaO hi];exact hv) h
 refine⟨_,a8,_,_,_,h2,l6,f6,hle, ?_,hs⟩
 refine .slc _ _ _ _ _ _ _ _ ⟨hc,.inr ⟨_,Rho.put_at _ _ _ _,aaD _,rfl, ?_⟩⟩
 show 0-0+c * size<=(ovs++nvs++rest c).toArray.size
 simp;omega
def HJ{g:Nat}{f:T Cell->Tr}:∀(l:List AV) (i:Nat) (t:T Cell),run (J2 g l i t f) σ K=true->
 ∃c,run (f c) σ K=true/\(∀a∈l,gd a=true)/\∀o x,c.get o=some x->(∃(j:Nat) (a:AV),o=i+j/\l[j]? =some a/\x= .mk g a)∨(t.get o=some x/\(o<i∨i+l.length<=o)):=by
 intro l
 induction l with
 |nil=>intro i t h;exact⟨t,h,by simp,λo x hx=>.inr ⟨hx,by simp;omega⟩⟩
 |cons a l ih=>
  intro i t h
  have h:run (ac (gd a) (T.setK t i (.mk g a) λt=>fN (Nat.succ i) λi=>J2 g l i t f) .fail) σ K=true:=h
  obtain⟨h1,h⟩:=ay h
  rw[T.setK_eq] at h
  obtain⟨c,h2,h3,h4⟩:=ih _ _ (jF h)
  refine⟨c,h2,λb hb=>?_,λo x hx=>?_⟩
  ·rcases List.mem_cons.mp hb with e|hb
   ·subst e;exact h1
   ·exact h3 b hb
  ·rcases h4 o x hx with⟨j,b,e,hb,w9⟩|⟨w9,ho⟩
   ·exact .inl ⟨j+1,b,by omega,by simpa using hb,w9⟩
   ·by_cases e:o=i
    ·subst e;have:=T.get_set_some _ _ w9;exact .inl ⟨0,a,by omega,rfl,this⟩
    ·rw[T.get_set_ne _ e] at w9;exact .inr ⟨w9,by simp at ho⊢;omega⟩
def Good.fork{H:T ABlk}{w':World}(hG:Good w0 ρ H w){b gen lo hi fl fh hi' ty:Nat}{c c':T Cell}{h2:Home}(hb:H.get b=some (.cells c gen lo hi fl fh false ty))(c7:b+1<2 ^ 64)(hbe:Kept ρ.own w0.heap.size w w')(ag5:∀k,k<w.heap.size->(∀g h,ρ.at_ b g=some h->h.blk≠k)->w'.heap[k]? =w.heap[k]?)(p8:w.heap.size<=w'.heap.size)(Q':∀b' g h,b'≠b->ρ.at_ b' g=some h->w'.heap[h.blk]? =w.heap[h.blk]?)(hh2:h2.blk<w'.heap.size)(g9:(∃g',ρ.at_ b g'=some h2)∨w.heap.size<=h2.blk)(hB:ρ.le (ρ.put b (gen+1) h2)->BR (ρ.put b (gen+1) h2) w0.heap.size w' b (.cells c' (gen+1) lo hi' fl fh false ty)):
 ρ.le (ρ.put b (gen+1) h2)/\Good w0 (ρ.put b (gen+1) h2) (H.set b (.cells c' (gen+1) lo hi' fl fh false ty)) w':=by
 have ab_:ρ.at_ b (gen+1)=none:=by
  cases h:ρ.at_ b (gen+1) with
  |none=>rfl
  |some x=>have:gen+1<=gen:=hG.gens b (gen+1) x _ h hb;omega
 have hle:ρ.le (ρ.put b (gen+1) h2):=Rho.le_put ab_
 refine⟨hle,⟨hG.below.trans hbe,λb' y hy=>?_,λb' g h hh=>?_,λb1 g1 x1 b2 g2 x2 C' t8 e=>?_,λb' g h y hh hy=>?_,λb' arr ty hf=>?_,hG.frzB,λb' k I l p7 g h hh=>?_⟩,λx hx=>by obtain⟨b,g,h,q1,q2,q3⟩:=hG.ownB x hx;exact⟨b,g,h,q1,hle.at_ _ _ _ q2,q3⟩⟩
 ·by_cases e:b'=b
  ·subst e;rw[T.get_set_same _ _ _ c7] at hy;injection hy with hy;subst hy;exact hB hle
  ·rw[T.get_set_ne _ e] at hy;exact(hG.blk b' y hy).keep hle λg h hh=>Q' b' g h e hh
 ·simp only [Rho.put] at hh;split at hh
  ·rename_i e;injection hh with hh;subst hh;exact⟨hh2,_,by rw[e.1];exact T.get_set_same _ _ _ c7⟩
  ·obtain⟨q1,y,q2⟩:=hG.dom _ _ _ hh;refine⟨by omega, ?_⟩;by_cases e:b'=b
   ·subst e;exact⟨_,T.get_set_same _ _ _ c7⟩
   ·exact⟨y,by rw[T.get_set_ne _ e];exact q2⟩
 ·simp only [Rho.put] at C' t8;split at C'
  ·rename_i c1;injection C' with C';subst C';split at t8
   ·rename_i c2;injection t8 with t8;exact⟨c1.1.trans c2.1.symm,t8⟩
   ·rcases g9 with⟨g',hg'⟩|g9
    ·rw[c1.1];exact hG.inj _ _ _ _ _ _ hg' t8 e
    ·have:=(hG.dom _ _ _ t8).1;omega
  ·split at t8
   ·rename_i c2;injection t8 with t8;subst t8;rcases g9 with⟨g',hg'⟩|g9
    ·rw[c2.1];exact hG.inj _ _ _ _ _ _ C' hg' e
    ·have:=(hG.dom _ _ _ C').1;omega
   ·exact hG.inj _ _ _ _ _ _ C' t8 e
 ·by_cases e:b'=b
  ·subst e;rw[T.get_set_same _ _ _ c7] at hy;injection hy with hy;subst hy;simp only [Rho.put] at hh;split at hh
   ·rename_i c1;show g<=gen+1;omega
   ·have:g<=gen:=hG.gens b' g h _ hh hb;show g<=gen+1;omega
  ·rw[T.get_set_ne _ e] at hy;simp only [Rho.put] at hh;split at hh
   ·rename_i c1;exact absurd c1.1 e
   ·exact hG.gens b' g h y hh hy
 ·have hf:ρ.frz b'=some (arr,ty):=hf;obtain⟨⟨fr,q1⟩,q2⟩:=hG.frz b' arr ty hf;have c8:b'<w.heap.size:=by
   rcases aat b' w.heap.size with h'|h'
   ·exact h'
   ·rw[aa7 h'] at q1;cases q1
  refine⟨⟨fr,by rw[ag5 b' c8 (λg h hh=>hG.frzE hf hh hb (λh=>h))];exact q1⟩,λb1 g h hh e=>?_⟩;simp only [Rho.put] at hh;split at hh
  ·injection hh with hh;subst hh;rcases g9 with⟨g',hg'⟩|g9
   ·exact absurd e (hG.frzE hf hg' hb (λh=>h))
   ·omega
  ·obtain⟨y,r1,r2⟩:=q2 _ _ _ hh e;exact⟨y,by rw[T.get_set_ne _ (λe=>by subst e;rw[hb] at r1;injection r1 with r1;subst r1;exact(show False from r2))];exact r1,r2⟩
 ·by_cases e:b'=b
  ·subst e;rw[T.get_set_same _ _ _ c7] at p7;injection p7 with p7;exact absurd p7 (λh=>by cases h)
  ·rw[T.get_set_ne _ e] at p7;simp only [Rho.put] at hh;split at hh
   ·rename_i c1;exact absurd c1.1 e
   ·exact hG.objO b' k I l p7 g h hh
def Good.forkX{H:T ABlk}{w':World}(hG:Good w0 ρ H w){b gen:Nat}{x0 x:ABlk}{h2:Home}(hb:H.get b=some x0)(hg0:∀g,JH g x0->g<=gen)(hg1:∀g,g<=gen+1->JH g x)(c7:b+1<2 ^ 64)(hbe:Kept ρ.own w0.heap.size w w')(ag5:∀k,k<w.heap.size->(∀g h,ρ.at_ b g=some h->h.blk≠k)->w'.heap[k]? =w.heap[k]?)(p8:w.heap.size<=w'.heap.size)(Q':∀b' g h,b'≠b->ρ.at_ b' g=some h->w'.heap[h.blk]? =w.heap[h.blk]?)(hh2:h2.blk<w'.heap.size)(g9:(∃g',ρ.at_ b g'=some h2)∨w.heap.size<=h2.blk)(hB:ρ.le (ρ.put b (gen+1) h2)->BR (ρ.put b (gen+1) h2) w0.heap.size w' b x)(hnf:¬yu x0:=by exact λh=>h)(hxo:∀k I l,x≠ .obj k I l:=by intro _ _ _ h;cases h):
 ρ.le (ρ.put b (gen+1) h2)/\Good w0 (ρ.put b (gen+1) h2) (H.set b x) w':=by
 have ab_:ρ.at_ b (gen+1)=none:=by
  cases h:ρ.at_ b (gen+1) with
  |none=>rfl
  |some y=>have:gen+1<=gen:=hg0 _ (hG.gens b (gen+1) y _ h hb);omega
 have hle:ρ.le (ρ.put b (gen+1) h2):=Rho.le_put ab_
 refine⟨hle,⟨hG.below.trans hbe,λb' y hy=>?_,λb' g h hh=>?_,λb1 g1 x1 b2 g2 x2 C' t8 e=>?_,λb' g h y hh hy=>?_,λb' arr ty hf=>?_,hG.frzB,λb' k I l p7 g h hh=>?_⟩,λx hx=>by obtain⟨b,g,h,q1,q2,q3⟩:=hG.ownB x hx;exact⟨b,g,h,q1,hle.at_ _ _ _ q2,q3⟩⟩
 ·by_cases e:b'=b
  ·subst e;rw[T.get_set_same _ _ _ c7] at hy;injection hy with hy;subst hy;exact hB hle
  ·rw[T.get_set_ne _ e] at hy;exact(hG.blk b' y hy).keep hle λg h hh=>Q' b' g h e hh
 ·simp only [Rho.put] at hh;split at hh
  ·rename_i e;injection hh with hh;subst hh;exact⟨hh2,_,by rw[e.1];exact T.get_set_same _ _ _ c7⟩
  ·obtain⟨q1,y,q2⟩:=hG.dom _ _ _ hh;refine⟨by omega, ?_⟩;by_cases e:b'=b
   ·subst e;exact⟨_,T.get_set_same _ _ _ c7⟩
   ·exact⟨y,by rw[T.get_set_ne _ e];exact q2⟩
 ·simp only [Rho.put] at C' t8;split at C'
  ·rename_i c1;injection C' with C';subst C';split at t8
   ·rename_i c2;injection t8 with t8;exact⟨c1.1.trans c2.1.symm,t8⟩
   ·rcases g9 with⟨g',hg'⟩|g9
    ·rw[c1.1];exact hG.inj _ _ _ _ _ _ hg' t8 e
    ·have:=(hG.dom _ _ _ t8).1;omega
  ·split at t8
   ·rename_i c2;injection t8 with t8;subst t8;rcases g9 with⟨g',hg'⟩|g9
    ·rw[c2.1];exact hG.inj _ _ _ _ _ _ C' hg' e
    ·have:=(hG.dom _ _ _ C').1;omega
   ·exact hG.inj _ _ _ _ _ _ C' t8 e
 ·by_cases e:b'=b
  ·subst e;rw[T.get_set_same _ _ _ c7] at hy;injection hy with hy;subst hy;simp only [Rho.put] at hh;split at hh
   ·rename_i c1;exact hg1 g (by omega)
   ·have:g<=gen:=hg0 _ (hG.gens b' g h _ hh hb);exact hg1 g (by omega)
  ·rw[T.get_set_ne _ e] at hy;simp only [Rho.put] at hh;split at hh
   ·rename_i c1;exact absurd c1.1 e
   ·exact hG.gens b' g h y hh hy
 ·have hf:ρ.frz b'=some (arr,ty):=hf;obtain⟨⟨fr,q1⟩,q2⟩:=hG.frz b' arr ty hf;have c8:b'<w.heap.size:=by
   rcases aat b' w.heap.size with h'|h'
   ·exact h'
   ·rw[aa7 h'] at q1;cases q1
  refine⟨⟨fr,by rw[ag5 b' c8 (λg h hh=>hG.frzE hf hh hb hnf)];exact q1⟩,λb1 g h hh e=>?_⟩;simp only [Rho.put] at hh;split at hh
  ·injection hh with hh;subst hh;rcases g9 with⟨g',hg'⟩|g9
   ·exact absurd e (hG.frzE hf hg' hb hnf)
   ·omega
  ·obtain⟨y,r1,r2⟩:=q2 _ _ _ hh e;exact⟨y,by rw[T.get_set_ne _ (λe=>by subst e;rw[hb] at r1;injection r1 with r1;subst r1;exact(hnf:¬yu _) r2)];exact r1,r2⟩
 ·by_cases e:b'=b
  ·subst e;rw[T.get_set_same _ _ _ c7] at p7;injection p7 with p7;exact absurd p7 (hxo _ _ _)
  ·rw[T.get_set_ne _ e] at p7;simp only [Rho.put] at hh;split at hh
   ·rename_i c1;exact absurd c1.1 e
   ·exact hG.objO b' k I l p7 g h hh
def wv{b g gen:Nat}{h h2:Home}(hg:g<=gen)(hh:ρ.at_ b g=some h):(ρ.put b (gen+1) h2).at_ b g=some h:=by simp only [Rho.put];rw[if_neg (λe=>by omega)];exact hh
def HK{b gen lo fl fh len size n ty:Nat}{c0:T Cell}{new:List AV}{nvs:List Value}{H:T ABlk}{h:Home}(hG:Good w0 ρ H w)(c7:b+1<2 ^ 64)(hb:H.get b=some (.cells c0 gen lo (lo+len * size) fl fh false ty))(hh:ρ.at_ b gen=some h)(ho:h.shift<=lo)(hfh:fh<=lo+len * size)(g9:LR ρ new nvs)(hn:new.length=n * size){cap:Nat}(ap7:len+n<=cap)(T':lo-h.shift+cap * size<=h.size)(u0:∀a∈new,gd a=true){c:T Cell}(hc:∀o x,c.get o=some x->(∃(j:Nat) (a:AV),o=(lo+len * size)+j/\new[j]? =some a/\x= .mk (gen+1) a)∨(c0.get o=some x/\(o<lo+len * size∨lo+len * size+new.length<=o))):
 ∃w',(storeCells ((⟨h.blk,lo-h.shift,none⟩:Addr).add (len * size)) nvs).run P w= .ok () w'/\ρ.le (ρ.put b (gen+1) h)/\Good w0 (ρ.put b (gen+1) h) (H.set b (.cells c (gen+1) lo (lo+len * size+n * size) fl fh false ty)) w':=by
 have hB:=hG.blk _ _ hb
 obtain⟨hm,q1,q2,_,arr,fr,q3,q4,q5,q6⟩:=hB.2 gen (aao _)
 rw[hh] at q1;injection q1 with q1;subst q1
 have q2:=q2 rfl
 obtain⟨q5a,q5b⟩:=q5 rfl
 have hnl:nvs.length=n * size:=by rw[g9.1,hn]
 have hmul:(len+n) * size<=cap * size:=abu ap7 (aao _)
 rw[aaN] at hmul
 have ac0:lo+len * size-h.shift+nvs.length<=arr.size:=by rw[hnl,q4];omega
 obtain⟨j8,s1,s2,s3,s4,s5,s6,s7⟩:=eZ h.blk nvs (lo+len * size-h.shift) w arr ty fr q3 ac0
 have j9:=run_storeCells_cells (P:=P) h.blk (lo+len * size-h.shift) nvs 0 w (λj hj=>by
  simp only [World.cell?,q3]
  simp only [abn,Bool.false_eq_true,if_false,aaG]
  rw[aa0 (by omega)];rfl) (λj hj=>by
  simp only [World.frozen?,q3,aaG]
  cases hx:(decide (fr.1<=lo+len * size-h.shift+j) && decide (lo+len * size-h.shift+j<fr.2)) with
  |false=>rfl
  |true=>simp only [Bool.and_eq_true,decide_eq_true_eq] at hx;have:=q5b _ (.inl (show lo+len * size-h.shift+j<h.size by rw[←q4];omega)) hx.1 hx.2;omega) (g9.ones u0)
 rw[aaG] at j9
 refine⟨_,by rw[dC ho];exact j9, ?_⟩
 refine hG.fork hb c7 (Kept.of_set (s7 0 (aaD _)) s5 q2) (λk _ hk=>s5 k (λe=>hk gen h hh e.symm)) (by omega) (λb' g' h' i5 f7=>s5 _ λe'=>i5 (hG.inj _ _ _ _ _ _ f7 hh e').1) (by have:=(hG.dom _ _ _ hh).1;omega) (.inl ⟨gen,hh⟩) λhle=>⟨λo x hx=>?_,λg hg=>?_⟩
 ·rcases hc o x hx with⟨j,a,e1,e2,e3⟩|⟨hx,c8⟩
  ·have:j<new.length:=by
    rcases aat j new.length with h'|h'
    ·exact h'
    ·rw[aaz h'] at e2;cases e2
   subst e3;exact⟨by omega,by omega,aao _⟩
  ·have:=hB.1 o x hx;omega
 ·by_cases eg:g=gen+1
  ·subst eg;refine⟨h,Rho.put_at _ _ _ _,λ_=>q2,(λhc=>by cases hc),j8,fr,s1,by omega,λ_=>⟨q5a,q5b⟩,λo tag a hoa ht=>?_⟩;rcases hc o _ hoa with⟨j,a',e1,e2,e3⟩|⟨hx,c8⟩
   ·injection e3 with e3 e4;subst e4;have hj:j<new.length:=by
     rcases aat j new.length with h'|h'
     ·exact h'
     ·rw[aaz h'] at e2;cases e2
    obtain⟨v,hv,hr⟩:=g9.get e2;refine⟨by omega,v, ?_,hr.mono hle⟩;rw[show o-h.shift=lo+len * size-h.shift+j by omega,s3 j (by omega)];exact hv
   ·have J':=hB.1 o _ hx;obtain⟨r1,v,r2,r3⟩:=q6 o tag a hx (by have:=J'.2.2;exact this);refine⟨r1,v, ?_,r3.mono hle⟩;rw[s4 _ (.inl (by omega))];exact r2
  ·have hg:g<=gen:=by omega
   obtain⟨t9,t1,t2,t2',ak1,fr1,t3,t4,t5,t6⟩:=hB.2 g hg;by_cases eb:t9.blk=h.blk
   ·obtain⟨_,ehm⟩:=hG.inj _ _ _ _ _ _ t1 hh eb;subst ehm;rw[q3] at t3;injection t3 with t3;injection t3 with t3a t3b t3c;subst t3a;subst t3c;refine⟨_,wv hg t1,t2,t2',j8,fr,s1,by omega,t5,λo tag a hoa ht=>?_⟩;rcases hc o _ hoa with⟨j,a',e1,e2,e3⟩|⟨hx,c8⟩
    ·injection e3 with e3 e4;omega
    ·have J':=hB.1 o _ hx;obtain⟨r1,v,r2,r3⟩:=t6 o tag a hx ht;refine⟨r1,v, ?_,r3.mono hle⟩;rw[s4 _ (.inl (by omega))];exact r2
   ·refine⟨t9,wv hg t1,t2,t2',ak1,fr1,by rw[s5 _ eb];exact t3,t4,t5,λo tag a hoa ht=>?_⟩;rcases hc o _ hoa with⟨j,a',e1,e2,e3⟩|⟨hx,c8⟩
    ·injection e3 with e3 e4;omega
    ·obtain⟨r1,v,r2,r3⟩:=t6 o tag a hx ht;exact⟨r1,v,r2,r3.mono hle⟩
def KF{b gen lo fl fh len size n:Nat}{c0:T Cell}{new:List AV}{nvs olds rest:List Value}{H:T ABlk}{h:Home}{e2:TypeId}(hG:Good w0 ρ H w)(c7:b+1<2 ^ 64)(hb:H.get b=some (.cells c0 gen lo (lo+len * size) fl fh false e2))(hh:ρ.at_ b gen=some h)(g9:LR ρ new nvs)(hn:new.length=n * size)(as6:olds.length=len * size)(s8:0<len->h.shift<=lo)(hold:∀j v,olds[j]? =some v->0<len->w.cell? ⟨h.blk,lo-h.shift+j,none⟩=some v){c:T Cell}(hc:∀o x,c.get o=some x->(∃(j:Nat) (a:AV),o=(lo+len * size)+j/\new[j]? =some a/\x= .mk (gen+1) a)∨(c0.get o=some x/\(o<lo+len * size∨lo+len * size+new.length<=o))):
 ρ.le (ρ.put b (gen+1) ⟨w.heap.size,lo,(olds++nvs++rest).length⟩)/\
 Good w0 (ρ.put b (gen+1) ⟨w.heap.size,lo,(olds++nvs++rest).length⟩) (H.set b (.cells c (gen+1) lo (lo+len * size+n * size) fl fh false e2)) (w.drew.alloc (.cells (olds++nvs++rest).toArray e2)):=by
 have hB:=hG.blk _ _ hb
 have ad2:∀k,k<w.heap.size->(w.drew.alloc (.cells (olds++nvs++rest).toArray e2)).heap[k]? =w.heap[k]? :=λk hk=>Below.heap_alloc w.drew _ k hk
 have hnl:nvs.length=n * size:=by rw[g9.1,hn]
 refine hG.fork hb c7 (Kept.of (((Below.refl _ _).drew).alloc hG.below.size _)) (λk hk _=>ad2 k hk) (by simp) (λb' g' h' _ f7=>ad2 _ (hG.dom _ _ _ f7).1) (by simp) (.inr (aao _)) λhle=>⟨λo x hx=>?_,λg hg=>?_⟩
 ·rcases hc o x hx with⟨j,a,e1,e2,e3⟩|⟨hx,c8⟩
  ·have:j<new.length:=by
    rcases aat j new.length with h'|h'
    ·exact h'
    ·rw[aaz h'] at e2;cases e2
   subst e3;exact⟨by omega,by omega,aao _⟩
  ·have:=hB.1 o x hx;omega
 ·by_cases eg:g=gen+1
  ·subst eg;refine⟨_,Rho.put_at _ _ _ _,λ_=>.new hG.below.size,(λhc=>by cases hc),(olds++nvs++rest).toArray,(0,0), ?_,by simp,λ_=>⟨aao _,λx _ _ h3=>absurd h3 (by simp)⟩,λo tag a hoa ht=>?_⟩
   ·show(w.heap.push _)[w.heap.size]? =_;simp
   rcases hc o _ hoa with⟨j,a',e1,e2',e3⟩|⟨hx,c8⟩
   ·injection e3 with e3 e4;subst e4;have hj:j<new.length:=by
     rcases aat j new.length with h'|h'
     ·exact h'
     ·rw[aaz h'] at e2';cases e2'
    obtain⟨v,hv,hr⟩:=g9.get e2';refine⟨by show lo<=o;omega,v, ?_,hr.mono hle⟩;show(olds++nvs++rest).toArray[o-lo]? =some v;rw[abj,aaK,aaJ (by omega),aaO (by omega),show o-lo-olds.length=j by omega];exact hv
   ·have J':=hB.1 o _ hx;obtain⟨hm,q1,q2,_,arr,fr,q3,q4,q5,q6⟩:=hB.2 gen (aao _);rw[hh] at q1;injection q1 with q1;subst q1;obtain⟨r1,v,r2,r3⟩:=q6 o tag a hx (by have:=J'.2.2;exact this);refine⟨J'.1,v, ?_,r3.mono hle⟩;have c8:o-lo<olds.length:=by omega
    show(olds++nvs++rest).toArray[o-lo]? =some v;rw[abj,aaK,aaO c8];have i3:0<len:=by
     rcases aa6 len with e0|e0
     ·subst e0;omega
     ·exact e0
    have:=hold (o-lo) olds[o-lo] (aaw c8) i3;have s8:=s8 i3;rw[show lo-h.shift+(o-lo)=o-h.shift by omega] at this;simp [World.cell?,q3,r2] at this;rw[aaw c8,this]
  ·have hg:g<=gen:=by omega
   obtain⟨t9,t1,t2,t2',ak1,fr1,t3,t4,t5,t6⟩:=hB.2 g hg;refine⟨t9,wv hg t1,t2,t2',ak1,fr1,by rw[ad2 _ (hG.dom _ _ _ t1).1];exact t3,t4,t5,λo tag a hoa ht=>?_⟩;rcases hc o _ hoa with⟨j,a',e1,e2,e3⟩|⟨hx,c8⟩
   ·injection e3 with e3 e4;omega
   ·obtain⟨r1,v,r2,r3⟩:=t6 o tag a hx ht;exact⟨r1,v,r2,r3.mono hle⟩
def lI(f:Nat->List AV)(len size:Nat)(new:List AV):Nat->List AV:=λi=>if i<len then f i else(new.drop ((i-len) * size)).take size
def oE{f:Nat->List AV}{len size i:Nat}{new:List AV}(h:i<len):lI f len size new i=f i:=by unfold lI;rw[if_pos h]
def kS{f:Nat->List AV}{len size i:Nat}{new:List AV}(h:¬i<len):lI f len size new i=(new.drop ((i-len) * size)).take size:=by unfold lI;rw[if_neg h]
def HL{f:Nat->List AV}{len size n i:Nat}{new:List AV}(h:¬i<len)(hi:i<len+n)(hn:new.length=n * size):(lI f len size new i).length=size:=by
 rw[kS h,aax,aaA,hn];have:(i-len) * size+size<=n * size:=by rw[←aa1];exact aaM _ (by omega)
 omega
def HM{f:Nat->List AV}{len size i j:Nat}{new:List AV}{a:AV}(h:¬i<len)(ha:(lI f len size new i)[j]? =some a):j<size/\new[(i-len) * size+j]? =some a:=by
 rw[kS h] at ha;have hj:j<size:=by
  rcases aat j size with h'|h'
  ·exact h'
  ·rw[aaz (by rw[aax];omega)] at ha;cases ha
 rw[aaF hj,aaH] at ha;exact⟨hj,ha⟩
def rq{f:Nat->List AV}{len size n:Nat}{new:List AV}{nvs:List Value}{arr:Array Value}(g9:LR ρ new nvs)(hn:new.length=n * size)(h1:∀i,i<len->(f i).length=size/\∀j a,(f i)[j]? =some a->∃u,arr[i * size+j]? =some u/\VR ρ a u)(h2:∀j v,nvs[j]? =some v->arr[len * size+j]? =some v):
 ∀i,i<len+n->(lI f len size new i).length=size/\∀j a,(lI f len size new i)[j]? =some a->∃u,arr[i * size+j]? =some u/\VR ρ a u:=by
 intro i hi
 by_cases h:i<len
 ·rw[oE h];exact h1 i h
 ·refine⟨HL h hi hn,λj a ha=>?_⟩;obtain⟨hj,ha⟩:=HM h ha;obtain⟨u,hu,hr⟩:=g9.get ha;refine⟨u, ?_,hr⟩;have:=h2 _ _ hu;rw[←abH, ←aaN,show len+(i-len)=i by omega] at this;exact this
def KH(P:Program)(w0:World)(ρ:Rho)(w:World)(H:T ABlk)(b:Nat)(x:ABlk)(a:AV)(s:Sem Value):Prop:=∃ρ' v' w',Good w0 ρ' (H.set b x) w'/\ρ.le ρ'/\VR ρ' a v'/\s.run P w= .ok v' w'
def uv{H:T ABlk}{tys:Array TypeId}{ts tx e ty:TypeId}{dx:TypeDesc}{i:TypeInfo}{z:Value}{b g len n:Nat}{l:List AV}{cs:List Value}{v u:Value}{c0 c1:Ct}(hG:Good w0 ρ H w)(hx:VR ρ (.gsl b g len i.size) v)(h0:tys[0]? =some ts)(h1:tys[1]? =some tx)(ht:P.underlying ts=some (.slice e))(s9:P.underlying tx=some dx)(F':∀j,dx≠ .int j)(hi:P.info? e=some i)(hby:i.bytes<=1000)(hiz:i.zero=some z)(hzs:z.cells.size=i.size)(hlen:∀w:World,(Builtin.lenOf u).run P w= .ok n w)(hn:n<=1000000)(i3:0<n)(hL:LR ρ l cs)(x6:cs.length=n * i.size)(i6:∀w2:World,w2.heap=w.heap->(Builtin.firstCells i.size n u).run P w2= .ok cs.toArray w2)(n6:H.get b=some (.grow c0 g e))(c7:b+1<2 ^ 64)(k2:c0.es=i.size)(k4:l.length=n * i.size)(u0:∀a∈l,gd a=true)(k6:c0.len=len)(k7:len<=1000000000)(a1:c1.len=c0.len+n)(a2:c1.es=c0.es)(ato:∀(ρ2:Rho) (i2:Nat),i2<c0.len+n->∀vs,LR ρ2 (lI c0.row c0.len c0.es l i2) vs->LR ρ2 (c1.row i2) vs):KH P w0 ρ w H b (.grow c1 (g+1) e) (.gsl b (g+1) (len+n) i.size) (Builtin.append_ tys ty #[v,u]):=by
 obtain⟨f,hf⟩:∃f,f=c0.row:=⟨_,rfl⟩
 obtain⟨m,hm9⟩:∃m,m=c0.len:=⟨_,rfl⟩
 have hfl:∀ii,(f ii).length=i.size:=λii=>by rw[hf,c0.row_len,k2]
 rw[←hf, ←hm9,k2] at ato
 rw[←hm9] at a1 k6
 rw[k2] at a2
 subst k6
 have hB:=hG.blk _ _ n6
 have hnb:n * i.bytes<=1000000 * 1000:=abu hn hby
 have fresh:∀(base:Option Addr) (c:Nat) (olds:List Value),v= .slice base m c->c<m+n->Builtin.nextslicecap (m+n) c * i.bytes<=281474976710656->olds.length=m * i.size->
  (∀ii,ii<m->(f ii).length=i.size/\∀j a,(f ii)[j]? =some a->∃uu,olds[ii * i.size+j]? =some uu/\VR ρ a uu)->(Builtin.firstCells i.size m (.slice base m c)).run P w.drew= .ok olds.toArray w.drew->KH P w0 ρ w H b (.grow c1 (g+1) e) (.gsl b (g+1) (m+n) i.size) (Builtin.append_ tys ty #[v,u]):=by
  intro base c olds ev c8 T' hol hoc hof
  subst ev
  have b9:=dZ (P:=P) (w:=w) (ty:=ty) h0 h1 ht s9 F' hi hiz (hlen w) c8 (by omega) T' hof (i6 _ rfl)
  have hge:=grownCap_ge w (m+n) c e
  have ad2:∀k,k<w.heap.size->(w.drew.alloc (.cells (olds++cs++(Builtin.zeroCells z.cells (grownCap w (m+n) c e-(m+n))).toList).toArray e)).heap[k]? =w.heap[k]? :=λk hk=>Below.heap_alloc w.drew _ k hk
  have p8:(olds++cs++(Builtin.zeroCells z.cells (grownCap w (m+n) c e-(m+n))).toList).length=grownCap w (m+n) c e * i.size:=by rw[aav,aav,hol,x6,aaY,size_zeroCells,hzs, ←aaN, ←aaN];congr 1;omega
  obtain⟨hle,K'⟩:=hG.forkX (w':=w.drew.alloc (.cells (olds++cs++(Builtin.zeroCells z.cells (grownCap w (m+n) c e-(m+n))).toList).toArray e)) (x:=.grow c1 (g+1) e) (gen:=g)
   (h2:=⟨w.heap.size,0,grownCap w (m+n) c e * i.size⟩) n6 (λg' h'=>h') (λg' h'=>h') c7 (Kept.of (((Below.refl _ _).drew).alloc hG.below.size _)) (λk hk _=>ad2 k hk) (by simp) (λb' g' h' _ f7=>ad2 _ (hG.dom _ _ _ f7).1) (by simp) (.inr (aao _)) (λhle=>by
    refine .inr ⟨_,Rho.put_at _ _ _ _,rfl,.new hG.below.size,(olds++cs++(Builtin.zeroCells z.cells (grownCap w (m+n) c e-(m+n))).toList).toArray,(0,0), ?_,by rw[List.size_toArray];exact p8, ?_,λx _ _ h3=>absurd h3 (by simp), ?_⟩
    ·show(w.heap.push _)[w.heap.size]? =_;simp
    ·rw[a1,a2];exact aaM _ hge
    ·intro ii hii;rw[a1] at hii;rw[a2];have:=rq (ρ:=ρ) (f:=f) (len:=m) (arr:=(olds++cs++(Builtin.zeroCells z.cells (grownCap w (m+n) c e-(m+n))).toList).toArray) hL k4 (λi2 hi2=>⟨(hoc i2 hi2).1,λj a ha=>by
      obtain⟨uu,u1,u2⟩:=(hoc i2 hi2).2 j a ha;refine⟨uu, ?_,u2⟩;have hjl:i2 * i.size+j<olds.length:=by
       rcases aat (i2 * i.size+j) olds.length with h'|h'
       ·exact h'
       ·rw[aaz h'] at u1;cases u1
      rw[abj,aaK,aaO hjl];exact u1⟩) (λj vv hv=>by
      have hjl:j<cs.length:=by
       rcases aat j cs.length with h'|h'
       ·exact h'
       ·rw[aaz h'] at hv;cases hv
      rw[abj,aaK,aaJ (by omega),aaO (by omega),show m * i.size+j-olds.length=j by omega];exact hv) ii hii
     exact mX (λj a ha=>by obtain⟨uu,u1,u2⟩:=this.2 j a ha;exact⟨uu,u1,u2.mono hle⟩) (ato _ ii hii))
  refine⟨_,_,_,K',hle,.gsl b (g+1) (m+n) i.size _ (grownCap w (m+n) c e) (by omega) (Rho.put_at _ _ _ _) rfl hge (aao _),b9⟩
 cases hx with
 |gnil _ _ _=>
  refine fresh none 0 [] rfl (by omega) (by rw[aaC,nextslicecap_zero i3];omega) (by simp) (λii hii=>by omega) (by simp [Builtin.firstCells])
 |gempty _ _ _ a=>
  refine fresh (some a) 0 [] rfl (by omega) (by rw[aaC,nextslicecap_zero i3];omega) (by simp) (λii hii=>by omega) (by simp [Builtin.firstCells,loadCells,loadCellsFrom])
 |gsl _ _ _ _ hm c hm0 hh E' hc hz=>
  rcases hB with hB|⟨t9,q1,q2,q3,arr,fr,q4,q5,q6,q7,q8⟩
  ·omega
  rw[←hf, ←hm9,k2] at q8
  rw[←hm9,k2] at q6
  rw[hh] at q1;injection q1 with q1;subst q1
  rcases aat c (m+n) with c8|M'
  ·have hmc:m * i.size<=c * i.size:=aaM _ hc;refine fresh (some ⟨hm.blk,0,none⟩) c (arr.toList.take (m * i.size)) rfl c8 ?_ (by rw[aax,aaY];omega) (λii hii=>⟨hfl ii,λj a ha=>?_⟩) ?_
   ·have h1:Builtin.nextslicecap (m+n) c<=2 * (m+n):=nextslicecap_le c8;have h2:=abu h1 hby;omega
   ·obtain⟨uu,u1,u2⟩:=q8 ii hii j a ha;refine⟨uu, ?_,u2⟩;have hj:j<i.size:=by
     have:=hfl ii;rcases aat j (f ii).length with h'|h'
     ·omega
     ·rw[aaz h'] at ha;cases ha
    have:ii * i.size+i.size<=m * i.size:=by rw[←aa1];exact aaM _ hii
    rw[aaF (by omega)];simpa using u1
   ·refine run_firstCells_some _ i.size m _ m c _ (by rw[aax,aaY];omega) λj vv hj=>?_;rw[bQ];rw[abd] at hj;split at hj
    ·show w.cell? _=_;rw[aaC];simp [World.cell?,q4];simpa using hj
    ·cases hj
  ·have hmul:(m+n) * i.size<=c * i.size:=aaM _ M';rw[aaN] at hmul;have ac0:m * i.size+cs.length<=arr.size:=by rw[x6];omega
   obtain⟨j8,s1,s2,s3,s4,s5,s6,s7⟩:=eZ hm.blk cs (m * i.size) w arr e fr q4 ac0;have j9:=run_storeCells_cells (P:=P) hm.blk (m * i.size) cs 0 w (λj hj=>by
    simp only [World.cell?,q4]
    simp only [abn,Bool.false_eq_true,if_false,aaG]
    rw[aa0 (by omega)];rfl) (λj hj=>by
    simp only [World.frozen?,q4,aaG]
    cases hx:(decide (fr.1<=m * i.size+j) && decide (m * i.size+j<fr.2)) with
    |false=>rfl
    |true=>simp only [Bool.and_eq_true,decide_eq_true_eq] at hx;exact(q7 _ (by omega) hx.1 hx.2).elim) (hL.ones u0)
   rw[aaG] at j9;have b9:=eR (P:=P) (w:=w) (ty:=ty) h0 h1 ht s9 F' hi (hlen w) M' (i6 w rfl) (a:=⟨hm.blk,0,none⟩) (by rw[bQ,aaC];exact j9);obtain⟨hle,K'⟩:=hG.forkX (w':=w.setCells hm.blk (m * i.size) cs) (x:=.grow c1 (g+1) e) (gen:=g) (h2:=hm) n6 (λg' h'=>h') (λg' h'=>h') c7
    (Kept.of_set (s7 0 (aaD _)) s5 q3) (λk _ hk=>s5 k (λe=>hk g hm hh e.symm)) (by omega) (λb' g' h' i5 f7=>s5 _ λe'=>i5 (hG.inj _ _ _ _ _ _ f7 hh e').1) (by have:=(hG.dom _ _ _ hh).1;omega) (.inl ⟨g,hh⟩) (λhle=>by
     refine .inr ⟨_,Rho.put_at _ _ _ _,q2,q3,j8,fr,s1,by omega,by rw[a1,a2,aaN];omega,q7, ?_⟩;intro ii hii;rw[a1] at hii;rw[a2];have:=rq (ρ:=ρ) (f:=f) (len:=m) (arr:=j8) hL k4 (λi2 hi2=>⟨hfl i2,λj a ha=>by
      obtain⟨uu,u1,u2⟩:=q8 i2 hi2 j a ha;refine⟨uu, ?_,u2⟩;have hj:j<i.size:=by
       have:=hfl i2;rcases aat j (f i2).length with h'|h'
       ·omega
       ·rw[aaz h'] at ha;cases ha
      have:i2 * i.size+i.size<=m * i.size:=by rw[←aa1];exact aaM _ hi2
      rw[s4 _ (.inl (by omega))];exact u1⟩) (λj vv hv=>by
      have hjl:j<cs.length:=by
       rcases aat j cs.length with h'|h'
       ·exact h'
       ·rw[aaz h'] at hv;cases hv
      rw[s3 j hjl];exact hv) ii hii
     exact mX (λj a ha=>by obtain⟨uu,u1,u2⟩:=this.2 j a ha;exact⟨uu,u1,u2.mono hle⟩) (ato _ ii hii))
   exact⟨_,_,_,K',hle,.gsl b (g+1) (m+n) i.size hm c (by omega) (Rho.put_at _ _ _ _) E' M' hz,b9⟩
def yX{tys:Array TypeId}{ts tx e ty:TypeId}{dx:TypeDesc}{i:TypeInfo}{z:Value}{b g len n:Nat}{l:List AV}{cs:List Value}{v u:Value}(hS:SI σ)(hG:Good w0 ρ σ.h w)(hx:VR ρ (.gsl b g len i.size) v)(h0:tys[0]? =some ts)(h1:tys[1]? =some tx)(ht:P.underlying ts=some (.slice e))(s9:P.underlying tx=some dx)(F':∀j,dx≠ .int j)(hi:P.info? e=some i)(hby:i.bytes<=1000)(hiz:i.zero=some z)(hzs:z.cells.size=i.size)(hlen:∀w:World,(Builtin.lenOf u).run P w= .ok n w)(hn:n<=1000000)(i3:0<n)(hL:LR ρ l cs)(x6:cs.length=n * i.size)(i6:∀w2:World,w2.heap=w.heap->(Builtin.firstCells i.size n u).run P w2= .ok cs.toArray w2)(h:run (J3 e b g len i.size n l k) σ K=true):Res P w0 ρ w k K (Builtin.append_ tys ty #[v,u]):=by
 have c7:=cX hS h
 obtain⟨q,b6,hq,e1,a9,h⟩:=bG hS h
 have b7:Good w0 ρ b6.h w:=by rw[e1];exact hG
 cases q with
 |grow c0 gen t2=>
  obtain⟨k1,z1⟩:=ay h
  obtain⟨k2,z2⟩:=ay z1
  obtain⟨k3,z3⟩:=ay z2
  obtain⟨k4,z4⟩:=ay z3
  obtain⟨k5,z5⟩:=ay z4
  cases hap:c0.app l n with
  |none=>rw[hap] at z5;exact(ah z5).elim
  |some r0=>
  obtain⟨c1,pr⟩:=r0
  rw[hap] at z5
  obtain⟨⟨k6,k7,kp⟩,z6⟩:=aQ z5
  obtain⟨x0,c9,hx0,e2,d6,_,z7⟩:=fo a9 z6
  clear h z1 z2 z3 z4 z5 z6
  have k1:=aN k1
  have k2:=aN k2
  have k3:=aN k3
  have k4:=aN k4
  have u0:∀a∈l,gd a=true:=λa ha=>List.all_eq_true.1 k5 a ha
  obtain⟨a1,a2,a3,a4⟩:=Vm hap kp (by rw[k4,k2])
  have ato:∀(ρ2:Rho) (i2:Nat),i2<c0.len+n->∀vs,LR ρ2 (lI c0.row c0.len c0.es l i2) vs->LR ρ2 (c1.row i2) vs:=λρ2 i2 hi2 vs o6=>by
   by_cases h':i2<c0.len
   ·rw[oE h'] at o6;rw[a3 i2 h'];exact o6
   ·rw[kS h'] at o6;exact a4 i2 (by omega) hi2 ρ2 vs o6
  subst k1;subst k3
  have n6:b6.h.get b=some (.grow c0 g t2):=by rw[e1];exact hq
  obtain⟨ρ',v',w',g1,g2,g3,g4⟩:=uv (P:=P) (ty:=ty) b7 hx h0 h1 ht s9 F' hi hby hiz hzs hlen hn i3 hL x6 i6 n6 c7 k2 (by rw[k4]) u0 k6 k7 a1 a2 ato
  exact⟨_,c9,ρ',v',w',z7,d6,by rw[e2];exact g1,g2,g3,g4⟩
 |_=>exact(ah h).elim
def KI{b:Nat}{f g:ABlk->Tr}(hfg:∀q a8,run (f q) a8 K=true->run (g q) a8 K=true)(h:run (.rd b f) σ K=true):run (.rd b g) σ K=true:=by
 cases σ with
 |mk H n fs tc w=>
  rw[gY] at h⊢;split at h;case isFalse=>cases h
  rename_i hb;rw[if_pos hb];split at h
  ·cases h
  ·exact hfg _ _ h
def cC(t:List Nat):List AV:=t.map λn:Nat=>AV.sI .u8 (Int.ofNat n)
def pA(t:List Nat):List Int:=t.map λn:Nat=>Int.ofNat n
def Cg(t:List Nat):gf (cC t)=some (pA t)/\aH (pA t)=t/\br (pA t):=by
 induction t with
 |nil=>exact⟨rfl,rfl,trivial⟩
 |cons a t ih=>
  obtain⟨h1,h2,h3⟩:=ih;refine⟨?_, ?_, ?_⟩
  ·show gf (AV.sI .u8 (Int.ofNat a)::cC t)=some (Int.ofNat a::pA t);simp only [gf,co,h1]
  ·show(Int.ofNat a).toNat::aH (pA t)=a::t;rw[h2];rfl
  ·exact⟨Int.natCast_nonneg _,h3⟩
def yY{t:List Nat}{y:AV}{u:Value}(hG:Good w0 ρ σ.h w)(hy:VR ρ y u)(h:BW y=some t):
 (∀w:World,(Builtin.lenOf u).run P w= .ok t.length w)/\∃cs:List Value,LR ρ (cC t) cs/\cs.length=t.length/\∀m,m<=t.length->∀w2:World,w2.heap=w.heap->(Builtin.firstCells 1 m u).run P w2= .ok (cs.take m).toArray w2:=by
 cases hy with
 |sS s=>
  injection h with h
  subst h
  have hn:(bytesOf s).length=s.size:=by unfold bytesOf;rw[aaZ];rfl
  have hL:=m_ ρ s
  refine⟨λw=>by rw[hn];rfl,s.data.toList.map λb=>Value.int .u8 b.toNat,⟨by simp [cC,bytesOf],λi a v ha hv=>?_⟩, ?_,λm hm w2 _=>?_⟩
  ·unfold cC bytesOf at ha
   rw[abo,aaW] at ha
   rw[aaW] at hv
   cases hs:s.data.toList[i]? with
   |none=>rw[hs] at ha;cases ha
   |some b=>rw[hs] at ha hv;injection ha with ha;injection hv with hv;subst ha;subst hv;exact .sI _ _
  ·rw[hn,aaZ];rfl
  ·simp only [Builtin.firstCells,aar];congr 1;apply Array.ext';simp [ByteArray.data_extract,abN,List.map_take]
 |cv c blk off cp arr ty hf hc hb r=>
  cases c with
  |rows m l=>cases h
  |bytes t'=>
  injection h with h
  subst h
  have hb:off+t'.length<=arr.size:=by simpa [Ct.len,Ct.es] using hb
  refine⟨λw=>rfl,((arr.toList.drop off).take t'.length),⟨by simp [cC];omega,λi a v ha hv=>?_⟩,by simp;omega,λm hm w2 hw2=>?_⟩
  ·have hi:i<t'.length:=by
    rcases aat i t'.length with h'|h'
    ·exact h'
    ·rw[aaz (by simpa [cC] using h')] at ha;cases ha
   unfold cC at ha;rw[aaW,aaw hi] at ha;injection ha with ha;rw[aaF hi,aaH] at hv;refine r i 0 a v hi ?_ ?_
   ·show [AV.sI .u8 ((t'.getD i 0:Nat):Int)][0]? =some a;rw[aas,aaw hi, ←ha];rfl
   ·show arr[off+i * 1+0]? =some v;rw[aaU,aaG, ←hv];simp
  ·obtain⟨⟨fr,hw⟩,_⟩:=hG.frz _ _ _ hf;have hm:m<=t'.length:=hm;refine run_firstCells_some w2 1 _ _ _ _ _ (by simp;omega) λj v hj=>?_;have hjm:j<m:=by
    rcases aat j m with h'|h'
    ·exact h'
    ·rw[aaz (by simp;omega)] at hj;cases hj
   have hj':j<t'.length:=by omega
   rw[aaF hjm,aaF hj',aaH] at hj;have e1:(⟨blk,off,none⟩:Addr).add j=⟨blk,off+j,none⟩:=by have:=dC (h:=⟨blk,0,0⟩) (o:=off) (n:=j) (aaD _);simpa using this
   rw[e1];simp only [World.cell?,hw2,hw];rw[←hj];simp
 |cvnil c h0=>
  cases c with
  |rows m l=>cases h
  |bytes t'=>
  injection h with h
  subst h
  have h0:t'= []:=List.length_eq_zero_iff.1 h0
  subst h0
  exact⟨λ_=>rfl,[],LR.nil ρ,rfl,λm hm _ _=>by simp [Builtin.firstCells]⟩
 |cvempty c a h0=>
  cases c with
  |rows m l=>cases h
  |bytes t'=>
  injection h with h
  subst h
  have h0:t'= []:=List.length_eq_zero_iff.1 h0
  subst h0
  exact⟨λ_=>rfl,[],LR.nil ρ,rfl,λm hm _ _=>by
   have:m=0:=by simpa using hm
   subst this;simp [Builtin.firstCells,loadCells,loadCellsFrom]⟩
 |_=>cases h
def P_{t:List Nat}{y:AV}{u:Value}(hG:Good w0 ρ σ.h w)(hy:VR ρ y u)(h:BW y=some t):
 (∀w:World,(Builtin.lenOf u).run P w= .ok t.length w)/\∃cs:List Value,LR ρ (cC t) cs/\cs.length=t.length/\∀w2:World,w2.heap=w.heap->(Builtin.firstCells 1 t.length u).run P w2= .ok cs.toArray w2:=by
 obtain⟨h1,cs,h2,h3,h4⟩:=yY (P:=P) hG hy h
 refine⟨h1,cs,h2,h3,λw2 hw=>?_⟩
 rw[h4 _ (aao _) w2 hw, ←h3,abg]
def Vp(P:Program)(ρ:Rho)(w:World)(u:Value)(t:List Nat):Prop:=(∀w:World,(Builtin.lenOf u).run P w= .ok t.length w)/\∃cs:List Value,LR ρ (cC t) cs/\cs.length=t.length/\∀w2:World,w2.heap=w.heap->(Builtin.firstCells 1 t.length u).run P w2= .ok cs.toArray w2
def Qa{t:List Nat}{b g n ty:Nat}{u:Value}(hG:Good w0 ρ σ.h w)(hq:σ.h.get b=some (.grow (.bytes t) g ty))(hn:t.length=n)(hy:VR ρ (.gsl b g n 1) u):Vp P ρ w u t:=by
 cases hy with
 |gnil _ _ _=>have h0:t= []:=List.length_eq_zero_iff.1 hn;subst h0;exact⟨λ_=>rfl,[],LR.nil ρ,rfl,λ_ _=>by simp [Builtin.firstCells]⟩
 |gempty _ _ _ a=>have h0:t= []:=List.length_eq_zero_iff.1 hn;subst h0;exact⟨λ_=>rfl,[],LR.nil ρ,rfl,λ_ _=>by simp [Builtin.firstCells,loadCells,loadCellsFrom]⟩
 |gsl _ _ _ _ hm c hn1 hh E' hcc hz=>
  subst hn;rcases hG.blk _ _ hq with hB|⟨t9,q1,q2,q3,arr,fr,q4,q5,q6,q7,q8⟩
  ·have hB:t.length=0:=hB;omega
  ·rw[hh] at q1;injection q1 with q1;subst q1;have q6:t.length * 1<=hm.size:=q6;have hb:t.length<=arr.size:=by omega
   refine⟨λw=>rfl,(arr.toList.take t.length),⟨by simp [cC];omega,λi a v ha hv=>?_⟩,by simp;omega,λw2 hw2=>?_⟩
   ·have hi:i<t.length:=by
     rcases aat i t.length with h'|h'
     ·exact h'
     ·rw[aaz (by simpa [cC] using h')] at ha;cases ha
    unfold cC at ha;rw[aaW,aaw hi] at ha;injection ha with ha;rw[aaF hi] at hv;obtain⟨uu,u1,u2⟩:=q8 i hi 0 a (by show [AV.sI .u8 ((t.getD i 0:Nat):Int)][0]? =some a;rw[aas,aaw hi, ←ha];rfl);have u1:arr[i * 1+0]? =some uu:=u1;rw[aaU,aaG] at u1;rw[aa9,u1] at hv;injection hv with hv;rw[←hv];exact u2
   ·refine run_firstCells_some w2 1 _ _ _ _ _ (by simp;omega) λj v hj=>?_;have hjm:j<t.length:=by
     rcases aat j t.length with h'|h'
     ·exact h'
     ·rw[aaz (by simp;omega)] at hj;cases hj
    rw[aaF hjm] at hj;have e1:(⟨hm.blk,0,none⟩:Addr).add j=⟨hm.blk,0+j,none⟩:=by have:=dC (h:=⟨hm.blk,0,0⟩) (o:=0) (n:=j) (aaD _);simpa using this
    rw[e1];simp only [World.cell?,hw2,q4];rw[←hj];simp
def KJ{tys:Array TypeId}{ts tx e ty:TypeId}{dx:TypeDesc}{i:TypeInfo}{zv:Value}{b g len:Nat}{t:List Nat}{v u:Value}(hS:SI σ)(hG:Good w0 ρ σ.h w)(hx:VR ρ (.gsl b g len 1) v)(hu:Vp P ρ w u t)(h0:tys[0]? =some ts)(h1:tys[1]? =some tx)(ht:P.underlying ts=some (.slice e))(s9:P.underlying tx=some dx)(F':∀j,dx≠ .int j)(hi:P.info? e=some i)(hby:i.bytes<=1000)(hiz:i.zero=some zv)(hzs:zv.cells.size=1)(ae1:i.size=1)(h:run (Ty e b g len t k) σ K=true):Res P w0 ρ w k K (Builtin.append_ tys ty #[v,u]):=by
 obtain⟨hlen,cs,hL,x6,i6⟩:=hu
 rcases aa6 t.length with hn0|i3
 ·have c7:=cX hS h
  obtain⟨q,b6,hq,e1,a9,h⟩:=bG hS h
  cases q with
  |grow c gen ty2=>
   cases c with
   |rows m l=>exact(ah h).elim
   |bytes l0=>
   obtain⟨k1,z1⟩:=ay h
   obtain⟨k2,z2⟩:=ay z1
   obtain⟨k3,z3⟩:=aQ z2
   obtain⟨x0,c9,hx0,e2,d6,_,z4⟩:=fo a9 z3
   clear h z1 z2 z3
   have k1:=aN k1
   have k2:=aN k2
   subst k1;subst k2
   have ht0:t= []:=List.length_eq_zero_iff.1 hn0
   subst ht0
   have b7:Good w0 ρ b6.h w:=by rw[e1];exact hG
   have n6:b6.h.get b=some (.grow (.bytes l0) g ty2):=by rw[e1];exact hq
   have el:l0++ []=l0:=abp l0
   rw[el] at e2
   have n7:∀w:World,(Builtin.lenOf u).run P w= .ok 0 w:=hlen
   cases hx with
   |gsl _ _ _ _ hm c hn1 hh E' hcc hz=>
    have hB:=b7.blk _ _ n6;obtain⟨hle,K'⟩:=b7.forkX (w':=w) (x:=.grow (.bytes l0) (g+1) ty2) (gen:=g) (h2:=hm) n6 (λg' h'=>h') (λg' h'=>h') c7 (Kept.refl _ _ _) (λ_ _ _=>rfl) (aao _) (λ_ _ _ _ _=>rfl) (b7.dom _ _ _ hh).1 (.inl ⟨g,hh⟩) (λhle=>by
     rcases hB with hB|⟨t9,q1,q2,q3,arr,fr,q4,q5,q6,q7,q8⟩
     ·exact .inl hB
     ·rw[hh] at q1;injection q1 with q1;subst q1;exact .inr ⟨hm,Rho.put_at _ _ _ _,q2,q3.mono hle,arr,fr,q4,q5,q6,q7,λi hi j a ha=>by obtain⟨uu,u1,u2⟩:=q8 i hi j a ha;exact⟨uu,u1,u2.mono hle⟩⟩)
    exact⟨_,c9,_,_,w,z4,d6,by rw[e2];exact K',hle,.gsl b (g+1) (len+0) 1 hm c hn1 (Rho.put_at _ _ _ _) E' hcc hz,aV h0 h1 ht s9 F' hi (n7 _) hcc (aW (n7 w))⟩
   |gnil _ _ _=>exact .plain z4 d6 (by rw[e2];exact b7.none_turn n6 c7 k3.1 (λg' h'=>abO h') (λh=>h)) (.gnil _ _ _) (aV h0 h1 ht s9 F' hi (n7 _) (aao _) (aW (n7 w)))
   |gempty _ _ _ a=>exact .plain z4 d6 (by rw[e2];exact b7.none_turn n6 c7 k3.1 (λg' h'=>abO h') (λh=>h)) (.gempty _ _ _ a) (aV h0 h1 ht s9 F' hi (n7 _) (aao _) (aW (n7 w)))
  |_=>exact(ah h).elim
 ·have h2:run (J3 e b g len 1 t.length (cC t) k) σ K=true/\t.length<=1000000:=by
   refine⟨KI (λq a8 h=>?_) h, ?_⟩
   ·cases q with
    |grow c gen ty2=>
     cases c with
     |rows m l=>exact(ah h).elim
     |bytes l0=>
     obtain⟨k1,h⟩:=ay h
     obtain⟨k2,h⟩:=ay h
     obtain⟨k3,h⟩:=aQ h
     obtain⟨p1,p2,p3⟩:=Cg t
     show run (ac (Nat.beq g gen) (ac (Nat.beq 1 1) (ac (Nat.beq ty2 e) (ac (Nat.beq (cC t).length (t.length * 1)) (ac ((cC t).all gd) _ .fail) .fail) .fail) .fail) .fail) a8 K=true
     have q1:Nat.beq (cC t).length (t.length * 1)=true:=by rw[Nat.beq_eq];simp [cC]
     have q2:(cC t).all gd=true:=by unfold cC;rw[List.all_map,abx];intro _ _;rfl
     have q3:Nat.beq (pA t).length t.length=true:=by rw[Nat.beq_eq];simp [pA]
     rw[k1,k2,q1,q2]
     have q4:Ct.app (.bytes l0) (cC t) t.length=some (.bytes (l0++t),br (pA t)):=by simp only [Ct.app,p1,p2,q3];rfl
     show run (match Ct.app (.bytes l0) (cC t) t.length with
      |some (c',p)=>Tr.req ((Ct.bytes l0).len=len/\len<=1000000000/\p) (.wr b (.grow c' (gen+1) ty2) (k (.gsl b (gen+1) (len+t.length) 1)))
      |none=>.fail) a8 K=true
     rw[q4]
     show run (Tr.req _ _) a8 K=true
     rw[fm _ _ _ ⟨k3.1,k3.2.1,p3⟩]
     exact h
    |_=>exact(ah h).elim
   ·obtain⟨q,b6,_,_,_,h⟩:=bG hS h
    cases q with
    |grow c gen ty2=>
     cases c with
     |rows m l=>exact(ah h).elim
     |bytes l0=>
     obtain⟨k1,h⟩:=ay h
     obtain⟨k2,h⟩:=ay h
     obtain⟨k3,h⟩:=aQ h
     exact k3.2.2
    |_=>exact(ah h).elim
  rw[←ae1] at h2 i6 hx;exact yX (ty:=ty) hS hG hx h0 h1 ht s9 F' hi hby hiz (hzs.trans ae1.symm) hlen h2.2 i3 hL (by rw[x6,ae1,aaU]) i6 h2.1
def ma(d:Ct):Nat->List AV
 |0=>[]
 |n+1=>ma d n++d.row n
def cY(d:Ct):∀n,(ma d n).length=n * d.es
 |0=>by simp [ma]
 |n+1=>by rw[ma,aav,cY d n,d.row_len,aa1]
def Eq(d:Ct){q:Nat}{a:AV}:∀n,(ma d n)[q]? =some a->∃i j,i<n/\q=i * d.es+j/\(d.row i)[j]? =some a
 |0,h=>by simp [ma] at h
 |n+1,h=>by
  rcases aat q (n * d.es) with h'|h'
  ·rw[ma,aaO (by rw[cY];exact h')] at h;obtain⟨i,j,h1,h2⟩:=Eq d n h;exact⟨i,j,by omega,h2⟩
  ·rw[ma,aaJ (by rw[cY];exact h'),cY] at h;exact⟨n,q-n * d.es,by omega,by omega,h⟩
def yZ(d:Ct):∀n i,i<n->((ma d n).drop (i * d.es)).take d.es=d.row i
 |0,_,h=>by omega
 |n+1,i,h=>by
  rcases aat i n with h'|h'
  ·have hm:i * d.es+d.es<=n * d.es:=by rw[←aa1];exact aaM _ h'
   rw[ma,abP (by rw[cY];omega),abG (by rw[aaA,cY];omega),yZ d n i h']
  ·have:i=n:=by omega
   subst this;rw[ma,abP (by rw[cY];omega),aa2 (by rw[cY];omega),abm,abz (by rw[d.row_len];omega)]
def rr:∀(g:G) (n i:Nat),∀a∈lT g n i,gd a=true
 |_,0,_,_,h=>by cases h
 |g,n+1,i,a,h=>by
  rcases List.mem_cons.1 h with h|h
  ·subst h;rfl
  ·exact rr g n (i+1) a h
def rx:∀(xs:List Sc) (g:G) (q:Nat),∀a∈bE xs g q,gd a=true
 | [],_,_,_,h=>by cases h
 |x::xs,g,q,a,h=>by
  rcases List.mem_append.1 h with h|h
  ·cases x <;> simp [fM] at h;case h n=>exact rr _ _ _ a h
   all_goals (subst h;rfl)
  ·exact rx xs g (q+1) a h
def y_(m:Nat)(l:List G):∀n,∀a∈ma (.rows m l) n,gd a=true
 |0,a,h=>by cases h
 |n+1,a,h=>by
  rcases List.mem_append.1 h with h|h
  ·exact y_ m l n a h
  ·exact rx _ _ _ a h
def zg(P:Program)(ρ:Rho)(w:World)(u:Value)(d:Ct):Prop:=(∀w:World,(Builtin.lenOf u).run P w= .ok d.len w)/\∃cs:List Value,LR ρ (ma d d.len) cs/\cs.length=d.len * d.es/\∀w2:World,w2.heap=w.heap->(Builtin.firstCells d.es d.len u).run P w2= .ok cs.toArray w2
def Er{d:Ct}{blk off cp:Nat}{arr:Array Value}{ty:TypeId}{fr:Nat×Nat}(hw:w.heap[blk]? =some (.cells arr ty fr))(hb:off+d.len * d.es<=arr.size)(r:∀i j a,i<d.len->(d.row i)[j]? =some a->∃u,arr[off+i * d.es+j]? =some u/\VR ρ a u):zg P ρ w (.slice (some ⟨blk,off,none⟩) d.len cp) d:=by
 have x6:((arr.toList.drop off).take (d.len * d.es)).length=d.len * d.es:=by rw[aax,aaA,aaY];omega
 refine⟨λw=>rfl,(arr.toList.drop off).take (d.len * d.es),⟨by rw[x6,cY],λq a v ha hv=>?_⟩,x6,λw2 hw2=>?_⟩
 ·obtain⟨i,j,h1,h2,h3⟩:=Eq d _ ha;obtain⟨u,u1,u2⟩:=r i j a h1 h3;have hq:q<d.len * d.es:=by
   rcases aat q (d.len * d.es) with h'|h'
   ·exact h'
   ·rw[aaz (by rw[cY];exact h')] at ha;cases ha
  rw[aaF hq,aaH,aa9,h2, ←abH,u1] at hv;injection hv with hv;rw[←hv];exact u2
 ·refine run_firstCells_some w2 d.es d.len _ _ _ _ x6 λj v hj=>?_;have hj':j<d.len * d.es:=by
   rcases aat j (d.len * d.es) with h'|h'
   ·exact h'
   ·rw[aaz (by rw[x6];exact h')] at hj;cases hj
  rw[aaF hj',aaH] at hj;have e1:(⟨blk,off,none⟩:Addr).add j=⟨blk,off+j,none⟩:=by have:=dC (h:=⟨blk,0,0⟩) (o:=off) (n:=j) (aaD _);simpa using this
  rw[e1];simp only [World.cell?,hw2,hw];rw[←hj];simp
def mb{d:Ct}(h0:d.len=0){a:Option Addr}{c:Nat}:zg P ρ w (.slice a 0 c) d:=by
 refine⟨λ_=>by rw[h0];rfl,[], ?_,by rw[h0];simp,λ_ _=>?_⟩
 ·rw[h0];exact LR.nil ρ
 ·rw[h0];cases a <;> simp [Builtin.firstCells,loadCells,loadCellsFrom]
def Qb{m:Nat}{l:List G}{y:AV}{u:Value}(hG:Good w0 ρ σ.h w)(hy:VR ρ y u)(h:D8 y=some (m,l)):zg P ρ w u (.rows m l):=by
 cases hy with
 |cv c blk off cp arr ty hf hc hb r=>
  cases c with
  |bytes t=>cases h
  |rows m' l'=>
   injection h with h;injection h with e1 e2;subst e1;subst e2;obtain⟨⟨fr,hw⟩,_⟩:=hG.frz _ _ _ hf;refine Er hw hb λi j a hi ha=>?_;have hj:j<(Ct.rows m' l').es:=by
    have:=(Ct.rows m' l').row_len i;rcases aat j ((Ct.rows m' l').row i).length with h'|h'
    ·omega
    ·rw[aaz h'] at ha;cases ha
   have hm:i * (Ct.rows m' l').es+(Ct.rows m' l').es<=(Ct.rows m' l').len * (Ct.rows m' l').es:=by rw[←aa1];exact aaM _ hi
   have c8:off+i * (Ct.rows m' l').es+j<arr.size:=by omega
   exact⟨_,aa0 c8,r i j a _ hi ha (aa0 c8)⟩
 |cvnil c h0=>
  cases c with
  |bytes t=>cases h
  |rows m' l'=>injection h with h;injection h with e1 e2;subst e1;subst e2;exact mb h0
 |cvempty c a h0=>
  cases c with
  |bytes t=>cases h
  |rows m' l'=>injection h with h;injection h with e1 e2;subst e1;subst e2;exact mb h0
 |_=>cases h
def KK{m:Nat}{l:List G}{b g n ty:Nat}{u:Value}(hG:Good w0 ρ σ.h w)(hq:σ.h.get b=some (.grow (.rows m l) g ty))(hn:l.length=n)(hy:VR ρ (.gsl b g n (bn (cP m))) u):zg P ρ w u (.rows m l):=by
 cases hy with
 |gnil _ _ _=>exact mb (show(Ct.rows m l).len=0 from hn)
 |gempty _ _ _ a=>exact mb (show(Ct.rows m l).len=0 from hn)
 |gsl _ _ _ _ hm c hn1 hh E' hcc hz=>
  subst hn;rcases hG.blk _ _ hq with hB|⟨t9,q1,q2,q3,arr,fr,q4,q5,q6,q7,q8⟩
  ·have hB:l.length=0:=hB;omega
  ·rw[hh] at q1;injection q1 with q1;subst q1;refine Er (d:=.rows m l) (off:=0) q4 (by rw[aaC,q5];exact q6) λi j a hi ha=>?_;obtain⟨uu,u1,u2⟩:=q8 i hi j a ha;exact⟨uu,by rw[aaC];exact u1,u2⟩
def KL{m n:Nat}{l:List G}{b g ty:Nat}{u:Value}(hG:Good w0 ρ σ.h w)(hq:σ.h.get b=some (.grow (.rows m l) g ty))(hn:n<=l.length)(hy:VR ρ (.gsl b g n (bn (cP m))) u):zg P ρ w u (.rows m (l.take n)):=by
 have hl:(l.take n).length=n:=by rw[aax];omega
 cases hy with
 |gnil _ _ _=>exact mb (d:=.rows m (l.take 0)) hl
 |gempty _ _ _ a=>exact mb (d:=.rows m (l.take 0)) hl
 |gsl _ _ _ _ hm c hn1 hh E' hcc hz=>
  rcases hG.blk _ _ hq with hB|⟨t9,q1,q2,q3,arr,fr,q4,q5,q6,q7,q8⟩
  ·have hB:l.length=0:=hB;omega
  ·rw[hh] at q1;injection q1 with q1;subst q1;have q6:l.length * bn (cP m)<=hm.size:=q6;have hmul:n * bn (cP m)<=l.length * bn (cP m):=aaM _ hn;have:=Er (P:=P) (ρ:=ρ) (d:=.rows m (l.take n)) (off:=0) (cp:=c) q4 (by show 0+(l.take n).length * bn (cP m)<=_;rw[hl];omega) λi j a hi ha=>by
    have hi:i<n:=by have hi:i<(l.take n).length:=hi;omega
    have e:(Ct.rows m (l.take n)).row i=(Ct.rows m l).row i:=by show bE _ (aq _ _) _=bE _ (aq _ _) _;unfold aq;rw[aas,aas,aaF hi]
    rw[e] at ha;obtain⟨uu,u1,u2⟩:=q8 i (show i<l.length by omega) j a ha;exact⟨uu,by rw[aaC];exact u1,u2⟩
   rw[show(Ct.rows m (l.take n)).len=n from hl] at this;exact this
def KM{m n o:Nat}{l:List G}{b g ty:Nat}{u:Value}(hG:Good w0 ρ σ.h w)(hq:σ.h.get b=some (.grow (.rows m l) g ty))(ho:o=o/bn (cP m) * bn (cP m))(hn:o/bn (cP m)+n<=l.length)(hy:VR ρ (.slc b g o n none (bn (cP m))) u):zg P ρ w u (.rows m ((l.drop (o/bn (cP m))).take n)):=by
 have hl:((l.drop (o/bn (cP m))).take n).length=n:=by rw[aax,aaA];omega
 cases hy with
 |slc _ _ _ _ _ _ ad c s8=>
  obtain⟨hlc,s8⟩:=s8;rcases aa6 n with hn0|hn0
  ·subst hn0;exact mb (d:=.rows m ((l.drop (o/bn (cP m))).take 0)) hl
  rcases s8 with⟨h1,_⟩|⟨hm,hh,hs,ea,hz⟩
  ·omega
  rcases hG.blk _ _ hq with hB|⟨t9,q1,q2,q3,arr,fr,q4,q5,q6,q7,q8⟩
  ·have hB:l.length=0:=hB;have:=aaV (Nat.le_add_left n (o/bn (cP m))) hn;omega
  rw[hh] at q1;injection q1 with q1;subst q1;subst ea;rw[q2,abB] at hz⊢;generalize hk:o/bn (cP m)=k0 at *;have q6:l.length * bn (cP m)<=hm.size:=q6;have hmul:(k0+n) * bn (cP m)<=l.length * bn (cP m):=aaM _ hn;rw[aaN] at hmul;have:=Er (P:=P) (ρ:=ρ) (d:=.rows m ((l.drop k0).take n)) (off:=o) (cp:=c) q4 (by show o+((l.drop k0).take n).length * bn (cP m)<=_;rw[hl];omega) λi j a hi ha=>by
   have hi:i<n:=by have hi:i<((l.drop k0).take n).length:=hi;omega
   have e:(Ct.rows m ((l.drop k0).take n)).row i=(Ct.rows m l).row (k0+i):=by show bE _ (aq _ _) _=bE _ (aq _ _) _;unfold aq;rw[aas,aas,aaF hi,aaH]
   rw[e] at ha;obtain⟨uu,u1,u2⟩:=q8 (k0+i) (show k0+i<l.length by omega) j a ha;refine⟨uu, ?_,u2⟩;have u1:arr[(k0+i) * bn (cP m)+j]? =some uu:=u1;rw[←u1];show arr[o+i * bn (cP m)+j]? =_;rw[ho,aaN]
  rw[show(Ct.rows m ((l.drop k0).take n)).len=n from hl] at this;exact this
def KN{tys:Array TypeId}{ts tx e ty:TypeId}{dx:TypeDesc}{i:TypeInfo}{zv:Value}{m:Nat}{l:List G}{a:AV}{v u:Value}(hS:SI σ)(hG:Good w0 ρ σ.h w)(hx:VR ρ a v)(hu:zg P ρ w u (.rows m l))(h0:tys[0]? =some ts)(h1:tys[1]? =some tx)(ht:P.underlying ts=some (.slice e))(s9:P.underlying tx=some dx)(F':∀j,dx≠ .int j)(hi:P.info? e=some i)(hby:i.bytes<=1000)(hiz:i.zero=some zv)(hzs:zv.cells.size=i.size)(h:run (ug e i.size m l k a) σ K=true):Res P w0 ρ w k K (Builtin.append_ tys ty #[v,u]):=by
 obtain⟨hlen,cs,hL,x6,i6⟩:=hu
 cases a with
 |gsl b g len es=>
  obtain⟨kes,h⟩:=ay h
  have kes:=aN kes
  subst kes
  have c7:=cX hS h
  obtain⟨q,b6,hq,e1,a9,h⟩:=bG hS h
  cases q with
  |grow c gen ty2=>
   cases c with
   |bytes l0=>exact(ah h).elim
   |rows m0 l0=>
   obtain⟨k1,z1⟩:=ay h
   obtain⟨k2,z2⟩:=ay z1
   obtain⟨k3,z3⟩:=ay z2
   obtain⟨k4,z4⟩:=ay z3
   obtain⟨⟨k5,k6,k7⟩,z5⟩:=aQ z4
   obtain⟨x0,c9,hx0,e2,d6,_,z6⟩:=fo a9 z5
   clear h z1 z2 z3 z4 z5
   have k1:=aN k1
   have k2:=aN k2
   have k3:=aN k3
   have k4:=aN k4
   subst k1;subst k2;subst k3
   have b7:Good w0 ρ b6.h w:=by rw[e1];exact hG
   have n6:b6.h.get b=some (.grow (.rows m0 l0) g ty2):=by rw[e1];exact hq
   rcases aa6 l.length with hn0|i3
   ·have ht0:l= []:=List.length_eq_zero_iff.1 hn0
    subst ht0
    have el:l0++ []=l0:=abp l0
    rw[el] at e2
    have n7:∀w:World,(Builtin.lenOf u).run P w= .ok 0 w:=hlen
    cases hx with
    |gsl _ _ _ _ hm c hn1 hh E' hcc hz=>
     have hB:=b7.blk _ _ n6;obtain⟨hle,K'⟩:=b7.forkX (w':=w) (x:=.grow (.rows m0 l0) (g+1) ty2) (gen:=g) (h2:=hm) n6 (λg' h'=>h') (λg' h'=>h') c7 (Kept.refl _ _ _) (λ_ _ _=>rfl) (aao _) (λ_ _ _ _ _=>rfl) (b7.dom _ _ _ hh).1 (.inl ⟨g,hh⟩) (λhle=>by
      rcases hB with hB|⟨t9,q1,q2,q3,arr,fr,q4,q5,q6,q7,q8⟩
      ·exact .inl hB
      ·rw[hh] at q1;injection q1 with q1;subst q1;exact .inr ⟨hm,Rho.put_at _ _ _ _,q2,q3.mono hle,arr,fr,q4,q5,q6,q7,λi hi j a ha=>by obtain⟨uu,u1,u2⟩:=q8 i hi j a ha;exact⟨uu,u1,u2.mono hle⟩⟩)
     exact⟨_,c9,_,_,w,z6,d6,by rw[e2];exact K',hle,.gsl b (g+1) (len+0) i.size hm c hn1 (Rho.put_at _ _ _ _) E' hcc hz,aV h0 h1 ht s9 F' hi (n7 _) hcc (aW (n7 w))⟩
    |gnil _ _ _=>exact .plain z6 d6 (by rw[e2];exact b7.none_turn n6 c7 k5 (λg' h'=>abO h') (λh=>h)) (.gnil _ _ _) (aV h0 h1 ht s9 F' hi (n7 _) (aao _) (aW (n7 w)))
    |gempty _ _ _ a=>exact .plain z6 d6 (by rw[e2];exact b7.none_turn n6 c7 k5 (λg' h'=>abO h') (λh=>h)) (.gempty _ _ _ a) (aV h0 h1 ht s9 F' hi (n7 _) (aao _) (aW (n7 w)))
   ·have ap8:(ma (.rows m0 l) l.length).length=l.length * i.size:=by rw[cY];show _ * bn (cP m0)=_;rw[k4]
    have am6:(Ct.rows m0 (l0++l)).len=(Ct.rows m0 l0).len+l.length:=aav;obtain⟨ρ',v',w',g1,g2,g3,g4⟩:=uv (P:=P) (ty:=ty) (c1:=.rows m0 (l0++l)) (n:=l.length) (l:=ma (.rows m0 l) l.length) (cs:=cs) b7 hx h0 h1 ht s9 F' hi hby hiz hzs hlen k7 i3 hL (by rw[x6];show _ * bn (cP m0)=_;rw[k4];rfl)
     (λw2 hw2=>by have:=i6 w2 hw2;rwa [show(Ct.rows m0 l).es=i.size from k4] at this) n6 c7 k4 ap8 (y_ m0 l _) k5 k6 am6 rfl (λρ2 i2 hi2 vs o6=>by
      have hi2:i2<l0.length+l.length:=hi2;by_cases h':i2<l0.length
      ·rw[oE (show i2<(Ct.rows m0 l0).len from h')] at o6;have e:(Ct.rows m0 (l0++l)).row i2=(Ct.rows m0 l0).row i2:=by show bE _ (aq _ _) _=bE _ (aq _ _) _;unfold aq;rw[aas,aas,aaO h']
       rw[e];exact o6
      ·rw[kS (show ¬i2<(Ct.rows m0 l0).len from h')] at o6;have e:(Ct.rows m0 (l0++l)).row i2=(Ct.rows m0 l).row (i2-l0.length):=by show bE _ (aq _ _) _=bE _ (aq _ _) _;unfold aq;rw[aas,aas,aaJ (by omega)]
       rw[e, ←yZ (.rows m0 l) l.length (i2-l0.length) (by omega)];exact o6)
    exact⟨_,c9,ρ',v',w',z6,d6,by rw[e2];exact g1,g2,g3,g4⟩
  |_=>exact(ah h).elim
 |_=>exact(ah h).elim
def Ch{tys:Array TypeId}{ts tx e ty:TypeId}{dx:TypeDesc}{x y:AV}{v u:Value}(hS:SI σ)(hG:Good w0 ρ σ.h w)(hx:VR ρ x v)(hy:VR ρ y u)(h0:tys[0]? =some ts)(h1:tys[1]? =some tx)(ht:P.underlying ts=some (.slice e))(s9:P.underlying tx=some dx)(F':∀j,dx≠ .int j)(h:run (D_ P e x y k) σ K=true):Res P w0 ρ w k K (Builtin.append_ tys ty #[v,u]):=by
 obtain⟨i,hi,h⟩:=Yz h
 obtain⟨hby,h⟩:=ay h
 have hby:=bV hby
 obtain⟨w8,h⟩:=ay (jF h)
 have w8:=bV w8
 obtain⟨z,zv,i',hi',hzr,hz,h⟩:=yO ρ w h
 have hiz:i.zero=some zv:=by
  simp [zeroValue,typeInfo,aap,run_program,hi] at hzr
  cases hz0:i.zero with
  |none=>rw[hz0] at hzr;simp at hzr
  |some q=>rw[hz0] at hzr;simp at hzr;rw[hzr]
 obtain⟨zl,hzl,h⟩:=hY hz h
 obtain⟨hzs,h⟩:=ay h
 have hzs:=aN hzs
 have hzs:zv.cells.size=i.size:=by rw[←aaY,hzl.1];exact hzs
 have appS:∀(t:List Nat) (σ:St),SI σ->Good w0 ρ σ.h w->Vp P ρ w u t->run (qf e i.size t x k) σ K=true->Res P w0 ρ w k K (Builtin.append_ tys ty #[v,u]):=by
  intro t σ hS hG hu h
  obtain⟨ae1,h⟩:=ay h
  have ae1:=aN ae1
  have grown:∀(a:AV) (a8:St),SI a8->Good w0 ρ a8.h w->VR ρ a v->run (yC e t k a) a8 K=true->Res P w0 ρ w k K (Builtin.append_ tys ty #[v,u]):=by
   intro a a8 l6 f6 ha h
   cases a with
   |gsl b g len es=>obtain⟨l9,h⟩:=ay h;have l9:=aN l9;subst l9;exact KJ l6 f6 ha hu h0 h1 ht s9 F' hi hby hiz (by rw[hzs,ae1]) ae1 h
   |_=>exact(ah h).elim
  cases x with
  |gsl b g len es=>exact grown _ _ hS hG hx h
  |nils=>obtain⟨b,a8,hn,c7,e1,l6,h⟩:=gi hS h;cases hx;exact grown _ _ l6 (by rw[e1];exact hG.none_new hn c7 rfl) (.gnil _ _ _) h
  |slc b g o len cap es=>
   obtain⟨l9,z1⟩:=ay h;have l9:=aaq l9;rcases bU z1 with⟨hl0,z2⟩|⟨_,z2⟩
   ·obtain⟨hz,z3⟩:=ay z2
    obtain⟨b',a8,hn,c7,e1,l6,z4⟩:=gi hS z3
    have hc:cap=some 0:=by
     unfold wh at hz;split at hz
     ·rfl
     ·cases hz
    have hl0:=aaq hl0
    clear h z1 z2 z3
    cases hx with
    |slc _ _ _ _ _ _ a c s8=>rw[hc] at s8;obtain⟨_,ec,_⟩:=s8;rw[hl0,ec] at grown⊢;exact grown _ _ l6 (by rw[e1];exact hG.none_new hn c7 rfl) (.gempty _ _ _ a) z4
   ·obtain⟨a8,z3,l6,f6,_,hv⟩:=d_ hS hG kq z2;rw[l9] at hx;exact grown _ _ l6 f6 (hv ρ (.refl _) _ hx) z3
  |_=>exact(ah h).elim
 have appR:∀(m:Nat) (l:List G) (σ:St),SI σ->Good w0 ρ σ.h w->zg P ρ w u (.rows m l)->run (kR e i.size m l x k) σ K=true->Res P w0 ρ w k K (Builtin.append_ tys ty #[v,u]):=by
  intro m l σ hS hG hu h
  have grown:∀(a:AV) (a8:St),SI a8->Good w0 ρ a8.h w->VR ρ a v->run (ug e i.size m l k a) a8 K=true->Res P w0 ρ w k K (Builtin.append_ tys ty #[v,u]):=
   λa a8 l6 f6 ha h=>KN l6 f6 ha hu h0 h1 ht s9 F' hi hby hiz hzs h
  cases x with
  |gsl b g len es=>exact grown _ _ hS hG hx h
  |nils=>obtain⟨b,a8,hn,c7,e1,l6,h⟩:=gi hS h;cases hx;exact grown _ _ l6 (by rw[e1];exact hG.none_new hn c7 rfl) (.gnil _ _ _) h
  |slc b g o len cap es=>
   obtain⟨l9,z1⟩:=ay h;have l9:=aaq l9;rcases bU z1 with⟨hl0,z2⟩|⟨_,z2⟩
   ·obtain⟨hz,z3⟩:=ay z2
    obtain⟨b',a8,hn,c7,e1,l6,z4⟩:=gi hS z3
    have hc:cap=some 0:=by
     unfold wh at hz;split at hz
     ·rfl
     ·cases hz
    have hl0:=aaq hl0
    clear h z1 z2 z3
    cases hx with
    |slc _ _ _ _ _ _ a c s8=>rw[hc] at s8;obtain⟨_,ec,_⟩:=s8;rw[hl0,ec] at grown⊢;exact grown _ _ l6 (by rw[e1];exact hG.none_new hn c7 rfl) (.gempty _ _ _ a) z4
   ·obtain⟨a8,z3,l6,f6,_,hv⟩:=d_ hS hG iF z2;exact grown _ _ l6 f6 (hv ρ (.refl _) _ hx) z3
  |_=>exact(ah h).elim
 have main:∀σ:St,SI σ->Good w0 ρ σ.h w->run (match D8 y with
  |some (m,l)=>kR e i.size m l x k
  |none=>match BW y with
   |some t=>qf e i.size t x k
   |none=>J1 y λn=>ac (Nat.ble n 1000000) (om i.size n y λnew=>kj e i.size n new x k) .fail) σ K=true->Res P w0 ρ w k K (Builtin.append_ tys ty #[v,u]):=by
  intro σ hS hG h
  cases hrx:D8 y with
  |some ml=>
   obtain⟨m,l⟩:=ml
   rw[hrx] at h
   exact appR m l σ hS hG (Qb hG hy hrx) h
  |none=>
  rw[hrx] at h
  cases hsb:BW y with
  |some t=>
   rw[hsb] at h
   exact appS t σ hS hG (P_ (P:=P) (w:=w) hG hy hsb) h
  |none=>
  rw[hsb] at h
  obtain⟨n,h,hlen⟩:=P9 (P:=P) hy h
  obtain⟨hn,h⟩:=ay h
  have hn:=bV hn
  obtain⟨l,cs,a8,e1,l6,h,hL,x6,i6⟩:=ut (P:=P) (w:=w.drew) hS (hG.drawn _) hy (hlen _) (aao _) w8 h
  have f6:Good w0 ρ a8.h w:=by rw[e1];exact hG
  have gcase:∀b g len es,VR ρ (.gsl b g len es) v->run (kj e i.size n l (.gsl b g len es) k) a8 K=true->Res P w0 ρ w k K (Builtin.append_ tys ty #[v,u]):=by
   intro b g len es hx h;obtain⟨l9,h⟩:=ay h;have l9:=aN l9;subst l9;rcases bU h with⟨h0',h⟩|⟨h0',h⟩
   ·have h0':=aN h0'
    subst h0'
    cases hx with
    |gsl _ _ _ _ hm c hn0 hh E' hcc hz=>exact .plain h l6 f6 (.gsl _ _ _ _ hm c hn0 hh E' hcc hz) (aV h0 h1 ht s9 F' hi (hlen _) hcc (aW (hlen w)))
    |gnil _ _ _=>exact .plain h l6 f6 (.gnil _ _ _) (aV h0 h1 ht s9 F' hi (hlen _) (aao _) (aW (hlen w)))
    |gempty _ _ _ a=>exact .plain h l6 f6 (.gempty _ _ _ a) (aV h0 h1 ht s9 F' hi (hlen _) (aao _) (aW (hlen w)))
   ·have i3:0<n:=by
     rcases aa6 n with e|e
     ·subst e;simp at h0'
     ·exact e
    exact yX (ty:=ty) l6 f6 hx h0 h1 ht s9 F' hi hby hiz hzs hlen hn i3 hL x6 (λw2 hw2=>i6 w2 hw2) h
  cases hx with
  |nils=>
   rcases bU h with⟨h0',h⟩|⟨h0',h⟩
   ·have h0':=aN h0';subst h0';exact .plain h l6 f6 .nils (aV h0 h1 ht s9 F' hi (hlen _) (aao _) (aW (hlen w)))
   ·have i3:0<n:=by
     rcases aa6 n with e|e
     ·subst e;simp at h0'
     ·exact e
    have hnb:n * i.bytes<=1000000 * 1000:=abu hn hby;have b9:=dZ (P:=P) (w:=w) (ty:=ty) (base:=none) (sLen:=0) (sCap:=0) (olds:=[]) h0 h1 ht s9 F' hi hiz (hlen w) (by omega) (by omega) (by rw[aaC,nextslicecap_zero i3];omega) (by simp [Builtin.firstCells]) (i6 _ rfl);rw[aaC] at b9;have hge:=grownCap_ge w n 0 e;refine Ep (a:=.nilIface) (ovs:=[]) (nvs:=cs) (rest:=λc=>(Builtin.zeroCells zv.cells (c-n)).toList) l6 f6 (LR.nil ρ) hL (grownCap w n 0 e) hge ?_ h _ b9;simp only [List.length_nil,aaY,size_zeroCells,hzs,x6,aaC, ←aaN];congr 1;omega
  |slc b g o len cap es a c s8=>
   obtain⟨l9,h⟩:=ay h
   obtain⟨hlm,h⟩:=ay h
   have l9:=aN l9
   have hlm:=bV hlm
   rcases bU h with⟨h0',h⟩|⟨h0',h⟩
   ·have h0':=aN h0';subst h0';exact .plain h l6 f6 (.slc _ _ _ _ _ _ _ _ s8) (aV h0 h1 ht s9 F' hi (hlen _) s8.1 (aW (hlen w)))
   ·have i3:0<n:=by
     rcases aa6 n with e|e
     ·subst e;simp at h0'
     ·exact e
    have h:=jF h
    have ai8:Builtin.nextslicecap (len+n) c * i.bytes<=281474976710656∨len+n<=c:=by
     rcases aat c (len+n) with c8|hge
     ·left;have h1:Builtin.nextslicecap (len+n) c<=2 * (len+n):=nextslicecap_le c8;have h2:=abu h1 hby;omega
     ·exact .inr hge
    have hge:=grownCap_ge w (len+n) c e
    have am7:∀(m:Nat),len * i.size+cs.length+(Builtin.zeroCells zv.cells (m-(len+n))).toList.length=(len+n) * i.size+(m-(len+n)) * i.size:=λm=>by
     have hz1:(Builtin.zeroCells zv.cells (m-(len+n))).toList.length=(m-(len+n)) * i.size:=by rw[aaY,size_zeroCells,hzs]
     rw[hz1,x6,aaN]
    cases cap with
    |some k0=>
     obtain⟨hlc,ek,hm,hh,ho,ea⟩:=s8;subst ek;subst ea;rcases bU h with⟨hrm,h⟩|⟨hrm,h⟩
     ·have hrm:=bV hrm;have h:=jF h;obtain⟨c9,w2,q1,q2,q3,q4⟩:=py (P:=P) l6 f6 hh (show hm.shift<=o+len * i.size by omega) hL h;refine⟨_,c9,ρ,_,w2,q1,q2,q3,Rho.le.refl ρ,.slc _ _ _ _ _ _ _ _ ⟨hrm,rfl,hm,hh,ho,rfl⟩, ?_⟩;exact eR h0 h1 ht s9 F' hi (hlen w) hrm (i6 w rfl) (by rw[dC ho];exact q4)
     ·have hrm:=Yy hrm;obtain⟨lo,ovs,c9,e2,d6,h,hLo,hol,hof⟩:=ut (P:=P) (v:=.slice (some ⟨hm.blk,o-hm.shift,none⟩) len c) (len:=len) l6 f6 (.slc b g o len (some c) es _ c ⟨hlc,rfl,hm,hh,ho,rfl⟩) rfl (aao _) w8 h;have f9:Good w0 ρ c9.h w:=by rw[e2];exact f6
      have b9:=dZ (P:=P) (w:=w) (ty:=ty) h0 h1 ht s9 F' hi hiz (hlen w) hrm (by omega) (ai8.resolve_right (by omega)) (hof _ rfl) (i6 _ rfl);refine Ep (a:=.nilIface) (ovs:=ovs) (nvs:=cs) (rest:=λm=>(Builtin.zeroCells zv.cells (m-(len+n))).toList) d6 f9 hLo hL (grownCap w (len+n) c e) hge ?_ h _ b9;rw[hol];have:=am7 (grownCap w (len+n) c e);rw[this, ←aaN];congr 1;omega
    |none=>
     have c7:=cX l6 h
     obtain⟨q,c9,hq,e2,d6,h⟩:=bG l6 h
     have f9:Good w0 ρ c9.h w:=by rw[e2];exact f6
     cases q with
     |cells c0 gen lo hi fl fh ro ty=>
      obtain⟨k1,z1⟩:=rc h;obtain⟨k2,z2⟩:=ay z1;obtain⟨k3,z3⟩:=ay z2;obtain⟨k4,z4⟩:=ay z3;obtain⟨k5,z5'⟩:=ay z4;obtain⟨k6,z5⟩:=ay z5';have z6:=jF z5;clear h z1 z2 z3 z4 z5 z5';have k6:=aN k6;have k2:=aN k2;have k3:=aN k3;have k4:=aN k4;have k5:=bV k5;subst k1;subst k2;subst k3;subst ty;subst l9;subst k4;obtain⟨ct,z7,u0,hct⟩:=HJ _ _ _ z6;have z8:=jF z7;obtain⟨x0,σ3,_,e3,hS3,_,z9⟩:=fo d6 z8;have am8:l.length=n * i.size:=by rw[←hL.1];exact x6
      obtain⟨hm0,ae2,_⟩:=(f6.blk _ _ hq).2 g (aao _);rcases aat c (len+n) with c8|M'
      ·obtain⟨olds,hol,hoc,hof⟩:∃olds:List Value,olds.length=len * i.size/\(∀j v,olds[j]? =some v->0<len->w.cell? ⟨hm0.blk,o-hm0.shift+j,none⟩=some v)/\(Builtin.firstCells i.size len (.slice (some a) len c)).run P w.drew= .ok olds.toArray w.drew:=by
        rcases aa6 len with hz0|hz0
        ·subst hz0;exact⟨[],by simp,by simp,by simp [Builtin.firstCells,loadCells,loadCellsFrom]⟩
        ·obtain⟨hlc,x9⟩:=s8;obtain⟨hm,hh,ho,ea,T'⟩:=x9.resolve_left (λhc=>by omega);rw[ae2] at hh;injection hh with hh;subst hh;obtain⟨t9,q1,q2,_,arr,fr,q3,q4,q5,q6⟩:=(f6.blk _ _ hq).2 g (aao _);rw[ae2] at q1;injection q1 with q1;subst q1;have hmul:len * i.size<=c * i.size:=abu hlc (aao _);refine⟨(arr.toList.drop (o-hm0.shift)).take (len * i.size), ?_,λj v hj _=>?_, ?_⟩
         ·rw[aax,aaA,aaY,q4];omega
         ·rw[abd] at hj;split at hj
          ·rw[aaH,aa9] at hj;simp [World.cell?,q3,hj]
          ·cases hj
         ·refine run_firstCells_some _ i.size len a len c _ (by rw[aax,aaA,aaY,q4];omega) λj v hj=>?_;rw[ea,dC ho];rw[abd] at hj;split at hj
          ·rw[aaH,aa9] at hj;show w.cell? _=_;rw[show o+j-hm0.shift=o-hm0.shift+j by omega];simp [World.cell?,q3,hj]
          ·cases hj
       have b9:=dZ (P:=P) (w:=w) (ty:=ty) h0 h1 ht s9 F' hi hiz (hlen w) c8 (by omega) (ai8.resolve_right (by omega)) hof (i6 _ rfl);obtain⟨hle,K'⟩:=KF (e2:=e) (rest:=(Builtin.zeroCells zv.cells (grownCap w (len+n) c e-(len+n))).toList) f6 c7 hq ae2 hL am8 hol (λhz0=>by obtain⟨hlc,x9⟩:=s8;obtain⟨hm,hh,ho,ea,T'⟩:=x9.resolve_left (λhc=>by omega);rw[ae2] at hh;injection hh with hh;subst hh;exact ho) hoc hct;refine⟨_,σ3,_,_,_,z9,hS3,by rw[e3,e2];exact K',hle,.slc _ _ _ _ _ _ _ _ ⟨hge,.inr ⟨_,Rho.put_at _ _ _ _,aao _,by simp, ?_⟩⟩,b9⟩;show o-o+grownCap w (len+n) c e * i.size<=(olds++cs++(Builtin.zeroCells zv.cells (grownCap w (len+n) c e-(len+n))).toList).length;rw[aav,aav,hol,am7, ←aaN,abk,aaC];exact abu (by omega) (aao _)
      ·obtain⟨hlc,x9⟩:=s8;obtain⟨hm,hh,ho,ea,T'⟩:=x9.resolve_left (λhc=>by omega);rw[ae2] at hh;injection hh with hh;subst hh;subst ea;obtain⟨w',q1,hle,K'⟩:=HK (P:=P) f6 c7 hq ae2 ho k5 hL am8 M' T' u0 hct;refine⟨_,σ3,_,_,w',z9,hS3,by rw[e3,e2];exact K',hle,.slc _ _ _ _ _ _ _ _ ⟨M',.inr ⟨_,Rho.put_at _ _ _ _,ho,rfl,T'⟩⟩, ?_⟩;exact eR h0 h1 ht s9 F' hi (hlen w) M' (i6 w rfl) q1
     |_=>exact(ah h).elim
  |gsl b g len es hm c hn0 hh E' hcc hz=>exact gcase _ _ _ _ (.gsl _ _ _ _ hm c hn0 hh E' hcc hz) h
  |gnil b g es=>exact gcase _ _ _ _ (.gnil _ _ _) h
  |gempty b g es a=>exact gcase _ _ _ _ (.gempty _ _ _ a) h
  |_=>exact(ah h).elim
 unfold D9 at h
 cases y with
 |gsl b g n es=>
  obtain⟨q,b6,hq,e1,a9,h⟩:=bG hS h
  have b7:Good w0 ρ b6.h w:=by rw[e1];exact hG
  have n6:b6.h.get b=some q:=by rw[e1];exact hq
  cases q with
  |grow c gen ty2=>
   cases c with
   |rows m l=>
    obtain⟨c1,z1⟩:=ay h
    obtain⟨c2,z2⟩:=ay z1
    have c1:=aN c1
    have c2:=aN c2
    subst c1;subst c2
    rcases du z2 with⟨c3,z3⟩|⟨_,z3⟩
    ·exact appR m l b6 a9 b7 (KK b7 n6 c3 hy) z3
    ·obtain⟨c3,z4⟩:=aQ z3;exact appR m _ b6 a9 b7 (KL b7 n6 c3 hy) z4
   |bytes t=>
   obtain⟨c1,z1⟩:=ay h
   obtain⟨c2,z2⟩:=ay z1
   obtain⟨c3,z3⟩:=aQ z2
   have c1:=aN c1
   have c2:=aN c2
   subst c1;subst c2
   exact appS t b6 a9 b7 (Qa b7 n6 c3 hy) z3
  |_=>exact(ah h).elim
 |slc b g o n cap es=>
  cases cap with
  |some cc=>exact main σ hS hG h
  |none=>
  obtain⟨q,b6,hq,e1,a9,h⟩:=bG hS h
  have b7:Good w0 ρ b6.h w:=by rw[e1];exact hG
  have n6:b6.h.get b=some q:=by rw[e1];exact hq
  have fall:run (J1 (.slc b g o n none es) λn'=>ac (Nat.ble n' 1000000) (om i.size n' (.slc b g o n none es) λnew=>kj e i.size n' new x k) .fail) b6 K=true->Res P w0 ρ w k K (Builtin.append_ tys ty #[v,u]):=λh=>main b6 a9 b7 h
  cases q with
  |grow c gen ty2=>
   cases c with
   |rows m l=>
    obtain⟨c1,z1⟩:=ay h
    obtain⟨c2,z2⟩:=ay z1
    obtain⟨⟨c3,c4⟩,z3⟩:=aQ z2
    have c1:=aN c1
    have c2:=aN c2
    subst c1;subst c2
    exact appR m _ b6 a9 b7 (KM b7 n6 c3 c4 hy) z3
   |bytes t=>exact fall h
  |_=>exact fall h
 |_=>exact main σ hS hG h
def Ci{tys:Array TypeId}{ty:TypeId}{args:List AV}{vs:List Value}(hS:SI σ)(hG:Good w0 ρ σ.h w)(hl:LR ρ args vs)(h:run (wi P tys args k) σ K=true):Res P w0 ρ w k K (Builtin.append_ tys ty vs.toArray):=by
 unfold wi at h;split at h
 ·rename_i ts tx s x h0 h1;obtain⟨v,vs1,rfl,hv,hl1⟩:=hl.cons_inv;obtain⟨u,vs2,rfl,hu,hl2⟩:=hl1.cons_inv;have:=hl2.nil_inv;subst this;obtain⟨d,hd,h⟩:=cG h;obtain⟨dx,s9,h⟩:=cG h;split at h
  ·exact(ah h).elim
  ·rename_i e F';exact Ch hS hG hv hu h0 h1 hd s9 (λj ej=>F' j ej) h
  ·exact(ah h).elim
 ·exact(ah h).elim
def HN{tys:Array TypeId}{ty:TypeId}{args:List AV}{vs:List Value}(hS:SI σ)(hG:Good w0 ρ σ.h w)(hl:LR ρ args vs)(h:run (BX P tys args k) σ K=true):Res P w0 ρ w k K (Builtin.len_ tys ty vs.toArray):=by
 unfold BX at h;split at h
 ·rename_i t x h0;obtain⟨v,vs1,rfl,hv,hl1⟩:=hl.cons_inv;have:=hl1.nil_inv;subst this;obtain⟨d,hd,h⟩:=cG h;split at h
  ·cases hv with
   |str s=>
    have hn:(bytesOf s).length=s.size:=by unfold bytesOf;rw[aaZ];rfl
    refine .plain (jF h) hS hG (.int _ _) ?_;simp [Builtin.len_,h0,run_underlying hd,goInt,hn]
  ·refine .plain h hS hG (.int _ _) ?_;simp [Builtin.len_,h0,run_underlying hd,goInt]
  ·cases hv;refine .plain h hS hG (.int _ _) ?_;simp [Builtin.len_,h0,run_underlying hd,goInt]
  ·cases hv;refine .plain h hS hG (.int _ _) ?_;simp [Builtin.len_,h0,run_underlying hd,goInt]
  ·cases hv with
   |osl n base len cap hb=>refine .plain h hS hG (.anyI .i64 (len:Int)) ?_;simp [Builtin.len_,h0,run_underlying hd,goInt]
  ·cases hv with
   |cv c blk off cp arr t2 hf hc hb r=>refine .plain h hS hG (.sI .i64 _) ?_;simp [Builtin.len_,h0,run_underlying hd,goInt]
   |cvnil c hc0=>refine .plain h hS hG (.sI .i64 _) ?_;simp [Builtin.len_,h0,run_underlying hd,goInt,hc0]
   |cvempty c a hc0=>refine .plain h hS hG (.sI .i64 _) ?_;simp [Builtin.len_,h0,run_underlying hd,goInt,hc0]
  ·cases hv with
   |gsl b g n es hm c hn0 hh E' hcc hz=>refine .plain h hS hG (.sI .i64 _) ?_;simp [Builtin.len_,h0,run_underlying hd,goInt]
   |gnil b g es=>refine .plain h hS hG (.sI .i64 _) ?_;simp [Builtin.len_,h0,run_underlying hd,goInt]
   |gempty b g es a=>refine .plain h hS hG (.sI .i64 _) ?_;simp [Builtin.len_,h0,run_underlying hd,goInt]
  ·cases hv with
   |sS s=>
    have hn:(bytesOf s).length=s.size:=by unfold bytesOf;rw[aaZ];rfl
    refine .plain h hS hG (.sI .i64 ((bytesOf s).length:Int)) ?_;simp [Builtin.len_,h0,run_underlying hd,goInt,hn]
  ·cases hv;refine .plain h hS hG (.int _ _) ?_;simp [Builtin.len_,h0,run_underlying hd,goInt]
  ·cases hv with
   |map b hm hh=>
    obtain⟨q,b6,hq,e1,a9,h⟩:=bG hS h
    cases q with
    |mapo es clock=>obtain⟨t9,f7,hB,o7,d9,p8,_⟩:=hG.blk _ _ hq;rw[hh] at f7;injection f7 with f7;subst f7;refine .plain (jF h) a9 (by rw[e1];exact hG) (.int _ _) ?_;simp [Builtin.len_,h0,run_underlying hd,goInt,bv d9 (by simp),p8]
    |smap m l=>obtain⟨t9,f7,hB,o7,clock,d9,p8,_⟩:=hG.blk _ _ hq;rw[hh] at f7;injection f7 with f7;subst f7;refine .plain h a9 (by rw[e1];exact hG) (.sI _ _) ?_;simp [Builtin.len_,h0,run_underlying hd,goInt,bv d9 (by simp),p8]
    |_=>exact(ah h).elim
  ·exact(ah h).elim
 ·exact(ah h).elim
def ry{t:TypeId}{r:Option Value}(hr:∀v,r=some v->(∃kt e,P.underlying t=some (.map kt e))/\∃j n,v= .int j n)(hS:SI σ)(hG:Good w0 ρ σ.h w)(h:run (.new (.mapo [] 0) λb=>k (.map b)) σ K=true):Res P w0 ρ w k K (Instr.makeMap t r):=by
 obtain⟨n,a8,hn,c7,hh,l6,h⟩:=gi hS h
 obtain⟨hle,f6⟩:=hG.alloc hn c7 (.mapo [] 0) (.map #[] 0) 0 0 (λρ' hle j0 _=>⟨_,j0,.new hG.below.size, #[],by simp,rfl,by simp⟩)
 refine⟨_,a8,_,_,_,h,l6,by rw[hh];exact f6,hle,.map n _ (Rho.put_at _ _ _ _), ?_⟩
 cases r with
 |none=>simp [Instr.makeMap]
 |some v=>obtain⟨⟨kt,e,hu⟩,j,m,rfl⟩:=hr v rfl;simp [Instr.makeMap,run_underlying hu,asInt,asIntOf]
def wy{x:AV}{v:Value}(hx:VR ρ x v)(h:run (uh x k) σ K=true):run (k x) σ K=true/\((∃a,v= .pointer (some a))∨(∃f l m,v= .func (.func f) l m)∨∃f l m,v= .func (.yield f) l m):=by
 cases hx with
 |ptr b g o hm hh ho=>exact⟨h,.inl ⟨_,rfl⟩⟩
 |cptr _ _ _ _ _ _ _ _=>exact⟨h,.inl ⟨_,rfl⟩⟩
 |yld b hm hh=>exact⟨h,.inr (.inr ⟨_,_,_,rfl⟩)⟩
 |func fn l m first captured h1 h2 r1 r2 hf=>
  cases fn with
  |func f=>exact⟨h,.inr (.inl ⟨_,_,_,rfl⟩)⟩
  |yield f=>exact⟨h,.inr (.inr ⟨_,_,_,rfl⟩)⟩
  |_=>exact(ah h).elim
 |_=>exact(ah h).elim
end
end Go.Sym
namespace Go.Sym
open Go.RowKit (Below)
def MR(ρ:Rho)(es:List ME)(ess:List MapEntry):Prop:=
 ess.length=es.length/\∀(i:Nat) (k v:AV) (n:Nat) (e:MapEntry),es[i]? =some (.mk k v n)->ess[i]? =some e->VR ρ k e.key/\VR ρ v e.val/\e.born=n
def MR.nil(ρ:Rho):MR ρ [] []:=⟨rfl,by simp⟩
def MR.cons{ρ:Rho}{k v:AV}{n:Nat}{e:MapEntry}{es:List ME}{ess:List MapEntry}(h1:VR ρ k e.key)(h2:VR ρ v e.val)(h3:e.born=n)(h:MR ρ es ess):MR ρ (.mk k v n::es) (e::ess):=by
 refine⟨by simp [h.1],λi k' v' n' e' hi he=>?_⟩
 cases i with
 |zero=>simp at hi he;obtain⟨q1,q2,q3⟩:=hi;subst q1;subst q2;subst q3;subst he;exact⟨h1,h2,h3⟩
 |succ i=>exact h.2 i k' v' n' e' (by simpa using hi) (by simpa using he)
def MR.cons_inv{ρ:Rho}{k v:AV}{n:Nat}{es:List ME}{ess:List MapEntry}(h:MR ρ (.mk k v n::es) ess):∃e ac1,ess=e::ac1/\VR ρ k e.key/\VR ρ v e.val/\e.born=n/\MR ρ es ac1:=by
 cases ess with
 |nil=>exact absurd h.1 (by simp)
 |cons e ac1=>obtain⟨h1,h2,h3⟩:=h.2 0 k v n e rfl rfl;exact⟨e,ac1,rfl,h1,h2,h3,by simpa using h.1,λi k' v' n' e' hi he=>h.2 (i+1) k' v' n' e' (by simpa using hi) (by simpa using he)⟩
def MR.nil_inv{ρ:Rho}{ess:List MapEntry}(h:MR ρ [] ess):ess= []:=by
 cases ess with
 |nil=>rfl
 |cons _ _=>exact absurd h.1 (by simp)
def MR.append{ρ:Rho}{es fs:List ME}{ess fss:List MapEntry}(h:MR ρ es ess)(h':MR ρ fs fss):MR ρ (es++fs) (ess++fss):=by
 induction es generalizing ess with
 |nil=>rw[h.nil_inv];exact h'
 |cons x es ih=>
  cases x with
  |mk k v n=>obtain⟨e,ac1,rfl,h1,h2,h3,h4⟩:=h.cons_inv;exact MR.cons h1 h2 h3 (ih h4)
def MR.get{ρ:Rho}{es:List ME}{ess:List MapEntry}(h:MR ρ es ess){i:Nat}{k v:AV}{n:Nat}(hi:es[i]? =some (.mk k v n)):∃e,ess[i]? =some e/\VR ρ k e.key/\VR ρ v e.val/\e.born=n:=by
 have c8:i<ess.length:=by
  rcases aat i es.length with h'|h'
  ·rw[h.1];exact h'
  ·rw[aaz h'] at hi;cases hi
 exact⟨_,aaw c8,h.2 i k v n _ hi (aaw c8)⟩
def MR.set{ρ:Rho}{es:List ME}{ess:List MapEntry}(h:MR ρ es ess){i:Nat}{k v:AV}{n:Nat}{e:MapEntry}(h1:VR ρ k e.key)(h2:VR ρ v e.val)(h3:e.born=n):MR ρ (es.set i (.mk k v n)) (ess.set i e):=by
 refine⟨by simp [h.1],λj k' v' n' e' hj he=>?_⟩;rw[abQ] at hj he;by_cases eij:i=j
 ·subst eij;rw[if_pos rfl] at hj he;split at hj
  ·injection hj with hj;injection hj with q1 q2 q3;subst q1;subst q2;subst q3;split at he
   ·injection he with he;subst he;exact⟨h1,h2,h3⟩
   ·cases he
  ·cases hj
 ·rw[if_neg eij] at hj he;exact h.2 j k' v' n' e' hj he
section
variable{P:Program}{w0:World}{ρ:Rho}{w:World}{σ:St}{K:Fin}{k:AV->Tr}
def BR.mapo_MR{B b:Nat}{es:List ME}{clock:Nat}(h:BR ρ B w b (.mapo es clock)):∃hm,ρ.at_ b 0=some hm/\Own ρ B hm.blk/\∃o7,w.heap[hm.blk]? =some (.map o7 clock)/\MR ρ es o7.toList:=by obtain⟨hm,h1,h2,o7,h3,h4,h5⟩:=h;exact⟨hm,h1,h2,o7,h3,by simpa using h4,λi k v n e hi he=>h5 i k v n e hi (by simpa using he)⟩
def HO:∀(f:Nat) (t:TypeId),BY P f t=true->gg P f t=true:=by
 intro f
 induction f with
 |zero=>intro t h;simp [BY] at h
 |succ f ih=>
  intro t h;unfold BY at h;unfold gg;split at h
  ·rename_i e;rw[e]
  ·rename_i e;rw[e]
  ·rename_i e;rw[e]
  ·rename_i fs e;rw[e];simp only [Bool.and_eq_true,abx] at h⊢;exact⟨h.1,λfd hfd=>ih _ (h.2 fd hfd).2⟩
  ·rename_i n e' e;rw[e];exact ih _ h
  ·cases h
def KO(em:Bool):∀(f:Nat) (t:TypeId) (a:AV) (v:Value) (N:Nat),BZ P f t a=true->VR ρ a v->f<=N->(Instr.checkKey em N t v).run P w= .ok () w:=by
 intro f
 induction f with
 |zero=>intro t a v N h;simp [BZ] at h
 |succ f ih=>
  intro t a v N h hv hN;obtain⟨N,rfl⟩:∃N',N=N'+1:=⟨N-1,by omega⟩
  unfold BZ at h;split at h
  ·rename_i e;simp [Instr.checkKey,run_underlying e]
  ·rename_i e;simp [Instr.checkKey,run_underlying e]
  ·rename_i e;simp [Instr.checkKey,run_underlying e]
  ·rename_i fs e;split at h
   ·rename_i l
    cases hv with
    |agg _ cs h1 h2=>
     have hl:=LR.of_arr h1 h2
     rw[Instr.checkKey]
     simp only [aap,run_underlying e,aau]
     rw[←Array.forIn_toList]
     have h:=List.all_eq_true.mp h
     generalize fs.toList=L at h
     induction L with
     |nil=>simp
     |cons fd L ihl=>
      have hfd:=h fd (by simp);split at hfd
      ·rename_i i d hi hd;split at hfd
       ·rename_i a ha;obtain⟨x,p1,r1⟩:=ko (w:=w) hd hi hl ha;have p2:=ih fd.type a x N hfd r1 (by omega);simp only [List.forIn_cons,aap];by_cases hn:fd.name= "_"
        ·simp only [hn,ne_eq,not_true_eq_false,if_false,aar,aau];exact ihl λy hy=>h y (by simp [hy])
        ·simp only [hn,ne_eq,not_false_eq_true,if_true,aap,p1,p2,aau,aar];exact ihl λy hy=>h y (by simp [hy])
       ·cases hfd
      ·cases hfd
   ·cases h
  ·rename_i n e' e;split at h
   ·rename_i l i d hi hd
    simp only [Bool.and_eq_true,Bool.not_eq_true',abx] at h
    obtain⟨⟨⟨w8,hna⟩,hln⟩,ac9⟩:=h
    have w8:=aN w8
    have hln:=aN hln
    cases hv with
    |agg _ cs h1 h2=>
     have hl:=LR.of_arr h1 h2
     rw[Instr.checkKey]
     simp only [aap,run_underlying e,aau]
     simp only [Std.Legacy.Range.forIn_eq_forIn_range',Std.Legacy.Range.size,abB,Nat.add_one_sub_one,Nat.div_one]
     have each:∀j∈List.range' 0 n,∃x,(part e' cs (j * 1)).run P w= .ok x w/\(Instr.checkKey em N e' x).run P w= .ok () w:=λj hj=>by
      have hjn:j<l.length:=by have:=List.mem_range'.1 hj;obtain⟨i,hi,e⟩:=this;omega
      obtain⟨x,hx,hr⟩:=hl.get (aaw hjn);have w9:cs[j]? =some x:=by simpa using hx
      refine⟨x, ?_,ih e' l[j] x N (ac9 _ (abr _)) hr (by omega)⟩;simp only [aaU,part,aap,cx hd,hna,aau,Bool.false_eq_true,if_false,w9,aar]
     generalize List.range' 0 n=is at each
     induction is with
     |nil=>simp
     |cons j is ihl=>obtain⟨x,p1,p2⟩:=each j (by simp);simp only [List.forIn_cons,aap,aA hi,w8,aau,p1,p2,aar];exact ihl λy hy=>each y (by simp [hy])
   ·cases h
  ·cases h
def FR(ρ:Rho)(es:List ME)(ess:List MapEntry):Option (Nat×AV)->Option (Nat×Value)->Prop
 |none,none=>True
 |some (i,a),some (j,v)=>i=j/\VR ρ a v/\∃k n,es[i]? =some (.mk k a n)
 |_,_=>False
def rz{d:TypeDesc}{x y:AV}{v u:Value}{r:Bool}{f:Nat}(hd:d= .bool∨(∃j,d= .int j)∨d= .string)(hx:VR ρ x v)(hy:VR ρ y u)(h:fF P (f+1) d x y=some r):Instr.sameNow d v u=some r:=by
 rcases hd with rfl|⟨j,rfl⟩|rfl
 ·cases x <;> first|(simp [fF] at h;done)|skip
  cases y <;> first|(simp [fF] at h;done)|skip
  cases hx;cases hy;injection h with h;subst h;rfl
 ·cases x <;> first|(simp [fF] at h;done)|skip
  cases y <;> first|(simp [fF] at h;done)|skip
  cases hx;cases hy;rename_i k1 a k2 b;exact(show(if k1=k2 then some (a==b) else none)=some r from h)
 ·cases x <;> first|(simp [fF] at h;done)|skip
  cases y <;> first|(simp [fF] at h;done)|skip
  cases hx;cases hy;injection h with h;subst h;rw[iB, ←beq_toListBytes];rfl
def FR.cons{es:List ME}{ess:List MapEntry}{x:ME}{e:MapEntry}{r:Option (Nat×AV)}{r':Option (Nat×Value)}{i:Nat}(h:FR ρ es ess (r.map λp=>(p.1-(i+1),p.2)) (r'.map λp=>(p.1-(i+1),p.2)))(hr:∀p,r=some p->i+1<=p.1)(hr':∀p,r'=some p->i+1<=p.1):
 FR ρ (x::es) (e::ess) (r.map λp=>(p.1-i,p.2)) (r'.map λp=>(p.1-i,p.2)):=by
 cases r with
 |none=>cases r' with
  |none=>trivial
  |some p'=>exact h.elim
 |some p=>
  cases r' with
  |none=>exact h.elim
  |some p'=>
   obtain⟨h1,h2,k,n,h3⟩:=h
   have a:=hr p rfl
   have b:=hr' p' rfl
   refine⟨by show p.1-i=p'.1-i;omega,h2,k,n, ?_⟩
   show(x::es)[p.1-i]? =_
   rw[show p.1-i=(p.1-(i+1))+1 by omega]
   simpa using h3
def zh{q:AV->AV->Option Bool}{key:AV}:∀(es:List ME) (i:Nat) (r:Option (Nat×AV)),gG q key es i=some r->∀p,r=some p->i<=p.1:=by
 intro es
 induction es with
 |nil=>intro i r h p hp;simp only [gG] at h;injection h with h;subst h;cases hp
 |cons x es ih=>
  intro i r h p hp
  cases x with
  |mk k v n=>
   simp only [gG] at h;split at h
   ·injection h with h;subst h;injection hp with hp;subst hp;exact aao _
   ·have:=ih _ _ h p hp;omega
   ·cases h
def zi{d:TypeDesc}{f:Nat}(hd:d= .bool∨(∃j,d= .int j)∨d= .string){key:AV}{kv:Value}(hk:VR ρ key kv):∀(es:List ME) (ess:List MapEntry) (i:Nat) (r:Option (Nat×AV)),MR ρ es ess->gG (fF P (f+1) d) key es i=some r->
 ∃r',Instr.findNow d kv ess i=some r'/\(∀p,r'=some p->i<=p.1)/\FR ρ es ess (r.map λp=>(p.1-i,p.2)) (r'.map λp=>(p.1-i,p.2)):=by
 intro es
 induction es with
 |nil=>intro ess i r hm h;simp only [gG] at h;injection h with h;subst h;rw[hm.nil_inv];exact⟨none,rfl,λp hp=>(by cases hp),trivial⟩
 |cons x es ih=>
  intro ess i r hm h
  cases x with
  |mk k v n=>
   obtain⟨e,ac1,rfl,h1,h2,h3,h4⟩:=hm.cons_inv
   simp only [gG] at h
   split at h
   ·rename_i hq;injection h with h;subst h;refine⟨some (i,e.val),by simp [Instr.findNow,rz hd hk h1 hq],λp hp=>by injection hp with hp;subst hp;exact aao _, ?_⟩;exact⟨rfl,h2,k,n,by simp⟩
   ·rename_i hq;obtain⟨r',q1,q2,q3⟩:=ih ac1 (i+1) r h4 h;refine⟨r',by simp [Instr.findNow,rz hd hk h1 hq,q1],λp hp=>by have:=q2 p hp;omega, ?_⟩;exact FR.cons q3 (λp hp=>zh _ _ _ h p hp) q2
   ·cases h
def rA{kt:TypeId}{d:TypeDesc}(hu:P.underlying kt=some d)(hc:cw d=true->gg P 8 kt=true){key:AV}{kv:Value}(hk:VR ρ key kv):∀(es:List ME) (ess:List MapEntry) (i:Nat) (r:Option (Nat×AV)),MR ρ es ess->gG (fF P 16 d) key es i=some r->
 ∃r',(Instr.findAsking kt kv ess i).run P w= .ok r' w/\(∀p,r'=some p->i<=p.1)/\FR ρ es ess (r.map λp=>(p.1-i,p.2)) (r'.map λp=>(p.1-i,p.2)):=by
 intro es
 induction es with
 |nil=>intro ess i r hm h;simp only [gG] at h;injection h with h;subst h;rw[hm.nil_inv];exact⟨none,rfl,λp hp=>(by cases hp),trivial⟩
 |cons x es ih=>
  intro ess i r hm h
  cases x with
  |mk k v n=>
   obtain⟨e,ac1,rfl,h1,h2,h3,h4⟩:=hm.cons_inv
   simp only [gG] at h
   split at h
   ·rename_i hq;injection h with h;subst h;have:=mU (P:=P) (w:=w) 16 8 kt d key k kv e.key true Op.maxDepth hu hc hk h1 hq (by decide);refine⟨some (i,e.val),by simp [Instr.findAsking,Op.equal,this],λp hp=>by injection hp with hp;subst hp;exact aao _, ?_⟩;exact⟨rfl,h2,k,n,by simp⟩
   ·rename_i hq;have:=mU (P:=P) (w:=w) 16 8 kt d key k kv e.key false Op.maxDepth hu hc hk h1 hq (by decide);obtain⟨r',q1,q2,q3⟩:=ih ac1 (i+1) r h4 h;refine⟨r',by simp [Instr.findAsking,Op.equal,this,q1],λp hp=>by have:=q2 p hp;omega, ?_⟩;exact FR.cons q3 (λp hp=>zh _ _ _ h p hp) q2
   ·cases h
def KP{kt:TypeId}{d:TypeDesc}{ag1 key:AV}{kv:Value}{es:List ME}{ess:List MapEntry}{r:Option (Nat×AV)}(hkd:BY P 8 kt=true)(hka:BZ P 8 kt ag1=true)(hu:P.underlying kt=some d)(hk0:VR ρ ag1 kv)(hk:VR ρ key kv)(hm:MR ρ es ess)(hr:gG (fF P 16 d) key es 0=some r):
 ∃r',FR ρ es ess r r'/\(Instr.findKey kt kv ess).run P w= .ok r' w/\∀em,(Instr.checkKey em 10000 kt kv).run P w= .ok () w:=by
 have id0:∀{α:Type} (r:Option (Nat×α)),(r.map λp=>(p.1-0,p.2))=r:=λr=>by cases r <;> rfl
 have z':=λem=>KO (w:=w) em 8 kt ag1 kv 10000 hka hk0 (by decide)
 by_cases hd:d= .bool∨(∃j,d= .int j)∨d= .string
 ·obtain⟨r',q1,_,q3⟩:=zi hd hk es ess 0 r hm hr;rw[id0,id0] at q3;refine⟨r',q3, ?_,z'⟩;simp [Instr.findKey,run_underlying hu,q1]
 ·obtain⟨r',q1,_,q3⟩:=rA (w:=w) hu (λ_=>HO 8 kt hkd) hk es ess 0 r hm hr
  rw[id0,id0] at q3
  refine⟨r',q3, ?_,z'⟩
  have ap9:∀e o7,Instr.findNow d kv (e::o7) 0=none:=λe o7=>by
   have:Instr.sameNow d kv e.key=none:=by
    unfold Instr.sameNow;split
    ·exact absurd (.inr (.inl ⟨_,rfl⟩)) hd
    ·exact absurd (.inr (.inr rfl)) hd
    ·exact absurd (.inl rfl) hd
    ·rfl
   simp [Instr.findNow,this]
  cases ess with
  |nil=>
   have:r'=none:=by have:Result.ok none w=Result.ok r' w:=q1;injection this with e;exact e.symm
   subst this;simp [Instr.findKey,run_underlying hu,Instr.findNow]
  |cons e o7=>simp [Instr.findKey,run_underlying hu,ap9,q1]
def cQ:List IntKind->List Int->List AV
 |k::ks,n::ns=>.int k n::cQ ks ns
 |_,_=>[]
def rB:∀{ks:List IntKind} {xs:List AV} {ns:List Int},dA ks xs=some ns->xs.map ul=cQ ks ns/\ns.length=ks.length
 | [],xs,ns,h=>by obtain⟨rfl,rfl⟩:=fW h;exact⟨rfl,rfl⟩
 |j::ks,xs,ns,h=>by obtain⟨a,as,n,m,rfl,rfl,ha,h'⟩:=eQ h;obtain⟨q1,q2⟩:=rB h';exact⟨by simp [cQ,ha,q1],by simp [q2]⟩
def rC:∀{ks:List IntKind} {ns:List Int},ns.length=ks.length->dA ks (cQ ks ns)=some ns/\(cQ ks ns).map ul=cQ ks ns
 | [],[],_=>⟨rfl,rfl⟩
 |j::ks,n::ns,h=>by obtain⟨q1,q2⟩:=rC (ks:=ks) (ns:=ns) (by simpa using h);refine⟨?_,by simp [cQ,ul,q2]⟩;simp [cQ,dA,co,q1,ar]
 | [],_::_,h=>by simp at h
 |_::_,[],h=>by simp at h
def HP:∀(n:Nat) (g:G) (j:Nat),(dz n g j).length=n:=by
 intro n
 induction n with
 |zero=>intro g j;rfl
 |succ n ih=>intro g j;simp [dz,ih]
def HQ:∀(ks:List IntKind) (g:G) (j:Nat),(lU ks g j).map ul=cQ ks (dz ks.length g j):=by
 intro ks
 induction ks with
 |nil=>intro g j;rfl
 |cons k ks ih=>intro g j;simp [lU,dz,cQ,ul,ih]
def Qc{pre gs:List G}{j:Nat}:aa (.node (pre++gs)) (pre.length+j)=aa (.node gs) j:=by show(pre++gs).getD (pre.length+j) (.int 0)=gs.getD j (.int 0);simp only [aas];rw[aaJ (by omega)];congr 2;omega
def HR:∀(ns pre vs:List Int) (gs:List G),dz ns.length (.node ((pre++ns).map G.int++gs)) pre.length=ns:=by
 intro ns
 induction ns with
 |nil=>intro pre vs gs;rfl
 |cons n ns ih=>intro pre vs gs;have h1:=ih (pre++ [n]) vs gs;simp only [aaK,List.singleton_append,aav,aaQ] at h1;simp only [aaI,dz];rw[h1];congr 1;show gI (((pre++n::ns).map G.int++gs).getD pre.length (.int 0))=n;simp [aas,gI]
def oF{ks:Nat}{ns:List Int}{gs:List G}(h:ns.length=ks):dz ks (.node (ns.map G.int++gs)) 0=ns:=by subst h;exact HR ns [] [] gs
def jl(m:Nat)(ns:List Int):AV:=U9 (bI m).ka (cQ (bI m).ks ns)
def Qd{m:Nat}{ix:AV}{u:Value}{ns:List Int}(h:Vf m ix=some ns)(hx:VR ρ ix u):VR ρ (jl m ns) u/\ns.length=(bI m).ks.length:=by
 unfold Vf at h;unfold jl;split at h
 ·rename_i xs hka
  rw[hka]
  obtain⟨q1,q2⟩:=rB h
  refine⟨?_,q2⟩
  cases hx with
  |agg _ cs h1 h2=>have:=ws (LR.of_arr h1 h2);rw[q1] at this;obtain⟨r1,r2⟩:=this.arr;exact .agg _ _ r1 r2
 ·cases h
 ·rename_i hka;rw[hka];obtain⟨q1,q2⟩:=rB h;refine⟨?_,q2⟩;rw[←q1];exact B6 hx
def zj{m:Nat}{g:G}{u:Value}(hx:VR ρ (mJ m g) u):VR ρ (jl m (dz (bI m).ks.length g 0)) u:=by
 unfold mJ at hx
 unfold jl
 have e:=HQ (bI m).ks g 0
 rw[←e]
 cases hka:(bI m).ka with
 |true=>
  rw[hka] at hx
  cases hx with
  |agg _ cs h1 h2=>obtain⟨r1,r2⟩:=(ws (LR.of_arr h1 h2)).arr;exact .agg _ _ r1 r2
 |false=>
  rw[hka] at hx
  cases hl:lU (bI m).ks g 0 with
  |nil=>rw[hl] at hx;exact hx
  |cons a l=>rw[hl] at hx;exact B6 hx
def Qe{m:Nat}{d:TypeDesc}{a b:List Int}(hd:Ht P m d=true)(ha:a.length=(bI m).ks.length)(hb:b.length=(bI m).ks.length):fF P 16 d (jl m a) (jl m b)=some (decide (a=b)):=by
 unfold Ht at hd;unfold jl;obtain⟨a1,a2⟩:=rC ha;obtain⟨b1,b2⟩:=rC hb;split at hd
 ·rename_i hka;rw[hka];split at hd
  ·rename_i ks hk;have hd:=of_decide_eq_true hd;subst hd;have:=yL (f:=14) hk a1 b1;rw[a2,b2] at this;exact this
  ·cases hd
 ·rename_i hka;rw[hka];split at hd
  ·rename_i j
   have hd:=of_decide_eq_true hd
   rw[hd] at ha hb⊢
   match a,b,ha,hb with
   | [x],[y],_,_=>show fF P 16 (.int j) (.int j x) (.int j y)=_;simp [fF];by_cases h:x=y <;> simp [h]
  ·cases hd
def HS{m:Nat}{ns:List Int}:dt 8 (U9 true (cQ (bI m).ks ns)) (U9 true (cQ (bI m).ks ns))=true:=by
 have:∀(ks:List IntKind) (ns:List Int),dt.sameAll (dt 7) (cQ ks ns) (cQ ks ns)=true:=by
  intro ks
  induction ks with
  |nil=>intro ns;cases ns <;> rfl
  |cons k ks ih=>
   intro ns
   cases ns with
   |nil=>rfl
   |cons n ns=>show ac (dt 7 (.int k n) (.int k n)) (dt.sameAll (dt 7) (cQ ks ns) (cQ ks ns)) false=true;rw[ih];simp [dt,ar]
 exact this _ _
def HT{m:Nat}{d:TypeDesc}{ns:List Int}(hd:Ht P m d=true)(ha:ns.length=(bI m).ks.length):dt 8 (jl m ns) (jl m ns)=true:=by
 unfold Ht at hd;unfold jl;split at hd
 ·rename_i hka;rw[hka];exact HS
 ·rename_i hka;rw[hka];split at hd
  ·rename_i j
   have hd:=of_decide_eq_true hd
   rw[hd] at ha⊢
   match ns,ha with
   | [x],_=>show dt 8 (.int j x) (.int j x)=true;simp [dt,ar]
  ·cases hd
def X5(m:Nat):List G->List MapEntry->List ME
 |g::l,e::es=>.mk (jl m (dz (bI m).ks.length g 0)) (jE m g) e.born::X5 m l es
 |_,_=>[]
def KQ{m:Nat}:∀(l:List G) (ess:List MapEntry),ess.length=l.length->(∀(i:Nat) (g:G) (e:MapEntry),l[i]? =some g->ess[i]? =some e->VR ρ (mJ m g) e.key/\VR ρ (jE m g) e.val)->MR ρ (X5 m l ess) ess
 | [],[],_,_=>MR.nil ρ
 |g::l,e::es,h,hr=>by obtain⟨q1,q2⟩:=hr 0 g e rfl rfl;exact MR.cons (zj q1) q2 rfl (KQ l es (by simpa using h) λi g' e' h1 h2=>hr (i+1) g' e' (by simpa using h1) (by simpa using h2))
 | [],_::_,h,_=>by simp at h
 |_::_,[],h,_=>by simp at h
def zk{m:Nat}{d:TypeDesc}{ns:List Int}(hd:Ht P m d=true)(hn:ns.length=(bI m).ks.length):∀(l:List G) (ess:List MapEntry) (i:Nat),ess.length=l.length->
 gG (fF P 16 d) (jl m ns) (X5 m l ess) i=some (if cF m l ns<l.length then some (i+cF m l ns,jE m (eM m l ns)) else none)
 | [],[],i,_=>by simp [X5,gG]
 |g::l,e::es,i,h=>by
  have ih:=zk hd hn l es (i+1) (by simpa using h);have he:=Qe hd hn (HP (bI m).ks.length g 0);simp only [X5,gG,he];by_cases hg:dz (bI m).ks.length g 0=ns
  ·have hk:cF m (g::l) ns=0:=by simp [cF,List.findIdx_cons,hg]
   have hk2:eM m (g::l) ns=g:=by simp [eM,hk,aq]
   simp [hk,hk2,hg]
  ·have hk:cF m (g::l) ns=cF m l ns+1:=by simp [cF,List.findIdx_cons,hg]
   have hk2:eM m (g::l) ns=eM m l ns:=by simp [eM,hk,aq]
   rw[show decide (ns=dz (bI m).ks.length g 0)=false by simp [Ne.symm hg]];simp only [ih,hk,hk2,aaI,Nat.add_lt_add_iff_right];split
   ·congr 3;omega
   ·rfl
 | [],_::_,i,h=>by simp at h
 |_::_,[],i,h=>by simp at h
def zm{x:AV}{v:Value}{k1:Nat->Nat->List G->Tr}{k0:Tr}(hS:SI σ)(hG:Good w0 ρ σ.h w)(hx:VR ρ x v)(h:run (J7 x k1 k0) σ K=true):
 (∃a8,run k0 a8 K=true/\SI a8/\a8.h=σ.h)∨∃(b m:Nat) (l:List G) (hm:Home) (ess:List MapEntry) (clock:Nat) (a8:St),run (k1 b m l) a8 K=true/\SI a8/\a8.h=σ.h/\v= .map (some hm.blk)/\ρ.at_ b 0=some hm/\Own ρ w0.heap.size hm.blk/\w.heap[hm.blk]? =some (.map ess.toArray clock)/\ess.length=l.length/\
  (∀(i:Nat) (g:G) (e:MapEntry),l[i]? =some g->ess[i]? =some e->VR ρ (mJ m g) e.key/\VR ρ (jE m g) e.val)/\a8.h.get b=some (.smap m l):=by
 cases hx with
 |map b hm hh=>
  obtain⟨q,b6,hq,e1,a9,h⟩:=bG hS h
  cases q with
  |smap m l=>
   obtain⟨t9,f7,hB,o7,clock,d9,p8,I'⟩:=hG.blk _ _ hq
   rw[hh] at f7;injection f7 with f7;subst f7
   exact .inr ⟨b,m,l,hm,o7.toList,clock,b6,h,a9,e1,rfl,hh,hB,by simpa using d9,by simpa using p8,λi g e h1 h2=>I' i g e h1 (by simpa using h2),by rw[e1];exact hq⟩
  |_=>exact .inl ⟨b6,h,a9,e1⟩
 |_=>exact .inl ⟨σ,h,hS,rfl⟩
def zn{m:Nat}{kt:TypeId}{ix:AV}{u:Value}{kk:List Int->Tr}{l:List G}{ess:List MapEntry}(hix:VR ρ ix u)(hlen:ess.length=l.length)(I':∀(i:Nat) (g:G) (e:MapEntry),l[i]? =some g->ess[i]? =some e->VR ρ (mJ m g) e.key/\VR ρ (jE m g) e.val)(h:run (J8 P m kt ix kk) σ K=true):
 ∃ns r',run (kk ns) σ K=true/\ns.length=(bI m).ks.length/\VR ρ (jl m ns) u/\dt 8 (jl m ns) (jl m ns)=true/\FR ρ (X5 m l ess) ess (if cF m l ns<l.length then some (cF m l ns,jE m (eM m l ns)) else none) r'/\
  (Instr.findKey kt u ess).run P w= .ok r' w/\∀em,(Instr.checkKey em 10000 kt u).run P w= .ok () w:=by
 obtain⟨hkd,z1⟩:=ay h
 obtain⟨hka,z2⟩:=ay z1
 obtain⟨d,hu,z3⟩:=cG z2
 obtain⟨hd,z4⟩:=ay z3
 obtain⟨ns,hns,z5⟩:=cb z4
 obtain⟨q1,q2⟩:=Qd hns hix
 have hf:=zk hd q2 l ess 0 hlen
 obtain⟨r',f1,f2,f3⟩:=KP (w:=w) hkd hka hu hix q1 (KQ l ess hlen I') hf
 exact⟨ns,r',z5,q2,q1,HT hd q2,by simpa using f1,f2,f3⟩
def zo{t:TypeId}{x ix:AV}{v u:Value}{ok:Bool}(hS:SI σ)(hG:Good w0 ρ σ.h w)(hx:VR ρ x v)(hy:VR ρ ix u)(h:run (yD P t x ix ok k) σ K=true):Res P w0 ρ w k K (Instr.lookup t v u ok):=(ah h).elim
def Cj{t:TypeId}{x ix:AV}{v u:Value}{ok:Bool}(hS:SI σ)(hG:Good w0 ρ σ.h w)(hx:VR ρ x v)(hy:VR ρ ix u)(h:run (Ea P t x ix ok k) σ K=true):Res P w0 ρ w k K (Instr.lookup t v u ok):=by
 rcases zm hS hG hx h with⟨b6,z,a9,e1⟩|⟨b,m,l,hm,ess,clock,b6,z,a9,e1,rfl,hh,hB,d9,hlen,I',hq⟩
 ·exact zo a9 (by rw[e1];exact hG) hx hy z
 ·have b7:Good w0 ρ b6.h w:=by rw[e1];exact hG
  obtain⟨d,hu,z1⟩:=cG z
  cases d with
  |map kt e=>
   obtain⟨ns,r',z2,hn,hk,_,hfr,ad3,z'⟩:=zn (w:=w) hy hlen I' z1;have tup:∀{a:AV} {c:Value} (b:Bool),VR ρ a c->VR ρ (.tup [a,.bool b]) (.tuple #[c,.bool b]):=λb hr=>
    .tup _ _ rfl λi a' v' ha hv=>by
     rcases i with _|_|i
     ·simp at ha hv;subst ha;subst hv;exact hr
     ·simp at ha hv;subst ha;subst hv;exact .bool _
     ·simp at ha
   have hlk:(Instr.lookup t (.map (some hm.blk)) u ok).run P w=(do
    let(c,o) ←match r' with
     |some (_,c)=>pure (c,true)
     |none=>pure (←zeroValue e,false)
    pure (if ok then Value.tuple #[c,.bool o] else c):Sem Value).run P w:=by
    simp [Instr.lookup,run_underlying hu,z',ad3,bv d9 (by simp)]
    rfl
   refine Res.of_eq ?_ hlk;rcases du z2 with⟨n8,z3⟩|⟨n8,z3⟩
   ·have n8:cF m l ns<l.length:=n8
    rw[if_pos n8] at hfr
    cases r' with
    |none=>exact hfr.elim
    |some p'=>
     obtain⟨j,c⟩:=p';obtain⟨_,hr,_⟩:=hfr;rcases bU z3 with⟨hb,z4⟩|⟨hb,z4⟩
     ·exact .plain z4 a9 b7 (tup true hr) (by simp [hb])
     ·exact .plain z4 a9 b7 hr (by simp [hb])
   ·have n8:¬cF m l ns<l.length:=n8
    rw[if_neg n8] at hfr
    cases r' with
    |some p=>exact hfr.elim
    |none=>
     obtain⟨z,zv,i,_,hz,hzr,z4⟩:=yO ρ w z3;rcases bU z4 with⟨hb,z5⟩|⟨hb,z5⟩
     ·exact .plain z5 a9 b7 (tup false hzr) (by simp [hz,hb])
     ·exact .plain z5 a9 b7 hzr (by simp [hz,hb])
  |_=>exact(ah z1).elim
def zp:∀(f:Nat) (x y:AV) (v u:Value) (N:Nat),dt f x y=true->VR ρ x v->VR ρ y u->f<=N->Instr.sameBits N v u=true:=by
 intro f
 induction f with
 |zero=>intro x y v u N h;simp [dt] at h
 |succ f ih=>
  intro x y v u N h hx hy hN;obtain⟨N,rfl⟩:∃N',N=N'+1:=⟨N-1,by omega⟩
  unfold dt at h;split at h
  ·cases hx;cases hy;simpa [Instr.sameBits] using h
  ·rename_i j a j' b;cases hx;cases hy;obtain⟨h1,h2⟩:=aC h;simp at h1 h2;simp [Instr.sameBits,h1,h2]
  ·cases hx;cases hy;rw[iB, ←beq_toListBytes] at h;simpa [Instr.sameBits] using h
  ·rename_i a b
   cases hx with
   |agg _ cs h1 h2=>
    cases hy with
    |agg _ ds k1 k2=>
     have lx:=LR.of_arr h1 h2;have ly:=LR.of_arr k1 k2;have key:∀(a b:List AV) (vs us:List Value),LR ρ a vs->LR ρ b us->dt.sameAll (dt f) a b=true->vs.length=us.length/\((vs.zip us).all λ(x,y)=>Instr.sameBits N x y)=true:=by
      intro a
      induction a with
      |nil=>
       intro b vs us la lb h
       cases b with
       |nil=>rw[la.nil_inv,lb.nil_inv];exact⟨rfl,rfl⟩
       |cons _ _=>simp [dt.sameAll] at h
      |cons x a iha=>
       intro b vs us la lb h
       cases b with
       |nil=>simp [dt.sameAll] at h
       |cons y b=>obtain⟨v1,m7,rfl,r1,la'⟩:=la.cons_inv;obtain⟨u1,us',rfl,r2,lb'⟩:=lb.cons_inv;have h:ac (dt f x y) (dt.sameAll (dt f) a b) false=true:=h;obtain⟨g1,g2⟩:=aC h;obtain⟨q1,q2⟩:=iha b m7 us' la' lb' g2;refine⟨by simp [q1], ?_⟩;rw[List.zip_cons_cons,List.all_cons,Bool.and_eq_true];exact⟨ih x y v1 u1 N g1 r1 r2 (by omega),q2⟩
     obtain⟨q1,q2⟩:=key a b cs.toList ds.toList lx ly h;simp only [Instr.sameBits,Bool.and_eq_true];exact⟨by simpa using q1,q2⟩
  ·cases h
def Good.setObjM{H:T ABlk}{b:Nat}{x0 x:ABlk}{h:Home}{o o':Obj}(hG:Good w0 ρ H w)(hb:H.get b=some x0)(c7:b+1<2 ^ 64)(hh:ρ.at_ b 0=some h)(hB:Own ρ w0.heap.size h.blk)(hw:w.heap[h.blk]? =some o)(hx:BR ρ w0.heap.size {w with heap:=w.heap.setIfInBounds h.blk o'} b x)(hgx:∀g,JH g x:=by intro g;trivial)(hnf:¬yu x0)(hxo:∀k I l,x≠ .obj k I l:=by intro _ _ _ h;cases h):Good w0 ρ (H.set b x) {w with heap:=w.heap.setIfInBounds h.blk o'}:=by
 refine hG.turn (hnf:=hnf) (hxo:=hxo) (hrs:=⟨b,0,h,hh,rfl⟩) hb c7 h.blk hB ⟨rfl,rfl,rfl,by simp,λk hk ho=>?_⟩ (by simp) (λk hk _=>?_) (λb' g h' f7 e=>(hG.inj _ _ _ _ _ _ f7 hh e).1) hx (λg _=>hgx g)
 ·show(w.heap.setIfInBounds h.blk o')[k]? =_;rw[aaX,if_neg (λe=>by rcases hB with hB|hB;omega;exact ho (e▸hB))]
 ·show(w.heap.setIfInBounds h.blk o')[k]? =_;rw[aaX,if_neg (λe=>hk e.symm)]
def rD{t:TypeId}{x ix y:AV}{v u z:Value}{kk:Tr}(hS:SI σ)(hG:Good w0 ρ σ.h w)(hx:VR ρ x v)(hix:VR ρ ix u)(hy:VR ρ y z)(h:run (px P t x ix y kk) σ K=true):Hu P w0 ρ w kk K (Instr.mapUpdate t v u z):=(ah h).elim
def KR{m:Nat}{ns:List Int}{vs:List G}{u:Value}(hn:ns.length=(bI m).ks.length)(hk:VR ρ (jl m ns) u):VR ρ (mJ m (.node (ns.map G.int++vs))) u:=by
 have reI:∀(ks:List IntKind) (g:G) (j:Nat) (us:List Value),LR ρ (cQ ks (dz ks.length g j)) us->LR ρ (lU ks g j) us:=by
  intro ks
  induction ks with
  |nil=>intro g j us h;exact h
  |cons k ks ih=>intro g j us h;obtain⟨v,us',rfl,hv,h'⟩:=h.cons_inv;refine LR.cons ?_ (ih _ _ _ h');cases hv;exact .sI _ _
 have e:=oF (gs:=vs) hn
 unfold mJ
 unfold jl at hk
 rw[←e] at hk
 cases hka:(bI m).ka with
 |true=>
  rw[hka] at hk
  cases hk with
  |agg _ cs h1 h2=>obtain⟨r1,r2⟩:=(reI _ _ _ _ (LR.of_arr h1 h2)).arr;exact .agg _ _ r1 r2
 |false=>
  rw[hka] at hk
  cases hks:(bI m).ks with
  |nil=>rw[hks] at hk;exact hk
  |cons k ks=>rw[hks] at hk;have hk:VR ρ (.int k _) u:=hk;cases hk;exact .sI _ _
def KS{m:Nat}{ns:List Int}{vs:List G}{y:AV}{z:Value}(hn:ns.length=(bI m).ks.length)(h:Vg m y=some vs)(hy:VR ρ y z):VR ρ (jE m (.node (ns.map G.int++vs))) z:=by
 unfold jE
 have hk:∀(gs:List G) (i:Nat),aa (.node (ns.map G.int++gs)) ((bI m).ks.length+i)=aq gs i:=λgs i=>by have:=Qc (pre:=ns.map G.int) (gs:=gs) (j:=i);rw[aaZ,hn] at this;exact this
 unfold Vg at h
 cases hva:(bI m).va with
 |true=>
  rw[hva] at h
  cases y with
  |agg l=>
   have h:(match fP (bI m).vs l with|some (gs,[])=>some gs|_=>none)=some vs:=h;split at h
   ·rename_i gs hp
    injection h with h;subst h
    obtain⟨c1,f1,f2,f3⟩:=jg _ _ _ _ hp
    have f1:l=c1:=by simpa using f1
    subst f1
    cases hy with
    |agg _ cs h1 h2=>obtain⟨r1,r2⟩:=(f3.2 _ _ (λi _=>hk gs i) ρ _ (LR.of_arr h1 h2)).arr;exact .agg _ _ r1 r2
   ·cases h
  |_=>cases h
 |false=>
  rw[hva] at h;have h:(match fP (bI m).vs [y] with|some ([g],[])=>some [g]|_=>none)=some vs:=h;split at h
  ·rename_i g hp;injection h with h;subst h;obtain⟨c1,f1,f2,f3⟩:=jg _ _ _ _ hp;have f1: [y]=c1:=by simpa using f1
   subst f1;have:=f3.2 _ _ (λi _=>hk [g] i) ρ [z] (LR.cons hy (LR.nil ρ));obtain⟨a,ha⟩:∃a,bE (bI m).vs (.node (ns.map G.int++ [g])) (bI m).ks.length= [a]:=by
    have hl:(bE (bI m).vs (.node (ns.map G.int++ [g])) (bI m).ks.length).length=1:=by rw[←this.1];rfl
    match hd:bE (bI m).vs (.node (ns.map G.int++ [g])) (bI m).ks.length,hl with
    | [a],_=>exact⟨a,rfl⟩
   rw[ha] at this⊢;obtain⟨v,m7,e1,q,_⟩:=this.cons_inv;injection e1 with e1 _;subst e1;exact q
  ·cases h
def tK{t:TypeId}{x ix y:AV}{v u z:Value}{kk:Tr}(hS:SI σ)(hG:Good w0 ρ σ.h w)(hx:VR ρ x v)(hix:VR ρ ix u)(hy:VR ρ y z)(h:run (qZ P t x ix y kk) σ K=true):Hu P w0 ρ w kk K (Instr.mapUpdate t v u z):=by
 rcases zm hS hG hx h with⟨b6,z0,a9,e1⟩|⟨b,m,l,hm,ess,clock,b6,z0,a9,e1,rfl,hh,hB,d9,hlen,I',hq⟩
 ·exact rD a9 (by rw[e1];exact hG) hx hix hy z0
 have b7:Good w0 ρ b6.h w:=by rw[e1];exact hG
 obtain⟨d,hu,z1⟩:=cG z0
 cases d with
 |map kt e=>
  obtain⟨ns,r',z2,hn,hk,am9,hfr,ad3,z'⟩:=zn (w:=w) hix hlen I' z1;obtain⟨vs,o6,z3⟩:=cb z2;obtain⟨x0,c9,hx0,e2,d6,c7,z4⟩:=fo a9 z3;have c8:hm.blk<w.heap.size:=(hG.dom _ _ _ hh).1;have k1:=KR (vs:=vs) hn hk;have k2:=KS hn o6 hy;have put:∀(ag2:List MapEntry) (c2:Nat),ag2.length=(cU m l ns vs).length->(∀(i:Nat) (g:G) (e:MapEntry),(cU m l ns vs)[i]? =some g->ag2[i]? =some e->VR ρ (mJ m g) e.key/\VR ρ (jE m g) e.val)->
   (Instr.mapUpdate t (.map (some hm.blk)) u z).run P w=(setObj hm.blk (.map ag2.toArray c2)).run P w->Hu P w0 ρ w kk K (Instr.mapUpdate t (.map (some hm.blk)) u z):=by
   intro ag2 c2 h1 h2 h3
   refine⟨c9,{w with heap:=w.heap.setIfInBounds hm.blk (.map ag2.toArray c2)},z4,d6, ?_, ?_⟩
   ·rw[e2];refine b7.setObjM (hnf:=nf rfl hq hx0 (λh=>h)) hx0 c7 hh hB d9 ⟨hm,hh,hB,ag2.toArray,c2, ?_,by simpa using h1,λi g e g1 g2=>h2 i g e g1 (by simpa using g2)⟩;show(w.heap.setIfInBounds hm.blk _)[hm.blk]? =_;rw[aaX,if_pos rfl,if_pos c8]
   ·rw[h3];simp [setObj,Sem.run,d9]
  by_cases n8:cF m l ns<l.length
  ·rw[if_pos n8] at hfr
   have ep:cU m l ns vs=l.set (cF m l ns) (.node (ns.map G.int++vs)):=by unfold cU;rw[if_pos n8]
   cases r' with
   |none=>exact hfr.elim
   |some p'=>
    obtain⟨j,cv⟩:=p';obtain⟨eij,_,ok,on,l9⟩:=hfr;have eij:cF m l ns=j:=eij;have hge:ess[j]? =some ess[j]:=aaw (by omega);have hgl:l[j]? =some l[j]:=aaw (by omega);obtain⟨o1,o2⟩:=I' j _ _ hgl hge;have hints:dz (bI m).ks.length l[j] 0=ns:=by have:=List.findIdx_getElem (p:=λg=>decide (dz (bI m).ks.length g 0=ns)) (xs:=l) (w:=n8);have:=of_decide_eq_true this;subst eij;exact this
    have okey:=zj o1;rw[hints] at okey;have hsb:=zp 8 (jl m ns) (jl m ns) (ess[j]).key u 10000 am9 okey hk (by decide);refine put (ess.set j {ess[j] with key:=u,val:=z}) clock (by rw[ep];simp [hlen]) (λi g e g1 g2=>?_) ?_
    ·rw[ep,abQ] at g1;rw[abQ] at g2;rw[eij] at g1;by_cases hji:j=i
     ·rw[if_pos hji] at g1 g2;split at g1
      ·injection g1 with g1;subst g1;split at g2
       ·injection g2 with g2;subst g2;exact⟨k1,k2⟩
       ·cases g2
      ·cases g1
     ·rw[if_neg hji] at g1 g2;exact I' i g e g1 g2
    ·have f8:ess.toArray[j]? =some ess[j]:=by simpa using hge
     have ea:(ess.toArray.modify j λe=>{e with key:=u,val:=z})=(ess.set j {ess[j] with key:=u,val:=z}).toArray:=by
      apply Array.ext';apply List.ext_getElem?;intro n;rw[aa9,Array.getElem?_modify,abR,abQ];by_cases en:j=n
      ·subst en;obtain⟨hl1,hl2⟩:=List.getElem?_eq_some_iff.1 hge;simp [hl1]
      ·simp [en]
     simp only [Instr.mapUpdate,aap,run_underlying hu,bv d9 (by simp),aau,z',abR,ad3,Instr.keyThatStays,f8,abb,Option.getD_some,hsb,if_true,aar,ea]
  ·rw[if_neg n8] at hfr
   have ep:cU m l ns vs=l++ [.node (ns.map G.int++vs)]:=by unfold cU;rw[if_neg n8]
   cases r' with
   |some p=>exact hfr.elim
   |none=>
    refine put (ess++ [⟨u,z,clock⟩]) (clock+1) (by rw[ep];simp [hlen]) (λi g e g1 g2=>?_) ?_
    ·rw[ep] at g1;by_cases hi:i<l.length
     ·rw[aaO hi] at g1;rw[aaO (by omega)] at g2;exact I' i g e g1 g2
     ·rw[aaJ (by omega)] at g1
      rw[aaJ (by omega),hlen] at g2
      match i-l.length,g1,g2 with
      |0,g1,g2=>injection g1 with g1;injection g2 with g2;subst g1;subst g2;exact⟨k1,k2⟩
      |_+1,g1,g2=>simp at g1
    ·have ea:ess.toArray.push (⟨u,z,clock⟩:MapEntry)=(ess++ [(⟨u,z,clock⟩:MapEntry)]).toArray:=by apply Array.ext';simp
     simp only [Instr.mapUpdate,aap,run_underlying hu,bv d9 (by simp),aau,z',abR,ad3,ea]
 |_=>exact(ah z1).elim
def HU{t:TypeId}{x:AV}{v:Value}(hS:SI σ)(hG:Good w0 ρ σ.h w)(hx:VR ρ x v)(h:run (J9 P t x k) σ K=true):Res P w0 ρ w k K (Instr.range t v):=by
 obtain⟨d,hu,h⟩:=cG h
 cases d with
 |map kt et=>
  cases hx with
  |map m hm hh=>
   obtain⟨q,b6,hq,e1,a9,h⟩:=bG hS h
   have b7:Good w0 ρ b6.h w:=by rw[e1];exact hG
   cases q with
   |mapo es clock=>obtain⟨t9,f7,hB,o7,d9,p8,_⟩:=hG.blk _ _ hq;rw[hh] at f7;injection f7 with f7;subst f7;obtain⟨n,a8,hn,c7,f7,l6,h⟩:=gi a9 h;obtain⟨hle,f6⟩:=b7.alloc hn c7 (.miter (some m) clock [] clock) (.mapIter (some hm.blk) clock #[] clock) 0 0 (λρ' hle j0 _=>⟨_,j0,.new hG.below.size,some hm.blk, #[],by simp,rfl,hm,hle.at_ _ _ _ hh,rfl⟩);refine⟨_,a8,_,_,_,h,l6,by rw[f7];exact f6,hle,VR.ptr n 0 0 _ (Rho.put_at _ _ _ _) (aaD _), ?_⟩;simp [Instr.range,run_underlying hu,bv d9 (by simp)]
   |_=>exact(ah h).elim
  |_=>exact(ah h).elim
 |_=>exact(ah h).elim
def HV:∀(l:List Nat) (n:Nat),wj l n=l.contains n:=by
 intro l
 induction l with
 |nil=>intro n;rfl
 |cons a l ih=>
  intro n;show ac (Nat.beq a n) true (wj l n)=_;rw[ar,ih,List.contains_cons];by_cases e:a=n
  ·subst e;simp
  ·have h1:Nat.beq a n=false:=by
    cases hb:Nat.beq a n with
    |false=>rfl
    |true=>exact absurd (aaq hb) e
   have h2:(n==a)=false:=by simpa using λh:n=a=>e h.symm
   rw[h1,h2];simp
def KT{seen:List Nat}{since:Nat}:∀(es:List ME) (ess:List MapEntry) (left:List ME),MR ρ es ess->yE seen since es=some left->
 MR ρ left (ess.filter λe=>!seen.contains e.born)/\∀e∈ess,e.born<since:=by
 intro es
 induction es with
 |nil=>intro ess left hm h;simp only [yE] at h;injection h with h;subst h;rw[hm.nil_inv];exact⟨MR.nil ρ,by simp⟩
 |cons x es ih=>
  intro ess left hm h
  cases x with
  |mk a v n=>
   obtain⟨e,ac1,rfl,h1,h2,h3,h4⟩:=hm.cons_inv
   simp only [yE] at h
   split at h
   ·rename_i c8;split at h
    ·rename_i l hl;injection h with h;obtain⟨q1,q2⟩:=ih ac1 l h4 hl;refine⟨?_,λx hx=>?_⟩
     ·rw[List.filter_cons,h3, ←HV]
      rw[ar] at h
      cases hb:wj seen n with
      |true=>rw[hb,if_pos rfl] at h;subst h;simpa using q1
      |false=>rw[hb,if_neg (by simp)] at h;subst h;exact MR.cons h1 h2 h3 q1
     ·rcases List.mem_cons.1 hx with e'|hx
      ·subst e';omega
      ·exact q2 x hx
    ·cases h
   ·cases h
def KU{x:AV}{v:Value}{isS:Bool}{ty:TypeId}(hS:SI σ)(hG:Good w0 ρ σ.h w)(hx:VR ρ x v)(h:run (TA x isS k) σ K=true):Res P w0 ρ w k K (Instr.next v isS ty):=by
 have ff:∀(ρ':Rho),VR ρ' (.tup [.bool false]) (.tuple #[.bool false]):=λρ'=>.tup _ _ rfl λi a v ha hv=>by
  cases i with
  |zero=>simp at ha hv;subst ha;subst hv;exact .bool _
  |succ i=>simp at ha
 cases hx with
 |ptr b g o hm hh ho=>
  cases g with
  |succ g=>exact(ah h).elim
  |zero=>
   cases o with
   |succ o=>exact(ah h).elim
   |zero=>
    obtain⟨q,b6,hq,e1,a9,h⟩:=bG hS h
    have b7:Good w0 ρ b6.h w:=by rw[e1];exact hG
    cases q with
    |siter s pos=>cases isS <;> exact(ah h).elim
    |miter m since seen stepped=>
     cases isS with
     |true=>cases m <;> exact(ah h).elim
     |false=>
      obtain⟨t9,f7,hB,m',ad0,d9,am_,hm2⟩:=hG.blk _ _ hq
      rw[hh] at f7;injection f7 with f7;subst f7
      cases m with
      |none=>subst hm2;exact .plain h a9 b7 (ff _) (by simp [Instr.next,bv d9 (by simp)])
      |some m=>
       obtain⟨hx,hhx,em⟩:=hm2
       subst em
       obtain⟨q2,c9,hq2,e2,d6,h⟩:=bG a9 h
       have f9:Good w0 ρ c9.h w:=by rw[e2];exact b7
       cases q2 with
       |mapo es clock=>
        obtain⟨hm3,hh3,hB3,o7,ac2,hmr⟩:=(b7.blk _ _ hq2).mapo_MR
        rw[hhx] at hh3;injection hh3 with hh3;subst hh3
        obtain⟨hss,h⟩:=ay h
        have hss:=bV hss
        obtain⟨left,an0,h⟩:=cb h
        obtain⟨hlr,ag6⟩:=KT es o7.toList left hmr an0
        rw[←am_] at hlr
        have hF:o7.filter (λe=>!ad0.contains e.born)=(o7.toList.filter λe=>!ad0.toList.contains e.born).toArray:=by apply Array.ext';simp
        generalize hL:(o7.toList.filter λe=>!ad0.toList.contains e.born)=L at hlr hF
        have ai9:∀e∈L,e.born<since:=λe he=>by rw[←hL] at he;exact ag6 e (List.mem_filter.1 he).1
        have hold:L.toArray.filter (λe=>decide (e.born<since))=L.toArray:=by apply Array.ext';rw[Array.toList_filter];exact List.filter_eq_self.2 λe he=>by simpa using ai9 e he
        have g9:L.toArray.filter (λe=>decide (e.born≥since))= #[]:=by apply Array.ext';rw[Array.toList_filter];exact List.filter_eq_nil_iff.2 λe he=>by have:=ai9 e he;simp;omega
        have hun:(!ad0.isEmpty && !o7.isEmpty && o7.all λe=>decide (e.born≥stepped))=false:=by
         cases he:o7.isEmpty with
         |true=>simp
         |false=>
          have i5:0<o7.size:=by
           rcases aa6 o7.size with e0|e0
           ·rw[Array.isEmpty_iff_size_eq_zero.2 e0] at he;cases he
           ·exact e0
          have:(o7.all λe=>decide (e.born≥stepped))=false:=by rw[Array.all_eq_false];refine⟨0,i5, ?_⟩;have:=ag6 o7[0] (by simp);simp;omega
          rw[this];simp
        have model:(Instr.next (.pointer (some ⟨hm.blk,0-hm.shift,none⟩)) false ty).run P w=
         ((do
          let i ←choose (.mapNext ((if L.toArray.isEmpty then #[none] else #[])++L.toArray.map some).size)
          match((if L.toArray.isEmpty then #[none] else #[])++L.toArray.map some)[i]? with
          |some (some e)=>
           setObj hm.blk (.mapIter (some hx.blk) since (ad0.push e.born) clock)
           pure (.tuple #[.bool true,e.key,e.val])
          |some none=>pure (.tuple #[.bool false])
          |none=>stuck "Next: no such candidate" :Sem Value)).run P w:=by
         simp only [Instr.next,Nat.zero_sub,aap,bv d9 (by simp),aau,bv ac2 (by simp),hun,Bool.false_eq_true,if_false,hF,hold,g9,Array.append_empty,aar]
         rfl
        refine Res.of_eq ?_ model
        cases left with
        |nil=>
         have:L= []:=hlr.nil_inv;subst this;by_cases hf:(Question.mapNext 1).forced=true
         ·refine⟨_,c9,ρ,.tuple #[.bool false],w,h,d6,f9,Rho.le.refl ρ,ff _, ?_⟩;simp [hf]
         ·exact absurd (by decide) hf
        |cons l0 lr=>exact(ah h).elim
       |_=>exact(ah h).elim
    |_=>exact(ah h).elim
 |_=>exact(ah h).elim
end
end Go.Sym
