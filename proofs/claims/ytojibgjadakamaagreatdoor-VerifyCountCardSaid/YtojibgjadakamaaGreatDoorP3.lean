/- Part 3: SymM, SymN, SymNa, SymO, SymP, SymQ, SymR, SymR3, SymR4, SymR5, SymS. Names and spaces are cut short by program. -/
import Derived.Laws.IdiomStrings
import Derived.Laws.BytesArg
import Derived.Laws.Sem
import Derived.Laws.RangeString
import Derived.CallsIn
import Derived.Test.YtojibgjadakamaaGreatDoorP0
import Derived.Test.YtojibgjadakamaaGreatDoorP1
import Derived.Test.YtojibgjadakamaaGreatDoorP2
set_option linter.all false
namespace Go.Sym
open Go.RowKit (Below)
section
variable{P:Program}{w0:World}{ρ:Rho}{w:World}{σ:St}{K:Fin}{k:AV->Tr}
theorem heap_setCell(w:World)(a:Addr)(v:Value)(i:Nat):(w.setCell a v).heap[i]? =if a.block=i then(w.heap[i]?).map (fun
   | .cells c elem fr=>.cells (if a.spot.isSome then c else c.setIfInBounds a.off v) elem fr
   |o=>o) else w.heap[i]? :=by
 simp only [World.setCell,abo]
 split <;> rfl
theorem Good.store{H:T ABlk}(hG:Good w0 ρ H w){b o gen lo hi fl fh tag ty:Nat}{c:T Cell}{h:Home}{a0 a:AV}{v:Value}(hb:H.get b=some (.cells c gen lo hi fl fh false ty))(d8:b+1<2 ^ 64)
  (hh:ρ.at_ b gen=some h) (hc:c.get o=some (.mk tag a0)) (ht:tag<=gen) (hv:VR ρ a v) (XQ:fB a=true) (hfz:¬(fl<=o/\o<fh)):
  h.shift<=o/\(Go.store ⟨h.blk,o-h.shift,none⟩ v).run P w= .ok () (w.setCell ⟨h.blk,o-h.shift,none⟩ v)/\
  Good w0 ρ (H.set b (.cells (c.set o (.mk gen a)) gen lo hi fl fh false ty)) (w.setCell ⟨h.blk,o-h.shift,none⟩ v):=by
 have hB:=hG.blk _ _ hb
 obtain⟨hm,q1,q2,_,arr,fr,q3,q4,q5,q6⟩:=hB.2 gen (aaa _)
 rw[hh] at q1;injection q1 with q1;subst q1
 have q2:=q2 rfl
 obtain⟨q5a,q5b⟩:=q5 rfl
 obtain⟨F',v0,r1,_⟩:=q6 o tag a0 hc ht
 have f7:o-h.shift<arr.size:=by
  rcases aaf (o-h.shift) arr.size with h'|h'
  ·exact h'
  ·rw[aaN h'] at r1;cases r1
 have i9:w.cell? ⟨h.blk,o-h.shift,none⟩=some v0:=by simp [World.cell?,q3,r1]
 have ac9:w.frozen? ⟨h.blk,o-h.shift,none⟩=false:=by
  simp only [World.frozen?,q3]
  obtain⟨f1,f2⟩:=fr
  cases hx:(decide (f1<=o-h.shift) && decide (o-h.shift<f2)) with
  |false=>rfl
  |true=>
   simp only [Bool.and_eq_true,decide_eq_true_eq] at hx
   have:=q5b (o-h.shift) (.inl (by omega)) hx.1 hx.2
   exact absurd (by omega) hfz
 refine⟨F', ?_, ?_⟩
 ·rw[run_store P w _ v .plain (il hv XQ),i9]
  simp [ac9]
 ·refine hG.turn (hrs:=⟨b,gen,h,hh,rfl⟩) hb d8 h.blk q2 (Kept.setCell (p:=⟨h.blk,o-h.shift,none⟩) q2 v) (by simp [World.setCell]) (fun k hk _=>?_) (fun b' g' h' i4 e'=>(hG.inj _ _ _ _ _ _ i4 hh e').1) ⟨fun o' x hx=>?_,fun g' YA=>?_⟩
  ·rw[heap_setCell,if_neg (fun e=>hk e.symm)]
  ·by_cases eo:o'=o
   ·subst eo
    have:=T.get_set_some _ _ hx
    rw[this]
    exact⟨(hB.1 _ _ hc).1,(hB.1 _ _ hc).2.1,aaa _⟩
   ·rw[T.get_set_ne _ eo] at hx;exact hB.1 _ _ hx
  ·obtain⟨x8,s1,s2,s2',m7,fr',s3,s4,s5,s6⟩:=hB.2 g' YA
   by_cases eb:x8.blk=h.blk
   ·obtain⟨_,ehm⟩:=hG.inj _ _ _ _ _ _ s1 hh eb
    subst ehm
    rw[q3] at s3;injection s3 with s3;injection s3 with s3a s3b s3c
    subst s3a;subst s3c
    refine⟨_,s1,s2,s2',arr.setIfInBounds (o-x8.shift) v,fr, ?_,by simpa using s4,s5,fun o' Yz a' ZI ht'=>?_⟩
    ·rw[heap_setCell,if_pos rfl,q3];rfl
    ·by_cases eo:o'=o
     ·subst eo
      have:=T.get_set_some _ _ ZI
      injection this with e1 e2
      subst e2
      exact⟨F',v,by rw[aaC];simp [f7],hv⟩
     ·rw[T.get_set_ne _ eo] at ZI
      obtain⟨u1,v',u2,u3⟩:=s6 o' Yz a' ZI ht'
      exact⟨u1,v',by rw[aaC,if_neg (by omega)];exact u2,u3⟩
   ·refine⟨x8,s1,s2,s2',m7,fr', ?_,s4,s5,fun o' Yz a' ZI ht'=>?_⟩
    ·rw[heap_setCell,if_neg (fun e=>eb e.symm)];exact s3
    ·by_cases eo:o'=o
     ·subst eo
      have:=T.get_set_some _ _ ZI
      injection this with e1 e2
      have:g'=gen:=by omega
      subst this
      rw[hh] at s1;injection s1 with s1;subst s1
      exact absurd rfl eb
     ·rw[T.get_set_ne _ eo] at ZI
      exact s6 o' Yz a' ZI ht'
theorem Wv{b gen lo hi fl fh o0 ty:Nat}{h:Home}(d8:b+1<2 ^ 64)(hh:ρ.at_ b gen=some h)(ho0:h.shift<=o0):∀(l:List AV) (vs:List Value) (i:Nat) (c:T Cell) (w:World) (H:T ABlk) (k:T Cell->Tr),
  Good w0 ρ H w->H.get b=some (.cells c gen lo hi fl fh false ty)->LR ρ l vs->run (Ry gen fl fh l (o0+i) c k) σ K=true->
  ∃c' w',run (k c') σ K=true/\(storeCells ⟨h.blk,o0-h.shift,none⟩ vs i).run P w= .ok () w'/\Good w0 ρ (H.set b (.cells c' gen lo hi fl fh false ty)) w':=by
 intro l
 induction l with
 |nil=>
  intro vs i c w H k hG hb hl hr
  rw[hl.nil_inv]
  exact⟨c,w,hr,rfl,hG.ext fun b'=>by
   by_cases e:b'=b
   ·subst e;rw[T.get_set_same _ _ _ d8,hb]
   ·rw[T.get_set_ne _ e]⟩
 |cons a l ih=>
  intro vs i c w H k hG hb hl hr
  obtain⟨v,C',rfl,hv,p7⟩:=hl.cons_inv
  have hr:run (ac (fB a) (ac (ac (Nat.ble fl (o0+i)) (Nat.ble (Nat.succ (o0+i)) fh) false) .fail (T.getK c (o0+i) .fail fun x=>match x with
   | .mk tag _=>ac (Nat.ble tag gen) (T.setK c (o0+i) (.mk gen a) fun c=>fN (Nat.succ (o0+i)) fun o=>Ry gen fl fh l o c k) .fail)) .fail) σ K=true:=hr
  obtain⟨XQ,hr⟩:=ar hr
  obtain⟨hfz,hr⟩:=md hr
  obtain⟨x,hx,hr⟩:=nl hr
  cases x with
  |mk tag a0=>
   obtain⟨ht,hr⟩:=ar hr
   rw[T.setK_eq] at hr
   have hr:=f_ hr
   have ah7:¬(fl<=o0+i/\o0+i<fh):=fun⟨e1,e2⟩=>by
    rw[ax,if_pos (Nat.ble_eq.mpr e1)] at hfz
    rw[Nat.ble_eq.mpr e2] at hfz;cases hfz
   obtain⟨_,s1,s2⟩:=hG.store (P:=P) hb d8 hh hx (bu ht) hv XQ ah7
   obtain⟨c',w',r1,r2,r3⟩:=ih C' (i+1) (c.set (o0+i) (.mk gen a)) _ _ k s2 (T.get_set_same _ _ _ d8) p7 hr
   refine⟨c',w',r1, ?_,r3.ext fun b'=>?_⟩
   ·have ea:(⟨h.blk,o0-h.shift,none⟩:Addr).add i=⟨h.blk,o0+i-h.shift,none⟩:=by
     unfold Addr.add
     split
     ·rename_i e;subst e;simp
     ·simp;omega
    simp only [storeCells,aab,ea,s1,aae]
    exact r2
   ·by_cases e:b'=b
    ·subst e;rw[T.get_set_same _ _ _ d8,T.get_set_same _ _ _ d8]
    ·rw[T.get_set_ne _ e,T.get_set_ne _ e,T.get_set_ne _ e]
theorem jv{b g o:Nat}{h:Home}{l:List AV}{vs:List Value}{k:Tr}(hS:SI σ)(hG:Good w0 ρ σ.h w)(hh:ρ.at_ b g=some h)(ho:h.shift<=o)(hl:LR ρ l vs)(hr:run (jZ b g o l k) σ K=true):
  FH P w0 ρ w k K (storeCells ⟨h.blk,o-h.shift,none⟩ vs):=by
 have d8:=cN hS hr
 obtain⟨x,d6,hx,e1,d5,hr⟩:=bm hS hr
 cases x with
 |cells c gen lo hi fl fh ro ty=>
  obtain⟨ZR,hr⟩:=md hr
  subst ZR
  obtain⟨hg,hr⟩:=ar hr
  have hg:=aR hg
  subst hg
  obtain⟨c',w',r1,r2,r3⟩:=Wv (P:=P) (o0:=o) d8 hh ho l vs 0 c w σ.h _ hG hx hl hr
  obtain⟨x0,f9,_,e2,i5,_,r4⟩:=cI d5 r1
  exact⟨f9,w',r4,i5,by rw[e2,e1];exact r3,r2⟩
 |_=>exact(ak hr).elim
theorem I7{t:TypeId}{x y:AV}{v u:Value}{k:Tr}(hS:SI σ)(hG:Good w0 ρ σ.h w)(hx:VR ρ x v)(hy:VR ρ y u)(hr:run (Ir P t x y k) σ K=true):FH P w0 ρ w k K (Instr.storeAt t v u):=by
 cases hx with
 |ptr b g o h hh ho=>
  obtain⟨i,hi,hr⟩:=cd hr
  obtain⟨l,hl,hr⟩:=fL hy hr
  obtain⟨hlen,hr⟩:=ar hr
  have hlen:=aR hlen
  obtain⟨c9,w',r1,r2,r3,r4⟩:=jv (P:=P) hS hG hh ho hl hr
  refine⟨c9,w',r1,r2,r3, ?_⟩
  have u0:u.cells.size=i.size:=by rw[←aaH,hl.1];exact hlen
  simp only [Instr.storeAt,Instr.sureAddr,storeVar,aab,aac,aae,ay hi,u0,ne_eq,not_true_eq_false,if_false]
  exact r4
 |gptr b g i o es hm hh hs=>
  obtain⟨ii,hi,hr⟩:=cd hr
  obtain⟨l,hl,hr⟩:=fL hy hr
  obtain⟨hlen,hr⟩:=ar hr
  have hlen:=aR hlen
  obtain⟨j4,hr⟩:=ar hr
  have j4:=bu j4
  have d8:=cN hS hr
  obtain⟨q,d6,hq,e1,d5,hr⟩:=bm hS hr
  have d7:Good w0 ρ d6.h w:=by rw[e1];exact hG
  cases q with
  |grow c gen ty=>
   obtain⟨k1,z1⟩:=ar hr
   obtain⟨k2,z2⟩:=ar z1
   obtain⟨k3,z3⟩:=ar z2
   obtain⟨k4,z4⟩:=ar z3
   clear hr z1 z2 z3
   have k1:=aR k1
   have k2:=aR k2
   have k3:=bu k3
   have XQ:∀a∈l,fB a=true:=fun a ha=>List.all_eq_true.1 k4 a ha
   subst k1;subst k2
   cases hu:c.upd i o l with
   |none=>rw[hu] at z4;exact(ak z4).elim
   |some r=>
    obtain⟨c',p⟩:=r
    rw[hu] at z4
    obtain⟨⟨XW,hp⟩,z5⟩:=aW z4
    obtain⟨x0,f9,U',e2,i5,_,z6⟩:=cI d5 z5
    clear z4 z5
    obtain⟨u1,u2,u3,u4⟩:=RL hu hp XW (by omega)
    have w8:d6.h.get b=some (.grow c g ty):=by rw[e1];exact hq
    rcases d7.blk _ _ w8 with h0|⟨x8,q1,q2,q3,arr,fr,q4,q5,q6,q7,q8⟩
    ·omega
    rw[hh] at q1;injection q1 with q1;subst q1
    have Q':u.cells.toList.length=l.length:=hl.1
    have ac_:i * c.es+c.es<=c.len * c.es:=by rw[←aaG];exact aat _ XW
    have X3:(i * c.es+o)+u.cells.toList.length<=arr.size:=by rw[Q'];omega
    obtain⟨m7,s1,s2,s3,s4,s5,s6,s7⟩:=eG hm.blk u.cells.toList (i * c.es+o) w arr ty fr q4 X3
    have s8:=run_storeCells_cells (P:=P) hm.blk (i * c.es+o) u.cells.toList 0 w (fun j hj=>by
      simp only [World.cell?,q4]
      simp only [aa2,Bool.false_eq_true,if_false,aap]
      rw[aaJ (by omega)];rfl) (fun j hj=>by
      simp only [World.frozen?,q4,aap]
      cases hx:(decide (fr.1<=i * c.es+o+j) && decide (i * c.es+o+j<fr.2)) with
      |false=>rfl
      |true=>
       simp only [Bool.and_eq_true,decide_eq_true_eq] at hx
       exact(q7 _ (by omega) hx.1 hx.2).elim) (hl.ones XQ)
    rw[aap] at s8
    have XD:Good w0 ρ (d6.h.set b (.grow c' g ty)) (w.setCells hm.blk (i * c.es+o) u.cells.toList):=by
     refine d7.turn (hrs:=⟨b,g,hm,hh,rfl⟩) w8 d8 hm.blk q3 (Kept.of_set (s7 0 (aal _)) s5 q3) (by omega) (fun x hx _=>s5 x hx) (fun b' g' h' i4 e'=>(hG.inj _ _ _ _ _ _ i4 hh e').1) ?_
     refine .inr ⟨hm,hh,q2,q3,m7,fr,s1,by omega,by rw[u1,u2];exact q6,q7,fun i' hi'=>?_⟩
     rw[u1] at hi'
     rw[u2]
     by_cases e:i'=i
     ·subst e
      refine mh (fun j a ha=>?_) (u4 ρ)
      have hrl:=c.row_len i'
      have hj:j<c.es:=by
       rcases aaf j c.es with h'|h'
       ·exact h'
       ·rw[aaj (by simp;omega)] at ha;cases ha
      by_cases hj1:j<o
      ·rw[aau,aaz (by simp;omega),aar hj1] at ha
       obtain⟨uu,v1,v2⟩:=q8 i' XW j a ha
       exact⟨uu,by rw[s4 _ (.inl (by omega))];exact v1,v2⟩
      ·by_cases hj2:j<o+l.length
       ·rw[aau,aaA (by simp;omega),aaz (by simp;omega)] at ha
        have ha:l[j-o]? =some a:=by rw[←ha];congr 1;simp;omega
        obtain⟨uu,v1,v2⟩:=hl.get ha
        refine⟨uu, ?_,v2⟩
        have hjl:j-o<u.cells.toList.length:=by
         rcases aaf (j-o) u.cells.toList.length with h'|h'
         ·exact h'
         ·rw[aaj h'] at v1;cases v1
        have:=s3 (j-o) hjl
        rw[show i' * c.es+j=i' * c.es+o+(j-o) by omega,this];exact v1
       ·rw[aaA (by simp;omega),aax] at ha
        have ha:(c.row i')[j]? =some a:=by rw[←ha];congr 1;simp;omega
        obtain⟨uu,v1,v2⟩:=q8 i' XW j a ha
        exact⟨uu,by rw[s4 _ (.inr (by rw[Q'];omega))];exact v1,v2⟩
     ·rw[u3 i' e]
      intro j a ha
      obtain⟨uu,v1,v2⟩:=q8 i' hi' j a ha
      have hj:j<c.es:=by
       have:=c.row_len i'
       rcases aaf j c.es with h'|h'
       ·exact h'
       ·rw[aaj (by omega)] at ha;cases ha
      refine⟨uu, ?_,v2⟩
      rw[s4 _ ?_]
      ·exact v1
      ·rw[Q']
       rcases Nat.lt_or_gt_of_ne e with e|e
       ·left
        have:i' * c.es+c.es<=i * c.es:=by rw[←aaG];exact aat _ e
        omega
       ·right
        have:i * c.es+c.es<=i' * c.es:=by rw[←aaG];exact aat _ e
        omega
    refine⟨f9,_,z6,i5,by rw[e2];exact XD, ?_⟩
    have u0:u.cells.size=ii.size:=by rw[←aaH,hl.1];exact hlen
    simp only [Instr.storeAt,Instr.sureAddr,storeVar,aab,aac,aae,ay hi,u0,ne_eq,not_true_eq_false,if_false]
    exact s8
  |_=>exact(ak hr).elim
 |_=>exact(ak hr).elim
end
end Go.Sym
namespace Go.Sym
open Go.RowKit (Below)
theorem se(off:Nat):∀(l:List Value) (j:Nat) (cs:Array Value),off+j+l.length<=cs.size->
  ((l.zipIdx j).foldl (fun cs p=>cs.setIfInBounds (off+p.2) p.1) cs).size=cs.size/\
  ∀x,((l.zipIdx j).foldl (fun cs p=>cs.setIfInBounds (off+p.2) p.1) cs)[x]? =if off+j<=x/\x<off+j+l.length then l[x-off-j]? else cs[x]? :=by
 intro l
 induction l with
 |nil=>intro j cs _;refine⟨rfl,fun x=>?_⟩;simp;intro h1 h2;omega
 |cons a l ih=>
  intro j cs h
  simp only [aao] at h
  rw[List.zipIdx_cons,List.foldl_cons]
  obtain⟨h1,h2⟩:=ih (j+1) (cs.setIfInBounds (off+j) a) (by simp;omega)
  refine⟨by rw[h1];simp,fun x=>?_⟩
  rw[h2 x,aaC]
  simp only [aao]
  by_cases e:x=off+j
  ·subst e
   rw[if_neg (by omega),if_pos rfl,if_pos (by omega),if_pos (by omega)]
   simp
  ·by_cases e2:off+(j+1)<=x/\x<off+(j+1)+l.length
   ·rw[if_pos e2,if_pos (by omega),show x-off-j=(x-off-(j+1))+1 by omega]
    simp
   ·rw[if_neg e2,if_neg (by omega),if_neg (by omega)]
section
variable{P:Program}{w0:World}{ρ:Rho}{w:World}{σ:St}{K:Fin}{k:AV->Tr}
theorem Bp{l cs:List AV}{arr:Array Value}{vs:Array Value}{off:Nat}(hl:LR ρ l arr.toList)(hc:LR ρ cs vs.toList)(hlen:off+cs.length<=l.length):
  LR ρ (dG l off cs) (vs.zipIdx.foldl (fun cs (c,j)=>cs.setIfInBounds (off+j) c) arr).toList:=by
 have hn:vs.size=cs.length:=by have:=hc.1;simpa using this
 have hm:arr.size=l.length:=by have:=hl.1;simpa using this
 have e:vs.zipIdx.foldl (fun cs (c,j)=>cs.setIfInBounds (off+j) c) arr=(vs.toList.zipIdx 0).foldl (fun cs p=>cs.setIfInBounds (off+p.2) p.1) arr:=by
  rw[←Array.foldl_toList,Array.toList_zipIdx]
 rw[e]
 obtain⟨h1,h2⟩:=se off vs.toList 0 arr (by simp [hn,hm];omega)
 have ab5:(dG l off cs).length=l.length:=by simp [dG];omega
 refine⟨by rw[ab5];simp [h1,hm],fun i a v ha hv=>?_⟩
 have hv:((vs.toList.zipIdx 0).foldl (fun cs p=>cs.setIfInBounds (off+p.2) p.1) arr)[i]? =some v:=by simpa using hv
 rw[h2 i] at hv
 have hi:i<l.length:=by
  rcases aaf i l.length with h'|h'
  ·exact h'
  ·rw[aaj (by rw[ab5];exact h')] at ha;cases ha
 have hvl:vs.toList.length=cs.length:=by simp [hn]
 rw[hvl] at hv
 by_cases c1:i<off
 ·rw[if_neg (by omega)] at hv
  have:(dG l off cs)[i]? =l[i]? :=by
   unfold dG
   rw[aau,aaz (by simp;omega),aaW,if_pos c1]
  rw[this] at ha
  exact hl.2 i a v ha (by simpa using hv)
 ·by_cases c2:i<off+cs.length
  ·rw[if_pos (by omega)] at hv
   have:(dG l off cs)[i]? =cs[i-off]? :=by
    unfold dG
    rw[aau,aaA (by simp;omega),aaz (by simp;omega)]
    congr 1;simp;omega
   rw[this] at ha
   exact hc.2 (i-off) a v ha (by simpa using hv)
  ·rw[if_neg (by omega)] at hv
   have:(dG l off cs)[i]? =l[i]? :=by
    unfold dG
    rw[aaA (by simp;omega)]
    rw[aax]
    congr 1;simp;omega
   rw[this] at ha
   exact hl.2 i a v ha (by simpa using hv)
theorem I8{place:Nat->Option (Nat×Nat)}:∀(parts:List (Nat×AV)) (ps:List (Nat×Value)) (cells:List AV) (arr:Array Value) (k:List AV->Tr),parts.map (·.1)=ps.map (·.1)->LR ρ (parts.map (·.2)) (ps.map (·.2))->LR ρ cells arr.toList->
  run (xJ place cells parts k) σ K=true->∃l m7,run (k l) σ K=true/\LR ρ l m7.toList/\Instr.fill place arr ps=some m7:=by
 intro parts
 induction parts with
 |nil=>
  intro ps cells arr k h1 h2 hl h
  have:ps= []:=by cases ps <;> simp at h1⊢
  subst this
  exact⟨cells,arr,h,hl,rfl⟩
 |cons p parts ih=>
  intro ps cells arr k h1 h2 hl h
  cases ps with
  |nil=>simp at h1
  |cons q ps=>
   simp only [aaB,List.cons.injEq] at h1
   obtain⟨h1a,h1b⟩:=h1
   simp only [aaB] at h2
   obtain⟨v,C',e,hv,h2'⟩:=h2.cons_inv
   injection e with e1 e2
   subst e1;subst e2
   have h:run (cE (place p.1) .fail fun q=>fC p.2 fun cs=>ac (Nat.beq cs.length q.2) (ac (Nat.ble (q.1+q.2) cells.length) (fE (dG cells q.1 cs) fun cells=>xJ place cells parts k) .fail) .fail) σ K=true:=h
   obtain⟨pl,hpl,h⟩:=bO h
   obtain⟨cs,Y3,h⟩:=fL hv h
   obtain⟨hb1,h⟩:=ar h
   obtain⟨Y4,h⟩:=ar h
   have hb1:=aR hb1
   have Y4:=bu Y4
   have hn:q.2.cells.size=cs.length:=by have:=Y3.1;simpa using this
   have hm:arr.size=cells.length:=by have:=hl.1;simpa using this
   obtain⟨l,m7,r1,r2,r3⟩:=ih ps _ _ k h1b h2' (Bp (off:=pl.1) hl Y3 (by omega)) (fj h)
   refine⟨l,m7,r1,r2, ?_⟩
   obtain⟨qi,qv⟩:=q
   obtain⟨off,size⟩:=pl
   simp only at h1a hb1 Y4 hn⊢
   simp only [Instr.fill, ←h1a,hpl]
   rw[if_neg]
   ·exact r3
   ·simp;omega
theorem Bq(fs:Array Field)(h:pc P fs=true):∃pl:Array (Nat×Nat),(fs.mapM fun f=>do pure (f.offset, ←sizeOf f.type):Sem (Array (Nat×Nat))).run P w= .ok pl w/\∀i,pl[i]? =ut P fs i:=by
 refine⟨(fs.toList.map fun f=>(f.offset,((P.info? f.type).map (·.size)).getD 0)).toArray, ?_,fun i=>?_⟩
 ·rw[Array.mapM_eq_mapM_toList,Sem.run_map]
  have key:∀l:List Field,(∀f∈l,(P.info? f.type).isSome=true)->(l.mapM fun f=>do pure (f.offset, ←sizeOf f.type):Sem (List (Nat×Nat))).run P w= .ok (l.map fun f=>(f.offset,((P.info? f.type).map (·.size)).getD 0)) w:=by
   intro l
   induction l with
   |nil=>intro _;rfl
   |cons f l ih=>
    intro hl
    have hf:=hl f (by simp)
    cases hi:P.info? f.type with
    |none=>rw[hi] at hf;cases hf
    |some i=>
     rw[List.mapM_cons]
     simp only [aab,ay hi,aae,aac,ih (fun x hx=>hl x (by simp [hx]))]
     simp [hi]
  rw[key fs.toList (fun f hf=>by simp only [pc,abd] at h;exact h f hf)]
  rfl
 ·simp only [ut,aa9,aaE,aaP]
  cases hf:fs[i]? with
  |none=>rfl
  |some f=>
   simp only [aaQ]
   have:(P.info? f.type).isSome=true:=by
    simp only [pc,abd] at h
    exact h f (abf (by simpa using hf))
   cases hi:P.info? f.type with
   |none=>rw[hi] at this;cases this
   |some x=>rfl
theorem I9{t:TypeId}{parts:List (Nat×AV)}{ps:Array (Nat×Value)}(hS:SI σ)(hG:Good w0 ρ σ.h w)(h1:parts.map (·.1)=ps.toList.map (·.1))(h2:LR ρ (parts.map (·.2)) (ps.toList.map (·.2)))
  (h:run (Is P t parts k) σ K=true):Res P w0 ρ w k K (Instr.build t ps):=by
 obtain⟨z,zv,i,hi,hz,YB,h⟩:=pU ρ w h
 obtain⟨d,hu,h⟩:=bQ h
 cases d with
 |struct fs=>
  obtain⟨hs,h⟩:=ar h
  obtain⟨zl,hzl,h⟩:=fL YB h
  obtain⟨l,arr,r1,r2,r3⟩:=I8 parts ps.toList zl zv.cells _ h1 h2 hzl h
  obtain⟨pl,p1,p2⟩:=Bq (P:=P) (w:=w) fs hs
  refine .plain r1 hS hG (VR.agg l arr r2.arr.1 r2.arr.2) ?_
  have e:(fun x=>pl[x]?)=ut P fs:=funext p2
  simp only [Instr.build,aab,hz,aae,run_underlying hu,p1]
  rw[e,r3]
  rfl
 |array n e=>
  obtain⟨j,hj,h⟩:=cd h
  obtain⟨zl,hzl,h⟩:=fL YB h
  obtain⟨l,arr,r1,r2,r3⟩:=I8 parts ps.toList zl zv.cells _ h1 h2 hzl h
  refine .plain r1 hS hG (VR.agg l arr r2.arr.1 r2.arr.2) ?_
  simp only [Instr.build,aab,hz,aae,run_underlying hu,ay hj]
  rw[r3]
  rfl
 |_=>exact(ak h).elim
theorem pV(z:List AV)(n:Nat):(dl z n).length=n * z.length:=by
 induction n with
 |zero=>simp [dl]
 |succ n ih=>simp [dl,ih,aaG];omega
theorem sW{z:List AV}{zv:Array Value}(hz:LR ρ z zv.toList)(j4:1<=z.length)(n:Nat):LR ρ (dl z n) ((Array.range (n * z.length)).map fun i=>zv[i%zv.size]!).toList:=by
 have hs:zv.size=z.length:=by have:=hz.1;simpa using this
 refine⟨by simp [pV],fun i a v ha hv=>?_⟩
 have hi:i<n * z.length:=by
  rcases aaf i (n * z.length) with h'|h'
  ·exact h'
  ·rw[aaj (by rw[pV];exact h')] at ha;cases ha
 have key:∀(n i:Nat),i<n * z.length->(dl z n)[i]? =z[i%z.length]? :=by
  intro n
  induction n with
  |zero=>intro i hi;simp at hi
  |succ n ih=>
   intro i hi
   simp only [dl]
   by_cases c:i<z.length
   ·rw[aaz c,aa3 c]
   ·rw[aaA (by omega),ih _ (by rw[aaG] at hi;omega)]
    congr 1
    rw[Nat.mod_eq_sub_mod (by omega:i≥z.length)]
 rw[key n i hi] at ha
 have hv:zv[i%zv.size]! =v:=by
  simp [hi] at hv
  exact hv
 have f7:i%zv.size<zv.size:=Nat.mod_lt _ (by omega)
 refine hz.2 (i%z.length) a v ha ?_
 rw[←hs]
 simp only [aaP]
 rw[←hv,getElem!_pos zv _ f7,aaJ f7]
theorem sg{t:TypeId}{len:Nat}{parts:List (Nat×AV)}{ps:Array (Nat×Value)}(hS:SI σ)(hG:Good w0 ρ σ.h w)(h1:parts.map (·.1)=ps.toList.map (·.1))(h2:LR ρ (parts.map (·.2)) (ps.toList.map (·.2)))
  (h:run (oA P t len parts k) σ K=true):Res P w0 ρ w k K (Instr.buildSlice t len ps):=by
 obtain⟨d,hu,h⟩:=bQ h
 cases d with
 |slice e=>
  obtain⟨j,hj,h⟩:=cd h
  obtain⟨hb,h⟩:=ar h
  obtain⟨hb1,h⟩:=ar h
  have hb:=bu hb
  have hb1:=bu hb1
  obtain⟨z,zv,i,hi,hz,YB,h⟩:=pU ρ w h
  obtain⟨zl,hzl,h⟩:=fL YB h
  obtain⟨Y4,h⟩:=ar h
  have Y4:=aR Y4
  have ZS:=sW hzl (by omega) len
  rw[Y4] at ZS
  obtain⟨zero,i3,ae_⟩:∃zero:Array Value,(if len * j.size=0 then pure #[] else do pure (←zeroValue e).cells:Sem (Array Value)).run P w= .ok zero w/\LR ρ (dl zl len) ((Array.range (len * j.size)).map fun i=>zero[i%zero.size]!).toList:=by
   by_cases e0:len * j.size=0
   ·have:len=0:=by
     rcases Nat.mul_eq_zero.mp e0 with h'|h'
     ·exact h'
     ·omega
    subst this
    refine⟨#[],by rw[if_pos e0];rfl, ?_⟩
    simp [dl];exact LR.nil ρ
   ·exact⟨zv.cells,by rw[if_neg e0];simp [hz],ZS⟩
  obtain⟨l,arr,r1,r2,r3⟩:=I8 parts ps.toList (dl zl len) _ _ h1 h2 ae_ h
  obtain⟨q1,q2⟩:=LR.to_arr r2
  obtain⟨b,c9,h5,l8,hle,i6⟩:=ke arr e hS hG q1 q2 r1
  refine⟨_,c9,_,_,_,h5,l8,i6,hle,VR.slc b 0 0 len (some len) j.size _ len ⟨aaa _,rfl,_,Rho.put_at _ _ _ _,aal _,rfl⟩, ?_⟩
  simp only [Instr.buildSlice,aab,run_underlying hu,aae,ay hj]
  rw[if_neg (by omega)]
  by_cases e0:len * j.size=0
  ·rw[if_pos e0] at i3⊢
   rw[aab,i3]
   simp only [aae,r3]
   simp [newRow]
  ·rw[if_neg e0] at i3⊢
   have hz0:zv.cells=zero:=by simpa [hz] using i3
   subst hz0
   simp only [aab,hz,aae,aac,r3]
   simp [newRow]
 |_=>exact(ak h).elim
end
end Go.Sym
namespace Go.Sym
open Go.RowKit (Below)
theorem aN{α β:Type}{o:Option α}{k:α->Option β}{b:β}(h:bz o k=some b):∃a,o=some a/\k a=some b:=by
 cases o with
 |none=>cases h
 |some a=>exact⟨a,rfl,h⟩
theorem bh{α:Type}{c:Bool}{o:Option α}{b:α}(h:ac c o none=some b):c=true/\o=some b:=by
 cases c with
 |true=>exact⟨rfl,h⟩
 |false=>cases h
theorem RM{α:Type}{c:Bool}{o:Option α}{b:α}(h:ac c none o=some b):c=false/\o=some b:=by
 cases c with
 |false=>exact⟨rfl,h⟩
 |true=>cases h
theorem mi{α β:Type}{t:T α}{n:Nat}{k:α->Option β}{b:β}(h:T.getK t n none k=some b):∃a,t.get n=some a/\k a=some b:=by
 rw[T.getK_eq] at h
 split at h
 ·cases h
 ·exact⟨_,by assumption,h⟩
theorem pW{c:T Cell}{g:Nat}:∀{n o:Nat} {l:List AV},NH c g n o=some l->l.length=n/\∀(j:Nat) (a:AV),l[j]? =some a->∃tag,c.get (o+j)=some (.mk tag a)/\tag<=g:=by
 intro n
 induction n with
 |zero=>intro o l h;injection h with h;subst h;exact⟨rfl,by simp⟩
 |succ n ih=>
  intro o l h
  replace h:=mi h;obtain⟨x,hx,h⟩:=h
  cases x with
  |mk tag v=>
   replace h:=bh h;obtain⟨ht,h⟩:=h
   rw[je] at h
   obtain⟨l',h1,h2⟩:=aN h
   injection h2 with h2
   subst h2
   obtain⟨q1,q2⟩:=ih h1
   refine⟨by simp [q1],fun j a ha=>?_⟩
   cases j with
   |zero=>simp at ha;subst ha;exact⟨tag,hx,aas ht⟩
   |succ j=>
    simp at ha
    obtain⟨Yz,r1,r2⟩:=q2 j a ha
    exact⟨Yz,by rw[←r1];congr 1;omega,r2⟩
theorem iv{ρ:Rho}{B b g:Nat}{w:World}{ct:Ct}{v:Value}(hb:BR ρ B w b (.froz ct g))(hv:VR ρ (.gsl b g ct.len ct.es) v):VR ρ (.cv ct) v:=by
 generalize Ys:ct.len=nn at hv
 generalize hee:ct.es=ee at hv
 cases hv with
 |gnil _ _ _=>exact .cvnil _ Ys
 |gempty _ _ _ a=>exact .cvempty _ a Ys
 |gsl _ _ _ _ h c hn hh hs hc hz=>
  subst Ys;subst hee
  rcases hb with h0|⟨h',arr,ty,r1,r2,r3,r4,r5⟩
  ·omega
  rw[hh] at r1;injection r1 with r1;subst r1
  refine .cv ct h.blk 0 c arr ty r3 hc (by omega) fun i j a v hi ha hv=>?_
  obtain⟨u,u1,u2⟩:=r5 i hi j a ha
  rw[aak,u1] at hv
  injection hv with hv
  subst hv
  exact u2
section
variable{P:Program}{w0:World}{ρ:Rho}{w:World}{σ:St}{K:Fin}
theorem Good.none_new{H:T ABlk}(hG:Good w0 ρ H w){n:Nat}(hn:H.get n=none)(d8:n+1<2 ^ 64){ct:Ct}{g ty:Nat}(h0:ct.len=0):Good w0 ρ (H.set n (.grow ct g ty)) w:=by
 have G':∀g h,ρ.at_ n g≠some h:=fun g h hh=>by
  obtain⟨_,X,hX⟩:=hG.dom _ _ _ hh
  rw[hn] at hX;cases hX
 refine⟨⟨hG.below,fun b X hX=>?_,fun b g h hh=>?_,hG.inj,fun b g h X hh hX=>?_,fun b arr ty hf=>⟨(hG.frz b arr ty hf).1,fun b' g' h hh e=>?_⟩,hG.frzB,fun b k I l hX g h hh=>?_⟩,hG.ownB⟩
 ·by_cases e:b=n
  ·subst e
   rw[T.get_set_same _ _ _ d8] at hX
   injection hX with hX
   subst hX
   exact .inl h0
  ·rw[T.get_set_ne _ e] at hX
   exact hG.blk _ _ hX
 ·obtain⟨q1,X,q2⟩:=hG.dom _ _ _ hh
  refine⟨q1,X, ?_⟩
  rw[T.get_set_ne _ (fun e=>by subst e;exact G' _ _ hh)]
  exact q2
 ·rw[T.get_set_ne _ (fun e=>by subst e;exact G' _ _ hh)] at hX
  exact hG.gens _ _ _ _ hh hX
 ·obtain⟨X,q1,q2⟩:=(hG.frz b arr ty hf).2 _ _ _ hh e
  exact⟨X,by rw[T.get_set_ne _ (fun e=>by subst e;exact G' _ _ hh)];exact q1,q2⟩
 ·rw[T.get_set_ne _ (fun e=>by subst e;exact G' _ _ hh)] at hX
  exact hG.objO _ _ _ _ hX _ _ hh
theorem gT{b:Nat}:∀{loc:List (Nat×Nat×Nat)} {x:Nat×Nat×Nat},x∈loc->x.2.1=b->jm b loc=false:=by
 intro loc
 induction loc with
 |nil=>intro x h;cases h
 |cons z l ih=>
  intro x h e
  show ac (Nat.beq z.2.1 b) false (jm b l)=false
  rw[ax]
  split
  ·rfl
  ·rename_i hz
   rcases List.mem_cons.1 h with h|h
   ·subst h;exact absurd (by rw[e];exact Nat.beq_refl _) hz
   ·exact ih h e
def Stays(loc:List (Nat×Nat×Nat))(H H':T ABlk):Prop:=∀b X,(∃x,x∈loc/\x.2.1=b)->H.get b=some X->H'.get b=some X
theorem Stays.refl(loc:List (Nat×Nat×Nat))(H:T ABlk):Stays loc H H:=fun _ _ _ h=>h
theorem Stays.trans{loc:List (Nat×Nat×Nat)}{a b c:T ABlk}(h:Stays loc a b)(h':Stays loc b c):Stays loc a c:=fun x X q r=>h' x X q (h x X q r)
theorem D0{loc:List (Nat×Nat×Nat)}{b g o len es:Nat}{cap:Option Nat}{rows:Nat->List AV->(Ct->Nat->Tr)->Tr}{k:Ct->Nat->Tr}(hS:SI σ)(hG:Good w0 ρ σ.h w)
  (ZT:∀(YG:Nat) (as:List AV) (kk:Ct->Nat->Tr) (c9:St),run (rows YG as kk) c9 K=true->∃ct ty,run (kk ct ty) c9 K=true/\(as.length=ct.len * ct.es->∀i,i<ct.len->∀(ρ:Rho) (vs:List Value),LR ρ ((as.drop (i * ct.es)).take ct.es) vs->LR ρ (ct.row i) vs))
  (h:run (NQ loc b g o len cap es rows k) σ K=true):
  ∃ct ty d6,run (k ct ty) d6 K=true/\SI d6/\d6.h=σ.h/\b+1<2 ^ 64/\jm b loc=true/\ct.len=len/\ct.es=es/\Good w0 ρ (σ.h.set b (.grow ct g ty)) w/\∀ρ2,ρ.le ρ2->∀v,VR ρ2 (.slc b g o len cap es) v->VR ρ2 (.gsl b g len es) v:=by
 have d8:=cN hS h
 obtain⟨q,d6,hq,e1,d5,z0⟩:=bm hS h
 cases q with
 |cells c gen lo hi fl fh ro ty=>
  obtain⟨k0,z1⟩:=md z0
  obtain⟨k1,z2⟩:=ar z1
  obtain⟨k2,z3⟩:=ar z2
  obtain⟨k3,z4⟩:=ar z3
  obtain⟨k4,z5⟩:=ar z4
  obtain⟨k5,z6⟩:=ar z5
  obtain⟨k6,z7⟩:=ar z6
  obtain⟨k7,z8⟩:=ar z7
  obtain⟨k8,z9⟩:=ar z8
  clear z0 z1 z2 z3 z4 z5 z6 z7 z8 h
  obtain⟨as,hl,za⟩:=bO z9
  obtain⟨ct,XI,zb,hct⟩:=ZT _ _ _ _ za
  obtain⟨k9,zc⟩:=ar zb
  obtain⟨ZJ,zd⟩:=ar zc
  obtain⟨k11,ze⟩:=aW zd
  clear za zb zc zd z9
  have k1:=aR k1
  have k2:=aR k2
  have k3:=aR k3
  have k4:=aR k4
  have k5:=aR k5
  have k6:=aR k6
  have k7:=bu k7
  obtain⟨k8a,k8⟩:=aM k8
  obtain⟨k8c,k8b⟩:=aM k8
  have k8c:=bu k8c
  have k8b:=bu k8b
  have k9:=aR k9
  have ZJ:=aR ZJ
  subst k0 k1 k2 k3 k4 k6 k9
  obtain⟨hm,r1,r2,_,arr,fr,r3,r4,r5,r6⟩:=(hG.blk _ _ hq).2 gen (aaa _)
  obtain⟨l1,l2⟩:=pW hl
  have i9:∀j,j<kF cap len * es->∃a u,as[j]? =some a/\arr[j-hm.shift]? =some u/\VR ρ a u/\hm.shift<=j:=fun j hj=>by
   have ha:as[j]? =some (as[j]'(by omega)):=aah (by omega)
   obtain⟨tag,t1,t2⟩:=l2 j _ ha
   rw[aak] at t1
   obtain⟨s1,u,s2,s3⟩:=r6 _ _ _ t1 t2
   exact⟨_,u,ha,s2,s3,s1⟩
  have hle:len * es<=kF cap len * es:=aat _ k8b
  have af0:(as.take (len * es)).length=ct.len * ct.es:=by rw[aam,l1,ZJ,k11];omega
  have hzp:0<kF cap len * es:=Nat.mul_pos (by omega) k8c
  have F':hm.shift=0:=by
   obtain⟨a,u,_,_,_,q⟩:=i9 0 hzp
   omega
  have i7:Good w0 ρ (σ.h.set b (.grow ct gen ty)) w:=by
   refine hG.turn (hrs:=⟨b,gen,hm,r1,rfl⟩) hq d8 hm.blk (r2 rfl) (Kept.refl _ _ _) (aaa _) (fun _ _ _=>rfl) (fun b' g' h' i4 e'=>(hG.inj _ _ _ _ _ _ i4 r1 e').1) (.inr ⟨hm,r1,F',r2 rfl,arr,fr,r3,r4, ?_,fun x hx h1 h2=>?_,fun i hi j a ha=>?_⟩)
   ·rw[ZJ,k11]
    obtain⟨a,u,_,hu,_⟩:=i9 (kF cap len * es-1) (by omega)
    rcases aaf (kF cap len * es-1-hm.shift) arr.size with h'|h'
    ·omega
    ·rw[aaN h'] at hu;cases hu
   ·have:=(r5 rfl).2 x (.inl hx) h1 h2
    omega
   ·have ac_:i * ct.es+ct.es<=ct.len * ct.es:=by rw[←aaG];exact aat _ hi
    rw[ZJ,k11] at ac_
    have Ym:∀q a0,(((as.take (len * es)).drop (i * ct.es)).take ct.es)[q]? =some a0->∃u,arr[i * ct.es+q]? =some u/\VR ρ a0 u:=fun q a0 hq=>by
     rw[aaW] at hq
     split at hq
     ·rename_i hqe
      rw[aax,aar (by rw[ZJ] at hqe⊢;omega)] at hq
      obtain⟨a1,u,f1,f2,f3,_⟩:=i9 (i * ct.es+q) (by rw[ZJ] at hqe⊢;omega)
      rw[hq] at f1
      injection f1 with f1
      subst f1
      rw[F',abg] at f2
      exact⟨u,f2,f3⟩
     ·cases hq
    exact mh (A:=fun q=>arr[i * ct.es+q]?) Ym (fun vs=>hct af0 i hi ρ vs) j a ha
  refine⟨ct,ty,d6,ze,d5,e1,d8,k8a,k11,ZJ,i7,fun ρ2 j9 v hv=>?_⟩
  ·cases hv with
   |slc _ _ _ _ _ _ ad cp x6=>
    obtain⟨XR,XE⟩:=x6
    cases cap with
    |some kc=>
     obtain⟨ek,h',x1,x2,x3⟩:=XE
     rw[j9.at_ _ _ _ r1] at x1;injection x1 with x1;subst x1
     subst x3
     rw[F']
     refine .gsl _ _ _ _ hm cp (by omega) (j9.at_ _ _ _ r1) F' XR ?_
     rw[ek]
     obtain⟨a,u,_,hu,_⟩:=i9 (kF (some kc) len * es-1) (by omega)
     rw[←r4]
     rcases aaf (kF (some kc) len * es-1-hm.shift) arr.size with h'|h'
     ·show kc * es<=arr.size
      have:kF (some kc) len=kc:=rfl
      rw[this] at h' hzp;omega
     ·rw[aaN h'] at hu;cases hu
    |none=>
     rcases XE with XE|⟨h',x1,x2,x3,x4⟩
     ·omega
     ·rw[j9.at_ _ _ _ r1] at x1;injection x1 with x1;subst x1
      subst x3
      rw[F']
      exact .gsl _ _ _ _ hm cp (by omega) (j9.at_ _ _ _ r1) F' XR (by omega)
 |_=>exact(ak z0).elim
theorem dK{loc:List (Nat×Nat×Nat)}{b g o len es:Nat}{cap:Option Nat}{rows:Nat->List AV->(Ct->Nat->Tr)->Tr}{k:AV->Tr}(hS:SI σ)(hG:Good w0 ρ σ.h w)
  (ZT:∀(YG:Nat) (as:List AV) (kk:Ct->Nat->Tr) (c9:St),run (rows YG as kk) c9 K=true->∃ct ty,run (kk ct ty) c9 K=true/\(as.length=ct.len * ct.es->∀i,i<ct.len->∀(ρ:Rho) (vs:List Value),LR ρ ((as.drop (i * ct.es)).take ct.es) vs->LR ρ (ct.row i) vs))
  (h:run (ng loc b g o len cap es rows k) σ K=true):
  ∃c9,run (k (.gsl b g len es)) c9 K=true/\SI c9/\Good w0 ρ c9.h w/\Stays loc σ.h c9.h/\∀ρ2,ρ.le ρ2->∀v,VR ρ2 (.slc b g o len cap es) v->VR ρ2 (.gsl b g len es) v:=by
 obtain⟨ct,ty,d6,h1,d5,e1,d8,k8a,_,_,i7,hv⟩:=D0 hS hG ZT h
 obtain⟨x0,f9,U',e2,i5,_,z⟩:=cI d5 h1
 refine⟨f9,z,i5,by rw[e2,e1];exact i7,fun b' X hf hX=>?_,hv⟩
 obtain⟨x,R',t7⟩:=hf
 rw[e2,T.get_set_ne _ (fun e=>by subst e;rw[gT R' t7] at k8a;cases k8a),e1];exact hX
theorem Good.freeze{H:T ABlk}(hG:Good w0 ρ H w){b g ty:Nat}{c:Ct}(hb:H.get b=some (.grow c g ty))(d8:b+1<2 ^ 64)(ZA:base+64<=b):
  ∃ρ':Rho,ρ.le ρ'/\Good w0 ρ' (H.set b (.froz c g)) w/\∀ρ2,ρ'.le ρ2->∀v,VR ρ2 (.gsl b g c.len c.es) v->VR ρ2 (.cv c) v:=by
 have j8:(H.set b (.froz c g)).get b=some (.froz c g):=T.get_set_same _ _ _ d8
 have af1:∀b' g' h,ρ.at_ b' g'=some h->h.blk<w.heap.size/\∃x,(H.set b (.froz c g)).get b'=some x:=fun b' g' h hh=>by
  obtain⟨q1,X,q2⟩:=hG.dom _ _ _ hh
  refine⟨q1, ?_⟩
  by_cases e:b'=b
  ·subst e;exact⟨_,j8⟩
  ·exact⟨X,by rw[T.get_set_ne _ e];exact q2⟩
 have ab6:∀b' g' h X,ρ.at_ b' g'=some h->(H.set b (.froz c g)).get b'=some X->Ig g' X:=fun b' g' h X hh hX=>by
  by_cases e:b'=b
  ·subst e
   rw[j8] at hX;injection hX with hX;subst hX
   have:=hG.gens _ _ _ _ hh hb
   exact(this:g'<=g)
  ·rw[T.get_set_ne _ e] at hX
   exact hG.gens _ _ _ _ hh hX
 have ab7:∀b0 arr ty,ρ.frz b0=some (arr,ty)->∀b' g' h,ρ.at_ b' g'=some h->h.blk=b0->∃x,(H.set b (.froz c g)).get b'=some x/\xx x:=fun b0 arr ty hf b' g' h hh e=>by
  by_cases e':b'=b
  ·subst e';exact⟨_,j8,trivial⟩
  ·obtain⟨X,q1,q2⟩:=(hG.frz _ _ _ hf).2 _ _ _ hh e
   exact⟨X,by rw[T.get_set_ne _ e'];exact q1,q2⟩
 have XJ:∀b' k I l,(H.set b (.froz c g)).get b'=some (.obj k I l)->∀g' h,ρ.at_ b' g'=some h->Own ρ w0.heap.size h.blk:=fun b' k I l hX g' h hh=>by
  by_cases e:b'=b
  ·subst e;rw[j8] at hX;injection hX with hX;cases hX
  ·rw[T.get_set_ne _ e] at hX;exact hG.objO _ _ _ _ hX _ _ hh
 rcases hG.blk _ _ hb with h0|⟨h,r1,r2,r3,arr,fr,r4,r5,r6,r7,r8⟩
 ·refine⟨ρ,.refl _,⟨⟨hG.below,fun b' X hX=>?_,af1,hG.inj,ab6,fun b0 arr ty hf=>⟨(hG.frz _ _ _ hf).1,ab7 _ _ _ hf⟩,hG.frzB,XJ⟩,hG.ownB⟩,fun ρ2 _ v hv=>iv (B:=w0.heap.size) (w:=w) (.inl h0) hv⟩
  by_cases e:b'=b
  ·subst e
   rw[j8] at hX;injection hX with hX;subst hX
   exact .inl h0
  ·rw[T.get_set_ne _ e] at hX
   exact hG.blk _ _ hX
 ·let ρ':Rho:=⟨ρ.at_,ρ.val,ρ.own,fun x=>if x=h.blk then some (arr,ty) else ρ.frz x,ρ.frz0⟩
  have hnf:ρ.frz h.blk=none:=by
   cases hf:ρ.frz h.blk with
   |none=>rfl
   |some x=>exact absurd rfl (hG.frzE (show ρ.frz h.blk=some (x.1,x.2) from hf) r1 hb (fun h=>h))
  have hle:ρ.le ρ':=⟨fun _ _ _ h=>h,rfl,rfl,fun b0 x hx=>by
   show(if b0=h.blk then some (arr,ty) else ρ.frz b0)=some x
   rw[if_neg (fun e=>by subst e;rw[hnf] at hx;cases hx)];exact hx,rfl⟩
  have hbr:BR ρ' w0.heap.size w b (.froz c g):=.inr ⟨h,arr,ty,r1,r2,if_pos rfl,by omega,fun i hi j a ha=>by
   obtain⟨u,u1,u2⟩:=r8 i hi j a ha
   exact⟨u,u1,u2.mono hle⟩⟩
  refine⟨ρ',hle,⟨⟨hG.below,fun b' X hX=>?_,af1,hG.inj,ab6,fun b0 m7 XI hf=>?_,fun b0 x hf f7=>?_,XJ⟩,hG.ownB⟩,fun ρ2 j9 v hv=>iv (hbr.keep (w':=w) j9 fun _ _ _=>rfl) hv⟩
  ·by_cases e:b'=b
   ·subst e
    rw[j8] at hX;injection hX with hX;subst hX
    exact hbr
   ·rw[T.get_set_ne _ e] at hX
    exact(hG.blk _ _ hX).keep hle fun _ _ _=>rfl
  ·have hf:(if b0=h.blk then some (arr,ty) else ρ.frz b0)=some (m7,XI):=hf
   split at hf
   ·rename_i e0
    injection hf with hf;injection hf with e1 e2
    subst e0;subst e1;subst e2
    refine⟨⟨fr,r4⟩,fun b' g' h' hh e=>?_⟩
    have:=(hG.inj _ _ _ _ _ _ hh r1 e).1
    subst this
    exact⟨_,j8,trivial⟩
   ·exact⟨(hG.frz _ _ _ hf).1,ab7 _ _ _ hf⟩
  ·have hf:(if b0=h.blk then some (arr,ty) else ρ.frz b0)=some x:=hf
   split at hf
   ·rename_i e0
    subst e0
    rcases r3 with r3|r3
    ·omega
    ·obtain⟨b1,g1,h1,q1,q2,q3⟩:=hG.ownB _ r3
     have:=(hG.inj _ _ _ _ _ _ q2 r1 q3).1
     omega
   ·exact hG.frzB _ _ hf f7
theorem Good.none_turn{H:T ABlk}(hG:Good w0 ρ H w){b:Nat}{x0:ABlk}(hb:H.get b=some x0)(d8:b+1<2 ^ 64){ct:Ct}{g ty:Nat}(h0:ct.len=0)(XO:∀g',Ig g' x0->g'<=g)(hnf:¬xx x0):Good w0 ρ (H.set b (.grow ct g ty)) w:=by
 have j8:(H.set b (.grow ct g ty)).get b=some (.grow ct g ty):=T.get_set_same _ _ _ d8
 refine⟨⟨hG.below,fun b' X hX=>?_,fun b' g' h hh=>?_,hG.inj,fun b' g' h X hh hX=>?_,fun b0 arr ty hf=>⟨(hG.frz b0 arr ty hf).1,fun b' g' h hh e=>?_⟩,hG.frzB,fun b' k I l hX g' h hh=>?_⟩,hG.ownB⟩
 ·by_cases e:b'=b
  ·subst e
   rw[j8] at hX;injection hX with hX;subst hX
   exact .inl h0
  ·rw[T.get_set_ne _ e] at hX;exact hG.blk _ _ hX
 ·obtain⟨q1,X,q2⟩:=hG.dom _ _ _ hh
  refine⟨q1, ?_⟩
  by_cases e:b'=b
  ·subst e;exact⟨_,j8⟩
  ·exact⟨X,by rw[T.get_set_ne _ e];exact q2⟩
 ·by_cases e:b'=b
  ·subst e
   rw[j8] at hX;injection hX with hX;subst hX
   exact XO _ (hG.gens _ _ _ _ hh hb)
  ·rw[T.get_set_ne _ e] at hX;exact hG.gens _ _ _ _ hh hX
 ·obtain⟨X,q1,q2⟩:=(hG.frz b0 arr ty hf).2 _ _ _ hh e
  exact⟨X,by rw[T.get_set_ne _ (fun e=>by subst e;rw[hb] at q1;injection q1 with q1;subst q1;exact hnf q2)];exact q1,q2⟩
 ·by_cases e:b'=b
  ·subst e
   rw[j8] at hX;injection hX with hX;cases hX
  ·rw[T.get_set_ne _ e] at hX;exact hG.objO _ _ _ _ hX _ _ hh
theorem jw:∀(YG:Nat) (as:List AV) (kk:Ct->Nat->Tr) (c9:St),run (pJ YG as kk) c9 K=true->
   ∃ct ty,run (kk ct ty) c9 K=true/\(as.length=ct.len * ct.es->∀i,i<ct.len->∀(ρ:Rho) (vs:List Value),LR ρ ((as.drop (i * ct.es)).take ct.es) vs->LR ρ (ct.row i) vs):=by
  intro YG as kk c9 h
  replace h:=bO h;obtain⟨ns,hq,h⟩:=h
  replace h:=aW h;obtain⟨Ys,h⟩:=h
  obtain⟨f1,f2⟩:=mg _ _ hq
  refine⟨_,_,h,fun hlen i hi ρ vs E'=>?_⟩
  have hal:as.length=(aO ns).length:=by rw[bP,f1]
  have hi:i<(aO ns).length:=hi
  have hia:i<as.length:=by omega
  have hd:(as.drop (i * 1)).take 1= [as[i]]:=by
   rw[aaD,aaU hia];rfl
  have E':LR ρ ((as.drop (i * 1)).take 1) vs:=E'
  rw[hd] at E'
  refine E'.one fun v hv=>?_
  obtain⟨n',q1,q2⟩:=f2 i as[i] (aah hia)
  obtain⟨q3,q4⟩:=iu _ _ _ Ys q1
  rw[bo hv q2,aag,q3]
  show VR ρ (.sI .u8 ((n'.toNat:Nat):Int)) _
  rw[show((n'.toNat:Nat):Int)=n' by omega]
  exact .sI _ _
theorem gU{m len:Nat}:∀(YG:Nat) (as:List AV) (kk:Ct->Nat->Tr) (c9:St),run (pH m len YG as kk) c9 K=true->
   ∃ct ty,run (kk ct ty) c9 K=true/\(as.length=ct.len * ct.es->∀i,i<ct.len->∀(ρ:Rho) (vs:List Value),LR ρ ((as.drop (i * ct.es)).take ct.es) vs->LR ρ (ct.row i) vs):=by
 intro YG as kk c9 h
 replace h:=bO h;obtain⟨q,hq,h⟩:=h
 split at h
 ·rename_i gs
  obtain⟨c1,f1,f2,f3,f4⟩:=gi _ _ _ _ hq
  have f1:as=c1:=by simpa using f1
  subst f1
  exact⟨_,_,h,fun hlen i hi ρ vs=>f4 i (by rw[←f3];exact hi) ρ vs⟩
 ·exact(ak h).elim
theorem Br{e:TypeId}{len:Nat}{rows:Nat->List AV->(Ct->Nat->Tr)->Tr}(hr:pd P e len=some rows):∀(YG:Nat) (as:List AV) (kk:Ct->Nat->Tr) (c9:St),run (rows YG as kk) c9 K=true->
   ∃ct ty,run (kk ct ty) c9 K=true/\(as.length=ct.len * ct.es->∀i,i<ct.len->∀(ρ:Rho) (vs:List Value),LR ρ ((as.drop (i * ct.es)).take ct.es) vs->LR ρ (ct.row i) vs):=by
 unfold pd at hr
 split at hr
 ·injection hr with hr;subst hr;exact jw
 ·injection hr with hr;subst hr;exact gU
 ·injection hr with hr;subst hr;exact gU
 ·injection hr with hr;subst hr;exact gU
 ·cases hr
theorem D1{x:AV}{v:Value}{kk:AV->Tr}(hS:SI σ)(hG:Good w0 ρ σ.h w)(hx:VR ρ x v)(h:run (NR x kk) σ K=true):∃x' c9,run (kk x') c9 K=true/\SI c9/\c9.h=σ.h/\VR ρ x' v:=by
 unfold NR at h
 split at h
 ·rename_i b g o
  obtain⟨q,d6,hq,e1,d5,z⟩:=bm hS h
  clear h
  cases q with
  |grow c gen ty=>
   obtain⟨k1,z1⟩:=ar z
   obtain⟨k2,z2⟩:=ar z1
   obtain⟨k4,z3⟩:=aW z2
   clear z z1 z2
   have k1:=aR k1
   subst k1
   refine⟨_,d6,z3,d5,e1, ?_⟩
   cases hx with
   |ptr _ _ _ h0 hh ho=>
    rcases hG.blk _ _ hq with hz|⟨hm,r1,r2,_⟩
    ·omega
    rw[hh] at r1;injection r1 with r1;subst r1
    have e:o-h0.shift=o * 1+0:=by omega
    rw[e]
    exact .gptr b g o 0 1 h0 hh r2
  |_=>exact⟨_,d6,z,d5,e1,hx⟩
 ·exact⟨_,σ,h,hS,rfl,hx⟩
theorem mj{x:AV}{v:Value}{kk:AV->Tr}(hS:SI σ)(hG:Good w0 ρ σ.h w)(hx:VR ρ x v)(h:run (pO x kk) σ K=true):∃x' c9,run (kk x') c9 K=true/\SI c9/\c9.h=σ.h/\VR ρ x' v:=by
 unfold pO at h
 split at h
 ·obtain⟨q,d6,hq,e1,d5,z⟩:=bm hS h
  clear h
  cases q with
  |froz c gen=>
   obtain⟨k1,z1⟩:=ar z
   obtain⟨k2,z2⟩:=ar z1
   obtain⟨k4,z3⟩:=aW z2
   clear z z1 z2
   have k1:=aR k1
   have k2:=aR k2
   subst k1;subst k2;subst k4
   exact⟨_,d6,z3,d5,e1,iv (hG.blk _ _ hq) hx⟩
  |_=>exact⟨_,d6,z,d5,e1,hx⟩
 ·exact⟨_,σ,h,hS,rfl,hx⟩
theorem sX:∀{l:List AV} {vs:List Value} {kk:List AV->Tr} {σ:St},SI σ->Good w0 ρ σ.h w->LR ρ l vs->run (nh l kk) σ K=true->∃l' c9,run (kk l') c9 K=true/\SI c9/\c9.h=σ.h/\LR ρ l' vs
 | [],vs,kk,σ,hS,hG,hl,h=>⟨[],σ,h,hS,rfl,hl⟩
 |a::l,vs,kk,σ,hS,hG,hl,h=>by
  obtain⟨v,C',rfl,hv,p7⟩:=hl.cons_inv
  obtain⟨a',d6,h1,d5,e1,Zi⟩:=mj hS hG hv (show run (pO a fun x=>nh l fun l=>kk (x::l)) σ K=true from h)
  obtain⟨l2,f9,h2,i5,e2,XS⟩:=sX d5 (by rw[e1];exact hG) p7 h1
  exact⟨_,f9,h2,i5,by rw[e2,e1],LR.cons Zi XS⟩
theorem D2{x:AV}{v:Value}{kk:AV->Tr}(hS:SI σ)(hG:Good w0 ρ σ.h w)(hx:VR ρ x v)(h:run (frz0 x kk) σ K=true):∃x' c9 ρ',run (kk x') c9 K=true/\SI c9/\Good w0 ρ' c9.h w/\ρ.le ρ'/\VR ρ' x' v:=by
 unfold frz0 at h
 split at h
 ·rename_i b g n es
  have d8:=cN hS h
  obtain⟨q,d6,hq,e1,d5,z⟩:=bm hS h
  have d7:Good w0 ρ d6.h w:=by rw[e1];exact hG
  have w8:d6.h.get b=some q:=by rw[e1];exact hq
  clear h
  cases q with
  |grow c gen ty=>
   rcases bG z with⟨k0,z1⟩|⟨_,z1⟩
   ·obtain⟨k1,k3⟩:=aM k0
    obtain⟨k1,k2⟩:=aM k1
    obtain⟨k4,z2⟩:=aW z1
    obtain⟨x0,f9,U',e2,i5,_,z3⟩:=cI d5 z2
    have k1:=aR k1
    have k2:=aR k2
    have k3:=bu k3
    subst k1;subst k2;subst k4
    obtain⟨ρ',f1,f2,f3⟩:=d7.freeze w8 d8 k3
    exact⟨_,f9,ρ',z3,i5,by rw[e2];exact f2,f1,f3 ρ' (.refl _) v (hx.mono f1)⟩
   ·exact⟨_,d6,ρ,z1,d5,d7,.refl _,hx⟩
  |froz c gen=>
   obtain⟨k1,z1⟩:=ar z
   obtain⟨k2,z2⟩:=ar z1
   obtain⟨k4,z3⟩:=aW z2
   have k1:=aR k1
   have k2:=aR k2
   subst k1;subst k2;subst k4
   exact⟨_,d6,ρ,z3,d5,d7,.refl _,iv (hG.blk _ _ hq) hx⟩
  |_=>exact⟨_,d6,ρ,z,d5,d7,.refl _,hx⟩
 ·exact⟨_,σ,ρ,h,hS,hG,.refl _,hx⟩
theorem D3{x:AV}{v:Value}{kk:AV->Tr}(hS:SI σ)(hG:Good w0 ρ σ.h w)(hx:VR ρ x v)(h:run (IP x kk) σ K=true):∃x' c9 ρ',run (kk x') c9 K=true/\SI c9/\Good w0 ρ' c9.h w/\ρ.le ρ'/\VR ρ' x' v:=by
 unfold IP at h
 split at h
 ·rcases bG h with⟨_,z⟩|⟨_,z⟩
  ·obtain⟨c9,z1,d5,d7,_,hv⟩:=dK hS hG gU z
   exact D2 d5 d7 (hv ρ (.refl _) v hx) z1
  ·exact⟨_,σ,ρ,z,hS,hG,.refl _,hx⟩
 ·exact D2 hS hG hx h
theorem ye:∀{l:List AV} {vs:List Value} {kk:List AV->Tr} {σ:St} {ρ:Rho},SI σ->Good w0 ρ σ.h w->LR ρ l vs->run (IQ l kk) σ K=true->∃l' c9 ρ',run (kk l') c9 K=true/\SI c9/\Good w0 ρ' c9.h w/\ρ.le ρ'/\LR ρ' l' vs
 | [],vs,kk,σ,ρ,hS,hG,hl,h=>⟨[],σ,ρ,h,hS,hG,.refl _,hl⟩
 |a::l,vs,kk,σ,ρ,hS,hG,hl,h=>by
  obtain⟨v,C',rfl,hv,p7⟩:=hl.cons_inv
  obtain⟨a',d6,XX,h1,d5,d7,t9,Zi⟩:=D3 hS hG hv (show run (IP a fun x=>IQ l fun l=>kk (x::l)) σ K=true from h)
  obtain⟨l2,f9,ρ2,h2,i5,i7,j9,XS⟩:=ye d5 d7 (p7.mono t9) h1
  exact⟨_,f9,ρ2,h2,i5,i7,t9.trans j9,LR.cons (Zi.mono j9) XS⟩
theorem yf{x:AV}{v:Value}{kk:AV->Tr}(hS:SI σ)(hG:Good w0 ρ σ.h w)(hx:VR ρ x v)(h:run (xT x kk) σ K=true):∃x' c9 ρ',run (kk x') c9 K=true/\SI c9/\Good w0 ρ' c9.h w/\ρ.le ρ'/\VR ρ' x' v:=by
 unfold xT at h
 split at h
 ·cases hx with
  |agg l cs h1 h2=>
   obtain⟨l',c9,ρ',q1,q2,q3,q4,q5⟩:=ye hS hG (LR.of_arr h1 h2) h
   obtain⟨r1,r2⟩:=q5.arr
   exact⟨_,c9,ρ',q1,q2,q3,q4,.agg _ cs r1 r2⟩
 ·exact D3 hS hG hx h
theorem I_{a x:AV}{v:Value}{kk:AV->Tr}(hS:SI σ)(hG:Good w0 ρ σ.h w)(hx:VR ρ x v)(h:run (IS a x kk) σ K=true):∃x' c9 ρ',run (kk x') c9 K=true/\SI c9/\Good w0 ρ' c9.h w/\ρ.le ρ'/\VR ρ' x' v:=by
 unfold IS at h
 split at h
 ·exact yf hS hG hx h
 ·exact⟨_,σ,ρ,h,hS,hG,.refl _,hx⟩
theorem yg:∀{l:List (Nat×AV)} {vs:List Value} {kk:List (Nat×AV)->Tr} {σ:St} {ρ:Rho},SI σ->Good w0 ρ σ.h w->LR ρ (l.map Prod.snd) vs->run (IR l kk) σ K=true->∃l' c9 ρ',run (kk l') c9 K=true/\SI c9/\Good w0 ρ' c9.h w/\ρ.le ρ'/\LR ρ' (l'.map Prod.snd) vs/\l'.map Prod.fst=l.map Prod.fst
 | [],vs,kk,σ,ρ,hS,hG,hl,h=>⟨[],σ,ρ,h,hS,hG,.refl _,hl,rfl⟩
 |a::l,vs,kk,σ,ρ,hS,hG,hl,h=>by
  obtain⟨v,C',rfl,hv,p7⟩:=LR.cons_inv (a:=a.2) (l:=l.map Prod.snd) hl
  obtain⟨a',d6,XX,h1,d5,d7,t9,Zi⟩:=yf hS hG hv (show run (xT a.2 fun x=>IR l fun l=>kk ((a.1,x)::l)) σ K=true from h)
  obtain⟨l2,f9,ρ2,h2,i5,i7,j9,XS,e2⟩:=yg d5 d7 (p7.mono t9) h1
  exact⟨_,f9,ρ2,h2,i5,i7,t9.trans j9,LR.cons (Zi.mono j9) XS,by simp [e2]⟩
end
end Go.Sym
namespace Go.Sym
open Go.RowKit (Below)
theorem dj{h:Home}{o n:Nat}(ho:h.shift<=o):(⟨h.blk,o-h.shift,none⟩:Addr).add n=⟨h.blk,o+n-h.shift,none⟩:=by
 unfold Addr.add
 split
 ·rename_i e;subst e;simp
 ·simp;omega
theorem VR.ptr_add{ρ:Rho}{b g o n:Nat}{h:Home}(hh:ρ.at_ b g=some h)(ho:h.shift<=o):VR ρ (.ptr b g (o+n)) (.pointer (some ((⟨h.blk,o-h.shift,none⟩:Addr).add n))):=by
 rw[dj ho];exact .ptr b g (o+n) h hh (by omega)
theorem pX{ρ:Rho}{b g o len:Nat}{cap:Option Nat}{es:Nat}{a:Addr}{c:Nat}(h:SlOk ρ b g o len cap es a c)(hl:0<len):∃h,ρ.at_ b g=some h/\h.shift<=o/\a=⟨h.blk,o-h.shift,none⟩:=by
 obtain⟨h1,h2⟩:=h
 cases cap with
 |some k=>obtain⟨_,x,hx,r1,r2⟩:=h2;exact⟨x,hx,r1,r2⟩
 |none=>
  rcases h2 with⟨e,_⟩|⟨x,hx,r1,r2,_⟩
  ·omega
  ·exact⟨x,hx,r1,r2⟩
theorem bN{b o n:Nat}:(⟨b,o,none⟩:Addr).add n=⟨b,o+n,none⟩:=by
 unfold Addr.add
 split
 ·rename_i e;subst e;simp
 ·simp
section
variable{P:Program}{w0:World}{ρ:Rho}{w:World}{σ:St}{K:Fin}{k:AV->Tr}
theorem yh{t:TypeId}{l:List AV}{cs:Array Value}{off:Nat}(hS:SI σ)(hG:Good w0 ρ σ.h w)(hl:LR ρ l cs.toList)(h:run (Iv P t l off k) σ K=true):Res P w0 ρ w k K (part t cs off):=by
 obtain⟨d,hu,h⟩:=bQ h
 obtain⟨i,hi⟩:=info_of_underlying hu
 rcases bG h with⟨hd,h⟩|⟨hd,h⟩
 ·obtain⟨j,hj,h⟩:=cd h
  rw[hi] at hj;injection hj with hj;subst hj
  obtain⟨v,h1,h2⟩:=jt (w:=w) hu hi hl (off:=off) (a:=.agg ((l.drop off).take i.size)) (by rw[if_pos hd])
  exact .plain (fj h) hS hG h2 h1
 ·obtain⟨a,ha,h⟩:=bO h
  obtain⟨v,h1,h2⟩:=jt (w:=w) hu hi hl (off:=off) (a:=a) (by rw[if_neg (by rw[hd];simp)];exact ha)
  exact .plain h hS hG h2 h1
theorem Ja{t:TypeId}{x:AV}{v:Value}{i:Nat}(hS:SI σ)(hG:Good w0 ρ σ.h w)(hx:VR ρ x v)(h:run (Iw P t x i k) σ K=true):Res P w0 ρ w k K (Instr.field t v i):=by
 obtain⟨d,hu,h⟩:=bQ h
 cases d with
 |struct fs=>
  obtain⟨f,hf,h⟩:=bO h
  obtain⟨l,e,h⟩:=RE h
  subst e
  cases hx with
  |agg _ cs h1 h2=>
   refine(yh hS hG (LR.of_arr h1 h2) h).of_eq ?_
   simp only [Instr.field,aab,run_underlying hu,aae,hf]
   simp [asAgg]
 |_=>exact(ak h).elim
theorem uI{t:TypeId}{x:AV}{v:Value}{i:Nat}(hS:SI σ)(hG:Good w0 ρ σ.h w)(hx:VR ρ x v)(h:run (pG P t x i k) σ K=true):Res P w0 ρ w k K (Instr.fieldAt t v i):=by
 obtain⟨d,hu,h⟩:=bQ h
 cases d with
 |struct fs=>
  cases hx with
  |ptr b g o h0 hh ho=>
   obtain⟨f,hf,h⟩:=bO h
   obtain⟨j,hj,h⟩:=cd h
   obtain⟨hz,h⟩:=md h
   have hz:¬j.size=0:=fun e=>by rw[e] at hz;cases hz
   refine .plain (f_ h) hS hG (VR.ptr_add hh ho) ?_
   simp only [Instr.fieldAt,aab,run_underlying hu,aae,hf,Instr.sureAddr,aac,fieldPlace,ay hj,if_neg hz]
  |gptr b g m o es hm hh hs=>
   obtain⟨f,hf,h⟩:=bO h
   obtain⟨j,hj,h⟩:=cd h
   obtain⟨hz,h⟩:=md h
   have hz:¬j.size=0:=fun e=>by rw[e] at hz;cases hz
   refine .plain h hS hG (VR.gptr b g m (o+f.offset) es hm hh hs) ?_
   simp only [Instr.fieldAt,aab,run_underlying hu,aae,hf,Instr.sureAddr,aac,fieldPlace,ay hj,if_neg hz,bN,abp]
  |cptr l blk off arr ty hfz hb r=>
   obtain⟨f,hf,h⟩:=bO h
   obtain⟨j,hj,h⟩:=cd h
   obtain⟨hz,h⟩:=md h
   have hz:¬j.size=0:=fun e=>by rw[e] at hz;cases hz
   obtain⟨hle,h⟩:=ar h
   have hle:=bu hle
   have h:=fj h
   refine .plain h hS hG (VR.cptr (l.drop f.offset) blk (off+f.offset) arr ty hfz (by rw[aan];omega) fun j a v ha hv=>?_) ?_
   ·rw[aax] at ha
    exact r (f.offset+j) a v ha (by rw[←hv];congr 1;omega)
   ·simp only [Instr.fieldAt,aab,run_underlying hu,aae,hf,Instr.sureAddr,aac,fieldPlace,ay hj,if_neg hz,bN]
  |_=>exact(ak h).elim
 |_=>exact(ak h).elim
theorem kJ{t:TypeId}{x ix:AV}{v u:Value}(hS:SI σ)(hG:Good w0 ρ σ.h w)(hx:VR ρ x v)(hy:VR ρ ix u)(h:run (jl P t x ix k) σ K=true):Res P w0 ρ w k K (Instr.indexAt t v u):=by
 obtain⟨kk,n,e,h⟩:=nm h
 subst e
 cases hy
 obtain⟨i,e,h⟩:=xW h
 subst e
 obtain⟨d,hu,h⟩:=bQ h
 cases d with
 |array len e=>
  cases hx with
  |ptr b g o h0 hh ho=>
   obtain⟨hb,h⟩:=ar h
   have hb:=bu hb
   obtain⟨j,hj,h⟩:=cd h
   refine .plain (f_ h) hS hG (VR.ptr_add hh ho) ?_
   have f7:(0:Int)<=(i:Int)/\(i:Int)<(len:Int):=by omega
   simp only [Instr.indexAt,aab,asIntOf,aac,aae,run_underlying hu,Instr.sureAddr,if_pos f7,ay hj,aaq]
  |_=>exact(ak h).elim
 |slice e=>
  cases hx with
  |slc b g o len cap es a c x6=>
   obtain⟨hb,h⟩:=ar h
   have hb:=bu hb
   obtain⟨j,hj,h⟩:=cd h
   obtain⟨h0,hh,ho,ea⟩:=pX x6 (by omega)
   subst ea
   refine .plain (f_ h) hS hG (VR.ptr_add hh ho) ?_
   have f7:(0:Int)<=(i:Int)/\(i:Int)<(len:Int):=by omega
   simp only [Instr.indexAt,aab,asIntOf,aac,aae,run_underlying hu,if_pos f7,ay hj,aaq]
  |_=>exact(ak h).elim
 |_=>exact(ak h).elim
theorem FO{t:TypeId}{c:Ct}{ix:AV}{v u:Value}(hS:SI σ)(hG:Good w0 ρ σ.h w)(hx:VR ρ (.cv c) v)(hy:VR ρ ix u)(h:run (DI P t c ix k) σ K=true):Res P w0 ρ w k K (Instr.indexAt t v u):=by
 obtain⟨d,hu,h⟩:=bQ h
 split at h
 ·rename_i e kk i hi
  have e2:=bo hy hi
  subst e2
  obtain⟨j,hj,h⟩:=cd h
  obtain⟨he,h⟩:=ar h
  have he:=aR he
  obtain⟨f7,h⟩:=aW h
  have h:=fj h
  have f7:(0:Int)<=i/\i<(c.len:Int):=f7
  have XW:i.toNat<c.len:=by omega
  cases hx with
  |cv _ blk off cp arr ty hf hc hb r=>
   refine .plain h hS hG (VR.cptr (c.row i.toNat) blk (off+i.toNat * c.es) arr ty hf ?_ fun j a v ha hv=>r i.toNat j a v XW ha hv) ?_
   ·rw[c.row_len]
    have:i.toNat * c.es+c.es<=c.len * c.es:=by rw[←aaG];exact aat _ XW
    omega
   ·simp only [Instr.indexAt,aab,asIntOf,aac,aae,run_underlying hu,if_pos f7,ay hj,he,bN]
  |cvnil _ h0=>omega
  |cvempty _ _ h0=>omega
 ·exact(ak h).elim
theorem FP{t:TypeId}{b g n es:Nat}{ix:AV}{v u:Value}(hS:SI σ)(hG:Good w0 ρ σ.h w)(hx:VR ρ (.gsl b g n es) v)(hy:VR ρ ix u)(h:run (DJ P t b g n es ix k) σ K=true):Res P w0 ρ w k K (Instr.indexAt t v u):=by
 obtain⟨d,hu,h⟩:=bQ h
 split at h
 ·rename_i e kk i hi
  have e2:=bo hy hi
  subst e2
  obtain⟨j,hj,h⟩:=cd h
  obtain⟨he,h⟩:=ar h
  have he:=aR he
  obtain⟨f7,h⟩:=aW h
  have XW:i.toNat<n:=by omega
  cases hx with
  |gsl _ _ _ _ hm c hn hh hs hc hz=>
   refine .plain h hS hG (VR.gptr b g i.toNat 0 es hm hh hs) ?_
   simp only [Instr.indexAt,aab,asIntOf,aac,aae,run_underlying hu,if_pos f7,ay hj,he,bN,aak,aap]
  |gnil _ _ _=>omega
  |gempty _ _ _ _=>omega
 ·exact(ak h).elim
theorem Jb{t:TypeId}{b g o:Nat}{ix:AV}{v u:Value}(hS:SI σ)(hG:Good w0 ρ σ.h w)(hx:VR ρ (.ptr b g o) v)(hy:VR ρ ix u)(h:run (Ix P t b g o ix k) σ K=true):Res P w0 ρ w k K (Instr.indexAt t v u):=by
 obtain⟨d,hu,z1⟩:=bQ h
 split at z1
 ·rename_i len e kk i hi
  have e2:=bo hy hi
  subst e2
  obtain⟨j,hj,z2⟩:=cd z1
  obtain⟨ho0,z3⟩:=ar z2
  obtain⟨P',z4⟩:=ar z3
  obtain⟨f7,z5⟩:=aW z4
  have ho0:=aad ho0
  have P':=aad P'
  cases hx with
  |ptr _ _ _ hm hh ho=>
   have i3:hm.shift=0->(Instr.indexAt t (.pointer (some ⟨hm.blk,o-hm.shift,none⟩)) (.int kk i)).run P w= .ok (.pointer (some ⟨hm.blk,i.toNat * 1+0,none⟩)) w:=by
    intro F'
    have e0:o-hm.shift=0:=by omega
    rw[e0]
    simp only [Instr.indexAt,aab,asIntOf,aac,aae,run_underlying hu,Instr.sureAddr,if_pos f7,ay hj,P',bN,aak,aap]
   obtain⟨q,d6,hq,e1,d5,z6⟩:=bm hS z5
   have d7:Good w0 ρ d6.h w:=by rw[e1];exact hG
   have conv:run (ac (Nat.beq g 0) (cE (pd P e len) .fail fun rows=>ng [] b g 0 len (some len) 1 rows fun _=>k (.gptr b 0 i.toNat 0 1)) .fail) d6 K=true->Res P w0 ρ w k K (Instr.indexAt t (.pointer (some ⟨hm.blk,o-hm.shift,none⟩)) (.int kk i)):=by
    intro z
    obtain⟨hg0,z7⟩:=ar z
    have hg0:=aad hg0
    obtain⟨rows,hr,z8⟩:=bO z7
    obtain⟨f9,z9,i5,i7,_,hv⟩:=dK d5 d7 (Br hr) z8
    have x6:VR ρ (.slc b g 0 len (some len) 1) (.slice (some ⟨hm.blk,0-hm.shift,none⟩) len len):=.slc _ _ _ _ _ _ _ _ ⟨aaa _,rfl,hm,hh,by omega,rfl⟩
    have:=hv ρ (.refl _) _ x6
    subst hg0
    generalize hvv:Value.slice (some ⟨hm.blk,0-hm.shift,none⟩) len len=vv at this
    cases this with
    |gsl _ _ _ _ x8 c hn i4 hs' hc hz=>
     rw[hh] at i4;injection i4 with i4;subst i4
     exact .plain z9 i5 i7 (.gptr b 0 i.toNat 0 1 hm hh hs') (i3 hs')
    |gnil _ _ _=>omega
    |gempty _ _ _ _=>omega
   cases q with
   |grow c gen ty=>
    obtain⟨k1,y1⟩:=ar z6
    obtain⟨k2,y2⟩:=ar y1
    obtain⟨k4,y3⟩:=aW y2
    have k1:=aad k1
    rcases hG.blk _ _ hq with hz|⟨x8,r1,r2,_⟩
    ·omega
    rw[←k1,hh] at r1;injection r1 with r1;subst r1
    exact .plain y3 d5 d7 (.gptr b g i.toNat 0 1 hm hh r2) (i3 r2)
   |_=>exact conv z6
 ·exact(ak z1).elim
theorem D4:∀{l:List AV} {bs:List Nat},DH l=some bs->∀i,i<bs.length->l[i]? =some (.int .u8 (Int.ofNat (bs.getD i 0)))
 | [],bs,h,i,hi=>by
  injection h with h;subst h;cases hi
 |a::r,bs,h,i,hi=>by
  unfold DH at h
  split at h
  ·rename_i e;cases e
  ·rename_i n r' e
   injection e with e1 e2
   subst e1;subst e2
   split at h
   ·split at h
    ·rename_i l' hl
     injection h with h;subst h
     cases i with
     |zero=>rfl
     |succ i=>exact D4 hl i (by simpa using hi)
    ·cases h
   ·cases h
  ·cases h
theorem Jc{t:TypeId}{l:List AV}{ix:AV}{v u:Value}(hS:SI σ)(hG:Good w0 ρ σ.h w)(hx:VR ρ (.cptr l) v)(hy:VR ρ ix u)(h:run (Iy P t l ix k) σ K=true):Res P w0 ρ w k K (Instr.indexAt t v u):=by
 obtain⟨d,hu,h⟩:=bQ h
 split at h
 ·rename_i len e kk i hi
  have e2:=bo hy hi
  subst e2
  obtain⟨j,hj,h⟩:=cd h
  obtain⟨he,h⟩:=ar h
  have he:=aR he
  obtain⟨bs,XM,h⟩:=bO h
  obtain⟨hlen,h⟩:=ar h
  have hlen:=bu hlen
  obtain⟨f7,h⟩:=aW h
  have f7:(0:Int)<=i/\i<(len:Int):=f7
  have XW:i.toNat<bs.length:=by omega
  have hg:=D4 XM _ XW
  have hll:i.toNat<l.length:=by
   rcases aaf i.toNat l.length with h'|h'
   ·exact h'
   ·rw[aaj h'] at hg;cases hg
  cases hx with
  |cptr _ blk off arr ty hf hb r=>
   refine .plain h hS hG (VR.cptr _ blk (off+i.toNat) arr ty hf (by simp;omega) fun q a v ha hv=>?_) ?_
   ·cases q with
    |zero=>
     injection ha with ha
     subst ha
     have:=r i.toNat _ v hg (by simpa using hv)
     cases this with
     |int _ _=>exact .sI _ _
    |succ q=>simp at ha
   ·simp only [Instr.indexAt,aab,asIntOf,aac,aae,run_underlying hu,Instr.sureAddr,if_pos f7,ay hj,he,aaD,bN]
 ·exact(ak h).elim
theorem uJ{t:TypeId}{x ix:AV}{v u:Value}(hS:SI σ)(hG:Good w0 ρ σ.h w)(hx:VR ρ x v)(hy:VR ρ ix u)(h:run (kW P t x ix k) σ K=true):Res P w0 ρ w k K (Instr.indexAt t v u):=by
 unfold kW at h
 split at h
 ·exact Jc hS hG hx hy h
 ·exact FO hS hG hx hy h
 ·exact FP hS hG hx hy h
 ·rcases bG h with⟨_,h⟩|⟨_,h⟩
  ·exact Jb hS hG hx hy h
  ·exact kJ hS hG hx hy h
 ·exact kJ hS hG hx hy h
theorem oC(s:ByteArray)(i:Nat):(bytesOf s)[i]? =(s[i]?).map UInt8.toNat:=by
 unfold bytesOf
 rw[aaE]
 congr 1
 by_cases h:i<s.size
 ·rw[getElem?_pos s i h]
  have h':i<s.data.toList.length:=by simpa using h
  rw[aah h']
  rfl
 ·rw[getElem?_neg s i h,aaj (by simpa using h)]
theorem FQ{t:TypeId}{x ix:AV}{v u:Value}(hS:SI σ)(hG:Good w0 ρ σ.h w)(hx:VR ρ x v)(hy:VR ρ ix u)(h:run (DK P t x ix k) σ K=true):Res P w0 ρ w k K (Instr.index t v u):=by
 obtain⟨kk,n,e,h⟩:=nm h
 subst e
 cases hy
 obtain⟨i,e,h⟩:=xW h
 subst e
 obtain⟨d,hu,h⟩:=bQ h
 cases d with
 |array len e=>
  cases hx with
  |agg l cs h1 h2=>
   obtain⟨hb,h⟩:=ar h
   have hb:=bu hb
   obtain⟨j,hj,h⟩:=cd h
   have f7:(0:Int)<=(i:Int)/\(i:Int)<(len:Int):=by omega
   refine(yh hS hG (LR.of_arr h1 h2) h).of_eq ?_
   simp only [Instr.index,aab,asIntOf,aac,aae,run_underlying hu,if_pos f7,ay hj,aaq]
  |_=>exact(ak h).elim
 |string=>
  cases hx with
  |str s=>
   obtain⟨c,hc,h⟩:=bO h
   rw[oC] at hc
   cases hs:s[i]? with
   |none=>rw[hs] at hc;cases hc
   |some cc=>
    rw[hs] at hc
    injection hc with hc
    subst hc
    refine .plain (f_ h) hS hG (.int _ _) ?_
    have h0:(0:Int)<=(i:Int):=by omega
    simp only [Instr.index,aab,asIntOf,aac,aae,run_underlying hu,if_pos h0,aaq,hs]
    rfl
  |_=>exact(ak h).elim
 |_=>exact(ak h).elim
theorem Jd{t:TypeId}{s:ByteArray}{kk:IntKind}{i:Int}(hS:SI σ)(hG:Good w0 ρ σ.h w)(h:run (Iz P t (bytesOf s) i k) σ K=true):Res P w0 ρ w k K (Instr.index t (.string s) (.int kk i)):=by
 obtain⟨d,hu,h⟩:=bQ h
 cases d with
 |string=>
  obtain⟨⟨h0,h1⟩,h⟩:=aW h
  rw[bK] at h1
  have XW:i.toNat<s.size:=by omega
  have hb:dn (bytesOf s) i.toNat=(s[i.toNat]).toNat:=by
   unfold dn
   rw[aag,oC,getElem?_pos s i.toNat XW]
   exact aa3 (UInt8.toNat_lt _)
  rw[hb] at h
  refine .plain h hS hG (.sI _ _) ?_
  simp only [Instr.index,aab,asIntOf,aac,aae,run_underlying hu,if_pos h0,getElem?_pos s i.toNat XW]
 |_=>exact(ak h).elim
theorem Je{t:TypeId}{x ix:AV}{v u:Value}(hS:SI σ)(hG:Good w0 ρ σ.h w)(hx:VR ρ x v)(hy:VR ρ ix u)(h:run (IA P t x ix k) σ K=true):Res P w0 ρ w k K (Instr.index t v u):=by
 rcases bG h with⟨_,h⟩|⟨_,h⟩
 ·split at h
  ·rename_i l kk i el ei
   obtain⟨s,e1,e2⟩:=di hx el
   have e3:=bo hy ei
   subst e1;subst e2;subst e3
   exact Jd hS hG h
  ·exact(ak h).elim
 ·exact FQ hS hG hx hy h
theorem Bs{x:AV}{v:Value}{i:Nat}(hS:SI σ)(hG:Good w0 ρ σ.h w)(hx:VR ρ x v)(h:run (xM x i k) σ K=true):Res P w0 ρ w k K (Instr.extract v i):=by
 cases hx with
 |tup l cs h1 h2=>
  obtain⟨a,ha,h⟩:=bO h
  obtain⟨u,hu,hr⟩:=(LR.of_arr h1 h2).get ha
  have hu:cs[i]? =some u:=by simpa using hu
  exact .plain h hS hG hr (by simp [Instr.extract,hu])
 |_=>exact(ak h).elim
theorem lc{ov:Option AV}{vv:Option Value}{d top:Nat}{k:Nat->Tr}(ho:OR ρ ov vv)(h:run (jn ov d top k) σ K=true):
  ∃n,run (k n) σ K=true/\((ov=none/\vv=none/\n=d)∨∃kk,ov.isSome=true/\vv=some (.int kk (n:Int))/\n<=top):=by
 cases ov with
 |none=>
  cases vv with
  |none=>exact⟨d,h,.inl ⟨rfl,rfl,rfl⟩⟩
  |some v=>exact ho.elim
 |some a=>
  cases vv with
  |none=>exact ho.elim
  |some v=>
   obtain⟨kk,n,e,h⟩:=nm h
   subst e
   cases ho
   obtain⟨i,e,h⟩:=xW h
   subst e
   obtain⟨hb,h⟩:=ar h
   exact⟨i,h,.inr ⟨kk,rfl,rfl,bu hb⟩⟩
theorem aQ{kk:IntKind}{n y:Nat}{code:BoundsCode}(h:n<=y):(Instr.sliceBound (.int kk (n:Int)) y code).run P w= .ok n w:=by
 simp [Instr.sliceBound,asIntOf,h]
theorem yi{isS:Bool}{len cap c:Nat}{lo hi mx:Option AV}{lo' hi' XB:Option Value}{k:Nat->Nat->Nat->Tr}(XR:len<=cap)(X9:cap<=c)(hmx:mx=none->c=cap)(h1:OR ρ lo lo')(h2:OR ρ hi hi')(h3:OR ρ mx XB)(h:run (im len cap lo hi mx k) σ K=true):
  ∃l hh m,run (k l hh m) σ K=true/\(Instr.sliceBounds isS len c lo' hi' XB).run P w= .ok (l,hh,m) w/\l<=hh/\hh<=m/\m<=cap:=by
 obtain⟨m,h,hm⟩:=lc h3 h
 have i3:∃hh l,run (k l hh m) σ K=true/\((hi=none/\hi'=none/\hh=len/\mx=none)∨∃kk,hi'=some (.int kk (hh:Int))/\hh<=m)/\((lo=none/\lo'=none/\l=0)∨∃kk,lo.isSome=true/\lo'=some (.int kk (l:Int))/\l<=hh):=by
  cases hi with
  |none=>
   cases mx with
   |some _=>exact(ak h).elim
   |none=>
    obtain⟨hh,h,ZK⟩:=lc (d:=len) (top:=m) (k:=fun h=>jn lo 0 h fun l=>k l h m) h2 h
    obtain⟨l,h,hl⟩:=lc (k:=fun l=>k l hh m) h1 h
    refine⟨hh,l,h, ?_,hl⟩
    rcases ZK with⟨a,b,c⟩|⟨kk,a,b,c⟩
    ·exact .inl ⟨rfl,b,c,rfl⟩
    ·simp at a
  |some x=>
   obtain⟨hh,h,ZK⟩:=lc (d:=len) (top:=m) (k:=fun h=>jn lo 0 h fun l=>k l h m) h2 (by cases mx <;> exact h)
   obtain⟨l,h,hl⟩:=lc (k:=fun l=>k l hh m) h1 h
   refine⟨hh,l,h, ?_,hl⟩
   rcases ZK with⟨a,b,c⟩|⟨kk,a,b,c⟩
   ·cases a
   ·exact .inr ⟨kk,b,c⟩
 obtain⟨hh,l,hk,ZK,ZA⟩:=i3
 have hmc:m<=cap:=by rcases hm with⟨_,_,e⟩|⟨_,_,_,e⟩ <;> omega
 have hhm:hh<=m:=by
  rcases ZK with⟨_,_,e,emx⟩|⟨_,_,e⟩
  ·rcases hm with⟨_,_,em⟩|⟨_,em,_,_⟩
   ·omega
   ·rw[emx] at em;simp at em
  ·exact e
 have hll:l<=hh:=by rcases ZA with⟨_,_,e⟩|⟨_,_,_,e⟩ <;> omega
 refine⟨l,hh,m,hk, ?_,hll,hhm,hmc⟩
 rcases hm with⟨em1,em2,em3⟩|⟨km,em1,em2,em3⟩
 ·subst em2
  rcases ZK with⟨_,eh,Zm,_⟩|⟨kh,eh,Zm⟩
  ·subst eh;subst Zm;rw[←hmx em1] at em3;subst em3
   rcases ZA with⟨_,el,Yn⟩|⟨kl,_,el,Yn⟩
   ·subst el;subst Yn;simp [Instr.sliceBounds]
   ·subst el;simp [Instr.sliceBounds,aQ Yn]
  ·subst eh;rw[←hmx em1] at em3;subst em3
   rcases ZA with⟨_,el,Yn⟩|⟨kl,_,el,Yn⟩
   ·subst el;subst Yn;simp [Instr.sliceBounds,aQ Zm]
   ·subst el;simp [Instr.sliceBounds,aQ Yn,aQ Zm]
 ·subst em2
  rcases ZK with⟨_,eh,Zm,e⟩|⟨kh,eh,Zm⟩
  ·rw[e] at em1;simp at em1
  ·subst eh
   rcases ZA with⟨_,el,Yn⟩|⟨kl,_,el,Yn⟩
   ·subst el;subst Yn;simp [Instr.sliceBounds,aQ Zm,aQ (aaR em3 X9)]
   ·subst el;simp [Instr.sliceBounds,aQ Yn,aQ Zm,aQ (aaR em3 X9)]
theorem pm{isS:Bool}{len cap:Nat}{lo hi mx:Option AV}{lo' hi' XB:Option Value}{k:Nat->Nat->Nat->Tr}(XR:len<=cap)(h1:OR ρ lo lo')(h2:OR ρ hi hi')(h3:OR ρ mx XB)(h:run (im len cap lo hi mx k) σ K=true):
  ∃l hh m,run (k l hh m) σ K=true/\(Instr.sliceBounds isS len cap lo' hi' XB).run P w= .ok (l,hh,m) w/\l<=hh/\hh<=m/\m<=cap:=
 yi XR (aaa _) (fun _=>rfl) h1 h2 h3 h
end
end Go.Sym
namespace Go.Sym
open Go.RowKit (Below)
section
variable{P:Program}{w0:World}{ρ:Rho}{w:World}{σ:St}{K:Fin}{k:AV->Tr}
theorem pY{b g o s l h m:Nat}{hm:Home}(hh:ρ.at_ b g=some hm)(ho:hm.shift<=o)(hhm:h<=m)(hr:run (xL b g o s l h m k) σ K=true):
  ∃r,run (k r) σ K=true/\VR ρ r (.slice (some (if m=l then⟨hm.blk,o-hm.shift,none⟩ else(⟨hm.blk,o-hm.shift,none⟩:Addr).add (l * s))) (h-l) (m-l)):=by
 unfold xL at hr
 have hr:=f_ hr
 have hr:=f_ hr
 rcases bG hr with⟨e,hr⟩|⟨e,hr⟩
 ·have e:=aR e
  refine⟨_,hr, ?_⟩
  rw[if_pos e]
  exact .slc _ _ _ _ _ _ _ _ ⟨by omega,rfl,hm,hh,ho,rfl⟩
 ·have e:¬m=l:=fun e'=>by subst e';simp at e
  have hr:=f_ hr
  refine⟨_,hr, ?_⟩
  rw[if_neg e,dj ho]
  exact .slc _ _ _ _ _ _ _ _ ⟨by omega,rfl,hm,hh,by omega,rfl⟩
theorem Jf{b g o s l h len c:Nat}{a:Addr}(hs:SlOk ρ b g o len none s a c)(hl:l<=h)(hh:h<=len)(hr:run (IC b g o s l h k) σ K=true):
  ∃r,run (k r) σ K=true/\VR ρ r (.slice (some (if c=l then a else a.add (l * s))) (h-l) (c-l)):=by
 obtain⟨hlen,hs⟩:=hs
 unfold IC at hr
 have hr:=f_ hr
 rcases bG hr with⟨e,hr⟩|⟨e,hr⟩
 ·have e:=aR e
  subst e
  refine⟨_,hr, ?_⟩
  have ea:(if c=0 then a else a.add (0 * s))=a:=by
   split
   ·rfl
   ·unfold Addr.add;simp
  rw[ea]
  refine .slc _ _ _ _ _ _ _ _ ⟨by omega, ?_⟩
  rcases hs with⟨h1,h2⟩|⟨hm,h1,h2,h3,h4⟩
  ·exact .inl ⟨by omega,by omega⟩
  ·exact .inr ⟨hm,h1,h2,h3,by simpa using h4⟩
 ·have e:¬l=0:=fun e'=>by subst e';simp at e
  have hr:=f_ hr
  refine⟨_,hr, ?_⟩
  refine .slc _ _ _ _ _ _ _ _ ⟨by omega, ?_⟩
  by_cases hc:c=l
  ·exact .inl ⟨by omega,by omega⟩
  ·rcases hs with⟨h1,h2⟩|⟨hm,h1,h2,h3,h4⟩
   ·omega
   ·refine .inr ⟨hm,h1,by omega, ?_, ?_⟩
    ·rw[if_neg hc,h3,dj h2]
    ·have:c * s=l * s+(c-l) * s:=by rw[←aav];congr 1;omega
     omega
theorem iw{α:Type}{p:Prop}[Decidable p]{a b:α}:(if p then some a else some b)=some (if p then a else b):=by split <;> rfl
theorem J0a{t:TypeId}{s:ByteArray}{lo hi mx:Option AV}{lo' hi' XB:Option Value}(hS:SI σ)(hG:Good w0 ρ σ.h w)(h1:OR ρ lo lo')(h2:OR ρ hi hi')(h3:OR ρ mx XB)
  (hu:P.underlying t=some .string) (h:run (Ba (bytesOf s) lo hi mx k) σ K=true):Res P w0 ρ w k K (Instr.sliceAt t (.string s) lo' hi' XB):=by
 cases mx with
 |some _=>exact(ak h).elim
 |none=>
  cases XB with
  |some _=>exact h3.elim
  |none=>
   have hn:(bytesOf s).length=s.size:=by unfold bytesOf;rw[aaO];rfl
   unfold Ba at h
   have h:=f_ h
   obtain⟨l,hh,m,h,hb,hl,hm,hc⟩:=pm (P:=P) (w:=w) (isS:=false) (aaa _) h1 h2 h3 h
   have h:=Bn h
   refine .plain h hS hG (v:=.string (s.extract l hh)) ?_ ?_
   ·have e:((bytesOf s).take hh).drop l=bytesOf (s.extract l hh):=by
     unfold bytesOf
     rw[←List.map_take, ←List.map_drop,ByteArray.data_extract,Array.toList_extract,abv,abq]
    rw[e];exact .str _
   ·rw[hn] at hb
    simp only [Instr.sliceAt,Instr.slice,aab,run_underlying hu,aae,aa2,Bool.false_eq_true,if_false,aac]
    simp [hb,aae]
theorem Bu{t:TypeId}{x:AV}{v:Value}{lo hi mx:Option AV}{lo' hi' XB:Option Value}(hS:SI σ)(hG:Good w0 ρ σ.h w)(hx:VR ρ x v)(h1:OR ρ lo lo')(h2:OR ρ hi hi')(h3:OR ρ mx XB)
  (h:run (DM P t x lo hi mx k) σ K=true):Res P w0 ρ w k K (Instr.sliceAt t v lo' hi' XB):=by
 obtain⟨d,hu,h⟩:=bQ h
 cases d with
 |array n e=>
  cases hx with
  |ptr b g o hm hh ho=>
   obtain⟨l,hi,m,h,hb,hl,hhm,hc⟩:=pm (P:=P) (w:=w) (isS:=false) (aaa _) h1 h2 h3 h
   obtain⟨j,hj,h⟩:=cd h
   obtain⟨r,h,hr⟩:=pY hh ho hhm h
   refine .plain h hS hG hr ?_
   simp only [Instr.sliceAt,aab,run_underlying hu,aae,Instr.sureAddr,aac,hb,ay hj]
  |_=>exact(ak h).elim
 |string=>
  cases hx with
  |str s=>exact J0a hS hG h1 h2 h3 hu h
  |_=>exact(ak h).elim
 |slice e=>
  cases hx with
  |nils=>
   obtain⟨j,hj,h⟩:=cd h
   obtain⟨l,hi,m,h,hb,hl,hhm,hc⟩:=pm (P:=P) (w:=w) (isS:=true) (aaa _) h1 h2 h3 h
   have:m=0:=by omega
   subst this
   have:hi=0:=by omega
   subst this
   have:l=0:=by omega
   subst this
   refine .plain h hS hG .nils ?_
   simp only [Instr.sliceAt,Instr.slice,aab,run_underlying hu,aae,aac,hb,ay hj,if_true,aa_]
  |slc b g o len cap es a c x6=>
   cases cap with
   |some c'=>
    obtain⟨j,hj,h⟩:=cd h
    obtain⟨p8,h⟩:=ar h
    have p8:=aR p8
    obtain⟨hlen,ec,hm,hh,ho,ea⟩:=x6
    subst ec;subst ea
    obtain⟨l,hi,m,h,hb,hl,hhm,hc⟩:=pm (P:=P) (w:=w) (isS:=true) hlen h1 h2 h3 h
    obtain⟨r,h,hr⟩:=pY hh ho hhm h
    refine .plain h hS hG hr ?_
    subst p8
    simp only [Instr.sliceAt,Instr.slice,aab,run_underlying hu,aae,aac,hb,ay hj,aaQ,iw]
   |none=>
    obtain⟨j,hj,h⟩:=cd h
    obtain⟨p8,h⟩:=ar h
    have p8:=aR p8
    subst p8
    cases mx with
    |none=>
     cases XB with
     |some _=>exact h3.elim
     |none=>
      unfold DL at h
      obtain⟨hh,h,ZK⟩:=lc (d:=len) (top:=len) h2 h
      obtain⟨l,h,ZA⟩:=lc (d:=0) (top:=hh) h1 h
      have hle:hh<=len:=by rcases ZK with⟨_,_,e⟩|⟨_,_,_,e⟩ <;> omega
      have hll:l<=hh:=by rcases ZA with⟨_,_,e⟩|⟨_,_,_,e⟩ <;> omega
      obtain⟨r,h,hr⟩:=Jf x6 hll hle h
      refine .plain h hS hG hr ?_
      have hb:(Instr.sliceBounds true len c lo' hi' none).run P w= .ok (l,hh,c) w:=by
       have Q':=x6.1
       rcases ZK with⟨_,eh,Zm⟩|⟨kh,_,eh,Zm⟩
       ·subst eh;subst Zm
        rcases ZA with⟨_,el,Yn⟩|⟨kl,_,el,Yn⟩
        ·subst el;subst Yn;simp [Instr.sliceBounds]
        ·subst el;simp [Instr.sliceBounds,aQ Yn]
       ·subst eh
        rcases ZA with⟨_,el,Yn⟩|⟨kl,_,el,Yn⟩
        ·subst el;subst Yn;simp [Instr.sliceBounds,aQ (aaR Zm Q')]
        ·subst el;simp [Instr.sliceBounds,aQ Yn,aQ (aaR Zm Q')]
      simp only [Instr.sliceAt,Instr.slice,aab,run_underlying hu,aae,aac,hb,ay hj,aaQ,iw]
    |some y=>
     obtain⟨hz,h⟩:=md h
     have hz:len≠0:=by intro e;subst e;simp at hz
     obtain⟨XR,hs⟩:=x6
     obtain⟨l,hi,m,h,hb,hl,hhm,hc⟩:=yi (P:=P) (w:=w) (isS:=true) (aaa _) XR (fun e=>by cases e) h1 h2 h3 h
     rcases hs with⟨h1',h2'⟩|⟨hm,hh,ho,ea,X8⟩
     ·omega
     ·subst ea
      obtain⟨r,h,hr⟩:=pY hh ho hhm h
      refine .plain h hS hG hr ?_
      simp only [Instr.sliceAt,Instr.slice,aab,run_underlying hu,aae,aac,hb,ay hj,aaQ,iw]
  |_=>exact(ak h).elim
 |_=>exact(ak h).elim
theorem dB{ov:Option AV}{vv:Option Value}{d:Int}{k:Int->Tr}(ho:OR ρ ov vv)(h:run (cD ov d k) σ K=true):
  ∃n,run (k n) σ K=true/\((vv=none/\n=d)∨∃kk,vv=some (.int kk n)):=by
 cases ov with
 |none=>
  cases vv with
  |none=>exact⟨d,h,.inl ⟨rfl,rfl⟩⟩
  |some v=>exact ho.elim
 |some a=>
  cases vv with
  |none=>exact ho.elim
  |some v=>
   unfold cD at h
   simp only at h
   split at h
   ·rename_i kk n hi
    exact⟨n,h,.inr ⟨kk,by rw[bo ho hi]⟩⟩
   ·exact(ak h).elim
theorem bV{isS:Bool}{len c:Nat}{lo' hi':Option Value}{l h:Int}(XR:len<=c)(hl:(lo'=none/\l=0)∨∃kk,lo'=some (.int kk l))(hh:(hi'=none/\h=(len:Int))∨∃kk,hi'=some (.int kk h))
  (hr:0<=l/\l<=h/\h<=(len:Int)):(Instr.sliceBounds isS len c lo' hi' none).run P w= .ok (l.toNat,h.toNat,c) w:=by
 obtain⟨a,ea⟩:∃a:Nat,l=(a:Int):=⟨l.toNat,by omega⟩
 obtain⟨b,eb⟩:∃b:Nat,h=(b:Int):=⟨h.toNat,by omega⟩
 subst ea;subst eb
 simp only [aaq]
 have YH:a<=b:=by omega
 have Y0:b<=len:=by omega
 rcases hh with⟨eh,Zm⟩|⟨kh,eh⟩
 ·subst eh
  have:b=len:=by omega
  subst this
  rcases hl with⟨el,Yn⟩|⟨kl,el⟩
  ·subst el
   have:a=0:=by omega
   subst this
   simp [Instr.sliceBounds]
  ·subst el;simp [Instr.sliceBounds,aQ YH]
 ·subst eh
  rcases hl with⟨el,Yn⟩|⟨kl,el⟩
  ·subst el
   have:a=0:=by omega
   subst this
   simp [Instr.sliceBounds,aQ (aaR Y0 XR)]
  ·subst el;simp [Instr.sliceBounds,aQ YH,aQ (aaR Y0 XR)]
theorem yj{t:TypeId}{x:AV}{v:Value}{lo hi mx:Option AV}{lo' hi' XB:Option Value}(hS:SI σ)(hG:Good w0 ρ σ.h w)(hx:VR ρ x v)(h1:OR ρ lo lo')(h2:OR ρ hi hi')(h3:OR ρ mx XB)
  (h:run (sM P t x lo hi mx k) σ K=true):Res P w0 ρ w k K (Instr.sliceAt t v lo' hi' XB):=by
 obtain⟨d,hu,h⟩:=bQ h
 split at h
 ·rename_i e c _
  cases XB with
  |some _=>exact h3.elim
  |none=>
  obtain⟨j,hj,h⟩:=cd h
  obtain⟨he,h⟩:=ar h
  have he:=aR he
  obtain⟨b,h8,hb⟩:=dB h2 h
  obtain⟨a,h7,ha⟩:=dB h1 h8
  obtain⟨hr,h9⟩:=aW h7
  clear h h8 h7
  cases hx with
  |cv _ blk off cp arr ty hf hc hbd r=>
   have XM:=bV (P:=P) (w:=w) (isS:=true) hc ha hb hr
   obtain⟨a,rfl⟩:∃q:Nat,a=(q:Int):=⟨a.toNat,by omega⟩
   obtain⟨b,rfl⟩:∃q:Nat,b=(q:Int):=⟨b.toNat,by omega⟩
   simp only [aaq] at XM h9
   have YH:a<=b:=by omega
   have X6:b<=c.len:=by omega
   have hlen:=c.cut_len YH X6
   have p8:=c.cut_es a b
   have hmul:a * c.es+(b-a) * c.es=b * c.es:=by rw[←aav];congr 1;omega
   have af2:b * c.es<=c.len * c.es:=aat _ X6
   have i3:(Instr.sliceAt t (.slice (some ⟨blk,off,none⟩) c.len cp) lo' hi' none).run P w= .ok (.slice (some (if cp=a then⟨blk,off,none⟩ else⟨blk,off+a * j.size,none⟩)) (b-a) (cp-a)) w:=by
    simp only [Instr.sliceAt,Instr.slice,aab,run_underlying hu,aae,aac,XM,ay hj,aaQ,iw,bN]
   rw[he] at i3
   by_cases hca:cp=a
   ·rw[if_pos hca] at i3
    have hba:b-a=0:=by omega
    have hz:off+(c.cut a b).len * (c.cut a b).es<=arr.size:=by rw[hlen,hba,aa8];omega
    have:=VR.cv (ρ:=ρ) (c.cut a b) blk off (cp-a) arr ty hf (by omega) hz (fun i q av u hi hq hu2=>by omega)
    rw[hlen] at this
    exact .plain h9 hS hG this i3
   ·rw[if_neg hca] at i3
    have:=VR.cv (ρ:=ρ) (c.cut a b) blk (off+a * c.es) (cp-a) arr ty hf (by omega) (by rw[hlen,p8];omega) (fun i q av u hi hq hu2=>by
     rw[hlen] at hi
     rw[c.cut_row (by omega)] at hq
     rw[p8] at hu2
     exact r (a+i) q av u (by omega) hq (by rw[←hu2];congr 1;rw[aav];omega))
    rw[hlen] at this
    exact .plain h9 hS hG this i3
  |cvnil _ h0=>
   rw[h0] at hb hr
   have XM:=bV (P:=P) (w:=w) (isS:=true) (c:=0) (aaa 0) ha hb hr
   obtain rfl:a=0:=by have:=hr.2.2;omega
   obtain rfl:b=0:=by have:=hr.2.2;omega
   refine .plain h9 hS hG (.cvnil _ (by rw[c.cut_len (by simp) (by simp)];rfl)) ?_
   simp only [Int.toNat_zero] at XM
   simp only [Instr.sliceAt,Instr.slice,aab,run_underlying hu,aae,aac,XM,ay hj,if_true,aa_]
  |cvempty _ ad h0=>
   rw[h0] at hb hr
   have XM:=bV (P:=P) (w:=w) (isS:=true) (c:=0) (aaa 0) ha hb hr
   obtain rfl:a=0:=by have:=hr.2.2;omega
   obtain rfl:b=0:=by have:=hr.2.2;omega
   refine .plain h9 hS hG (.cvempty _ ad (by rw[c.cut_len (by simp) (by simp)];rfl)) ?_
   simp only [Int.toNat_zero] at XM
   simp only [Instr.sliceAt,Instr.slice,aab,run_underlying hu,aae,aac,XM,ay hj,if_true,aa_,aaQ]
 ·rename_i x2 _
  cases XB with
  |some _=>exact h3.elim
  |none=>
  split at h
  ·rename_i l hl
   obtain⟨s,e1,e2⟩:=di hx hl
   subst e1;subst e2
   obtain⟨b,h,hb⟩:=dB h2 h
   obtain⟨a,h,ha⟩:=dB h1 h
   obtain⟨hr,h⟩:=aW h
   rw[bK] at hb hr
   have XM:=bV (P:=P) (w:=w) (isS:=false) (aaa s.size) ha hb hr
   refine .plain h hS hG (v:=.string (s.extract a.toNat b.toNat)) ?_ ?_
   ·have e:((bytesOf s).take b.toNat).drop a.toNat=bytesOf (s.extract a.toNat b.toNat):=by
     unfold bytesOf
     rw[←List.map_take, ←List.map_drop,ByteArray.data_extract,Array.toList_extract,abv,abq]
    rw[e];exact .sS _
   ·simp only [Instr.sliceAt,Instr.slice,aab,run_underlying hu,aae,aa2,Bool.false_eq_true,if_false,aac]
    simp [XM,aae]
  ·exact(ak h).elim
 ·exact(ak h).elim
theorem pZ{t:TypeId}{x:AV}{v:Value}{lo hi mx:Option AV}{lo' hi' XB:Option Value}(hS:SI σ)(hG:Good w0 ρ σ.h w)(hx:VR ρ x v)(h1:OR ρ lo lo')(h2:OR ρ hi hi')(h3:OR ρ mx XB)
  (h:run (uv P t x lo hi mx k) σ K=true):Res P w0 ρ w k K (Instr.sliceAt t v lo' hi' XB):=by
 rcases bG h with⟨_,h⟩|⟨_,h⟩
 ·exact yj hS hG hx h1 h2 h3 h
 ·exact Bu hS hG hx h1 h2 h3 h
theorem OR.mono{ρ ρ':Rho}(hle:ρ.le ρ'){a:Option AV}{v:Option Value}(h:OR ρ a v):OR ρ' a v:=by
 cases a <;> cases v <;> first|trivial|exact h.elim|exact VR.mono hle h
theorem sY{t e:TypeId}{n blk:Nat}{c:Ct}{j:TypeInfo}{lo hi:Option AV}{lo' hi':Option Value}(hS:SI σ)(hG:Good w0 ρ σ.h w)(hu:P.underlying t=some (.array n e))(hj:P.info? e=some j)(Q':c.len=n)(he:c.es=j.size)(hn:0<n)
  (hv:VR ρ (.cv c) (.slice (some ⟨blk,0,none⟩) n n)) (h1:OR ρ lo lo') (h2:OR ρ hi hi') (h:run (uw n c lo hi k) σ K=true):Res P w0 ρ w k K (Instr.sliceAt t (.pointer (some ⟨blk,0,none⟩)) lo' hi' none):=by
 obtain⟨b,h8,hb⟩:=dB h2 h
 obtain⟨a,h7,ha⟩:=dB h1 h8
 obtain⟨hr,h9⟩:=aW h7
 clear h h8 h7
 have XM:=bV (P:=P) (w:=w) (isS:=false) (aaa n) ha hb hr
 obtain⟨a,rfl⟩:∃q:Nat,a=(q:Int):=⟨a.toNat,by omega⟩
 obtain⟨b,rfl⟩:∃q:Nat,b=(q:Int):=⟨b.toNat,by omega⟩
 simp only [aaq] at XM h9
 have YH:a<=b:=by omega
 have X6:b<=n:=by omega
 have hlen:=c.cut_len YH (by omega:b<=c.len)
 have p8:=c.cut_es a b
 have hmul:a * c.es+(b-a) * c.es=b * c.es:=by rw[←aav];congr 1;omega
 have af2:b * c.es<=c.len * c.es:=aat _ (by omega)
 have i3:(Instr.sliceAt t (.pointer (some ⟨blk,0,none⟩)) lo' hi' none).run P w= .ok (.slice (some (if n=a then⟨blk,0,none⟩ else⟨blk,0+a * j.size,none⟩)) (b-a) (n-a)) w:=by
  simp only [Instr.sliceAt,Instr.slice,aab,run_underlying hu,aae,Instr.sureAddr,aac,XM,ay hj,aaQ,iw,bN]
 rw[←he] at i3
 generalize hvv:Value.slice (some ⟨blk,0,none⟩) n n=vv at hv
 cases hv with
 |cv _ ak1 off cp arr ty hf hc hbd r=>
  injection hvv with e1 e2 e3
  injection e1 with e1
  injection e1 with e4 e5
  subst e4;subst e5;subst e3
  by_cases hca:n=a
  ·rw[if_pos hca] at i3
   have hz:0+(c.cut a b).len * (c.cut a b).es<=arr.size:=by rw[hlen,show b-a=0 by omega,aa8];omega
   have:=VR.cv (ρ:=ρ) (c.cut a b) blk 0 (n-a) arr ty hf (by omega) hz (fun i q av u hi hq hu2=>by omega)
   rw[hlen] at this
   exact .plain h9 hS hG this i3
  ·rw[if_neg hca] at i3
   have:=VR.cv (ρ:=ρ) (c.cut a b) blk (0+a * c.es) (n-a) arr ty hf (by omega) (by rw[hlen,p8];omega) (fun i q av u hi hq hu2=>by
    rw[hlen] at hi
    rw[c.cut_row (by omega)] at hq
    rw[p8] at hu2
    exact r (a+i) q av u (by omega) hq (by rw[←hu2];congr 1;rw[aav];omega))
   rw[hlen] at this
   exact .plain h9 hS hG this i3
 |cvnil _ h0=>omega
 |cvempty _ _ h0=>omega
theorem Jg{t:TypeId}{b g o:Nat}{q:ABlk}{v:Value}{lo hi mx:Option AV}{lo' hi' XB:Option Value}(hS:SI σ)(hG:Good w0 ρ σ.h w)(d8:b+1<2 ^ 64)(hq:σ.h.get b=some q)(hx:VR ρ (.ptr b g o) v)(h1:OR ρ lo lo')(h2:OR ρ hi hi')(h3:OR ρ mx XB)
  (h:run (ID P t b g o q lo hi mx k) σ K=true):Res P w0 ρ w k K (Instr.sliceAt t v lo' hi' XB):=by
 obtain⟨d,hu,z1⟩:=bQ h
 split at z1
 ·rename_i n e
  cases XB with
  |some _=>exact h3.elim
  |none=>
  obtain⟨j,hj,z2⟩:=cd z1
  obtain⟨ho0,z3⟩:=ar z2
  have ho0:=aad ho0
  cases hx with
  |ptr _ _ _ hm hh ho=>
   have e0:o-hm.shift=0:=by omega
   rw[e0]
   split at z3
   ·rename_i c gen ty
    obtain⟨k1,y1⟩:=ar z3
    obtain⟨k2,y2⟩:=ar y1
    obtain⟨k3,y3⟩:=ar y2
    obtain⟨k4,y4⟩:=aW y3
    clear h z1 z2 z3 y1 y2 y3
    have k1:=aad k1
    have k2:=aad k2
    have k3:=bu k3
    subst k1
    rcases hG.blk _ _ hq with hz|⟨x8,r1,r2,r3,arr,fr,r4,r5,r6,_⟩
    ·omega
    rw[hh] at r1;injection r1 with r1;subst r1
    have hgv:VR ρ (.gsl b g n c.es) (.slice (some ⟨hm.blk,0,none⟩) n n):=.gsl b g n c.es hm n (by omega) hh r2 (aaa _) (by rw[←k4];exact r6)
    rcases bG y4 with⟨hb,y5⟩|⟨_,y5⟩
    ·obtain⟨hb1,Y4⟩:=aM hb
     have lo0:lo=none:=by cases lo with|none=>rfl|some _=>cases hb1
     have hi0:hi=none:=by cases hi with|none=>rfl|some _=>cases Y4
     subst lo0;subst hi0
     cases lo' with
     |some _=>exact h1.elim
     |none=>
     cases hi' with
     |some _=>exact h2.elim
     |none=>
     rw[←k2] at y5
     refine .plain y5 hS hG hgv ?_
     have XM:=bV (P:=P) (w:=w) (isS:=false) (lo':=none) (hi':=none) (l:=0) (h:=(n:Int)) (aaa n) (.inl ⟨rfl,rfl⟩) (.inl ⟨rfl,rfl⟩) (by omega)
     simp only [aaq,Int.toNat_zero] at XM
     have Y5:n≠0:=by omega
     simp only [Instr.sliceAt,Instr.slice,aab,run_underlying hu,aae,Instr.sureAddr,aac,XM,ay hj,aaQ,iw,bN,if_neg Y5,aa8,aak,abg]
    ·obtain⟨ZA,y6⟩:=ar y5
     have ZA:=bu ZA
     obtain⟨x0,f9,U',e2,i5,_,y7⟩:=cI hS y6
     obtain⟨ρ',f1,f2,f3⟩:=hG.freeze hq d8 ZA
     rw[←k4] at hgv
     have hcv:=f3 ρ' (.refl _) _ (hgv.mono f1)
     rw[k4] at hcv
     obtain⟨av,c9,ρ2,v2,w2,q1,q2,q3,q4,q5,q6⟩:=sY i5 (by rw[e2];exact f2) hu hj k4 k2 (by omega) hcv (h1.mono f1) (h2.mono f1) y7
     exact⟨av,c9,ρ2,v2,w2,q1,q2,q3,f1.trans q4,q5,q6⟩
   ·rename_i c gen
    obtain⟨k1,y1⟩:=ar z3
    obtain⟨k2,y2⟩:=ar y1
    obtain⟨k3,y3⟩:=ar y2
    obtain⟨k4,y4⟩:=aW y3
    clear h z1 z2 z3 y1 y2 y3
    have k1:=aad k1
    have k2:=aad k2
    have k3:=bu k3
    subst k1
    have hB:=hG.blk _ _ hq
    have hB2:=hB
    rcases hB with hz|⟨x8,arr,ty,r1,r2,r3,r4,_⟩
    ·omega
    rw[hh] at r1;injection r1 with r1;subst r1
    obtain⟨⟨fr,hw⟩,_⟩:=hG.frz _ _ _ r3
    have hcv:VR ρ (.cv c) (.slice (some ⟨hm.blk,0,none⟩) n n):=by
     rw[←k4]
     rcases hB2 with hz|⟨x8,m7,XI,s1,s2,s3,s4,s5⟩
     ·omega
     rw[hh] at s1;injection s1 with s1;subst s1
     refine .cv c hm.blk 0 c.len m7 XI s3 (aaa _) (by omega) fun i j' a u hi ha hu'=>?_
     obtain⟨u2,u3,u4⟩:=s5 i hi j' a ha
     rw[aak,u3] at hu'
     injection hu' with hu'
     subst hu'
     exact u4
    exact sY hS hG hu hj k4 k2 (by omega) hcv h1 h2 y4
   ·exact(ak z3).elim
 ·exact(ak z1).elim
theorem Jh{t:TypeId}{b g n es:Nat}{v:Value}{lo hi mx:Option AV}{lo' hi' XB:Option Value}(hS:SI σ)(hG:Good w0 ρ σ.h w)(hx:VR ρ (.gsl b g n es) v)(h1:OR ρ lo lo')(h2:OR ρ hi hi')(h3:OR ρ mx XB)
  (h:run (QJ P t b g n es lo hi mx k) σ K=true):Res P w0 ρ w k K (Instr.sliceAt t v lo' hi' XB):=by
 obtain⟨d,hu,h⟩:=bQ h
 cases mx with
 |some _=>exact(ak h).elim
 |none=>
 cases XB with
 |some _=>exact h3.elim
 |none=>
 cases d with
 |slice e=>
  obtain⟨j,hj,h⟩:=cd h
  obtain⟨he,h⟩:=ar h
  have he:=aR he
  obtain⟨O',h8,hb⟩:=dB h2 h
  clear h
  have key:∀(l:Int) (c:Nat) (blk:Nat),n<=c->((lo'=none/\l=0)∨∃kk,lo'=some (.int kk l))->0<=l/\l<=O'/\O'<=(n:Int)->
    (Instr.sliceAt t (.slice (some ⟨blk,0,none⟩) n c) lo' hi' none).run P w= .ok (.slice (some (if c=l.toNat then⟨blk,0,none⟩ else⟨blk,l.toNat * es,none⟩)) (O'.toNat-l.toNat) (c-l.toNat)) w:=fun l c blk hc hl hr=>by
   have XM:=bV (P:=P) (w:=w) (isS:=true) hc hl hb hr
   simp only [Instr.sliceAt,Instr.slice,aab,run_underlying hu,aae,aac,XM,ay hj,aaQ,iw,bN,aak,he]
  have ZC:∀(a:Option Addr) (l:Int),n=0->((lo'=none/\l=0)∨∃kk,lo'=some (.int kk l))->l=0->O'=0->(Instr.sliceAt t (.slice a 0 0) lo' hi' none).run P w= .ok (.slice a 0 0) w:=fun a l h0 hl el eh=>by
   subst el;subst eh
   rw[h0] at hb
   have XM:=bV (P:=P) (w:=w) (isS:=true) (c:=0) (aaa 0) hl hb ⟨by omega,by omega,by simp⟩
   simp only [Int.toNat_zero] at XM
   cases a <;> simp only [Instr.sliceAt,Instr.slice,aab,run_underlying hu,aae,aac,XM,ay hj,if_true,aa_,aaQ,Option.map_none]
  obtain⟨l,h10,hl⟩:=dB h1 h8
  clear h8
  rcases cO h10 with⟨h0,h11⟩|⟨h0,h11⟩
  ·obtain⟨⟨el,eh⟩,h12⟩:=aW h11
   cases hx with
   |gsl _ _ _ _ hm c hn hh hs hc hz=>omega
   |gnil _ _ _=>exact .plain h12 hS hG (.gnil _ _ _) (ZC none l rfl hl el eh)
   |gempty _ _ _ a=>exact .plain h12 hS hG (.gempty _ _ _ a) (ZC (some a) l rfl hl el eh)
  ·obtain⟨hr,h12⟩:=aW h11
   cases hx with
   |gsl _ _ _ _ hm c hn hh hs hc hz=>
    have i3:=key l c hm.blk hc hl hr
    have hlen:(O'-l).toNat=O'.toNat-l.toNat:=by omega
    rw[hlen] at h12
    refine .plain h12 hS hG (.slc _ _ _ _ _ _ _ _ ⟨by omega, ?_⟩) i3
    by_cases hca:c=l.toNat
    ·exact .inl ⟨by omega,by omega⟩
    ·refine .inr ⟨hm,hh,by omega,by rw[if_neg hca,hs,abg], ?_⟩
     have:c * es=l.toNat * es+(c-l.toNat) * es:=by rw[←aav];congr 1;omega
     omega
   |gnil _ _ _=>exact absurd rfl h0
   |gempty _ _ _ a=>exact absurd rfl h0
 |_=>exact(ak h).elim
theorem FT{t:TypeId}{x:AV}{v:Value}{lo hi mx:Option AV}{lo' hi' XB:Option Value}(hS:SI σ)(hG:Good w0 ρ σ.h w)(hx:VR ρ x v)(h1:OR ρ lo lo')(h2:OR ρ hi hi')(h3:OR ρ mx XB)
  (h:run (Bb P t x lo hi mx k) σ K=true):Res P w0 ρ w k K (Instr.sliceAt t v lo' hi' XB):=by
 unfold Bb at h
 split at h
 ·exact Jh hS hG hx h1 h2 h3 h
 ·have d8:=cN hS h
  obtain⟨q,d6,hq,e1,d5,z⟩:=bm hS h
  have d7:Good w0 ρ d6.h w:=by rw[e1];exact hG
  rcases bG z with⟨_,z⟩|⟨_,z⟩
  ·exact Jg d5 d7 d8 (by rw[e1];exact hq) hx h1 h2 h3 z
  ·exact pZ d5 d7 hx h1 h2 h3 z
 ·exact pZ hS hG hx h1 h2 h3 h
end
end Go.Sym
namespace Go.Sym
open Go.RowKit (Below)
theorem iy(ρ:Rho)(s:ByteArray):LR ρ (cC (bytesOf s)) (s.data.toList.map fun b=>Value.int .u8 b.toNat):=by
 refine⟨by simp [cC,bytesOf],fun i a v ha hv=>?_⟩
 unfold cC bytesOf at ha
 rw[aaY,aaE] at ha
 rw[aaE] at hv
 cases hs:s.data.toList[i]? with
 |none=>rw[hs] at ha;cases ha
 |some b=>
  rw[hs] at ha hv
  injection ha with ha
  injection hv with hv
  subst ha;subst hv
  exact .int .u8 (b.toNat:Int)
theorem kK{s:ByteArray}{c:Nat}(h:s.size<=c):(bytesRow s c).size=c:=by
 unfold bytesRow
 have:s.data.size=s.size:=rfl
 simp;omega
theorem mm{s:ByteArray}{c i:Nat}{v:Value}(h:(s.data.toList.map fun b=>Value.int .u8 b.toNat)[i]? =some v):(bytesRow s c)[i]? =some v:=by
 unfold bytesRow
 have hi:i<s.data.size:=by
  rcases aaf i s.data.size with h'|h'
  ·exact h'
  ·rw[aaj (by simpa using h')] at h;cases h
 rw[Array.getElem?_append_left (by simpa using hi)]
 simpa using h
theorem Ww{ρ:Rho}:∀{l:List AV} {vs:List Value} {r:List Nat},DH l=some r->LR ρ l vs->∃bs:List UInt8,r=bs.map UInt8.toNat/\vs=bs.map fun b=>Value.int .u8 (b.toNat:Int):=by
 intro l
 induction l with
 |nil=>intro vs r h hl;injection h with h;subst h;exact⟨[],rfl,hl.nil_inv⟩
 |cons a l ih=>
  intro vs r h hl
  obtain⟨v,C',rfl,hv,p7⟩:=hl.cons_inv
  unfold DH at h
  split at h
  ·rename_i e;cases e
  ·rename_i n r' e
   injection e with e1 e2
   subst e1;subst e2
   split at h
   ·rename_i hn
    split at h
    ·rename_i l' XS
     injection h with h
     subst h
     obtain⟨bs,e1,e2⟩:=ih XS p7
     cases hv
     have Ys:(UInt8.ofNat n).toNat=n:=by simp;omega
     refine⟨UInt8.ofNat n::bs,by rw[aaB,Ys,e1], ?_⟩
     rw[aaB,Ys,e2];rfl
    ·cases h
   ·cases h
  ·cases h
theorem Bv{ρ:Rho}:∀{l:List AV} {vs:List Value} {ns:List Int},fG l=some ns->Wr ns->LR ρ l vs->∃bs:List UInt8,aO ns=bs.map UInt8.toNat/\vs=bs.map fun b=>Value.int .u8 (b.toNat:Int):=by
 intro l
 induction l with
 |nil=>intro vs r h _ hl;injection h with h;subst h;exact⟨[],rfl,hl.nil_inv⟩
 |cons a l ih=>
  intro vs r h hb hl
  obtain⟨v,C',rfl,hv,p7⟩:=hl.cons_inv
  unfold fG at h
  split at h
  ·rename_i n hn
   split at h
   ·rename_i r' hr
    injection h with h
    subst h
    obtain⟨⟨h0,h1⟩,hb⟩:=hb
    obtain⟨bs,e1,e2⟩:=ih hr hb p7
    have Ys:(UInt8.ofNat n.toNat).toNat=n.toNat:=by simp;omega
    refine⟨UInt8.ofNat n.toNat::bs,by rw[aaB,Ys, ←e1];rfl, ?_⟩
    rw[aaB,Ys,e2,bo hv hn,Int.toNat_of_nonneg h0]
   ·cases h
  ·cases h
theorem yl{ρ:Rho}{l:List AV}{vs:List Value}{k:AV->Tr}{σ:St}{K:Fin}(hl:LR ρ l vs)(h:run (mb l k) σ K=true):∃(bs:List UInt8) (x:AV),vs=(bs.map fun b=>Value.int .u8 (b.toNat:Int))/\VR ρ x (.string ⟨bs.toArray⟩)/\run (k x) σ K=true:=by
 unfold mb at h
 split at h
 ·rename_i r hr
  obtain⟨bs,e2,e3⟩:=Ww hr hl
  subst e2
  refine⟨bs,_,e3, ?_,h⟩
  have:=VR.str (ρ:=ρ) ⟨bs.toArray⟩
  simpa [bytesOf] using this
 ·obtain⟨ns,hr,h⟩:=bO h
  obtain⟨hp,h⟩:=aW h
  obtain⟨bs,e2,e3⟩:=Bv hr hp hl
  rw[e2] at h
  refine⟨bs,_,e3, ?_,h⟩
  have:=VR.sS (ρ:=ρ) ⟨bs.toArray⟩
  simpa [bytesOf] using this
section
variable{P:Program}{w0:World}{ρ:Rho}{w:World}{σ:St}{K:Fin}{k:AV->Tr}
theorem Bw{src dst e:TypeId}{s:ByteArray}(hS:SI σ)(hG:Good w0 ρ σ.h w)(hs:P.underlying src=some .string)(hd:P.underlying dst=some (.slice e))(he:P.underlying e=some (.int .u8))
  (h:run (fN (List.length (bytesOf s)) fun n=>ac (Nat.ble n 1000000) (lZ 1 e (cC (bytesOf s)) fun b=>k (.slc b 0 0 n none 1)) .fail) σ K=true):
  Res P w0 ρ w k K (convert src dst (.string s)):=by
 obtain⟨_,h⟩:=ar (f_ h)
 have hn:(bytesOf s).length=s.size:=by unfold bytesOf;rw[aaO];rfl
 have X_:=grownCap_ge w s.size 0 e
 have u0:=kK X_
 have hL:=iy ρ s
 obtain⟨b,c9,h2,l8,hle,i6⟩:=kZ 1 (w:=w.drew) (bytesRow s (grownCap w s.size 0 e)) e ((bytesRow s (grownCap w s.size 0 e)).size,(bytesRow s (grownCap w s.size 0 e)).size+1)
  ⟨by simp,fun x h1 h2 _=>by omega⟩ hS (hG.drawn _) (by simp [cC,hn,u0];exact X_) (fun i a ha=>by
   obtain⟨v,hv,hr⟩:=hL.get ha
   exact⟨v,mm hv,hr⟩) h
 refine⟨_,c9,_,_,_,h2,l8,i6,hle, ?_,run_bytes_of_string w src dst e s hs hd he⟩
 rw[hn]
 refine .slc _ _ _ _ _ _ _ _ ⟨X_,.inr ⟨_,Rho.put_at _ _ _ _,aal _,rfl, ?_⟩⟩
 show 0-0+grownCap w s.size 0 e * 1<=(bytesRow s _).size
 omega
theorem FU{src dst e:TypeId}{x:AV}{v:Value}(hS:SI σ)(hG:Good w0 ρ σ.h w)(hs:P.underlying src=some (.slice e))(hd:P.underlying dst=some .string)(he:P.underlying e=some (.int .u8))(hx:VR ρ x v)
  {b g o len es:Nat} {cap:Option Nat} (ex:x= .slc b g o len cap es)
  (h:run (ac (Nat.beq len 0) (k (.str [])) (jk b g o len fun l=>mb l k)) σ K=true):
  Res P w0 ρ w k K (convert src dst v):=by
 subst ex
 cases hx with
 |slc b g o len cap es a c x6=>
  rcases bG h with⟨hb,h⟩|⟨hb,h⟩
  ·have hb:=aR hb
   subst hb
   refine .plain h hS hG (v:=.string ⟨#[]⟩) ?_ ?_
   ·exact .str ⟨#[]⟩
   ·exact run_convert_bytes_back w src dst e a c [] hs he hd (fun j hj=>by cases hj)
  ·have hb:0<len:=by
    rcases aaM len with e|e
    ·subst e;simp at hb
    ·exact e
   obtain⟨hm,hh,ho,ea⟩:=pX x6 hb
   subst ea
   obtain⟨l,cs,c9,e1,l8,h,hL,hlen,i9,_⟩:=k_ (P:=P) hS hG hh ho h
   obtain⟨bs,x,e3,hx,h⟩:=yl hL h
   have Y0:bs.length=len:=by rw[←hlen,e3,aaO]
   refine .plain h l8 (by rw[e1];exact hG) (v:=.string ⟨bs.toArray⟩) hx ?_
   ·have:=run_convert_bytes_back (P:=P) w src dst e ⟨hm.blk,o-hm.shift,none⟩ c bs hs he hd (fun j hj=>by
     have h1:=i9 j (.int .u8 (bs[j].toNat:Int)) (by rw[e3];simp [hj])
     unfold Addr.add
     split
     ·rename_i e;subst e;simpa using h1
     ·exact h1)
    rw[Y0] at this
    exact this
theorem gj(w:World)(a:Addr)(n:Nat)(hn:n≠0)(i:Nat):(w.freeze a n).heap[i]? =if a.block=i then(w.heap[i]?).map (fun
   | .cells c elem (lo,hi)=>.cells c elem (if lo==hi then(a.off,a.off+n) else(min lo a.off,max hi (a.off+n)))
   |o=>o) else w.heap[i]? :=by
 simp only [World.freeze,if_neg hn,abo]
 split <;> rfl
theorem Good.freezeAt{H:T ABlk}(hG:Good w0 ρ H w){b g gen lo hi fl fh fl' fh' ty off n:Nat}{c:T Cell}{h:Home}(hb:H.get b=some (.cells c gen lo hi fl fh false ty))(d8:b+1<2 ^ 64)
  (hh:ρ.at_ b g=some h) (hg:g<=gen) (hn:n≠0)
  (hold:∀(x:Nat) (hm:Home),(x<hm.size∨fl'<=fh')->(∀q,(q<hm.size∨fl<=fh)->True)->((x<hm.size∨fl<=fh)->fl<=x+hm.shift/\x+hm.shift<fh)->fl'<=x+hm.shift/\x+hm.shift<fh')
  (l9:∀f1 f2:Nat,f1<=f2->(∀x,(x<h.size∨fl<=fh)->f1<=x->x<f2->fl<=x+h.shift/\x+h.shift<fh)->∀x,(x<h.size∨fl'<=fh')->(if f1=f2 then off<=x/\x<off+n else min f1 off<=x/\x<max f2 (off+n))->fl'<=x+h.shift/\x+h.shift<fh'):
  Good w0 ρ (H.set b (.cells c gen lo hi fl' fh' false ty)) (w.freeze ⟨h.blk,off,none⟩ n):=by
 have hB:=hG.blk _ _ hb
 obtain⟨hm,q1,q2,_,arr,fr,q3,q4,q5,q6⟩:=hB.2 g hg
 rw[hh] at q1;injection q1 with q1;subst q1
 have q2:=q2 rfl
 have u0:(w.freeze ⟨h.blk,off,none⟩ n).heap.size=w.heap.size:=by simp [World.freeze,hn]
 refine hG.turn (hrs:=⟨b,g,h,hh,rfl⟩) hb d8 h.blk q2 ⟨by simp [World.freeze,hn],by simp [World.freeze,hn],by simp [World.freeze,hn],by rw[u0];exact aaa _,fun k hk ho=>?_⟩ (by rw[u0];exact aaa _) (fun k hk _=>?_) (fun b' g' h' i4 e'=>(hG.inj _ _ _ _ _ _ i4 hh e').1) ⟨hB.1,fun g' YA=>?_⟩
 ·rw[gj _ _ _ hn,if_neg (fun e=>by have e:h.blk=k:=e;rcases q2 with q2|q2;omega;exact ho (e▸q2))]
 ·rw[gj _ _ _ hn,if_neg (fun e=>hk e.symm)]
 ·obtain⟨x8,s1,s2,s2',m7,fr',s3,s4,s5,s6⟩:=hB.2 g' YA
  obtain⟨q5a,q5b⟩:=s5 rfl
  by_cases eb:x8.blk=h.blk
  ·obtain⟨_,ehm⟩:=hG.inj _ _ _ _ _ _ s1 hh eb
   subst ehm
   obtain⟨f1,f2⟩:=fr'
   refine⟨_,s1,s2,s2',m7,_,by rw[gj _ _ _ hn,if_pos rfl,s3];rfl,s4,fun _=>⟨?_,fun x hx h1 h2=>?_⟩,s6⟩
   ·simp only at q5a
    split <;> simp <;> omega
   ·refine l9 f1 f2 q5a q5b x hx ?_
    by_cases e:f1=f2
    ·rw[if_pos e]
     rw[if_pos (by simpa using e)] at h1 h2
     exact⟨h1,h2⟩
    ·rw[if_neg e]
     rw[if_neg (by simpa using e)] at h1 h2
     exact⟨h1,h2⟩
  ·refine⟨x8,s1,s2,s2',m7,fr',by rw[gj _ _ _ hn,if_neg (fun e=>eb e.symm)];exact s3,s4,fun _=>⟨q5a,fun x hx h1 h2=>?_⟩,s6⟩
   exact hold x x8 hx (fun _ _=>trivial) fun hq=>q5b x hq h1 h2
theorem FV{src dst e e':TypeId}{b g o len es:Nat}{cap:Option Nat}{v:Value}(hS:SI σ)(hG:Good w0 ρ σ.h w)(hs:P.underlying src=some (.slice e'))(hd:P.underlying dst=some (.slice e))
  (he:P.underlying e=some (.int .u8)) (hx:VR ρ (.slc b g o len cap es) v) (hsd:src=dst) (hlen:1<=len)
  (h:run (.rd b fun q=>(match q with
   | .cells c gen lo hi fl fh ro ty=>ac ro .fail (ac (Nat.beq fh 0) (ac (Nat.ble g gen) (.wr b (.cells c gen lo hi 1 0 false ty) (k (.slc b g o len cap es))) .fail) .fail)
   |_=>.fail)) σ K=true):Res P w0 ρ w k K (convert src dst v):=by
 obtain⟨q,c9,h1,h2,h3,h⟩:=bm hS h
 cases q with
 |cells c gen lo hi fl fh ro ty=>
  obtain⟨ero,h5⟩:=md h
  obtain⟨efh,h6⟩:=ar h5
  obtain⟨YF,h7⟩:=ar h6
  clear h h5 h6
  obtain⟨x0,f9,U',e2,i5,d8,h8⟩:=cI h3 h7
  have efh:=aR efh
  have YF:=bu YF
  subst ero;subst efh
  cases hx with
  |slc b g o len cap es a c' x6=>
   obtain⟨hm,hh,ho,ea⟩:=pX x6 hlen
   have hB:=hG.blk _ _ h1
   obtain⟨X7,q1,_,_,arr,fr,q3,q4,q5,q6⟩:=hB.2 g YF
   rw[hh] at q1;injection q1 with q1;subst q1
   have i6:=hG.freezeAt (fl':=1) (fh':=0) (off:=arr.size) (n:=1) h1 d8 hh YF (by decide) (fun x hm3 R' _ t7=>by
     have:=t7 (.inl (by omega))
     omega) (fun f1 f2 hf hq x R' t7=>by
     have hxs:x<hm.size:=by omega
     split at t7
     ·omega
     ·rename_i o8
      have h3:f1<=x:=by simp only [Nat.min_def] at t7;split at t7 <;> omega
      have:=hq f1 (.inl (by omega)) (aaa _) (by omega)
      omega)
   refine⟨_,f9,ρ,.slice (some a) len c',_,h8,i5,by rw[e2,h2];exact i6,Rho.le.refl ρ,.slc _ _ _ _ _ _ _ _ x6, ?_⟩
   have hb:(src==dst)=true:=by simpa using hsd
   have ZU:a.block=hm.blk:=by rw[ea]
   have F':w.shape? hm.blk=some (ty,arr.size):=by simp [World.shape?,q3]
   simp [convert,run_underlying hs,run_underlying hd,run_underlying he,hb,markStringish,ZU,F']
 |_=>exact(ak h).elim
theorem Bx{fits:TypeId->Bool}:∀(d:Nat) (e:TypeId) (c c' off n:Nat),c<=c'->rowAt P fits d e c off n=true->rowAt P fits d e c' off n=true:=by
 intro d
 cases d with
 |zero=>intro e c c' off n _ h;simp [rowAt] at h
 |succ d=>
  intro e c c' off n X9 h
  simp only [rowAt] at h⊢
  split at h
  ·cases h
  ·rename_i hs
   rw[if_neg hs]
   rw[Bool.or_eq_true] at h⊢
   rcases h with h|h
   ·left
    simp only [Bool.and_eq_true,decide_eq_true_eq] at h⊢
    exact⟨⟨h.1.1,by omega⟩,h.2⟩
   ·right
    rw[Bool.and_eq_true] at h⊢
    exact⟨by have:=of_decide_eq_true h.1;exact decide_eq_true (by omega),h.2⟩
theorem ym:∀(d:Nat) (e:TypeId) (c c' off:Nat) (u:TypeId) (n:Nat),c<=c'->liesAt P d e c off u n=true->liesAt P d e c' off u n=true:=by
 intro d
 induction d with
 |zero=>intro e c c' off u n _ h;simp [liesAt] at h
 |succ d ih=>
  intro e c c' off u n X9 h
  simp only [liesAt] at h⊢
  rw[Bool.or_eq_true] at h⊢
  rcases h with h|h
  ·exact .inl (Bx _ _ _ _ _ _ X9 h)
  ·right
   split at h
   ·exact ih _ _ _ _ _ _ X9 h
   ·cases h
theorem D5{b g o n:Nat}{u:TypeId}{t:Tr}{h0:Home}(hS:SI σ)(hG:Good w0 ρ σ.h w)(hh:ρ.at_ b g=some h0)(h:run (It P b g o u n t) σ K=true):
  ∃c9,run t c9 K=true/\SI c9/\c9.h=σ.h/\h0.shift=0/\(variablesAt ⟨h0.blk,o,none⟩ u n).run P w= .ok true w/\∃ty m,w.shape? h0.blk=some (ty,m):=by
 obtain⟨q,d6,hq,e1,d5,h⟩:=bm hS h
 cases q with
 |cells c gen lo hi fl fh ro ty=>
  obtain⟨k1,h⟩:=ar h
  obtain⟨k2,h⟩:=ar h
  obtain⟨x0,U',h⟩:=nl h
  cases x0 with
  |mk t0 a0=>
   obtain⟨k3,h⟩:=ar h
   have h:=f_ h
   obtain⟨x1,R',h⟩:=nl h
   cases x1 with
   |mk t1 a1=>
    obtain⟨k4,h⟩:=ar h
    obtain⟨k5,h⟩:=ar h
    obtain⟨hm,q1,_,_,arr,fr,q3,q4,q5,q6⟩:=(hG.blk _ _ hq).2 g (bu k1)
    rw[hh] at q1;injection q1 with q1;subst q1
    obtain⟨r1,_⟩:=q6 0 t0 a0 U' (bu k3)
    obtain⟨_,v,r2,_⟩:=q6 _ t1 a1 R' (bu k4)
    have Ya:h0.shift=0:=by omega
    have X_:Nat.sub hi 1<arr.size:=by
     rcases aaf (Nat.sub hi 1) arr.size with h'|h'
     ·exact h'
     ·rw[Ya,aaN (by omega)] at r2;cases r2
    have ZK:hi<=arr.size:=by
     have:Nat.sub hi 1=hi-1:=rfl
     omega
    have F':w.shape? h0.blk=some (ty,arr.size):=by simp [World.shape?,q3]
    refine⟨d6,h,d5,e1,Ya, ?_,ty,arr.size,F'⟩
    have hl:=ym (P:=P) P.depth ty _ (arr.size/P.cellsOf ty) o u n (Nat.div_le_div_right ZK) k5
    simp [variablesAt,F',hl]
 |_=>exact(ak h).elim
theorem yn{h:Home}{o:Nat}(hs:h.shift=0):(⟨h.blk,o-h.shift,none⟩:Addr)=⟨h.blk,o,none⟩:=by rw[hs];rfl
theorem p_{a:Addr}{ty m:Nat}(F':w.shape? a.block=some (ty,m)):(Conv.seenAt a).run P w= .ok a w:=by
 simp [Conv.seenAt,viewAt,F']
theorem FW{src dst:TypeId}{x:AV}{v:Value}(hS:SI σ)(hG:Good w0 ρ σ.h w)(hx:VR ρ x v)(h:run (Iu P src dst x k) σ K=true):Res P w0 ρ w k K (convert src dst v):=by
 obtain⟨s,hs,h1⟩:=bQ h
 obtain⟨d,hd,h2⟩:=bQ h1
 clear h h1
 split at h2 <;> (have h:=h2;clear h2)
 ·cases hx
  have h:=iV h
  refine .plain h hS hG (.int _ _) ?_
  simp [convert,run_underlying hs,run_underlying hd,Conv.intToInt]
 ·cases hx
  refine .plain h hS hG (.str _) ?_
  simp [convert,run_underlying hs,run_underlying hd]
 ·obtain⟨de,he,h⟩:=bQ h
  split at h
  ·cases hx
   exact Bw hS hG hs hd he h
  ·exact(ak h).elim
 ·obtain⟨hsd,h⟩:=ar h
  obtain⟨de,he,h⟩:=bQ h
  split at h
  ·obtain⟨hl,h⟩:=ar h
   exact FV hS hG hs hd he hx (by simpa using aR hsd) (bu hl) h
  ·exact(ak h).elim
 ·cases hx
  refine .plain h hS hG .nilp ?_
  simp [convert,run_underlying hs,run_underlying hd,Conv.unsafePointer]
 ·rename_i t0 b g o
  cases hx with
  |ptr b g o hm hh ho=>
   obtain⟨i,hi,h⟩:=cd h
   obtain⟨hz,h⟩:=md h
   have hz:¬i.size=0:=fun e=>by rw[e] at hz;cases hz
   obtain⟨q,d6,hq,e1,d5,h⟩:=bm hS h
   have d7:Good w0 ρ d6.h w:=by rw[e1];exact hG
   cases q with
   |cells c gen lo Y6 fl fh ro ty=>
    obtain⟨k1,h⟩:=ar h
    obtain⟨x0,U',h⟩:=nl h
    cases x0 with
    |mk tag a0=>
     obtain⟨k2,h⟩:=ar h
     obtain⟨X7,q1,_,_,arr,fr,q3,q4,q5,q6⟩:=(hG.blk _ _ hq).2 g (bu k1)
     rw[hh] at q1;injection q1 with q1;subst q1
     obtain⟨_,v,r2,_⟩:=q6 o tag a0 U' (bu k2)
     have f7:o-hm.shift<arr.size:=by
      rcases aaf (o-hm.shift) arr.size with h'|h'
      ·exact h'
      ·rw[aaN h'] at r2;cases r2
     have F':w.shape? hm.blk=some (ty,arr.size):=by simp [World.shape?,q3]
     refine .plain h d5 d7 (.ptr b g o hm hh ho) ?_
     have Zl:¬arr.size<=o-hm.shift:=by omega
     simp [convert,run_underlying hs,run_underlying hd,Conv.unsafePointer,p_ (a:=⟨hm.blk,o-hm.shift,none⟩) F',cellsIn,F',ay hi,hz,Zl]
   |_=>exact(ak h).elim
 ·cases hx
  refine .plain h hS hG .nilp ?_
  simp [convert,run_underlying hs,run_underlying hd,Conv.unsafePointer]
 ·rename_i u b g o
  cases hx with
  |ptr b g o hm hh ho=>
   obtain⟨i,hi,h⟩:=cd h
   obtain⟨d6,h,d5,e1,Ya,hv,ty,m,F'⟩:=D5 hS hG hh h
   refine .plain h d5 (by rw[e1];exact hG) (.ptr b g o hm hh ho) ?_
   rw[yn Ya]
   simp [convert,run_underlying hs,run_underlying hd,Conv.unsafePointer,p_ (a:=⟨hm.blk,o,none⟩) F',ay hi,hv]
 ·obtain⟨de,he,h⟩:=bQ h
  split at h
  ·cases hx
   refine .plain h hS hG (v:=.string ⟨#[]⟩) (.str ⟨#[]⟩) ?_
   exact(run_convert_bytes_nil w src _ hs he 0 0 dst hd)
  ·exact FU hS hG hs hd he hx rfl h
  ·exact(ak h).elim
 ·exact(ak h).elim
theorem yo{src dst e:TypeId}{s:List Nat}{a:Addr}{c:Nat}(hs:P.underlying src=some (.slice e))(hd:P.underlying dst=some .string)(he:P.underlying e=some (.int .u8))
  (hc:∀j n,s[j]? =some n->w.cell? (a.add j)=some (.int .u8 (n:Nat))):∃t:ByteArray,bytesOf t=kV s/\(convert src dst (.slice (some a) s.length c)).run P w= .ok (.string t) w:=by
 have fold:∀(l:List Nat) (r:ByteArray),(l.map (fun n:Nat=>(n:Int))).foldl (fun r n=>r.push (UInt8.ofNat n.toNat)) r=⟨r.data++(l.map UInt8.ofNat).toArray⟩:=by
  intro l
  induction l with
  |nil=>intro r;simp
  |cons n l ih=>
   intro r
   simp only [aaB,List.foldl_cons]
   rw[ih]
   simp [ByteArray.push]
 refine⟨⟨(s.map UInt8.ofNat).toArray⟩, ?_, ?_⟩
 ·simp [bytesOf,kV,aaY,Function.comp_def]
 ·rw[run_convert_bytes_string w src dst e (some a) s.length c hs he hd]
  have hl:=run_loadCells_list (P:=P) w a ((s.map (fun n:Nat=>(n:Int))).map (Value.int .u8)) (fun j v hj=>by
   rw[aaY,aaE] at hj
   cases hn:s[j]? with
   |none=>rw[hn] at hj;cases hj
   |some n=>
    rw[hn] at hj
    injection hj with hj
    rw[←hj];exact hc j n hn)
  simp only [aaO] at hl
  rw[run_bytesToString w a s.length c _ hl,fold]
  have he0:ByteArray.empty.data= #[]:=rfl
  rw[he0]
  simp
theorem ny{s:List Nat}{j n:Nat}(h:s[j]? =some n):((Ct.bytes s).row j)[0]? =some (.sI .u8 (n:Nat)):=by
 simp [Ct.row,aag,h]
theorem By{src dst:TypeId}{x:AV}{v:Value}(hS:SI σ)(hG:Good w0 ρ σ.h w)(hx:VR ρ x v)(h:run (xK P src dst x k) σ K=true):Res P w0 ρ w k K (convert src dst v):=by
 obtain⟨s,hs,h1⟩:=bQ h
 obtain⟨d,hd,h2⟩:=bQ h1
 clear h h1
 split at h2 <;> (have h:=h2;clear h2)
 ·cases hx
  have h:=iq h
  refine .plain h hS hG (.sI _ _) ?_
  simp [convert,run_underlying hs,run_underlying hd,Conv.intToInt]
 ·cases hx
  refine .plain h hS hG (.sS _) ?_
  simp [convert,run_underlying hs,run_underlying hd]
 ·rename_i e l
  obtain⟨de,he,h⟩:=bQ h
  split at h
  ·cases hx with
   |sS s=>
    have hn:(bytesOf s).length=s.size:=bK s
    have X_:=grownCap_ge w s.size 0 e
    have u0:=kK X_
    rcases cO h with⟨j4,h⟩|⟨j4,h⟩
    ·obtain⟨b,c9,XY,d8,e1,l8,h⟩:=dI hS h
     have hGd:Good w0 ρ σ.h w.drew:=hG.drawn _
     obtain⟨hle,i6⟩:=hGd.alloc XY d8 (.grow (.bytes (bytesOf s)) 0 e) (.cells (bytesRow s (grownCap w s.size 0 e)) e ((bytesRow s (grownCap w s.size 0 e)).size,(bytesRow s (grownCap w s.size 0 e)).size+1)) 0 (bytesRow s (grownCap w s.size 0 e)).size (fun ρ' hle q9 _=>by
      refine .inr ⟨_,q9,rfl,.new hG.below.size,bytesRow s (grownCap w s.size 0 e),((bytesRow s (grownCap w s.size 0 e)).size,(bytesRow s (grownCap w s.size 0 e)).size+1), ?_,rfl, ?_, ?_,fun i hi j a ha=>?_⟩
      ·show(w.heap.push _)[w.heap.size]? =_
       simp
      ·show(bytesOf s).length * 1<=(bytesRow s (grownCap w s.size 0 e)).size
       rw[hn,u0];omega
      ·intro x h1 h2 h3
       simp only at h1 h2
       omega
      ·have hi:i<(bytesOf s).length:=hi
       have hsi:(bytesOf s)[i]? =some (bytesOf s)[i]:=aah hi
       cases j with
       |succ j=>simp [Ct.row] at ha
       |zero=>
        rw[ny hsi] at ha
        injection ha with ha
        subst ha
        refine⟨.int .u8 ((bytesOf s)[i]:Nat), ?_,.sI _ _⟩
        show(bytesRow s _)[i * 1+0]? =_
        refine mm ?_
        rw[aaD,aap,aaE]
        unfold bytesOf at hsi⊢
        rw[aaE] at hsi
        cases hq:s.data.toList[i]? with
        |none=>rw[hq] at hsi;cases hsi
        |some q=>rw[hq] at hsi;injection hsi with hsi;simp only [aaQ];rw[←hsi])
     rw[←e1] at i6
     refine⟨_,c9,_,_,_,h,l8,i6,hle, ?_,run_bytes_of_string w src dst e s hs hd he⟩
     have f7:0<s.size:=by omega
     rw[hn]
     refine .gsl b 0 s.size 1 _ _ f7 (Rho.put_at _ _ _ _) rfl X_ ?_
     show grownCap w s.size 0 e * 1<=(bytesRow s _).size
     omega
    ·have h0:s.size=0:=by omega
     obtain⟨b,c9,h2,l8,hle,i6⟩:=kZ 1 (w:=w.drew) (bytesRow s (grownCap w s.size 0 e)) e ((bytesRow s (grownCap w s.size 0 e)).size,(bytesRow s (grownCap w s.size 0 e)).size+1)
      ⟨by simp,fun x h1 h2 _=>by omega⟩ hS (hG.drawn _) (by simp) (fun i a ha=>by simp at ha) h
     have i3:=run_bytes_of_string w src dst e s hs hd he
     have e0:=congrArg (fun n=>Value.slice (some ⟨w.heap.size,0,none⟩) n (grownCap w s.size 0 e)) h0
     have i3:(convert src dst (.string s)).run P w= .ok (Value.slice (some ⟨w.heap.size,0,none⟩) 0 (grownCap w s.size 0 e)) (w.drew.alloc (.cells (bytesRow s (grownCap w s.size 0 e)) e ((bytesRow s (grownCap w s.size 0 e)).size,(bytesRow s (grownCap w s.size 0 e)).size+1))):=by rw[i3];exact congrArg (Result.ok · _) e0
     refine⟨_,c9,_,_,_,h2,l8,i6,hle, ?_,i3⟩
     exact VR.slc (ρ:=ρ.put b 0 ⟨w.heap.size,0,(bytesRow s (grownCap w s.size 0 e)).size⟩) b 0 0 0 none 1 ⟨w.heap.size,0,none⟩ (grownCap w s.size 0 e) ⟨aal _,.inr ⟨_,Rho.put_at _ _ _ _,aal _,rfl,by
      show 0-0+grownCap w s.size 0 e * 1<=(bytesRow s _).size
      omega⟩⟩
  ·exact(ak h).elim
 ·obtain⟨de,he,h⟩:=bQ h
  split at h
  ·rename_i e s _ _
   cases hx with
   |cv _ blk off cp arr ty hf hc hb r=>
    obtain⟨⟨fr,hw⟩,_⟩:=hG.frz _ _ _ hf
    have hb:off+s.length * 1<=arr.size:=hb
    obtain⟨t,ht,i3⟩:=yo (P:=P) (w:=w) (s:=s) (a:=⟨blk,off,none⟩) (c:=cp) hs hd he (fun j n hj=>by
     have hjl:j<s.length:=by
      rcases aaf j s.length with h'|h'
      ·exact h'
      ·rw[aaj h'] at hj;cases hj
     have hv:arr[off+j * 1+0]? =some arr[off+j]:=by rw[aaD,aap];exact aaJ (by omega)
     have:=r j 0 _ _ hjl (ny hj) hv
     rw[bN]
     simp only [World.cell?,hw]
     simp only [aa2,Bool.false_eq_true,if_false]
     rw[aaJ (by omega)]
     cases i9:arr[off+j]'(by omega) with
     |int k2 n2=>rw[i9] at this;cases this;rfl
     |_=>rw[i9] at this;cases this)
    refine .plain h hS hG (v:=.string t) (by rw[←ht];exact .sS t) i3
   |cvnil _ h0=>
    have h0:s.length=0:=h0
    have:s= []:=List.length_eq_zero_iff.1 h0
    subst this
    refine .plain h hS hG (v:=.string ⟨#[]⟩) (.sS ⟨#[]⟩) (run_convert_bytes_nil w src _ hs he 0 0 dst hd)
   |cvempty _ a h0=>
    have h0:s.length=0:=h0
    have:s= []:=List.length_eq_zero_iff.1 h0
    subst this
    refine .plain h hS hG (v:=.string ⟨#[]⟩) (.sS ⟨#[]⟩) (run_convert_bytes_back w src dst _ a 0 [] hs he hd (fun j hj=>by cases hj))
  ·exact(ak h).elim
 ·rename_i e b g n es
  obtain⟨de,he,h⟩:=bQ h
  split at h
  ·obtain⟨q,d6,hq,e1,d5,z0⟩:=bm hS h
   clear h
   have d7:Good w0 ρ d6.h w:=by rw[e1];exact hG
   split at z0
   ·rename_i s gen ty
    obtain⟨k1,z1⟩:=ar z0
    obtain⟨k2,z2⟩:=ar z1
    obtain⟨k3,z3⟩:=aW z2
    clear z0 z1 z2
    have k1:=aR k1
    have k2:=aR k2
    subst k1;subst k2
    have hsn:∀{m:Nat},s.length=m->m=0->s= []:=fun e1 e2=>List.length_eq_zero_iff.1 (by omega)
    cases hx with
    |gsl _ _ _ _ hm c Y5 hh F' X9 hz=>
     rcases hG.blk _ _ hq with h0|⟨x8,q1,q2,q3,arr,fr,q4,q5,q6,q7,q8⟩
     ·have h0:s.length=0:=h0
      omega
     rw[hh] at q1;injection q1 with q1;subst q1
     obtain⟨t,ht,i3⟩:=yo (P:=P) (w:=w) (s:=s) (a:=⟨hm.blk,0,none⟩) (c:=c) hs hd he (fun j n hj=>by
      have hjl:j<s.length:=by
       rcases aaf j s.length with h'|h'
       ·exact h'
       ·rw[aaj h'] at hj;cases hj
      obtain⟨u,u1,u2⟩:=q8 j hjl 0 _ (ny hj)
      rw[bN]
      simp only [World.cell?,q4]
      simp only [aa2,Bool.false_eq_true,if_false,aak]
      have u1:arr[j * 1+0]? =some u:=u1
      rw[aaD,aap] at u1
      rw[u1]
      cases u2;rfl)
     rw[k3] at i3
     exact .plain z3 d5 d7 (v:=.string t) (by rw[←ht];exact .sS t) i3
    |gnil _ _ _=>
     obtain rfl:=hsn k3 rfl
     exact .plain z3 d5 d7 (v:=.string ⟨#[]⟩) (.sS ⟨#[]⟩) (run_convert_bytes_nil w src _ hs he 0 0 dst hd)
    |gempty _ _ _ a=>
     obtain rfl:=hsn k3 rfl
     exact .plain z3 d5 d7 (v:=.string ⟨#[]⟩) (.sS ⟨#[]⟩) (run_convert_bytes_back w src dst _ a 0 [] hs he hd (fun j hj=>by cases hj))
   ·exact(ak z0).elim
  ·exact(ak h).elim
 ·exact(ak h).elim
theorem Ji{src dst:TypeId}{x:AV}{v:Value}(hS:SI σ)(hG:Good w0 ρ σ.h w)(hx:VR ρ x v)(h:run (QH P src dst x k) σ K=true):Res P w0 ρ w k K (convert src dst v):=by
 rcases bG h with⟨_,h⟩|⟨_,h⟩
 ·exact By hS hG hx h
 ·exact FW hS hG hx h
end
end Go.Sym
namespace Go.Sym
open Go.RowKit (Below)
section
variable{P:Program}{w0:World}{ρ:Rho}{w:World}{σ:St}{K:Fin}{k:AV->Tr}
theorem aS{r:Nat}{o:Obj}(h:w.heap[r]? =some o)(ho:∀c t f,o≠ .cells c t f):(getObj r).run P w= .ok o w:=by
 cases o <;> first|(exact absurd rfl (ho _ _ _))|(simp [getObj,Sem.run,h])
theorem uK{x:AV}{v:Value}{f:Nat->Tr}(hx:VR ρ x v)(h:run (Bc x f) σ K=true):∃n,run (f n) σ K=true/\∀w,(Builtin.lenOf v).run P w= .ok n w:=by
 cases hx with
 |nils=>exact⟨0,h,fun _=>rfl⟩
 |slc b g o len cap es a c x6=>exact⟨len,h,fun _=>rfl⟩
 |str s=>
  have hn:(bytesOf s).length=s.size:=by unfold bytesOf;rw[aaO];rfl
  exact⟨s.size,by have:=f_ h;rw[hn] at this;exact this,fun _=>rfl⟩
 |_=>exact(ak h).elim
theorem kf{x:AV}{v:Value}{size n len:Nat}{f:List AV->Tr}(hS:SI σ)(hG:Good w0 ρ σ.h w)(hx:VR ρ x v)(hlen:(Builtin.lenOf v).run P w= .ok len w)(hn:n<=len)(u0:1<=size)(h:run (jo size n x f) σ K=true):
  ∃l cs c9,c9.h=σ.h/\SI c9/\run (f l) c9 K=true/\LR ρ l cs/\cs.length=n * size/\∀w2:World,w2.heap=w.heap->(Builtin.firstCells size n v).run P w2= .ok cs.toArray w2:=by
 cases hx with
 |nils=>
  have:len=0:=by
   have:Result.ok 0 w=Result.ok len w:=hlen
   injection this with e;exact e.symm
  subst this
  have:n=0:=by omega
  subst this
  exact⟨[],[],σ,rfl,hS,h,LR.nil ρ,by simp,fun _ _=>rfl⟩
 |slc b g o ln cap es a c x6=>
  have:ln=len:=by
   have:Result.ok ln w=Result.ok len w:=hlen
   injection this
  subst this
  rcases bG h with⟨hz,h⟩|⟨hz,h⟩
  ·have hz:=aR hz
   refine⟨[],[],σ,rfl,hS,h,LR.nil ρ,by simp [hz],fun w2 _=>?_⟩
   simp [Builtin.firstCells,hz,loadCells,loadCellsFrom]
  ·have h:=f_ h
   have j4:0<ln:=by
    rcases aaM n with e|e
    ·subst e;simp at hz
    ·omega
   obtain⟨hm,hh,ho,ea⟩:=pX x6 j4
   subst ea
   obtain⟨l,cs,c9,e1,l8,h,hL,hlen,i9,_⟩:=k_ (P:=P) hS hG hh ho h
   refine⟨l,cs,c9,e1,l8,h,hL,hlen,fun w2 Zn=>run_firstCells_some w2 size n _ ln c cs hlen fun j v hj=>?_⟩
   rw[dj ho, ←i9 j v hj]
   simp only [World.cell?,Zn]
   rw[show o+j-hm.shift=o-hm.shift+j by omega]
 |str s=>
  obtain⟨h1,h⟩:=ar h
  have h1:=aR h1
  subst h1
  have h:=fj (Bn h)
  have hls:s.size=len:=by
   have:Result.ok s.size w=Result.ok len w:=hlen
   injection this
  have hL:=(iy ρ s).take n
  have e1:(cC (bytesOf s)).take n=cC ((bytesOf s).take n):=by simp [cC,List.map_take]
  rw[e1] at hL
  refine⟨_,_,σ,rfl,hS,h,hL, ?_,fun w2 _=>?_⟩
  ·have:s.data.size=s.size:=rfl
   simp;omega
  simp only [Builtin.firstCells,aac]
  congr 1
  apply Array.ext'
  simp [ByteArray.data_extract,abv]
 |_=>exact(ak h).elim
theorem D6{e:TypeId}{size lJ:Nat}{old new:List AV}{ovs nvs:List Value}{rest:Nat->List Value}{a:Value}(hS:SI σ)(hG:Good w0 ρ σ.h w)(ho:LR ρ old ovs)(hn:LR ρ new nvs)
  (c:Nat) (hc:lJ<=c) (hr:ovs.length+nvs.length+(rest c).length=c * size)
  (h:run (kX e size old new lJ k) σ K=true) (s:Sem Value) (hs:s.run P w= .ok (.slice (some ⟨w.heap.size,0,none⟩) lJ c) (w.drew.alloc (.cells (ovs++nvs++rest c).toArray e))):Res P w0 ρ w k K s:=by
 have h:=fj h
 have hL:=ho.append hn
 obtain⟨b,c9,h2,l8,hle,i6⟩:=ke (w:=w.drew) (ovs++nvs++rest c).toArray e hS (hG.drawn _) (by simp [ho.1,hn.1]) (fun i a ha=>by
  obtain⟨v,hv,hr⟩:=hL.get ha
  refine⟨v, ?_,hr⟩
  have hi:i<(ovs++nvs).length:=by
   rcases aaf i (ovs++nvs).length with h'|h'
   ·exact h'
   ·rw[aaj h'] at hv;cases hv
  show(ovs++nvs++rest c).toArray[i]? =some v
  rw[aa9,aaz hi];exact hv) h
 refine⟨_,c9,_,_,_,h2,l8,i6,hle, ?_,hs⟩
 refine .slc _ _ _ _ _ _ _ _ ⟨hc,.inr ⟨_,Rho.put_at _ _ _ _,aal _,rfl, ?_⟩⟩
 show 0-0+c * size<=(ovs++nvs++rest c).toArray.size
 simp;omega
theorem FY{g:Nat}{f:T Cell->Tr}:∀(l:List AV) (i:Nat) (t:T Cell),run (IE g l i t f) σ K=true->
  ∃c,run (f c) σ K=true/\(∀a∈l,fB a=true)/\∀o x,c.get o=some x->(∃(j:Nat) (a:AV),o=i+j/\l[j]? =some a/\x= .mk g a)∨(t.get o=some x/\(o<i∨i+l.length<=o)):=by
 intro l
 induction l with
 |nil=>intro i t h;exact⟨t,h,by simp,fun o x hx=>.inr ⟨hx,by simp;omega⟩⟩
 |cons a l ih=>
  intro i t h
  have h:run (ac (fB a) (T.setK t i (.mk g a) fun t=>fN (Nat.succ i) fun i=>IE g l i t f) .fail) σ K=true:=h
  obtain⟨h1,h⟩:=ar h
  rw[T.setK_eq] at h
  obtain⟨c,h2,h3,h4⟩:=ih _ _ (f_ h)
  refine⟨c,h2,fun b hb=>?_,fun o x hx=>?_⟩
  ·rcases List.mem_cons.mp hb with e|hb
   ·subst e;exact h1
   ·exact h3 b hb
  ·rcases h4 o x hx with⟨j,b,e,hb,Xz⟩|⟨Xz,ho⟩
   ·exact .inl ⟨j+1,b,by omega,by simpa using hb,Xz⟩
   ·by_cases e:o=i
    ·subst e
     have:=T.get_set_some _ _ Xz
     exact .inl ⟨0,a,by omega,rfl,this⟩
    ·rw[T.get_set_ne _ e] at Xz
     exact .inr ⟨Xz,by simp at ho⊢;omega⟩
theorem Good.fork{H:T ABlk}{w':World}(hG:Good w0 ρ H w){b gen lo hi fl fh hi' ty:Nat}{c c':T Cell}{h2:Home}(hb:H.get b=some (.cells c gen lo hi fl fh false ty))(d8:b+1<2 ^ 64)
  (hbe:Kept ρ.own w0.heap.size w w') (ZV:∀k,k<w.heap.size->(∀g h,ρ.at_ b g=some h->h.blk≠k)->w'.heap[k]? =w.heap[k]?) (u0:w.heap.size<=w'.heap.size) (XN:∀b' g h,b'≠b->ρ.at_ b' g=some h->w'.heap[h.blk]? =w.heap[h.blk]?) (Zj:h2.blk<w'.heap.size)
  (l9:(∃g',ρ.at_ b g'=some h2)∨w.heap.size<=h2.blk) (hB:ρ.le (ρ.put b (gen+1) h2)->BR (ρ.put b (gen+1) h2) w0.heap.size w' b (.cells c' (gen+1) lo hi' fl fh false ty)):
  ρ.le (ρ.put b (gen+1) h2)/\Good w0 (ρ.put b (gen+1) h2) (H.set b (.cells c' (gen+1) lo hi' fl fh false ty)) w':=by
 have XY:ρ.at_ b (gen+1)=none:=by
  cases h:ρ.at_ b (gen+1) with
  |none=>rfl
  |some x=>
   have:gen+1<=gen:=hG.gens b (gen+1) x _ h hb
   omega
 have hle:ρ.le (ρ.put b (gen+1) h2):=Rho.le_put XY
 refine⟨hle,⟨hG.below.trans hbe,fun b' y hy=>?_,fun b' g h hh=>?_,fun b1 g1 x1 b2 g2 x2 R' t7 e=>?_,fun b' g h y hh hy=>?_,fun b' arr ty hf=>?_,hG.frzB,fun b' k I l O' g h hh=>?_⟩,fun x hx=>by obtain⟨b,g,h,q1,q2,q3⟩:=hG.ownB x hx;exact⟨b,g,h,q1,hle.at_ _ _ _ q2,q3⟩⟩
 ·by_cases e:b'=b
  ·subst e
   rw[T.get_set_same _ _ _ d8] at hy
   injection hy with hy;subst hy
   exact hB hle
  ·rw[T.get_set_ne _ e] at hy
   exact(hG.blk b' y hy).keep hle fun g h hh=>XN b' g h e hh
 ·simp only [Rho.put] at hh
  split at hh
  ·rename_i e
   injection hh with hh;subst hh
   exact⟨Zj,_,by rw[e.1];exact T.get_set_same _ _ _ d8⟩
  ·obtain⟨q1,y,q2⟩:=hG.dom _ _ _ hh
   refine⟨by omega, ?_⟩
   by_cases e:b'=b
   ·subst e;exact⟨_,T.get_set_same _ _ _ d8⟩
   ·exact⟨y,by rw[T.get_set_ne _ e];exact q2⟩
 ·simp only [Rho.put] at R' t7
  split at R'
  ·rename_i c1
   injection R' with R'
   subst R'
   split at t7
   ·rename_i c2
    injection t7 with t7
    exact⟨c1.1.trans c2.1.symm,t7⟩
   ·rcases l9 with⟨g',YA⟩|l9
    ·rw[c1.1];exact hG.inj _ _ _ _ _ _ YA t7 e
    ·have:=(hG.dom _ _ _ t7).1;omega
  ·split at t7
   ·rename_i c2
    injection t7 with t7
    subst t7
    rcases l9 with⟨g',YA⟩|l9
    ·rw[c2.1];exact hG.inj _ _ _ _ _ _ R' YA e
    ·have:=(hG.dom _ _ _ R').1;omega
   ·exact hG.inj _ _ _ _ _ _ R' t7 e
 ·by_cases e:b'=b
  ·subst e
   rw[T.get_set_same _ _ _ d8] at hy
   injection hy with hy;subst hy
   simp only [Rho.put] at hh
   split at hh
   ·rename_i c1;show g<=gen+1;omega
   ·have:g<=gen:=hG.gens b' g h _ hh hb
    show g<=gen+1;omega
  ·rw[T.get_set_ne _ e] at hy
   simp only [Rho.put] at hh
   split at hh
   ·rename_i c1;exact absurd c1.1 e
   ·exact hG.gens b' g h y hh hy
 ·have hf:ρ.frz b'=some (arr,ty):=hf
  obtain⟨⟨fr,q1⟩,q2⟩:=hG.frz b' arr ty hf
  have f7:b'<w.heap.size:=by
   rcases aaf b' w.heap.size with h'|h'
   ·exact h'
   ·rw[aaN h'] at q1;cases q1
  refine⟨⟨fr,by rw[ZV b' f7 (fun g h hh=>hG.frzE hf hh hb (fun h=>h))];exact q1⟩,fun b1 g h hh e=>?_⟩
  simp only [Rho.put] at hh
  split at hh
  ·injection hh with hh;subst hh
   rcases l9 with⟨g',YA⟩|l9
   ·exact absurd e (hG.frzE hf YA hb (fun h=>h))
   ·omega
  ·obtain⟨y,r1,r2⟩:=q2 _ _ _ hh e
   exact⟨y,by rw[T.get_set_ne _ (fun e=>by subst e;rw[hb] at r1;injection r1 with r1;subst r1;exact(show False from r2))];exact r1,r2⟩
 ·by_cases e:b'=b
  ·subst e
   rw[T.get_set_same _ _ _ d8] at O'
   injection O' with O'
   exact absurd O' (fun h=>by cases h)
  ·rw[T.get_set_ne _ e] at O'
   simp only [Rho.put] at hh
   split at hh
   ·rename_i c1;exact absurd c1.1 e
   ·exact hG.objO b' k I l O' g h hh
theorem Good.forkX{H:T ABlk}{w':World}(hG:Good w0 ρ H w){b gen:Nat}{x0 x:ABlk}{h2:Home}(hb:H.get b=some x0)(hg0:∀g,Ig g x0->g<=gen)(hg1:∀g,g<=gen+1->Ig g x)(d8:b+1<2 ^ 64)
  (hbe:Kept ρ.own w0.heap.size w w') (ZV:∀k,k<w.heap.size->(∀g h,ρ.at_ b g=some h->h.blk≠k)->w'.heap[k]? =w.heap[k]?) (u0:w.heap.size<=w'.heap.size) (XN:∀b' g h,b'≠b->ρ.at_ b' g=some h->w'.heap[h.blk]? =w.heap[h.blk]?) (Zj:h2.blk<w'.heap.size)
  (l9:(∃g',ρ.at_ b g'=some h2)∨w.heap.size<=h2.blk) (hB:ρ.le (ρ.put b (gen+1) h2)->BR (ρ.put b (gen+1) h2) w0.heap.size w' b x) (hnf:¬xx x0:=by exact fun h=>h) (hxo:∀k I l,x≠ .obj k I l:=by intro _ _ _ h;cases h):
  ρ.le (ρ.put b (gen+1) h2)/\Good w0 (ρ.put b (gen+1) h2) (H.set b x) w':=by
 have XY:ρ.at_ b (gen+1)=none:=by
  cases h:ρ.at_ b (gen+1) with
  |none=>rfl
  |some y=>
   have:gen+1<=gen:=hg0 _ (hG.gens b (gen+1) y _ h hb)
   omega
 have hle:ρ.le (ρ.put b (gen+1) h2):=Rho.le_put XY
 refine⟨hle,⟨hG.below.trans hbe,fun b' y hy=>?_,fun b' g h hh=>?_,fun b1 g1 x1 b2 g2 x2 R' t7 e=>?_,fun b' g h y hh hy=>?_,fun b' arr ty hf=>?_,hG.frzB,fun b' k I l O' g h hh=>?_⟩,fun x hx=>by obtain⟨b,g,h,q1,q2,q3⟩:=hG.ownB x hx;exact⟨b,g,h,q1,hle.at_ _ _ _ q2,q3⟩⟩
 ·by_cases e:b'=b
  ·subst e
   rw[T.get_set_same _ _ _ d8] at hy
   injection hy with hy;subst hy
   exact hB hle
  ·rw[T.get_set_ne _ e] at hy
   exact(hG.blk b' y hy).keep hle fun g h hh=>XN b' g h e hh
 ·simp only [Rho.put] at hh
  split at hh
  ·rename_i e
   injection hh with hh;subst hh
   exact⟨Zj,_,by rw[e.1];exact T.get_set_same _ _ _ d8⟩
  ·obtain⟨q1,y,q2⟩:=hG.dom _ _ _ hh
   refine⟨by omega, ?_⟩
   by_cases e:b'=b
   ·subst e;exact⟨_,T.get_set_same _ _ _ d8⟩
   ·exact⟨y,by rw[T.get_set_ne _ e];exact q2⟩
 ·simp only [Rho.put] at R' t7
  split at R'
  ·rename_i c1
   injection R' with R'
   subst R'
   split at t7
   ·rename_i c2
    injection t7 with t7
    exact⟨c1.1.trans c2.1.symm,t7⟩
   ·rcases l9 with⟨g',YA⟩|l9
    ·rw[c1.1];exact hG.inj _ _ _ _ _ _ YA t7 e
    ·have:=(hG.dom _ _ _ t7).1;omega
  ·split at t7
   ·rename_i c2
    injection t7 with t7
    subst t7
    rcases l9 with⟨g',YA⟩|l9
    ·rw[c2.1];exact hG.inj _ _ _ _ _ _ R' YA e
    ·have:=(hG.dom _ _ _ R').1;omega
   ·exact hG.inj _ _ _ _ _ _ R' t7 e
 ·by_cases e:b'=b
  ·subst e
   rw[T.get_set_same _ _ _ d8] at hy
   injection hy with hy;subst hy
   simp only [Rho.put] at hh
   split at hh
   ·rename_i c1;exact hg1 g (by omega)
   ·have:g<=gen:=hg0 _ (hG.gens b' g h _ hh hb)
    exact hg1 g (by omega)
  ·rw[T.get_set_ne _ e] at hy
   simp only [Rho.put] at hh
   split at hh
   ·rename_i c1;exact absurd c1.1 e
   ·exact hG.gens b' g h y hh hy
 ·have hf:ρ.frz b'=some (arr,ty):=hf
  obtain⟨⟨fr,q1⟩,q2⟩:=hG.frz b' arr ty hf
  have f7:b'<w.heap.size:=by
   rcases aaf b' w.heap.size with h'|h'
   ·exact h'
   ·rw[aaN h'] at q1;cases q1
  refine⟨⟨fr,by rw[ZV b' f7 (fun g h hh=>hG.frzE hf hh hb hnf)];exact q1⟩,fun b1 g h hh e=>?_⟩
  simp only [Rho.put] at hh
  split at hh
  ·injection hh with hh;subst hh
   rcases l9 with⟨g',YA⟩|l9
   ·exact absurd e (hG.frzE hf YA hb hnf)
   ·omega
  ·obtain⟨y,r1,r2⟩:=q2 _ _ _ hh e
   exact⟨y,by rw[T.get_set_ne _ (fun e=>by subst e;rw[hb] at r1;injection r1 with r1;subst r1;exact(hnf:¬xx _) r2)];exact r1,r2⟩
 ·by_cases e:b'=b
  ·subst e
   rw[T.get_set_same _ _ _ d8] at O'
   injection O' with O'
   exact absurd O' (hxo _ _ _)
  ·rw[T.get_set_ne _ e] at O'
   simp only [Rho.put] at hh
   split at hh
   ·rename_i c1;exact absurd c1.1 e
   ·exact hG.objO b' k I l O' g h hh
theorem uL{b g gen:Nat}{h h2:Home}(hg:g<=gen)(hh:ρ.at_ b g=some h):(ρ.put b (gen+1) h2).at_ b g=some h:=by
 simp only [Rho.put]
 rw[if_neg (fun e=>by omega)];exact hh
theorem FZ{b gen lo fl fh len size n ty:Nat}{c0:T Cell}{new:List AV}{nvs:List Value}{H:T ABlk}{h:Home}(hG:Good w0 ρ H w)(d8:b+1<2 ^ 64)
  (hb:H.get b=some (.cells c0 gen lo (lo+len * size) fl fh false ty)) (hh:ρ.at_ b gen=some h) (ho:h.shift<=lo) (hfh:fh<=lo+len * size) (l9:LR ρ new nvs) (hn:new.length=n * size) {cap:Nat} (ah8:len+n<=cap) (X8:lo-h.shift+cap * size<=h.size)
  (XQ:∀a∈new,fB a=true) {c:T Cell} (hc:∀o x,c.get o=some x->(∃(j:Nat) (a:AV),o=(lo+len * size)+j/\new[j]? =some a/\x= .mk (gen+1) a)∨(c0.get o=some x/\(o<lo+len * size∨lo+len * size+new.length<=o))):
  ∃w',(storeCells ((⟨h.blk,lo-h.shift,none⟩:Addr).add (len * size)) nvs).run P w= .ok () w'/\ρ.le (ρ.put b (gen+1) h)/\Good w0 (ρ.put b (gen+1) h) (H.set b (.cells c (gen+1) lo (lo+len * size+n * size) fl fh false ty)) w':=by
 have hB:=hG.blk _ _ hb
 obtain⟨hm,q1,q2,_,arr,fr,q3,q4,q5,q6⟩:=hB.2 gen (aaa _)
 rw[hh] at q1;injection q1 with q1;subst q1
 have q2:=q2 rfl
 obtain⟨q5a,q5b⟩:=q5 rfl
 have Zl:nvs.length=n * size:=by rw[l9.1,hn]
 have hmul:(len+n) * size<=cap * size:=aa4 ah8 (aaa _)
 rw[aav] at hmul
 have X3:lo+len * size-h.shift+nvs.length<=arr.size:=by rw[Zl,q4];omega
 obtain⟨m7,s1,s2,s3,s4,s5,s6,s7⟩:=eG h.blk nvs (lo+len * size-h.shift) w arr ty fr q3 X3
 have s8:=run_storeCells_cells (P:=P) h.blk (lo+len * size-h.shift) nvs 0 w (fun j hj=>by
   simp only [World.cell?,q3]
   simp only [aa2,Bool.false_eq_true,if_false,aap]
   rw[aaJ (by omega)];rfl) (fun j hj=>by
   simp only [World.frozen?,q3,aap]
   cases hx:(decide (fr.1<=lo+len * size-h.shift+j) && decide (lo+len * size-h.shift+j<fr.2)) with
   |false=>rfl
   |true=>
    simp only [Bool.and_eq_true,decide_eq_true_eq] at hx
    have:=q5b _ (.inl (show lo+len * size-h.shift+j<h.size by rw[←q4];omega)) hx.1 hx.2
    omega) (l9.ones XQ)
 rw[aap] at s8
 refine⟨_,by rw[dj ho];exact s8, ?_⟩
 refine hG.fork hb d8 (Kept.of_set (s7 0 (aal _)) s5 q2) (fun k _ hk=>s5 k (fun e=>hk gen h hh e.symm)) (by omega) (fun b' g' h' o8 i4=>s5 _ fun e'=>o8 (hG.inj _ _ _ _ _ _ i4 hh e').1) (by have:=(hG.dom _ _ _ hh).1;omega) (.inl ⟨gen,hh⟩) fun hle=>⟨fun o x hx=>?_,fun g hg=>?_⟩
 ·rcases hc o x hx with⟨j,a,e1,e2,e3⟩|⟨hx,f7⟩
  ·have:j<new.length:=by
    rcases aaf j new.length with h'|h'
    ·exact h'
    ·rw[aaj h'] at e2;cases e2
   subst e3
   exact⟨by omega,by omega,aaa _⟩
  ·have:=hB.1 o x hx
   omega
 ·by_cases eg:g=gen+1
  ·subst eg
   refine⟨h,Rho.put_at _ _ _ _,fun _=>q2,(fun hc=>by cases hc),m7,fr,s1,by omega,fun _=>⟨q5a,q5b⟩,fun o tag a hoa ht=>?_⟩
   rcases hc o _ hoa with⟨j,a',e1,e2,e3⟩|⟨hx,f7⟩
   ·injection e3 with e3 e4
    subst e4
    have hj:j<new.length:=by
     rcases aaf j new.length with h'|h'
     ·exact h'
     ·rw[aaj h'] at e2;cases e2
    obtain⟨v,hv,hr⟩:=l9.get e2
    refine⟨by omega,v, ?_,hr.mono hle⟩
    rw[show o-h.shift=lo+len * size-h.shift+j by omega,s3 j (by omega)];exact hv
   ·have XW:=hB.1 o _ hx
    obtain⟨r1,v,r2,r3⟩:=q6 o tag a hx (by have:=XW.2.2;exact this)
    refine⟨r1,v, ?_,r3.mono hle⟩
    rw[s4 _ (.inl (by omega))];exact r2
  ·have hg:g<=gen:=by omega
   obtain⟨x8,t1,t2,t2',ad0,fr1,t3,t4,t5,t6⟩:=hB.2 g hg
   by_cases eb:x8.blk=h.blk
   ·obtain⟨_,ehm⟩:=hG.inj _ _ _ _ _ _ t1 hh eb
    subst ehm
    rw[q3] at t3;injection t3 with t3;injection t3 with t3a t3b t3c
    subst t3a;subst t3c
    refine⟨_,uL hg t1,t2,t2',m7,fr,s1,by omega,t5,fun o tag a hoa ht=>?_⟩
    rcases hc o _ hoa with⟨j,a',e1,e2,e3⟩|⟨hx,f7⟩
    ·injection e3 with e3 e4
     omega
    ·have XW:=hB.1 o _ hx
     obtain⟨r1,v,r2,r3⟩:=t6 o tag a hx ht
     refine⟨r1,v, ?_,r3.mono hle⟩
     rw[s4 _ (.inl (by omega))];exact r2
   ·refine⟨x8,uL hg t1,t2,t2',ad0,fr1,by rw[s5 _ eb];exact t3,t4,t5,fun o tag a hoa ht=>?_⟩
    rcases hc o _ hoa with⟨j,a',e1,e2,e3⟩|⟨hx,f7⟩
    ·injection e3 with e3 e4
     omega
    ·obtain⟨r1,v,r2,r3⟩:=t6 o tag a hx ht
     exact⟨r1,v,r2,r3.mono hle⟩
theorem Jj{b gen lo fl fh len size n:Nat}{c0:T Cell}{new:List AV}{nvs olds rest:List Value}{H:T ABlk}{h:Home}{e2:TypeId}(hG:Good w0 ρ H w)(d8:b+1<2 ^ 64)
  (hb:H.get b=some (.cells c0 gen lo (lo+len * size) fl fh false e2)) (hh:ρ.at_ b gen=some h) (l9:LR ρ new nvs) (hn:new.length=n * size) (aj_:olds.length=len * size)
  (x6:0<len->h.shift<=lo) (hold:∀j v,olds[j]? =some v->0<len->w.cell? ⟨h.blk,lo-h.shift+j,none⟩=some v)
  {c:T Cell} (hc:∀o x,c.get o=some x->(∃(j:Nat) (a:AV),o=(lo+len * size)+j/\new[j]? =some a/\x= .mk (gen+1) a)∨(c0.get o=some x/\(o<lo+len * size∨lo+len * size+new.length<=o))):
  ρ.le (ρ.put b (gen+1) ⟨w.heap.size,lo,(olds++nvs++rest).length⟩)/\
  Good w0 (ρ.put b (gen+1) ⟨w.heap.size,lo,(olds++nvs++rest).length⟩) (H.set b (.cells c (gen+1) lo (lo+len * size+n * size) fl fh false e2)) (w.drew.alloc (.cells (olds++nvs++rest).toArray e2)):=by
 have hB:=hG.blk _ _ hb
 have Yt:∀k,k<w.heap.size->(w.drew.alloc (.cells (olds++nvs++rest).toArray e2)).heap[k]? =w.heap[k]? :=fun k hk=>Below.heap_alloc w.drew _ k hk
 have Zl:nvs.length=n * size:=by rw[l9.1,hn]
 refine hG.fork hb d8 (Kept.of (((Below.refl _ _).drew).alloc hG.below.size _)) (fun k hk _=>Yt k hk) (by simp) (fun b' g' h' _ i4=>Yt _ (hG.dom _ _ _ i4).1) (by simp) (.inr (aaa _)) fun hle=>⟨fun o x hx=>?_,fun g hg=>?_⟩
 ·rcases hc o x hx with⟨j,a,e1,e2,e3⟩|⟨hx,f7⟩
  ·have:j<new.length:=by
    rcases aaf j new.length with h'|h'
    ·exact h'
    ·rw[aaj h'] at e2;cases e2
   subst e3
   exact⟨by omega,by omega,aaa _⟩
  ·have:=hB.1 o x hx
   omega
 ·by_cases eg:g=gen+1
  ·subst eg
   refine⟨_,Rho.put_at _ _ _ _,fun _=>.new hG.below.size,(fun hc=>by cases hc),(olds++nvs++rest).toArray,(0,0), ?_,by simp,fun _=>⟨aaa _,fun x _ _ h3=>absurd h3 (by simp)⟩,fun o tag a hoa ht=>?_⟩
   ·show(w.heap.push _)[w.heap.size]? =_
    simp
   rcases hc o _ hoa with⟨j,a',e1,e2',e3⟩|⟨hx,f7⟩
   ·injection e3 with e3 e4
    subst e4
    have hj:j<new.length:=by
     rcases aaf j new.length with h'|h'
     ·exact h'
     ·rw[aaj h'] at e2';cases e2'
    obtain⟨v,hv,hr⟩:=l9.get e2'
    refine⟨by show lo<=o;omega,v, ?_,hr.mono hle⟩
    show(olds++nvs++rest).toArray[o-lo]? =some v
    rw[aa9,aau,aaA (by omega),aaz (by omega),show o-lo-olds.length=j by omega];exact hv
   ·have XW:=hB.1 o _ hx
    obtain⟨hm,q1,q2,_,arr,fr,q3,q4,q5,q6⟩:=hB.2 gen (aaa _)
    rw[hh] at q1;injection q1 with q1;subst q1
    obtain⟨r1,v,r2,r3⟩:=q6 o tag a hx (by have:=XW.2.2;exact this)
    refine⟨XW.1,v, ?_,r3.mono hle⟩
    have f7:o-lo<olds.length:=by omega
    show(olds++nvs++rest).toArray[o-lo]? =some v
    rw[aa9,aau,aaz f7]
    have j4:0<len:=by
     rcases aaM len with e0|e0
     ·subst e0;omega
     ·exact e0
    have:=hold (o-lo) olds[o-lo] (aah f7) j4
    have x6:=x6 j4
    rw[show lo-h.shift+(o-lo)=o-h.shift by omega] at this
    simp [World.cell?,q3,r2] at this
    rw[aah f7,this]
  ·have hg:g<=gen:=by omega
   obtain⟨x8,t1,t2,t2',ad0,fr1,t3,t4,t5,t6⟩:=hB.2 g hg
   refine⟨x8,uL hg t1,t2,t2',ad0,fr1,by rw[Yt _ (hG.dom _ _ _ t1).1];exact t3,t4,t5,fun o tag a hoa ht=>?_⟩
   rcases hc o _ hoa with⟨j,a',e1,e2,e3⟩|⟨hx,f7⟩
   ·injection e3 with e3 e4
    omega
   ·obtain⟨r1,v,r2,r3⟩:=t6 o tag a hx ht
    exact⟨r1,v,r2,r3.mono hle⟩
def kL(f:Nat->List AV)(len size:Nat)(new:List AV):Nat->List AV:=fun i=>if i<len then f i else(new.drop ((i-len) * size)).take size
theorem nA{f:Nat->List AV}{len size i:Nat}{new:List AV}(h:i<len):kL f len size new i=f i:=by unfold kL;rw[if_pos h]
theorem kg{f:Nat->List AV}{len size i:Nat}{new:List AV}(h:¬i<len):kL f len size new i=(new.drop ((i-len) * size)).take size:=by unfold kL;rw[if_neg h]
theorem F0{f:Nat->List AV}{len size n i:Nat}{new:List AV}(h:¬i<len)(hi:i<len+n)(hn:new.length=n * size):(kL f len size new i).length=size:=by
 rw[kg h,aam,aan,hn]
 have:(i-len) * size+size<=n * size:=by rw[←aaG];exact aat _ (by omega)
 omega
theorem F1{f:Nat->List AV}{len size i j:Nat}{new:List AV}{a:AV}(h:¬i<len)(ha:(kL f len size new i)[j]? =some a):j<size/\new[(i-len) * size+j]? =some a:=by
 rw[kg h] at ha
 have hj:j<size:=by
  rcases aaf j size with h'|h'
  ·exact h'
  ·rw[aaj (by rw[aam];omega)] at ha;cases ha
 rw[aar hj,aax] at ha
 exact⟨hj,ha⟩
theorem qa{f:Nat->List AV}{len size n:Nat}{new:List AV}{nvs:List Value}{arr:Array Value}(l9:LR ρ new nvs)(hn:new.length=n * size)
  (h1:∀i,i<len->(f i).length=size/\∀j a,(f i)[j]? =some a->∃u,arr[i * size+j]? =some u/\VR ρ a u) (h2:∀j v,nvs[j]? =some v->arr[len * size+j]? =some v):
  ∀i,i<len+n->(kL f len size new i).length=size/\∀j a,(kL f len size new i)[j]? =some a->∃u,arr[i * size+j]? =some u/\VR ρ a u:=by
 intro i hi
 by_cases h:i<len
 ·rw[nA h];exact h1 i h
 ·refine⟨F0 h hi hn,fun j a ha=>?_⟩
  obtain⟨hj,ha⟩:=F1 h ha
  obtain⟨u,hu,hr⟩:=l9.get ha
  refine⟨u, ?_,hr⟩
  have:=h2 _ _ hu
  rw[←abp, ←aav,show len+(i-len)=i by omega] at this
  exact this
def Jk(P:Program)(w0:World)(ρ:Rho)(w:World)(H:T ABlk)(b:Nat)(x:ABlk)(a:AV)(s:Sem Value):Prop:=∃ρ' v' w',Good w0 ρ' (H.set b x) w'/\ρ.le ρ'/\VR ρ' a v'/\s.run P w= .ok v' w'
theorem sZ{H:T ABlk}{tys:Array TypeId}{ts tx e ty:TypeId}{dx:TypeDesc}{i:TypeInfo}{z:Value}{b g len n:Nat}{l:List AV}{cs:List Value}{v u:Value}{c0 c1:Ct}(hG:Good w0 ρ H w)(hx:VR ρ (.gsl b g len i.size) v)(h0:tys[0]? =some ts)(h1:tys[1]? =some tx)
  (ht:P.underlying ts=some (.slice e)) (T':P.underlying tx=some dx) (XH:∀j,dx≠ .int j) (hi:P.info? e=some i) (Yu:i.bytes<=1000) (Zo:i.zero=some z) (YS:z.cells.size=i.size)
  (hlen:∀w:World,(Builtin.lenOf u).run P w= .ok n w) (hn:n<=1000000) (j4:0<n) (hL:LR ρ l cs) (Q':cs.length=n * i.size) (j5:∀w2:World,w2.heap=w.heap->(Builtin.firstCells i.size n u).run P w2= .ok cs.toArray w2)
  (w8:H.get b=some (.grow c0 g e)) (d8:b+1<2 ^ 64) (k2:c0.es=i.size) (k4:l.length=n * i.size) (XQ:∀a∈l,fB a=true) (k6:c0.len=len) (k7:len<=1000000000) (a1:c1.len=c0.len+n) (a2:c1.es=c0.es)
  (ato:∀(ρ2:Rho) (i2:Nat),i2<c0.len+n->∀vs,LR ρ2 (kL c0.row c0.len c0.es l i2) vs->LR ρ2 (c1.row i2) vs):Jk P w0 ρ w H b (.grow c1 (g+1) e) (.gsl b (g+1) (len+n) i.size) (Builtin.append_ tys ty #[v,u]):=by
 obtain⟨f,hf⟩:∃f,f=c0.row:=⟨_,rfl⟩
 obtain⟨m,hm9⟩:∃m,m=c0.len:=⟨_,rfl⟩
 have hfl:∀ii,(f ii).length=i.size:=fun ii=>by rw[hf,c0.row_len,k2]
 rw[←hf, ←hm9,k2] at ato
 rw[←hm9] at a1 k6
 rw[k2] at a2
 subst k6
 have hB:=hG.blk _ _ w8
 have hnb:n * i.bytes<=1000000 * 1000:=aa4 hn Yu
 have fresh:∀(base:Option Addr) (c:Nat) (olds:List Value),v= .slice base m c->c<m+n->Builtin.nextslicecap (m+n) c * i.bytes<=281474976710656->olds.length=m * i.size->
   (∀ii,ii<m->(f ii).length=i.size/\∀j a,(f ii)[j]? =some a->∃uu,olds[ii * i.size+j]? =some uu/\VR ρ a uu)->(Builtin.firstCells i.size m (.slice base m c)).run P w.drew= .ok olds.toArray w.drew->Jk P w0 ρ w H b (.grow c1 (g+1) e) (.gsl b (g+1) (m+n) i.size) (Builtin.append_ tys ty #[v,u]):=by
  intro base c olds ev f7 X8 hol hoc hof
  subst ev
  have i3:=dJ (P:=P) (w:=w) (ty:=ty) h0 h1 ht T' XH hi Zo (hlen w) f7 (by omega) X8 hof (j5 _ rfl)
  have X_:=grownCap_ge w (m+n) c e
  have Yt:∀k,k<w.heap.size->(w.drew.alloc (.cells (olds++cs++(Builtin.zeroCells z.cells (grownCap w (m+n) c e-(m+n))).toList).toArray e)).heap[k]? =w.heap[k]? :=fun k hk=>Below.heap_alloc w.drew _ k hk
  have u0:(olds++cs++(Builtin.zeroCells z.cells (grownCap w (m+n) c e-(m+n))).toList).length=grownCap w (m+n) c e * i.size:=by
   rw[aai,aai,hol,Q',aaH,size_zeroCells,YS, ←aav, ←aav]
   congr 1;omega
  obtain⟨hle,XD⟩:=hG.forkX (w':=w.drew.alloc (.cells (olds++cs++(Builtin.zeroCells z.cells (grownCap w (m+n) c e-(m+n))).toList).toArray e)) (x:=.grow c1 (g+1) e) (gen:=g)
   (h2:=⟨w.heap.size,0,grownCap w (m+n) c e * i.size⟩) w8 (fun g' h'=>h') (fun g' h'=>h') d8 (Kept.of (((Below.refl _ _).drew).alloc hG.below.size _)) (fun k hk _=>Yt k hk) (by simp) (fun b' g' h' _ i4=>Yt _ (hG.dom _ _ _ i4).1) (by simp) (.inr (aaa _)) (fun hle=>by
    refine .inr ⟨_,Rho.put_at _ _ _ _,rfl,.new hG.below.size,(olds++cs++(Builtin.zeroCells z.cells (grownCap w (m+n) c e-(m+n))).toList).toArray,(0,0), ?_,by rw[List.size_toArray];exact u0, ?_,fun x _ _ h3=>absurd h3 (by simp), ?_⟩
    ·show(w.heap.push _)[w.heap.size]? =_
     simp
    ·rw[a1,a2];exact aat _ X_
    ·intro ii ZL
     rw[a1] at ZL
     rw[a2]
     have:=qa (ρ:=ρ) (f:=f) (len:=m) (arr:=(olds++cs++(Builtin.zeroCells z.cells (grownCap w (m+n) c e-(m+n))).toList).toArray) hL k4 (fun i2 Y6=>⟨(hoc i2 Y6).1,fun j a ha=>by
       obtain⟨uu,u1,u2⟩:=(hoc i2 Y6).2 j a ha
       refine⟨uu, ?_,u2⟩
       have hjl:i2 * i.size+j<olds.length:=by
        rcases aaf (i2 * i.size+j) olds.length with h'|h'
        ·exact h'
        ·rw[aaj h'] at u1;cases u1
       rw[aa9,aau,aaz hjl];exact u1⟩) (fun j vv hv=>by
       have hjl:j<cs.length:=by
        rcases aaf j cs.length with h'|h'
        ·exact h'
        ·rw[aaj h'] at hv;cases hv
       rw[aa9,aau,aaA (by omega),aaz (by omega),show m * i.size+j-olds.length=j by omega];exact hv) ii ZL
     exact mh (fun j a ha=>by obtain⟨uu,u1,u2⟩:=this.2 j a ha;exact⟨uu,u1,u2.mono hle⟩) (ato _ ii ZL))
  refine⟨_,_,_,XD,hle,.gsl b (g+1) (m+n) i.size _ (grownCap w (m+n) c e) (by omega) (Rho.put_at _ _ _ _) rfl X_ (aaa _),i3⟩
 cases hx with
 |gnil _ _ _=>
  refine fresh none 0 [] rfl (by omega) (by rw[aak,nextslicecap_zero j4];omega) (by simp) (fun ii ZL=>by omega) (by simp [Builtin.firstCells])
 |gempty _ _ _ a=>
  refine fresh (some a) 0 [] rfl (by omega) (by rw[aak,nextslicecap_zero j4];omega) (by simp) (fun ii ZL=>by omega) (by simp [Builtin.firstCells,loadCells,loadCellsFrom])
 |gsl _ _ _ _ hm c hm0 hh F' hc hz=>
  rcases hB with hB|⟨x8,q1,q2,q3,arr,fr,q4,q5,q6,q7,q8⟩
  ·omega
  rw[←hf, ←hm9,k2] at q8
  rw[←hm9,k2] at q6
  rw[hh] at q1;injection q1 with q1;subst q1
  rcases aaf c (m+n) with f7|Yb
  ·have hmc:m * i.size<=c * i.size:=aat _ hc
   refine fresh (some ⟨hm.blk,0,none⟩) c (arr.toList.take (m * i.size)) rfl f7 ?_ (by rw[aam,aaH];omega) (fun ii ZL=>⟨hfl ii,fun j a ha=>?_⟩) ?_
   ·have h1:Builtin.nextslicecap (m+n) c<=2 * (m+n):=nextslicecap_le f7
    have h2:=aa4 h1 Yu
    omega
   ·obtain⟨uu,u1,u2⟩:=q8 ii ZL j a ha
    refine⟨uu, ?_,u2⟩
    have hj:j<i.size:=by
     have:=hfl ii
     rcases aaf j (f ii).length with h'|h'
     ·omega
     ·rw[aaj h'] at ha;cases ha
    have:ii * i.size+i.size<=m * i.size:=by rw[←aaG];exact aat _ ZL
    rw[aar (by omega)]
    simpa using u1
   ·refine run_firstCells_some _ i.size m _ m c _ (by rw[aam,aaH];omega) fun j vv hj=>?_
    rw[bN]
    rw[aaW] at hj
    split at hj
    ·show w.cell? _=_
     rw[aak]
     simp [World.cell?,q4]
     simpa using hj
    ·cases hj
  ·have hmul:(m+n) * i.size<=c * i.size:=aat _ Yb
   rw[aav] at hmul
   have X3:m * i.size+cs.length<=arr.size:=by rw[Q'];omega
   obtain⟨m7,s1,s2,s3,s4,s5,s6,s7⟩:=eG hm.blk cs (m * i.size) w arr e fr q4 X3
   have s8:=run_storeCells_cells (P:=P) hm.blk (m * i.size) cs 0 w (fun j hj=>by
     simp only [World.cell?,q4]
     simp only [aa2,Bool.false_eq_true,if_false,aap]
     rw[aaJ (by omega)];rfl) (fun j hj=>by
     simp only [World.frozen?,q4,aap]
     cases hx:(decide (fr.1<=m * i.size+j) && decide (m * i.size+j<fr.2)) with
     |false=>rfl
     |true=>
      simp only [Bool.and_eq_true,decide_eq_true_eq] at hx
      exact(q7 _ (by omega) hx.1 hx.2).elim) (hL.ones XQ)
   rw[aap] at s8
   have i3:=ed (P:=P) (w:=w) (ty:=ty) h0 h1 ht T' XH hi (hlen w) Yb (j5 w rfl) (a:=⟨hm.blk,0,none⟩) (by rw[bN,aak];exact s8)
   obtain⟨hle,XD⟩:=hG.forkX (w':=w.setCells hm.blk (m * i.size) cs) (x:=.grow c1 (g+1) e) (gen:=g) (h2:=hm) w8 (fun g' h'=>h') (fun g' h'=>h') d8
    (Kept.of_set (s7 0 (aal _)) s5 q3) (fun k _ hk=>s5 k (fun e=>hk g hm hh e.symm)) (by omega) (fun b' g' h' o8 i4=>s5 _ fun e'=>o8 (hG.inj _ _ _ _ _ _ i4 hh e').1) (by have:=(hG.dom _ _ _ hh).1;omega) (.inl ⟨g,hh⟩) (fun hle=>by
     refine .inr ⟨_,Rho.put_at _ _ _ _,q2,q3,m7,fr,s1,by omega,by rw[a1,a2,aav];omega,q7, ?_⟩
     intro ii ZL
     rw[a1] at ZL
     rw[a2]
     have:=qa (ρ:=ρ) (f:=f) (len:=m) (arr:=m7) hL k4 (fun i2 Y6=>⟨hfl i2,fun j a ha=>by
       obtain⟨uu,u1,u2⟩:=q8 i2 Y6 j a ha
       refine⟨uu, ?_,u2⟩
       have hj:j<i.size:=by
        have:=hfl i2
        rcases aaf j (f i2).length with h'|h'
        ·omega
        ·rw[aaj h'] at ha;cases ha
       have:i2 * i.size+i.size<=m * i.size:=by rw[←aaG];exact aat _ Y6
       rw[s4 _ (.inl (by omega))];exact u1⟩) (fun j vv hv=>by
       have hjl:j<cs.length:=by
        rcases aaf j cs.length with h'|h'
        ·exact h'
        ·rw[aaj h'] at hv;cases hv
       rw[s3 j hjl];exact hv) ii ZL
     exact mh (fun j a ha=>by obtain⟨uu,u1,u2⟩:=this.2 j a ha;exact⟨uu,u1,u2.mono hle⟩) (ato _ ii ZL))
   exact⟨_,_,_,XD,hle,.gsl b (g+1) (m+n) i.size hm c (by omega) (Rho.put_at _ _ _ _) F' Yb hz,i3⟩
theorem yp{tys:Array TypeId}{ts tx e ty:TypeId}{dx:TypeDesc}{i:TypeInfo}{z:Value}{b g len n:Nat}{l:List AV}{cs:List Value}{v u:Value}(hS:SI σ)(hG:Good w0 ρ σ.h w)(hx:VR ρ (.gsl b g len i.size) v)(h0:tys[0]? =some ts)(h1:tys[1]? =some tx)
  (ht:P.underlying ts=some (.slice e)) (T':P.underlying tx=some dx) (XH:∀j,dx≠ .int j) (hi:P.info? e=some i) (Yu:i.bytes<=1000) (Zo:i.zero=some z) (YS:z.cells.size=i.size)
  (hlen:∀w:World,(Builtin.lenOf u).run P w= .ok n w) (hn:n<=1000000) (j4:0<n) (hL:LR ρ l cs) (Q':cs.length=n * i.size) (j5:∀w2:World,w2.heap=w.heap->(Builtin.firstCells i.size n u).run P w2= .ok cs.toArray w2)
  (h:run (IF e b g len i.size n l k) σ K=true):Res P w0 ρ w k K (Builtin.append_ tys ty #[v,u]):=by
 have d8:=cN hS h
 obtain⟨q,d6,hq,e1,d5,h⟩:=bm hS h
 have d7:Good w0 ρ d6.h w:=by rw[e1];exact hG
 cases q with
 |grow c0 gen t2=>
  obtain⟨k1,z1⟩:=ar h
  obtain⟨k2,z2⟩:=ar z1
  obtain⟨k3,z3⟩:=ar z2
  obtain⟨k4,z4⟩:=ar z3
  obtain⟨k5,z5⟩:=ar z4
  cases hap:c0.app l n with
  |none=>rw[hap] at z5;exact(ak z5).elim
  |some r0=>
  obtain⟨c1,pr⟩:=r0
  rw[hap] at z5
  obtain⟨⟨k6,k7,kp⟩,z6⟩:=aW z5
  obtain⟨x0,f9,U',e2,i5,_,z7⟩:=cI d5 z6
  clear h z1 z2 z3 z4 z5 z6
  have k1:=aR k1
  have k2:=aR k2
  have k3:=aR k3
  have k4:=aR k4
  have XQ:∀a∈l,fB a=true:=fun a ha=>List.all_eq_true.1 k5 a ha
  obtain⟨a1,a2,a3,a4⟩:=RK hap kp (by rw[k4,k2])
  have ato:∀(ρ2:Rho) (i2:Nat),i2<c0.len+n->∀vs,LR ρ2 (kL c0.row c0.len c0.es l i2) vs->LR ρ2 (c1.row i2) vs:=fun ρ2 i2 Y6 vs E'=>by
   by_cases h':i2<c0.len
   ·rw[nA h'] at E';rw[a3 i2 h'];exact E'
   ·rw[kg h'] at E'
    exact a4 i2 (by omega) Y6 ρ2 vs E'
  subst k1;subst k3
  have w8:d6.h.get b=some (.grow c0 g t2):=by rw[e1];exact hq
  obtain⟨ρ',v',w',g1,g2,g3,g4⟩:=sZ (P:=P) (ty:=ty) d7 hx h0 h1 ht T' XH hi Yu Zo YS hlen hn j4 hL Q' j5 w8 d8 k2 (by rw[k4]) XQ k6 k7 a1 a2 ato
  exact⟨_,f9,ρ',v',w',z7,i5,by rw[e2];exact g1,g2,g3,g4⟩
 |_=>exact(ak h).elim
theorem Jl{b:Nat}{f g:ABlk->Tr}(hfg:∀q c9,run (f q) c9 K=true->run (g q) c9 K=true)(h:run (.rd b f) σ K=true):run (.rd b g) σ K=true:=by
 cases σ with
 |mk H n fs tc w=>
  rw[gA] at h⊢
  split at h
  case isFalse=>cases h
  rename_i hb
  rw[if_pos hb]
  split at h
  ·cases h
  ·exact hfg _ _ h
def cu(t:List Nat):List AV:=t.map fun n:Nat=>AV.sI .u8 (Int.ofNat n)
def oD(t:List Nat):List Int:=t.map fun n:Nat=>Int.ofNat n
theorem Bz(t:List Nat):fG (cu t)=some (oD t)/\aO (oD t)=t/\bj (oD t):=by
 induction t with
 |nil=>exact⟨rfl,rfl,trivial⟩
 |cons a t ih=>
  obtain⟨h1,h2,h3⟩:=ih
  refine⟨?_, ?_, ?_⟩
  ·show fG (AV.sI .u8 (Int.ofNat a)::cu t)=some (Int.ofNat a::oD t)
   simp only [fG,cz,h1]
  ·show(Int.ofNat a).toNat::aO (oD t)=a::t
   rw[h2];rfl
  ·exact⟨Int.natCast_nonneg _,h3⟩
theorem yq{t:List Nat}{y:AV}{u:Value}(hG:Good w0 ρ σ.h w)(hy:VR ρ y u)(h:Bd y=some t):
  (∀w:World,(Builtin.lenOf u).run P w= .ok t.length w)/\∃cs:List Value,LR ρ (cu t) cs/\cs.length=t.length/\∀m,m<=t.length->∀w2:World,w2.heap=w.heap->(Builtin.firstCells 1 m u).run P w2= .ok (cs.take m).toArray w2:=by
 cases hy with
 |sS s=>
  injection h with h
  subst h
  have hn:(bytesOf s).length=s.size:=by unfold bytesOf;rw[aaO];rfl
  have hL:=iy ρ s
  refine⟨fun w=>by rw[hn];rfl,s.data.toList.map fun b=>Value.int .u8 b.toNat,⟨by simp [cu,bytesOf],fun i a v ha hv=>?_⟩, ?_,fun m hm w2 _=>?_⟩
  ·unfold cu bytesOf at ha
   rw[aaY,aaE] at ha
   rw[aaE] at hv
   cases hs:s.data.toList[i]? with
   |none=>rw[hs] at ha;cases ha
   |some b=>
    rw[hs] at ha hv
    injection ha with ha;injection hv with hv
    subst ha;subst hv
    exact .sI _ _
  ·rw[hn,aaO];rfl
  ·simp only [Builtin.firstCells,aac]
   congr 1
   apply Array.ext'
   simp [ByteArray.data_extract,abv,List.map_take]
 |cv c blk off cp arr ty hf hc hb r=>
  cases c with
  |rows m l=>cases h
  |bytes t'=>
  injection h with h
  subst h
  have hb:off+t'.length<=arr.size:=by simpa [Ct.len,Ct.es] using hb
  refine⟨fun w=>rfl,((arr.toList.drop off).take t'.length),⟨by simp [cu];omega,fun i a v ha hv=>?_⟩,by simp;omega,fun m hm w2 Zn=>?_⟩
  ·have hi:i<t'.length:=by
    rcases aaf i t'.length with h'|h'
    ·exact h'
    ·rw[aaj (by simpa [cu] using h')] at ha;cases ha
   unfold cu at ha
   rw[aaE,aah hi] at ha
   injection ha with ha
   rw[aar hi,aax] at hv
   refine r i 0 a v hi ?_ ?_
   ·show [AV.sI .u8 ((t'.getD i 0:Nat):Int)][0]? =some a
    rw[aag,aah hi, ←ha];rfl
   ·show arr[off+i * 1+0]? =some v
    rw[aaD,aap, ←hv];simp
  ·obtain⟨⟨fr,hw⟩,_⟩:=hG.frz _ _ _ hf
   have hm:m<=t'.length:=hm
   refine run_firstCells_some w2 1 _ _ _ _ _ (by simp;omega) fun j v hj=>?_
   have hjm:j<m:=by
    rcases aaf j m with h'|h'
    ·exact h'
    ·rw[aaj (by simp;omega)] at hj;cases hj
   have hj':j<t'.length:=by omega
   rw[aar hjm,aar hj',aax] at hj
   have e1:(⟨blk,off,none⟩:Addr).add j=⟨blk,off+j,none⟩:=by
    have:=dj (h:=⟨blk,0,0⟩) (o:=off) (n:=j) (aal _)
    simpa using this
   rw[e1]
   simp only [World.cell?,Zn,hw]
   rw[←hj];simp
 |cvnil c h0=>
  cases c with
  |rows m l=>cases h
  |bytes t'=>
  injection h with h
  subst h
  have h0:t'= []:=List.length_eq_zero_iff.1 h0
  subst h0
  exact⟨fun _=>rfl,[],LR.nil ρ,rfl,fun m hm _ _=>by
   simp [Builtin.firstCells]⟩
 |cvempty c a h0=>
  cases c with
  |rows m l=>cases h
  |bytes t'=>
  injection h with h
  subst h
  have h0:t'= []:=List.length_eq_zero_iff.1 h0
  subst h0
  exact⟨fun _=>rfl,[],LR.nil ρ,rfl,fun m hm _ _=>by
   have:m=0:=by simpa using hm
   subst this
   simp [Builtin.firstCells,loadCells,loadCellsFrom]⟩
 |_=>cases h
theorem N0{t:List Nat}{y:AV}{u:Value}(hG:Good w0 ρ σ.h w)(hy:VR ρ y u)(h:Bd y=some t):
  (∀w:World,(Builtin.lenOf u).run P w= .ok t.length w)/\∃cs:List Value,LR ρ (cu t) cs/\cs.length=t.length/\∀w2:World,w2.heap=w.heap->(Builtin.firstCells 1 t.length u).run P w2= .ok cs.toArray w2:=by
 obtain⟨h1,cs,h2,h3,h4⟩:=yq (P:=P) hG hy h
 refine⟨h1,cs,h2,h3,fun w2 hw=>?_⟩
 rw[h4 _ (aaa _) w2 hw, ←h3,aaZ]
def RN(P:Program)(ρ:Rho)(w:World)(u:Value)(t:List Nat):Prop:=(∀w:World,(Builtin.lenOf u).run P w= .ok t.length w)/\∃cs:List Value,LR ρ (cu t) cs/\cs.length=t.length/\∀w2:World,w2.heap=w.heap->(Builtin.firstCells 1 t.length u).run P w2= .ok cs.toArray w2
theorem N1{t:List Nat}{b g n ty:Nat}{u:Value}(hG:Good w0 ρ σ.h w)(hq:σ.h.get b=some (.grow (.bytes t) g ty))(hn:t.length=n)(hy:VR ρ (.gsl b g n 1) u):RN P ρ w u t:=by
 cases hy with
 |gnil _ _ _=>
  have h0:t= []:=List.length_eq_zero_iff.1 hn
  subst h0
  exact⟨fun _=>rfl,[],LR.nil ρ,rfl,fun _ _=>by simp [Builtin.firstCells]⟩
 |gempty _ _ _ a=>
  have h0:t= []:=List.length_eq_zero_iff.1 hn
  subst h0
  exact⟨fun _=>rfl,[],LR.nil ρ,rfl,fun _ _=>by simp [Builtin.firstCells,loadCells,loadCellsFrom]⟩
 |gsl _ _ _ _ hm c Y7 hh F' X9 hz=>
  subst hn
  rcases hG.blk _ _ hq with hB|⟨x8,q1,q2,q3,arr,fr,q4,q5,q6,q7,q8⟩
  ·have hB:t.length=0:=hB
   omega
  ·rw[hh] at q1;injection q1 with q1;subst q1
   have q6:t.length * 1<=hm.size:=q6
   have hb:t.length<=arr.size:=by omega
   refine⟨fun w=>rfl,(arr.toList.take t.length),⟨by simp [cu];omega,fun i a v ha hv=>?_⟩,by simp;omega,fun w2 Zn=>?_⟩
   ·have hi:i<t.length:=by
     rcases aaf i t.length with h'|h'
     ·exact h'
     ·rw[aaj (by simpa [cu] using h')] at ha;cases ha
    unfold cu at ha
    rw[aaE,aah hi] at ha
    injection ha with ha
    rw[aar hi] at hv
    obtain⟨uu,u1,u2⟩:=q8 i hi 0 a (by
     show [AV.sI .u8 ((t.getD i 0:Nat):Int)][0]? =some a
     rw[aag,aah hi, ←ha];rfl)
    have u1:arr[i * 1+0]? =some uu:=u1
    rw[aaD,aap] at u1
    rw[aaP,u1] at hv
    injection hv with hv
    rw[←hv];exact u2
   ·refine run_firstCells_some w2 1 _ _ _ _ _ (by simp;omega) fun j v hj=>?_
    have hjm:j<t.length:=by
     rcases aaf j t.length with h'|h'
     ·exact h'
     ·rw[aaj (by simp;omega)] at hj;cases hj
    rw[aar hjm] at hj
    have e1:(⟨hm.blk,0,none⟩:Addr).add j=⟨hm.blk,0+j,none⟩:=by
     have:=dj (h:=⟨hm.blk,0,0⟩) (o:=0) (n:=j) (aal _)
     simpa using this
    rw[e1]
    simp only [World.cell?,Zn,q4]
    rw[←hj];simp
theorem Jm{tys:Array TypeId}{ts tx e ty:TypeId}{dx:TypeDesc}{i:TypeInfo}{zv:Value}{b g len:Nat}{t:List Nat}{v u:Value}(hS:SI σ)(hG:Good w0 ρ σ.h w)(hx:VR ρ (.gsl b g len 1) v)(hu:RN P ρ w u t)(h0:tys[0]? =some ts)(h1:tys[1]? =some tx)
  (ht:P.underlying ts=some (.slice e)) (T':P.underlying tx=some dx) (XH:∀j,dx≠ .int j) (hi:P.info? e=some i) (Yu:i.bytes<=1000) (Zo:i.zero=some zv) (YS:zv.cells.size=1) (YT:i.size=1)
  (h:run (QK e b g len t k) σ K=true):Res P w0 ρ w k K (Builtin.append_ tys ty #[v,u]):=by
 obtain⟨hlen,cs,hL,Q',j5⟩:=hu
 rcases aaM t.length with Y5|j4
 ·have d8:=cN hS h
  obtain⟨q,d6,hq,e1,d5,h⟩:=bm hS h
  cases q with
  |grow c gen YI=>
   cases c with
   |rows m l=>exact(ak h).elim
   |bytes l0=>
   obtain⟨k1,z1⟩:=ar h
   obtain⟨k2,z2⟩:=ar z1
   obtain⟨k3,z3⟩:=aW z2
   obtain⟨x0,f9,U',e2,i5,_,z4⟩:=cI d5 z3
   clear h z1 z2 z3
   have k1:=aR k1
   have k2:=aR k2
   subst k1;subst k2
   have ht0:t= []:=List.length_eq_zero_iff.1 Y5
   subst ht0
   have d7:Good w0 ρ d6.h w:=by rw[e1];exact hG
   have w8:d6.h.get b=some (.grow (.bytes l0) g YI):=by rw[e1];exact hq
   have el:l0++ []=l0:=aa5 l0
   rw[el] at e2
   have I':∀w:World,(Builtin.lenOf u).run P w= .ok 0 w:=hlen
   cases hx with
   |gsl _ _ _ _ hm c Y7 hh F' X9 hz=>
    have hB:=d7.blk _ _ w8
    obtain⟨hle,XD⟩:=d7.forkX (w':=w) (x:=.grow (.bytes l0) (g+1) YI) (gen:=g) (h2:=hm) w8 (fun g' h'=>h') (fun g' h'=>h') d8 (Kept.refl _ _ _) (fun _ _ _=>rfl) (aaa _) (fun _ _ _ _ _=>rfl) (d7.dom _ _ _ hh).1 (.inl ⟨g,hh⟩) (fun hle=>by
     rcases hB with hB|⟨x8,q1,q2,q3,arr,fr,q4,q5,q6,q7,q8⟩
     ·exact .inl hB
     ·rw[hh] at q1;injection q1 with q1;subst q1
      exact .inr ⟨hm,Rho.put_at _ _ _ _,q2,q3.mono hle,arr,fr,q4,q5,q6,q7,fun i hi j a ha=>by obtain⟨uu,u1,u2⟩:=q8 i hi j a ha;exact⟨uu,u1,u2.mono hle⟩⟩)
    exact⟨_,f9,_,_,w,z4,i5,by rw[e2];exact XD,hle,.gsl b (g+1) (len+0) 1 hm c Y7 (Rho.put_at _ _ _ _) F' X9 hz,bc h0 h1 ht T' XH hi (I' _) X9 (be (I' w))⟩
   |gnil _ _ _=>
    exact .plain z4 i5 (by rw[e2];exact d7.none_turn w8 d8 k3.1 (fun g' h'=>abw h') (fun h=>h)) (.gnil _ _ _) (bc h0 h1 ht T' XH hi (I' _) (aaa _) (be (I' w)))
   |gempty _ _ _ a=>
    exact .plain z4 i5 (by rw[e2];exact d7.none_turn w8 d8 k3.1 (fun g' h'=>abw h') (fun h=>h)) (.gempty _ _ _ a) (bc h0 h1 ht T' XH hi (I' _) (aaa _) (be (I' w)))
  |_=>exact(ak h).elim
 ·have h2:run (IF e b g len 1 t.length (cu t) k) σ K=true/\t.length<=1000000:=by
   refine⟨Jl (fun q c9 h=>?_) h, ?_⟩
   ·cases q with
    |grow c gen YI=>
     cases c with
     |rows m l=>exact(ak h).elim
     |bytes l0=>
     obtain⟨k1,h⟩:=ar h
     obtain⟨k2,h⟩:=ar h
     obtain⟨k3,h⟩:=aW h
     obtain⟨p1,p2,p3⟩:=Bz t
     show run (ac (Nat.beq g gen) (ac (Nat.beq 1 1) (ac (Nat.beq YI e) (ac (Nat.beq (cu t).length (t.length * 1)) (ac ((cu t).all fB) _ .fail) .fail) .fail) .fail) .fail) c9 K=true
     have q1:Nat.beq (cu t).length (t.length * 1)=true:=by rw[Nat.beq_eq];simp [cu]
     have q2:(cu t).all fB=true:=by unfold cu;rw[List.all_map,abd];intro _ _;rfl
     have q3:Nat.beq (oD t).length t.length=true:=by rw[Nat.beq_eq];simp [oD]
     rw[k1,k2,q1,q2]
     have q4:Ct.app (.bytes l0) (cu t) t.length=some (.bytes (l0++t),bj (oD t)):=by
      simp only [Ct.app,p1,p2,q3];rfl
     show run (match Ct.app (.bytes l0) (cu t) t.length with
      |some (c',p)=>Tr.req ((Ct.bytes l0).len=len/\len<=1000000000/\p) (.wr b (.grow c' (gen+1) YI) (k (.gsl b (gen+1) (len+t.length) 1)))
      |none=>.fail) c9 K=true
     rw[q4]
     show run (Tr.req _ _) c9 K=true
     rw[eQ _ _ _ ⟨k3.1,k3.2.1,p3⟩]
     exact h
    |_=>exact(ak h).elim
   ·obtain⟨q,d6,_,_,_,h⟩:=bm hS h
    cases q with
    |grow c gen YI=>
     cases c with
     |rows m l=>exact(ak h).elim
     |bytes l0=>
     obtain⟨k1,h⟩:=ar h
     obtain⟨k2,h⟩:=ar h
     obtain⟨k3,h⟩:=aW h
     exact k3.2.2
    |_=>exact(ak h).elim
  rw[←YT] at h2 j5 hx
  exact yp (ty:=ty) hS hG hx h0 h1 ht T' XH hi Yu Zo (YS.trans YT.symm) hlen h2.2 j4 hL (by rw[Q',YT,aaD]) j5 h2.1
def ld(d:Ct):Nat->List AV
 |0=>[]
 |n+1=>ld d n++d.row n
theorem cP(d:Ct):∀n,(ld d n).length=n * d.es
 |0=>by simp [ld]
 |n+1=>by rw[ld,aai,cP d n,d.row_len,aaG]
theorem D7(d:Ct){q:Nat}{a:AV}:∀n,(ld d n)[q]? =some a->∃i j,i<n/\q=i * d.es+j/\(d.row i)[j]? =some a
 |0,h=>by simp [ld] at h
 |n+1,h=>by
  rcases aaf q (n * d.es) with h'|h'
  ·rw[ld,aaz (by rw[cP];exact h')] at h
   obtain⟨i,j,h1,h2⟩:=D7 d n h
   exact⟨i,j,by omega,h2⟩
  ·rw[ld,aaA (by rw[cP];exact h'),cP] at h
   exact⟨n,q-n * d.es,by omega,by omega,h⟩
theorem yr(d:Ct):∀n i,i<n->((ld d n).drop (i * d.es)).take d.es=d.row i
 |0,_,h=>by omega
 |n+1,i,h=>by
  rcases aaf i n with h'|h'
  ·have hm:i * d.es+d.es<=n * d.es:=by rw[←aaG];exact aat _ h'
   rw[ld,abx (by rw[cP];omega),abm (by rw[aan,cP];omega),yr d n i h']
  ·have:i=n:=by omega
   subst this
   rw[ld,abx (by rw[cP];omega),aaK (by rw[cP];omega),aa1,abn (by rw[d.row_len];omega)]
theorem qb:∀(g:G) (n i:Nat),∀a∈kR g n i,fB a=true
 |_,0,_,_,h=>by cases h
 |g,n+1,i,a,h=>by
  rcases List.mem_cons.1 h with h|h
  ·subst h;rfl
  ·exact qb g n (i+1) a h
theorem qc:∀(xs:List Sc) (g:G) (q:Nat),∀a∈bx xs g q,fB a=true
 | [],_,_,_,h=>by cases h
 |x::xs,g,q,a,h=>by
  rcases List.mem_append.1 h with h|h
  ·cases x <;> simp [fe] at h
   case h n=>exact qb _ _ _ a h
   all_goals (subst h;rfl)
  ·exact qc xs g (q+1) a h
theorem yt(m:Nat)(l:List G):∀n,∀a∈ld (.rows m l) n,fB a=true
 |0,a,h=>by cases h
 |n+1,a,h=>by
  rcases List.mem_append.1 h with h|h
  ·exact yt m l n a h
  ·exact qc _ _ _ a h
def yu(P:Program)(ρ:Rho)(w:World)(u:Value)(d:Ct):Prop:=(∀w:World,(Builtin.lenOf u).run P w= .ok d.len w)/\∃cs:List Value,LR ρ (ld d d.len) cs/\cs.length=d.len * d.es/\∀w2:World,w2.heap=w.heap->(Builtin.firstCells d.es d.len u).run P w2= .ok cs.toArray w2
theorem D8{d:Ct}{blk off cp:Nat}{arr:Array Value}{ty:TypeId}{fr:Nat×Nat}(hw:w.heap[blk]? =some (.cells arr ty fr))(hb:off+d.len * d.es<=arr.size)
  (r:∀i j a,i<d.len->(d.row i)[j]? =some a->∃u,arr[off+i * d.es+j]? =some u/\VR ρ a u):yu P ρ w (.slice (some ⟨blk,off,none⟩) d.len cp) d:=by
 have Q':((arr.toList.drop off).take (d.len * d.es)).length=d.len * d.es:=by rw[aam,aan,aaH];omega
 refine⟨fun w=>rfl,(arr.toList.drop off).take (d.len * d.es),⟨by rw[Q',cP],fun q a v ha hv=>?_⟩,Q',fun w2 Zn=>?_⟩
 ·obtain⟨i,j,h1,h2,h3⟩:=D7 d _ ha
  obtain⟨u,u1,u2⟩:=r i j a h1 h3
  have hq:q<d.len * d.es:=by
   rcases aaf q (d.len * d.es) with h'|h'
   ·exact h'
   ·rw[aaj (by rw[cP];exact h')] at ha;cases ha
  rw[aar hq,aax,aaP,h2, ←abp,u1] at hv
  injection hv with hv
  rw[←hv];exact u2
 ·refine run_firstCells_some w2 d.es d.len _ _ _ _ Q' fun j v hj=>?_
  have hj':j<d.len * d.es:=by
   rcases aaf j (d.len * d.es) with h'|h'
   ·exact h'
   ·rw[aaj (by rw[Q'];exact h')] at hj;cases hj
  rw[aar hj',aax] at hj
  have e1:(⟨blk,off,none⟩:Addr).add j=⟨blk,off+j,none⟩:=by
   have:=dj (h:=⟨blk,0,0⟩) (o:=off) (n:=j) (aal _)
   simpa using this
  rw[e1]
  simp only [World.cell?,Zn,hw]
  rw[←hj];simp
theorem lf{d:Ct}(h0:d.len=0){a:Option Addr}{c:Nat}:yu P ρ w (.slice a 0 c) d:=by
 refine⟨fun _=>by rw[h0];rfl,[], ?_,by rw[h0];simp,fun _ _=>?_⟩
 ·rw[h0];exact LR.nil ρ
 ·rw[h0]
  cases a <;> simp [Builtin.firstCells,loadCells,loadCellsFrom]
theorem N2{m:Nat}{l:List G}{y:AV}{u:Value}(hG:Good w0 ρ σ.h w)(hy:VR ρ y u)(h:DN y=some (m,l)):yu P ρ w u (.rows m l):=by
 cases hy with
 |cv c blk off cp arr ty hf hc hb r=>
  cases c with
  |bytes t=>cases h
  |rows m' l'=>
   injection h with h
   injection h with e1 e2
   subst e1;subst e2
   obtain⟨⟨fr,hw⟩,_⟩:=hG.frz _ _ _ hf
   refine D8 hw hb fun i j a hi ha=>?_
   have hj:j<(Ct.rows m' l').es:=by
    have:=(Ct.rows m' l').row_len i
    rcases aaf j ((Ct.rows m' l').row i).length with h'|h'
    ·omega
    ·rw[aaj h'] at ha;cases ha
   have hm:i * (Ct.rows m' l').es+(Ct.rows m' l').es<=(Ct.rows m' l').len * (Ct.rows m' l').es:=by rw[←aaG];exact aat _ hi
   have f7:off+i * (Ct.rows m' l').es+j<arr.size:=by omega
   exact⟨_,aaJ f7,r i j a _ hi ha (aaJ f7)⟩
 |cvnil c h0=>
  cases c with
  |bytes t=>cases h
  |rows m' l'=>injection h with h;injection h with e1 e2;subst e1;subst e2;exact lf h0
 |cvempty c a h0=>
  cases c with
  |bytes t=>cases h
  |rows m' l'=>injection h with h;injection h with e1 e2;subst e1;subst e2;exact lf h0
 |_=>cases h
theorem Jn{m:Nat}{l:List G}{b g n ty:Nat}{u:Value}(hG:Good w0 ρ σ.h w)(hq:σ.h.get b=some (.grow (.rows m l) g ty))(hn:l.length=n)(hy:VR ρ (.gsl b g n (bp (cK m))) u):yu P ρ w u (.rows m l):=by
 cases hy with
 |gnil _ _ _=>exact lf (show(Ct.rows m l).len=0 from hn)
 |gempty _ _ _ a=>exact lf (show(Ct.rows m l).len=0 from hn)
 |gsl _ _ _ _ hm c Y7 hh F' X9 hz=>
  subst hn
  rcases hG.blk _ _ hq with hB|⟨x8,q1,q2,q3,arr,fr,q4,q5,q6,q7,q8⟩
  ·have hB:l.length=0:=hB
   omega
  ·rw[hh] at q1;injection q1 with q1;subst q1
   refine D8 (d:=.rows m l) (off:=0) q4 (by rw[aak,q5];exact q6) fun i j a hi ha=>?_
   obtain⟨uu,u1,u2⟩:=q8 i hi j a ha
   exact⟨uu,by rw[aak];exact u1,u2⟩
theorem Jo{m n:Nat}{l:List G}{b g ty:Nat}{u:Value}(hG:Good w0 ρ σ.h w)(hq:σ.h.get b=some (.grow (.rows m l) g ty))(hn:n<=l.length)(hy:VR ρ (.gsl b g n (bp (cK m))) u):yu P ρ w u (.rows m (l.take n)):=by
 have hl:(l.take n).length=n:=by rw[aam];omega
 cases hy with
 |gnil _ _ _=>exact lf (d:=.rows m (l.take 0)) hl
 |gempty _ _ _ a=>exact lf (d:=.rows m (l.take 0)) hl
 |gsl _ _ _ _ hm c Y7 hh F' X9 hz=>
  rcases hG.blk _ _ hq with hB|⟨x8,q1,q2,q3,arr,fr,q4,q5,q6,q7,q8⟩
  ·have hB:l.length=0:=hB
   omega
  ·rw[hh] at q1;injection q1 with q1;subst q1
   have q6:l.length * bp (cK m)<=hm.size:=q6
   have hmul:n * bp (cK m)<=l.length * bp (cK m):=aat _ hn
   have:=D8 (P:=P) (ρ:=ρ) (d:=.rows m (l.take n)) (off:=0) (cp:=c) q4 (by show 0+(l.take n).length * bp (cK m)<=_;rw[hl];omega) fun i j a hi ha=>by
    have hi:i<n:=by have hi:i<(l.take n).length:=hi;omega
    have e:(Ct.rows m (l.take n)).row i=(Ct.rows m l).row i:=by
     show bx _ (aq _ _) _=bx _ (aq _ _) _
     unfold aq
     rw[aag,aag,aar hi]
    rw[e] at ha
    obtain⟨uu,u1,u2⟩:=q8 i (show i<l.length by omega) j a ha
    exact⟨uu,by rw[aak];exact u1,u2⟩
   rw[show(Ct.rows m (l.take n)).len=n from hl] at this
   exact this
theorem Jp{m n o:Nat}{l:List G}{b g ty:Nat}{u:Value}(hG:Good w0 ρ σ.h w)(hq:σ.h.get b=some (.grow (.rows m l) g ty))(ho:o=o/bp (cK m) * bp (cK m))(hn:o/bp (cK m)+n<=l.length)(hy:VR ρ (.slc b g o n none (bp (cK m))) u):yu P ρ w u (.rows m ((l.drop (o/bp (cK m))).take n)):=by
 have hl:((l.drop (o/bp (cK m))).take n).length=n:=by rw[aam,aan];omega
 cases hy with
 |slc _ _ _ _ _ _ ad c x6=>
  obtain⟨XR,x6⟩:=x6
  rcases aaM n with Y5|Y5
  ·subst Y5;exact lf (d:=.rows m ((l.drop (o/bp (cK m))).take 0)) hl
  rcases x6 with⟨h1,_⟩|⟨hm,hh,hs,ea,hz⟩
  ·omega
  rcases hG.blk _ _ hq with hB|⟨x8,q1,q2,q3,arr,fr,q4,q5,q6,q7,q8⟩
  ·have hB:l.length=0:=hB
   have:=aaR (Nat.le_add_left n (o/bp (cK m))) hn
   omega
  rw[hh] at q1;injection q1 with q1;subst q1
  subst ea
  rw[q2,abg] at hz⊢
  generalize hk:o/bp (cK m)=k0 at *
  have q6:l.length * bp (cK m)<=hm.size:=q6
  have hmul:(k0+n) * bp (cK m)<=l.length * bp (cK m):=aat _ hn
  rw[aav] at hmul
  have:=D8 (P:=P) (ρ:=ρ) (d:=.rows m ((l.drop k0).take n)) (off:=o) (cp:=c) q4 (by show o+((l.drop k0).take n).length * bp (cK m)<=_;rw[hl];omega) fun i j a hi ha=>by
   have hi:i<n:=by have hi:i<((l.drop k0).take n).length:=hi;omega
   have e:(Ct.rows m ((l.drop k0).take n)).row i=(Ct.rows m l).row (k0+i):=by
    show bx _ (aq _ _) _=bx _ (aq _ _) _
    unfold aq
    rw[aag,aag,aar hi,aax]
   rw[e] at ha
   obtain⟨uu,u1,u2⟩:=q8 (k0+i) (show k0+i<l.length by omega) j a ha
   refine⟨uu, ?_,u2⟩
   have u1:arr[(k0+i) * bp (cK m)+j]? =some uu:=u1
   rw[←u1]
   show arr[o+i * bp (cK m)+j]? =_
   rw[ho,aav]
  rw[show(Ct.rows m ((l.drop k0).take n)).len=n from hl] at this
  exact this
theorem Jq{tys:Array TypeId}{ts tx e ty:TypeId}{dx:TypeDesc}{i:TypeInfo}{zv:Value}{m:Nat}{l:List G}{a:AV}{v u:Value}(hS:SI σ)(hG:Good w0 ρ σ.h w)(hx:VR ρ a v)(hu:yu P ρ w u (.rows m l))(h0:tys[0]? =some ts)(h1:tys[1]? =some tx)
  (ht:P.underlying ts=some (.slice e)) (T':P.underlying tx=some dx) (XH:∀j,dx≠ .int j) (hi:P.info? e=some i) (Yu:i.bytes<=1000) (Zo:i.zero=some zv) (YS:zv.cells.size=i.size)
  (h:run (sN e i.size m l k a) σ K=true):Res P w0 ρ w k K (Builtin.append_ tys ty #[v,u]):=by
 obtain⟨hlen,cs,hL,Q',j5⟩:=hu
 cases a with
 |gsl b g len es=>
  obtain⟨kes,h⟩:=ar h
  have kes:=aR kes
  subst kes
  have d8:=cN hS h
  obtain⟨q,d6,hq,e1,d5,h⟩:=bm hS h
  cases q with
  |grow c gen YI=>
   cases c with
   |bytes l0=>exact(ak h).elim
   |rows m0 l0=>
   obtain⟨k1,z1⟩:=ar h
   obtain⟨k2,z2⟩:=ar z1
   obtain⟨k3,z3⟩:=ar z2
   obtain⟨k4,z4⟩:=ar z3
   obtain⟨⟨k5,k6,k7⟩,z5⟩:=aW z4
   obtain⟨x0,f9,U',e2,i5,_,z6⟩:=cI d5 z5
   clear h z1 z2 z3 z4 z5
   have k1:=aR k1
   have k2:=aR k2
   have k3:=aR k3
   have k4:=aR k4
   subst k1;subst k2;subst k3
   have d7:Good w0 ρ d6.h w:=by rw[e1];exact hG
   have w8:d6.h.get b=some (.grow (.rows m0 l0) g YI):=by rw[e1];exact hq
   rcases aaM l.length with Y5|j4
   ·have ht0:l= []:=List.length_eq_zero_iff.1 Y5
    subst ht0
    have el:l0++ []=l0:=aa5 l0
    rw[el] at e2
    have I':∀w:World,(Builtin.lenOf u).run P w= .ok 0 w:=hlen
    cases hx with
    |gsl _ _ _ _ hm c Y7 hh F' X9 hz=>
     have hB:=d7.blk _ _ w8
     obtain⟨hle,XD⟩:=d7.forkX (w':=w) (x:=.grow (.rows m0 l0) (g+1) YI) (gen:=g) (h2:=hm) w8 (fun g' h'=>h') (fun g' h'=>h') d8 (Kept.refl _ _ _) (fun _ _ _=>rfl) (aaa _) (fun _ _ _ _ _=>rfl) (d7.dom _ _ _ hh).1 (.inl ⟨g,hh⟩) (fun hle=>by
      rcases hB with hB|⟨x8,q1,q2,q3,arr,fr,q4,q5,q6,q7,q8⟩
      ·exact .inl hB
      ·rw[hh] at q1;injection q1 with q1;subst q1
       exact .inr ⟨hm,Rho.put_at _ _ _ _,q2,q3.mono hle,arr,fr,q4,q5,q6,q7,fun i hi j a ha=>by obtain⟨uu,u1,u2⟩:=q8 i hi j a ha;exact⟨uu,u1,u2.mono hle⟩⟩)
     exact⟨_,f9,_,_,w,z6,i5,by rw[e2];exact XD,hle,.gsl b (g+1) (len+0) i.size hm c Y7 (Rho.put_at _ _ _ _) F' X9 hz,bc h0 h1 ht T' XH hi (I' _) X9 (be (I' w))⟩
    |gnil _ _ _=>
     exact .plain z6 i5 (by rw[e2];exact d7.none_turn w8 d8 k5 (fun g' h'=>abw h') (fun h=>h)) (.gnil _ _ _) (bc h0 h1 ht T' XH hi (I' _) (aaa _) (be (I' w)))
    |gempty _ _ _ a=>
     exact .plain z6 i5 (by rw[e2];exact d7.none_turn w8 d8 k5 (fun g' h'=>abw h') (fun h=>h)) (.gempty _ _ _ a) (bc h0 h1 ht T' XH hi (I' _) (aaa _) (be (I' w)))
   ·have ah9:(ld (.rows m0 l) l.length).length=l.length * i.size:=by rw[cP];show _ * bp (cK m0)=_;rw[k4]
    have af3:(Ct.rows m0 (l0++l)).len=(Ct.rows m0 l0).len+l.length:=aai
    obtain⟨ρ',v',w',g1,g2,g3,g4⟩:=sZ (P:=P) (ty:=ty) (c1:=.rows m0 (l0++l)) (n:=l.length) (l:=ld (.rows m0 l) l.length) (cs:=cs) d7 hx h0 h1 ht T' XH hi Yu Zo YS hlen k7 j4 hL (by rw[Q'];show _ * bp (cK m0)=_;rw[k4];rfl)
     (fun w2 Zn=>by have:=j5 w2 Zn;rwa [show(Ct.rows m0 l).es=i.size from k4] at this) w8 d8 k4 ah9 (yt m0 l _) k5 k6 af3 rfl (fun ρ2 i2 Y6 vs E'=>by
      have Y6:i2<l0.length+l.length:=Y6
      by_cases h':i2<l0.length
      ·rw[nA (show i2<(Ct.rows m0 l0).len from h')] at E'
       have e:(Ct.rows m0 (l0++l)).row i2=(Ct.rows m0 l0).row i2:=by
        show bx _ (aq _ _) _=bx _ (aq _ _) _
        unfold aq
        rw[aag,aag,aaz h']
       rw[e];exact E'
      ·rw[kg (show ¬i2<(Ct.rows m0 l0).len from h')] at E'
       have e:(Ct.rows m0 (l0++l)).row i2=(Ct.rows m0 l).row (i2-l0.length):=by
        show bx _ (aq _ _) _=bx _ (aq _ _) _
        unfold aq
        rw[aag,aag,aaA (by omega)]
       rw[e, ←yr (.rows m0 l) l.length (i2-l0.length) (by omega)];exact E')
    exact⟨_,f9,ρ',v',w',z6,i5,by rw[e2];exact g1,g2,g3,g4⟩
  |_=>exact(ak h).elim
 |_=>exact(ak h).elim
theorem BA{tys:Array TypeId}{ts tx e ty:TypeId}{dx:TypeDesc}{x y:AV}{v u:Value}(hS:SI σ)(hG:Good w0 ρ σ.h w)(hx:VR ρ x v)(hy:VR ρ y u)(h0:tys[0]? =some ts)(h1:tys[1]? =some tx)
  (ht:P.underlying ts=some (.slice e)) (T':P.underlying tx=some dx) (XH:∀j,dx≠ .int j) (h:run (DP P e x y k) σ K=true):Res P w0 ρ w k K (Builtin.append_ tys ty #[v,u]):=by
 obtain⟨i,hi,h⟩:=QN h
 obtain⟨Yu,h⟩:=ar h
 have Yu:=bu Yu
 obtain⟨P',h⟩:=ar (f_ h)
 have P':=bu P'
 obtain⟨z,zv,i',hi',YB,hz,h⟩:=pU ρ w h
 have Zo:i.zero=some zv:=by
  simp [zeroValue,typeInfo,aab,run_program,hi] at YB
  cases hz0:i.zero with
  |none=>rw[hz0] at YB;simp at YB
  |some q=>rw[hz0] at YB;simp at YB;rw[YB]
 obtain⟨zl,hzl,h⟩:=fL hz h
 obtain⟨YS,h⟩:=ar h
 have YS:=aR YS
 have YS:zv.cells.size=i.size:=by rw[←aaH,hzl.1];exact YS
 have appS:∀(t:List Nat) (σ:St),SI σ->Good w0 ρ σ.h w->RN P ρ w u t->run (pe e i.size t x k) σ K=true->Res P w0 ρ w k K (Builtin.append_ tys ty #[v,u]):=by
  intro t σ hS hG hu h
  obtain⟨YT,h⟩:=ar h
  have YT:=aR YT
  have grown:∀(a:AV) (c9:St),SI c9->Good w0 ρ c9.h w->VR ρ a v->run (xN e t k a) c9 K=true->Res P w0 ρ w k K (Builtin.append_ tys ty #[v,u]):=by
   intro a c9 l8 i6 ha h
   cases a with
   |gsl b g len es=>
    obtain⟨p8,h⟩:=ar h
    have p8:=aR p8
    subst p8
    exact Jm l8 i6 ha hu h0 h1 ht T' XH hi Yu Zo (by rw[YS,YT]) YT h
   |_=>exact(ak h).elim
  cases x with
  |gsl b g len es=>exact grown _ _ hS hG hx h
  |nils=>
   obtain⟨b,c9,hn,d8,e1,l8,h⟩:=dI hS h
   cases hx
   exact grown _ _ l8 (by rw[e1];exact hG.none_new hn d8 rfl) (.gnil _ _ _) h
  |slc b g o len cap es=>
   obtain⟨p8,z1⟩:=ar h
   have p8:=aad p8
   rcases bG z1 with⟨hl0,z2⟩|⟨_,z2⟩
   ·obtain⟨hz,z3⟩:=ar z2
    obtain⟨b',c9,hn,d8,e1,l8,z4⟩:=dI hS z3
    have hc:cap=some 0:=by
     unfold ux at hz
     split at hz
     ·rfl
     ·cases hz
    have hl0:=aad hl0
    clear h z1 z2 z3
    cases hx with
    |slc _ _ _ _ _ _ a c x6=>
     rw[hc] at x6
     obtain⟨_,ec,_⟩:=x6
     rw[hl0,ec] at grown⊢
     exact grown _ _ l8 (by rw[e1];exact hG.none_new hn d8 rfl) (.gempty _ _ _ a) z4
   ·obtain⟨c9,z3,l8,i6,_,hv⟩:=dK hS hG jw z2
    rw[p8] at hx
    exact grown _ _ l8 i6 (hv ρ (.refl _) _ hx) z3
  |_=>exact(ak h).elim
 have appR:∀(m:Nat) (l:List G) (σ:St),SI σ->Good w0 ρ σ.h w->yu P ρ w u (.rows m l)->run (j_ e i.size m l x k) σ K=true->Res P w0 ρ w k K (Builtin.append_ tys ty #[v,u]):=by
  intro m l σ hS hG hu h
  have grown:∀(a:AV) (c9:St),SI c9->Good w0 ρ c9.h w->VR ρ a v->run (sN e i.size m l k a) c9 K=true->Res P w0 ρ w k K (Builtin.append_ tys ty #[v,u]):=
   fun a c9 l8 i6 ha h=>Jq l8 i6 ha hu h0 h1 ht T' XH hi Yu Zo YS h
  cases x with
  |gsl b g len es=>exact grown _ _ hS hG hx h
  |nils=>
   obtain⟨b,c9,hn,d8,e1,l8,h⟩:=dI hS h
   cases hx
   exact grown _ _ l8 (by rw[e1];exact hG.none_new hn d8 rfl) (.gnil _ _ _) h
  |slc b g o len cap es=>
   obtain⟨p8,z1⟩:=ar h
   have p8:=aad p8
   rcases bG z1 with⟨hl0,z2⟩|⟨_,z2⟩
   ·obtain⟨hz,z3⟩:=ar z2
    obtain⟨b',c9,hn,d8,e1,l8,z4⟩:=dI hS z3
    have hc:cap=some 0:=by
     unfold ux at hz
     split at hz
     ·rfl
     ·cases hz
    have hl0:=aad hl0
    clear h z1 z2 z3
    cases hx with
    |slc _ _ _ _ _ _ a c x6=>
     rw[hc] at x6
     obtain⟨_,ec,_⟩:=x6
     rw[hl0,ec] at grown⊢
     exact grown _ _ l8 (by rw[e1];exact hG.none_new hn d8 rfl) (.gempty _ _ _ a) z4
   ·obtain⟨c9,z3,l8,i6,_,hv⟩:=dK hS hG gU z2
    exact grown _ _ l8 i6 (hv ρ (.refl _) _ hx) z3
  |_=>exact(ak h).elim
 have main:∀σ:St,SI σ->Good w0 ρ σ.h w->run (match DN y with
  |some (m,l)=>j_ e i.size m l x k
  |none=>match Bd y with
   |some t=>pe e i.size t x k
   |none=>Bc y fun n=>ac (Nat.ble n 1000000) (jo i.size n y fun new=>jq e i.size n new x k) .fail) σ K=true->Res P w0 ρ w k K (Builtin.append_ tys ty #[v,u]):=by
  intro σ hS hG h
  cases hrx:DN y with
  |some ml=>
   obtain⟨m,l⟩:=ml
   rw[hrx] at h
   exact appR m l σ hS hG (N2 hG hy hrx) h
  |none=>
  rw[hrx] at h
  cases Y8:Bd y with
  |some t=>
   rw[Y8] at h
   exact appS t σ hS hG (N0 (P:=P) (w:=w) hG hy Y8) h
  |none=>
  rw[Y8] at h
  obtain⟨n,h,hlen⟩:=uK (P:=P) hy h
  obtain⟨hn,h⟩:=ar h
  have hn:=bu hn
  obtain⟨l,cs,c9,e1,l8,h,hL,Q',j5⟩:=kf (P:=P) (w:=w.drew) hS (hG.drawn _) hy (hlen _) (aaa _) P' h
  have i6:Good w0 ρ c9.h w:=by rw[e1];exact hG
  have gcase:∀b g len es,VR ρ (.gsl b g len es) v->run (jq e i.size n l (.gsl b g len es) k) c9 K=true->Res P w0 ρ w k K (Builtin.append_ tys ty #[v,u]):=by
   intro b g len es hx h
   obtain⟨p8,h⟩:=ar h
   have p8:=aR p8
   subst p8
   rcases bG h with⟨Yv,h⟩|⟨Yv,h⟩
   ·have Yv:=aR Yv
    subst Yv
    cases hx with
    |gsl _ _ _ _ hm c Y5 hh F' X9 hz=>
     exact .plain h l8 i6 (.gsl _ _ _ _ hm c Y5 hh F' X9 hz) (bc h0 h1 ht T' XH hi (hlen _) X9 (be (hlen w)))
    |gnil _ _ _=>exact .plain h l8 i6 (.gnil _ _ _) (bc h0 h1 ht T' XH hi (hlen _) (aaa _) (be (hlen w)))
    |gempty _ _ _ a=>exact .plain h l8 i6 (.gempty _ _ _ a) (bc h0 h1 ht T' XH hi (hlen _) (aaa _) (be (hlen w)))
   ·have j4:0<n:=by
     rcases aaM n with e|e
     ·subst e;simp at Yv
     ·exact e
    exact yp (ty:=ty) l8 i6 hx h0 h1 ht T' XH hi Yu Zo YS hlen hn j4 hL Q' (fun w2 Zn=>j5 w2 Zn) h
  cases hx with
  |nils=>
   rcases bG h with⟨Yv,h⟩|⟨Yv,h⟩
   ·have Yv:=aR Yv
    subst Yv
    exact .plain h l8 i6 .nils (bc h0 h1 ht T' XH hi (hlen _) (aaa _) (be (hlen w)))
   ·have j4:0<n:=by
     rcases aaM n with e|e
     ·subst e;simp at Yv
     ·exact e
    have hnb:n * i.bytes<=1000000 * 1000:=aa4 hn Yu
    have i3:=dJ (P:=P) (w:=w) (ty:=ty) (base:=none) (sLen:=0) (sCap:=0) (olds:=[]) h0 h1 ht T' XH hi Zo (hlen w) (by omega) (by omega) (by rw[aak,nextslicecap_zero j4];omega) (by simp [Builtin.firstCells]) (j5 _ rfl)
    rw[aak] at i3
    have X_:=grownCap_ge w n 0 e
    refine D6 (a:=.nilIface) (ovs:=[]) (nvs:=cs) (rest:=fun c=>(Builtin.zeroCells zv.cells (c-n)).toList) l8 i6 (LR.nil ρ) hL (grownCap w n 0 e) X_ ?_ h _ i3
    simp only [List.length_nil,aaH,size_zeroCells,YS,Q',aak, ←aav]
    congr 1;omega
  |slc b g o len cap es a c x6=>
   obtain⟨p8,h⟩:=ar h
   obtain⟨hlm,h⟩:=ar h
   have p8:=aR p8
   have hlm:=bu hlm
   rcases bG h with⟨Yv,h⟩|⟨Yv,h⟩
   ·have Yv:=aR Yv
    subst Yv
    exact .plain h l8 i6 (.slc _ _ _ _ _ _ _ _ x6) (bc h0 h1 ht T' XH hi (hlen _) x6.1 (be (hlen w)))
   ·have j4:0<n:=by
     rcases aaM n with e|e
     ·subst e;simp at Yv
     ·exact e
    have h:=f_ h
    have ab8:Builtin.nextslicecap (len+n) c * i.bytes<=281474976710656∨len+n<=c:=by
     rcases aaf c (len+n) with f7|X_
     ·left
      have h1:Builtin.nextslicecap (len+n) c<=2 * (len+n):=nextslicecap_le f7
      have h2:=aa4 h1 Yu
      omega
     ·exact .inr X_
    have X_:=grownCap_ge w (len+n) c e
    have af4:∀(m:Nat),len * i.size+cs.length+(Builtin.zeroCells zv.cells (m-(len+n))).toList.length=(len+n) * i.size+(m-(len+n)) * i.size:=fun m=>by
     have hz1:(Builtin.zeroCells zv.cells (m-(len+n))).toList.length=(m-(len+n)) * i.size:=by rw[aaH,size_zeroCells,YS]
     rw[hz1,Q',aav]
    cases cap with
    |some k0=>
     obtain⟨XR,ek,hm,hh,ho,ea⟩:=x6
     subst ek
     subst ea
     rcases bG h with⟨hrm,h⟩|⟨hrm,h⟩
     ·have hrm:=bu hrm
      have h:=f_ h
      obtain⟨f9,w2,q1,q2,q3,q4⟩:=jv (P:=P) l8 i6 hh (show hm.shift<=o+len * i.size by omega) hL h
      refine⟨_,f9,ρ,_,w2,q1,q2,q3,Rho.le.refl ρ,.slc _ _ _ _ _ _ _ _ ⟨hrm,rfl,hm,hh,ho,rfl⟩, ?_⟩
      exact ed h0 h1 ht T' XH hi (hlen w) hrm (j5 w rfl) (by rw[dj ho];exact q4)
     ·have hrm:=RD hrm
      obtain⟨lo,ovs,f9,e2,i5,h,hLo,hol,hof⟩:=kf (P:=P) (v:=.slice (some ⟨hm.blk,o-hm.shift,none⟩) len c) (len:=len) l8 i6 (.slc b g o len (some c) es _ c ⟨XR,rfl,hm,hh,ho,rfl⟩) rfl (aaa _) P' h
      have i7:Good w0 ρ f9.h w:=by rw[e2];exact i6
      have i3:=dJ (P:=P) (w:=w) (ty:=ty) h0 h1 ht T' XH hi Zo (hlen w) hrm (by omega) (ab8.resolve_right (by omega)) (hof _ rfl) (j5 _ rfl)
      refine D6 (a:=.nilIface) (ovs:=ovs) (nvs:=cs) (rest:=fun m=>(Builtin.zeroCells zv.cells (m-(len+n))).toList) i5 i7 hLo hL (grownCap w (len+n) c e) X_ ?_ h _ i3
      rw[hol]
      have:=af4 (grownCap w (len+n) c e)
      rw[this, ←aav]
      congr 1;omega
    |none=>
     have d8:=cN l8 h
     obtain⟨q,f9,hq,e2,i5,h⟩:=bm l8 h
     have i7:Good w0 ρ f9.h w:=by rw[e2];exact i6
     cases q with
     |cells c0 gen lo hi fl fh ro ty=>
      obtain⟨k1,z1⟩:=md h
      obtain⟨k2,z2⟩:=ar z1
      obtain⟨k3,z3⟩:=ar z2
      obtain⟨k4,z4⟩:=ar z3
      obtain⟨k5,z5'⟩:=ar z4
      obtain⟨k6,z5⟩:=ar z5'
      have z6:=f_ z5
      clear h z1 z2 z3 z4 z5 z5'
      have k6:=aR k6
      have k2:=aR k2
      have k3:=aR k3
      have k4:=aR k4
      have k5:=bu k5
      subst k1;subst k2;subst k3;subst ty
      subst p8
      subst k4
      obtain⟨ct,z7,XQ,hct⟩:=FY _ _ _ z6
      have z8:=f_ z7
      obtain⟨x0,X5,_,e3,Yh,_,z9⟩:=cI i5 z8
      have af5:l.length=n * i.size:=by rw[←hL.1];exact Q'
      obtain⟨hm0,YU,_⟩:=(i6.blk _ _ hq).2 g (aaa _)
      rcases aaf c (len+n) with f7|Yb
      ·obtain⟨olds,hol,hoc,hof⟩:∃olds:List Value,olds.length=len * i.size/\(∀j v,olds[j]? =some v->0<len->w.cell? ⟨hm0.blk,o-hm0.shift+j,none⟩=some v)/\(Builtin.firstCells i.size len (.slice (some a) len c)).run P w.drew= .ok olds.toArray w.drew:=by
        rcases aaM len with hz0|hz0
        ·subst hz0
         exact⟨[],by simp,by simp,by simp [Builtin.firstCells,loadCells,loadCellsFrom]⟩
        ·obtain⟨XR,XE⟩:=x6
         obtain⟨hm,hh,ho,ea,X8⟩:=XE.resolve_left (fun hc=>by omega)
         rw[YU] at hh;injection hh with hh;subst hh
         obtain⟨x8,q1,q2,_,arr,fr,q3,q4,q5,q6⟩:=(i6.blk _ _ hq).2 g (aaa _)
         rw[YU] at q1;injection q1 with q1;subst q1
         have hmul:len * i.size<=c * i.size:=aa4 XR (aaa _)
         refine⟨(arr.toList.drop (o-hm0.shift)).take (len * i.size), ?_,fun j v hj _=>?_, ?_⟩
         ·rw[aam,aan,aaH,q4];omega
         ·rw[aaW] at hj
          split at hj
          ·rw[aax,aaP] at hj
           simp [World.cell?,q3,hj]
          ·cases hj
         ·refine run_firstCells_some _ i.size len a len c _ (by rw[aam,aan,aaH,q4];omega) fun j v hj=>?_
          rw[ea,dj ho]
          rw[aaW] at hj
          split at hj
          ·rw[aax,aaP] at hj
           show w.cell? _=_
           rw[show o+j-hm0.shift=o-hm0.shift+j by omega]
           simp [World.cell?,q3,hj]
          ·cases hj
       have i3:=dJ (P:=P) (w:=w) (ty:=ty) h0 h1 ht T' XH hi Zo (hlen w) f7 (by omega) (ab8.resolve_right (by omega)) hof (j5 _ rfl)
       obtain⟨hle,XD⟩:=Jj (e2:=e) (rest:=(Builtin.zeroCells zv.cells (grownCap w (len+n) c e-(len+n))).toList) i6 d8 hq YU hL af5 hol (fun hz0=>by
         obtain⟨XR,XE⟩:=x6
         obtain⟨hm,hh,ho,ea,X8⟩:=XE.resolve_left (fun hc=>by omega)
         rw[YU] at hh;injection hh with hh;subst hh;exact ho) hoc hct
       refine⟨_,X5,_,_,_,z9,Yh,by rw[e3,e2];exact XD,hle,.slc _ _ _ _ _ _ _ _ ⟨X_,.inr ⟨_,Rho.put_at _ _ _ _,aaa _,by simp, ?_⟩⟩,i3⟩
       show o-o+grownCap w (len+n) c e * i.size<=(olds++cs++(Builtin.zeroCells zv.cells (grownCap w (len+n) c e-(len+n))).toList).length
       rw[aai,aai,hol,af4, ←aav,aa_,aak]
       exact aa4 (by omega) (aaa _)
      ·obtain⟨XR,XE⟩:=x6
       obtain⟨hm,hh,ho,ea,X8⟩:=XE.resolve_left (fun hc=>by omega)
       rw[YU] at hh;injection hh with hh;subst hh
       subst ea
       obtain⟨w',q1,hle,XD⟩:=FZ (P:=P) i6 d8 hq YU ho k5 hL af5 Yb X8 XQ hct
       refine⟨_,X5,_,_,w',z9,Yh,by rw[e3,e2];exact XD,hle,.slc _ _ _ _ _ _ _ _ ⟨Yb,.inr ⟨_,Rho.put_at _ _ _ _,ho,rfl,X8⟩⟩, ?_⟩
       exact ed h0 h1 ht T' XH hi (hlen w) Yb (j5 w rfl) q1
     |_=>exact(ak h).elim
  |gsl b g len es hm c Y5 hh F' X9 hz=>exact gcase _ _ _ _ (.gsl _ _ _ _ hm c Y5 hh F' X9 hz) h
  |gnil b g es=>exact gcase _ _ _ _ (.gnil _ _ _) h
  |gempty b g es a=>exact gcase _ _ _ _ (.gempty _ _ _ a) h
  |_=>exact(ak h).elim
 unfold DO at h
 cases y with
 |gsl b g n es=>
  obtain⟨q,d6,hq,e1,d5,h⟩:=bm hS h
  have d7:Good w0 ρ d6.h w:=by rw[e1];exact hG
  have w8:d6.h.get b=some q:=by rw[e1];exact hq
  cases q with
  |grow c gen YI=>
   cases c with
   |rows m l=>
    obtain⟨c1,z1⟩:=ar h
    obtain⟨c2,z2⟩:=ar z1
    have c1:=aR c1
    have c2:=aR c2
    subst c1;subst c2
    rcases cO z2 with⟨c3,z3⟩|⟨_,z3⟩
    ·exact appR m l d6 d5 d7 (Jn d7 w8 c3 hy) z3
    ·obtain⟨c3,z4⟩:=aW z3
     exact appR m _ d6 d5 d7 (Jo d7 w8 c3 hy) z4
   |bytes t=>
   obtain⟨c1,z1⟩:=ar h
   obtain⟨c2,z2⟩:=ar z1
   obtain⟨c3,z3⟩:=aW z2
   have c1:=aR c1
   have c2:=aR c2
   subst c1;subst c2
   exact appS t d6 d5 d7 (N1 d7 w8 c3 hy) z3
  |_=>exact(ak h).elim
 |slc b g o n cap es=>
  cases cap with
  |some cc=>exact main σ hS hG h
  |none=>
  obtain⟨q,d6,hq,e1,d5,h⟩:=bm hS h
  have d7:Good w0 ρ d6.h w:=by rw[e1];exact hG
  have w8:d6.h.get b=some q:=by rw[e1];exact hq
  have fall:run (Bc (.slc b g o n none es) fun n'=>ac (Nat.ble n' 1000000) (jo i.size n' (.slc b g o n none es) fun new=>jq e i.size n' new x k) .fail) d6 K=true->Res P w0 ρ w k K (Builtin.append_ tys ty #[v,u]):=fun h=>main d6 d5 d7 h
  cases q with
  |grow c gen YI=>
   cases c with
   |rows m l=>
    obtain⟨c1,z1⟩:=ar h
    obtain⟨c2,z2⟩:=ar z1
    obtain⟨⟨c3,c4⟩,z3⟩:=aW z2
    have c1:=aR c1
    have c2:=aR c2
    subst c1;subst c2
    exact appR m _ d6 d5 d7 (Jp d7 w8 c3 c4 hy) z3
   |bytes t=>exact fall h
  |_=>exact fall h
 |_=>exact main σ hS hG h
theorem BB{tys:Array TypeId}{ty:TypeId}{args:List AV}{vs:List Value}(hS:SI σ)(hG:Good w0 ρ σ.h w)(hl:LR ρ args vs)(h:run (uy P tys args k) σ K=true):Res P w0 ρ w k K (Builtin.append_ tys ty vs.toArray):=by
 unfold uy at h
 split at h
 ·rename_i ts tx s x h0 h1
  obtain⟨v,vs1,rfl,hv,YJ⟩:=hl.cons_inv
  obtain⟨u,vs2,rfl,hu,XS⟩:=YJ.cons_inv
  have:=XS.nil_inv
  subst this
  obtain⟨d,hd,h⟩:=bQ h
  obtain⟨dx,T',h⟩:=bQ h
  split at h
  ·exact(ak h).elim
  ·rename_i e XH
   exact BA hS hG hv hu h0 h1 hd T' (fun j ej=>XH j ej) h
  ·exact(ak h).elim
 ·exact(ak h).elim
theorem F2{tys:Array TypeId}{ty:TypeId}{args:List AV}{vs:List Value}(hS:SI σ)(hG:Good w0 ρ σ.h w)(hl:LR ρ args vs)(h:run (Be P tys args k) σ K=true):Res P w0 ρ w k K (Builtin.len_ tys ty vs.toArray):=by
 unfold Be at h
 split at h
 ·rename_i t x h0
  obtain⟨v,vs1,rfl,hv,YJ⟩:=hl.cons_inv
  have:=YJ.nil_inv
  subst this
  obtain⟨d,hd,h⟩:=bQ h
  split at h
  ·cases hv with
   |str s=>
    have hn:(bytesOf s).length=s.size:=by unfold bytesOf;rw[aaO];rfl
    refine .plain (f_ h) hS hG (.int _ _) ?_
    simp [Builtin.len_,h0,run_underlying hd,goInt,hn]
  ·refine .plain h hS hG (.int _ _) ?_
   simp [Builtin.len_,h0,run_underlying hd,goInt]
  ·cases hv
   refine .plain h hS hG (.int _ _) ?_
   simp [Builtin.len_,h0,run_underlying hd,goInt]
  ·cases hv
   refine .plain h hS hG (.int _ _) ?_
   simp [Builtin.len_,h0,run_underlying hd,goInt]
  ·cases hv with
   |osl n base len cap hb=>
    refine .plain h hS hG (.anyI .i64 (len:Int)) ?_
    simp [Builtin.len_,h0,run_underlying hd,goInt]
  ·cases hv with
   |cv c blk off cp arr t2 hf hc hb r=>
    refine .plain h hS hG (.sI .i64 _) ?_
    simp [Builtin.len_,h0,run_underlying hd,goInt]
   |cvnil c hc0=>
    refine .plain h hS hG (.sI .i64 _) ?_
    simp [Builtin.len_,h0,run_underlying hd,goInt,hc0]
   |cvempty c a hc0=>
    refine .plain h hS hG (.sI .i64 _) ?_
    simp [Builtin.len_,h0,run_underlying hd,goInt,hc0]
  ·cases hv with
   |gsl b g n es hm c Y5 hh F' X9 hz=>
    refine .plain h hS hG (.sI .i64 _) ?_
    simp [Builtin.len_,h0,run_underlying hd,goInt]
   |gnil b g es=>
    refine .plain h hS hG (.sI .i64 _) ?_
    simp [Builtin.len_,h0,run_underlying hd,goInt]
   |gempty b g es a=>
    refine .plain h hS hG (.sI .i64 _) ?_
    simp [Builtin.len_,h0,run_underlying hd,goInt]
  ·cases hv with
   |sS s=>
    have hn:(bytesOf s).length=s.size:=by unfold bytesOf;rw[aaO];rfl
    refine .plain h hS hG (.sI .i64 ((bytesOf s).length:Int)) ?_
    simp [Builtin.len_,h0,run_underlying hd,goInt,hn]
  ·cases hv
   refine .plain h hS hG (.int _ _) ?_
   simp [Builtin.len_,h0,run_underlying hd,goInt]
  ·cases hv with
   |map b hm hh=>
    obtain⟨q,d6,hq,e1,d5,h⟩:=bm hS h
    cases q with
    |mapo es clock=>
     obtain⟨x8,i4,hB,p6,d9,u0,_⟩:=hG.blk _ _ hq
     rw[hh] at i4;injection i4 with i4;subst i4
     refine .plain (f_ h) d5 (by rw[e1];exact hG) (.int _ _) ?_
     simp [Builtin.len_,h0,run_underlying hd,goInt,aS d9 (by simp),u0]
    |smap m l=>
     obtain⟨x8,i4,hB,p6,clock,d9,u0,_⟩:=hG.blk _ _ hq
     rw[hh] at i4;injection i4 with i4;subst i4
     refine .plain h d5 (by rw[e1];exact hG) (.sI _ _) ?_
     simp [Builtin.len_,h0,run_underlying hd,goInt,aS d9 (by simp),u0]
    |_=>exact(ak h).elim
  ·exact(ak h).elim
 ·exact(ak h).elim
theorem qd{t:TypeId}{r:Option Value}(hr:∀v,r=some v->(∃kt e,P.underlying t=some (.map kt e))/\∃j n,v= .int j n)(hS:SI σ)(hG:Good w0 ρ σ.h w)(h:run (.new (.mapo [] 0) fun b=>k (.map b)) σ K=true):Res P w0 ρ w k K (Instr.makeMap t r):=by
 obtain⟨n,c9,hn,d8,hh,l8,h⟩:=dI hS h
 obtain⟨hle,i6⟩:=hG.alloc hn d8 (.mapo [] 0) (.map #[] 0) 0 0 (fun ρ' hle q9 _=>⟨_,q9,.new hG.below.size, #[],by simp,rfl,by simp⟩)
 refine⟨_,c9,_,_,_,h,l8,by rw[hh];exact i6,hle,.map n _ (Rho.put_at _ _ _ _), ?_⟩
 cases r with
 |none=>simp [Instr.makeMap]
 |some v=>
  obtain⟨⟨kt,e,hu⟩,j,m,rfl⟩:=hr v rfl
  simp [Instr.makeMap,run_underlying hu,asInt,asIntOf]
theorem uM{x:AV}{v:Value}(hx:VR ρ x v)(h:run (sO x k) σ K=true):run (k x) σ K=true/\((∃a,v= .pointer (some a))∨(∃f l m,v= .func (.func f) l m)∨∃f l m,v= .func (.yield f) l m):=by
 cases hx with
 |ptr b g o hm hh ho=>exact⟨h,.inl ⟨_,rfl⟩⟩
 |cptr _ _ _ _ _ _ _ _=>exact⟨h,.inl ⟨_,rfl⟩⟩
 |yld b hm hh=>exact⟨h,.inr (.inr ⟨_,_,_,rfl⟩)⟩
 |func fn l m first captured h1 h2 r1 r2 hf=>
  cases fn with
  |func f=>exact⟨h,.inr (.inl ⟨_,_,_,rfl⟩)⟩
  |yield f=>exact⟨h,.inr (.inr ⟨_,_,_,rfl⟩)⟩
  |_=>exact(ak h).elim
 |_=>exact(ak h).elim
end
end Go.Sym
namespace Go.Sym
open Go.RowKit (Below)
def MR(ρ:Rho)(es:List ME)(ess:List MapEntry):Prop:=
 ess.length=es.length/\∀(i:Nat) (k v:AV) (n:Nat) (e:MapEntry),es[i]? =some (.mk k v n)->ess[i]? =some e->VR ρ k e.key/\VR ρ v e.val/\e.born=n
theorem MR.nil(ρ:Rho):MR ρ [] []:=⟨rfl,by simp⟩
theorem MR.cons{ρ:Rho}{k v:AV}{n:Nat}{e:MapEntry}{es:List ME}{ess:List MapEntry}(h1:VR ρ k e.key)(h2:VR ρ v e.val)(h3:e.born=n)(h:MR ρ es ess):MR ρ (.mk k v n::es) (e::ess):=by
 refine⟨by simp [h.1],fun i k' v' n' e' hi he=>?_⟩
 cases i with
 |zero=>simp at hi he;obtain⟨q1,q2,q3⟩:=hi;subst q1;subst q2;subst q3;subst he;exact⟨h1,h2,h3⟩
 |succ i=>exact h.2 i k' v' n' e' (by simpa using hi) (by simpa using he)
theorem MR.cons_inv{ρ:Rho}{k v:AV}{n:Nat}{es:List ME}{ess:List MapEntry}(h:MR ρ (.mk k v n::es) ess):∃e XT,ess=e::XT/\VR ρ k e.key/\VR ρ v e.val/\e.born=n/\MR ρ es XT:=by
 cases ess with
 |nil=>exact absurd h.1 (by simp)
 |cons e XT=>
  obtain⟨h1,h2,h3⟩:=h.2 0 k v n e rfl rfl
  exact⟨e,XT,rfl,h1,h2,h3,by simpa using h.1,fun i k' v' n' e' hi he=>h.2 (i+1) k' v' n' e' (by simpa using hi) (by simpa using he)⟩
theorem MR.nil_inv{ρ:Rho}{ess:List MapEntry}(h:MR ρ [] ess):ess= []:=by
 cases ess with
 |nil=>rfl
 |cons _ _=>exact absurd h.1 (by simp)
theorem MR.mono{ρ ρ':Rho}(hle:ρ.le ρ'){es:List ME}{ess:List MapEntry}(h:MR ρ es ess):MR ρ' es ess:=
 ⟨h.1,fun i k v n e hi he=>let⟨a,b,c⟩:=h.2 i k v n e hi he;⟨a.mono hle,b.mono hle,c⟩⟩
theorem MR.append{ρ:Rho}{es fs:List ME}{ess fss:List MapEntry}(h:MR ρ es ess)(h':MR ρ fs fss):MR ρ (es++fs) (ess++fss):=by
 induction es generalizing ess with
 |nil=>rw[h.nil_inv];exact h'
 |cons x es ih=>
  cases x with
  |mk k v n=>
   obtain⟨e,XT,rfl,h1,h2,h3,h4⟩:=h.cons_inv
   exact MR.cons h1 h2 h3 (ih h4)
theorem MR.get{ρ:Rho}{es:List ME}{ess:List MapEntry}(h:MR ρ es ess){i:Nat}{k v:AV}{n:Nat}(hi:es[i]? =some (.mk k v n)):∃e,ess[i]? =some e/\VR ρ k e.key/\VR ρ v e.val/\e.born=n:=by
 have f7:i<ess.length:=by
  rcases aaf i es.length with h'|h'
  ·rw[h.1];exact h'
  ·rw[aaj h'] at hi;cases hi
 exact⟨_,aah f7,h.2 i k v n _ hi (aah f7)⟩
theorem MR.set{ρ:Rho}{es:List ME}{ess:List MapEntry}(h:MR ρ es ess){i:Nat}{k v:AV}{n:Nat}{e:MapEntry}(h1:VR ρ k e.key)(h2:VR ρ v e.val)(h3:e.born=n):MR ρ (es.set i (.mk k v n)) (ess.set i e):=by
 refine⟨by simp [h.1],fun j k' v' n' e' hj he=>?_⟩
 rw[abr] at hj he
 by_cases eij:i=j
 ·subst eij
  rw[if_pos rfl] at hj he
  split at hj
  ·injection hj with hj;injection hj with q1 q2 q3
   subst q1;subst q2;subst q3
   split at he
   ·injection he with he;subst he;exact⟨h1,h2,h3⟩
   ·cases he
  ·cases hj
 ·rw[if_neg eij] at hj he
  exact h.2 j k' v' n' e' hj he
section
variable{P:Program}{w0:World}{ρ:Rho}{w:World}{σ:St}{K:Fin}{k:AV->Tr}
theorem BR.mapo_MR{B b:Nat}{es:List ME}{clock:Nat}(h:BR ρ B w b (.mapo es clock)):∃hm,ρ.at_ b 0=some hm/\Own ρ B hm.blk/\∃p6,w.heap[hm.blk]? =some (.map p6 clock)/\MR ρ es p6.toList:=by
 obtain⟨hm,h1,h2,p6,h3,h4,h5⟩:=h
 exact⟨hm,h1,h2,p6,h3,by simpa using h4,fun i k v n e hi he=>h5 i k v n e hi (by simpa using he)⟩
theorem BR.of_MR{B b:Nat}{es:List ME}{clock:Nat}{hm:Home}{p6:List MapEntry}(h1:ρ.at_ b 0=some hm)(h2:Own ρ B hm.blk)(h3:w.heap[hm.blk]? =some (.map p6.toArray clock))(h:MR ρ es p6):BR ρ B w b (.mapo es clock):=
 ⟨hm,h1,h2,p6.toArray,h3,by simpa using h.1,fun i k v n e hi he=>h.2 i k v n e hi (by simpa using he)⟩
theorem s_:∀(f:Nat) (t:TypeId),xO P f t=true->fH P f t=true:=by
 intro f
 induction f with
 |zero=>intro t h;simp [xO] at h
 |succ f ih=>
  intro t h
  unfold xO at h
  unfold fH
  split at h
  ·rename_i e;rw[e]
  ·rename_i e;rw[e]
  ·rename_i e;rw[e]
  ·rename_i fs e
   rw[e]
   simp only [Bool.and_eq_true,abd] at h⊢
   exact⟨h.1,fun fd hfd=>ih _ (h.2 fd hfd).2⟩
  ·rename_i n e' e
   rw[e]
   exact ih _ h
  ·cases h
theorem yv(em:Bool):∀(f:Nat) (t:TypeId) (a:AV) (v:Value) (N:Nat),xP P f t a=true->VR ρ a v->f<=N->(Instr.checkKey em N t v).run P w= .ok () w:=by
 intro f
 induction f with
 |zero=>intro t a v N h;simp [xP] at h
 |succ f ih=>
  intro t a v N h hv hN
  obtain⟨N,rfl⟩:∃N',N=N'+1:=⟨N-1,by omega⟩
  unfold xP at h
  split at h
  ·rename_i e;simp [Instr.checkKey,run_underlying e]
  ·rename_i e;simp [Instr.checkKey,run_underlying e]
  ·rename_i e;simp [Instr.checkKey,run_underlying e]
  ·rename_i fs e
   split at h
   ·rename_i l
    cases hv with
    |agg _ cs h1 h2=>
     have hl:=LR.of_arr h1 h2
     rw[Instr.checkKey]
     simp only [aab,run_underlying e,aae]
     rw[←Array.forIn_toList]
     have h:=List.all_eq_true.mp h
     generalize fs.toList=L at h
     induction L with
     |nil=>simp
     |cons fd L ihl=>
      have hfd:=h fd (by simp)
      split at hfd
      ·rename_i i d hi hd
       split at hfd
       ·rename_i a ha
        obtain⟨x,p1,r1⟩:=jt (w:=w) hd hi hl ha
        have p2:=ih fd.type a x N hfd r1 (by omega)
        simp only [List.forIn_cons,aab]
        by_cases hn:fd.name= "_"
        ·simp only [hn,ne_eq,not_true_eq_false,if_false,aac,aae]
         exact ihl fun y hy=>h y (by simp [hy])
        ·simp only [hn,ne_eq,not_false_eq_true,if_true,aab,p1,p2,aae,aac]
         exact ihl fun y hy=>h y (by simp [hy])
       ·cases hfd
      ·cases hfd
   ·cases h
  ·rename_i n e' e
   split at h
   ·rename_i l i d hi hd
    simp only [Bool.and_eq_true,Bool.not_eq_true',abd] at h
    obtain⟨⟨⟨P',Z'⟩,YK⟩,Yo⟩:=h
    have P':=aR P'
    have YK:=aR YK
    cases hv with
    |agg _ cs h1 h2=>
     have hl:=LR.of_arr h1 h2
     rw[Instr.checkKey]
     simp only [aab,run_underlying e,aae]
     simp only [Std.Legacy.Range.forIn_eq_forIn_range',Std.Legacy.Range.size,abg,Nat.add_one_sub_one,Nat.div_one]
     have each:∀j∈List.range' 0 n,∃x,(part e' cs (j * 1)).run P w= .ok x w/\(Instr.checkKey em N e' x).run P w= .ok () w:=fun j hj=>by
      have hjn:j<l.length:=by
       have:=List.mem_range'.1 hj
       obtain⟨i,hi,e⟩:=this
       omega
      obtain⟨x,hx,hr⟩:=hl.get (aah hjn)
      have Xz:cs[j]? =some x:=by simpa using hx
      refine⟨x, ?_,ih e' l[j] x N (Yo _ (abe _)) hr (by omega)⟩
      simp only [aaD,part,aab,cq hd,Z',aae,Bool.false_eq_true,if_false,Xz,aac]
     generalize List.range' 0 n=is at each
     induction is with
     |nil=>simp
     |cons j is ihl=>
      obtain⟨x,p1,p2⟩:=each j (by simp)
      simp only [List.forIn_cons,aab,ay hi,P',aae,p1,p2,aac]
      exact ihl fun y hy=>each y (by simp [hy])
   ·cases h
  ·cases h
def FR(ρ:Rho)(es:List ME)(ess:List MapEntry):Option (Nat×AV)->Option (Nat×Value)->Prop
 |none,none=>True
 |some (i,a),some (j,v)=>i=j/\VR ρ a v/\∃k n,es[i]? =some (.mk k a n)
 |_,_=>False
theorem qe{d:TypeDesc}{x y:AV}{v u:Value}{r:Bool}{f:Nat}(hd:d= .bool∨(∃j,d= .int j)∨d= .string)(hx:VR ρ x v)(hy:VR ρ y u)(h:e_ P (f+1) d x y=some r):Instr.sameNow d v u=some r:=by
 rcases hd with rfl|⟨j,rfl⟩|rfl
 ·cases x <;> first|(simp [e_] at h;done)|skip
  cases y <;> first|(simp [e_] at h;done)|skip
  cases hx;cases hy;injection h with h;subst h;rfl
 ·cases x <;> first|(simp [e_] at h;done)|skip
  cases y <;> first|(simp [e_] at h;done)|skip
  cases hx;cases hy
  rename_i k1 a k2 b
  exact(show(if k1=k2 then some (a==b) else none)=some r from h)
 ·cases x <;> first|(simp [e_] at h;done)|skip
  cases y <;> first|(simp [e_] at h;done)|skip
  cases hx;cases hy
  injection h with h;subst h
  rw[gP, ←beq_toListBytes]
  rfl
theorem FR.cons{es:List ME}{ess:List MapEntry}{x:ME}{e:MapEntry}{r:Option (Nat×AV)}{r':Option (Nat×Value)}{i:Nat}
  (h:FR ρ es ess (r.map fun p=>(p.1-(i+1),p.2)) (r'.map fun p=>(p.1-(i+1),p.2))) (hr:∀p,r=some p->i+1<=p.1) (hr':∀p,r'=some p->i+1<=p.1):
  FR ρ (x::es) (e::ess) (r.map fun p=>(p.1-i,p.2)) (r'.map fun p=>(p.1-i,p.2)):=by
 cases r with
 |none=>cases r' with
  |none=>trivial
  |some p'=>exact h.elim
 |some p=>
  cases r' with
  |none=>exact h.elim
  |some p'=>
   obtain⟨h1,h2,k,n,h3⟩:=h
   have a:=hr p rfl
   have b:=hr' p' rfl
   refine⟨by show p.1-i=p'.1-i;omega,h2,k,n, ?_⟩
   show(x::es)[p.1-i]? =_
   rw[show p.1-i=(p.1-(i+1))+1 by omega]
   simpa using h3
theorem yw{q:AV->AV->Option Bool}{key:AV}:∀(es:List ME) (i:Nat) (r:Option (Nat×AV)),fJ q key es i=some r->∀p,r=some p->i<=p.1:=by
 intro es
 induction es with
 |nil=>intro i r h p hp;simp only [fJ] at h;injection h with h;subst h;cases hp
 |cons x es ih=>
  intro i r h p hp
  cases x with
  |mk k v n=>
   simp only [fJ] at h
   split at h
   ·injection h with h;subst h;injection hp with hp;subst hp;exact aaa _
   ·have:=ih _ _ h p hp;omega
   ·cases h
theorem oE{d:TypeDesc}{f:Nat}(hd:d= .bool∨(∃j,d= .int j)∨d= .string){key:AV}{kv:Value}(hk:VR ρ key kv):∀(es:List ME) (ess:List MapEntry) (i:Nat) (r:Option (Nat×AV)),MR ρ es ess->fJ (e_ P (f+1) d) key es i=some r->
  ∃r',Instr.findNow d kv ess i=some r'/\(∀p,r'=some p->i<=p.1)/\FR ρ es ess (r.map fun p=>(p.1-i,p.2)) (r'.map fun p=>(p.1-i,p.2)):=by
 intro es
 induction es with
 |nil=>intro ess i r hm h;simp only [fJ] at h;injection h with h;subst h;rw[hm.nil_inv];exact⟨none,rfl,fun p hp=>(by cases hp),trivial⟩
 |cons x es ih=>
  intro ess i r hm h
  cases x with
  |mk k v n=>
   obtain⟨e,XT,rfl,h1,h2,h3,h4⟩:=hm.cons_inv
   simp only [fJ] at h
   split at h
   ·rename_i hq
    injection h with h;subst h
    refine⟨some (i,e.val),by simp [Instr.findNow,qe hd hk h1 hq],fun p hp=>by injection hp with hp;subst hp;exact aaa _, ?_⟩
    exact⟨rfl,h2,k,n,by simp⟩
   ·rename_i hq
    obtain⟨r',q1,q2,q3⟩:=ih XT (i+1) r h4 h
    refine⟨r',by simp [Instr.findNow,qe hd hk h1 hq,q1],fun p hp=>by have:=q2 p hp;omega, ?_⟩
    exact FR.cons q3 (fun p hp=>yw _ _ _ h p hp) q2
   ·cases h
theorem jx{kt:TypeId}{d:TypeDesc}(hu:P.underlying kt=some d)(hc:cj d=true->fH P 8 kt=true){key:AV}{kv:Value}(hk:VR ρ key kv):∀(es:List ME) (ess:List MapEntry) (i:Nat) (r:Option (Nat×AV)),MR ρ es ess->fJ (e_ P 16 d) key es i=some r->
  ∃r',(Instr.findAsking kt kv ess i).run P w= .ok r' w/\(∀p,r'=some p->i<=p.1)/\FR ρ es ess (r.map fun p=>(p.1-i,p.2)) (r'.map fun p=>(p.1-i,p.2)):=by
 intro es
 induction es with
 |nil=>intro ess i r hm h;simp only [fJ] at h;injection h with h;subst h;rw[hm.nil_inv];exact⟨none,rfl,fun p hp=>(by cases hp),trivial⟩
 |cons x es ih=>
  intro ess i r hm h
  cases x with
  |mk k v n=>
   obtain⟨e,XT,rfl,h1,h2,h3,h4⟩:=hm.cons_inv
   simp only [fJ] at h
   split at h
   ·rename_i hq
    injection h with h;subst h
    have:=me (P:=P) (w:=w) 16 8 kt d key k kv e.key true Op.maxDepth hu hc hk h1 hq (by decide)
    refine⟨some (i,e.val),by simp [Instr.findAsking,Op.equal,this],fun p hp=>by injection hp with hp;subst hp;exact aaa _, ?_⟩
    exact⟨rfl,h2,k,n,by simp⟩
   ·rename_i hq
    have:=me (P:=P) (w:=w) 16 8 kt d key k kv e.key false Op.maxDepth hu hc hk h1 hq (by decide)
    obtain⟨r',q1,q2,q3⟩:=ih XT (i+1) r h4 h
    refine⟨r',by simp [Instr.findAsking,Op.equal,this,q1],fun p hp=>by have:=q2 p hp;omega, ?_⟩
    exact FR.cons q3 (fun p hp=>yw _ _ _ h p hp) q2
   ·cases h
theorem yx{kt:TypeId}{key:AV}{kv:Value}{es:List ME}{ess:List MapEntry}{f:Option (Nat×AV)->Tr}(hk:VR ρ key kv)(hm:MR ρ es ess)(h:run (IK P kt key es f) σ K=true):
  ∃r r',run (f r) σ K=true/\FR ρ es ess r r'/\(Instr.findKey kt kv ess).run P w= .ok r' w/\∀em,(Instr.checkKey em 10000 kt kv).run P w= .ok () w:=by
 obtain⟨hkd,h⟩:=ar h
 obtain⟨Yc,h⟩:=ar h
 obtain⟨d,hu,h⟩:=bQ h
 obtain⟨r,hr,h⟩:=bO h
 have id0:∀{α:Type} (r:Option (Nat×α)),(r.map fun p=>(p.1-0,p.2))=r:=fun r=>by cases r <;> rfl
 have m8:=fun em=>yv (w:=w) em 8 kt key kv 10000 Yc hk (by decide)
 by_cases hd:d= .bool∨(∃j,d= .int j)∨d= .string
 ·obtain⟨r',q1,_,q3⟩:=oE hd hk es ess 0 r hm hr
  rw[id0,id0] at q3
  refine⟨r,r',h,q3, ?_,m8⟩
  simp [Instr.findKey,run_underlying hu,q1]
 ·obtain⟨r',q1,_,q3⟩:=jx (w:=w) hu (fun _=>s_ 8 kt hkd) hk es ess 0 r hm hr
  rw[id0,id0] at q3
  refine⟨r,r',h,q3, ?_,m8⟩
  have ad1:∀e p6,Instr.findNow d kv (e::p6) 0=none:=fun e p6=>by
   have:Instr.sameNow d kv e.key=none:=by
    unfold Instr.sameNow
    split
    ·exact absurd (.inr (.inl ⟨_,rfl⟩)) hd
    ·exact absurd (.inr (.inr rfl)) hd
    ·exact absurd (.inl rfl) hd
    ·rfl
   simp [Instr.findNow,this]
  cases ess with
  |nil=>
   have:r'=none:=by
    have:Result.ok none w=Result.ok r' w:=q1
    injection this with e;exact e.symm
   subst this
   simp [Instr.findKey,run_underlying hu,Instr.findNow]
  |cons e p6=>simp [Instr.findKey,run_underlying hu,ad1,q1]
theorem Jr{kt:TypeId}{d:TypeDesc}{ZC key:AV}{kv:Value}{es:List ME}{ess:List MapEntry}{r:Option (Nat×AV)}(hkd:xO P 8 kt=true)(Yc:xP P 8 kt ZC=true)(hu:P.underlying kt=some d)(hk0:VR ρ ZC kv)(hk:VR ρ key kv)(hm:MR ρ es ess)(hr:fJ (e_ P 16 d) key es 0=some r):
  ∃r',FR ρ es ess r r'/\(Instr.findKey kt kv ess).run P w= .ok r' w/\∀em,(Instr.checkKey em 10000 kt kv).run P w= .ok () w:=by
 have id0:∀{α:Type} (r:Option (Nat×α)),(r.map fun p=>(p.1-0,p.2))=r:=fun r=>by cases r <;> rfl
 have m8:=fun em=>yv (w:=w) em 8 kt ZC kv 10000 Yc hk0 (by decide)
 by_cases hd:d= .bool∨(∃j,d= .int j)∨d= .string
 ·obtain⟨r',q1,_,q3⟩:=oE hd hk es ess 0 r hm hr
  rw[id0,id0] at q3
  refine⟨r',q3, ?_,m8⟩
  simp [Instr.findKey,run_underlying hu,q1]
 ·obtain⟨r',q1,_,q3⟩:=jx (w:=w) hu (fun _=>s_ 8 kt hkd) hk es ess 0 r hm hr
  rw[id0,id0] at q3
  refine⟨r',q3, ?_,m8⟩
  have ad1:∀e p6,Instr.findNow d kv (e::p6) 0=none:=fun e p6=>by
   have:Instr.sameNow d kv e.key=none:=by
    unfold Instr.sameNow
    split
    ·exact absurd (.inr (.inl ⟨_,rfl⟩)) hd
    ·exact absurd (.inr (.inr rfl)) hd
    ·exact absurd (.inl rfl) hd
    ·rfl
   simp [Instr.findNow,this]
  cases ess with
  |nil=>
   have:r'=none:=by
    have:Result.ok none w=Result.ok r' w:=q1
    injection this with e;exact e.symm
   subst this
   simp [Instr.findKey,run_underlying hu,Instr.findNow]
  |cons e p6=>simp [Instr.findKey,run_underlying hu,ad1,q1]
def cF:List IntKind->List Int->List AV
 |k::ks,n::ns=>.int k n::cF ks ns
 |_,_=>[]
theorem qf:∀{ks:List IntKind} {xs:List AV} {ns:List Int},dh ks xs=some ns->xs.map sR=cF ks ns/\ns.length=ks.length
 | [],xs,ns,h=>by obtain⟨rfl,rfl⟩:=fw h;exact⟨rfl,rfl⟩
 |j::ks,xs,ns,h=>by
  obtain⟨a,as,n,m,rfl,rfl,ha,h'⟩:=d_ h
  obtain⟨q1,q2⟩:=qf h'
  exact⟨by simp [cF,ha,q1],by simp [q2]⟩
theorem qg:∀{ks:List IntKind} {ns:List Int},ns.length=ks.length->dh ks (cF ks ns)=some ns/\(cF ks ns).map sR=cF ks ns
 | [],[],_=>⟨rfl,rfl⟩
 |j::ks,n::ns,h=>by
  obtain⟨q1,q2⟩:=qg (ks:=ks) (ns:=ns) (by simpa using h)
  refine⟨?_,by simp [cF,sR,q2]⟩
  simp [cF,dh,cz,q1,ax]
 | [],_::_,h=>by simp at h
 |_::_,[],h=>by simp at h
theorem F3:∀(n:Nat) (g:G) (j:Nat),(db n g j).length=n:=by
 intro n
 induction n with
 |zero=>intro g j;rfl
 |succ n ih=>intro g j;simp [db,ih]
theorem F4:∀(ks:List IntKind) (g:G) (j:Nat),(kS ks g j).map sR=cF ks (db ks.length g j):=by
 intro ks
 induction ks with
 |nil=>intro g j;rfl
 |cons k ks ih=>intro g j;simp [kS,db,cF,sR,ih]
theorem N3{pre gs:List G}{j:Nat}:aa (.node (pre++gs)) (pre.length+j)=aa (.node gs) j:=by
 show(pre++gs).getD (pre.length+j) (.int 0)=gs.getD j (.int 0)
 simp only [aag]
 rw[aaA (by omega)];congr 2;omega
theorem F5:∀(ns pre vs:List Int) (gs:List G),db ns.length (.node ((pre++ns).map G.int++gs)) pre.length=ns:=by
 intro ns
 induction ns with
 |nil=>intro pre vs gs;rfl
 |cons n ns ih=>
  intro pre vs gs
  have h1:=ih (pre++ [n]) vs gs
  simp only [aau,aby,aai,aaI] at h1
  simp only [aao,db]
  rw[h1]
  congr 1
  show gI (((pre++n::ns).map G.int++gs).getD pre.length (.int 0))=n
  simp [aag,gI]
theorem nB{ks:Nat}{ns:List Int}{gs:List G}(h:ns.length=ks):db ks (.node (ns.map G.int++gs)) 0=ns:=by
 subst h;exact F5 ns [] [] gs
def iz(m:Nat)(ns:List Int):AV:=Rs (bC m).ka (cF (bC m).ks ns)
theorem N4{m:Nat}{ix:AV}{u:Value}{ns:List Int}(h:RA m ix=some ns)(hx:VR ρ ix u):VR ρ (iz m ns) u/\ns.length=(bC m).ks.length:=by
 unfold RA at h
 unfold iz
 split at h
 ·rename_i xs Yc
  rw[Yc]
  obtain⟨q1,q2⟩:=qf h
  refine⟨?_,q2⟩
  cases hx with
  |agg _ cs h1 h2=>
   have:=uH (LR.of_arr h1 h2)
   rw[q1] at this
   obtain⟨r1,r2⟩:=this.arr
   exact .agg _ _ r1 r2
 ·cases h
 ·rename_i Yc
  rw[Yc]
  obtain⟨q1,q2⟩:=qf h
  refine⟨?_,q2⟩
  rw[←q1]
  exact Bo hx
theorem yy{m:Nat}{g:G}{u:Value}(hx:VR ρ (lS m g) u):VR ρ (iz m (db (bC m).ks.length g 0)) u:=by
 unfold lS at hx
 unfold iz
 have e:=F4 (bC m).ks g 0
 rw[←e]
 cases Yc:(bC m).ka with
 |true=>
  rw[Yc] at hx
  cases hx with
  |agg _ cs h1 h2=>
   obtain⟨r1,r2⟩:=(uH (LR.of_arr h1 h2)).arr
   exact .agg _ _ r1 r2
 |false=>
  rw[Yc] at hx
  cases hl:kS (bC m).ks g 0 with
  |nil=>rw[hl] at hx;exact hx
  |cons a l=>rw[hl] at hx;exact Bo hx
theorem N5{m:Nat}{d:TypeDesc}{a b:List Int}(hd:FG P m d=true)(ha:a.length=(bC m).ks.length)(hb:b.length=(bC m).ks.length):e_ P 16 d (iz m a) (iz m b)=some (decide (a=b)):=by
 unfold FG at hd
 unfold iz
 obtain⟨a1,a2⟩:=qg ha
 obtain⟨b1,b2⟩:=qg hb
 split at hd
 ·rename_i Yc
  rw[Yc]
  split at hd
  ·rename_i ks hk
   have hd:=of_decide_eq_true hd
   subst hd
   have:=ya (f:=14) hk a1 b1
   rw[a2,b2] at this
   exact this
  ·cases hd
 ·rename_i Yc
  rw[Yc]
  split at hd
  ·rename_i j
   have hd:=of_decide_eq_true hd
   rw[hd] at ha hb⊢
   match a,b,ha,hb with
   | [x],[y],_,_=>
    show e_ P 16 (.int j) (.int j x) (.int j y)=_
    simp [e_]
    by_cases h:x=y <;> simp [h]
  ·cases hd
theorem F6{m:Nat}{ns:List Int}:cG 8 (Rs true (cF (bC m).ks ns)) (Rs true (cF (bC m).ks ns))=true:=by
 have:∀(ks:List IntKind) (ns:List Int),cG.sameAll (cG 7) (cF ks ns) (cF ks ns)=true:=by
  intro ks
  induction ks with
  |nil=>intro ns;cases ns <;> rfl
  |cons k ks ih=>
   intro ns
   cases ns with
   |nil=>rfl
   |cons n ns=>
    show ac (cG 7 (.int k n) (.int k n)) (cG.sameAll (cG 7) (cF ks ns) (cF ks ns)) false=true
    rw[ih]
    simp [cG,ax]
 exact this _ _
theorem F7{m:Nat}{d:TypeDesc}{ns:List Int}(hd:FG P m d=true)(ha:ns.length=(bC m).ks.length):cG 8 (iz m ns) (iz m ns)=true:=by
 unfold FG at hd
 unfold iz
 split at hd
 ·rename_i Yc;rw[Yc];exact F6
 ·rename_i Yc
  rw[Yc]
  split at hd
  ·rename_i j
   have hd:=of_decide_eq_true hd
   rw[hd] at ha⊢
   match ns,ha with
   | [x],_=>
    show cG 8 (.int j x) (.int j x)=true
    simp [cG,ax]
  ·cases hd
def T8(m:Nat):List G->List MapEntry->List ME
 |g::l,e::es=>.mk (iz m (db (bC m).ks.length g 0)) (iU m g) e.born::T8 m l es
 |_,_=>[]
theorem Js{m:Nat}:∀(l:List G) (ess:List MapEntry),ess.length=l.length->(∀(i:Nat) (g:G) (e:MapEntry),l[i]? =some g->ess[i]? =some e->VR ρ (lS m g) e.key/\VR ρ (iU m g) e.val)->MR ρ (T8 m l ess) ess
 | [],[],_,_=>MR.nil ρ
 |g::l,e::es,h,hr=>by
  obtain⟨q1,q2⟩:=hr 0 g e rfl rfl
  exact MR.cons (yy q1) q2 rfl (Js l es (by simpa using h) fun i g' e' h1 h2=>hr (i+1) g' e' (by simpa using h1) (by simpa using h2))
 | [],_::_,h,_=>by simp at h
 |_::_,[],h,_=>by simp at h
theorem yz{m:Nat}{d:TypeDesc}{ns:List Int}(hd:FG P m d=true)(hn:ns.length=(bC m).ks.length):∀(l:List G) (ess:List MapEntry) (i:Nat),ess.length=l.length->
  fJ (e_ P 16 d) (iz m ns) (T8 m l ess) i=some (if cx m l ns<l.length then some (i+cx m l ns,iU m (dW m l ns)) else none)
 | [],[],i,_=>by simp [T8,fJ]
 |g::l,e::es,i,h=>by
  have ih:=yz hd hn l es (i+1) (by simpa using h)
  have he:=N5 hd hn (F3 (bC m).ks.length g 0)
  simp only [T8,fJ,he]
  by_cases hg:db (bC m).ks.length g 0=ns
  ·have hk:cx m (g::l) ns=0:=by simp [cx,List.findIdx_cons,hg]
   have hk2:dW m (g::l) ns=g:=by simp [dW,hk,aq]
   simp [hk,hk2,hg]
  ·have hk:cx m (g::l) ns=cx m l ns+1:=by simp [cx,List.findIdx_cons,hg]
   have hk2:dW m (g::l) ns=dW m l ns:=by simp [dW,hk,aq]
   rw[show decide (ns=db (bC m).ks.length g 0)=false by simp [Ne.symm hg]]
   simp only [ih,hk,hk2,aao,Nat.add_lt_add_iff_right]
   split
   ·congr 3;omega
   ·rfl
 | [],_::_,i,h=>by simp at h
 |_::_,[],i,h=>by simp at h
theorem yA{x:AV}{v:Value}{k1:Nat->Nat->List G->Tr}{k0:Tr}(hS:SI σ)(hG:Good w0 ρ σ.h w)(hx:VR ρ x v)(h:run (IL x k1 k0) σ K=true):
  (∃c9,run k0 c9 K=true/\SI c9/\c9.h=σ.h)∨∃(b m:Nat) (l:List G) (hm:Home) (ess:List MapEntry) (clock:Nat) (c9:St),run (k1 b m l) c9 K=true/\SI c9/\c9.h=σ.h/\v= .map (some hm.blk)/\ρ.at_ b 0=some hm/\Own ρ w0.heap.size hm.blk/\w.heap[hm.blk]? =some (.map ess.toArray clock)/\ess.length=l.length/\
   (∀(i:Nat) (g:G) (e:MapEntry),l[i]? =some g->ess[i]? =some e->VR ρ (lS m g) e.key/\VR ρ (iU m g) e.val)/\c9.h.get b=some (.smap m l):=by
 cases hx with
 |map b hm hh=>
  obtain⟨q,d6,hq,e1,d5,h⟩:=bm hS h
  cases q with
  |smap m l=>
   obtain⟨x8,i4,hB,p6,clock,d9,u0,XP⟩:=hG.blk _ _ hq
   rw[hh] at i4;injection i4 with i4;subst i4
   exact .inr ⟨b,m,l,hm,p6.toList,clock,d6,h,d5,e1,rfl,hh,hB,by simpa using d9,by simpa using u0,fun i g e h1 h2=>XP i g e h1 (by simpa using h2),by rw[e1];exact hq⟩
  |_=>exact .inl ⟨d6,h,d5,e1⟩
 |_=>exact .inl ⟨σ,h,hS,rfl⟩
theorem yB{m:Nat}{kt:TypeId}{ix:AV}{u:Value}{kk:List Int->Tr}{l:List G}{ess:List MapEntry}(hix:VR ρ ix u)(hlen:ess.length=l.length)
  (XP:∀(i:Nat) (g:G) (e:MapEntry),l[i]? =some g->ess[i]? =some e->VR ρ (lS m g) e.key/\VR ρ (iU m g) e.val) (h:run (IM P m kt ix kk) σ K=true):
  ∃ns r',run (kk ns) σ K=true/\ns.length=(bC m).ks.length/\VR ρ (iz m ns) u/\cG 8 (iz m ns) (iz m ns)=true/\FR ρ (T8 m l ess) ess (if cx m l ns<l.length then some (cx m l ns,iU m (dW m l ns)) else none) r'/\
   (Instr.findKey kt u ess).run P w= .ok r' w/\∀em,(Instr.checkKey em 10000 kt u).run P w= .ok () w:=by
 obtain⟨hkd,z1⟩:=ar h
 obtain⟨Yc,z2⟩:=ar z1
 obtain⟨d,hu,z3⟩:=bQ z2
 obtain⟨hd,z4⟩:=ar z3
 obtain⟨ns,hns,z5⟩:=bO z4
 obtain⟨q1,q2⟩:=N4 hns hix
 have hf:=yz hd q2 l ess 0 hlen
 obtain⟨r',f1,f2,f3⟩:=Jr (w:=w) hkd Yc hu hix q1 (Js l ess hlen XP) hf
 exact⟨ns,r',z5,q2,q1,F7 hd q2,by simpa using f1,f2,f3⟩
theorem yC{x:AV}{v:Value}{f:List ME->Tr}(hS:SI σ)(hG:Good w0 ρ σ.h w)(hx:VR ρ x v)(h:run (xQ x f) σ K=true):
  ∃es ess c9,run (f es) c9 K=true/\SI c9/\c9.h=σ.h/\MR ρ es ess/\
   (v= .map none/\ess= []∨∃r clock,v= .map (some r)/\w.heap[r]? =some (.map ess.toArray clock)):=by
 cases hx with
 |nilm=>exact⟨[],[],σ,h,hS,rfl,MR.nil ρ,.inl ⟨rfl,rfl⟩⟩
 |map b hm hh=>
  obtain⟨q,d6,hq,e1,d5,h⟩:=bm hS h
  cases q with
  |mapo es clock=>
   obtain⟨x8,i4,hB,p6,d9,ZD⟩:=(hG.blk _ _ hq).mapo_MR
   rw[hh] at i4;injection i4 with i4;subst i4
   exact⟨es,p6.toList,d6,h,d5,e1,ZD,.inr ⟨hm.blk,clock,rfl,by simpa using d9⟩⟩
  |_=>exact(ak h).elim
 |_=>exact(ak h).elim
theorem yD{t:TypeId}{x ix:AV}{v u:Value}{ok:Bool}(hS:SI σ)(hG:Good w0 ρ σ.h w)(hx:VR ρ x v)(hy:VR ρ ix u)(h:run (xR P t x ix ok k) σ K=true):Res P w0 ρ w k K (Instr.lookup t v u ok):=by
 obtain⟨d,hu,h⟩:=bQ h
 cases d with
 |map kt e=>
  obtain⟨es,ess,d6,h,d5,e1,hm,hv⟩:=yC hS hG hx h
  have d7:Good w0 ρ d6.h w:=by rw[e1];exact hG
  obtain⟨r,r',h,Yg,B',m8⟩:=yx (w:=w) hy hm h
  have tup:∀{a:AV} {c:Value} (b:Bool),VR ρ a c->VR ρ (.tup [a,.bool b]) (.tuple #[c,.bool b]):=fun b hr=>
   .tup _ _ rfl fun i a' v' ha hv=>by
    rcases i with _|_|i
    ·simp at ha hv;subst ha;subst hv;exact hr
    ·simp at ha hv;subst ha;subst hv;exact .bool _
    ·simp at ha
  have model:∀(s:Sem Value),(Instr.lookup t v u ok).run P w=s.run P w->Res P w0 ρ w k K s->Res P w0 ρ w k K (Instr.lookup t v u ok):=fun s e hr=>hr.of_eq e
  have hlk:(Instr.lookup t v u ok).run P w=(do
    let(c,o) ←match r' with
     |some (_,c)=>pure (c,true)
     |none=>pure (←zeroValue e,false)
    pure (if ok then Value.tuple #[c,.bool o] else c):Sem Value).run P w:=by
   rcases hv with⟨rfl,rfl⟩|⟨b,clock,rfl,hb⟩
   ·simp [Instr.lookup,run_underlying hu,m8,B']
    rfl
   ·simp [Instr.lookup,run_underlying hu,m8,B',aS hb (by simp)]
    rfl
  refine model _ hlk ?_
  cases r with
  |none=>
   cases r' with
   |some p=>exact Yg.elim
   |none=>
    obtain⟨z,zv,i,_,hz,YB,h⟩:=pU ρ w h
    rcases bG h with⟨hb,h⟩|⟨hb,h⟩
    ·exact .plain h d5 d7 (tup false YB) (by simp [hz,hb])
    ·exact .plain h d5 d7 YB (by simp [hz,hb])
  |some p=>
   cases r' with
   |none=>exact Yg.elim
   |some p'=>
    obtain⟨i,a⟩:=p
    obtain⟨j,c⟩:=p'
    obtain⟨_,hr,_⟩:=Yg
    rcases bG h with⟨hb,h⟩|⟨hb,h⟩
    ·exact .plain h d5 d7 (tup true hr) (by simp [hb])
    ·exact .plain h d5 d7 hr (by simp [hb])
 |_=>exact(ak h).elim
theorem BC{t:TypeId}{x ix:AV}{v u:Value}{ok:Bool}(hS:SI σ)(hG:Good w0 ρ σ.h w)(hx:VR ρ x v)(hy:VR ρ ix u)(h:run (DQ P t x ix ok k) σ K=true):Res P w0 ρ w k K (Instr.lookup t v u ok):=by
 rcases yA hS hG hx h with⟨d6,z,d5,e1⟩|⟨b,m,l,hm,ess,clock,d6,z,d5,e1,rfl,hh,hB,d9,hlen,XP,hq⟩
 ·exact yD d5 (by rw[e1];exact hG) hx hy z
 ·have d7:Good w0 ρ d6.h w:=by rw[e1];exact hG
  obtain⟨d,hu,z1⟩:=bQ z
  cases d with
  |map kt e=>
   obtain⟨ns,r',z2,hn,hk,_,Yg,B',m8⟩:=yB (w:=w) hy hlen XP z1
   have tup:∀{a:AV} {c:Value} (b:Bool),VR ρ a c->VR ρ (.tup [a,.bool b]) (.tuple #[c,.bool b]):=fun b hr=>
    .tup _ _ rfl fun i a' v' ha hv=>by
     rcases i with _|_|i
     ·simp at ha hv;subst ha;subst hv;exact hr
     ·simp at ha hv;subst ha;subst hv;exact .bool _
     ·simp at ha
   have hlk:(Instr.lookup t (.map (some hm.blk)) u ok).run P w=(do
     let(c,o) ←match r' with
      |some (_,c)=>pure (c,true)
      |none=>pure (←zeroValue e,false)
     pure (if ok then Value.tuple #[c,.bool o] else c):Sem Value).run P w:=by
    simp [Instr.lookup,run_underlying hu,m8,B',aS d9 (by simp)]
    rfl
   refine Res.of_eq ?_ hlk
   rcases cO z2 with⟨w9,z3⟩|⟨w9,z3⟩
   ·have w9:cx m l ns<l.length:=w9
    rw[if_pos w9] at Yg
    cases r' with
    |none=>exact Yg.elim
    |some p'=>
     obtain⟨j,c⟩:=p'
     obtain⟨_,hr,_⟩:=Yg
     rcases bG z3 with⟨hb,z4⟩|⟨hb,z4⟩
     ·exact .plain z4 d5 d7 (tup true hr) (by simp [hb])
     ·exact .plain z4 d5 d7 hr (by simp [hb])
   ·have w9:¬cx m l ns<l.length:=w9
    rw[if_neg w9] at Yg
    cases r' with
    |some p=>exact Yg.elim
    |none=>
     obtain⟨z,zv,i,_,hz,YB,z4⟩:=pU ρ w z3
     rcases bG z4 with⟨hb,z5⟩|⟨hb,z5⟩
     ·exact .plain z5 d5 d7 (tup false YB) (by simp [hz,hb])
     ·exact .plain z5 d5 d7 YB (by simp [hz,hb])
  |_=>exact(ak z1).elim
theorem oF:∀(f:Nat) (x y:AV) (v u:Value) (N:Nat),cG f x y=true->VR ρ x v->VR ρ y u->f<=N->Instr.sameBits N v u=true:=by
 intro f
 induction f with
 |zero=>intro x y v u N h;simp [cG] at h
 |succ f ih=>
  intro x y v u N h hx hy hN
  obtain⟨N,rfl⟩:∃N',N=N'+1:=⟨N-1,by omega⟩
  unfold cG at h
  split at h
  ·cases hx;cases hy;simpa [Instr.sameBits] using h
  ·rename_i j a j' b
   cases hx;cases hy
   obtain⟨h1,h2⟩:=aM h
   simp at h1 h2
   simp [Instr.sameBits,h1,h2]
  ·cases hx;cases hy
   rw[gP, ←beq_toListBytes] at h
   simpa [Instr.sameBits] using h
  ·rename_i a b
   cases hx with
   |agg _ cs h1 h2=>
    cases hy with
    |agg _ ds k1 k2=>
     have lx:=LR.of_arr h1 h2
     have ly:=LR.of_arr k1 k2
     have key:∀(a b:List AV) (vs us:List Value),LR ρ a vs->LR ρ b us->cG.sameAll (cG f) a b=true->vs.length=us.length/\((vs.zip us).all fun(x,y)=>Instr.sameBits N x y)=true:=by
      intro a
      induction a with
      |nil=>
       intro b vs us la lb h
       cases b with
       |nil=>rw[la.nil_inv,lb.nil_inv];exact⟨rfl,rfl⟩
       |cons _ _=>simp [cG.sameAll] at h
      |cons x a iha=>
       intro b vs us la lb h
       cases b with
       |nil=>simp [cG.sameAll] at h
       |cons y b=>
        obtain⟨v1,C',rfl,r1,la'⟩:=la.cons_inv
        obtain⟨u1,us',rfl,r2,lb'⟩:=lb.cons_inv
        have h:ac (cG f x y) (cG.sameAll (cG f) a b) false=true:=h
        obtain⟨g1,g2⟩:=aM h
        obtain⟨q1,q2⟩:=iha b C' us' la' lb' g2
        refine⟨by simp [q1], ?_⟩
        rw[List.zip_cons_cons,List.all_cons,Bool.and_eq_true]
        exact⟨ih x y v1 u1 N g1 r1 r2 (by omega),q2⟩
     obtain⟨q1,q2⟩:=key a b cs.toList ds.toList lx ly h
     simp only [Instr.sameBits,Bool.and_eq_true]
     exact⟨by simpa using q1,q2⟩
  ·cases h
theorem D9{l:List ME}{f:List ME->Tr}:run (pM l f) σ K=true->run (f l) σ K=true:=by
 have:∀(l:List ME) (f:List ME->Tr),run (pM l f) σ K=run (f l) σ K:=by
  intro l
  induction l with
  |nil=>intro f;rfl
  |cons a l ih=>intro f;exact ih fun l=>f (a::l)
 intro h;rw[this] at h;exact h
theorem F8{x:AV}{v:Value}{f:Nat->List ME->Nat->Tr}(hS:SI σ)(hG:Good w0 ρ σ.h w)(hx:VR ρ x v)(h:run (IJ x f) σ K=true):
  ∃b hm es ess clock c9,run (f b es clock) c9 K=true/\SI c9/\c9.h=σ.h/\v= .map (some hm.blk)/\ρ.at_ b 0=some hm/\Own ρ w0.heap.size hm.blk/\w.heap[hm.blk]? =some (.map ess.toArray clock)/\MR ρ es ess/\c9.h.get b=some (.mapo es clock):=by
 cases hx with
 |map b hm hh=>
  obtain⟨q,d6,hq,e1,d5,h⟩:=bm hS h
  cases q with
  |mapo es clock=>
   obtain⟨x8,i4,hB,p6,d9,ZD⟩:=(hG.blk _ _ hq).mapo_MR
   rw[hh] at i4;injection i4 with i4;subst i4
   exact⟨b,hm,es,p6.toList,clock,d6,h,d5,e1,rfl,hh,hB,by simpa using d9,ZD,by rw[e1];exact hq⟩
  |_=>exact(ak h).elim
 |_=>exact(ak h).elim
theorem Good.setObjM{H:T ABlk}{b:Nat}{x0 x:ABlk}{h:Home}{o o':Obj}(hG:Good w0 ρ H w)(hb:H.get b=some x0)(d8:b+1<2 ^ 64)(hh:ρ.at_ b 0=some h)(hB:Own ρ w0.heap.size h.blk)(hw:w.heap[h.blk]? =some o)
  (hx:BR ρ w0.heap.size {w with heap:=w.heap.setIfInBounds h.blk o'} b x) (hgx:∀g,Ig g x:=by intro g;trivial) (hnf:¬xx x0) (hxo:∀k I l,x≠ .obj k I l:=by intro _ _ _ h;cases h):Good w0 ρ (H.set b x) {w with heap:=w.heap.setIfInBounds h.blk o'}:=by
 refine hG.turn (hnf:=hnf) (hxo:=hxo) (hrs:=⟨b,0,h,hh,rfl⟩) hb d8 h.blk hB ⟨rfl,rfl,rfl,by simp,fun k hk ho=>?_⟩ (by simp) (fun k hk _=>?_) (fun b' g h' i4 e=>(hG.inj _ _ _ _ _ _ i4 hh e).1) hx (fun g _=>hgx g)
 ·show(w.heap.setIfInBounds h.blk o')[k]? =_
  rw[aaC,if_neg (fun e=>by rcases hB with hB|hB;omega;exact ho (e▸hB))]
 ·show(w.heap.setIfInBounds h.blk o')[k]? =_
  rw[aaC,if_neg (fun e=>hk e.symm)]
theorem Jt{b:Nat}{hm:Home}{es2:List ME}{Yd:List MapEntry}{c2:Nat}{o:Obj}{t:Tr}(hS:SI σ)(hG:Good w0 ρ σ.h w)(hh:ρ.at_ b 0=some hm)(hB:Own ρ w0.heap.size hm.blk)(d9:w.heap[hm.blk]? =some o)(ho:∀c t f,o≠ .cells c t f){xq:ABlk}(hqm:σ.h.get b=some xq)(hnq:¬xx xq)
  (X7:MR ρ es2 Yd) (h:run (.wr b (.mapo es2 c2) t) σ K=true):∃c9,run t c9 K=true/\SI c9/\Good w0 ρ c9.h {w with heap:=w.heap.setIfInBounds hm.blk (.map Yd.toArray c2)}/\(setObj hm.blk (.map Yd.toArray c2)).run P w= .ok () {w with heap:=w.heap.setIfInBounds hm.blk (.map Yd.toArray c2)}:=by
 obtain⟨x0,f9,U',e2,i5,d8,h⟩:=cI hS h
 refine⟨f9,h,i5, ?_, ?_⟩
 ·rw[e2]
  refine hG.setObjM (hnf:=nf rfl hqm U' hnq) U' d8 hh hB d9 (BR.of_MR hh hB ?_ X7)
  have:hm.blk<w.heap.size:=(hG.dom _ _ _ hh).1
  show(w.heap.setIfInBounds hm.blk _)[hm.blk]? =_
  rw[aaC,if_pos rfl,if_pos this]
 ·cases o <;> first|(exact absurd rfl (ho _ _ _))|(simp [setObj,Sem.run,d9])
theorem Wx{a b:AV}{c d:Value}(h1:VR ρ a c)(h2:VR ρ b d):VR ρ (.tup [a,b]) (.tuple #[c,d]):=
 .tup _ _ rfl fun i a' v' ha hv=>by
  rcases i with _|_|i
  ·simp at ha hv;subst ha;subst hv;exact h1
  ·simp at ha hv;subst ha;subst hv;exact h2
  ·simp at ha
theorem Uu{a b e:AV}{c d f:Value}(h1:VR ρ a c)(h2:VR ρ b d)(h3:VR ρ e f):VR ρ (.tup [a,b,e]) (.tuple #[c,d,f]):=
 .tup _ _ rfl fun i a' v' ha hv=>by
  rcases i with _|_|_|i
  ·simp at ha hv;subst ha;subst hv;exact h1
  ·simp at ha hv;subst ha;subst hv;exact h2
  ·simp at ha hv;subst ha;subst hv;exact h3
  ·simp at ha
theorem qh{t:TypeId}{x ix y:AV}{v u z:Value}{kk:Tr}(hS:SI σ)(hG:Good w0 ρ σ.h w)(hx:VR ρ x v)(hix:VR ρ ix u)(hy:VR ρ y z)(h:run (oB P t x ix y kk) σ K=true):FH P w0 ρ w kk K (Instr.mapUpdate t v u z):=by
 obtain⟨d,hu,h⟩:=bQ h
 cases d with
 |map kt e=>
  obtain⟨b,hm,es,ess,clock,d6,h,d5,e1,rfl,hh,hB,d9,ZD,hqm⟩:=F8 hS hG hx h
  have d7:Good w0 ρ d6.h w:=by rw[e1];exact hG
  obtain⟨r,r',h,Yg,B',m8⟩:=yx (w:=w) hix ZD h
  cases r with
  |none=>
   cases r' with
   |some p=>exact Yg.elim
   |none=>
    have h:=f_ (D9 h)
    have ad2:MR ρ (es++ [.mk ix y clock]) (ess++ [⟨u,z,clock⟩]):=ZD.append (MR.cons (e:=⟨u,z,clock⟩) hix hy rfl (MR.nil ρ))
    obtain⟨f9,h,i5,i7,i3⟩:=Jt (P:=P) d5 d7 hh hB d9 (by simp) hqm (fun h=>h) ad2 h
    refine⟨f9,_,h,i5,i7, ?_⟩
    have ea:ess.toArray.push (⟨u,z,clock⟩:MapEntry)=(ess++ [(⟨u,z,clock⟩:MapEntry)]).toArray:=by apply Array.ext';simp
    simp only [Instr.mapUpdate,aab,run_underlying hu,aS d9 (by simp),aae,m8,aba,B',ea]
    exact i3
  |some p=>
   cases r' with
   |none=>exact Yg.elim
   |some p'=>
    obtain⟨i,av⟩:=p
    obtain⟨j,cv⟩:=p'
    obtain⟨eij,_,ok,on,p8⟩:=Yg
    have eij:i=j:=eij
    subst eij
    have p8:es[i]? =some (.mk ok av on):=p8
    obtain⟨e,af6,q1,q2,q3⟩:=ZD.get p8
    have h:run (match es[i]? with
     |some (.mk old _ _)=>ac (cG 8 old ix) (pM (DS es i ix y) fun es=>.wr b (.mapo es clock) kk) .fail
     |none=>.fail) d6 K=true:=h
    rw[p8] at h
    obtain⟨p9,h⟩:=ar h
    have h:=D9 h
    have ZW:DS es i ix y=es.set i (.mk ix y on):=by simp only [DS,p8]
    rw[ZW] at h
    have ad2:MR ρ (es.set i (.mk ix y on)) (ess.set i {e with key:=u,val:=z}):=ZD.set hix hy q3
    obtain⟨f9,h,i5,i7,i3⟩:=Jt (P:=P) d5 d7 hh hB d9 (by simp) hqm (fun h=>h) ad2 h
    refine⟨f9,_,h,i5,i7, ?_⟩
    have Y8:=oF 8 ok ix e.key u 10000 p9 q1 hix (by decide)
    have j8:ess.toArray[i]? =some e:=by simpa using af6
    have ea:(ess.toArray.modify i fun e=>{e with key:=u,val:=z})=(ess.set i {e with key:=u,val:=z}).toArray:=by
     apply Array.ext'
     apply List.ext_getElem?
     intro n
     rw[aaP,abo,aba,abr]
     by_cases en:i=n
     ·subst en
      obtain⟨YJ,XS⟩:=List.getElem?_eq_some_iff.1 af6
      simp [YJ,XS]
     ·simp [en]
    simp only [Instr.mapUpdate,aab,run_underlying hu,aS d9 (by simp),aae,m8,aba,B',Instr.keyThatStays,j8,aaQ,Option.getD_some,Y8,if_true,aac,ea]
    exact i3
 |_=>exact(ak h).elim
theorem Ju{m:Nat}{ns:List Int}{vs:List G}{u:Value}(hn:ns.length=(bC m).ks.length)(hk:VR ρ (iz m ns) u):VR ρ (lS m (.node (ns.map G.int++vs))) u:=by
 have reI:∀(ks:List IntKind) (g:G) (j:Nat) (us:List Value),LR ρ (cF ks (db ks.length g j)) us->LR ρ (kS ks g j) us:=by
  intro ks
  induction ks with
  |nil=>intro g j us h;exact h
  |cons k ks ih=>
   intro g j us h
   obtain⟨v,us',rfl,hv,h'⟩:=h.cons_inv
   refine LR.cons ?_ (ih _ _ _ h')
   cases hv;exact .sI _ _
 have e:=nB (gs:=vs) hn
 unfold lS
 unfold iz at hk
 rw[←e] at hk
 cases Yc:(bC m).ka with
 |true=>
  rw[Yc] at hk
  cases hk with
  |agg _ cs h1 h2=>
   obtain⟨r1,r2⟩:=(reI _ _ _ _ (LR.of_arr h1 h2)).arr
   exact .agg _ _ r1 r2
 |false=>
  rw[Yc] at hk
  cases hks:(bC m).ks with
  |nil=>rw[hks] at hk;exact hk
  |cons k ks=>
   rw[hks] at hk
   have hk:VR ρ (.int k _) u:=hk
   cases hk;exact .sI _ _
theorem Jv{m:Nat}{ns:List Int}{vs:List G}{y:AV}{z:Value}(hn:ns.length=(bC m).ks.length)(h:RB m y=some vs)(hy:VR ρ y z):VR ρ (iU m (.node (ns.map G.int++vs))) z:=by
 unfold iU
 have hk:∀(gs:List G) (i:Nat),aa (.node (ns.map G.int++gs)) ((bC m).ks.length+i)=aq gs i:=fun gs i=>by
  have:=N3 (pre:=ns.map G.int) (gs:=gs) (j:=i)
  rw[aaO,hn] at this
  exact this
 unfold RB at h
 cases hva:(bC m).va with
 |true=>
  rw[hva] at h
  cases y with
  |agg l=>
   have h:(match fi (bC m).vs l with|some (gs,[])=>some gs|_=>none)=some vs:=h
   split at h
   ·rename_i gs hp
    injection h with h;subst h
    obtain⟨c1,f1,f2,f3⟩:=ir _ _ _ _ hp
    have f1:l=c1:=by simpa using f1
    subst f1
    cases hy with
    |agg _ cs h1 h2=>
     obtain⟨r1,r2⟩:=(f3.2 _ _ (fun i _=>hk gs i) ρ _ (LR.of_arr h1 h2)).arr
     exact .agg _ _ r1 r2
   ·cases h
  |_=>cases h
 |false=>
  rw[hva] at h
  have h:(match fi (bC m).vs [y] with|some ([g],[])=>some [g]|_=>none)=some vs:=h
  split at h
  ·rename_i g hp
   injection h with h;subst h
   obtain⟨c1,f1,f2,f3⟩:=ir _ _ _ _ hp
   have f1: [y]=c1:=by simpa using f1
   subst f1
   have:=f3.2 _ _ (fun i _=>hk [g] i) ρ [z] (LR.cons hy (LR.nil ρ))
   obtain⟨a,ha⟩:∃a,bx (bC m).vs (.node (ns.map G.int++ [g])) (bC m).ks.length= [a]:=by
    have hl:(bx (bC m).vs (.node (ns.map G.int++ [g])) (bC m).ks.length).length=1:=by rw[←this.1];rfl
    match hd:bx (bC m).vs (.node (ns.map G.int++ [g])) (bC m).ks.length,hl with
    | [a],_=>exact⟨a,rfl⟩
   rw[ha] at this⊢
   obtain⟨v,C',e1,q,_⟩:=this.cons_inv
   injection e1 with e1 _
   subst e1
   exact q
  ·cases h
theorem sh{t:TypeId}{x ix y:AV}{v u z:Value}{kk:Tr}(hS:SI σ)(hG:Good w0 ρ σ.h w)(hx:VR ρ x v)(hix:VR ρ ix u)(hy:VR ρ y z)(h:run (pN P t x ix y kk) σ K=true):FH P w0 ρ w kk K (Instr.mapUpdate t v u z):=by
 rcases yA hS hG hx h with⟨d6,z0,d5,e1⟩|⟨b,m,l,hm,ess,clock,d6,z0,d5,e1,rfl,hh,hB,d9,hlen,XP,hq⟩
 ·exact qh d5 (by rw[e1];exact hG) hx hix hy z0
 have d7:Good w0 ρ d6.h w:=by rw[e1];exact hG
 obtain⟨d,hu,z1⟩:=bQ z0
 cases d with
 |map kt e=>
  obtain⟨ns,r',z2,hn,hk,af7,Yg,B',m8⟩:=yB (w:=w) hix hlen XP z1
  obtain⟨vs,E',z3⟩:=bO z2
  obtain⟨x0,f9,U',e2,i5,d8,z4⟩:=cI d5 z3
  have f7:hm.blk<w.heap.size:=(hG.dom _ _ _ hh).1
  have k1:=Ju (vs:=vs) hn hk
  have k2:=Jv hn E' hy
  have put:∀(Yd:List MapEntry) (c2:Nat),Yd.length=(cL m l ns vs).length->(∀(i:Nat) (g:G) (e:MapEntry),(cL m l ns vs)[i]? =some g->Yd[i]? =some e->VR ρ (lS m g) e.key/\VR ρ (iU m g) e.val)->
    (Instr.mapUpdate t (.map (some hm.blk)) u z).run P w=(setObj hm.blk (.map Yd.toArray c2)).run P w->FH P w0 ρ w kk K (Instr.mapUpdate t (.map (some hm.blk)) u z):=by
   intro Yd c2 h1 h2 h3
   refine⟨f9,{w with heap:=w.heap.setIfInBounds hm.blk (.map Yd.toArray c2)},z4,i5, ?_, ?_⟩
   ·rw[e2]
    refine d7.setObjM (hnf:=nf rfl hq U' (fun h=>h)) U' d8 hh hB d9 ⟨hm,hh,hB,Yd.toArray,c2, ?_,by simpa using h1,fun i g e g1 g2=>h2 i g e g1 (by simpa using g2)⟩
    show(w.heap.setIfInBounds hm.blk _)[hm.blk]? =_
    rw[aaC,if_pos rfl,if_pos f7]
   ·rw[h3]
    simp [setObj,Sem.run,d9]
  by_cases w9:cx m l ns<l.length
  ·rw[if_pos w9] at Yg
   have ep:cL m l ns vs=l.set (cx m l ns) (.node (ns.map G.int++vs)):=by unfold cL;rw[if_pos w9]
   cases r' with
   |none=>exact Yg.elim
   |some p'=>
    obtain⟨j,cv⟩:=p'
    obtain⟨eij,_,ok,on,p8⟩:=Yg
    have eij:cx m l ns=j:=eij
    have X_:ess[j]? =some ess[j]:=aah (by omega)
    have hgl:l[j]? =some l[j]:=aah (by omega)
    obtain⟨o1,o2⟩:=XP j _ _ hgl X_
    have hints:db (bC m).ks.length l[j] 0=ns:=by
     have:=List.findIdx_getElem (p:=fun g=>decide (db (bC m).ks.length g 0=ns)) (xs:=l) (w:=w9)
     have:=of_decide_eq_true this
     subst eij
     exact this
    have okey:=yy o1
    rw[hints] at okey
    have Y8:=oF 8 (iz m ns) (iz m ns) (ess[j]).key u 10000 af7 okey hk (by decide)
    refine put (ess.set j {ess[j] with key:=u,val:=z}) clock (by rw[ep];simp [hlen]) (fun i g e g1 g2=>?_) ?_
    ·rw[ep,abr] at g1
     rw[abr] at g2
     rw[eij] at g1
     by_cases hji:j=i
     ·rw[if_pos hji] at g1 g2
      split at g1
      ·injection g1 with g1;subst g1
       split at g2
       ·injection g2 with g2;subst g2;exact⟨k1,k2⟩
       ·cases g2
      ·cases g1
     ·rw[if_neg hji] at g1 g2
      exact XP i g e g1 g2
    ·have j8:ess.toArray[j]? =some ess[j]:=by simpa using X_
     have ea:(ess.toArray.modify j fun e=>{e with key:=u,val:=z})=(ess.set j {ess[j] with key:=u,val:=z}).toArray:=by
      apply Array.ext'
      apply List.ext_getElem?
      intro n
      rw[aaP,abo,aba,abr]
      by_cases en:j=n
      ·subst en
       obtain⟨YJ,XS⟩:=List.getElem?_eq_some_iff.1 X_
       simp [YJ]
      ·simp [en]
     simp only [Instr.mapUpdate,aab,run_underlying hu,aS d9 (by simp),aae,m8,aba,B',Instr.keyThatStays,j8,aaQ,Option.getD_some,Y8,if_true,aac,ea]
  ·rw[if_neg w9] at Yg
   have ep:cL m l ns vs=l++ [.node (ns.map G.int++vs)]:=by unfold cL;rw[if_neg w9]
   cases r' with
   |some p=>exact Yg.elim
   |none=>
    refine put (ess++ [⟨u,z,clock⟩]) (clock+1) (by rw[ep];simp [hlen]) (fun i g e g1 g2=>?_) ?_
    ·rw[ep] at g1
     by_cases hi:i<l.length
     ·rw[aaz hi] at g1
      rw[aaz (by omega)] at g2
      exact XP i g e g1 g2
     ·rw[aaA (by omega)] at g1
      rw[aaA (by omega),hlen] at g2
      match i-l.length,g1,g2 with
      |0,g1,g2=>
       injection g1 with g1;injection g2 with g2
       subst g1;subst g2
       exact⟨k1,k2⟩
      |_+1,g1,g2=>simp at g1
    ·have ea:ess.toArray.push (⟨u,z,clock⟩:MapEntry)=(ess++ [(⟨u,z,clock⟩:MapEntry)]).toArray:=by apply Array.ext';simp
     simp only [Instr.mapUpdate,aab,run_underlying hu,aS d9 (by simp),aae,m8,aba,B',ea]
 |_=>exact(ak z1).elim
theorem F9{t:TypeId}{x:AV}{v:Value}(hS:SI σ)(hG:Good w0 ρ σ.h w)(hx:VR ρ x v)(h:run (IN P t x k) σ K=true):Res P w0 ρ w k K (Instr.range t v):=by
 obtain⟨d,hu,h⟩:=bQ h
 cases d with
 |string=>
  cases hx with
  |str s=>
   obtain⟨n,c9,hn,d8,i4,l8,h⟩:=dI hS h
   obtain⟨hle,i6⟩:=hG.alloc hn d8 (.siter (bytesOf s) 0) (.stringIter s 0) 0 0 (fun ρ' hle q9 _=>⟨_,q9,.new hG.below.size,s,rfl,by simp⟩)
   refine⟨_,c9,_,_,_,h,l8,by rw[i4];exact i6,hle,VR.ptr n 0 0 _ (Rho.put_at _ _ _ _) (aal _), ?_⟩
   simp [Instr.range,run_underlying hu]
  |_=>exact(ak h).elim
 |map kt et=>
  cases hx with
  |nilm=>
   obtain⟨n,c9,hn,d8,i4,l8,h⟩:=dI hS h
   obtain⟨hle,i6⟩:=hG.alloc hn d8 (.miter none 0 [] 0) (.mapIter none 0 #[] 0) 0 0 (fun ρ' hle q9 _=>⟨_,q9,.new hG.below.size,none, #[],by simp,rfl,rfl⟩)
   refine⟨_,c9,_,_,_,h,l8,by rw[i4];exact i6,hle,VR.ptr n 0 0 _ (Rho.put_at _ _ _ _) (aal _), ?_⟩
   simp [Instr.range,run_underlying hu]
  |map m hm hh=>
   obtain⟨q,d6,hq,e1,d5,h⟩:=bm hS h
   have d7:Good w0 ρ d6.h w:=by rw[e1];exact hG
   cases q with
   |mapo es clock=>
    obtain⟨x8,i4,hB,p6,d9,u0,_⟩:=hG.blk _ _ hq
    rw[hh] at i4;injection i4 with i4;subst i4
    obtain⟨n,c9,hn,d8,i4,l8,h⟩:=dI d5 h
    obtain⟨hle,i6⟩:=d7.alloc hn d8 (.miter (some m) clock [] clock) (.mapIter (some hm.blk) clock #[] clock) 0 0 (fun ρ' hle q9 _=>⟨_,q9,.new hG.below.size,some hm.blk, #[],by simp,rfl,hm,hle.at_ _ _ _ hh,rfl⟩)
    refine⟨_,c9,_,_,_,h,l8,by rw[i4];exact i6,hle,VR.ptr n 0 0 _ (Rho.put_at _ _ _ _) (aal _), ?_⟩
    simp [Instr.range,run_underlying hu,aS d9 (by simp)]
   |_=>exact(ak h).elim
  |_=>exact(ak h).elim
 |_=>exact(ak h).elim
theorem F_:∀(l:List Nat) (n:Nat),uz l n=l.contains n:=by
 intro l
 induction l with
 |nil=>intro n;rfl
 |cons a l ih=>
  intro n
  show ac (Nat.beq a n) true (uz l n)=_
  rw[ax,ih,List.contains_cons]
  by_cases e:a=n
  ·subst e;simp
  ·have h1:Nat.beq a n=false:=by
    cases hb:Nat.beq a n with
    |false=>rfl
    |true=>exact absurd (aad hb) e
   have h2:(n==a)=false:=by simpa using fun h:n=a=>e h.symm
   rw[h1,h2];simp
theorem Jw{seen:List Nat}{since:Nat}:∀(es:List ME) (ess:List MapEntry) (left:List ME),MR ρ es ess->xS seen since es=some left->
  MR ρ left (ess.filter fun e=>!seen.contains e.born)/\∀e∈ess,e.born<since:=by
 intro es
 induction es with
 |nil=>intro ess left hm h;simp only [xS] at h;injection h with h;subst h;rw[hm.nil_inv];exact⟨MR.nil ρ,by simp⟩
 |cons x es ih=>
  intro ess left hm h
  cases x with
  |mk a v n=>
   obtain⟨e,XT,rfl,h1,h2,h3,h4⟩:=hm.cons_inv
   simp only [xS] at h
   split at h
   ·rename_i f7
    split at h
    ·rename_i l hl
     injection h with h
     obtain⟨q1,q2⟩:=ih XT l h4 hl
     refine⟨?_,fun x hx=>?_⟩
     ·rw[List.filter_cons,h3, ←F_]
      rw[ax] at h
      cases hb:uz seen n with
      |true=>rw[hb,if_pos rfl] at h;subst h;simpa using q1
      |false=>rw[hb,if_neg (by simp)] at h;subst h;exact MR.cons h1 h2 h3 q1
     ·rcases List.mem_cons.1 hx with e'|hx
      ·subst e';omega
      ·exact q2 x hx
    ·cases h
   ·cases h
theorem Jx{x:AV}{v:Value}{isS:Bool}{ty:TypeId}(hS:SI σ)(hG:Good w0 ρ σ.h w)(hx:VR ρ x v)(h:run (QM x isS k) σ K=true):Res P w0 ρ w k K (Instr.next v isS ty):=by
 have ff:∀(ρ':Rho),VR ρ' (.tup [.bool false]) (.tuple #[.bool false]):=fun ρ'=>.tup _ _ rfl fun i a v ha hv=>by
  cases i with
  |zero=>simp at ha hv;subst ha;subst hv;exact .bool _
  |succ i=>simp at ha
 cases hx with
 |ptr b g o hm hh ho=>
  cases g with
  |succ g=>exact(ak h).elim
  |zero=>
   cases o with
   |succ o=>exact(ak h).elim
   |zero=>
    obtain⟨q,d6,hq,e1,d5,h⟩:=bm hS h
    have d7:Good w0 ρ d6.h w:=by rw[e1];exact hG
    cases q with
    |siter s pos=>
     cases isS with
     |false=>exact(ak h).elim
     |true=>
      obtain⟨x8,i4,hB,s',hs',d9⟩:=hG.blk _ _ hq
      rw[hh] at i4;injection i4 with i4;subst i4
      subst hs'
      have hlen:=bK s'
      rcases bG h with⟨f7,h⟩|⟨f7,h⟩
      ·have f7:=bu f7
       rw[hlen] at f7
       have f7:pos<s'.size:=f7
       have hc:(bytesOf s')[pos]? =some (s'[pos]'f7).toNat:=by
        unfold bytesOf
        rw[aaE]
        have:s'.data.toList[pos]? =some (s'[pos]'f7):=by
         have h1:pos<s'.data.size:=f7
         rw[aaP,aaJ h1];rfl
        rw[this];rfl
       have h:run (match(bytesOf s')[pos]? with
        |some c=>ac (Nat.ble c 127) (fN (Nat.succ pos) fun p=>.wr b (.siter (bytesOf s') p) (k (.tup [.bool true,.int .i64 (.ofNat pos),.int .i32 (.ofNat c)]))) .fail
        |none=>.fail) d6 K=true:=h
       rw[hc] at h
       obtain⟨ha,h⟩:=ar h
       have ha:=bu ha
       have h:=f_ h
       obtain⟨x0,f9,U',e2,i5,d8,h⟩:=cI d5 h
       have ZU:hm.blk<w.heap.size:=(hG.dom _ _ _ hh).1
       have i7:=d7.setObjM (hnf:=nf e1 hq U' (fun h=>h)) (x:=.siter (bytesOf s') (pos+1)) (o':=.stringIter s' (pos+1)) U' d8 hh hB d9 ⟨hm,hh,hB,s',rfl,by
        show(w.heap.setIfInBounds hm.blk _)[hm.blk]? =_
        rw[aaC,if_pos rfl,if_pos ZU]⟩
       have ah_:=decode_ascii s' pos f7 (by omega)
       have ZW:(setObj hm.blk (.stringIter s' (pos+1))).run P w= .ok () {w with heap:=w.heap.setIfInBounds hm.blk (.stringIter s' (pos+1))}:=by simp [setObj,Sem.run,d9]
       refine⟨_,f9,ρ,_,_,h,i5,by rw[e2];exact i7,Rho.le.refl ρ,Uu (.bool _) (.int _ _) (.int _ _), ?_⟩
       simp [Instr.next,aS d9 (by simp),f7,ah_,ZW,goInt]
      ·have f7:=RD f7
       rw[hlen] at f7
       refine .plain h d5 d7 (ff _) ?_
       have:¬pos<s'.size:=by omega
       simp [Instr.next,aS d9 (by simp),this]
    |miter m since seen stepped=>
     cases isS with
     |true=>cases m <;> exact(ak h).elim
     |false=>
      obtain⟨x8,i4,hB,m',A',d9,Zp,X7⟩:=hG.blk _ _ hq
      rw[hh] at i4;injection i4 with i4;subst i4
      cases m with
      |none=>
       subst X7
       exact .plain h d5 d7 (ff _) (by simp [Instr.next,aS d9 (by simp)])
      |some m=>
       obtain⟨hx,hhx,em⟩:=X7
       subst em
       obtain⟨q2,f9,ZM,e2,i5,h⟩:=bm d5 h
       have i7:Good w0 ρ f9.h w:=by rw[e2];exact d7
       cases q2 with
       |mapo es clock=>
        obtain⟨hm3,Zq,hB3,p6,XF,ZD⟩:=(d7.blk _ _ ZM).mapo_MR
        rw[hhx] at Zq;injection Zq with Zq;subst Zq
        obtain⟨hss,h⟩:=ar h
        have hss:=bu hss
        obtain⟨left,af8,h⟩:=bO h
        obtain⟨hlr,ZX⟩:=Jw es p6.toList left ZD af8
        rw[←Zp] at hlr
        have hF:p6.filter (fun e=>!A'.contains e.born)=(p6.toList.filter fun e=>!A'.toList.contains e.born).toArray:=by
         apply Array.ext';simp
        generalize hL:(p6.toList.filter fun e=>!A'.toList.contains e.born)=L at hlr hF
        have ab9:∀e∈L,e.born<since:=fun e he=>by rw[←hL] at he;exact ZX e (List.mem_filter.1 he).1
        have hold:L.toArray.filter (fun e=>decide (e.born<since))=L.toArray:=by
         apply Array.ext'
         rw[Array.toList_filter]
         exact List.filter_eq_self.2 fun e he=>by simpa using ab9 e he
        have l9:L.toArray.filter (fun e=>decide (e.born≥since))= #[]:=by
         apply Array.ext'
         rw[Array.toList_filter]
         exact List.filter_eq_nil_iff.2 fun e he=>by have:=ab9 e he;simp;omega
        have hun:(!A'.isEmpty && !p6.isEmpty && p6.all fun e=>decide (e.born≥stepped))=false:=by
         cases he:p6.isEmpty with
         |true=>simp
         |false=>
          have o8:0<p6.size:=by
           rcases aaM p6.size with e0|e0
           ·rw[Array.isEmpty_iff_size_eq_zero.2 e0] at he;cases he
           ·exact e0
          have:(p6.all fun e=>decide (e.born≥stepped))=false:=by
           rw[Array.all_eq_false]
           refine⟨0,o8, ?_⟩
           have:=ZX p6[0] (by simp)
           simp;omega
          rw[this];simp
        have model:(Instr.next (.pointer (some ⟨hm.blk,0-hm.shift,none⟩)) false ty).run P w=
          ((do
           let i ←choose (.mapNext ((if L.toArray.isEmpty then #[none] else #[])++L.toArray.map some).size)
           match((if L.toArray.isEmpty then #[none] else #[])++L.toArray.map some)[i]? with
           |some (some e)=>
            setObj hm.blk (.mapIter (some hx.blk) since (A'.push e.born) clock)
            pure (.tuple #[.bool true,e.key,e.val])
           |some none=>pure (.tuple #[.bool false])
           |none=>stuck "Next: no such candidate" :Sem Value)).run P w:=by
         simp only [Instr.next,Nat.zero_sub,aab,aS d9 (by simp),aae,aS XF (by simp),hun,Bool.false_eq_true,if_false,hF,hold,l9,Array.append_empty,aac]
         rfl
        refine Res.of_eq ?_ model
        cases left with
        |nil=>
         have:L= []:=hlr.nil_inv
         subst this
         by_cases hf:(Question.mapNext 1).forced=true
         ·refine⟨_,f9,ρ,.tuple #[.bool false],w,h,i5,i7,Rho.le.refl ρ,ff _, ?_⟩
          simp [hf]
         ·exact absurd (by decide) hf
        |cons l0 lr=>
         have hLn:L≠ []:=fun e=>by subst e;exact absurd hlr.1 (by simp)
         have ai0:L.toArray.isEmpty=false:=by cases L with|nil=>exact absurd rfl hLn|cons _ _=>rfl
         have h:=uC (n:=(l0::lr).length) h
         have hlen:(L.toArray.map some).size=(l0::lr).length:=by rw[Array.size_map];exact hlr.1
         have step:∀(i:Nat) (w2:World),w2.heap=w.heap->Good w0 ρ f9.h w2->run (cE (l0::lr)[i]? .fail fun e=>(match e with
           | .mk key v n=>.wr b (.miter (some m) since (seen++ [n]) clock) (k (.tup [.bool true,key,v])))) f9 K=true->
           Res P w0 ρ w2 k K (match(L.toArray.map some)[i]? with
           |some (some e)=>(do
            setObj hm.blk (.mapIter (some hx.blk) since (A'.push e.born) clock)
            pure (.tuple #[.bool true,e.key,e.val]))
           |some none=>pure (.tuple #[.bool false])
           |none=>stuck "Next: no such candidate" :Sem Value):=by
          intro i w2 Zn hGw h
          obtain⟨x,hxi,h⟩:=bO h
          cases x with
          |mk key v n=>
           obtain⟨e,he,r1,r2,r3⟩:=hlr.get hxi
           have he':(L.toArray.map some)[i]? =some (some e):=by simp [he]
           rw[he']
           obtain⟨x0,X5,U',e3,Yh,d8,h⟩:=cI i5 h
           have ZY:w2.heap[hm.blk]? =some (.mapIter (some hx.blk) since A' stepped):=by rw[Zn];exact d9
           have ZU:hm.blk<w2.heap.size:=by rw[Zn];exact(hG.dom _ _ _ hh).1
           have XD:=hGw.setObjM (hnf:=nf (e2.trans e1) hq U' (fun h=>h)) (x:=.miter (some m) since (seen++ [n]) clock) (o':=.mapIter (some hx.blk) since (A'.push e.born) clock) U' d8 hh hB ZY ⟨hm,hh,hB,some hx.blk,A'.push e.born,by
             show(w2.heap.setIfInBounds hm.blk _)[hm.blk]? =_
             rw[aaC,if_pos rfl,if_pos ZU],by rw[Array.toList_push,Zp,r3],hx,hhx,rfl⟩
           have ZW:(setObj hm.blk (.mapIter (some hx.blk) since (A'.push e.born) clock)).run P w2= .ok () {w2 with heap:=w2.heap.setIfInBounds hm.blk (.mapIter (some hx.blk) since (A'.push e.born) clock)}:=by simp [setObj,Sem.run,ZY]
           refine⟨_,X5,ρ,_,_,h,Yh,by rw[e3];exact XD,Rho.le.refl ρ,Uu (.bool _) r1 r2, ?_⟩
           simp [ZW]
         simp only [ai0,Bool.false_eq_true,if_false,Array.empty_append]
         rw[hlen]
         cases hf:(Question.mapNext (l0::lr).length).forced with
         |true=>
          have t9:(l0::lr).length<=1:=by simpa [Question.forced] using hf
          refine(step 0 w rfl i7 (h 0 (.inl rfl) fun _=>rfl)).of_eq ?_
          simp only [aab,run_choose,hf,if_true,aae]
         |false=>
          have t9:¬(l0::lr).length<=1:=of_decide_eq_false hf
          have hi:(Question.mapNext (l0::lr).length).cut (w.tape w.drawn (.mapNext (l0::lr).length))<(l0::lr).length:=Nat.mod_lt _ (by omega)
          obtain⟨av,c9,ρ',v',w',q1,q2,q3,q4,q5,q6⟩:=step _ {w with drawn:=w.drawn+1} rfl (i7.drawn _) (h _ (.inr hi) fun hc=>absurd hc t9)
          refine⟨av,c9,ρ',v',w',q1,q2,q3,q4,q5, ?_⟩
          simp only [aab,run_choose,hf,Bool.false_eq_true,if_false,aae]
          exact q6
       |_=>exact(ak h).elim
    |_=>exact(ak h).elim
 |_=>exact(ak h).elim
theorem yE{n:Nat}:∀(es:List ME) (ess:List MapEntry) (p:AV×AV),MR ρ es ess->jr n es=some p->∃e,ess.find? (fun e=>e.born==n)=some e/\VR ρ p.1 e.key/\VR ρ p.2 e.val:=by
 intro es
 induction es with
 |nil=>intro ess p _ h;simp [jr] at h
 |cons x es ih=>
  intro ess p hm h
  cases x with
  |mk a v m=>
   obtain⟨e,XT,rfl,h1,h2,h3,h4⟩:=hm.cons_inv
   simp only [jr] at h
   split at h
   ·rename_i emn
    injection h with h;subst h
    exact⟨e,by simp [h3,emn],h1,h2⟩
   ·rename_i emn
    obtain⟨e',q1,q2,q3⟩:=ih XT p h4 h
    refine⟨e', ?_,q2,q3⟩
    rw[List.find?_cons]
    have:(e.born==n)=false:=by rw[h3];simpa using emn
    rw[this];exact q1
theorem Jy:∀(l:List Nat),DT l=l.getLast? :=by
 intro l
 induction l with
 |nil=>rfl
 |cons a l ih=>
  cases l with
  |nil=>rfl
  |cons b l=>show DT (b::l)=_;rw[ih];simp [List.getLast?_cons_cons]
theorem Ga{x:AV}{v:Value}(hS:SI σ)(hG:Good w0 ρ σ.h w)(hx:VR ρ x v)(h:run (J0b x k) σ K=true):Res P w0 ρ w k K (Instr.entry v):=by
 cases hx with
 |ptr b g o hm hh ho=>
  cases g with
  |succ g=>exact(ak h).elim
  |zero=>
   cases o with
   |succ o=>exact(ak h).elim
   |zero=>
    obtain⟨q,d6,hq,e1,d5,h⟩:=bm hS h
    have d7:Good w0 ρ d6.h w:=by rw[e1];exact hG
    cases q with
    |miter m since seen stepped=>
     obtain⟨x8,i4,hB,m',A',d9,Zp,X7⟩:=hG.blk _ _ hq
     rw[hh] at i4;injection i4 with i4;subst i4
     cases m with
     |none=>exact(ak h).elim
     |some m=>
      obtain⟨hx,hhx,em⟩:=X7
      subst em
      obtain⟨n,hn,h⟩:=bO h
      obtain⟨q2,f9,ZM,e2,i5,h⟩:=bm d5 h
      have i7:Good w0 ρ f9.h w:=by rw[e2];exact d7
      cases q2 with
      |mapo es clock=>
       obtain⟨hm3,Zq,hB3,p6,XF,ZD⟩:=(d7.blk _ _ ZM).mapo_MR
       rw[hhx] at Zq;injection Zq with Zq;subst Zq
       obtain⟨hc,h1⟩:=ar h
       obtain⟨p,hp,h2⟩:=bO h1
       have hc:=aR hc
       subst hc
       obtain⟨e,q1,q2,q3⟩:=yE es p6.toList p ZD hp
       have af9:A'.back? =some n:=by
        rw[←Zp,Jy] at hn
        rw[←hn];simp
       have B':p6.find? (fun e=>e.born==n)=some e:=by rw[←Array.find?_toList];exact q1
       refine .plain h2 i5 i7 (Wx q2 q3) ?_
       simp [Instr.entry,Nat.zero_sub,aS d9 (by simp),aS XF (by simp),af9,B']
      |_=>exact(ak h).elim
    |_=>exact(ak h).elim
 |_=>exact(ak h).elim
end
end Go.Sym
namespace Go.Sym
open Go.RowKit (Below)
theorem uN(a b:Int):V1 a b=decide (a<b):=by
 unfold V1
 split
 ·rename_i x y
  cases h:Nat.ble (Nat.succ x) y with
  |true=>
   have:=Nat.ble_eq.mp h
   simp;omega
  |false=>
   have:=RD h
   simp;omega
 ·rfl
section
variable{P:Program}{w0:World}{ρ:Rho}{w:World}{σ:St}{K:Fin}{k:AV->Tr}
theorem oG{mx:Bool}:∀(l:List AV) (x:AV) (vs:List Value) (v:Value),LR ρ l vs->VR ρ x v->run (fK mx l x k) σ K=true->
  ∃r u,run (k r) σ K=true/\VR ρ r u/\(vs.foldlM (if mx then Builtin.max2 else Builtin.min2) v).run P w= .ok u w:=by
 intro l
 induction l with
 |nil=>intro x vs v hl hx h;rw[hl.nil_inv];exact⟨x,v,h,hx,by simp⟩
 |cons y l ih=>
  intro x vs v hl hx h
  obtain⟨u,C',rfl,hu,p7⟩:=hl.cons_inv
  have step:∀(j:IntKind) (a b c:Int) (r0:AV),VR ρ r0 (.int j c)->run (fK mx l r0 k) σ K=true->((if mx then Builtin.max2 else Builtin.min2) (.int j a) (.int j b)).run P w= .ok (.int j c) w->
    ∃r u,run (k r) σ K=true/\VR ρ r u/\((Value.int j b::C').foldlM (if mx then Builtin.max2 else Builtin.min2) (.int j a)).run P w= .ok u w:=fun j a b c r0 hr0 h e=>by
   obtain⟨r,u,q1,q2,q3⟩:=ih r0 C' (.int j c) p7 hr0 h
   exact⟨r,u,q1,q2,by rw[List.foldlM_cons,aab,e];exact q3⟩
  unfold fK at h
  split at h
  ·rename_i j a j' b
   cases hx;cases hu
   obtain⟨hj0,z1⟩:=ar h
   clear h
   have hj:=of_decide_eq_true hj0
   clear hj0
   subst hj
   rcases bG z1 with⟨e,h⟩|⟨e,h⟩
   ·refine step j a b b _ (.int _ _) h ?_
    rw[ax] at e
    cases mx with
    |true=>simp [uN] at e;simp [Builtin.max2,e]
    |false=>simp [uN] at e;simp [Builtin.min2,e]
   ·refine step j a b a _ (.int _ _) h ?_
    rw[ax] at e
    cases mx with
    |true=>simp [uN] at e;simp [Builtin.max2];omega
    |false=>simp [uN] at e;simp [Builtin.min2];omega
  ·split at h
   ·rename_i j a j' b ea eb
    have e1:=bo hx ea
    have e2:=bo hu eb
    subst e1;subst e2
    obtain⟨hj0,z1⟩:=ar h
    clear h
    have hj:=of_decide_eq_true hj0
    clear hj0
    subst hj
    refine step j a b _ _ (.sI _ _) z1 ?_
    cases mx with
    |true=>
     simp only [if_true,Builtin.max2]
     by_cases YH:a<b
     ·have:max a b=b:=by omega
      simp [YH,this]
     ·have:max a b=a:=by omega
      simp [YH,this]
    |false=>
     simp only [Bool.false_eq_true,if_false,Builtin.min2]
     by_cases YH:b<a
     ·have:min a b=b:=by omega
      simp [YH,this]
     ·have:min a b=a:=by omega
      simp [YH,this]
   ·exact(ak h).elim
theorem RO{tys:Array TypeId}{ty:TypeId}{args:List AV}{vs:List Value}(hS:SI σ)(hG:Good w0 ρ σ.h w)(hl:LR ρ args vs)(h:run (pf true args k) σ K=true):Res P w0 ρ w k K (Builtin.max_ tys ty vs.toArray):=by
 cases args with
 |nil=>exact(ak h).elim
 |cons x rest=>
  obtain⟨v,C',rfl,hv,p7⟩:=hl.cons_inv
  obtain⟨r,u,q1,q2,q3⟩:=oG (P:=P) (w:=w) rest x C' v p7 hv h
  exact .plain q1 hS hG q2 (by simpa [Builtin.max_] using q3)
theorem RP{tys:Array TypeId}{ty:TypeId}{args:List AV}{vs:List Value}(hS:SI σ)(hG:Good w0 ρ σ.h w)(hl:LR ρ args vs)(h:run (pf false args k) σ K=true):Res P w0 ρ w k K (Builtin.min_ tys ty vs.toArray):=by
 cases args with
 |nil=>exact(ak h).elim
 |cons x rest=>
  obtain⟨v,C',rfl,hv,p7⟩:=hl.cons_inv
  obtain⟨r,u,q1,q2,q3⟩:=oG (P:=P) (w:=w) rest x C' v p7 hv h
  exact .plain q1 hS hG q2 (by simpa [Builtin.min_] using q3)
theorem Gb{tys:Array TypeId}{ty:TypeId}{args:List AV}{vs:List Value}(hS:SI σ)(hG:Good w0 ρ σ.h w)(hl:LR ρ args vs)(h:run (Bf P tys args k) σ K=true):Res P w0 ρ w k K (Builtin.copy_ tys ty vs.toArray):=by
 unfold Bf at h
 split at h
 ·rename_i t d x h0
  obtain⟨v,vs1,rfl,hv,YJ⟩:=hl.cons_inv
  obtain⟨u,vs2,rfl,hu,XS⟩:=YJ.cons_inv
  have:=XS.nil_inv
  subst this
  obtain⟨dd,hd,h⟩:=bQ h
  cases dd with
  |slice e=>
   cases hv with
   |nils=>
    obtain⟨i,hi,h⟩:=cd h
    obtain⟨P',h⟩:=ar h
    have P':=bu P'
    obtain⟨n,h,hlen⟩:=uK (P:=P) hu h
    obtain⟨l,cs,c9,e1,l8,h,hL,Q',j5⟩:=kf (P:=P) (w:=w) hS hG hu (hlen _) (aal _) P' h
    have Y3:cs= []:=List.length_eq_zero_iff.1 (by simpa using Q')
    subst Y3
    refine .plain h l8 (by rw[e1];exact hG) (.int _ _) ?_
    have hm:Nat.min n 0=0:=Nat.min_zero n
    simp [Builtin.copy_,h0,run_underlying hd,hlen,hm,ay hi,j5 w rfl,goInt]
   |slc b g o len cap es a c x6=>
    obtain⟨i,hi,h⟩:=cd h
    obtain⟨P',h⟩:=ar h
    have P':=bu P'
    obtain⟨n,h,hlen⟩:=uK (P:=P) hu h
    have h:=f_ h
    rw[uE] at h
    obtain⟨l,cs,c9,e1,l8,h,hL,Q',j5⟩:=kf (P:=P) (w:=w) hS hG hu (hlen _) (Nat.min_le_left _ _) P' h
    have i6:Good w0 ρ c9.h w:=by rw[e1];exact hG
    rcases bG h with⟨hm,h⟩|⟨hm,h⟩
    ·have hm:=aR hm
     have Y3:cs= []:=List.length_eq_zero_iff.1 (by rw[Q',hm];simp)
     subst Y3
     refine .plain h l8 i6 (.int _ _) ?_
     have x8:Nat.min n len=0:=hm
     have hf:=j5 w rfl
     rw[hm] at hf
     rw[hm]
     simp [Builtin.copy_,h0,run_underlying hd,hlen,x8,ay hi,hf,goInt,storeCells]
    ·have j4:0<len:=by
      rcases aaM len with e0|e0
      ·subst e0;simp at hm
      ·exact e0
     obtain⟨X7,hh,ho,ea⟩:=pX x6 j4
     subst ea
     obtain⟨f9,w2,q1,q2,q3,q4⟩:=jv (P:=P) l8 i6 hh ho hL h
     refine⟨_,f9,ρ,_,w2,q1,q2,q3,Rho.le.refl ρ,.int _ _, ?_⟩
     have hf:=j5 w rfl
     have K':Nat.min n len=min n len:=rfl
     simp [Builtin.copy_,h0,run_underlying hd,hlen,K',ay hi,hf,goInt,q4]
   |_=>exact(ak h).elim
  |_=>exact(ak h).elim
 ·exact(ak h).elim
theorem Jz{tys:Array TypeId}{ty t0 e:TypeId}{i:TypeInfo}{b g len:Nat}{t:List Nat}{y:AV}{v u:Value}(hS:SI σ)(hG:Good w0 ρ σ.h w)(hx:VR ρ (.gsl b g len 1) v)(hy:VR ρ y u)(Y8:Bd y=some t)
  (h0:tys[0]? =some t0) (hd:P.underlying t0=some (.slice e)) (hi:P.info? e=some i) (P':i.size=1) (h:run (QL b g len t k) σ K=true):Res P w0 ρ w k K (Builtin.copy_ tys ty #[v,u]):=by
 obtain⟨hlen,cs,hL,Q',j5⟩:=yq (P:=P) (w:=w) hG hy Y8
 have d8:=cN hS h
 obtain⟨q,d6,hq,e1,d5,z0⟩:=bm hS h
 clear h
 have d7:Good w0 ρ d6.h w:=by rw[e1];exact hG
 cases q with
 |grow c gen YI=>
  cases c with
  |rows m l=>exact(ak z0).elim
  |bytes l0=>
  obtain⟨k1,z1⟩:=ar z0
  obtain⟨k2,z2⟩:=aW z1
  obtain⟨x0,f9,U',e2,i5,_,z3⟩:=cI d5 z2
  clear z0 z1 z2
  have k1:=aad k1
  subst k1
  have w8:d6.h.get b=some (.grow (.bytes l0) g YI):=by rw[e1];exact hq
  have hml:min t.length len<=t.length:=Nat.min_le_left _ _
  have ZD:min t.length len<=len:=Nat.min_le_right _ _
  have hf:=j5 _ hml w rfl
  have ab0:∀n:Nat,goInt n=Value.int .i64 (n:Int):=fun n=>rfl
  cases hx with
  |gsl _ _ _ _ hm cp hn hh F' X9 hz=>
   rcases d7.blk _ _ w8 with Yv|⟨x8,q1,q2,q3,arr,fr,q4,q5,q6,q7,q8⟩
   ·have Yv:l0.length=0:=Yv
    omega
   rw[hh] at q1;injection q1 with q1;subst q1
   have q6:l0.length * 1<=hm.size:=q6
   have ad3:(cs.take (min t.length len)).length=min t.length len:=by rw[aam,Q'];omega
   have hLt:LR ρ ((cu t).take (min t.length len)) (cs.take (min t.length len)):=⟨by rw[aam,aam,hL.1],fun j a v ha hv=>by
    rw[aaW] at ha hv
    split at ha
    ·rename_i hj
     rw[if_pos hj] at hv
     exact hL.2 j a v ha hv
    ·cases ha⟩
   obtain⟨m7,s1,s2,s3,s4,s5,s6,s7⟩:=eG hm.blk (cs.take (min t.length len)) 0 w arr YI fr q4 (by rw[ad3];omega)
   have s8:=run_storeCells_cells (P:=P) hm.blk 0 (cs.take (min t.length len)) 0 w (fun j hj=>by
     simp only [World.cell?,q4]
     simp only [aa2,Bool.false_eq_true,if_false,aap]
     rw[aaJ (by omega)];rfl) (fun j hj=>by
     simp only [World.frozen?,q4,aap]
     cases hx:(decide (fr.1<=0+j) && decide (0+j<fr.2)) with
     |false=>rfl
     |true=>
      simp only [Bool.and_eq_true,decide_eq_true_eq] at hx
      exact(q7 _ (by omega) hx.1 hx.2).elim) (hLt.ones (fun a ha=>by
       have:=List.mem_of_mem_take ha
       unfold cu at this
       obtain⟨n,_,e⟩:=List.mem_map.1 this
       rw[←e];rfl))
   rw[aap] at s8
   have Zl:(t.take len++l0.drop t.length).length=len:=by rw[aai,aam,aan];omega
   have XD:Good w0 ρ (d6.h.set b (.grow (.bytes (t.take len++l0.drop t.length)) g YI)) (w.setCells hm.blk 0 (cs.take (min t.length len))):=by
    refine d7.turn (hrs:=⟨b,g,hm,hh,rfl⟩) w8 d8 hm.blk q3 (Kept.of_set (s7 0 (aal _)) s5 q3) (by omega) (fun x hx _=>s5 x hx) (fun b' g' h' i4 e'=>(hG.inj _ _ _ _ _ _ i4 hh e').1) ?_
    refine .inr ⟨hm,hh,q2,q3,m7,fr,s1,by omega, ?_,q7,fun i' hi' j a ha=>?_⟩
    ·show(t.take len++l0.drop t.length).length * 1<=hm.size
     omega
    ·have hi':i'<(t.take len++l0.drop t.length).length:=hi'
     have ha: [AV.sI .u8 (((t.take len++l0.drop t.length).getD i' 0:Nat):Int)][j]? =some a:=ha
     cases j with
     |succ j=>simp at ha
     |zero=>
     simp only [List.getElem?_cons_zero] at ha
     injection ha with ha
     subst ha
     show ∃u,m7[i' * 1+0]? =some u/\_
     rw[aaD,aap]
     by_cases hit:i'<min t.length len
     ·have XW:(cu t)[i']? =some (.sI .u8 (Int.ofNat (t[i']'(by omega)))):=by
       unfold cu;rw[aaE,aah (by omega)];rfl
      obtain⟨u,u1,u2⟩:=hL.get XW
      refine⟨u, ?_, ?_⟩
      ·have:=s3 i' (by rw[ad3];exact hit)
       rw[aak] at this
       rw[this,aar hit];exact u1
      ·have:(t.take len++l0.drop t.length).getD i' 0=t[i']'(by omega):=by
        rw[aag,aaz (by rw[aam];omega),aar (by omega),aah (by omega)];rfl
       rw[this];exact u2
     ·have Y6:t.length<=i':=by omega
      obtain⟨u,u1,u2⟩:=q8 i' (show i'<l0.length by omega) 0 _ rfl
      have u1:arr[i' * 1+0]? =some u:=u1
      rw[aaD,aap] at u1
      refine⟨u,by rw[s4 i' (.inr (by rw[ad3];omega))];exact u1, ?_⟩
      have:(t.take len++l0.drop t.length).getD i' 0=l0.getD i' 0:=by
       rw[aag,aaA (by rw[aam];omega),aax,aag]
       congr 2
       rw[aam];omega
      rw[this];exact u2
   refine⟨_,f9,ρ,_,_,z3,i5,by rw[e2];exact XD,.refl _,.sI _ _, ?_⟩
   have K':Nat.min t.length len=min t.length len:=rfl
   simp only [Builtin.copy_,h0,aab,run_underlying hd,aae,hlen,K',ay hi,P',hf,s8,aac,ab0,aa9,List.getElem?_cons_zero,List.getElem?_cons_succ,aba]
  |gnil _ _ _=>
   have hb0:l0= []:=List.length_eq_zero_iff.1 k2
   refine⟨_,f9,ρ,_,w,z3,i5, ?_,.refl _,.sI _ _, ?_⟩
   ·rw[e2]
    exact d7.none_turn w8 d8 (by subst hb0;simp [Ct.len]) (fun _ h=>h) (fun h=>h)
   ·have K':Nat.min t.length 0=min t.length 0:=rfl
    have YL:(Builtin.firstCells 1 0 u).run P w= .ok #[] w:=by simpa using hf
    simp [Builtin.copy_,h0,run_underlying hd,hlen,ay hi,P',YL,goInt]
  |gempty _ _ _ a=>
   have hb0:l0= []:=List.length_eq_zero_iff.1 k2
   refine⟨_,f9,ρ,_,w,z3,i5, ?_,.refl _,.sI _ _, ?_⟩
   ·rw[e2]
    exact d7.none_turn w8 d8 (by subst hb0;simp [Ct.len]) (fun _ h=>h) (fun h=>h)
   ·have K':Nat.min t.length 0=min t.length 0:=rfl
    have YL:(Builtin.firstCells 1 0 u).run P w= .ok #[] w:=by simpa using hf
    simp [Builtin.copy_,h0,run_underlying hd,hlen,ay hi,P',YL,goInt,storeCells]
 |_=>exact(ak z0).elim
theorem JA{tys:Array TypeId}{ty:TypeId}{args:List AV}{vs:List Value}(hS:SI σ)(hG:Good w0 ρ σ.h w)(hl:LR ρ args vs)(h:run (II P tys args k) σ K=true):Res P w0 ρ w k K (Builtin.copy_ tys ty vs.toArray):=by
 unfold II at h
 split at h
 ·rename_i d x
  split at h
  ·rename_i t Y8
   split at h
   ·rename_i t0 h0
    obtain⟨v,vs1,rfl,hv,YJ⟩:=hl.cons_inv
    obtain⟨u,vs2,rfl,hu,XS⟩:=YJ.cons_inv
    have:=XS.nil_inv
    subst this
    obtain⟨dd,hd,h⟩:=bQ h
    cases dd with
    |slice e=>
     obtain⟨i,hi,h⟩:=cd h
     obtain⟨P',h⟩:=ar h
     have P':=aad P'
     have grown:∀(a:AV) (c9:St),SI c9->Good w0 ρ c9.h w->VR ρ a v->run (IH t k a) c9 K=true->Res P w0 ρ w k K (Builtin.copy_ tys ty #[v,u]):=by
      intro a c9 l8 i6 ha z
      cases a with
      |gsl b g len es=>
       obtain⟨p8,z1⟩:=ar z
       have p8:=aad p8
       subst p8
       exact Jz l8 i6 ha hu Y8 h0 hd hi P' z1
      |_=>exact(ak z).elim
     cases d with
     |gsl b g len es=>exact grown _ _ hS hG hv h
     |slc b g o len cap es=>
      obtain⟨p8,z1⟩:=ar h
      have p8:=aad p8
      obtain⟨c9,z3,l8,i6,_,Zi⟩:=dK hS hG jw z1
      rw[p8] at hv
      exact grown _ _ l8 i6 (Zi ρ (.refl _) _ hv) z3
     |_=>exact(ak h).elim
    |_=>exact(ak h).elim
   ·exact(ak h).elim
  ·exact Gb hS hG hl h
 ·exact(ak h).elim
theorem si{t:TypeId}{x y:AV}{v u:Value}(hS:SI σ)(hG:Good w0 ρ σ.h w)(hx:VR ρ x v)(hy:VR ρ y u)(h:run (pK P t x y k) σ K=true):Res P w0 ρ w k K (Instr.makeSlice t v u):=by
 obtain⟨j1,n1,e1,h1⟩:=nm h
 obtain⟨j2,n2,e2,h2⟩:=nm h1
 obtain⟨l,e3,h3⟩:=xW h2
 obtain⟨c,e4,h4⟩:=xW h3
 clear h h1 h2 h3
 subst e1;subst e2;subst e3;subst e4
 have h:=h4
 clear h4
 cases hx;cases hy
 obtain⟨d,hu,h⟩:=bQ h
 cases d with
 |slice e=>
  obtain⟨XR,h⟩:=ar h
  obtain⟨hc,h⟩:=ar h
  have XR:=bu XR
  have hc:=bu hc
  obtain⟨i,hi,h⟩:=QN h
  obtain⟨Yu,h⟩:=ar h
  have Yu:=bu Yu
  obtain⟨P',h⟩:=ar (f_ h)
  have P':=bu P'
  obtain⟨z,zv,i',hi',hz,YB,h⟩:=pU ρ w h
  obtain⟨zl,hzl,h⟩:=fL YB h
  obtain⟨Y4,h⟩:=ar h
  have Y4:=aR Y4
  have h:=fj h
  have ZS:=sW hzl (by omega) c
  rw[Y4] at ZS
  obtain⟨q1,q2⟩:=LR.to_arr ZS
  obtain⟨b,c9,h5,l8,hle,i6⟩:=ke _ e hS hG q1 q2 h
  refine⟨_,c9,_,_,_,h5,l8,i6,hle,VR.slc b 0 0 l (some c) i.size _ c ⟨XR,rfl,_,Rho.put_at _ _ _ _,aal _,rfl⟩, ?_⟩
  have hbc:i.bytes * c<=1000 * 1000000:=aa4 Yu hc
  have w1:IntKind.wrap .i64 (l:Int)=l:=by simp [IntKind.wrap,IntKind.bits,IntKind.signed,Int.bmod_def];omega
  have w2:IntKind.wrap .i64 (c:Int)=c:=by simp [IntKind.wrap,IntKind.bits,IntKind.signed,Int.bmod_def];omega
  have ai1:¬((i.bytes:Int) * (c:Int) > 2 ^ 48):=by
   rw[←Int.natCast_mul];omega
  have t1:((decide ((c:Int)<0) || decide ((i.bytes:Int) * (c:Int) > 2 ^ 48)) || decide ((l:Int)<0) || decide ((l:Int) > (c:Int)))=false:=by
   simp only [ai1,decide_false,Bool.or_false,Bool.or_eq_false_iff,decide_eq_false_iff_not]
   omega
  simp only [Instr.makeSlice,aab,run_underlying hu,aae,asInt,asIntOf,aac,typeInfo,run_program,hi,w1,w2,ay hi]
  rw[if_neg (by rw[t1];simp)]
  by_cases e0:c * i.size=0
  ·have:c=0:=by
    rcases Nat.mul_eq_zero.mp e0 with h'|h'
    ·exact h'
    ·omega
   subst this
   have e0':∀f g:Nat->Value,(Array.range 0).map f=(Array.range 0).map g:=fun f g=>by simp
   simp [newRow,ay hi]
   congr 2
   exact e0' _ _
  ·simp [e0,hz,newRow,ay hi]
 |_=>exact(ak h).elim
end
end Go.Sym
namespace Go.Sym
open Go.RowKit (Below)
section
variable{P:Program}{w0:World}{ρ:Rho}{w:World}{σ:St}{K:Fin}{k:AV->Tr}
theorem uO{tys:Array TypeId}{ty:TypeId}{args:List AV}{vs:List Value}(hS:SI σ)(hG:Good w0 ρ σ.h w)(hl:LR ρ args vs)(h:run (pL args k) σ K=true):Res P w0 ρ w k K (Builtin.unsafeSliceData_ tys ty vs.toArray):=by
 cases args with
 |nil=>exact(ak h).elim
 |cons x args=>
  cases args with
  |cons _ _=>cases x <;> exact(ak h).elim
  |nil=>
   obtain⟨v,C',rfl,hv,p7⟩:=hl.cons_inv
   have:=p7.nil_inv
   subst this
   cases hv with
   |nils=>exact .plain h hS hG .nilp rfl
   |slc b g o len cap es a c x6=>
    obtain⟨hc,h⟩:=ar h
    have j4:c≠0/\∃hm,ρ.at_ b g=some hm/\hm.shift<=o/\a=⟨hm.blk,o-hm.shift,none⟩:=by
     obtain⟨h1,h2⟩:=x6
     cases cap with
     |some kk=>
      have:=bu hc
      obtain⟨e,hm,q1,q2,q3⟩:=h2
      exact⟨by omega,hm,q1,q2,q3⟩
     |none=>
      have:=bu hc
      rcases h2 with⟨e,_⟩|⟨hm,q1,q2,q3,_⟩
      ·omega
      ·exact⟨by omega,hm,q1,q2,q3⟩
    obtain⟨hcz,hm,q1,q2,q3⟩:=j4
    subst q3
    refine .plain h hS hG (.ptr _ _ _ hm q1 q2) ?_
    have e:Builtin.unsafeSliceData_ tys ty #[.slice (some ⟨hm.blk,o-hm.shift,none⟩) len c]=(if c≠0 then pure (.pointer (some ⟨hm.blk,o-hm.shift,none⟩)) else do
      if(←viewAt hm.blk).isSome then pure (.pointer (some ⟨hm.blk,o-hm.shift,none⟩))
      else pure (.pointer (some ⟨←newObj (.view ⟨hm.blk,o-hm.shift,none⟩ (←elemOf ty)),0,none⟩))):=rfl
    show(Builtin.unsafeSliceData_ tys ty #[.slice (some ⟨hm.blk,o-hm.shift,none⟩) len c]).run P w=_
    rw[e,if_pos hcz];rfl
   |_=>exact(ak h).elim
theorem sj{a:Addr}:∀(bs:List Nat) (o:Nat) (acc:ByteArray) (blk:Nat) (arr:Array Value) (ty:TypeId) (fr:Nat×Nat),w.heap[blk]? =some (.cells arr ty fr)->(∀(i m:Nat),bs[i]? =some m->arr[o+i]? =some (Value.int .u8 (m:Nat)))->(∀m∈bs,m<256)->
  ∃s:ByteArray,(loadBytes ⟨blk,o,none⟩ acc bs.length).run P w= .ok s w/\bytesOf s=bytesOf acc++bs:=by
 intro bs
 induction bs with
 |nil=>intro o acc blk arr ty fr _ _ _;exact⟨acc,rfl,by simp⟩
 |cons m bs ih=>
  intro o acc blk arr ty fr hw hb hm
  have h0:=hb 0 m rfl
  have i9:w.cell? ⟨blk,o,none⟩=some (.int .u8 (m:Nat)):=by
   simp only [World.cell?,hw]
   simpa using h0
  have hld:(load ⟨blk,o,none⟩).run P w= .ok (.int .u8 (m:Nat)) w:=by
   rw[run_load P w ⟨blk,o,none⟩ .plain,i9]
  have ai2:(⟨blk,o,none⟩:Addr).add 1=⟨blk,o+1,none⟩:=by unfold Addr.add;simp
  obtain⟨s,q1,q2⟩:=ih (o+1) (acc.push (m:Int).toNat.toUInt8) blk arr ty fr hw (fun i n hi=>by
   have:=hb (i+1) n (by simpa using hi)
   rwa [show o+(i+1)=o+1+i by omega] at this) (fun x hx=>hm x (by simp [hx]))
  refine⟨s, ?_, ?_⟩
  ·show(loadBytes ⟨blk,o,none⟩ acc (bs.length+1)).run P w=_
   simp only [loadBytes,aab,hld,aae,ai2]
   exact q1
  ·rw[q2]
   have f7:=hm m (by simp)
   have:bytesOf (acc.push (m:Int).toNat.toUInt8)=bytesOf acc++ [m]:=by
    unfold bytesOf
    rw[ByteArray.data_push]
    simp
    omega
   rw[this];simp
theorem RQ:∀{l:List AV} {bs:List Nat},DH l=some bs->∀m∈bs,m<256:=by
 intro l
 induction l with
 |nil=>intro bs h;injection h with h;subst h;simp
 |cons a l ih=>
  intro bs h
  unfold DH at h
  split at h
  ·rename_i e;cases e
  ·rename_i n r' e
   injection e with e1 e2
   subst e1;subst e2
   split at h
   ·rename_i hn
    split at h
    ·rename_i l' XS
     injection h with h
     subst h
     intro m hm
     rcases List.mem_cons.1 hm with e|hm
     ·subst e;exact hn
     ·exact ih XS m hm
    ·cases h
   ·cases h
  ·cases h
theorem ta{c:T Cell}{g o0:Nat}{hm:Home}{arr:Array Value}{l:List AV}{bs:List Nat}(h:DH l=some bs)(j8:∀(j:Nat) (a:AV),l[j]? =some a->∃tag,c.get (o0+j)=some (.mk tag a)/\tag<=g)
  (i9:∀o tag a,c.get o=some (.mk tag a)->tag<=g->hm.shift<=o/\∃v,arr[o-hm.shift]? =some v/\VR ρ a v) (hs:hm.shift=0):bs.length=l.length/\∀(i m:Nat),bs[i]? =some m->arr[o0+i]? =some (Value.int .u8 (m:Nat)):=by
 have key:∀(l:List AV) (bs:List Nat),DH l=some bs->bs.length=l.length/\∀(i m:Nat),bs[i]? =some m->l[i]? =some (AV.int .u8 (m:Nat)):=by
  intro l
  induction l with
  |nil=>intro bs h;injection h with h;subst h;exact⟨rfl,fun i m hi=>by simp at hi⟩
  |cons a l ih=>
   intro bs h
   unfold DH at h
   split at h
   ·rename_i e;cases e
   ·rename_i n r' e
    injection e with e1 e2
    subst e1;subst e2
    split at h
    ·split at h
     ·rename_i l' XS
      injection h with h
      subst h
      obtain⟨q1,q2⟩:=ih _ XS
      refine⟨by simp [q1],fun i m hi=>?_⟩
      cases i with
      |zero=>simp at hi;subst hi;rfl
      |succ i=>simpa using q2 i m (by simpa using hi)
     ·cases h
    ·cases h
   ·cases h
 obtain⟨h1,h2⟩:=key l bs h
 refine⟨h1,fun i m hi=>?_⟩
 obtain⟨tag,t1,t2⟩:=j8 i _ (h2 i m hi)
 obtain⟨_,v,r1,r2⟩:=i9 _ tag _ t1 t2
 rw[hs,show o0+i-0=o0+i by omega] at r1
 cases r2
 exact r1
theorem td(tys:Array TypeId)(ty:TypeId)(a:Addr)(j:IntKind)(n:Int):Builtin.unsafeString_ tys ty #[.pointer (some a),.int j n]=(do
   let some pt:=tys[0]?|stuck "unsafe.String: no argument types"
   if n<0 then runtimePanic (.error "unsafe.String: len out of range")
   if n > IntKind.i64.max then unsupported (.unsafePointer "String: a length above the largest int")
   if n=0 then pure (.string .empty)
   else if ←variablesAt a (←elemOf pt) n.toNat then do
    let s ←loadBytes a .empty n.toNat
    freeze a n.toNat
    pure (.string s)
   else unsupported (.unsafePointer "String: not so many bytes at ptr")):=rfl
theorem Gc(tys:Array TypeId)(ty:TypeId)(j:IntKind)(n:Int):Builtin.unsafeString_ tys ty #[.pointer none,.int j n]=(do
   let some pt:=tys[0]?|stuck "unsafe.String: no argument types"
   if n<0 then runtimePanic (.error "unsafe.String: len out of range")
   if n > IntKind.i64.max then unsupported (.unsafePointer "String: a length above the largest int")
   if n=0 then pure (.string .empty)
   else runtimePanic (.error "unsafe.String: ptr is nil and len is not zero")):=rfl
theorem N6{tys:Array TypeId}{ty:TypeId}{args:List AV}{vs:List Value}(hS:SI σ)(hG:Good w0 ρ σ.h w)(hl:LR ρ args vs)(h:run (IG P tys args k) σ K=true):Res P w0 ρ w k K (Builtin.unsafeString_ tys ty vs.toArray):=by
 unfold IG at h
 split at h
 ·rename_i pt x j n0 h0
  obtain⟨v,vs1,rfl,hv,YJ⟩:=hl.cons_inv
  obtain⟨u,vs2,rfl,hu',XS⟩:=YJ.cons_inv
  have:=XS.nil_inv
  subst this
  obtain⟨n,rfl,h⟩:=xW h
  cases hu'
  obtain⟨d,hu,h⟩:=bQ h
  cases d with
  |pointer e=>
   cases hv with
   |nilp=>
    obtain⟨hn,h⟩:=ar h
    have hn:=aR hn
    subst hn
    refine .plain h hS hG (v:=.string .empty) (.str .empty) ?_
    show(Builtin.unsafeString_ tys ty #[.pointer none,.int j ((0:Nat):Int)]).run P w=_
    rw[Gc]
    simp [h0,IntKind.max,IntKind.signed,IntKind.bits]
   |ptr b g o hm hh ho=>
    rcases bG h with⟨hn,h⟩|⟨hn,h⟩
    ·have hn:=aR hn
     subst hn
     refine .plain h hS hG (v:=.string .empty) (.str .empty) ?_
     show(Builtin.unsafeString_ tys ty #[.pointer (some ⟨hm.blk,o-hm.shift,none⟩),.int j ((0:Nat):Int)]).run P w=_
     rw[td]
     simp [h0,IntKind.max,IntKind.signed,IntKind.bits]
    ·have hn:n≠0:=fun e=>by subst e;simp at hn
     obtain⟨ZZ,h⟩:=ar h
     have ZZ:=bu ZZ
     obtain⟨de,he,h⟩:=bQ h
     split at h
     ·obtain⟨d6,h,d5,e1,Ya,hv,YG,m0,F'⟩:=D5 hS hG hh h
      have d7:Good w0 ρ d6.h w:=by rw[e1];exact hG
      obtain⟨q,f9,hq,e2,i5,h⟩:=bm d5 h
      have i7:Good w0 ρ f9.h w:=by rw[e2];exact d7
      cases q with
      |cells c gen lo hi fl fh ro ty1=>
       obtain⟨ZR,z1⟩:=md h
       obtain⟨hff,z2⟩:=ar z1
       obtain⟨l,z3,hlen,j8⟩:=RJ z2
       obtain⟨bs,XM,z4⟩:=bO z3
       have hff:=bu hff
       subst ZR
       have hB:=d7.blk _ _ hq
       have YF:g<=gen:=d7.gens _ _ _ _ hh hq
       obtain⟨X7,q1,_,_,arr,fr,q3,q4,q5,q6⟩:=hB.2 g YF
       rw[hh] at q1;injection q1 with q1;subst q1
       obtain⟨Y0,Y9⟩:=ta XM j8 (fun o tag a ho ht=>q6 o tag a ho ht) Ya
       rw[hlen] at Y0
       obtain⟨s,Zr,Y8⟩:=sj (P:=P) (w:=w) (a:=⟨0,0,none⟩) bs o .empty hm.blk arr ty1 fr q3 Y9 (RQ XM)
       rw[Y0] at Zr
       have Y8:bytesOf s=bs:=by rw[Y8];rfl
       have model:(Builtin.unsafeString_ tys ty #[.pointer (some ⟨hm.blk,o-hm.shift,none⟩),.int j (n:Int)]).run P w= .ok (.string s) (w.freeze ⟨hm.blk,o,none⟩ n):=by
        rw[yn Ya]
        have h1:¬((n:Int)<0):=by omega
        have h2:¬(9223372036854775807<(n:Int)):=by omega
        have h5:(elemOf pt).run P w= .ok e w:=by simp [elemOf,run_underlying hu]
        rw[td]
        simp [h0,h1,h2,hn,h5,hv,Zr]
       have fin:∀(fl' fh':Nat),Good w0 ρ (f9.h.set b (.cells c gen lo hi fl' fh' false ty1)) (w.freeze ⟨hm.blk,o,none⟩ n)->run (.wr b (.cells c gen lo hi fl' fh' false ty1) (k (.str bs))) f9 K=true->
         Res P w0 ρ w k K (Builtin.unsafeString_ tys ty (Value.pointer (some ⟨hm.blk,o-hm.shift,none⟩):: [Value.int j (n:Int)]).toArray):=fun fl' fh' hGn hr=>by
        obtain⟨x0,X5,U',e3,Yh,_,hr⟩:=cI i5 hr
        refine⟨_,X5,ρ,.string s,_,hr,Yh,by rw[e3];exact hGn,Rho.le.refl ρ,by rw[←Y8];exact .str s,model⟩
       have ZM:f9.h.get b=some (.cells c gen lo hi fl fh false ty1):=by rw[e2];exact hq
       have d8:b+1<2 ^ 64:=by
        rcases bG z4 with⟨_,z5⟩|⟨_,z5⟩
        ·exact(cI i5 (f_ z5)).choose_spec.choose_spec.2.2.2.1
        ·rw[je,je] at z5
         exact(cI i5 z5).choose_spec.choose_spec.2.2.2.1
       rcases bG z4 with⟨hfe,z5⟩|⟨hfe,z5⟩
       ·have hfe:=aR hfe
        refine fin _ _ (i7.freezeAt ZM d8 hh YF hn (fun x hm3 _ _ t7=>?_) (fun f1 f2 hf hqq x R' t7=>?_)) (f_ z5)
        ·have:=t7 (.inr hff);omega
        ·split at t7
         ·omega
         ·rename_i o8
          have:=hqq f1 (.inr hff) (aaa _) (by omega)
          omega
       ·have hfe:fl<fh:=by
         rcases aaf fl fh with h'|h'
         ·exact h'
         ·have:fl=fh:=by omega
          subst this;simp at hfe
        rw[je,je,ax,ax] at z5
        have e1:(if Nat.ble fl o=true then fl else o)=min fl o:=by
         simp only [aa7,Nat.min_def]
        have e2:(if Nat.ble fh (o+n)=true then o+n else fh)=max fh (o+n):=by
         simp only [aa7,Nat.max_def]
        rw[e1,e2] at z5
        refine fin _ _ (i7.freezeAt ZM d8 hh YF hn (fun x hm3 _ _ t7=>?_) (fun f1 f2 hf hqq x R' t7=>?_)) z5
        ·have:=t7 (.inr hff);omega
        ·split at t7
         ·omega
         ·rename_i o8
          have l1:=hqq f1 (.inr hff) (aaa _) (by omega)
          have l2:=hqq (f2-1) (.inr hff) (by omega) (by omega)
          omega
      |_=>exact(ak h).elim
     ·exact(ak h).elim
   |_=>exact(ak h).elim
  |_=>exact(ak h).elim
 ·exact(ak h).elim
theorem JB{i:Nat}{fn:Func}{row:Array Value->Sem Value}(hf:P.funcs[i]? =some fn)(hb:fn.body=none)(hn:¬fn.name= "runtime.NumGoroutine")(h1:Extern.findNext fn=none)(h2:Extern.find fn=some row)(args:Array Value):
  (callFunc i args).run P w=(do pure (Next.value (←row args))).run P w:=by
 simp [callFunc,hf,hn,hb,h1,h2]
theorem N7{i:Nat}{args:List AV}{vs:List Value}(h:DU P i=true)(hl:LR ρ args vs)(hr:run (NS P i args k) σ K=true):∃av v,run (k av) σ K=true/\VR ρ av v/\(callFunc i vs.toArray).run P w= .ok (.value v) w:=by
 unfold DU at h
 unfold NS at hr
 split at h
 ·rename_i fn hf
  rw[hf] at hr
  split at h
  ·rename_i hb
   have ho:=of_decide_eq_true h
   rcases bG hr with⟨o8,hr⟩|⟨_,hr⟩
   ·have Ye:=of_decide_eq_true o8
    have h1:Extern.findNext fn=none:=by
     unfold Extern.findNext
     rw[Ye,ho]
     kernel_rfl
    have h2:Extern.find fn=some Extern.AbiNoEscape.same:=by
     unfold Extern.find
     rw[Ye]
     kernel_rfl
    split at hr
    ·rename_i x
     obtain⟨xv,C',rfl,hxv,ai3⟩:=hl.cons_inv
     have:=ai3.nil_inv
     subst this
     refine⟨_,_,hr,hxv, ?_⟩
     rw[JB hf hb (by rw[Ye];decide) h1 h2]
     rfl
    ·exact(ak hr).elim
   ·exact(ak hr).elim
  ·cases h
 ·cases h
end
end Go.Sym
namespace Go.Sym
open Go.RowKit (Below)
def fR(rd:Option Nat):Fence:={Fence.wide with round:=rd}
def N8(P:Program)(w0:World)(rn:cH):Prop:=
 ∀(l:Nat) (as:List AV) (vs:List Value) (k:AV->Tr) (σ:St) (K:Fin) (ρ:Rho) (w:World) (R:Ending->World->Prop),SI σ->Good w0 ρ σ.h w->LR ρ as vs->run (rn l as k) σ K=true->
  (∀av v c9 ρ' w',run (k av) c9 K=true->SI c9->Good w0 ρ' c9.h w'->ρ.le ρ'->VR ρ' av v->R (.returned v) w')->
  ∃h,ρ.at_ l 0=some h/\∃f tmps as bd,(Instr.yield h.blk vs.toArray).run P w= .ok (.round h.blk f tmps as bd) w/\RoundIn Fence.wide 0 P h.blk f tmps as bd w R
def yF(P:Program)(w0:World)(en:cH):Prop:=
 ∀(f:Nat) (l:List AV) (vs:List Value) (k:AV->Tr) (σ:St) (K:Fin) (ρ:Rho) (w:World) (R:Ending->World->Prop),SI σ->Good w0 ρ σ.h w->LR ρ l vs->run (en f l k) σ K=true->
  (∀av v c9 ρ' w',run (k av) c9 K=true->SI c9->Good w0 ρ' c9.h w'->ρ.le ρ'->VR ρ' av v->R (.returned v) w')->
  (∀args:Array Value,(callFunc f args).run P w= .ok (.enter f args) w)/\CallsIn Fence.wide 0 P f vs.toArray w R
section
variable{P:Program}{w0:World}{ρ:Rho}{w:World}{σ:St}{K:Fin}{k:AV->Tr}{nt:Nat}{env:T AV}{a:Act}{o:Oper}{next:Act->World->Prop}{Q:Exit->Act->World->Prop}{rd:Option Nat}
def Nxt(w0:World)(ρ:Rho)(K:Fin)(k:AV->Tr)(o:Oper)(a:Act)(next:Act->World->Prop):Prop:=
 ∀av v c9 ρ' w',run (k av) c9 K=true->SI c9->Good w0 ρ' c9.h w'->ρ.le ρ'->VR ρ' av v->next (a.put o.dst v) w'
theorem Nxt.mono{ρ':Rho}(h:Nxt w0 ρ K k o a next)(hle:ρ.le ρ'):Nxt w0 ρ' K k o a next:=fun av v c9 ρ2 w' h1 h2 h3 h4 h5=>h av v c9 ρ2 w' h1 h2 h3 (hle.trans h4) h5
theorem bB{s:Sem Value}(he:execOp a.eval o=(do pure (.value (←s))))(hn:Nxt w0 ρ K k o a next)(hr:Res P w0 ρ w k K s)(hd:∀c,o.op≠ .defer c:=by assumption):o.wpIn (fR rd) 0 P a w next Q:=by
 obtain⟨av,c9,ρ',v,w',h1,h2,h3,h4,h5,h6⟩:=hr
 refine⟨fun _ _=>trivial, ?_⟩
 show o.uponIn (fR rd) 0 P a next Q ((o.semAt rd a.eval).run P w)
 rw[Oper.semAt_eq _ _ _ hd,he]
 simp only [aab,h6,aae,aac,Oper.uponIn_value]
 exact hn av v c9 ρ' w' h1 h2 h3 h4 h5
theorem iA{av:AV}{v:Value}(he:(execOp a.eval o).run P w= .ok (.value v) w)(hn:Nxt w0 ρ K k o a next)(hr:run (k av) σ K=true)(hS:SI σ)(hG:Good w0 ρ σ.h w)(hv:VR ρ av v)(hd:∀c,o.op≠ .defer c:=by assumption):o.wpIn (fR rd) 0 P a w next Q:=by
 refine⟨fun _ _=>trivial, ?_⟩
 show o.uponIn (fR rd) 0 P a next Q ((o.semAt rd a.eval).run P w)
 rw[Oper.semAt_eq _ _ _ hd,he]
 exact hn av v σ ρ w hr hS hG (Rho.le.refl ρ) hv
theorem D_{s:Sem Unit}(he:execOp a.eval o=(do s;pure .skip))(hn:Nxt w0 ρ K k o a next)(hr:FH P w0 ρ w (IT k) K s)(hd:∀c,o.op≠ .defer c:=by assumption):o.wpIn (fR rd) 0 P a w next Q:=by
 obtain⟨c9,w',h1,h2,h3,h4⟩:=hr
 refine⟨fun _ _=>trivial, ?_⟩
 show o.uponIn (fR rd) 0 P a next Q ((o.semAt rd a.eval).run P w)
 rw[Oper.semAt_eq _ _ _ hd,he]
 simp only [aab,h4,aae,aac,Oper.uponIn_skip]
 exact hn _ _ c9 ρ w' h1 h2 h3 (Rho.le.refl ρ) (.tup [] #[] rfl (by simp))
theorem JC{en rn:cH}(hen:yF P w0 en)(hrn:N8 P w0 rn)(hS:SI σ)(hG:Good w0 ρ σ.h w)(hE:ER ρ nt env a.tmps)(h:run (NT P en rn env o.op k) σ K=true)(hn:Nxt w0 ρ K k o a next):o.wpIn (fR rd) 0 P a w next Q:=by
 have ev:∀{σ:St} {x:Operand} {f:AV->Tr},SI σ->Good w0 ρ σ.h w->run (dY env x f) σ K=true->∃av c9,SI c9/\Good w0 ρ c9.h w/\run (f av) c9 K=true/\VR ρ av (a.eval x):=by
  intro σ x f hS hG h
  obtain⟨av,c9,e,h1,h2,h3⟩:=sP hS hG hE h
  exact⟨av,c9,h1,by rw[e];exact hG,h2,h3⟩
 have hd:∀c,o.op≠ .defer c:=fun c hc=>by rw[hc] at h;exact ak h
 cases ho:o.op with
 |move x=>
  rw[ho] at h
  obtain⟨av,d6,d5,d7,h,hv⟩:=ev hS hG h
  exact iA (by simp only [execOp,ho];rfl) hn h d5 d7 hv
 |assign x=>
  rw[ho] at h
  obtain⟨av,d6,d5,d7,h,hv⟩:=ev hS hG h
  exact iA (by simp only [execOp,ho];rfl) hn h d5 d7 hv
 |pick c x y=>
  rw[ho] at h
  obtain⟨av,d6,d5,d7,h,hv⟩:=ev hS hG h
  obtain⟨b,hc,h⟩:=NV hv h
  rcases bG h with⟨e,h⟩|⟨e,h⟩
  ·subst e
   obtain⟨av,f9,i5,i7,h,hv⟩:=ev d5 d7 h
   exact iA (v:=a.eval x) (by simp only [execOp,ho,hc];rfl) hn h i5 i7 hv
  ·subst e
   obtain⟨av,f9,i5,i7,h,hv⟩:=ev d5 d7 h
   exact iA (v:=a.eval y) (by simp only [execOp,ho,hc];rfl) hn h i5 i7 hv
 |alloc t=>
  rw[ho] at h
  exact bB (by simp only [execOp,ho]) hn (I4 hS hG h)
 |box t x=>
  rw[ho] at h
  obtain⟨av,d6,d5,d7,h,hv⟩:=ev hS hG h
  exact bB (by simp only [execOp,ho]) hn (RI (t:=t) d5 d7 hv h)
 |build t ps=>
  rw[ho] at h
  obtain⟨av,d6,e,d5,h,h1,h2⟩:=pQ hS hG hE h
  have d7:Good w0 ρ d6.h w:=by rw[e];exact hG
  exact bB (s:=Instr.build t (ps.map fun x=>(x.1,a.eval x.2))) (by simp only [execOp,ho]) hn (I9 d5 d7 (by rw[h1];simp [Function.comp_def]) (by simpa [Function.comp_def] using h2) h)
 |buildSlice t n ps=>
  rw[ho] at h
  obtain⟨av,d6,e,d5,h,h1,h2⟩:=pQ hS hG hE h
  have d7:Good w0 ρ d6.h w:=by rw[e];exact hG
  obtain⟨av2,f9,ρ2,h,i5,i7,j9,h2,e2⟩:=yg d5 d7 h2 h
  exact bB (s:=Instr.buildSlice t n (ps.map fun x=>(x.1,a.eval x.2))) (by simp only [execOp,ho]) (hn.mono j9) (sg i5 i7 (by rw[e2,h1];simp [Function.comp_def]) (by simpa [Function.comp_def] using h2) h)
 |load t x=>
  rw[ho] at h
  obtain⟨av,d6,d5,d7,h,hv⟩:=ev hS hG h
  obtain⟨ap,f9,h,i5,e2,hp⟩:=D1 d5 d7 hv h
  exact bB (by simp only [execOp,ho]) hn (NZ i5 (by rw[e2];exact d7) hp h)
 |store t x y=>
  rw[ho] at h
  obtain⟨av,d6,d5,d7,h,hv⟩:=ev hS hG h
  obtain⟨au,f9,i5,i7,h,hu⟩:=ev d5 d7 h
  obtain⟨ap,X5,h,Yh,e3,hp⟩:=D1 i5 i7 hv h
  obtain⟨au2,σ4,ρ4,h,hS4,hG4,af_,hu⟩:=I_ Yh (by rw[e3];exact i7) hu h
  exact D_ (by simp only [execOp,ho]) (hn.mono af_) (I7 hS4 hG4 (hp.mono af_) hu h)
 |nilCheck x=>
  rw[ho] at h
  obtain⟨av,d6,d5,d7,h,hv⟩:=ev hS hG h
  obtain⟨h,hc⟩:=uM hv h
  refine iA (v:=a.eval x) ?_ hn h d5 d7 hv
  rcases hc with⟨p,e⟩|⟨f,l,m,e⟩|⟨f,l,m,e⟩ <;> (simp only [execOp,ho,e];rfl)
 |binOp op t x y z=>
  rw[ho] at h
  obtain⟨av,d6,d5,d7,h,hv⟩:=ev hS hG h
  obtain⟨au,f9,i5,i7,h,hu⟩:=ev d5 d7 h
  exact bB (by simp only [execOp,ho]) hn (I1 (ox:=x) (oy:=y) i5 i7 hv hu h)
 |unOp op t x=>
  rw[ho] at h
  obtain⟨av,d6,d5,d7,h,hv⟩:=ev hS hG h
  exact bB (by simp only [execOp,ho]) hn (NY d5 d7 hv h)
 |convert s d x=>
  rw[ho] at h
  obtain⟨av,d6,d5,d7,h,hv⟩:=ev hS hG h
  obtain⟨au,f9,h,i5,e2,hu⟩:=mj d5 d7 hv h
  exact bB (by simp only [execOp,ho]) hn (Ji i5 (by rw[e2];exact d7) hu h)
 |makeFunc fn first cap=>
  rw[ho] at h
  obtain⟨hf,h⟩:=ar h
  obtain⟨l1,d6,e,d5,h,YJ⟩:=uD hS hG hE h
  have d7:Good w0 ρ d6.h w:=by rw[e];exact hG
  obtain⟨l2,f9,e2,i5,h,XS⟩:=uD d5 d7 hE h
  have i7:Good w0 ρ f9.h w:=by rw[e2];exact d7
  have q1:LR ρ l1 (first.map a.eval).toList:=by simpa using YJ
  have q2:LR ρ l2 (cap.map a.eval).toList:=by simpa using XS
  exact iA (v:=.func fn (first.map a.eval) (cap.map a.eval)) (by simp only [execOp,ho];rfl) hn h i5 i7 (.func fn l1 l2 _ _ q1.arr.1 q2.arr.1 q1.arr.2 q2.arr.2 hf)
 |makeMap t r=>
  rw[ho] at h
  cases r with
  |none=>exact bB (s:=Instr.makeMap t none) (by simp only [execOp,ho];rfl) hn (qd (fun v hv=>by cases hv) hS hG h)
  |some x=>
   obtain⟨d,hu,h⟩:=bQ h
   cases d with
   |map kt e=>
    obtain⟨av,d6,d5,d7,h,hv⟩:=ev hS hG h
    obtain⟨j,n,rfl,h⟩:=nm h
    generalize hc:a.eval x=cv at hv
    cases hv
    exact bB (s:=Instr.makeMap t (some (a.eval x))) (by simp only [execOp,ho];rfl) hn (qd (fun v hv=>by injection hv with hv;exact⟨⟨kt,e,hu⟩,j,n,by rw[←hv,hc]⟩) d5 d7 h)
   |_=>exact(ak h).elim
 |makeSlice t x y=>
  rw[ho] at h
  obtain⟨av,d6,d5,d7,h,hv⟩:=ev hS hG h
  obtain⟨au,f9,i5,i7,h,hu⟩:=ev d5 d7 h
  exact bB (by simp only [execOp,ho]) hn (si i5 i7 hv hu h)
 |slice t x lo hi mx=>
  rw[ho] at h
  obtain⟨av,d6,d5,d7,h,hv⟩:=ev hS hG h
  obtain⟨o1,f9,e2,i5,h,h1⟩:=Bm d5 d7 hE h
  have i7:Good w0 ρ f9.h w:=by rw[e2];exact d7
  obtain⟨o2,X5,e3,Yh,h,h2⟩:=Bm i5 i7 hE h
  have XD:Good w0 ρ X5.h w:=by rw[e3];exact i7
  obtain⟨o3,σ4,e4,hS4,h,h3⟩:=Bm Yh XD hE h
  have hG4:Good w0 ρ σ4.h w:=by rw[e4];exact XD
  obtain⟨au,σ5,h,hS5,e5,hu⟩:=mj hS4 hG4 hv h
  exact bB (by simp only [execOp,ho]) hn (FT hS5 (by rw[e5];exact hG4) hu h1 h2 h3 h)
 |fieldAddr t x f=>
  rw[ho] at h
  obtain⟨av,d6,d5,d7,h,hv⟩:=ev hS hG h
  exact bB (by simp only [execOp,ho]) hn (uI d5 d7 hv h)
 |field t x f=>
  rw[ho] at h
  obtain⟨av,d6,d5,d7,h,hv⟩:=ev hS hG h
  exact bB (by simp only [execOp,ho]) hn (Ja d5 d7 hv h)
 |indexAddr t x i=>
  rw[ho] at h
  obtain⟨av,d6,d5,d7,h,hv⟩:=ev hS hG h
  obtain⟨au,f9,i5,i7,h,hu⟩:=ev d5 d7 h
  obtain⟨at_,X5,h,Yh,e3,ht⟩:=mj i5 i7 hv h
  exact bB (by simp only [execOp,ho]) hn (uJ Yh (by rw[e3];exact i7) ht hu h)
 |index t x i=>
  rw[ho] at h
  obtain⟨av,d6,d5,d7,h,hv⟩:=ev hS hG h
  obtain⟨au,f9,i5,i7,h,hu⟩:=ev d5 d7 h
  exact bB (by simp only [execOp,ho]) hn (Je i5 i7 hv hu h)
 |range t x=>
  rw[ho] at h
  obtain⟨av,d6,d5,d7,h,hv⟩:=ev hS hG h
  exact bB (by simp only [execOp,ho]) hn (F9 d5 d7 hv h)
 |next it s=>
  rw[ho] at h
  obtain⟨av,d6,d5,d7,h,hv⟩:=ev hS hG h
  exact bB (by simp only [execOp,ho]) hn (Jx (ty:=o.type) d5 d7 hv h)
 |lookup t x i ok=>
  rw[ho] at h
  obtain⟨av,d6,d5,d7,h,hv⟩:=ev hS hG h
  obtain⟨au,f9,i5,i7,h,hu⟩:=ev d5 d7 h
  exact bB (by simp only [execOp,ho]) hn (BC i5 i7 hv hu h)
 |mapUpdate t m i v=>
  rw[ho] at h
  obtain⟨av,d6,d5,d7,h,hv⟩:=ev hS hG h
  obtain⟨au,f9,i5,i7,h,hu⟩:=ev d5 d7 h
  obtain⟨aw,X5,Yh,XD,h,hw⟩:=ev i5 i7 h
  exact D_ (by simp only [execOp,ho]) hn (sh Yh XD hv hu hw h)
 |entry it=>
  rw[ho] at h
  obtain⟨av,d6,d5,d7,h,hv⟩:=ev hS hG h
  exact bB (by simp only [execOp,ho]) hn (Ga d5 d7 hv h)
 |extract t i=>
  rw[ho] at h
  obtain⟨av,d6,d5,d7,h,hv⟩:=ev hS hG h
  exact bB (by simp only [execOp,ho]) hn (Bs d5 d7 hv h)
 |call c=>
  rw[ho] at h
  have j6:c.args.map a.eval=(c.args.toList.map a.eval).toArray:=by apply Array.ext';simp
  have h:run (match c.callee with
   | .builtin b=>lX env c.args.toList fun l=>nh l fun l=>mc P b c.argTypes l k
   | .value f=>dY env f fun f=>lX env c.args.toList fun l=>DV P en rn f l k
   | .invoke _ _=>.fail) σ K=true:=h
  cases hc:c.callee with
  |builtin b=>
   rw[hc] at h
   obtain⟨l0,σ0,e0,hS0,h,hl0⟩:=uD hS hG hE h
   have ZN:Good w0 ρ σ0.h w:=by rw[e0];exact hG
   obtain⟨l,d6,h,d5,e,hl⟩:=sX hS0 ZN hl0 h
   have d7:Good w0 ρ d6.h w:=by rw[e];exact ZN
   cases b with
   |append=>exact bB (s:=Builtin.append_ c.argTypes o.type (c.args.toList.map a.eval).toArray) (by simp only [execOp,ho,resolve,hc,j6,invoke,builtin];rfl) hn (BB d5 d7 hl h)
   |unsafeString=>exact bB (s:=Builtin.unsafeString_ c.argTypes o.type (c.args.toList.map a.eval).toArray) (by simp only [execOp,ho,resolve,hc,j6,invoke,builtin];rfl) hn (N6 d5 d7 hl h)
   |unsafeSliceData=>exact bB (s:=Builtin.unsafeSliceData_ c.argTypes o.type (c.args.toList.map a.eval).toArray) (by simp only [execOp,ho,resolve,hc,j6,invoke,builtin];rfl) hn (uO d5 d7 hl h)
   |len=>exact bB (s:=Builtin.len_ c.argTypes o.type (c.args.toList.map a.eval).toArray) (by simp only [execOp,ho,resolve,hc,j6,invoke,builtin];rfl) hn (F2 d5 d7 hl h)
   |copy=>exact bB (s:=Builtin.copy_ c.argTypes o.type (c.args.toList.map a.eval).toArray) (by simp only [execOp,ho,resolve,hc,j6,invoke,builtin];rfl) hn (JA d5 d7 hl h)
   |max=>exact bB (s:=Builtin.max_ c.argTypes o.type (c.args.toList.map a.eval).toArray) (by simp only [execOp,ho,resolve,hc,j6,invoke,builtin];rfl) hn (RO d5 d7 hl h)
   |min=>exact bB (s:=Builtin.min_ c.argTypes o.type (c.args.toList.map a.eval).toArray) (by simp only [execOp,ho,resolve,hc,j6,invoke,builtin];rfl) hn (RP d5 d7 hl h)
   |_=>exact(ak h).elim
  |value f=>
   rw[hc] at h
   obtain⟨av,d6,d5,d7,h,hv⟩:=ev hS hG h
   obtain⟨l,f9,e,i5,h,hl⟩:=uD d5 d7 hE h
   have i7:Good w0 ρ f9.h w:=by rw[e];exact d7
   generalize hfv:a.eval f=fv at hv
   cases hv with
   |func fn l1 m1 first captured h1 h2 r1 r2 hf=>
    cases fn with
    |func i=>
     have q1:LR ρ l1 first.toList:=LR.of_arr h1 r1
     have q2:LR ρ m1 captured.toList:=LR.of_arr h2 r2
     have ea:(first++(c.args.toList.map a.eval).toArray++captured)=(first.toList++c.args.toList.map a.eval++captured.toList).toArray:=by apply Array.ext';simp
     have he0:(execOp a.eval o).run P w=(callFunc i (first++(c.args.toList.map a.eval).toArray++captured)).run P w:=by
      simp only [execOp,ho,resolve,hc,hfv,Deferred.ofValue,j6,aab,aac,aae,invoke]
     have h:run (ac (DU P i) (NS P i (l1++l++m1) k) (en i (l1++l++m1) k)) f9 K=true:=h
     rcases bG h with⟨o8,h⟩|⟨_,h⟩
     ·obtain⟨av,v,q3,q4,q5⟩:=N7 (w:=w) o8 ((q1.append hl).append q2) h
      refine iA ?_ hn q3 i5 i7 q4
      rw[he0,ea]
      exact q5
     obtain⟨hcf,hci⟩:=hen i (l1++l++m1) _ k f9 K ρ w (fun e w'=>match e with
      | .returned v=>next (a.put o.dst v) w'
      | .panicked chain=>Q (.panic chain) a w'
      | .outgrown=>LetsOut Q) i5 i7 ((q1.append hl).append q2) h (fun av v c9 ρ' w' g1 g2 g3 g4 g5=>hn av v c9 ρ' w' g1 g2 g3 g4 g5)
     refine⟨fun _ _=>trivial, ?_⟩
     show o.uponIn (fR rd) 0 P a next Q ((o.semAt rd a.eval).run P w)
     have he:(execOp a.eval o).run P w= .ok (.enter i (first++(c.args.toList.map a.eval).toArray++captured)) w:=by
      rw[he0];exact hcf _
     rw[Oper.semAt_eq _ _ _ hd,he,Oper.uponIn_enter]
     refine⟨fun h=>absurd h (by simp [fR,Fence.wide]), ?_⟩
     rw[ea]
     exact hci.mono fun e w' hr=>by cases e <;> exact hr
    |yield _=>exact absurd (show false=true from hf) (by decide)
    |_=>exact(ak h).elim
   |yld b hb hh=>
    have h:run (rn b l k) f9 K=true:=h
    obtain⟨O',i4,f,tmps,as,bd,q1,q2⟩:=hrn b l _ k f9 K ρ w (fun e w'=>match e with
      | .returned v=>next (a.put o.dst v) w'
      | .panicked chain=>Q (.panic chain) a w'
      | .outgrown=>LetsOut Q) i5 i7 hl h (fun av v c9 ρ' w' g1 g2 g3 g4 g5=>hn av v c9 ρ' w' g1 g2 g3 g4 g5)
    rw[hh] at i4;injection i4 with i4;subst i4
    refine⟨fun _ _=>trivial, ?_⟩
    show o.uponIn (fR rd) 0 P a next Q ((o.semAt rd a.eval).run P w)
    have he:(execOp a.eval o).run P w= .ok (.round hb.blk f tmps as bd) w:=by
     have:(execOp a.eval o).run P w=(Instr.yield hb.blk (#[]++(c.args.toList.map a.eval).toArray)).run P w:=by
      simp only [execOp,ho,resolve,hc,hfv,Deferred.ofValue,j6,aab,aac,aae,invoke]
     rw[this,Array.empty_append];exact q1
    rw[Oper.semAt_eq _ _ _ hd,he,Oper.uponIn_round]
    refine⟨fun h=>absurd h (by simp [fR,Fence.wide]), ?_⟩
    exact RoundIn.mono (show RoundIn (fR rd) (0-1) P hb.blk f tmps as bd w _ from q2) fun e w' hr=>by cases e <;> exact hr
   |_=>exact(ak h).elim
  |invoke r m=>rw[hc] at h;exact(ak h).elim
 |_=>rw[ho] at h;exact(ak h).elim
end
end Go.Sym
