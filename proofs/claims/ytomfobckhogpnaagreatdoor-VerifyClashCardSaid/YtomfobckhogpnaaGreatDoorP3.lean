/- Part 3. -/
import Derived.Laws.IdiomStrings
import Derived.Laws.BytesArg
import Derived.Laws.Sem
import Derived.Laws.RangeString
import Derived.CallsIn
import Derived.RangeFuncLeaves
import Derived.TacticsIn
import Derived.OrdersIn
import Derived.Test.YtomfobckhogpnaaGreatDoorP0
import Derived.Test.YtomfobckhogpnaaGreatDoorP1
import Derived.Test.YtomfobckhogpnaaGreatDoorP2
set_option linter.all false
namespace Go.Sym
open Go.RowKit (Below)
section
variable{P:Program}{w0:World}{ρ:Rho}{w:World}{σ:St}{K:Fin}{k:AV->Tr}
def heap_setCell(w:World)(a:Addr)(v:Value)(i:Nat):(w.setCell a v).heap[i]? =if a.block=i then(w.heap[i]?).map (fun
 | .cells c elem fr=>.cells (if a.spot.isSome then c else c.setIfInBounds a.off v) elem fr
 |o=>o) else w.heap[i]? :=by
 simp only [World.setCell,Array.getElem?_modify]
 split <;> rfl
def Good.store{H:T ABlk}(hG:Good w0 ρ H w){b o gen lo hi fl fh tag ty:Nat}{c:T Cell}{h:Home}{a0 a:AV}{v:Value}(hb:H.get b=some (.cells c gen lo hi fl fh false ty))(c8:b+1<2 ^ 64)(hh:ρ.at_ b gen=some h)(hc:c.get o=some (.mk tag a0))(ht:tag<=gen)(hv:VR ρ a v)(ab0:gm a=true)(hfz:¬(fl<=o/\o<fh)):
 h.shift<=o/\(Go.store ⟨h.blk,o-h.shift,none⟩ v).run P w= .ok () (w.setCell ⟨h.blk,o-h.shift,none⟩ v)/\
 Good w0 ρ (H.set b (.cells (c.set o (.mk gen a)) gen lo hi fl fh false ty)) (w.setCell ⟨h.blk,o-h.shift,none⟩ v):=by
 have hB:=hG.blk _ _ hb
 obtain⟨hm,q1,q2,_,arr,fr,q3,q4,q5,q6⟩:=hB.2 gen (aac _)
 rw[hh] at q1;injection q1 with q1;subst q1
 have q2:=q2 rfl
 obtain⟨q5a,q5b⟩:=q5 rfl
 obtain⟨hsh,v0,r1,_⟩:=q6 o tag a0 hc ht
 have c9:o-h.shift<arr.size:=by
  rcases aah (o-h.shift) arr.size with h'|h'
  ·exact h'
  ·rw[aaV h'] at r1;cases r1
 have j5:w.cell? ⟨h.blk,o-h.shift,none⟩=some v0:=by simp [World.cell?,q3,r1]
 have ak8:w.frozen? ⟨h.blk,o-h.shift,none⟩=false:=by
  simp only [World.frozen?,q3]
  obtain⟨f1,f2⟩:=fr
  cases hx:(decide (f1<=o-h.shift) && decide (o-h.shift<f2)) with
  |false=>rfl
  |true=>simp only [Bool.and_eq_true,decide_eq_true_eq] at hx;have:=q5b (o-h.shift) (.inl (by omega)) hx.1 hx.2;exact absurd (by omega) hfz
 refine⟨hsh, ?_, ?_⟩
 ·rw[run_store P w _ v .plain (jm hv ab0),j5];simp [ak8]
 ·refine hG.turn (hrs:=⟨b,gen,h,hh,rfl⟩) hb c8 h.blk q2 (Kept.setCell (p:=⟨h.blk,o-h.shift,none⟩) q2 v) (by simp [World.setCell]) (λk hk _=>?_) (λb' g' h' j4 e'=>(hG.inj _ _ _ _ _ _ j4 hh e').1) ⟨λo' x hx=>?_,λg' hg'=>?_⟩
  ·rw[heap_setCell,if_neg (λe=>hk e.symm)]
  ·by_cases eo:o'=o
   ·subst eo;have:=T.get_set_some _ _ hx;rw[this];exact⟨(hB.1 _ _ hc).1,(hB.1 _ _ hc).2.1,aac _⟩
   ·rw[T.get_set_ne _ eo] at hx;exact hB.1 _ _ hx
  ·obtain⟨hm',s1,s2,s2',p7,fr',s3,s4,s5,s6⟩:=hB.2 g' hg';by_cases eb:hm'.blk=h.blk
   ·obtain⟨_,ehm⟩:=hG.inj _ _ _ _ _ _ s1 hh eb;subst ehm;rw[q3] at s3;injection s3 with s3;injection s3 with s3a s3b s3c;subst s3a;subst s3c;refine⟨_,s1,s2,s2',arr.setIfInBounds (o-hm'.shift) v,fr, ?_,by simpa using s4,s5,λo' ae3 a' ho' ht'=>?_⟩
    ·rw[heap_setCell,if_pos rfl,q3];rfl
    ·by_cases eo:o'=o
     ·subst eo;have:=T.get_set_some _ _ ho';injection this with e1 e2;subst e2;exact⟨hsh,v,by rw[aaK];simp [c9],hv⟩
     ·rw[T.get_set_ne _ eo] at ho';obtain⟨u1,v',u2,u3⟩:=s6 o' ae3 a' ho' ht';exact⟨u1,v',by rw[aaK,if_neg (by omega)];exact u2,u3⟩
   ·refine⟨hm',s1,s2,s2',p7,fr', ?_,s4,s5,λo' ae3 a' ho' ht'=>?_⟩
    ·rw[heap_setCell,if_neg (λe=>eb e.symm)];exact s3
    ·by_cases eo:o'=o
     ·subst eo;have:=T.get_set_some _ _ ho';injection this with e1 e2;have:g'=gen:=by omega
      subst this;rw[hh] at s1;injection s1 with s1;subst s1;exact absurd rfl eb
     ·rw[T.get_set_ne _ eo] at ho';exact s6 o' ae3 a' ho' ht'
def stsT{b gen lo hi fl fh o0 ty:Nat}{h:Home}(c8:b+1<2 ^ 64)(hh:ρ.at_ b gen=some h)(ho0:h.shift<=o0):∀(l:List AV) (vs:List Value) (i:Nat) (c:T Cell) (w:World) (H:T ABlk) (k:T Cell->Tr),
 Good w0 ρ H w->H.get b=some (.cells c gen lo hi fl fh false ty)->LR ρ l vs->run (Wo gen fl fh l (o0+i) c k) σ K=true->
 ∃c' w',run (k c') σ K=true/\(storeCells ⟨h.blk,o0-h.shift,none⟩ vs i).run P w= .ok () w'/\Good w0 ρ (H.set b (.cells c' gen lo hi fl fh false ty)) w':=by
 intro l
 induction l with
 |nil=>
  intro vs i c w H k hG hb hl hr
  rw[hl.nil_inv]
  exact⟨c,w,hr,rfl,hG.ext λb'=>by
   by_cases e:b'=b
   ·subst e;rw[T.get_set_same _ _ _ c8,hb]
   ·rw[T.get_set_ne _ e]⟩
 |cons a l ih=>
  intro vs i c w H k hG hb hl hr
  obtain⟨v,E',rfl,hv,q9⟩:=hl.cons_inv
  have hr:run (ac (gm a) (ac (ac (Nat.ble fl (o0+i)) (Nat.ble (Nat.succ (o0+i)) fh) false) .fail (T.getK c (o0+i) .fail λx=>match x with
   | .mk tag _=>ac (Nat.ble tag gen) (T.setK c (o0+i) (.mk gen a) λc=>fN (Nat.succ (o0+i)) λo=>Wo gen fl fh l o c k) .fail)) .fail) σ K=true:=hr
  obtain⟨ab0,hr⟩:=ay hr
  obtain⟨hfz,hr⟩:=rJ hr
  obtain⟨x,hx,hr⟩:=uo hr
  cases x with
  |mk tag a0=>
   obtain⟨ht,hr⟩:=ay hr
   rw[T.setK_eq] at hr
   have hr:=ke hr
   have aq6:¬(fl<=o0+i/\o0+i<fh):=λ⟨e1,e2⟩=>by rw[ar,if_pos (Nat.ble_eq.mpr e1)] at hfz;rw[Nat.ble_eq.mpr e2] at hfz;cases hfz
   obtain⟨_,s1,s2⟩:=hG.store (P:=P) hb c8 hh hx (bU ht) hv ab0 aq6
   obtain⟨c',w',r1,r2,r3⟩:=ih E' (i+1) (c.set (o0+i) (.mk gen a)) _ _ k s2 (T.get_set_same _ _ _ c8) q9 hr
   refine⟨c',w',r1, ?_,r3.ext λb'=>?_⟩
   ·have ea:(⟨h.blk,o0-h.shift,none⟩:Addr).add i=⟨h.blk,o0+i-h.shift,none⟩:=by
     unfold Addr.add;split
     ·rename_i e;subst e;simp
     ·simp;omega
    simp only [storeCells,aad,ea,s1,aaj];exact r2
   ·by_cases e:b'=b
    ·subst e;rw[T.get_set_same _ _ _ c8,T.get_set_same _ _ _ c8]
    ·rw[T.get_set_ne _ e,T.get_set_ne _ e,T.get_set_ne _ e]
def pU{b g o:Nat}{h:Home}{l:List AV}{vs:List Value}{k:Tr}(hS:SI σ)(hG:Good w0 ρ σ.h w)(hh:ρ.at_ b g=some h)(ho:h.shift<=o)(hl:LR ρ l vs)(hr:run (oR b g o l k) σ K=true):
 Im P w0 ρ w k K (storeCells ⟨h.blk,o-h.shift,none⟩ vs):=by
 have c8:=di hS hr
 obtain⟨x,b7,hx,e1,b6,hr⟩:=bE hS hr
 cases x with
 |cells c gen lo hi fl fh ro ty=>
  obtain⟨hro,hr⟩:=rJ hr
  subst hro
  obtain⟨hg,hr⟩:=ay hr
  have hg:=aM hg
  subst hg
  obtain⟨c',w',r1,r2,r3⟩:=stsT (P:=P) (o0:=o) c8 hh ho l vs 0 c w σ.h _ hG hx hl hr
  obtain⟨x0,d8,_,e2,f9,_,r4⟩:=fw b6 r1
  exact⟨d8,w',r4,f9,by rw[e2,e1];exact r3,r2⟩
 |_=>exact(ah hr).elim
def Ln{t:TypeId}{x y:AV}{v u:Value}{k:Tr}(hS:SI σ)(hG:Good w0 ρ σ.h w)(hx:VR ρ x v)(hy:VR ρ y u)(hr:run (KH P t x y k) σ K=true):Im P w0 ρ w k K (Instr.storeAt t v u):=by
 cases hx with
 |ptr b g o h hh ho=>
  obtain⟨i,hi,hr⟩:=cG hr;obtain⟨l,hl,hr⟩:=iu hy hr;obtain⟨hlen,hr⟩:=ay hr;have hlen:=aM hlen;obtain⟨a9,w',r1,r2,r3,r4⟩:=pU (P:=P) hS hG hh ho hl hr;refine⟨a9,w',r1,r2,r3, ?_⟩;have T':u.cells.size=i.size:=by rw[←aaN,hl.1];exact hlen
  simp only [Instr.storeAt,Instr.sureAddr,storeVar,aad,aaf,aaj,aB hi,T',ne_eq,not_true_eq_false,if_false];exact r4
 |gptr b g i o es hm hh hs=>
  obtain⟨ii,hi,hr⟩:=cG hr
  obtain⟨l,hl,hr⟩:=iu hy hr
  obtain⟨hlen,hr⟩:=ay hr
  have hlen:=aM hlen
  obtain⟨l8,hr⟩:=ay hr
  have l8:=bU l8
  have c8:=di hS hr
  obtain⟨q,b7,hq,e1,b6,hr⟩:=bE hS hr
  have b9:Good w0 ρ b7.h w:=by rw[e1];exact hG
  cases q with
  |grow c gen ty=>
   obtain⟨k1,z1⟩:=ay hr
   obtain⟨k2,z2⟩:=ay z1
   obtain⟨k3,z3⟩:=ay z2
   obtain⟨k4,z4⟩:=ay z3
   clear hr z1 z2 z3
   have k1:=aM k1
   have k2:=aM k2
   have k3:=bU k3
   have ab0:∀a∈l,gm a=true:=λa ha=>List.all_eq_true.1 k4 a ha
   subst k1;subst k2
   cases hu:c.upd i o l with
   |none=>rw[hu] at z4;exact(ah z4).elim
   |some r=>
    obtain⟨c',p⟩:=r;rw[hu] at z4;obtain⟨⟨hin,hp⟩,z5⟩:=aP z4;obtain⟨x0,d8,hx0,e2,f9,_,z6⟩:=fw b6 z5;clear z4 z5;obtain⟨u1,u2,u3,u4⟩:=Wz hu hp hin (by omega);have G':b7.h.get b=some (.grow c g ty):=by rw[e1];exact hq
    rcases b9.blk _ _ G' with h0|⟨hm',q1,q2,q3,arr,fr,q4,q5,q6,q7,q8⟩
    ·omega
    rw[hh] at q1;injection q1 with q1;subst q1;have hcl:u.cells.toList.length=l.length:=hl.1;have ae4:i * c.es+c.es<=c.len * c.es:=by rw[←aaM];exact aaB _ hin
    have ac7:(i * c.es+o)+u.cells.toList.length<=arr.size:=by rw[hcl];omega
    obtain⟨p7,s1,s2,s3,s4,s5,s6,s7⟩:=fg hm.blk u.cells.toList (i * c.es+o) w arr ty fr q4 ac7;have p8:=run_storeCells_cells (P:=P) hm.blk (i * c.es+o) u.cells.toList 0 w (λj hj=>by
     simp only [World.cell?,q4]
     simp only [abe,Bool.false_eq_true,if_false,aau]
     rw[aaQ (by omega)];rfl) (λj hj=>by
     simp only [World.frozen?,q4,aau]
     cases hx:(decide (fr.1<=i * c.es+o+j) && decide (i * c.es+o+j<fr.2)) with
     |false=>rfl
     |true=>simp only [Bool.and_eq_true,decide_eq_true_eq] at hx;exact(q7 _ (by omega) hx.1 hx.2).elim) (hl.ones ab0)
    rw[aau] at p8;have hG3:Good w0 ρ (b7.h.set b (.grow c' g ty)) (w.setCells hm.blk (i * c.es+o) u.cells.toList):=by
     refine b9.turn (hrs:=⟨b,g,hm,hh,rfl⟩) G' c8 hm.blk q3 (Kept.of_set (s7 0 (aaq _)) s5 q3) (by omega) (λx hx _=>s5 x hx) (λb' g' h' j4 e'=>(hG.inj _ _ _ _ _ _ j4 hh e').1) ?_;refine .inr ⟨hm,hh,q2,q3,p7,fr,s1,by omega,by rw[u1,u2];exact q6,q7,λi' hi'=>?_⟩;rw[u1] at hi';rw[u2];by_cases e:i'=i
     ·subst e;refine ny (λj a ha=>?_) (u4 ρ);have hrl:=c.row_len i';have hj:j<c.es:=by
       rcases aah j c.es with h'|h'
       ·exact h'
       ·rw[aam (by simp;omega)] at ha;cases ha
      by_cases hj1:j<o
      ·rw[aaw,aaD (by simp;omega),aav hj1] at ha;obtain⟨uu,v1,v2⟩:=q8 i' hin j a ha;exact⟨uu,by rw[s4 _ (.inl (by omega))];exact v1,v2⟩
      ·by_cases hj2:j<o+l.length
       ·rw[aaw,aaA (by simp;omega),aaD (by simp;omega)] at ha;have ha:l[j-o]? =some a:=by rw[←ha];congr 1;simp;omega
        obtain⟨uu,v1,v2⟩:=hl.get ha;refine⟨uu, ?_,v2⟩;have hjl:j-o<u.cells.toList.length:=by
         rcases aah (j-o) u.cells.toList.length with h'|h'
         ·exact h'
         ·rw[aam h'] at v1;cases v1
        have:=s3 (j-o) hjl;rw[show i' * c.es+j=i' * c.es+o+(j-o) by omega,this];exact v1
       ·rw[aaA (by simp;omega),aaz] at ha;have ha:(c.row i')[j]? =some a:=by rw[←ha];congr 1;simp;omega
        obtain⟨uu,v1,v2⟩:=q8 i' hin j a ha;exact⟨uu,by rw[s4 _ (.inr (by rw[hcl];omega))];exact v1,v2⟩
     ·rw[u3 i' e];intro j a ha;obtain⟨uu,v1,v2⟩:=q8 i' hi' j a ha;have hj:j<c.es:=by
       have:=c.row_len i';rcases aah j c.es with h'|h'
       ·exact h'
       ·rw[aam (by omega)] at ha;cases ha
      refine⟨uu, ?_,v2⟩;rw[s4 _ ?_]
      ·exact v1
      ·rw[hcl];rcases Nat.lt_or_gt_of_ne e with e|e
       ·left;have:i' * c.es+c.es<=i * c.es:=by rw[←aaM];exact aaB _ e
        omega
       ·right;have:i * c.es+c.es<=i' * c.es:=by rw[←aaM];exact aaB _ e
        omega
    refine⟨d8,_,z6,f9,by rw[e2];exact hG3, ?_⟩;have T':u.cells.size=ii.size:=by rw[←aaN,hl.1];exact hlen
    simp only [Instr.storeAt,Instr.sureAddr,storeVar,aad,aaf,aaj,aB hi,T',ne_eq,not_true_eq_false,if_false];exact p8
  |_=>exact(ah hr).elim
 |_=>exact(ah hr).elim
end
end Go.Sym
namespace Go.Sym
open Go.RowKit (Below)
def up(off:Nat):∀(l:List Value) (j:Nat) (cs:Array Value),off+j+l.length<=cs.size->
 ((l.zipIdx j).foldl (λcs p=>cs.setIfInBounds (off+p.2) p.1) cs).size=cs.size/\
 ∀x,((l.zipIdx j).foldl (λcs p=>cs.setIfInBounds (off+p.2) p.1) cs)[x]? =if off+j<=x/\x<off+j+l.length then l[x-off-j]? else cs[x]? :=by
 intro l
 induction l with
 |nil=>intro j cs _;refine⟨rfl,λx=>?_⟩;simp;intro h1 h2;omega
 |cons a l ih=>
  intro j cs h
  simp only [aat] at h
  rw[List.zipIdx_cons,List.foldl_cons]
  obtain⟨h1,h2⟩:=ih (j+1) (cs.setIfInBounds (off+j) a) (by simp;omega)
  refine⟨by rw[h1];simp,λx=>?_⟩
  rw[h2 x,aaK]
  simp only [aat]
  by_cases e:x=off+j
  ·subst e;rw[if_neg (by omega),if_pos rfl,if_pos (by omega),if_pos (by omega)];simp
  ·by_cases e2:off+(j+1)<=x/\x<off+(j+1)+l.length
   ·rw[if_pos e2,if_pos (by omega),show x-off-j=(x-off-(j+1))+1 by omega];simp
   ·rw[if_neg e2,if_neg (by omega),if_neg (by omega)]
section
variable{P:Program}{w0:World}{ρ:Rho}{w:World}{σ:St}{K:Fin}{k:AV->Tr}
def C6{l cs:List AV}{arr:Array Value}{vs:Array Value}{off:Nat}(hl:LR ρ l arr.toList)(hc:LR ρ cs vs.toList)(hlen:off+cs.length<=l.length):
 LR ρ (dV l off cs) (vs.zipIdx.foldl (λcs (c,j)=>cs.setIfInBounds (off+j) c) arr).toList:=by
 have hn:vs.size=cs.length:=by have:=hc.1;simpa using this
 have hm:arr.size=l.length:=by have:=hl.1;simpa using this
 have e:vs.zipIdx.foldl (λcs (c,j)=>cs.setIfInBounds (off+j) c) arr=(vs.toList.zipIdx 0).foldl (λcs p=>cs.setIfInBounds (off+p.2) p.1) arr:=by rw[←Array.foldl_toList,Array.toList_zipIdx]
 rw[e]
 obtain⟨h1,h2⟩:=up off vs.toList 0 arr (by simp [hn,hm];omega)
 have aj3:(dV l off cs).length=l.length:=by simp [dV];omega
 refine⟨by rw[aj3];simp [h1,hm],λi a v ha hv=>?_⟩
 have hv:((vs.toList.zipIdx 0).foldl (λcs p=>cs.setIfInBounds (off+p.2) p.1) arr)[i]? =some v:=by simpa using hv
 rw[h2 i] at hv
 have hi:i<l.length:=by
  rcases aah i l.length with h'|h'
  ·exact h'
  ·rw[aam (by rw[aj3];exact h')] at ha;cases ha
 have hvl:vs.toList.length=cs.length:=by simp [hn]
 rw[hvl] at hv
 by_cases c1:i<off
 ·rw[if_neg (by omega)] at hv;have:(dV l off cs)[i]? =l[i]? :=by unfold dV;rw[aaw,aaD (by simp;omega),aa3,if_pos c1]
  rw[this] at ha;exact hl.2 i a v ha (by simpa using hv)
 ·by_cases c2:i<off+cs.length
  ·rw[if_pos (by omega)] at hv;have:(dV l off cs)[i]? =cs[i-off]? :=by unfold dV;rw[aaw,aaA (by simp;omega),aaD (by simp;omega)];congr 1;simp;omega
   rw[this] at ha;exact hc.2 (i-off) a v ha (by simpa using hv)
  ·rw[if_neg (by omega)] at hv;have:(dV l off cs)[i]? =l[i]? :=by unfold dV;rw[aaA (by simp;omega)];rw[aaz];congr 1;simp;omega
   rw[this] at ha;exact hl.2 i a v ha (by simpa using hv)
def Lo{place:Nat->Option (Nat×Nat)}:∀(parts:List (Nat×AV)) (ps:List (Nat×Value)) (cells:List AV) (arr:Array Value) (k:List AV->Tr),parts.map (·.1)=ps.map (·.1)->LR ρ (parts.map (·.2)) (ps.map (·.2))->LR ρ cells arr.toList->
 run (zL place cells parts k) σ K=true->∃l p7,run (k l) σ K=true/\LR ρ l p7.toList/\Instr.fill place arr ps=some p7:=by
 intro parts
 induction parts with
 |nil=>
  intro ps cells arr k h1 h2 hl h
  have:ps= []:=by cases ps <;> simp at h1⊢
  subst this
  exact⟨cells,arr,h,hl,rfl⟩
 |cons p parts ih=>
  intro ps cells arr k h1 h2 hl h
  cases ps with
  |nil=>simp at h1
  |cons q ps=>
   simp only [aax,List.cons.injEq] at h1
   obtain⟨h1a,h1b⟩:=h1
   simp only [aax] at h2
   obtain⟨v,E',e,hv,h2'⟩:=h2.cons_inv
   injection e with e1 e2
   subst e1;subst e2
   have h:run (du (place p.1) .fail λq=>iq p.2 λcs=>ac (Nat.beq cs.length q.2) (ac (Nat.ble (q.1+q.2) cells.length) (ir (dV cells q.1 cs) λcells=>zL place cells parts k) .fail) .fail) σ K=true:=h
   obtain⟨pl,hpl,h⟩:=ce h
   obtain⟨cs,hcs,h⟩:=iu hv h
   obtain⟨hb1,h⟩:=ay h
   obtain⟨hb2,h⟩:=ay h
   have hb1:=aM hb1
   have hb2:=bU hb2
   have hn:q.2.cells.size=cs.length:=by have:=hcs.1;simpa using this
   have hm:arr.size=cells.length:=by have:=hl.1;simpa using this
   obtain⟨l,p7,r1,r2,r3⟩:=ih ps _ _ k h1b h2' (C6 (off:=pl.1) hl hcs (by omega)) (gY h)
   refine⟨l,p7,r1,r2, ?_⟩
   obtain⟨qi,qv⟩:=q
   obtain⟨off,size⟩:=pl
   simp only at h1a hb1 hb2 hn⊢
   simp only [Instr.fill, ←h1a,hpl]
   rw[if_neg]
   ·exact r3
   ·simp;omega
def C7(fs:Array Field)(h:qF P fs=true):∃pl:Array (Nat×Nat),(fs.mapM λf=>do pure (f.offset, ←sizeOf f.type):Sem (Array (Nat×Nat))).run P w= .ok pl w/\∀i,pl[i]? =wW P fs i:=by
 refine⟨(fs.toList.map λf=>(f.offset,((P.info? f.type).map (·.size)).getD 0)).toArray, ?_,λi=>?_⟩
 ·rw[Array.mapM_eq_mapM_toList,Sem.run_map];have key:∀l:List Field,(∀f∈l,(P.info? f.type).isSome=true)->(l.mapM λf=>do pure (f.offset, ←sizeOf f.type):Sem (List (Nat×Nat))).run P w= .ok (l.map λf=>(f.offset,((P.info? f.type).map (·.size)).getD 0)) w:=by
   intro l
   induction l with
   |nil=>intro _;rfl
   |cons f l ih=>
    intro hl
    have hf:=hl f (by simp)
    cases hi:P.info? f.type with
    |none=>rw[hi] at hf;cases hf
    |some i=>rw[List.mapM_cons];simp only [aad,aB hi,aaj,aaf,ih (λx hx=>hl x (by simp [hx]))];simp [hi]
  rw[key fs.toList (λf hf=>by simp only [qF,abk] at h;exact h f hf)];rfl
 ·simp only [wW,aa7,aaO,aa0]
  cases hf:fs[i]? with
  |none=>rfl
  |some f=>
   simp only [aa1]
   have:(P.info? f.type).isSome=true:=by simp only [qF,abk] at h;exact h f (abn (by simpa using hf))
   cases hi:P.info? f.type with
   |none=>rw[hi] at this;cases this
   |some x=>rfl
def Lp{t:TypeId}{parts:List (Nat×AV)}{ps:Array (Nat×Value)}(hS:SI σ)(hG:Good w0 ρ σ.h w)(h1:parts.map (·.1)=ps.toList.map (·.1))(h2:LR ρ (parts.map (·.2)) (ps.toList.map (·.2)))(h:run (KI P t parts k) σ K=true):Res P w0 ρ w k K (Instr.build t ps):=by
 obtain⟨z,zv,i,hi,hz,hzr,h⟩:=Aa ρ w h
 obtain⟨d,hu,h⟩:=cL h
 cases d with
 |struct fs=>
  obtain⟨hs,h⟩:=ay h
  obtain⟨zl,hzl,h⟩:=iu hzr h
  obtain⟨l,arr,r1,r2,r3⟩:=Lo parts ps.toList zl zv.cells _ h1 h2 hzl h
  obtain⟨pl,p1,p2⟩:=C7 (P:=P) (w:=w) fs hs
  refine .plain r1 hS hG (VR.agg l arr r2.arr.1 r2.arr.2) ?_
  have e:(λx=>pl[x]?)=wW P fs:=funext p2
  simp only [Instr.build,aad,hz,aaj,run_underlying hu,p1]
  rw[e,r3]
  rfl
 |array n e=>
  obtain⟨j,hj,h⟩:=cG h
  obtain⟨zl,hzl,h⟩:=iu hzr h
  obtain⟨l,arr,r1,r2,r3⟩:=Lo parts ps.toList zl zv.cells _ h1 h2 hzl h
  refine .plain r1 hS hG (VR.agg l arr r2.arr.1 r2.arr.2) ?_
  simp only [Instr.build,aad,hz,aaj,run_underlying hu,aB hj]
  rw[r3]
  rfl
 |_=>exact(ah h).elim
def rP(z:List AV)(n:Nat):(dW z n).length=n * z.length:=by
 induction n with
 |zero=>simp [dW]
 |succ n ih=>simp [dW,ih,aaM];omega
def It{z:List AV}{zv:Array Value}(hz:LR ρ z zv.toList)(l8:1<=z.length)(n:Nat):LR ρ (dW z n) ((Array.range (n * z.length)).map λi=>zv[i%zv.size]!).toList:=by
 have hs:zv.size=z.length:=by have:=hz.1;simpa using this
 refine⟨by simp [rP],λi a v ha hv=>?_⟩;have hi:i<n * z.length:=by
  rcases aah i (n * z.length) with h'|h'
  ·exact h'
  ·rw[aam (by rw[rP];exact h')] at ha;cases ha
 have key:∀(n i:Nat),i<n * z.length->(dW z n)[i]? =z[i%z.length]? :=by
  intro n
  induction n with
  |zero=>intro i hi;simp at hi
  |succ n ih=>
   intro i hi;simp only [dW];by_cases c:i<z.length
   ·rw[aaD c,aa_ c]
   ·rw[aaA (by omega),ih _ (by rw[aaM] at hi;omega)];congr 1;rw[Nat.mod_eq_sub_mod (by omega:i≥z.length)]
 rw[key n i hi] at ha;have hv:zv[i%zv.size]! =v:=by simp [hi] at hv;exact hv
 have c9:i%zv.size<zv.size:=Nat.mod_lt _ (by omega);refine hz.2 (i%z.length) a v ha ?_;rw[←hs];simp only [aa0];rw[←hv,getElem!_pos zv _ c9,aaQ c9]
def uq{t:TypeId}{len:Nat}{parts:List (Nat×AV)}{ps:Array (Nat×Value)}(hS:SI σ)(hG:Good w0 ρ σ.h w)(h1:parts.map (·.1)=ps.toList.map (·.1))(h2:LR ρ (parts.map (·.2)) (ps.toList.map (·.2)))(h:run (pS P t len parts k) σ K=true):Res P w0 ρ w k K (Instr.buildSlice t len ps):=by
 obtain⟨d,hu,h⟩:=cL h
 cases d with
 |slice e=>
  obtain⟨j,hj,h⟩:=cG h
  obtain⟨hb,h⟩:=ay h
  obtain⟨hb1,h⟩:=ay h
  have hb:=bU hb
  have hb1:=bU hb1
  obtain⟨z,zv,i,hi,hz,hzr,h⟩:=Aa ρ w h
  obtain⟨zl,hzl,h⟩:=iu hzr h
  obtain⟨hb2,h⟩:=ay h
  have hb2:=aM hb2
  have an0:=It hzl (by omega) len
  rw[hb2] at an0
  obtain⟨zero,c7,an1⟩:∃zero:Array Value,(if len * j.size=0 then pure #[] else do pure (←zeroValue e).cells:Sem (Array Value)).run P w= .ok zero w/\LR ρ (dW zl len) ((Array.range (len * j.size)).map λi=>zero[i%zero.size]!).toList:=by
   by_cases e0:len * j.size=0
   ·have:len=0:=by
     rcases Nat.mul_eq_zero.mp e0 with h'|h'
     ·exact h'
     ·omega
    subst this;refine⟨#[],by rw[if_pos e0];rfl, ?_⟩;simp [dW];exact LR.nil ρ
   ·exact⟨zv.cells,by rw[if_neg e0];simp [hz],an0⟩
  obtain⟨l,arr,r1,r2,r3⟩:=Lo parts ps.toList (dW zl len) _ _ h1 h2 an1 h
  obtain⟨q1,q2⟩:=LR.to_arr r2
  obtain⟨b,a9,h5,r9,hle,j9⟩:=pe arr e hS hG q1 q2 r1
  refine⟨_,a9,_,_,_,h5,r9,j9,hle,VR.slc b 0 0 len (some len) j.size _ len ⟨aac _,rfl,_,Rho.put_at _ _ _ _,aaq _,rfl⟩, ?_⟩
  simp only [Instr.buildSlice,aad,run_underlying hu,aaj,aB hj]
  rw[if_neg (by omega)]
  by_cases e0:len * j.size=0
  ·rw[if_pos e0] at c7⊢;rw[aad,c7];simp only [aaj,r3];simp [newRow]
  ·rw[if_neg e0] at c7⊢;have hz0:zv.cells=zero:=by simpa [hz] using c7
   subst hz0;simp only [aad,hz,aaj,aaf,r3];simp [newRow]
 |_=>exact(ah h).elim
end
end Go.Sym
namespace Go.Sym
open Go.RowKit (Below)
def az{α β:Type}{o:Option α}{k:α->Option β}{b:β}(h:bx o k=some b):∃a,o=some a/\k a=some b:=by
 cases o with
 |none=>cases h
 |some a=>exact⟨a,rfl,h⟩
def bc{α:Type}{c:Bool}{o:Option α}{b:α}(h:ac c o none=some b):c=true/\o=some b:=by
 cases c with
 |true=>exact⟨rfl,h⟩
 |false=>cases h
def WA{α:Type}{c:Bool}{o:Option α}{b:α}(h:ac c none o=some b):c=false/\o=some b:=by
 cases c with
 |false=>exact⟨rfl,h⟩
 |true=>cases h
def nA{α β:Type}{t:T α}{n:Nat}{k:α->Option β}{b:β}(h:T.getK t n none k=some b):∃a,t.get n=some a/\k a=some b:=by
 rw[T.getK_eq] at h;split at h
 ·cases h
 ·exact⟨_,by assumption,h⟩
def rQ{c:T Cell}{g:Nat}:∀{n o:Nat} {l:List AV},QN c g n o=some l->l.length=n/\∀(j:Nat) (a:AV),l[j]? =some a->∃tag,c.get (o+j)=some (.mk tag a)/\tag<=g:=by
 intro n
 induction n with
 |zero=>intro o l h;injection h with h;subst h;exact⟨rfl,by simp⟩
 |succ n ih=>
  intro o l h
  replace h:=nA h;obtain⟨x,hx,h⟩:=h
  cases x with
  |mk tag v=>
   replace h:=bc h;obtain⟨ht,h⟩:=h
   rw[rx] at h
   obtain⟨l',h1,h2⟩:=az h
   injection h2 with h2
   subst h2
   obtain⟨q1,q2⟩:=ih h1
   refine⟨by simp [q1],λj a ha=>?_⟩
   cases j with
   |zero=>simp at ha;subst ha;exact⟨tag,hx,aay ht⟩
   |succ j=>simp at ha;obtain⟨ae3,r1,r2⟩:=q2 j a ha;exact⟨ae3,by rw[←r1];congr 1;omega,r2⟩
def js{ρ:Rho}{B b g:Nat}{w:World}{ct:Ct}{v:Value}(hb:BR ρ B w b (.froz ct g))(hv:VR ρ (.gsl b g ct.len ct.es) v):VR ρ (.cv ct) v:=by
 generalize hnn:ct.len=nn at hv
 generalize hee:ct.es=ee at hv
 cases hv with
 |gnil _ _ _=>exact .cvnil _ hnn
 |gempty _ _ _ a=>exact .cvempty _ a hnn
 |gsl _ _ _ _ h c hn hh hs hc hz=>
  subst hnn;subst hee;rcases hb with h0|⟨h',arr,ty,r1,r2,r3,r4,r5⟩
  ·omega
  rw[hh] at r1;injection r1 with r1;subst r1;refine .cv ct h.blk 0 c arr ty r3 hc (by omega) λi j a v hi ha hv=>?_;obtain⟨u,u1,u2⟩:=r5 i hi j a ha;rw[aap,u1] at hv;injection hv with hv;subst hv;exact u2
section
variable{P:Program}{w0:World}{ρ:Rho}{w:World}{σ:St}{K:Fin}
def Good.none_new{H:T ABlk}(hG:Good w0 ρ H w){n:Nat}(hn:H.get n=none)(c8:n+1<2 ^ 64){ct:Ct}{g ty:Nat}(h0:ct.len=0):Good w0 ρ (H.set n (.grow ct g ty)) w:=by
 have o7:∀g h,ρ.at_ n g≠some h:=λg h hh=>by obtain⟨_,X,hX⟩:=hG.dom _ _ _ hh;rw[hn] at hX;cases hX
 refine⟨⟨hG.below,λb X hX=>?_,λb g h hh=>?_,hG.inj,λb g h X hh hX=>?_,λb arr ty hf=>⟨(hG.frz b arr ty hf).1,λb' g' h hh e=>?_⟩,hG.frzB,λb k I l hX g h hh=>?_⟩,hG.ownB⟩
 ·by_cases e:b=n
  ·subst e;rw[T.get_set_same _ _ _ c8] at hX;injection hX with hX;subst hX;exact .inl h0
  ·rw[T.get_set_ne _ e] at hX;exact hG.blk _ _ hX
 ·obtain⟨q1,X,q2⟩:=hG.dom _ _ _ hh;refine⟨q1,X, ?_⟩;rw[T.get_set_ne _ (λe=>by subst e;exact o7 _ _ hh)];exact q2
 ·rw[T.get_set_ne _ (λe=>by subst e;exact o7 _ _ hh)] at hX;exact hG.gens _ _ _ _ hh hX
 ·obtain⟨X,q1,q2⟩:=(hG.frz b arr ty hf).2 _ _ _ hh e;exact⟨X,by rw[T.get_set_ne _ (λe=>by subst e;exact o7 _ _ hh)];exact q1,q2⟩
 ·rw[T.get_set_ne _ (λe=>by subst e;exact o7 _ _ hh)] at hX;exact hG.objO _ _ _ _ hX _ _ hh
def iN{b:Nat}:∀{loc:List (Nat×Nat×Nat)} {x:Nat×Nat×Nat},x∈loc->x.2.1=b->kE b loc=false:=by
 intro loc
 induction loc with
 |nil=>intro x h;cases h
 |cons z l ih=>
  intro x h e;show ac (Nat.beq z.2.1 b) false (kE b l)=false;rw[ar];split
  ·rfl
  ·rename_i hz;rcases List.mem_cons.1 h with h|h
   ·subst h;exact absurd (by rw[e];exact abo _) hz
   ·exact ih h e
def Stays(loc:List (Nat×Nat×Nat))(H H':T ABlk):Prop:=∀b X,(∃x,x∈loc/\x.2.1=b)->H.get b=some X->H'.get b=some X
def Stays.refl(loc:List (Nat×Nat×Nat))(H:T ABlk):Stays loc H H:=λ_ _ _ h=>h
def Stays.trans{loc:List (Nat×Nat×Nat)}{a b c:T ABlk}(h:Stays loc a b)(h':Stays loc b c):Stays loc a c:=λx X q r=>h' x X q (h x X q r)
def Fd{loc:List (Nat×Nat×Nat)}{b g o len es:Nat}{cap:Option Nat}{rows:Nat->List AV->(Ct->Nat->Tr)->Tr}{k:Ct->Nat->Tr}(hS:SI σ)(hG:Good w0 ρ σ.h w)(ad9:∀(ty0:Nat) (as:List AV) (kk:Ct->Nat->Tr) (a9:St),run (rows ty0 as kk) a9 K=true->∃ct ty,run (kk ct ty) a9 K=true/\(as.length=ct.len * ct.es->∀i,i<ct.len->∀(ρ:Rho) (vs:List Value),LR ρ ((as.drop (i * ct.es)).take ct.es) vs->LR ρ (ct.row i) vs))(h:run (Q2 loc b g o len cap es rows k) σ K=true):
 ∃ct ty b7,run (k ct ty) b7 K=true/\SI b7/\b7.h=σ.h/\b+1<2 ^ 64/\kE b loc=true/\ct.len=len/\ct.es=es/\Good w0 ρ (σ.h.set b (.grow ct g ty)) w/\∀ρ2,ρ.le ρ2->∀v,VR ρ2 (.slc b g o len cap es) v->VR ρ2 (.gsl b g len es) v:=by
 have c8:=di hS h
 obtain⟨q,b7,hq,e1,b6,z0⟩:=bE hS h
 cases q with
 |cells c gen lo hi fl fh ro ty=>
  obtain⟨k0,z1⟩:=rJ z0
  obtain⟨k1,z2⟩:=ay z1
  obtain⟨k2,z3⟩:=ay z2
  obtain⟨k3,z4⟩:=ay z3
  obtain⟨k4,z5⟩:=ay z4
  obtain⟨k5,z6⟩:=ay z5
  obtain⟨k6,z7⟩:=ay z6
  obtain⟨k7,z8⟩:=ay z7
  obtain⟨k8,z9⟩:=ay z8
  clear z0 z1 z2 z3 z4 z5 z6 z7 z8 h
  obtain⟨as,hl,za⟩:=ce z9
  obtain⟨ct,ty',zb,hct⟩:=ad9 _ _ _ _ za
  obtain⟨k9,zc⟩:=ay zb
  obtain⟨k10,zd⟩:=ay zc
  obtain⟨k11,ze⟩:=aP zd
  clear za zb zc zd z9
  have k1:=aM k1
  have k2:=aM k2
  have k3:=aM k3
  have k4:=aM k4
  have k5:=aM k5
  have k6:=aM k6
  have k7:=bU k7
  obtain⟨k8a,k8⟩:=aD k8
  obtain⟨k8c,k8b⟩:=aD k8
  have k8c:=bU k8c
  have k8b:=bU k8b
  have k9:=aM k9
  have k10:=aM k10
  subst k0 k1 k2 k3 k4 k6 k9
  obtain⟨hm,r1,r2,_,arr,fr,r3,r4,r5,r6⟩:=(hG.blk _ _ hq).2 gen (aac _)
  obtain⟨l1,l2⟩:=rQ hl
  have j5:∀j,j<lT cap len * es->∃a u,as[j]? =some a/\arr[j-hm.shift]? =some u/\VR ρ a u/\hm.shift<=j:=λj hj=>by have ha:as[j]? =some (as[j]'(by omega)):=aak (by omega);obtain⟨tag,t1,t2⟩:=l2 j _ ha;rw[aap] at t1;obtain⟨s1,u,s2,s3⟩:=r6 _ _ _ t1 t2;exact⟨_,u,ha,s2,s3,s1⟩
  have hle:len * es<=lT cap len * es:=aaB _ k8b
  have an2:(as.take (len * es)).length=ct.len * ct.es:=by rw[aao,l1,k10,k11];omega
  have hzp:0<lT cap len * es:=Nat.mul_pos (by omega) k8c
  have hsh:hm.shift=0:=by obtain⟨a,u,_,_,_,q⟩:=j5 0 hzp;omega
  have l7:Good w0 ρ (σ.h.set b (.grow ct gen ty)) w:=by
   refine hG.turn (hrs:=⟨b,gen,hm,r1,rfl⟩) hq c8 hm.blk (r2 rfl) (Kept.refl _ _ _) (aac _) (λ_ _ _=>rfl) (λb' g' h' j4 e'=>(hG.inj _ _ _ _ _ _ j4 r1 e').1) (.inr ⟨hm,r1,hsh,r2 rfl,arr,fr,r3,r4, ?_,λx hx h1 h2=>?_,λi hi j a ha=>?_⟩)
   ·rw[k10,k11];obtain⟨a,u,_,hu,_⟩:=j5 (lT cap len * es-1) (by omega);rcases aah (lT cap len * es-1-hm.shift) arr.size with h'|h'
    ·omega
    ·rw[aaV h'] at hu;cases hu
   ·have:=(r5 rfl).2 x (.inl hx) h1 h2;omega
   ·have ae4:i * ct.es+ct.es<=ct.len * ct.es:=by rw[←aaM];exact aaB _ hi
    rw[k10,k11] at ae4;have ad5:∀q a0,(((as.take (len * es)).drop (i * ct.es)).take ct.es)[q]? =some a0->∃u,arr[i * ct.es+q]? =some u/\VR ρ a0 u:=λq a0 hq=>by
     rw[aa3] at hq;split at hq
     ·rename_i hqe;rw[aaz,aav (by rw[k10] at hqe⊢;omega)] at hq;obtain⟨a1,u,f1,f2,f3,_⟩:=j5 (i * ct.es+q) (by rw[k10] at hqe⊢;omega);rw[hq] at f1;injection f1 with f1;subst f1;rw[hsh,abp] at f2;exact⟨u,f2,f3⟩
     ·cases hq
    exact ny (A:=λq=>arr[i * ct.es+q]?) ad5 (λvs=>hct an2 i hi ρ vs) j a ha
  refine⟨ct,ty,b7,ze,b6,e1,c8,k8a,k11,k10,l7,λρ2 j6 v hv=>?_⟩
  ·cases hv with
   |slc _ _ _ _ _ _ ad cp V'=>
    obtain⟨hlc,ab4⟩:=V'
    cases cap with
    |some kc=>
     obtain⟨ek,h',x1,x2,x3⟩:=ab4;rw[j6.at_ _ _ _ r1] at x1;injection x1 with x1;subst x1;subst x3;rw[hsh];refine .gsl _ _ _ _ hm cp (by omega) (j6.at_ _ _ _ r1) hsh hlc ?_;rw[ek];obtain⟨a,u,_,hu,_⟩:=j5 (lT (some kc) len * es-1) (by omega);rw[←r4];rcases aah (lT (some kc) len * es-1-hm.shift) arr.size with h'|h'
     ·show kc * es<=arr.size;have:lT (some kc) len=kc:=rfl;rw[this] at h' hzp;omega
     ·rw[aaV h'] at hu;cases hu
    |none=>
     rcases ab4 with ab4|⟨h',x1,x2,x3,x4⟩
     ·omega
     ·rw[j6.at_ _ _ _ r1] at x1;injection x1 with x1;subst x1;subst x3;rw[hsh];exact .gsl _ _ _ _ hm cp (by omega) (j6.at_ _ _ _ r1) hsh hlc (by omega)
 |_=>exact(ah z0).elim
def dZ{loc:List (Nat×Nat×Nat)}{b g o len es:Nat}{cap:Option Nat}{rows:Nat->List AV->(Ct->Nat->Tr)->Tr}{k:AV->Tr}(hS:SI σ)(hG:Good w0 ρ σ.h w)(ad9:∀(ty0:Nat) (as:List AV) (kk:Ct->Nat->Tr) (a9:St),run (rows ty0 as kk) a9 K=true->∃ct ty,run (kk ct ty) a9 K=true/\(as.length=ct.len * ct.es->∀i,i<ct.len->∀(ρ:Rho) (vs:List Value),LR ρ ((as.drop (i * ct.es)).take ct.es) vs->LR ρ (ct.row i) vs))(h:run (oS loc b g o len cap es rows k) σ K=true):
 ∃a9,run (k (.gsl b g len es)) a9 K=true/\SI a9/\Good w0 ρ a9.h w/\Stays loc σ.h a9.h/\∀ρ2,ρ.le ρ2->∀v,VR ρ2 (.slc b g o len cap es) v->VR ρ2 (.gsl b g len es) v:=by
 obtain⟨ct,ty,b7,h1,b6,e1,c8,k8a,_,_,l7,hv⟩:=Fd hS hG ad9 h
 obtain⟨x0,d8,hx0,e2,f9,_,z⟩:=fw b6 h1
 refine⟨d8,z,f9,by rw[e2,e1];exact l7,λb' X hf hX=>?_,hv⟩
 obtain⟨x,hx1,Z'⟩:=hf
 rw[e2,T.get_set_ne _ (λe=>by subst e;rw[iN hx1 Z'] at k8a;cases k8a),e1];exact hX
def Good.freeze{H:T ABlk}(hG:Good w0 ρ H w){b g ty:Nat}{c:Ct}(hb:H.get b=some (.grow c g ty))(c8:b+1<2 ^ 64)(hlo:base+64<=b):
 ∃ρ':Rho,ρ.le ρ'/\Good w0 ρ' (H.set b (.froz c g)) w/\∀ρ2,ρ'.le ρ2->∀v,VR ρ2 (.gsl b g c.len c.es) v->VR ρ2 (.cv c) v:=by
 have l6:(H.set b (.froz c g)).get b=some (.froz c g):=T.get_set_same _ _ _ c8
 have an3:∀b' g' h,ρ.at_ b' g'=some h->h.blk<w.heap.size/\∃x,(H.set b (.froz c g)).get b'=some x:=λb' g' h hh=>by
  obtain⟨q1,X,q2⟩:=hG.dom _ _ _ hh;refine⟨q1, ?_⟩;by_cases e:b'=b
  ·subst e;exact⟨_,l6⟩
  ·exact⟨X,by rw[T.get_set_ne _ e];exact q2⟩
 have aj4:∀b' g' h X,ρ.at_ b' g'=some h->(H.set b (.froz c g)).get b'=some X->Ky g' X:=λb' g' h X hh hX=>by
  by_cases e:b'=b
  ·subst e;rw[l6] at hX;injection hX with hX;subst hX;have:=hG.gens _ _ _ _ hh hb;exact(this:g'<=g)
  ·rw[T.get_set_ne _ e] at hX;exact hG.gens _ _ _ _ hh hX
 have aj5:∀b0 arr ty,ρ.frz b0=some (arr,ty)->∀b' g' h,ρ.at_ b' g'=some h->h.blk=b0->∃x,(H.set b (.froz c g)).get b'=some x/\zH x:=λb0 arr ty hf b' g' h hh e=>by
  by_cases e':b'=b
  ·subst e';exact⟨_,l6,trivial⟩
  ·obtain⟨X,q1,q2⟩:=(hG.frz _ _ _ hf).2 _ _ _ hh e;exact⟨X,by rw[T.get_set_ne _ e'];exact q1,q2⟩
 have ab8:∀b' k I l,(H.set b (.froz c g)).get b'=some (.obj k I l)->∀g' h,ρ.at_ b' g'=some h->Own ρ w0.heap.size h.blk/\(g'=0∨g'=h.blk+1):=λb' k I l hX g' h hh=>by
  by_cases e:b'=b
  ·subst e;rw[l6] at hX;injection hX with hX;cases hX
  ·rw[T.get_set_ne _ e] at hX;exact hG.objO _ _ _ _ hX _ _ hh
 rcases hG.blk _ _ hb with h0|⟨h,r1,r2,r3,arr,fr,r4,r5,r6,r7,r8⟩
 ·refine⟨ρ,.refl _,⟨⟨hG.below,λb' X hX=>?_,an3,hG.inj,aj4,λb0 arr ty hf=>⟨(hG.frz _ _ _ hf).1,aj5 _ _ _ hf⟩,hG.frzB,ab8⟩,hG.ownB⟩,λρ2 _ v hv=>js (B:=w0.heap.size) (w:=w) (.inl h0) hv⟩;by_cases e:b'=b
  ·subst e;rw[l6] at hX;injection hX with hX;subst hX;exact .inl h0
  ·rw[T.get_set_ne _ e] at hX;exact hG.blk _ _ hX
 ·let ρ':Rho:=⟨ρ.at_,ρ.val,ρ.own,λx=>if x=h.blk then some (arr,ty) else ρ.frz x,ρ.frz0⟩
  have hnf:ρ.frz h.blk=none:=by
   cases hf:ρ.frz h.blk with
   |none=>rfl
   |some x=>exact absurd rfl (hG.frzE (show ρ.frz h.blk=some (x.1,x.2) from hf) r1 hb (λh=>h))
  have hle:ρ.le ρ':=⟨λ_ _ _ h=>h,rfl,rfl,λb0 x hx=>by show(if b0=h.blk then some (arr,ty) else ρ.frz b0)=some x;rw[if_neg (λe=>by subst e;rw[hnf] at hx;cases hx)];exact hx,rfl⟩
  have hbr:BR ρ' w0.heap.size w b (.froz c g):=.inr ⟨h,arr,ty,r1,r2,if_pos rfl,by omega,λi hi j a ha=>by obtain⟨u,u1,u2⟩:=r8 i hi j a ha;exact⟨u,u1,u2.mono hle⟩⟩;refine⟨ρ',hle,⟨⟨hG.below,λb' X hX=>?_,an3,hG.inj,aj4,λb0 p7 ty' hf=>?_,λb0 x hf c9=>?_,ab8⟩,hG.ownB⟩,λρ2 j6 v hv=>js (hbr.keep (w':=w) j6 λ_ _ _=>rfl) hv⟩
  ·by_cases e:b'=b
   ·subst e;rw[l6] at hX;injection hX with hX;subst hX;exact hbr
   ·rw[T.get_set_ne _ e] at hX;exact(hG.blk _ _ hX).keep hle λ_ _ _=>rfl
  ·have hf:(if b0=h.blk then some (arr,ty) else ρ.frz b0)=some (p7,ty'):=hf;split at hf
   ·rename_i e0;injection hf with hf;injection hf with e1 e2;subst e0;subst e1;subst e2;refine⟨⟨fr,r4⟩,λb' g' h' hh e=>?_⟩;have:=(hG.inj _ _ _ _ _ _ hh r1 e).1;subst this;exact⟨_,l6,trivial⟩
   ·exact⟨(hG.frz _ _ _ hf).1,aj5 _ _ _ hf⟩
  ·have hf:(if b0=h.blk then some (arr,ty) else ρ.frz b0)=some x:=hf;split at hf
   ·rename_i e0;subst e0;rcases r3 with r3|r3
    ·omega
    ·obtain⟨b1,g1,h1,q1,q2,q3⟩:=hG.ownB _ r3;have:=(hG.inj _ _ _ _ _ _ q2 r1 q3).1;omega
   ·exact hG.frzB _ _ hf c9
def Good.none_turn{H:T ABlk}(hG:Good w0 ρ H w){b:Nat}{x0:ABlk}(hb:H.get b=some x0)(c8:b+1<2 ^ 64){ct:Ct}{g ty:Nat}(h0:ct.len=0)(ac1:∀g',Ky g' x0->g'<=g)(hnf:¬zH x0):Good w0 ρ (H.set b (.grow ct g ty)) w:=by
 have l6:(H.set b (.grow ct g ty)).get b=some (.grow ct g ty):=T.get_set_same _ _ _ c8;refine⟨⟨hG.below,λb' X hX=>?_,λb' g' h hh=>?_,hG.inj,λb' g' h X hh hX=>?_,λb0 arr ty hf=>⟨(hG.frz b0 arr ty hf).1,λb' g' h hh e=>?_⟩,hG.frzB,λb' k I l hX g' h hh=>?_⟩,hG.ownB⟩
 ·by_cases e:b'=b
  ·subst e;rw[l6] at hX;injection hX with hX;subst hX;exact .inl h0
  ·rw[T.get_set_ne _ e] at hX;exact hG.blk _ _ hX
 ·obtain⟨q1,X,q2⟩:=hG.dom _ _ _ hh;refine⟨q1, ?_⟩;by_cases e:b'=b
  ·subst e;exact⟨_,l6⟩
  ·exact⟨X,by rw[T.get_set_ne _ e];exact q2⟩
 ·by_cases e:b'=b
  ·subst e;rw[l6] at hX;injection hX with hX;subst hX;exact ac1 _ (hG.gens _ _ _ _ hh hb)
  ·rw[T.get_set_ne _ e] at hX;exact hG.gens _ _ _ _ hh hX
 ·obtain⟨X,q1,q2⟩:=(hG.frz b0 arr ty hf).2 _ _ _ hh e;exact⟨X,by rw[T.get_set_ne _ (λe=>by subst e;rw[hb] at q1;injection q1 with q1;subst q1;exact hnf q2)];exact q1,q2⟩
 ·by_cases e:b'=b
  ·subst e;rw[l6] at hX;injection hX with hX;cases hX
  ·rw[T.get_set_ne _ e] at hX;exact hG.objO _ _ _ _ hX _ _ hh
def kJ:∀(ty0:Nat) (as:List AV) (kk:Ct->Nat->Tr) (a9:St),run (rG ty0 as kk) a9 K=true->
 ∃ct ty,run (kk ct ty) a9 K=true/\(as.length=ct.len * ct.es->∀i,i<ct.len->∀(ρ:Rho) (vs:List Value),LR ρ ((as.drop (i * ct.es)).take ct.es) vs->LR ρ (ct.row i) vs):=by
 intro ty0 as kk a9 h
 replace h:=ce h;obtain⟨ns,hq,h⟩:=h
 replace h:=aP h;obtain⟨hnn,h⟩:=h
 obtain⟨f1,f2⟩:=nx _ _ hq
 refine⟨_,_,h,λhlen i hi ρ vs L'=>?_⟩
 have hal:as.length=(aI ns).length:=by rw[bQ,f1]
 have hi:i<(aI ns).length:=hi
 have hia:i<as.length:=by omega
 have hd:(as.drop (i * 1)).take 1= [as[i]]:=by rw[aaJ,aaX hia];rfl
 have L':LR ρ ((as.drop (i * 1)).take 1) vs:=L'
 rw[hd] at L'
 refine L'.one λv hv=>?_
 obtain⟨n',q1,q2⟩:=f2 i as[i] (aak hia)
 obtain⟨q3,q4⟩:=jr _ _ _ hnn q1
 rw[bo hv q2,aag,q3]
 show VR ρ (.sI .u8 ((n'.toNat:Nat):Int)) _
 rw[show((n'.toNat:Nat):Int)=n' by omega]
 exact .sI _ _
def iO{m len:Nat}:∀(ty0:Nat) (as:List AV) (kk:Ct->Nat->Tr) (a9:St),run (rF m len ty0 as kk) a9 K=true->
 ∃ct ty,run (kk ct ty) a9 K=true/\(as.length=ct.len * ct.es->∀i,i<ct.len->∀(ρ:Rho) (vs:List Value),LR ρ ((as.drop (i * ct.es)).take ct.es) vs->LR ρ (ct.row i) vs):=by
 intro ty0 as kk a9 h
 replace h:=ce h;obtain⟨q,hq,h⟩:=h
 split at h
 ·rename_i gs;obtain⟨c1,f1,f2,f3,f4⟩:=g_ _ _ _ _ hq;have f1:as=c1:=by simpa using f1
  subst f1;exact⟨_,_,h,λhlen i hi ρ vs=>f4 i (by rw[←f3];exact hi) ρ vs⟩
 ·exact(ah h).elim
def C8{e:TypeId}{len:Nat}{rows:Nat->List AV->(Ct->Nat->Tr)->Tr}(hr:qG P e len=some rows):∀(ty0:Nat) (as:List AV) (kk:Ct->Nat->Tr) (a9:St),run (rows ty0 as kk) a9 K=true->
 ∃ct ty,run (kk ct ty) a9 K=true/\(as.length=ct.len * ct.es->∀i,i<ct.len->∀(ρ:Rho) (vs:List Value),LR ρ ((as.drop (i * ct.es)).take ct.es) vs->LR ρ (ct.row i) vs):=by
 unfold qG at hr
 split at hr
 ·injection hr with hr;subst hr;exact kJ
 ·injection hr with hr;subst hr;exact iO
 ·injection hr with hr;subst hr;exact iO
 ·injection hr with hr;subst hr;exact iO
 ·cases hr
def Fe{x:AV}{v:Value}{kk:AV->Tr}(hS:SI σ)(hG:Good w0 ρ σ.h w)(hx:VR ρ x v)(h:run (Q3 x kk) σ K=true):∃x' a9,run (kk x') a9 K=true/\SI a9/\a9.h=σ.h/\VR ρ x' v:=by
 unfold Q3 at h;split at h
 ·rename_i b g o
  obtain⟨q,b7,hq,e1,b6,z⟩:=bE hS h
  clear h
  cases q with
  |grow c gen ty=>
   obtain⟨k1,z1⟩:=ay z
   obtain⟨k2,z2⟩:=ay z1
   obtain⟨k4,z3⟩:=aP z2
   clear z z1 z2
   have k1:=aM k1
   subst k1
   refine⟨_,b7,z3,b6,e1, ?_⟩
   cases hx with
   |ptr _ _ _ h0 hh ho=>
    rcases hG.blk _ _ hq with hz|⟨hm,r1,r2,_⟩
    ·omega
    rw[hh] at r1;injection r1 with r1;subst r1;have e:o-h0.shift=o * 1+0:=by omega
    rw[e];exact .gptr b g o 0 1 h0 hh r2
  |_=>exact⟨_,b7,z,b6,e1,hx⟩
 ·exact⟨_,σ,h,hS,rfl,hx⟩
def nB{x:AV}{v:Value}{kk:AV->Tr}(hS:SI σ)(hG:Good w0 ρ σ.h w)(hx:VR ρ x v)(h:run (rI x kk) σ K=true):∃x' a9,run (kk x') a9 K=true/\SI a9/\a9.h=σ.h/\VR ρ x' v:=by
 unfold rI at h;split at h
 ·obtain⟨q,b7,hq,e1,b6,z⟩:=bE hS h
  clear h
  cases q with
  |froz c gen=>obtain⟨k1,z1⟩:=ay z;obtain⟨k2,z2⟩:=ay z1;obtain⟨k4,z3⟩:=aP z2;clear z z1 z2;have k1:=aM k1;have k2:=aM k2;subst k1;subst k2;subst k4;exact⟨_,b7,z3,b6,e1,js (hG.blk _ _ hq) hx⟩
  |_=>exact⟨_,b7,z,b6,e1,hx⟩
 ·exact⟨_,σ,h,hS,rfl,hx⟩
def uZ:∀{l:List AV} {vs:List Value} {kk:List AV->Tr} {σ:St},SI σ->Good w0 ρ σ.h w->LR ρ l vs->run (oU l kk) σ K=true->∃l' a9,run (kk l') a9 K=true/\SI a9/\a9.h=σ.h/\LR ρ l' vs
 | [],vs,kk,σ,hS,hG,hl,h=>⟨[],σ,h,hS,rfl,hl⟩
 |a::l,vs,kk,σ,hS,hG,hl,h=>by obtain⟨v,E',rfl,hv,q9⟩:=hl.cons_inv;obtain⟨a',b7,h1,b6,e1,hv'⟩:=nB hS hG hv (show run (rI a λx=>oU l λl=>kk (x::l)) σ K=true from h);obtain⟨l2,d8,h2,f9,e2,hl2⟩:=uZ b6 (by rw[e1];exact hG) q9 h1;exact⟨_,d8,h2,f9,by rw[e2,e1],LR.cons hv' hl2⟩
def Ff{x:AV}{v:Value}{kk:AV->Tr}(hS:SI σ)(hG:Good w0 ρ σ.h w)(hx:VR ρ x v)(h:run (frz0 x kk) σ K=true):∃x' a9 ρ',run (kk x') a9 K=true/\SI a9/\Good w0 ρ' a9.h w/\ρ.le ρ'/\VR ρ' x' v:=by
 unfold frz0 at h;split at h
 ·rename_i b g n es
  have c8:=di hS h
  obtain⟨q,b7,hq,e1,b6,z⟩:=bE hS h
  have b9:Good w0 ρ b7.h w:=by rw[e1];exact hG
  have G':b7.h.get b=some q:=by rw[e1];exact hq
  clear h
  cases q with
  |grow c gen ty=>
   rcases bT z with⟨k0,z1⟩|⟨_,z1⟩
   ·obtain⟨k1,k3⟩:=aD k0;obtain⟨k1,k2⟩:=aD k1;obtain⟨k4,z2⟩:=aP z1;obtain⟨x0,d8,hx0,e2,f9,_,z3⟩:=fw b6 z2;have k1:=aM k1;have k2:=aM k2;have k3:=bU k3;subst k1;subst k2;subst k4;obtain⟨ρ',f1,f2,f3⟩:=b9.freeze G' c8 k3;exact⟨_,d8,ρ',z3,f9,by rw[e2];exact f2,f1,f3 ρ' (.refl _) v (hx.mono f1)⟩
   ·exact⟨_,b7,ρ,z1,b6,b9,.refl _,hx⟩
  |froz c gen=>obtain⟨k1,z1⟩:=ay z;obtain⟨k2,z2⟩:=ay z1;obtain⟨k4,z3⟩:=aP z2;have k1:=aM k1;have k2:=aM k2;subst k1;subst k2;subst k4;exact⟨_,b7,ρ,z3,b6,b9,.refl _,js (hG.blk _ _ hq) hx⟩
  |_=>exact⟨_,b7,ρ,z,b6,b9,.refl _,hx⟩
 ·exact⟨_,σ,ρ,h,hS,hG,.refl _,hx⟩
def Fg{x:AV}{v:Value}{kk:AV->Tr}(hS:SI σ)(hG:Good w0 ρ σ.h w)(hx:VR ρ x v)(h:run (K2 x kk) σ K=true):∃x' a9 ρ',run (kk x') a9 K=true/\SI a9/\Good w0 ρ' a9.h w/\ρ.le ρ'/\VR ρ' x' v:=by
 unfold K2 at h;split at h
 ·rcases bT h with⟨_,z⟩|⟨_,z⟩
  ·obtain⟨a9,z1,b6,b9,_,hv⟩:=dZ hS hG iO z;exact Ff b6 b9 (hv ρ (.refl _) v hx) z1
  ·exact⟨_,σ,ρ,z,hS,hG,.refl _,hx⟩
 ·exact Ff hS hG hx h
def Ac:∀{l:List AV} {vs:List Value} {kk:List AV->Tr} {σ:St} {ρ:Rho},SI σ->Good w0 ρ σ.h w->LR ρ l vs->run (K3 l kk) σ K=true->∃l' a9 ρ',run (kk l') a9 K=true/\SI a9/\Good w0 ρ' a9.h w/\ρ.le ρ'/\LR ρ' l' vs
 | [],vs,kk,σ,ρ,hS,hG,hl,h=>⟨[],σ,ρ,h,hS,hG,.refl _,hl⟩
 |a::l,vs,kk,σ,ρ,hS,hG,hl,h=>by obtain⟨v,E',rfl,hv,q9⟩:=hl.cons_inv;obtain⟨a',b7,ρ1,h1,b6,b9,F',hv'⟩:=Fg hS hG hv (show run (K2 a λx=>K3 l λl=>kk (x::l)) σ K=true from h);obtain⟨l2,d8,ρ2,h2,f9,l7,j6,hl2⟩:=Ac b6 b9 (q9.mono F') h1;exact⟨_,d8,ρ2,h2,f9,l7,F'.trans j6,LR.cons (hv'.mono j6) hl2⟩
def Ad{x:AV}{v:Value}{kk:AV->Tr}(hS:SI σ)(hG:Good w0 ρ σ.h w)(hx:VR ρ x v)(h:run (zS x kk) σ K=true):∃x' a9 ρ',run (kk x') a9 K=true/\SI a9/\Good w0 ρ' a9.h w/\ρ.le ρ'/\VR ρ' x' v:=by
 unfold zS at h;split at h
 ·cases hx with
  |agg l cs h1 h2=>obtain⟨l',a9,ρ',q1,q2,q3,q4,q5⟩:=Ac hS hG (LR.of_arr h1 h2) h;obtain⟨r1,r2⟩:=q5.arr;exact⟨_,a9,ρ',q1,q2,q3,q4,.agg _ cs r1 r2⟩
 ·exact Fg hS hG hx h
def Lq{a x:AV}{v:Value}{kk:AV->Tr}(hS:SI σ)(hG:Good w0 ρ σ.h w)(hx:VR ρ x v)(h:run (K5 a x kk) σ K=true):∃x' a9 ρ',run (kk x') a9 K=true/\SI a9/\Good w0 ρ' a9.h w/\ρ.le ρ'/\VR ρ' x' v:=by
 unfold K5 at h;split at h
 ·exact Ad hS hG hx h
 ·exact⟨_,σ,ρ,h,hS,hG,.refl _,hx⟩
def Ae:∀{l:List (Nat×AV)} {vs:List Value} {kk:List (Nat×AV)->Tr} {σ:St} {ρ:Rho},SI σ->Good w0 ρ σ.h w->LR ρ (l.map Prod.snd) vs->run (K4 l kk) σ K=true->∃l' a9 ρ',run (kk l') a9 K=true/\SI a9/\Good w0 ρ' a9.h w/\ρ.le ρ'/\LR ρ' (l'.map Prod.snd) vs/\l'.map Prod.fst=l.map Prod.fst
 | [],vs,kk,σ,ρ,hS,hG,hl,h=>⟨[],σ,ρ,h,hS,hG,.refl _,hl,rfl⟩
 |a::l,vs,kk,σ,ρ,hS,hG,hl,h=>by obtain⟨v,E',rfl,hv,q9⟩:=LR.cons_inv (a:=a.2) (l:=l.map Prod.snd) hl;obtain⟨a',b7,ρ1,h1,b6,b9,F',hv'⟩:=Ad hS hG hv (show run (zS a.2 λx=>K4 l λl=>kk ((a.1,x)::l)) σ K=true from h);obtain⟨l2,d8,ρ2,h2,f9,l7,j6,hl2,e2⟩:=Ae b6 b9 (q9.mono F') h1;exact⟨_,d8,ρ2,h2,f9,l7,F'.trans j6,LR.cons (hv'.mono j6) hl2,by simp [e2]⟩
end
end Go.Sym
namespace Go.Sym
open Go.RowKit (Below)
def dE{h:Home}{o n:Nat}(ho:h.shift<=o):(⟨h.blk,o-h.shift,none⟩:Addr).add n=⟨h.blk,o+n-h.shift,none⟩:=by
 unfold Addr.add;split
 ·rename_i e;subst e;simp
 ·simp;omega
def VR.ptr_add{ρ:Rho}{b g o n:Nat}{h:Home}(hh:ρ.at_ b g=some h)(ho:h.shift<=o):VR ρ (.ptr b g (o+n)) (.pointer (some ((⟨h.blk,o-h.shift,none⟩:Addr).add n))):=by rw[dE ho];exact .ptr b g (o+n) h hh (by omega)
def C9{ρ:Rho}{b g o len:Nat}{cap:Option Nat}{es:Nat}{a:Addr}{c:Nat}(h:SlOk ρ b g o len cap es a c)(hl:0<len):∃h,ρ.at_ b g=some h/\h.shift<=o/\a=⟨h.blk,o-h.shift,none⟩:=by
 obtain⟨h1,h2⟩:=h
 cases cap with
 |some k=>obtain⟨_,x,hx,r1,r2⟩:=h2;exact⟨x,hx,r1,r2⟩
 |none=>
  rcases h2 with⟨e,_⟩|⟨x,hx,r1,r2,_⟩
  ·omega
  ·exact⟨x,hx,r1,r2⟩
def bP{b o n:Nat}:(⟨b,o,none⟩:Addr).add n=⟨b,o+n,none⟩:=by
 unfold Addr.add;split
 ·rename_i e;subst e;simp
 ·simp
section
variable{P:Program}{w0:World}{ρ:Rho}{w:World}{σ:St}{K:Fin}{k:AV->Tr}
def Lr{t:TypeId}{l:List AV}{cs:Array Value}{off:Nat}(hS:SI σ)(hG:Good w0 ρ σ.h w)(hl:LR ρ l cs.toList)(h:run (Uw P t l off k) σ K=true):Res P w0 ρ w k K (part t cs off):=by
 obtain⟨d,hu,h⟩:=cL h;obtain⟨i,hi⟩:=info_of_underlying hu;rcases bT h with⟨hd,h⟩|⟨hd,h⟩
 ·obtain⟨j,hj,h⟩:=cG h;rw[hi] at hj;injection hj with hj;subst hj;obtain⟨v,h1,h2⟩:=kI (w:=w) hu hi hl (off:=off) (a:=.agg ((l.drop off).take i.size)) (by rw[if_pos hd]);exact .plain (gY h) hS hG h2 h1
 ·obtain⟨a,ha,h⟩:=ce h;obtain⟨v,h1,h2⟩:=kI (w:=w) hu hi hl (off:=off) (a:=a) (by rw[if_neg (by rw[hd];simp)];exact ha);exact .plain h hS hG h2 h1
def xl{t:TypeId}{x:AV}{v:Value}{i:Nat}(hS:SI σ)(hG:Good w0 ρ σ.h w)(hx:VR ρ x v)(h:run (rE P t x i k) σ K=true):Res P w0 ρ w k K (Instr.fieldAt t v i):=by
 obtain⟨d,hu,h⟩:=cL h
 cases d with
 |struct fs=>
  cases hx with
  |ptr b g o h0 hh ho=>
   obtain⟨f,hf,h⟩:=ce h;obtain⟨j,hj,h⟩:=cG h;obtain⟨hz,h⟩:=rJ h;have hz:¬j.size=0:=λe=>by rw[e] at hz;cases hz
   refine .plain (ke h) hS hG (VR.ptr_add hh ho) ?_;simp only [Instr.fieldAt,aad,run_underlying hu,aaj,hf,Instr.sureAddr,aaf,fieldPlace,aB hj,if_neg hz]
  |gptr b g m o es hm hh hs=>
   obtain⟨f,hf,h⟩:=ce h;obtain⟨j,hj,h⟩:=cG h;obtain⟨hz,h⟩:=rJ h;have hz:¬j.size=0:=λe=>by rw[e] at hz;cases hz
   refine .plain h hS hG (VR.gptr b g m (o+f.offset) es hm hh hs) ?_;simp only [Instr.fieldAt,aad,run_underlying hu,aaj,hf,Instr.sureAddr,aaf,fieldPlace,aB hj,if_neg hz,bP,abu]
  |cptr l blk off arr ty hfz hb r=>
   obtain⟨f,hf,h⟩:=ce h;obtain⟨j,hj,h⟩:=cG h;obtain⟨hz,h⟩:=rJ h;have hz:¬j.size=0:=λe=>by rw[e] at hz;cases hz
   obtain⟨hle,h⟩:=ay h;have hle:=bU hle;have h:=gY h;refine .plain h hS hG (VR.cptr (l.drop f.offset) blk (off+f.offset) arr ty hfz (by rw[aas];omega) λj a v ha hv=>?_) ?_
   ·rw[aaz] at ha;exact r (f.offset+j) a v ha (by rw[←hv];congr 1;omega)
   ·simp only [Instr.fieldAt,aad,run_underlying hu,aaj,hf,Instr.sureAddr,aaf,fieldPlace,aB hj,if_neg hz,bP]
  |_=>exact(ah h).elim
 |_=>exact(ah h).elim
def lX{t:TypeId}{x ix:AV}{v u:Value}(hS:SI σ)(hG:Good w0 ρ σ.h w)(hx:VR ρ x v)(hy:VR ρ ix u)(h:run (kD P t x ix k) σ K=true):Res P w0 ρ w k K (Instr.indexAt t v u):=by
 obtain⟨kk,n,e,h⟩:=xg h
 subst e
 cases hy
 obtain⟨i,e,h⟩:=La h
 subst e
 obtain⟨d,hu,h⟩:=cL h
 cases d with
 |array len e=>
  cases hx with
  |ptr b g o h0 hh ho=>
   obtain⟨hb,h⟩:=ay h;have hb:=bU hb;obtain⟨j,hj,h⟩:=cG h;refine .plain (ke h) hS hG (VR.ptr_add hh ho) ?_;have c9:(0:Int)<=(i:Int)/\(i:Int)<(len:Int):=by omega
   simp only [Instr.indexAt,aad,asIntOf,aaf,aaj,run_underlying hu,Instr.sureAddr,if_pos c9,aB hj,aar]
  |_=>exact(ah h).elim
 |slice e=>
  cases hx with
  |slc b g o len cap es a c V'=>
   obtain⟨hb,h⟩:=ay h;have hb:=bU hb;obtain⟨j,hj,h⟩:=cG h;obtain⟨h0,hh,ho,ea⟩:=C9 V' (by omega);subst ea;refine .plain (ke h) hS hG (VR.ptr_add hh ho) ?_;have c9:(0:Int)<=(i:Int)/\(i:Int)<(len:Int):=by omega
   simp only [Instr.indexAt,aad,asIntOf,aaf,aaj,run_underlying hu,if_pos c9,aB hj,aar]
  |_=>exact(ah h).elim
 |_=>exact(ah h).elim
def Iu{t:TypeId}{c:Ct}{ix:AV}{v u:Value}(hS:SI σ)(hG:Good w0 ρ σ.h w)(hx:VR ρ (.cv c) v)(hy:VR ρ ix u)(h:run (EW P t c ix k) σ K=true):Res P w0 ρ w k K (Instr.indexAt t v u):=by
 obtain⟨d,hu,h⟩:=cL h;split at h
 ·rename_i e kk i hi
  have e2:=bo hy hi
  subst e2
  obtain⟨j,hj,h⟩:=cG h
  obtain⟨he,h⟩:=ay h
  have he:=aM he
  obtain⟨c9,h⟩:=aP h
  have h:=gY h
  have c9:(0:Int)<=i/\i<(c.len:Int):=c9
  have hin:i.toNat<c.len:=by omega
  cases hx with
  |cv _ blk off cp arr ty hf hc hb r=>
   refine .plain h hS hG (VR.cptr (c.row i.toNat) blk (off+i.toNat * c.es) arr ty hf ?_ λj a v ha hv=>r i.toNat j a v hin ha hv) ?_
   ·rw[c.row_len];have:i.toNat * c.es+c.es<=c.len * c.es:=by rw[←aaM];exact aaB _ hin
    omega
   ·simp only [Instr.indexAt,aad,asIntOf,aaf,aaj,run_underlying hu,if_pos c9,aB hj,he,bP]
  |cvnil _ h0=>omega
  |cvempty _ _ h0=>omega
 ·exact(ah h).elim
def Iv{t:TypeId}{b g n es:Nat}{ix:AV}{v u:Value}(hS:SI σ)(hG:Good w0 ρ σ.h w)(hx:VR ρ (.gsl b g n es) v)(hy:VR ρ ix u)(h:run (EX P t b g n es ix k) σ K=true):Res P w0 ρ w k K (Instr.indexAt t v u):=by
 obtain⟨d,hu,h⟩:=cL h;split at h
 ·rename_i e kk i hi
  have e2:=bo hy hi
  subst e2
  obtain⟨j,hj,h⟩:=cG h
  obtain⟨he,h⟩:=ay h
  have he:=aM he
  obtain⟨c9,h⟩:=aP h
  have hin:i.toNat<n:=by omega
  cases hx with
  |gsl _ _ _ _ hm c hn hh hs hc hz=>refine .plain h hS hG (VR.gptr b g i.toNat 0 es hm hh hs) ?_;simp only [Instr.indexAt,aad,asIntOf,aaf,aaj,run_underlying hu,if_pos c9,aB hj,he,bP,aap,aau]
  |gnil _ _ _=>omega
  |gempty _ _ _ _=>omega
 ·exact(ah h).elim
def Ls{t:TypeId}{b g o:Nat}{ix:AV}{v u:Value}(hS:SI σ)(hG:Good w0 ρ σ.h w)(hx:VR ρ (.ptr b g o) v)(hy:VR ρ ix u)(h:run (KL P t b g o ix k) σ K=true):Res P w0 ρ w k K (Instr.indexAt t v u):=by
 obtain⟨d,hu,z1⟩:=cL h;split at z1
 ·rename_i len e kk i hi
  have e2:=bo hy hi
  subst e2
  obtain⟨j,hj,z2⟩:=cG z1
  obtain⟨ho0,z3⟩:=ay z2
  obtain⟨hs1,z4⟩:=ay z3
  obtain⟨c9,z5⟩:=aP z4
  have ho0:=aae ho0
  have hs1:=aae hs1
  cases hx with
  |ptr _ _ _ hm hh ho=>
   have c7:hm.shift=0->(Instr.indexAt t (.pointer (some ⟨hm.blk,o-hm.shift,none⟩)) (.int kk i)).run P w= .ok (.pointer (some ⟨hm.blk,i.toNat * 1+0,none⟩)) w:=by
    intro hsh;have e0:o-hm.shift=0:=by omega
    rw[e0];simp only [Instr.indexAt,aad,asIntOf,aaf,aaj,run_underlying hu,Instr.sureAddr,if_pos c9,aB hj,hs1,bP,aap,aau]
   obtain⟨q,b7,hq,e1,b6,z6⟩:=bE hS z5
   have b9:Good w0 ρ b7.h w:=by rw[e1];exact hG
   have conv:run (ac (Nat.beq g 0) (du (qG P e len) .fail λrows=>oS [] b g 0 len (some len) 1 rows λ_=>k (.gptr b 0 i.toNat 0 1)) .fail) b7 K=true->Res P w0 ρ w k K (Instr.indexAt t (.pointer (some ⟨hm.blk,o-hm.shift,none⟩)) (.int kk i)):=by
    intro z
    obtain⟨hg0,z7⟩:=ay z
    have hg0:=aae hg0
    obtain⟨rows,hr,z8⟩:=ce z7
    obtain⟨d8,z9,f9,l7,_,hv⟩:=dZ b6 b9 (C8 hr) z8
    have V':VR ρ (.slc b g 0 len (some len) 1) (.slice (some ⟨hm.blk,0-hm.shift,none⟩) len len):=.slc _ _ _ _ _ _ _ _ ⟨aac _,rfl,hm,hh,by omega,rfl⟩
    have:=hv ρ (.refl _) _ V'
    subst hg0
    generalize hvv:Value.slice (some ⟨hm.blk,0-hm.shift,none⟩) len len=vv at this
    cases this with
    |gsl _ _ _ _ hm' c hn j4 hs' hc hz=>rw[hh] at j4;injection j4 with j4;subst j4;exact .plain z9 f9 l7 (.gptr b 0 i.toNat 0 1 hm hh hs') (c7 hs')
    |gnil _ _ _=>omega
    |gempty _ _ _ _=>omega
   cases q with
   |grow c gen ty=>
    obtain⟨k1,y1⟩:=ay z6;obtain⟨k2,y2⟩:=ay y1;obtain⟨k4,y3⟩:=aP y2;have k1:=aae k1;rcases hG.blk _ _ hq with hz|⟨hm',r1,r2,_⟩
    ·omega
    rw[←k1,hh] at r1;injection r1 with r1;subst r1;exact .plain y3 b6 b9 (.gptr b g i.toNat 0 1 hm hh r2) (c7 r2)
   |_=>exact conv z6
 ·exact(ah z1).elim
def Fh:∀{l:List AV} {bs:List Nat},KJ l=some bs->∀i,i<bs.length->l[i]? =some (.int .u8 (Int.ofNat (bs.getD i 0)))
 | [],bs,h,i,hi=>by injection h with h;subst h;cases hi
 |a::r,bs,h,i,hi=>by
  unfold KJ at h;split at h
  ·rename_i e;cases e
  ·rename_i n r' e;injection e with e1 e2;subst e1;subst e2;split at h
   ·split at h
    ·rename_i l' hl
     injection h with h;subst h
     cases i with
     |zero=>rfl
     |succ i=>exact Fh hl i (by simpa using hi)
    ·cases h
   ·cases h
  ·cases h
def Lt{t:TypeId}{l:List AV}{ix:AV}{v u:Value}(hS:SI σ)(hG:Good w0 ρ σ.h w)(hx:VR ρ (.cptr l) v)(hy:VR ρ ix u)(h:run (KM P t l ix k) σ K=true):Res P w0 ρ w k K (Instr.indexAt t v u):=by
 obtain⟨d,hu,h⟩:=cL h;split at h
 ·rename_i len e kk i hi
  have e2:=bo hy hi
  subst e2
  obtain⟨j,hj,h⟩:=cG h
  obtain⟨he,h⟩:=ay h
  have he:=aM he
  obtain⟨bs,hbs,h⟩:=ce h
  obtain⟨hlen,h⟩:=ay h
  have hlen:=bU hlen
  obtain⟨c9,h⟩:=aP h
  have c9:(0:Int)<=i/\i<(len:Int):=c9
  have hin:i.toNat<bs.length:=by omega
  have hg:=Fh hbs _ hin
  have hll:i.toNat<l.length:=by
   rcases aah i.toNat l.length with h'|h'
   ·exact h'
   ·rw[aam h'] at hg;cases hg
  cases hx with
  |cptr _ blk off arr ty hf hb r=>
   refine .plain h hS hG (VR.cptr _ blk (off+i.toNat) arr ty hf (by simp;omega) λq a v ha hv=>?_) ?_
   ·cases q with
    |zero=>
     injection ha with ha
     subst ha
     have:=r i.toNat _ v hg (by simpa using hv)
     cases this with
     |int _ _=>exact .sI _ _
    |succ q=>simp at ha
   ·simp only [Instr.indexAt,aad,asIntOf,aaf,aaj,run_underlying hu,Instr.sureAddr,if_pos c9,aB hj,he,aaJ,bP]
 ·exact(ah h).elim
def xm{t:TypeId}{x ix:AV}{v u:Value}(hS:SI σ)(hG:Good w0 ρ σ.h w)(hx:VR ρ x v)(hy:VR ρ ix u)(h:run (mm P t x ix k) σ K=true):Res P w0 ρ w k K (Instr.indexAt t v u):=by
 unfold mm at h;split at h
 ·exact Lt hS hG hx hy h
 ·exact Iu hS hG hx hy h
 ·exact Iv hS hG hx hy h
 ·rcases bT h with⟨_,h⟩|⟨_,h⟩
  ·exact Ls hS hG hx hy h
  ·exact lX hS hG hx hy h
 ·exact lX hS hG hx hy h
def pV(s:ByteArray)(i:Nat):(bytesOf s)[i]? =(s[i]?).map UInt8.toNat:=by
 unfold bytesOf;rw[aaO];congr 1;by_cases h:i<s.size
 ·rw[getElem?_pos s i h];have h':i<s.data.toList.length:=by simpa using h
  rw[aak h'];rfl
 ·rw[getElem?_neg s i h,aam (by simpa using h)]
def Iw{t:TypeId}{x ix:AV}{v u:Value}(hS:SI σ)(hG:Good w0 ρ σ.h w)(hx:VR ρ x v)(hy:VR ρ ix u)(h:run (EY P t x ix k) σ K=true):Res P w0 ρ w k K (Instr.index t v u):=by
 obtain⟨kk,n,e,h⟩:=xg h
 subst e
 cases hy
 obtain⟨i,e,h⟩:=La h
 subst e
 obtain⟨d,hu,h⟩:=cL h
 cases d with
 |array len e=>
  cases hx with
  |agg l cs h1 h2=>
   obtain⟨hb,h⟩:=ay h;have hb:=bU hb;obtain⟨j,hj,h⟩:=cG h;have c9:(0:Int)<=(i:Int)/\(i:Int)<(len:Int):=by omega
   refine(Lr hS hG (LR.of_arr h1 h2) h).of_eq ?_;simp only [Instr.index,aad,asIntOf,aaf,aaj,run_underlying hu,if_pos c9,aB hj,aar]
  |_=>exact(ah h).elim
 |string=>
  cases hx with
  |str s=>
   obtain⟨c,hc,h⟩:=ce h
   rw[pV] at hc
   cases hs:s[i]? with
   |none=>rw[hs] at hc;cases hc
   |some cc=>
    rw[hs] at hc;injection hc with hc;subst hc;refine .plain (ke h) hS hG (.int _ _) ?_;have h0:(0:Int)<=(i:Int):=by omega
    simp only [Instr.index,aad,asIntOf,aaf,aaj,run_underlying hu,if_pos h0,aar,hs];rfl
  |_=>exact(ah h).elim
 |_=>exact(ah h).elim
def Lu{t:TypeId}{s:ByteArray}{kk:IntKind}{i:Int}(hS:SI σ)(hG:Good w0 ρ σ.h w)(h:run (KN P t (bytesOf s) i k) σ K=true):Res P w0 ρ w k K (Instr.index t (.string s) (.int kk i)):=by
 obtain⟨d,hu,h⟩:=cL h
 cases d with
 |string=>
  obtain⟨⟨h0,h1⟩,h⟩:=aP h;rw[bV] at h1;have hin:i.toNat<s.size:=by omega
  have hb:kx (bytesOf s) i.toNat=(s[i.toNat]).toNat:=by unfold kx;rw[aag,pV,getElem?_pos s i.toNat hin];exact aa_ (UInt8.toNat_lt _)
  rw[hb] at h;refine .plain h hS hG (.sI _ _) ?_;simp only [Instr.index,aad,asIntOf,aaf,aaj,run_underlying hu,if_pos h0,getElem?_pos s i.toNat hin]
 |_=>exact(ah h).elim
def Lv{t:TypeId}{x ix:AV}{v u:Value}(hS:SI σ)(hG:Good w0 ρ σ.h w)(hx:VR ρ x v)(hy:VR ρ ix u)(h:run (KO P t x ix k) σ K=true):Res P w0 ρ w k K (Instr.index t v u):=by
 rcases bT h with⟨_,h⟩|⟨_,h⟩
 ·split at h
  ·rename_i l kk i el ei;obtain⟨s,e1,e2⟩:=dD hx el;have e3:=bo hy ei;subst e1;subst e2;subst e3;exact Lu hS hG h
  ·exact(ah h).elim
 ·exact Iw hS hG hx hy h
def C_{x:AV}{v:Value}{i:Nat}(hS:SI σ)(hG:Good w0 ρ σ.h w)(hx:VR ρ x v)(h:run (zO x i k) σ K=true):Res P w0 ρ w k K (Instr.extract v i):=by
 cases hx with
 |tup l cs h1 h2=>
  obtain⟨a,ha,h⟩:=ce h;obtain⟨u,hu,hr⟩:=(LR.of_arr h1 h2).get ha;have hu:cs[i]? =some u:=by simpa using hu
  exact .plain h hS hG hr (by simp [Instr.extract,hu])
 |_=>exact(ah h).elim
def mr{ov:Option AV}{vv:Option Value}{d top:Nat}{k:Nat->Tr}(ho:OR ρ ov vv)(h:run (kF ov d top k) σ K=true):
 ∃n,run (k n) σ K=true/\((ov=none/\vv=none/\n=d)∨∃kk,ov.isSome=true/\vv=some (.int kk (n:Int))/\n<=top):=by
 cases ov with
 |none=>
  cases vv with
  |none=>exact⟨d,h,.inl ⟨rfl,rfl,rfl⟩⟩
  |some v=>exact ho.elim
 |some a=>
  cases vv with
  |none=>exact ho.elim
  |some v=>
   obtain⟨kk,n,e,h⟩:=xg h
   subst e
   cases ho
   obtain⟨i,e,h⟩:=La h
   subst e
   obtain⟨hb,h⟩:=ay h
   exact⟨i,h,.inr ⟨kk,rfl,rfl,bU hb⟩⟩
def aK{kk:IntKind}{n y:Nat}{code:BoundsCode}(h:n<=y):(Instr.sliceBound (.int kk (n:Int)) y code).run P w= .ok n w:=by simp [Instr.sliceBound,asIntOf,h]
def Af{isS:Bool}{len cap c:Nat}{lo hi mx:Option AV}{lo' hi' mx':Option Value}{k:Nat->Nat->Nat->Tr}(hlc:len<=cap)(hcc:cap<=c)(hmx:mx=none->c=cap)(h1:OR ρ lo lo')(h2:OR ρ hi hi')(h3:OR ρ mx mx')(h:run (lu len cap lo hi mx k) σ K=true):
 ∃l hh m,run (k l hh m) σ K=true/\(Instr.sliceBounds isS len c lo' hi' mx').run P w= .ok (l,hh,m) w/\l<=hh/\hh<=m/\m<=cap:=by
 obtain⟨m,h,hm⟩:=mr h3 h
 have c7:∃hh l,run (k l hh m) σ K=true/\((hi=none/\hi'=none/\hh=len/\mx=none)∨∃kk,hi'=some (.int kk (hh:Int))/\hh<=m)/\((lo=none/\lo'=none/\l=0)∨∃kk,lo.isSome=true/\lo'=some (.int kk (l:Int))/\l<=hh):=by
  cases hi with
  |none=>
   cases mx with
   |some _=>exact(ah h).elim
   |none=>
    obtain⟨hh,h,hhi⟩:=mr (d:=len) (top:=m) (k:=λh=>kF lo 0 h λl=>k l h m) h2 h;obtain⟨l,h,hl⟩:=mr (k:=λl=>k l hh m) h1 h;refine⟨hh,l,h, ?_,hl⟩;rcases hhi with⟨a,b,c⟩|⟨kk,a,b,c⟩
    ·exact .inl ⟨rfl,b,c,rfl⟩
    ·simp at a
  |some x=>
   obtain⟨hh,h,hhi⟩:=mr (d:=len) (top:=m) (k:=λh=>kF lo 0 h λl=>k l h m) h2 (by cases mx <;> exact h);obtain⟨l,h,hl⟩:=mr (k:=λl=>k l hh m) h1 h;refine⟨hh,l,h, ?_,hl⟩;rcases hhi with⟨a,b,c⟩|⟨kk,a,b,c⟩
   ·cases a
   ·exact .inr ⟨kk,b,c⟩
 obtain⟨hh,l,hk,hhi,hlo⟩:=c7
 have hmc:m<=cap:=by rcases hm with⟨_,_,e⟩|⟨_,_,_,e⟩ <;> omega
 have hhm:hh<=m:=by
  rcases hhi with⟨_,_,e,emx⟩|⟨_,_,e⟩
  ·rcases hm with⟨_,_,em⟩|⟨_,em,_,_⟩
   ·omega
   ·rw[emx] at em;simp at em
  ·exact e
 have hll:l<=hh:=by rcases hlo with⟨_,_,e⟩|⟨_,_,_,e⟩ <;> omega
 refine⟨l,hh,m,hk, ?_,hll,hhm,hmc⟩
 rcases hm with⟨em1,em2,em3⟩|⟨km,em1,em2,em3⟩
 ·subst em2;rcases hhi with⟨_,eh,eh2,_⟩|⟨kh,eh,eh2⟩
  ·subst eh;subst eh2;rw[←hmx em1] at em3;subst em3;rcases hlo with⟨_,el,el2⟩|⟨kl,_,el,el2⟩
   ·subst el;subst el2;simp [Instr.sliceBounds]
   ·subst el;simp [Instr.sliceBounds,aK el2]
  ·subst eh;rw[←hmx em1] at em3;subst em3;rcases hlo with⟨_,el,el2⟩|⟨kl,_,el,el2⟩
   ·subst el;subst el2;simp [Instr.sliceBounds,aK eh2]
   ·subst el;simp [Instr.sliceBounds,aK el2,aK eh2]
 ·subst em2;rcases hhi with⟨_,eh,eh2,e⟩|⟨kh,eh,eh2⟩
  ·rw[e] at em1;simp at em1
  ·subst eh;rcases hlo with⟨_,el,el2⟩|⟨kl,_,el,el2⟩
   ·subst el;subst el2;simp [Instr.sliceBounds,aK eh2,aK (aaL em3 hcc)]
   ·subst el;simp [Instr.sliceBounds,aK el2,aK eh2,aK (aaL em3 hcc)]
def xn{isS:Bool}{len cap:Nat}{lo hi mx:Option AV}{lo' hi' mx':Option Value}{k:Nat->Nat->Nat->Tr}(hlc:len<=cap)(h1:OR ρ lo lo')(h2:OR ρ hi hi')(h3:OR ρ mx mx')(h:run (lu len cap lo hi mx k) σ K=true):
 ∃l hh m,run (k l hh m) σ K=true/\(Instr.sliceBounds isS len cap lo' hi' mx').run P w= .ok (l,hh,m) w/\l<=hh/\hh<=m/\m<=cap:=
 Af hlc (aac _) (λ_=>rfl) h1 h2 h3 h
end
end Go.Sym
namespace Go.Sym
open Go.RowKit (Below)
section
variable{P:Program}{w0:World}{ρ:Rho}{w:World}{σ:St}{K:Fin}{k:AV->Tr}
def rR{b g o s l h m:Nat}{hm:Home}(hh:ρ.at_ b g=some hm)(ho:hm.shift<=o)(hhm:h<=m)(hr:run (zN b g o s l h m k) σ K=true):
 ∃r,run (k r) σ K=true/\VR ρ r (.slice (some (if m=l then⟨hm.blk,o-hm.shift,none⟩ else(⟨hm.blk,o-hm.shift,none⟩:Addr).add (l * s))) (h-l) (m-l)):=by
 unfold zN at hr
 have hr:=ke hr
 have hr:=ke hr
 rcases bT hr with⟨e,hr⟩|⟨e,hr⟩
 ·have e:=aM e;refine⟨_,hr, ?_⟩;rw[if_pos e];exact .slc _ _ _ _ _ _ _ _ ⟨by omega,rfl,hm,hh,ho,rfl⟩
 ·have e:¬m=l:=λe'=>by subst e';simp at e
  have hr:=ke hr;refine⟨_,hr, ?_⟩;rw[if_neg e,dE ho];exact .slc _ _ _ _ _ _ _ _ ⟨by omega,rfl,hm,hh,by omega,rfl⟩
def Lw{b g o s l h len c:Nat}{a:Addr}(hs:SlOk ρ b g o len none s a c)(hl:l<=h)(hh:h<=len)(hr:run (KQ b g o s l h k) σ K=true):
 ∃r,run (k r) σ K=true/\VR ρ r (.slice (some (if c=l then a else a.add (l * s))) (h-l) (c-l)):=by
 obtain⟨hlen,hs⟩:=hs
 unfold KQ at hr
 have hr:=ke hr
 rcases bT hr with⟨e,hr⟩|⟨e,hr⟩
 ·have e:=aM e;subst e;refine⟨_,hr, ?_⟩;have ea:(if c=0 then a else a.add (0 * s))=a:=by
   split
   ·rfl
   ·unfold Addr.add;simp
  rw[ea];refine .slc _ _ _ _ _ _ _ _ ⟨by omega, ?_⟩;rcases hs with⟨h1,h2⟩|⟨hm,h1,h2,h3,h4⟩
  ·exact .inl ⟨by omega,by omega⟩
  ·exact .inr ⟨hm,h1,h2,h3,by simpa using h4⟩
 ·have e:¬l=0:=λe'=>by subst e';simp at e
  have hr:=ke hr;refine⟨_,hr, ?_⟩;refine .slc _ _ _ _ _ _ _ _ ⟨by omega, ?_⟩;by_cases hc:c=l
  ·exact .inl ⟨by omega,by omega⟩
  ·rcases hs with⟨h1,h2⟩|⟨hm,h1,h2,h3,h4⟩
   ·omega
   ·refine .inr ⟨hm,h1,by omega, ?_, ?_⟩
    ·rw[if_neg hc,h3,dE h2]
    ·have:c * s=l * s+(c-l) * s:=by rw[←aaC];congr 1;omega
     omega
def jt{α:Type}{p:Prop}[Decidable p]{a b:α}:(if p then some a else some b)=some (if p then a else b):=by split <;> rfl
def Ix{t:TypeId}{s:ByteArray}{lo hi mx:Option AV}{lo' hi' mx':Option Value}(hS:SI σ)(hG:Good w0 ρ σ.h w)(h1:OR ρ lo lo')(h2:OR ρ hi hi')(h3:OR ρ mx mx')(hu:P.underlying t=some .string)(h:run (KR (bytesOf s) lo hi mx k) σ K=true):Res P w0 ρ w k K (Instr.sliceAt t (.string s) lo' hi' mx'):=by
 cases mx with
 |some _=>exact(ah h).elim
 |none=>
  cases mx' with
  |some _=>exact h3.elim
  |none=>
   have hn:(bytesOf s).length=s.size:=by unfold bytesOf;rw[aaR];rfl
   unfold KR at h
   have h:=ke h
   obtain⟨l,hh,m,h,hb,hl,hm,hc⟩:=xn (P:=P) (w:=w) (isS:=false) (aac _) h1 h2 h3 h
   have h:=Wt h
   refine .plain h hS hG (v:=.string (s.extract l hh)) ?_ ?_
   ·have e:((bytesOf s).take hh).drop l=bytesOf (s.extract l hh):=by unfold bytesOf;rw[←List.map_take, ←List.map_drop,ByteArray.data_extract,Array.toList_extract,abO,abX]
    rw[e];exact .str _
   ·rw[hn] at hb;simp only [Instr.sliceAt,Instr.slice,aad,run_underlying hu,aaj,abe,Bool.false_eq_true,if_false,aaf];simp [hb,aaj]
def Da{t:TypeId}{x:AV}{v:Value}{lo hi mx:Option AV}{lo' hi' mx':Option Value}(hS:SI σ)(hG:Good w0 ρ σ.h w)(hx:VR ρ x v)(h1:OR ρ lo lo')(h2:OR ρ hi hi')(h3:OR ρ mx mx')(h:run (E0 P t x lo hi mx k) σ K=true):Res P w0 ρ w k K (Instr.sliceAt t v lo' hi' mx'):=by
 obtain⟨d,hu,h⟩:=cL h
 cases d with
 |array n e=>
  cases hx with
  |ptr b g o hm hh ho=>
   obtain⟨l,hi,m,h,hb,hl,hhm,hc⟩:=xn (P:=P) (w:=w) (isS:=false) (aac _) h1 h2 h3 h
   obtain⟨j,hj,h⟩:=cG h
   obtain⟨r,h,hr⟩:=rR hh ho hhm h
   refine .plain h hS hG hr ?_
   simp only [Instr.sliceAt,aad,run_underlying hu,aaj,Instr.sureAddr,aaf,hb,aB hj]
  |_=>exact(ah h).elim
 |string=>
  cases hx with
  |str s=>exact Ix hS hG h1 h2 h3 hu h
  |_=>exact(ah h).elim
 |slice e=>
  cases hx with
  |nils=>
   obtain⟨j,hj,h⟩:=cG h
   obtain⟨l,hi,m,h,hb,hl,hhm,hc⟩:=xn (P:=P) (w:=w) (isS:=true) (aac _) h1 h2 h3 h
   have:m=0:=by omega
   subst this
   have:hi=0:=by omega
   subst this
   have:l=0:=by omega
   subst this
   refine .plain h hS hG .nils ?_
   simp only [Instr.sliceAt,Instr.slice,aad,run_underlying hu,aaj,aaf,hb,aB hj,if_true,aba]
  |slc b g o len cap es a c V'=>
   cases cap with
   |some c'=>
    obtain⟨j,hj,h⟩:=cG h
    obtain⟨B',h⟩:=ay h
    have B':=aM B'
    obtain⟨hlen,ec,hm,hh,ho,ea⟩:=V'
    subst ec;subst ea
    obtain⟨l,hi,m,h,hb,hl,hhm,hc⟩:=xn (P:=P) (w:=w) (isS:=true) hlen h1 h2 h3 h
    obtain⟨r,h,hr⟩:=rR hh ho hhm h
    refine .plain h hS hG hr ?_
    subst B'
    simp only [Instr.sliceAt,Instr.slice,aad,run_underlying hu,aaj,aaf,hb,aB hj,aa1,jt]
   |none=>
    obtain⟨j,hj,h⟩:=cG h
    obtain⟨B',h⟩:=ay h
    have B':=aM B'
    subst B'
    cases mx with
    |none=>
     cases mx' with
     |some _=>exact h3.elim
     |none=>
      unfold EZ at h
      obtain⟨hh,h,hhi⟩:=mr (d:=len) (top:=len) h2 h
      obtain⟨l,h,hlo⟩:=mr (d:=0) (top:=hh) h1 h
      have hle:hh<=len:=by rcases hhi with⟨_,_,e⟩|⟨_,_,_,e⟩ <;> omega
      have hll:l<=hh:=by rcases hlo with⟨_,_,e⟩|⟨_,_,_,e⟩ <;> omega
      obtain⟨r,h,hr⟩:=Lw V' hll hle h
      refine .plain h hS hG hr ?_
      have hb:(Instr.sliceBounds true len c lo' hi' none).run P w= .ok (l,hh,c) w:=by
       have hcl:=V'.1;rcases hhi with⟨_,eh,eh2⟩|⟨kh,_,eh,eh2⟩
       ·subst eh;subst eh2;rcases hlo with⟨_,el,el2⟩|⟨kl,_,el,el2⟩
        ·subst el;subst el2;simp [Instr.sliceBounds]
        ·subst el;simp [Instr.sliceBounds,aK el2]
       ·subst eh;rcases hlo with⟨_,el,el2⟩|⟨kl,_,el,el2⟩
        ·subst el;subst el2;simp [Instr.sliceBounds,aK (aaL eh2 hcl)]
        ·subst el;simp [Instr.sliceBounds,aK el2,aK (aaL eh2 hcl)]
      simp only [Instr.sliceAt,Instr.slice,aad,run_underlying hu,aaj,aaf,hb,aB hj,aa1,jt]
    |some y=>
     obtain⟨hz,h⟩:=rJ h
     have hz:len≠0:=by intro e;subst e;simp at hz
     obtain⟨hlc,hs⟩:=V'
     obtain⟨l,hi,m,h,hb,hl,hhm,hc⟩:=Af (P:=P) (w:=w) (isS:=true) (aac _) hlc (λe=>by cases e) h1 h2 h3 h
     rcases hs with⟨h1',h2'⟩|⟨hm,hh,ho,ea,ac2⟩
     ·omega
     ·subst ea;obtain⟨r,h,hr⟩:=rR hh ho hhm h;refine .plain h hS hG hr ?_;simp only [Instr.sliceAt,Instr.slice,aad,run_underlying hu,aaj,aaf,hb,aB hj,aa1,jt]
  |_=>exact(ah h).elim
 |_=>exact(ah h).elim
def dQ{ov:Option AV}{vv:Option Value}{d:Int}{k:Int->Tr}(ho:OR ρ ov vv)(h:run (cV ov d k) σ K=true):
 ∃n,run (k n) σ K=true/\((vv=none/\n=d)∨∃kk,vv=some (.int kk n)):=by
 cases ov with
 |none=>
  cases vv with
  |none=>exact⟨d,h,.inl ⟨rfl,rfl⟩⟩
  |some v=>exact ho.elim
 |some a=>
  cases vv with
  |none=>exact ho.elim
  |some v=>
   unfold cV at h
   simp only at h
   split at h
   ·rename_i kk n hi;exact⟨n,h,.inr ⟨kk,by rw[bo ho hi]⟩⟩
   ·exact(ah h).elim
def bR{isS:Bool}{len c:Nat}{lo' hi':Option Value}{l h:Int}(hlc:len<=c)(hl:(lo'=none/\l=0)∨∃kk,lo'=some (.int kk l))(hh:(hi'=none/\h=(len:Int))∨∃kk,hi'=some (.int kk h))(hr:0<=l/\l<=h/\h<=(len:Int)):(Instr.sliceBounds isS len c lo' hi' none).run P w= .ok (l.toNat,h.toNat,c) w:=by
 obtain⟨a,ea⟩:∃a:Nat,l=(a:Int):=⟨l.toNat,by omega⟩
 obtain⟨b,eb⟩:∃b:Nat,h=(b:Int):=⟨h.toNat,by omega⟩
 subst ea;subst eb
 simp only [aar]
 have hab:a<=b:=by omega
 have hbl:b<=len:=by omega
 rcases hh with⟨eh,eh2⟩|⟨kh,eh⟩
 ·subst eh;have:b=len:=by omega
  subst this;rcases hl with⟨el,el2⟩|⟨kl,el⟩
  ·subst el;have:a=0:=by omega
   subst this;simp [Instr.sliceBounds]
  ·subst el;simp [Instr.sliceBounds,aK hab]
 ·subst eh;rcases hl with⟨el,el2⟩|⟨kl,el⟩
  ·subst el;have:a=0:=by omega
   subst this;simp [Instr.sliceBounds,aK (aaL hbl hlc)]
  ·subst el;simp [Instr.sliceBounds,aK hab,aK (aaL hbl hlc)]
def Ag{t:TypeId}{x:AV}{v:Value}{lo hi mx:Option AV}{lo' hi' mx':Option Value}(hS:SI σ)(hG:Good w0 ρ σ.h w)(hx:VR ρ x v)(h1:OR ρ lo lo')(h2:OR ρ hi hi')(h3:OR ρ mx mx')(h:run (uO P t x lo hi mx k) σ K=true):Res P w0 ρ w k K (Instr.sliceAt t v lo' hi' mx'):=by
 obtain⟨d,hu,h⟩:=cL h
 split at h
 ·rename_i e c _
  cases mx' with
  |some _=>exact h3.elim
  |none=>
  obtain⟨j,hj,h⟩:=cG h
  obtain⟨he,h⟩:=ay h
  have he:=aM he
  obtain⟨b,h8,hb⟩:=dQ h2 h
  obtain⟨a,h7,ha⟩:=dQ h1 h8
  obtain⟨hr,h9⟩:=aP h7
  clear h h8 h7
  cases hx with
  |cv _ blk off cp arr ty hf hc hbd r=>
   have hbs:=bR (P:=P) (w:=w) (isS:=true) hc ha hb hr;obtain⟨a,rfl⟩:∃q:Nat,a=(q:Int):=⟨a.toNat,by omega⟩
   obtain⟨b,rfl⟩:∃q:Nat,b=(q:Int):=⟨b.toNat,by omega⟩
   simp only [aar] at hbs h9;have hab:a<=b:=by omega
   have hbn:b<=c.len:=by omega
   have hlen:=c.cut_len hab hbn;have B':=c.cut_es a b;have hmul:a * c.es+(b-a) * c.es=b * c.es:=by rw[←aaC];congr 1;omega
   have an4:b * c.es<=c.len * c.es:=aaB _ hbn;have c7:(Instr.sliceAt t (.slice (some ⟨blk,off,none⟩) c.len cp) lo' hi' none).run P w= .ok (.slice (some (if cp=a then⟨blk,off,none⟩ else⟨blk,off+a * j.size,none⟩)) (b-a) (cp-a)) w:=by simp only [Instr.sliceAt,Instr.slice,aad,run_underlying hu,aaj,aaf,hbs,aB hj,aa1,jt,bP]
   rw[he] at c7;by_cases hca:cp=a
   ·rw[if_pos hca] at c7;have hba:b-a=0:=by omega
    have hz:off+(c.cut a b).len * (c.cut a b).es<=arr.size:=by rw[hlen,hba,abc];omega
    have:=VR.cv (ρ:=ρ) (c.cut a b) blk off (cp-a) arr ty hf (by omega) hz (λi q av u hi hq hu2=>by omega);rw[hlen] at this;exact .plain h9 hS hG this c7
   ·rw[if_neg hca] at c7;have:=VR.cv (ρ:=ρ) (c.cut a b) blk (off+a * c.es) (cp-a) arr ty hf (by omega) (by rw[hlen,B'];omega) (λi q av u hi hq hu2=>by rw[hlen] at hi;rw[c.cut_row (by omega)] at hq;rw[B'] at hu2;exact r (a+i) q av u (by omega) hq (by rw[←hu2];congr 1;rw[aaC];omega));rw[hlen] at this;exact .plain h9 hS hG this c7
  |cvnil _ h0=>
   rw[h0] at hb hr;have hbs:=bR (P:=P) (w:=w) (isS:=true) (c:=0) (aac 0) ha hb hr;obtain rfl:a=0:=by have:=hr.2.2;omega
   obtain rfl:b=0:=by have:=hr.2.2;omega
   refine .plain h9 hS hG (.cvnil _ (by rw[c.cut_len (by simp) (by simp)];rfl)) ?_;simp only [Int.toNat_zero] at hbs;simp only [Instr.sliceAt,Instr.slice,aad,run_underlying hu,aaj,aaf,hbs,aB hj,if_true,aba]
  |cvempty _ ad h0=>
   rw[h0] at hb hr;have hbs:=bR (P:=P) (w:=w) (isS:=true) (c:=0) (aac 0) ha hb hr;obtain rfl:a=0:=by have:=hr.2.2;omega
   obtain rfl:b=0:=by have:=hr.2.2;omega
   refine .plain h9 hS hG (.cvempty _ ad (by rw[c.cut_len (by simp) (by simp)];rfl)) ?_;simp only [Int.toNat_zero] at hbs;simp only [Instr.sliceAt,Instr.slice,aad,run_underlying hu,aaj,aaf,hbs,aB hj,if_true,aba,aa1]
 ·rename_i x2 _
  cases mx' with
  |some _=>exact h3.elim
  |none=>
  split at h
  ·rename_i l hl;obtain⟨s,e1,e2⟩:=dD hx hl;subst e1;subst e2;obtain⟨b,h,hb⟩:=dQ h2 h;obtain⟨a,h,ha⟩:=dQ h1 h;obtain⟨hr,h⟩:=aP h;rw[bV] at hb hr;have hbs:=bR (P:=P) (w:=w) (isS:=false) (aac s.size) ha hb hr;refine .plain h hS hG (v:=.string (s.extract a.toNat b.toNat)) ?_ ?_
   ·have e:((bytesOf s).take b.toNat).drop a.toNat=bytesOf (s.extract a.toNat b.toNat):=by unfold bytesOf;rw[←List.map_take, ←List.map_drop,ByteArray.data_extract,Array.toList_extract,abO,abX]
    rw[e];exact .sS _
   ·simp only [Instr.sliceAt,Instr.slice,aad,run_underlying hu,aaj,abe,Bool.false_eq_true,if_false,aaf];simp [hbs,aaj]
  ·exact(ah h).elim
 ·exact(ah h).elim
def rS{t:TypeId}{x:AV}{v:Value}{lo hi mx:Option AV}{lo' hi' mx':Option Value}(hS:SI σ)(hG:Good w0 ρ σ.h w)(hx:VR ρ x v)(h1:OR ρ lo lo')(h2:OR ρ hi hi')(h3:OR ρ mx mx')(h:run (wX P t x lo hi mx k) σ K=true):Res P w0 ρ w k K (Instr.sliceAt t v lo' hi' mx'):=by
 rcases bT h with⟨_,h⟩|⟨_,h⟩
 ·exact Ag hS hG hx h1 h2 h3 h
 ·exact Da hS hG hx h1 h2 h3 h
def OR.mono{ρ ρ':Rho}(hle:ρ.le ρ'){a:Option AV}{v:Option Value}(h:OR ρ a v):OR ρ' a v:=by cases a <;> cases v <;> first|trivial|exact h.elim|exact VR.mono hle h
def u_{t e:TypeId}{n blk:Nat}{c:Ct}{j:TypeInfo}{lo hi:Option AV}{lo' hi':Option Value}(hS:SI σ)(hG:Good w0 ρ σ.h w)(hu:P.underlying t=some (.array n e))(hj:P.info? e=some j)(hcl:c.len=n)(he:c.es=j.size)(hn:0<n)(hv:VR ρ (.cv c) (.slice (some ⟨blk,0,none⟩) n n))(h1:OR ρ lo lo')(h2:OR ρ hi hi')(h:run (wY n c lo hi k) σ K=true):Res P w0 ρ w k K (Instr.sliceAt t (.pointer (some ⟨blk,0,none⟩)) lo' hi' none):=by
 obtain⟨b,h8,hb⟩:=dQ h2 h
 obtain⟨a,h7,ha⟩:=dQ h1 h8
 obtain⟨hr,h9⟩:=aP h7
 clear h h8 h7
 have hbs:=bR (P:=P) (w:=w) (isS:=false) (aac n) ha hb hr
 obtain⟨a,rfl⟩:∃q:Nat,a=(q:Int):=⟨a.toNat,by omega⟩
 obtain⟨b,rfl⟩:∃q:Nat,b=(q:Int):=⟨b.toNat,by omega⟩
 simp only [aar] at hbs h9
 have hab:a<=b:=by omega
 have hbn:b<=n:=by omega
 have hlen:=c.cut_len hab (by omega:b<=c.len)
 have B':=c.cut_es a b
 have hmul:a * c.es+(b-a) * c.es=b * c.es:=by rw[←aaC];congr 1;omega
 have an4:b * c.es<=c.len * c.es:=aaB _ (by omega)
 have c7:(Instr.sliceAt t (.pointer (some ⟨blk,0,none⟩)) lo' hi' none).run P w= .ok (.slice (some (if n=a then⟨blk,0,none⟩ else⟨blk,0+a * j.size,none⟩)) (b-a) (n-a)) w:=by simp only [Instr.sliceAt,Instr.slice,aad,run_underlying hu,aaj,Instr.sureAddr,aaf,hbs,aB hj,aa1,jt,bP]
 rw[←he] at c7
 generalize hvv:Value.slice (some ⟨blk,0,none⟩) n n=vv at hv
 cases hv with
 |cv _ au0 off cp arr ty hf hc hbd r=>
  injection hvv with e1 e2 e3
  injection e1 with e1
  injection e1 with e4 e5
  subst e4;subst e5;subst e3
  by_cases hca:n=a
  ·rw[if_pos hca] at c7;have hz:0+(c.cut a b).len * (c.cut a b).es<=arr.size:=by rw[hlen,show b-a=0 by omega,abc];omega
   have:=VR.cv (ρ:=ρ) (c.cut a b) blk 0 (n-a) arr ty hf (by omega) hz (λi q av u hi hq hu2=>by omega);rw[hlen] at this;exact .plain h9 hS hG this c7
  ·rw[if_neg hca] at c7;have:=VR.cv (ρ:=ρ) (c.cut a b) blk (0+a * c.es) (n-a) arr ty hf (by omega) (by rw[hlen,B'];omega) (λi q av u hi hq hu2=>by rw[hlen] at hi;rw[c.cut_row (by omega)] at hq;rw[B'] at hu2;exact r (a+i) q av u (by omega) hq (by rw[←hu2];congr 1;rw[aaC];omega));rw[hlen] at this;exact .plain h9 hS hG this c7
 |cvnil _ h0=>omega
 |cvempty _ _ h0=>omega
def Lx{t:TypeId}{b g o:Nat}{q:ABlk}{v:Value}{lo hi mx:Option AV}{lo' hi' mx':Option Value}(hS:SI σ)(hG:Good w0 ρ σ.h w)(c8:b+1<2 ^ 64)(hq:σ.h.get b=some q)(hx:VR ρ (.ptr b g o) v)(h1:OR ρ lo lo')(h2:OR ρ hi hi')(h3:OR ρ mx mx')(h:run (KS P t b g o q lo hi mx k) σ K=true):Res P w0 ρ w k K (Instr.sliceAt t v lo' hi' mx'):=by
 obtain⟨d,hu,z1⟩:=cL h
 split at z1
 ·rename_i n e
  cases mx' with
  |some _=>exact h3.elim
  |none=>
  obtain⟨j,hj,z2⟩:=cG z1
  obtain⟨ho0,z3⟩:=ay z2
  have ho0:=aae ho0
  cases hx with
  |ptr _ _ _ hm hh ho=>
   have e0:o-hm.shift=0:=by omega
   rw[e0];split at z3
   ·rename_i c gen ty;obtain⟨k1,y1⟩:=ay z3;obtain⟨k2,y2⟩:=ay y1;obtain⟨k3,y3⟩:=ay y2;obtain⟨k4,y4⟩:=aP y3;clear h z1 z2 z3 y1 y2 y3;have k1:=aae k1;have k2:=aae k2;have k3:=bU k3;subst k1;rcases hG.blk _ _ hq with hz|⟨hm',r1,r2,r3,arr,fr,r4,r5,r6,_⟩
    ·omega
    rw[hh] at r1;injection r1 with r1;subst r1;have hgv:VR ρ (.gsl b g n c.es) (.slice (some ⟨hm.blk,0,none⟩) n n):=.gsl b g n c.es hm n (by omega) hh r2 (aac _) (by rw[←k4];exact r6);rcases bT y4 with⟨hb,y5⟩|⟨_,y5⟩
    ·obtain⟨hb1,hb2⟩:=aD hb
     have lo0:lo=none:=by cases lo with|none=>rfl|some _=>cases hb1
     have hi0:hi=none:=by cases hi with|none=>rfl|some _=>cases hb2
     subst lo0;subst hi0
     cases lo' with
     |some _=>exact h1.elim
     |none=>
     cases hi' with
     |some _=>exact h2.elim
     |none=>
     rw[←k2] at y5
     refine .plain y5 hS hG hgv ?_
     have hbs:=bR (P:=P) (w:=w) (isS:=false) (lo':=none) (hi':=none) (l:=0) (h:=(n:Int)) (aac n) (.inl ⟨rfl,rfl⟩) (.inl ⟨rfl,rfl⟩) (by omega)
     simp only [aar,Int.toNat_zero] at hbs
     have hn0:n≠0:=by omega
     simp only [Instr.sliceAt,Instr.slice,aad,run_underlying hu,aaj,Instr.sureAddr,aaf,hbs,aB hj,aa1,jt,bP,if_neg hn0,abc,aap,abp]
    ·obtain⟨hlo,y6⟩:=ay y5;have hlo:=bU hlo;obtain⟨x0,d8,hx0,e2,f9,_,y7⟩:=fw hS y6;obtain⟨ρ',f1,f2,f3⟩:=hG.freeze hq c8 hlo;rw[←k4] at hgv;have hcv:=f3 ρ' (.refl _) _ (hgv.mono f1);rw[k4] at hcv;obtain⟨av,a9,ρ2,v2,w2,q1,q2,q3,q4,q5,q6⟩:=u_ f9 (by rw[e2];exact f2) hu hj k4 k2 (by omega) hcv (h1.mono f1) (h2.mono f1) y7;exact⟨av,a9,ρ2,v2,w2,q1,q2,q3,f1.trans q4,q5,q6⟩
   ·rename_i c gen;obtain⟨k1,y1⟩:=ay z3;obtain⟨k2,y2⟩:=ay y1;obtain⟨k3,y3⟩:=ay y2;obtain⟨k4,y4⟩:=aP y3;clear h z1 z2 z3 y1 y2 y3;have k1:=aae k1;have k2:=aae k2;have k3:=bU k3;subst k1;have hB:=hG.blk _ _ hq;have hB2:=hB;rcases hB with hz|⟨hm',arr,ty,r1,r2,r3,r4,_⟩
    ·omega
    rw[hh] at r1;injection r1 with r1;subst r1;obtain⟨⟨fr,hw⟩,_⟩:=hG.frz _ _ _ r3;have hcv:VR ρ (.cv c) (.slice (some ⟨hm.blk,0,none⟩) n n):=by
     rw[←k4];rcases hB2 with hz|⟨hm',p7,ty',s1,s2,s3,s4,s5⟩
     ·omega
     rw[hh] at s1;injection s1 with s1;subst s1;refine .cv c hm.blk 0 c.len p7 ty' s3 (aac _) (by omega) λi j' a u hi ha hu'=>?_;obtain⟨u2,u3,u4⟩:=s5 i hi j' a ha;rw[aap,u3] at hu';injection hu' with hu';subst hu';exact u4
    exact u_ hS hG hu hj k4 k2 (by omega) hcv h1 h2 y4
   ·exact(ah z3).elim
 ·exact(ah z1).elim
def Ly{t:TypeId}{b g n es:Nat}{v:Value}{lo hi mx:Option AV}{lo' hi' mx':Option Value}(hS:SI σ)(hG:Good w0 ρ σ.h w)(hx:VR ρ (.gsl b g n es) v)(h1:OR ρ lo lo')(h2:OR ρ hi hi')(h3:OR ρ mx mx')(h:run (Uy P t b g n es lo hi mx k) σ K=true):Res P w0 ρ w k K (Instr.sliceAt t v lo' hi' mx'):=by
 obtain⟨d,hu,h⟩:=cL h
 cases mx with
 |some _=>exact(ah h).elim
 |none=>
 cases mx' with
 |some _=>exact h3.elim
 |none=>
 cases d with
 |slice e=>
  obtain⟨j,hj,h⟩:=cG h
  obtain⟨he,h⟩:=ay h
  have he:=aM he
  obtain⟨Q',h8,hb⟩:=dQ h2 h
  clear h
  have key:∀(l:Int) (c:Nat) (blk:Nat),n<=c->((lo'=none/\l=0)∨∃kk,lo'=some (.int kk l))->0<=l/\l<=Q'/\Q'<=(n:Int)->
   (Instr.sliceAt t (.slice (some ⟨blk,0,none⟩) n c) lo' hi' none).run P w= .ok (.slice (some (if c=l.toNat then⟨blk,0,none⟩ else⟨blk,l.toNat * es,none⟩)) (Q'.toNat-l.toNat) (c-l.toNat)) w:=λl c blk hc hl hr=>by
   have hbs:=bR (P:=P) (w:=w) (isS:=true) hc hl hb hr
   simp only [Instr.sliceAt,Instr.slice,aad,run_underlying hu,aaj,aaf,hbs,aB hj,aa1,jt,bP,aap,he]
  have ag_:∀(a:Option Addr) (l:Int),n=0->((lo'=none/\l=0)∨∃kk,lo'=some (.int kk l))->l=0->Q'=0->(Instr.sliceAt t (.slice a 0 0) lo' hi' none).run P w= .ok (.slice a 0 0) w:=λa l h0 hl el eh=>by subst el;subst eh;rw[h0] at hb;have hbs:=bR (P:=P) (w:=w) (isS:=true) (c:=0) (aac 0) hl hb ⟨by omega,by omega,by simp⟩;simp only [Int.toNat_zero] at hbs;cases a <;> simp only [Instr.sliceAt,Instr.slice,aad,run_underlying hu,aaj,aaf,hbs,aB hj,if_true,aba,aa1,Option.map_none]
  obtain⟨l,h10,hl⟩:=dQ h1 h8
  clear h8
  rcases dw h10 with⟨h0,h11⟩|⟨h0,h11⟩
  ·obtain⟨⟨el,eh⟩,h12⟩:=aP h11
   cases hx with
   |gsl _ _ _ _ hm c hn hh hs hc hz=>omega
   |gnil _ _ _=>exact .plain h12 hS hG (.gnil _ _ _) (ag_ none l rfl hl el eh)
   |gempty _ _ _ a=>exact .plain h12 hS hG (.gempty _ _ _ a) (ag_ (some a) l rfl hl el eh)
  ·obtain⟨hr,h12⟩:=aP h11
   cases hx with
   |gsl _ _ _ _ hm c hn hh hs hc hz=>
    have c7:=key l c hm.blk hc hl hr;have hlen:(Q'-l).toNat=Q'.toNat-l.toNat:=by omega
    rw[hlen] at h12;refine .plain h12 hS hG (.slc _ _ _ _ _ _ _ _ ⟨by omega, ?_⟩) c7;by_cases hca:c=l.toNat
    ·exact .inl ⟨by omega,by omega⟩
    ·refine .inr ⟨hm,hh,by omega,by rw[if_neg hca,hs,abp], ?_⟩;have:c * es=l.toNat * es+(c-l.toNat) * es:=by rw[←aaC];congr 1;omega
     omega
   |gnil _ _ _=>exact absurd rfl h0
   |gempty _ _ _ a=>exact absurd rfl h0
 |_=>exact(ah h).elim
def Iy{t:TypeId}{x:AV}{v:Value}{lo hi mx:Option AV}{lo' hi' mx':Option Value}(hS:SI σ)(hG:Good w0 ρ σ.h w)(hx:VR ρ x v)(h1:OR ρ lo lo')(h2:OR ρ hi hi')(h3:OR ρ mx mx')(h:run (CT P t x lo hi mx k) σ K=true):Res P w0 ρ w k K (Instr.sliceAt t v lo' hi' mx'):=by
 unfold CT at h
 split at h
 ·exact Ly hS hG hx h1 h2 h3 h
 ·have c8:=di hS h;obtain⟨q,b7,hq,e1,b6,z⟩:=bE hS h;have b9:Good w0 ρ b7.h w:=by rw[e1];exact hG
  rcases bT z with⟨_,z⟩|⟨_,z⟩
  ·exact Lx b6 b9 c8 (by rw[e1];exact hq) hx h1 h2 h3 z
  ·exact rS b6 b9 hx h1 h2 h3 z
 ·exact rS hS hG hx h1 h2 h3 h
end
end Go.Sym
namespace Go.Sym
open Go.RowKit (Below)
def nC(ρ:Rho)(s:ByteArray):LR ρ (eQ (bytesOf s)) (s.data.toList.map λb=>Value.int .u8 b.toNat):=by
 refine⟨by simp [eQ,bytesOf],λi a v ha hv=>?_⟩
 unfold eQ bytesOf at ha
 rw[aa8,aaO] at ha
 rw[aaO] at hv
 cases hs:s.data.toList[i]? with
 |none=>rw[hs] at ha;cases ha
 |some b=>rw[hs] at ha hv;injection ha with ha;injection hv with hv;subst ha;subst hv;exact .int .u8 (b.toNat:Int)
def u8LT{ρ:Rho}:∀{l:List AV} {vs:List Value} {r:List Nat},KJ l=some r->LR ρ l vs->∃bs:List UInt8,r=bs.map UInt8.toNat/\vs=bs.map λb=>Value.int .u8 (b.toNat:Int):=by
 intro l
 induction l with
 |nil=>intro vs r h hl;injection h with h;subst h;exact⟨[],rfl,hl.nil_inv⟩
 |cons a l ih=>
  intro vs r h hl;obtain⟨v,E',rfl,hv,q9⟩:=hl.cons_inv;unfold KJ at h;split at h
  ·rename_i e;cases e
  ·rename_i n r' e;injection e with e1 e2;subst e1;subst e2;split at h
   ·rename_i hn;split at h
    ·rename_i l' hl2;injection h with h;subst h;obtain⟨bs,e1,e2⟩:=ih hl2 q9;cases hv;have hnn:(UInt8.ofNat n).toNat=n:=by simp;omega
     refine⟨UInt8.ofNat n::bs,by rw[aax,hnn,e1], ?_⟩;rw[aax,hnn,e2];rfl
    ·cases h
   ·cases h
  ·cases h
def Db{ρ:Rho}:∀{l:List AV} {vs:List Value} {ns:List Int},gq l=some ns->inB ns->LR ρ l vs->∃bs:List UInt8,aI ns=bs.map UInt8.toNat/\vs=bs.map λb=>Value.int .u8 (b.toNat:Int):=by
 intro l
 induction l with
 |nil=>intro vs r h _ hl;injection h with h;subst h;exact⟨[],rfl,hl.nil_inv⟩
 |cons a l ih=>
  intro vs r h hb hl;obtain⟨v,E',rfl,hv,q9⟩:=hl.cons_inv;unfold gq at h;split at h
  ·rename_i n hn;split at h
   ·rename_i r' hr;injection h with h;subst h;obtain⟨⟨h0,h1⟩,hb⟩:=hb;obtain⟨bs,e1,e2⟩:=ih hr hb q9;have hnn:(UInt8.ofNat n.toNat).toNat=n.toNat:=by simp;omega
    refine⟨UInt8.ofNat n.toNat::bs,by rw[aax,hnn, ←e1];rfl, ?_⟩;rw[aax,hnn,e2,bo hv hn,abf h0]
   ·cases h
  ·cases h
def Ah{ρ:Rho}{l:List AV}{vs:List Value}{k:AV->Tr}{σ:St}{K:Fin}(hl:LR ρ l vs)(h:run (nq l k) σ K=true):∃(bs:List UInt8) (x:AV),vs=(bs.map λb=>Value.int .u8 (b.toNat:Int))/\VR ρ x (.string ⟨bs.toArray⟩)/\run (k x) σ K=true:=by
 unfold nq at h;split at h
 ·rename_i r hr;obtain⟨bs,e2,e3⟩:=u8LT hr hl;subst e2;refine⟨bs,_,e3, ?_,h⟩;have:=VR.str (ρ:=ρ) ⟨bs.toArray⟩;simpa [bytesOf] using this
 ·obtain⟨ns,hr,h⟩:=ce h;obtain⟨hp,h⟩:=aP h;obtain⟨bs,e2,e3⟩:=Db hr hp hl;rw[e2] at h;refine⟨bs,_,e3, ?_,h⟩;have:=VR.sS (ρ:=ρ) ⟨bs.toArray⟩;simpa [bytesOf] using this
section
variable{P:Program}{w0:World}{ρ:Rho}{w:World}{σ:St}{K:Fin}{k:AV->Tr}
def Iz{src dst e:TypeId}{x:AV}{v:Value}(hS:SI σ)(hG:Good w0 ρ σ.h w)(hs:P.underlying src=some (.slice e))(hd:P.underlying dst=some .string)(he:P.underlying e=some (.int .u8))(hx:VR ρ x v){b g o len es:Nat}{cap:Option Nat}(ex:x= .slc b g o len cap es)(h:run (ac (Nat.beq len 0) (k (.str [])) (kC b g o len λl=>nq l k)) σ K=true):
 Res P w0 ρ w k K (convert src dst v):=by
 subst ex
 cases hx with
 |slc b g o len cap es a c V'=>
  rcases bT h with⟨hb,h⟩|⟨hb,h⟩
  ·have hb:=aM hb;subst hb;refine .plain h hS hG (v:=.string ⟨#[]⟩) ?_ ?_
   ·exact .str ⟨#[]⟩
   ·exact run_convert_bytes_back w src dst e a c [] hs he hd (λj hj=>by cases hj)
  ·have hb:0<len:=by
    rcases aaU len with e|e
    ·subst e;simp at hb
    ·exact e
   obtain⟨hm,hh,ho,ea⟩:=C9 V' hb;subst ea;obtain⟨l,cs,a9,e1,r9,h,hL,hlen,j5,_⟩:=mq (P:=P) hS hG hh ho h;obtain⟨bs,x,e3,hx,h⟩:=Ah hL h;have hbl:bs.length=len:=by rw[←hlen,e3,aaR]
   refine .plain h r9 (by rw[e1];exact hG) (v:=.string ⟨bs.toArray⟩) hx ?_
   ·have:=run_convert_bytes_back (P:=P) w src dst e ⟨hm.blk,o-hm.shift,none⟩ c bs hs he hd (λj hj=>by
     have h1:=j5 j (.int .u8 (bs[j].toNat:Int)) (by rw[e3];simp [hj]);unfold Addr.add;split
     ·rename_i e;subst e;simpa using h1
     ·exact h1)
    rw[hbl] at this;exact this
def IA{src dst:TypeId}{x:AV}{v:Value}(hS:SI σ)(hG:Good w0 ρ σ.h w)(hx:VR ρ x v)(h:run (KK P src dst x k) σ K=true):Res P w0 ρ w k K (convert src dst v):=by
 obtain⟨s,hs,h1⟩:=cL h;obtain⟨d,hd,h2⟩:=cL h1;clear h h1;split at h2 <;> (have h:=h2;clear h2)
 ·cases hx;have h:=jV h;refine .plain h hS hG (.int _ _) ?_;simp [convert,run_underlying hs,run_underlying hd,Conv.intToInt]
 ·cases hx;refine .plain h hS hG (.str _) ?_;simp [convert,run_underlying hs,run_underlying hd]
 ·obtain⟨de,he,h⟩:=cL h;split at h
  ·cases hx;refine .plain h hS hG (v:=.string ⟨#[]⟩) (.str ⟨#[]⟩) ?_;exact(run_convert_bytes_nil w src _ hs he 0 0 dst hd)
  ·exact Iz hS hG hs hd he hx rfl h
  ·exact(ah h).elim
 ·exact(ah h).elim
def Ai{src dst e:TypeId}{s:List Nat}{a:Addr}{c:Nat}(hs:P.underlying src=some (.slice e))(hd:P.underlying dst=some .string)(he:P.underlying e=some (.int .u8))(hc:∀j n,s[j]? =some n->w.cell? (a.add j)=some (.int .u8 (n:Nat))):∃t:ByteArray,bytesOf t=mj s/\(convert src dst (.slice (some a) s.length c)).run P w= .ok (.string t) w:=by
 have fold:∀(l:List Nat) (r:ByteArray),(l.map (λn:Nat=>(n:Int))).foldl (λr n=>r.push (UInt8.ofNat n.toNat)) r=⟨r.data++(l.map UInt8.ofNat).toArray⟩:=by
  intro l
  induction l with
  |nil=>intro r;simp
  |cons n l ih=>intro r;simp only [aax,List.foldl_cons];rw[ih];simp [ByteArray.push]
 refine⟨⟨(s.map UInt8.ofNat).toArray⟩, ?_, ?_⟩
 ·simp [bytesOf,mj,aa8,Function.comp_def]
 ·rw[run_convert_bytes_string w src dst e (some a) s.length c hs he hd];have hl:=run_loadCells_list (P:=P) w a ((s.map (λn:Nat=>(n:Int))).map (Value.int .u8)) (λj v hj=>by
   rw[aa8,aaO] at hj
   cases hn:s[j]? with
   |none=>rw[hn] at hj;cases hj
   |some n=>rw[hn] at hj;injection hj with hj;rw[←hj];exact hc j n hn)
  simp only [aaR] at hl;rw[run_bytesToString w a s.length c _ hl,fold];have he0:ByteArray.empty.data= #[]:=rfl;rw[he0];simp
def vg{s:List Nat}{j n:Nat}(h:s[j]? =some n):((Ct.bytes s).row j)[0]? =some (.sI .u8 (n:Nat)):=by simp [Ct.row,aag,h]
def Dc{src dst:TypeId}{x:AV}{v:Value}(hS:SI σ)(hG:Good w0 ρ σ.h w)(hx:VR ρ x v)(h:run (zM P src dst x k) σ K=true):Res P w0 ρ w k K (convert src dst v):=by
 obtain⟨s,hs,h1⟩:=cL h;obtain⟨d,hd,h2⟩:=cL h1;clear h h1;split at h2 <;> (have h:=h2;clear h2)
 ·cases hx;have h:=jo h;refine .plain h hS hG (.sI _ _) ?_;simp [convert,run_underlying hs,run_underlying hd,Conv.intToInt]
 ·cases hx;refine .plain h hS hG (.sS _) ?_;simp [convert,run_underlying hs,run_underlying hd]
 ·obtain⟨de,he,h⟩:=cL h;split at h
  ·rename_i e s _ _
   cases hx with
   |cv _ blk off cp arr ty hf hc hb r=>
    obtain⟨⟨fr,hw⟩,_⟩:=hG.frz _ _ _ hf;have hb:off+s.length * 1<=arr.size:=hb;obtain⟨t,ht,c7⟩:=Ai (P:=P) (w:=w) (s:=s) (a:=⟨blk,off,none⟩) (c:=cp) hs hd he (λj n hj=>by
     have hjl:j<s.length:=by
      rcases aah j s.length with h'|h'
      ·exact h'
      ·rw[aam h'] at hj;cases hj
     have hv:arr[off+j * 1+0]? =some arr[off+j]:=by rw[aaJ,aau];exact aaQ (by omega)
     have:=r j 0 _ _ hjl (vg hj) hv
     rw[bP]
     simp only [World.cell?,hw]
     simp only [abe,Bool.false_eq_true,if_false]
     rw[aaQ (by omega)]
     cases j5:arr[off+j]'(by omega) with
     |int k2 n2=>rw[j5] at this;cases this;rfl
     |_=>rw[j5] at this;cases this)
    refine .plain h hS hG (v:=.string t) (by rw[←ht];exact .sS t) c7
   |cvnil _ h0=>have h0:s.length=0:=h0;have:s= []:=List.length_eq_zero_iff.1 h0;subst this;refine .plain h hS hG (v:=.string ⟨#[]⟩) (.sS ⟨#[]⟩) (run_convert_bytes_nil w src _ hs he 0 0 dst hd)
   |cvempty _ a h0=>have h0:s.length=0:=h0;have:s= []:=List.length_eq_zero_iff.1 h0;subst this;refine .plain h hS hG (v:=.string ⟨#[]⟩) (.sS ⟨#[]⟩) (run_convert_bytes_back w src dst _ a 0 [] hs he hd (λj hj=>by cases hj))
  ·exact(ah h).elim
 ·rename_i e b g n es;obtain⟨de,he,h⟩:=cL h;split at h
  ·obtain⟨q,b7,hq,e1,b6,z0⟩:=bE hS h;clear h;have b9:Good w0 ρ b7.h w:=by rw[e1];exact hG
   split at z0
   ·rename_i s gen ty
    obtain⟨k1,z1⟩:=ay z0
    obtain⟨k2,z2⟩:=ay z1
    obtain⟨k3,z3⟩:=aP z2
    clear z0 z1 z2
    have k1:=aM k1
    have k2:=aM k2
    subst k1;subst k2
    have hsn:∀{m:Nat},s.length=m->m=0->s= []:=λe1 e2=>List.length_eq_zero_iff.1 (by omega)
    cases hx with
    |gsl _ _ _ _ hm c hn0 hh hsh hcc hz=>
     rcases hG.blk _ _ hq with h0|⟨hm',q1,q2,q3,arr,fr,q4,q5,q6,q7,q8⟩
     ·have h0:s.length=0:=h0;omega
     rw[hh] at q1;injection q1 with q1;subst q1;obtain⟨t,ht,c7⟩:=Ai (P:=P) (w:=w) (s:=s) (a:=⟨hm.blk,0,none⟩) (c:=c) hs hd he (λj n hj=>by
      have hjl:j<s.length:=by
       rcases aah j s.length with h'|h'
       ·exact h'
       ·rw[aam h'] at hj;cases hj
      obtain⟨u,u1,u2⟩:=q8 j hjl 0 _ (vg hj);rw[bP];simp only [World.cell?,q4];simp only [abe,Bool.false_eq_true,if_false,aap];have u1:arr[j * 1+0]? =some u:=u1;rw[aaJ,aau] at u1;rw[u1];cases u2;rfl)
     rw[k3] at c7;exact .plain z3 b6 b9 (v:=.string t) (by rw[←ht];exact .sS t) c7
    |gnil _ _ _=>obtain rfl:=hsn k3 rfl;exact .plain z3 b6 b9 (v:=.string ⟨#[]⟩) (.sS ⟨#[]⟩) (run_convert_bytes_nil w src _ hs he 0 0 dst hd)
    |gempty _ _ _ a=>obtain rfl:=hsn k3 rfl;exact .plain z3 b6 b9 (v:=.string ⟨#[]⟩) (.sS ⟨#[]⟩) (run_convert_bytes_back w src dst _ a 0 [] hs he hd (λj hj=>by cases hj))
   ·exact(ah z0).elim
  ·exact(ah h).elim
 ·exact(ah h).elim
def Lz{src dst:TypeId}{x:AV}{v:Value}(hS:SI σ)(hG:Good w0 ρ σ.h w)(hx:VR ρ x v)(h:run (Uv P src dst x k) σ K=true):Res P w0 ρ w k K (convert src dst v):=by
 rcases bT h with⟨_,h⟩|⟨_,h⟩
 ·exact Dc hS hG hx h
 ·exact IA hS hG hx h
end
end Go.Sym
namespace Go.Sym
open Go.RowKit (Below)
section
variable{P:Program}{w0:World}{ρ:Rho}{w:World}{σ:St}{K:Fin}{k:AV->Tr}
def bu{r:Nat}{o:Obj}(h:w.heap[r]? =some o)(ho:∀c t f,o≠ .cells c t f):(getObj r).run P w= .ok o w:=by cases o <;> first|(exact absurd rfl (ho _ _ _))|(simp [getObj,Sem.run,h])
def Rb{x:AV}{v:Value}{f:Nat->Tr}(hx:VR ρ x v)(h:run (KT x f) σ K=true):∃n,run (f n) σ K=true/\∀w,(Builtin.lenOf v).run P w= .ok n w:=by
 cases hx with
 |nils=>exact⟨0,h,λ_=>rfl⟩
 |slc b g o len cap es a c V'=>exact⟨len,h,λ_=>rfl⟩
 |str s=>
  have hn:(bytesOf s).length=s.size:=by unfold bytesOf;rw[aaR];rfl
  exact⟨s.size,by have:=ke h;rw[hn] at this;exact this,λ_=>rfl⟩
 |_=>exact(ah h).elim
def vh{x:AV}{v:Value}{size n len:Nat}{f:List AV->Tr}(hS:SI σ)(hG:Good w0 ρ σ.h w)(hx:VR ρ x v)(hlen:(Builtin.lenOf v).run P w= .ok len w)(hn:n<=len)(T':1<=size)(h:run (oT size n x f) σ K=true):
 ∃l cs a9,a9.h=σ.h/\SI a9/\run (f l) a9 K=true/\LR ρ l cs/\cs.length=n * size/\∀w2:World,w2.heap=w.heap->(Builtin.firstCells size n v).run P w2= .ok cs.toArray w2:=by
 cases hx with
 |nils=>
  have:len=0:=by have:Result.ok 0 w=Result.ok len w:=hlen;injection this with e;exact e.symm
  subst this
  have:n=0:=by omega
  subst this
  exact⟨[],[],σ,rfl,hS,h,LR.nil ρ,by simp,λ_ _=>rfl⟩
 |slc b g o ln cap es a c V'=>
  have:ln=len:=by have:Result.ok ln w=Result.ok len w:=hlen;injection this
  subst this
  rcases bT h with⟨hz,h⟩|⟨hz,h⟩
  ·have hz:=aM hz;refine⟨[],[],σ,rfl,hS,h,LR.nil ρ,by simp [hz],λw2 _=>?_⟩;simp [Builtin.firstCells,hz,loadCells,loadCellsFrom]
  ·have h:=ke h;have l8:0<ln:=by
    rcases aaU n with e|e
    ·subst e;simp at hz
    ·omega
   obtain⟨hm,hh,ho,ea⟩:=C9 V' l8;subst ea;obtain⟨l,cs,a9,e1,r9,h,hL,hlen,j5,_⟩:=mq (P:=P) hS hG hh ho h;refine⟨l,cs,a9,e1,r9,h,hL,hlen,λw2 hw2=>run_firstCells_some w2 size n _ ln c cs hlen λj v hj=>?_⟩;rw[dE ho, ←j5 j v hj];simp only [World.cell?,hw2];rw[show o+j-hm.shift=o-hm.shift+j by omega]
 |str s=>
  obtain⟨h1,h⟩:=ay h
  have h1:=aM h1
  subst h1
  have h:=gY (Wt h)
  have hls:s.size=len:=by have:Result.ok s.size w=Result.ok len w:=hlen;injection this
  have hL:=(nC ρ s).take n
  have e1:(eQ (bytesOf s)).take n=eQ ((bytesOf s).take n):=by simp [eQ,List.map_take]
  rw[e1] at hL
  refine⟨_,_,σ,rfl,hS,h,hL, ?_,λw2 _=>?_⟩
  ·have:s.data.size=s.size:=rfl;simp;omega
  simp only [Builtin.firstCells,aaf]
  congr 1
  apply Array.ext'
  simp [ByteArray.data_extract,abO]
 |_=>exact(ah h).elim
def Fi{e:TypeId}{size need:Nat}{old new:List AV}{ovs nvs:List Value}{rest:Nat->List Value}{a:Value}(hS:SI σ)(hG:Good w0 ρ σ.h w)(ho:LR ρ old ovs)(hn:LR ρ new nvs)(c:Nat)(hc:need<=c)(hr:ovs.length+nvs.length+(rest c).length=c * size)(h:run (mn e size old new need k) σ K=true)(s:Sem Value)(hs:s.run P w= .ok (.slice (some ⟨w.heap.size,0,none⟩) need c) (w.drew.alloc (.cells (ovs++nvs++rest c).toArray e))):Res P w0 ρ w k K s:=by
 have h:=gY h
 have hL:=ho.append hn
 obtain⟨b,a9,h2,r9,hle,j9⟩:=pe (w:=w.drew) (ovs++nvs++rest c).toArray e hS (hG.drawn _) (by simp [ho.1,hn.1]) (λi a ha=>by
  obtain⟨v,hv,hr⟩:=hL.get ha;refine⟨v, ?_,hr⟩;have hi:i<(ovs++nvs).length:=by
   rcases aah i (ovs++nvs).length with h'|h'
   ·exact h'
   ·rw[aam h'] at hv;cases hv
  show(ovs++nvs++rest c).toArray[i]? =some v;rw[aa7,aaD hi];exact hv) h
 refine⟨_,a9,_,_,_,h2,r9,j9,hle, ?_,hs⟩
 refine .slc _ _ _ _ _ _ _ _ ⟨hc,.inr ⟨_,Rho.put_at _ _ _ _,aaq _,rfl, ?_⟩⟩
 show 0-0+c * size<=(ovs++nvs++rest c).toArray.size
 simp;omega
def IB{g:Nat}{f:T Cell->Tr}:∀(l:List AV) (i:Nat) (t:T Cell),run (KU g l i t f) σ K=true->
 ∃c,run (f c) σ K=true/\(∀a∈l,gm a=true)/\∀o x,c.get o=some x->(∃(j:Nat) (a:AV),o=i+j/\l[j]? =some a/\x= .mk g a)∨(t.get o=some x/\(o<i∨i+l.length<=o)):=by
 intro l
 induction l with
 |nil=>intro i t h;exact⟨t,h,by simp,λo x hx=>.inr ⟨hx,by simp;omega⟩⟩
 |cons a l ih=>
  intro i t h
  have h:run (ac (gm a) (T.setK t i (.mk g a) λt=>fN (Nat.succ i) λi=>KU g l i t f) .fail) σ K=true:=h
  obtain⟨h1,h⟩:=ay h
  rw[T.setK_eq] at h
  obtain⟨c,h2,h3,h4⟩:=ih _ _ (ke h)
  refine⟨c,h2,λb hb=>?_,λo x hx=>?_⟩
  ·rcases List.mem_cons.mp hb with e|hb
   ·subst e;exact h1
   ·exact h3 b hb
  ·rcases h4 o x hx with⟨j,b,e,hb,hx'⟩|⟨hx',ho⟩
   ·exact .inl ⟨j+1,b,by omega,by simpa using hb,hx'⟩
   ·by_cases e:o=i
    ·subst e;have:=T.get_set_some _ _ hx';exact .inl ⟨0,a,by omega,rfl,this⟩
    ·rw[T.get_set_ne _ e] at hx';exact .inr ⟨hx',by simp at ho⊢;omega⟩
def Good.fork{H:T ABlk}{w':World}(hG:Good w0 ρ H w){b gen lo hi fl fh hi' ty:Nat}{c c':T Cell}{h2:Home}(hb:H.get b=some (.cells c gen lo hi fl fh false ty))(c8:b+1<2 ^ 64)(hbe:Kept ρ.own w0.heap.size w w')(ah3:∀k,k<w.heap.size->(∀g h,ρ.at_ b g=some h->h.blk≠k)->w'.heap[k]? =w.heap[k]?)(T':w.heap.size<=w'.heap.size)(ac0:∀b' g h,b'≠b->ρ.at_ b' g=some h->w'.heap[h.blk]? =w.heap[h.blk]?)(hh2:h2.blk<w'.heap.size)(m6:(∃g',ρ.at_ b g'=some h2)∨w.heap.size<=h2.blk)(hB:ρ.le (ρ.put b (gen+1) h2)->BR (ρ.put b (gen+1) h2) w0.heap.size w' b (.cells c' (gen+1) lo hi' fl fh false ty)):
 ρ.le (ρ.put b (gen+1) h2)/\Good w0 (ρ.put b (gen+1) h2) (H.set b (.cells c' (gen+1) lo hi' fl fh false ty)) w':=by
 have ac6:ρ.at_ b (gen+1)=none:=by
  cases h:ρ.at_ b (gen+1) with
  |none=>rfl
  |some x=>have:gen+1<=gen:=hG.gens b (gen+1) x _ h hb;omega
 have hle:ρ.le (ρ.put b (gen+1) h2):=Rho.le_put ac6
 refine⟨hle,⟨hG.below.trans hbe,λb' y hy=>?_,λb' g h hh=>?_,λb1 g1 x1 b2 g2 x2 hx1 Z' e=>?_,λb' g h y hh hy=>?_,λb' arr ty hf=>?_,hG.frzB,λb' k I l Q' g h hh=>?_⟩,λx hx=>by obtain⟨b,g,h,q1,q2,q3⟩:=hG.ownB x hx;exact⟨b,g,h,q1,hle.at_ _ _ _ q2,q3⟩⟩
 ·by_cases e:b'=b
  ·subst e;rw[T.get_set_same _ _ _ c8] at hy;injection hy with hy;subst hy;exact hB hle
  ·rw[T.get_set_ne _ e] at hy;exact(hG.blk b' y hy).keep hle λg h hh=>ac0 b' g h e hh
 ·simp only [Rho.put] at hh;split at hh
  ·rename_i e;injection hh with hh;subst hh;exact⟨hh2,_,by rw[e.1];exact T.get_set_same _ _ _ c8⟩
  ·obtain⟨q1,y,q2⟩:=hG.dom _ _ _ hh;refine⟨by omega, ?_⟩;by_cases e:b'=b
   ·subst e;exact⟨_,T.get_set_same _ _ _ c8⟩
   ·exact⟨y,by rw[T.get_set_ne _ e];exact q2⟩
 ·simp only [Rho.put] at hx1 Z';split at hx1
  ·rename_i c1;injection hx1 with hx1;subst hx1;split at Z'
   ·rename_i c2;injection Z' with Z';exact⟨c1.1.trans c2.1.symm,Z'⟩
   ·rcases m6 with⟨g',hg'⟩|m6
    ·rw[c1.1];exact hG.inj _ _ _ _ _ _ hg' Z' e
    ·have:=(hG.dom _ _ _ Z').1;omega
  ·split at Z'
   ·rename_i c2;injection Z' with Z';subst Z';rcases m6 with⟨g',hg'⟩|m6
    ·rw[c2.1];exact hG.inj _ _ _ _ _ _ hx1 hg' e
    ·have:=(hG.dom _ _ _ hx1).1;omega
   ·exact hG.inj _ _ _ _ _ _ hx1 Z' e
 ·by_cases e:b'=b
  ·subst e;rw[T.get_set_same _ _ _ c8] at hy;injection hy with hy;subst hy;simp only [Rho.put] at hh;split at hh
   ·rename_i c1;show g<=gen+1;omega
   ·have:g<=gen:=hG.gens b' g h _ hh hb;show g<=gen+1;omega
  ·rw[T.get_set_ne _ e] at hy;simp only [Rho.put] at hh;split at hh
   ·rename_i c1;exact absurd c1.1 e
   ·exact hG.gens b' g h y hh hy
 ·have hf:ρ.frz b'=some (arr,ty):=hf;obtain⟨⟨fr,q1⟩,q2⟩:=hG.frz b' arr ty hf;have c9:b'<w.heap.size:=by
   rcases aah b' w.heap.size with h'|h'
   ·exact h'
   ·rw[aaV h'] at q1;cases q1
  refine⟨⟨fr,by rw[ah3 b' c9 (λg h hh=>hG.frzE hf hh hb (λh=>h))];exact q1⟩,λb1 g h hh e=>?_⟩;simp only [Rho.put] at hh;split at hh
  ·injection hh with hh;subst hh;rcases m6 with⟨g',hg'⟩|m6
   ·exact absurd e (hG.frzE hf hg' hb (λh=>h))
   ·omega
  ·obtain⟨y,r1,r2⟩:=q2 _ _ _ hh e;exact⟨y,by rw[T.get_set_ne _ (λe=>by subst e;rw[hb] at r1;injection r1 with r1;subst r1;exact(show False from r2))];exact r1,r2⟩
 ·by_cases e:b'=b
  ·subst e;rw[T.get_set_same _ _ _ c8] at Q';injection Q' with Q';exact absurd Q' (λh=>by cases h)
  ·rw[T.get_set_ne _ e] at Q';simp only [Rho.put] at hh;split at hh
   ·rename_i c1;exact absurd c1.1 e
   ·exact hG.objO b' k I l Q' g h hh
def Good.forkX{H:T ABlk}{w':World}(hG:Good w0 ρ H w){b gen:Nat}{x0 x:ABlk}{h2:Home}(hb:H.get b=some x0)(hg0:∀g,Ky g x0->g<=gen)(hg1:∀g,g<=gen+1->Ky g x)(c8:b+1<2 ^ 64)(hbe:Kept ρ.own w0.heap.size w w')(ah3:∀k,k<w.heap.size->(∀g h,ρ.at_ b g=some h->h.blk≠k)->w'.heap[k]? =w.heap[k]?)(T':w.heap.size<=w'.heap.size)(ac0:∀b' g h,b'≠b->ρ.at_ b' g=some h->w'.heap[h.blk]? =w.heap[h.blk]?)(hh2:h2.blk<w'.heap.size)(m6:(∃g',ρ.at_ b g'=some h2)∨w.heap.size<=h2.blk)(hB:ρ.le (ρ.put b (gen+1) h2)->BR (ρ.put b (gen+1) h2) w0.heap.size w' b x)(hnf:¬zH x0:=by exact λh=>h)(hxo:∀k I l,x≠ .obj k I l:=by intro _ _ _ h;cases h):
 ρ.le (ρ.put b (gen+1) h2)/\Good w0 (ρ.put b (gen+1) h2) (H.set b x) w':=by
 have ac6:ρ.at_ b (gen+1)=none:=by
  cases h:ρ.at_ b (gen+1) with
  |none=>rfl
  |some y=>have:gen+1<=gen:=hg0 _ (hG.gens b (gen+1) y _ h hb);omega
 have hle:ρ.le (ρ.put b (gen+1) h2):=Rho.le_put ac6
 refine⟨hle,⟨hG.below.trans hbe,λb' y hy=>?_,λb' g h hh=>?_,λb1 g1 x1 b2 g2 x2 hx1 Z' e=>?_,λb' g h y hh hy=>?_,λb' arr ty hf=>?_,hG.frzB,λb' k I l Q' g h hh=>?_⟩,λx hx=>by obtain⟨b,g,h,q1,q2,q3⟩:=hG.ownB x hx;exact⟨b,g,h,q1,hle.at_ _ _ _ q2,q3⟩⟩
 ·by_cases e:b'=b
  ·subst e;rw[T.get_set_same _ _ _ c8] at hy;injection hy with hy;subst hy;exact hB hle
  ·rw[T.get_set_ne _ e] at hy;exact(hG.blk b' y hy).keep hle λg h hh=>ac0 b' g h e hh
 ·simp only [Rho.put] at hh;split at hh
  ·rename_i e;injection hh with hh;subst hh;exact⟨hh2,_,by rw[e.1];exact T.get_set_same _ _ _ c8⟩
  ·obtain⟨q1,y,q2⟩:=hG.dom _ _ _ hh;refine⟨by omega, ?_⟩;by_cases e:b'=b
   ·subst e;exact⟨_,T.get_set_same _ _ _ c8⟩
   ·exact⟨y,by rw[T.get_set_ne _ e];exact q2⟩
 ·simp only [Rho.put] at hx1 Z';split at hx1
  ·rename_i c1;injection hx1 with hx1;subst hx1;split at Z'
   ·rename_i c2;injection Z' with Z';exact⟨c1.1.trans c2.1.symm,Z'⟩
   ·rcases m6 with⟨g',hg'⟩|m6
    ·rw[c1.1];exact hG.inj _ _ _ _ _ _ hg' Z' e
    ·have:=(hG.dom _ _ _ Z').1;omega
  ·split at Z'
   ·rename_i c2;injection Z' with Z';subst Z';rcases m6 with⟨g',hg'⟩|m6
    ·rw[c2.1];exact hG.inj _ _ _ _ _ _ hx1 hg' e
    ·have:=(hG.dom _ _ _ hx1).1;omega
   ·exact hG.inj _ _ _ _ _ _ hx1 Z' e
 ·by_cases e:b'=b
  ·subst e;rw[T.get_set_same _ _ _ c8] at hy;injection hy with hy;subst hy;simp only [Rho.put] at hh;split at hh
   ·rename_i c1;exact hg1 g (by omega)
   ·have:g<=gen:=hg0 _ (hG.gens b' g h _ hh hb);exact hg1 g (by omega)
  ·rw[T.get_set_ne _ e] at hy;simp only [Rho.put] at hh;split at hh
   ·rename_i c1;exact absurd c1.1 e
   ·exact hG.gens b' g h y hh hy
 ·have hf:ρ.frz b'=some (arr,ty):=hf;obtain⟨⟨fr,q1⟩,q2⟩:=hG.frz b' arr ty hf;have c9:b'<w.heap.size:=by
   rcases aah b' w.heap.size with h'|h'
   ·exact h'
   ·rw[aaV h'] at q1;cases q1
  refine⟨⟨fr,by rw[ah3 b' c9 (λg h hh=>hG.frzE hf hh hb hnf)];exact q1⟩,λb1 g h hh e=>?_⟩;simp only [Rho.put] at hh;split at hh
  ·injection hh with hh;subst hh;rcases m6 with⟨g',hg'⟩|m6
   ·exact absurd e (hG.frzE hf hg' hb hnf)
   ·omega
  ·obtain⟨y,r1,r2⟩:=q2 _ _ _ hh e;exact⟨y,by rw[T.get_set_ne _ (λe=>by subst e;rw[hb] at r1;injection r1 with r1;subst r1;exact(hnf:¬zH _) r2)];exact r1,r2⟩
 ·by_cases e:b'=b
  ·subst e;rw[T.get_set_same _ _ _ c8] at Q';injection Q' with Q';exact absurd Q' (hxo _ _ _)
  ·rw[T.get_set_ne _ e] at Q';simp only [Rho.put] at hh;split at hh
   ·rename_i c1;exact absurd c1.1 e
   ·exact hG.objO b' k I l Q' g h hh
def xp{b g gen:Nat}{h h2:Home}(hg:g<=gen)(hh:ρ.at_ b g=some h):(ρ.put b (gen+1) h2).at_ b g=some h:=by simp only [Rho.put];rw[if_neg (λe=>by omega)];exact hh
def IC{b gen lo fl fh len size n ty:Nat}{c0:T Cell}{new:List AV}{nvs:List Value}{H:T ABlk}{h:Home}(hG:Good w0 ρ H w)(c8:b+1<2 ^ 64)(hb:H.get b=some (.cells c0 gen lo (lo+len * size) fl fh false ty))(hh:ρ.at_ b gen=some h)(ho:h.shift<=lo)(hfh:fh<=lo+len * size)(m6:LR ρ new nvs)(hn:new.length=n * size){cap:Nat}(aq7:len+n<=cap)(ac2:lo-h.shift+cap * size<=h.size)(ab0:∀a∈new,gm a=true){c:T Cell}(hc:∀o x,c.get o=some x->(∃(j:Nat) (a:AV),o=(lo+len * size)+j/\new[j]? =some a/\x= .mk (gen+1) a)∨(c0.get o=some x/\(o<lo+len * size∨lo+len * size+new.length<=o))):
 ∃w',(storeCells ((⟨h.blk,lo-h.shift,none⟩:Addr).add (len * size)) nvs).run P w= .ok () w'/\ρ.le (ρ.put b (gen+1) h)/\Good w0 (ρ.put b (gen+1) h) (H.set b (.cells c (gen+1) lo (lo+len * size+n * size) fl fh false ty)) w':=by
 have hB:=hG.blk _ _ hb
 obtain⟨hm,q1,q2,_,arr,fr,q3,q4,q5,q6⟩:=hB.2 gen (aac _)
 rw[hh] at q1;injection q1 with q1;subst q1
 have q2:=q2 rfl
 obtain⟨q5a,q5b⟩:=q5 rfl
 have hnl:nvs.length=n * size:=by rw[m6.1,hn]
 have hmul:(len+n) * size<=cap * size:=abg aq7 (aac _)
 rw[aaC] at hmul
 have ac7:lo+len * size-h.shift+nvs.length<=arr.size:=by rw[hnl,q4];omega
 obtain⟨p7,s1,s2,s3,s4,s5,s6,s7⟩:=fg h.blk nvs (lo+len * size-h.shift) w arr ty fr q3 ac7
 have p8:=run_storeCells_cells (P:=P) h.blk (lo+len * size-h.shift) nvs 0 w (λj hj=>by
  simp only [World.cell?,q3]
  simp only [abe,Bool.false_eq_true,if_false,aau]
  rw[aaQ (by omega)];rfl) (λj hj=>by
  simp only [World.frozen?,q3,aau]
  cases hx:(decide (fr.1<=lo+len * size-h.shift+j) && decide (lo+len * size-h.shift+j<fr.2)) with
  |false=>rfl
  |true=>simp only [Bool.and_eq_true,decide_eq_true_eq] at hx;have:=q5b _ (.inl (show lo+len * size-h.shift+j<h.size by rw[←q4];omega)) hx.1 hx.2;omega) (m6.ones ab0)
 rw[aau] at p8
 refine⟨_,by rw[dE ho];exact p8, ?_⟩
 refine hG.fork hb c8 (Kept.of_set (s7 0 (aaq _)) s5 q2) (λk _ hk=>s5 k (λe=>hk gen h hh e.symm)) (by omega) (λb' g' h' m7 j4=>s5 _ λe'=>m7 (hG.inj _ _ _ _ _ _ j4 hh e').1) (by have:=(hG.dom _ _ _ hh).1;omega) (.inl ⟨gen,hh⟩) λhle=>⟨λo x hx=>?_,λg hg=>?_⟩
 ·rcases hc o x hx with⟨j,a,e1,e2,e3⟩|⟨hx,c9⟩
  ·have:j<new.length:=by
    rcases aah j new.length with h'|h'
    ·exact h'
    ·rw[aam h'] at e2;cases e2
   subst e3;exact⟨by omega,by omega,aac _⟩
  ·have:=hB.1 o x hx;omega
 ·by_cases eg:g=gen+1
  ·subst eg;refine⟨h,Rho.put_at _ _ _ _,λ_=>q2,(λhc=>by cases hc),p7,fr,s1,by omega,λ_=>⟨q5a,q5b⟩,λo tag a hoa ht=>?_⟩;rcases hc o _ hoa with⟨j,a',e1,e2,e3⟩|⟨hx,c9⟩
   ·injection e3 with e3 e4;subst e4;have hj:j<new.length:=by
     rcases aah j new.length with h'|h'
     ·exact h'
     ·rw[aam h'] at e2;cases e2
    obtain⟨v,hv,hr⟩:=m6.get e2;refine⟨by omega,v, ?_,hr.mono hle⟩;rw[show o-h.shift=lo+len * size-h.shift+j by omega,s3 j (by omega)];exact hv
   ·have hin:=hB.1 o _ hx;obtain⟨r1,v,r2,r3⟩:=q6 o tag a hx (by have:=hin.2.2;exact this);refine⟨r1,v, ?_,r3.mono hle⟩;rw[s4 _ (.inl (by omega))];exact r2
  ·have hg:g<=gen:=by omega
   obtain⟨hm',t1,t2,t2',ak9,fr1,t3,t4,t5,t6⟩:=hB.2 g hg;by_cases eb:hm'.blk=h.blk
   ·obtain⟨_,ehm⟩:=hG.inj _ _ _ _ _ _ t1 hh eb;subst ehm;rw[q3] at t3;injection t3 with t3;injection t3 with t3a t3b t3c;subst t3a;subst t3c;refine⟨_,xp hg t1,t2,t2',p7,fr,s1,by omega,t5,λo tag a hoa ht=>?_⟩;rcases hc o _ hoa with⟨j,a',e1,e2,e3⟩|⟨hx,c9⟩
    ·injection e3 with e3 e4;omega
    ·have hin:=hB.1 o _ hx;obtain⟨r1,v,r2,r3⟩:=t6 o tag a hx ht;refine⟨r1,v, ?_,r3.mono hle⟩;rw[s4 _ (.inl (by omega))];exact r2
   ·refine⟨hm',xp hg t1,t2,t2',ak9,fr1,by rw[s5 _ eb];exact t3,t4,t5,λo tag a hoa ht=>?_⟩;rcases hc o _ hoa with⟨j,a',e1,e2,e3⟩|⟨hx,c9⟩
    ·injection e3 with e3 e4;omega
    ·obtain⟨r1,v,r2,r3⟩:=t6 o tag a hx ht;exact⟨r1,v,r2,r3.mono hle⟩
def LA{b gen lo fl fh len size n:Nat}{c0:T Cell}{new:List AV}{nvs olds rest:List Value}{H:T ABlk}{h:Home}{e2:TypeId}(hG:Good w0 ρ H w)(c8:b+1<2 ^ 64)(hb:H.get b=some (.cells c0 gen lo (lo+len * size) fl fh false e2))(hh:ρ.at_ b gen=some h)(m6:LR ρ new nvs)(hn:new.length=n * size)(at7:olds.length=len * size)(V':0<len->h.shift<=lo)(hold:∀j v,olds[j]? =some v->0<len->w.cell? ⟨h.blk,lo-h.shift+j,none⟩=some v){c:T Cell}(hc:∀o x,c.get o=some x->(∃(j:Nat) (a:AV),o=(lo+len * size)+j/\new[j]? =some a/\x= .mk (gen+1) a)∨(c0.get o=some x/\(o<lo+len * size∨lo+len * size+new.length<=o))):
 ρ.le (ρ.put b (gen+1) ⟨w.heap.size,lo,(olds++nvs++rest).length⟩)/\
 Good w0 (ρ.put b (gen+1) ⟨w.heap.size,lo,(olds++nvs++rest).length⟩) (H.set b (.cells c (gen+1) lo (lo+len * size+n * size) fl fh false e2)) (w.drew.alloc (.cells (olds++nvs++rest).toArray e2)):=by
 have hB:=hG.blk _ _ hb
 have ad_:∀k,k<w.heap.size->(w.drew.alloc (.cells (olds++nvs++rest).toArray e2)).heap[k]? =w.heap[k]? :=λk hk=>Below.heap_alloc w.drew _ k hk
 have hnl:nvs.length=n * size:=by rw[m6.1,hn]
 refine hG.fork hb c8 (Kept.of (((Below.refl _ _).drew).alloc hG.below.size _)) (λk hk _=>ad_ k hk) (by simp) (λb' g' h' _ j4=>ad_ _ (hG.dom _ _ _ j4).1) (by simp) (.inr (aac _)) λhle=>⟨λo x hx=>?_,λg hg=>?_⟩
 ·rcases hc o x hx with⟨j,a,e1,e2,e3⟩|⟨hx,c9⟩
  ·have:j<new.length:=by
    rcases aah j new.length with h'|h'
    ·exact h'
    ·rw[aam h'] at e2;cases e2
   subst e3;exact⟨by omega,by omega,aac _⟩
  ·have:=hB.1 o x hx;omega
 ·by_cases eg:g=gen+1
  ·subst eg;refine⟨_,Rho.put_at _ _ _ _,λ_=>.new hG.below.size,(λhc=>by cases hc),(olds++nvs++rest).toArray,(0,0), ?_,by simp,λ_=>⟨aac _,λx _ _ h3=>absurd h3 (by simp)⟩,λo tag a hoa ht=>?_⟩
   ·show(w.heap.push _)[w.heap.size]? =_;simp
   rcases hc o _ hoa with⟨j,a',e1,e2',e3⟩|⟨hx,c9⟩
   ·injection e3 with e3 e4;subst e4;have hj:j<new.length:=by
     rcases aah j new.length with h'|h'
     ·exact h'
     ·rw[aam h'] at e2';cases e2'
    obtain⟨v,hv,hr⟩:=m6.get e2';refine⟨by show lo<=o;omega,v, ?_,hr.mono hle⟩;show(olds++nvs++rest).toArray[o-lo]? =some v;rw[aa7,aaw,aaA (by omega),aaD (by omega),show o-lo-olds.length=j by omega];exact hv
   ·have hin:=hB.1 o _ hx;obtain⟨hm,q1,q2,_,arr,fr,q3,q4,q5,q6⟩:=hB.2 gen (aac _);rw[hh] at q1;injection q1 with q1;subst q1;obtain⟨r1,v,r2,r3⟩:=q6 o tag a hx (by have:=hin.2.2;exact this);refine⟨hin.1,v, ?_,r3.mono hle⟩;have c9:o-lo<olds.length:=by omega
    show(olds++nvs++rest).toArray[o-lo]? =some v;rw[aa7,aaw,aaD c9];have l8:0<len:=by
     rcases aaU len with e0|e0
     ·subst e0;omega
     ·exact e0
    have:=hold (o-lo) olds[o-lo] (aak c9) l8;have V':=V' l8;rw[show lo-h.shift+(o-lo)=o-h.shift by omega] at this;simp [World.cell?,q3,r2] at this;rw[aak c9,this]
  ·have hg:g<=gen:=by omega
   obtain⟨hm',t1,t2,t2',ak9,fr1,t3,t4,t5,t6⟩:=hB.2 g hg;refine⟨hm',xp hg t1,t2,t2',ak9,fr1,by rw[ad_ _ (hG.dom _ _ _ t1).1];exact t3,t4,t5,λo tag a hoa ht=>?_⟩;rcases hc o _ hoa with⟨j,a',e1,e2,e3⟩|⟨hx,c9⟩
   ·injection e3 with e3 e4;omega
   ·obtain⟨r1,v,r2,r3⟩:=t6 o tag a hx ht;exact⟨r1,v,r2,r3.mono hle⟩
def lY(f:Nat->List AV)(len size:Nat)(new:List AV):Nat->List AV:=λi=>if i<len then f i else(new.drop ((i-len) * size)).take size
def pf{f:Nat->List AV}{len size i:Nat}{new:List AV}(h:i<len):lY f len size new i=f i:=by unfold lY;rw[if_pos h]
def lA{f:Nat->List AV}{len size i:Nat}{new:List AV}(h:¬i<len):lY f len size new i=(new.drop ((i-len) * size)).take size:=by unfold lY;rw[if_neg h]
def ID{f:Nat->List AV}{len size n i:Nat}{new:List AV}(h:¬i<len)(hi:i<len+n)(hn:new.length=n * size):(lY f len size new i).length=size:=by
 rw[lA h,aao,aas,hn];have:(i-len) * size+size<=n * size:=by rw[←aaM];exact aaB _ (by omega)
 omega
def IE{f:Nat->List AV}{len size i j:Nat}{new:List AV}{a:AV}(h:¬i<len)(ha:(lY f len size new i)[j]? =some a):j<size/\new[(i-len) * size+j]? =some a:=by
 rw[lA h] at ha;have hj:j<size:=by
  rcases aah j size with h'|h'
  ·exact h'
  ·rw[aam (by rw[aao];omega)] at ha;cases ha
 rw[aav hj,aaz] at ha;exact⟨hj,ha⟩
def rT{f:Nat->List AV}{len size n:Nat}{new:List AV}{nvs:List Value}{arr:Array Value}(m6:LR ρ new nvs)(hn:new.length=n * size)(h1:∀i,i<len->(f i).length=size/\∀j a,(f i)[j]? =some a->∃u,arr[i * size+j]? =some u/\VR ρ a u)(h2:∀j v,nvs[j]? =some v->arr[len * size+j]? =some v):
 ∀i,i<len+n->(lY f len size new i).length=size/\∀j a,(lY f len size new i)[j]? =some a->∃u,arr[i * size+j]? =some u/\VR ρ a u:=by
 intro i hi
 by_cases h:i<len
 ·rw[pf h];exact h1 i h
 ·refine⟨ID h hi hn,λj a ha=>?_⟩;obtain⟨hj,ha⟩:=IE h ha;obtain⟨u,hu,hr⟩:=m6.get ha;refine⟨u, ?_,hr⟩;have:=h2 _ _ hu;rw[←abu, ←aaC,show len+(i-len)=i by omega] at this;exact this
def LB(P:Program)(w0:World)(ρ:Rho)(w:World)(H:T ABlk)(b:Nat)(x:ABlk)(a:AV)(s:Sem Value):Prop:=∃ρ' v' w',Good w0 ρ' (H.set b x) w'/\ρ.le ρ'/\VR ρ' a v'/\s.run P w= .ok v' w'
def vj{H:T ABlk}{tys:Array TypeId}{ts tx e ty:TypeId}{dx:TypeDesc}{i:TypeInfo}{z:Value}{b g len n:Nat}{l:List AV}{cs:List Value}{v u:Value}{c0 c1:Ct}(hG:Good w0 ρ H w)(hx:VR ρ (.gsl b g len i.size) v)(h0:tys[0]? =some ts)(h1:tys[1]? =some tx)(ht:P.underlying ts=some (.slice e))(Y':P.underlying tx=some dx)(hni:∀j,dx≠ .int j)(hi:P.info? e=some i)(hby:i.bytes<=1000)(hiz:i.zero=some z)(hzs:z.cells.size=i.size)(hlen:∀w:World,(Builtin.lenOf u).run P w= .ok n w)(hn:n<=1000000)(l8:0<n)(hL:LR ρ l cs)(hcl:cs.length=n * i.size)(m8:∀w2:World,w2.heap=w.heap->(Builtin.firstCells i.size n u).run P w2= .ok cs.toArray w2)(G':H.get b=some (.grow c0 g e))(c8:b+1<2 ^ 64)(k2:c0.es=i.size)(k4:l.length=n * i.size)(ab0:∀a∈l,gm a=true)(k6:c0.len=len)(k7:len<=1000000000)(a1:c1.len=c0.len+n)(a2:c1.es=c0.es)(ato:∀(ρ2:Rho) (i2:Nat),i2<c0.len+n->∀vs,LR ρ2 (lY c0.row c0.len c0.es l i2) vs->LR ρ2 (c1.row i2) vs):LB P w0 ρ w H b (.grow c1 (g+1) e) (.gsl b (g+1) (len+n) i.size) (Builtin.append_ tys ty #[v,u]):=by
 obtain⟨f,hf⟩:∃f,f=c0.row:=⟨_,rfl⟩
 obtain⟨m,hm9⟩:∃m,m=c0.len:=⟨_,rfl⟩
 have hfl:∀ii,(f ii).length=i.size:=λii=>by rw[hf,c0.row_len,k2]
 rw[←hf, ←hm9,k2] at ato
 rw[←hm9] at a1 k6
 rw[k2] at a2
 subst k6
 have hB:=hG.blk _ _ G'
 have hnb:n * i.bytes<=1000000 * 1000:=abg hn hby
 have fresh:∀(base:Option Addr) (c:Nat) (olds:List Value),v= .slice base m c->c<m+n->Builtin.nextslicecap (m+n) c * i.bytes<=281474976710656->olds.length=m * i.size->
  (∀ii,ii<m->(f ii).length=i.size/\∀j a,(f ii)[j]? =some a->∃uu,olds[ii * i.size+j]? =some uu/\VR ρ a uu)->(Builtin.firstCells i.size m (.slice base m c)).run P w.drew= .ok olds.toArray w.drew->LB P w0 ρ w H b (.grow c1 (g+1) e) (.gsl b (g+1) (m+n) i.size) (Builtin.append_ tys ty #[v,u]):=by
  intro base c olds ev c9 ac2 hol hoc hof
  subst ev
  have c7:=dY (P:=P) (w:=w) (ty:=ty) h0 h1 ht Y' hni hi hiz (hlen w) c9 (by omega) ac2 hof (m8 _ rfl)
  have hge:=grownCap_ge w (m+n) c e
  have ad_:∀k,k<w.heap.size->(w.drew.alloc (.cells (olds++cs++(Builtin.zeroCells z.cells (grownCap w (m+n) c e-(m+n))).toList).toArray e)).heap[k]? =w.heap[k]? :=λk hk=>Below.heap_alloc w.drew _ k hk
  have T':(olds++cs++(Builtin.zeroCells z.cells (grownCap w (m+n) c e-(m+n))).toList).length=grownCap w (m+n) c e * i.size:=by rw[aai,aai,hol,hcl,aaN,size_zeroCells,hzs, ←aaC, ←aaC];congr 1;omega
  obtain⟨hle,hG3⟩:=hG.forkX (w':=w.drew.alloc (.cells (olds++cs++(Builtin.zeroCells z.cells (grownCap w (m+n) c e-(m+n))).toList).toArray e)) (x:=.grow c1 (g+1) e) (gen:=g)
   (h2:=⟨w.heap.size,0,grownCap w (m+n) c e * i.size⟩) G' (λg' h'=>h') (λg' h'=>h') c8 (Kept.of (((Below.refl _ _).drew).alloc hG.below.size _)) (λk hk _=>ad_ k hk) (by simp) (λb' g' h' _ j4=>ad_ _ (hG.dom _ _ _ j4).1) (by simp) (.inr (aac _)) (λhle=>by
    refine .inr ⟨_,Rho.put_at _ _ _ _,rfl,.new hG.below.size,(olds++cs++(Builtin.zeroCells z.cells (grownCap w (m+n) c e-(m+n))).toList).toArray,(0,0), ?_,by rw[List.size_toArray];exact T', ?_,λx _ _ h3=>absurd h3 (by simp), ?_⟩
    ·show(w.heap.push _)[w.heap.size]? =_;simp
    ·rw[a1,a2];exact aaB _ hge
    ·intro ii hii;rw[a1] at hii;rw[a2];have:=rT (ρ:=ρ) (f:=f) (len:=m) (arr:=(olds++cs++(Builtin.zeroCells z.cells (grownCap w (m+n) c e-(m+n))).toList).toArray) hL k4 (λi2 hi2=>⟨(hoc i2 hi2).1,λj a ha=>by
      obtain⟨uu,u1,u2⟩:=(hoc i2 hi2).2 j a ha;refine⟨uu, ?_,u2⟩;have hjl:i2 * i.size+j<olds.length:=by
       rcases aah (i2 * i.size+j) olds.length with h'|h'
       ·exact h'
       ·rw[aam h'] at u1;cases u1
      rw[aa7,aaw,aaD hjl];exact u1⟩) (λj vv hv=>by
      have hjl:j<cs.length:=by
       rcases aah j cs.length with h'|h'
       ·exact h'
       ·rw[aam h'] at hv;cases hv
      rw[aa7,aaw,aaA (by omega),aaD (by omega),show m * i.size+j-olds.length=j by omega];exact hv) ii hii
     exact ny (λj a ha=>by obtain⟨uu,u1,u2⟩:=this.2 j a ha;exact⟨uu,u1,u2.mono hle⟩) (ato _ ii hii))
  refine⟨_,_,_,hG3,hle,.gsl b (g+1) (m+n) i.size _ (grownCap w (m+n) c e) (by omega) (Rho.put_at _ _ _ _) rfl hge (aac _),c7⟩
 cases hx with
 |gnil _ _ _=>
  refine fresh none 0 [] rfl (by omega) (by rw[aap,nextslicecap_zero l8];omega) (by simp) (λii hii=>by omega) (by simp [Builtin.firstCells])
 |gempty _ _ _ a=>
  refine fresh (some a) 0 [] rfl (by omega) (by rw[aap,nextslicecap_zero l8];omega) (by simp) (λii hii=>by omega) (by simp [Builtin.firstCells,loadCells,loadCellsFrom])
 |gsl _ _ _ _ hm c hm0 hh hsh hc hz=>
  rcases hB with hB|⟨hm',q1,q2,q3,arr,fr,q4,q5,q6,q7,q8⟩
  ·omega
  rw[←hf, ←hm9,k2] at q8
  rw[←hm9,k2] at q6
  rw[hh] at q1;injection q1 with q1;subst q1
  rcases aah c (m+n) with c9|ab9
  ·have hmc:m * i.size<=c * i.size:=aaB _ hc;refine fresh (some ⟨hm.blk,0,none⟩) c (arr.toList.take (m * i.size)) rfl c9 ?_ (by rw[aao,aaN];omega) (λii hii=>⟨hfl ii,λj a ha=>?_⟩) ?_
   ·have h1:Builtin.nextslicecap (m+n) c<=2 * (m+n):=nextslicecap_le c9;have h2:=abg h1 hby;omega
   ·obtain⟨uu,u1,u2⟩:=q8 ii hii j a ha;refine⟨uu, ?_,u2⟩;have hj:j<i.size:=by
     have:=hfl ii;rcases aah j (f ii).length with h'|h'
     ·omega
     ·rw[aam h'] at ha;cases ha
    have:ii * i.size+i.size<=m * i.size:=by rw[←aaM];exact aaB _ hii
    rw[aav (by omega)];simpa using u1
   ·refine run_firstCells_some _ i.size m _ m c _ (by rw[aao,aaN];omega) λj vv hj=>?_;rw[bP];rw[aa3] at hj;split at hj
    ·show w.cell? _=_;rw[aap];simp [World.cell?,q4];simpa using hj
    ·cases hj
  ·have hmul:(m+n) * i.size<=c * i.size:=aaB _ ab9;rw[aaC] at hmul;have ac7:m * i.size+cs.length<=arr.size:=by rw[hcl];omega
   obtain⟨p7,s1,s2,s3,s4,s5,s6,s7⟩:=fg hm.blk cs (m * i.size) w arr e fr q4 ac7;have p8:=run_storeCells_cells (P:=P) hm.blk (m * i.size) cs 0 w (λj hj=>by
    simp only [World.cell?,q4]
    simp only [abe,Bool.false_eq_true,if_false,aau]
    rw[aaQ (by omega)];rfl) (λj hj=>by
    simp only [World.frozen?,q4,aau]
    cases hx:(decide (fr.1<=m * i.size+j) && decide (m * i.size+j<fr.2)) with
    |false=>rfl
    |true=>simp only [Bool.and_eq_true,decide_eq_true_eq] at hx;exact(q7 _ (by omega) hx.1 hx.2).elim) (hL.ones ab0)
   rw[aau] at p8;have c7:=eT (P:=P) (w:=w) (ty:=ty) h0 h1 ht Y' hni hi (hlen w) ab9 (m8 w rfl) (a:=⟨hm.blk,0,none⟩) (by rw[bP,aap];exact p8);obtain⟨hle,hG3⟩:=hG.forkX (w':=w.setCells hm.blk (m * i.size) cs) (x:=.grow c1 (g+1) e) (gen:=g) (h2:=hm) G' (λg' h'=>h') (λg' h'=>h') c8
    (Kept.of_set (s7 0 (aaq _)) s5 q3) (λk _ hk=>s5 k (λe=>hk g hm hh e.symm)) (by omega) (λb' g' h' m7 j4=>s5 _ λe'=>m7 (hG.inj _ _ _ _ _ _ j4 hh e').1) (by have:=(hG.dom _ _ _ hh).1;omega) (.inl ⟨g,hh⟩) (λhle=>by
     refine .inr ⟨_,Rho.put_at _ _ _ _,q2,q3,p7,fr,s1,by omega,by rw[a1,a2,aaC];omega,q7, ?_⟩;intro ii hii;rw[a1] at hii;rw[a2];have:=rT (ρ:=ρ) (f:=f) (len:=m) (arr:=p7) hL k4 (λi2 hi2=>⟨hfl i2,λj a ha=>by
      obtain⟨uu,u1,u2⟩:=q8 i2 hi2 j a ha;refine⟨uu, ?_,u2⟩;have hj:j<i.size:=by
       have:=hfl i2;rcases aah j (f i2).length with h'|h'
       ·omega
       ·rw[aam h'] at ha;cases ha
      have:i2 * i.size+i.size<=m * i.size:=by rw[←aaM];exact aaB _ hi2
      rw[s4 _ (.inl (by omega))];exact u1⟩) (λj vv hv=>by
      have hjl:j<cs.length:=by
       rcases aah j cs.length with h'|h'
       ·exact h'
       ·rw[aam h'] at hv;cases hv
      rw[s3 j hjl];exact hv) ii hii
     exact ny (λj a ha=>by obtain⟨uu,u1,u2⟩:=this.2 j a ha;exact⟨uu,u1,u2.mono hle⟩) (ato _ ii hii))
   exact⟨_,_,_,hG3,hle,.gsl b (g+1) (m+n) i.size hm c (by omega) (Rho.put_at _ _ _ _) hsh ab9 hz,c7⟩
def Aj{tys:Array TypeId}{ts tx e ty:TypeId}{dx:TypeDesc}{i:TypeInfo}{z:Value}{b g len n:Nat}{l:List AV}{cs:List Value}{v u:Value}(hS:SI σ)(hG:Good w0 ρ σ.h w)(hx:VR ρ (.gsl b g len i.size) v)(h0:tys[0]? =some ts)(h1:tys[1]? =some tx)(ht:P.underlying ts=some (.slice e))(Y':P.underlying tx=some dx)(hni:∀j,dx≠ .int j)(hi:P.info? e=some i)(hby:i.bytes<=1000)(hiz:i.zero=some z)(hzs:z.cells.size=i.size)(hlen:∀w:World,(Builtin.lenOf u).run P w= .ok n w)(hn:n<=1000000)(l8:0<n)(hL:LR ρ l cs)(hcl:cs.length=n * i.size)(m8:∀w2:World,w2.heap=w.heap->(Builtin.firstCells i.size n u).run P w2= .ok cs.toArray w2)(h:run (KV e b g len i.size n l k) σ K=true):Res P w0 ρ w k K (Builtin.append_ tys ty #[v,u]):=by
 have c8:=di hS h
 obtain⟨q,b7,hq,e1,b6,h⟩:=bE hS h
 have b9:Good w0 ρ b7.h w:=by rw[e1];exact hG
 cases q with
 |grow c0 gen t2=>
  obtain⟨k1,z1⟩:=ay h
  obtain⟨k2,z2⟩:=ay z1
  obtain⟨k3,z3⟩:=ay z2
  obtain⟨k4,z4⟩:=ay z3
  obtain⟨k5,z5⟩:=ay z4
  cases hap:c0.app l n with
  |none=>rw[hap] at z5;exact(ah z5).elim
  |some r0=>
  obtain⟨c1,pr⟩:=r0
  rw[hap] at z5
  obtain⟨⟨k6,k7,kp⟩,z6⟩:=aP z5
  obtain⟨x0,d8,hx0,e2,f9,_,z7⟩:=fw b6 z6
  clear h z1 z2 z3 z4 z5 z6
  have k1:=aM k1
  have k2:=aM k2
  have k3:=aM k3
  have k4:=aM k4
  have ab0:∀a∈l,gm a=true:=λa ha=>List.all_eq_true.1 k5 a ha
  obtain⟨a1,a2,a3,a4⟩:=Wy hap kp (by rw[k4,k2])
  have ato:∀(ρ2:Rho) (i2:Nat),i2<c0.len+n->∀vs,LR ρ2 (lY c0.row c0.len c0.es l i2) vs->LR ρ2 (c1.row i2) vs:=λρ2 i2 hi2 vs L'=>by
   by_cases h':i2<c0.len
   ·rw[pf h'] at L';rw[a3 i2 h'];exact L'
   ·rw[lA h'] at L';exact a4 i2 (by omega) hi2 ρ2 vs L'
  subst k1;subst k3
  have G':b7.h.get b=some (.grow c0 g t2):=by rw[e1];exact hq
  obtain⟨ρ',v',w',g1,g2,g3,g4⟩:=vj (P:=P) (ty:=ty) b9 hx h0 h1 ht Y' hni hi hby hiz hzs hlen hn l8 hL hcl m8 G' c8 k2 (by rw[k4]) ab0 k6 k7 a1 a2 ato
  exact⟨_,d8,ρ',v',w',z7,f9,by rw[e2];exact g1,g2,g3,g4⟩
 |_=>exact(ah h).elim
def LC{b:Nat}{f g:ABlk->Tr}(hfg:∀q a9,run (f q) a9 K=true->run (g q) a9 K=true)(h:run (.rd b f) σ K=true):run (.rd b g) σ K=true:=by
 cases σ with
 |mk H n fs tc w=>
  rw[io] at h⊢;split at h;case isFalse=>cases h
  rename_i hb;rw[if_pos hb];split at h
  ·cases h
  ·exact hfg _ _ h
def cH(t:List Nat):List AV:=t.map λn:Nat=>AV.sI .u8 (Int.ofNat n)
def pW(t:List Nat):List Int:=t.map λn:Nat=>Int.ofNat n
def Dd(t:List Nat):gq (cH t)=some (pW t)/\aI (pW t)=t/\bp (pW t):=by
 induction t with
 |nil=>exact⟨rfl,rfl,trivial⟩
 |cons a t ih=>
  obtain⟨h1,h2,h3⟩:=ih;refine⟨?_, ?_, ?_⟩
  ·show gq (AV.sI .u8 (Int.ofNat a)::cH t)=some (Int.ofNat a::pW t);simp only [gq,cw,h1]
  ·show(Int.ofNat a).toNat::aI (pW t)=a::t;rw[h2];rfl
  ·exact⟨Int.natCast_nonneg _,h3⟩
def Ak{t:List Nat}{y:AV}{u:Value}(hG:Good w0 ρ σ.h w)(hy:VR ρ y u)(h:CU y=some t):
 (∀w:World,(Builtin.lenOf u).run P w= .ok t.length w)/\∃cs:List Value,LR ρ (cH t) cs/\cs.length=t.length/\∀m,m<=t.length->∀w2:World,w2.heap=w.heap->(Builtin.firstCells 1 m u).run P w2= .ok (cs.take m).toArray w2:=by
 cases hy with
 |sS s=>
  injection h with h
  subst h
  have hn:(bytesOf s).length=s.size:=by unfold bytesOf;rw[aaR];rfl
  have hL:=nC ρ s
  refine⟨λw=>by rw[hn];rfl,s.data.toList.map λb=>Value.int .u8 b.toNat,⟨by simp [cH,bytesOf],λi a v ha hv=>?_⟩, ?_,λm hm w2 _=>?_⟩
  ·unfold cH bytesOf at ha
   rw[aa8,aaO] at ha
   rw[aaO] at hv
   cases hs:s.data.toList[i]? with
   |none=>rw[hs] at ha;cases ha
   |some b=>rw[hs] at ha hv;injection ha with ha;injection hv with hv;subst ha;subst hv;exact .sI _ _
  ·rw[hn,aaR];rfl
  ·simp only [Builtin.firstCells,aaf];congr 1;apply Array.ext';simp [ByteArray.data_extract,abO,List.map_take]
 |cv c blk off cp arr ty hf hc hb r=>
  cases c with
  |rows m l=>cases h
  |bytes t'=>
  injection h with h
  subst h
  have hb:off+t'.length<=arr.size:=by simpa [Ct.len,Ct.es] using hb
  refine⟨λw=>rfl,((arr.toList.drop off).take t'.length),⟨by simp [cH];omega,λi a v ha hv=>?_⟩,by simp;omega,λm hm w2 hw2=>?_⟩
  ·have hi:i<t'.length:=by
    rcases aah i t'.length with h'|h'
    ·exact h'
    ·rw[aam (by simpa [cH] using h')] at ha;cases ha
   unfold cH at ha;rw[aaO,aak hi] at ha;injection ha with ha;rw[aav hi,aaz] at hv;refine r i 0 a v hi ?_ ?_
   ·show [AV.sI .u8 ((t'.getD i 0:Nat):Int)][0]? =some a;rw[aag,aak hi, ←ha];rfl
   ·show arr[off+i * 1+0]? =some v;rw[aaJ,aau, ←hv];simp
  ·obtain⟨⟨fr,hw⟩,_⟩:=hG.frz _ _ _ hf;have hm:m<=t'.length:=hm;refine run_firstCells_some w2 1 _ _ _ _ _ (by simp;omega) λj v hj=>?_;have hjm:j<m:=by
    rcases aah j m with h'|h'
    ·exact h'
    ·rw[aam (by simp;omega)] at hj;cases hj
   have hj':j<t'.length:=by omega
   rw[aav hjm,aav hj',aaz] at hj;have e1:(⟨blk,off,none⟩:Addr).add j=⟨blk,off+j,none⟩:=by have:=dE (h:=⟨blk,0,0⟩) (o:=off) (n:=j) (aaq _);simpa using this
   rw[e1];simp only [World.cell?,hw2,hw];rw[←hj];simp
 |cvnil c h0=>
  cases c with
  |rows m l=>cases h
  |bytes t'=>
  injection h with h
  subst h
  have h0:t'= []:=List.length_eq_zero_iff.1 h0
  subst h0
  exact⟨λ_=>rfl,[],LR.nil ρ,rfl,λm hm _ _=>by simp [Builtin.firstCells]⟩
 |cvempty c a h0=>
  cases c with
  |rows m l=>cases h
  |bytes t'=>
  injection h with h
  subst h
  have h0:t'= []:=List.length_eq_zero_iff.1 h0
  subst h0
  exact⟨λ_=>rfl,[],LR.nil ρ,rfl,λm hm _ _=>by
   have:m=0:=by simpa using hm
   subst this;simp [Builtin.firstCells,loadCells,loadCellsFrom]⟩
 |_=>cases h
def Rc{t:List Nat}{y:AV}{u:Value}(hG:Good w0 ρ σ.h w)(hy:VR ρ y u)(h:CU y=some t):
 (∀w:World,(Builtin.lenOf u).run P w= .ok t.length w)/\∃cs:List Value,LR ρ (cH t) cs/\cs.length=t.length/\∀w2:World,w2.heap=w.heap->(Builtin.firstCells 1 t.length u).run P w2= .ok cs.toArray w2:=by
 obtain⟨h1,cs,h2,h3,h4⟩:=Ak (P:=P) hG hy h
 refine⟨h1,cs,h2,h3,λw2 hw=>?_⟩
 rw[h4 _ (aac _) w2 hw, ←h3,aa9]
def WB(P:Program)(ρ:Rho)(w:World)(u:Value)(t:List Nat):Prop:=(∀w:World,(Builtin.lenOf u).run P w= .ok t.length w)/\∃cs:List Value,LR ρ (cH t) cs/\cs.length=t.length/\∀w2:World,w2.heap=w.heap->(Builtin.firstCells 1 t.length u).run P w2= .ok cs.toArray w2
def Rd{t:List Nat}{b g n ty:Nat}{u:Value}(hG:Good w0 ρ σ.h w)(hq:σ.h.get b=some (.grow (.bytes t) g ty))(hn:t.length=n)(hy:VR ρ (.gsl b g n 1) u):WB P ρ w u t:=by
 cases hy with
 |gnil _ _ _=>have h0:t= []:=List.length_eq_zero_iff.1 hn;subst h0;exact⟨λ_=>rfl,[],LR.nil ρ,rfl,λ_ _=>by simp [Builtin.firstCells]⟩
 |gempty _ _ _ a=>have h0:t= []:=List.length_eq_zero_iff.1 hn;subst h0;exact⟨λ_=>rfl,[],LR.nil ρ,rfl,λ_ _=>by simp [Builtin.firstCells,loadCells,loadCellsFrom]⟩
 |gsl _ _ _ _ hm c hn1 hh hsh hcc hz=>
  subst hn;rcases hG.blk _ _ hq with hB|⟨hm',q1,q2,q3,arr,fr,q4,q5,q6,q7,q8⟩
  ·have hB:t.length=0:=hB;omega
  ·rw[hh] at q1;injection q1 with q1;subst q1;have q6:t.length * 1<=hm.size:=q6;have hb:t.length<=arr.size:=by omega
   refine⟨λw=>rfl,(arr.toList.take t.length),⟨by simp [cH];omega,λi a v ha hv=>?_⟩,by simp;omega,λw2 hw2=>?_⟩
   ·have hi:i<t.length:=by
     rcases aah i t.length with h'|h'
     ·exact h'
     ·rw[aam (by simpa [cH] using h')] at ha;cases ha
    unfold cH at ha;rw[aaO,aak hi] at ha;injection ha with ha;rw[aav hi] at hv;obtain⟨uu,u1,u2⟩:=q8 i hi 0 a (by show [AV.sI .u8 ((t.getD i 0:Nat):Int)][0]? =some a;rw[aag,aak hi, ←ha];rfl);have u1:arr[i * 1+0]? =some uu:=u1;rw[aaJ,aau] at u1;rw[aa0,u1] at hv;injection hv with hv;rw[←hv];exact u2
   ·refine run_firstCells_some w2 1 _ _ _ _ _ (by simp;omega) λj v hj=>?_;have hjm:j<t.length:=by
     rcases aah j t.length with h'|h'
     ·exact h'
     ·rw[aam (by simp;omega)] at hj;cases hj
    rw[aav hjm] at hj;have e1:(⟨hm.blk,0,none⟩:Addr).add j=⟨hm.blk,0+j,none⟩:=by have:=dE (h:=⟨hm.blk,0,0⟩) (o:=0) (n:=j) (aaq _);simpa using this
    rw[e1];simp only [World.cell?,hw2,q4];rw[←hj];simp
def LD{tys:Array TypeId}{ts tx e ty:TypeId}{dx:TypeDesc}{i:TypeInfo}{zv:Value}{b g len:Nat}{t:List Nat}{v u:Value}(hS:SI σ)(hG:Good w0 ρ σ.h w)(hx:VR ρ (.gsl b g len 1) v)(hu:WB P ρ w u t)(h0:tys[0]? =some ts)(h1:tys[1]? =some tx)(ht:P.underlying ts=some (.slice e))(Y':P.underlying tx=some dx)(hni:∀j,dx≠ .int j)(hi:P.info? e=some i)(hby:i.bytes<=1000)(hiz:i.zero=some zv)(hzs:zv.cells.size=1)(ae9:i.size=1)(h:run (Uz e b g len t k) σ K=true):Res P w0 ρ w k K (Builtin.append_ tys ty #[v,u]):=by
 obtain⟨hlen,cs,hL,hcl,m8⟩:=hu
 rcases aaU t.length with hn0|l8
 ·have c8:=di hS h
  obtain⟨q,b7,hq,e1,b6,h⟩:=bE hS h
  cases q with
  |grow c gen ty2=>
   cases c with
   |rows m l=>exact(ah h).elim
   |bytes l0=>
   obtain⟨k1,z1⟩:=ay h
   obtain⟨k2,z2⟩:=ay z1
   obtain⟨k3,z3⟩:=aP z2
   obtain⟨x0,d8,hx0,e2,f9,_,z4⟩:=fw b6 z3
   clear h z1 z2 z3
   have k1:=aM k1
   have k2:=aM k2
   subst k1;subst k2
   have ht0:t= []:=List.length_eq_zero_iff.1 hn0
   subst ht0
   have b9:Good w0 ρ b7.h w:=by rw[e1];exact hG
   have G':b7.h.get b=some (.grow (.bytes l0) g ty2):=by rw[e1];exact hq
   have el:l0++ []=l0:=abb l0
   rw[el] at e2
   have I':∀w:World,(Builtin.lenOf u).run P w= .ok 0 w:=hlen
   cases hx with
   |gsl _ _ _ _ hm c hn1 hh hsh hcc hz=>
    have hB:=b9.blk _ _ G';obtain⟨hle,hG3⟩:=b9.forkX (w':=w) (x:=.grow (.bytes l0) (g+1) ty2) (gen:=g) (h2:=hm) G' (λg' h'=>h') (λg' h'=>h') c8 (Kept.refl _ _ _) (λ_ _ _=>rfl) (aac _) (λ_ _ _ _ _=>rfl) (b9.dom _ _ _ hh).1 (.inl ⟨g,hh⟩) (λhle=>by
     rcases hB with hB|⟨hm',q1,q2,q3,arr,fr,q4,q5,q6,q7,q8⟩
     ·exact .inl hB
     ·rw[hh] at q1;injection q1 with q1;subst q1;exact .inr ⟨hm,Rho.put_at _ _ _ _,q2,q3.mono hle,arr,fr,q4,q5,q6,q7,λi hi j a ha=>by obtain⟨uu,u1,u2⟩:=q8 i hi j a ha;exact⟨uu,u1,u2.mono hle⟩⟩)
    exact⟨_,d8,_,_,w,z4,f9,by rw[e2];exact hG3,hle,.gsl b (g+1) (len+0) 1 hm c hn1 (Rho.put_at _ _ _ _) hsh hcc hz,be h0 h1 ht Y' hni hi (I' _) hcc (bf (I' w))⟩
   |gnil _ _ _=>exact .plain z4 f9 (by rw[e2];exact b9.none_turn G' c8 k3.1 (λg' h'=>abB h') (λh=>h)) (.gnil _ _ _) (be h0 h1 ht Y' hni hi (I' _) (aac _) (bf (I' w)))
   |gempty _ _ _ a=>exact .plain z4 f9 (by rw[e2];exact b9.none_turn G' c8 k3.1 (λg' h'=>abB h') (λh=>h)) (.gempty _ _ _ a) (be h0 h1 ht Y' hni hi (I' _) (aac _) (bf (I' w)))
  |_=>exact(ah h).elim
 ·have h2:run (KV e b g len 1 t.length (cH t) k) σ K=true/\t.length<=1000000:=by
   refine⟨LC (λq a9 h=>?_) h, ?_⟩
   ·cases q with
    |grow c gen ty2=>
     cases c with
     |rows m l=>exact(ah h).elim
     |bytes l0=>
     obtain⟨k1,h⟩:=ay h
     obtain⟨k2,h⟩:=ay h
     obtain⟨k3,h⟩:=aP h
     obtain⟨p1,p2,p3⟩:=Dd t
     show run (ac (Nat.beq g gen) (ac (Nat.beq 1 1) (ac (Nat.beq ty2 e) (ac (Nat.beq (cH t).length (t.length * 1)) (ac ((cH t).all gm) _ .fail) .fail) .fail) .fail) .fail) a9 K=true
     have q1:Nat.beq (cH t).length (t.length * 1)=true:=by rw[Nat.beq_eq];simp [cH]
     have q2:(cH t).all gm=true:=by unfold cH;rw[List.all_map,abk];intro _ _;rfl
     have q3:Nat.beq (pW t).length t.length=true:=by rw[Nat.beq_eq];simp [pW]
     rw[k1,k2,q1,q2]
     have q4:Ct.app (.bytes l0) (cH t) t.length=some (.bytes (l0++t),bp (pW t)):=by simp only [Ct.app,p1,p2,q3];rfl
     show run (match Ct.app (.bytes l0) (cH t) t.length with
      |some (c',p)=>Tr.req ((Ct.bytes l0).len=len/\len<=1000000000/\p) (.wr b (.grow c' (gen+1) ty2) (k (.gsl b (gen+1) (len+t.length) 1)))
      |none=>.fail) a9 K=true
     rw[q4]
     show run (Tr.req _ _) a9 K=true
     rw[fu _ _ _ ⟨k3.1,k3.2.1,p3⟩]
     exact h
    |_=>exact(ah h).elim
   ·obtain⟨q,b7,_,_,_,h⟩:=bE hS h
    cases q with
    |grow c gen ty2=>
     cases c with
     |rows m l=>exact(ah h).elim
     |bytes l0=>
     obtain⟨k1,h⟩:=ay h
     obtain⟨k2,h⟩:=ay h
     obtain⟨k3,h⟩:=aP h
     exact k3.2.2
    |_=>exact(ah h).elim
  rw[←ae9] at h2 m8 hx;exact Aj (ty:=ty) hS hG hx h0 h1 ht Y' hni hi hby hiz (hzs.trans ae9.symm) hlen h2.2 l8 hL (by rw[hcl,ae9,aaJ]) m8 h2.1
def ms(d:Ct):Nat->List AV
 |0=>[]
 |n+1=>ms d n++d.row n
def dj(d:Ct):∀n,(ms d n).length=n * d.es
 |0=>by simp [ms]
 |n+1=>by rw[ms,aai,dj d n,d.row_len,aaM]
def Fj(d:Ct){q:Nat}{a:AV}:∀n,(ms d n)[q]? =some a->∃i j,i<n/\q=i * d.es+j/\(d.row i)[j]? =some a
 |0,h=>by simp [ms] at h
 |n+1,h=>by
  rcases aah q (n * d.es) with h'|h'
  ·rw[ms,aaD (by rw[dj];exact h')] at h;obtain⟨i,j,h1,h2⟩:=Fj d n h;exact⟨i,j,by omega,h2⟩
  ·rw[ms,aaA (by rw[dj];exact h'),dj] at h;exact⟨n,q-n * d.es,by omega,by omega,h⟩
def Al(d:Ct):∀n i,i<n->((ms d n).drop (i * d.es)).take d.es=d.row i
 |0,_,h=>by omega
 |n+1,i,h=>by
  rcases aah i n with h'|h'
  ·have hm:i * d.es+d.es<=n * d.es:=by rw[←aaM];exact aaB _ h'
   rw[ms,abC (by rw[dj];omega),abt (by rw[aas,dj];omega),Al d n i h']
  ·have:i=n:=by omega
   subst this;rw[ms,abC (by rw[dj];omega),aaH (by rw[dj];omega),aa6,abm (by rw[d.row_len];omega)]
def rU:∀(g:G) (n i:Nat),∀a∈mg g n i,gm a=true
 |_,0,_,_,h=>by cases h
 |g,n+1,i,a,h=>by
  rcases List.mem_cons.1 h with h|h
  ·subst h;rfl
  ·exact rU g n (i+1) a h
def rV:∀(xs:List Sc) (g:G) (q:Nat),∀a∈bA xs g q,gm a=true
 | [],_,_,_,h=>by cases h
 |x::xs,g,q,a,h=>by
  rcases List.mem_append.1 h with h|h
  ·cases x <;> simp [fS] at h;case h n=>exact rU _ _ _ a h
   all_goals (subst h;rfl)
  ·exact rV xs g (q+1) a h
def Am(m:Nat)(l:List G):∀n,∀a∈ms (.rows m l) n,gm a=true
 |0,a,h=>by cases h
 |n+1,a,h=>by
  rcases List.mem_append.1 h with h|h
  ·exact Am m l n a h
  ·exact rV _ _ _ a h
def An(P:Program)(ρ:Rho)(w:World)(u:Value)(d:Ct):Prop:=(∀w:World,(Builtin.lenOf u).run P w= .ok d.len w)/\∃cs:List Value,LR ρ (ms d d.len) cs/\cs.length=d.len * d.es/\∀w2:World,w2.heap=w.heap->(Builtin.firstCells d.es d.len u).run P w2= .ok cs.toArray w2
def Fk{d:Ct}{blk off cp:Nat}{arr:Array Value}{ty:TypeId}{fr:Nat×Nat}(hw:w.heap[blk]? =some (.cells arr ty fr))(hb:off+d.len * d.es<=arr.size)(r:∀i j a,i<d.len->(d.row i)[j]? =some a->∃u,arr[off+i * d.es+j]? =some u/\VR ρ a u):An P ρ w (.slice (some ⟨blk,off,none⟩) d.len cp) d:=by
 have hcl:((arr.toList.drop off).take (d.len * d.es)).length=d.len * d.es:=by rw[aao,aas,aaN];omega
 refine⟨λw=>rfl,(arr.toList.drop off).take (d.len * d.es),⟨by rw[hcl,dj],λq a v ha hv=>?_⟩,hcl,λw2 hw2=>?_⟩
 ·obtain⟨i,j,h1,h2,h3⟩:=Fj d _ ha;obtain⟨u,u1,u2⟩:=r i j a h1 h3;have hq:q<d.len * d.es:=by
   rcases aah q (d.len * d.es) with h'|h'
   ·exact h'
   ·rw[aam (by rw[dj];exact h')] at ha;cases ha
  rw[aav hq,aaz,aa0,h2, ←abu,u1] at hv;injection hv with hv;rw[←hv];exact u2
 ·refine run_firstCells_some w2 d.es d.len _ _ _ _ hcl λj v hj=>?_;have hj':j<d.len * d.es:=by
   rcases aah j (d.len * d.es) with h'|h'
   ·exact h'
   ·rw[aam (by rw[hcl];exact h')] at hj;cases hj
  rw[aav hj',aaz] at hj;have e1:(⟨blk,off,none⟩:Addr).add j=⟨blk,off+j,none⟩:=by have:=dE (h:=⟨blk,0,0⟩) (o:=off) (n:=j) (aaq _);simpa using this
  rw[e1];simp only [World.cell?,hw2,hw];rw[←hj];simp
def mt{d:Ct}(h0:d.len=0){a:Option Addr}{c:Nat}:An P ρ w (.slice a 0 c) d:=by
 refine⟨λ_=>by rw[h0];rfl,[], ?_,by rw[h0];simp,λ_ _=>?_⟩
 ·rw[h0];exact LR.nil ρ
 ·rw[h0];cases a <;> simp [Builtin.firstCells,loadCells,loadCellsFrom]
def Re{m:Nat}{l:List G}{y:AV}{u:Value}(hG:Good w0 ρ σ.h w)(hy:VR ρ y u)(h:E1 y=some (m,l)):An P ρ w u (.rows m l):=by
 cases hy with
 |cv c blk off cp arr ty hf hc hb r=>
  cases c with
  |bytes t=>cases h
  |rows m' l'=>
   injection h with h;injection h with e1 e2;subst e1;subst e2;obtain⟨⟨fr,hw⟩,_⟩:=hG.frz _ _ _ hf;refine Fk hw hb λi j a hi ha=>?_;have hj:j<(Ct.rows m' l').es:=by
    have:=(Ct.rows m' l').row_len i;rcases aah j ((Ct.rows m' l').row i).length with h'|h'
    ·omega
    ·rw[aam h'] at ha;cases ha
   have hm:i * (Ct.rows m' l').es+(Ct.rows m' l').es<=(Ct.rows m' l').len * (Ct.rows m' l').es:=by rw[←aaM];exact aaB _ hi
   have c9:off+i * (Ct.rows m' l').es+j<arr.size:=by omega
   exact⟨_,aaQ c9,r i j a _ hi ha (aaQ c9)⟩
 |cvnil c h0=>
  cases c with
  |bytes t=>cases h
  |rows m' l'=>injection h with h;injection h with e1 e2;subst e1;subst e2;exact mt h0
 |cvempty c a h0=>
  cases c with
  |bytes t=>cases h
  |rows m' l'=>injection h with h;injection h with e1 e2;subst e1;subst e2;exact mt h0
 |_=>cases h
def LE{m:Nat}{l:List G}{b g n ty:Nat}{u:Value}(hG:Good w0 ρ σ.h w)(hq:σ.h.get b=some (.grow (.rows m l) g ty))(hn:l.length=n)(hy:VR ρ (.gsl b g n (bm (cU m))) u):An P ρ w u (.rows m l):=by
 cases hy with
 |gnil _ _ _=>exact mt (show(Ct.rows m l).len=0 from hn)
 |gempty _ _ _ a=>exact mt (show(Ct.rows m l).len=0 from hn)
 |gsl _ _ _ _ hm c hn1 hh hsh hcc hz=>
  subst hn;rcases hG.blk _ _ hq with hB|⟨hm',q1,q2,q3,arr,fr,q4,q5,q6,q7,q8⟩
  ·have hB:l.length=0:=hB;omega
  ·rw[hh] at q1;injection q1 with q1;subst q1;refine Fk (d:=.rows m l) (off:=0) q4 (by rw[aap,q5];exact q6) λi j a hi ha=>?_;obtain⟨uu,u1,u2⟩:=q8 i hi j a ha;exact⟨uu,by rw[aap];exact u1,u2⟩
def LG{m n:Nat}{l:List G}{b g ty:Nat}{u:Value}(hG:Good w0 ρ σ.h w)(hq:σ.h.get b=some (.grow (.rows m l) g ty))(hn:n<=l.length)(hy:VR ρ (.gsl b g n (bm (cU m))) u):An P ρ w u (.rows m (l.take n)):=by
 have hl:(l.take n).length=n:=by rw[aao];omega
 cases hy with
 |gnil _ _ _=>exact mt (d:=.rows m (l.take 0)) hl
 |gempty _ _ _ a=>exact mt (d:=.rows m (l.take 0)) hl
 |gsl _ _ _ _ hm c hn1 hh hsh hcc hz=>
  rcases hG.blk _ _ hq with hB|⟨hm',q1,q2,q3,arr,fr,q4,q5,q6,q7,q8⟩
  ·have hB:l.length=0:=hB;omega
  ·rw[hh] at q1;injection q1 with q1;subst q1;have q6:l.length * bm (cU m)<=hm.size:=q6;have hmul:n * bm (cU m)<=l.length * bm (cU m):=aaB _ hn;have:=Fk (P:=P) (ρ:=ρ) (d:=.rows m (l.take n)) (off:=0) (cp:=c) q4 (by show 0+(l.take n).length * bm (cU m)<=_;rw[hl];omega) λi j a hi ha=>by
    have hi:i<n:=by have hi:i<(l.take n).length:=hi;omega
    have e:(Ct.rows m (l.take n)).row i=(Ct.rows m l).row i:=by show bA _ (aq _ _) _=bA _ (aq _ _) _;unfold aq;rw[aag,aag,aav hi]
    rw[e] at ha;obtain⟨uu,u1,u2⟩:=q8 i (show i<l.length by omega) j a ha;exact⟨uu,by rw[aap];exact u1,u2⟩
   rw[show(Ct.rows m (l.take n)).len=n from hl] at this;exact this
def LH{m n o:Nat}{l:List G}{b g ty:Nat}{u:Value}(hG:Good w0 ρ σ.h w)(hq:σ.h.get b=some (.grow (.rows m l) g ty))(ho:o=o/bm (cU m) * bm (cU m))(hn:o/bm (cU m)+n<=l.length)(hy:VR ρ (.slc b g o n none (bm (cU m))) u):An P ρ w u (.rows m ((l.drop (o/bm (cU m))).take n)):=by
 have hl:((l.drop (o/bm (cU m))).take n).length=n:=by rw[aao,aas];omega
 cases hy with
 |slc _ _ _ _ _ _ ad c V'=>
  obtain⟨hlc,V'⟩:=V';rcases aaU n with hn0|hn0
  ·subst hn0;exact mt (d:=.rows m ((l.drop (o/bm (cU m))).take 0)) hl
  rcases V' with⟨h1,_⟩|⟨hm,hh,hs,ea,hz⟩
  ·omega
  rcases hG.blk _ _ hq with hB|⟨hm',q1,q2,q3,arr,fr,q4,q5,q6,q7,q8⟩
  ·have hB:l.length=0:=hB;have:=aaL (Nat.le_add_left n (o/bm (cU m))) hn;omega
  rw[hh] at q1;injection q1 with q1;subst q1;subst ea;rw[q2,abp] at hz⊢;generalize hk:o/bm (cU m)=k0 at *;have q6:l.length * bm (cU m)<=hm.size:=q6;have hmul:(k0+n) * bm (cU m)<=l.length * bm (cU m):=aaB _ hn;rw[aaC] at hmul;have:=Fk (P:=P) (ρ:=ρ) (d:=.rows m ((l.drop k0).take n)) (off:=o) (cp:=c) q4 (by show o+((l.drop k0).take n).length * bm (cU m)<=_;rw[hl];omega) λi j a hi ha=>by
   have hi:i<n:=by have hi:i<((l.drop k0).take n).length:=hi;omega
   have e:(Ct.rows m ((l.drop k0).take n)).row i=(Ct.rows m l).row (k0+i):=by show bA _ (aq _ _) _=bA _ (aq _ _) _;unfold aq;rw[aag,aag,aav hi,aaz]
   rw[e] at ha;obtain⟨uu,u1,u2⟩:=q8 (k0+i) (show k0+i<l.length by omega) j a ha;refine⟨uu, ?_,u2⟩;have u1:arr[(k0+i) * bm (cU m)+j]? =some uu:=u1;rw[←u1];show arr[o+i * bm (cU m)+j]? =_;rw[ho,aaC]
  rw[show(Ct.rows m ((l.drop k0).take n)).len=n from hl] at this;exact this
def LI{tys:Array TypeId}{ts tx e ty:TypeId}{dx:TypeDesc}{i:TypeInfo}{zv:Value}{m:Nat}{l:List G}{a:AV}{v u:Value}(hS:SI σ)(hG:Good w0 ρ σ.h w)(hx:VR ρ a v)(hu:An P ρ w u (.rows m l))(h0:tys[0]? =some ts)(h1:tys[1]? =some tx)(ht:P.underlying ts=some (.slice e))(Y':P.underlying tx=some dx)(hni:∀j,dx≠ .int j)(hi:P.info? e=some i)(hby:i.bytes<=1000)(hiz:i.zero=some zv)(hzs:zv.cells.size=i.size)(h:run (uP e i.size m l k a) σ K=true):Res P w0 ρ w k K (Builtin.append_ tys ty #[v,u]):=by
 obtain⟨hlen,cs,hL,hcl,m8⟩:=hu
 cases a with
 |gsl b g len es=>
  obtain⟨kes,h⟩:=ay h
  have kes:=aM kes
  subst kes
  have c8:=di hS h
  obtain⟨q,b7,hq,e1,b6,h⟩:=bE hS h
  cases q with
  |grow c gen ty2=>
   cases c with
   |bytes l0=>exact(ah h).elim
   |rows m0 l0=>
   obtain⟨k1,z1⟩:=ay h
   obtain⟨k2,z2⟩:=ay z1
   obtain⟨k3,z3⟩:=ay z2
   obtain⟨k4,z4⟩:=ay z3
   obtain⟨⟨k5,k6,k7⟩,z5⟩:=aP z4
   obtain⟨x0,d8,hx0,e2,f9,_,z6⟩:=fw b6 z5
   clear h z1 z2 z3 z4 z5
   have k1:=aM k1
   have k2:=aM k2
   have k3:=aM k3
   have k4:=aM k4
   subst k1;subst k2;subst k3
   have b9:Good w0 ρ b7.h w:=by rw[e1];exact hG
   have G':b7.h.get b=some (.grow (.rows m0 l0) g ty2):=by rw[e1];exact hq
   rcases aaU l.length with hn0|l8
   ·have ht0:l= []:=List.length_eq_zero_iff.1 hn0
    subst ht0
    have el:l0++ []=l0:=abb l0
    rw[el] at e2
    have I':∀w:World,(Builtin.lenOf u).run P w= .ok 0 w:=hlen
    cases hx with
    |gsl _ _ _ _ hm c hn1 hh hsh hcc hz=>
     have hB:=b9.blk _ _ G';obtain⟨hle,hG3⟩:=b9.forkX (w':=w) (x:=.grow (.rows m0 l0) (g+1) ty2) (gen:=g) (h2:=hm) G' (λg' h'=>h') (λg' h'=>h') c8 (Kept.refl _ _ _) (λ_ _ _=>rfl) (aac _) (λ_ _ _ _ _=>rfl) (b9.dom _ _ _ hh).1 (.inl ⟨g,hh⟩) (λhle=>by
      rcases hB with hB|⟨hm',q1,q2,q3,arr,fr,q4,q5,q6,q7,q8⟩
      ·exact .inl hB
      ·rw[hh] at q1;injection q1 with q1;subst q1;exact .inr ⟨hm,Rho.put_at _ _ _ _,q2,q3.mono hle,arr,fr,q4,q5,q6,q7,λi hi j a ha=>by obtain⟨uu,u1,u2⟩:=q8 i hi j a ha;exact⟨uu,u1,u2.mono hle⟩⟩)
     exact⟨_,d8,_,_,w,z6,f9,by rw[e2];exact hG3,hle,.gsl b (g+1) (len+0) i.size hm c hn1 (Rho.put_at _ _ _ _) hsh hcc hz,be h0 h1 ht Y' hni hi (I' _) hcc (bf (I' w))⟩
    |gnil _ _ _=>exact .plain z6 f9 (by rw[e2];exact b9.none_turn G' c8 k5 (λg' h'=>abB h') (λh=>h)) (.gnil _ _ _) (be h0 h1 ht Y' hni hi (I' _) (aac _) (bf (I' w)))
    |gempty _ _ _ a=>exact .plain z6 f9 (by rw[e2];exact b9.none_turn G' c8 k5 (λg' h'=>abB h') (λh=>h)) (.gempty _ _ _ a) (be h0 h1 ht Y' hni hi (I' _) (aac _) (bf (I' w)))
   ·have aq8:(ms (.rows m0 l) l.length).length=l.length * i.size:=by rw[dj];show _ * bm (cU m0)=_;rw[k4]
    have an5:(Ct.rows m0 (l0++l)).len=(Ct.rows m0 l0).len+l.length:=aai;obtain⟨ρ',v',w',g1,g2,g3,g4⟩:=vj (P:=P) (ty:=ty) (c1:=.rows m0 (l0++l)) (n:=l.length) (l:=ms (.rows m0 l) l.length) (cs:=cs) b9 hx h0 h1 ht Y' hni hi hby hiz hzs hlen k7 l8 hL (by rw[hcl];show _ * bm (cU m0)=_;rw[k4];rfl)
     (λw2 hw2=>by have:=m8 w2 hw2;rwa [show(Ct.rows m0 l).es=i.size from k4] at this) G' c8 k4 aq8 (Am m0 l _) k5 k6 an5 rfl (λρ2 i2 hi2 vs L'=>by
      have hi2:i2<l0.length+l.length:=hi2;by_cases h':i2<l0.length
      ·rw[pf (show i2<(Ct.rows m0 l0).len from h')] at L';have e:(Ct.rows m0 (l0++l)).row i2=(Ct.rows m0 l0).row i2:=by show bA _ (aq _ _) _=bA _ (aq _ _) _;unfold aq;rw[aag,aag,aaD h']
       rw[e];exact L'
      ·rw[lA (show ¬i2<(Ct.rows m0 l0).len from h')] at L';have e:(Ct.rows m0 (l0++l)).row i2=(Ct.rows m0 l).row (i2-l0.length):=by show bA _ (aq _ _) _=bA _ (aq _ _) _;unfold aq;rw[aag,aag,aaA (by omega)]
       rw[e, ←Al (.rows m0 l) l.length (i2-l0.length) (by omega)];exact L')
    exact⟨_,d8,ρ',v',w',z6,f9,by rw[e2];exact g1,g2,g3,g4⟩
  |_=>exact(ah h).elim
 |_=>exact(ah h).elim
def De{tys:Array TypeId}{ts tx e ty:TypeId}{dx:TypeDesc}{x y:AV}{v u:Value}(hS:SI σ)(hG:Good w0 ρ σ.h w)(hx:VR ρ x v)(hy:VR ρ y u)(h0:tys[0]? =some ts)(h1:tys[1]? =some tx)(ht:P.underlying ts=some (.slice e))(Y':P.underlying tx=some dx)(hni:∀j,dx≠ .int j)(h:run (E3 P e x y k) σ K=true):Res P w0 ρ w k K (Builtin.append_ tys ty #[v,u]):=by
 obtain⟨i,hi,h⟩:=ZE h
 obtain⟨hby,h⟩:=ay h
 have hby:=bU hby
 obtain⟨hs1,h⟩:=ay (ke h)
 have hs1:=bU hs1
 obtain⟨z,zv,i',hi',hzr,hz,h⟩:=Aa ρ w h
 have hiz:i.zero=some zv:=by
  simp [zeroValue,typeInfo,aad,run_program,hi] at hzr
  cases hz0:i.zero with
  |none=>rw[hz0] at hzr;simp at hzr
  |some q=>rw[hz0] at hzr;simp at hzr;rw[hzr]
 obtain⟨zl,hzl,h⟩:=iu hz h
 obtain⟨hzs,h⟩:=ay h
 have hzs:=aM hzs
 have hzs:zv.cells.size=i.size:=by rw[←aaN,hzl.1];exact hzs
 have appS:∀(t:List Nat) (σ:St),SI σ->Good w0 ρ σ.h w->WB P ρ w u t->run (qH e i.size t x k) σ K=true->Res P w0 ρ w k K (Builtin.append_ tys ty #[v,u]):=by
  intro t σ hS hG hu h
  obtain⟨ae9,h⟩:=ay h
  have ae9:=aM ae9
  have grown:∀(a:AV) (a9:St),SI a9->Good w0 ρ a9.h w->VR ρ a v->run (zP e t k a) a9 K=true->Res P w0 ρ w k K (Builtin.append_ tys ty #[v,u]):=by
   intro a a9 r9 j9 ha h
   cases a with
   |gsl b g len es=>obtain⟨B',h⟩:=ay h;have B':=aM B';subst B';exact LD r9 j9 ha hu h0 h1 ht Y' hni hi hby hiz (by rw[hzs,ae9]) ae9 h
   |_=>exact(ah h).elim
  cases x with
  |gsl b g len es=>exact grown _ _ hS hG hx h
  |nils=>obtain⟨b,a9,hn,c8,e1,r9,h⟩:=gw hS h;cases hx;exact grown _ _ r9 (by rw[e1];exact hG.none_new hn c8 rfl) (.gnil _ _ _) h
  |slc b g o len cap es=>
   obtain⟨B',z1⟩:=ay h;have B':=aae B';rcases bT z1 with⟨hl0,z2⟩|⟨_,z2⟩
   ·obtain⟨hz,z3⟩:=ay z2
    obtain⟨b',a9,hn,c8,e1,r9,z4⟩:=gw hS z3
    have hc:cap=some 0:=by
     unfold wZ at hz;split at hz
     ·rfl
     ·cases hz
    have hl0:=aae hl0
    clear h z1 z2 z3
    cases hx with
    |slc _ _ _ _ _ _ a c V'=>rw[hc] at V';obtain⟨_,ec,_⟩:=V';rw[hl0,ec] at grown⊢;exact grown _ _ r9 (by rw[e1];exact hG.none_new hn c8 rfl) (.gempty _ _ _ a) z4
   ·obtain⟨a9,z3,r9,j9,_,hv⟩:=dZ hS hG kJ z2;rw[B'] at hx;exact grown _ _ r9 j9 (hv ρ (.refl _) _ hx) z3
  |_=>exact(ah h).elim
 have appR:∀(m:Nat) (l:List G) (σ:St),SI σ->Good w0 ρ σ.h w->An P ρ w u (.rows m l)->run (lw e i.size m l x k) σ K=true->Res P w0 ρ w k K (Builtin.append_ tys ty #[v,u]):=by
  intro m l σ hS hG hu h
  have grown:∀(a:AV) (a9:St),SI a9->Good w0 ρ a9.h w->VR ρ a v->run (uP e i.size m l k a) a9 K=true->Res P w0 ρ w k K (Builtin.append_ tys ty #[v,u]):=
   λa a9 r9 j9 ha h=>LI r9 j9 ha hu h0 h1 ht Y' hni hi hby hiz hzs h
  cases x with
  |gsl b g len es=>exact grown _ _ hS hG hx h
  |nils=>obtain⟨b,a9,hn,c8,e1,r9,h⟩:=gw hS h;cases hx;exact grown _ _ r9 (by rw[e1];exact hG.none_new hn c8 rfl) (.gnil _ _ _) h
  |slc b g o len cap es=>
   obtain⟨B',z1⟩:=ay h;have B':=aae B';rcases bT z1 with⟨hl0,z2⟩|⟨_,z2⟩
   ·obtain⟨hz,z3⟩:=ay z2
    obtain⟨b',a9,hn,c8,e1,r9,z4⟩:=gw hS z3
    have hc:cap=some 0:=by
     unfold wZ at hz;split at hz
     ·rfl
     ·cases hz
    have hl0:=aae hl0
    clear h z1 z2 z3
    cases hx with
    |slc _ _ _ _ _ _ a c V'=>rw[hc] at V';obtain⟨_,ec,_⟩:=V';rw[hl0,ec] at grown⊢;exact grown _ _ r9 (by rw[e1];exact hG.none_new hn c8 rfl) (.gempty _ _ _ a) z4
   ·obtain⟨a9,z3,r9,j9,_,hv⟩:=dZ hS hG iO z2;exact grown _ _ r9 j9 (hv ρ (.refl _) _ hx) z3
  |_=>exact(ah h).elim
 have main:∀σ:St,SI σ->Good w0 ρ σ.h w->run (match E1 y with
  |some (m,l)=>lw e i.size m l x k
  |none=>match CU y with
   |some t=>qH e i.size t x k
   |none=>KT y λn=>ac (Nat.ble n 1000000) (oT i.size n y λnew=>kG e i.size n new x k) .fail) σ K=true->Res P w0 ρ w k K (Builtin.append_ tys ty #[v,u]):=by
  intro σ hS hG h
  cases hrx:E1 y with
  |some ml=>
   obtain⟨m,l⟩:=ml
   rw[hrx] at h
   exact appR m l σ hS hG (Re hG hy hrx) h
  |none=>
  rw[hrx] at h
  cases hsb:CU y with
  |some t=>
   rw[hsb] at h
   exact appS t σ hS hG (Rc (P:=P) (w:=w) hG hy hsb) h
  |none=>
  rw[hsb] at h
  obtain⟨n,h,hlen⟩:=Rb (P:=P) hy h
  obtain⟨hn,h⟩:=ay h
  have hn:=bU hn
  obtain⟨l,cs,a9,e1,r9,h,hL,hcl,m8⟩:=vh (P:=P) (w:=w.drew) hS (hG.drawn _) hy (hlen _) (aac _) hs1 h
  have j9:Good w0 ρ a9.h w:=by rw[e1];exact hG
  have gcase:∀b g len es,VR ρ (.gsl b g len es) v->run (kG e i.size n l (.gsl b g len es) k) a9 K=true->Res P w0 ρ w k K (Builtin.append_ tys ty #[v,u]):=by
   intro b g len es hx h;obtain⟨B',h⟩:=ay h;have B':=aM B';subst B';rcases bT h with⟨h0',h⟩|⟨h0',h⟩
   ·have h0':=aM h0'
    subst h0'
    cases hx with
    |gsl _ _ _ _ hm c hn0 hh hsh hcc hz=>exact .plain h r9 j9 (.gsl _ _ _ _ hm c hn0 hh hsh hcc hz) (be h0 h1 ht Y' hni hi (hlen _) hcc (bf (hlen w)))
    |gnil _ _ _=>exact .plain h r9 j9 (.gnil _ _ _) (be h0 h1 ht Y' hni hi (hlen _) (aac _) (bf (hlen w)))
    |gempty _ _ _ a=>exact .plain h r9 j9 (.gempty _ _ _ a) (be h0 h1 ht Y' hni hi (hlen _) (aac _) (bf (hlen w)))
   ·have l8:0<n:=by
     rcases aaU n with e|e
     ·subst e;simp at h0'
     ·exact e
    exact Aj (ty:=ty) r9 j9 hx h0 h1 ht Y' hni hi hby hiz hzs hlen hn l8 hL hcl (λw2 hw2=>m8 w2 hw2) h
  cases hx with
  |nils=>
   rcases bT h with⟨h0',h⟩|⟨h0',h⟩
   ·have h0':=aM h0';subst h0';exact .plain h r9 j9 .nils (be h0 h1 ht Y' hni hi (hlen _) (aac _) (bf (hlen w)))
   ·have l8:0<n:=by
     rcases aaU n with e|e
     ·subst e;simp at h0'
     ·exact e
    have hnb:n * i.bytes<=1000000 * 1000:=abg hn hby;have c7:=dY (P:=P) (w:=w) (ty:=ty) (base:=none) (sLen:=0) (sCap:=0) (olds:=[]) h0 h1 ht Y' hni hi hiz (hlen w) (by omega) (by omega) (by rw[aap,nextslicecap_zero l8];omega) (by simp [Builtin.firstCells]) (m8 _ rfl);rw[aap] at c7;have hge:=grownCap_ge w n 0 e;refine Fi (a:=.nilIface) (ovs:=[]) (nvs:=cs) (rest:=λc=>(Builtin.zeroCells zv.cells (c-n)).toList) r9 j9 (LR.nil ρ) hL (grownCap w n 0 e) hge ?_ h _ c7;simp only [List.length_nil,aaN,size_zeroCells,hzs,hcl,aap, ←aaC];congr 1;omega
  |slc b g o len cap es a c V'=>
   obtain⟨B',h⟩:=ay h
   obtain⟨hlm,h⟩:=ay h
   have B':=aM B'
   have hlm:=bU hlm
   rcases bT h with⟨h0',h⟩|⟨h0',h⟩
   ·have h0':=aM h0';subst h0';exact .plain h r9 j9 (.slc _ _ _ _ _ _ _ _ V') (be h0 h1 ht Y' hni hi (hlen _) V'.1 (bf (hlen w)))
   ·have l8:0<n:=by
     rcases aaU n with e|e
     ·subst e;simp at h0'
     ·exact e
    have h:=ke h
    have aj6:Builtin.nextslicecap (len+n) c * i.bytes<=281474976710656∨len+n<=c:=by
     rcases aah c (len+n) with c9|hge
     ·left;have h1:Builtin.nextslicecap (len+n) c<=2 * (len+n):=nextslicecap_le c9;have h2:=abg h1 hby;omega
     ·exact .inr hge
    have hge:=grownCap_ge w (len+n) c e
    have an6:∀(m:Nat),len * i.size+cs.length+(Builtin.zeroCells zv.cells (m-(len+n))).toList.length=(len+n) * i.size+(m-(len+n)) * i.size:=λm=>by
     have hz1:(Builtin.zeroCells zv.cells (m-(len+n))).toList.length=(m-(len+n)) * i.size:=by rw[aaN,size_zeroCells,hzs]
     rw[hz1,hcl,aaC]
    cases cap with
    |some k0=>
     obtain⟨hlc,ek,hm,hh,ho,ea⟩:=V';subst ek;subst ea;rcases bT h with⟨hrm,h⟩|⟨hrm,h⟩
     ·have hrm:=bU hrm;have h:=ke h;obtain⟨d8,w2,q1,q2,q3,q4⟩:=pU (P:=P) r9 j9 hh (show hm.shift<=o+len * i.size by omega) hL h;refine⟨_,d8,ρ,_,w2,q1,q2,q3,Rho.le.refl ρ,.slc _ _ _ _ _ _ _ _ ⟨hrm,rfl,hm,hh,ho,rfl⟩, ?_⟩;exact eT h0 h1 ht Y' hni hi (hlen w) hrm (m8 w rfl) (by rw[dE ho];exact q4)
     ·have hrm:=ZD hrm;obtain⟨lo,ovs,d8,e2,f9,h,hLo,hol,hof⟩:=vh (P:=P) (v:=.slice (some ⟨hm.blk,o-hm.shift,none⟩) len c) (len:=len) r9 j9 (.slc b g o len (some c) es _ c ⟨hlc,rfl,hm,hh,ho,rfl⟩) rfl (aac _) hs1 h;have l7:Good w0 ρ d8.h w:=by rw[e2];exact j9
      have c7:=dY (P:=P) (w:=w) (ty:=ty) h0 h1 ht Y' hni hi hiz (hlen w) hrm (by omega) (aj6.resolve_right (by omega)) (hof _ rfl) (m8 _ rfl);refine Fi (a:=.nilIface) (ovs:=ovs) (nvs:=cs) (rest:=λm=>(Builtin.zeroCells zv.cells (m-(len+n))).toList) f9 l7 hLo hL (grownCap w (len+n) c e) hge ?_ h _ c7;rw[hol];have:=an6 (grownCap w (len+n) c e);rw[this, ←aaC];congr 1;omega
    |none=>
     have c8:=di r9 h
     obtain⟨q,d8,hq,e2,f9,h⟩:=bE r9 h
     have l7:Good w0 ρ d8.h w:=by rw[e2];exact j9
     cases q with
     |cells c0 gen lo hi fl fh ro ty=>
      obtain⟨k1,z1⟩:=rJ h;obtain⟨k2,z2⟩:=ay z1;obtain⟨k3,z3⟩:=ay z2;obtain⟨k4,z4⟩:=ay z3;obtain⟨k5,z5'⟩:=ay z4;obtain⟨k6,z5⟩:=ay z5';have z6:=ke z5;clear h z1 z2 z3 z4 z5 z5';have k6:=aM k6;have k2:=aM k2;have k3:=aM k3;have k4:=aM k4;have k5:=bU k5;subst k1;subst k2;subst k3;subst ty;subst B';subst k4;obtain⟨ct,z7,ab0,hct⟩:=IB _ _ _ z6;have z8:=ke z7;obtain⟨x0,σ3,_,e3,hS3,_,z9⟩:=fw f9 z8;have an7:l.length=n * i.size:=by rw[←hL.1];exact hcl
      obtain⟨hm0,ae_,_⟩:=(j9.blk _ _ hq).2 g (aac _);rcases aah c (len+n) with c9|ab9
      ·obtain⟨olds,hol,hoc,hof⟩:∃olds:List Value,olds.length=len * i.size/\(∀j v,olds[j]? =some v->0<len->w.cell? ⟨hm0.blk,o-hm0.shift+j,none⟩=some v)/\(Builtin.firstCells i.size len (.slice (some a) len c)).run P w.drew= .ok olds.toArray w.drew:=by
        rcases aaU len with hz0|hz0
        ·subst hz0;exact⟨[],by simp,by simp,by simp [Builtin.firstCells,loadCells,loadCellsFrom]⟩
        ·obtain⟨hlc,ab4⟩:=V';obtain⟨hm,hh,ho,ea,ac2⟩:=ab4.resolve_left (λhc=>by omega);rw[ae_] at hh;injection hh with hh;subst hh;obtain⟨hm',q1,q2,_,arr,fr,q3,q4,q5,q6⟩:=(j9.blk _ _ hq).2 g (aac _);rw[ae_] at q1;injection q1 with q1;subst q1;have hmul:len * i.size<=c * i.size:=abg hlc (aac _);refine⟨(arr.toList.drop (o-hm0.shift)).take (len * i.size), ?_,λj v hj _=>?_, ?_⟩
         ·rw[aao,aas,aaN,q4];omega
         ·rw[aa3] at hj;split at hj
          ·rw[aaz,aa0] at hj;simp [World.cell?,q3,hj]
          ·cases hj
         ·refine run_firstCells_some _ i.size len a len c _ (by rw[aao,aas,aaN,q4];omega) λj v hj=>?_;rw[ea,dE ho];rw[aa3] at hj;split at hj
          ·rw[aaz,aa0] at hj;show w.cell? _=_;rw[show o+j-hm0.shift=o-hm0.shift+j by omega];simp [World.cell?,q3,hj]
          ·cases hj
       have c7:=dY (P:=P) (w:=w) (ty:=ty) h0 h1 ht Y' hni hi hiz (hlen w) c9 (by omega) (aj6.resolve_right (by omega)) hof (m8 _ rfl);obtain⟨hle,hG3⟩:=LA (e2:=e) (rest:=(Builtin.zeroCells zv.cells (grownCap w (len+n) c e-(len+n))).toList) j9 c8 hq ae_ hL an7 hol (λhz0=>by obtain⟨hlc,ab4⟩:=V';obtain⟨hm,hh,ho,ea,ac2⟩:=ab4.resolve_left (λhc=>by omega);rw[ae_] at hh;injection hh with hh;subst hh;exact ho) hoc hct;refine⟨_,σ3,_,_,_,z9,hS3,by rw[e3,e2];exact hG3,hle,.slc _ _ _ _ _ _ _ _ ⟨hge,.inr ⟨_,Rho.put_at _ _ _ _,aac _,by simp, ?_⟩⟩,c7⟩;show o-o+grownCap w (len+n) c e * i.size<=(olds++cs++(Builtin.zeroCells zv.cells (grownCap w (len+n) c e-(len+n))).toList).length;rw[aai,aai,hol,an6, ←aaC,aba,aap];exact abg (by omega) (aac _)
      ·obtain⟨hlc,ab4⟩:=V';obtain⟨hm,hh,ho,ea,ac2⟩:=ab4.resolve_left (λhc=>by omega);rw[ae_] at hh;injection hh with hh;subst hh;subst ea;obtain⟨w',q1,hle,hG3⟩:=IC (P:=P) j9 c8 hq ae_ ho k5 hL an7 ab9 ac2 ab0 hct;refine⟨_,σ3,_,_,w',z9,hS3,by rw[e3,e2];exact hG3,hle,.slc _ _ _ _ _ _ _ _ ⟨ab9,.inr ⟨_,Rho.put_at _ _ _ _,ho,rfl,ac2⟩⟩, ?_⟩;exact eT h0 h1 ht Y' hni hi (hlen w) ab9 (m8 w rfl) q1
     |_=>exact(ah h).elim
  |gsl b g len es hm c hn0 hh hsh hcc hz=>exact gcase _ _ _ _ (.gsl _ _ _ _ hm c hn0 hh hsh hcc hz) h
  |gnil b g es=>exact gcase _ _ _ _ (.gnil _ _ _) h
  |gempty b g es a=>exact gcase _ _ _ _ (.gempty _ _ _ a) h
  |_=>exact(ah h).elim
 unfold E2 at h
 cases y with
 |gsl b g n es=>
  obtain⟨q,b7,hq,e1,b6,h⟩:=bE hS h
  have b9:Good w0 ρ b7.h w:=by rw[e1];exact hG
  have G':b7.h.get b=some q:=by rw[e1];exact hq
  cases q with
  |grow c gen ty2=>
   cases c with
   |rows m l=>
    obtain⟨c1,z1⟩:=ay h
    obtain⟨c2,z2⟩:=ay z1
    have c1:=aM c1
    have c2:=aM c2
    subst c1;subst c2
    rcases dw z2 with⟨c3,z3⟩|⟨_,z3⟩
    ·exact appR m l b7 b6 b9 (LE b9 G' c3 hy) z3
    ·obtain⟨c3,z4⟩:=aP z3;exact appR m _ b7 b6 b9 (LG b9 G' c3 hy) z4
   |bytes t=>
   obtain⟨c1,z1⟩:=ay h
   obtain⟨c2,z2⟩:=ay z1
   obtain⟨c3,z3⟩:=aP z2
   have c1:=aM c1
   have c2:=aM c2
   subst c1;subst c2
   exact appS t b7 b6 b9 (Rd b9 G' c3 hy) z3
  |_=>exact(ah h).elim
 |slc b g o n cap es=>
  cases cap with
  |some cc=>exact main σ hS hG h
  |none=>
  obtain⟨q,b7,hq,e1,b6,h⟩:=bE hS h
  have b9:Good w0 ρ b7.h w:=by rw[e1];exact hG
  have G':b7.h.get b=some q:=by rw[e1];exact hq
  have fall:run (KT (.slc b g o n none es) λn'=>ac (Nat.ble n' 1000000) (oT i.size n' (.slc b g o n none es) λnew=>kG e i.size n' new x k) .fail) b7 K=true->Res P w0 ρ w k K (Builtin.append_ tys ty #[v,u]):=λh=>main b7 b6 b9 h
  cases q with
  |grow c gen ty2=>
   cases c with
   |rows m l=>
    obtain⟨c1,z1⟩:=ay h
    obtain⟨c2,z2⟩:=ay z1
    obtain⟨⟨c3,c4⟩,z3⟩:=aP z2
    have c1:=aM c1
    have c2:=aM c2
    subst c1;subst c2
    exact appR m _ b7 b6 b9 (LH b9 G' c3 c4 hy) z3
   |bytes t=>exact fall h
  |_=>exact fall h
 |_=>exact main σ hS hG h
def Df{tys:Array TypeId}{ty:TypeId}{args:List AV}{vs:List Value}(hS:SI σ)(hG:Good w0 ρ σ.h w)(hl:LR ρ args vs)(h:run (w_ P tys args k) σ K=true):Res P w0 ρ w k K (Builtin.append_ tys ty vs.toArray):=by
 unfold w_ at h;split at h
 ·rename_i ts tx s x h0 h1;obtain⟨v,vs1,rfl,hv,hl1⟩:=hl.cons_inv;obtain⟨u,vs2,rfl,hu,hl2⟩:=hl1.cons_inv;have:=hl2.nil_inv;subst this;obtain⟨d,hd,h⟩:=cL h;obtain⟨dx,Y',h⟩:=cL h;split at h
  ·exact(ah h).elim
  ·rename_i e hni;exact De hS hG hv hu h0 h1 hd Y' (λj ej=>hni j ej) h
  ·exact(ah h).elim
 ·exact(ah h).elim
def IF{tys:Array TypeId}{ty:TypeId}{args:List AV}{vs:List Value}(hS:SI σ)(hG:Good w0 ρ σ.h w)(hl:LR ρ args vs)(h:run (CV P tys args k) σ K=true):Res P w0 ρ w k K (Builtin.len_ tys ty vs.toArray):=by
 unfold CV at h;split at h
 ·rename_i t x h0;obtain⟨v,vs1,rfl,hv,hl1⟩:=hl.cons_inv;have:=hl1.nil_inv;subst this;obtain⟨d,hd,h⟩:=cL h;split at h
  ·cases hv with
   |str s=>
    have hn:(bytesOf s).length=s.size:=by unfold bytesOf;rw[aaR];rfl
    refine .plain (ke h) hS hG (.int _ _) ?_;simp [Builtin.len_,h0,run_underlying hd,goInt,hn]
  ·refine .plain h hS hG (.int _ _) ?_;simp [Builtin.len_,h0,run_underlying hd,goInt]
  ·cases hv;refine .plain h hS hG (.int _ _) ?_;simp [Builtin.len_,h0,run_underlying hd,goInt]
  ·cases hv;refine .plain h hS hG (.int _ _) ?_;simp [Builtin.len_,h0,run_underlying hd,goInt]
  ·cases hv with
   |osl n base len cap hb=>refine .plain h hS hG (.anyI .i64 (len:Int)) ?_;simp [Builtin.len_,h0,run_underlying hd,goInt]
  ·cases hv with
   |cv c blk off cp arr t2 hf hc hb r=>refine .plain h hS hG (.sI .i64 _) ?_;simp [Builtin.len_,h0,run_underlying hd,goInt]
   |cvnil c hc0=>refine .plain h hS hG (.sI .i64 _) ?_;simp [Builtin.len_,h0,run_underlying hd,goInt,hc0]
   |cvempty c a hc0=>refine .plain h hS hG (.sI .i64 _) ?_;simp [Builtin.len_,h0,run_underlying hd,goInt,hc0]
  ·cases hv with
   |gsl b g n es hm c hn0 hh hsh hcc hz=>refine .plain h hS hG (.sI .i64 _) ?_;simp [Builtin.len_,h0,run_underlying hd,goInt]
   |gnil b g es=>refine .plain h hS hG (.sI .i64 _) ?_;simp [Builtin.len_,h0,run_underlying hd,goInt]
   |gempty b g es a=>refine .plain h hS hG (.sI .i64 _) ?_;simp [Builtin.len_,h0,run_underlying hd,goInt]
  ·cases hv with
   |sS s=>
    have hn:(bytesOf s).length=s.size:=by unfold bytesOf;rw[aaR];rfl
    refine .plain h hS hG (.sI .i64 ((bytesOf s).length:Int)) ?_;simp [Builtin.len_,h0,run_underlying hd,goInt,hn]
  ·cases hv;refine .plain h hS hG (.int _ _) ?_;simp [Builtin.len_,h0,run_underlying hd,goInt]
  ·cases hv with
   |map b hm hh=>
    obtain⟨q,b7,hq,e1,b6,h⟩:=bE hS h
    cases q with
    |mapo es clock=>obtain⟨hm',j4,hB,M',j7,T',_⟩:=hG.blk _ _ hq;rw[hh] at j4;injection j4 with j4;subst j4;refine .plain (ke h) b6 (by rw[e1];exact hG) (.int _ _) ?_;simp [Builtin.len_,h0,run_underlying hd,goInt,bu j7 (by simp),T']
    |smap m l=>obtain⟨hm',j4,hB,M',clock,j7,T',_⟩:=hG.blk _ _ hq;rw[hh] at j4;injection j4 with j4;subst j4;refine .plain h b6 (by rw[e1];exact hG) (.sI _ _) ?_;simp [Builtin.len_,h0,run_underlying hd,goInt,bu j7 (by simp),T']
    |_=>exact(ah h).elim
  ·exact(ah h).elim
 ·exact(ah h).elim
def rW{t:TypeId}{r:Option Value}(hr:∀v,r=some v->(∃kt e,P.underlying t=some (.map kt e))/\∃j n,v= .int j n)(hS:SI σ)(hG:Good w0 ρ σ.h w)(h:run (.new (.mapo [] 0) λb=>k (.map b)) σ K=true):Res P w0 ρ w k K (Instr.makeMap t r):=by
 obtain⟨n,a9,hn,c8,hh,r9,h⟩:=gw hS h
 obtain⟨hle,j9⟩:=hG.alloc hn c8 (.mapo [] 0) (.map #[] 0) 0 0 (λρ' hle o6 _=>⟨_,o6,.new hG.below.size, #[],by simp,rfl,by simp⟩)
 refine⟨_,a9,_,_,_,h,r9,by rw[hh];exact j9,hle,.map n _ (Rho.put_at _ _ _ _), ?_⟩
 cases r with
 |none=>simp [Instr.makeMap]
 |some v=>obtain⟨⟨kt,e,hu⟩,j,m,rfl⟩:=hr v rfl;simp [Instr.makeMap,run_underlying hu,asInt,asIntOf]
def xq{x:AV}{v:Value}(hx:VR ρ x v)(h:run (uQ x k) σ K=true):run (k x) σ K=true/\((∃a,v= .pointer (some a))∨(∃f l m,v= .func (.func f) l m)∨∃f l m,v= .func (.yield f) l m):=by
 cases hx with
 |ptr b g o hm hh ho=>exact⟨h,.inl ⟨_,rfl⟩⟩
 |cptr _ _ _ _ _ _ _ _=>exact⟨h,.inl ⟨_,rfl⟩⟩
 |yld b hm hh=>exact⟨h,.inr (.inr ⟨_,_,_,rfl⟩)⟩
 |func fn l m first captured h1 h2 r1 r2 hf=>
  cases fn with
  |func f=>exact⟨h,.inr (.inl ⟨_,_,_,rfl⟩)⟩
  |yield f=>exact⟨h,.inr (.inr ⟨_,_,_,rfl⟩)⟩
  |_=>exact(ah h).elim
 |_=>exact(ah h).elim
end
end Go.Sym
namespace Go.Sym
open Go.RowKit (Below)
def MR(ρ:Rho)(es:List ME)(ess:List MapEntry):Prop:=
 ess.length=es.length/\∀(i:Nat) (k v:AV) (n:Nat) (e:MapEntry),es[i]? =some (.mk k v n)->ess[i]? =some e->VR ρ k e.key/\VR ρ v e.val/\e.born=n
def MR.nil(ρ:Rho):MR ρ [] []:=⟨rfl,by simp⟩
def MR.cons{ρ:Rho}{k v:AV}{n:Nat}{e:MapEntry}{es:List ME}{ess:List MapEntry}(h1:VR ρ k e.key)(h2:VR ρ v e.val)(h3:e.born=n)(h:MR ρ es ess):MR ρ (.mk k v n::es) (e::ess):=by
 refine⟨by simp [h.1],λi k' v' n' e' hi he=>?_⟩
 cases i with
 |zero=>simp at hi he;obtain⟨q1,q2,q3⟩:=hi;subst q1;subst q2;subst q3;subst he;exact⟨h1,h2,h3⟩
 |succ i=>exact h.2 i k' v' n' e' (by simpa using hi) (by simpa using he)
def MR.cons_inv{ρ:Rho}{k v:AV}{n:Nat}{es:List ME}{ess:List MapEntry}(h:MR ρ (.mk k v n::es) ess):∃e ac9,ess=e::ac9/\VR ρ k e.key/\VR ρ v e.val/\e.born=n/\MR ρ es ac9:=by
 cases ess with
 |nil=>exact absurd h.1 (by simp)
 |cons e ac9=>obtain⟨h1,h2,h3⟩:=h.2 0 k v n e rfl rfl;exact⟨e,ac9,rfl,h1,h2,h3,by simpa using h.1,λi k' v' n' e' hi he=>h.2 (i+1) k' v' n' e' (by simpa using hi) (by simpa using he)⟩
def MR.nil_inv{ρ:Rho}{ess:List MapEntry}(h:MR ρ [] ess):ess= []:=by
 cases ess with
 |nil=>rfl
 |cons _ _=>exact absurd h.1 (by simp)
def MR.append{ρ:Rho}{es fs:List ME}{ess fss:List MapEntry}(h:MR ρ es ess)(h':MR ρ fs fss):MR ρ (es++fs) (ess++fss):=by
 induction es generalizing ess with
 |nil=>rw[h.nil_inv];exact h'
 |cons x es ih=>
  cases x with
  |mk k v n=>obtain⟨e,ac9,rfl,h1,h2,h3,h4⟩:=h.cons_inv;exact MR.cons h1 h2 h3 (ih h4)
def MR.get{ρ:Rho}{es:List ME}{ess:List MapEntry}(h:MR ρ es ess){i:Nat}{k v:AV}{n:Nat}(hi:es[i]? =some (.mk k v n)):∃e,ess[i]? =some e/\VR ρ k e.key/\VR ρ v e.val/\e.born=n:=by
 have c9:i<ess.length:=by
  rcases aah i es.length with h'|h'
  ·rw[h.1];exact h'
  ·rw[aam h'] at hi;cases hi
 exact⟨_,aak c9,h.2 i k v n _ hi (aak c9)⟩
def MR.set{ρ:Rho}{es:List ME}{ess:List MapEntry}(h:MR ρ es ess){i:Nat}{k v:AV}{n:Nat}{e:MapEntry}(h1:VR ρ k e.key)(h2:VR ρ v e.val)(h3:e.born=n):MR ρ (es.set i (.mk k v n)) (ess.set i e):=by
 refine⟨by simp [h.1],λj k' v' n' e' hj he=>?_⟩;rw[abD] at hj he;by_cases eij:i=j
 ·subst eij;rw[if_pos rfl] at hj he;split at hj
  ·injection hj with hj;injection hj with q1 q2 q3;subst q1;subst q2;subst q3;split at he
   ·injection he with he;subst he;exact⟨h1,h2,h3⟩
   ·cases he
  ·cases hj
 ·rw[if_neg eij] at hj he;exact h.2 j k' v' n' e' hj he
section
variable{P:Program}{w0:World}{ρ:Rho}{w:World}{σ:St}{K:Fin}{k:AV->Tr}
def BR.mapo_MR{B b:Nat}{es:List ME}{clock:Nat}(h:BR ρ B w b (.mapo es clock)):∃hm,ρ.at_ b 0=some hm/\Own ρ B hm.blk/\∃M',w.heap[hm.blk]? =some (.map M' clock)/\MR ρ es M'.toList:=by obtain⟨hm,h1,h2,M',h3,h4,h5⟩:=h;exact⟨hm,h1,h2,M',h3,by simpa using h4,λi k v n e hi he=>h5 i k v n e hi (by simpa using he)⟩
def IG:∀(f:Nat) (t:TypeId),CW P f t=true->gt P f t=true:=by
 intro f
 induction f with
 |zero=>intro t h;simp [CW] at h
 |succ f ih=>
  intro t h;unfold CW at h;unfold gt;split at h
  ·rename_i e;rw[e]
  ·rename_i e;rw[e]
  ·rename_i e;rw[e]
  ·rename_i fs e;rw[e];simp only [Bool.and_eq_true,abk] at h⊢;exact⟨h.1,λfd hfd=>ih _ (h.2 fd hfd).2⟩
  ·rename_i n e' e;rw[e];exact ih _ h
  ·cases h
def LJ(em:Bool):∀(f:Nat) (t:TypeId) (a:AV) (v:Value) (N:Nat),CX P f t a=true->VR ρ a v->f<=N->(Instr.checkKey em N t v).run P w= .ok () w:=by
 intro f
 induction f with
 |zero=>intro t a v N h;simp [CX] at h
 |succ f ih=>
  intro t a v N h hv hN;obtain⟨N,rfl⟩:∃N',N=N'+1:=⟨N-1,by omega⟩
  unfold CX at h;split at h
  ·rename_i e;simp [Instr.checkKey,run_underlying e]
  ·rename_i e;simp [Instr.checkKey,run_underlying e]
  ·rename_i e;simp [Instr.checkKey,run_underlying e]
  ·rename_i fs e;split at h
   ·rename_i l
    cases hv with
    |agg _ cs h1 h2=>
     have hl:=LR.of_arr h1 h2
     rw[Instr.checkKey]
     simp only [aad,run_underlying e,aaj]
     rw[←Array.forIn_toList]
     have h:=List.all_eq_true.mp h
     generalize fs.toList=L at h
     induction L with
     |nil=>simp
     |cons fd L ihl=>
      have hfd:=h fd (by simp);split at hfd
      ·rename_i i d hi hd;split at hfd
       ·rename_i a ha;obtain⟨x,p1,r1⟩:=kI (w:=w) hd hi hl ha;have p2:=ih fd.type a x N hfd r1 (by omega);simp only [List.forIn_cons,aad];by_cases hn:fd.name= "_"
        ·simp only [hn,ne_eq,not_true_eq_false,if_false,aaf,aaj];exact ihl λy hy=>h y (by simp [hy])
        ·simp only [hn,ne_eq,not_false_eq_true,if_true,aad,p1,p2,aaj,aaf];exact ihl λy hy=>h y (by simp [hy])
       ·cases hfd
      ·cases hfd
   ·cases h
  ·rename_i n e' e;split at h
   ·rename_i l i d hi hd
    simp only [Bool.and_eq_true,Bool.not_eq_true',abk] at h
    obtain⟨⟨⟨hs1,hna⟩,hln⟩,ad6⟩:=h
    have hs1:=aM hs1
    have hln:=aM hln
    cases hv with
    |agg _ cs h1 h2=>
     have hl:=LR.of_arr h1 h2
     rw[Instr.checkKey]
     simp only [aad,run_underlying e,aaj]
     simp only [Std.Legacy.Range.forIn_eq_forIn_range',Std.Legacy.Range.size,abp,Nat.add_one_sub_one,Nat.div_one]
     have each:∀j∈List.range' 0 n,∃x,(part e' cs (j * 1)).run P w= .ok x w/\(Instr.checkKey em N e' x).run P w= .ok () w:=λj hj=>by
      have hjn:j<l.length:=by have:=List.mem_range'.1 hj;obtain⟨i,hi,e⟩:=this;omega
      obtain⟨x,hx,hr⟩:=hl.get (aak hjn);have hx':cs[j]? =some x:=by simpa using hx
      refine⟨x, ?_,ih e' l[j] x N (ad6 _ (abd _)) hr (by omega)⟩;simp only [aaJ,part,aad,cC hd,hna,aaj,Bool.false_eq_true,if_false,hx',aaf]
     generalize List.range' 0 n=is at each
     induction is with
     |nil=>simp
     |cons j is ihl=>obtain⟨x,p1,p2⟩:=each j (by simp);simp only [List.forIn_cons,aad,aB hi,hs1,aaj,p1,p2,aaf];exact ihl λy hy=>each y (by simp [hy])
   ·cases h
  ·cases h
def FR(ρ:Rho)(es:List ME)(ess:List MapEntry):Option (Nat×AV)->Option (Nat×Value)->Prop
 |none,none=>True
 |some (i,a),some (j,v)=>i=j/\VR ρ a v/\∃k n,es[i]? =some (.mk k a n)
 |_,_=>False
def rX{d:TypeDesc}{x y:AV}{v u:Value}{r:Bool}{f:Nat}(hd:d= .bool∨(∃j,d= .int j)∨d= .string)(hx:VR ρ x v)(hy:VR ρ y u)(h:fM P (f+1) d x y=some r):Instr.sameNow d v u=some r:=by
 rcases hd with rfl|⟨j,rfl⟩|rfl
 ·cases x <;> first|(simp [fM] at h;done)|skip
  cases y <;> first|(simp [fM] at h;done)|skip
  cases hx;cases hy;injection h with h;subst h;rfl
 ·cases x <;> first|(simp [fM] at h;done)|skip
  cases y <;> first|(simp [fM] at h;done)|skip
  cases hx;cases hy;rename_i k1 a k2 b;exact(show(if k1=k2 then some (a==b) else none)=some r from h)
 ·cases x <;> first|(simp [fM] at h;done)|skip
  cases y <;> first|(simp [fM] at h;done)|skip
  cases hx;cases hy;injection h with h;subst h;rw[lz, ←beq_toListBytes];rfl
def FR.cons{es:List ME}{ess:List MapEntry}{x:ME}{e:MapEntry}{r:Option (Nat×AV)}{r':Option (Nat×Value)}{i:Nat}(h:FR ρ es ess (r.map λp=>(p.1-(i+1),p.2)) (r'.map λp=>(p.1-(i+1),p.2)))(hr:∀p,r=some p->i+1<=p.1)(hr':∀p,r'=some p->i+1<=p.1):
 FR ρ (x::es) (e::ess) (r.map λp=>(p.1-i,p.2)) (r'.map λp=>(p.1-i,p.2)):=by
 cases r with
 |none=>cases r' with
  |none=>trivial
  |some p'=>exact h.elim
 |some p=>
  cases r' with
  |none=>exact h.elim
  |some p'=>
   obtain⟨h1,h2,k,n,h3⟩:=h
   have a:=hr p rfl
   have b:=hr' p' rfl
   refine⟨by show p.1-i=p'.1-i;omega,h2,k,n, ?_⟩
   show(x::es)[p.1-i]? =_
   rw[show p.1-i=(p.1-(i+1))+1 by omega]
   simpa using h3
def Ao{q:AV->AV->Option Bool}{key:AV}:∀(es:List ME) (i:Nat) (r:Option (Nat×AV)),gW q key es i=some r->∀p,r=some p->i<=p.1:=by
 intro es
 induction es with
 |nil=>intro i r h p hp;simp only [gW] at h;injection h with h;subst h;cases hp
 |cons x es ih=>
  intro i r h p hp
  cases x with
  |mk k v n=>
   simp only [gW] at h;split at h
   ·injection h with h;subst h;injection hp with hp;subst hp;exact aac _
   ·have:=ih _ _ h p hp;omega
   ·cases h
def Ap{d:TypeDesc}{f:Nat}(hd:d= .bool∨(∃j,d= .int j)∨d= .string){key:AV}{kv:Value}(hk:VR ρ key kv):∀(es:List ME) (ess:List MapEntry) (i:Nat) (r:Option (Nat×AV)),MR ρ es ess->gW (fM P (f+1) d) key es i=some r->
 ∃r',Instr.findNow d kv ess i=some r'/\(∀p,r'=some p->i<=p.1)/\FR ρ es ess (r.map λp=>(p.1-i,p.2)) (r'.map λp=>(p.1-i,p.2)):=by
 intro es
 induction es with
 |nil=>intro ess i r hm h;simp only [gW] at h;injection h with h;subst h;rw[hm.nil_inv];exact⟨none,rfl,λp hp=>(by cases hp),trivial⟩
 |cons x es ih=>
  intro ess i r hm h
  cases x with
  |mk k v n=>
   obtain⟨e,ac9,rfl,h1,h2,h3,h4⟩:=hm.cons_inv
   simp only [gW] at h
   split at h
   ·rename_i hq;injection h with h;subst h;refine⟨some (i,e.val),by simp [Instr.findNow,rX hd hk h1 hq],λp hp=>by injection hp with hp;subst hp;exact aac _, ?_⟩;exact⟨rfl,h2,k,n,by simp⟩
   ·rename_i hq;obtain⟨r',q1,q2,q3⟩:=ih ac9 (i+1) r h4 h;refine⟨r',by simp [Instr.findNow,rX hd hk h1 hq,q1],λp hp=>by have:=q2 p hp;omega, ?_⟩;exact FR.cons q3 (λp hp=>Ao _ _ _ h p hp) q2
   ·cases h
def rY{kt:TypeId}{d:TypeDesc}(hu:P.underlying kt=some d)(hc:cB d=true->gt P 8 kt=true){key:AV}{kv:Value}(hk:VR ρ key kv):∀(es:List ME) (ess:List MapEntry) (i:Nat) (r:Option (Nat×AV)),MR ρ es ess->gW (fM P 16 d) key es i=some r->
 ∃r',(Instr.findAsking kt kv ess i).run P w= .ok r' w/\(∀p,r'=some p->i<=p.1)/\FR ρ es ess (r.map λp=>(p.1-i,p.2)) (r'.map λp=>(p.1-i,p.2)):=by
 intro es
 induction es with
 |nil=>intro ess i r hm h;simp only [gW] at h;injection h with h;subst h;rw[hm.nil_inv];exact⟨none,rfl,λp hp=>(by cases hp),trivial⟩
 |cons x es ih=>
  intro ess i r hm h
  cases x with
  |mk k v n=>
   obtain⟨e,ac9,rfl,h1,h2,h3,h4⟩:=hm.cons_inv
   simp only [gW] at h
   split at h
   ·rename_i hq;injection h with h;subst h;have:=nv (P:=P) (w:=w) 16 8 kt d key k kv e.key true Op.maxDepth hu hc hk h1 hq (by decide);refine⟨some (i,e.val),by simp [Instr.findAsking,Op.equal,this],λp hp=>by injection hp with hp;subst hp;exact aac _, ?_⟩;exact⟨rfl,h2,k,n,by simp⟩
   ·rename_i hq;have:=nv (P:=P) (w:=w) 16 8 kt d key k kv e.key false Op.maxDepth hu hc hk h1 hq (by decide);obtain⟨r',q1,q2,q3⟩:=ih ac9 (i+1) r h4 h;refine⟨r',by simp [Instr.findAsking,Op.equal,this,q1],λp hp=>by have:=q2 p hp;omega, ?_⟩;exact FR.cons q3 (λp hp=>Ao _ _ _ h p hp) q2
   ·cases h
def LK{kt:TypeId}{d:TypeDesc}{ag_ key:AV}{kv:Value}{es:List ME}{ess:List MapEntry}{r:Option (Nat×AV)}(hkd:CW P 8 kt=true)(hka:CX P 8 kt ag_=true)(hu:P.underlying kt=some d)(hk0:VR ρ ag_ kv)(hk:VR ρ key kv)(hm:MR ρ es ess)(hr:gW (fM P 16 d) key es 0=some r):
 ∃r',FR ρ es ess r r'/\(Instr.findKey kt kv ess).run P w= .ok r' w/\∀em,(Instr.checkKey em 10000 kt kv).run P w= .ok () w:=by
 have id0:∀{α:Type} (r:Option (Nat×α)),(r.map λp=>(p.1-0,p.2))=r:=λr=>by cases r <;> rfl
 have ab5:=λem=>LJ (w:=w) em 8 kt ag_ kv 10000 hka hk0 (by decide)
 by_cases hd:d= .bool∨(∃j,d= .int j)∨d= .string
 ·obtain⟨r',q1,_,q3⟩:=Ap hd hk es ess 0 r hm hr;rw[id0,id0] at q3;refine⟨r',q3, ?_,ab5⟩;simp [Instr.findKey,run_underlying hu,q1]
 ·obtain⟨r',q1,_,q3⟩:=rY (w:=w) hu (λ_=>IG 8 kt hkd) hk es ess 0 r hm hr
  rw[id0,id0] at q3
  refine⟨r',q3, ?_,ab5⟩
  have aq9:∀e M',Instr.findNow d kv (e::M') 0=none:=λe M'=>by
   have:Instr.sameNow d kv e.key=none:=by
    unfold Instr.sameNow;split
    ·exact absurd (.inr (.inl ⟨_,rfl⟩)) hd
    ·exact absurd (.inr (.inr rfl)) hd
    ·exact absurd (.inl rfl) hd
    ·rfl
   simp [Instr.findNow,this]
  cases ess with
  |nil=>
   have:r'=none:=by have:Result.ok none w=Result.ok r' w:=q1;injection this with e;exact e.symm
   subst this;simp [Instr.findKey,run_underlying hu,Instr.findNow]
  |cons e M'=>simp [Instr.findKey,run_underlying hu,aq9,q1]
def cX:List IntKind->List Int->List AV
 |k::ks,n::ns=>.int k n::cX ks ns
 |_,_=>[]
def rZ:∀{ks:List IntKind} {xs:List AV} {ns:List Int},dC ks xs=some ns->xs.map uV=cX ks ns/\ns.length=ks.length
 | [],xs,ns,h=>by obtain⟨rfl,rfl⟩:=gd h;exact⟨rfl,rfl⟩
 |j::ks,xs,ns,h=>by obtain⟨a,as,n,m,rfl,rfl,ha,h'⟩:=eS h;obtain⟨q1,q2⟩:=rZ h';exact⟨by simp [cX,ha,q1],by simp [q2]⟩
def r_:∀{ks:List IntKind} {ns:List Int},ns.length=ks.length->dC ks (cX ks ns)=some ns/\(cX ks ns).map uV=cX ks ns
 | [],[],_=>⟨rfl,rfl⟩
 |j::ks,n::ns,h=>by obtain⟨q1,q2⟩:=r_ (ks:=ks) (ns:=ns) (by simpa using h);refine⟨?_,by simp [cX,uV,q2]⟩;simp [cX,dC,cw,q1,ar]
 | [],_::_,h=>by simp at h
 |_::_,[],h=>by simp at h
def IH:∀(n:Nat) (g:G) (j:Nat),(dB n g j).length=n:=by
 intro n
 induction n with
 |zero=>intro g j;rfl
 |succ n ih=>intro g j;simp [dB,ih]
def II:∀(ks:List IntKind) (g:G) (j:Nat),(mh ks g j).map uV=cX ks (dB ks.length g j):=by
 intro ks
 induction ks with
 |nil=>intro g j;rfl
 |cons k ks ih=>intro g j;simp [mh,dB,cX,uV,ih]
def Rf{pre gs:List G}{j:Nat}:aa (.node (pre++gs)) (pre.length+j)=aa (.node gs) j:=by show(pre++gs).getD (pre.length+j) (.int 0)=gs.getD j (.int 0);simp only [aag];rw[aaA (by omega)];congr 2;omega
def IJ:∀(ns pre vs:List Int) (gs:List G),dB ns.length (.node ((pre++ns).map G.int++gs)) pre.length=ns:=by
 intro ns
 induction ns with
 |nil=>intro pre vs gs;rfl
 |cons n ns ih=>intro pre vs gs;have h1:=ih (pre++ [n]) vs gs;simp only [aaw,abE,aai,aaI] at h1;simp only [aat,dB];rw[h1];congr 1;show gI (((pre++n::ns).map G.int++gs).getD pre.length (.int 0))=n;simp [aag,gI]
def pg{ks:Nat}{ns:List Int}{gs:List G}(h:ns.length=ks):dB ks (.node (ns.map G.int++gs)) 0=ns:=by subst h;exact IJ ns [] [] gs
def ju(m:Nat)(ns:List Int):AV:=Wj (bJ m).ka (cX (bJ m).ks ns)
def Rg{m:Nat}{ix:AV}{u:Value}{ns:List Int}(h:Wq m ix=some ns)(hx:VR ρ ix u):VR ρ (ju m ns) u/\ns.length=(bJ m).ks.length:=by
 unfold Wq at h;unfold ju;split at h
 ·rename_i xs hka
  rw[hka]
  obtain⟨q1,q2⟩:=rZ h
  refine⟨?_,q2⟩
  cases hx with
  |agg _ cs h1 h2=>have:=xk (LR.of_arr h1 h2);rw[q1] at this;obtain⟨r1,r2⟩:=this.arr;exact .agg _ _ r1 r2
 ·cases h
 ·rename_i hka;rw[hka];obtain⟨q1,q2⟩:=rZ h;refine⟨?_,q2⟩;rw[←q1];exact C4 hx
def Aq{m:Nat}{g:G}{u:Value}(hx:VR ρ (nc m g) u):VR ρ (ju m (dB (bJ m).ks.length g 0)) u:=by
 unfold nc at hx
 unfold ju
 have e:=II (bJ m).ks g 0
 rw[←e]
 cases hka:(bJ m).ka with
 |true=>
  rw[hka] at hx
  cases hx with
  |agg _ cs h1 h2=>obtain⟨r1,r2⟩:=(xk (LR.of_arr h1 h2)).arr;exact .agg _ _ r1 r2
 |false=>
  rw[hka] at hx
  cases hl:mh (bJ m).ks g 0 with
  |nil=>rw[hl] at hx;exact hx
  |cons a l=>rw[hl] at hx;exact C4 hx
def Rh{m:Nat}{d:TypeDesc}{a b:List Int}(hd:Il P m d=true)(ha:a.length=(bJ m).ks.length)(hb:b.length=(bJ m).ks.length):fM P 16 d (ju m a) (ju m b)=some (decide (a=b)):=by
 unfold Il at hd;unfold ju;obtain⟨a1,a2⟩:=r_ ha;obtain⟨b1,b2⟩:=r_ hb;split at hd
 ·rename_i hka;rw[hka];split at hd
  ·rename_i ks hk;have hd:=of_decide_eq_true hd;subst hd;have:=zY (f:=14) hk a1 b1;rw[a2,b2] at this;exact this
  ·cases hd
 ·rename_i hka;rw[hka];split at hd
  ·rename_i j
   have hd:=of_decide_eq_true hd
   rw[hd] at ha hb⊢
   match a,b,ha,hb with
   | [x],[y],_,_=>show fM P 16 (.int j) (.int j x) (.int j y)=_;simp [fM];by_cases h:x=y <;> simp [h]
  ·cases hd
def IK{m:Nat}{ns:List Int}:dv 8 (Wj true (cX (bJ m).ks ns)) (Wj true (cX (bJ m).ks ns))=true:=by
 have:∀(ks:List IntKind) (ns:List Int),dv.sameAll (dv 7) (cX ks ns) (cX ks ns)=true:=by
  intro ks
  induction ks with
  |nil=>intro ns;cases ns <;> rfl
  |cons k ks ih=>
   intro ns
   cases ns with
   |nil=>rfl
   |cons n ns=>show ac (dv 7 (.int k n) (.int k n)) (dv.sameAll (dv 7) (cX ks ns) (cX ks ns)) false=true;rw[ih];simp [dv,ar]
 exact this _ _
def IL{m:Nat}{d:TypeDesc}{ns:List Int}(hd:Il P m d=true)(ha:ns.length=(bJ m).ks.length):dv 8 (ju m ns) (ju m ns)=true:=by
 unfold Il at hd;unfold ju;split at hd
 ·rename_i hka;rw[hka];exact IK
 ·rename_i hka;rw[hka];split at hd
  ·rename_i j
   have hd:=of_decide_eq_true hd
   rw[hd] at ha⊢
   match ns,ha with
   | [x],_=>show dv 8 (.int j x) (.int j x)=true;simp [dv,ar]
  ·cases hd
def Y8(m:Nat):List G->List MapEntry->List ME
 |g::l,e::es=>.mk (ju m (dB (bJ m).ks.length g 0)) (jU m g) e.born::Y8 m l es
 |_,_=>[]
def LL{m:Nat}:∀(l:List G) (ess:List MapEntry),ess.length=l.length->(∀(i:Nat) (g:G) (e:MapEntry),l[i]? =some g->ess[i]? =some e->VR ρ (nc m g) e.key/\VR ρ (jU m g) e.val)->MR ρ (Y8 m l ess) ess
 | [],[],_,_=>MR.nil ρ
 |g::l,e::es,h,hr=>by obtain⟨q1,q2⟩:=hr 0 g e rfl rfl;exact MR.cons (Aq q1) q2 rfl (LL l es (by simpa using h) λi g' e' h1 h2=>hr (i+1) g' e' (by simpa using h1) (by simpa using h2))
 | [],_::_,h,_=>by simp at h
 |_::_,[],h,_=>by simp at h
def Ar{m:Nat}{d:TypeDesc}{ns:List Int}(hd:Il P m d=true)(hn:ns.length=(bJ m).ks.length):∀(l:List G) (ess:List MapEntry) (i:Nat),ess.length=l.length->
 gW (fM P 16 d) (ju m ns) (Y8 m l ess) i=some (if cK m l ns<l.length then some (i+cK m l ns,jU m (eP m l ns)) else none)
 | [],[],i,_=>by simp [Y8,gW]
 |g::l,e::es,i,h=>by
  have ih:=Ar hd hn l es (i+1) (by simpa using h);have he:=Rh hd hn (IH (bJ m).ks.length g 0);simp only [Y8,gW,he];by_cases hg:dB (bJ m).ks.length g 0=ns
  ·have hk:cK m (g::l) ns=0:=by simp [cK,List.findIdx_cons,hg]
   have hk2:eP m (g::l) ns=g:=by simp [eP,hk,aq]
   simp [hk,hk2,hg]
  ·have hk:cK m (g::l) ns=cK m l ns+1:=by simp [cK,List.findIdx_cons,hg]
   have hk2:eP m (g::l) ns=eP m l ns:=by simp [eP,hk,aq]
   rw[show decide (ns=dB (bJ m).ks.length g 0)=false by simp [Ne.symm hg]];simp only [ih,hk,hk2,aat,Nat.add_lt_add_iff_right];split
   ·congr 3;omega
   ·rfl
 | [],_::_,i,h=>by simp at h
 |_::_,[],i,h=>by simp at h
def As{x:AV}{v:Value}{k1:Nat->Nat->List G->Tr}{k0:Tr}(hS:SI σ)(hG:Good w0 ρ σ.h w)(hx:VR ρ x v)(h:run (KZ x k1 k0) σ K=true):
 (∃a9,run k0 a9 K=true/\SI a9/\a9.h=σ.h)∨∃(b m:Nat) (l:List G) (hm:Home) (ess:List MapEntry) (clock:Nat) (a9:St),run (k1 b m l) a9 K=true/\SI a9/\a9.h=σ.h/\v= .map (some hm.blk)/\ρ.at_ b 0=some hm/\Own ρ w0.heap.size hm.blk/\w.heap[hm.blk]? =some (.map ess.toArray clock)/\ess.length=l.length/\
  (∀(i:Nat) (g:G) (e:MapEntry),l[i]? =some g->ess[i]? =some e->VR ρ (nc m g) e.key/\VR ρ (jU m g) e.val)/\a9.h.get b=some (.smap m l):=by
 cases hx with
 |map b hm hh=>
  obtain⟨q,b7,hq,e1,b6,h⟩:=bE hS h
  cases q with
  |smap m l=>
   obtain⟨hm',j4,hB,M',clock,j7,T',ab7⟩:=hG.blk _ _ hq
   rw[hh] at j4;injection j4 with j4;subst j4
   exact .inr ⟨b,m,l,hm,M'.toList,clock,b7,h,b6,e1,rfl,hh,hB,by simpa using j7,by simpa using T',λi g e h1 h2=>ab7 i g e h1 (by simpa using h2),by rw[e1];exact hq⟩
  |_=>exact .inl ⟨b7,h,b6,e1⟩
 |_=>exact .inl ⟨σ,h,hS,rfl⟩
def At{m:Nat}{kt:TypeId}{ix:AV}{u:Value}{kk:List Int->Tr}{l:List G}{ess:List MapEntry}(hix:VR ρ ix u)(hlen:ess.length=l.length)(ab7:∀(i:Nat) (g:G) (e:MapEntry),l[i]? =some g->ess[i]? =some e->VR ρ (nc m g) e.key/\VR ρ (jU m g) e.val)(h:run (K0 P m kt ix kk) σ K=true):
 ∃ns r',run (kk ns) σ K=true/\ns.length=(bJ m).ks.length/\VR ρ (ju m ns) u/\dv 8 (ju m ns) (ju m ns)=true/\FR ρ (Y8 m l ess) ess (if cK m l ns<l.length then some (cK m l ns,jU m (eP m l ns)) else none) r'/\
  (Instr.findKey kt u ess).run P w= .ok r' w/\∀em,(Instr.checkKey em 10000 kt u).run P w= .ok () w:=by
 obtain⟨hkd,z1⟩:=ay h
 obtain⟨hka,z2⟩:=ay z1
 obtain⟨d,hu,z3⟩:=cL z2
 obtain⟨hd,z4⟩:=ay z3
 obtain⟨ns,hns,z5⟩:=ce z4
 obtain⟨q1,q2⟩:=Rg hns hix
 have hf:=Ar hd q2 l ess 0 hlen
 obtain⟨r',f1,f2,f3⟩:=LK (w:=w) hkd hka hu hix q1 (LL l ess hlen ab7) hf
 exact⟨ns,r',z5,q2,q1,IL hd q2,by simpa using f1,f2,f3⟩
def Au{t:TypeId}{x ix:AV}{v u:Value}{ok:Bool}(hS:SI σ)(hG:Good w0 ρ σ.h w)(hx:VR ρ x v)(hy:VR ρ ix u)(h:run (zQ P t x ix ok k) σ K=true):Res P w0 ρ w k K (Instr.lookup t v u ok):=(ah h).elim
def Dg{t:TypeId}{x ix:AV}{v u:Value}{ok:Bool}(hS:SI σ)(hG:Good w0 ρ σ.h w)(hx:VR ρ x v)(hy:VR ρ ix u)(h:run (E4 P t x ix ok k) σ K=true):Res P w0 ρ w k K (Instr.lookup t v u ok):=by
 rcases As hS hG hx h with⟨b7,z,b6,e1⟩|⟨b,m,l,hm,ess,clock,b7,z,b6,e1,rfl,hh,hB,j7,hlen,ab7,hq⟩
 ·exact Au b6 (by rw[e1];exact hG) hx hy z
 ·have b9:Good w0 ρ b7.h w:=by rw[e1];exact hG
  obtain⟨d,hu,z1⟩:=cL z
  cases d with
  |map kt e=>
   obtain⟨ns,r',z2,hn,hk,_,hfr,ae0,ab5⟩:=At (w:=w) hy hlen ab7 z1;have tup:∀{a:AV} {c:Value} (b:Bool),VR ρ a c->VR ρ (.tup [a,.bool b]) (.tuple #[c,.bool b]):=λb hr=>
    .tup _ _ rfl λi a' v' ha hv=>by
     rcases i with _|_|i
     ·simp at ha hv;subst ha;subst hv;exact hr
     ·simp at ha hv;subst ha;subst hv;exact .bool _
     ·simp at ha
   have hlk:(Instr.lookup t (.map (some hm.blk)) u ok).run P w=(do
    let(c,o) ←match r' with
     |some (_,c)=>pure (c,true)
     |none=>pure (←zeroValue e,false)
    pure (if ok then Value.tuple #[c,.bool o] else c):Sem Value).run P w:=by
    simp [Instr.lookup,run_underlying hu,ab5,ae0,bu j7 (by simp)]
    rfl
   refine Res.of_eq ?_ hlk;rcases dw z2 with⟨J',z3⟩|⟨J',z3⟩
   ·have J':cK m l ns<l.length:=J'
    rw[if_pos J'] at hfr
    cases r' with
    |none=>exact hfr.elim
    |some p'=>
     obtain⟨j,c⟩:=p';obtain⟨_,hr,_⟩:=hfr;rcases bT z3 with⟨hb,z4⟩|⟨hb,z4⟩
     ·exact .plain z4 b6 b9 (tup true hr) (by simp [hb])
     ·exact .plain z4 b6 b9 hr (by simp [hb])
   ·have J':¬cK m l ns<l.length:=J'
    rw[if_neg J'] at hfr
    cases r' with
    |some p=>exact hfr.elim
    |none=>
     obtain⟨z,zv,i,_,hz,hzr,z4⟩:=Aa ρ w z3;rcases bT z4 with⟨hb,z5⟩|⟨hb,z5⟩
     ·exact .plain z5 b6 b9 (tup false hzr) (by simp [hz,hb])
     ·exact .plain z5 b6 b9 hzr (by simp [hz,hb])
  |_=>exact(ah z1).elim
def Av:∀(f:Nat) (x y:AV) (v u:Value) (N:Nat),dv f x y=true->VR ρ x v->VR ρ y u->f<=N->Instr.sameBits N v u=true:=by
 intro f
 induction f with
 |zero=>intro x y v u N h;simp [dv] at h
 |succ f ih=>
  intro x y v u N h hx hy hN;obtain⟨N,rfl⟩:∃N',N=N'+1:=⟨N-1,by omega⟩
  unfold dv at h;split at h
  ·cases hx;cases hy;simpa [Instr.sameBits] using h
  ·rename_i j a j' b;cases hx;cases hy;obtain⟨h1,h2⟩:=aD h;simp at h1 h2;simp [Instr.sameBits,h1,h2]
  ·cases hx;cases hy;rw[lz, ←beq_toListBytes] at h;simpa [Instr.sameBits] using h
  ·rename_i a b
   cases hx with
   |agg _ cs h1 h2=>
    cases hy with
    |agg _ ds k1 k2=>
     have lx:=LR.of_arr h1 h2;have ly:=LR.of_arr k1 k2;have key:∀(a b:List AV) (vs us:List Value),LR ρ a vs->LR ρ b us->dv.sameAll (dv f) a b=true->vs.length=us.length/\((vs.zip us).all λ(x,y)=>Instr.sameBits N x y)=true:=by
      intro a
      induction a with
      |nil=>
       intro b vs us la lb h
       cases b with
       |nil=>rw[la.nil_inv,lb.nil_inv];exact⟨rfl,rfl⟩
       |cons _ _=>simp [dv.sameAll] at h
      |cons x a iha=>
       intro b vs us la lb h
       cases b with
       |nil=>simp [dv.sameAll] at h
       |cons y b=>obtain⟨v1,E',rfl,r1,la'⟩:=la.cons_inv;obtain⟨u1,us',rfl,r2,lb'⟩:=lb.cons_inv;have h:ac (dv f x y) (dv.sameAll (dv f) a b) false=true:=h;obtain⟨g1,g2⟩:=aD h;obtain⟨q1,q2⟩:=iha b E' us' la' lb' g2;refine⟨by simp [q1], ?_⟩;rw[List.zip_cons_cons,List.all_cons,Bool.and_eq_true];exact⟨ih x y v1 u1 N g1 r1 r2 (by omega),q2⟩
     obtain⟨q1,q2⟩:=key a b cs.toList ds.toList lx ly h;simp only [Instr.sameBits,Bool.and_eq_true];exact⟨by simpa using q1,q2⟩
  ·cases h
def Good.setObjM{H:T ABlk}{b:Nat}{x0 x:ABlk}{h:Home}{o o':Obj}(hG:Good w0 ρ H w)(hb:H.get b=some x0)(c8:b+1<2 ^ 64)(hh:ρ.at_ b 0=some h)(hB:Own ρ w0.heap.size h.blk)(hw:w.heap[h.blk]? =some o)(hx:BR ρ w0.heap.size {w with heap:=w.heap.setIfInBounds h.blk o'} b x)(hgx:∀g,Ky g x:=by intro g;trivial)(hnf:¬zH x0)(hxo:∀k I l,x≠ .obj k I l:=by intro _ _ _ h;cases h):Good w0 ρ (H.set b x) {w with heap:=w.heap.setIfInBounds h.blk o'}:=by
 refine hG.turn (hnf:=hnf) (hxo:=hxo) (hrs:=⟨b,0,h,hh,rfl⟩) hb c8 h.blk hB ⟨rfl,rfl,rfl,by simp,λk hk ho=>?_⟩ (by simp) (λk hk _=>?_) (λb' g h' j4 e=>(hG.inj _ _ _ _ _ _ j4 hh e).1) hx (λg _=>hgx g)
 ·show(w.heap.setIfInBounds h.blk o')[k]? =_;rw[aaK,if_neg (λe=>by rcases hB with hB|hB;omega;exact ho (e▸hB))]
 ·show(w.heap.setIfInBounds h.blk o')[k]? =_;rw[aaK,if_neg (λe=>hk e.symm)]
def sa{t:TypeId}{x ix y:AV}{v u z:Value}{kk:Tr}(hS:SI σ)(hG:Good w0 ρ σ.h w)(hx:VR ρ x v)(hix:VR ρ ix u)(hy:VR ρ y z)(h:run (pT P t x ix y kk) σ K=true):Im P w0 ρ w kk K (Instr.mapUpdate t v u z):=(ah h).elim
def LM{m:Nat}{ns:List Int}{vs:List G}{u:Value}(hn:ns.length=(bJ m).ks.length)(hk:VR ρ (ju m ns) u):VR ρ (nc m (.node (ns.map G.int++vs))) u:=by
 have reI:∀(ks:List IntKind) (g:G) (j:Nat) (us:List Value),LR ρ (cX ks (dB ks.length g j)) us->LR ρ (mh ks g j) us:=by
  intro ks
  induction ks with
  |nil=>intro g j us h;exact h
  |cons k ks ih=>intro g j us h;obtain⟨v,us',rfl,hv,h'⟩:=h.cons_inv;refine LR.cons ?_ (ih _ _ _ h');cases hv;exact .sI _ _
 have e:=pg (gs:=vs) hn
 unfold nc
 unfold ju at hk
 rw[←e] at hk
 cases hka:(bJ m).ka with
 |true=>
  rw[hka] at hk
  cases hk with
  |agg _ cs h1 h2=>obtain⟨r1,r2⟩:=(reI _ _ _ _ (LR.of_arr h1 h2)).arr;exact .agg _ _ r1 r2
 |false=>
  rw[hka] at hk
  cases hks:(bJ m).ks with
  |nil=>rw[hks] at hk;exact hk
  |cons k ks=>rw[hks] at hk;have hk:VR ρ (.int k _) u:=hk;cases hk;exact .sI _ _
def LN{m:Nat}{ns:List Int}{vs:List G}{y:AV}{z:Value}(hn:ns.length=(bJ m).ks.length)(h:Wr m y=some vs)(hy:VR ρ y z):VR ρ (jU m (.node (ns.map G.int++vs))) z:=by
 unfold jU
 have hk:∀(gs:List G) (i:Nat),aa (.node (ns.map G.int++gs)) ((bJ m).ks.length+i)=aq gs i:=λgs i=>by have:=Rf (pre:=ns.map G.int) (gs:=gs) (j:=i);rw[aaR,hn] at this;exact this
 unfold Wr at h
 cases hva:(bJ m).va with
 |true=>
  rw[hva] at h
  cases y with
  |agg l=>
   have h:(match fU (bJ m).vs l with|some (gs,[])=>some gs|_=>none)=some vs:=h;split at h
   ·rename_i gs hp
    injection h with h;subst h
    obtain⟨c1,f1,f2,f3⟩:=jq _ _ _ _ hp
    have f1:l=c1:=by simpa using f1
    subst f1
    cases hy with
    |agg _ cs h1 h2=>obtain⟨r1,r2⟩:=(f3.2 _ _ (λi _=>hk gs i) ρ _ (LR.of_arr h1 h2)).arr;exact .agg _ _ r1 r2
   ·cases h
  |_=>cases h
 |false=>
  rw[hva] at h;have h:(match fU (bJ m).vs [y] with|some ([g],[])=>some [g]|_=>none)=some vs:=h;split at h
  ·rename_i g hp;injection h with h;subst h;obtain⟨c1,f1,f2,f3⟩:=jq _ _ _ _ hp;have f1: [y]=c1:=by simpa using f1
   subst f1;have:=f3.2 _ _ (λi _=>hk [g] i) ρ [z] (LR.cons hy (LR.nil ρ));obtain⟨a,ha⟩:∃a,bA (bJ m).vs (.node (ns.map G.int++ [g])) (bJ m).ks.length= [a]:=by
    have hl:(bA (bJ m).vs (.node (ns.map G.int++ [g])) (bJ m).ks.length).length=1:=by rw[←this.1];rfl
    match hd:bA (bJ m).vs (.node (ns.map G.int++ [g])) (bJ m).ks.length,hl with
    | [a],_=>exact⟨a,rfl⟩
   rw[ha] at this⊢;obtain⟨v,E',e1,q,_⟩:=this.cons_inv;injection e1 with e1 _;subst e1;exact q
  ·cases h
def ur{t:TypeId}{x ix y:AV}{v u z:Value}{kk:Tr}(hS:SI σ)(hG:Good w0 ρ σ.h w)(hx:VR ρ x v)(hix:VR ρ ix u)(hy:VR ρ y z)(h:run (rH P t x ix y kk) σ K=true):Im P w0 ρ w kk K (Instr.mapUpdate t v u z):=by
 rcases As hS hG hx h with⟨b7,z0,b6,e1⟩|⟨b,m,l,hm,ess,clock,b7,z0,b6,e1,rfl,hh,hB,j7,hlen,ab7,hq⟩
 ·exact sa b6 (by rw[e1];exact hG) hx hix hy z0
 have b9:Good w0 ρ b7.h w:=by rw[e1];exact hG
 obtain⟨d,hu,z1⟩:=cL z0
 cases d with
 |map kt e=>
  obtain⟨ns,r',z2,hn,hk,an8,hfr,ae0,ab5⟩:=At (w:=w) hix hlen ab7 z1;obtain⟨vs,L',z3⟩:=ce z2;obtain⟨x0,d8,hx0,e2,f9,c8,z4⟩:=fw b6 z3;have c9:hm.blk<w.heap.size:=(hG.dom _ _ _ hh).1;have k1:=LM (vs:=vs) hn hk;have k2:=LN hn L' hy;have put:∀(ah0:List MapEntry) (c2:Nat),ah0.length=(db m l ns vs).length->(∀(i:Nat) (g:G) (e:MapEntry),(db m l ns vs)[i]? =some g->ah0[i]? =some e->VR ρ (nc m g) e.key/\VR ρ (jU m g) e.val)->
   (Instr.mapUpdate t (.map (some hm.blk)) u z).run P w=(setObj hm.blk (.map ah0.toArray c2)).run P w->Im P w0 ρ w kk K (Instr.mapUpdate t (.map (some hm.blk)) u z):=by
   intro ah0 c2 h1 h2 h3
   refine⟨d8,{w with heap:=w.heap.setIfInBounds hm.blk (.map ah0.toArray c2)},z4,f9, ?_, ?_⟩
   ·rw[e2];refine b9.setObjM (hnf:=nf rfl hq hx0 (λh=>h)) hx0 c8 hh hB j7 ⟨hm,hh,hB,ah0.toArray,c2, ?_,by simpa using h1,λi g e g1 g2=>h2 i g e g1 (by simpa using g2)⟩;show(w.heap.setIfInBounds hm.blk _)[hm.blk]? =_;rw[aaK,if_pos rfl,if_pos c9]
   ·rw[h3];simp [setObj,Sem.run,j7]
  by_cases J':cK m l ns<l.length
  ·rw[if_pos J'] at hfr
   have ep:db m l ns vs=l.set (cK m l ns) (.node (ns.map G.int++vs)):=by unfold db;rw[if_pos J']
   cases r' with
   |none=>exact hfr.elim
   |some p'=>
    obtain⟨j,cv⟩:=p';obtain⟨eij,_,ok,on,B'⟩:=hfr;have eij:cK m l ns=j:=eij;have hge:ess[j]? =some ess[j]:=aak (by omega);have hgl:l[j]? =some l[j]:=aak (by omega);obtain⟨o1,o2⟩:=ab7 j _ _ hgl hge;have hints:dB (bJ m).ks.length l[j] 0=ns:=by have:=List.findIdx_getElem (p:=λg=>decide (dB (bJ m).ks.length g 0=ns)) (xs:=l) (w:=J');have:=of_decide_eq_true this;subst eij;exact this
    have okey:=Aq o1;rw[hints] at okey;have hsb:=Av 8 (ju m ns) (ju m ns) (ess[j]).key u 10000 an8 okey hk (by decide);refine put (ess.set j {ess[j] with key:=u,val:=z}) clock (by rw[ep];simp [hlen]) (λi g e g1 g2=>?_) ?_
    ·rw[ep,abD] at g1;rw[abD] at g2;rw[eij] at g1;by_cases hji:j=i
     ·rw[if_pos hji] at g1 g2;split at g1
      ·injection g1 with g1;subst g1;split at g2
       ·injection g2 with g2;subst g2;exact⟨k1,k2⟩
       ·cases g2
      ·cases g1
     ·rw[if_neg hji] at g1 g2;exact ab7 i g e g1 g2
    ·have l6:ess.toArray[j]? =some ess[j]:=by simpa using hge
     have ea:(ess.toArray.modify j λe=>{e with key:=u,val:=z})=(ess.set j {ess[j] with key:=u,val:=z}).toArray:=by
      apply Array.ext';apply List.ext_getElem?;intro n;rw[aa0,Array.getElem?_modify,abF,abD];by_cases en:j=n
      ·subst en;obtain⟨hl1,hl2⟩:=List.getElem?_eq_some_iff.1 hge;simp [hl1]
      ·simp [en]
     simp only [Instr.mapUpdate,aad,run_underlying hu,bu j7 (by simp),aaj,ab5,abF,ae0,Instr.keyThatStays,l6,aa1,Option.getD_some,hsb,if_true,aaf,ea]
  ·rw[if_neg J'] at hfr
   have ep:db m l ns vs=l++ [.node (ns.map G.int++vs)]:=by unfold db;rw[if_neg J']
   cases r' with
   |some p=>exact hfr.elim
   |none=>
    refine put (ess++ [⟨u,z,clock⟩]) (clock+1) (by rw[ep];simp [hlen]) (λi g e g1 g2=>?_) ?_
    ·rw[ep] at g1;by_cases hi:i<l.length
     ·rw[aaD hi] at g1;rw[aaD (by omega)] at g2;exact ab7 i g e g1 g2
     ·rw[aaA (by omega)] at g1
      rw[aaA (by omega),hlen] at g2
      match i-l.length,g1,g2 with
      |0,g1,g2=>injection g1 with g1;injection g2 with g2;subst g1;subst g2;exact⟨k1,k2⟩
      |_+1,g1,g2=>simp at g1
    ·have ea:ess.toArray.push (⟨u,z,clock⟩:MapEntry)=(ess++ [(⟨u,z,clock⟩:MapEntry)]).toArray:=by apply Array.ext';simp
     simp only [Instr.mapUpdate,aad,run_underlying hu,bu j7 (by simp),aaj,ab5,abF,ae0,ea]
 |_=>exact(ah z1).elim
def IM{t:TypeId}{x:AV}{v:Value}(hS:SI σ)(hG:Good w0 ρ σ.h w)(hx:VR ρ x v)(h:run (K1 P t x k) σ K=true):Res P w0 ρ w k K (Instr.range t v):=by
 obtain⟨d,hu,h⟩:=cL h
 cases d with
 |map kt et=>
  cases hx with
  |map m hm hh=>
   obtain⟨q,b7,hq,e1,b6,h⟩:=bE hS h
   have b9:Good w0 ρ b7.h w:=by rw[e1];exact hG
   cases q with
   |mapo es clock=>obtain⟨hm',j4,hB,M',j7,T',_⟩:=hG.blk _ _ hq;rw[hh] at j4;injection j4 with j4;subst j4;obtain⟨n,a9,hn,c8,j4,r9,h⟩:=gw b6 h;obtain⟨hle,j9⟩:=b9.alloc hn c8 (.miter (some m) clock [] clock) (.mapIter (some hm.blk) clock #[] clock) 0 0 (λρ' hle o6 _=>⟨_,o6,.new hG.below.size,some hm.blk, #[],by simp,rfl,hm,hle.at_ _ _ _ hh,rfl⟩);refine⟨_,a9,_,_,_,h,r9,by rw[j4];exact j9,hle,VR.ptr n 0 0 _ (Rho.put_at _ _ _ _) (aaq _), ?_⟩;simp [Instr.range,run_underlying hu,bu j7 (by simp)]
   |_=>exact(ah h).elim
  |_=>exact(ah h).elim
 |_=>exact(ah h).elim
def IN:∀(l:List Nat) (n:Nat),xa l n=l.contains n:=by
 intro l
 induction l with
 |nil=>intro n;rfl
 |cons a l ih=>
  intro n;show ac (Nat.beq a n) true (xa l n)=_;rw[ar,ih,List.contains_cons];by_cases e:a=n
  ·subst e;simp
  ·have h1:Nat.beq a n=false:=by
    cases hb:Nat.beq a n with
    |false=>rfl
    |true=>exact absurd (aae hb) e
   have h2:(n==a)=false:=by simpa using λh:n=a=>e h.symm
   rw[h1,h2];simp
def LO{seen:List Nat}{since:Nat}:∀(es:List ME) (ess:List MapEntry) (left:List ME),MR ρ es ess->zR seen since es=some left->
 MR ρ left (ess.filter λe=>!seen.contains e.born)/\∀e∈ess,e.born<since:=by
 intro es
 induction es with
 |nil=>intro ess left hm h;simp only [zR] at h;injection h with h;subst h;rw[hm.nil_inv];exact⟨MR.nil ρ,by simp⟩
 |cons x es ih=>
  intro ess left hm h
  cases x with
  |mk a v n=>
   obtain⟨e,ac9,rfl,h1,h2,h3,h4⟩:=hm.cons_inv
   simp only [zR] at h
   split at h
   ·rename_i c9;split at h
    ·rename_i l hl;injection h with h;obtain⟨q1,q2⟩:=ih ac9 l h4 hl;refine⟨?_,λx hx=>?_⟩
     ·rw[List.filter_cons,h3, ←IN]
      rw[ar] at h
      cases hb:xa seen n with
      |true=>rw[hb,if_pos rfl] at h;subst h;simpa using q1
      |false=>rw[hb,if_neg (by simp)] at h;subst h;exact MR.cons h1 h2 h3 q1
     ·rcases List.mem_cons.1 hx with e'|hx
      ·subst e';omega
      ·exact q2 x hx
    ·cases h
   ·cases h
def LP{x:AV}{v:Value}{isS:Bool}{ty:TypeId}(hS:SI σ)(hG:Good w0 ρ σ.h w)(hx:VR ρ x v)(h:run (UB x isS k) σ K=true):Res P w0 ρ w k K (Instr.next v isS ty):=by
 have ff:∀(ρ':Rho),VR ρ' (.tup [.bool false]) (.tuple #[.bool false]):=λρ'=>.tup _ _ rfl λi a v ha hv=>by
  cases i with
  |zero=>simp at ha hv;subst ha;subst hv;exact .bool _
  |succ i=>simp at ha
 cases hx with
 |ptr b g o hm hh ho=>
  cases g with
  |succ g=>exact(ah h).elim
  |zero=>
   cases o with
   |succ o=>exact(ah h).elim
   |zero=>
    obtain⟨q,b7,hq,e1,b6,h⟩:=bE hS h
    have b9:Good w0 ρ b7.h w:=by rw[e1];exact hG
    cases q with
    |siter s pos=>cases isS <;> exact(ah h).elim
    |miter m since seen stepped=>
     cases isS with
     |true=>cases m <;> exact(ah h).elim
     |false=>
      obtain⟨hm',j4,hB,m',ad8,j7,an9,hm2⟩:=hG.blk _ _ hq
      rw[hh] at j4;injection j4 with j4;subst j4
      cases m with
      |none=>subst hm2;exact .plain h b6 b9 (ff _) (by simp [Instr.next,bu j7 (by simp)])
      |some m=>
       obtain⟨hx,hhx,em⟩:=hm2
       subst em
       obtain⟨q2,d8,hq2,e2,f9,h⟩:=bE b6 h
       have l7:Good w0 ρ d8.h w:=by rw[e2];exact b9
       cases q2 with
       |mapo es clock=>
        obtain⟨hm3,hh3,hB3,M',ac_,hmr⟩:=(b9.blk _ _ hq2).mapo_MR
        rw[hhx] at hh3;injection hh3 with hh3;subst hh3
        obtain⟨hss,h⟩:=ay h
        have hss:=bU hss
        obtain⟨left,an_,h⟩:=ce h
        obtain⟨hlr,ah4⟩:=LO es M'.toList left hmr an_
        rw[←an9] at hlr
        have hF:M'.filter (λe=>!ad8.contains e.born)=(M'.toList.filter λe=>!ad8.toList.contains e.born).toArray:=by apply Array.ext';simp
        generalize hL:(M'.toList.filter λe=>!ad8.toList.contains e.born)=L at hlr hF
        have aj7:∀e∈L,e.born<since:=λe he=>by rw[←hL] at he;exact ah4 e (List.mem_filter.1 he).1
        have hold:L.toArray.filter (λe=>decide (e.born<since))=L.toArray:=by apply Array.ext';rw[Array.toList_filter];exact List.filter_eq_self.2 λe he=>by simpa using aj7 e he
        have m6:L.toArray.filter (λe=>decide (e.born≥since))= #[]:=by apply Array.ext';rw[Array.toList_filter];exact List.filter_eq_nil_iff.2 λe he=>by have:=aj7 e he;simp;omega
        have hun:(!ad8.isEmpty && !M'.isEmpty && M'.all λe=>decide (e.born≥stepped))=false:=by
         cases he:M'.isEmpty with
         |true=>simp
         |false=>
          have m7:0<M'.size:=by
           rcases aaU M'.size with e0|e0
           ·rw[Array.isEmpty_iff_size_eq_zero.2 e0] at he;cases he
           ·exact e0
          have:(M'.all λe=>decide (e.born≥stepped))=false:=by rw[Array.all_eq_false];refine⟨0,m7, ?_⟩;have:=ah4 M'[0] (by simp);simp;omega
          rw[this];simp
        have model:(Instr.next (.pointer (some ⟨hm.blk,0-hm.shift,none⟩)) false ty).run P w=
         ((do
          let i ←choose (.mapNext ((if L.toArray.isEmpty then #[none] else #[])++L.toArray.map some).size)
          match((if L.toArray.isEmpty then #[none] else #[])++L.toArray.map some)[i]? with
          |some (some e)=>
           setObj hm.blk (.mapIter (some hx.blk) since (ad8.push e.born) clock)
           pure (.tuple #[.bool true,e.key,e.val])
          |some none=>pure (.tuple #[.bool false])
          |none=>stuck "Next: no such candidate" :Sem Value)).run P w:=by
         simp only [Instr.next,Nat.zero_sub,aad,bu j7 (by simp),aaj,bu ac_ (by simp),hun,Bool.false_eq_true,if_false,hF,hold,m6,Array.append_empty,aaf]
         rfl
        refine Res.of_eq ?_ model
        cases left with
        |nil=>
         have:L= []:=hlr.nil_inv;subst this;by_cases hf:(Question.mapNext 1).forced=true
         ·refine⟨_,d8,ρ,.tuple #[.bool false],w,h,f9,l7,Rho.le.refl ρ,ff _, ?_⟩;simp [hf]
         ·exact absurd (by decide) hf
        |cons l0 lr=>exact(ah h).elim
       |_=>exact(ah h).elim
    |_=>exact(ah h).elim
 |_=>exact(ah h).elim
end
end Go.Sym
namespace Go.Sym
open Go.RowKit (Below)
def xr(a b:Int):ltI a b=decide (a<b):=by
 unfold ltI;split
 ·rename_i x y
  cases h:Nat.ble (Nat.succ x) y with
  |true=>have:=Nat.ble_eq.mp h;simp;omega
  |false=>have:=ZD h;simp;omega
 ·rfl
section
variable{P:Program}{w0:World}{ρ:Rho}{w:World}{σ:St}{K:Fin}{k:AV->Tr}
def Aw{mx:Bool}:∀(l:List AV) (x:AV) (vs:List Value) (v:Value),LR ρ l vs->VR ρ x v->run (gu mx l x k) σ K=true->
 ∃r u,run (k r) σ K=true/\VR ρ r u/\(vs.foldlM (if mx then Builtin.max2 else Builtin.min2) v).run P w= .ok u w:=by
 intro l
 induction l with
 |nil=>intro x vs v hl hx h;rw[hl.nil_inv];exact⟨x,v,h,hx,by simp⟩
 |cons y l ih=>
  intro x vs v hl hx h
  obtain⟨u,E',rfl,hu,q9⟩:=hl.cons_inv
  have step:∀(j:IntKind) (a b c:Int) (r0:AV),VR ρ r0 (.int j c)->run (gu mx l r0 k) σ K=true->((if mx then Builtin.max2 else Builtin.min2) (.int j a) (.int j b)).run P w= .ok (.int j c) w->
   ∃r u,run (k r) σ K=true/\VR ρ r u/\((Value.int j b::E').foldlM (if mx then Builtin.max2 else Builtin.min2) (.int j a)).run P w= .ok u w:=λj a b c r0 hr0 h e=>by
   obtain⟨r,u,q1,q2,q3⟩:=ih r0 E' (.int j c) q9 hr0 h
   exact⟨r,u,q1,q2,by rw[List.foldlM_cons,aad,e];exact q3⟩
  unfold gu at h
  split at h
  ·rename_i j a j' b;cases hx;cases hu;obtain⟨hj0,z1⟩:=ay h;clear h;have hj:=of_decide_eq_true hj0;clear hj0;subst hj;rcases bT z1 with⟨e,h⟩|⟨e,h⟩
   ·refine step j a b b _ (.int _ _) h ?_
    rw[ar] at e
    cases mx with
    |true=>simp [xr] at e;simp [Builtin.max2,e]
    |false=>simp [xr] at e;simp [Builtin.min2,e]
   ·refine step j a b a _ (.int _ _) h ?_
    rw[ar] at e
    cases mx with
    |true=>simp [xr] at e;simp [Builtin.max2];omega
    |false=>simp [xr] at e;simp [Builtin.min2];omega
  ·split at h
   ·rename_i j a j' b ea eb
    have e1:=bo hx ea
    have e2:=bo hu eb
    subst e1;subst e2
    obtain⟨hj0,z1⟩:=ay h
    clear h
    have hj:=of_decide_eq_true hj0
    clear hj0
    subst hj
    refine step j a b _ _ (.sI _ _) z1 ?_
    cases mx with
    |true=>
     simp only [if_true,Builtin.max2];by_cases hab:a<b
     ·have:max a b=b:=by omega
      simp [hab,this]
     ·have:max a b=a:=by omega
      simp [hab,this]
    |false=>
     simp only [Bool.false_eq_true,if_false,Builtin.min2];by_cases hab:b<a
     ·have:min a b=b:=by omega
      simp [hab,this]
     ·have:min a b=a:=by omega
      simp [hab,this]
   ·exact(ah h).elim
def WC{tys:Array TypeId}{ty:TypeId}{args:List AV}{vs:List Value}(hS:SI σ)(hG:Good w0 ρ σ.h w)(hl:LR ρ args vs)(h:run (E5 true args k) σ K=true):Res P w0 ρ w k K (Builtin.max_ tys ty vs.toArray):=by
 cases args with
 |nil=>exact(ah h).elim
 |cons x rest=>obtain⟨v,E',rfl,hv,q9⟩:=hl.cons_inv;obtain⟨r,u,q1,q2,q3⟩:=Aw (P:=P) (w:=w) rest x E' v q9 hv h;exact .plain q1 hS hG q2 (by simpa [Builtin.max_] using q3)
def IP{tys:Array TypeId}{ty:TypeId}{args:List AV}{vs:List Value}(hS:SI σ)(hG:Good w0 ρ σ.h w)(hl:LR ρ args vs)(h:run (KX P tys args k) σ K=true):Res P w0 ρ w k K (Builtin.copy_ tys ty vs.toArray):=(ah h).elim
def LQ{tys:Array TypeId}{ty t0 e:TypeId}{i:TypeInfo}{b g len:Nat}{t:List Nat}{y:AV}{v u:Value}(hS:SI σ)(hG:Good w0 ρ σ.h w)(hx:VR ρ (.gsl b g len 1) v)(hy:VR ρ y u)(hsb:CU y=some t)(h0:tys[0]? =some t0)(hd:P.underlying t0=some (.slice e))(hi:P.info? e=some i)(hs1:i.size=1)(h:run (UA b g len t k) σ K=true):Res P w0 ρ w k K (Builtin.copy_ tys ty #[v,u]):=by
 obtain⟨hlen,cs,hL,hcl,m8⟩:=Ak (P:=P) (w:=w) hG hy hsb
 have c8:=di hS h
 obtain⟨q,b7,hq,e1,b6,z0⟩:=bE hS h
 clear h
 have b9:Good w0 ρ b7.h w:=by rw[e1];exact hG
 cases q with
 |grow c gen ty2=>
  cases c with
  |rows m l=>exact(ah z0).elim
  |bytes l0=>
  obtain⟨k1,z1⟩:=ay z0
  obtain⟨k2,z2⟩:=aP z1
  obtain⟨x0,d8,hx0,e2,f9,_,z3⟩:=fw b6 z2
  clear z0 z1 z2
  have k1:=aae k1
  subst k1
  have G':b7.h.get b=some (.grow (.bytes l0) g ty2):=by rw[e1];exact hq
  have hml:min t.length len<=t.length:=Nat.min_le_left _ _
  have hmr:min t.length len<=len:=Nat.min_le_right _ _
  have hf:=m8 _ hml w rfl
  have ai8:∀n:Nat,goInt n=Value.int .i64 (n:Int):=λn=>rfl
  cases hx with
  |gsl _ _ _ _ hm cp hn hh hsh hcc hz=>
   rcases b9.blk _ _ G' with h0'|⟨hm',q1,q2,q3,arr,fr,q4,q5,q6,q7,q8⟩
   ·have h0':l0.length=0:=h0';omega
   rw[hh] at q1;injection q1 with q1;subst q1
   have q6:l0.length * 1<=hm.size:=q6
   have ak_:(cs.take (min t.length len)).length=min t.length len:=by rw[aao,hcl];omega
   have hLt:LR ρ ((cH t).take (min t.length len)) (cs.take (min t.length len)):=⟨by rw[aao,aao,hL.1],λj a v ha hv=>by
    rw[aa3] at ha hv;split at ha
    ·rename_i hj;rw[if_pos hj] at hv;exact hL.2 j a v ha hv
    ·cases ha⟩
   obtain⟨p7,s1,s2,s3,s4,s5,s6,s7⟩:=fg hm.blk (cs.take (min t.length len)) 0 w arr ty2 fr q4 (by rw[ak_];omega)
   have p8:=run_storeCells_cells (P:=P) hm.blk 0 (cs.take (min t.length len)) 0 w (λj hj=>by
    simp only [World.cell?,q4]
    simp only [abe,Bool.false_eq_true,if_false,aau]
    rw[aaQ (by omega)];rfl) (λj hj=>by
    simp only [World.frozen?,q4,aau]
    cases hx:(decide (fr.1<=0+j) && decide (0+j<fr.2)) with
    |false=>rfl
    |true=>simp only [Bool.and_eq_true,decide_eq_true_eq] at hx;exact(q7 _ (by omega) hx.1 hx.2).elim) (hLt.ones (λa ha=>by have:=List.mem_of_mem_take ha;unfold cH at this;obtain⟨n,_,e⟩:=List.mem_map.1 this;rw[←e];rfl))
   rw[aau] at p8
   have hnl:(t.take len++l0.drop t.length).length=len:=by rw[aai,aao,aas];omega
   have hG3:Good w0 ρ (b7.h.set b (.grow (.bytes (t.take len++l0.drop t.length)) g ty2)) (w.setCells hm.blk 0 (cs.take (min t.length len))):=by
    refine b9.turn (hrs:=⟨b,g,hm,hh,rfl⟩) G' c8 hm.blk q3 (Kept.of_set (s7 0 (aaq _)) s5 q3) (by omega) (λx hx _=>s5 x hx) (λb' g' h' j4 e'=>(hG.inj _ _ _ _ _ _ j4 hh e').1) ?_;refine .inr ⟨hm,hh,q2,q3,p7,fr,s1,by omega, ?_,q7,λi' hi' j a ha=>?_⟩
    ·show(t.take len++l0.drop t.length).length * 1<=hm.size;omega
    ·have hi':i'<(t.take len++l0.drop t.length).length:=hi'
     have ha: [AV.sI .u8 (((t.take len++l0.drop t.length).getD i' 0:Nat):Int)][j]? =some a:=ha
     cases j with
     |succ j=>simp at ha
     |zero=>
     simp only [abG] at ha
     injection ha with ha
     subst ha
     show ∃u,p7[i' * 1+0]? =some u/\_
     rw[aaJ,aau]
     by_cases hit:i'<min t.length len
     ·have hin:(cH t)[i']? =some (.sI .u8 (Int.ofNat (t[i']'(by omega)))):=by unfold cH;rw[aaO,aak (by omega)];rfl
      obtain⟨u,u1,u2⟩:=hL.get hin;refine⟨u, ?_, ?_⟩
      ·have:=s3 i' (by rw[ak_];exact hit);rw[aap] at this;rw[this,aav hit];exact u1
      ·have:(t.take len++l0.drop t.length).getD i' 0=t[i']'(by omega):=by rw[aag,aaD (by rw[aao];omega),aav (by omega),aak (by omega)];rfl
       rw[this];exact u2
     ·have hi2:t.length<=i':=by omega
      obtain⟨u,u1,u2⟩:=q8 i' (show i'<l0.length by omega) 0 _ rfl;have u1:arr[i' * 1+0]? =some u:=u1;rw[aaJ,aau] at u1;refine⟨u,by rw[s4 i' (.inr (by rw[ak_];omega))];exact u1, ?_⟩;have:(t.take len++l0.drop t.length).getD i' 0=l0.getD i' 0:=by rw[aag,aaA (by rw[aao];omega),aaz,aag];congr 2;rw[aao];omega
      rw[this];exact u2
   refine⟨_,d8,ρ,_,_,z3,f9,by rw[e2];exact hG3,.refl _,.sI _ _, ?_⟩
   have O':Nat.min t.length len=min t.length len:=rfl
   simp only [Builtin.copy_,h0,aad,run_underlying hd,aaj,hlen,O',aB hi,hs1,hf,p8,aaf,ai8,aa7,abG,abP,abF]
  |gnil _ _ _=>
   have hb0:l0= []:=List.length_eq_zero_iff.1 k2
   refine⟨_,d8,ρ,_,w,z3,f9, ?_,.refl _,.sI _ _, ?_⟩
   ·rw[e2];exact b9.none_turn G' c8 (by subst hb0;simp [Ct.len]) (λ_ h=>h) (λh=>h)
   ·have O':Nat.min t.length 0=min t.length 0:=rfl;have hf0:(Builtin.firstCells 1 0 u).run P w= .ok #[] w:=by simpa using hf
    simp [Builtin.copy_,h0,run_underlying hd,hlen,aB hi,hs1,hf0,goInt]
  |gempty _ _ _ a=>
   have hb0:l0= []:=List.length_eq_zero_iff.1 k2
   refine⟨_,d8,ρ,_,w,z3,f9, ?_,.refl _,.sI _ _, ?_⟩
   ·rw[e2];exact b9.none_turn G' c8 (by subst hb0;simp [Ct.len]) (λ_ h=>h) (λh=>h)
   ·have O':Nat.min t.length 0=min t.length 0:=rfl;have hf0:(Builtin.firstCells 1 0 u).run P w= .ok #[] w:=by simpa using hf
    simp [Builtin.copy_,h0,run_underlying hd,hlen,aB hi,hs1,hf0,goInt,storeCells]
 |_=>exact(ah z0).elim
def LT{tys:Array TypeId}{ty:TypeId}{args:List AV}{vs:List Value}(hS:SI σ)(hG:Good w0 ρ σ.h w)(hl:LR ρ args vs)(h:run (KY P tys args k) σ K=true):Res P w0 ρ w k K (Builtin.copy_ tys ty vs.toArray):=by
 unfold KY at h;split at h
 ·rename_i d x;split at h
  ·rename_i t hsb;split at h
   ·rename_i t0 h0
    obtain⟨v,vs1,rfl,hv,hl1⟩:=hl.cons_inv
    obtain⟨u,vs2,rfl,hu,hl2⟩:=hl1.cons_inv
    have:=hl2.nil_inv
    subst this
    obtain⟨dd,hd,h⟩:=cL h
    cases dd with
    |slice e=>
     obtain⟨i,hi,h⟩:=cG h
     obtain⟨hs1,h⟩:=ay h
     have hs1:=aae hs1
     have grown:∀(a:AV) (a9:St),SI a9->Good w0 ρ a9.h w->VR ρ a v->run (KW t k a) a9 K=true->Res P w0 ρ w k K (Builtin.copy_ tys ty #[v,u]):=by
      intro a a9 r9 j9 ha z
      cases a with
      |gsl b g len es=>obtain⟨B',z1⟩:=ay z;have B':=aae B';subst B';exact LQ r9 j9 ha hu hsb h0 hd hi hs1 z1
      |_=>exact(ah z).elim
     cases d with
     |gsl b g len es=>exact grown _ _ hS hG hv h
     |slc b g o len cap es=>obtain⟨B',z1⟩:=ay h;have B':=aae B';obtain⟨a9,z3,r9,j9,_,hv'⟩:=dZ hS hG kJ z1;rw[B'] at hv;exact grown _ _ r9 j9 (hv' ρ (.refl _) _ hv) z3
     |_=>exact(ah h).elim
    |_=>exact(ah h).elim
   ·exact(ah h).elim
  ·exact IP hS hG hl h
 ·exact(ah h).elim
end
end Go.Sym
namespace Go.Sym
open Go.RowKit (Below)
section
variable{P:Program}{w0:World}{ρ:Rho}{w:World}{σ:St}{K:Fin}{k:AV->Tr}
def IQ{c:T Cell}{g o0:Nat}{hm:Home}{arr:Array Value}{l:List AV}{bs:List Nat}(h:KJ l=some bs)(l6:∀(j:Nat) (a:AV),l[j]? =some a->∃tag,c.get (o0+j)=some (.mk tag a)/\tag<=g)(j5:∀o tag a,c.get o=some (.mk tag a)->tag<=g->hm.shift<=o/\∃v,arr[o-hm.shift]? =some v/\VR ρ a v)(hs:hm.shift=0):bs.length=l.length/\∀(i m:Nat),bs[i]? =some m->arr[o0+i]? =some (Value.int .u8 (m:Nat)):=by
 have key:∀(l:List AV) (bs:List Nat),KJ l=some bs->bs.length=l.length/\∀(i m:Nat),bs[i]? =some m->l[i]? =some (AV.int .u8 (m:Nat)):=by
  intro l
  induction l with
  |nil=>intro bs h;injection h with h;subst h;exact⟨rfl,λi m hi=>by simp at hi⟩
  |cons a l ih=>
   intro bs h;unfold KJ at h;split at h
   ·rename_i e;cases e
   ·rename_i n r' e;injection e with e1 e2;subst e1;subst e2;split at h
    ·split at h
     ·rename_i l' hl2
      injection h with h
      subst h
      obtain⟨q1,q2⟩:=ih _ hl2
      refine⟨by simp [q1],λi m hi=>?_⟩
      cases i with
      |zero=>simp at hi;subst hi;rfl
      |succ i=>simpa using q2 i m (by simpa using hi)
     ·cases h
    ·cases h
   ·cases h
 obtain⟨h1,h2⟩:=key l bs h
 refine⟨h1,λi m hi=>?_⟩
 obtain⟨tag,t1,t2⟩:=l6 i _ (h2 i m hi)
 obtain⟨_,v,r1,r2⟩:=j5 _ tag _ t1 t2
 rw[hs,show o0+i-0=o0+i by omega] at r1
 cases r2
 exact r1
def LU{i:Nat}{fn:Func}{row:Array Value->Sem Value}(hf:P.funcs[i]? =some fn)(hb:fn.body=none)(hn:¬fn.name= "runtime.NumGoroutine")(h1:Extern.findNext fn=none)(h2:Extern.find fn=some row)(args:Array Value):
 (callFunc i args).run P w=(do pure (Next.value (←row args))).run P w:=by
 simp [callFunc,hf,hn,hb,h1,h2]
def Ri{i:Nat}{args:List AV}{vs:List Value}(h:E6 P i=true)(hl:LR ρ args vs)(hr:run (Q4 P i args k) σ K=true):∃av v,run (k av) σ K=true/\VR ρ av v/\(callFunc i vs.toArray).run P w= .ok (.value v) w:=by
 unfold E6 at h;unfold Q4 at hr;split at h
 ·rename_i fn hf;rw[hf] at hr;split at h
  ·rename_i hb;have ho:=of_decide_eq_true h;rcases bT hr with⟨m7,hr⟩|⟨_,hr⟩
   ·have ad0:=of_decide_eq_true m7;have h1:Extern.findNext fn=none:=by unfold Extern.findNext;rw[ad0,ho];kernel_rfl
    have h2:Extern.find fn=some Extern.AbiNoEscape.same:=by unfold Extern.find;rw[ad0];kernel_rfl
    split at hr
    ·rename_i x;obtain⟨xv,E',rfl,hxv,aq_⟩:=hl.cons_inv;have:=aq_.nil_inv;subst this;refine⟨_,_,hr,hxv, ?_⟩;rw[LU hf hb (by rw[ad0];decide) h1 h2];rfl
    ·exact(ah hr).elim
   ·exact(ah hr).elim
  ·cases h
 ·cases h
end
end Go.Sym
namespace Go.Sym
open Go.RowKit (Below)
def fR(rd:Option Nat):Fence:={Fence.wide with round:=rd}
def Rj(P:Program)(w0:World)(rn:c_):Prop:=
 ∀(l:Nat) (as:List AV) (vs:List Value) (k:AV->Tr) (σ:St) (K:Fin) (ρ:Rho) (w:World) (R:Ending->World->Prop),SI σ->Good w0 ρ σ.h w->LR ρ as vs->run (rn l as k) σ K=true->
  (∀av v a9 ρ' w',run (k av) a9 K=true->SI a9->Good w0 ρ' a9.h w'->ρ.le ρ'->VR ρ' av v->R (.returned v) w')->
  ∃h,ρ.at_ l 0=some h/\∃f tmps as bd,(Instr.yield h.blk vs.toArray).run P w= .ok (.round h.blk f tmps as bd) w/\RoundIn Fence.wide 0 P h.blk f tmps as bd w R
def Ax(P:Program)(w0:World)(en:c_):Prop:=
 ∀(f:Nat) (l:List AV) (vs:List Value) (k:AV->Tr) (σ:St) (K:Fin) (ρ:Rho) (w:World) (R:Ending->World->Prop),SI σ->Good w0 ρ σ.h w->LR ρ l vs->run (en f l k) σ K=true->
  (∀av v a9 ρ' w',run (k av) a9 K=true->SI a9->Good w0 ρ' a9.h w'->ρ.le ρ'->VR ρ' av v->R (.returned v) w')->
  (∀args:Array Value,(callFunc f args).run P w= .ok (.enter f args) w)/\CallsIn Fence.wide 0 P f vs.toArray w R
section
variable{P:Program}{w0:World}{ρ:Rho}{w:World}{σ:St}{K:Fin}{k:AV->Tr}{nt:Nat}{env:T AV}{a:Act}{o:Oper}{next:Act->World->Prop}{Q:Exit->Act->World->Prop}{rd:Option Nat}
def Nxt(w0:World)(ρ:Rho)(K:Fin)(k:AV->Tr)(o:Oper)(a:Act)(next:Act->World->Prop):Prop:=
 ∀av v a9 ρ' w',run (k av) a9 K=true->SI a9->Good w0 ρ' a9.h w'->ρ.le ρ'->VR ρ' av v->next (a.put o.dst v) w'
def Nxt.mono{ρ':Rho}(h:Nxt w0 ρ K k o a next)(hle:ρ.le ρ'):Nxt w0 ρ' K k o a next:=λav v a9 ρ2 w' h1 h2 h3 h4 h5=>h av v a9 ρ2 w' h1 h2 h3 (hle.trans h4) h5
def cf{s:Sem Value}(he:execOp a.eval o=(do pure (.value (←s))))(hn:Nxt w0 ρ K k o a next)(hr:Res P w0 ρ w k K s)(hd:∀c,o.op≠ .defer c:=by assumption):o.wpIn (fR rd) 0 P a w next Q:=by
 obtain⟨av,a9,ρ',v,w',h1,h2,h3,h4,h5,h6⟩:=hr;refine⟨λ_ _=>trivial, ?_⟩;show o.uponIn (fR rd) 0 P a next Q ((o.semAt rd a.eval).run P w)
 rw[Oper.semAt_eq _ _ _ hd,he];simp only [aad,h6,aaj,aaf,Oper.uponIn_value];exact hn av v a9 ρ' w' h1 h2 h3 h4 h5
def jv{av:AV}{v:Value}(he:(execOp a.eval o).run P w= .ok (.value v) w)(hn:Nxt w0 ρ K k o a next)(hr:run (k av) σ K=true)(hS:SI σ)(hG:Good w0 ρ σ.h w)(hv:VR ρ av v)(hd:∀c,o.op≠ .defer c:=by assumption):o.wpIn (fR rd) 0 P a w next Q:=by
 refine⟨λ_ _=>trivial, ?_⟩;show o.uponIn (fR rd) 0 P a next Q ((o.semAt rd a.eval).run P w)
 rw[Oper.semAt_eq _ _ _ hd,he];exact hn av v σ ρ w hr hS hG (Rho.le.refl ρ) hv
def Fl{s:Sem Unit}(he:execOp a.eval o=(do s;pure .skip))(hn:Nxt w0 ρ K k o a next)(hr:Im P w0 ρ w (K6 k) K s)(hd:∀c,o.op≠ .defer c:=by assumption):o.wpIn (fR rd) 0 P a w next Q:=by
 obtain⟨a9,w',h1,h2,h3,h4⟩:=hr;refine⟨λ_ _=>trivial, ?_⟩;show o.uponIn (fR rd) 0 P a next Q ((o.semAt rd a.eval).run P w)
 rw[Oper.semAt_eq _ _ _ hd,he];simp only [aad,h4,aaj,aaf,Oper.uponIn_skip];exact hn _ _ a9 ρ w' h1 h2 h3 (Rho.le.refl ρ) (.tup [] #[] rfl (by simp))
def LV{en rn:c_}(hen:Ax P w0 en)(hrn:Rj P w0 rn)(hS:SI σ)(hG:Good w0 ρ σ.h w)(hE:ER ρ nt env a.tmps)(h:run (Q5 P en rn env o.op k) σ K=true)(hn:Nxt w0 ρ K k o a next):o.wpIn (fR rd) 0 P a w next Q:=by
 have ev:∀{σ:St} {x:Operand} {f:AV->Tr},SI σ->Good w0 ρ σ.h w->run (fH env x f) σ K=true->∃av a9,SI a9/\Good w0 ρ a9.h w/\run (f av) a9 K=true/\VR ρ av (a.eval x):=by intro σ x f hS hG h;obtain⟨av,a9,e,h1,h2,h3⟩:=uR hS hG hE h;exact⟨av,a9,h1,by rw[e];exact hG,h2,h3⟩
 have hd:∀c,o.op≠ .defer c:=λc hc=>by rw[hc] at h;exact ah h
 cases ho:o.op with
 |move x=>rw[ho] at h;obtain⟨av,b7,b6,b9,h,hv⟩:=ev hS hG h;exact jv (by simp only [execOp,ho];rfl) hn h b6 b9 hv
 |assign x=>rw[ho] at h;obtain⟨av,b7,b6,b9,h,hv⟩:=ev hS hG h;exact jv (by simp only [execOp,ho];rfl) hn h b6 b9 hv
 |pick c x y=>
  rw[ho] at h;obtain⟨av,b7,b6,b9,h,hv⟩:=ev hS hG h;obtain⟨b,hc,h⟩:=Q7 hv h;rcases bT h with⟨e,h⟩|⟨e,h⟩
  ·subst e;obtain⟨av,d8,f9,l7,h,hv⟩:=ev b6 b9 h;exact jv (v:=a.eval x) (by simp only [execOp,ho,hc];rfl) hn h f9 l7 hv
  ·subst e;obtain⟨av,d8,f9,l7,h,hv⟩:=ev b6 b9 h;exact jv (v:=a.eval y) (by simp only [execOp,ho,hc];rfl) hn h f9 l7 hv
 |alloc t=>rw[ho] at h;exact cf (by simp only [execOp,ho]) hn (Lk hS hG h)
 |box t x=>rw[ho] at h;obtain⟨av,b7,b6,b9,h,hv⟩:=ev hS hG h;exact cf (by simp only [execOp,ho]) hn (Wx (t:=t) b6 b9 hv h)
 |build t ps=>
  rw[ho] at h;obtain⟨av,b7,e,b6,h,h1,h2⟩:=rK hS hG hE h;have b9:Good w0 ρ b7.h w:=by rw[e];exact hG
  exact cf (s:=Instr.build t (ps.map λx=>(x.1,a.eval x.2))) (by simp only [execOp,ho]) hn (Lp b6 b9 (by rw[h1];simp [Function.comp_def]) (by simpa [Function.comp_def] using h2) h)
 |buildSlice t n ps=>
  rw[ho] at h;obtain⟨av,b7,e,b6,h,h1,h2⟩:=rK hS hG hE h;have b9:Good w0 ρ b7.h w:=by rw[e];exact hG
  obtain⟨av2,d8,ρ2,h,f9,l7,j6,h2,e2⟩:=Ae b6 b9 h2 h;exact cf (s:=Instr.buildSlice t n (ps.map λx=>(x.1,a.eval x.2))) (by simp only [execOp,ho]) (hn.mono j6) (uq f9 l7 (by rw[e2,h1];simp [Function.comp_def]) (by simpa [Function.comp_def] using h2) h)
 |load t x=>rw[ho] at h;obtain⟨av,b7,b6,b9,h,hv⟩:=ev hS hG h;obtain⟨ap,d8,h,f9,e2,hp⟩:=Fe b6 b9 hv h;exact cf (by simp only [execOp,ho]) hn (Ra f9 (by rw[e2];exact b9) hp h)
 |store t x y=>rw[ho] at h;obtain⟨av,b7,b6,b9,h,hv⟩:=ev hS hG h;obtain⟨au,d8,f9,l7,h,hu⟩:=ev b6 b9 h;obtain⟨ap,σ3,h,hS3,e3,hp⟩:=Fe f9 l7 hv h;obtain⟨au2,σ4,ρ4,h,hS4,hG4,ao0,hu⟩:=Lq hS3 (by rw[e3];exact l7) hu h;exact Fl (by simp only [execOp,ho]) (hn.mono ao0) (Ln hS4 hG4 (hp.mono ao0) hu h)
 |nilCheck x=>rw[ho] at h;obtain⟨av,b7,b6,b9,h,hv⟩:=ev hS hG h;obtain⟨h,hc⟩:=xq hv h;refine jv (v:=a.eval x) ?_ hn h b6 b9 hv;rcases hc with⟨p,e⟩|⟨f,l,m,e⟩|⟨f,l,m,e⟩ <;> (simp only [execOp,ho,e];rfl)
 |binOp op t x y z=>rw[ho] at h;obtain⟨av,b7,b6,b9,h,hv⟩:=ev hS hG h;obtain⟨au,d8,f9,l7,h,hu⟩:=ev b6 b9 h;exact cf (by simp only [execOp,ho]) hn (Ld (ox:=x) (oy:=y) f9 l7 hv hu h)
 |unOp op t x=>rw[ho] at h;obtain⟨av,b7,b6,b9,h,hv⟩:=ev hS hG h;exact cf (by simp only [execOp,ho]) hn (Q_ b6 b9 hv h)
 |convert s d x=>rw[ho] at h;obtain⟨av,b7,b6,b9,h,hv⟩:=ev hS hG h;obtain⟨au,d8,h,f9,e2,hu⟩:=nB b6 b9 hv h;exact cf (by simp only [execOp,ho]) hn (Lz f9 (by rw[e2];exact b9) hu h)
 |makeFunc fn first cap=>
  rw[ho] at h;obtain⟨hf,h⟩:=ay h;obtain⟨l1,b7,e,b6,h,hl1⟩:=xh hS hG hE h;have b9:Good w0 ρ b7.h w:=by rw[e];exact hG
  obtain⟨l2,d8,e2,f9,h,hl2⟩:=xh b6 b9 hE h;have l7:Good w0 ρ d8.h w:=by rw[e2];exact b9
  have q1:LR ρ l1 (first.map a.eval).toList:=by simpa using hl1
  have q2:LR ρ l2 (cap.map a.eval).toList:=by simpa using hl2
  exact jv (v:=.func fn (first.map a.eval) (cap.map a.eval)) (by simp only [execOp,ho];rfl) hn h f9 l7 (.func fn l1 l2 _ _ q1.arr.1 q2.arr.1 q1.arr.2 q2.arr.2 hf)
 |makeMap t r=>
  rw[ho] at h
  cases r with
  |none=>exact cf (s:=Instr.makeMap t none) (by simp only [execOp,ho];rfl) hn (rW (λv hv=>by cases hv) hS hG h)
  |some x=>
   obtain⟨d,hu,h⟩:=cL h
   cases d with
   |map kt e=>obtain⟨av,b7,b6,b9,h,hv⟩:=ev hS hG h;obtain⟨j,n,rfl,h⟩:=xg h;generalize hc:a.eval x=cv at hv;cases hv;exact cf (s:=Instr.makeMap t (some (a.eval x))) (by simp only [execOp,ho];rfl) hn (rW (λv hv=>by injection hv with hv;exact⟨⟨kt,e,hu⟩,j,n,by rw[←hv,hc]⟩) b6 b9 h)
   |_=>exact(ah h).elim
 |slice t x lo hi mx=>
  rw[ho] at h;obtain⟨av,b7,b6,b9,h,hv⟩:=ev hS hG h;obtain⟨o1,d8,e2,f9,h,h1⟩:=C3 b6 b9 hE h;have l7:Good w0 ρ d8.h w:=by rw[e2];exact b9
  obtain⟨o2,σ3,e3,hS3,h,h2⟩:=C3 f9 l7 hE h;have hG3:Good w0 ρ σ3.h w:=by rw[e3];exact l7
  obtain⟨o3,σ4,e4,hS4,h,h3⟩:=C3 hS3 hG3 hE h;have hG4:Good w0 ρ σ4.h w:=by rw[e4];exact hG3
  obtain⟨au,σ5,h,hS5,e5,hu⟩:=nB hS4 hG4 hv h;exact cf (by simp only [execOp,ho]) hn (Iy hS5 (by rw[e5];exact hG4) hu h1 h2 h3 h)
 |fieldAddr t x f=>rw[ho] at h;obtain⟨av,b7,b6,b9,h,hv⟩:=ev hS hG h;exact cf (by simp only [execOp,ho]) hn (xl b6 b9 hv h)
 |indexAddr t x i=>rw[ho] at h;obtain⟨av,b7,b6,b9,h,hv⟩:=ev hS hG h;obtain⟨au,d8,f9,l7,h,hu⟩:=ev b6 b9 h;obtain⟨at_,σ3,h,hS3,e3,ht⟩:=nB f9 l7 hv h;exact cf (by simp only [execOp,ho]) hn (xm hS3 (by rw[e3];exact l7) ht hu h)
 |index t x i=>rw[ho] at h;obtain⟨av,b7,b6,b9,h,hv⟩:=ev hS hG h;obtain⟨au,d8,f9,l7,h,hu⟩:=ev b6 b9 h;exact cf (by simp only [execOp,ho]) hn (Lv f9 l7 hv hu h)
 |range t x=>rw[ho] at h;obtain⟨av,b7,b6,b9,h,hv⟩:=ev hS hG h;exact cf (by simp only [execOp,ho]) hn (IM b6 b9 hv h)
 |next it s=>rw[ho] at h;obtain⟨av,b7,b6,b9,h,hv⟩:=ev hS hG h;exact cf (by simp only [execOp,ho]) hn (LP (ty:=o.type) b6 b9 hv h)
 |lookup t x i ok=>rw[ho] at h;obtain⟨av,b7,b6,b9,h,hv⟩:=ev hS hG h;obtain⟨au,d8,f9,l7,h,hu⟩:=ev b6 b9 h;exact cf (by simp only [execOp,ho]) hn (Dg f9 l7 hv hu h)
 |mapUpdate t m i v=>rw[ho] at h;obtain⟨av,b7,b6,b9,h,hv⟩:=ev hS hG h;obtain⟨au,d8,f9,l7,h,hu⟩:=ev b6 b9 h;obtain⟨aw,σ3,hS3,hG3,h,hw⟩:=ev f9 l7 h;exact Fl (by simp only [execOp,ho]) hn (ur hS3 hG3 hv hu hw h)
 |extract t i=>rw[ho] at h;obtain⟨av,b7,b6,b9,h,hv⟩:=ev hS hG h;exact cf (by simp only [execOp,ho]) hn (C_ b6 b9 hv h)
 |call c=>
  rw[ho] at h
  have l9:c.args.map a.eval=(c.args.toList.map a.eval).toArray:=by apply Array.ext';simp
  have h:run (match c.callee with
   | .builtin b=>nj env c.args.toList λl=>oU l λl=>nr P b c.argTypes l k
   | .value f=>fH env f λf=>nj env c.args.toList λl=>E7 P en rn f l k
   | .invoke _ _=>.fail) σ K=true:=h
  cases hc:c.callee with
  |builtin b=>
   rw[hc] at h
   obtain⟨l0,σ0,e0,hS0,h,hl0⟩:=xh hS hG hE h
   have hG0:Good w0 ρ σ0.h w:=by rw[e0];exact hG
   obtain⟨l,b7,h,b6,e,hl⟩:=uZ hS0 hG0 hl0 h
   have b9:Good w0 ρ b7.h w:=by rw[e];exact hG0
   cases b with
   |append=>exact cf (s:=Builtin.append_ c.argTypes o.type (c.args.toList.map a.eval).toArray) (by simp only [execOp,ho,resolve,hc,l9,invoke,builtin];rfl) hn (Df b6 b9 hl h)
   |len=>exact cf (s:=Builtin.len_ c.argTypes o.type (c.args.toList.map a.eval).toArray) (by simp only [execOp,ho,resolve,hc,l9,invoke,builtin];rfl) hn (IF b6 b9 hl h)
   |copy=>exact cf (s:=Builtin.copy_ c.argTypes o.type (c.args.toList.map a.eval).toArray) (by simp only [execOp,ho,resolve,hc,l9,invoke,builtin];rfl) hn (LT b6 b9 hl h)
   |max=>exact cf (s:=Builtin.max_ c.argTypes o.type (c.args.toList.map a.eval).toArray) (by simp only [execOp,ho,resolve,hc,l9,invoke,builtin];rfl) hn (WC b6 b9 hl h)
   |_=>exact(ah h).elim
  |value f=>
   rw[hc] at h
   obtain⟨av,b7,b6,b9,h,hv⟩:=ev hS hG h
   obtain⟨l,d8,e,f9,h,hl⟩:=xh b6 b9 hE h
   have l7:Good w0 ρ d8.h w:=by rw[e];exact b9
   generalize hfv:a.eval f=fv at hv
   cases hv with
   |func fn l1 m1 first captured h1 h2 r1 r2 hf=>
    cases fn with
    |func i=>
     have q1:LR ρ l1 first.toList:=LR.of_arr h1 r1
     have q2:LR ρ m1 captured.toList:=LR.of_arr h2 r2;have ea:(first++(c.args.toList.map a.eval).toArray++captured)=(first.toList++c.args.toList.map a.eval++captured.toList).toArray:=by apply Array.ext';simp
     have he0:(execOp a.eval o).run P w=(callFunc i (first++(c.args.toList.map a.eval).toArray++captured)).run P w:=by simp only [execOp,ho,resolve,hc,hfv,Deferred.ofValue,l9,aad,aaf,aaj,invoke]
     have h:run (ac (E6 P i) (Q4 P i (l1++l++m1) k) (en i (l1++l++m1) k)) d8 K=true:=h;rcases bT h with⟨m7,h⟩|⟨_,h⟩
     ·obtain⟨av,v,q3,q4,q5⟩:=Ri (w:=w) m7 ((q1.append hl).append q2) h;refine jv ?_ hn q3 f9 l7 q4;rw[he0,ea];exact q5
     obtain⟨hcf,hci⟩:=hen i (l1++l++m1) _ k d8 K ρ w (λe w'=>match e with
      | .returned v=>next (a.put o.dst v) w'
      | .panicked chain=>Q (.panic chain) a w'
      | .outgrown=>LetsOut Q) f9 l7 ((q1.append hl).append q2) h (λav v a9 ρ' w' g1 g2 g3 g4 g5=>hn av v a9 ρ' w' g1 g2 g3 g4 g5)
     refine⟨λ_ _=>trivial, ?_⟩;show o.uponIn (fR rd) 0 P a next Q ((o.semAt rd a.eval).run P w)
     have he:(execOp a.eval o).run P w= .ok (.enter i (first++(c.args.toList.map a.eval).toArray++captured)) w:=by rw[he0];exact hcf _
     rw[Oper.semAt_eq _ _ _ hd,he,Oper.uponIn_enter];refine⟨λh=>absurd h (by simp [fR,Fence.wide]), ?_⟩;rw[ea];exact hci.mono λe w' hr=>by cases e <;> exact hr
    |yield _=>exact absurd (show false=true from hf) (by decide)
    |_=>exact(ah h).elim
   |yld b hb hh=>
    have h:run (rn b l k) d8 K=true:=h;obtain⟨Q',j4,f,tmps,as,bd,q1,q2⟩:=hrn b l _ k d8 K ρ w (λe w'=>match e with
     | .returned v=>next (a.put o.dst v) w'
     | .panicked chain=>Q (.panic chain) a w'
     | .outgrown=>LetsOut Q) f9 l7 hl h (λav v a9 ρ' w' g1 g2 g3 g4 g5=>hn av v a9 ρ' w' g1 g2 g3 g4 g5)
    rw[hh] at j4;injection j4 with j4;subst j4;refine⟨λ_ _=>trivial, ?_⟩;show o.uponIn (fR rd) 0 P a next Q ((o.semAt rd a.eval).run P w)
    have he:(execOp a.eval o).run P w= .ok (.round hb.blk f tmps as bd) w:=by
     have:(execOp a.eval o).run P w=(Instr.yield hb.blk (#[]++(c.args.toList.map a.eval).toArray)).run P w:=by simp only [execOp,ho,resolve,hc,hfv,Deferred.ofValue,l9,aad,aaf,aaj,invoke]
     rw[this,Array.empty_append];exact q1
    rw[Oper.semAt_eq _ _ _ hd,he,Oper.uponIn_round];refine⟨λh=>absurd h (by simp [fR,Fence.wide]), ?_⟩;exact RoundIn.mono (show RoundIn (fR rd) (0-1) P hb.blk f tmps as bd w _ from q2) λe w' hr=>by cases e <;> exact hr
   |_=>exact(ah h).elim
  |invoke r m=>rw[hc] at h;exact(ah h).elim
 |_=>rw[ho] at h;exact(ah h).elim
end
end Go.Sym
namespace Go.Sym
open Go.RowKit (Below)
section
variable{P:Program}{w0:World}{ρ:Rho}{w:World}{σ:St}{K:Fin}{nt:Nat}{env:T AV}{a:Act}
def ZH{dst:Option Nat}{av:AV}{v:Value}{k:T AV->Tr}(hv:VR ρ av v)(hE:ER ρ nt env a.tmps)(h:run (zT nt dst av env k) σ K=true):
 ∃env',run (k env') σ K=true/\ER ρ nt env' (a.put dst v).tmps/\(a.put dst v).defers=a.defers:=by
 cases dst with
 |none=>exact⟨env,h,hE,rfl⟩
 |some d=>
  obtain⟨hd,h⟩:=ay h
  have hd:=bU hd
  rw[T.setK_eq] at h
  refine⟨_,h,⟨?_,λt b hb=>?_⟩,rfl⟩
  ·show(a.tmps.setIfInBounds d v).size=nt;rw[abQ];exact hE.size
  ·show ∃u,(a.tmps.setIfInBounds d v)[t]? =some u/\VR ρ b u;by_cases e:t=d
   ·subst e;have:=T.get_set_some _ _ hb;subst this;refine⟨v, ?_,hv⟩;rw[aaK,if_pos rfl,if_pos (by rw[hE.size];omega)]
   ·rw[T.get_set_ne _ e] at hb;obtain⟨u,hu,hr⟩:=hE.val t b hb;exact⟨u,by rw[aaK,if_neg (λe'=>e e'.symm)];exact hu,hr⟩
def LW{ops:Array Oper}{o:Oper}{yes no:Tr}(hE:ER ρ nt env a.tmps)(h:run (kH ops env o yes no) σ K=true):
 (Region.wanted o (yielded ops a.tmps)=true/\run yes σ K=true)∨(Region.wanted o (yielded ops a.tmps)=false/\run no σ K=true):=by
 unfold kH at h
 unfold Region.wanted
 split at h
 ·rename_i hg;rw[hg];exact .inl ⟨rfl,h⟩
 ·rename_i j want hg;rw[hg];split at h
  ·rename_i oj hj;split at h
   ·rename_i d hd
    obtain⟨v,hv,h⟩:=uo h
    obtain⟨u,hu,hr⟩:=hE.val _ _ hv
    have hy:∀b,u= .bool b->yielded ops a.tmps j=some b:=λb e=>by subst e;simp [yielded,hj,hd,hu]
    have hn:(∀b,u≠ .bool b)->yielded ops a.tmps j=none:=λhn=>by simp only [yielded,hj,hd,hu,Option.bind_some];cases u <;> first|rfl|exact absurd rfl (hn _)
    cases hr with
    |bool b=>
     rcases bT h with⟨e,h⟩|⟨e,h⟩
     ·refine .inl ⟨?_,h⟩;have:b=want:=by simpa using e
      subst this;simp [hy b rfl]
     ·refine .inr ⟨?_,h⟩;have:¬b=want:=by simpa using e
      simp [hy b rfl,this]
    |tup l cs h1 h2=>exact .inr ⟨by simp [hn (λb e=>by cases e)],h⟩
    |sB p b hb=>
     cases want with
     |true=>
      rcases dw h with⟨hp,h⟩|⟨hp,h⟩
      ·exact .inl ⟨by simp [hy b rfl,hb.2 hp],h⟩
      ·exact .inr ⟨by simp [hy b rfl];cases b with|true=>exact absurd (hb.1 rfl) hp|false=>rfl,h⟩
     |false=>
      rcases dw h with⟨hp,h⟩|⟨hp,h⟩
      ·exact .inr ⟨by simp [hy b rfl,hb.2 hp],h⟩
      ·exact .inl ⟨by simp [hy b rfl];cases b with|true=>exact absurd (hb.1 rfl) hp|false=>rfl,h⟩
    |_=>exact(ah h).elim
   ·exact(ah h).elim
  ·exact(ah h).elim
def ER.known{p:Prop}{b:Bool}{d:Nat}(hE:ER ρ nt env a.tmps)(hd:env.get d=some (.sB p))(hu:a.tmps[d]? =some (.bool b)):ER ρ nt (env.set d (.bool b)) a.tmps:=by
 refine⟨hE.size,λt x hx=>?_⟩;by_cases e:t=d
 ·subst e;have:=T.get_set_some _ _ hx;subst this;exact⟨_,hu,.bool b⟩
 ·rw[T.get_set_ne _ e] at hx;exact hE.val t x hx
def Rk{ops:Array Oper}{o:Oper}{yes no:T AV->Tr}(hE:ER ρ nt env a.tmps)(h:run (qI ops env o yes no) σ K=true):
 ∃env',ER ρ nt env' a.tmps/\((Region.wanted o (yielded ops a.tmps)=true/\run (yes env') σ K=true)∨(Region.wanted o (yielded ops a.tmps)=false/\run (no env') σ K=true)):=by
 unfold qI at h
 unfold Region.wanted
 split at h
 ·rename_i hg;rw[hg];exact⟨env,hE,.inl ⟨rfl,h⟩⟩
 ·rename_i j want hg;rw[hg];split at h
  ·rename_i oj hj;split at h
   ·rename_i d hd
    obtain⟨v,hv,h⟩:=uo h
    obtain⟨u,hu,hr⟩:=hE.val _ _ hv
    have hy:∀b,u= .bool b->yielded ops a.tmps j=some b:=λb e=>by subst e;simp [yielded,hj,hd,hu]
    have hn:(∀b,u≠ .bool b)->yielded ops a.tmps j=none:=λhn=>by simp only [yielded,hj,hd,hu,Option.bind_some];cases u <;> first|rfl|exact absurd rfl (hn _)
    cases hr with
    |bool b=>
     refine⟨env,hE, ?_⟩;rcases bT h with⟨e,h⟩|⟨e,h⟩
     ·refine .inl ⟨?_,h⟩;have:b=want:=by simpa using e
      subst this;simp [hy b rfl]
     ·refine .inr ⟨?_,h⟩;have:¬b=want:=by simpa using e
      simp [hy b rfl,this]
    |tup l cs h1 h2=>exact⟨env,hE,.inr ⟨by simp [hn (λb e=>by cases e)],h⟩⟩
    |sB p b hb=>
     rcases dw h with⟨hp,h⟩|⟨hp,h⟩
     ·have P':b=true:=hb.2 hp
      subst P'
      rw[T.setK_eq] at h
      refine⟨_,hE.known hv hu, ?_⟩
      cases want with
      |true=>exact .inl ⟨by simp [hy true rfl],h⟩
      |false=>exact .inr ⟨by simp [hy true rfl],h⟩
     ·have hbf:b=false:=by cases b with|true=>exact absurd (hb.1 rfl) hp|false=>rfl
      subst hbf
      rw[T.setK_eq] at h
      refine⟨_,hE.known hv hu, ?_⟩
      cases want with
      |true=>exact .inr ⟨by simp [hy false rfl],h⟩
      |false=>exact .inl ⟨by simp [hy false rfl],h⟩
    |_=>exact(ah h).elim
   ·exact(ah h).elim
  ·exact(ah h).elim
def Rl{rd:Option Nat}{ops:Array Oper}{en rn:c_}(hen:Ax P w0 en)(hrn:Rj P w0 rn){k:T AV->Tr}{Q:Exit->Act->World->Prop}(ρ0:Rho)(ds:List Deferred)(hk:∀env' a9 ρ' a' w',run (k env') a9 K=true->SI a9->Good w0 ρ' a9.h w'->ρ0.le ρ'->ER ρ' nt env' a'.tmps->a'.defers=ds->Q .normal a' w'):
 ∀(l:List Oper) (env:T AV) (σ:St) (ρ:Rho) (a:Act) (w:World),run (Q6 P en rn nt ops l env k) σ K=true->SI σ->Good w0 ρ σ.h w->ρ0.le ρ->ER ρ nt env a.tmps->a.defers=ds->wpListIn (fR rd) 0 P ops Q l a w:=by
 intro l
 induction l with
 |nil=>intro env σ ρ a w h hS hG hle hE hd;exact hk _ _ _ _ _ h hS hG hle hE hd
 |cons o l ih=>
  intro env σ ρ a w h hS hG hle hE hd
  have h:run (qI ops env o (λenv=>Q5 P en rn env o.op λv=>zT nt o.dst v env λenv=>Q6 P en rn nt ops l env k) (λenv=>zT nt o.dst (.tup []) env λenv=>Q6 P en rn nt ops l env k)) σ K=true:=h
  obtain⟨au1,hE0,h⟩:=Rk hE h
  clear hE
  have hE:=hE0
  rcases h with⟨hw,h⟩|⟨hw,h⟩
  ·simp only [wpListIn,hw,if_true];refine LV hen hrn hS hG hE h λav v a9 ρ' w' h1 h2 h3 h4 h5=>?_;obtain⟨env',h6,h7,h8⟩:=ZH h5 (hE.mono h4) h1;exact ih env' a9 ρ' _ w' h6 h2 h3 (hle.trans h4) h7 (h8.trans hd)
  ·simp only [wpListIn,hw,Bool.false_eq_true,if_false];obtain⟨env',h6,h7,h8⟩:=ZH (v:=undef) (.tup [] #[] rfl (by simp)) hE h;exact⟨λ_ _=>trivial,ih env' σ ρ _ w h6 hS hG hle h7 (h8.trans hd)⟩
def DR(ρ:Rho):List Nat->List Deferred->Prop
 | [],[]=>True
 |b::df,d::ds=>(∃h,ρ.at_ b 0=some h/\d.target= .collected h.blk)/\DR ρ df ds
 |_,_=>False
def DR.mono{ρ ρ':Rho}(hle:ρ.le ρ'):∀{df:List Nat} {ds:List Deferred},DR ρ df ds->DR ρ' df ds
 | [],[],_=>trivial
 |_::_,_::_,⟨⟨h,h1,h2⟩,h3⟩=>⟨⟨h,hle.at_ _ _ _ h1,h2⟩,DR.mono hle h3⟩
 | [],_::_,h=>h.elim
 |_::_,[],h=>h.elim
def hY{r:Nat}{o o':Obj}(h:w.heap[r]? =some o)(ho:∀c t f,o≠ .cells c t f):(setObj r o').run P w= .ok () {w with heap:=w.heap.setIfInBounds r o'}:=by cases o <;> first|(exact absurd rfl (ho _ _ _))|(simp [setObj,Sem.run,h])
def Good.setObj{H:T ABlk}{b:Nat}{x0 x:ABlk}{h:Home}{o o':Obj}(hG:Good w0 ρ H w)(hb:H.get b=some x0)(c8:b+1<2 ^ 64)(hh:ρ.at_ b 0=some h)(hB:Own ρ w0.heap.size h.blk)(hw:w.heap[h.blk]? =some o)(hx:BR ρ w0.heap.size {w with heap:=w.heap.setIfInBounds h.blk o'} b x)(hgx:∀g,Ky g x:=by intro g;trivial)(hnf:¬zH x0)(hxo:∀k I l,x≠ .obj k I l:=by intro _ _ _ h;cases h):Good w0 ρ (H.set b x) {w with heap:=w.heap.setIfInBounds h.blk o'}:=by
 refine hG.turn (hnf:=hnf) (hxo:=hxo) (hrs:=⟨b,0,h,hh,rfl⟩) hb c8 h.blk hB ⟨rfl,rfl,rfl,by simp,λk hk ho=>?_⟩ (by simp) (λk hk _=>?_) (λb' g h' j4 e=>(hG.inj _ _ _ _ _ _ j4 hh e).1) hx (λg _=>hgx g)
 ·show(w.heap.setIfInBounds h.blk o')[k]? =_;rw[aaK,if_neg (λe=>by rcases hB with hB|hB;omega;exact ho (e▸hB))]
 ·show(w.heap.setIfInBounds h.blk o')[k]? =_;rw[aaK,if_neg (λe=>hk e.symm)]
def nD{r:Nat}{o o':Obj}(h:w.heap[r]? =some o):(w.heap.setIfInBounds r o')[r]? =some o':=by
 have:r<w.heap.size:=by
  rcases aah r w.heap.size with h'|h'
  ·exact h'
  ·rw[aaV h'] at h;cases h
 rw[aaK,if_pos rfl,if_pos this]
def WD{fn:Func}{tmps:Array Value}{R:Ending->World->Prop}{k:Tr}(hk:∀a9 w',run k a9 K=true->SI a9->Good w0 ρ a9.h w'->LeavesInM Fence.wide 0 P fn tmps R [] .returning w'):
 ∀(df:List Nat) (ds:List Deferred) (σ:St) (w:World),run (xd df k) σ K=true->SI σ->Good w0 ρ σ.h w->DR ρ df ds->LeavesInM Fence.wide 0 P fn tmps R ds .returning w:=by
 intro df
 induction df with
 |nil=>
  intro ds σ w h hS hG hd
  cases ds with
  |nil=>exact hk _ _ h hS hG
  |cons _ _=>exact hd.elim
 |cons b df ih=>
  intro ds σ w h hS hG hd
  cases ds with
  |nil=>exact hd.elim
  |cons d ds=>
   obtain⟨⟨hm,hh,ht⟩,hd⟩:=hd
   have h:run (.rd b λq=>(match q with | .dfr true=>.wr b (.dfr false) (xd df k)|_=>.fail)) σ K=true:=h
   obtain⟨q,b7,hq,e1,b6,h⟩:=bE hS h
   cases q with
   |dfr live=>
    cases live with
    |false=>exact(ah h).elim
    |true=>
     obtain⟨hm',j4,hB,j7⟩:=hG.blk _ _ hq
     rw[hh] at j4;injection j4 with j4;subst j4
     have j7:w.heap[hm.blk]? =some (.deferred (some [])):=j7
     obtain⟨x0,d8,hx0,e2,f9,c8,h⟩:=fw b6 h
     have b9:Good w0 ρ b7.h w:=by rw[e1];exact hG
     have l7:=b9.setObj (hnf:=nf e1 hq hx0 (λh=>h)) (x:=.dfr false) (o':=.deferred none) hx0 c8 hh hB j7 ⟨hm,hh,hB,nD j7⟩
     refine⟨by simp,.inl ⟨hm.blk,_,ht, ?_,ih ds d8 _ h f9 (by rw[e2];exact l7) hd⟩⟩
     simp only [Instr.takeDeferred,aad,bu j7 (by simp),aaj,hY j7 (by simp),aaf]
   |_=>exact(ah h).elim
def IR(tmps:Array Value):ResultVar->Sem Value
 | .tmp t=>pure (tmps.getD t undef)
 | .cell a t=>do loadVar t (←asAddr (tmps.getD a undef))
def Dh(fn:Func)(tmps:Array Value):results fn tmps=(do
 let vs ←fn.results.mapM (IR tmps)
 pure (if h:vs.size=1 then vs[0] else .tuple vs)):=by
 unfold results
 congr 1
def Fo{tmps:Array Value}{t:Nat}{v:Value}(h:tmps[t]? =some v):tmps.getD t undef=v:=by rw[aaW,h];rfl
def resT{tmps:Array Value}(hE:ER ρ nt env tmps):∀(l:List ResultVar) (σ:St) (k:List AV->Tr),run (K8 P env l k) σ K=true->SI σ->Good w0 ρ σ.h w->
 ∃avs vs a9,run (k avs) a9 K=true/\SI a9/\Good w0 ρ a9.h w/\LR ρ avs vs/\(l.mapM (IR tmps)).run P w= .ok vs w:=by
 intro l
 induction l with
 |nil=>intro σ k h hS hG;exact⟨[],[],σ,h,hS,hG,LR.nil ρ,by simp⟩
 |cons r l ih=>
  intro σ k h hS hG
  cases r with
  |tmp t=>
   have h:run (T.getK env t .fail λv=>K8 P env l λl=>k (v::l)) σ K=true:=h
   obtain⟨av,hv,h⟩:=uo h
   obtain⟨v,hu,hr⟩:=hE.val _ _ hv
   obtain⟨avs,vs,a9,h1,h2,h3,h5,h6⟩:=ih σ _ h hS hG
   refine⟨av::avs,v::vs,a9,h1,h2,h3,LR.cons hr h5, ?_⟩
   simp [List.mapM_cons,IR,Fo hu,h6]
  |cell c t=>
   have h:run (T.getK env c .fail λp=>zK P t p λv=>K8 P env l λl=>k (v::l)) σ K=true:=h
   obtain⟨ap,hap,h⟩:=uo h
   obtain⟨p,hp,hr⟩:=hE.val _ _ hap
   obtain⟨av,b7,v,hb,b6,b9,hv,c7⟩:=Ab (P:=P) hS hG hr h
   obtain⟨avs,vs,a9,h1,h2,h3,h5,h6⟩:=ih b7 _ hb b6 b9
   refine⟨av::avs,v::vs,a9,h1,h2,h3,LR.cons hv h5, ?_⟩
   have ao1:(do loadVar t (←asAddr p):Sem Value).run P w= .ok v w:=by
    cases hr with
    |ptr b g o hm hh ho=>simp only [Instr.loadAt,Instr.sureAddr,aad,aaf,aaj] at c7;simp only [asAddr,aad,aaf,aaj];exact c7
    |gptr b2 g2 i2 o2 es2 hm2 hh2 hs2=>simp only [Instr.loadAt,Instr.sureAddr,aad,aaf,aaj] at c7;simp only [asAddr,aad,aaf,aaj];exact c7
    |cptr l2 blk off arr ty2 hf hb r2=>simp only [Instr.loadAt,Instr.sureAddr,aad,aaf,aaj] at c7;simp only [asAddr,aad,aaf,aaj];exact c7
    |_=>exact(ah h).elim
   have:(IR tmps (.cell c t)).run P w= .ok v w:=by simp only [IR,Fo hp];exact ao1
   simp [List.mapM_cons,this,h6]
def IS:List Value->Value
 | [v]=>v
 |l=>.tuple l.toArray
def Ay{fn:Func}{tmps:Array Value}{vs:List Value}{w':World}(h:(fn.results.toList.mapM (IR tmps)).run P w= .ok vs w'):(results fn tmps).run P w= .ok (IS vs) w':=by
 rw[Dh,aad,Array.mapM_eq_mapM_toList,Sem.run_map,h]
 cases vs with
 |nil=>simp [IS]
 |cons v vs=>
  cases vs with
  |nil=>simp [IS]
  |cons u vs=>simp [IS]
end
end Go.Sym
namespace Go.Sym
open Go.RowKit (Below)
section
variable{env env':T AV}
def aF{x:Operand}{k k':AV->Tr}(h:∀t,x= .tmp t->env.get t=env'.get t)(hk:∀a,k a=k' a):fH env x k=fH env' x k':=by
 have e:k=k':=funext hk
 subst e
 cases x with
 |tmp t=>show T.getK env t .fail k=T.getK env' t .fail k;rw[T.getK_eq,T.getK_eq,h t rfl]
 |_=>rfl
def jw:∀{l:List Operand} {k k':List AV->Tr},(∀x∈l,∀t,x= .tmp t->env.get t=env'.get t)->(∀a,k a=k' a)->nj env l k=nj env' l k':=by
 intro l
 induction l with
 |nil=>intro k k' _ hk;exact hk []
 |cons x l ih=>intro k k' h hk;exact aF (h x (by simp)) λa=>ih (λy hy=>h y (by simp [hy])) λl=>hk (a::l)
def mw{o:Option Operand}{k k':Option AV->Tr}(h:∀x,o=some x->∀t,x= .tmp t->env.get t=env'.get t)(hk:∀a,k a=k' a):Ij env o k=Ij env' o k':=by
 cases o with
 |none=>exact hk none
 |some x=>exact aF (h x rfl) λa=>hk (some a)
def kK:∀{l:List (Nat×Operand)} {k k':List (Nat×AV)->Tr},(∀x∈l,∀t,x.2= .tmp t->env.get t=env'.get t)->(∀a,k a=k' a)->iJ env l k=iJ env' l k':=by
 intro l
 induction l with
 |nil=>intro k k' _ hk;exact hk []
 |cons x l ih=>intro k k' h hk;exact aF (h x (by simp)) λa=>ih (λy hy=>h y (by simp [hy])) λl=>hk ((x.1,a)::l)
def Di{P:Program}{t:TypeId}{k k':TypeDesc->Tr}(hk:∀a,k a=k' a):cx P t k=cx P t k':=by rw[show k=k' from funext hk]
def vm{b:Bool}{x x' y y':Tr}(h:x=x')(h':y=y'):ac b x y=ac b x' y':=by rw[h,h']
def IT{P:Program}{en rn:c_}{op:Op}{k:AV->Tr}(h:∀t,Operand.tmp t∈op.operands->env.get t=env'.get t):Q5 P en rn env op k=Q5 P en rn env' op k:=by
 have one:∀x,x∈op.operands->∀t,x= .tmp t->env.get t=env'.get t:=λx hx t e=>h t (by subst e;exact hx)
 cases op with
 |move x=>exact aF (one x (by simp [Op.operands])) λ_=>rfl
 |assign x=>exact aF (one x (by simp [Op.operands])) λ_=>rfl
 |pick c a b=>
  exact aF (one c (by simp [Op.operands])) λv=>by
   cases v with
   |bool v=>exact vm (aF (one a (by simp [Op.operands])) λ_=>rfl) (aF (one b (by simp [Op.operands])) λ_=>rfl)
   |sB p=>show Tr.ask p (ac true (fH env a k) (fH env b k)) (ac false (fH env a k) (fH env b k))=Tr.ask p (ac true (fH env' a k) (fH env' b k)) (ac false (fH env' a k) (fH env' b k));rw[aF (one a (by simp [Op.operands])) (λ_=>rfl:∀x,k x=k x),aF (one b (by simp [Op.operands])) (λ_=>rfl:∀x,k x=k x)]
   |_=>rfl
 |box t x=>exact aF (one x (by simp [Op.operands])) λ_=>rfl
 |build t ps=>exact kK (λx hx=>one x.2 (by simp only [Op.operands,List.mem_toArray];exact List.mem_map.2 ⟨x,hx,rfl⟩)) λ_=>rfl
 |buildSlice t n ps=>exact kK (λx hx=>one x.2 (by simp only [Op.operands,List.mem_toArray];exact List.mem_map.2 ⟨x,hx,rfl⟩)) λ_=>rfl
 |load t x=>exact aF (one x (by simp [Op.operands])) λ_=>rfl
 |store t x y=>exact aF (one x (by simp [Op.operands])) λ_=>aF (one y (by simp [Op.operands])) λ_=>rfl
 |nilCheck x=>exact aF (one x (by simp [Op.operands])) λ_=>rfl
 |binOp op t x y z=>exact aF (one x (by simp [Op.operands])) λ_=>aF (one y (by simp [Op.operands])) λ_=>rfl
 |unOp op t x=>exact aF (one x (by simp [Op.operands])) λ_=>rfl
 |convert s d x=>exact aF (one x (by simp [Op.operands])) λ_=>rfl
 |makeFunc fn first cap=>
  exact vm (jw (λx hx=>one x (by simp only [Op.operands,Array.mem_append];exact .inl (by simpa using hx))) λ_=>
   jw (λx hx=>one x (by simp only [Op.operands,Array.mem_append];exact .inr (by simpa using hx))) λ_=>rfl) rfl
 |makeMap t r=>
  cases r with
  |none=>rfl
  |some x=>
   exact Di λd=>by
    cases d with
    |map _ _=>exact aF (one x (by simp [Op.operands])) λ_=>rfl
    |_=>rfl
 |slice t x lo hi mx=>
  exact aF (one x (by simp [Op.operands])) λ_=>mw (λy hy=>one y (by subst hy;simp [Op.operands])) λ_=>
   mw (λy hy=>one y (by subst hy;simp [Op.operands])) λ_=>mw (λy hy=>one y (by subst hy;simp [Op.operands])) λ_=>rfl
 |fieldAddr t x f=>exact aF (one x (by simp [Op.operands])) λ_=>rfl
 |indexAddr t x i=>exact aF (one x (by simp [Op.operands])) λ_=>aF (one i (by simp [Op.operands])) λ_=>rfl
 |index t x i=>exact aF (one x (by simp [Op.operands])) λ_=>aF (one i (by simp [Op.operands])) λ_=>rfl
 |lookup t x i ok=>exact aF (one x (by simp [Op.operands])) λ_=>aF (one i (by simp [Op.operands])) λ_=>rfl
 |mapUpdate t x y z=>exact aF (one x (by simp [Op.operands])) λ_=>aF (one y (by simp [Op.operands])) λ_=>aF (one z (by simp [Op.operands])) λ_=>rfl
 |range t x=>exact aF (one x (by simp [Op.operands])) λ_=>rfl
 |next x s=>exact aF (one x (by simp [Op.operands])) λ_=>rfl
 |extract x i=>exact aF (one x (by simp [Op.operands])) λ_=>rfl
 |call c=>
  have l9:∀x∈c.args.toList,x∈(Op.call c).operands:=λx hx=>by simp only [Op.operands,Call.operands,Array.mem_append];exact .inr (by simpa using hx)
  show(match c.callee with
   | .builtin b=>nj env c.args.toList λl=>oU l λl=>nr P b c.argTypes l k
   | .value f=>fH env f λf=>nj env c.args.toList λl=>E7 P en rn f l k
   | .invoke _ _=>Tr.fail)=(match c.callee with
   | .builtin b=>nj env' c.args.toList λl=>oU l λl=>nr P b c.argTypes l k
   | .value f=>fH env' f λf=>nj env' c.args.toList λl=>E7 P en rn f l k
   | .invoke _ _=>Tr.fail)
  cases hc:c.callee with
  |builtin b=>exact jw (λx hx=>one x (l9 x hx)) λ_=>rfl
  |value f=>exact aF (one f (by simp [Op.operands,Call.operands,hc])) λ_=>jw (λx hx=>one x (l9 x hx)) λ_=>rfl
  |invoke _ _=>rfl
 |_=>rfl
noncomputable def tk(P:Program)(en rn:c_)(ops:Array Oper)(env:T AV)(o:Oper):Tr:=kH ops env o (Q5 P en rn env o.op .ret) (.ret (.tup []))
def LX{P:Program}{en rn:c_}{ops:Array Oper}{o:Oper}(h:∀t∈looks ops o,env.get t=env'.get t):tk P en rn ops env o=tk P en rn ops env' o:=by
 have h1:Q5 P en rn env o.op .ret=Q5 P en rn env' o.op .ret:=IT λt ht=>h t (by unfold looks;refine abq _ (List.mem_filterMap.2 ⟨.tmp t,by simpa using ht,rfl⟩));unfold tk kH;rw[h1];split
 ·rfl
 ·rename_i j want hg;split
  ·rename_i oj hj;split
   ·rename_i d hd;rw[T.getK_eq,T.getK_eq,h d];unfold looks;refine abr _ ?_;rw[hg];simp [hj,hd]
   ·rfl
  ·rfl
end
section
variable{X A:Type}
open Classical in
noncomputable def sb(H:Nat->X->A)(W:Nat->X->Prop)(S:Nat->Prop)(x:X):Nat->A
 |0=>H 0 x
 |m+1=>if S m/\W m x then H (m+1) x else sb H W S x m
variable{H:Nat->X->A}{W:Nat->X->Prop}{S S':Nat->Prop}{x:X}{n:Nat}
def xt(same:∀m,m<n->¬W m x->H (m+1) x=H m x):∀m,m<=n->(∀j,j<m->S j)->sb H W S x m=H m x:=by
 intro m
 induction m with
 |zero=>intro _ _;rfl
 |succ m ih=>
  intro hm hS;unfold sb;split
  ·rfl
  ·rename_i h;rw[ih (by omega) (λj hj=>hS j (by omega)),same m (by omega) (λhw=>h ⟨hS m (by omega),hw⟩)]
def vo:∀m,(∀j,j<m->W j x->(S j↔S' j))->sb H W S x m=sb H W S' x m:=by
 intro m
 induction m with
 |zero=>intro _;rfl
 |succ m ih=>
  intro h;unfold sb;rw[ih λj hj=>h j (by omega)];by_cases hw:W m x
  ·by_cases hs:S m
   ·rw[if_pos ⟨hs,hw⟩,if_pos ⟨(h m (by omega) hw).1 hs,hw⟩]
   ·rw[if_neg (λc=>hs c.1),if_neg (λc=>hs ((h m (by omega) hw).2 c.1))]
  ·rw[if_neg (λc=>hw c.2),if_neg (λc=>hw c.2)]
def nE {a : Nat} : ∀ m, a <= m -> (∀ j, a <= j -> j < m -> S j -> ¬ W j x) -> sb H W S x m = sb H W S x a := by
  intro m
  induction m with
  | zero => intro ha _; have : a = 0 := by omega
            subst this; rfl
  | succ m ih =>
    intro ha h
    by_cases e : a = m + 1
    · subst e; rfl
    · conv => lhs; unfold sb
      rw [if_neg (λc => h m (by omega) (by omega) c.1 c.2)]
      exact ih (by omega) λj h1 h2 => h j h1 (by omega)
variable{i:Nat}
def Az(same:∀m,m<n->¬W m x->H (m+1) x=H m x)(hi:i<n)(hS:¬S i)(h1:∀j,j<i->¬S j->¬W j x)(h2:∀j,i<j->j<n->S j->¬W j x):sb H W S x n=H i x:=by
 rw[nE (a:=i) n (by omega) λj a b c=>by
  by_cases e:j=i
  ·subst e;exact absurd c hS
  ·exact h2 j (by omega) b c]
 rw[vo (S':=λ_=>True) i λj hj hw=>⟨λ_=>trivial,λ_=>Classical.byContradiction λhn=>h1 j hj hn hw⟩];exact xt same i (by omega) λ_ _=>trivial
def sd(hi:i<n)(r9:∀j,S' j↔S j∨j=i)(hw:W i x)(h2:∀j,i<j->j<n->S j->¬W j x):sb H W S' x n=H (i+1) x:=by
 rw[nE (a:=i+1) n (by omega) λj a b c=>by
  rcases(r9 j).1 c with c|c
  ·exact h2 j (by omega) b c
  ·omega]
 unfold sb;rw[if_pos ⟨(r9 i).2 (.inr rfl),hw⟩]
def AA(r9:∀j,S' j↔S j∨j=i)(hw:¬W i x):sb H W S' x n=sb H W S x n:=
 vo n λj hj hwj=>by rw[r9 j];exact⟨λc=>c.elim id λe=>by subst e;exact absurd hwj hw,.inl⟩
end
structure Tape' where
 E:Nat->T AV
 H:Nat->T ABlk
 N:Nat->Nat
 V:Nat->AV
 TT:Nat->T Unit
 WW:Nat->List Nat
def Tape'.note(c:Tape')(j:Nat):Note:=.mk (c.N j) (c.N (j+1)) (c.TT j) (c.WW j)
def Tape'.notes(c:Tape')(i:Nat):Nat->List (Nat×Note)
 |0=>[]
 |m+1=>(i+m,c.note (i+m))::c.notes i m
def Tape'.notes_first(c:Tape')(i:Nat)(ns:List (Nat×Note)):∀m,c.notes i (m+1)++ns=c.notes (i+1) m++(i,c.note i)::ns:=by
 intro m
 induction m with
 |zero=>rfl
 |succ m ih=>rw[Tape'.notes,List.cons_append,ih,show i+(m+1)=i+1+m by omega];rfl
def Tape'.mem_notes(c:Tape')(i:Nat):∀m p,p<m->(i+p,c.note (i+p))∈c.notes i m:=by
 intro m
 induction m with
 |zero=>intro p hp;omega
 |succ m ih=>
  intro p hp;by_cases e:p=m
  ·subst e;exact aan
  ·exact aal _ (ih p (by omega))
def Tape'.notes_congr(c d:Tape')(i:Nat):∀m,(∀j,i<=j->j<i+m->c.note j=d.note j)->c.notes i m=d.notes i m:=by
 intro m
 induction m with
 |zero=>intro _;rfl
 |succ m ih=>intro h;rw[Tape'.notes,Tape'.notes,ih (λj a b=>h j a (by omega)),h (i+m) (by omega) (by omega)]
def Dj(dst:Option Nat)(v:AV)(env:T AV):T AV:=match dst with|none=>env|some d=>env.set d v
structure StepOk(P:Program)(en rn:c_)(nt:Nat)(ops:Array Oper)(c:Tape')(j:Nat)(o:Oper):Prop where
 loc:LocAt (tk P en rn ops (c.E j) o) (c.H j) (c.N j) (c.N j) .leaf [] (c.V j) (c.H (j+1)) (c.N (j+1)) (c.TT j) (c.WW j)
 env:c.E (j+1)=Dj o.dst (c.V j) (c.E j)
 dst:∀d,o.dst=some d->d<nt
 lo:1<=c.N j
 hi:c.N j<=1000000001
def Tape'.before(c:Tape')(i:Nat)(env:T AV)(h:T ABlk)(n:Nat)(v:AV)(t:T Unit)(w:List Nat):Tape' where
 E j:=if j<=i then env else c.E j
 H j:=if j<=i then h else c.H j
 N j:=if j<=i then n else c.N j
 V j:=if j<=i then v else c.V j
 TT j:=if j<=i then t else c.TT j
 WW j:=if j<=i then w else c.WW j
def StepOk.later{P:Program}{en rn:c_}{nt:Nat}{ops:Array Oper}{c:Tape'}{j:Nat}{o:Oper}(h:StepOk P en rn nt ops c j o){i:Nat}(hi:i<j)(env:T AV)(hh:T ABlk)(n:Nat)(v:AV)(t:T Unit)(w:List Nat):
 StepOk P en rn nt ops (c.before i env hh n v t w) j o:=by
 obtain⟨h1,h2,h3,h4,h5⟩:=h
 have e1:¬j<=i:=by omega
 have e2:¬j+1<=i:=by omega
 refine⟨?_, ?_,h3, ?_, ?_⟩ <;> simp only [Tape'.before,if_neg e1,if_neg e2] <;> assumption
section
variable{P:Program}{w0:World}{ρ:Rho}{w:World}{σ:St}{K:Fin}{nt:Nat}{env:T AV}{a:Act}
def LY{dst:Option Nat}{v:AV}{k:T AV->Tr}(h:run (zT nt dst v env k) σ K=true):run (k (Dj dst v env)) σ K=true/\∀d,dst=some d->d<nt:=by
 cases dst with
 |none=>exact⟨h,λd hd=>by cases hd⟩
 |some d=>obtain⟨hd,h⟩:=ay h;rw[T.setK_eq] at h;exact⟨h,λd' hd'=>by injection hd' with hd';subst hd';exact bU hd⟩
def Rm{t:Tr}{k:AV->Nat->Nat->T Unit->List Nat->Tr}{h:T ABlk}{n fs:Nat}{tc:T Unit}{w:List Nat}(hS:SI (.mk h n fs tc w))(hr:run (.sub t k) (.mk h n fs tc w) K=true):
 ∃a h' n' t' w',LocAt t h n n .leaf [] a h' n' t' w'/\∃tc2 w2,run (k a n n' t' w') (.mk h' n' fs tc2 w2) K=true/\SI (.mk h' n' fs tc2 w2):=by
 obtain⟨h1,h2,h3,h4,h5⟩:=hS
 rw[gU] at hr
 rcases loc t h n n .leaf [] (by omega) (aac _) h2 (by simp) (λb hb=>by simp [T.get] at hb) with hf|⟨a,h',n',t',w',L⟩
 ·rw[hf] at hr;cases hr
 ·rw[L.run] at hr;have hle:=L.le;have ao2:=L.lid;refine⟨a,h',n',t',w',L, ?_⟩;simp only at hr;split at hr
  ·exact⟨tc,w,hr,by omega,ao2,by omega,h4,h5⟩
  ·refine⟨_,_,hr,by omega,ao2,by omega,λb hb=>?_,λb hb=>?_⟩
   ·have af7:∀b∈T.keys t' id [],b+1<2 ^ 64:=λb hb=>by
     rcases uM t' id [] b hb with hb|⟨x,u,e,hx⟩
     ·cases hb
     ·have:=L.low x hx;have e':b=x:=e;subst e';omega
    rcases nh _ _ _ hb with hb|⟨hb,c9⟩
    ·exact fe _ _ _ af7 (h4 b hb)
    ·exact kA _ _ _ af7 (by have:=T.mem_keys t' id [] b () (L.sub b hb);simpa using this) c9
   ·have key:∀(l:List Nat) (t:T Unit),(∀b,t.get b=some ()->b<fs)->∀b,(fT fs l t).get b=some ()->b<fs:=by
     intro l
     induction l with
     |nil=>intro t ht b hb;exact ht b hb
     |cons x l ih=>
      intro t ht b hb;refine ih _ (λy hy=>?_) b hb;by_cases e:fs<=x
      ·rw[Sym.note,if_pos e] at hy;exact ht y hy
      ·by_cases ey:y=x
       ·omega
       ·rw[Sym.note,if_neg e,T.get_set_ne _ ey] at hy;exact ht y hy
    exact key _ _ h5 b hb
def ZI{ops:Array Oper}{en rn:c_}{k:T AV->Tr}:∀(l:List Oper) (i:Nat) (env:T AV) (ns:List (Nat×Note)) (h:T ABlk) (n fs:Nat) (tc:T Unit) (w:List Nat),SI (.mk h n fs tc w)->
 run (E8 P en rn nt ops l i env ns k) (.mk h n fs tc w) K=true->
 ∃c:Tape',c.E i=env/\c.H i=h/\c.N i=n/\(∀j o,l[j]? =some o->StepOk P en rn nt ops c (i+j) o)/\
  (∃tc' w',run (k (c.E (i+l.length))) (.mk (c.H (i+l.length)) (c.N (i+l.length)) fs tc' w') K=true/\SI (.mk (c.H (i+l.length)) (c.N (i+l.length)) fs tc' w'))/\
  oX (jn ops.toList []) (c.notes i l.length++ns)=true:=by
 intro l
 induction l with
 |nil=>
  intro i env ns h n fs tc w hS hr
  have hr:run (ac (oX (jn ops.toList []) ns) (k env) .fail) (.mk h n fs tc w) K=true:=hr
  obtain⟨hc,hr⟩:=ay hr
  exact⟨⟨λ_=>env,λ_=>h,λ_=>n,λ_=>.nilp,λ_=>.leaf,λ_=>[]⟩,rfl,rfl,rfl,λj o ho=>by simp at ho,⟨tc,w,hr,hS⟩,hc⟩
 |cons o l ih=>
  intro i env ns h n fs tc w hS hr
  have hr:run (.sub (tk P en rn ops env o) λv c c' t w=>zT nt o.dst v env λenv=>fN (Nat.succ i) λi'=>E8 P en rn nt ops l i' env ((i,.mk c c' t w)::ns) k) (.mk h n fs tc w) K=true:=hr
  obtain⟨v,h',n',t',w',L,tc2,w2,hr,f9⟩:=Rm hS hr
  obtain⟨hr,hd⟩:=LY hr
  have hr:=ke hr
  obtain⟨c,e1,e2,e3,p8,ac7,ag4⟩:=ih _ _ _ _ _ _ _ _ f9 hr
  have g1:∀m,i+1+m=i+(m+1):=λm=>by omega
  have g2:∀m,¬i+(m+1)<=i:=λm=>by omega
  have g3:¬i+1<=i:=by omega
  refine⟨c.before i env h n v t' w',by simp [Tape'.before],by simp [Tape'.before],by simp [Tape'.before],λj o' ho=>?_, ?_, ?_⟩
  ·cases j with
   |zero=>
    simp at ho;subst ho;refine⟨?_, ?_,hd, ?_, ?_⟩
    ·simp only [Tape'.before,aau,aac,if_true,if_neg g3];have e2:c.H (i+1)=h':=e2;have e3:c.N (i+1)=n':=e3;rw[e2,e3];exact L
    ·simp only [Tape'.before,aau,aac,if_true,if_neg g3];exact e1
    ·simp only [Tape'.before,aau,aac,if_true];exact hS.1
    ·simp only [Tape'.before,aau,aac,if_true];exact hS.2.1
   |succ j=>simp at ho;have:=(p8 j o' ho).later (i:=i) (by omega) env h n v t' w';rw[g1] at this;exact this
  ·obtain⟨tc',w'',q1,q2⟩:=ac7;refine⟨tc',w'', ?_⟩;simp only [aat,Tape'.before,if_neg (g2 _)];have g1':Nat.succ i+l.length=i+(l.length+1):=by omega
   rw[g1'] at q1 q2;exact⟨q1,q2⟩
  ·rw[aat,Tape'.notes_first];have e0:(c.before i env h n v t' w').note i= .mk n n' t' w':=by have e3:c.N (i+1)=n':=e3;simp only [Tape'.note,Tape'.before,aac,if_true,if_neg g3,e3]
   rw[e0,Tape'.notes_congr _ c (i+1) l.length λj a b=>by
    have e4:¬j<=i:=by omega
    have e5:¬j+1<=i:=by omega
    simp only [Tape'.note,Tape'.before,if_neg e4,if_neg e5]]
   exact ag4
end
def se{t:T Unit}:∀{l:List Nat},oV t l=true->∀b∈l,t.get b=none:=by
 intro l
 induction l with
 |nil=>intro _ b hb;cases hb
 |cons x l ih=>
  intro h b hb;have h:T.getK t x (oV t l) (λ_=>false)=true:=h;rw[T.getK_eq] at h;split at h
  ·rename_i hx;rcases List.mem_cons.mp hb with e|hb
   ·subst e;exact hx
   ·exact ih h b hb
  ·cases h
def jW{c c':Nat}:∀{l:List Nat},dh c c' l=true->∀b∈l,¬(c<=b/\b<c'):=by
 intro l
 induction l with
 |nil=>intro _ b hb;cases hb
 |cons x l ih=>
  intro h b hb hc;have h:ac (Nat.ble c x) (ac (Nat.ble (Nat.succ x) c') false (dh c c' l)) (dh c c' l)=true:=h;rcases List.mem_cons.mp hb with e|hb
  ·subst e;rw[show Nat.ble c b=true from Nat.ble_eq.mpr hc.1,show Nat.ble (Nat.succ b) c'=true from Nat.ble_eq.mpr hc.2] at h;cases h
  ·refine ih ?_ b hb hc
   cases h1:Nat.ble c x with
   |false=>rw[h1] at h;exact h
   |true=>
    rw[h1] at h
    cases h2:Nat.ble (Nat.succ x) c' with
    |false=>rw[h2] at h;exact h
    |true=>rw[h2] at h;cases h
def AB{bs:List Nat}{c:Tape'}:∀{m:Nat} {ns:List (Nat×Note)},oX bs (c.notes 0 m++ns)=true->∀p q,p<q->q<m->(bs.getD q 0).testBit p=true∨CY (c.note p) (c.note q)=true:=by
 intro m
 induction m with
 |zero=>intro ns _ p q _ h;omega
 |succ m ih=>
  intro ns h p q hp hq;have h:ac ((c.notes 0 m++ns).all λx=>ac ((bs.getD (0+m) 0).testBit x.1) true (CY x.2 (c.note (0+m)))) (oX bs (c.notes 0 m++ns)) false=true:=h;obtain⟨h1,h2⟩:=aD h;by_cases e:q=m
  ·subst e;have hm:=c.mem_notes 0 q p hp;have:=List.all_eq_true.mp h1 _ (abq _ hm);simp only [aap] at this;rw[ar] at this;split at this
   ·rename_i hb;exact .inl hb
   ·exact .inr this
  ·exact ih h2 p q hp (by omega)
def sg:∀(l:List Oper) (acc:List Nat) (i:Nat),i<acc.length->(jn l acc).getD i 0=acc.getD i 0:=by
 intro l
 induction l with
 |nil=>intro acc i _;rfl
 |cons o l ih=>intro acc i hi;rw[jn,ih _ _ (by simp;omega)];simp [aag,aaD hi]
def Fp(acc:List Nat)(o:Oper):Nat:=o.after.toList.foldl (λs e=>if Region.binds .any e then s ||| 2 ^ e.on ||| acc.getD e.on 0 else s) 0
def Rn:∀(l:List Oper) (acc:List Nat) (k:Nat) (o:Oper),l[k]? =some o->∃af0,af0.length=acc.length+k/\(∀i,i<af0.length->(jn l acc).getD i 0=af0.getD i 0)/\(jn l acc).getD (acc.length+k) 0=Fp af0 o:=by
 intro l
 induction l with
 |nil=>intro acc k o h;simp at h
 |cons o l ih=>
  intro acc k o' h
  cases k with
  |zero=>simp at h;subst h;refine⟨acc,rfl,λi hi=>sg _ _ _ hi, ?_⟩;rw[jn,sg _ _ _ (by simp)];simp [aag,Fp]
  |succ k=>simp at h;obtain⟨af0,h1,h2,h3⟩:=ih (acc++ [Fp acc o]) k o' h;simp only [aai,aaI] at h1 h3;refine⟨af0,by omega,h2, ?_⟩;rw[←h3,show acc.length+(k+1)=acc.length+1+k by omega];rfl
def IU{acc:List Nat}{o:Oper}{i:Nat}(h:(Fp acc o).testBit i=true):∃e∈o.after,Region.binds .any e=true/\(e.on=i∨(acc.getD e.on 0).testBit i=true):=by
 have key:∀(l:List Edge) (s:Nat),(l.foldl (λs e=>if Region.binds .any e then s ||| 2 ^ e.on ||| acc.getD e.on 0 else s) s).testBit i=true->
  s.testBit i=true∨∃e∈l,Region.binds .any e=true/\(e.on=i∨(acc.getD e.on 0).testBit i=true):=by
  intro l
  induction l with
  |nil=>intro s h;exact .inl h
  |cons e l ih=>
   intro s h
   rw[List.foldl_cons] at h
   rcases ih _ h with h|⟨e',he,h⟩
   ·split at h
    ·rename_i hb;rw[Nat.testBit_or,Nat.testBit_or,Bool.or_eq_true,Bool.or_eq_true,Nat.testBit_two_pow] at h;rcases h with(h|h)|h
     ·exact .inl h
     ·exact .inr ⟨e,by simp,hb,.inl (by simpa using h)⟩
     ·exact .inr ⟨e,by simp,hb,.inr h⟩
    ·exact .inl h
   ·exact .inr ⟨e',by simp [he],h⟩
 rcases key _ _ h with h|⟨e,he,h⟩
 ·simp at h
 ·exact⟨e,by simpa using he,h⟩
def Ro{ops:Array Oper}{j i:Nat}{o:Oper}(ho:ops[j]? =some o)(h:((jn ops.toList []).getD j 0).testBit i=true):
 ∃e∈o.after,Region.binds .any e=true/\(e.on=i∨((jn ops.toList []).getD e.on 0).testBit i=true):=by
 obtain⟨af0,h1,h2,h3⟩:=Rn ops.toList [] j o (by simpa using ho)
 simp only [List.length_nil,aap] at h1 h3
 rw[h3] at h
 obtain⟨e,he,hb,hc⟩:=IU h
 refine⟨e,he,hb,hc.imp id λhc=>?_⟩
 rcases aah e.on af0.length with hl|hl
 ·rw[h2 _ hl];exact hc
 ·rw[aag,aam hl] at hc;simp at hc
def vq{ops:Array Oper}(h:oW ops=true){j:Nat}{o:Oper}(ho:ops[j]? =some o):∀e∈o.after,Region.binds .any e=true->e.on<j:=by
 intro e he hb;unfold oW at h;have hm:(o,j)∈ops.toList.zipIdx:=by rw[abR];simpa using ho
 have:=List.all_eq_true.mp h _ hm;simp only [Bool.and_eq_true] at this;have:=List.all_eq_true.mp this.1 e (by simpa using he);simpa [hb] using this
def xu{ops:Array Oper}(h:oW ops=true){i j:Nat}{p o:Oper}(hp:ops[i]? =some p)(ho:ops[j]? =some o)(hij:i<j):((jn ops.toList []).getD j 0).testBit i=true∨xc ops p o=true:=by
 unfold oW at h;have hm:(o,j)∈ops.toList.zipIdx:=by rw[abR];simpa using ho
 have hm':(p,i)∈ops.toList.zipIdx:=by rw[abR];simpa using hp
 have:=List.all_eq_true.mp h _ hm;simp only [Bool.and_eq_true] at this;have:=List.all_eq_true.mp this.2 _ hm';simp only [Bool.or_eq_true,Bool.not_eq_true',decide_eq_false_iff_not] at this;rcases this with(c|c)|c
 ·exact absurd hij c
 ·exact .inl c
 ·exact .inr c
def Dk{ops:Array Oper}{a b:Oper}(h:xc ops a b=true):(∀d,a.dst=some d->d∉looks ops b)/\(∀d,b.dst=some d->d∉looks ops a)/\∀d,a.dst=some d->b.dst≠some d:=by
 unfold xc at h;simp only [Bool.and_eq_true] at h;obtain⟨⟨h1,h2⟩,h3⟩:=h;refine⟨λd hd=>?_,λd hd=>?_,λd hd he=>?_⟩
 ·rw[hd] at h1;simpa using h1
 ·rw[hd] at h2;simpa using h2
 ·rw[hd,he] at h3;simp at h3
section
variable{P:Program}{w0:World}{ρ:Rho}{w:World}{σ:St}{K:Fin}{nt:Nat}{env:T AV}{a:Act}
def Good.like{H H':T ABlk}(hG:Good w0 ρ H w)(h:∀b,H'.get b=H.get b):Good w0 ρ H' w:=
 ⟨⟨hG.below,λb x hx=>hG.blk b x (by rw[←h];exact hx),λb g x hx=>by rw[h];exact hG.dom b g x hx,hG.inj,λb g y x hy hx=>hG.gens b g y x hy (by rw[←h];exact hx),λb arr ty hf=>⟨(hG.frz b arr ty hf).1,λb' g x hh e=>by rw[h];exact(hG.frz b arr ty hf).2 b' g x hh e⟩,hG.frzB,λb k I l hb=>hG.objO b k I l (by rw[←h];exact hb)⟩,hG.ownB⟩
def ER.like{env':T AV}{tmps:Array Value}(hE:ER ρ nt env tmps)(h:∀d,env'.get d=env.get d):ER ρ nt env' tmps:=
 ⟨hE.size,λt x hx=>hE.val t x (by rw[←h];exact hx)⟩
def Rp{dst:Option Nat}{av:AV}{v:Value}(hv:VR ρ av v)(hE:ER ρ nt env a.tmps)(hd:∀d,dst=some d->d<nt):ER ρ nt (Dj dst av env) (a.put dst v).tmps:=by
 cases dst with
 |none=>exact hE
 |some d=>
  have hd:=hd d rfl;refine⟨?_,λt b hb=>?_⟩
  ·show(a.tmps.setIfInBounds d v).size=nt;rw[abQ];exact hE.size
  ·show ∃u,(a.tmps.setIfInBounds d v)[t]? =some u/\VR ρ b u;by_cases e:t=d
   ·subst e;have:=T.get_set_some _ _ hb;subst this;refine⟨v, ?_,hv⟩;rw[aaK,if_pos rfl,if_pos (by rw[hE.size];omega)]
   ·have hb:(env.set d av).get t=some b:=hb;rw[T.get_set_ne _ e] at hb;obtain⟨u,hu,hr⟩:=hE.val t b hb;exact⟨u,by rw[aaK,if_neg (λe'=>e e'.symm)];exact hu,hr⟩
def vu{dst:Option Nat}{v:AV}{x:Nat}(h:dst≠some x):(Dj dst v env).get x=env.get x:=by
 cases dst with
 |none=>rfl
 |some d=>exact T.get_set_ne _ (λe=>h (by rw[e])) _
def Fq{dst:Option Nat}{v:AV}{x:Nat}(h:dst=some x)(hx:x+1<2 ^ 64):(Dj dst v env).get x=some v:=by subst h;exact T.get_set_same _ _ _ hx
def iv(listed:Array Bool)(j:Nat):Prop:=listed.getD j false=true
def LZ{listed:Array Bool}{i:Nat}(hi:i<listed.size)(j:Nat):iv (listed.setIfInBounds i true) j↔iv listed j∨j=i:=by
 unfold iv;rw[aaW,aaK,aaW];by_cases e:i=j
 ·subst e;simp [hi]
 ·have e':¬j=i:=λh=>e h.symm;rw[if_neg e,or_iff_left e']
def AC{listed:Array Bool}{j:Nat}(h:listed.getD j true=false):¬iv listed j/\j<listed.size:=by
 rw[aaW] at h
 cases hj:listed[j]? with
 |none=>rw[hj] at h;cases h
 |some b=>rw[hj] at h;refine⟨λc=>?_,(Array.getElem?_eq_some_iff.1 hj).1⟩;unfold iv at c;rw[aaW,hj] at c;have h:b=false:=h;have c:b=true:=c;rw[h] at c;cases c
def WE(ops:Array Oper)(o:Oper)(x:Nat):Prop:=x∈looks ops o∨o.dst=some x
def WrE(ops:Array Oper)(j:Nat)(x:Nat):Prop:=∃o,ops[j]? =some o/\o.dst=some x
def WF(c:Tape')(j:Nat)(b:Nat):Prop:=Ur (c.N j) (c.N (j+1)) (c.WW j) b
def TcH(c:Tape')(j:Nat)(b:Nat):Prop:=Wm (c.N j) (c.N (j+1)) (c.TT j) b
open Classical in
theorem Rq{rd:Option Nat}{ops:Array Oper}{en rn:c_}(hen:Ax P w0 en)(hrn:Rj P w0 rn)(hnt:nt<=1000000000)(hm:P.follows .mixedOrders=true){k:T AV->Tr}{Q:Exit->Act->World->Prop}(ρ0:Rho)(ds:List Deferred)
 (hk:∀env' a9 ρ' a' w',run (k env') a9 K=true->SI a9->Good w0 ρ' a9.h w'->ρ0.le ρ'->ER ρ' nt env' a'.tmps->a'.defers=ds->Q .normal a' w')
 (htm:oW ops=true) (h:run (E8 P en rn nt ops ops.toList 0 env [] k) σ K=true) (hS:SI σ) (hG:Good w0 ρ σ.h w) (hle:ρ0.le ρ) (hE:ER ρ nt env a.tmps) (hd:a.defers=ds) (id:Nat):
 (Code.region id ops true).wpIn (fR rd) 0 P Q a w:=by
 cases σ with
 |mk h0 n0 fs tc ww=>
 obtain⟨c,e1,e2,e3,p8,⟨tc',w',ac7,aj8⟩,ag4⟩:=ZI _ _ _ _ _ _ _ _ _ hS h
 rw[aaN,aap] at ac7 aj8
 rw[aaN] at ag4
 have p8:∀j o,ops[j]? =some o->StepOk P en rn nt ops c j o:=λj o ho=>by
  have:=p8 j o (by simpa using ho)
  rwa [aap] at this
 have c9:∀{j o},ops[j]? =some o->j<ops.size:=λh=>(Array.getElem?_eq_some_iff.1 h).1
 have hop:∀{j},j<ops.size->∃o,ops[j]? =some o:=λh=>⟨_,aaQ h⟩
 have hN1:∀j,j<ops.size->c.N j<=c.N (j+1):=λj hj=>by obtain⟨o,ho⟩:=hop hj;exact(p8 j o ho).loc.le
 have hN:∀i j,i<=j->j<=ops.size->c.N i<=c.N j:=λi j=>by
  induction j with
  |zero=>intro h1 _;rw[show i=0 by omega];exact aac _
  |succ j ih=>
   intro h1 h2;by_cases e:i=j+1
   ·subst e;exact aac _
   ·exact aaL (ih (by omega) (by omega)) (hN1 j (by omega))
 have sameH:∀b m,m<ops.size->¬WF c m b->(c.H (m+1)).get b=(c.H m).get b:=λb m hm hw=>by obtain⟨o,ho⟩:=hop hm;exact(p8 m o ho).loc.same b hw
 have sameE:∀x m,m<ops.size->¬WrE ops m x->(c.E (m+1)).get x=(c.E m).get x:=λx m hm hw=>by obtain⟨o,ho⟩:=hop hm;rw[(p8 m o ho).env];exact vu λe=>hw ⟨o,ho,e⟩
 have ai9:∀j b,j<ops.size->WF c j b->TcH c j b:=λj b hj hw=>by
  obtain⟨o,ho⟩:=hop hj;rcases hw with hw|hw
  ·exact .inl ((p8 j o ho).loc.sub b hw)
  ·exact .inr hw
 have apH:∀i j b,i<j->j<ops.size->¬((jn ops.toList []).getD j 0).testBit i=true->(¬(TcH c i b/\WF c j b))/\¬(WF c i b/\TcH c j b):=λi j b hij hj hnb=>by
  obtain⟨p,hp⟩:=hop (show i<ops.size by omega);obtain⟨o,ho⟩:=hop hj;have o7:=(AB ag4 i j hij hj).resolve_left hnb;have o7:ac (oV (c.TT j) (c.WW i)) (ac (oV (c.TT i) (c.WW j)) (ac (dh (c.N i) (c.N (i+1)) (T.keys (c.TT j) _root_.id [])) (ac (dh (c.N i) (c.N (i+1)) (c.WW j)) true false) false) false) false=true:=o7;obtain⟨h1,o7⟩:=aD o7;obtain⟨h2,o7⟩:=aD o7;obtain⟨h3,o7⟩:=aD o7;obtain⟨h4,_⟩:=aD o7;have Li:=(p8 i p hp).loc;have Lj:=(p8 j o ho).loc;have au3:=hN (i+1) j (by omega) (by omega);have hNi:=hN1 i (by omega);constructor
  ·rintro⟨ht,hw⟩;rcases hw with hw|hw
   ·rcases ht with ht|ht
    ·rw[se h2 b hw] at ht;cases ht
    ·exact jW h4 b hw ht
   ·rcases ht with ht|ht
    ·have:=Li.low b ht;omega
    ·omega
  ·rintro⟨hw,ht⟩;rcases hw with hw|hw
   ·rcases ht with ht|ht
    ·rw[se h1 b hw] at ht;cases ht
    ·have:=Li.low b (Li.sub b hw);omega
   ·rcases ht with ht|ht
    ·exact jW h3 b (by have:=T.mem_keys (c.TT j) _root_.id [] b () ht;simpa using this) hw
    ·omega
 have apE:∀i j p o x,i<j->ops[i]? =some p->ops[j]? =some o->¬((jn ops.toList []).getD j 0).testBit i=true->(¬(WE ops p x/\o.dst=some x))/\¬(p.dst=some x/\WE ops o x):=λi j p o x hij hp ho hnb=>by
  obtain⟨h1,h2,h3⟩:=Dk ((xu htm hp ho hij).resolve_left hnb);constructor
  ·rintro⟨ht,hw⟩;rcases ht with ht|ht
   ·exact h2 x hw ht
   ·exact h3 x ht hw
  ·rintro⟨hw,ht⟩;rcases ht with ht|ht
   ·exact h1 x hw ht
   ·exact h3 x hw ht
 have main:∀(fuel:Nat) (listed:Array Bool) (g:T ABlk) (env':T AV) (ρ':Rho) (a':Act) (w':World),listed.size=ops.size->listed.toList.count false<=fuel->
  (∀j,iv listed j->∀i,((jn ops.toList []).getD j 0).testBit i=true->iv listed i)->
  (∀b,g.get b=sb (λm b=>(c.H m).get b) (WF c) (iv listed) b ops.size)->(∀x,env'.get x=sb (λm x=>(c.E m).get x) (WrE ops) (iv listed) x ops.size)->
  Good w0 ρ' g w'->ρ0.le ρ'->ER ρ' nt env' a'.tmps->a'.defers=ds->wpAnyIn (fR rd) 0 P .any ops Q fuel listed a' w':=by
  intro fuel
  have fin:∀(listed:Array Bool) (g:T ABlk) (env':T AV) (ρ':Rho) (a':Act) (w':World),listed.size=ops.size->
   (∀b,g.get b=sb (λm b=>(c.H m).get b) (WF c) (iv listed) b ops.size)->(∀x,env'.get x=sb (λm x=>(c.E m).get x) (WrE ops) (iv listed) x ops.size)->
   Good w0 ρ' g w'->ρ0.le ρ'->ER ρ' nt env' a'.tmps->a'.defers=ds->Region.ready .any ops listed= []->Q .normal a' w':=by
   intro listed g env' ρ' a' w' T' hg he j9 ad7 hE' hd' hr
   have ad6:∀m,∀j,j<m->j<ops.size->iv listed j:=by
    intro m
    induction m with
    |zero=>intro j hj;omega
    |succ m ih=>
     intro j hj hjs;by_cases e:j<m
     ·exact ih j e hjs
     ·have e:j=m:=by omega
      subst e;refine byContradiction λhn=>?_;obtain⟨o,ho⟩:=hop hjs;have:j∈Region.ready .any ops listed:=mem_ready.2 ⟨?_,o,ho,λe he hb=>ih e.on (vq htm ho e he hb) (by have:=vq htm ho e he hb;omega)⟩
      ·rw[hr] at this;cases this
      ·unfold iv at hn;rw[aaW,aaQ (by omega)] at hn⊢;simpa using hn
   have hH:∀b,(c.H ops.size).get b=g.get b:=λb=>by rw[hg b,xt (sameH b) ops.size (aac _) λj hj=>ad6 (j+1) j (by omega) hj]
   have hEE:∀x,(c.E ops.size).get x=env'.get x:=λx=>by rw[he x,xt (sameE x) ops.size (aac _) λj hj=>ad6 (j+1) j (by omega) hj]
   exact hk _ _ ρ' a' w' ac7 aj8 (j9.like hH) ad7 (hE'.like hEE) hd'
  induction fuel with
  |zero=>
   intro listed g env' ρ' a' w' T' al1 hcl hg he j9 ad7 hE' hd'
   have hr:Region.ready .any ops listed= []:=by
    rw[List.eq_nil_iff_forall_not_mem];intro j hj;have:=(mem_ready.1 hj).1;have hn:=AC this;have:false∈listed.toList:=by rw[aaW,aaQ hn.2] at this;have this:listed[j]'hn.2=false:=this;rw[←this];simp
    have:=List.count_pos_iff.2 this;omega
   exact⟨hr,fin listed g env' ρ' a' w' T' hg he j9 ad7 hE' hd' hr⟩
  |succ fuel ih=>
   intro listed g env' ρ' a' w' T' al1 hcl hg he j9 ad7 hE' hd'
   refine⟨fin listed g env' ρ' a' w' T' hg he j9 ad7 hE' hd',λi hi=>?_⟩
   obtain⟨hun,o,ho,ac3⟩:=mem_ready.1 hi
   obtain⟨hnd,hil⟩:=AC hun
   have his:=c9 ho
   have st:=p8 i o ho
   have L:=st.loc
   have ao3:∀j,((jn ops.toList []).getD i 0).testBit j=true->iv listed j:=λj hj=>by
    obtain⟨e,he,hb,hc⟩:=Ro ho hj;rcases hc with hc|hc
    ·subst hc;exact ac3 e he hb
    ·exact hcl _ (ac3 e he hb) j hc
   have later:∀j,i<j->j<ops.size->iv listed j->¬((jn ops.toList []).getD j 0).testBit i=true:=λj _ _ hj hb=>hnd (hcl j hj i hb)
   have sooner:∀j,j<i->¬iv listed j->¬((jn ops.toList []).getD i 0).testBit j=true:=λj _ hj hb=>hj (ao3 j hb)
   have ao4:∀b,TcH c i b->g.get b=(c.H i).get b:=λb hb=>by rw[hg b];exact Az (sameH b) his hnd (λj h1 h2 h3=>(apH j i b h1 his (sooner j h1 h2)).2 ⟨h3,hb⟩) λj h1 h2 h3 h4=>(apH i j b h1 h2 (later j h1 h2 h3)).1 ⟨hb,h4⟩
   have ao5:∀x,WE ops o x->env'.get x=(c.E i).get x:=λx hx=>by
    rw[he x];refine Az (sameE x) his hnd (λj h1 h2 h3=>?_) λj h1 h2 h3 h4=>?_
    ·obtain⟨p,hp,hpx⟩:=h3;exact(apE j i p o x h1 hp ho (sooner j h1 h2)).2 ⟨hpx,hx⟩
    ·obtain⟨p,hp,hpx⟩:=h4;exact(apE i j o p x h1 ho hp (later j h1 h2 h3)).1 ⟨hx,hpx⟩
   obtain⟨g',r1,r2,r3⟩:=L.like g ao4
   have c7:run (tk P en rn ops env' o) (.mk g (c.N i) (c.N i) .leaf []) (λx s=>decide (x=c.V i/\s= .mk g' (c.N (i+1)) (c.N i) (c.TT i) (c.WW i)))=true:=by rw[LX (env':=c.E i) (λt ht=>ao5 t (.inl ht)),r1];simp
   have hSi:SI (.mk g (c.N i) (c.N i) .leaf []):=⟨st.lo,st.hi,aac _,by simp,λb hb=>by simp [T.get] at hb⟩
   have next:∀(ρ2:Rho) (v:Value) (w2:World),Good w0 ρ2 g' w2->ρ'.le ρ2->VR ρ2 (c.V i) v->wpAnyIn (fR rd) 0 P .any ops Q fuel (listed.setIfInBounds i true) (a'.put o.dst v) w2:=by
    intro ρ2 v w2 l7 j6 hv;have hds:=LZ (listed:=listed) (i:=i) hil;refine ih (listed.setIfInBounds i true) g' (Dj o.dst (c.V i) env') ρ2 (a'.put o.dst v) w2 (by simp [T']) ?_ (λj hj q hq=>?_) (λb=>?_) (λx=>?_) l7 (ad7.trans j6) (Rp hv (hE'.mono j6) st.dst) (by cases au4:o.dst <;> exact hd')
    ·rw[Array.toList_setIfInBounds,List.count_set (by simpa using hil)];have e1:listed.toList[i]'(by simpa using hil)=false:=by rw[aaW,aaQ hil] at hun;have hun:listed[i]'hil=false:=hun;simpa using hun
     have:0<listed.toList.count false:=List.count_pos_iff.2 (by rw[←e1];exact abd _);rw[e1,if_pos (by rfl),if_neg (by decide)];omega
    ·rcases(hds j).1 hj with hj|hj
     ·exact(hds q).2 (.inl (hcl j hj q hq))
     ·subst hj;exact(hds q).2 (.inl (ao3 q hq))
    ·by_cases hw:WF c i b
     ·rw[r2 b (ai9 i b his hw)];exact(sd (H:=λm b=>(c.H m).get b) his hds hw λj h1 h2 h3 h4=>(apH i j b h1 h2 (later j h1 h2 h3)).1 ⟨ai9 i b his hw,h4⟩).symm
     ·rw[r3 b hw,hg b];exact(AA (H:=λm b=>(c.H m).get b) hds hw).symm
    ·by_cases hw:WrE ops i x
     ·have hx:o.dst=some x:=by obtain⟨o',ho',hx⟩:=hw;rw[ho] at ho';injection ho' with ho';rw[ho'];exact hx
      have ao6:x+1<2 ^ 64:=by have:x<nt:=st.dst x hx;omega
      have q1:(Dj o.dst (c.V i) env').get x=(c.E (i+1)).get x:=by rw[st.env,Fq hx ao6,Fq hx ao6]
      rw[q1];refine(sd (H:=λm x=>(c.E m).get x) his hds hw λj h1 h2 h3 h4=>?_).symm;obtain⟨p,hp,hpx⟩:=h4;exact(apE i j o p x h1 ho hp (later j h1 h2 h3)).1 ⟨.inr hx,hpx⟩
     ·rw[vu (λe=>hw ⟨o,ho,e⟩),he x];exact(AA (H:=λm x=>(c.E m).get x) hds hw).symm
   unfold wpOpIn
   simp only [ho]
   rcases LW hE' c7 with⟨hw,hr⟩|⟨hw,hr⟩
   ·rw[if_pos hw];refine LV hen hrn hSi j9 hE' hr λav v a9 ρ2 w2 q1 q2 q3 q4 q5=>?_;obtain⟨z1,z2⟩:=of_decide_eq_true (show decide (av=c.V i/\a9= .mk g' (c.N (i+1)) (c.N i) (c.TT i) (c.WW i))=true from q1);subst z1;subst z2;exact next ρ2 v w2 q3 q4 q5
   ·rw[if_neg (by rw[hw];simp)];obtain⟨z1,z2⟩:=of_decide_eq_true (show decide (AV.tup []=c.V i/\St.mk g (c.N i) (c.N i) .leaf []= .mk g' (c.N (i+1)) (c.N i) (c.TT i) (c.WW i))=true from hr);injection z2 with z2;refine⟨λ_ _=>trivial,next ρ' undef w' (by rw[←z2];exact j9) (Rho.le.refl _) (by rw[←z1];exact .tup [] #[] rfl (by simp))⟩
 refine wpIn_region_any hm (main ops.size (Array.replicate ops.size false) h0 env ρ a _ (by simp) (by simp) (λj hj=>?_) (λb=>?_) (λx=>?_) (hG.drawn _) hle hE hd)
 ·unfold iv at hj;rw[aaW,abS] at hj;split at hj <;> simp at hj
 ·have hn:∀j,¬iv (Array.replicate ops.size false) j:=λj hj=>by unfold iv at hj;rw[aaW,abS] at hj;split at hj <;> simp at hj
  rw[nE (a:=0) ops.size (aaq _) λj _ _ hj=>absurd hj (hn j)];show h0.get b=(c.H 0).get b;rw[e2]
 ·have hn:∀j,¬iv (Array.replicate ops.size false) j:=λj hj=>by unfold iv at hj;rw[aaW,abS] at hj;split at hj <;> simp at hj
  rw[nE (a:=0) ops.size (aaq _) λj _ _ hj=>absurd hj (hn j)];show env.get x=(c.E 0).get x;rw[e1]
end
end Go.Sym
